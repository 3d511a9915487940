/- Part of a verified evaluator of the model's code, generic over the program: a run of the evaluator that answers shows what the model's run answers. No conditions of its own. -/
import GoSem.Dispatch
import GoSem.Machine.Frame
set_option linter.unusedSimpArgs false
set_option linter.unusedVariables false
set_option linter.defProp false
open Nat renaming beq → zb, mul → zc, add → zd, ble → ze, blt → zg, mod → zh, div → zi, sub → zj, casesOn → zl
namespace Go.Proofs.YtbddpjboppmnfaaGreatDoor.Ev
theorem oM{p:Prop}(h:p:=by omega):p:=h
noncomputable section
inductive Trie (α:Type) where
 |leaf
 |node (v:Option α) (l r:Trie α)
noncomputable def Trie.get{α:Type}(t:Trie α):Nat→Option α:=
 Trie.rec (motive:=fun _=>Nat→Option α) (fun _=>none) (fun v _ _ l r n=>zl (motive:=fun _=>Option α) n v fun _=>cond (zb (zh n 2) 1) (l (zi n 2)) (r (Nat.pred (zi n 2)))) t
noncomputable def Trie.setF{α:Type}(f:Nat):Trie α→Nat→Option α→Trie α:=
 Nat.rec (motive:=fun _=>Trie α→Nat→Option α→Trie α) (fun t _ _=>t)
  (fun _ ih t n v=>Trie.casesOn (motive:=fun _=>Trie α) t
   (zl (motive:=fun _=>Trie α) n (.node v .leaf .leaf) fun _=>cond (zb (zh n 2) 1) (.node none (ih .leaf (zi n 2) v) .leaf) (.node none .leaf (ih .leaf (Nat.pred (zi n 2)) v)))
   fun w l r=>zl (motive:=fun _=>Trie α) n (.node v l r) fun _=>cond (zb (zh n 2) 1) (.node w (ih l (zi n 2) v) r) (.node w l (ih r (Nat.pred (zi n 2)) v))) f
def Trie.set{α:Type}(t:Trie α)(n:Nat)(v:α):Trie α:=t.setF (Nat.succ n) n (some v)
def Trie.del{α:Type}(t:Trie α)(n:Nat):Trie α:=t.setF (Nat.succ n) n none
inductive Cap where
 |fix (n:Nat)
 |opn (esz:Nat)
inductive AV where
 |bool (b:Bool)
 |int (k:IntKind) (n:Int)
 |str (s:List Nat)
 |ptr (id off:Nat)
 |nilp
 |gptr (g off:Nat)
 |sl (id off len:Nat) (c:Cap)
 |sl0
 |nils
 |map (id:Nat)
 |nilm
 |fn (f:Nat) (fst cap:List AV)
 |nilf
 |yld (l:Nat)
 |ifc (t:Nat) (v:AV)
 |nili
 |agg (cs:List AV)
 |tup (vs:List AV)
 /--a slice whose cells are never written again;ex:its capacity is its length -/
 |lst (n:Nat) (ex:Bool) (cs:List AV)
 /--such a slice that may grow:id says whether it may still -/
 |gr (id esz n:Nat) (cs:List AV)
 /--a pointer to cells that are never written again -/
 |vp (cs:List AV)
 deriving Inhabited
inductive Opd where
 |t (i:Nat)
 |c (v:AV)
 deriving Inhabited
inductive FK where
 |i|s|b
 deriving DecidableEq
inductive EqK where
 |basic|bool|ptr|slice|map|func|iface|ifacec
 |flat (ks:List FK)
 deriving DecidableEq
inductive LK where
 |s|v|m
 deriving DecidableEq
inductive IOp where
 |mv (x:Opd)
 |pick (c a b:Opd)
 |alloc (e:Nat) (zs:List AV)
 |box (e:Nat) (x:Opd)
 |build (zs:List AV) (ps:List (Nat×Nat×Opd))
 |bsl (e:Nat) (zs:List AV) (len:Nat) (ps:List (Nat×Nat×Opd))
 |ld (x:Opd)
 |ldn (n:Nat) (x:Opd)
 |st (n:Nat) (x v:Opd)
 |nck (x:Opd)
 |bin (op:BinOp) (x y:Opd)
 |eqk (k:EqK) (neg:Bool) (x y:Opd)
 |un (op:UnOp) (x:Opd)
 |ci (k:IntKind) (x:Opd)
 |csb (e:Nat) (x:Opd)
 |cbs (x:Opd)
 |mif (t:Nat) (x:Opd)
 |mfn (f:Nat) (fst cap:List Opd)
 |mmap
 |msl (e esz bytes:Nat) (zs:List AV) (l c:Opd)
 |sls (x:Opd) (lo hi:Option Opd)
 |slv (esz:Nat) (x:Opd) (lo hi mx:Option Opd)
 |fa (off:Nat) (x:Opd)
 |ia (esz:Nat) (x i:Opd)
 |iaa (n esz:Nat) (x i:Opd)
 |ixs (x i:Opd)
 |lk (f:FK) (z:AV) (ok:Bool) (m k:Opd)
 |mu (f:FK) (m k v:Opd)
 |md (f:FK) (m k:Opd)
 |rs (x:Opd)
 |ns (it:Opd)
 |rm (x:Opd)
 |nm (it:Opd)
 |en (it:Opd)
 |ex (x:Opd) (i:Nat)
 |call (f:Nat) (args:List Opd)
 |cv (x:Opd) (args:List Opd)
 |len (k:LK) (x:Opd)
 |cap (x:Opd)
 |app (e esz bytes:Nat) (x y:Opd)
 |appz (e esz bytes:Nat) (zs:List AV) (x y:Opd)
 |ibs (x c:Opd)
 |nes (x:Opd)
 |stk
 deriving Inhabited
structure SOper where
 dst:Option Nat
 op:IOp
 guard:Option (Nat×Bool)
 deriving Inhabited
structure DOper where
 o:SOper
 deps:Nat
 deriving Inhabited
inductive ICode where
 |skip
 |reg (ops:List SOper)
 |regd (ops:List DOper)
 |seq (a b:ICode)
 |cond (c:Opd) (a b:ICode)
 |block (id:Nat) (b:ICode)
 |loop (b:ICode)
 |exit (id:Nat)
 |ret
 |rf (g:Opd) (ps:List Nat) (assign body:ICode)
 |stk
 deriving Inhabited
inductive RV where
 |t (i:Nat)
 |c1 (a:Nat)
 |cn (a n:Nat)
 deriving Inhabited
structure IFunc where
 ntmps:Nat
 res:List RV
 body:ICode
 deriving Inhabited
inductive Res where
 |norm
 |exit (id:Nat)
 |ret
 deriving DecidableEq
inductive LSt where
 |ready|busy|done|exhausted
 deriving DecidableEq
inductive AObj where
 |row (e:Nat) (cells:List AV) (ext fz:Bool)
 |map (es:List (AV×AV×Nat)) (clock:Nat)
 /--a map of whole numbers,in whatever order -/
 |umap (es:List (Int×AV))
 |siter (s:List Nat) (pos:Nat)
 |miter (m:Option Nat) (since:Nat) (seen:List Nat) (stepped:Nat)
 |loop (st:LSt) (pend:Option Res) (tm:Trie AV) (ps:List Nat) (assign body:ICode) (defers:Nat)
 |dfd
 |dfd0
 /--a row that was there before:looked at alone -/
 |giv (cells:List AV)
 /--a row that may grow behind its first cells,which are never written again -/
 |app (e:Nat) (cells:List AV)
def qO:AObj→Bool
 |.giv _=>true
 |_=>false
def Ky:AObj→Bool
 |.app _ _=>true
 |_=>false
structure St where
 objs:Trie AObj
 next:Nat
 wm:Nat
 hide:List (Nat×Nat)
 only:Option (Nat×List Nat)
 /--is the function one whose rows are frozen where they are made? -/
 md:Bool
structure Fr where
 tm:Trie AV
 df:List Nat
structure Env where
 funs:Trie IFunc
 globs:List (List AV)
 lies:List (Nat×Nat×Nat)
 /--which functions freeze their rows,and leave none of their own behind -/
 pure:Nat→Bool
 /--are maps made without an order? -/
 um:Bool
mutual
def wq:AV→Bool
 |.bool _=>true
 |.int _ _=>true
 |.str _=>true
 |.nilp=>true
 |.gptr _ _=>true
 |.sl0=>true
 |.nils=>true
 |.nilm=>true
 |.nilf=>true
 |.nili=>true
 |.lst _ _ _=>true
 |.vp _=>true
 |.ifc _ v=>wq v
 |.fn _ a c=>xY a&&xY c
 |.agg cs=>xY cs
 |.tup vs=>xY vs
 |.ptr _ _=>false
 |.sl _ _ _ _=>false
 |.map _=>false
 |.yld _=>false
 |.gr _ _ _ _=>false
def xY:List AV→Bool
 |[]=>true
 |v::r=>wq v&&xY r
end
def hid:List (Nat×Nat)→Nat→Bool
 |[],_=>false
 |p::r,n=>bif ze p.1 n then (bif zg n p.2 then true else hid r n)else hid r n
def pI:Nat→List Nat→Bool
 |_,[]=>false
 |n,m::r=>bif zb n m then true else pI n r
def St.get(s:St)(id:Nat):Option AObj:=
 match s.only with
 |none=>bif hid s.hide id then none else s.objs.get id
 |some p=>bif hid s.hide id then none else bif ze p.1 id then s.objs.get id else bif pI id p.2 then s.objs.get id else none
def St.alloc(s:St)(o:AObj):St:={s with objs:=s.objs.set s.next o,next:=Nat.succ s.next}
def u0(m id:Nat):Nat:=Nat.lor m (Nat.shiftLeft 1 id)
def St.put(s:St)(id:Nat)(o:AObj):St:={s with objs:=s.objs.set id o,wm:=u0 s.wm id}
def St.del(s:St)(id:Nat):St:={s with objs:=s.objs.del id,wm:=u0 s.wm id}
def wj:Nat→List AV→Option (List AV)
 |0,_=>some []
 |_+1,[]=>none
 |n+1,v::r=>match wj n r with
  |some l=>some (v::l)
  |none=>none
def wH:Nat→List AV→List AV
 |0,l=>l
 |_+1,[]=>[]
 |n+1,_::r=>wH n r
def tkN:Nat→List AV→List AV
 |0,_=>[]
 |_+1,[]=>[]
 |n+1,v::r=>v::tkN n r
def cut(l:List AV)(off n:Nat):Option (List AV):=wj n (wH off l)
def XG:List AV→List AV→Option (List AV)
 |l,[]=>some l
 |[],_::_=>none
 |_::l,v::vs=>match XG l vs with
  |some r=>some (v::r)
  |none=>none
def ur:List AV→Nat→List AV→Option (List AV)
 |l,0,vs=>XG l vs
 |[],_+1,vs=>match vs with
  |[]=>some []
  |_::_=>none
 |v::l,n+1,vs=>match ur l n vs with
  |some r=>some (v::r)
  |none=>none
def reps:Nat→List AV→List AV
 |0,_=>[]
 |n+1,z=>z++reps n z
def qg{α:Type}:List α→Nat
 |[]=>0
 |_::r=>Nat.succ (qg r)
def AV.cells:AV→List AV
 |.agg cs=>cs
 |v=>[v]
def Opd.ev(tm:Trie AV):Opd→Option AV
 |.t i=>tm.get i
 |.c v=>some v
def evL(tm:Trie AV):List Opd→Option (List AV)
 |[]=>some []
 |x::r=>match x.ev tm,evL tm r with
  |some v,some vs=>some (v::vs)
  |_,_=>none
def evO(tm:Trie AV):Option Opd→Option (Option AV)
 |none=>some none
 |some x=>match x.ev tm with
  |some v=>some (some v)
  |none=>none
def ltI:Int→Int→Bool
 |.ofNat a,.ofNat b=>zg a b
 |.ofNat _,.negSucc _=>false
 |.negSucc _,.ofNat _=>true
 |.negSucc a,.negSucc b=>zg b a
def eqI:Int→Int→Bool
 |.ofNat a,.ofNat b=>zb a b
 |.ofNat _,.negSucc _=>false
 |.negSucc _,.ofNat _=>false
 |.negSucc a,.negSucc b=>zb a b
def Jr:IntKind→Nat
 |.i8=>128|.i16=>32768|.i32=>2147483648|.i64=>9223372036854775808
 |.u8=>256|.u16=>65536|.u32=>4294967296|.u64=>18446744073709551616
def vW(k:IntKind)(n:Int):Int:=
 match n with
 |.ofNat a=>bif zg a (Jr k)then .ofNat a else k.wrap n
 |.negSucc _=>k.wrap n
def uG:IntKind→IntKind→Bool
 |.i8,.i8|.i16,.i16|.i32,.i32|.i64,.i64|.u8,.u8|.u16,.u16|.u32,.u32|.u64,.u64=>true
 |_,_=>false
def bits(op:BinOp)(k:IntKind)(x y:Int):Option Int:=
 match op with
 |.and=>some (k.wrap ((BitVec.ofInt k.bits x)&&& (BitVec.ofInt k.bits y)).toNat)
 |.or=>some (k.wrap ((BitVec.ofInt k.bits x)|||(BitVec.ofInt k.bits y)).toNat)
 |.xor=>some (k.wrap ((BitVec.ofInt k.bits x)^^^(BitVec.ofInt k.bits y)).toNat)
 |.andNot=>some (k.wrap ((BitVec.ofInt k.bits x)&&& ~~~(BitVec.ofInt k.bits y)).toNat)
 |_=>none
def ub(op:BinOp)(k:IntKind)(x:Int)(k':IntKind)(y:Int):Option AV:=
 match op with
 |.shl=>bif ltI y 0 then none else some (.int k (vW k (x*2^(min y.toNat k.bits))))
 |.shr=>bif ltI y 0 then none else some (.int k (x.fdiv (2^(min y.toNat k.bits))))
 | _=>bif uG k k' then
  match op with
  |.add=>some (.int k (vW k (Int.add x y)))
  |.sub=>some (.int k (vW k (Int.sub x y)))
  |.mul=>some (.int k (vW k (Int.mul x y)))
  |.quo=>bif eqI y 0 then none else some (.int k (vW k (x.tdiv y)))
  |.rem=>bif eqI y 0 then none else some (.int k (x.tmod y))
  |.eql=>some (.bool (eqI x y))
  |.neq=>some (.bool (!eqI x y))
  |.lss=>some (.bool (ltI x y))
  |.leq=>some (.bool (!ltI y x))
  |.gtr=>some (.bool (ltI y x))
  |.geq=>some (.bool (!ltI x y))
  |op=>match bits op k x y with
   |some r=>some (.int k r)
   |none=>none
  else none
def eqS:List Nat→List Nat→Bool
 |[],[]=>true
 |a::x,b::y=>bif zb a b then eqS x y else false
 |_,_=>false
def ltS:List Nat→List Nat→Bool
 |_,[]=>false
 |[],_::_=>true
 |a::x,b::y=>bif zg a b then true else bif zb a b then ltS x y else false
def UN:Nat→List Nat→List Nat
 |0,_=>[]
 |_+1,[]=>[]
 |n+1,v::r=>v::UN n r
def JT:Nat→List Nat→List Nat
 |0,l=>l
 |_+1,[]=>[]
 |n+1,_::r=>JT n r
def zuy:List Nat→Nat→Option Nat
 |[],_=>none
 |v::_,0=>some v
 |_::r,n+1=>zuy r n
def zvl(op:BinOp)(x y:List Nat):Option AV:=
 match op with
 |.add=>bif zg (zd (qg x) (qg y)) 9223372036854775808 then some (.str (x++y))else none
 |.eql=>some (.bool (eqS x y))
 |.neq=>some (.bool (!eqS x y))
 |.lss=>some (.bool (ltS x y))
 |.leq=>some (.bool (ltS x y||eqS x y))
 |.gtr=>some (.bool (!(ltS x y||eqS x y)))
 |.geq=>some (.bool (!ltS x y))
 |_=>none
def eq1(f:FK)(a b:AV):Option Bool:=
 match f with
 |.i=>match a,b with
  |.int k m,.int k' n=>bif uG k k' then some (eqI m n)else none
  |_,_=>none
 |.s=>match a,b with
  |.str s,.str t=>some (eqS s t)
  |_,_=>none
 |.b=>match a,b with
  |.bool p,.bool q=>some (p==q)
  |_,_=>none
def lh:List FK→List AV→List AV→Option Bool
 |[],[],[]=>some true
 | f::fs,a::x,b::y=>
  match eq1 f a b with
  |some true=>lh fs x y
  |some false=>match lh fs x y with
   |some _=>some false
   |none=>none
  |none=>none
 |_,_,_=>none
def eqV(k:EqK)(a b:AV):Option Bool:=
 match k with
 |.bool=>match a,b with
  |.bool p,.bool q=>some (p==q)
  |_,_=>none
 |.ptr=>match a,b with
  |.nilp,.nilp=>some true
  |.nilp,.ptr _ _=>some false
  |.ptr _ _,.nilp=>some false
  |.nilp,.vp _=>some false
  |.vp _,.nilp=>some false
  |.ptr i o,.ptr i' o'=>bif zb i i' then some (zb o o')else none
  |_,_=>none
 |.slice=>match a,b with
  |.nils,.nils=>some true
  |.nils,.sl _ _ _ _=>some false
  |.sl _ _ _ _,.nils=>some false
  |.nils,.sl0=>some false
  |.sl0,.nils=>some false
  |.nils,.lst n _ _=>bif zb n 0 then none else some false
  |.lst n _ _,.nils=>bif zb n 0 then none else some false
  |.nils,.gr _ _ _ _=>some false
  |.gr _ _ _ _,.nils=>some false
  |_,_=>none
 |.map=>match a,b with
  |.nilm,.nilm=>some true
  |.nilm,.map _=>some false
  |.map _,.nilm=>some false
  |_,_=>none
 |.func=>match a,b with
  |.nilf,.nilf=>some true
  |.nilf,.fn _ _ _=>some false
  |.fn _ _ _,.nilf=>some false
  |_,_=>none
 |.iface=>match a,b with
  |.nili,.ifc _ _=>some false
  |.ifc _ _,.nili=>some false
  |_,_=>none
 |.ifacec=>match a,b with
  |.nili,.nili=>some true
  |.nili,.ifc _ _=>some false
  |.ifc _ _,.nili=>some false
  |_,_=>none
 |.flat ks=>match a,b with
  |.agg x,.agg y=>lh ks x y
  |_,_=>none
 |.basic=>none
def idx(i:AV)(n:Nat):Option Nat:=
 match i with
 |.int _ (.ofNat a)=>bif zg a n then some a else none
 |_=>none
def bnd(d:Nat)(i:Option AV)(n:Nat):Option Nat:=
 match i with
 |none=>some d
 |some (.int _ (.ofNat a))=>bif ze a n then some a else none
 |_=>none
def vG(G:List (List AV))(s:St)(p:AV)(n:Nat):Option (List AV):=
 match p with
 |.ptr id off=>match s.get id with
  |some (.row _ cs _ _)=>cut cs off n
  |some (.giv cs)=>cut cs off n
  |_=>none
 |.gptr g off=>match G[g]? with
  |some cs=>cut cs off n
  |none=>none
 |.vp cs=>wj n cs
 |_=>none
def ua:AV→Bool
 |.agg _=>false
 |.tup _=>false
 |_=>true
def wd:List AV→Bool
 |[]=>true
 |v::r=>bif ua v then wd r else false
def jc(s:St)(p:AV)(vs:List AV):Option St:=
 match p with
 | .ptr id off=>match s.get id with
  |some (.row t cs e fz)=>bif fz|| !wd vs then none else match ur cs off vs with
   |some cs'=>some (s.put id (.row t cs' e fz))
   |none=>none
  |_=>none
 |_=>none
def jF(zs:List AV)(tm:Trie AV):List (Nat×Nat×Opd)→Option (List AV)
 |[]=>some zs
 | p::r=>match p.2.2.ev tm with
  | some v=>bif zb (qg v.cells) p.2.1&&ze 1 p.2.1 then
    match ur zs p.1 v.cells with
    |some zs'=>jF zs' tm r
    |none=>none
   else none
  |none=>none
def j6:AV→Option Nat
 |.nils=>some 0
 |.sl0=>some 0
 |.sl _ _ n _=>some n
 |.str s=>some (qg s)
 |.lst n _ _=>some n
 |.gr _ _ n _=>some n
 |_=>none
def ww:List Nat→List AV
 |[]=>[]
 |b::r=>.int .u8 (.ofNat b)::ww r
def qC(s:St)(esz n:Nat):AV→Option (List AV)
 |.nils=>some []
 |.sl0=>some []
 |.sl id off _ _=>match s.get id with
  |some (.row _ cs _ _)=>cut cs off (zc n esz)
  |some (.giv cs)=>cut cs off (zc n esz)
  |_=>none
 |.str t=>bif zb esz 1 then some (ww (UN n t))else none
 |.lst _ _ cs=>wj (zc n esz) cs
 |.gr _ _ _ cs=>wj (zc n esz) cs
 |_=>none
def grow(s:St)(t esz bytes:Nat)(cs:List AV)(need:Nat):Option (AV×St):=
 bif ze (zc (zc 2 need) bytes) 281474976710656&&ze 1 esz&&zg need 9223372036854775808 then
  some (.sl s.next 0 need (.opn esz),s.alloc (.row t cs true false))
 else none
def lE(s:St)(t esz bytes:Nat)(cs:List AV)(need:Nat):Option (AV×St):=
 bif ze (zc (zc 2 need) bytes) 281474976710656&&ze 1 esz&&zg need 9223372036854775808&&xY cs then
  some (.gr s.next esz need cs,s.alloc (.app t cs))
 else none
def pM (s:St)(t esz bytes:Nat)(x:AV)(n:Nat)(new:List AV):Option (AV×St):=
 match x with
 |.nils=>bif s.md&&xY new then lE s t esz bytes new n else grow s t esz bytes new n
 | .lst k ex cs=>bif ex then match wj (zc k esz) cs with
   |some old=>lE s t esz bytes (old++new) (zd k n)
   |none=>none
  else none
 |.gr id esz' k cs=>match s.get id with
  |some (.app t0 cells)=>bif zb esz esz'&&zb t0 t&&zb (qg cells) (qg cs)&&wd new then lE (s.del id) t esz bytes (cs++new) (zd k n)else none
  |_=>none
 | .sl id off len c=>match s.get id with
  | some (.row t0 cs e fz)=>
   match c with
   | .fix k=>bif ze (zd len n) k then
     match jc s (.ptr id (zd off (zc len esz))) new with
     |some s'=>some (.sl id off (zd len n) (.fix k),s')
     |none=>none
    else match cut cs off (zc len esz)with
     |some old=>grow s t esz bytes (old++new) (zd len n)
     |none=>none
   | .opn esz'=>bif zb esz esz'&&e&& !fz then
     bif ze (zd off (zc (zd len n) esz)) (qg cs)then
      match jc s (.ptr id (zd off (zc len esz))) new with
      |some s'=>some (.sl id off (zd len n) (.opn esz),s')
      |none=>none
     else bif wd new&&zb t0 t then match cut cs off (zc len esz)with
       |some old=>grow (s.del id) t esz bytes (old++new) (zd len n)
       |none=>none
      else none
    else none
  |_=>none
 |_=>none
def ztT(s:St)(x:AV):Option (AV×St):=
 match x with
 |.nils=>some (.nils,s)
 |.sl0=>some (.sl0,s)
 |.sl id off len c=>match c with
  |.fix k=>bif ze len k then some (.sl id off len c,s)else none
  |.opn _=>some (.sl id off len c,s)
 |.lst n ex cs=>some (.lst n ex cs,s)
 |.gr id esz n cs=>some (.gr id esz n cs,s)
 |_=>none
def jg(s:St)(t esz bytes:Nat)(x y:AV):Option (AV×St):=
 match j6 y with
 |none=>none
 |some 0=>ztT s x
 |some (Nat.succ n)=>match qC s esz (Nat.succ n) y with
  |none=>none
  |some new=>pM s t esz bytes x (Nat.succ n) new
def Yb(s:St)(t esz bytes:Nat)(zs:List AV)(x y:AV):Option (AV×St):=
 match y with
 |.int .i64 (.ofNat 0)=>none
 |.int .i64 (.ofNat (Nat.succ n))=>bif ze (zc (Nat.succ n) bytes) 281474976710656&&zg n 9223372036854775807 then pM s t esz bytes x (Nat.succ n) (reps (Nat.succ n) zs)else none
 |_=>none
def jO(f:FK)(k:AV):List (AV×AV×Nat)→Nat→Option (Option (Nat×AV))
 |[],_=>some none
 |e::es,i=>match eq1 f k e.1 with
  |some true=>some (some (i,e.2.1))
  |some false=>jO f k es (Nat.succ i)
  |none=>none
def zxk(v:AV)(k:AV):List (AV×AV×Nat)→Nat→List (AV×AV×Nat)
 |[],_=>[]
 |e::es,0=>(k,v,e.2.2)::es
 |e::es,i+1=>e::zxk v k es i
def zyi:List (AV×AV×Nat)→Nat→List (AV×AV×Nat)
 |[],_=>[]
 |_::es,0=>es
 |e::es,i+1=>e::zyi es i
def vQ(seen:List Nat):List (AV×AV×Nat)→List (AV×AV×Nat)
 |[]=>[]
 |e::es=>bif pI e.2.2 seen then vQ seen es else e::vQ seen es
def Q4(last:Nat):List (AV×AV×Nat)→Bool
 |[]=>true
 |e::es=>bif ze last e.2.2 then Q4 last es else false
def Xo(b:Nat):List (AV×AV×Nat)→Option (AV×AV)
 |[]=>none
 |e::es=>bif zb e.2.2 b then some (e.1,e.2.1)else Xo b es
def qk:AV:=.tup []
def gH(n:Int):List (Int×AV)→Option AV
 |[]=>none
 |p::r=>bif eqI p.1 n then some p.2 else gH n r
def pq(n:Int)(v:AV):List (Int×AV)→List (Int×AV)
 |[]=>[(n,v)]
 |p::r=>bif eqI p.1 n then (n,v)::r else p::pq n v r
def Xj(n:Int):List (Int×AV)→List (Int×AV)
 |[]=>[]
 |p::r=>bif eqI p.1 n then r else p::Xj n r
def lN(s:St):Option AV→Option (AV×St)
 |some v=>some (v,s)
 |none=>none
def Gt(c a b:Option AV):Option AV:=
 match c with
 |some (.bool true)=>a
 |some (.bool false)=>b
 |_=>none
def Zi:List AV→Option AV
 |v::_=>some v
 |[]=>none
def vLd(G:List (List AV))(s:St)(p:AV):Option AV:=
 match vG G s p 1 with
 |some l=>Zi l
 |none=>none
def ZH(G:List (List AV))(s:St)(n:Nat)(p:AV):Option AV:=
 match vG G s p n with
 |some cs=>some (.agg cs)
 |none=>none
def oSt(s:St)(n:Nat)(p w:AV):Option (AV×St):=
 bif zb (qg w.cells) n then
  match jc s p w.cells with
  |some s'=>some (qk,s')
  |none=>none
 else none
def zov(x:AV):Option AV:=
 match x with
 |.ptr i o=>some (.ptr i o)
 |.gptr g o=>some (.gptr g o)
 |.fn f a c=>some (.fn f a c)
 |.yld l=>some (.yld l)
 |.map m=>some (.map m)
 |.vp cs=>some (.vp cs)
 |_=>none
def ztD(op:BinOp)(x y:AV):Option AV:=
 match x with
 |.int k a=>match y with
  |.int k' b=>ub op k a k' b
  |_=>none
 |.str a=>match y with
  |.str b=>zvl op a b
  |_=>none
 |_=>none
def pL(k:EqK)(neg:Bool)(a b:AV):Option AV:=
 match eqV k a b with
 |some r=>some (.bool (bif neg then !r else r))
 |none=>none
def vUn(op:UnOp)(x:AV):Option AV:=
 match op with
 |.neg=>match x with
  |.int k n=>some (.int k (vW k (Int.sub 0 n)))
  |_=>none
 |.not=>match x with
  |.bool b=>some (.bool (!b))
  |_=>none
 | .xor=>match x with
  |.int k n=>match bits .xor k (bif k.signed then -1 else k.max) n with
   |some r=>some (.int k r)
   |none=>none
  |_=>none
 |.plus=>none
def vCi(k:IntKind)(x:AV):Option AV:=
 match x with
 |.int _ n=>some (.int k (vW k n))
 |_=>none
def Qz(s:St)(e:Nat)(x:AV):Option (AV×St):=
 match x with
 | .str t=>bif zg (qg t) 9223372036854775808 then
   bif s.md then some (.lst (qg t) false (ww t),s)else some (.sl s.next 0 (qg t) (.opn 1),s.alloc (.row e (ww t) true false))
  else none
 |_=>none
def uT:List AV→Option (List Nat)
 |[]=>some []
 | v::r=>match v with
  | .int .u8 (.ofNat n)=>bif zg n 256 then
    match uT r with
    |some l=>some (n::l)
    |none=>none
   else none
  |_=>none
def XV:Option (List Nat)→Option AV
 |some b=>some (.str b)
 |none=>none
def uf:Option (List AV)→Option (List Nat)
 |some l=>uT l
 |none=>none
def ztF(s:St)(x:AV):Option AV:=
 match x with
 |.nils=>some (.str [])
 |.sl0=>some (.str [])
 |.sl id off n _=>match s.get id with
  |some (.row _ cs _ _)=>XV (uf (cut cs off n))
  |some (.giv cs)=>XV (uf (cut cs off n))
  |_=>none
 |.lst n _ cs=>XV (uf (wj n cs))
 |.gr _ _ n cs=>XV (uf (wj n cs))
 |_=>none
def qT(c:Nat):Bool:=bif zg c 55296 then true else (ze 57344 c&&ze c 1114111)
def Jb(b:Nat):Bool:=zb (zi b 64) 2
def Xg(b0 b1:Nat):Nat:=zd (zc (zh b0 32) 64) (zh b1 64)
def Z9(b0 b1 b2:Nat):Nat:=zd (zd (zc (zh b0 16) 4096) (zc (zh b1 64) 64)) (zh b2 64)
def Vx(b0 b1 b2 b3:Nat):Nat:=zd (zd (zd (zc (zh b0 8) 262144) (zc (zh b1 64) 4096)) (zc (zh b2 64) 64)) (zh b3 64)
def uB(l:List Nat):Nat×Nat:=
 match l with
 |[]=>(65533,1)
 | b0::r=>bif zg b0 128 then (b0,1)else
  match r with
  |[]=>(65533,1)
  | b1::r1=>bif zb (zi b0 32) 6&&Jb b1 then (bif ze 128 (Xg b0 b1)then (Xg b0 b1,2)else (65533,1))else
   match r1 with
   |[]=>(65533,1)
   |b2::r2=>bif zb (zi b0 16) 14&&Jb b1&&Jb b2 then (bif ze 2048 (Z9 b0 b1 b2)&&qT (Z9 b0 b1 b2)then (Z9 b0 b1 b2,3)else (65533,1))else
    match r2 with
    |[]=>(65533,1)
    |b3::_=>bif zb (zi b0 8) 30&&Jb b1&&Jb b2&&Jb b3 then (bif ze 65536 (Vx b0 b1 b2 b3)&&qT (Vx b0 b1 b2 b3)then (Vx b0 b1 b2 b3,4)else (65533,1))else (65533,1)
def Jn(s:St)(e bytes:Nat)(zs:List AV)(l c:AV):Option (AV×St):=
 match l with
 | .int .i64 (.ofNat l)=>match c with
  | .int .i64 (.ofNat c)=>
   bif ze l c&&ze (zc c bytes) 281474976710656&&zg c 9223372036854775808 then
    some (.sl s.next 0 l (.fix c),s.alloc (.row e (reps c zs) false false))
   else none
  |_=>none
 |_=>none
def zzA(x:AV)(lo hi:Option AV):Option AV:=
 match x with
 | .str t=>match bnd (qg t) hi (qg t)with
  |some h=>match bnd 0 lo h with
   |some l=>some (.str (UN (zj h l) (JT l t)))
   |none=>none
  |none=>none
 |_=>none
def zxC(esz n:Nat)(ex:Bool)(cs:List AV)(lo hi mx:Option AV):Option AV:=
 match mx with
 | none=>match bnd n hi n with
  |some h=>match bnd 0 lo h with
   |some l=>some (.lst (zj h l) (ex&&zb h n) (tkN (zc (zj h l) esz) (wH (zc l esz) cs)))
   |none=>none
  |none=>none
 | some m=>match bnd n (some m) n with
  | some m=>match bnd n hi m with
   |some h=>match bnd 0 lo h with
    |some l=>some (.lst (zj h l) (zb h m) (tkN (zc (zj h l) esz) (wH (zc l esz) cs)))
    |none=>none
   |none=>none
  |none=>none
def ztG(id off esz m len:Nat)(lo hi:Option AV):Option AV:=
 match bnd len hi m with
 |some h=>match bnd 0 lo h with
  |some l=>some (.sl id (bif zb m l then off else zd off (zc l esz)) (zj h l) (.fix (zj m l)))
  |none=>none
 |none=>none
def QG (esz:Nat)(x:AV)(lo hi mx:Option AV):Option AV:=
 match x with
 | .nils=>match bnd 0 mx 0 with
  | some _=>match bnd 0 hi 0 with
   |some _=>match bnd 0 lo 0 with
    |some _=>some .nils
    |none=>none
   |none=>none
  |none=>none
 | .sl0=>match mx with
  | none=>match bnd 0 hi 0 with
   |some _=>match bnd 0 lo 0 with
    |some _=>some .sl0
    |none=>none
   |none=>none
  |some _=>none
 | .sl id off len c=>match c with
  |.fix c=>match bnd c mx c with
   |some m=>ztG id off esz m len lo hi
   |none=>none
  | .opn e=>bif zb e esz then
    match mx with
    | none=>match bnd len hi len with
     | some h=>match bnd 0 lo h with
      |some l=>bif zb l 0 then some (.sl id off h (.opn e))
       else bif zg l len then some (.sl id (zd off (zc l esz)) (zj h l) (.opn e))
       else bif zb h l then some .sl0 else none
      |none=>none
     |none=>none
    |some mx=>match bnd len (some mx) len with
     |some m=>ztG id off esz m len lo hi
     |none=>none
   else none
 |.lst n ex cs=>zxC esz n ex cs lo hi mx
 |.gr _ e n cs=>bif zb e esz then zxC esz n false cs lo hi mx else none
 |_=>none
def vFa(off:Nat)(x:AV):Option AV:=
 match x with
 |.ptr id o=>some (.ptr id (zd o off))
 |.gptr g o=>some (.gptr g (zd o off))
 |.vp cs=>some (.vp (wH off cs))
 |_=>none
def Y5:Option (List AV)→Option AV
 |some l=>some (.agg l)
 |none=>none
def vFd(off:Nat)(n:Option Nat)(x:AV):Option AV:=
 match x with
 |.agg cs=>match n with
  |none=>Zi (wH off cs)
  |some n=>Y5 (cut cs off n)
 |_=>none
def vIa(esz:Nat)(x i:AV):Option AV:=
 match x with
 |.sl id off len _=>match idx i len with
  |some k=>some (.ptr id (zd off (zc k esz)))
  |none=>none
 |.lst n _ cs=>match idx i n with
  |some k=>some (.vp (wH (zc k esz) cs))
  |none=>none
 | .gr _ e n cs=>bif zb e esz then match idx i n with
   |some k=>some (.vp (wH (zc k esz) cs))
   |none=>none
  else none
 |_=>none
def zzy(n esz:Nat)(x i:AV):Option AV:=
 match x with
 |.ptr id off=>match idx i n with
  |some k=>some (.ptr id (zd off (zc k esz)))
  |none=>none
 |.gptr g off=>match idx i n with
  |some k=>some (.gptr g (zd off (zc k esz)))
  |none=>none
 |.vp cs=>match idx i n with
  |some k=>some (.vp (wH (zc k esz) cs))
  |none=>none
 |_=>none
def H3:Option Nat→Option AV
 |some b=>some (.int .u8 (.ofNat b))
 |none=>none
def zoq(x i:AV):Option AV:=
 match x with
 |.str t=>match i with
  |.int _ (.ofNat i)=>H3 (zuy t i)
  |_=>none
 |_=>none
def XA(z:AV)(ok:Bool):Option (Option (Nat×AV))→Option AV
 |some (some p)=>some (bif ok then .tup [p.2,.bool true]else p.2)
 |some none=>some (bif ok then .tup [z,.bool false]else z)
 |none=>none
def lkU(z:AV)(ok:Bool):Option AV→AV
 |some v=>bif ok then .tup [v,.bool true]else v
 |none=>bif ok then .tup [z,.bool false]else z
def vLk(s:St)(f:FK)(z:AV)(ok:Bool)(m k:AV):Option AV:=
 match m with
 |.nilm=>XA z ok (some none)
 | .map id=>match s.get id with
  |some (.map es _)=>XA z ok (jO f k es 0)
  | some (.umap es)=>match f with
   |.i=>match k with
    |.int .i64 n=>some (lkU z ok (gH n es))
    |_=>none
   |_=>none
  |_=>none
 |_=>none
def oMu(s:St)(f:FK)(m k v:AV):Option (AV×St):=
 match m with
 | .map id=>match s.get id with
  |some (.map es clock)=>match jO f k es 0 with
   |some (some p)=>some (qk,s.put id (.map (zxk v k es p.1) clock))
   |some none=>some (qk,s.put id (.map (es++[(k,v,clock)]) (Nat.succ clock)))
   |none=>none
  | some (.umap es)=>match f with
   |.i=>match k with
    |.int .i64 n=>some (qk,s.put id (.umap (pq n v es)))
    |_=>none
   |_=>none
  |_=>none
 |_=>none
def oMd(s:St)(f:FK)(m k:AV):Option (AV×St):=
 match m with
 |.nilm=>some (qk,s)
 | .map id=>match s.get id with
  |some (.map es clock)=>match jO f k es 0 with
   |some (some p)=>some (qk,s.put id (.map (zyi es p.1) clock))
   |some none=>some (qk,s.put id (.map es clock))
   |none=>none
  | some (.umap es)=>match f with
   |.i=>match k with
    |.int .i64 n=>some (qk,s.put id (.umap (Xj n es)))
    |_=>none
   |_=>none
  |_=>none
 |_=>none
def oRs(s:St)(x:AV):Option (AV×St):=
 match x with
 |.str t=>some (.ptr s.next 0,s.alloc (.siter t 0))
 |_=>none
def oNs(s:St)(it:AV):Option (AV×St):=
 match it with
 | .ptr id 0=>match s.get id with
  |some (.siter t pos)=>match JT pos t with
   |b::r=>some (.tup [.bool true,.int .i64 (.ofNat pos),.int .i32 (.ofNat (uB (b::r)).1)],s.put id (.siter t (zd pos (uB (b::r)).2)))
   |[]=>some (.tup [.bool false],s)
  |_=>none
 |_=>none
def oRm(s:St)(x:AV):Option (AV×St):=
 match x with
 |.nilm=>some (.ptr s.next 0,s.alloc (.miter none 0 [] 0))
 |.map id=>match s.get id with
  |some (.map _ clock)=>some (.ptr s.next 0,s.alloc (.miter (some id) clock [] clock))
  |_=>none
 |_=>none
def pD(s:St)(id m since:Nat)(seen:List Nat)(clock:Nat):List (AV×AV×Nat)→Option (AV×St)
 |[]=>some (.tup [.bool false],s)
 |e::r=>match r with
  |[]=>bif zg e.2.2 since then some (.tup [.bool true,e.1,e.2.1],s.put id (.miter (some m) since (seen++[e.2.2]) clock))else none
  |_::_=>none
def Pp(seen:List Nat)(last:Nat)(es:List (AV×AV×Nat)):Bool:=
 match seen with
 |[]=>false
 |_::_=>match es with
  |[]=>false
  |_::_=>Q4 last es
def oNm(s:St)(it:AV):Option (AV×St):=
 match it with
 | .ptr id 0=>match s.get id with
  |some (.miter none _ _ _)=>some (.tup [.bool false],s)
  |some (.miter (some m) since seen last)=>match s.get m with
   |some (.map es clock)=>bif Pp seen last es then none else pD s id m since seen clock (vQ seen es)
   |_=>none
  |_=>none
 |_=>none
def Yf:List Nat→Option Nat
 |[]=>none
 |n::r=>match r with
  |[]=>some n
  |_::_=>Yf r
def zwQ:Option (AV×AV)→Option AV
 |some p=>some (.tup [p.1,p.2])
 |none=>none
def vEn(s:St)(it:AV):Option AV:=
 match it with
 | .ptr id 0=>match s.get id with
  | some (.miter (some m) _ seen stepped)=>match Yf seen with
   |some b=>match s.get m with
    |some (.map es clock)=>bif zb clock stepped then zwQ (Xo b es)else none
    |_=>none
   |none=>none
  |_=>none
 |_=>none
def vEx(x:AV)(i:Nat):Option AV:=
 match x with
 |.tup vs=>Zi (wH i vs)
 |_=>none
def QF(s:St)(k:LK)(x:AV):Option AV:=
 match k with
 |.s=>match x with
  |.str t=>some (.int .i64 (.ofNat (qg t)))
  |_=>none
 |.v=>match x with
  |.nils=>some (.int .i64 (.ofNat 0))
  |.sl0=>some (.int .i64 (.ofNat 0))
  |.sl _ _ n _=>some (.int .i64 (.ofNat n))
  |.lst n _ _=>some (.int .i64 (.ofNat n))
  |.gr _ _ n _=>some (.int .i64 (.ofNat n))
  |_=>none
 | .m=>match x with
  |.nilm=>some (.int .i64 (.ofNat 0))
  |.map id=>match s.get id with
   |some (.map es _)=>some (.int .i64 (.ofNat (qg es)))
   |some (.umap es)=>some (.int .i64 (.ofNat (qg es)))
   |_=>none
  |_=>none
def ztE(x:AV):Option AV:=
 match x with
 |.nils=>some (.int .i64 (.ofNat 0))
 |.sl _ _ _ (.fix n)=>some (.int .i64 (.ofNat n))
 |_=>none
def L9(c:Nat):List Nat→Nat→Option Nat
 |[],_=>none
 |b::r,i=>bif zb b c then some i else L9 c r (Nat.succ i)
def zjl(x c:AV):Option AV:=
 match x with
 | .str t=>match c with
  |.int .u8 (.ofNat c)=>bif zg c 256 then match L9 c t 0 with
   |some i=>some (.int .i64 (.ofNat i))
   |none=>some (.int .i64 (.negSucc 0))else none
  |_=>none
 |_=>none
def v1(tm:Trie AV)(s:St)(x:Opd)(f:AV→Option AV):Option (AV×St):=
 match x.ev tm with
 |some v=>lN s (f v)
 |none=>none
def v2(tm:Trie AV)(s:St)(x y:Opd)(f:AV→AV→Option AV):Option (AV×St):=
 match x.ev tm with
 |some v=>match y.ev tm with
  |some w=>lN s (f v w)
  |none=>none
 |none=>none
def o1(tm:Trie AV)(x:Opd)(f:AV→Option (AV×St)):Option (AV×St):=
 match x.ev tm with
 |some v=>f v
 |none=>none
def o2(tm:Trie AV)(x y:Opd)(f:AV→AV→Option (AV×St)):Option (AV×St):=
 match x.ev tm with
 |some v=>match y.ev tm with
  |some w=>f v w
  |none=>none
 |none=>none
def o3(tm:Trie AV)(x y z:Opd)(f:AV→AV→AV→Option (AV×St)):Option (AV×St):=
 match x.ev tm with
 | some v=>match y.ev tm with
  |some w=>match z.ev tm with
   |some u=>f v w u
   |none=>none
  |none=>none
 |none=>none
def vs3(tm:Trie AV)(s:St)(x:Opd)(lo hi:Option Opd)(f:AV→Option AV→Option AV→Option AV):Option (AV×St):=
 match x.ev tm with
 | some v=>match evO tm lo with
  |some l=>match evO tm hi with
   |some h=>lN s (f v l h)
   |none=>none
  |none=>none
 |none=>none
def vs4(tm:Trie AV)(s:St)(x:Opd)(lo hi mx:Option Opd)(f:AV→Option AV→Option AV→Option AV→Option AV):Option (AV×St):=
 match evO tm mx with
 |some m=>vs3 tm s x lo hi (fun v l h=>f v l h m)
 |none=>none
def vLL(tm:Trie AV)(s:St)(l m:List Opd)(f:List AV→List AV→Option AV):Option (AV×St):=
 match evL tm l with
 |some us=>match evL tm m with
  |some vs=>lN s (f us vs)
  |none=>none
 |none=>none
def Zs(s:St)(e:Nat)(zs:List AV):Option (AV×St):=some (.ptr s.next 0,s.alloc (.row e zs false false))
def PJ(s:St)(e:Nat)(v:AV):Option (AV×St):=some (.ptr s.next 0,s.alloc (.row e v.cells false false))
def XE(s:St)(e len:Nat):Option (List AV)→Option (AV×St)
 |some cs=>bif s.md&&xY cs then some (.lst len true cs,s)else some (.sl s.next 0 len (.fix len),s.alloc (.row e cs false false))
 |none=>none
def XF(um:Bool)(s:St):Option (AV×St):=some (.map s.next,s.alloc (bif um then .umap []else .map [] 0))
abbrev zpc(x:Opd)(_G:Env)(tm:Trie AV)(s:St):Option (AV×St):=v1 tm s x some
abbrev PQ(c:Opd)(a:Opd)(b:Opd)(_G:Env)(tm:Trie AV)(s:St):Option (AV×St):=lN s (Gt (c.ev tm) (a.ev tm) (b.ev tm))
abbrev Wq(e:Nat)(zs:List AV)(_G:Env)(_tm:Trie AV)(s:St):Option (AV×St):=Zs s e zs
abbrev zww(e:Nat)(x:Opd)(_G:Env)(tm:Trie AV)(s:St):Option (AV×St):=o1 tm x (PJ s e)
abbrev K1(zs:List AV)(ps:List (Nat×Nat×Opd))(_G:Env)(tm:Trie AV)(s:St):Option (AV×St):=lN s (Y5 (jF zs tm ps))
abbrev zwx(e:Nat)(zs:List AV)(len:Nat)(ps:List (Nat×Nat×Opd))(_G:Env)(tm:Trie AV)(s:St):Option (AV×St):=XE s e len (jF zs tm ps)
abbrev zq8(x:Opd)(G:Env)(tm:Trie AV)(s:St):Option (AV×St):=v1 tm s x (vLd G.globs s)
abbrev zwF(n:Nat)(x:Opd)(G:Env)(tm:Trie AV)(s:St):Option (AV×St):=v1 tm s x (ZH G.globs s n)
abbrev zpi(n:Nat)(x:Opd)(v:Opd)(_G:Env)(tm:Trie AV)(s:St):Option (AV×St):=o2 tm x v (oSt s n)
abbrev zwK(x:Opd)(_G:Env)(tm:Trie AV)(s:St):Option (AV×St):=v1 tm s x zov
abbrev zwv(op:BinOp)(x:Opd)(y:Opd)(_G:Env)(tm:Trie AV)(s:St):Option (AV×St):=v2 tm s x y (ztD op)
abbrev zwB(k:EqK)(neg:Bool)(x:Opd)(y:Opd)(_G:Env)(tm:Trie AV)(s:St):Option (AV×St):=v2 tm s x y (pL k neg)
abbrev zpj(op:UnOp)(x:Opd)(_G:Env)(tm:Trie AV)(s:St):Option (AV×St):=v1 tm s x (vUn op)
abbrev zq3(k:IntKind)(x:Opd)(_G:Env)(tm:Trie AV)(s:St):Option (AV×St):=v1 tm s x (vCi k)
abbrev zwA(e:Nat)(x:Opd)(_G:Env)(tm:Trie AV)(s:St):Option (AV×St):=o1 tm x (Qz s e)
abbrev zwz(x:Opd)(_G:Env)(tm:Trie AV)(s:St):Option (AV×St):=v1 tm s x (ztF s)
abbrev zwI(t:Nat)(x:Opd)(_G:Env)(tm:Trie AV)(s:St):Option (AV×St):=v1 tm s x (fun v=>some (.ifc t v))
abbrev zwH(f:Nat)(fst:List Opd)(cap:List Opd)(_G:Env)(tm:Trie AV)(s:St):Option (AV×St):=vLL tm s fst cap (fun us vs=>some (.fn f us vs))
abbrev lI(G:Env)(_tm:Trie AV)(s:St):Option (AV×St):=XF G.um s
abbrev zwJ(e:Nat)(_x1:Nat)(bytes:Nat)(zs:List AV)(l:Opd)(c:Opd)(_G:Env)(tm:Trie AV)(s:St):Option (AV×St):=o2 tm l c (Jn s e bytes zs)
abbrev zwM(x:Opd)(lo:Option Opd)(hi:Option Opd)(_G:Env)(tm:Trie AV)(s:St):Option (AV×St):=vs3 tm s x lo hi zzA
abbrev zwN(esz:Nat)(x:Opd)(lo:Option Opd)(hi:Option Opd)(mx:Option Opd)(_G:Env)(tm:Trie AV)(s:St):Option (AV×St):=vs4 tm s x lo hi mx (QG esz)
abbrev zq6(off:Nat)(x:Opd)(_G:Env)(tm:Trie AV)(s:St):Option (AV×St):=v1 tm s x (vFa off)
abbrev zq7(esz:Nat)(x:Opd)(i:Opd)(_G:Env)(tm:Trie AV)(s:St):Option (AV×St):=v2 tm s x i (vIa esz)
abbrev zwC(n:Nat)(esz:Nat)(x:Opd)(i:Opd)(_G:Env)(tm:Trie AV)(s:St):Option (AV×St):=v2 tm s x i (zzy n esz)
abbrev zwE(x:Opd)(i:Opd)(_G:Env)(tm:Trie AV)(s:St):Option (AV×St):=v2 tm s x i zoq
abbrev zq9(f:FK)(z:AV)(ok:Bool)(m:Opd)(k:Opd)(_G:Env)(tm:Trie AV)(s:St):Option (AV×St):=v2 tm s m k (vLk s f z ok)
abbrev zpb(f:FK)(m:Opd)(k:Opd)(v:Opd)(_G:Env)(tm:Trie AV)(s:St):Option (AV×St):=o3 tm m k v (oMu s f)
abbrev zpa(f:FK)(m:Opd)(k:Opd)(_G:Env)(tm:Trie AV)(s:St):Option (AV×St):=o2 tm m k (oMd s f)
abbrev zph(x:Opd)(_G:Env)(tm:Trie AV)(s:St):Option (AV×St):=o1 tm x (oRs s)
abbrev zpf(it:Opd)(_G:Env)(tm:Trie AV)(s:St):Option (AV×St):=o1 tm it (oNs s)
abbrev zpg(x:Opd)(_G:Env)(tm:Trie AV)(s:St):Option (AV×St):=o1 tm x (oRm s)
abbrev zpe(it:Opd)(_G:Env)(tm:Trie AV)(s:St):Option (AV×St):=o1 tm it (oNm s)
abbrev zq4(it:Opd)(_G:Env)(tm:Trie AV)(s:St):Option (AV×St):=v1 tm s it (vEn s)
abbrev zq5(x:Opd)(i:Nat)(_G:Env)(tm:Trie AV)(s:St):Option (AV×St):=v1 tm s x (fun v=>vEx v i)
abbrev zq2(_:Nat)(_:List Opd)(_G:Env)(_tm:Trie AV)(_s:St):Option (AV×St):=none
abbrev zkV(_:Opd)(_:List Opd)(_G:Env)(_tm:Trie AV)(_s:St):Option (AV×St):=none
abbrev zwG(k:LK)(x:Opd)(_G:Env)(tm:Trie AV)(s:St):Option (AV×St):=v1 tm s x (QF s k)
abbrev zwy(x:Opd)(_G:Env)(tm:Trie AV)(s:St):Option (AV×St):=v1 tm s x ztE
abbrev zwu(e:Nat)(esz:Nat)(bytes:Nat)(x:Opd)(y:Opd)(_G:Env)(tm:Trie AV)(s:St):Option (AV×St):=o2 tm x y (jg s e esz bytes)
abbrev PP(e:Nat)(esz:Nat)(bytes:Nat)(zs:List AV)(x:Opd)(y:Opd)(_G:Env)(tm:Trie AV)(s:St):Option (AV×St):=o2 tm x y (Yb s e esz bytes zs)
abbrev zwD(x:Opd)(c:Opd)(_G:Env)(tm:Trie AV)(s:St):Option (AV×St):=v2 tm s x c zjl
abbrev zwL(x:Opd)(_G:Env)(tm:Trie AV)(s:St):Option (AV×St):=v1 tm s x some
abbrev zwO(_G:Env)(_tm:Trie AV)(_s:St):Option (AV×St):=none
noncomputable def opv(G:Env)(op:IOp)(tm:Trie AV)(s:St):Option (AV×St):=
 IOp.rec (motive:=fun _=>Env→Trie AV→St→Option (AV×St)) zpc PQ Wq zww K1 zwx zq8 zwF zpi zwK zwv zwB zpj zq3 zwA zwz zwI zwH lI zwJ zwM zwN zq6 zq7 zwC zwE zq9 zpb zpa zph zpf zpg zpe zq4 zq5 zq2 zkV zwG zwy zwu PP zwD zwL zwO op G tm s
def qS(tm:Trie AV)(d:Option Nat)(v:AV):Trie AV:=
 match d with
 |some i=>tm.set i v
 |none=>tm
def wL:Trie AV→Nat→List AV→Trie AV
 |tm,_,[]=>tm
 |tm,i,v::r=>wL (tm.set i v) (Nat.succ i) r
def hU:Trie AV→List Nat→List AV→Option (Trie AV)
 |tm,[],[]=>some tm
 |tm,p::ps,v::vs=>hU (tm.set p v) ps vs
 |_,_,_=>none
def kF(g:Option (Nat×Bool))(tm:Trie AV):Option Bool:=
 match g with
 |none=>some true
 |some (i,w)=>match tm.get i with
  |some (.bool b)=>some (b==w)
  |some _=>some false
  |none=>none
def jI(G:List (List AV))(tm:Trie AV)(s:St):List RV→Option (List AV)
 |[]=>some []
 | r ::rest=>match (match r with
   |.t i=>tm.get i
   | .c1 a=>match tm.get a with
    |some p=>match vG G s p 1 with
     |some (v::_)=>some v
     |_=>none
    |none=>none
   | .cn a n=>match tm.get a with
    |some p=>match vG G s p n with
     |some cs=>some (.agg cs)
     |none=>none
    |none=>none:Option AV),jI G tm s rest with
  |some v,some vs=>some (v::vs)
  |_,_=>none
def vS:List AV→AV
 |[v]=>v
 |vs=>.tup vs
def qf(s:St):List Nat→Option St
 |[]=>some s
 |d::r=>match s.get d with
  |some .dfd=>qf (s.put d .dfd0) r
  |_=>none
def YU:Option AV→Option (List Nat)
 |some (.ptr id _)=>some [id]
 |some (.sl id _ _ _)=>some [id]
 |some (.map id)=>some [id]
 |some _=>some []
 |none=>none
def Gk:Option AV→Option (List Nat)
 |some (.ptr id _)=>some [id]
 |some (.sl id _ _ _)=>some [id]
 |some (.map id)=>some [id]
 |some (.gr id _ _ _)=>some [id]
 |some _=>some []
 |none=>none
def zw3(a b:Option (List Nat)):Option (List Nat):=
 match a,b with
 |some a,some b=>some (a++b)
 |_,_=>none
def qn(op:IOp)(tm:Trie AV):Option (List Nat):=
 match op with
 |.ld x|.ldn _ x|.st _ x _|.lk _ _ _ x _|.mu _ x _ _|.md _ x _|.len _ x|.cbs x|.rm x=>YU (x.ev tm)
 |.app _ _ _ x y=>zw3 (Gk (x.ev tm)) (YU (y.ev tm))
 |.appz _ _ _ _ x _=>Gk (x.ev tm)
 |.call _ _|.cv _ _|.ns _|.nm _|.en _=>none
 |_=>some []
structure LogE where
 idx:Nat
 lo:Nat
 hi:Nat
 tch:Option (List Nat)
 wm:Nat
def qG(deps:Nat):List LogE→List (Nat×Nat)→List (Nat×Nat)
 |[],h=>h
 |e::r,h=>bif zb e.lo e.hi||deps.testBit e.idx then qG deps r h else (e.lo,e.hi)::qG deps r h
def offMask(m:Nat):Option (List Nat)→Bool
 |none=>false
 |some l=>go l
 where
 go:List Nat→Bool
 |[]=>true
 |a::r=>bif m.testBit a then false else go r
def uA(deps:Nat)(tch:Option (List Nat))(wm:Nat):List LogE→Bool
 |[]=>true
 |e::r=>bif deps.testBit e.idx then uA deps tch wm r
  else bif (zb wm 0||offMask wm e.tch)&&(zb e.wm 0||offMask e.wm tch)then uA deps tch wm r else false
structure Self where
 call:Nat→List AV→St→Option (AV×St)
 loop:Option Nat→ICode→Fr→St→Option (Res×Fr×St)
 round:Nat→List AV→St→Option (AV×St)
def GT(S:Self)(x:Option AV)(vs:Option (List AV))(s:St):Option (AV×St):=
 match vs with
 |some vs=>match x with
  |some (.fn f a c)=>S.call f (a++vs++c) s
  |some (.yld l)=>S.round l vs s
  |_=>none
 |none=>none
def LV(S:Self)(f:Nat)(vs:Option (List AV))(s:St):Option (AV×St):=
 match vs with
 |some vs=>S.call f vs s
 |none=>none
abbrev zs9(f:Nat)(args:List Opd)(_G:Env)(S:Self)(tm:Trie AV)(s:St):Option (AV×St):=LV S f (evL tm args) s
abbrev zkf(x:Opd)(args:List Opd)(_G:Env)(S:Self)(tm:Trie AV)(s:St):Option (AV×St):=GT S (x.ev tm) (evL tm args) s
abbrev zko(y0:Opd)(G:Env)(_S:Self)(tm:Trie AV)(s:St):Option (AV×St):=zpc y0 G tm s
abbrev zrb(y0:Opd)(y1:Opd)(y2:Opd)(G:Env)(_S:Self)(tm:Trie AV)(s:St):Option (AV×St):=PQ y0 y1 y2 G tm s
abbrev zub(y0:Nat)(y1:List AV)(G:Env)(_S:Self)(tm:Trie AV)(s:St):Option (AV×St):=Wq y0 y1 G tm s
abbrev znj(y0:Nat)(y1:Opd)(G:Env)(_S:Self)(tm:Trie AV)(s:St):Option (AV×St):=zww y0 y1 G tm s
abbrev zuc(y0:List AV)(y1:List (Nat×Nat×Opd))(G:Env)(_S:Self)(tm:Trie AV)(s:St):Option (AV×St):=K1 y0 y1 G tm s
abbrev znk(y0:Nat)(y1:List AV)(y2:Nat)(y3:List (Nat×Nat×Opd))(G:Env)(_S:Self)(tm:Trie AV)(s:St):Option (AV×St):=zwx y0 y1 y2 y3 G tm s
abbrev zkk(y0:Opd)(G:Env)(_S:Self)(tm:Trie AV)(s:St):Option (AV×St):=zq8 y0 G tm s
abbrev zns(y0:Nat)(y1:Opd)(G:Env)(_S:Self)(tm:Trie AV)(s:St):Option (AV×St):=zwF y0 y1 G tm s
abbrev zku(y0:Nat)(y1:Opd)(y2:Opd)(G:Env)(_S:Self)(tm:Trie AV)(s:St):Option (AV×St):=zpi y0 y1 y2 G tm s
abbrev znx(y0:Opd)(G:Env)(_S:Self)(tm:Trie AV)(s:St):Option (AV×St):=zwK y0 G tm s
abbrev zni(y0:BinOp)(y1:Opd)(y2:Opd)(G:Env)(_S:Self)(tm:Trie AV)(s:St):Option (AV×St):=zwv y0 y1 y2 G tm s
abbrev zno(y0:EqK)(y1:Bool)(y2:Opd)(y3:Opd)(G:Env)(_S:Self)(tm:Trie AV)(s:St):Option (AV×St):=zwB y0 y1 y2 y3 G tm s
abbrev zkv(y0:UnOp)(y1:Opd)(G:Env)(_S:Self)(tm:Trie AV)(s:St):Option (AV×St):=zpj y0 y1 G tm s
abbrev zke(y0:IntKind)(y1:Opd)(G:Env)(_S:Self)(tm:Trie AV)(s:St):Option (AV×St):=zq3 y0 y1 G tm s
abbrev znn(y0:Nat)(y1:Opd)(G:Env)(_S:Self)(tm:Trie AV)(s:St):Option (AV×St):=zwA y0 y1 G tm s
abbrev znm(y0:Opd)(G:Env)(_S:Self)(tm:Trie AV)(s:St):Option (AV×St):=zwz y0 G tm s
abbrev znv(y0:Nat)(y1:Opd)(G:Env)(_S:Self)(tm:Trie AV)(s:St):Option (AV×St):=zwI y0 y1 G tm s
abbrev znu(y0:Nat)(y1:List Opd)(y2:List Opd)(G:Env)(_S:Self)(tm:Trie AV)(s:St):Option (AV×St):=zwH y0 y1 y2 G tm s
abbrev zra(G:Env)(_S:Self)(tm:Trie AV)(s:St):Option (AV×St):=lI  G tm s
abbrev znw(y0:Nat)(y1:Nat)(y2:Nat)(y3:List AV)(y4:Opd)(y5:Opd)(G:Env)(_S:Self)(tm:Trie AV)(s:St):Option (AV×St):=zwJ y0 y1 y2 y3 y4 y5 G tm s
abbrev znz(y0:Opd)(y1:Option Opd)(y2:Option Opd)(G:Env)(_S:Self)(tm:Trie AV)(s:St):Option (AV×St):=zwM y0 y1 y2 G tm s
abbrev znA(y0:Nat)(y1:Opd)(y2:Option Opd)(y3:Option Opd)(y4:Option Opd)(G:Env)(_S:Self)(tm:Trie AV)(s:St):Option (AV×St):=zwN y0 y1 y2 y3 y4 G tm s
abbrev zki(y0:Nat)(y1:Opd)(G:Env)(_S:Self)(tm:Trie AV)(s:St):Option (AV×St):=zq6 y0 y1 G tm s
abbrev zkj(y0:Nat)(y1:Opd)(y2:Opd)(G:Env)(_S:Self)(tm:Trie AV)(s:St):Option (AV×St):=zq7 y0 y1 y2 G tm s
abbrev znp(y0:Nat)(y1:Nat)(y2:Opd)(y3:Opd)(G:Env)(_S:Self)(tm:Trie AV)(s:St):Option (AV×St):=zwC y0 y1 y2 y3 G tm s
abbrev znr(y0:Opd)(y1:Opd)(G:Env)(_S:Self)(tm:Trie AV)(s:St):Option (AV×St):=zwE y0 y1 G tm s
abbrev zkl(y0:FK)(y1:AV)(y2:Bool)(y3:Opd)(y4:Opd)(G:Env)(_S:Self)(tm:Trie AV)(s:St):Option (AV×St):=zq9 y0 y1 y2 y3 y4 G tm s
abbrev zkn(y0:FK)(y1:Opd)(y2:Opd)(y3:Opd)(G:Env)(_S:Self)(tm:Trie AV)(s:St):Option (AV×St):=zpb y0 y1 y2 y3 G tm s
abbrev zkm(y0:FK)(y1:Opd)(y2:Opd)(G:Env)(_S:Self)(tm:Trie AV)(s:St):Option (AV×St):=zpa y0 y1 y2 G tm s
abbrev zkt(y0:Opd)(G:Env)(_S:Self)(tm:Trie AV)(s:St):Option (AV×St):=zph y0 G tm s
abbrev zkq(y0:Opd)(G:Env)(_S:Self)(tm:Trie AV)(s:St):Option (AV×St):=zpf y0 G tm s
abbrev zkr(y0:Opd)(G:Env)(_S:Self)(tm:Trie AV)(s:St):Option (AV×St):=zpg y0 G tm s
abbrev zkp(y0:Opd)(G:Env)(_S:Self)(tm:Trie AV)(s:St):Option (AV×St):=zpe y0 G tm s
abbrev zkg(y0:Opd)(G:Env)(_S:Self)(tm:Trie AV)(s:St):Option (AV×St):=zq4 y0 G tm s
abbrev zkh(y0:Opd)(y1:Nat)(G:Env)(_S:Self)(tm:Trie AV)(s:St):Option (AV×St):=zq5 y0 y1 G tm s
abbrev znt(y0:LK)(y1:Opd)(G:Env)(_S:Self)(tm:Trie AV)(s:St):Option (AV×St):=zwG y0 y1 G tm s
abbrev znl(y0:Opd)(G:Env)(_S:Self)(tm:Trie AV)(s:St):Option (AV×St):=zwy y0 G tm s
abbrev znh(y0:Nat)(y1:Nat)(y2:Nat)(y3:Opd)(y4:Opd)(G:Env)(_S:Self)(tm:Trie AV)(s:St):Option (AV×St):=zwu y0 y1 y2 y3 y4 G tm s
abbrev zs8(y0:Nat)(y1:Nat)(y2:Nat)(y3:List AV)(y4:Opd)(y5:Opd)(G:Env)(_S:Self)(tm:Trie AV)(s:St):Option (AV×St):=PP y0 y1 y2 y3 y4 y5 G tm s
abbrev znq(y0:Opd)(y1:Opd)(G:Env)(_S:Self)(tm:Trie AV)(s:St):Option (AV×St):=zwD y0 y1 G tm s
abbrev zny(y0:Opd)(G:Env)(_S:Self)(tm:Trie AV)(s:St):Option (AV×St):=zwL y0 G tm s
abbrev znB(G:Env)(_S:Self)(tm:Trie AV)(s:St):Option (AV×St):=zwO  G tm s
noncomputable def qA(G:Env)(S:Self)(op:IOp)(tm:Trie AV)(s:St):Option (AV×St):=
 IOp.rec (motive:=fun _=>Env→Self→Trie AV→St→Option (AV×St)) zko zrb zub znj zuc znk zkk zns zku znx zni zno zkv zke znn znm znv znu zra znw znz znA zki zkj znp znr zkl zkn zkm zkt zkq zkr zkp zkg zkh zs9 zkf znt znl znh zs8 znq zny znB op G S tm s
def stS(tm:Trie AV)(d:Option Nat):Option (AV×St)→Option (Trie AV×St)
 |some p=>some (qS tm d p.1,p.2)
 |none=>none
def Ko(n:Nat)(p:IOp):SOper:=⟨some n,p,none⟩
def Kg(n:Nat)(p:IOp)(c:Nat)(b:Bool):SOper:=⟨some n,p,some (c,b)⟩
def Kn(p:IOp):SOper:=⟨none,p,none⟩
def Kd(n:Nat)(p:IOp)(m:Nat):DOper:=⟨⟨some n,p,none⟩,m⟩
def Ke(n:Nat)(p:IOp)(c:Nat)(b:Bool)(m:Nat):DOper:=⟨⟨some n,p,some (c,b)⟩,m⟩
def Kf(p:IOp)(m:Nat):DOper:=⟨⟨none,p,none⟩,m⟩
def Ki(n:Nat):Opd:=.c (.int .i64 (.ofNat n))
def Kj(n:Nat):Opd:=.c (.int .u8 (.ofNat n))
def Ku(n:Nat):Opd:=.c (.int .u32 (.ofNat n))
def Kq(n:Nat):Opd:=.c (.int .u64 (.ofNat n))
def Kc(n:Nat):Opd:=.c (.int .i32 (.ofNat n))
def Kv(n:Nat):AV:=.int .i64 (.ofNat n)
def Kw(n:Nat):AV:=.int .u8 (.ofNat n)
def KF:Opd:=.c (.bool false)
def KT:Opd:=.c (.bool true)
def Km(n:Nat)(x:Opd):SOper:=⟨some n,.mv x,none⟩
def Kr(l:List SOper)(b:ICode):ICode:=.seq (.reg l) b
def kb(t:IntKind)(l:List Nat):List AV:=l.map fun n=>.int t (.ofNat n)
instance opI {n:Nat}:OfNat Opd n:=⟨.t n⟩
theorem opN(n:Nat):(no_index (OfNat.ofNat n):Opd)=.t n:=rfl
def lR(G:Env)(S:Self)(o:SOper)(tm:Trie AV)(s:St):Option (Trie AV×St):=
 match kF o.guard tm with
 |some true=>stS tm o.dst (qA G S o.op tm s)
 |some false=>some (qS tm o.dst qk,s)
 |none=>none
def evS(G:Env)(S:Self):List SOper→Trie AV→St→Option (Trie AV×St)
 |[],tm,s=>some (tm,s)
 |o::r,tm,s=>match lR G S o tm s with
  |some p=>evS G S r p.1 p.2
  |none=>none
def vm(o:DOper)(log:List LogE)(tm:Trie AV)(s:St):St:=
 {s with hide:=qG o.deps log s.hide,only:=(qn o.o.op tm).map fun l=>(s.next,l),wm:=0}
def qa(m n:Nat):Nat:=zh m (Nat.pow 2 n)
def Jg(o:DOper)(i:Nat)(log:List LogE)(tm:Trie AV)(s:St):Option (AV×St)→Option (List LogE×Trie AV×St)
 | some p=>bif uA o.deps (qn o.o.op tm) (qa p.2.wm s.next) log then
   some ({idx:=i,lo:=s.next,hi:=p.2.next,tch:=qn o.o.op tm,wm:=qa p.2.wm s.next}::log,qS tm o.o.dst p.1,{p.2 with hide:=s.hide,only:=s.only,wm:=Nat.lor s.wm p.2.wm})
  else none
 |none=>none
def lQ(G:Env)(S:Self)(o:DOper)(i:Nat)(log:List LogE)(tm:Trie AV)(s:St):Option (List LogE×Trie AV×St):=
 match kF o.o.guard tm with
 |some true=>Jg o i log tm s (qA G S o.o.op tm (vm o log tm s))
 |some false=>some (log,qS tm o.o.dst qk,s)
 |none=>none
def evD(G:Env)(S:Self):List DOper→Nat→List LogE→Trie AV→St→Option (Trie AV×St)
 |[],_,_,tm,s=>some (tm,s)
 |o::r,i,log,tm,s=>match lQ G S o i log tm s with
  |some p=>evD G S r (Nat.succ i) p.1 p.2.1 p.2.2
  |none=>none
def uI(df:List Nat):Option (Trie AV×St)→Option (Res×Fr×St)
 |some p=>some (.norm,{tm:=p.1,df:=df},p.2)
 |none=>none
def uV(k:Fr→St→Option (Res×Fr×St)):Option (Res×Fr×St)→Option (Res×Fr×St)
 |some p=>match p.1 with
  |.norm=>k p.2.1 p.2.2
  |_=>some p
 |none=>none
def WR(c:Option AV)(a b:Fr→St→Option (Res×Fr×St))(fr:Fr)(s:St):Option (Res×Fr×St):=
 match c with
 |some (.bool true)=>a fr s
 |some (.bool false)=>b fr s
 |_=>none
def jR(id:Nat):Option (Res×Fr×St)→Option (Res×Fr×St)
 |some p=>match p.1 with
  |.exit i=>bif zb i id then some (.norm,p.2)else some p
  |_=>some p
 |none=>none
def PT:Option Res→Res
 |none=>.norm
 |some r=>r
def gZ(fr:Fr)(l d:Nat):Option (AV×St)→Option (Res×Fr×St)
 | some p=>match p.2.get l with
  |some (.loop st pend tm ps asg body dd)=>match st with
   |.busy=>none
   |_=>some (PT pend,{fr with df:=d::fr.df},p.2.put l (.loop .exhausted pend tm ps asg body dd))
  |_=>none
 |none=>none
def rfR(S:Self)(rd:Option Nat)(g:Option AV)(ps:List Nat)(asg body:ICode)(fr:Fr)(s:St):Option (Res×Fr×St):=
 match rd with
 |none=>match g with
  |some (.fn f a c)=>gZ fr (Nat.succ s.next) s.next (S.call f (a++ .yld (Nat.succ s.next)::c) ((s.alloc .dfd).alloc (.loop .ready none fr.tm ps asg body s.next)))
  |_=>none
 |some _=>none
def Qg(G:Env)(S:Self)(ops:List DOper)(fr:Fr)(s:St):Option (Res×Fr×St):=
 match s.only with
 |none=>uI fr.df (evD G S ops 0 [] fr.tm s)
 |some _=>none
def evC(G:Env)(S:Self)(rd:Option Nat):ICode→Fr→St→Option (Res×Fr×St)
 |.skip,fr,s=>some (.norm,fr,s)
 |.reg ops,fr,s=>uI fr.df (evS G S ops fr.tm s)
 |.regd ops,fr,s=>Qg G S ops fr s
 |.seq a b,fr,s=>uV (evC G S rd b) (evC G S rd a fr s)
 |.cond c a b,fr,s=>WR (c.ev fr.tm) (evC G S rd a) (evC G S rd b) fr s
 |.block id b,fr,s=>jR id (evC G S rd b fr s)
 |.loop b,fr,s=>uV (S.loop rd b) (evC G S rd b fr s)
 |.exit id,fr,s=>some (.exit id,fr,s)
 |.ret,fr,s=>some (.ret,fr,s)
 |.rf g ps asg body,fr,s=>rfR S rd (g.ev fr.tm) ps asg body fr s
 |.stk,_,_=>none
def YR(G:List (List AV))(tm:Trie AV)(s:St)(res:List RV):Option (AV×St):=
 match jI G tm s res with
 |some vs=>some (vS vs,s)
 |none=>none
def wT(G:List (List AV))(res:List RV):Option (Res×Fr×St)→Option (AV×St)
 | some p=>match p.1 with
  |.exit _=>none
  |_=>match qf p.2.2 p.2.1.df with
   |some s=>YR G p.2.1.tm s res
   |none=>none
 |none=>none
def Ze(n0:Nat):AV→Option AV
 |.gr id esz n cs=>bif ze n0 id then some (.lst n false cs)else some (.gr id esz n cs)
 |.ptr id off=>bif zg id n0 then some (.ptr id off)else none
 |.sl id off len c=>bif zg id n0 then some (.sl id off len c)else none
 |.map id=>bif zg id n0 then some (.map id)else none
 |v=>bif wq v then some v else none
def Xt(n0:Nat):List AV→Option (List AV)
 |[]=>some []
 | v::r=>match Ze n0 v with
  |some v=>match Xt n0 r with
   |some r=>some (v::r)
   |none=>none
  |none=>none
def Qu(n0:Nat):AV→Option AV
 |.agg cs=>match Xt n0 cs with
  |some l=>some (.agg l)
  |none=>none
 |v=>Ze n0 v
def Xu(n0:Nat):List AV→Option (List AV)
 |[]=>some []
 | v::r=>match Qu n0 v with
  |some v=>match Xu n0 r with
   |some r=>some (v::r)
   |none=>none
  |none=>none
def Zf(n0:Nat):AV→Option AV
 |.tup vs=>match Xu n0 vs with
  |some l=>some (.tup l)
  |none=>none
 |v=>Qu n0 v
def grW:AV→AV
 |.gr _ _ n cs=>.lst n false cs
 |v=>v
def zn0:List AV→List AV
 |[]=>[]
 |v::r=>grW v::zn0 r
def zlS:AV→AV
 |.agg cs=>.agg (zn0 cs)
 |v=>v
def zlT:List AV→List AV
 |[]=>[]
 |v::r=>zlS v::zlT r
def agW:AV→AV
 |.agg cs=>.agg (zn0 cs)
 |.tup vs=>.tup (zlT vs)
 |v=>v
def pK(s:St):Option (AV×St)→Option (AV×St)
 |some p=>match (bif zb (qa p.2.wm s.next) 0 then Zf s.next p.1 else none)with
  |some v=>some (v,s)
  |none=>some (agW p.1,{p.2 with wm:=Nat.lor s.wm p.2.wm,md:=s.md})
 |none=>none
def mdR(b:Bool):Option (AV×St)→Option (AV×St)
 |some p=>some (p.1,{p.2 with md:=b})
 |none=>none
def pR(E:Env)(S:Self)(F:IFunc)(args:List AV)(s:St):Option (AV×St):=
 wT E.globs F.res (evC E S none F.body {tm:=wL .leaf 0 args,df:=[]} s)
def vz(E:Env)(S:Self)(f:Nat)(args:List AV)(s:St):Option (AV×St):=
 match E.funs.get f with
 | some F=>bif ze (qg args) F.ntmps then
   bif E.pure f then pK s (pR E S F args {s with wm:=0,md:=true})else mdR s.md (pR E S F args {s with md:=false})
  else none
 |none=>none
def ue(l:Nat):Option (Res×Fr×St)→Option (AV×St)
 | some p=>match p.2.2.get l with
  |some (.loop _ _ tm ps asg body d)=>match p.1 with
   |.norm=>some (.bool true,p.2.2.put l (.loop .ready none tm ps asg body d))
   |r=>some (.bool false,p.2.2.put l (.loop .done (some r) tm ps asg body d))
  |_=>none
 |none=>none
def vc(E:Env)(S:Self)(l:Nat)(bd:ICode):Option (Res×Fr×St)→Option (AV×St)
 | some p=>match p.1 with
  |.norm=>match p.2.2.get l with
   |some (.loop .ready pend tm ps asg body d)=>ue l (evC E S (some l) bd p.2.1 (p.2.2.put l (.loop .busy pend tm ps asg body d)))
   |_=>none
  |_=>none
 |none=>none
def ja(E:Env)(S:Self)(l:Nat)(args:List AV)(s:St):Option (AV×St):=
 match s.get l with
 |some (.loop _ _ tm ps asg body _)=>match hU tm ps args with
  |some tm1=>vc E S l body (evC E S (some l) asg {tm:=tm1,df:=[]} s)
  |none=>none
 |_=>none
def ev(E:Env):Nat→Self
 |0=>⟨fun _ _ _=>none,fun _ _ _ _=>none,fun _ _ _=>none⟩
 |n+1=>⟨fun f args s=>vz E (ev E n) f args s,fun rd b fr s=>evC E (ev E n) rd (.loop b) fr s,fun l args s=>ja E (ev E n) l args s⟩
def s0:St:=⟨.leaf,0,0,[],none,false⟩
end
end Go.Proofs.YtbddpjboppmnfaaGreatDoor.Ev

/- Part of a verified evaluator of the model's code, generic over the program: a run of the evaluator that answers shows what the model's run answers. No conditions of its own. -/
import GoSem.Dispatch
import GoSem.Machine.Frame
set_option linter.unusedSimpArgs false
set_option linter.unusedVariables false
set_option linter.defProp false
open Nat renaming beq → za, mul → zb, add → zc, ble → zd, blt → ze, mod → zf, div → zg, sub → zh, casesOn → zi
namespace Go.Proofs.YtbdfljdgapkbcaaGreatDoor.Ev
theorem oM{p:Prop}(h:p:=by omega):p:=h
noncomputable section
inductive Trie (α:Type) where
 |leaf
 |node (v:Option α) (l r:Trie α)
noncomputable def Trie.get{α:Type}(t:Trie α):Nat→Option α:=
 Trie.rec (motive:=fun _=>Nat→Option α) (fun _=>none) (fun v _ _ l r n=>zi (motive:=fun _=>Option α) n v fun _=>cond (za (zf n 2) 1) (l (zg n 2)) (r (Nat.pred (zg n 2)))) t
noncomputable def Trie.setF{α:Type}(f:Nat):Trie α→Nat→Option α→Trie α:=
 Nat.rec (motive:=fun _=>Trie α→Nat→Option α→Trie α) (fun t _ _=>t)
  (fun _ ih t n v=>Trie.casesOn (motive:=fun _=>Trie α) t
   (zi (motive:=fun _=>Trie α) n (.node v .leaf .leaf) fun _=>cond (za (zf n 2) 1) (.node none (ih .leaf (zg n 2) v) .leaf) (.node none .leaf (ih .leaf (Nat.pred (zg n 2)) v)))
   fun w l r=>zi (motive:=fun _=>Trie α) n (.node v l r) fun _=>cond (za (zf n 2) 1) (.node w (ih l (zg n 2) v) r) (.node w l (ih r (Nat.pred (zg n 2)) v))) f
def Trie.set{α:Type}(t:Trie α)(n:Nat)(v:α):Trie α:=t.setF (Nat.succ n) n (some v)
def Trie.del{α:Type}(t:Trie α)(n:Nat):Trie α:=t.setF (Nat.succ n) n none
inductive Cap where
 |fix (n:Nat)
 |opn (esz:Nat)
inductive AV where
 |bool (b:Bool)
 |int (k:IntKind) (n:Int)
 |str (s:List Nat)
 |ptr (id off:Nat)
 |nilp
 |gptr (g off:Nat)
 |sl (id off len:Nat) (c:Cap)
 |sl0
 |nils
 |map (id:Nat)
 |nilm
 |fn (f:Nat) (fst cap:List AV)
 |nilf
 |yld (l:Nat)
 |ifc (t:Nat) (v:AV)
 |nili
 |agg (cs:List AV)
 |tup (vs:List AV)
 /--a slice whose cells are never written again;ex:its capacity is its length -/
 |lst (n:Nat) (ex:Bool) (cs:List AV)
 /--such a slice that may grow:id says whether it may still -/
 |gr (id esz n:Nat) (cs:List AV)
 /--a pointer to cells that are never written again -/
 |vp (cs:List AV)
 deriving Inhabited
inductive Opd where
 |t (i:Nat)
 |c (v:AV)
 deriving Inhabited
inductive FK where
 |i|s|b
 deriving DecidableEq
inductive EqK where
 |basic|bool|ptr|slice|map|func|iface|ifacec
 |flat (ks:List FK)
 deriving DecidableEq
inductive LK where
 |s|v|m
 deriving DecidableEq
inductive IOp where
 |mv (x:Opd)
 |pick (c a b:Opd)
 |alloc (e:Nat) (zs:List AV)
 |box (e:Nat) (x:Opd)
 |build (zs:List AV) (ps:List (Nat×Nat×Opd))
 |bsl (e:Nat) (zs:List AV) (len:Nat) (ps:List (Nat×Nat×Opd))
 |ld (x:Opd)
 |ldn (n:Nat) (x:Opd)
 |st (n:Nat) (x v:Opd)
 |nck (x:Opd)
 |bin (op:BinOp) (x y:Opd)
 |eqk (k:EqK) (neg:Bool) (x y:Opd)
 |un (op:UnOp) (x:Opd)
 |ci (k:IntKind) (x:Opd)
 |csb (e:Nat) (x:Opd)
 |cbs (x:Opd)
 |mif (t:Nat) (x:Opd)
 |mfn (f:Nat) (fst cap:List Opd)
 |mmap
 |msl (e esz bytes:Nat) (zs:List AV) (l c:Opd)
 |sls (x:Opd) (lo hi:Option Opd)
 |slv (esz:Nat) (x:Opd) (lo hi mx:Option Opd)
 |fa (off:Nat) (x:Opd)
 |ia (esz:Nat) (x i:Opd)
 |iaa (n esz:Nat) (x i:Opd)
 |ixs (x i:Opd)
 |lk (f:FK) (z:AV) (ok:Bool) (m k:Opd)
 |mu (f:FK) (m k v:Opd)
 |md (f:FK) (m k:Opd)
 |rs (x:Opd)
 |ns (it:Opd)
 |rm (x:Opd)
 |nm (it:Opd)
 |en (it:Opd)
 |ex (x:Opd) (i:Nat)
 |call (f:Nat) (args:List Opd)
 |cv (x:Opd) (args:List Opd)
 |len (k:LK) (x:Opd)
 |cap (x:Opd)
 |app (e esz bytes:Nat) (x y:Opd)
 |mn (xs:List Opd)
 |mx (xs:List Opd)
 |appz (e esz bytes:Nat) (zs:List AV) (x y:Opd)
 |ibs (x c:Opd)
 |nes (x:Opd)
 |stk
 deriving Inhabited
structure SOper where
 dst:Option Nat
 op:IOp
 guard:Option (Nat×Bool)
 deriving Inhabited
structure DOper where
 o:SOper
 deps:Nat
 deriving Inhabited
inductive ICode where
 |skip
 |reg (ops:List SOper)
 |regd (ops:List DOper)
 |regt (a c:DOper) (r:List DOper)
 |seq (a b:ICode)
 |cond (c:Opd) (a b:ICode)
 |block (id:Nat) (b:ICode)
 |loop (b:ICode)
 |exit (id:Nat)
 |ret
 |rf (g:Opd) (ps:List Nat) (assign body:ICode)
 |stk
 deriving Inhabited
inductive RV where
 |t (i:Nat)
 |c1 (a:Nat)
 |cn (a n:Nat)
 deriving Inhabited
structure IFunc where
 ntmps:Nat
 res:List RV
 body:ICode
 deriving Inhabited
inductive Res where
 |norm
 |exit (id:Nat)
 |ret
 deriving DecidableEq
inductive LSt where
 |ready|busy|done|exhausted
 deriving DecidableEq
inductive AObj where
 |row (e:Nat) (cells:List AV) (ext fz:Bool)
 |map (es:List (AV×AV×Nat)) (clock:Nat)
 /--a map of whole numbers,in whatever order -/
 |umap (es:List (Int×AV))
 |siter (s:List Nat) (pos:Nat)
 |miter (m:Option Nat) (since:Nat) (seen:List Nat) (stepped:Nat)
 |loop (st:LSt) (pend:Option Res) (tm:Trie AV) (ps:List Nat) (assign body:ICode) (defers:Nat)
 |dfd
 |dfd0
 /--a row that was there before:looked at alone -/
 |giv (cells:List AV)
 /--a row that may grow behind its first cells,which are never written again -/
 |app (e:Nat) (cells:List AV)
def qG:AObj→Bool
 |.giv _=>true
 |_=>false
def Kk:AObj→Bool
 |.app _ _=>true
 |_=>false
structure St where
 objs:Trie AObj
 next:Nat
 wm:Nat
 hide:List (Nat×Nat)
 only:Option (Nat×List Nat)
 /--is the function one whose rows are frozen where they are made? -/
 md:Bool
structure Fr where
 tm:Trie AV
 df:List Nat
structure Env where
 funs:Trie IFunc
 globs:List (List AV)
 lies:List (Nat×Nat×Nat)
 /--which functions freeze their rows,and leave none of their own behind -/
 pure:Nat→Bool
 /--are maps made without an order? -/
 um:Bool
mutual
def x8:AV→Bool
 |.bool _=>true
 |.int _ _=>true
 |.str _=>true
 |.nilp=>true
 |.gptr _ _=>true
 |.sl0=>true
 |.nils=>true
 |.nilm=>true
 |.nilf=>true
 |.nili=>true
 |.lst _ _ _=>true
 |.vp _=>true
 |.ifc _ v=>x8 v
 |.fn _ a c=>xN a&&xN c
 |.agg cs=>xN cs
 |.tup vs=>xN vs
 |.ptr _ _=>false
 |.sl _ _ _ _=>false
 |.map _=>false
 |.yld _=>false
 |.gr _ _ _ _=>false
def xN:List AV→Bool
 |[]=>true
 |v::r=>x8 v&&xN r
end
def hid:List (Nat×Nat)→Nat→Bool
 |[],_=>false
 |p::r,n=>bif zd p.1 n then (bif ze n p.2 then true else hid r n)else hid r n
def pI:Nat→List Nat→Bool
 |_,[]=>false
 |n,m::r=>bif za n m then true else pI n r
def St.get(s:St)(id:Nat):Option AObj:=
 match s.only with
 |none=>bif hid s.hide id then none else s.objs.get id
 |some p=>bif hid s.hide id then none else bif zd p.1 id then s.objs.get id else bif pI id p.2 then s.objs.get id else none
def St.alloc(s:St)(o:AObj):St:={s with objs:=s.objs.set s.next o,next:=Nat.succ s.next}
def uG(m id:Nat):Nat:=Nat.lor m (Nat.shiftLeft 1 id)
def St.put(s:St)(id:Nat)(o:AObj):St:={s with objs:=s.objs.set id o,wm:=uG s.wm id}
def St.del(s:St)(id:Nat):St:={s with objs:=s.objs.del id,wm:=uG s.wm id}
def xV:Nat→List AV→Option (List AV)
 |0,_=>some []
 |_+1,[]=>none
 |n+1,v::r=>match xV n r with
  |some l=>some (v::l)
  |none=>none
def wl:Nat→List AV→List AV
 |0,l=>l
 |_+1,[]=>[]
 |n+1,_::r=>wl n r
def tkN:Nat→List AV→List AV
 |0,_=>[]
 |_+1,[]=>[]
 |n+1,v::r=>v::tkN n r
def cut(l:List AV)(off n:Nat):Option (List AV):=xV n (wl off l)
def Xt:List AV→List AV→Option (List AV)
 |l,[]=>some l
 |[],_::_=>none
 |_::l,v::vs=>match Xt l vs with
  |some r=>some (v::r)
  |none=>none
def vN:List AV→Nat→List AV→Option (List AV)
 |l,0,vs=>Xt l vs
 |[],_+1,vs=>match vs with
  |[]=>some []
  |_::_=>none
 |v::l,n+1,vs=>match vN l n vs with
  |some r=>some (v::r)
  |none=>none
def reps:Nat→List AV→List AV
 |0,_=>[]
 |n+1,z=>z++reps n z
def wY{α:Type}:List α→Nat
 |[]=>0
 |_::r=>Nat.succ (wY r)
def AV.cells:AV→List AV
 |.agg cs=>cs
 |v=>[v]
def Opd.ev(tm:Trie AV):Opd→Option AV
 |.t i=>tm.get i
 |.c v=>some v
def evL(tm:Trie AV):List Opd→Option (List AV)
 |[]=>some []
 |x::r=>match x.ev tm,evL tm r with
  |some v,some vs=>some (v::vs)
  |_,_=>none
def evO(tm:Trie AV):Option Opd→Option (Option AV)
 |none=>some none
 |some x=>match x.ev tm with
  |some v=>some (some v)
  |none=>none
def ltI:Int→Int→Bool
 |.ofNat a,.ofNat b=>ze a b
 |.ofNat _,.negSucc _=>false
 |.negSucc _,.ofNat _=>true
 |.negSucc a,.negSucc b=>ze b a
def eqI:Int→Int→Bool
 |.ofNat a,.ofNat b=>za a b
 |.ofNat _,.negSucc _=>false
 |.negSucc _,.ofNat _=>false
 |.negSucc a,.negSucc b=>za a b
def Jq:IntKind→Nat
 |.i8=>128|.i16=>32768|.i32=>2147483648|.i64=>9223372036854775808
 |.u8=>256|.u16=>65536|.u32=>4294967296|.u64=>18446744073709551616
def qJ(k:IntKind)(n:Int):Int:=
 match n with
 |.ofNat a=>bif ze a (Jq k)then .ofNat a else k.wrap n
 |.negSucc _=>k.wrap n
def vU:IntKind→IntKind→Bool
 |.i8,.i8|.i16,.i16|.i32,.i32|.i64,.i64|.u8,.u8|.u16,.u16|.u32,.u32|.u64,.u64=>true
 |_,_=>false
def bits(op:BinOp)(k:IntKind)(x y:Int):Option Int:=
 match op with
 |.and=>some (k.wrap ((BitVec.ofInt k.bits x)&&& (BitVec.ofInt k.bits y)).toNat)
 |.or=>some (k.wrap ((BitVec.ofInt k.bits x)|||(BitVec.ofInt k.bits y)).toNat)
 |.xor=>some (k.wrap ((BitVec.ofInt k.bits x)^^^(BitVec.ofInt k.bits y)).toNat)
 |.andNot=>some (k.wrap ((BitVec.ofInt k.bits x)&&& ~~~(BitVec.ofInt k.bits y)).toNat)
 |_=>none
def qw(op:BinOp)(k:IntKind)(x:Int)(k':IntKind)(y:Int):Option AV:=
 match op with
 |.shl=>bif ltI y 0 then none else some (.int k (qJ k (x*2^(min y.toNat k.bits))))
 |.shr=>bif ltI y 0 then none else some (.int k (x.fdiv (2^(min y.toNat k.bits))))
 | _=>bif vU k k' then
  match op with
  |.add=>some (.int k (qJ k (Int.add x y)))
  |.sub=>some (.int k (qJ k (Int.sub x y)))
  |.mul=>some (.int k (qJ k (Int.mul x y)))
  |.quo=>bif eqI y 0 then none else some (.int k (qJ k (x.tdiv y)))
  |.rem=>bif eqI y 0 then none else some (.int k (x.tmod y))
  |.eql=>some (.bool (eqI x y))
  |.neq=>some (.bool (!eqI x y))
  |.lss=>some (.bool (ltI x y))
  |.leq=>some (.bool (!ltI y x))
  |.gtr=>some (.bool (ltI y x))
  |.geq=>some (.bool (!ltI x y))
  |op=>match bits op k x y with
   |some r=>some (.int k r)
   |none=>none
  else none
def eqS:List Nat→List Nat→Bool
 |[],[]=>true
 |a::x,b::y=>bif za a b then eqS x y else false
 |_,_=>false
def ltS:List Nat→List Nat→Bool
 |_,[]=>false
 |[],_::_=>true
 |a::x,b::y=>bif ze a b then true else bif za a b then ltS x y else false
def UW:Nat→List Nat→List Nat
 |0,_=>[]
 |_+1,[]=>[]
 |n+1,v::r=>v::UW n r
def JQ:Nat→List Nat→List Nat
 |0,l=>l
 |_+1,[]=>[]
 |n+1,_::r=>JQ n r
def zv0:List Nat→Nat→Option Nat
 |[],_=>none
 |v::_,0=>some v
 |_::r,n+1=>zv0 r n
def zwN(op:BinOp)(x y:List Nat):Option AV:=
 match op with
 |.add=>bif ze (zc (wY x) (wY y)) 9223372036854775808 then some (.str (x++y))else none
 |.eql=>some (.bool (eqS x y))
 |.neq=>some (.bool (!eqS x y))
 |.lss=>some (.bool (ltS x y))
 |.leq=>some (.bool (ltS x y||eqS x y))
 |.gtr=>some (.bool (!(ltS x y||eqS x y)))
 |.geq=>some (.bool (!ltS x y))
 |_=>none
def eq1(f:FK)(a b:AV):Option Bool:=
 match f with
 |.i=>match a,b with
  |.int k m,.int k' n=>bif vU k k' then some (eqI m n)else none
  |_,_=>none
 |.s=>match a,b with
  |.str s,.str t=>some (eqS s t)
  |_,_=>none
 |.b=>match a,b with
  |.bool p,.bool q=>some (p==q)
  |_,_=>none
def gZ:List FK→List AV→List AV→Option Bool
 |[],[],[]=>some true
 | f::fs,a::x,b::y=>
  match eq1 f a b with
  |some true=>gZ fs x y
  |some false=>match gZ fs x y with
   |some _=>some false
   |none=>none
  |none=>none
 |_,_,_=>none
def eqV(k:EqK)(a b:AV):Option Bool:=
 match k with
 |.bool=>match a,b with
  |.bool p,.bool q=>some (p==q)
  |_,_=>none
 |.ptr=>match a,b with
  |.nilp,.nilp=>some true
  |.nilp,.ptr _ _=>some false
  |.ptr _ _,.nilp=>some false
  |.nilp,.vp _=>some false
  |.vp _,.nilp=>some false
  |.ptr i o,.ptr i' o'=>bif za i i' then some (za o o')else none
  |_,_=>none
 |.slice=>match a,b with
  |.nils,.nils=>some true
  |.nils,.sl _ _ _ _=>some false
  |.sl _ _ _ _,.nils=>some false
  |.nils,.sl0=>some false
  |.sl0,.nils=>some false
  |.nils,.lst n _ _=>bif za n 0 then none else some false
  |.lst n _ _,.nils=>bif za n 0 then none else some false
  |.nils,.gr _ _ _ _=>some false
  |.gr _ _ _ _,.nils=>some false
  |_,_=>none
 |.map=>match a,b with
  |.nilm,.nilm=>some true
  |.nilm,.map _=>some false
  |.map _,.nilm=>some false
  |_,_=>none
 |.func=>match a,b with
  |.nilf,.nilf=>some true
  |.nilf,.fn _ _ _=>some false
  |.fn _ _ _,.nilf=>some false
  |_,_=>none
 |.iface=>match a,b with
  |.nili,.ifc _ _=>some false
  |.ifc _ _,.nili=>some false
  |_,_=>none
 |.ifacec=>match a,b with
  |.nili,.nili=>some true
  |.nili,.ifc _ _=>some false
  |.ifc _ _,.nili=>some false
  |_,_=>none
 |.flat ks=>match a,b with
  |.agg x,.agg y=>gZ ks x y
  |_,_=>none
 |.basic=>none
def idx(i:AV)(n:Nat):Option Nat:=
 match i with
 |.int _ (.ofNat a)=>bif ze a n then some a else none
 |_=>none
def bnd(d:Nat)(i:Option AV)(n:Nat):Option Nat:=
 match i with
 |none=>some d
 |some (.int _ (.ofNat a))=>bif zd a n then some a else none
 |_=>none
def vo(G:List (List AV))(s:St)(p:AV)(n:Nat):Option (List AV):=
 match p with
 |.ptr id off=>match s.get id with
  |some (.row _ cs _ _)=>cut cs off n
  |some (.giv cs)=>cut cs off n
  |_=>none
 |.gptr g off=>match G[g]? with
  |some cs=>cut cs off n
  |none=>none
 |.vp cs=>xV n cs
 |_=>none
def q8:AV→Bool
 |.agg _=>false
 |.tup _=>false
 |_=>true
def xZ:List AV→Bool
 |[]=>true
 |v::r=>bif q8 v then xZ r else false
def ur(s:St)(p:AV)(vs:List AV):Option St:=
 match p with
 | .ptr id off=>match s.get id with
  |some (.row t cs e fz)=>bif fz|| !xZ vs then none else match vN cs off vs with
   |some cs'=>some (s.put id (.row t cs' e fz))
   |none=>none
  |_=>none
 |_=>none
def jg(zs:List AV)(tm:Trie AV):List (Nat×Nat×Opd)→Option (List AV)
 |[]=>some zs
 | p::r=>match p.2.2.ev tm with
  | some v=>bif za (wY v.cells) p.2.1&&zd 1 p.2.1 then
    match vN zs p.1 v.cells with
    |some zs'=>jg zs' tm r
    |none=>none
   else none
  |none=>none
def uJ:AV→Option Nat
 |.nils=>some 0
 |.sl0=>some 0
 |.sl _ _ n _=>some n
 |.str s=>some (wY s)
 |.lst n _ _=>some n
 |.gr _ _ n _=>some n
 |_=>none
def x9:List Nat→List AV
 |[]=>[]
 |b::r=>.int .u8 (.ofNat b)::x9 r
def wS(s:St)(esz n:Nat):AV→Option (List AV)
 |.nils=>some []
 |.sl0=>some []
 |.sl id off _ _=>match s.get id with
  |some (.row _ cs _ _)=>cut cs off (zb n esz)
  |some (.giv cs)=>cut cs off (zb n esz)
  |_=>none
 |.str t=>bif za esz 1 then some (x9 (UW n t))else none
 |.lst _ _ cs=>xV (zb n esz) cs
 |.gr _ _ _ cs=>xV (zb n esz) cs
 |_=>none
def grow(s:St)(t esz bytes:Nat)(cs:List AV)(need:Nat):Option (AV×St):=
 bif zd (zb (zb 2 need) bytes) 281474976710656&&zd 1 esz&&ze need 9223372036854775808 then
  some (.sl s.next 0 need (.opn esz),s.alloc (.row t cs true false))
 else none
def lq(s:St)(t esz bytes:Nat)(cs:List AV)(need:Nat):Option (AV×St):=
 bif zd (zb (zb 2 need) bytes) 281474976710656&&zd 1 esz&&ze need 9223372036854775808&&xN cs then
  some (.gr s.next esz need cs,s.alloc (.app t cs))
 else none
def lL (s:St)(t esz bytes:Nat)(x:AV)(n:Nat)(new:List AV):Option (AV×St):=
 match x with
 |.nils=>bif s.md&&xN new then lq s t esz bytes new n else grow s t esz bytes new n
 | .lst k ex cs=>bif ex then match xV (zb k esz) cs with
   |some old=>lq s t esz bytes (old++new) (zc k n)
   |none=>none
  else none
 |.gr id esz' k cs=>match s.get id with
  |some (.app t0 cells)=>bif za esz esz'&&za t0 t&&za (wY cells) (wY cs)&&xZ new then lq (s.del id) t esz bytes (cs++new) (zc k n)else none
  |_=>none
 | .sl id off len c=>match s.get id with
  | some (.row t0 cs e fz)=>
   match c with
   | .fix k=>bif zd (zc len n) k then
     match ur s (.ptr id (zc off (zb len esz))) new with
     |some s'=>some (.sl id off (zc len n) (.fix k),s')
     |none=>none
    else match cut cs off (zb len esz)with
     |some old=>grow s t esz bytes (old++new) (zc len n)
     |none=>none
   | .opn esz'=>bif za esz esz'&&e&& !fz then
     bif zd (zc off (zb (zc len n) esz)) (wY cs)then
      match ur s (.ptr id (zc off (zb len esz))) new with
      |some s'=>some (.sl id off (zc len n) (.opn esz),s')
      |none=>none
     else bif xZ new&&za t0 t then match cut cs off (zb len esz)with
       |some old=>grow (s.del id) t esz bytes (old++new) (zc len n)
       |none=>none
      else none
    else none
  |_=>none
 |_=>none
def ztC(s:St)(x:AV):Option (AV×St):=
 match x with
 |.nils=>some (.nils,s)
 |.sl0=>some (.sl0,s)
 |.sl id off len c=>match c with
  |.fix k=>bif zd len k then some (.sl id off len c,s)else none
  |.opn _=>some (.sl id off len c,s)
 |.lst n ex cs=>some (.lst n ex cs,s)
 |.gr id esz n cs=>some (.gr id esz n cs,s)
 |_=>none
def vC(s:St)(t esz bytes:Nat)(x y:AV):Option (AV×St):=
 match uJ y with
 |none=>none
 |some 0=>ztC s x
 |some (Nat.succ n)=>match wS s esz (Nat.succ n) y with
  |none=>none
  |some new=>lL s t esz bytes x (Nat.succ n) new
def Z3(s:St)(t esz bytes:Nat)(zs:List AV)(x y:AV):Option (AV×St):=
 match y with
 |.int .i64 (.ofNat 0)=>none
 |.int .i64 (.ofNat (Nat.succ n))=>bif zd (zb (Nat.succ n) bytes) 281474976710656&&ze n 9223372036854775807 then lL s t esz bytes x (Nat.succ n) (reps (Nat.succ n) zs)else none
 |_=>none
def js(f:FK)(k:AV):List (AV×AV×Nat)→Nat→Option (Option (Nat×AV))
 |[],_=>some none
 |e::es,i=>match eq1 f k e.1 with
  |some true=>some (some (i,e.2.1))
  |some false=>js f k es (Nat.succ i)
  |none=>none
def zy1(v:AV)(k:AV):List (AV×AV×Nat)→Nat→List (AV×AV×Nat)
 |[],_=>[]
 |e::es,0=>(k,v,e.2.2)::es
 |e::es,i+1=>e::zy1 v k es i
def zzR:List (AV×AV×Nat)→Nat→List (AV×AV×Nat)
 |[],_=>[]
 |_::es,0=>es
 |e::es,i+1=>e::zzR es i
def vz(seen:List Nat):List (AV×AV×Nat)→List (AV×AV×Nat)
 |[]=>[]
 |e::es=>bif pI e.2.2 seen then vz seen es else e::vz seen es
def Va(last:Nat):List (AV×AV×Nat)→Bool
 |[]=>true
 |e::es=>bif zd last e.2.2 then Va last es else false
def Y9(b:Nat):List (AV×AV×Nat)→Option (AV×AV)
 |[]=>none
 |e::es=>bif za e.2.2 b then some (e.1,e.2.1)else Y9 b es
def qc:AV:=.tup []
def kz(n:Int):List (Int×AV)→Option AV
 |[]=>none
 |p::r=>bif eqI p.1 n then some p.2 else kz n r
def pt(n:Int)(v:AV):List (Int×AV)→List (Int×AV)
 |[]=>[(n,v)]
 |p::r=>bif eqI p.1 n then (n,v)::r else p::pt n v r
def Y2(n:Int):List (Int×AV)→List (Int×AV)
 |[]=>[]
 |p::r=>bif eqI p.1 n then r else p::Y2 n r
def Wg(mx:Bool):AV→List AV→Option AV
 |a,[]=>some a
 |.int k x,.int _ y::r=>bif (bif mx then ltI x y else ltI y x)then Wg mx (.int k y) r else Wg mx (.int k x) r
 |_,_=>none
def kB(s:St):Option AV→Option (AV×St)
 |some v=>some (v,s)
 |none=>none
def K8(c a b:Option AV):Option AV:=
 match c with
 |some (.bool true)=>a
 |some (.bool false)=>b
 |_=>none
def Za:List AV→Option AV
 |v::_=>some v
 |[]=>none
def vLd(G:List (List AV))(s:St)(p:AV):Option AV:=
 match vo G s p 1 with
 |some l=>Za l
 |none=>none
def Zw(G:List (List AV))(s:St)(n:Nat)(p:AV):Option AV:=
 match vo G s p n with
 |some cs=>some (.agg cs)
 |none=>none
def oSt(s:St)(n:Nat)(p w:AV):Option (AV×St):=
 bif za (wY w.cells) n then
  match ur s p w.cells with
  |some s'=>some (qc,s')
  |none=>none
 else none
def zp9(x:AV):Option AV:=
 match x with
 |.ptr i o=>some (.ptr i o)
 |.gptr g o=>some (.gptr g o)
 |.fn f a c=>some (.fn f a c)
 |.yld l=>some (.yld l)
 |.map m=>some (.map m)
 |.vp cs=>some (.vp cs)
 |_=>none
def zti(op:BinOp)(x y:AV):Option AV:=
 match x with
 |.int k a=>match y with
  |.int k' b=>qw op k a k' b
  |_=>none
 |.str a=>match y with
  |.str b=>zwN op a b
  |_=>none
 |_=>none
def WA(k:EqK)(neg:Bool)(a b:AV):Option AV:=
 match eqV k a b with
 |some r=>some (.bool (bif neg then !r else r))
 |none=>none
def vUn(op:UnOp)(x:AV):Option AV:=
 match op with
 |.neg=>match x with
  |.int k n=>some (.int k (qJ k (Int.sub 0 n)))
  |_=>none
 |.not=>match x with
  |.bool b=>some (.bool (!b))
  |_=>none
 | .xor=>match x with
  |.int k n=>match bits .xor k (bif k.signed then -1 else k.max) n with
   |some r=>some (.int k r)
   |none=>none
  |_=>none
 |.plus=>none
def vCi(k:IntKind)(x:AV):Option AV:=
 match x with
 |.int _ n=>some (.int k (qJ k n))
 |_=>none
def Qw(s:St)(e:Nat)(x:AV):Option (AV×St):=
 match x with
 | .str t=>bif ze (wY t) 9223372036854775808 then
   bif s.md then some (.lst (wY t) false (x9 t),s)else some (.sl s.next 0 (wY t) (.opn 1),s.alloc (.row e (x9 t) true false))
  else none
 |_=>none
def uB:List AV→Option (List Nat)
 |[]=>some []
 | v::r=>match v with
  | .int .u8 (.ofNat n)=>bif ze n 256 then
    match uB r with
    |some l=>some (n::l)
    |none=>none
   else none
  |_=>none
def XI:Option (List Nat)→Option AV
 |some b=>some (.str b)
 |none=>none
def vQ:Option (List AV)→Option (List Nat)
 |some l=>uB l
 |none=>none
def ztk(s:St)(x:AV):Option AV:=
 match x with
 |.nils=>some (.str [])
 |.sl0=>some (.str [])
 |.sl id off n _=>match s.get id with
  |some (.row _ cs _ _)=>XI (vQ (cut cs off n))
  |some (.giv cs)=>XI (vQ (cut cs off n))
  |_=>none
 |.lst n _ cs=>XI (vQ (xV n cs))
 |.gr _ _ n cs=>XI (vQ (xV n cs))
 |_=>none
def qK(c:Nat):Bool:=bif ze c 55296 then true else (zd 57344 c&&zd c 1114111)
def Ja(b:Nat):Bool:=za (zg b 64) 2
def YZ(b0 b1:Nat):Nat:=zc (zb (zf b0 32) 64) (zf b1 64)
def ZX(b0 b1 b2:Nat):Nat:=zc (zc (zb (zf b0 16) 4096) (zb (zf b1 64) 64)) (zf b2 64)
def VM(b0 b1 b2 b3:Nat):Nat:=zc (zc (zc (zb (zf b0 8) 262144) (zb (zf b1 64) 4096)) (zb (zf b2 64) 64)) (zf b3 64)
def ue(l:List Nat):Nat×Nat:=
 match l with
 |[]=>(65533,1)
 | b0::r=>bif ze b0 128 then (b0,1)else
  match r with
  |[]=>(65533,1)
  | b1::r1=>bif za (zg b0 32) 6&&Ja b1 then (bif zd 128 (YZ b0 b1)then (YZ b0 b1,2)else (65533,1))else
   match r1 with
   |[]=>(65533,1)
   |b2::r2=>bif za (zg b0 16) 14&&Ja b1&&Ja b2 then (bif zd 2048 (ZX b0 b1 b2)&&qK (ZX b0 b1 b2)then (ZX b0 b1 b2,3)else (65533,1))else
    match r2 with
    |[]=>(65533,1)
    |b3::_=>bif za (zg b0 8) 30&&Ja b1&&Ja b2&&Ja b3 then (bif zd 65536 (VM b0 b1 b2 b3)&&qK (VM b0 b1 b2 b3)then (VM b0 b1 b2 b3,4)else (65533,1))else (65533,1)
def Jm(s:St)(e bytes:Nat)(zs:List AV)(l c:AV):Option (AV×St):=
 match l with
 | .int .i64 (.ofNat l)=>match c with
  | .int .i64 (.ofNat c)=>
   bif zd l c&&zd (zb c bytes) 281474976710656&&ze c 9223372036854775808 then
    some (.sl s.next 0 l (.fix c),s.alloc (.row e (reps c zs) false false))
   else none
  |_=>none
 |_=>none
def P9(x:AV)(lo hi:Option AV):Option AV:=
 match x with
 | .str t=>match bnd (wY t) hi (wY t)with
  |some h=>match bnd 0 lo h with
   |some l=>some (.str (UW (zh h l) (JQ l t)))
   |none=>none
  |none=>none
 |_=>none
def Hm(esz n:Nat)(ex:Bool)(cs:List AV)(lo hi mx:Option AV):Option AV:=
 match mx with
 | none=>match bnd n hi n with
  |some h=>match bnd 0 lo h with
   |some l=>some (.lst (zh h l) (ex&&za h n) (tkN (zb (zh h l) esz) (wl (zb l esz) cs)))
   |none=>none
  |none=>none
 | some m=>match bnd n (some m) n with
  | some m=>match bnd n hi m with
   |some h=>match bnd 0 lo h with
    |some l=>some (.lst (zh h l) (za h m) (tkN (zb (zh h l) esz) (wl (zb l esz) cs)))
    |none=>none
   |none=>none
  |none=>none
def ztl(id off esz m len:Nat)(lo hi:Option AV):Option AV:=
 match bnd len hi m with
 |some h=>match bnd 0 lo h with
  |some l=>some (.sl id (bif za m l then off else zc off (zb l esz)) (zh h l) (.fix (zh m l)))
  |none=>none
 |none=>none
def ki (esz:Nat)(x:AV)(lo hi mx:Option AV):Option AV:=
 match x with
 | .nils=>match bnd 0 mx 0 with
  | some _=>match bnd 0 hi 0 with
   |some _=>match bnd 0 lo 0 with
    |some _=>some .nils
    |none=>none
   |none=>none
  |none=>none
 | .sl0=>match mx with
  | none=>match bnd 0 hi 0 with
   |some _=>match bnd 0 lo 0 with
    |some _=>some .sl0
    |none=>none
   |none=>none
  |some _=>none
 | .sl id off len c=>match c with
  |.fix c=>match bnd c mx c with
   |some m=>ztl id off esz m len lo hi
   |none=>none
  | .opn e=>bif za e esz then
    match mx with
    | none=>match bnd len hi len with
     | some h=>match bnd 0 lo h with
      |some l=>bif za l 0 then some (.sl id off h (.opn e))
       else bif ze l len then some (.sl id (zc off (zb l esz)) (zh h l) (.opn e))
       else bif za h l then some .sl0 else none
      |none=>none
     |none=>none
    |some mx=>match bnd len (some mx) len with
     |some m=>ztl id off esz m len lo hi
     |none=>none
   else none
 |.lst n ex cs=>Hm esz n ex cs lo hi mx
 |.gr _ e n cs=>bif za e esz then Hm esz n false cs lo hi mx else none
 |_=>none
def vFa(off:Nat)(x:AV):Option AV:=
 match x with
 |.ptr id o=>some (.ptr id (zc o off))
 |.gptr g o=>some (.gptr g (zc o off))
 |.vp cs=>some (.vp (wl off cs))
 |_=>none
def XK:Option (List AV)→Option AV
 |some l=>some (.agg l)
 |none=>none
def vFd(off:Nat)(n:Option Nat)(x:AV):Option AV:=
 match x with
 |.agg cs=>match n with
  |none=>Za (wl off cs)
  |some n=>XK (cut cs off n)
 |_=>none
def vIa(esz:Nat)(x i:AV):Option AV:=
 match x with
 |.sl id off len _=>match idx i len with
  |some k=>some (.ptr id (zc off (zb k esz)))
  |none=>none
 |.lst n _ cs=>match idx i n with
  |some k=>some (.vp (wl (zb k esz) cs))
  |none=>none
 | .gr _ e n cs=>bif za e esz then match idx i n with
   |some k=>some (.vp (wl (zb k esz) cs))
   |none=>none
  else none
 |_=>none
def P7(n esz:Nat)(x i:AV):Option AV:=
 match x with
 |.ptr id off=>match idx i n with
  |some k=>some (.ptr id (zc off (zb k esz)))
  |none=>none
 |.gptr g off=>match idx i n with
  |some k=>some (.gptr g (zc off (zb k esz)))
  |none=>none
 |.vp cs=>match idx i n with
  |some k=>some (.vp (wl (zb k esz) cs))
  |none=>none
 |_=>none
def HB:Option Nat→Option AV
 |some b=>some (.int .u8 (.ofNat b))
 |none=>none
def zp4(x i:AV):Option AV:=
 match x with
 |.str t=>match i with
  |.int _ (.ofNat i)=>HB (zv0 t i)
  |_=>none
 |_=>none
def Xp(z:AV)(ok:Bool):Option (Option (Nat×AV))→Option AV
 |some (some p)=>some (bif ok then .tup [p.2,.bool true]else p.2)
 |some none=>some (bif ok then .tup [z,.bool false]else z)
 |none=>none
def lkU(z:AV)(ok:Bool):Option AV→AV
 |some v=>bif ok then .tup [v,.bool true]else v
 |none=>bif ok then .tup [z,.bool false]else z
def vLk(s:St)(f:FK)(z:AV)(ok:Bool)(m k:AV):Option AV:=
 match m with
 |.nilm=>Xp z ok (some none)
 | .map id=>match s.get id with
  |some (.map es _)=>Xp z ok (js f k es 0)
  | some (.umap es)=>match f with
   |.i=>match k with
    |.int .i64 n=>some (lkU z ok (kz n es))
    |_=>none
   |_=>none
  |_=>none
 |_=>none
def oMu(s:St)(f:FK)(m k v:AV):Option (AV×St):=
 match m with
 | .map id=>match s.get id with
  |some (.map es clock)=>match js f k es 0 with
   |some (some p)=>some (qc,s.put id (.map (zy1 v k es p.1) clock))
   |some none=>some (qc,s.put id (.map (es++[(k,v,clock)]) (Nat.succ clock)))
   |none=>none
  | some (.umap es)=>match f with
   |.i=>match k with
    |.int .i64 n=>some (qc,s.put id (.umap (pt n v es)))
    |_=>none
   |_=>none
  |_=>none
 |_=>none
def oMd(s:St)(f:FK)(m k:AV):Option (AV×St):=
 match m with
 |.nilm=>some (qc,s)
 | .map id=>match s.get id with
  |some (.map es clock)=>match js f k es 0 with
   |some (some p)=>some (qc,s.put id (.map (zzR es p.1) clock))
   |some none=>some (qc,s.put id (.map es clock))
   |none=>none
  | some (.umap es)=>match f with
   |.i=>match k with
    |.int .i64 n=>some (qc,s.put id (.umap (Y2 n es)))
    |_=>none
   |_=>none
  |_=>none
 |_=>none
def oRs(s:St)(x:AV):Option (AV×St):=
 match x with
 |.str t=>some (.ptr s.next 0,s.alloc (.siter t 0))
 |_=>none
def oNs(s:St)(it:AV):Option (AV×St):=
 match it with
 | .ptr id 0=>match s.get id with
  |some (.siter t pos)=>match JQ pos t with
   |b::r=>some (.tup [.bool true,.int .i64 (.ofNat pos),.int .i32 (.ofNat (ue (b::r)).1)],s.put id (.siter t (zc pos (ue (b::r)).2)))
   |[]=>some (.tup [.bool false],s)
  |_=>none
 |_=>none
def oRm(s:St)(x:AV):Option (AV×St):=
 match x with
 |.nilm=>some (.ptr s.next 0,s.alloc (.miter none 0 [] 0))
 |.map id=>match s.get id with
  |some (.map _ clock)=>some (.ptr s.next 0,s.alloc (.miter (some id) clock [] clock))
  |_=>none
 |_=>none
def pE(s:St)(id m since:Nat)(seen:List Nat)(clock:Nat):List (AV×AV×Nat)→Option (AV×St)
 |[]=>some (.tup [.bool false],s)
 |e::r=>match r with
  |[]=>bif ze e.2.2 since then some (.tup [.bool true,e.1,e.2.1],s.put id (.miter (some m) since (seen++[e.2.2]) clock))else none
  |_::_=>none
def LL(seen:List Nat)(last:Nat)(es:List (AV×AV×Nat)):Bool:=
 match seen with
 |[]=>false
 |_::_=>match es with
  |[]=>false
  |_::_=>Va last es
def oNm(s:St)(it:AV):Option (AV×St):=
 match it with
 | .ptr id 0=>match s.get id with
  |some (.miter none _ _ _)=>some (.tup [.bool false],s)
  |some (.miter (some m) since seen last)=>match s.get m with
   |some (.map es clock)=>bif LL seen last es then none else pE s id m since seen clock (vz seen es)
   |_=>none
  |_=>none
 |_=>none
def Z6:List Nat→Option Nat
 |[]=>none
 |n::r=>match r with
  |[]=>some n
  |_::_=>Z6 r
def zwg:Option (AV×AV)→Option AV
 |some p=>some (.tup [p.1,p.2])
 |none=>none
def vEn(s:St)(it:AV):Option AV:=
 match it with
 | .ptr id 0=>match s.get id with
  | some (.miter (some m) _ seen stepped)=>match Z6 seen with
   |some b=>match s.get m with
    |some (.map es clock)=>bif za clock stepped then zwg (Y9 b es)else none
    |_=>none
   |none=>none
  |_=>none
 |_=>none
def vEx(x:AV)(i:Nat):Option AV:=
 match x with
 |.tup vs=>Za (wl i vs)
 |_=>none
def QD(s:St)(k:LK)(x:AV):Option AV:=
 match k with
 |.s=>match x with
  |.str t=>some (.int .i64 (.ofNat (wY t)))
  |_=>none
 |.v=>match x with
  |.nils=>some (.int .i64 (.ofNat 0))
  |.sl0=>some (.int .i64 (.ofNat 0))
  |.sl _ _ n _=>some (.int .i64 (.ofNat n))
  |.lst n _ _=>some (.int .i64 (.ofNat n))
  |.gr _ _ n _=>some (.int .i64 (.ofNat n))
  |_=>none
 | .m=>match x with
  |.nilm=>some (.int .i64 (.ofNat 0))
  |.map id=>match s.get id with
   |some (.map es _)=>some (.int .i64 (.ofNat (wY es)))
   |some (.umap es)=>some (.int .i64 (.ofNat (wY es)))
   |_=>none
  |_=>none
def ztj(x:AV):Option AV:=
 match x with
 |.nils=>some (.int .i64 (.ofNat 0))
 |.sl _ _ _ (.fix n)=>some (.int .i64 (.ofNat n))
 |_=>none
def vMn(mx:Bool):List AV→Option AV
 |v::r=>Wg mx v r
 |[]=>none
def Lx(c:Nat):List Nat→Nat→Option Nat
 |[],_=>none
 |b::r,i=>bif za b c then some i else Lx c r (Nat.succ i)
def zje(x c:AV):Option AV:=
 match x with
 | .str t=>match c with
  |.int .u8 (.ofNat c)=>bif ze c 256 then match Lx c t 0 with
   |some i=>some (.int .i64 (.ofNat i))
   |none=>some (.int .i64 (.negSucc 0))else none
  |_=>none
 |_=>none
def v1(tm:Trie AV)(s:St)(x:Opd)(f:AV→Option AV):Option (AV×St):=
 match x.ev tm with
 |some v=>kB s (f v)
 |none=>none
def v2(tm:Trie AV)(s:St)(x y:Opd)(f:AV→AV→Option AV):Option (AV×St):=
 match x.ev tm with
 |some v=>match y.ev tm with
  |some w=>kB s (f v w)
  |none=>none
 |none=>none
def o1(tm:Trie AV)(x:Opd)(f:AV→Option (AV×St)):Option (AV×St):=
 match x.ev tm with
 |some v=>f v
 |none=>none
def o2(tm:Trie AV)(x y:Opd)(f:AV→AV→Option (AV×St)):Option (AV×St):=
 match x.ev tm with
 |some v=>match y.ev tm with
  |some w=>f v w
  |none=>none
 |none=>none
def o3(tm:Trie AV)(x y z:Opd)(f:AV→AV→AV→Option (AV×St)):Option (AV×St):=
 match x.ev tm with
 | some v=>match y.ev tm with
  |some w=>match z.ev tm with
   |some u=>f v w u
   |none=>none
  |none=>none
 |none=>none
def vs3(tm:Trie AV)(s:St)(x:Opd)(lo hi:Option Opd)(f:AV→Option AV→Option AV→Option AV):Option (AV×St):=
 match x.ev tm with
 | some v=>match evO tm lo with
  |some l=>match evO tm hi with
   |some h=>kB s (f v l h)
   |none=>none
  |none=>none
 |none=>none
def vs4(tm:Trie AV)(s:St)(x:Opd)(lo hi mx:Option Opd)(f:AV→Option AV→Option AV→Option AV→Option AV):Option (AV×St):=
 match evO tm mx with
 |some m=>vs3 tm s x lo hi (fun v l h=>f v l h m)
 |none=>none
def vL(tm:Trie AV)(s:St)(l:List Opd)(f:List AV→Option AV):Option (AV×St):=
 match evL tm l with
 |some vs=>kB s (f vs)
 |none=>none
def vLL(tm:Trie AV)(s:St)(l m:List Opd)(f:List AV→List AV→Option AV):Option (AV×St):=
 match evL tm l with
 |some us=>match evL tm m with
  |some vs=>kB s (f us vs)
  |none=>none
 |none=>none
def Zi(s:St)(e:Nat)(zs:List AV):Option (AV×St):=some (.ptr s.next 0,s.alloc (.row e zs false false))
def Ph(s:St)(e:Nat)(v:AV):Option (AV×St):=some (.ptr s.next 0,s.alloc (.row e v.cells false false))
def Xr(s:St)(e len:Nat):Option (List AV)→Option (AV×St)
 |some cs=>bif s.md&&xN cs then some (.lst len true cs,s)else some (.sl s.next 0 len (.fix len),s.alloc (.row e cs false false))
 |none=>none
def Xs(um:Bool)(s:St):Option (AV×St):=some (.map s.next,s.alloc (bif um then .umap []else .map [] 0))
abbrev zqI(x:Opd)(_G:Env)(tm:Trie AV)(s:St):Option (AV×St):=v1 tm s x some
abbrev Po(c:Opd)(a:Opd)(b:Opd)(_G:Env)(tm:Trie AV)(s:St):Option (AV×St):=kB s (K8 (c.ev tm) (a.ev tm) (b.ev tm))
abbrev Wm(e:Nat)(zs:List AV)(_G:Env)(_tm:Trie AV)(s:St):Option (AV×St):=Zi s e zs
abbrev zxW(e:Nat)(x:Opd)(_G:Env)(tm:Trie AV)(s:St):Option (AV×St):=o1 tm x (Ph s e)
abbrev KN(zs:List AV)(ps:List (Nat×Nat×Opd))(_G:Env)(tm:Trie AV)(s:St):Option (AV×St):=kB s (XK (jg zs tm ps))
abbrev zxX(e:Nat)(zs:List AV)(len:Nat)(ps:List (Nat×Nat×Opd))(_G:Env)(tm:Trie AV)(s:St):Option (AV×St):=Xr s e len (jg zs tm ps)
abbrev zqD(x:Opd)(G:Env)(tm:Trie AV)(s:St):Option (AV×St):=v1 tm s x (vLd G.globs s)
abbrev zx5(n:Nat)(x:Opd)(G:Env)(tm:Trie AV)(s:St):Option (AV×St):=v1 tm s x (Zw G.globs s n)
abbrev zqP(n:Nat)(x:Opd)(v:Opd)(_G:Env)(tm:Trie AV)(s:St):Option (AV×St):=o2 tm x v (oSt s n)
abbrev zwa(x:Opd)(_G:Env)(tm:Trie AV)(s:St):Option (AV×St):=v1 tm s x zp9
abbrev zxV(op:BinOp)(x:Opd)(y:Opd)(_G:Env)(tm:Trie AV)(s:St):Option (AV×St):=v2 tm s x y (zti op)
abbrev zx1(k:EqK)(neg:Bool)(x:Opd)(y:Opd)(_G:Env)(tm:Trie AV)(s:St):Option (AV×St):=v2 tm s x y (WA k neg)
abbrev zqQ(op:UnOp)(x:Opd)(_G:Env)(tm:Trie AV)(s:St):Option (AV×St):=v1 tm s x (vUn op)
abbrev zqy(k:IntKind)(x:Opd)(_G:Env)(tm:Trie AV)(s:St):Option (AV×St):=v1 tm s x (vCi k)
abbrev zx0(e:Nat)(x:Opd)(_G:Env)(tm:Trie AV)(s:St):Option (AV×St):=o1 tm x (Qw s e)
abbrev zxZ(x:Opd)(_G:Env)(tm:Trie AV)(s:St):Option (AV×St):=v1 tm s x (ztk s)
abbrev zx8(t:Nat)(x:Opd)(_G:Env)(tm:Trie AV)(s:St):Option (AV×St):=v1 tm s x (fun v=>some (.ifc t v))
abbrev zx7(f:Nat)(fst:List Opd)(cap:List Opd)(_G:Env)(tm:Trie AV)(s:St):Option (AV×St):=vLL tm s fst cap (fun us vs=>some (.fn f us vs))
abbrev lw(G:Env)(_tm:Trie AV)(s:St):Option (AV×St):=Xs G.um s
abbrev zx9(e:Nat)(_x1:Nat)(bytes:Nat)(zs:List AV)(l:Opd)(c:Opd)(_G:Env)(tm:Trie AV)(s:St):Option (AV×St):=o2 tm l c (Jm s e bytes zs)
abbrev zwc(x:Opd)(lo:Option Opd)(hi:Option Opd)(_G:Env)(tm:Trie AV)(s:St):Option (AV×St):=vs3 tm s x lo hi P9
abbrev zwd(esz:Nat)(x:Opd)(lo:Option Opd)(hi:Option Opd)(mx:Option Opd)(_G:Env)(tm:Trie AV)(s:St):Option (AV×St):=vs4 tm s x lo hi mx (ki esz)
abbrev zqB(off:Nat)(x:Opd)(_G:Env)(tm:Trie AV)(s:St):Option (AV×St):=v1 tm s x (vFa off)
abbrev zqC(esz:Nat)(x:Opd)(i:Opd)(_G:Env)(tm:Trie AV)(s:St):Option (AV×St):=v2 tm s x i (vIa esz)
abbrev zx2(n:Nat)(esz:Nat)(x:Opd)(i:Opd)(_G:Env)(tm:Trie AV)(s:St):Option (AV×St):=v2 tm s x i (P7 n esz)
abbrev zx4(x:Opd)(i:Opd)(_G:Env)(tm:Trie AV)(s:St):Option (AV×St):=v2 tm s x i zp4
abbrev zqE(f:FK)(z:AV)(ok:Bool)(m:Opd)(k:Opd)(_G:Env)(tm:Trie AV)(s:St):Option (AV×St):=v2 tm s m k (vLk s f z ok)
abbrev zqH(f:FK)(m:Opd)(k:Opd)(v:Opd)(_G:Env)(tm:Trie AV)(s:St):Option (AV×St):=o3 tm m k v (oMu s f)
abbrev zqF(f:FK)(m:Opd)(k:Opd)(_G:Env)(tm:Trie AV)(s:St):Option (AV×St):=o2 tm m k (oMd s f)
abbrev zqO(x:Opd)(_G:Env)(tm:Trie AV)(s:St):Option (AV×St):=o1 tm x (oRs s)
abbrev zqM(it:Opd)(_G:Env)(tm:Trie AV)(s:St):Option (AV×St):=o1 tm it (oNs s)
abbrev zqN(x:Opd)(_G:Env)(tm:Trie AV)(s:St):Option (AV×St):=o1 tm x (oRm s)
abbrev zqL(it:Opd)(_G:Env)(tm:Trie AV)(s:St):Option (AV×St):=o1 tm it (oNm s)
abbrev zqz(it:Opd)(_G:Env)(tm:Trie AV)(s:St):Option (AV×St):=v1 tm s it (vEn s)
abbrev zqA(x:Opd)(i:Nat)(_G:Env)(tm:Trie AV)(s:St):Option (AV×St):=v1 tm s x (fun v=>vEx v i)
abbrev zqx(_:Nat)(_:List Opd)(_G:Env)(_tm:Trie AV)(_s:St):Option (AV×St):=none
abbrev zkK(_:Opd)(_:List Opd)(_G:Env)(_tm:Trie AV)(_s:St):Option (AV×St):=none
abbrev zx6(k:LK)(x:Opd)(_G:Env)(tm:Trie AV)(s:St):Option (AV×St):=v1 tm s x (QD s k)
abbrev zxY(x:Opd)(_G:Env)(tm:Trie AV)(s:St):Option (AV×St):=v1 tm s x ztj
abbrev zxU(e:Nat)(esz:Nat)(bytes:Nat)(x:Opd)(y:Opd)(_G:Env)(tm:Trie AV)(s:St):Option (AV×St):=o2 tm x y (vC s e esz bytes)
abbrev zqG(xs:List Opd)(_G:Env)(tm:Trie AV)(s:St):Option (AV×St):=vL tm s xs (vMn false)
abbrev zqJ(xs:List Opd)(_G:Env)(tm:Trie AV)(s:St):Option (AV×St):=vL tm s xs (vMn true)
abbrev Pn(e:Nat)(esz:Nat)(bytes:Nat)(zs:List AV)(x:Opd)(y:Opd)(_G:Env)(tm:Trie AV)(s:St):Option (AV×St):=o2 tm x y (Z3 s e esz bytes zs)
abbrev zx3(x:Opd)(c:Opd)(_G:Env)(tm:Trie AV)(s:St):Option (AV×St):=v2 tm s x c zje
abbrev zwb(x:Opd)(_G:Env)(tm:Trie AV)(s:St):Option (AV×St):=v1 tm s x some
abbrev zwe(_G:Env)(_tm:Trie AV)(_s:St):Option (AV×St):=none
noncomputable def opv(G:Env)(op:IOp)(tm:Trie AV)(s:St):Option (AV×St):=
 IOp.rec (motive:=fun _=>Env→Trie AV→St→Option (AV×St)) zqI Po Wm zxW KN zxX zqD zx5 zqP zwa zxV zx1 zqQ zqy zx0 zxZ zx8 zx7 lw zx9 zwc zwd zqB zqC zx2 zx4 zqE zqH zqF zqO zqM zqN zqL zqz zqA zqx zkK zx6 zxY zxU zqG zqJ Pn zx3 zwb zwe op G tm s
def qC(tm:Trie AV)(d:Option Nat)(v:AV):Trie AV:=
 match d with
 |some i=>tm.set i v
 |none=>tm
def wq:Trie AV→Nat→List AV→Trie AV
 |tm,_,[]=>tm
 |tm,i,v::r=>wq (tm.set i v) (Nat.succ i) r
def gS:Trie AV→List Nat→List AV→Option (Trie AV)
 |tm,[],[]=>some tm
 |tm,p::ps,v::vs=>gS (tm.set p v) ps vs
 |_,_,_=>none
def kq(g:Option (Nat×Bool))(tm:Trie AV):Option Bool:=
 match g with
 |none=>some true
 |some (i,w)=>match tm.get i with
  |some (.bool b)=>some (b==w)
  |some _=>some false
  |none=>none
def jk(G:List (List AV))(tm:Trie AV)(s:St):List RV→Option (List AV)
 |[]=>some []
 | r ::rest=>match (match r with
   |.t i=>tm.get i
   | .c1 a=>match tm.get a with
    |some p=>match vo G s p 1 with
     |some (v::_)=>some v
     |_=>none
    |none=>none
   | .cn a n=>match tm.get a with
    |some p=>match vo G s p n with
     |some cs=>some (.agg cs)
     |none=>none
    |none=>none:Option AV),jk G tm s rest with
  |some v,some vs=>some (v::vs)
  |_,_=>none
def vB:List AV→AV
 |[v]=>v
 |vs=>.tup vs
def wZ(s:St):List Nat→Option St
 |[]=>some s
 |d::r=>match s.get d with
  |some .dfd=>wZ (s.put d .dfd0) r
  |_=>none
def QC:Option AV→Option (List Nat)
 |some (.ptr id _)=>some [id]
 |some (.sl id _ _ _)=>some [id]
 |some (.map id)=>some [id]
 |some _=>some []
 |none=>none
def K0:Option AV→Option (List Nat)
 |some (.ptr id _)=>some [id]
 |some (.sl id _ _ _)=>some [id]
 |some (.map id)=>some [id]
 |some (.gr id _ _ _)=>some [id]
 |some _=>some []
 |none=>none
def zwy(a b:Option (List Nat)):Option (List Nat):=
 match a,b with
 |some a,some b=>some (a++b)
 |_,_=>none
def qo(op:IOp)(tm:Trie AV):Option (List Nat):=
 match op with
 |.ld x|.ldn _ x|.st _ x _|.lk _ _ _ x _|.mu _ x _ _|.md _ x _|.len _ x|.cbs x|.rm x=>QC (x.ev tm)
 |.app _ _ _ x y=>zwy (K0 (x.ev tm)) (QC (y.ev tm))
 |.appz _ _ _ _ x _=>K0 (x.ev tm)
 |.call _ _|.cv _ _|.ns _|.nm _|.en _=>none
 |_=>some []
structure LogE where
 idx:Nat
 lo:Nat
 hi:Nat
 tch:Option (List Nat)
 wm:Nat
def qr(deps:Nat):List LogE→List (Nat×Nat)→List (Nat×Nat)
 |[],h=>h
 |e::r,h=>bif za e.lo e.hi||deps.testBit e.idx then qr deps r h else (e.lo,e.hi)::qr deps r h
def offMask(m:Nat):Option (List Nat)→Bool
 |none=>false
 |some l=>go l
 where
 go:List Nat→Bool
 |[]=>true
 |a::r=>bif m.testBit a then false else go r
def ud(deps:Nat)(tch:Option (List Nat))(wm:Nat):List LogE→Bool
 |[]=>true
 |e::r=>bif deps.testBit e.idx then ud deps tch wm r
  else bif (za wm 0||offMask wm e.tch)&&(za e.wm 0||offMask e.wm tch)then ud deps tch wm r else false
structure Self where
 call:Nat→List AV→St→Option (AV×St)
 loop:Option Nat→ICode→Fr→St→Option (Res×Fr×St)
 round:Nat→List AV→St→Option (AV×St)
def GG(S:Self)(x:Option AV)(vs:Option (List AV))(s:St):Option (AV×St):=
 match vs with
 |some vs=>match x with
  |some (.fn f a c)=>S.call f (a++vs++c) s
  |some (.yld l)=>S.round l vs s
  |_=>none
 |none=>none
def Lp(S:Self)(f:Nat)(vs:Option (List AV))(s:St):Option (AV×St):=
 match vs with
 |some vs=>S.call f vs s
 |none=>none
abbrev zsQ(f:Nat)(args:List Opd)(_G:Env)(S:Self)(tm:Trie AV)(s:St):Option (AV×St):=Lp S f (evL tm args) s
abbrev zl1(x:Opd)(args:List Opd)(_G:Env)(S:Self)(tm:Trie AV)(s:St):Option (AV×St):=GG S (x.ev tm) (evL tm args) s
abbrev zkb(y0:Opd)(G:Env)(_S:Self)(tm:Trie AV)(s:St):Option (AV×St):=zqI y0 G tm s
abbrev zsS(y0:Opd)(y1:Opd)(y2:Opd)(G:Env)(_S:Self)(tm:Trie AV)(s:St):Option (AV×St):=Po y0 y1 y2 G tm s
abbrev zvC(y0:Nat)(y1:List AV)(G:Env)(_S:Self)(tm:Trie AV)(s:St):Option (AV×St):=Wm y0 y1 G tm s
abbrev zoX(y0:Nat)(y1:Opd)(G:Env)(_S:Self)(tm:Trie AV)(s:St):Option (AV×St):=zxW y0 y1 G tm s
abbrev zvD(y0:List AV)(y1:List (Nat×Nat×Opd))(G:Env)(_S:Self)(tm:Trie AV)(s:St):Option (AV×St):=KN y0 y1 G tm s
abbrev zoY(y0:Nat)(y1:List AV)(y2:Nat)(y3:List (Nat×Nat×Opd))(G:Env)(_S:Self)(tm:Trie AV)(s:St):Option (AV×St):=zxX y0 y1 y2 y3 G tm s
abbrev zl6(y0:Opd)(G:Env)(_S:Self)(tm:Trie AV)(s:St):Option (AV×St):=zqD y0 G tm s
abbrev zo6(y0:Nat)(y1:Opd)(G:Env)(_S:Self)(tm:Trie AV)(s:St):Option (AV×St):=zx5 y0 y1 G tm s
abbrev zkh(y0:Nat)(y1:Opd)(y2:Opd)(G:Env)(_S:Self)(tm:Trie AV)(s:St):Option (AV×St):=zqP y0 y1 y2 G tm s
abbrev znb(y0:Opd)(G:Env)(_S:Self)(tm:Trie AV)(s:St):Option (AV×St):=zwa y0 G tm s
abbrev zoW(y0:BinOp)(y1:Opd)(y2:Opd)(G:Env)(_S:Self)(tm:Trie AV)(s:St):Option (AV×St):=zxV y0 y1 y2 G tm s
abbrev zo2(y0:EqK)(y1:Bool)(y2:Opd)(y3:Opd)(G:Env)(_S:Self)(tm:Trie AV)(s:St):Option (AV×St):=zx1 y0 y1 y2 y3 G tm s
abbrev zki(y0:UnOp)(y1:Opd)(G:Env)(_S:Self)(tm:Trie AV)(s:St):Option (AV×St):=zqQ y0 y1 G tm s
abbrev zl0(y0:IntKind)(y1:Opd)(G:Env)(_S:Self)(tm:Trie AV)(s:St):Option (AV×St):=zqy y0 y1 G tm s
abbrev zo1(y0:Nat)(y1:Opd)(G:Env)(_S:Self)(tm:Trie AV)(s:St):Option (AV×St):=zx0 y0 y1 G tm s
abbrev zo0(y0:Opd)(G:Env)(_S:Self)(tm:Trie AV)(s:St):Option (AV×St):=zxZ y0 G tm s
abbrev zo9(y0:Nat)(y1:Opd)(G:Env)(_S:Self)(tm:Trie AV)(s:St):Option (AV×St):=zx8 y0 y1 G tm s
abbrev zo8(y0:Nat)(y1:List Opd)(y2:List Opd)(G:Env)(_S:Self)(tm:Trie AV)(s:St):Option (AV×St):=zx7 y0 y1 y2 G tm s
abbrev zsR(G:Env)(_S:Self)(tm:Trie AV)(s:St):Option (AV×St):=lw  G tm s
abbrev zna(y0:Nat)(y1:Nat)(y2:Nat)(y3:List AV)(y4:Opd)(y5:Opd)(G:Env)(_S:Self)(tm:Trie AV)(s:St):Option (AV×St):=zx9 y0 y1 y2 y3 y4 y5 G tm s
abbrev znd(y0:Opd)(y1:Option Opd)(y2:Option Opd)(G:Env)(_S:Self)(tm:Trie AV)(s:St):Option (AV×St):=zwc y0 y1 y2 G tm s
abbrev zne(y0:Nat)(y1:Opd)(y2:Option Opd)(y3:Option Opd)(y4:Option Opd)(G:Env)(_S:Self)(tm:Trie AV)(s:St):Option (AV×St):=zwd y0 y1 y2 y3 y4 G tm s
abbrev zl4(y0:Nat)(y1:Opd)(G:Env)(_S:Self)(tm:Trie AV)(s:St):Option (AV×St):=zqB y0 y1 G tm s
abbrev zl5(y0:Nat)(y1:Opd)(y2:Opd)(G:Env)(_S:Self)(tm:Trie AV)(s:St):Option (AV×St):=zqC y0 y1 y2 G tm s
abbrev zo3(y0:Nat)(y1:Nat)(y2:Opd)(y3:Opd)(G:Env)(_S:Self)(tm:Trie AV)(s:St):Option (AV×St):=zx2 y0 y1 y2 y3 G tm s
abbrev zo5(y0:Opd)(y1:Opd)(G:Env)(_S:Self)(tm:Trie AV)(s:St):Option (AV×St):=zx4 y0 y1 G tm s
abbrev zl7(y0:FK)(y1:AV)(y2:Bool)(y3:Opd)(y4:Opd)(G:Env)(_S:Self)(tm:Trie AV)(s:St):Option (AV×St):=zqE y0 y1 y2 y3 y4 G tm s
abbrev zka(y0:FK)(y1:Opd)(y2:Opd)(y3:Opd)(G:Env)(_S:Self)(tm:Trie AV)(s:St):Option (AV×St):=zqH y0 y1 y2 y3 G tm s
abbrev zl8(y0:FK)(y1:Opd)(y2:Opd)(G:Env)(_S:Self)(tm:Trie AV)(s:St):Option (AV×St):=zqF y0 y1 y2 G tm s
abbrev zkg(y0:Opd)(G:Env)(_S:Self)(tm:Trie AV)(s:St):Option (AV×St):=zqO y0 G tm s
abbrev zke(y0:Opd)(G:Env)(_S:Self)(tm:Trie AV)(s:St):Option (AV×St):=zqM y0 G tm s
abbrev zkf(y0:Opd)(G:Env)(_S:Self)(tm:Trie AV)(s:St):Option (AV×St):=zqN y0 G tm s
abbrev zkd(y0:Opd)(G:Env)(_S:Self)(tm:Trie AV)(s:St):Option (AV×St):=zqL y0 G tm s
abbrev zl2(y0:Opd)(G:Env)(_S:Self)(tm:Trie AV)(s:St):Option (AV×St):=zqz y0 G tm s
abbrev zl3(y0:Opd)(y1:Nat)(G:Env)(_S:Self)(tm:Trie AV)(s:St):Option (AV×St):=zqA y0 y1 G tm s
abbrev zo7(y0:LK)(y1:Opd)(G:Env)(_S:Self)(tm:Trie AV)(s:St):Option (AV×St):=zx6 y0 y1 G tm s
abbrev zoZ(y0:Opd)(G:Env)(_S:Self)(tm:Trie AV)(s:St):Option (AV×St):=zxY y0 G tm s
abbrev zoV(y0:Nat)(y1:Nat)(y2:Nat)(y3:Opd)(y4:Opd)(G:Env)(_S:Self)(tm:Trie AV)(s:St):Option (AV×St):=zxU y0 y1 y2 y3 y4 G tm s
abbrev zl9(y0:List Opd)(G:Env)(_S:Self)(tm:Trie AV)(s:St):Option (AV×St):=zqG y0 G tm s
abbrev zkc(y0:List Opd)(G:Env)(_S:Self)(tm:Trie AV)(s:St):Option (AV×St):=zqJ y0 G tm s
abbrev zsP(y0:Nat)(y1:Nat)(y2:Nat)(y3:List AV)(y4:Opd)(y5:Opd)(G:Env)(_S:Self)(tm:Trie AV)(s:St):Option (AV×St):=Pn y0 y1 y2 y3 y4 y5 G tm s
abbrev zo4(y0:Opd)(y1:Opd)(G:Env)(_S:Self)(tm:Trie AV)(s:St):Option (AV×St):=zx3 y0 y1 G tm s
abbrev znc(y0:Opd)(G:Env)(_S:Self)(tm:Trie AV)(s:St):Option (AV×St):=zwb y0 G tm s
abbrev znf(G:Env)(_S:Self)(tm:Trie AV)(s:St):Option (AV×St):=zwe  G tm s
noncomputable def wP(G:Env)(S:Self)(op:IOp)(tm:Trie AV)(s:St):Option (AV×St):=
 IOp.rec (motive:=fun _=>Env→Self→Trie AV→St→Option (AV×St)) zkb zsS zvC zoX zvD zoY zl6 zo6 zkh znb zoW zo2 zki zl0 zo1 zo0 zo9 zo8 zsR zna znd zne zl4 zl5 zo3 zo5 zl7 zka zl8 zkg zke zkf zkd zl2 zl3 zsQ zl1 zo7 zoZ zoV zl9 zkc zsP zo4 znc znf op G S tm s
def stS(tm:Trie AV)(d:Option Nat):Option (AV×St)→Option (Trie AV×St)
 |some p=>some (qC tm d p.1,p.2)
 |none=>none
def Ko(n:Nat)(p:IOp):SOper:=⟨some n,p,none⟩
def Kd(n:Nat)(p:IOp)(m:Nat):DOper:=⟨⟨some n,p,none⟩,m⟩
def Ki(n:Nat):Opd:=.c (.int .i64 (.ofNat n))
def kb(t:IntKind)(l:List Nat):List AV:=l.map fun n=>.int t (.ofNat n)
def gg(G:Env)(S:Self)(o:SOper)(tm:Trie AV)(s:St):Option (Trie AV×St):=
 match kq o.guard tm with
 |some true=>stS tm o.dst (wP G S o.op tm s)
 |some false=>some (qC tm o.dst qc,s)
 |none=>none
def evS(G:Env)(S:Self):List SOper→Trie AV→St→Option (Trie AV×St)
 |[],tm,s=>some (tm,s)
 |o::r,tm,s=>match gg G S o tm s with
  |some p=>evS G S r p.1 p.2
  |none=>none
def qZ(o:DOper)(log:List LogE)(tm:Trie AV)(s:St):St:=
 {s with hide:=qr o.deps log s.hide,only:=(qo o.o.op tm).map fun l=>(s.next,l),wm:=0}
def wQ(m n:Nat):Nat:=zf m (Nat.pow 2 n)
def Jf(o:DOper)(i:Nat)(log:List LogE)(tm:Trie AV)(s:St):Option (AV×St)→Option (List LogE×Trie AV×St)
 | some p=>bif ud o.deps (qo o.o.op tm) (wQ p.2.wm s.next) log then
   some ({idx:=i,lo:=s.next,hi:=p.2.next,tch:=qo o.o.op tm,wm:=wQ p.2.wm s.next}::log,qC tm o.o.dst p.1,{p.2 with hide:=s.hide,only:=s.only,wm:=Nat.lor s.wm p.2.wm})
  else none
 |none=>none
def lE(G:Env)(S:Self)(o:DOper)(i:Nat)(log:List LogE)(tm:Trie AV)(s:St):Option (List LogE×Trie AV×St):=
 match kq o.o.guard tm with
 |some true=>Jf o i log tm s (wP G S o.o.op tm (qZ o log tm s))
 |some false=>some (log,qC tm o.o.dst qc,s)
 |none=>none
def evD(G:Env)(S:Self):List DOper→Nat→List LogE→Trie AV→St→Option (Trie AV×St)
 |[],_,_,tm,s=>some (tm,s)
 |o::r,i,log,tm,s=>match lE G S o i log tm s with
  |some p=>evD G S r (Nat.succ i) p.1 p.2.1 p.2.2
  |none=>none
def uo(df:List Nat):Option (Trie AV×St)→Option (Res×Fr×St)
 |some p=>some (.norm,{tm:=p.1,df:=df},p.2)
 |none=>none
def uC(k:Fr→St→Option (Res×Fr×St)):Option (Res×Fr×St)→Option (Res×Fr×St)
 |some p=>match p.1 with
  |.norm=>k p.2.1 p.2.2
  |_=>some p
 |none=>none
def WV(c:Option AV)(a b:Fr→St→Option (Res×Fr×St))(fr:Fr)(s:St):Option (Res×Fr×St):=
 match c with
 |some (.bool true)=>a fr s
 |some (.bool false)=>b fr s
 |_=>none
def jv(id:Nat):Option (Res×Fr×St)→Option (Res×Fr×St)
 |some p=>match p.1 with
  |.exit i=>bif za i id then some (.norm,p.2)else some p
  |_=>some p
 |none=>none
def Pq:Option Res→Res
 |none=>.norm
 |some r=>r
def gQ(fr:Fr)(l d:Nat):Option (AV×St)→Option (Res×Fr×St)
 | some p=>match p.2.get l with
  |some (.loop st pend tm ps asg body dd)=>match st with
   |.busy=>none
   |_=>some (Pq pend,{fr with df:=d::fr.df},p.2.put l (.loop .exhausted pend tm ps asg body dd))
  |_=>none
 |none=>none
def rfR(S:Self)(rd:Option Nat)(g:Option AV)(ps:List Nat)(asg body:ICode)(fr:Fr)(s:St):Option (Res×Fr×St):=
 match rd with
 |none=>match g with
  |some (.fn f a c)=>gQ fr (Nat.succ s.next) s.next (S.call f (a++ .yld (Nat.succ s.next)::c) ((s.alloc .dfd).alloc (.loop .ready none fr.tm ps asg body s.next)))
  |_=>none
 |some _=>none
def Qg(G:Env)(S:Self)(ops:List DOper)(fr:Fr)(s:St):Option (Res×Fr×St):=
 match s.only with
 |none=>uo fr.df (evD G S ops 0 [] fr.tm s)
 |some _=>none
def pU:List SOper→List Nat
 |[]=>[]
 |o::r=>match o.dst with
  |some i=>i::pU r
  |none=>pU r
def zlh:List DOper→List Nat
 |[]=>[]
 |o::r=>match o.o.dst with
  |some i=>i::zlh r
  |none=>zlh r
def eqW:AV→AV→Bool
 |.int k n,.int k' m=>vU k k'&&eqI n m
 |.ptr i o,.ptr j p=>za i j&&za o p
 |_,_=>false
def uW:List DOper→List SOper
 |[]=>[]
 |o::r=>o.o::uW r
def zmv:Self:=⟨fun _ _ _=>none,fun _ _ _ _=>none,fun _ _ _=>none⟩
def UM(v:AV):Option AV→Bool
 |some u=>eqW v u
 |none=>false
def QA(tm:Trie AV)(d:Option Nat):Option (AV×St)→Bool
 |some p=>match d with
  |some k=>UM p.1 (tm.get k)
  |none=>false
 |none=>false
noncomputable def ju(G:Env)(tm:Trie AV)(s:St):List DOper→Bool
 |[]=>true
 |o::r=>bif QA tm o.o.dst (wP G zmv o.o.op tm s)then ju G tm s r else false
noncomputable def rtE(G:Env)(l:List DOper)(d:Option Nat)(tm:Trie AV)(df:List Nat)(s:St):Option (AV×St)→Option (Res×Fr×St)
 |some q=>bif QA tm d (some q)then bif ju G tm s l then bif ju G tm q.2 l then some (.norm,{tm:=tm,df:=df},q.2)else none else none else none
 |none=>none
noncomputable def rtS(G:Env)(S:Self)(l:List DOper)(o:SOper)(df:List Nat)(s:St):Option (Trie AV×St)→Option (Res×Fr×St)
 |some p=>rtE G l o.dst p.1 df s (wP G S o.op p.1 s)
 |none=>none
def evC(G:Env)(S:Self)(rd:Option Nat):ICode→Fr→St→Option (Res×Fr×St)
 |.skip,fr,s=>some (.norm,fr,s)
 |.reg ops,fr,s=>uo fr.df (evS G S ops fr.tm s)
 |.regd ops,fr,s=>Qg G S ops fr s
 |.regt a c r,fr,s=>rtS G S (a::r) c.o fr.df s (evS G S (a.o::c.o::uW r) fr.tm s)
 |.seq a b,fr,s=>uC (evC G S rd b) (evC G S rd a fr s)
 |.cond c a b,fr,s=>WV (c.ev fr.tm) (evC G S rd a) (evC G S rd b) fr s
 |.block id b,fr,s=>jv id (evC G S rd b fr s)
 |.loop b,fr,s=>uC (S.loop rd b) (evC G S rd b fr s)
 |.exit id,fr,s=>some (.exit id,fr,s)
 |.ret,fr,s=>some (.ret,fr,s)
 |.rf g ps asg body,fr,s=>rfR S rd (g.ev fr.tm) ps asg body fr s
 |.stk,_,_=>none
def YE(G:List (List AV))(tm:Trie AV)(s:St)(res:List RV):Option (AV×St):=
 match jk G tm s res with
 |some vs=>some (vB vs,s)
 |none=>none
def wL(G:List (List AV))(res:List RV):Option (Res×Fr×St)→Option (AV×St)
 | some p=>match p.1 with
  |.exit _=>none
  |_=>match wZ p.2.2 p.2.1.df with
   |some s=>YE G p.2.1.tm s res
   |none=>none
 |none=>none
def pH(n0:Nat):AV→Option AV
 |.gr id esz n cs=>bif zd n0 id then some (.lst n false cs)else some (.gr id esz n cs)
 |.ptr id off=>bif ze id n0 then some (.ptr id off)else none
 |.sl id off len c=>bif ze id n0 then some (.sl id off len c)else none
 |.map id=>bif ze id n0 then some (.map id)else none
 |v=>bif x8 v then some v else none
def X0(n0:Nat):List AV→Option (List AV)
 |[]=>some []
 | v::r=>match pH n0 v with
  |some v=>match X0 n0 r with
   |some r=>some (v::r)
   |none=>none
  |none=>none
def Xe(n0:Nat):AV→Option AV
 |.agg cs=>match X0 n0 cs with
  |some l=>some (.agg l)
  |none=>none
 |v=>pH n0 v
def Xf(n0:Nat):List AV→Option (List AV)
 |[]=>some []
 | v::r=>match Xe n0 v with
  |some v=>match Xf n0 r with
   |some r=>some (v::r)
   |none=>none
  |none=>none
def ZZ(n0:Nat):AV→Option AV
 |.tup vs=>match Xf n0 vs with
  |some l=>some (.tup l)
  |none=>none
 |v=>Xe n0 v
def grW:AV→AV
 |.gr _ _ n cs=>.lst n false cs
 |v=>v
def znH:List AV→List AV
 |[]=>[]
 |v::r=>grW v::znH r
def zlD:AV→AV
 |.agg cs=>.agg (znH cs)
 |v=>v
def zlE:List AV→List AV
 |[]=>[]
 |v::r=>zlD v::zlE r
def agW:AV→AV
 |.agg cs=>.agg (znH cs)
 |.tup vs=>.tup (zlE vs)
 |v=>v
def Z2(s:St):Option (AV×St)→Option (AV×St)
 |some p=>match (bif za (wQ p.2.wm s.next) 0 then ZZ s.next p.1 else none)with
  |some v=>some (v,s)
  |none=>some (agW p.1,{p.2 with wm:=Nat.lor s.wm p.2.wm,md:=s.md})
 |none=>none
def mdR(b:Bool):Option (AV×St)→Option (AV×St)
 |some p=>some (p.1,{p.2 with md:=b})
 |none=>none
def pM(E:Env)(S:Self)(F:IFunc)(args:List AV)(s:St):Option (AV×St):=
 wL E.globs F.res (evC E S none F.body {tm:=wq .leaf 0 args,df:=[]} s)
def jc(E:Env)(S:Self)(f:Nat)(args:List AV)(s:St):Option (AV×St):=
 match E.funs.get f with
 | some F=>bif zd (wY args) F.ntmps then
   bif E.pure f then Z2 s (pM E S F args {s with wm:=0,md:=true})else mdR s.md (pM E S F args {s with md:=false})
  else none
 |none=>none
def vP(l:Nat):Option (Res×Fr×St)→Option (AV×St)
 | some p=>match p.2.2.get l with
  |some (.loop _ _ tm ps asg body d)=>match p.1 with
   |.norm=>some (.bool true,p.2.2.put l (.loop .ready none tm ps asg body d))
   |r=>some (.bool false,p.2.2.put l (.loop .done (some r) tm ps asg body d))
  |_=>none
 |none=>none
def qR(E:Env)(S:Self)(l:Nat)(bd:ICode):Option (Res×Fr×St)→Option (AV×St)
 | some p=>match p.1 with
  |.norm=>match p.2.2.get l with
   |some (.loop .ready pend tm ps asg body d)=>vP l (evC E S (some l) bd p.2.1 (p.2.2.put l (.loop .busy pend tm ps asg body d)))
   |_=>none
  |_=>none
 |none=>none
def uI(E:Env)(S:Self)(l:Nat)(args:List AV)(s:St):Option (AV×St):=
 match s.get l with
 |some (.loop _ _ tm ps asg body _)=>match gS tm ps args with
  |some tm1=>qR E S l body (evC E S (some l) asg {tm:=tm1,df:=[]} s)
  |none=>none
 |_=>none
def ev(E:Env):Nat→Self
 |0=>⟨fun _ _ _=>none,fun _ _ _ _=>none,fun _ _ _=>none⟩
 |n+1=>⟨fun f args s=>jc E (ev E n) f args s,fun rd b fr s=>evC E (ev E n) rd (.loop b) fr s,fun l args s=>uI E (ev E n) l args s⟩
def s0:St:=⟨.leaf,0,0,[],none,false⟩
end
end Go.Proofs.YtbdfljdgapkbcaaGreatDoor.Ev

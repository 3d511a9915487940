/- A part of the evaluator and of its soundness: what it answers, the model's run answers. No conditions. -/
import GoSem.Dispatch
import GoSem.Machine.Frame
set_option linter.unusedSimpArgs false
set_option linter.unusedVariables false
set_option linter.defProp false
noncomputable section
open Nat renaming beq → zI, add → zJ, mul → zK, blt → zL, ble → zM, mod → zN, div → zO, sub → zP, casesOn → zQ
namespace Go.Proofs.YtbddpjboppmnfaaGreatDoor.Ev
abbrev Y{α:Sort _}(a:α):=a
abbrev ze:=List (List Int)
abbrev zg:=Option (Nat×List Nat)
abbrev zi:=List (Nat×Nat)
abbrev zq:=List (Int×Int)
abbrev zr:=Array Value
abbrev zw:=List Int
abbrev zy:=List Nat
abbrev zD:=Option Nat
abbrev zE:=List Value
abbrev zF:=List MapEntry
def wB{α:Type _}{a b:α}:(some a=some b)=(a=b):=Option.some.injEq a b
def qj{α:Type _}{β:Type _}{a c:α}{b d:β}:((a,b)=(c,d))=(a=c/\b=d):=Prod.mk.injEq a b c d
def vc{α:Type _}{a c:α}{b d:List α}:(a::b=c::d)=(a=c/\b=d):=List.cons.injEq a b c d
def wx{c:Prop}{h:Decidable c}(n:¬c){α:Sort _}{t e:α}:ite c t e=e:=if_neg n
def wH{c:Prop}{h:Decidable c}(n:c){α:Sort _}{t e:α}:ite c t e=t:=if_pos n
theorem wy{α:Sort _}{a b:α}:cond true a b=a:=rfl
theorem wK{α:Sort _}{a b:α}:cond false a b=b:=rfl
def qL{p:Prop}[h:Decidable p](x:p):decide p=true:=decide_eq_true x
def qy{p:Prop}[h:Decidable p](x:¬p):decide p=false:=decide_eq_false x
def hZ{p:Prop}[h:Decidable p]:(decide p=true)=p:=decide_eq_true_eq
def J{p:Prop}(h:p:=by omega):p:=h
noncomputable section
inductive Trie (α:Type) where
 |leaf
 |node (v:Option α) (l r:Trie α)
def Trie.get{α:Type}(t:Trie α):Nat->Option α:=
 Trie.rec (motive:=λ_=>Nat->Option α) (λ_=>none) (λv _ _ l r n=>zQ (motive:=λ_=>Option α) n v λ_=>cond (zI (zN n 2) 1) (l (zO n 2)) (r (Nat.pred (zO n 2)))) t
def Trie.setF{α:Type}(f:Nat):Trie α->Nat->Option α->Trie α:=
 Nat.rec (motive:=λ_=>Trie α->Nat->Option α->Trie α) (λt _ _=>t)
  (λ_ ih t n v=>Trie.casesOn (motive:=λ_=>Trie α) t
   (zQ (motive:=λ_=>Trie α) n (.node v .leaf .leaf) λ_=>cond (zI (zN n 2) 1) (.node none (ih .leaf (zO n 2) v) .leaf) (.node none .leaf (ih .leaf (Nat.pred (zO n 2)) v)))
   λw l r=>zQ (motive:=λ_=>Trie α) n (.node v l r) λ_=>cond (zI (zN n 2) 1) (.node w (ih l (zO n 2) v) r) (.node w l (ih r (Nat.pred (zO n 2)) v))) f
def Trie.set{α:Type}(t:Trie α)(n:Nat)(v:α):Trie α:=t.setF (Nat.succ n) n (some v)
def Trie.del{α:Type}(t:Trie α)(n:Nat):Trie α:=t.setF (Nat.succ n) n none
inductive Cap where
 |fix (n:Nat)
 |opn (esz:Nat)
inductive Z where
 |bool (b:Bool)
 |int (k:IntKind) (n:Int)
 |str (s:List Nat)
 |ptr (Y off:Nat)
 |nilp
 |gptr (g off:Nat)
 |sl (Y off len:Nat) (c:Cap)
 |sl0
 |nils
 |map (Y:Nat)
 |nilm
 |fn (f:Nat) (fst cap:List Z)
 |nilf
 |yld (l:Nat)
 |ifc (t:Nat) (v:Z)
 |nili
 |agg (cs:List Z)
 |tup (vs:List Z)
 /--a slice whose cells are never written again;ex:its capacity is its length -/
 |lst (n:Nat) (ex:Bool) (cs:List Z)
 /--such a slice that may grow:Y says whether it may still -/
 |gr (Y esz n:Nat) (cs:List Z)
 /--a pointer to cells that are never written again -/
 |vp (cs:List Z)
 deriving Inhabited
abbrev zh:=List (Z×Z×Nat)
abbrev zp:=List (Int×Z)
abbrev zA:=List Z
abbrev zB:=Trie Z
abbrev zC:=Option Z
inductive Opd where
 |t (i:Nat)
 |c (v:Z)
 deriving Inhabited
abbrev zu:=List (Nat×Nat×Opd)
inductive FK where
 |i|s|b
 deriving DecidableEq
inductive EqK where
 |basic|bool|ptr|slice|map|func|iface|ifacec
 |flat (ks:List FK)
 deriving DecidableEq
inductive LK where
 |s|v|m
 deriving DecidableEq
inductive IOp where
 |mv (x:Opd)
 |pick (c a b:Opd)
 |alloc (e:Nat) (zs:List Z)
 |box (e:Nat) (x:Opd)
 |build (zs:List Z) (ps:List (Nat×Nat×Opd))
 |bsl (e:Nat) (zs:List Z) (len:Nat) (ps:List (Nat×Nat×Opd))
 |ld (x:Opd)
 |ldn (n:Nat) (x:Opd)
 |st (n:Nat) (x v:Opd)
 |nck (x:Opd)
 |bin (op:BinOp) (x y:Opd)
 |eqk (k:EqK) (neg:Bool) (x y:Opd)
 |un (op:UnOp) (x:Opd)
 |ci (k:IntKind) (x:Opd)
 |csb (e:Nat) (x:Opd)
 |cbs (x:Opd)
 |mif (t:Nat) (x:Opd)
 |mfn (f:Nat) (fst cap:List Opd)
 |mmap
 |msl (e esz bytes:Nat) (zs:List Z) (l c:Opd)
 |sls (x:Opd) (lo hi:Option Opd)
 |slv (esz:Nat) (x:Opd) (lo hi mx:Option Opd)
 |fa (off:Nat) (x:Opd)
 |ia (esz:Nat) (x i:Opd)
 |iaa (n esz:Nat) (x i:Opd)
 |ixs (x i:Opd)
 |lk (f:FK) (z:Z) (ok:Bool) (m k:Opd)
 |mu (f:FK) (m k v:Opd)
 |md (f:FK) (m k:Opd)
 |rs (x:Opd)
 |ns (it:Opd)
 |rm (x:Opd)
 |nm (it:Opd)
 |en (it:Opd)
 |ex (x:Opd) (i:Nat)
 |call (f:Nat) (args:List Opd)
 |cv (x:Opd) (args:List Opd)
 |len (k:LK) (x:Opd)
 |cap (x:Opd)
 |app (e esz bytes:Nat) (x y:Opd)
 |appz (e esz bytes:Nat) (zs:List Z) (x y:Opd)
 |ibs (x c:Opd)
 |nes (x:Opd)
 |stk
 deriving Inhabited
structure SOper where
 dst:zD
 op:IOp
 guard:Option (Nat×Bool)
 deriving Inhabited
structure DOper where
 o:SOper
 deps:Nat
 deriving Inhabited
abbrev zt:=List DOper
inductive ICode where
 |skip
 |reg (ops:List SOper)
 |regd (ops:List DOper)
 |seq (a b:ICode)
 |cond (c:Opd) (a b:ICode)
 |block (Y:Nat) (b:ICode)
 |loop (b:ICode)
 |exit (Y:Nat)
 |ret
 |rf (g:Opd) (ps:List Nat) (assign body:ICode)
 |stk
 deriving Inhabited
inductive RV where
 |t (i:Nat)
 |c1 (a:Nat)
 |cn (a n:Nat)
 deriving Inhabited
structure IFunc where
 ntmps:Nat
 res:List RV
 body:ICode
 deriving Inhabited
inductive Res where
 |norm
 |exit (Y:Nat)
 |ret
 deriving DecidableEq
inductive LSt where
 |ready|busy|done|exhausted
 deriving DecidableEq
inductive AObj where
 |row (e:Nat) (cells:List Z) (ext:Bool:=false) (fz:Bool:=false)
 |map (es:List (Z×Z×Nat)) (clock:Nat)
 /--a map of whole numbers,in whatever order -/
 |umap (es:List (Int×Z))
 |siter (s:List Nat) (pos:Nat)
 |miter (m:Option Nat) (since:Nat) (seen:List Nat) (stepped:Nat)
 |loop (st:LSt) (pend:Option Res) (A:Trie Z) (ps:List Nat) (assign body:ICode) (defers:Nat)
 |dfd
 |dfd0
 /--a row that was there before:looked at alone -/
 |giv (cells:List Z)
 /--a row that may grow behind its first cells,which are never written again -/
 |app (e:Nat) (cells:List Z)
abbrev zb:=List (Nat×Option AObj)
abbrev zl:=List (Option AObj)
abbrev zm:=Option AObj
def uE:AObj->Bool
 |.giv _=>true
 |_=>false
def PB:AObj->Bool
 |.app _ _=>true
 |_=>false
structure U where
 objs:Trie AObj
 next:Nat
 wm:Nat
 hide:zi
 only:zg
 /--is the function one whose rows are frozen where they are made? -/
 md:Bool
abbrev zc:=Option (Z×U)
structure Fr where
 A:zB
 df:zy
abbrev zj:=Option (Res×Fr×U)
structure Env where
 funs:Trie IFunc
 globs:List zA
 lies:List (Nat×Nat×Nat)
 /--which functions freeze their rows,and leave none of their own behind -/
 pure:Nat->Bool
 /--are maps made without an order? -/
 um:Bool
mutual
def qg:Z->Bool
 |.bool _=>true
 |.int _ _=>true
 |.str _=>true
 |.nilp=>true
 |.gptr _ _=>true
 |.sl0=>true
 |.nils=>true
 |.nilm=>true
 |.nilf=>true
 |.nili=>true
 |.lst _ _ _=>true
 |.vp _=>true
 |.ifc _ v=>qg v
 |.fn _ a c=>wL a&&wL c
 |.agg cs=>wL cs
 |.tup vs=>wL vs
 |.ptr _ _=>false
 |.sl _ _ _ _=>false
 |.map _=>false
 |.yld _=>false
 |.gr _ _ _ _=>false
def wL:List Z->Bool
 |[]=>true
 |v::r=>qg v&&wL r
end
def hid:zi->Nat->Bool
 |[],_=>false
 |p::r,n=>bif zM p.1 n then (bif zL n p.2 then true else hid r n)else hid r n
def Xi:Nat->zy->Bool
 |_,[]=>false
 |n,m::r=>bif zI n m then true else Xi n r
def U.get(s:U)(Y:Nat):zm:=
 match s.only with
 |none=>bif hid s.hide Y then none else s.objs.get Y
 |some p=>bif hid s.hide Y then none else bif zM p.1 Y then s.objs.get Y else bif Xi Y p.2 then s.objs.get Y else none
def U.alloc(s:U)(o:AObj):U:={s with objs:=s.objs.set s.next o,next:=Nat.succ s.next}
def gj(m Y:Nat):Nat:=Nat.lor m (Nat.shiftLeft 1 Y)
def U.put(s:U)(Y:Nat)(o:AObj):U:={s with objs:=s.objs.set Y o,wm:=gj s.wm Y}
def U.del(s:U)(Y:Nat):U:={s with objs:=s.objs.del Y,wm:=gj s.wm Y}
def qf:Nat->zA->Option zA
 |0,_=>some []
 |_+1,[]=>none
 |n+1,v::r=>match qf n r with
  |some l=>some (v::l)
  |none=>none
def qv:Nat->zA->zA
 |0,l=>l
 |_+1,[]=>[]
 |n+1,_::r=>qv n r
def tkN:Nat->zA->zA
 |0,_=>[]
 |_+1,[]=>[]
 |n+1,v::r=>v::tkN n r
def cut(l:zA)(off n:Nat):Option zA:=qf n (qv off l)
def Uq:zA->zA->Option zA
 |l,[]=>some l
 |[],_::_=>none
 |_::l,v::vs=>match Uq l vs with
  |some r=>some (v::r)
  |none=>none
def ki:zA->Nat->zA->Option zA
 |l,0,vs=>Uq l vs
 |[],_+1,vs=>match vs with
  |[]=>some []
  |_::_=>none
 |v::l,n+1,vs=>match ki l n vs with
  |some r=>some (v::r)
  |none=>none
def reps:Nat->zA->zA
 |0,_=>[]
 |n+1,z=>z++reps n z
def vC{α:Type}:List α->Nat
 |[]=>0
 |_::r=>Nat.succ (vC r)
def Z.cells:Z->zA
 |.agg cs=>cs
 |v=>[v]
def Opd.ev(A:zB):Opd->zC
 |.t i=>A.get i
 |.c v=>some v
def evL(A:zB):List Opd->Option zA
 |[]=>some []
 |x::r=>match x.ev A,evL A r with
  |some v,some vs=>some (v::vs)
  |_,_=>none
def evO(A:zB):Option Opd->Option zC
 |none=>some none
 |some x=>match x.ev A with
  |some v=>some (some v)
  |none=>none
def ltI:Int->Int->Bool
 |.ofNat a,.ofNat b=>zL a b
 |.ofNat _,.negSucc _=>false
 |.negSucc _,.ofNat _=>true
 |.negSucc a,.negSucc b=>zL b a
def eqI:Int->Int->Bool
 |.ofNat a,.ofNat b=>zI a b
 |.ofNat _,.negSucc _=>false
 |.negSucc _,.ofNat _=>false
 |.negSucc a,.negSucc b=>zI a b
def Lt:IntKind->Nat
 |.i8=>128|.i16=>32768|.i32=>2147483648|.i64=>9223372036854775808
 |.u8=>256|.u16=>65536|.u32=>4294967296|.u64=>18446744073709551616
def ji(k:IntKind)(n:Int):Int:=
 match n with
 |.ofNat a=>bif zL a (Lt k)then .ofNat a else k.wrap n
 |.negSucc _=>k.wrap n
def j8:IntKind->IntKind->Bool
 |.i8,.i8|.i16,.i16|.i32,.i32|.i64,.i64|.u8,.u8|.u16,.u16|.u32,.u32|.u64,.u64=>true
 |_,_=>false
def bits(op:BinOp)(k:IntKind)(x y:Int):Option Int:=
 match op with
 |.and=>some (k.wrap ((BitVec.ofInt k.bits x)&&& (BitVec.ofInt k.bits y)).toNat)
 |.or=>some (k.wrap ((BitVec.ofInt k.bits x)|||(BitVec.ofInt k.bits y)).toNat)
 |.xor=>some (k.wrap ((BitVec.ofInt k.bits x)^^^(BitVec.ofInt k.bits y)).toNat)
 |.andNot=>some (k.wrap ((BitVec.ofInt k.bits x)&&& ~~~(BitVec.ofInt k.bits y)).toNat)
 |_=>none
def jl(op:BinOp)(k:IntKind)(x:Int)(k':IntKind)(y:Int):zC:=
 match op with
 |.shl=>bif ltI y 0 then none else some (.int k (ji k (x*2^(min y.toNat k.bits))))
 |.shr=>bif ltI y 0 then none else some (.int k (x.fdiv (2^(min y.toNat k.bits))))
 | _=>bif j8 k k' then
  match op with
  |.add=>some (.int k (ji k (Int.add x y)))
  |.sub=>some (.int k (ji k (Int.sub x y)))
  |.mul=>some (.int k (ji k (Int.mul x y)))
  |.quo=>bif eqI y 0 then none else some (.int k (ji k (x.tdiv y)))
  |.rem=>bif eqI y 0 then none else some (.int k (x.tmod y))
  |.eql=>some (.bool (eqI x y))
  |.neq=>some (.bool (!eqI x y))
  |.lss=>some (.bool (ltI x y))
  |.leq=>some (.bool (!ltI y x))
  |.gtr=>some (.bool (ltI y x))
  |.geq=>some (.bool (!ltI x y))
  |op=>match bits op k x y with
   |some r=>some (.int k r)
   |none=>none
  else none
def eqS:zy->zy->Bool
 |[],[]=>true
 |a::x,b::y=>bif zI a b then eqS x y else false
 |_,_=>false
def ltS:zy->zy->Bool
 |_,[]=>false
 |[],_::_=>true
 |a::x,b::y=>bif zL a b then true else bif zI a b then ltS x y else false
def HQ:Nat->zy->zy
 |0,_=>[]
 |_+1,[]=>[]
 |n+1,v::r=>v::HQ n r
def L8:Nat->zy->zy
 |0,l=>l
 |_+1,[]=>[]
 |n+1,_::r=>L8 n r
def fF:zy->Nat->zD
 |[],_=>none
 |v::_,0=>some v
 |_::r,n+1=>fF r n
def Bt(op:BinOp)(x y:zy):zC:=
 match op with
 |.add=>bif zL (zJ (vC x) (vC y)) 9223372036854775808 then some (.str (x++y))else none
 |.eql=>some (.bool (eqS x y))
 |.neq=>some (.bool (!eqS x y))
 |.lss=>some (.bool (ltS x y))
 |.leq=>some (.bool (ltS x y||eqS x y))
 |.gtr=>some (.bool (!(ltS x y||eqS x y)))
 |.geq=>some (.bool (!ltS x y))
 |_=>none
def eq1(f:FK)(a b:Z):Option Bool:=
 match f with
 |.i=>match a,b with
  |.int k m,.int k' n=>bif j8 k k' then some (eqI m n)else none
  |_,_=>none
 |.s=>match a,b with
  |.str s,.str t=>some (eqS s t)
  |_,_=>none
 |.b=>match a,b with
  |.bool p,.bool q=>some (p==q)
  |_,_=>none
def Zk:List FK->zA->zA->Option Bool
 |[],[],[]=>some true
 | f::fs,a::x,b::y=>
  match eq1 f a b with
  |some true=>Zk fs x y
  |some false=>match Zk fs x y with
   |some _=>some false
   |none=>none
  |none=>none
 |_,_,_=>none
def eqV(k:EqK)(a b:Z):Option Bool:=
 match k with
 |.bool=>match a,b with
  |.bool p,.bool q=>some (p==q)
  |_,_=>none
 |.ptr=>match a,b with
  |.nilp,.nilp=>some true
  |.nilp,.ptr _ _=>some false
  |.ptr _ _,.nilp=>some false
  |.nilp,.vp _=>some false
  |.vp _,.nilp=>some false
  |.ptr i o,.ptr i' o'=>bif zI i i' then some (zI o o')else none
  |_,_=>none
 |.slice=>match a,b with
  |.nils,.nils=>some true
  |.nils,.sl _ _ _ _=>some false
  |.sl _ _ _ _,.nils=>some false
  |.nils,.sl0=>some false
  |.sl0,.nils=>some false
  |.nils,.lst n _ _=>bif zI n 0 then none else some false
  |.lst n _ _,.nils=>bif zI n 0 then none else some false
  |.nils,.gr _ _ _ _=>some false
  |.gr _ _ _ _,.nils=>some false
  |_,_=>none
 |.map=>match a,b with
  |.nilm,.nilm=>some true
  |.nilm,.map _=>some false
  |.map _,.nilm=>some false
  |_,_=>none
 |.func=>match a,b with
  |.nilf,.nilf=>some true
  |.nilf,.fn _ _ _=>some false
  |.fn _ _ _,.nilf=>some false
  |_,_=>none
 |.iface=>match a,b with
  |.nili,.ifc _ _=>some false
  |.ifc _ _,.nili=>some false
  |_,_=>none
 |.ifacec=>match a,b with
  |.nili,.nili=>some true
  |.nili,.ifc _ _=>some false
  |.ifc _ _,.nili=>some false
  |_,_=>none
 |.flat ks=>match a,b with
  |.agg x,.agg y=>Zk ks x y
  |_,_=>none
 |.basic=>none
def idx(i:Z)(n:Nat):zD:=
 match i with
 |.int _ (.ofNat a)=>bif zL a n then some a else none
 |_=>none
def bnd(d:Nat)(i:zC)(n:Nat):zD:=
 match i with
 |none=>some d
 |some (.int _ (.ofNat a))=>bif zM a n then some a else none
 |_=>none
def jE(G:List zA)(s:U)(p:Z)(n:Nat):Option zA:=
 match p with
 |.ptr Y off=>match s.get Y with
  |some (.row _ cs _ _)=>cut cs off n
  |some (.giv cs)=>cut cs off n
  |_=>none
 |.gptr g off=>match G[g]? with
  |some cs=>cut cs off n
  |none=>none
 |.vp cs=>qf n cs
 |_=>none
def vF:Z->Bool
 |.agg _=>false
 |.tup _=>false
 |_=>true
def w8:zA->Bool
 |[]=>true
 |v::r=>bif vF v then w8 r else false
def gB(s:U)(p:Z)(vs:zA):Option U:=
 match p with
 | .ptr Y off=>match s.get Y with
  |some (.row t cs e fz)=>bif fz|| !w8 vs then none else match ki cs off vs with
   |some cs'=>some (s.put Y (.row t cs' e fz))
   |none=>none
  |_=>none
 |_=>none
def lx(zs:zA)(A:zB):zu->Option zA
 |[]=>some zs
 | p::r=>match p.2.2.ev A with
  | some v=>bif zI (vC v.cells) p.2.1&&zM 1 p.2.1 then
    match ki zs p.1 v.cells with
    |some zs'=>lx zs' A r
    |none=>none
   else none
  |none=>none
def gw:Z->zD
 |.nils=>some 0
 |.sl0=>some 0
 |.sl _ _ n _=>some n
 |.str s=>some (vC s)
 |.lst n _ _=>some n
 |.gr _ _ n _=>some n
 |_=>none
def qo:zy->zA
 |[]=>[]
 |b::r=>.int .u8 (.ofNat b)::qo r
def qQ(s:U)(esz n:Nat):Z->Option zA
 |.nils=>some []
 |.sl0=>some []
 |.sl Y off _ _=>match s.get Y with
  |some (.row _ cs _ _)=>cut cs off (zK n esz)
  |some (.giv cs)=>cut cs off (zK n esz)
  |_=>none
 |.str t=>bif zI esz 1 then some (qo (HQ n t))else none
 |.lst _ _ cs=>qf (zK n esz) cs
 |.gr _ _ _ cs=>qf (zK n esz) cs
 |_=>none
def grow(s:U)(t esz bytes:Nat)(cs:zA)(need:Nat):zc:=
 bif zM (zK (zK 2 need) bytes) 281474976710656&&zM 1 esz&&zL need 9223372036854775808 then
  some (.sl s.next 0 need (.opn esz),s.alloc (.row t cs true false))
 else none
def Zo(s:U)(t esz bytes:Nat)(cs:zA)(need:Nat):zc:=
 bif zM (zK (zK 2 need) bytes) 281474976710656&&zM 1 esz&&zL need 9223372036854775808&&wL cs then
  some (.gr s.next esz need cs,s.alloc (.app t cs))
 else none
def ZZ (s:U)(t esz bytes:Nat)(x:Z)(n:Nat)(new:zA):zc:=
 match x with
 |.nils=>bif s.md&&wL new then Zo s t esz bytes new n else grow s t esz bytes new n
 | .lst k ex cs=>bif ex then match qf (zK k esz) cs with
   |some old=>Zo s t esz bytes (old++new) (zJ k n)
   |none=>none
  else none
 |.gr Y esz' k cs=>match s.get Y with
  |some (.app t0 cells)=>bif zI esz esz'&&zI t0 t&&zI (vC cells) (vC cs)&&w8 new then Zo (s.del Y) t esz bytes (cs++new) (zJ k n)else none
  |_=>none
 | .sl Y off len c=>match s.get Y with
  | some (.row t0 cs e fz)=>
   match c with
   | .fix k=>bif zM (zJ len n) k then
     match gB s (.ptr Y (zJ off (zK len esz))) new with
     |some s'=>some (.sl Y off (zJ len n) (.fix k),s')
     |none=>none
    else match cut cs off (zK len esz)with
     |some old=>grow s t esz bytes (old++new) (zJ len n)
     |none=>none
   | .opn esz'=>bif zI esz esz'&&e&& !fz then
     bif zM (zJ off (zK (zJ len n) esz)) (vC cs)then
      match gB s (.ptr Y (zJ off (zK len esz))) new with
      |some s'=>some (.sl Y off (zJ len n) (.opn esz),s')
      |none=>none
     else bif w8 new&&zI t0 t then match cut cs off (zK len esz)with
       |some old=>grow (s.del Y) t esz bytes (old++new) (zJ len n)
       |none=>none
      else none
    else none
  |_=>none
 |_=>none
def EU(s:U)(x:Z):zc:=
 match x with
 |.nils=>some (.nils,s)
 |.sl0=>some (.sl0,s)
 |.sl Y off len c=>match c with
  |.fix k=>bif zM len k then some (.sl Y off len c,s)else none
  |.opn _=>some (.sl Y off len c,s)
 |.lst n ex cs=>some (.lst n ex cs,s)
 |.gr Y esz n cs=>some (.gr Y esz n cs,s)
 |_=>none
def jo(s:U)(t esz bytes:Nat)(x y:Z):zc:=
 match gw y with
 |none=>none
 |some 0=>EU s x
 |some (Nat.succ n)=>match qQ s esz (Nat.succ n) y with
  |none=>none
  |some new=>ZZ s t esz bytes x (Nat.succ n) new
def QG(s:U)(t esz bytes:Nat)(zs:zA)(x y:Z):zc:=
 match y with
 |.int .i64 (.ofNat 0)=>none
 |.int .i64 (.ofNat (Nat.succ n))=>bif zM (zK (Nat.succ n) bytes) 281474976710656&&zL n 9223372036854775807 then ZZ s t esz bytes x (Nat.succ n) (reps (Nat.succ n) zs)else none
 |_=>none
def lJ(f:FK)(k:Z):zh->Nat->Option (Option (Nat×Z))
 |[],_=>some none
 |e::es,i=>match eq1 f k e.1 with
  |some true=>some (some (i,e.2.1))
  |some false=>lJ f k es (Nat.succ i)
  |none=>none
def sa(v:Z)(k:Z):zh->Nat->zh
 |[],_=>[]
 |e::es,0=>(k,v,e.2.2)::es
 |e::es,i+1=>e::sa v k es i
def nA:zh->Nat->zh
 |[],_=>[]
 |_::es,0=>es
 |e::es,i+1=>e::nA es i
def jM(seen:zy):zh->zh
 |[]=>[]
 |e::es=>bif Xi e.2.2 seen then jM seen es else e::jM seen es
def K0(last:Nat):zh->Bool
 |[]=>true
 |e::es=>bif zM last e.2.2 then K0 last es else false
def V4(b:Nat):zh->Option (Z×Z)
 |[]=>none
 |e::es=>bif zI e.2.2 b then some (e.1,e.2.1)else V4 b es
def vJ:Z:=.tup []
def ZA(n:Int):zp->zC
 |[]=>none
 |p::r=>bif eqI p.1 n then some p.2 else ZA n r
def Xr(n:Int)(v:Z):zp->zp
 |[]=>[(n,v)]
 |p::r=>bif eqI p.1 n then (n,v)::r else p::Xr n v r
def VV(n:Int):zp->zp
 |[]=>[]
 |p::r=>bif eqI p.1 n then r else p::VV n r
def b7(mx:Bool):Z->zA->zC
 |a,[]=>some a
 |.int k x,.int _ y::r=>bif (bif mx then ltI x y else ltI y x)then b7 mx (.int k y) r else b7 mx (.int k x) r
 |_,_=>none
def Zt(s:U):zC->zc
 |some v=>some (v,s)
 |none=>none
def aK(c a b:zC):zC:=
 match c with
 |some (.bool true)=>a
 |some (.bool false)=>b
 |_=>none
def Wj:zA->zC
 |v::_=>some v
 |[]=>none
def vLd(G:List zA)(s:U)(p:Z):zC:=
 match jE G s p 1 with
 |some l=>Wj l
 |none=>none
def WN(G:List zA)(s:U)(n:Nat)(p:Z):zC:=
 match jE G s p n with
 |some cs=>some (.agg cs)
 |none=>none
def oSt(s:U)(n:Nat)(p w:Z):zc:=
 bif zI (vC w.cells) n then
  match gB s p w.cells with
  |some s'=>some (vJ,s')
  |none=>none
 else none
def Rn(x:Z):zC:=
 match x with
 |.ptr i o=>some (.ptr i o)
 |.gptr g o=>some (.gptr g o)
 |.fn f a c=>some (.fn f a c)
 |.yld l=>some (.yld l)
 |.map m=>some (.map m)
 |.vp cs=>some (.vp cs)
 |_=>none
def EF(op:BinOp)(x y:Z):zC:=
 match x with
 |.int k a=>match y with
  |.int k' b=>jl op k a k' b
  |_=>none
 |.str a=>match y with
  |.str b=>Bt op a b
  |_=>none
 |_=>none
def Yd(k:EqK)(neg:Bool)(a b:Z):zC:=
 match eqV k a b with
 |some r=>some (.bool (bif neg then !r else r))
 |none=>none
def vUn(op:UnOp)(x:Z):zC:=
 match op with
 |.neg=>match x with
  |.int k n=>some (.int k (ji k (Int.sub 0 n)))
  |_=>none
 |.not=>match x with
  |.bool b=>some (.bool (!b))
  |_=>none
 | .xor=>match x with
  |.int k n=>match bits .xor k (bif k.signed then -1 else k.max) n with
   |some r=>some (.int k r)
   |none=>none
  |_=>none
 |.plus=>none
def vCi(k:IntKind)(x:Z):zC:=
 match x with
 |.int _ n=>some (.int k (ji k n))
 |_=>none
def Kh(s:U)(e:Nat)(x:Z):zc:=
 match x with
 | .str t=>bif zL (vC t) 9223372036854775808 then
   bif s.md then some (.lst (vC t) false (qo t),s)else some (.sl s.next 0 (vC t) (.opn 1),s.alloc (.row e (qo t) true false))
  else none
 |_=>none
def kW:zA->Option zy
 |[]=>some []
 | v::r=>match v with
  | .int .u8 (.ofNat n)=>bif zL n 256 then
    match kW r with
    |some l=>some (n::l)
    |none=>none
   else none
  |_=>none
def UH:Option zy->zC
 |some b=>some (.str b)
 |none=>none
def km:Option zA->Option zy
 |some l=>kW l
 |none=>none
def EH(s:U)(x:Z):zC:=
 match x with
 |.nils=>some (.str [])
 |.sl0=>some (.str [])
 |.sl Y off n _=>match s.get Y with
  |some (.row _ cs _ _)=>UH (km (cut cs off n))
  |some (.giv cs)=>UH (km (cut cs off n))
  |_=>none
 |.lst n _ cs=>UH (km (qf n cs))
 |.gr _ _ n cs=>UH (km (qf n cs))
 |_=>none
def vz(c:Nat):Bool:=bif zL c 55296 then true else (zM 57344 c&&zM c 1114111)
def J8(c:Nat):zy:=
 bif zL c 128 then [c]else bif zL c 2048 then [zJ 192 (zO c 64),zJ 128 (zN c 64)]
 else bif zL c 65536 then [zJ 224 (zO c 4096),zJ 128 (zN (zO c 64) 64),zJ 128 (zN c 64)]
 else [zJ 240 (zO c 262144),zJ 128 (zN (zO c 4096) 64),zJ 128 (zN (zO c 64) 64),zJ 128 (zN c 64)]
def La(b:Nat):Bool:=zI (zO b 64) 2
def Zz(b0 b1:Nat):Nat:=zJ (zK (zN b0 32) 64) (zN b1 64)
def ph(b0 b1 b2:Nat):Nat:=zJ (zJ (zK (zN b0 16) 4096) (zK (zN b1 64) 64)) (zN b2 64)
def XG(b0 b1 b2 b3:Nat):Nat:=zJ (zJ (zJ (zK (zN b0 8) 262144) (zK (zN b1 64) 4096)) (zK (zN b2 64) 64)) (zN b3 64)
def kg(l:zy):Nat×Nat:=
 match l with
 |[]=>(65533,1)
 | b0::r=>bif zL b0 128 then (b0,1)else
  match r with
  |[]=>(65533,1)
  | b1::r1=>bif zI (zO b0 32) 6&&La b1 then (bif zM 128 (Zz b0 b1)then (Zz b0 b1,2)else (65533,1))else
   match r1 with
   |[]=>(65533,1)
   |b2::r2=>bif zI (zO b0 16) 14&&La b1&&La b2 then (bif zM 2048 (ph b0 b1 b2)&&vz (ph b0 b1 b2)then (ph b0 b1 b2,3)else (65533,1))else
    match r2 with
    |[]=>(65533,1)
    |b3::_=>bif zI (zO b0 8) 30&&La b1&&La b2&&La b3 then (bif zM 65536 (XG b0 b1 b2 b3)&&vz (XG b0 b1 b2 b3)then (XG b0 b1 b2 b3,4)else (65533,1))else (65533,1)
def Lo(s:U)(e bytes:Nat)(zs:zA)(l c:Z):zc:=
 match l with
 | .int .i64 (.ofNat l)=>match c with
  | .int .i64 (.ofNat c)=>
   bif zM l c&&zM (zK c bytes) 281474976710656&&zL c 9223372036854775808 then
    some (.sl s.next 0 l (.fix c),s.alloc (.row e (reps c zs) false false))
   else none
  |_=>none
 |_=>none
def mE(x:Z)(lo hi:zC):zC:=
 match x with
 | .str t=>match bnd (vC t) hi (vC t)with
  |some h=>match bnd 0 lo h with
   |some l=>some (.str (HQ (zP h l) (L8 l t)))
   |none=>none
  |none=>none
 |_=>none
def dm(esz n:Nat)(ex:Bool)(cs:zA)(lo hi mx:zC):zC:=
 match mx with
 | none=>match bnd n hi n with
  |some h=>match bnd 0 lo h with
   |some l=>some (.lst (zP h l) (ex&&zI h n) (tkN (zK (zP h l) esz) (qv (zK l esz) cs)))
   |none=>none
  |none=>none
 | some m=>match bnd n (some m) n with
  | some m=>match bnd n hi m with
   |some h=>match bnd 0 lo h with
    |some l=>some (.lst (zP h l) (zI h m) (tkN (zK (zP h l) esz) (qv (zK l esz) cs)))
    |none=>none
   |none=>none
  |none=>none
def EI(Y off esz m len:Nat)(lo hi:zC):zC:=
 match bnd len hi m with
 |some h=>match bnd 0 lo h with
  |some l=>some (.sl Y (bif zI m l then off else zJ off (zK l esz)) (zP h l) (.fix (zP m l)))
  |none=>none
 |none=>none
def QE (esz:Nat)(x:Z)(lo hi mx:zC):zC:=
 match x with
 | .nils=>match bnd 0 mx 0 with
  | some _=>match bnd 0 hi 0 with
   |some _=>match bnd 0 lo 0 with
    |some _=>some .nils
    |none=>none
   |none=>none
  |none=>none
 | .sl0=>match mx with
  | none=>match bnd 0 hi 0 with
   |some _=>match bnd 0 lo 0 with
    |some _=>some .sl0
    |none=>none
   |none=>none
  |some _=>none
 | .sl Y off len c=>match c with
  |.fix c=>match bnd c mx c with
   |some m=>EI Y off esz m len lo hi
   |none=>none
  | .opn e=>bif zI e esz then
    match mx with
    | none=>match bnd len hi len with
     | some h=>match bnd 0 lo h with
      |some l=>bif zI l 0 then some (.sl Y off h (.opn e))
       else bif zL l len then some (.sl Y (zJ off (zK l esz)) (zP h l) (.opn e))
       else bif zI h l then some .sl0 else none
      |none=>none
     |none=>none
    |some mx=>match bnd len (some mx) len with
     |some m=>EI Y off esz m len lo hi
     |none=>none
   else none
 |.lst n ex cs=>dm esz n ex cs lo hi mx
 |.gr _ e n cs=>bif zI e esz then dm esz n false cs lo hi mx else none
 |_=>none
def vFa(off:Nat)(x:Z):zC:=
 match x with
 |.ptr Y o=>some (.ptr Y (zJ o off))
 |.gptr g o=>some (.gptr g (zJ o off))
 |.vp cs=>some (.vp (qv off cs))
 |_=>none
def VJ:Option zA->zC
 |some l=>some (.agg l)
 |none=>none
def vFd(off:Nat)(n:zD)(x:Z):zC:=
 match x with
 |.agg cs=>match n with
  |none=>Wj (qv off cs)
  |some n=>VJ (cut cs off n)
 |_=>none
def vIa(esz:Nat)(x i:Z):zC:=
 match x with
 |.sl Y off len _=>match idx i len with
  |some k=>some (.ptr Y (zJ off (zK k esz)))
  |none=>none
 |.lst n _ cs=>match idx i n with
  |some k=>some (.vp (qv (zK k esz) cs))
  |none=>none
 | .gr _ e n cs=>bif zI e esz then match idx i n with
   |some k=>some (.vp (qv (zK k esz) cs))
   |none=>none
  else none
 |_=>none
def mC(n esz:Nat)(x i:Z):zC:=
 match x with
 |.ptr Y off=>match idx i n with
  |some k=>some (.ptr Y (zJ off (zK k esz)))
  |none=>none
 |.gptr g off=>match idx i n with
  |some k=>some (.gptr g (zJ off (zK k esz)))
  |none=>none
 |.vp cs=>match idx i n with
  |some k=>some (.vp (qv (zK k esz) cs))
  |none=>none
 |_=>none
def dJ:zD->zC
 |some b=>some (.int .u8 (.ofNat b))
 |none=>none
def Ri(x i:Z):zC:=
 match x with
 |.str t=>match i with
  |.int _ (.ofNat i)=>dJ (fF t i)
  |_=>none
 |_=>none
def Ul(z:Z)(ok:Bool):Option (Option (Nat×Z))->zC
 |some (some p)=>some (bif ok then .tup [p.2,.bool true]else p.2)
 |some none=>some (bif ok then .tup [z,.bool false]else z)
 |none=>none
def lkU(z:Z)(ok:Bool):zC->Z
 |some v=>bif ok then .tup [v,.bool true]else v
 |none=>bif ok then .tup [z,.bool false]else z
def vLk(s:U)(f:FK)(z:Z)(ok:Bool)(m k:Z):zC:=
 match m with
 |.nilm=>Ul z ok (some none)
 | .map Y=>match s.get Y with
  |some (.map es _)=>Ul z ok (lJ f k es 0)
  | some (.umap es)=>match f with
   |.i=>match k with
    |.int .i64 n=>some (lkU z ok (ZA n es))
    |_=>none
   |_=>none
  |_=>none
 |_=>none
def oMu(s:U)(f:FK)(m k v:Z):zc:=
 match m with
 | .map Y=>match s.get Y with
  |some (.map es clock)=>match lJ f k es 0 with
   |some (some p)=>some (vJ,s.put Y (.map (sa v k es p.1) clock))
   |some none=>some (vJ,s.put Y (.map (es++[(k,v,clock)]) (Nat.succ clock)))
   |none=>none
  | some (.umap es)=>match f with
   |.i=>match k with
    |.int .i64 n=>some (vJ,s.put Y (.umap (Xr n v es)))
    |_=>none
   |_=>none
  |_=>none
 |_=>none
def oMd(s:U)(f:FK)(m k:Z):zc:=
 match m with
 |.nilm=>some (vJ,s)
 | .map Y=>match s.get Y with
  |some (.map es clock)=>match lJ f k es 0 with
   |some (some p)=>some (vJ,s.put Y (.map (nA es p.1) clock))
   |some none=>some (vJ,s.put Y (.map es clock))
   |none=>none
  | some (.umap es)=>match f with
   |.i=>match k with
    |.int .i64 n=>some (vJ,s.put Y (.umap (VV n es)))
    |_=>none
   |_=>none
  |_=>none
 |_=>none
def oRs(s:U)(x:Z):zc:=
 match x with
 |.str t=>some (.ptr s.next 0,s.alloc (.siter t 0))
 |_=>none
def oNs(s:U)(it:Z):zc:=
 match it with
 | .ptr Y 0=>match s.get Y with
  |some (.siter t pos)=>match L8 pos t with
   |b::r=>some (.tup [.bool true,.int .i64 (.ofNat pos),.int .i32 (.ofNat (kg (b::r)).1)],s.put Y (.siter t (zJ pos (kg (b::r)).2)))
   |[]=>some (.tup [.bool false],s)
  |_=>none
 |_=>none
def oRm(s:U)(x:Z):zc:=
 match x with
 |.nilm=>some (.ptr s.next 0,s.alloc (.miter none 0 [] 0))
 |.map Y=>match s.get Y with
  |some (.map _ clock)=>some (.ptr s.next 0,s.alloc (.miter (some Y) clock [] clock))
  |_=>none
 |_=>none
def Xy(s:U)(Y m since:Nat)(seen:zy)(clock:Nat):zh->zc
 |[]=>some (.tup [.bool false],s)
 |e::r=>match r with
  |[]=>bif zL e.2.2 since then some (.tup [.bool true,e.1,e.2.1],s.put Y (.miter (some m) since (seen++[e.2.2]) clock))else none
  |_::_=>none
def fG(seen:zy)(last:Nat)(es:zh):Bool:=
 match seen with
 |[]=>false
 |_::_=>match es with
  |[]=>false
  |_::_=>K0 last es
def oNm(s:U)(it:Z):zc:=
 match it with
 | .ptr Y 0=>match s.get Y with
  |some (.miter none _ _ _)=>some (.tup [.bool false],s)
  |some (.miter (some m) since seen last)=>match s.get m with
   |some (.map es clock)=>bif fG seen last es then none else Xy s Y m since seen clock (jM seen es)
   |_=>none
  |_=>none
 |_=>none
def QL:zy->zD
 |[]=>none
 |n::r=>match r with
  |[]=>some n
  |_::_=>QL r
def AH:Option (Z×Z)->zC
 |some p=>some (.tup [p.1,p.2])
 |none=>none
def vEn(s:U)(it:Z):zC:=
 match it with
 | .ptr Y 0=>match s.get Y with
  | some (.miter (some m) _ seen stepped)=>match QL seen with
   |some b=>match s.get m with
    |some (.map es clock)=>bif zI clock stepped then AH (V4 b es)else none
    |_=>none
   |none=>none
  |_=>none
 |_=>none
def vEx(x:Z)(i:Nat):zC:=
 match x with
 |.tup vs=>Wj (qv i vs)
 |_=>none
def Vy(s:U)(k:LK)(x:Z):zC:=
 match k with
 |.s=>match x with
  |.str t=>some (.int .i64 (.ofNat (vC t)))
  |_=>none
 |.v=>match x with
  |.nils=>some (.int .i64 (.ofNat 0))
  |.sl0=>some (.int .i64 (.ofNat 0))
  |.sl _ _ n _=>some (.int .i64 (.ofNat n))
  |.lst n _ _=>some (.int .i64 (.ofNat n))
  |.gr _ _ n _=>some (.int .i64 (.ofNat n))
  |_=>none
 | .m=>match x with
  |.nilm=>some (.int .i64 (.ofNat 0))
  |.map Y=>match s.get Y with
   |some (.map es _)=>some (.int .i64 (.ofNat (vC es)))
   |some (.umap es)=>some (.int .i64 (.ofNat (vC es)))
   |_=>none
  |_=>none
def EG(x:Z):zC:=
 match x with
 |.nils=>some (.int .i64 (.ofNat 0))
 |.sl _ _ _ (.fix n)=>some (.int .i64 (.ofNat n))
 |_=>none
def vMn(mx:Bool):zA->zC
 |v::r=>b7 mx v r
 |[]=>none
def eZ(c:Nat):zy->Nat->zD
 |[],_=>none
 |b::r,i=>bif zI b c then some i else eZ c r (Nat.succ i)
def zwl(x c:Z):zC:=
 match x with
 | .str t=>match c with
  |.int .u8 (.ofNat c)=>bif zL c 256 then match eZ c t 0 with
   |some i=>some (.int .i64 (.ofNat i))
   |none=>some (.int .i64 (.negSucc 0))else none
  |_=>none
 |_=>none
def v1(A:zB)(s:U)(x:Opd)(f:Z->zC):zc:=
 match x.ev A with
 |some v=>Zt s (f v)
 |none=>none
def v2(A:zB)(s:U)(x y:Opd)(f:Z->Z->zC):zc:=
 match x.ev A with
 |some v=>match y.ev A with
  |some w=>Zt s (f v w)
  |none=>none
 |none=>none
def o1(A:zB)(x:Opd)(f:Z->zc):zc:=
 match x.ev A with
 |some v=>f v
 |none=>none
def o2(A:zB)(x y:Opd)(f:Z->Z->zc):zc:=
 match x.ev A with
 |some v=>match y.ev A with
  |some w=>f v w
  |none=>none
 |none=>none
def o3(A:zB)(x y z:Opd)(f:Z->Z->Z->zc):zc:=
 match x.ev A with
 | some v=>match y.ev A with
  |some w=>match z.ev A with
   |some u=>f v w u
   |none=>none
  |none=>none
 |none=>none
def vs3(A:zB)(s:U)(x:Opd)(lo hi:Option Opd)(f:Z->zC->zC->zC):zc:=
 match x.ev A with
 | some v=>match evO A lo with
  |some l=>match evO A hi with
   |some h=>Zt s (f v l h)
   |none=>none
  |none=>none
 |none=>none
def vs4(A:zB)(s:U)(x:Opd)(lo hi mx:Option Opd)(f:Z->zC->zC->zC->zC):zc:=
 match evO A mx with
 |some m=>vs3 A s x lo hi (λv l h=>f v l h m)
 |none=>none
def vL(A:zB)(s:U)(l:List Opd)(f:zA->zC):zc:=
 match evL A l with
 |some vs=>Zt s (f vs)
 |none=>none
def vLL(A:zB)(s:U)(l m:List Opd)(f:zA->zA->zC):zc:=
 match evL A l with
 |some us=>match evL A m with
  |some vs=>Zt s (f us vs)
  |none=>none
 |none=>none
def Wv(s:U)(e:Nat)(zs:zA):zc:=some (.ptr s.next 0,s.alloc (.row e zs false false))
def ij(s:U)(e:Nat)(v:Z):zc:=some (.ptr s.next 0,s.alloc (.row e v.cells false false))
def Uo(s:U)(e len:Nat):Option zA->zc
 |some cs=>bif s.md&&wL cs then some (.lst len true cs,s)else some (.sl s.next 0 len (.fix len),s.alloc (.row e cs false false))
 |none=>none
def Up(um:Bool)(s:U):zc:=some (.map s.next,s.alloc (bif um then .umap []else .map [] 0))
abbrev Nq(x:Opd)(_G:Env)(A:zB)(s:U):zc:=v1 A s x some
abbrev iz(c:Opd)(a:Opd)(b:Opd)(_G:Env)(A:zB)(s:U):zc:=Zt s (aK (c.ev A) (a.ev A) (b.ev A))
abbrev Jh(e:Nat)(zs:zA)(_G:Env)(_tm:zB)(s:U):zc:=Wv s e zs
abbrev Am(e:Nat)(x:Opd)(_G:Env)(A:zB)(s:U):zc:=o1 A x (ij s e)
abbrev P0(zs:zA)(ps:zu)(_G:Env)(A:zB)(s:U):zc:=Zt s (VJ (lx zs A ps))
abbrev An(e:Nat)(zs:zA)(len:Nat)(ps:zu)(_G:Env)(A:zB)(s:U):zc:=Uo s e len (lx zs A ps)
abbrev Nl(x:Opd)(G:Env)(A:zB)(s:U):zc:=v1 A s x (vLd G.globs s)
abbrev Aw(n:Nat)(x:Opd)(G:Env)(A:zB)(s:U):zc:=v1 A s x (WN G.globs s n)
abbrev Nw(n:Nat)(x:Opd)(v:Opd)(_G:Env)(A:zB)(s:U):zc:=o2 A x v (oSt s n)
abbrev AB(x:Opd)(_G:Env)(A:zB)(s:U):zc:=v1 A s x Rn
abbrev Al(op:BinOp)(x:Opd)(y:Opd)(_G:Env)(A:zB)(s:U):zc:=v2 A s x y (EF op)
abbrev Ar(k:EqK)(neg:Bool)(x:Opd)(y:Opd)(_G:Env)(A:zB)(s:U):zc:=v2 A s x y (Yd k neg)
abbrev Nx(op:UnOp)(x:Opd)(_G:Env)(A:zB)(s:U):zc:=v1 A s x (vUn op)
abbrev Ng(k:IntKind)(x:Opd)(_G:Env)(A:zB)(s:U):zc:=v1 A s x (vCi k)
abbrev Aq(e:Nat)(x:Opd)(_G:Env)(A:zB)(s:U):zc:=o1 A x (Kh s e)
abbrev Ap(x:Opd)(_G:Env)(A:zB)(s:U):zc:=v1 A s x (EH s)
abbrev Az(t:Nat)(x:Opd)(_G:Env)(A:zB)(s:U):zc:=v1 A s x (λv=>some (.ifc t v))
abbrev Ay(f:Nat)(fst:List Opd)(cap:List Opd)(_G:Env)(A:zB)(s:U):zc:=vLL A s fst cap (λus vs=>some (.fn f us vs))
abbrev Yt(G:Env)(_tm:zB)(s:U):zc:=Up G.um s
abbrev AA(e:Nat)(_x1:Nat)(bytes:Nat)(zs:zA)(l:Opd)(c:Opd)(_G:Env)(A:zB)(s:U):zc:=o2 A l c (Lo s e bytes zs)
abbrev AD(x:Opd)(lo:Option Opd)(hi:Option Opd)(_G:Env)(A:zB)(s:U):zc:=vs3 A s x lo hi mE
abbrev AE(esz:Nat)(x:Opd)(lo:Option Opd)(hi:Option Opd)(mx:Option Opd)(_G:Env)(A:zB)(s:U):zc:=vs4 A s x lo hi mx (QE esz)
abbrev Nj(off:Nat)(x:Opd)(_G:Env)(A:zB)(s:U):zc:=v1 A s x (vFa off)
abbrev Nk(esz:Nat)(x:Opd)(i:Opd)(_G:Env)(A:zB)(s:U):zc:=v2 A s x i (vIa esz)
abbrev As(n:Nat)(esz:Nat)(x:Opd)(i:Opd)(_G:Env)(A:zB)(s:U):zc:=v2 A s x i (mC n esz)
abbrev Av(x:Opd)(i:Opd)(_G:Env)(A:zB)(s:U):zc:=v2 A s x i Ri
abbrev Nn(f:FK)(z:Z)(ok:Bool)(m:Opd)(k:Opd)(_G:Env)(A:zB)(s:U):zc:=v2 A s m k (vLk s f z ok)
abbrev Np(f:FK)(m:Opd)(k:Opd)(v:Opd)(_G:Env)(A:zB)(s:U):zc:=o3 A m k v (oMu s f)
abbrev No(f:FK)(m:Opd)(k:Opd)(_G:Env)(A:zB)(s:U):zc:=o2 A m k (oMd s f)
abbrev Nv(x:Opd)(_G:Env)(A:zB)(s:U):zc:=o1 A x (oRs s)
abbrev Nt(it:Opd)(_G:Env)(A:zB)(s:U):zc:=o1 A it (oNs s)
abbrev Nu(x:Opd)(_G:Env)(A:zB)(s:U):zc:=o1 A x (oRm s)
abbrev Ns(it:Opd)(_G:Env)(A:zB)(s:U):zc:=o1 A it (oNm s)
abbrev Nh(it:Opd)(_G:Env)(A:zB)(s:U):zc:=v1 A s it (vEn s)
abbrev Ni(x:Opd)(i:Nat)(_G:Env)(A:zB)(s:U):zc:=v1 A s x (λv=>vEx v i)
abbrev Nf(_:Nat)(_:List Opd)(_G:Env)(_tm:zB)(_s:U):zc:=none
abbrev zxL(_:Opd)(_:List Opd)(_G:Env)(_tm:zB)(_s:U):zc:=none
abbrev Ax(k:LK)(x:Opd)(_G:Env)(A:zB)(s:U):zc:=v1 A s x (Vy s k)
abbrev Ao(x:Opd)(_G:Env)(A:zB)(s:U):zc:=v1 A s x EG
abbrev Ak(e:Nat)(esz:Nat)(bytes:Nat)(x:Opd)(y:Opd)(_G:Env)(A:zB)(s:U):zc:=o2 A x y (jo s e esz bytes)
abbrev iw(e:Nat)(esz:Nat)(bytes:Nat)(zs:zA)(x:Opd)(y:Opd)(_G:Env)(A:zB)(s:U):zc:=o2 A x y (QG s e esz bytes zs)
abbrev Au(x:Opd)(c:Opd)(_G:Env)(A:zB)(s:U):zc:=v2 A s x c zwl
abbrev AC(x:Opd)(_G:Env)(A:zB)(s:U):zc:=v1 A s x some
abbrev AF(_G:Env)(_tm:zB)(_s:U):zc:=none
def opv(G:Env)(op:IOp)(A:zB)(s:U):zc:=
 IOp.rec (motive:=λ_=>Env->zB->U->zc) Nq iz Jh Am P0 An Nl Aw Nw AB Al Ar Nx Ng Aq Ap Az Ay Yt AA AD AE Nj Nk As Av Nn Np No Nv Nt Nu Ns Nh Ni Nf zxL Ax Ao Ak iw Au AC AF op G A s
def uB(A:zB)(d:zD)(v:Z):zB:=
 match d with
 |some i=>A.set i v
 |none=>A
def qG:zB->Nat->zA->zB
 |A,_,[]=>A
 |A,i,v::r=>qG (A.set i v) (Nat.succ i) r
def ZX:zB->zy->zA->Option zB
 |A,[],[]=>some A
 |A,p::ps,v::vs=>ZX (A.set p v) ps vs
 |_,_,_=>none
def pI(g:Option (Nat×Bool))(A:zB):Option Bool:=
 match g with
 |none=>some true
 |some (i,w)=>match A.get i with
  |some (.bool b)=>some (b==w)
  |some _=>some false
  |none=>none
def lC(G:List zA)(A:zB)(s:U):List RV->Option zA
 |[]=>some []
 | r ::rest=>match (match r with
   |.t i=>A.get i
   | .c1 a=>match A.get a with
    |some p=>match jE G s p 1 with
     |some (v::_)=>some v
     |_=>none
    |none=>none
   | .cn a n=>match A.get a with
    |some p=>match jE G s p n with
     |some cs=>some (.agg cs)
     |none=>none
    |none=>none:zC),lC G A s rest with
  |some v,some vs=>some (v::vs)
  |_,_=>none
def jP:zA->Z
 |[v]=>v
 |vs=>.tup vs
def vB(s:U):zy->Option U
 |[]=>some s
 |d::r=>match s.get d with
  |some .dfd=>vB (s.put d .dfd0) r
  |_=>none
def Vv:zC->Option zy
 |some (.ptr Y _)=>some [Y]
 |some (.sl Y _ _ _)=>some [Y]
 |some (.map Y)=>some [Y]
 |some _=>some []
 |none=>none
def UA:zC->Option zy
 |some (.ptr Y _)=>some [Y]
 |some (.sl Y _ _ _)=>some [Y]
 |some (.map Y)=>some [Y]
 |some (.gr Y _ _ _)=>some [Y]
 |some _=>some []
 |none=>none
def aC(a b:Option zy):Option zy:=
 match a,b with
 |some a,some b=>some (a++b)
 |_,_=>none
def vN(op:IOp)(A:zB):Option zy:=
 match op with
 |.ld x|.ldn _ x|.st _ x _|.lk _ _ _ x _|.mu _ x _ _|.md _ x _|.len _ x|.cbs x|.rm x=>Vv (x.ev A)
 |.app _ _ _ x y=>aC (UA (x.ev A)) (Vv (y.ev A))
 |.appz _ _ _ _ x _=>UA (x.ev A)
 |.call _ _|.cv _ _|.ns _|.nm _|.en _=>none
 |_=>some []
structure LogE where
 idx:Nat
 lo:Nat
 hi:Nat
 tch:Option zy
 wm:Nat
def ue(deps:Nat):List LogE->zi->zi
 |[],h=>h
 |e::r,h=>bif zI e.lo e.hi||deps.testBit e.idx then ue deps r h else (e.lo,e.hi)::ue deps r h
def offMask(m:Nat):Option zy->Bool
 |none=>false
 |some l=>go l
 where
 go:zy->Bool
 |[]=>true
 |a::r=>bif m.testBit a then false else go r
def kJ(deps:Nat)(tch:Option zy)(wm:Nat):List LogE->Bool
 |[]=>true
 |e::r=>bif deps.testBit e.idx then kJ deps tch wm r
  else bif (zI wm 0||offMask wm e.tch)&&(zI e.wm 0||offMask e.wm tch)then kJ deps tch wm r else false
structure Self where
 call:Nat->zA->U->zc
 loop:zD->ICode->Fr->U->zj
 round:Nat->zA->U->zc
def bB(S:Self)(x:zC)(vs:Option zA)(s:U):zc:=
 match vs with
 |some vs=>match x with
  |some (.fn f a c)=>S.call f (a++vs++c) s
  |some (.yld l)=>S.round l vs s
  |_=>none
 |none=>none
def eT(S:Self)(f:Nat)(vs:Option zA)(s:U):zc:=
 match vs with
 |some vs=>S.call f vs s
 |none=>none
abbrev Ih(f:Nat)(args:List Opd)(_G:Env)(S:Self)(A:zB)(s:U):zc:=eT S f (evL A args) s
abbrev zy4(x:Opd)(args:List Opd)(_G:Env)(S:Self)(A:zB)(s:U):zc:=bB S (x.ev A) (evL A args) s
abbrev zxd(y0:Opd)(G:Env)(_S:Self)(A:zB)(s:U):zc:=Nq y0 G A s
abbrev Ij(y0:Opd)(y1:Opd)(y2:Opd)(G:Env)(_S:Self)(A:zB)(s:U):zc:=iz y0 y1 y2 G A s
abbrev Cu(y0:Nat)(y1:zA)(G:Env)(_S:Self)(A:zB)(s:U):zc:=Jh y0 y1 G A s
abbrev Sv(y0:Nat)(y1:Opd)(G:Env)(_S:Self)(A:zB)(s:U):zc:=Am y0 y1 G A s
abbrev Cw(y0:zA)(y1:zu)(G:Env)(_S:Self)(A:zB)(s:U):zc:=P0 y0 y1 G A s
abbrev Sw(y0:Nat)(y1:zA)(y2:Nat)(y3:zu)(G:Env)(_S:Self)(A:zB)(s:U):zc:=An y0 y1 y2 y3 G A s
abbrev zy9(y0:Opd)(G:Env)(_S:Self)(A:zB)(s:U):zc:=Nl y0 G A s
abbrev SF(y0:Nat)(y1:Opd)(G:Env)(_S:Self)(A:zB)(s:U):zc:=Aw y0 y1 G A s
abbrev zxi(y0:Nat)(y1:Opd)(y2:Opd)(G:Env)(_S:Self)(A:zB)(s:U):zc:=Nw y0 y1 y2 G A s
abbrev SK(y0:Opd)(G:Env)(_S:Self)(A:zB)(s:U):zc:=AB y0 G A s
abbrev Su(y0:BinOp)(y1:Opd)(y2:Opd)(G:Env)(_S:Self)(A:zB)(s:U):zc:=Al y0 y1 y2 G A s
abbrev SA(y0:EqK)(y1:Bool)(y2:Opd)(y3:Opd)(G:Env)(_S:Self)(A:zB)(s:U):zc:=Ar y0 y1 y2 y3 G A s
abbrev zxj(y0:UnOp)(y1:Opd)(G:Env)(_S:Self)(A:zB)(s:U):zc:=Nx y0 y1 G A s
abbrev zy3(y0:IntKind)(y1:Opd)(G:Env)(_S:Self)(A:zB)(s:U):zc:=Ng y0 y1 G A s
abbrev Sz(y0:Nat)(y1:Opd)(G:Env)(_S:Self)(A:zB)(s:U):zc:=Aq y0 y1 G A s
abbrev Sy(y0:Opd)(G:Env)(_S:Self)(A:zB)(s:U):zc:=Ap y0 G A s
abbrev SI(y0:Nat)(y1:Opd)(G:Env)(_S:Self)(A:zB)(s:U):zc:=Az y0 y1 G A s
abbrev SH(y0:Nat)(y1:List Opd)(y2:List Opd)(G:Env)(_S:Self)(A:zB)(s:U):zc:=Ay y0 y1 y2 G A s
abbrev Ii(G:Env)(_S:Self)(A:zB)(s:U):zc:=Yt  G A s
abbrev SJ(y0:Nat)(y1:Nat)(y2:Nat)(y3:zA)(y4:Opd)(y5:Opd)(G:Env)(_S:Self)(A:zB)(s:U):zc:=AA y0 y1 y2 y3 y4 y5 G A s
abbrev SM(y0:Opd)(y1:Option Opd)(y2:Option Opd)(G:Env)(_S:Self)(A:zB)(s:U):zc:=AD y0 y1 y2 G A s
abbrev SN(y0:Nat)(y1:Opd)(y2:Option Opd)(y3:Option Opd)(y4:Option Opd)(G:Env)(_S:Self)(A:zB)(s:U):zc:=AE y0 y1 y2 y3 y4 G A s
abbrev zy7(y0:Nat)(y1:Opd)(G:Env)(_S:Self)(A:zB)(s:U):zc:=Nj y0 y1 G A s
abbrev zy8(y0:Nat)(y1:Opd)(y2:Opd)(G:Env)(_S:Self)(A:zB)(s:U):zc:=Nk y0 y1 y2 G A s
abbrev SB(y0:Nat)(y1:Nat)(y2:Opd)(y3:Opd)(G:Env)(_S:Self)(A:zB)(s:U):zc:=As y0 y1 y2 y3 G A s
abbrev SE(y0:Opd)(y1:Opd)(G:Env)(_S:Self)(A:zB)(s:U):zc:=Av y0 y1 G A s
abbrev zxa(y0:FK)(y1:Z)(y2:Bool)(y3:Opd)(y4:Opd)(G:Env)(_S:Self)(A:zB)(s:U):zc:=Nn y0 y1 y2 y3 y4 G A s
abbrev zxc(y0:FK)(y1:Opd)(y2:Opd)(y3:Opd)(G:Env)(_S:Self)(A:zB)(s:U):zc:=Np y0 y1 y2 y3 G A s
abbrev zxb(y0:FK)(y1:Opd)(y2:Opd)(G:Env)(_S:Self)(A:zB)(s:U):zc:=No y0 y1 y2 G A s
abbrev zxh(y0:Opd)(G:Env)(_S:Self)(A:zB)(s:U):zc:=Nv y0 G A s
abbrev zxf(y0:Opd)(G:Env)(_S:Self)(A:zB)(s:U):zc:=Nt y0 G A s
abbrev zxg(y0:Opd)(G:Env)(_S:Self)(A:zB)(s:U):zc:=Nu y0 G A s
abbrev zxe(y0:Opd)(G:Env)(_S:Self)(A:zB)(s:U):zc:=Ns y0 G A s
abbrev zy5(y0:Opd)(G:Env)(_S:Self)(A:zB)(s:U):zc:=Nh y0 G A s
abbrev zy6(y0:Opd)(y1:Nat)(G:Env)(_S:Self)(A:zB)(s:U):zc:=Ni y0 y1 G A s
abbrev SG(y0:LK)(y1:Opd)(G:Env)(_S:Self)(A:zB)(s:U):zc:=Ax y0 y1 G A s
abbrev Sx(y0:Opd)(G:Env)(_S:Self)(A:zB)(s:U):zc:=Ao y0 G A s
abbrev Ss(y0:Nat)(y1:Nat)(y2:Nat)(y3:Opd)(y4:Opd)(G:Env)(_S:Self)(A:zB)(s:U):zc:=Ak y0 y1 y2 y3 y4 G A s
abbrev Ig(y0:Nat)(y1:Nat)(y2:Nat)(y3:zA)(y4:Opd)(y5:Opd)(G:Env)(_S:Self)(A:zB)(s:U):zc:=iw y0 y1 y2 y3 y4 y5 G A s
abbrev SD(y0:Opd)(y1:Opd)(G:Env)(_S:Self)(A:zB)(s:U):zc:=Au y0 y1 G A s
abbrev SL(y0:Opd)(G:Env)(_S:Self)(A:zB)(s:U):zc:=AC y0 G A s
abbrev SO(G:Env)(_S:Self)(A:zB)(s:U):zc:=AF  G A s
def vU(G:Env)(S:Self)(op:IOp)(A:zB)(s:U):zc:=
 IOp.rec (motive:=λ_=>Env->Self->zB->U->zc) zxd Ij Cu Sv Cw Sw zy9 SF zxi SK Su SA zxj zy3 Sz Sy SI SH Ii SJ SM SN zy7 zy8 SB SE zxa zxc zxb zxh zxf zxg zxe zy5 zy6 Ih zy4 SG Sx Ss Ig SD SL SO op G S A s
def stS(A:zB)(d:zD):zc->Option (zB×U)
 |some p=>some (uB A d p.1,p.2)
 |none=>none
def Ko(n:Nat)(p:IOp):SOper:=⟨some n,p,none⟩
def Kg(n:Nat)(p:IOp)(c:Nat)(b:Bool):SOper:=⟨some n,p,some (c,b)⟩
def Kn(p:IOp):SOper:=⟨none,p,none⟩
def Kd(n:Nat)(p:IOp)(m:Nat):DOper:=⟨⟨some n,p,none⟩,m⟩
def Ke(n:Nat)(p:IOp)(c:Nat)(b:Bool)(m:Nat):DOper:=⟨⟨some n,p,some (c,b)⟩,m⟩
def Kf(p:IOp)(m:Nat):DOper:=⟨⟨none,p,none⟩,m⟩
def Ki(n:Nat):Opd:=.c (.int .i64 (.ofNat n))
def kb(t:IntKind)(l:zy):zA:=l.map λn=>.int t (.ofNat n)
def Zv(G:Env)(S:Self)(o:SOper)(A:zB)(s:U):Option (zB×U):=
 match pI o.guard A with
 |some true=>stS A o.dst (vU G S o.op A s)
 |some false=>some (uB A o.dst vJ,s)
 |none=>none
def evS(G:Env)(S:Self):List SOper->zB->U->Option (zB×U)
 |[],A,s=>some (A,s)
 |o::r,A,s=>match Zv G S o A s with
  |some p=>evS G S r p.1 p.2
  |none=>none
def jj(o:DOper)(log:List LogE)(A:zB)(s:U):U:=
 {s with hide:=ue o.deps log s.hide,only:=(vN o.o.op A).map λl=>(s.next,l),wm:=0}
def vn(m n:Nat):Nat:=zN m (Nat.pow 2 n)
def Lg(o:DOper)(i:Nat)(log:List LogE)(A:zB)(s:U):zc->Option (List LogE×zB×U)
 | some p=>bif kJ o.deps (vN o.o.op A) (vn p.2.wm s.next) log then
   some ({idx:=i,lo:=s.next,hi:=p.2.next,tch:=vN o.o.op A,wm:=vn p.2.wm s.next}::log,uB A o.o.dst p.1,{p.2 with hide:=s.hide,only:=s.only,wm:=Nat.lor s.wm p.2.wm})
  else none
 |none=>none
def YD(G:Env)(S:Self)(o:DOper)(i:Nat)(log:List LogE)(A:zB)(s:U):Option (List LogE×zB×U):=
 match pI o.o.guard A with
 |some true=>Lg o i log A s (vU G S o.o.op A (jj o log A s))
 |some false=>some (log,uB A o.o.dst vJ,s)
 |none=>none
def evD(G:Env)(S:Self):zt->Nat->List LogE->zB->U->Option (zB×U)
 |[],_,_,A,s=>some (A,s)
 |o::r,i,log,A,s=>match YD G S o i log A s with
  |some p=>evD G S r (Nat.succ i) p.1 p.2.1 p.2.2
  |none=>none
def kN(df:zy):Option (zB×U)->zj
 |some p=>some (.norm,{A:=p.1,df:=df},p.2)
 |none=>none
def ge(k:Fr->U->zj):zj->zj
 |some p=>match p.1 with
  |.norm=>k p.2.1 p.2.2
  |_=>some p
 |none=>none
def JN(c:zC)(a b:Fr->U->zj)(fr:Fr)(s:U):zj:=
 match c with
 |some (.bool true)=>a fr s
 |some (.bool false)=>b fr s
 |_=>none
def lP(Y:Nat):zj->zj
 |some p=>match p.1 with
  |.exit i=>bif zI i Y then some (.norm,p.2)else some p
  |_=>some p
 |none=>none
def iC:Option Res->Res
 |none=>.norm
 |some r=>r
def ZV(fr:Fr)(l d:Nat):zc->zj
 | some p=>match p.2.get l with
  |some (.loop st pend A ps asg body dd)=>match st with
   |.busy=>none
   |_=>some (iC pend,{fr with df:=d::fr.df},p.2.put l (.loop .exhausted pend A ps asg body dd))
  |_=>none
 |none=>none
def rfR(S:Self)(rd:zD)(g:zC)(ps:zy)(asg body:ICode)(fr:Fr)(s:U):zj:=
 match rd with
 |none=>match g with
  |some (.fn f a c)=>ZV fr (Nat.succ s.next) s.next (S.call f (a++ .yld (Nat.succ s.next)::c) ((s.alloc .dfd).alloc (.loop .ready none fr.A ps asg body s.next)))
  |_=>none
 |some _=>none
def JY(G:Env)(S:Self)(ops:zt)(fr:Fr)(s:U):zj:=
 match s.only with
 |none=>kN fr.df (evD G S ops 0 [] fr.A s)
 |some _=>none
def eH:List SOper->zy
 |[]=>[]
 |o::r=>match o.dst with
  |some i=>i::eH r
  |none=>eH r
def zye:zt->zy
 |[]=>[]
 |o::r=>match o.o.dst with
  |some i=>i::zye r
  |none=>zye r
mutual
def eqW:Z->Z->Bool
 |.bool a,.bool b=>a==b
 |.int k n,.int k' m=>j8 k k'&&eqI n m
 |.str a,.str b=>eqS a b
 |.nils,.nils=>true
 |.nilp,.nilp=>true
 |.sl0,.sl0=>true
 |.nilm,.nilm=>true
 |.nili,.nili=>true
 |.nilf,.nilf=>true
 |.ptr i o,.ptr j p=>zI i j&&zI o p
 |.gptr i o,.gptr j p=>zI i j&&zI o p
 |.map i,.map j=>zI i j
 |.sl i o n c,.sl j p m d=>zI i j&&zI o p&&zI n m&&(match c,d with
  |.fix x,.fix y=>zI x y
  |.opn x,.opn y=>zI x y
  |_,_=>false)
 |.agg a,.agg b=>zyY a b
 |.lst n e a,.lst m f b=>zI n m&&(e==f)&&zyY a b
 |_,_=>false
def zyY:List Z->List Z->Bool
 |[],[]=>true
 |a::x,b::y=>eqW a b&&zyY x y
 |_,_=>false
end
def evC(G:Env)(S:Self)(rd:zD):ICode->Fr->U->zj
 |.skip,fr,s=>some (.norm,fr,s)
 |.reg ops,fr,s=>kN fr.df (evS G S ops fr.A s)
 |.regd ops,fr,s=>JY G S ops fr s
 |.seq a b,fr,s=>ge (evC G S rd b) (evC G S rd a fr s)
 |.cond c a b,fr,s=>JN (c.ev fr.A) (evC G S rd a) (evC G S rd b) fr s
 |.block Y b,fr,s=>lP Y (evC G S rd b fr s)
 |.loop b,fr,s=>ge (S.loop rd b) (evC G S rd b fr s)
 |.exit Y,fr,s=>some (.exit Y,fr,s)
 |.ret,fr,s=>some (.ret,fr,s)
 |.rf g ps asg body,fr,s=>rfR S rd (g.ev fr.A) ps asg body fr s
 |.stk,_,_=>none
def Vs(G:List zA)(A:zB)(s:U)(res:List RV):zc:=
 match lC G A s res with
 |some vs=>some (jP vs,s)
 |none=>none
def qJ(G:List zA)(res:List RV):zj->zc
 | some p=>match p.1 with
  |.exit _=>none
  |_=>match vB p.2.2 p.2.1.df with
   |some s=>Vs G p.2.1.A s res
   |none=>none
 |none=>none
def XO(n0:Nat):Z->zC
 |.gr Y esz n cs=>bif zM n0 Y then some (.lst n false cs)else some (.gr Y esz n cs)
 |.ptr Y off=>bif zL Y n0 then some (.ptr Y off)else none
 |.sl Y off len c=>bif zL Y n0 then some (.sl Y off len c)else none
 |.map Y=>bif zL Y n0 then some (.map Y)else none
 |v=>bif qg v then some v else none
def V9(n0:Nat):zA->Option zA
 |[]=>some []
 | v::r=>match XO n0 v with
  |some v=>match V9 n0 r with
   |some r=>some (v::r)
   |none=>none
  |none=>none
def J9(n0:Nat):Z->zC
 |.agg cs=>match V9 n0 cs with
  |some l=>some (.agg l)
  |none=>none
 |v=>XO n0 v
def Ua(n0:Nat):zA->Option zA
 |[]=>some []
 | v::r=>match J9 n0 v with
  |some v=>match Ua n0 r with
   |some r=>some (v::r)
   |none=>none
  |none=>none
def XP(n0:Nat):Z->zC
 |.tup vs=>match Ua n0 vs with
  |some l=>some (.tup l)
  |none=>none
 |v=>J9 n0 v
def grW:Z->Z
 |.gr _ _ n cs=>.lst n false cs
 |v=>v
def Tl:zA->zA
 |[]=>[]
 |v::r=>grW v::Tl r
def zyD:Z->Z
 |.agg cs=>.agg (Tl cs)
 |v=>v
def zyE:zA->zA
 |[]=>[]
 |v::r=>zyD v::zyE r
def agW:Z->Z
 |.agg cs=>.agg (Tl cs)
 |.tup vs=>.tup (zyE vs)
 |v=>v
def Yu(s:U):zc->zc
 |some p=>match (bif zI (vn p.2.wm s.next) 0 then XP s.next p.1 else none)with
  |some v=>some (v,s)
  |none=>some (agW p.1,{p.2 with wm:=Nat.lor s.wm p.2.wm,md:=s.md})
 |none=>none
def mdR(b:Bool):zc->zc
 |some p=>some (p.1,{p.2 with md:=b})
 |none=>none
def XU(E:Env)(S:Self)(F:IFunc)(args:zA)(s:U):zc:=
 qJ E.globs F.res (evC E S none F.body {A:=qG .leaf 0 args,df:=[]} s)
def jp(E:Env)(S:Self)(f:Nat)(args:zA)(s:U):zc:=
 match E.funs.get f with
 | some F=>bif zM (vC args) F.ntmps then
   bif E.pure f then Yu s (XU E S F args {s with wm:=0,md:=true})else mdR s.md (XU E S F args {s with md:=false})
  else none
 |none=>none
def kl(l:Nat):zj->zc
 | some p=>match p.2.2.get l with
  |some (.loop _ _ A ps asg body d)=>match p.1 with
   |.norm=>some (.bool true,p.2.2.put l (.loop .ready none A ps asg body d))
   |r=>some (.bool false,p.2.2.put l (.loop .done (some r) A ps asg body d))
  |_=>none
 |none=>none
def uR(E:Env)(S:Self)(l:Nat)(bd:ICode):zj->zc
 | some p=>match p.1 with
  |.norm=>match p.2.2.get l with
   |some (.loop .ready pend A ps asg body d)=>kl l (evC E S (some l) bd p.2.1 (p.2.2.put l (.loop .busy pend A ps asg body d)))
   |_=>none
  |_=>none
 |none=>none
def gu(E:Env)(S:Self)(l:Nat)(args:zA)(s:U):zc:=
 match s.get l with
 |some (.loop _ _ A ps asg body _)=>match ZX A ps args with
  |some tm1=>uR E S l body (evC E S (some l) asg {A:=tm1,df:=[]} s)
  |none=>none
 |_=>none
def ev(E:Env):Nat->Self
 |0=>⟨λ_ _ _=>none,λ_ _ _ _=>none,λ_ _ _=>none⟩
 |n+1=>⟨λf args s=>jp E (ev E n) f args s,λrd b fr s=>evC E (ev E n) rd (.loop b) fr s,λl args s=>gu E (ev E n) l args s⟩
def s0:U:=⟨.leaf,0,0,[],none,false⟩
end
end Go.Proofs.YtbddpjboppmnfaaGreatDoor.Ev

/- A part of the evaluator and of its soundness: what it answers, the model's run answers. No conditions. -/
import GoSem.Dispatch
import GoSem.Machine.Frame
set_option linter.unusedSimpArgs false
set_option linter.unusedVariables false
set_option linter.defProp false
noncomputable section
open Nat renaming beq → zD, add → zE, mul → zF, blt → zG, ble → zH, mod → zI, div → zJ, sub → zK, casesOn → zL
namespace Go.Proofs.YtbdfljdgapkbcaaGreatDoor.Ev
abbrev Y{α:Sort _}(a:α):=a
abbrev zc:=List (List Int)
abbrev ze:=Option (Nat×List Nat)
abbrev zg:=List (Nat×Nat)
abbrev zm:=List (Int×Int)
abbrev zn:=Array Value
abbrev zq:=List Int
abbrev zr:=List Nat
abbrev zw:=Option Nat
abbrev zy:=List Value
abbrev zA:=List MapEntry
def x7{α:Type _}{a b:α}:(some a=some b)=(a=b):=Option.some.injEq a b
def wF{α:Type _}{β:Type _}{a c:α}{b d:β}:((a,b)=(c,d))=(a=c/\b=d):=Prod.mk.injEq a b c d
def qJ{α:Type _}{a c:α}{b d:List α}:(a::b=c::d)=(a=c/\b=d):=List.cons.injEq a b c d
def x0{c:Prop}{h:Decidable c}(n:¬c){α:Sort _}{t e:α}:ite c t e=e:=if_neg n
def wc{c:Prop}{h:Decidable c}(n:c){α:Sort _}{t e:α}:ite c t e=t:=if_pos n
theorem x6{α:Sort _}{a b:α}:cond true a b=a:=rfl
theorem wh{α:Sort _}{a b:α}:cond false a b=b:=rfl
def qp{p:Prop}[h:Decidable p](x:p):decide p=true:=decide_eq_true x
def qb{p:Prop}[h:Decidable p](x:¬p):decide p=false:=decide_eq_false x
def jm{p:Prop}[h:Decidable p]:(decide p=true)=p:=decide_eq_true_eq
def J{p:Prop}(h:p:=by omega):p:=h
noncomputable section
inductive Trie (α:Type) where
 |leaf
 |node (v:Option α) (l r:Trie α)
def Trie.get{α:Type}(t:Trie α):Nat->Option α:=
 Trie.rec (motive:=λ_=>Nat->Option α) (λ_=>none) (λv _ _ l r n=>zL (motive:=λ_=>Option α) n v λ_=>cond (zD (zI n 2) 1) (l (zJ n 2)) (r (Nat.pred (zJ n 2)))) t
def Trie.setF{α:Type}(f:Nat):Trie α->Nat->Option α->Trie α:=
 Nat.rec (motive:=λ_=>Trie α->Nat->Option α->Trie α) (λt _ _=>t)
  (λ_ ih t n v=>Trie.casesOn (motive:=λ_=>Trie α) t
   (zL (motive:=λ_=>Trie α) n (.node v .leaf .leaf) λ_=>cond (zD (zI n 2) 1) (.node none (ih .leaf (zJ n 2) v) .leaf) (.node none .leaf (ih .leaf (Nat.pred (zJ n 2)) v)))
   λw l r=>zL (motive:=λ_=>Trie α) n (.node v l r) λ_=>cond (zD (zI n 2) 1) (.node w (ih l (zJ n 2) v) r) (.node w l (ih r (Nat.pred (zJ n 2)) v))) f
def Trie.set{α:Type}(t:Trie α)(n:Nat)(v:α):Trie α:=t.setF (Nat.succ n) n (some v)
def Trie.del{α:Type}(t:Trie α)(n:Nat):Trie α:=t.setF (Nat.succ n) n none
inductive Cap where
 |fix (n:Nat)
 |opn (esz:Nat)
inductive Z where
 |bool (b:Bool)
 |int (k:IntKind) (n:Int)
 |str (s:List Nat)
 |ptr (Y off:Nat)
 |nilp
 |gptr (g off:Nat)
 |sl (Y off len:Nat) (c:Cap)
 |sl0
 |nils
 |map (Y:Nat)
 |nilm
 |fn (f:Nat) (fst cap:List Z)
 |nilf
 |yld (l:Nat)
 |ifc (t:Nat) (v:Z)
 |nili
 |agg (cs:List Z)
 |tup (vs:List Z)
 /--a slice whose cells are never written again;ex:its capacity is its length -/
 |lst (n:Nat) (ex:Bool) (cs:List Z)
 /--such a slice that may grow:Y says whether it may still -/
 |gr (Y esz n:Nat) (cs:List Z)
 /--a pointer to cells that are never written again -/
 |vp (cs:List Z)
 deriving Inhabited
abbrev zf:=List (Z×Z×Nat)
abbrev zl:=List (Int×Z)
abbrev zt:=List Z
abbrev zu:=Trie Z
abbrev zv:=Option Z
inductive Opd where
 |t (i:Nat)
 |c (v:Z)
 deriving Inhabited
abbrev zp:=List (Nat×Nat×Opd)
inductive FK where
 |i|s|b
 deriving DecidableEq
inductive EqK where
 |basic|bool|ptr|slice|map|func|iface|ifacec
 |flat (ks:List FK)
 deriving DecidableEq
inductive LK where
 |s|v|m
 deriving DecidableEq
inductive IOp where
 |mv (x:Opd)
 |pick (c a b:Opd)
 |alloc (e:Nat) (zs:List Z)
 |box (e:Nat) (x:Opd)
 |build (zs:List Z) (ps:List (Nat×Nat×Opd))
 |bsl (e:Nat) (zs:List Z) (len:Nat) (ps:List (Nat×Nat×Opd))
 |ld (x:Opd)
 |ldn (n:Nat) (x:Opd)
 |st (n:Nat) (x v:Opd)
 |nck (x:Opd)
 |bin (op:BinOp) (x y:Opd)
 |eqk (k:EqK) (neg:Bool) (x y:Opd)
 |un (op:UnOp) (x:Opd)
 |ci (k:IntKind) (x:Opd)
 |csb (e:Nat) (x:Opd)
 |cbs (x:Opd)
 |mif (t:Nat) (x:Opd)
 |mfn (f:Nat) (fst cap:List Opd)
 |mmap
 |msl (e esz bytes:Nat) (zs:List Z) (l c:Opd)
 |sls (x:Opd) (lo hi:Option Opd)
 |slv (esz:Nat) (x:Opd) (lo hi mx:Option Opd)
 |fa (off:Nat) (x:Opd)
 |ia (esz:Nat) (x i:Opd)
 |iaa (n esz:Nat) (x i:Opd)
 |ixs (x i:Opd)
 |lk (f:FK) (z:Z) (ok:Bool) (m k:Opd)
 |mu (f:FK) (m k v:Opd)
 |md (f:FK) (m k:Opd)
 |rs (x:Opd)
 |ns (it:Opd)
 |rm (x:Opd)
 |nm (it:Opd)
 |en (it:Opd)
 |ex (x:Opd) (i:Nat)
 |call (f:Nat) (args:List Opd)
 |cv (x:Opd) (args:List Opd)
 |len (k:LK) (x:Opd)
 |cap (x:Opd)
 |app (e esz bytes:Nat) (x y:Opd)
 |mn (xs:List Opd)
 |mx (xs:List Opd)
 |appz (e esz bytes:Nat) (zs:List Z) (x y:Opd)
 |ibs (x c:Opd)
 |nes (x:Opd)
 |stk
 deriving Inhabited
structure SOper where
 dst:zw
 op:IOp
 guard:Option (Nat×Bool)
 deriving Inhabited
structure DOper where
 o:SOper
 deps:Nat
 deriving Inhabited
abbrev zo:=List DOper
inductive ICode where
 |skip
 |reg (ops:List SOper)
 |regd (ops:List DOper)
 |regt (a c:DOper) (r:List DOper)
 |seq (a b:ICode)
 |cond (c:Opd) (a b:ICode)
 |block (Y:Nat) (b:ICode)
 |loop (b:ICode)
 |exit (Y:Nat)
 |ret
 |rf (g:Opd) (ps:List Nat) (assign body:ICode)
 |stk
 deriving Inhabited
inductive RV where
 |t (i:Nat)
 |c1 (a:Nat)
 |cn (a n:Nat)
 deriving Inhabited
structure IFunc where
 ntmps:Nat
 res:List RV
 body:ICode
 deriving Inhabited
inductive Res where
 |norm
 |exit (Y:Nat)
 |ret
 deriving DecidableEq
inductive LSt where
 |ready|busy|done|exhausted
 deriving DecidableEq
inductive AObj where
 |row (e:Nat) (cells:List Z) (ext:Bool:=false) (fz:Bool:=false)
 |map (es:List (Z×Z×Nat)) (clock:Nat)
 /--a map of whole numbers,in whatever order -/
 |umap (es:List (Int×Z))
 |siter (s:List Nat) (pos:Nat)
 |miter (m:Option Nat) (since:Nat) (seen:List Nat) (stepped:Nat)
 |loop (st:LSt) (pend:Option Res) (A:Trie Z) (ps:List Nat) (assign body:ICode) (defers:Nat)
 |dfd
 |dfd0
 /--a row that was there before:looked at alone -/
 |giv (cells:List Z)
 /--a row that may grow behind its first cells,which are never written again -/
 |app (e:Nat) (cells:List Z)
abbrev za:=List (Nat×Option AObj)
abbrev zi:=List (Option AObj)
abbrev zj:=Option AObj
def vN:AObj->Bool
 |.giv _=>true
 |_=>false
def Pe:AObj->Bool
 |.app _ _=>true
 |_=>false
structure U where
 objs:Trie AObj
 next:Nat
 wm:Nat
 hide:zg
 only:ze
 /--is the function one whose rows are frozen where they are made? -/
 md:Bool
abbrev zb:=Option (Z×U)
structure Fr where
 A:zu
 df:zr
abbrev zh:=Option (Res×Fr×U)
structure Env where
 funs:Trie IFunc
 globs:List zt
 lies:List (Nat×Nat×Nat)
 /--which functions freeze their rows,and leave none of their own behind -/
 pure:Nat->Bool
 /--are maps made without an order? -/
 um:Bool
mutual
def wC:Z->Bool
 |.bool _=>true
 |.int _ _=>true
 |.str _=>true
 |.nilp=>true
 |.gptr _ _=>true
 |.sl0=>true
 |.nils=>true
 |.nilm=>true
 |.nilf=>true
 |.nili=>true
 |.lst _ _ _=>true
 |.vp _=>true
 |.ifc _ v=>wC v
 |.fn _ a c=>wo a&&wo c
 |.agg cs=>wo cs
 |.tup vs=>wo vs
 |.ptr _ _=>false
 |.sl _ _ _ _=>false
 |.map _=>false
 |.yld _=>false
 |.gr _ _ _ _=>false
def wo:List Z->Bool
 |[]=>true
 |v::r=>wC v&&wo r
end
def hid:zg->Nat->Bool
 |[],_=>false
 |p::r,n=>bif zH p.1 n then (bif zG n p.2 then true else hid r n)else hid r n
def Xb:Nat->zr->Bool
 |_,[]=>false
 |n,m::r=>bif zD n m then true else Xb n r
def U.get(s:U)(Y:Nat):zj:=
 match s.only with
 |none=>bif hid s.hide Y then none else s.objs.get Y
 |some p=>bif hid s.hide Y then none else bif zH p.1 Y then s.objs.get Y else bif Xb Y p.2 then s.objs.get Y else none
def U.alloc(s:U)(o:AObj):U:={s with objs:=s.objs.set s.next o,next:=Nat.succ s.next}
def kr(m Y:Nat):Nat:=Nat.lor m (Nat.shiftLeft 1 Y)
def U.put(s:U)(Y:Nat)(o:AObj):U:={s with objs:=s.objs.set Y o,wm:=kr s.wm Y}
def U.del(s:U)(Y:Nat):U:={s with objs:=s.objs.del Y,wm:=kr s.wm Y}
def wE:Nat->zt->Option zt
 |0,_=>some []
 |_+1,[]=>none
 |n+1,v::r=>match wE n r with
  |some l=>some (v::l)
  |none=>none
def wX:Nat->zt->zt
 |0,l=>l
 |_+1,[]=>[]
 |n+1,_::r=>wX n r
def tkN:Nat->zt->zt
 |0,_=>[]
 |_+1,[]=>[]
 |n+1,v::r=>v::tkN n r
def cut(l:zt)(off n:Nat):Option zt:=wE n (wX off l)
def V1:zt->zt->Option zt
 |l,[]=>some l
 |[],_::_=>none
 |_::l,v::vs=>match V1 l vs with
  |some r=>some (v::r)
  |none=>none
def jk:zt->Nat->zt->Option zt
 |l,0,vs=>V1 l vs
 |[],_+1,vs=>match vs with
  |[]=>some []
  |_::_=>none
 |v::l,n+1,vs=>match jk l n vs with
  |some r=>some (v::r)
  |none=>none
def reps:Nat->zt->zt
 |0,_=>[]
 |n+1,z=>z++reps n z
def qQ{α:Type}:List α->Nat
 |[]=>0
 |_::r=>Nat.succ (qQ r)
def Z.cells:Z->zt
 |.agg cs=>cs
 |v=>[v]
def Opd.ev(A:zu):Opd->zv
 |.t i=>A.get i
 |.c v=>some v
def evL(A:zu):List Opd->Option zt
 |[]=>some []
 |x::r=>match x.ev A,evL A r with
  |some v,some vs=>some (v::vs)
  |_,_=>none
def evO(A:zu):Option Opd->Option zv
 |none=>some none
 |some x=>match x.ev A with
  |some v=>some (some v)
  |none=>none
def ltI:Int->Int->Bool
 |.ofNat a,.ofNat b=>zG a b
 |.ofNat _,.negSucc _=>false
 |.negSucc _,.ofNat _=>true
 |.negSucc a,.negSucc b=>zG b a
def eqI:Int->Int->Bool
 |.ofNat a,.ofNat b=>zD a b
 |.ofNat _,.negSucc _=>false
 |.negSucc _,.ofNat _=>false
 |.negSucc a,.negSucc b=>zD a b
def H8:IntKind->Nat
 |.i8=>128|.i16=>32768|.i32=>2147483648|.i64=>9223372036854775808
 |.u8=>256|.u16=>65536|.u32=>4294967296|.u64=>18446744073709551616
def vK(k:IntKind)(n:Int):Int:=
 match n with
 |.ofNat a=>bif zG a (H8 k)then .ofNat a else k.wrap n
 |.negSucc _=>k.wrap n
def jJ:IntKind->IntKind->Bool
 |.i8,.i8|.i16,.i16|.i32,.i32|.i64,.i64|.u8,.u8|.u16,.u16|.u32,.u32|.u64,.u64=>true
 |_,_=>false
def bits(op:BinOp)(k:IntKind)(x y:Int):Option Int:=
 match op with
 |.and=>some (k.wrap ((BitVec.ofInt k.bits x)&&& (BitVec.ofInt k.bits y)).toNat)
 |.or=>some (k.wrap ((BitVec.ofInt k.bits x)|||(BitVec.ofInt k.bits y)).toNat)
 |.xor=>some (k.wrap ((BitVec.ofInt k.bits x)^^^(BitVec.ofInt k.bits y)).toNat)
 |.andNot=>some (k.wrap ((BitVec.ofInt k.bits x)&&& ~~~(BitVec.ofInt k.bits y)).toNat)
 |_=>none
def uc(op:BinOp)(k:IntKind)(x:Int)(k':IntKind)(y:Int):zv:=
 match op with
 |.shl=>bif ltI y 0 then none else some (.int k (vK k (x*2^(min y.toNat k.bits))))
 |.shr=>bif ltI y 0 then none else some (.int k (x.fdiv (2^(min y.toNat k.bits))))
 | _=>bif jJ k k' then
  match op with
  |.add=>some (.int k (vK k (Int.add x y)))
  |.sub=>some (.int k (vK k (Int.sub x y)))
  |.mul=>some (.int k (vK k (Int.mul x y)))
  |.quo=>bif eqI y 0 then none else some (.int k (vK k (x.tdiv y)))
  |.rem=>bif eqI y 0 then none else some (.int k (x.tmod y))
  |.eql=>some (.bool (eqI x y))
  |.neq=>some (.bool (!eqI x y))
  |.lss=>some (.bool (ltI x y))
  |.leq=>some (.bool (!ltI y x))
  |.gtr=>some (.bool (ltI y x))
  |.geq=>some (.bool (!ltI x y))
  |op=>match bits op k x y with
   |some r=>some (.int k r)
   |none=>none
  else none
def eqS:zr->zr->Bool
 |[],[]=>true
 |a::x,b::y=>bif zD a b then eqS x y else false
 |_,_=>false
def ltS:zr->zr->Bool
 |_,[]=>false
 |[],_::_=>true
 |a::x,b::y=>bif zG a b then true else bif zD a b then ltS x y else false
def HB:Nat->zr->zr
 |0,_=>[]
 |_+1,[]=>[]
 |n+1,v::r=>v::HB n r
def Lz:Nat->zr->zr
 |0,l=>l
 |_+1,[]=>[]
 |n+1,_::r=>Lz n r
def eK:zr->Nat->zw
 |[],_=>none
 |v::_,0=>some v
 |_::r,n+1=>eK r n
def AT(op:BinOp)(x y:zr):zv:=
 match op with
 |.add=>bif zG (zE (qQ x) (qQ y)) 9223372036854775808 then some (.str (x++y))else none
 |.eql=>some (.bool (eqS x y))
 |.neq=>some (.bool (!eqS x y))
 |.lss=>some (.bool (ltS x y))
 |.leq=>some (.bool (ltS x y||eqS x y))
 |.gtr=>some (.bool (!(ltS x y||eqS x y)))
 |.geq=>some (.bool (!ltS x y))
 |_=>none
def eq1(f:FK)(a b:Z):Option Bool:=
 match f with
 |.i=>match a,b with
  |.int k m,.int k' n=>bif jJ k k' then some (eqI m n)else none
  |_,_=>none
 |.s=>match a,b with
  |.str s,.str t=>some (eqS s t)
  |_,_=>none
 |.b=>match a,b with
  |.bool p,.bool q=>some (p==q)
  |_,_=>none
def Zy:List FK->zt->zt->Option Bool
 |[],[],[]=>some true
 | f::fs,a::x,b::y=>
  match eq1 f a b with
  |some true=>Zy fs x y
  |some false=>match Zy fs x y with
   |some _=>some false
   |none=>none
  |none=>none
 |_,_,_=>none
def eqV(k:EqK)(a b:Z):Option Bool:=
 match k with
 |.bool=>match a,b with
  |.bool p,.bool q=>some (p==q)
  |_,_=>none
 |.ptr=>match a,b with
  |.nilp,.nilp=>some true
  |.nilp,.ptr _ _=>some false
  |.ptr _ _,.nilp=>some false
  |.nilp,.vp _=>some false
  |.vp _,.nilp=>some false
  |.ptr i o,.ptr i' o'=>bif zD i i' then some (zD o o')else none
  |_,_=>none
 |.slice=>match a,b with
  |.nils,.nils=>some true
  |.nils,.sl _ _ _ _=>some false
  |.sl _ _ _ _,.nils=>some false
  |.nils,.sl0=>some false
  |.sl0,.nils=>some false
  |.nils,.lst n _ _=>bif zD n 0 then none else some false
  |.lst n _ _,.nils=>bif zD n 0 then none else some false
  |.nils,.gr _ _ _ _=>some false
  |.gr _ _ _ _,.nils=>some false
  |_,_=>none
 |.map=>match a,b with
  |.nilm,.nilm=>some true
  |.nilm,.map _=>some false
  |.map _,.nilm=>some false
  |_,_=>none
 |.func=>match a,b with
  |.nilf,.nilf=>some true
  |.nilf,.fn _ _ _=>some false
  |.fn _ _ _,.nilf=>some false
  |_,_=>none
 |.iface=>match a,b with
  |.nili,.ifc _ _=>some false
  |.ifc _ _,.nili=>some false
  |_,_=>none
 |.ifacec=>match a,b with
  |.nili,.nili=>some true
  |.nili,.ifc _ _=>some false
  |.ifc _ _,.nili=>some false
  |_,_=>none
 |.flat ks=>match a,b with
  |.agg x,.agg y=>Zy ks x y
  |_,_=>none
 |.basic=>none
def idx(i:Z)(n:Nat):zw:=
 match i with
 |.int _ (.ofNat a)=>bif zG a n then some a else none
 |_=>none
def bnd(d:Nat)(i:zv)(n:Nat):zw:=
 match i with
 |none=>some d
 |some (.int _ (.ofNat a))=>bif zH a n then some a else none
 |_=>none
def uT(G:List zt)(s:U)(p:Z)(n:Nat):Option zt:=
 match p with
 |.ptr Y off=>match s.get Y with
  |some (.row _ cs _ _)=>cut cs off n
  |some (.giv cs)=>cut cs off n
  |_=>none
 |.gptr g off=>match G[g]? with
  |some cs=>cut cs off n
  |none=>none
 |.vp cs=>wE n cs
 |_=>none
def vV:Z->Bool
 |.agg _=>false
 |.tup _=>false
 |_=>true
def wO:zt->Bool
 |[]=>true
 |v::r=>bif vV v then wO r else false
def j8(s:U)(p:Z)(vs:zt):Option U:=
 match p with
 | .ptr Y off=>match s.get Y with
  |some (.row t cs e fz)=>bif fz|| !wO vs then none else match jk cs off vs with
   |some cs'=>some (s.put Y (.row t cs' e fz))
   |none=>none
  |_=>none
 |_=>none
def gw(zs:zt)(A:zu):zp->Option zt
 |[]=>some zs
 | p::r=>match p.2.2.ev A with
  | some v=>bif zD (qQ v.cells) p.2.1&&zH 1 p.2.1 then
    match jk zs p.1 v.cells with
    |some zs'=>gw zs' A r
    |none=>none
   else none
  |none=>none
def j6:Z->zw
 |.nils=>some 0
 |.sl0=>some 0
 |.sl _ _ n _=>some n
 |.str s=>some (qQ s)
 |.lst n _ _=>some n
 |.gr _ _ n _=>some n
 |_=>none
def wK:zr->zt
 |[]=>[]
 |b::r=>.int .u8 (.ofNat b)::wK r
def qu(s:U)(esz n:Nat):Z->Option zt
 |.nils=>some []
 |.sl0=>some []
 |.sl Y off _ _=>match s.get Y with
  |some (.row _ cs _ _)=>cut cs off (zF n esz)
  |some (.giv cs)=>cut cs off (zF n esz)
  |_=>none
 |.str t=>bif zD esz 1 then some (wK (HB n t))else none
 |.lst _ _ cs=>wE (zF n esz) cs
 |.gr _ _ _ cs=>wE (zF n esz) cs
 |_=>none
def grow(s:U)(t esz bytes:Nat)(cs:zt)(need:Nat):zb:=
 bif zH (zF (zF 2 need) bytes) 281474976710656&&zH 1 esz&&zG need 9223372036854775808 then
  some (.sl s.next 0 need (.opn esz),s.alloc (.row t cs true false))
 else none
def ZP(s:U)(t esz bytes:Nat)(cs:zt)(need:Nat):zb:=
 bif zH (zF (zF 2 need) bytes) 281474976710656&&zH 1 esz&&zG need 9223372036854775808&&wo cs then
  some (.gr s.next esz need cs,s.alloc (.app t cs))
 else none
def ZI (s:U)(t esz bytes:Nat)(x:Z)(n:Nat)(new:zt):zb:=
 match x with
 |.nils=>bif s.md&&wo new then ZP s t esz bytes new n else grow s t esz bytes new n
 | .lst k ex cs=>bif ex then match wE (zF k esz) cs with
   |some old=>ZP s t esz bytes (old++new) (zE k n)
   |none=>none
  else none
 |.gr Y esz' k cs=>match s.get Y with
  |some (.app t0 cells)=>bif zD esz esz'&&zD t0 t&&zD (qQ cells) (qQ cs)&&wO new then ZP (s.del Y) t esz bytes (cs++new) (zE k n)else none
  |_=>none
 | .sl Y off len c=>match s.get Y with
  | some (.row t0 cs e fz)=>
   match c with
   | .fix k=>bif zH (zE len n) k then
     match j8 s (.ptr Y (zE off (zF len esz))) new with
     |some s'=>some (.sl Y off (zE len n) (.fix k),s')
     |none=>none
    else match cut cs off (zF len esz)with
     |some old=>grow s t esz bytes (old++new) (zE len n)
     |none=>none
   | .opn esz'=>bif zD esz esz'&&e&& !fz then
     bif zH (zE off (zF (zE len n) esz)) (qQ cs)then
      match j8 s (.ptr Y (zE off (zF len esz))) new with
      |some s'=>some (.sl Y off (zE len n) (.opn esz),s')
      |none=>none
     else bif wO new&&zD t0 t then match cut cs off (zF len esz)with
       |some old=>grow (s.del Y) t esz bytes (old++new) (zE len n)
       |none=>none
      else none
    else none
  |_=>none
 |_=>none
def EF(s:U)(x:Z):zb:=
 match x with
 |.nils=>some (.nils,s)
 |.sl0=>some (.sl0,s)
 |.sl Y off len c=>match c with
  |.fix k=>bif zH len k then some (.sl Y off len c,s)else none
  |.opn _=>some (.sl Y off len c,s)
 |.lst n ex cs=>some (.lst n ex cs,s)
 |.gr Y esz n cs=>some (.gr Y esz n cs,s)
 |_=>none
def uE(s:U)(t esz bytes:Nat)(x y:Z):zb:=
 match j6 y with
 |none=>none
 |some 0=>EF s x
 |some (Nat.succ n)=>match qu s esz (Nat.succ n) y with
  |none=>none
  |some new=>ZI s t esz bytes x (Nat.succ n) new
def Qa(s:U)(t esz bytes:Nat)(zs:zt)(x y:Z):zb:=
 match y with
 |.int .i64 (.ofNat 0)=>none
 |.int .i64 (.ofNat (Nat.succ n))=>bif zH (zF (Nat.succ n) bytes) 281474976710656&&zG n 9223372036854775807 then ZI s t esz bytes x (Nat.succ n) (reps (Nat.succ n) zs)else none
 |_=>none
def gK(f:FK)(k:Z):zf->Nat->Option (Option (Nat×Z))
 |[],_=>some none
 |e::es,i=>match eq1 f k e.1 with
  |some true=>some (some (i,e.2.1))
  |some false=>gK f k es (Nat.succ i)
  |none=>none
def ry(v:Z)(k:Z):zf->Nat->zf
 |[],_=>[]
 |e::es,0=>(k,v,e.2.2)::es
 |e::es,i+1=>e::ry v k es i
def mK:zf->Nat->zf
 |[],_=>[]
 |_::es,0=>es
 |e::es,i+1=>e::mK es i
def u9(seen:zr):zf->zf
 |[]=>[]
 |e::es=>bif Xb e.2.2 seen then u9 seen es else e::u9 seen es
def KJ(last:Nat):zf->Bool
 |[]=>true
 |e::es=>bif zH last e.2.2 then KJ last es else false
def Vx(b:Nat):zf->Option (Z×Z)
 |[]=>none
 |e::es=>bif zD e.2.2 b then some (e.1,e.2.1)else Vx b es
def qX:Z:=.tup []
def lZ(n:Int):zl->zv
 |[]=>none
 |p::r=>bif eqI p.1 n then some p.2 else lZ n r
def YN(n:Int)(v:Z):zl->zl
 |[]=>[(n,v)]
 |p::r=>bif eqI p.1 n then (n,v)::r else p::YN n v r
def Vo(n:Int):zl->zl
 |[]=>[]
 |p::r=>bif eqI p.1 n then r else p::Vo n r
def UR(mx:Bool):Z->zt->zv
 |a,[]=>some a
 |.int k x,.int _ y::r=>bif (bif mx then ltI x y else ltI y x)then UR mx (.int k y) r else UR mx (.int k x) r
 |_,_=>none
def l9(s:U):zv->zb
 |some v=>some (v,s)
 |none=>none
def P6(c a b:zv):zv:=
 match c with
 |some (.bool true)=>a
 |some (.bool false)=>b
 |_=>none
def XU:zt->zv
 |v::_=>some v
 |[]=>none
def vLd(G:List zt)(s:U)(p:Z):zv:=
 match uT G s p 1 with
 |some l=>XU l
 |none=>none
def Wm(G:List zt)(s:U)(n:Nat)(p:Z):zv:=
 match uT G s p n with
 |some cs=>some (.agg cs)
 |none=>none
def oSt(s:U)(n:Nat)(p w:Z):zb:=
 bif zD (qQ w.cells) n then
  match j8 s p w.cells with
  |some s'=>some (qX,s')
  |none=>none
 else none
def Rv(x:Z):zv:=
 match x with
 |.ptr i o=>some (.ptr i o)
 |.gptr g o=>some (.gptr g o)
 |.fn f a c=>some (.fn f a c)
 |.yld l=>some (.yld l)
 |.map m=>some (.map m)
 |.vp cs=>some (.vp cs)
 |_=>none
def Ej(op:BinOp)(x y:Z):zv:=
 match x with
 |.int k a=>match y with
  |.int k' b=>uc op k a k' b
  |_=>none
 |.str a=>match y with
  |.str b=>AT op a b
  |_=>none
 |_=>none
def J5(k:EqK)(neg:Bool)(a b:Z):zv:=
 match eqV k a b with
 |some r=>some (.bool (bif neg then !r else r))
 |none=>none
def vUn(op:UnOp)(x:Z):zv:=
 match op with
 |.neg=>match x with
  |.int k n=>some (.int k (vK k (Int.sub 0 n)))
  |_=>none
 |.not=>match x with
  |.bool b=>some (.bool (!b))
  |_=>none
 | .xor=>match x with
  |.int k n=>match bits .xor k (bif k.signed then -1 else k.max) n with
   |some r=>some (.int k r)
   |none=>none
  |_=>none
 |.plus=>none
def vCi(k:IntKind)(x:Z):zv:=
 match x with
 |.int _ n=>some (.int k (vK k n))
 |_=>none
def JW(s:U)(e:Nat)(x:Z):zb:=
 match x with
 | .str t=>bif zG (qQ t) 9223372036854775808 then
   bif s.md then some (.lst (qQ t) false (wK t),s)else some (.sl s.next 0 (qQ t) (.opn 1),s.alloc (.row e (wK t) true false))
  else none
 |_=>none
def kl:zt->Option zr
 |[]=>some []
 | v::r=>match v with
  | .int .u8 (.ofNat n)=>bif zG n 256 then
    match kl r with
    |some l=>some (n::l)
    |none=>none
   else none
  |_=>none
def Ug:Option zr->zv
 |some b=>some (.str b)
 |none=>none
def jB:Option zt->Option zr
 |some l=>kl l
 |none=>none
def El(s:U)(x:Z):zv:=
 match x with
 |.nils=>some (.str [])
 |.sl0=>some (.str [])
 |.sl Y off n _=>match s.get Y with
  |some (.row _ cs _ _)=>Ug (jB (cut cs off n))
  |some (.giv cs)=>Ug (jB (cut cs off n))
  |_=>none
 |.lst n _ cs=>Ug (jB (wE n cs))
 |.gr _ _ n cs=>Ug (jB (wE n cs))
 |_=>none
def qS(c:Nat):Bool:=bif zG c 55296 then true else (zH 57344 c&&zH c 1114111)
def JS(c:Nat):zr:=
 bif zG c 128 then [c]else bif zG c 2048 then [zE 192 (zJ c 64),zE 128 (zI c 64)]
 else bif zG c 65536 then [zE 224 (zJ c 4096),zE 128 (zI (zJ c 64) 64),zE 128 (zI c 64)]
 else [zE 240 (zJ c 262144),zE 128 (zI (zJ c 4096) 64),zE 128 (zI (zJ c 64) 64),zE 128 (zI c 64)]
def HR(b:Nat):Bool:=zD (zJ b 64) 2
def pY(b0 b1:Nat):Nat:=zE (zF (zI b0 32) 64) (zI b1 64)
def lu(b0 b1 b2:Nat):Nat:=zE (zE (zF (zI b0 16) 4096) (zF (zI b1 64) 64)) (zI b2 64)
def YZ(b0 b1 b2 b3:Nat):Nat:=zE (zE (zE (zF (zI b0 8) 262144) (zF (zI b1 64) 4096)) (zF (zI b2 64) 64)) (zI b3 64)
def jw(l:zr):Nat×Nat:=
 match l with
 |[]=>(65533,1)
 | b0::r=>bif zG b0 128 then (b0,1)else
  match r with
  |[]=>(65533,1)
  | b1::r1=>bif zD (zJ b0 32) 6&&HR b1 then (bif zH 128 (pY b0 b1)then (pY b0 b1,2)else (65533,1))else
   match r1 with
   |[]=>(65533,1)
   |b2::r2=>bif zD (zJ b0 16) 14&&HR b1&&HR b2 then (bif zH 2048 (lu b0 b1 b2)&&qS (lu b0 b1 b2)then (lu b0 b1 b2,3)else (65533,1))else
    match r2 with
    |[]=>(65533,1)
    |b3::_=>bif zD (zJ b0 8) 30&&HR b1&&HR b2&&HR b3 then (bif zH 65536 (YZ b0 b1 b2 b3)&&qS (YZ b0 b1 b2 b3)then (YZ b0 b1 b2 b3,4)else (65533,1))else (65533,1)
def H4(s:U)(e bytes:Nat)(zs:zt)(l c:Z):zb:=
 match l with
 | .int .i64 (.ofNat l)=>match c with
  | .int .i64 (.ofNat c)=>
   bif zH l c&&zH (zF c bytes) 281474976710656&&zG c 9223372036854775808 then
    some (.sl s.next 0 l (.fix c),s.alloc (.row e (reps c zs) false false))
   else none
  |_=>none
 |_=>none
def iO(x:Z)(lo hi:zv):zv:=
 match x with
 | .str t=>match bnd (qQ t) hi (qQ t)with
  |some h=>match bnd 0 lo h with
   |some l=>some (.str (HB (zK h l) (Lz l t)))
   |none=>none
  |none=>none
 |_=>none
def HJ(esz n:Nat)(ex:Bool)(cs:zt)(lo hi mx:zv):zv:=
 match mx with
 | none=>match bnd n hi n with
  |some h=>match bnd 0 lo h with
   |some l=>some (.lst (zK h l) (ex&&zD h n) (tkN (zF (zK h l) esz) (wX (zF l esz) cs)))
   |none=>none
  |none=>none
 | some m=>match bnd n (some m) n with
  | some m=>match bnd n hi m with
   |some h=>match bnd 0 lo h with
    |some l=>some (.lst (zK h l) (zD h m) (tkN (zF (zK h l) esz) (wX (zF l esz) cs)))
    |none=>none
   |none=>none
  |none=>none
def Em(Y off esz m len:Nat)(lo hi:zv):zv:=
 match bnd len hi m with
 |some h=>match bnd 0 lo h with
  |some l=>some (.sl Y (bif zD m l then off else zE off (zF l esz)) (zK h l) (.fix (zK m l)))
  |none=>none
 |none=>none
def gG (esz:Nat)(x:Z)(lo hi mx:zv):zv:=
 match x with
 | .nils=>match bnd 0 mx 0 with
  | some _=>match bnd 0 hi 0 with
   |some _=>match bnd 0 lo 0 with
    |some _=>some .nils
    |none=>none
   |none=>none
  |none=>none
 | .sl0=>match mx with
  | none=>match bnd 0 hi 0 with
   |some _=>match bnd 0 lo 0 with
    |some _=>some .sl0
    |none=>none
   |none=>none
  |some _=>none
 | .sl Y off len c=>match c with
  |.fix c=>match bnd c mx c with
   |some m=>Em Y off esz m len lo hi
   |none=>none
  | .opn e=>bif zD e esz then
    match mx with
    | none=>match bnd len hi len with
     | some h=>match bnd 0 lo h with
      |some l=>bif zD l 0 then some (.sl Y off h (.opn e))
       else bif zG l len then some (.sl Y (zE off (zF l esz)) (zK h l) (.opn e))
       else bif zD h l then some .sl0 else none
      |none=>none
     |none=>none
    |some mx=>match bnd len (some mx) len with
     |some m=>Em Y off esz m len lo hi
     |none=>none
   else none
 |.lst n ex cs=>HJ esz n ex cs lo hi mx
 |.gr _ e n cs=>bif zD e esz then HJ esz n false cs lo hi mx else none
 |_=>none
def vFa(off:Nat)(x:Z):zv:=
 match x with
 |.ptr Y o=>some (.ptr Y (zE o off))
 |.gptr g o=>some (.gptr g (zE o off))
 |.vp cs=>some (.vp (wX off cs))
 |_=>none
def Ui:Option zt->zv
 |some l=>some (.agg l)
 |none=>none
def vFd(off:Nat)(n:zw)(x:Z):zv:=
 match x with
 |.agg cs=>match n with
  |none=>XU (wX off cs)
  |some n=>Ui (cut cs off n)
 |_=>none
def vIa(esz:Nat)(x i:Z):zv:=
 match x with
 |.sl Y off len _=>match idx i len with
  |some k=>some (.ptr Y (zE off (zF k esz)))
  |none=>none
 |.lst n _ cs=>match idx i n with
  |some k=>some (.vp (wX (zF k esz) cs))
  |none=>none
 | .gr _ e n cs=>bif zD e esz then match idx i n with
   |some k=>some (.vp (wX (zF k esz) cs))
   |none=>none
  else none
 |_=>none
def iM(n esz:Nat)(x i:Z):zv:=
 match x with
 |.ptr Y off=>match idx i n with
  |some k=>some (.ptr Y (zE off (zF k esz)))
  |none=>none
 |.gptr g off=>match idx i n with
  |some k=>some (.gptr g (zE off (zF k esz)))
  |none=>none
 |.vp cs=>match idx i n with
  |some k=>some (.vp (wX (zF k esz) cs))
  |none=>none
 |_=>none
def cK:zw->zv
 |some b=>some (.int .u8 (.ofNat b))
 |none=>none
def Rq(x i:Z):zv:=
 match x with
 |.str t=>match i with
  |.int _ (.ofNat i)=>cK (eK t i)
  |_=>none
 |_=>none
def VU(z:Z)(ok:Bool):Option (Option (Nat×Z))->zv
 |some (some p)=>some (bif ok then .tup [p.2,.bool true]else p.2)
 |some none=>some (bif ok then .tup [z,.bool false]else z)
 |none=>none
def lkU(z:Z)(ok:Bool):zv->Z
 |some v=>bif ok then .tup [v,.bool true]else v
 |none=>bif ok then .tup [z,.bool false]else z
def vLk(s:U)(f:FK)(z:Z)(ok:Bool)(m k:Z):zv:=
 match m with
 |.nilm=>VU z ok (some none)
 | .map Y=>match s.get Y with
  |some (.map es _)=>VU z ok (gK f k es 0)
  | some (.umap es)=>match f with
   |.i=>match k with
    |.int .i64 n=>some (lkU z ok (lZ n es))
    |_=>none
   |_=>none
  |_=>none
 |_=>none
def oMu(s:U)(f:FK)(m k v:Z):zb:=
 match m with
 | .map Y=>match s.get Y with
  |some (.map es clock)=>match gK f k es 0 with
   |some (some p)=>some (qX,s.put Y (.map (ry v k es p.1) clock))
   |some none=>some (qX,s.put Y (.map (es++[(k,v,clock)]) (Nat.succ clock)))
   |none=>none
  | some (.umap es)=>match f with
   |.i=>match k with
    |.int .i64 n=>some (qX,s.put Y (.umap (YN n v es)))
    |_=>none
   |_=>none
  |_=>none
 |_=>none
def oMd(s:U)(f:FK)(m k:Z):zb:=
 match m with
 |.nilm=>some (qX,s)
 | .map Y=>match s.get Y with
  |some (.map es clock)=>match gK f k es 0 with
   |some (some p)=>some (qX,s.put Y (.map (mK es p.1) clock))
   |some none=>some (qX,s.put Y (.map es clock))
   |none=>none
  | some (.umap es)=>match f with
   |.i=>match k with
    |.int .i64 n=>some (qX,s.put Y (.umap (Vo n es)))
    |_=>none
   |_=>none
  |_=>none
 |_=>none
def oRs(s:U)(x:Z):zb:=
 match x with
 |.str t=>some (.ptr s.next 0,s.alloc (.siter t 0))
 |_=>none
def oNs(s:U)(it:Z):zb:=
 match it with
 | .ptr Y 0=>match s.get Y with
  |some (.siter t pos)=>match Lz pos t with
   |b::r=>some (.tup [.bool true,.int .i64 (.ofNat pos),.int .i32 (.ofNat (jw (b::r)).1)],s.put Y (.siter t (zE pos (jw (b::r)).2)))
   |[]=>some (.tup [.bool false],s)
  |_=>none
 |_=>none
def oRm(s:U)(x:Z):zb:=
 match x with
 |.nilm=>some (.ptr s.next 0,s.alloc (.miter none 0 [] 0))
 |.map Y=>match s.get Y with
  |some (.map _ clock)=>some (.ptr s.next 0,s.alloc (.miter (some Y) clock [] clock))
  |_=>none
 |_=>none
def YV(s:U)(Y m since:Nat)(seen:zr)(clock:Nat):zf->zb
 |[]=>some (.tup [.bool false],s)
 |e::r=>match r with
  |[]=>bif zG e.2.2 since then some (.tup [.bool true,e.1,e.2.1],s.put Y (.miter (some m) since (seen++[e.2.2]) clock))else none
  |_::_=>none
def eL(seen:zr)(last:Nat)(es:zf):Bool:=
 match seen with
 |[]=>false
 |_::_=>match es with
  |[]=>false
  |_::_=>KJ last es
def oNm(s:U)(it:Z):zb:=
 match it with
 | .ptr Y 0=>match s.get Y with
  |some (.miter none _ _ _)=>some (.tup [.bool false],s)
  |some (.miter (some m) since seen last)=>match s.get m with
   |some (.map es clock)=>bif eL seen last es then none else YV s Y m since seen clock (u9 seen es)
   |_=>none
  |_=>none
 |_=>none
def Qd:zr->zw
 |[]=>none
 |n::r=>match r with
  |[]=>some n
  |_::_=>Qd r
def Ac:Option (Z×Z)->zv
 |some p=>some (.tup [p.1,p.2])
 |none=>none
def vEn(s:U)(it:Z):zv:=
 match it with
 | .ptr Y 0=>match s.get Y with
  | some (.miter (some m) _ seen stepped)=>match Qd seen with
   |some b=>match s.get m with
    |some (.map es clock)=>bif zD clock stepped then Ac (Vx b es)else none
    |_=>none
   |none=>none
  |_=>none
 |_=>none
def vEx(x:Z)(i:Nat):zv:=
 match x with
 |.tup vs=>XU (wX i vs)
 |_=>none
def Q0(s:U)(k:LK)(x:Z):zv:=
 match k with
 |.s=>match x with
  |.str t=>some (.int .i64 (.ofNat (qQ t)))
  |_=>none
 |.v=>match x with
  |.nils=>some (.int .i64 (.ofNat 0))
  |.sl0=>some (.int .i64 (.ofNat 0))
  |.sl _ _ n _=>some (.int .i64 (.ofNat n))
  |.lst n _ _=>some (.int .i64 (.ofNat n))
  |.gr _ _ n _=>some (.int .i64 (.ofNat n))
  |_=>none
 | .m=>match x with
  |.nilm=>some (.int .i64 (.ofNat 0))
  |.map Y=>match s.get Y with
   |some (.map es _)=>some (.int .i64 (.ofNat (qQ es)))
   |some (.umap es)=>some (.int .i64 (.ofNat (qQ es)))
   |_=>none
  |_=>none
def Ek(x:Z):zv:=
 match x with
 |.nils=>some (.int .i64 (.ofNat 0))
 |.sl _ _ _ (.fix n)=>some (.int .i64 (.ofNat n))
 |_=>none
def vMn(mx:Bool):zt->zv
 |v::r=>UR mx v r
 |[]=>none
def ej(c:Nat):zr->Nat->zw
 |[],_=>none
 |b::r,i=>bif zD b c then some i else ej c r (Nat.succ i)
def zwr(x c:Z):zv:=
 match x with
 | .str t=>match c with
  |.int .u8 (.ofNat c)=>bif zG c 256 then match ej c t 0 with
   |some i=>some (.int .i64 (.ofNat i))
   |none=>some (.int .i64 (.negSucc 0))else none
  |_=>none
 |_=>none
def v1(A:zu)(s:U)(x:Opd)(f:Z->zv):zb:=
 match x.ev A with
 |some v=>l9 s (f v)
 |none=>none
def v2(A:zu)(s:U)(x y:Opd)(f:Z->Z->zv):zb:=
 match x.ev A with
 |some v=>match y.ev A with
  |some w=>l9 s (f v w)
  |none=>none
 |none=>none
def o1(A:zu)(x:Opd)(f:Z->zb):zb:=
 match x.ev A with
 |some v=>f v
 |none=>none
def o2(A:zu)(x y:Opd)(f:Z->Z->zb):zb:=
 match x.ev A with
 |some v=>match y.ev A with
  |some w=>f v w
  |none=>none
 |none=>none
def o3(A:zu)(x y z:Opd)(f:Z->Z->Z->zb):zb:=
 match x.ev A with
 | some v=>match y.ev A with
  |some w=>match z.ev A with
   |some u=>f v w u
   |none=>none
  |none=>none
 |none=>none
def vs3(A:zu)(s:U)(x:Opd)(lo hi:Option Opd)(f:Z->zv->zv->zv):zb:=
 match x.ev A with
 | some v=>match evO A lo with
  |some l=>match evO A hi with
   |some h=>l9 s (f v l h)
   |none=>none
  |none=>none
 |none=>none
def vs4(A:zu)(s:U)(x:Opd)(lo hi mx:Option Opd)(f:Z->zv->zv->zv->zv):zb:=
 match evO A mx with
 |some m=>vs3 A s x lo hi (λv l h=>f v l h m)
 |none=>none
def vL(A:zu)(s:U)(l:List Opd)(f:zt->zv):zb:=
 match evL A l with
 |some vs=>l9 s (f vs)
 |none=>none
def vLL(A:zu)(s:U)(l m:List Opd)(f:zt->zt->zv):zb:=
 match evL A l with
 |some us=>match evL A m with
  |some vs=>l9 s (f us vs)
  |none=>none
 |none=>none
def X5(s:U)(e:Nat)(zs:zt):zb:=some (.ptr s.next 0,s.alloc (.row e zs false false))
def fB(s:U)(e:Nat)(v:Z):zb:=some (.ptr s.next 0,s.alloc (.row e v.cells false false))
def VY(s:U)(e len:Nat):Option zt->zb
 |some cs=>bif s.md&&wo cs then some (.lst len true cs,s)else some (.sl s.next 0 len (.fix len),s.alloc (.row e cs false false))
 |none=>none
def VZ(um:Bool)(s:U):zb:=some (.map s.next,s.alloc (bif um then .umap []else .map [] 0))
abbrev Nw(x:Opd)(_G:Env)(A:zu)(s:U):zb:=v1 A s x some
abbrev fI(c:Opd)(a:Opd)(b:Opd)(_G:Env)(A:zu)(s:U):zb:=l9 s (P6 (c.ev A) (a.ev A) (b.ev A))
abbrev UW(e:Nat)(zs:zt)(_G:Env)(_tm:zu)(s:U):zb:=X5 s e zs
abbrev tp(e:Nat)(x:Opd)(_G:Env)(A:zu)(s:U):zb:=o1 A x (fB s e)
abbrev Py(zs:zt)(ps:zp)(_G:Env)(A:zu)(s:U):zb:=l9 s (Ui (gw zs A ps))
abbrev tq(e:Nat)(zs:zt)(len:Nat)(ps:zp)(_G:Env)(A:zu)(s:U):zb:=VY s e len (gw zs A ps)
abbrev Nr(x:Opd)(G:Env)(A:zu)(s:U):zb:=v1 A s x (vLd G.globs s)
abbrev tO(n:Nat)(x:Opd)(G:Env)(A:zu)(s:U):zb:=v1 A s x (Wm G.globs s n)
abbrev ND(n:Nat)(x:Opd)(v:Opd)(_G:Env)(A:zu)(s:U):zb:=o2 A x v (oSt s n)
abbrev tW(x:Opd)(_G:Env)(A:zu)(s:U):zb:=v1 A s x Rv
abbrev tn(op:BinOp)(x:Opd)(y:Opd)(_G:Env)(A:zu)(s:U):zb:=v2 A s x y (Ej op)
abbrev tH(k:EqK)(neg:Bool)(x:Opd)(y:Opd)(_G:Env)(A:zu)(s:U):zb:=v2 A s x y (J5 k neg)
abbrev NE(op:UnOp)(x:Opd)(_G:Env)(A:zu)(s:U):zb:=v1 A s x (vUn op)
abbrev Nl(k:IntKind)(x:Opd)(_G:Env)(A:zu)(s:U):zb:=v1 A s x (vCi k)
abbrev tG(e:Nat)(x:Opd)(_G:Env)(A:zu)(s:U):zb:=o1 A x (JW s e)
abbrev tz(x:Opd)(_G:Env)(A:zu)(s:U):zb:=v1 A s x (El s)
abbrev tR(t:Nat)(x:Opd)(_G:Env)(A:zu)(s:U):zb:=v1 A s x (λv=>some (.ifc t v))
abbrev tQ(f:Nat)(fst:List Opd)(cap:List Opd)(_G:Env)(A:zu)(s:U):zb:=vLL A s fst cap (λus vs=>some (.fn f us vs))
abbrev Z0(G:Env)(_tm:zu)(s:U):zb:=VZ G.um s
abbrev tU(e:Nat)(_x1:Nat)(bytes:Nat)(zs:zt)(l:Opd)(c:Opd)(_G:Env)(A:zu)(s:U):zb:=o2 A l c (H4 s e bytes zs)
abbrev tY(x:Opd)(lo:Option Opd)(hi:Option Opd)(_G:Env)(A:zu)(s:U):zb:=vs3 A s x lo hi iO
abbrev tZ(esz:Nat)(x:Opd)(lo:Option Opd)(hi:Option Opd)(mx:Option Opd)(_G:Env)(A:zu)(s:U):zb:=vs4 A s x lo hi mx (gG esz)
abbrev Np(off:Nat)(x:Opd)(_G:Env)(A:zu)(s:U):zb:=v1 A s x (vFa off)
abbrev Nq(esz:Nat)(x:Opd)(i:Opd)(_G:Env)(A:zu)(s:U):zb:=v2 A s x i (vIa esz)
abbrev tJ(n:Nat)(esz:Nat)(x:Opd)(i:Opd)(_G:Env)(A:zu)(s:U):zb:=v2 A s x i (iM n esz)
abbrev tN(x:Opd)(i:Opd)(_G:Env)(A:zu)(s:U):zb:=v2 A s x i Rq
abbrev Ns(f:FK)(z:Z)(ok:Bool)(m:Opd)(k:Opd)(_G:Env)(A:zu)(s:U):zb:=v2 A s m k (vLk s f z ok)
abbrev Nv(f:FK)(m:Opd)(k:Opd)(v:Opd)(_G:Env)(A:zu)(s:U):zb:=o3 A m k v (oMu s f)
abbrev Nt(f:FK)(m:Opd)(k:Opd)(_G:Env)(A:zu)(s:U):zb:=o2 A m k (oMd s f)
abbrev NC(x:Opd)(_G:Env)(A:zu)(s:U):zb:=o1 A x (oRs s)
abbrev NA(it:Opd)(_G:Env)(A:zu)(s:U):zb:=o1 A it (oNs s)
abbrev NB(x:Opd)(_G:Env)(A:zu)(s:U):zb:=o1 A x (oRm s)
abbrev Nz(it:Opd)(_G:Env)(A:zu)(s:U):zb:=o1 A it (oNm s)
abbrev Nn(it:Opd)(_G:Env)(A:zu)(s:U):zb:=v1 A s it (vEn s)
abbrev No(x:Opd)(i:Nat)(_G:Env)(A:zu)(s:U):zb:=v1 A s x (λv=>vEx v i)
abbrev Nk(_:Nat)(_:List Opd)(_G:Env)(_tm:zu)(_s:U):zb:=none
abbrev zxR(_:Opd)(_:List Opd)(_G:Env)(_tm:zu)(_s:U):zb:=none
abbrev tP(k:LK)(x:Opd)(_G:Env)(A:zu)(s:U):zb:=v1 A s x (Q0 s k)
abbrev tu(x:Opd)(_G:Env)(A:zu)(s:U):zb:=v1 A s x Ek
abbrev th(e:Nat)(esz:Nat)(bytes:Nat)(x:Opd)(y:Opd)(_G:Env)(A:zu)(s:U):zb:=o2 A x y (uE s e esz bytes)
abbrev Nu(xs:List Opd)(_G:Env)(A:zu)(s:U):zb:=vL A s xs (vMn false)
abbrev Nx(xs:List Opd)(_G:Env)(A:zu)(s:U):zb:=vL A s xs (vMn true)
abbrev fH(e:Nat)(esz:Nat)(bytes:Nat)(zs:zt)(x:Opd)(y:Opd)(_G:Env)(A:zu)(s:U):zb:=o2 A x y (Qa s e esz bytes zs)
abbrev tL(x:Opd)(c:Opd)(_G:Env)(A:zu)(s:U):zb:=v2 A s x c zwr
abbrev tX(x:Opd)(_G:Env)(A:zu)(s:U):zb:=v1 A s x some
abbrev Aa(_G:Env)(_tm:zu)(_s:U):zb:=none
def opv(G:Env)(op:IOp)(A:zu)(s:U):zb:=
 IOp.rec (motive:=λ_=>Env->zu->U->zb) Nw fI UW tp Py tq Nr tO ND tW tn tH NE Nl tG tz tR tQ Z0 tU tY tZ Np Nq tJ tN Ns Nv Nt NC NA NB Nz Nn No Nk zxR tP tu th Nu Nx fH tL tX Aa op G A s
def vC(A:zu)(d:zw)(v:Z):zu:=
 match d with
 |some i=>A.set i v
 |none=>A
def qk:zu->Nat->zt->zu
 |A,_,[]=>A
 |A,i,v::r=>qk (A.set i v) (Nat.succ i) r
def Zv:zu->zr->zt->Option zu
 |A,[],[]=>some A
 |A,p::ps,v::vs=>Zv (A.set p v) ps vs
 |_,_,_=>none
def lS(g:Option (Nat×Bool))(A:zu):Option Bool:=
 match g with
 |none=>some true
 |some (i,w)=>match A.get i with
  |some (.bool b)=>some (b==w)
  |some _=>some false
  |none=>none
def gC(G:List zt)(A:zu)(s:U):List RV->Option zt
 |[]=>some []
 | r ::rest=>match (match r with
   |.t i=>A.get i
   | .c1 a=>match A.get a with
    |some p=>match uT G s p 1 with
     |some (v::_)=>some v
     |_=>none
    |none=>none
   | .cn a n=>match A.get a with
    |some p=>match uT G s p n with
     |some cs=>some (.agg cs)
     |none=>none
    |none=>none:zv),gC G A s rest with
  |some v,some vs=>some (v::vs)
  |_,_=>none
def jc:zt->Z
 |[v]=>v
 |vs=>.tup vs
def qT(s:U):zr->Option U
 |[]=>some s
 |d::r=>match s.get d with
  |some .dfd=>qT (s.put d .dfd0) r
  |_=>none
def J3:zv->Option zr
 |some (.ptr Y _)=>some [Y]
 |some (.sl Y _ _ _)=>some [Y]
 |some (.map Y)=>some [Y]
 |some _=>some []
 |none=>none
def PZ:zv->Option zr
 |some (.ptr Y _)=>some [Y]
 |some (.sl Y _ _ _)=>some [Y]
 |some (.map Y)=>some [Y]
 |some (.gr Y _ _ _)=>some [Y]
 |some _=>some []
 |none=>none
def AC(a b:Option zr):Option zr:=
 match a,b with
 |some a,some b=>some (a++b)
 |_,_=>none
def vn(op:IOp)(A:zu):Option zr:=
 match op with
 |.ld x|.ldn _ x|.st _ x _|.lk _ _ _ x _|.mu _ x _ _|.md _ x _|.len _ x|.cbs x|.rm x=>J3 (x.ev A)
 |.app _ _ _ x y=>AC (PZ (x.ev A)) (J3 (y.ev A))
 |.appz _ _ _ _ x _=>PZ (x.ev A)
 |.call _ _|.cv _ _|.ns _|.nm _|.en _=>none
 |_=>some []
structure LogE where
 idx:Nat
 lo:Nat
 hi:Nat
 tch:Option zr
 wm:Nat
def vu(deps:Nat):List LogE->zg->zg
 |[],h=>h
 |e::r,h=>bif zD e.lo e.hi||deps.testBit e.idx then vu deps r h else (e.lo,e.hi)::vu deps r h
def offMask(m:Nat):Option zr->Bool
 |none=>false
 |some l=>go l
 where
 go:zr->Bool
 |[]=>true
 |a::r=>bif m.testBit a then false else go r
def jW(deps:Nat)(tch:Option zr)(wm:Nat):List LogE->Bool
 |[]=>true
 |e::r=>bif deps.testBit e.idx then jW deps tch wm r
  else bif (zD wm 0||offMask wm e.tch)&&(zD e.wm 0||offMask e.wm tch)then jW deps tch wm r else false
structure Self where
 call:Nat->zt->U->zb
 loop:zw->ICode->Fr->U->zh
 round:Nat->zt->U->zb
def aL(S:Self)(x:zv)(vs:Option zt)(s:U):zb:=
 match vs with
 |some vs=>match x with
  |some (.fn f a c)=>S.call f (a++vs++c) s
  |some (.yld l)=>S.round l vs s
  |_=>none
 |none=>none
def dX(S:Self)(f:Nat)(vs:Option zt)(s:U):zb:=
 match vs with
 |some vs=>S.call f vs s
 |none=>none
abbrev F0(f:Nat)(args:List Opd)(_G:Env)(S:Self)(A:zu)(s:U):zb:=dX S f (evL A args) s
abbrev zy5(x:Opd)(args:List Opd)(_G:Env)(S:Self)(A:zu)(s:U):zb:=aL S (x.ev A) (evL A args) s
abbrev zxf(y0:Opd)(G:Env)(_S:Self)(A:zu)(s:U):zb:=Nw y0 G A s
abbrev F2(y0:Opd)(y1:Opd)(y2:Opd)(G:Env)(_S:Self)(A:zu)(s:U):zb:=fI y0 y1 y2 G A s
abbrev BU(y0:Nat)(y1:zt)(G:Env)(_S:Self)(A:zu)(s:U):zb:=UW y0 y1 G A s
abbrev Sw(y0:Nat)(y1:Opd)(G:Env)(_S:Self)(A:zu)(s:U):zb:=tp y0 y1 G A s
abbrev BV(y0:zt)(y1:zp)(G:Env)(_S:Self)(A:zu)(s:U):zb:=Py y0 y1 G A s
abbrev Sx(y0:Nat)(y1:zt)(y2:Nat)(y3:zp)(G:Env)(_S:Self)(A:zu)(s:U):zb:=tq y0 y1 y2 y3 G A s
abbrev zxa(y0:Opd)(G:Env)(_S:Self)(A:zu)(s:U):zb:=Nr y0 G A s
abbrev SG(y0:Nat)(y1:Opd)(G:Env)(_S:Self)(A:zu)(s:U):zb:=tO y0 y1 G A s
abbrev zxl(y0:Nat)(y1:Opd)(y2:Opd)(G:Env)(_S:Self)(A:zu)(s:U):zb:=ND y0 y1 y2 G A s
abbrev SL(y0:Opd)(G:Env)(_S:Self)(A:zu)(s:U):zb:=tW y0 G A s
abbrev Sv(y0:BinOp)(y1:Opd)(y2:Opd)(G:Env)(_S:Self)(A:zu)(s:U):zb:=tn y0 y1 y2 G A s
abbrev SB(y0:EqK)(y1:Bool)(y2:Opd)(y3:Opd)(G:Env)(_S:Self)(A:zu)(s:U):zb:=tH y0 y1 y2 y3 G A s
abbrev zxm(y0:UnOp)(y1:Opd)(G:Env)(_S:Self)(A:zu)(s:U):zb:=NE y0 y1 G A s
abbrev zy4(y0:IntKind)(y1:Opd)(G:Env)(_S:Self)(A:zu)(s:U):zb:=Nl y0 y1 G A s
abbrev SA(y0:Nat)(y1:Opd)(G:Env)(_S:Self)(A:zu)(s:U):zb:=tG y0 y1 G A s
abbrev Sz(y0:Opd)(G:Env)(_S:Self)(A:zu)(s:U):zb:=tz y0 G A s
abbrev SJ(y0:Nat)(y1:Opd)(G:Env)(_S:Self)(A:zu)(s:U):zb:=tR y0 y1 G A s
abbrev SI(y0:Nat)(y1:List Opd)(y2:List Opd)(G:Env)(_S:Self)(A:zu)(s:U):zb:=tQ y0 y1 y2 G A s
abbrev F1(G:Env)(_S:Self)(A:zu)(s:U):zb:=Z0  G A s
abbrev SK(y0:Nat)(y1:Nat)(y2:Nat)(y3:zt)(y4:Opd)(y5:Opd)(G:Env)(_S:Self)(A:zu)(s:U):zb:=tU y0 y1 y2 y3 y4 y5 G A s
abbrev SN(y0:Opd)(y1:Option Opd)(y2:Option Opd)(G:Env)(_S:Self)(A:zu)(s:U):zb:=tY y0 y1 y2 G A s
abbrev SO(y0:Nat)(y1:Opd)(y2:Option Opd)(y3:Option Opd)(y4:Option Opd)(G:Env)(_S:Self)(A:zu)(s:U):zb:=tZ y0 y1 y2 y3 y4 G A s
abbrev zy8(y0:Nat)(y1:Opd)(G:Env)(_S:Self)(A:zu)(s:U):zb:=Np y0 y1 G A s
abbrev zy9(y0:Nat)(y1:Opd)(y2:Opd)(G:Env)(_S:Self)(A:zu)(s:U):zb:=Nq y0 y1 y2 G A s
abbrev SD(y0:Nat)(y1:Nat)(y2:Opd)(y3:Opd)(G:Env)(_S:Self)(A:zu)(s:U):zb:=tJ y0 y1 y2 y3 G A s
abbrev SF(y0:Opd)(y1:Opd)(G:Env)(_S:Self)(A:zu)(s:U):zb:=tN y0 y1 G A s
abbrev zxb(y0:FK)(y1:Z)(y2:Bool)(y3:Opd)(y4:Opd)(G:Env)(_S:Self)(A:zu)(s:U):zb:=Ns y0 y1 y2 y3 y4 G A s
abbrev zxe(y0:FK)(y1:Opd)(y2:Opd)(y3:Opd)(G:Env)(_S:Self)(A:zu)(s:U):zb:=Nv y0 y1 y2 y3 G A s
abbrev zxc(y0:FK)(y1:Opd)(y2:Opd)(G:Env)(_S:Self)(A:zu)(s:U):zb:=Nt y0 y1 y2 G A s
abbrev zxk(y0:Opd)(G:Env)(_S:Self)(A:zu)(s:U):zb:=NC y0 G A s
abbrev zxi(y0:Opd)(G:Env)(_S:Self)(A:zu)(s:U):zb:=NA y0 G A s
abbrev zxj(y0:Opd)(G:Env)(_S:Self)(A:zu)(s:U):zb:=NB y0 G A s
abbrev zxh(y0:Opd)(G:Env)(_S:Self)(A:zu)(s:U):zb:=Nz y0 G A s
abbrev zy6(y0:Opd)(G:Env)(_S:Self)(A:zu)(s:U):zb:=Nn y0 G A s
abbrev zy7(y0:Opd)(y1:Nat)(G:Env)(_S:Self)(A:zu)(s:U):zb:=No y0 y1 G A s
abbrev SH(y0:LK)(y1:Opd)(G:Env)(_S:Self)(A:zu)(s:U):zb:=tP y0 y1 G A s
abbrev Sy(y0:Opd)(G:Env)(_S:Self)(A:zu)(s:U):zb:=tu y0 G A s
abbrev Su(y0:Nat)(y1:Nat)(y2:Nat)(y3:Opd)(y4:Opd)(G:Env)(_S:Self)(A:zu)(s:U):zb:=th y0 y1 y2 y3 y4 G A s
abbrev zxd(y0:List Opd)(G:Env)(_S:Self)(A:zu)(s:U):zb:=Nu y0 G A s
abbrev zxg(y0:List Opd)(G:Env)(_S:Self)(A:zu)(s:U):zb:=Nx y0 G A s
abbrev FZ(y0:Nat)(y1:Nat)(y2:Nat)(y3:zt)(y4:Opd)(y5:Opd)(G:Env)(_S:Self)(A:zu)(s:U):zb:=fH y0 y1 y2 y3 y4 y5 G A s
abbrev SE(y0:Opd)(y1:Opd)(G:Env)(_S:Self)(A:zu)(s:U):zb:=tL y0 y1 G A s
abbrev SM(y0:Opd)(G:Env)(_S:Self)(A:zu)(s:U):zb:=tX y0 G A s
abbrev SP(G:Env)(_S:Self)(A:zu)(s:U):zb:=Aa  G A s
def qG(G:Env)(S:Self)(op:IOp)(A:zu)(s:U):zb:=
 IOp.rec (motive:=λ_=>Env->Self->zu->U->zb) zxf F2 BU Sw BV Sx zxa SG zxl SL Sv SB zxm zy4 SA Sz SJ SI F1 SK SN SO zy8 zy9 SD SF zxb zxe zxc zxk zxi zxj zxh zy6 zy7 F0 zy5 SH Sy Su zxd zxg FZ SE SM SP op G S A s
def stS(A:zu)(d:zw):zb->Option (zu×U)
 |some p=>some (vC A d p.1,p.2)
 |none=>none
def Ko(n:Nat)(p:IOp):SOper:=⟨some n,p,none⟩
def Kd(n:Nat)(p:IOp)(m:Nat):DOper:=⟨⟨some n,p,none⟩,m⟩
def Ki(n:Nat):Opd:=.c (.int .i64 (.ofNat n))
def kb(t:IntKind)(l:zr):zt:=l.map λn=>.int t (.ofNat n)
def pU(G:Env)(S:Self)(o:SOper)(A:zu)(s:U):Option (zu×U):=
 match lS o.guard A with
 |some true=>stS A o.dst (qG G S o.op A s)
 |some false=>some (vC A o.dst qX,s)
 |none=>none
def evS(G:Env)(S:Self):List SOper->zu->U->Option (zu×U)
 |[],A,s=>some (A,s)
 |o::r,A,s=>match pU G S o A s with
  |some p=>evS G S r p.1 p.2
  |none=>none
def ux(o:DOper)(log:List LogE)(A:zu)(s:U):U:=
 {s with hide:=vu o.deps log s.hide,only:=(vn o.o.op A).map λl=>(s.next,l),wm:=0}
def qH(m n:Nat):Nat:=zI m (Nat.pow 2 n)
def HW(o:DOper)(i:Nat)(log:List LogE)(A:zu)(s:U):zb->Option (List LogE×zu×U)
 | some p=>bif jW o.deps (vn o.o.op A) (qH p.2.wm s.next) log then
   some ({idx:=i,lo:=s.next,hi:=p.2.next,tch:=vn o.o.op A,wm:=qH p.2.wm s.next}::log,vC A o.o.dst p.1,{p.2 with hide:=s.hide,only:=s.only,wm:=Nat.lor s.wm p.2.wm})
  else none
 |none=>none
def Z9(G:Env)(S:Self)(o:DOper)(i:Nat)(log:List LogE)(A:zu)(s:U):Option (List LogE×zu×U):=
 match lS o.o.guard A with
 |some true=>HW o i log A s (qG G S o.o.op A (ux o log A s))
 |some false=>some (log,vC A o.o.dst qX,s)
 |none=>none
def evD(G:Env)(S:Self):zo->Nat->List LogE->zu->U->Option (zu×U)
 |[],_,_,A,s=>some (A,s)
 |o::r,i,log,A,s=>match Z9 G S o i log A s with
  |some p=>evD G S r (Nat.succ i) p.1 p.2.1 p.2.2
  |none=>none
def j5(df:zr):Option (zu×U)->zh
 |some p=>some (.norm,{A:=p.1,df:=df},p.2)
 |none=>none
def ko(k:Fr->U->zh):zh->zh
 |some p=>match p.1 with
  |.norm=>k p.2.1 p.2.2
  |_=>some p
 |none=>none
def Jx(c:zv)(a b:Fr->U->zh)(fr:Fr)(s:U):zh:=
 match c with
 |some (.bool true)=>a fr s
 |some (.bool false)=>b fr s
 |_=>none
def gS(Y:Nat):zh->zh
 |some p=>match p.1 with
  |.exit i=>bif zD i Y then some (.norm,p.2)else some p
  |_=>some p
 |none=>none
def fK:Option Res->Res
 |none=>.norm
 |some r=>r
def Zt(fr:Fr)(l d:Nat):zb->zh
 | some p=>match p.2.get l with
  |some (.loop st pend A ps asg body dd)=>match st with
   |.busy=>none
   |_=>some (fK pend,{fr with df:=d::fr.df},p.2.put l (.loop .exhausted pend A ps asg body dd))
  |_=>none
 |none=>none
def rfR(S:Self)(rd:zw)(g:zv)(ps:zr)(asg body:ICode)(fr:Fr)(s:U):zh:=
 match rd with
 |none=>match g with
  |some (.fn f a c)=>Zt fr (Nat.succ s.next) s.next (S.call f (a++ .yld (Nat.succ s.next)::c) ((s.alloc .dfd).alloc (.loop .ready none fr.A ps asg body s.next)))
  |_=>none
 |some _=>none
def JJ(G:Env)(S:Self)(ops:zo)(fr:Fr)(s:U):zh:=
 match s.only with
 |none=>j5 fr.df (evD G S ops 0 [] fr.A s)
 |some _=>none
def Xp:List SOper->zr
 |[]=>[]
 |o::r=>match o.dst with
  |some i=>i::Xp r
  |none=>Xp r
def zyf:zo->zr
 |[]=>[]
 |o::r=>match o.o.dst with
  |some i=>i::zyf r
  |none=>zyf r
def eqW:Z->Z->Bool
 |.int k n,.int k' m=>jJ k k'&&eqI n m
 |.ptr i o,.ptr j p=>zD i j&&zD o p
 |_,_=>false
def kI:zo->List SOper
 |[]=>[]
 |o::r=>o.o::kI r
def zzo:Self:=⟨λ_ _ _=>none,λ_ _ _ _=>none,λ_ _ _=>none⟩
def Ho(v:Z):zv->Bool
 |some u=>eqW v u
 |none=>false
def J1(A:zu)(d:zw):zb->Bool
 |some p=>match d with
  |some k=>Ho p.1 (A.get k)
  |none=>false
 |none=>false
def gP(G:Env)(A:zu)(s:U):zo->Bool
 |[]=>true
 |o::r=>bif J1 A o.o.dst (qG G zzo o.o.op A s)then gP G A s r else false
def rtE(G:Env)(l:zo)(d:zw)(A:zu)(df:zr)(s:U):zb->zh
 |some q=>bif J1 A d (some q)then bif gP G A s l then bif gP G A q.2 l then some (.norm,{A:=A,df:=df},q.2)else none else none else none
 |none=>none
def rtS(G:Env)(S:Self)(l:zo)(o:SOper)(df:zr)(s:U):Option (zu×U)->zh
 |some p=>rtE G l o.dst p.1 df s (qG G S o.op p.1 s)
 |none=>none
def evC(G:Env)(S:Self)(rd:zw):ICode->Fr->U->zh
 |.skip,fr,s=>some (.norm,fr,s)
 |.reg ops,fr,s=>j5 fr.df (evS G S ops fr.A s)
 |.regd ops,fr,s=>JJ G S ops fr s
 |.regt a c r,fr,s=>rtS G S (a::r) c.o fr.df s (evS G S (a.o::c.o::kI r) fr.A s)
 |.seq a b,fr,s=>ko (evC G S rd b) (evC G S rd a fr s)
 |.cond c a b,fr,s=>Jx (c.ev fr.A) (evC G S rd a) (evC G S rd b) fr s
 |.block Y b,fr,s=>gS Y (evC G S rd b fr s)
 |.loop b,fr,s=>ko (S.loop rd b) (evC G S rd b fr s)
 |.exit Y,fr,s=>some (.exit Y,fr,s)
 |.ret,fr,s=>some (.ret,fr,s)
 |.rf g ps asg body,fr,s=>rfR S rd (g.ev fr.A) ps asg body fr s
 |.stk,_,_=>none
def QT(G:List zt)(A:zu)(s:U)(res:List RV):zb:=
 match gC G A s res with
 |some vs=>some (jc vs,s)
 |none=>none
def qv(G:List zt)(res:List RV):zh->zb
 | some p=>match p.1 with
  |.exit _=>none
  |_=>match qT p.2.2 p.2.1.df with
   |some s=>QT G p.2.1.A s res
   |none=>none
 |none=>none
def Xa(n0:Nat):Z->zv
 |.gr Y esz n cs=>bif zH n0 Y then some (.lst n false cs)else some (.gr Y esz n cs)
 |.ptr Y off=>bif zG Y n0 then some (.ptr Y off)else none
 |.sl Y off len c=>bif zG Y n0 then some (.sl Y off len c)else none
 |.map Y=>bif zG Y n0 then some (.map Y)else none
 |v=>bif wC v then some v else none
def UD(n0:Nat):zt->Option zt
 |[]=>some []
 | v::r=>match Xa n0 v with
  |some v=>match UD n0 r with
   |some r=>some (v::r)
   |none=>none
  |none=>none
def VC(n0:Nat):Z->zv
 |.agg cs=>match UD n0 cs with
  |some l=>some (.agg l)
  |none=>none
 |v=>Xa n0 v
def VD(n0:Nat):zt->Option zt
 |[]=>some []
 | v::r=>match VC n0 v with
  |some v=>match VD n0 r with
   |some r=>some (v::r)
   |none=>none
  |none=>none
def XG(n0:Nat):Z->zv
 |.tup vs=>match VD n0 vs with
  |some l=>some (.tup l)
  |none=>none
 |v=>VC n0 v
def grW:Z->Z
 |.gr _ _ n cs=>.lst n false cs
 |v=>v
def Tq:zt->zt
 |[]=>[]
 |v::r=>grW v::Tq r
def zyH:Z->Z
 |.agg cs=>.agg (Tq cs)
 |v=>v
def zyI:zt->zt
 |[]=>[]
 |v::r=>zyH v::zyI r
def agW:Z->Z
 |.agg cs=>.agg (Tq cs)
 |.tup vs=>.tup (zyI vs)
 |v=>v
def Xd(s:U):zb->zb
 |some p=>match (bif zD (qH p.2.wm s.next) 0 then XG s.next p.1 else none)with
  |some v=>some (v,s)
  |none=>some (agW p.1,{p.2 with wm:=Nat.lor s.wm p.2.wm,md:=s.md})
 |none=>none
def mdR(b:Bool):zb->zb
 |some p=>some (p.1,{p.2 with md:=b})
 |none=>none
def Xh(E:Env)(S:Self)(F:IFunc)(args:zt)(s:U):zb:=
 qv E.globs F.res (evC E S none F.body {A:=qk .leaf 0 args,df:=[]} s)
def kY(E:Env)(S:Self)(f:Nat)(args:zt)(s:U):zb:=
 match E.funs.get f with
 | some F=>bif zH (qQ args) F.ntmps then
   bif E.pure f then Xd s (Xh E S F args {s with wm:=0,md:=true})else mdR s.md (Xh E S F args {s with md:=false})
  else none
 |none=>none
def jA(l:Nat):zh->zb
 | some p=>match p.2.2.get l with
  |some (.loop _ _ A ps asg body d)=>match p.1 with
   |.norm=>some (.bool true,p.2.2.put l (.loop .ready none A ps asg body d))
   |r=>some (.bool false,p.2.2.put l (.loop .done (some r) A ps asg body d))
  |_=>none
 |none=>none
def ua(E:Env)(S:Self)(l:Nat)(bd:ICode):zh->zb
 | some p=>match p.1 with
  |.norm=>match p.2.2.get l with
   |some (.loop .ready pend A ps asg body d)=>jA l (evC E S (some l) bd p.2.1 (p.2.2.put l (.loop .busy pend A ps asg body d)))
   |_=>none
  |_=>none
 |none=>none
def kw(E:Env)(S:Self)(l:Nat)(args:zt)(s:U):zb:=
 match s.get l with
 |some (.loop _ _ A ps asg body _)=>match Zv A ps args with
  |some tm1=>ua E S l body (evC E S (some l) asg {A:=tm1,df:=[]} s)
  |none=>none
 |_=>none
def ev(E:Env):Nat->Self
 |0=>⟨λ_ _ _=>none,λ_ _ _ _=>none,λ_ _ _=>none⟩
 |n+1=>⟨λf args s=>kY E (ev E n) f args s,λrd b fr s=>evC E (ev E n) rd (.loop b) fr s,λl args s=>kw E (ev E n) l args s⟩
def s0:U:=⟨.leaf,0,0,[],none,false⟩
end
end Go.Proofs.YtbdfljdgapkbcaaGreatDoor.Ev

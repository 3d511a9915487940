/- A part of the evaluator and of its soundness: what it answers, the model's run answers. No conditions. -/
import Derived.Test.YtbddpjboppmnfaaGreatDoorEvDefs
import Derived.Below
import Derived.CallsIn
set_option linter.unusedSimpArgs false
set_option linter.unusedVariables false
set_option linter.defProp false
open List renaming length → zR, toArray → zZ
open Nat renaming mod_two_eq_zero_or_one → zS, beq → zI, lt_of_lt_of_le → zT, div → zO, mod → zN, ble → zM, beq_eq → zW, le_refl → zX, le_trans → yb, pred → yc
open Bool renaming and_eq_true → zU, or_eq_true → zV, eq_false_iff → zY
namespace Go.Proofs.YtbddpjboppmnfaaGreatDoor.Ev
variable {s s':U}{ys:zE}{o:AObj}{w X w':World}{n b i off:Nat}{vs l cs m:zA}{v:Z}
def cValF:Nat->Value->zC
 |0,_=>none
 |n+1,v=>match v with
  |.bool b=>some (.bool b)
  |.int k i=>some (.int k i)
  |.string s=>some (.str (s.data.toList.map (·.toNat)))
  |.pointer none=>some .nilp
  |.slice none 0 0=>some .nils
  |.map none=>some .nilm
  |.func (.func f) first cap=>bif first.isEmpty&&cap.isEmpty then some (.fn f [] [])else none
  |.nilFunc=>some .nilf
  |.nilIface=>some .nili
  |.agg cs=>(go n cs.toList).map .agg
  |.tuple cs=>(go n cs.toList).map .tup
  |_=>none
 where
 go:Nat->zE->Option zA
 |_n,[]=>some []
 |n,v::r=>match cValF n v,go n r with
  |some a,some l=>some (a::l)
  |_,_=>none
def RP(v:Value):zC:=cValF 4 v
def vP:Operand->Option Opd
 |.tmp t=>some (.t t)
 |.const v=>(RP v).map .c
 |.global g=>some (.c (.gptr g 0))
 |.func f=>some (.c (.fn f [] []))
def Yj:List Operand->Option (List Opd)
 |[]=>some []
 |x::r=>match vP x,Yj r with
  |some a,some l=>some (a::l)
  |_,_=>none
def K9:Option Operand->Option (Option Opd)
 |none=>some none
 |some x=>match vP x with
  |some a=>some (some a)
  |none=>none
variable (P:Program)
def jU(t:TypeId):zD:=(P.info? t).map (·.size)
def K7(t:TypeId):zD:=(P.info? t).map (·.bytes)
def lH(t:TypeId):zC:=((P.info? t).bind (·.zero)).bind RP
def H7(t:TypeId):Option Bool:=
 match P.underlying t with
 |some (.struct _)=>some true
 |some (.array _ _)=>some true
 |some _=>some false
 |none=>none
def fkT(t:TypeId):Option FK:=
 match P.underlying t with
 |some (.int _)=>some .i
 |some .string=>some .s
 |some .bool=>some .b
 |_=>none
def p8(place:Nat->Option (Nat×Nat)):List (Nat×Operand)->Option zu
 |[]=>some []
 |(i,x)::r=>match place i,vP x,p8 place r with
  |some (o,s),some a,some l=>some ((o,s,a)::l)
  |_,_,_=>none
def lS:List Field->Nat->Option (List FK)
 |[],_=>some []
 | f::r,i=>bif f.offset==i&&f.name != "_" then
   match fkT P f.type,lS r (i+1)with
   |some k,some l=>some (k::l)
   |_,_=>none
  else none
def oh(t:TypeId):Option EqK:=
 match P.underlying t with
 |some (.int _)=>some .basic
 |some .string=>some .basic
 |some .bool=>some .bool
 |some (.pointer e)=>match jU P e with
  |some (_+1)=>some .ptr
  |_=>none
 |some (.slice _)=>some .slice
 |some (.map _ _)=>some .map
 |some (.func _ _ _)=>some .func
 |some (.interface _)=>some .iface
 |some (.struct fs)=>match lS P fs.toList 0 with
  |some ks=>bif !P.eqGuardType P.depth t&& !P.stoodInHeld t then some (.flat ks)else none
  |none=>none
 |_=>none
def gH(k:EqK)(x y:Operand):EqK:=
 match k with
 |.iface=>bif Region.isConst x||Region.isConst y then .ifacec else .iface
 |k=>k
def cH(fs:Array Field)(i:Nat):Option (Nat×Nat):=
 match fs[i]? with
 |some f=>match jU P f.type with
  |some s=>some (f.offset,s)
  |none=>none
 |none=>none
def XV(b:Builtin)(ts:List TypeId)(args:List Operand):Option IOp:=
 match b,ts,args with
 |.len,t::_,[x]=>match P.underlying t with
  |some .string=>(vP x).map (.len .s)
  |some (.slice _)=>(vP x).map (.len .v)
  |some (.map _ _)=>(vP x).map (.len .m)
  |_=>none
 |.cap,t::_,[x]=>match P.underlying t with
  |some (.slice _)=>(vP x).map .cap
  |_=>none
 | .append,t::u::_,[x,y]=>match P.underlying t with
  | some (.slice e)=>match P.underlying u with
   |some (.int _)=>match jU P e,K7 P e,lH P e,vP x,vP y with
    |some s,some b,some z,some a,some c=>bif zI (vC z.cells) s&&zM 1 s then some (.appz e s b z.cells a c)else none
    |_,_,_,_,_=>none
   |some .string=>match jU P e,K7 P e,lH P e,vP x,vP y with
    |some 1,some b,some z,some a,some c=>bif zI (vC z.cells) 1 then some (.app e 1 b a c)else none
    |_,_,_,_,_=>none
   |some (.slice _)=>match jU P e,K7 P e,lH P e,vP x,vP y with
    |some s,some b,some z,some a,some c=>bif zI (vC z.cells) s then some (.app e s b a c)else none
    |_,_,_,_,_=>none
   |_=>none
  |_=>none
 | .delete,t::_,[m,k]=>match P.underlying t with
  |some (.map kt _)=>match fkT P kt,vP m,vP k with
   |some f,some a,some c=>some (.md f a c)
   |_,_,_=>none
  |_=>none
 |_,_,_=>none
def vv(o:Op):Option IOp:=
 match o with
 |.move x|.assign x=>(vP x).map .mv
 |.pick c a b=>match vP c,vP a,vP b with
  |some c,some a,some b=>some (.pick c a b)
  |_,_,_=>none
 |.alloc t=>(lH P t).map λz=>.alloc t z.cells
 |.box t x=>(vP x).map (.box t)
 | .build t ps=>match lH P t,P.underlying t with
  |some z,some (.struct fs)=>bif fs.toList.all (λf=>(jU P f.type).isSome)then (p8 (cH P fs) ps.toList).map (.build z.cells)else none
  |some z,some (.array _ e)=>match jU P e with
   |some s=>(p8 (λi=>some (i*s,s)) ps.toList).map (.build z.cells)
   |none=>none
  |_,_=>none
 | .buildSlice t len ps=>match P.underlying t with
  | some (.slice e)=>match jU P e,lH P e with
   | some s,some z=>bif zM (len*s) 16777216&&zI (vC z.cells) s&&zM 1 s then
     (p8 (λi=>some (i*s,s)) ps.toList).map (.bsl e (reps len z.cells) len)
    else none
   |_,_=>none
  |_=>none
 |.load t a=>match H7 P t,jU P t,vP a with
  |some true,some n,some a=>some (.ldn n a)
  |some false,_,some a=>some (.ld a)
  |_,_,_=>none
 |.store t a x=>match jU P t,vP a,vP x with
  |some n,some a,some x=>some (.st n a x)
  |_,_,_=>none
 |.nilCheck x=>(vP x).map .nck
 | .binOp op t x y _=>match oh P t,vP x,vP y with
  |some .basic,some x,some y=>some (.bin op x y)
  |some k,some a,some b=>match op with
   |.eql=>some (.eqk (gH k x y) false a b)
   |.neq=>some (.eqk (gH k x y) true a b)
   |_=>none
  |_,_,_=>none
 |.unOp op _ x=>(vP x).map (.un op)
 | .convert s d x=>match P.underlying s,P.underlying d,vP x with
  |some _,some (.int k),some x=>some (.ci k x)
  |some .string,some (.slice e),some x=>match P.underlying e with
   |some (.int .u8)=>some (.csb e x)
   |_=>none
  |some (.slice e),some .string,some x=>match P.underlying e with
   |some (.int .u8)=>some (.cbs x)
   |_=>none
  |_,_,_=>none
 |.makeInterface t x=>match P.underlying t with
  |some (.interface _)=>none
  |some _=>(vP x).map (.mif t)
  |none=>none
 |.makeFunc (.func f) first cap=>match Yj first.toList,Yj cap.toList with
  |some a,some b=>some (.mfn f a b)
  |_,_=>none
 |.makeMap _ none=>some .mmap
 |.makeMap t (some (.const (.int _ _)))=>match P.underlying t with
  |some (.map _ _)=>some .mmap
  |_=>none
 | .makeSlice t l c=>match P.underlying t with
  |some (.slice e)=>match jU P e,K7 P e,lH P e,vP l,vP c with
   |some s,some b,some z,some l,some c=>bif zI (vC z.cells) s&&zM 1 s then some (.msl e s b z.cells l c)else none
   |_,_,_,_,_=>none
  |_=>none
 | .slice t x lo hi mx=>match P.underlying t,vP x,K9 lo,K9 hi,K9 mx with
  |some .string,some x,some lo,some hi,some none=>some (.sls x lo hi)
  |some (.slice e),some x,some lo,some hi,some mx=>match jU P e with
   |some s=>bif (mx.isNone||hi.isSome)&&zM 1 s then some (.slv s x lo hi mx)else none
   |none=>none
  |_,_,_,_,_=>none
 | .fieldAddr s x f=>match P.underlying s with
  | some (.struct fs)=>match fs[f]? with
   |some fl=>match jU P fl.type with
    |some 0=>none
    |some _=>(vP x).map (.fa fl.offset)
    |none=>none
   |none=>none
  |_=>none
 | .indexAddr t x i=>match P.underlying t with
  |some (.array n e)=>match jU P e,vP x,vP i with
   |some s,some x,some i=>some (.iaa n s x i)
   |_,_,_=>none
  |some (.slice e)=>match jU P e,vP x,vP i with
   |some s,some x,some i=>some (.ia s x i)
   |_,_,_=>none
  |_=>none
 | .index t x i=>match P.underlying t with
  |some .string=>match vP x,vP i with
   |some x,some i=>some (.ixs x i)
   |_,_=>none
  |_=>none
 | .lookup t m k ok=>match P.underlying t with
  |some (.map kt e)=>match fkT P kt,lH P e,vP m,vP k with
   |some f,some z,some m,some k=>some (.lk f z ok m k)
   |_,_,_,_=>none
  |_=>none
 | .mapUpdate t m k v|.insert t m k v=>match P.underlying t with
  |some (.map kt _)=>match fkT P kt,vP m,vP k,vP v with
   |some f,some m,some k,some v=>some (.mu f m k v)
   |_,_,_,_=>none
  |_=>none
 |.range t x=>match P.underlying t with
  |some .string=>(vP x).map .rs
  |some (.map _ _)=>(vP x).map .rm
  |_=>none
 |.next it true=>(vP it).map .ns
 |.next it false=>(vP it).map .nm
 |.entry it=>(vP it).map .en
 |.extract x i=>(vP x).map λa=>.ex a i
 | .call c=>match c.callee with
  | .value (.func f)=>match P.funcs[f]? with
   |none=>none
   | some fn=>bif fn.name== "internal/bytealg.IndexByteString"&&(fn.origin== ""&&fn.body.isNone)then
     match Yj c.args.toList with
     |some [x,y]=>some (.ibs x y)
     |_=>none
    else bif fn.name== "internal/abi.NoEscape"&&(fn.origin== ""&&fn.body.isNone)then
     match Yj c.args.toList with
     |some [x]=>some (.nes x)
     |_=>none
    else none
  |.value _=>none
  |.builtin b=>XV P b c.argTypes.toList c.args.toList
  |.invoke _ _=>none
 |_=>none
def Jd:IOp->Bool
 |.call _ _=>false
 |.cv _ _=>false
 |_=>true
def JU:Option IOp->Option IOp
 |some i=>bif Jd i then some i else none
 |none=>none
def zya(c:Call):Option IOp:=
 match c.callee with
 |.value (.func f)=>match P.funcs[f]? with
  |none=>none
  |some fn=>bif fn.body.isSome then (Yj c.args.toList).map (.call f)else JU (vv P (.call c))
 |.value x=>match vP x,Yj c.args.toList with
  |some x,some l=>some (.cv x l)
  |_,_=>none
 |_=>JU (vv P (.call c))
def cOp(o:Op):Option IOp:=
 match o with
 |.call c=>zya P c
 |o=>JU (vv P o)
def K8(ops:Array Oper):Option (Nat×Bool)->Option (Option (Nat×Bool))
 |none=>some none
 | some (j,w)=>match ops[j]? with
  |some o=>match o.dst with
   |some d=>some (some (d,w))
   |none=>none
  |none=>none
def nj(o:Op):IOp:=match cOp P o with
 |some i=>i
 |none=>.stk
def cS(nt:Nat)(ops:Array Oper)(o:Oper):Option SOper:=
 match nj P o.op,K8 ops o.guard with
 |op,some g=>match o.dst with
  |some d=>bif Nat.blt d nt then some {dst:=some d,op:=op,guard:=g}else none
  |none=>some {dst:=none,op:=op,guard:=g}
 |_,_=>none
def cSs(nt:Nat)(ops:Array Oper):List Oper->Option (List SOper)
 |[]=>some []
 |o::r=>match cS P nt ops o,cSs nt ops r with
  |some a,some l=>some (a::l)
  |_,_=>none
def FT(acc:zy)(es:List Edge):Nat:=
 es.foldl (λs e=>bif Region.binds .any e then s|||2^e.on|||acc.getD e.on 0 else s) 0
def py:List Oper->zy->zy
 |[],acc=>acc
 |o::r,acc=>py r (acc++[FT acc o.after.toList])
def Opd.tmp:Opd->zy
 |.t i=>[i]
 |.c _=>[]
def Opd.tmps(l:List Opd):zy:=l.flatMap Opd.tmp
def IOp.opds:IOp->List Opd
 |.mv x|.box _ x|.ld x|.ldn _ x|.nck x|.un _ x|.ci _ x|.csb _ x|.cbs x|.mif _ x|.fa _ x|.rs x|.ns x|.rm x|.nm x|.en x|.ex x _|.len _ x|.cap x|.nes x=>[x]
 |.pick a b c|.mu _ a b c=>[a,b,c]
 |.alloc _ _|.mmap|.stk=>[]
 |.build _ ps|.bsl _ _ _ ps=>ps.map (·.2.2)
 |.st _ x y|.bin _ x y|.eqk _ _ x y|.msl _ _ _ _ x y|.ia _ x y|.iaa _ _ x y|.ixs x y|.lk _ _ _ x y|.md _ x y|.app _ _ _ x y|.appz _ _ _ _ x y|.ibs x y=>[x,y]
 |.call _ l=>l
 |.mfn _ l m=>l++m
 |.cv x l=>x::l
 |.sls x a b=>x::(a.toList++b.toList)
 |.slv _ x a b c=>x::(a.toList++b.toList++c.toList)
def SOper.names(o:SOper):zy:=Opd.tmps o.op.opds++(match o.guard with|some (d,_)=>[d]|none=>[])
def Vk:Nat->zy->Bool
 |_,[]=>false
 |n,m::r=>zI n m||Vk n r
def JK(a b:SOper):Bool:=
 (match a.dst with|some d=>Vk d b.names||b.dst==some d|none=>false)||
 (match b.dst with|some d=>Vk d a.names|none=>false)
def Qm(i:Nat)(a:SOper):List SOper->zy->Bool
 |[],_=>true
 |b::r,d::ds=>(!JK a b||d.testBit i)&&Qm i a r ds
 |_::_,[]=>false
def Hr:Nat->List SOper->zy->Bool
 |_,[],_=>true
 |i,a::r,_::ds=>Qm i a r ds&&Hr (i+1) r ds
 |_,_::_,[]=>false
def Je:Nat->zy->Bool
 |_,[]=>true
 |i,d::ds=>Nat.blt d (2^i)&&Je (i+1) ds
def mkD:List SOper->zy->zt
 |a::r,d::ds=>{o:=a,deps:=d}::mkD r ds
 |_,_=>[]
def dO(nt:Nat)(ops:Array Oper):Option zt:=
 match cSs P nt ops ops.toList with
 |some l=>
  let deps:=py ops.toList []
  bif Hr 0 l deps&&Je 0 deps then some (mkD l deps)else none
 |none=>none
def cC(nt:Nat):Code->Option ICode
 |.skip=>some .skip
 |.region _ ops false=>(cSs P nt ops ops.toList).map .reg
 |.region _ ops true=>(dO P nt ops).map .regd
 |.seq a b=>match cC nt a,cC nt b with
  |some a,some b=>some (.seq a b)
  |_,_=>none
 |.cond c a b=>match vP c,cC nt a,cC nt b with
  |some c,some a,some b=>some (.cond c a b)
  |_,_,_=>none
 |.block Y b=>(cC nt b).map (.block Y)
 |.loop b=>(cC nt b).map .loop
 |.exit Y=>some (.exit Y)
 |.ret=>some .ret
 |.rangeFunc g ps a b=>match vP g,cC nt a,cC nt b with
  |some g,some a,some b=>bif ps.toList.all (Nat.blt · nt)then some (.rf g ps.toList a b)else none
  |_,_,_=>none
 |_=>some .stk
def a8:List ResultVar->Option (List RV)
 |[]=>some []
 |.tmp t::r=>(a8 r).map (.t t:: ·)
 |.cell a t::r=>match H7 P t,jU P t,a8 r with
  |some true,some n,some l=>some (.cn a n::l)
  |some false,_,some l=>some (.c1 a::l)
  |_,_,_=>none
def dN(fn:Func):Option IFunc:=
 match fn.body with
 |none=>none
 |some c=>match cC P fn.ntmps c,a8 P fn.results.toList with
  |some b,some r=>bif fn.name != "runtime.NumGoroutine" then some {ntmps:=fn.ntmps,res:=r,body:=b}else none
  |_,_=>none
theorem Trie.get_leaf{α:Type}(n:Nat):(Trie.leaf:Trie α).get n=none:=rfl
theorem Trie.get_zero{α:Type}(v:Option α)(l r:Trie α):(Trie.node v l r).get 0=v:=rfl
theorem Trie.get_odd{α:Type}(v:Option α)(l r:Trie α)(n:Nat)(h:n%2=1):(Trie.node v l r).get n=l.get (n/2):=by
 cases n with
 |zero=>simp at h
 |succ n=>
  have hb:zI (zN (n+1) 2) 1=true:=by rw[zW];exact h
  show (bif zI (zN (n+1) 2) 1 then l.get (zO (n+1) 2)else r.get (yc (zO (n+1) 2)))=_;rw[hb];rfl
theorem Trie.get_even{α:Type}(v:Option α)(l r:Trie α)(n:Nat)(h:n%2=0)(h0:n≠0):(Trie.node v l r).get n=r.get (n/2-1):=by
 cases n with
 |zero=>exact absurd rfl h0
 | succ n=>
  have hb:zI (zN (n+1) 2) 1=false:=by
   rw[zY,ne_eq,zW];show ¬((n+1)%2=1);omega
  show (bif zI (zN (n+1) 2) 1 then l.get (zO (n+1) 2)else r.get (yc (zO (n+1) 2)))=_;rw[hb];rfl
theorem Trie.setF_leaf_zero{α:Type}(f:Nat)(v:Option α):Trie.setF (f+1) .leaf 0 v=.node v .leaf .leaf:=rfl
theorem Trie.setF_node_zero{α:Type}(f:Nat)(w v:Option α)(l r:Trie α):Trie.setF (f+1) (.node w l r) 0 v=.node v l r:=rfl
theorem Trie.setF_leaf_odd{α:Type}(f:Nat)(v:Option α)(n:Nat)(h:n%2=1):Trie.setF (f+1) .leaf n v=.node none (Trie.setF f .leaf (n/2) v) .leaf:=by
 cases n with
 |zero=>simp at h
 |succ n=>
  have hb:zI (zN (n+1) 2) 1=true:=by rw[zW];exact h
  show (bif zI (zN (n+1) 2) 1 then Trie.node none (Trie.setF f .leaf (zO (n+1) 2) v) .leaf else .node none .leaf (Trie.setF f .leaf (yc (zO (n+1) 2)) v))=_;rw[hb];rfl
theorem Trie.setF_leaf_even{α:Type}(f:Nat)(v:Option α)(n:Nat)(h:n%2=0)(h0:n≠0):Trie.setF (f+1) .leaf n v=.node none .leaf (Trie.setF f .leaf (n/2-1) v):=by
 cases n with
 |zero=>exact absurd rfl h0
 | succ n=>
  have hb:zI (zN (n+1) 2) 1=false:=by
   rw[zY,ne_eq,zW];show ¬((n+1)%2=1);omega
  show (bif zI (zN (n+1) 2) 1 then Trie.node none (Trie.setF f .leaf (zO (n+1) 2) v) .leaf else .node none .leaf (Trie.setF f .leaf (yc (zO (n+1) 2)) v))=_;rw[hb];rfl
theorem Trie.setF_node_odd{α:Type}(f:Nat)(w v:Option α)(l r:Trie α)(n:Nat)(h:n%2=1):Trie.setF (f+1) (.node w l r) n v=.node w (Trie.setF f l (n/2) v) r:=by
 cases n with
 |zero=>simp at h
 |succ n=>
  have hb:zI (zN (n+1) 2) 1=true:=by rw[zW];exact h
  show (bif zI (zN (n+1) 2) 1 then Trie.node w (Trie.setF f l (zO (n+1) 2) v) r else .node w l (Trie.setF f r (yc (zO (n+1) 2)) v))=_;rw[hb];rfl
theorem Trie.setF_node_even{α:Type}(f:Nat)(w v:Option α)(l r:Trie α)(n:Nat)(h:n%2=0)(h0:n≠0):Trie.setF (f+1) (.node w l r) n v=.node w l (Trie.setF f r (n/2-1) v):=by
 cases n with
 |zero=>exact absurd rfl h0
 | succ n=>
  have hb:zI (zN (n+1) 2) 1=false:=by
   rw[zY,ne_eq,zW];show ¬((n+1)%2=1);omega
  show (bif zI (zN (n+1) 2) 1 then Trie.node w (Trie.setF f l (zO (n+1) 2) v) r else .node w l (Trie.setF f r (yc (zO (n+1) 2)) v))=_;rw[hb];rfl
def Trie.get_setF{α:Type}:∀(f:Nat) (t:Trie α) (n:Nat) (v:Option α) (m:Nat),n<f->(Trie.setF f t n v).get m=if m=n then v else t.get m
 |0,_,_,_,_,h=>absurd h (Nat.not_lt_zero _)
 | f + 1,t,n,v,m,h=>by
  have ih:=λ(t:Trie α) (k j:Nat) (hk:k<f)=>Trie.get_setF f t k v j hk;by_cases h0:n=0
  .subst h0;by_cases hm:m=0
   .subst hm;cases t<;>simp[Trie.setF_leaf_zero,Trie.setF_node_zero,Trie.get_zero]
   .rcases zS m with e|e
    .cases t<;>simp[Trie.setF_leaf_zero,Trie.setF_node_zero,Trie.get_even _ _ _ m e hm,Trie.get_leaf,hm]
    .cases t<;>simp[Trie.setF_leaf_zero,Trie.setF_node_zero,Trie.get_odd _ _ _ m e,Trie.get_leaf,hm]
  .rcases zS n with en|en
   .cases t with
    | leaf=>
     rw[Trie.setF_leaf_even f v n en h0];by_cases hm:m=0
     .subst hm;simp[Trie.get_zero,Trie.get_leaf,Ne.symm h0]
     .rcases zS m with e|e
      .rw[Trie.get_even _ _ _ m e hm,ih _ _ _ J,Trie.get_leaf,Trie.get_leaf];by_cases hh:m=n
       .simp[hh]
       .rw[wx hh,wx J]
      .rw[Trie.get_odd _ _ _ m e,Trie.get_leaf,Trie.get_leaf,wx J]
    | node w l r=>
     rw[Trie.setF_node_even f w v l r n en h0];by_cases hm:m=0
     .subst hm;simp[Trie.get_zero,Ne.symm h0]
     .rcases zS m with e|e
      .rw[Trie.get_even _ _ _ m e hm,ih _ _ _ J,Trie.get_even _ _ _ m e hm];by_cases hh:m=n
       .simp[hh]
       .rw[wx hh,wx J]
      .rw[Trie.get_odd _ _ _ m e,Trie.get_odd _ _ _ m e,wx J]
   .cases t with
    | leaf=>
     rw[Trie.setF_leaf_odd f v n en];by_cases hm:m=0
     .subst hm;simp[Trie.get_zero,Trie.get_leaf,Ne.symm h0]
     .rcases zS m with e|e
      .rw[Trie.get_even _ _ _ m e hm,Trie.get_leaf,Trie.get_leaf,wx J]
      .rw[Trie.get_odd _ _ _ m e,ih _ _ _ J,Trie.get_leaf,Trie.get_leaf];by_cases hh:m=n
       .simp[hh]
       .rw[wx hh,wx J]
    | node w l r=>
     rw[Trie.setF_node_odd f w v l r n en];by_cases hm:m=0
     .subst hm;simp[Trie.get_zero,Ne.symm h0]
     .rcases zS m with e|e
      .rw[Trie.get_even _ _ _ m e hm,Trie.get_even _ _ _ m e hm,wx J]
      .rw[Trie.get_odd _ _ _ m e,ih _ _ _ J,Trie.get_odd _ _ _ m e];by_cases hh:m=n
       .simp[hh]
       .rw[wx hh,wx J]
def Trie.get_set{α:Type}(t:Trie α)(n:Nat)(v:α)(m:Nat):(t.set n v).get m=if m=n then some v else t.get m:=
 Trie.get_setF (n+1) t n (some v) m (Nat.lt_succ_self n)
def Trie.get_del{α:Type}(t:Trie α)(n:Nat)(m:Nat):(t.del n).get m=if m=n then none else t.get m:=
 Trie.get_setF (n+1) t n none m (Nat.lt_succ_self n)
def Trie.get_set_same{α:Type}(t:Trie α)(n:Nat)(v:α):(t.set n v).get n=some v:=by rw[Trie.get_set,wH rfl]
def Trie.get_set_ne{α:Type}(t:Trie α){m:Nat}(v:α)(h:m≠n):(t.set n v).get m=t.get m:=by rw[Trie.get_set,wx h]
theorem Zm(G:Env)(S:Self)(op:IOp)(A:zB)(s:U):vU G S op A s=(match op with
 |.call f args=>eT S f (evL A args) s
 |.cv x args=>bB S (x.ev A) (evL A args) s
 |op=>opv G op A s):=by cases op<;>rfl
open Go.RowKit (Below)
structure Blk where
 b:Nat
 o:Nat
 tot:Nat
variable {B:Blk}
structure Phi where
 m:Nat->Option Blk
 z:Nat->Nat->Option Value
variable {I I':Phi}
instance :CoeFun Phi (λ_=>Nat->Option Blk):=⟨Phi.m⟩
def ZC(I:Phi)(b:Nat):Nat->zE->Prop
 |_,[]=>True
 |o,y::r=>I.z b o=some y/\ZC I b (o+1) r
def jk(s:ByteArray):zy:=s.data.toList.map (·.toNat)
mutual
def VR(I:Phi):Z->Value->Prop
 |.bool b,x=>x=.bool b
 |.int k n,x=>x=.int k n
 |.str l,x=>∃s,x=.string s/\jk s=l
 |.ptr Y off,x=>∃B,I Y=some B/\x=.pointer (some ⟨B.b,B.o+off,none⟩)
 |.nilp,x=>x=.pointer none
 |.gptr g off,x=>x=.pointer (some ⟨g,off,none⟩)
 | .sl Y off len c,x=>∃B k,I Y=some B/\x=.slice (some ⟨B.b,B.o+off,none⟩) len k/\(match c with
   |.fix n=>k=n
   |.opn e=>0<e/\k=(B.tot-off)/e/\len<=k/\off<=B.tot)
 |.sl0,x=>∃a k,x=.slice (some a) 0 k
 |.nils,x=>x=.slice none 0 0
 |.map Y,x=>∃B,I Y=some B/\x=.map (some B.b)
 |.nilm,x=>x=.map none
 |.fn f a c,x=>∃xs ys,x=.func (.func f) (zZ xs) (zZ ys)/\VRL I a xs/\VRL I c ys
 |.nilf,x=>x=.nilFunc
 |.yld l,x=>∃B,I l=some B/\x=.func (.yield B.b) #[] #[]
 |.ifc t v,x=>∃y,x=.iface t y/\VR I v y
 |.nili,x=>x=.nilIface
 |.agg cs,x=>∃xs,x=.agg (zZ xs)/\VRL I cs xs
 |.tup vs,x=>∃xs,x=.tuple (zZ xs)/\VRL I vs xs
 |.lst n ex cs,x=>wL cs=true/\((n=0/\∃a,x=.slice a 0 0)\/∃b o k ys,x=.slice (some ⟨b,o,none⟩) n k/\(ex=true->k=n)/\n<=k/\ZC I b o ys/\VRL I cs ys)
 |.gr Y e n cs,x=>wL cs=true/\zR cs=n*e/\0<n/\0<e/\∃B ys,I Y=some B/\x=.slice (some ⟨B.b,B.o,none⟩) n (B.tot/e)/\n<=B.tot/e/\ZC I B.b B.o ys/\VRL I cs ys
 |.vp cs,x=>wL cs=true/\∃b o ys,x=.pointer (some ⟨b,o,none⟩)/\ZC I b o ys/\VRL I cs ys
def VRL(I:Phi):zA->zE->Prop
 |[],ys=>ys=[]
 |v::vs,ys=>∃y ys',ys=y::ys'/\VR I v y/\VRL I vs ys'
end
structure Sub(I I':Phi):Prop where
 of:∀Y B,I Y=some B->I' Y=some B
 z:∀b o v,I.z b o=some v->I'.z b o=some v
instance {I I':Phi}:CoeFun (Sub I I') (λ_=>∀Y B,I Y=some B->I' Y=some B):=⟨Sub.of⟩
def Sub.refl(I:Phi):Sub I I:=⟨λ_ _ h=>h,λ_ _ _ h=>h⟩
def Sub.trans{φ'':Phi}(h:Sub I I')(h':Sub I' φ''):Sub I φ'':=⟨λ_ _ t=>h'.of _ _ (h.of _ _ t),λ_ _ _ t=>h'.z _ _ _ (h.z _ _ _ t)⟩
def ZC.mono{I I':Phi}(h:∀b o v,I.z b o=some v->I'.z b o=some v){b:Nat}:∀{ys:zE} {o:Nat},ZC I b o ys->ZC I' b o ys
 |[],_,_=>trivial
 |_::_,_,t=>⟨h _ _ _ t.1,ZC.mono h t.2⟩
def ZC.drop{I:Phi}{b:Nat}:∀{ys:zE} {o:Nat} (n:Nat),ZC I b o ys->ZC I b (o+n) (ys.drop n)
 |ys,_,0,t=>by simpa using t
 |[],_,n+1,_=>by simp[ZC]
 |y::r,o,n+1,t=>by
  have:=ZC.drop n t.2;rw[show o+(n+1)=o+1+n by omega];simpa using this
def ZC.take{I:Phi}{b:Nat}:∀{ys:zE} {o:Nat} (n:Nat),ZC I b o ys->ZC I b o (ys.take n)
 |_,_,0,_=>by simp[ZC]
 |[],_,n+1,_=>by simp[ZC]
 |y::r,o,n+1,t=>⟨t.1,ZC.take n t.2⟩
def ZC.at{I:Phi}{b:Nat}:∀{ys:zE} {o i:Nat} {y:Value},ZC I b o ys->ys[i]? =some y->I.z b (o+i)=some y
 |[],_,_,_,_,h=>by simp at h
 |y0::r,o,0,y,t,h=>by simp at h;subst h;exact t.1
 |y0::r,o,i+1,y,t,h=>by
  have:=ZC.at (i:=i) t.2 (by simpa using h)
  rw[show o+(i+1)=o+1+i by omega];exact this
def ZC.of{I:Phi}{b:Nat}:∀{ys:zE} {o:Nat},(∀i y,ys[i]? =some y->I.z b (o+i)=some y)->ZC I b o ys
 |[],_,_=>trivial
 |y::r,o,h=>⟨h 0 y rfl,ZC.of λi y' hi=>by rw[show o+1+i=o+(i+1) by omega];exact h (i+1) y' (by simpa using hi)⟩
mutual
theorem VR.mono{I I':Phi}(h:Sub I I'):∀(v:Z) (x:Value),VR I v x->VR I' v x
 |.bool _,_,hv=>by simpa [VR]using hv
 |.int _ _,_,hv=>by simpa [VR]using hv
 |.str _,_,hv=>by simpa [VR]using hv
 |.ptr _ _,_,hv=>by simp only[VR]at *;obtain⟨B,hB,e⟩:=hv;exact⟨B,h _ _ hB,e⟩
 |.nilp,_,hv=>by simpa [VR]using hv
 |.gptr _ _,_,hv=>by simpa [VR]using hv
 |.sl _ _ _ _,_,hv=>by simp only[VR]at *;obtain⟨B,k,hB,e⟩:=hv;exact⟨B,k,h _ _ hB,e⟩
 |.sl0,_,hv=>by simpa [VR]using hv
 |.nils,_,hv=>by simpa [VR]using hv
 |.map _,_,hv=>by simp only[VR]at *;obtain⟨B,hB,e⟩:=hv;exact⟨B,h _ _ hB,e⟩
 |.nilm,_,hv=>by simpa [VR]using hv
 |.fn _ a c,_,hv=>by
  simp only[VR]at *;obtain⟨xs,ys,e,h1,h2⟩:=hv;exact⟨xs,ys,e,VRL.mono h a xs h1,VRL.mono h c ys h2⟩
 |.nilf,_,hv=>by simpa [VR]using hv
 |.yld _,_,hv=>by simp only[VR]at *;obtain⟨B,hB,e⟩:=hv;exact⟨B,h _ _ hB,e⟩
 |.ifc _ v,_,hv=>by simp only[VR]at *;obtain⟨y,e,h1⟩:=hv;exact⟨y,e,VR.mono h v y h1⟩
 |.nili,_,hv=>by simpa [VR]using hv
 |.agg cs,_,hv=>by simp only[VR]at *;obtain⟨xs,e,h1⟩:=hv;exact⟨xs,e,VRL.mono h cs xs h1⟩
 |.tup cs,_,hv=>by simp only[VR]at *;obtain⟨xs,e,h1⟩:=hv;exact⟨xs,e,VRL.mono h cs xs h1⟩
 |.lst n ex cs,_,hv=>by
  simp only[VR]at *;obtain⟨hp,h1|⟨b,o,k,ys,e1,e2,e3,e4,e5⟩⟩:=hv
  .exact⟨hp,.inl h1⟩
  .exact⟨hp,.inr ⟨b,o,k,ys,e1,e2,e3,e4.mono h.z,VRL.mono h cs ys e5⟩⟩
 |.gr Y e n cs,_,hv=>by
  simp only[VR]at *;obtain⟨hp,h0,h1,h2,B,ys,e1,e2,e3,e4,e5⟩:=hv;exact⟨hp,h0,h1,h2,B,ys,h.of _ _ e1,e2,e3,e4.mono h.z,VRL.mono h cs ys e5⟩
 |.vp cs,_,hv=>by
  simp only[VR]at *;obtain⟨hp,b,o,ys,e1,e2,e3⟩:=hv;exact⟨hp,b,o,ys,e1,e2.mono h.z,VRL.mono h cs ys e3⟩
theorem VRL.mono{I I':Phi}(h:Sub I I'):∀(l:zA) (ys:zE),VRL I l ys->VRL I' l ys
 |[],_,hv=>by simpa [VRL]using hv
 |v::vs,_,hv=>by
  simp only[VRL]at *;obtain⟨y,ys',e,h1,h2⟩:=hv;exact⟨y,ys',e,VR.mono h v y h1,VRL.mono h vs ys' h2⟩
end
def VRL.nil(I:Phi):VRL I [] []:=by simp[VRL]
def VRL.cons{y:Value}(h:VR I v y)(t:VRL I vs ys):VRL I (v::vs) (y::ys):=by
 simp only[VRL];exact⟨y,ys,rfl,h,t⟩
def VRL.length{I:Phi}:∀{vs:zA} {ys:zE},VRL I vs ys->zR vs=zR ys
 |[],_,h=>by simp only[VRL]at h;subst h;rfl
 |_::vs,_,h=>by
  simp only[VRL]at h;obtain⟨y,ys',rfl,_,h2⟩:=h;simp[VRL.length h2]
def VRL.append{I:Phi}:∀{vs:zA} {ys:zE} {us:zA} {zs:zE},VRL I vs ys->VRL I us zs->VRL I (vs++us) (ys++zs)
 |[],_,_,_,h,h'=>by simp only[VRL]at h;subst h;exact h'
 |_::vs,_,_,_,h,h'=>by
  simp only[VRL]at h;obtain⟨y,ys',rfl,h1,h2⟩:=h;exact VRL.cons h1 (VRL.append h2 h')
theorem qT{α:Type}:∀l:List α,vC l=zR l
 |[]=>rfl
 |_::r=>by show Nat.succ (vC r)=_;rw[qT r];rfl
def lZ:∀{n:Nat} {l m:zA},qf n l=some m->∃r,l=m++r/\zR m=n
 |0,l,m,h=>by simp[qf]at h;subst h;exact⟨l,rfl,rfl⟩
 |n+1,[],m,h=>by simp[qf]at h
 | n+1,v::l,m,h=>by
  simp only[qf]at h;cases ht:qf n l with
  |none=>rw[ht]at h;simp at h
  |some k=>
   rw[ht]at h;simp at h;subst h;obtain⟨r,e,hl⟩:=lZ ht;exact⟨r,by rw[e];rfl,by simp[hl]⟩
theorem qH:∀(n:Nat) (l:zA),qv n l=l.drop n
 |0,l=>rfl
 |n+1,[]=>rfl
 |n+1,_::l=>by show qv n l=_;rw[qH n l];rfl
def pD:∀(n:Nat) (l:zA),tkN n l=l.take n
 |0,l=>by simp[tkN]
 |n+1,[]=>by simp[tkN]
 |n+1,v::l=>by simp[tkN,pD n l]
def cut_some(h:cut l off n=some m):List.length m=n/\((off+n<=List.length l\/n=0)/\m=(l.drop off).take n):=by
 unfold cut at h;obtain⟨r,e,hl⟩:=lZ h;rw[qH]at e;refine⟨hl,?_,?_⟩
 .by_cases h0:n=0
  .exact .inr h0
  .left
   have:=congrArg zR e;simp at this;omega
 .rw[e,<-hl];simp
def P1:∀{l vs r:zA},Uq l vs=some r->zR vs<=zR l/\r=vs++l.drop (zR vs)
 |l,[],r,h=>by cases l<;>simp[Uq]at h<;>subst h<;>simp
 |[],_::_,r,h=>by simp[Uq]at h
 | _::l,v::vs,r,h=>by
  simp only[Uq]at h;cases ht:Uq l vs with
  |none=>rw[ht]at h;simp at h
  |some k=>
   rw[ht]at h;simp at h;subst h;obtain⟨h1,rfl⟩:=P1 ht;exact⟨by simp;exact h1,by simp⟩
def Vp:∀{l:zA} {off:Nat} {vs r:zA},ki l off vs=some r->(off+zR vs<=zR l\/vs=[])/\r=l.take off++vs++l.drop (off+zR vs)
 |l,0,vs,r,h=>by
  cases l<;>simp only[ki]at h<;>obtain⟨h1,rfl⟩:=P1 h<;>exact⟨.inl (by simpa using h1),by simp⟩
 |[],n+1,vs,r,h=>by
  cases vs with
  |nil=>simp[ki]at h;subst h;exact⟨.inr rfl,by simp⟩
  |cons _ _=>simp[ki]at h
 | v::l,n+1,vs,r,h=>by
  simp only[ki]at h;cases ht:ki l n vs with
  |none=>rw[ht]at h;simp at h
  | some k=>
   rw[ht]at h;simp at h;subst h;obtain⟨h1,rfl⟩:=Vp ht;refine⟨?_,?_⟩
   .rcases h1 with h1|h1
    .left;simp;omega
    .exact .inr h1
   .have:n+1+zR vs=(n+zR vs)+1:=J;rw[this];simp
def WC(z:zA):∀n,(reps n z).length=n*zR z
 |0=>by simp[reps]
 |n+1=>by simp[reps,WC z n,Nat.succ_mul,Nat.add_comm]
def VRL.take(h:VRL I vs ys)(n:Nat):VRL I (vs.take n) (ys.take n):=by
 induction n generalizing vs ys with
 |zero=>simpa using VRL.nil I
 |succ n ih=>
  cases vs with
  |nil=>simp only[VRL]at h;subst h;simpa using VRL.nil I
  |cons v vs=>simp only[VRL]at h;obtain⟨y,ys',rfl,h1,h2⟩:=h;simpa using VRL.cons h1 (ih h2)
def VRL.drop(h:VRL I vs ys)(n:Nat):VRL I (vs.drop n) (ys.drop n):=by
 induction n generalizing vs ys with
 |zero=>simpa using h
 |succ n ih=>
  cases vs with
  |nil=>simp only[VRL]at h;subst h;simpa using VRL.nil I
  |cons v vs=>simp only[VRL]at h;obtain⟨y,ys',rfl,h1,h2⟩:=h;simpa using ih h2
def VRL.cut(h:VRL I vs ys)(hc:Ev.cut vs off n=some m):VRL I m ((ys.drop off).take n):=by
 obtain⟨_,_,rfl⟩:=cut_some hc;exact(h.drop off).take n
def VRL.get{I:Phi}:∀{vs:zA} {ys:zE} {i:Nat} {v:Z},VRL I vs ys->vs[i]? =some v->∃y,ys[i]? =some y/\VR I v y
 |[],_,_,_,_,hi=>by simp at hi
 |u::vs,_,i,v,h,hi=>by
  simp only[VRL]at h;obtain⟨y,ys',rfl,h1,h2⟩:=h;cases i with
  |zero=>simp at hi;subst hi;exact⟨y,rfl,h1⟩
  |succ i=>simp at hi;simpa using VRL.get h2 hi
def VRL.reps{I:Phi}{z:zA}{zs:zE}(h:VRL I z zs):∀n,VRL I (Ev.reps n z) (List.replicate n zs).flatten
 |0=>by simpa [Ev.reps]using VRL.nil I
 |n+1=>by rw[List.replicate_succ,List.flatten_cons];exact VRL.append h (VRL.reps h n)
def VR.cells{x:Value}(h:VR I v x):VRL I v.cells x.cells.toList:=by
 cases v<;>simp only[VR]at h<;>
  first
   |(obtain⟨xs,rfl,h⟩:=h;simpa [Z.cells,Value.cells]using h)
   |(subst h;exact VRL.cons (by simp[VR]) (VRL.nil I))
   |skip
 case str l=>obtain⟨s,rfl,h⟩:=h;exact VRL.cons (by simp only[VR];exact⟨s,rfl,h⟩) (VRL.nil I)
 case ptr Y off=>obtain⟨B,hB,rfl⟩:=h;exact VRL.cons (by simp only[VR];exact⟨B,hB,rfl⟩) (VRL.nil I)
 case sl Y off len c=>obtain⟨B,k,hB,rfl,h⟩:=h;exact VRL.cons (by simp only[VR];exact⟨B,k,hB,rfl,h⟩) (VRL.nil I)
 case sl0=>obtain⟨a,k,rfl⟩:=h;exact VRL.cons (by simp only[VR];exact⟨a,k,rfl⟩) (VRL.nil I)
 case map Y=>obtain⟨B,hB,rfl⟩:=h;exact VRL.cons (by simp only[VR];exact⟨B,hB,rfl⟩) (VRL.nil I)
 case fn f a c=>obtain⟨xs,ys,rfl,h1,h2⟩:=h;exact VRL.cons (by simp only[VR];exact⟨xs,ys,rfl,h1,h2⟩) (VRL.nil I)
 case yld l=>obtain⟨B,hB,rfl⟩:=h;exact VRL.cons (by simp only[VR];exact⟨B,hB,rfl⟩) (VRL.nil I)
 case ifc t v=>obtain⟨y,rfl,h⟩:=h;exact VRL.cons (by simp only[VR];exact⟨y,rfl,h⟩) (VRL.nil I)
 case tup vs=>obtain⟨xs,rfl,h⟩:=h;exact VRL.cons (by simp only[VR];exact⟨xs,rfl,h⟩) (VRL.nil I)
 case lst n ex cs=>
  have hx:x.cells.toList=[x]:=by
   obtain⟨_,⟨_,_,rfl⟩|⟨b,o,k,ys,rfl,_⟩⟩:=h<;>rfl
  rw[hx];exact VRL.cons (by simp only[VR];exact h) (VRL.nil I)
 case gr Y e n cs=>
  have hx:x.cells.toList=[x]:=by
   obtain⟨_,_,_,_,B,ys,_,rfl,_⟩:=h;rfl
  rw[hx];exact VRL.cons (by simp only[VR];exact h) (VRL.nil I)
 case vp cs=>
  have hx:x.cells.toList=[x]:=by
   obtain⟨_,b,o,ys,rfl,_⟩:=h;rfl
  rw[hx];exact VRL.cons (by simp only[VR];exact h) (VRL.nil I)
mutual
theorem VR.pure{I I':Phi}(h:∀b o v,I.z b o=some v->I'.z b o=some v):∀(v:Z) (x:Value),qg v=true->VR I v x->VR I' v x
 |.bool _,_,_,hv=>by simpa [VR]using hv
 |.int _ _,_,_,hv=>by simpa [VR]using hv
 |.str _,_,_,hv=>by simpa [VR]using hv
 |.ptr _ _,_,hp,_=>by simp[qg]at hp
 |.nilp,_,_,hv=>by simpa [VR]using hv
 |.gptr _ _,_,_,hv=>by simpa [VR]using hv
 |.sl _ _ _ _,_,hp,_=>by simp[qg]at hp
 |.sl0,_,_,hv=>by simpa [VR]using hv
 |.nils,_,_,hv=>by simpa [VR]using hv
 |.map _,_,hp,_=>by simp[qg]at hp
 |.nilm,_,_,hv=>by simpa [VR]using hv
 |.fn _ a c,_,hp,hv=>by
  simp only[qg,zU]at hp;simp only[VR]at *;obtain⟨xs,ys,e,h1,h2⟩:=hv;exact⟨xs,ys,e,VRL.pure h a xs hp.1 h1,VRL.pure h c ys hp.2 h2⟩
 |.nilf,_,_,hv=>by simpa [VR]using hv
 |.yld _,_,hp,_=>by simp[qg]at hp
 |.ifc _ v,_,hp,hv=>by simp only[qg]at hp;simp only[VR]at *;obtain⟨y,e,h1⟩:=hv;exact⟨y,e,VR.pure h v y hp h1⟩
 |.nili,_,_,hv=>by simpa [VR]using hv
 |.agg cs,_,hp,hv=>by simp only[qg]at hp;simp only[VR]at *;obtain⟨xs,e,h1⟩:=hv;exact⟨xs,e,VRL.pure h cs xs hp h1⟩
 |.tup cs,_,hp,hv=>by simp only[qg]at hp;simp only[VR]at *;obtain⟨xs,e,h1⟩:=hv;exact⟨xs,e,VRL.pure h cs xs hp h1⟩
 |.lst n ex cs,_,_,hv=>by
  simp only[VR]at *;obtain⟨hp,h1|⟨b,o,k,ys,e1,e2,e3,e4,e5⟩⟩:=hv
  .exact⟨hp,.inl h1⟩
  .exact⟨hp,.inr ⟨b,o,k,ys,e1,e2,e3,e4.mono h,VRL.pure h cs ys hp e5⟩⟩
 |.gr _ _ _ _,_,hp,_=>by simp[qg]at hp
 |.vp cs,_,_,hv=>by
  simp only[VR]at *;obtain⟨hp,b,o,ys,e1,e2,e3⟩:=hv;exact⟨hp,b,o,ys,e1,e2.mono h,VRL.pure h cs ys hp e3⟩
theorem VRL.pure{I I':Phi}(h:∀b o v,I.z b o=some v->I'.z b o=some v):∀(l:zA) (ys:zE),wL l=true->VRL I l ys->VRL I' l ys
 |[],_,_,hv=>by simpa [VRL]using hv
 |v::vs,_,hp,hv=>by
  simp only[wL,zU]at hp;simp only[VRL]at *;obtain⟨y,ys',e,h1,h2⟩:=hv;exact⟨y,ys',e,VR.pure h v y hp.1 h1,VRL.pure h vs ys' hp.2 h2⟩
end
def ux:∀{a b:zA},wL (a++b)=(wL a&&wL b)
 |[],b=>by simp[wL]
 |v::a,b=>by simp only[List.cons_append,wL,ux,Bool.and_assoc]
def Xl:∀{a:zA} (n:Nat),wL a=true->wL (a.take n)=true
 |_,0,_=>by simp[wL]
 |[],n+1,_=>by simp[wL]
 |v::a,n+1,h=>by
  simp only[wL,zU]at h;simp only[List.take_succ_cons,wL,h.1,Xl n h.2,Bool.and_self]
def Zs:∀{a:zA} (n:Nat),wL a=true->wL (a.drop n)=true
 |_,0,h=>by simpa using h
 |[],n+1,_=>by simp[wL]
 |v::a,n+1,h=>by
  simp only[wL,zU]at h
  simpa using Zs n h.2
def VR.gr_lst{Y e:Nat}{x:Value}(h:VR I (.gr Y e n cs) x):VR I (.lst n false cs) x:=by
 simp only[VR]at h|-;obtain⟨hp,_,_,_,B,ys,_,rfl,hk,hz,hy⟩:=h;exact⟨hp,.inr ⟨B.b,B.o,_,ys,rfl,(by simp),hk,hz,hy⟩⟩
def VR.vp_drop{o:Nat}(hp:wL cs=true)(hz:ZC I b o ys)(hy:VRL I cs ys)(n:Nat):VR I (.vp (qv n cs)) (.pointer (some ⟨b,o+n,none⟩)):=by
 rw[qH];simp only[VR];exact⟨Zs n hp,b,o+n,ys.drop n,rfl,hz.drop n,hy.drop n⟩
def TmRel(I:Phi)(A:zB)(tmps:zr):Prop:=∀i v,A.get i=some v->VR I v (tmps.getD i undef)
def EntRel(I:Phi):zh->zF->Prop
 |[],es=>es=[]
 |p::r,es=>∃e es',es=e::es'/\VR I p.1 e.key/\VR I p.2.1 e.val/\e.born=p.2.2/\EntRel I r es'
def URel(I:Phi):zp->zF->Prop
 |[],es=>es=[]
 |p::r,es=>∃e es',es=e::es'/\e.key=.int .i64 p.1/\VR I p.2 e.val/\URel I r es'
def UMap(I:Phi)(es:zp)(ents:Array MapEntry)(clk:Nat):Prop:=
 ∃l,l.Perm ents.toList/\URel I es l/\(es.map (·.1)).Nodup/\(l.map (·.born)).Nodup/\∀e∈l,e.born<clk
def LSt.conc:LSt->LoopState
 |.ready=>.ready
 |.busy=>.busy
 |.done=>.done
 |.exhausted=>.exhausted
def Res.code:Res->Code
 |.norm=>.skip
 |.exit Y=>.exit Y
 |.ret=>.ret
structure LRel(P:Program)(I:Phi)(st:LSt)(pend:Option Res)(A:zB)(ps:zy)(asg body:ICode)(d:Nat)(L:Loop):Prop where
 state:L.state=st.conc
 pend:L.pending=pend.map Res.code
 params:L.params=ps.toArray
 asg:cC P L.tmps.size L.assign=some asg
 body:cC P L.tmps.size L.body=some body
 A:TmRel I A L.tmps
 df:∃B,I d=some B/\L.defers=B.b
 ps:∀p∈ps,p<L.tmps.size
def ObjRel(P:Program)(I:Phi)(w:World)(o:AObj)(B:Blk):Prop:=
 match o with
 | .row e cells ext fz=>∃c fr,w.heap[B.b]? =some (.cells c e fr)/\c.size=B.o+B.tot/\zR cells<=B.tot/\(ext=false->zR cells=B.tot/\B.o=0)/\
   VRL I cells ((c.toList.drop B.o).take (zR cells))/\fr.1<=fr.2/\(fz=false->∀i,i<c.size->¬(fr.1<=i/\i<fr.2))
 |.map es clock=>∃ents,w.heap[B.b]? =some (.map ents clock)/\EntRel I es ents.toList
 |.umap es=>∃ents clk,w.heap[B.b]? =some (.map ents clk)/\UMap I es ents clk
 |.siter s pos=>B.o=0/\∃bs,w.heap[B.b]? =some (.stringIter bs pos)/\jk bs=s
 | .miter m since seen stepped=>B.o=0/\∃m',w.heap[B.b]? =some (.mapIter m' since seen.toArray stepped)/\(match m with
   |none=>m'=none
   |some Y=>∃B',I Y=some B'/\m'=some B'.b)
 |.loop st pend A ps asg body d=>∃L,w.heap[B.b]? =some (.loop L)/\LRel P I st pend A ps asg body d L
 |.dfd=>w.heap[B.b]? =some (.deferred (some []))
 |.dfd0=>w.heap[B.b]? =some (.deferred none)
 |.giv cells=>∃c e fr,w.heap[B.b]? =some (.cells c e fr)/\B.o+zR cells<=c.size/\VRL I cells ((c.toList.drop B.o).take (zR cells))
 |.app e cells=>∃c fr,w.heap[B.b]? =some (.cells c e fr)/\c.size=B.o+B.tot/\zR cells<=B.tot/\VRL I cells ((c.toList.drop B.o).take (zR cells))/\fr.1<=fr.2/\fr.2<=B.o+zR cells
def SepOf(o:AObj)(B:Blk)(z:Nat->Nat->Option Value):Prop:=
 match o with
 |.giv _=>True
 |.app _ cells=>∀i,B.o+zR cells<=i->z B.b i=none
 |_=>∀i,z B.b i=none
def SepOf.all{z:Nat->Nat->Option Value}(h:SepOf o B z)(hng:uE o=false)(hna:PB o=false):∀i,z B.b i=none:=by
 cases o<;>simp only[SepOf]at h<;>first|exact h|(cases hng;done)|(cases hna;done)
def SepOf.of_all{z:Nat->Nat->Option Value}(h:∀i,z B.b i=none):SepOf o B z:=by
 cases o<;>simp only[SepOf]<;>first|exact h|exact λi _=>h i
def SepOf.congr{z z':Nat->Nat->Option Value}(h:SepOf o B z)(hz:∀i,z' B.b i=z B.b i):SepOf o B z':=by
 cases o<;>simp only[SepOf]at h|-<;>intros<;>rw[hz]<;>first|exact h _|exact h _ ‹_›
def TmRel.mono(h:Sub I I'){A:zB}{tmps:zr}(t:TmRel I A tmps):TmRel I' A tmps:=
 λi v hi=>VR.mono h v _ (t i v hi)
def EntRel.mono{I I':Phi}(h:Sub I I'):∀{l:zh} {es:zF},EntRel I l es->EntRel I' l es
 |[],_,t=>t
 |p::r,_,t=>by
  obtain⟨e,es',rfl,h1,h2,h3,h4⟩:=t;exact⟨e,es',rfl,VR.mono h _ _ h1,VR.mono h _ _ h2,h3,EntRel.mono h h4⟩
def URel.mono{I I':Phi}(h:Sub I I'):∀{l:zp} {es:zF},URel I l es->URel I' l es
 |[],_,t=>t
 |p::r,_,t=>by
  obtain⟨e,es',rfl,h1,h2,h3⟩:=t;exact⟨e,es',rfl,h1,VR.mono h _ _ h2,URel.mono h h3⟩
def UMap.mono(h:Sub I I'){es:zp}{ents:Array MapEntry}{clk:Nat}(t:UMap I es ents clk):UMap I' es ents clk:=
 let ⟨l,h1,h2,h3⟩:=t;⟨l,h1,h2.mono h,h3⟩
def LRel.mono{P:Program}(h:Sub I I'){st:LSt}{pend:Option Res}{A:zB}{ps:zy}{asg body:ICode}{d:Nat}{L:Loop}(t:LRel P I st pend A ps asg body d L):LRel P I' st pend A ps asg body d L:=
 {t with A:=t.A.mono h,df:=let ⟨B,hB,e⟩:=t.df;⟨B,h _ _ hB,e⟩}
def ObjRel.keep{P:Program}(h:Sub I I')(hw:w'.heap[B.b]? =w.heap[B.b]?)(t:ObjRel P I w o B):ObjRel P I' w' o B:=by
 cases o<;>simp only[ObjRel]at t|-
 case row e cells ext fz=>obtain⟨c,fr,h1,h2,h3,h4,h5,h6⟩:=t;exact⟨c,fr,hw.trans h1,h2,h3,h4,VRL.mono h _ _ h5,h6⟩
 case map es clock=>obtain⟨ents,h1,h2⟩:=t;exact⟨ents,hw.trans h1,h2.mono h⟩
 case umap es=>obtain⟨ents,clk,h1,h2⟩:=t;exact⟨ents,clk,hw.trans h1,h2.mono h⟩
 case siter s pos=>obtain⟨h0,bs,h1,h2⟩:=t;exact⟨h0,bs,hw.trans h1,h2⟩
 case miter m since seen stepped=>
  obtain⟨h0,m',h1,h2⟩:=t;refine⟨h0,m',hw.trans h1,?_⟩;cases m with
  |none=>exact h2
  |some Y=>obtain⟨B',hB,e⟩:=h2;exact⟨B',h _ _ hB,e⟩
 case loop st pend A ps asg body d=>obtain⟨L,h1,h2⟩:=t;exact⟨L,hw.trans h1,h2.mono h⟩
 case dfd=>exact hw.trans t
 case dfd0=>exact hw.trans t
 case giv cells=>obtain⟨c,e,fr,h1,h2,h3⟩:=t;exact⟨c,e,fr,hw.trans h1,h2,VRL.mono h _ _ h3⟩
 case app e cells=>obtain⟨c,fr,h1,h2,h3,h4,h5⟩:=t;exact⟨c,fr,hw.trans h1,h2,h3,VRL.mono h _ _ h4,h5⟩
structure Rel(P:Program)(X:World)(I:Phi)(G:Nat->zm)(w:World):Prop where
 base:Below X.heap.size X w
 obj:∀Y o,G Y=some o->∃B,I Y=some B/\ObjRel P I w o B
 rng:∀Y B,I Y=some B->B.b<w.heap.size
 old:∀Y o B,G Y=some o->I Y=some B->B.b<X.heap.size->uE o=true
 inj:∀Y id' o o' B B',G Y=some o->G id'=some o'->I Y=some B->I id'=some B'->B.b=B'.b->Y=id'\/B.b<X.heap.size
 frz:∀b o v,I.z b o=some v->∃c e fr,w.heap[b]? =some (.cells c e fr)/\c[o]? =some v
 sep:∀Y o B,G Y=some o->I Y=some B->SepOf o B I.z
def Rel.new{P:Program}{G:Nat->zm}(r:Rel P X I G w){Y:Nat}(hg:G Y=some o)(hB:I Y=some B)(hng:uE o=false):X.heap.size<=B.b:=by
 apply Nat.le_of_not_lt;intro h;rw[r.old Y o B hg hB h]at hng;cases hng
def Rel.sub{P:Program}{G G':Nat->zm}(h:∀Y o,G' Y=some o->G Y=some o)(r:Rel P X I G w):Rel P X I G' w:=
 ⟨r.base,λY o ho=>r.obj Y o (h Y o ho),r.rng,λY o B ho=>r.old Y o B (h Y o ho),λY id' o o' B B' h1 h2=>r.inj Y id' o o' B B' (h _ _ h1) (h _ _ h2),r.frz,λY o B ho=>r.sep Y o B (h Y o ho)⟩
def Rel.zlt{P:Program}{G:Nat->zm}(r:Rel P X I G w){o:Nat}{v:Value}(h:I.z b o=some v):b<w.heap.size:=by
 obtain⟨c,e,fr,h1,_⟩:=r.frz b o v h;apply Nat.lt_of_not_le;intro hle;rw[Array.getElem?_eq_none hle]at h1;cases h1
def Rel.congr{P:Program}{G:Nat->zm}(hh:w'.heap=w.heap)(ho:w'.os=w.os)(ht:w'.tape=w.tape)(hu:w'.output=w.output)(r:Rel P X I G w):Rel P X I G w':=
 ⟨⟨ho.trans r.base.os,ht.trans r.base.tape,hu.trans r.base.output,by rw[hh];exact r.base.size,λk hk=>by rw[hh];exact r.base.block k hk⟩,
  λY o h=>let ⟨B,hB,t⟩:=r.obj Y o h;⟨B,hB,ObjRel.keep (Sub.refl _) (by rw[hh]) t⟩,by rw[hh];exact r.rng,r.old,r.inj,by rw[hh];exact r.frz,r.sep⟩
structure Wf(s:U):Prop where
 lt:∀Y o,s.objs.get Y=some o->Y<s.next
 hd:∀p∈s.hide,p.2<=s.next
def qr{Y:Nat}(h:s.get Y=some o):s.objs.get Y=some o:=by
 unfold U.get at h;cases ho:s.only with
 |none=>
  rw[ho]at h;simp only at h;cases hh:hid s.hide Y<;>rw[hh]at h<;>simp at h
  exact h
 | some p=>
  rw[ho]at h;simp only at h;cases hh:hid s.hide Y<;>rw[hh]at h<;>simp at h
  cases hb:zM p.1 Y<;>rw[hb]at h<;>simp at h
  .cases hm:Xi Y p.2<;>rw[hm]at h<;>simp at h
   exact h
  .exact h
def seen(s:U)(Y:Nat):Bool:=
 match s.only with
 |none=> !hid s.hide Y
 |some p=> !hid s.hide Y&&(zM p.1 Y||Xi Y p.2)
theorem gh(s:U)(Y:Nat):s.get Y=if seen s Y then s.objs.get Y else none:=by
 unfold U.get seen;cases s.only with
 |none=>cases hid s.hide Y<;>simp
 |some p=>
  show (bif hid s.hide Y then none else bif zM p.1 Y then s.objs.get Y else bif Xi Y p.2 then s.objs.get Y else none)=if (!hid s.hide Y&&(zM p.1 Y||Xi Y p.2))=true then s.objs.get Y else none
  generalize zM p.1 Y=b1;generalize Xi Y p.2=b2;cases hid s.hide Y<;>cases b1<;>cases b2<;>rfl
def vX{Y:Nat}(h:s.get Y=some o):seen s Y=true:=by
 rw[gh]at h;cases hs:seen s Y with
 |true=>rfl
 |false=>rw[hs]at h;simp at h
def je(h1:s'.hide=s.hide)(h2:s'.only=s.only)(Y:Nat):seen s' Y=seen s Y:=by unfold seen;rw[h1,h2]
structure Ext(s s':U):Prop where
 next:s.next<=s'.next
 wm:∀i,s.wm.testBit i=true->s'.wm.testBit i=true
 hide:s'.hide=s.hide
 only:s'.only=s.only
 keep:∀Y,Y<s.next->s'.wm.testBit Y=false->s'.objs.get Y=s.objs.get Y
 vis:∀Y o,Y<s.next->s'.objs.get Y=some o->∃o',s.objs.get Y=some o'
 wf:Wf s->Wf s'
 wv:∀Y,Y<s.next->s'.wm.testBit Y=true->s.wm.testBit Y=true\/seen s Y=true
 giv:∀Y o,Y<s.next->s.objs.get Y=some o->uE o=true->s'.wm.testBit Y=true->s.wm.testBit Y=true
def Ext.refl(s:U):Ext s s:=⟨zX _,λ_ h=>h,rfl,rfl,λ_ _ _=>rfl,λ_ o _ h=>⟨o,h⟩,λh=>h,λ_ _ h=>.inl h,λ_ _ _ _ _ h=>h⟩
def Ext.trans{s'':U}(h:Ext s s')(h':Ext s' s''):Ext s s'':=
 ⟨yb h.next h'.next,λi hi=>h'.wm i (h.wm i hi),h'.hide.trans h.hide,h'.only.trans h.only,
  λY hid hw=>by
  have hw':s'.wm.testBit Y=false:=by
   cases hb:s'.wm.testBit Y with
   |false=>rfl
   |true=>rw[h'.wm Y hb]at hw;exact hw
  exact(h'.keep Y (zT hid h.next) hw).trans (h.keep Y hid hw'),
  λY o hid ho=>let ⟨o',ho'⟩:=h'.vis Y o (zT hid h.next) ho;h.vis Y o' hid ho',λhw=>h'.wf (h.wf hw),
  λY hid hw=>by
  rcases h'.wv Y (zT hid h.next) hw with h1|h1
  .exact h.wv Y hid h1
  .rw[je h.hide h.only]at h1;exact .inr h1,
  λY o hid ho hgo hb=>by
  cases hw:s'.wm.testBit Y with
  |true=>exact h.giv Y o hid ho hgo hw
  |false=>
   have:=h'.giv Y o (zT hid h.next) ((h.keep Y hid hw).trans ho) hgo hb
   rw[hw]at this;cases this⟩
def Ext.get_vis(h:Ext s s'){Y:Nat}(hid:Y<s.next)(hg:s'.get Y=some o):∃o',s.get Y=some o':=by
 obtain⟨o',ho'⟩:=h.vis Y o hid (qr hg);refine⟨o',?_⟩;rw[gh,<-je h.hide h.only,vX hg];exact ho'
structure Step(P:Program)(X:World)(I:Phi)(s:U)(w:World)(I':Phi)(s':U)(w':World):Prop where
 ext:Ext s s'
 rel:Rel P X I' s'.get w'
 same:∀Y,(Y<s.next\/s'.next<=Y)->I' Y=I Y
 size:w.heap.size<=w'.heap.size
 frame:∀b,b<w.heap.size->(∀Y o B,s.get Y=some o->I Y=some B->B.b=b->s'.wm.testBit Y=false)->w'.heap[b]? =w.heap[b]?
 own:∀Y B,s.next<=Y->Y<s'.next->I' Y=some B->w.heap.size<=B.b\/∃id0 o0 B0,s.get id0=some o0/\I id0=some B0/\B0.b=B.b/\s'.wm.testBit id0=true
 zsub:∀b o v,I.z b o=some v->I'.z b o=some v
 zown:∀b o v,I'.z b o=some v->I.z b o=some v\/w.heap.size<=b\/∃id0 o0 B0,s.get id0=some o0/\I id0=some B0/\B0.b=b/\s'.wm.testBit id0=true
def Step.refl{P:Program}(r:Rel P X I s.get w):Step P X I s w I s w:=
 ⟨Ext.refl s,r,λ_ _=>rfl,zX _,λ_ _ _=>rfl,λY _ h1 h2=>absurd h2 J,λ_ _ _ h=>h,λ_ _ _ h=>.inl h⟩
def Step.sub{P:Program}(h:Step P X I s w I' s' w')
  (hf:∀Y,s.next<=Y->I Y=none):Sub I I':=⟨λY B hB=>by
 by_cases h1:Y<s.next
 .rw[h.same Y (.inl h1)];exact hB
 .by_cases h2:Y<s'.next
  .rw[hf Y J]at hB;cases hB
  .rw[h.same Y (.inr J)];exact hB,h.zsub⟩
def Rs(h:Ext s s'){Y:Nat}(hw:s'.wm.testBit Y=false):s.wm.testBit Y=false:=by
 cases hb:s.wm.testBit Y with
 |false=>rfl
 |true=>rw[h.wm Y hb]at hw;exact hw
def Step.trans{P:Program}{φ1 φ2:Phi}{s1 s2:U}{w1 w2:World}(hwf:Wf s)(h:Step P X I s w φ1 s1 w1)(h':Step P X φ1 s1 w1 φ2 s2 w2):
  Step P X I s w φ2 s2 w2 where
 ext:=h.ext.trans h'.ext
 rel:=h'.rel
 same:=λY hid=>by
  have:=h.ext.next;have:=h'.ext.next
  rcases hid with hid|hid
  .exact(h'.same Y (.inl J)).trans (h.same Y (.inl hid))
  .exact(h'.same Y (.inr hid)).trans (h.same Y (.inr J))
 size:=yb h.size h'.size
 frame:=λb hb H=>by
  have e1:=h.frame b hb λY o B ho hB e=>Rs h'.ext (H Y o B ho hB e);refine(h'.frame b (zT hb h.size) λY o B ho hB e=>?_).trans e1;have hlt:Y<s1.next:=(h.ext.wf hwf).lt Y o (qr ho)
  by_cases h1:Y<s.next
  .obtain⟨o',ho'⟩:=h.ext.get_vis h1 ho;exact H Y o' B ho' ((h.same Y (.inl h1))▸hB) e
  .rcases h.own Y B J hlt hB with hsz|⟨id0,o0,B0,g0,p0,e0,m0⟩
   .omega
   .have:=H id0 o0 B0 g0 p0 (e0.trans e);rw[h'.ext.wm id0 m0]at this;cases this
 own :=λY B h1 h2 hB=>by
  by_cases hlt:Y<s1.next
  .rw[h'.same Y (.inl hlt)]at hB;rcases h.own Y B h1 hlt hB with hsz|⟨id0,o0,B0,g0,p0,e0,m0⟩
   .exact .inl hsz
   .exact .inr ⟨id0,o0,B0,g0,p0,e0,h'.ext.wm id0 m0⟩
  .rcases h'.own Y B J h2 hB with hsz|⟨id0,o0,B0,g0,p0,e0,m0⟩
   .exact .inl (yb h.size hsz)
   .have hlt0:id0<s1.next:=(h.ext.wf hwf).lt id0 o0 (qr g0)
    by_cases h3:id0<s.next
    .obtain⟨o',ho'⟩:=h.ext.get_vis h3 g0;exact .inr ⟨id0,o',B0,ho',(h.same id0 (.inl h3))▸p0,e0,m0⟩
    .rcases h.own id0 B0 J hlt0 p0 with hsz|⟨id1,o1,B1,g1,p1,e1,m1⟩
     .exact .inl J
     .exact .inr ⟨id1,o1,B1,g1,p1,e1.trans e0,h'.ext.wm id1 m1⟩
 zsub:=λb o v hz=>h'.zsub b o v (h.zsub b o v hz)
 zown:=λb o v hz=>by
  rcases h'.zown b o v hz with hz1|hsz|⟨id0,o0,B0,g0,p0,e0,m0⟩
  .rcases h.zown b o v hz1 with hz2|hsz|⟨id0,o0,B0,g0,p0,e0,m0⟩
   .exact .inl hz2
   .exact .inr (.inl hsz)
   .exact .inr (.inr ⟨id0,o0,B0,g0,p0,e0,h'.ext.wm id0 m0⟩)
  .exact .inr (.inl (yb h.size hsz))
  .have hlt0:id0<s1.next:=(h.ext.wf hwf).lt id0 o0 (qr g0)
   by_cases h3:id0<s.next
   .obtain⟨o',ho'⟩:=h.ext.get_vis h3 g0;exact .inr (.inr ⟨id0,o',B0,ho',(h.same id0 (.inl h3))▸p0,e0,m0⟩)
   .rcases h.own id0 B0 J hlt0 p0 with hsz|⟨id1,o1,B1,g1,p1,e1,m1⟩
    .exact .inr (.inl J)
    .exact .inr (.inr ⟨id1,o1,B1,g1,p1,e1.trans e0,h'.ext.wm id1 m1⟩)
def vf(m Y i:Nat):(gj m Y).testBit i=(m.testBit i||decide (i=Y)):=by
 show (m|||1<<<Y).testBit i=_
 rw[Nat.testBit_or,Nat.testBit_shiftLeft];by_cases h:i=Y
 .subst h;simp
 .by_cases h2:i>=Y
  .simp only[h2,decide_true,Bool.true_and,h,decide_false,Bool.or_false];have:(1:Nat).testBit (i-Y)=false:=by
    obtain⟨k,hk⟩:∃k,i-Y=k+1:=⟨i-Y-1,J⟩;rw[hk,Nat.testBit_succ];simp
   rw[this];simp
  .simp[h2,h]
def Phi.set(I:Phi)(Y:Nat)(B:Blk):Phi:=⟨λi=>if i=Y then some B else I i,I.z⟩
def Phi.set_sub{Y:Nat}(h:I Y=none):Sub I (I.set Y B):=⟨λi B' hB=>by
 show (if i=Y then some B else I i)=some B';by_cases e:i=Y
 .subst e;rw[h]at hB;cases hB
 .rw[wx e];exact hB,λ_ _ _ h=>h⟩
def Phi.cut(I:Phi)(n:Nat):Phi:=⟨λi=>if i<n then I i else none,I.z⟩
def Phi.cut_lt(I:Phi)(h:i<n):I.cut n i=I i:=wH h
def Phi.cut_ge(I:Phi)(h:n<=i):I.cut n i=none:=wx J
def Phi.cut_some(h:I.cut n i=some B):i<n/\I i=some B:=by
 have h':(if i<n then I i else none)=some B:=h;by_cases e:i<n
 .rw[wH e]at h';exact⟨e,h'⟩
 .rw[wx e]at h';cases h'
def Phi.cut_sub(I:Phi)(n:Nat):Sub (I.cut n) I:=⟨λ_ _ h=>(Phi.cut_some h).2,λ_ _ _ h=>h⟩
def Sub.cut(h:Sub I I'){m:Nat}(hn:n<=m):Sub (I.cut n) (I'.cut m):=
 ⟨λi B hB=>by obtain⟨h1,h2⟩:=Phi.cut_some hB;rw[Phi.cut_lt _ J];exact h.of _ _ h2,h.z⟩
def Sub.to_cut(h:Sub I I')(ht:∀i,n<=i->I i=none):Sub I (I'.cut n):=
 ⟨λi B hB=>by
  have hlt:i<n:=by apply Nat.lt_of_not_le;intro hle;rw[ht i hle]at hB;cases hB
  rw[Phi.cut_lt _ hlt];exact h.of _ _ hB,h.z⟩
def Phi.merge(I:Phi)(a b:Nat)(ψ:Phi):Phi:=⟨λY=>if a<=Y/\Y<b then ψ Y else I Y,ψ.z⟩
def Phi.merge_in(I:Phi){a Y:Nat}(ψ:Phi)(h:a<=Y/\Y<b):I.merge a b ψ Y=ψ Y:=wH h
def Phi.merge_out(I:Phi){a Y:Nat}(ψ:Phi)(h:Y<a\/b<=Y):I.merge a b ψ Y=I Y:=wx J
def Phi.zset(I:Phi)(z:Nat->Nat->Option Value):Phi:=⟨I.m,z⟩
def pT(s:U)(o:AObj):Ext s (s.alloc o) where
 next:=Nat.le_succ _
 wm:=λ_ h=>h
 hide:=rfl
 only:=rfl
 keep:=λY h _=>Trie.get_set_ne _ _ J
 vis:=λY o' h h'=>⟨o',by rw[show (s.alloc o).objs=s.objs.set s.next o from rfl,Trie.get_set_ne _ _ J]at h';exact h'⟩
 wf:=λh=>⟨λY o' h'=>by
  rw[show (s.alloc o).objs=s.objs.set s.next o from rfl,Trie.get_set]at h'
  show Y<Nat.succ s.next
  by_cases e:Y=s.next
  .omega
  .rw[wx e]at h';have:=h.lt Y o' h';omega,λp hp=>Nat.le_succ_of_le (h.hd p hp)⟩
 wv:=λ_ _ h=>.inl h
 giv:=λ_ _ _ _ _ h=>h
def td(s:U)(Y:Nat)(o o':AObj)(hg:s.objs.get Y=some o)(hs:seen s Y=true)(hng:uE o=false):Ext s (s.put Y o') where
 giv:=λi x _ hx hgx hw=>by
  have:(gj s.wm Y).testBit i=true:=hw;rw[vf,zV,hZ]at this;rcases this with h1|h1
  .exact h1
  .subst h1;rw[hg]at hx;cases hx;rw[hng]at hgx;cases hgx
 next:=zX _
 wm:=λi h=>by show (gj s.wm Y).testBit i=true;rw[vf,h];rfl
 hide:=rfl
 only:=rfl
 keep:=λi _ hw=>by
  have:(gj s.wm Y).testBit i=false:=hw;rw[vf]at this;exact Trie.get_set_ne _ _ (by intro e;simp[e]at this)
 vis:=λi x _ hx=>by
  by_cases e:i=Y
  .exact⟨o,e▸hg⟩
  .exact⟨x,by rw[show (s.put Y o').objs=s.objs.set Y o' from rfl,Trie.get_set_ne _ _ e]at hx;exact hx⟩
 wf:=λh=>⟨λi x hx=>by
  by_cases e:i=Y
  .exact e▸h.lt Y o hg
  .rw[show (s.put Y o').objs=s.objs.set Y o' from rfl,Trie.get_set_ne _ _ e]at hx;exact h.lt i x hx,h.hd⟩
 wv:=λi _ hw=>by
  have:(gj s.wm Y).testBit i=true:=hw;rw[vf,zV,hZ]at this;rcases this with h1|h1
  .exact .inl h1
  .rw[h1];exact .inr hs
def bE(s:U)(Y:Nat)(hg:s.objs.get Y=some o)(hs:seen s Y=true)(hng:uE o=false):Ext s (s.del Y) where
 giv:=λi x _ hx hgx hw=>by
  have:(gj s.wm Y).testBit i=true:=hw;rw[vf,zV,hZ]at this;rcases this with h1|h1
  .exact h1
  .subst h1;rw[hg]at hx;cases hx;rw[hng]at hgx;cases hgx
 next:=zX _
 wm:=λi h=>by show (gj s.wm Y).testBit i=true;rw[vf,h];rfl
 hide:=rfl
 only:=rfl
 keep:=λi _ hw=>by
  have:(gj s.wm Y).testBit i=false:=hw;rw[vf]at this;rw[show (s.del Y).objs=s.objs.del Y from rfl,Trie.get_del,wx (by intro e;simp[e]at this)]
 vis:=λi x _ hx=>by
  rw[show (s.del Y).objs=s.objs.del Y from rfl,Trie.get_del]at hx;by_cases e:i=Y
  .rw[wH e]at hx;cases hx
  .rw[wx e]at hx;exact⟨x,hx⟩
 wf:=λh=>⟨λi x hx=>by
  rw[show (s.del Y).objs=s.objs.del Y from rfl,Trie.get_del]at hx;by_cases e:i=Y
  .rw[wH e]at hx;cases hx
  .rw[wx e]at hx;exact h.lt i x hx,h.hd⟩
 wv:=λi _ hw=>by
  have:(gj s.wm Y).testBit i=true:=hw;rw[vf,zV,hZ]at this;rcases this with h1|h1
  .exact .inl h1
  .rw[h1];exact .inr hs
def Step.allocZ{P:Program}(r:Rel P X I s.get w)(_hwf:Wf s)(hf:I s.next=none){x:Obj}{tot:Nat}{z:Nat->Nat->Option Value}
  (hh:w'.heap=w.heap.push x) (hos:w'.os=w.os) (ht:w'.tape=w.tape) (hu:w'.output=w.output)
  (hz1:∀b,b≠w.heap.size->∀i,z b i=I.z b i) (hz2:∀i v,z w.heap.size i=some v->∃c e fr,x=.cells c e fr/\c[i]? =some v) (hsep:SepOf o ⟨w.heap.size,0,tot⟩ z)
  (ho:ObjRel P ((I.set s.next ⟨w.heap.size,0,tot⟩).zset z) w' o ⟨w.heap.size,0,tot⟩):
  Step P X I s w ((I.set s.next ⟨w.heap.size,0,tot⟩).zset z) (s.alloc o) w':=by
 have hzs:∀b i v,I.z b i=some v->z b i=some v:=λb i v h=>by
  have:=r.zlt h;rw[hz1 b J];exact h
 have hsub:Sub I ((I.set s.next ⟨w.heap.size,0,tot⟩).zset z):=⟨(Phi.set_sub (B:=⟨w.heap.size,0,tot⟩) hf).of,hzs⟩
 have hold:∀b,b<w.heap.size->w'.heap[b]? =w.heap[b]? :=λb hb=>by rw[hh,Array.getElem?_push_lt hb,Array.getElem?_eq_getElem hb]
 have hsz:w'.heap.size=w.heap.size+1:=by rw[hh,Array.size_push]
 have hget:∀Y o',(s.alloc o).get Y=some o'->(Y=s.next/\o'=o)\/(Y≠s.next/\s.get Y=some o'):=λY o' hg=>by
  have h1:=qr hg;rw[show (s.alloc o).objs=s.objs.set s.next o from rfl,Trie.get_set]at h1
  by_cases e:Y=s.next
  .rw[wH e]at h1;exact .inl ⟨e,by cases h1;rfl⟩
  .rw[wx e]at h1;refine .inr ⟨e,?_⟩;have:=vX hg;rw[je (s:=s) (s':=s.alloc o) rfl rfl]at this;rw[gh,this];exact h1
 refine⟨pT s o,⟨?_,?_,?_,?_,?_,?_,?_⟩,?_,J,?_,?_,hzs,?_⟩
 .exact⟨hos.trans r.base.os,ht.trans r.base.tape,hu.trans r.base.output,by have:=r.base.size;omega,λk hk=>(hold k (by have:=r.base.size;omega)).trans (r.base.block k hk)⟩
 .intro Y o' hg;rcases hget Y o' hg with ⟨rfl,rfl⟩|⟨e,hg'⟩
  .exact⟨_,wH rfl,ho⟩
  .obtain⟨B,hB,t⟩:=r.obj Y o' hg';exact⟨B,hsub _ _ hB,t.keep hsub (hold _ (r.rng _ _ hB))⟩
 .intro Y B hB;have hB':(if Y=s.next then some ⟨w.heap.size,0,tot⟩else I Y)=some B:=hB
  by_cases e:Y=s.next
  .rw[wH e]at hB';cases hB';simp only;omega
  .rw[wx e]at hB';have:=r.rng Y B hB';omega
 .intro Y o' B hg hB hlt;rcases hget Y o' hg with ⟨rfl,rfl⟩|⟨e,hg'⟩
  .rw[show ((I.set s.next _).zset z) s.next=some ⟨w.heap.size,0,tot⟩from wH rfl]at hB;cases hB
   have:=r.base.size;simp at hlt;omega
  .rw[show ((I.set s.next _).zset z) Y=I Y from wx e]at hB
   exact r.old Y o' B hg' hB hlt
 .intro Y id' o1 o2 B B' h1 h2 hB hB' e;rcases hget Y o1 h1 with ⟨rfl,rfl⟩|⟨n1,g1⟩<;>rcases hget id' o2 h2 with ⟨rfl,rfl⟩|⟨n2,g2⟩
  .exact .inl rfl
  .rw[show ((I.set s.next _).zset z) s.next=some ⟨w.heap.size,0,tot⟩from wH rfl]at hB;cases hB
   rw[show ((I.set s.next _).zset z) id'=I id' from wx n2]at hB'
   have:=(r.rng id' B' hB');simp at e;omega
  .rw[show ((I.set s.next _).zset z) s.next=some ⟨w.heap.size,0,tot⟩from wH rfl]at hB';cases hB'
   rw[show ((I.set s.next _).zset z) Y=I Y from wx n1]at hB
   have:=(r.rng Y B hB);simp at e;omega
  .rw[show ((I.set s.next _).zset z) id'=I id' from wx n2]at hB'
   rw[show ((I.set s.next _).zset z) Y=I Y from wx n1]at hB
   exact r.inj Y id' o1 o2 B B' g1 g2 hB hB' e
 .intro b i v hv;have hv':z b i=some v:=hv;by_cases e:b=w.heap.size
  .subst e;obtain⟨c,e,fr,rfl,hc⟩:=hz2 i v hv';exact⟨c,e,fr,by rw[hh];simp,hc⟩
  .rw[hz1 b e]at hv';obtain⟨c,e1,fr,h1,h2⟩:=r.frz b i v hv';exact⟨c,e1,fr,(hold b (r.zlt hv')).trans h1,h2⟩
 .intro Y o' B hg hB;rcases hget Y o' hg with ⟨rfl,rfl⟩|⟨e,hg'⟩
  .rw[show ((I.set s.next _).zset z) s.next=some ⟨w.heap.size,0,tot⟩from wH rfl]at hB;cases hB
   exact hsep
  .rw[show ((I.set s.next _).zset z) Y=I Y from wx e]at hB
   have:=r.rng Y B hB;exact(r.sep Y o' B hg' hB).congr (λi=>hz1 B.b J i)
 .intro Y hid;have hid':Y<s.next\/s.next+1<=Y:=hid
  exact wx J
 .intro b hb _;exact hold b hb
 .intro Y B h1 h2 hB;have h2':Y<s.next+1:=h2
  have e:Y=s.next:=J
  subst e;rw[show ((I.set s.next _).zset z) s.next=some ⟨w.heap.size,0,tot⟩from wH rfl]at hB;cases hB
  exact .inl (zX _)
 .intro b i v hv;have hv':z b i=some v:=hv;by_cases e:b=w.heap.size
  .exact .inr (.inl J)
  .rw[hz1 b e]at hv';exact .inl hv'
def Step.alloc{P:Program}(r:Rel P X I s.get w)(hwf:Wf s)(hf:I s.next=none){x:Obj}{tot:Nat}
  (hh:w'.heap=w.heap.push x) (hos:w'.os=w.os) (ht:w'.tape=w.tape) (hu:w'.output=w.output)
  (ho:ObjRel P (I.set s.next ⟨w.heap.size,0,tot⟩) w' o ⟨w.heap.size,0,tot⟩):
  Step P X I s w (I.set s.next ⟨w.heap.size,0,tot⟩) (s.alloc o) w':=by
 have hz:∀i,I.z w.heap.size i=none:=λi=>by
  cases h:I.z w.heap.size i with
  |none=>rfl
  |some v=>have:=r.zlt h;omega
 exact Step.allocZ (z:=I.z) r hwf hf hh hos ht hu (λ_ _ _=>rfl) (λi v h=>by rw[hz i]at h;cases h) (SepOf.of_all hz) ho
def Phi.znew(I:Phi)(b:Nat)(c:zr):Nat->Nat->Option Value:=λb' i=>if b'=b then c[i]? else I.z b' i
def Phi.znew_zc(I φ1:Phi)(b:Nat)(c:zr)(h:φ1.z=I.znew b c):ZC φ1 b 0 c.toList:=
 ZC.of λi y hi=>by
  rw[h,Nat.zero_add];show (if b=b then c[i]? else I.z b i)=some y;rw[wH rfl];simpa using hi
def Step.frozen{P:Program}(r:Rel P X I s.get w){c:zr}{e:TypeId}{fr:Nat×Nat}
  (hold:∀b,b<w.heap.size->w'.heap[b]? =w.heap[b]?) (hsz:w'.heap.size=w.heap.size+1) (hnw:w'.heap[w.heap.size]? =some (.cells c e fr)) (hos:w'.os=w.os) (ht:w'.tape=w.tape) (hu:w'.output=w.output):
  Step P X I s w (I.zset (I.znew w.heap.size c)) s w':=by
 have hzs:∀b i v,I.z b i=some v->I.znew w.heap.size c b i=some v:=λb i v h=>by
  have:=r.zlt h;unfold Phi.znew;rw[wx J];exact h
 have hsub:Sub I (I.zset (I.znew w.heap.size c)):=⟨λ_ _ h=>h,hzs⟩;refine⟨Ext.refl s,⟨?_,?_,?_,r.old,r.inj,?_,?_⟩,λ_ _=>rfl,J,λb hb _=>hold b hb,λY _ h1 h2=>absurd h2 J,hzs,?_⟩
 .exact⟨hos.trans r.base.os,ht.trans r.base.tape,hu.trans r.base.output,by have:=r.base.size;omega,λk hk=>(hold k (by have:=r.base.size;omega)).trans (r.base.block k hk)⟩
 .intro Y o hg;obtain⟨B,hB,t⟩:=r.obj Y o hg;exact⟨B,hB,t.keep hsub (hold _ (r.rng _ _ hB))⟩
 .intro Y B hB;have:B.b<w.heap.size:=r.rng Y B hB;omega
 .intro b i v hv;have hv':(if b=w.heap.size then c[i]? else I.z b i)=some v:=hv;by_cases eb:b=w.heap.size
  .rw[wH eb]at hv';exact⟨c,e,fr,by rw[eb];exact hnw,hv'⟩
  .rw[wx eb]at hv';obtain⟨c',e1,fr',h1,h2⟩:=r.frz b i v hv';exact⟨c',e1,fr',(hold b (r.zlt hv')).trans h1,h2⟩
 .intro Y o B hg hB;have:=r.rng Y B hB;exact(r.sep Y o B hg hB).congr (λi=>by show (if B.b=w.heap.size then c[i]? else I.z B.b i)=I.z B.b i;rw[wx J])
 .intro b i v hv;have hv':(if b=w.heap.size then c[i]? else I.z b i)=some v:=hv;by_cases eb:b=w.heap.size
  .exact .inr (.inl J)
  .rw[wx eb]at hv';exact .inl hv'
def VR.frozen{φ1:Phi}{b k:Nat}{ex:Bool}{c:zr}(hz:φ1.z=I.znew b c)(hp:wL cs=true)(hs:∀b o v,I.z b o=some v->φ1.z b o=some v)(hk:n<=k)(hex:ex=true->k=n){m:Nat}(h:VRL I cs (c.toList.take m)):
  VR φ1 (.lst n ex cs) (.slice (some ⟨b,0,none⟩) n k):=by
 simp only[VR];exact⟨hp,.inr ⟨b,0,k,c.toList.take m,rfl,hex,hk,(Phi.znew_zc I φ1 b c hz).take m,VRL.pure hs cs _ hp h⟩⟩
def Step.put{P:Program}(r:Rel P X I s.get w){Y:Nat}{o':AObj}(hg:s.get Y=some o)(hB:I Y=some B)
  (hother:∀b,b≠B.b->w'.heap[b]? =w.heap[b]?) (hsz:w'.heap.size=w.heap.size) (hos:w'.os=w.os) (ht:w'.tape=w.tape) (hu:w'.output=w.output)
  (ho:ObjRel P I w' o' B) (hng:uE o=false:=by rfl) (hna:PB o=false:=by rfl):Step P X I s w I (s.put Y o') w':=by
 have hzn:=(r.sep Y o B hg hB).all hng hna;have hnew:=r.new hg hB hng;have hgo:=qr hg;have hget:∀i x,(s.put Y o').get i=some x->(i=Y/\x=o')\/(i≠Y/\s.get i=some x):=λi x hx=>by
  have h1:=qr hx;rw[show (s.put Y o').objs=s.objs.set Y o' from rfl,Trie.get_set]at h1;by_cases e:i=Y
  .rw[wH e]at h1;exact .inl ⟨e,by cases h1;rfl⟩
  .rw[wx e]at h1;refine .inr ⟨e,?_⟩;have:=vX hx;rw[je (s:=s) (s':=s.put Y o') rfl rfl]at this;rw[gh,this];exact h1
 refine⟨td s Y o o' hgo (vX hg) hng,⟨?_,?_,?_,?_,?_,?_,?_⟩,λ_ _=>rfl,J,?_,?_,λ_ _ _ h=>h,λ_ _ _ h=>.inl h⟩
 .refine⟨hos.trans r.base.os,ht.trans r.base.tape,hu.trans r.base.output,by have:=r.base.size;omega,λk hk=>?_⟩
  exact(hother k J).trans (r.base.block k hk)
 .intro i x hx;rcases hget i x hx with ⟨rfl,rfl⟩|⟨e,hg'⟩
  .exact⟨B,hB,ho⟩
  .obtain⟨B',hB',t⟩:=r.obj i x hg';exact⟨B',hB',t.keep (Sub.refl _) (hother _ (λe'=>(r.inj i Y x o B' B hg' hg hB' hB e').elim e (λh=>J)))⟩
 .intro i B' hB';have:=r.rng i B' hB';omega
 .intro i x B' hx hB' hlt;rcases hget i x hx with ⟨rfl,rfl⟩|⟨e,hg'⟩
  .rw[hB]at hB';cases hB';omega
  .exact r.old i x B' hg' hB' hlt
 .intro i i' x x' B1 B2 h1 h2 hB1 hB2 e;have g1:∃y,s.get i=some y:=by
   rcases hget i x h1 with ⟨rfl,rfl⟩|⟨_,g⟩
   .exact⟨o,hg⟩
   .exact⟨x,g⟩
  have g2:∃y,s.get i'=some y:=by
   rcases hget i' x' h2 with ⟨rfl,rfl⟩|⟨_,g⟩
   .exact⟨o,hg⟩
   .exact⟨x',g⟩
  obtain⟨y,g1⟩:=g1;obtain⟨y',g2⟩:=g2;exact r.inj i i' y y' B1 B2 g1 g2 hB1 hB2 e
 .intro b i v hv;obtain⟨c,e,fr,h1,h2⟩:=r.frz b i v hv;exact⟨c,e,fr,(hother b (λe'=>by subst e';rw[hzn i]at hv;cases hv)).trans h1,h2⟩
 .intro i x B' hx hB';rcases hget i x hx with ⟨rfl,rfl⟩|⟨e,hg'⟩
  .rw[hB]at hB';cases hB';exact SepOf.of_all hzn
  .exact r.sep i x B' hg' hB'
 .intro b hb H;apply hother;intro e;have:=H Y o B hg hB e.symm;have hm:(s.put Y o').wm.testBit Y=true:=by show (gj s.wm Y).testBit Y=true;rw[vf];simp
  rw[hm]at this;cases this
 .intro i B' h1 h2;have:i<s.next:=h2
  omega
end Go.Proofs.YtbddpjboppmnfaaGreatDoor.Ev

/- Part of a verified evaluator of the model's code, generic over the program: a run of the evaluator that answers shows what the model's run answers. No conditions of its own. -/
import Derived.Test.YtbdfljdgapkbcaaGreatDoorEvDefs
import Derived.Below
import Derived.CallsIn
set_option linter.unusedSimpArgs false
set_option linter.unusedVariables false
set_option linter.defProp false
open Nat renaming mod_two_eq_zero_or_one → zj, beq → za, lt_of_lt_of_le → zk, div → zg, mod → zf, ble → zd, beq_eq → zn, le_refl → zo, le_trans → zr, pred → zt
open Bool renaming and_eq_true → zl, or_eq_true → zm, eq_false_iff → zp
open List renaming toArray → zq
namespace Go.Proofs.YtbdfljdgapkbcaaGreatDoor.Ev
variable {w0 w w':World}{s s':St}{v:AV}{tm:Trie AV}{id n:Nat}{o:AObj}
def cValF:Nat→Value→Option AV
 |0,_=>none
 |n+1,v=>match v with
  |.bool b=>some (.bool b)
  |.int k i=>some (.int k i)
  |.string s=>some (.str (s.data.toList.map (·.toNat)))
  |.pointer none=>some .nilp
  |.slice none 0 0=>some .nils
  |.map none=>some .nilm
  |.func (.func f) first cap=>bif first.isEmpty&&cap.isEmpty then some (.fn f [] [])else none
  |.nilFunc=>some .nilf
  |.nilIface=>some .nili
  |.agg cs=>(go n cs.toList).map .agg
  |.tuple cs=>(go n cs.toList).map .tup
  |_=>none
 where
 go:Nat→List Value→Option (List AV)
 |_n,[]=>some []
 |n,v::r=>match cValF n v,go n r with
  |some a,some l=>some (a::l)
  |_,_=>none
def zow(v:Value):Option AV:=cValF 4 v
def qh:Operand→Option Opd
 |.tmp t=>some (.t t)
 |.const v=>(zow v).map .c
 |.global g=>some (.c (.gptr g 0))
 |.func f=>some (.c (.fn f [] []))
def kI:List Operand→Option (List Opd)
 |[]=>some []
 |x::r=>match qh x,kI r with
  |some a,some l=>some (a::l)
  |_,_=>none
def Vk:Option Operand→Option (Option Opd)
 |none=>some none
 |some x=>match qh x with
  |some a=>some (some a)
  |none=>none
variable (P:Program)
def vD(t:TypeId):Option Nat:=(P.info? t).map (·.size)
def Vh(t:TypeId):Option Nat:=(P.info? t).map (·.bytes)
def jq(t:TypeId):Option AV:=((P.info? t).bind (·.zero)).bind zow
def U6(t:TypeId):Option Bool:=
 match P.underlying t with
 |some (.struct _)=>some true
 |some (.array _ _)=>some true
 |some _=>some false
 |none=>none
def fkT(t:TypeId):Option FK:=
 match P.underlying t with
 |some (.int _)=>some .i
 |some .string=>some .s
 |some .bool=>some .b
 |_=>none
def kJ(place:Nat→Option (Nat×Nat)):List (Nat×Operand)→Option (List (Nat×Nat×Opd))
 |[]=>some []
 |(i,x)::r=>match place i,qh x,kJ place r with
  |some (o,s),some a,some l=>some ((o,s,a)::l)
  |_,_,_=>none
def jB:List Field→Nat→Option (List FK)
 |[],_=>some []
 | f::r,i=>bif f.offset==i&&f.name != "_" then
   match fkT P f.type,jB r (i+1)with
   |some k,some l=>some (k::l)
   |_,_=>none
  else none
def zyd(t:TypeId):Option EqK:=
 match P.underlying t with
 |some (.int _)=>some .basic
 |some .string=>some .basic
 |some .bool=>some .bool
 |some (.pointer e)=>match vD P e with
  |some (_+1)=>some .ptr
  |_=>none
 |some (.slice _)=>some .slice
 |some (.map _ _)=>some .map
 |some (.func _ _ _)=>some .func
 |some (.interface _)=>some .iface
 |some (.struct fs)=>match jB P fs.toList 0 with
  |some ks=>bif !P.eqGuardType P.depth t&& !P.stoodInHeld t then some (.flat ks)else none
  |none=>none
 |_=>none
def uU(k:EqK)(x y:Operand):EqK:=
 match k with
 |.iface=>bif Region.isConst x||Region.isConst y then .ifacec else .iface
 |k=>k
def G3(fs:Array Field)(i:Nat):Option (Nat×Nat):=
 match fs[i]? with
 |some f=>match vD P f.type with
  |some s=>some (f.offset,s)
  |none=>none
 |none=>none
def pN(b:Builtin)(ts:List TypeId)(args:List Operand):Option IOp:=
 match b,ts,args with
 |.len,t::_,[x]=>match P.underlying t with
  |some .string=>(qh x).map (.len .s)
  |some (.slice _)=>(qh x).map (.len .v)
  |some (.map _ _)=>(qh x).map (.len .m)
  |_=>none
 |.cap,t::_,[x]=>match P.underlying t with
  |some (.slice _)=>(qh x).map .cap
  |_=>none
 | .append,t::u::_,[x,y]=>match P.underlying t with
  | some (.slice e)=>match P.underlying u with
   |some (.int _)=>match vD P e,Vh P e,jq P e,qh x,qh y with
    |some s,some b,some z,some a,some c=>bif za (wY z.cells) s&&zd 1 s then some (.appz e s b z.cells a c)else none
    |_,_,_,_,_=>none
   |some .string=>match vD P e,Vh P e,jq P e,qh x,qh y with
    |some 1,some b,some z,some a,some c=>bif za (wY z.cells) 1 then some (.app e 1 b a c)else none
    |_,_,_,_,_=>none
   |some (.slice _)=>match vD P e,Vh P e,jq P e,qh x,qh y with
    |some s,some b,some z,some a,some c=>bif za (wY z.cells) s then some (.app e s b a c)else none
    |_,_,_,_,_=>none
   |_=>none
  |_=>none
 | .delete,t::_,[m,k]=>match P.underlying t with
  |some (.map kt _)=>match fkT P kt,qh m,qh k with
   |some f,some a,some c=>some (.md f a c)
   |_,_,_=>none
  |_=>none
 |.min,_,xs=>(kI xs).map .mn
 |.max,_,xs=>(kI xs).map .mx
 |_,_,_=>none
def wT(o:Op):Option IOp:=
 match o with
 |.move x|.assign x=>(qh x).map .mv
 |.pick c a b=>match qh c,qh a,qh b with
  |some c,some a,some b=>some (.pick c a b)
  |_,_,_=>none
 |.alloc t=>(jq P t).map fun z=>.alloc t z.cells
 |.box t x=>(qh x).map (.box t)
 | .build t ps=>match jq P t,P.underlying t with
  |some z,some (.struct fs)=>bif fs.toList.all (fun f=>(vD P f.type).isSome)then (kJ (G3 P fs) ps.toList).map (.build z.cells)else none
  |some z,some (.array _ e)=>match vD P e with
   |some s=>(kJ (fun i=>some (i*s,s)) ps.toList).map (.build z.cells)
   |none=>none
  |_,_=>none
 | .buildSlice t len ps=>match P.underlying t with
  | some (.slice e)=>match vD P e,jq P e with
   | some s,some z=>bif zd (len*s) 16777216&&za (wY z.cells) s&&zd 1 s then
     (kJ (fun i=>some (i*s,s)) ps.toList).map (.bsl e (reps len z.cells) len)
    else none
   |_,_=>none
  |_=>none
 |.load t a=>match U6 P t,vD P t,qh a with
  |some true,some n,some a=>some (.ldn n a)
  |some false,_,some a=>some (.ld a)
  |_,_,_=>none
 |.store t a x=>match vD P t,qh a,qh x with
  |some n,some a,some x=>some (.st n a x)
  |_,_,_=>none
 |.nilCheck x=>(qh x).map .nck
 | .binOp op t x y _=>match zyd P t,qh x,qh y with
  |some .basic,some x,some y=>some (.bin op x y)
  |some k,some a,some b=>match op with
   |.eql=>some (.eqk (uU k x y) false a b)
   |.neq=>some (.eqk (uU k x y) true a b)
   |_=>none
  |_,_,_=>none
 |.unOp op _ x=>(qh x).map (.un op)
 | .convert s d x=>match P.underlying s,P.underlying d,qh x with
  |some _,some (.int k),some x=>some (.ci k x)
  |some .string,some (.slice e),some x=>match P.underlying e with
   |some (.int .u8)=>some (.csb e x)
   |_=>none
  |some (.slice e),some .string,some x=>match P.underlying e with
   |some (.int .u8)=>some (.cbs x)
   |_=>none
  |_,_,_=>none
 |.makeInterface t x=>match P.underlying t with
  |some (.interface _)=>none
  |some _=>(qh x).map (.mif t)
  |none=>none
 |.makeFunc (.func f) first cap=>match kI first.toList,kI cap.toList with
  |some a,some b=>some (.mfn f a b)
  |_,_=>none
 |.makeMap _ none=>some .mmap
 |.makeMap t (some (.const (.int _ _)))=>match P.underlying t with
  |some (.map _ _)=>some .mmap
  |_=>none
 | .makeSlice t l c=>match P.underlying t with
  |some (.slice e)=>match vD P e,Vh P e,jq P e,qh l,qh c with
   |some s,some b,some z,some l,some c=>bif za (wY z.cells) s&&zd 1 s then some (.msl e s b z.cells l c)else none
   |_,_,_,_,_=>none
  |_=>none
 | .slice t x lo hi mx=>match P.underlying t,qh x,Vk lo,Vk hi,Vk mx with
  |some .string,some x,some lo,some hi,some none=>some (.sls x lo hi)
  |some (.slice e),some x,some lo,some hi,some mx=>match vD P e with
   |some s=>bif (mx.isNone||hi.isSome)&&zd 1 s then some (.slv s x lo hi mx)else none
   |none=>none
  |_,_,_,_,_=>none
 | .fieldAddr s x f=>match P.underlying s with
  | some (.struct fs)=>match fs[f]? with
   |some fl=>match vD P fl.type with
    |some 0=>none
    |some _=>(qh x).map (.fa fl.offset)
    |none=>none
   |none=>none
  |_=>none
 | .indexAddr t x i=>match P.underlying t with
  |some (.array n e)=>match vD P e,qh x,qh i with
   |some s,some x,some i=>some (.iaa n s x i)
   |_,_,_=>none
  |some (.slice e)=>match vD P e,qh x,qh i with
   |some s,some x,some i=>some (.ia s x i)
   |_,_,_=>none
  |_=>none
 | .index t x i=>match P.underlying t with
  |some .string=>match qh x,qh i with
   |some x,some i=>some (.ixs x i)
   |_,_=>none
  |_=>none
 | .lookup t m k ok=>match P.underlying t with
  |some (.map kt e)=>match fkT P kt,jq P e,qh m,qh k with
   |some f,some z,some m,some k=>some (.lk f z ok m k)
   |_,_,_,_=>none
  |_=>none
 | .mapUpdate t m k v|.insert t m k v=>match P.underlying t with
  |some (.map kt _)=>match fkT P kt,qh m,qh k,qh v with
   |some f,some m,some k,some v=>some (.mu f m k v)
   |_,_,_,_=>none
  |_=>none
 |.range t x=>match P.underlying t with
  |some .string=>(qh x).map .rs
  |some (.map _ _)=>(qh x).map .rm
  |_=>none
 |.next it true=>(qh it).map .ns
 |.next it false=>(qh it).map .nm
 |.entry it=>(qh it).map .en
 |.extract x i=>(qh x).map fun a=>.ex a i
 | .call c=>match c.callee with
  | .value (.func f)=>match P.funcs[f]? with
   |none=>none
   | some fn=>bif fn.name== "internal/bytealg.IndexByteString"&&(fn.origin== ""&&fn.body.isNone)then
     match kI c.args.toList with
     |some [x,y]=>some (.ibs x y)
     |_=>none
    else bif fn.name== "internal/abi.NoEscape"&&(fn.origin== ""&&fn.body.isNone)then
     match kI c.args.toList with
     |some [x]=>some (.nes x)
     |_=>none
    else none
  |.value _=>none
  |.builtin b=>pN P b c.argTypes.toList c.args.toList
  |.invoke _ _=>none
 |_=>none
def Wh:IOp→Bool
 |.call _ _=>false
 |.cv _ _=>false
 |_=>true
def Qb:Option IOp→Option IOp
 |some i=>bif Wh i then some i else none
 |none=>none
def zlf(c:Call):Option IOp:=
 match c.callee with
 |.value (.func f)=>match P.funcs[f]? with
  |none=>none
  |some fn=>bif fn.body.isSome then (kI c.args.toList).map (.call f)else Qb (wT P (.call c))
 |.value x=>match qh x,kI c.args.toList with
  |some x,some l=>some (.cv x l)
  |_,_=>none
 |_=>Qb (wT P (.call c))
def cOp(o:Op):Option IOp:=
 match o with
 |.call c=>zlf P c
 |o=>Qb (wT P o)
def Vj(ops:Array Oper):Option (Nat×Bool)→Option (Option (Nat×Bool))
 |none=>some none
 | some (j,w)=>match ops[j]? with
  |some o=>match o.dst with
   |some d=>some (some (d,w))
   |none=>none
  |none=>none
def zzw(o:Op):IOp:=match cOp P o with
 |some i=>i
 |none=>.stk
def cS(nt:Nat)(ops:Array Oper)(o:Oper):Option SOper:=
 match zzw P o.op,Vj ops o.guard with
 |op,some g=>match o.dst with
  |some d=>bif Nat.blt d nt then some {dst:=some d,op:=op,guard:=g}else none
  |none=>some {dst:=none,op:=op,guard:=g}
 |_,_=>none
def cSs(nt:Nat)(ops:Array Oper):List Oper→Option (List SOper)
 |[]=>some []
 |o::r=>match cS P nt ops o,cSs nt ops r with
  |some a,some l=>some (a::l)
  |_,_=>none
def zsr(acc:List Nat)(es:List Edge):Nat:=
 es.foldl (fun s e=>bif Region.binds .any e then s|||2^e.on|||acc.getD e.on 0 else s) 0
def kf:List Oper→List Nat→List Nat
 |[],acc=>acc
 |o::r,acc=>kf r (acc++[zsr acc o.after.toList])
def Opd.tmp:Opd→List Nat
 |.t i=>[i]
 |.c _=>[]
def Opd.tmps(l:List Opd):List Nat:=l.flatMap Opd.tmp
def IOp.opds:IOp→List Opd
 |.mv x|.box _ x|.ld x|.ldn _ x|.nck x|.un _ x|.ci _ x|.csb _ x|.cbs x|.mif _ x|.fa _ x|.rs x|.ns x|.rm x|.nm x|.en x|.ex x _|.len _ x|.cap x|.nes x=>[x]
 |.pick a b c|.mu _ a b c=>[a,b,c]
 |.alloc _ _|.mmap|.stk=>[]
 |.build _ ps|.bsl _ _ _ ps=>ps.map (·.2.2)
 |.st _ x y|.bin _ x y|.eqk _ _ x y|.msl _ _ _ _ x y|.ia _ x y|.iaa _ _ x y|.ixs x y|.lk _ _ _ x y|.md _ x y|.app _ _ _ x y|.appz _ _ _ _ x y|.ibs x y=>[x,y]
 |.call _ l|.mn l|.mx l=>l
 |.mfn _ l m=>l++m
 |.cv x l=>x::l
 |.sls x a b=>x::(a.toList++b.toList)
 |.slv _ x a b c=>x::(a.toList++b.toList++c.toList)
def SOper.names(o:SOper):List Nat:=Opd.tmps o.op.opds++(match o.guard with|some (d,_)=>[d]|none=>[])
def Yy:Nat→List Nat→Bool
 |_,[]=>false
 |n,m::r=>za n m||Yy n r
def WT(a b:SOper):Bool:=
 (match a.dst with|some d=>Yy d b.names||b.dst==some d|none=>false)||
 (match b.dst with|some d=>Yy d a.names|none=>false)
def ZR(i:Nat)(a:SOper):List SOper→List Nat→Bool
 |[],_=>true
 |b::r,d::ds=>(!WT a b||d.testBit i)&&ZR i a r ds
 |_::_,[]=>false
def UD:Nat→List SOper→List Nat→Bool
 |_,[],_=>true
 |i,a::r,_::ds=>ZR i a r ds&&UD (i+1) r ds
 |_,_::_,[]=>false
def Wi:Nat→List Nat→Bool
 |_,[]=>true
 |i,d::ds=>Nat.blt d (2^i)&&Wi (i+1) ds
def mkD:List SOper→List Nat→List DOper
 |a::r,d::ds=>{o:=a,deps:=d}::mkD r ds
 |_,_=>[]
def WJ(nt:Nat)(ops:Array Oper):Option (List DOper):=
 match cSs P nt ops ops.toList with
 |some l=>
  let deps:=kf ops.toList []
  bif UD 0 l deps&&Wi 0 deps then some (mkD l deps)else none
 |none=>none
def G6:IOp→Bool
 |.mv _=>true
 |.nck _=>true
 |.fa _ _=>true
 |.ld _=>true
 |_=>false
def zkT:IOp→Bool
 |.call _ _=>true
 |_=>false
def zit:IOp→Bool
 |.ld _=>true
 |_=>false
def rtL(k:IOp→Bool)(o:DOper):Bool:=k o.o.op&&o.o.guard.isNone
def zlw(ds:List DOper):Bool:=(List.range ds.length).all fun i=>(List.range ds.length).all fun j=>match ds[i]?,ds[j]? with
 |some di,some dj=>match dj.o.dst with
  |some k=> !(di.o.names.contains k)||di.deps.testBit j
  |none=>true
 |_,_=>true
def zuI(a c:DOper)(r:List DOper):Bool:=
 za r.length 6&&rtL zkT c&&(r.any fun o=>zit o.o.op&& !(o.deps.testBit 1))&&rtL G6 a&&r.all (rtL G6)&&zlw (a::c::r)
def rtT:List DOper→ICode
 |a::c::r=>bif zuI a c r then .regt a c r else .regd (a::c::r)
 |l=>.regd l
theorem zwn{l:List DOper}{c:ICode}(h:rtT l=c):c=.regd l∨∃a d r,l=a::d::r∧zuI a d r=true∧c=.regt a d r:=by
 unfold rtT at h;split at h
 ·rename_i a d r
  cases hb:zuI a d r with
  |true=>rw[hb]at h;exact .inr ⟨a,d,r,rfl,hb,h.symm⟩
  |false=>rw[hb]at h;exact .inl h.symm
 ·exact .inl h.symm
theorem UO{l:List DOper}{c:ICode}(h:rtT l=c)(h1:∀l,c≠.regd l)(h2:∀a d r,c≠.regt a d r):False:=by
 rcases zwn h with e|⟨a,d,r,_,_,e⟩
 ·exact h1 _ e
 ·exact h2 _ _ _ e
def cC(nt:Nat):Code→Option ICode
 |.skip=>some .skip
 |.region _ ops false=>(cSs P nt ops ops.toList).map .reg
 |.region _ ops true=>(WJ P nt ops).map rtT
 |.seq a b=>match cC nt a,cC nt b with
  |some a,some b=>some (.seq a b)
  |_,_=>none
 |.cond c a b=>match qh c,cC nt a,cC nt b with
  |some c,some a,some b=>some (.cond c a b)
  |_,_,_=>none
 |.block id b=>(cC nt b).map (.block id)
 |.loop b=>(cC nt b).map .loop
 |.exit id=>some (.exit id)
 |.ret=>some .ret
 |.rangeFunc g ps a b=>match qh g,cC nt a,cC nt b with
  |some g,some a,some b=>bif ps.toList.all (Nat.blt · nt)then some (.rf g ps.toList a b)else none
  |_,_,_=>none
 |_=>some .stk
def Gm:List ResultVar→Option (List RV)
 |[]=>some []
 |.tmp t::r=>(Gm r).map (.t t:: ·)
 |.cell a t::r=>match U6 P t,vD P t,Gm r with
  |some true,some n,some l=>some (.cn a n::l)
  |some false,_,some l=>some (.c1 a::l)
  |_,_,_=>none
def HE(fn:Func):Option IFunc:=
 match fn.body with
 |none=>none
 |some c=>match cC P fn.ntmps c,Gm P fn.results.toList with
  |some b,some r=>bif fn.name != "runtime.NumGoroutine" then some {ntmps:=fn.ntmps,res:=r,body:=b}else none
  |_,_=>none
theorem Trie.get_leaf{α:Type}(n:Nat):(Trie.leaf:Trie α).get n=none:=rfl
theorem Trie.get_zero{α:Type}(v:Option α)(l r:Trie α):(Trie.node v l r).get 0=v:=rfl
theorem Trie.get_odd{α:Type}(v:Option α)(l r:Trie α)(n:Nat)(h:n%2=1):(Trie.node v l r).get n=l.get (n/2):=by
 cases n with
 |zero=>simp at h
 |succ n=>
  have hb:za (zf (n+1) 2) 1=true:=by rw[zn];exact h
  show (bif za (zf (n+1) 2) 1 then l.get (zg (n+1) 2)else r.get (zt (zg (n+1) 2)))=_;rw[hb];rfl
theorem Trie.get_even{α:Type}(v:Option α)(l r:Trie α)(n:Nat)(h:n%2=0)(h0:n≠0):(Trie.node v l r).get n=r.get (n/2-1):=by
 cases n with
 |zero=>exact absurd rfl h0
 | succ n=>
  have hb:za (zf (n+1) 2) 1=false:=by
   rw[zp,ne_eq,zn];show ¬((n+1)%2=1);omega
  show (bif za (zf (n+1) 2) 1 then l.get (zg (n+1) 2)else r.get (zt (zg (n+1) 2)))=_;rw[hb];rfl
theorem Trie.setF_leaf_zero{α:Type}(f:Nat)(v:Option α):Trie.setF (f+1) .leaf 0 v=.node v .leaf .leaf:=rfl
theorem Trie.setF_node_zero{α:Type}(f:Nat)(w v:Option α)(l r:Trie α):Trie.setF (f+1) (.node w l r) 0 v=.node v l r:=rfl
theorem Trie.setF_leaf_odd{α:Type}(f:Nat)(v:Option α)(n:Nat)(h:n%2=1):Trie.setF (f+1) .leaf n v=.node none (Trie.setF f .leaf (n/2) v) .leaf:=by
 cases n with
 |zero=>simp at h
 |succ n=>
  have hb:za (zf (n+1) 2) 1=true:=by rw[zn];exact h
  show (bif za (zf (n+1) 2) 1 then Trie.node none (Trie.setF f .leaf (zg (n+1) 2) v) .leaf else .node none .leaf (Trie.setF f .leaf (zt (zg (n+1) 2)) v))=_;rw[hb];rfl
theorem Trie.setF_leaf_even{α:Type}(f:Nat)(v:Option α)(n:Nat)(h:n%2=0)(h0:n≠0):Trie.setF (f+1) .leaf n v=.node none .leaf (Trie.setF f .leaf (n/2-1) v):=by
 cases n with
 |zero=>exact absurd rfl h0
 | succ n=>
  have hb:za (zf (n+1) 2) 1=false:=by
   rw[zp,ne_eq,zn];show ¬((n+1)%2=1);omega
  show (bif za (zf (n+1) 2) 1 then Trie.node none (Trie.setF f .leaf (zg (n+1) 2) v) .leaf else .node none .leaf (Trie.setF f .leaf (zt (zg (n+1) 2)) v))=_;rw[hb];rfl
theorem Trie.setF_node_odd{α:Type}(f:Nat)(w v:Option α)(l r:Trie α)(n:Nat)(h:n%2=1):Trie.setF (f+1) (.node w l r) n v=.node w (Trie.setF f l (n/2) v) r:=by
 cases n with
 |zero=>simp at h
 |succ n=>
  have hb:za (zf (n+1) 2) 1=true:=by rw[zn];exact h
  show (bif za (zf (n+1) 2) 1 then Trie.node w (Trie.setF f l (zg (n+1) 2) v) r else .node w l (Trie.setF f r (zt (zg (n+1) 2)) v))=_;rw[hb];rfl
theorem Trie.setF_node_even{α:Type}(f:Nat)(w v:Option α)(l r:Trie α)(n:Nat)(h:n%2=0)(h0:n≠0):Trie.setF (f+1) (.node w l r) n v=.node w l (Trie.setF f r (n/2-1) v):=by
 cases n with
 |zero=>exact absurd rfl h0
 | succ n=>
  have hb:za (zf (n+1) 2) 1=false:=by
   rw[zp,ne_eq,zn];show ¬((n+1)%2=1);omega
  show (bif za (zf (n+1) 2) 1 then Trie.node w (Trie.setF f l (zg (n+1) 2) v) r else .node w l (Trie.setF f r (zt (zg (n+1) 2)) v))=_;rw[hb];rfl
theorem Trie.get_setF{α:Type}:∀(f:Nat) (t:Trie α) (n:Nat) (v:Option α) (m:Nat),n<f→(Trie.setF f t n v).get m=if m=n then v else t.get m
 |0,_,_,_,_,h=>absurd h (Nat.not_lt_zero _)
 | f + 1,t,n,v,m,h=>by
  have ih:=fun(t:Trie α) (k j:Nat) (hk:k<f)=>Trie.get_setF f t k v j hk;by_cases h0:n=0
  ·subst h0;by_cases hm:m=0
   ·subst hm;cases t<;>simp[Trie.setF_leaf_zero,Trie.setF_node_zero,Trie.get_zero]
   ·rcases zj m with e|e
    ·cases t<;>simp[Trie.setF_leaf_zero,Trie.setF_node_zero,Trie.get_even _ _ _ m e hm,Trie.get_leaf,hm]
    ·cases t<;>simp[Trie.setF_leaf_zero,Trie.setF_node_zero,Trie.get_odd _ _ _ m e,Trie.get_leaf,hm]
  ·rcases zj n with en|en
   ·cases t with
    | leaf=>
     rw[Trie.setF_leaf_even f v n en h0];by_cases hm:m=0
     ·subst hm;simp[Trie.get_zero,Trie.get_leaf,Ne.symm h0]
     ·rcases zj m with e|e
      ·rw[Trie.get_even _ _ _ m e hm,ih _ _ _ oM,Trie.get_leaf,Trie.get_leaf];by_cases hh:m=n
       ·simp[hh]
       ·rw[if_neg hh,if_neg oM]
      ·rw[Trie.get_odd _ _ _ m e,Trie.get_leaf,Trie.get_leaf,if_neg oM]
    | node w l r=>
     rw[Trie.setF_node_even f w v l r n en h0];by_cases hm:m=0
     ·subst hm;simp[Trie.get_zero,Ne.symm h0]
     ·rcases zj m with e|e
      ·rw[Trie.get_even _ _ _ m e hm,ih _ _ _ oM,Trie.get_even _ _ _ m e hm];by_cases hh:m=n
       ·simp[hh]
       ·rw[if_neg hh,if_neg oM]
      ·rw[Trie.get_odd _ _ _ m e,Trie.get_odd _ _ _ m e,if_neg oM]
   ·cases t with
    | leaf=>
     rw[Trie.setF_leaf_odd f v n en];by_cases hm:m=0
     ·subst hm;simp[Trie.get_zero,Trie.get_leaf,Ne.symm h0]
     ·rcases zj m with e|e
      ·rw[Trie.get_even _ _ _ m e hm,Trie.get_leaf,Trie.get_leaf,if_neg oM]
      ·rw[Trie.get_odd _ _ _ m e,ih _ _ _ oM,Trie.get_leaf,Trie.get_leaf];by_cases hh:m=n
       ·simp[hh]
       ·rw[if_neg hh,if_neg oM]
    | node w l r=>
     rw[Trie.setF_node_odd f w v l r n en];by_cases hm:m=0
     ·subst hm;simp[Trie.get_zero,Ne.symm h0]
     ·rcases zj m with e|e
      ·rw[Trie.get_even _ _ _ m e hm,Trie.get_even _ _ _ m e hm,if_neg oM]
      ·rw[Trie.get_odd _ _ _ m e,ih _ _ _ oM,Trie.get_odd _ _ _ m e];by_cases hh:m=n
       ·simp[hh]
       ·rw[if_neg hh,if_neg oM]
theorem Trie.get_set{α:Type}(t:Trie α)(n:Nat)(v:α)(m:Nat):(t.set n v).get m=if m=n then some v else t.get m:=
 Trie.get_setF (n+1) t n (some v) m (Nat.lt_succ_self n)
theorem Trie.get_del{α:Type}(t:Trie α)(n:Nat)(m:Nat):(t.del n).get m=if m=n then none else t.get m:=
 Trie.get_setF (n+1) t n none m (Nat.lt_succ_self n)
theorem Trie.get_set_same{α:Type}(t:Trie α)(n:Nat)(v:α):(t.set n v).get n=some v:=by rw[Trie.get_set,if_pos rfl]
theorem Trie.get_set_ne{α:Type}(t:Trie α){m:Nat}(v:α)(h:m≠n):(t.set n v).get m=t.get m:=by rw[Trie.get_set,if_neg h]
theorem kS(G:Env)(S:Self)(op:IOp)(tm:Trie AV)(s:St):wP G S op tm s=(match op with
 |.call f args=>Lp S f (evL tm args) s
 |.cv x args=>GG S (x.ev tm) (evL tm args) s
 |op=>opv G op tm s):=by cases op<;>rfl
open Go.RowKit (Below)
structure Blk where
 b:Nat
 o:Nat
 tot:Nat
structure Phi where
 m:Nat→Option Blk
 z:Nat→Nat→Option Value
variable {φ φ':Phi}
instance :CoeFun Phi (fun _=>Nat→Option Blk):=⟨Phi.m⟩
def ZC(φ:Phi)(b:Nat):Nat→List Value→Prop
 |_,[]=>True
 |o,y::r=>φ.z b o=some y∧ZC φ b (o+1) r
def qX(s:ByteArray):List Nat:=s.data.toList.map (·.toNat)
mutual
def VR(φ:Phi):AV→Value→Prop
 |.bool b,x=>x=.bool b
 |.int k n,x=>x=.int k n
 |.str l,x=>∃s,x=.string s∧qX s=l
 |.ptr id off,x=>∃B,φ id=some B∧x=.pointer (some ⟨B.b,B.o+off,none⟩)
 |.nilp,x=>x=.pointer none
 |.gptr g off,x=>x=.pointer (some ⟨g,off,none⟩)
 | .sl id off len c,x=>∃B k,φ id=some B∧x=.slice (some ⟨B.b,B.o+off,none⟩) len k∧(match c with
   |.fix n=>k=n
   |.opn e=>0<e∧k=(B.tot-off)/e∧len≤k∧off≤B.tot)
 |.sl0,x=>∃a k,x=.slice (some a) 0 k
 |.nils,x=>x=.slice none 0 0
 |.map id,x=>∃B,φ id=some B∧x=.map (some B.b)
 |.nilm,x=>x=.map none
 |.fn f a c,x=>∃xs ys,x=.func (.func f) (zq xs) (zq ys)∧VRL φ a xs∧VRL φ c ys
 |.nilf,x=>x=.nilFunc
 |.yld l,x=>∃B,φ l=some B∧x=.func (.yield B.b) #[] #[]
 |.ifc t v,x=>∃y,x=.iface t y∧VR φ v y
 |.nili,x=>x=.nilIface
 |.agg cs,x=>∃xs,x=.agg (zq xs)∧VRL φ cs xs
 |.tup vs,x=>∃xs,x=.tuple (zq xs)∧VRL φ vs xs
 |.lst n ex cs,x=>xN cs=true∧((n=0∧∃a,x=.slice a 0 0)∨∃b o k ys,x=.slice (some ⟨b,o,none⟩) n k∧(ex=true→k=n)∧n≤k∧ZC φ b o ys∧VRL φ cs ys)
 |.gr id e n cs,x=>xN cs=true∧cs.length=n*e∧0<n∧0<e∧∃B ys,φ id=some B∧x=.slice (some ⟨B.b,B.o,none⟩) n (B.tot/e)∧n≤B.tot/e∧ZC φ B.b B.o ys∧VRL φ cs ys
 |.vp cs,x=>xN cs=true∧∃b o ys,x=.pointer (some ⟨b,o,none⟩)∧ZC φ b o ys∧VRL φ cs ys
def VRL(φ:Phi):List AV→List Value→Prop
 |[],ys=>ys=[]
 |v::vs,ys=>∃y ys',ys=y::ys'∧VR φ v y∧VRL φ vs ys'
end
structure Sub(φ φ':Phi):Prop where
 of:∀id B,φ id=some B→φ' id=some B
 z:∀b o v,φ.z b o=some v→φ'.z b o=some v
instance {φ φ':Phi}:CoeFun (Sub φ φ') (fun _=>∀id B,φ id=some B→φ' id=some B):=⟨Sub.of⟩
theorem Sub.refl(φ:Phi):Sub φ φ:=⟨fun _ _ h=>h,fun _ _ _ h=>h⟩
theorem Sub.trans{φ'':Phi}(h:Sub φ φ')(h':Sub φ' φ''):Sub φ φ'':=⟨fun _ _ t=>h'.of _ _ (h.of _ _ t),fun _ _ _ t=>h'.z _ _ _ (h.z _ _ _ t)⟩
theorem ZC.mono{φ φ':Phi}(h:∀b o v,φ.z b o=some v→φ'.z b o=some v){b:Nat}:∀{ys:List Value} {o:Nat},ZC φ b o ys→ZC φ' b o ys
 |[],_,_=>trivial
 |_::_,_,t=>⟨h _ _ _ t.1,ZC.mono h t.2⟩
theorem ZC.drop{φ:Phi}{b:Nat}:∀{ys:List Value} {o:Nat} (n:Nat),ZC φ b o ys→ZC φ b (o+n) (ys.drop n)
 |ys,_,0,t=>by simpa using t
 |[],_,n+1,_=>by simp[ZC]
 |y::r,o,n+1,t=>by
  have:=ZC.drop n t.2;rw[show o+(n+1)=o+1+n by omega];simpa using this
theorem ZC.take{φ:Phi}{b:Nat}:∀{ys:List Value} {o:Nat} (n:Nat),ZC φ b o ys→ZC φ b o (ys.take n)
 |_,_,0,_=>by simp[ZC]
 |[],_,n+1,_=>by simp[ZC]
 |y::r,o,n+1,t=>⟨t.1,ZC.take n t.2⟩
theorem ZC.at{φ:Phi}{b:Nat}:∀{ys:List Value} {o i:Nat} {y:Value},ZC φ b o ys→ys[i]? =some y→φ.z b (o+i)=some y
 |[],_,_,_,_,h=>by simp at h
 |y0::r,o,0,y,t,h=>by simp at h;subst h;exact t.1
 |y0::r,o,i+1,y,t,h=>by
  have:=ZC.at (i:=i) t.2 (by simpa using h)
  rw[show o+(i+1)=o+1+i by omega];exact this
theorem ZC.of{φ:Phi}{b:Nat}:∀{ys:List Value} {o:Nat},(∀i y,ys[i]? =some y→φ.z b (o+i)=some y)→ZC φ b o ys
 |[],_,_=>trivial
 |y::r,o,h=>⟨h 0 y rfl,ZC.of fun i y' hi=>by rw[show o+1+i=o+(i+1) by omega];exact h (i+1) y' (by simpa using hi)⟩
mutual
theorem VR.mono{φ φ':Phi}(h:Sub φ φ'):∀(v:AV) (x:Value),VR φ v x→VR φ' v x
 |.bool _,_,hv=>by simpa [VR]using hv
 |.int _ _,_,hv=>by simpa [VR]using hv
 |.str _,_,hv=>by simpa [VR]using hv
 |.ptr _ _,_,hv=>by simp only[VR]at *;obtain⟨B,hB,e⟩:=hv;exact⟨B,h _ _ hB,e⟩
 |.nilp,_,hv=>by simpa [VR]using hv
 |.gptr _ _,_,hv=>by simpa [VR]using hv
 |.sl _ _ _ _,_,hv=>by simp only[VR]at *;obtain⟨B,k,hB,e⟩:=hv;exact⟨B,k,h _ _ hB,e⟩
 |.sl0,_,hv=>by simpa [VR]using hv
 |.nils,_,hv=>by simpa [VR]using hv
 |.map _,_,hv=>by simp only[VR]at *;obtain⟨B,hB,e⟩:=hv;exact⟨B,h _ _ hB,e⟩
 |.nilm,_,hv=>by simpa [VR]using hv
 |.fn _ a c,_,hv=>by
  simp only[VR]at *;obtain⟨xs,ys,e,h1,h2⟩:=hv;exact⟨xs,ys,e,VRL.mono h a xs h1,VRL.mono h c ys h2⟩
 |.nilf,_,hv=>by simpa [VR]using hv
 |.yld _,_,hv=>by simp only[VR]at *;obtain⟨B,hB,e⟩:=hv;exact⟨B,h _ _ hB,e⟩
 |.ifc _ v,_,hv=>by simp only[VR]at *;obtain⟨y,e,h1⟩:=hv;exact⟨y,e,VR.mono h v y h1⟩
 |.nili,_,hv=>by simpa [VR]using hv
 |.agg cs,_,hv=>by simp only[VR]at *;obtain⟨xs,e,h1⟩:=hv;exact⟨xs,e,VRL.mono h cs xs h1⟩
 |.tup cs,_,hv=>by simp only[VR]at *;obtain⟨xs,e,h1⟩:=hv;exact⟨xs,e,VRL.mono h cs xs h1⟩
 |.lst n ex cs,_,hv=>by
  simp only[VR]at *;obtain⟨hp,h1|⟨b,o,k,ys,e1,e2,e3,e4,e5⟩⟩:=hv
  ·exact⟨hp,.inl h1⟩
  ·exact⟨hp,.inr ⟨b,o,k,ys,e1,e2,e3,e4.mono h.z,VRL.mono h cs ys e5⟩⟩
 |.gr id e n cs,_,hv=>by
  simp only[VR]at *;obtain⟨hp,h0,h1,h2,B,ys,e1,e2,e3,e4,e5⟩:=hv;exact⟨hp,h0,h1,h2,B,ys,h.of _ _ e1,e2,e3,e4.mono h.z,VRL.mono h cs ys e5⟩
 |.vp cs,_,hv=>by
  simp only[VR]at *;obtain⟨hp,b,o,ys,e1,e2,e3⟩:=hv;exact⟨hp,b,o,ys,e1,e2.mono h.z,VRL.mono h cs ys e3⟩
theorem VRL.mono{φ φ':Phi}(h:Sub φ φ'):∀(l:List AV) (ys:List Value),VRL φ l ys→VRL φ' l ys
 |[],_,hv=>by simpa [VRL]using hv
 |v::vs,_,hv=>by
  simp only[VRL]at *;obtain⟨y,ys',e,h1,h2⟩:=hv;exact⟨y,ys',e,VR.mono h v y h1,VRL.mono h vs ys' h2⟩
end
theorem VRL.nil(φ:Phi):VRL φ [] []:=by simp[VRL]
theorem VRL.cons{y:Value}{vs:List AV}{ys:List Value}(h:VR φ v y)(t:VRL φ vs ys):VRL φ (v::vs) (y::ys):=by
 simp only[VRL];exact⟨y,ys,rfl,h,t⟩
theorem VRL.length{φ:Phi}:∀{vs:List AV} {ys:List Value},VRL φ vs ys→vs.length=ys.length
 |[],_,h=>by simp only[VRL]at h;subst h;rfl
 |_::vs,_,h=>by
  simp only[VRL]at h;obtain⟨y,ys',rfl,_,h2⟩:=h;simp[VRL.length h2]
theorem VRL.append{φ:Phi}:∀{vs:List AV} {ys:List Value} {us:List AV} {zs:List Value},VRL φ vs ys→VRL φ us zs→VRL φ (vs++us) (ys++zs)
 |[],_,_,_,h,h'=>by simp only[VRL]at h;subst h;exact h'
 |_::vs,_,_,_,h,h'=>by
  simp only[VRL]at h;obtain⟨y,ys',rfl,h1,h2⟩:=h;exact VRL.cons h1 (VRL.append h2 h')
theorem wE{α:Type}:∀l:List α,wY l=l.length
 |[]=>rfl
 |_::r=>by show Nat.succ (wY r)=_;rw[wE r];rfl
theorem u4:∀{n:Nat} {l m:List AV},xV n l=some m→∃r,l=m++r∧m.length=n
 |0,l,m,h=>by simp[xV]at h;subst h;exact⟨l,rfl,rfl⟩
 |n+1,[],m,h=>by simp[xV]at h
 | n+1,v::l,m,h=>by
  simp only[xV]at h;cases ht:xV n l with
  |none=>rw[ht]at h;simp at h
  |some k=>
   rw[ht]at h;simp at h;subst h;obtain⟨r,e,hl⟩:=u4 ht;exact⟨r,by rw[e];rfl,by simp[hl]⟩
theorem wK:∀(n:Nat) (l:List AV),wl n l=l.drop n
 |0,l=>rfl
 |n+1,[]=>rfl
 |n+1,_::l=>by show wl n l=_;rw[wK n l];rfl
theorem YJ:∀(n:Nat) (l:List AV),tkN n l=l.take n
 |0,l=>by simp[tkN]
 |n+1,[]=>by simp[tkN]
 |n+1,v::l=>by simp[tkN,YJ n l]
theorem cut_some{l m:List AV}{off:Nat}(h:cut l off n=some m):m.length=n∧((off+n≤l.length∨n=0)∧m=(l.drop off).take n):=by
 unfold cut at h;obtain⟨r,e,hl⟩:=u4 h;rw[wK]at e;refine⟨hl,?_,?_⟩
 ·by_cases h0:n=0
  ·exact .inr h0
  ·left
   have:=congrArg List.length e;simp at this;omega
 ·rw[e,←hl];simp
theorem KO:∀{l vs r:List AV},Xt l vs=some r→vs.length≤l.length∧r=vs++l.drop vs.length
 |l,[],r,h=>by cases l<;>simp[Xt]at h<;>subst h<;>simp
 |[],_::_,r,h=>by simp[Xt]at h
 | _::l,v::vs,r,h=>by
  simp only[Xt]at h;cases ht:Xt l vs with
  |none=>rw[ht]at h;simp at h
  |some k=>
   rw[ht]at h;simp at h;subst h;obtain⟨h1,rfl⟩:=KO ht;exact⟨by simp;exact h1,by simp⟩
theorem YC:∀{l:List AV} {off:Nat} {vs r:List AV},vN l off vs=some r→(off+vs.length≤l.length∨vs=[])∧r=l.take off++vs++l.drop (off+vs.length)
 |l,0,vs,r,h=>by
  cases l<;>simp only[vN]at h<;>obtain⟨h1,rfl⟩:=KO h<;>exact⟨.inl (by simpa using h1),by simp⟩
 |[],n+1,vs,r,h=>by
  cases vs with
  |nil=>simp[vN]at h;subst h;exact⟨.inr rfl,by simp⟩
  |cons _ _=>simp[vN]at h
 | v::l,n+1,vs,r,h=>by
  simp only[vN]at h;cases ht:vN l n vs with
  |none=>rw[ht]at h;simp at h
  | some k=>
   rw[ht]at h;simp at h;subst h;obtain⟨h1,rfl⟩:=YC ht;refine⟨?_,?_⟩
   ·rcases h1 with h1|h1
    ·left;simp;omega
    ·exact .inr h1
   ·have:n+1+vs.length=(n+vs.length)+1:=oM;rw[this];simp
theorem j5(z:List AV):∀n,(reps n z).length=n*z.length
 |0=>by simp[reps]
 |n+1=>by simp[reps,j5 z n,Nat.succ_mul,Nat.add_comm]
theorem VRL.take{vs:List AV}{ys:List Value}(h:VRL φ vs ys)(n:Nat):VRL φ (vs.take n) (ys.take n):=by
 induction n generalizing vs ys with
 |zero=>simpa using VRL.nil φ
 |succ n ih=>
  cases vs with
  |nil=>simp only[VRL]at h;subst h;simpa using VRL.nil φ
  |cons v vs=>simp only[VRL]at h;obtain⟨y,ys',rfl,h1,h2⟩:=h;simpa using VRL.cons h1 (ih h2)
theorem VRL.drop{vs:List AV}{ys:List Value}(h:VRL φ vs ys)(n:Nat):VRL φ (vs.drop n) (ys.drop n):=by
 induction n generalizing vs ys with
 |zero=>simpa using h
 |succ n ih=>
  cases vs with
  |nil=>simp only[VRL]at h;subst h;simpa using VRL.nil φ
  |cons v vs=>simp only[VRL]at h;obtain⟨y,ys',rfl,h1,h2⟩:=h;simpa using ih h2
theorem VRL.cut{vs m:List AV}{ys:List Value}{off:Nat}(h:VRL φ vs ys)(hc:Ev.cut vs off n=some m):VRL φ m ((ys.drop off).take n):=by
 obtain⟨_,_,rfl⟩:=cut_some hc;exact(h.drop off).take n
theorem VRL.get{φ:Phi}:∀{vs:List AV} {ys:List Value} {i:Nat} {v:AV},VRL φ vs ys→vs[i]? =some v→∃y,ys[i]? =some y∧VR φ v y
 |[],_,_,_,_,hi=>by simp at hi
 |u::vs,_,i,v,h,hi=>by
  simp only[VRL]at h;obtain⟨y,ys',rfl,h1,h2⟩:=h;cases i with
  |zero=>simp at hi;subst hi;exact⟨y,rfl,h1⟩
  |succ i=>simp at hi;simpa using VRL.get h2 hi
theorem VRL.reps{φ:Phi}{z:List AV}{zs:List Value}(h:VRL φ z zs):∀n,VRL φ (Ev.reps n z) (List.replicate n zs).flatten
 |0=>by simpa [Ev.reps]using VRL.nil φ
 |n+1=>by rw[List.replicate_succ,List.flatten_cons];exact VRL.append h (VRL.reps h n)
theorem VR.cells{x:Value}(h:VR φ v x):VRL φ v.cells x.cells.toList:=by
 cases v<;>simp only[VR]at h<;>
  first
   |(obtain⟨xs,rfl,h⟩:=h;simpa [AV.cells,Value.cells]using h)
   |(subst h;exact VRL.cons (by simp[VR]) (VRL.nil φ))
   |skip
 case str l=>obtain⟨s,rfl,h⟩:=h;exact VRL.cons (by simp only[VR];exact⟨s,rfl,h⟩) (VRL.nil φ)
 case ptr id off=>obtain⟨B,hB,rfl⟩:=h;exact VRL.cons (by simp only[VR];exact⟨B,hB,rfl⟩) (VRL.nil φ)
 case sl id off len c=>obtain⟨B,k,hB,rfl,h⟩:=h;exact VRL.cons (by simp only[VR];exact⟨B,k,hB,rfl,h⟩) (VRL.nil φ)
 case sl0=>obtain⟨a,k,rfl⟩:=h;exact VRL.cons (by simp only[VR];exact⟨a,k,rfl⟩) (VRL.nil φ)
 case map id=>obtain⟨B,hB,rfl⟩:=h;exact VRL.cons (by simp only[VR];exact⟨B,hB,rfl⟩) (VRL.nil φ)
 case fn f a c=>obtain⟨xs,ys,rfl,h1,h2⟩:=h;exact VRL.cons (by simp only[VR];exact⟨xs,ys,rfl,h1,h2⟩) (VRL.nil φ)
 case yld l=>obtain⟨B,hB,rfl⟩:=h;exact VRL.cons (by simp only[VR];exact⟨B,hB,rfl⟩) (VRL.nil φ)
 case ifc t v=>obtain⟨y,rfl,h⟩:=h;exact VRL.cons (by simp only[VR];exact⟨y,rfl,h⟩) (VRL.nil φ)
 case tup vs=>obtain⟨xs,rfl,h⟩:=h;exact VRL.cons (by simp only[VR];exact⟨xs,rfl,h⟩) (VRL.nil φ)
 case lst n ex cs=>
  have hx:x.cells.toList=[x]:=by
   obtain⟨_,⟨_,_,rfl⟩|⟨b,o,k,ys,rfl,_⟩⟩:=h<;>rfl
  rw[hx];exact VRL.cons (by simp only[VR];exact h) (VRL.nil φ)
 case gr id e n cs=>
  have hx:x.cells.toList=[x]:=by
   obtain⟨_,_,_,_,B,ys,_,rfl,_⟩:=h;rfl
  rw[hx];exact VRL.cons (by simp only[VR];exact h) (VRL.nil φ)
 case vp cs=>
  have hx:x.cells.toList=[x]:=by
   obtain⟨_,b,o,ys,rfl,_⟩:=h;rfl
  rw[hx];exact VRL.cons (by simp only[VR];exact h) (VRL.nil φ)
mutual
theorem VR.pure{φ φ':Phi}(h:∀b o v,φ.z b o=some v→φ'.z b o=some v):∀(v:AV) (x:Value),x8 v=true→VR φ v x→VR φ' v x
 |.bool _,_,_,hv=>by simpa [VR]using hv
 |.int _ _,_,_,hv=>by simpa [VR]using hv
 |.str _,_,_,hv=>by simpa [VR]using hv
 |.ptr _ _,_,hp,_=>by simp[x8]at hp
 |.nilp,_,_,hv=>by simpa [VR]using hv
 |.gptr _ _,_,_,hv=>by simpa [VR]using hv
 |.sl _ _ _ _,_,hp,_=>by simp[x8]at hp
 |.sl0,_,_,hv=>by simpa [VR]using hv
 |.nils,_,_,hv=>by simpa [VR]using hv
 |.map _,_,hp,_=>by simp[x8]at hp
 |.nilm,_,_,hv=>by simpa [VR]using hv
 |.fn _ a c,_,hp,hv=>by
  simp only[x8,zl]at hp;simp only[VR]at *;obtain⟨xs,ys,e,h1,h2⟩:=hv;exact⟨xs,ys,e,VRL.pure h a xs hp.1 h1,VRL.pure h c ys hp.2 h2⟩
 |.nilf,_,_,hv=>by simpa [VR]using hv
 |.yld _,_,hp,_=>by simp[x8]at hp
 |.ifc _ v,_,hp,hv=>by simp only[x8]at hp;simp only[VR]at *;obtain⟨y,e,h1⟩:=hv;exact⟨y,e,VR.pure h v y hp h1⟩
 |.nili,_,_,hv=>by simpa [VR]using hv
 |.agg cs,_,hp,hv=>by simp only[x8]at hp;simp only[VR]at *;obtain⟨xs,e,h1⟩:=hv;exact⟨xs,e,VRL.pure h cs xs hp h1⟩
 |.tup cs,_,hp,hv=>by simp only[x8]at hp;simp only[VR]at *;obtain⟨xs,e,h1⟩:=hv;exact⟨xs,e,VRL.pure h cs xs hp h1⟩
 |.lst n ex cs,_,_,hv=>by
  simp only[VR]at *;obtain⟨hp,h1|⟨b,o,k,ys,e1,e2,e3,e4,e5⟩⟩:=hv
  ·exact⟨hp,.inl h1⟩
  ·exact⟨hp,.inr ⟨b,o,k,ys,e1,e2,e3,e4.mono h,VRL.pure h cs ys hp e5⟩⟩
 |.gr _ _ _ _,_,hp,_=>by simp[x8]at hp
 |.vp cs,_,_,hv=>by
  simp only[VR]at *;obtain⟨hp,b,o,ys,e1,e2,e3⟩:=hv;exact⟨hp,b,o,ys,e1,e2.mono h,VRL.pure h cs ys hp e3⟩
theorem VRL.pure{φ φ':Phi}(h:∀b o v,φ.z b o=some v→φ'.z b o=some v):∀(l:List AV) (ys:List Value),xN l=true→VRL φ l ys→VRL φ' l ys
 |[],_,_,hv=>by simpa [VRL]using hv
 |v::vs,_,hp,hv=>by
  simp only[xN,zl]at hp;simp only[VRL]at *;obtain⟨y,ys',e,h1,h2⟩:=hv;exact⟨y,ys',e,VR.pure h v y hp.1 h1,VRL.pure h vs ys' hp.2 h2⟩
end
theorem uA:∀{a b:List AV},xN (a++b)=(xN a&&xN b)
 |[],b=>by simp[xN]
 |v::a,b=>by simp only[List.cons_append,xN,uA,Bool.and_assoc]
theorem pj:∀{a:List AV} (n:Nat),xN a=true→xN (a.take n)=true
 |_,0,_=>by simp[xN]
 |[],n+1,_=>by simp[xN]
 |v::a,n+1,h=>by
  simp only[xN,zl]at h;simp only[List.take_succ_cons,xN,h.1,pj n h.2,Bool.and_self]
theorem kX:∀{a:List AV} (n:Nat),xN a=true→xN (a.drop n)=true
 |_,0,h=>by simpa using h
 |[],n+1,_=>by simp[xN]
 |v::a,n+1,h=>by
  simp only[xN,zl]at h
  simpa using kX n h.2
theorem VR.gr_lst{e:Nat}{cs:List AV}{x:Value}(h:VR φ (.gr id e n cs) x):VR φ (.lst n false cs) x:=by
 simp only[VR]at h⊢;obtain⟨hp,_,_,_,B,ys,_,rfl,hk,hz,hy⟩:=h;exact⟨hp,.inr ⟨B.b,B.o,_,ys,rfl,(by simp),hk,hz,hy⟩⟩
theorem VR.vp_drop{cs:List AV}{b o:Nat}{ys:List Value}(hp:xN cs=true)(hz:ZC φ b o ys)(hy:VRL φ cs ys)(n:Nat):VR φ (.vp (wl n cs)) (.pointer (some ⟨b,o+n,none⟩)):=by
 rw[wK];simp only[VR];exact⟨kX n hp,b,o+n,ys.drop n,rfl,hz.drop n,hy.drop n⟩
def TmRel(φ:Phi)(tm:Trie AV)(tmps:Array Value):Prop:=∀i v,tm.get i=some v→VR φ v (tmps.getD i undef)
def EntRel(φ:Phi):List (AV×AV×Nat)→List MapEntry→Prop
 |[],es=>es=[]
 |p::r,es=>∃e es',es=e::es'∧VR φ p.1 e.key∧VR φ p.2.1 e.val∧e.born=p.2.2∧EntRel φ r es'
def URel(φ:Phi):List (Int×AV)→List MapEntry→Prop
 |[],es=>es=[]
 |p::r,es=>∃e es',es=e::es'∧e.key=.int .i64 p.1∧VR φ p.2 e.val∧URel φ r es'
def UMap(φ:Phi)(es:List (Int×AV))(ents:Array MapEntry)(clk:Nat):Prop:=
 ∃l,l.Perm ents.toList∧URel φ es l∧(es.map (·.1)).Nodup∧(l.map (·.born)).Nodup∧∀e∈l,e.born<clk
def LSt.conc:LSt→LoopState
 |.ready=>.ready
 |.busy=>.busy
 |.done=>.done
 |.exhausted=>.exhausted
def Res.code:Res→Code
 |.norm=>.skip
 |.exit id=>.exit id
 |.ret=>.ret
structure LRel(P:Program)(φ:Phi)(st:LSt)(pend:Option Res)(tm:Trie AV)(ps:List Nat)(asg body:ICode)(d:Nat)(L:Loop):Prop where
 state:L.state=st.conc
 pend:L.pending=pend.map Res.code
 params:L.params=ps.toArray
 asg:cC P L.tmps.size L.assign=some asg
 body:cC P L.tmps.size L.body=some body
 tm:TmRel φ tm L.tmps
 df:∃B,φ d=some B∧L.defers=B.b
 ps:∀p∈ps,p<L.tmps.size
def ObjRel(P:Program)(φ:Phi)(w:World)(o:AObj)(B:Blk):Prop:=
 match o with
 | .row e cells ext fz=>∃c fr,w.heap[B.b]? =some (.cells c e fr)∧c.size=B.o+B.tot∧cells.length≤B.tot∧(ext=false→cells.length=B.tot∧B.o=0)∧
   VRL φ cells ((c.toList.drop B.o).take cells.length)∧fr.1≤fr.2∧(fz=false→∀i,i<c.size→¬(fr.1≤i∧i<fr.2))
 |.map es clock=>∃ents,w.heap[B.b]? =some (.map ents clock)∧EntRel φ es ents.toList
 |.umap es=>∃ents clk,w.heap[B.b]? =some (.map ents clk)∧UMap φ es ents clk
 |.siter s pos=>B.o=0∧∃bs,w.heap[B.b]? =some (.stringIter bs pos)∧qX bs=s
 | .miter m since seen stepped=>B.o=0∧∃m',w.heap[B.b]? =some (.mapIter m' since seen.toArray stepped)∧(match m with
   |none=>m'=none
   |some id=>∃B',φ id=some B'∧m'=some B'.b)
 |.loop st pend tm ps asg body d=>∃L,w.heap[B.b]? =some (.loop L)∧LRel P φ st pend tm ps asg body d L
 |.dfd=>w.heap[B.b]? =some (.deferred (some []))
 |.dfd0=>w.heap[B.b]? =some (.deferred none)
 |.giv cells=>∃c e fr,w.heap[B.b]? =some (.cells c e fr)∧B.o+cells.length≤c.size∧VRL φ cells ((c.toList.drop B.o).take cells.length)
 |.app e cells=>∃c fr,w.heap[B.b]? =some (.cells c e fr)∧c.size=B.o+B.tot∧cells.length≤B.tot∧VRL φ cells ((c.toList.drop B.o).take cells.length)∧fr.1≤fr.2∧fr.2≤B.o+cells.length
def SepOf(o:AObj)(B:Blk)(z:Nat→Nat→Option Value):Prop:=
 match o with
 |.giv _=>True
 |.app _ cells=>∀i,B.o+cells.length≤i→z B.b i=none
 |_=>∀i,z B.b i=none
theorem SepOf.all{B:Blk}{z:Nat→Nat→Option Value}(h:SepOf o B z)(hng:qG o=false)(hna:Kk o=false):∀i,z B.b i=none:=by
 cases o<;>simp only[SepOf]at h<;>first|exact h|(cases hng;done)|(cases hna;done)
theorem SepOf.of_all{B:Blk}{z:Nat→Nat→Option Value}(h:∀i,z B.b i=none):SepOf o B z:=by
 cases o<;>simp only[SepOf]<;>first|exact h|exact fun i _=>h i
theorem SepOf.congr{B:Blk}{z z':Nat→Nat→Option Value}(h:SepOf o B z)(hz:∀i,z' B.b i=z B.b i):SepOf o B z':=by
 cases o<;>simp only[SepOf]at h⊢<;>intros<;>rw[hz]<;>first|exact h _|exact h _ ‹_›
theorem TmRel.mono(h:Sub φ φ'){tmps:Array Value}(t:TmRel φ tm tmps):TmRel φ' tm tmps:=
 fun i v hi=>VR.mono h v _ (t i v hi)
theorem EntRel.mono{φ φ':Phi}(h:Sub φ φ'):∀{l:List (AV×AV×Nat)} {es:List MapEntry},EntRel φ l es→EntRel φ' l es
 |[],_,t=>t
 |p::r,_,t=>by
  obtain⟨e,es',rfl,h1,h2,h3,h4⟩:=t;exact⟨e,es',rfl,VR.mono h _ _ h1,VR.mono h _ _ h2,h3,EntRel.mono h h4⟩
theorem URel.mono{φ φ':Phi}(h:Sub φ φ'):∀{l:List (Int×AV)} {es:List MapEntry},URel φ l es→URel φ' l es
 |[],_,t=>t
 |p::r,_,t=>by
  obtain⟨e,es',rfl,h1,h2,h3⟩:=t;exact⟨e,es',rfl,h1,VR.mono h _ _ h2,URel.mono h h3⟩
theorem UMap.mono(h:Sub φ φ'){es:List (Int×AV)}{ents:Array MapEntry}{clk:Nat}(t:UMap φ es ents clk):UMap φ' es ents clk:=
 let ⟨l,h1,h2,h3⟩:=t;⟨l,h1,h2.mono h,h3⟩
theorem LRel.mono{P:Program}(h:Sub φ φ'){st:LSt}{pend:Option Res}{ps:List Nat}{asg body:ICode}{d:Nat}{L:Loop}(t:LRel P φ st pend tm ps asg body d L):LRel P φ' st pend tm ps asg body d L:=
 {t with tm:=t.tm.mono h,df:=let ⟨B,hB,e⟩:=t.df;⟨B,h _ _ hB,e⟩}
theorem ObjRel.keep{P:Program}(h:Sub φ φ'){B:Blk}(hw:w'.heap[B.b]? =w.heap[B.b]?)(t:ObjRel P φ w o B):ObjRel P φ' w' o B:=by
 cases o<;>simp only[ObjRel]at t⊢
 case row e cells ext fz=>obtain⟨c,fr,h1,h2,h3,h4,h5,h6⟩:=t;exact⟨c,fr,hw.trans h1,h2,h3,h4,VRL.mono h _ _ h5,h6⟩
 case map es clock=>obtain⟨ents,h1,h2⟩:=t;exact⟨ents,hw.trans h1,h2.mono h⟩
 case umap es=>obtain⟨ents,clk,h1,h2⟩:=t;exact⟨ents,clk,hw.trans h1,h2.mono h⟩
 case siter s pos=>obtain⟨h0,bs,h1,h2⟩:=t;exact⟨h0,bs,hw.trans h1,h2⟩
 case miter m since seen stepped=>
  obtain⟨h0,m',h1,h2⟩:=t;refine⟨h0,m',hw.trans h1,?_⟩;cases m with
  |none=>exact h2
  |some id=>obtain⟨B',hB,e⟩:=h2;exact⟨B',h _ _ hB,e⟩
 case loop st pend tm ps asg body d=>obtain⟨L,h1,h2⟩:=t;exact⟨L,hw.trans h1,h2.mono h⟩
 case dfd=>exact hw.trans t
 case dfd0=>exact hw.trans t
 case giv cells=>obtain⟨c,e,fr,h1,h2,h3⟩:=t;exact⟨c,e,fr,hw.trans h1,h2,VRL.mono h _ _ h3⟩
 case app e cells=>obtain⟨c,fr,h1,h2,h3,h4,h5⟩:=t;exact⟨c,fr,hw.trans h1,h2,h3,VRL.mono h _ _ h4,h5⟩
structure Rel(P:Program)(w0:World)(φ:Phi)(G:Nat→Option AObj)(w:World):Prop where
 base:Below w0.heap.size w0 w
 obj:∀id o,G id=some o→∃B,φ id=some B∧ObjRel P φ w o B
 rng:∀id B,φ id=some B→B.b<w.heap.size
 old:∀id o B,G id=some o→φ id=some B→B.b<w0.heap.size→qG o=true
 inj:∀id id' o o' B B',G id=some o→G id'=some o'→φ id=some B→φ id'=some B'→B.b=B'.b→id=id'∨B.b<w0.heap.size
 frz:∀b o v,φ.z b o=some v→∃c e fr,w.heap[b]? =some (.cells c e fr)∧c[o]? =some v
 sep:∀id o B,G id=some o→φ id=some B→SepOf o B φ.z
theorem Rel.new{P:Program}{G:Nat→Option AObj}(r:Rel P w0 φ G w){B:Blk}(hg:G id=some o)(hB:φ id=some B)(hng:qG o=false):w0.heap.size≤B.b:=by
 apply Nat.le_of_not_lt;intro h;rw[r.old id o B hg hB h]at hng;cases hng
theorem Rel.sub{P:Program}{G G':Nat→Option AObj}(h:∀id o,G' id=some o→G id=some o)(r:Rel P w0 φ G w):Rel P w0 φ G' w:=
 ⟨r.base,fun id o ho=>r.obj id o (h id o ho),r.rng,fun id o B ho=>r.old id o B (h id o ho),fun id id' o o' B B' h1 h2=>r.inj id id' o o' B B' (h _ _ h1) (h _ _ h2),r.frz,fun id o B ho=>r.sep id o B (h id o ho)⟩
theorem Rel.zlt{P:Program}{G:Nat→Option AObj}(r:Rel P w0 φ G w){b o:Nat}{v:Value}(h:φ.z b o=some v):b<w.heap.size:=by
 obtain⟨c,e,fr,h1,_⟩:=r.frz b o v h;apply Nat.lt_of_not_le;intro hle;rw[Array.getElem?_eq_none hle]at h1;cases h1
theorem Rel.congr{P:Program}{G:Nat→Option AObj}(hh:w'.heap=w.heap)(ho:w'.os=w.os)(ht:w'.tape=w.tape)(hu:w'.output=w.output)(r:Rel P w0 φ G w):Rel P w0 φ G w':=
 ⟨⟨ho.trans r.base.os,ht.trans r.base.tape,hu.trans r.base.output,by rw[hh];exact r.base.size,fun k hk=>by rw[hh];exact r.base.block k hk⟩,
  fun id o h=>let ⟨B,hB,t⟩:=r.obj id o h;⟨B,hB,ObjRel.keep (Sub.refl _) (by rw[hh]) t⟩,by rw[hh];exact r.rng,r.old,r.inj,by rw[hh];exact r.frz,r.sep⟩
structure Wf(s:St):Prop where
 lt:∀id o,s.objs.get id=some o→id<s.next
 hd:∀p∈s.hide,p.2≤s.next
theorem wa(h:s.get id=some o):s.objs.get id=some o:=by
 unfold St.get at h;cases ho:s.only with
 |none=>
  rw[ho]at h;simp only at h;cases hh:hid s.hide id<;>rw[hh]at h<;>simp at h
  exact h
 | some p=>
  rw[ho]at h;simp only at h;cases hh:hid s.hide id<;>rw[hh]at h<;>simp at h
  cases hb:zd p.1 id<;>rw[hb]at h<;>simp at h
  ·cases hm:pI id p.2<;>rw[hm]at h<;>simp at h
   exact h
  ·exact h
def seen(s:St)(id:Nat):Bool:=
 match s.only with
 |none=> !hid s.hide id
 |some p=> !hid s.hide id&&(zd p.1 id||pI id p.2)
theorem uF(s:St)(id:Nat):s.get id=if seen s id then s.objs.get id else none:=by
 unfold St.get seen;cases s.only with
 |none=>cases hid s.hide id<;>simp
 |some p=>
  show (bif hid s.hide id then none else bif zd p.1 id then s.objs.get id else bif pI id p.2 then s.objs.get id else none)=if (!hid s.hide id&&(zd p.1 id||pI id p.2))=true then s.objs.get id else none
  generalize zd p.1 id=b1;generalize pI id p.2=b2;cases hid s.hide id<;>cases b1<;>cases b2<;>rfl
theorem qm(h:s.get id=some o):seen s id=true:=by
 rw[uF]at h;cases hs:seen s id with
 |true=>rfl
 |false=>rw[hs]at h;simp at h
theorem qY(h1:s'.hide=s.hide)(h2:s'.only=s.only)(id:Nat):seen s' id=seen s id:=by unfold seen;rw[h1,h2]
structure Ext(s s':St):Prop where
 next:s.next≤s'.next
 wm:∀i,s.wm.testBit i=true→s'.wm.testBit i=true
 hide:s'.hide=s.hide
 only:s'.only=s.only
 keep:∀id,id<s.next→s'.wm.testBit id=false→s'.objs.get id=s.objs.get id
 vis:∀id o,id<s.next→s'.objs.get id=some o→∃o',s.objs.get id=some o'
 wf:Wf s→Wf s'
 wv:∀id,id<s.next→s'.wm.testBit id=true→s.wm.testBit id=true∨seen s id=true
 giv:∀id o,id<s.next→s.objs.get id=some o→qG o=true→s'.wm.testBit id=true→s.wm.testBit id=true
theorem Ext.refl(s:St):Ext s s:=⟨zo _,fun _ h=>h,rfl,rfl,fun _ _ _=>rfl,fun _ o _ h=>⟨o,h⟩,fun h=>h,fun _ _ h=>.inl h,fun _ _ _ _ _ h=>h⟩
theorem Ext.trans{s'':St}(h:Ext s s')(h':Ext s' s''):Ext s s'':=
 ⟨zr h.next h'.next,fun i hi=>h'.wm i (h.wm i hi),h'.hide.trans h.hide,h'.only.trans h.only,
  fun id hid hw=>by
  have hw':s'.wm.testBit id=false:=by
   cases hb:s'.wm.testBit id with
   |false=>rfl
   |true=>rw[h'.wm id hb]at hw;exact hw
  exact(h'.keep id (zk hid h.next) hw).trans (h.keep id hid hw'),
  fun id o hid ho=>let ⟨o',ho'⟩:=h'.vis id o (zk hid h.next) ho;h.vis id o' hid ho',fun hw=>h'.wf (h.wf hw),
  fun id hid hw=>by
  rcases h'.wv id (zk hid h.next) hw with h1|h1
  ·exact h.wv id hid h1
  ·rw[qY h.hide h.only]at h1;exact .inr h1,
  fun id o hid ho hgo hb=>by
  cases hw:s'.wm.testBit id with
  |true=>exact h.giv id o hid ho hgo hw
  |false=>
   have:=h'.giv id o (zk hid h.next) ((h.keep id hid hw).trans ho) hgo hb
   rw[hw]at this;cases this⟩
theorem Ext.get_vis(h:Ext s s')(hid:id<s.next)(hg:s'.get id=some o):∃o',s.get id=some o':=by
 obtain⟨o',ho'⟩:=h.vis id o hid (wa hg);refine⟨o',?_⟩;rw[uF,←qY h.hide h.only,qm hg];exact ho'
structure Step(P:Program)(w0:World)(φ:Phi)(s:St)(w:World)(φ':Phi)(s':St)(w':World):Prop where
 ext:Ext s s'
 rel:Rel P w0 φ' s'.get w'
 same:∀id,(id<s.next∨s'.next≤id)→φ' id=φ id
 size:w.heap.size≤w'.heap.size
 frame:∀b,b<w.heap.size→(∀id o B,s.get id=some o→φ id=some B→B.b=b→s'.wm.testBit id=false)→w'.heap[b]? =w.heap[b]?
 own:∀id B,s.next≤id→id<s'.next→φ' id=some B→w.heap.size≤B.b∨∃id0 o0 B0,s.get id0=some o0∧φ id0=some B0∧B0.b=B.b∧s'.wm.testBit id0=true
 zsub:∀b o v,φ.z b o=some v→φ'.z b o=some v
 zown:∀b o v,φ'.z b o=some v→φ.z b o=some v∨w.heap.size≤b∨∃id0 o0 B0,s.get id0=some o0∧φ id0=some B0∧B0.b=b∧s'.wm.testBit id0=true
theorem Step.refl{P:Program}(r:Rel P w0 φ s.get w):Step P w0 φ s w φ s w:=
 ⟨Ext.refl s,r,fun _ _=>rfl,zo _,fun _ _ _=>rfl,fun id _ h1 h2=>absurd h2 oM,fun _ _ _ h=>h,fun _ _ _ h=>.inl h⟩
theorem Step.sub{P:Program}(h:Step P w0 φ s w φ' s' w')
  (hf:∀id,s.next≤id→φ id=none):Sub φ φ':=⟨fun id B hB=>by
 by_cases h1:id<s.next
 ·rw[h.same id (.inl h1)];exact hB
 ·by_cases h2:id<s'.next
  ·rw[hf id oM]at hB;cases hB
  ·rw[h.same id (.inr oM)];exact hB,h.zsub⟩
theorem zod(h:Ext s s')(hw:s'.wm.testBit id=false):s.wm.testBit id=false:=by
 cases hb:s.wm.testBit id with
 |false=>rfl
 |true=>rw[h.wm id hb]at hw;exact hw
theorem Step.trans{P:Program}{φ1 φ2:Phi}{s1 s2:St}{w1 w2:World}(hwf:Wf s)(h:Step P w0 φ s w φ1 s1 w1)(h':Step P w0 φ1 s1 w1 φ2 s2 w2):
  Step P w0 φ s w φ2 s2 w2 where
 ext:=h.ext.trans h'.ext
 rel:=h'.rel
 same:=fun id hid=>by
  have:=h.ext.next;have:=h'.ext.next
  rcases hid with hid|hid
  ·exact(h'.same id (.inl oM)).trans (h.same id (.inl hid))
  ·exact(h'.same id (.inr hid)).trans (h.same id (.inr oM))
 size:=zr h.size h'.size
 frame:=fun b hb H=>by
  have e1:=h.frame b hb fun id o B ho hB e=>zod h'.ext (H id o B ho hB e);refine(h'.frame b (zk hb h.size) fun id o B ho hB e=>?_).trans e1;have hlt:id<s1.next:=(h.ext.wf hwf).lt id o (wa ho)
  by_cases h1:id<s.next
  ·obtain⟨o',ho'⟩:=h.ext.get_vis h1 ho;exact H id o' B ho' ((h.same id (.inl h1))▸hB) e
  ·rcases h.own id B oM hlt hB with hsz|⟨id0,o0,B0,g0,p0,e0,m0⟩
   ·omega
   ·have:=H id0 o0 B0 g0 p0 (e0.trans e);rw[h'.ext.wm id0 m0]at this;cases this
 own :=fun id B h1 h2 hB=>by
  by_cases hlt:id<s1.next
  ·rw[h'.same id (.inl hlt)]at hB;rcases h.own id B h1 hlt hB with hsz|⟨id0,o0,B0,g0,p0,e0,m0⟩
   ·exact .inl hsz
   ·exact .inr ⟨id0,o0,B0,g0,p0,e0,h'.ext.wm id0 m0⟩
  ·rcases h'.own id B oM h2 hB with hsz|⟨id0,o0,B0,g0,p0,e0,m0⟩
   ·exact .inl (zr h.size hsz)
   ·have hlt0:id0<s1.next:=(h.ext.wf hwf).lt id0 o0 (wa g0)
    by_cases h3:id0<s.next
    ·obtain⟨o',ho'⟩:=h.ext.get_vis h3 g0;exact .inr ⟨id0,o',B0,ho',(h.same id0 (.inl h3))▸p0,e0,m0⟩
    ·rcases h.own id0 B0 oM hlt0 p0 with hsz|⟨id1,o1,B1,g1,p1,e1,m1⟩
     ·exact .inl oM
     ·exact .inr ⟨id1,o1,B1,g1,p1,e1.trans e0,h'.ext.wm id1 m1⟩
 zsub:=fun b o v hz=>h'.zsub b o v (h.zsub b o v hz)
 zown:=fun b o v hz=>by
  rcases h'.zown b o v hz with hz1|hsz|⟨id0,o0,B0,g0,p0,e0,m0⟩
  ·rcases h.zown b o v hz1 with hz2|hsz|⟨id0,o0,B0,g0,p0,e0,m0⟩
   ·exact .inl hz2
   ·exact .inr (.inl hsz)
   ·exact .inr (.inr ⟨id0,o0,B0,g0,p0,e0,h'.ext.wm id0 m0⟩)
  ·exact .inr (.inl (zr h.size hsz))
  ·have hlt0:id0<s1.next:=(h.ext.wf hwf).lt id0 o0 (wa g0)
   by_cases h3:id0<s.next
   ·obtain⟨o',ho'⟩:=h.ext.get_vis h3 g0;exact .inr (.inr ⟨id0,o',B0,ho',(h.same id0 (.inl h3))▸p0,e0,m0⟩)
   ·rcases h.own id0 B0 oM hlt0 p0 with hsz|⟨id1,o1,B1,g1,p1,e1,m1⟩
    ·exact .inr (.inl oM)
    ·exact .inr (.inr ⟨id1,o1,B1,g1,p1,e1.trans e0,h'.ext.wm id1 m1⟩)
theorem wJ(m id i:Nat):(uG m id).testBit i=(m.testBit i||decide (i=id)):=by
 show (m|||1<<<id).testBit i=_
 rw[Nat.testBit_or,Nat.testBit_shiftLeft];by_cases h:i=id
 ·subst h;simp
 ·by_cases h2:i≥id
  ·simp only[h2,decide_true,Bool.true_and,h,decide_false,Bool.or_false];have:(1:Nat).testBit (i-id)=false:=by
    obtain⟨k,hk⟩:∃k,i-id=k+1:=⟨i-id-1,oM⟩;rw[hk,Nat.testBit_succ];simp
   rw[this];simp
  ·simp[h2,h]
def Phi.set(φ:Phi)(id:Nat)(B:Blk):Phi:=⟨fun i=>if i=id then some B else φ i,φ.z⟩
theorem Phi.set_sub{B:Blk}(h:φ id=none):Sub φ (φ.set id B):=⟨fun i B' hB=>by
 show (if i=id then some B else φ i)=some B';by_cases e:i=id
 ·subst e;rw[h]at hB;cases hB
 ·rw[if_neg e];exact hB,fun _ _ _ h=>h⟩
def Phi.cut(φ:Phi)(n:Nat):Phi:=⟨fun i=>if i<n then φ i else none,φ.z⟩
theorem Phi.cut_lt(φ:Phi){i:Nat}(h:i<n):φ.cut n i=φ i:=if_pos h
theorem Phi.cut_ge(φ:Phi){i:Nat}(h:n≤i):φ.cut n i=none:=if_neg oM
theorem Phi.cut_some{i:Nat}{B:Blk}(h:φ.cut n i=some B):i<n∧φ i=some B:=by
 have h':(if i<n then φ i else none)=some B:=h;by_cases e:i<n
 ·rw[if_pos e]at h';exact⟨e,h'⟩
 ·rw[if_neg e]at h';cases h'
theorem Phi.cut_sub(φ:Phi)(n:Nat):Sub (φ.cut n) φ:=⟨fun _ _ h=>(Phi.cut_some h).2,fun _ _ _ h=>h⟩
theorem Sub.cut(h:Sub φ φ'){m:Nat}(hn:n≤m):Sub (φ.cut n) (φ'.cut m):=
 ⟨fun i B hB=>by obtain⟨h1,h2⟩:=Phi.cut_some hB;rw[Phi.cut_lt _ oM];exact h.of _ _ h2,h.z⟩
theorem Sub.to_cut(h:Sub φ φ')(ht:∀i,n≤i→φ i=none):Sub φ (φ'.cut n):=
 ⟨fun i B hB=>by
  have hlt:i<n:=by apply Nat.lt_of_not_le;intro hle;rw[ht i hle]at hB;cases hB
  rw[Phi.cut_lt _ hlt];exact h.of _ _ hB,h.z⟩
def Phi.merge(φ:Phi)(a b:Nat)(ψ:Phi):Phi:=⟨fun id=>if a≤id∧id<b then ψ id else φ id,ψ.z⟩
theorem Phi.merge_in(φ:Phi){a b:Nat}(ψ:Phi)(h:a≤id∧id<b):φ.merge a b ψ id=ψ id:=if_pos h
theorem Phi.merge_out(φ:Phi){a b:Nat}(ψ:Phi)(h:id<a∨b≤id):φ.merge a b ψ id=φ id:=if_neg oM
def Phi.zset(φ:Phi)(z:Nat→Nat→Option Value):Phi:=⟨φ.m,z⟩
theorem kC(s:St)(o:AObj):Ext s (s.alloc o) where
 next:=Nat.le_succ _
 wm:=fun _ h=>h
 hide:=rfl
 only:=rfl
 keep:=fun id h _=>Trie.get_set_ne _ _ oM
 vis:=fun id o' h h'=>⟨o',by rw[show (s.alloc o).objs=s.objs.set s.next o from rfl,Trie.get_set_ne _ _ oM]at h';exact h'⟩
 wf:=fun h=>⟨fun id o' h'=>by
  rw[show (s.alloc o).objs=s.objs.set s.next o from rfl,Trie.get_set]at h'
  show id<Nat.succ s.next
  by_cases e:id=s.next
  ·omega
  ·rw[if_neg e]at h';have:=h.lt id o' h';omega,fun p hp=>Nat.le_succ_of_le (h.hd p hp)⟩
 wv:=fun _ _ h=>.inl h
 giv:=fun _ _ _ _ _ h=>h
theorem zxv(s:St)(id:Nat)(o o':AObj)(hg:s.objs.get id=some o)(hs:seen s id=true)(hng:qG o=false):Ext s (s.put id o') where
 giv:=fun i x _ hx hgx hw=>by
  have:(uG s.wm id).testBit i=true:=hw;rw[wJ,zm,decide_eq_true_eq]at this;rcases this with h1|h1
  ·exact h1
  ·subst h1;rw[hg]at hx;cases hx;rw[hng]at hgx;cases hgx
 next:=zo _
 wm:=fun i h=>by show (uG s.wm id).testBit i=true;rw[wJ,h];rfl
 hide:=rfl
 only:=rfl
 keep:=fun i _ hw=>by
  have:(uG s.wm id).testBit i=false:=hw;rw[wJ]at this;exact Trie.get_set_ne _ _ (by intro e;simp[e]at this)
 vis:=fun i x _ hx=>by
  by_cases e:i=id
  ·exact⟨o,e▸hg⟩
  ·exact⟨x,by rw[show (s.put id o').objs=s.objs.set id o' from rfl,Trie.get_set_ne _ _ e]at hx;exact hx⟩
 wf:=fun h=>⟨fun i x hx=>by
  by_cases e:i=id
  ·exact e▸h.lt id o hg
  ·rw[show (s.put id o').objs=s.objs.set id o' from rfl,Trie.get_set_ne _ _ e]at hx;exact h.lt i x hx,h.hd⟩
 wv:=fun i _ hw=>by
  have:(uG s.wm id).testBit i=true:=hw;rw[wJ,zm,decide_eq_true_eq]at this;rcases this with h1|h1
  ·exact .inl h1
  ·rw[h1];exact .inr hs
theorem GJ(s:St)(id:Nat)(hg:s.objs.get id=some o)(hs:seen s id=true)(hng:qG o=false):Ext s (s.del id) where
 giv:=fun i x _ hx hgx hw=>by
  have:(uG s.wm id).testBit i=true:=hw;rw[wJ,zm,decide_eq_true_eq]at this;rcases this with h1|h1
  ·exact h1
  ·subst h1;rw[hg]at hx;cases hx;rw[hng]at hgx;cases hgx
 next:=zo _
 wm:=fun i h=>by show (uG s.wm id).testBit i=true;rw[wJ,h];rfl
 hide:=rfl
 only:=rfl
 keep:=fun i _ hw=>by
  have:(uG s.wm id).testBit i=false:=hw;rw[wJ]at this;rw[show (s.del id).objs=s.objs.del id from rfl,Trie.get_del,if_neg (by intro e;simp[e]at this)]
 vis:=fun i x _ hx=>by
  rw[show (s.del id).objs=s.objs.del id from rfl,Trie.get_del]at hx;by_cases e:i=id
  ·rw[if_pos e]at hx;cases hx
  ·rw[if_neg e]at hx;exact⟨x,hx⟩
 wf:=fun h=>⟨fun i x hx=>by
  rw[show (s.del id).objs=s.objs.del id from rfl,Trie.get_del]at hx;by_cases e:i=id
  ·rw[if_pos e]at hx;cases hx
  ·rw[if_neg e]at hx;exact h.lt i x hx,h.hd⟩
 wv:=fun i _ hw=>by
  have:(uG s.wm id).testBit i=true:=hw;rw[wJ,zm,decide_eq_true_eq]at this;rcases this with h1|h1
  ·exact .inl h1
  ·rw[h1];exact .inr hs
theorem Step.allocZ{P:Program}(r:Rel P w0 φ s.get w)(_hwf:Wf s)(hf:φ s.next=none){x:Obj}{tot:Nat}{z:Nat→Nat→Option Value}
  (hh:w'.heap=w.heap.push x) (hos:w'.os=w.os) (ht:w'.tape=w.tape) (hu:w'.output=w.output)
  (hz1:∀b,b≠w.heap.size→∀i,z b i=φ.z b i) (hz2:∀i v,z w.heap.size i=some v→∃c e fr,x=.cells c e fr∧c[i]? =some v) (hsep:SepOf o ⟨w.heap.size,0,tot⟩ z)
  (ho:ObjRel P ((φ.set s.next ⟨w.heap.size,0,tot⟩).zset z) w' o ⟨w.heap.size,0,tot⟩):
  Step P w0 φ s w ((φ.set s.next ⟨w.heap.size,0,tot⟩).zset z) (s.alloc o) w':=by
 have hzs:∀b i v,φ.z b i=some v→z b i=some v:=fun b i v h=>by
  have:=r.zlt h;rw[hz1 b oM];exact h
 have hsub:Sub φ ((φ.set s.next ⟨w.heap.size,0,tot⟩).zset z):=⟨(Phi.set_sub (B:=⟨w.heap.size,0,tot⟩) hf).of,hzs⟩
 have hold:∀b,b<w.heap.size→w'.heap[b]? =w.heap[b]? :=fun b hb=>by rw[hh,Array.getElem?_push_lt hb,Array.getElem?_eq_getElem hb]
 have hsz:w'.heap.size=w.heap.size+1:=by rw[hh,Array.size_push]
 have hget:∀id o',(s.alloc o).get id=some o'→(id=s.next∧o'=o)∨(id≠s.next∧s.get id=some o'):=fun id o' hg=>by
  have h1:=wa hg;rw[show (s.alloc o).objs=s.objs.set s.next o from rfl,Trie.get_set]at h1
  by_cases e:id=s.next
  ·rw[if_pos e]at h1;exact .inl ⟨e,by cases h1;rfl⟩
  ·rw[if_neg e]at h1;refine .inr ⟨e,?_⟩;have:=qm hg;rw[qY (s:=s) (s':=s.alloc o) rfl rfl]at this;rw[uF,this];exact h1
 refine⟨kC s o,⟨?_,?_,?_,?_,?_,?_,?_⟩,?_,oM,?_,?_,hzs,?_⟩
 ·exact⟨hos.trans r.base.os,ht.trans r.base.tape,hu.trans r.base.output,by have:=r.base.size;omega,fun k hk=>(hold k (by have:=r.base.size;omega)).trans (r.base.block k hk)⟩
 ·intro id o' hg;rcases hget id o' hg with ⟨rfl,rfl⟩|⟨e,hg'⟩
  ·exact⟨_,if_pos rfl,ho⟩
  ·obtain⟨B,hB,t⟩:=r.obj id o' hg';exact⟨B,hsub _ _ hB,t.keep hsub (hold _ (r.rng _ _ hB))⟩
 ·intro id B hB;have hB':(if id=s.next then some ⟨w.heap.size,0,tot⟩else φ id)=some B:=hB
  by_cases e:id=s.next
  ·rw[if_pos e]at hB';cases hB';simp only;omega
  ·rw[if_neg e]at hB';have:=r.rng id B hB';omega
 ·intro id o' B hg hB hlt;rcases hget id o' hg with ⟨rfl,rfl⟩|⟨e,hg'⟩
  ·rw[show ((φ.set s.next _).zset z) s.next=some ⟨w.heap.size,0,tot⟩from if_pos rfl]at hB;cases hB
   have:=r.base.size;simp at hlt;omega
  ·rw[show ((φ.set s.next _).zset z) id=φ id from if_neg e]at hB
   exact r.old id o' B hg' hB hlt
 ·intro id id' o1 o2 B B' h1 h2 hB hB' e;rcases hget id o1 h1 with ⟨rfl,rfl⟩|⟨n1,g1⟩<;>rcases hget id' o2 h2 with ⟨rfl,rfl⟩|⟨n2,g2⟩
  ·exact .inl rfl
  ·rw[show ((φ.set s.next _).zset z) s.next=some ⟨w.heap.size,0,tot⟩from if_pos rfl]at hB;cases hB
   rw[show ((φ.set s.next _).zset z) id'=φ id' from if_neg n2]at hB'
   have:=(r.rng id' B' hB');simp at e;omega
  ·rw[show ((φ.set s.next _).zset z) s.next=some ⟨w.heap.size,0,tot⟩from if_pos rfl]at hB';cases hB'
   rw[show ((φ.set s.next _).zset z) id=φ id from if_neg n1]at hB
   have:=(r.rng id B hB);simp at e;omega
  ·rw[show ((φ.set s.next _).zset z) id'=φ id' from if_neg n2]at hB'
   rw[show ((φ.set s.next _).zset z) id=φ id from if_neg n1]at hB
   exact r.inj id id' o1 o2 B B' g1 g2 hB hB' e
 ·intro b i v hv;have hv':z b i=some v:=hv;by_cases e:b=w.heap.size
  ·subst e;obtain⟨c,e,fr,rfl,hc⟩:=hz2 i v hv';exact⟨c,e,fr,by rw[hh];simp,hc⟩
  ·rw[hz1 b e]at hv';obtain⟨c,e1,fr,h1,h2⟩:=r.frz b i v hv';exact⟨c,e1,fr,(hold b (r.zlt hv')).trans h1,h2⟩
 ·intro id o' B hg hB;rcases hget id o' hg with ⟨rfl,rfl⟩|⟨e,hg'⟩
  ·rw[show ((φ.set s.next _).zset z) s.next=some ⟨w.heap.size,0,tot⟩from if_pos rfl]at hB;cases hB
   exact hsep
  ·rw[show ((φ.set s.next _).zset z) id=φ id from if_neg e]at hB
   have:=r.rng id B hB;exact(r.sep id o' B hg' hB).congr (fun i=>hz1 B.b oM i)
 ·intro id hid;have hid':id<s.next∨s.next+1≤id:=hid
  exact if_neg oM
 ·intro b hb _;exact hold b hb
 ·intro id B h1 h2 hB;have h2':id<s.next+1:=h2
  have e:id=s.next:=oM
  subst e;rw[show ((φ.set s.next _).zset z) s.next=some ⟨w.heap.size,0,tot⟩from if_pos rfl]at hB;cases hB
  exact .inl (zo _)
 ·intro b i v hv;have hv':z b i=some v:=hv;by_cases e:b=w.heap.size
  ·exact .inr (.inl oM)
  ·rw[hz1 b e]at hv';exact .inl hv'
theorem Step.alloc{P:Program}(r:Rel P w0 φ s.get w)(hwf:Wf s)(hf:φ s.next=none){x:Obj}{tot:Nat}
  (hh:w'.heap=w.heap.push x) (hos:w'.os=w.os) (ht:w'.tape=w.tape) (hu:w'.output=w.output)
  (ho:ObjRel P (φ.set s.next ⟨w.heap.size,0,tot⟩) w' o ⟨w.heap.size,0,tot⟩):
  Step P w0 φ s w (φ.set s.next ⟨w.heap.size,0,tot⟩) (s.alloc o) w':=by
 have hz:∀i,φ.z w.heap.size i=none:=fun i=>by
  cases h:φ.z w.heap.size i with
  |none=>rfl
  |some v=>have:=r.zlt h;omega
 exact Step.allocZ (z:=φ.z) r hwf hf hh hos ht hu (fun _ _ _=>rfl) (fun i v h=>by rw[hz i]at h;cases h) (SepOf.of_all hz) ho
def Phi.znew(φ:Phi)(b:Nat)(c:Array Value):Nat→Nat→Option Value:=fun b' i=>if b'=b then c[i]? else φ.z b' i
theorem Phi.znew_zc(φ φ1:Phi)(b:Nat)(c:Array Value)(h:φ1.z=φ.znew b c):ZC φ1 b 0 c.toList:=
 ZC.of fun i y hi=>by
  rw[h,Nat.zero_add];show (if b=b then c[i]? else φ.z b i)=some y;rw[if_pos rfl];simpa using hi
theorem Step.frozen{P:Program}(r:Rel P w0 φ s.get w){c:Array Value}{e:TypeId}{fr:Nat×Nat}
  (hold:∀b,b<w.heap.size→w'.heap[b]? =w.heap[b]?) (hsz:w'.heap.size=w.heap.size+1) (hnw:w'.heap[w.heap.size]? =some (.cells c e fr)) (hos:w'.os=w.os) (ht:w'.tape=w.tape) (hu:w'.output=w.output):
  Step P w0 φ s w (φ.zset (φ.znew w.heap.size c)) s w':=by
 have hzs:∀b i v,φ.z b i=some v→φ.znew w.heap.size c b i=some v:=fun b i v h=>by
  have:=r.zlt h;unfold Phi.znew;rw[if_neg oM];exact h
 have hsub:Sub φ (φ.zset (φ.znew w.heap.size c)):=⟨fun _ _ h=>h,hzs⟩;refine⟨Ext.refl s,⟨?_,?_,?_,r.old,r.inj,?_,?_⟩,fun _ _=>rfl,oM,fun b hb _=>hold b hb,fun id _ h1 h2=>absurd h2 oM,hzs,?_⟩
 ·exact⟨hos.trans r.base.os,ht.trans r.base.tape,hu.trans r.base.output,by have:=r.base.size;omega,fun k hk=>(hold k (by have:=r.base.size;omega)).trans (r.base.block k hk)⟩
 ·intro id o hg;obtain⟨B,hB,t⟩:=r.obj id o hg;exact⟨B,hB,t.keep hsub (hold _ (r.rng _ _ hB))⟩
 ·intro id B hB;have:B.b<w.heap.size:=r.rng id B hB;omega
 ·intro b i v hv;have hv':(if b=w.heap.size then c[i]? else φ.z b i)=some v:=hv;by_cases eb:b=w.heap.size
  ·rw[if_pos eb]at hv';exact⟨c,e,fr,by rw[eb];exact hnw,hv'⟩
  ·rw[if_neg eb]at hv';obtain⟨c',e1,fr',h1,h2⟩:=r.frz b i v hv';exact⟨c',e1,fr',(hold b (r.zlt hv')).trans h1,h2⟩
 ·intro id o B hg hB;have:=r.rng id B hB;exact(r.sep id o B hg hB).congr (fun i=>by show (if B.b=w.heap.size then c[i]? else φ.z B.b i)=φ.z B.b i;rw[if_neg oM])
 ·intro b i v hv;have hv':(if b=w.heap.size then c[i]? else φ.z b i)=some v:=hv;by_cases eb:b=w.heap.size
  ·exact .inr (.inl oM)
  ·rw[if_neg eb]at hv';exact .inl hv'
theorem VR.frozen{φ1:Phi}{b k:Nat}{ex:Bool}{cs:List AV}{c:Array Value}(hz:φ1.z=φ.znew b c)(hp:xN cs=true)(hs:∀b o v,φ.z b o=some v→φ1.z b o=some v)(hk:n≤k)(hex:ex=true→k=n){m:Nat}(h:VRL φ cs (c.toList.take m)):
  VR φ1 (.lst n ex cs) (.slice (some ⟨b,0,none⟩) n k):=by
 simp only[VR];exact⟨hp,.inr ⟨b,0,k,c.toList.take m,rfl,hex,hk,(Phi.znew_zc φ φ1 b c hz).take m,VRL.pure hs cs _ hp h⟩⟩
theorem Step.put{P:Program}(r:Rel P w0 φ s.get w){o':AObj}{B:Blk}(hg:s.get id=some o)(hB:φ id=some B)
  (hother:∀b,b≠B.b→w'.heap[b]? =w.heap[b]?) (hsz:w'.heap.size=w.heap.size) (hos:w'.os=w.os) (ht:w'.tape=w.tape) (hu:w'.output=w.output)
  (ho:ObjRel P φ w' o' B) (hng:qG o=false:=by rfl) (hna:Kk o=false:=by rfl):Step P w0 φ s w φ (s.put id o') w':=by
 have hzn:=(r.sep id o B hg hB).all hng hna;have hnew:=r.new hg hB hng;have hgo:=wa hg;have hget:∀i x,(s.put id o').get i=some x→(i=id∧x=o')∨(i≠id∧s.get i=some x):=fun i x hx=>by
  have h1:=wa hx;rw[show (s.put id o').objs=s.objs.set id o' from rfl,Trie.get_set]at h1;by_cases e:i=id
  ·rw[if_pos e]at h1;exact .inl ⟨e,by cases h1;rfl⟩
  ·rw[if_neg e]at h1;refine .inr ⟨e,?_⟩;have:=qm hx;rw[qY (s:=s) (s':=s.put id o') rfl rfl]at this;rw[uF,this];exact h1
 refine⟨zxv s id o o' hgo (qm hg) hng,⟨?_,?_,?_,?_,?_,?_,?_⟩,fun _ _=>rfl,oM,?_,?_,fun _ _ _ h=>h,fun _ _ _ h=>.inl h⟩
 ·refine⟨hos.trans r.base.os,ht.trans r.base.tape,hu.trans r.base.output,by have:=r.base.size;omega,fun k hk=>?_⟩
  exact(hother k oM).trans (r.base.block k hk)
 ·intro i x hx;rcases hget i x hx with ⟨rfl,rfl⟩|⟨e,hg'⟩
  ·exact⟨B,hB,ho⟩
  ·obtain⟨B',hB',t⟩:=r.obj i x hg';exact⟨B',hB',t.keep (Sub.refl _) (hother _ (fun e'=>(r.inj i id x o B' B hg' hg hB' hB e').elim e (fun h=>oM)))⟩
 ·intro i B' hB';have:=r.rng i B' hB';omega
 ·intro i x B' hx hB' hlt;rcases hget i x hx with ⟨rfl,rfl⟩|⟨e,hg'⟩
  ·rw[hB]at hB';cases hB';omega
  ·exact r.old i x B' hg' hB' hlt
 ·intro i i' x x' B1 B2 h1 h2 hB1 hB2 e;have g1:∃y,s.get i=some y:=by
   rcases hget i x h1 with ⟨rfl,rfl⟩|⟨_,g⟩
   ·exact⟨o,hg⟩
   ·exact⟨x,g⟩
  have g2:∃y,s.get i'=some y:=by
   rcases hget i' x' h2 with ⟨rfl,rfl⟩|⟨_,g⟩
   ·exact⟨o,hg⟩
   ·exact⟨x',g⟩
  obtain⟨y,g1⟩:=g1;obtain⟨y',g2⟩:=g2;exact r.inj i i' y y' B1 B2 g1 g2 hB1 hB2 e
 ·intro b i v hv;obtain⟨c,e,fr,h1,h2⟩:=r.frz b i v hv;exact⟨c,e,fr,(hother b (fun e'=>by subst e';rw[hzn i]at hv;cases hv)).trans h1,h2⟩
 ·intro i x B' hx hB';rcases hget i x hx with ⟨rfl,rfl⟩|⟨e,hg'⟩
  ·rw[hB]at hB';cases hB';exact SepOf.of_all hzn
  ·exact r.sep i x B' hg' hB'
 ·intro b hb H;apply hother;intro e;have:=H id o B hg hB e.symm;have hm:(s.put id o').wm.testBit id=true:=by show (uG s.wm id).testBit id=true;rw[wJ];simp
  rw[hm]at this;cases this
 ·intro i B' h1 h2;have:i<s.next:=h2
  omega
end Go.Proofs.YtbdfljdgapkbcaaGreatDoor.Ev

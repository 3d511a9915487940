/- Part of a verified evaluator of the model's code, generic over the program: a run of the evaluator that answers shows what the model's run answers. No conditions of its own. -/
import Derived.Test.YtbddpjboppmnfaaGreatDoorEvF
import Derived.Attr
import Derived.ChangeArms
import Derived.DataReads
set_option linter.unusedSimpArgs false
set_option linter.unusedVariables false
set_option linter.defProp false
open And renaming intro → xr
open Int renaming reduceNegSucc → xu, reduceOfNat → xw
open Nat renaming beq → zb, ble → ze, mul_one → xC, blt → zg, mul → zc
open List renaming length_nil → xz, length_cons → yb, length_append → yA, cons_append → zM, take_succ_cons → xB, length → xj, drop_succ_cons → xF
open Bool renaming and_self → xA, false_or → xD, not_true → xE
open Classical renaming choose_spec → xg
namespace Go.Proofs.YtbddpjboppmnfaaGreatDoor.Ev
variable {P:Program}{w0 w:World}{E:Env}{O:Orc}{s s':St}{φ:Phi}{v:AV}{b:List Nat}{id n:Nat}{o:AObj}
noncomputable def osA:List (Nat×Option AObj)→Trie AObj
 |[]=>.leaf
 |p::r=>match p.2 with
  |some o=>(osA r).set p.1 o
  |none=>(osA r).del p.1
noncomputable def KL(l:List (Nat×Option AObj))(n m:Nat)(b:Bool)(hd:List (Nat×Nat))(on:Option (Nat×List Nat)):St:={objs:=osA l,next:=n,wm:=m,hide:=hd,only:=on,md:=b}
def xN:List (Nat×Option AObj)→Nat→Option AObj
 |[],_=>none
 |p::r,i=>if i=p.1 then p.2 else xN r i
theorem QP:∀(l:List (Nat×Option AObj)) (i:Nat),(osA l).get i=xN l i
 |[],i=>rfl
 |(j,o)::r,i=>by
  cases o with
  |some o=>simp only[osA,xN];rw[Trie.get_set,QP r i]
  |none=>simp only[osA,xN];rw[Trie.get_del,QP r i]
theorem zr2(i:Nat):xN [] i=none:=rfl
theorem xL(j:Nat)(o:Option AObj)(r:List (Nat×Option AObj))(i:Nat):xN ((j,o)::r) i=if i=j then o else xN r i:=rfl
def WU:Nat→List (Option AObj)→List (Nat×Option AObj)
 |_,[]=>[]
 |n,o::r=>match o with
  |some o=>(n,some o)::WU (n+1) r
  |none=>WU (n+1) r
theorem zv3(n:Nat):WU n []=[]:=rfl
theorem zyC(n:Nat)(o:AObj)(r:List (Option AObj)):WU n (some o::r)=(n,some o)::WU (n+1) r:=rfl
theorem PR:∀(l:List (Option AObj)) (n:Nat),osT n l=osA (WU n l)
 |[],n=>rfl
 |o::r,n=>by cases o<;>simp only[osT,WU,osA]<;>rw[PR r]
theorem zie(os:List (Option AObj))(m:Nat)(b:Bool):H os m b=KL (WU 0 os) os.length m b [] none:=by
 unfold H KL;rw[PR]
theorem zoB(l:List (Nat×Option AObj))(n m:Nat)(b:Bool)(hd:List (Nat×Nat))(on:Option (Nat×List Nat)):(KL l n m b hd on).next=n:=rfl
theorem zjr(l:List (Nat×Option AObj))(n m:Nat)(b:Bool)(hd:List (Nat×Nat))(on:Option (Nat×List Nat)):(KL l n m b hd on).wm=m:=rfl
theorem WD(l:List (Nat×Option AObj))(n m:Nat)(b:Bool)(hd:List (Nat×Nat))(on:Option (Nat×List Nat)):(KL l n m b hd on).md=b:=rfl
theorem wh(l:List (Nat×Option AObj))(n m:Nat)(b:Bool)(i:Nat):(KL l n m b [] none).get i=xN l i:=by
 rw[←QP];rfl
theorem Y1(l:List (Nat×Option AObj))(n m:Nat)(b:Bool)(hd:List (Nat×Nat))(k:Nat)(ks:List Nat)(i:Nat):(KL l n m b hd (some (k,ks))).get i=bif hid hd i then none else bif Nat.ble k i then xN l i else bif pI i ks then xN l i else none:=by
 rw[←QP];rfl
theorem jC(l:List (Nat×Option AObj))(n m:Nat)(b:Bool)(hd:List (Nat×Nat))(on:Option (Nat×List Nat))(i:Nat)(o:AObj):(KL l n m b hd on).put i o=KL ((i,some o)::l) n (u0 m i) b hd on:=rfl
theorem ztO(l:List (Nat×Option AObj))(n m:Nat)(b:Bool)(hd:List (Nat×Nat))(on:Option (Nat×List Nat))(i:Nat):(KL l n m b hd on).del i=KL ((i,none)::l) n (u0 m i) b hd on:=rfl
theorem ztN(l:List (Nat×Option AObj))(n m:Nat)(b:Bool)(hd:List (Nat×Nat))(on:Option (Nat×List Nat))(o:AObj):(KL l n m b hd on).alloc o=KL ((n,some o)::l) (n+1) m b hd on:=rfl
theorem zwm(m i:Nat):u0 m i=m|||1<<<i:=rfl
def zsc(x:Option (Trie AV×St))(k:Trie AV→St→Option (Trie AV×St)):Option (Trie AV×St):=
 match x with
 |some p=>k p.1 p.2
 |none=>none
theorem zzW(tm:Trie AV)(s:St)(k:Trie AV→St→Option (Trie AV×St)):zsc (some (tm,s)) k=k tm s:=rfl
theorem znS(G:Env)(S:Self)(tm:Trie AV)(s:St):evS G S [] tm s=some (tm,s):=rfl
theorem zrt(G:Env)(S:Self)(o:SOper)(r:List SOper)(tm:Trie AV)(s:St):evS G S (o::r) tm s=zsc (lR G S o tm s) (evS G S r):=rfl
theorem zmZ(G:Env)(S:Self)(d:Option Nat)(op:IOp)(tm:Trie AV)(s:St):lR G S ⟨d,op,none⟩ tm s=stS tm d (qA G S op tm s):=rfl
noncomputable def zr6(G:Env)(S:Self)(d:Option Nat)(op:IOp)(tm:Trie AV)(s:St):Option Bool→Option (Trie AV×St)
 |some true=>stS tm d (qA G S op tm s)
 |some false=>some (qS tm d qk,s)
 |none=>none
def Gu(w:Bool):Option AV→Option Bool
 |some (.bool b)=>some (b==w)
 |some _=>some false
 |none=>none
theorem zmY(G:Env)(S:Self)(d:Option Nat)(op:IOp)(i:Nat)(w:Bool)(tm:Trie AV)(s:St):lR G S ⟨d,op,some (i,w)⟩ tm s=zr6 G S d op tm s (Gu w (tm.get i)):=by
 unfold lR kF;simp only;generalize tm.get i=x;cases x with
 |none=>rfl
 |some v=>cases v<;>first|rfl|(rename_i b;cases b<;>cases w<;>rfl)
theorem zln(b:Bool):Gu true (some (.bool b))=some b:=by cases b<;>rfl
theorem zlm(b:Bool):Gu false (some (.bool b))=some (!b):=by cases b<;>rfl
theorem zlo(w:Bool)(l:List AV):Gu w (some (.tup l))=some false:=rfl
theorem ztB:qk=.tup []:=rfl
theorem zn3(G:Env)(S:Self)(d:Option Nat)(op:IOp)(tm:Trie AV)(s:St):zr6 G S d op tm s (some true)=stS tm d (qA G S op tm s):=rfl
theorem zn2(G:Env)(S:Self)(d:Option Nat)(op:IOp)(tm:Trie AV)(s:St):zr6 G S d op tm s (some false)=some (qS tm d qk,s):=rfl
theorem zpZ(tm:Trie AV)(d:Option Nat)(v:AV)(s:St):stS tm d (some (v,s))=some (qS tm d v,s):=rfl
theorem P7(l:List (Nat×AV))(i:Nat)(v:AV):qS (tmL l) (some i) v=tmL ((i,v)::l):=rfl
theorem P6(tm:Trie AV)(v:AV):qS tm none v=tm:=rfl
theorem QS(l:List (Nat×AV))(i:Nat)(v:AV):(tmL l).set i v=tmL ((i,v)::l):=rfl
theorem P5(tm:Trie AV)(i:Nat):wL tm i []=tm:=rfl
theorem HA(l:List (Nat×AV))(i:Nat)(v:AV)(r:List AV):wL (tmL l) i (v::r)=wL (tmL ((i,v)::l)) (i+1) r:=rfl
theorem zme:(Trie.leaf:Trie AV)=tmL []:=rfl
theorem zu8(tm:Trie AV):hU tm [] []=some tm:=rfl
theorem zxl(l:List (Nat×AV))(p:Nat)(ps:List Nat)(v:AV)(vs:List AV):hU (tmL l) (p::ps) (v::vs)=hU (tmL ((p,v)::l)) ps vs:=rfl
def zxJ(x:Option (List LogE×Trie AV×St))(k:List LogE→Trie AV→St→Option (Trie AV×St)):Option (Trie AV×St):=
 match x with
 |some p=>k p.1 p.2.1 p.2.2
 |none=>none
theorem zzV(log:List LogE)(tm:Trie AV)(s:St)(k:List LogE→Trie AV→St→Option (Trie AV×St)):zxJ (some (log,tm,s)) k=k log tm s:=rfl
theorem zpw(E:Env)(S:Self)(ops:List DOper)(tm:Trie AV)(df:List Nat)(l:List (Nat×Option AObj))(n m:Nat)(b:Bool)(hd:List (Nat×Nat)):Qg E S ops ⟨tm,df⟩ (KL l n m b hd none)=uI df (evD E S ops 0 [] tm (KL l n m b hd none)):=rfl
theorem znf(G:Env)(S:Self)(i:Nat)(log:List LogE)(tm:Trie AV)(s:St):evD G S [] i log tm s=some (tm,s):=rfl
theorem zs6(G:Env)(S:Self)(o:DOper)(r:List DOper)(i:Nat)(log:List LogE)(tm:Trie AV)(s:St):evD G S (o::r) i log tm s=zxJ (lQ G S o i log tm s) (evD G S r (i+1)):=rfl
noncomputable def opD(G:Env)(S:Self)(d:Option Nat)(op:IOp)(deps i:Nat)(log:List LogE)(tm:Trie AV)(l:List (Nat×Option AObj))(n m:Nat)(b:Bool)(hd:List (Nat×Nat))(on:Option (Nat×List Nat))(tch:Option (List Nat)):Option (List LogE×Trie AV×St):=
 endS2 d deps i log tm n m hd on tch (qA G S op tm (KL l n 0 b (qG deps log hd) (onOf n tch)))
 where
 onOf (n:Nat):Option (List Nat)→Option (Nat×List Nat)
  |some l=>some (n,l)
  |none=>none
 endS2 (d:Option Nat) (deps i:Nat) (log:List LogE) (tm:Trie AV) (n m:Nat) (hd:List (Nat×Nat)) (on:Option (Nat×List Nat)) (tch:Option (List Nat)):Option (AV×St)→Option (List LogE×Trie AV×St)
  |some p=>bif uA deps tch (qa p.2.wm n) log then some ({idx:=i,lo:=n,hi:=p.2.next,tch:=tch,wm:=qa p.2.wm n}::log,qS tm d p.1,{p.2 with hide:=hd,only:=on,wm:=Nat.lor m p.2.wm})else none
  |none=>none
theorem zkU(G:Env)(S:Self)(d:Option Nat)(op:IOp)(deps i:Nat)(log:List LogE)(tm:Trie AV)(l:List (Nat×Option AObj))(n m:Nat)(b:Bool)(hd:List (Nat×Nat))(on:Option (Nat×List Nat))(tch:Option (List Nat)):
  opD G S d op deps i log tm l n m b hd on tch=opD.endS2 d deps i log tm n m hd on tch (qA G S op tm (KL l n 0 b (qG deps log hd) (opD.onOf n tch))):=rfl
theorem Wp(n:Nat)(l:List Nat):opD.onOf n (some l)=some (n,l):=rfl
theorem zuR(n:Nat):opD.onOf n none=none:=rfl
theorem zsY(d:Option Nat)(deps i:Nat)(log:List LogE)(tm:Trie AV)(n m:Nat)(hd:List (Nat×Nat))(on:Option (Nat×List Nat))(tch:Option (List Nat))(v:AV)(l':List (Nat×Option AObj))(n' m':Nat)(b':Bool)(hd':List (Nat×Nat))(on':Option (Nat×List Nat)):
  opD.endS2 d deps i log tm n m hd on tch (some (v,KL l' n' m' b' hd' on'))=bif uA deps tch (qa m' n) log then some (⟨i,n,n',tch,qa m' n⟩::log,qS tm d v,KL l' n' (m|||m') b' hd on)else none:=rfl
theorem zmX(G:Env)(S:Self)(d:Option Nat)(op:IOp)(deps i:Nat)(log:List LogE)(tm:Trie AV)(l:List (Nat×Option AObj))(n m:Nat)(b:Bool)(hd:List (Nat×Nat))(on:Option (Nat×List Nat)):
  lQ G S ⟨⟨d,op,none⟩,deps⟩ i log tm (KL l n m b hd on)=opD G S d op deps i log tm l n m b hd on (qn op tm):=by
 simp only[lQ,kF,Jg,vm,opD];cases qn op tm<;>rfl
noncomputable def Hd(G:Env)(S:Self)(d:Option Nat)(op:IOp)(deps i:Nat)(log:List LogE)(tm:Trie AV)(l:List (Nat×Option AObj))(n m:Nat)(b:Bool)(hd:List (Nat×Nat))(on:Option (Nat×List Nat)):Option Bool→Option (List LogE×Trie AV×St)
 |some true=>opD G S d op deps i log tm l n m b hd on (qn op tm)
 |some false=>some (log,qS tm d qk,KL l n m b hd on)
 |none=>none
theorem zmW(G:Env)(S:Self)(d:Option Nat)(op:IOp)(j:Nat)(w:Bool)(deps i:Nat)(log:List LogE)(tm:Trie AV)(l:List (Nat×Option AObj))(n m:Nat)(b:Bool)(hd:List (Nat×Nat))(on:Option (Nat×List Nat)):
  lQ G S ⟨⟨d,op,some (j,w)⟩,deps⟩ i log tm (KL l n m b hd on)=Hd G S d op deps i log tm l n m b hd on (Gu w (tm.get j)):=by
 unfold lQ kF;simp only;generalize tm.get j=x;cases x with
 |none=>rfl
 |some v=>
  cases v<;>first|rfl|skip
  rename_i c
  cases c<;>cases w<;>first|rfl|(simp only[Hd,Gu,Jg,vm,opD];cases qn op tm<;>rfl)
theorem zr8(G:Env)(S:Self)(d:Option Nat)(op:IOp)(deps i:Nat)(log:List LogE)(tm:Trie AV)(l:List (Nat×Option AObj))(n m:Nat)(b:Bool)(hd:List (Nat×Nat))(on:Option (Nat×List Nat)):Hd G S d op deps i log tm l n m b hd on (some true)=opD G S d op deps i log tm l n m b hd on (qn op tm):=rfl
theorem zr7(G:Env)(S:Self)(d:Option Nat)(op:IOp)(deps i:Nat)(log:List LogE)(tm:Trie AV)(l:List (Nat×Option AObj))(n m:Nat)(b:Bool)(hd:List (Nat×Nat))(on:Option (Nat×List Nat)):Hd G S d op deps i log tm l n m b hd on (some false)=some (log,qS tm d qk,KL l n m b hd on):=rfl
theorem Hg(deps:Nat)(h:List (Nat×Nat)):qG deps [] h=h:=rfl
theorem Jk(deps:Nat)(i lo hi:Nat)(tch:Option (List Nat))(wm:Nat)(r:List LogE)(h:List (Nat×Nat)):qG deps (⟨i,lo,hi,tch,wm⟩::r) h=bif zb lo hi||deps.testBit i then qG deps r h else (lo,hi)::qG deps r h:=rfl
theorem zyc(deps:Nat)(tch:Option (List Nat))(wm:Nat):uA deps tch wm []=true:=rfl
theorem Ly(deps:Nat)(tch:Option (List Nat))(wm:Nat)(i lo hi:Nat)(tch':Option (List Nat))(wm':Nat)(r:List LogE):
  uA deps tch wm (⟨i,lo,hi,tch',wm'⟩::r)=bif deps.testBit i then uA deps tch wm r else bif (zb wm 0||offMask wm tch')&&(zb wm' 0||offMask wm' tch)then uA deps tch wm r else false:=rfl
theorem Hp(m:Nat):offMask m none=false:=rfl
theorem PM(m:Nat):offMask m (some [])=true:=rfl
theorem Ho(m a:Nat)(l:List Nat):offMask m (some (a::l))=bif m.testBit a then false else offMask m (some l):=rfl
theorem zy0(m n:Nat):qa m n=m%2^n:=rfl
theorem Qm(m i:Nat):m.testBit i= !(zb (m/2^i%2) 0):=by
 rw[Nat.testBit_eq_decide_div_mod_eq];rcases Nat.mod_two_eq_zero_or_one (m/2^i)with h|h<;>rw[h]<;>rfl
theorem zoe(tm:Trie AV)(x:Opd):qn (.mv x) tm=some []:=rfl
theorem ztv(tm:Trie AV)(x:Opd):qn (.nck x) tm=some []:=rfl
theorem zp9(tm:Trie AV)(n:Nat)(x:Opd):qn (.fa n x) tm=some []:=rfl
theorem zto(tm:Trie AV)(op:BinOp)(x y:Opd):qn (.bin op x y) tm=some []:=rfl
theorem zts(tm:Trie AV)(k:EqK)(b:Bool)(x y:Opd):qn (.eqk k b x y) tm=some []:=rfl
theorem zog(tm:Trie AV)(op:UnOp)(x:Opd):qn (.un op x) tm=some []:=rfl
theorem zxx(tm:Trie AV)(a b c:Opd):qn (.pick a b c) tm=some []:=rfl
theorem zp8(tm:Trie AV)(x:Opd)(i:Nat):qn (.ex x i) tm=some []:=rfl
theorem zoa(tm:Trie AV)(e:Nat)(x y:Opd):qn (.ia e x y) tm=some []:=rfl
theorem ztw(tm:Trie AV)(e:Nat)(x:Opd)(a b c:Option Opd):qn (.slv e x a b c) tm=some []:=rfl
theorem zzq(tm:Trie AV)(z:List AV)(l:List (Nat×Nat×Opd)):qn (.build z l) tm=some []:=rfl
theorem ztq(tm:Trie AV)(e:Nat)(z:List AV)(n:Nat)(l:List (Nat×Nat×Opd)):qn (.bsl e z n l) tm=some []:=rfl
theorem zzp(tm:Trie AV)(e:Nat)(z:List AV):qn (.alloc e z) tm=some []:=rfl
theorem ztp(tm:Trie AV)(e:Nat)(x:Opd):qn (.box e x) tm=some []:=rfl
theorem zxw(tm:Trie AV):qn .mmap tm=some []:=rfl
theorem zob(tm:Trie AV)(x:Opd):qn (.ld x) tm=YU (x.ev tm):=rfl
theorem ztt(tm:Trie AV)(n:Nat)(x:Opd):qn (.ldn n x) tm=YU (x.ev tm):=rfl
theorem zof(tm:Trie AV)(n:Nat)(x y:Opd):qn (.st n x y) tm=YU (x.ev tm):=rfl
theorem zoc(tm:Trie AV)(f:FK)(z:AV)(b:Bool)(x y:Opd):qn (.lk f z b x y) tm=YU (x.ev tm):=rfl
theorem zod(tm:Trie AV)(f:FK)(x y z:Opd):qn (.mu f x y z) tm=YU (x.ev tm):=rfl
theorem ztu(tm:Trie AV)(k:LK)(x:Opd):qn (.len k x) tm=YU (x.ev tm):=rfl
theorem ztr(tm:Trie AV)(x:Opd):qn (.cbs x) tm=YU (x.ev tm):=rfl
theorem ztn(tm:Trie AV)(a b c:Nat)(x y:Opd):qn (.app a b c x y) tm=zw3 (Gk (x.ev tm)) (YU (y.ev tm)):=rfl
theorem zxv(tm:Trie AV)(f:Nat)(l:List Opd):qn (.call f l) tm=none:=rfl
theorem YV(a b:List Nat):zw3 (some a) (some b)=some (a++b):=rfl
theorem zp2(n:Nat)(e:Bool)(l:List AV):YU (some (.lst n e l))=some []:=rfl
theorem zm1(l:List AV):YU (some (.vp l))=some []:=rfl
theorem zp4(i o:Nat):YU (some (.ptr i o))=some [i]:=rfl
theorem zm0(i o n:Nat)(c:Cap):YU (some (.sl i o n c))=some [i]:=rfl
theorem zp3(i:Nat):YU (some (.map i))=some [i]:=rfl
theorem UM:Gk (some (.nils))=some []:=rfl
theorem zzk(i o n:Nat)(c:Cap):Gk (some (.sl i o n c))=some [i]:=rfl
theorem znM(G:Env)(S:Self)(tm:Trie AV)(s:St)(x:Opd):qA G S (.mv x) tm s=v1 tm s x some:=rfl
theorem zui(G:Env)(S:Self)(tm:Trie AV)(s:St)(c:Opd)(a:Opd)(b:Opd):qA G S (.pick c a b) tm s=lN s (Gt (c.ev tm) (a.ev tm) (b.ev tm)):=rfl
theorem zyF(G:Env)(S:Self)(tm:Trie AV)(s:St)(e:Nat)(zs:List AV):qA G S (.alloc e zs) tm s=Zs s e zs:=rfl
theorem zre(G:Env)(S:Self)(tm:Trie AV)(s:St)(e:Nat)(x:Opd):qA G S (.box e x) tm s=o1 tm x (PJ s e):=rfl
theorem zyG(G:Env)(S:Self)(tm:Trie AV)(s:St)(zs:List AV)(ps:List (Nat×Nat×Opd)):qA G S (.build zs ps) tm s=lN s (Y5 (jF zs tm ps)):=rfl
theorem zrf(G:Env)(S:Self)(tm:Trie AV)(s:St)(e:Nat)(zs:List AV)(len:Nat)(ps:List (Nat×Nat×Opd)):qA G S (.bsl e zs len ps) tm s=XE s e len (jF zs tm ps):=rfl
theorem znI(G:Env)(S:Self)(tm:Trie AV)(s:St)(x:Opd):qA G S (.ld x) tm s=v1 tm s x (vLd G.globs s):=rfl
theorem zrm(G:Env)(S:Self)(tm:Trie AV)(s:St)(n:Nat)(x:Opd):qA G S (.ldn n x) tm s=v1 tm s x (ZH G.globs s n):=rfl
theorem znQ(G:Env)(S:Self)(tm:Trie AV)(s:St)(n:Nat)(x:Opd)(v:Opd):qA G S (.st n x v) tm s=o2 tm x v (oSt s n):=rfl
theorem zrq(G:Env)(S:Self)(tm:Trie AV)(s:St)(x:Opd):qA G S (.nck x) tm s=v1 tm s x zov:=rfl
theorem zrd(G:Env)(S:Self)(tm:Trie AV)(s:St)(op:BinOp)(x:Opd)(y:Opd):qA G S (.bin op x y) tm s=v2 tm s x y (ztD op):=rfl
theorem zrj(G:Env)(S:Self)(tm:Trie AV)(s:St)(k:EqK)(neg:Bool)(x:Opd)(y:Opd):qA G S (.eqk k neg x y) tm s=v2 tm s x y (pL k neg):=rfl
theorem znR(G:Env)(S:Self)(tm:Trie AV)(s:St)(op:UnOp)(x:Opd):qA G S (.un op x) tm s=v1 tm s x (vUn op):=rfl
theorem znC(G:Env)(S:Self)(tm:Trie AV)(s:St)(k:IntKind)(x:Opd):qA G S (.ci k x) tm s=v1 tm s x (vCi k):=rfl
theorem zri(G:Env)(S:Self)(tm:Trie AV)(s:St)(e:Nat)(x:Opd):qA G S (.csb e x) tm s=o1 tm x (Qz s e):=rfl
theorem zrh(G:Env)(S:Self)(tm:Trie AV)(s:St)(x:Opd):qA G S (.cbs x) tm s=v1 tm s x (ztF s):=rfl
theorem zro(G:Env)(S:Self)(tm:Trie AV)(s:St)(f:Nat)(fst:List Opd)(cap:List Opd):qA G S (.mfn f fst cap) tm s=vLL tm s fst cap (fun us vs=>some (.fn f us vs)):=rfl
theorem zuh(G:Env)(S:Self)(tm:Trie AV)(s:St):qA G S (.mmap) tm s=XF G.um s:=rfl
theorem zrp(G:Env)(S:Self)(tm:Trie AV)(s:St)(e:Nat)(_x1:Nat)(bytes:Nat)(zs:List AV)(l:Opd)(c:Opd):qA G S (.msl e _x1 bytes zs l c) tm s=o2 tm l c (Jn s e bytes zs):=rfl
theorem zrr(G:Env)(S:Self)(tm:Trie AV)(s:St)(x:Opd)(lo:Option Opd)(hi:Option Opd):qA G S (.sls x lo hi) tm s=vs3 tm s x lo hi zzA:=rfl
theorem zrs(G:Env)(S:Self)(tm:Trie AV)(s:St)(esz:Nat)(x:Opd)(lo:Option Opd)(hi:Option Opd)(mx:Option Opd):qA G S (.slv esz x lo hi mx) tm s=vs4 tm s x lo hi mx (QG esz):=rfl
theorem znG(G:Env)(S:Self)(tm:Trie AV)(s:St)(off:Nat)(x:Opd):qA G S (.fa off x) tm s=v1 tm s x (vFa off):=rfl
theorem znH(G:Env)(S:Self)(tm:Trie AV)(s:St)(esz:Nat)(x:Opd)(i:Opd):qA G S (.ia esz x i) tm s=v2 tm s x i (vIa esz):=rfl
theorem zrk(G:Env)(S:Self)(tm:Trie AV)(s:St)(n:Nat)(esz:Nat)(x:Opd)(i:Opd):qA G S (.iaa n esz x i) tm s=v2 tm s x i (zzy n esz):=rfl
theorem zrl(G:Env)(S:Self)(tm:Trie AV)(s:St)(x:Opd)(i:Opd):qA G S (.ixs x i) tm s=v2 tm s x i zoq:=rfl
theorem znJ(G:Env)(S:Self)(tm:Trie AV)(s:St)(f:FK)(z:AV)(ok:Bool)(m:Opd)(k:Opd):qA G S (.lk f z ok m k) tm s=v2 tm s m k (vLk s f z ok):=rfl
theorem znL(G:Env)(S:Self)(tm:Trie AV)(s:St)(f:FK)(m:Opd)(k:Opd)(v:Opd):qA G S (.mu f m k v) tm s=o3 tm m k v (oMu s f):=rfl
theorem znK(G:Env)(S:Self)(tm:Trie AV)(s:St)(f:FK)(m:Opd)(k:Opd):qA G S (.md f m k) tm s=o2 tm m k (oMd s f):=rfl
theorem znP(G:Env)(S:Self)(tm:Trie AV)(s:St)(x:Opd):qA G S (.rs x) tm s=o1 tm x (oRs s):=rfl
theorem znN(G:Env)(S:Self)(tm:Trie AV)(s:St)(it:Opd):qA G S (.ns it) tm s=o1 tm it (oNs s):=rfl
theorem znO(G:Env)(S:Self)(tm:Trie AV)(s:St)(x:Opd):qA G S (.rm x) tm s=o1 tm x (oRm s):=rfl
theorem znE(G:Env)(S:Self)(tm:Trie AV)(s:St)(it:Opd):qA G S (.en it) tm s=v1 tm s it (vEn s):=rfl
theorem znF(G:Env)(S:Self)(tm:Trie AV)(s:St)(x:Opd)(i:Nat):qA G S (.ex x i) tm s=v1 tm s x (fun v=>vEx v i):=rfl
theorem zrn(G:Env)(S:Self)(tm:Trie AV)(s:St)(k:LK)(x:Opd):qA G S (.len k x) tm s=v1 tm s x (QF s k):=rfl
theorem zrg(G:Env)(S:Self)(tm:Trie AV)(s:St)(x:Opd):qA G S (.cap x) tm s=v1 tm s x ztE:=rfl
theorem zrc(G:Env)(S:Self)(tm:Trie AV)(s:St)(e:Nat)(esz:Nat)(bytes:Nat)(x:Opd)(y:Opd):qA G S (.app e esz bytes x y) tm s=o2 tm x y (jg s e esz bytes):=rfl
theorem zuf(G:Env)(S:Self)(tm:Trie AV)(s:St)(e:Nat)(esz:Nat)(bytes:Nat)(zs:List AV)(x:Opd)(y:Opd):qA G S (.appz e esz bytes zs x y) tm s=o2 tm x y (Yb s e esz bytes zs):=rfl
theorem zug(G:Env)(S:Self)(tm:Trie AV)(s:St)(f:Nat)(args:List Opd):qA G S (.call f args) tm s=LV S f (evL tm args) s:=rfl
theorem znD(G:Env)(S:Self)(tm:Trie AV)(s:St)(x:Opd)(args:List Opd):qA G S (.cv x args) tm s=GT S (x.ev tm) (evL tm args) s:=rfl
theorem zyZ(df:List Nat)(tm:Trie AV)(s:St):uI df (some (tm,s))=some (.norm,⟨tm,df⟩,s):=rfl
theorem zxu(k:Fr→St→Option (Res×Fr×St))(fr:Fr)(s:St):uV k (some (.norm,fr,s))=k fr s:=rfl
theorem zxt(k:Fr→St→Option (Res×Fr×St))(i:Nat)(fr:Fr)(s:St):uV k (some (.exit i,fr,s))=some (.exit i,fr,s):=rfl
theorem ztl(k:Fr→St→Option (Res×Fr×St))(fr:Fr)(s:St):uV k (some (.ret,fr,s))=some (.ret,fr,s):=rfl
theorem zxQ(a b:Fr→St→Option (Res×Fr×St))(fr:Fr)(s:St):WR (some (.bool true)) a b fr s=a fr s:=rfl
theorem zxP(a b:Fr→St→Option (Res×Fr×St))(fr:Fr)(s:St):WR (some (.bool false)) a b fr s=b fr s:=rfl
theorem HZ(id:Nat)(p:Fr×St):jR id (some (.norm,p))=some (.norm,p):=rfl
theorem zzX(id:Nat)(p:Fr×St):jR id (some (.ret,p))=some (.ret,p):=rfl
theorem WI(id i:Nat)(p:Fr×St):jR id (some (.exit i,p))=if i=id then some (.norm,p)else some (.exit i,p):=by
 show (bif zb i id then some (Res.norm,p)else some (Res.exit i,p))=_;by_cases h:i=id
 ·rw[if_pos h,we.2 h];rfl
 ·rw[if_neg h];cases hb:zb i id with
  |true=>exact absurd (we.1 hb) h
  |false=>rfl
theorem zs4(G:Env)(S:Self)(rd:Option Nat)(fr:Fr)(s:St):evC G S rd .skip fr s=some (.norm,fr,s):=rfl
theorem znb(G:Env)(S:Self)(rd:Option Nat)(ops:List SOper)(tm:Trie AV)(df:List Nat)(s:St):evC G S rd (.reg ops) ⟨tm,df⟩ s=uI df (evS G S ops tm s):=rfl
theorem zs3(G:Env)(S:Self)(rd:Option Nat)(ops:List DOper)(fr:Fr)(s:St):evC G S rd (.regd ops) fr s=Qg G S ops fr s:=rfl
theorem znd(G:Env)(S:Self)(rd:Option Nat)(a b:ICode)(fr:Fr)(s:St):evC G S rd (.seq a b) fr s=uV (evC G S rd b) (evC G S rd a fr s):=rfl
theorem VP(G:Env)(S:Self)(rd:Option Nat)(c:Opd)(a b:ICode)(tm:Trie AV)(df:List Nat)(s:St):evC G S rd (.cond c a b) ⟨tm,df⟩ s=WR (c.ev tm) (evC G S rd a) (evC G S rd b) ⟨tm,df⟩ s:=rfl
theorem zv9(G:Env)(S:Self)(rd:Option Nat)(id:Nat)(b:ICode)(fr:Fr)(s:St):evC G S rd (.block id b) fr s=jR id (evC G S rd b fr s):=rfl
theorem zs1(G:Env)(S:Self)(rd:Option Nat)(id:Nat)(fr:Fr)(s:St):evC G S rd (.exit id) fr s=some (.exit id,fr,s):=rfl
theorem znc(G:Env)(S:Self)(rd:Option Nat)(fr:Fr)(s:St):evC G S rd .ret fr s=some (.ret,fr,s):=rfl
theorem p8(E:Env)(O:Orc)(f:Nat)(a:List AV)(s:St):(evW E O).call f a s=pB E O (evW E O) f a s:=by
 cases h:pB E O (evW E O) f a s with
 |some r=>exact zru h
 | none=>
  cases h2:(evW E O).call f a s with
  |none=>rfl
  | some r=>
   obtain⟨n,hn⟩:=vg (α:=AV×St) h2;cases n with
   |zero=>cases hn
   |succ n=>
    have h3:pB E O (evT E O n) f a s=some r:=hn;have h4:LeS (evT E O n) (evW E O):=⟨fun f a s r h=>jo (fun n r h=>(uY E O n).call _ _ _ _ h) h,fun rd b fr s r h=>jo (fun n r h=>(uY E O n).loop _ _ _ _ _ h) h,fun l a s r h=>jo (fun n r h=>(uY E O n).round _ _ _ _ h) h⟩;rw[(Vw E O f a s).up _ _ h4 r h3]at h;cases h
theorem wN{f:Nat}{g:List AV→St→Option (AV×St)}(h:O f=some g)(E:Env)(a:List AV)(s:St):(evW E O).call f a s=g a s:=by
 rw[p8];unfold pB;rw[h]
theorem vY{E:Env}{O:Orc}{f:Nat}{F:IFunc}(h:O f=none)(hF:E.funs.get f=some F)(hp:E.pure f=true)(a:List AV)(l:List (Nat×Option AObj))(n m:Nat)(b:Bool)(hd:List (Nat×Nat))(on:Option (Nat×List Nat))(ha:a.length≤F.ntmps):
  (evW E O).call f a (KL l n m b hd on)=pK (KL l n m b hd on) (wT E.globs F.res (evC E (evW E O) none F.body ⟨wL (tmL []) 0 a,[]⟩ (KL l n 0 true hd on))):=by
 rw[p8];unfold pB vz;rw[h,hF];simp only[wV,x9.2 ha,cond_true,hp];rfl
theorem H9{f:Nat}{F:IFunc}(h:O f=none)(hF:E.funs.get f=some F)(hp:E.pure f=false)(a:List AV)(l:List (Nat×Option AObj))(n m:Nat)(b:Bool)(hd:List (Nat×Nat))(on:Option (Nat×List Nat))(ha:a.length≤F.ntmps):
  (evW E O).call f a (KL l n m b hd on)=mdR b (wT E.globs F.res (evC E (evW E O) none F.body ⟨wL (tmL []) 0 a,[]⟩ (KL l n m false hd on))):=by
 rw[p8];unfold pB vz;rw[h,hF];simp only[wV,x9.2 ha,cond_true,hp,cond_false];rfl
theorem zqy(b:Bool)(v:AV)(l:List (Nat×Option AObj))(n m:Nat)(b':Bool)(hd:List (Nat×Nat))(on:Option (Nat×List Nat)):mdR b (some (v,KL l n m b' hd on))=some (v,KL l n m b hd on):=rfl
def zjZ(s t:St)(v:AV):Option AV→Option (AV×St)
 |some v=>some (v,s)
 |none=>some (agW v,{t with wm:=Nat.lor s.wm t.wm,md:=s.md})
theorem zuW(s t:St)(v:AV):pK s (some (v,t))=zjZ s t v (bif zb (qa t.wm s.next) 0 then Zf s.next v else none):=rfl
theorem zuV(s t:St)(v u:AV):zjZ s t v (some u)=some (u,s):=rfl
theorem H8(G:List (List AV))(res:List RV)(tm:Trie AV)(s:St):wT G res (some (.ret,⟨tm,[]⟩,s))=YR G tm s res:=rfl
theorem GI(G:List (List AV))(res:List RV)(tm:Trie AV)(s:St):wT G res (some (.norm,⟨tm,[]⟩,s))=YR G tm s res:=rfl
def zk0(s:St):Option (List AV)→Option (AV×St)
 |some vs=>some (vS vs,s)
 |none=>none
theorem zmG(G:List (List AV))(tm:Trie AV)(s:St)(res:List RV):YR G tm s res=zk0 s (jI G tm s res):=by
 unfold YR zk0;cases jI G tm s res<;>rfl
theorem zu4(s:St)(vs:List AV):zk0 s (some vs)=some (vS vs,s):=rfl
theorem zy1:vS []=.tup []:=rfl
theorem zy2(v:AV):vS [v]=v:=rfl
theorem zy3(v w:AV)(r:List AV):vS (v::w::r)=.tup (v::w::r):=rfl
def pC(v:Option AV)(l:Option (List AV)):Option (List AV):=
 match v,l with
 |some v,some vs=>some (v::vs)
 |_,_=>none
theorem zyd(v:AV)(vs:List AV):pC (some v) (some vs)=some (v::vs):=rfl
noncomputable def ldK(G:List (List AV))(s:St):Option AV→Option AV
 |some p=>vLd G s p
 |none=>none
noncomputable def zkG(G:List (List AV))(s:St)(n:Nat):Option AV→Option AV
 |some p=>ZH G s n p
 |none=>none
theorem zqm(G:List (List AV))(s:St)(p:AV):ldK G s (some p)=vLd G s p:=rfl
theorem zuF(G:List (List AV))(s:St)(n:Nat)(p:AV):zkG G s n (some p)=ZH G s n p:=rfl
theorem zpB(G:List (List AV))(tm:Trie AV)(s:St):jI G tm s []=some []:=rfl
theorem zk1(G:List (List AV))(tm:Trie AV)(s:St)(i:Nat)(r:List RV):jI G tm s (.t i::r)=pC (tm.get i) (jI G tm s r):=by
 simp only[jI,pC];cases tm.get i<;>cases jI G tm s r<;>rfl
theorem zmH(G:List (List AV))(tm:Trie AV)(s:St)(a:Nat)(r:List RV):jI G tm s (.c1 a::r)=pC (ldK G s (tm.get a)) (jI G tm s r):=by
 simp only[jI,pC];cases tm.get a with
 |none=>cases jI G tm s r<;>rfl
 |some p=>
  simp only[ldK,vLd];cases vG G s p 1 with
  |none=>cases jI G tm s r<;>rfl
  |some l=>cases l<;>cases jI G tm s r<;>rfl
theorem zmI(G:List (List AV))(tm:Trie AV)(s:St)(a n:Nat)(r:List RV):jI G tm s (.cn a n::r)=pC (zkG G s n (tm.get a)) (jI G tm s r):=by
 simp only[jI,pC];cases tm.get a with
 |none=>cases jI G tm s r<;>rfl
 |some p=>
  simp only[zkG,ZH];cases vG G s p n with
  |none=>cases jI G tm s r<;>rfl
  |some l=>cases jI G tm s r<;>rfl
theorem Jq(s:St):qf s []=some s:=rfl
theorem zjT(tm:Trie AV)(i:Nat):(Opd.t i).ev tm=tm.get i:=rfl
theorem zjS(tm:Trie AV)(v:AV):(Opd.c v).ev tm=some v:=rfl
theorem zng(tm:Trie AV):evL tm []=some []:=rfl
theorem zs7(tm:Trie AV)(x:Opd)(r:List Opd):evL tm (x::r)=pC (x.ev tm) (evL tm r):=rfl
theorem zud(tm:Trie AV):evO tm none=some none:=rfl
def zpX:Option AV→Option (Option AV)
 |some v=>some (some v)
 |none=>none
theorem zue(tm:Trie AV)(x:Opd):evO tm (some x)=zpX (x.ev tm):=by unfold evO zpX;rfl
theorem zxm(v:AV):zpX (some v)=some (some v):=rfl
theorem zu5(s:St)(v:AV):lN s (some v)=some (v,s):=rfl
def b1(f:AV→Option (AV×St)):Option AV→Option (AV×St)
 |some v=>f v
 |none=>none
def b2(f:AV→AV→Option (AV×St)):Option AV→Option AV→Option (AV×St)
 |some v,some w=>f v w
 |_,_=>none
def b3(f:AV→AV→AV→Option (AV×St)):Option AV→Option AV→Option AV→Option (AV×St)
 |some v,some w,some u=>f v w u
 |_,_,_=>none
def k1(s:St)(f:AV→Option AV):Option AV→Option (AV×St)
 |some v=>lN s (f v)
 |none=>none
def k2(s:St)(f:AV→AV→Option AV):Option AV→Option AV→Option (AV×St)
 |some v,some w=>lN s (f v w)
 |_,_=>none
def kLL(s:St)(f:List AV→List AV→Option AV):Option (List AV)→Option (List AV)→Option (AV×St)
 |some v,some w=>lN s (f v w)
 |_,_=>none
def k3(s:St)(f:AV→Option AV→Option AV→Option AV):Option AV→Option (Option AV)→Option (Option AV)→Option (AV×St)
 |some v,some l,some h=>lN s (f v l h)
 |_,_,_=>none
noncomputable def k4(tm:Trie AV)(s:St)(x:Opd)(lo hi:Option Opd)(f:AV→Option AV→Option AV→Option AV→Option AV):Option (Option AV)→Option (AV×St)
 |some m=>vs3 tm s x lo hi (fun v l h=>f v l h m)
 |none=>none
theorem zit(tm:Trie AV)(s:St)(x:Opd)(f:AV→Option AV):v1 tm s x f=k1 s f (x.ev tm):=by unfold v1 k1;cases x.ev tm<;>rfl
theorem ziu(tm:Trie AV)(s:St)(x y:Opd)(f:AV→AV→Option AV):v2 tm s x y f=k2 s f (x.ev tm) (y.ev tm):=by unfold v2 k2;cases x.ev tm<;>cases y.ev tm<;>rfl
theorem zn9(s:St)(f:AV→Option AV)(v:AV):k1 s f (some v)=lN s (f v):=rfl
theorem zma(s:St)(f:AV→AV→Option AV)(v w:AV):k2 s f (some v) (some w)=lN s (f v w):=rfl
theorem zin(tm:Trie AV)(x:Opd)(f:AV→Option (AV×St)):o1 tm x f=b1 f (x.ev tm):=by unfold o1 b1;cases x.ev tm<;>rfl
theorem zio(tm:Trie AV)(x y:Opd)(f:AV→AV→Option (AV×St)):o2 tm x y f=b2 f (x.ev tm) (y.ev tm):=by unfold o2 b2;cases x.ev tm<;>cases y.ev tm<;>rfl
theorem ziq(tm:Trie AV)(x y z:Opd)(f:AV→AV→AV→Option (AV×St)):o3 tm x y z f=b3 f (x.ev tm) (y.ev tm) (z.ev tm):=by unfold o3 b3;cases x.ev tm<;>cases y.ev tm<;>cases z.ev tm<;>rfl
theorem zia(tm:Trie AV)(s:St)(l m:List Opd)(f:List AV→List AV→Option AV):vLL tm s l m f=kLL s f (evL tm l) (evL tm m):=by unfold vLL kLL;cases evL tm l<;>cases evL tm m<;>rfl
theorem zib(tm:Trie AV)(s:St)(x:Opd)(lo hi:Option Opd)(f:AV→Option AV→Option AV→Option AV):vs3 tm s x lo hi f=k3 s f (x.ev tm) (evO tm lo) (evO tm hi):=by unfold vs3 k3;cases x.ev tm<;>cases evO tm lo<;>cases evO tm hi<;>rfl
theorem zic(tm:Trie AV)(s:St)(x:Opd)(lo hi mx:Option Opd)(f:AV→Option AV→Option AV→Option AV→Option AV):vs4 tm s x lo hi mx f=k4 tm s x lo hi f (evO tm mx):=by unfold vs4 k4;cases evO tm mx<;>rfl
theorem zoH(f:AV→Option (AV×St))(v:AV):b1 f (some v)=f v:=rfl
theorem zoI(f:AV→AV→Option (AV×St))(v w:AV):b2 f (some v) (some w)=f v w:=rfl
theorem zoJ(f:AV→AV→AV→Option (AV×St))(v w u:AV):b3 f (some v) (some w) (some u)=f v w u:=rfl
theorem zqj(s:St)(f:List AV→List AV→Option AV)(l m:List AV):kLL s f (some l) (some m)=lN s (f l m):=rfl
theorem zmb(s:St)(f:AV→Option AV→Option AV→Option AV)(v:AV)(l h:Option AV):k3 s f (some v) (some l) (some h)=lN s (f v l h):=rfl
theorem zmc(tm:Trie AV)(s:St)(x:Opd)(lo hi:Option Opd)(f:AV→Option AV→Option AV→Option AV→Option AV)(m:Option AV):k4 tm s x lo hi f (some m)=vs3 tm s x lo hi (fun v l h=>f v l h m):=rfl
theorem zua(S:Self)(f:Nat)(vs:List AV)(s:St):LV S f (some vs) s=S.call f vs s:=rfl
theorem zne(S:Self)(f:Nat)(a c:List AV)(vs:List AV)(s:St):GT S (some (.fn f a c)) (some vs) s=S.call f (a++vs++c) s:=rfl
theorem zlj(a b:Option AV):Gt (some (.bool true)) a b=a:=rfl
theorem zli(a b:Option AV):Gt (some (.bool false)) a b=b:=rfl
theorem zlh(x y z:Bool):Gt (some (.bool x)) (some (.bool y)) (some (.bool z))=some (.bool (bif x then y else z)):=by cases x<;>rfl
theorem zlc(off id o:Nat):vFa off (.ptr id o)=some (.ptr id (o+off)):=rfl
theorem zjj(off:Nat)(cs:List AV):vFa off (.vp cs)=some (.vp (wH off cs)):=rfl
theorem zow(i o:Nat):zov (.ptr i o)=some (.ptr i o):=rfl
theorem zml(s:St)(e:Nat)(v:AV):PJ s e v=some (.ptr s.next 0,s.alloc (.row e v.cells false false)):=rfl
theorem zuO(s:St)(e:Nat)(zs:List AV):Zs s e zs=some (.ptr s.next 0,s.alloc (.row e zs false false)):=rfl
theorem zvA(cs:List AV):(AV.agg cs).cells=cs:=rfl
theorem zvB(k:IntKind)(n:Int):(AV.int k n).cells=[.int k n]:=rfl
theorem zz8(b:Bool):(AV.bool b).cells=[.bool b]:=rfl
theorem zvC(n:Nat)(e:Bool)(l:List AV):(AV.lst n e l).cells=[.lst n e l]:=rfl
theorem zsu(i e n:Nat)(l:List AV):(AV.gr i e n l).cells=[.gr i e n l]:=rfl
theorem zvE(i o:Nat):(AV.ptr i o).cells=[.ptr i o]:=rfl
theorem zsv(i o n:Nat)(c:Cap):(AV.sl i o n c).cells=[.sl i o n c]:=rfl
theorem zvD(i:Nat):(AV.map i).cells=[.map i]:=rfl
theorem zz9:AV.nils.cells=[.nils]:=rfl
theorem zou(s:St)(t:List Nat):QF s .s (.str t)=some (.int .i64 (.ofNat t.length)):=by rw[←wV];rfl
theorem ztH(s:St):QF s .v .nils=some (.int .i64 (.ofNat 0)):=rfl
theorem zot(s:St)(n:Nat)(e:Bool)(l:List AV):QF s .v (.lst n e l)=some (.int .i64 (.ofNat n)):=rfl
theorem zlg(s:St)(i o n:Nat)(c:Cap):QF s .v (.sl i o n c)=some (.int .i64 (.ofNat n)):=rfl
theorem zlk(b:Bool):vUn .not (.bool b)=some (.bool (!b)):=rfl
theorem zom(op:BinOp)(k k':IntKind)(a b:Int):ztD op (.int k a) (.int k' b)=ub op k a k' b:=rfl
theorem zon(op:BinOp)(a b:List Nat):ztD op (.str a) (.str b)=zvl op a b:=rfl
def eqD(a b:Int):Bool:=decide (a=b)
def ltD(a b:Int):Bool:=decide (a<b)
theorem zt2(k:IntKind)(a b:Int):ub .eql k a k b=some (.bool (eqD a b)):=by
 have:uG k k=true:=by cases k<;>rfl
 simp only[ub,this,cond_true,v8,eqD];by_cases h:a=b<;>simp[h]
theorem zt8(k:IntKind)(a b:Int):ub .neq k a k b=some (.bool (!eqD a b)):=by
 have:uG k k=true:=by cases k<;>rfl
 simp only[ub,this,cond_true,v8,eqD];by_cases h:a=b<;>simp[h]
theorem zt6(k:IntKind)(a b:Int):ub .lss k a k b=some (.bool (ltD a b)):=by
 have:uG k k=true:=by cases k<;>rfl
 simp only[ub,this,cond_true,ll,ltD]
theorem zt5(k:IntKind)(a b:Int):ub .leq k a k b=some (.bool (!ltD b a)):=by
 have:uG k k=true:=by cases k<;>rfl
 simp only[ub,this,cond_true,ll,ltD]
theorem zt4(k:IntKind)(a b:Int):ub .gtr k a k b=some (.bool (ltD b a)):=by
 have:uG k k=true:=by cases k<;>rfl
 simp only[ub,this,cond_true,ll,ltD]
theorem zt3(k:IntKind)(a b:Int):ub .geq k a k b=some (.bool (!ltD a b)):=by
 have:uG k k=true:=by cases k<;>rfl
 simp only[ub,this,cond_true,ll,ltD]
theorem zo9(a b:Nat):eqD (.ofNat a) (.ofNat b)=decide (a=b):=by
 unfold eqD;by_cases h:a=b
 ·subst h;simp
 ·simp only[h,decide_false,decide_eq_false_iff_not];intro e;cases e;exact h rfl
theorem Hj(a b:Nat):ltD (.ofNat a) (.ofNat b)=decide (a<b):=by
 unfold ltD;by_cases h:a<b<;>simp[h]
theorem zqt(a b:Nat):ltD (.negSucc a) (.ofNat b)=true:=by
 have:(Int.negSucc a)<0:=Int.negSucc_lt_zero a;have h2:(0:Int)≤Int.ofNat b:=Int.natCast_nonneg b;unfold ltD;exact decide_eq_true oM
theorem XW(k:IntKind){a:Nat}(h:a<Jr k):vW k (.ofNat a)=.ofNat a:=by
 show (bif zg a (Jr k)then Int.ofNat a else _)=_;rw[wK.2 h];rfl
theorem zif(a b:Nat):Int.add (.ofNat a) (.ofNat b)=.ofNat (a+b):=rfl
theorem zil(a b:Nat):Int.mul (.ofNat a) (.ofNat b)=.ofNat (a*b):=rfl
theorem ztg{a b:Nat}(h:b≤a):Int.sub (.ofNat a) (.ofNat b)=.ofNat (a-b):=by
 show (a:Int)-(b:Int)=((a-b:Nat):Int);omega
theorem zt1(k:IntKind)(a b:Int):ub .add k a k b=some (.int k (vW k (Int.add a b))):=by
 have:uG k k=true:=by cases k<;>rfl
 simp only[ub,this,cond_true]
theorem zt9(k:IntKind)(a b:Int):ub .sub k a k b=some (.int k (vW k (Int.sub a b))):=by
 have:uG k k=true:=by cases k<;>rfl
 simp only[ub,this,cond_true]
theorem zt7(k:IntKind)(a b:Int):ub .mul k a k b=some (.int k (vW k (Int.mul a b))):=by
 have:uG k k=true:=by cases k<;>rfl
 simp only[ub,this,cond_true]
theorem WB{a:Nat}(h:a<9223372036854775808):vW .i64 (.ofNat a)=.ofNat a:=XW .i64 h
theorem zjn{a:Nat}(h:a<2147483648):vW .i32 (.ofNat a)=.ofNat a:=XW .i32 h
theorem zjo{a:Nat}(h:a<256):vW .u8 (.ofNat a)=.ofNat a:=XW .u8 h
theorem zlr{a:Nat}(h:a<4294967296):vW .u32 (.ofNat a)=.ofNat a:=XW .u32 h
theorem zla(k k':IntKind)(a:Int):vCi k (.int k' a)=some (.int k (vW k a)):=rfl
theorem zsa(a b:List Nat):zvl .eql a b=some (.bool (decide (a=b))):=by
 show some (AV.bool (eqS a b))=_;rw[X7];by_cases h:a=b<;>simp[h]
theorem zsb(a b:List Nat):zvl .neq a b=some (.bool (!decide (a=b))):=by
 show some (AV.bool (!eqS a b))=_;rw[X7];by_cases h:a=b<;>simp[h]
theorem zyU(v:AV)(l:List AV):Zi (v::l)=some v:=rfl
theorem zlb(vs:List AV)(i:Nat):vEx (.tup vs) i=Zi (wH i vs):=rfl
theorem zvc(l:List AV):Y5 (some l)=some (.agg l):=rfl
theorem zxS(l:List AV)(off n:Nat):cut l off n=wj n (wH off l):=rfl
theorem zn5(k:IntKind)(a n:Nat):idx (.int k (.ofNat a)) n=if a<n then some a else none:=by
 show (bif zg a n then some a else none)=_;by_cases h:a<n
 ·rw[if_pos h,wK.2 h];rfl
 ·rw[if_neg h];cases hb:zg a n with
  |true=>exact absurd (wK.1 hb) h
  |false=>rfl
def vpK(cs:List AV)(esz:Nat):Option Nat→Option AV
 |some k=>some (.vp (wH (k*esz) cs))
 |none=>none
theorem zoy(cs:List AV)(esz k:Nat):vpK cs esz (some k)=some (.vp (wH (k*esz) cs)):=rfl
theorem zld(esz n:Nat)(e:Bool)(cs:List AV)(i:AV):vIa esz (.lst n e cs) i=vpK cs esz (idx i n):=by
 simp only[vIa,vpK];generalize idx i n=x;cases x<;>rfl
def ptK(id off esz:Nat):Option Nat→Option AV
 |some k=>some (.ptr id (off+k*esz))
 |none=>none
theorem zpr(id off esz k:Nat):ptK id off esz (some k)=some (.ptr id (off+k*esz)):=rfl
theorem zjk(esz id off len:Nat)(c:Cap)(i:AV):vIa esz (.sl id off len c) i=ptK id off esz (idx i len):=by
 simp only[vIa,ptK];generalize idx i len=x;cases x<;>rfl
theorem zop(n esz id off:Nat)(i:AV):zzy n esz (.ptr id off) i=ptK id off esz (idx i n):=by
 simp only[zzy,ptK];generalize idx i n=x;cases x<;>rfl
theorem zzZ(b:Nat):H3 (some b)=some (.int .u8 (.ofNat b)):=rfl
theorem zor(t:List Nat)(k:IntKind)(i:Nat):zoq (.str t) (.int k (.ofNat i))=H3 (zuy t i):=rfl
def zmK:Option AObj→Option (List AV)
 |some (.row _ cs _ _)=>some cs
 |some (.giv cs)=>some cs
 |_=>none
theorem zpG(e:Nat)(cs:List AV)(x fz:Bool):zmK (some (.row e cs x fz))=some cs:=rfl
def zo1(off n:Nat):Option (List AV)→Option (List AV)
 |some cs=>cut cs off n
 |none=>none
theorem zvM(off n:Nat)(cs:List AV):zo1 off n (some cs)=wj n (wH off cs):=rfl
def zqa:Option (List AV)→Option AV
 |some l=>Zi l
 |none=>none
theorem zyT(l:List AV):zqa (some l)=Zi l:=rfl
theorem KG(G:List (List AV))(s:St)(id off n:Nat):vG G s (.ptr id off) n=zo1 off n (zmK (s.get id)):=by
 unfold vG;simp only;cases s.get id with
 |none=>rfl
 |some o=>cases o<;>rfl
theorem Pw(G:List (List AV))(s:St)(cs:List AV)(n:Nat):vG G s (.vp cs) n=wj n cs:=rfl
theorem zle(G:List (List AV))(s:St)(id off:Nat):vLd G s (.ptr id off)=zqa (zo1 off 1 (zmK (s.get id))):=by
 rw[←KG G];unfold vLd;cases vG G s (.ptr id off) 1<;>rfl
theorem zjm(G:List (List AV))(s:St)(cs:List AV):vLd G s (.vp cs)=zqa (wj 1 cs):=by
 rw[←Pw G s];unfold vLd;cases vG G s (.vp cs) 1<;>rfl
theorem zos(G:List (List AV))(s:St)(n id off:Nat):ZH G s n (.ptr id off)=Y5 (zo1 off n (zmK (s.get id))):=by
 rw[←KG G];unfold ZH;cases vG G s (.ptr id off) n<;>rfl
theorem zlf(G:List (List AV))(s:St)(n:Nat)(cs:List AV):ZH G s n (.vp cs)=Y5 (wj n cs):=by
 rw[←Pw G s];unfold ZH;cases vG G s (.vp cs) n<;>rfl
noncomputable def zkX(s:St)(id e:Nat)(x:Bool):Option (List AV)→Option (AV×St)
 |some cs=>some (qk,s.put id (.row e cs x false))
 |none=>none
theorem zu0(s:St)(id e:Nat)(x:Bool)(cs:List AV):zkX s id e x (some cs)=some (qk,s.put id (.row e cs x false)):=rfl
noncomputable def stO(s:St)(id off n:Nat)(w:AV):Option AObj→Option (AV×St)
 |some (.row e cs x false)=>bif (zb (qg w.cells) n&&wd w.cells)then zkX s id e x (ur cs off w.cells)else none
 |_=>none
theorem zmV(s:St)(id off n:Nat)(w:AV)(e:Nat)(cs:List AV)(x:Bool):stO s id off n w (some (.row e cs x false))=(bif (zb (qg w.cells) n&&wd w.cells)then zkX s id e x (ur cs off w.cells)else none):=rfl
theorem zmx(s:St)(n id off:Nat)(w:AV):oSt s n (.ptr id off) w=stO s id off n w (s.get id):=by
 unfold oSt jc;simp only;cases s.get id with
 |none=>cases zb (qg w.cells) n<;>rfl
 | some o=>
  cases o<;>first|(cases zb (qg w.cells) n<;>rfl)|skip
  rename_i e cs x fz
  cases fz
  ·simp only[stO];cases zb (qg w.cells) n<;>cases wd w.cells<;>simp only[xD,xE,Bool.not_false,cond_true,cond_false,Bool.and_true,Bool.and_false,Bool.true_and,Bool.false_and]
   cases ur cs off w.cells<;>rfl
  ·cases zb (qg w.cells) n<;>rfl
theorem zxp(s:St)(id off:Nat)(vs:List AV)(e:Nat)(cs cs':List AV)(x:Bool)(h:s.get id=some (.row e cs x false))(ha:wd vs=true)(hp:ur cs off vs=some cs'):jc s (.ptr id off) vs=some (s.put id (.row e cs' x false)):=by
 unfold jc;simp only[h,ha,hp,xD,xE,cond_false]
theorem zlw(a b:Nat):ze a b=decide (a≤b):=by
 cases h:ze a b with
 |true=>exact(decide_eq_true (x9.1 h)).symm
 |false=>exact(decide_eq_false (fun e=>by rw[x9.2 e]at h;cases h)).symm
theorem zjx(a b:Nat):zg a b=decide (a<b):=by
 cases h:zg a b with
 |true=>exact(decide_eq_true (wK.1 h)).symm
 |false=>exact(decide_eq_false (fun e=>by rw[wK.2 e]at h;cases h)).symm
theorem zjw(a b:Nat):zb a b=decide (a=b):=by
 cases h:zb a b with
 |true=>exact(decide_eq_true (we.1 h)).symm
 |false=>exact(decide_eq_false (fun e=>by rw[we.2 e]at h;cases h)).symm
mutual
theorem Kh(n0:Nat):∀{v:AV},wq v=true→Ze n0 v=some v
 |.bool _,_=>rfl
 |.int _ _,_=>rfl
 |.str _,_=>rfl
 |.nilp,_=>rfl
 |.gptr _ _,_=>rfl
 |.sl0,_=>rfl
 |.nils,_=>rfl
 |.nilm,_=>rfl
 |.nilf,_=>rfl
 |.nili,_=>rfl
 |.lst _ _ _,_=>rfl
 |.vp _,_=>rfl
 |.ifc _ v,h=>by simp only[Ze,h,cond_true]
 |.fn _ a c,h=>by simp only[Ze,h,cond_true]
 |.agg cs,h=>by simp only[Ze,h,cond_true]
 |.tup vs,h=>by simp only[Ze,h,cond_true]
 |.ptr _ _,h=>by simp[wq]at h
 |.sl _ _ _ _,h=>by simp[wq]at h
 |.map _,h=>by simp[wq]at h
 |.yld _,h=>by simp[wq]at h
 |.gr _ _ _ _,h=>by simp[wq]at h
end
theorem Kl(n0:Nat):∀{l:List AV},xY l=true→Xt n0 l=some l
 |[],_=>rfl
 |v::r,h=>by
  simp only[xY,Bool.and_eq_true]at h;simp only[Xt,Kh n0 h.1,Kl n0 h.2]
theorem Kk(n0:Nat)(h:wq v=true):Qu n0 v=some v:=by
 cases v<;>first|exact Kh n0 h|skip
 rename_i cs
 simp only[wq]at h;simp only[Qu,Kl n0 h]
theorem Kp(n0:Nat):∀{l:List AV},xY l=true→Xu n0 l=some l
 |[],_=>rfl
 |v::r,h=>by
  simp only[xY,Bool.and_eq_true]at h;simp only[Xu,Kk n0 h.1,Kp n0 h.2]
theorem zus(n0:Nat)(h:wq v=true):Zf n0 v=some v:=by
 cases v<;>first|exact Kk n0 h|skip
 rename_i cs
 simp only[wq]at h;simp only[Zf,Kp n0 h]
def zjg:Option (List AV)→Option AV
 |some l=>some (.tup l)
 |none=>none
theorem zty(l:List AV):zjg (some l)=some (.tup l):=rfl
theorem zrN(n0:Nat)(vs:List AV):Zf n0 (.tup vs)=zjg (Xu n0 vs):=by simp only[Zf,zjg];cases Xu n0 vs<;>rfl
theorem zrP(n0:Nat):Xu n0 []=some []:=rfl
theorem zuu(n0:Nat)(v:AV)(r:List AV):Xu n0 (v::r)=pC (Qu n0 v) (Xu n0 r):=by
 simp only[Xu,pC];cases Qu n0 v<;>cases Xu n0 r<;>rfl
theorem zrO(n0:Nat):Xt n0 []=some []:=rfl
theorem zut(n0:Nat)(v:AV)(r:List AV):Xt n0 (v::r)=pC (Ze n0 v) (Xt n0 r):=by
 simp only[Xt,pC];cases Ze n0 v<;>cases Xt n0 r<;>rfl
theorem G0(n0 id e n:Nat)(cs:List AV):Ze n0 (.gr id e n cs)=if n0≤id then some (.lst n false cs)else some (.gr id e n cs):=by
 simp only[Ze,zlw];by_cases h:n0≤id<;>simp[h]
theorem znV(n0 id e n:Nat)(cs:List AV):Qu n0 (.gr id e n cs)=if n0≤id then some (.lst n false cs)else some (.gr id e n cs):=G0 n0 id e n cs
theorem znW(n0 id e n:Nat)(cs:List AV):Zf n0 (.gr id e n cs)=if n0≤id then some (.lst n false cs)else some (.gr id e n cs):=G0 n0 id e n cs
theorem Pg(n0:Nat)(cs:List AV):Qu n0 (.agg cs)=Y5 (Xt n0 cs):=rfl
theorem zrM(n0:Nat)(cs:List AV):Zf n0 (.agg cs)=Y5 (Xt n0 cs):=Pg n0 cs
theorem zz0:ww []=[]:=rfl
theorem H4(b:Nat)(r:List Nat):ww (b::r)=.int .u8 (.ofNat b)::ww r:=rfl
theorem gN:∀(n:Nat) (l:List Nat),wH n (ww l)=ww (l.drop n)
 |0,l=>rfl
 |n+1,[]=>rfl
 |n+1,b::r=>by simp only[ww,wH,xF];exact gN n r
theorem Wx:∀(n:Nat) (l:List Nat),tkN n (ww l)=ww (l.take n)
 |0,l=>by simp[tkN,ww]
 |n+1,[]=>rfl
 |n+1,b::r=>by simp only[ww,tkN,xB];rw[Wx n r]
theorem Ql:∀{n:Nat} {l:List Nat},n≤l.length→wj n (ww l)=some (ww (l.take n))
 |0,l,_=>by simp[wj,ww]
 |n+1,[],h=>by simp at h
 |n+1,b::r,h=>by simp only[ww,wj,Ql (n:=n) (l:=r) (by simpa using h),xB]
theorem Ym:∀{l:List Nat},(∀b∈l,b<256)→uT (ww l)=some l
 |[],_=>rfl
 |b::r,h=>by
  simp only[ww,uT,Ym (l:=r) (fun x hx=>h x (by simp[hx])),wK.2 (h b (by simp)),cond_true]
theorem zkH(a b:Nat):Nat.lor a b=a|||b:=rfl
theorem zpx(ρ:Nat→Option Nat)(k:IntKind)(n:Int):vI ρ (.int k n)=some (.int k n):=by simp only[vI]
theorem zu2(ρ:Nat→Option Nat)(b:Bool):vI ρ (.bool b)=some (.bool b):=by simp only[vI]
theorem zpA(ρ:Nat→Option Nat)(s:List Nat):vI ρ (.str s)=some (.str s):=by simp only[vI]
theorem zu3(ρ:Nat→Option Nat):vI ρ .nils=some .nils:=by simp only[vI]
theorem zpy(ρ:Nat→Option Nat)(n:Nat)(e:Bool)(l:List AV):vI ρ (.lst n e l)=some (.lst n e l):=by simp only[vI]
def jS(f:Nat→AV):Option Nat→Option AV
 |some j=>some (f j)
 |none=>none
theorem zn8(f:Nat→AV)(j:Nat):jS f (some j)=some (f j):=rfl
theorem zpz(ρ:Nat→Option Nat)(i o:Nat):vI ρ (.ptr i o)=jS (fun j=>.ptr j o) (ρ i):=by simp only[vI];cases ρ i<;>rfl
theorem zmF(ρ:Nat→Option Nat)(i e n:Nat)(l:List AV):vI ρ (.gr i e n l)=jS (fun j=>.gr j e n l) (ρ i):=by simp only[vI];cases ρ i<;>rfl
def fnO(f:Nat):Option (List AV)→Option (List AV)→Option AV
 |some a,some c=>some (.fn f a c)
 |_,_=>none
theorem zrD(f:Nat)(a c:List AV):fnO f (some a) (some c)=some (.fn f a c):=rfl
theorem zmE(ρ:Nat→Option Nat)(f:Nat)(a c:List AV):vI ρ (.fn f a c)=fnO f (Zw ρ (xY a) a) (Zw ρ (xY c) c):=by
 simp only[vI];cases Zw ρ (xY a) a<;>cases Zw ρ (xY c) c<;>rfl
theorem zkZ(ρ:Nat→Option Nat)(l:List AV):Zw ρ true l=some l:=by simp only[Zw,cond_true]
theorem jv(b:Bool):wq (.bool b)=true:=rfl
theorem vb(k:IntKind)(n:Int):wq (.int k n)=true:=rfl
theorem lL(s:List Nat):wq (.str s)=true:=rfl
theorem zxf:wq .nilp=true:=rfl
theorem zxb(g o:Nat):wq (.gptr g o)=true:=rfl
theorem zuZ:wq .sl0=true:=rfl
theorem UC:wq .nils=true:=rfl
theorem zxe:wq .nilm=true:=rfl
theorem zxc:wq .nilf=true:=rfl
theorem zxd:wq .nili=true:=rfl
theorem qe(n:Nat)(e:Bool)(l:List AV):wq (.lst n e l)=true:=rfl
theorem zpt(l:List AV):wq (.vp l)=true:=rfl
theorem zuY(t:Nat)(v:AV):wq (.ifc t v)=wq v:=rfl
theorem XK(f:Nat)(a c:List AV):wq (.fn f a c)=(xY a&&xY c):=rfl
theorem vw(l:List AV):wq (.agg l)=xY l:=rfl
theorem uQ(l:List AV):wq (.tup l)=xY l:=rfl
theorem wA:xY []=true:=rfl
theorem wp(v:AV)(r:List AV):xY (v::r)=(wq v&&xY r):=rfl
theorem zrI(n0:Nat)(k:IntKind)(n:Int):Ze n0 (.int k n)=some (.int k n):=rfl
theorem zrK(n0:Nat)(s:List Nat):Ze n0 (.str s)=some (.str s):=rfl
theorem zrJ(n0:Nat)(n:Nat)(e:Bool)(l:List AV):Ze n0 (.lst n e l)=some (.lst n e l):=rfl
theorem zrL(n0:Nat)(k:IntKind)(n:Int):Qu n0 (.int k n)=some (.int k n):=rfl
theorem lT{C:Cx}{ib:ICode}{Q:Res→Fr→St→Prop}{α:Type}(m:α→Nat)(fr:α→Fr)(st:α→St)(I:α→Prop)
  (step:∀x,I x→Tri C ib (fr x) (st x) (wM (fun f t=>∃y,I y∧m y<m x∧Gc C f t (fr y) (st y)) Q)):∀x,I x→U5 C ib (fr x) (st x) Q:=by
 have key:∀n x,m x<n→I x→U5 C ib (fr x) (st x) Q:=by
  intro n
  induction n with
  |zero=>intro x h;omega
  | succ n ih=>
   intro x hx hI;refine Z6 ((step x hI).mono fun r f t=>?_);cases r with
   |norm=>
    rintro⟨y,h1,h2,h3⟩
    exact zw8 h3 (ih y oM h1)
   |exit i=>exact fun h=>h
   |ret=>exact fun h=>h
 exact fun x hI=>key (m x+1) x oM hI
theorem WA:∀l:List Nat,wkL (ww l)=ww l
 |[]=>rfl
 |b::r=>by simp only[ww,wkL,wkV,WA r]
theorem Vc:∀{a b:List Nat},ww a=ww b→a=b
 |[],[],_=>rfl
 |[],_::_,h=>by simp[ww]at h
 |_::_,[],h=>by simp[ww]at h
 |x::a,y::b,h=>by
  simp only[ww,List.cons.injEq,AV.int.injEq,true_and]at h;obtain⟨h1,h2⟩:=h;have:x=y:=by cases h1;rfl
  rw[this,Vc h2]
structure Is(C:Cx)(E:Env)(O:Orc)(c:St)(M:Nat):Prop where
 ok:CxOk C
 e:C.E=E
 o:C.O=O
 rd:C.rd=none
 s:C.s=c
 m:C.M=M
section
variable {C:Cx}{E:Env}{O:Orc}{c:St}{M:Nat}{ic:ICode}{fr fr' fr1:Fr}{s s' s1:St}{Q:Res→Fr→St→Prop}{res:Res}
theorem Is.eval(k:Is C E O c M)(h:evC E (evW E O) none ic fr s=some (res,fr',s'))(q:Q res fr' s'):Tri C ic fr s Q:=
 zzt k.ok (by rw[k.e,k.o,k.rd];exact h) q
theorem Is.ev(k:Is C E O c M)(h:∃r,evC E (evW E O) none ic fr s=some r∧Q r.1 r.2.1 r.2.2):Tri C ic fr s Q:=by
 obtain⟨⟨res,fr',s'⟩,h1,h2⟩:=h;exact k.eval h1 h2
theorem Is.gcs(k:Is C E O c M){keep live:List Nat}{md:Bool}(h:gcF false c M keep live md fr s=some (fr1,s1)):Gc C fr s fr1 s1:=
 zr1 k.ok (wk:=false) (keep:=keep) (live:=live) (md:=md) (by rw[k.s,k.m];exact h)
theorem Is.gcL(k:Is C E O c M)(keep live:List Nat)(md:Bool)(h:gcF false c M keep live md fr s=some (fr1,s1))(t:U5 C ic fr1 s1 Q):U5 C ic fr s Q:=zw8 (k.gcs h) t
end
def Cut(C:Cx)(fr1:Fr)(s1:St)(Q:Res→Fr→St→Prop):Res→Fr→St→Prop
 |.norm,f,t=>Gc C f t fr1 s1
 |r,f,t=>Q r f t
theorem zw9{C:Cx}{ia ib:ICode}{fr:Fr}{Q:Res→Fr→St→Prop}(fr1:Fr)(s1:St)(h1:Tri C ia fr s (Cut C fr1 s1 Q))(h2:Tri C ib fr1 s1 Q):Tri C (.seq ia ib) fr s Q:=
 qq (h1.mono fun r f t=>by
  cases r with
  |norm=>exact fun h=>zxy h h2
  |exit i=>exact fun h=>h
  |ret=>exact fun h=>h)
theorem Is.sc(hO:OrcOk P w0 O)(hm:P.follows .mixedOrders=true)(hG:x8 E.globs w0)(hE:ki P E){f:Nat}{F:IFunc}{args:List AV}{os:List (Option AObj)}{b:Bool}{c':St}(M:Nat)
  (hF:E.funs.get f=some F) (hle:args.length≤F.ntmps) (hM:∀i,M.testBit i=true→∃o,jB os i=some o∧qO o=false)
  (h:∀C:Cx,Is C E O (H os 0 b) M→Tri C F.body {tm:=wL (tmL []) 0 args,df:=[]} (H os 0 b) (Fin E (H os 0 b) M F.res v c')):SC P w0 f args (H os 0 b) v c':=
 zxj hO hm hG hE M hF hle rfl rfl rfl (fun i hi=>by
  obtain⟨o,h1,h2⟩:=hM i hi;exact⟨zwc h1,o,by rw[QX];exact h1,h2⟩) fun C ok h1 h2 h3 h4 h5=>h C ⟨ok,h1,h2,h3,h4,h5⟩
theorem Yx{c:St}{M:Nat}{res:List RV}{c':St}{r:Res}{fr:Fr}{s2:St}{vs:List AV}{v0:AV}(h0:r=.norm∨r=.ret)(h1:qf s fr.df=some s2)(h2:jI E.globs fr.tm s2 res=some vs)(h3:Zf c.next (vS vs)=some v0)(h4:wkV v0=v)(h5:gcF true c M [] [] c.md {tm:=tmL [],df:=[]} s2=some ({tm:=tmL [],df:=[]},c')):Fin E c M res v c' r fr s:=
 ⟨h0,s2,vs,v0,_,h1,h2,h3,h4.symm,h5⟩
theorem gB{os:List (Option AObj)}:∀i,(0:Nat).testBit i=true→∃o,jB os i=some o∧qO o=false:=fun i h=>by simp at h
theorem zjL{os:List (Option AObj)}(hg:qO o=false):∀i,(1:Nat).testBit i=true→∃o',jB (some o::os) i=some o'∧qO o'=false:=fun i h=>by
 cases i with
 |zero=>exact⟨o,rfl,hg⟩
 |succ i=>rw[Nat.testBit_succ]at h;simp at h
def Byt(l:List Nat):Prop:=∀x∈l,x<256
theorem Byt.drop{l:List Nat}(h:Byt l)(n:Nat):Byt (l.drop n):=fun x hx=>h x (List.mem_of_mem_drop hx)
theorem Byt.take{l:List Nat}(h:Byt l)(n:Nat):Byt (l.take n):=fun x hx=>h x (List.mem_of_mem_take hx)
theorem Byt.cons{c:Nat}{l:List Nat}(h:Byt (c::l)):c<256∧Byt l:=⟨h c (by simp),fun x hx=>h x (by simp[hx])⟩
theorem ztb{e:Bool}{k k':IntKind}{lo hi:Nat}(h1:lo≤hi)(h2:hi≤b.length):QG 1 (.lst b.length e (ww b)) (some (.int k (.ofNat lo))) (some (.int k' (.ofNat hi))) none=some (.lst (hi-lo) (e&&Nat.beq hi b.length) (ww ((b.drop lo).take (hi-lo)))):=by
 simp only[QG,zxC,bnd,x9.2 h1,x9.2 h2,cond_true];show some (AV.lst (hi-lo) _ (tkN ((hi-lo)*1) (wH (lo*1) (ww b))))=_;rw[xC,xC,gN,Wx]
theorem HC{e:Bool}{k:IntKind}{lo:Nat}(h1:lo≤b.length):QG 1 (.lst b.length e (ww b)) (some (.int k (.ofNat lo))) none none=some (.lst (b.length-lo) (e&&Nat.beq b.length b.length) (ww (b.drop lo))):=by
 simp only[QG,zxC,bnd,x9.2 h1,cond_true];show some (AV.lst (b.length-lo) _ (tkN ((b.length-lo)*1) (wH (lo*1) (ww b))))=_;rw[xC,xC,gN,Wx,List.take_of_length_le (by simp)]
theorem JJ{e:Bool}{l:List Nat}(hn:l.length=n)(hb:Byt l):ztF s (.lst n e (ww l))=some (.str l):=by
 subst hn;simp only[ztF,Ql (Nat.le_refl _),List.take_length,uf,Ym hb,XV]
theorem zl6{t:List Nat}(h:t.length<9223372036854775808)(l:List (Nat×Option AObj))(n m:Nat)(hd:List (Nat×Nat))(on:Option (Nat×List Nat))(e:Nat):Qz (KL l n m true hd on) e (.str t)=some (.lst t.length false (ww t),KL l n m true hd on):=by
 simp only[Qz,wV,wK.2 h,cond_true,WD]
theorem lx:wd []=true:=rfl
theorem jx(v:AV)(r:List AV):wd (v::r)=(ua v&&wd r):=by simp only[wd];cases ua v<;>rfl
theorem XM(k:IntKind)(n:Int):ua (.int k n)=true:=by simp only[ua]
theorem zpM(s:List Nat):ua (.str s)=true:=by simp only[ua]
theorem Wu(b:Bool):ua (.bool b)=true:=by simp only[ua]
theorem XN(n:Nat)(e:Bool)(l:List AV):ua (.lst n e l)=true:=by simp only[ua]
theorem zmO(i e n:Nat)(l:List AV):ua (.gr i e n l)=true:=by simp only[ua]
theorem zu7:ua .nils=true:=by simp only[ua]
theorem zpL(i o:Nat):ua (.ptr i o)=true:=by simp only[ua]
theorem zpK(i:Nat):ua (.map i)=true:=by simp only[ua]
theorem zo5{a b:Nat}(h:a<b):decide (a<b)=true:=decide_eq_true h
theorem zo4{a b:Nat}(h:b≤a):decide (a<b)=false:=decide_eq_false oM
theorem zo3{a b:Nat}(h:b<a):decide (a≤b)=false:=decide_eq_false oM
theorem zyV(k:IntKind){a:Nat}(h:a<n):idx (.int k (.ofNat a)) n=some a:=by rw[zn5,if_pos h]
theorem w6{l:List AV}(h:l.length=n):wj n l=some l:=by
 subst h
 induction l with
 |nil=>rfl
 |cons v r ih=>simp only[yb,wj,ih]
theorem gF(n:Nat)(e:Bool)(cs:List AV):j6 (.lst n e cs)=some n:=rfl
theorem Jy(l:List (Nat×Option AObj))(n m:Nat)(hd:List (Nat×Nat))(on:Option (Nat×List Nat))(t esz bytes:Nat)(e:Bool)(cs:List AV)(hl:cs.length=esz)(h1:1≤esz)(hb:2*bytes≤281474976710656)(hp:xY cs=true):
  jg (KL l n m true hd on) t esz bytes .nils (.lst 1 e cs)=some (.gr n esz 1 cs,KL ((n,some (.app t cs))::l) (n+1) m true hd on):=by
 have h2:wj (zc 1 esz) cs=some cs:=w6 (by rw[hl];show esz=1*esz;omega)
 simp only[jg,gF,qC,h2,pM,WD,hp,xA,cond_true,lE];rw[show ze (zc (zc 2 1) bytes) 281474976710656=true from x9.2 (by show 2*1*bytes≤_;omega),show ze 1 esz=true from x9.2 h1]
 rfl
theorem zxI(l:List (Nat×Option AObj))(n m:Nat)(b:Bool)(t esz bytes id k:Nat)(e:Bool)(old cs:List AV)(hg:xN l id=some (.app t old))(hl:cs.length=esz)(h1:1≤esz)(hb:2*(k+1)*bytes≤281474976710656)(hk:k<1000000000)(hp:xY old=true)(hp2:xY cs=true)(hs:wd cs=true):
  jg (KL l n m b [] none) t esz bytes (.gr id esz k old) (.lst 1 e cs)=some (.gr n esz (k+1) (old++cs),KL ((n,some (.app t (old++cs)))::(id,none)::l) (n+1) (m|||1<<<id) b [] none):=by
 have h2:wj (zc 1 esz) cs=some cs:=w6 (by rw[hl];show esz=1*esz;omega)
 have h3:xY (old++cs)=true:=by rw[uR,hp,hp2];rfl
 simp only[jg,gF,qC,h2,pM,wh,hg,we.2,hs,xA,cond_true,lE,h3];rw[show ze (zc (zc 2 (Nat.add k 1)) bytes) 281474976710656=true from x9.2 hb,show ze 1 esz=true from x9.2 h1,show zg (Nat.add k 1) 9223372036854775808=true from wK.2 (by show k+1<_;omega)]
 rfl
theorem zmm(l:List (Nat×Option AObj))(n m:Nat)(hd:List (Nat×Nat))(on:Option (Nat×List Nat))(e len:Nat)(cs:List AV)(hp:xY cs=true):XE (KL l n m true hd on) e len (some cs)=some (.lst len true cs,KL l n m true hd on):=by
 simp only[XE,WD,hp,xA,cond_true]
noncomputable def zrz(zs:List AV)(off n:Nat)(tm:Trie AV)(r:List (Nat×Nat×Opd)):Option AV→Option (List AV)
 | some v=>bif zb (qg v.cells) n&&ze 1 n then (match ur zs off v.cells with
   |some zs'=>jF zs' tm r
   |none=>none)else none
 |none=>none
theorem zun(zs:List AV)(tm:Trie AV):jF zs tm []=some zs:=rfl
theorem zyI(zs:List AV)(tm:Trie AV)(off n:Nat)(x:Opd)(r:List (Nat×Nat×Opd)):jF zs tm ((off,n,x)::r)=zrz zs off n tm r (x.ev tm):=by
 simp only[jF,zrz];cases x.ev tm<;>rfl
theorem zyJ(zs:List AV)(off n:Nat)(tm:Trie AV)(r:List (Nat×Nat×Opd))(v:AV):zrz zs off n tm r (some v)=bif zb (qg v.cells) n&&ze 1 n then (match ur zs off v.cells with
   |some zs'=>jF zs' tm r
   |none=>none)else none:=rfl
theorem zlM(hO:OrcOk P w0 O)(hm:P.follows .mixedOrders=true)(hG:x8 E.globs w0)(hE:ki P E){f:Nat}{args:List AV}(h:okV v ((evT E O n).call f args s0)=true):∃s1,SC P w0 f args (s00 0 false) v s1:=by
 obtain⟨s1,hs⟩:=zqV h;have:=(VT hO.ext hm hG hE hO.ok n).call hs;exact⟨s1,this.1,fun φ w xs r hwf hf hx F k hF=>this.2 r hwf hf hx F k hF⟩
section
variable {P:Program}{w0:World}{f:Nat}{α:Type}
theorem SC.args{args args':List AV}(h:SC P w0 f args' s v s')(hw:∀φ xs,VRL φ args xs→VRL φ args' xs):SC P w0 f args s v s':=
 ⟨h.1,fun φ w xs r hwf hf hx F n hF=>h.2 φ w xs r hwf hf (hw φ xs hx) F n hF⟩
open Classical in
noncomputable def vF(enc:α→List AV)(Pre:α→Prop)(F:α→AV)(args:List AV)(s:St):Option (AV×St):=
 if h:∃x,enc x=wkL args∧Pre x then some (F (Classical.choose h),s)else none
theorem qP{enc:α→List AV}{Pre:α→Prop}{F:α→AV}(inj:∀x y,enc x=enc y→x=y){args:List AV}(s:St)(x:α)(hp:Pre x)(ha:wkL args=enc x):vF enc Pre F args s=some (F x,s):=by
 have h:∃x,enc x=wkL args∧Pre x:=⟨x,ha.symm,hp⟩;unfold vF;rw[dif_pos h];have:=xg h;rw[inj _ x (this.1.trans ha)]
theorem lJ{enc:α→List AV}{Pre:α→Prop}{F:α→AV}(args:List AV)(s:St)(v:AV)(s':St)(h:vF enc Pre F args s=some (v,s')):Ext s s':=by
 unfold vF at h;split at h
 ·cases h;exact Ext.refl _
 ·cases h
theorem Wh{enc:α→List AV}{Pre:α→Prop}{F:α→AV}(b:Bool)(hp1:∀x,xY (enc x)=true)(hp2:∀x,wq (F x)=true)(h:∀x,Pre x→∃s1,SC P w0 f (enc x) (s00 0 b) (F x) s1):qz P w0 f (vF enc Pre F):=by
 intro args s v s' hg;unfold vF at hg;split at hg
 ·rename_i hx
  cases hg;obtain⟨h1,h2⟩:=xg hx;obtain⟨s1,hs⟩:=h _ h2;refine SC.args (SC.up hs (hp1 _) (hp2 _) s) fun φ xs hv=>?_;rw[h1];exact j9 hv
 ·cases hg
open Classical in
end
theorem zs5(S:Self)(l:Nat)(vs:List AV)(s:St):GT S (some (.yld l)) (some vs) s=S.round l vs s:=rfl
theorem pe(E:Env)(O:Orc)(l:Nat)(a:List AV)(s:St):(evW E O).round l a s=ja E (evW E O) l a s:=by
 cases h:ja E (evW E O) l a s with
 |some r=>exact zuj h
 | none=>
  cases h2:(evW E O).round l a s with
  |none=>rfl
  | some r=>
   obtain⟨n,hn⟩:=vg (α:=AV×St) h2;cases n with
   |zero=>cases hn
   |succ n=>
    have h3:ja E (evT E O n) l a s=some r:=hn;have h4:LeS (evT E O n) (evW E O):=⟨fun f a s r h=>jo (fun n r h=>(uY E O n).call _ _ _ _ h) h,fun rd b fr s r h=>jo (fun n r h=>(uY E O n).loop _ _ _ _ _ h) h,fun l a s r h=>jo (fun n r h=>(uY E O n).round _ _ _ _ h) h⟩;rw[(X3 E l a s).up _ _ h4 r h3]at h;cases h
theorem LY(E:Env)(O:Orc)(rd:Option Nat)(b:ICode)(fr:Fr)(s:St):(evW E O).loop rd b fr s=evC E (evW E O) rd (.loop b) fr s:=by
 cases h:evC E (evW E O) rd (.loop b) fr s with
 |some r=>exact zrv h
 | none=>
  cases h2:(evW E O).loop rd b fr s with
  |none=>rfl
  | some r=>
   obtain⟨n,hn⟩:=vg (α:=Res×Fr×St) h2;cases n with
   |zero=>cases hn
   |succ n=>
    have h3:evC E (evT E O n) rd (.loop b) fr s=some r:=hn;have h4:LeS (evT E O n) (evW E O):=⟨fun f a s r h=>jo (fun n r h=>(uY E O n).call _ _ _ _ h) h,fun rd b fr s r h=>jo (fun n r h=>(uY E O n).loop _ _ _ _ _ h) h,fun l a s r h=>jo (fun n r h=>(uY E O n).round _ _ _ _ h) h⟩;rw[(kA E rd (.loop b) fr s).up _ _ h4 r h3]at h;cases h
theorem zs2(E:Env)(O:Orc)(rd:Option Nat)(b:ICode)(fr:Fr)(s:St):evC E (evW E O) rd (.loop b) fr s=uV (fun f t=>evC E (evW E O) rd (.loop b) f t) (evC E (evW E O) rd b fr s):=by
 show uV ((evW E O).loop rd b) _=_
 congr 1
 funext f t
 exact LY E O rd b f t
noncomputable def zmD(E:Env)(S:Self)(l:Nat)(asg body:ICode)(s:St):Option (Trie AV)→Option (AV×St)
 |some tm=>vc E S l body (evC E S (some l) asg {tm:=tm,df:=[]} s)
 |none=>none
noncomputable def zkY(E:Env)(S:Self)(l:Nat)(args:List AV)(s:St):Option AObj→Option (AV×St)
 |some (.loop _ _ tm ps asg body _)=>zmD E S l asg body s (hU tm ps args)
 |_=>none
theorem Ga(E:Env)(S:Self)(l:Nat)(args:List AV)(s:St):ja E S l args s=zkY E S l args s (s.get l):=by
 unfold ja zkY;cases s.get l with
 |none=>rfl
 |some o=>cases o<;>first|rfl|(simp only[zmD];split<;>simp_all)
theorem K8(E:Env)(S:Self)(l:Nat)(args:List AV)(s:St)(st:LSt)(pd:Option Res)(tm:Trie AV)(ps:List Nat)(asg body:ICode)(d:Nat):zkY E S l args s (some (.loop st pd tm ps asg body d))=zmD E S l asg body s (hU tm ps args):=rfl
theorem K9(E:Env)(S:Self)(l:Nat)(asg body:ICode)(s:St)(tm:Trie AV):zmD E S l asg body s (some tm)=vc E S l body (evC E S (some l) asg {tm:=tm,df:=[]} s):=rfl
noncomputable def rbK(E:Env)(S:Self)(l:Nat)(bd:ICode)(fr:Fr)(s:St):Option AObj→Option (AV×St)
 |some (.loop .ready pd tm ps asg body d)=>ue l (evC E S (some l) bd fr (s.put l (.loop .busy pd tm ps asg body d)))
 |_=>none
theorem Zy(E:Env)(S:Self)(l:Nat)(bd:ICode)(fr:Fr)(s:St):vc E S l bd (some (.norm,fr,s))=rbK E S l bd fr s (s.get l):=by
 unfold vc rbK;simp only;cases s.get l with
 |none=>rfl
 |some o=>cases o<;>first|rfl|(rename_i st _ _ _ _ _ _;cases st<;>rfl)
theorem K7(E:Env)(S:Self)(l:Nat)(bd:ICode)(fr:Fr)(s:St)(pd:Option Res)(tm:Trie AV)(ps:List Nat)(asg body:ICode)(d:Nat):rbK E S l bd fr s (some (.loop .ready pd tm ps asg body d))=ue l (evC E S (some l) bd fr (s.put l (.loop .busy pd tm ps asg body d))):=rfl
noncomputable def reK(l:Nat)(r:Res)(s:St):Option AObj→Option (AV×St)
 |some (.loop _ _ tm ps asg body d)=>match r with
  |.norm=>some (.bool true,s.put l (.loop .ready none tm ps asg body d))
  |r=>some (.bool false,s.put l (.loop .done (some r) tm ps asg body d))
 |_=>none
theorem Yj(l:Nat)(r:Res)(fr:Fr)(s:St):ue l (some (r,fr,s))=reK l r s (s.get l):=by
 unfold ue reK;simp only;cases s.get l with
 |none=>rfl
 |some o=>cases o<;>first|rfl|(cases r<;>rfl)
theorem PX(l:Nat)(s:St)(st:LSt)(pd:Option Res)(tm:Trie AV)(ps:List Nat)(asg body:ICode)(d:Nat):reK l .norm s (some (.loop st pd tm ps asg body d))=some (.bool true,s.put l (.loop .ready none tm ps asg body d)):=rfl
theorem zkd(E:Env)(S:Self)(rd:Option Nat)(g:Opd)(ps:List Nat)(asg body:ICode)(fr:Fr)(s:St):evC E S rd (.rf g ps asg body) fr s=rfR S rd (g.ev fr.tm) ps asg body fr s:=rfl
theorem zk2(S:Self)(f:Nat)(a c:List AV)(ps:List Nat)(asg body:ICode)(tm:Trie AV)(df:List Nat)(s:St):rfR S none (some (.fn f a c)) ps asg body ⟨tm,df⟩ s=gZ ⟨tm,df⟩ (s.next+1) s.next (S.call f (a++ .yld (s.next+1)::c) ((s.alloc .dfd).alloc (.loop .ready none tm ps asg body s.next))):=rfl
noncomputable def feK(fr:Fr)(l d:Nat)(s:St):Option AObj→Option (Res×Fr×St)
 |some (.loop st pend tm ps asg body dd)=>match st with
  |.busy=>none
  |_=>some (PT pend,{fr with df:=d::fr.df},s.put l (.loop .exhausted pend tm ps asg body dd))
 |_=>none
theorem zxh(fr:Fr)(l d:Nat)(v:AV)(s:St):gZ fr l d (some (v,s))=feK fr l d s (s.get l):=by
 unfold gZ feK;simp only;cases s.get l with
 |none=>rfl
 |some o=>cases o<;>rfl
theorem zum(tm0:Trie AV)(df:List Nat)(l d:Nat)(s:St)(pend:Option Res)(tm:Trie AV)(ps:List Nat)(asg body:ICode)(dd:Nat):feK ⟨tm0,df⟩ l d s (some (.loop .ready pend tm ps asg body dd))=some (PT pend,⟨tm0,d::df⟩,s.put l (.loop .exhausted pend tm ps asg body dd)):=rfl
theorem zy5:PT none=.norm:=rfl
def xP{α:Type}(f:α→List AV):List α→List AV
 |[]=>[]
 |x::r=>f x++xP f r
section
variable {α:Type}{f:α→List AV}{k:Nat}
theorem wQ:∀l m:List α,xP f (l++m)=xP f l++xP f m
 |[],_=>rfl
 |x::r,m=>by simp only[zM,xP,wQ r m,List.append_assoc]
theorem qM(x:α):xP f [x]=f x:=by simp only[xP,List.append_nil]
theorem vu(h:∀x,(f x).length=k):∀l:List α,(xP f l).length=l.length*k
 |[]=>by simp[xP]
 |x::r=>by simp only[xP,yA,h,vu h r,yb,Nat.succ_mul];omega
theorem uD(h:∀x,(f x).length=k):∀(i:Nat) (l:List α),wH (i*k) (xP f l)=xP f (l.drop i)
 |0,l=>by rw[wY];simp
 |i+1,[]=>by rw[wY];simp[xP]
 |i+1,x::r=>by
  rw[wY];simp only[xP,xF];rw[←uD h i r,wY,Nat.succ_mul,Nat.add_comm,←List.drop_drop]
  congr 1
  rw[←h x];simp
theorem vx{a b:List AV}(h:a.length=n):wj n (a++b)=some a:=by
 subst h
 induction a with
 |nil=>rfl
 |cons v r ih=>simp only[zM,yb,wj,ih]
theorem wG(h:∀x,xY (f x)=true):∀l:List α,xY (xP f l)=true
 |[]=>rfl
 |x::r=>by simp only[xP,uR,h,wG h r,xA]
theorem vN(h:∀x,wkL (f x)=f x):∀l:List α,wkL (xP f l)=xP f l
 |[]=>rfl
 | x::r=>by
  have ap:∀a b:List AV,wkL (a++b)=wkL a++wkL b:=fun a b=>by
   induction a with
   |nil=>rfl
   |cons v a ih=>simp only[zM,wkL,ih]
  simp only[xP,ap,h,vN h r]
theorem j0(hk:∀x,(f x).length=k)(h0:0<k)(h:∀x y,f x=f y→x=y):∀{l m:List α},xP f l=xP f m→l=m
 |[],[],_=>rfl
 |[],y::m,e=>by
  have:=congrArg xj e;simp only[xP,xz,yA,hk]at this;omega
 |x::l,[],e=>by
  have:=congrArg xj e;simp only[xP,xz,yA,hk]at this;omega
 |x::l,y::m,e=>by
  simp only[xP]at e;obtain⟨h1,h2⟩:=List.append_inj e (by rw[hk,hk])
  rw[h x y h1,j0 hk h0 h h2]
end
inductive DT where
 |mk (k n:Int) (t:List Nat) (ks:List DT) (p:Int)
variable {d:DT}
mutual
def w4:DT→List AV
 |.mk k n t ks p=>[.int .i64 k,.int .i64 n,.str t,.lst ks.length false (wa ks),.int .i64 p]
def wa:List DT→List AV
 |[]=>[]
 |d::r=>w4 d++wa r
end
def Xk(d:DT):AV:=.agg (w4 d)
theorem wD(k n:Int)(t:List Nat)(ks:List DT)(p:Int):w4 (.mk k n t ks p)=[.int .i64 k,.int .i64 n,.str t,.lst ks.length false (wa ks),.int .i64 p]:=by simp only[w4]
theorem jW:wa []=[]:=by simp only[wa]
theorem gL(d:DT)(r:List DT):wa (d::r)=w4 d++wa r:=by simp only[wa]
theorem qE:∀l:List DT,wa l=xP w4 l
 |[]=>by simp only[wa,xP]
 |d::r=>by simp only[wa,xP,qE r]
theorem qQ:∀d:DT,(w4 d).length=5
 |.mk _ _ _ _ _=>by simp only[w4,yb,xz]
theorem uy:∀d:DT,xY (w4 d)=true
 |.mk _ _ _ _ _=>by simp only[w4,wp,wA,vb,lL,qe,xA]
theorem vA(l:List DT):xY (wa l)=true:=by rw[qE];exact wG uy l
mutual
theorem JN:∀d:DT,wkL (w4 d)=w4 d
 |.mk k n t ks p=>by simp only[w4,wkL,wkV,jA ks]
theorem jA:∀l:List DT,wkL (wa l)=wa l
 |[]=>by simp only[wa,wkL]
 | d::r=>by
  have ap:∀a b:List AV,wkL (a++b)=wkL a++wkL b:=fun a b=>by
   induction a with
   |nil=>rfl
   |cons v a ih=>simp only[zM,wkL,ih]
  simp only[wa,ap,JN d,jA r]
end
mutual
theorem Vq:∀{d e:DT},w4 d=w4 e→d=e
 |.mk k n t ks p,.mk k' n' t' ks' p',h=>by
  simp only[w4,List.cons.injEq,AV.int.injEq,AV.str.injEq,AV.lst.injEq,true_and,and_true]at h;obtain⟨rfl,rfl,rfl,⟨_,h1⟩,rfl⟩:=h;rw[kX h1]
theorem kX:∀{l m:List DT},wa l=wa m→l=m
 |[],[],_=>rfl
 |[],d::m,h=>by
  have:=congrArg xj h;simp only[wa,xz,yA,qQ]at this;omega
 |d::l,[],h=>by
  have:=congrArg xj h;simp only[wa,xz,yA,qQ]at this;omega
 |d::l,e::m,h=>by
  simp only[wa]at h;obtain⟨h1,h2⟩:=List.append_inj h (by rw[qQ,qQ])
  rw[Vq h1,kX h2]
end
theorem Lt(i:Nat)(l:List DT):wH (i*5) (wa l)=wa (l.drop i):=by rw[qE,qE];exact uD qQ i l
theorem Ja(l m:List DT):wa (l++m)=wa l++wa m:=by simp only[qE];exact wQ l m
theorem zsS{e:DT}(h:Xk d=Xk e):d=e:=Vq (by simpa [Xk]using h)
structure Tok where
 kind:Nat
 pos:Nat
 d:DT
attribute [go_sem] XQ zkU xL zv3 zyC zie zoB zjr WD wh Y1 jC ztN zzW znS zrt zmZ zmY zln zlm zlo zn3 zn2 zpZ P7 P6 QS P5 HA zme zu8 zxl zzV zpw znf zs6 Wp zuR zsY zmX zmW zr8 zr7 Hg Jk zyc Ly Hp PM Ho zoe ztv zp9 zto zts zog zxx zp8 zoa ztw zzq ztq zzp ztp zxw zob ztt zof zoc zod ztu ztr ztn zxv YV zp2 zm1 zp4 zm0 zp3 UM zzk znM zui zyF zre zyG zrf znI zrm znQ zrq zrd zrj znR znC zri zrh zro zuh zrp zrr zrs znG znH zrk zrl znJ znL znK znP znN znO znE znF zrn zrg zrc zuf zug znD zyZ zxu zxt ztl zxQ zxP HZ zzX WI zs4 znb zs3 znd VP zv9 zs1 znc zqy zuW zuV H8 GI zmG zu4 zy1 zy2 zy3 zyd zqm zuF zpB zk1 zmH zmI Jq zjT zjS zng zs7 zud zue zxm zu5 zit ziu zn9 zma zin zio ziq zia zib zic zoH zoI zoJ zqj zmb zmc zua zne zlj zli zlh zlc zjj zow zml zuO zvA zvB zz8 zvC zsu zvE zsv zvD zz9 zou ztH zot zlg zlk zom zon zt2 zt8 zt6 zt5 zt4 zt3 zo9 Hj zqt zif zil ztg zt1 zt9 zt7 WB zjn zjo zlr zla zsa zsb zyU zlb zvc zoy zld zpr zjk zop zzZ zor zpG zvM zyT zle zjm zos zlf zu0 zmV zmx zlw zjx zjw zty zrN zrP zuu zrO zut G0 znV znW Pg zrM zz0 H4 gN zwm zy0 ztB qg wj wH ur XG zun zyI zyJ wd ua hid pI cond_true cond_false xE Bool.not_false Bool.true_and Bool.false_and Bool.and_true Bool.and_false Bool.true_or xD Bool.or_true Bool.or_false beq_true Bool.not_not beq_self_eq_true decide_true decide_false Nat.add_zero Nat.zero_add xC Nat.one_mul Nat.zero_mul Nat.sub_zero Nat.succ_eq_add_one Nat.add_eq Nat.mul_eq Nat.le_refl Nat.lt_irrefl Nat.zero_le gt_iff_lt ge_iff_le ne_eq not_false_eq_true not_true_eq_false eq_self List.nil_append zM yb xz Qm and_self and_true true_and Option.some.injEq gcF zux zuw gcB gcK zpz zmF zmE zkZ zn8 zrD Jo rho Kx Wo jv vb lL UC qe XK vw uQ wA wp zus List.append_nil uR zkH zpx zu2 zpA zu3 zpy zrI zrK zrJ zrL wkV wkL WA ztb HC JJ zl6 Jy zxI zmm zo5 zo4 zo3 zyV List.cons.injEq xB List.take_zero false_and and_false zs5 pe Ga K8 K9 Zy K7 Yj PX zkd zk2 zxh zum zy5
def sxP:=xr (xr (xr (xr (xr @jv @vb) (xr @lL @zxf)) (xr (xr @zxb @zuZ) (xr @UC @zxe))) (xr (xr (xr @zxc @zxd) (xr @qe @zpt)) (xr (xr @zuY @XK) (xr @vw @uQ)))) (xr (xr (xr (xr @wA @wp) (xr @Zv @uR)) (xr (xr @jx @lx) (xr @XM @zpM))) (xr (xr (xr @Wu @XN) (xr @zmO @zu7)) (xr (xr @zpL @zpK) (xr @xL @zr2))))
theorem dis{p:Prop}(h:p:=by first|assumption|omega|rfl|(simp only[sxP,Bool.and_self,List.length_cons,List.length_nil,List.length_take,List.length_drop, ↓reduceIte,Nat.reduceEqDiff];first|done|omega)|exact Nat.le_of_ble_eq_true rfl|((repeat (first|assumption|apply Byt.drop|apply Byt.take));done)|fail):p:=h
attribute [go_sem] Ko Kg Kn Kd Ke Kf Ki
open Go.RowKit (Below)
section
variable {φ φ1:Phi}{ρ:Nat→Option Nat}
end
def zjE(ids:List Nat)(n k:Nat)(i:Nat):Option Nat:=if i<ids.length then ids[i]? else if i<k then some (n+(i-ids.length))else none
structure Emb(s s':St)(ids:List Nat)(os:List (Option AObj))(M:Nat):Prop where
 ext:Ext s s'
 len:ids.length≤os.length
 next:s'.next=s.next+(os.length-ids.length)
 old:∀id,id<s.next→(∀i,ids[i]? =some id→M.testBit i=false)→∀o,s'.get id=some o↔s.get id=some o
 own:∀i id,ids[i]? =some id→M.testBit i=true→∀o1,s'.get id=some o1→∃o,jB os i=some o∧Jo (zjE ids s.next os.length) o=some o1
 new:∀j,ids.length≤j→j<os.length→∀o1,s'.get (s.next+(j-ids.length))=some o1→∃o,jB os j=some o∧Jo (zjE ids s.next os.length) o=some o1
 bit:∀i id,ids[i]? =some id→M.testBit i=true→s'.wm.testBit id=true
def ziv(tw id j n:Nat)(disp:Bool):AObj:=.row tw [.ptr id 0,.sl j 0 n (.opn 1),.bool disp] false false
def zih(tb:Nat)(out:List Nat):AObj:=.row tb (ww out) true false
structure IsW{α:Type}(tw tb:Nat)(enc:α→List AV)(Pre:α→List Nat→Bool→Prop)(args:List AV)(s:St)(id j:Nat)(x:α)(out:List Nat)(disp:Bool):Prop where
 a:∃r,args=.ptr id 0::r∧enc x=wkL r
 ne:id≠j
 hi:id<s.next
 hj:j<s.next
 w:s.get id=some (ziv tw id j out.length disp)
 b:s.get j=some (zih tb out)
 p:Pre x out disp
open Classical in
section
variable {α:Type}{tw tb:Nat}{enc:α→List AV}{Pre:α→List Nat→Bool→Prop}{F:α→Bool→List Nat}
end
theorem gr_lst{e:Nat}{cs:List AV}{x:Value}(h:VR φ (.gr id e n cs) x):VR φ (.lst n false cs) x:=by
 simp only[VR]at h⊢;obtain⟨h1,h2,h3,h4,B,ys,h5,h6,h7,h8,h9⟩:=h;exact⟨h1,.inr ⟨B.b,B.o,_,ys,h6,by simp,h7,h8,h9⟩⟩
def Wr(W:World):Phi:=⟨fun _=>none,fun b o=>W.cell? ⟨b,o,none⟩⟩
theorem zxO{a:Addr}{v:Value}(h:w.cell? a=some v):∃c e fr,w.heap[a.block]? =some (.cells c e fr)∧a.spot=none∧c[a.off]? =some v:=by
 unfold World.cell? at h;cases hb:w.heap[a.block]? with
 |none=>rw[hb]at h;cases h
 |some o=>
  rw[hb]at h;cases o<;>simp only at h<;>first|cases h|skip
  rename_i c e fr
  refine⟨c,e,fr,rfl,?_⟩;cases hs:a.spot with
  |none=>rw[hs]at h;simp at h;exact⟨rfl,h⟩
  |some s=>rw[hs]at h;simp at h
theorem HS{a:Addr}(h:a.spot=none)(n:Nat):a.add n=⟨a.block,a.off+n,none⟩:=by
 unfold Addr.add;by_cases hn:n=0
 ·subst hn;simp;cases a;simp_all
 ·rw[if_neg hn]
theorem zu1(P:Program)(W:World)(b:Bool):Rel P W (Wr W) (H [] 0 b).get W:=by
 have hg:∀id o,(H [] 0 b).get id=some o→False:=fun id o h=>by
  rw[zlu]at h;simp[jB]at h
 refine⟨Below.refl _ _,fun id o h=>(hg id o h).elim,fun id B h=>(by cases h),fun id o B h=>(hg id o h).elim,fun id id' o o' B B' h=>(hg id o h).elim,fun b o v h=>?_,fun id o B h=>(hg id o h).elim⟩
 obtain⟨c,e,fr,h1,_,h3⟩:=zxO h;exact⟨c,e,fr,h1,h3⟩
section
variable {H0:Type}{enc:TypeId×Value→H0}{P:Program}{W:World}{sp:Nat→Bool}{held:Bool}{tD tI tS tK tE:TypeId}{fs:Array Field}{α:Type}{f:α→List AV}{k:Nat}
structure DatumTy(P:Program)(tD tI tS tK:TypeId)(fs:Array Field):Prop where
 d:P.underlying tD=some (.struct fs)
 fs:fs.toList.map (fun f=>(f.type,f.offset))=[(tI,0),(tI,1),(tS,2),(tK,3),(tI,4)]
 i:P.underlying tI=some (.int .i64)
 s:P.underlying tS=some .string
 k:P.underlying tK=some (.slice tD)
 cd:P.cellsOf tD=5
 ci:P.cellsOf tI=1
 cs:P.cellsOf tS=1
 ck:P.cellsOf tK=1
theorem zkw{α:Type}{l:List α}(h:l.length=5):∃a b c d e,l=[a,b,c,d,e]:=by
 match l,h with
 |[a,b,c,d,e],_=>exact⟨a,b,c,d,e,rfl⟩
theorem zsg(s:ByteArray):Byt (vo s):=fun x hx=>by
 simp only[vo,List.mem_map]at hx;obtain⟨u,_,rfl⟩:=hx;exact u.toNat_lt
end
def zid(tw:Nat)(disp:Bool):AObj:=.row tw [.nilp,.nils,.bool disp] false false
structure IsW0{α:Type}(tw:Nat)(enc:α→List AV)(Pre:α→Bool→Prop)(args:List AV)(s:St)(id:Nat)(x:α)(disp:Bool):Prop where
 a:∃r,args=.ptr id 0::r∧enc x=wkL r
 hi:id<s.next
 w:s.get id=some (zid tw disp)
 p:Pre x disp
open Classical in
section
variable {α:Type}{tw tb:Nat}{enc:α→List AV}{Pre:α→Bool→Prop}{F:α→Bool→List Nat}
end
def gV(id esz:Nat):Nat→List AV→AV
 |0,_=>.nils
 |k+1,cs=>.gr id esz (k+1) cs
structure IsG{α:Type}(t esz:Nat)(enc:α→List AV)(Pre:α→Nat→List AV→Prop)(args:List AV)(s:St)(x:α)(k:Nat)(cs:List AV)(id:Nat):Prop where
 a:∃r,args=r++[gV id esz k cs]∧enc x=wkL r
 z:k=0→id=0∧cs=[]
 b:k≠0→id<s.next∧s.get id=some (.app t cs)
 p:Pre x k cs
open Classical in
section
variable {α:Type}{t esz:Nat}{enc:α→List AV}{Pre:α→Nat→List AV→Prop}{F:α→Nat×List AV}
end
theorem sV{p:Prop}(h:p:=by simp (disch:=first|exact dis|fail)only[go_sem,seval,-Int.reduceOfNat,-Int.reduceNegSucc, *]):p:=h
theorem sW{p:Prop}(h:p:=by simp (disch:=first|exact dis|fail)only[go_sem,seval,-Int.reduceOfNat,-Int.reduceNegSucc]):p:=h
section
variable {C:Cx}{E:Env}{O:Orc}{c:St}{M:Nat}{ia ib ic:ICode}{fr fr' fr1:Fr}{s s' s1 s2:St}{Q:Res→Fr→St→Prop}{res:Res}
theorem Is.z(k:Is C E O c M){Z:Prop}(q:Z)(h:evC E (evW E O) none ic fr s=some (res,fr',s'):=by (simp (disch:=first|exact dis|fail)only[go_sem,seval,-Int.reduceOfNat,-Int.reduceNegSucc, *];exact rfl))(h2:Q res fr' s'=Z:=by (try simp only[wM,kE,Cut,if_true, ↓reduceIte]);first|done|exact rfl):Tri C ic fr s Q:=
 k.eval h (h2▸q)
theorem Is.q(k:Is C E O c M){Z:Prop}(q:Z)(h:evC E (evW E O) none ia fr s=some (res,fr',s'):=by (simp (disch:=first|exact dis|fail)only[go_sem,seval,-Int.reduceOfNat,-Int.reduceNegSucc, *];exact rfl))(h2:wM (fun f t=>Tri C ib f t Q) Q res fr' s'=Z:=by (try simp only[wM,kE,Cut,if_true, ↓reduceIte]);first|done|exact rfl):Tri C (.seq ia ib) fr s Q:=
 qq (k.eval h (h2▸q))
theorem Is.g(k:Is C E O c M)(keep live:List Nat)(h:gcF false c M keep live true fr s=some (fr1,s1):=by (simp (disch:=first|exact dis|fail)only[go_sem,seval,-Int.reduceOfNat,-Int.reduceNegSucc, *]<;>exact rfl)):Gc C fr s fr1 s1:=k.gcs h
end
theorem fin{c:St}{M:Nat}{res:List RV}{c':St}{r:Res}{fr:Fr}{s2:St}{vs:List AV}{v0:AV}(h0:r=.norm∨r=.ret:=by exact Or.inr rfl)(h1:qf s fr.df=some s2:=by (simp (disch:=first|exact dis|fail)only[go_sem,seval,-Int.reduceOfNat,-Int.reduceNegSucc, *]<;>exact rfl))(h2:jI E.globs fr.tm s2 res=some vs:=by (simp (disch:=first|exact dis|fail)only[go_sem,seval,-Int.reduceOfNat,-Int.reduceNegSucc, *]<;>exact rfl))(h3:Zf c.next (vS vs)=some v0:=by (simp (disch:=first|exact dis|fail)only[go_sem,seval,-Int.reduceOfNat,-Int.reduceNegSucc, *]<;>exact rfl))(h4:wkV v0=v:=by (simp (disch:=first|exact dis|fail)only[go_sem,seval,-Int.reduceOfNat,-Int.reduceNegSucc, *]<;>exact rfl))(h5:gcF true c M [] [] c.md {tm:=tmL [],df:=[]} s2=some ({tm:=tmL [],df:=[]},c'):=by (simp (disch:=first|exact dis|fail)only[go_sem,seval,-Int.reduceOfNat,-Int.reduceNegSucc, *]<;>exact rfl)):Fin E c M res v c' r fr s:=
 Yx h0 h1 h2 h3 h4 h5
end Go.Proofs.YtbddpjboppmnfaaGreatDoor.Ev

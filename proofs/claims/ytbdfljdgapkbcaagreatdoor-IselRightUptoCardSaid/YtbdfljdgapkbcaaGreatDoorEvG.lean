/- Part of a verified evaluator of the model's code, generic over the program: a run of the evaluator that answers shows what the model's run answers. No conditions of its own. -/
import Derived.Test.YtbdfljdgapkbcaaGreatDoorEvF
import Derived.Attr
import Derived.ChangeArms
import Derived.DataReads
set_option linter.unusedSimpArgs false
set_option linter.unusedVariables false
set_option linter.defProp false
open And renaming intro → y9
open Int renaming reduceNegSucc → xb, reduceOfNat → xc
open Nat renaming beq → za, ble → zd, mul_one → xi, blt → ze, mul → zb
open List renaming length_nil → xd, length_cons → zU, length_append → yl, cons_append → zG, take_succ_cons → xg, length → y8, drop_succ_cons → xq
open Bool renaming and_self → xe, false_or → xj, not_true → xo
open Classical renaming choose_spec → yX
namespace Go.Proofs.YtbdfljdgapkbcaaGreatDoor.Ev
variable {P:Program}{w0 w:World}{E:Env}{O:Orc}{s s':St}{φ:Phi}{v:AV}{b:List Nat}{id n:Nat}{o:AObj}
noncomputable def osA:List (Nat×Option AObj)→Trie AObj
 |[]=>.leaf
 |p::r=>match p.2 with
  |some o=>(osA r).set p.1 o
  |none=>(osA r).del p.1
noncomputable def KL(l:List (Nat×Option AObj))(n m:Nat)(b:Bool)(hd:List (Nat×Nat))(on:Option (Nat×List Nat)):St:={objs:=osA l,next:=n,wm:=m,hide:=hd,only:=on,md:=b}
def xD:List (Nat×Option AObj)→Nat→Option AObj
 |[],_=>none
 |p::r,i=>if i=p.1 then p.2 else xD r i
theorem QN:∀(l:List (Nat×Option AObj)) (i:Nat),(osA l).get i=xD l i
 |[],i=>rfl
 |(j,o)::r,i=>by
  cases o with
  |some o=>simp only[osA,xD];rw[Trie.get_set,QN r i]
  |none=>simp only[osA,xD];rw[Trie.get_del,QN r i]
theorem zrH(i:Nat):xD [] i=none:=rfl
theorem xr(j:Nat)(o:Option AObj)(r:List (Nat×Option AObj))(i:Nat):xD ((j,o)::r) i=if i=j then o else xD r i:=rfl
def WX:Nat→List (Option AObj)→List (Nat×Option AObj)
 |_,[]=>[]
 |n,o::r=>match o with
  |some o=>(n,some o)::WX (n+1) r
  |none=>WX (n+1) r
theorem zvu(n:Nat):WX n []=[]:=rfl
theorem zyb(n:Nat)(o:AObj)(r:List (Option AObj)):WX n (some o::r)=(n,some o)::WX (n+1) r:=rfl
theorem Pp:∀(l:List (Option AObj)) (n:Nat),osT n l=osA (WX n l)
 |[],n=>rfl
 |o::r,n=>by cases o<;>simp only[osT,WX,osA]<;>rw[Pp r]
theorem zie(os:List (Option AObj))(m:Nat)(b:Bool):H os m b=KL (WX 0 os) os.length m b [] none:=by
 unfold H KL;rw[Pp]
theorem zof(l:List (Nat×Option AObj))(n m:Nat)(b:Bool)(hd:List (Nat×Nat))(on:Option (Nat×List Nat)):(KL l n m b hd on).next=n:=rfl
theorem zjm(l:List (Nat×Option AObj))(n m:Nat)(b:Bool)(hd:List (Nat×Nat))(on:Option (Nat×List Nat)):(KL l n m b hd on).wm=m:=rfl
theorem WE(l:List (Nat×Option AObj))(n m:Nat)(b:Bool)(hd:List (Nat×Nat))(on:Option (Nat×List Nat)):(KL l n m b hd on).md=b:=rfl
theorem x5(l:List (Nat×Option AObj))(n m:Nat)(b:Bool)(i:Nat):(KL l n m b [] none).get i=xD l i:=by
 rw[←QN];rfl
theorem YP(l:List (Nat×Option AObj))(n m:Nat)(b:Bool)(hd:List (Nat×Nat))(k:Nat)(ks:List Nat)(i:Nat):(KL l n m b hd (some (k,ks))).get i=bif hid hd i then none else bif Nat.ble k i then xD l i else bif pI i ks then xD l i else none:=by
 rw[←QN];rfl
theorem uX(l:List (Nat×Option AObj))(n m:Nat)(b:Bool)(hd:List (Nat×Nat))(on:Option (Nat×List Nat))(i:Nat)(o:AObj):(KL l n m b hd on).put i o=KL ((i,some o)::l) n (uG m i) b hd on:=rfl
theorem ztv(l:List (Nat×Option AObj))(n m:Nat)(b:Bool)(hd:List (Nat×Nat))(on:Option (Nat×List Nat))(i:Nat):(KL l n m b hd on).del i=KL ((i,none)::l) n (uG m i) b hd on:=rfl
theorem ztu(l:List (Nat×Option AObj))(n m:Nat)(b:Bool)(hd:List (Nat×Nat))(on:Option (Nat×List Nat))(o:AObj):(KL l n m b hd on).alloc o=KL ((n,some o)::l) (n+1) m b hd on:=rfl
theorem ZN(m i:Nat):uG m i=m|||1<<<i:=rfl
def zxm(x:Option (Trie AV×St))(k:Trie AV→St→Option (Trie AV×St)):Option (Trie AV×St):=
 match x with
 |some p=>k p.1 p.2
 |none=>none
theorem zzs(tm:Trie AV)(s:St)(k:Trie AV→St→Option (Trie AV×St)):zxm (some (tm,s)) k=k tm s:=rfl
theorem zny(G:Env)(S:Self)(tm:Trie AV)(s:St):evS G S [] tm s=some (tm,s):=rfl
theorem zra(G:Env)(S:Self)(o:SOper)(r:List SOper)(tm:Trie AV)(s:St):evS G S (o::r) tm s=zxm (gg G S o tm s) (evS G S r):=rfl
theorem zmK(G:Env)(S:Self)(d:Option Nat)(op:IOp)(tm:Trie AV)(s:St):gg G S ⟨d,op,none⟩ tm s=stS tm d (wP G S op tm s):=rfl
noncomputable def zrL(G:Env)(S:Self)(d:Option Nat)(op:IOp)(tm:Trie AV)(s:St):Option Bool→Option (Trie AV×St)
 |some true=>stS tm d (wP G S op tm s)
 |some false=>some (qC tm d qc,s)
 |none=>none
def K9(w:Bool):Option AV→Option Bool
 |some (.bool b)=>some (b==w)
 |some _=>some false
 |none=>none
theorem zmJ(G:Env)(S:Self)(d:Option Nat)(op:IOp)(i:Nat)(w:Bool)(tm:Trie AV)(s:St):gg G S ⟨d,op,some (i,w)⟩ tm s=zrL G S d op tm s (K9 w (tm.get i)):=by
 unfold gg kq;simp only;generalize tm.get i=x;cases x with
 |none=>rfl
 |some v=>cases v<;>first|rfl|(rename_i b;cases b<;>cases w<;>rfl)
theorem zm7(b:Bool):K9 true (some (.bool b))=some b:=by cases b<;>rfl
theorem zm6(b:Bool):K9 false (some (.bool b))=some (!b):=by cases b<;>rfl
theorem zm8(w:Bool)(l:List AV):K9 w (some (.tup l))=some false:=rfl
theorem ztg:qc=.tup []:=rfl
theorem znJ(G:Env)(S:Self)(d:Option Nat)(op:IOp)(tm:Trie AV)(s:St):zrL G S d op tm s (some true)=stS tm d (wP G S op tm s):=rfl
theorem znI(G:Env)(S:Self)(d:Option Nat)(op:IOp)(tm:Trie AV)(s:St):zrL G S d op tm s (some false)=some (qC tm d qc,s):=rfl
theorem zpF(tm:Trie AV)(d:Option Nat)(v:AV)(s:St):stS tm d (some (v,s))=some (qC tm d v,s):=rfl
theorem PH(l:List (Nat×AV))(i:Nat)(v:AV):qC (tmL l) (some i) v=tmL ((i,v)::l):=rfl
theorem PG(tm:Trie AV)(v:AV):qC tm none v=tm:=rfl
theorem QT(l:List (Nat×AV))(i:Nat)(v:AV):(tmL l).set i v=tmL ((i,v)::l):=rfl
theorem PF(tm:Trie AV)(i:Nat):wq tm i []=tm:=rfl
theorem Hc(l:List (Nat×AV))(i:Nat)(v:AV)(r:List AV):wq (tmL l) i (v::r)=wq (tmL ((i,v)::l)) (i+1) r:=rfl
theorem znX:(Trie.leaf:Trie AV)=tmL []:=rfl
theorem zuL(tm:Trie AV):gS tm [] []=some tm:=rfl
theorem zy2(l:List (Nat×AV))(p:Nat)(ps:List Nat)(v:AV)(vs:List AV):gS (tmL l) (p::ps) (v::vs)=gS (tmL ((p,v)::l)) ps vs:=rfl
def zxl(x:Option (List LogE×Trie AV×St))(k:List LogE→Trie AV→St→Option (Trie AV×St)):Option (Trie AV×St):=
 match x with
 |some p=>k p.1 p.2.1 p.2.2
 |none=>none
theorem zzr(log:List LogE)(tm:Trie AV)(s:St)(k:List LogE→Trie AV→St→Option (Trie AV×St)):zxl (some (log,tm,s)) k=k log tm s:=rfl
theorem zq8(E:Env)(S:Self)(ops:List DOper)(tm:Trie AV)(df:List Nat)(l:List (Nat×Option AObj))(n m:Nat)(b:Bool)(hd:List (Nat×Nat)):Qg E S ops ⟨tm,df⟩ (KL l n m b hd none)=uo df (evD E S ops 0 [] tm (KL l n m b hd none)):=rfl
theorem zoT(G:Env)(S:Self)(i:Nat)(log:List LogE)(tm:Trie AV)(s:St):evD G S [] i log tm s=some (tm,s):=rfl
theorem zsN(G:Env)(S:Self)(o:DOper)(r:List DOper)(i:Nat)(log:List LogE)(tm:Trie AV)(s:St):evD G S (o::r) i log tm s=zxl (lE G S o i log tm s) (evD G S r (i+1)):=rfl
noncomputable def opD(G:Env)(S:Self)(d:Option Nat)(op:IOp)(deps i:Nat)(log:List LogE)(tm:Trie AV)(l:List (Nat×Option AObj))(n m:Nat)(b:Bool)(hd:List (Nat×Nat))(on:Option (Nat×List Nat))(tch:Option (List Nat)):Option (List LogE×Trie AV×St):=
 endS2 d deps i log tm n m hd on tch (wP G S op tm (KL l n 0 b (qr deps log hd) (onOf n tch)))
 where
 onOf (n:Nat):Option (List Nat)→Option (Nat×List Nat)
  |some l=>some (n,l)
  |none=>none
 endS2 (d:Option Nat) (deps i:Nat) (log:List LogE) (tm:Trie AV) (n m:Nat) (hd:List (Nat×Nat)) (on:Option (Nat×List Nat)) (tch:Option (List Nat)):Option (AV×St)→Option (List LogE×Trie AV×St)
  |some p=>bif ud deps tch (wQ p.2.wm n) log then some ({idx:=i,lo:=n,hi:=p.2.next,tch:=tch,wm:=wQ p.2.wm n}::log,qC tm d p.1,{p.2 with hide:=hd,only:=on,wm:=Nat.lor m p.2.wm})else none
  |none=>none
theorem zkJ(G:Env)(S:Self)(d:Option Nat)(op:IOp)(deps i:Nat)(log:List LogE)(tm:Trie AV)(l:List (Nat×Option AObj))(n m:Nat)(b:Bool)(hd:List (Nat×Nat))(on:Option (Nat×List Nat))(tch:Option (List Nat)):
  opD G S d op deps i log tm l n m b hd on tch=opD.endS2 d deps i log tm n m hd on tch (wP G S op tm (KL l n 0 b (qr deps log hd) (opD.onOf n tch))):=rfl
theorem Wk(n:Nat)(l:List Nat):opD.onOf n (some l)=some (n,l):=rfl
theorem zuk(n:Nat):opD.onOf n none=none:=rfl
theorem zsD(d:Option Nat)(deps i:Nat)(log:List LogE)(tm:Trie AV)(n m:Nat)(hd:List (Nat×Nat))(on:Option (Nat×List Nat))(tch:Option (List Nat))(v:AV)(l':List (Nat×Option AObj))(n' m':Nat)(b':Bool)(hd':List (Nat×Nat))(on':Option (Nat×List Nat)):
  opD.endS2 d deps i log tm n m hd on tch (some (v,KL l' n' m' b' hd' on'))=bif ud deps tch (wQ m' n) log then some (⟨i,n,n',tch,wQ m' n⟩::log,qC tm d v,KL l' n' (m|||m') b' hd on)else none:=rfl
theorem zmI(G:Env)(S:Self)(d:Option Nat)(op:IOp)(deps i:Nat)(log:List LogE)(tm:Trie AV)(l:List (Nat×Option AObj))(n m:Nat)(b:Bool)(hd:List (Nat×Nat))(on:Option (Nat×List Nat)):
  lE G S ⟨⟨d,op,none⟩,deps⟩ i log tm (KL l n m b hd on)=opD G S d op deps i log tm l n m b hd on (qo op tm):=by
 simp only[lE,kq,Jf,qZ,opD];cases qo op tm<;>rfl
noncomputable def GS(G:Env)(S:Self)(d:Option Nat)(op:IOp)(deps i:Nat)(log:List LogE)(tm:Trie AV)(l:List (Nat×Option AObj))(n m:Nat)(b:Bool)(hd:List (Nat×Nat))(on:Option (Nat×List Nat)):Option Bool→Option (List LogE×Trie AV×St)
 |some true=>opD G S d op deps i log tm l n m b hd on (qo op tm)
 |some false=>some (log,qC tm d qc,KL l n m b hd on)
 |none=>none
theorem zmH(G:Env)(S:Self)(d:Option Nat)(op:IOp)(j:Nat)(w:Bool)(deps i:Nat)(log:List LogE)(tm:Trie AV)(l:List (Nat×Option AObj))(n m:Nat)(b:Bool)(hd:List (Nat×Nat))(on:Option (Nat×List Nat)):
  lE G S ⟨⟨d,op,some (j,w)⟩,deps⟩ i log tm (KL l n m b hd on)=GS G S d op deps i log tm l n m b hd on (K9 w (tm.get j)):=by
 unfold lE kq;simp only;generalize tm.get j=x;cases x with
 |none=>rfl
 |some v=>
  cases v<;>first|rfl|skip
  rename_i c
  cases c<;>cases w<;>first|rfl|(simp only[GS,K9,Jf,qZ,opD];cases qo op tm<;>rfl)
theorem zrN(G:Env)(S:Self)(d:Option Nat)(op:IOp)(deps i:Nat)(log:List LogE)(tm:Trie AV)(l:List (Nat×Option AObj))(n m:Nat)(b:Bool)(hd:List (Nat×Nat))(on:Option (Nat×List Nat)):GS G S d op deps i log tm l n m b hd on (some true)=opD G S d op deps i log tm l n m b hd on (qo op tm):=rfl
theorem zrM(G:Env)(S:Self)(d:Option Nat)(op:IOp)(deps i:Nat)(log:List LogE)(tm:Trie AV)(l:List (Nat×Option AObj))(n m:Nat)(b:Bool)(hd:List (Nat×Nat))(on:Option (Nat×List Nat)):GS G S d op deps i log tm l n m b hd on (some false)=some (log,qC tm d qc,KL l n m b hd on):=rfl
theorem GT(deps:Nat)(h:List (Nat×Nat)):qr deps [] h=h:=rfl
theorem Ji(deps:Nat)(i lo hi:Nat)(tch:Option (List Nat))(wm:Nat)(r:List LogE)(h:List (Nat×Nat)):qr deps (⟨i,lo,hi,tch,wm⟩::r) h=bif za lo hi||deps.testBit i then qr deps r h else (lo,hi)::qr deps r h:=rfl
theorem zzI(deps:Nat)(tch:Option (List Nat))(wm:Nat):ud deps tch wm []=true:=rfl
theorem H3(deps:Nat)(tch:Option (List Nat))(wm:Nat)(i lo hi:Nat)(tch':Option (List Nat))(wm':Nat)(r:List LogE):
  ud deps tch wm (⟨i,lo,hi,tch',wm'⟩::r)=bif deps.testBit i then ud deps tch wm r else bif (za wm 0||offMask wm tch')&&(za wm' 0||offMask wm' tch)then ud deps tch wm r else false:=rfl
theorem G0(m:Nat):offMask m none=false:=rfl
theorem Pk(m:Nat):offMask m (some [])=true:=rfl
theorem GZ(m a:Nat)(l:List Nat):offMask m (some (a::l))=bif m.testBit a then false else offMask m (some l):=rfl
theorem zyC(m n:Nat):wQ m n=m%2^n:=rfl
theorem Ql(m i:Nat):m.testBit i= !(za (m/2^i%2) 0):=by
 rw[Nat.testBit_eq_decide_div_mod_eq];rcases Nat.mod_two_eq_zero_or_one (m/2^i)with h|h<;>rw[h]<;>rfl
theorem zpR(tm:Trie AV)(x:Opd):qo (.mv x) tm=some []:=rfl
theorem zta(tm:Trie AV)(x:Opd):qo (.nck x) tm=some []:=rfl
theorem zpO(tm:Trie AV)(n:Nat)(x:Opd):qo (.fa n x) tm=some []:=rfl
theorem zu4(tm:Trie AV)(op:BinOp)(x y:Opd):qo (.bin op x y) tm=some []:=rfl
theorem zu7(tm:Trie AV)(k:EqK)(b:Bool)(x y:Opd):qo (.eqk k b x y) tm=some []:=rfl
theorem zpU(tm:Trie AV)(op:UnOp)(x:Opd):qo (.un op x) tm=some []:=rfl
theorem zxc(tm:Trie AV)(a b c:Opd):qo (.pick a b c) tm=some []:=rfl
theorem zpN(tm:Trie AV)(k:IntKind)(x:Opd):qo (.ci k x) tm=some []:=rfl
theorem zpP(tm:Trie AV)(e:Nat)(x y:Opd):qo (.ia e x y) tm=some []:=rfl
theorem ztb(tm:Trie AV)(e:Nat)(x:Opd)(a b c:Option Opd):qo (.slv e x a b c) tm=some []:=rfl
theorem P0(tm:Trie AV)(z:List AV)(l:List (Nat×Nat×Opd)):qo (.build z l) tm=some []:=rfl
theorem zu5(tm:Trie AV)(e:Nat)(z:List AV)(n:Nat)(l:List (Nat×Nat×Opd)):qo (.bsl e z n l) tm=some []:=rfl
theorem zpS(tm:Trie AV)(l:List Opd):qo (.mx l) tm=some []:=rfl
theorem zpQ(tm:Trie AV)(x:Opd):qo (.ld x) tm=QC (x.ev tm):=rfl
theorem zu8(tm:Trie AV)(n:Nat)(x:Opd):qo (.ldn n x) tm=QC (x.ev tm):=rfl
theorem zpT(tm:Trie AV)(n:Nat)(x y:Opd):qo (.st n x y) tm=QC (x.ev tm):=rfl
theorem zu9(tm:Trie AV)(k:LK)(x:Opd):qo (.len k x) tm=QC (x.ev tm):=rfl
theorem zu6(tm:Trie AV)(x:Opd):qo (.cbs x) tm=QC (x.ev tm):=rfl
theorem zu3(tm:Trie AV)(a b c:Nat)(x y:Opd):qo (.app a b c x y) tm=zwy (K0 (x.ev tm)) (QC (y.ev tm)):=rfl
theorem zxb(tm:Trie AV)(f:Nat)(l:List Opd):qo (.call f l) tm=none:=rfl
theorem YH(a b:List Nat):zwy (some a) (some b)=some (a++b):=rfl
theorem zpJ(n:Nat)(e:Bool)(l:List AV):QC (some (.lst n e l))=some []:=rfl
theorem zmM(l:List AV):QC (some (.vp l))=some []:=rfl
theorem zpK(i o:Nat):QC (some (.ptr i o))=some [i]:=rfl
theorem zmL(i o n:Nat)(c:Cap):QC (some (.sl i o n c))=some [i]:=rfl
theorem UV:K0 (some (.nils))=some []:=rfl
theorem PV(i o n:Nat)(c:Cap):K0 (some (.sl i o n c))=some [i]:=rfl
theorem znr(G:Env)(S:Self)(tm:Trie AV)(s:St)(x:Opd):wP G S (.mv x) tm s=v1 tm s x some:=rfl
theorem zvJ(G:Env)(S:Self)(tm:Trie AV)(s:St)(c:Opd)(a:Opd)(b:Opd):wP G S (.pick c a b) tm s=kB s (K8 (c.ev tm) (a.ev tm) (b.ev tm)):=rfl
theorem zye(G:Env)(S:Self)(tm:Trie AV)(s:St)(e:Nat)(zs:List AV):wP G S (.alloc e zs) tm s=Zi s e zs:=rfl
theorem zsV(G:Env)(S:Self)(tm:Trie AV)(s:St)(e:Nat)(x:Opd):wP G S (.box e x) tm s=o1 tm x (Ph s e):=rfl
theorem zyf(G:Env)(S:Self)(tm:Trie AV)(s:St)(zs:List AV)(ps:List (Nat×Nat×Opd)):wP G S (.build zs ps) tm s=kB s (XK (jg zs tm ps)):=rfl
theorem zsW(G:Env)(S:Self)(tm:Trie AV)(s:St)(e:Nat)(zs:List AV)(len:Nat)(ps:List (Nat×Nat×Opd)):wP G S (.bsl e zs len ps) tm s=Xr s e len (jg zs tm ps):=rfl
theorem znm(G:Env)(S:Self)(tm:Trie AV)(s:St)(x:Opd):wP G S (.ld x) tm s=v1 tm s x (vLd G.globs s):=rfl
theorem zs3(G:Env)(S:Self)(tm:Trie AV)(s:St)(n:Nat)(x:Opd):wP G S (.ldn n x) tm s=v1 tm s x (Zw G.globs s n):=rfl
theorem znw(G:Env)(S:Self)(tm:Trie AV)(s:St)(n:Nat)(x:Opd)(v:Opd):wP G S (.st n x v) tm s=o2 tm x v (oSt s n):=rfl
theorem zs7(G:Env)(S:Self)(tm:Trie AV)(s:St)(x:Opd):wP G S (.nck x) tm s=v1 tm s x zp9:=rfl
theorem zsU(G:Env)(S:Self)(tm:Trie AV)(s:St)(op:BinOp)(x:Opd)(y:Opd):wP G S (.bin op x y) tm s=v2 tm s x y (zti op):=rfl
theorem zs0(G:Env)(S:Self)(tm:Trie AV)(s:St)(k:EqK)(neg:Bool)(x:Opd)(y:Opd):wP G S (.eqk k neg x y) tm s=v2 tm s x y (WA k neg):=rfl
theorem znx(G:Env)(S:Self)(tm:Trie AV)(s:St)(op:UnOp)(x:Opd):wP G S (.un op x) tm s=v1 tm s x (vUn op):=rfl
theorem zng(G:Env)(S:Self)(tm:Trie AV)(s:St)(k:IntKind)(x:Opd):wP G S (.ci k x) tm s=v1 tm s x (vCi k):=rfl
theorem zsZ(G:Env)(S:Self)(tm:Trie AV)(s:St)(e:Nat)(x:Opd):wP G S (.csb e x) tm s=o1 tm x (Qw s e):=rfl
theorem zsY(G:Env)(S:Self)(tm:Trie AV)(s:St)(x:Opd):wP G S (.cbs x) tm s=v1 tm s x (ztk s):=rfl
theorem zs5(G:Env)(S:Self)(tm:Trie AV)(s:St)(f:Nat)(fst:List Opd)(cap:List Opd):wP G S (.mfn f fst cap) tm s=vLL tm s fst cap (fun us vs=>some (.fn f us vs)):=rfl
theorem zvI(G:Env)(S:Self)(tm:Trie AV)(s:St):wP G S (.mmap) tm s=Xs G.um s:=rfl
theorem zs6(G:Env)(S:Self)(tm:Trie AV)(s:St)(e:Nat)(_x1:Nat)(bytes:Nat)(zs:List AV)(l:Opd)(c:Opd):wP G S (.msl e _x1 bytes zs l c) tm s=o2 tm l c (Jm s e bytes zs):=rfl
theorem zs8(G:Env)(S:Self)(tm:Trie AV)(s:St)(x:Opd)(lo:Option Opd)(hi:Option Opd):wP G S (.sls x lo hi) tm s=vs3 tm s x lo hi P9:=rfl
theorem zs9(G:Env)(S:Self)(tm:Trie AV)(s:St)(esz:Nat)(x:Opd)(lo:Option Opd)(hi:Option Opd)(mx:Option Opd):wP G S (.slv esz x lo hi mx) tm s=vs4 tm s x lo hi mx (ki esz):=rfl
theorem znk(G:Env)(S:Self)(tm:Trie AV)(s:St)(off:Nat)(x:Opd):wP G S (.fa off x) tm s=v1 tm s x (vFa off):=rfl
theorem znl(G:Env)(S:Self)(tm:Trie AV)(s:St)(esz:Nat)(x:Opd)(i:Opd):wP G S (.ia esz x i) tm s=v2 tm s x i (vIa esz):=rfl
theorem zs1(G:Env)(S:Self)(tm:Trie AV)(s:St)(n:Nat)(esz:Nat)(x:Opd)(i:Opd):wP G S (.iaa n esz x i) tm s=v2 tm s x i (P7 n esz):=rfl
theorem zs2(G:Env)(S:Self)(tm:Trie AV)(s:St)(x:Opd)(i:Opd):wP G S (.ixs x i) tm s=v2 tm s x i zp4:=rfl
theorem znn(G:Env)(S:Self)(tm:Trie AV)(s:St)(f:FK)(z:AV)(ok:Bool)(m:Opd)(k:Opd):wP G S (.lk f z ok m k) tm s=v2 tm s m k (vLk s f z ok):=rfl
theorem znq(G:Env)(S:Self)(tm:Trie AV)(s:St)(f:FK)(m:Opd)(k:Opd)(v:Opd):wP G S (.mu f m k v) tm s=o3 tm m k v (oMu s f):=rfl
theorem zno(G:Env)(S:Self)(tm:Trie AV)(s:St)(f:FK)(m:Opd)(k:Opd):wP G S (.md f m k) tm s=o2 tm m k (oMd s f):=rfl
theorem znv(G:Env)(S:Self)(tm:Trie AV)(s:St)(x:Opd):wP G S (.rs x) tm s=o1 tm x (oRs s):=rfl
theorem znt(G:Env)(S:Self)(tm:Trie AV)(s:St)(it:Opd):wP G S (.ns it) tm s=o1 tm it (oNs s):=rfl
theorem znu(G:Env)(S:Self)(tm:Trie AV)(s:St)(x:Opd):wP G S (.rm x) tm s=o1 tm x (oRm s):=rfl
theorem zni(G:Env)(S:Self)(tm:Trie AV)(s:St)(it:Opd):wP G S (.en it) tm s=v1 tm s it (vEn s):=rfl
theorem znj(G:Env)(S:Self)(tm:Trie AV)(s:St)(x:Opd)(i:Nat):wP G S (.ex x i) tm s=v1 tm s x (fun v=>vEx v i):=rfl
theorem zs4(G:Env)(S:Self)(tm:Trie AV)(s:St)(k:LK)(x:Opd):wP G S (.len k x) tm s=v1 tm s x (QD s k):=rfl
theorem zsX(G:Env)(S:Self)(tm:Trie AV)(s:St)(x:Opd):wP G S (.cap x) tm s=v1 tm s x ztj:=rfl
theorem zsT(G:Env)(S:Self)(tm:Trie AV)(s:St)(e:Nat)(esz:Nat)(bytes:Nat)(x:Opd)(y:Opd):wP G S (.app e esz bytes x y) tm s=o2 tm x y (vC s e esz bytes):=rfl
theorem znp(G:Env)(S:Self)(tm:Trie AV)(s:St)(xs:List Opd):wP G S (.mn xs) tm s=vL tm s xs (vMn false):=rfl
theorem zns(G:Env)(S:Self)(tm:Trie AV)(s:St)(xs:List Opd):wP G S (.mx xs) tm s=vL tm s xs (vMn true):=rfl
theorem zvG(G:Env)(S:Self)(tm:Trie AV)(s:St)(e:Nat)(esz:Nat)(bytes:Nat)(zs:List AV)(x:Opd)(y:Opd):wP G S (.appz e esz bytes zs x y) tm s=o2 tm x y (Z3 s e esz bytes zs):=rfl
theorem zvH(G:Env)(S:Self)(tm:Trie AV)(s:St)(f:Nat)(args:List Opd):wP G S (.call f args) tm s=Lp S f (evL tm args) s:=rfl
theorem znh(G:Env)(S:Self)(tm:Trie AV)(s:St)(x:Opd)(args:List Opd):wP G S (.cv x args) tm s=GG S (x.ev tm) (evL tm args) s:=rfl
theorem zyB(df:List Nat)(tm:Trie AV)(s:St):uo df (some (tm,s))=some (.norm,⟨tm,df⟩,s):=rfl
theorem zxa(k:Fr→St→Option (Res×Fr×St))(fr:Fr)(s:St):uC k (some (.norm,fr,s))=k fr s:=rfl
theorem zy9(k:Fr→St→Option (Res×Fr×St))(i:Nat)(fr:Fr)(s:St):uC k (some (.exit i,fr,s))=some (.exit i,fr,s):=rfl
theorem zu1(k:Fr→St→Option (Res×Fr×St))(fr:Fr)(s:St):uC k (some (.ret,fr,s))=some (.ret,fr,s):=rfl
theorem zxq(a b:Fr→St→Option (Res×Fr×St))(fr:Fr)(s:St):WV (some (.bool true)) a b fr s=a fr s:=rfl
theorem zxp(a b:Fr→St→Option (Res×Fr×St))(fr:Fr)(s:St):WV (some (.bool false)) a b fr s=b fr s:=rfl
theorem Hy(id:Nat)(p:Fr×St):jv id (some (.norm,p))=some (.norm,p):=rfl
theorem zzt(id:Nat)(p:Fr×St):jv id (some (.ret,p))=some (.ret,p):=rfl
theorem WH(id i:Nat)(p:Fr×St):jv id (some (.exit i,p))=if i=id then some (.norm,p)else some (.exit i,p):=by
 show (bif za i id then some (Res.norm,p)else some (Res.exit i,p))=_;by_cases h:i=id
 ·rw[if_pos h,xT.2 h];rfl
 ·rw[if_neg h];cases hb:za i id with
  |true=>exact absurd (xT.1 hb) h
  |false=>rfl
theorem zsL(G:Env)(S:Self)(rd:Option Nat)(fr:Fr)(s:St):evC G S rd .skip fr s=some (.norm,fr,s):=rfl
theorem zoP(G:Env)(S:Self)(rd:Option Nat)(ops:List SOper)(tm:Trie AV)(df:List Nat)(s:St):evC G S rd (.reg ops) ⟨tm,df⟩ s=uo df (evS G S ops tm s):=rfl
theorem zsJ(G:Env)(S:Self)(rd:Option Nat)(ops:List DOper)(fr:Fr)(s:St):evC G S rd (.regd ops) fr s=Qg G S ops fr s:=rfl
theorem zsK(G:Env)(S:Self)(rd:Option Nat)(a c:SOper)(n m:Nat)(r:List DOper)(tm:Trie AV)(df:List Nat)(s:St):evC G S rd (.regt ⟨a,n⟩ ⟨c,m⟩ r) ⟨tm,df⟩ s=rtS G S (⟨a,n⟩::r) c df s (evS G S (a::c::uW r) tm s):=rfl
theorem PD:uW []=[]:=rfl
theorem G7(o:SOper)(n:Nat)(r:List DOper):uW (⟨o,n⟩::r)=o::uW r:=rfl
theorem zpm(G:Env)(S:Self)(l:List DOper)(d:Option Nat)(op:IOp)(g:Option (Nat×Bool))(df:List Nat)(s:St)(tm:Trie AV)(t:St):rtS G S l ⟨d,op,g⟩ df s (some (tm,t))=rtE G l d tm df s (wP G S op tm s):=rfl
theorem zpl(G:Env)(l:List DOper)(d:Option Nat)(tm:Trie AV)(df:List Nat)(s:St)(v:AV)(t:St):rtE G l d tm df s (some (v,t))=bif QA tm d (some (v,t))then bif ju G tm s l then bif ju G tm t l then some (.norm,{tm:=tm,df:=df},t)else none else none else none:=rfl
theorem zuE(G:Env)(tm:Trie AV)(s:St):ju G tm s []=true:=rfl
theorem zyZ(G:Env)(tm:Trie AV)(s:St)(d:Option Nat)(op:IOp)(g:Option (Nat×Bool))(n:Nat)(r:List DOper):ju G tm s (⟨⟨d,op,g⟩,n⟩::r)=bif QA tm d (wP G zmv op tm s)then ju G tm s r else false:=rfl
theorem zuH(tm:Trie AV)(k:Nat)(v:AV)(s:St):QA tm (some k) (some (v,s))=UM v (tm.get k):=rfl
theorem zuG(i o:Nat):UM (.ptr i o) (some (.ptr i o))=true:=by simp[UM,eqW]
theorem zuF(k:IntKind)(n:Int):UM (.int k n) (some (.int k n))=true:=by simp[UM,eqW,vn,kF]
theorem zoR(G:Env)(S:Self)(rd:Option Nat)(a b:ICode)(fr:Fr)(s:St):evC G S rd (.seq a b) fr s=uC (evC G S rd b) (evC G S rd a fr s):=rfl
theorem V4(G:Env)(S:Self)(rd:Option Nat)(c:Opd)(a b:ICode)(tm:Trie AV)(df:List Nat)(s:St):evC G S rd (.cond c a b) ⟨tm,df⟩ s=WV (c.ev tm) (evC G S rd a) (evC G S rd b) ⟨tm,df⟩ s:=rfl
theorem zvA(G:Env)(S:Self)(rd:Option Nat)(id:Nat)(b:ICode)(fr:Fr)(s:St):evC G S rd (.block id b) fr s=jv id (evC G S rd b fr s):=rfl
theorem zsH(G:Env)(S:Self)(rd:Option Nat)(id:Nat)(fr:Fr)(s:St):evC G S rd (.exit id) fr s=some (.exit id,fr,s):=rfl
theorem zoQ(G:Env)(S:Self)(rd:Option Nat)(fr:Fr)(s:St):evC G S rd .ret fr s=some (.ret,fr,s):=rfl
theorem pX(E:Env)(O:Orc)(f:Nat)(a:List AV)(s:St):(evW E O).call f a s=pB E O (evW E O) f a s:=by
 cases h:pB E O (evW E O) f a s with
 |some r=>exact zrb h
 | none=>
  cases h2:(evW E O).call f a s with
  |none=>rfl
  | some r=>
   obtain⟨n,hn⟩:=qV (α:=AV×St) h2;cases n with
   |zero=>cases hn
   |succ n=>
    have h3:pB E O (evT E O n) f a s=some r:=hn;have h4:LeS (evT E O n) (evW E O):=⟨fun f a s r h=>uV (fun n r h=>(uE E O n).call _ _ _ _ h) h,fun rd b fr s r h=>uV (fun n r h=>(uE E O n).loop _ _ _ _ _ h) h,fun l a s r h=>uV (fun n r h=>(uE E O n).round _ _ _ _ h) h⟩;rw[(VK E O f a s).up _ _ h4 r h3]at h;cases h
theorem wx{f:Nat}{g:List AV→St→Option (AV×St)}(h:O f=some g)(E:Env)(a:List AV)(s:St):(evW E O).call f a s=g a s:=by
 rw[pX];unfold pB;rw[h]
theorem vF{E:Env}{O:Orc}{f:Nat}{F:IFunc}(h:O f=none)(hF:E.funs.get f=some F)(hp:E.pure f=true)(a:List AV)(l:List (Nat×Option AObj))(n m:Nat)(b:Bool)(hd:List (Nat×Nat))(on:Option (Nat×List Nat))(ha:a.length≤F.ntmps):
  (evW E O).call f a (KL l n m b hd on)=Z2 (KL l n m b hd on) (wL E.globs F.res (evC E (evW E O) none F.body ⟨wq (tmL []) 0 a,[]⟩ (KL l n 0 true hd on))):=by
 rw[pX];unfold pB jc;rw[h,hF];simp only[wE,xR.2 ha,cond_true,hp];rfl
theorem HG{f:Nat}{F:IFunc}(h:O f=none)(hF:E.funs.get f=some F)(hp:E.pure f=false)(a:List AV)(l:List (Nat×Option AObj))(n m:Nat)(b:Bool)(hd:List (Nat×Nat))(on:Option (Nat×List Nat))(ha:a.length≤F.ntmps):
  (evW E O).call f a (KL l n m b hd on)=mdR b (wL E.globs F.res (evC E (evW E O) none F.body ⟨wq (tmL []) 0 a,[]⟩ (KL l n m false hd on))):=by
 rw[pX];unfold pB jc;rw[h,hF];simp only[wE,xR.2 ha,cond_true,hp,cond_false];rfl
theorem zqc(b:Bool)(v:AV)(l:List (Nat×Option AObj))(n m:Nat)(b':Bool)(hd:List (Nat×Nat))(on:Option (Nat×List Nat)):mdR b (some (v,KL l n m b' hd on))=some (v,KL l n m b hd on):=rfl
def zjV(s t:St)(v:AV):Option AV→Option (AV×St)
 |some v=>some (v,s)
 |none=>some (agW v,{t with wm:=Nat.lor s.wm t.wm,md:=s.md})
theorem zup(s t:St)(v:AV):Z2 s (some (v,t))=zjV s t v (bif za (wQ t.wm s.next) 0 then ZZ s.next v else none):=rfl
theorem zuo(s t:St)(v u:AV):zjV s t v (some u)=some (u,s):=rfl
theorem HF(G:List (List AV))(res:List RV)(tm:Trie AV)(s:St):wL G res (some (.ret,⟨tm,[]⟩,s))=YE G tm s res:=rfl
theorem Gn(G:List (List AV))(res:List RV)(tm:Trie AV)(s:St):wL G res (some (.norm,⟨tm,[]⟩,s))=YE G tm s res:=rfl
def zkQ(s:St):Option (List AV)→Option (AV×St)
 |some vs=>some (vB vs,s)
 |none=>none
theorem zmr(G:List (List AV))(tm:Trie AV)(s:St)(res:List RV):YE G tm s res=zkQ s (jk G tm s res):=by
 unfold YE zkQ;cases jk G tm s res<;>rfl
theorem zuz(s:St)(vs:List AV):zkQ s (some vs)=some (vB vs,s):=rfl
theorem zyD:vB []=.tup []:=rfl
theorem zyE(v:AV):vB [v]=v:=rfl
theorem zyF(v w:AV)(r:List AV):vB (v::w::r)=.tup (v::w::r):=rfl
def pC(v:Option AV)(l:Option (List AV)):Option (List AV):=
 match v,l with
 |some v,some vs=>some (v::vs)
 |_,_=>none
theorem zzL(v:AV)(vs:List AV):pC (some v) (some vs)=some (v::vs):=rfl
noncomputable def ldK(G:List (List AV))(s:St):Option AV→Option AV
 |some p=>vLd G s p
 |none=>none
noncomputable def zkv(G:List (List AV))(s:St)(n:Nat):Option AV→Option AV
 |some p=>Zw G s n p
 |none=>none
theorem zr3(G:List (List AV))(s:St)(p:AV):ldK G s (some p)=vLd G s p:=rfl
theorem zv9(G:List (List AV))(s:St)(n:Nat)(p:AV):zkv G s n (some p)=Zw G s n p:=rfl
theorem zpd(G:List (List AV))(tm:Trie AV)(s:St):jk G tm s []=some []:=rfl
theorem zkR(G:List (List AV))(tm:Trie AV)(s:St)(i:Nat)(r:List RV):jk G tm s (.t i::r)=pC (tm.get i) (jk G tm s r):=by
 simp only[jk,pC];cases tm.get i<;>cases jk G tm s r<;>rfl
theorem zms(G:List (List AV))(tm:Trie AV)(s:St)(a:Nat)(r:List RV):jk G tm s (.c1 a::r)=pC (ldK G s (tm.get a)) (jk G tm s r):=by
 simp only[jk,pC];cases tm.get a with
 |none=>cases jk G tm s r<;>rfl
 |some p=>
  simp only[ldK,vLd];cases vo G s p 1 with
  |none=>cases jk G tm s r<;>rfl
  |some l=>cases l<;>cases jk G tm s r<;>rfl
theorem zmt(G:List (List AV))(tm:Trie AV)(s:St)(a n:Nat)(r:List RV):jk G tm s (.cn a n::r)=pC (zkv G s n (tm.get a)) (jk G tm s r):=by
 simp only[jk,pC];cases tm.get a with
 |none=>cases jk G tm s r<;>rfl
 |some p=>
  simp only[zkv,Zw];cases vo G s p n with
  |none=>cases jk G tm s r<;>rfl
  |some l=>cases jk G tm s r<;>rfl
theorem Jp(s:St):wZ s []=some s:=rfl
theorem zjP(tm:Trie AV)(i:Nat):(Opd.t i).ev tm=tm.get i:=rfl
theorem zjO(tm:Trie AV)(v:AV):(Opd.c v).ev tm=some v:=rfl
theorem zoU(tm:Trie AV):evL tm []=some []:=rfl
theorem zsO(tm:Trie AV)(x:Opd)(r:List Opd):evL tm (x::r)=pC (x.ev tm) (evL tm r):=rfl
theorem zvE(tm:Trie AV):evO tm none=some none:=rfl
def zpE:Option AV→Option (Option AV)
 |some v=>some (some v)
 |none=>none
theorem zvF(tm:Trie AV)(x:Opd):evO tm (some x)=zpE (x.ev tm):=by unfold evO zpE;rfl
theorem zy3(v:AV):zpE (some v)=some (some v):=rfl
theorem zuA(s:St)(v:AV):kB s (some v)=some (v,s):=rfl
def b1(f:AV→Option (AV×St)):Option AV→Option (AV×St)
 |some v=>f v
 |none=>none
def b2(f:AV→AV→Option (AV×St)):Option AV→Option AV→Option (AV×St)
 |some v,some w=>f v w
 |_,_=>none
def b3(f:AV→AV→AV→Option (AV×St)):Option AV→Option AV→Option AV→Option (AV×St)
 |some v,some w,some u=>f v w u
 |_,_,_=>none
def k1(s:St)(f:AV→Option AV):Option AV→Option (AV×St)
 |some v=>kB s (f v)
 |none=>none
def k2(s:St)(f:AV→AV→Option AV):Option AV→Option AV→Option (AV×St)
 |some v,some w=>kB s (f v w)
 |_,_=>none
def kL(s:St)(f:List AV→Option AV):Option (List AV)→Option (AV×St)
 |some v=>kB s (f v)
 |none=>none
def kLL(s:St)(f:List AV→List AV→Option AV):Option (List AV)→Option (List AV)→Option (AV×St)
 |some v,some w=>kB s (f v w)
 |_,_=>none
def k3(s:St)(f:AV→Option AV→Option AV→Option AV):Option AV→Option (Option AV)→Option (Option AV)→Option (AV×St)
 |some v,some l,some h=>kB s (f v l h)
 |_,_,_=>none
noncomputable def k4(tm:Trie AV)(s:St)(x:Opd)(lo hi:Option Opd)(f:AV→Option AV→Option AV→Option AV→Option AV):Option (Option AV)→Option (AV×St)
 |some m=>vs3 tm s x lo hi (fun v l h=>f v l h m)
 |none=>none
theorem ziv(tm:Trie AV)(s:St)(x:Opd)(f:AV→Option AV):v1 tm s x f=k1 s f (x.ev tm):=by unfold v1 k1;cases x.ev tm<;>rfl
theorem ziw(tm:Trie AV)(s:St)(x y:Opd)(f:AV→AV→Option AV):v2 tm s x y f=k2 s f (x.ev tm) (y.ev tm):=by unfold v2 k2;cases x.ev tm<;>cases y.ev tm<;>rfl
theorem znQ(s:St)(f:AV→Option AV)(v:AV):k1 s f (some v)=kB s (f v):=rfl
theorem znR(s:St)(f:AV→AV→Option AV)(v w:AV):k2 s f (some v) (some w)=kB s (f v w):=rfl
theorem zin(tm:Trie AV)(x:Opd)(f:AV→Option (AV×St)):o1 tm x f=b1 f (x.ev tm):=by unfold o1 b1;cases x.ev tm<;>rfl
theorem zio(tm:Trie AV)(x y:Opd)(f:AV→AV→Option (AV×St)):o2 tm x y f=b2 f (x.ev tm) (y.ev tm):=by unfold o2 b2;cases x.ev tm<;>cases y.ev tm<;>rfl
theorem ziq(tm:Trie AV)(x y z:Opd)(f:AV→AV→AV→Option (AV×St)):o3 tm x y z f=b3 f (x.ev tm) (y.ev tm) (z.ev tm):=by unfold o3 b3;cases x.ev tm<;>cases y.ev tm<;>cases z.ev tm<;>rfl
theorem zix(tm:Trie AV)(s:St)(l:List Opd)(f:List AV→Option AV):vL tm s l f=kL s f (evL tm l):=by unfold vL kL;cases evL tm l<;>rfl
theorem zj9(tm:Trie AV)(s:St)(l m:List Opd)(f:List AV→List AV→Option AV):vLL tm s l m f=kLL s f (evL tm l) (evL tm m):=by unfold vLL kLL;cases evL tm l<;>cases evL tm m<;>rfl
theorem zib(tm:Trie AV)(s:St)(x:Opd)(lo hi:Option Opd)(f:AV→Option AV→Option AV→Option AV):vs3 tm s x lo hi f=k3 s f (x.ev tm) (evO tm lo) (evO tm hi):=by unfold vs3 k3;cases x.ev tm<;>cases evO tm lo<;>cases evO tm hi<;>rfl
theorem zic(tm:Trie AV)(s:St)(x:Opd)(lo hi mx:Option Opd)(f:AV→Option AV→Option AV→Option AV→Option AV):vs4 tm s x lo hi mx f=k4 tm s x lo hi f (evO tm mx):=by unfold vs4 k4;cases evO tm mx<;>rfl
theorem zon(f:AV→Option (AV×St))(v:AV):b1 f (some v)=f v:=rfl
theorem zoo(f:AV→AV→Option (AV×St))(v w:AV):b2 f (some v) (some w)=f v w:=rfl
theorem zop(f:AV→AV→AV→Option (AV×St))(v w u:AV):b3 f (some v) (some w) (some u)=f v w u:=rfl
theorem znU(s:St)(f:List AV→Option AV)(l:List AV):kL s f (some l)=kB s (f l):=rfl
theorem zr0(s:St)(f:List AV→List AV→Option AV)(l m:List AV):kLL s f (some l) (some m)=kB s (f l m):=rfl
theorem znS(s:St)(f:AV→Option AV→Option AV→Option AV)(v:AV)(l h:Option AV):k3 s f (some v) (some l) (some h)=kB s (f v l h):=rfl
theorem znT(tm:Trie AV)(s:St)(x:Opd)(lo hi:Option Opd)(f:AV→Option AV→Option AV→Option AV→Option AV)(m:Option AV):k4 tm s x lo hi f (some m)=vs3 tm s x lo hi (fun v l h=>f v l h m):=rfl
theorem zvB(S:Self)(f:Nat)(vs:List AV)(s:St):Lp S f (some vs) s=S.call f vs s:=rfl
theorem zoS(S:Self)(f:Nat)(a c:List AV)(vs:List AV)(s:St):GG S (some (.fn f a c)) (some vs) s=S.call f (a++vs++c) s:=rfl
theorem zm3(a b:Option AV):K8 (some (.bool true)) a b=a:=rfl
theorem zm2(a b:Option AV):K8 (some (.bool false)) a b=b:=rfl
theorem zm1(x y z:Bool):K8 (some (.bool x)) (some (.bool y)) (some (.bool z))=some (.bool (bif x then y else z)):=by cases x<;>rfl
theorem zmW(off id o:Nat):vFa off (.ptr id o)=some (.ptr id (o+off)):=rfl
theorem zjc(off:Nat)(cs:List AV):vFa off (.vp cs)=some (.vp (wl off cs)):=rfl
theorem zoa(i o:Nat):zp9 (.ptr i o)=some (.ptr i o):=rfl
theorem zn6(s:St)(e:Nat)(v:AV):Ph s e v=some (.ptr s.next 0,s.alloc (.row e v.cells false false)):=rfl
theorem zuh(s:St)(e:Nat)(zs:List AV):Zi s e zs=some (.ptr s.next 0,s.alloc (.row e zs false false)):=rfl
theorem zw3(cs:List AV):(AV.agg cs).cells=cs:=rfl
theorem zw4(k:IntKind)(n:Int):(AV.int k n).cells=[.int k n]:=rfl
theorem zzF(b:Bool):(AV.bool b).cells=[.bool b]:=rfl
theorem zw5(n:Nat)(e:Bool)(l:List AV):(AV.lst n e l).cells=[.lst n e l]:=rfl
theorem zw7(i o:Nat):(AV.ptr i o).cells=[.ptr i o]:=rfl
theorem zsd(i o n:Nat)(c:Cap):(AV.sl i o n c).cells=[.sl i o n c]:=rfl
theorem zw6(i:Nat):(AV.map i).cells=[.map i]:=rfl
theorem zzG:AV.nils.cells=[.nils]:=rfl
theorem zp8(s:St)(t:List Nat):QD s .s (.str t)=some (.int .i64 (.ofNat t.length)):=by rw[←wE];rfl
theorem ztm(s:St):QD s .v .nils=some (.int .i64 (.ofNat 0)):=rfl
theorem zp7(s:St)(n:Nat)(e:Bool)(l:List AV):QD s .v (.lst n e l)=some (.int .i64 (.ofNat n)):=rfl
theorem zm0(s:St)(i o n:Nat)(c:Cap):QD s .v (.sl i o n c)=some (.int .i64 (.ofNat n)):=rfl
theorem zm4(b:Bool):vUn .not (.bool b)=some (.bool (!b)):=rfl
theorem zp0(op:BinOp)(k k':IntKind)(a b:Int):zti op (.int k a) (.int k' b)=qw op k a k' b:=rfl
theorem zp1(op:BinOp)(a b:List Nat):zti op (.str a) (.str b)=zwN op a b:=rfl
def eqD(a b:Int):Bool:=decide (a=b)
def ltD(a b:Int):Bool:=decide (a<b)
theorem ztN(k:IntKind)(a b:Int):qw .eql k a k b=some (.bool (eqD a b)):=by
 have:vU k k=true:=by cases k<;>rfl
 simp only[qw,this,cond_true,vn,eqD];by_cases h:a=b<;>simp[h]
theorem ztT(k:IntKind)(a b:Int):qw .neq k a k b=some (.bool (!eqD a b)):=by
 have:vU k k=true:=by cases k<;>rfl
 simp only[qw,this,cond_true,vn,eqD];by_cases h:a=b<;>simp[h]
theorem ztR(k:IntKind)(a b:Int):qw .lss k a k b=some (.bool (ltD a b)):=by
 have:vU k k=true:=by cases k<;>rfl
 simp only[qw,this,cond_true,kh,ltD]
theorem ztQ(k:IntKind)(a b:Int):qw .leq k a k b=some (.bool (!ltD b a)):=by
 have:vU k k=true:=by cases k<;>rfl
 simp only[qw,this,cond_true,kh,ltD]
theorem ztP(k:IntKind)(a b:Int):qw .gtr k a k b=some (.bool (ltD b a)):=by
 have:vU k k=true:=by cases k<;>rfl
 simp only[qw,this,cond_true,kh,ltD]
theorem ztO(k:IntKind)(a b:Int):qw .geq k a k b=some (.bool (!ltD a b)):=by
 have:vU k k=true:=by cases k<;>rfl
 simp only[qw,this,cond_true,kh,ltD]
theorem zoN(a b:Nat):eqD (.ofNat a) (.ofNat b)=decide (a=b):=by
 unfold eqD;by_cases h:a=b
 ·subst h;simp
 ·simp only[h,decide_false,decide_eq_false_iff_not];intro e;cases e;exact h rfl
theorem GW(a b:Nat):ltD (.ofNat a) (.ofNat b)=decide (a<b):=by
 unfold ltD;by_cases h:a<b<;>simp[h]
theorem zr8(a b:Nat):ltD (.negSucc a) (.ofNat b)=true:=by
 have:(Int.negSucc a)<0:=Int.negSucc_lt_zero a;have h2:(0:Int)≤Int.ofNat b:=Int.natCast_nonneg b;unfold ltD;exact decide_eq_true oM
theorem XJ(k:IntKind){a:Nat}(h:a<Jq k):qJ k (.ofNat a)=.ofNat a:=by
 show (bif ze a (Jq k)then Int.ofNat a else _)=_;rw[wi.2 h];rfl
theorem zif(a b:Nat):Int.add (.ofNat a) (.ofNat b)=.ofNat (a+b):=rfl
theorem zil(a b:Nat):Int.mul (.ofNat a) (.ofNat b)=.ofNat (a*b):=rfl
theorem Wt{a b:Nat}(h:b≤a):Int.sub (.ofNat a) (.ofNat b)=.ofNat (a-b):=by
 show (a:Int)-(b:Int)=((a-b:Nat):Int);omega
theorem ztM(k:IntKind)(a b:Int):qw .add k a k b=some (.int k (qJ k (Int.add a b))):=by
 have:vU k k=true:=by cases k<;>rfl
 simp only[qw,this,cond_true]
theorem ztU(k:IntKind)(a b:Int):qw .sub k a k b=some (.int k (qJ k (Int.sub a b))):=by
 have:vU k k=true:=by cases k<;>rfl
 simp only[qw,this,cond_true]
theorem ztS(k:IntKind)(a b:Int):qw .mul k a k b=some (.int k (qJ k (Int.mul a b))):=by
 have:vU k k=true:=by cases k<;>rfl
 simp only[qw,this,cond_true]
theorem gq{a:Nat}(h:a<9223372036854775808):qJ .i64 (.ofNat a)=.ofNat a:=XJ .i64 h
theorem zjg{a:Nat}(h:a<2147483648):qJ .i32 (.ofNat a)=.ofNat a:=XJ .i32 h
theorem zjh{a:Nat}(h:a<256):qJ .u8 (.ofNat a)=.ofNat a:=XJ .u8 h
theorem zla{a:Nat}(h:a<4294967296):qJ .u32 (.ofNat a)=.ofNat a:=XJ .u32 h
theorem zmU(k k':IntKind)(a:Int):vCi k (.int k' a)=some (.int k (qJ k a)):=rfl
theorem ztV(a b:List Nat):zwN .eql a b=some (.bool (decide (a=b))):=by
 show some (AV.bool (eqS a b))=_;rw[XW];by_cases h:a=b<;>simp[h]
theorem ztW(a b:List Nat):zwN .neq a b=some (.bool (!decide (a=b))):=by
 show some (AV.bool (!eqS a b))=_;rw[XW];by_cases h:a=b<;>simp[h]
theorem zyv(v:AV)(l:List AV):Za (v::l)=some v:=rfl
theorem zmV(vs:List AV)(i:Nat):vEx (.tup vs) i=Za (wl i vs):=rfl
theorem zwF(l:List AV):XK (some l)=some (.agg l):=rfl
theorem QH(l:List AV)(off n:Nat):cut l off n=xV n (wl off l):=rfl
theorem znL(k:IntKind)(a n:Nat):idx (.int k (.ofNat a)) n=if a<n then some a else none:=by
 show (bif ze a n then some a else none)=_;by_cases h:a<n
 ·rw[if_pos h,wi.2 h];rfl
 ·rw[if_neg h];cases hb:ze a n with
  |true=>exact absurd (wi.1 hb) h
  |false=>rfl
def vpK(cs:List AV)(esz:Nat):Option Nat→Option AV
 |some k=>some (.vp (wl (k*esz) cs))
 |none=>none
theorem zob(cs:List AV)(esz k:Nat):vpK cs esz (some k)=some (.vp (wl (k*esz) cs)):=rfl
theorem zmX(esz n:Nat)(e:Bool)(cs:List AV)(i:AV):vIa esz (.lst n e cs) i=vpK cs esz (idx i n):=by
 simp only[vIa,vpK];generalize idx i n=x;cases x<;>rfl
def ptK(id off esz:Nat):Option Nat→Option AV
 |some k=>some (.ptr id (off+k*esz))
 |none=>none
theorem zq5(id off esz k:Nat):ptK id off esz (some k)=some (.ptr id (off+k*esz)):=rfl
theorem zjd(esz id off len:Nat)(c:Cap)(i:AV):vIa esz (.sl id off len c) i=ptK id off esz (idx i len):=by
 simp only[vIa,ptK];generalize idx i len=x;cases x<;>rfl
theorem zp3(n esz id off:Nat)(i:AV):P7 n esz (.ptr id off) i=ptK id off esz (idx i n):=by
 simp only[P7,ptK];generalize idx i n=x;cases x<;>rfl
theorem zzu(b:Nat):HB (some b)=some (.int .u8 (.ofNat b)):=rfl
theorem zp5(t:List Nat)(k:IntKind)(i:Nat):zp4 (.str t) (.int k (.ofNat i))=HB (zv0 t i):=rfl
def zmu:Option AObj→Option (List AV)
 |some (.row _ cs _ _)=>some cs
 |some (.giv cs)=>some cs
 |_=>none
theorem zpi(e:Nat)(cs:List AV)(x fz:Bool):zmu (some (.row e cs x fz))=some cs:=rfl
def zoF(off n:Nat):Option (List AV)→Option (List AV)
 |some cs=>cut cs off n
 |none=>none
theorem zvb(off n:Nat)(cs:List AV):zoF off n (some cs)=xV n (wl off cs):=rfl
def zrQ:Option (List AV)→Option AV
 |some l=>Za l
 |none=>none
theorem zyu(l:List AV):zrQ (some l)=Za l:=rfl
theorem Kt(G:List (List AV))(s:St)(id off n:Nat):vo G s (.ptr id off) n=zoF off n (zmu (s.get id)):=by
 unfold vo;simp only;cases s.get id with
 |none=>rfl
 |some o=>cases o<;>rfl
theorem LX(G:List (List AV))(s:St)(cs:List AV)(n:Nat):vo G s (.vp cs) n=xV n cs:=rfl
theorem zmY(G:List (List AV))(s:St)(id off:Nat):vLd G s (.ptr id off)=zrQ (zoF off 1 (zmu (s.get id))):=by
 rw[←Kt G];unfold vLd;cases vo G s (.ptr id off) 1<;>rfl
theorem zjf(G:List (List AV))(s:St)(cs:List AV):vLd G s (.vp cs)=zrQ (xV 1 cs):=by
 rw[←LX G s];unfold vLd;cases vo G s (.vp cs) 1<;>rfl
theorem zp6(G:List (List AV))(s:St)(n id off:Nat):Zw G s n (.ptr id off)=XK (zoF off n (zmu (s.get id))):=by
 rw[←Kt G];unfold Zw;cases vo G s (.ptr id off) n<;>rfl
theorem zmZ(G:List (List AV))(s:St)(n:Nat)(cs:List AV):Zw G s n (.vp cs)=XK (xV n cs):=by
 rw[←LX G s];unfold Zw;cases vo G s (.vp cs) n<;>rfl
noncomputable def zkN(s:St)(id e:Nat)(x:Bool):Option (List AV)→Option (AV×St)
 |some cs=>some (qc,s.put id (.row e cs x false))
 |none=>none
theorem zuu(s:St)(id e:Nat)(x:Bool)(cs:List AV):zkN s id e x (some cs)=some (qc,s.put id (.row e cs x false)):=rfl
noncomputable def stO(s:St)(id off n:Nat)(w:AV):Option AObj→Option (AV×St)
 |some (.row e cs x false)=>bif (za (wY w.cells) n&&xZ w.cells)then zkN s id e x (vN cs off w.cells)else none
 |_=>none
theorem zmG(s:St)(id off n:Nat)(w:AV)(e:Nat)(cs:List AV)(x:Bool):stO s id off n w (some (.row e cs x false))=(bif (za (wY w.cells) n&&xZ w.cells)then zkN s id e x (vN cs off w.cells)else none):=rfl
theorem zmi(s:St)(n id off:Nat)(w:AV):oSt s n (.ptr id off) w=stO s id off n w (s.get id):=by
 unfold oSt ur;simp only;cases s.get id with
 |none=>cases za (wY w.cells) n<;>rfl
 | some o=>
  cases o<;>first|(cases za (wY w.cells) n<;>rfl)|skip
  rename_i e cs x fz
  cases fz
  ·simp only[stO];cases za (wY w.cells) n<;>cases xZ w.cells<;>simp only[xj,xo,Bool.not_false,cond_true,cond_false,Bool.and_true,Bool.and_false,Bool.true_and,Bool.false_and]
   cases vN cs off w.cells<;>rfl
  ·cases za (wY w.cells) n<;>rfl
theorem UT(s:St)(id off:Nat)(vs:List AV)(e:Nat)(cs cs':List AV)(x:Bool)(h:s.get id=some (.row e cs x false))(ha:xZ vs=true)(hp:vN cs off vs=some cs'):ur s (.ptr id off) vs=some (s.put id (.row e cs' x false)):=by
 unfold ur;simp only[h,ha,hp,xj,xo,cond_false]
theorem zle(a b:Nat):zd a b=decide (a≤b):=by
 cases h:zd a b with
 |true=>exact(decide_eq_true (xR.1 h)).symm
 |false=>exact(decide_eq_false (fun e=>by rw[xR.2 e]at h;cases h)).symm
theorem zjr(a b:Nat):ze a b=decide (a<b):=by
 cases h:ze a b with
 |true=>exact(decide_eq_true (wi.1 h)).symm
 |false=>exact(decide_eq_false (fun e=>by rw[wi.2 e]at h;cases h)).symm
theorem zjq(a b:Nat):za a b=decide (a=b):=by
 cases h:za a b with
 |true=>exact(decide_eq_true (xT.1 h)).symm
 |false=>exact(decide_eq_false (fun e=>by rw[xT.2 e]at h;cases h)).symm
mutual
theorem Kb(n0:Nat):∀{v:AV},x8 v=true→pH n0 v=some v
 |.bool _,_=>rfl
 |.int _ _,_=>rfl
 |.str _,_=>rfl
 |.nilp,_=>rfl
 |.gptr _ _,_=>rfl
 |.sl0,_=>rfl
 |.nils,_=>rfl
 |.nilm,_=>rfl
 |.nilf,_=>rfl
 |.nili,_=>rfl
 |.lst _ _ _,_=>rfl
 |.vp _,_=>rfl
 |.ifc _ v,h=>by simp only[pH,h,cond_true]
 |.fn _ a c,h=>by simp only[pH,h,cond_true]
 |.agg cs,h=>by simp only[pH,h,cond_true]
 |.tup vs,h=>by simp only[pH,h,cond_true]
 |.ptr _ _,h=>by simp[x8]at h
 |.sl _ _ _ _,h=>by simp[x8]at h
 |.map _,h=>by simp[x8]at h
 |.yld _,h=>by simp[x8]at h
 |.gr _ _ _ _,h=>by simp[x8]at h
end
theorem Ke(n0:Nat):∀{l:List AV},xN l=true→X0 n0 l=some l
 |[],_=>rfl
 |v::r,h=>by
  simp only[xN,Bool.and_eq_true]at h;simp only[X0,Kb n0 h.1,Ke n0 h.2]
theorem Kc(n0:Nat)(h:x8 v=true):Xe n0 v=some v:=by
 cases v<;>first|exact Kb n0 h|skip
 rename_i cs
 simp only[x8]at h;simp only[Xe,Ke n0 h]
theorem Kf(n0:Nat):∀{l:List AV},xN l=true→Xf n0 l=some l
 |[],_=>rfl
 |v::r,h=>by
  simp only[xN,Bool.and_eq_true]at h;simp only[Xf,Kc n0 h.1,Kf n0 h.2]
theorem zvU(n0:Nat)(h:x8 v=true):ZZ n0 v=some v:=by
 cases v<;>first|exact Kc n0 h|skip
 rename_i cs
 simp only[x8]at h;simp only[ZZ,Kf n0 h]
def zk9:Option (List AV)→Option AV
 |some l=>some (.tup l)
 |none=>none
theorem ztd(l:List AV):zk9 (some l)=some (.tup l):=rfl
theorem zrt(n0:Nat)(vs:List AV):ZZ n0 (.tup vs)=zk9 (Xf n0 vs):=by simp only[ZZ,zk9];cases Xf n0 vs<;>rfl
theorem zrv(n0:Nat):Xf n0 []=some []:=rfl
theorem zvW(n0:Nat)(v:AV)(r:List AV):Xf n0 (v::r)=pC (Xe n0 v) (Xf n0 r):=by
 simp only[Xf,pC];cases Xe n0 v<;>cases Xf n0 r<;>rfl
theorem zru(n0:Nat):X0 n0 []=some []:=rfl
theorem zvV(n0:Nat)(v:AV)(r:List AV):X0 n0 (v::r)=pC (pH n0 v) (X0 n0 r):=by
 simp only[X0,pC];cases pH n0 v<;>cases X0 n0 r<;>rfl
theorem zxy(n0 id e n:Nat)(cs:List AV):pH n0 (.gr id e n cs)=if n0≤id then some (.lst n false cs)else some (.gr id e n cs):=by
 simp only[pH,zle];by_cases h:n0≤id<;>simp[h]
theorem znB(n0 id e n:Nat)(cs:List AV):Xe n0 (.gr id e n cs)=if n0≤id then some (.lst n false cs)else some (.gr id e n cs):=zxy n0 id e n cs
theorem znC(n0 id e n:Nat)(cs:List AV):ZZ n0 (.gr id e n cs)=if n0≤id then some (.lst n false cs)else some (.gr id e n cs):=zxy n0 id e n cs
theorem zrr(n0:Nat)(cs:List AV):Xe n0 (.agg cs)=XK (X0 n0 cs):=rfl
theorem zzv:x9 []=[]:=rfl
theorem HC(b:Nat)(r:List Nat):x9 (b::r)=.int .u8 (.ofNat b)::x9 r:=rfl
theorem gF:∀(n:Nat) (l:List Nat),wl n (x9 l)=x9 (l.drop n)
 |0,l=>rfl
 |n+1,[]=>rfl
 |n+1,b::r=>by simp only[x9,wl,xq];exact gF n r
theorem Ww:∀(n:Nat) (l:List Nat),tkN n (x9 l)=x9 (l.take n)
 |0,l=>by simp[tkN,x9]
 |n+1,[]=>rfl
 |n+1,b::r=>by simp only[x9,tkN,xg];rw[Ww n r]
theorem Qk:∀{n:Nat} {l:List Nat},n≤l.length→xV n (x9 l)=some (x9 (l.take n))
 |0,l,_=>by simp[xV,x9]
 |n+1,[],h=>by simp at h
 |n+1,b::r,h=>by simp only[x9,xV,Qk (n:=n) (l:=r) (by simpa using h),xg]
theorem Yd:∀{l:List Nat},(∀b∈l,b<256)→uB (x9 l)=some l
 |[],_=>rfl
 |b::r,h=>by
  simp only[x9,uB,Yd (l:=r) (fun x hx=>h x (by simp[hx])),wi.2 (h b (by simp)),cond_true]
theorem zkw(a b:Nat):Nat.lor a b=a|||b:=rfl
theorem zq9(ρ:Nat→Option Nat)(k:IntKind)(n:Int):vt ρ (.int k n)=some (.int k n):=by simp only[vt]
theorem zux(ρ:Nat→Option Nat)(b:Bool):vt ρ (.bool b)=some (.bool b):=by simp only[vt]
theorem zpc(ρ:Nat→Option Nat)(s:List Nat):vt ρ (.str s)=some (.str s):=by simp only[vt]
theorem zuy(ρ:Nat→Option Nat):vt ρ .nils=some .nils:=by simp only[vt]
theorem zpa(ρ:Nat→Option Nat)(n:Nat)(e:Bool)(l:List AV):vt ρ (.lst n e l)=some (.lst n e l):=by simp only[vt]
def jS(f:Nat→AV):Option Nat→Option AV
 |some j=>some (f j)
 |none=>none
theorem znO(f:Nat→AV)(j:Nat):jS f (some j)=some (f j):=rfl
theorem zpb(ρ:Nat→Option Nat)(i o:Nat):vt ρ (.ptr i o)=jS (fun j=>.ptr j o) (ρ i):=by simp only[vt];cases ρ i<;>rfl
theorem zmq(ρ:Nat→Option Nat)(i e n:Nat)(l:List AV):vt ρ (.gr i e n l)=jS (fun j=>.gr j e n l) (ρ i):=by simp only[vt];cases ρ i<;>rfl
def fnO(f:Nat):Option (List AV)→Option (List AV)→Option AV
 |some a,some c=>some (.fn f a c)
 |_,_=>none
theorem zrk(f:Nat)(a c:List AV):fnO f (some a) (some c)=some (.fn f a c):=rfl
theorem zmp(ρ:Nat→Option Nat)(f:Nat)(a c:List AV):vt ρ (.fn f a c)=fnO f (Zl ρ (xN a) a) (Zl ρ (xN c) c):=by
 simp only[vt];cases Zl ρ (xN a) a<;>cases Zl ρ (xN c) c<;>rfl
theorem zkP(ρ:Nat→Option Nat)(l:List AV):Zl ρ true l=some l:=by simp only[Zl,cond_true]
theorem uq(b:Bool):x8 (.bool b)=true:=rfl
theorem qu(k:IntKind)(n:Int):x8 (.int k n)=true:=rfl
theorem lA(s:List Nat):x8 (.str s)=true:=rfl
theorem zyS:x8 .nilp=true:=rfl
theorem zyO(g o:Nat):x8 (.gptr g o)=true:=rfl
theorem zus:x8 .sl0=true:=rfl
theorem UF:x8 .nils=true:=rfl
theorem zyR:x8 .nilm=true:=rfl
theorem zyP:x8 .nilf=true:=rfl
theorem zyQ:x8 .nili=true:=rfl
theorem wN(n:Nat)(e:Bool)(l:List AV):x8 (.lst n e l)=true:=rfl
theorem zq6(l:List AV):x8 (.vp l)=true:=rfl
theorem zur(t:Nat)(v:AV):x8 (.ifc t v)=x8 v:=rfl
theorem Xw(f:Nat)(a c:List AV):x8 (.fn f a c)=(xN a&&xN c):=rfl
theorem ve(l:List AV):x8 (.agg l)=xN l:=rfl
theorem uz(l:List AV):x8 (.tup l)=xN l:=rfl
theorem x6:xN []=true:=rfl
theorem xY(v:AV)(r:List AV):xN (v::r)=(x8 v&&xN r):=rfl
theorem zro(n0:Nat)(k:IntKind)(n:Int):pH n0 (.int k n)=some (.int k n):=rfl
theorem zrq(n0:Nat)(s:List Nat):pH n0 (.str s)=some (.str s):=rfl
theorem zrp(n0:Nat)(n:Nat)(e:Bool)(l:List AV):pH n0 (.lst n e l)=some (.lst n e l):=rfl
theorem zrs(n0:Nat)(k:IntKind)(n:Int):Xe n0 (.int k n)=some (.int k n):=rfl
theorem lI{C:Cx}{ib:ICode}{Q:Res→Fr→St→Prop}{α:Type}(m:α→Nat)(fr:α→Fr)(st:α→St)(I:α→Prop)
  (step:∀x,I x→Tri C ib (fr x) (st x) (wH (fun f t=>∃y,I y∧m y<m x∧Gc C f t (fr y) (st y)) Q)):∀x,I x→U5 C ib (fr x) (st x) Q:=by
 have key:∀n x,m x<n→I x→U5 C ib (fr x) (st x) Q:=by
  intro n
  induction n with
  |zero=>intro x h;omega
  | succ n ih=>
   intro x hx hI;refine ZU ((step x hI).mono fun r f t=>?_);cases r with
   |norm=>
    rintro⟨y,h1,h2,h3⟩
    exact zwB h3 (ih y oM h1)
   |exit i=>exact fun h=>h
   |ret=>exact fun h=>h
 exact fun x hI=>key (m x+1) x oM hI
theorem WC:∀l:List Nat,wkL (x9 l)=x9 l
 |[]=>rfl
 |b::r=>by simp only[x9,wkL,wkV,WC r]
theorem Vi:∀{a b:List Nat},x9 a=x9 b→a=b
 |[],[],_=>rfl
 |[],_::_,h=>by simp[x9]at h
 |_::_,[],h=>by simp[x9]at h
 |x::a,y::b,h=>by
  simp only[x9,List.cons.injEq,AV.int.injEq,true_and]at h;obtain⟨h1,h2⟩:=h;have:x=y:=by cases h1;rfl
  rw[this,Vi h2]
structure Is(C:Cx)(E:Env)(O:Orc)(c:St)(M:Nat):Prop where
 ok:CxOk C
 e:C.E=E
 o:C.O=O
 rd:C.rd=none
 s:C.s=c
 m:C.M=M
section
variable {C:Cx}{E:Env}{O:Orc}{c:St}{M:Nat}{ic:ICode}{fr fr' fr1:Fr}{s s' s1:St}{Q:Res→Fr→St→Prop}{res:Res}
theorem Is.eval(k:Is C E O c M)(h:evC E (evW E O) none ic fr s=some (res,fr',s'))(q:Q res fr' s'):Tri C ic fr s Q:=
 P3 k.ok (by rw[k.e,k.o,k.rd];exact h) q
theorem Is.ev(k:Is C E O c M)(h:∃r,evC E (evW E O) none ic fr s=some r∧Q r.1 r.2.1 r.2.2):Tri C ic fr s Q:=by
 obtain⟨⟨res,fr',s'⟩,h1,h2⟩:=h;exact k.eval h1 h2
theorem Is.gcs(k:Is C E O c M){keep live:List Nat}{md:Bool}(h:gcF false c M keep live md fr s=some (fr1,s1)):Gc C fr s fr1 s1:=
 zrF k.ok (wk:=false) (keep:=keep) (live:=live) (md:=md) (by rw[k.s,k.m];exact h)
theorem Is.gcL(k:Is C E O c M)(keep live:List Nat)(md:Bool)(h:gcF false c M keep live md fr s=some (fr1,s1))(t:U5 C ic fr1 s1 Q):U5 C ic fr s Q:=zwB (k.gcs h) t
end
def Cut(C:Cx)(fr1:Fr)(s1:St)(Q:Res→Fr→St→Prop):Res→Fr→St→Prop
 |.norm,f,t=>Gc C f t fr1 s1
 |r,f,t=>Q r f t
theorem zwC{C:Cx}{ia ib:ICode}{fr:Fr}{Q:Res→Fr→St→Prop}(fr1:Fr)(s1:St)(h1:Tri C ia fr s (Cut C fr1 s1 Q))(h2:Tri C ib fr1 s1 Q):Tri C (.seq ia ib) fr s Q:=
 qg (h1.mono fun r f t=>by
  cases r with
  |norm=>exact fun h=>zxd h h2
  |exit i=>exact fun h=>h
  |ret=>exact fun h=>h)
theorem Is.sc(hO:OrcOk P w0 O)(hm:P.follows .mixedOrders=true)(hG:xS E.globs w0)(hE:kj P E){f:Nat}{F:IFunc}{args:List AV}{os:List (Option AObj)}{b:Bool}{c':St}(M:Nat)
  (hF:E.funs.get f=some F) (hle:args.length≤F.ntmps) (hM:∀i,M.testBit i=true→∃o,jb os i=some o∧qG o=false)
  (h:∀C:Cx,Is C E O (H os 0 b) M→Tri C F.body {tm:=wq (tmL []) 0 args,df:=[]} (H os 0 b) (Fin E (H os 0 b) M F.res v c')):SC P w0 f args (H os 0 b) v c':=
 zy0 hO hm hG hE M hF hle rfl rfl rfl (fun i hi=>by
  obtain⟨o,h1,h2⟩:=hM i hi;exact⟨zxI h1,o,by rw[QY];exact h1,h2⟩) fun C ok h1 h2 h3 h4 h5=>h C ⟨ok,h1,h2,h3,h4,h5⟩
theorem Yo{c:St}{M:Nat}{res:List RV}{c':St}{r:Res}{fr:Fr}{s2:St}{vs:List AV}{v0:AV}(h0:r=.norm∨r=.ret)(h1:wZ s fr.df=some s2)(h2:jk E.globs fr.tm s2 res=some vs)(h3:ZZ c.next (vB vs)=some v0)(h4:wkV v0=v)(h5:gcF true c M [] [] c.md {tm:=tmL [],df:=[]} s2=some ({tm:=tmL [],df:=[]},c')):Fin E c M res v c' r fr s:=
 ⟨h0,s2,vs,v0,_,h1,h2,h3,h4.symm,h5⟩
theorem kV{os:List (Option AObj)}:∀i,(0:Nat).testBit i=true→∃o,jb os i=some o∧qG o=false:=fun i h=>by simp at h
theorem zjH{os:List (Option AObj)}(hg:qG o=false):∀i,(1:Nat).testBit i=true→∃o',jb (some o::os) i=some o'∧qG o'=false:=fun i h=>by
 cases i with
 |zero=>exact⟨o,rfl,hg⟩
 |succ i=>rw[Nat.testBit_succ]at h;simp at h
def Byt(l:List Nat):Prop:=∀x∈l,x<256
theorem Byt.drop{l:List Nat}(h:Byt l)(n:Nat):Byt (l.drop n):=fun x hx=>h x (List.mem_of_mem_drop hx)
theorem Byt.take{l:List Nat}(h:Byt l)(n:Nat):Byt (l.take n):=fun x hx=>h x (List.mem_of_mem_take hx)
theorem Byt.cons{c:Nat}{l:List Nat}(h:Byt (c::l)):c<256∧Byt l:=⟨h c (by simp),fun x hx=>h x (by simp[hx])⟩
theorem zuQ{e:Bool}{k k':IntKind}{lo hi:Nat}(h1:lo≤hi)(h2:hi≤b.length):ki 1 (.lst b.length e (x9 b)) (some (.int k (.ofNat lo))) (some (.int k' (.ofNat hi))) none=some (.lst (hi-lo) (e&&Nat.beq hi b.length) (x9 ((b.drop lo).take (hi-lo)))):=by
 simp only[ki,Hm,bnd,xR.2 h1,xR.2 h2,cond_true];show some (AV.lst (hi-lo) _ (tkN ((hi-lo)*1) (wl (lo*1) (x9 b))))=_;rw[xi,xi,gF,Ww]
theorem Hd{e:Bool}{k:IntKind}{lo:Nat}(h1:lo≤b.length):ki 1 (.lst b.length e (x9 b)) (some (.int k (.ofNat lo))) none none=some (.lst (b.length-lo) (e&&Nat.beq b.length b.length) (x9 (b.drop lo))):=by
 simp only[ki,Hm,bnd,xR.2 h1,cond_true];show some (AV.lst (b.length-lo) _ (tkN ((b.length-lo)*1) (wl (lo*1) (x9 b))))=_;rw[xi,xi,gF,Ww,List.take_of_length_le (by simp)]
theorem JG{e:Bool}{l:List Nat}(hn:l.length=n)(hb:Byt l):ztk s (.lst n e (x9 l))=some (.str l):=by
 subst hn;simp only[ztk,Qk (Nat.le_refl _),List.take_length,vQ,Yd hb,XI]
theorem zlQ{t:List Nat}(h:t.length<9223372036854775808)(l:List (Nat×Option AObj))(n m:Nat)(hd:List (Nat×Nat))(on:Option (Nat×List Nat))(e:Nat):Qw (KL l n m true hd on) e (.str t)=some (.lst t.length false (x9 t),KL l n m true hd on):=by
 simp only[Qw,wE,wi.2 h,cond_true,WE]
theorem li:xZ []=true:=rfl
theorem u5(v:AV)(r:List AV):xZ (v::r)=(q8 v&&xZ r):=by simp only[xZ];cases q8 v<;>rfl
theorem lC(k:IntKind)(n:Int):q8 (.int k n)=true:=by simp only[q8]
theorem zpq(s:List Nat):q8 (.str s)=true:=by simp only[q8]
theorem ZT(b:Bool):q8 (.bool b)=true:=by simp only[q8]
theorem Zq(n:Nat)(e:Bool)(l:List AV):q8 (.lst n e l)=true:=by simp only[q8]
theorem zmz(i e n:Nat)(l:List AV):q8 (.gr i e n l)=true:=by simp only[q8]
theorem zuJ:q8 .nils=true:=by simp only[q8]
theorem zpp(i o:Nat):q8 (.ptr i o)=true:=by simp only[q8]
theorem zpo(i:Nat):q8 (.map i)=true:=by simp only[q8]
theorem zoJ{a b:Nat}(h:a<b):decide (a<b)=true:=decide_eq_true h
theorem zoI{a b:Nat}(h:b≤a):decide (a<b)=false:=decide_eq_false oM
theorem zoH{a b:Nat}(h:b<a):decide (a≤b)=false:=decide_eq_false oM
theorem Uq(k:IntKind){a:Nat}(h:a<n):idx (.int k (.ofNat a)) n=some a:=by rw[znL,if_pos h]
theorem wF{l:List AV}(h:l.length=n):xV n l=some l:=by
 subst h
 induction l with
 |nil=>rfl
 |cons v r ih=>simp only[zU,xV,ih]
theorem ge(n:Nat)(e:Bool)(cs:List AV):uJ (.lst n e cs)=some n:=rfl
theorem zwI(l:List (Nat×Option AObj))(n m:Nat)(hd:List (Nat×Nat))(on:Option (Nat×List Nat))(t esz bytes:Nat)(e:Bool)(cs:List AV)(hl:cs.length=esz)(h1:1≤esz)(hb:2*bytes≤281474976710656)(hp:xN cs=true):
  vC (KL l n m true hd on) t esz bytes .nils (.lst 1 e cs)=some (.gr n esz 1 cs,KL ((n,some (.app t cs))::l) (n+1) m true hd on):=by
 have h2:xV (zb 1 esz) cs=some cs:=wF (by rw[hl];show esz=1*esz;omega)
 simp only[vC,ge,wS,h2,lL,WE,hp,xe,cond_true,lq];rw[show zd (zb (zb 2 1) bytes) 281474976710656=true from xR.2 (by show 2*1*bytes≤_;omega),show zd 1 esz=true from xR.2 h1]
 rfl
theorem zom(l:List (Nat×Option AObj))(n m:Nat)(b:Bool)(t esz bytes id k:Nat)(e:Bool)(old cs:List AV)(hg:xD l id=some (.app t old))(hl:cs.length=esz)(h1:1≤esz)(hb:2*(k+1)*bytes≤281474976710656)(hk:k<1000000000)(hp:xN old=true)(hp2:xN cs=true)(hs:xZ cs=true):
  vC (KL l n m b [] none) t esz bytes (.gr id esz k old) (.lst 1 e cs)=some (.gr n esz (k+1) (old++cs),KL ((n,some (.app t (old++cs)))::(id,none)::l) (n+1) (m|||1<<<id) b [] none):=by
 have h2:xV (zb 1 esz) cs=some cs:=wF (by rw[hl];show esz=1*esz;omega)
 have h3:xN (old++cs)=true:=by rw[uA,hp,hp2];rfl
 simp only[vC,ge,wS,h2,lL,x5,hg,xT.2,hs,xe,cond_true,lq,h3];rw[show zd (zb (zb 2 (Nat.add k 1)) bytes) 281474976710656=true from xR.2 hb,show zd 1 esz=true from xR.2 h1,show ze (Nat.add k 1) 9223372036854775808=true from wi.2 (by show k+1<_;omega)]
 rfl
theorem zn7(l:List (Nat×Option AObj))(n m:Nat)(hd:List (Nat×Nat))(on:Option (Nat×List Nat))(e len:Nat)(cs:List AV)(hp:xN cs=true):Xr (KL l n m true hd on) e len (some cs)=some (.lst len true cs,KL l n m true hd on):=by
 simp only[Xr,WE,hp,xe,cond_true]
noncomputable def zrg(zs:List AV)(off n:Nat)(tm:Trie AV)(r:List (Nat×Nat×Opd)):Option AV→Option (List AV)
 | some v=>bif za (wY v.cells) n&&zd 1 n then (match vN zs off v.cells with
   |some zs'=>jg zs' tm r
   |none=>none)else none
 |none=>none
theorem zvO(zs:List AV)(tm:Trie AV):jg zs tm []=some zs:=rfl
theorem zyi(zs:List AV)(tm:Trie AV)(off n:Nat)(x:Opd)(r:List (Nat×Nat×Opd)):jg zs tm ((off,n,x)::r)=zrg zs off n tm r (x.ev tm):=by
 simp only[jg,zrg];cases x.ev tm<;>rfl
theorem zyj(zs:List AV)(off n:Nat)(tm:Trie AV)(r:List (Nat×Nat×Opd))(v:AV):zrg zs off n tm r (some v)=bif za (wY v.cells) n&&zd 1 n then (match vN zs off v.cells with
   |some zs'=>jg zs' tm r
   |none=>none)else none:=rfl
theorem zlx(hO:OrcOk P w0 O)(hm:P.follows .mixedOrders=true)(hG:xS E.globs w0)(hE:kj P E){f:Nat}{args:List AV}(h:okV v ((evT E O n).call f args s0)=true):∃s1,SC P w0 f args (s00 0 false) v s1:=by
 obtain⟨s1,hs⟩:=zqw h;have:=(V6 hO.ext hm hG hE hO.ok n).call hs;exact⟨s1,this.1,fun φ w xs r hwf hf hx F k hF=>this.2 r hwf hf hx F k hF⟩
section
variable {P:Program}{w0:World}{f:Nat}{α:Type}
theorem SC.args{args args':List AV}(h:SC P w0 f args' s v s')(hw:∀φ xs,VRL φ args xs→VRL φ args' xs):SC P w0 f args s v s':=
 ⟨h.1,fun φ w xs r hwf hf hx F n hF=>h.2 φ w xs r hwf hf (hw φ xs hx) F n hF⟩
open Classical in
noncomputable def vr(enc:α→List AV)(Pre:α→Prop)(F:α→AV)(args:List AV)(s:St):Option (AV×St):=
 if h:∃x,enc x=wkL args∧Pre x then some (F (Classical.choose h),s)else none
theorem qH{enc:α→List AV}{Pre:α→Prop}{F:α→AV}(inj:∀x y,enc x=enc y→x=y){args:List AV}(s:St)(x:α)(hp:Pre x)(ha:wkL args=enc x):vr enc Pre F args s=some (F x,s):=by
 have h:∃x,enc x=wkL args∧Pre x:=⟨x,ha.symm,hp⟩;unfold vr;rw[dif_pos h];have:=yX h;rw[inj _ x (this.1.trans ha)]
theorem ly{enc:α→List AV}{Pre:α→Prop}{F:α→AV}(args:List AV)(s:St)(v:AV)(s':St)(h:vr enc Pre F args s=some (v,s')):Ext s s':=by
 unfold vr at h;split at h
 ·cases h;exact Ext.refl _
 ·cases h
theorem Wa{enc:α→List AV}{Pre:α→Prop}{F:α→AV}(b:Bool)(hp1:∀x,xN (enc x)=true)(hp2:∀x,x8 (F x)=true)(h:∀x,Pre x→∃s1,SC P w0 f (enc x) (s00 0 b) (F x) s1):qv P w0 f (vr enc Pre F):=by
 intro args s v s' hg;unfold vr at hg;split at hg
 ·rename_i hx
  cases hg;obtain⟨h1,h2⟩:=yX hx;obtain⟨s1,hs⟩:=h _ h2;refine SC.args (SC.up hs (hp1 _) (hp2 _) s) fun φ xs hv=>?_;rw[h1];exact jL hv
 ·cases hg
open Classical in
end
theorem zsM(S:Self)(l:Nat)(vs:List AV)(s:St):GG S (some (.yld l)) (some vs) s=S.round l vs s:=rfl
theorem kw(E:Env)(O:Orc)(l:Nat)(a:List AV)(s:St):(evW E O).round l a s=uI E (evW E O) l a s:=by
 cases h:uI E (evW E O) l a s with
 |some r=>exact zvK h
 | none=>
  cases h2:(evW E O).round l a s with
  |none=>rfl
  | some r=>
   obtain⟨n,hn⟩:=qV (α:=AV×St) h2;cases n with
   |zero=>cases hn
   |succ n=>
    have h3:uI E (evT E O n) l a s=some r:=hn;have h4:LeS (evT E O n) (evW E O):=⟨fun f a s r h=>uV (fun n r h=>(uE E O n).call _ _ _ _ h) h,fun rd b fr s r h=>uV (fun n r h=>(uE E O n).loop _ _ _ _ _ h) h,fun l a s r h=>uV (fun n r h=>(uE E O n).round _ _ _ _ h) h⟩;rw[(XS E l a s).up _ _ h4 r h3]at h;cases h
theorem Ls(E:Env)(O:Orc)(rd:Option Nat)(b:ICode)(fr:Fr)(s:St):(evW E O).loop rd b fr s=evC E (evW E O) rd (.loop b) fr s:=by
 cases h:evC E (evW E O) rd (.loop b) fr s with
 |some r=>exact zrc h
 | none=>
  cases h2:(evW E O).loop rd b fr s with
  |none=>rfl
  | some r=>
   obtain⟨n,hn⟩:=qV (α:=Res×Fr×St) h2;cases n with
   |zero=>cases hn
   |succ n=>
    have h3:evC E (evT E O n) rd (.loop b) fr s=some r:=hn;have h4:LeS (evT E O n) (evW E O):=⟨fun f a s r h=>uV (fun n r h=>(uE E O n).call _ _ _ _ h) h,fun rd b fr s r h=>uV (fun n r h=>(uE E O n).loop _ _ _ _ _ h) h,fun l a s r h=>uV (fun n r h=>(uE E O n).round _ _ _ _ h) h⟩;rw[(kc E rd (.loop b) fr s).up _ _ h4 r h3]at h;cases h
theorem zsI(E:Env)(O:Orc)(rd:Option Nat)(b:ICode)(fr:Fr)(s:St):evC E (evW E O) rd (.loop b) fr s=uC (fun f t=>evC E (evW E O) rd (.loop b) f t) (evC E (evW E O) rd b fr s):=by
 show uC ((evW E O).loop rd b) _=_
 congr 1
 funext f t
 exact Ls E O rd b f t
noncomputable def zmn(E:Env)(S:Self)(l:Nat)(asg body:ICode)(s:St):Option (Trie AV)→Option (AV×St)
 |some tm=>qR E S l body (evC E S (some l) asg {tm:=tm,df:=[]} s)
 |none=>none
noncomputable def zkO(E:Env)(S:Self)(l:Nat)(args:List AV)(s:St):Option AObj→Option (AV×St)
 |some (.loop _ _ tm ps asg body _)=>zmn E S l asg body s (gS tm ps args)
 |_=>none
theorem KU(E:Env)(S:Self)(l:Nat)(args:List AV)(s:St):uI E S l args s=zkO E S l args s (s.get l):=by
 unfold uI zkO;cases s.get l with
 |none=>rfl
 |some o=>cases o<;>first|rfl|(simp only[zmn];split<;>simp_all)
theorem KS(E:Env)(S:Self)(l:Nat)(args:List AV)(s:St)(st:LSt)(pd:Option Res)(tm:Trie AV)(ps:List Nat)(asg body:ICode)(d:Nat):zkO E S l args s (some (.loop st pd tm ps asg body d))=zmn E S l asg body s (gS tm ps args):=rfl
theorem KT(E:Env)(S:Self)(l:Nat)(asg body:ICode)(s:St)(tm:Trie AV):zmn E S l asg body s (some tm)=qR E S l body (evC E S (some l) asg {tm:=tm,df:=[]} s):=rfl
noncomputable def rbK(E:Env)(S:Self)(l:Nat)(bd:ICode)(fr:Fr)(s:St):Option AObj→Option (AV×St)
 |some (.loop .ready pd tm ps asg body d)=>vP l (evC E S (some l) bd fr (s.put l (.loop .busy pd tm ps asg body d)))
 |_=>none
theorem Zn(E:Env)(S:Self)(l:Nat)(bd:ICode)(fr:Fr)(s:St):qR E S l bd (some (.norm,fr,s))=rbK E S l bd fr s (s.get l):=by
 unfold qR rbK;simp only;cases s.get l with
 |none=>rfl
 |some o=>cases o<;>first|rfl|(rename_i st _ _ _ _ _ _;cases st<;>rfl)
theorem KR(E:Env)(S:Self)(l:Nat)(bd:ICode)(fr:Fr)(s:St)(pd:Option Res)(tm:Trie AV)(ps:List Nat)(asg body:ICode)(d:Nat):rbK E S l bd fr s (some (.loop .ready pd tm ps asg body d))=vP l (evC E S (some l) bd fr (s.put l (.loop .busy pd tm ps asg body d))):=rfl
noncomputable def reK(l:Nat)(r:Res)(s:St):Option AObj→Option (AV×St)
 |some (.loop _ _ tm ps asg body d)=>match r with
  |.norm=>some (.bool true,s.put l (.loop .ready none tm ps asg body d))
  |r=>some (.bool false,s.put l (.loop .done (some r) tm ps asg body d))
 |_=>none
theorem Ya(l:Nat)(r:Res)(fr:Fr)(s:St):vP l (some (r,fr,s))=reK l r s (s.get l):=by
 unfold vP reK;simp only;cases s.get l with
 |none=>rfl
 |some o=>cases o<;>first|rfl|(cases r<;>rfl)
theorem Px(l:Nat)(s:St)(st:LSt)(pd:Option Res)(tm:Trie AV)(ps:List Nat)(asg body:ICode)(d:Nat):reK l .norm s (some (.loop st pd tm ps asg body d))=some (.bool true,s.put l (.loop .ready none tm ps asg body d)):=rfl
theorem zlZ(E:Env)(S:Self)(rd:Option Nat)(g:Opd)(ps:List Nat)(asg body:ICode)(fr:Fr)(s:St):evC E S rd (.rf g ps asg body) fr s=rfR S rd (g.ev fr.tm) ps asg body fr s:=rfl
theorem zkS(S:Self)(f:Nat)(a c:List AV)(ps:List Nat)(asg body:ICode)(tm:Trie AV)(df:List Nat)(s:St):rfR S none (some (.fn f a c)) ps asg body ⟨tm,df⟩ s=gQ ⟨tm,df⟩ (s.next+1) s.next (S.call f (a++ .yld (s.next+1)::c) ((s.alloc .dfd).alloc (.loop .ready none tm ps asg body s.next))):=rfl
noncomputable def feK(fr:Fr)(l d:Nat)(s:St):Option AObj→Option (Res×Fr×St)
 |some (.loop st pend tm ps asg body dd)=>match st with
  |.busy=>none
  |_=>some (Pq pend,{fr with df:=d::fr.df},s.put l (.loop .exhausted pend tm ps asg body dd))
 |_=>none
theorem zyV(fr:Fr)(l d:Nat)(v:AV)(s:St):gQ fr l d (some (v,s))=feK fr l d s (s.get l):=by
 unfold gQ feK;simp only;cases s.get l with
 |none=>rfl
 |some o=>cases o<;>rfl
theorem zvN(tm0:Trie AV)(df:List Nat)(l d:Nat)(s:St)(pend:Option Res)(tm:Trie AV)(ps:List Nat)(asg body:ICode)(dd:Nat):feK ⟨tm0,df⟩ l d s (some (.loop .ready pend tm ps asg body dd))=some (Pq pend,⟨tm0,d::df⟩,s.put l (.loop .exhausted pend tm ps asg body dd)):=rfl
theorem zyH:Pq none=.norm:=rfl
def xA{α:Type}(f:α→List AV):List α→List AV
 |[]=>[]
 |x::r=>f x++xA f r
section
variable {α:Type}{f:α→List AV}{k:Nat}
theorem wj:∀l m:List α,xA f (l++m)=xA f l++xA f m
 |[],_=>rfl
 |x::r,m=>by simp only[zG,xA,wj r m,List.append_assoc]
theorem qO(x:α):xA f [x]=f x:=by simp only[xA,List.append_nil]
theorem ql(h:∀x,(f x).length=k):∀l:List α,(xA f l).length=l.length*k
 |[]=>by simp[xA]
 |x::r=>by simp only[xA,yl,h,ql h r,zU,Nat.succ_mul];omega
theorem uf(h:∀x,(f x).length=k):∀(i:Nat) (l:List α),wl (i*k) (xA f l)=xA f (l.drop i)
 |0,l=>by rw[wK];simp
 |i+1,[]=>by rw[wK];simp[xA]
 |i+1,x::r=>by
  rw[wK];simp only[xA,xq];rw[←uf h i r,wK,Nat.succ_mul,Nat.add_comm,←List.drop_drop]
  congr 1
  rw[←h x];simp
theorem qI{a b:List AV}(h:a.length=n):xV n (a++b)=some a:=by
 subst h
 induction a with
 |nil=>rfl
 |cons v r ih=>simp only[zG,zU,xV,ih]
theorem wz(h:∀x,xN (f x)=true):∀l:List α,xN (xA f l)=true
 |[]=>rfl
 |x::r=>by simp only[xA,uA,h,wz h r,xe]
theorem vM(h:∀x,wkL (f x)=f x):∀l:List α,wkL (xA f l)=xA f l
 |[]=>rfl
 | x::r=>by
  have ap:∀a b:List AV,wkL (a++b)=wkL a++wkL b:=fun a b=>by
   induction a with
   |nil=>rfl
   |cons v a ih=>simp only[zG,wkL,ih]
  simp only[xA,ap,h,vM h r]
theorem kD(hk:∀x,(f x).length=k)(h0:0<k)(h:∀x y,f x=f y→x=y):∀{l m:List α},xA f l=xA f m→l=m
 |[],[],_=>rfl
 |[],y::m,e=>by
  have:=congrArg y8 e;simp only[xA,xd,yl,hk]at this;omega
 |x::l,[],e=>by
  have:=congrArg y8 e;simp only[xA,xd,yl,hk]at this;omega
 |x::l,y::m,e=>by
  simp only[xA]at e;obtain⟨h1,h2⟩:=List.append_inj e (by rw[hk,hk])
  rw[h x y h1,kD hk h0 h h2]
end
inductive DT where
 |mk (k n:Int) (t:List Nat) (ks:List DT) (p:Int)
variable {d:DT}
mutual
def wR:DT→List AV
 |.mk k n t ks p=>[.int .i64 k,.int .i64 n,.str t,.lst ks.length false (xX ks),.int .i64 p]
def xX:List DT→List AV
 |[]=>[]
 |d::r=>wR d++xX r
end
def Y3(d:DT):AV:=.agg (wR d)
theorem wo(k n:Int)(t:List Nat)(ks:List DT)(p:Int):wR (.mk k n t ks p)=[.int .i64 k,.int .i64 n,.str t,.lst ks.length false (xX ks),.int .i64 p]:=by simp only[wR]
theorem lU:xX []=[]:=by simp only[xX]
theorem gD(d:DT)(r:List DT):xX (d::r)=wR d++xX r:=by simp only[xX]
theorem vg:∀l:List DT,xX l=xA wR l
 |[]=>by simp only[xX,xA]
 |d::r=>by simp only[xX,xA,vg r]
theorem qT:∀d:DT,(wR d).length=5
 |.mk _ _ _ _ _=>by simp only[wR,zU,xd]
theorem ua:∀d:DT,xN (wR d)=true
 |.mk _ _ _ _ _=>by simp only[wR,xY,x6,qu,lA,wN,xe]
theorem ub(l:List DT):xN (xX l)=true:=by rw[vg];exact wz ua l
mutual
theorem JL:∀d:DT,wkL (wR d)=wR d
 |.mk k n t ks p=>by simp only[wR,wkL,wkV,ll ks]
theorem ll:∀l:List DT,wkL (xX l)=xX l
 |[]=>by simp only[xX,wkL]
 | d::r=>by
  have ap:∀a b:List AV,wkL (a++b)=wkL a++wkL b:=fun a b=>by
   induction a with
   |nil=>rfl
   |cons v a ih=>simp only[zG,wkL,ih]
  simp only[xX,ap,JL d,ll r]
end
mutual
theorem VB:∀{d e:DT},wR d=wR e→d=e
 |.mk k n t ks p,.mk k' n' t' ks' p',h=>by
  simp only[wR,List.cons.injEq,AV.int.injEq,AV.str.injEq,AV.lst.injEq,true_and,and_true]at h;obtain⟨rfl,rfl,rfl,⟨_,h1⟩,rfl⟩:=h;rw[lT h1]
theorem lT:∀{l m:List DT},xX l=xX m→l=m
 |[],[],_=>rfl
 |[],d::m,h=>by
  have:=congrArg y8 h;simp only[xX,xd,yl,qT]at this;omega
 |d::l,[],h=>by
  have:=congrArg y8 h;simp only[xX,xd,yl,qT]at this;omega
 |d::l,e::m,h=>by
  simp only[xX]at h;obtain⟨h1,h2⟩:=List.append_inj h (by rw[qT,qT])
  rw[VB h1,lT h2]
end
theorem HZ(i:Nat)(l:List DT):wl (i*5) (xX l)=xX (l.drop i):=by rw[vg,vg];exact uf qT i l
theorem U9(l m:List DT):xX (l++m)=xX l++xX m:=by simp only[vg];exact wj l m
theorem zsx{e:DT}(h:Y3 d=Y3 e):d=e:=VB (by simpa [Y3]using h)
structure Tok where
 kind:Nat
 pos:Nat
 d:DT
attribute [go_sem] XD zkJ xr zvu zyb zie zof zjm WE x5 YP uX ztu zzs zny zra zmK zmJ zm7 zm6 zm8 znJ znI zpF PH PG QT PF Hc znX zuL zy2 zzr zq8 zoT zsN Wk zuk zsD zmI zmH zrN zrM GT Ji zzI H3 G0 Pk GZ zpR zta zpO zu4 zu7 zpU zxc zpN zpP ztb P0 zu5 zpS zpQ zu8 zpT zu9 zu6 zu3 zxb YH zpJ zmM zpK zmL UV PV znr zvJ zye zsV zyf zsW znm zs3 znw zs7 zsU zs0 znx zng zsZ zsY zs5 zvI zs6 zs8 zs9 znk znl zs1 zs2 znn znq zno znv znt znu zni znj zs4 zsX zsT znp zns zvG zvH znh zyB zxa zy9 zu1 zxq zxp Hy zzt WH zsL zoP zsJ zsK PD G7 zpm zpl zuE zyZ zuH zuG zuF zoR V4 zvA zsH zoQ zqc zup zuo HF Gn zmr zuz zyD zyE zyF zzL zr3 zv9 zpd zkR zms zmt Jp zjP zjO zoU zsO zvE zvF zy3 zuA ziv ziw znQ znR zin zio ziq zix zj9 zib zic zon zoo zop znU zr0 znS znT zvB zoS zm3 zm2 zm1 zmW zjc zoa zn6 zuh zw3 zw4 zzF zw5 zw7 zsd zw6 zzG zp8 ztm zp7 zm0 zm4 zp0 zp1 ztN ztT ztR ztQ ztP ztO zoN GW zr8 zif zil Wt ztM ztU ztS gq zjg zjh zla zmU ztV ztW zyv zmV zwF zob zmX zq5 zjd zp3 zzu zp5 zpi zvb zyu zmY zjf zp6 zmZ zuu zmG zmi zle zjr zjq ztd zrt zrv zvW zru zvV znB znC zrr zzv HC gF ZN zyC ztg wY xV wl vN Xt zvO zyi zyj xZ q8 hid pI cond_true cond_false xo Bool.not_false Bool.true_and Bool.false_and Bool.and_true Bool.and_false Bool.true_or xj Bool.or_true Bool.or_false beq_true Bool.not_not beq_self_eq_true decide_true decide_false Nat.add_zero Nat.zero_add xi Nat.one_mul Nat.zero_mul Nat.mul_zero Nat.sub_zero Nat.succ_eq_add_one Nat.add_eq Nat.mul_eq Nat.le_refl Nat.lt_irrefl Nat.zero_le gt_iff_lt ge_iff_le ne_eq not_false_eq_true not_true_eq_false eq_self List.nil_append zG zU xd Ql and_self and_true true_and Option.some.injEq gcF zvZ zvY gcB gcK zpb zmq zmp zkP znO zrk Jn rho Kj Wj uq qu lA UF wN Xw ve uz x6 xY zvU List.append_nil uA zkw zq9 zux zpc zuy zpa zro zrq zrp zrs wkV wkL WC zuQ Hd JG zlQ zwI zom zn7 zoJ zoI zoH Uq List.cons.injEq xg List.take_zero false_and and_false zsM kw KU KS KT Zn KR Ya Px zlZ zkS zyV zvN zyH
def sxP:=y9 (y9 (y9 (y9 (y9 @uq @qu) (y9 @lA @zyS)) (y9 (y9 @zyO @zus) (y9 @UF @zyR))) (y9 (y9 (y9 @zyP @zyQ) (y9 @wN @zq6)) (y9 (y9 @zur @Xw) (y9 @ve @uz)))) (y9 (y9 (y9 (y9 @x6 @xY) (y9 @Zk @uA)) (y9 (y9 @u5 @li) (y9 @lC @zpq))) (y9 (y9 (y9 @ZT @Zq) (y9 @zmz @zuJ)) (y9 (y9 @zpp @zpo) (y9 @xr @zrH))))
theorem dis{p:Prop}(h:p:=by first|assumption|omega|rfl|(simp only[sxP,Bool.and_self,List.length_cons,List.length_nil,List.length_take,List.length_drop, ↓reduceIte,Nat.reduceEqDiff];first|done|omega)|exact Nat.le_of_ble_eq_true rfl|((repeat (first|assumption|apply Byt.drop|apply Byt.take));done)|fail):p:=h
attribute [go_sem] Ko Kd Ki
open Go.RowKit (Below)
section
variable {φ φ1:Phi}{ρ:Nat→Option Nat}
end
def zjz(ids:List Nat)(n k:Nat)(i:Nat):Option Nat:=if i<ids.length then ids[i]? else if i<k then some (n+(i-ids.length))else none
structure Emb(s s':St)(ids:List Nat)(os:List (Option AObj))(M:Nat):Prop where
 ext:Ext s s'
 len:ids.length≤os.length
 next:s'.next=s.next+(os.length-ids.length)
 old:∀id,id<s.next→(∀i,ids[i]? =some id→M.testBit i=false)→∀o,s'.get id=some o↔s.get id=some o
 own:∀i id,ids[i]? =some id→M.testBit i=true→∀o1,s'.get id=some o1→∃o,jb os i=some o∧Jn (zjz ids s.next os.length) o=some o1
 new:∀j,ids.length≤j→j<os.length→∀o1,s'.get (s.next+(j-ids.length))=some o1→∃o,jb os j=some o∧Jn (zjz ids s.next os.length) o=some o1
 bit:∀i id,ids[i]? =some id→M.testBit i=true→s'.wm.testBit id=true
def ziz(tw id j n:Nat)(disp:Bool):AObj:=.row tw [.ptr id 0,.sl j 0 n (.opn 1),.bool disp] false false
def zii(tb:Nat)(out:List Nat):AObj:=.row tb (x9 out) true false
structure IsW{α:Type}(tw tb:Nat)(enc:α→List AV)(Pre:α→List Nat→Bool→Prop)(args:List AV)(s:St)(id j:Nat)(x:α)(out:List Nat)(disp:Bool):Prop where
 a:∃r,args=.ptr id 0::r∧enc x=wkL r
 ne:id≠j
 hi:id<s.next
 hj:j<s.next
 w:s.get id=some (ziz tw id j out.length disp)
 b:s.get j=some (zii tb out)
 p:Pre x out disp
open Classical in
section
variable {α:Type}{tw tb:Nat}{enc:α→List AV}{Pre:α→List Nat→Bool→Prop}{F:α→Bool→List Nat}
end
theorem gr_lst{e:Nat}{cs:List AV}{x:Value}(h:VR φ (.gr id e n cs) x):VR φ (.lst n false cs) x:=by
 simp only[VR]at h⊢;obtain⟨h1,h2,h3,h4,B,ys,h5,h6,h7,h8,h9⟩:=h;exact⟨h1,.inr ⟨B.b,B.o,_,ys,h6,by simp,h7,h8,h9⟩⟩
def pJ(W:World):Phi:=⟨fun _=>none,fun b o=>W.cell? ⟨b,o,none⟩⟩
theorem Gr{a:Addr}{v:Value}(h:w.cell? a=some v):∃c e fr,w.heap[a.block]? =some (.cells c e fr)∧a.spot=none∧c[a.off]? =some v:=by
 unfold World.cell? at h;cases hb:w.heap[a.block]? with
 |none=>rw[hb]at h;cases h
 |some o=>
  rw[hb]at h;cases o<;>simp only at h<;>first|cases h|skip
  rename_i c e fr
  refine⟨c,e,fr,rfl,?_⟩;cases hs:a.spot with
  |none=>rw[hs]at h;simp at h;exact⟨rfl,h⟩
  |some s=>rw[hs]at h;simp at h
theorem YT{a:Addr}(h:a.spot=none)(n:Nat):a.add n=⟨a.block,a.off+n,none⟩:=by
 unfold Addr.add;by_cases hn:n=0
 ·subst hn;simp;cases a;simp_all
 ·rw[if_neg hn]
theorem zuw(P:Program)(W:World)(b:Bool):Rel P W (pJ W) (H [] 0 b).get W:=by
 have hg:∀id o,(H [] 0 b).get id=some o→False:=fun id o h=>by
  rw[zld]at h;simp[jb]at h
 refine⟨Below.refl _ _,fun id o h=>(hg id o h).elim,fun id B h=>(by cases h),fun id o B h=>(hg id o h).elim,fun id id' o o' B B' h=>(hg id o h).elim,fun b o v h=>?_,fun id o B h=>(hg id o h).elim⟩
 obtain⟨c,e,fr,h1,_,h3⟩:=Gr h;exact⟨c,e,fr,h1,h3⟩
section
variable {H0:Type}{enc:TypeId×Value→H0}{P:Program}{W:World}{sp:Nat→Bool}{held:Bool}{tD tI tS tK tE:TypeId}{fs:Array Field}{α:Type}{f:α→List AV}{k:Nat}
structure DatumTy(P:Program)(tD tI tS tK:TypeId)(fs:Array Field):Prop where
 d:P.underlying tD=some (.struct fs)
 fs:fs.toList.map (fun f=>(f.type,f.offset))=[(tI,0),(tI,1),(tS,2),(tK,3),(tI,4)]
 i:P.underlying tI=some (.int .i64)
 s:P.underlying tS=some .string
 k:P.underlying tK=some (.slice tD)
 cd:P.cellsOf tD=5
 ci:P.cellsOf tI=1
 cs:P.cellsOf tS=1
 ck:P.cellsOf tK=1
theorem zkn{α:Type}{l:List α}(h:l.length=5):∃a b c d e,l=[a,b,c,d,e]:=by
 match l,h with
 |[a,b,c,d,e],_=>exact⟨a,b,c,d,e,rfl⟩
theorem zt0(s:ByteArray):Byt (qX s):=fun x hx=>by
 simp only[qX,List.mem_map]at hx;obtain⟨u,_,rfl⟩:=hx;exact u.toNat_lt
end
def zid(tw:Nat)(disp:Bool):AObj:=.row tw [.nilp,.nils,.bool disp] false false
structure IsW0{α:Type}(tw:Nat)(enc:α→List AV)(Pre:α→Bool→Prop)(args:List AV)(s:St)(id:Nat)(x:α)(disp:Bool):Prop where
 a:∃r,args=.ptr id 0::r∧enc x=wkL r
 hi:id<s.next
 w:s.get id=some (zid tw disp)
 p:Pre x disp
open Classical in
section
variable {α:Type}{tw tb:Nat}{enc:α→List AV}{Pre:α→Bool→Prop}{F:α→Bool→List Nat}
end
def gV(id esz:Nat):Nat→List AV→AV
 |0,_=>.nils
 |k+1,cs=>.gr id esz (k+1) cs
structure IsG{α:Type}(t esz:Nat)(enc:α→List AV)(Pre:α→Nat→List AV→Prop)(args:List AV)(s:St)(x:α)(k:Nat)(cs:List AV)(id:Nat):Prop where
 a:∃r,args=r++[gV id esz k cs]∧enc x=wkL r
 z:k=0→id=0∧cs=[]
 b:k≠0→id<s.next∧s.get id=some (.app t cs)
 p:Pre x k cs
open Classical in
section
variable {α:Type}{t esz:Nat}{enc:α→List AV}{Pre:α→Nat→List AV→Prop}{F:α→Nat×List AV}
end
theorem sV{p:Prop}(h:p:=by simp (disch:=first|exact dis|fail)only[go_sem,seval,-Int.reduceOfNat,-Int.reduceNegSucc, *]):p:=h
theorem sW{p:Prop}(h:p:=by simp (disch:=first|exact dis|fail)only[go_sem,seval,-Int.reduceOfNat,-Int.reduceNegSucc]):p:=h
section
variable {C:Cx}{E:Env}{O:Orc}{c:St}{M:Nat}{ia ib ic:ICode}{fr fr' fr1:Fr}{s s' s1 s2:St}{Q:Res→Fr→St→Prop}{res:Res}
theorem Is.z(k:Is C E O c M){Z:Prop}(q:Z)(h:evC E (evW E O) none ic fr s=some (res,fr',s'):=by (simp (disch:=first|exact dis|fail)only[go_sem,seval,-Int.reduceOfNat,-Int.reduceNegSucc, *];exact rfl))(h2:Q res fr' s'=Z:=by (try simp only[wH,kl,Cut,if_true, ↓reduceIte]);first|done|exact rfl):Tri C ic fr s Q:=
 k.eval h (h2▸q)
theorem Is.q(k:Is C E O c M){Z:Prop}(q:Z)(h:evC E (evW E O) none ia fr s=some (res,fr',s'):=by (simp (disch:=first|exact dis|fail)only[go_sem,seval,-Int.reduceOfNat,-Int.reduceNegSucc, *];exact rfl))(h2:wH (fun f t=>Tri C ib f t Q) Q res fr' s'=Z:=by (try simp only[wH,kl,Cut,if_true, ↓reduceIte]);first|done|exact rfl):Tri C (.seq ia ib) fr s Q:=
 qg (k.eval h (h2▸q))
theorem Is.g(k:Is C E O c M)(keep live:List Nat)(h:gcF false c M keep live true fr s=some (fr1,s1):=by (simp (disch:=first|exact dis|fail)only[go_sem,seval,-Int.reduceOfNat,-Int.reduceNegSucc, *]<;>exact rfl)):Gc C fr s fr1 s1:=k.gcs h
end
theorem fin{c:St}{M:Nat}{res:List RV}{c':St}{r:Res}{fr:Fr}{s2:St}{vs:List AV}{v0:AV}(h0:r=.norm∨r=.ret:=by exact Or.inr rfl)(h1:wZ s fr.df=some s2:=by (simp (disch:=first|exact dis|fail)only[go_sem,seval,-Int.reduceOfNat,-Int.reduceNegSucc, *]<;>exact rfl))(h2:jk E.globs fr.tm s2 res=some vs:=by (simp (disch:=first|exact dis|fail)only[go_sem,seval,-Int.reduceOfNat,-Int.reduceNegSucc, *]<;>exact rfl))(h3:ZZ c.next (vB vs)=some v0:=by (simp (disch:=first|exact dis|fail)only[go_sem,seval,-Int.reduceOfNat,-Int.reduceNegSucc, *]<;>exact rfl))(h4:wkV v0=v:=by (simp (disch:=first|exact dis|fail)only[go_sem,seval,-Int.reduceOfNat,-Int.reduceNegSucc, *]<;>exact rfl))(h5:gcF true c M [] [] c.md {tm:=tmL [],df:=[]} s2=some ({tm:=tmL [],df:=[]},c'):=by (simp (disch:=first|exact dis|fail)only[go_sem,seval,-Int.reduceOfNat,-Int.reduceNegSucc, *]<;>exact rfl)):Fin E c M res v c' r fr s:=
 Yo h0 h1 h2 h3 h4 h5
end Go.Proofs.YtbdfljdgapkbcaaGreatDoor.Ev

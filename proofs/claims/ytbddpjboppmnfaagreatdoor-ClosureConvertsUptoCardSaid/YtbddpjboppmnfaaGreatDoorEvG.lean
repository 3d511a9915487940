/- A part of the evaluator and of its soundness: what it answers, the model's run answers. No conditions. -/
import Derived.Test.YtbddpjboppmnfaaGreatDoorEvF
import Derived.Attr
import Derived.ChangeArms
import Derived.DataReads
set_option linter.unusedSimpArgs false
set_option linter.unusedVariables false
set_option linter.defProp false
noncomputable section
open List renaming length → zR, length_nil → xY, length_cons → yJ, length_append → y8, cons_append → yu, take_succ_cons → x0, take_of_length_le → yq, drop_succ_cons → wc
open And renaming intro → xV
open Int renaming reduceNegSucc → xW, reduceOfNat → xX
open Nat renaming beq → zI, ble → zM, mul_one → x8, blt → zL, mul → zK, succ_mul → we
open Bool renaming and_self → xZ, false_or → x9, not_true → wa
open Classical renaming choose_spec → xS
namespace Go.Proofs.YtbddpjboppmnfaaGreatDoor.Ev
variable {a n f b:Nat}{v:Z}{E:Env}{l:zy}{O:Orc}{s c':U}{e:Bool}{fr:Fr}
def osA:zb->Trie AObj
 |[]=>.leaf
 |p::r=>match p.2 with
  |some o=>(osA r).set p.1 o
  |none=>(osA r).del p.1
def KL(l:zb)(n m:Nat)(b:Bool)(hd:zi:=[])(on:zg:=none):U:={objs:=osA l,next:=n,wm:=m,hide:=hd,only:=on,md:=b}
def wn:zb->Nat->zm
 |[],_=>none
 |p::r,i=>if i=p.1 then p.2 else wn r i
def KE:∀(l:zb) (i:Nat),(osA l).get i=wn l i
 |[],i=>rfl
 |(j,o)::r,i=>by
  cases o with
  |some o=>simp only[osA,wn];rw[Trie.get_set,KE r i]
  |none=>simp only[osA,wn];rw[Trie.get_del,KE r i]
theorem Mg(i:Nat):wn [] i=none:=rfl
theorem wz(j:Nat)(o:zm)(r:zb)(i:Nat):wn ((j,o)::r) i=if i=j then o else wn r i:=rfl
def JO:Nat->zl->zb
 |_,[]=>[]
 |n,o::r=>match o with
  |some o=>(n,some o)::JO (n+1) r
  |none=>JO (n+1) r
theorem Cl(n:Nat):JO n []=[]:=rfl
theorem oe(n:Nat)(o:AObj)(r:zl):JO n (some o::r)=(n,some o)::JO (n+1) r:=rfl
def iA:∀(l:zl) (n:Nat),osT n l=osA (JO n l)
 |[],n=>rfl
 |o::r,n=>by cases o<;>simp only[osT,JO,osA]<;>rw[iA r]
def zvz(os:zl)(m:Nat)(b:Bool):H os m b=KL (JO 0 os) (zR os) m b:=by
 unfold H KL;rw[iA]
theorem Rt(l:zb)(n m:Nat)(b:Bool)(hd:zi)(on:zg):(KL l n m b hd on).next=n:=rfl
theorem zwr(l:zb)(n m:Nat)(b:Bool)(hd:zi)(on:zg):(KL l n m b hd on).wm=m:=rfl
theorem QF(l:zb)(n m:Nat)(b:Bool)(hd:zi)(on:zg):(KL l n m b hd on).md=b:=rfl
theorem qk(l:zb)(n m:Nat)(b:Bool)(i:Nat):(KL l n m b).get i=wn l i:=by
 rw[<-KE];rfl
theorem WQ(l:zb)(n m:Nat)(b:Bool)(hd:zi)(k:Nat)(ks:zy)(i:Nat):(KL l n m b hd (some (k,ks))).get i=bif hid hd i then none else bif Nat.ble k i then wn l i else bif Xi i ks then wn l i else none:=by
 rw[<-KE];rfl
theorem lf(l:zb)(n m:Nat)(b:Bool)(hd:zi)(on:zg)(i:Nat)(o:AObj):(KL l n m b hd on).put i o=KL ((i,some o)::l) n (gj m i) b hd on:=rfl
theorem EQ(l:zb)(n m:Nat)(b:Bool)(hd:zi)(on:zg)(i:Nat):(KL l n m b hd on).del i=KL ((i,none)::l) n (gj m i) b hd on:=rfl
theorem EP(l:zb)(n m:Nat)(b:Bool)(hd:zi)(on:zg)(o:AObj):(KL l n m b hd on).alloc o=KL ((n,some o)::l) (n+1) m b hd on:=rfl
theorem Ab(m i:Nat):gj m i=m|||1<<<i:=rfl
def Fh(x:Option (zB×U))(k:zB->U->Option (zB×U)):Option (zB×U):=
 match x with
 |some p=>k p.1 p.2
 |none=>none
theorem mZ(A:zB)(s:U)(k:zB->U->Option (zB×U)):Fh (some (A,s)) k=k A s:=rfl
theorem Tc(G:Env)(S:Self)(A:zB)(s:U):evS G S [] A s=some (A,s):=rfl
theorem IE(G:Env)(S:Self)(o:SOper)(r:List SOper)(A:zB)(s:U):evS G S (o::r) A s=Fh (Zv G S o A s) (evS G S r):=rfl
theorem zzy(G:Env)(S:Self)(d:zD)(op:IOp)(A:zB)(s:U):Zv G S ⟨d,op,none⟩ A s=stS A d (vU G S op A s):=rfl
def Mm(G:Env)(S:Self)(d:zD)(op:IOp)(A:zB)(s:U):Option Bool->Option (zB×U)
 |some true=>stS A d (vU G S op A s)
 |some false=>some (uB A d vJ,s)
 |none=>none
def aL(w:Bool):zC->Option Bool
 |some (.bool b)=>some (b==w)
 |some _=>some false
 |none=>none
def zzx(G:Env)(S:Self)(d:zD)(op:IOp)(i:Nat)(w:Bool)(A:zB)(s:U):Zv G S ⟨d,op,some (i,w)⟩ A s=Mm G S d op A s (aL w (A.get i)):=by
 unfold Zv pI;simp only;generalize A.get i=x;cases x with
 |none=>rfl
 |some v=>cases v<;>first|rfl|(rename_i b;cases b<;>cases w<;>rfl)
theorem zz1(b:Bool):aL true (some (.bool b))=some b:=by cases b<;>rfl
theorem zz0(b:Bool):aL false (some (.bool b))=some (!b):=by cases b<;>rfl
theorem zz2(w:Bool)(l:zA):aL w (some (.tup l))=some false:=rfl
theorem ED:vJ=.tup []:=rfl
theorem To(G:Env)(S:Self)(d:zD)(op:IOp)(A:zB)(s:U):Mm G S d op A s (some true)=stS A d (vU G S op A s):=rfl
theorem Tn(G:Env)(S:Self)(d:zD)(op:IOp)(A:zB)(s:U):Mm G S d op A s (some false)=some (uB A d vJ,s):=rfl
theorem ON(A:zB)(d:zD)(v:Z)(s:U):stS A d (some (v,s))=some (uB A d v,s):=rfl
theorem iS(l:List (Nat×Z))(i:Nat)(v:Z):uB (tmL l) (some i) v=tmL ((i,v)::l):=rfl
theorem iR(A:zB)(v:Z):uB A none v=A:=rfl
theorem KH(l:List (Nat×Z))(i:Nat)(v:Z):(tmL l).set i v=tmL ((i,v)::l):=rfl
theorem iQ(A:zB)(i:Nat):qG A i []=A:=rfl
theorem cP(l:List (Nat×Z))(i:Nat)(v:Z)(r:zA):qG (tmL l) i (v::r)=qG (tmL ((i,v)::l)) (i+1) r:=rfl
theorem TB:(Trie.leaf:zB)=tmL []:=rfl
theorem D8(A:zB):ZX A [] []=some A:=rfl
theorem sb(l:List (Nat×Z))(p:Nat)(ps:zy)(v:Z)(vs:zA):ZX (tmL l) (p::ps) (v::vs)=ZX (tmL ((p,v)::l)) ps vs:=rfl
def sI(x:Option (List LogE×zB×U))(k:List LogE->zB->U->Option (zB×U)):Option (zB×U):=
 match x with
 |some p=>k p.1 p.2.1 p.2.2
 |none=>none
theorem mY(log:List LogE)(A:zB)(s:U)(k:List LogE->zB->U->Option (zB×U)):sI (some (log,A,s)) k=k log A s:=rfl
theorem NV(E:Env)(S:Self)(ops:zt)(A:zB)(df:zy)(l:zb)(n m:Nat)(b:Bool)(hd:zi):JY E S ops ⟨A,df⟩ (KL l n m b hd none)=kN df (evD E S ops 0 [] A (KL l n m b hd none)):=rfl
theorem Sq(G:Env)(S:Self)(i:Nat)(log:List LogE)(A:zB)(s:U):evD G S [] i log A s=some (A,s):=rfl
theorem Ie(G:Env)(S:Self)(o:DOper)(r:zt)(i:Nat)(log:List LogE)(A:zB)(s:U):evD G S (o::r) i log A s=sI (YD G S o i log A s) (evD G S r (i+1)):=rfl
def opD(G:Env)(S:Self)(d:zD)(op:IOp)(deps i:Nat)(log:List LogE)(A:zB)(l:zb)(n m:Nat)(b:Bool)(hd:zi)(on:zg)(tch:Option zy):Option (List LogE×zB×U):=
 endS2 d deps i log A n m hd on tch (vU G S op A (KL l n 0 b (ue deps log hd) (onOf n tch)))
 where
 onOf (n:Nat):Option zy->zg
  |some l=>some (n,l)
  |none=>none
 endS2 (d:zD) (deps i:Nat) (log:List LogE) (A:zB) (n m:Nat) (hd:zi) (on:zg) (tch:Option zy):zc->Option (List LogE×zB×U)
  |some p=>bif kJ deps tch (vn p.2.wm n) log then some ({idx:=i,lo:=n,hi:=p.2.next,tch:=tch,wm:=vn p.2.wm n}::log,uB A d p.1,{p.2 with hide:=hd,only:=on,wm:=Nat.lor m p.2.wm})else none
  |none=>none
theorem zxK(G:Env)(S:Self)(d:zD)(op:IOp)(deps i:Nat)(log:List LogE)(A:zB)(l:zb)(n m:Nat)(b:Bool)(hd:zi)(on:zg)(tch:Option zy):
  opD G S d op deps i log A l n m b hd on tch=opD.endS2 d deps i log A n m hd on tch (vU G S op A (KL l n 0 b (ue deps log hd) (opD.onOf n tch))):=rfl
theorem Ys(n:Nat)(l:zy):opD.onOf n (some l)=some (n,l):=rfl
theorem Dt(n:Nat):opD.onOf n none=none:=rfl
theorem F6(d:zD)(deps i:Nat)(log:List LogE)(A:zB)(n m:Nat)(hd:zi)(on:zg)(tch:Option zy)(v:Z)(l':zb)(n' m':Nat)(b':Bool)(hd':zi)(on':zg):
  opD.endS2 d deps i log A n m hd on tch (some (v,KL l' n' m' b' hd' on'))=bif kJ deps tch (vn m' n) log then some (⟨i,n,n',tch,vn m' n⟩::log,uB A d v,KL l' n' (m|||m') b' hd on)else none:=rfl
theorem zzw(G:Env)(S:Self)(d:zD)(op:IOp)(deps i:Nat)(log:List LogE)(A:zB)(l:zb)(n m:Nat)(b:Bool)(hd:zi)(on:zg):
  YD G S ⟨⟨d,op,none⟩,deps⟩ i log A (KL l n m b hd on)=opD G S d op deps i log A l n m b hd on (vN op A):=by
 simp only[YD,pI,Lg,jj,opD];cases vN op A<;>rfl
def bU(G:Env)(S:Self)(d:zD)(op:IOp)(deps i:Nat)(log:List LogE)(A:zB)(l:zb)(n m:Nat)(b:Bool)(hd:zi)(on:zg):Option Bool->Option (List LogE×zB×U)
 |some true=>opD G S d op deps i log A l n m b hd on (vN op A)
 |some false=>some (log,uB A d vJ,KL l n m b hd on)
 |none=>none
def zzv(G:Env)(S:Self)(d:zD)(op:IOp)(j:Nat)(w:Bool)(deps i:Nat)(log:List LogE)(A:zB)(l:zb)(n m:Nat)(b:Bool)(hd:zi)(on:zg):
  YD G S ⟨⟨d,op,some (j,w)⟩,deps⟩ i log A (KL l n m b hd on)=bU G S d op deps i log A l n m b hd on (aL w (A.get j)):=by
 unfold YD pI;simp only;generalize A.get j=x;cases x with
 |none=>rfl
 |some v=>
  cases v<;>first|rfl|skip
  rename_i c
  cases c<;>cases w<;>first|rfl|(simp only[bU,aL,Lg,jj,opD];cases vN op A<;>rfl)
theorem Mo(G:Env)(S:Self)(d:zD)(op:IOp)(deps i:Nat)(log:List LogE)(A:zB)(l:zb)(n m:Nat)(b:Bool)(hd:zi)(on:zg):bU G S d op deps i log A l n m b hd on (some true)=opD G S d op deps i log A l n m b hd on (vN op A):=rfl
theorem Mn(G:Env)(S:Self)(d:zD)(op:IOp)(deps i:Nat)(log:List LogE)(A:zB)(l:zb)(n m:Nat)(b:Bool)(hd:zi)(on:zg):bU G S d op deps i log A l n m b hd on (some false)=some (log,uB A d vJ,KL l n m b hd on):=rfl
theorem bV(deps:Nat)(h:zi):ue deps [] h=h:=rfl
theorem Lk(deps:Nat)(i lo hi:Nat)(tch:Option zy)(wm:Nat)(r:List LogE)(h:zi):ue deps (⟨i,lo,hi,tch,wm⟩::r) h=bif zI lo hi||deps.testBit i then ue deps r h else (lo,hi)::ue deps r h:=rfl
theorem ny(deps:Nat)(tch:Option zy)(wm:Nat):kJ deps tch wm []=true:=rfl
theorem ej(deps:Nat)(tch:Option zy)(wm:Nat)(i lo hi:Nat)(tch':Option zy)(wm':Nat)(r:List LogE):
  kJ deps tch wm (⟨i,lo,hi,tch',wm'⟩::r)=bif deps.testBit i then kJ deps tch wm r else bif (zI wm 0||offMask wm tch')&&(zI wm' 0||offMask wm' tch)then kJ deps tch wm r else false:=rfl
theorem cu(m:Nat):offMask m none=false:=rfl
theorem io(m:Nat):offMask m (some [])=true:=rfl
theorem cr(m a:Nat)(l:zy):offMask m (some (a::l))=bif m.testBit a then false else offMask m (some l):=rfl
theorem ra(m n:Nat):vn m n=m%2^n:=rfl
theorem J4(m i:Nat):m.testBit i= !(zI (m/2^i%2) 0):=by
 rw[Nat.testBit_eq_decide_div_mod_eq];rcases Nat.mod_two_eq_zero_or_one (m/2^i)with h|h<;>rw[h]<;>rfl
theorem O5(A:zB)(x:Opd):vN (.mv x) A=some []:=rfl
theorem Ex(A:zB)(x:Opd):vN (.nck x) A=some []:=rfl
theorem O0(A:zB)(n:Nat)(x:Opd):vN (.fa n x) A=some []:=rfl
theorem Eo(A:zB)(op:BinOp)(x y:Opd):vN (.bin op x y) A=some []:=rfl
theorem Et(A:zB)(k:EqK)(b:Bool)(x y:Opd):vN (.eqk k b x y) A=some []:=rfl
theorem O7(A:zB)(op:UnOp)(x:Opd):vN (.un op x) A=some []:=rfl
theorem sx(A:zB)(a b c:Opd):vN (.pick a b c) A=some []:=rfl
theorem OZ(A:zB)(x:Opd)(i:Nat):vN (.ex x i) A=some []:=rfl
theorem O1(A:zB)(e:Nat)(x y:Opd):vN (.ia e x y) A=some []:=rfl
theorem Ey(A:zB)(e:Nat)(x:Opd)(a b c:Option Opd):vN (.slv e x a b c) A=some []:=rfl
theorem mq(A:zB)(z:zA)(l:zu):vN (.build z l) A=some []:=rfl
theorem Er(A:zB)(e:Nat)(z:zA)(n:Nat)(l:zu):vN (.bsl e z n l) A=some []:=rfl
theorem mp(A:zB)(e:Nat)(z:zA):vN (.alloc e z) A=some []:=rfl
theorem Ep(A:zB)(e:Nat)(x:Opd):vN (.box e x) A=some []:=rfl
theorem sw(A:zB):vN .mmap A=some []:=rfl
theorem O2(A:zB)(x:Opd):vN (.ld x) A=Vv (x.ev A):=rfl
theorem Eu(A:zB)(n:Nat)(x:Opd):vN (.ldn n x) A=Vv (x.ev A):=rfl
theorem O6(A:zB)(n:Nat)(x y:Opd):vN (.st n x y) A=Vv (x.ev A):=rfl
theorem O3(A:zB)(f:FK)(z:Z)(b:Bool)(x y:Opd):vN (.lk f z b x y) A=Vv (x.ev A):=rfl
theorem O4(A:zB)(f:FK)(x y z:Opd):vN (.mu f x y z) A=Vv (x.ev A):=rfl
theorem Ew(A:zB)(k:LK)(x:Opd):vN (.len k x) A=Vv (x.ev A):=rfl
theorem Es(A:zB)(x:Opd):vN (.cbs x) A=Vv (x.ev A):=rfl
theorem En(A:zB)(a b c:Nat)(x y:Opd):vN (.app a b c x y) A=aC (UA (x.ev A)) (Vv (y.ev A)):=rfl
theorem su(A:zB)(f:Nat)(l:List Opd):vN (.call f l) A=none:=rfl
theorem Zw(a b:zy):aC (some a) (some b)=some (a++b):=rfl
theorem OQ(n:Nat)(e:Bool)(l:zA):Vv (some (.lst n e l))=some []:=rfl
theorem zzA(l:zA):Vv (some (.vp l))=some []:=rfl
theorem OT(i o:Nat):Vv (some (.ptr i o))=some [i]:=rfl
theorem zzz(i o n:Nat)(c:Cap):Vv (some (.sl i o n c))=some [i]:=rfl
theorem OS(i:Nat):Vv (some (.map i))=some [i]:=rfl
theorem HP:UA (some (.nils))=some []:=rfl
theorem mh(i o n:Nat)(c:Cap):UA (some (.sl i o n c))=some [i]:=rfl
theorem HO(i e n:Nat)(l:zA):UA (some (.gr i e n l))=some [i]:=rfl
theorem S6(G:Env)(S:Self)(A:zB)(s:U)(x:Opd):vU G S (.mv x) A s=v1 A s x some:=rfl
theorem CE(G:Env)(S:Self)(A:zB)(s:U)(c:Opd)(a:Opd)(b:Opd):vU G S (.pick c a b) A s=Zt s (aK (c.ev A) (a.ev A) (b.ev A)):=rfl
theorem om(G:Env)(S:Self)(A:zB)(s:U)(e:Nat)(zs:zA):vU G S (.alloc e zs) A s=Wv s e zs:=rfl
theorem Im(G:Env)(S:Self)(A:zB)(s:U)(e:Nat)(x:Opd):vU G S (.box e x) A s=o1 A x (ij s e):=rfl
theorem oo(G:Env)(S:Self)(A:zB)(s:U)(zs:zA)(ps:zu):vU G S (.build zs ps) A s=Zt s (VJ (lx zs A ps)):=rfl
theorem In(G:Env)(S:Self)(A:zB)(s:U)(e:Nat)(zs:zA)(len:Nat)(ps:zu):vU G S (.bsl e zs len ps) A s=Uo s e len (lx zs A ps):=rfl
theorem SW(G:Env)(S:Self)(A:zB)(s:U)(x:Opd):vU G S (.ld x) A s=v1 A s x (vLd G.globs s):=rfl
theorem Ix(G:Env)(S:Self)(A:zB)(s:U)(n:Nat)(x:Opd):vU G S (.ldn n x) A s=v1 A s x (WN G.globs s n):=rfl
theorem Ta(G:Env)(S:Self)(A:zB)(s:U)(n:Nat)(x:Opd)(v:Opd):vU G S (.st n x v) A s=o2 A x v (oSt s n):=rfl
theorem IB(G:Env)(S:Self)(A:zB)(s:U)(x:Opd):vU G S (.nck x) A s=v1 A s x Rn:=rfl
theorem Il(G:Env)(S:Self)(A:zB)(s:U)(op:BinOp)(x:Opd)(y:Opd):vU G S (.bin op x y) A s=v2 A s x y (EF op):=rfl
theorem Iu(G:Env)(S:Self)(A:zB)(s:U)(k:EqK)(neg:Bool)(x:Opd)(y:Opd):vU G S (.eqk k neg x y) A s=v2 A s x y (Yd k neg):=rfl
theorem Tb(G:Env)(S:Self)(A:zB)(s:U)(op:UnOp)(x:Opd):vU G S (.un op x) A s=v1 A s x (vUn op):=rfl
theorem SP(G:Env)(S:Self)(A:zB)(s:U)(k:IntKind)(x:Opd):vU G S (.ci k x) A s=v1 A s x (vCi k):=rfl
theorem Iq(G:Env)(S:Self)(A:zB)(s:U)(e:Nat)(x:Opd):vU G S (.csb e x) A s=o1 A x (Kh s e):=rfl
theorem Ip(G:Env)(S:Self)(A:zB)(s:U)(x:Opd):vU G S (.cbs x) A s=v1 A s x (EH s):=rfl
theorem Iz(G:Env)(S:Self)(A:zB)(s:U)(f:Nat)(fst:List Opd)(cap:List Opd):vU G S (.mfn f fst cap) A s=vLL A s fst cap (λus vs=>some (.fn f us vs)):=rfl
theorem CD(G:Env)(S:Self)(A:zB)(s:U):vU G S (.mmap) A s=Up G.um s:=rfl
theorem IA(G:Env)(S:Self)(A:zB)(s:U)(e:Nat)(_x1:Nat)(bytes:Nat)(zs:zA)(l:Opd)(c:Opd):vU G S (.msl e _x1 bytes zs l c) A s=o2 A l c (Lo s e bytes zs):=rfl
theorem IC(G:Env)(S:Self)(A:zB)(s:U)(x:Opd)(lo:Option Opd)(hi:Option Opd):vU G S (.sls x lo hi) A s=vs3 A s x lo hi mE:=rfl
theorem ID(G:Env)(S:Self)(A:zB)(s:U)(esz:Nat)(x:Opd)(lo:Option Opd)(hi:Option Opd)(mx:Option Opd):vU G S (.slv esz x lo hi mx) A s=vs4 A s x lo hi mx (QE esz):=rfl
theorem SU(G:Env)(S:Self)(A:zB)(s:U)(off:Nat)(x:Opd):vU G S (.fa off x) A s=v1 A s x (vFa off):=rfl
theorem SV(G:Env)(S:Self)(A:zB)(s:U)(esz:Nat)(x:Opd)(i:Opd):vU G S (.ia esz x i) A s=v2 A s x i (vIa esz):=rfl
theorem Iv(G:Env)(S:Self)(A:zB)(s:U)(n:Nat)(esz:Nat)(x:Opd)(i:Opd):vU G S (.iaa n esz x i) A s=v2 A s x i (mC n esz):=rfl
theorem Iw(G:Env)(S:Self)(A:zB)(s:U)(x:Opd)(i:Opd):vU G S (.ixs x i) A s=v2 A s x i Ri:=rfl
theorem SX(G:Env)(S:Self)(A:zB)(s:U)(f:FK)(z:Z)(ok:Bool)(m:Opd)(k:Opd):vU G S (.lk f z ok m k) A s=v2 A s m k (vLk s f z ok):=rfl
theorem SZ(G:Env)(S:Self)(A:zB)(s:U)(f:FK)(m:Opd)(k:Opd)(v:Opd):vU G S (.mu f m k v) A s=o3 A m k v (oMu s f):=rfl
theorem SY(G:Env)(S:Self)(A:zB)(s:U)(f:FK)(m:Opd)(k:Opd):vU G S (.md f m k) A s=o2 A m k (oMd s f):=rfl
theorem S9(G:Env)(S:Self)(A:zB)(s:U)(x:Opd):vU G S (.rs x) A s=o1 A x (oRs s):=rfl
theorem S7(G:Env)(S:Self)(A:zB)(s:U)(it:Opd):vU G S (.ns it) A s=o1 A it (oNs s):=rfl
theorem S8(G:Env)(S:Self)(A:zB)(s:U)(x:Opd):vU G S (.rm x) A s=o1 A x (oRm s):=rfl
theorem SR(G:Env)(S:Self)(A:zB)(s:U)(it:Opd):vU G S (.en it) A s=v1 A s it (vEn s):=rfl
theorem ST(G:Env)(S:Self)(A:zB)(s:U)(x:Opd)(i:Nat):vU G S (.ex x i) A s=v1 A s x (λv=>vEx v i):=rfl
theorem Iy(G:Env)(S:Self)(A:zB)(s:U)(k:LK)(x:Opd):vU G S (.len k x) A s=v1 A s x (Vy s k):=rfl
theorem Io(G:Env)(S:Self)(A:zB)(s:U)(x:Opd):vU G S (.cap x) A s=v1 A s x EG:=rfl
theorem Ik(G:Env)(S:Self)(A:zB)(s:U)(e:Nat)(esz:Nat)(bytes:Nat)(x:Opd)(y:Opd):vU G S (.app e esz bytes x y) A s=o2 A x y (jo s e esz bytes):=rfl
theorem CA(G:Env)(S:Self)(A:zB)(s:U)(e:Nat)(esz:Nat)(bytes:Nat)(zs:zA)(x:Opd)(y:Opd):vU G S (.appz e esz bytes zs x y) A s=o2 A x y (QG s e esz bytes zs):=rfl
theorem CC(G:Env)(S:Self)(A:zB)(s:U)(f:Nat)(args:List Opd):vU G S (.call f args) A s=eT S f (evL A args) s:=rfl
theorem SQ(G:Env)(S:Self)(A:zB)(s:U)(x:Opd)(args:List Opd):vU G S (.cv x args) A s=bB S (x.ev A) (evL A args) s:=rfl
theorem o9(df:zy)(A:zB)(s:U):kN df (some (A,s))=some (.norm,⟨A,df⟩,s):=rfl
theorem sq(k:Fr->U->zj)(fr:Fr)(s:U):ge k (some (.norm,fr,s))=k fr s:=rfl
theorem sn(k:Fr->U->zj)(i:Nat)(fr:Fr)(s:U):ge k (some (.exit i,fr,s))=some (.exit i,fr,s):=rfl
theorem Ek(k:Fr->U->zj)(fr:Fr)(s:U):ge k (some (.ret,fr,s))=some (.ret,fr,s):=rfl
theorem sQ(a b:Fr->U->zj)(fr:Fr)(s:U):JN (some (.bool true)) a b fr s=a fr s:=rfl
theorem sP(a b:Fr->U->zj)(fr:Fr)(s:U):JN (some (.bool false)) a b fr s=b fr s:=rfl
theorem dH(Y:Nat)(p:Fr×U):lP Y (some (.norm,p))=some (.norm,p):=rfl
theorem m8(Y:Nat)(p:Fr×U):lP Y (some (.ret,p))=some (.ret,p):=rfl
theorem JA(Y i:Nat)(p:Fr×U):lP Y (some (.exit i,p))=if i=Y then some (.norm,p)else some (.exit i,p):=by
 show (bif zI i Y then some (Res.norm,p)else some (Res.exit i,p))=_;by_cases h:i=Y
 .rw[wH h,ql.2 h];rfl
 .rw[wx h];cases hb:zI i Y with
  |true=>exact absurd (ql.1 hb) h
  |false=>rfl
theorem Ic(G:Env)(S:Self)(rd:zD)(fr:Fr)(s:U):evC G S rd .skip fr s=some (.norm,fr,s):=rfl
theorem Sm(G:Env)(S:Self)(rd:zD)(ops:List SOper)(A:zB)(df:zy)(s:U):evC G S rd (.reg ops) ⟨A,df⟩ s=kN df (evS G S ops A s):=rfl
theorem Ib(G:Env)(S:Self)(rd:zD)(ops:zt)(fr:Fr)(s:U):evC G S rd (.regd ops) fr s=JY G S ops fr s:=rfl
theorem So(G:Env)(S:Self)(rd:zD)(a b:ICode)(fr:Fr)(s:U):evC G S rd (.seq a b) fr s=ge (evC G S rd b) (evC G S rd a fr s):=rfl
theorem GF(G:Env)(S:Self)(rd:zD)(c:Opd)(a b:ICode)(A:zB)(df:zy)(s:U):evC G S rd (.cond c a b) ⟨A,df⟩ s=JN (c.ev A) (evC G S rd a) (evC G S rd b) ⟨A,df⟩ s:=rfl
theorem Cr(G:Env)(S:Self)(rd:zD)(Y:Nat)(b:ICode)(fr:Fr)(s:U):evC G S rd (.block Y b) fr s=lP Y (evC G S rd b fr s):=rfl
theorem F9(G:Env)(S:Self)(rd:zD)(Y:Nat)(fr:Fr)(s:U):evC G S rd (.exit Y) fr s=some (.exit Y,fr,s):=rfl
theorem Sn(G:Env)(S:Self)(rd:zD)(fr:Fr)(s:U):evC G S rd .ret fr s=some (.ret,fr,s):=rfl
def X8(E:Env)(O:Orc)(f:Nat)(a:zA)(s:U):(evW E O).call f a s=Xw E O (evW E O) f a s:=by
 cases h:Xw E O (evW E O) f a s with
 |some r=>exact IG h
 | none=>
  cases h2:(evW E O).call f a s with
  |none=>rfl
  | some r=>
   obtain⟨n,hn⟩:=jc (α:=Z×U) h2;cases n with
   |zero=>cases hn
   |succ n=>
    have h3:Xw E O (evT E O n) f a s=some r:=hn;have h4:LeS (evT E O n) (evW E O):=⟨λf a s r h=>gI (λn r h=>(gg E O n).call _ _ _ _ h) h,λrd b fr s r h=>gI (λn r h=>(gg E O n).loop _ _ _ _ _ h) h,λl a s r h=>gI (λn r h=>(gg E O n).round _ _ _ _ h) h⟩;rw[(Gm E O f a s).up _ _ h4 r h3]at h;cases h
def qx{g:zA->U->zc}(h:O f=some g)(E:Env)(a:zA)(s:U):(evW E O).call f a s=g a s:=by
 rw[X8];unfold Xw;rw[h]
theorem j1{E:Env}{O:Orc}{f:Nat}{F:IFunc}(h:O f=none)(hF:E.funs.get f=some F)(hp:E.pure f=true)(a:zA)(l:zb)(n m:Nat)(b:Bool)(hd:zi)(on:zg)(ha:zR a<=F.ntmps):
  (evW E O).call f a (KL l n m b hd on)=Yu (KL l n m b hd on) (qJ E.globs F.res (evC E (evW E O) none F.body ⟨qG (tmL []) 0 a,[]⟩ (KL l n 0 true hd on))):=by
 rw[X8];unfold Xw jp;rw[h,hF];simp only[qT,qd.2 ha,wy,hp];rfl
theorem dQ{f:Nat}{F:IFunc}(h:O f=none)(hF:E.funs.get f=some F)(hp:E.pure f=false)(a:zA)(l:zb)(n m:Nat)(b:Bool)(hd:zi)(on:zg)(ha:zR a<=F.ntmps):
  (evW E O).call f a (KL l n m b hd on)=mdR b (qJ E.globs F.res (evC E (evW E O) none F.body ⟨qG (tmL []) 0 a,[]⟩ (KL l n m false hd on))):=by
 rw[X8];unfold Xw jp;rw[h,hF];simp only[qT,qd.2 ha,wy,hp,wK];rfl
theorem MK(b:Bool)(v:Z)(l:zb)(n m:Nat)(b':Bool)(hd:zi)(on:zg):mdR b (some (v,KL l n m b' hd on))=some (v,KL l n m b hd on):=rfl
def zw6(s t:U)(v:Z):zC->zc
 |some v=>some (v,s)
 |none=>some (agW v,{t with wm:=Nat.lor s.wm t.wm,md:=s.md})
theorem DA(s t:U)(v:Z):Yu s (some (v,t))=zw6 s t v (bif zI (vn t.wm s.next) 0 then XP s.next v else none):=rfl
theorem Dz(s t:U)(v u:Z):zw6 s t v (some u)=some (u,s):=rfl
theorem dP(G:List zA)(res:List RV)(A:zB)(s:U):qJ G res (some (.ret,⟨A,[]⟩,s))=Vs G A s res:=rfl
theorem bc(G:List zA)(res:List RV)(A:zB)(s:U):qJ G res (some (.norm,⟨A,[]⟩,s))=Vs G A s res:=rfl
def zxX(s:U):Option zA->zc
 |some vs=>some (jP vs,s)
 |none=>none
theorem zzd(G:List zA)(A:zB)(s:U)(res:List RV):Vs G A s res=zxX s (lC G A s res):=by
 unfold Vs zxX;cases lC G A s res<;>rfl
theorem DQ(s:U)(vs:zA):zxX s (some vs)=some (jP vs,s):=rfl
theorem ri:jP []=.tup []:=rfl
theorem rj(v:Z):jP [v]=v:=rfl
theorem rk(v w:Z)(r:zA):jP (v::w::r)=.tup (v::w::r):=rfl
def Xx(v:zC)(l:Option zA):Option zA:=
 match v,l with
 |some v,some vs=>some (v::vs)
 |_,_=>none
theorem nz(v:Z)(vs:zA):Xx (some v) (some vs)=some (v::vs):=rfl
def ldK(G:List zA)(s:U):zC->zC
 |some p=>vLd G s p
 |none=>none
def zxw(G:List zA)(s:U)(n:Nat):zC->zC
 |some p=>WN G s n p
 |none=>none
theorem MA(G:List zA)(s:U)(p:Z):ldK G s (some p)=vLd G s p:=rfl
theorem Dh(G:List zA)(s:U)(n:Nat)(p:Z):zxw G s n (some p)=WN G s n p:=rfl
theorem N0(G:List zA)(A:zB)(s:U):lC G A s []=some []:=rfl
theorem zxY(G:List zA)(A:zB)(s:U)(i:Nat)(r:List RV):lC G A s (.t i::r)=Xx (A.get i) (lC G A s r):=by
 simp only[lC,Xx];cases A.get i<;>cases lC G A s r<;>rfl
theorem zze(G:List zA)(A:zB)(s:U)(a:Nat)(r:List RV):lC G A s (.c1 a::r)=Xx (ldK G s (A.get a)) (lC G A s r):=by
 simp only[lC,Xx];cases A.get a with
 |none=>cases lC G A s r<;>rfl
 |some p=>
  simp only[ldK,vLd];cases jE G s p 1 with
  |none=>cases lC G A s r<;>rfl
  |some l=>cases l<;>cases lC G A s r<;>rfl
theorem zzf(G:List zA)(A:zB)(s:U)(a n:Nat)(r:List RV):lC G A s (.cn a n::r)=Xx (zxw G s n (A.get a)) (lC G A s r):=by
 simp only[lC,Xx];cases A.get a with
 |none=>cases lC G A s r<;>rfl
 |some p=>
  simp only[zxw,WN];cases jE G s p n with
  |none=>cases lC G A s r<;>rfl
  |some l=>cases lC G A s r<;>rfl
theorem Ls(s:U):vB s []=some s:=rfl
theorem zw0(A:zB)(i:Nat):(Opd.t i).ev A=A.get i:=rfl
theorem zwZ(A:zB)(v:Z):(Opd.c v).ev A=some v:=rfl
theorem Sr(A:zB):evL A []=some []:=rfl
theorem If(A:zB)(x:Opd)(r:List Opd):evL A (x::r)=Xx (x.ev A) (evL A r):=rfl
theorem Cy(A:zB):evO A none=some none:=rfl
def OM:zC->Option zC
 |some v=>some (some v)
 |none=>none
theorem Cz(A:zB)(x:Opd):evO A (some x)=OM (x.ev A):=by unfold evO OM;rfl
theorem se(v:Z):OM (some v)=some (some v):=rfl
theorem DR(s:U)(v:Z):Zt s (some v)=some (v,s):=rfl
def b1(f:Z->zc):zC->zc
 |some v=>f v
 |none=>none
def b2(f:Z->Z->zc):zC->zC->zc
 |some v,some w=>f v w
 |_,_=>none
def b3(f:Z->Z->Z->zc):zC->zC->zC->zc
 |some v,some w,some u=>f v w u
 |_,_,_=>none
def k1(s:U)(f:Z->zC):zC->zc
 |some v=>Zt s (f v)
 |none=>none
def k2(s:U)(f:Z->Z->zC):zC->zC->zc
 |some v,some w=>Zt s (f v w)
 |_,_=>none
def kL(s:U)(f:zA->zC):Option zA->zc
 |some v=>Zt s (f v)
 |none=>none
def kLL(s:U)(f:zA->zA->zC):Option zA->Option zA->zc
 |some v,some w=>Zt s (f v w)
 |_,_=>none
def k3(s:U)(f:Z->zC->zC->zC):zC->Option zC->Option zC->zc
 |some v,some l,some h=>Zt s (f v l h)
 |_,_,_=>none
def k4(A:zB)(s:U)(x:Opd)(lo hi:Option Opd)(f:Z->zC->zC->zC->zC):Option zC->zc
 |some m=>vs3 A s x lo hi (λv l h=>f v l h m)
 |none=>none
theorem zvN(A:zB)(s:U)(x:Opd)(f:Z->zC):v1 A s x f=k1 s f (x.ev A):=by unfold v1 k1;cases x.ev A<;>rfl
theorem zvO(A:zB)(s:U)(x y:Opd)(f:Z->Z->zC):v2 A s x y f=k2 s f (x.ev A) (y.ev A):=by unfold v2 k2;cases x.ev A<;>cases y.ev A<;>rfl
theorem Tv(s:U)(f:Z->zC)(v:Z):k1 s f (some v)=Zt s (f v):=rfl
theorem Tw(s:U)(f:Z->Z->zC)(v w:Z):k2 s f (some v) (some w)=Zt s (f v w):=rfl
theorem zvH(A:zB)(x:Opd)(f:Z->zc):o1 A x f=b1 f (x.ev A):=by unfold o1 b1;cases x.ev A<;>rfl
theorem zvI(A:zB)(x y:Opd)(f:Z->Z->zc):o2 A x y f=b2 f (x.ev A) (y.ev A):=by unfold o2 b2;cases x.ev A<;>cases y.ev A<;>rfl
theorem zvJ(A:zB)(x y z:Opd)(f:Z->Z->Z->zc):o3 A x y z f=b3 f (x.ev A) (y.ev A) (z.ev A):=by unfold o3 b3;cases x.ev A<;>cases y.ev A<;>cases z.ev A<;>rfl
theorem zvQ(A:zB)(s:U)(l:List Opd)(f:zA->zC):vL A s l f=kL s f (evL A l):=by unfold vL kL;cases evL A l<;>rfl
theorem zvv(A:zB)(s:U)(l m:List Opd)(f:zA->zA->zC):vLL A s l m f=kLL s f (evL A l) (evL A m):=by unfold vLL kLL;cases evL A l<;>cases evL A m<;>rfl
theorem zvw(A:zB)(s:U)(x:Opd)(lo hi:Option Opd)(f:Z->zC->zC->zC):vs3 A s x lo hi f=k3 s f (x.ev A) (evO A lo) (evO A hi):=by unfold vs3 k3;cases x.ev A<;>cases evO A lo<;>cases evO A hi<;>rfl
theorem zvx(A:zB)(s:U)(x:Opd)(lo hi mx:Option Opd)(f:Z->zC->zC->zC->zC):vs4 A s x lo hi mx f=k4 A s x lo hi f (evO A mx):=by unfold vs4 k4;cases evO A mx<;>rfl
theorem RF(f:Z->zc)(v:Z):b1 f (some v)=f v:=rfl
theorem RG(f:Z->Z->zc)(v w:Z):b2 f (some v) (some w)=f v w:=rfl
theorem RH(f:Z->Z->Z->zc)(v w u:Z):b3 f (some v) (some w) (some u)=f v w u:=rfl
theorem Tz(s:U)(f:zA->zC)(l:zA):kL s f (some l)=Zt s (f l):=rfl
theorem Mx(s:U)(f:zA->zA->zC)(l m:zA):kLL s f (some l) (some m)=Zt s (f l m):=rfl
theorem Tx(s:U)(f:Z->zC->zC->zC)(v:Z)(l h:zC):k3 s f (some v) (some l) (some h)=Zt s (f v l h):=rfl
theorem Ty(A:zB)(s:U)(x:Opd)(lo hi:Option Opd)(f:Z->zC->zC->zC->zC)(m:zC):k4 A s x lo hi f (some m)=vs3 A s x lo hi (λv l h=>f v l h m):=rfl
theorem Cs(S:Self)(f:Nat)(vs:zA)(s:U):eT S f (some vs) s=S.call f vs s:=rfl
theorem Sp(S:Self)(f:Nat)(a c:zA)(vs:zA)(s:U):bB S (some (.fn f a c)) (some vs) s=S.call f (a++vs++c) s:=rfl
theorem zzX(a b:zC):aK (some (.bool true)) a b=a:=rfl
theorem zzW(a b:zC):aK (some (.bool false)) a b=b:=rfl
theorem zzV(x y z:Bool):aK (some (.bool x)) (some (.bool y)) (some (.bool z))=some (.bool (bif x then y else z)):=by cases x<;>rfl
theorem zzQ(off Y o:Nat):vFa off (.ptr Y o)=some (.ptr Y (o+off)):=rfl
theorem zwi(off:Nat)(cs:zA):vFa off (.vp cs)=some (.vp (qv off cs)):=rfl
theorem Ro(i o:Nat):Rn (.ptr i o)=some (.ptr i o):=rfl
theorem TJ(s:U)(e:Nat)(v:Z):ij s e v=some (.ptr s.next 0,s.alloc (.row e v.cells false false)):=rfl
theorem Dq(s:U)(e:Nat)(zs:zA):Wv s e zs=some (.ptr s.next 0,s.alloc (.row e zs false false)):=rfl
theorem BG(cs:zA):(Z.agg cs).cells=cs:=rfl
theorem BH(k:IntKind)(n:Int):(Z.int k n).cells=[.int k n]:=rfl
theorem nw(b:Bool):(Z.bool b).cells=[.bool b]:=rfl
theorem BI(n:Nat)(e:Bool)(l:zA):(Z.lst n e l).cells=[.lst n e l]:=rfl
theorem FA(i e n:Nat)(l:zA):(Z.gr i e n l).cells=[.gr i e n l]:=rfl
theorem BK(i o:Nat):(Z.ptr i o).cells=[.ptr i o]:=rfl
theorem FB(i o n:Nat)(c:Cap):(Z.sl i o n c).cells=[.sl i o n c]:=rfl
theorem BJ(i:Nat):(Z.map i).cells=[.map i]:=rfl
theorem nx:Z.nils.cells=[.nils]:=rfl
theorem Rm(s:U)(t:zy):Vy s .s (.str t)=some (.int .i64 (.ofNat t.length)):=by rw[<-qT];rfl
theorem EJ(s:U):Vy s .v .nils=some (.int .i64 (.ofNat 0)):=rfl
theorem Rl(s:U)(n:Nat)(e:Bool)(l:zA):Vy s .v (.lst n e l)=some (.int .i64 (.ofNat n)):=rfl
theorem zzU(s:U)(i o n:Nat)(c:Cap):Vy s .v (.sl i o n c)=some (.int .i64 (.ofNat n)):=rfl
theorem zzY(b:Bool):vUn .not (.bool b)=some (.bool (!b)):=rfl
theorem Re(op:BinOp)(k k':IntKind)(a b:Int):EF op (.int k a) (.int k' b)=jl op k a k' b:=rfl
theorem Rf(op:BinOp)(a b:zy):EF op (.str a) (.str b)=Bt op a b:=rfl
def eqD(a b:Int):Bool:=decide (a=b)
def ltD(a b:Int):Bool:=decide (a<b)
def E6(k:IntKind)(a b:Int):jl .eql k a k b=some (.bool (eqD a b)):=by
 have:j8 k k=true:=by cases k<;>rfl
 simp only[jl,this,wy,j6,eqD];by_cases h:a=b<;>simp[h]
def Fc(k:IntKind)(a b:Int):jl .neq k a k b=some (.bool (!eqD a b)):=by
 have:j8 k k=true:=by cases k<;>rfl
 simp only[jl,this,wy,j6,eqD];by_cases h:a=b<;>simp[h]
def Fa(k:IntKind)(a b:Int):jl .lss k a k b=some (.bool (ltD a b)):=by
 have:j8 k k=true:=by cases k<;>rfl
 simp only[jl,this,wy,pB,ltD]
def E9(k:IntKind)(a b:Int):jl .leq k a k b=some (.bool (!ltD b a)):=by
 have:j8 k k=true:=by cases k<;>rfl
 simp only[jl,this,wy,pB,ltD]
def E8(k:IntKind)(a b:Int):jl .gtr k a k b=some (.bool (ltD b a)):=by
 have:j8 k k=true:=by cases k<;>rfl
 simp only[jl,this,wy,pB,ltD]
def E7(k:IntKind)(a b:Int):jl .geq k a k b=some (.bool (!ltD a b)):=by
 have:j8 k k=true:=by cases k<;>rfl
 simp only[jl,this,wy,pB,ltD]
theorem Sk(a b:Nat):eqD (.ofNat a) (.ofNat b)=decide (a=b):=by
 unfold eqD;by_cases h:a=b
 .subst h;simp
 .simp only[h,decide_false,decide_eq_false_iff_not];intro e;cases e;exact h rfl
def bY(a b:Nat):ltD (.ofNat a) (.ofNat b)=decide (a<b):=by
 unfold ltD;by_cases h:a<b<;>simp[h]
def MG(a b:Nat):ltD (.negSucc a) (.ofNat b)=true:=by
 have:(Int.negSucc a)<0:=Int.negSucc_lt_zero a;have h2:(0:Int)<=Int.ofNat b:=Int.natCast_nonneg b;unfold ltD;exact qL J
def zwC{a b:Int}(h:a=b):eqD a b=true:=qL h
def sZ{a b:Int}(h:a≠b):eqD a b=false:=qy h
theorem UI(k:IntKind)(h:a<Lt k):ji k (.ofNat a)=.ofNat a:=by
 show (bif zL a (Lt k)then Int.ofNat a else _)=_;rw[qA.2 h];rfl
theorem zvA(a b:Nat):Int.add (.ofNat a) (.ofNat b)=.ofNat (a+b):=rfl
theorem o7(a b:Nat):Int.mul (.ofNat a) (.ofNat b)=.ofNat (a*b):=rfl
def si(h:b<=a):Int.sub (.ofNat a) (.ofNat b)=.ofNat (a-b):=by
 show (a:Int)-(b:Int)=((a-b:Nat):Int);omega
def E5(k:IntKind)(a b:Int):jl .add k a k b=some (.int k (ji k (Int.add a b))):=by
 have:j8 k k=true:=by cases k<;>rfl
 simp only[jl,this,wy]
def Fd(k:IntKind)(a b:Int):jl .sub k a k b=some (.int k (ji k (Int.sub a b))):=by
 have:j8 k k=true:=by cases k<;>rfl
 simp only[jl,this,wy]
def Fb(k:IntKind)(a b:Int):jl .mul k a k b=some (.int k (ji k (Int.mul a b))):=by
 have:j8 k k=true:=by cases k<;>rfl
 simp only[jl,this,wy]
def Vz(h:a<9223372036854775808):ji .i64 (.ofNat a)=.ofNat a:=UI .i64 h
def zwn(h:a<2147483648):ji .i32 (.ofNat a)=.ofNat a:=UI .i32 h
def zwo(h:a<256):ji .u8 (.ofNat a)=.ofNat a:=UI .u8 h
def zz5(h:a<4294967296):ji .u32 (.ofNat a)=.ofNat a:=UI .u32 h
theorem zzO(k k':IntKind)(a:Int):vCi k (.int k' a)=some (.int k (ji k a)):=rfl
def Ff(a b:zy):Bt .eql a b=some (.bool (decide (a=b))):=by
 show some (Z.bool (eqS a b))=_;rw[UY];by_cases h:a=b<;>simp[h]
def Fg(a b:zy):Bt .neq a b=some (.bool (!decide (a=b))):=by
 show some (Z.bool (!eqS a b))=_;rw[UY];by_cases h:a=b<;>simp[h]
theorem oU(v:Z)(l:zA):Wj (v::l)=some v:=rfl
theorem zzP(vs:zA)(i:Nat):vEx (.tup vs) i=Wj (qv i vs):=rfl
theorem Bg(l:zA):VJ (some l)=some (.agg l):=rfl
theorem bp(l:zA)(off n:Nat):cut l off n=qf n (qv off l):=rfl
theorem Ts(k:IntKind)(a n:Nat):idx (.int k (.ofNat a)) n=if a<n then some a else none:=by
 show (bif zL a n then some a else none)=_;by_cases h:a<n
 .rw[wH h,qA.2 h];rfl
 .rw[wx h];cases hb:zL a n with
  |true=>exact absurd (qA.1 hb) h
  |false=>rfl
def vpK(cs:zA)(esz:Nat):zD->zC
 |some k=>some (.vp (qv (k*esz) cs))
 |none=>none
theorem Rq(cs:zA)(esz k:Nat):vpK cs esz (some k)=some (.vp (qv (k*esz) cs)):=rfl
theorem zzR(esz n:Nat)(e:Bool)(cs:zA)(i:Z):vIa esz (.lst n e cs) i=vpK cs esz (idx i n):=by
 simp only[vIa,vpK];generalize idx i n=x;cases x<;>rfl
theorem zwj(esz Y n:Nat)(cs:zA)(i:Z):vIa esz (.gr Y esz n cs) i=vpK cs esz (idx i n):=by
 simp only[vIa,vpK,ql.2,wy];generalize idx i n=x;cases x<;>rfl
def ptK(Y off esz:Nat):zD->zC
 |some k=>some (.ptr Y (off+k*esz))
 |none=>none
theorem NF(Y off esz k:Nat):ptK Y off esz (some k)=some (.ptr Y (off+k*esz)):=rfl
theorem zwk(esz Y off len:Nat)(c:Cap)(i:Z):vIa esz (.sl Y off len c) i=ptK Y off esz (idx i len):=by
 simp only[vIa,ptK];generalize idx i len=x;cases x<;>rfl
theorem Rh(n esz Y off:Nat)(i:Z):mC n esz (.ptr Y off) i=ptK Y off esz (idx i n):=by
 simp only[mC,ptK];generalize idx i n=x;cases x<;>rfl
theorem m9(b:Nat):dJ (some b)=some (.int .u8 (.ofNat b)):=rfl
theorem Rj(t:zy)(k:IntKind)(i:Nat):Ri (.str t) (.int k (.ofNat i))=dJ (fF t i):=rfl
def zzi:zm->Option zA
 |some (.row _ cs _ _)=>some cs
 |some (.giv cs)=>some cs
 |_=>none
theorem Of(e:Nat)(cs:zA)(x fz:Bool):zzi (some (.row e cs x fz))=some cs:=rfl
def Sc(off n:Nat):Option zA->Option zA
 |some cs=>cut cs off n
 |none=>none
theorem BR(off n:Nat)(cs:zA):Sc off n (some cs)=qf n (qv off cs):=rfl
def Mp:Option zA->zC
 |some l=>Wj l
 |none=>none
theorem oT(l:zA):Mp (some l)=Wj l:=rfl
theorem PJ(G:List zA)(s:U)(Y off n:Nat):jE G s (.ptr Y off) n=Sc off n (zzi (s.get Y)):=by
 unfold jE;simp only;cases s.get Y with
 |none=>rfl
 |some o=>cases o<;>rfl
theorem fP(G:List zA)(s:U)(cs:zA)(n:Nat):jE G s (.vp cs) n=qf n cs:=rfl
theorem zzS(G:List zA)(s:U)(Y off:Nat):vLd G s (.ptr Y off)=Mp (Sc off 1 (zzi (s.get Y))):=by
 rw[<-PJ G];unfold vLd;cases jE G s (.ptr Y off) 1<;>rfl
theorem zwm(G:List zA)(s:U)(cs:zA):vLd G s (.vp cs)=Mp (qf 1 cs):=by
 rw[<-fP G s];unfold vLd;cases jE G s (.vp cs) 1<;>rfl
theorem Rk(G:List zA)(s:U)(n Y off:Nat):WN G s n (.ptr Y off)=VJ (Sc off n (zzi (s.get Y))):=by
 rw[<-PJ G];unfold WN;cases jE G s (.ptr Y off) n<;>rfl
theorem zzT(G:List zA)(s:U)(n:Nat)(cs:zA):WN G s n (.vp cs)=VJ (qf n cs):=by
 rw[<-fP G s];unfold WN;cases jE G s (.vp cs) n<;>rfl
def zxO(s:U)(Y e:Nat)(x:Bool):Option zA->zc
 |some cs=>some (vJ,s.put Y (.row e cs x false))
 |none=>none
theorem DE(s:U)(Y e:Nat)(x:Bool)(cs:zA):zxO s Y e x (some cs)=some (vJ,s.put Y (.row e cs x false)):=rfl
def stO(s:U)(Y off n:Nat)(w:Z):zm->zc
 |some (.row e cs x false)=>bif (zI (vC w.cells) n&&w8 w.cells)then zxO s Y e x (ki cs off w.cells)else none
 |_=>none
theorem zzu(s:U)(Y off n:Nat)(w:Z)(e:Nat)(cs:zA)(x:Bool):stO s Y off n w (some (.row e cs x false))=(bif (zI (vC w.cells) n&&w8 w.cells)then zxO s Y e x (ki cs off w.cells)else none):=rfl
theorem TV(s:U)(n Y off:Nat)(w:Z):oSt s n (.ptr Y off) w=stO s Y off n w (s.get Y):=by
 unfold oSt gB;simp only;cases s.get Y with
 |none=>cases zI (vC w.cells) n<;>rfl
 | some o=>
  cases o<;>first|(cases zI (vC w.cells) n<;>rfl)|skip
  rename_i e cs x fz
  cases fz
  .simp only[stO];cases zI (vC w.cells) n<;>cases w8 w.cells<;>simp only[x9,wa,Bool.not_false,wy,wK,Bool.and_true,Bool.and_false,Bool.true_and,Bool.false_and]
   cases ki cs off w.cells<;>rfl
  .cases zI (vC w.cells) n<;>rfl
def sh(s:U)(Y off:Nat)(vs:zA)(e:Nat)(cs cs':zA)(x:Bool)(h:s.get Y=some (.row e cs x false))(ha:w8 vs=true)(hp:ki cs off vs=some cs'):gB s (.ptr Y off) vs=some (s.put Y (.row e cs' x false)):=by
 unfold gB;simp only[h,ha,hp,x9,wa,wK]
def zz9(a b:Nat):zM a b=decide (a<=b):=by
 cases h:zM a b with
 |true=>exact(qL (qd.1 h)).symm
 |false=>exact(qy (λe=>by rw[qd.2 e]at h;cases h)).symm
def zwy(a b:Nat):zL a b=decide (a<b):=by
 cases h:zL a b with
 |true=>exact(qL (qA.1 h)).symm
 |false=>exact(qy (λe=>by rw[qA.2 e]at h;cases h)).symm
def zwx(a b:Nat):zI a b=decide (a=b):=by
 cases h:zI a b with
 |true=>exact(qL (ql.1 h)).symm
 |false=>exact(qy (λe=>by rw[ql.2 e]at h;cases h)).symm
mutual
theorem Pr(n0:Nat):∀{v:Z},qg v=true->XO n0 v=some v
 |.bool _,_=>rfl
 |.int _ _,_=>rfl
 |.str _,_=>rfl
 |.nilp,_=>rfl
 |.gptr _ _,_=>rfl
 |.sl0,_=>rfl
 |.nils,_=>rfl
 |.nilm,_=>rfl
 |.nilf,_=>rfl
 |.nili,_=>rfl
 |.lst _ _ _,_=>rfl
 |.vp _,_=>rfl
 |.ifc _ v,h=>by simp only[XO,h,wy]
 |.fn _ a c,h=>by simp only[XO,h,wy]
 |.agg cs,h=>by simp only[XO,h,wy]
 |.tup vs,h=>by simp only[XO,h,wy]
 |.ptr _ _,h=>by simp[qg]at h
 |.sl _ _ _ _,h=>by simp[qg]at h
 |.map _,h=>by simp[qg]at h
 |.yld _,h=>by simp[qg]at h
 |.gr _ _ _ _,h=>by simp[qg]at h
end
def Pt(n0:Nat):∀{l:zA},wL l=true->V9 n0 l=some l
 |[],_=>rfl
 |v::r,h=>by
  simp only[wL,Bool.and_eq_true]at h;simp only[V9,Pr n0 h.1,Pt n0 h.2]
def Ps(n0:Nat)(h:qg v=true):J9 n0 v=some v:=by
 cases v<;>first|exact Pr n0 h|skip
 rename_i cs
 simp only[qg]at h;simp only[J9,Pt n0 h]
def Pu(n0:Nat):∀{l:zA},wL l=true->Ua n0 l=some l
 |[],_=>rfl
 |v::r,h=>by
  simp only[wL,Bool.and_eq_true]at h;simp only[Ua,Ps n0 h.1,Pu n0 h.2]
def CS(n0:Nat)(h:qg v=true):XP n0 v=some v:=by
 cases v<;>first|exact Ps n0 h|skip
 rename_i cs
 simp only[qg]at h;simp only[XP,Pu n0 h]
def zwf:Option zA->zC
 |some l=>some (.tup l)
 |none=>none
theorem EA(l:zA):zwf (some l)=some (.tup l):=rfl
theorem IZ(n0:Nat)(vs:zA):XP n0 (.tup vs)=zwf (Ua n0 vs):=by simp only[XP,zwf];cases Ua n0 vs<;>rfl
theorem I1(n0:Nat):Ua n0 []=some []:=rfl
theorem CV(n0:Nat)(v:Z)(r:zA):Ua n0 (v::r)=Xx (J9 n0 v) (Ua n0 r):=by
 simp only[Ua,Xx];cases J9 n0 v<;>cases Ua n0 r<;>rfl
theorem I0(n0:Nat):V9 n0 []=some []:=rfl
theorem CU(n0:Nat)(v:Z)(r:zA):V9 n0 (v::r)=Xx (XO n0 v) (V9 n0 r):=by
 simp only[V9,Xx];cases XO n0 v<;>cases V9 n0 r<;>rfl
def bH(n0 Y e n:Nat)(cs:zA):XO n0 (.gr Y e n cs)=if n0<=Y then some (.lst n false cs)else some (.gr Y e n cs):=by
 simp only[XO,zz9];by_cases h:n0<=Y<;>simp[h]
def Tf(n0 Y e n:Nat)(cs:zA):J9 n0 (.gr Y e n cs)=if n0<=Y then some (.lst n false cs)else some (.gr Y e n cs):=bH n0 Y e n cs
def Tg(n0 Y e n:Nat)(cs:zA):XP n0 (.gr Y e n cs)=if n0<=Y then some (.lst n false cs)else some (.gr Y e n cs):=bH n0 Y e n cs
theorem fk(n0:Nat)(cs:zA):J9 n0 (.agg cs)=VJ (V9 n0 cs):=rfl
def IY(n0:Nat)(cs:zA):XP n0 (.agg cs)=VJ (V9 n0 cs):=fk n0 cs
theorem ni:qo []=[]:=rfl
theorem dK(b:Nat)(r:zy):qo (b::r)=.int .u8 (.ofNat b)::qo r:=rfl
def ZG:∀(n:Nat) (l:zy),qv n (qo l)=qo (l.drop n)
 |0,l=>rfl
 |n+1,[]=>rfl
 |n+1,b::r=>by simp only[qo,qv,wc];exact ZG n r
def Jq:∀(n:Nat) (l:zy),tkN n (qo l)=qo (l.take n)
 |0,l=>by simp[tkN,qo]
 |n+1,[]=>rfl
 |n+1,b::r=>by simp only[qo,tkN,x0];rw[Jq n r]
def J3:∀{n:Nat} {l:zy},n<=zR l->qf n (qo l)=some (qo (l.take n))
 |0,l,_=>by simp[qf,qo]
 |n+1,[],h=>by simp at h
 |n+1,b::r,h=>by simp only[qo,qf,J3 (n:=n) (l:=r) (by simpa using h),x0]
def QS:∀{l:zy},(∀b∈l,b<256)->kW (qo l)=some l
 |[],_=>rfl
 |b::r,h=>by
  simp only[qo,kW,QS (l:=r) (λx hx=>h x (by simp[hx])),qA.2 (h b (by simp)),wy]
theorem zxx(a b:Nat):Nat.lor a b=a|||b:=rfl
def NW(ρ:Nat->zD)(k:IntKind)(n:Int):jG ρ (.int k n)=some (.int k n):=by simp only[jG]
def DO(ρ:Nat->zD)(b:Bool):jG ρ (.bool b)=some (.bool b):=by simp only[jG]
def NZ(ρ:Nat->zD)(s:zy):jG ρ (.str s)=some (.str s):=by simp only[jG]
def DP(ρ:Nat->zD):jG ρ .nils=some .nils:=by simp only[jG]
def NX(ρ:Nat->zD)(n:Nat)(e:Bool)(l:zA):jG ρ (.lst n e l)=some (.lst n e l):=by simp only[jG]
def jS(f:Nat->Z):zD->zC
 |some j=>some (f j)
 |none=>none
theorem Tu(f:Nat->Z)(j:Nat):jS f (some j)=some (f j):=rfl
theorem NY(ρ:Nat->zD)(i o:Nat):jG ρ (.ptr i o)=jS (λj=>.ptr j o) (ρ i):=by simp only[jG];cases ρ i<;>rfl
theorem zzc(ρ:Nat->zD)(i e n:Nat)(l:zA):jG ρ (.gr i e n l)=jS (λj=>.gr j e n l) (ρ i):=by simp only[jG];cases ρ i<;>rfl
def fnO(f:Nat):Option zA->Option zA->zC
 |some a,some c=>some (.fn f a c)
 |_,_=>none
theorem IP(f:Nat)(a c:zA):fnO f (some a) (some c)=some (.fn f a c):=rfl
theorem zzb(ρ:Nat->zD)(f:Nat)(a c:zA):jG ρ (.fn f a c)=fnO f (WB ρ (wL a) a) (WB ρ (wL c) c):=by
 simp only[jG];cases WB ρ (wL a) a<;>cases WB ρ (wL c) c<;>rfl
def zxW(ρ:Nat->zD)(l:zA):WB ρ true l=some l:=by simp only[WB,wy]
theorem jA(b:Bool):qg (.bool b)=true:=rfl
theorem vh(k:IntKind)(n:Int):qg (.int k n)=true:=rfl
theorem pY(s:zy):qg (.str s)=true:=rfl
theorem rJ:qg .nilp=true:=rfl
theorem rz(g o:Nat):qg (.gptr g o)=true:=rfl
theorem DD:qg .sl0=true:=rfl
theorem Zr:qg .nils=true:=rfl
theorem rI:qg .nilm=true:=rfl
theorem rC:qg .nilf=true:=rfl
theorem rE:qg .nili=true:=rfl
theorem qE(n:Nat)(e:Bool)(l:zA):qg (.lst n e l)=true:=rfl
theorem NH(l:zA):qg (.vp l)=true:=rfl
theorem DC(t:Nat)(v:Z):qg (.ifc t v)=qg v:=rfl
theorem Ut(f:Nat)(a c:zA):qg (.fn f a c)=(wL a&&wL c):=rfl
theorem uF(l:zA):qg (.agg l)=wL l:=rfl
theorem uQ(l:zA):qg (.tup l)=wL l:=rfl
theorem wU:wL []=true:=rfl
theorem wR(v:Z)(r:zA):wL (v::r)=(qg v&&wL r):=rfl
theorem IU(n0:Nat)(k:IntKind)(n:Int):XO n0 (.int k n)=some (.int k n):=rfl
theorem IW(n0:Nat)(s:zy):XO n0 (.str s)=some (.str s):=rfl
theorem CR(n0:Nat):XO n0 (.nils)=some (.nils):=rfl
theorem IV(n0:Nat)(n:Nat)(e:Bool)(l:zA):XO n0 (.lst n e l)=some (.lst n e l):=rfl
theorem IX(n0:Nat)(k:IntKind)(n:Int):J9 n0 (.int k n)=some (.int k n):=rfl
def jQ{C:Cx}{ib:ICode}{Q:Res->Fr->U->Prop}{α:Type}(m:α->Nat)(fr:α->Fr)(st:α->U)(Ir:α->Prop)
  (step:∀x,Ir x->Tri C ib (fr x) (st x) (qa (λf t=>∃y,Ir y/\m y<m x/\Gc C f t (fr y) (st y)) Q)):∀x,Ir x->H6 C ib (fr x) (st x) Q:=by
 have key:∀n x,m x<n->Ir x->H6 C ib (fr x) (st x) Q:=by
  intro n
  induction n with
  |zero=>intro x h;omega
  | succ n ih=>
   intro x hx hI;refine uu ((step x hI).mono λr f t=>?_);cases r with
   |norm=>
    rintro⟨y,h1,h2,h3⟩
    exact Bb h3 (ih y J h1)
   |exit i=>exact λh=>h
   |ret=>exact λh=>h
 exact λx hI=>key (m x+1) x J hI
def Qu:∀l:zy,wkL (qo l)=qo l
 |[]=>rfl
 |b::r=>by simp only[qo,wkL,wkV,Qu r]
def QY:∀{a b:zy},qo a=qo b->a=b
 |[],[],_=>rfl
 |[],_::_,h=>by simp[qo]at h
 |_::_,[],h=>by simp[qo]at h
 |x::a,y::b,h=>by
  simp only[qo,vc,Z.int.injEq,true_and]at h;obtain⟨h1,h2⟩:=h;have:x=y:=by cases h1;rfl
  rw[this,QY h2]
structure Is(C:Cx)(E:Env)(O:Orc)(c:U)(M:Nat):Prop where
 ok:CxOk C
 e:C.E=E
 o:C.O=O
 rd:C.rd=none
 s:C.s=c
 m:C.M=M
section
variable {C:Cx}{E:Env}{O:Orc}{c:U}{M:Nat}{ic:ICode}{fr fr' fr1:Fr}{s s' s1:U}{Q:Res->Fr->U->Prop}{res:Res}
def Is.eval(k:Is C E O c M)(h:evC E (evW E O) none ic fr s=some (res,fr',s'))(q:Q res fr' s'):Tri C ic fr s Q:=
 mr k.ok (by rw[k.e,k.o,k.rd];exact h) q
def Is.ev(k:Is C E O c M)(h:∃r,evC E (evW E O) none ic fr s=some r/\Q r.1 r.2.1 r.2.2):Tri C ic fr s Q:=by
 obtain⟨⟨res,fr',s'⟩,h1,h2⟩:=h;exact k.eval h1 h2
def Is.gcs(k:Is C E O c M){keep live:zy}{md:Bool}(h:gcF false c M keep live md fr s=some (fr1,s1)):Gc C fr s fr1 s1:=
 Mf k.ok (wk:=false) (keep:=keep) (live:=live) (md:=md) (by rw[k.s,k.m];exact h)
def Is.gc(k:Is C E O c M)(keep live:zy)(md:Bool)(h:gcF false c M keep live md fr s=some (fr1,s1))(t:Tri C ic fr1 s1 Q):Tri C ic fr s Q:=cY (k.gcs h) t
def Is.gcL(k:Is C E O c M)(keep live:zy)(md:Bool)(h:gcF false c M keep live md fr s=some (fr1,s1))(t:H6 C ic fr1 s1 Q):H6 C ic fr s Q:=Bb (k.gcs h) t
end
def Cut(C:Cx)(fr1:Fr)(s1:U)(Q:Res->Fr->U->Prop):Res->Fr->U->Prop
 |.norm,f,t=>Gc C f t fr1 s1
 |r,f,t=>Q r f t
def Qs{C:Cx}{ia ib:ICode}{Q:Res->Fr->U->Prop}(fr1:Fr)(s1:U)(h1:Tri C ia fr s (Cut C fr1 s1 Q))(h2:Tri C ib fr1 s1 Q):Tri C (.seq ia ib) fr s Q:=
 qN (h1.mono λr f t=>by
  cases r with
  |norm=>exact λh=>cY h h2
  |exit i=>exact λh=>h
  |ret=>exact λh=>h)
def Is.sc{P:Program}{X:World}(hO:OrcOk P X O)(hm:P.follows .mixedOrders=true)(hG:qm E.globs X)(hE:pf P E){f:Nat}{F:IFunc}{args:zA}{os:zl}{b:Bool}(M:Nat)
  (hF:E.funs.get f=some F) (hle:zR args<=F.ntmps) (hM:∀i,M.testBit i=true->∃o,lc os i=some o/\uE o=false)
  (h:∀C:Cx,Is C E O (H os 0 b) M->Tri C F.body {A:=qG (tmL []) 0 args,df:=[]} (H os 0 b) (Fin E (H os 0 b) M F.res v c')):SC P X f args (H os 0 b) v c':=
 r9 hO hm hG hE M hF hle rfl rfl rfl (λi hi=>by
  obtain⟨o,h1,h2⟩:=hM i hi;exact⟨tN h1,o,by rw[KP];exact h1,h2⟩) λC ok h1 h2 h3 h4 h5=>h C ⟨ok,h1,h2,h3,h4,h5⟩
def Z5{c:U}{M:Nat}{res:List RV}{r:Res}{s2:U}{vs:zA}{v0:Z}(h0:r=.norm\/r=.ret)(h1:vB s fr.df=some s2)(h2:lC E.globs fr.A s2 res=some vs)(h3:XP c.next (jP vs)=some v0)(h4:wkV v0=v)(h5:gcF true c M [] [] c.md {A:=tmL [],df:=[]} s2=some ({A:=tmL [],df:=[]},c')):Fin E c M res v c' r fr s:=
 ⟨h0,s2,vs,v0,_,h1,h2,h3,h4.symm,h5⟩
def kA{os:zl}:∀i,(0:Nat).testBit i=true->∃o,lc os i=some o/\uE o=false:=λi h=>by simp at h
def zwN{o:AObj}{os:zl}(hg:uE o=false):∀i,(1:Nat).testBit i=true->∃o',lc (some o::os) i=some o'/\uE o'=false:=λi h=>by
 cases i with
 |zero=>exact⟨o,rfl,hg⟩
 |succ i=>rw[Nat.testBit_succ]at h;simp at h
def Byt(l:zy):Prop:=∀x∈l,x<256
def Byt.drop(h:Byt l)(n:Nat):Byt (l.drop n):=λx hx=>h x (List.mem_of_mem_drop hx)
def Byt.take(h:Byt l)(n:Nat):Byt (l.take n):=λx hx=>h x (List.mem_of_mem_take hx)
def Byt.cons{c:Nat}(h:Byt (c::l)):c<256/\Byt l:=⟨h c (by simp),λx hx=>h x (by simp[hx])⟩
def Eb{b:zy}{k k':IntKind}{lo hi:Nat}(h1:lo<=hi)(h2:hi<=List.length b):QE 1 (.lst (List.length b) e (qo b)) (some (.int k (.ofNat lo))) (some (.int k' (.ofNat hi))) none=some (.lst (hi-lo) (e&&Nat.beq hi (List.length b)) (qo ((b.drop lo).take (hi-lo)))):=by
 simp only[QE,dm,bnd,qd.2 h1,qd.2 h2,wy];show some (Z.lst (hi-lo) _ (tkN ((hi-lo)*1) (qv (lo*1) (qo b))))=_;rw[x8,x8,ZG,Jq]
def cR{b:zy}{k:IntKind}{lo:Nat}(h1:lo<=List.length b):QE 1 (.lst (List.length b) e (qo b)) (some (.int k (.ofNat lo))) none none=some (.lst (List.length b-lo) (e&&Nat.beq (List.length b) (List.length b)) (qo (b.drop lo))):=by
 simp only[QE,dm,bnd,qd.2 h1,wy];show some (Z.lst (zR b-lo) _ (tkN ((zR b-lo)*1) (qv (lo*1) (qo b))))=_;rw[x8,x8,ZG,Jq,yq (by simp)]
def LQ(hn:List.length l=n)(hb:Byt l):EH s (.lst n e (qo l))=some (.str l):=by
 subst hn;simp only[EH,J3 (Nat.le_refl _),List.take_length,km,QS hb,UH]
def zyS{t:zy}(h:t.length<9223372036854775808)(l:zb)(n m:Nat)(hd:zi)(on:zg)(e:Nat):Kh (KL l n m true hd on) e (.str t)=some (.lst t.length false (qo t),KL l n m true hd on):=by
 simp only[Kh,qT,qA.2 h,wy,QF]
theorem lO:w8 []=true:=rfl
theorem ko(v:Z)(r:zA):w8 (v::r)=(vF v&&w8 r):=by simp only[w8];cases vF v<;>rfl
def YB(k:IntKind)(n:Int):vF (.int k n)=true:=by simp only[vF]
def Oz(s:zy):vF (.str s)=true:=by simp only[vF]
def Qp(b:Bool):vF (.bool b)=true:=by simp only[vF]
def WH(n:Nat)(e:Bool)(l:zA):vF (.lst n e l)=true:=by simp only[vF]
def zzn(i e n:Nat)(l:zA):vF (.gr i e n l)=true:=by simp only[vF]
def D7:vF .nils=true:=by simp only[vF]
def Oy(i o:Nat):vF (.ptr i o)=true:=by simp only[vF]
def Ox(i:Nat):vF (.map i)=true:=by simp only[vF]
def Sh(h:a<b):decide (a<b)=true:=qL h
def Sg(h:b<=a):decide (a<b)=false:=qy J
def Sf(h:b<a):decide (a<=b)=false:=qy J
def oV(k:IntKind)(h:a<n):idx (.int k (.ofNat a)) n=some a:=by rw[Ts,wH h]
def qz{l:zA}(h:List.length l=n):qf n l=some l:=by
 subst h
 induction l with
 |nil=>rfl
 |cons v r ih=>simp only[yJ,qf,ih]
theorem gP(n:Nat)(e:Bool)(cs:zA):gw (.lst n e cs)=some n:=rfl
theorem Yg(l:zb)(n m:Nat)(hd:zi)(on:zg)(t esz bytes:Nat)(e:Bool)(cs:zA)(hl:zR cs=esz)(h1:1<=esz)(hb:2*bytes<=281474976710656)(hp:wL cs=true):
  jo (KL l n m true hd on) t esz bytes .nils (.lst 1 e cs)=some (.gr n esz 1 cs,KL ((n,some (.app t cs))::l) (n+1) m true hd on):=by
 have h2:qf (zK 1 esz) cs=some cs:=qz (by rw[hl];show esz=1*esz;omega)
 simp only[jo,gP,qQ,h2,ZZ,QF,hp,xZ,wy,Zo];rw[show zM (zK (zK 2 1) bytes) 281474976710656=true from qd.2 (by show 2*1*bytes<=_;omega),show zM 1 esz=true from qd.2 h1]
 rfl
theorem aW(l:zb)(n m:Nat)(b:Bool)(t esz bytes Y k:Nat)(e:Bool)(old cs:zA)(hg:wn l Y=some (.app t old))(hl:zR cs=esz)(h1:1<=esz)(hb:2*(k+1)*bytes<=281474976710656)(hk:k<1000000000)(hp:wL old=true)(hp2:wL cs=true)(hs:w8 cs=true):
  jo (KL l n m b) t esz bytes (.gr Y esz k old) (.lst 1 e cs)=some (.gr n esz (k+1) (old++cs),KL ((n,some (.app t (old++cs)))::(Y,none)::l) (n+1) (m|||1<<<Y) b):=by
 have h2:qf (zK 1 esz) cs=some cs:=qz (by rw[hl];show esz=1*esz;omega)
 have h3:wL (old++cs)=true:=by rw[ux,hp,hp2];rfl
 simp only[jo,gP,qQ,h2,ZZ,qk,hg,ql.2,hs,xZ,wy,Zo,h3];rw[show zM (zK (zK 2 (Nat.add k 1)) bytes) 281474976710656=true from qd.2 hb,show zM 1 esz=true from qd.2 h1,show zL (Nat.add k 1) 9223372036854775808=true from qA.2 (by show k+1<_;omega)]
 rfl
def TK(l:zb)(n m:Nat)(hd:zi)(on:zg)(e len:Nat)(cs:zA)(hp:wL cs=true):Uo (KL l n m true hd on) e len (some cs)=some (.lst len true cs,KL l n m true hd on):=by
 simp only[Uo,QF,hp,xZ,wy]
def IL(zs:zA)(off n:Nat)(A:zB)(r:zu):zC->Option zA
 | some v=>bif zI (vC v.cells) n&&zM 1 n then (match ki zs off v.cells with
   |some zs'=>lx zs' A r
   |none=>none)else none
 |none=>none
theorem CL(zs:zA)(A:zB):lx zs A []=some zs:=rfl
theorem ot(zs:zA)(A:zB)(off n:Nat)(x:Opd)(r:zu):lx zs A ((off,n,x)::r)=IL zs off n A r (x.ev A):=by
 simp only[lx,IL];cases x.ev A<;>rfl
theorem ou(zs:zA)(off n:Nat)(A:zB)(r:zu)(v:Z):IL zs off n A r (some v)=bif zI (vC v.cells) n&&zM 1 n then (match ki zs off v.cells with
   |some zs'=>lx zs' A r
   |none=>none)else none:=rfl
def zyw{P:Program}{X:World}(hO:OrcOk P X O)(hm:P.follows .mixedOrders=true)(hG:qm E.globs X)(hE:pf P E){args:zA}(h:okV v ((evT E O n).call f args s0)=true):∃s1,SC P X f args (s00 0 false) v s1:=by
 obtain⟨s1,hs⟩:=M6 h;have:=(GJ hO.ext hm hG hE hO.ok n).call hs;exact⟨s1,this.1,λI w xs r hwf hf hx F k hF=>this.2 r hwf hf hx F k hF⟩
section
variable {P:Program}{X:World}{f:Nat}{α:Type}
def SC.args{args args':zA}{s':U}(h:SC P X f args' s v s')(hw:∀I xs,VRL I args xs->VRL I args' xs):SC P X f args s v s':=
 ⟨h.1,λI w xs r hwf hf hx F n hF=>h.2 I w xs r hwf hf (hw I xs hx) F n hF⟩
open Classical in
def v7(enc:α->zA)(Pre:α->Prop)(F:α->Z)(args:zA)(s:U):zc:=
 if h:∃x,enc x=wkL args/\Pre x then some (F (Classical.choose h),s)else none
def vY{enc:α->zA}{Pre:α->Prop}{F:α->Z}(inj:∀x y,enc x=enc y->x=y){args:zA}(s:U)(x:α)(hp:Pre x)(ha:wkL args=enc x):v7 enc Pre F args s=some (F x,s):=by
 have h:∃x,enc x=wkL args/\Pre x:=⟨x,ha.symm,hp⟩;unfold v7;rw[dif_pos h];have:=xS h;rw[inj _ x (this.1.trans ha)]
def pn{enc:α->zA}{Pre:α->Prop}{F:α->Z}(args:zA)(s:U)(v:Z)(s':U)(h:v7 enc Pre F args s=some (v,s')):Ext s s':=by
 unfold v7 at h;split at h
 .cases h;exact Ext.refl _
 .cases h
def Wn{enc:α->zA}{Pre:α->Prop}{F:α->Z}(b:Bool)(hp1:∀x,wL (enc x)=true)(hp2:∀x,qg (F x)=true)(h:∀x,Pre x->∃s1,SC P X f (enc x) (s00 0 b) (F x) s1):vW P X f (v7 enc Pre F):=by
 intro args s v s' hg;unfold v7 at hg;split at hg
 .rename_i hx
  cases hg;obtain⟨h1,h2⟩:=xS hx;obtain⟨s1,hs⟩:=h _ h2;refine SC.args (SC.up hs (hp1 _) (hp2 _) s) λI xs hv=>?_;rw[h1];exact l6 hv
 .cases hg
open Classical in
end
theorem Id(S:Self)(l:Nat)(vs:zA)(s:U):bB S (some (.yld l)) (some vs) s=S.round l vs s:=rfl
def YY(E:Env)(O:Orc)(l:Nat)(a:zA)(s:U):(evW E O).round l a s=gu E (evW E O) l a s:=by
 cases h:gu E (evW E O) l a s with
 |some r=>exact CG h
 | none=>
  cases h2:(evW E O).round l a s with
  |none=>rfl
  | some r=>
   obtain⟨n,hn⟩:=jc (α:=Z×U) h2;cases n with
   |zero=>cases hn
   |succ n=>
    have h3:gu E (evT E O n) l a s=some r:=hn;have h4:LeS (evT E O n) (evW E O):=⟨λf a s r h=>gI (λn r h=>(gg E O n).call _ _ _ _ h) h,λrd b fr s r h=>gI (λn r h=>(gg E O n).loop _ _ _ _ _ h) h,λl a s r h=>gI (λn r h=>(gg E O n).round _ _ _ _ h) h⟩;rw[(UR E l a s).up _ _ h4 r h3]at h;cases h
def eW(E:Env)(O:Orc)(rd:zD)(b:ICode)(fr:Fr)(s:U):(evW E O).loop rd b fr s=evC E (evW E O) rd (.loop b) fr s:=by
 cases h:evC E (evW E O) rd (.loop b) fr s with
 |some r=>exact IH h
 | none=>
  cases h2:(evW E O).loop rd b fr s with
  |none=>rfl
  | some r=>
   obtain⟨n,hn⟩:=jc (α:=Res×Fr×U) h2;cases n with
   |zero=>cases hn
   |succ n=>
    have h3:evC E (evT E O n) rd (.loop b) fr s=some r:=hn;have h4:LeS (evT E O n) (evW E O):=⟨λf a s r h=>gI (λn r h=>(gg E O n).call _ _ _ _ h) h,λrd b fr s r h=>gI (λn r h=>(gg E O n).loop _ _ _ _ _ h) h,λl a s r h=>gI (λn r h=>(gg E O n).round _ _ _ _ h) h⟩;rw[(pw E rd (.loop b) fr s).up _ _ h4 r h3]at h;cases h
def Ia(E:Env)(O:Orc)(rd:zD)(b:ICode)(fr:Fr)(s:U):evC E (evW E O) rd (.loop b) fr s=ge (λf t=>evC E (evW E O) rd (.loop b) f t) (evC E (evW E O) rd b fr s):=by
 show ge ((evW E O).loop rd b) _=_
 congr 1
 funext f t
 exact eW E O rd b f t
def zza(E:Env)(S:Self)(l:Nat)(asg body:ICode)(s:U):Option zB->zc
 |some A=>uR E S l body (evC E S (some l) asg {A:=A,df:=[]} s)
 |none=>none
def zxV(E:Env)(S:Self)(l:Nat)(args:zA)(s:U):zm->zc
 |some (.loop _ _ A ps asg body _)=>zza E S l asg body s (ZX A ps args)
 |_=>none
def am(E:Env)(S:Self)(l:Nat)(args:zA)(s:U):gu E S l args s=zxV E S l args s (s.get l):=by
 unfold gu zxV;cases s.get l with
 |none=>rfl
 |some o=>cases o<;>first|rfl|(simp only[zza];split<;>simp_all)
theorem ah(E:Env)(S:Self)(l:Nat)(args:zA)(s:U)(st:LSt)(pd:Option Res)(A:zB)(ps:zy)(asg body:ICode)(d:Nat):zxV E S l args s (some (.loop st pd A ps asg body d))=zza E S l asg body s (ZX A ps args):=rfl
theorem ai(E:Env)(S:Self)(l:Nat)(asg body:ICode)(s:U)(A:zB):zza E S l asg body s (some A)=uR E S l body (evC E S (some l) asg {A:=A,df:=[]} s):=rfl
def rbK(E:Env)(S:Self)(l:Nat)(bd:ICode)(fr:Fr)(s:U):zm->zc
 |some (.loop .ready pd A ps asg body d)=>kl l (evC E S (some l) bd fr (s.put l (.loop .busy pd A ps asg body d)))
 |_=>none
def WD(E:Env)(S:Self)(l:Nat)(bd:ICode)(fr:Fr)(s:U):uR E S l bd (some (.norm,fr,s))=rbK E S l bd fr s (s.get l):=by
 unfold uR rbK;simp only;cases s.get l with
 |none=>rfl
 |some o=>cases o<;>first|rfl|(rename_i st _ _ _ _ _ _;cases st<;>rfl)
theorem ae(E:Env)(S:Self)(l:Nat)(bd:ICode)(fr:Fr)(s:U)(pd:Option Res)(A:zB)(ps:zy)(asg body:ICode)(d:Nat):rbK E S l bd fr s (some (.loop .ready pd A ps asg body d))=kl l (evC E S (some l) bd fr (s.put l (.loop .busy pd A ps asg body d))):=rfl
def reK(l:Nat)(r:Res)(s:U):zm->zc
 |some (.loop _ _ A ps asg body d)=>match r with
  |.norm=>some (.bool true,s.put l (.loop .ready none A ps asg body d))
  |r=>some (.bool false,s.put l (.loop .done (some r) A ps asg body d))
 |_=>none
def QP(l:Nat)(r:Res)(fr:Fr)(s:U):kl l (some (r,fr,s))=reK l r s (s.get l):=by
 unfold kl reK;simp only;cases s.get l with
 |none=>rfl
 |some o=>cases o<;>first|rfl|(cases r<;>rfl)
theorem iH(l:Nat)(s:U)(st:LSt)(pd:Option Res)(A:zB)(ps:zy)(asg body:ICode)(d:Nat):reK l .norm s (some (.loop st pd A ps asg body d))=some (.bool true,s.put l (.loop .ready none A ps asg body d)):=rfl
theorem zy2(E:Env)(S:Self)(rd:zD)(g:Opd)(ps:zy)(asg body:ICode)(fr:Fr)(s:U):evC E S rd (.rf g ps asg body) fr s=rfR S rd (g.ev fr.A) ps asg body fr s:=rfl
theorem zxZ(S:Self)(f:Nat)(a c:zA)(ps:zy)(asg body:ICode)(A:zB)(df:zy)(s:U):rfR S none (some (.fn f a c)) ps asg body ⟨A,df⟩ s=ZV ⟨A,df⟩ (s.next+1) s.next (S.call f (a++ .yld (s.next+1)::c) ((s.alloc .dfd).alloc (.loop .ready none A ps asg body s.next))):=rfl
def feK(fr:Fr)(l d:Nat)(s:U):zm->zj
 |some (.loop st pend A ps asg body dd)=>match st with
  |.busy=>none
  |_=>some (iC pend,{fr with df:=d::fr.df},s.put l (.loop .exhausted pend A ps asg body dd))
 |_=>none
theorem rR(fr:Fr)(l d:Nat)(v:Z)(s:U):ZV fr l d (some (v,s))=feK fr l d s (s.get l):=by
 unfold ZV feK;simp only;cases s.get l with
 |none=>rfl
 |some o=>cases o<;>rfl
theorem CK(tm0:zB)(df:zy)(l d:Nat)(s:U)(pend:Option Res)(A:zB)(ps:zy)(asg body:ICode)(dd:Nat):feK ⟨tm0,df⟩ l d s (some (.loop .ready pend A ps asg body dd))=some (iC pend,⟨tm0,d::df⟩,s.put l (.loop .exhausted pend A ps asg body dd)):=rfl
theorem rq:iC none=.norm:=rfl
def wo{α:Type}(f:α->zA):List α->zA
 |[]=>[]
 |x::r=>f x++wo f r
section
variable {α:Type}{f:α->zA}{k:Nat}
def qu:∀l m:List α,wo f (l++m)=wo f l++wo f m
 |[],_=>rfl
 |x::r,m=>by simp only[yu,wo,qu r m,List.append_assoc]
def vt(x:α):wo f [x]=f x:=by simp only[wo,List.append_nil]
def vI(h:∀x,(f x).length=k):∀l:List α,(wo f l).length=zR l*k
 |[]=>by simp[wo]
 |x::r=>by simp only[wo,y8,h,vI h r,yJ,we];omega
def jb(h:∀x,(f x).length=k):∀(i:Nat) (l:List α),qv (i*k) (wo f l)=wo f (l.drop i)
 |0,l=>by rw[qH];simp
 |i+1,[]=>by rw[qH];simp[wo]
 |i+1,x::r=>by
  rw[qH];simp only[wo,wc];rw[<-jb h i r,qH,we,Nat.add_comm,<-List.drop_drop]
  congr 1
  rw[<-h x];simp
def GO(h:∀x,(f x).length=k):∀(i:Nat) (l:List α),tkN (i*k) (wo f l)=wo f (l.take i)
 |0,l=>by rw[pD];simp[wo]
 |i+1,[]=>by rw[pD];simp[wo]
 |i+1,x::r=>by
  rw[pD];simp only[wo,x0];rw[<-GO h i r,pD,we,List.take_append];have e1:(f x).take (i*k+k)=f x:=yq (by rw[h];omega)
  rw[e1,h,Nat.add_sub_cancel]
def uT{a b:zA}(h:List.length a=n):qf n (a++b)=some a:=by
 subst h
 induction a with
 |nil=>rfl
 |cons v r ih=>simp only[yu,yJ,qf,ih]
def wX(h:∀x,wL (f x)=true):∀l:List α,wL (wo f l)=true
 |[]=>rfl
 |x::r=>by simp only[wo,ux,h,wX h r,xZ]
def ua(h:∀x,wkL (f x)=f x):∀l:List α,wkL (wo f l)=wo f l
 |[]=>rfl
 | x::r=>by
  have ap:∀a b:zA,wkL (a++b)=wkL a++wkL b:=λa b=>by
   induction a with
   |nil=>rfl
   |cons v a ih=>simp only[yu,wkL,ih]
  simp only[wo,ap,h,ua h r]
def pU(hk:∀x,(f x).length=k)(h0:0<k)(h:∀x y,f x=f y->x=y):∀{l m:List α},wo f l=wo f m->l=m
 |[],[],_=>rfl
 |[],y::m,e=>by
  have:=congrArg zR e;simp only[wo,xY,y8,hk]at this;omega
 |x::l,[],e=>by
  have:=congrArg zR e;simp only[wo,xY,y8,hk]at this;omega
 |x::l,y::m,e=>by
  simp only[wo]at e;obtain⟨h1,h2⟩:=List.append_inj e (by rw[hk,hk])
  rw[h x y h1,pU hk h0 h h2]
end
inductive DT where
 |mk (k n:Int) (t:zy) (ks:List DT) (p:Int)
mutual
def qK:DT->zA
 |.mk k n t ks p=>[.int .i64 k,.int .i64 n,.str t,.lst (zR ks) false (wQ ks),.int .i64 p]
def wQ:List DT->zA
 |[]=>[]
 |d::r=>qK d++wQ r
end
def Z3(d:DT):Z:=.agg (qK d)
def wT(k n:Int)(t:zy)(ks:List DT)(p:Int):qK (.mk k n t ks p)=[.int .i64 k,.int .i64 n,.str t,.lst (zR ks) false (wQ ks),.int .i64 p]:=by simp only[qK]
def kI:wQ []=[]:=by simp only[wQ]
def jW(d:DT)(r:List DT):wQ (d::r)=qK d++wQ r:=by simp only[wQ]
def vd:∀l:List DT,wQ l=wo qK l
 |[]=>by simp only[wQ,wo]
 |d::r=>by simp only[wQ,wo,vd r]
def vD:∀d:DT,(qK d).length=5
 |.mk _ _ _ _ _=>by simp only[qK,yJ,xY]
def jq:∀d:DT,wL (qK d)=true
 |.mk _ _ _ _ _=>by simp only[qK,wR,wU,vh,pY,qE,xZ]
def vl(l:List DT):wL (wQ l)=true:=by rw[vd];exact wX jq l
mutual
theorem LT:∀d:DT,wkL (qK d)=qK d
 |.mk k n t ks p=>by simp only[qK,wkL,wkV,kp ks]
theorem kp:∀l:List DT,wkL (wQ l)=wQ l
 |[]=>by simp only[wQ,wkL]
 | d::r=>by
  have ap:∀a b:zA,wkL (a++b)=wkL a++wkL b:=λa b=>by
   induction a with
   |nil=>rfl
   |cons v a ih=>simp only[yu,wkL,ih]
  simp only[wQ,ap,LT d,kp r]
end
mutual
theorem Gj:∀{d e:DT},qK d=qK e->d=e
 |.mk k n t ks p,.mk k' n' t' ks' p',h=>by
  simp only[qK,vc,Z.int.injEq,Z.str.injEq,Z.lst.injEq,true_and,and_true]at h;obtain⟨rfl,rfl,rfl,⟨_,h1⟩,rfl⟩:=h;rw[Zc h1]
theorem Zc:∀{l m:List DT},wQ l=wQ m->l=m
 |[],[],_=>rfl
 |[],d::m,h=>by
  have:=congrArg zR h;simp only[wQ,xY,y8,vD]at this;omega
 |d::l,[],h=>by
  have:=congrArg zR h;simp only[wQ,xY,y8,vD]at this;omega
 |d::l,e::m,h=>by
  simp only[wQ]at h;obtain⟨h1,h2⟩:=List.append_inj h (by rw[vD,vD])
  rw[Gj h1,Zc h2]
end
def XY(i:Nat)(l:List DT):qv (i*5) (wQ l)=wQ (l.drop i):=by rw[vd,vd];exact jb vD i l
def QH(l m:List DT):wQ (l++m)=wQ l++wQ m:=by simp only[vd];exact qu l m
def F0{d e:DT}(h:Z3 d=Z3 e):d=e:=Gj (by simpa [Z3]using h)
structure Tok where
 kind:Nat
 pos:Nat
 d:DT
attribute [go_sem] UC zxK wz Cl oe zvz Rt zwr QF qk WQ lf EP mZ Tc IE zzy zzx zz1 zz0 zz2 To Tn ON iS iR KH iQ cP TB D8 sb mY NV Sq Ie Ys Dt F6 zzw zzv Mo Mn bV Lk ny ej cu io cr O5 Ex O0 Eo Et O7 sx OZ O1 Ey mq Er mp Ep sw O2 Eu O6 O3 O4 Ew Es En su Zw OQ zzA OT zzz OS HP mh HO S6 CE om Im oo In SW Ix Ta IB Il Iu Tb SP Iq Ip Iz CD IA IC ID SU SV Iv Iw SX SZ SY S9 S7 S8 SR ST Iy Io Ik CA CC SQ o9 sq sn Ek sQ sP dH m8 JA Ic Sm Ib So GF Cr F9 Sn MK DA Dz dP bc zzd DQ ri rj rk nz MA Dh N0 zxY zze zzf Ls zw0 zwZ Sr If Cy Cz se DR zvN zvO Tv Tw zvH zvI zvJ zvQ zvv zvw zvx RF RG RH Tz Mx Tx Ty Cs Sp zzX zzW zzV zzQ zwi Ro TJ Dq BG BH nw BI FA BK FB BJ nx Rm EJ Rl zzU zzY Re Rf E6 Fc Fa E9 E8 E7 Sk bY MG zvA o7 si E5 Fd Fb Vz zwn zwo zz5 zzO Ff Fg oU zzP Bg Rq zzR zwj NF zwk Rh m9 Rj Of BR oT zzS zwm Rk zzT DE zzu TV zz9 zwy zwx EA IZ I1 CV I0 CU bH Tf Tg fk IY ni dK ZG Ab ra ED vC qf qv ki Uq CL ot ou w8 vF hid Xi wy wK wa Bool.not_false Bool.true_and Bool.false_and Bool.and_true Bool.and_false Bool.true_or x9 Bool.or_true Bool.or_false beq_true Bool.not_not beq_self_eq_true decide_true decide_false Nat.add_zero Nat.zero_add x8 Nat.one_mul Nat.zero_mul Nat.mul_zero Nat.sub_zero Nat.succ_eq_add_one Nat.add_eq Nat.mul_eq Nat.le_refl Nat.lt_irrefl Nat.zero_le gt_iff_lt ge_iff_le ne_eq not_false_eq_true not_true_eq_false eq_self List.nil_append yu yJ xY J4 and_self and_true true_and wB gcF CZ CY gcB gcK NY zzc zzb zxW Tu IP Lq rho PA Jf jA vh pY Zr qE Ut uF uQ wU wR CS List.append_nil ux zxx NW DO NZ DP NX IU IW CR IV IX wkV wkL Qu Eb cR LQ zyS Yg aW TK Sh Sg Sf oV vc x0 List.take_zero false_and and_false Id YY am ah ai WD ae QP iH zy2 zxZ rR CK rq
def sxP:=xV (xV (xV (xV (xV @jA @vh) (xV @pY @rJ)) (xV (xV @rz @DD) (xV @Zr @rI))) (xV (xV (xV @rC @rE) (xV @qE @NH)) (xV (xV @DC @Ut) (xV @uF @uQ)))) (xV (xV (xV (xV @wU @wR) (xV @Wy @ux)) (xV (xV @ko @lO) (xV @YB @Oz))) (xV (xV (xV @Qp @WH) (xV @zzn @D7)) (xV (xV @Oy @Ox) (xV @wz @Mg))))
def dis{p:Prop}(h:p:=by first|assumption|omega|rfl|(simp only[sxP,Bool.and_self,List.length_cons,List.length_nil,List.length_take,List.length_drop, ↓reduceIte,Nat.reduceEqDiff];first|done|omega)|exact Nat.le_of_ble_eq_true rfl|((repeat (first|assumption|apply Byt.drop|apply Byt.take));done)|fail):p:=h
attribute [go_sem] Ko Kg Kd Ki
open Go.RowKit (Below)
section
variable {I φ1:Phi}{ρ:Nat->zD}
end
def zwG(ids:zy)(n k:Nat)(i:Nat):zD:=if i<(zR ids)then ids[i]? else if i<k then some (n+(i-zR ids))else none
structure Emb(s s':U)(ids:zy)(os:zl)(M:Nat):Prop where
 ext:Ext s s'
 len:zR ids<=zR os
 next:s'.next=s.next+(zR os-zR ids)
 old:∀Y,Y<s.next->(∀i,ids[i]? =some Y->M.testBit i=false)->∀o,s'.get Y=some o↔s.get Y=some o
 own:∀i Y,ids[i]? =some Y->M.testBit i=true->∀o1,s'.get Y=some o1->∃o,lc os i=some o/\Lq (zwG ids s.next (zR os)) o=some o1
 new:∀j,zR ids<=j->j<zR os->∀o1,s'.get (s.next+(j-zR ids))=some o1->∃o,lc os j=some o/\Lq (zwG ids s.next (zR os)) o=some o1
 bit:∀i Y,ids[i]? =some Y->M.testBit i=true->s'.wm.testBit Y=true
def zvR(tw Y j n:Nat)(disp:Bool):AObj:=.row tw [.ptr Y 0,.sl j 0 n (.opn 1),.bool disp] false false
def zvC(tb:Nat)(out:zy):AObj:=.row tb (qo out) true false
structure IsW{α:Type}(tw tb:Nat)(enc:α->zA)(Pre:α->zy->Bool->Prop)(args:zA)(s:U)(Y j:Nat)(x:α)(out:zy)(disp:Bool):Prop where
 a:∃r,args=.ptr Y 0::r/\enc x=wkL r
 ne:Y≠j
 hi:Y<s.next
 hj:j<s.next
 w:s.get Y=some (zvR tw Y j (zR out) disp)
 b:s.get j=some (zvC tb out)
 p:Pre x out disp
open Classical in
section
variable {α:Type}{tw tb:Nat}{enc:α->zA}{Pre:α->zy->Bool->Prop}{F:α->Bool->zy}
end
def gr_lst{I:Phi}{Y e:Nat}{cs:zA}{x:Value}(h:VR I (.gr Y e n cs) x):VR I (.lst n false cs) x:=by
 simp only[VR]at h|-;obtain⟨h1,h2,h3,h4,B,ys,h5,h6,h7,h8,h9⟩:=h;exact⟨h1,.inr ⟨B.b,B.o,_,ys,h6,by simp,h7,h8,h9⟩⟩
def Jj(W:World):Phi:=⟨λ_=>none,λb o=>W.cell? ⟨b,o,none⟩⟩
def sM{w:World}{a:Addr}{v:Value}(h:w.cell? a=some v):∃c e fr,w.heap[a.block]? =some (.cells c e fr)/\a.spot=none/\c[a.off]? =some v:=by
 unfold World.cell? at h;cases hb:w.heap[a.block]? with
 |none=>rw[hb]at h;cases h
 |some o=>
  rw[hb]at h;cases o<;>simp only at h<;>first|cases h|skip
  rename_i c e fr
  refine⟨c,e,fr,rfl,?_⟩;cases hs:a.spot with
  |none=>rw[hs]at h;simp at h;exact⟨rfl,h⟩
  |some s=>rw[hs]at h;simp at h
def dA{a:Addr}(h:a.spot=none)(n:Nat):a.add n=⟨a.block,a.off+n,none⟩:=by
 unfold Addr.add;by_cases hn:n=0
 .subst hn;simp;cases a;simp_all
 .rw[wx hn]
def DN(P:Program)(W:World)(b:Bool):Rel P W (Jj W) (H [] 0 b).get W:=by
 have hg:∀Y o,(H [] 0 b).get Y=some o->False:=λY o h=>by
  rw[zz6]at h;simp[lc]at h
 refine⟨Below.refl _ _,λY o h=>(hg Y o h).elim,λY B h=>(by cases h),λY o B h=>(hg Y o h).elim,λY id' o o' B B' h=>(hg Y o h).elim,λb o v h=>?_,λY o B h=>(hg Y o h).elim⟩
 obtain⟨c,e,fr,h1,_,h3⟩:=sM h;exact⟨c,e,fr,h1,h3⟩
section
variable {H0:Type}{enc:TypeId×Value->H0}{P:Program}{W:World}{sp:Nat->Bool}{held:Bool}{tD tI tS tK tE:TypeId}{fs:Array Field}{α:Type}{f:α->zA}{k:Nat}
structure DatumTy(P:Program)(tD tI tS tK:TypeId)(fs:Array Field):Prop where
 d:P.underlying tD=some (.struct fs)
 fs:fs.toList.map (λf=>(f.type,f.offset))=[(tI,0),(tI,1),(tS,2),(tK,3),(tI,4)]
 i:P.underlying tI=some (.int .i64)
 s:P.underlying tS=some .string
 k:P.underlying tK=some (.slice tD)
 cd:P.cellsOf tD=5
 ci:P.cellsOf tI=1
 cs:P.cellsOf tS=1
 ck:P.cellsOf tK=1
def zxk{α:Type}{l:List α}(h:List.length l=5):∃a b c d e,l=[a,b,c,d,e]:=by
 match l,h with
 |[a,b,c,d,e],_=>exact⟨a,b,c,d,e,rfl⟩
def Fm(s:ByteArray):Byt (jk s):=λx hx=>by
 simp only[jk,List.mem_map]at hx;obtain⟨u,_,rfl⟩:=hx;exact u.toNat_lt
end
def zvy(tw:Nat)(disp:Bool):AObj:=.row tw [.nilp,.nils,.bool disp] false false
structure IsW0{α:Type}(tw:Nat)(enc:α->zA)(Pre:α->Bool->Prop)(args:zA)(s:U)(Y:Nat)(x:α)(disp:Bool):Prop where
 a:∃r,args=.ptr Y 0::r/\enc x=wkL r
 hi:Y<s.next
 w:s.get Y=some (zvy tw disp)
 p:Pre x disp
open Classical in
section
variable {α:Type}{tw tb:Nat}{enc:α->zA}{Pre:α->Bool->Prop}{F:α->Bool->zy}
end
def gV(Y esz:Nat):Nat->zA->Z
 |0,_=>.nils
 |k+1,cs=>.gr Y esz (k+1) cs
structure IsG{α:Type}(t esz:Nat)(enc:α->zA)(Pre:α->Nat->zA->Prop)(args:zA)(s:U)(x:α)(k:Nat)(cs:zA)(Y:Nat):Prop where
 a:∃r,args=r++[gV Y esz k cs]/\enc x=wkL r
 z:k=0->Y=0/\cs=[]
 b:k≠0->Y<s.next/\s.get Y=some (.app t cs)
 p:Pre x k cs
open Classical in
section
variable {α:Type}{t esz:Nat}{enc:α->zA}{Pre:α->Nat->zA->Prop}{F:α->Nat×zA}
end
def V{p:Prop}(h:p:=by simp (disch:=first|exact dis|fail)only[go_sem,seval,-Int.reduceOfNat,-Int.reduceNegSucc, *]):p:=h
def sW{p:Prop}(h:p:=by simp (disch:=first|exact dis|fail)only[go_sem,seval,-Int.reduceOfNat,-Int.reduceNegSucc]):p:=h
section
variable {C:Cx}{E:Env}{O:Orc}{c:U}{M:Nat}{ia ib ic:ICode}{fr fr' fr1:Fr}{s s' s1 s2:U}{Q:Res->Fr->U->Prop}{res:Res}
def Is.z(k:Is C E O c M){Z9:Prop}(q:Z9)(h:evC E (evW E O) none ic fr s=some (res,fr',s'):=by (simp (disch:=first|exact dis|fail)only[go_sem,seval,-Int.reduceOfNat,-Int.reduceNegSucc, *];exact rfl))(h2:Q res fr' s'=Z9:=by (try simp only[qa,uU,Cut,if_true, ↓reduceIte]);first|done|exact rfl):Tri C ic fr s Q:=
 k.eval h (h2▸q)
def Is.q(k:Is C E O c M){Z9:Prop}(q:Z9)(h:evC E (evW E O) none ia fr s=some (res,fr',s'):=by (simp (disch:=first|exact dis|fail)only[go_sem,seval,-Int.reduceOfNat,-Int.reduceNegSucc, *];exact rfl))(h2:qa (λf t=>Tri C ib f t Q) Q res fr' s'=Z9:=by (try simp only[qa,uU,Cut,if_true, ↓reduceIte]);first|done|exact rfl):Tri C (.seq ia ib) fr s Q:=
 qN (k.eval h (h2▸q))
def Is.g(k:Is C E O c M)(keep live:zy)(h:gcF false c M keep live true fr s=some (fr1,s1):=by (simp (disch:=first|exact dis|fail)only[go_sem,seval,-Int.reduceOfNat,-Int.reduceNegSucc, *]<;>exact rfl)):Gc C fr s fr1 s1:=k.gcs h
end
def fin{c:U}{M:Nat}{res:List RV}{r:Res}{s2:U}{vs:zA}{v0:Z}(h0:r=.norm\/r=.ret:=by exact Or.inr rfl)(h1:vB s fr.df=some s2:=by (simp (disch:=first|exact dis|fail)only[go_sem,seval,-Int.reduceOfNat,-Int.reduceNegSucc, *]<;>exact rfl))(h2:lC E.globs fr.A s2 res=some vs:=by (simp (disch:=first|exact dis|fail)only[go_sem,seval,-Int.reduceOfNat,-Int.reduceNegSucc, *]<;>exact rfl))(h3:XP c.next (jP vs)=some v0:=by (simp (disch:=first|exact dis|fail)only[go_sem,seval,-Int.reduceOfNat,-Int.reduceNegSucc, *]<;>exact rfl))(h4:wkV v0=v:=by (simp (disch:=first|exact dis|fail)only[go_sem,seval,-Int.reduceOfNat,-Int.reduceNegSucc, *]<;>exact rfl))(h5:gcF true c M [] [] c.md {A:=tmL [],df:=[]} s2=some ({A:=tmL [],df:=[]},c'):=by (simp (disch:=first|exact dis|fail)only[go_sem,seval,-Int.reduceOfNat,-Int.reduceNegSucc, *]<;>exact rfl)):Fin E c M res v c' r fr s:=
 Z5 h0 h1 h2 h3 h4 h5
end Go.Proofs.YtbddpjboppmnfaaGreatDoor.Ev

/- A part of the evaluator and of its soundness: what it answers, the model's run answers. No conditions. -/
import Derived.Test.YtbdfljdgapkbcaaGreatDoorEvF
import Derived.Attr
import Derived.ChangeArms
import Derived.DataReads
set_option linter.unusedSimpArgs false
set_option linter.unusedVariables false
set_option linter.defProp false
noncomputable section
open List renaming length → zM, length_nil → xN, length_cons → yw, length_append → yO, cons_append → yd, take_succ_cons → xP, take_of_length_le → yb, drop_succ_cons → xT
open And renaming intro → xK
open Int renaming reduceNegSucc → xL, reduceOfNat → xM
open Nat renaming beq → zD, ble → zH, mul_one → xQ, blt → zG, mul → zF, succ_mul → zvY
open Bool renaming and_self → xO, false_or → xR, not_true → xS
open Classical renaming choose_spec → xG
namespace Go.Proofs.YtbdfljdgapkbcaaGreatDoor.Ev
variable {a n f b:Nat}{v:Z}{E:Env}{l:zr}{O:Orc}{s c':U}{e:Bool}
def osA:za->Trie AObj
 |[]=>.leaf
 |p::r=>match p.2 with
  |some o=>(osA r).set p.1 o
  |none=>(osA r).del p.1
def KL(l:za)(n m:Nat)(b:Bool)(hd:zg:=[])(on:ze:=none):U:={objs:=osA l,next:=n,wm:=m,hide:=hd,only:=on,md:=b}
def x3:za->Nat->zj
 |[],_=>none
 |p::r,i=>if i=p.1 then p.2 else x3 r i
def Kh:∀(l:za) (i:Nat),(osA l).get i=x3 l i
 |[],i=>rfl
 |(j,o)::r,i=>by
  cases o with
  |some o=>simp only[osA,x3];rw[Trie.get_set,Kh r i]
  |none=>simp only[osA,x3];rw[Trie.get_del,Kh r i]
theorem Mq(i:Nat):x3 [] i=none:=rfl
theorem x5(j:Nat)(o:zj)(r:za)(i:Nat):x3 ((j,o)::r) i=if i=j then o else x3 r i:=rfl
def Jz:Nat->zi->za
 |_,[]=>[]
 |n,o::r=>match o with
  |some o=>(n,some o)::Jz (n+1) r
  |none=>Jz (n+1) r
theorem BL(n:Nat):Jz n []=[]:=rfl
theorem nB(n:Nat)(o:AObj)(r:zi):Jz n (some o::r)=(n,some o)::Jz (n+1) r:=rfl
def fJ:∀(l:zi) (n:Nat),osT n l=osA (Jz n l)
 |[],n=>rfl
 |o::r,n=>by cases o<;>simp only[osT,Jz,osA]<;>rw[fJ r]
def zvE(os:zi)(m:Nat)(b:Bool):H os m b=KL (Jz 0 os) (zM os) m b:=by
 unfold H KL;rw[fJ]
theorem RC(l:za)(n m:Nat)(b:Bool)(hd:zg)(on:ze):(KL l n m b hd on).next=n:=rfl
theorem zwz(l:za)(n m:Nat)(b:Bool)(hd:zg)(on:ze):(KL l n m b hd on).wm=m:=rfl
theorem Q5(l:za)(n m:Nat)(b:Bool)(hd:zg)(on:ze):(KL l n m b hd on).md=b:=rfl
theorem wM(l:za)(n m:Nat)(b:Bool)(i:Nat):(KL l n m b).get i=x3 l i:=by
 rw[<-Kh];rfl
theorem Q4(l:za)(n m:Nat)(b:Bool)(hd:zg)(k:Nat)(ks:zr)(i:Nat):(KL l n m b hd (some (k,ks))).get i=bif hid hd i then none else bif Nat.ble k i then x3 l i else bif Xb i ks then x3 l i else none:=by
 rw[<-Kh];rfl
theorem kJ(l:za)(n m:Nat)(b:Bool)(hd:zg)(on:ze)(i:Nat)(o:AObj):(KL l n m b hd on).put i o=KL ((i,some o)::l) n (kr m i) b hd on:=rfl
theorem Ey(l:za)(n m:Nat)(b:Bool)(hd:zg)(on:ze)(i:Nat):(KL l n m b hd on).del i=KL ((i,none)::l) n (kr m i) b hd on:=rfl
theorem Ex(l:za)(n m:Nat)(b:Bool)(hd:zg)(on:ze)(o:AObj):(KL l n m b hd on).alloc o=KL ((n,some o)::l) (n+1) m b hd on:=rfl
theorem WG(m i:Nat):kr m i=m|||1<<<i:=rfl
def sg(x:Option (zu×U))(k:zu->U->Option (zu×U)):Option (zu×U):=
 match x with
 |some p=>k p.1 p.2
 |none=>none
theorem mh(A:zu)(s:U)(k:zu->U->Option (zu×U)):sg (some (A,s)) k=k A s:=rfl
theorem Tg(G:Env)(S:Self)(A:zu)(s:U):evS G S [] A s=some (A,s):=rfl
theorem Ik(G:Env)(S:Self)(o:SOper)(r:List SOper)(A:zu)(s:U):evS G S (o::r) A s=sg (pU G S o A s) (evS G S r):=rfl
theorem zzD(G:Env)(S:Self)(d:zw)(op:IOp)(A:zu)(s:U):pU G S ⟨d,op,none⟩ A s=stS A d (qG G S op A s):=rfl
def Mx(G:Env)(S:Self)(d:zw)(op:IOp)(A:zu)(s:U):Option Bool->Option (zu×U)
 |some true=>stS A d (qG G S op A s)
 |some false=>some (vC A d qX,s)
 |none=>none
def P7(w:Bool):zv->Option Bool
 |some (.bool b)=>some (b==w)
 |some _=>some false
 |none=>none
def zzC(G:Env)(S:Self)(d:zw)(op:IOp)(i:Nat)(w:Bool)(A:zu)(s:U):pU G S ⟨d,op,some (i,w)⟩ A s=Mx G S d op A s (P7 w (A.get i)):=by
 unfold pU lS;simp only;generalize A.get i=x;cases x with
 |none=>rfl
 |some v=>cases v<;>first|rfl|(rename_i b;cases b<;>cases w<;>rfl)
theorem zz3(b:Bool):P7 true (some (.bool b))=some b:=by cases b<;>rfl
theorem zz2(b:Bool):P7 false (some (.bool b))=some (!b):=by cases b<;>rfl
theorem zz4(w:Bool)(l:zt):P7 w (some (.tup l))=some false:=rfl
theorem Eh:qX=.tup []:=rfl
theorem Tt(G:Env)(S:Self)(d:zw)(op:IOp)(A:zu)(s:U):Mx G S d op A s (some true)=stS A d (qG G S op A s):=rfl
theorem Ts(G:Env)(S:Self)(d:zw)(op:IOp)(A:zu)(s:U):Mx G S d op A s (some false)=some (vC A d qX,s):=rfl
theorem OZ(A:zu)(d:zw)(v:Z)(s:U):stS A d (some (v,s))=some (vC A d v,s):=rfl
theorem ig(l:List (Nat×Z))(i:Nat)(v:Z):vC (tmL l) (some i) v=tmL ((i,v)::l):=rfl
theorem ie(A:zu)(v:Z):vC A none v=A:=rfl
theorem Km(l:List (Nat×Z))(i:Nat)(v:Z):(tmL l).set i v=tmL ((i,v)::l):=rfl
theorem fZ(A:zu)(i:Nat):qk A i []=A:=rfl
theorem bN(l:List (Nat×Z))(i:Nat)(v:Z)(r:zt):qk (tmL l) i (v::r)=qk (tmL ((i,v)::l)) (i+1) r:=rfl
theorem TH:(Trie.leaf:zu)=tmL []:=rfl
theorem DL(A:zu):Zv A [] []=some A:=rfl
theorem rC(l:List (Nat×Z))(p:Nat)(ps:zr)(v:Z)(vs:zt):Zv (tmL l) (p::ps) (v::vs)=Zv (tmL ((p,v)::l)) ps vs:=rfl
def sb(x:Option (List LogE×zu×U))(k:List LogE->zu->U->Option (zu×U)):Option (zu×U):=
 match x with
 |some p=>k p.1 p.2.1 p.2.2
 |none=>none
theorem mg(log:List LogE)(A:zu)(s:U)(k:List LogE->zu->U->Option (zu×U)):sb (some (log,A,s)) k=k log A s:=rfl
theorem N5(E:Env)(S:Self)(ops:zo)(A:zu)(df:zr)(l:za)(n m:Nat)(b:Bool)(hd:zg):JJ E S ops ⟨A,df⟩ (KL l n m b hd none)=j5 df (evD E S ops 0 [] A (KL l n m b hd none)):=rfl
theorem Sr(G:Env)(S:Self)(i:Nat)(log:List LogE)(A:zu)(s:U):evD G S [] i log A s=some (A,s):=rfl
theorem FX(G:Env)(S:Self)(o:DOper)(r:zo)(i:Nat)(log:List LogE)(A:zu)(s:U):evD G S (o::r) i log A s=sb (Z9 G S o i log A s) (evD G S r (i+1)):=rfl
def opD(G:Env)(S:Self)(d:zw)(op:IOp)(deps i:Nat)(log:List LogE)(A:zu)(l:za)(n m:Nat)(b:Bool)(hd:zg)(on:ze)(tch:Option zr):Option (List LogE×zu×U):=
 endS2 d deps i log A n m hd on tch (qG G S op A (KL l n 0 b (vu deps log hd) (onOf n tch)))
 where
 onOf (n:Nat):Option zr->ze
  |some l=>some (n,l)
  |none=>none
 endS2 (d:zw) (deps i:Nat) (log:List LogE) (A:zu) (n m:Nat) (hd:zg) (on:ze) (tch:Option zr):zb->Option (List LogE×zu×U)
  |some p=>bif jW deps tch (qH p.2.wm n) log then some ({idx:=i,lo:=n,hi:=p.2.next,tch:=tch,wm:=qH p.2.wm n}::log,vC A d p.1,{p.2 with hide:=hd,only:=on,wm:=Nat.lor m p.2.wm})else none
  |none=>none
theorem zxQ(G:Env)(S:Self)(d:zw)(op:IOp)(deps i:Nat)(log:List LogE)(A:zu)(l:za)(n m:Nat)(b:Bool)(hd:zg)(on:ze)(tch:Option zr):
  opD G S d op deps i log A l n m b hd on tch=opD.endS2 d deps i log A n m hd on tch (qG G S op A (KL l n 0 b (vu deps log hd) (opD.onOf n tch))):=rfl
theorem UV(n:Nat)(l:zr):opD.onOf n (some l)=some (n,l):=rfl
theorem CV(n:Nat):opD.onOf n none=none:=rfl
theorem FN(d:zw)(deps i:Nat)(log:List LogE)(A:zu)(n m:Nat)(hd:zg)(on:ze)(tch:Option zr)(v:Z)(l':za)(n' m':Nat)(b':Bool)(hd':zg)(on':ze):
  opD.endS2 d deps i log A n m hd on tch (some (v,KL l' n' m' b' hd' on'))=bif jW deps tch (qH m' n) log then some (⟨i,n,n',tch,qH m' n⟩::log,vC A d v,KL l' n' (m|||m') b' hd on)else none:=rfl
theorem zzB(G:Env)(S:Self)(d:zw)(op:IOp)(deps i:Nat)(log:List LogE)(A:zu)(l:za)(n m:Nat)(b:Bool)(hd:zg)(on:ze):
  Z9 G S ⟨⟨d,op,none⟩,deps⟩ i log A (KL l n m b hd on)=opD G S d op deps i log A l n m b hd on (vn op A):=by
 simp only[Z9,lS,HW,ux,opD];cases vn op A<;>rfl
def aX(G:Env)(S:Self)(d:zw)(op:IOp)(deps i:Nat)(log:List LogE)(A:zu)(l:za)(n m:Nat)(b:Bool)(hd:zg)(on:ze):Option Bool->Option (List LogE×zu×U)
 |some true=>opD G S d op deps i log A l n m b hd on (vn op A)
 |some false=>some (log,vC A d qX,KL l n m b hd on)
 |none=>none
def zzA(G:Env)(S:Self)(d:zw)(op:IOp)(j:Nat)(w:Bool)(deps i:Nat)(log:List LogE)(A:zu)(l:za)(n m:Nat)(b:Bool)(hd:zg)(on:ze):
  Z9 G S ⟨⟨d,op,some (j,w)⟩,deps⟩ i log A (KL l n m b hd on)=aX G S d op deps i log A l n m b hd on (P7 w (A.get j)):=by
 unfold Z9 lS;simp only;generalize A.get j=x;cases x with
 |none=>rfl
 |some v=>
  cases v<;>first|rfl|skip
  rename_i c
  cases c<;>cases w<;>first|rfl|(simp only[aX,P7,HW,ux,opD];cases vn op A<;>rfl)
theorem Mz(G:Env)(S:Self)(d:zw)(op:IOp)(deps i:Nat)(log:List LogE)(A:zu)(l:za)(n m:Nat)(b:Bool)(hd:zg)(on:ze):aX G S d op deps i log A l n m b hd on (some true)=opD G S d op deps i log A l n m b hd on (vn op A):=rfl
theorem My(G:Env)(S:Self)(d:zw)(op:IOp)(deps i:Nat)(log:List LogE)(A:zu)(l:za)(n m:Nat)(b:Bool)(hd:zg)(on:ze):aX G S d op deps i log A l n m b hd on (some false)=some (log,vC A d qX,KL l n m b hd on):=rfl
theorem aY(deps:Nat)(h:zg):vu deps [] h=h:=rfl
theorem HZ(deps:Nat)(i lo hi:Nat)(tch:Option zr)(wm:Nat)(r:List LogE)(h:zg):vu deps (⟨i,lo,hi,tch,wm⟩::r) h=bif zD lo hi||deps.testBit i then vu deps r h else (lo,hi)::vu deps r h:=rfl
theorem mG(deps:Nat)(tch:Option zr)(wm:Nat):jW deps tch wm []=true:=rfl
theorem dz(deps:Nat)(tch:Option zr)(wm:Nat)(i lo hi:Nat)(tch':Option zr)(wm':Nat)(r:List LogE):
  jW deps tch wm (⟨i,lo,hi,tch',wm'⟩::r)=bif deps.testBit i then jW deps tch wm r else bif (zD wm 0||offMask wm tch')&&(zD wm' 0||offMask wm' tch)then jW deps tch wm r else false:=rfl
theorem bt(m:Nat):offMask m none=false:=rfl
theorem fE(m:Nat):offMask m (some [])=true:=rfl
theorem bq(m a:Nat)(l:zr):offMask m (some (a::l))=bif m.testBit a then false else offMask m (some l):=rfl
theorem oq(m n:Nat):qH m n=m%2^n:=rfl
theorem JP(m i:Nat):m.testBit i= !(zD (m/2^i%2) 0):=by
 rw[Nat.testBit_eq_decide_div_mod_eq];rcases Nat.mod_two_eq_zero_or_one (m/2^i)with h|h<;>rw[h]<;>rfl
theorem Rc(A:zu)(x:Opd):vn (.mv x) A=some []:=rfl
theorem Eb(A:zu)(x:Opd):vn (.nck x) A=some []:=rfl
theorem O9(A:zu)(n:Nat)(x:Opd):vn (.fa n x) A=some []:=rfl
theorem D5(A:zu)(op:BinOp)(x y:Opd):vn (.bin op x y) A=some []:=rfl
theorem D8(A:zu)(k:EqK)(b:Bool)(x y:Opd):vn (.eqk k b x y) A=some []:=rfl
theorem Rf(A:zu)(op:UnOp)(x:Opd):vn (.un op x) A=some []:=rfl
theorem rT(A:zu)(a b c:Opd):vn (.pick a b c) A=some []:=rfl
theorem Ra(A:zu)(e:Nat)(x y:Opd):vn (.ia e x y) A=some []:=rfl
theorem Ec(A:zu)(e:Nat)(x:Opd)(a b c:Option Opd):vn (.slv e x a b c) A=some []:=rfl
theorem iH(A:zu)(z:zt)(l:zp):vn (.build z l) A=some []:=rfl
theorem D6(A:zu)(e:Nat)(z:zt)(n:Nat)(l:zp):vn (.bsl e z n l) A=some []:=rfl
theorem iG(A:zu)(e:Nat)(z:zt):vn (.alloc e z) A=some []:=rfl
theorem Rd(A:zu)(l:List Opd):vn (.mx l) A=some []:=rfl
theorem Rb(A:zu)(x:Opd):vn (.ld x) A=J3 (x.ev A):=rfl
theorem D9(A:zu)(n:Nat)(x:Opd):vn (.ldn n x) A=J3 (x.ev A):=rfl
theorem Re(A:zu)(n:Nat)(x y:Opd):vn (.st n x y) A=J3 (x.ev A):=rfl
theorem Ea(A:zu)(k:LK)(x:Opd):vn (.len k x) A=J3 (x.ev A):=rfl
theorem D7(A:zu)(x:Opd):vn (.cbs x) A=J3 (x.ev A):=rfl
theorem D4(A:zu)(a b c:Nat)(x y:Opd):vn (.app a b c x y) A=AC (PZ (x.ev A)) (J3 (y.ev A)):=rfl
theorem rS(A:zu)(f:Nat)(l:List Opd):vn (.call f l) A=none:=rfl
theorem QX(a b:zr):AC (some a) (some b)=some (a++b):=rfl
theorem O3(n:Nat)(e:Bool)(l:zt):J3 (some (.lst n e l))=some []:=rfl
theorem zzF(l:zt):J3 (some (.vp l))=some []:=rfl
theorem O4(i o:Nat):J3 (some (.ptr i o))=some [i]:=rfl
theorem zzE(i o n:Nat)(c:Cap):J3 (some (.sl i o n c))=some [i]:=rfl
theorem HA:PZ (some (.nils))=some []:=rfl
theorem iB(i o n:Nat)(c:Cap):PZ (some (.sl i o n c))=some [i]:=rfl
theorem S8(G:Env)(S:Self)(A:zu)(s:U)(x:Opd):qG G S (.mv x) A s=v1 A s x some:=rfl
theorem Cb(G:Env)(S:Self)(A:zu)(s:U)(c:Opd)(a:Opd)(b:Opd):qG G S (.pick c a b) A s=l9 s (P6 (c.ev A) (a.ev A) (b.ev A)):=rfl
theorem nE(G:Env)(S:Self)(A:zu)(s:U)(e:Nat)(zs:zt):qG G S (.alloc e zs) A s=X5 s e zs:=rfl
theorem F5(G:Env)(S:Self)(A:zu)(s:U)(e:Nat)(x:Opd):qG G S (.box e x) A s=o1 A x (fB s e):=rfl
theorem nF(G:Env)(S:Self)(A:zu)(s:U)(zs:zt)(ps:zp):qG G S (.build zs ps) A s=l9 s (Ui (gw zs A ps)):=rfl
theorem F6(G:Env)(S:Self)(A:zu)(s:U)(e:Nat)(zs:zt)(len:Nat)(ps:zp):qG G S (.bsl e zs len ps) A s=VY s e len (gw zs A ps):=rfl
theorem SX(G:Env)(S:Self)(A:zu)(s:U)(x:Opd):qG G S (.ld x) A s=v1 A s x (vLd G.globs s):=rfl
theorem Id(G:Env)(S:Self)(A:zu)(s:U)(n:Nat)(x:Opd):qG G S (.ldn n x) A s=v1 A s x (Wm G.globs s n):=rfl
theorem Td(G:Env)(S:Self)(A:zu)(s:U)(n:Nat)(x:Opd)(v:Opd):qG G S (.st n x v) A s=o2 A x v (oSt s n):=rfl
theorem Ih(G:Env)(S:Self)(A:zu)(s:U)(x:Opd):qG G S (.nck x) A s=v1 A s x Rv:=rfl
theorem F4(G:Env)(S:Self)(A:zu)(s:U)(op:BinOp)(x:Opd)(y:Opd):qG G S (.bin op x y) A s=v2 A s x y (Ej op):=rfl
theorem Ia(G:Env)(S:Self)(A:zu)(s:U)(k:EqK)(neg:Bool)(x:Opd)(y:Opd):qG G S (.eqk k neg x y) A s=v2 A s x y (J5 k neg):=rfl
theorem Te(G:Env)(S:Self)(A:zu)(s:U)(op:UnOp)(x:Opd):qG G S (.un op x) A s=v1 A s x (vUn op):=rfl
theorem SQ(G:Env)(S:Self)(A:zu)(s:U)(k:IntKind)(x:Opd):qG G S (.ci k x) A s=v1 A s x (vCi k):=rfl
theorem F9(G:Env)(S:Self)(A:zu)(s:U)(e:Nat)(x:Opd):qG G S (.csb e x) A s=o1 A x (JW s e):=rfl
theorem F8(G:Env)(S:Self)(A:zu)(s:U)(x:Opd):qG G S (.cbs x) A s=v1 A s x (El s):=rfl
theorem If(G:Env)(S:Self)(A:zu)(s:U)(f:Nat)(fst:List Opd)(cap:List Opd):qG G S (.mfn f fst cap) A s=vLL A s fst cap (λus vs=>some (.fn f us vs)):=rfl
theorem Ca(G:Env)(S:Self)(A:zu)(s:U):qG G S (.mmap) A s=VZ G.um s:=rfl
theorem Ig(G:Env)(S:Self)(A:zu)(s:U)(e:Nat)(_x1:Nat)(bytes:Nat)(zs:zt)(l:Opd)(c:Opd):qG G S (.msl e _x1 bytes zs l c) A s=o2 A l c (H4 s e bytes zs):=rfl
theorem Ii(G:Env)(S:Self)(A:zu)(s:U)(x:Opd)(lo:Option Opd)(hi:Option Opd):qG G S (.sls x lo hi) A s=vs3 A s x lo hi iO:=rfl
theorem Ij(G:Env)(S:Self)(A:zu)(s:U)(esz:Nat)(x:Opd)(lo:Option Opd)(hi:Option Opd)(mx:Option Opd):qG G S (.slv esz x lo hi mx) A s=vs4 A s x lo hi mx (gG esz):=rfl
theorem SV(G:Env)(S:Self)(A:zu)(s:U)(off:Nat)(x:Opd):qG G S (.fa off x) A s=v1 A s x (vFa off):=rfl
theorem SW(G:Env)(S:Self)(A:zu)(s:U)(esz:Nat)(x:Opd)(i:Opd):qG G S (.ia esz x i) A s=v2 A s x i (vIa esz):=rfl
theorem Ib(G:Env)(S:Self)(A:zu)(s:U)(n:Nat)(esz:Nat)(x:Opd)(i:Opd):qG G S (.iaa n esz x i) A s=v2 A s x i (iM n esz):=rfl
theorem Ic(G:Env)(S:Self)(A:zu)(s:U)(x:Opd)(i:Opd):qG G S (.ixs x i) A s=v2 A s x i Rq:=rfl
theorem SY(G:Env)(S:Self)(A:zu)(s:U)(f:FK)(z:Z)(ok:Bool)(m:Opd)(k:Opd):qG G S (.lk f z ok m k) A s=v2 A s m k (vLk s f z ok):=rfl
theorem S7(G:Env)(S:Self)(A:zu)(s:U)(f:FK)(m:Opd)(k:Opd)(v:Opd):qG G S (.mu f m k v) A s=o3 A m k v (oMu s f):=rfl
theorem SZ(G:Env)(S:Self)(A:zu)(s:U)(f:FK)(m:Opd)(k:Opd):qG G S (.md f m k) A s=o2 A m k (oMd s f):=rfl
theorem Tc(G:Env)(S:Self)(A:zu)(s:U)(x:Opd):qG G S (.rs x) A s=o1 A x (oRs s):=rfl
theorem Ta(G:Env)(S:Self)(A:zu)(s:U)(it:Opd):qG G S (.ns it) A s=o1 A it (oNs s):=rfl
theorem Tb(G:Env)(S:Self)(A:zu)(s:U)(x:Opd):qG G S (.rm x) A s=o1 A x (oRm s):=rfl
theorem ST(G:Env)(S:Self)(A:zu)(s:U)(it:Opd):qG G S (.en it) A s=v1 A s it (vEn s):=rfl
theorem SU(G:Env)(S:Self)(A:zu)(s:U)(x:Opd)(i:Nat):qG G S (.ex x i) A s=v1 A s x (λv=>vEx v i):=rfl
theorem Ie(G:Env)(S:Self)(A:zu)(s:U)(k:LK)(x:Opd):qG G S (.len k x) A s=v1 A s x (Q0 s k):=rfl
theorem F7(G:Env)(S:Self)(A:zu)(s:U)(x:Opd):qG G S (.cap x) A s=v1 A s x Ek:=rfl
theorem F3(G:Env)(S:Self)(A:zu)(s:U)(e:Nat)(esz:Nat)(bytes:Nat)(x:Opd)(y:Opd):qG G S (.app e esz bytes x y) A s=o2 A x y (uE s e esz bytes):=rfl
theorem S6(G:Env)(S:Self)(A:zu)(s:U)(xs:List Opd):qG G S (.mn xs) A s=vL A s xs (vMn false):=rfl
theorem S9(G:Env)(S:Self)(A:zu)(s:U)(xs:List Opd):qG G S (.mx xs) A s=vL A s xs (vMn true):=rfl
theorem BY(G:Env)(S:Self)(A:zu)(s:U)(e:Nat)(esz:Nat)(bytes:Nat)(zs:zt)(x:Opd)(y:Opd):qG G S (.appz e esz bytes zs x y) A s=o2 A x y (Qa s e esz bytes zs):=rfl
theorem BZ(G:Env)(S:Self)(A:zu)(s:U)(f:Nat)(args:List Opd):qG G S (.call f args) A s=dX S f (evL A args) s:=rfl
theorem SR(G:Env)(S:Self)(A:zu)(s:U)(x:Opd)(args:List Opd):qG G S (.cv x args) A s=aL S (x.ev A) (evL A args) s:=rfl
theorem oo(df:zr)(A:zu)(s:U):j5 df (some (A,s))=some (.norm,⟨A,df⟩,s):=rfl
theorem rQ(k:Fr->U->zh)(fr:Fr)(s:U):ko k (some (.norm,fr,s))=k fr s:=rfl
theorem rP(k:Fr->U->zh)(i:Nat)(fr:Fr)(s:U):ko k (some (.exit i,fr,s))=some (.exit i,fr,s):=rfl
theorem D1(k:Fr->U->zh)(fr:Fr)(s:U):ko k (some (.ret,fr,s))=some (.ret,fr,s):=rfl
theorem sq(a b:Fr->U->zh)(fr:Fr)(s:U):Jx (some (.bool true)) a b fr s=a fr s:=rfl
theorem sn(a b:Fr->U->zh)(fr:Fr)(s:U):Jx (some (.bool false)) a b fr s=b fr s:=rfl
theorem cI(Y:Nat)(p:Fr×U):gS Y (some (.norm,p))=some (.norm,p):=rfl
theorem mi(Y:Nat)(p:Fr×U):gS Y (some (.ret,p))=some (.ret,p):=rfl
theorem Jf(Y i:Nat)(p:Fr×U):gS Y (some (.exit i,p))=if i=Y then some (.norm,p)else some (.exit i,p):=by
 show (bif zD i Y then some (Res.norm,p)else some (Res.exit i,p))=_;by_cases h:i=Y
 .rw[wc h,wH.2 h];rfl
 .rw[x0 h];cases hb:zD i Y with
  |true=>exact absurd (wH.1 hb) h
  |false=>rfl
theorem FV(G:Env)(S:Self)(rd:zw)(fr:Fr)(s:U):evC G S rd .skip fr s=some (.norm,fr,s):=rfl
theorem Sn(G:Env)(S:Self)(rd:zw)(ops:List SOper)(A:zu)(df:zr)(s:U):evC G S rd (.reg ops) ⟨A,df⟩ s=j5 df (evS G S ops A s):=rfl
theorem FT(G:Env)(S:Self)(rd:zw)(ops:zo)(fr:Fr)(s:U):evC G S rd (.regd ops) fr s=JJ G S ops fr s:=rfl
theorem FU(G:Env)(S:Self)(rd:zw)(a c:SOper)(n m:Nat)(r:zo)(A:zu)(df:zr)(s:U):evC G S rd (.regt ⟨a,n⟩ ⟨c,m⟩ r) ⟨A,df⟩ s=rtS G S (⟨a,n⟩::r) c df s (evS G S (a::c::kI r) A s):=rfl
theorem fX:kI []=[]:=rfl
theorem bG(o:SOper)(n:Nat)(r:zo):kI (⟨o,n⟩::r)=o::kI r:=rfl
theorem OA(G:Env)(S:Self)(l:zo)(d:zw)(op:IOp)(g:Option (Nat×Bool))(df:zr)(s:U)(A:zu)(t:U):rtS G S l ⟨d,op,g⟩ df s (some (A,t))=rtE G l d A df s (qG G S op A s):=rfl
theorem Oz(G:Env)(l:zo)(d:zw)(A:zu)(df:zr)(s:U)(v:Z)(t:U):rtE G l d A df s (some (v,t))=bif J1 A d (some (v,t))then bif gP G A s l then bif gP G A t l then some (.norm,{A:=A,df:=df},t)else none else none else none:=rfl
theorem DC(G:Env)(A:zu)(s:U):gP G A s []=true:=rfl
theorem rt(G:Env)(A:zu)(s:U)(d:zw)(op:IOp)(g:Option (Nat×Bool))(n:Nat)(r:zo):gP G A s (⟨⟨d,op,g⟩,n⟩::r)=bif J1 A d (qG G zzo op A s)then gP G A s r else false:=rfl
theorem DF(A:zu)(k:Nat)(v:Z)(s:U):J1 A (some k) (some (v,s))=Ho v (A.get k):=rfl
def DE(i o:Nat):Ho (.ptr i o) (some (.ptr i o))=true:=by simp[Ho,eqW]
def DD(k:IntKind)(n:Int):Ho (.int k n) (some (.int k n))=true:=by simp[Ho,eqW,uL,pl]
theorem Sp(G:Env)(S:Self)(rd:zw)(a b:ICode)(fr:Fr)(s:U):evC G S rd (.seq a b) fr s=ko (evC G S rd b) (evC G S rd a fr s):=rfl
theorem Gq(G:Env)(S:Self)(rd:zw)(c:Opd)(a b:ICode)(A:zu)(df:zr)(s:U):evC G S rd (.cond c a b) ⟨A,df⟩ s=Jx (c.ev A) (evC G S rd a) (evC G S rd b) ⟨A,df⟩ s:=rfl
theorem BS(G:Env)(S:Self)(rd:zw)(Y:Nat)(b:ICode)(fr:Fr)(s:U):evC G S rd (.block Y b) fr s=gS Y (evC G S rd b fr s):=rfl
theorem FR(G:Env)(S:Self)(rd:zw)(Y:Nat)(fr:Fr)(s:U):evC G S rd (.exit Y) fr s=some (.exit Y,fr,s):=rfl
theorem So(G:Env)(S:Self)(rd:zw)(fr:Fr)(s:U):evC G S rd .ret fr s=some (.ret,fr,s):=rfl
def Xv(E:Env)(O:Orc)(f:Nat)(a:zt)(s:U):(evW E O).call f a s=YT E O (evW E O) f a s:=by
 cases h:YT E O (evW E O) f a s with
 |some r=>exact Il h
 | none=>
  cases h2:(evW E O).call f a s with
  |none=>rfl
  | some r=>
   obtain⟨n,hn⟩:=uq (α:=Z×U) h2;cases n with
   |zero=>cases hn
   |succ n=>
    have h3:YT E O (evT E O n) f a s=some r:=hn;have h4:LeS (evT E O n) (evW E O):=⟨λf a s r h=>kH (λn r h=>(kp E O n).call _ _ _ _ h) h,λrd b fr s r h=>kH (λn r h=>(kp E O n).loop _ _ _ _ _ h) h,λl a s r h=>kH (λn r h=>(kp E O n).round _ _ _ _ h) h⟩;rw[(K8 E O f a s).up _ _ h4 r h3]at h;cases h
def qc{g:zt->U->zb}(h:O f=some g)(E:Env)(a:zt)(s:U):(evW E O).call f a s=g a s:=by
 rw[Xv];unfold YT;rw[h]
theorem jn{E:Env}{O:Orc}{f:Nat}{F:IFunc}(h:O f=none)(hF:E.funs.get f=some F)(hp:E.pure f=true)(a:zt)(l:za)(n m:Nat)(b:Bool)(hd:zg)(on:ze)(ha:zM a<=F.ntmps):
  (evW E O).call f a (KL l n m b hd on)=Xd (KL l n m b hd on) (qv E.globs F.res (evC E (evW E O) none F.body ⟨qk (tmL []) 0 a,[]⟩ (KL l n 0 true hd on))):=by
 rw[Xv];unfold YT kY;rw[h,hF];simp only[qw,wB.2 ha,x6,hp];rfl
theorem cP{f:Nat}{F:IFunc}(h:O f=none)(hF:E.funs.get f=some F)(hp:E.pure f=false)(a:zt)(l:za)(n m:Nat)(b:Bool)(hd:zg)(on:ze)(ha:zM a<=F.ntmps):
  (evW E O).call f a (KL l n m b hd on)=mdR b (qv E.globs F.res (evC E (evW E O) none F.body ⟨qk (tmL []) 0 a,[]⟩ (KL l n m false hd on))):=by
 rw[Xv];unfold YT kY;rw[h,hF];simp only[qw,wB.2 ha,x6,hp,wh];rfl
theorem MV(b:Bool)(v:Z)(l:za)(n m:Nat)(b':Bool)(hd:zg)(on:ze):mdR b (some (v,KL l n m b' hd on))=some (v,KL l n m b hd on):=rfl
def zvb(s t:U)(v:Z):zv->zb
 |some v=>some (v,s)
 |none=>some (agW v,{t with wm:=Nat.lor s.wm t.wm,md:=s.md})
theorem Db(s t:U)(v:Z):Xd s (some (v,t))=zvb s t v (bif zD (qH t.wm s.next) 0 then XG s.next v else none):=rfl
theorem Da(s t:U)(v u:Z):zvb s t v (some u)=some (u,s):=rfl
theorem cO(G:List zt)(res:List RV)(A:zu)(s:U):qv G res (some (.ret,⟨A,[]⟩,s))=QT G A s res:=rfl
theorem aq(G:List zt)(res:List RV)(A:zu)(s:U):qv G res (some (.norm,⟨A,[]⟩,s))=QT G A s res:=rfl
def zx2(s:U):Option zt->zb
 |some vs=>some (jc vs,s)
 |none=>none
theorem zzg(G:List zt)(A:zu)(s:U)(res:List RV):QT G A s res=zx2 s (gC G A s res):=by
 unfold QT zx2;cases gC G A s res<;>rfl
theorem Dr(s:U)(vs:zt):zx2 s (some vs)=some (jc vs,s):=rfl
theorem ot:jc []=.tup []:=rfl
theorem ou(v:Z):jc [v]=v:=rfl
theorem oz(v w:Z)(r:zt):jc (v::w::r)=.tup (v::w::r):=rfl
def YU(v:zv)(l:Option zt):Option zt:=
 match v,l with
 |some v,some vs=>some (v::vs)
 |_,_=>none
theorem mI(v:Z)(vs:zt):YU (some v) (some vs)=some (v::vs):=rfl
def ldK(G:List zt)(s:U):zv->zv
 |some p=>vLd G s p
 |none=>none
def zxC(G:List zt)(s:U)(n:Nat):zv->zv
 |some p=>Wm G s n p
 |none=>none
theorem MN(G:List zt)(s:U)(p:Z):ldK G s (some p)=vLd G s p:=rfl
theorem CG(G:List zt)(s:U)(n:Nat)(p:Z):zxC G s n (some p)=Wm G s n p:=rfl
theorem Oa(G:List zt)(A:zu)(s:U):gC G A s []=some []:=rfl
theorem zx3(G:List zt)(A:zu)(s:U)(i:Nat)(r:List RV):gC G A s (.t i::r)=YU (A.get i) (gC G A s r):=by
 simp only[gC,YU];cases A.get i<;>cases gC G A s r<;>rfl
theorem zzh(G:List zt)(A:zu)(s:U)(a:Nat)(r:List RV):gC G A s (.c1 a::r)=YU (ldK G s (A.get a)) (gC G A s r):=by
 simp only[gC,YU];cases A.get a with
 |none=>cases gC G A s r<;>rfl
 |some p=>
  simp only[ldK,vLd];cases uT G s p 1 with
  |none=>cases gC G A s r<;>rfl
  |some l=>cases l<;>cases gC G A s r<;>rfl
theorem zzi(G:List zt)(A:zu)(s:U)(a n:Nat)(r:List RV):gC G A s (.cn a n::r)=YU (zxC G s n (A.get a)) (gC G A s r):=by
 simp only[gC,YU];cases A.get a with
 |none=>cases gC G A s r<;>rfl
 |some p=>
  simp only[zxC,Wm];cases uT G s p n with
  |none=>cases gC G A s r<;>rfl
  |some l=>cases gC G A s r<;>rfl
theorem H7(s:U):qT s []=some s:=rfl
theorem zw5(A:zu)(i:Nat):(Opd.t i).ev A=A.get i:=rfl
theorem zw4(A:zu)(v:Z):(Opd.c v).ev A=some v:=rfl
theorem Ss(A:zu):evL A []=some []:=rfl
theorem FY(A:zu)(x:Opd)(r:List Opd):evL A (x::r)=YU (x.ev A) (evL A r):=rfl
theorem BW(A:zu):evO A none=some none:=rfl
def OY:zv->Option zv
 |some v=>some (some v)
 |none=>none
theorem BX(A:zu)(x:Opd):evO A (some x)=OY (x.ev A):=by unfold evO OY;rfl
theorem rE(v:Z):OY (some v)=some (some v):=rfl
theorem Ds(s:U)(v:Z):l9 s (some v)=some (v,s):=rfl
def b1(f:Z->zb):zv->zb
 |some v=>f v
 |none=>none
def b2(f:Z->Z->zb):zv->zv->zb
 |some v,some w=>f v w
 |_,_=>none
def b3(f:Z->Z->Z->zb):zv->zv->zv->zb
 |some v,some w,some u=>f v w u
 |_,_,_=>none
def k1(s:U)(f:Z->zv):zv->zb
 |some v=>l9 s (f v)
 |none=>none
def k2(s:U)(f:Z->Z->zv):zv->zv->zb
 |some v,some w=>l9 s (f v w)
 |_,_=>none
def kL(s:U)(f:zt->zv):Option zt->zb
 |some v=>l9 s (f v)
 |none=>none
def kLL(s:U)(f:zt->zt->zv):Option zt->Option zt->zb
 |some v,some w=>l9 s (f v w)
 |_,_=>none
def k3(s:U)(f:Z->zv->zv->zv):zv->Option zv->Option zv->zb
 |some v,some l,some h=>l9 s (f v l h)
 |_,_,_=>none
def k4(A:zu)(s:U)(x:Opd)(lo hi:Option Opd)(f:Z->zv->zv->zv->zv):Option zv->zb
 |some m=>vs3 A s x lo hi (λv l h=>f v l h m)
 |none=>none
theorem zvT(A:zu)(s:U)(x:Opd)(f:Z->zv):v1 A s x f=k1 s f (x.ev A):=by unfold v1 k1;cases x.ev A<;>rfl
theorem zvU(A:zu)(s:U)(x y:Opd)(f:Z->Z->zv):v2 A s x y f=k2 s f (x.ev A) (y.ev A):=by unfold v2 k2;cases x.ev A<;>cases y.ev A<;>rfl
theorem Tz(s:U)(f:Z->zv)(v:Z):k1 s f (some v)=l9 s (f v):=rfl
theorem TA(s:U)(f:Z->Z->zv)(v w:Z):k2 s f (some v) (some w)=l9 s (f v w):=rfl
theorem zvL(A:zu)(x:Opd)(f:Z->zb):o1 A x f=b1 f (x.ev A):=by unfold o1 b1;cases x.ev A<;>rfl
theorem zvM(A:zu)(x y:Opd)(f:Z->Z->zb):o2 A x y f=b2 f (x.ev A) (y.ev A):=by unfold o2 b2;cases x.ev A<;>cases y.ev A<;>rfl
theorem zvN(A:zu)(x y z:Opd)(f:Z->Z->Z->zb):o3 A x y z f=b3 f (x.ev A) (y.ev A) (z.ev A):=by unfold o3 b3;cases x.ev A<;>cases y.ev A<;>cases z.ev A<;>rfl
theorem zvV(A:zu)(s:U)(l:List Opd)(f:zt->zv):vL A s l f=kL s f (evL A l):=by unfold vL kL;cases evL A l<;>rfl
theorem zvz(A:zu)(s:U)(l m:List Opd)(f:zt->zt->zv):vLL A s l m f=kLL s f (evL A l) (evL A m):=by unfold vLL kLL;cases evL A l<;>cases evL A m<;>rfl
theorem zvB(A:zu)(s:U)(x:Opd)(lo hi:Option Opd)(f:Z->zv->zv->zv):vs3 A s x lo hi f=k3 s f (x.ev A) (evO A lo) (evO A hi):=by unfold vs3 k3;cases x.ev A<;>cases evO A lo<;>cases evO A hi<;>rfl
theorem zvC(A:zu)(s:U)(x:Opd)(lo hi mx:Option Opd)(f:Z->zv->zv->zv->zv):vs4 A s x lo hi mx f=k4 A s x lo hi f (evO A mx):=by unfold vs4 k4;cases evO A mx<;>rfl
theorem RL(f:Z->zb)(v:Z):b1 f (some v)=f v:=rfl
theorem RM(f:Z->Z->zb)(v w:Z):b2 f (some v) (some w)=f v w:=rfl
theorem RN(f:Z->Z->Z->zb)(v w u:Z):b3 f (some v) (some w) (some u)=f v w u:=rfl
theorem TE(s:U)(f:zt->zv)(l:zt):kL s f (some l)=l9 s (f l):=rfl
theorem MI(s:U)(f:zt->zt->zv)(l m:zt):kLL s f (some l) (some m)=l9 s (f l m):=rfl
theorem TB(s:U)(f:Z->zv->zv->zv)(v:Z)(l h:zv):k3 s f (some v) (some l) (some h)=l9 s (f v l h):=rfl
theorem TC(A:zu)(s:U)(x:Opd)(lo hi:Option Opd)(f:Z->zv->zv->zv->zv)(m:zv):k4 A s x lo hi f (some m)=vs3 A s x lo hi (λv l h=>f v l h m):=rfl
theorem BT(S:Self)(f:Nat)(vs:zt)(s:U):dX S f (some vs) s=S.call f vs s:=rfl
theorem Sq(S:Self)(f:Nat)(a c:zt)(vs:zt)(s:U):aL S (some (.fn f a c)) (some vs) s=S.call f (a++vs++c) s:=rfl
theorem zzZ(a b:zv):P6 (some (.bool true)) a b=a:=rfl
theorem zzY(a b:zv):P6 (some (.bool false)) a b=b:=rfl
theorem zzX(x y z:Bool):P6 (some (.bool x)) (some (.bool y)) (some (.bool z))=some (.bool (bif x then y else z)):=by cases x<;>rfl
theorem zzS(off Y o:Nat):vFa off (.ptr Y o)=some (.ptr Y (o+off)):=rfl
theorem zwp(off:Nat)(cs:zt):vFa off (.vp cs)=some (.vp (wX off cs)):=rfl
theorem Rw(i o:Nat):Rv (.ptr i o)=some (.ptr i o):=rfl
theorem TP(s:U)(e:Nat)(v:Z):fB s e v=some (.ptr s.next 0,s.alloc (.row e v.cells false false)):=rfl
theorem CR(s:U)(e:Nat)(zs:zt):X5 s e zs=some (.ptr s.next 0,s.alloc (.row e zs false false)):=rfl
theorem A9(cs:zt):(Z.agg cs).cells=cs:=rfl
theorem Ba(k:IntKind)(n:Int):(Z.int k n).cells=[.int k n]:=rfl
theorem mE(b:Bool):(Z.bool b).cells=[.bool b]:=rfl
theorem Bb(n:Nat)(e:Bool)(l:zt):(Z.lst n e l).cells=[.lst n e l]:=rfl
theorem Bd(i o:Nat):(Z.ptr i o).cells=[.ptr i o]:=rfl
theorem Fk(i o n:Nat)(c:Cap):(Z.sl i o n c).cells=[.sl i o n c]:=rfl
theorem Bc(i:Nat):(Z.map i).cells=[.map i]:=rfl
theorem mF:Z.nils.cells=[.nils]:=rfl
theorem Ru(s:U)(t:zr):Q0 s .s (.str t)=some (.int .i64 (.ofNat t.length)):=by rw[<-qw];rfl
theorem En(s:U):Q0 s .v .nils=some (.int .i64 (.ofNat 0)):=rfl
theorem Rt(s:U)(n:Nat)(e:Bool)(l:zt):Q0 s .v (.lst n e l)=some (.int .i64 (.ofNat n)):=rfl
theorem zzW(s:U)(i o n:Nat)(c:Cap):Q0 s .v (.sl i o n c)=some (.int .i64 (.ofNat n)):=rfl
theorem zz0(b:Bool):vUn .not (.bool b)=some (.bool (!b)):=rfl
theorem Rm(op:BinOp)(k k':IntKind)(a b:Int):Ej op (.int k a) (.int k' b)=uc op k a k' b:=rfl
theorem Rn(op:BinOp)(a b:zr):Ej op (.str a) (.str b)=AT op a b:=rfl
def eqD(a b:Int):Bool:=decide (a=b)
def ltD(a b:Int):Bool:=decide (a<b)
def ET(k:IntKind)(a b:Int):uc .eql k a k b=some (.bool (eqD a b)):=by
 have:jJ k k=true:=by cases k<;>rfl
 simp only[uc,this,x6,uL,eqD];by_cases h:a=b<;>simp[h]
def E0(k:IntKind)(a b:Int):uc .neq k a k b=some (.bool (!eqD a b)):=by
 have:jJ k k=true:=by cases k<;>rfl
 simp only[uc,this,x6,uL,eqD];by_cases h:a=b<;>simp[h]
def EY(k:IntKind)(a b:Int):uc .lss k a k b=some (.bool (ltD a b)):=by
 have:jJ k k=true:=by cases k<;>rfl
 simp only[uc,this,x6,lK,ltD]
def EX(k:IntKind)(a b:Int):uc .leq k a k b=some (.bool (!ltD b a)):=by
 have:jJ k k=true:=by cases k<;>rfl
 simp only[uc,this,x6,lK,ltD]
def EW(k:IntKind)(a b:Int):uc .gtr k a k b=some (.bool (ltD b a)):=by
 have:jJ k k=true:=by cases k<;>rfl
 simp only[uc,this,x6,lK,ltD]
def EV(k:IntKind)(a b:Int):uc .geq k a k b=some (.bool (!ltD a b)):=by
 have:jJ k k=true:=by cases k<;>rfl
 simp only[uc,this,x6,lK,ltD]
theorem Sl(a b:Nat):eqD (.ofNat a) (.ofNat b)=decide (a=b):=by
 unfold eqD;by_cases h:a=b
 .subst h;simp
 .simp only[h,decide_false,decide_eq_false_iff_not];intro e;cases e;exact h rfl
def Zm(a b:Nat):ltD (.ofNat a) (.ofNat b)=decide (a<b):=by
 unfold ltD;by_cases h:a<b<;>simp[h]
def MR(a b:Nat):ltD (.negSucc a) (.ofNat b)=true:=by
 have:(Int.negSucc a)<0:=Int.negSucc_lt_zero a;have h2:(0:Int)<=Int.ofNat b:=Int.natCast_nonneg b;unfold ltD;exact qp J
def zyg{a b:Int}(h:a=b):eqD a b=true:=qp h
def sx{a b:Int}(h:a≠b):eqD a b=false:=qb h
def zwV{a b:Int}(h:b<=a):ltD a b=false:=qb J
theorem Uh(k:IntKind)(h:a<H8 k):vK k (.ofNat a)=.ofNat a:=by
 show (bif zG a (H8 k)then Int.ofNat a else _)=_;rw[w9.2 h];rfl
theorem zvF(a b:Nat):Int.add (.ofNat a) (.ofNat b)=.ofNat (a+b):=rfl
theorem oh(a b:Nat):Int.mul (.ofNat a) (.ofNat b)=.ofNat (a*b):=rfl
def Hz(h:b<=a):Int.sub (.ofNat a) (.ofNat b)=.ofNat (a-b):=by
 show (a:Int)-(b:Int)=((a-b:Nat):Int);omega
def ER(k:IntKind)(a b:Int):uc .add k a k b=some (.int k (vK k (Int.add a b))):=by
 have:jJ k k=true:=by cases k<;>rfl
 simp only[uc,this,x6]
def E1(k:IntKind)(a b:Int):uc .sub k a k b=some (.int k (vK k (Int.sub a b))):=by
 have:jJ k k=true:=by cases k<;>rfl
 simp only[uc,this,x6]
def EZ(k:IntKind)(a b:Int):uc .mul k a k b=some (.int k (vK k (Int.mul a b))):=by
 have:jJ k k=true:=by cases k<;>rfl
 simp only[uc,this,x6]
def YR(h:a<9223372036854775808):vK .i64 (.ofNat a)=.ofNat a:=Uh .i64 h
def zwt(h:a<2147483648):vK .i32 (.ofNat a)=.ofNat a:=Uh .i32 h
def zwu(h:a<256):vK .u8 (.ofNat a)=.ofNat a:=Uh .u8 h
def zz6(h:a<4294967296):vK .u32 (.ofNat a)=.ofNat a:=Uh .u32 h
theorem zzQ(k k':IntKind)(a:Int):vCi k (.int k' a)=some (.int k (vK k a)):=rfl
def E2(a b:zr):AT .eql a b=some (.bool (decide (a=b))):=by
 show some (Z.bool (eqS a b))=_;rw[UA];by_cases h:a=b<;>simp[h]
def E3(a b:zr):AT .neq a b=some (.bool (!decide (a=b))):=by
 show some (Z.bool (!eqS a b))=_;rw[UA];by_cases h:a=b<;>simp[h]
theorem nV(v:Z)(l:zt):XU (v::l)=some v:=rfl
theorem zzR(vs:zt)(i:Nat):vEx (.tup vs) i=XU (wX i vs):=rfl
theorem AL(l:zt):Ui (some l)=some (.agg l):=rfl
theorem Vk(l:zt)(off n:Nat):cut l off n=wE n (wX off l):=rfl
theorem Tv(k:IntKind)(a n:Nat):idx (.int k (.ofNat a)) n=if a<n then some a else none:=by
 show (bif zG a n then some a else none)=_;by_cases h:a<n
 .rw[wc h,w9.2 h];rfl
 .rw[x0 h];cases hb:zG a n with
  |true=>exact absurd (w9.1 hb) h
  |false=>rfl
def vpK(cs:zt)(esz:Nat):zw->zv
 |some k=>some (.vp (wX (k*esz) cs))
 |none=>none
theorem Rx(cs:zt)(esz k:Nat):vpK cs esz (some k)=some (.vp (wX (k*esz) cs)):=rfl
theorem zzT(esz n:Nat)(e:Bool)(cs:zt)(i:Z):vIa esz (.lst n e cs) i=vpK cs esz (idx i n):=by
 simp only[vIa,vpK];generalize idx i n=x;cases x<;>rfl
def ptK(Y off esz:Nat):zw->zv
 |some k=>some (.ptr Y (off+k*esz))
 |none=>none
theorem NT(Y off esz k:Nat):ptK Y off esz (some k)=some (.ptr Y (off+k*esz)):=rfl
theorem zwq(esz Y off len:Nat)(c:Cap)(i:Z):vIa esz (.sl Y off len c) i=ptK Y off esz (idx i len):=by
 simp only[vIa,ptK];generalize idx i len=x;cases x<;>rfl
theorem Rp(n esz Y off:Nat)(i:Z):iM n esz (.ptr Y off) i=ptK Y off esz (idx i n):=by
 simp only[iM,ptK];generalize idx i n=x;cases x<;>rfl
theorem mj(b:Nat):cK (some b)=some (.int .u8 (.ofNat b)):=rfl
theorem Rr(t:zr)(k:IntKind)(i:Nat):Rq (.str t) (.int k (.ofNat i))=cK (eK t i):=rfl
def zzm:zj->Option zt
 |some (.row _ cs _ _)=>some cs
 |some (.giv cs)=>some cs
 |_=>none
theorem Oq(e:Nat)(cs:zt)(x fz:Bool):zzm (some (.row e cs x fz))=some cs:=rfl
def Sd(off n:Nat):Option zt->Option zt
 |some cs=>cut cs off n
 |none=>none
theorem Bk(off n:Nat)(cs:zt):Sd off n (some cs)=wE n (wX off cs):=rfl
def MA:Option zt->zv
 |some l=>XU l
 |none=>none
theorem nU(l:zt):MA (some l)=XU l:=rfl
theorem Pj(G:List zt)(s:U)(Y off n:Nat):uT G s (.ptr Y off) n=Sd off n (zzm (s.get Y)):=by
 unfold uT;simp only;cases s.get Y with
 |none=>rfl
 |some o=>cases o<;>rfl
theorem eW(G:List zt)(s:U)(cs:zt)(n:Nat):uT G s (.vp cs) n=wE n cs:=rfl
theorem zzU(G:List zt)(s:U)(Y off:Nat):vLd G s (.ptr Y off)=MA (Sd off 1 (zzm (s.get Y))):=by
 rw[<-Pj G];unfold vLd;cases uT G s (.ptr Y off) 1<;>rfl
theorem zws(G:List zt)(s:U)(cs:zt):vLd G s (.vp cs)=MA (wE 1 cs):=by
 rw[<-eW G s];unfold vLd;cases uT G s (.vp cs) 1<;>rfl
theorem Rs(G:List zt)(s:U)(n Y off:Nat):Wm G s n (.ptr Y off)=Ui (Sd off n (zzm (s.get Y))):=by
 rw[<-Pj G];unfold Wm;cases uT G s (.ptr Y off) n<;>rfl
theorem zzV(G:List zt)(s:U)(n:Nat)(cs:zt):Wm G s n (.vp cs)=Ui (wE n cs):=by
 rw[<-eW G s];unfold Wm;cases uT G s (.vp cs) n<;>rfl
def zxV(s:U)(Y e:Nat)(x:Bool):Option zt->zb
 |some cs=>some (qX,s.put Y (.row e cs x false))
 |none=>none
theorem Df(s:U)(Y e:Nat)(x:Bool)(cs:zt):zxV s Y e x (some cs)=some (qX,s.put Y (.row e cs x false)):=rfl
def stO(s:U)(Y off n:Nat)(w:Z):zj->zb
 |some (.row e cs x false)=>bif (zD (qQ w.cells) n&&wO w.cells)then zxV s Y e x (jk cs off w.cells)else none
 |_=>none
theorem zzz(s:U)(Y off n:Nat)(w:Z)(e:Nat)(cs:zt)(x:Bool):stO s Y off n w (some (.row e cs x false))=(bif (zD (qQ w.cells) n&&wO w.cells)then zxV s Y e x (jk cs off w.cells)else none):=rfl
theorem T0(s:U)(n Y off:Nat)(w:Z):oSt s n (.ptr Y off) w=stO s Y off n w (s.get Y):=by
 unfold oSt j8;simp only;cases s.get Y with
 |none=>cases zD (qQ w.cells) n<;>rfl
 | some o=>
  cases o<;>first|(cases zD (qQ w.cells) n<;>rfl)|skip
  rename_i e cs x fz
  cases fz
  .simp only[stO];cases zD (qQ w.cells) n<;>cases wO w.cells<;>simp only[xR,xS,Bool.not_false,x6,wh,Bool.and_true,Bool.and_false,Bool.true_and,Bool.false_and]
   cases jk cs off w.cells<;>rfl
  .cases zD (qQ w.cells) n<;>rfl
def Hx(s:U)(Y off:Nat)(vs:zt)(e:Nat)(cs cs':zt)(x:Bool)(h:s.get Y=some (.row e cs x false))(ha:wO vs=true)(hp:jk cs off vs=some cs'):j8 s (.ptr Y off) vs=some (s.put Y (.row e cs' x false)):=by
 unfold j8;simp only[h,ha,hp,xR,xS,wh]
def zya(a b:Nat):zH a b=decide (a<=b):=by
 cases h:zH a b with
 |true=>exact(qp (wB.1 h)).symm
 |false=>exact(qb (λe=>by rw[wB.2 e]at h;cases h)).symm
def zwF(a b:Nat):zG a b=decide (a<b):=by
 cases h:zG a b with
 |true=>exact(qp (w9.1 h)).symm
 |false=>exact(qb (λe=>by rw[w9.2 e]at h;cases h)).symm
def zwE(a b:Nat):zD a b=decide (a=b):=by
 cases h:zD a b with
 |true=>exact(qp (wH.1 h)).symm
 |false=>exact(qb (λe=>by rw[wH.2 e]at h;cases h)).symm
mutual
theorem LV(n0:Nat):∀{v:Z},wC v=true->Xa n0 v=some v
 |.bool _,_=>rfl
 |.int _ _,_=>rfl
 |.str _,_=>rfl
 |.nilp,_=>rfl
 |.gptr _ _,_=>rfl
 |.sl0,_=>rfl
 |.nils,_=>rfl
 |.nilm,_=>rfl
 |.nilf,_=>rfl
 |.nili,_=>rfl
 |.lst _ _ _,_=>rfl
 |.vp _,_=>rfl
 |.ifc _ v,h=>by simp only[Xa,h,x6]
 |.fn _ a c,h=>by simp only[Xa,h,x6]
 |.agg cs,h=>by simp only[Xa,h,x6]
 |.tup vs,h=>by simp only[Xa,h,x6]
 |.ptr _ _,h=>by simp[wC]at h
 |.sl _ _ _ _,h=>by simp[wC]at h
 |.map _,h=>by simp[wC]at h
 |.yld _,h=>by simp[wC]at h
 |.gr _ _ _ _,h=>by simp[wC]at h
end
def LX(n0:Nat):∀{l:zt},wo l=true->UD n0 l=some l
 |[],_=>rfl
 |v::r,h=>by
  simp only[wo,Bool.and_eq_true]at h;simp only[UD,LV n0 h.1,LX n0 h.2]
def LW(n0:Nat)(h:wC v=true):VC n0 v=some v:=by
 cases v<;>first|exact LV n0 h|skip
 rename_i cs
 simp only[wC]at h;simp only[VC,LX n0 h]
def LY(n0:Nat):∀{l:zt},wo l=true->VD n0 l=some l
 |[],_=>rfl
 |v::r,h=>by
  simp only[wo,Bool.and_eq_true]at h;simp only[VD,LW n0 h.1,LY n0 h.2]
def Cn(n0:Nat)(h:wC v=true):XG n0 v=some v:=by
 cases v<;>first|exact LW n0 h|skip
 rename_i cs
 simp only[wC]at h;simp only[XG,LY n0 h]
def zwm:Option zt->zv
 |some l=>some (.tup l)
 |none=>none
theorem Ee(l:zt):zwm (some l)=some (.tup l):=rfl
theorem IY(n0:Nat)(vs:zt):XG n0 (.tup vs)=zwm (VD n0 vs):=by simp only[XG,zwm];cases VD n0 vs<;>rfl
theorem Ma(n0:Nat):VD n0 []=some []:=rfl
theorem Cp(n0:Nat)(v:Z)(r:zt):VD n0 (v::r)=YU (VC n0 v) (VD n0 r):=by
 simp only[VD,YU];cases VC n0 v<;>cases VD n0 r<;>rfl
theorem IZ(n0:Nat):UD n0 []=some []:=rfl
theorem Co(n0:Nat)(v:Z)(r:zt):UD n0 (v::r)=YU (Xa n0 v) (UD n0 r):=by
 simp only[UD,YU];cases Xa n0 v<;>cases UD n0 r<;>rfl
def sH(n0 Y e n:Nat)(cs:zt):Xa n0 (.gr Y e n cs)=if n0<=Y then some (.lst n false cs)else some (.gr Y e n cs):=by
 simp only[Xa,zya];by_cases h:n0<=Y<;>simp[h]
def Tj(n0 Y e n:Nat)(cs:zt):VC n0 (.gr Y e n cs)=if n0<=Y then some (.lst n false cs)else some (.gr Y e n cs):=sH n0 Y e n cs
def Tk(n0 Y e n:Nat)(cs:zt):XG n0 (.gr Y e n cs)=if n0<=Y then some (.lst n false cs)else some (.gr Y e n cs):=sH n0 Y e n cs
theorem IV(n0:Nat)(cs:zt):VC n0 (.agg cs)=Ui (UD n0 cs):=rfl
theorem ml:wK []=[]:=rfl
theorem cL(b:Nat)(r:zr):wK (b::r)=.int .u8 (.ofNat b)::wK r:=rfl
def Zc:∀(n:Nat) (l:zr),wX n (wK l)=wK (l.drop n)
 |0,l=>rfl
 |n+1,[]=>rfl
 |n+1,b::r=>by simp only[wK,wX,xT];exact Zc n r
def U5:∀(n:Nat) (l:zr),tkN n (wK l)=wK (l.take n)
 |0,l=>by simp[tkN,wK]
 |n+1,[]=>rfl
 |n+1,b::r=>by simp only[wK,tkN,xP];rw[U5 n r]
def JO:∀{n:Nat} {l:zr},n<=zM l->wE n (wK l)=some (wK (l.take n))
 |0,l,_=>by simp[wE,wK]
 |n+1,[],h=>by simp at h
 |n+1,b::r,h=>by simp only[wK,wE,JO (n:=n) (l:=r) (by simpa using h),xP]
def Ql:∀{l:zr},(∀b∈l,b<256)->kl (wK l)=some l
 |[],_=>rfl
 |b::r,h=>by
  simp only[wK,kl,Ql (l:=r) (λx hx=>h x (by simp[hx])),w9.2 (h b (by simp)),x6]
theorem zxD(a b:Nat):Nat.lor a b=a|||b:=rfl
def N6(ρ:Nat->zw)(k:IntKind)(n:Int):uV ρ (.int k n)=some (.int k n):=by simp only[uV]
def Dp(ρ:Nat->zw)(b:Bool):uV ρ (.bool b)=some (.bool b):=by simp only[uV]
def N9(ρ:Nat->zw)(s:zr):uV ρ (.str s)=some (.str s):=by simp only[uV]
def Dq(ρ:Nat->zw):uV ρ .nils=some .nils:=by simp only[uV]
def N7(ρ:Nat->zw)(n:Nat)(e:Bool)(l:zt):uV ρ (.lst n e l)=some (.lst n e l):=by simp only[uV]
def jS(f:Nat->Z):zw->zv
 |some j=>some (f j)
 |none=>none
theorem Tx(f:Nat->Z)(j:Nat):jS f (some j)=some (f j):=rfl
theorem N8(ρ:Nat->zw)(i o:Nat):uV ρ (.ptr i o)=jS (λj=>.ptr j o) (ρ i):=by simp only[uV];cases ρ i<;>rfl
theorem zzf(ρ:Nat->zw)(i e n:Nat)(l:zt):uV ρ (.gr i e n l)=jS (λj=>.gr j e n l) (ρ i):=by simp only[uV];cases ρ i<;>rfl
def fnO(f:Nat):Option zt->Option zt->zv
 |some a,some c=>some (.fn f a c)
 |_,_=>none
theorem Ix(f:Nat)(a c:zt):fnO f (some a) (some c)=some (.fn f a c):=rfl
theorem zze(ρ:Nat->zw)(f:Nat)(a c:zt):uV ρ (.fn f a c)=fnO f (Wa ρ (wo a) a) (Wa ρ (wo c) c):=by
 simp only[uV];cases Wa ρ (wo a) a<;>cases Wa ρ (wo c) c<;>rfl
def zx1(ρ:Nat->zw)(l:zt):Wa ρ true l=some l:=by simp only[Wa,x6]
theorem uO(b:Bool):wC (.bool b)=true:=rfl
theorem qL(k:IntKind)(n:Int):wC (.int k n)=true:=rfl
theorem pm(s:zr):wC (.str s)=true:=rfl
theorem oW:wC .nilp=true:=rfl
theorem oR(g o:Nat):wC (.gptr g o)=true:=rfl
theorem De:wC .sl0=true:=rfl
theorem Ha:wC .nils=true:=rfl
theorem oV:wC .nilm=true:=rfl
theorem oT:wC .nilf=true:=rfl
theorem oU:wC .nili=true:=rfl
theorem qn(n:Nat)(e:Bool)(l:zt):wC (.lst n e l)=true:=rfl
theorem NU(l:zt):wC (.vp l)=true:=rfl
theorem Dd(t:Nat)(v:Z):wC (.ifc t v)=wC v:=rfl
theorem V3(f:Nat)(a c:zt):wC (.fn f a c)=(wo a&&wo c):=rfl
theorem uC(l:zt):wC (.agg l)=wo l:=rfl
theorem uD(l:zt):wC (.tup l)=wo l:=rfl
theorem wA:wo []=true:=rfl
theorem ww(v:Z)(r:zt):wo (v::r)=(wC v&&wo r):=rfl
theorem IS(n0:Nat)(k:IntKind)(n:Int):Xa n0 (.int k n)=some (.int k n):=rfl
theorem IU(n0:Nat)(s:zr):Xa n0 (.str s)=some (.str s):=rfl
theorem IT(n0:Nat)(n:Nat)(e:Bool)(l:zt):Xa n0 (.lst n e l)=some (.lst n e l):=rfl
theorem IX(n0:Nat)(k:IntKind)(n:Int):VC n0 (.int k n)=some (.int k n):=rfl
def jd{C:Cx}{ib:ICode}{Q:Res->Fr->U->Prop}{α:Type}(m:α->Nat)(fr:α->Fr)(st:α->U)(Ir:α->Prop)
  (step:∀x,Ir x->Tri C ib (fr x) (st x) (wJ (λf t=>∃y,Ir y/\m y<m x/\Gc C f t (fr y) (st y)) Q)):∀x,Ir x->HN C ib (fr x) (st x) Q:=by
 have key:∀n x,m x<n->Ir x->HN C ib (fr x) (st x) Q:=by
  intro n
  induction n with
  |zero=>intro x h;omega
  | succ n ih=>
   intro x hx hI;refine vE ((step x hI).mono λr f t=>?_);cases r with
   |norm=>
    rintro⟨y,h1,h2,h3⟩
    exact AF h3 (ih y J h1)
   |exit i=>exact λh=>h
   |ret=>exact λh=>h
 exact λx hI=>key (m x+1) x J hI
def WQ:∀l:zr,wkL (wK l)=wK l
 |[]=>rfl
 |b::r=>by simp only[wK,wkL,wkV,WQ r]
def Qp:∀{a b:zr},wK a=wK b->a=b
 |[],[],_=>rfl
 |[],_::_,h=>by simp[wK]at h
 |_::_,[],h=>by simp[wK]at h
 |x::a,y::b,h=>by
  simp only[wK,qJ,Z.int.injEq,true_and]at h;obtain⟨h1,h2⟩:=h;have:x=y:=by cases h1;rfl
  rw[this,Qp h2]
structure Is(C:Cx)(E:Env)(O:Orc)(c:U)(M:Nat):Prop where
 ok:CxOk C
 e:C.E=E
 o:C.O=O
 rd:C.rd=none
 s:C.s=c
 m:C.M=M
section
variable {C:Cx}{E:Env}{O:Orc}{c:U}{M:Nat}{ic:ICode}{fr fr' fr1:Fr}{s s' s1:U}{Q:Res->Fr->U->Prop}{res:Res}
def Is.eval(k:Is C E O c M)(h:evC E (evW E O) none ic fr s=some (res,fr',s'))(q:Q res fr' s'):Tri C ic fr s Q:=
 iI k.ok (by rw[k.e,k.o,k.rd];exact h) q
def Is.ev(k:Is C E O c M)(h:∃r,evC E (evW E O) none ic fr s=some r/\Q r.1 r.2.1 r.2.2):Tri C ic fr s Q:=by
 obtain⟨⟨res,fr',s'⟩,h1,h2⟩:=h;exact k.eval h1 h2
def Is.gcs(k:Is C E O c M){keep live:zr}{md:Bool}(h:gcF false c M keep live md fr s=some (fr1,s1)):Gc C fr s fr1 s1:=
 Mo k.ok (wk:=false) (keep:=keep) (live:=live) (md:=md) (by rw[k.s,k.m];exact h)
def Is.gc(k:Is C E O c M)(keep live:zr)(md:Bool)(h:gcF false c M keep live md fr s=some (fr1,s1))(t:Tri C ic fr1 s1 Q):Tri C ic fr s Q:=bS (k.gcs h) t
def Is.gcL(k:Is C E O c M)(keep live:zr)(md:Bool)(h:gcF false c M keep live md fr s=some (fr1,s1))(t:HN C ic fr1 s1 Q):HN C ic fr s Q:=AF (k.gcs h) t
end
def Cut(C:Cx)(fr1:Fr)(s1:U)(Q:Res->Fr->U->Prop):Res->Fr->U->Prop
 |.norm,f,t=>Gc C f t fr1 s1
 |r,f,t=>Q r f t
def WO{C:Cx}{ia ib:ICode}{fr:Fr}{Q:Res->Fr->U->Prop}(fr1:Fr)(s1:U)(h1:Tri C ia fr s (Cut C fr1 s1 Q))(h2:Tri C ib fr1 s1 Q):Tri C (.seq ia ib) fr s Q:=
 ql (h1.mono λr f t=>by
  cases r with
  |norm=>exact λh=>bS h h2
  |exit i=>exact λh=>h
  |ret=>exact λh=>h)
def Is.sc{P:Program}{X:World}(hO:OrcOk P X O)(hm:P.follows .mixedOrders=true)(hG:wG E.globs X)(hE:lL P E){f:Nat}{F:IFunc}{args:zt}{os:zi}{b:Bool}(M:Nat)
  (hF:E.funs.get f=some F) (hle:zM args<=F.ntmps) (hM:∀i,M.testBit i=true->∃o,kX os i=some o/\vN o=false)
  (h:∀C:Cx,Is C E O (H os 0 b) M->Tri C F.body {A:=qk (tmL []) 0 args,df:=[]} (H os 0 b) (Fin E (H os 0 b) M F.res v c')):SC P X f args (H os 0 b) v c':=
 rv hO hm hG hE M hF hle rfl rfl rfl (λi hi=>by
  obtain⟨o,h1,h2⟩:=hM i hi;exact⟨sU h1,o,by rw[Ku];exact h1,h2⟩) λC ok h1 h2 h3 h4 h5=>h C ⟨ok,h1,h2,h3,h4,h5⟩
def Zz{c:U}{M:Nat}{res:List RV}{r:Res}{fr:Fr}{s2:U}{vs:zt}{v0:Z}(h0:r=.norm\/r=.ret)(h1:qT s fr.df=some s2)(h2:gC E.globs fr.A s2 res=some vs)(h3:XG c.next (jc vs)=some v0)(h4:wkV v0=v)(h5:gcF true c M [] [] c.md {A:=tmL [],df:=[]} s2=some ({A:=tmL [],df:=[]},c')):Fin E c M res v c' r fr s:=
 ⟨h0,s2,vs,v0,_,h1,h2,h3,h4.symm,h5⟩
def jN{os:zi}:∀i,(0:Nat).testBit i=true->∃o,kX os i=some o/\vN o=false:=λi h=>by simp at h
def zwW{o:AObj}{os:zi}(hg:vN o=false):∀i,(1:Nat).testBit i=true->∃o',kX (some o::os) i=some o'/\vN o'=false:=λi h=>by
 cases i with
 |zero=>exact⟨o,rfl,hg⟩
 |succ i=>rw[Nat.testBit_succ]at h;simp at h
def Byt(l:zr):Prop:=∀x∈l,x<256
def Byt.drop(h:Byt l)(n:Nat):Byt (l.drop n):=λx hx=>h x (List.mem_of_mem_drop hx)
def Byt.take(h:Byt l)(n:Nat):Byt (l.take n):=λx hx=>h x (List.mem_of_mem_take hx)
def Byt.cons{c:Nat}(h:Byt (c::l)):c<256/\Byt l:=⟨h c (by simp),λx hx=>h x (by simp[hx])⟩
def DP{b:zr}{k k':IntKind}{lo hi:Nat}(h1:lo<=hi)(h2:hi<=List.length b):gG 1 (.lst (List.length b) e (wK b)) (some (.int k (.ofNat lo))) (some (.int k' (.ofNat hi))) none=some (.lst (hi-lo) (e&&Nat.beq hi (List.length b)) (wK ((b.drop lo).take (hi-lo)))):=by
 simp only[gG,HJ,bnd,wB.2 h1,wB.2 h2,x6];show some (Z.lst (hi-lo) _ (tkN ((hi-lo)*1) (wX (lo*1) (wK b))))=_;rw[xQ,xQ,Zc,U5]
def bP{b:zr}{k:IntKind}{lo:Nat}(h1:lo<=List.length b):gG 1 (.lst (List.length b) e (wK b)) (some (.int k (.ofNat lo))) none none=some (.lst (List.length b-lo) (e&&Nat.beq (List.length b) (List.length b)) (wK (b.drop lo))):=by
 simp only[gG,HJ,bnd,wB.2 h1,x6];show some (Z.lst (zM b-lo) _ (tkN ((zM b-lo)*1) (wX (lo*1) (wK b))))=_;rw[xQ,xQ,Zc,U5,yb (by simp)]
def Lp(hn:List.length l=n)(hb:Byt l):El s (.lst n e (wK l))=some (.str l):=by
 subst hn;simp only[El,JO (Nat.le_refl _),List.take_length,jB,Ql hb,Ug]
def zyU{t:zr}(h:t.length<9223372036854775808)(l:za)(n m:Nat)(hd:zg)(on:ze)(e:Nat):JW (KL l n m true hd on) e (.str t)=some (.lst t.length false (wK t),KL l n m true hd on):=by
 simp only[JW,qw,w9.2 h,x6,Q5]
theorem gR:wO []=true:=rfl
theorem jC(v:Z)(r:zt):wO (v::r)=(vV v&&wO r):=by simp only[wO];cases vV v<;>rfl
def lC(k:IntKind)(n:Int):vV (.int k n)=true:=by simp only[vV]
def OI(s:zr):vV (.str s)=true:=by simp only[vV]
def Z5(b:Bool):vV (.bool b)=true:=by simp only[vV]
def Z6(n:Nat)(e:Bool)(l:zt):vV (.lst n e l)=true:=by simp only[vV]
def zzs(i e n:Nat)(l:zt):vV (.gr i e n l)=true:=by simp only[vV]
def DJ:vV .nils=true:=by simp only[vV]
def OH(i o:Nat):vV (.ptr i o)=true:=by simp only[vV]
def OG(i:Nat):vV (.map i)=true:=by simp only[vV]
def Si(h:a<b):decide (a<b)=true:=qp h
def Sh(h:b<=a):decide (a<b)=false:=qb J
def Sg(h:b<a):decide (a<=b)=false:=qb J
def GQ(k:IntKind)(h:a<n):idx (.int k (.ofNat a)) n=some a:=by rw[Tv,wc h]
def qg{l:zt}(h:List.length l=n):wE n l=some l:=by
 subst h
 induction l with
 |nil=>rfl
 |cons v r ih=>simp only[yw,wE,ih]
theorem pT(n:Nat)(e:Bool)(cs:zt):j6 (.lst n e cs)=some n:=rfl
theorem Li(l:za)(n m:Nat)(hd:zg)(on:ze)(t esz bytes:Nat)(e:Bool)(cs:zt)(hl:zM cs=esz)(h1:1<=esz)(hb:2*bytes<=281474976710656)(hp:wo cs=true):
  uE (KL l n m true hd on) t esz bytes .nils (.lst 1 e cs)=some (.gr n esz 1 cs,KL ((n,some (.app t cs))::l) (n+1) m true hd on):=by
 have h2:wE (zF 1 esz) cs=some cs:=qg (by rw[hl];show esz=1*esz;omega)
 simp only[uE,pT,qu,h2,ZI,Q5,hp,xO,x6,ZP];rw[show zH (zF (zF 2 1) bytes) 281474976710656=true from wB.2 (by show 2*1*bytes<=_;omega),show zH 1 esz=true from wB.2 h1]
 rfl
theorem rZ(l:za)(n m:Nat)(b:Bool)(t esz bytes Y k:Nat)(e:Bool)(old cs:zt)(hg:x3 l Y=some (.app t old))(hl:zM cs=esz)(h1:1<=esz)(hb:2*(k+1)*bytes<=281474976710656)(hk:k<1000000000)(hp:wo old=true)(hp2:wo cs=true)(hs:wO cs=true):
  uE (KL l n m b) t esz bytes (.gr Y esz k old) (.lst 1 e cs)=some (.gr n esz (k+1) (old++cs),KL ((n,some (.app t (old++cs)))::(Y,none)::l) (n+1) (m|||1<<<Y) b):=by
 have h2:wE (zF 1 esz) cs=some cs:=qg (by rw[hl];show esz=1*esz;omega)
 have h3:wo (old++cs)=true:=by rw[kj,hp,hp2];rfl
 simp only[uE,pT,qu,h2,ZI,wM,hg,wH.2,hs,xO,x6,ZP,h3];rw[show zH (zF (zF 2 (Nat.add k 1)) bytes) 281474976710656=true from wB.2 hb,show zH 1 esz=true from wB.2 h1,show zG (Nat.add k 1) 9223372036854775808=true from w9.2 (by show k+1<_;omega)]
 rfl
def TQ(l:za)(n m:Nat)(hd:zg)(on:ze)(e len:Nat)(cs:zt)(hp:wo cs=true):VY (KL l n m true hd on) e len (some cs)=some (.lst len true cs,KL l n m true hd on):=by
 simp only[VY,Q5,hp,xO,x6]
def Iq(zs:zt)(off n:Nat)(A:zu)(r:zp):zv->Option zt
 | some v=>bif zD (qQ v.cells) n&&zH 1 n then (match jk zs off v.cells with
   |some zs'=>gw zs' A r
   |none=>none)else none
 |none=>none
theorem Ch(zs:zt)(A:zu):gw zs A []=some zs:=rfl
theorem nI(zs:zt)(A:zu)(off n:Nat)(x:Opd)(r:zp):gw zs A ((off,n,x)::r)=Iq zs off n A r (x.ev A):=by
 simp only[gw,Iq];cases x.ev A<;>rfl
theorem nJ(zs:zt)(off n:Nat)(A:zu)(r:zp)(v:Z):Iq zs off n A r (some v)=bif zD (qQ v.cells) n&&zH 1 n then (match jk zs off v.cells with
   |some zs'=>gw zs' A r
   |none=>none)else none:=rfl
def zyB{P:Program}{X:World}(hO:OrcOk P X O)(hm:P.follows .mixedOrders=true)(hG:wG E.globs X)(hE:lL P E){args:zt}(h:okV v ((evT E O n).call f args s0)=true):∃s1,SC P X f args (s00 0 false) v s1:=by
 obtain⟨s1,hs⟩:=Ni h;have:=(Gs hO.ext hm hG hE hO.ok n).call hs;exact⟨s1,this.1,λI w xs r hwf hf hx F k hF=>this.2 r hwf hf hx F k hF⟩
section
variable {P:Program}{X:World}{f:Nat}{α:Type}
def SC.args{args args':zt}{s':U}(h:SC P X f args' s v s')(hw:∀I xs,VRL I args xs->VRL I args' xs):SC P X f args s v s':=
 ⟨h.1,λI w xs r hwf hf hx F n hF=>h.2 I w xs r hwf hf (hw I xs hx) F n hF⟩
open Classical in
def vw(enc:α->zt)(Pre:α->Prop)(F:α->Z)(args:zt)(s:U):zb:=
 if h:∃x,enc x=wkL args/\Pre x then some (F (Classical.choose h),s)else none
def vo{enc:α->zt}{Pre:α->Prop}{F:α->Z}(inj:∀x y,enc x=enc y->x=y){args:zt}(s:U)(x:α)(hp:Pre x)(ha:wkL args=enc x):vw enc Pre F args s=some (F x,s):=by
 have h:∃x,enc x=wkL args/\Pre x:=⟨x,ha.symm,hp⟩;unfold vw;rw[dif_pos h];have:=xG h;rw[inj _ x (this.1.trans ha)]
def lB{enc:α->zt}{Pre:α->Prop}{F:α->Z}(args:zt)(s:U)(v:Z)(s':U)(h:vw enc Pre F args s=some (v,s')):Ext s s':=by
 unfold vw at h;split at h
 .cases h;exact Ext.refl _
 .cases h
def XY{enc:α->zt}{Pre:α->Prop}{F:α->Z}(b:Bool)(hp1:∀x,wo (enc x)=true)(hp2:∀x,wC (F x)=true)(h:∀x,Pre x->∃s1,SC P X f (enc x) (s00 0 b) (F x) s1):vA P X f (vw enc Pre F):=by
 intro args s v s' hg;unfold vw at hg;split at hg
 .rename_i hx
  cases hg;obtain⟨h1,h2⟩:=xG hx;obtain⟨s1,hs⟩:=h _ h2;refine SC.args (SC.up hs (hp1 _) (hp2 _) s) λI xs hv=>?_;rw[h1];exact hU hv
 .cases hg
open Classical in
end
theorem FW(S:Self)(l:Nat)(vs:zt)(s:U):aL S (some (.yld l)) (some vs) s=S.round l vs s:=rfl
def lW(E:Env)(O:Orc)(l:Nat)(a:zt)(s:U):(evW E O).round l a s=kw E (evW E O) l a s:=by
 cases h:kw E (evW E O) l a s with
 |some r=>exact Cc h
 | none=>
  cases h2:(evW E O).round l a s with
  |none=>rfl
  | some r=>
   obtain⟨n,hn⟩:=uq (α:=Z×U) h2;cases n with
   |zero=>cases hn
   |succ n=>
    have h3:kw E (evT E O n) l a s=some r:=hn;have h4:LeS (evT E O n) (evW E O):=⟨λf a s r h=>kH (λn r h=>(kp E O n).call _ _ _ _ h) h,λrd b fr s r h=>kH (λn r h=>(kp E O n).loop _ _ _ _ _ h) h,λl a s r h=>kH (λn r h=>(kp E O n).round _ _ _ _ h) h⟩;rw[(Us E l a s).up _ _ h4 r h3]at h;cases h
def ec(E:Env)(O:Orc)(rd:zw)(b:ICode)(fr:Fr)(s:U):(evW E O).loop rd b fr s=evC E (evW E O) rd (.loop b) fr s:=by
 cases h:evC E (evW E O) rd (.loop b) fr s with
 |some r=>exact Im h
 | none=>
  cases h2:(evW E O).loop rd b fr s with
  |none=>rfl
  | some r=>
   obtain⟨n,hn⟩:=uq (α:=Res×Fr×U) h2;cases n with
   |zero=>cases hn
   |succ n=>
    have h3:evC E (evT E O n) rd (.loop b) fr s=some r:=hn;have h4:LeS (evT E O n) (evW E O):=⟨λf a s r h=>kH (λn r h=>(kp E O n).call _ _ _ _ h) h,λrd b fr s r h=>kH (λn r h=>(kp E O n).loop _ _ _ _ _ h) h,λl a s r h=>kH (λn r h=>(kp E O n).round _ _ _ _ h) h⟩;rw[(lH E rd (.loop b) fr s).up _ _ h4 r h3]at h;cases h
def FS(E:Env)(O:Orc)(rd:zw)(b:ICode)(fr:Fr)(s:U):evC E (evW E O) rd (.loop b) fr s=ko (λf t=>evC E (evW E O) rd (.loop b) f t) (evC E (evW E O) rd b fr s):=by
 show ko ((evW E O).loop rd b) _=_
 congr 1
 funext f t
 exact ec E O rd b f t
def zzc(E:Env)(S:Self)(l:Nat)(asg body:ICode)(s:U):Option zu->zb
 |some A=>ua E S l body (evC E S (some l) asg {A:=A,df:=[]} s)
 |none=>none
def zx0(E:Env)(S:Self)(l:Nat)(args:zt)(s:U):zj->zb
 |some (.loop _ _ A ps asg body _)=>zzc E S l asg body s (Zv A ps args)
 |_=>none
def PN(E:Env)(S:Self)(l:Nat)(args:zt)(s:U):kw E S l args s=zx0 E S l args s (s.get l):=by
 unfold kw zx0;cases s.get l with
 |none=>rfl
 |some o=>cases o<;>first|rfl|(simp only[zzc];split<;>simp_all)
theorem PL(E:Env)(S:Self)(l:Nat)(args:zt)(s:U)(st:LSt)(pd:Option Res)(A:zu)(ps:zr)(asg body:ICode)(d:Nat):zx0 E S l args s (some (.loop st pd A ps asg body d))=zzc E S l asg body s (Zv A ps args):=rfl
theorem PM(E:Env)(S:Self)(l:Nat)(asg body:ICode)(s:U)(A:zu):zzc E S l asg body s (some A)=ua E S l body (evC E S (some l) asg {A:=A,df:=[]} s):=rfl
def rbK(E:Env)(S:Self)(l:Nat)(bd:ICode)(fr:Fr)(s:U):zj->zb
 |some (.loop .ready pd A ps asg body d)=>jA l (evC E S (some l) bd fr (s.put l (.loop .busy pd A ps asg body d)))
 |_=>none
def Wb(E:Env)(S:Self)(l:Nat)(bd:ICode)(fr:Fr)(s:U):ua E S l bd (some (.norm,fr,s))=rbK E S l bd fr s (s.get l):=by
 unfold ua rbK;simp only;cases s.get l with
 |none=>rfl
 |some o=>cases o<;>first|rfl|(rename_i st _ _ _ _ _ _;cases st<;>rfl)
theorem PJ(E:Env)(S:Self)(l:Nat)(bd:ICode)(fr:Fr)(s:U)(pd:Option Res)(A:zu)(ps:zr)(asg body:ICode)(d:Nat):rbK E S l bd fr s (some (.loop .ready pd A ps asg body d))=jA l (evC E S (some l) bd fr (s.put l (.loop .busy pd A ps asg body d))):=rfl
def reK(l:Nat)(r:Res)(s:U):zj->zb
 |some (.loop _ _ A ps asg body d)=>match r with
  |.norm=>some (.bool true,s.put l (.loop .ready none A ps asg body d))
  |r=>some (.bool false,s.put l (.loop .done (some r) A ps asg body d))
 |_=>none
def Qi(l:Nat)(r:Res)(fr:Fr)(s:U):jA l (some (r,fr,s))=reK l r s (s.get l):=by
 unfold jA reK;simp only;cases s.get l with
 |none=>rfl
 |some o=>cases o<;>first|rfl|(cases r<;>rfl)
theorem fR(l:Nat)(s:U)(st:LSt)(pd:Option Res)(A:zu)(ps:zr)(asg body:ICode)(d:Nat):reK l .norm s (some (.loop st pd A ps asg body d))=some (.bool true,s.put l (.loop .ready none A ps asg body d)):=rfl
theorem zy3(E:Env)(S:Self)(rd:zw)(g:Opd)(ps:zr)(asg body:ICode)(fr:Fr)(s:U):evC E S rd (.rf g ps asg body) fr s=rfR S rd (g.ev fr.A) ps asg body fr s:=rfl
theorem zx4(S:Self)(f:Nat)(a c:zt)(ps:zr)(asg body:ICode)(A:zu)(df:zr)(s:U):rfR S none (some (.fn f a c)) ps asg body ⟨A,df⟩ s=Zt ⟨A,df⟩ (s.next+1) s.next (S.call f (a++ .yld (s.next+1)::c) ((s.alloc .dfd).alloc (.loop .ready none A ps asg body s.next))):=rfl
def feK(fr:Fr)(l d:Nat)(s:U):zj->zh
 |some (.loop st pend A ps asg body dd)=>match st with
  |.busy=>none
  |_=>some (fK pend,{fr with df:=d::fr.df},s.put l (.loop .exhausted pend A ps asg body dd))
 |_=>none
theorem o7(fr:Fr)(l d:Nat)(v:Z)(s:U):Zt fr l d (some (v,s))=feK fr l d s (s.get l):=by
 unfold Zt feK;simp only;cases s.get l with
 |none=>rfl
 |some o=>cases o<;>rfl
theorem Cg(tm0:zu)(df:zr)(l d:Nat)(s:U)(pend:Option Res)(A:zu)(ps:zr)(asg body:ICode)(dd:Nat):feK ⟨tm0,df⟩ l d s (some (.loop .ready pend A ps asg body dd))=some (fK pend,⟨tm0,d::df⟩,s.put l (.loop .exhausted pend A ps asg body dd)):=rfl
theorem oJ:fK none=.norm:=rfl
def xW{α:Type}(f:α->zt):List α->zt
 |[]=>[]
 |x::r=>f x++xW f r
section
variable {α:Type}{f:α->zt}{k:Nat}
def wQ:∀l m:List α,xW f (l++m)=xW f l++xW f m
 |[],_=>rfl
 |x::r,m=>by simp only[yd,xW,wQ r m,List.append_assoc]
def vh(x:α):xW f [x]=f x:=by simp only[xW,List.append_nil]
def qK(h:∀x,(f x).length=k):∀l:List α,(xW f l).length=zM l*k
 |[]=>by simp[xW]
 |x::r=>by simp only[xW,yO,h,qK h r,yw,zvY];omega
def uo(h:∀x,(f x).length=k):∀(i:Nat) (l:List α),wX (i*k) (xW f l)=xW f (l.drop i)
 |0,l=>by rw[qe];simp
 |i+1,[]=>by rw[qe];simp[xW]
 |i+1,x::r=>by
  rw[qe];simp only[xW,xT];rw[<-uo h i r,qe,zvY,Nat.add_comm,<-List.drop_drop]
  congr 1
  rw[<-h x];simp
def Gx(h:∀x,(f x).length=k):∀(i:Nat) (l:List α),tkN (i*k) (xW f l)=xW f (l.take i)
 |0,l=>by rw[gE];simp[xW]
 |i+1,[]=>by rw[gE];simp[xW]
 |i+1,x::r=>by
  rw[gE];simp only[xW,xP];rw[<-Gx h i r,gE,zvY,List.take_append];have e1:(f x).take (i*k+k)=f x:=yb (by rw[h];omega)
  rw[e1,h,Nat.add_sub_cancel]
def vO{a b:zt}(h:List.length a=n):wE n (a++b)=some a:=by
 subst h
 induction a with
 |nil=>rfl
 |cons v r ih=>simp only[yd,yw,wE,ih]
def wI(h:∀x,wo (f x)=true):∀l:List α,wo (xW f l)=true
 |[]=>rfl
 |x::r=>by simp only[xW,kj,h,wI h r,xO]
def vT(h:∀x,wkL (f x)=f x):∀l:List α,wkL (xW f l)=xW f l
 |[]=>rfl
 | x::r=>by
  have ap:∀a b:zt,wkL (a++b)=wkL a++wkL b:=λa b=>by
   induction a with
   |nil=>rfl
   |cons v a ih=>simp only[yd,wkL,ih]
  simp only[xW,ap,h,vT h r]
def ZO(hk:∀x,(f x).length=k)(h0:0<k)(h:∀x y,f x=f y->x=y):∀{l m:List α},xW f l=xW f m->l=m
 |[],[],_=>rfl
 |[],y::m,e=>by
  have:=congrArg zM e;simp only[xW,xN,yO,hk]at this;omega
 |x::l,[],e=>by
  have:=congrArg zM e;simp only[xW,xN,yO,hk]at this;omega
 |x::l,y::m,e=>by
  simp only[xW]at e;obtain⟨h1,h2⟩:=List.append_inj e (by rw[hk,hk])
  rw[h x y h1,ZO hk h0 h h2]
end
inductive DT where
 |mk (k n:Int) (t:zr) (ks:List DT) (p:Int)
mutual
def qA:DT->zt
 |.mk k n t ks p=>[.int .i64 k,.int .i64 n,.str t,.lst (zM ks) false (wy ks),.int .i64 p]
def wy:List DT->zt
 |[]=>[]
 |d::r=>qA d++wy r
end
def ZL(d:DT):Z:=.agg (qA d)
def wz(k n:Int)(t:zr)(ks:List DT)(p:Int):qA (.mk k n t ks p)=[.int .i64 k,.int .i64 n,.str t,.lst (zM ks) false (wy ks),.int .i64 p]:=by simp only[qA]
def kN:wy []=[]:=by simp only[wy]
def jh(d:DT)(r:List DT):wy (d::r)=qA d++wy r:=by simp only[wy]
def vr:∀l:List DT,wy l=xW qA l
 |[]=>by simp only[wy,xW]
 |d::r=>by simp only[wy,xW,vr r]
def uf:∀d:DT,(qA d).length=5
 |.mk _ _ _ _ _=>by simp only[qA,yw,xN]
def uF:∀d:DT,wo (qA d)=true
 |.mk _ _ _ _ _=>by simp only[qA,ww,wA,qL,pm,qn,xO]
def qZ(l:List DT):wo (wy l)=true:=by rw[vr];exact wI uF l
mutual
theorem Ls:∀d:DT,wkL (qA d)=qA d
 |.mk k n t ks p=>by simp only[qA,wkL,wkV,pf ks]
theorem pf:∀l:List DT,wkL (wy l)=wy l
 |[]=>by simp only[wy,wkL]
 | d::r=>by
  have ap:∀a b:zt,wkL (a++b)=wkL a++wkL b:=λa b=>by
   induction a with
   |nil=>rfl
   |cons v a ih=>simp only[yd,wkL,ih]
  simp only[wy,ap,Ls d,pf r]
end
mutual
theorem K5:∀{d e:DT},qA d=qA e->d=e
 |.mk k n t ks p,.mk k' n' t' ks' p',h=>by
  simp only[qA,qJ,Z.int.injEq,Z.str.injEq,Z.lst.injEq,true_and,and_true]at h;obtain⟨rfl,rfl,rfl,⟨_,h1⟩,rfl⟩:=h;rw[Yn h1]
theorem Yn:∀{l m:List DT},wy l=wy m->l=m
 |[],[],_=>rfl
 |[],d::m,h=>by
  have:=congrArg zM h;simp only[wy,xN,yO,uf]at this;omega
 |d::l,[],h=>by
  have:=congrArg zM h;simp only[wy,xN,yO,uf]at this;omega
 |d::l,e::m,h=>by
  simp only[wy]at h;obtain⟨h1,h2⟩:=List.append_inj h (by rw[uf,uf])
  rw[K5 h1,Yn h2]
end
def Xl(i:Nat)(l:List DT):wX (i*5) (wy l)=wy (l.drop i):=by rw[vr,vr];exact uo uf i l
def Qb(l m:List DT):wy (l++m)=wy l++wy m:=by simp only[vr];exact wQ l m
def FG{d e:DT}(h:ZL d=ZL e):d=e:=K5 (by simpa [ZL]using h)
structure Tok where
 kind:Nat
 pos:Nat
 d:DT
attribute [go_sem] Uc zxQ x5 BL nB zvE RC zwz Q5 wM Q4 kJ Ex mh Tg Ik zzD zzC zz3 zz2 zz4 Tt Ts OZ ig ie Km fZ bN TH DL rC mg N5 Sr FX UV CV FN zzB zzA Mz My aY HZ mG dz bt fE bq Rc Eb O9 D5 D8 Rf rT Ra Ec iH D6 iG Rd Rb D9 Re Ea D7 D4 rS QX O3 zzF O4 zzE HA iB S8 Cb nE F5 nF F6 SX Id Td Ih F4 Ia Te SQ F9 F8 If Ca Ig Ii Ij SV SW Ib Ic SY S7 SZ Tc Ta Tb ST SU Ie F7 F3 S6 S9 BY BZ SR oo rQ rP D1 sq sn cI mi Jf FV Sn FT FU fX bG OA Oz DC rt DF DE DD Sp Gq BS FR So MV Db Da cO aq zzg Dr ot ou oz mI MN CG Oa zx3 zzh zzi H7 zw5 zw4 Ss FY BW BX rE Ds zvT zvU Tz TA zvL zvM zvN zvV zvz zvB zvC RL RM RN TE MI TB TC BT Sq zzZ zzY zzX zzS zwp Rw TP CR A9 Ba mE Bb Bd Fk Bc mF Ru En Rt zzW zz0 Rm Rn ET E0 EY EX EW EV Sl Zm MR zvF oh Hz ER E1 EZ YR zwt zwu zz6 zzQ E2 E3 nV zzR AL Rx zzT NT zwq Rp mj Rr Oq Bk nU zzU zws Rs zzV Df zzz T0 zya zwF zwE Ee IY Ma Cp IZ Co Tj Tk IV ml cL Zc WG oq Eh qQ wE wX jk V1 Ch nI nJ wO vV hid Xb x6 wh xS Bool.not_false Bool.true_and Bool.false_and Bool.and_true Bool.and_false Bool.true_or xR Bool.or_true Bool.or_false beq_true Bool.not_not beq_self_eq_true decide_true decide_false Nat.add_zero Nat.zero_add xQ Nat.one_mul Nat.zero_mul Nat.mul_zero Nat.sub_zero Nat.succ_eq_add_one Nat.add_eq Nat.mul_eq Nat.le_refl Nat.lt_irrefl Nat.zero_le gt_iff_lt ge_iff_le ne_eq not_false_eq_true not_true_eq_false eq_self List.nil_append yd yw xN JP and_self and_true true_and x7 gcF Cs Cr gcB gcK N8 zzf zze zx1 Tx Ix H5 rho Pd UU uO qL pm Ha qn V3 uC uD wA ww Cn List.append_nil kj zxD N6 Dp N9 Dq N7 IS IU IT IX wkV wkL WQ DP bP Lp zyU Li rZ TQ Si Sh Sg GQ qJ xP List.take_zero false_and and_false FW lW PN PL PM Wb PJ Qi fR zy3 zx4 o7 Cg oJ
def sxP:=xK (xK (xK (xK (xK @uO @qL) (xK @pm @oW)) (xK (xK @oR @De) (xK @Ha @oV))) (xK (xK (xK @oT @oU) (xK @qn @NU)) (xK (xK @Dd @V3) (xK @uC @uD)))) (xK (xK (xK (xK @wA @ww) (xK @X7 @kj)) (xK (xK @jC @gR) (xK @lC @OI))) (xK (xK (xK @Z5 @Z6) (xK @zzs @DJ)) (xK (xK @OH @OG) (xK @x5 @Mq))))
def dis{p:Prop}(h:p:=by first|assumption|omega|rfl|(simp only[sxP,Bool.and_self,List.length_cons,List.length_nil,List.length_take,List.length_drop, ↓reduceIte,Nat.reduceEqDiff];first|done|omega)|exact Nat.le_of_ble_eq_true rfl|((repeat (first|assumption|apply Byt.drop|apply Byt.take));done)|fail):p:=h
attribute [go_sem] Ko Kd Ki
open Go.RowKit (Below)
section
variable {I φ1:Phi}{ρ:Nat->zw}
end
def zwN(ids:zr)(n k:Nat)(i:Nat):zw:=if i<(zM ids)then ids[i]? else if i<k then some (n+(i-zM ids))else none
structure Emb(s s':U)(ids:zr)(os:zi)(M:Nat):Prop where
 ext:Ext s s'
 len:zM ids<=zM os
 next:s'.next=s.next+(zM os-zM ids)
 old:∀Y,Y<s.next->(∀i,ids[i]? =some Y->M.testBit i=false)->∀o,s'.get Y=some o↔s.get Y=some o
 own:∀i Y,ids[i]? =some Y->M.testBit i=true->∀o1,s'.get Y=some o1->∃o,kX os i=some o/\H5 (zwN ids s.next (zM os)) o=some o1
 new:∀j,zM ids<=j->j<zM os->∀o1,s'.get (s.next+(j-zM ids))=some o1->∃o,kX os j=some o/\H5 (zwN ids s.next (zM os)) o=some o1
 bit:∀i Y,ids[i]? =some Y->M.testBit i=true->s'.wm.testBit Y=true
def zvX(tw Y j n:Nat)(disp:Bool):AObj:=.row tw [.ptr Y 0,.sl j 0 n (.opn 1),.bool disp] false false
def zvI(tb:Nat)(out:zr):AObj:=.row tb (wK out) true false
structure IsW{α:Type}(tw tb:Nat)(enc:α->zt)(Pre:α->zr->Bool->Prop)(args:zt)(s:U)(Y j:Nat)(x:α)(out:zr)(disp:Bool):Prop where
 a:∃r,args=.ptr Y 0::r/\enc x=wkL r
 ne:Y≠j
 hi:Y<s.next
 hj:j<s.next
 w:s.get Y=some (zvX tw Y j (zM out) disp)
 b:s.get j=some (zvI tb out)
 p:Pre x out disp
open Classical in
section
variable {α:Type}{tw tb:Nat}{enc:α->zt}{Pre:α->zr->Bool->Prop}{F:α->Bool->zr}
end
def gr_lst{I:Phi}{Y e:Nat}{cs:zt}{x:Value}(h:VR I (.gr Y e n cs) x):VR I (.lst n false cs) x:=by
 simp only[VR]at h|-;obtain⟨h1,h2,h3,h4,B,ys,h5,h6,h7,h8,h9⟩:=h;exact⟨h1,.inr ⟨B.b,B.o,_,ys,h6,by simp,h7,h8,h9⟩⟩
def Xc(W:World):Phi:=⟨λ_=>none,λb o=>W.cell? ⟨b,o,none⟩⟩
def aw{w:World}{a:Addr}{v:Value}(h:w.cell? a=some v):∃c e fr,w.heap[a.block]? =some (.cells c e fr)/\a.spot=none/\c[a.off]? =some v:=by
 unfold World.cell? at h;cases hb:w.heap[a.block]? with
 |none=>rw[hb]at h;cases h
 |some o=>
  rw[hb]at h;cases o<;>simp only at h<;>first|cases h|skip
  rename_i c e fr
  refine⟨c,e,fr,rfl,?_⟩;cases hs:a.spot with
  |none=>rw[hs]at h;simp at h;exact⟨rfl,h⟩
  |some s=>rw[hs]at h;simp at h
def Va{a:Addr}(h:a.spot=none)(n:Nat):a.add n=⟨a.block,a.off+n,none⟩:=by
 unfold Addr.add;by_cases hn:n=0
 .subst hn;simp;cases a;simp_all
 .rw[x0 hn]
def Do(P:Program)(W:World)(b:Bool):Rel P W (Xc W) (H [] 0 b).get W:=by
 have hg:∀Y o,(H [] 0 b).get Y=some o->False:=λY o h=>by
  rw[zz8]at h;simp[kX]at h
 refine⟨Below.refl _ _,λY o h=>(hg Y o h).elim,λY B h=>(by cases h),λY o B h=>(hg Y o h).elim,λY id' o o' B B' h=>(hg Y o h).elim,λb o v h=>?_,λY o B h=>(hg Y o h).elim⟩
 obtain⟨c,e,fr,h1,_,h3⟩:=aw h;exact⟨c,e,fr,h1,h3⟩
section
variable {H0:Type}{enc:TypeId×Value->H0}{P:Program}{W:World}{sp:Nat->Bool}{held:Bool}{tD tI tS tK tE:TypeId}{fs:Array Field}{α:Type}{f:α->zt}{k:Nat}
structure DatumTy(P:Program)(tD tI tS tK:TypeId)(fs:Array Field):Prop where
 d:P.underlying tD=some (.struct fs)
 fs:fs.toList.map (λf=>(f.type,f.offset))=[(tI,0),(tI,1),(tS,2),(tK,3),(tI,4)]
 i:P.underlying tI=some (.int .i64)
 s:P.underlying tS=some .string
 k:P.underlying tK=some (.slice tD)
 cd:P.cellsOf tD=5
 ci:P.cellsOf tI=1
 cs:P.cellsOf tS=1
 ck:P.cellsOf tK=1
def zxr{α:Type}{l:List α}(h:List.length l=5):∃a b c d e,l=[a,b,c,d,e]:=by
 match l,h with
 |[a,b,c,d,e],_=>exact⟨a,b,c,d,e,rfl⟩
def E8(s:ByteArray):Byt (ur s):=λx hx=>by
 simp only[ur,List.mem_map]at hx;obtain⟨u,_,rfl⟩:=hx;exact u.toNat_lt
end
def zvD(tw:Nat)(disp:Bool):AObj:=.row tw [.nilp,.nils,.bool disp] false false
structure IsW0{α:Type}(tw:Nat)(enc:α->zt)(Pre:α->Bool->Prop)(args:zt)(s:U)(Y:Nat)(x:α)(disp:Bool):Prop where
 a:∃r,args=.ptr Y 0::r/\enc x=wkL r
 hi:Y<s.next
 w:s.get Y=some (zvD tw disp)
 p:Pre x disp
open Classical in
section
variable {α:Type}{tw tb:Nat}{enc:α->zt}{Pre:α->Bool->Prop}{F:α->Bool->zr}
end
def gV(Y esz:Nat):Nat->zt->Z
 |0,_=>.nils
 |k+1,cs=>.gr Y esz (k+1) cs
structure IsG{α:Type}(t esz:Nat)(enc:α->zt)(Pre:α->Nat->zt->Prop)(args:zt)(s:U)(x:α)(k:Nat)(cs:zt)(Y:Nat):Prop where
 a:∃r,args=r++[gV Y esz k cs]/\enc x=wkL r
 z:k=0->Y=0/\cs=[]
 b:k≠0->Y<s.next/\s.get Y=some (.app t cs)
 p:Pre x k cs
open Classical in
section
variable {α:Type}{t esz:Nat}{enc:α->zt}{Pre:α->Nat->zt->Prop}{F:α->Nat×zt}
end
def V{p:Prop}(h:p:=by simp (disch:=first|exact dis|fail)only[go_sem,seval,-Int.reduceOfNat,-Int.reduceNegSucc, *]):p:=h
def sW{p:Prop}(h:p:=by simp (disch:=first|exact dis|fail)only[go_sem,seval,-Int.reduceOfNat,-Int.reduceNegSucc]):p:=h
section
variable {C:Cx}{E:Env}{O:Orc}{c:U}{M:Nat}{ia ib ic:ICode}{fr fr' fr1:Fr}{s s' s1 s2:U}{Q:Res->Fr->U->Prop}{res:Res}
def Is.z(k:Is C E O c M){Z9:Prop}(q:Z9)(h:evC E (evW E O) none ic fr s=some (res,fr',s'):=by (simp (disch:=first|exact dis|fail)only[go_sem,seval,-Int.reduceOfNat,-Int.reduceNegSucc, *];exact rfl))(h2:Q res fr' s'=Z9:=by (try simp only[wJ,ub,Cut,if_true, ↓reduceIte]);first|done|exact rfl):Tri C ic fr s Q:=
 k.eval h (h2▸q)
def Is.q(k:Is C E O c M){Z9:Prop}(q:Z9)(h:evC E (evW E O) none ia fr s=some (res,fr',s'):=by (simp (disch:=first|exact dis|fail)only[go_sem,seval,-Int.reduceOfNat,-Int.reduceNegSucc, *];exact rfl))(h2:wJ (λf t=>Tri C ib f t Q) Q res fr' s'=Z9:=by (try simp only[wJ,ub,Cut,if_true, ↓reduceIte]);first|done|exact rfl):Tri C (.seq ia ib) fr s Q:=
 ql (k.eval h (h2▸q))
def Is.g(k:Is C E O c M)(keep live:zr)(h:gcF false c M keep live true fr s=some (fr1,s1):=by (simp (disch:=first|exact dis|fail)only[go_sem,seval,-Int.reduceOfNat,-Int.reduceNegSucc, *]<;>exact rfl)):Gc C fr s fr1 s1:=k.gcs h
end
def fin{c:U}{M:Nat}{res:List RV}{r:Res}{fr:Fr}{s2:U}{vs:zt}{v0:Z}(h0:r=.norm\/r=.ret:=by exact Or.inr rfl)(h1:qT s fr.df=some s2:=by (simp (disch:=first|exact dis|fail)only[go_sem,seval,-Int.reduceOfNat,-Int.reduceNegSucc, *]<;>exact rfl))(h2:gC E.globs fr.A s2 res=some vs:=by (simp (disch:=first|exact dis|fail)only[go_sem,seval,-Int.reduceOfNat,-Int.reduceNegSucc, *]<;>exact rfl))(h3:XG c.next (jc vs)=some v0:=by (simp (disch:=first|exact dis|fail)only[go_sem,seval,-Int.reduceOfNat,-Int.reduceNegSucc, *]<;>exact rfl))(h4:wkV v0=v:=by (simp (disch:=first|exact dis|fail)only[go_sem,seval,-Int.reduceOfNat,-Int.reduceNegSucc, *]<;>exact rfl))(h5:gcF true c M [] [] c.md {A:=tmL [],df:=[]} s2=some ({A:=tmL [],df:=[]},c'):=by (simp (disch:=first|exact dis|fail)only[go_sem,seval,-Int.reduceOfNat,-Int.reduceNegSucc, *]<;>exact rfl)):Fin E c M res v c' r fr s:=
 Zz h0 h1 h2 h3 h4 h5
end Go.Proofs.YtbdfljdgapkbcaaGreatDoor.Ev

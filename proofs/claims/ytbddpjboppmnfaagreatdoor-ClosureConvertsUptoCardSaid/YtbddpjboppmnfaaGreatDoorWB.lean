/- Contracts of functions that ClosureConverts calls: what a call answers. No conditions. -/
import Derived.Test.YtbddpjboppmnfaaGreatDoorWA
import Derived.Test.YtbddpjboppmnfaaGreatDoorEvH
import Derived.Test.YtbddpjboppmnfaaGreatDoorEvG
set_option linter.unusedSimpArgs false
set_option linter.unusedVariables false
set_option linter.defProp false
set_option maxHeartbeats 4000000
set_option linter.unusedSectionVars false
noncomputable section
open List renaming length → zR, getD_eq_getElem?_getD → xR, length_cons → yJ, getElem?_eq_getElem → xj, length_nil → xY, mem_of_getElem? → xU, length_append → y8, append_nil → zvV, map_cons → ye, mem_cons → zua, cons_append → yu, drop_eq_getElem_cons → zud, eq_nil_of_length_eq_zero → xg, mem_singleton → yF, nil_append → zv1, nodup_cons → zug, getElem?_of_mem → zuh, mem_of_mem_drop → zvY, length_set → zuj, append_assoc → zum, getElem?_inj → zun, getElem?_eq_none → yS, getElem?_set_ne → zup, mem_append → zuq, mem_cons_self → zvZ, getElem?_set → zus, getElem_mem → zuv, mem_map → zuw, getElem?_replicate → zux, drop_left' → zuy, mem_cons_of_mem → zuz, all_cons → zv2
open Nat renaming le_refl → zX, le_of_ble_eq_true → zvT, zero_mod → zv9, or_zero → zub, zero_le → yz, zero_or → zuc, le_trans → yb, lt_succ_self → yK, le_succ → zur, zero_add → xB, testBit_or → xF, mul_one → x8
open Bool renaming false_and → zvW, not_false → zv6, cond_self → zv7, and_self → xZ, true_and → xC, and_false → zv8, not_true → wa, or_false → zue, and_eq_true → zU, and_true → zui, or_self → zuk, or_true → zul, false_or → x9, true_or → zut
open Option renaming bind_some → zuf, bind_none → zuo, isSome_none → zv4
open Int renaming reduceNegSucc → xW, reduceOfNat → xX
open Classical renaming choose → zuu
namespace Go.Proofs.YtbddpjboppmnfaaGreatDoor.Ev
variable {L L2 L0:zb}{n i m n0 j n2 m2 M a0 lo clk N fid esz p sid:Nat}{l hs sc0 ow2 r:zw}{s s':U}{S:ze}{xs:zh}{O:Orc}{fr:Fr}{k f x v vars:Int}{ids:zy}{P:Program}{X:World}{b a:Bool}{a1 a3 a4:Z}
open T
set_option maxRecDepth 100000
attribute [local go_sem] wF wI qh Nat.or_zero Nat.zero_or Nat.zero_mod Bool.cond_self ltF gtF
def be(B:Bx P X)(hO:OrcOk P X O){f:Nat}(F:IFunc){args:zA}{v:Z}(h:Ev (evC env (evW env O) none F.body ⟨qG (tmL []) 0 args,[]⟩ (KL [] 0 0 true)) λr fr t=>Cv (Yu (KL [] 0 0 true) (qJ env.globs F.res (some (r,fr,t)))) λv0 s1=>Fz s1 v0 v)(hF:env.funs.get f=some F:=by exact rfl)(hp:env.pure f=true:=by exact rfl)(ha:List.length args<=F.ntmps:=by exact Nat.le_of_ble_eq_true rfl):∃s1,SC P X f args (s00 0 true) v s1:=
 iP hO B.mixed B.glob B.env (cvF hF hp ha h)
def qM(s:U)(b:Bool):Fz s (.bool b) (.bool b):=by simp only[Fz,wkV]
def wS(s:U)(k:IntKind)(n:Int):Fz s (.int k n) (.int k n):=by simp only[Fz,wkV]
def I2(s:U)(l:zy):Fz s (.str l) (.str l):=by simp only[Fz,wkV]
def oc{f:Nat}{α:Type}{enc:α->zA}{Pre:α->Prop}{F:α->Z}(h:O f=some (v7 enc Pre F))(inj:∀x y,enc x=enc y->x=y)(x:α)(hp:Pre x){args:zA}(ha:wkL args=enc x)(s:U):(evW env O).call f args s=some (F x,s):=by
 rw[qx h,vY inj s x hp ha]
def uo{e:Bool}{cs ds:zA}(hp:wL ds=true)(h:wkL cs=ds):Fz s (.lst n e cs) (.lst n false ds):=by
 simp only[Fz,wkV,h];exact⟨hp,.inl trivial⟩
theorem uc:Fz s .nils (.lst 0 false []):=by simp only[Fz,wkV,wU,true_and];exact .inl trivial
def ve:FzL s [] []:=by simp only[FzL]
def wG{u w:Z}{us ws:zA}(h:Fz s u w)(t:FzL s us ws):FzL s (u::us) (w::ws):=by
 simp only[FzL];exact⟨u,us,rfl,h,t⟩
def gL{us ws:zA}(h:FzL s us ws):Fz s (.agg us) (.agg ws):=by simp only[Fz];exact⟨us,rfl,h⟩
def bew(B:Bx P X)(hO:OrcOk P X O){f:Nat}(F:IFunc){args:zA}{v:Z}(h:Ev (evC env (evW env O) none F.body ⟨qG (tmL []) 0 args,[]⟩ (KL [] 0 0 false)) λr fr t=>Cv (mdR true (qJ env.globs F.res (some (r,fr,t)))) λv0 s1=>Fz s1 v0 v)(hF:env.funs.get f=some F:=by exact rfl)(hp:env.pure f=false:=by exact rfl)(ha:List.length args<=F.ntmps:=by exact Nat.le_of_ble_eq_true rfl):∃s1,SC P X f args (s00 0 true) v s1:=
 iP hO B.mixed B.glob B.env (zvE hF hp ha h)
def WfA(L:zb)(n:Nat):Prop:=∀j,n<=j->wn L j=none
def WfA.cons{n':Nat}{o:zm}(h:WfA L n)(hi:i<n')(hn:n<=n'):WfA ((i,o)::L) n':=λj hj=>by
 rw[gN J];exact h j J
def WfA.lt{o:AObj}(h:WfA L n)(hg:wn L j=some o):j<n:=Nat.lt_of_not_le λhle=>by rw[h j hle]at hg;cases hg
def WfA.same{o:zm}(h:WfA L n)(hi:i<n):WfA ((i,o)::L) n:=h.cons hi (zX _)
def WfA.up{n':Nat}(h:WfA L n)(hn:n<=n'):WfA L n':=λj hj=>h j (yb hn hj)
def gSl(esz Y:Nat):Nat->Z
 |0=>.nils
 |k+1=>.sl Y 0 (k+1) (.opn esz)
def GAt{α:Type}(t:Nat)(f:α->zA)(L:zb)(lo n Y:Nat)(l:List α):Prop:=l≠[]->lo<=Y/\Y<n/\wn L Y=some (.row t (wo f l) true false)
theorem ud(esz Y k:Nat):vF (gSl esz Y k)=true:=by cases k<;>rfl
def zww{α:Type}{t bytes:Nat}{f:α->zA}(hl:∀x,(f x).length=esz)(hs:∀x,w8 (f x)=true)(he:1<=esz){Y:Nat}{vs ws:List α}{y:Z}(hr:GAt t f L lo n Y vs)(hw:WfA L n)(hlo:lo<=n)(h1:gw y=some (zR ws))(h2:ws≠[]->qQ (KL L n m false) esz (zR ws) y=some (wo f ws))(hb:2*(zR vs+zR ws)*bytes<=281474976710656)(hn:zR vs+zR ws<1000000000000):
  Cv (jo (KL L n m false) t esz bytes (gSl esz Y (zR vs)) y) λv s=>∃id' L' n' m',v=gSl esz id' (vs++ws).length/\s=KL L' n' m' false/\GAt t f L' lo n' id' (vs++ws)/\WfA L' n'/\n<=n'/\(∀j,j<lo->wn L' j=wn L j)/\(∀j,j<n->(vs≠[]->j≠Y)->wn L' j=wn L j):=by
 cases ws with
 |nil=>
  refine⟨gSl esz Y (zR vs),KL L n m false,?_,Y,L,n,m,by rw[zvV],rfl,by rw[zvV];exact hr,hw,zX _,λ_ _=>rfl,λ_ _ _=>rfl⟩
  simp only[jo,h1,xY];cases vs<;>rfl
 | cons w ws=>
  have h2:=h2 (by simp)
  simp only[yJ]at h1 h2 hb hn;cases vs with
  |nil=>
   refine⟨_,_,LE (q:=zR ws) h1 h2 (.inl rfl) he (by simp only[xY,xB]at hb;exact hb) (by simp only[xY]at hn;omega),n,_,_,_,rfl,rfl,λ_=>⟨hlo,yK _,by rw[wz,wH rfl];rfl⟩,λj hj=>?_,zur _,λj hj=>by rw[gN J],λj hj _=>by rw[gN J]⟩
   rw[gN J];exact hw j J
  | cons u us=>
   obtain⟨hlo2,hid,g1⟩:=hr (by simp)
   simp only[yJ]at hb hn;refine⟨_,_,LF (q:=zR ws) (by rw[qk];exact g1) (by rw[vI hl];rfl) h1 h2 (Xa hs _) he hb J,n,_,_,_,?_,rfl,λ_=>⟨hlo,yK _,by rw[wz,wH rfl,qu]⟩,λj hj=>?_,zur _,λj hj=>by rw[gN J,gN J],λj hj hne=>by rw[gN J,wz,wx (hne (by simp))]⟩
   .simp only[yu,yJ,y8,gSl]
    congr 1;omega
   .rw[gN J,wz];split
    .rfl
    .exact hw j J
def GAt.ext{α:Type}{t:Nat}{f:α->zA}{lo2 Y:Nat}{l:List α}(h:GAt t f L lo n Y l)(hlo:lo2<=lo)(hn:n<=n2)(hfr:∀j,lo<=j->j<n->wn L2 j=wn L j):GAt t f L2 lo2 n2 Y l:=λhne=>by
 obtain⟨h1,h2,h3⟩:=h hne;exact⟨J,J,by rw[hfr Y h1 h2];exact h3⟩
theorem qq(s:U)(esz Y k:Nat):Vy s .v (gSl esz Y k)=some (.int .i64 (.ofNat k)):=by cases k<;>rfl
def ZF{l:List DT}{o:DT}{r:List DT}(hd:l.drop i=o::r):qf 5 (qv (i*5) (wo qK l))=some (qK o):=by
 rw[jb vD,hd];simp only[wo];exact uT (vD o)
def lU{esz Y k i:Nat}(h:i<k):vIa esz (gSl esz Y k) (.int .i64 (.ofNat i))=some (.ptr Y (i*esz)):=by
 cases k with
 |zero=>omega
 |succ k=>simp only[gSl,vIa,oV .i64 h];simp
def wC(i:Nat)(o:zm)(r:zb):wn ((i,o)::r) i=o:=by rw[wz,wH rfl]
def kQ{G:List zA}{res:List RV}{A:zB}{d:Nat}(h:wn L d=some .dfd):qJ G res (some (.ret,⟨A,[d]⟩,KL L n m b))=Vs G A (KL ((d,some .dfd0)::L) n (gj m d) b) res:=by
 have:vB (KL L n m b) [d]=some (KL ((d,some .dfd0)::L) n (gj m d) b):=by
  simp only[vB,qk,h,lf]
 unfold qJ;simp only[this]
def II{l d:Nat}{U9:zc}{R:Z->U->Prop}{Q:Res->Fr->U->Prop}(hc:Cv U9 R)(h:∀v t,R v t->Ev (ZV fr l d (some (v,t))) Q):Ev (ZV fr l d U9) Q:=by
 obtain⟨v,t,rfl,q⟩:=hc;exact h v t q
def i3:Nat->Int
 |0=>.negSucc 0
 |k+1=>.ofNat k
theorem Yb{k:Nat}(h:k<1000000000001):ji .i64 (Int.sub (.ofNat k) (.ofNat 1))=i3 k:=by
 cases k with
 |zero=>rfl
 |succ k=>rw[si J,Vz J];rfl
section
variable {E:Env}{O:Orc}{rd:zD}{ia ib:ICode}{c:Opd}{A:zB}{df:zy}{s:U}{Q:Res->Fr->U->Prop}
def vM(hc:c.ev A=some (.bool true))(q:Ev (evC E (evW E O) rd ia ⟨A,df⟩ s) Q):Ev (evC E (evW E O) rd (.cond c ia ib) ⟨A,df⟩ s) Q:=by rw[GF,hc,sQ];exact q
def u9(hc:c.ev A=some (.bool false))(q:Ev (evC E (evW E O) rd ib ⟨A,df⟩ s) Q):Ev (evC E (evW E O) rd (.cond c ia ib) ⟨A,df⟩ s) Q:=by rw[GF,hc,sP];exact q
end
section
variable {E:Env}{O:Orc}{rd:zD}{fr:Fr}{s:U}{Q:Res->Fr->U->Prop}{Ir:Fr->U->Prop}{ia ib ic Y ik:ICode}
def mS(h:∀f t,Ir f t->Ev (evC E (evW E O) rd ik f t) Q):∀r f t,qa Ir Q r f t->qa (λf t=>Ev (evC E (evW E O) rd ik f t) Q) Q r f t:=λr f t q=>by
 cases r with
 |norm=>exact h f t q
 |exit i=>exact q
 |ret=>exact q
def qX(Ir:Fr->U->Prop)(h:Ev (evC E (evW E O) rd ia fr s) (qa Ir Q))(h2:∀f t,Ir f t->Ev (evC E (evW E O) rd ik f t) Q):Ev (evC E (evW E O) rd (.seq ia ik) fr s) Q:=
 wp (h.mono (mS h2))
end
structure Atm where
 k:Int
 n:Int
inductive Trm where
 |mk (k v op n f:Int) (az:List Atm) (ks:List Trm)
variable {t:Trm}
structure Fn where
 ps:zw
 rest:Bool
 cont:Bool
 fr:zw
 b:Trm
structure Cd where
 fs:List Fn
 main:Int
 vars:Int
 globals:Int
 consts:List DT
variable {c:Cd}
def wN(n:Int):zA:=[.int .i64 n]
def wY(a:Atm):zA:=[.int .i64 a.k,.int .i64 a.n]
def qt(l:zw):Z:=.lst (zR l) false (wo wN l)
mutual
def wZ:Trm->zA
 |.mk k v op n f az ks=>[.int .i64 k,.int .i64 v,.int .i64 op,.int .i64 n,.int .i64 f,.lst (zR az) false (wo wY az),.lst (zR ks) false (w9 ks)]
def w9:List Trm->zA
 |[]=>[]
 |t::r=>wZ t++w9 r
end
def wW(f:Fn):zA:=qt f.ps::.bool f.rest::.bool f.cont::qt f.fr::wZ f.b
def qc(c:Cd):zA:=[.lst (zR c.fs) false (wo wW c.fs),.int .i64 c.main,.int .i64 c.vars,.int .i64 c.globals,.lst (zR c.consts) false (wQ c.consts)]
def vg(t:Trm):Z:=.agg (wZ t)
def lr(f:Fn):Z:=.agg (wW f)
def v8(c:Cd):Z:=.agg (qc c)
def Trm.kind:Trm->Int|.mk k _ _ _ _ _ _=>k
def Trm.var:Trm->Int|.mk _ v _ _ _ _ _=>v
def Trm.op:Trm->Int|.mk _ _ o _ _ _ _=>o
def Trm.num:Trm->Int|.mk _ _ _ n _ _ _=>n
def Trm.fn:Trm->Int|.mk _ _ _ _ f _ _=>f
def Trm.atoms:Trm->List Atm|.mk _ _ _ _ _ a _=>a
def Trm.kids:Trm->List Trm|.mk _ _ _ _ _ _ k=>k
theorem vA(n:Int):(wN n).length=1:=rfl
theorem uV(a:Atm):(wY a).length=2:=rfl
def wE(k v op n f:Int)(az:List Atm)(ks:List Trm):wZ (.mk k v op n f az ks)=[.int .i64 k,.int .i64 v,.int .i64 op,.int .i64 n,.int .i64 f,.lst (zR az) false (wo wY az),.lst (zR ks) false (w9 ks)]:=by simp only[wZ]
def qi:∀t:Trm,(wZ t).length=7
 |.mk _ _ _ _ _ _ _=>by simp only[wZ,yJ,xY]
def kF:w9 []=[]:=by simp only[w9]
def vx(t:Trm)(r:List Trm):w9 (t::r)=wZ t++w9 r:=by simp only[w9]
def lg:∀l:List Trm,w9 l=wo wZ l
 |[]=>by simp only[w9,wo]
 |t::r=>by simp only[w9,wo,lg r]
def lQ(f:Fn):(wW f).length=11:=by simp only[wW,yJ,qi]
theorem qR(n:Int):wL (wN n)=true:=rfl
theorem ug(a:Atm):wL (wY a)=true:=rfl
def kE:∀t:Trm,wL (wZ t)=true
 |.mk _ _ _ _ _ _ _=>by simp only[wZ,wR,wU,vh,qE,xZ]
def pM(l:List Trm):wL (w9 l)=true:=by rw[lg];exact wX kE l
def jn(l:zw):qg (qt l)=true:=by simp only[qt,qE]
def ZD(f:Fn):wL (wW f)=true:=by simp only[wW,wR,jA,jn,kE,xZ]
def gS(c:Cd):wL (qc c)=true:=by simp only[qc,wR,wU,vh,qE,xZ]
theorem uW(n:Int):w8 (wN n)=true:=rfl
theorem gR(a:Atm):w8 (wY a)=true:=rfl
def gT:∀t:Trm,w8 (wZ t)=true
 |.mk _ _ _ _ _ _ _=>by simp only[wZ,ko,lO,YB,WH,xZ]
def JF(f:Fn):w8 (wW f)=true:=by simp only[wW,qt,ko,Qp,WH,gT,xZ]
def p9(n:Int):wkL (wN n)=wN n:=by simp only[wN,wkL,wkV]
def pS(a:Atm):wkL (wY a)=wY a:=by simp only[wY,wkL,wkV]
def pc(l:zw):wkV (qt l)=qt l:=by simp only[qt,wkV,ua p9]
mutual
theorem UO:∀t:Trm,wkL (wZ t)=wZ t
 |.mk k v op n f az ks=>by simp only[wZ,wkL,wkV,ua pS,YN ks]
theorem YN:∀l:List Trm,wkL (w9 l)=w9 l
 |[]=>by simp only[w9,wkL]
 | t::r=>by
  have ap:∀a b:zA,wkL (a++b)=wkL a++wkL b:=λa b=>by
   induction a with
   |nil=>rfl
   |cons v a ih=>simp only[yu,wkL,ih]
  simp only[w9,ap,UO t,YN r]
end
def LR(f:Fn):wkL (wW f)=wW f:=by simp only[wW,wkL,wkV,pc,UO]
def BD(c:Cd):wkL (qc c)=qc c:=by simp only[qc,wkL,wkV,ua LR,kp]
def eN(t:Trm):wkV (vg t)=vg t:=by simp only[vg,wkV,UO]
def F1(f:Fn):wkV (lr f)=lr f:=by simp only[lr,wkV,LR]
def eI(c:Cd):wkV (v8 c)=v8 c:=by simp only[v8,wkV,BD]
def BE{a b:Int}(h:wN a=wN b):a=b:=by simpa [wN]using h
def nu{a b:Atm}(h:wY a=wY b):a=b:=by
 obtain⟨k,n⟩:=a;obtain⟨k',n'⟩:=b
 simpa [wY]using h
def CM{m:zw}(h:wo wN l=wo wN m):l=m:=pU vA J (λ_ _ h=>BE h) h
def lB{m:zw}(h:qt l=qt m):l=m:=by
 simp only[qt,Z.lst.injEq]at h;exact CM h.2.2
mutual
theorem Za:∀{a b:Trm},wZ a=wZ b->a=b
 |.mk k v op n f az ks,.mk k' v' op' n' f' az' ks',h=>by
  simp only[wZ,vc,Z.int.injEq,Z.lst.injEq,true_and,and_true]at h;obtain⟨rfl,rfl,rfl,rfl,rfl,⟨_,h1⟩,⟨_,h2⟩⟩:=h;rw[JG h2,pU uV J (λ_ _ h=>nu h) h1]
theorem JG:∀{a b:List Trm},w9 a=w9 b->a=b
 |[],[],_=>rfl
 |[],d::m,h=>by
  have:=congrArg zR h;simp only[w9,xY,y8,qi]at this;omega
 |d::l,[],h=>by
  have:=congrArg zR h;simp only[w9,xY,y8,qi]at this;omega
 |d::l,e::m,h=>by
  simp only[w9]at h;obtain⟨h1,h2⟩:=List.append_inj h (by rw[qi,qi])
  rw[Za h1,JG h2]
end
def Gg{a b:Fn}(h:wW a=wW b):a=b:=by
 obtain⟨p,r,c,f,t⟩:=a;obtain⟨p',r',c',f',t'⟩:=b;simp only[wW,vc,Z.bool.injEq]at h;obtain⟨h1,rfl,rfl,h2,h3⟩:=h;rw[lB h1,lB h2,Za h3]
def Gf{a b:Cd}(h:qc a=qc b):a=b:=by
 obtain⟨f,m,v,g,d⟩:=a;obtain⟨f',m',v',g',d'⟩:=b;simp only[qc,vc,Z.int.injEq,Z.lst.injEq,true_and,and_true]at h;obtain⟨⟨_,h1⟩,rfl,rfl,rfl,⟨_,h2⟩⟩:=h;rw[Zc h2,pU lQ J (λ_ _ h=>Gg h) h1]
def Ph{a b:Trm}(h:vg a=vg b):a=b:=Za (by simpa [vg]using h)
def B7{a b:Fn}(h:lr a=lr b):a=b:=Gg (by simpa [lr]using h)
def Pa{a b:Cd}(h:v8 a=v8 b):a=b:=Gf (by simpa [v8]using h)
section
variable {α:Type}{f:α->zA}{k:Nat}
def QI(hk:∀x,(f x).length=k){l:List α}{o:α}{r:List α}(hd:l.drop i=o::r):qf k (qv (i*k) (wo f l))=some (f o):=by
 rw[jb hk,hd];simp only[wo];exact uT (hk o)
end
def zwz{o:Int}(hd:l.drop i=o::r):qf 1 (qv (i*1) (wo wN l))=some [.int .i64 o]:=QI vA hd
def US{l:List Atm}{o:Atm}{r:List Atm}(hd:l.drop i=o::r):qf 2 (qv (i*2) (wo wY l))=some [.int .i64 o.k,.int .i64 o.n]:=QI uV hd
def YR{l:List Trm}{o:Trm}{r:List Trm}(hd:l.drop i=o::r):qf 7 (qv (i*7) (w9 l))=some (wZ o):=by rw[lg];exact QI qi hd
def X0{l:List Fn}{i:Nat}{o:Fn}{r:List Fn}(hd:l.drop i=o::r):qf 11 (qv (i*11) (wo wW l))=some (wW o):=QI lQ hd
def jg(t:Trm):AObj:=.row 44 (wZ t)
def lkK(f:FK)(z:Z)(ok:Bool)(k:Z):zm->zC
 |some (.map es _)=>Ul z ok (lJ f k es 0)
 | some (.umap es)=>match f with
  |.i=>match k with
   |.int .i64 n=>some (lkU z ok (ZA n es))
   |_=>none
  |_=>none
 |_=>none
theorem pe(s:U)(f:FK)(z:Z)(ok:Bool)(Y:Nat)(k:Z):vLk s f z ok (.map Y) k=lkK f z ok k (s.get Y):=by
 simp only[vLk,lkK];cases s.get Y with
 |none=>rfl
 |some o=>cases o<;>rfl
theorem QM(z:Z)(ok:Bool)(n:Int)(es:zp):lkK .i z ok (.int .i64 n) (some (.umap es))=some (lkU z ok (ZA n es)):=rfl
theorem zwM(f:FK)(z:Z)(ok:Bool)(k:Z)(es:zh)(c:Nat):lkK f z ok k (some (.map es c))=Ul z ok (lJ f k es 0):=rfl
theorem Z8(z v:Z):lkU z true (some v)=.tup [v,.bool true]:=rfl
theorem Z7(z:Z):lkU z true none=.tup [z,.bool false]:=rfl
theorem MC(z:Z)(p:Nat×Z):Ul z true (some (some p))=some (.tup [p.2,.bool true]):=rfl
def muK(s:U)(f:FK)(Y:Nat)(k v:Z):zm->zc
 |some (.map es clock)=>match lJ f k es 0 with
  |some (some p)=>some (vJ,s.put Y (.map (sa v k es p.1) clock))
  |some none=>some (vJ,s.put Y (.map (es++[(k,v,clock)]) (Nat.succ clock)))
  |none=>none
 | some (.umap es)=>match f with
  |.i=>match k with
   |.int .i64 n=>some (vJ,s.put Y (.umap (Xr n v es)))
   |_=>none
  |_=>none
 |_=>none
theorem pR(s:U)(f:FK)(Y:Nat)(k v:Z):oMu s f (.map Y) k v=muK s f Y k v (s.get Y):=by
 simp only[oMu,muK];cases s.get Y with
 |none=>rfl
 |some o=>cases o<;>rfl
theorem Um(s:U)(Y:Nat)(n:Int)(v:Z)(es:zp):muK s .i Y (.int .i64 n) v (some (.umap es))=some (vJ,s.put Y (.umap (Xr n v es))):=rfl
def mdK(s:U)(f:FK)(Y:Nat)(k:Z):zm->zc
 |some (.map es clock)=>match lJ f k es 0 with
  |some (some p)=>some (vJ,s.put Y (.map (nA es p.1) clock))
  |some none=>some (vJ,s.put Y (.map es clock))
  |none=>none
 | some (.umap es)=>match f with
  |.i=>match k with
   |.int .i64 n=>some (vJ,s.put Y (.umap (VV n es)))
   |_=>none
  |_=>none
 |_=>none
theorem TO(s:U)(f:FK)(Y:Nat)(k:Z):oMd s f (.map Y) k=mdK s f Y k (s.get Y):=by
 simp only[oMd,mdK];cases s.get Y with
 |none=>rfl
 |some o=>cases o<;>rfl
theorem zwP(s:U)(Y:Nat)(n:Int)(es:zp):mdK s .i Y (.int .i64 n) (some (.umap es))=some (vJ,s.put Y (.umap (VV n es))):=rfl
def lnK:zm->zC
 |some (.map es _)=>some (.int .i64 (.ofNat (vC es)))
 |some (.umap es)=>some (.int .i64 (.ofNat (vC es)))
 |_=>none
theorem mD(s:U)(Y:Nat):Vy s .m (.map Y)=lnK (s.get Y):=by
 simp only[Vy,lnK];cases s.get Y with
 |none=>rfl
 |some o=>cases o<;>rfl
theorem zyj(es:zp):lnK (some (.umap es))=some (.int .i64 (.ofNat (zR es))):=by rw[<-qT];rfl
theorem KD(l:zb)(n m:Nat)(b:Bool)(hd:zi)(on:zg):Up env.um (KL l n m b hd on)=some (.map n,KL ((n,some (.umap []))::l) (n+1) m b hd on):=rfl
def uS(l:zw):zp:=l.map λx=>(x,.agg [])
def zwh(l:zw):(uS l).length=zR l:=List.length_map _
theorem c9:∀l:zw,QO (uS l)=true
 |[]=>rfl
 |x::r=>by
  show (qg (.agg [])&&QO (uS r))=true;rw[c9 r];rfl
def c8:∀l:zw,(uS l).map (·.1)=l
 |[]=>rfl
 |x::r=>congrArg (x:: ·) (c8 r)
theorem pN(a b:Int):eqI a b=decide (a=b):=by rw[j6];rfl
def ZN{n:Int}:∀{l:zw},n∈l->ZA n (uS l)=some (.agg [])
 |x::r,h=>by
  simp only[uS,ye,ZA,pN];by_cases e:x=n
  .rw[qL e];rfl
  .rw[qy e,wK];exact ZN (l:=r) (by rcases List.mem_cons.1 h with h|h;exact absurd h.symm e;exact h)
def pj{n:Int}:∀{l:zw},n∉l->ZA n (uS l)=none
 |[],_=>rfl
 |x::r,h=>by
  simp only[zua,not_or]at h;simp only[uS,ye,ZA,pN];rw[qy (Ne.symm h.1),wK];exact pj (l:=r) h.2
def YC{n:Int}:∀{l:zw},n∉l->Xr n (.agg []) (uS l)=uS (l++[n])
 |[],_=>rfl
 |x::r,h=>by
  simp only[zua,not_or]at h;simp only[uS,ye,Xr,pN,yu];rw[qy (Ne.symm h.1),wK];have:=YC (l:=r) h.2;simp only[uS]at this;rw[this]
def AX{n:Int}:∀{l:zw},n∈l->Xr n (.agg []) (uS l)=uS l
 | x::r,h=>by
  simp only[uS,ye,Xr,pN];by_cases e:x=n
  .rw[qL e,wy,e]
  .rw[qy e,wK];have:=AX (l:=r) (by rcases List.mem_cons.1 h with h|h;exact absurd h.symm e;exact h)
   simp only[uS]at this;rw[this]
def Qz(l:zw)(x:Int):zw:=if x∈l then l else l++[x]
def OB(l:zw)(x:Int):Xr x (.agg []) (uS l)=uS (Qz l x):=by
 unfold Qz;split
 .rename_i h;exact AX h
 .rename_i h;exact YC h
def po(sc ow:zw)(x:Int):zw:=if x∈sc then ow else Qz ow x
def kB(h:j≠i):(m|||1<<<i).testBit j=m.testBit j:=by
 rw[xF,Nat.one_shiftLeft,Nat.testBit_two_pow];simp[Ne.symm h]
def eY{x:Int}:∀{xs:zh} (i:Nat),(∀q∈xs,∃n,q.1=.int .i64 n/\q.2.1=.agg [])->(∃q∈xs,q.1=.int .i64 x)->∃p,lJ .i (.int .i64 x) xs i=some (some p)/\p.2=.agg []
 |[],_,_,h=>by obtain⟨q,hq,_⟩:=h;cases hq
 | q::xs,i,ha,h=>by
  obtain⟨n,h1,h2⟩:=ha q (by simp)
  have e1:eq1 .i (.int .i64 x) (.int .i64 n)=some (decide (x=n)):=by
   rw[<-pN];rfl
  simp only[lJ,h1,e1];by_cases hx:x=n
  .rw[qL hx];exact⟨_,rfl,h2⟩
  .rw[qy hx];refine eY _ (λq hq=>ha q (by simp[hq])) ?_
   obtain⟨q',hq',he⟩:=h;rcases List.mem_cons.1 hq' with rfl|hq'
   .rw[h1]at he;cases he;exact absurd rfl hx
   .exact⟨q',hq',he⟩
section
variable {O:Orc}
attribute [local go_sem] pe QM Z8 Z7 pR Um in
def Rd(h72:O 72=none){sc ow:zw}{g:Bool}{p1 p2 p3 oid:Nat}(hw:WfA L n)(g1:wn L p1=some (.row 74 [.map sid]))(g2:wn L p2=some (.row 74 [.map oid]))(g3:wn L p3=some (.row 4 [.bool g]))(gs:wn L sid=some (.umap (uS sc)))(go:wn L oid=some (.umap (uS ow)))
  (m:Nat) (b:Bool):Cv (cl O 72 [x,.ptr p1 0,.ptr p2 0,.ptr p3 0] (KL L n m b)) λv t=>∃L2 n2 m2,t=KL L2 n2 m2 b/\WfA L2 n2/\n<=n2/\wn L2 oid=some (.umap (uS (po sc ow x)))/\wn L2 p3=some (.row 4 [.bool (g||(decide (x∉sc)&&decide (x∉ow)))])/\∀j,j<n->j≠oid->j≠p3->wn L2 j=wn L j/\m2.testBit j=m.testBit j:=by
 refine qD (F:=f72) h72 rfl rfl (zvT rfl) ?_;unfold f72 cF;simp only;have l1:=hw.lt g1;have l2:=hw.lt g2;have l3:=hw.lt g3;have l4:=hw.lt gs;have l5:=hw.lt go;have fin:∀{L2:zb} {n2 m2:Nat},WfA L2 n2->n<=n2->(∀j,j<n->j≠oid->j≠p3->wn L2 j=wn L j/\m2.testBit j=m.testBit j)->∀ow2 g2,wn L2 oid=some (.umap (uS ow2))->wn L2 p3=some (.row 4 [.bool g2])->ow2=po sc ow x->g2=(g||(decide (x∉sc)&&decide (x∉ow)))->∃L2' n2' m2',KL L2 n2 m2 b=KL L2' n2' m2' b/\WfA L2' n2'/\n<=n2'/\wn L2' oid=some (.umap (uS (po sc ow x)))/\wn L2' p3=some (.row 4 [.bool (g||(decide (x∉sc)&&decide (x∉ow)))])/\∀j,j<n->j≠oid->j≠p3->wn L2' j=wn L j/\m2'.testBit j=m.testBit j:=by
  intro L2 n2 m2 q1 q2 q3 ow2 g2 q4 q5 q6 q7;subst q6;subst q7;exact⟨L2,n2,m2,rfl,q1,q2,q4,q5,q3⟩
 by_cases hs:x∈sc
 .have e1:=ZN hs;by_cases ho:x∉ow
  .have e2:=pj ho;refine wq ?_;refine wq ?_;refine wq ?_;refine ev_zc ?_;refine fin ?_ J (λj h1 h2 h3=>?_) _ _ ?_ ?_ (show ow=po sc ow x from (wH hs).symm) (show g=(g||(decide (x∉sc)&&decide (x∉ow)))from by simp[hs])
   ·(repeat first|exact hw.up J|refine WfA.same ?_ J)
   .exact⟨by (repeat (rw[gN J])),by (repeat rw[kB J])⟩
   ·(repeat (rw[gN J]));exact go
   ·(repeat (rw[gN J]));exact g3
  .have e2:=ZN (Decidable.not_not.1 ho);refine wq ?_;refine wq ?_;refine wq ?_;refine ev_zc ?_;refine fin ?_ J (λj h1 h2 h3=>?_) _ _ ?_ ?_ (show ow=po sc ow x from (wH hs).symm) (show g=(g||(decide (x∉sc)&&decide (x∉ow)))from by simp[hs])
   ·(repeat first|exact hw.up J|refine WfA.same ?_ J)
   .exact⟨by (repeat (rw[gN J])),by (repeat rw[kB J])⟩
   ·(repeat (rw[gN J]));exact go
   ·(repeat (rw[gN J]));exact g3
 .have e1:=pj hs;by_cases ho:x∈ow
  .have e2:=ZN ho;refine wq ?_;refine wq ?_;refine wq ?_;refine ev_zc ?_;refine fin ?_ J (λj h1 h2 h3=>?_) _ _ ?_ ?_ (show ow=po sc ow x from by unfold po Qz;rw[wx hs,wH ho]) (show g=(g||(decide (x∉sc)&&decide (x∉ow)))from by simp[ho])
   ·(repeat first|exact hw.up J|refine WfA.same ?_ J)
   .exact⟨by (repeat (rw[gN J])),by (repeat rw[kB J])⟩
   ·(repeat (rw[gN J]));exact go
   ·(repeat (rw[gN J]));exact g3
  .have e2:=pj ho;have e5:=YC ho;have d1:oid≠p3:=by rintro rfl;rw[g3]at go;cases go
   have d2:p3≠oid:=Ne.symm d1;refine wq ?_;refine wq ?_;refine wq ?_;refine ev_zc ?_;refine fin ?_ J (λj h1 h2 h3=>?_) _ _ ?_ ?_ (show ow++[x]=po sc ow x from by unfold po Qz;rw[wx hs,wx ho]) (show true=(g||(decide (x∉sc)&&decide (x∉ow)))from by simp[hs,ho])
   ·(repeat first|exact hw.up J|refine WfA.same ?_ J)
   .exact⟨by (repeat (rw[gN J])),by (repeat rw[kB J])⟩
   .rw[wz,wx d1,wC]
   .rw[wC]
attribute [local go_sem] pe QM zwM Z8 Z7 MC pR Um in
def zzN(h72:O 72=none){sc:zw}{p1 p2 p3 oid:Nat}{p:Nat×Z}(hw:WfA L n)(g1:wn L p1=some (.row 74 [.map sid]))(g2:wn L p2=some (.row 74 [.map oid]))(gs:wn L sid=some (.umap (uS sc)))(go:wn L oid=some (.map xs clk))(hf:lJ .i (.int .i64 x) xs 0=some (some p))(hp:p.2=.agg [])
  (m:Nat) (b:Bool):Cv (cl O 72 [x,.ptr p1 0,.ptr p2 0,.ptr p3 0] (KL L n m b)) λv t=>∃L2 n2 m2,t=KL L2 n2 m2 b/\WfA L2 n2/\n<=n2/\∀j,j<n->wn L2 j=wn L j/\m2.testBit j=m.testBit j:=by
 refine qD (F:=f72) h72 rfl rfl (zvT rfl) ?_;unfold f72 cF;simp only;have l1:=hw.lt g1;have l2:=hw.lt g2;have l4:=hw.lt gs;have l5:=hw.lt go;by_cases hs:x∈sc
 .have e1:=ZN hs;refine wq ?_;refine wq ?_;refine wq ?_;refine ev_zc ?_;refine⟨_,_,_,rfl,?_,J,λj h1=>?_⟩
  ·(repeat first|exact hw.up J|refine WfA.same ?_ J)
  .exact⟨by (repeat (rw[gN J])),by (repeat rw[kB J])⟩
 .have e1:=pj hs;refine wq ?_;refine wq ?_;refine wq ?_;refine ev_zc ?_;refine⟨_,_,_,rfl,?_,J,λj h1=>?_⟩
  ·(repeat first|exact hw.up J|refine WfA.same ?_ J)
  .exact⟨by (repeat (rw[gN J])),by (repeat rw[kB J])⟩
end
def IR(S:ze)(j:Int):zw:=S.getD j.toNat []
def uy(sc ow:zw):List Atm->zw
 |[]=>ow
 |a::r=>uy sc (bif eqD a.k (.ofNat 1)then po sc ow a.n else ow) r
def QZ(sc ow:zw):zw->zw
 |[]=>ow
 |x::r=>QZ sc (po sc ow x) r
def uj(k:Int):Bool:=eqD k (.ofNat 1)||eqD k (.ofNat 2)
def Qy(S:ze)(i:Nat)(k f:Int)(az:List Atm)(sc ow:zw):zw:=
 bif eqD k (.ofNat 2)then (if f.toNat=i then uy sc ow az else QZ sc (uy sc ow az) (IR S f))else uy sc ow az
def scB(k v:Int)(sc:zw):zw:=bif uj k then Qz sc v else sc
mutual
def jT(S:ze)(i:Nat):Trm->zw->zw->zw
 |.mk k v _ _ f az ks,sc,ow=>jC S i ks (scB k v sc) (Qy S i k f az sc ow)
def jC(S:ze)(i:Nat):List Trm->zw->zw->zw
 |[],_,ow=>ow
 |x::r,sc,ow=>jT S i x sc (jC S i r sc ow)
end
mutual
def qb:Trm->Nat
 |.mk _ _ _ _ _ _ ks=>1+qY ks
def qY:List Trm->Nat
 |[]=>0
 |t::r=>qb t+qY r
end
mutual
def VH(N:Nat):Trm->Prop
 |.mk k _ _ _ f az ks=>zR az<1000000000/\zR ks<=2/\(eqD k (.ofNat 2)=true->∃j,f=.ofNat j/\j<N)/\KW N ks
def KW(N:Nat):List Trm->Prop
 |[]=>True
 |t::r=>VH N t/\KW N r
end
def HX(sc ow:zw)(x:Int):zR ow<=(po sc ow x).length:=by
 unfold po Qz;split
 .exact zX _
 .split
  .exact zX _
  .simp
def EE(sc ow:zw)(x:Int)(a:Nat)(ha:a<=List.length ow):decide ((po sc ow x).length≠a)=(decide (List.length ow≠a)||(decide (x∉sc)&&decide (x∉ow))):=by
 unfold po Qz;by_cases h1:x∈sc
 .rw[wH h1];simp[h1]
 .rw[wx h1];by_cases h2:x∈ow
  .rw[wH h2];simp[h2]
  .rw[wx h2];have:(ow++[x]).length≠a:=by simp;omega
   rw[qL this];simp[h1,h2]
def Xu{sc ow:zw}(h:ow.Nodup):(po sc ow x).Nodup:=by
 unfold po Qz;split
 .exact h
 .split
  .exact h
  .rename_i h1
   rw[List.nodup_append];exact⟨h,by simp,λa ha b hb=>by
    simp only[yF]at hb;subst hb;rintro rfl;exact h1 ha⟩
def YK(sc:zw):∀(az:List Atm) (ow:zw),zR ow<=(uy sc ow az).length
 |[],ow=>zX _
 |a::r,ow=>by
  simp only[uy];refine yb ?_ (YK sc r _);cases eqD a.k (.ofNat 1)with
  |true=>exact HX _ _ _
  |false=>exact zX _
def dZ(sc:zw):∀(l:zw) (ow:zw),zR ow<=(QZ sc ow l).length
 |[],ow=>zX _
 |x::r,ow=>yb (HX _ _ _) (dZ sc r _)
structure CapE where
 ids:zy
 S:ze
 i:Nat
 fid:Nat
 sid:Nat
 c:Cap
 xx:Bool
 ff:Bool
variable {E:CapE}
def CapE.oid(E:CapE):Nat:=E.ids.getD E.i 0
def CapE.W(E:CapE)(j:Nat):Prop:=j∈E.ids\/j=E.sid
structure CapM(E:CapE)(L:zb)(n:Nat)(sc ow:zw):Prop where
 wf:WfA L n
 len:zR E.S=zR E.ids
 nd:E.ids.Nodup
 hi:E.i<zR E.ids
 row:wn L E.fid=some (.row 74 (E.ids.map .map) E.xx E.ff)
 oth:∀j Y,E.ids[j]? =some Y->j≠E.i->wn L Y=some (.umap (uS (E.S.getD j [])))
 own:wn L E.oid=some (.umap (uS ow))
 sco:wn L E.sid=some (.umap (uS sc))
 sd:E.sid∉E.ids
section
variable {E:CapE}{L:zb}{n:Nat}{sc ow:zw}
theorem CapM.oid(h:CapM E L n sc ow):E.ids[E.i]? =some E.oid:=by
 unfold CapE.oid;rw[xR,xj h.hi];rfl
def CapM.oidW(h:CapM E L n sc ow):E.oid∈E.ids:=xU h.oid
def CapM.one(h:CapM E L n sc ow){Y:Nat}(hj:E.ids[j]? =some Y)(hne:j≠E.i):Y≠E.oid:=λe=>hne (by
 have h1:=h.oid;rw[<-e]at h1;exact(zun (List.getElem?_eq_some_iff.1 hj).1 h.nd).1 (hj.trans h1.symm))
end
def CapM.turn{sc ow:zw}(h:CapM E L n sc ow)(hw:WfA L2 n2)(ho:wn L2 E.oid=some (.umap (uS ow2)))(hf:∀j,j<n->j≠E.oid->(E.W j\/j=E.fid)->wn L2 j=wn L j):CapM E L2 n2 sc ow2 where
 wf:=hw
 len:=h.len
 nd:=h.nd
 hi:=h.hi
 row:=by rw[hf E.fid (h.wf.lt h.row) (λe=>by have h1:=h.row;rw[e,h.own]at h1;cases h1) (.inr rfl)];exact h.row
 oth:=λj Y hj hne=>by
  have h1:=h.oth j Y hj hne;rw[hf Y (h.wf.lt h1) (h.one hj hne) (.inl (.inl (xU hj)))];exact h1
 own:=ho
 sco:=by rw[hf E.sid (h.wf.lt h.sco) (λe=>h.sd (e▸h.oidW)) (.inl (.inr rfl))];exact h.sco
 sd:=h.sd
def de(n0:Nat):Z:=.fn 72 [] [.ptr (n0+1) 0,.ptr (n0+1+1) 0,.ptr (n0+1+1+1) 0]
structure CapS(E:CapE)(L0:zb)(n0 a0:Nat)(sc0:zw)(t:Trm)(hs ow:zw)(L:zb)(n m hid:Nat):Prop where
 M:CapM E L n (sc0++hs) ow
 n4:n0+1+1+1+1<=n
 r0:wn L n0=some (jg t)
 r1:wn L (n0+1)=some (.row 74 [.map E.sid])
 r2:wn L (n0+1+1)=some (.row 74 [.map E.oid])
 r3:wn L (n0+1+1+1)=some (.row 4 [.bool (decide (zR ow≠a0))])
 hr:GAt 3 wN L (n0+1+1+1+1) n hid hs
 le:a0<=zR ow
 nd:ow.Nodup
 ds:∀v∈hs,v∉sc0
 lt:∀j,E.W j\/j=E.fid->j<n0
 fr:∀j,j<n0->¬E.W j->wn L j=wn L0 j/\m.testBit j=false
structure CapT(E:CapE)(n0 hid:Nat)(hs:zw)(T:List (Nat×Z)):Prop where
 t1:G T 1 (.sl E.fid 0 (zR E.ids) E.c)
 t4:G T 4 (.ptr n0 0)
 t6:G T 6 (.ptr (n0+1) 0)
 t7:G T 7 (.ptr (n0+1+1) 0)
 t8:G T 8 (.ptr (n0+1+1+1) 0)
 t9:G T 9 (de n0)
 t10:G T 10 (gSl 1 hid hs.length)
def YG(E:CapE)(L0:zb)(n0 a0:Nat)(sc0:zw)(t:Trm)(hs ow:zw)(fr:Fr)(s:U):Prop:=
 ∃T L n m hid,fr=⟨tmL T,[]⟩/\s=KL L n m false/\CapT E n0 hid hs T/\CapS E L0 n0 a0 sc0 t hs ow L n m hid
def CapS.use{ow:zw}{hid:Nat}(h:CapS E L0 n0 a0 sc0 t hs ow L n m hid)(hw:WfA L2 n2)(hn:n<=n2)(h1:wn L2 E.oid=some (.umap (uS (po (sc0++hs) ow x))))(h2:wn L2 (n0+1+1+1)=some (.row 4 [.bool (decide (List.length ow≠a0)||(decide (x∉sc0++hs)&&decide (x∉ow)))]))(hf:∀j,j<n->j≠E.oid->j≠n0+1+1+1->wn L2 j=wn L j/\m2.testBit j=m.testBit j):CapS E L0 n0 a0 sc0 t hs (po (sc0++hs) ow x) L2 n2 m2 hid:=by
 have n4:=h.n4;have ho:E.oid<n0:=h.lt _ (.inl (.inl h.M.oidW))
 exact{
  M:=h.M.turn hw h1 λj hj hne hW=>(hf j hj hne (by have:=h.lt j hW;omega)).1
  n4:=J
  r0:=by rw[(hf n0 J J J).1];exact h.r0
  r1:=by rw[(hf (n0+1) J J J).1];exact h.r1
  r2:=by rw[(hf (n0+1+1) J J J).1];exact h.r2
  r3:=by rw[EE _ _ _ _ h.le];exact h2
  hr:=h.hr.ext (zX _) hn λj h1 h2=>(hf j h2 J J).1
  le:=yb h.le (HX _ _ _)
  nd:=Xu h.nd
  ds:=h.ds
  lt:=h.lt
  fr:=λj hj hW=>by
   have:=hf j J (λe=>hW (e▸.inl h.M.oidW)) J;rw[this.1,this.2];exact h.fr j hj hW}
open Nat (reduceEqDiff reduceLeDiff reduceLT reduceAdd reduceMul reduceSub reduceMod reducePow reduceDiv reduceOr reduceShiftLeft reduceGT reduceSucc)
open List (length_cons length_nil length_take length_drop)
open Int (reduceOfNat reduceNegSucc)
def kR:ICode:=match f48.body with
 |.seq _ (.seq _ (.seq _ (.seq (.block _ (.loop (.block _ b))) _)))=>b
 |_=>.skip
def zyP:ICode:=match kR with
 |.seq a _=>a
 |_=>.skip
def RR:ICode:=match kR with
 |.seq _ (.seq b _)=>b
 |_=>.skip
def dR:ICode:=match kR with
 |.seq _ (.seq _ c)=>c
 |_=>.skip
def CapT.cons{hid:Nat}{T:List (Nat×Z)}(h:CapT E n0 hid hs T){v:Z}(hj:j=5\/10<j):CapT E n0 hid hs ((j,v)::T):=by
 have e:∀i,i≠j->(tmL ((j,v)::T)).get i=(tmL T).get i:=λi hi=>by rw[<-KH,Trie.get_set_ne _ _ hi]
 obtain⟨t1,t4,t6,t7,t8,t9,t10⟩:=h;exact⟨(e _ J).trans t1,(e _ J).trans t4,(e _ J).trans t6,(e _ J).trans t7,(e _ J).trans t8,(e _ J).trans t9,(e _ J).trans t10⟩
def CapS.oth{ow:zw}{hid:Nat}(h:CapS E L0 n0 a0 sc0 t hs ow L n m hid)(hw:WfA L2 n2)(hn:n<=n2)(hf:∀j,j<n->wn L2 j=wn L j/\m2.testBit j=m.testBit j):CapS E L0 n0 a0 sc0 t hs ow L2 n2 m2 hid:=by
 have n4:=h.n4;have ho:E.oid<n0:=h.lt _ (.inl (.inl h.M.oidW))
 exact{
  M:=h.M.turn hw (by rw[(hf E.oid J).1];exact h.M.own) λj hj hne hW=>(hf j hj).1
  n4:=J
  r0:=by rw[(hf n0 J).1];exact h.r0
  r1:=by rw[(hf (n0+1) J).1];exact h.r1
  r2:=by rw[(hf (n0+1+1) J).1];exact h.r2
  r3:=by rw[(hf (n0+1+1+1) J).1];exact h.r3
  hr:=h.hr.ext (zX _) hn λj h1 h2=>(hf j h2).1
  le:=h.le
  nd:=h.nd
  ds:=h.ds
  lt:=h.lt
  fr:=λj hj hW=>by
   have:=hf j J;rw[this.1,this.2];exact h.fr j hj hW}
section
variable {O:Orc}{E:CapE}{L0:zb}{n0 a0:Nat}{sc0 hs ow:zw}{t:Trm}
attribute [local go_sem] qq de in
def RQ(h72:O 72=none)(hl:t.atoms.length<1000000000)(hI:YG E L0 n0 a0 sc0 t hs ow fr s):Ev (evC env (evW env O) none zyP fr s) (qa (YG E L0 n0 a0 sc0 t hs (uy (sc0++hs) ow t.atoms)) λ_ _ _=>False):=by
 obtain⟨T,L,n,m,hid,rfl,rfl,hT,hS⟩:=hI;obtain⟨k,v,op,num,f,az,ks⟩:=t;simp only[Trm.atoms]at hl|-;have r0:=hS.r0;simp only[jg,wE]at r0;have t4:=hT.t4;unfold zyP kR f48 cF;simp only;refine wq ?_;apply wA;refine wP (λx:Nat×zw=>zR az-x.1) (λx fr s=>∃T L n m,fr=⟨tmL T,[]⟩/\s=KL L n m false/\CapT E n0 hid hs T/\G T 20 (.lst (zR az) false (wo wY az))/\G T 21 (zR az)/\G T 22 x.1/\x.1<=zR az/\CapS E L0 n0 a0 sc0 (.mk k v op num f az ks) hs x.2 L n m hid/\uy (sc0++hs) ow az=uy (sc0++hs) x.2 (az.drop x.1)) (λx fr s hI=>?_) (0,ow) ⟨_,L,n,m,rfl,rfl,?_,V,V,V,yz _,hS,rfl⟩
 .obtain⟨T,L,n,m,rfl,rfl,hT,q20,q21,q22,hi,hS,he⟩:=hI;obtain⟨i,ow⟩:=x;simp only at q22 hi hS he;rcases wJ az i with ⟨hi,hd⟩|⟨a,hi,hd⟩
  .have hlt:¬i<zR az:=J;rw[hd]at he;refine wu ?_;exact⟨_,L,n,m,hid,rfl,rfl,hT.cons J,he▸hS⟩
  .have hc:=US hd;obtain⟨ak,an⟩:=a;rw[hd]at he;simp only[uy]at he;have hwf:=hS.M.wf;have n4:=hS.n4;obtain⟨t1,t4,t6,t7,t8,t9,t10⟩:=hT;have hT:CapT E n0 hid hs T:=⟨t1,t4,t6,t7,t8,t9,t10⟩;cases hk:eqD ak (.ofNat 1)with
   | false=>
    rw[hk]at he;refine wu ?_;refine⟨(i+1,ow),⟨_,_,_,_,rfl,rfl,?_,V,V,V,by simp only;omega,?_,he⟩,by simp only;omega⟩
    ·(repeat refine CapT.cons ?_ J);exact hT
    .refine hS.oth ?_ J λj hj=>⟨?_,?_⟩
     ·(repeat first|exact hwf.up J|refine WfA.same ?_ J)
     ·(repeat (rw[gN J]))
     ·(repeat rw[kB J])
   |true=>
    rw[hk]at he;have g1:=hS.r1;have g2:=hS.r2;have g3:=hS.r3;have gs:=hS.M.sco;have go:=hS.M.own;have l1:=hS.lt E.sid (.inl (.inr rfl));have l2:=hS.lt E.oid (.inl (.inl hS.M.oidW));refine wq ?_;refine wq ?_;refine wp (wA ?_);refine wq ?_;refine wq ?_;refine vM sW ?_;refine qB ?_;refine wO (Rd h72 (sc:=sc0++hs) (ow:=ow) (g:=decide (zR ow≠a0)) (x:=an) (sid:=E.sid) (oid:=E.oid) ?_ ?_ ?_ ?_ ?_ ?_ _ _) λv t hv=>?_
    ·(repeat first|exact hwf.up J|refine WfA.same ?_ J)
    ·(repeat (rw[gN J]));exact g1
    ·(repeat (rw[gN J]));exact g2
    ·(repeat (rw[gN J]));exact g3
    ·(repeat (rw[gN J]));exact gs
    ·(repeat (rw[gN J]));exact go
    obtain⟨L2,n2,m2,rfl,hw2,hn2,q1,q2,q3⟩:=hv;refine wu ?_;refine wu ?_;refine⟨(i+1,po (sc0++hs) ow an),⟨_,L2,n2,m2,rfl,rfl,?_,V,V,V,by simp only;omega,?_,he⟩,by simp only;omega⟩
    ·(repeat refine CapT.cons ?_ J);exact hT
    .refine hS.use hw2 J q1 q2 λj h1 h2 h3=>?_;have:=q3 j J h2 h3;rw[this.1,this.2];exact⟨by (repeat (rw[gN J])),by (repeat rw[kB J])⟩
 ·(repeat refine CapT.cons ?_ J);exact hT
end
def rt{m:zw}(hl:l.Nodup)(hm:m.Nodup)(h:∀x,x∈l↔x∈m):l.Perm m:=by
 rw[List.perm_iff_count];intro x;rw[hl.count,hm.count];simp only[h x]
def Yq{sc ow:zw}{y:Int}:y∈po sc ow x↔y∈ow\/(y=x/\x∉sc):=by
 unfold po Qz;split
 .rename_i h;constructor
  .exact .inl
  .rintro(h1|⟨_,h1⟩)
   .exact h1
   .exact absurd h h1
 .rename_i h
  split
  .rename_i h1;constructor
   .exact .inl
   .rintro(h2|⟨rfl,_⟩)
    .exact h2
    .exact h1
  .simp only[zuq,yF];constructor
   .rintro(h2|h2)
    .exact .inl h2
    .exact .inr ⟨h2,h⟩
   .rintro(h2|⟨h2,_⟩)
    .exact .inl h2
    .exact .inr h2
def Wt{sc:zw}{y:Int}:∀{l ow:zw},y∈QZ sc ow l↔y∈ow\/(y∈l/\y∉sc)
 |[],ow=>by simp[QZ]
 | x::l,ow=>by
  simp only[QZ];rw[Wt,Yq];constructor
  .rintro((h|⟨rfl,h⟩)|⟨h,h'⟩)
   .exact .inl h
   .exact .inr ⟨by simp,h⟩
   .exact .inr ⟨by simp[h],h'⟩
  .rintro(h|⟨h,h'⟩)
   .exact .inl (.inl h)
   .rcases List.mem_cons.1 h with rfl|h
    .exact .inl (.inr ⟨rfl,h'⟩)
    .exact .inr ⟨h,h'⟩
def Q0{sc:zw}:∀{l ow:zw},ow.Nodup->(QZ sc ow l).Nodup
 |[],_,h=>h
 |x::l,ow,h=>Q0 (l:=l) (Xu h)
structure XsOk(l:zw)(xs:zh)(clk:Nat):Prop where
 key:∀q∈xs,∃n,q.1=.int .i64 n/\q.2.1=.agg []/\n∈l
 all:∀n∈l,∃q∈xs,q.1=.int .i64 n
 one:∀q∈xs,∀q'∈xs,q.1=q'.1->q=q'
 st:(xs.map (·.2.2)).Nodup
 old:∀q∈xs,q.2.2<clk
 nd:l.Nodup
def PR:∀{xs:zh},(xs.map (·.1)).Nodup->∀q∈xs,∀q'∈xs,q.1=q'.1->q=q'
 |[],_,q,hq,_,_,_=>by cases hq
 |a::xs,h,q,hq,q',hq',e=>by
  simp only[ye,zug,zuw,not_exists,not_and]at h;rcases List.mem_cons.1 hq with e1|hq<;>rcases List.mem_cons.1 hq' with e2|hq'
  .rw[e1,e2]
  .exact absurd (e.symm.trans (by rw[e1])) (h.1 q' hq')
  .exact absurd (e.trans (by rw[e2])) (h.1 q hq)
  .exact PR h.2 q hq q' hq' e
def XsOk.of(h:Lw (uS l) xs clk):XsOk l xs clk:=by
 obtain⟨h1,h2,h3,h4⟩:=h;rw[c8]at h4;have e:(uS l).map (λq=>(Z.int .i64 q.1,q.2))=l.map λx=>(Z.int .i64 x,Z.agg []):=by simp[uS]
 rw[e]at h1;have hk:(xs.map (·.1)).Perm (l.map (Z.int .i64)):=by
  have:=h1.map (·.1)
  simpa [List.map_map,Function.comp_def]using this
 refine⟨λq hq=>?_,λn hn=>?_,PR (hk.nodup_iff.2 (h4.map (f:=Z.int .i64) λa b hab he=>by cases he;exact hab rfl)),h2,h3,h4⟩
 .have:(q.1,q.2.1)∈l.map λx=>(Z.int .i64 x,Z.agg []):=h1.mem_iff.1 (List.mem_map.2 ⟨q,hq,rfl⟩);obtain⟨n,hn,he⟩:=List.mem_map.1 this;simp only[qj]at he;exact⟨n,he.1.symm,he.2.symm,hn⟩
 .have:Z.int .i64 n∈xs.map (·.1):=hk.mem_iff.2 (List.mem_map.2 ⟨n,hn,rfl⟩);obtain⟨q,hq,he⟩:=List.mem_map.1 this;exact⟨q,hq,he⟩
def kr{seen:zy}{p:Z×Z×Nat}:∀{xs:zh},p∈jM seen xs↔p∈xs/\p.2.2∉seen
 |[]=>by simp[jM]
 | q ::xs=>by
  simp only[jM,ZR];cases hc:seen.contains q.2.2 with
  | true=>
   rw[wy,kr];constructor
   .rintro⟨h1,h2⟩;exact⟨by simp[h1],h2⟩
   .rintro⟨h1,h2⟩
    rcases List.mem_cons.1 h1 with rfl|h1
    .simp at hc;exact absurd hc h2
    .exact⟨h1,h2⟩
  | false=>
   rw[wK,zua,kr];constructor
   .rintro(rfl|⟨h1,h2⟩)
    .refine⟨by simp,λh=>?_⟩
     have:seen.contains p.2.2=true:=by simpa using h
     rw[this]at hc;cases hc
    .exact⟨by simp[h1],h2⟩
   .rintro⟨h1,h2⟩
    rcases List.mem_cons.1 h1 with rfl|h1
    .exact .inl rfl
    .exact .inr ⟨h1,h2⟩
def PI:∀xs:zh,jM [] xs=xs
 |[]=>rfl
 |q::xs=>by simp only[jM,ZR,List.contains_nil,wK,PI xs]
def PH{seen:zy}{b:Nat}:∀{xs:zh},(jM (seen++[b]) xs).length<=(jM seen xs).length
 |[]=>zX _
 | q::xs=>by
  have ih:=PH (seen:=seen) (b:=b) (xs:=xs);simp only[jM,ZR];cases h1:seen.contains q.2.2 with
  |true=>
   rw[show (seen++[b]).contains q.2.2=true by simp at h1|-;exact .inl h1]
   exact ih
  |false=>
   cases (seen++[b]).contains q.2.2<;>simp only[wy,wK,yJ]<;>omega
def Ui{seen:zy}{p:Z×Z×Nat}:∀{xs:zh},p∈jM seen xs->(jM (seen++[p.2.2]) xs).length<(jM seen xs).length
 | q::xs,h=>by
  have ih:=PH (seen:=seen) (b:=p.2.2) (xs:=xs);simp only[jM,ZR]at h|-;cases h1:seen.contains q.2.2 with
  |true=>
   rw[h1]at h;rw[show (seen++[p.2.2]).contains q.2.2=true by simp at h1|-;exact .inl h1]
   exact Ui h
  | false=>
   rw[h1,wK]at h;rcases List.mem_cons.1 h with rfl|h
   .rw[show (seen++[p.2.2]).contains p.2.2=true by simp]
    simp only[wy,wK,yJ];omega
   .have:=Ui h;cases (seen++[p.2.2]).contains q.2.2<;>simp only[wy,wK,yJ]<;>omega
def PD(l:zy)(b:Nat):QL (l++[b])=some b:=by
 induction l with
 |nil=>rfl
 |cons x l ih=>
  cases l with
  |nil=>rfl
  |cons y l=>simp only[yu,QL]at ih|-;exact ih
def GL{p:Z×Z×Nat}:∀{xs:zh},(xs.map (·.2.2)).Nodup->p∈xs->V4 p.2.2 xs=some (p.1,p.2.1)
 | q::xs,h,hp=>by
  simp only[ye,zug,zuw,not_exists,not_and]at h;simp only[V4];rcases List.mem_cons.1 hp with rfl|hp
  .rw[ql.2 rfl];rfl
  .have:Nat.beq q.2.2 p.2.2=false:=by
    cases hb:Nat.beq q.2.2 p.2.2 with
    |false=>rfl
    |true=>exact absurd (ql.1 hb).symm (h.1 p hp)
   rw[this,wK];exact GL h.2 hp
def RgI(sc ow l ow2:zw)(xs:zh)(seen:zy):Prop:=
 ow2.Nodup/\∀x,x∈ow2↔x∈ow\/(x∉sc/\x∈l/\∀p∈jM seen xs,p.1≠.int .i64 x)
def RgI.start{sc ow:zw}(h:XsOk l xs clk)(hn:ow.Nodup):RgI sc ow l ow xs []:=⟨hn,λx=>⟨.inl,λh'=>by
 rcases h' with h'|⟨_,h2,h3⟩
 .exact h'
 .rw[PI]at h3;obtain⟨q,hq,he⟩:=h.all x h2;exact absurd he (h3 q hq)⟩⟩
theorem RgI.step{sc ow:zw}{seen:zy}{p:Z×Z×Nat}(h:XsOk l xs clk)(hI:RgI sc ow l ow2 xs seen)(hp:p∈jM seen xs)(hx:p.1=.int .i64 x):RgI sc ow l (po sc ow2 x) xs (seen++[p.2.2]):=by
 obtain⟨h1,h2⟩:=hI;obtain⟨hp1,hp2⟩:=kr.1 hp;have hst:∀q∈xs,q.2.2=p.2.2->q=p:=λq hq e=>by
  have:∀{xs:zh},(xs.map (·.2.2)).Nodup->∀q∈xs,∀q'∈xs,q.2.2=q'.2.2->q=q':=by
   intro xs
   induction xs with
   |nil=>intro _ q hq;cases hq
   |cons a xs ih=>
    intro h q hq q' hq' e;simp only[ye,zug,zuw,not_exists,not_and]at h;rcases List.mem_cons.1 hq with e1|hq<;>rcases List.mem_cons.1 hq' with e2|hq'
    .rw[e1,e2]
    .exact absurd (e.symm.trans (by rw[e1])) (h.1 q' hq')
    .exact absurd (e.trans (by rw[e2])) (h.1 q hq)
    .exact ih h.2 q hq q' hq' e
  exact this h.st q hq p hp1 e
 refine⟨Xu h1,λy=>?_⟩;rw[Yq,h2];constructor
 .rintro((h3|⟨h3,h4,h5⟩)|⟨rfl,h3⟩)
  .exact .inl h3
  .refine .inr ⟨h3,h4,λq hq=>h5 q ?_⟩;obtain⟨q1,q2⟩:=kr.1 hq;exact kr.2 ⟨q1,λhh=>q2 (by simp[hh])⟩
  .obtain⟨n,e1,_,e3⟩:=h.key p hp1;rw[hx]at e1;cases e1;refine .inr ⟨h3,e3,λq hq e=>?_⟩;obtain⟨q1,q2⟩:=kr.1 hq;have:=h.one q q1 p hp1 (e.trans hx.symm);subst this;exact q2 (by simp)
 .rintro(h3|⟨h3,h4,h5⟩)
  .exact .inl (.inl h3)
  .by_cases hy:y=x
   .exact .inr ⟨hy,hy▸h3⟩
   .refine .inl (.inr ⟨h3,h4,λq hq e=>?_⟩);obtain⟨q1,q2⟩:=kr.1 hq;refine h5 q (kr.2 ⟨q1,λhh=>?_⟩) e;rcases List.mem_append.1 hh with hh|hh
    .exact q2 hh
    .simp only[yF]at hh;have:=hst q q1 hh;subst this;rw[hx]at e;cases e;exact hy rfl
def RgI.fin{sc ow:zw}{seen:zy}(hI:RgI sc ow l ow2 xs seen)(h0:jM seen xs=[])(hn:ow.Nodup):ow2.Perm (QZ sc ow l):=by
 refine rt hI.1 (Q0 hn) λx=>?_;rw[hI.2,Wt,h0];constructor
 .rintro(h|⟨h1,h2,_⟩)
  .exact .inl h
  .exact .inr ⟨h2,h1⟩
 .rintro(h|⟨h1,h2⟩)
  .exact .inl h
  .exact .inr ⟨h2,h1,by simp⟩
open Int renaming reduceOfNat → rO, reduceNegSucc → rN
structure CO(C:Cx)(O:Orc):Prop where
 ok:CxOk C
 e:C.E=env
 o:C.O=O
 r:C.rd=none
def CO.ev{C:Cx}(h:CO C O){ic:ICode}{Q:Res->Fr->U->Prop}(q:Ev (evC env (evW env O) none ic fr s) Q):Tri C ic fr s Q:=zwe h.ok (by rw[h.e,h.o,h.r];exact q)
def Rg{it since st b:Nat}{seen:zy}{es:zh}{p:Z×Z}(h1:s.get it=some (.miter (some m) since seen st))(h2:QL seen=some b)(h3:s.get m=some (.map es clk))(h4:clk=st)(h5:V4 b es=some p):vEn s (.ptr it 0)=some (.tup [p.1,p.2]):=by
 subst h4;simp only[vEn,h1,h2,h3,ql.2 rfl,wy,h5,AH]
theorem zyv{l:zb}{n m Y clk:Nat}{b:Bool}{es:zh}(h:wn l Y=some (.map es clk)):oRm (KL l n m b) (.map Y)=some (.ptr n 0,KL ((n,some (.miter (some Y) clk [] clk))::l) (n+1) m b):=by
 simp only[oRm,qk,h];rfl
def CapM.re{sc ow:zw}(h:CapM E L n sc ow)(hf:∀j,wn L2 j=wn L j):CapM E L2 n sc ow where
 wf:=λj hj=>by rw[hf];exact h.wf j hj
 len:=h.len
 nd:=h.nd
 hi:=h.hi
 row:=by rw[hf];exact h.row
 oth:=λj Y a b=>by rw[hf];exact h.oth j Y a b
 own:=by rw[hf];exact h.own
 sco:=by rw[hf];exact h.sco
 sd:=h.sd
def CapS.re{ow:zw}{hid:Nat}(h:CapS E L0 n0 a0 sc0 t hs ow L n m hid)(hf:∀j,wn L2 j=wn L j)(hm:∀j,j<n0->¬E.W j->m2.testBit j=m.testBit j):CapS E L0 n0 a0 sc0 t hs ow L2 n m2 hid where
 M:=h.M.re hf
 n4:=h.n4
 r0:=by rw[hf];exact h.r0
 r1:=by rw[hf];exact h.r1
 r2:=by rw[hf];exact h.r2
 r3:=by rw[hf];exact h.r3
 hr:=h.hr.ext (zX _) (zX _) λj _ _=>hf j
 le:=h.le
 nd:=h.nd
 ds:=h.ds
 lt:=h.lt
 fr:=λj hj hW=>by rw[hf,hm j hj hW];exact h.fr j hj hW
def CapS.perm{ow:zw}{hid:Nat}(h:CapS E L0 n0 a0 sc0 t hs ow L n m hid)(hp:ow.Perm ow2)(hm:∀j,j<n0->¬E.W j->m2.testBit j=m.testBit j):CapS E L0 n0 a0 sc0 t hs ow2 ((E.oid,some (.umap (uS ow2)))::L) n m2 hid:=by
 have n4:=h.n4;have ho:E.oid<n0:=h.lt _ (.inl (.inl h.M.oidW))
 exact{
  M:=h.M.turn (WfA.same h.M.wf J) (wC _ _ _) λj hj hne hW=>by rw[wz,wx hne]
  n4:=n4
  r0:=by rw[gN J];exact h.r0
  r1:=by rw[gN J];exact h.r1
  r2:=by rw[gN J];exact h.r2
  r3:=by rw[gN J,<-hp.length_eq];exact h.r3
  hr:=h.hr.ext (zX _) (zX _) λj h1 h2=>by rw[gN J]
  le:=by rw[<-hp.length_eq];exact h.le
  nd:=hp.nodup_iff.1 h.nd
  ds:=h.ds
  lt:=h.lt
  fr:=λj hj hW=>by
   have hne:j≠E.oid:=λe=>hW (by rw[e];exact .inl h.M.oidW)
   rw[hm j hj hW,wz,wx hne];exact h.fr j hj hW}
def CapS.itr{ow:zw}{hid it:Nat}(h:CapS E L0 n0 a0 sc0 t hs ow L n m hid)(hw:WfA L2 n2)(hn:n<=n2)(hit:n0+1+1+1+1<=it)(hh:hs≠[]->hid≠it)(hf:∀j,j<n->j≠it->wn L2 j=wn L j)(hm:∀j,j<n0->¬E.W j->m2.testBit j=m.testBit j):CapS E L0 n0 a0 sc0 t hs ow L2 n2 m2 hid:=by
 have n4:=h.n4;have ho:E.oid<n0:=h.lt _ (.inl (.inl h.M.oidW))
 exact{
  M:=h.M.turn hw (by rw[hf E.oid J J];exact h.M.own) λj hj hne hW=>hf j hj (by have:=h.lt j hW;omega)
  n4:=J
  r0:=by rw[hf n0 J J];exact h.r0
  r1:=by rw[hf (n0+1) J J];exact h.r1
  r2:=by rw[hf (n0+1+1) J J];exact h.r2
  r3:=by rw[hf (n0+1+1+1) J J];exact h.r3
  hr:=λhne=>by
   obtain⟨h1,h2,h3⟩:=h.hr hne;exact⟨h1,J,by rw[hf hid h2 (hh hne)];exact h3⟩
  le:=h.le
  nd:=h.nd
  ds:=h.ds
  lt:=h.lt
  fr:=λj hj hW=>by
   rw[hf j J J,hm j hj hW];exact h.fr j hj hW}
def Gd(E:CapE)(k f:Int)(sc ow:zw):zw:=bif eqD k (.ofNat 2)then (if f.toNat=E.i then ow else QZ sc ow (IR E.S f))else ow
theorem RS{sc ow:zw}(h:eqD k (.ofNat 2)=false):Gd E k f sc ow=ow:=by unfold Gd;rw[h];rfl
def Fu{sc ow:zw}(h:eqD k (.ofNat 2)=true)(hj:j=E.i):Gd E k (.ofNat j) sc ow=ow:=by
 unfold Gd;rw[h,wy];exact wH hj
def Ft{sc ow:zw}(h:eqD k (.ofNat 2)=true)(hj:j≠E.i):Gd E k (.ofNat j) sc ow=QZ sc ow (E.S.getD j []):=by
 unfold Gd;rw[h,wy];exact wx hj
section
variable {O:Orc}{E:CapE}{L0:zb}{n0 a0:Nat}{sc0 hs ow:zw}{t:Trm}
attribute [local go_sem] qq de in
def Fp(h72:O 72=none){C:Cx}(hC:CO C O)(hf:eqD t.kind (.ofNat 2)=true->∃j,t.fn=.ofNat j/\j<List.length E.ids)(hN:List.length E.ids<1000000000)(hI:YG E L0 n0 a0 sc0 t hs ow fr s):Tri C RR fr s (qa (YG E L0 n0 a0 sc0 t hs (Gd E t.kind t.fn (sc0++hs) ow)) λ_ _ _=>False):=by
 obtain⟨T,L,n,m,hid,rfl,rfl,hT,hS⟩:=hI;obtain⟨k,v,op,num,f,az,ks⟩:=t;simp only[Trm.kind,Trm.fn]at hf;show Tri C RR _ _ (qa (YG E L0 n0 a0 sc0 (.mk k v op num f az ks) hs (Gd E k f (sc0++hs) ow)) λ_ _ _=>False);have r0:=hS.r0;simp only[jg,wE]at r0;have t4:=hT.t4;have t1:=hT.t1;have hwf:=hS.M.wf;have n4:=hS.n4;unfold RR kR f48 cF;simp only;refine qN (hC.ev ?_);cases hk:eqD k (.ofNat 2)with
 |false=>
  rw[RS hk];refine wu ?_;apply hC.ev;refine wu ?_;exact⟨_,L,n,m,hid,rfl,rfl,by (repeat refine CapT.cons ?_ J);exact hT,hS⟩
 | true=>
  obtain⟨j,rfl,hj⟩:=hf hk;refine wu ?_;refine O9 (b:=true) V ?_;simp only[wy];have hjid:E.ids[j]? =some E.ids[j]:=xj hj;generalize hid0:E.ids[j]=Y at hjid;have hidW:E.W Y:=.inl (xU hjid);have hidn:Y<n0:=hS.lt _ (.inl hidW);have hrow:=hS.M.row;have hcut:qf 1 (qv j (E.ids.map Z.map))=some [.map Y]:=by
   have:(E.ids.map Z.map).drop j=.map Y::(E.ids.map Z.map).drop (j+1):=by
    rw[zud (by simpa using hj)]
    simp[hid0]
   rw[qH,this];rfl
  have hfid:E.fid≠Y:=λe=>by
   have h1:=hS.M.row;rw[e]at h1;by_cases hji:j=E.i
   .have h2:=hS.M.own;rw[show E.oid=Y from by have:=hS.M.oid;rw[<-hji,hjid]at this;cases this;rfl,h1]at h2;cases h2
   .rw[hS.M.oth j Y hjid hji]at h1;cases h1
  by_cases hji:j=E.i
  .rw [Fu hk hji];have hoid:E.oid=Y:=by have:=hS.M.oid;rw[<-hji,hjid]at this;cases this;rfl
   clear hji;have hoth:=hS.M.own;rw[hoid]at hoth;have hsid:Y≠E.sid:=λe=>hS.M.sd (e▸xU hjid);have hS0:=hS;refine qN (UF hC.ok (Y:=Y) (es:=uS ow) (by rw[qk];exact hoth) λxs clk hx=>?_)
   have hX:=XsOk.of hx;rw[lf];have hrm:=λm'=> @zyv ((Y,some (.map xs clk))::L) n m' Y clk false xs (wC _ _ _);refine hC.ev (wu ?_);refine qV (Jr (λx:zy=>(jM x xs).length) (λx f t=>∃T L n2 m,f=⟨tmL T,[]⟩/\t=KL L n2 m false/\CapT E n0 hid hs T/\G T 42 (.ptr n 0)/\wn L n=some (.miter (some Y) clk x clk)/\wn L Y=some (.map xs clk)/\n<n2/\CapS E L0 n0 a0 sc0 (.mk k v op num (.ofNat j) az ks) hs ow ((Y,some (.umap (uS ow)))::L) n2 m hid) (λx f t hI=>?_) [] ⟨_,_,n+1,_,rfl,rfl,?_,V,wC _ _ _,by rw[gN J,wC],J,?_⟩)
   .obtain⟨T,L,n2,m,rfl,rfl,hT,t42,gi,gm,hn2,hS⟩:=hI;refine qN (Ra hC.ok (it:=n) (m:=Y) (since:=clk) (last:=clk) (clk:=clk) (seen:=x) (es:=xs) t42 (by rw[qk];exact gi) (by rw[qk];exact gm) hX.old (zX _) (λh0=>?_) λp hp=>?_)
    .have hid1:=hT.t9;refine⟨tmL ((44,.bool false)::(43,.tup [.bool false])::T),KL L n2 m false,by rw[hC.e,hC.o];simp (disch:=first|exact dis|fail)only[go_sem,seval,-rO,-rN, *],?_⟩
     show Tri C _ _ _ _;refine UE hC.ok (es:=uS ow) (Y:=Y) (by rw[qk];exact gm) hx ?_
     rw[lf];refine hC.ev (wu ?_);refine⟨_,_,n2,_,hid,rfl,rfl,by (repeat refine CapT.cons ?_ J);exact hT,hS.re (λ_=>rfl) λi h1 h2=>?_⟩
     have e1:i≠Y:=λe=>h2 (by rw[e];exact hidW)
     rw[kB e1]
    .obtain⟨hp1,hp2⟩:=kr.1 hp;obtain⟨y,hx1,hx2,hx3⟩:=hX.key p hp1;obtain⟨q,hq1,hq2⟩:=eY (x:=y) 0 (λq hq=>let ⟨n,h1,h2,_⟩:=hX.key q hq;⟨n,h1,h2⟩) ⟨p,hp1,hx1⟩
     have t9:=hT.t9;have hgi:wn ((n,some (.miter (some Y) clk (x++[p.2.2]) clk))::L) Y=some (.map xs clk):=by rw[gN J];exact gm
     have hen:=λm'=>Rg (s:=KL ((n,some (.miter (some Y) clk (x++[p.2.2]) clk))::L) n2 m' false) (it:=n) (by rw[qk,wC]) (PD x p.2.2) (by rw[qk];exact hgi) rfl (GL hX.st hp1)
     simp only[hx1,hx2]at hen;have hlt:=Ui hp;have hwf:=hS.M.wf;have hov:∀j,j≠Y->wn ((Y,some (.umap (uS ow)))::L) j=wn L j:=λj hj=>by rw[wz,wx hj]
     have hge:∀j,n0<=j->j≠Y:=λj h=>J;have g1:=hS.r1;have g2:=hS.r2;have gs:=hS.M.sco;rw[hov _ (hge _ J)]at g1 g2;rw[hov _ (Ne.symm hsid)]at gs;rw[hoid]at g2;have l1:=hS.lt E.sid (.inl (.inr rfl));have l3:=hS.n4;have hwL:WfA L n2:=λj hj=>by rw[<-hov j J];exact hwf j hj
     refine⟨tmL ((44,.bool true)::(43,.tup [.bool true,p.1,p.2.1])::T),KL ((n,some (.miter (some Y) clk (x++[p.2.2]) clk))::L) n2 (gj m n) false,by rw[hC.e,hC.o,lf];simp (disch:=first|exact dis|fail)only[go_sem,seval,-rO,-rN],?_⟩
     show Tri C _ _ _ _;generalize p.1=pk at *;generalize p.2.1=pv at *;generalize p.2.2=pb at *;subst hx1;subst hx2;have hS1:CapS E L0 n0 a0 sc0 (.mk k v op num (.ofNat j) az ks) hs ow ((Y,some (.umap (uS ow)))::(n,some (.miter (some Y) clk (x++[pb]) clk))::L) n2 (gj m n) hid:=by
      refine hS.itr (it:=n) ?_ (zX _) J (λhne=>?_) (λi h1 h2=>?_) λi h1 h2=>?_
      .exact WfA.same (WfA.same hwL J) J
      .have:=(hS0.hr hne).2.1;omega
      .rw[wz,wz,wz,wx h2]
      .rw[vf,qy J,zue]
     clear hS hoth hcut hrow hx hX hp hp1 gi hS0;apply hC.ev;refine wq ?_;apply wA;refine wq ?_;refine qB ?_;refine wO (zzN h72 (sc:=sc0++hs) (x:=y) (sid:=E.sid) (oid:=Y) (clk:=clk) (xs:=xs) (p:=q) ?_ ?_ ?_ ?_ ?_ hq1 hq2 _ _) λv t hv=>?_
     .exact WfA.same hwL J
     ·(repeat (rw[gN J]));exact g1
     ·(repeat (rw[gN J]));exact g2
     ·(repeat (rw[gN J]));exact gs
     .exact hgi
     obtain⟨L2,n3,m2,rfl,hw2,hn3,q3⟩:=hv;refine wu ?_;refine⟨x++[pb],⟨_,L2,n3,m2,rfl,rfl,?_,V,?_,?_,J,?_⟩,hlt⟩
     ·(repeat refine CapT.cons ?_ J);exact hT
     .rw[(q3 n hn2).1,wC]
     .rw[(q3 Y J).1];exact hgi
     .refine hS1.oth (WfA.same hw2 J) hn3 λi h1=>?_;have:=q3 i h1;rw[wz,wz,this.1];exact⟨rfl,this.2⟩
   ·(repeat refine CapT.cons ?_ J);exact hT
   .refine hS0.itr (it:=n) ?_ J J (λhne=>?_) (λi h1 h2=>?_) λi h1 h2=>?_
    .exact WfA.same (WfA.same (WfA.same (hwf.up J) J) J) J
    .have:=(hS0.hr hne).2.1;omega
    .rw[wz];split
     .rename_i e;rw[e];exact hoth.symm
     .rename_i e;rw[wz,wx h2,wz,wx e]
    .have e1:i≠Y:=λe=>h2 (by rw[e];exact hidW)
     repeat rw[kB J]
  .rw [Ft hk hji];have hoth:=hS.M.oth j Y hjid hji;have hne:=hS.M.one hjid hji;have hsid:Y≠E.sid:=λe=>hS.M.sd (e▸xU hjid);generalize E.S.getD j []=l at *;have hS0:=hS;refine qN (UF hC.ok (Y:=Y) (es:=uS l) (by rw[qk];exact hoth) λxs clk hx=>?_)
   have hX:=XsOk.of hx;rw[lf];have hrm:=λm'=> @zyv ((Y,some (.map xs clk))::L) n m' Y clk false xs (wC _ _ _);refine hC.ev (wu ?_);refine qV (Jr (λx:zy×zw=>(jM x.1 xs).length) (λx f t=>∃T L n2 m,f=⟨tmL T,[]⟩/\t=KL L n2 m false/\CapT E n0 hid hs T/\G T 42 (.ptr n 0)/\wn L n=some (.miter (some Y) clk x.1 clk)/\wn L Y=some (.map xs clk)/\n<n2/\CapS E L0 n0 a0 sc0 (.mk k v op num (.ofNat j) az ks) hs x.2 ((Y,some (.umap (uS l)))::L) n2 m hid/\RgI (sc0++hs) ow l x.2 xs x.1) (λx f t hI=>?_) ([],ow) ⟨_,_,n+1,_,rfl,rfl,?_,V,wC _ _ _,by rw[gN J,wC],J,?_,RgI.start hX hS.nd⟩)
   .obtain⟨seen,ow2⟩:=x;obtain⟨T,L,n2,m,rfl,rfl,hT,t42,gi,gm,hn2,hS,hR⟩:=hI;simp only at gi hS hR|-;refine qN (Ra hC.ok (it:=n) (m:=Y) (since:=clk) (last:=clk) (clk:=clk) (seen:=seen) (es:=xs) t42 (by rw[qk];exact gi) (by rw[qk];exact gm) hX.old (zX _) (λh0=>?_) λp hp=>?_)
    .have hid1:=hT.t9;refine⟨tmL ((44,.bool false)::(43,.tup [.bool false])::T),KL L n2 m false,by rw[hC.e,hC.o];simp (disch:=first|exact dis|fail)only[go_sem,seval,-rO,-rN, *],?_⟩
     show Tri C _ _ _ _;refine UE hC.ok (es:=uS l) (Y:=Y) (by rw[qk];exact gm) hx ?_
     rw[lf];have hperm:=hR.fin h0 hS0.nd;refine Lu hC.ok (Y:=E.oid) (es:=uS ow2) (es2:=uS (QZ (sc0++hs) ow l)) (by rw[qk];exact hS.M.own) (hperm.map _) ?_
     rw[lf];refine hC.ev (wu ?_);refine⟨_,_,n2,_,hid,rfl,rfl,by (repeat refine CapT.cons ?_ J);exact hT,hS.perm hperm λi h1 h2=>?_⟩
     have e1:i≠Y:=λe=>h2 (by rw[e];exact hidW)
     have e2:i≠E.oid:=λe=>h2 (by rw[e];exact .inl hS.M.oidW)
     rw[kB e2,kB e1]
    .obtain⟨hp1,hp2⟩:=kr.1 hp;obtain⟨x,hx1,hx2,hx3⟩:=hX.key p hp1;have t9:=hT.t9;have hgi:wn ((n,some (.miter (some Y) clk (seen++[p.2.2]) clk))::L) Y=some (.map xs clk):=by rw[gN J];exact gm
     have hen:=λm'=>Rg (s:=KL ((n,some (.miter (some Y) clk (seen++[p.2.2]) clk))::L) n2 m' false) (it:=n) (by rw[qk,wC]) (PD seen p.2.2) (by rw[qk];exact hgi) rfl (GL hX.st hp1)
     simp only[hx1,hx2]at hen;have hlt:=Ui hp;have hstep:=hR.step hX hp hx1;have hwf:=hS.M.wf;have hov:∀j,j≠Y->wn ((Y,some (.umap (uS l)))::L) j=wn L j:=λj hj=>by rw[wz,wx hj]
     have hge:∀j,n0<=j->j≠Y:=λj h=>J;have g1:=hS.r1;have g2:=hS.r2;have g3:=hS.r3;have gs:=hS.M.sco;have go:=hS.M.own;rw[hov _ (hge _ J)]at g1 g2 g3;rw[hov _ (Ne.symm hsid)]at gs;rw[hov _ (Ne.symm hne)]at go;have l1:=hS.lt E.sid (.inl (.inr rfl));have l2:=hS.lt E.oid (.inl (.inl hS.M.oidW));have l3:=hS.n4;have hwL:WfA L n2:=λj hj=>by rw[<-hov j J];exact hwf j hj
     refine⟨tmL ((44,.bool true)::(43,.tup [.bool true,p.1,p.2.1])::T),KL ((n,some (.miter (some Y) clk (seen++[p.2.2]) clk))::L) n2 (gj m n) false,by rw[hC.e,hC.o,lf];simp (disch:=first|exact dis|fail)only[go_sem,seval,-rO,-rN],?_⟩
     show Tri C _ _ _ _;generalize p.1=pk at *;generalize p.2.1=pv at *;generalize p.2.2=pb at *;subst hx1;subst hx2;have hS1:CapS E L0 n0 a0 sc0 (.mk k v op num (.ofNat j) az ks) hs ow2 ((Y,some (.umap (uS l)))::(n,some (.miter (some Y) clk (seen++[pb]) clk))::L) n2 (gj m n) hid:=by
      refine hS.itr (it:=n) ?_ (zX _) J (λhne=>?_) (λi h1 h2=>?_) λi h1 h2=>?_
      .exact WfA.same (WfA.same hwL J) J
      .have:=(hS0.hr hne).2.1;omega
      .rw[wz,wz,wz,wx h2]
      .rw[vf,qy J,zue]
     clear hS hoth hcut hrow hx hX hR hp hp1 gi hS0;apply hC.ev;refine wq ?_;apply wA;refine wq ?_;refine qB ?_;refine wO (Rd h72 (sc:=sc0++hs) (ow:=ow2) (g:=decide (zR ow2≠a0)) (x:=x) (sid:=E.sid) (oid:=E.oid) ?_ ?_ ?_ ?_ ?_ ?_ _ _) λv t hv=>?_
     .exact WfA.same hwL J
     ·(repeat (rw[gN J]));exact g1
     ·(repeat (rw[gN J]));exact g2
     ·(repeat (rw[gN J]));exact g3
     ·(repeat (rw[gN J]));exact gs
     ·(repeat (rw[gN J]));exact go
     obtain⟨L2,n3,m2,rfl,hw2,hn3,q1,q2,q3⟩:=hv;refine wu ?_;refine⟨(seen++[pb],po (sc0++hs) ow2 x),⟨_,L2,n3,m2,rfl,rfl,?_,V,?_,?_,J,?_,hstep⟩,hlt⟩
     ·(repeat refine CapT.cons ?_ J);exact hT
     .rw[(q3 n hn2 J J).1,wC]
     .rw[(q3 Y J hne J).1];exact hgi
     .refine hS1.use (WfA.same hw2 J) hn3 (by rw[wz,wx (Ne.symm hne)];exact q1) (by rw[gN J];exact q2) λi h1 h2 h3=>?_
      have:=q3 i h1 h2 h3;rw[wz,wz,this.1];exact⟨rfl,this.2⟩
   ·(repeat refine CapT.cons ?_ J);exact hT
   .refine hS0.itr (it:=n) ?_ J J (λhne=>?_) (λi h1 h2=>?_) λi h1 h2=>?_
    .exact WfA.same (WfA.same (WfA.same (hwf.up J) J) J) J
    .have:=(hS0.hr hne).2.1;omega
    .rw[wz];split
     .rename_i e;rw[e];exact hoth.symm
     .rename_i e;rw[wz,wx h2,wz,wx e]
    .have e1:i≠Y:=λe=>h2 (by rw[e];exact hidW)
     repeat rw[kB J]
end
def kx(t:Trm):zA:=[vg t]
def YX:∀x y,kx x=kx y->x=y:=λ_ _ h=>Ph (by simpa [kx]using h)
def WZ(t:Trm):wkL (kx t)=kx t:=by simp only[kx,wkL,eN]
def X6(t:Trm):wL (kx t)=true:=by simp only[kx,vg,wR,uF,kE,wU,xZ]
def Xf:zA->U->zc:=v7 kx (λ_=>True) (λt=>.bool (uj t.kind))
attribute [local go_sem] kx vg wE in
def Fi(B:Bx P X)(hO:OrcOk P X O)(t:Trm):∃s1,SC P X 71 (kx t) (s00 0 true) (.bool (uj t.kind)) s1:=by
 refine be B hO f71 ?_;obtain⟨k,v,op,num,f,az,ks⟩:=t;unfold f71 cF;simp only[uj,Trm.kind];refine wq ?_;cases h1:eqD k (.ofNat 1)with
 |true=>
  refine wq ?_;refine vy (r:=.ret) ?_;show Cv _ _;refine qP ?_;exact qM _ _
 |false=>
  refine wq ?_;refine vy (r:=.ret) ?_;show Cv _ _;refine qP ?_;exact qM _ _
def dG(B:Bx P X)(hO:OrcOk P X O):vW P X 71 Xf:=
 Wn true X6 (λ_=>rfl) λt _=>Fi B hO t
def zyH{α:Type}{t bytes:Nat}{f:α->zA}(hl:∀x,(f x).length=esz)(hs:∀x,w8 (f x)=true)(he:1<=esz){Y:Nat}{vs:List α}{w:α}{y:Z}(hr:GAt t f L lo n Y vs)(hw:WfA L n)(hlo:lo<=n)(h1:gw y=some 1)(h2:qQ (KL L n m false) esz 1 y=some (f w))(hb:2*(zR vs+1)*bytes<=281474976710656)(hn:zR vs+1<1000000000000):
  Cv (jo (KL L n m false) t esz bytes (gSl esz Y (zR vs)) y) λv s=>∃id' L' n' m',v=gSl esz id' (vs++[w]).length/\s=KL L' n' m' false/\GAt t f L' lo n' id' (vs++[w])/\WfA L' n'/\n<=n'/\(∀j,j<n->(vs≠[]->j≠Y)->wn L' j=wn L j/\m'.testBit j=m.testBit j):=by
 have hfl:wo f [w]=f w:=vt w;cases vs with
 |nil=>
  refine⟨_,_,LE (q:=0) h1 h2 (.inl rfl) he (by simp only[xY,xB]at hb;exact hb) J,n,_,_,_,rfl,rfl,λ_=>⟨hlo,yK _,by rw[wz,wH rfl,zv1,hfl]⟩,λj hj=>?_,zur _,λj hj _=>⟨by rw[gN J],rfl⟩⟩
  rw[gN J];exact hw j J
 | cons u us=>
  obtain⟨hlo2,hid,g1⟩:=hr (by simp)
  simp only[yJ]at hb hn;have hsw:w8 (f w)=true:=hs w;refine⟨_,_,LF (q:=0) (by rw[qk];exact g1) (by rw[vI hl];rfl) h1 h2 hsw he hb J,n,_,_,_,?_,rfl,λ_=>⟨hlo,yK _,by rw[wz,wH rfl,qu,hfl]⟩,λj hj=>?_,zur _,λj hj hne=>⟨by rw[gN J,wz,wx (hne (by simp))],?_⟩⟩
  .simp only[yu,yJ,y8,gSl]
   congr 1
  .rw[gN J,wz];split
   .rfl
   .exact hw j J
  .rw[vf,qy (hne (by simp)),zue]
def Fq:ICode:=match dR with
 |.seq a _=>a
 |_=>.skip
def dS:ICode:=match dR with
 |.seq _ (.seq a _)=>a
 |_=>.skip
def dU:ICode:=match dR with
 |.seq _ (.seq _ a)=>a
 |_=>.skip
def hsB(k v:Int)(sc0 hs:zw):zw:=bif uj k then (if v∈sc0++hs then hs else hs++[v])else hs
def zxs(k v:Int)(sc0 hs:zw):sc0++hsB k v sc0 hs=scB k v (sc0++hs):=by
 unfold hsB scB Qz;cases uj k with
 |false=>rfl
 |true=>
  simp only[wy];split
  .rfl
  .rw[zum]
def Tq(k v:Int)(sc0 hs:zw):(hsB k v sc0 hs).length<=hs.length+1:=by
 unfold hsB;cases uj k with
 |false=>simp only[wK];omega
 |true=>
  simp only[wy];split
  .omega
  .simp
def CapT.new{hid hid2:Nat}{hs2:zw}{T:List (Nat×Z)}(h:CapT E n0 hid hs T):CapT E n0 hid2 hs2 ((10,gSl 1 hid2 hs2.length)::T):=by
 have e:∀i,i≠10->(tmL ((10,gSl 1 hid2 hs2.length)::T)).get i=(tmL T).get i:=λi hi=>by rw[<-KH,Trie.get_set_ne _ _ hi]
 obtain⟨t1,t4,t6,t7,t8,t9,t10⟩:=h;exact⟨(e _ J).trans t1,(e _ J).trans t4,(e _ J).trans t6,(e _ J).trans t7,(e _ J).trans t8,(e _ J).trans t9,by show (tmL _).get _=_;rw[<-KH,Trie.get_set_same]⟩
def CapS.bind{ow:zw}{hid:Nat}(h:CapS E L0 n0 a0 sc0 t hs ow L n m hid)(hv:v∉sc0){hid2:Nat}(hw:WfA L2 n2)(hn:n<=n2)(hsc:wn L2 E.sid=some (.umap (uS (sc0++(hs++[v])))))(hg:GAt 3 wN L2 (n0+1+1+1+1) n2 hid2 (hs++[v]))(hf:∀j,j<n->j≠E.sid->(hs≠[]->j≠hid)->wn L2 j=wn L j/\m2.testBit j=m.testBit j):CapS E L0 n0 a0 sc0 t (hs++[v]) ow L2 n2 m2 hid2:=by
 have n4:=h.n4;have hh:∀j,j<n0+1+1+1+1->(hs≠[]->j≠hid):=λj hj hne=>by have:=(h.hr hne).1;omega
 have hl:∀j,E.W j\/j=E.fid->j<n0:=h.lt;have hsid:=hl E.sid (.inl (.inr rfl));have hne:∀j,j∈E.ids->j≠E.sid:=λj hj e=>h.M.sd (e▸hj);have hfid:E.fid≠E.sid:=λe=>by have h1:=h.M.row;rw[e,h.M.sco]at h1;cases h1
 exact{
  M :={
   wf:=hw
   len:=h.M.len
   nd:=h.M.nd
   hi:=h.M.hi
   row:=by have:=hl E.fid (.inr rfl);rw[(hf E.fid J hfid (hh _ J)).1];exact h.M.row
   oth:=λj Y hj hji=>by
    have hm:=xU hj;have:=hl Y (.inl (.inl hm));rw[(hf Y J (hne Y hm) (hh _ J)).1];exact h.M.oth j Y hj hji
   own:=by have:=hl E.oid (.inl (.inl h.M.oidW));rw[(hf E.oid J (hne _ h.M.oidW) (hh _ J)).1];exact h.M.own
   sco:=hsc
   sd:=h.M.sd}
  n4:=J
  r0:=by rw[(hf n0 J J (hh _ J)).1];exact h.r0
  r1:=by rw[(hf (n0+1) J J (hh _ J)).1];exact h.r1
  r2:=by rw[(hf (n0+1+1) J J (hh _ J)).1];exact h.r2
  r3:=by rw[(hf (n0+1+1+1) J J (hh _ J)).1];exact h.r3
  hr:=hg
  le:=h.le
  nd:=h.nd
  ds:=λw hw=>by
   rcases List.mem_append.1 hw with hw|hw
   .exact h.ds w hw
   .simp only[yF]at hw;rw[hw];exact hv
  lt:=h.lt
  fr:=λj hj hW=>by
   have:=hf j J (λe=>hW (.inr e)) (hh _ J);rw[this.1,this.2];exact h.fr j hj hW}
section
variable {O:Orc}{E:CapE}{L0:zb}{n0 a0:Nat}{sc0 hs ow:zw}{t:Trm}
attribute [local go_sem] pe QM Z8 Z7 pR Um qq de in
def Fs(h71:O 71=some Xf)(hl:hs.length<1000000000)(hI:YG E L0 n0 a0 sc0 t hs ow fr s):Ev (evC env (evW env O) none Fq fr s) (qa (YG E L0 n0 a0 sc0 t (hsB t.kind t.var sc0 hs) ow) λ_ _ _=>False):=by
 obtain⟨T,L,n,m,hid,rfl,rfl,hT,hS⟩:=hI;have hb:=λs=>oc h71 YX t trivial (WZ t) s;obtain⟨k,v,op,num,f,az,ks⟩:=t;simp only[kx,vg,wE,Trm.kind,Trm.var]at hb|-;have r0:=hS.r0;have r1:=hS.r1;have gs:=hS.M.sco;simp only[jg,wE]at r0;have t4:=hT.t4;have t6:=hT.t6;have t10:=hT.t10;have hwf:=hS.M.wf;have n4:=hS.n4;have l1:E.sid<n0:=hS.lt E.sid (.inl (.inr rfl));unfold hsB;generalize uj k=bk at *;unfold Fq dR kR f48 cF;simp only;by_cases hv:v∈sc0++hs
 .have hk:=ZN hv;have e1:(bif bk then (if v∈sc0++hs then hs else hs++[v])else hs)=hs:=by cases bk<;>simp[hv]
  rw[e1];clear e1 hv;have hS1:CapS E L0 n0 a0 sc0 (.mk k v op num f az ks) hs ow ((n,some (.row 80 []))::(n,some (.row 80 []))::L) (n+1) (m|||1<<<n) hid:=by
   refine hS.oth (WfA.same (WfA.same (hwf.up J) J) J) J λj hj=>⟨?_,?_⟩
   ·(repeat (rw[gN J]))
   .rw[kB J]
  refine wq ?_;cases bk with
  |true=>
   refine wq ?_;refine wu ?_;exact⟨_,_,_,_,hid,rfl,rfl,by (repeat refine CapT.cons ?_ J);exact hT,hS1⟩
  |false=>
   refine wq ?_;refine wu ?_;exact⟨_,_,_,_,hid,rfl,rfl,by (repeat refine CapT.cons ?_ J);exact hT,hS1⟩
 .have hk:=pj hv;have hst:=YC hv;have hv0:v∉sc0:=λh=>hv (by simp[h])
  have hS1:CapS E L0 n0 a0 sc0 (.mk k v op num f az ks) hs ow ((n,some (.row 80 []))::(n,some (.row 80 []))::L) (n+1) (m|||1<<<n) hid:=by
   refine hS.oth (WfA.same (WfA.same (hwf.up J) J) J) J λj hj=>⟨?_,?_⟩
   ·(repeat (rw[gN J]))
   .rw[kB J]
  refine wq ?_;cases bk with
  |false=>
   simp only[wK];refine wq ?_;refine wu ?_;exact⟨_,_,_,_,hid,rfl,rfl,by (repeat refine CapT.cons ?_ J);exact hT,hS1⟩
  | true=>
   simp only[wy];rw[wx hv];clear hv;refine wq ?_;refine vM sW ?_;refine wq ?_;refine qB ?_;refine wO (zyH vA uW J (vs:=hs) (w:=v) (lo:=n0+1+1+1+1) (Y:=hid) (hS.hr.ext (zX _) (Nat.le_succ_of_le (Nat.le_succ_of_le (zX _))) λj h1 h2=>?_) ?_ J rfl (lE (j:=0) (by rw[qk,wC];rfl) rfl).2 J J) λv t hv=>?_
   ·(repeat (rw[gN J]))
   ·(repeat first|exact hwf.up J|refine WfA.same ?_ J)
   obtain⟨hid2,L2,n2,m2,rfl,rfl,q1,q2,q3,q4⟩:=hv;refine wu ?_;refine⟨_,L2,n2,m2,hid2,rfl,rfl,?_,hS.bind hv0 q2 J ?_ q1 λj h1 h2 h3=>?_⟩
   .refine CapT.new (hs:=hs) (hid:=hid) ?_
    (repeat refine CapT.cons ?_ J);exact hT
   .rw[(q4 E.sid J λhne=>by have:=(hS.hr hne).1;omega).1]
    (repeat (rw[gN J]))
    rw[wC,zum]
   .have:=q4 j J h3;rw[this.1,this.2];exact⟨by (repeat (rw[gN J])),by (repeat rw[kB J])⟩
end
structure CapX where
 E:CapE
 t:Trm
 sc:zw
def CapE.ow(E:CapE):zw:=E.S.getD E.i []
structure CapPre(M:Nat)(x:CapX)(args:zA)(s:U):Prop where
 args:args=[.agg (wZ x.t),.sl x.E.fid 0 (zR x.E.ids) x.E.c,.map x.E.sid,.map x.E.oid]
 len:zR x.E.S=zR x.E.ids
 nd:x.E.ids.Nodup
 hi:x.E.i<zR x.E.ids
 sd:x.E.sid∉x.E.ids
 row:s.get x.E.fid=some (.row 74 (x.E.ids.map .map) x.E.xx x.E.ff)
 maps:∀j Y,x.E.ids[j]? =some Y->s.get Y=some (.umap (uS (x.E.S.getD j [])))
 sco:s.get x.E.sid=some (.umap (uS x.sc))
 lt:∀j,x.E.W j\/j=x.E.fid->j<s.next
 ok:VH (zR x.E.ids) x.t
 sz:qb x.t<=M
 ond:x.E.ow.Nodup
 N:zR x.E.ids<1000000000
def CapX.own(x:CapX):zw:=jT x.E.S x.E.i x.t x.sc x.E.ow
def VA:zy->ze->List (Nat×AObj)
 |Y::ids,l::S=>(Y,.umap (uS l))::VA ids S
 |_,_=>[]
def CapX.objs(x:CapX):List (Nat×AObj):=(x.E.sid,.umap (uS x.sc))::VA x.E.ids (x.E.S.set x.E.i x.own)
def sB{m:zw}(h:uS l=uS m):l=m:=by
 have:=congrArg (List.map (·.1)) h
 rwa [c8,c8]at this
def TE{a b:zy}(h:a.map Z.map=b.map Z.map):a=b:=by
 induction a generalizing b with
 |nil=>cases b with
  |nil=>rfl
  |cons _ _=>cases h
 | cons x a ih=>cases b with
  |nil=>cases h
  |cons y b=>
   simp only[ye,vc,Z.map.injEq]at h;rw[h.1,ih h.2]
theorem cz(h:E.i<List.length E.ids):E.ids[E.i]? =some E.oid:=by
 unfold CapE.oid;rw[xR,xj h];rfl
def CapPre.uniq{x y:CapX}{args:zA}(h:CapPre M x args s)(g:CapPre M y args s):x=y:=by
 obtain⟨⟨ids,S,i,fid,sid,c,xx,ff⟩,t,sc⟩:=x;obtain⟨⟨ids',S',i',fid',sid',c',xx',ff'⟩,t',sc'⟩:=y;have ha:=h.args.symm.trans g.args;simp only[vc,Z.agg.injEq,Z.sl.injEq,Z.map.injEq,true_and,and_true]at ha;obtain⟨h1,⟨rfl,h2,rfl⟩,rfl,h3⟩:=ha;have hr:=h.row.symm.trans g.row;simp only[wB,AObj.row.injEq,true_and]at hr;obtain⟨hr1,rfl,rfl⟩:=hr;have hids:=TE hr1;subst hids;have hi:i=i':=by
  have e1:=cz h.hi;have e2:=cz g.hi;rw[h3]at e1;exact(zun h.hi h.nd).1 (e1.trans e2.symm)
 subst hi;have hS:S=S':=by
  have l1:zR S=zR ids:=h.len;have l2:zR S'=zR ids:=g.len;refine List.ext_getElem? λj=>?_;by_cases hj:j<zR ids
  .have e1:=h.maps j _ (xj hj);have e2:=g.maps j _ (xj hj);have e3:=e1.symm.trans e2;simp only[wB,AObj.umap.injEq]at e3;have e4:=sB e3;rw[xR,xR,xj J,xj J]at e4;rw[xj J,xj J];exact congrArg some e4
  .rw[yS J,yS J]
 subst hS;have hsc:=h.sco.symm.trans g.sco;simp only[wB,AObj.umap.injEq]at hsc;rw[sB hsc,Za h1]
def H4:∀{ids:zy} {S:ze},zR S=zR ids->(VA ids S).map (·.1)=ids
 |[],[],_=>rfl
 |Y::ids,l::S,h=>by
  simp only[VA,ye];rw[H4 (by simpa using h)]
def H5:∀{ids:zy} {S:ze} {p:Nat×AObj},p∈VA ids S->∃j,ids[j]? =some p.1/\j<zR S/\p.2=.umap (uS (S.getD j []))
 |[],_,p,h=>by simp[VA]at h
 |_::_,[],p,h=>by simp[VA]at h
 |Y::ids,l::S,p,h=>by
  simp only[VA,zua]at h;rcases h with rfl|h
  .exact⟨0,rfl,by simp,rfl⟩
  .obtain⟨j,h1,h2,h3⟩:=H5 h;exact⟨j+1,by simpa using h1,by simpa using h2,by simpa using h3⟩
section
variable {M:Nat}{x:CapX}{args:zA}{s:U}
def CapPre.fst(h:CapPre M x args s):x.objs.map (·.1)=x.E.sid::x.E.ids:=by
 simp only[CapX.objs,ye];rw[H4 (by rw[zuj];exact h.len)]
def CapPre.nodup(h:CapPre M x args s):(x.objs.map (·.1)).Nodup:=by
 rw[h.fst,zug];exact⟨h.sd,h.nd⟩
def CapPre.mem(h:CapPre M x args s){p:Nat×AObj}(hp:p∈x.objs):(p.1=x.E.sid/\p.2=.umap (uS x.sc))\/∃j,x.E.ids[j]? =some p.1/\p.2=.umap (uS (if j=x.E.i then x.own else x.E.S.getD j [])):=by
 simp only[CapX.objs,zua]at hp;rcases hp with rfl|hp
 .exact .inl ⟨rfl,rfl⟩
 .obtain⟨j,h1,h2,h3⟩:=H5 hp;refine .inr ⟨j,h1,?_⟩;rw[h3,xR,zus];have hl:=h.len;rw[zuj]at h2;by_cases hj:j=x.E.i
  .subst hj;simp[h2]
  .rw[wx (Ne.symm hj),wx hj,<-xR]
def CapPre.get(h:CapPre M x args s){p:Nat×AObj}(hp:p∈x.objs):∃o,s.get p.1=some o/\uE o=false:=by
 rcases h.mem hp with ⟨e,_⟩|⟨j,hj,_⟩
 .rw[e];exact⟨_,h.sco,rfl⟩
 .exact⟨_,h.maps j _ hj,rfl⟩
end
open Classical in
def Vb(M:Nat)(args:zA)(s:U):zc:=
 if h:∃x,CapPre M x args s then some (.bool (decide ((zuu h).own.length≠(zuu h).E.ow.length)),Kk s (zuu h).objs)else none
def tz{x:CapX}{args:zA}(h:CapPre M x args s):Vb M args s=some (.bool (decide (List.length x.own≠(List.length x.E.ow))),Kk s x.objs):=by
 have hx:∃x,CapPre M x args s:=⟨x,h⟩;unfold Vb;rw[dif_pos hx,(Classical.choose_spec hx).uniq h]
def GW{args:zA}{v:Z}(h:Vb M args s=some (v,s')):∃x,CapPre M x args s/\v=.bool (decide (List.length x.own≠(List.length x.E.ow)))/\s'=Kk s x.objs:=by
 by_cases hx:∃x,CapPre M x args s
 .obtain⟨x,hx⟩:=hx;rw[tz hx]at h;cases h;exact⟨x,hx,rfl,rfl⟩
 .unfold Vb at h;rw[dif_neg hx]at h;cases h
def fu(args:zA)(s:U)(v:Z)(s':U)(h:Vb M args s=some (v,s')):Ext s s':=by
 obtain⟨x,hx,_,rfl⟩:=GW h;exact Hx _ s hx.nodup λp hp=>hx.get hp
def Kj(L:zb):List (Nat×AObj)->zb
 |[]=>L
 |p::r=>Kj ((p.1,some p.2)::L) r
def fR(m:Nat):List (Nat×AObj)->Nat
 |[]=>m
 |p::r=>fR (gj m p.1) r
def AK(n:Nat)(b:Bool)(hd:zi)(on:zg):∀(W:List (Nat×AObj)) (L:zb) (m:Nat),Kk (KL L n m b hd on) W=KL (Kj L W) n (fR m W) b hd on
 |[],_,_=>rfl
 |p::r,L,m=>by simp only[Kk,lf];exact AK n b hd on r _ _
def jL:∀(W:List (Nat×AObj)) (L:zb) (j:Nat),(W.map (·.1)).Nodup->(∀o,(j,o)∈W->wn (Kj L W) j=some o)/\((∀p∈W,p.1≠j)->wn (Kj L W) j=wn L j)
 |[],_,_,_=>⟨by simp,λ_=>rfl⟩
 | p::r,L,j,h=>by
  simp only[ye,zug,zuw,not_exists,not_and]at h;obtain⟨h1,h2⟩:=jL r ((p.1,some p.2)::L) j h.2;simp only[Kj];refine⟨λo ho=>?_,λhn=>?_⟩
  .rcases List.mem_cons.1 ho with e|ho
   .rw[h2 λq hq e2=>h.1 q hq (by rw[e2,<-e]),<-e,wC]
   .exact h1 o ho
  .rw[h2 λq hq=>hn q (by simp[hq]),wz,wx (λe=>hn p (by simp) e.symm)]
def PL:∀(W:List (Nat×AObj)) (m j:Nat),(∀p∈W,p.1≠j)->(fR m W).testBit j=m.testBit j
 |[],_,_,_=>rfl
 |p::r,m,j,h=>by
  simp only[fR];rw[PL r _ j λq hq=>h q (by simp[hq]),vf,qy (λe=>h p (by simp) e.symm),zue]
def IS(h:f.toNat≠i):IR (S.set i l) f=IR S f:=by
 unfold IR;rw[xR,xR,zup (Ne.symm h)]
mutual
theorem d8{S:ze}{i:Nat}{l:zw}:∀(t:Trm) (sc ow:zw),jT (S.set i l) i t sc ow=jT S i t sc ow
 | .mk k v op n f az ks,sc,ow=>by
  simp only[jT];rw[LO ks]
  congr 1
  unfold Qy;cases eqD k (.ofNat 2)with
  |false=>rfl
  |true=>
   simp only[wy];split
   .rfl
   .rename_i h;rw[IS h]
theorem LO{S:ze}{i:Nat}{l:zw}:∀(ks:List Trm) (sc ow:zw),jC (S.set i l) i ks sc ow=jC S i ks sc ow
 |[],_,_=>by simp only[jC]
 |x::r,sc,ow=>by
  simp only[jC];rw[LO r,d8 x]
end
def Fw(h48:O 48=some (Vb M)){sc ow:zw}{y:Trm}(hM:CapM E L n sc ow)(hlt:∀j,E.W j\/j=E.fid->j<n)(hok:VH (zR E.ids) y)(hsz:qb y<=M)(hnd:ow.Nodup)(hN:zR E.ids<1000000000)(m:Nat)(b:Bool):
  Cv ((evW env O).call 48 [.agg (wZ y),.sl E.fid 0 (zR E.ids) E.c,.map E.sid,.map E.oid] (KL L n m b)) λv t=>∃L2 m2,v=.bool (decide ((jT E.S E.i y sc ow).length≠(zR ow)))/\t=KL L2 n m2 b/\wn L2 E.oid=some (.umap (uS (jT E.S E.i y sc ow)))/\(∀j,j≠E.oid->wn L2 j=wn L j)/\∀j,¬E.W j->m2.testBit j=m.testBit j:=by
 have hlen:=hM.len;have hhi:=hM.hi;have how:(E.S.set E.i ow).getD E.i []=ow:=by
  rw[xR,List.getElem?_set_self J];rfl
 have hp:CapPre M ⟨{E with S:=E.S.set E.i ow},y,sc⟩ [.agg (wZ y),.sl E.fid 0 (zR E.ids) E.c,.map E.sid,.map E.oid] (KL L n m b):={
  args:=rfl
  len:=by show (E.S.set E.i ow).length=_;rw[zuj];exact hlen
  nd:=hM.nd
  hi:=hM.hi
  sd:=hM.sd
  row:=by rw[qk];exact hM.row
  maps:=λj Y hj=>by
   rw[qk];show wn L Y=some (.umap (uS ((E.S.set E.i ow).getD j [])));by_cases hji:j=E.i
   .subst hji;rw[how];have h1:=hM.oid;have hj':E.ids[E.i]? =some Y:=hj;rw[h1]at hj';cases hj';exact hM.own
   .rw[xR,zup (Ne.symm hji),<-xR];exact hM.oth j Y hj hji
  sco:=by rw[qk];exact hM.sco
  lt:=hlt
  ok:=hok
  sz:=hsz
  ond:=by show ((E.S.set E.i ow).getD E.i []).Nodup;rw[how];exact hnd
  N:=hN}
 have hown:CapX.own ⟨{E with S:=E.S.set E.i ow},y,sc⟩=jT E.S E.i y sc ow:=by
  show jT (E.S.set E.i ow) E.i y sc ((E.S.set E.i ow).getD E.i [])=_;rw[how,d8]
 have hcall:(evW env O).call 48 [.agg (wZ y),.sl E.fid 0 (zR E.ids) E.c,.map E.sid,.map E.oid] (KL L n m b)=some (.bool (decide ((jT E.S E.i y sc ow).length≠(zR ow))),KL (Kj L (CapX.objs ⟨{E with S:=E.S.set E.i ow},y,sc⟩)) n (fR m (CapX.objs ⟨{E with S:=E.S.set E.i ow},y,sc⟩)) b):=by
  rw[qx h48,tz hp,AK,hown];rw[show CapE.ow {E with S:=E.S.set E.i ow}=ow from how]
 have hfst:=hp.fst;have hnodup:=hp.nodup;have hmem:∀p∈CapX.objs ⟨{E with S:=E.S.set E.i ow},y,sc⟩,E.W p.1:=λp hpp=>by
  have:p.1∈E.sid::E.ids:=by
   have h1:p.1∈(CapX.objs ⟨{E with S:=E.S.set E.i ow},y,sc⟩).map (·.1):=List.mem_map.2 ⟨p,hpp,rfl⟩
   rw[hfst]at h1;exact h1
  rcases List.mem_cons.1 this with h|h
  .exact .inr h
  .exact .inl h
 refine⟨_,_,hcall,_,_,rfl,rfl,?_,λj hj=>?_,λj hj=>?_⟩
 .obtain⟨p,hpp,hpe⟩:∃p∈CapX.objs ⟨{E with S:=E.S.set E.i ow},y,sc⟩,p.1=E.oid:=by
   have:E.oid∈(CapX.objs ⟨{E with S:=E.S.set E.i ow},y,sc⟩).map (·.1):=by rw[hfst];exact zuz _ hM.oidW
   obtain⟨p,h1,h2⟩:=List.mem_map.1 this;exact⟨p,h1,h2⟩
  rcases hp.mem hpp with ⟨e,_⟩|⟨j,hj,he⟩
  .exact absurd (e.symm.trans hpe) (λe2=>hM.sd (e2▸hM.oidW))
  .have hji:j=E.i:=by
    have h1:E.ids[j]? =some p.1:=hj;rw[hpe]at h1;exact(zun (List.getElem?_eq_some_iff.1 h1).1 hM.nd).1 (h1.trans hM.oid.symm)
   rw[wH (show j=({E with S:=E.S.set E.i ow}:CapE).i from hji),hown]at he
   have:=(jL _ L E.oid hnodup).1 p.2 (by rw[<-hpe];exact hpp)
   rw[this,he]
 .by_cases hW:∃p∈CapX.objs ⟨{E with S:=E.S.set E.i ow},y,sc⟩,p.1=j
  .obtain⟨p,hpp,rfl⟩:=hW;rw[(jL _ L p.1 hnodup).1 p.2 hpp];rcases hp.mem hpp with ⟨e,he⟩|⟨i,hi,he⟩
   .rw[he,e];exact hM.sco.symm
   .have hi':E.ids[i]? =some p.1:=hi;have hne:i≠E.i:=λe=>by
     rw[e,hM.oid]at hi';exact hj (Option.some.inj hi').symm
    rw[wx (show ¬i=({E with S:=E.S.set E.i ow}:CapE).i from hne)]at he
    rw[he];show some (AObj.umap (uS ((E.S.set E.i ow).getD i [])))=_;rw[xR,zup (Ne.symm hne),<-xR];exact(hM.oth i p.1 hi' hne).symm
  .exact(jL _ L j hnodup).2 λp hpp e=>hW ⟨p,hpp,e⟩
 .exact PL _ m j λp hpp e=>hj (e▸hmem p hpp)
def CapS.grow{ow:zw}{hid:Nat}(h:CapS E L0 n0 a0 sc0 t hs ow L n m hid)(hw:WfA L2 n2)(hn:n<=n2)(h1:wn L2 E.oid=some (.umap (uS ow2)))(hle:List.length ow<=List.length ow2)(hnd:ow2.Nodup)(h2:wn L2 (n0+1+1+1)=some (.row 4 [.bool (decide (List.length ow2≠a0))]))(hf:∀j,j<n->j≠E.oid->j≠n0+1+1+1->wn L2 j=wn L j)(hm:∀j,j<n0->¬E.W j->m2.testBit j=m.testBit j):CapS E L0 n0 a0 sc0 t hs ow2 L2 n2 m2 hid:=by
 have n4:=h.n4;have ho:E.oid<n0:=h.lt _ (.inl (.inl h.M.oidW))
 exact{
  M:=h.M.turn hw h1 λj hj hne hW=>hf j hj hne (by have:=h.lt j hW;omega)
  n4:=J
  r0:=by rw[hf n0 J J J];exact h.r0
  r1:=by rw[hf (n0+1) J J J];exact h.r1
  r2:=by rw[hf (n0+1+1) J J J];exact h.r2
  r3:=h2
  hr:=h.hr.ext (zX _) hn λj h1 h2=>hf j h2 J J
  le:=yb h.le hle
  nd:=hnd
  ds:=h.ds
  lt:=h.lt
  fr:=λj hj hW=>by
   rw[hf j J (λe=>hW (e▸.inl h.M.oidW)) J,hm j hj hW];exact h.fr j hj hW}
def CapS.term{t2:Trm}{ow:zw}{hid:Nat}(h:CapS E L0 n0 a0 sc0 t hs ow L n m hid)(hw:WfA L2 n2)(hn:n<=n2)(h1:wn L2 n0=some (jg t2))(hf:∀j,j<n->j≠n0->wn L2 j=wn L j)(hm:∀j,j<n0->m2.testBit j=m.testBit j):CapS E L0 n0 a0 sc0 t2 hs ow L2 n2 m2 hid:=by
 have n4:=h.n4;have ho:E.oid<n0:=h.lt _ (.inl (.inl h.M.oidW))
 exact{
  M:=h.M.turn hw (by rw[hf E.oid J J];exact h.M.own) λj hj hne hW=>hf j hj (by have:=h.lt j hW;omega)
  n4:=J
  r0:=h1
  r1:=by rw[hf (n0+1) J J];exact h.r1
  r2:=by rw[hf (n0+1+1) J J];exact h.r2
  r3:=by rw[hf (n0+1+1+1) J J];exact h.r3
  hr:=h.hr.ext (zX _) hn λj h1 h2=>hf j h2 J
  le:=h.le
  nd:=h.nd
  ds:=h.ds
  lt:=h.lt
  fr:=λj hj hW=>by
   rw[hf j J J,hm j hj];exact h.fr j hj hW}
def pL{sc:zw}:∀{az:List Atm} {ow:zw},ow.Nodup->(uy sc ow az).Nodup
 |[],_,h=>h
 |a::r,ow,h=>by
  simp only[uy];apply pL;cases eqD a.k (.ofNat 1)with
  |true=>exact Xu h
  |false=>exact h
def RU{S:ze}{i:Nat}{k f:Int}{az:List Atm}{sc ow:zw}:zR ow<=(Qy S i k f az sc ow).length/\(ow.Nodup->(Qy S i k f az sc ow).Nodup):=by
 unfold Qy;cases eqD k (.ofNat 2)with
 |false=>exact⟨YK _ _ _,pL⟩
 |true=>
  simp only[wy];split
  .exact⟨YK _ _ _,pL⟩
  .exact⟨yb (YK _ _ _) (dZ _ _ _),λh=>Q0 (pL h)⟩
mutual
theorem bg{S:ze}{i:Nat}:∀(t:Trm) (sc ow:zw),zR ow<=(jT S i t sc ow).length/\(ow.Nodup->(jT S i t sc ow).Nodup)
 |.mk k v op n f az ks,sc,ow=>by
  simp only[jT];have h1:= @RU S i k f az sc ow;have h2:=dY (S:=S) (i:=i) ks (scB k v sc) (Qy S i k f az sc ow);exact⟨yb h1.1 h2.1,λh=>h2.2 (h1.2 h)⟩
theorem dY{S:ze}{i:Nat}:∀(ks:List Trm) (sc ow:zw),zR ow<=(jC S i ks sc ow).length/\(ow.Nodup->(jC S i ks sc ow).Nodup)
 |[],_,_=>by simp only[jC];exact⟨zX _,λh=>h⟩
 |x::r,sc,ow=>by
  simp only[jC];have h1:=dY (S:=S) (i:=i) r sc ow;have h2:=bg (S:=S) (i:=i) x sc (jC S i r sc ow);exact⟨yb h1.1 h2.1,λh=>h2.2 (h1.2 h)⟩
end
section
variable {O:Orc}{E:CapE}{L0:zb}{n0 a0:Nat}{sc0 hs ow:zw}{t:Trm}
attribute [local go_sem] pe QM Z8 Z7 pR Um qq de in
def Bz(h48:O 48=some (Vb M)){op num:Int}{az:List Atm}{x y:Trm}(hok:VH (List.length E.ids) y)(hsz:qb y<=M)(hN:List.length E.ids<1000000000)(hI:YG E L0 n0 a0 sc0 (.mk k v op num f az [x,y]) hs ow fr s):Ev (evC env (evW env O) none dS fr s) (qa (YG E L0 n0 a0 sc0 (.mk k v op num f az [x,y]) hs (jT E.S E.i y (sc0++hs) ow)) λ_ _ _=>False):=by
 obtain⟨T,L,n,m,hid,rfl,rfl,hT,hS⟩:=hI;have r0:=hS.r0;have r1:=hS.r1;have r2:=hS.r2;have r3:=hS.r3;have hc:qf 7 (qv 7 (w9 [x,y]))=some (wZ y):=by
  simp only[vx,kF,zvV];rw[qH,zuy (qi x)];exact qz (qi y)
 simp only[jg,wE,yJ,xY]at r0;have t1:=hT.t1;have t4:=hT.t4;have t6:=hT.t6;have t7:=hT.t7;have t8:=hT.t8;have hwf:=hS.M.wf;have n4:=hS.n4;have ho:E.oid<n0:=hS.lt _ (.inl (.inl hS.M.oidW));have hle:=bg (S:=E.S) (i:=E.i) y (sc0++hs) ow;unfold dS dR kR f48 cF;simp only;refine wq ?_;refine vM sW ?_;refine qB ?_;refine lw (Fw h48 hS.M (λj hj=>by have:=hS.lt j hj;omega) hok hsz hS.nd hN 0 false) λv t hv=>?_
 obtain⟨L2,m2,rfl,rfl,q1,q2,q3⟩:=hv;have g8:wn L2 (n0+1+1+1)=some (.row 4 [.bool (decide (zR ow≠a0))]):=by rw[q2 _ J];exact r3
 generalize hR:jT E.S E.i y (sc0++hs) ow=ow2 at *;have hla:=hS.le;have hw2:WfA L2 n:=λj hj=>by rw[q2 j J];exact hwf j hj
 generalize hfl:decide (zR ow2≠(zR ow))=b1 at *;generalize hf0:decide (zR ow≠a0)=b0 at *;have hfin:∀{L3:zb} {m3:Nat},wn L3 (n0+1+1+1)=some (.row 4 [.bool (b1||b0)])->(∀j,j≠n0+1+1+1->wn L3 j=wn L2 j)->(∀j,j<n0->¬E.W j->m3.testBit j=m.testBit j)->CapS E L0 n0 a0 sc0 (.mk k v op num f az [x,y]) hs ow2 L3 n m3 hid:=by
  intro L3 m3 z1 z2 z3;refine hS.grow (λj hj=>by rw[z2 j J];exact hw2 j hj) (zX _) (by rw[z2 _ J];exact q1) hle.1 (hle.2 hS.nd) ?_ (λj h1 h2 h3=>by rw[z2 j h3];exact q2 j h2) z3
  rw[z1,<-hfl,<-hf0];have h1:=hle.1
  congr 3
  by_cases h2:zR ow2=zR ow
  .rw[h2];simp
  .rw[qL h2];exact congrArg _ (by rw[qL (show (zR ow2)≠a0 by omega)];rfl)
 have hm2:∀j,¬E.W j->(m|||m2).testBit j=m.testBit j:=λj hj=>by rw[xF,q3 j hj];simp
 clear hfl hf0 r3 hS hle q1 q2 q3;cases b1 with
 |true=>
  refine wu ?_;refine⟨_,_,_,_,hid,rfl,rfl,by (repeat refine CapT.cons ?_ J);exact hT,hfin (by rw[wC];rfl) (λj hj=>by rw[wz,wx hj]) λj h1 h2=>?_⟩
  rw[kB J,hm2 j h2]
 |false=>
  refine wu ?_;refine⟨_,_,_,_,hid,rfl,rfl,by (repeat refine CapT.cons ?_ J);exact hT,hfin (by rw[wC];rfl) (λj hj=>by rw[wz,wx hj]) λj h1 h2=>?_⟩
  rw[kB J,hm2 j h2]
section
attribute [local go_sem] qq de
def dT{op num:Int}{az:List Atm}{ks:List Trm}(hk:List.length ks<2)(hI:YG E L0 n0 a0 sc0 (.mk k v op num f az ks) hs ow fr s):Ev (evC env (evW env O) none dS fr s) (qa (YG E L0 n0 a0 sc0 (.mk k v op num f az ks) hs ow) λ_ _ _=>False):=by
 obtain⟨T,L,n,m,hid,rfl,rfl,hT,hS⟩:=hI;have r0:=hS.r0;simp only[jg,wE]at r0;have t4:=hT.t4;have hne:zR ks≠2:=J;unfold dS dR kR f48 cF;simp only;refine wq ?_;refine wu ?_;exact⟨_,L,n,m,hid,rfl,rfl,by (repeat refine CapT.cons ?_ J);exact hT,hS⟩
def BA{op num:Int}{az:List Atm}(hI:YG E L0 n0 a0 sc0 (.mk k v op num f az []) hs ow fr s):Ev (evC env (evW env O) none dU fr s) λr f2 t=>r=.exit 0/\YG E L0 n0 a0 sc0 (.mk k v op num f az []) hs ow f2 t:=by
 obtain⟨T,L,n,m,hid,rfl,rfl,hT,hS⟩:=hI;have r0:=hS.r0;simp only[jg,wE,xY]at r0;have t4:=hT.t4;unfold dU dR kR f48 cF;simp only;refine wp (wq ?_);refine wu ?_;exact⟨trivial,_,L,n,m,hid,rfl,rfl,by (repeat refine CapT.cons ?_ J);exact hT,hS⟩
def Gb{op num:Int}{az:List Atm}{x:Trm}{r:List Trm}(hr:r.length<1000000000)(hI:YG E L0 n0 a0 sc0 (.mk k v op num f az (x::r)) hs ow fr s):Ev (evC env (evW env O) none dU fr s) (qa (YG E L0 n0 a0 sc0 x hs ow) λ_ _ _=>False):=by
 obtain⟨T,L,n,m,hid,rfl,rfl,hT,hS⟩:=hI;have r0:=hS.r0;simp only[jg,wE,yJ]at r0;have t4:=hT.t4;have hc:qf 7 (w9 (x::r))=some (wZ x):=by
  rw[vx];exact uT (qi x)
 have hsc:=gT x;have hln:=qi x;unfold dU dR kR f48 cF;simp only;obtain⟨k2,v2,op2,num2,f2,as2,ks2⟩:=x;simp only[wE]at hc hsc hln;refine wp (wq ?_);refine wu ?_;refine wu ?_;have n4:=hS.n4;refine⟨_,_,n,_,hid,rfl,rfl,by (repeat refine CapT.cons ?_ J);exact hT,hS.term (WfA.same hS.M.wf J) (zX _) (by rw[wC,jg,wE]) (λj h1 h2=>by (repeat rw[wz,wx h2])) λj h1=>?_⟩
 rw[kB J]
end
end
def gJ{Ir K:Fr->U->Prop}{Q:Res->Fr->U->Prop}(h:∀f t,Ir f t->K f t):∀r f t,qa Ir (λ_ _ _=>False) r f t->qa K Q r f t:=λr f t hb=>by
 cases r with
 |norm=>exact h f t hb
 |exit i=>cases hb
 |ret=>cases hb
theorem nq:kR=.seq zyP (.seq RR (.seq Fq (.seq dS dU))):=rfl
theorem RT{az:List Atm}{sc ow:zw}:Qy E.S E.i k f az sc ow=Gd E k f sc (uy sc ow az):=by
 unfold Qy Gd;cases eqD k (.ofNat 2)<;>rfl
def vQ:∀t:Trm,0<qb t
 |.mk _ _ _ _ _ _ _=>by simp only[qb];omega
section
variable {O:Orc}{E:CapE}{L0:zb}{n0 a0:Nat}{sc0:zw}
def d7(h72:O 72=none)(h71:O 71=some Xf)(h48:O 48=some (Vb M)){C:Cx}(hC:CO C O)(hN:zR E.ids<1000000000){ow:zw}(hok:VH (zR E.ids) t)(hsz:qb t<=M+1)(hM:M<900000000){s:U}(hI:YG E L0 n0 a0 sc0 t [] ow fr s):
  Tri C (.block 0 (.loop (.block 1 kR))) fr s (qa (λf s=>∃t2 hs,YG E L0 n0 a0 sc0 t2 hs (jT E.S E.i t sc0 ow) f s/\hs.length<1000000000) λ_ _ _=>False):=by
 refine qV (Jr (λx:Trm×zw×zw=>qb x.1) (λx f s=>YG E L0 n0 a0 sc0 x.1 x.2.1 x.2.2 f s/\jT E.S E.i x.1 (sc0++x.2.1) x.2.2=jT E.S E.i t sc0 ow/\VH (zR E.ids) x.1/\qb x.1<=M+1/\zR x.2.1+qb x.1<=M+1) (λx f s hx=>?_) (t,[],ow) ⟨hI,by rw[zvV],hok,hsz,by simpa using hsz⟩)
 obtain⟨⟨k,v,op,num,fn,az,ks⟩,hs,ow1⟩:=x;obtain⟨hI,hR,hok,hsz,hlen⟩:=hx;simp only[VH]at hI hR hok hsz hlen;obtain⟨ha,hk,hf,hks⟩:=hok;simp only[jT]at hR;rw[RT]at hR;rw[nq];refine qV (qN ((hC.ev (RQ (t:=.mk k v op num fn az ks) h72 ha hI)).mono (gJ λf s hI=>?_)));refine qN ((Fp (t:=.mk k v op num fn az ks) h72 hC hf hN hI).mono (gJ λf s hI=>?_));simp only[qb]at hsz hlen;refine qN ((hC.ev (Fs (t:=.mk k v op num fn az ks) h71 J hI)).mono (gJ λf s hI=>?_));simp only[Trm.kind,Trm.var,Trm.atoms,Trm.fn]at hI;rw[<-zxs]at hR;have hh:=Tq k v sc0 hs;generalize hsB k v sc0 hs=hs2 at *;generalize Gd E k fn (sc0++hs) (uy (sc0++hs) ow1 az)=ow2 at *
 match ks,hk,hks,hsz,hlen,hR,hI with
 |[],_,_,hsz,hlen,hR,hI=>
  refine qN ((hC.ev (dT (by simp) hI)).mono (gJ λf s hI=>?_))
  refine(hC.ev (BA hI)).mono λr f2 t2=>?_
  rintro⟨rfl,hI⟩
  simp only[jC]at hR;rw[hR]at hI;exact⟨_,hs2,hI,by simp only[qY]at hlen;omega⟩
 | [x],_,hks,hsz,hlen,hR,hI=>
  refine qN ((hC.ev (dT (by simp) hI)).mono (gJ λf s hI=>?_))
  refine(hC.ev (Gb (by simp) hI)).mono λr f2 t2 hb=>?_
  cases r with
  |exit i=>cases hb
  |ret=>cases hb
  |norm=>
   simp only[jC]at hR;simp only[qY]at hsz hlen;exact⟨(x,hs2,ow2),⟨hb,hR,hks.1,by simp only;omega,by simp only;omega⟩,by simp only[qb,qY];omega⟩
 | [x,y],_,hks,hsz,hlen,hR,hI=>
  simp only[qY]at hsz hlen;have hpx:=vQ x;have hpy:=vQ y;refine qN ((hC.ev (Bz h48 hks.2.1 J hN hI)).mono (gJ λf s hI=>?_));refine(hC.ev (Gb (by simp) hI)).mono λr f2 t2 hb=>?_
  cases r with
  |exit i=>cases hb
  |ret=>cases hb
  |norm=>
   simp only[jC]at hR;exact⟨(x,hs2,_),⟨hb,hR,hks.1,by simp only;omega,by simp only;omega⟩,by simp only[qb,qY];omega⟩
 |_::_::_::_,hk,_,_,_,_,_=>simp at hk
end
def eD{v:Int}{r:zw}:∀{sc:zw},v∉sc->VV v (uS (sc++v::r))=uS (sc++r)
 |[],_=>by simp[uS,VV,pN]
 |x::sc,h=>by
  simp only[zua,not_or]at h;simp only[uS,yu,ye,VV,pN];rw[qy (Ne.symm h.1),wK];have:=eD (r:=r) (sc:=sc) h.2;simp only[uS]at this;rw[this]
def uz{l:zw}{i:Nat}{o:Int}{r:zw}(hd:l.drop i=o::r):qf 1 (qv i (wo wN l))=some [.int .i64 o]:=by
 have:=zwz hd;rwa [x8]at this
def bh:ICode:=match f48.body with
 |.seq _ (.seq _ (.seq _ (.seq _ d)))=>d
 |_=>.skip
section
variable {O:Orc}{E:CapE}{L0:zb}{n0 a0:Nat}{sc0:zw}
attribute [local go_sem] TO zwP qq in
def nr{t2:Trm}{ow:zw}(hl:hs.length<1000000000)(hI:YG E L0 n0 a0 sc0 t2 hs ow fr s):Ev (evC env (evW env O) none bh fr s) λr f t=>r=.ret/\∃T L n m,f=⟨tmL T,[]⟩/\t=KL L n m false/\G T 8 (.ptr (n0+1+1+1) 0)/\wn L (n0+1+1+1)=some (.row 4 [.bool (decide (List.length ow≠a0))])/\CapM E L n sc0 ow/\∀j,j<n0->¬E.W j->m.testBit j=false:=by
 obtain⟨T,L,n,m,hid,rfl,rfl,hT,hS⟩:=hI;have t10:=hT.t10;have t6:=hT.t6;have t8:=hT.t8;have hwf:=hS.M.wf;have n4:=hS.n4;have l1:E.sid<n0:=hS.lt E.sid (.inl (.inr rfl));unfold bh f48 cF;simp only;refine wp (wq ?_);apply wA;refine wP (λi:Nat=>hs.length-i) (λi f t=>∃T L2 m2,f=⟨tmL T,[]⟩/\t=KL L2 n m2 false/\G T 6 (.ptr (n0+1) 0)/\G T 8 (.ptr (n0+1+1+1) 0)/\G T 95 (gSl 1 hid hs.length)/\G T 96 hs.length/\G T 97 i/\i<=hs.length/\wn L2 E.sid=some (.umap (uS (sc0++hs.drop i)))/\(∀j,j≠E.sid->wn L2 j=wn L j)/\∀j,j≠E.sid->m2.testBit j=m.testBit j) (λi f t hI=>?_) 0 ⟨_,L,m,rfl,rfl,V,V,V,V,V,yz _,hS.M.sco,λ_ _=>rfl,λ_ _=>rfl⟩;obtain⟨T,L2,m2,rfl,rfl,t6,t8,q95,q96,q97,hi,gs,hf,hm⟩:=hI;have g1:=hS.r1;rw[<-hf (n0+1) J]at g1;have g3:=hS.r3;rw[<-hf (n0+1+1+1) J]at g3;rcases wJ hs i with ⟨hi2,hd⟩|⟨v,hi2,hd⟩
 .have hlt:¬i<hs.length:=J;rw[hd,zvV]at gs
  have hMM:CapM E L2 n sc0 ow:={
   wf:=λj hj=>by rw[hf j J];exact hwf j hj
   len:=hS.M.len
   nd:=hS.M.nd
   hi:=hS.M.hi
   row:=by rw[hf E.fid (λe=>by have h1:=hS.M.row;rw[e,hS.M.sco]at h1;cases h1)];exact hS.M.row
   oth:=λj Y hj hji=>by rw[hf Y (λe=>hS.M.sd (e▸xU hj))];exact hS.M.oth j Y hj hji
   own:=by rw[hf E.oid (λe=>hS.M.sd (e▸hS.M.oidW))];exact hS.M.own
   sco:=gs
   sd:=hS.M.sd}
  have hfr:∀j,j<n0->¬E.W j->m2.testBit j=false:=λj hj hW=>by
   rw[hm j (λe=>hW (.inr e))];exact(hS.fr j hj hW).2
  have hlt3:∀j,E.W j\/j=E.fid->j<n0:=hS.lt;clear hS hf hm t10;refine wu ?_;refine wq ?_;refine vy (r:=.ret) ?_;refine⟨rfl,_,_,n,_,rfl,rfl,V,wC _ _ _,?_,λj h1 h2=>?_⟩
  .refine hMM.turn (WfA.same hMM.wf J) (by rw[wz,wx (by have:=hlt3 E.oid (.inl (.inl hMM.oidW));omega)];exact hMM.own) λj h1 h2 h3=>?_
   rw[wz,wx (by have:=hlt3 j h3;omega)]
  .rw[kB J];exact hfr j h1 h2
 .have hc:=uz hd;obtain⟨q1,q2,q3⟩:=hS.hr (λe=>by rw[e]at hi2;simp at hi2)
  rw[<-hf hid J]at q3;have hia:= @lU 1 hid hs.length i hi2;have hdel:=eD (r:=hs.drop (i+1)) (hS.ds v (zvY (by rw[hd];simp)))
  rw[hd]at gs;have hf2:=hf;have hm2:=hm;clear hf hm hS t10;refine wu ?_;refine⟨i+1,⟨_,_,_,rfl,rfl,V,V,V,V,V,J,wC _ _ _,λj hj=>?_,λj hj=>?_⟩,J⟩
  .rw[wz,wx hj];exact hf2 j hj
  .rw[kB hj];exact hm2 j hj
end
def zz7(h:WfA L n):Wf (KL L n m false):=by
 refine⟨λY o ho=>?_,λp hp=>by cases hp⟩
 apply Nat.lt_of_not_le;intro hle;have h1:(KL L n m false).get Y=some o:=by
  rw[gh,show seen (KL L n m false) Y=true from rfl];exact ho
 rw[qk,h Y hle]at h1;cases h1
def Li{W:List (Nat×AObj)}{o:AObj}(hn:(W.map (·.1)).Nodup)(h:wn (Kj L W) j=some o):(j,o)∈W\/((∀p∈W,p.1≠j)/\wn L j=some o):=by
 by_cases hW:∃p∈W,p.1=j
 .obtain⟨p,hp,rfl⟩:=hW;rw[(jL W L p.1 hn).1 p.2 hp]at h;cases h;exact .inl hp
 .have hne:∀p∈W,p.1≠j:=λp hp e=>hW ⟨p,hp,e⟩;rw[(jL W L j hn).2 hne]at h;exact .inr ⟨hne,h⟩
def CapX.was(x:CapX):List (Nat×AObj):=(x.E.fid,.row 74 (x.E.ids.map .map) x.E.xx x.E.ff)::(x.E.sid,.umap (uS x.sc))::VA x.E.ids x.E.S
section
variable {M:Nat}{x:CapX}{args:zA}{s:U}
def CapPre.fidW(h:CapPre M x args s):¬x.E.W x.E.fid:=by
 rintro(h1|h1)
 .obtain⟨j,hj⟩:=zuh h1;have:=h.maps j _ hj;rw[h.row]at this;cases this
 .have:=h.row;rw[h1,h.sco]at this;cases this
def CapPre.wasN(h:CapPre M x args s):(x.was.map (·.1)).Nodup:=by
 have hf:=h.fidW;simp only[CapX.was,ye,H4 h.len,zug,zua,not_or];exact⟨⟨λe=>hf (.inr e),λe=>hf (.inl e)⟩,h.sd,h.nd⟩
def CapPre.was_get(h:CapPre M x args s){p:Nat×AObj}(hp:p∈x.was):s.get p.1=some p.2/\(x.E.W p.1\/p.1=x.E.fid):=by
 simp only[CapX.was,zua]at hp;rcases hp with rfl|rfl|hp
 .exact⟨h.row,.inr rfl⟩
 .exact⟨h.sco,.inl (.inr rfl)⟩
 .obtain⟨j,h1,_,h3⟩:=H5 hp;rw[h3];exact⟨h.maps j _ h1,.inl (.inl (xU h1))⟩
theorem CapPre.wasW(h:CapPre M x args s):WfA (Kj [] x.was) s.next:=λj hj=>by
 rw[(jL x.was [] j h.wasN).2 λp hp e=>by
  have:=h.lt p.1 (h.was_get hp).2;omega]
 rfl
def CapPre.M0(h:CapPre M x args s):CapM x.E (Kj [] x.was) s.next x.sc x.E.ow where
 wf:=h.wasW
 len:=h.len
 nd:=h.nd
 hi:=h.hi
 row:=(jL x.was [] x.E.fid h.wasN).1 _ (by simp[CapX.was])
 oth :=λj Y hj _=>(jL x.was [] Y h.wasN).1 _ (by
  simp only[CapX.was,zua];refine .inr (.inr ?_);have key:∀{ids:zy} {S:ze} {j Y:Nat},zR S=zR ids->ids[j]? =some Y->(Y,AObj.umap (uS (S.getD j [])))∈VA ids S:=by
   intro ids
   induction ids with
   |nil=>intro S j Y _ hj;simp at hj
   | cons a ids ih=>
    intro S j Y hl hj;cases S with
    |nil=>simp at hl
    | cons l S=>
     cases j with
     |zero=>simp at hj;subst hj;simp[VA]
     |succ j=>
      simp only[VA,zua];refine .inr ?_;have:=ih (S:=S) (j:=j) (Y:=Y) (by simpa using hl) (by simpa using hj)
      simpa using this
  exact key h.len hj)
 own :=(jL x.was [] x.E.oid h.wasN).1 _ (by
  simp only[CapX.was,zua];refine .inr (.inr ?_);have hj:=cz h.hi;have key:∀{ids:zy} {S:ze} {j Y:Nat},zR S=zR ids->ids[j]? =some Y->(Y,AObj.umap (uS (S.getD j [])))∈VA ids S:=by
   intro ids
   induction ids with
   |nil=>intro S j Y _ hj;simp at hj
   | cons a ids ih=>
    intro S j Y hl hj;cases S with
    |nil=>simp at hl
    | cons l S=>
     cases j with
     |zero=>simp at hj;subst hj;simp[VA]
     |succ j=>
      simp only[VA,zua];refine .inr ?_;have:=ih (S:=S) (j:=j) (Y:=Y) (by simpa using hl) (by simpa using hj)
      simpa using this
  exact key h.len hj)
 sco:=(jL x.was [] x.E.sid h.wasN).1 _ (by simp[CapX.was])
 sd:=h.sd
end
def sK:ICode->ICode:=λk=>match f48.body with
 |.seq a (.seq b (.seq c _))=>.seq a (.seq b (.seq c k))
 |_=>.skip
theorem ec:f48.body=sK (.seq (.block 0 (.loop (.block 1 kR))) bh):=rfl
section
variable {P:Program}{X:World}(B:Bx P X){O:Orc}(hO:OrcOk P X O)
include B hO
def ed(h72:O 72=none)(h71:O 71=some Xf)(h48:O 48=some (Vb M))(hM:M<900000000){x:CapX}{args:zA}(h:CapPre (M+1) x args s):SC P X 48 args s (.bool (decide (List.length x.own≠(List.length x.E.ow)))) (Kk s x.objs):=by
 have hm0:=h.M0;refine zzm (F:=f48) (s0:=KL (Kj [] x.was) s.next 0 false) hO B.mixed B.glob B.env rfl (by rw[h.args];exact zvT rfl) rfl rfl rfl (zz7 h.wasW) rfl (λY o ho=>?_) rfl h.nodup (λp hp=>h.get hp) (λp hp=>?_) λC ok hP hE hO' hr hs=>?_
 .rw[qk]at ho;rcases Li h.wasN ho with h1|⟨_,h1⟩
  .exact(h.was_get h1).1
  .cases h1
 .rcases h.mem hp with ⟨e,he⟩|⟨j,hj,he⟩
  .rw[he,e];exact⟨h.lt _ (.inl (.inr rfl)),eB (c9 _)⟩
  .rw[he];exact⟨h.lt _ (.inl (.inl (xU hj))),eB (c9 _)⟩
 have hC:CO C O:=⟨ok,hE,hO',hr⟩;rw[h.args,ec];have hlt:=h.lt;have hond:=h.ond;have hok:=h.ok;have hsz:=h.sz;have hN:=h.N;have hmem:=λp hp=> @CapPre.mem _ _ _ _ h p hp;have hfst:=h.fst;simp only[CapX.own]at hmem|-;show Tri C _ _ (KL (Kj [] x.was) s.next 0 false) _
 generalize s.next=n at *
 generalize Kj [] x.was=L0 at *;obtain⟨E,t,sc⟩:=x;simp only at hm0 hlt hond hok hsz hN hmem hfst|-;obtain⟨R,hR⟩:∃R,jT E.S E.i t sc E.ow=R:=⟨_,rfl⟩;simp only[hR]at hmem|-;clear h hs;generalize CapX.objs ⟨E,t,sc⟩=W at *;unfold sK f48 cF;simp only;have hcm:=qi t;refine qN (hC.ev (wu ?_));refine qN (hC.ev (wu ?_));refine qN (hC.ev (wu ?_));refine qN ((d7 (L0:=L0) (n0:=n) (a0:=zR E.ow) (sc0:=sc) (E:=E) (t:=t) (ow:=E.ow) h72 h71 h48 hC hN hok hsz hM ⟨_,_,_,_,0,rfl,rfl,?_,?_⟩).mono (gJ λf s hI=>?_))
 .exact⟨sW,sW,sW,sW,sW,by simp (disch:=first|exact dis|fail)only[go_sem,seval,-rO,-rN,de],by simp (disch:=first|exact dis|fail)only[go_sem,seval,-rO,-rN,gSl]⟩
 .exact{
   M :=by
    rw[zvV];refine hm0.turn ?_ ?_ λj h1 h2 h3=>?_
    ·(repeat first|exact hm0.wf.up J|refine WfA.same ?_ J)
    .have:=hlt E.oid (.inl (.inl hm0.oidW))
     (repeat (rw[gN J]));exact hm0.own
    ·(repeat (rw[gN J]))
   n4:=zX _
   r0:=by
    (repeat (rw[gN J]));rw[wC];rfl
   r1:=by
    (repeat (rw[gN J]));rw[wC]
   r2:=by
    (repeat (rw[gN J]));rw[wC]
   r3:=by
    rw[wC];simp
   hr:=λhne=>absurd rfl hne
   le:=zX _
   nd:=hond
   ds:=λv hv=>by cases hv
   lt:=hlt
   fr:=λj hj hW=>⟨by (repeat (rw[gN J])),by simp⟩}
 .obtain⟨t2,hs,hI,hl⟩:=hI;rw[hR]at hI;refine(hC.ev (nr hl hI)).mono λr f t3 hz=>?_;obtain⟨rfl,T,L,n2,m,rfl,rfl,t8,g8,hM2,hm2⟩:=hz;refine⟨.bool (decide (zR R≠(zR E.ow))),KL L n2 m false,V,rfl,λp hp=>?_,λY hid hW=>?_⟩
  .rw[qk];rcases hmem p hp with ⟨e,he⟩|⟨j,hj,he⟩
   .rw[e,he];exact hM2.sco
   .rw[he];by_cases hji:j=E.i
    .rw[wH hji];subst hji;rw[hM2.oid]at hj;rw[<-Option.some.inj hj];exact hM2.own
    .rw[wx hji];exact hM2.oth j p.1 hj hji
  .refine hm2 Y hid λhWW=>?_;have:Y∈W.map (·.1):=by
    rw[hfst];rcases hWW with h1|h1
    .exact zuz _ h1
    .rw[h1];exact zvZ
   obtain⟨p,hp,he⟩:=List.mem_map.1 this;exact hW p hp he
end
def TL(B:Bx P X):∀(M:Nat),M<=900000000->OrcOk P X (withG 48 (Vb M) (withG 71 Xf noO)):=by
 have h0:OrcOk P X (withG 71 Xf noO):=(jO P X).withG pn (dG B (jO P X));intro M
 induction M with
 |zero=>
  refine λ_=>h0.withG fu λargs s v s' h=>?_;obtain⟨x,hx,_⟩:=GW h;have:=hx.sz;have:=vQ x.t;omega
 |succ M ih=>
  intro hM;refine h0.withG fu λargs s v s' h=>?_;obtain⟨x,hx,rfl,rfl⟩:=GW h;exact ed B (ih J) rfl rfl rfl J hx
def Yo(l:zw):zw->zw
 |[]=>l
 |x::r=>Yo (Qz l x) r
def kZ:List Fn->Nat->ze->ze
 |[],_,S=>S
 |f::r,i,S=>kZ r (i+1) (S.set i (jT S i f.b (Yo [] f.ps) (S.getD i [])))
def lL(c:Cd)(S:ze):ze:=kZ c.fs 0 S
def itS(c:Cd):Nat->ze
 |0=>List.replicate (zR c.fs) []
 |k+1=>lL c (itS c k)
mutual
def ui:Trm->zw
 |.mk _ _ _ _ _ az ks=>az.map (·.n)++kf ks
def kf:List Trm->zw
 |[]=>[]
 |t::r=>ui t++kf r
end
def jh(c:Cd):zw:=(c.fs.map λf=>ui f.b).flatten
def pg(c:Cd):Nat:=zR c.fs*(jh c).length
def qF(c:Cd):ze:=itS c (pg c)
def mA(sc ow:zw)(x:Int):∃z,po sc ow x=ow++z:=by
 unfold po Qz;split
 .exact⟨[],by simp⟩
 .split
  .exact⟨[],by simp⟩
  .exact⟨[x],rfl⟩
def Yv{a b c:zw}(h:∃z,b=a++z)(g:∃z,c=b++z):∃z,c=a++z:=by
 obtain⟨z,rfl⟩:=h;obtain⟨y,rfl⟩:=g;exact⟨z++y,by simp⟩
def YL(sc:zw):∀(az:List Atm) (ow:zw),∃z,uy sc ow az=ow++z
 |[],ow=>⟨[],by simp[uy]⟩
 |a::r,ow=>by
  simp only[uy];refine Yv ?_ (YL sc r _);cases eqD a.k (.ofNat 1)with
  |true=>exact mA _ _ _
  |false=>exact⟨[],by simp⟩
def d5(sc:zw):∀(l:zw) (ow:zw),∃z,QZ sc ow l=ow++z
 |[],ow=>⟨[],by simp[QZ]⟩
 |x::r,ow=>Yv (mA _ _ _) (d5 sc r _)
def dV{az:List Atm}{sc ow:zw}:∃z,Qy S i k f az sc ow=ow++z:=by
 unfold Qy;cases eqD k (.ofNat 2)with
 |false=>exact YL _ _ _
 |true=>
  simp only[wy];split
  .exact YL _ _ _
  .exact Yv (YL _ _ _) (d5 _ _ _)
mutual
theorem VO{S:ze}{i:Nat}:∀(t:Trm) (sc ow:zw),∃z,jT S i t sc ow=ow++z
 |.mk k v op n f az ks,sc,ow=>by
  simp only[jT];exact Yv (dV (S:=S) (i:=i)) (UN (S:=S) (i:=i) ks _ _)
theorem UN{S:ze}{i:Nat}:∀(ks:List Trm) (sc ow:zw),∃z,jC S i ks sc ow=ow++z
 |[],_,_=>⟨[],by simp[jC]⟩
 |x::r,sc,ow=>by
  simp only[jC];exact Yv (UN (S:=S) (i:=i) r sc ow) (VO (S:=S) (i:=i) x sc _)
end
def Hg{sc:zw}{x:Int}:∀{az:List Atm} {ow:zw},x∈uy sc ow az->x∈ow\/x∈az.map (·.n)
 |[],ow,h=>.inl h
 | a::r,ow,h=>by
  simp only[uy]at h;rcases Hg h with h|h
  .cases hk:eqD a.k (.ofNat 1)with
   |true=>
    rw[hk,wy,Yq]at h;rcases h with h|⟨h,_⟩
    .exact .inl h
    .exact .inr (by simp[h])
   |false=>rw[hk]at h;exact .inl h
  .exact .inr (by simp[h])
section
variable {S:ze}{i:Nat}{U9:zw}
def Fv(hS:∀j,∀x∈S.getD j [],x∈U9){k f:Int}{az:List Atm}{sc ow:zw}(ha:∀x∈az.map (·.n),x∈U9)(ho:∀x∈ow,x∈U9):∀x∈Qy S i k f az sc ow,x∈U9:=by
 have h1:∀x∈uy sc ow az,x∈U9:=λx hx=>by
  rcases Hg hx with h|h
  .exact ho x h
  .exact ha x h
 unfold Qy;cases eqD k (.ofNat 2)with
 |false=>exact h1
 | true=>
  simp only[wy];split
  .exact h1
  .intro x hx;rcases Wt.1 hx with h|⟨h,_⟩
   .exact h1 x h
   .exact hS _ x h
mutual
theorem d9(hS:∀j,∀x∈S.getD j [],x∈U9):∀(t:Trm) (sc ow:zw),(∀x∈ui t,x∈U9)->(∀x∈ow,x∈U9)->∀x∈jT S i t sc ow,x∈U9
 |.mk k v op n f az ks,sc,ow,hu,ho=>by
  simp only[ui,zuq]at hu;simp only[jT];exact LP hS ks _ _ (λx hx=>hu x (.inr hx)) (Fv hS (λx hx=>hu x (.inl hx)) ho)
theorem LP(hS:∀j,∀x∈S.getD j [],x∈U9):∀(ks:List Trm) (sc ow:zw),(∀x∈kf ks,x∈U9)->(∀x∈ow,x∈U9)->∀x∈jC S i ks sc ow,x∈U9
 |[],_,_,_,ho=>by simp only[jC];exact ho
 |t::r,sc,ow,hu,ho=>by
  simp only[kf,zuq]at hu;simp only[jC];exact d9 hS t sc _ (λx hx=>hu x (.inl hx)) (LP hS r sc ow (λx hx=>hu x (.inr hx)) ho)
end
end
structure SOk(U9:zw)(N:Nat)(S:ze):Prop where
 len:zR S=N
 nd:∀j,(S.getD j []).Nodup
 sub:∀j,∀x∈S.getD j [],x∈U9
def pV(hi:i<List.length S):(S.set i l).getD j []=if j=i then l else S.getD j []:=by
 rw[xR,zus];by_cases h:i=j
 .subst h;simp[hi]
 .rw[wx h,wx (Ne.symm h),<-xR]
def SOk.set{U9:zw}(h:SOk U9 N S)(hi:i<N){f:Fn}(hf:∀x∈ui f.b,x∈U9):SOk U9 N (S.set i (jT S i f.b (Yo [] f.ps) (S.getD i []))) where
 len:=by rw[zuj];exact h.len
 nd:=λj=>by
  rw[pV (by rw[h.len];exact hi)]
  split
  .exact(bg _ _ _).2 (h.nd i)
  .exact h.nd j
 sub:=λj=>by
  rw[pV (by rw[h.len];exact hi)]
  split
  .exact d9 h.sub _ _ _ hf (h.sub i)
  .exact h.sub j
def iY{U9:zw}{N:Nat}:∀(fs:List Fn) (i:Nat) (S:ze),SOk U9 N S->i+zR fs<=N->(∀f∈fs,∀x∈ui f.b,x∈U9)->SOk U9 N (kZ fs i S)
 |[],_,_,h,_,_=>h
 |f::r,i,S,h,hi,hf=>by
  simp only[kZ];simp only[yJ]at hi;exact iY r (i+1) _ (h.set J (hf f (by simp))) J λg hg=>hf g (by simp[hg])
def lG(S:ze):Nat:=(S.map zR).sum
def mo(hi:i<List.length S):lG (S.set i l)+(S.getD i []).length=lG S+List.length l:=by
 induction S generalizing i with
 |nil=>simp at hi
 | cons a S ih=>
  cases i with
  |zero=>simp[lG];omega
  |succ i=>
   have:=ih (i:=i) (by simpa using hi)
   simp only[lG,List.set_cons_succ,ye,List.sum_cons,List.getD_cons_succ]at this|-;omega
def HJ:S.set i (S.getD i [])=S:=by
 refine List.ext_getElem? λj=>?_;rw[zus];by_cases h:i=j
 .subst h;by_cases hi:i<zR S
  .rw[wH rfl,wH hi,xR,xj hi];rfl
  .rw[wH rfl,wx hi,yS J]
 .rw[wx h]
def Jn{U9:zw}{N:Nat}:∀(fs:List Fn) (i:Nat) (S:ze),SOk U9 N S->i+zR fs<=N->(∀f∈fs,∀x∈ui f.b,x∈U9)->kZ fs i S=S\/lG S<lG (kZ fs i S)
 |[],_,_,_,_,_=>.inl rfl
 | f::r,i,S,h,hi,hf=>by
  simp only[kZ];simp only[yJ]at hi;have hok:=h.set (i:=i) J (hf f (by simp))
  obtain⟨z,hz⟩:=VO (S:=S) (i:=i) f.b (Yo [] f.ps) (S.getD i []);have ht:=mo (l:=jT S i f.b (Yo [] f.ps) (S.getD i [])) (show i<(zR S) by rw[h.len];omega)
  have ih:=Jn r (i+1) _ hok J λg hg=>hf g (by simp[hg])
  cases z with
  |nil=>
   rw[zvV]at hz;rw[hz,HJ]at ih|-;exact ih
  |cons a z=>
   right
   have hl:(jT S i f.b (Yo [] f.ps) (S.getD i [])).length=(S.getD i []).length+(zR z+1):=by rw[hz];simp
   generalize S.set i (jT S i f.b (Yo [] f.ps) (S.getD i []))=S2 at *;rcases ih with ih|ih
   .rw[ih];omega
   .omega
def pm:∀{l U9:zw},l.Nodup->(∀x∈l,x∈U9)->zR l<=zR U9
 |[],_,_,_=>yz _
 | x::l,U9,hn,hs=>by
  rw[zug]at hn;obtain⟨a,b,rfl⟩:=List.append_of_mem (hs x (by simp))
  have:=pm (l:=l) (U9:=a++b) hn.2 λy hy=>by
   have h1:=hs y (by simp[hy])
   simp only[zuq,zua]at h1|-;rcases h1 with h1|h1|h1
   .exact .inl h1
   .subst h1;exact absurd hy hn.1
   .exact .inr h1
  simp only[y8,yJ]at this|-;omega
def cX{U9:zw}:∀{S:ze},(∀l∈S,l.Nodup/\∀x∈l,x∈U9)->lG S<=zR S*zR U9
 |[],_=>by simp[lG]
 |a::S,h=>by
  have h1:=h a (by simp)
  have h2:=pm h1.1 h1.2;have h3:=cX (S:=S) λl hl=>h l (by simp[hl])
  simp only[lG,ye,List.sum_cons,yJ]at h3|-;rw[Nat.succ_mul];omega
def SOk.tot{U9:zw}(h:SOk U9 N S):lG S<=N*List.length U9:=by
 rw[<-h.len];refine cX λl hl=>?_;obtain⟨j,hj⟩:=zuh hl;have:S.getD j []=l:=by rw[xR,hj];rfl
 rw[<-this];exact⟨h.nd j,h.sub j⟩
def WM(c:Cd):∀f∈c.fs,∀x∈ui f.b,x∈jh c:=λf hf x hx=>by
 unfold jh;rw[List.mem_flatten];exact⟨_,List.mem_map.2 ⟨f,hf,rfl⟩,hx⟩
def lA(c:Cd):∀k,SOk (jh c) (zR c.fs) (itS c k)
 | 0=>by
  have e:∀j,(List.replicate (zR c.fs) ([]:zw)).getD j []=[]:=λj=>by
   rw[xR,zux];split<;>rfl
  exact⟨by simp[itS],λj=>by simp only[itS];rw[e];exact List.nodup_nil,λj x hx=>by simp only[itS]at hx;rw[e]at hx;cases hx⟩
 |k+1=>iY _ _ _ (lA c k) (by simp) (WM c)
def G7(c:Cd):∀k,lL c (itS c k)=itS c k\/k<lG (itS c (k+1))
 |0=>by
  rcases Jn c.fs 0 _ (lA c 0) (by simp) (WM c)with h|h
  .exact .inl h
  .exact .inr (Nat.lt_of_le_of_lt (yz _) h)
 | k+1=>by
  rcases G7 c k with h|h
  .left
   show lL c (lL c (itS c k))=lL c (itS c k);rw[h,h]
  .rcases Jn c.fs 0 _ (lA c (k+1)) (by simp) (WM c)with h2|h2
   .exact .inl h2
   .right
    have:lG (itS c (k+1))<lG (itS c (k+1+1)):=h2;omega
def G8{c:Cd}{k:Nat}(h:lL c (itS c k)=itS c k):∀j,itS c (k+j)=itS c k
 |0=>rfl
 |j+1=>by
  show lL c (itS c (k+j))=_;rw[G8 h j,h]
def au(c:Cd):lL c (qF c)=qF c:=by
 rcases G7 c (pg c)with h|h
 .exact h
 .have:=(lA c (pg c+1)).tot;unfold pg at h this;omega
def OC{k:Nat}(h:lL c (itS c k)=itS c k):itS c k=qF c:=by
 unfold qF;by_cases hk:k<=pg c
 .have:=G8 h (pg c-k);rw[Nat.add_sub_cancel' hk]at this;exact this.symm
 .have:=G8 (au c) (k-pg c);rw[Nat.add_sub_cancel' J]at this;exact this
def zxt{k:Nat}(h:lL c (itS c k)≠itS c k):k<pg c:=by
 rcases G7 c k with h1|h1
 .exact absurd h1 h
 .have:=(lA c (k+1)).tot;unfold pg;omega
structure SetM(ids:zy)(S:ze)(fid lo:Nat)(L:zb)(n:Nat):Prop where
 wf:WfA L n
 len:zR S=zR ids
 nd:ids.Nodup
 row:wn L fid=some (.row 74 (ids.map .map))
 maps:∀j Y,ids[j]? =some Y->wn L Y=some (.umap (uS (S.getD j [])))
 los:∀Y∈ids,lo<=Y
 lof:lo<=fid
def SetM.lt(h:SetM ids S fid lo L n){Y:Nat}(hid:Y∈ids):Y<n:=by
 obtain⟨j,hj⟩:=zuh hid;exact h.wf.lt (h.maps j Y hj)
def SetM.fidn(h:SetM ids S fid lo L n):fid∉ids:=λhid=>by
 obtain⟨j,hj⟩:=zuh hid;have:=h.maps j fid hj;rw[h.row]at this;cases this
def SetM.oth(h:SetM ids S fid lo L n)(hw:WfA L2 n2)(hf:∀j,j<n->(j=fid\/j∈ids)->wn L2 j=wn L j):SetM ids S fid lo L2 n2 where
 wf:=hw
 len:=h.len
 nd:=h.nd
 row:=by rw[hf fid (h.wf.lt h.row) (.inl rfl)];exact h.row
 maps:=λj Y hj=>by rw[hf Y (h.lt (xU hj)) (.inr (xU hj))];exact h.maps j Y hj
 los:=h.los
 lof:=h.lof
def SetM.cap(h:SetM ids S fid lo L n){c:Cap}{sc:zw}(hi:i<zR ids)(hs:wn L sid=some (.umap (uS sc)))(hsd:sid∉ids):CapM ⟨ids,S,i,fid,sid,c,false,false⟩ L n sc (S.getD i []) where
 wf:=h.wf
 len:=h.len
 nd:=h.nd
 hi:=hi
 row:=h.row
 oth:=λj Y hj _=>h.maps j Y hj
 own:=h.maps i _ (cz (E:=⟨ids,S,i,fid,sid,c,false,false⟩) hi)
 sco:=hs
 sd:=hsd
def SetM.set(h:SetM ids S fid lo L n){Y:Nat}(hi:ids[i]? =some Y)(hl:wn L2 Y=some (.umap (uS l)))(hf:∀j,j≠Y->wn L2 j=wn L j):SetM ids (S.set i l) fid lo L2 n where
 wf:=λj hj=>by
  have:=h.lt (xU hi);rw[hf j J];exact h.wf j hj
 len:=by rw[zuj];exact h.len
 nd:=h.nd
 row:=by rw[hf fid (λe=>h.fidn (by rw[e];exact xU hi))];exact h.row
 maps:=λj k hj=>by
  have hlt:=(List.getElem?_eq_some_iff.1 hi).1;rw[pV (by rw[h.len];exact hlt)]
  by_cases hji:j=i
  .subst hji;rw[hi]at hj;cases hj;rw[wH rfl];exact hl
  .rw[wx hji,hf k (λe=>hji ((zun (List.getElem?_eq_some_iff.1 hj).1 h.nd).1 (hj.trans (by rw[e,hi]))))]
   exact h.maps j k hj
 los:=h.los
 lof:=h.lof
theorem zyu:∀(k:Nat) (v:Z),reps (k+1) [v]=v::reps k [v]:=λ_ _=>rfl
structure CdOk(c:Cd):Prop where
 n:zR c.fs<100000000
 f:∀f∈c.fs,VH (zR c.fs) f.b/\qb f.b<=900000000/\zR f.ps<1000000000
section
variable {O:Orc}
attribute [local go_sem] pe QM Z8 Z7 pR Um KD in
def AY (h32:O 32=none)(h48:O 48=some (Vb 900000000))(hc:CdOk c)(hw0:WfA L0 n0)(m0:Nat)(b:Bool):Cv (cl O 32 [.agg (qc c)] (KL L0 n0 m0 b)) λv t=>∃ids fid L n m,v=.sl fid 0 (List.length c.fs) (.fix (List.length c.fs))/\t=KL L n m b/\SetM ids (qF c) fid n0 L n/\List.length ids=List.length c.fs/\n0<=n/\∀j,j<n0->wn L j=wn L0 j/\m.testBit j=m0.testBit j:=by
 refine qD (F:=f32) h32 rfl rfl (zvT rfl) ?_;obtain⟨fs,main,vars,globals,consts⟩:=c;have hN:=hc.n;have hf:=hc.f;simp only at hN hf;unfold f32 cF;simp only[qc];have hms:=λl n m=> @Ag l n m 74 8 (zR fs) false [] none [.nilm] J J;refine wq ?_;refine wq ?_;refine wp (wp (wu ?_));apply wA;refine wP (λi:Nat=>zR fs-i) (λi f t=>∃T L n m ids,f=⟨tmL T,[]⟩/\t=KL L n m false/\G T 1 (.ptr n0 0)/\G T 3 (.sl (n0+1) 0 (zR fs) (.fix (zR fs)))/\G T 16 (zR fs)/\G T 17 i/\i<=zR fs/\WfA L n/\n0+1+1<=n/\wn L n0=some (.row 25 [.lst (zR fs) false (wo wW fs),main,vars,globals,.lst (zR consts) false (wQ consts)])/\wn L (n0+1)=some (.row 74 (ids.map Z.map++reps (zR fs-i) [.nilm]))/\zR ids=i/\ids.Nodup/\(∀Y∈ids,n0+1+1<=Y/\Y<n/\wn L Y=some (.umap []))/\∀j,j<n0->wn L j=wn L0 j/\m.testBit j=m0.testBit j) (λi f t hI=>?_) 0 ⟨_,_,_,_,[],rfl,rfl,sW,sW,sW,sW,yz _,?_,zX _,?_,by rw[wC];rfl,rfl,List.nodup_nil,λY h=>(by cases h),λj hj=>⟨?_,rfl⟩⟩
 .obtain ⟨T,L,n,m,ids,rfl,rfl,t1,t3,t16,t17,hi,hw,hn,g0,g1,hil,hnd,hids,hfr⟩:=hI;rcases Nat.lt_or_ge i (zR fs)with hlt|hge
  .have hp:ki (ids.map Z.map++reps (zR fs-i) [.nilm]) i [.map n]=some ((ids++[n]).map Z.map++reps (zR fs-(i+1)) [.nilm]):=by
    rw[show (zR fs)-i=(zR fs-(i+1))+1 by omega,zyu]
    have:= @Ji (ids.map Z.map) [.nilm] (reps (zR fs-(i+1)) [.nilm]) [.map n] i (by simpa using hil) rfl
    simp only[List.singleton_append]at this;rw[this,List.map_append,zum];rfl
   have hnd2:(ids++[n]).Nodup:=by
    rw[List.nodup_append];refine⟨hnd,by simp,λa ha b hb=>?_⟩
    have:=(hids a ha).2.1;simp only[yF]at hb;omega
   have hids2:=hids;have hfr2:=hfr;clear hids hfr;refine wu ?_;refine⟨i+1,⟨_,_,n+1,_,ids++[n],rfl,rfl,V,V,V,V,J,?_,J,?_,wC _ _ _,by simp[hil],hnd2,λY hid=>?_,λj hj=>⟨?_,?_⟩⟩,J⟩
   ·(repeat first|exact hw.up J|refine WfA.same ?_ J)
   ·(repeat (rw[gN J]));exact g0
   .rcases List.mem_append.1 hid with h|h
    .have:=hids2 Y h;refine⟨this.1,J,?_⟩
     (repeat (rw[gN J]));exact this.2.2
    .simp only[yF]at h;subst h;refine⟨J,J,?_⟩;rw[gN J,wC]
   ·(repeat (rw[gN J]));exact(hfr2 j hj).1
   ·(repeat rw[kB J]);exact(hfr2 j hj).2
  .have hlt:¬i<zR fs:=J;have hie:i=zR fs:=J
   have hM0:SetM ids (itS ⟨fs,main,vars,globals,consts⟩ 0) (n0+1) n0 L n:={
    wf:=hw
    len:=by simp[itS];omega
    nd:=hnd
    row:=by rw[g1,show (zR fs)-i=0 by omega];simp[reps]
    maps:=λj Y hj=>by
     rw[(hids Y (xU hj)).2.2];simp only[itS];rw[xR,zux];split<;>rfl
    los:=λY hid=>by have:=(hids Y hid).1;omega
    lof:=by omega}
   have hgt:∀Y∈ids,n0+1<Y:=λY hid=>by have:=(hids Y hid).1;omega
   clear hids g1 hms;have hfr0:=hfr;clear hfr;refine wu ?_;refine wp (wq ?_);apply wA;have hcd:CdOk ⟨fs,main,vars,globals,consts⟩:=hc;generalize hcc:(⟨fs,main,vars,globals,consts⟩:Cd)=c at *;have hfs:c.fs=fs:=by rw[<-hcc]
   have hidl:zR ids=zR c.fs:=by rw[hfs];omega
   refine wP (λx:Nat×Bool=>bif x.2 then 1+(pg c+1-x.1)else 0) (λx f t=>∃T L n m,f=⟨tmL T,[]⟩/\t=KL L n m false/\G T 1 (.ptr n0 0)/\G T 3 (.sl (n0+1) 0 (zR fs) (.fix (zR fs)))/\G T 5 (.bool x.2)/\n0+1+1<=n/\wn L n0=some (.row 25 [.lst (zR fs) false (wo wW fs),main,vars,globals,.lst (zR consts) false (wQ consts)])/\SetM ids (itS c x.1) (n0+1) n0 L n/\(x.2=false->lL c (itS c x.1)=itS c x.1)/\∀j,j<n0->wn L j=wn L0 j/\m.testBit j=m0.testBit j) (λx f t hI=>?_) (0,true) ⟨_,L,n,m,rfl,rfl,V,V,V,hn,g0,hM0,(λh=>by cases h),hfr0⟩
   clear t1 t3 t16 t17 hw hn g0 hil hM0 hfr0 hie hlt hge hi;obtain⟨T,L,n,m,rfl,rfl,t1,t3,t5,hn,g0,hM,hst,hfr⟩:=hI;obtain⟨k,g⟩:=x;simp only at t5 hM hst|-;cases g with
   |false=>
    have hfx:=OC (hst rfl);rw[hfx]at hM;clear hst;refine wu ?_;refine wq ?_;refine vy (r:=.ret) ?_;show Cv _ _;refine qP ?_;exact⟨ids,n0+1,L,n,m,rfl,rfl,hM,by rw[hidl,hfs],J,hfr⟩
   | true=>
    clear hst;refine wp (wq ?_);refine wu ?_;apply wA;refine wp (wu ?_);refine wp (wu ?_);apply wA;refine wP (λx:Nat×ze×Bool=>zR fs-x.1) (λx f t=>∃T L n m,f=⟨tmL T,[]⟩/\t=KL L n m false/\G T 1 (.ptr n0 0)/\G T 3 (.sl (n0+1) 0 (zR fs) (.fix (zR fs)))/\G T 5 (.bool x.2.2)/\G T 27 (.lst (zR fs) false (wo wW fs))/\G T 28 (zR fs)/\G T 29 x.1/\x.1<=zR fs/\n0+1+1<=n/\wn L n0=some (.row 25 [.lst (zR fs) false (wo wW fs),main,vars,globals,.lst (zR consts) false (wQ consts)])/\SetM ids x.2.1 (n0+1) n0 L n/\SOk (jh c) (zR fs) x.2.1/\kZ (fs.drop x.1) x.1 x.2.1=itS c (k+1)/\(x.2.2=false->x.2.1=itS c k)/\(x.2.2=true->lG (itS c k)<lG x.2.1)/\∀j,j<n0->wn L j=wn L0 j/\m.testBit j=m0.testBit j) (λx f t hI=>?_) (0,itS c k,false) ⟨_,L,n,m,rfl,rfl,V,V,V,V,V,V,yz _,hn,g0,hM,hfs▸lA c k,by show kZ fs 0 _=kZ c.fs 0 _;rw[hfs],(λ_=>rfl),(λh=>by cases h),hfr⟩
    clear t1 t3 t5 hn g0 hM hfr;obtain⟨T,L,n,m,rfl,rfl,t1,t3,t5,t27,t28,t29,hi,hn,g0,hM,hok,hR,hg0,hg1,hfr⟩:=hI;obtain⟨i,S,g⟩:=x;simp only at t5 t29 hi hM hok hR hg0 hg1|-;rcases wJ fs i with ⟨hi2,hd⟩|⟨f,hi2,hd⟩
    .have hlt:¬i<zR fs:=J;rw[hd]at hR;simp only[kZ]at hR;refine wu ?_;refine⟨(k+1,g),⟨_,L,n,m,rfl,rfl,V,V,V,hn,g0,hR▸hM,λh=>?_,hfr⟩,?_⟩
     .have e:lL c (itS c k)=itS c k:=by
       show itS c (k+1)=_;rw[<-hR];exact hg0 h
      show lL c (itS c (k+1))=itS c (k+1);show lL c (lL c (itS c k))=lL c (itS c k);rw[e,e]
     .cases g with
      |false=>simp only[wK,wy];omega
      | true=>
       have h1:=hg1 rfl;rw[hR]at h1;have h2:lL c (itS c k)≠itS c k:=λe=>by
        have:itS c (k+1)=itS c k:=e;rw[this]at h1;omega
       have:=zxt h2;simp only[wy];omega
    .have hmem:f∈fs:=zvY (by rw[hd];simp)
     have hcf:=X0 hd;obtain⟨hto,hts,htp⟩:=hf f hmem;rw[hd]at hR;simp only[kZ]at hR;have hset:=hok.set hi2 (WM c f (hfs▸hmem));have hpre:=VO (S:=S) (i:=i) f.b (Yo [] f.ps) (S.getD i []);obtain⟨ps,rest,cont,fr,b⟩:=f;have hcb:=qi b;obtain⟨bk,bv,bop,bn,bf,bas,bks⟩:=b;simp only[wW,wE,qt]at hcf hto hts htp hset hpre hR;have hw:=hM.wf;have lids:∀Y,Y∈ids->Y<n:=λY h=>hM.lt h;refine wq ?_;refine wq ?_;refine wp (wA ?_);refine wq ?_;refine wq ?_;refine wp (wp (wu ?_));apply wA;refine wP (λx:Nat×zw=>zR ps-x.1) (λx f t=>∃T L2 m2,f=⟨tmL T,[]⟩/\t=KL L2 (n+1+1) m2 false/\G T 1 (.ptr n0 0)/\G T 3 (.sl (n0+1) 0 (zR fs) (.fix (zR fs)))/\G T 5 (.bool g)/\G T 6 i/\G T 7 (.ptr n 0)/\G T 8 (.map (n+1))/\G T 27 (.lst (zR fs) false (wo wW fs))/\G T 28 (zR fs)/\G T 29 i/\G T 36 (.lst (zR ps) false (wo wN ps))/\G T 37 (zR ps)/\G T 38 x.1/\x.1<=zR ps/\wn L2 n=some (.row 46 [.lst (zR ps) false (wo wN ps),.bool rest,.bool cont,.lst (zR fr) false (wo wN fr),bk,bv,bop,bn,bf,.lst (zR bas) false (wo wY bas),.lst (zR bks) false (w9 bks)])/\wn L2 (n+1)=some (.umap (uS x.2))/\Yo x.2 (ps.drop x.1)=Yo [] ps/\WfA L2 (n+1+1)/\∀j,j<n->wn L2 j=wn L j/\m2.testBit j=m.testBit j) (λx f t hI=>?_) (0,[]) ⟨_,_,_,rfl,rfl,V,V,V,V,V,V,V,V,V,V,V,V,yz _,?_,?_,rfl,?_,λj hj=>⟨?_,?_⟩⟩
     .clear t1 t3 t5 t27 t28 t29 hcf;obtain⟨T,L2,m2,rfl,rfl,t1,t3,t5,t6,t7,t8,t27,t28,t29,t36,t37,t38,hj,gf,gs,hins,hw2,hfr2⟩:=hI;obtain⟨j,sc⟩:=x;simp only at t38 hj gs hins|-;rcases wJ ps j with ⟨hj2,hdp⟩|⟨p,hj2,hdp⟩
      .have hlt:¬j<zR ps:=J;rw[hdp]at hins;simp only[Yo]at hins;subst hins;have hidf:zR ids=zR fs:=by rw[hidl,hfs]
       have hM2:SetM ids S (n0+1) n0 L2 (n+1+1):=hM.oth hw2 λj hj _=>(hfr2 j hj).1;have hii:i<zR ids:=J;have hid:ids[i]? =some ids[i]:=xj hii;generalize hidd:ids[i]=Y at hid;have hidm:Y∈ids:=xU hid;have hcut:qf 1 (qv i (ids.map Z.map))=some [.map Y]:=by
        have:(ids.map Z.map).drop i=.map Y::(ids.map Z.map).drop (i+1):=by
         rw[zud (by simpa using hii)]
         simp[hidd]
        rw[qH,this];rfl
       have hsd:n+1∉ids:=λh=>by have:=lids _ h;omega
       have hCM:=hM2.cap (c:=.fix (zR fs)) hii gs hsd;have hoid:CapE.oid ⟨ids,S,i,n0+1,n+1,.fix (zR fs),false,false⟩=Y:=by
        show ids.getD i 0=Y;rw[xR,hid];rfl
       have hcap:=λm b=>Fw h48 hCM (λj hj=>by
        rcases hj with (h|h)|h
        .have:=lids j h;omega
        .rw[h];exact yK _
        .rw[h];show n0+1<_;omega) (y:=.mk bk bv bop bn bf bas bks) (by show VH (zR ids) _;rw[hidf];exact hto) hts (hok.nd i) (by show (zR ids)<_;omega) m b
       simp only[hoid,wE]at hcap;rw[hidf]at hcap;have hgt2:=hgt Y hidm;have hrow:=hM2.row;have hlt2:=lids Y hidm;generalize hown:jT S i (.mk bk bv bop bn bf bas bks) (Yo [] ps) (S.getD i [])=own at *;generalize hfl:decide (zR own≠(S.getD i []).length)=b1 at hcap;have hfin:∀{L3:zb},wn L3 Y=some (.umap (uS own))->(∀j,j≠Y->wn L3 j=wn L2 j)->SetM ids (S.set i own) (n0+1) n0 L3 (n+1+1):=λh1 h2=>hM2.set hid h1 h2;have hS0:b1=false->S.set i own=S:=λh=>by
        rw[h]at hfl;obtain⟨z,hz⟩:=hpre;have:zR own=(S.getD i []).length:=by simpa using hfl
        rw[hz,y8]at this;have hz0:z=[]:=xg J;rw[hz,hz0,zvV,HJ]
       have hS1:b1=true->lG S<lG (S.set i own):=λh=>by
        rw[h]at hfl;obtain⟨z,hz⟩:=hpre;have h1:zR own≠(S.getD i []).length:=by simpa using hfl
        have h2:=mo (l:=own) (show i<(zR S) by rw[hM2.len];exact hii)
        rw[hz,y8]at h1 h2;rw[hz];omega
       have hle:lG S<=lG (S.set i own):=by
        cases b1 with
        |true=>exact Nat.le_of_lt (hS1 rfl)
        |false=>rw[hS0 rfl];exact zX _
       have hg2:(b1||g)=false->S.set i own=itS c k:=λh=>by
        simp only[Bool.or_eq_false_iff]at h;rw[hS0 h.1];exact hg0 h.2
       have hg3:(b1||g)=true->lG (itS c k)<lG (S.set i own):=λh=>by
        cases g with
        |true=>exact Nat.lt_of_lt_of_le (hg1 rfl) hle
        |false=>
         rw[zue]at h;rw[<-hg0 rfl];exact hS1 h
       have hfr4:∀j,j<n0->wn L2 j=wn L0 j/\m2.testBit j=m0.testBit j:=λj hj=>by
        have h1:=hfr2 j J;rw[h1.1,h1.2];exact hfr j hj
       have g02:wn L2 n0=some (.row 25 [.lst (zR fs) false (wo wW fs),main,vars,globals,.lst (zR consts) false (wQ consts)]):=by
        rw[(hfr2 n0 J).1];exact g0
       clear hfl hS0 hS1 hle hg0 hg1 hfr hfr2 hM hM2 hCM hown hpre hto hts hoid hcc hidl;refine wu ?_;refine qB ?_;refine lw (hcap 0 false) λv t hv=>?_;obtain⟨L3,m3,rfl,rfl,q1,q2,q3⟩:=hv;have hM3:=hfin q1 q2;have g03:wn L3 n0=some (.row 25 [.lst (zR fs) false (wo wW fs),main,vars,globals,.lst (zR consts) false (wQ consts)]):=by
        rw[q2 n0 J];exact g02
       have hfr5:∀j,j<n0->wn L3 j=wn L0 j/\(m2|||m3).testBit j=m0.testBit j:=λj hj=>by
        refine⟨by rw[q2 j J];exact(hfr4 j hj).1,?_⟩
        rw[xF,q3 j (by
         rintro(h|h)
         .have:=hgt j h;omega
         .have:j=n+1:=h;omega)]
        simp[(hfr4 j hj).2]
       clear hcap hfin hfr4 q1 q2 q3 g02 hrow gs gf;cases b1 with
       |true=>
        refine wu ?_;refine wu ?_;exact⟨(i+1,S.set i own,true),⟨_,L3,n+1+1,_,rfl,rfl,V,V,V,V,V,V,by simp only;omega,J,g03,hM3,hset,hR,(λh=>by cases h),(λ_=>hg3 rfl),hfr5⟩,by simp only;omega⟩
       |false=>
        rw[x9]at hg2 hg3;refine wu ?_;refine wu ?_;exact⟨(i+1,S.set i own,g),⟨_,L3,n+1+1,_,rfl,rfl,V,V,V,V,V,V,by simp only;omega,J,g03,hM3,hset,hR,hg2,hg3,hfr5⟩,by simp only;omega⟩
      .have hcp:=uz hdp;have hst:=OB sc p;rw[hdp]at hins;simp only[Yo]at hins;have hfr3:=hfr2;clear hfr2 hfr hR hset hpre hg0 hg1 hto;refine wu ?_;refine⟨(j+1,Qz sc p),⟨_,_,_,rfl,rfl,V,V,V,V,V,V,V,V,V,V,V,V,by simp only;omega,by rw[gN J];exact gf,wC _ _ _,hins,WfA.same hw2 J,λj hj=>⟨?_,?_⟩⟩,by simp only;omega⟩
       .rw[gN J];exact(hfr3 j hj).1
       .rw[kB J];exact(hfr3 j hj).2
     .rw[gN J,wC]
     .rw[wC];rfl
     ·(repeat first|exact hw.up J|refine WfA.same ?_ J)
     ·(repeat (rw[gN J]))
     ·(repeat rw[kB J])
 ·(repeat first|exact hw0.up J|refine WfA.same ?_ J)
 ·(repeat (rw[gN J]));rw[wC]
 ·(repeat (rw[gN J]))
end
def wV(n m:Int):Bool:= !ltD n (.ofNat 0)&&ltD n m
def Yl(x:Int×Int):zA:=[.int .i64 x.1,.int .i64 x.2]
def Pc:∀x y,Yl x=Yl y->x=y:=λ⟨a,b⟩ ⟨c,d⟩ h=>by simpa [Yl]using h
def eK(x:Int×Int):wkL (Yl x)=Yl x:=by simp only[Yl,wkL,wkV]
theorem Gz(x:Int×Int):wL (Yl x)=true:=rfl
def Xe:zA->U->zc:=v7 Yl (λ_=>True) (λx=>.bool (wV x.1 x.2))
attribute [local go_sem] Yl in
def E4(B:Bx P X)(hO:OrcOk P X O)(x:Int×Int):∃s1,SC P X 66 (Yl x) (s00 0 true) (.bool (wV x.1 x.2)) s1:=by
 refine be B hO f66 ?_;obtain⟨n,m⟩:=x;unfold f66 cF;simp only[wV];refine wq ?_;cases h1:ltD n (.ofNat 0)with
 |true=>
  refine wq ?_;refine vy (r:=.ret) ?_;show Cv _ _;refine qP ?_;exact qM _ _
 |false=>
  refine wq ?_;refine vy (r:=.ret) ?_;show Cv _ _;refine qP ?_;exact qM _ _
def YI(h:O 66=some Xe)(a b:Int)(s:U):cl O 66 [a,b] s=some (.bool (wV a b),s):=oc h Pc (a,b) trivial (eK (a,b)) s
def primL:zw:=[.ofNat 2,.ofNat 1,.ofNat 2,.ofNat 1,.ofNat 1,.ofNat 2,.ofNat 2,.ofNat 1,.ofNat 2,.ofNat 2,.ofNat 2,.ofNat 2,.ofNat 2,.ofNat 2,.ofNat 2,.ofNat 1,.ofNat 1,.ofNat 1,.ofNat 1,.ofNat 2,.ofNat 1,.ofNat 2,.ofNat 3,.ofNat 1,.ofNat 1,.ofNat 1,.ofNat 1,.ofNat 2,.ofNat 1,.ofNat 2,.ofNat 3,.ofNat 1,.ofNat 2,.ofNat 1,.ofNat 2,.ofNat 3,.ofNat 1,.ofNat 0,.ofNat 1,.ofNat 1,.ofNat 0,.ofNat 0]
def Yw(n:Int):Int:=bif wV n (.ofNat 42)then primL.getD n.toNat 0 else .negSucc 0
def gW(n:Int):zA:=[.int .i64 n]
def WX:∀x y,gW x=gW y->x=y:=λa b h=>by simpa [gW]using h
def VY(x:Int):wkL (gW x)=gW x:=by simp only[gW,wkL,wkV]
theorem YW(x:Int):wL (gW x)=true:=rfl
def Py:zA->U->zc:=v7 gW (λ_=>True) (λx=>.int .i64 (Yw x))
def UD{n:Int}(h:ltD n (.ofNat 0)=false):∃k,n=.ofNat k:=by
 cases n with
 |ofNat k=>exact⟨k,rfl⟩
 |negSucc k=>simp[ltD]at h
section
attribute [local go_sem] gW
def AJ(B:Bx P X)(hO:OrcOk P X O)(n:Int):∃s1,SC P X 132 (gW n) (s00 0 true) (.int .i64 (Yw n)) s1:=by
 refine be B hO f132 ?_;unfold f132 cF;simp only[Yw,wV];refine wq ?_;refine wq ?_;cases h1:ltD n (.ofNat 0)with
 |true=>
  refine ev_zc ?_;exact wS _ _ _
 | false=>
  obtain⟨k,rfl⟩:=UD h1;cases h2:ltD (.ofNat k) (.ofNat 42)with
  |false=>
   refine ev_zc ?_;exact wS _ _ _
  | true=>
   have hk:k<42:=by simp[ltD]at h2;omega
   have hc:= @uz primL k (primL.getD k 0) (primL.drop (k+1)) (by
    rw[zud (show k<(zR primL)from hk),xR,xj (show k<(zR primL)from hk)];rfl)
   show Ev _ λr fr t=>Cv (Yu _ (qJ _ _ (some (r,fr,t)))) λv0 s1=>Fz s1 v0 (.int .i64 (primL.getD k 0));generalize primL.getD k 0=v at *;simp only[primL,wo,wN,yu,zv1]at hc;refine wq ?_;refine wq ?_;refine vy (r:=.ret) ?_;show Cv _ _;refine qP ?_;exact wS _ _ _
def pC(n:Int):Int:=
 bif eqD n (.ofNat 103)||(eqD n (.ofNat 105)||eqD n (.ofNat 106))then .ofNat 0
 else bif eqD n (.ofNat 100)||(eqD n (.ofNat 101)||eqD n (.ofNat 104))then .ofNat 1
 else bif eqD n (.ofNat 102)then .ofNat 2 else Yw n
def oS:zA->U->zc:=v7 gW (λ_=>True) (λx=>.int .i64 (pC x))
def OV(B:Bx P X)(hO:OrcOk P X O)(h132:O 132=some Py)(n:Int):∃s1,SC P X 147 (gW n) (s00 0 true) (.int .i64 (pC n)) s1:=by
 refine be B hO f147 ?_;have hp:=λs=>oc h132 WX n trivial (VY n) s;unfold f147 cF;simp only[pC,gW]at hp|-;have hpn:(bif wV n (.ofNat 42)then Yw n else .negSucc 0)=Yw n:=by
  unfold Yw;cases wV n (.ofNat 42)<;>rfl
 simp only[wV]at hpn;refine wq ?_;cases a1:eqD n (.ofNat 103)with
 |true=>refine wu ?_;refine qP ?_;exact wS _ _ _
 |false=>
 cases a2:eqD n (.ofNat 105)with
 |true=>refine wu ?_;refine qP ?_;exact wS _ _ _
 |false=>
 cases a3:eqD n (.ofNat 106)with
 |true=>refine wu ?_;refine qP ?_;exact wS _ _ _
 |false=>
 cases a4:eqD n (.ofNat 100)with
 |true=>refine wu ?_;refine qP ?_;exact wS _ _ _
 |false=>
 cases a5:eqD n (.ofNat 101)with
 |true=>refine wu ?_;refine qP ?_;exact wS _ _ _
 |false=>
 cases a6:eqD n (.ofNat 104)with
 |true=>refine wu ?_;refine qP ?_;exact wS _ _ _
 |false=>
 cases a7:eqD n (.ofNat 102)with
 |true=>refine wu ?_;refine qP ?_;exact wS _ _ _
 |false=>
 show Ev _ λr fr t=>Cv (Yu _ (qJ _ _ (some (r,fr,t)))) λv0 s1=>Fz s1 v0 (.int .i64 (Yw n));generalize Yw n=p at *;refine wq ?_;cases b1:ltD n (.ofNat 0)with
 |true=>
  rw[b1]at hpn;simp only[wa,zvW,wK]at hpn;subst hpn;refine wu ?_;refine qP ?_;exact wS _ _ _
 |false=>
 cases b2:ltD n (.ofNat 42)with
 |false=>
  rw[b1,b2]at hpn;simp only[zv8,wK]at hpn;subst hpn;refine wu ?_;refine qP ?_;exact wS _ _ _
 |true=>
  clear hpn;refine wq ?_;refine wq ?_;refine vy (r:=.ret) ?_;show Cv _ _;refine qP ?_;exact wS _ _ _
end
def MN(c:Cd)(f:Fn)(op:Int):Int:=
 bif eqD op (.ofNat 103)||eqD op (.ofNat 104)then c.globals else bif eqD op (.ofNat 105)then .ofNat (zR f.fr)else .ofNat 1
def Ur(c:Cd)(f:Fn)(t:Trm):Bool:=
 eqD (pC t.op) (.ofNat t.atoms.length)&&(wV t.num (MN c f t.op)&&(eqD t.fn (.ofNat 0)&&(decide (t.kids.length=1)&&wV t.var c.vars)))
def jI(x:Cd×Fn×Trm):zA:=[v8 x.1,lr x.2.1,vg x.2.2]
def Q7:∀x y,jI x=jI y->x=y:=λ⟨a,b,c⟩ ⟨d,e,f⟩ h=>by
 simp only[jI,vc,and_true]at h;rw[Pa h.1,B7 h.2.1,Ph h.2.2]
def UV(x:Cd×Fn×Trm):wkL (jI x)=jI x:=by simp only[jI,wkL,eI,F1,eN]
def X4(x:Cd×Fn×Trm):wL (jI x)=true:=by simp only[jI,v8,lr,vg,wR,uF,gS,ZD,kE,wU,xZ]
def oQ:zA->U->zc:=v7 jI (λ_=>True) (λx=>.bool (Ur x.1 x.2.1 x.2.2))
def XQ(h:b=a):Fz s (.bool a) (.bool b):=h▸qM s b
def qU{X9:zj}{U9:zc}{Q:Res->Fr->U->Prop}{R:Z->U->Prop}{v:Z}{r:Res}{fr':Fr}{s3:U}{x:Bool}(hR:x=b)(h:X9=some (r,fr',s'):=by (simp (disch:=first|exact dis|fail)only[go_sem,seval,-Int.reduceOfNat,-Int.reduceNegSucc, *];exact rfl))(h2:Q r fr' s'=Cv U9 R:=by (try simp only[qa,uU,if_true, ↓reduceIte]);first|done|exact rfl)(h3:U9=some (v,s):=by (simp (disch:=first|exact dis|fail)only[go_sem,seval,-Int.reduceOfNat,-Int.reduceNegSucc,Nat.mod_one, *];exact rfl))(h4:R v s=Fz s3 (.bool a) (.bool b):=by exact rfl)(h5:x=a:=by simp only[*,decide_true,decide_false,Bool.and_true,Bool.true_and,Bool.and_false,Bool.false_and,Bool.and_self,Bool.or_true,Bool.true_or,Bool.or_false,Bool.false_or,Bool.or_self,Bool.not_true,Bool.not_false,wy,wK,if_true,if_false, ↓reduceIte]):Ev X9 Q:=by
 subst h;exact vy (by rw[h2,h3];exact Kv (by rw[h4,<-h5,hR];exact qM _ _))
def gY{U9:zc}{Q:Res->Fr->U->Prop}{R:Z->U->Prop}{v:Z}{fr':Fr}{s3:U}{x:Bool}(hR:x=b)(h2:Q .ret fr' s'=Cv U9 R:=by exact rfl)(h3:U9=some (v,s):=by (simp (disch:=first|exact dis|fail)only[go_sem,seval,-Int.reduceOfNat,-Int.reduceNegSucc,Nat.mod_one, *];exact rfl))(h4:R v s=Fz s3 (.bool a) (.bool b):=by exact rfl)(h5:x=a:=by simp only[*,decide_true,decide_false,Bool.and_true,Bool.true_and,Bool.and_false,Bool.false_and,Bool.and_self,Bool.or_true,Bool.true_or,Bool.or_false,Bool.false_or,Bool.or_self,Bool.not_true,Bool.not_false,wy,wK,if_true,if_false, ↓reduceIte]):Ev (some (.ret,fr',s')) Q:=vy (by rw[h2,h3];exact Kv (by rw[h4,<-h5,hR];exact qM _ _))
section
variable {P:Program}{X:World}(B:Bx P X){O:Orc}(hO:OrcOk P X O)
include B hO
attribute [local go_sem] jI v8 lr vg qc wW wE qt in
def NE(h147:O 147=some oS)(h66:O 66=some Xe)(x:Cd×Fn×Trm):∃s1,SC P X 118 (jI x) (s00 0 true) (.bool (Ur x.1 x.2.1 x.2.2)) s1:=by
 refine be B hO f118 ?_;obtain⟨⟨fs,main,vars,globals,consts⟩,⟨ps,rest,cont,fr,b⟩,⟨k,v,op,num,fn,az,ks⟩⟩:=x;have ht:=λs=>oc h147 WX op trivial (VY op) s;have hb:=YI h66;obtain⟨R,hR⟩:∃R,Ur ⟨fs,main,vars,globals,consts⟩ ⟨ps,rest,cont,fr,b⟩ (.mk k v op num fn az ks)=R:=⟨_,rfl⟩;rw[hR];simp only[Ur,MN,Trm.op,Trm.atoms,Trm.num,Trm.fn,Trm.kids,Trm.var]at hR;obtain⟨bk,bv,bop,bn,bf,bas,bks⟩:=b;unfold f118 cF;simp only[gW]at ht|-;generalize pC op=tk at *;refine wq ?_;refine wq ?_;cases a1:eqD op (.ofNat 103)with
 |true=>
  rw[a1]at hR;simp only[zut,wy]at hR;refine wq ?_;have hb1:=hb num (globals);have hb2:=hb v vars;clear hb;generalize wV num (globals)=c2 at *;generalize wV v vars=c5 at *;cases e1:eqD tk (.ofNat (zR az))with
  |false=>refine wq ?_;exact gY hR
  |true=>
  cases c2 with
  |false=>refine wq ?_;exact gY hR
  |true=>
  cases e3:eqD fn (.ofNat 0)with
  |false=>refine wq ?_;exact gY hR
  |true=>
  by_cases e4:zR ks=1
  .refine wq ?_;exact gY hR
  .refine wq ?_;exact gY hR
 |false=>
 cases a2:eqD op (.ofNat 104)with
 |true=>
  rw[a1,a2]at hR;simp only[zul,wy]at hR;refine wq ?_;have hb1:=hb num (globals);have hb2:=hb v vars;clear hb;generalize wV num (globals)=c2 at *;generalize wV v vars=c5 at *;cases e1:eqD tk (.ofNat (zR az))with
  |false=>refine wq ?_;exact gY hR
  |true=>
  cases c2 with
  |false=>refine wq ?_;exact gY hR
  |true=>
  cases e3:eqD fn (.ofNat 0)with
  |false=>refine wq ?_;exact gY hR
  |true=>
  by_cases e4:zR ks=1
  .refine wq ?_;exact gY hR
  .refine wq ?_;exact gY hR
 |false=>
 cases a3:eqD op (.ofNat 105)with
 |true=>
  rw[a1,a2,a3]at hR;simp only[zue,wK,wy]at hR;refine wq ?_;have hb1:=hb num (.ofNat (zR fr));have hb2:=hb v vars;clear hb;generalize wV num (.ofNat (zR fr))=c2 at *;generalize wV v vars=c5 at *;cases e1:eqD tk (.ofNat (zR az))with
  |false=>refine wq ?_;exact gY hR
  |true=>
  cases c2 with
  |false=>refine wq ?_;exact gY hR
  |true=>
  cases e3:eqD fn (.ofNat 0)with
  |false=>refine wq ?_;exact gY hR
  |true=>
  by_cases e4:zR ks=1
  .refine wq ?_;exact gY hR
  .refine wq ?_;exact gY hR
 |false=>
  rw[a1,a2,a3]at hR;simp only[zue,wK]at hR;refine wq ?_;have hb1:=hb num (.ofNat 1);have hb2:=hb v vars;clear hb;generalize wV num (.ofNat 1)=c2 at *;generalize wV v vars=c5 at *;cases e1:eqD tk (.ofNat (zR az))with
  |false=>refine wq ?_;exact gY hR
  |true=>
  cases c2 with
  |false=>refine wq ?_;exact gY hR
  |true=>
  cases e3:eqD fn (.ofNat 0)with
  |false=>refine wq ?_;exact gY hR
  |true=>
  by_cases e4:zR ks=1
  .refine wq ?_;exact gY hR
  .refine wq ?_;exact gY hR
end
def K3(vars nc:Int)(a:Atm):Bool:= !((!eqD a.k (.ofNat 1)&& !eqD a.k (.ofNat 2))||((eqD a.k (.ofNat 1)&& !wV a.n vars)||(eqD a.k (.ofNat 2)&& !wV a.n nc)))
def fn0:Fn:=⟨[],false,false,[],.mk 0 0 0 0 0 [] []⟩
def Xb(c:Cd)(n:Int):Fn:=c.fs.getD n.toNat fn0
def Yz(c:Cd)(k v op num fn:Int)(na nk:Nat):Bool:=
 !((!eqD op (.ofNat 0)|| !eqD num (.ofNat 0))||((!eqD k (.ofNat 2)&& !eqD v (.ofNat 0))||((!eqD k (.ofNat 2)&& !eqD k (.ofNat 5))&& !eqD fn (.ofNat 0))))&&
 (bif eqD k (.ofNat 2)then (wV fn (.ofNat (zR c.fs))&&(wV v c.vars&&decide (na=(Xb c fn).fr.length)))&&decide (nk=1)
  else bif eqD k (.ofNat 3)then decide (na=1)&&decide (nk=2)
  else bif eqD k (.ofNat 4)then decide (1<=na)&&decide (nk=0)
  else bif eqD k (.ofNat 6)then decide (2<=na)&&decide (nk=0)
  else bif eqD k (.ofNat 5)then (wV fn (.ofNat (zR c.fs))&&(!(Xb c fn).rest&&decide (na=1+(Xb c fn).ps.length)))&&decide (nk=0)
  else eqD k (.ofNat 7)&&(decide (na=0)&&decide (nk=0)))
def uD(c:Cd)(f:Fn)(t:Trm):Bool:=
 t.atoms.all (K3 c.vars (.ofNat (zR c.consts)))&&(bif eqD t.kind (.ofNat 1)then Ur c f t else Yz c t.kind t.var t.op t.num t.fn t.atoms.length t.kids.length)
def sE(x:Cd×Fn×Trm):Prop:=(∀g∈x.1.fs,g.ps.length<1000000000)/\zR x.2.2.atoms<1000000000
def bO:zA->U->zc:=v7 jI sE (λx=>.bool (uD x.1 x.2.1 x.2.2))
theorem kS{l:List Fn}{i:Nat}{o:Fn}{r:List Fn}(hd:l.drop i=o::r):qv (i*11) (wo wW l)=wW o++wo wW r:=by
 rw[jb lQ,hd];rfl
def gC{n:Int}(h:wV n (.ofNat N)=true):∃j,n=.ofNat j/\j<N:=by
 simp only[wV,zU,Bool.not_eq_true']at h;obtain⟨j,rfl⟩:=UD h.1;refine⟨j,rfl,?_⟩;have:=h.2;simp only[ltD,hZ]at this;exact Int.ofNat_lt.1 this
section
variable {P:Program}{X:World}(B:Bx P X){O:Orc}(hO:OrcOk P X O)
include B hO
attribute [local go_sem] jI v8 lr vg qc wW wE qt in
def CP (h118:O 118=some oQ)(h66:O 66=some Xe)(x:Cd×Fn×Trm)(hx:sE x):∃s1,SC P X 89 (jI x) (s00 0 true) (.bool (uD x.1 x.2.1 x.2.2)) s1:=by
 refine be B hO f89 ?_;have hpr:=λs=>oc h118 Q7 x trivial (UV x) s;obtain⟨⟨fs,main,vars,globals,consts⟩,⟨ps,rest,cont,fr,b⟩,⟨k,v,op,num,fn,az,ks⟩⟩:=x;obtain⟨hps,hal⟩:=hx;have hb:=YI h66;simp only[Trm.atoms]at hps hal;obtain⟨R,hR⟩:∃R,uD ⟨fs,main,vars,globals,consts⟩ ⟨ps,rest,cont,fr,b⟩ (.mk k v op num fn az ks)=R:=⟨_,rfl⟩;rw[hR];simp only[uD,Trm.kind,Trm.op,Trm.atoms,Trm.num,Trm.fn,Trm.kids,Trm.var]at hR;generalize Ur ⟨fs,main,vars,globals,consts⟩ ⟨ps,rest,cont,fr,b⟩ (.mk k v op num fn az ks)=pr at *;obtain⟨bk,bv,bop,bn,bf,bas,bks⟩:=b;simp only[jI,v8,lr,vg,qc,wW,wE,qt]at hpr;unfold f89 cF;simp only;refine wq ?_;refine wp (wp (wu ?_));apply wA;refine wP (λi:Nat=>zR az-i) (λi f t=>∃T L n m,f=⟨tmL T,[]⟩/\t=KL L n m true/\G T 3 (.ptr 0 0)/\G T 4 (.ptr 1 0)/\G T 5 (.ptr 2 0)/\G T 12 (.lst (zR az) false (wo wY az))/\G T 13 (zR az)/\G T 14 i/\i<=zR az/\3<=n/\wn L 0=some (.row 25 [.lst (zR fs) false (wo wW fs),main,vars,globals,.lst (zR consts) false (wQ consts)])/\wn L 1=some (.row 46 [.lst (zR ps) false (wo wN ps),.bool rest,.bool cont,.lst (zR fr) false (wo wN fr),bk,bv,bop,bn,bf,.lst (zR bas) false (wo wY bas),.lst (zR bks) false (w9 bks)])/\wn L 2=some (.row 44 [k,v,op,num,fn,.lst (zR az) false (wo wY az),.lst (zR ks) false (w9 ks)])/\az.all (K3 vars (.ofNat (zR consts)))=(az.drop i).all (K3 vars (.ofNat (zR consts)))) (λi f t hI=>?_) 0 ⟨_,_,3,_,rfl,rfl,sW,sW,sW,sW,sW,sW,yz _,zX _,sW,sW,sW,rfl⟩;obtain⟨T,L,n,m,rfl,rfl,t3,t4,t5,t12,t13,t14,hi,hn,g0,g1,g2,hal2⟩:=hI;rcases wJ az i with ⟨hi2,hd⟩|⟨a,hi2,hd⟩
 .have hlt:¬i<zR az:=J;rw[hd]at hal2;rw[hal2,show ([]:List Atm).all (K3 vars (.ofNat (zR consts)))=true from rfl,xC]at hR;clear hal2 hd;refine wu ?_;refine wq ?_;by_cases k1:k=.ofNat 1
  .subst k1;simp only[show eqD (.ofNat 1) (.ofNat 1)=true from rfl,wy]at hR;refine wu ?_;refine qP ?_;exact XQ rfl
  by_cases k2:k=.ofNat 2
  .subst k2;simp only[Yz,show eqD (.ofNat 2) (.ofNat 1)=false from rfl,show eqD (.ofNat 2) (.ofNat 2)=true from rfl,show eqD (.ofNat 2) (.ofNat 3)=false from rfl,show eqD (.ofNat 2) (.ofNat 4)=false from rfl,show eqD (.ofNat 2) (.ofNat 5)=false from rfl,show eqD (.ofNat 2) (.ofNat 6)=false from rfl,show eqD (.ofNat 2) (.ofNat 7)=false from rfl,wy,wK,wa,zv6,zvW,x9]at hR;cases a1:eqD op (.ofNat 0)with
   |false=>exact qU hR
   |true=>
   cases a2:eqD num (.ofNat 0)with
   |false=>exact qU hR
   |true=>
   have hb1:=hb fn (.ofNat (zR fs));have hb2:=hb v vars;clear hb;cases c1:wV fn (.ofNat (zR fs))with
   |false=>rw[c1]at hb1 hR;exact qU hR
   |true=>
   rw[c1]at hb1 hR;obtain⟨j,rfl,hj⟩:=gC c1;clear c1;cases c2:wV v vars with
   |false=>rw[c2]at hb2 hR;exact qU hR
   |true=>
   rw[c2]at hb2 hR;clear c2;have hdj:fs.drop j=fs[j]::fs.drop (j+1):=zud hj;have hdr:=kS hdj;have hg:Xb ⟨fs,main,vars,globals,consts⟩ (.ofNat j)=fs[j]:=by
    show fs.getD j fn0=_;rw[xR,xj hj];rfl
   have hgl:=hps fs[j] (zuv hj);rw[hg]at hR;clear hg hps hdj;generalize fs[j]=g at *;obtain⟨gps,grest,gcont,gfr,gb⟩:=g;obtain⟨gk,gv,gop,gn,gf,gas,gks⟩:=gb;simp only[wW,wE,qt,yu,zv1]at hdr hgl hR;by_cases c3:zR az=zR gfr
   .by_cases c4:zR ks=1
    .exact qU hR
    .exact qU hR
   .exact qU hR
  by_cases k3:k=.ofNat 3
  .subst k3;simp only[Yz,show eqD (.ofNat 3) (.ofNat 1)=false from rfl,show eqD (.ofNat 3) (.ofNat 2)=false from rfl,show eqD (.ofNat 3) (.ofNat 3)=true from rfl,show eqD (.ofNat 3) (.ofNat 4)=false from rfl,show eqD (.ofNat 3) (.ofNat 5)=false from rfl,show eqD (.ofNat 3) (.ofNat 6)=false from rfl,show eqD (.ofNat 3) (.ofNat 7)=false from rfl,wy,wK,zv6,zvW,xC]at hR;cases a1:eqD op (.ofNat 0)with
   |false=>exact qU hR
   |true=>
   cases a2:eqD num (.ofNat 0)with
   |false=>exact qU hR
   |true=>
   cases a3:eqD v (.ofNat 0)with
   |false=>exact qU hR
   |true=>
   cases a4:eqD fn (.ofNat 0)with
   |false=>exact qU hR
   |true=>
   by_cases c1:zR az=1
   .by_cases c2:zR ks=2
    .exact qU hR
    .exact qU hR
   .exact qU hR
  by_cases k4:k=.ofNat 4
  .subst k4;simp only[Yz,show eqD (.ofNat 4) (.ofNat 1)=false from rfl,show eqD (.ofNat 4) (.ofNat 2)=false from rfl,show eqD (.ofNat 4) (.ofNat 3)=false from rfl,show eqD (.ofNat 4) (.ofNat 4)=true from rfl,show eqD (.ofNat 4) (.ofNat 5)=false from rfl,show eqD (.ofNat 4) (.ofNat 6)=false from rfl,show eqD (.ofNat 4) (.ofNat 7)=false from rfl,wy,wK,zv6,zvW,xC]at hR;cases a1:eqD op (.ofNat 0)with
   |false=>exact qU hR
   |true=>
   cases a2:eqD num (.ofNat 0)with
   |false=>exact qU hR
   |true=>
   cases a3:eqD v (.ofNat 0)with
   |false=>exact qU hR
   |true=>
   cases a4:eqD fn (.ofNat 0)with
   |false=>exact qU hR
   |true=>
   by_cases c1:1<=zR az
   .by_cases c2:zR ks=0
    .exact qU hR
    .exact qU hR
   .exact qU hR
  by_cases k5:k=.ofNat 5
  .subst k5;simp only[Yz,show eqD (.ofNat 5) (.ofNat 1)=false from rfl,show eqD (.ofNat 5) (.ofNat 2)=false from rfl,show eqD (.ofNat 5) (.ofNat 3)=false from rfl,show eqD (.ofNat 5) (.ofNat 4)=false from rfl,show eqD (.ofNat 5) (.ofNat 5)=true from rfl,show eqD (.ofNat 5) (.ofNat 6)=false from rfl,show eqD (.ofNat 5) (.ofNat 7)=false from rfl,wy,wK,wa,zv6,zvW,xC]at hR;cases a1:eqD op (.ofNat 0)with
   |false=>exact qU hR
   |true=>
   cases a2:eqD num (.ofNat 0)with
   |false=>exact qU hR
   |true=>
   cases a3:eqD v (.ofNat 0)with
   |false=>exact qU hR
   |true=>
   have hb1:=hb fn (.ofNat (zR fs));clear hb;cases c1:wV fn (.ofNat (zR fs))with
   |false=>rw[c1]at hb1 hR;exact qU hR
   |true=>
   rw[c1]at hb1 hR;obtain⟨j,rfl,hj⟩:=gC c1;clear c1;have hdj:fs.drop j=fs[j]::fs.drop (j+1):=zud hj;have hdr:=kS hdj;have hg:Xb ⟨fs,main,vars,globals,consts⟩ (.ofNat j)=fs[j]:=by
    show fs.getD j fn0=_;rw[xR,xj hj];rfl
   have hgl:=hps fs[j] (zuv hj);rw[hg]at hR;clear hg hps hdj;generalize fs[j]=g at *;obtain⟨gps,grest,gcont,gfr,gb⟩:=g;obtain⟨gk,gv,gop,gn,gf,gas,gks⟩:=gb;simp only[wW,wE,qt,yu,zv1]at hdr hgl hR;cases grest with
   |true=>exact qU hR
   |false=>
   by_cases c3:zR az=1+zR gps
   .by_cases c4:zR ks=0
    .exact qU hR
    .exact qU hR
   .exact qU hR
  by_cases k6:k=.ofNat 6
  .subst k6;simp only[Yz,show eqD (.ofNat 6) (.ofNat 1)=false from rfl,show eqD (.ofNat 6) (.ofNat 2)=false from rfl,show eqD (.ofNat 6) (.ofNat 3)=false from rfl,show eqD (.ofNat 6) (.ofNat 4)=false from rfl,show eqD (.ofNat 6) (.ofNat 5)=false from rfl,show eqD (.ofNat 6) (.ofNat 6)=true from rfl,show eqD (.ofNat 6) (.ofNat 7)=false from rfl,wy,wK,zv6,zvW,xC]at hR;cases a1:eqD op (.ofNat 0)with
   |false=>exact qU hR
   |true=>
   cases a2:eqD num (.ofNat 0)with
   |false=>exact qU hR
   |true=>
   cases a3:eqD v (.ofNat 0)with
   |false=>exact qU hR
   |true=>
   cases a4:eqD fn (.ofNat 0)with
   |false=>exact qU hR
   |true=>
   by_cases c1:2<=zR az
   .by_cases c2:zR ks=0
    .exact qU hR
    .exact qU hR
   .exact qU hR
  by_cases k7:k=.ofNat 7
  .subst k7;simp only[Yz,show eqD (.ofNat 7) (.ofNat 1)=false from rfl,show eqD (.ofNat 7) (.ofNat 2)=false from rfl,show eqD (.ofNat 7) (.ofNat 3)=false from rfl,show eqD (.ofNat 7) (.ofNat 4)=false from rfl,show eqD (.ofNat 7) (.ofNat 5)=false from rfl,show eqD (.ofNat 7) (.ofNat 6)=false from rfl,show eqD (.ofNat 7) (.ofNat 7)=true from rfl,wK,zv6,xC]at hR;cases a1:eqD op (.ofNat 0)with
   |false=>exact qU hR
   |true=>
   cases a2:eqD num (.ofNat 0)with
   |false=>exact qU hR
   |true=>
   cases a3:eqD v (.ofNat 0)with
   |false=>exact qU hR
   |true=>
   cases a4:eqD fn (.ofNat 0)with
   |false=>exact qU hR
   |true=>
   by_cases c1:zR az=0
   .by_cases c2:zR ks=0
    .exact qU hR
    .exact qU hR
   .exact qU hR
  have e1:=qw k1;have e2:=qw k2;have e3:=qw k3;have e4:=qw k4;have e5:=qw k5;have e6:=qw k6;have e7:=qw k7;simp only[Yz,e1,e2,e3,e4,e5,e6,e7,wK,zvW,zv8]at hR;subst hR;cases a1:eqD op (.ofNat 0)with
  |false=>refine wu ?_;refine qP ?_;exact qM _ _
  |true=>
  cases a2:eqD num (.ofNat 0)with
  |false=>refine wu ?_;refine qP ?_;exact qM _ _
  |true=>
  cases a3:eqD v (.ofNat 0)with
  |false=>refine wu ?_;refine qP ?_;exact qM _ _
  |true=>
  cases a4:eqD fn (.ofNat 0)with
  |false=>refine wu ?_;refine qP ?_;exact qM _ _
  |true=>
  refine wu ?_;refine qP ?_;exact qM _ _
 .have hc:=US hd;rw[hd,zv2]at hal2;have hb1:=hb a.n vars;have hb2:=hb a.n (.ofNat (zR consts));obtain⟨ak,an⟩:=a;simp only[K3]at hal2;simp only at hc hb1 hb2;clear hb hpr;generalize wV an vars=b1 at *;generalize wV an (.ofNat (zR consts))=b2 at *;cases e1:eqD ak (.ofNat 1)with
  | false=>
   cases e2:eqD ak (.ofNat 2)with
   |false=>refine wu ?_;refine qP ?_;exact XQ (by rw[<-hR,hal2];simp only[*,zvW,xZ,zue,zuk,wa,zv6])
   | true=>
    cases b2 with
    |false=>refine wu ?_;refine qP ?_;exact XQ (by rw[<-hR,hal2];simp only[*,zv8,zvW,xZ,zul,wa,zv6])
    | true=>
     (refine wu ?_
      exact⟨i+1,⟨_,_,n+1,_,rfl,rfl,V,V,V,V,V,V,J,J,by (repeat rw[gN J]);exact g0,by (repeat rw[gN J]);exact g1,by (repeat rw[gN J]);exact g2,(by rw[hal2];simp only[*,xC,zv8,zvW,zuk,wa,zv6])⟩,J⟩)
  | true=>
   cases b1 with
   |false=>refine wu ?_;refine qP ?_;exact XQ (by rw[<-hR,hal2];simp only[*,zvW,xZ,zul,zut,wa,zv6])
   | true=>
    cases e2:eqD ak (.ofNat 2)with
    | false=>
     (refine wu ?_
      exact⟨i+1,⟨_,_,n+1,_,rfl,rfl,V,V,V,V,V,V,J,J,by (repeat rw[gN J]);exact g0,by (repeat rw[gN J]);exact g1,by (repeat rw[gN J]);exact g2,(by rw[hal2];simp only[*,zui,xC,zv8,zvW,zuk,wa,zv6])⟩,J⟩)
    | true=>
     cases b2 with
     |false=>refine wu ?_;refine qP ?_;exact XQ (by rw[<-hR,hal2];simp only[*,zv8,zvW,xZ,zul,wa,zv6])
     | true=>
      (refine wu ?_
       exact⟨i+1,⟨_,_,n+1,_,rfl,rfl,V,V,V,V,V,V,J,J,by (repeat rw[gN J]);exact g0,by (repeat rw[gN J]);exact g1,by (repeat rw[gN J]);exact g2,(by rw[hal2];simp only[*,xC,zv8,xZ,zuk,wa,zv6])⟩,J⟩)
end
mutual
def ur(c:Cd)(f:Fn):Trm->Bool
 |.mk k v op n fn az ks=>uD c f (.mk k v op n fn az ks)&&jH c f ks
def jH(c:Cd)(f:Fn):List Trm->Bool
 |[]=>true
 |t::r=>ur c f t&&jH c f r
end
mutual
def SzT:Trm->Prop
 |.mk _ _ _ _ _ az ks=>zR az<1000000000/\zR ks<1000000000/\p7 ks
def p7:List Trm->Prop
 |[]=>True
 |t::r=>SzT t/\p7 r
end
def DB{f:Fn}(h:Ur c f t=true):t.kids.length=1:=by
 simp only[Ur,zU,hZ]at h;exact h.2.2.2.1
def Va{c:Cd}{f:Fn}{t:Trm}(h:uD c f t=true):t.kids.length<=2:=by
 unfold uD at h;rw[zU]at h;have h2:=h.2;cases h1:eqD t.kind (.ofNat 1)with
 |true=>rw[h1]at h2;have:=DB h2;omega
 | false=>
  rw[h1,wK]at h2;unfold Yz at h2;rw[zU]at h2;have h3:=h2.2;have key:∀{a:Bool} {n:Nat},(a&&decide (t.kids.length=n))=true->t.kids.length=n:=λh=>by
   rw[zU,hZ]at h;exact h.2
  cases e2:eqD t.kind (.ofNat 2)with
  |true=>rw[e2,wy]at h3;have:=key h3;omega
  |false=>
  rw[e2,wK]at h3;cases e3:eqD t.kind (.ofNat 3)with
  |true=>rw[e3,wy]at h3;have:=key h3;omega
  |false=>
  rw[e3,wK]at h3;cases e4:eqD t.kind (.ofNat 4)with
  |true=>rw[e4,wy]at h3;have:=key h3;omega
  |false=>
  rw[e4,wK]at h3;cases e6:eqD t.kind (.ofNat 6)with
  |true=>rw[e6,wy]at h3;have:=key h3;omega
  |false=>
  rw[e6,wK]at h3;cases e5:eqD t.kind (.ofNat 5)with
  |true=>rw[e5,wy]at h3;have:=key h3;omega
  |false=>
  rw[e5,wK,zU]at h3;have:=key h3.2;omega
section
variable {O:Orc}{c:Cd}{f:Fn}
def OX(h70:O 70=none)(h89:O 89=some bO)(hps:∀g∈c.fs,g.ps.length<1000000000):∀(k:Nat) (t:Trm),qb t<=k->SzT t->∀(L:zb) (n m:Nat) (b:Bool),
  cl O 70 [v8 c,lr f,vg t] (KL L n m b)=some (.bool (ur c f t),KL L n m b):=by
 intro k
 induction k with
 |zero=>intro t h;have:=vQ t;omega
 | succ k ih=>
  intro t hk hsz L n m b;have key:Cv (cl O 70 [v8 c,lr f,vg t] (KL L n m b)) λv t'=>v=.bool (ur c f t)/\t'=KL L n m b:=by
   refine vr (F:=f70) h70 rfl rfl (zvT rfl) ?_;have hfo:=λt h s=>oc h89 Q7 (c,f,t) h (UV (c,f,t)) s;obtain⟨R,hR⟩:∃R,ur c f t=R:=⟨_,rfl⟩;rw[hR];have hcc:=gS c;have hcl:(qc c).length=5:=rfl;have hcs:w8 (qc c)=true:=by simp only[qc,ko,lO,YB,WH,xZ]
   have hfl:=lQ f;have hfs:=JF f;simp only[jI,v8,lr,vg]at hfo ih|-;generalize qc c=cc at *;generalize wW f=ff at *;have hc5:qf 5 cc=some cc:=qz hcl;have hf11:qf 11 ff=some ff:=qz hfl;unfold f70 cF;simp only;refine wq ?_;refine wp (wA ?_);refine wP (λx:Trm=>qb x) (λx f' t'=>∃T L2 m',f'=⟨tmL T,[]⟩/\t'=KL L2 (n+1+1+1) m' true/\G T 3 (.ptr n 0)/\G T 4 (.ptr (n+1) 0)/\G T 5 (.ptr (n+1+1) 0)/\wn L2 n=some (.row 25 cc)/\wn L2 (n+1)=some (.row 46 ff)/\wn L2 (n+1+1)=some (jg x)/\m'%2^n=0/\qb x<=k+1/\SzT x/\ur c f x=R) (λx f' t' hI=>?_) t ⟨_,_,_,rfl,rfl,sW,sW,sW,sW,sW,by simp (disch:=first|exact dis|fail)only[go_sem,seval,-rO,-rN,jg],by simp,hk,hsz,hR⟩
   clear hR hsz hk;obtain⟨T,L2,m',rfl,rfl,t3,t4,t5,g0,g1,g2,hm,hk,hsz,hR⟩:=hI;obtain⟨tk,v,op,num,fn,az,ks⟩:=x;have hcall:=hfo (.mk tk v op num fn az ks) ⟨hps,hsz.1⟩;have hfl2:= @Va c f (.mk tk v op num fn az ks);simp only[ur]at hR;simp only[SzT]at hsz;simp only[Trm.kids]at hfl2;simp only[wE]at hcall;simp only[jg,wE]at g2;simp only[qb]at hk;clear hfo;generalize uD c f (.mk tk v op num fn az ks)=bb at *;cases bb with
   |false=>
    rw[zvW]at hR;subst hR;refine wu ?_;refine ev_zc ?_;exact⟨rfl,rfl⟩
   | true=>
    rw[xC]at hR;have hle:=hfl2 rfl;clear hfl2;rcases ks with _|⟨x,_|⟨y,_|⟨z,w⟩⟩⟩
    rotate_right
    .exact absurd hle (by simp only[yJ];omega)
    .simp only[jH]at hR;subst hR;simp only[xY]at hcall g2;refine wq ?_;refine ev_zc ?_;exact⟨rfl,rfl⟩
    .simp only[jH,zui,qY,p7,and_true]at hR hk hsz;have hc:qf 7 (w9 [x])=some (wZ x):=by rw[vx];exact uT (qi x)
     obtain⟨k2,v2,op2,num2,f2,as2,ks2⟩:=x;simp only[wE]at hc;simp only[yJ,xY]at hcall g2;refine wq ?_;refine wu ?_;refine⟨_,⟨_,_,_,rfl,rfl,V,V,V,V,V,by simp (disch:=first|exact dis|fail)only[go_sem,seval,-rO,-rN,jg,wE],V,J,hsz.2.2,hR⟩,by simp only[qb,qY];omega⟩
    .simp only[jH,zui,qY,p7,and_true]at hR hk hsz;have hc:qf 7 (w9 [x,y])=some (wZ x):=by rw[vx];exact uT (qi x)
     have hc2:qf 7 (qv 7 (w9 [x,y]))=some (wZ y):=by
      simp only[vx,kF,zvV];rw[qH,zuy (qi x)];exact qz (qi y)
     have hpx:=vQ x;have hih:=ih y J hsz.2.2.2;generalize ur c f y=by_ at *;obtain⟨k2,v2,op2,num2,f2,as2,ks2⟩:=x;simp only[wE]at hc;simp only[yJ,xY]at hcall g2;clear ih;cases by_ with
     |false=>
      rw[zv8]at hR;subst hR;refine wq ?_;refine ev_zc ?_;exact⟨rfl,rfl⟩
     |true=>
      rw[zui]at hR;refine wq ?_;refine wu ?_;refine⟨_,⟨_,_,_,rfl,rfl,V,V,V,V,V,by simp (disch:=first|exact dis|fail)only[go_sem,seval,-rO,-rN,jg,wE],V,J,hsz.2.2.1,hR⟩,by simp only[qb,qY];omega⟩
  obtain⟨v,t',h,rfl,rfl⟩:=key;exact h
end
section
variable {O:Orc}
section
attribute [local go_sem] EG si Vz
def Tm(h88:O 88=none)(k:Nat)(hk:k<10000000000)(L:zb)(n m:Nat)(b:Bool):
  cl O 88 [.nils,.int .i64 (.ofNat (k+1))] (KL L n m b)=some (.sl n 0 0 (.opn 1),KL ((n,some (.row 3 (reps (k+1) [.int .i64 (.ofNat 0)]) true false))::L) (n+1) m b):=by
 have key:Cv (cl O 88 [.nils,.int .i64 (.ofNat (k+1))] (KL L n m b)) λv t=>v=.sl n 0 0 (.opn 1)/\t=KL ((n,some (.row 3 (reps (k+1) [.int .i64 (.ofNat 0)]) true false))::L) (n+1) m b:=by
  refine qD (F:=f88) h88 rfl rfl (zvT rfl) ?_;have s1:QE 1 .nils none (some (.int .i64 (.ofNat 0))) none=some .nils:=rfl;have s2:QE 1 (.sl n 0 (k+1) (.opn 1)) none (some (.int .i64 (.ofNat 0))) none=some (.sl n 0 0 (.opn 1)):=rfl;have s3:QG (KL L n m false) 3 1 8 [.int .i64 (.ofNat 0)] .nils (.int .i64 (.ofNat (k+1)))=some (.sl n 0 (k+1) (.opn 1),KL ((n,some (.row 3 (reps (k+1) [.int .i64 (.ofNat 0)]) true false))::L) (n+1) m false):=by
   have e1:(Nat.ble (Nat.mul (Nat.succ k) 8) 281474976710656&&Nat.blt k 9223372036854775807)=true:=by
    rw[qd.2 (by show (k+1)*8<=_;omega),qA.2 J];rfl
   have e2:(Nat.ble (Nat.mul (Nat.mul 2 (Nat.succ k)) 8) 281474976710656&&Nat.ble 1 1&&Nat.blt (Nat.succ k) 9223372036854775808)=true:=by
    rw[qd.2 (by show 2*(k+1)*8<=_;omega),qA.2 (by show k+1<_;omega)];rfl
   unfold QG;simp only[e1,wy,ZZ,QF,zvW,wK,grow,e2];rfl
  generalize reps (k+1) [Z.int .i64 (.ofNat 0)]=zs at *;unfold f88 cF;simp only;refine ev_zc ?_;exact⟨rfl,rfl⟩
 obtain⟨v,t',h,rfl,rfl⟩:=key;exact h
def Ml(h88:O 88=none)(L:zb)(n m:Nat)(b:Bool):
  cl O 88 [.nils,(0:Nat)] (KL L n m b)=some (.nils,KL L n m b):=by
 have key:Cv (cl O 88 [.nils,(0:Nat)] (KL L n m b)) λv t=>v=.nils/\t=KL L n m b:=by
  refine qD (F:=f88) h88 rfl rfl (zvT rfl) ?_;unfold f88 cF;simp only;refine ev_zc ?_;exact⟨rfl,rfl⟩
 obtain⟨v,t',h,rfl,rfl⟩:=key;exact h
end
def EZ{L:zb}{n m Y:Nat}{a b:zw}{z:zA}(g:wn L Y=some (.row 3 (wo wN a++z) true false))(hz:List.length b<=List.length z):Cv (jo (KL L n m false) 3 1 8 (.sl Y 0 (List.length a) (.opn 1)) (.lst (List.length b) false (wo wN b))) λv t=>v=.sl Y 0 (a++b).length (.opn 1)/\∃L2 m2,t=KL L2 n m2 false/\wn L2 Y=some (.row 3 (wo wN (a++b)++z.drop (List.length b)) true false)/\∀j,j≠Y->wn L2 j=wn L j:=by
 cases b with
 |nil=>exact⟨_,_,rfl,by rw[zvV],L,m,rfl,by rw[zvV];exact g,λ_ _=>rfl⟩
 | cons x r=>
  have hl:∀l:zw,(wo wN l).length=zR l:=λl=>by rw[vI vA];exact x8 _
  have h1:qQ (KL L n m false) 1 (r.length+1) (.lst (r.length+1) false (wo wN (x::r)))=some (wo wN (x::r)):=by
   show qf ((r.length+1)*1) _=_;exact qz (by rw[hl,yJ,x8])
  have hp:ki (wo wN a++z) (0+zR a*1) (wo wN (x::r))=some (wo wN a++(wo wN (x::r)++z.drop (x::r).length)):=by
   have:=Ji (a:=wo wN a) (b:=z.take (x::r).length) (c:=z.drop (x::r).length) (v:=wo wN (x::r)) (off:=0+zR a*1) (by rw[hl];omega) (by rw[hl,List.length_take];omega)
   rwa [List.take_append_drop]at this
  have hst:=sh (KL L n m false) Y (0+zR a*1) (wo wN (x::r)) 3 _ _ true (by rw[qk];exact g) (Xa uW _) hp
  rw[lf]at hst;have e1:Nat.ble (Nat.add 0 (Nat.mul (Nat.add (zR a) (Nat.succ r.length)) 1)) (vC (wo wN a++z))=true:=by
   rw[qd,qT,y8,hl];simp only[yJ]at hz;show 0+(zR a+(r.length+1))*1<=_;omega
  have happ:jo (KL L n m false) 3 1 8 (.sl Y 0 (zR a) (.opn 1)) (.lst (x::r).length false (wo wN (x::r)))=some (.sl Y 0 (zR a+(r.length+1)) (.opn 1),KL ((Y,some (.row 3 (wo wN a++(wo wN (x::r)++z.drop (x::r).length)) true false))::L) n (gj m Y) false):=by
   unfold jo;simp only[gw,yJ];rw[h1];simp only[ZZ,qk,g];have e2:(Nat.beq 1 1&&true&& !false)=true:=rfl;rw[e2,wy,e1,wy];show (match gB (KL L n m false) (.ptr Y (0+zR a*1)) (wo wN (x::r))with
    |some s'=>some (Z.sl Y 0 (Nat.add (zR a) (Nat.succ r.length)) (.opn 1),s')
    |none=>none)=_
   rw[hst];rfl
  refine⟨_,_,happ,by rw[y8,yJ],_,_,rfl,?_,λj hj=>by rw[wz,wx hj]⟩
  rw[wC,qu,zum]
def two(a b:zw):Nat->Nat
 |0=>0
 |1=>zR a
 |_=>zR a+zR b
def Km(a b:zw):Nat->zw
 |0=>[]
 |1=>a
 |_=>a++b
def BP(h68:O 68=none)(h88:O 88=none){a b:zw}(ha:zR a<1000000000)(hb:zR b<1000000000):
  Cv (cl O 68 [.lst 2 true [qt a,qt b]] (KL L n m true)) λv t=>∃i2 L2 n2 m2,v=gSl 1 i2 (a++b).length/\t=KL L2 n2 m2 true/\(a++b≠[]->i2<n2/\wn L2 i2=some (.row 3 (wo wN (a++b)) true false))/\n<=n2/\∀j,j<n->wn L2 j=wn L j:=by
 refine qD (F:=f68) h68 rfl rfl (zvT rfl) ?_;unfold f68 cF;simp only;have hc0:qf 1 (qv 0 [qt a,qt b])=some [qt a]:=rfl;have hc1:qf 1 (qv 1 [qt a,qt b])=some [qt b]:=rfl;simp only[qt]at hc0 hc1|-;refine wq ?_;refine wq ?_;refine wp (wp (wu ?_));apply wA;refine wP (λi:Nat=>2-i) (λi f t=>∃T,f=⟨tmL T,[]⟩/\t=KL L n m false/\G T 0 (.lst 2 true [.lst (zR a) false (wo wN a),.lst (zR b) false (wo wN b)])/\G T 3 (.int .i64 (.ofNat (two a b i)))/\G T 9 (.lst 2 true [.lst (zR a) false (wo wN a),.lst (zR b) false (wo wN b)])/\G T 10 (.int .i64 (.ofNat 2))/\G T 11 i/\i<=2) (λi f t hI=>?_) 0 ⟨_,rfl,rfl,sW,by simp (disch:=first|exact dis|fail)only[go_sem,seval,-rO,-rN,two],sW,sW,sW,yz _⟩
 obtain⟨T,rfl,rfl,t0,t3,t9,t10,t11,hi⟩:=hI
 match i,hi with
 |0,_=>
  simp only[two]at t3;refine wu ?_;refine⟨1,⟨_,rfl,trivial,V,by simp (disch:=first|exact dis|fail)only[go_sem,seval,-rO,-rN,two],V,V,V,J⟩,J⟩
 |1,_=>
  simp only[two]at t3;refine wu ?_;refine⟨2,⟨_,rfl,trivial,V,by simp (disch:=first|exact dis|fail)only[go_sem,seval,-rO,-rN,two],V,V,V,J⟩,J⟩
 | 2,_=>
  simp only[two]at t3;rcases Nat.eq_zero_or_pos (zR a+zR b)with h0|h0
  .have ha0:a=[]:=xg J;have hb0:b=[]:=xg J;subst ha0 hb0;have hg:=Ml h88 L n m false;simp only[xY,Nat.add_zero,wo]at t0 t3 t9 hc0 hc1;have happ:∀s,jo s 3 1 8 .nils (.lst 0 false [])=some (.nils,s):=λ_=>rfl;refine wu ?_;refine wq ?_;refine wp (wp (wu ?_));apply wA;refine wP (λi:Nat=>2-i) (λi f t=>∃T,f=⟨tmL T,[]⟩/\t=KL L n m false/\G T 6 .nils/\G T 25 (.lst 2 true [.lst 0 false [],.lst 0 false []])/\G T 26 (.int .i64 (.ofNat 2))/\G T 27 i/\i<=2) (λi f t hI=>?_) 0 ⟨_,rfl,rfl,sW,sW,sW,sW,yz _⟩;obtain⟨T,rfl,rfl,t6,t9,t10,t11,hi⟩:=hI
   match i,hi with
   |0,_=>
    refine wu ?_;refine⟨1,⟨_,rfl,trivial,V,V,V,V,J⟩,J⟩
   |1,_=>
    refine wu ?_;refine⟨2,⟨_,rfl,trivial,V,V,V,V,J⟩,J⟩
   |2,_=>
    refine wu ?_;refine ev_zc ?_;exact⟨n,L,n,m,rfl,rfl,λh=>absurd rfl h,zX _,λ_ _=>rfl⟩
  .obtain⟨k,hk⟩:∃k,zR a+zR b=k+1:=⟨zR a+zR b-1,J⟩;have hg:=Tm h88 k J L n m false;rw[hk]at t3;refine wu ?_;refine wq ?_;refine wp (wp (wu ?_));apply wA;refine wP (λi:Nat=>2-i) (λi f t=>∃T L2 m2 z,f=⟨tmL T,[]⟩/\t=KL L2 (n+1) m2 false/\G T 6 (.sl n 0 (Km a b i).length (.opn 1))/\G T 25 (.lst 2 true [.lst (zR a) false (wo wN a),.lst (zR b) false (wo wN b)])/\G T 26 (.int .i64 (.ofNat 2))/\G T 27 i/\i<=2/\wn L2 n=some (.row 3 (wo wN (Km a b i)++z) true false)/\(Km a b i).length+zR z=zR a+zR b/\∀j,j<n->wn L2 j=wn L j) (λi f t hI=>?_) 0 ⟨_,_,_,reps (k+1) [.int .i64 (.ofNat 0)],rfl,rfl,by simp (disch:=first|exact dis|fail)only[go_sem,seval,-rO,-rN,Km],sW,sW,sW,yz _,by rw[wC];rfl,?_,λj hj=>by rw[gN J]⟩
   .clear hg;obtain⟨T,L2,m2,z,rfl,rfl,t6,t9,t10,t11,hi,gr,hz,hfr⟩:=hI
    match i,hi with
    |0,_=>
     simp only[Km,xY,wo,zv1,xB]at t6 gr hz;have hap:=λm=> @EZ L2 (n+1) m n [] a z gr J;simp only[xY,zv1]at hap;refine wq ?_;refine wp (vM sW ?_);refine wu ?_;refine wp (wA ?_);refine wq ?_;refine qB ?_;refine wO (hap _) λv t hv=>?_;obtain⟨rfl,L3,m3,rfl,g3,hf3⟩:=hv;clear hap gr;refine wu ?_;refine wu ?_;refine⟨1,⟨_,_,_,z.drop (zR a),rfl,rfl,by simp (disch:=first|exact dis|fail)only[go_sem,seval,-rO,-rN, *,Km],V,V,V,J,g3,by simp only[Km,List.length_drop];omega,λj hj=>by rw[hf3 j J];exact hfr j hj⟩,J⟩
    |1,_=>
     simp only[Km]at t6 gr hz;have hap:=λm=> @EZ L2 (n+1) m n a b z gr J;refine wq ?_;refine wp (vM sW ?_);refine wu ?_;refine wp (wA ?_);refine wq ?_;refine qB ?_;refine wO (hap _) λv t hv=>?_;obtain⟨rfl,L3,m3,rfl,g3,hf3⟩:=hv;clear hap gr;refine wu ?_;refine wu ?_;refine⟨2,⟨_,_,_,z.drop (zR b),rfl,rfl,by simp (disch:=first|exact dis|fail)only[go_sem,seval,-rO,-rN, *,Km],V,V,V,J,g3,by simp only[Km,List.length_drop,y8];omega,λj hj=>by rw[hf3 j J];exact hfr j hj⟩,J⟩
    |2,_=>
     simp only[Km,y8]at t6 gr hz;have hz0:z=[]:=xg J;subst hz0;rw[zvV]at gr;refine wu ?_;refine ev_zc ?_;refine⟨n,L2,n+1,m2,?_,rfl,λ_=>⟨yK _,gr⟩,zur _,hfr⟩;rw[y8,hk];rfl
   .simp only[Km,xY,xB];rw[WC];simp only[yJ,xY];omega
end
section
variable {O:Orc}
def Bs(h69:O 69=none)(h66:O 66=some Xe){a0:Z}(g:wn L p=some (.row 25 [a0,a1,vars,a3,a4]))(v:Int)(n m:Nat)(b:Bool):
  cl O 69 [v,.ptr p 0] (KL L n m b)=some (.bool (!wV v vars),KL L n m b):=by
 have hb:=λa b s=>YI h66 a b s;have key:Cv (cl O 69 [v,.ptr p 0] (KL L n m b)) λr t=>r=.bool (!wV v vars)/\t=KL L n m b:=by
  refine vr (F:=f69) h69 rfl rfl (zvT rfl) ?_;unfold f69 cF;simp only;refine ev_zc ?_;exact⟨rfl,rfl⟩
 obtain⟨r,t,h,rfl,rfl⟩:=key;exact h
def Ll(vars:Int):zw->Nat->Int
 |[],_=>.negSucc 0
 |x::r,i=>bif wV x vars then Ll vars r (i+1)else .ofNat i
def tR(vars:Int):∀(l:zw) (i:Nat),(!ltD (Ll vars l i) (.ofNat 0))= !l.all λx=>wV x vars
 |[],_=>rfl
 |x::r,i=>by
  simp only[Ll,zv2];cases wV x vars with
  |true=>simp only[wy,xC];exact tR vars r (i+1)
  |false=>simp[ltD]
def Mt(h69:O 69=none)(h66:O 66=some Xe)(h87:O 87=none){Y:Nat}{a0:Z}(g:wn L p=some (.row 25 [a0,a1,vars,a3,a4]))(hl:zR l<10000000000)(gl:l≠[]->wn L Y=some (.row 3 (wo wN l) true false))(n m:Nat)(b:Bool):
  cl O 87 [gSl 1 Y (zR l),.fn 69 [] [.ptr p 0]] (KL L n m b)=some (.int .i64 (Ll vars l 0),KL L n m b):=by
 have hc:=λv n m b=>Bs h69 h66 g v n m b;have key:Cv (cl O 87 [gSl 1 Y (zR l),.fn 69 [] [.ptr p 0]] (KL L n m b)) λr t=>r=.int .i64 (Ll vars l 0)/\t=KL L n m b:=by
  refine vr (F:=f87) h87 rfl rfl (zvT rfl) ?_;unfold f87 cF;simp only;have hsc:=ud 1 Y (zR l);have hvl:=λs=>qq s 1 Y (zR l);obtain⟨R,hR⟩:∃R,Ll vars l 0=R:=⟨_,rfl⟩;rw[hR];refine wq ?_;refine wp (wp (wu ?_));apply wA;refine wP (λi:Nat=>zR l-i) (λi f t=>∃T,f=⟨tmL T,[]⟩/\t=KL L n 0 true/\G T 0 (gSl 1 Y (zR l))/\G T 1 (.fn 69 [] [.ptr p 0])/\G T 7 (zR l)/\G T 8 i/\i<=zR l/\Ll vars (l.drop i) i=R) (λi f t hI=>?_) 0 ⟨_,rfl,rfl,sW,sW,V,sW,yz _,hR⟩;clear hR;obtain⟨T,rfl,rfl,t0,t1,t7,t8,hi,hR⟩:=hI;rcases wJ l i with ⟨hlt,hd⟩|⟨x,hlt,hd⟩
  .rw[hd]at hR;simp only[Ll]at hR;subst hR;have:¬i<zR l:=J;refine wu ?_;refine ev_zc ?_;exact⟨rfl,rfl⟩
  .rw[hd]at hR;simp only[Ll]at hR;have gl:=gl (λh=>by subst h;simp at hlt)
   have hia:= @lU 1 Y (zR l) i hlt;have hcut:=uz hd;have hcx:=λn m b=>hc x n m b;clear hc;generalize wV x vars=bb at *;cases bb with
   |true=>
    rw[wy]at hR;refine wu ?_;refine⟨i+1,⟨_,rfl,trivial,V,V,V,V,J,hR⟩,J⟩
   |false=>
    rw[wK]at hR;subst hR;refine ev_zc ?_;exact⟨rfl,rfl⟩
 obtain⟨r,t,h,rfl,rfl⟩:=key;exact h
end
section
variable {O:Orc}
def eq(h67:O 67=none)(h69:O 69=none)(h66:O 66=some Xe)(h87:O 87=none){Y:Nat}{a0:Z}(g:wn L p=some (.row 25 [a0,a1,vars,a3,a4]))(hl:zR l<10000000000)(gl:l≠[]->wn L Y=some (.row 3 (wo wN l) true false))(n m:Nat)(b:Bool):
  cl O 67 [gSl 1 Y (zR l),.fn 69 [] [.ptr p 0]] (KL L n m b)=some (.bool (!l.all λx=>wV x vars),KL L n m b):=by
 have hc:=λn m b=>Mt h69 h66 h87 g hl gl n m b;have key:Cv (cl O 67 [gSl 1 Y (zR l),.fn 69 [] [.ptr p 0]] (KL L n m b)) λr t=>r=.bool (!ltD (Ll vars l 0) (.ofNat 0))/\t=KL L n m b:=by
  refine vr (F:=f67) h67 rfl rfl (zvT rfl) ?_;unfold f67 cF;simp only;refine ev_zc ?_;exact⟨rfl,rfl⟩
 rw[tR]at key;obtain⟨r,t,h,rfl,rfl⟩:=key;exact h
end
def wFn(c:Cd)(f:Fn):Bool:= !(f.rest&&decide (zR f.ps=0))&&((f.ps++f.fr).all (λx=>wV x c.vars)&&ur c f f.b)
def mG(c:Cd):Bool:=wV c.main (.ofNat (zR c.fs))&&(decide ((Xb c c.main).ps.length+(Xb c c.main).fr.length=0)&& !(Xb c c.main).rest)
def gQ(c:Cd):Bool:=mG c&&c.fs.all (wFn c)
structure CdSz(c:Cd):Prop where
 n:zR c.fs<100000000
 f:∀f∈c.fs,zR f.ps<1000000000/\zR f.fr<1000000000/\SzT f.b
def vo(c:Cd):zA:=[v8 c]
section
variable {P:Program}{X:World}(B:Bx P X){O:Orc}(hO:OrcOk P X O)
include B hO
def Rr (h70:O 70=none)(h89:O 89=some bO)(h66:O 66=some Xe)(h67:O 67=none)(h68:O 68=none)(h69:O 69=none)(h87:O 87=none)(h88:O 88=none)(c:Cd)(hc:CdSz c):∃s1,SC P X 46 (vo c) (s00 0 true) (.bool (gQ c)) s1:=by
 refine be B hO f46 ?_;have hb:=λa b s=>YI h66 a b s;have hterms:=λf t hs=>OX h70 h89 (λg hg=>(hc.f g hg).1) (qb t) (f:=f) t (zX _) hs;have hN:=hc.n;have hfs:=hc.f;unfold f46 cF;simp only[vo,v8,lr,vg]at hterms|-;obtain⟨R,hR⟩:∃R,gQ c=R:=⟨_,rfl⟩;rw[hR];unfold gQ mG at hR;have hcu:=λi f r h=> @X0 c.fs i f r h;obtain⟨fs,main,vars,globals,consts⟩:=c;simp only[qc]at hterms hN hfs hR hcu|-;have hbm:=hb main (.ofNat (zR fs));cases b0:wV main (.ofNat (zR fs))with
 |false=>
  rw[b0]at hR hbm;simp only[zvW]at hR;subst hR;clear hb hterms;refine wq ?_;refine ev_zc ?_;exact qM _ _
 | true =>
  rw[b0]at hR hbm;obtain⟨j,rfl,hj⟩:=gC b0;clear b0;have hcfs:zR fs<10000000000:=J;have hpost:∀(R':Bool),R'=R->fs.all (wFn ⟨fs,.ofNat j,vars,globals,consts⟩)=R->True:=λ_ _ _=>trivial;have hrun:(decide ((Xb ⟨fs,.ofNat j,vars,globals,consts⟩ (.ofNat j)).ps.length+(Xb ⟨fs,.ofNat j,vars,globals,consts⟩ (.ofNat j)).fr.length=0)&& !(Xb ⟨fs,.ofNat j,vars,globals,consts⟩ (.ofNat j)).rest)=true->fs.all (wFn ⟨fs,.ofNat j,vars,globals,consts⟩)=R:=λh=>by
   rw[h]at hR;simpa using hR
  have hdj:fs.drop j=fs[j]::fs.drop (j+1):=zud hj;have hdr:=kS hdj;have hgl:=hfs fs[j] (zuv hj);have hg:Xb ⟨fs,.ofNat j,vars,globals,consts⟩ (.ofNat j)=fs[j]:=by
   show fs.getD j fn0=_;rw[xR,xj hj];rfl
  rw[hg]at hR hrun;clear hg hdj hpost;generalize fs[j]=g at hdr hgl hR hrun;obtain⟨gps,grest,gcont,gfr,gb⟩:=g;obtain⟨gk,gv,gop,gn,gf,gas,gks⟩:=gb;simp only[wW,wE,qt,yu,zv1]at hdr hgl hR hrun;have hg1:=hgl.1;have hg2:=hgl.2.1;clear hgl;by_cases h0:zR gps+zR gfr=0
  .cases grest with
   |true=>
    simp only[h0,wa,zv8,zvW]at hR;subst hR;clear hterms hb hrun hfs hcu;refine wq ?_;refine ev_zc ?_;exact qM _ _
   | false=>
    have hR:=hrun (by rw[h0];rfl)
    clear hrun;have hb':=λ(P:True->Prop)=>hb;clear hb;refine wq ?_;refine wq ?_;refine wp (wp (wu ?_));apply wA;clear hdr hbm h0 hg1 hg2;refine wP (λi:Nat=>zR fs-i) (λi f t=>∃T L n m,f=⟨tmL T,[]⟩/\t=KL L n m true/\G T 1 (.ptr 0 0)/\G T 42 (.lst (zR fs) false (wo wW fs))/\G T 43 (zR fs)/\G T 44 i/\i<=zR fs/\wn L 0=some (.row 25 [.lst (zR fs) false (wo wW fs),j,vars,globals,.lst (zR consts) false (wQ consts)])/\0<n/\(fs.drop i).all (wFn ⟨fs,.ofNat j,vars,globals,consts⟩)=R) (λi f t hI=>?_) 0 ⟨_,_,_,_,rfl,rfl,sW,sW,sW,sW,yz _,by rw[wC],J,hR⟩
    clear hR;obtain⟨T,L,n,m,rfl,rfl,t1,t42,t43,t44,hi,g0,hn,hR⟩:=hI;rcases wJ fs i with ⟨hlt,hd⟩|⟨g,hlt,hd⟩
    .rw[hd,List.all_nil]at hR;subst hR;have:¬i<zR fs:=J;clear hcu hterms hfs hb';refine wu ?_;refine ev_zc ?_;exact qM _ _
    .rw [hd,zv2]at hR;have hcg:=hcu i g _ hd;have hgs:=hfs g (zvY (by rw[hd];exact zvZ))
     have htg:=λL n m b=>hterms g g.b hgs.2.2 L n m b;clear hcu hterms;obtain⟨fr',hfr'⟩:∃x,fs.drop (i+1)=x:=⟨_,rfl⟩;rw[hfr']at hR hd;clear hd hfs;obtain⟨gps,grest,gcont,gfr,gb⟩:=g;obtain⟨gk,gv,gop,gn,gf,gas,gks⟩:=gb;simp only[wFn,wW,wE,qt]at hcg htg hR hgs;have hg1:=hgs.1;have hg2:=hgs.2.1;clear hgs;have hstep:((fr'.all (wFn ⟨fs,.ofNat j,vars,globals,consts⟩))=R)->True:=λ_=>trivial;by_cases hr:(grest&&decide (zR gps=0))=true
     .rw[hr]at hR;simp only[wa,zvW]at hR;subst hR;simp only[zU,hZ]at hr;obtain⟨rfl,hp0⟩:=hr;clear htg hb' hstep;refine ev_zc ?_;exact qM _ _
     .have hr':(grest&&decide (zR gps=0))=false:=by simpa using hr
      rw[hr']at hR;simp only[zv6,xC]at hR;have hgp:grest=false\/(grest=true/\¬zR gps=0):=by
       cases grest with
       |false=>exact .inl rfl
       |true=>exact .inr ⟨rfl,by simpa using hr⟩
      clear hr hr' hstep hb';generalize ur ⟨fs,.ofNat j,vars,globals,consts⟩ ⟨gps,grest,gcont,gfr,.mk gk gv gop gn gf gas gks⟩ (.mk gk gv gop gn gf gas gks)=Y9 at htg hR;rcases hgp with rfl|⟨rfl,hp0⟩
      all_goals (
       refine wq ?_;refine wp (vM sW ?_);refine wu ?_;refine wp (wA ?_);refine wq ?_;apply wp;refine qB ?_;refine wO (BP h68 h88 hg1 hg2) λv t hv=>?_;obtain⟨i2,L3,n3,m3,rfl,rfl,q1,q2,q3⟩:=hv;have g03:wn L3 0=some (.row 25 [.lst (zR fs) false (wo wW fs),j,vars,globals,.lst (zR consts) false (wQ consts)]):=by
        rw[q3 0 J]
        repeat (rw[gN J])
        exact g0
       have gf3:=q3 n J;rw[wC]at gf3;have hcon:=λn m b=>eq h67 h69 h66 h87 g03 (l:=gps++gfr) (by rw[y8];omega) (λh=>(q1 h).2) n m b
       clear q1 q3;generalize (gps++gfr).all (λx=>wV x vars)=A9 at *;generalize gSl 1 i2 (gps++gfr).length=X9 at *;cases A9 with
       |false=>
        rw[zvW,zvW]at hR;subst hR;clear htg;refine wu ?_;refine ev_zc ?_;exact qM _ _
       | true=>
        cases Y9 with
        |false=>
         rw[zv8,zvW]at hR;subst hR;refine wu ?_;refine ev_zc ?_;exact qM _ _
        |true=>
         rw[xC,xC]at hR;refine wu ?_;refine wu ?_;refine wu ?_;exact⟨i+1,⟨_,_,_,_,rfl,rfl,V,V,V,V,J,g03,J,by rw[hfr'];exact hR⟩,J⟩)
  .rw[qy h0]at hR;simp only[zvW,zv8]at hR;subst hR;have h0':0<zR gps+zR gfr:=J;clear hterms hb hrun hfs hcu;refine wq ?_;refine ev_zc ?_;exact qM _ _
end
def cI(v:Int)(met:zw):Option zw:=if v∈met then none else some (met++[v])
mutual
def H8:Trm->zw->Option zw
 |.mk k v op n f az ks,met=>(bif uj k then cI v met else some met).bind (JB ks)
def JB:List Trm->zw->Option zw
 |[],met=>some met
 |x::r,met=>(JB r met).bind (H8 x)
end
mutual
def J6:Trm->Prop
 |.mk _ _ _ _ _ _ ks=>zR ks<=2/\VD ks
def VD:List Trm->Prop
 |[]=>True
 |x::r=>J6 x/\VD r
end
section
variable {O:Orc}
attribute [local go_sem] pe QM Z8 Z7 pR Um in
def Fj(h47:O 47=none)(h71:O 71=some Xf):∀(k:Nat) (t:Trm),qb t<=k->SzT t->J6 t->∀(L:zb) (n m Y:Nat) (met:zw),WfA L n->wn L Y=some (.umap (uS met))->
  Cv (cl O 47 [vg t,.map Y] (KL L n m false)) λv s=>∃L2 n2 m2,s=KL L2 n2 m2 false/\n<=n2/\WfA L2 n2/\(∀j,j<n->j≠Y->wn L2 j=wn L j)/\((H8 t met=none/\v=.bool false)\/∃met2,H8 t met=some met2/\v=.bool true/\wn L2 Y=some (.umap (uS met2))):=by
 intro k
 induction k with
 |zero=>intro t h;have:=vQ t;omega
 | succ k ih=>
  intro t hk hsz hk2 L n m Y met hw hid;refine qD (F:=f47) h47 rfl rfl (zvT rfl) ?_;have hbi:=λt s=>oc h71 YX t trivial (WZ t) s;have hidn:=hw.lt hid;obtain⟨R,hR⟩:∃R,H8 t met=R:=⟨_,rfl⟩;rw[hR];simp only[kx,vg]at hbi ih|-;unfold f47 cF;simp only;have hl7:=qz (qi t);have hc7:=gT t;refine wq ?_;apply wA;refine wP (λx:Trm×zw=>qb x.1) (λx f t'=>∃T L2 n2 m',f=⟨tmL T,[]⟩/\t'=KL L2 n2 m' false/\G T 1 (.map Y)/\G T 2 (.ptr n 0)/\n+1<=n2/\WfA L2 n2/\wn L2 n=some (jg x.1)/\wn L2 Y=some (.umap (uS x.2))/\qb x.1<=k+1/\SzT x.1/\J6 x.1/\H8 x.1 x.2=R/\∀j,j<n->j≠Y->wn L2 j=wn L j) (λx f t' hI=>?_) (t,met) ⟨_,_,_,_,rfl,rfl,sW,sW,J,?_,?_,?_,hk,hsz,hk2,hR,λj h1 h2=>?_⟩
  .clear hR hsz hk hk2 hl7 hc7 hid hw t met;obtain⟨T,L2,n2,m',rfl,rfl,t1,t2,hn2,hw,g0,gid,hk,hsz,hk2,hR,hfr⟩:=hI;obtain⟨⟨tk,v,op,num,fn,az,ks⟩,met⟩:=x;simp only at g0 gid hk hsz hk2 hR|-;have hcall:=λs=>hbi (.mk tk v op num fn az ks) s;simp only[wE,Trm.kind]at hcall;simp only[H8]at hR;simp only[SzT]at hsz;simp only[J6]at hk2;simp only[jg,wE]at g0;simp only[qb]at hk;clear hbi;generalize uj tk=bb at *;apply wA;refine qX (λf t'=>∃T L3 n3 m3 met3,f=⟨tmL T,[]⟩/\t'=KL L3 n3 m3 false/\G T 1 (.map Y)/\G T 2 (.ptr n 0)/\n+1<=n3/\WfA L3 n3/\wn L3 n=some (.row 44 [tk,v,op,num,fn,.lst (zR az) false (wo wY az),.lst (zR ks) false (w9 ks)])/\wn L3 Y=some (.umap (uS met3))/\JB ks met3=R/\∀j,j<n->j≠Y->wn L3 j=wn L j) ?_ λf t' hI=>?_
   .cases bb with
    |false=>
     rw[wK,zuf]at hR;refine wu ?_;exact⟨_,_,_,_,met,rfl,rfl,V,V,hn2,hw,g0,gid,hR,hfr⟩
    | true=>
     rw[wy]at hR;by_cases hv:v∈met
     .have hgu:=ZN hv;simp only[cI,wH hv,zuo]at hR;refine ev_zc ?_;subst hR;refine⟨_,_,_,rfl,?_,?_,λj h1 h2=>?_,.inl ⟨rfl,rfl⟩⟩
      .omega
      ·(repeat first|exact hw.up J|refine WfA.same ?_ J)
      ·(repeat (rw[gN J]));exact hfr j h1 h2
     .have hgu:=pj hv;have hsu:=YC hv;simp only[cI,wx hv,zuf]at hR;refine wu ?_;refine⟨_,_,_,_,met++[v],rfl,rfl,V,V,J,?_,?_,?_,hR,λj h1 h2=>?_⟩
      ·(repeat first|exact hw.up J|refine WfA.same ?_ J)
      ·(repeat (rw[gN J]));exact g0
      ·(repeat first|exact wC _ _ _|rw[gN J])
      ·(repeat (rw[gN J]));exact hfr j h1 h2
   .clear hR gid g0 hfr hw hn2 hcall t1 t2;clear met T L2 n2 m';obtain⟨T,L2,n2,m',met,rfl,rfl,t1,t2,hn2,hw,g0,gid,hR,hfr⟩:=hI;rcases ks with _|⟨x,_|⟨y,_|⟨z,w⟩⟩⟩
    rotate_right
    .have:=hk2.1;simp only[yJ]at this;omega
    .simp only[JB]at hR;subst hR;simp only[xY]at g0;refine ev_zc ?_;exact⟨_,_,_,rfl,J,hw,hfr,.inr ⟨met,rfl,rfl,gid⟩⟩
    .simp only[JB,zuf,qY,p7,VD,and_true]at hR hk hsz hk2;have hc:qf 7 (w9 [x])=some (wZ x):=by rw[vx];exact uT (qi x)
     obtain⟨k2,v2,op2,num2,f2,as2,ks2⟩:=x;simp only[wE]at hc;simp only[yJ,xY]at g0;refine wq ?_;refine wu ?_;refine⟨(_,met),⟨_,_,_,_,rfl,rfl,V,V,J,?_,?_,?_,by simp only;omega,hsz.2.2,hk2.2,hR,λj h1 h2=>?_⟩,by simp only[qb,qY];omega⟩
     .exact WfA.same hw J
     .rw[wC];simp only[jg,wE]
     .rw[gN J];exact gid
     .rw[gN J];exact hfr j h1 h2
    .simp only[JB,zuf,qY,p7,VD,and_true]at hR hk hsz hk2;have hc:qf 7 (w9 [x,y])=some (wZ x):=by rw[vx];exact uT (qi x)
     have hc2:qf 7 (qv 7 (w9 [x,y]))=some (wZ y):=by
      simp only[vx,kF,zvV];rw[qH,zuy (qi x)];exact qz (qi y)
     have hpx:=vQ x;have hih:=λm=>ih y J hsz.2.2.2 hk2.2.2 L2 n2 m Y met hw gid;obtain⟨k2,v2,op2,num2,f2,as2,ks2⟩:=x;simp only[wE]at hc;simp only[yJ,xY]at g0;clear ih;apply wp;refine wq ?_;apply wA;refine wq ?_;refine u9 sW ?_;refine wq ?_;refine vM sW ?_;apply wp;refine qB ?_;refine wO (hih _) λv t hv=>?_;obtain⟨L3,n3,m3,rfl,q1,q2,q3,⟨e1,rfl⟩|⟨met2,e1,rfl,q4⟩⟩:=hv
     .rw[e1,zuo]at hR;subst hR;clear hih;refine wu ?_;refine ev_zc ?_;exact⟨_,_,_,rfl,J,q2,λj h1 h2=>by rw[q3 j J h2];exact hfr j h1 h2,.inl ⟨trivial,rfl⟩⟩
     .rw[e1,zuf]at hR;have g3:=(q3 n J J).trans g0;clear hih;refine wu ?_;refine wu ?_;refine wu ?_;refine⟨(_,met2),⟨_,_,_,_,rfl,rfl,V,V,J,?_,?_,?_,by simp only;omega,hsz.2.2.1,hk2.2.1,hR,λj h1 h2=>?_⟩,by simp only[qb,qY];omega⟩
      .exact WfA.same q2 J
      .rw[wC];simp only[jg,wE]
      .rw[gN J];exact q4
      .rw[gN J,q3 j J h2];exact hfr j h1 h2
  ·(repeat first|exact hw.up J|refine WfA.same ?_ J)
  ·(repeat first|exact wC _ _ _|rw[gN J])
  ·(repeat (rw[gN J]));exact hid
  ·(repeat (rw[gN J]))
end
def Hz:zw->zw->Option zw
 |[],met=>some met
 |v::r,met=>(cI v met).bind (Hz r)
def Xk:List Fn->zw->Option zw
 |[],met=>some met
 |f::r,met=>((Hz f.ps met).bind (H8 f.b)).bind (Xk r)
def Wx(c:Cd):Bool:=(Xk c.fs []).isSome
def aP(c:Cd):Prop:=zR c.fs<100000000/\∀f∈c.fs,zR f.ps<1000000000/\SzT f.b/\J6 f.b
def uC:∀x y,vo x=vo y->x=y:=λ_ _ h=>Pa (by simpa [vo]using h)
def jr(c:Cd):wkL (vo c)=vo c:=by simp only[vo,wkL,eI]
def uZ(c:Cd):wL (vo c)=true:=by simp only[vo,v8,wR,uF,gS,wU,xZ]
def I7:zA->U->zc:=v7 vo aP (λc=>.bool (Wx c))
def Md:zA->U->zc:=v7 vo CdSz (λc=>.bool (gQ c))
section
variable {P:Program}{X:World}(B:Bx P X){O:Orc}(hO:OrcOk P X O)
include B hO
attribute [local go_sem] pe QM Z8 Z7 pR Um KD in
theorem TX(h47:O 47=none)(h71:O 71=some Xf)(c:Cd)(hc:aP c):∃s1,SC P X 31 (vo c) (s00 0 true) (.bool (Wx c)) s1:=by
 refine bew B hO f31 ?_;have hbd:=λt hs hk=>Fj h47 h71 (qb t) t (zX _) hs hk;obtain⟨R,hR⟩:∃R,Wx c=R:=⟨_,rfl⟩;rw[hR];unfold Wx at hR;obtain⟨fs,main,vars,globals,consts⟩:=c;obtain⟨hN,hf⟩:=hc;simp only at hN hf hR;unfold f31 cF;simp only[vo,v8,qc,vg]at hbd|-;refine wq ?_;refine wq ?_;refine wp (wp (wu ?_));apply wA;refine wP (λx:Nat×zw=>zR fs-x.1) (λx f t=>∃T L n m,f=⟨tmL T,[]⟩/\t=KL L n m false/\G T 3 (.map 1)/\G T 12 (.lst (zR fs) false (wo wW fs))/\G T 13 (zR fs)/\G T 14 x.1/\x.1<=zR fs/\WfA L n/\2<=n/\wn L 1=some (.umap (uS x.2))/\(Xk (fs.drop x.1) x.2).isSome=R) (λx f t hI=>?_) (0,[]) ⟨_,_,_,_,rfl,rfl,sW,sW,sW,sW,yz _,?_,?_,?_,hR⟩
 .clear hR;obtain⟨T,L,n,m,rfl,rfl,t3,t12,t13,t14,hi,hw,hn,g1,hR⟩:=hI;obtain⟨i,met⟩:=x;simp only at t14 hi g1 hR|-;rcases wJ fs i with ⟨hlt,hd⟩|⟨g,hlt,hd⟩
  .rw[hd]at hR;simp only[Xk,Option.isSome_some]at hR;subst hR;have:¬i<zR fs:=J;refine wu ?_;refine ev_zc ?_;exact qM _ _
  .have hcg:=X0 hd;rw[hd]at hR;have hgf:=hf g (zvY (by rw[hd];exact zvZ))
   have hbg:=hbd g.b hgf.2.1 hgf.2.2;simp only[Xk]at hR;obtain⟨gps,grest,gcont,gfr,gb⟩:=g;obtain⟨gk,gv,gop,gn,gf,gas,gks⟩:=gb;simp only[wW,wE,qt]at hcg hbg hR hgf;have hg1:=hgf.1;clear hgf hd hbd;refine wq ?_;refine wp (vM sW ?_);refine wu ?_;refine wp (wA ?_);refine wq ?_;refine wp (wp (wu ?_));apply wA;refine wP (λx:Nat×zw=>zR gps-x.1) (λx f t=>∃T L2 n2 m2,f=⟨tmL T,[]⟩/\t=KL L2 n2 m2 false/\G T 3 (.map 1)/\G T 5 (.ptr n 0)/\G T 12 (.lst (zR fs) false (wo wW fs))/\G T 13 (zR fs)/\G T 14 i/\G T 19 (.lst (zR gps) false (wo wN gps))/\G T 20 (zR gps)/\G T 21 x.1/\x.1<=zR gps/\WfA L2 n2/\n+1<=n2/\wn L2 1=some (.umap (uS x.2))/\wn L2 n=some (.row 46 [.lst (zR gps) false (wo wN gps),.bool grest,.bool gcont,.lst (zR gfr) false (wo wN gfr),gk,gv,gop,gn,gf,.lst (zR gas) false (wo wY gas),.lst (zR gks) false (w9 gks)])/\(((Hz (gps.drop x.1) x.2).bind (H8 (.mk gk gv gop gn gf gas gks))).bind (Xk (fs.drop (i+1)))).isSome=R) (λx f t hI=>?_) (0,met) ⟨_,_,_,_,rfl,rfl,V,V,V,V,V,V,V,V,yz _,?_,?_,?_,?_,hR⟩
   .have hn0:2<=n:=hn;clear hR g1 hn hw t3 t12 t13 t14 met T hcg;obtain⟨T,L2,n2,m2,rfl,rfl,t3,t5,t12,t13,t14,t19,t20,t21,hj,hw,hn,g1,gn',hR⟩:=hI;obtain⟨j,met⟩:=x;simp only at t21 hj g1 hR|-;rcases wJ gps j with ⟨hlt2,hd2⟩|⟨v,hlt2,hd2⟩
    .rw[hd2]at hR;simp only[Hz,zuf]at hR;have hb2:=λm=>hbg L2 n2 m 1 met hw g1;have:¬j<zR gps:=J;clear hbg;refine wu ?_;apply wp;refine qB ?_;refine wO (hb2 _) λv t hv=>?_;obtain⟨L3,n3,m3,rfl,q1,q2,q3,⟨e1,rfl⟩|⟨met2,e1,rfl,q4⟩⟩:=hv
     .rw[e1]at hR;simp only[zuo,zv4]at hR;subst hR;clear hb2;refine wu ?_;refine ev_zc ?_;exact qM _ _
     .rw[e1,zuf]at hR;clear hb2;refine wu ?_;refine wu ?_;refine wu ?_;exact⟨(i+1,met2),⟨_,_,_,_,rfl,rfl,V,V,V,V,by simp only;omega,q2,J,q4,hR⟩,by simp only;omega⟩
    .rw[hd2]at hR;simp only[Hz]at hR;have hcv:=uz hd2;clear hbg;by_cases hv:v∈met
     .have hgu:=ZN hv;simp only[cI,wH hv,zuo,zv4]at hR;subst hR;refine ev_zc ?_;exact qM _ _
     .have hgu:=pj hv;have hsu:=YC hv;have hne:¬1=n2:=J;simp only[cI,wx hv,zuf]at hR;refine wu ?_;refine⟨(j+1,met++[v]),⟨_,_,_,_,rfl,rfl,V,V,V,V,V,V,V,V,by simp only;omega,?_,?_,?_,?_,hR⟩,by simp only;omega⟩
      ·(repeat first|exact hw.up J|refine WfA.same ?_ J)
      .omega
      ·(repeat first|exact wC _ _ _|rw[gN J])
      ·(repeat (rw[gN J]));exact gn'
   ·(repeat first|exact hw.up J|refine WfA.same ?_ J)
   .omega
   ·(repeat (rw[gN J]));exact g1
   ·(repeat first|exact wC _ _ _|rw[gN J])
 .intro j hj
  (repeat (rw[gN J]))
  rfl
 .omega
 .rw[wC];rfl
end
end Go.Proofs.YtbddpjboppmnfaaGreatDoor.Ev

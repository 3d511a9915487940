/- Contracts of functions that IselErrors calls: what a call answers. No conditions. -/
import Derived.Test.YtbdfljdgapkbcaaGreatDoorWA
import Derived.Test.YtbdfljdgapkbcaaGreatDoorEvH
import Derived.Test.YtbdfljdgapkbcaaGreatDoorEvG
set_option linter.unusedSimpArgs false
set_option linter.unusedVariables false
set_option linter.defProp false
set_option maxHeartbeats 4000000
set_option linter.unusedSectionVars false
noncomputable section
open List renaming length → zM, getD_eq_getElem?_getD → xD, length_cons → yw, getElem?_eq_getElem → yU, length_nil → xN, mem_of_getElem? → xJ, length_append → yO, append_nil → zv6, map_cons → zY, mem_cons → zul, cons_append → yd, drop_eq_getElem_cons → zuo, eq_nil_of_length_eq_zero → yS, mem_singleton → yq, nil_append → zuc, nodup_cons → zur, getElem?_of_mem → zus, mem_of_mem_drop → zv9, length_set → zuu, append_assoc → zux, getElem?_inj → zuy, getElem?_eq_none → yF, getElem?_set_ne → zuA, mem_append → zuB, mem_cons_self → zua, getElem?_set → zuD, getElem_mem → zuG, mem_map → zuH, getElem?_replicate → zuI, drop_left' → zuJ, mem_cons_of_mem → xA, all_cons → zud
open Nat renaming le_refl → zS, le_of_ble_eq_true → zv4, zero_mod → zuk, or_zero → zum, zero_le → yh, zero_or → zun, le_trans → zV, lt_succ_self → yx, le_succ → zuC, zero_add → y8, testBit_or → xd, mul_one → xQ
open Bool renaming false_and → zv7, not_false → zuh, cond_self → zui, and_self → xO, true_and → y9, and_false → zuj, not_true → xS, or_false → zup, and_eq_true → zP, and_true → zut, or_self → zuv, or_true → zuw, false_or → xR, true_or → zuE
open Option renaming bind_some → zuq, bind_none → zuz, isSome_none → zuf
open Int renaming reduceNegSucc → xL, reduceOfNat → xM
open Classical renaming choose → zuF
namespace Go.Proofs.YtbdfljdgapkbcaaGreatDoor.Ev
variable {L L2 L0:za}{n i m n0 n2 m2 M a0 lo clk N fid esz p sid:Nat}{l hs sc0 ow2 r:zq}{s s':U}{S:zc}{xs:zf}{O:Orc}{k f v vars:Int}{ids:zr}{P:Program}{X:World}{b a:Bool}{a1 a3 a4:Z}
open T
set_option maxRecDepth 100000
attribute [local go_sem] we x9 wx Nat.or_zero Nat.zero_or Nat.zero_mod Bool.cond_self ltF gtF
def be(B:Bx P X)(hO:OrcOk P X O){f:Nat}(F:IFunc){args:zt}{v:Z}(h:Ev (evC env (evW env O) none F.body ⟨qk (tmL []) 0 args,[]⟩ (KL [] 0 0 true)) λr fr t=>Cv (Xd (KL [] 0 0 true) (qv env.globs F.res (some (r,fr,t)))) λv0 s1=>Fz s1 v0 v)(hF:env.funs.get f=some F:=by exact rfl)(hp:env.pure f=true:=by exact rfl)(ha:List.length args<=F.ntmps:=by exact Nat.le_of_ble_eq_true rfl):∃s1,SC P X f args (s00 0 true) v s1:=
 fY hO B.mixed B.glob B.env (cvF hF hp ha h)
def qj(s:U)(b:Bool):Fz s (.bool b) (.bool b):=by simp only[Fz,wkV]
def wT(s:U)(k:IntKind)(n:Int):Fz s (.int k n) (.int k n):=by simp only[Fz,wkV]
def Mc(s:U)(l:zr):Fz s (.str l) (.str l):=by simp only[Fz,wkV]
def oc{f:Nat}{α:Type}{enc:α->zt}{Pre:α->Prop}{F:α->Z}(h:O f=some (vw enc Pre F))(inj:∀x y,enc x=enc y->x=y)(x:α)(hp:Pre x){args:zt}(ha:wkL args=enc x)(s:U):(evW env O).call f args s=some (F x,s):=by
 rw[qc h,vo inj s x hp ha]
def pK{e:Bool}{cs ds:zt}(hp:wo ds=true)(h:wkL cs=ds):Fz s (.lst n e cs) (.lst n false ds):=by
 simp only[Fz,wkV,h];exact⟨hp,.inl trivial⟩
theorem lY:Fz s .nils (.lst 0 false []):=by simp only[Fz,wkV,wA,true_and];exact .inl trivial
def js:FzL s [] []:=by simp only[FzL]
def qa{u w:Z}{us ws:zt}(h:Fz s u w)(t:FzL s us ws):FzL s (u::us) (w::ws):=by
 simp only[FzL];exact⟨u,us,rfl,h,t⟩
def GE{us ws:zt}(h:FzL s us ws):Fz s (.agg us) (.agg ws):=by simp only[Fz];exact⟨us,rfl,h⟩
def bew(B:Bx P X)(hO:OrcOk P X O){f:Nat}(F:IFunc){args:zt}{v:Z}(h:Ev (evC env (evW env O) none F.body ⟨qk (tmL []) 0 args,[]⟩ (KL [] 0 0 false)) λr fr t=>Cv (mdR true (qv env.globs F.res (some (r,fr,t)))) λv0 s1=>Fz s1 v0 v)(hF:env.funs.get f=some F:=by exact rfl)(hp:env.pure f=false:=by exact rfl)(ha:List.length args<=F.ntmps:=by exact Nat.le_of_ble_eq_true rfl):∃s1,SC P X f args (s00 0 true) v s1:=
 fY hO B.mixed B.glob B.env (zvJ hF hp ha h)
def WfA(L:za)(n:Nat):Prop:=∀j,n<=j->x3 L j=none
def WfA.cons{n':Nat}{o:zj}(h:WfA L n)(hi:i<n')(hn:n<=n'):WfA ((i,o)::L) n':=λj hj=>by
 rw[gN J];exact h j J
def WfA.lt{j:Nat}{o:AObj}(h:WfA L n)(hg:x3 L j=some o):j<n:=Nat.lt_of_not_le λhle=>by rw[h j hle]at hg;cases hg
def WfA.same{o:zj}(h:WfA L n)(hi:i<n):WfA ((i,o)::L) n:=h.cons hi (zS _)
def WfA.up{n':Nat}(h:WfA L n)(hn:n<=n'):WfA L n':=λj hj=>h j (zV hn hj)
def gSl(esz Y:Nat):Nat->Z
 |0=>.nils
 |k+1=>.sl Y 0 (k+1) (.opn esz)
def GAt{α:Type}(t:Nat)(f:α->zt)(L:za)(lo n Y:Nat)(l:List α):Prop:=l≠[]->lo<=Y/\Y<n/\x3 L Y=some (.row t (xW f l) true false)
theorem vU(esz Y k:Nat):vV (gSl esz Y k)=true:=by cases k<;>rfl
theorem To(esz Y k:Nat):j6 (gSl esz Y k)=some k:=by cases k<;>rfl
def zwD{α:Type}{t bytes:Nat}{f:α->zt}(hl:∀x,(f x).length=esz)(hs:∀x,wO (f x)=true)(he:1<=esz){Y:Nat}{vs ws:List α}{y:Z}(hr:GAt t f L lo n Y vs)(hw:WfA L n)(hlo:lo<=n)(h1:j6 y=some (zM ws))(h2:ws≠[]->qu (KL L n m false) esz (zM ws) y=some (xW f ws))(hb:2*(zM vs+zM ws)*bytes<=281474976710656)(hn:zM vs+zM ws<1000000000000):
  Cv (uE (KL L n m false) t esz bytes (gSl esz Y (zM vs)) y) λv s=>∃id' L' n' m',v=gSl esz id' (vs++ws).length/\s=KL L' n' m' false/\GAt t f L' lo n' id' (vs++ws)/\WfA L' n'/\n<=n'/\(∀j,j<lo->x3 L' j=x3 L j)/\(∀j,j<n->(vs≠[]->j≠Y)->x3 L' j=x3 L j):=by
 cases ws with
 |nil=>
  refine⟨gSl esz Y (zM vs),KL L n m false,?_,Y,L,n,m,by rw[zv6],rfl,by rw[zv6];exact hr,hw,zS _,λ_ _=>rfl,λ_ _ _=>rfl⟩
  simp only[uE,h1,xN];cases vs<;>rfl
 | cons w ws=>
  have h2:=h2 (by simp)
  simp only[yw]at h1 h2 hb hn;cases vs with
  |nil=>
   refine⟨_,_,Lh (q:=zM ws) h1 h2 (.inl rfl) he (by simp only[xN,y8]at hb;exact hb) (by simp only[xN]at hn;omega),n,_,_,_,rfl,rfl,λ_=>⟨hlo,yx _,by rw[x5,wc rfl];rfl⟩,λj hj=>?_,zuC _,λj hj=>by rw[gN J],λj hj _=>by rw[gN J]⟩
   rw[gN J];exact hw j J
  | cons u us=>
   obtain⟨hlo2,hid,g1⟩:=hr (by simp)
   simp only[yw]at hb hn;refine⟨_,_,KO (q:=zM ws) (by rw[wM];exact g1) (by rw[qK hl];rfl) h1 h2 (pJ hs _) he hb J,n,_,_,_,?_,rfl,λ_=>⟨hlo,yx _,by rw[x5,wc rfl,wQ]⟩,λj hj=>?_,zuC _,λj hj=>by rw[gN J,gN J],λj hj hne=>by rw[gN J,x5,x0 (hne (by simp))]⟩
   .simp only[yd,yw,yO,gSl]
    congr 1;omega
   .rw[gN J,x5];split
    .rfl
    .exact hw j J
def GAt.ext{α:Type}{t:Nat}{f:α->zt}{lo2 Y:Nat}{l:List α}(h:GAt t f L lo n Y l)(hlo:lo2<=lo)(hn:n<=n2)(hfr:∀j,lo<=j->j<n->x3 L2 j=x3 L j):GAt t f L2 lo2 n2 Y l:=λhne=>by
 obtain⟨h1,h2,h3⟩:=h hne;exact⟨J,J,by rw[hfr Y h1 h2];exact h3⟩
theorem wW(s:U)(esz Y k:Nat):Q0 s .v (gSl esz Y k)=some (.int .i64 (.ofNat k)):=by cases k<;>rfl
def Ws{l:List DT}{o:DT}{r:List DT}(hd:l.drop i=o::r):wE 5 (wX (i*5) (xW qA l))=some (qA o):=by
 rw[uo uf,hd];simp only[xW];exact vO (uf o)
def pL{esz Y k i:Nat}(h:i<k):vIa esz (gSl esz Y k) (.int .i64 (.ofNat i))=some (.ptr Y (i*esz)):=by
 cases k with
 |zero=>omega
 |succ k=>simp only[gSl,vIa,GQ .i64 h];simp
def x8(i:Nat)(o:zj)(r:za):x3 ((i,o)::r) i=o:=by rw[x5,wc rfl]
def kf{G:List zt}{res:List RV}{A:zu}{d:Nat}(h:x3 L d=some .dfd):qv G res (some (.ret,⟨A,[d]⟩,KL L n m b))=QT G A (KL ((d,some .dfd0)::L) n (kr m d) b) res:=by
 have:qT (KL L n m b) [d]=some (KL ((d,some .dfd0)::L) n (kr m d) b):=by
  simp only[qT,wM,h,kJ]
 unfold qv;simp only[this]
def In{fr:Fr}{l d:Nat}{U9:zb}{R:Z->U->Prop}{Q:Res->Fr->U->Prop}(hc:Cv U9 R)(h:∀v t,R v t->Ev (Zt fr l d (some (v,t))) Q):Ev (Zt fr l d U9) Q:=by
 obtain⟨v,t,rfl,q⟩:=hc;exact h v t q
def i3:Nat->Int
 |0=>.negSucc 0
 |k+1=>.ofNat k
theorem U3{k:Nat}(h:k<1000000000001):vK .i64 (Int.sub (.ofNat k) (.ofNat 1))=i3 k:=by
 cases k with
 |zero=>rfl
 |succ k=>rw[Hz J,YR J];rfl
section
variable {E:Env}{O:Orc}{rd:zw}{ia ib:ICode}{c:Opd}{A:zu}{df:zr}{s:U}{Q:Res->Fr->U->Prop}
def wV(hc:c.ev A=some (.bool true))(q:Ev (evC E (evW E O) rd ia ⟨A,df⟩ s) Q):Ev (evC E (evW E O) rd (.cond c ia ib) ⟨A,df⟩ s) Q:=by rw[Gq,hc,sq];exact q
def wY(hc:c.ev A=some (.bool false))(q:Ev (evC E (evW E O) rd ib ⟨A,df⟩ s) Q):Ev (evC E (evW E O) rd (.cond c ia ib) ⟨A,df⟩ s) Q:=by rw[Gq,hc,sn];exact q
end
section
variable {E:Env}{O:Orc}{rd:zw}{fr:Fr}{s:U}{Q:Res->Fr->U->Prop}{Ir:Fr->U->Prop}{ia ib ic Y ik:ICode}
def i5(h:∀f t,Ir f t->Ev (evC E (evW E O) rd ik f t) Q):∀r f t,wJ Ir Q r f t->wJ (λf t=>Ev (evC E (evW E O) rd ik f t) Q) Q r f t:=λr f t q=>by
 cases r with
 |norm=>exact h f t q
 |exit i=>exact q
 |ret=>exact q
def u6(Ir:Fr->U->Prop)(h:Ev (evC E (evW E O) rd ia fr s) (wJ Ir Q))(h2:∀f t,Ir f t->Ev (evC E (evW E O) rd ik f t) Q):Ev (evC E (evW E O) rd (.seq ia ik) fr s) Q:=
 xU (h.mono (i5 h2))
end
structure Atm where
 k:Int
 n:Int
inductive Trm where
 |mk (k v op n f:Int) (az:List Atm) (ks:List Trm)
variable {t:Trm}
structure Fn where
 ps:zq
 rest:Bool
 cont:Bool
 fr:zq
 b:Trm
structure Cd where
 fs:List Fn
 main:Int
 vars:Int
 globals:Int
 consts:List DT
variable {c:Cd}
def wg(n:Int):zt:=[.int .i64 n]
def qO(a:Atm):zt:=[.int .i64 a.k,.int .i64 a.n]
def qd(l:zq):Z:=.lst (zM l) false (xW wg l)
mutual
def qq:Trm->zt
 |.mk k v op n f az ks=>[.int .i64 k,.int .i64 v,.int .i64 op,.int .i64 n,.int .i64 f,.lst (zM az) false (xW qO az),.lst (zM ks) false (wS ks)]
def wS:List Trm->zt
 |[]=>[]
 |t::r=>qq t++wS r
end
def wD(f:Fn):zt:=qd f.ps::.bool f.rest::.bool f.cont::qd f.fr::qq f.b
def qi(c:Cd):zt:=[.lst (zM c.fs) false (xW wD c.fs),.int .i64 c.main,.int .i64 c.vars,.int .i64 c.globals,.lst (zM c.consts) false (wy c.consts)]
def q8(t:Trm):Z:=.agg (qq t)
def jy(f:Fn):Z:=.agg (wD f)
def vy(c:Cd):Z:=.agg (qi c)
def Trm.kind:Trm->Int|.mk k _ _ _ _ _ _=>k
def Trm.var:Trm->Int|.mk _ v _ _ _ _ _=>v
def Trm.op:Trm->Int|.mk _ _ o _ _ _ _=>o
def Trm.num:Trm->Int|.mk _ _ _ n _ _ _=>n
def Trm.fn:Trm->Int|.mk _ _ _ _ f _ _=>f
def Trm.atoms:Trm->List Atm|.mk _ _ _ _ _ a _=>a
def Trm.kids:Trm->List Trm|.mk _ _ _ _ _ _ k=>k
theorem qm(n:Int):(wg n).length=1:=rfl
theorem pu(a:Atm):(qO a).length=2:=rfl
def wl(k v op n f:Int)(az:List Atm)(ks:List Trm):qq (.mk k v op n f az ks)=[.int .i64 k,.int .i64 v,.int .i64 op,.int .i64 n,.int .i64 f,.lst (zM az) false (xW qO az),.lst (zM ks) false (wS ks)]:=by simp only[qq]
def wP:∀t:Trm,(qq t).length=7
 |.mk _ _ _ _ _ _ _=>by simp only[qq,yw,xN]
def Za:wS []=[]:=by simp only[wS]
def qV(t:Trm)(r:List Trm):wS (t::r)=qq t++wS r:=by simp only[wS]
def Vh:∀l:List Trm,wS l=xW qq l
 |[]=>by simp only[wS,xW]
 |t::r=>by simp only[wS,xW,Vh r]
def pw(f:Fn):(wD f).length=11:=by simp only[wD,yw,wP]
theorem qF(n:Int):wo (wg n)=true:=rfl
theorem dm(a:Atm):wo (qO a)=true:=rfl
def p9:∀t:Trm,wo (qq t)=true
 |.mk _ _ _ _ _ _ _=>by simp only[qq,ww,wA,qL,qn,xO]
def jE(l:zq):wC (qd l)=true:=by simp only[qd,qn]
def Xj(f:Fn):wo (wD f)=true:=by simp only[wD,ww,uO,jE,p9,xO]
def p7(c:Cd):wo (qi c)=true:=by simp only[qi,ww,wA,qL,qn,xO]
theorem vq(n:Int):wO (wg n)=true:=rfl
def lr:∀t:Trm,wO (qq t)=true
 |.mk _ _ _ _ _ _ _=>by simp only[qq,jC,gR,lC,Z6,xO]
def Jm(f:Fn):wO (wD f)=true:=by simp only[wD,qd,jC,Z5,Z6,lr,xO]
def px(n:Int):wkL (wg n)=wg n:=by simp only[wg,wkL,wkV]
def A3(a:Atm):wkL (qO a)=qO a:=by simp only[qO,wkL,wkV]
def Zl(l:zq):wkV (qd l)=qd l:=by simp only[qd,wkV,vT px]
mutual
theorem Up:∀t:Trm,wkL (qq t)=qq t
 |.mk k v op n f az ks=>by simp only[qq,wkL,wkV,vT A3,K2 ks]
theorem K2:∀l:List Trm,wkL (wS l)=wS l
 |[]=>by simp only[wS,wkL]
 | t::r=>by
  have ap:∀a b:zt,wkL (a++b)=wkL a++wkL b:=λa b=>by
   induction a with
   |nil=>rfl
   |cons v a ih=>simp only[yd,wkL,ih]
  simp only[wS,ap,Up t,K2 r]
end
def Lq(f:Fn):wkL (wD f)=wD f:=by simp only[wD,wkL,wkV,Zl,Up]
def A4(c:Cd):wkL (qi c)=qi c:=by simp only[qi,wkL,wkV,vT Lq,pf]
def dS(t:Trm):wkV (q8 t)=q8 t:=by simp only[q8,wkV,Up]
def dO(f:Fn):wkV (jy f)=jy f:=by simp only[jy,wkV,Lq]
def dN(c:Cd):wkV (vy c)=vy c:=by simp only[vy,wkV,A4]
def A5{a b:Int}(h:wg a=wg b):a=b:=by simpa [wg]using h
def mz{a b:Atm}(h:qO a=qO b):a=b:=by
 obtain⟨k,n⟩:=a;obtain⟨k',n'⟩:=b
 simpa [qO]using h
def Cj{m:zq}(h:xW wg l=xW wg m):l=m:=ZO qm J (λ_ _ h=>A5 h) h
def lz{m:zq}(h:qd l=qd m):l=m:=by
 simp only[qd,Z.lst.injEq]at h;exact Cj h.2.2
mutual
theorem Ym:∀{a b:Trm},qq a=qq b->a=b
 |.mk k v op n f az ks,.mk k' v' op' n' f' az' ks',h=>by
  simp only[qq,qJ,Z.int.injEq,Z.lst.injEq,true_and,and_true]at h;obtain⟨rfl,rfl,rfl,rfl,rfl,⟨_,h1⟩,⟨_,h2⟩⟩:=h;rw[Jn h2,ZO pu J (λ_ _ h=>mz h) h1]
theorem Jn:∀{a b:List Trm},wS a=wS b->a=b
 |[],[],_=>rfl
 |[],d::m,h=>by
  have:=congrArg zM h;simp only[wS,xN,yO,wP]at this;omega
 |d::l,[],h=>by
  have:=congrArg zM h;simp only[wS,xN,yO,wP]at this;omega
 |d::l,e::m,h=>by
  simp only[wS]at h;obtain⟨h1,h2⟩:=List.append_inj h (by rw[wP,wP])
  rw[Ym h1,Jn h2]
end
def K1{a b:Fn}(h:wD a=wD b):a=b:=by
 obtain⟨p,r,c,f,t⟩:=a;obtain⟨p',r',c',f',t'⟩:=b;simp only[wD,qJ,Z.bool.injEq]at h;obtain⟨h1,rfl,rfl,h2,h3⟩:=h;rw[lz h1,lz h2,Ym h3]
def mB{a b:Cd}(h:qi a=qi b):a=b:=by
 obtain⟨f,m,v,g,d⟩:=a;obtain⟨f',m',v',g',d'⟩:=b;simp only[qi,qJ,Z.int.injEq,Z.lst.injEq,true_and,and_true]at h;obtain⟨⟨_,h1⟩,rfl,rfl,rfl,⟨_,h2⟩⟩:=h;rw[Yn h2,ZO pw J (λ_ _ h=>K1 h) h1]
def LL{a b:Trm}(h:q8 a=q8 b):a=b:=Ym (by simpa [q8]using h)
def LF{a b:Fn}(h:jy a=jy b):a=b:=K1 (by simpa [jy]using h)
def LC{a b:Cd}(h:vy a=vy b):a=b:=mB (by simpa [vy]using h)
section
variable {α:Type}{f:α->zt}{k:Nat}
def Jy(hk:∀x,(f x).length=k){l:List α}{o:α}{r:List α}(hd:l.drop i=o::r):wE k (wX (i*k) (xW f l))=some (f o):=by
 rw[uo hk,hd];simp only[xW];exact vO (hk o)
end
def zwG{o:Int}(hd:l.drop i=o::r):wE 1 (wX (i*1) (xW wg l))=some [.int .i64 o]:=Jy qm hd
def aC{l:List Atm}{o:Atm}{r:List Atm}(hd:l.drop i=o::r):wE 2 (wX (i*2) (xW qO l))=some [.int .i64 o.k,.int .i64 o.n]:=Jy pu hd
def Uu{l:List Trm}{o:Trm}{r:List Trm}(hd:l.drop i=o::r):wE 7 (wX (i*7) (wS l))=some (qq o):=by rw[Vh];exact Jy wP hd
def Ut{l:List Fn}{i:Nat}{o:Fn}{r:List Fn}(hd:l.drop i=o::r):wE 11 (wX (i*11) (xW wD l))=some (wD o):=Jy pw hd
def uy(t:Trm):AObj:=.row 40 (qq t)
def lkK(f:FK)(z:Z)(ok:Bool)(k:Z):zj->zv
 |some (.map es _)=>VU z ok (gK f k es 0)
 | some (.umap es)=>match f with
  |.i=>match k with
   |.int .i64 n=>some (lkU z ok (lZ n es))
   |_=>none
  |_=>none
 |_=>none
theorem lm(s:U)(f:FK)(z:Z)(ok:Bool)(Y:Nat)(k:Z):vLk s f z ok (.map Y) k=lkK f z ok k (s.get Y):=by
 simp only[vLk,lkK];cases s.get Y with
 |none=>rfl
 |some o=>cases o<;>rfl
theorem Qe(z:Z)(ok:Bool)(n:Int)(es:zl):lkK .i z ok (.int .i64 n) (some (.umap es))=some (lkU z ok (lZ n es)):=rfl
theorem zwU(f:FK)(z:Z)(ok:Bool)(k:Z)(es:zf)(c:Nat):lkK f z ok k (some (.map es c))=VU z ok (gK f k es 0):=rfl
theorem ZD(z v:Z):lkU z true (some v)=.tup [v,.bool true]:=rfl
theorem ZB(z:Z):lkU z true none=.tup [z,.bool false]:=rfl
theorem MP(z:Z)(p:Nat×Z):VU z true (some (some p))=some (.tup [p.2,.bool true]):=rfl
def muK(s:U)(f:FK)(Y:Nat)(k v:Z):zj->zb
 |some (.map es clock)=>match gK f k es 0 with
  |some (some p)=>some (qX,s.put Y (.map (ry v k es p.1) clock))
  |some none=>some (qX,s.put Y (.map (es++[(k,v,clock)]) (Nat.succ clock)))
  |none=>none
 | some (.umap es)=>match f with
  |.i=>match k with
   |.int .i64 n=>some (qX,s.put Y (.umap (YN n v es)))
   |_=>none
  |_=>none
 |_=>none
theorem l7(s:U)(f:FK)(Y:Nat)(k v:Z):oMu s f (.map Y) k v=muK s f Y k v (s.get Y):=by
 simp only[oMu,muK];cases s.get Y with
 |none=>rfl
 |some o=>cases o<;>rfl
theorem VW(s:U)(Y:Nat)(n:Int)(v:Z)(es:zl):muK s .i Y (.int .i64 n) v (some (.umap es))=some (qX,s.put Y (.umap (YN n v es))):=rfl
def mdK(s:U)(f:FK)(Y:Nat)(k:Z):zj->zb
 |some (.map es clock)=>match gK f k es 0 with
  |some (some p)=>some (qX,s.put Y (.map (mK es p.1) clock))
  |some none=>some (qX,s.put Y (.map es clock))
  |none=>none
 | some (.umap es)=>match f with
  |.i=>match k with
   |.int .i64 n=>some (qX,s.put Y (.umap (Vo n es)))
   |_=>none
  |_=>none
 |_=>none
theorem TT(s:U)(f:FK)(Y:Nat)(k:Z):oMd s f (.map Y) k=mdK s f Y k (s.get Y):=by
 simp only[oMd,mdK];cases s.get Y with
 |none=>rfl
 |some o=>cases o<;>rfl
theorem zwY(s:U)(Y:Nat)(n:Int)(es:zl):mdK s .i Y (.int .i64 n) (some (.umap es))=some (qX,s.put Y (.umap (Vo n es))):=rfl
def lnK:zj->zv
 |some (.map es _)=>some (.int .i64 (.ofNat (qQ es)))
 |some (.umap es)=>some (.int .i64 (.ofNat (qQ es)))
 |_=>none
theorem iN(s:U)(Y:Nat):Q0 s .m (.map Y)=lnK (s.get Y):=by
 simp only[Q0,lnK];cases s.get Y with
 |none=>rfl
 |some o=>cases o<;>rfl
theorem zyo(es:zl):lnK (some (.umap es))=some (.int .i64 (.ofNat (zM es))):=by rw[<-qw];rfl
theorem bp(l:za)(n m:Nat)(b:Bool)(hd:zg)(on:ze):VZ env.um (KL l n m b hd on)=some (.map n,KL ((n,some (.umap []))::l) (n+1) m b hd on):=rfl
def uS(l:zq):zl:=l.map λx=>(x,.agg [])
def zwo(l:zq):(uS l).length=zM l:=List.length_map _
theorem bW:∀l:zq,Qh (uS l)=true
 |[]=>rfl
 |x::r=>by
  show (wC (.agg [])&&Qh (uS r))=true;rw[bW r];rfl
def bV:∀l:zq,(uS l).map (·.1)=l
 |[]=>rfl
 |x::r=>congrArg (x:: ·) (bV r)
theorem lV(a b:Int):eqI a b=decide (a=b):=by rw[uL];rfl
def Zj{n:Int}:∀{l:zq},n∈l->lZ n (uS l)=some (.agg [])
 |x::r,h=>by
  simp only[uS,zY,lZ,lV];by_cases e:x=n
  .rw[qp e];rfl
  .rw[qb e,wh];exact Zj (l:=r) (by rcases List.mem_cons.1 h with h|h;exact absurd h.symm e;exact h)
def lx{n:Int}:∀{l:zq},n∉l->lZ n (uS l)=none
 |[],_=>rfl
 |x::r,h=>by
  simp only[zul,not_or]at h;simp only[uS,zY,lZ,lV];rw[qb (Ne.symm h.1),wh];exact lx (l:=r) h.2
def Z8{n:Int}:∀{l:zq},n∉l->YN n (.agg []) (uS l)=uS (l++[n])
 |[],_=>rfl
 |x::r,h=>by
  simp only[zul,not_or]at h;simp only[uS,zY,YN,lV,yd];rw[qb (Ne.symm h.1),wh];have:=Z8 (l:=r) h.2;simp only[uS]at this;rw[this]
def Av{n:Int}:∀{l:zq},n∈l->YN n (.agg []) (uS l)=uS l
 | x::r,h=>by
  simp only[uS,zY,YN,lV];by_cases e:x=n
  .rw[qp e,x6,e]
  .rw[qb e,wh];have:=Av (l:=r) (by rcases List.mem_cons.1 h with h|h;exact absurd h.symm e;exact h)
   simp only[uS]at this;rw[this]
def WV(l:zq)(x:Int):zq:=if x∈l then l else l++[x]
def OM(l:zq)(x:Int):YN x (.agg []) (uS l)=uS (WV l x):=by
 unfold WV;split
 .rename_i h;exact Av h
 .rename_i h;exact Z8 h
def lD(sc ow:zq)(x:Int):zq:=if x∈sc then ow else WV ow x
def vm{j:Nat}(h:j≠i):(m|||1<<<i).testBit j=m.testBit j:=by
 rw[xd,Nat.one_shiftLeft,Nat.testBit_two_pow];simp[Ne.symm h]
def ei{x:Int}:∀{xs:zf} (i:Nat),(∀q∈xs,∃n,q.1=.int .i64 n/\q.2.1=.agg [])->(∃q∈xs,q.1=.int .i64 x)->∃p,gK .i (.int .i64 x) xs i=some (some p)/\p.2=.agg []
 |[],_,_,h=>by obtain⟨q,hq,_⟩:=h;cases hq
 | q::xs,i,ha,h=>by
  obtain⟨n,h1,h2⟩:=ha q (by simp)
  have e1:eq1 .i (.int .i64 x) (.int .i64 n)=some (decide (x=n)):=by
   rw[<-lV];rfl
  simp only[gK,h1,e1];by_cases hx:x=n
  .rw[qp hx];exact⟨_,rfl,h2⟩
  .rw[qb hx];refine ei _ (λq hq=>ha q (by simp[hq])) ?_
   obtain⟨q',hq',he⟩:=h;rcases List.mem_cons.1 hq' with rfl|hq'
   .rw[h1]at he;cases he;exact absurd rfl hx
   .exact⟨q',hq',he⟩
section
variable {O:Orc}
attribute [local go_sem] lm Qe ZD ZB l7 VW in
def Rl(h72:O 81=none){sc ow:zq}{g:Bool}{x:Int}{p1 p2 p3 oid:Nat}(hw:WfA L n)(g1:x3 L p1=some (.row 63 [.map sid]))(g2:x3 L p2=some (.row 63 [.map oid]))(g3:x3 L p3=some (.row 4 [.bool g]))(gs:x3 L sid=some (.umap (uS sc)))(go:x3 L oid=some (.umap (uS ow)))
  (m:Nat) (b:Bool):Cv (cl O 81 [x,.ptr p1 0,.ptr p2 0,.ptr p3 0] (KL L n m b)) λv t=>∃L2 n2 m2,t=KL L2 n2 m2 b/\WfA L2 n2/\n<=n2/\x3 L2 oid=some (.umap (uS (lD sc ow x)))/\x3 L2 p3=some (.row 4 [.bool (g||(decide (x∉sc)&&decide (x∉ow)))])/\∀j,j<n->j≠oid->j≠p3->x3 L2 j=x3 L j/\m2.testBit j=m.testBit j:=by
 refine wp (F:=f81) h72 rfl rfl (zv4 rfl) ?_;unfold f81 cF;simp only;have l1:=hw.lt g1;have l2:=hw.lt g2;have l3:=hw.lt g3;have l4:=hw.lt gs;have l5:=hw.lt go;have fin:∀{L2:za} {n2 m2:Nat},WfA L2 n2->n<=n2->(∀j,j<n->j≠oid->j≠p3->x3 L2 j=x3 L j/\m2.testBit j=m.testBit j)->∀ow2 g2,x3 L2 oid=some (.umap (uS ow2))->x3 L2 p3=some (.row 4 [.bool g2])->ow2=lD sc ow x->g2=(g||(decide (x∉sc)&&decide (x∉ow)))->∃L2' n2' m2',KL L2 n2 m2 b=KL L2' n2' m2' b/\WfA L2' n2'/\n<=n2'/\x3 L2' oid=some (.umap (uS (lD sc ow x)))/\x3 L2' p3=some (.row 4 [.bool (g||(decide (x∉sc)&&decide (x∉ow)))])/\∀j,j<n->j≠oid->j≠p3->x3 L2' j=x3 L j/\m2'.testBit j=m.testBit j:=by
  intro L2 n2 m2 q1 q2 q3 ow2 g2 q4 q5 q6 q7;subst q6;subst q7;exact⟨L2,n2,m2,rfl,q1,q2,q4,q5,q3⟩
 by_cases hs:x∈sc
 .have e1:=Zj hs;by_cases ho:x∉ow
  .have e2:=lx ho;refine xY ?_;refine xY ?_;refine xY ?_;refine ev_zc ?_;refine fin ?_ J (λj h1 h2 h3=>?_) _ _ ?_ ?_ (show ow=lD sc ow x from (wc hs).symm) (show g=(g||(decide (x∉sc)&&decide (x∉ow)))from by simp[hs])
   ·(repeat first|exact hw.up J|refine WfA.same ?_ J)
   .exact⟨by (repeat (rw[gN J])),by (repeat rw[vm J])⟩
   ·(repeat (rw[gN J]));exact go
   ·(repeat (rw[gN J]));exact g3
  .have e2:=Zj (Decidable.not_not.1 ho);refine xY ?_;refine xY ?_;refine xY ?_;refine ev_zc ?_;refine fin ?_ J (λj h1 h2 h3=>?_) _ _ ?_ ?_ (show ow=lD sc ow x from (wc hs).symm) (show g=(g||(decide (x∉sc)&&decide (x∉ow)))from by simp[hs])
   ·(repeat first|exact hw.up J|refine WfA.same ?_ J)
   .exact⟨by (repeat (rw[gN J])),by (repeat rw[vm J])⟩
   ·(repeat (rw[gN J]));exact go
   ·(repeat (rw[gN J]));exact g3
 .have e1:=lx hs;by_cases ho:x∈ow
  .have e2:=Zj ho;refine xY ?_;refine xY ?_;refine xY ?_;refine ev_zc ?_;refine fin ?_ J (λj h1 h2 h3=>?_) _ _ ?_ ?_ (show ow=lD sc ow x from by unfold lD WV;rw[x0 hs,wc ho]) (show g=(g||(decide (x∉sc)&&decide (x∉ow)))from by simp[ho])
   ·(repeat first|exact hw.up J|refine WfA.same ?_ J)
   .exact⟨by (repeat (rw[gN J])),by (repeat rw[vm J])⟩
   ·(repeat (rw[gN J]));exact go
   ·(repeat (rw[gN J]));exact g3
  .have e2:=lx ho;have e5:=Z8 ho;have d1:oid≠p3:=by rintro rfl;rw[g3]at go;cases go
   have d2:p3≠oid:=Ne.symm d1;refine xY ?_;refine xY ?_;refine xY ?_;refine ev_zc ?_;refine fin ?_ J (λj h1 h2 h3=>?_) _ _ ?_ ?_ (show ow++[x]=lD sc ow x from by unfold lD WV;rw[x0 hs,x0 ho]) (show true=(g||(decide (x∉sc)&&decide (x∉ow)))from by simp[hs,ho])
   ·(repeat first|exact hw.up J|refine WfA.same ?_ J)
   .exact⟨by (repeat (rw[gN J])),by (repeat rw[vm J])⟩
   .rw[x5,x0 d1,x8]
   .rw[x8]
attribute [local go_sem] lm Qe zwU ZD ZB MP l7 VW in
def zzP(h72:O 81=none){sc:zq}{x:Int}{p1 p2 p3 oid:Nat}{p:Nat×Z}(hw:WfA L n)(g1:x3 L p1=some (.row 63 [.map sid]))(g2:x3 L p2=some (.row 63 [.map oid]))(gs:x3 L sid=some (.umap (uS sc)))(go:x3 L oid=some (.map xs clk))(hf:gK .i (.int .i64 x) xs 0=some (some p))(hp:p.2=.agg [])
  (m:Nat) (b:Bool):Cv (cl O 81 [x,.ptr p1 0,.ptr p2 0,.ptr p3 0] (KL L n m b)) λv t=>∃L2 n2 m2,t=KL L2 n2 m2 b/\WfA L2 n2/\n<=n2/\∀j,j<n->x3 L2 j=x3 L j/\m2.testBit j=m.testBit j:=by
 refine wp (F:=f81) h72 rfl rfl (zv4 rfl) ?_;unfold f81 cF;simp only;have l1:=hw.lt g1;have l2:=hw.lt g2;have l4:=hw.lt gs;have l5:=hw.lt go;by_cases hs:x∈sc
 .have e1:=Zj hs;refine xY ?_;refine xY ?_;refine xY ?_;refine ev_zc ?_;refine⟨_,_,_,rfl,?_,J,λj h1=>?_⟩
  ·(repeat first|exact hw.up J|refine WfA.same ?_ J)
  .exact⟨by (repeat (rw[gN J])),by (repeat rw[vm J])⟩
 .have e1:=lx hs;refine xY ?_;refine xY ?_;refine xY ?_;refine ev_zc ?_;refine⟨_,_,_,rfl,?_,J,λj h1=>?_⟩
  ·(repeat first|exact hw.up J|refine WfA.same ?_ J)
  .exact⟨by (repeat (rw[gN J])),by (repeat rw[vm J])⟩
end
def IQ(S:zc)(j:Int):zq:=S.getD j.toNat []
def vH(sc ow:zq):List Atm->zq
 |[]=>ow
 |a::r=>vH sc (bif eqD a.k (.ofNat 1)then lD sc ow a.n else ow) r
def Qq(sc ow:zq):zq->zq
 |[]=>ow
 |x::r=>Qq sc (lD sc ow x) r
def vG(k:Int):Bool:=eqD k (.ofNat 1)||eqD k (.ofNat 2)
def WU(S:zc)(i:Nat)(k f:Int)(az:List Atm)(sc ow:zq):zq:=
 bif eqD k (.ofNat 2)then (if f.toNat=i then vH sc ow az else Qq sc (vH sc ow az) (IQ S f))else vH sc ow az
def scB(k v:Int)(sc:zq):zq:=bif vG k then WV sc v else sc
mutual
def je(S:zc)(i:Nat):Trm->zq->zq->zq
 |.mk k v _ _ f az ks,sc,ow=>uQ S i ks (scB k v sc) (WU S i k f az sc ow)
def uQ(S:zc)(i:Nat):List Trm->zq->zq->zq
 |[],_,ow=>ow
 |x::r,sc,ow=>je S i x sc (uQ S i r sc ow)
end
mutual
def wN:Trm->Nat
 |.mk _ _ _ _ _ _ ks=>1+qR ks
def qR:List Trm->Nat
 |[]=>0
 |t::r=>wN t+qR r
end
mutual
def Q8(N:Nat):Trm->Prop
 |.mk k _ _ _ f az ks=>zM az<1000000000/\zM ks<=2/\(eqD k (.ofNat 2)=true->∃j,f=.ofNat j/\j<N)/\KC N ks
def KC(N:Nat):List Trm->Prop
 |[]=>True
 |t::r=>Q8 N t/\KC N r
end
def HH(sc ow:zq)(x:Int):zM ow<=(lD sc ow x).length:=by
 unfold lD WV;split
 .exact zS _
 .split
  .exact zS _
  .simp
def Ei(sc ow:zq)(x:Int)(a:Nat)(ha:a<=List.length ow):decide ((lD sc ow x).length≠a)=(decide (List.length ow≠a)||(decide (x∉sc)&&decide (x∉ow))):=by
 unfold lD WV;by_cases h1:x∈sc
 .rw[wc h1];simp[h1]
 .rw[x0 h1];by_cases h2:x∈ow
  .rw[wc h2];simp[h2]
  .rw[x0 h2];have:(ow++[x]).length≠a:=by simp;omega
   rw[qp this];simp[h1,h2]
def YQ{sc ow:zq}{x:Int}(h:ow.Nodup):(lD sc ow x).Nodup:=by
 unfold lD WV;split
 .exact h
 .split
  .exact h
  .rename_i h1
   rw[List.nodup_append];exact⟨h,by simp,λa ha b hb=>by
    simp only[yq]at hb;subst hb;rintro rfl;exact h1 ha⟩
def Yj(sc:zq):∀(az:List Atm) (ow:zq),zM ow<=(vH sc ow az).length
 |[],ow=>zS _
 |a::r,ow=>by
  simp only[vH];refine zV ?_ (Yj sc r _);cases eqD a.k (.ofNat 1)with
  |true=>exact HH _ _ _
  |false=>exact zS _
def cZ(sc:zq):∀(l:zq) (ow:zq),zM ow<=(Qq sc ow l).length
 |[],ow=>zS _
 |x::r,ow=>zV (HH _ _ _) (cZ sc r _)
structure CapE where
 ids:zr
 S:zc
 i:Nat
 fid:Nat
 sid:Nat
 c:Cap
 xx:Bool
 ff:Bool
variable {E:CapE}
def CapE.oid(E:CapE):Nat:=E.ids.getD E.i 0
def CapE.W(E:CapE)(j:Nat):Prop:=j∈E.ids\/j=E.sid
structure CapM(E:CapE)(L:za)(n:Nat)(sc ow:zq):Prop where
 wf:WfA L n
 len:zM E.S=zM E.ids
 nd:E.ids.Nodup
 hi:E.i<zM E.ids
 row:x3 L E.fid=some (.row 63 (E.ids.map .map) E.xx E.ff)
 oth:∀j Y,E.ids[j]? =some Y->j≠E.i->x3 L Y=some (.umap (uS (E.S.getD j [])))
 own:x3 L E.oid=some (.umap (uS ow))
 sco:x3 L E.sid=some (.umap (uS sc))
 sd:E.sid∉E.ids
section
variable {E:CapE}{L:za}{n:Nat}{sc ow:zq}
theorem CapM.oid(h:CapM E L n sc ow):E.ids[E.i]? =some E.oid:=by
 unfold CapE.oid;rw[xD,yU h.hi];rfl
def CapM.oidW(h:CapM E L n sc ow):E.oid∈E.ids:=xJ h.oid
def CapM.one(h:CapM E L n sc ow){j Y:Nat}(hj:E.ids[j]? =some Y)(hne:j≠E.i):Y≠E.oid:=λe=>hne (by
 have h1:=h.oid;rw[<-e]at h1;exact(zuy (List.getElem?_eq_some_iff.1 hj).1 h.nd).1 (hj.trans h1.symm))
end
def CapM.turn{sc ow:zq}(h:CapM E L n sc ow)(hw:WfA L2 n2)(ho:x3 L2 E.oid=some (.umap (uS ow2)))(hf:∀j,j<n->j≠E.oid->(E.W j\/j=E.fid)->x3 L2 j=x3 L j):CapM E L2 n2 sc ow2 where
 wf:=hw
 len:=h.len
 nd:=h.nd
 hi:=h.hi
 row:=by rw[hf E.fid (h.wf.lt h.row) (λe=>by have h1:=h.row;rw[e,h.own]at h1;cases h1) (.inr rfl)];exact h.row
 oth:=λj Y hj hne=>by
  have h1:=h.oth j Y hj hne;rw[hf Y (h.wf.lt h1) (h.one hj hne) (.inl (.inl (xJ hj)))];exact h1
 own:=ho
 sco:=by rw[hf E.sid (h.wf.lt h.sco) (λe=>h.sd (e▸h.oidW)) (.inl (.inr rfl))];exact h.sco
 sd:=h.sd
def ce(n0:Nat):Z:=.fn 81 [] [.ptr (n0+1) 0,.ptr (n0+1+1) 0,.ptr (n0+1+1+1) 0]
structure CapS(E:CapE)(L0:za)(n0 a0:Nat)(sc0:zq)(t:Trm)(hs ow:zq)(L:za)(n m hid:Nat):Prop where
 M:CapM E L n (sc0++hs) ow
 n4:n0+1+1+1+1<=n
 r0:x3 L n0=some (uy t)
 r1:x3 L (n0+1)=some (.row 63 [.map E.sid])
 r2:x3 L (n0+1+1)=some (.row 63 [.map E.oid])
 r3:x3 L (n0+1+1+1)=some (.row 4 [.bool (decide (zM ow≠a0))])
 hr:GAt 3 wg L (n0+1+1+1+1) n hid hs
 le:a0<=zM ow
 nd:ow.Nodup
 ds:∀v∈hs,v∉sc0
 lt:∀j,E.W j\/j=E.fid->j<n0
 fr:∀j,j<n0->¬E.W j->x3 L j=x3 L0 j/\m.testBit j=false
structure CapT(E:CapE)(n0 hid:Nat)(hs:zq)(T:List (Nat×Z)):Prop where
 t1:G T 1 (.sl E.fid 0 (zM E.ids) E.c)
 t4:G T 4 (.ptr n0 0)
 t6:G T 6 (.ptr (n0+1) 0)
 t7:G T 7 (.ptr (n0+1+1) 0)
 t8:G T 8 (.ptr (n0+1+1+1) 0)
 t9:G T 9 (ce n0)
 t10:G T 10 (gSl 1 hid hs.length)
def Yf(E:CapE)(L0:za)(n0 a0:Nat)(sc0:zq)(t:Trm)(hs ow:zq)(fr:Fr)(s:U):Prop:=
 ∃T L n m hid,fr=⟨tmL T,[]⟩/\s=KL L n m false/\CapT E n0 hid hs T/\CapS E L0 n0 a0 sc0 t hs ow L n m hid
def CapS.use{ow:zq}{hid:Nat}(h:CapS E L0 n0 a0 sc0 t hs ow L n m hid){x:Int}(hw:WfA L2 n2)(hn:n<=n2)(h1:x3 L2 E.oid=some (.umap (uS (lD (sc0++hs) ow x))))(h2:x3 L2 (n0+1+1+1)=some (.row 4 [.bool (decide (List.length ow≠a0)||(decide (x∉sc0++hs)&&decide (x∉ow)))]))(hf:∀j,j<n->j≠E.oid->j≠n0+1+1+1->x3 L2 j=x3 L j/\m2.testBit j=m.testBit j):CapS E L0 n0 a0 sc0 t hs (lD (sc0++hs) ow x) L2 n2 m2 hid:=by
 have n4:=h.n4;have ho:E.oid<n0:=h.lt _ (.inl (.inl h.M.oidW))
 exact{
  M:=h.M.turn hw h1 λj hj hne hW=>(hf j hj hne (by have:=h.lt j hW;omega)).1
  n4:=J
  r0:=by rw[(hf n0 J J J).1];exact h.r0
  r1:=by rw[(hf (n0+1) J J J).1];exact h.r1
  r2:=by rw[(hf (n0+1+1) J J J).1];exact h.r2
  r3:=by rw[Ei _ _ _ _ h.le];exact h2
  hr:=h.hr.ext (zS _) hn λj h1 h2=>(hf j h2 J J).1
  le:=zV h.le (HH _ _ _)
  nd:=YQ h.nd
  ds:=h.ds
  lt:=h.lt
  fr:=λj hj hW=>by
   have:=hf j J (λe=>hW (e▸.inl h.M.oidW)) J;rw[this.1,this.2];exact h.fr j hj hW}
open Nat (reduceEqDiff reduceLeDiff reduceLT reduceAdd reduceMul reduceSub reduceMod reducePow reduceDiv reduceOr reduceShiftLeft reduceGT reduceSucc)
open List (length_cons length_nil length_take length_drop)
open Int (reduceOfNat reduceNegSucc)
def kg:ICode:=match f45.body with
 |.seq _ (.seq _ (.seq _ (.seq (.block _ (.loop (.block _ b))) _)))=>b
 |_=>.skip
def zyT:ICode:=match kg with
 |.seq a _=>a
 |_=>.skip
def RX:ICode:=match kg with
 |.seq _ (.seq b _)=>b
 |_=>.skip
def cQ:ICode:=match kg with
 |.seq _ (.seq _ c)=>c
 |_=>.skip
def CapT.cons{hid:Nat}{T:List (Nat×Z)}(h:CapT E n0 hid hs T){j:Nat}{v:Z}(hj:j=5\/10<j):CapT E n0 hid hs ((j,v)::T):=by
 have e:∀i,i≠j->(tmL ((j,v)::T)).get i=(tmL T).get i:=λi hi=>by rw[<-Km,Trie.get_set_ne _ _ hi]
 obtain⟨t1,t4,t6,t7,t8,t9,t10⟩:=h;exact⟨(e _ J).trans t1,(e _ J).trans t4,(e _ J).trans t6,(e _ J).trans t7,(e _ J).trans t8,(e _ J).trans t9,(e _ J).trans t10⟩
def CapS.oth{ow:zq}{hid:Nat}(h:CapS E L0 n0 a0 sc0 t hs ow L n m hid)(hw:WfA L2 n2)(hn:n<=n2)(hf:∀j,j<n->x3 L2 j=x3 L j/\m2.testBit j=m.testBit j):CapS E L0 n0 a0 sc0 t hs ow L2 n2 m2 hid:=by
 have n4:=h.n4;have ho:E.oid<n0:=h.lt _ (.inl (.inl h.M.oidW))
 exact{
  M:=h.M.turn hw (by rw[(hf E.oid J).1];exact h.M.own) λj hj hne hW=>(hf j hj).1
  n4:=J
  r0:=by rw[(hf n0 J).1];exact h.r0
  r1:=by rw[(hf (n0+1) J).1];exact h.r1
  r2:=by rw[(hf (n0+1+1) J).1];exact h.r2
  r3:=by rw[(hf (n0+1+1+1) J).1];exact h.r3
  hr:=h.hr.ext (zS _) hn λj h1 h2=>(hf j h2).1
  le:=h.le
  nd:=h.nd
  ds:=h.ds
  lt:=h.lt
  fr:=λj hj hW=>by
   have:=hf j J;rw[this.1,this.2];exact h.fr j hj hW}
section
variable {O:Orc}{E:CapE}{L0:za}{n0 a0:Nat}{sc0 hs ow:zq}{t:Trm}
attribute [local go_sem] wW ce in
def RW(h72:O 81=none)(hl:t.atoms.length<1000000000){fr:Fr}(hI:Yf E L0 n0 a0 sc0 t hs ow fr s):Ev (evC env (evW env O) none zyT fr s) (wJ (Yf E L0 n0 a0 sc0 t hs (vH (sc0++hs) ow t.atoms)) λ_ _ _=>False):=by
 obtain⟨T,L,n,m,hid,rfl,rfl,hT,hS⟩:=hI;obtain⟨k,v,op,num,f,az,ks⟩:=t;simp only[Trm.atoms]at hl|-;have r0:=hS.r0;simp only[uy,wl]at r0;have t4:=hT.t4;unfold zyT kg f45 cF;simp only;refine xY ?_;apply x4;refine wq (λx:Nat×zq=>zM az-x.1) (λx fr s=>∃T L n m,fr=⟨tmL T,[]⟩/\s=KL L n m false/\CapT E n0 hid hs T/\G T 20 (.lst (zM az) false (xW qO az))/\G T 21 (zM az)/\G T 22 x.1/\x.1<=zM az/\CapS E L0 n0 a0 sc0 (.mk k v op num f az ks) hs x.2 L n m hid/\vH (sc0++hs) ow az=vH (sc0++hs) x.2 (az.drop x.1)) (λx fr s hI=>?_) (0,ow) ⟨_,L,n,m,rfl,rfl,?_,V,V,V,yh _,hS,rfl⟩
 .obtain⟨T,L,n,m,rfl,rfl,hT,q20,q21,q22,hi,hS,he⟩:=hI;obtain⟨i,ow⟩:=x;simp only at q22 hi hS he;rcases wj az i with ⟨hi,hd⟩|⟨a,hi,hd⟩
  .have hlt:¬i<zM az:=J;rw[hd]at he;refine xX ?_;exact⟨_,L,n,m,hid,rfl,rfl,hT.cons J,he▸hS⟩
  .have hc:=aC hd;obtain⟨ak,an⟩:=a;rw[hd]at he;simp only[vH]at he;have hwf:=hS.M.wf;have n4:=hS.n4;obtain⟨t1,t4,t6,t7,t8,t9,t10⟩:=hT;have hT:CapT E n0 hid hs T:=⟨t1,t4,t6,t7,t8,t9,t10⟩;cases hk:eqD ak (.ofNat 1)with
   | false=>
    rw[hk]at he;refine xX ?_;refine⟨(i+1,ow),⟨_,_,_,_,rfl,rfl,?_,V,V,V,by simp only;omega,?_,he⟩,by simp only;omega⟩
    ·(repeat refine CapT.cons ?_ J);exact hT
    .refine hS.oth ?_ J λj hj=>⟨?_,?_⟩
     ·(repeat first|exact hwf.up J|refine WfA.same ?_ J)
     ·(repeat (rw[gN J]))
     ·(repeat rw[vm J])
   |true=>
    rw[hk]at he;have g1:=hS.r1;have g2:=hS.r2;have g3:=hS.r3;have gs:=hS.M.sco;have go:=hS.M.own;have l1:=hS.lt E.sid (.inl (.inr rfl));have l2:=hS.lt E.oid (.inl (.inl hS.M.oidW));refine xY ?_;refine xY ?_;refine xU (x4 ?_);refine xY ?_;refine xY ?_;refine wV sW ?_;refine wi ?_;refine xZ (Rl h72 (sc:=sc0++hs) (ow:=ow) (g:=decide (zM ow≠a0)) (x:=an) (sid:=E.sid) (oid:=E.oid) ?_ ?_ ?_ ?_ ?_ ?_ _ _) λv t hv=>?_
    ·(repeat first|exact hwf.up J|refine WfA.same ?_ J)
    ·(repeat (rw[gN J]));exact g1
    ·(repeat (rw[gN J]));exact g2
    ·(repeat (rw[gN J]));exact g3
    ·(repeat (rw[gN J]));exact gs
    ·(repeat (rw[gN J]));exact go
    obtain⟨L2,n2,m2,rfl,hw2,hn2,q1,q2,q3⟩:=hv;refine xX ?_;refine xX ?_;refine⟨(i+1,lD (sc0++hs) ow an),⟨_,L2,n2,m2,rfl,rfl,?_,V,V,V,by simp only;omega,?_,he⟩,by simp only;omega⟩
    ·(repeat refine CapT.cons ?_ J);exact hT
    .refine hS.use hw2 J q1 q2 λj h1 h2 h3=>?_;have:=q3 j J h2 h3;rw[this.1,this.2];exact⟨by (repeat (rw[gN J])),by (repeat rw[vm J])⟩
 ·(repeat refine CapT.cons ?_ J);exact hT
end
def oK{m:zq}(hl:l.Nodup)(hm:m.Nodup)(h:∀x,x∈l↔x∈m):l.Perm m:=by
 rw[List.perm_iff_count];intro x;rw[hl.count,hm.count];simp only[h x]
def ZU{sc ow:zq}{x y:Int}:y∈lD sc ow x↔y∈ow\/(y=x/\x∉sc):=by
 unfold lD WV;split
 .rename_i h;constructor
  .exact .inl
  .rintro(h1|⟨_,h1⟩)
   .exact h1
   .exact absurd h h1
 .rename_i h
  split
  .rename_i h1;constructor
   .exact .inl
   .rintro(h2|⟨rfl,_⟩)
    .exact h2
    .exact h1
  .simp only[zuB,yq];constructor
   .rintro(h2|h2)
    .exact .inl h2
    .exact .inr ⟨h2,h⟩
   .rintro(h2|⟨h2,_⟩)
    .exact .inl h2
    .exact .inr h2
def X3{sc:zq}{y:Int}:∀{l ow:zq},y∈Qq sc ow l↔y∈ow\/(y∈l/\y∉sc)
 |[],ow=>by simp[Qq]
 | x::l,ow=>by
  simp only[Qq];rw[X3,ZU];constructor
  .rintro((h|⟨rfl,h⟩)|⟨h,h'⟩)
   .exact .inl h
   .exact .inr ⟨by simp,h⟩
   .exact .inr ⟨by simp[h],h'⟩
  .rintro(h|⟨h,h'⟩)
   .exact .inl (.inl h)
   .rcases List.mem_cons.1 h with rfl|h
    .exact .inl (.inr ⟨rfl,h'⟩)
    .exact .inr ⟨h,h'⟩
def Qr{sc:zq}:∀{l ow:zq},ow.Nodup->(Qq sc ow l).Nodup
 |[],_,h=>h
 |x::l,ow,h=>Qr (l:=l) (YQ h)
structure XsOk(l:zq)(xs:zf)(clk:Nat):Prop where
 key:∀q∈xs,∃n,q.1=.int .i64 n/\q.2.1=.agg []/\n∈l
 all:∀n∈l,∃q∈xs,q.1=.int .i64 n
 one:∀q∈xs,∀q'∈xs,q.1=q'.1->q=q'
 st:(xs.map (·.2.2)).Nodup
 old:∀q∈xs,q.2.2<clk
 nd:l.Nodup
def Pq:∀{xs:zf},(xs.map (·.1)).Nodup->∀q∈xs,∀q'∈xs,q.1=q'.1->q=q'
 |[],_,q,hq,_,_,_=>by cases hq
 |a::xs,h,q,hq,q',hq',e=>by
  simp only[zY,zur,zuH,not_exists,not_and]at h;rcases List.mem_cons.1 hq with e1|hq<;>rcases List.mem_cons.1 hq' with e2|hq'
  .rw[e1,e2]
  .exact absurd (e.symm.trans (by rw[e1])) (h.1 q' hq')
  .exact absurd (e.trans (by rw[e2])) (h.1 q hq)
  .exact Pq h.2 q hq q' hq' e
def XsOk.of(h:La (uS l) xs clk):XsOk l xs clk:=by
 obtain⟨h1,h2,h3,h4⟩:=h;rw[bV]at h4;have e:(uS l).map (λq=>(Z.int .i64 q.1,q.2))=l.map λx=>(Z.int .i64 x,Z.agg []):=by simp[uS]
 rw[e]at h1;have hk:(xs.map (·.1)).Perm (l.map (Z.int .i64)):=by
  have:=h1.map (·.1)
  simpa [List.map_map,Function.comp_def]using this
 refine⟨λq hq=>?_,λn hn=>?_,Pq (hk.nodup_iff.2 (h4.map (f:=Z.int .i64) λa b hab he=>by cases he;exact hab rfl)),h2,h3,h4⟩
 .have:(q.1,q.2.1)∈l.map λx=>(Z.int .i64 x,Z.agg []):=h1.mem_iff.1 (List.mem_map.2 ⟨q,hq,rfl⟩);obtain⟨n,hn,he⟩:=List.mem_map.1 this;simp only[wF]at he;exact⟨n,he.1.symm,he.2.symm,hn⟩
 .have:Z.int .i64 n∈xs.map (·.1):=hk.mem_iff.2 (List.mem_map.2 ⟨n,hn,rfl⟩);obtain⟨q,hq,he⟩:=List.mem_map.1 this;exact⟨q,hq,he⟩
def jF{seen:zr}{p:Z×Z×Nat}:∀{xs:zf},p∈u9 seen xs↔p∈xs/\p.2.2∉seen
 |[]=>by simp[u9]
 | q ::xs=>by
  simp only[u9,Zp];cases hc:seen.contains q.2.2 with
  | true=>
   rw[x6,jF];constructor
   .rintro⟨h1,h2⟩;exact⟨by simp[h1],h2⟩
   .rintro⟨h1,h2⟩
    rcases List.mem_cons.1 h1 with rfl|h1
    .simp at hc;exact absurd hc h2
    .exact⟨h1,h2⟩
  | false=>
   rw[wh,zul,jF];constructor
   .rintro(rfl|⟨h1,h2⟩)
    .refine⟨by simp,λh=>?_⟩
     have:seen.contains p.2.2=true:=by simpa using h
     rw[this]at hc;cases hc
    .exact⟨by simp[h1],h2⟩
   .rintro⟨h1,h2⟩
    rcases List.mem_cons.1 h1 with rfl|h1
    .exact .inl rfl
    .exact .inr ⟨h1,h2⟩
def Pi:∀xs:zf,u9 [] xs=xs
 |[]=>rfl
 |q::xs=>by simp only[u9,Zp,List.contains_nil,wh,Pi xs]
def Ph{seen:zr}{b:Nat}:∀{xs:zf},(u9 (seen++[b]) xs).length<=(u9 seen xs).length
 |[]=>zS _
 | q::xs=>by
  have ih:=Ph (seen:=seen) (b:=b) (xs:=xs);simp only[u9,Zp];cases h1:seen.contains q.2.2 with
  |true=>
   rw[show (seen++[b]).contains q.2.2=true by simp at h1|-;exact .inl h1]
   exact ih
  |false=>
   cases (seen++[b]).contains q.2.2<;>simp only[x6,wh,yw]<;>omega
def VQ{seen:zr}{p:Z×Z×Nat}:∀{xs:zf},p∈u9 seen xs->(u9 (seen++[p.2.2]) xs).length<(u9 seen xs).length
 | q::xs,h=>by
  have ih:=Ph (seen:=seen) (b:=p.2.2) (xs:=xs);simp only[u9,Zp]at h|-;cases h1:seen.contains q.2.2 with
  |true=>
   rw[h1]at h;rw[show (seen++[p.2.2]).contains q.2.2=true by simp at h1|-;exact .inl h1]
   exact VQ h
  | false=>
   rw[h1,wh]at h;rcases List.mem_cons.1 h with rfl|h
   .rw[show (seen++[p.2.2]).contains p.2.2=true by simp]
    simp only[x6,wh,yw];omega
   .have:=VQ h;cases (seen++[p.2.2]).contains q.2.2<;>simp only[x6,wh,yw]<;>omega
def Pf(l:zr)(b:Nat):Qd (l++[b])=some b:=by
 induction l with
 |nil=>rfl
 |cons x l ih=>
  cases l with
  |nil=>rfl
  |cons y l=>simp only[yd,Qd]at ih|-;exact ih
def Gu{p:Z×Z×Nat}:∀{xs:zf},(xs.map (·.2.2)).Nodup->p∈xs->Vx p.2.2 xs=some (p.1,p.2.1)
 | q::xs,h,hp=>by
  simp only[zY,zur,zuH,not_exists,not_and]at h;simp only[Vx];rcases List.mem_cons.1 hp with rfl|hp
  .rw[wH.2 rfl];rfl
  .have:Nat.beq q.2.2 p.2.2=false:=by
    cases hb:Nat.beq q.2.2 p.2.2 with
    |false=>rfl
    |true=>exact absurd (wH.1 hb).symm (h.1 p hp)
   rw[this,wh];exact Gu h.2 hp
def RgI(sc ow l ow2:zq)(xs:zf)(seen:zr):Prop:=
 ow2.Nodup/\∀x,x∈ow2↔x∈ow\/(x∉sc/\x∈l/\∀p∈u9 seen xs,p.1≠.int .i64 x)
def RgI.start{sc ow:zq}(h:XsOk l xs clk)(hn:ow.Nodup):RgI sc ow l ow xs []:=⟨hn,λx=>⟨.inl,λh'=>by
 rcases h' with h'|⟨_,h2,h3⟩
 .exact h'
 .rw[Pi]at h3;obtain⟨q,hq,he⟩:=h.all x h2;exact absurd he (h3 q hq)⟩⟩
theorem RgI.step{sc ow:zq}{seen:zr}{p:Z×Z×Nat}{x:Int}(h:XsOk l xs clk)(hI:RgI sc ow l ow2 xs seen)(hp:p∈u9 seen xs)(hx:p.1=.int .i64 x):RgI sc ow l (lD sc ow2 x) xs (seen++[p.2.2]):=by
 obtain⟨h1,h2⟩:=hI;obtain⟨hp1,hp2⟩:=jF.1 hp;have hst:∀q∈xs,q.2.2=p.2.2->q=p:=λq hq e=>by
  have:∀{xs:zf},(xs.map (·.2.2)).Nodup->∀q∈xs,∀q'∈xs,q.2.2=q'.2.2->q=q':=by
   intro xs
   induction xs with
   |nil=>intro _ q hq;cases hq
   |cons a xs ih=>
    intro h q hq q' hq' e;simp only[zY,zur,zuH,not_exists,not_and]at h;rcases List.mem_cons.1 hq with e1|hq<;>rcases List.mem_cons.1 hq' with e2|hq'
    .rw[e1,e2]
    .exact absurd (e.symm.trans (by rw[e1])) (h.1 q' hq')
    .exact absurd (e.trans (by rw[e2])) (h.1 q hq)
    .exact ih h.2 q hq q' hq' e
  exact this h.st q hq p hp1 e
 refine⟨YQ h1,λy=>?_⟩;rw[ZU,h2];constructor
 .rintro((h3|⟨h3,h4,h5⟩)|⟨rfl,h3⟩)
  .exact .inl h3
  .refine .inr ⟨h3,h4,λq hq=>h5 q ?_⟩;obtain⟨q1,q2⟩:=jF.1 hq;exact jF.2 ⟨q1,λhh=>q2 (by simp[hh])⟩
  .obtain⟨n,e1,_,e3⟩:=h.key p hp1;rw[hx]at e1;cases e1;refine .inr ⟨h3,e3,λq hq e=>?_⟩;obtain⟨q1,q2⟩:=jF.1 hq;have:=h.one q q1 p hp1 (e.trans hx.symm);subst this;exact q2 (by simp)
 .rintro(h3|⟨h3,h4,h5⟩)
  .exact .inl (.inl h3)
  .by_cases hy:y=x
   .exact .inr ⟨hy,hy▸h3⟩
   .refine .inl (.inr ⟨h3,h4,λq hq e=>?_⟩);obtain⟨q1,q2⟩:=jF.1 hq;refine h5 q (jF.2 ⟨q1,λhh=>?_⟩) e;rcases List.mem_append.1 hh with hh|hh
    .exact q2 hh
    .simp only[yq]at hh;have:=hst q q1 hh;subst this;rw[hx]at e;cases e;exact hy rfl
def RgI.fin{sc ow:zq}{seen:zr}(hI:RgI sc ow l ow2 xs seen)(h0:u9 seen xs=[])(hn:ow.Nodup):ow2.Perm (Qq sc ow l):=by
 refine oK hI.1 (Qr hn) λx=>?_;rw[hI.2,X3,h0];constructor
 .rintro(h|⟨h1,h2,_⟩)
  .exact .inl h
  .exact .inr ⟨h2,h1⟩
 .rintro(h|⟨h1,h2⟩)
  .exact .inl h
  .exact .inr ⟨h2,h1,by simp⟩
open Int renaming reduceOfNat → rO, reduceNegSucc → rN
structure CO(C:Cx)(O:Orc):Prop where
 ok:CxOk C
 e:C.E=env
 o:C.O=O
 r:C.rd=none
def CO.ev{C:Cx}(h:CO C O){ic:ICode}{fr:Fr}{Q:Res->Fr->U->Prop}(q:Ev (evC env (evW env O) none ic fr s) Q):Tri C ic fr s Q:=zwl h.ok (by rw[h.e,h.o,h.r];exact q)
def Ro{it since st b:Nat}{seen:zr}{es:zf}{p:Z×Z}(h1:s.get it=some (.miter (some m) since seen st))(h2:Qd seen=some b)(h3:s.get m=some (.map es clk))(h4:clk=st)(h5:Vx b es=some p):vEn s (.ptr it 0)=some (.tup [p.1,p.2]):=by
 subst h4;simp only[vEn,h1,h2,h3,wH.2 rfl,x6,h5,Ac]
theorem zyz{l:za}{n m Y clk:Nat}{b:Bool}{es:zf}(h:x3 l Y=some (.map es clk)):oRm (KL l n m b) (.map Y)=some (.ptr n 0,KL ((n,some (.miter (some Y) clk [] clk))::l) (n+1) m b):=by
 simp only[oRm,wM,h];rfl
def CapM.re{sc ow:zq}(h:CapM E L n sc ow)(hf:∀j,x3 L2 j=x3 L j):CapM E L2 n sc ow where
 wf:=λj hj=>by rw[hf];exact h.wf j hj
 len:=h.len
 nd:=h.nd
 hi:=h.hi
 row:=by rw[hf];exact h.row
 oth:=λj Y a b=>by rw[hf];exact h.oth j Y a b
 own:=by rw[hf];exact h.own
 sco:=by rw[hf];exact h.sco
 sd:=h.sd
def CapS.re{ow:zq}{hid:Nat}(h:CapS E L0 n0 a0 sc0 t hs ow L n m hid)(hf:∀j,x3 L2 j=x3 L j)(hm:∀j,j<n0->¬E.W j->m2.testBit j=m.testBit j):CapS E L0 n0 a0 sc0 t hs ow L2 n m2 hid where
 M:=h.M.re hf
 n4:=h.n4
 r0:=by rw[hf];exact h.r0
 r1:=by rw[hf];exact h.r1
 r2:=by rw[hf];exact h.r2
 r3:=by rw[hf];exact h.r3
 hr:=h.hr.ext (zS _) (zS _) λj _ _=>hf j
 le:=h.le
 nd:=h.nd
 ds:=h.ds
 lt:=h.lt
 fr:=λj hj hW=>by rw[hf,hm j hj hW];exact h.fr j hj hW
def CapS.perm{ow:zq}{hid:Nat}(h:CapS E L0 n0 a0 sc0 t hs ow L n m hid)(hp:ow.Perm ow2)(hm:∀j,j<n0->¬E.W j->m2.testBit j=m.testBit j):CapS E L0 n0 a0 sc0 t hs ow2 ((E.oid,some (.umap (uS ow2)))::L) n m2 hid:=by
 have n4:=h.n4;have ho:E.oid<n0:=h.lt _ (.inl (.inl h.M.oidW))
 exact{
  M:=h.M.turn (WfA.same h.M.wf J) (x8 _ _ _) λj hj hne hW=>by rw[x5,x0 hne]
  n4:=n4
  r0:=by rw[gN J];exact h.r0
  r1:=by rw[gN J];exact h.r1
  r2:=by rw[gN J];exact h.r2
  r3:=by rw[gN J,<-hp.length_eq];exact h.r3
  hr:=h.hr.ext (zS _) (zS _) λj h1 h2=>by rw[gN J]
  le:=by rw[<-hp.length_eq];exact h.le
  nd:=hp.nodup_iff.1 h.nd
  ds:=h.ds
  lt:=h.lt
  fr:=λj hj hW=>by
   have hne:j≠E.oid:=λe=>hW (by rw[e];exact .inl h.M.oidW)
   rw[hm j hj hW,x5,x0 hne];exact h.fr j hj hW}
def CapS.itr{ow:zq}{hid it:Nat}(h:CapS E L0 n0 a0 sc0 t hs ow L n m hid)(hw:WfA L2 n2)(hn:n<=n2)(hit:n0+1+1+1+1<=it)(hh:hs≠[]->hid≠it)(hf:∀j,j<n->j≠it->x3 L2 j=x3 L j)(hm:∀j,j<n0->¬E.W j->m2.testBit j=m.testBit j):CapS E L0 n0 a0 sc0 t hs ow L2 n2 m2 hid:=by
 have n4:=h.n4;have ho:E.oid<n0:=h.lt _ (.inl (.inl h.M.oidW))
 exact{
  M:=h.M.turn hw (by rw[hf E.oid J J];exact h.M.own) λj hj hne hW=>hf j hj (by have:=h.lt j hW;omega)
  n4:=J
  r0:=by rw[hf n0 J J];exact h.r0
  r1:=by rw[hf (n0+1) J J];exact h.r1
  r2:=by rw[hf (n0+1+1) J J];exact h.r2
  r3:=by rw[hf (n0+1+1+1) J J];exact h.r3
  hr:=λhne=>by
   obtain⟨h1,h2,h3⟩:=h.hr hne;exact⟨h1,J,by rw[hf hid h2 (hh hne)];exact h3⟩
  le:=h.le
  nd:=h.nd
  ds:=h.ds
  lt:=h.lt
  fr:=λj hj hW=>by
   rw[hf j J J,hm j hj hW];exact h.fr j hj hW}
def KY(E:CapE)(k f:Int)(sc ow:zq):zq:=bif eqD k (.ofNat 2)then (if f.toNat=E.i then ow else Qq sc ow (IQ E.S f))else ow
theorem RY{sc ow:zq}(h:eqD k (.ofNat 2)=false):KY E k f sc ow=ow:=by unfold KY;rw[h];rfl
def Ff{j:Nat}{sc ow:zq}(h:eqD k (.ofNat 2)=true)(hj:j=E.i):KY E k (.ofNat j) sc ow=ow:=by
 unfold KY;rw[h,x6];exact wc hj
def Fd{j:Nat}{sc ow:zq}(h:eqD k (.ofNat 2)=true)(hj:j≠E.i):KY E k (.ofNat j) sc ow=Qq sc ow (E.S.getD j []):=by
 unfold KY;rw[h,x6];exact x0 hj
section
variable {O:Orc}{E:CapE}{L0:za}{n0 a0:Nat}{sc0 hs ow:zq}{t:Trm}
attribute [local go_sem] wW ce in
def Fa(h72:O 81=none){C:Cx}(hC:CO C O)(hf:eqD t.kind (.ofNat 2)=true->∃j,t.fn=.ofNat j/\j<List.length E.ids)(hN:List.length E.ids<1000000000){fr:Fr}(hI:Yf E L0 n0 a0 sc0 t hs ow fr s):Tri C RX fr s (wJ (Yf E L0 n0 a0 sc0 t hs (KY E t.kind t.fn (sc0++hs) ow)) λ_ _ _=>False):=by
 obtain⟨T,L,n,m,hid,rfl,rfl,hT,hS⟩:=hI;obtain⟨k,v,op,num,f,az,ks⟩:=t;simp only[Trm.kind,Trm.fn]at hf;show Tri C RX _ _ (wJ (Yf E L0 n0 a0 sc0 (.mk k v op num f az ks) hs (KY E k f (sc0++hs) ow)) λ_ _ _=>False);have r0:=hS.r0;simp only[uy,wl]at r0;have t4:=hT.t4;have t1:=hT.t1;have hwf:=hS.M.wf;have n4:=hS.n4;unfold RX kg f45 cF;simp only;refine ql (hC.ev ?_);cases hk:eqD k (.ofNat 2)with
 |false=>
  rw[RY hk];refine xX ?_;apply hC.ev;refine xX ?_;exact⟨_,L,n,m,hid,rfl,rfl,by (repeat refine CapT.cons ?_ J);exact hT,hS⟩
 | true=>
  obtain⟨j,rfl,hj⟩:=hf hk;refine xX ?_;refine Rh (b:=true) V ?_;simp only[x6];have hjid:E.ids[j]? =some E.ids[j]:=yU hj;generalize hid0:E.ids[j]=Y at hjid;have hidW:E.W Y:=.inl (xJ hjid);have hidn:Y<n0:=hS.lt _ (.inl hidW);have hrow:=hS.M.row;have hcut:wE 1 (wX j (E.ids.map Z.map))=some [.map Y]:=by
   have:(E.ids.map Z.map).drop j=.map Y::(E.ids.map Z.map).drop (j+1):=by
    rw[zuo (by simpa using hj)]
    simp[hid0]
   rw[qe,this];rfl
  have hfid:E.fid≠Y:=λe=>by
   have h1:=hS.M.row;rw[e]at h1;by_cases hji:j=E.i
   .have h2:=hS.M.own;rw[show E.oid=Y from by have:=hS.M.oid;rw[<-hji,hjid]at this;cases this;rfl,h1]at h2;cases h2
   .rw[hS.M.oth j Y hjid hji]at h1;cases h1
  by_cases hji:j=E.i
  .rw [Ff hk hji];have hoid:E.oid=Y:=by have:=hS.M.oid;rw[<-hji,hjid]at this;cases this;rfl
   clear hji;have hoth:=hS.M.own;rw[hoid]at hoth;have hsid:Y≠E.sid:=λe=>hS.M.sd (e▸xJ hjid);have hS0:=hS;refine ql (Ue hC.ok (Y:=Y) (es:=uS ow) (by rw[wM];exact hoth) λxs clk hx=>?_)
   have hX:=XsOk.of hx;rw[kJ];have hrm:=λm'=> @zyz ((Y,some (.map xs clk))::L) n m' Y clk false xs (x8 _ _ _);refine hC.ev (xX ?_);refine qx (U6 (λx:zr=>(u9 x xs).length) (λx f t=>∃T L n2 m,f=⟨tmL T,[]⟩/\t=KL L n2 m false/\CapT E n0 hid hs T/\G T 42 (.ptr n 0)/\x3 L n=some (.miter (some Y) clk x clk)/\x3 L Y=some (.map xs clk)/\n<n2/\CapS E L0 n0 a0 sc0 (.mk k v op num (.ofNat j) az ks) hs ow ((Y,some (.umap (uS ow)))::L) n2 m hid) (λx f t hI=>?_) [] ⟨_,_,n+1,_,rfl,rfl,?_,V,x8 _ _ _,by rw[gN J,x8],J,?_⟩)
   .obtain⟨T,L,n2,m,rfl,rfl,hT,t42,gi,gm,hn2,hS⟩:=hI;refine ql (Ri hC.ok (it:=n) (m:=Y) (since:=clk) (last:=clk) (clk:=clk) (seen:=x) (es:=xs) t42 (by rw[wM];exact gi) (by rw[wM];exact gm) hX.old (zS _) (λh0=>?_) λp hp=>?_)
    .have hid1:=hT.t9;refine⟨tmL ((44,.bool false)::(43,.tup [.bool false])::T),KL L n2 m false,by rw[hC.e,hC.o];simp (disch:=first|exact dis|fail)only[go_sem,seval,-rO,-rN, *],?_⟩
     show Tri C _ _ _ _;refine Ud hC.ok (es:=uS ow) (Y:=Y) (by rw[wM];exact gm) hx ?_
     rw[kJ];refine hC.ev (xX ?_);refine⟨_,_,n2,_,hid,rfl,rfl,by (repeat refine CapT.cons ?_ J);exact hT,hS.re (λ_=>rfl) λi h1 h2=>?_⟩
     have e1:i≠Y:=λe=>h2 (by rw[e];exact hidW)
     rw[vm e1]
    .obtain⟨hp1,hp2⟩:=jF.1 hp;obtain⟨y,hx1,hx2,hx3⟩:=hX.key p hp1;obtain⟨q,hq1,hq2⟩:=ei (x:=y) 0 (λq hq=>let ⟨n,h1,h2,_⟩:=hX.key q hq;⟨n,h1,h2⟩) ⟨p,hp1,hx1⟩
     have t9:=hT.t9;have hgi:x3 ((n,some (.miter (some Y) clk (x++[p.2.2]) clk))::L) Y=some (.map xs clk):=by rw[gN J];exact gm
     have hen:=λm'=>Ro (s:=KL ((n,some (.miter (some Y) clk (x++[p.2.2]) clk))::L) n2 m' false) (it:=n) (by rw[wM,x8]) (Pf x p.2.2) (by rw[wM];exact hgi) rfl (Gu hX.st hp1)
     simp only[hx1,hx2]at hen;have hlt:=VQ hp;have hwf:=hS.M.wf;have hov:∀j,j≠Y->x3 ((Y,some (.umap (uS ow)))::L) j=x3 L j:=λj hj=>by rw[x5,x0 hj]
     have hge:∀j,n0<=j->j≠Y:=λj h=>J;have g1:=hS.r1;have g2:=hS.r2;have gs:=hS.M.sco;rw[hov _ (hge _ J)]at g1 g2;rw[hov _ (Ne.symm hsid)]at gs;rw[hoid]at g2;have l1:=hS.lt E.sid (.inl (.inr rfl));have l3:=hS.n4;have hwL:WfA L n2:=λj hj=>by rw[<-hov j J];exact hwf j hj
     refine⟨tmL ((44,.bool true)::(43,.tup [.bool true,p.1,p.2.1])::T),KL ((n,some (.miter (some Y) clk (x++[p.2.2]) clk))::L) n2 (kr m n) false,by rw[hC.e,hC.o,kJ];simp (disch:=first|exact dis|fail)only[go_sem,seval,-rO,-rN],?_⟩
     show Tri C _ _ _ _;generalize p.1=pk at *;generalize p.2.1=pv at *;generalize p.2.2=pb at *;subst hx1;subst hx2;have hS1:CapS E L0 n0 a0 sc0 (.mk k v op num (.ofNat j) az ks) hs ow ((Y,some (.umap (uS ow)))::(n,some (.miter (some Y) clk (x++[pb]) clk))::L) n2 (kr m n) hid:=by
      refine hS.itr (it:=n) ?_ (zS _) J (λhne=>?_) (λi h1 h2=>?_) λi h1 h2=>?_
      .exact WfA.same (WfA.same hwL J) J
      .have:=(hS0.hr hne).2.1;omega
      .rw[x5,x5,x5,x0 h2]
      .rw[qC,qb J,zup]
     clear hS hoth hcut hrow hx hX hp hp1 gi hS0;apply hC.ev;refine xY ?_;apply x4;refine xY ?_;refine wi ?_;refine xZ (zzP h72 (sc:=sc0++hs) (x:=y) (sid:=E.sid) (oid:=Y) (clk:=clk) (xs:=xs) (p:=q) ?_ ?_ ?_ ?_ ?_ hq1 hq2 _ _) λv t hv=>?_
     .exact WfA.same hwL J
     ·(repeat (rw[gN J]));exact g1
     ·(repeat (rw[gN J]));exact g2
     ·(repeat (rw[gN J]));exact gs
     .exact hgi
     obtain⟨L2,n3,m2,rfl,hw2,hn3,q3⟩:=hv;refine xX ?_;refine⟨x++[pb],⟨_,L2,n3,m2,rfl,rfl,?_,V,?_,?_,J,?_⟩,hlt⟩
     ·(repeat refine CapT.cons ?_ J);exact hT
     .rw[(q3 n hn2).1,x8]
     .rw[(q3 Y J).1];exact hgi
     .refine hS1.oth (WfA.same hw2 J) hn3 λi h1=>?_;have:=q3 i h1;rw[x5,x5,this.1];exact⟨rfl,this.2⟩
   ·(repeat refine CapT.cons ?_ J);exact hT
   .refine hS0.itr (it:=n) ?_ J J (λhne=>?_) (λi h1 h2=>?_) λi h1 h2=>?_
    .exact WfA.same (WfA.same (WfA.same (hwf.up J) J) J) J
    .have:=(hS0.hr hne).2.1;omega
    .rw[x5];split
     .rename_i e;rw[e];exact hoth.symm
     .rename_i e;rw[x5,x0 h2,x5,x0 e]
    .have e1:i≠Y:=λe=>h2 (by rw[e];exact hidW)
     repeat rw[vm J]
  .rw [Fd hk hji];have hoth:=hS.M.oth j Y hjid hji;have hne:=hS.M.one hjid hji;have hsid:Y≠E.sid:=λe=>hS.M.sd (e▸xJ hjid);generalize E.S.getD j []=l at *;have hS0:=hS;refine ql (Ue hC.ok (Y:=Y) (es:=uS l) (by rw[wM];exact hoth) λxs clk hx=>?_)
   have hX:=XsOk.of hx;rw[kJ];have hrm:=λm'=> @zyz ((Y,some (.map xs clk))::L) n m' Y clk false xs (x8 _ _ _);refine hC.ev (xX ?_);refine qx (U6 (λx:zr×zq=>(u9 x.1 xs).length) (λx f t=>∃T L n2 m,f=⟨tmL T,[]⟩/\t=KL L n2 m false/\CapT E n0 hid hs T/\G T 42 (.ptr n 0)/\x3 L n=some (.miter (some Y) clk x.1 clk)/\x3 L Y=some (.map xs clk)/\n<n2/\CapS E L0 n0 a0 sc0 (.mk k v op num (.ofNat j) az ks) hs x.2 ((Y,some (.umap (uS l)))::L) n2 m hid/\RgI (sc0++hs) ow l x.2 xs x.1) (λx f t hI=>?_) ([],ow) ⟨_,_,n+1,_,rfl,rfl,?_,V,x8 _ _ _,by rw[gN J,x8],J,?_,RgI.start hX hS.nd⟩)
   .obtain⟨seen,ow2⟩:=x;obtain⟨T,L,n2,m,rfl,rfl,hT,t42,gi,gm,hn2,hS,hR⟩:=hI;simp only at gi hS hR|-;refine ql (Ri hC.ok (it:=n) (m:=Y) (since:=clk) (last:=clk) (clk:=clk) (seen:=seen) (es:=xs) t42 (by rw[wM];exact gi) (by rw[wM];exact gm) hX.old (zS _) (λh0=>?_) λp hp=>?_)
    .have hid1:=hT.t9;refine⟨tmL ((44,.bool false)::(43,.tup [.bool false])::T),KL L n2 m false,by rw[hC.e,hC.o];simp (disch:=first|exact dis|fail)only[go_sem,seval,-rO,-rN, *],?_⟩
     show Tri C _ _ _ _;refine Ud hC.ok (es:=uS l) (Y:=Y) (by rw[wM];exact gm) hx ?_
     rw[kJ];have hperm:=hR.fin h0 hS0.nd;refine H9 hC.ok (Y:=E.oid) (es:=uS ow2) (es2:=uS (Qq (sc0++hs) ow l)) (by rw[wM];exact hS.M.own) (hperm.map _) ?_
     rw[kJ];refine hC.ev (xX ?_);refine⟨_,_,n2,_,hid,rfl,rfl,by (repeat refine CapT.cons ?_ J);exact hT,hS.perm hperm λi h1 h2=>?_⟩
     have e1:i≠Y:=λe=>h2 (by rw[e];exact hidW)
     have e2:i≠E.oid:=λe=>h2 (by rw[e];exact .inl hS.M.oidW)
     rw[vm e2,vm e1]
    .obtain⟨hp1,hp2⟩:=jF.1 hp;obtain⟨x,hx1,hx2,hx3⟩:=hX.key p hp1;have t9:=hT.t9;have hgi:x3 ((n,some (.miter (some Y) clk (seen++[p.2.2]) clk))::L) Y=some (.map xs clk):=by rw[gN J];exact gm
     have hen:=λm'=>Ro (s:=KL ((n,some (.miter (some Y) clk (seen++[p.2.2]) clk))::L) n2 m' false) (it:=n) (by rw[wM,x8]) (Pf seen p.2.2) (by rw[wM];exact hgi) rfl (Gu hX.st hp1)
     simp only[hx1,hx2]at hen;have hlt:=VQ hp;have hstep:=hR.step hX hp hx1;have hwf:=hS.M.wf;have hov:∀j,j≠Y->x3 ((Y,some (.umap (uS l)))::L) j=x3 L j:=λj hj=>by rw[x5,x0 hj]
     have hge:∀j,n0<=j->j≠Y:=λj h=>J;have g1:=hS.r1;have g2:=hS.r2;have g3:=hS.r3;have gs:=hS.M.sco;have go:=hS.M.own;rw[hov _ (hge _ J)]at g1 g2 g3;rw[hov _ (Ne.symm hsid)]at gs;rw[hov _ (Ne.symm hne)]at go;have l1:=hS.lt E.sid (.inl (.inr rfl));have l2:=hS.lt E.oid (.inl (.inl hS.M.oidW));have l3:=hS.n4;have hwL:WfA L n2:=λj hj=>by rw[<-hov j J];exact hwf j hj
     refine⟨tmL ((44,.bool true)::(43,.tup [.bool true,p.1,p.2.1])::T),KL ((n,some (.miter (some Y) clk (seen++[p.2.2]) clk))::L) n2 (kr m n) false,by rw[hC.e,hC.o,kJ];simp (disch:=first|exact dis|fail)only[go_sem,seval,-rO,-rN],?_⟩
     show Tri C _ _ _ _;generalize p.1=pk at *;generalize p.2.1=pv at *;generalize p.2.2=pb at *;subst hx1;subst hx2;have hS1:CapS E L0 n0 a0 sc0 (.mk k v op num (.ofNat j) az ks) hs ow2 ((Y,some (.umap (uS l)))::(n,some (.miter (some Y) clk (seen++[pb]) clk))::L) n2 (kr m n) hid:=by
      refine hS.itr (it:=n) ?_ (zS _) J (λhne=>?_) (λi h1 h2=>?_) λi h1 h2=>?_
      .exact WfA.same (WfA.same hwL J) J
      .have:=(hS0.hr hne).2.1;omega
      .rw[x5,x5,x5,x0 h2]
      .rw[qC,qb J,zup]
     clear hS hoth hcut hrow hx hX hR hp hp1 gi hS0;apply hC.ev;refine xY ?_;apply x4;refine xY ?_;refine wi ?_;refine xZ (Rl h72 (sc:=sc0++hs) (ow:=ow2) (g:=decide (zM ow2≠a0)) (x:=x) (sid:=E.sid) (oid:=E.oid) ?_ ?_ ?_ ?_ ?_ ?_ _ _) λv t hv=>?_
     .exact WfA.same hwL J
     ·(repeat (rw[gN J]));exact g1
     ·(repeat (rw[gN J]));exact g2
     ·(repeat (rw[gN J]));exact g3
     ·(repeat (rw[gN J]));exact gs
     ·(repeat (rw[gN J]));exact go
     obtain⟨L2,n3,m2,rfl,hw2,hn3,q1,q2,q3⟩:=hv;refine xX ?_;refine⟨(seen++[pb],lD (sc0++hs) ow2 x),⟨_,L2,n3,m2,rfl,rfl,?_,V,?_,?_,J,?_,hstep⟩,hlt⟩
     ·(repeat refine CapT.cons ?_ J);exact hT
     .rw[(q3 n hn2 J J).1,x8]
     .rw[(q3 Y J hne J).1];exact hgi
     .refine hS1.use (WfA.same hw2 J) hn3 (by rw[x5,x0 (Ne.symm hne)];exact q1) (by rw[gN J];exact q2) λi h1 h2 h3=>?_
      have:=q3 i h1 h2 h3;rw[x5,x5,this.1];exact⟨rfl,this.2⟩
   ·(repeat refine CapT.cons ?_ J);exact hT
   .refine hS0.itr (it:=n) ?_ J J (λhne=>?_) (λi h1 h2=>?_) λi h1 h2=>?_
    .exact WfA.same (WfA.same (WfA.same (hwf.up J) J) J) J
    .have:=(hS0.hr hne).2.1;omega
    .rw[x5];split
     .rename_i e;rw[e];exact hoth.symm
     .rename_i e;rw[x5,x0 h2,x5,x0 e]
    .have e1:i≠Y:=λe=>h2 (by rw[e];exact hidW)
     repeat rw[vm J]
end
def jI(t:Trm):zt:=[q8 t]
def Yv:∀x y,jI x=jI y->x=y:=λ_ _ h=>LL (by simpa [jI]using h)
def Wy(t:Trm):wkL (jI t)=jI t:=by simp only[jI,wkL,dS]
def Xt(t:Trm):wo (jI t)=true:=by simp only[jI,q8,ww,uC,p9,wA,xO]
def Yz:zt->U->zb:=vw jI (λ_=>True) (λt=>.bool (vG t.kind))
attribute [local go_sem] jI q8 wl in
def E4(B:Bx P X)(hO:OrcOk P X O)(t:Trm):∃s1,SC P X 80 (jI t) (s00 0 true) (.bool (vG t.kind)) s1:=by
 refine be B hO f80 ?_;obtain⟨k,v,op,num,f,az,ks⟩:=t;unfold f80 cF;simp only[vG,Trm.kind];refine xY ?_;cases h1:eqD k (.ofNat 1)with
 |true=>
  refine xY ?_;refine jr (r:=.ret) ?_;show Cv _ _;refine qz ?_;exact qj _ _
 |false=>
  refine xY ?_;refine jr (r:=.ret) ?_;show Cv _ _;refine qz ?_;exact qj _ _
def cH(B:Bx P X)(hO:OrcOk P X O):vA P X 80 Yz:=
 XY true Xt (λ_=>rfl) λt _=>E4 B hO t
def zyM{α:Type}{t bytes:Nat}{f:α->zt}(hl:∀x,(f x).length=esz)(hs:∀x,wO (f x)=true)(he:1<=esz){Y:Nat}{vs:List α}{w:α}{y:Z}(hr:GAt t f L lo n Y vs)(hw:WfA L n)(hlo:lo<=n)(h1:j6 y=some 1)(h2:qu (KL L n m false) esz 1 y=some (f w))(hb:2*(zM vs+1)*bytes<=281474976710656)(hn:zM vs+1<1000000000000):
  Cv (uE (KL L n m false) t esz bytes (gSl esz Y (zM vs)) y) λv s=>∃id' L' n' m',v=gSl esz id' (vs++[w]).length/\s=KL L' n' m' false/\GAt t f L' lo n' id' (vs++[w])/\WfA L' n'/\n<=n'/\(∀j,j<n->(vs≠[]->j≠Y)->x3 L' j=x3 L j/\m'.testBit j=m.testBit j):=by
 have hfl:xW f [w]=f w:=vh w;cases vs with
 |nil=>
  refine⟨_,_,Lh (q:=0) h1 h2 (.inl rfl) he (by simp only[xN,y8]at hb;exact hb) J,n,_,_,_,rfl,rfl,λ_=>⟨hlo,yx _,by rw[x5,wc rfl,zuc,hfl]⟩,λj hj=>?_,zuC _,λj hj _=>⟨by rw[gN J],rfl⟩⟩
  rw[gN J];exact hw j J
 | cons u us=>
  obtain⟨hlo2,hid,g1⟩:=hr (by simp)
  simp only[yw]at hb hn;have hsw:wO (f w)=true:=hs w;refine⟨_,_,KO (q:=0) (by rw[wM];exact g1) (by rw[qK hl];rfl) h1 h2 hsw he hb J,n,_,_,_,?_,rfl,λ_=>⟨hlo,yx _,by rw[x5,wc rfl,wQ,hfl]⟩,λj hj=>?_,zuC _,λj hj hne=>⟨by rw[gN J,x5,x0 (hne (by simp))],?_⟩⟩
  .simp only[yd,yw,yO,gSl]
   congr 1
  .rw[gN J,x5];split
   .rfl
   .exact hw j J
  .rw[qC,qb (hne (by simp)),zup]
def Fb:ICode:=match cQ with
 |.seq a _=>a
 |_=>.skip
def cR:ICode:=match cQ with
 |.seq _ (.seq a _)=>a
 |_=>.skip
def cU:ICode:=match cQ with
 |.seq _ (.seq _ a)=>a
 |_=>.skip
def hsB(k v:Int)(sc0 hs:zq):zq:=bif vG k then (if v∈sc0++hs then hs else hs++[v])else hs
def zxy(k v:Int)(sc0 hs:zq):sc0++hsB k v sc0 hs=scB k v (sc0++hs):=by
 unfold hsB scB WV;cases vG k with
 |false=>rfl
 |true=>
  simp only[x6];split
  .rfl
  .rw[zux]
def Tu(k v:Int)(sc0 hs:zq):(hsB k v sc0 hs).length<=hs.length+1:=by
 unfold hsB;cases vG k with
 |false=>simp only[wh];omega
 |true=>
  simp only[x6];split
  .omega
  .simp
def CapT.new{hid hid2:Nat}{hs2:zq}{T:List (Nat×Z)}(h:CapT E n0 hid hs T):CapT E n0 hid2 hs2 ((10,gSl 1 hid2 hs2.length)::T):=by
 have e:∀i,i≠10->(tmL ((10,gSl 1 hid2 hs2.length)::T)).get i=(tmL T).get i:=λi hi=>by rw[<-Km,Trie.get_set_ne _ _ hi]
 obtain⟨t1,t4,t6,t7,t8,t9,t10⟩:=h;exact⟨(e _ J).trans t1,(e _ J).trans t4,(e _ J).trans t6,(e _ J).trans t7,(e _ J).trans t8,(e _ J).trans t9,by show (tmL _).get _=_;rw[<-Km,Trie.get_set_same]⟩
def CapS.bind{ow:zq}{hid:Nat}(h:CapS E L0 n0 a0 sc0 t hs ow L n m hid)(hv:v∉sc0){hid2:Nat}(hw:WfA L2 n2)(hn:n<=n2)(hsc:x3 L2 E.sid=some (.umap (uS (sc0++(hs++[v])))))(hg:GAt 3 wg L2 (n0+1+1+1+1) n2 hid2 (hs++[v]))(hf:∀j,j<n->j≠E.sid->(hs≠[]->j≠hid)->x3 L2 j=x3 L j/\m2.testBit j=m.testBit j):CapS E L0 n0 a0 sc0 t (hs++[v]) ow L2 n2 m2 hid2:=by
 have n4:=h.n4;have hh:∀j,j<n0+1+1+1+1->(hs≠[]->j≠hid):=λj hj hne=>by have:=(h.hr hne).1;omega
 have hl:∀j,E.W j\/j=E.fid->j<n0:=h.lt;have hsid:=hl E.sid (.inl (.inr rfl));have hne:∀j,j∈E.ids->j≠E.sid:=λj hj e=>h.M.sd (e▸hj);have hfid:E.fid≠E.sid:=λe=>by have h1:=h.M.row;rw[e,h.M.sco]at h1;cases h1
 exact{
  M :={
   wf:=hw
   len:=h.M.len
   nd:=h.M.nd
   hi:=h.M.hi
   row:=by have:=hl E.fid (.inr rfl);rw[(hf E.fid J hfid (hh _ J)).1];exact h.M.row
   oth:=λj Y hj hji=>by
    have hm:=xJ hj;have:=hl Y (.inl (.inl hm));rw[(hf Y J (hne Y hm) (hh _ J)).1];exact h.M.oth j Y hj hji
   own:=by have:=hl E.oid (.inl (.inl h.M.oidW));rw[(hf E.oid J (hne _ h.M.oidW) (hh _ J)).1];exact h.M.own
   sco:=hsc
   sd:=h.M.sd}
  n4:=J
  r0:=by rw[(hf n0 J J (hh _ J)).1];exact h.r0
  r1:=by rw[(hf (n0+1) J J (hh _ J)).1];exact h.r1
  r2:=by rw[(hf (n0+1+1) J J (hh _ J)).1];exact h.r2
  r3:=by rw[(hf (n0+1+1+1) J J (hh _ J)).1];exact h.r3
  hr:=hg
  le:=h.le
  nd:=h.nd
  ds:=λw hw=>by
   rcases List.mem_append.1 hw with hw|hw
   .exact h.ds w hw
   .simp only[yq]at hw;rw[hw];exact hv
  lt:=h.lt
  fr:=λj hj hW=>by
   have:=hf j J (λe=>hW (.inr e)) (hh _ J);rw[this.1,this.2];exact h.fr j hj hW}
section
variable {O:Orc}{E:CapE}{L0:za}{n0 a0:Nat}{sc0 hs ow:zq}{t:Trm}
attribute [local go_sem] lm Qe ZD ZB l7 VW wW ce in
def Fc(h71:O 80=some Yz)(hl:hs.length<1000000000){fr:Fr}(hI:Yf E L0 n0 a0 sc0 t hs ow fr s):Ev (evC env (evW env O) none Fb fr s) (wJ (Yf E L0 n0 a0 sc0 t (hsB t.kind t.var sc0 hs) ow) λ_ _ _=>False):=by
 obtain⟨T,L,n,m,hid,rfl,rfl,hT,hS⟩:=hI;have hb:=λs=>oc h71 Yv t trivial (Wy t) s;obtain⟨k,v,op,num,f,az,ks⟩:=t;simp only[jI,q8,wl,Trm.kind,Trm.var]at hb|-;have r0:=hS.r0;have r1:=hS.r1;have gs:=hS.M.sco;simp only[uy,wl]at r0;have t4:=hT.t4;have t6:=hT.t6;have t10:=hT.t10;have hwf:=hS.M.wf;have n4:=hS.n4;have l1:E.sid<n0:=hS.lt E.sid (.inl (.inr rfl));unfold hsB;generalize vG k=bk at *;unfold Fb cQ kg f45 cF;simp only;by_cases hv:v∈sc0++hs
 .have hk:=Zj hv;have e1:(bif bk then (if v∈sc0++hs then hs else hs++[v])else hs)=hs:=by cases bk<;>simp[hv]
  rw[e1];clear e1 hv;have hS1:CapS E L0 n0 a0 sc0 (.mk k v op num f az ks) hs ow ((n,some (.row 69 []))::(n,some (.row 69 []))::L) (n+1) (m|||1<<<n) hid:=by
   refine hS.oth (WfA.same (WfA.same (hwf.up J) J) J) J λj hj=>⟨?_,?_⟩
   ·(repeat (rw[gN J]))
   .rw[vm J]
  refine xY ?_;cases bk with
  |true=>
   refine xY ?_;refine xX ?_;exact⟨_,_,_,_,hid,rfl,rfl,by (repeat refine CapT.cons ?_ J);exact hT,hS1⟩
  |false=>
   refine xY ?_;refine xX ?_;exact⟨_,_,_,_,hid,rfl,rfl,by (repeat refine CapT.cons ?_ J);exact hT,hS1⟩
 .have hk:=lx hv;have hst:=Z8 hv;have hv0:v∉sc0:=λh=>hv (by simp[h])
  have hS1:CapS E L0 n0 a0 sc0 (.mk k v op num f az ks) hs ow ((n,some (.row 69 []))::(n,some (.row 69 []))::L) (n+1) (m|||1<<<n) hid:=by
   refine hS.oth (WfA.same (WfA.same (hwf.up J) J) J) J λj hj=>⟨?_,?_⟩
   ·(repeat (rw[gN J]))
   .rw[vm J]
  refine xY ?_;cases bk with
  |false=>
   simp only[wh];refine xY ?_;refine xX ?_;exact⟨_,_,_,_,hid,rfl,rfl,by (repeat refine CapT.cons ?_ J);exact hT,hS1⟩
  | true=>
   simp only[x6];rw[x0 hv];clear hv;refine xY ?_;refine wV sW ?_;refine xY ?_;refine wi ?_;refine xZ (zyM qm vq J (vs:=hs) (w:=v) (lo:=n0+1+1+1+1) (Y:=hid) (hS.hr.ext (zS _) (Nat.le_succ_of_le (Nat.le_succ_of_le (zS _))) λj h1 h2=>?_) ?_ J rfl (j7 (j:=0) (by rw[wM,x8];rfl) rfl).2 J J) λv t hv=>?_
   ·(repeat (rw[gN J]))
   ·(repeat first|exact hwf.up J|refine WfA.same ?_ J)
   obtain⟨hid2,L2,n2,m2,rfl,rfl,q1,q2,q3,q4⟩:=hv;refine xX ?_;refine⟨_,L2,n2,m2,hid2,rfl,rfl,?_,hS.bind hv0 q2 J ?_ q1 λj h1 h2 h3=>?_⟩
   .refine CapT.new (hs:=hs) (hid:=hid) ?_
    (repeat refine CapT.cons ?_ J);exact hT
   .rw[(q4 E.sid J λhne=>by have:=(hS.hr hne).1;omega).1]
    (repeat (rw[gN J]))
    rw[x8,zux]
   .have:=q4 j J h3;rw[this.1,this.2];exact⟨by (repeat (rw[gN J])),by (repeat rw[vm J])⟩
end
structure CapX where
 E:CapE
 t:Trm
 sc:zq
def CapE.ow(E:CapE):zq:=E.S.getD E.i []
structure CapPre(M:Nat)(x:CapX)(args:zt)(s:U):Prop where
 args:args=[.agg (qq x.t),.sl x.E.fid 0 (zM x.E.ids) x.E.c,.map x.E.sid,.map x.E.oid]
 len:zM x.E.S=zM x.E.ids
 nd:x.E.ids.Nodup
 hi:x.E.i<zM x.E.ids
 sd:x.E.sid∉x.E.ids
 row:s.get x.E.fid=some (.row 63 (x.E.ids.map .map) x.E.xx x.E.ff)
 maps:∀j Y,x.E.ids[j]? =some Y->s.get Y=some (.umap (uS (x.E.S.getD j [])))
 sco:s.get x.E.sid=some (.umap (uS x.sc))
 lt:∀j,x.E.W j\/j=x.E.fid->j<s.next
 ok:Q8 (zM x.E.ids) x.t
 sz:wN x.t<=M
 ond:x.E.ow.Nodup
 N:zM x.E.ids<1000000000
def CapX.own(x:CapX):zq:=je x.E.S x.E.i x.t x.sc x.E.ow
def Q1:zr->zc->List (Nat×AObj)
 |Y::ids,l::S=>(Y,.umap (uS l))::Q1 ids S
 |_,_=>[]
def CapX.objs(x:CapX):List (Nat×AObj):=(x.E.sid,.umap (uS x.sc))::Q1 x.E.ids (x.E.S.set x.E.i x.own)
def rU{m:zq}(h:uS l=uS m):l=m:=by
 have:=congrArg (List.map (·.1)) h
 rwa [bV,bV]at this
def TK{a b:zr}(h:a.map Z.map=b.map Z.map):a=b:=by
 induction a generalizing b with
 |nil=>cases b with
  |nil=>rfl
  |cons _ _=>cases h
 | cons x a ih=>cases b with
  |nil=>cases h
  |cons y b=>
   simp only[zY,qJ,Z.map.injEq]at h;rw[h.1,ih h.2]
theorem bu(h:E.i<List.length E.ids):E.ids[E.i]? =some E.oid:=by
 unfold CapE.oid;rw[xD,yU h];rfl
def CapPre.uniq{x y:CapX}{args:zt}(h:CapPre M x args s)(g:CapPre M y args s):x=y:=by
 obtain⟨⟨ids,S,i,fid,sid,c,xx,ff⟩,t,sc⟩:=x;obtain⟨⟨ids',S',i',fid',sid',c',xx',ff'⟩,t',sc'⟩:=y;have ha:=h.args.symm.trans g.args;simp only[qJ,Z.agg.injEq,Z.sl.injEq,Z.map.injEq,true_and,and_true]at ha;obtain⟨h1,⟨rfl,h2,rfl⟩,rfl,h3⟩:=ha;have hr:=h.row.symm.trans g.row;simp only[x7,AObj.row.injEq,true_and]at hr;obtain⟨hr1,rfl,rfl⟩:=hr;have hids:=TK hr1;subst hids;have hi:i=i':=by
  have e1:=bu h.hi;have e2:=bu g.hi;rw[h3]at e1;exact(zuy h.hi h.nd).1 (e1.trans e2.symm)
 subst hi;have hS:S=S':=by
  have l1:zM S=zM ids:=h.len;have l2:zM S'=zM ids:=g.len;refine List.ext_getElem? λj=>?_;by_cases hj:j<zM ids
  .have e1:=h.maps j _ (yU hj);have e2:=g.maps j _ (yU hj);have e3:=e1.symm.trans e2;simp only[x7,AObj.umap.injEq]at e3;have e4:=rU e3;rw[xD,xD,yU J,yU J]at e4;rw[yU J,yU J];exact congrArg some e4
  .rw[yF J,yF J]
 subst hS;have hsc:=h.sco.symm.trans g.sco;simp only[x7,AObj.umap.injEq]at hsc;rw[rU hsc,Ym h1]
def HL:∀{ids:zr} {S:zc},zM S=zM ids->(Q1 ids S).map (·.1)=ids
 |[],[],_=>rfl
 |Y::ids,l::S,h=>by
  simp only[Q1,zY];rw[HL (by simpa using h)]
def HM:∀{ids:zr} {S:zc} {p:Nat×AObj},p∈Q1 ids S->∃j,ids[j]? =some p.1/\j<zM S/\p.2=.umap (uS (S.getD j []))
 |[],_,p,h=>by simp[Q1]at h
 |_::_,[],p,h=>by simp[Q1]at h
 |Y::ids,l::S,p,h=>by
  simp only[Q1,zul]at h;rcases h with rfl|h
  .exact⟨0,rfl,by simp,rfl⟩
  .obtain⟨j,h1,h2,h3⟩:=HM h;exact⟨j+1,by simpa using h1,by simpa using h2,by simpa using h3⟩
section
variable {M:Nat}{x:CapX}{args:zt}{s:U}
def CapPre.fst(h:CapPre M x args s):x.objs.map (·.1)=x.E.sid::x.E.ids:=by
 simp only[CapX.objs,zY];rw[HL (by rw[zuu];exact h.len)]
def CapPre.nodup(h:CapPre M x args s):(x.objs.map (·.1)).Nodup:=by
 rw[h.fst,zur];exact⟨h.sd,h.nd⟩
def CapPre.mem(h:CapPre M x args s){p:Nat×AObj}(hp:p∈x.objs):(p.1=x.E.sid/\p.2=.umap (uS x.sc))\/∃j,x.E.ids[j]? =some p.1/\p.2=.umap (uS (if j=x.E.i then x.own else x.E.S.getD j [])):=by
 simp only[CapX.objs,zul]at hp;rcases hp with rfl|hp
 .exact .inl ⟨rfl,rfl⟩
 .obtain⟨j,h1,h2,h3⟩:=HM hp;refine .inr ⟨j,h1,?_⟩;rw[h3,xD,zuD];have hl:=h.len;rw[zuu]at h2;by_cases hj:j=x.E.i
  .subst hj;simp[h2]
  .rw[x0 (Ne.symm hj),x0 hj,<-xD]
def CapPre.get(h:CapPre M x args s){p:Nat×AObj}(hp:p∈x.objs):∃o,s.get p.1=some o/\vN o=false:=by
 rcases h.mem hp with ⟨e,_⟩|⟨j,hj,_⟩
 .rw[e];exact⟨_,h.sco,rfl⟩
 .exact⟨_,h.maps j _ hj,rfl⟩
end
open Classical in
def QG(M:Nat)(args:zt)(s:U):zb:=
 if h:∃x,CapPre M x args s then some (.bool (decide ((zuF h).own.length≠(zuF h).E.ow.length)),JY s (zuF h).objs)else none
def sM{x:CapX}{args:zt}(h:CapPre M x args s):QG M args s=some (.bool (decide (List.length x.own≠(List.length x.E.ow))),JY s x.objs):=by
 have hx:∃x,CapPre M x args s:=⟨x,h⟩;unfold QG;rw[dif_pos hx,(Classical.choose_spec hx).uniq h]
def GF{args:zt}{v:Z}(h:QG M args s=some (v,s')):∃x,CapPre M x args s/\v=.bool (decide (List.length x.own≠(List.length x.E.ow)))/\s'=JY s x.objs:=by
 by_cases hx:∃x,CapPre M x args s
 .obtain⟨x,hx⟩:=hx;rw[sM hx]at h;cases h;exact⟨x,hx,rfl,rfl⟩
 .unfold QG at h;rw[dif_neg hx]at h;cases h
def eB(args:zt)(s:U)(v:Z)(s':U)(h:QG M args s=some (v,s')):Ext s s':=by
 obtain⟨x,hx,_,rfl⟩:=GF h;exact Hc _ s hx.nodup λp hp=>hx.get hp
def JX(L:za):List (Nat×AObj)->za
 |[]=>L
 |p::r=>JX ((p.1,some p.2)::L) r
def eZ(m:Nat):List (Nat×AObj)->Nat
 |[]=>m
 |p::r=>eZ (kr m p.1) r
def Af(n:Nat)(b:Bool)(hd:zg)(on:ze):∀(W:List (Nat×AObj)) (L:za) (m:Nat),JY (KL L n m b hd on) W=KL (JX L W) n (eZ m W) b hd on
 |[],_,_=>rfl
 |p::r,L,m=>by simp only[JY,kJ];exact Af n b hd on r _ _
def u7:∀(W:List (Nat×AObj)) (L:za) (j:Nat),(W.map (·.1)).Nodup->(∀o,(j,o)∈W->x3 (JX L W) j=some o)/\((∀p∈W,p.1≠j)->x3 (JX L W) j=x3 L j)
 |[],_,_,_=>⟨by simp,λ_=>rfl⟩
 | p::r,L,j,h=>by
  simp only[zY,zur,zuH,not_exists,not_and]at h;obtain⟨h1,h2⟩:=u7 r ((p.1,some p.2)::L) j h.2;simp only[JX];refine⟨λo ho=>?_,λhn=>?_⟩
  .rcases List.mem_cons.1 ho with e|ho
   .rw[h2 λq hq e2=>h.1 q hq (by rw[e2,<-e]),<-e,x8]
   .exact h1 o ho
  .rw[h2 λq hq=>hn q (by simp[hq]),x5,x0 (λe=>hn p (by simp) e.symm)]
def Pm:∀(W:List (Nat×AObj)) (m j:Nat),(∀p∈W,p.1≠j)->(eZ m W).testBit j=m.testBit j
 |[],_,_,_=>rfl
 |p::r,m,j,h=>by
  simp only[eZ];rw[Pm r _ j λq hq=>h q (by simp[hq]),qC,qb (λe=>h p (by simp) e.symm),zup]
def IR(h:f.toNat≠i):IQ (S.set i l) f=IQ S f:=by
 unfold IQ;rw[xD,xD,zuA (Ne.symm h)]
mutual
theorem dc{S:zc}{i:Nat}{l:zq}:∀(t:Trm) (sc ow:zq),je (S.set i l) i t sc ow=je S i t sc ow
 | .mk k v op n f az ks,sc,ow=>by
  simp only[je];rw[Ln ks]
  congr 1
  unfold WU;cases eqD k (.ofNat 2)with
  |false=>rfl
  |true=>
   simp only[x6];split
   .rfl
   .rename_i h;rw[IR h]
theorem Ln{S:zc}{i:Nat}{l:zq}:∀(ks:List Trm) (sc ow:zq),uQ (S.set i l) i ks sc ow=uQ S i ks sc ow
 |[],_,_=>by simp only[uQ]
 |x::r,sc,ow=>by
  simp only[uQ];rw[Ln r,dc x]
end
def Fh(h48:O 45=some (QG M)){sc ow:zq}{y:Trm}(hM:CapM E L n sc ow)(hlt:∀j,E.W j\/j=E.fid->j<n)(hok:Q8 (zM E.ids) y)(hsz:wN y<=M)(hnd:ow.Nodup)(hN:zM E.ids<1000000000)(m:Nat)(b:Bool):
  Cv ((evW env O).call 45 [.agg (qq y),.sl E.fid 0 (zM E.ids) E.c,.map E.sid,.map E.oid] (KL L n m b)) λv t=>∃L2 m2,v=.bool (decide ((je E.S E.i y sc ow).length≠(zM ow)))/\t=KL L2 n m2 b/\x3 L2 E.oid=some (.umap (uS (je E.S E.i y sc ow)))/\(∀j,j≠E.oid->x3 L2 j=x3 L j)/\∀j,¬E.W j->m2.testBit j=m.testBit j:=by
 have hlen:=hM.len;have hhi:=hM.hi;have how:(E.S.set E.i ow).getD E.i []=ow:=by
  rw[xD,List.getElem?_set_self J];rfl
 have hp:CapPre M ⟨{E with S:=E.S.set E.i ow},y,sc⟩ [.agg (qq y),.sl E.fid 0 (zM E.ids) E.c,.map E.sid,.map E.oid] (KL L n m b):={
  args:=rfl
  len:=by show (E.S.set E.i ow).length=_;rw[zuu];exact hlen
  nd:=hM.nd
  hi:=hM.hi
  sd:=hM.sd
  row:=by rw[wM];exact hM.row
  maps:=λj Y hj=>by
   rw[wM];show x3 L Y=some (.umap (uS ((E.S.set E.i ow).getD j [])));by_cases hji:j=E.i
   .subst hji;rw[how];have h1:=hM.oid;have hj':E.ids[E.i]? =some Y:=hj;rw[h1]at hj';cases hj';exact hM.own
   .rw[xD,zuA (Ne.symm hji),<-xD];exact hM.oth j Y hj hji
  sco:=by rw[wM];exact hM.sco
  lt:=hlt
  ok:=hok
  sz:=hsz
  ond:=by show ((E.S.set E.i ow).getD E.i []).Nodup;rw[how];exact hnd
  N:=hN}
 have hown:CapX.own ⟨{E with S:=E.S.set E.i ow},y,sc⟩=je E.S E.i y sc ow:=by
  show je (E.S.set E.i ow) E.i y sc ((E.S.set E.i ow).getD E.i [])=_;rw[how,dc]
 have hcall:(evW env O).call 45 [.agg (qq y),.sl E.fid 0 (zM E.ids) E.c,.map E.sid,.map E.oid] (KL L n m b)=some (.bool (decide ((je E.S E.i y sc ow).length≠(zM ow))),KL (JX L (CapX.objs ⟨{E with S:=E.S.set E.i ow},y,sc⟩)) n (eZ m (CapX.objs ⟨{E with S:=E.S.set E.i ow},y,sc⟩)) b):=by
  rw[qc h48,sM hp,Af,hown];rw[show CapE.ow {E with S:=E.S.set E.i ow}=ow from how]
 have hfst:=hp.fst;have hnodup:=hp.nodup;have hmem:∀p∈CapX.objs ⟨{E with S:=E.S.set E.i ow},y,sc⟩,E.W p.1:=λp hpp=>by
  have:p.1∈E.sid::E.ids:=by
   have h1:p.1∈(CapX.objs ⟨{E with S:=E.S.set E.i ow},y,sc⟩).map (·.1):=List.mem_map.2 ⟨p,hpp,rfl⟩
   rw[hfst]at h1;exact h1
  rcases List.mem_cons.1 this with h|h
  .exact .inr h
  .exact .inl h
 refine⟨_,_,hcall,_,_,rfl,rfl,?_,λj hj=>?_,λj hj=>?_⟩
 .obtain⟨p,hpp,hpe⟩:∃p∈CapX.objs ⟨{E with S:=E.S.set E.i ow},y,sc⟩,p.1=E.oid:=by
   have:E.oid∈(CapX.objs ⟨{E with S:=E.S.set E.i ow},y,sc⟩).map (·.1):=by rw[hfst];exact xA _ hM.oidW
   obtain⟨p,h1,h2⟩:=List.mem_map.1 this;exact⟨p,h1,h2⟩
  rcases hp.mem hpp with ⟨e,_⟩|⟨j,hj,he⟩
  .exact absurd (e.symm.trans hpe) (λe2=>hM.sd (e2▸hM.oidW))
  .have hji:j=E.i:=by
    have h1:E.ids[j]? =some p.1:=hj;rw[hpe]at h1;exact(zuy (List.getElem?_eq_some_iff.1 h1).1 hM.nd).1 (h1.trans hM.oid.symm)
   rw[wc (show j=({E with S:=E.S.set E.i ow}:CapE).i from hji),hown]at he
   have:=(u7 _ L E.oid hnodup).1 p.2 (by rw[<-hpe];exact hpp)
   rw[this,he]
 .by_cases hW:∃p∈CapX.objs ⟨{E with S:=E.S.set E.i ow},y,sc⟩,p.1=j
  .obtain⟨p,hpp,rfl⟩:=hW;rw[(u7 _ L p.1 hnodup).1 p.2 hpp];rcases hp.mem hpp with ⟨e,he⟩|⟨i,hi,he⟩
   .rw[he,e];exact hM.sco.symm
   .have hi':E.ids[i]? =some p.1:=hi;have hne:i≠E.i:=λe=>by
     rw[e,hM.oid]at hi';exact hj (Option.some.inj hi').symm
    rw[x0 (show ¬i=({E with S:=E.S.set E.i ow}:CapE).i from hne)]at he
    rw[he];show some (AObj.umap (uS ((E.S.set E.i ow).getD i [])))=_;rw[xD,zuA (Ne.symm hne),<-xD];exact(hM.oth i p.1 hi' hne).symm
  .exact(u7 _ L j hnodup).2 λp hpp e=>hW ⟨p,hpp,e⟩
 .exact Pm _ m j λp hpp e=>hj (e▸hmem p hpp)
def CapS.grow{ow:zq}{hid:Nat}(h:CapS E L0 n0 a0 sc0 t hs ow L n m hid)(hw:WfA L2 n2)(hn:n<=n2)(h1:x3 L2 E.oid=some (.umap (uS ow2)))(hle:List.length ow<=List.length ow2)(hnd:ow2.Nodup)(h2:x3 L2 (n0+1+1+1)=some (.row 4 [.bool (decide (List.length ow2≠a0))]))(hf:∀j,j<n->j≠E.oid->j≠n0+1+1+1->x3 L2 j=x3 L j)(hm:∀j,j<n0->¬E.W j->m2.testBit j=m.testBit j):CapS E L0 n0 a0 sc0 t hs ow2 L2 n2 m2 hid:=by
 have n4:=h.n4;have ho:E.oid<n0:=h.lt _ (.inl (.inl h.M.oidW))
 exact{
  M:=h.M.turn hw h1 λj hj hne hW=>hf j hj hne (by have:=h.lt j hW;omega)
  n4:=J
  r0:=by rw[hf n0 J J J];exact h.r0
  r1:=by rw[hf (n0+1) J J J];exact h.r1
  r2:=by rw[hf (n0+1+1) J J J];exact h.r2
  r3:=h2
  hr:=h.hr.ext (zS _) hn λj h1 h2=>hf j h2 J J
  le:=zV h.le hle
  nd:=hnd
  ds:=h.ds
  lt:=h.lt
  fr:=λj hj hW=>by
   rw[hf j J (λe=>hW (e▸.inl h.M.oidW)) J,hm j hj hW];exact h.fr j hj hW}
def CapS.term{t2:Trm}{ow:zq}{hid:Nat}(h:CapS E L0 n0 a0 sc0 t hs ow L n m hid)(hw:WfA L2 n2)(hn:n<=n2)(h1:x3 L2 n0=some (uy t2))(hf:∀j,j<n->j≠n0->x3 L2 j=x3 L j)(hm:∀j,j<n0->m2.testBit j=m.testBit j):CapS E L0 n0 a0 sc0 t2 hs ow L2 n2 m2 hid:=by
 have n4:=h.n4;have ho:E.oid<n0:=h.lt _ (.inl (.inl h.M.oidW))
 exact{
  M:=h.M.turn hw (by rw[hf E.oid J J];exact h.M.own) λj hj hne hW=>hf j hj (by have:=h.lt j hW;omega)
  n4:=J
  r0:=h1
  r1:=by rw[hf (n0+1) J J];exact h.r1
  r2:=by rw[hf (n0+1+1) J J];exact h.r2
  r3:=by rw[hf (n0+1+1+1) J J];exact h.r3
  hr:=h.hr.ext (zS _) hn λj h1 h2=>hf j h2 J
  le:=h.le
  nd:=h.nd
  ds:=h.ds
  lt:=h.lt
  fr:=λj hj hW=>by
   rw[hf j J J,hm j hj];exact h.fr j hj hW}
def lU{sc:zq}:∀{az:List Atm} {ow:zq},ow.Nodup->(vH sc ow az).Nodup
 |[],_,h=>h
 |a::r,ow,h=>by
  simp only[vH];apply lU;cases eqD a.k (.ofNat 1)with
  |true=>exact YQ h
  |false=>exact h
def Sa{S:zc}{i:Nat}{k f:Int}{az:List Atm}{sc ow:zq}:zM ow<=(WU S i k f az sc ow).length/\(ow.Nodup->(WU S i k f az sc ow).Nodup):=by
 unfold WU;cases eqD k (.ofNat 2)with
 |false=>exact⟨Yj _ _ _,lU⟩
 |true=>
  simp only[x6];split
  .exact⟨Yj _ _ _,lU⟩
  .exact⟨zV (Yj _ _ _) (cZ _ _ _),λh=>Qr (lU h)⟩
mutual
theorem au{S:zc}{i:Nat}:∀(t:Trm) (sc ow:zq),zM ow<=(je S i t sc ow).length/\(ow.Nodup->(je S i t sc ow).Nodup)
 |.mk k v op n f az ks,sc,ow=>by
  simp only[je];have h1:= @Sa S i k f az sc ow;have h2:=cY (S:=S) (i:=i) ks (scB k v sc) (WU S i k f az sc ow);exact⟨zV h1.1 h2.1,λh=>h2.2 (h1.2 h)⟩
theorem cY{S:zc}{i:Nat}:∀(ks:List Trm) (sc ow:zq),zM ow<=(uQ S i ks sc ow).length/\(ow.Nodup->(uQ S i ks sc ow).Nodup)
 |[],_,_=>by simp only[uQ];exact⟨zS _,λh=>h⟩
 |x::r,sc,ow=>by
  simp only[uQ];have h1:=cY (S:=S) (i:=i) r sc ow;have h2:=au (S:=S) (i:=i) x sc (uQ S i r sc ow);exact⟨zV h1.1 h2.1,λh=>h2.2 (h1.2 h)⟩
end
section
variable {O:Orc}{E:CapE}{L0:za}{n0 a0:Nat}{sc0 hs ow:zq}{t:Trm}
attribute [local go_sem] lm Qe ZD ZB l7 VW wW ce in
def AZ(h48:O 45=some (QG M)){op num:Int}{az:List Atm}{x y:Trm}{fr:Fr}(hok:Q8 (List.length E.ids) y)(hsz:wN y<=M)(hN:List.length E.ids<1000000000)(hI:Yf E L0 n0 a0 sc0 (.mk k v op num f az [x,y]) hs ow fr s):Ev (evC env (evW env O) none cR fr s) (wJ (Yf E L0 n0 a0 sc0 (.mk k v op num f az [x,y]) hs (je E.S E.i y (sc0++hs) ow)) λ_ _ _=>False):=by
 obtain⟨T,L,n,m,hid,rfl,rfl,hT,hS⟩:=hI;have r0:=hS.r0;have r1:=hS.r1;have r2:=hS.r2;have r3:=hS.r3;have hc:wE 7 (wX 7 (wS [x,y]))=some (qq y):=by
  simp only[qV,Za,zv6];rw[qe,zuJ (wP x)];exact qg (wP y)
 simp only[uy,wl,yw,xN]at r0;have t1:=hT.t1;have t4:=hT.t4;have t6:=hT.t6;have t7:=hT.t7;have t8:=hT.t8;have hwf:=hS.M.wf;have n4:=hS.n4;have ho:E.oid<n0:=hS.lt _ (.inl (.inl hS.M.oidW));have hle:=au (S:=E.S) (i:=E.i) y (sc0++hs) ow;unfold cR cQ kg f45 cF;simp only;refine xY ?_;refine wV sW ?_;refine wi ?_;refine w7 (Fh h48 hS.M (λj hj=>by have:=hS.lt j hj;omega) hok hsz hS.nd hN 0 false) λv t hv=>?_
 obtain⟨L2,m2,rfl,rfl,q1,q2,q3⟩:=hv;have g8:x3 L2 (n0+1+1+1)=some (.row 4 [.bool (decide (zM ow≠a0))]):=by rw[q2 _ J];exact r3
 generalize hR:je E.S E.i y (sc0++hs) ow=ow2 at *;have hla:=hS.le;have hw2:WfA L2 n:=λj hj=>by rw[q2 j J];exact hwf j hj
 generalize hfl:decide (zM ow2≠(zM ow))=b1 at *;generalize hf0:decide (zM ow≠a0)=b0 at *;have hfin:∀{L3:za} {m3:Nat},x3 L3 (n0+1+1+1)=some (.row 4 [.bool (b1||b0)])->(∀j,j≠n0+1+1+1->x3 L3 j=x3 L2 j)->(∀j,j<n0->¬E.W j->m3.testBit j=m.testBit j)->CapS E L0 n0 a0 sc0 (.mk k v op num f az [x,y]) hs ow2 L3 n m3 hid:=by
  intro L3 m3 z1 z2 z3;refine hS.grow (λj hj=>by rw[z2 j J];exact hw2 j hj) (zS _) (by rw[z2 _ J];exact q1) hle.1 (hle.2 hS.nd) ?_ (λj h1 h2 h3=>by rw[z2 j h3];exact q2 j h2) z3
  rw[z1,<-hfl,<-hf0];have h1:=hle.1
  congr 3
  by_cases h2:zM ow2=zM ow
  .rw[h2];simp
  .rw[qp h2];exact congrArg _ (by rw[qp (show (zM ow2)≠a0 by omega)];rfl)
 have hm2:∀j,¬E.W j->(m|||m2).testBit j=m.testBit j:=λj hj=>by rw[xd,q3 j hj];simp
 clear hfl hf0 r3 hS hle q1 q2 q3;cases b1 with
 |true=>
  refine xX ?_;refine⟨_,_,_,_,hid,rfl,rfl,by (repeat refine CapT.cons ?_ J);exact hT,hfin (by rw[x8];rfl) (λj hj=>by rw[x5,x0 hj]) λj h1 h2=>?_⟩
  rw[vm J,hm2 j h2]
 |false=>
  refine xX ?_;refine⟨_,_,_,_,hid,rfl,rfl,by (repeat refine CapT.cons ?_ J);exact hT,hfin (by rw[x8];rfl) (λj hj=>by rw[x5,x0 hj]) λj h1 h2=>?_⟩
  rw[vm J,hm2 j h2]
section
attribute [local go_sem] wW ce
def cT{op num:Int}{az:List Atm}{ks:List Trm}{fr:Fr}(hk:List.length ks<2)(hI:Yf E L0 n0 a0 sc0 (.mk k v op num f az ks) hs ow fr s):Ev (evC env (evW env O) none cR fr s) (wJ (Yf E L0 n0 a0 sc0 (.mk k v op num f az ks) hs ow) λ_ _ _=>False):=by
 obtain⟨T,L,n,m,hid,rfl,rfl,hT,hS⟩:=hI;have r0:=hS.r0;simp only[uy,wl]at r0;have t4:=hT.t4;have hne:zM ks≠2:=J;unfold cR cQ kg f45 cF;simp only;refine xY ?_;refine xX ?_;exact⟨_,L,n,m,hid,rfl,rfl,by (repeat refine CapT.cons ?_ J);exact hT,hS⟩
def A0{op num:Int}{az:List Atm}{fr:Fr}(hI:Yf E L0 n0 a0 sc0 (.mk k v op num f az []) hs ow fr s):Ev (evC env (evW env O) none cU fr s) λr f2 t=>r=.exit 0/\Yf E L0 n0 a0 sc0 (.mk k v op num f az []) hs ow f2 t:=by
 obtain⟨T,L,n,m,hid,rfl,rfl,hT,hS⟩:=hI;have r0:=hS.r0;simp only[uy,wl,xN]at r0;have t4:=hT.t4;unfold cU cQ kg f45 cF;simp only;refine xU (xY ?_);refine xX ?_;exact⟨trivial,_,L,n,m,hid,rfl,rfl,by (repeat refine CapT.cons ?_ J);exact hT,hS⟩
def KX{op num:Int}{az:List Atm}{x:Trm}{r:List Trm}{fr:Fr}(hr:r.length<1000000000)(hI:Yf E L0 n0 a0 sc0 (.mk k v op num f az (x::r)) hs ow fr s):Ev (evC env (evW env O) none cU fr s) (wJ (Yf E L0 n0 a0 sc0 x hs ow) λ_ _ _=>False):=by
 obtain⟨T,L,n,m,hid,rfl,rfl,hT,hS⟩:=hI;have r0:=hS.r0;simp only[uy,wl,yw]at r0;have t4:=hT.t4;have hc:wE 7 (wS (x::r))=some (qq x):=by
  rw[qV];exact vO (wP x)
 have hsc:=lr x;have hln:=wP x;unfold cU cQ kg f45 cF;simp only;obtain⟨k2,v2,op2,num2,f2,as2,ks2⟩:=x;simp only[wl]at hc hsc hln;refine xU (xY ?_);refine xX ?_;refine xX ?_;have n4:=hS.n4;refine⟨_,_,n,_,hid,rfl,rfl,by (repeat refine CapT.cons ?_ J);exact hT,hS.term (WfA.same hS.M.wf J) (zS _) (by rw[x8,uy,wl]) (λj h1 h2=>by (repeat rw[x5,x0 h2])) λj h1=>?_⟩
 rw[vm J]
end
end
def kK{Ir K:Fr->U->Prop}{Q:Res->Fr->U->Prop}(h:∀f t,Ir f t->K f t):∀r f t,wJ Ir (λ_ _ _=>False) r f t->wJ K Q r f t:=λr f t hb=>by
 cases r with
 |norm=>exact h f t hb
 |exit i=>cases hb
 |ret=>cases hb
theorem mr:kg=.seq zyT (.seq RX (.seq Fb (.seq cR cU))):=rfl
theorem RZ{az:List Atm}{sc ow:zq}:WU E.S E.i k f az sc ow=KY E k f sc (vH sc ow az):=by
 unfold WU KY;cases eqD k (.ofNat 2)<;>rfl
def vd:∀t:Trm,0<wN t
 |.mk _ _ _ _ _ _ _=>by simp only[wN];omega
section
variable {O:Orc}{E:CapE}{L0:za}{n0 a0:Nat}{sc0:zq}
def db(h72:O 81=none)(h71:O 80=some Yz)(h48:O 45=some (QG M)){C:Cx}(hC:CO C O)(hN:zM E.ids<1000000000){ow:zq}(hok:Q8 (zM E.ids) t)(hsz:wN t<=M+1)(hM:M<900000000){fr:Fr}{s:U}(hI:Yf E L0 n0 a0 sc0 t [] ow fr s):
  Tri C (.block 0 (.loop (.block 1 kg))) fr s (wJ (λf s=>∃t2 hs,Yf E L0 n0 a0 sc0 t2 hs (je E.S E.i t sc0 ow) f s/\hs.length<1000000000) λ_ _ _=>False):=by
 refine qx (U6 (λx:Trm×zq×zq=>wN x.1) (λx f s=>Yf E L0 n0 a0 sc0 x.1 x.2.1 x.2.2 f s/\je E.S E.i x.1 (sc0++x.2.1) x.2.2=je E.S E.i t sc0 ow/\Q8 (zM E.ids) x.1/\wN x.1<=M+1/\zM x.2.1+wN x.1<=M+1) (λx f s hx=>?_) (t,[],ow) ⟨hI,by rw[zv6],hok,hsz,by simpa using hsz⟩)
 obtain⟨⟨k,v,op,num,fn,az,ks⟩,hs,ow1⟩:=x;obtain⟨hI,hR,hok,hsz,hlen⟩:=hx;simp only[Q8]at hI hR hok hsz hlen;obtain⟨ha,hk,hf,hks⟩:=hok;simp only[je]at hR;rw[RZ]at hR;rw[mr];refine qx (ql ((hC.ev (RW (t:=.mk k v op num fn az ks) h72 ha hI)).mono (kK λf s hI=>?_)));refine ql ((Fa (t:=.mk k v op num fn az ks) h72 hC hf hN hI).mono (kK λf s hI=>?_));simp only[wN]at hsz hlen;refine ql ((hC.ev (Fc (t:=.mk k v op num fn az ks) h71 J hI)).mono (kK λf s hI=>?_));simp only[Trm.kind,Trm.var,Trm.atoms,Trm.fn]at hI;rw[<-zxy]at hR;have hh:=Tu k v sc0 hs;generalize hsB k v sc0 hs=hs2 at *;generalize KY E k fn (sc0++hs) (vH (sc0++hs) ow1 az)=ow2 at *
 match ks,hk,hks,hsz,hlen,hR,hI with
 |[],_,_,hsz,hlen,hR,hI=>
  refine ql ((hC.ev (cT (by simp) hI)).mono (kK λf s hI=>?_))
  refine(hC.ev (A0 hI)).mono λr f2 t2=>?_
  rintro⟨rfl,hI⟩
  simp only[uQ]at hR;rw[hR]at hI;exact⟨_,hs2,hI,by simp only[qR]at hlen;omega⟩
 | [x],_,hks,hsz,hlen,hR,hI=>
  refine ql ((hC.ev (cT (by simp) hI)).mono (kK λf s hI=>?_))
  refine(hC.ev (KX (by simp) hI)).mono λr f2 t2 hb=>?_
  cases r with
  |exit i=>cases hb
  |ret=>cases hb
  |norm=>
   simp only[uQ]at hR;simp only[qR]at hsz hlen;exact⟨(x,hs2,ow2),⟨hb,hR,hks.1,by simp only;omega,by simp only;omega⟩,by simp only[wN,qR];omega⟩
 | [x,y],_,hks,hsz,hlen,hR,hI=>
  simp only[qR]at hsz hlen;have hpx:=vd x;have hpy:=vd y;refine ql ((hC.ev (AZ h48 hks.2.1 J hN hI)).mono (kK λf s hI=>?_));refine(hC.ev (KX (by simp) hI)).mono λr f2 t2 hb=>?_
  cases r with
  |exit i=>cases hb
  |ret=>cases hb
  |norm=>
   simp only[uQ]at hR;exact⟨(x,hs2,_),⟨hb,hR,hks.1,by simp only;omega,by simp only;omega⟩,by simp only[wN,qR];omega⟩
 |_::_::_::_,hk,_,_,_,_,_=>simp at hk
end
def dH{v:Int}{r:zq}:∀{sc:zq},v∉sc->Vo v (uS (sc++v::r))=uS (sc++r)
 |[],_=>by simp[uS,Vo,lV]
 |x::sc,h=>by
  simp only[zul,not_or]at h;simp only[uS,yd,zY,Vo,lV];rw[qb (Ne.symm h.1),wh];have:=dH (r:=r) (sc:=sc) h.2;simp only[uS]at this;rw[this]
def uz{l:zq}{i:Nat}{o:Int}{r:zq}(hd:l.drop i=o::r):wE 1 (wX i (xW wg l))=some [.int .i64 o]:=by
 have:=zwG hd;rwa [xQ]at this
def av:ICode:=match f45.body with
 |.seq _ (.seq _ (.seq _ (.seq _ d)))=>d
 |_=>.skip
section
variable {O:Orc}{E:CapE}{L0:za}{n0 a0:Nat}{sc0:zq}
attribute [local go_sem] TT zwY wW in
def mw{t2:Trm}{ow:zq}{fr:Fr}(hl:hs.length<1000000000)(hI:Yf E L0 n0 a0 sc0 t2 hs ow fr s):Ev (evC env (evW env O) none av fr s) λr f t=>r=.ret/\∃T L n m,f=⟨tmL T,[]⟩/\t=KL L n m false/\G T 8 (.ptr (n0+1+1+1) 0)/\x3 L (n0+1+1+1)=some (.row 4 [.bool (decide (List.length ow≠a0))])/\CapM E L n sc0 ow/\∀j,j<n0->¬E.W j->m.testBit j=false:=by
 obtain⟨T,L,n,m,hid,rfl,rfl,hT,hS⟩:=hI;have t10:=hT.t10;have t6:=hT.t6;have t8:=hT.t8;have hwf:=hS.M.wf;have n4:=hS.n4;have l1:E.sid<n0:=hS.lt E.sid (.inl (.inr rfl));unfold av f45 cF;simp only;refine xU (xY ?_);apply x4;refine wq (λi:Nat=>hs.length-i) (λi f t=>∃T L2 m2,f=⟨tmL T,[]⟩/\t=KL L2 n m2 false/\G T 6 (.ptr (n0+1) 0)/\G T 8 (.ptr (n0+1+1+1) 0)/\G T 95 (gSl 1 hid hs.length)/\G T 96 hs.length/\G T 97 i/\i<=hs.length/\x3 L2 E.sid=some (.umap (uS (sc0++hs.drop i)))/\(∀j,j≠E.sid->x3 L2 j=x3 L j)/\∀j,j≠E.sid->m2.testBit j=m.testBit j) (λi f t hI=>?_) 0 ⟨_,L,m,rfl,rfl,V,V,V,V,V,yh _,hS.M.sco,λ_ _=>rfl,λ_ _=>rfl⟩;obtain⟨T,L2,m2,rfl,rfl,t6,t8,q95,q96,q97,hi,gs,hf,hm⟩:=hI;have g1:=hS.r1;rw[<-hf (n0+1) J]at g1;have g3:=hS.r3;rw[<-hf (n0+1+1+1) J]at g3;rcases wj hs i with ⟨hi2,hd⟩|⟨v,hi2,hd⟩
 .have hlt:¬i<hs.length:=J;rw[hd,zv6]at gs
  have hMM:CapM E L2 n sc0 ow:={
   wf:=λj hj=>by rw[hf j J];exact hwf j hj
   len:=hS.M.len
   nd:=hS.M.nd
   hi:=hS.M.hi
   row:=by rw[hf E.fid (λe=>by have h1:=hS.M.row;rw[e,hS.M.sco]at h1;cases h1)];exact hS.M.row
   oth:=λj Y hj hji=>by rw[hf Y (λe=>hS.M.sd (e▸xJ hj))];exact hS.M.oth j Y hj hji
   own:=by rw[hf E.oid (λe=>hS.M.sd (e▸hS.M.oidW))];exact hS.M.own
   sco:=gs
   sd:=hS.M.sd}
  have hfr:∀j,j<n0->¬E.W j->m2.testBit j=false:=λj hj hW=>by
   rw[hm j (λe=>hW (.inr e))];exact(hS.fr j hj hW).2
  have hlt3:∀j,E.W j\/j=E.fid->j<n0:=hS.lt;clear hS hf hm t10;refine xX ?_;refine xY ?_;refine jr (r:=.ret) ?_;refine⟨rfl,_,_,n,_,rfl,rfl,V,x8 _ _ _,?_,λj h1 h2=>?_⟩
  .refine hMM.turn (WfA.same hMM.wf J) (by rw[x5,x0 (by have:=hlt3 E.oid (.inl (.inl hMM.oidW));omega)];exact hMM.own) λj h1 h2 h3=>?_
   rw[x5,x0 (by have:=hlt3 j h3;omega)]
  .rw[vm J];exact hfr j h1 h2
 .have hc:=uz hd;obtain⟨q1,q2,q3⟩:=hS.hr (λe=>by rw[e]at hi2;simp at hi2)
  rw[<-hf hid J]at q3;have hia:= @pL 1 hid hs.length i hi2;have hdel:=dH (r:=hs.drop (i+1)) (hS.ds v (zv9 (by rw[hd];simp)))
  rw[hd]at gs;have hf2:=hf;have hm2:=hm;clear hf hm hS t10;refine xX ?_;refine⟨i+1,⟨_,_,_,rfl,rfl,V,V,V,V,V,J,x8 _ _ _,λj hj=>?_,λj hj=>?_⟩,J⟩
  .rw[x5,x0 hj];exact hf2 j hj
  .rw[vm hj];exact hm2 j hj
end
def zwy(h:WfA L n):Wf (KL L n m false):=by
 refine⟨λY o ho=>?_,λp hp=>by cases hp⟩
 apply Nat.lt_of_not_le;intro hle;have h1:(KL L n m false).get Y=some o:=by
  rw[kq,show seen (KL L n m false) Y=true from rfl];exact ho
 rw[wM,h Y hle]at h1;cases h1
def HY{W:List (Nat×AObj)}{j:Nat}{o:AObj}(hn:(W.map (·.1)).Nodup)(h:x3 (JX L W) j=some o):(j,o)∈W\/((∀p∈W,p.1≠j)/\x3 L j=some o):=by
 by_cases hW:∃p∈W,p.1=j
 .obtain⟨p,hp,rfl⟩:=hW;rw[(u7 W L p.1 hn).1 p.2 hp]at h;cases h;exact .inl hp
 .have hne:∀p∈W,p.1≠j:=λp hp e=>hW ⟨p,hp,e⟩;rw[(u7 W L j hn).2 hne]at h;exact .inr ⟨hne,h⟩
def CapX.was(x:CapX):List (Nat×AObj):=(x.E.fid,.row 63 (x.E.ids.map .map) x.E.xx x.E.ff)::(x.E.sid,.umap (uS x.sc))::Q1 x.E.ids x.E.S
section
variable {M:Nat}{x:CapX}{args:zt}{s:U}
def CapPre.fidW(h:CapPre M x args s):¬x.E.W x.E.fid:=by
 rintro(h1|h1)
 .obtain⟨j,hj⟩:=zus h1;have:=h.maps j _ hj;rw[h.row]at this;cases this
 .have:=h.row;rw[h1,h.sco]at this;cases this
def CapPre.wasN(h:CapPre M x args s):(x.was.map (·.1)).Nodup:=by
 have hf:=h.fidW;simp only[CapX.was,zY,HL h.len,zur,zul,not_or];exact⟨⟨λe=>hf (.inr e),λe=>hf (.inl e)⟩,h.sd,h.nd⟩
def CapPre.was_get(h:CapPre M x args s){p:Nat×AObj}(hp:p∈x.was):s.get p.1=some p.2/\(x.E.W p.1\/p.1=x.E.fid):=by
 simp only[CapX.was,zul]at hp;rcases hp with rfl|rfl|hp
 .exact⟨h.row,.inr rfl⟩
 .exact⟨h.sco,.inl (.inr rfl)⟩
 .obtain⟨j,h1,_,h3⟩:=HM hp;rw[h3];exact⟨h.maps j _ h1,.inl (.inl (xJ h1))⟩
theorem CapPre.wasW(h:CapPre M x args s):WfA (JX [] x.was) s.next:=λj hj=>by
 rw[(u7 x.was [] j h.wasN).2 λp hp e=>by
  have:=h.lt p.1 (h.was_get hp).2;omega]
 rfl
def CapPre.M0(h:CapPre M x args s):CapM x.E (JX [] x.was) s.next x.sc x.E.ow where
 wf:=h.wasW
 len:=h.len
 nd:=h.nd
 hi:=h.hi
 row:=(u7 x.was [] x.E.fid h.wasN).1 _ (by simp[CapX.was])
 oth :=λj Y hj _=>(u7 x.was [] Y h.wasN).1 _ (by
  simp only[CapX.was,zul];refine .inr (.inr ?_);have key:∀{ids:zr} {S:zc} {j Y:Nat},zM S=zM ids->ids[j]? =some Y->(Y,AObj.umap (uS (S.getD j [])))∈Q1 ids S:=by
   intro ids
   induction ids with
   |nil=>intro S j Y _ hj;simp at hj
   | cons a ids ih=>
    intro S j Y hl hj;cases S with
    |nil=>simp at hl
    | cons l S=>
     cases j with
     |zero=>simp at hj;subst hj;simp[Q1]
     |succ j=>
      simp only[Q1,zul];refine .inr ?_;have:=ih (S:=S) (j:=j) (Y:=Y) (by simpa using hl) (by simpa using hj)
      simpa using this
  exact key h.len hj)
 own :=(u7 x.was [] x.E.oid h.wasN).1 _ (by
  simp only[CapX.was,zul];refine .inr (.inr ?_);have hj:=bu h.hi;have key:∀{ids:zr} {S:zc} {j Y:Nat},zM S=zM ids->ids[j]? =some Y->(Y,AObj.umap (uS (S.getD j [])))∈Q1 ids S:=by
   intro ids
   induction ids with
   |nil=>intro S j Y _ hj;simp at hj
   | cons a ids ih=>
    intro S j Y hl hj;cases S with
    |nil=>simp at hl
    | cons l S=>
     cases j with
     |zero=>simp at hj;subst hj;simp[Q1]
     |succ j=>
      simp only[Q1,zul];refine .inr ?_;have:=ih (S:=S) (j:=j) (Y:=Y) (by simpa using hl) (by simpa using hj)
      simpa using this
  exact key h.len hj)
 sco:=(u7 x.was [] x.E.sid h.wasN).1 _ (by simp[CapX.was])
 sd:=h.sd
end
def si:ICode->ICode:=λk=>match f45.body with
 |.seq a (.seq b (.seq c _))=>.seq a (.seq b (.seq c k))
 |_=>.skip
theorem dh:f45.body=si (.seq (.block 0 (.loop (.block 1 kg))) av):=rfl
section
variable {P:Program}{X:World}(B:Bx P X){O:Orc}(hO:OrcOk P X O)
include B hO
def dl(h72:O 81=none)(h71:O 80=some Yz)(h48:O 45=some (QG M))(hM:M<900000000){x:CapX}{args:zt}(h:CapPre (M+1) x args s):SC P X 45 args s (.bool (decide (List.length x.own≠(List.length x.E.ow)))) (JY s x.objs):=by
 have hm0:=h.M0;refine zzr (F:=f45) (s0:=KL (JX [] x.was) s.next 0 false) hO B.mixed B.glob B.env rfl (by rw[h.args];exact zv4 rfl) rfl rfl rfl (zwy h.wasW) rfl (λY o ho=>?_) rfl h.nodup (λp hp=>h.get hp) (λp hp=>?_) λC ok hP hE hO' hr hs=>?_
 .rw[wM]at ho;rcases HY h.wasN ho with h1|⟨_,h1⟩
  .exact(h.was_get h1).1
  .cases h1
 .rcases h.mem hp with ⟨e,he⟩|⟨j,hj,he⟩
  .rw[he,e];exact⟨h.lt _ (.inl (.inr rfl)),dF (bW _)⟩
  .rw[he];exact⟨h.lt _ (.inl (.inl (xJ hj))),dF (bW _)⟩
 have hC:CO C O:=⟨ok,hE,hO',hr⟩;rw[h.args,dh];have hlt:=h.lt;have hond:=h.ond;have hok:=h.ok;have hsz:=h.sz;have hN:=h.N;have hmem:=λp hp=> @CapPre.mem _ _ _ _ h p hp;have hfst:=h.fst;simp only[CapX.own]at hmem|-;show Tri C _ _ (KL (JX [] x.was) s.next 0 false) _
 generalize s.next=n at *
 generalize JX [] x.was=L0 at *;obtain⟨E,t,sc⟩:=x;simp only at hm0 hlt hond hok hsz hN hmem hfst|-;obtain⟨R,hR⟩:∃R,je E.S E.i t sc E.ow=R:=⟨_,rfl⟩;simp only[hR]at hmem|-;clear h hs;generalize CapX.objs ⟨E,t,sc⟩=W at *;unfold si f45 cF;simp only;have hcm:=wP t;refine ql (hC.ev (xX ?_));refine ql (hC.ev (xX ?_));refine ql (hC.ev (xX ?_));refine ql ((db (L0:=L0) (n0:=n) (a0:=zM E.ow) (sc0:=sc) (E:=E) (t:=t) (ow:=E.ow) h72 h71 h48 hC hN hok hsz hM ⟨_,_,_,_,0,rfl,rfl,?_,?_⟩).mono (kK λf s hI=>?_))
 .exact⟨sW,sW,sW,sW,sW,by simp (disch:=first|exact dis|fail)only[go_sem,seval,-rO,-rN,ce],by simp (disch:=first|exact dis|fail)only[go_sem,seval,-rO,-rN,gSl]⟩
 .exact{
   M :=by
    rw[zv6];refine hm0.turn ?_ ?_ λj h1 h2 h3=>?_
    ·(repeat first|exact hm0.wf.up J|refine WfA.same ?_ J)
    .have:=hlt E.oid (.inl (.inl hm0.oidW))
     (repeat (rw[gN J]));exact hm0.own
    ·(repeat (rw[gN J]))
   n4:=zS _
   r0:=by
    (repeat (rw[gN J]));rw[x8];rfl
   r1:=by
    (repeat (rw[gN J]));rw[x8]
   r2:=by
    (repeat (rw[gN J]));rw[x8]
   r3:=by
    rw[x8];simp
   hr:=λhne=>absurd rfl hne
   le:=zS _
   nd:=hond
   ds:=λv hv=>by cases hv
   lt:=hlt
   fr:=λj hj hW=>⟨by (repeat (rw[gN J])),by simp⟩}
 .obtain⟨t2,hs,hI,hl⟩:=hI;rw[hR]at hI;refine(hC.ev (mw hl hI)).mono λr f t3 hz=>?_;obtain⟨rfl,T,L,n2,m,rfl,rfl,t8,g8,hM2,hm2⟩:=hz;refine⟨.bool (decide (zM R≠(zM E.ow))),KL L n2 m false,V,rfl,λp hp=>?_,λY hid hW=>?_⟩
  .rw[wM];rcases hmem p hp with ⟨e,he⟩|⟨j,hj,he⟩
   .rw[e,he];exact hM2.sco
   .rw[he];by_cases hji:j=E.i
    .rw[wc hji];subst hji;rw[hM2.oid]at hj;rw[<-Option.some.inj hj];exact hM2.own
    .rw[x0 hji];exact hM2.oth j p.1 hj hji
  .refine hm2 Y hid λhWW=>?_;have:Y∈W.map (·.1):=by
    rw[hfst];rcases hWW with h1|h1
    .exact xA _ h1
    .rw[h1];exact zua
   obtain⟨p,hp,he⟩:=List.mem_map.1 this;exact hW p hp he
end
def TR(B:Bx P X):∀(M:Nat),M<=900000000->OrcOk P X (withG 45 (QG M) (withG 80 Yz noO)):=by
 have h0:OrcOk P X (withG 80 Yz noO):=(jb P X).withG lB (cH B (jb P X));intro M
 induction M with
 |zero=>
  refine λ_=>h0.withG eB λargs s v s' h=>?_;obtain⟨x,hx,_⟩:=GF h;have:=hx.sz;have:=vd x.t;omega
 |succ M ih=>
  intro hM;refine h0.withG eB λargs s v s' h=>?_;obtain⟨x,hx,rfl,rfl⟩:=GF h;exact dl B (ih J) rfl rfl rfl J hx
def ZR(l:zq):zq->zq
 |[]=>l
 |x::r=>ZR (WV l x) r
def km:List Fn->Nat->zc->zc
 |[],_,S=>S
 |f::r,i,S=>km r (i+1) (S.set i (je S i f.b (ZR [] f.ps) (S.getD i [])))
def gO(c:Cd)(S:zc):zc:=km c.fs 0 S
def itS(c:Cd):Nat->zc
 |0=>List.replicate (zM c.fs) []
 |k+1=>gO c (itS c k)
mutual
def gQ:Trm->zq
 |.mk _ _ _ _ _ az ks=>az.map (·.n)++pW ks
def pW:List Trm->zq
 |[]=>[]
 |t::r=>gQ t++pW r
end
def kE(c:Cd):zq:=(c.fs.map λf=>gQ f.b).flatten
def pX(c:Cd):Nat:=zM c.fs*(kE c).length
def jP(c:Cd):zc:=itS c (pX c)
def iL(sc ow:zq)(x:Int):∃z,lD sc ow x=ow++z:=by
 unfold lD WV;split
 .exact⟨[],by simp⟩
 .split
  .exact⟨[],by simp⟩
  .exact⟨[x],rfl⟩
def Z1{a b c:zq}(h:∃z,b=a++z)(g:∃z,c=b++z):∃z,c=a++z:=by
 obtain⟨z,rfl⟩:=h;obtain⟨y,rfl⟩:=g;exact⟨z++y,by simp⟩
def Yk(sc:zq):∀(az:List Atm) (ow:zq),∃z,vH sc ow az=ow++z
 |[],ow=>⟨[],by simp[vH]⟩
 |a::r,ow=>by
  simp only[vH];refine Z1 ?_ (Yk sc r _);cases eqD a.k (.ofNat 1)with
  |true=>exact iL _ _ _
  |false=>exact⟨[],by simp⟩
def da(sc:zq):∀(l:zq) (ow:zq),∃z,Qq sc ow l=ow++z
 |[],ow=>⟨[],by simp[Qq]⟩
 |x::r,ow=>Z1 (iL _ _ _) (da sc r _)
def cV{az:List Atm}{sc ow:zq}:∃z,WU S i k f az sc ow=ow++z:=by
 unfold WU;cases eqD k (.ofNat 2)with
 |false=>exact Yk _ _ _
 |true=>
  simp only[x6];split
  .exact Yk _ _ _
  .exact Z1 (Yk _ _ _) (da _ _ _)
mutual
theorem Vg{S:zc}{i:Nat}:∀(t:Trm) (sc ow:zq),∃z,je S i t sc ow=ow++z
 |.mk k v op n f az ks,sc,ow=>by
  simp only[je];exact Z1 (cV (S:=S) (i:=i)) (Uo (S:=S) (i:=i) ks _ _)
theorem Uo{S:zc}{i:Nat}:∀(ks:List Trm) (sc ow:zq),∃z,uQ S i ks sc ow=ow++z
 |[],_,_=>⟨[],by simp[uQ]⟩
 |x::r,sc,ow=>by
  simp only[uQ];exact Z1 (Uo (S:=S) (i:=i) r sc ow) (Vg (S:=S) (i:=i) x sc _)
end
def G1{sc:zq}{x:Int}:∀{az:List Atm} {ow:zq},x∈vH sc ow az->x∈ow\/x∈az.map (·.n)
 |[],ow,h=>.inl h
 | a::r,ow,h=>by
  simp only[vH]at h;rcases G1 h with h|h
  .cases hk:eqD a.k (.ofNat 1)with
   |true=>
    rw[hk,x6,ZU]at h;rcases h with h|⟨h,_⟩
    .exact .inl h
    .exact .inr (by simp[h])
   |false=>rw[hk]at h;exact .inl h
  .exact .inr (by simp[h])
section
variable {S:zc}{i:Nat}{U9:zq}
def Fg(hS:∀j,∀x∈S.getD j [],x∈U9){k f:Int}{az:List Atm}{sc ow:zq}(ha:∀x∈az.map (·.n),x∈U9)(ho:∀x∈ow,x∈U9):∀x∈WU S i k f az sc ow,x∈U9:=by
 have h1:∀x∈vH sc ow az,x∈U9:=λx hx=>by
  rcases G1 hx with h|h
  .exact ho x h
  .exact ha x h
 unfold WU;cases eqD k (.ofNat 2)with
 |false=>exact h1
 | true=>
  simp only[x6];split
  .exact h1
  .intro x hx;rcases X3.1 hx with h|⟨h,_⟩
   .exact h1 x h
   .exact hS _ x h
mutual
theorem de(hS:∀j,∀x∈S.getD j [],x∈U9):∀(t:Trm) (sc ow:zq),(∀x∈gQ t,x∈U9)->(∀x∈ow,x∈U9)->∀x∈je S i t sc ow,x∈U9
 |.mk k v op n f az ks,sc,ow,hu,ho=>by
  simp only[gQ,zuB]at hu;simp only[je];exact Lo hS ks _ _ (λx hx=>hu x (.inr hx)) (Fg hS (λx hx=>hu x (.inl hx)) ho)
theorem Lo(hS:∀j,∀x∈S.getD j [],x∈U9):∀(ks:List Trm) (sc ow:zq),(∀x∈pW ks,x∈U9)->(∀x∈ow,x∈U9)->∀x∈uQ S i ks sc ow,x∈U9
 |[],_,_,_,ho=>by simp only[uQ];exact ho
 |t::r,sc,ow,hu,ho=>by
  simp only[pW,zuB]at hu;simp only[uQ];exact de hS t sc _ (λx hx=>hu x (.inl hx)) (Lo hS r sc ow (λx hx=>hu x (.inr hx)) ho)
end
end
structure SOk(U9:zq)(N:Nat)(S:zc):Prop where
 len:zM S=N
 nd:∀j,(S.getD j []).Nodup
 sub:∀j,∀x∈S.getD j [],x∈U9
def ph{j:Nat}(hi:i<List.length S):(S.set i l).getD j []=if j=i then l else S.getD j []:=by
 rw[xD,zuD];by_cases h:i=j
 .subst h;simp[hi]
 .rw[x0 h,x0 (Ne.symm h),<-xD]
def SOk.set{U9:zq}(h:SOk U9 N S)(hi:i<N){f:Fn}(hf:∀x∈gQ f.b,x∈U9):SOk U9 N (S.set i (je S i f.b (ZR [] f.ps) (S.getD i []))) where
 len:=by rw[zuu];exact h.len
 nd:=λj=>by
  rw[ph (by rw[h.len];exact hi)]
  split
  .exact(au _ _ _).2 (h.nd i)
  .exact h.nd j
 sub:=λj=>by
  rw[ph (by rw[h.len];exact hi)]
  split
  .exact de h.sub _ _ _ hf (h.sub i)
  .exact h.sub j
def im{U9:zq}{N:Nat}:∀(fs:List Fn) (i:Nat) (S:zc),SOk U9 N S->i+zM fs<=N->(∀f∈fs,∀x∈gQ f.b,x∈U9)->SOk U9 N (km fs i S)
 |[],_,_,h,_,_=>h
 |f::r,i,S,h,hi,hf=>by
  simp only[km];simp only[yw]at hi;exact im r (i+1) _ (h.set J (hf f (by simp))) J λg hg=>hf g (by simp[hg])
def gF(S:zc):Nat:=(S.map zM).sum
def iF(hi:i<List.length S):gF (S.set i l)+(S.getD i []).length=gF S+List.length l:=by
 induction S generalizing i with
 |nil=>simp at hi
 | cons a S ih=>
  cases i with
  |zero=>simp[gF];omega
  |succ i=>
   have:=ih (i:=i) (by simpa using hi)
   simp only[gF,List.set_cons_succ,zY,List.sum_cons,List.getD_cons_succ]at this|-;omega
def Ht:S.set i (S.getD i [])=S:=by
 refine List.ext_getElem? λj=>?_;rw[zuD];by_cases h:i=j
 .subst h;by_cases hi:i<zM S
  .rw[wc rfl,wc hi,xD,yU hi];rfl
  .rw[wc rfl,x0 hi,yF J]
 .rw[x0 h]
def U1{U9:zq}{N:Nat}:∀(fs:List Fn) (i:Nat) (S:zc),SOk U9 N S->i+zM fs<=N->(∀f∈fs,∀x∈gQ f.b,x∈U9)->km fs i S=S\/gF S<gF (km fs i S)
 |[],_,_,_,_,_=>.inl rfl
 | f::r,i,S,h,hi,hf=>by
  simp only[km];simp only[yw]at hi;have hok:=h.set (i:=i) J (hf f (by simp))
  obtain⟨z,hz⟩:=Vg (S:=S) (i:=i) f.b (ZR [] f.ps) (S.getD i []);have ht:=iF (l:=je S i f.b (ZR [] f.ps) (S.getD i [])) (show i<(zM S) by rw[h.len];omega)
  have ih:=U1 r (i+1) _ hok J λg hg=>hf g (by simp[hg])
  cases z with
  |nil=>
   rw[zv6]at hz;rw[hz,Ht]at ih|-;exact ih
  |cons a z=>
   right
   have hl:(je S i f.b (ZR [] f.ps) (S.getD i [])).length=(S.getD i []).length+(zM z+1):=by rw[hz];simp
   generalize S.set i (je S i f.b (ZR [] f.ps) (S.getD i []))=S2 at *;rcases ih with ih|ih
   .rw[ih];omega
   .omega
def ZW:∀{l U9:zq},l.Nodup->(∀x∈l,x∈U9)->zM l<=zM U9
 |[],_,_,_=>yh _
 | x::l,U9,hn,hs=>by
  rw[zur]at hn;obtain⟨a,b,rfl⟩:=List.append_of_mem (hs x (by simp))
  have:=ZW (l:=l) (U9:=a++b) hn.2 λy hy=>by
   have h1:=hs y (by simp[hy])
   simp only[zuB,zul]at h1|-;rcases h1 with h1|h1|h1
   .exact .inl h1
   .subst h1;exact absurd hy hn.1
   .exact .inr h1
  simp only[yO,yw]at this|-;omega
def bR{U9:zq}:∀{S:zc},(∀l∈S,l.Nodup/\∀x∈l,x∈U9)->gF S<=zM S*zM U9
 |[],_=>by simp[gF]
 |a::S,h=>by
  have h1:=h a (by simp)
  have h2:=ZW h1.1 h1.2;have h3:=bR (S:=S) λl hl=>h l (by simp[hl])
  simp only[gF,zY,List.sum_cons,yw]at h3|-;rw[Nat.succ_mul];omega
def SOk.tot{U9:zq}(h:SOk U9 N S):gF S<=N*List.length U9:=by
 rw[<-h.len];refine bR λl hl=>?_;obtain⟨j,hj⟩:=zus hl;have:S.getD j []=l:=by rw[xD,hj];rfl
 rw[<-this];exact⟨h.nd j,h.sub j⟩
def Wl(c:Cd):∀f∈c.fs,∀x∈gQ f.b,x∈kE c:=λf hf x hx=>by
 unfold kE;rw[List.mem_flatten];exact⟨_,List.mem_map.2 ⟨f,hf,rfl⟩,hx⟩
def pO(c:Cd):∀k,SOk (kE c) (zM c.fs) (itS c k)
 | 0=>by
  have e:∀j,(List.replicate (zM c.fs) ([]:zq)).getD j []=[]:=λj=>by
   rw[xD,zuI];split<;>rfl
  exact⟨by simp[itS],λj=>by simp only[itS];rw[e];exact List.nodup_nil,λj x hx=>by simp only[itS]at hx;rw[e]at hx;cases hx⟩
 |k+1=>im _ _ _ (pO c k) (by simp) (Wl c)
def GS(c:Cd):∀k,gO c (itS c k)=itS c k\/k<gF (itS c (k+1))
 |0=>by
  rcases U1 c.fs 0 _ (pO c 0) (by simp) (Wl c)with h|h
  .exact .inl h
  .exact .inr (Nat.lt_of_le_of_lt (yh _) h)
 | k+1=>by
  rcases GS c k with h|h
  .left
   show gO c (gO c (itS c k))=gO c (itS c k);rw[h,h]
  .rcases U1 c.fs 0 _ (pO c (k+1)) (by simp) (Wl c)with h2|h2
   .exact .inl h2
   .right
    have:gF (itS c (k+1))<gF (itS c (k+1+1)):=h2;omega
def GT{c:Cd}{k:Nat}(h:gO c (itS c k)=itS c k):∀j,itS c (k+j)=itS c k
 |0=>rfl
 |j+1=>by
  show gO c (itS c (k+j))=_;rw[GT h j,h]
def PR(c:Cd):gO c (jP c)=jP c:=by
 rcases GS c (pX c)with h|h
 .exact h
 .have:=(pO c (pX c+1)).tot;unfold pX at h this;omega
def ON{k:Nat}(h:gO c (itS c k)=itS c k):itS c k=jP c:=by
 unfold jP;by_cases hk:k<=pX c
 .have:=GT h (pX c-k);rw[Nat.add_sub_cancel' hk]at this;exact this.symm
 .have:=GT (PR c) (k-pX c);rw[Nat.add_sub_cancel' J]at this;exact this
def zxz{k:Nat}(h:gO c (itS c k)≠itS c k):k<pX c:=by
 rcases GS c k with h1|h1
 .exact absurd h1 h
 .have:=(pO c (k+1)).tot;unfold pX;omega
structure SetM(ids:zr)(S:zc)(fid lo:Nat)(L:za)(n:Nat):Prop where
 wf:WfA L n
 len:zM S=zM ids
 nd:ids.Nodup
 row:x3 L fid=some (.row 63 (ids.map .map))
 maps:∀j Y,ids[j]? =some Y->x3 L Y=some (.umap (uS (S.getD j [])))
 los:∀Y∈ids,lo<=Y
 lof:lo<=fid
def SetM.lt(h:SetM ids S fid lo L n){Y:Nat}(hid:Y∈ids):Y<n:=by
 obtain⟨j,hj⟩:=zus hid;exact h.wf.lt (h.maps j Y hj)
def SetM.fidn(h:SetM ids S fid lo L n):fid∉ids:=λhid=>by
 obtain⟨j,hj⟩:=zus hid;have:=h.maps j fid hj;rw[h.row]at this;cases this
def SetM.oth(h:SetM ids S fid lo L n)(hw:WfA L2 n2)(hf:∀j,j<n->(j=fid\/j∈ids)->x3 L2 j=x3 L j):SetM ids S fid lo L2 n2 where
 wf:=hw
 len:=h.len
 nd:=h.nd
 row:=by rw[hf fid (h.wf.lt h.row) (.inl rfl)];exact h.row
 maps:=λj Y hj=>by rw[hf Y (h.lt (xJ hj)) (.inr (xJ hj))];exact h.maps j Y hj
 los:=h.los
 lof:=h.lof
def SetM.cap(h:SetM ids S fid lo L n){c:Cap}{sc:zq}(hi:i<zM ids)(hs:x3 L sid=some (.umap (uS sc)))(hsd:sid∉ids):CapM ⟨ids,S,i,fid,sid,c,false,false⟩ L n sc (S.getD i []) where
 wf:=h.wf
 len:=h.len
 nd:=h.nd
 hi:=hi
 row:=h.row
 oth:=λj Y hj _=>h.maps j Y hj
 own:=h.maps i _ (bu (E:=⟨ids,S,i,fid,sid,c,false,false⟩) hi)
 sco:=hs
 sd:=hsd
def SetM.set(h:SetM ids S fid lo L n){Y:Nat}(hi:ids[i]? =some Y)(hl:x3 L2 Y=some (.umap (uS l)))(hf:∀j,j≠Y->x3 L2 j=x3 L j):SetM ids (S.set i l) fid lo L2 n where
 wf:=λj hj=>by
  have:=h.lt (xJ hi);rw[hf j J];exact h.wf j hj
 len:=by rw[zuu];exact h.len
 nd:=h.nd
 row:=by rw[hf fid (λe=>h.fidn (by rw[e];exact xJ hi))];exact h.row
 maps:=λj k hj=>by
  have hlt:=(List.getElem?_eq_some_iff.1 hi).1;rw[ph (by rw[h.len];exact hlt)]
  by_cases hji:j=i
  .subst hji;rw[hi]at hj;cases hj;rw[wc rfl];exact hl
  .rw[x0 hji,hf k (λe=>hji ((zuy (List.getElem?_eq_some_iff.1 hj).1 h.nd).1 (hj.trans (by rw[e,hi]))))]
   exact h.maps j k hj
 los:=h.los
 lof:=h.lof
theorem zyx:∀(k:Nat) (v:Z),reps (k+1) [v]=v::reps k [v]:=λ_ _=>rfl
structure CdOk(c:Cd):Prop where
 n:zM c.fs<100000000
 f:∀f∈c.fs,Q8 (zM c.fs) f.b/\wN f.b<=900000000/\zM f.ps<1000000000
section
variable {O:Orc}
attribute [local go_sem] lm Qe ZD ZB l7 VW bp in
def Aw (h32:O 26=none)(h48:O 45=some (QG 900000000))(hc:CdOk c)(hw0:WfA L0 n0)(m0:Nat)(b:Bool):Cv (cl O 26 [.agg (qi c)] (KL L0 n0 m0 b)) λv t=>∃ids fid L n m,v=.sl fid 0 (List.length c.fs) (.fix (List.length c.fs))/\t=KL L n m b/\SetM ids (jP c) fid n0 L n/\List.length ids=List.length c.fs/\n0<=n/\∀j,j<n0->x3 L j=x3 L0 j/\m.testBit j=m0.testBit j:=by
 refine wp (F:=f26) h32 rfl rfl (zv4 rfl) ?_;obtain⟨fs,main,vars,globals,consts⟩:=c;have hN:=hc.n;have hf:=hc.f;simp only at hN hf;unfold f26 cF;simp only[qi];have hms:=λl n m=> @tf l n m 63 8 (zM fs) false [] none [.nilm] J J;refine xY ?_;refine xY ?_;refine xU (xU (xX ?_));apply x4;refine wq (λi:Nat=>zM fs-i) (λi f t=>∃T L n m ids,f=⟨tmL T,[]⟩/\t=KL L n m false/\G T 1 (.ptr n0 0)/\G T 3 (.sl (n0+1) 0 (zM fs) (.fix (zM fs)))/\G T 16 (zM fs)/\G T 17 i/\i<=zM fs/\WfA L n/\n0+1+1<=n/\x3 L n0=some (.row 25 [.lst (zM fs) false (xW wD fs),main,vars,globals,.lst (zM consts) false (wy consts)])/\x3 L (n0+1)=some (.row 63 (ids.map Z.map++reps (zM fs-i) [.nilm]))/\zM ids=i/\ids.Nodup/\(∀Y∈ids,n0+1+1<=Y/\Y<n/\x3 L Y=some (.umap []))/\∀j,j<n0->x3 L j=x3 L0 j/\m.testBit j=m0.testBit j) (λi f t hI=>?_) 0 ⟨_,_,_,_,[],rfl,rfl,sW,sW,sW,sW,yh _,?_,zS _,?_,by rw[x8];rfl,rfl,List.nodup_nil,λY h=>(by cases h),λj hj=>⟨?_,rfl⟩⟩
 .obtain ⟨T,L,n,m,ids,rfl,rfl,t1,t3,t16,t17,hi,hw,hn,g0,g1,hil,hnd,hids,hfr⟩:=hI;rcases Nat.lt_or_ge i (zM fs)with hlt|hge
  .have hp:jk (ids.map Z.map++reps (zM fs-i) [.nilm]) i [.map n]=some ((ids++[n]).map Z.map++reps (zM fs-(i+1)) [.nilm]):=by
    rw[show (zM fs)-i=(zM fs-(i+1))+1 by omega,zyx]
    have:= @WM (ids.map Z.map) [.nilm] (reps (zM fs-(i+1)) [.nilm]) [.map n] i (by simpa using hil) rfl
    simp only[List.singleton_append]at this;rw[this,List.map_append,zux];rfl
   have hnd2:(ids++[n]).Nodup:=by
    rw[List.nodup_append];refine⟨hnd,by simp,λa ha b hb=>?_⟩
    have:=(hids a ha).2.1;simp only[yq]at hb;omega
   have hids2:=hids;have hfr2:=hfr;clear hids hfr;refine xX ?_;refine⟨i+1,⟨_,_,n+1,_,ids++[n],rfl,rfl,V,V,V,V,J,?_,J,?_,x8 _ _ _,by simp[hil],hnd2,λY hid=>?_,λj hj=>⟨?_,?_⟩⟩,J⟩
   ·(repeat first|exact hw.up J|refine WfA.same ?_ J)
   ·(repeat (rw[gN J]));exact g0
   .rcases List.mem_append.1 hid with h|h
    .have:=hids2 Y h;refine⟨this.1,J,?_⟩
     (repeat (rw[gN J]));exact this.2.2
    .simp only[yq]at h;subst h;refine⟨J,J,?_⟩;rw[gN J,x8]
   ·(repeat (rw[gN J]));exact(hfr2 j hj).1
   ·(repeat rw[vm J]);exact(hfr2 j hj).2
  .have hlt:¬i<zM fs:=J;have hie:i=zM fs:=J
   have hM0:SetM ids (itS ⟨fs,main,vars,globals,consts⟩ 0) (n0+1) n0 L n:={
    wf:=hw
    len:=by simp[itS];omega
    nd:=hnd
    row:=by rw[g1,show (zM fs)-i=0 by omega];simp[reps]
    maps:=λj Y hj=>by
     rw[(hids Y (xJ hj)).2.2];simp only[itS];rw[xD,zuI];split<;>rfl
    los:=λY hid=>by have:=(hids Y hid).1;omega
    lof:=by omega}
   have hgt:∀Y∈ids,n0+1<Y:=λY hid=>by have:=(hids Y hid).1;omega
   clear hids g1 hms;have hfr0:=hfr;clear hfr;refine xX ?_;refine xU (xY ?_);apply x4;have hcd:CdOk ⟨fs,main,vars,globals,consts⟩:=hc;generalize hcc:(⟨fs,main,vars,globals,consts⟩:Cd)=c at *;have hfs:c.fs=fs:=by rw[<-hcc]
   have hidl:zM ids=zM c.fs:=by rw[hfs];omega
   refine wq (λx:Nat×Bool=>bif x.2 then 1+(pX c+1-x.1)else 0) (λx f t=>∃T L n m,f=⟨tmL T,[]⟩/\t=KL L n m false/\G T 1 (.ptr n0 0)/\G T 3 (.sl (n0+1) 0 (zM fs) (.fix (zM fs)))/\G T 5 (.bool x.2)/\n0+1+1<=n/\x3 L n0=some (.row 25 [.lst (zM fs) false (xW wD fs),main,vars,globals,.lst (zM consts) false (wy consts)])/\SetM ids (itS c x.1) (n0+1) n0 L n/\(x.2=false->gO c (itS c x.1)=itS c x.1)/\∀j,j<n0->x3 L j=x3 L0 j/\m.testBit j=m0.testBit j) (λx f t hI=>?_) (0,true) ⟨_,L,n,m,rfl,rfl,V,V,V,hn,g0,hM0,(λh=>by cases h),hfr0⟩
   clear t1 t3 t16 t17 hw hn g0 hil hM0 hfr0 hie hlt hge hi;obtain⟨T,L,n,m,rfl,rfl,t1,t3,t5,hn,g0,hM,hst,hfr⟩:=hI;obtain⟨k,g⟩:=x;simp only at t5 hM hst|-;cases g with
   |false=>
    have hfx:=ON (hst rfl);rw[hfx]at hM;clear hst;refine xX ?_;refine xY ?_;refine jr (r:=.ret) ?_;show Cv _ _;refine qz ?_;exact⟨ids,n0+1,L,n,m,rfl,rfl,hM,by rw[hidl,hfs],J,hfr⟩
   | true=>
    clear hst;refine xU (xY ?_);refine xX ?_;apply x4;refine xU (xX ?_);refine xU (xX ?_);apply x4;refine wq (λx:Nat×zc×Bool=>zM fs-x.1) (λx f t=>∃T L n m,f=⟨tmL T,[]⟩/\t=KL L n m false/\G T 1 (.ptr n0 0)/\G T 3 (.sl (n0+1) 0 (zM fs) (.fix (zM fs)))/\G T 5 (.bool x.2.2)/\G T 27 (.lst (zM fs) false (xW wD fs))/\G T 28 (zM fs)/\G T 29 x.1/\x.1<=zM fs/\n0+1+1<=n/\x3 L n0=some (.row 25 [.lst (zM fs) false (xW wD fs),main,vars,globals,.lst (zM consts) false (wy consts)])/\SetM ids x.2.1 (n0+1) n0 L n/\SOk (kE c) (zM fs) x.2.1/\km (fs.drop x.1) x.1 x.2.1=itS c (k+1)/\(x.2.2=false->x.2.1=itS c k)/\(x.2.2=true->gF (itS c k)<gF x.2.1)/\∀j,j<n0->x3 L j=x3 L0 j/\m.testBit j=m0.testBit j) (λx f t hI=>?_) (0,itS c k,false) ⟨_,L,n,m,rfl,rfl,V,V,V,V,V,V,yh _,hn,g0,hM,hfs▸pO c k,by show km fs 0 _=km c.fs 0 _;rw[hfs],(λ_=>rfl),(λh=>by cases h),hfr⟩
    clear t1 t3 t5 hn g0 hM hfr;obtain⟨T,L,n,m,rfl,rfl,t1,t3,t5,t27,t28,t29,hi,hn,g0,hM,hok,hR,hg0,hg1,hfr⟩:=hI;obtain⟨i,S,g⟩:=x;simp only at t5 t29 hi hM hok hR hg0 hg1|-;rcases wj fs i with ⟨hi2,hd⟩|⟨f,hi2,hd⟩
    .have hlt:¬i<zM fs:=J;rw[hd]at hR;simp only[km]at hR;refine xX ?_;refine⟨(k+1,g),⟨_,L,n,m,rfl,rfl,V,V,V,hn,g0,hR▸hM,λh=>?_,hfr⟩,?_⟩
     .have e:gO c (itS c k)=itS c k:=by
       show itS c (k+1)=_;rw[<-hR];exact hg0 h
      show gO c (itS c (k+1))=itS c (k+1);show gO c (gO c (itS c k))=gO c (itS c k);rw[e,e]
     .cases g with
      |false=>simp only[wh,x6];omega
      | true=>
       have h1:=hg1 rfl;rw[hR]at h1;have h2:gO c (itS c k)≠itS c k:=λe=>by
        have:itS c (k+1)=itS c k:=e;rw[this]at h1;omega
       have:=zxz h2;simp only[x6];omega
    .have hmem:f∈fs:=zv9 (by rw[hd];simp)
     have hcf:=Ut hd;obtain⟨hto,hts,htp⟩:=hf f hmem;rw[hd]at hR;simp only[km]at hR;have hset:=hok.set hi2 (Wl c f (hfs▸hmem));have hpre:=Vg (S:=S) (i:=i) f.b (ZR [] f.ps) (S.getD i []);obtain⟨ps,rest,cont,fr,b⟩:=f;have hcb:=wP b;obtain⟨bk,bv,bop,bn,bf,bas,bks⟩:=b;simp only[wD,wl,qd]at hcf hto hts htp hset hpre hR;have hw:=hM.wf;have lids:∀Y,Y∈ids->Y<n:=λY h=>hM.lt h;refine xY ?_;refine xY ?_;refine xU (x4 ?_);refine xY ?_;refine xY ?_;refine xU (xU (xX ?_));apply x4;refine wq (λx:Nat×zq=>zM ps-x.1) (λx f t=>∃T L2 m2,f=⟨tmL T,[]⟩/\t=KL L2 (n+1+1) m2 false/\G T 1 (.ptr n0 0)/\G T 3 (.sl (n0+1) 0 (zM fs) (.fix (zM fs)))/\G T 5 (.bool g)/\G T 6 i/\G T 7 (.ptr n 0)/\G T 8 (.map (n+1))/\G T 27 (.lst (zM fs) false (xW wD fs))/\G T 28 (zM fs)/\G T 29 i/\G T 36 (.lst (zM ps) false (xW wg ps))/\G T 37 (zM ps)/\G T 38 x.1/\x.1<=zM ps/\x3 L2 n=some (.row 42 [.lst (zM ps) false (xW wg ps),.bool rest,.bool cont,.lst (zM fr) false (xW wg fr),bk,bv,bop,bn,bf,.lst (zM bas) false (xW qO bas),.lst (zM bks) false (wS bks)])/\x3 L2 (n+1)=some (.umap (uS x.2))/\ZR x.2 (ps.drop x.1)=ZR [] ps/\WfA L2 (n+1+1)/\∀j,j<n->x3 L2 j=x3 L j/\m2.testBit j=m.testBit j) (λx f t hI=>?_) (0,[]) ⟨_,_,_,rfl,rfl,V,V,V,V,V,V,V,V,V,V,V,V,yh _,?_,?_,rfl,?_,λj hj=>⟨?_,?_⟩⟩
     .clear t1 t3 t5 t27 t28 t29 hcf;obtain⟨T,L2,m2,rfl,rfl,t1,t3,t5,t6,t7,t8,t27,t28,t29,t36,t37,t38,hj,gf,gs,hins,hw2,hfr2⟩:=hI;obtain⟨j,sc⟩:=x;simp only at t38 hj gs hins|-;rcases wj ps j with ⟨hj2,hdp⟩|⟨p,hj2,hdp⟩
      .have hlt:¬j<zM ps:=J;rw[hdp]at hins;simp only[ZR]at hins;subst hins;have hidf:zM ids=zM fs:=by rw[hidl,hfs]
       have hM2:SetM ids S (n0+1) n0 L2 (n+1+1):=hM.oth hw2 λj hj _=>(hfr2 j hj).1;have hii:i<zM ids:=J;have hid:ids[i]? =some ids[i]:=yU hii;generalize hidd:ids[i]=Y at hid;have hidm:Y∈ids:=xJ hid;have hcut:wE 1 (wX i (ids.map Z.map))=some [.map Y]:=by
        have:(ids.map Z.map).drop i=.map Y::(ids.map Z.map).drop (i+1):=by
         rw[zuo (by simpa using hii)]
         simp[hidd]
        rw[qe,this];rfl
       have hsd:n+1∉ids:=λh=>by have:=lids _ h;omega
       have hCM:=hM2.cap (c:=.fix (zM fs)) hii gs hsd;have hoid:CapE.oid ⟨ids,S,i,n0+1,n+1,.fix (zM fs),false,false⟩=Y:=by
        show ids.getD i 0=Y;rw[xD,hid];rfl
       have hcap:=λm b=>Fh h48 hCM (λj hj=>by
        rcases hj with (h|h)|h
        .have:=lids j h;omega
        .rw[h];exact yx _
        .rw[h];show n0+1<_;omega) (y:=.mk bk bv bop bn bf bas bks) (by show Q8 (zM ids) _;rw[hidf];exact hto) hts (hok.nd i) (by show (zM ids)<_;omega) m b
       simp only[hoid,wl]at hcap;rw[hidf]at hcap;have hgt2:=hgt Y hidm;have hrow:=hM2.row;have hlt2:=lids Y hidm;generalize hown:je S i (.mk bk bv bop bn bf bas bks) (ZR [] ps) (S.getD i [])=own at *;generalize hfl:decide (zM own≠(S.getD i []).length)=b1 at hcap;have hfin:∀{L3:za},x3 L3 Y=some (.umap (uS own))->(∀j,j≠Y->x3 L3 j=x3 L2 j)->SetM ids (S.set i own) (n0+1) n0 L3 (n+1+1):=λh1 h2=>hM2.set hid h1 h2;have hS0:b1=false->S.set i own=S:=λh=>by
        rw[h]at hfl;obtain⟨z,hz⟩:=hpre;have:zM own=(S.getD i []).length:=by simpa using hfl
        rw[hz,yO]at this;have hz0:z=[]:=yS J;rw[hz,hz0,zv6,Ht]
       have hS1:b1=true->gF S<gF (S.set i own):=λh=>by
        rw[h]at hfl;obtain⟨z,hz⟩:=hpre;have h1:zM own≠(S.getD i []).length:=by simpa using hfl
        have h2:=iF (l:=own) (show i<(zM S) by rw[hM2.len];exact hii)
        rw[hz,yO]at h1 h2;rw[hz];omega
       have hle:gF S<=gF (S.set i own):=by
        cases b1 with
        |true=>exact Nat.le_of_lt (hS1 rfl)
        |false=>rw[hS0 rfl];exact zS _
       have hg2:(b1||g)=false->S.set i own=itS c k:=λh=>by
        simp only[Bool.or_eq_false_iff]at h;rw[hS0 h.1];exact hg0 h.2
       have hg3:(b1||g)=true->gF (itS c k)<gF (S.set i own):=λh=>by
        cases g with
        |true=>exact Nat.lt_of_lt_of_le (hg1 rfl) hle
        |false=>
         rw[zup]at h;rw[<-hg0 rfl];exact hS1 h
       have hfr4:∀j,j<n0->x3 L2 j=x3 L0 j/\m2.testBit j=m0.testBit j:=λj hj=>by
        have h1:=hfr2 j J;rw[h1.1,h1.2];exact hfr j hj
       have g02:x3 L2 n0=some (.row 25 [.lst (zM fs) false (xW wD fs),main,vars,globals,.lst (zM consts) false (wy consts)]):=by
        rw[(hfr2 n0 J).1];exact g0
       clear hfl hS0 hS1 hle hg0 hg1 hfr hfr2 hM hM2 hCM hown hpre hto hts hoid hcc hidl;refine xX ?_;refine wi ?_;refine w7 (hcap 0 false) λv t hv=>?_;obtain⟨L3,m3,rfl,rfl,q1,q2,q3⟩:=hv;have hM3:=hfin q1 q2;have g03:x3 L3 n0=some (.row 25 [.lst (zM fs) false (xW wD fs),main,vars,globals,.lst (zM consts) false (wy consts)]):=by
        rw[q2 n0 J];exact g02
       have hfr5:∀j,j<n0->x3 L3 j=x3 L0 j/\(m2|||m3).testBit j=m0.testBit j:=λj hj=>by
        refine⟨by rw[q2 j J];exact(hfr4 j hj).1,?_⟩
        rw[xd,q3 j (by
         rintro(h|h)
         .have:=hgt j h;omega
         .have:j=n+1:=h;omega)]
        simp[(hfr4 j hj).2]
       clear hcap hfin hfr4 q1 q2 q3 g02 hrow gs gf;cases b1 with
       |true=>
        refine xX ?_;refine xX ?_;exact⟨(i+1,S.set i own,true),⟨_,L3,n+1+1,_,rfl,rfl,V,V,V,V,V,V,by simp only;omega,J,g03,hM3,hset,hR,(λh=>by cases h),(λ_=>hg3 rfl),hfr5⟩,by simp only;omega⟩
       |false=>
        rw[xR]at hg2 hg3;refine xX ?_;refine xX ?_;exact⟨(i+1,S.set i own,g),⟨_,L3,n+1+1,_,rfl,rfl,V,V,V,V,V,V,by simp only;omega,J,g03,hM3,hset,hR,hg2,hg3,hfr5⟩,by simp only;omega⟩
      .have hcp:=uz hdp;have hst:=OM sc p;rw[hdp]at hins;simp only[ZR]at hins;have hfr3:=hfr2;clear hfr2 hfr hR hset hpre hg0 hg1 hto;refine xX ?_;refine⟨(j+1,WV sc p),⟨_,_,_,rfl,rfl,V,V,V,V,V,V,V,V,V,V,V,V,by simp only;omega,by rw[gN J];exact gf,x8 _ _ _,hins,WfA.same hw2 J,λj hj=>⟨?_,?_⟩⟩,by simp only;omega⟩
       .rw[gN J];exact(hfr3 j hj).1
       .rw[vm J];exact(hfr3 j hj).2
     .rw[gN J,x8]
     .rw[x8];rfl
     ·(repeat first|exact hw.up J|refine WfA.same ?_ J)
     ·(repeat (rw[gN J]))
     ·(repeat rw[vm J])
 ·(repeat first|exact hw0.up J|refine WfA.same ?_ J)
 ·(repeat (rw[gN J]));rw[x8]
 ·(repeat (rw[gN J]))
end
def wu(n m:Int):Bool:= !ltD n (.ofNat 0)&&ltD n m
def ZM(x:Int×Int):zt:=[.int .i64 x.1,.int .i64 x.2]
def LG:∀x y,ZM x=ZM y->x=y:=λ⟨a,b⟩ ⟨c,d⟩ h=>by simpa [ZM]using h
def dP(x:Int×Int):wkL (ZM x)=ZM x:=by simp only[ZM,wkL,wkV]
theorem Gk(x:Int×Int):wo (ZM x)=true:=rfl
def Yy:zt->U->zb:=vw ZM (λ_=>True) (λx=>.bool (wu x.1 x.2))
attribute [local go_sem] ZM in
def EQ(B:Bx P X)(hO:OrcOk P X O)(x:Int×Int):∃s1,SC P X 77 (ZM x) (s00 0 true) (.bool (wu x.1 x.2)) s1:=by
 refine be B hO f77 ?_;obtain⟨n,m⟩:=x;unfold f77 cF;simp only[wu];refine xY ?_;cases h1:ltD n (.ofNat 0)with
 |true=>
  refine xY ?_;refine jr (r:=.ret) ?_;show Cv _ _;refine qz ?_;exact qj _ _
 |false=>
  refine xY ?_;refine jr (r:=.ret) ?_;show Cv _ _;refine qz ?_;exact qj _ _
def Yh(h:O 77=some Yy)(a b:Int)(s:U):cl O 77 [a,b] s=some (.bool (wu a b),s):=oc h LG (a,b) trivial (dP (a,b)) s
def primL:zq:=[.ofNat 2,.ofNat 1,.ofNat 2,.ofNat 1,.ofNat 1,.ofNat 2,.ofNat 2,.ofNat 1,.ofNat 2,.ofNat 2,.ofNat 2,.ofNat 2,.ofNat 2,.ofNat 2,.ofNat 2,.ofNat 1,.ofNat 1,.ofNat 1,.ofNat 1,.ofNat 2,.ofNat 1,.ofNat 2,.ofNat 3,.ofNat 1,.ofNat 1,.ofNat 1,.ofNat 1,.ofNat 2,.ofNat 1,.ofNat 2,.ofNat 3,.ofNat 1,.ofNat 2,.ofNat 1,.ofNat 2,.ofNat 3,.ofNat 1,.ofNat 0,.ofNat 1,.ofNat 1,.ofNat 0,.ofNat 0]
def jO(n:Int):Int:=bif wu n (.ofNat 42)then primL.getD n.toNat 0 else .negSucc 0
def kQ(n:Int):zt:=[.int .i64 n]
def Ww:∀x y,kQ x=kQ y->x=y:=λa b h=>by simpa [kQ]using h
def Vr(x:Int):wkL (kQ x)=kQ x:=by simp only[kQ,wkL,wkV]
theorem Yu(x:Int):wo (kQ x)=true:=rfl
def Pb:zt->U->zb:=vw kQ (λ_=>True) (λx=>.int .i64 (jO x))
def HD{n:Int}(h:ltD n (.ofNat 0)=false):∃k,n=.ofNat k:=by
 cases n with
 |ofNat k=>exact⟨k,rfl⟩
 |negSucc k=>simp[ltD]at h
section
attribute [local go_sem] kQ
def Ae(B:Bx P X)(hO:OrcOk P X O)(n:Int):∃s1,SC P X 11 (kQ n) (s00 0 true) (.int .i64 (jO n)) s1:=by
 refine be B hO f11 ?_;unfold f11 cF;simp only[jO,wu];refine xY ?_;refine xY ?_;cases h1:ltD n (.ofNat 0)with
 |true=>
  refine ev_zc ?_;exact wT _ _ _
 | false=>
  obtain⟨k,rfl⟩:=HD h1;cases h2:ltD (.ofNat k) (.ofNat 42)with
  |false=>
   refine ev_zc ?_;exact wT _ _ _
  | true=>
   have hk:k<42:=by simp[ltD]at h2;omega
   have hc:= @uz primL k (primL.getD k 0) (primL.drop (k+1)) (by
    rw[zuo (show k<(zM primL)from hk),xD,yU (show k<(zM primL)from hk)];rfl)
   show Ev _ λr fr t=>Cv (Xd _ (qv _ _ (some (r,fr,t)))) λv0 s1=>Fz s1 v0 (.int .i64 (primL.getD k 0));generalize primL.getD k 0=v at *;simp only[primL,xW,wg,yd,zuc]at hc;refine xY ?_;refine xY ?_;refine jr (r:=.ret) ?_;show Cv _ _;refine qz ?_;exact wT _ _ _
def jL(n:Int):Int:=
 bif eqD n (.ofNat 103)||(eqD n (.ofNat 105)||eqD n (.ofNat 106))then .ofNat 0
 else bif eqD n (.ofNat 100)||(eqD n (.ofNat 101)||eqD n (.ofNat 104))then .ofNat 1
 else bif eqD n (.ofNat 102)then .ofNat 2 else jO n
def nT:zt->U->zb:=vw kQ (λ_=>True) (λx=>.int .i64 (jL x))
def O6(B:Bx P X)(hO:OrcOk P X O)(h132:O 11=some Pb)(n:Int):∃s1,SC P X 185 (kQ n) (s00 0 true) (.int .i64 (jL n)) s1:=by
 refine be B hO f185 ?_;have hp:=λs=>oc h132 Ww n trivial (Vr n) s;unfold f185 cF;simp only[jL,kQ]at hp|-;have hpn:(bif wu n (.ofNat 42)then jO n else .negSucc 0)=jO n:=by
  unfold jO;cases wu n (.ofNat 42)<;>rfl
 simp only[wu]at hpn;refine xY ?_;cases a1:eqD n (.ofNat 103)with
 |true=>refine xX ?_;refine qz ?_;exact wT _ _ _
 |false=>
 cases a2:eqD n (.ofNat 105)with
 |true=>refine xX ?_;refine qz ?_;exact wT _ _ _
 |false=>
 cases a3:eqD n (.ofNat 106)with
 |true=>refine xX ?_;refine qz ?_;exact wT _ _ _
 |false=>
 cases a4:eqD n (.ofNat 100)with
 |true=>refine xX ?_;refine qz ?_;exact wT _ _ _
 |false=>
 cases a5:eqD n (.ofNat 101)with
 |true=>refine xX ?_;refine qz ?_;exact wT _ _ _
 |false=>
 cases a6:eqD n (.ofNat 104)with
 |true=>refine xX ?_;refine qz ?_;exact wT _ _ _
 |false=>
 cases a7:eqD n (.ofNat 102)with
 |true=>refine xX ?_;refine qz ?_;exact wT _ _ _
 |false=>
 show Ev _ λr fr t=>Cv (Xd _ (qv _ _ (some (r,fr,t)))) λv0 s1=>Fz s1 v0 (.int .i64 (jO n));generalize jO n=p at *;refine xY ?_;cases b1:ltD n (.ofNat 0)with
 |true=>
  rw[b1]at hpn;simp only[xS,zv7,wh]at hpn;subst hpn;refine xX ?_;refine qz ?_;exact wT _ _ _
 |false=>
 cases b2:ltD n (.ofNat 42)with
 |false=>
  rw[b1,b2]at hpn;simp only[zuj,wh]at hpn;subst hpn;refine xX ?_;refine qz ?_;exact wT _ _ _
 |true=>
  clear hpn;refine xY ?_;refine xY ?_;refine jr (r:=.ret) ?_;show Cv _ _;refine qz ?_;exact wT _ _ _
end
def G6(c:Cd)(f:Fn)(op:Int):Int:=
 bif eqD op (.ofNat 103)||eqD op (.ofNat 104)then c.globals else bif eqD op (.ofNat 105)then .ofNat (zM f.fr)else .ofNat 1
def Qg(c:Cd)(f:Fn)(t:Trm):Bool:=
 eqD (jL t.op) (.ofNat t.atoms.length)&&(wu t.num (G6 c f t.op)&&(eqD t.fn (.ofNat 0)&&(decide (t.kids.length=1)&&wu t.var c.vars)))
def u0(x:Cd×Fn×Trm):zt:=[vy x.1,jy x.2.1,q8 x.2.2]
def Qy:∀x y,u0 x=u0 y->x=y:=λ⟨a,b,c⟩ ⟨d,e,f⟩ h=>by
 simp only[u0,qJ,and_true]at h;rw[LC h.1,LF h.2.1,LL h.2.2]
def Ux(x:Cd×Fn×Trm):wkL (u0 x)=u0 x:=by simp only[u0,wkL,dN,dO,dS]
def Xr(x:Cd×Fn×Trm):wo (u0 x)=true:=by simp only[u0,vy,jy,q8,ww,uC,p7,Xj,p9,wA,xO]
def nS:zt->U->zb:=vw u0 (λ_=>True) (λx=>.bool (Qg x.1 x.2.1 x.2.2))
def XP(h:b=a):Fz s (.bool a) (.bool b):=h▸qj s b
def qt{X9:zh}{U9:zb}{Q:Res->Fr->U->Prop}{R:Z->U->Prop}{v:Z}{r:Res}{fr':Fr}{s3:U}{x:Bool}(hR:x=b)(h:X9=some (r,fr',s'):=by (simp (disch:=first|exact dis|fail)only[go_sem,seval,-Int.reduceOfNat,-Int.reduceNegSucc, *];exact rfl))(h2:Q r fr' s'=Cv U9 R:=by (try simp only[wJ,ub,if_true, ↓reduceIte]);first|done|exact rfl)(h3:U9=some (v,s):=by (simp (disch:=first|exact dis|fail)only[go_sem,seval,-Int.reduceOfNat,-Int.reduceNegSucc,Nat.mod_one, *];exact rfl))(h4:R v s=Fz s3 (.bool a) (.bool b):=by exact rfl)(h5:x=a:=by simp only[*,decide_true,decide_false,Bool.and_true,Bool.true_and,Bool.and_false,Bool.false_and,Bool.and_self,Bool.or_true,Bool.true_or,Bool.or_false,Bool.false_or,Bool.or_self,Bool.not_true,Bool.not_false,x6,wh,if_true,if_false, ↓reduceIte]):Ev X9 Q:=by
 subst h;exact jr (by rw[h2,h3];exact J9 (by rw[h4,<-h5,hR];exact qj _ _))
def kS{U9:zb}{Q:Res->Fr->U->Prop}{R:Z->U->Prop}{v:Z}{fr':Fr}{s3:U}{x:Bool}(hR:x=b)(h2:Q .ret fr' s'=Cv U9 R:=by exact rfl)(h3:U9=some (v,s):=by (simp (disch:=first|exact dis|fail)only[go_sem,seval,-Int.reduceOfNat,-Int.reduceNegSucc,Nat.mod_one, *];exact rfl))(h4:R v s=Fz s3 (.bool a) (.bool b):=by exact rfl)(h5:x=a:=by simp only[*,decide_true,decide_false,Bool.and_true,Bool.true_and,Bool.and_false,Bool.false_and,Bool.and_self,Bool.or_true,Bool.true_or,Bool.or_false,Bool.false_or,Bool.or_self,Bool.not_true,Bool.not_false,x6,wh,if_true,if_false, ↓reduceIte]):Ev (some (.ret,fr',s')) Q:=jr (by rw[h2,h3];exact J9 (by rw[h4,<-h5,hR];exact qj _ _))
section
variable {P:Program}{X:World}(B:Bx P X){O:Orc}(hO:OrcOk P X O)
include B hO
attribute [local go_sem] u0 vy jy q8 qi wD wl qd in
def NS(h147:O 185=some nT)(h66:O 77=some Yy)(x:Cd×Fn×Trm):∃s1,SC P X 156 (u0 x) (s00 0 true) (.bool (Qg x.1 x.2.1 x.2.2)) s1:=by
 refine be B hO f156 ?_;obtain⟨⟨fs,main,vars,globals,consts⟩,⟨ps,rest,cont,fr,b⟩,⟨k,v,op,num,fn,az,ks⟩⟩:=x;have ht:=λs=>oc h147 Ww op trivial (Vr op) s;have hb:=Yh h66;obtain⟨R,hR⟩:∃R,Qg ⟨fs,main,vars,globals,consts⟩ ⟨ps,rest,cont,fr,b⟩ (.mk k v op num fn az ks)=R:=⟨_,rfl⟩;rw[hR];simp only[Qg,G6,Trm.op,Trm.atoms,Trm.num,Trm.fn,Trm.kids,Trm.var]at hR;obtain⟨bk,bv,bop,bn,bf,bas,bks⟩:=b;unfold f156 cF;simp only[kQ]at ht|-;generalize jL op=tk at *;refine xY ?_;refine xY ?_;cases a1:eqD op (.ofNat 103)with
 |true=>
  rw[a1]at hR;simp only[zuE,x6]at hR;refine xY ?_;have hb1:=hb num (globals);have hb2:=hb v vars;clear hb;generalize wu num (globals)=c2 at *;generalize wu v vars=c5 at *;cases e1:eqD tk (.ofNat (zM az))with
  |false=>refine xY ?_;exact kS hR
  |true=>
  cases c2 with
  |false=>refine xY ?_;exact kS hR
  |true=>
  cases e3:eqD fn (.ofNat 0)with
  |false=>refine xY ?_;exact kS hR
  |true=>
  by_cases e4:zM ks=1
  .refine xY ?_;exact kS hR
  .refine xY ?_;exact kS hR
 |false=>
 cases a2:eqD op (.ofNat 104)with
 |true=>
  rw[a1,a2]at hR;simp only[zuw,x6]at hR;refine xY ?_;have hb1:=hb num (globals);have hb2:=hb v vars;clear hb;generalize wu num (globals)=c2 at *;generalize wu v vars=c5 at *;cases e1:eqD tk (.ofNat (zM az))with
  |false=>refine xY ?_;exact kS hR
  |true=>
  cases c2 with
  |false=>refine xY ?_;exact kS hR
  |true=>
  cases e3:eqD fn (.ofNat 0)with
  |false=>refine xY ?_;exact kS hR
  |true=>
  by_cases e4:zM ks=1
  .refine xY ?_;exact kS hR
  .refine xY ?_;exact kS hR
 |false=>
 cases a3:eqD op (.ofNat 105)with
 |true=>
  rw[a1,a2,a3]at hR;simp only[zup,wh,x6]at hR;refine xY ?_;have hb1:=hb num (.ofNat (zM fr));have hb2:=hb v vars;clear hb;generalize wu num (.ofNat (zM fr))=c2 at *;generalize wu v vars=c5 at *;cases e1:eqD tk (.ofNat (zM az))with
  |false=>refine xY ?_;exact kS hR
  |true=>
  cases c2 with
  |false=>refine xY ?_;exact kS hR
  |true=>
  cases e3:eqD fn (.ofNat 0)with
  |false=>refine xY ?_;exact kS hR
  |true=>
  by_cases e4:zM ks=1
  .refine xY ?_;exact kS hR
  .refine xY ?_;exact kS hR
 |false=>
  rw[a1,a2,a3]at hR;simp only[zup,wh]at hR;refine xY ?_;have hb1:=hb num (.ofNat 1);have hb2:=hb v vars;clear hb;generalize wu num (.ofNat 1)=c2 at *;generalize wu v vars=c5 at *;cases e1:eqD tk (.ofNat (zM az))with
  |false=>refine xY ?_;exact kS hR
  |true=>
  cases c2 with
  |false=>refine xY ?_;exact kS hR
  |true=>
  cases e3:eqD fn (.ofNat 0)with
  |false=>refine xY ?_;exact kS hR
  |true=>
  by_cases e4:zM ks=1
  .refine xY ?_;exact kS hR
  .refine xY ?_;exact kS hR
end
def Uj(vars nc:Int)(a:Atm):Bool:= !((!eqD a.k (.ofNat 1)&& !eqD a.k (.ofNat 2))||((eqD a.k (.ofNat 1)&& !wu a.n vars)||(eqD a.k (.ofNat 2)&& !wu a.n nc)))
def fn0:Fn:=⟨[],false,false,[],.mk 0 0 0 0 0 [] []⟩
def QF(c:Cd)(n:Int):Fn:=c.fs.getD n.toNat fn0
def Z4(c:Cd)(k v op num fn:Int)(na nk:Nat):Bool:=
 !((!eqD op (.ofNat 0)|| !eqD num (.ofNat 0))||((!eqD k (.ofNat 2)&& !eqD v (.ofNat 0))||((!eqD k (.ofNat 2)&& !eqD k (.ofNat 5))&& !eqD fn (.ofNat 0))))&&
 (bif eqD k (.ofNat 2)then (wu fn (.ofNat (zM c.fs))&&(wu v c.vars&&decide (na=(QF c fn).fr.length)))&&decide (nk=1)
  else bif eqD k (.ofNat 3)then decide (na=1)&&decide (nk=2)
  else bif eqD k (.ofNat 4)then decide (1<=na)&&decide (nk=0)
  else bif eqD k (.ofNat 6)then decide (2<=na)&&decide (nk=0)
  else bif eqD k (.ofNat 5)then (wu fn (.ofNat (zM c.fs))&&(!(QF c fn).rest&&decide (na=1+(QF c fn).ps.length)))&&decide (nk=0)
  else eqD k (.ofNat 7)&&(decide (na=0)&&decide (nk=0)))
def vY(c:Cd)(f:Fn)(t:Trm):Bool:=
 t.atoms.all (Uj c.vars (.ofNat (zM c.consts)))&&(bif eqD t.kind (.ofNat 1)then Qg c f t else Z4 c t.kind t.var t.op t.num t.fn t.atoms.length t.kids.length)
def rX(x:Cd×Fn×Trm):Prop:=(∀g∈x.1.fs,g.ps.length<1000000000)/\zM x.2.2.atoms<1000000000
def aR:zt->U->zb:=vw u0 rX (λx=>.bool (vY x.1 x.2.1 x.2.2))
theorem lg{l:List Fn}{i:Nat}{o:Fn}{r:List Fn}(hd:l.drop i=o::r):wX (i*11) (xW wD l)=wD o++xW wD r:=by
 rw[uo pw,hd];rfl
def jR{n:Int}(h:wu n (.ofNat N)=true):∃j,n=.ofNat j/\j<N:=by
 simp only[wu,zP,Bool.not_eq_true']at h;obtain⟨j,rfl⟩:=HD h.1;refine⟨j,rfl,?_⟩;have:=h.2;simp only[ltD,jm]at this;exact Int.ofNat_lt.1 this
section
variable {P:Program}{X:World}(B:Bx P X){O:Orc}(hO:OrcOk P X O)
include B hO
attribute [local go_sem] u0 vy jy q8 qi wD wl qd in
def Cl (h118:O 156=some nS)(h66:O 77=some Yy)(x:Cd×Fn×Trm)(hx:rX x):∃s1,SC P X 119 (u0 x) (s00 0 true) (.bool (vY x.1 x.2.1 x.2.2)) s1:=by
 refine be B hO f119 ?_;have hpr:=λs=>oc h118 Qy x trivial (Ux x) s;obtain⟨⟨fs,main,vars,globals,consts⟩,⟨ps,rest,cont,fr,b⟩,⟨k,v,op,num,fn,az,ks⟩⟩:=x;obtain⟨hps,hal⟩:=hx;have hb:=Yh h66;simp only[Trm.atoms]at hps hal;obtain⟨R,hR⟩:∃R,vY ⟨fs,main,vars,globals,consts⟩ ⟨ps,rest,cont,fr,b⟩ (.mk k v op num fn az ks)=R:=⟨_,rfl⟩;rw[hR];simp only[vY,Trm.kind,Trm.op,Trm.atoms,Trm.num,Trm.fn,Trm.kids,Trm.var]at hR;generalize Qg ⟨fs,main,vars,globals,consts⟩ ⟨ps,rest,cont,fr,b⟩ (.mk k v op num fn az ks)=pr at *;obtain⟨bk,bv,bop,bn,bf,bas,bks⟩:=b;simp only[u0,vy,jy,q8,qi,wD,wl,qd]at hpr;unfold f119 cF;simp only;refine xY ?_;refine xU (xU (xX ?_));apply x4;refine wq (λi:Nat=>zM az-i) (λi f t=>∃T L n m,f=⟨tmL T,[]⟩/\t=KL L n m true/\G T 3 (.ptr 0 0)/\G T 4 (.ptr 1 0)/\G T 5 (.ptr 2 0)/\G T 12 (.lst (zM az) false (xW qO az))/\G T 13 (zM az)/\G T 14 i/\i<=zM az/\3<=n/\x3 L 0=some (.row 25 [.lst (zM fs) false (xW wD fs),main,vars,globals,.lst (zM consts) false (wy consts)])/\x3 L 1=some (.row 42 [.lst (zM ps) false (xW wg ps),.bool rest,.bool cont,.lst (zM fr) false (xW wg fr),bk,bv,bop,bn,bf,.lst (zM bas) false (xW qO bas),.lst (zM bks) false (wS bks)])/\x3 L 2=some (.row 40 [k,v,op,num,fn,.lst (zM az) false (xW qO az),.lst (zM ks) false (wS ks)])/\az.all (Uj vars (.ofNat (zM consts)))=(az.drop i).all (Uj vars (.ofNat (zM consts)))) (λi f t hI=>?_) 0 ⟨_,_,3,_,rfl,rfl,sW,sW,sW,sW,sW,sW,yh _,zS _,sW,sW,sW,rfl⟩;obtain⟨T,L,n,m,rfl,rfl,t3,t4,t5,t12,t13,t14,hi,hn,g0,g1,g2,hal2⟩:=hI;rcases wj az i with ⟨hi2,hd⟩|⟨a,hi2,hd⟩
 .have hlt:¬i<zM az:=J;rw[hd]at hal2;rw[hal2,show ([]:List Atm).all (Uj vars (.ofNat (zM consts)))=true from rfl,y9]at hR;clear hal2 hd;refine xX ?_;refine xY ?_;by_cases k1:k=.ofNat 1
  .subst k1;simp only[show eqD (.ofNat 1) (.ofNat 1)=true from rfl,x6]at hR;refine xX ?_;refine qz ?_;exact XP rfl
  by_cases k2:k=.ofNat 2
  .subst k2;simp only[Z4,show eqD (.ofNat 2) (.ofNat 1)=false from rfl,show eqD (.ofNat 2) (.ofNat 2)=true from rfl,show eqD (.ofNat 2) (.ofNat 3)=false from rfl,show eqD (.ofNat 2) (.ofNat 4)=false from rfl,show eqD (.ofNat 2) (.ofNat 5)=false from rfl,show eqD (.ofNat 2) (.ofNat 6)=false from rfl,show eqD (.ofNat 2) (.ofNat 7)=false from rfl,x6,wh,xS,zuh,zv7,xR]at hR;cases a1:eqD op (.ofNat 0)with
   |false=>exact qt hR
   |true=>
   cases a2:eqD num (.ofNat 0)with
   |false=>exact qt hR
   |true=>
   have hb1:=hb fn (.ofNat (zM fs));have hb2:=hb v vars;clear hb;cases c1:wu fn (.ofNat (zM fs))with
   |false=>rw[c1]at hb1 hR;exact qt hR
   |true=>
   rw[c1]at hb1 hR;obtain⟨j,rfl,hj⟩:=jR c1;clear c1;cases c2:wu v vars with
   |false=>rw[c2]at hb2 hR;exact qt hR
   |true=>
   rw[c2]at hb2 hR;clear c2;have hdj:fs.drop j=fs[j]::fs.drop (j+1):=zuo hj;have hdr:=lg hdj;have hg:QF ⟨fs,main,vars,globals,consts⟩ (.ofNat j)=fs[j]:=by
    show fs.getD j fn0=_;rw[xD,yU hj];rfl
   have hgl:=hps fs[j] (zuG hj);rw[hg]at hR;clear hg hps hdj;generalize fs[j]=g at *;obtain⟨gps,grest,gcont,gfr,gb⟩:=g;obtain⟨gk,gv,gop,gn,gf,gas,gks⟩:=gb;simp only[wD,wl,qd,yd,zuc]at hdr hgl hR;by_cases c3:zM az=zM gfr
   .by_cases c4:zM ks=1
    .exact qt hR
    .exact qt hR
   .exact qt hR
  by_cases k3:k=.ofNat 3
  .subst k3;simp only[Z4,show eqD (.ofNat 3) (.ofNat 1)=false from rfl,show eqD (.ofNat 3) (.ofNat 2)=false from rfl,show eqD (.ofNat 3) (.ofNat 3)=true from rfl,show eqD (.ofNat 3) (.ofNat 4)=false from rfl,show eqD (.ofNat 3) (.ofNat 5)=false from rfl,show eqD (.ofNat 3) (.ofNat 6)=false from rfl,show eqD (.ofNat 3) (.ofNat 7)=false from rfl,x6,wh,zuh,zv7,y9]at hR;cases a1:eqD op (.ofNat 0)with
   |false=>exact qt hR
   |true=>
   cases a2:eqD num (.ofNat 0)with
   |false=>exact qt hR
   |true=>
   cases a3:eqD v (.ofNat 0)with
   |false=>exact qt hR
   |true=>
   cases a4:eqD fn (.ofNat 0)with
   |false=>exact qt hR
   |true=>
   by_cases c1:zM az=1
   .by_cases c2:zM ks=2
    .exact qt hR
    .exact qt hR
   .exact qt hR
  by_cases k4:k=.ofNat 4
  .subst k4;simp only[Z4,show eqD (.ofNat 4) (.ofNat 1)=false from rfl,show eqD (.ofNat 4) (.ofNat 2)=false from rfl,show eqD (.ofNat 4) (.ofNat 3)=false from rfl,show eqD (.ofNat 4) (.ofNat 4)=true from rfl,show eqD (.ofNat 4) (.ofNat 5)=false from rfl,show eqD (.ofNat 4) (.ofNat 6)=false from rfl,show eqD (.ofNat 4) (.ofNat 7)=false from rfl,x6,wh,zuh,zv7,y9]at hR;cases a1:eqD op (.ofNat 0)with
   |false=>exact qt hR
   |true=>
   cases a2:eqD num (.ofNat 0)with
   |false=>exact qt hR
   |true=>
   cases a3:eqD v (.ofNat 0)with
   |false=>exact qt hR
   |true=>
   cases a4:eqD fn (.ofNat 0)with
   |false=>exact qt hR
   |true=>
   by_cases c1:1<=zM az
   .by_cases c2:zM ks=0
    .exact qt hR
    .exact qt hR
   .exact qt hR
  by_cases k5:k=.ofNat 5
  .subst k5;simp only[Z4,show eqD (.ofNat 5) (.ofNat 1)=false from rfl,show eqD (.ofNat 5) (.ofNat 2)=false from rfl,show eqD (.ofNat 5) (.ofNat 3)=false from rfl,show eqD (.ofNat 5) (.ofNat 4)=false from rfl,show eqD (.ofNat 5) (.ofNat 5)=true from rfl,show eqD (.ofNat 5) (.ofNat 6)=false from rfl,show eqD (.ofNat 5) (.ofNat 7)=false from rfl,x6,wh,xS,zuh,zv7,y9]at hR;cases a1:eqD op (.ofNat 0)with
   |false=>exact qt hR
   |true=>
   cases a2:eqD num (.ofNat 0)with
   |false=>exact qt hR
   |true=>
   cases a3:eqD v (.ofNat 0)with
   |false=>exact qt hR
   |true=>
   have hb1:=hb fn (.ofNat (zM fs));clear hb;cases c1:wu fn (.ofNat (zM fs))with
   |false=>rw[c1]at hb1 hR;exact qt hR
   |true=>
   rw[c1]at hb1 hR;obtain⟨j,rfl,hj⟩:=jR c1;clear c1;have hdj:fs.drop j=fs[j]::fs.drop (j+1):=zuo hj;have hdr:=lg hdj;have hg:QF ⟨fs,main,vars,globals,consts⟩ (.ofNat j)=fs[j]:=by
    show fs.getD j fn0=_;rw[xD,yU hj];rfl
   have hgl:=hps fs[j] (zuG hj);rw[hg]at hR;clear hg hps hdj;generalize fs[j]=g at *;obtain⟨gps,grest,gcont,gfr,gb⟩:=g;obtain⟨gk,gv,gop,gn,gf,gas,gks⟩:=gb;simp only[wD,wl,qd,yd,zuc]at hdr hgl hR;cases grest with
   |true=>exact qt hR
   |false=>
   by_cases c3:zM az=1+zM gps
   .by_cases c4:zM ks=0
    .exact qt hR
    .exact qt hR
   .exact qt hR
  by_cases k6:k=.ofNat 6
  .subst k6;simp only[Z4,show eqD (.ofNat 6) (.ofNat 1)=false from rfl,show eqD (.ofNat 6) (.ofNat 2)=false from rfl,show eqD (.ofNat 6) (.ofNat 3)=false from rfl,show eqD (.ofNat 6) (.ofNat 4)=false from rfl,show eqD (.ofNat 6) (.ofNat 5)=false from rfl,show eqD (.ofNat 6) (.ofNat 6)=true from rfl,show eqD (.ofNat 6) (.ofNat 7)=false from rfl,x6,wh,zuh,zv7,y9]at hR;cases a1:eqD op (.ofNat 0)with
   |false=>exact qt hR
   |true=>
   cases a2:eqD num (.ofNat 0)with
   |false=>exact qt hR
   |true=>
   cases a3:eqD v (.ofNat 0)with
   |false=>exact qt hR
   |true=>
   cases a4:eqD fn (.ofNat 0)with
   |false=>exact qt hR
   |true=>
   by_cases c1:2<=zM az
   .by_cases c2:zM ks=0
    .exact qt hR
    .exact qt hR
   .exact qt hR
  by_cases k7:k=.ofNat 7
  .subst k7;simp only[Z4,show eqD (.ofNat 7) (.ofNat 1)=false from rfl,show eqD (.ofNat 7) (.ofNat 2)=false from rfl,show eqD (.ofNat 7) (.ofNat 3)=false from rfl,show eqD (.ofNat 7) (.ofNat 4)=false from rfl,show eqD (.ofNat 7) (.ofNat 5)=false from rfl,show eqD (.ofNat 7) (.ofNat 6)=false from rfl,show eqD (.ofNat 7) (.ofNat 7)=true from rfl,wh,zuh,y9]at hR;cases a1:eqD op (.ofNat 0)with
   |false=>exact qt hR
   |true=>
   cases a2:eqD num (.ofNat 0)with
   |false=>exact qt hR
   |true=>
   cases a3:eqD v (.ofNat 0)with
   |false=>exact qt hR
   |true=>
   cases a4:eqD fn (.ofNat 0)with
   |false=>exact qt hR
   |true=>
   by_cases c1:zM az=0
   .by_cases c2:zM ks=0
    .exact qt hR
    .exact qt hR
   .exact qt hR
  have e1:=w8 k1;have e2:=w8 k2;have e3:=w8 k3;have e4:=w8 k4;have e5:=w8 k5;have e6:=w8 k6;have e7:=w8 k7;simp only[Z4,e1,e2,e3,e4,e5,e6,e7,wh,zv7,zuj]at hR;subst hR;cases a1:eqD op (.ofNat 0)with
  |false=>refine xX ?_;refine qz ?_;exact qj _ _
  |true=>
  cases a2:eqD num (.ofNat 0)with
  |false=>refine xX ?_;refine qz ?_;exact qj _ _
  |true=>
  cases a3:eqD v (.ofNat 0)with
  |false=>refine xX ?_;refine qz ?_;exact qj _ _
  |true=>
  cases a4:eqD fn (.ofNat 0)with
  |false=>refine xX ?_;refine qz ?_;exact qj _ _
  |true=>
  refine xX ?_;refine qz ?_;exact qj _ _
 .have hc:=aC hd;rw[hd,zud]at hal2;have hb1:=hb a.n vars;have hb2:=hb a.n (.ofNat (zM consts));obtain⟨ak,an⟩:=a;simp only[Uj]at hal2;simp only at hc hb1 hb2;clear hb hpr;generalize wu an vars=b1 at *;generalize wu an (.ofNat (zM consts))=b2 at *;cases e1:eqD ak (.ofNat 1)with
  | false=>
   cases e2:eqD ak (.ofNat 2)with
   |false=>refine xX ?_;refine qz ?_;exact XP (by rw[<-hR,hal2];simp only[*,zv7,xO,zup,zuv,xS,zuh])
   | true=>
    cases b2 with
    |false=>refine xX ?_;refine qz ?_;exact XP (by rw[<-hR,hal2];simp only[*,zuj,zv7,xO,zuw,xS,zuh])
    | true=>
     (refine xX ?_
      exact⟨i+1,⟨_,_,n+1,_,rfl,rfl,V,V,V,V,V,V,J,J,by (repeat rw[gN J]);exact g0,by (repeat rw[gN J]);exact g1,by (repeat rw[gN J]);exact g2,(by rw[hal2];simp only[*,y9,zuj,zv7,zuv,xS,zuh])⟩,J⟩)
  | true=>
   cases b1 with
   |false=>refine xX ?_;refine qz ?_;exact XP (by rw[<-hR,hal2];simp only[*,zv7,xO,zuw,zuE,xS,zuh])
   | true=>
    cases e2:eqD ak (.ofNat 2)with
    | false=>
     (refine xX ?_
      exact⟨i+1,⟨_,_,n+1,_,rfl,rfl,V,V,V,V,V,V,J,J,by (repeat rw[gN J]);exact g0,by (repeat rw[gN J]);exact g1,by (repeat rw[gN J]);exact g2,(by rw[hal2];simp only[*,zut,y9,zuj,zv7,zuv,xS,zuh])⟩,J⟩)
    | true=>
     cases b2 with
     |false=>refine xX ?_;refine qz ?_;exact XP (by rw[<-hR,hal2];simp only[*,zuj,zv7,xO,zuw,xS,zuh])
     | true=>
      (refine xX ?_
       exact⟨i+1,⟨_,_,n+1,_,rfl,rfl,V,V,V,V,V,V,J,J,by (repeat rw[gN J]);exact g0,by (repeat rw[gN J]);exact g1,by (repeat rw[gN J]);exact g2,(by rw[hal2];simp only[*,y9,zuj,xO,zuv,xS,zuh])⟩,J⟩)
end
mutual
def vD(c:Cd)(f:Fn):Trm->Bool
 |.mk k v op n fn az ks=>vY c f (.mk k v op n fn az ks)&&uY c f ks
def uY(c:Cd)(f:Fn):List Trm->Bool
 |[]=>true
 |t::r=>vD c f t&&uY c f r
end
mutual
def SzT:Trm->Prop
 |.mk _ _ _ _ _ az ks=>zM az<1000000000/\zM ks<1000000000/\WR ks
def WR:List Trm->Prop
 |[]=>True
 |t::r=>SzT t/\WR r
end
def Dc{f:Fn}(h:Qg c f t=true):t.kids.length=1:=by
 simp only[Qg,zP,jm]at h;exact h.2.2.2.1
def Gy{c:Cd}{f:Fn}{t:Trm}(h:vY c f t=true):t.kids.length<=2:=by
 unfold vY at h;rw[zP]at h;have h2:=h.2;cases h1:eqD t.kind (.ofNat 1)with
 |true=>rw[h1]at h2;have:=Dc h2;omega
 | false=>
  rw[h1,wh]at h2;unfold Z4 at h2;rw[zP]at h2;have h3:=h2.2;have key:∀{a:Bool} {n:Nat},(a&&decide (t.kids.length=n))=true->t.kids.length=n:=λh=>by
   rw[zP,jm]at h;exact h.2
  cases e2:eqD t.kind (.ofNat 2)with
  |true=>rw[e2,x6]at h3;have:=key h3;omega
  |false=>
  rw[e2,wh]at h3;cases e3:eqD t.kind (.ofNat 3)with
  |true=>rw[e3,x6]at h3;have:=key h3;omega
  |false=>
  rw[e3,wh]at h3;cases e4:eqD t.kind (.ofNat 4)with
  |true=>rw[e4,x6]at h3;have:=key h3;omega
  |false=>
  rw[e4,wh]at h3;cases e6:eqD t.kind (.ofNat 6)with
  |true=>rw[e6,x6]at h3;have:=key h3;omega
  |false=>
  rw[e6,wh]at h3;cases e5:eqD t.kind (.ofNat 5)with
  |true=>rw[e5,x6]at h3;have:=key h3;omega
  |false=>
  rw[e5,wh,zP]at h3;have:=key h3.2;omega
section
variable {O:Orc}{c:Cd}{f:Fn}
def O7(h70:O 79=none)(h89:O 119=some aR)(hps:∀g∈c.fs,g.ps.length<1000000000):∀(k:Nat) (t:Trm),wN t<=k->SzT t->∀(L:za) (n m:Nat) (b:Bool),
  cl O 79 [vy c,jy f,q8 t] (KL L n m b)=some (.bool (vD c f t),KL L n m b):=by
 intro k
 induction k with
 |zero=>intro t h;have:=vd t;omega
 | succ k ih=>
  intro t hk hsz L n m b;have key:Cv (cl O 79 [vy c,jy f,q8 t] (KL L n m b)) λv t'=>v=.bool (vD c f t)/\t'=KL L n m b:=by
   refine vf (F:=f79) h70 rfl rfl (zv4 rfl) ?_;have hfo:=λt h s=>oc h89 Qy (c,f,t) h (Ux (c,f,t)) s;obtain⟨R,hR⟩:∃R,vD c f t=R:=⟨_,rfl⟩;rw[hR];have hcc:=p7 c;have hcl:(qi c).length=5:=rfl;have hcs:wO (qi c)=true:=by simp only[qi,jC,gR,lC,Z6,xO]
   have hfl:=pw f;have hfs:=Jm f;simp only[u0,vy,jy,q8]at hfo ih|-;generalize qi c=cc at *;generalize wD f=ff at *;have hc5:wE 5 cc=some cc:=qg hcl;have hf11:wE 11 ff=some ff:=qg hfl;unfold f79 cF;simp only;refine xY ?_;refine xU (x4 ?_);refine wq (λx:Trm=>wN x) (λx f' t'=>∃T L2 m',f'=⟨tmL T,[]⟩/\t'=KL L2 (n+1+1+1) m' true/\G T 3 (.ptr n 0)/\G T 4 (.ptr (n+1) 0)/\G T 5 (.ptr (n+1+1) 0)/\x3 L2 n=some (.row 25 cc)/\x3 L2 (n+1)=some (.row 42 ff)/\x3 L2 (n+1+1)=some (uy x)/\m'%2^n=0/\wN x<=k+1/\SzT x/\vD c f x=R) (λx f' t' hI=>?_) t ⟨_,_,_,rfl,rfl,sW,sW,sW,sW,sW,by simp (disch:=first|exact dis|fail)only[go_sem,seval,-rO,-rN,uy],by simp,hk,hsz,hR⟩
   clear hR hsz hk;obtain⟨T,L2,m',rfl,rfl,t3,t4,t5,g0,g1,g2,hm,hk,hsz,hR⟩:=hI;obtain⟨tk,v,op,num,fn,az,ks⟩:=x;have hcall:=hfo (.mk tk v op num fn az ks) ⟨hps,hsz.1⟩;have hfl2:= @Gy c f (.mk tk v op num fn az ks);simp only[vD]at hR;simp only[SzT]at hsz;simp only[Trm.kids]at hfl2;simp only[wl]at hcall;simp only[uy,wl]at g2;simp only[wN]at hk;clear hfo;generalize vY c f (.mk tk v op num fn az ks)=bb at *;cases bb with
   |false=>
    rw[zv7]at hR;subst hR;refine xX ?_;refine ev_zc ?_;exact⟨rfl,rfl⟩
   | true=>
    rw[y9]at hR;have hle:=hfl2 rfl;clear hfl2;rcases ks with _|⟨x,_|⟨y,_|⟨z,w⟩⟩⟩
    rotate_right
    .exact absurd hle (by simp only[yw];omega)
    .simp only[uY]at hR;subst hR;simp only[xN]at hcall g2;refine xY ?_;refine ev_zc ?_;exact⟨rfl,rfl⟩
    .simp only[uY,zut,qR,WR,and_true]at hR hk hsz;have hc:wE 7 (wS [x])=some (qq x):=by rw[qV];exact vO (wP x)
     obtain⟨k2,v2,op2,num2,f2,as2,ks2⟩:=x;simp only[wl]at hc;simp only[yw,xN]at hcall g2;refine xY ?_;refine xX ?_;refine⟨_,⟨_,_,_,rfl,rfl,V,V,V,V,V,by simp (disch:=first|exact dis|fail)only[go_sem,seval,-rO,-rN,uy,wl],V,J,hsz.2.2,hR⟩,by simp only[wN,qR];omega⟩
    .simp only[uY,zut,qR,WR,and_true]at hR hk hsz;have hc:wE 7 (wS [x,y])=some (qq x):=by rw[qV];exact vO (wP x)
     have hc2:wE 7 (wX 7 (wS [x,y]))=some (qq y):=by
      simp only[qV,Za,zv6];rw[qe,zuJ (wP x)];exact qg (wP y)
     have hpx:=vd x;have hih:=ih y J hsz.2.2.2;generalize vD c f y=by_ at *;obtain⟨k2,v2,op2,num2,f2,as2,ks2⟩:=x;simp only[wl]at hc;simp only[yw,xN]at hcall g2;clear ih;cases by_ with
     |false=>
      rw[zuj]at hR;subst hR;refine xY ?_;refine ev_zc ?_;exact⟨rfl,rfl⟩
     |true=>
      rw[zut]at hR;refine xY ?_;refine xX ?_;refine⟨_,⟨_,_,_,rfl,rfl,V,V,V,V,V,by simp (disch:=first|exact dis|fail)only[go_sem,seval,-rO,-rN,uy,wl],V,J,hsz.2.2.1,hR⟩,by simp only[wN,qR];omega⟩
  obtain⟨v,t',h,rfl,rfl⟩:=key;exact h
end
section
variable {O:Orc}
section
attribute [local go_sem] Ek Hz YR
def sY(h88:O 39=none)(k:Nat)(hk:k<10000000000)(L:za)(n m:Nat)(b:Bool):
  cl O 39 [.nils,.int .i64 (.ofNat (k+1))] (KL L n m b)=some (.sl n 0 0 (.opn 1),KL ((n,some (.row 3 (reps (k+1) [.int .i64 (.ofNat 0)]) true false))::L) (n+1) m b):=by
 have key:Cv (cl O 39 [.nils,.int .i64 (.ofNat (k+1))] (KL L n m b)) λv t=>v=.sl n 0 0 (.opn 1)/\t=KL ((n,some (.row 3 (reps (k+1) [.int .i64 (.ofNat 0)]) true false))::L) (n+1) m b:=by
  refine wp (F:=f39) h88 rfl rfl (zv4 rfl) ?_;have s1:gG 1 .nils none (some (.int .i64 (.ofNat 0))) none=some .nils:=rfl;have s2:gG 1 (.sl n 0 (k+1) (.opn 1)) none (some (.int .i64 (.ofNat 0))) none=some (.sl n 0 0 (.opn 1)):=rfl;have s3:Qa (KL L n m false) 3 1 8 [.int .i64 (.ofNat 0)] .nils (.int .i64 (.ofNat (k+1)))=some (.sl n 0 (k+1) (.opn 1),KL ((n,some (.row 3 (reps (k+1) [.int .i64 (.ofNat 0)]) true false))::L) (n+1) m false):=by
   have e1:(Nat.ble (Nat.mul (Nat.succ k) 8) 281474976710656&&Nat.blt k 9223372036854775807)=true:=by
    rw[wB.2 (by show (k+1)*8<=_;omega),w9.2 J];rfl
   have e2:(Nat.ble (Nat.mul (Nat.mul 2 (Nat.succ k)) 8) 281474976710656&&Nat.ble 1 1&&Nat.blt (Nat.succ k) 9223372036854775808)=true:=by
    rw[wB.2 (by show 2*(k+1)*8<=_;omega),w9.2 (by show k+1<_;omega)];rfl
   unfold Qa;simp only[e1,x6,ZI,Q5,zv7,wh,grow,e2];rfl
  generalize reps (k+1) [Z.int .i64 (.ofNat 0)]=zs at *;unfold f39 cF;simp only;refine ev_zc ?_;exact⟨rfl,rfl⟩
 obtain⟨v,t',h,rfl,rfl⟩:=key;exact h
def Mw(h88:O 39=none)(L:za)(n m:Nat)(b:Bool):
  cl O 39 [.nils,(0:Nat)] (KL L n m b)=some (.nils,KL L n m b):=by
 have key:Cv (cl O 39 [.nils,(0:Nat)] (KL L n m b)) λv t=>v=.nils/\t=KL L n m b:=by
  refine wp (F:=f39) h88 rfl rfl (zv4 rfl) ?_;unfold f39 cF;simp only;refine ev_zc ?_;exact⟨rfl,rfl⟩
 obtain⟨v,t',h,rfl,rfl⟩:=key;exact h
end
def EK{L:za}{n m Y:Nat}{a b:zq}{z:zt}(g:x3 L Y=some (.row 3 (xW wg a++z) true false))(hz:List.length b<=List.length z):Cv (uE (KL L n m false) 3 1 8 (.sl Y 0 (List.length a) (.opn 1)) (.lst (List.length b) false (xW wg b))) λv t=>v=.sl Y 0 (a++b).length (.opn 1)/\∃L2 m2,t=KL L2 n m2 false/\x3 L2 Y=some (.row 3 (xW wg (a++b)++z.drop (List.length b)) true false)/\∀j,j≠Y->x3 L2 j=x3 L j:=by
 cases b with
 |nil=>exact⟨_,_,rfl,by rw[zv6],L,m,rfl,by rw[zv6];exact g,λ_ _=>rfl⟩
 | cons x r=>
  have hl:∀l:zq,(xW wg l).length=zM l:=λl=>by rw[qK qm];exact xQ _
  have h1:qu (KL L n m false) 1 (r.length+1) (.lst (r.length+1) false (xW wg (x::r)))=some (xW wg (x::r)):=by
   show wE ((r.length+1)*1) _=_;exact qg (by rw[hl,yw,xQ])
  have hp:jk (xW wg a++z) (0+zM a*1) (xW wg (x::r))=some (xW wg a++(xW wg (x::r)++z.drop (x::r).length)):=by
   have:=WM (a:=xW wg a) (b:=z.take (x::r).length) (c:=z.drop (x::r).length) (v:=xW wg (x::r)) (off:=0+zM a*1) (by rw[hl];omega) (by rw[hl,List.length_take];omega)
   rwa [List.take_append_drop]at this
  have hst:=Hx (KL L n m false) Y (0+zM a*1) (xW wg (x::r)) 3 _ _ true (by rw[wM];exact g) (pJ vq _) hp
  rw[kJ]at hst;have e1:Nat.ble (Nat.add 0 (Nat.mul (Nat.add (zM a) (Nat.succ r.length)) 1)) (qQ (xW wg a++z))=true:=by
   rw[wB,qw,yO,hl];simp only[yw]at hz;show 0+(zM a+(r.length+1))*1<=_;omega
  have happ:uE (KL L n m false) 3 1 8 (.sl Y 0 (zM a) (.opn 1)) (.lst (x::r).length false (xW wg (x::r)))=some (.sl Y 0 (zM a+(r.length+1)) (.opn 1),KL ((Y,some (.row 3 (xW wg a++(xW wg (x::r)++z.drop (x::r).length)) true false))::L) n (kr m Y) false):=by
   unfold uE;simp only[j6,yw];rw[h1];simp only[ZI,wM,g];have e2:(Nat.beq 1 1&&true&& !false)=true:=rfl;rw[e2,x6,e1,x6];show (match j8 (KL L n m false) (.ptr Y (0+zM a*1)) (xW wg (x::r))with
    |some s'=>some (Z.sl Y 0 (Nat.add (zM a) (Nat.succ r.length)) (.opn 1),s')
    |none=>none)=_
   rw[hst];rfl
  refine⟨_,_,happ,by rw[yO,yw],_,_,rfl,?_,λj hj=>by rw[x5,x0 hj]⟩
  rw[x8,wQ,zux]
def two(a b:zq):Nat->Nat
 |0=>0
 |1=>zM a
 |_=>zM a+zM b
def pe(a b:zq):Nat->zq
 |0=>[]
 |1=>a
 |_=>a++b
def Bg(h68:O 20=none)(h88:O 39=none){a b:zq}(ha:zM a<1000000000)(hb:zM b<1000000000):
  Cv (cl O 20 [.lst 2 true [qd a,qd b]] (KL L n m true)) λv t=>∃i2 L2 n2 m2,v=gSl 1 i2 (a++b).length/\t=KL L2 n2 m2 true/\(a++b≠[]->i2<n2/\x3 L2 i2=some (.row 3 (xW wg (a++b)) true false))/\n<=n2/\∀j,j<n->x3 L2 j=x3 L j:=by
 refine wp (F:=f20) h68 rfl rfl (zv4 rfl) ?_;unfold f20 cF;simp only;have hc0:wE 1 (wX 0 [qd a,qd b])=some [qd a]:=rfl;have hc1:wE 1 (wX 1 [qd a,qd b])=some [qd b]:=rfl;simp only[qd]at hc0 hc1|-;refine xY ?_;refine xY ?_;refine xU (xU (xX ?_));apply x4;refine wq (λi:Nat=>2-i) (λi f t=>∃T,f=⟨tmL T,[]⟩/\t=KL L n m false/\G T 0 (.lst 2 true [.lst (zM a) false (xW wg a),.lst (zM b) false (xW wg b)])/\G T 3 (.int .i64 (.ofNat (two a b i)))/\G T 9 (.lst 2 true [.lst (zM a) false (xW wg a),.lst (zM b) false (xW wg b)])/\G T 10 (.int .i64 (.ofNat 2))/\G T 11 i/\i<=2) (λi f t hI=>?_) 0 ⟨_,rfl,rfl,sW,by simp (disch:=first|exact dis|fail)only[go_sem,seval,-rO,-rN,two],sW,sW,sW,yh _⟩
 obtain⟨T,rfl,rfl,t0,t3,t9,t10,t11,hi⟩:=hI
 match i,hi with
 |0,_=>
  simp only[two]at t3;refine xX ?_;refine⟨1,⟨_,rfl,trivial,V,by simp (disch:=first|exact dis|fail)only[go_sem,seval,-rO,-rN,two],V,V,V,J⟩,J⟩
 |1,_=>
  simp only[two]at t3;refine xX ?_;refine⟨2,⟨_,rfl,trivial,V,by simp (disch:=first|exact dis|fail)only[go_sem,seval,-rO,-rN,two],V,V,V,J⟩,J⟩
 | 2,_=>
  simp only[two]at t3;rcases Nat.eq_zero_or_pos (zM a+zM b)with h0|h0
  .have ha0:a=[]:=yS J;have hb0:b=[]:=yS J;subst ha0 hb0;have hg:=Mw h88 L n m false;simp only[xN,Nat.add_zero,xW]at t0 t3 t9 hc0 hc1;have happ:∀s,uE s 3 1 8 .nils (.lst 0 false [])=some (.nils,s):=λ_=>rfl;refine xX ?_;refine xY ?_;refine xU (xU (xX ?_));apply x4;refine wq (λi:Nat=>2-i) (λi f t=>∃T,f=⟨tmL T,[]⟩/\t=KL L n m false/\G T 6 .nils/\G T 25 (.lst 2 true [.lst 0 false [],.lst 0 false []])/\G T 26 (.int .i64 (.ofNat 2))/\G T 27 i/\i<=2) (λi f t hI=>?_) 0 ⟨_,rfl,rfl,sW,sW,sW,sW,yh _⟩;obtain⟨T,rfl,rfl,t6,t9,t10,t11,hi⟩:=hI
   match i,hi with
   |0,_=>
    refine xX ?_;refine⟨1,⟨_,rfl,trivial,V,V,V,V,J⟩,J⟩
   |1,_=>
    refine xX ?_;refine⟨2,⟨_,rfl,trivial,V,V,V,V,J⟩,J⟩
   |2,_=>
    refine xX ?_;refine ev_zc ?_;exact⟨n,L,n,m,rfl,rfl,λh=>absurd rfl h,zS _,λ_ _=>rfl⟩
  .obtain⟨k,hk⟩:∃k,zM a+zM b=k+1:=⟨zM a+zM b-1,J⟩;have hg:=sY h88 k J L n m false;rw[hk]at t3;refine xX ?_;refine xY ?_;refine xU (xU (xX ?_));apply x4;refine wq (λi:Nat=>2-i) (λi f t=>∃T L2 m2 z,f=⟨tmL T,[]⟩/\t=KL L2 (n+1) m2 false/\G T 6 (.sl n 0 (pe a b i).length (.opn 1))/\G T 25 (.lst 2 true [.lst (zM a) false (xW wg a),.lst (zM b) false (xW wg b)])/\G T 26 (.int .i64 (.ofNat 2))/\G T 27 i/\i<=2/\x3 L2 n=some (.row 3 (xW wg (pe a b i)++z) true false)/\(pe a b i).length+zM z=zM a+zM b/\∀j,j<n->x3 L2 j=x3 L j) (λi f t hI=>?_) 0 ⟨_,_,_,reps (k+1) [.int .i64 (.ofNat 0)],rfl,rfl,by simp (disch:=first|exact dis|fail)only[go_sem,seval,-rO,-rN,pe],sW,sW,sW,yh _,by rw[x8];rfl,?_,λj hj=>by rw[gN J]⟩
   .clear hg;obtain⟨T,L2,m2,z,rfl,rfl,t6,t9,t10,t11,hi,gr,hz,hfr⟩:=hI
    match i,hi with
    |0,_=>
     simp only[pe,xN,xW,zuc,y8]at t6 gr hz;have hap:=λm=> @EK L2 (n+1) m n [] a z gr J;simp only[xN,zuc]at hap;refine xY ?_;refine xU (wV sW ?_);refine xX ?_;refine xU (x4 ?_);refine xY ?_;refine wi ?_;refine xZ (hap _) λv t hv=>?_;obtain⟨rfl,L3,m3,rfl,g3,hf3⟩:=hv;clear hap gr;refine xX ?_;refine xX ?_;refine⟨1,⟨_,_,_,z.drop (zM a),rfl,rfl,by simp (disch:=first|exact dis|fail)only[go_sem,seval,-rO,-rN, *,pe],V,V,V,J,g3,by simp only[pe,List.length_drop];omega,λj hj=>by rw[hf3 j J];exact hfr j hj⟩,J⟩
    |1,_=>
     simp only[pe]at t6 gr hz;have hap:=λm=> @EK L2 (n+1) m n a b z gr J;refine xY ?_;refine xU (wV sW ?_);refine xX ?_;refine xU (x4 ?_);refine xY ?_;refine wi ?_;refine xZ (hap _) λv t hv=>?_;obtain⟨rfl,L3,m3,rfl,g3,hf3⟩:=hv;clear hap gr;refine xX ?_;refine xX ?_;refine⟨2,⟨_,_,_,z.drop (zM b),rfl,rfl,by simp (disch:=first|exact dis|fail)only[go_sem,seval,-rO,-rN, *,pe],V,V,V,J,g3,by simp only[pe,List.length_drop,yO];omega,λj hj=>by rw[hf3 j J];exact hfr j hj⟩,J⟩
    |2,_=>
     simp only[pe,yO]at t6 gr hz;have hz0:z=[]:=yS J;subst hz0;rw[zv6]at gr;refine xX ?_;refine ev_zc ?_;refine⟨n,L2,n+1,m2,?_,rfl,λ_=>⟨yx _,gr⟩,zuC _,hfr⟩;rw[yO,hk];rfl
   .simp only[pe,xN,y8];rw[Zs];simp only[yw,xN];omega
end
section
variable {O:Orc}
def AS(h69:O 78=none)(h66:O 77=some Yy){a0:Z}(g:x3 L p=some (.row 25 [a0,a1,vars,a3,a4]))(v:Int)(n m:Nat)(b:Bool):
  cl O 78 [v,.ptr p 0] (KL L n m b)=some (.bool (!wu v vars),KL L n m b):=by
 have hb:=λa b s=>Yh h66 a b s;have key:Cv (cl O 78 [v,.ptr p 0] (KL L n m b)) λr t=>r=.bool (!wu v vars)/\t=KL L n m b:=by
  refine vf (F:=f78) h69 rfl rfl (zv4 rfl) ?_;unfold f78 cF;simp only;refine ev_zc ?_;exact⟨rfl,rfl⟩
 obtain⟨r,t,h,rfl,rfl⟩:=key;exact h
def H1(vars:Int):zq->Nat->Int
 |[],_=>.negSucc 0
 |x::r,i=>bif wu x vars then H1 vars r (i+1)else .ofNat i
def s4(vars:Int):∀(l:zq) (i:Nat),(!ltD (H1 vars l i) (.ofNat 0))= !l.all λx=>wu x vars
 |[],_=>rfl
 |x::r,i=>by
  simp only[H1,zud];cases wu x vars with
  |true=>simp only[x6,y9];exact s4 vars r (i+1)
  |false=>simp[ltD]
def MF(h69:O 78=none)(h66:O 77=some Yy)(h87:O 41=none){Y:Nat}{a0:Z}(g:x3 L p=some (.row 25 [a0,a1,vars,a3,a4]))(hl:zM l<10000000000)(gl:l≠[]->x3 L Y=some (.row 3 (xW wg l) true false))(n m:Nat)(b:Bool):
  cl O 41 [gSl 1 Y (zM l),.fn 78 [] [.ptr p 0]] (KL L n m b)=some (.int .i64 (H1 vars l 0),KL L n m b):=by
 have hc:=λv n m b=>AS h69 h66 g v n m b;have key:Cv (cl O 41 [gSl 1 Y (zM l),.fn 78 [] [.ptr p 0]] (KL L n m b)) λr t=>r=.int .i64 (H1 vars l 0)/\t=KL L n m b:=by
  refine vf (F:=f41) h87 rfl rfl (zv4 rfl) ?_;unfold f41 cF;simp only;have hsc:=vU 1 Y (zM l);have hvl:=λs=>wW s 1 Y (zM l);obtain⟨R,hR⟩:∃R,H1 vars l 0=R:=⟨_,rfl⟩;rw[hR];refine xY ?_;refine xU (xU (xX ?_));apply x4;refine wq (λi:Nat=>zM l-i) (λi f t=>∃T,f=⟨tmL T,[]⟩/\t=KL L n 0 true/\G T 0 (gSl 1 Y (zM l))/\G T 1 (.fn 78 [] [.ptr p 0])/\G T 7 (zM l)/\G T 8 i/\i<=zM l/\H1 vars (l.drop i) i=R) (λi f t hI=>?_) 0 ⟨_,rfl,rfl,sW,sW,V,sW,yh _,hR⟩;clear hR;obtain⟨T,rfl,rfl,t0,t1,t7,t8,hi,hR⟩:=hI;rcases wj l i with ⟨hlt,hd⟩|⟨x,hlt,hd⟩
  .rw[hd]at hR;simp only[H1]at hR;subst hR;have:¬i<zM l:=J;refine xX ?_;refine ev_zc ?_;exact⟨rfl,rfl⟩
  .rw[hd]at hR;simp only[H1]at hR;have gl:=gl (λh=>by subst h;simp at hlt)
   have hia:= @pL 1 Y (zM l) i hlt;have hcut:=uz hd;have hcx:=λn m b=>hc x n m b;clear hc;generalize wu x vars=bb at *;cases bb with
   |true=>
    rw[x6]at hR;refine xX ?_;refine⟨i+1,⟨_,rfl,trivial,V,V,V,V,J,hR⟩,J⟩
   |false=>
    rw[wh]at hR;subst hR;refine ev_zc ?_;exact⟨rfl,rfl⟩
 obtain⟨r,t,h,rfl,rfl⟩:=key;exact h
end
section
variable {O:Orc}
def dB(h67:O 22=none)(h69:O 78=none)(h66:O 77=some Yy)(h87:O 41=none){Y:Nat}{a0:Z}(g:x3 L p=some (.row 25 [a0,a1,vars,a3,a4]))(hl:zM l<10000000000)(gl:l≠[]->x3 L Y=some (.row 3 (xW wg l) true false))(n m:Nat)(b:Bool):
  cl O 22 [gSl 1 Y (zM l),.fn 78 [] [.ptr p 0]] (KL L n m b)=some (.bool (!l.all λx=>wu x vars),KL L n m b):=by
 have hc:=λn m b=>MF h69 h66 h87 g hl gl n m b;have key:Cv (cl O 22 [gSl 1 Y (zM l),.fn 78 [] [.ptr p 0]] (KL L n m b)) λr t=>r=.bool (!ltD (H1 vars l 0) (.ofNat 0))/\t=KL L n m b:=by
  refine vf (F:=f22) h67 rfl rfl (zv4 rfl) ?_;unfold f22 cF;simp only;refine ev_zc ?_;exact⟨rfl,rfl⟩
 rw[s4]at key;obtain⟨r,t,h,rfl,rfl⟩:=key;exact h
end
def wFn(c:Cd)(f:Fn):Bool:= !(f.rest&&decide (zM f.ps=0))&&((f.ps++f.fr).all (λx=>wu x c.vars)&&vD c f f.b)
def AI(c:Cd):Bool:=wu c.main (.ofNat (zM c.fs))&&(decide ((QF c c.main).ps.length+(QF c c.main).fr.length=0)&& !(QF c c.main).rest)
def ky(c:Cd):Bool:=AI c&&c.fs.all (wFn c)
structure CdSz(c:Cd):Prop where
 n:zM c.fs<100000000
 f:∀f∈c.fs,zM f.ps<1000000000/\zM f.fr<1000000000/\SzT f.b
def qD(c:Cd):zt:=[vy c]
section
variable {P:Program}{X:World}(B:Bx P X){O:Orc}(hO:OrcOk P X O)
include B hO
def Ry (h70:O 79=none)(h89:O 119=some aR)(h66:O 77=some Yy)(h67:O 22=none)(h68:O 20=none)(h69:O 78=none)(h87:O 41=none)(h88:O 39=none)(c:Cd)(hc:CdSz c):∃s1,SC P X 43 (qD c) (s00 0 true) (.bool (ky c)) s1:=by
 refine be B hO f43 ?_;have hb:=λa b s=>Yh h66 a b s;have hterms:=λf t hs=>O7 h70 h89 (λg hg=>(hc.f g hg).1) (wN t) (f:=f) t (zS _) hs;have hN:=hc.n;have hfs:=hc.f;unfold f43 cF;simp only[qD,vy,jy,q8]at hterms|-;obtain⟨R,hR⟩:∃R,ky c=R:=⟨_,rfl⟩;rw[hR];unfold ky AI at hR;have hcu:=λi f r h=> @Ut c.fs i f r h;obtain⟨fs,main,vars,globals,consts⟩:=c;simp only[qi]at hterms hN hfs hR hcu|-;have hbm:=hb main (.ofNat (zM fs));cases b0:wu main (.ofNat (zM fs))with
 |false=>
  rw[b0]at hR hbm;simp only[zv7]at hR;subst hR;clear hb hterms;refine xY ?_;refine ev_zc ?_;exact qj _ _
 | true =>
  rw[b0]at hR hbm;obtain⟨j,rfl,hj⟩:=jR b0;clear b0;have hcfs:zM fs<10000000000:=J;have hpost:∀(R':Bool),R'=R->fs.all (wFn ⟨fs,.ofNat j,vars,globals,consts⟩)=R->True:=λ_ _ _=>trivial;have hrun:(decide ((QF ⟨fs,.ofNat j,vars,globals,consts⟩ (.ofNat j)).ps.length+(QF ⟨fs,.ofNat j,vars,globals,consts⟩ (.ofNat j)).fr.length=0)&& !(QF ⟨fs,.ofNat j,vars,globals,consts⟩ (.ofNat j)).rest)=true->fs.all (wFn ⟨fs,.ofNat j,vars,globals,consts⟩)=R:=λh=>by
   rw[h]at hR;simpa using hR
  have hdj:fs.drop j=fs[j]::fs.drop (j+1):=zuo hj;have hdr:=lg hdj;have hgl:=hfs fs[j] (zuG hj);have hg:QF ⟨fs,.ofNat j,vars,globals,consts⟩ (.ofNat j)=fs[j]:=by
   show fs.getD j fn0=_;rw[xD,yU hj];rfl
  rw[hg]at hR hrun;clear hg hdj hpost;generalize fs[j]=g at hdr hgl hR hrun;obtain⟨gps,grest,gcont,gfr,gb⟩:=g;obtain⟨gk,gv,gop,gn,gf,gas,gks⟩:=gb;simp only[wD,wl,qd,yd,zuc]at hdr hgl hR hrun;have hg1:=hgl.1;have hg2:=hgl.2.1;clear hgl;by_cases h0:zM gps+zM gfr=0
  .cases grest with
   |true=>
    simp only[h0,xS,zuj,zv7]at hR;subst hR;clear hterms hb hrun hfs hcu;refine xY ?_;refine ev_zc ?_;exact qj _ _
   | false=>
    have hR:=hrun (by rw[h0];rfl)
    clear hrun;have hb':=λ(P:True->Prop)=>hb;clear hb;refine xY ?_;refine xY ?_;refine xU (xU (xX ?_));apply x4;clear hdr hbm h0 hg1 hg2;refine wq (λi:Nat=>zM fs-i) (λi f t=>∃T L n m,f=⟨tmL T,[]⟩/\t=KL L n m true/\G T 1 (.ptr 0 0)/\G T 42 (.lst (zM fs) false (xW wD fs))/\G T 43 (zM fs)/\G T 44 i/\i<=zM fs/\x3 L 0=some (.row 25 [.lst (zM fs) false (xW wD fs),j,vars,globals,.lst (zM consts) false (wy consts)])/\0<n/\(fs.drop i).all (wFn ⟨fs,.ofNat j,vars,globals,consts⟩)=R) (λi f t hI=>?_) 0 ⟨_,_,_,_,rfl,rfl,sW,sW,sW,sW,yh _,by rw[x8],J,hR⟩
    clear hR;obtain⟨T,L,n,m,rfl,rfl,t1,t42,t43,t44,hi,g0,hn,hR⟩:=hI;rcases wj fs i with ⟨hlt,hd⟩|⟨g,hlt,hd⟩
    .rw[hd,List.all_nil]at hR;subst hR;have:¬i<zM fs:=J;clear hcu hterms hfs hb';refine xX ?_;refine ev_zc ?_;exact qj _ _
    .rw [hd,zud]at hR;have hcg:=hcu i g _ hd;have hgs:=hfs g (zv9 (by rw[hd];exact zua))
     have htg:=λL n m b=>hterms g g.b hgs.2.2 L n m b;clear hcu hterms;obtain⟨fr',hfr'⟩:∃x,fs.drop (i+1)=x:=⟨_,rfl⟩;rw[hfr']at hR hd;clear hd hfs;obtain⟨gps,grest,gcont,gfr,gb⟩:=g;obtain⟨gk,gv,gop,gn,gf,gas,gks⟩:=gb;simp only[wFn,wD,wl,qd]at hcg htg hR hgs;have hg1:=hgs.1;have hg2:=hgs.2.1;clear hgs;have hstep:((fr'.all (wFn ⟨fs,.ofNat j,vars,globals,consts⟩))=R)->True:=λ_=>trivial;by_cases hr:(grest&&decide (zM gps=0))=true
     .rw[hr]at hR;simp only[xS,zv7]at hR;subst hR;simp only[zP,jm]at hr;obtain⟨rfl,hp0⟩:=hr;clear htg hb' hstep;refine ev_zc ?_;exact qj _ _
     .have hr':(grest&&decide (zM gps=0))=false:=by simpa using hr
      rw[hr']at hR;simp only[zuh,y9]at hR;have hgp:grest=false\/(grest=true/\¬zM gps=0):=by
       cases grest with
       |false=>exact .inl rfl
       |true=>exact .inr ⟨rfl,by simpa using hr⟩
      clear hr hr' hstep hb';generalize vD ⟨fs,.ofNat j,vars,globals,consts⟩ ⟨gps,grest,gcont,gfr,.mk gk gv gop gn gf gas gks⟩ (.mk gk gv gop gn gf gas gks)=Y9 at htg hR;rcases hgp with rfl|⟨rfl,hp0⟩
      all_goals (
       refine xY ?_;refine xU (wV sW ?_);refine xX ?_;refine xU (x4 ?_);refine xY ?_;apply xU;refine wi ?_;refine xZ (Bg h68 h88 hg1 hg2) λv t hv=>?_;obtain⟨i2,L3,n3,m3,rfl,rfl,q1,q2,q3⟩:=hv;have g03:x3 L3 0=some (.row 25 [.lst (zM fs) false (xW wD fs),j,vars,globals,.lst (zM consts) false (wy consts)]):=by
        rw[q3 0 J]
        repeat (rw[gN J])
        exact g0
       have gf3:=q3 n J;rw[x8]at gf3;have hcon:=λn m b=>dB h67 h69 h66 h87 g03 (l:=gps++gfr) (by rw[yO];omega) (λh=>(q1 h).2) n m b
       clear q1 q3;generalize (gps++gfr).all (λx=>wu x vars)=A9 at *;generalize gSl 1 i2 (gps++gfr).length=X9 at *;cases A9 with
       |false=>
        rw[zv7,zv7]at hR;subst hR;clear htg;refine xX ?_;refine ev_zc ?_;exact qj _ _
       | true=>
        cases Y9 with
        |false=>
         rw[zuj,zv7]at hR;subst hR;refine xX ?_;refine ev_zc ?_;exact qj _ _
        |true=>
         rw[y9,y9]at hR;refine xX ?_;refine xX ?_;refine xX ?_;exact⟨i+1,⟨_,_,_,_,rfl,rfl,V,V,V,V,J,g03,J,by rw[hfr'];exact hR⟩,J⟩)
  .rw[qb h0]at hR;simp only[zv7,zuj]at hR;subst hR;have h0':0<zM gps+zM gfr:=J;clear hterms hb hrun hfs hcu;refine xY ?_;refine ev_zc ?_;exact qj _ _
end
def bB(v:Int)(met:zq):Option zq:=if v∈met then none else some (met++[v])
mutual
def HP:Trm->zq->Option zq
 |.mk k v op n f az ks,met=>(bif vG k then bB v met else some met).bind (Jg ks)
def Jg:List Trm->zq->Option zq
 |[],met=>some met
 |x::r,met=>(Jg r met).bind (HP x)
end
mutual
def cz:Trm->Prop
 |.mk _ _ _ _ _ _ ks=>zM ks<=2/\Kv ks
def Kv:List Trm->Prop
 |[]=>True
 |x::r=>cz x/\Kv r
end
section
variable {O:Orc}
attribute [local go_sem] lm Qe ZD ZB l7 VW in
def E5(h47:O 44=none)(h71:O 80=some Yz):∀(k:Nat) (t:Trm),wN t<=k->SzT t->cz t->∀(L:za) (n m Y:Nat) (met:zq),WfA L n->x3 L Y=some (.umap (uS met))->
  Cv (cl O 44 [q8 t,.map Y] (KL L n m false)) λv s=>∃L2 n2 m2,s=KL L2 n2 m2 false/\n<=n2/\WfA L2 n2/\(∀j,j<n->j≠Y->x3 L2 j=x3 L j)/\((HP t met=none/\v=.bool false)\/∃met2,HP t met=some met2/\v=.bool true/\x3 L2 Y=some (.umap (uS met2))):=by
 intro k
 induction k with
 |zero=>intro t h;have:=vd t;omega
 | succ k ih=>
  intro t hk hsz hk2 L n m Y met hw hid;refine wp (F:=f44) h47 rfl rfl (zv4 rfl) ?_;have hbi:=λt s=>oc h71 Yv t trivial (Wy t) s;have hidn:=hw.lt hid;obtain⟨R,hR⟩:∃R,HP t met=R:=⟨_,rfl⟩;rw[hR];simp only[jI,q8]at hbi ih|-;unfold f44 cF;simp only;have hl7:=qg (wP t);have hc7:=lr t;refine xY ?_;apply x4;refine wq (λx:Trm×zq=>wN x.1) (λx f t'=>∃T L2 n2 m',f=⟨tmL T,[]⟩/\t'=KL L2 n2 m' false/\G T 1 (.map Y)/\G T 2 (.ptr n 0)/\n+1<=n2/\WfA L2 n2/\x3 L2 n=some (uy x.1)/\x3 L2 Y=some (.umap (uS x.2))/\wN x.1<=k+1/\SzT x.1/\cz x.1/\HP x.1 x.2=R/\∀j,j<n->j≠Y->x3 L2 j=x3 L j) (λx f t' hI=>?_) (t,met) ⟨_,_,_,_,rfl,rfl,sW,sW,J,?_,?_,?_,hk,hsz,hk2,hR,λj h1 h2=>?_⟩
  .clear hR hsz hk hk2 hl7 hc7 hid hw t met;obtain⟨T,L2,n2,m',rfl,rfl,t1,t2,hn2,hw,g0,gid,hk,hsz,hk2,hR,hfr⟩:=hI;obtain⟨⟨tk,v,op,num,fn,az,ks⟩,met⟩:=x;simp only at g0 gid hk hsz hk2 hR|-;have hcall:=λs=>hbi (.mk tk v op num fn az ks) s;simp only[wl,Trm.kind]at hcall;simp only[HP]at hR;simp only[SzT]at hsz;simp only[cz]at hk2;simp only[uy,wl]at g0;simp only[wN]at hk;clear hbi;generalize vG tk=bb at *;apply x4;refine u6 (λf t'=>∃T L3 n3 m3 met3,f=⟨tmL T,[]⟩/\t'=KL L3 n3 m3 false/\G T 1 (.map Y)/\G T 2 (.ptr n 0)/\n+1<=n3/\WfA L3 n3/\x3 L3 n=some (.row 40 [tk,v,op,num,fn,.lst (zM az) false (xW qO az),.lst (zM ks) false (wS ks)])/\x3 L3 Y=some (.umap (uS met3))/\Jg ks met3=R/\∀j,j<n->j≠Y->x3 L3 j=x3 L j) ?_ λf t' hI=>?_
   .cases bb with
    |false=>
     rw[wh,zuq]at hR;refine xX ?_;exact⟨_,_,_,_,met,rfl,rfl,V,V,hn2,hw,g0,gid,hR,hfr⟩
    | true=>
     rw[x6]at hR;by_cases hv:v∈met
     .have hgu:=Zj hv;simp only[bB,wc hv,zuz]at hR;refine ev_zc ?_;subst hR;refine⟨_,_,_,rfl,?_,?_,λj h1 h2=>?_,.inl ⟨rfl,rfl⟩⟩
      .omega
      ·(repeat first|exact hw.up J|refine WfA.same ?_ J)
      ·(repeat (rw[gN J]));exact hfr j h1 h2
     .have hgu:=lx hv;have hsu:=Z8 hv;simp only[bB,x0 hv,zuq]at hR;refine xX ?_;refine⟨_,_,_,_,met++[v],rfl,rfl,V,V,J,?_,?_,?_,hR,λj h1 h2=>?_⟩
      ·(repeat first|exact hw.up J|refine WfA.same ?_ J)
      ·(repeat (rw[gN J]));exact g0
      ·(repeat first|exact x8 _ _ _|rw[gN J])
      ·(repeat (rw[gN J]));exact hfr j h1 h2
   .clear hR gid g0 hfr hw hn2 hcall t1 t2;clear met T L2 n2 m';obtain⟨T,L2,n2,m',met,rfl,rfl,t1,t2,hn2,hw,g0,gid,hR,hfr⟩:=hI;rcases ks with _|⟨x,_|⟨y,_|⟨z,w⟩⟩⟩
    rotate_right
    .have:=hk2.1;simp only[yw]at this;omega
    .simp only[Jg]at hR;subst hR;simp only[xN]at g0;refine ev_zc ?_;exact⟨_,_,_,rfl,J,hw,hfr,.inr ⟨met,rfl,rfl,gid⟩⟩
    .simp only[Jg,zuq,qR,WR,Kv,and_true]at hR hk hsz hk2;have hc:wE 7 (wS [x])=some (qq x):=by rw[qV];exact vO (wP x)
     obtain⟨k2,v2,op2,num2,f2,as2,ks2⟩:=x;simp only[wl]at hc;simp only[yw,xN]at g0;refine xY ?_;refine xX ?_;refine⟨(_,met),⟨_,_,_,_,rfl,rfl,V,V,J,?_,?_,?_,by simp only;omega,hsz.2.2,hk2.2,hR,λj h1 h2=>?_⟩,by simp only[wN,qR];omega⟩
     .exact WfA.same hw J
     .rw[x8];simp only[uy,wl]
     .rw[gN J];exact gid
     .rw[gN J];exact hfr j h1 h2
    .simp only[Jg,zuq,qR,WR,Kv,and_true]at hR hk hsz hk2;have hc:wE 7 (wS [x,y])=some (qq x):=by rw[qV];exact vO (wP x)
     have hc2:wE 7 (wX 7 (wS [x,y]))=some (qq y):=by
      simp only[qV,Za,zv6];rw[qe,zuJ (wP x)];exact qg (wP y)
     have hpx:=vd x;have hih:=λm=>ih y J hsz.2.2.2 hk2.2.2 L2 n2 m Y met hw gid;obtain⟨k2,v2,op2,num2,f2,as2,ks2⟩:=x;simp only[wl]at hc;simp only[yw,xN]at g0;clear ih;apply xU;refine xY ?_;apply x4;refine xY ?_;refine wY sW ?_;refine xY ?_;refine wV sW ?_;apply xU;refine wi ?_;refine xZ (hih _) λv t hv=>?_;obtain⟨L3,n3,m3,rfl,q1,q2,q3,⟨e1,rfl⟩|⟨met2,e1,rfl,q4⟩⟩:=hv
     .rw[e1,zuz]at hR;subst hR;clear hih;refine xX ?_;refine ev_zc ?_;exact⟨_,_,_,rfl,J,q2,λj h1 h2=>by rw[q3 j J h2];exact hfr j h1 h2,.inl ⟨trivial,rfl⟩⟩
     .rw[e1,zuq]at hR;have g3:=(q3 n J J).trans g0;clear hih;refine xX ?_;refine xX ?_;refine xX ?_;refine⟨(_,met2),⟨_,_,_,_,rfl,rfl,V,V,J,?_,?_,?_,by simp only;omega,hsz.2.2.1,hk2.2.1,hR,λj h1 h2=>?_⟩,by simp only[wN,qR];omega⟩
      .exact WfA.same q2 J
      .rw[x8];simp only[uy,wl]
      .rw[gN J];exact q4
      .rw[gN J,q3 j J h2];exact hfr j h1 h2
  ·(repeat first|exact hw.up J|refine WfA.same ?_ J)
  ·(repeat first|exact x8 _ _ _|rw[gN J])
  ·(repeat (rw[gN J]));exact hid
  ·(repeat (rw[gN J]))
end
def Hd:zq->zq->Option zq
 |[],met=>some met
 |v::r,met=>(bB v met).bind (Hd r)
def YE:List Fn->zq->Option zq
 |[],met=>some met
 |f::r,met=>((Hd f.ps met).bind (HP f.b)).bind (YE r)
def JI(c:Cd):Bool:=(YE c.fs []).isSome
def ae(c:Cd):Prop:=zM c.fs<100000000/\∀f∈c.fs,zM f.ps<1000000000/\SzT f.b/\cz f.b
def vM:∀x y,qD x=qD y->x=y:=λ_ _ h=>LC (by simpa [qD]using h)
def uG(c:Cd):wkL (qD c)=qD c:=by simp only[qD,wkL,dN]
def ug(c:Cd):wo (qD c)=true:=by simp only[qD,vy,ww,uC,p7,wA,xO]
def Mf:zt->U->zb:=vw qD ae (λc=>.bool (JI c))
def Ml:zt->U->zb:=vw qD CdSz (λc=>.bool (ky c))
section
variable {P:Program}{X:World}(B:Bx P X){O:Orc}(hO:OrcOk P X O)
include B hO
attribute [local go_sem] lm Qe ZD ZB l7 VW bp in
theorem T1(h47:O 44=none)(h71:O 80=some Yz)(c:Cd)(hc:ae c):∃s1,SC P X 25 (qD c) (s00 0 true) (.bool (JI c)) s1:=by
 refine bew B hO f25 ?_;have hbd:=λt hs hk=>E5 h47 h71 (wN t) t (zS _) hs hk;obtain⟨R,hR⟩:∃R,JI c=R:=⟨_,rfl⟩;rw[hR];unfold JI at hR;obtain⟨fs,main,vars,globals,consts⟩:=c;obtain⟨hN,hf⟩:=hc;simp only at hN hf hR;unfold f25 cF;simp only[qD,vy,qi,q8]at hbd|-;refine xY ?_;refine xY ?_;refine xU (xU (xX ?_));apply x4;refine wq (λx:Nat×zq=>zM fs-x.1) (λx f t=>∃T L n m,f=⟨tmL T,[]⟩/\t=KL L n m false/\G T 3 (.map 1)/\G T 12 (.lst (zM fs) false (xW wD fs))/\G T 13 (zM fs)/\G T 14 x.1/\x.1<=zM fs/\WfA L n/\2<=n/\x3 L 1=some (.umap (uS x.2))/\(YE (fs.drop x.1) x.2).isSome=R) (λx f t hI=>?_) (0,[]) ⟨_,_,_,_,rfl,rfl,sW,sW,sW,sW,yh _,?_,?_,?_,hR⟩
 .clear hR;obtain⟨T,L,n,m,rfl,rfl,t3,t12,t13,t14,hi,hw,hn,g1,hR⟩:=hI;obtain⟨i,met⟩:=x;simp only at t14 hi g1 hR|-;rcases wj fs i with ⟨hlt,hd⟩|⟨g,hlt,hd⟩
  .rw[hd]at hR;simp only[YE,Option.isSome_some]at hR;subst hR;have:¬i<zM fs:=J;refine xX ?_;refine ev_zc ?_;exact qj _ _
  .have hcg:=Ut hd;rw[hd]at hR;have hgf:=hf g (zv9 (by rw[hd];exact zua))
   have hbg:=hbd g.b hgf.2.1 hgf.2.2;simp only[YE]at hR;obtain⟨gps,grest,gcont,gfr,gb⟩:=g;obtain⟨gk,gv,gop,gn,gf,gas,gks⟩:=gb;simp only[wD,wl,qd]at hcg hbg hR hgf;have hg1:=hgf.1;clear hgf hd hbd;refine xY ?_;refine xU (wV sW ?_);refine xX ?_;refine xU (x4 ?_);refine xY ?_;refine xU (xU (xX ?_));apply x4;refine wq (λx:Nat×zq=>zM gps-x.1) (λx f t=>∃T L2 n2 m2,f=⟨tmL T,[]⟩/\t=KL L2 n2 m2 false/\G T 3 (.map 1)/\G T 5 (.ptr n 0)/\G T 12 (.lst (zM fs) false (xW wD fs))/\G T 13 (zM fs)/\G T 14 i/\G T 19 (.lst (zM gps) false (xW wg gps))/\G T 20 (zM gps)/\G T 21 x.1/\x.1<=zM gps/\WfA L2 n2/\n+1<=n2/\x3 L2 1=some (.umap (uS x.2))/\x3 L2 n=some (.row 42 [.lst (zM gps) false (xW wg gps),.bool grest,.bool gcont,.lst (zM gfr) false (xW wg gfr),gk,gv,gop,gn,gf,.lst (zM gas) false (xW qO gas),.lst (zM gks) false (wS gks)])/\(((Hd (gps.drop x.1) x.2).bind (HP (.mk gk gv gop gn gf gas gks))).bind (YE (fs.drop (i+1)))).isSome=R) (λx f t hI=>?_) (0,met) ⟨_,_,_,_,rfl,rfl,V,V,V,V,V,V,V,V,yh _,?_,?_,?_,?_,hR⟩
   .have hn0:2<=n:=hn;clear hR g1 hn hw t3 t12 t13 t14 met T hcg;obtain⟨T,L2,n2,m2,rfl,rfl,t3,t5,t12,t13,t14,t19,t20,t21,hj,hw,hn,g1,gn',hR⟩:=hI;obtain⟨j,met⟩:=x;simp only at t21 hj g1 hR|-;rcases wj gps j with ⟨hlt2,hd2⟩|⟨v,hlt2,hd2⟩
    .rw[hd2]at hR;simp only[Hd,zuq]at hR;have hb2:=λm=>hbg L2 n2 m 1 met hw g1;have:¬j<zM gps:=J;clear hbg;refine xX ?_;apply xU;refine wi ?_;refine xZ (hb2 _) λv t hv=>?_;obtain⟨L3,n3,m3,rfl,q1,q2,q3,⟨e1,rfl⟩|⟨met2,e1,rfl,q4⟩⟩:=hv
     .rw[e1]at hR;simp only[zuz,zuf]at hR;subst hR;clear hb2;refine xX ?_;refine ev_zc ?_;exact qj _ _
     .rw[e1,zuq]at hR;clear hb2;refine xX ?_;refine xX ?_;refine xX ?_;exact⟨(i+1,met2),⟨_,_,_,_,rfl,rfl,V,V,V,V,by simp only;omega,q2,J,q4,hR⟩,by simp only;omega⟩
    .rw[hd2]at hR;simp only[Hd]at hR;have hcv:=uz hd2;clear hbg;by_cases hv:v∈met
     .have hgu:=Zj hv;simp only[bB,wc hv,zuz,zuf]at hR;subst hR;refine ev_zc ?_;exact qj _ _
     .have hgu:=lx hv;have hsu:=Z8 hv;have hne:¬1=n2:=J;simp only[bB,x0 hv,zuq]at hR;refine xX ?_;refine⟨(j+1,met++[v]),⟨_,_,_,_,rfl,rfl,V,V,V,V,V,V,V,V,by simp only;omega,?_,?_,?_,?_,hR⟩,by simp only;omega⟩
      ·(repeat first|exact hw.up J|refine WfA.same ?_ J)
      .omega
      ·(repeat first|exact x8 _ _ _|rw[gN J])
      ·(repeat (rw[gN J]));exact gn'
   ·(repeat first|exact hw.up J|refine WfA.same ?_ J)
   .omega
   ·(repeat (rw[gN J]));exact g1
   ·(repeat first|exact x8 _ _ _|rw[gN J])
 .intro j hj
  (repeat (rw[gN J]))
  rfl
 .omega
 .rw[x8];rfl
end
end Go.Proofs.YtbdfljdgapkbcaaGreatDoor.Ev

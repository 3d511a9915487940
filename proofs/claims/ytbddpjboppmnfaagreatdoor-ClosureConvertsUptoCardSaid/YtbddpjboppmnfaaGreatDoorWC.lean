/- Contracts of functions that ClosureConverts calls: what a call answers. No conditions. -/
import Derived.Test.YtbddpjboppmnfaaGreatDoorWB
import Derived.Test.YtbddpjboppmnfaaGreatDoorEvG
set_option linter.unusedSimpArgs false
set_option linter.unusedVariables false
set_option linter.defProp false
set_option maxHeartbeats 4000000
set_option linter.unusedSectionVars false
noncomputable section
open List renaming length → zR, length_cons → yJ, length_nil → xY, length_append → y8, mem_cons_self → zvZ, mem_of_mem_drop → zvY, drop_eq_getElem_cons → zud, append_nil → zvV, nil_append → zv1, getElem?_append_left → xb, dropWhile_sublist → zuA, getElem?_append_right → xz, cons_append → yu, mem_cons → zua, dropWhile_cons → zuB
open Nat renaming le_of_ble_eq_true → zvT, le_refl → zX, zero_mod → zv9, or_zero → zub, zero_or → zuc, lt_succ_self → yK, zero_le → yz, le_succ → zur, lt_of_lt_of_le → zT, mul → zK, zero_add → xB, mul_one → x8
open Bool renaming cond_self → zv7, and_eq_true → zU, and_self → xZ, true_and → xC, false_and → zvW
namespace Go.Proofs.YtbddpjboppmnfaaGreatDoor.Ev
variable {L L2:zb}{n sp n2 j f i m dd t k nb:Nat}{O:Orc}{P:Program}{X:World}{l s r:zy}{cs:zA}{b:Bool}{v:Z}{d:DT}{tF:List (Nat×Z)}
open Nat (reduceEqDiff reduceLeDiff reduceLT reduceAdd reduceMul reduceSub reduceMod reducePow reduceDiv reduceOr reduceShiftLeft reduceGT reduceSucc)
open List (length_cons length_nil length_take length_drop)
open Int (reduceOfNat reduceNegSucc)
open T
set_option maxRecDepth 100000
attribute [local go_sem] wF wI qh Nat.or_zero Nat.zero_or Nat.zero_mod Bool.cond_self ltF gtF
def pQ(c:Nat):Bool:=c==43||c==45
def sgC:zA:=(List.range 256).map λc=>.bool (pQ c)
def KF:zR sgC=256:=by simp[sgC]
def i0:wL sgC=true:=by decide+kernel
def iZ:vC sgC=256:=by rw[qT,KF]
def i4:w8 sgC=true:=by decide+kernel
def zvi:okV (.tup [.agg sgC,.bool true]) ((evT env noO 1000).call 161 [.str [43,45]] s0)=true:=by decide+kernel
def CX:zA->U->zc:=v7 (λ_:Unit=>[.str [43,45]]) (λ_=>True) (λ_=>.tup [.agg sgC,.bool true])
def Dk(B:Bx P X)(hO:OrcOk P X O):vW P X 161 CX:=
 Wn false (λ_=>rfl) (λ_=>by simp only[uQ,wR,uF,i0,jA,wU,xZ]) λ_ _=>zyw (jO P X) B.mixed B.glob B.env zvi
def MM(h:O 161=some CX)(st:U):(evW env O).call 161 [.str [43,45]] st=some (.tup [.agg sgC,.bool true],st):=by
 rw[qx h,CX,vY (λ_ _ _=>rfl) st () trivial rfl]
def zwL{c:Nat}(hc:c<256):qf 1 (qv c sgC)=some [.bool (pQ c)]:=by
 rw[qH,zud (by rw[KF];exact hc)]
 show some [sgC[c]'(by rw[KF];exact hc)]=_
 simp only[sgC,List.getElem_map,List.getElem_range]
def Hv:∀{l vs:zA},zR l=zR vs->Uq l vs=some vs
 |[],[],_=>rfl
 |[],_::_,h=>by cases h
 |_::_,[],h=>by cases h
 |x::l,y::vs,h=>by
  have:=Hv (l:=l) (vs:=vs) (by simpa using h)
  simp only[Uq,this]
def trL(p:Nat->Bool)(s:zy):zy:=s.dropWhile p
def HU(p:Nat->Bool)(x:Nat)(r:zy):trL p (x::r)=if p x=true then trL p r else x::r:=by
 simp only[trL,zuB]
def Ba(p:Nat->Bool)(s:zy):(trL p s).length<=zR s:=(zuA p).length_le
section
variable {O:Orc}
attribute [local go_sem] G0 HK in
def zwa(h162:O 162=none)(h174:O 174=none){s:zy}(hb:Byt s)(hl:zR s<2000000){L:zb}{p:Nat}(g:wn L p=some (.row 227 sgC))(n m:Nat)(b:Bool):
  cl O 162 [.str s,.ptr p 0] (KL L n m b)=some (.str (trL pQ s),KL L n m b):=by
 have key:Cv (cl O 162 [.str s,.ptr p 0] (KL L n m b)) λr t=>r=.str (trL pQ s)/\t=KL L n m b:=by
  refine vr (F:=f162) h162 rfl rfl (zvT rfl) ?_;have cc:∀(x n m:Nat) (b:Bool),x<256->cl O 174 [.ptr p 0,.int .u8 (.ofNat x)] (KL L n m b)=some (.bool (pQ x),KL L n m b):=λx n m b hx=>by
   have key:Cv (cl O 174 [.ptr p 0,.int .u8 (.ofNat x)] (KL L n m b)) λr t=>r=.bool (pQ x)/\t=KL L n m b:=by
    refine vr (F:=f174) h174 rfl rfl (zvT rfl) ?_;have hld:=zwL hx;unfold f174 cF;simp only;generalize sgC=cs at *;refine ev_zc ?_;exact⟨rfl,rfl⟩
   obtain⟨r,t,h,rfl,rfl⟩:=key;exact h
  obtain⟨R,hR⟩:∃R,trL pQ s=R:=⟨_,rfl⟩;rw[hR];unfold f162 cF;simp only;refine wq ?_;apply wp;apply wA;refine wP (λt:zy=>t.length) (λt f t'=>∃T,f=⟨tmL T,[]⟩/\t'=KL L n 0 true/\G T 0 (.str t)/\G T 1 (.ptr p 0)/\trL pQ t=R/\Byt t/\t.length<2000000) (λt f t' hI=>?_) s ⟨_,rfl,rfl,sW,sW,hR,hb,hl⟩;clear hR hb hl s;obtain⟨T,rfl,rfl,t0,t1,hR,hb,hl⟩:=hI;cases t with
  |nil=>
   have hR:[]=R:=hR;subst hR;refine wu ?_;refine ev_zc ?_;exact⟨rfl,rfl⟩
  | cons x r=>
   have hx:=hb.cons.1;have hbr:=hb.cons.2;have hc:=λn m b=>cc x n m b hx;simp only[yJ]at hl;rw[HU]at hR;clear cc hb;cases hd:pQ x with
   |true=>
    rw[wH hd]at hR;rw[hd]at hc;refine wu ?_;refine⟨r,⟨_,rfl,trivial,V,V,hR,hbr,J⟩,by simp⟩
   |false=>
    rw[wx (by rw[hd];simp)]at hR
    subst hR;rw[hd]at hc;refine wu ?_;refine ev_zc ?_;exact⟨rfl,rfl⟩
 obtain⟨r,t,h,rfl,rfl⟩:=key;exact h
end
def Pg(s:zy):zA:=[.str s,.str [43,45]]
def Ce:∀x y,Pg x=Pg y->x=y:=λx y h=>by
 simp only[Pg,vc,Z.str.injEq,and_true]at h;exact h
def gTl:zA->U->zc:=v7 Pg pt (λs=>.str (trL pQ s))
def zzH(h:O 138=some gTl)(h1:pt s)(st:U):(evW env O).call 138 [.str s,.str [43,45]] st=some (.str (trL pQ s),st):=by
 rw[qx h,gTl,vY Ce st s h1 rfl]
section
variable {P:Program}{X:World}(B:Bx P X){O:Orc}(hO:OrcOk P X O)
include B hO
attribute [local go_sem] iZ i4 in
def zvr(h161:O 161=some CX)(h162:O 162=none)(h174:O 174=none)(s:zy)(hs:pt s):∃s1,SC P X 138 (Pg s) (s00 0 true) (.str (trL pQ s)) s1:=by
 refine be B hO f138 ?_;have hmk:=λst=>MM (O:=O) h161 st;have hL:=λL p g n m b=> @zwa O h162 h174 s hs.1 hs.2 L p g n m b;have hov:∀l:zA,zR l=256->Uq l sgC=some sgC:=λl h=>Hv (by rw[h,KF])
 unfold f138 cF;simp only[Pg];cases s with
 |nil=>
  refine wq ?_;refine ev_zc ?_;exact I2 _ _
 |cons c r=>
  have hpu:=i0;have hlc:=iZ;have hsc:=i4;generalize sgC=cs at *;generalize trL pQ (c::r)=R at *;refine wq ?_;refine wq ?_;refine wq ?_;refine ev_zc ?_;exact I2 _ _
end
def vK(n:Nat):zA:=[.int .u16 (.ofNat n)]
theorem WS(n:Nat):(vK n).length=1:=rfl
theorem j2(n:Nat):wL (vK n)=true:=rfl
theorem Gi(n:Nat):w8 (vK n)=true:=rfl
def Fy(n:Nat):wkL (vK n)=vK n:=by simp only[vK,wkL,wkV]
def tg(l:zy):(wo vK l).length=zR l:=by rw[vI WS];exact x8 _
def V8:∀{l r:zy},wo vK l=wo vK r->l=r
 |[],[],_=>rfl
 |[],_::_,h=>by cases h
 |_::_,[],h=>by cases h
 |x::l,y::r,h=>by
  simp only[wo,vK,yu,zv1,vc,Z.int.injEq,true_and]at h;rw[V8 h.2,Int.ofNat.inj h.1]
def uP(l:zy):Z:=.lst (zR l) false (wo vK l)
def Lf(l:zy):zA:=[uP l]
def F4:∀x y,Lf x=Lf y->x=y:=λx y h=>by
 simp only[Lf,uP,vc,Z.lst.injEq,true_and,and_true]at h;exact V8 h.2
def Cg(x:zy):wL (Lf x)=true:=by simp only[Lf,uP,wR,qE,wU,xZ]
def Wc(l:zy):wkL (wo vK l)=wo vK l:=by
 induction l with
 |nil=>rfl
 |cons x r ih=>simp only[wo,vK,yu,zv1,wkL,wkV];rw[show wo vK r=wo vK r from rfl,ih]
def trR(p:Nat->Bool)(s:zy):zy:=(s.reverse.dropWhile p).reverse
def zzK(p:Nat->Bool)(u:zy)(x:Nat):trR p (u++[x])=if p x=true then trR p u else u++[x]:=by
 simp only[trR,List.reverse_append,List.reverse_cons,List.reverse_nil,zv1,List.singleton_append,zuB];split
 .rfl
 .simp
def zzL(p:Nat->Bool)(s:zy):(trR p s).length<=zR s:=by
 simp only[trR,List.length_reverse];have:=(zuA p (l:=s.reverse)).length_le
 simpa using this
def zzM{p:Nat->Bool}{x:Nat}(h:x∈trR p s):x∈s:=by
 simp only[trR,List.mem_reverse]at h;exact List.mem_reverse.1 ((zuA p).mem h)
def Fx(t:zy):t=[]\/∃u x,t=u++[x]:=by
 rcases List.eq_nil_or_concat t with h|⟨u,x,h⟩
 .exact .inl h
 .exact .inr ⟨u,x,by rw[h,List.concat_eq_append]⟩
def jF(l:zy):zy:=trR (λx=>x==0) l
def zzr(u:zy)(x:Nat):QE 1 (.lst (zR u+1) false (wo vK (u++[x]))) none (some (.int .i64 (.ofNat (zR u)))) none=some (.lst (zR u) false (wo vK u)):=by
 simp only[QE,dm,bnd,show Nat.ble (zR u) (zR u+1)=true from qd.2 J,wy,zvW];rw[show tkN (zK (Nat.sub (zR u) 0) 1) (qv (zK 0 1) (wo vK (u++[x])))=wo vK u from ?_]
 .rfl
 .rw[show zK (Nat.sub (zR u) 0) 1=(zR u)from x8 _,show zK 0 1=0 from rfl];show tkN _ (qv 0 _)=_;rw[qH,pD,List.drop_zero,qu];rw[List.take_left' (tg u)]
theorem FM(u:zy)(x:Nat):qf 1 (qv (zR u) (wo vK (u++[x])))=some [.int .u16 (.ofNat x)]:=by
 rw[qH,qu,List.drop_left' (tg u)];rfl
def zyd{o:Nat}(hd:l.drop i=o::r):qf 1 (qv i (wo vK l))=some [.int .u16 (.ofNat o)]:=by
 have:=QI WS hd;rwa [x8]at this
def U1:zA->U->zc:=v7 Lf (λl=>zR l<1000000000) (λl=>uP (jF l))
def Vx(h:O 139=some U1)(hl:List.length l<1000000000)(hv:wkV v=uP l)(s:U):(evW env O).call 139 [v] s=some (uP (jF l),s):=by
 rw[qx h,U1,vY F4 s l hl (by simp only[Lf,wkL,hv])]
attribute [local go_sem] Lf uP in
def Rb(B:Bx P X)(hO:OrcOk P X O)(l:zy)(hl:List.length l<1000000000):∃s1,SC P X 139 (Lf l) (s00 0 true) (uP (jF l)) s1:=by
 refine be B hO f139 ?_;unfold f139 cF;obtain⟨R,hR⟩:∃R,jF l=R:=⟨_,rfl⟩;rw[hR];simp only[Lf,uP];refine wq ?_;apply wp;apply wA;refine wP (λt:zy=>t.length) (λt f t'=>∃T,f=⟨tmL T,[]⟩/\t'=KL [] 0 0 true/\G T 0 (.lst t.length false (wo vK t))/\jF t=R/\t.length<1000000000) (λt f t' hI=>?_) l ⟨_,rfl,rfl,sW,hR,hl⟩;clear hR hl l;obtain⟨T,rfl,rfl,t0,hR,hl⟩:=hI;rcases Fx t with rfl|⟨u,x,rfl⟩
 .have hR:[]=R:=hR;subst hR;simp only[xY,wo]at t0;refine wu ?_;refine ev_zc ?_;exact uo rfl rfl
 .have hx:=FM u x;have hs:=zzr u x;simp only[y8,yJ,xY,xB]at hl t0 hs;unfold jF at hR;rw[zzK]at hR;by_cases h0:x=0
  .subst h0;simp only[beq_self_eq_true,if_true]at hR;generalize wo vK (u++[0])=cs at *;refine wu ?_;refine⟨u,⟨_,rfl,trivial,V,hR,J⟩,by simp⟩
  .rw[wx (by simpa using h0)]at hR
   subst hR;have hp:wL (wo vK (u++[x]))=true:=wX j2 _;have hw:=Wc (u++[x]);have hlen:(u++[x]).length=zR u+1:=by simp
   rw[hlen];generalize wo vK (u++[x])=cs at *;clear hlen;refine wu ?_;refine ev_zc ?_;exact uo hp hw
open Int renaming reduceOfNat → rO, reduceNegSucc → rN
def scF:zy->Nat->zy
 |[],c=>[c%65536]
 |x::r,c=>((c+x*10)%65536)::scF r ((c+x*10)/65536)
def Lim(l:zy):Prop:=∀x∈l,x<65536
def cN:∀(l:zy) (c:Nat),(scF l c).length=zR l+1
 |[],_=>rfl
 |_::r,_=>by simp only[scF,yJ,cN r]
def AW:∀(l:zy) (c:Nat),Lim (scF l c)
 |[],c=>λx hx=>by simp only[scF,zua,List.not_mem_nil,or_false]at hx;omega
 |y::r,c=>λx hx=>by
  simp only[scF,zua]at hx;rcases hx with rfl|hx
  .omega
  .exact AW r _ x hx
def Z4(x:zy×Nat):zA:=[uP x.1,.int .u32 (.ofNat 10),.int .u32 (.ofNat x.2)]
def nV:∀x y,Z4 x=Z4 y->x=y:=λ⟨a,b⟩ ⟨c,d⟩ h=>by
 simp only[Z4,uP,vc,Z.lst.injEq,Z.int.injEq,true_and,and_true]at h;rw[V8 h.1.2,Int.ofNat.inj h.2]
def eM(x:zy×Nat):wL (Z4 x)=true:=by simp only[Z4,uP,wR,qE,vh,wU,xZ]
def mK(x:zy×Nat):Prop:=Lim x.1/\zR x.1<100000000/\x.2<65536
theorem zz3(a:Nat):ji .u16 (.ofNat a)=.ofNat (a%65536):=by
 rw[pq];unfold IntKind.wrap;simp only[IntKind.signed,zvW,Bool.false_eq_true,if_false];rfl
theorem zvl(a:Nat):jl .shr .u32 (.ofNat a) .u64 (.ofNat 16)=some (.int .u32 (.ofNat (a/65536))):=by
 show some (Z.int .u32 (Int.fdiv (.ofNat a) (.ofNat 65536)))=_;cases a<;>rfl
def Mb:zA->U->zc:=v7 Z4 mK (λx=>uP (scF x.1 x.2))
def OA(h:O 140=some Mb){c:Nat}(hp:mK (l,c))(hv:wkV v=uP l)(s:U):(evW env O).call 140 [v,.int .u32 (.ofNat 10),.int .u32 (.ofNat c)] s=some (uP (scF l c),s):=by
 rw[qx h,Mb,vY nV s (l,c) hp (by simp only[Z4,wkL,hv,wkV])]
attribute [local go_sem] Z4 uP zz3 zvl in
def zx2(B:Bx P X)(hO:OrcOk P X O)(x:zy×Nat)(hx:mK x):∃s1,SC P X 140 (Z4 x) (s00 0 true) (uP (scF x.1 x.2)) s1:=by
 refine be B hO f140 ?_;obtain⟨l,c⟩:=x;obtain⟨hlim,hl,hc⟩:=hx;simp only at hlim hl hc|-;obtain⟨R,hR⟩:∃R,scF l c=R:=⟨_,rfl⟩;rw[hR];unfold f140 cF;simp only[Z4,uP];refine wq ?_;refine wq ?_;refine wp (wp (wu ?_));apply wA;refine wP (λi:Nat×Nat×zy=>zR l-i.1) (λi f t=>∃T L n m Y,f=⟨tmL T,[]⟩/\t=KL L n m true/\G T 1 (.int .u32 (.ofNat 10))/\G T 2 (.int .u32 (.ofNat i.2.1))/\G T 7 (vZ vK 1 Y i.2.2)/\G T 10 (.lst (zR l) false (wo vK l))/\G T 11 (zR l)/\G T 12 i.1/\i.1<=zR l/\i.2.1<65536/\zR i.2.2=i.1/\Lv 232 vK L n Y i.2.2/\i.2.2++scF (l.drop i.1) i.2.1=R) (λi f t hI=>?_) (0,c,[]) ⟨_,_,_,_,0,rfl,rfl,sW,sW,by simp (disch:=first|exact dis|fail)only[go_sem,seval,-rO,-rN,vZ],sW,sW,sW,yz _,hc,rfl,λh=>absurd rfl h,hR⟩
 clear hR hc c;obtain⟨T,L,n,m,Y,rfl,rfl,t1,t2,t7,t10,t11,t12,hi,hc,hol,hok,hR⟩:=hI;obtain⟨i,c,out⟩:=i;simp only at t2 t7 t12 hi hc hol hok hR|-;rcases wJ l i with ⟨hlt,hd⟩|⟨x,hlt,hd⟩
 .rw[hd]at hR;simp only[scF]at hR;have hni:¬i<zR l:=J;refine wu ?_;apply wp;refine qB ?_;refine wO (pK WS j2 Gi J hok (ws:=[c%65536]) (by simp only[yJ,xY];omega) (by simp only[yJ,xY];omega)) λv t hv=>?_
  obtain⟨id2,L2,n2,m2,rfl,rfl,_⟩:=hv;rw[hR];obtain⟨v0,hf,hz⟩:=Ud (esz:=1) (Y:=id2) (s:=KL [] 0 0 true) j2 Fy R;refine wu ?_;refine ev_zc ?_;exact hz
 .have hx:=hlim x (zvY (by rw[hd];exact zvZ))
  have hcx:=zyd hd;rw[hd]at hR;simp only[scF]at hR;refine wq ?_;refine wp (vM sW ?_);refine wu ?_;refine wp (wA ?_);refine wq ?_;refine wq ?_;apply wp;refine qB ?_;refine wO (pK WS j2 Gi J hok (ws:=[(c+x*10)%65536]) (by simp only[yJ,xY];omega) (by simp only[yJ,xY];omega)) λv t hv=>?_
  obtain⟨id2,L2,n2,m2,rfl,rfl,q1,_⟩:=hv;refine wu ?_;refine wu ?_;refine wu ?_;exact⟨(i+1,(c+x*10)/65536,out++[(c+x*10)%65536]),⟨_,_,_,_,id2,rfl,rfl,V,V,V,V,V,V,by simp only;omega,by simp only;omega,by simp only[y8,yJ,xY];omega,q1,by rw[List.append_assoc];exact hR⟩,by simp only;omega⟩
def QK(x:Bool×zy):zA:=[.bool x.1,uP x.2]
def Cf:∀x y,QK x=QK y->x=y:=λ⟨a,b⟩ ⟨c,d⟩ h=>by
 simp only[QK,uP,vc,Z.lst.injEq,Z.bool.injEq,true_and,and_true]at h;rw[V8 h.2.2,h.1]
def nW(x:Bool×zy):wL (QK x)=true:=by simp only[QK,uP,wR,qE,jA,wU,xZ]
def J5(b:Bool)(l:zy):Bool:=b&&decide (0<(jF l).length)
def jJ(b:Bool)(l:zy):Z:=.agg [.bool b,uP l]
def tH:zA->U->zc:=v7 QK (λx=>zR x.2<1000000000) (λx=>jJ (J5 x.1 x.2) (jF x.2))
def Js(l:zy):(jF l).length<=zR l:=zzL _ l
def Ez(h:Lim l):Lim (jF l):=λx hx=>h x (zzM hx)
def El(h:O 141=some tH)(hl:List.length l<1000000000)(hv:wkV v=uP l)(s:U):(evW env O).call 141 [.bool b,v] s=some (jJ (J5 b l) (jF l),s):=by
 rw[qx h,tH,vY Cf s (b,l) hl (by simp only[QK,wkL,hv,wkV])]
def oJ{s:U}:Fz s (.agg [.bool b,.lst (zR l) false (wo vK l)]) (jJ b l):=
 gL (wG (qM _ _) (wG (uo (wX j2 _) (Wc _)) ve))
attribute [local go_sem] QK uP in
def zzG(B:Bx P X)(hO:OrcOk P X O)(h139:O 139=some U1)(x:Bool×zy)(hl:List.length x.2<1000000000):∃s1,SC P X 141 (QK x) (s00 0 true) (jJ (J5 x.1 x.2) (jF x.2)) s1:=by
 refine be B hO f141 ?_;obtain⟨b,l⟩:=x;have ht:=λs=>Vx h139 hl (v:=uP l) (by simp only[uP,wkV,Wc]) s
 simp only at hl ht;unfold f141 cF;simp only[QK,uP,J5]at ht|-;have hp:wL (wo vK (jF l))=true:=wX j2 _;generalize jF l=r at *;cases b with
 |false=>
  refine ev_zc ?_;exact oJ
 |true=>
  rw[xC];by_cases h0:0<r.length
  .rw[qL h0];refine ev_zc ?_;exact oJ
  .rw[qy h0];refine ev_zc ?_;exact oJ
def Jk:zy->zy->zy
 |[],l=>l
 |c::r,l=>Jk r (jF (scF l (c-48)))
def iD:∀(s l:zy),(Jk s l).length<=zR l+zR s
 |[],_=>by simp[Jk]
 |c::r,l=>by
  have h1:=iD r (jF (scF l (c-48)));have h2:=Js (scF l (c-48));have h3:=cN l (c-48);simp only[Jk,yJ];omega
def ngF:zy->Bool
 |[]=>false
 |c::_=>decide (c=45)
def rp(s:zy):Z:=.tup [jJ (J5 (ngF s) (Jk (trL pQ s) [])) (jF (Jk (trL pQ s) [])),(0:Nat)]
def I8:zA->U->zc:=v7 kT (λs=>pt s/\Xj s=true) rp
def zxB(h:Xj s=true):∃x r,trL pQ s=x::r/\(x::r).all jD=true/\List.length s<=r.length+2/\r.length+1<=List.length s:=by
 have key:∀(c:Nat) (r:zy),(c::r).all jD=true->trL pQ (c::r)=c::r:=λc r h=>by
  rw[HU,wx];intro h2;simp only[List.all_cons,jD,zU,hZ]at h;simp only[pQ,Bool.or_eq_true,beq_iff_eq]at h2;omega
 cases s with
 |nil=>cases h
 | cons c r=>
  simp only[Xj,gp]at h;by_cases hc:c=45
  .rw[wH hc]at h;cases r with
   |nil=>cases h
   |cons x r=>
    simp only[zU]at h;refine⟨x,r,?_,h.2,by simp,by simp⟩
    rw[HU,wH (by rw[hc];rfl)]
    exact key x r h.2
  .rw[wx hc]at h;simp only[zU]at h;exact⟨c,r,key c r h.2,h.2,by simp,by simp⟩
section
variable {P:Program}{X:World}(B:Bx P X){O:Orc}(hO:OrcOk P X O)
include B hO
attribute [local go_sem] kT uP jJ G0 in
def zxM(h138:O 138=some gTl)(h139:O 139=some U1)(h140:O 140=some Mb)(h141:O 141=some tH)(s:zy)(hs:pt s)(hn:Xj s=true):∃s1,SC P X 110 (kT s) (s00 0 true) (rp s) s1:=by
 refine be B hO f110 ?_;have htl:=λst=>zzH h138 hs st;obtain⟨x,r,ht,hdig,hl1,hl2⟩:=zxB hn;obtain⟨hby,hlen⟩:=hs;obtain⟨R,hR⟩:∃R,rp s=R:=⟨_,rfl⟩;rw[hR];unfold rp at hR;rw[ht]at htl hR;have hlb:(trL pQ s).length<=zR s:=Ba _ _;rw[ht]at hlb;have hltlen:(x::r).length<2000000:=J;have hd1:∀y∈x::r,48<=y/\y<=57:=λy hy=>by
  have:=List.all_eq_true.1 hdig y hy
  simpa [jD]using this
 unfold f110 cF;simp only[kT];obtain⟨c,q,rfl⟩:∃c q,s=c::q:=by
  cases s with
  |nil=>cases hn
  |cons c q=>exact⟨c,q,rfl⟩
 simp only[yJ]at hl1 hl2;have hsub:¬(q.length+1-(r.length+1))>1:=J;refine wq ?_;refine wq ?_;refine wq ?_;refine wq ?_;refine wp (wp (wu ?_));apply wA;have hlr:r.length+1=(x::r).length:=rfl;have hbr:Z.int .u8 (.ofNat x)::qo r=qo (x::r):=rfl;rw[hlr,hbr];clear hlr hbr htl ht hl1 hl2 hlb hdig hsub hn hby;generalize x::r=D at *;refine wP (λy:Nat×zy=>zR D-y.1) (λy f t=>∃T v,f=⟨tmL T,[]⟩/\t=KL [(0,some (AObj.row 157 [Z.bool false,Z.nils]))] 1 0 true/\G T 0 (.str (c::q))/\G T 2 (.ptr 0 0)/\G T 5 v/\G T 22 (.lst (zR D) false (qo D))/\G T 23 (zR D)/\G T 24 y.1/\wkV v=uP y.2/\y.1<=zR D/\Jk (D.drop y.1) y.2=Jk D []/\Lim y.2/\zR y.2<=y.1) (λy f t hI=>?_) (0,[]) ⟨_,.nils,rfl,rfl,sW,sW,sW,sW,sW,sW,rfl,yz _,rfl,(λy hy=>(by cases hy)),zX _⟩
 obtain⟨T,v,rfl,rfl,t0,t2,t5,t22,t23,t24,hv,hi,hp,hlim,hll⟩:=hI;obtain⟨i,l⟩:=y;simp only at t24 hv hi hp hlim hll|-;rcases wJ D i with ⟨hlt,hd⟩|⟨y,hlt,hd⟩
 .have hni:¬i<zR D:=J;rw[hd]at hp;simp only[Jk]at hp;rw[<-hp]at hR;have htd:=λb s=>El h141 (b:=b) (l:=l) J hv s;subst hR;simp only[ngF,jJ,uP]at htd|-;have hp1:wL (wo vK (jF l))=true:=wX j2 _;have hw1:wkL (wo vK (jF l))=wo vK (jF l):=Wc _;have hfin:∀(s:U) (b:Bool) (k:Nat) (cs:zA),wL cs=true->wkL cs=cs->Fz s (.tup [.agg [.bool b,.lst k false cs],(0:Nat)]) (.tup [.agg [.bool b,.lst k false cs],(0:Nat)]):=λs b k cs h1 h2=>by
   simp only[Fz];exact⟨_,rfl,wG (gL (wG (qM _ _) (wG (uo h1 h2) ve))) (wG (wS _ _ _) ve)⟩
  clear hv hp hlim hd hlt;by_cases hc:c=45
  .subst hc;simp only[decide_true];replace htd:=λs=>htd true s;generalize J5 true l=tb at *;generalize wo vK (jF l)=cs at *;refine wu ?_;refine ev_zc ?_;exact hfin _ _ _ _ hp1 hw1
  .have hdc:decide (c=45)=false:=qy hc;rw[hdc];replace htd:=λs=>htd false s;generalize J5 false l=tb at *;generalize wo vK (jF l)=cs at *;refine wu ?_;refine ev_zc ?_;exact hfin _ _ _ _ hp1 hw1
 .have hb:qf 1 (qo (D.drop i))=some [.int .u8 (.ofNat y)]:=by rw[hd];rfl
  have hy:=hd1 y (zvY (by rw[hd];exact zvZ))
  obtain⟨hy1,hy2⟩:=hy;rw[hd]at hp;simp only[Jk]at hp;have hsl:=cN l (y-48);have hsm:=AW l (y-48);have hsc:=λs=>OA h140 (l:=l) (c:=y-48) ⟨hlim,by simp only;omega,by simp only;omega⟩ hv s
  have htr:=λs=>Vx h139 (l:=scF l (y-48)) J (v:=uP (scF l (y-48))) (by simp only[uP,wkV,Wc]) s
  have htl:=Js (scF l (y-48));have htm:=Ez hsm;simp only[uP]at hsc htr;rw[hsl]at htr;have hny:¬y<48:=J;have hny2:¬57<y:=J;clear hv hlim hd hsm;refine wu ?_;refine⟨(i+1,jF (scF l (y-48))),⟨_,.lst (jF (scF l (y-48))).length false (wo vK (jF (scF l (y-48)))),rfl,trivial,V,V,V,V,V,V,by simp only[uP,wkV,Wc],by simp only;omega,hp,htm,by simp only;omega⟩,by simp only;omega⟩
end
def HL:zy×ICode×ICode:=match f164.body with
 |.seq _ (.seq _ (.seq _ (.seq _ (.seq (.seq _ (.block _ (.rf _ ps a b))) _))))=>(ps,a,b)
 |_=>([],.skip,.skip)
def zw5(a b:Int):∃w,jl .or .u64 a .u64 b=some (.int .u64 w):=⟨_,rfl⟩
def zx5(a:Int):∃w,jl .shl .u64 a .u64 (.ofNat 16)=some (.int .u64 w):=⟨_,rfl⟩
section
variable {O:Orc}
def Fk(h:O 177=none){l:zy}{L:zb}{n m:Nat}(b:Bool):
  Cv (cl O 177 [.lst (zR l) false (wo vK l)] (KL L n m b)) λv t=>∃m2,v=.fn 181 [] [.ptr n 0]/\t=KL ((n,some (.row 155 [.lst (zR l) false (wo vK l)]))::L) (n+1) m2 b:=by
 refine qD (F:=f177) h rfl rfl (zvT rfl) ?_;unfold f177 cF;simp only;refine wq ?_;refine wq ?_;refine ev_zc ?_;exact⟨_,rfl,rfl⟩
attribute [local go_sem] HL f164 in
def Bq(h181:O 181=none){ab l:Nat}{ls:zy}{z:Int}(hl:zR ls<1000000)(gnb:wn L nb=some (.row 155 [.lst (zR ls) false (wo vK ls)]))(gl:wn L l=some (.loop .ready none (tmL tF) HL.1 HL.2.1 HL.2.2 dd))(t5:G tF 5 (.ptr ab 0))(gab:wn L ab=some (.row 145 [.int .u64 z]))(h1:nb≠ab/\nb≠l/\ab≠l)(b:Bool):
  Cv (cl O 181 [.yld l,.ptr nb 0] (KL L n m b)) λv t=>∃z2 L2 m2,t=KL L2 n m2 b/\wn L2 l=some (.loop .ready none (tmL tF) HL.1 HL.2.1 HL.2.2 dd)/\wn L2 ab=some (.row 145 [.int .u64 z2])/\∀j,j≠ab->j≠l->wn L2 j=wn L j:=by
 refine qD (F:=f181) h181 rfl rfl (zvT rfl) ?_;have hs3:=Yb (k:=zR ls) J;unfold f181 cF;simp only;refine wq ?_;apply wA;refine wP (λk:Nat=>k) (λk fr s=>∃T L2 m2 z2,fr=⟨tmL T,[]⟩/\s=KL L2 n m2 false/\G T 0 (.yld l)/\G T 1 (.ptr nb 0)/\G T 3 (.int .i64 (i3 k))/\k<=zR ls/\wn L2 l=some (.loop .ready none (tmL tF) HL.1 HL.2.1 HL.2.2 dd)/\wn L2 ab=some (.row 145 [.int .u64 z2])/\∀j,j≠ab->j≠l->wn L2 j=wn L j) (λk2 fr s hI=>?_) (zR ls) ⟨_,L,m,z,rfl,rfl,sW,sW,sW,J,gl,gab,λ_ _ _=>rfl⟩;obtain⟨T,L2,m2,z2,rfl,rfl,q0,q1,q3,hk3,gl2,gab2,hfr⟩:=hI;have gnb2:wn L2 nb=some (.row 155 [.lst (zR ls) false (wo vK ls)]):=by rw[hfr nb h1.1 h1.2.1];exact gnb
 cases k2 with
 |zero=>
  simp only[i3]at q3;clear gnb gab hs3 gl;refine ev_zc ?_;exact⟨z2,L2,m2,rfl,gl2,gab2,hfr⟩
 |succ k2=>
  have hlt:k2<zR ls:=J;obtain⟨x,hd⟩:∃x,ls.drop k2=x::ls.drop (k2+1):=⟨_,zud hlt⟩;have hcx:=zyd hd;have hs2:=Yb (k:=k2) J;obtain⟨w1,hw1⟩:=zx5 z2;obtain⟨w2,hw2⟩:=zw5 w1 (ji .u64 (.ofNat x));obtain⟨e1,e2,e3⟩:=h1;clear gnb gab hs3 gl hd;simp only[i3]at q3;have e4:=e3.symm;replace hfr:=λj h1 h2=>(hfr j h1 h2).symm;refine wu ?_;refine⟨k2,⟨_,_,_,w2,rfl,rfl,V,V,V,J,V,V,λj h1 h2=>?_⟩,J⟩
  (repeat (rw[gN J]))
  exact(hfr j h1 h2).symm
end
section
variable {α:Type}
open Classical in
def exV(P:Program)(X:World)(f:Nat)(enc:α->zA)(Good:α->Z->Prop)(x:α):Z:=
 if h:∃v,Good x v/\qg v=true/\∃s1,SC P X f (enc x) (s00 0 true) v s1 then Classical.choose h else .bool true
def jy(P:Program)(X:World)(f:Nat)(enc:α->zA)(Pre:α->Prop)(Good:α->Z->Prop):Prop:=∀x,Pre x->∃v,Good x v/\qg v=true/\∃s1,SC P X f (enc x) (s00 0 true) v s1
def j7(P:Program)(X:World)(f:Nat)(enc:α->zA)(Pre:α->Prop)(Good:α->Z->Prop):zA->U->zc:=v7 enc Pre (exV P X f enc Good)
def X9{enc:α->zA}{Good:α->Z->Prop}{x:α}(h:∃v,Good x v/\qg v=true/\∃s1,SC P X f (enc x) (s00 0 true) v s1):Good x (exV P X f enc Good x)/\qg (exV P X f enc Good x)=true/\∃s1,SC P X f (enc x) (s00 0 true) (exV P X f enc Good x) s1:=by
 unfold exV;rw[dif_pos h];exact Classical.choose_spec h
theorem CJ{enc:α->zA}{Pre:α->Prop}{Good:α->Z->Prop}(he:∀x,wL (enc x)=true)(h:jy P X f enc Pre Good):vW P X f (j7 P X f enc Pre Good):=by
 refine Wn true he (λx=>?_) λx hp=>(X9 (h x hp)).2.2;by_cases hx:∃v,Good x v/\qg v=true/\∃s1,SC P X f (enc x) (s00 0 true) v s1
 .exact(X9 hx).2.1
 .unfold exV;rw[dif_neg hx];rfl
def jt{enc:α->zA}{Pre:α->Prop}{Good:α->Z->Prop}(hO:O f=some (j7 P X f enc Pre Good))(h:jy P X f enc Pre Good)(inj:∀x y,enc x=enc y->x=y)(x:α)(hp:Pre x){args:zA}(ha:wkL args=enc x):∃v,Good x v/\qg v=true/\∀s,cl O f args s=some (v,s):=
 ⟨exV P X f enc Good x,(X9 (h x hp)).1,(X9 (h x hp)).2.1,λs=>oc hO inj x hp ha s⟩
end
def beX(B:Bx P X)(hO:OrcOk P X O){f:Nat}(F:IFunc){args:zA}{G:Z->Prop}(h:Ev (evC env (evW env O) none F.body ⟨qG (tmL []) 0 args,[]⟩ (KL [] 0 0 true)) λr fr t=>Cv (Yu (KL [] 0 0 true) (qJ env.globs F.res (some (r,fr,t)))) λv0 s1=>∃v,G v/\qg v=true/\Fz s1 v0 v)(hF:env.funs.get f=some F:=by exact rfl)(hp:env.pure f=true:=by exact rfl)(ha:List.length args<=F.ntmps:=by exact Nat.le_of_ble_eq_true rfl):∃v,G v/\qg v=true/\∃s1,SC P X f args (s00 0 true) v s1:=by
 obtain⟨r,fr,t,e,v0,s1,e2,v,hg,hpu,hz⟩:=h;exact⟨v,hg,hpu,be B hO F ⟨r,fr,t,e,v0,s1,e2,hz⟩ hF hp ha⟩
def kh(x:Bool×zy):zA:=[jJ x.1 x.2]
def L9:∀x y,kh x=kh y->x=y:=λ⟨a,b⟩ ⟨c,d⟩ h=>by
 simp only[kh,jJ,uP,vc,Z.lst.injEq,Z.bool.injEq,Z.agg.injEq,true_and,and_true]at h;rw[V8 h.2.2,h.1]
def X5(b:Bool)(l:zy):qg (jJ b l)=true:=by simp only[jJ,uP,uF,wR,qE,jA,wU,xZ]
def Gy(x:Bool×zy):wL (kh x)=true:=by simp only[kh,wR,X5,wU,xZ]
def Pf(b:Bool)(l:zy):wkV (jJ b l)=jJ b l:=by simp only[jJ,uP,wkV,wkL,Wc]
def GSm(_:Bool×zy)(v:Z):Prop:=∃k b,v=.tup [.int .i64 k,.bool b]
def Ye(x:Bool×zy):Prop:=zR x.2<100000000
def Xs{s:U}(k:Int)(b:Bool):∃v,(∃k b,v=Z.tup [.int .i64 k,.bool b])/\qg v=true/\Fz s (.tup [.int .i64 k,.bool b]) v:=by
 refine⟨_,⟨k,b,rfl⟩,rfl,?_⟩;simp only[Fz];exact⟨_,rfl,wG (wS _ _ _) (wG (qM _ _) ve)⟩
section
variable {P:Program}{X:World}(B:Bx P X){O:Orc}(hO:OrcOk P X O)
include B hO
section
attribute [local go_sem] uP jJ
def OL(h139:O 139=some U1)(h177:O 177=none)(h181:O 181=none):jy P X 164 kh Ye GSm:=by
 intro x hx;refine beX B hO f164 ?_;obtain⟨g,l⟩:=x;have hx:zR l<100000000:=hx;have htr:=λs=>Vx h139 (l:=l) J (v:=uP l) (by simp only[uP,wkV,Wc]) s
 have hbw:=λ(ls:zy) L n m b=> @Fk O h177 ls L n m b;simp only[kh,jJ,uP]at htr|-;generalize jF l=ls at *;unfold f164 cF;simp only;by_cases h4:4<zR ls
 .refine wq ?_;refine wq ?_;refine wq ?_;refine qP ?_;exact Xs _ _
 .refine wq ?_;refine wq ?_;refine wq ?_;refine wq ?_;refine wp (wp (qB ?_));refine wO (hbw ls _ _ _ _) λv t hv=>?_;obtain⟨m2,rfl,rfl⟩:=hv;refine wu ?_;apply wA;refine qB ?_;refine II (Bq h181 (ls:=ls) (ab:=1) (z:=.ofNat 0) J ?_ (wC _ _ _) ?_ ?_ ?_ _) λv t hv=>?_
  .simp (disch:=first|exact dis|fail)only[go_sem,seval,-rO,-rN]
  .simp (disch:=first|exact dis|fail)only[go_sem,seval,-rO,-rN]
  .simp (disch:=first|exact dis|fail)only[go_sem,seval,-rO,-rN]
  .simp (disch:=first|exact dis|fail)only[go_sem,seval,-rO,-rN]
  obtain⟨z2,L2,m3,rfl,gl,gz,hfr⟩:=hv;simp only[HL,f164]at gl;have gdf:=hfr 3 J J;have g0:=hfr 0 J J;simp (disch:=first|exact dis|fail)only[go_sem,seval,-rO,-rN]at gdf
  simp (disch:=first|exact dis|fail)only[go_sem,seval,-rO,-rN]at g0
  clear hfr hbw htr;refine wu ?_;obtain⟨w,hw⟩:∃w,vUn .neg (.int .u64 z2)=some (.int .u64 w):=⟨_,rfl⟩;cases g with
  | true=>
   cases c1:ltD (.ofNat 9223372036854775808) z2 with
   |false=>
    refine wq ?_;rw[kQ (by (repeat rw[wz,wx J]);exact gdf)]
    refine qP ?_;exact Xs _ _
   |true=>
    refine wq ?_;refine wu ?_;rw[kQ (by (repeat rw[wz,wx J]);exact gdf)]
    refine qP ?_;exact Xs _ _
  | false=>
   cases c1:ltD (.ofNat 9223372036854775807) z2 with
   |false=>
    refine wq ?_;rw[kQ (by (repeat rw[wz,wx J]);exact gdf)]
    refine qP ?_;exact Xs _ _
   |true=>
    refine wq ?_;refine wu ?_;rw[kQ (by (repeat rw[wz,wx J]);exact gdf)]
    refine qP ?_;exact Xs _ _
def zxm(h164:O 164=some (j7 P X 164 kh Ye GSm))(hs:jy P X 164 kh Ye GSm):jy P X 142 kh Ye GSm:=by
 intro x hx;refine beX B hO f142 ?_;obtain⟨v,⟨k,g2,rfl⟩,hpv,hcall⟩:=jt h164 hs L9 x hx (args:=kh x) (by simp only[kh,wkL,Pf])
 obtain⟨g,l⟩:=x;simp only[kh,jJ,uP]at hcall|-;unfold f142 cF;simp only;cases g2 with
 |false=>
  refine wq ?_;refine wq ?_;refine wq ?_;refine qP ?_;exact Xs _ _
 | true=>
  cases c1:ltD k (.negSucc 536870911)with
  |true=>
   refine wq ?_;refine wq ?_;refine wq ?_;refine qP ?_;exact Xs _ _
  | false=>
   cases c2:ltD (.ofNat 536870911) k with
   |true=>
    refine wq ?_;refine wq ?_;refine wq ?_;refine qP ?_;exact Xs _ _
   |false=>
    refine wq ?_;refine wq ?_;refine wq ?_;refine wu ?_;refine qP ?_;exact Xs _ _
end
end
structure Vl where
 k:Int
 n:Int
def wD(v:Vl):zA:=[.int .i64 v.k,.int .i64 v.n]
theorem uX(v:Vl):(wD v).length=2:=rfl
theorem kG(v:Vl):wL (wD v)=true:=rfl
theorem kH(v:Vl):w8 (wD v)=true:=rfl
def WT(v:Vl):wkL (wD v)=wD v:=by simp only[wD,wkL,wkV]
def nv:∀x y:Vl,wD x=wD y->x=y:=λ⟨a,b⟩ ⟨c,d⟩ h=>by
 simp only[wD,vc,Z.int.injEq,true_and,and_true]at h;rw[h.1,h.2]
def fb{l r:List Vl}(h:wo wD l=wo wD r):l=r:=pU (k:=2) uX J nv h
def th(l:List Vl):wkL (wo wD l)=wo wD l:=ua WT l
def Qb(l:List Vl):wL (wo wD l)=true:=wX kG l
def GN(l:List Vl):(wo wD l).length=zR l*2:=vI uX l
def qZ(l:List Vl):Z:=.lst (zR l) false (wo wD l)
def gM(l:List Vl):qg (qZ l)=true:=by simp only[qZ,qE]
def Hd(l:List Vl):wkV (qZ l)=qZ l:=by simp only[qZ,wkV,th]
def X1{l:List Vl}{o:Vl}{r:List Vl}(hd:l.drop i=o::r):qf 2 (qv (i*2) (wo wD l))=some (wD o):=QI uX hd
def j4(t:zy):List Vl:=((uG t).getD []).map λc=>⟨.ofNat 2,.ofNat c⟩
def Q2{t:zy}(h:uG t=some l):List.length l<=t.length:=by
 unfold uG at h;split at h
 .rename_i l2 h2
  have:=VK (b:=t) (by simp) (by simp) h2
  simp only[wB]at h;rw[<-h,List.length_map];exact this
 .cases h
def Gk(t:zy):(j4 t).length<=t.length:=by
 unfold j4;rw[List.length_map];cases h:uG t with
 |none=>simp
 |some l=>simpa using Q2 h
def Vc:zA->U->zc:=v7 kT pt (λt=>qZ (j4 t))
def YP(h:O f=some Vc){t:zy}(hp:pt t)(s:U):(evW env O).call f [.str t] s=some (qZ (j4 t),s):=by
 rw[qx h,Vc,vY Zi s t hp rfl]
theorem zyc{o:Nat}(hd:l.drop i=o::r):qf 1 (qv i (j3 l))=some [.int .i64 (.ofNat o)]:=by
 rw[ei,hd];rfl
section
variable {P:Program}{X:World}(B:Bx P X){O:Orc}(hO:OrcOk P X O)
include B hO
attribute [local go_sem] kT qZ in
def FC(h109:O 109=some Wd)(t:zy)(hp:pt t):∃s1,SC P X 113 (kT t) (s00 0 true) (qZ (j4 t)) s1:=by
 refine be B hO f113 ?_;have hcc:=λs=>YQ (f:=109) h109 hp.1 hp.2 s;have hlen:=hp.2;have hcr:∃l er,kw t=.tup [.lst (zR l) false (j3 l),.int .i64 (.ofNat er)]/\j4 t=l.map (λc=>⟨.ofNat 2,.ofNat c⟩)/\zR l<=t.length:=by
  unfold kw j4;cases h:uG t with
  |none=>exact⟨[],4,rfl,rfl,by simp⟩
  |some l=>exact⟨l,0,rfl,rfl,Q2 h⟩
 obtain⟨l,er,h1,h2,hl⟩:=hcr;rw[h1]at hcc;rw[h2];obtain⟨R,hR⟩:∃R,l.map (λc=>(⟨.ofNat 2,.ofNat c⟩:Vl))=R:=⟨_,rfl⟩;rw[hR];clear h1 h2;unfold f113 cF;simp only[kT,qZ];refine wq ?_;refine wq ?_;refine wp (wp (wu ?_));apply wA;refine wP (λx:Nat×List Vl=>zR l-x.1) (λx f t=>∃T L n m Y,f=⟨tmL T,[]⟩/\t=KL L n m true/\G T 2 (vZ wD 2 Y x.2)/\G T 12 (.lst (zR l) false (j3 l))/\G T 13 (zR l)/\G T 14 x.1/\x.1<=zR l/\zR x.2=x.1/\Lv 131 wD L n Y x.2/\x.2++(l.drop x.1).map (λc=>⟨.ofNat 2,.ofNat c⟩)=R) (λx f t hI=>?_) (0,[]) ⟨_,_,_,_,0,rfl,rfl,by simp (disch:=first|exact dis|fail)only[go_sem,seval,-rO,-rN,vZ],sW,sW,sW,yz _,rfl,λh=>absurd rfl h,hR⟩
 clear hR;obtain⟨T,L,n,m,Y,rfl,rfl,t2,t12,t13,t14,hi,hol,hok,hR⟩:=hI;obtain⟨i,out⟩:=x;simp only at t2 t14 hi hol hok hR|-;rcases wJ l i with ⟨hlt,hd⟩|⟨x,hlt,hd⟩
 .have hni:¬i<zR l:=J;rw[hd]at hR;simp only[List.map_nil,zvV]at hR;subst hR;obtain⟨v0,hf,hz⟩:=Ud (esz:=2) (Y:=Y) (s:=KL [] 0 0 true) kG WT out;refine wu ?_;refine wu ?_;refine qP ?_;exact hz
 .have hcx:=zyc hd;rw[hd,List.map_cons]at hR;refine wq ?_;refine wp (vM sW ?_);refine wu ?_;refine wp (wA ?_);refine wq ?_;refine qB ?_;refine wO (pK uX kG kH J hok (ws:=[⟨.ofNat 2,.ofNat x⟩]) (by simp only[yJ,xY];omega) (by simp only[yJ,xY];omega)) λv t hv=>?_
  obtain⟨id2,L2,n2,m2,rfl,rfl,q1,_⟩:=hv;refine wu ?_;refine wu ?_;exact⟨(i+1,out++[⟨.ofNat 2,.ofNat x⟩]),⟨_,_,_,_,id2,rfl,rfl,V,V,V,V,by simp only;omega,by simp only[y8,yJ,xY];omega,q1,by rw[List.append_assoc];exact hR⟩,by simp only;omega⟩
end
structure Ob where
 c:zA
 len:zR c=5
 sc:w8 c=true
structure Sto(q:Bool) where
 obs:List Ob
 oid:Nat
 ys:List Vl
 yid:Nat
 bs:zy
 ld:Int
 wd:Bool
def Sto.row:{q:Bool}->Sto q->AObj
 |true,S=>.row 114 [.bool true,.nils,gSl 5 S.oid (zR S.obs),gSl 2 S.yid (zR S.ys),.nils,.nils]
 |false,S=>.row 127 [.nils,gSl 5 S.oid (zR S.obs),gSl 2 S.yid (zR S.ys),.nils,.nils,S.ld,.bool S.wd]
def Og:∀{q:Bool} (S:Sto q),∃t cs,S.row=.row t cs
 |true,_=>⟨_,_,rfl⟩
 |false,_=>⟨_,_,rfl⟩
abbrev tVq:Bool->Nat
 |true=>131
 |false=>149
abbrev tOq:Bool->Nat
 |true=>164
 |false=>187
def SymAt(q:Bool)(L:zb)(bs:zy)(obs:List Ob)(y:Vl):Prop:=∃(i a bid:Nat) (oi oa:Ob) (l:List Vl),y=⟨.ofNat 7,.ofNat i⟩/\obs[i]? =some oi/\obs[a]? =some oa/\qf 1 (qv 2 oi.c)=some [.sl bid 0 1 (.fix 1)]/\bid∈bs/\wn L bid=some (.row (tVq q) (wD ⟨.ofNat 7,.ofNat a⟩))/\qf 1 (qv 2 oa.c)=some [qZ l]/\zR l<2000000
structure StOk{q:Bool}(sp:Nat)(L:zb)(n:Nat)(S:Sto q):Prop where
 wf:WfA L n
 row:wn L sp=some S.row
 go:GAt (tOq q) Ob.c L 0 n S.oid S.obs
 gy:GAt (tVq q) wD L 0 n S.yid S.ys
 sy:∀y∈S.ys,SymAt q L S.bs S.obs y
 bl:∀b∈S.bs,∃cs,wn L b=some (.row (tVq q) cs)
def SymAt.mono{q:Bool}{bs bs2:zy}{obs more:List Ob}{y:Vl}(h:SymAt q L bs obs y)(hb:∀b∈bs,b∈bs2)(hf:∀j∈bs,wn L2 j=wn L j):SymAt q L2 bs2 (obs++more) y:=by
 obtain⟨i,a,bid,oi,oa,l,e,h1,h2,h3,h4,h5,h6,h7⟩:=h;have hi:i<zR obs:=(List.getElem?_eq_some_iff.1 h1).1;have ha:a<zR obs:=(List.getElem?_eq_some_iff.1 h2).1;exact⟨i,a,bid,oi,oa,l,e,by rw[xb hi];exact h1,by rw[xb ha];exact h2,h3,hb _ h4,by rw[hf bid h4];exact h5,h6,h7⟩
section
variable {q:Bool}{sp n:Nat}{L:zb}{S:Sto q}
def StOk.spn(h:StOk sp L n S):sp<n:=h.wf.lt h.row
def StOk.ne_o(h:StOk sp L n S)(hg:wn L j=some (.row t cs))(h0:S.obs≠[]):j≠S.oid:=λe=>by
 have:=(h.go h0).2.2;rw[<-e,hg]at this;simp at this
def StOk.ne_y(h:StOk sp L n S)(hg:wn L j=some (.row t cs))(h0:S.ys≠[]):j≠S.yid:=λe=>by
 have:=(h.gy h0).2.2;rw[<-e,hg]at this;simp at this
def StOk.sp_o(h:StOk sp L n S)(h0:S.obs≠[]):sp≠S.oid:=by
 obtain⟨t,cs,e⟩:=Og S;exact h.ne_o (e▸h.row) h0
def StOk.sp_y(h:StOk sp L n S)(h0:S.ys≠[]):sp≠S.yid:=by
 obtain⟨t,cs,e⟩:=Og S;exact h.ne_y (e▸h.row) h0
def StOk.o_y(h:StOk sp L n S)(h0:S.obs≠[])(h1:S.ys≠[]):S.oid≠S.yid:=λe=>by
 have h2:=(h.go h0).2.2;have h3:=(h.gy h1).2.2;rw[e,h3]at h2;cases q<;>simp[tVq,tOq]at h2
end
def StOk.bne{b:Nat}{q:Bool}{S:Sto q}(h:StOk sp L n S)(hb:b∈S.bs):b<n/\b≠sp/\(S.obs≠[]->b≠S.oid)/\(S.ys≠[]->b≠S.yid):=by
 obtain⟨cs,hg⟩:=h.bl b hb;exact⟨h.wf.lt hg,λe=>by rw[e,h.row]at hg;cases q<;>simp[Sto.row,tVq]at hg,h.ne_o hg,h.ne_y hg⟩
theorem qp(esz Y k:Nat):(gSl esz Y k).cells=[gSl esz Y k]:=by cases k<;>rfl
section
variable {O:Orc}
attribute [local go_sem] qq qp in
def zyC(h112:O 112=none){S:Sto true}(h:StOk sp L n S)(hN:zR S.obs<100000000)(o:Ob)(m:Nat):
  Cv (cl O 112 [.ptr sp 0,.agg o.c] (KL L n m false)) λv t=>∃L2 n2 m2 oid2,v=.agg (wD ⟨.ofNat 7,.ofNat (zR S.obs)⟩)/\t=KL L2 n2 m2 false/\StOk (q:=true) sp L2 n2 {S with obs:=S.obs++[o],oid:=oid2}/\n<=n2/\n<=oid2/\∀j,j<n->j≠sp->(S.obs≠[]->j≠S.oid)->wn L2 j=wn L j:=by
 refine qD (F:=f112) h112 rfl rfl (zvT rfl) ?_;obtain⟨obs,oid,ys,yid,bs,ld,wd⟩:=S;have hw:=h.wf;have hr:=h.row;have hsp:=h.spn;obtain⟨oc,ol,os⟩:=o;simp only[Sto.row]at hr hN|-;have ht5:qf 5 oc=some oc:=qz ol;have hlN:vC oc=5:=by rw[qT];exact ol
 have hov:Uq [.int .i64 (.ofNat 0),.int .i64 (.ofNat 0),.nils,.bool false,.nils] oc=some oc:=Hv (by rw[ol];rfl)
 unfold f112 cF;simp only;refine wq ?_;cases obs with
 | nil=>
  simp only[xY,gSl]at hr;have hap:=λL n m e x f=> @Ks L n m 164 e 5 72 oc x f ol J J;refine wq ?_;refine ev_zc ?_;refine⟨_,_,_,n+1+1+1,rfl,rfl,?_,?_,?_,λj h1 h2 h3=>?_⟩
  .refine⟨?_,?_,λ_=>⟨yz _,by simp only;omega,?_⟩,λhne=>?_,λy hy=>(h.sy y hy).mono (λ_ hb=>hb) λj hj=>?_,λb hb=>?_⟩
   ·(repeat first|exact hw.up J|refine WfA.same ?_ J)
   ·(repeat first|exact wC _ _ _|rw[gN J])
   .simp only[zv1,wo,zvV]
    (repeat first|exact wC _ _ _|rw[gN J])
   .obtain⟨q1,q2,q3⟩:=h.gy hne;refine⟨q1,by simp only at q2|-;omega,?_⟩
    have:=(h.sp_y hne).symm;simp only at q2 this
    (repeat rw[wz,wx (by simp only;omega)])
    exact q3
   .obtain⟨q1,q2,_⟩:=h.bne hj
    (repeat rw[gN J])
   .obtain⟨q1,q2,_⟩:=h.bne hb;obtain⟨cs,hcs⟩:=h.bl b hb;refine⟨cs,?_⟩
    (repeat rw[gN J])
    exact hcs
  .omega
  .omega
  ·(repeat rw[gN J])
 | cons u us=>
  obtain⟨_,hid,hgi⟩:=h.go (by simp)
  have hso:=h.sp_o (by simp)
  simp only at hid hgi hso hN;have hfl:(wo Ob.c (u::us)).length=(u::us).length *5:=vI Ob.len _;have hgi2:∀o1 o2,wn ((n+1,o1)::(n,o2)::L) oid=some (.row 164 (wo Ob.c (u::us)) true false):=λo1 o2=>by rw[gN J,gN J];exact hgi
  have ha:=λo1 o2 m e x f=> @Kt ((n+1,o1)::(n,o2)::L) (n+1+1) m 164 e 5 72 oid (u::us).length false (wo Ob.c (u::us)) oc x f J (hgi2 o1 o2) hfl ol J os J J;obtain⟨k,hk⟩:∃k,(u::us).length=k+1:=⟨zR us,rfl⟩;rw[hk]at ha hr hN hfl;simp only[gSl]at hr;have hso2:=hso.symm;have hcat:wo Ob.c (u::us)++oc=wo Ob.c ((u::us)++[⟨oc,ol,os⟩]):=by rw[qu,vt]
  rw[hcat]at ha;clear hgi2 hcat
  rw[hk];have hk2:((u::us)++[(⟨oc,ol,os⟩:Ob)]).length=k+1+1:=by rw[y8,hk];rfl
  have hsy:=λy hy L2 hf=>(h.sy y hy).mono (L2:=L2) (more:=[⟨oc,ol,os⟩]) (λ_ hb=>hb) hf;have hbn:=λb hb=>h.bne (b:=b) hb;have hbl:=h.bl;have hgy:=h.gy;have hoy:=h.o_y (by simp)
  have hpy:=h.sp_y;simp only at hsy hgy hoy hpy hbn hbl;clear h;generalize (u::us)++[(⟨oc,ol,os⟩:Ob)]=nobs at *;refine wq ?_;refine ev_zc ?_;refine⟨_,_,_,n+1+1+1,rfl,rfl,?_,?_,?_,λj h1 h2 h3=>?_⟩
  .refine⟨?_,?_,λ_=>⟨yz _,by simp only;omega,?_⟩,λhne=>?_,λy hy=>hsy y hy _ λj hj=>?_,λb hb=>?_⟩
   ·(repeat first|exact hw.up J|refine WfA.same ?_ J)
   .simp only[Sto.row,hk2,gSl]
    (repeat first|exact wC _ _ _|rw[gN J])
   ·(repeat first|exact wC _ _ _|rw[wz,wx (by simp only;omega)])
   .obtain⟨q1,q2,q3⟩:=hgy hne;refine⟨q1,by simp only at q2|-;omega,?_⟩
    have e1:=(hpy hne).symm;have e2:=(hoy hne).symm
    try simp only at q2
    try simp only at e1
    try simp only at e2
    (repeat rw[wz,wx (by simp only;omega)])
    exact q3
   .obtain⟨q1,q2,q3,_⟩:=hbn j hj;have:=q3 (by simp)
    (repeat rw[gN J])
   .obtain⟨q1,q2,q3,_⟩:=hbn b hb;have:=q3 (by simp)
    obtain⟨cs,hcs⟩:=hbl b hb;refine⟨cs,?_⟩
    (repeat rw[gN J])
    exact hcs
  .omega
  .omega
  .have:=h3 (by simp)
   (repeat rw[gN J])
end
def zwD(x1 x2 y1 y2:Int):∃q,Yd (.flat [.i,.i]) true (.agg [x1,x2]) (.agg [y1,y2])=some (.bool q):=by
 simp only[Yd,eqV,Zk,eq1,j8,wy];cases eqI x1 y1<;>cases eqI x2 y2<;>exact⟨_,rfl⟩
section
variable {O:Orc}
def zwI(h165:O 165=none){S:Sto true}(hr:wn L sp=some S.row)(n m:Nat)(b:Bool):
  cl O 165 [.ptr sp 0] (KL L n m b)=some (.bool true,KL L n m b):=by
 have key:Cv (cl O 165 [.ptr sp 0] (KL L n m b)) λv t=>v=.bool true/\t=KL L n m b:=by
  refine qD (F:=f165) h165 rfl rfl (zvT rfl) ?_;simp only[Sto.row]at hr;have heq:Yd .ptr true (.ptr sp 0) .nilp=some (.bool true):=rfl;unfold f165 cF;simp only;refine ev_zc ?_;exact⟨rfl,rfl⟩
 obtain⟨v,t,h,rfl,rfl⟩:=key;exact h
attribute [local go_sem] qq qp in
def Mk(h144:O 144=none)(h165:O 165=none){sp n:Nat}{L:zb}{S:Sto true}(hr:wn L sp=some S.row)(hsp:sp<n){i:Nat}(hi:i<zR S.obs)(hN:zR S.obs<1000000000)(m:Nat)(b:Bool):
  Cv (cl O 144 [.ptr sp 0,.agg [(7:Nat),i]] (KL L n m b)) λv t=>∃m2,v=.ptr S.oid (i*5)/\t=KL ((n,some (.row 131 [(7:Nat),i]))::L) (n+1) m2 b:=by
 refine qD (F:=f144) h144 rfl rfl (zvT rfl) ?_;have hr2:wn ((n,some (.row 131 [(7:Nat),i]))::L) sp=some S.row:=by rw[gN J];exact hr
 have his:=λm b=>zwI h165 hr2 (n+1) m b;obtain⟨obs,oid,ys,yid,bs,ld,wd⟩:=S;simp only[Sto.row]at hr hi hN;obtain⟨k,hk⟩:∃k,zR obs=k+1:=⟨zR obs-1,J⟩;rw[hk]at hr hi hN;simp only[gSl]at hr;clear hr2 hk;have hni:¬k+1<=i:=J;unfold f144 cF;simp only;refine wq ?_;refine wq ?_;refine ev_zc ?_;exact⟨_,rfl,rfl⟩
attribute [local go_sem] qq in
def zy1(h143:O 143=none)(a b:List Vl)(ha:zR a<1000000000)(hb:zR b<1000000000)(L:zb)(n m:Nat)(md:Bool):
  ∃r,cl O 143 [qZ a,qZ b] (KL L n m md)=some (.bool r,KL L n m md):=by
 have key:Cv (cl O 143 [qZ a,qZ b] (KL L n m md)) λv t=>(∃r,v=.bool r)/\t=KL L n m md:=by
  refine vr (F:=f143) h143 rfl rfl (zvT rfl) ?_;unfold f143;simp only[qZ];by_cases hab:zR a=zR b
  .refine wq ?_;refine wq ?_;refine wp (wp (wu ?_));apply wA;refine wP (λi:Nat=>zR a-i) (λi f t=>∃T,f=⟨tmL T,[]⟩/\t=KL L n 0 true/\G T 0 (.lst (zR a) false (wo wD a))/\G T 1 (.lst (zR b) false (wo wD b))/\G T 12 (zR a)/\G T 13 i/\i<=zR a) (λi f t hI=>?_) 0 ⟨_,rfl,rfl,V,V,V,sW,yz _⟩;obtain⟨T,rfl,rfl,t0,t1,t12,t13,hi⟩:=hI;rcases wJ a i with ⟨hlt,hd⟩|⟨x,hlt,hd⟩
   .have:¬i<zR a:=J;refine wu ?_;refine ev_zc ?_;exact⟨⟨_,rfl⟩,rfl⟩
   .obtain⟨y,hd2⟩:∃y,b.drop i=y::b.drop (i+1):=⟨_,zud J⟩;have hc1:=X1 hd;have hc2:=X1 hd2;obtain⟨x1,x2⟩:=x;obtain⟨y1,y2⟩:=y;simp only[wD]at hc1 hc2;have hlt2:i<zR b:=J;clear hd hd2;obtain⟨q,hq⟩:=zwD x1 x2 y1 y2;cases q with
    |true=>
     refine ev_zc ?_;exact⟨⟨_,rfl⟩,rfl⟩
    |false=>
     refine wu ?_;exact⟨i+1,⟨_,rfl,trivial,V,V,V,V,J⟩,J⟩
  .refine wq ?_;refine wq ?_;refine qP ?_;exact⟨⟨_,rfl⟩,rfl⟩
 obtain⟨v,t,h,⟨r,rfl⟩,rfl⟩:=key;exact⟨r,h⟩
end
def SC.lst0{s s':U}(h1:SC P X f [.nils] s v s')(h2:SC P X f [.sl0] s v s'):SC P X f [.lst 0 false []] s v s':=by
 refine⟨h1.1,λI w xs r hwf hf hx F n hF=>?_⟩;simp only[VRL]at hx;obtain⟨x,ys,rfl,hx,rfl⟩:=hx;simp only[VR]at hx;obtain⟨_,⟨_,a,rfl⟩|⟨b,o,k,ys,rfl,_⟩⟩:=hx
 .cases a with
  |none=>exact h1.2 I w _ r hwf hf (by simp only[VRL,VR];exact⟨_,_,rfl,rfl,rfl⟩) F n hF
  |some a=>exact h2.2 I w _ r hwf hf (by simp only[VRL,VR];exact⟨_,_,rfl,⟨a,0,rfl⟩,rfl⟩) F n hF
 .exact h2.2 I w _ r hwf hf (by simp only[VRL,VR];exact⟨_,_,rfl,⟨_,k,rfl⟩,rfl⟩) F n hF
theorem aU{ty esz bytes k:Nat}{cs:zA}{e:Bool}(he:1<=esz)(hb:2*(k+1)*bytes<=281474976710656)(hk:k<1000000000000)(hl:List.length cs=(k+1)*esz)(hp:wL cs=true):jo (KL [] 0 0 true) ty esz bytes (.lst 0 true []) (.lst (k+1) e cs)=some (.gr 0 esz (k+1) cs,KL [(0,some (.app ty cs))] 1 0 true):=by
 have h2:qf (zK (k+1) esz) cs=some cs:=qz hl;have h3:qf (zK 0 esz) ([]:zA)=some []:=by rw[show zK 0 esz=0 from Nat.zero_mul _];rfl
 simp only[jo,gP,qQ,h2,ZZ,wy,h3];rw[show Nat.add 0 (Nat.succ k)=k+1 from xB _,zv1,Wi he hb J hp];rfl
def X7(l:List Vl):zA:=[qZ l]
def Cj:∀x y,X7 x=X7 y->x=y:=λx y h=>by
 simp only[X7,qZ,vc,Z.lst.injEq,true_and,and_true]at h;exact fb h.2
def nZ(l:List Vl):wL (X7 l)=true:=by simp only[X7,wR,gM,wU,xZ]
def Kz:zA->U->zc:=v7 X7 (λl=>zR l<1000000000) qZ
section
variable {P:Program}{X:World}(B:Bx P X){O:Orc}(hO:OrcOk P X O)
include B hO
attribute [local go_sem] qZ in
def BN(l:List Vl)(hl:List.length l<1000000000):∃s1,SC P X 145 (X7 l) (s00 0 true) (qZ l) s1:=by
 cases l with
 | nil=>
  have h1:∃s1,SC P X 145 [.nils] (s00 0 true) (.lst 0 false []) s1:=by
   refine be B hO f145 ?_;unfold f145 cF;simp only;have he:Yd .slice false .nils .nils=some (.bool true):=rfl;refine ev_zc ?_;exact uc
  have h2:∃s1,SC P X 145 [.sl0] (s00 0 true) (.lst 0 false []) s1:=by
   refine be B hO f145 ?_;unfold f145 cF;simp only;have he:Yd .slice false .sl0 .nils=some (.bool false):=rfl;refine ev_zc ?_;exact uo rfl rfl
  obtain⟨_,h1⟩:=h1;obtain⟨_,h2⟩:=h2;exact⟨_,SC.lst0 (SC.up h1 rfl rfl (s00 0 true)) (SC.up h2 rfl rfl (s00 0 true))⟩
 |cons x r=>
  refine be B hO f145 ?_;unfold f145 cF;simp only[X7,qZ];have he:∀cs,Yd .slice false (.lst (x::r).length false cs) .nils=some (.bool false):=λ_=>rfl;have hp:=Qb (x::r);have hw:=th (x::r);have hlen:=GN (x::r);have hap:= @aU 131 2 16 r.length (wo wD (x::r)) false J (by simp only[yJ]at hl;omega) (by simp only[yJ]at hl;omega) hlen hp
  simp only[yJ]at he|-;generalize wo wD (x::r)=cs at *;refine ev_zc ?_;exact uo hp hw
end
def Wp(l:List DT):Z:=.lst (zR l) false (wQ l)
def Hb(l:List DT):qg (Wp l)=true:=by simp only[Wp,qE]
def eg(l:List DT):(wQ l).length=zR l*5:=by rw[vd];exact vI vD l
def Wb(l:zw):wL (wo wN l)=true:=wX qR l
def GM(l:zw):wkL (wo wN l)=wo wN l:=ua p9 l
def IN(l:zw):(wo wN l).length=zR l*1:=vI vA l
def Td{l r:zw}(h:wo wN l=wo wN r):l=r:=pU (k:=1) vA J (λx y h=>by simpa [wN]using h) h
def YV(l:List DT):zA:=[Wp l]
def nO:∀x y,YV x=YV y->x=y:=λx y h=>by
 simp only[YV,Wp,vc,Z.lst.injEq,true_and,and_true]at h;exact Zc h.2
def eJ(l:List DT):wL (YV l)=true:=by simp only[YV,wR,Hb,wU,xZ]
def bM:zA->U->zc:=v7 YV (λl=>zR l<1000000000) Wp
section
variable {P:Program}{X:World}(B:Bx P X){O:Orc}(hO:OrcOk P X O)
include B hO
attribute [local go_sem] Wp in
def BL(l:List DT)(hl:List.length l<1000000000):∃s1,SC P X 18 (YV l) (s00 0 true) (Wp l) s1:=by
 cases l with
 | nil=>
  have h1:∃s1,SC P X 18 [.nils] (s00 0 true) (.lst 0 false []) s1:=by
   refine be B hO f18 ?_;unfold f18 cF;simp only;have he:Yd .slice false .nils .nils=some (.bool true):=rfl;refine ev_zc ?_;exact uc
  have h2:∃s1,SC P X 18 [.sl0] (s00 0 true) (.lst 0 false []) s1:=by
   refine be B hO f18 ?_;unfold f18 cF;simp only;have he:Yd .slice false .sl0 .nils=some (.bool false):=rfl;refine ev_zc ?_;exact uo rfl rfl
  obtain⟨_,h1⟩:=h1;obtain⟨_,h2⟩:=h2;exact⟨_,SC.lst0 (SC.up h1 rfl rfl (s00 0 true)) (SC.up h2 rfl rfl (s00 0 true))⟩
 |cons x r=>
  refine be B hO f18 ?_;unfold f18 cF;simp only[YV,Wp];have he:∀cs,Yd .slice false (.lst (x::r).length false cs) .nils=some (.bool false):=λ_=>rfl;have hp:=vl (x::r);have hw:=kp (x::r);have hlen:=eg (x::r);have hap:= @aU 36 5 64 r.length (wQ (x::r)) false J (by simp only[yJ]at hl;omega) (by simp only[yJ]at hl;omega) hlen hp
  simp only[yJ]at he|-;generalize wQ (x::r)=cs at *;refine ev_zc ?_;exact uo hp hw
end
def QJ(l:zw):zA:=[qt l]
def Pd:∀x y,QJ x=QJ y->x=y:=λx y h=>by
 simp only[QJ,qt,vc,Z.lst.injEq,true_and,and_true]at h;exact Td h.2
def nQ(l:zw):wL (QJ l)=true:=by simp only[QJ,wR,jn,wU,xZ]
def bN:zA->U->zc:=v7 QJ (λl=>zR l<1000000000) qt
section
variable {P:Program}{X:World}(B:Bx P X){O:Orc}(hO:OrcOk P X O)
include B hO
attribute [local go_sem] qt in
def BM(l:zw)(hl:List.length l<1000000000):∃s1,SC P X 22 (QJ l) (s00 0 true) (qt l) s1:=by
 cases l with
 | nil=>
  have h1:∃s1,SC P X 22 [.nils] (s00 0 true) (.lst 0 false []) s1:=by
   refine be B hO f22 ?_;unfold f22 cF;simp only;have he:Yd .slice false .nils .nils=some (.bool true):=rfl;refine ev_zc ?_;exact uc
  have h2:∃s1,SC P X 22 [.sl0] (s00 0 true) (.lst 0 false []) s1:=by
   refine be B hO f22 ?_;unfold f22 cF;simp only;have he:Yd .slice false .sl0 .nils=some (.bool false):=rfl;refine ev_zc ?_;exact uo rfl rfl
  obtain⟨_,h1⟩:=h1;obtain⟨_,h2⟩:=h2;exact⟨_,SC.lst0 (SC.up h1 rfl rfl (s00 0 true)) (SC.up h2 rfl rfl (s00 0 true))⟩
 |cons x r=>
  refine be B hO f22 ?_;unfold f22 cF;simp only[QJ,qt];have he:∀cs,Yd .slice false (.lst (x::r).length false cs) .nils=some (.bool false):=λ_=>rfl;have hp:=Wb (x::r);have hw:=GM (x::r);have hlen:=IN (x::r);have hap:= @aU 3 1 8 r.length (wo wN (x::r)) false J (by simp only[yJ]at hl;omega) (by simp only[yJ]at hl;omega) hlen hp
  simp only[yJ]at he|-;generalize wo wN (x::r)=cs at *;refine ev_zc ?_;exact uo hp hw
end
structure StTo{q:Bool}(sp:Nat)(L:zb)(n:Nat)(S:Sto q)(L2:zb)(n2:Nat)(S2:Sto q):Prop where
 ok:StOk sp L2 n2 S2
 le:n<=n2
 fr:∀j,j<n->j≠sp->(S.obs≠[]->j≠S.oid)->(S.ys≠[]->j≠S.yid)->wn L2 j=wn L j
 o:S2.obs≠[]->(S.obs≠[]/\S2.oid=S.oid)\/n<=S2.oid
 y:S2.ys≠[]->(S.ys≠[]/\S2.yid=S.yid)\/n<=S2.yid
 b:∀b∈S2.bs,b∈S.bs\/n<=b
def StTo.trans{L3:zb}{n3:Nat}{q:Bool}{S S2 S3:Sto q}(h:StTo sp L n S L2 n2 S2)(g:StTo sp L2 n2 S2 L3 n3 S3):StTo sp L n S L3 n3 S3 where
 ok:=g.ok
 le:=Nat.le_trans h.le g.le
 fr:=λj h1 h2 h3 h4=>by
  have hle:=h.le;rw[g.fr j J h2 (λhne e=>by
   rcases h.o hne with ⟨q1,q2⟩|q
   .exact h3 q1 (by rw[e,q2])
   .omega) (λhne e=>by
   rcases h.y hne with ⟨q1,q2⟩|q
   .exact h4 q1 (by rw[e,q2])
   .omega)]
  exact h.fr j h1 h2 h3 h4
 o :=λhne=>by
  have hle:=h.le;rcases g.o hne with ⟨q1,q2⟩|q
  .rcases h.o q1 with ⟨q3,q4⟩|q3
   .exact .inl ⟨q3,by rw[q2,q4]⟩
   .exact .inr (by rw[q2];exact q3)
  .exact .inr J
 y :=λhne=>by
  have hle:=h.le;rcases g.y hne with ⟨q1,q2⟩|q
  .rcases h.y q1 with ⟨q3,q4⟩|q3
   .exact .inl ⟨q3,by rw[q2,q4]⟩
   .exact .inr (by rw[q2];exact q3)
  .exact .inr J
 b:=λb hb=>by
  have hle:=h.le;rcases g.b b hb with q|q
  .exact h.b b q
  .exact .inr J
def StOk.more{q:Bool}{S:Sto q}(h:StOk sp L n S)(hw:WfA L2 n2)(hn:n<=n2)(hf:∀j,j<n->wn L2 j=wn L j):StTo sp L n S L2 n2 S where
 ok:={
  wf:=hw
  row:=by rw[hf sp h.spn];exact h.row
  go:=h.go.ext (zX _) hn λj _ hj=>hf j hj
  gy:=h.gy.ext (zX _) hn λj _ hj=>hf j hj
  sy:=λy hy=>by
   have:=(h.sy y hy).mono (more:=[]) (λ_ hb=>hb) λj hj=>hf j (h.bne hj).1
   rwa [zvV]at this
  bl:=λb hb=>by
   obtain⟨cs,hcs⟩:=h.bl b hb;exact⟨cs,by rw[hf b (h.bne hb).1];exact hcs⟩}
 le:=hn
 fr:=λj hj _ _ _=>hf j hj
 o:=λhne=>.inl ⟨hne,rfl⟩
 y:=λhne=>.inl ⟨hne,rfl⟩
 b:=λb hb=>.inl hb
def StTo.bs{b:Nat}{q:Bool}{S S2:Sto q}(h:StTo sp L n S L2 n2 S2)(hb:n<=b)(hg:wn L2 b=some (.row (tVq q) cs)):StTo sp L n S L2 n2 {S2 with bs:=b::S2.bs} where
 ok:={
  wf:=h.ok.wf
  row:=by rw[show ({S2 with bs:=b::S2.bs}:Sto q).row=S2.row by cases q<;>rfl];exact h.ok.row
  go:=h.ok.go
  gy:=h.ok.gy
  sy:=λy hy=>by
   have:=(h.ok.sy y hy).mono (L2:=L2) (bs2:=b::S2.bs) (more:=[]) (λ_ hx=>List.mem_cons_of_mem _ hx) λj _=>rfl
   rwa [zvV]at this
  bl:=λx hx=>by
   rcases List.mem_cons.1 hx with rfl|hx
   .exact⟨cs,hg⟩
   .exact h.ok.bl x hx}
 le:=h.le
 fr:=h.fr
 o:=h.o
 y:=h.y
 b:=λx hx=>by
  rcases List.mem_cons.1 hx with rfl|hx
  .exact .inr hb
  .exact h.b x hx
def StOk.put{q:Bool}{S:Sto q}(h:StOk sp L n S)(hj:j<n)(h1:j≠sp)(h2:S.obs≠[]->j≠S.oid)(h3:S.ys≠[]->j≠S.yid)(h4:j∉S.bs)(o:zm):StOk sp ((j,o)::L) n S where
 wf:=h.wf.same hj
 row:=by rw[wz,wx h1.symm];exact h.row
 go:=λhne=>by
  obtain⟨q1,q2,q3⟩:=h.go hne;exact⟨q1,q2,by rw[wz,wx (h2 hne).symm];exact q3⟩
 gy:=λhne=>by
  obtain⟨q1,q2,q3⟩:=h.gy hne;exact⟨q1,q2,by rw[wz,wx (h3 hne).symm];exact q3⟩
 sy:=λy hy=>by
  have:=(h.sy y hy).mono (L2:=(j,o)::L) (more:=[]) (λ_ hb=>hb) λb hb=>by rw[wz,wx (show ¬b=j from λe=>h4 (e▸hb))]
  rwa [zvV]at this
 bl:=λb hb=>by
  obtain⟨cs,hcs⟩:=h.bl b hb;exact⟨cs,by rw[wz,wx (show ¬b=j from λe=>h4 (e▸hb))];exact hcs⟩
section
variable {O:Orc}
def QV(h112:O 112=none){S:Sto true}(h:StOk sp L n S)(hN:zR S.obs<100000000)(o:Ob)(m:Nat):
  Cv (cl O 112 [.ptr sp 0,.agg o.c] (KL L n m false)) λv t=>∃L2 n2 m2 oid2,v=.agg (wD ⟨.ofNat 7,.ofNat (zR S.obs)⟩)/\t=KL L2 n2 m2 false/\StTo sp L n S L2 n2 {S with obs:=S.obs++[o],oid:=oid2}:=by
 refine(zyC h112 h hN o m).mono λv t hv=>?_;obtain⟨L2,n2,m2,oid2,rfl,rfl,q1,q2,q3,q4⟩:=hv;exact⟨L2,n2,m2,oid2,rfl,rfl,⟨q1,q2,λj h1 h2 h3 _=>q4 j h1 h2 h3,λ_=>.inr q3,λhne=>.inl ⟨hne,rfl⟩,λb hb=>.inl hb⟩⟩
end
def Uz:ICode:=match f114.body with
 |.seq _ (.seq _ k)=>k
 |_=>.skip
def A2:ICode->ICode:=λk=>match f114.body with
 |.seq a (.seq b _)=>.seq a (.seq b k)
 |_=>.skip
theorem Ei:f114.body=A2 Uz:=rfl
def obS(l:List Vl):Ob:=⟨[.int .i64 (.ofNat 4),.int .i64 (.ofNat 0),qZ l,.bool false,.nils],rfl,rfl⟩
def obB(Y:Nat):Ob:=⟨[.int .i64 (.ofNat 5),.int .i64 (.ofNat 0),.sl Y 0 1 (.fix 1),.bool false,.nils],rfl,rfl⟩
def OO:ICode:=match Uz with
 |.seq _ (.seq _ (.seq a _))=>a
 |_=>.skip
section
variable {O:Orc}
attribute [local go_sem] qq qp wD Trie.get_set Trie.get_del in
def Eg{eb:Nat}{S:Sto true}(h:StOk sp L n S)(hY:zR S.ys<100000000){w:Vl}(hs:SymAt true L S.bs S.obs w){T:List (Nat×Z)}{v4:Z}(t0:G T 0 (.ptr sp 0))(t4:G T 4 v4)(t8:G T 8 (.ptr eb 0))(geb:wn L eb=some (.row 131 (wD w)))(m:Nat):
  Ev (evC env (evW env O) none OO ⟨tmL T,[]⟩ (KL L n m false)) λr f s=>r=.norm/\∃T2 L2 n2 m2 yid2,f=⟨tmL T2,[]⟩/\s=KL L2 n2 m2 false/\G T2 4 v4/\G T2 8 (.ptr eb 0)/\StTo sp L n S L2 n2 {S with ys:=S.ys++[w],yid:=yid2}:=by
 obtain⟨obs,oid,ys,yid,bs,ld,wd⟩:=S;have hw:=h.wf;have hr:=h.row;have hsp:=h.spn;have hen:=hw.lt geb;have hsy:=λy hy L2 hf=>(h.sy y hy).mono (L2:=L2) (more:=[]) (λ_ hb=>hb) hf;have hsw:=λL2 hf=>hs.mono (L2:=L2) (more:=[]) (λ_ hb=>hb) hf;have hbn:=λb hb=>h.bne (b:=b) hb;have hbl:=h.bl;have hgo:=h.go;have hpo:=h.sp_o;have hes:eb≠sp:=λe=>by rw[e,hr]at geb;simp[Sto.row]at geb
 have hrw:=h.row;have hes2:=hes.symm;simp only[Sto.row]at hr hY;simp only[zvV]at hsy hsw;simp only at hbn hbl;obtain⟨w1,w2⟩:=w;unfold OO Uz f114 cF;simp only;cases ys with
 | nil=>
  simp only[xY,gSl]at hr;have hap:=λL n m e x f=> @Ks L n m 131 e 2 16 [.int .i64 w1,.int .i64 w2] x f rfl J J;clear h hs;simp only[wD]at geb;refine wu ?_;refine⟨trivial,_,_,_,_,n+1,rfl,rfl,V,V,?_,?_,λj h1 h2 h3 h4=>?_,λhne=>.inl ⟨hne,rfl⟩,λ_=>.inr (zur _),λb hb=>.inl hb⟩
  .refine⟨?_,?_,λhne=>?_,λ_=>⟨yz _,by simp only;omega,?_⟩,λy hy=>?_,λb hb=>?_⟩
   ·(repeat first|exact hw.up J|refine WfA.same ?_ J)
   ·(repeat first|exact wC _ _ _|rw[gN J])
   .obtain⟨q1,q2,q3⟩:=hgo hne;have:=(hpo hne).symm;simp only at q2 this;refine⟨q1,by simp only;omega,?_⟩
    (repeat rw[wz,wx (by simp only;omega)])
    exact q3
   .simp only[zv1,wo,zvV]
    (repeat first|exact wC _ _ _|rw[gN J])
   .simp only[zv1,zua,List.not_mem_nil,or_false]at hy;subst hy;refine hsw _ λj hj=>?_;obtain⟨q1,q2,_⟩:=hbn j hj
    (repeat rw[gN J])
   .obtain⟨q1,q2,_⟩:=hbn b hb;obtain⟨cs,hcs⟩:=hbl b hb;refine⟨cs,?_⟩
    (repeat rw[gN J])
    exact hcs
  .omega
  ·(repeat rw[gN J])
 | cons u us=>
  obtain⟨_,hid,hgi⟩:=h.gy (by simp)
  have hso:=h.sp_y (by simp)
  have hey:=h.ne_y geb (by simp)
  have hoy:=λhne=>h.o_y hne (by simp)
  simp only at hid hgi hso hY hoy hey;have hfl:(wo wD (u::us)).length=(u::us).length *2:=GN _;have ha:=λm e x f=> @Kt L n m 131 e 2 16 yid (u::us).length false (wo wD (u::us)) [.int .i64 w1,.int .i64 w2] x f J hgi hfl rfl J rfl J J;obtain⟨k,hk⟩:∃k,(u::us).length=k+1:=⟨zR us,rfl⟩;rw[hk]at ha hr hY hfl;simp only[gSl]at hr;have hso2:=hso.symm;have hcat:wo wD (u::us)++[.int .i64 w1,.int .i64 w2]=wo wD ((u::us)++[⟨w1,w2⟩]):=by rw[qu,vt];rfl
  rw[hcat]at ha;clear hcat h hs;have hk2:((u::us)++[(⟨w1,w2⟩:Vl)]).length=k+1+1:=by rw[y8,hk];rfl
  have hmem:∀y,y∈(u::us)++[(⟨w1,w2⟩:Vl)]->y∈u::us\/y=⟨w1,w2⟩:=λy hy=>by
   rcases List.mem_append.1 hy with h|h
   .exact .inl h
   .exact .inr (by simpa using h)
  generalize (u::us)++[(⟨w1,w2⟩:Vl)]=nys at *;simp only[wD]at geb;have hkeep:∀j∈bs,j<n/\j≠sp/\j≠yid:=λj hj=>⟨(hbn j hj).1,(hbn j hj).2.1,(hbn j hj).2.2.2 (by simp)⟩
  clear hrw hbn;refine wu ?_;refine⟨trivial,_,_,_,_,n+1,rfl,rfl,V,V,?_,?_,λj h1 h2 h3 h4=>?_,λhne=>.inl ⟨hne,rfl⟩,λ_=>.inr (zur _),λb hb=>.inl hb⟩
  .refine⟨?_,?_,λhne=>?_,λ_=>⟨yz _,by simp only;omega,?_⟩,λy hy=>?_,λb hb=>?_⟩
   ·(repeat first|exact hw.up J|refine WfA.same ?_ J)
   .simp only[Sto.row,hk2,gSl]
    (repeat first|exact wC _ _ _|rw[gN J])
   .obtain⟨q1,q2,q3⟩:=hgo hne;have e1:=(hpo hne).symm;have e2:=hoy hne;simp only at q2 e1;refine⟨q1,by simp only;omega,?_⟩
    (repeat rw[wz,wx (by simp only;omega)])
    exact q3
   ·(repeat first|exact wC _ _ _|rw[wz,wx (by simp only;omega)])
   .rcases hmem y hy with hy|rfl
    .refine hsy y hy _ λj hj=>?_;obtain⟨e0,e1,e2⟩:=hkeep j hj
     (repeat rw[gN J])
    .refine hsw _ λj hj=>?_;obtain⟨e0,e1,e2⟩:=hkeep j hj
     (repeat rw[gN J])
   .obtain⟨e0,e1,e2⟩:=hkeep b hb;obtain⟨cs,hcs⟩:=hbl b hb;refine⟨cs,?_⟩
    (repeat rw[gN J])
    exact hcs
  .omega
  .have:=h4 (by simp)
   simp only at this
   (repeat rw[gN J])
end
section
variable {O:Orc}
attribute [local go_sem] qq qp wD Trie.get_set Trie.get_del in
def Eh(h112:O 112=none)(h145:O 145=some Kz){ab:Nat}{S:Sto true}(h:StOk sp L n S)(hN:zR S.obs+2<100000000)(hY:zR S.ys<100000000){l:List Vl}(hl:zR l<2000000){T:List (Nat×Z)}{z1 z2:Z}(t0:G T 0 (.ptr sp 0))(t1:G T 1 (qZ l))(t4:G T 4 (.ptr ab 0))(gab:wn L ab=some (.row 131 [z1,z2]))(hab:ab∉S.bs)(m:Nat){Q:Res->Fr->U->Prop}
  (hQ:∀T L2 n2 m2 S2 w,G T 4 (.ptr ab 0)->StTo sp L n S L2 n2 S2->ab∉S2.bs->zR S2.obs<=zR S.obs+2->zR S2.ys<=zR S.ys+1->Q .ret ⟨tmL T,[]⟩ (KL ((ab,some (.row 131 (wD w)))::L2) n2 m2 false)):
  Ev (evC env (evW env O) none Uz ⟨tmL T,[]⟩ (KL L n m false)) Q:=by
 have hcl:=λs=>oc h145 Cj l J (args:=X7 l) (by simp only[X7,wkL,Hd]) s
 simp only[X7]at hcl;have hsp:=h.spn;have ha1:∀m,Cv (cl O 112 [.ptr sp 0,.agg [(4:Nat),(0:Nat),.lst (zR l) false (wo wD l),.bool false,.nils]] (KL L n m false)) λv t=>∃L2 n2 m2 oid2,v=.agg (wD ⟨.ofNat 7,.ofNat (zR S.obs)⟩)/\t=KL L2 n2 m2 false/\StTo sp L n S L2 n2 {S with obs:=S.obs++[obS l],oid:=oid2}:=λm=>QV h112 h J (obS l) m
 have hap:ab≠sp:=λe=>by rw[e,h.row]at gab;simp[Sto.row]at gab
 have hao:=h.ne_o gab;have hay:=h.ne_y gab;have habn:=h.wf.lt gab;have hcp:=Qb l;simp only[qZ]at hcl t1;unfold Uz f114 cF;simp only;refine wp (qB ?_);refine wO (ha1 _) λv t hv=>?_;obtain⟨L1,n1,m1,oid1,rfl,rfl,k1⟩:=hv;clear ha1;have k1w:=k1.ok.wf;have k1s:=k1.ok.spn;have k2:=k1.trans (k1.ok.more (L2:=(n1,some (.row 131 (wD ⟨.ofNat 7,.ofNat (zR S.obs)⟩)))::(n1,some (.row 131 [(0:Nat),(0:Nat)]))::L1) (n2:=n1+1) (by repeat first|exact k1w.up J|refine WfA.same ?_ J) J λj hj=>by repeat rw[gN J])
 have k3:=k2.trans (k2.ok.more (L2:=(n1+1,some (.row 131 (wD ⟨.ofNat 7,.ofNat (zR S.obs)⟩)))::(n1,some (.row 131 (wD ⟨.ofNat 7,.ofNat (zR S.obs)⟩)))::(n1,some (.row 131 [(0:Nat),(0:Nat)]))::L1) (n2:=n1+1+1) (by repeat first|exact k1w.up J|refine WfA.same ?_ J) J λj hj=>by repeat rw[gN J])
 have hl3:(S.obs++[obS l]).length=zR S.obs+1:=by rw[y8];rfl
 have ha2:∀m,Cv (cl O 112 [.ptr sp 0,.agg [(5:Nat),(0:Nat),.sl (n1+1) 0 1 (.fix 1),.bool false,.nils]] (KL ((n1+1,some (.row 131 (wD ⟨.ofNat 7,.ofNat (zR S.obs)⟩)))::(n1,some (.row 131 (wD ⟨.ofNat 7,.ofNat (zR S.obs)⟩)))::(n1,some (.row 131 [(0:Nat),(0:Nat)]))::L1) (n1+1+1) m false)) λv t=>∃L2 n2 m2 oid2,v=.agg (wD ⟨.ofNat 7,.ofNat (S.obs++[obS l]).length⟩)/\t=KL L2 n2 m2 false/\StTo sp _ (n1+1+1) _ L2 n2 {S with obs:=(S.obs++[obS l])++[obB (n1+1)],oid:=oid2}:=λm=>QV h112 k3.ok (by simp only[hl3];omega) (obB (n1+1)) m
 have hrow3:=k3.ok.row;have hg1:wn ((n1+1,some (AObj.row 131 (wD ⟨.ofNat 7,.ofNat (zR S.obs)⟩)))::(n1,some (.row 131 (wD ⟨.ofNat 7,.ofNat (zR S.obs)⟩)))::(n1,some (.row 131 [(0:Nat),(0:Nat)]))::L1) (n1+1)=some (.row 131 (wD ⟨.ofNat 7,.ofNat (zR S.obs)⟩)):=wC _ _ _;simp only[hl3]at ha2;simp only[wD]at ha2;refine wu ?_;refine wp (qB ?_);refine wO (ha2 _) λv t hv=>?_;obtain⟨L4,n4,m4,oid4,rfl,rfl,k4⟩:=hv;clear ha2;have k14:=k3.trans k4;have k4w:=k4.ok.wf;have hle1:=k1.le;have hle4:=k4.le;have hg4:=(k4.fr (n1+1) J J (k3.ok.ne_o hg1) (k3.ok.ne_y hg1)).trans hg1;clear hg1 k1 k2 k3 k4 hrow3;have k5:=k14.trans (k14.ok.more (L2:=(n4,some (.row 131 (wD ⟨.ofNat 7,.ofNat (zR S.obs+1)⟩)))::(n4,some (.row 131 [(0:Nat),(0:Nat)]))::L4) (n2:=n4+1) (by repeat first|exact k4w.up J|refine WfA.same ?_ J) J λj hj=>by repeat rw[gN J])
 have hg5:wn ((n4,some (AObj.row 131 (wD ⟨.ofNat 7,.ofNat (zR S.obs+1)⟩)))::(n4,some (.row 131 [(0:Nat),(0:Nat)]))::L4) (n1+1)=some (.row 131 (wD ⟨.ofNat 7,.ofNat (zR S.obs)⟩)):=by
  repeat rw[gN J]
  exact hg4
 have k6:=k5.bs (b:=n1+1) J hg5;have hsym:SymAt true ((n4,some (AObj.row 131 (wD ⟨.ofNat 7,.ofNat (zR S.obs+1)⟩)))::(n4,some (.row 131 [(0:Nat),(0:Nat)]))::L4) ((n1+1)::S.bs) ((S.obs++[obS l])++[obB (n1+1)]) ⟨.ofNat 7,.ofNat (zR S.obs+1)⟩:=by
  refine⟨zR S.obs+1,zR S.obs,n1+1,obB (n1+1),obS l,l,rfl,?_,?_,rfl,zvZ,hg5,rfl,hl⟩
  .rw[xz (by rw[hl3];exact zX _),hl3,Nat.sub_self];rfl
  .rw[xb (by rw[hl3];exact yK _),xz (zX _),Nat.sub_self];rfl
 refine wu ?_;refine wp (Ev.mono (Eg (eb:=n4) (w:=⟨.ofNat 7,.ofNat (zR S.obs+1)⟩) (v4:=.ptr ab 0) k6.ok hY hsym V V V (wC _ _ _) _) λr f s hz=>?_);obtain⟨rfl,T7,L7,n7,m7,yid7,rfl,rfl,t4',t8',k7⟩:=hz;have k8:=k6.trans k7;have g4:=(k7.fr n4 J (by have:=k14.ok.spn;omega) (k6.ok.ne_o (wC _ _ _)) (k6.ok.ne_y (wC _ _ _))).trans (wC _ _ _)
 have gab7:=(k8.fr ab habn hap hao hay).trans gab;have hab8:ab∉S.bs/\n<=n1+1:=⟨hab,J⟩;have hlen:((S.obs++[obS l])++[obB (n1+1)]).length=zR S.obs+2:=by rw[y8,hl3];rfl
 have hlenY:(S.ys++[(⟨.ofNat 7,.ofNat (zR S.obs+1)⟩:Vl)]).length=zR S.ys+1:=by rw[y8];rfl
 have hne:ab∉(n1+1)::S.bs:=λh=>by
  rcases List.mem_cons.1 h with e|h
  .omega
  .exact hab h
 have hq:=λT m t4=>hQ T L7 n7 m _ ⟨.ofNat 7,.ofNat (zR S.obs+1)⟩ t4 k8 hne (by simp only;omega) (by simp only;omega)
 clear hQ k7 k8 k6 k5 hg5 hsym hg4 hl3;simp only[wD]at g4 hq;refine wu ?_;exact hq _ _ V
end
def bq{obs:List Ob}{o:Ob}{x:Z}(h:obs[i]? =some o)(hx:qf 1 (qv 2 o.c)=some [x]):qf 1 (qv (i*5+2) (wo Ob.c obs))=some [x]:=by
 obtain⟨hi,he⟩:=List.getElem?_eq_some_iff.1 h;have hd:obs.drop i=o::obs.drop (i+1):=by rw[zud hi,he]
 have h1:=jb (f:=Ob.c) (k:=5) Ob.len i obs;rw[qH]at h1 hx|-;rw[<-List.drop_drop,h1,hd];simp only[wo];obtain⟨c,hl,hs⟩:=o;rcases c with _|⟨a,_|⟨b,_|⟨d,r⟩⟩⟩
 .simp at hl
 .simp at hl
 .simp at hl
 .simpa [qf]using hx
def StTo.put{q:Bool}{S S2:Sto q}(h:StTo sp L n S L2 n2 S2)(hj:n<=j)(hg:wn L2 j=some (.row t cs))(h1:j≠sp)(h4:j∉S2.bs)(o:zm):StTo sp L n S ((j,o)::L2) n2 S2 where
 ok:=h.ok.put (h.ok.wf.lt hg) h1 (h.ok.ne_o hg) (h.ok.ne_y hg) h4 o
 le:=h.le
 fr:=λi h1 h2 h3 h4=>by rw[gN J];exact h.fr i h1 h2 h3 h4
 o:=h.o
 y:=h.y
 b:=h.b
section
variable {O:Orc}
def zy0(h143:O 143=none)(a b:List Vl)(ha:zR a<1000000000)(hb:zR b<1000000000)(L:zb)(n m:Nat)(md:Bool):
  Cv (cl O 143 [.lst (zR a) false (wo wD a),.lst (zR b) false (wo wD b)] (KL L n m md)) λv t=>(∃r,v=.bool r)/\t=KL L n m md:=by
 obtain⟨r,h⟩:=zy1 h143 a b ha hb L n m md;exact⟨_,_,h,⟨r,rfl⟩,rfl⟩
attribute [local go_sem] qq qp wD in
def Ej(h114:O 114=none)(h112:O 112=none)(h145:O 145=some Kz)(h143:O 143=none)(h144:O 144=none)(h165:O 165=none){S:Sto true}(h:StOk sp L n S)(hN:zR S.obs+2<100000000)(hY:zR S.ys<100000000){l:List Vl}(hl:zR l<2000000)(m:Nat):
  Cv (cl O 114 [.ptr sp 0,qZ l] (KL L n m false)) λv t=>∃w L2 n2 m2 S2,v=.agg (wD w)/\t=KL L2 n2 m2 false/\StTo sp L n S L2 n2 S2/\zR S2.obs<=zR S.obs+2/\zR S2.ys<=zR S.ys+1:=by
 refine qD (F:=f114) h114 rfl rfl (zvT rfl) ?_;have hw:=h.wf;have hsp:=h.spn;have hbn:n∉S.bs:=λhb=>by have:=(h.bne hb).1;omega
 have k0:StTo sp L n S ((n,some (.row 131 [(0:Nat),(0:Nat)]))::L) (n+1) S:=h.more (hw.cons (yK _) (zur _)) (zur _) λj hj=>by rw[gN J]
 rw[Ei];unfold A2 f114 cF;simp only;have hr:=h.row;obtain⟨obs,oid,ys,yid,bs,ld,wd⟩:=S;simp only[Sto.row]at hr hN hY;refine wq ?_;refine wp (wp (wu ?_));apply wA;refine wP (λi:Nat=>zR ys-i) (λi f t=>∃T L2 n2 m2,f=⟨tmL T,[]⟩/\t=KL L2 n2 m2 false/\G T 0 (.ptr sp 0)/\G T 1 (qZ l)/\G T 4 (.ptr n 0)/\G T 12 (gSl 2 yid (zR ys))/\G T 13 (zR ys)/\G T 14 i/\i<=zR ys/\WfA L2 n2/\n+1<=n2/\∀j,j<n+1->wn L2 j=wn ((n,some (.row 131 [(0:Nat),(0:Nat)]))::L) j) (λi f t hI=>?_) 0 ⟨_,_,_,_,rfl,rfl,sW,sW,sW,sW,sW,sW,yz _,k0.ok.wf,zX _,λ_ _=>rfl⟩;obtain⟨T,L2,n2,m2,rfl,rfl,t0,t1,t4,t12,t13,t14,hi,hw2,hn2,hfr⟩:=hI;have k1:=k0.trans (k0.ok.more hw2 hn2 hfr);rcases wJ ys i with ⟨hlt,hd⟩|⟨y,hlt,hd⟩
 .have hni:¬i<zR ys:=J;have g4:wn L2 n=some (.row 131 [(0:Nat),(0:Nat)]):=(hfr n J).trans (wC _ _ _);refine wu ?_;refine Eh h112 h145 k1.ok hN hY hl (ab:=n) V V V g4 hbn _ λT3 L3 n3 m3 S3 w t4' k3 hb3 q1 q2=>?_;have g43:=(k3.fr n J J (k1.ok.ne_o g4) (k1.ok.ne_y g4)).trans g4;have k4:=(k1.trans k3).put (zX _) g43 J hb3 (some (.row 131 (wD w)));refine qP ?_;exact⟨w,_,_,_,S3,rfl,rfl,k4,q1,q2⟩
 .have hcy:=X1 hd;have hmem:y∈ys:=zvY (by rw[hd];exact zvZ)
  obtain⟨i1,a1,bid,oi,oa,l2,rfl,e1,e2,e3,e4,e5,e6,e7⟩:=k1.ok.sy y hmem;obtain⟨q1,q2,gy⟩:=k1.ok.gy (by intro e;simp only at e;rw[e]at hlt;simp at hlt)
  have hi1:=(List.getElem?_eq_some_iff.1 e1).1;have ha1:=(List.getElem?_eq_some_iff.1 e2).1;obtain⟨q3,q4,go⟩:=k1.ok.go (by intro e;simp only at e e1;rw[e]at e1;simp at e1)
  have c1:=bq e1 e3;have c2:=bq e2 e6;have hbid:=(k1.ok.bne e4).1;have hrow:=k1.ok.row;have hia:= @lU 2 yid (zR ys) i hlt;have hge1:=λ{L:zb} {n:Nat} (hr:wn L sp=some (Sto.row ⟨obs,oid,ys,yid,bs,ld,wd⟩)) (hs:sp<n) m b=> @Mk O h144 h165 sp n L ⟨obs,oid,ys,yid,bs,ld,wd⟩ hr hs i1 hi1 (by simp only;omega) m b
  have hge2:=λ{L:zb} {n:Nat} (hr:wn L sp=some (Sto.row ⟨obs,oid,ys,yid,bs,ld,wd⟩)) (hs:sp<n) m b=> @Mk O h144 h165 sp n L ⟨obs,oid,ys,yid,bs,ld,wd⟩ hr hs a1 ha1 (by simp only;omega) m b
  have hev:=λL n m md=>zy0 h143 l2 l J J L n m md;simp only at gy go q2 q4 hge1 hge2 hrow;simp only[wD]at hcy e5;simp only[qZ]at t1 c2;clear hd;have hspn:sp<n2:=k1.ok.spn;have hw3:=k1.ok.wf;clear hw h hr e1 e2 e3 e6;refine wq ?_;refine wp (vM sW ?_);refine wu ?_;refine wp (wA ?_);refine wq ?_;apply wp;refine qB ?_;refine wO (hge1 (by (repeat rw[gN J]);exact hrow) J _ _) λv t hv=>?_
  obtain⟨m3,rfl,rfl⟩:=hv;refine qB ?_;refine wO (hge2 (by (repeat rw[gN J]);exact hrow) J _ _) λv t hv=>?_
  obtain⟨m4,rfl,rfl⟩:=hv;refine qB ?_;refine wO (hev _ _ _ _) λv t hv=>?_;obtain⟨⟨r,rfl⟩,rfl⟩:=hv;have g4:wn L2 n=some (.row 131 [(0:Nat),(0:Nat)]):=(hfr n J).trans (wC _ _ _);have hfr2:∀j,j<n->wn L2 j=wn L j:=λj hj=>by rw[hfr j J,gN J]
  cases r with
  | true=>
   have hk0:=k0;clear hge1 hge2 hev k0 hrow hfr;refine wu ?_;refine ev_zc ?_;refine⟨⟨.ofNat 7,.ofNat i1⟩,_,n2+1+1+1,_,_,rfl,rfl,StTo.put (n2:=n2+1+1+1) (j:=n) (t:=131) (cs:=[.int .i64 (.ofNat 0),.int .i64 (.ofNat 0)]) (k1.trans (k1.ok.more (L2:=_) ?_ J λj hj=>?_)) (zX _) ?_ J hbn _,?_,?_⟩
   ·(repeat first|exact hw3.up J|refine WfA.same ?_ J)
   ·(repeat rw[gN J])
   ·(repeat rw[gN J])
    exact g4
   .simp only;omega
   .simp only;omega
  | false=>
   have hk0:=k0;have hfr3:=hfr;clear hge1 hge2 hev k0 hrow hfr;refine wu ?_;refine wu ?_;refine wu ?_;refine⟨i+1,⟨_,_,n2+1+1+1,_,rfl,rfl,V,by simp (disch:=first|exact dis|fail)only[go_sem,seval,-rO,-rN, *,qZ],V,V,V,V,J,?_,J,λj hj=>?_⟩,J⟩
   ·(repeat first|exact hw3.up J|refine WfA.same ?_ J)
   ·(repeat rw[gN J])
    exact hfr3 j hj
end
def KX{q:Bool}(sp:Nat)(L:zb)(n:Nat)(S:Sto q)(k:Nat)(v:Z)(t:U):Prop:=∃w L2 n2 m2 S2,v=.agg (wD w)/\t=KL L2 n2 m2 false/\StTo sp L n S L2 n2 S2/\zR S2.obs<=zR S.obs+k/\zR S2.ys<=zR S.ys+k
theorem vG{α:Type}(l:List α)(x:α):(l++[x]).length=zR l+1:=by rw[y8];rfl
structure Own{q:Bool}(sp:Nat)(S:Sto q)(j:Nat):Prop where
 sp:j≠sp
 o:S.obs≠[]->j≠S.oid
 y:S.ys≠[]->j≠S.yid
 b:j∉S.bs
def StOk.fresh{q:Bool}{S:Sto q}(h:StOk sp L n S)(hj:n<=j):Own sp S j where
 sp:=by have:=h.spn;omega
 o:=λhne=>by have:=(h.go hne).2.1;omega
 y:=λhne=>by have:=(h.gy hne).2.1;omega
 b:=λhb=>by have:=(h.bne hb).1;omega
def Own.to{q:Bool}{S S2:Sto q}(h:Own sp S j)(hj:j<n)(k:StTo sp L n S L2 n2 S2):Own sp S2 j where
 sp:=h.sp
 o:=λhne e=>by
  rcases k.o hne with ⟨q1,q2⟩|q
  .exact h.o q1 (by rw[e,q2])
  .omega
 y:=λhne e=>by
  rcases k.y hne with ⟨q1,q2⟩|q
  .exact h.y q1 (by rw[e,q2])
  .omega
 b:=λhb=>by
  rcases k.b j hb with q|q
  .exact h.b q
  .omega
def Own.same{q:Bool}{S S2:Sto q}(h:Own sp S j)(hj:j<n)(k:StTo sp L n S L2 n2 S2):wn L2 j=wn L j:=k.fr j hj h.sp h.o h.y
def StTo.put2{q:Bool}{S S2:Sto q}(h:StTo sp L n S L2 n2 S2)(hj:n<=j)(hj2:j<n2)(hw:Own sp S2 j)(o:zm):StTo sp L n S ((j,o)::L2) n2 S2 where
 ok:=h.ok.put hj2 hw.sp hw.o hw.y hw.b o
 le:=h.le
 fr:=λi h1 h2 h3 h4=>by rw[gN J];exact h.fr i h1 h2 h3 h4
 o:=h.o
 y:=h.y
 b:=h.b
def StTo.new{q:Bool}{S S2:Sto q}(h:StTo sp L n S L2 n2 S2)(o:zm):StTo sp L n S ((n2,o)::L2) (n2+1) S2:=
 h.trans (h.ok.more (h.ok.wf.cons (yK _) (zur _)) (zur _) λj hj=>by rw[gN J])
def StOk.new{q:Bool}{S:Sto q}(h:StOk sp L n S)(o:zm):StTo sp L n S ((n,o)::L) (n+1) S:=
 h.more (h.wf.cons (yK _) (zur _)) (zur _) λj hj=>by rw[gN J]
def obN(b:Bool)(l:zy):Ob:=⟨[.int .i64 (.ofNat 7),.int .i64 (.ofNat 0),.nils,.bool b,uP l],rfl,rfl⟩
section
variable {P:Program}{X:World}{O:Orc}
attribute [local go_sem] qq qp wD in
def Do(h111:O 111=none)(h112:O 112=none)(h142:O 142=some (j7 P X 142 kh Ye GSm))(hs:jy P X 142 kh Ye GSm){S:Sto true}(h:StOk sp L n S)(hN:zR S.obs<100000000)(hl:zR l<100000000)(m:Nat):
  Cv (cl O 111 [.ptr sp 0,.agg [.bool b,.lst (zR l) false (wo vK l)]] (KL L n m false)) (KX sp L n S 1):=by
 refine qD (F:=f111) h111 rfl rfl (zvT rfl) ?_;obtain⟨v,⟨k,g2,rfl⟩,hpv,hcall⟩:=jt h142 hs L9 (b,l) hl (args:=kh (b,l)) (by simp only[kh,wkL,Pf])
 simp only[kh,jJ,uP]at hcall;have hp:=h.spn;have k0:=(h.new (some (.row 157 [.bool b,.lst (zR l) false (wo vK l)]))).new (some (.row 131 [(0:Nat),(0:Nat)]));have ha1:∀m,Cv (cl O 112 [.ptr sp 0,.agg [(7:Nat),(0:Nat),.nils,.bool b,.lst (zR l) false (wo vK l)]] (KL _ (n+1+1) m false)) λv t=>∃L2 n2 m2 oid2,v=.agg (wD ⟨.ofNat 7,.ofNat (zR S.obs)⟩)/\t=KL L2 n2 m2 false/\StTo sp _ (n+1+1) S L2 n2 {S with obs:=S.obs++[obN b l],oid:=oid2}:=λm=>QV h112 k0.ok hN (obN b l) m
 have hcp:=wX j2 l;unfold f111 cF;simp only;cases g2 with
 |true=>
  clear ha1;refine ev_zc ?_;refine⟨⟨.ofNat 1,k⟩,_,n+1+1,_,S,rfl,rfl,(k0.put2 J J (h.fresh J) _),J,J⟩
 |false=>
  refine wq ?_;refine wq ?_;refine wp (qB ?_);refine wO (ha1 _) λv t hv=>?_;obtain⟨L2,n2,m2,oid2,rfl,rfl,k1⟩:=hv;have hle:=k1.le;have g4:=(((h.fresh J:Own sp S (n+1)).same J k1)).trans (wC _ _ _);have ho:Own (q:=true) sp {S with obs:=S.obs++[obN b l],oid:=oid2} (n+1):=(h.fresh J:Own sp S (n+1)).to J k1
  have k2:=k0.trans k1;clear ha1 k1 k0;refine wu ?_;refine ev_zc ?_;exact⟨⟨.ofNat 7,.ofNat (zR S.obs)⟩,_,n2,_,_,rfl,rfl,k2.put2 J J ho _,by simp only[vG];omega,by simp only;omega⟩
attribute [local go_sem] wD in
def TH(h117:O 117=none)(L:zb)(n m:Nat):cl O 117 [] (KL L n m false)=some (.agg (wD ⟨.ofNat 6,.ofNat 0⟩),KL L n m false):=by
 have key:Cv (cl O 117 [] (KL L n m false)) λv t=>v=.agg (wD ⟨.ofNat 6,.ofNat 0⟩)/\t=KL L n m false:=by
  refine vr (F:=f117) h117 rfl rfl (zvT rfl) ?_;unfold f117 cF;simp only;refine ev_zc ?_;exact⟨rfl,rfl⟩
 obtain⟨v,t,h,rfl,rfl⟩:=key;exact h
end
def QX{α:Type}{esz bytes:Nat}{f:α->zA}(hl:∀x,(f x).length=esz)(hs:∀x,w8 (f x)=true)(he:1<=esz){Y:Nat}{vs:List α}{w:α}{y:Z}(hr:vs≠[]->Y<n/\wn L Y=some (.row t (wo f vs) true false))(hw:WfA L n)(h1:gw y=some 1)(h2:qQ (KL L n m false) esz 1 y=some (f w))(hb:2*(zR vs+1)*bytes<=281474976710656)(hn:zR vs+1<1000000000000):
  Cv (jo (KL L n m false) t esz bytes (gSl esz Y (zR vs)) y) λv s=>∃L' m',v=gSl esz n (vs++[w]).length/\s=KL L' (n+1) m' false/\wn L' n=some (.row t (wo f (vs++[w])) true false)/\WfA L' (n+1)/\(∀j,j<n->(vs≠[]->j≠Y)->wn L' j=wn L j):=by
 have hfl:wo f [w]=f w:=vt w;cases vs with
 |nil=>
  refine⟨_,_,LE (q:=0) h1 h2 (.inl rfl) he (by simp only[xY,xB]at hb;exact hb) J,_,_,rfl,rfl,by rw[wz,wH rfl,zv1,hfl],λj hj=>?_,λj hj _=>by rw[gN J]⟩
  rw[gN J];exact hw j J
 | cons u us=>
  obtain⟨hid,g1⟩:=hr (by simp)
  simp only[yJ]at hb hn;have hsw:w8 (f w)=true:=hs w;refine⟨_,_,LF (q:=0) (by rw[qk];exact g1) (by rw[vI hl];rfl) h1 h2 hsw he hb J,_,_,?_,rfl,by rw[wz,wH rfl,qu,hfl],λj hj=>?_,λj hj hne=>by rw[gN J,wz,wx (hne (by simp))]⟩
  .simp only[yu,yJ,y8,gSl]
   congr 1
  .rw[gN J,wz];split
   .rfl
   .exact hw j J
def StOk.oth{Y:Nat}{p:Prop}{q:Bool}{S:Sto q}(h:StOk sp L n S)(hw:WfA L2 n2)(hn:n<=n2)(ho:p->Own sp S Y)(hf:∀j,j<n->(p->j≠Y)->wn L2 j=wn L j):StOk sp L2 n2 S where
 wf:=hw
 row:=by rw[hf sp h.spn λhp e=>(ho hp).sp e.symm];exact h.row
 go:=λhne=>by
  obtain⟨q1,q2,q3⟩:=h.go hne;exact⟨q1,J,by rw[hf _ q2 λhp e=>(ho hp).o hne e.symm];exact q3⟩
 gy:=λhne=>by
  obtain⟨q1,q2,q3⟩:=h.gy hne;exact⟨q1,J,by rw[hf _ q2 λhp e=>(ho hp).y hne e.symm];exact q3⟩
 sy:=λy hy=>by
  have:=(h.sy y hy).mono (L2:=L2) (more:=[]) (λ_ hb=>hb) λj hj=>hf j (h.bne hj).1 λhp e=>(ho hp).b (e▸hj)
  rwa [zvV]at this
 bl:=λb hb=>by
  obtain⟨cs,hcs⟩:=h.bl b hb;exact⟨cs,by rw[hf b (h.bne hb).1 λhp e=>(ho hp).b (e▸hb)];exact hcs⟩
def StTo.oth{n1 Y:Nat}{p:Prop}{L1:zb}{q:Bool}{S S1:Sto q}(h:StTo sp L n S L1 n1 S1)(hw:WfA L2 n2)(hn:n1<=n2)(ho:p->Own sp S1 Y/\n<=Y)(hf:∀j,j<n1->(p->j≠Y)->wn L2 j=wn L1 j):StTo sp L n S L2 n2 S1 where
 ok:=h.ok.oth hw hn (λhp=>(ho hp).1) hf
 le:=Nat.le_trans h.le hn
 fr:=λj h1 h2 h3 h4=>by
  have:=h.le;rw[hf j J λhp=>by have:=(ho hp).2;omega];exact h.fr j h1 h2 h3 h4
 o:=h.o
 y:=h.y
 b:=h.b
def mI(O:Orc)(d:DT):Prop:=∀(sp:Nat) (L:zb) (n:Nat) (S:Sto true) (m:Nat),StOk sp L n S->zR S.obs+2*qe d<100000000->zR S.ys+2*qe d<100000000->Cv (cl O 86 [.ptr sp 0,.agg (qK d)] (KL L n m false)) (KX sp L n S (2*qe d))
def JW(d:DT)(r:List DT):qC (d::r)=qe d+qC r:=by simp only[qC]
section
variable {O:Orc}
attribute [local go_sem] qq qp wD in
def br(h65:O 65=none)(xs:List DT)(hx:∀x∈xs,mI O x){S:Sto true}(h:StOk sp L n S)(hN:zR S.obs+2*qC xs<100000000)(hY:zR S.ys+2*qC xs<100000000)(m:Nat):
  Cv (cl O 65 [.ptr sp 0,.lst (zR xs) false (wQ xs)] (KL L n m false)) λv t=>∃Y vs L2 n2 m2 S2,v=gSl 2 Y (zR vs)/\zR vs=zR xs/\t=KL L2 n2 m2 false/\StTo sp L n S L2 n2 S2/\zR S2.obs<=zR S.obs+2*qC xs/\zR S2.ys<=zR S.ys+2*qC xs/\(vs≠[]->n<=Y/\Y<n2/\Own sp S2 Y/\wn L2 Y=some (.row 131 (wo wD vs) true false)):=by
 refine qD (F:=f65) h65 rfl rfl (zvT rfl) ?_;have hxl:=uf xs;unfold f65 cF;simp only;refine wq ?_;refine wp (wp (wu ?_));apply wA;refine wP (λi:Nat=>zR xs-i) (λi f t=>∃T L2 n2 m2 S2 Y vs,f=⟨tmL T,[]⟩/\t=KL L2 n2 m2 false/\G T 0 (.ptr sp 0)/\G T 4 (gSl 2 Y (zR vs))/\G T 7 (.lst (zR xs) false (wQ xs))/\G T 8 (zR xs)/\G T 9 i/\i<=zR xs/\zR vs=i/\StTo sp L n S L2 n2 S2/\zR S2.obs+2*qC (xs.drop i)<=zR S.obs+2*qC xs/\zR S2.ys+2*qC (xs.drop i)<=zR S.ys+2*qC xs/\(vs≠[]->n<=Y/\Y<n2/\Own sp S2 Y/\wn L2 Y=some (.row 131 (wo wD vs) true false))) (λi f t hI=>?_) 0 ⟨_,L,n,m,S,0,[],rfl,rfl,sW,by simp (disch:=first|exact dis|fail)only[go_sem,seval,-rO,-rN,gSl],sW,sW,sW,yz _,rfl,h.more h.wf (zX _) λ_ _=>rfl,zX _,zX _,λhne=>absurd rfl hne⟩
 obtain⟨T,L2,n2,m2,S2,Y,vs,rfl,rfl,t0,t4,t7,t8,t9,hi,rfl,k1,hb1,hb2,hg⟩:=hI;rcases wJ xs (zR vs)with ⟨hlt,hd⟩|⟨x,hlt,hd⟩
 .have hni:¬zR vs<zR xs:=J;rw[hd]at hb1 hb2;refine wu ?_;refine ev_zc ?_;exact⟨Y,vs,L2,n2,_,S2,rfl,J,rfl,k1,by simp only[qC]at hb1;omega,by simp only[qC]at hb2;omega,hg⟩
 .have hcx:=ZF hd;rw[<-vd]at hcx;rw[hd]at hb1 hb2;rw[JW]at hb1 hb2;have hxc:=hx x (zvY (by rw[hd];exact zvZ))
  obtain⟨xk,xn,xt,xks,xp⟩:=x;simp only[wT]at hcx;have hle:=k1.le;have k2:=(k1.ok.new (some (.row 36 [(0:Nat),(0:Nat),.str [],.nils,(0:Nat)])));have k3:StTo sp L2 n2 S2 ((n2,some (.row 36 [xk,xn,.str xt,.lst (zR xks) false (wQ xks),xp]))::(n2,some (.row 36 [(0:Nat),(0:Nat),.str [],.nils,(0:Nat)]))::L2) (n2+1) S2:=k2.put2 (zX _) (yK _) (k1.ok.fresh (zX _)) _;have hcall:=λm=>hxc sp _ (n2+1) S2 m k3.ok J J;simp only[wT]at hcall;refine wq ?_;refine wp (vM sW ?_);refine wu ?_;refine wp (wA ?_);refine wq ?_;refine qB ?_;refine wO (hcall _) λv t hv=>?_;obtain⟨w,L4,n4,m4,S4,rfl,rfl,k4,hc1,hc2⟩:=hv;have k5:=(k1.trans k3).trans k4;have k6:=k5.new (some (.row 131 (wD w)));have hle3:=k3.le;have hle4:=k4.le;clear hcall hxc;have hid:vs≠[]->n<=Y/\Y<n4/\Own sp S4 Y/\wn ((n4,some (AObj.row 131 (wD w)))::L4) Y=some (.row 131 (wo wD vs) true false):=λhne=>by
   obtain⟨q1,q2,q3,q4⟩:=hg hne;refine⟨q1,J,q3.to J k4,?_⟩;rw[gN J,q3.same J k4,q3.same q2 k3];exact q4
  have hsrc:∀m,qQ (KL ((n4,some (AObj.row 131 (wD w)))::L4) (n4+1) m false) 2 1 (.sl n4 0 1 (.fix 1))=some (wD w):=λm=>(lE (j:=0) (by rw[qk,wC]) rfl).2
  refine qB ?_;refine wO (QX (f:=wD) (Y:=Y) (vs:=vs) (w:=w) uX kH J (λhne=>⟨by have:=(hid hne).2.1;omega,(hid hne).2.2.2⟩) k6.ok.wf rfl (hsrc _) J J) λv t hv=>?_
  obtain⟨L7,m7,rfl,rfl,g7,hw7,hf7⟩:=hv;have k7:StTo sp L n S L7 (n4+1+1) S4:=k6.oth (p:=vs≠[]) (Y:=Y) hw7 (zur _) (λhp=>⟨(hid hp).2.2.1,(hid hp).1⟩) hf7;have ho7:Own sp S4 (n4+1):=k6.ok.fresh (zX _);have hcat:=vG vs w;clear hid hg k6 k5 k4 k3 k2 k1 hf7;refine wu ?_;refine wu ?_;exact⟨zR vs+1,⟨_,L7,n4+1+1,_,S4,n4+1,vs++[w],rfl,rfl,V,V,V,V,V,J,hcat,k7,J,J,λ_=>⟨J,J,ho7,g7⟩⟩,J⟩
end
def FQ{l:Nat}{ps:zy}{asg body:ICode}{A tm2:zB}{vs:zA}{R:Z->U->Prop}(hg:wn L l=some (.loop .ready none A ps asg body dd))(hp:ZX A ps vs=some tm2)
  (hA:Ev (evC env (evW env O) (some l) asg ⟨tm2,[]⟩ (KL L n m b)) λr fr s=>r=.norm/\∃L2 n2 m2,s=KL L2 n2 m2 b/\wn L2 l=some (.loop .ready none A ps asg body dd)/\Ev (evC env (evW env O) (some l) body fr (KL ((l,some (.loop .busy none A ps asg body dd))::L2) n2 (gj m2 l) b)) λr fr s=>r=.norm/\∃L3 n3 m3 st pd,s=KL L3 n3 m3 b/\wn L3 l=some (.loop st pd A ps asg body dd)/\R (.bool true) (KL ((l,some (.loop .ready none A ps asg body dd))::L3) n3 (gj m3 l) b)):
  Cv ((evW env O).round l vs (KL L n m b)) R:=by
 obtain⟨r,fr,s,e1,rfl,L2,n2,m2,rfl,g2,r2,fr2,s2,e2,rfl,L3,n3,m3,st,pd,rfl,g3,hr⟩:=hA;rw[YY,am,qk,hg,ah,hp,ai,e1,WD,qk,g2,ae,lf,e2,QP,qk,g3,iH,lf];exact⟨_,_,rfl,hr⟩
def Kb:zy×ICode×ICode:=match f116.body with
 |.seq _ (.seq (.seq _ (.block _ (.rf _ ps a b))) _)=>(ps,a,b)
 |_=>([],.skip,.skip)
def obL(Y:Nat):Ob:=⟨[.int .i64 (.ofNat 0),.int .i64 (.ofNat 0),.sl Y 0 2 (.fix 2),.bool false,.nils],rfl,rfl⟩
section
variable {O:Orc}
attribute [local go_sem] qp in
def RL(h:O 146=none){Y:Nat}(b:Bool):
  Cv (cl O 146 [gSl 2 Y k] (KL L n m b)) λv t=>∃m2,v=.fn 166 [] [.ptr n 0]/\t=KL ((n,some (.row 111 [gSl 2 Y k]))::L) (n+1) m2 b:=by
 refine qD (F:=f146) h rfl rfl (zvT rfl) ?_;unfold f146 cF;simp only;refine wq ?_;refine wq ?_;refine ev_zc ?_;exact⟨_,rfl,rfl⟩
structure LsB(sp:Nat)(L:zb)(n:Nat)(S:Sto true)(nb b3 b5 l Y k:Nat)(vs:List Vl)(tF:List (Nat×Z))(dd:Nat)(w:Vl):Prop where
 gnb:wn L nb=some (.row 111 [gSl 2 Y k])
 g3:wn L b3=some (.row 92 [.ptr sp 0])
 g5:wn L b5=some (.row 131 (wD w))
 gl:wn L l=some (.loop .ready none (tmL tF) Kb.1 Kb.2.1 Kb.2.2 dd)
 gid:vs≠[]->wn L Y=some (.row 131 (wo wD vs) true false)
 nnb:nb<n
 n3:b3<n
 n5:b5<n
 nl:l<n
 nid:vs≠[]->Y<n
 onb:Own sp S nb
 o3:Own sp S b3
 o5:Own sp S b5
 ol:Own sp S l
 oid:vs≠[]->Own sp S Y
def LsB.to{b3 b5 l Y:Nat}{S S2:Sto true}{vs:List Vl}{w:Vl}(h:LsB sp L n S nb b3 b5 l Y k vs tF dd w)(g:StTo sp L n S L2 n2 S2):LsB sp L2 n2 S2 nb b3 b5 l Y k vs tF dd w where
 gnb:=by rw[h.onb.same h.nnb g];exact h.gnb
 g3:=by rw[h.o3.same h.n3 g];exact h.g3
 g5:=by rw[h.o5.same h.n5 g];exact h.g5
 gl:=by rw[h.ol.same h.nl g];exact h.gl
 gid:=λhne=>by rw[(h.oid hne).same (h.nid hne) g];exact h.gid hne
 nnb:=zT h.nnb g.le
 n3:=zT h.n3 g.le
 n5:=zT h.n5 g.le
 nl:=zT h.nl g.le
 nid:=λhne=>zT (h.nid hne) g.le
 onb:=h.onb.to h.nnb g
 o3:=h.o3.to h.n3 g
 o5:=h.o5.to h.n5 g
 ol:=h.ol.to h.nl g
 oid:=λhne=>(h.oid hne).to (h.nid hne) g
end
section
variable {O:Orc}
attribute [-go_sem] YY in
attribute [local go_sem] qq qp wD in
def E3(h166:O 166=none)(h112:O 112=none){n0 b3 b5 l Y:Nat}{L0:zb}{S0 S:Sto true}{vs:List Vl}{w:Vl}(hk:StTo sp L0 n0 S0 L n S)(hB:LsB sp L n S nb b3 b5 l Y (zR vs) vs tF dd w)(t3:G tF 3 (.ptr b3 0))(t5:G tF 5 (.ptr b5 0))(h5:n0<=b5)(hl:n0<=l)(hN:zR S.obs+zR vs<100000000)(m:Nat)(b:Bool):
  Cv (cl O 166 [.yld l,.ptr nb 0] (KL L n m b)) λv t=>∃L2 n2 m2 S2 w2,t=KL L2 n2 m2 b/\StTo sp L0 n0 S0 L2 n2 S2/\LsB sp L2 n2 S2 nb b3 b5 l Y (zR vs) vs tF dd w2/\zR S2.obs<=zR S.obs+zR vs/\zR S2.ys=zR S.ys/\(∀j,j<n->j≠b5->j≠l->Own sp S j->j<n2/\wn L2 j=wn L j/\Own sp S2 j):=by
 refine qD (F:=f166) h166 rfl rfl (zvT rfl) ?_;have hs3:=Yb (k:=zR vs) J;have gnb:=hB.gnb;unfold f166 cF;simp only;refine wq ?_;apply wA;refine wP (λk:Nat=>k) (λk fr s=>∃T L2 n2 m2 S2 w2,fr=⟨tmL T,[]⟩/\s=KL L2 n2 m2 false/\G T 0 (.yld l)/\G T 1 (.ptr nb 0)/\G T 3 (.int .i64 (i3 k))/\k<=zR vs/\StTo sp L0 n0 S0 L2 n2 S2/\LsB sp L2 n2 S2 nb b3 b5 l Y (zR vs) vs tF dd w2/\zR S2.obs+k<=zR S.obs+zR vs/\zR S2.ys=zR S.ys/\(∀j,j<n->j≠b5->j≠l->Own sp S j->j<n2/\wn L2 j=wn L j/\Own sp S2 j)) (λk2 fr s hI=>?_) (zR vs) ⟨_,L,n,m,S,w,rfl,rfl,sW,sW,sW,zX _,hk,hB,zX _,rfl,λj h1 _ _ h2=>⟨h1,rfl,h2⟩⟩;clear hs3 gnb hB hk;obtain⟨T,L2,n2,m2,S2,w2,rfl,rfl,q0,q1,q3,hk3,hk,hB,hb1,hb2,hF⟩:=hI;cases k2 with
 |zero=>
  simp only[i3]at q3;refine ev_zc ?_;exact⟨L2,n2,m2,S2,w2,rfl,hk,hB,J,hb2,hF⟩
 | succ k2=>
  have hlt:k2<zR vs:=J;have hia:= @lU 2 Y (zR vs) k2 hlt;obtain⟨x,hd⟩:∃x,vs.drop k2=x::vs.drop (k2+1):=⟨_,zud hlt⟩;have hcx:=X1 hd;have hne:vs≠[]:=λe=>by rw[e]at hlt;simp at hlt
  have gid:=hB.gid hne;have gnb:=hB.gnb;have hs2:=Yb (k:=k2) J;simp only[i3]at q3;obtain⟨x1,x2⟩:=x;simp only[wD]at hcx;clear hd;refine wq ?_;refine wp (wA ?_);apply wp;refine qB ?_;have hround:∀m,Cv ((evW env O).round l [.int .i64 (.ofNat k2),.agg [x1,x2]] (KL L2 n2 m false)) λv t=>v=.bool true/\∃L3 n3 m3 S3 w3,t=KL L3 n3 m3 false/\StTo sp L0 n0 S0 L3 n3 S3/\LsB sp L3 n3 S3 nb b3 b5 l Y (zR vs) vs tF dd w3/\zR S3.obs<=zR S2.obs+1/\zR S3.ys=zR S2.ys/\(∀j,j<n2->j≠b5->j≠l->Own sp S2 j->j<n3/\wn L3 j=wn L2 j/\Own sp S3 j):=λm=>by
   refine FQ hB.gl rfl ?_;have gl:=hB.gl;have g3:=hB.g3;have g5:=hB.g5;have nl:=hB.nl;have n3:=hB.n3;have n5:=hB.n5;have hle:=hk.le;have e1:b5≠l:=λe=>by rw[e,gl]at g5;cases g5
   have e2:b3≠l:=λe=>by rw[e,gl]at g3;cases g3
   have e3:b3≠b5:=λe=>by rw[e,g5]at g3;simp at g3
   have c0:=hk.ok.new (some (.row 131 [(0:Nat),(0:Nat)]));have c1:=c0.put2 (j:=n2) (zX _) (yK _) (hk.ok.fresh (zX _)) (some (.row 131 [x1,x2]));have hB1:=hB.to c1;have k1:=hk.trans c1;have k2':=k1.put2 (j:=l) hl J hB1.ol (some (.loop .busy none (tmL tF) Kb.1 Kb.2.1 Kb.2.2 dd));simp only[Kb,f116]at gl k2'|-;refine wu ?_;refine⟨trivial,_,_,_,rfl,V,?_⟩;apply wA;have k4:=k2'.new (some (.row 131 [x1,x2,w2.k,w2.n]));have ha1:∀m,Cv (cl O 112 [.ptr sp 0,.agg [(0:Nat),(0:Nat),.sl (n2+1) 0 2 (.fix 2),.bool false,.nils]] (KL _ (n2+1+1) m false)) λv t=>∃L3 n3 m3 oid3,v=.agg (wD ⟨.ofNat 7,.ofNat (zR S2.obs)⟩)/\t=KL L3 n3 m3 false/\StTo sp _ (n2+1+1) S2 L3 n3 {S2 with obs:=S2.obs++[obL (n2+1)],oid:=oid3}:=λm=>QV h112 k4.ok J (obL (n2+1)) m
   refine qB ?_;refine wO (ha1 _) λv t hv=>?_;obtain⟨L3,n3',m3,oid3,rfl,rfl,k5⟩:=hv;have hle5:=k5.le;have hsame:∀j,j<n2->Own sp S2 j->j≠l->wn L3 j=wn L2 j:=λj hj ho hjl=>by
    rw[ho.same J k5]
    repeat rw[gN J]
   have gl3:=hB.ol.same J k5;have g53:=(hsame b5 n5 hB.o5 e1).trans g5;have onb:=(hB.onb.to (by have:=hB.nnb;omega) k5)
   have o3:=(hB.o3.to J k5);have o5:=(hB.o5.to J k5);have ol:=(hB.ol.to J k5);have oid':=λhne=>((hB.oid hne).to (by have:=hB.nid hne;omega) k5)
   have gnb3:=(hsame nb hB.nnb hB.onb (λe=>by rw[e,gl]at gnb;cases gnb)).trans gnb
   have g33:=(hsame b3 n3 hB.o3 e2).trans g3;have gid3:=(hsame Y (hB.nid hne) (hB.oid hne) (λe=>by rw[e,gl]at gid;cases gid)).trans gid
   have k6:=((k4.trans k5).put2 h5 J o5 (some (.row 131 (wD ⟨.ofNat 7,.ofNat (zR S2.obs)⟩)))).put2 hl J ol (some (.loop .ready none (tmL tF) Kb.1 Kb.2.1 Kb.2.2 dd));simp only[Kb,f116]at k6;rw[wz,wx (show ¬l=n2+1 by omega),wC]at gl3
   have hfin:∀j,j<n2->j≠b5->j≠l->Own sp S2 j->j<n3'/\wn L3 j=wn L2 j/\Own (q:=true) sp {S2 with obs:=S2.obs++[obL (n2+1)],oid:=oid3} j:=λj h1 h2 h3 h4=>⟨J,hsame j h1 h4 h3,h4.to J k5⟩
   clear ha1 k4 k2' hsame;simp only[wD]at g53;refine wu ?_;refine⟨trivial,_,_,_,_,_,rfl,(wz _ _ _ _).trans ((wx e1.symm).trans gl3),trivial,_,_,_,{S2 with obs:=S2.obs++[obL (n2+1)],oid:=oid3},⟨.ofNat 7,.ofNat (zR S2.obs)⟩,rfl,k6,?_,by simp only[vG];omega,rfl,λj h1 h2 h3 h4=>(by
    obtain⟨p1,p2,p3⟩:=hfin j h1 h2 h3 h4;exact⟨p1,by rw[wz,wx h3,wz,wx h2];exact p2,p3⟩)⟩
   have nnb:=hB.nnb;have f1:nb≠l:=λe=>by rw[e,gl]at gnb;cases gnb
   have f2:nb≠b5:=λe=>by rw[e,g5]at gnb;simp at gnb
   have f3:Y≠l:=λe=>by rw[e,gl]at gid;cases gid
   have f4:Y≠b5:=λe=>by rw[e,g5]at gid;simp at gid
   refine⟨?_,?_,?_,wC _ _ _,λ_=>?_,J,J,J,J,λh=>by have:=hB.nid h;omega,onb,o3,o5,ol,oid'⟩
   .rw[wz,wx f1,wz,wx f2];exact gnb3
   .rw[wz,wx e2,wz,wx e3];exact g33
   .rw[wz,wx e1,wC];rfl
   .rw[wz,wx f3,wz,wx f4];exact gid3
  refine wO (hround _) λv t hv=>?_;obtain⟨rfl,L3,n3,m3,S3,w3,rfl,k3,hB3,hc1,hc2,hG⟩:=hv;have hF3:=λj h1 h2 h3 h4=>(hF j h1 h2 h3 h4);clear hround gnb gid hF;refine wu ?_;refine wu ?_;refine wu ?_;exact⟨k2,⟨_,L3,n3,_,S3,w3,rfl,rfl,V,V,V,J,k3,hB3,J,J,λj h1 h2 h3 h4=>(by
   obtain⟨p1,p2,p3⟩:=hF3 j h1 h2 h3 h4;obtain⟨p4,p5,p6⟩:=hG j p1 h2 h3 p3;exact⟨p4,p5.trans p2,p6⟩)⟩,J⟩
end
section
variable {O:Orc}
attribute [local go_sem] qq qp wD in
def TC(h116:O 116=none)(h146:O 146=none)(h166:O 166=none)(h112:O 112=none){Y:Nat}{S:Sto true}(h:StOk sp L n S){vs:List Vl}(hv:vs≠[]->Y<n/\Own sp S Y/\wn L Y=some (.row 131 (wo wD vs) true false))(w:Vl)(hN:zR S.obs+zR vs<100000000)(m:Nat):
  Cv (cl O 116 [.ptr sp 0,gSl 2 Y (zR vs),.agg (wD w)] (KL L n m false)) (KX sp L n S (zR vs)):=by
 refine qD (F:=f116) h116 rfl rfl (zvT rfl) ?_;have hw:=h.wf;have hsp:=h.spn;unfold f116 cF;simp only;refine wq ?_;refine wp (wp (qB ?_));refine wO (RL h146 false) λv t hv2=>?_;obtain⟨m2,rfl,rfl⟩:=hv2;refine wu ?_;apply wA;refine qB ?_;refine II (E3 h166 h112 (L0:=L) (n0:=n) (S0:=S) (S:=S) (b3:=n) (b5:=n+1) (Y:=Y) (vs:=vs) (w:=w) (h.more ?_ J λj hj=>?_) ⟨?_,?_,?_,wC _ _ _,λhne=>?_,J,J,J,J,λhne=>?_,h.fresh J,h.fresh J,h.fresh J,h.fresh J,λhne=>(hv hne).2.1⟩ ?_ ?_ J J hN _ false) λv t hr=>?_
 ·(repeat first|exact hw.up J|refine WfA.same ?_ J)
 ·(repeat rw[gN J])
 .simp (disch:=first|exact dis|fail)only[go_sem,seval,-rO,-rN]
 .simp (disch:=first|exact dis|fail)only[go_sem,seval,-rO,-rN]
 .simp (disch:=first|exact dis|fail)only[go_sem,seval,-rO,-rN]
 .have:=(hv hne).1
  (repeat rw[gN J])
  exact(hv hne).2.2
 .have:=(hv hne).1;omega
 .simp (disch:=first|exact dis|fail)only[go_sem,seval,-rO,-rN]
 .simp (disch:=first|exact dis|fail)only[go_sem,seval,-rO,-rN]
 obtain⟨L2,n2,m3,S2,w2,rfl,k1,hB,hb1,hb2,hF⟩:=hr;have gl:=hB.gl;obtain⟨z1,gd,od⟩:=hF (n+1+1+1+1) J J J (h.fresh J);obtain⟨z2,g6,o6⟩:=hF (n+1+1) J J J (h.fresh J);have g5:=hB.g5;have ol:=hB.ol;have nl:=hB.nl;simp (disch:=first|exact dis|fail)only[go_sem,seval,-rO,-rN]at gd
 simp (disch:=first|exact dis|fail)only[go_sem,seval,-rO,-rN]at g6
 simp only[Kb,f116]at gl;simp only[wD]at g5;clear hF hB hv;refine wu ?_;refine wq ?_;refine vy (r:=.ret) ?_;show Cv _ _;rw[kQ (by (repeat rw[gN J]);exact gd)]
 refine qP ?_;exact⟨w2,_,n2,_,S2,rfl,rfl,((k1.put2 J J ol _).put2 J J o6 _).put2 J J od _,hb1,J⟩
end
def U7:∀(N:Nat) (d:DT),qe d<N->uq d=true->TxD d->(∀x∈(qn d).1,uq x=true/\TxD x)/\uq (qn d).2=true/\TxD (qn d).2
 |0,_,h,_,_=>by omega
 | N+1,d,h,hm,ht=>by
  cases hk:vq d with
  |none=>rw[jY hk];exact⟨by simp,hm,ht⟩
  |some p=>
   obtain⟨x,y⟩:=p;have hn:=jd hk;rw[Qj hk,zU]at hm;have htk:=ht.kids hk;have hpx:=vu x;obtain⟨h1,h2,h3⟩:=U7 N y J hm.2 htk.2;rw[uL hk];refine⟨λz hz=>?_,h2,h3⟩;rcases List.mem_cons.1 hz with rfl|hz
   .exact⟨hm.1,htk.1⟩
   .exact h1 z hz
def U8:∀(N:Nat) (d:DT),qe d<N->qC (qn d).1+qe (qn d).2+(qn d).1.length<=qe d
 |0,_,h=>by omega
 | N+1,d,h=>by
  cases hk:vq d with
  |none=>rw[jY hk];simp[qC]
  |some p=>
   obtain⟨x,y⟩:=p;have hn:=jd hk;have hpx:=vu x;have h1:=U8 N y J;rw[uL hk];simp only[qC,yJ];omega
def MJ{kd dn:Int}{dt:zy}{dk:List DT}{dp:Int}(h:uq (.mk kd dn dt dk dp)=true)(h6:kd≠.ofNat 6)(h7:kd≠.ofNat 7):VM kd dn dt=true:=by
 have hk:vq (.mk kd dn dt dk dp)=none:=by
  cases hk:vq (.mk kd dn dt dk dp)with
  |none=>rfl
  |some p=>exact absurd (uN (x:=p.1) (y:=p.2) hk).1 h6
 rw[ZP hk,wx h7,zU]at h;exact h.2
def Ny(h:O 110=some I8){t:zy}(hb:Byt t)(hl:t.length<2000000)(hn:Xj t=true)(s:U):(evW env O).call 110 [.str t] s=some (rp t,s):=by
 rw[qx h,I8,vY Zi s t ⟨⟨hb,hl⟩,hn⟩ rfl]
def obK(k:Int)(x:Z)(hx:vF x=true):Ob:=⟨[.int .i64 k,.int .i64 (.ofNat 0),x,.bool false,.nils],rfl,by simp only[ko,lO,YB,Qp,hx];rfl⟩
structure VOrc(P:Program)(X:World)(O:Orc):Prop where
 h65:O 65=none
 h86:O 86=none
 h111:O 111=none
 h112:O 112=none
 h114:O 114=none
 h116:O 116=none
 h117:O 117=none
 h144:O 144=none
 h165:O 165=none
 h143:O 143=none
 h146:O 146=none
 h166:O 166=none
 h145:O 145=some Kz
 h110:O 110=some I8
 h113:O 113=some Vc
 h115:O 115=some Vd
 h142:O 142=some (j7 P X 142 kh Ye GSm)
 hfx:jy P X 142 kh Ye GSm
section
variable {P:Program}{X:World}{O:Orc}
attribute [local go_sem] qq qp wD in
def FR(H:VOrc P X O)(hm:uq d=true)(ht:TxD d)(hn:qe d<=1100000)(ih:∀x,qe x<qe d->uq x=true->TxD x->mI O x):mI O d:=by
 intro sp L n S m h hN hY;refine qD (F:=f86) H.h86 rfl rfl (zvT rfl) ?_;have hw:=h.wf;have hsp:=h.spn;obtain⟨kd,dn,dt,dk,dp⟩:=d;have k0:∀a b:zm,StTo sp L n S ((n+1,a)::(n,b)::L) (n+1+1) S:=λa b=>(h.new b).new a;have ho1:Own sp S (n+1):=h.fresh J;have hpos:=vu (.mk kd dn dt dk dp);have hsim:∀(w:Vl) (a b c:zm) (m2:Nat),KX sp L n S (2*qe (.mk kd dn dt dk dp)) (.agg (wD w)) (KL ((n+1,a)::(n+1,b)::(n,c)::L) (n+1+1) m2 false):=λw a b c m2=>⟨w,_,_,_,S,rfl,rfl,(k0 b c).put2 J J ho1 a,J,J⟩;simp only[wT];unfold f86 cF;simp only;by_cases e1:kd=.ofNat 1
 .subst e1;clear k0;refine wq ?_;refine wq ?_;refine qP ?_;exact hsim ⟨.ofNat 3,dn⟩ _ _ _ _
 have n1:=qw e1;by_cases e3:kd=.ofNat 3
 .subst e3;clear k0;refine wq ?_;refine wq ?_;refine qP ?_;exact hsim ⟨.ofNat 2,dn⟩ _ _ _ _
 have n3:=qw e3;by_cases e9:kd=.ofNat 9
 .subst e9;clear k0;refine wq ?_;refine wq ?_;refine qP ?_;exact hsim ⟨.ofNat 5,.ofNat 0⟩ _ _ _ _
 have n9:=qw e9;by_cases e10:kd=.ofNat 10
 .subst e10;have hno:=λL n m=>TH H.h117 L n m;simp only[wD]at hno;clear k0;refine wq ?_;refine wq ?_;refine qP ?_;exact hsim ⟨.ofNat 6,.ofNat 0⟩ _ _ _ _
 have n10:=qw e10;simp only[TxD]at ht;have hfin:∀{L1:zb} {L2:zb} {n2 m2:Nat} {S2:Sto true} (w:Vl),StTo sp L n S L1 (n+1+1) S->StTo sp L1 (n+1+1) S L2 n2 S2->zR S2.obs<=zR S.obs+2*qe (.mk kd dn dt dk dp)->zR S2.ys<=zR S.ys+2*qe (.mk kd dn dt dk dp)->KX sp L n S (2*qe (.mk kd dn dt dk dp)) (.agg (wD w)) (KL ((n+1,some (.row 131 (wD w)))::L2) n2 m2 false):=λw ka kb h1 h2=>⟨w,_,_,_,_,rfl,rfl,(ka.trans kb).put2 J (by have:=kb.le;omega) (ho1.to J kb) _,h1,h2⟩
 by_cases e2:kd=.ofNat 2
 .subst e2;have hnum:Xj dt=true:=MJ hm (by decide) (by decide)
  have hpc:=λs=>Ny H.h110 ht.1 ht.2.1 hnum s;simp only[rp,jJ,uP]at hpc;have hll:(jF (Jk (trL pQ dt) [])).length<100000000:=by
   have a1:=Js (Jk (trL pQ dt) []);have a2:=iD (trL pQ dt) [];have a3:=Ba pQ dt;simp only[xY]at a2;omega
  generalize jF (Jk (trL pQ dt) [])=l at *;generalize J5 (ngF dt) _=g at *;have hcp:wL (wo vK l)=true:=wX j2 l;refine wq ?_;apply wp;refine wq ?_;apply wA;refine wq ?_;refine u9 sW ?_;refine wq ?_;refine vM sW ?_;refine wq ?_;refine wp (qB ?_);have k1:=λa b c:zm=>(k0 a b).new c;refine wO (Do H.h111 H.h112 H.h142 H.hfx ((k1 _ _ _).put2 (j:=n+1+1) J J (h.fresh J) _).ok J hll _) λv t hv=>?_;obtain⟨w,L2,n2,m2,S2,rfl,rfl,k2,hc1,hc2⟩:=hv;have hle:=k2.le;have g4:=(ho1.same J k2);simp (disch:=first|exact dis|fail)only[go_sem,seval,-rO,-rN]at g4
  have k3:=(((k1 _ _ _).put2 (j:=n+1+1) J J (h.fresh J) _).trans k2).put2 (j:=n+1) J J (ho1.to J k2) (some (.row 131 (wD w)));clear k0 k1 hfin k2 hpc;refine wu ?_;refine ev_zc ?_;exact⟨w,_,n2,_,S2,rfl,rfl,k3,J,J⟩
 have n2:=qw e2;by_cases e4:kd=.ofNat 4
 .subst e4;have hch:=λs=>YP H.h113 ⟨ht.1,ht.2.1⟩ s;simp only[qZ]at hch;have ha1:∀m a b,Cv (cl O 112 [.ptr sp 0,.agg [(4:Nat),(0:Nat),.lst (j4 dt).length false (wo wD (j4 dt)),.bool false,.nils]] (KL ((n+1,a)::(n,b)::L) (n+1+1) m false)) λv t=>∃L2 n2 m2 oid2,v=.agg (wD ⟨.ofNat 7,.ofNat (zR S.obs)⟩)/\t=KL L2 n2 m2 false/\StTo sp _ (n+1+1) S L2 n2 {S with obs:=S.obs++[obS (j4 dt)],oid:=oid2}:=λm a b=>QV H.h112 (k0 a b).ok J (obS (j4 dt)) m
  have hcp:=Qb (j4 dt);generalize wo wD (j4 dt)=cs at *;refine wq ?_;apply wp;refine wq ?_;apply wA;refine wq ?_;refine u9 sW ?_;refine wq ?_;refine u9 sW ?_;refine wq ?_;refine u9 sW ?_;refine wq ?_;refine vM sW ?_;refine wp (qB ?_);refine wO (ha1 _ _ _) λv t hv=>?_;obtain⟨L2,n2,m2,oid2,rfl,rfl,k2⟩:=hv;have g4:=(ho1.same J k2);simp (disch:=first|exact dis|fail)only[go_sem,seval,-rO,-rN]at g4
  have hf:=λm=>hfin (m2:=m) ⟨.ofNat 7,.ofNat (zR S.obs)⟩ (k0 _ _) k2 (by simp only[vG];omega) (by simp only;omega)
  clear k0 hfin k2 hch ha1;simp only[wD]at hf;refine wu ?_;refine ev_zc ?_;exact hf _
 have n4:=qw e4;by_cases e5:kd=.ofNat 5
 .subst e5;have hch:=λs=>YP H.h113 ⟨ht.1,ht.2.1⟩ s;have hcl:=Gk dt;refine wq ?_;apply wp;refine wq ?_;apply wA;refine wq ?_;refine u9 sW ?_;refine wq ?_;refine u9 sW ?_;refine wq ?_;refine u9 sW ?_;refine wq ?_;refine u9 sW ?_;refine wq ?_;refine vM sW ?_;refine wp (qB ?_);refine wO (Ej H.h114 H.h112 H.h145 H.h143 H.h144 H.h165 (k0 _ _).ok J J (l:=j4 dt) J _) λv t hv=>?_;obtain⟨w,L2,n2,m2,S2,rfl,rfl,k2,hc1,hc2⟩:=hv;have g4:=(ho1.same J k2);simp (disch:=first|exact dis|fail)only[go_sem,seval,-rO,-rN]at g4
  have hf:=λm=>hfin (m2:=m) w (k0 _ _) k2 J J;clear k0 hfin k2 hch;simp only[wD]at hf;refine wu ?_;refine ev_zc ?_;exact hf _
 have n5:=qw e5;by_cases e8:kd=.ofNat 8
 .subst e8;refine wq ?_;apply wp;refine wq ?_;apply wA;refine wq ?_;refine u9 sW ?_;refine wq ?_;refine u9 sW ?_;refine wq ?_;refine u9 sW ?_;refine wq ?_;refine u9 sW ?_;refine wq ?_;refine u9 sW ?_;refine wq ?_;refine vM sW ?_;have hlen:=ht.2.1;have hbyt:=ht.1;have hcs:∀l n m,Kh (KL l n m false) 5 (.str dt)=some (.sl n 0 (zR dt) (.opn 1),KL ((n,some (.row 5 (qo dt) true false))::l) (n+1) m false):=λl n m=>by
   simp only[Kh,qT,qA.2 (show (zR dt)<9223372036854775808 by omega),wy,QF,wK]
   rfl
  refine wq ?_;refine wp (wp (wu ?_));apply wA;have k1:=λa b c:zm=>((k0 a b).new c);refine wP (λi:Nat=>zR dt-i) (λi f t=>∃T L2 n2 m2 Y vs,f=⟨tmL T,[]⟩/\t=KL L2 n2 m2 false/\G T 0 (.ptr sp 0)/\G T 4 (.ptr (n+1) 0)/\G T 7 (gSl 2 Y (zR vs))/\G T 55 (.sl (n+1+1) 0 (zR dt) (.opn 1))/\G T 56 (zR dt)/\G T 57 i/\i<=zR dt/\zR vs=i/\StTo sp L n S L2 n2 S/\n+1+1+1<=n2/\wn L2 (n+1)=some (.row 131 [(0:Nat),(0:Nat)])/\wn L2 (n+1+1)=some (.row 5 (qo dt) true false)/\(vs≠[]->n+1+1+1<=Y/\Y<n2/\wn L2 Y=some (.row 131 (wo wD vs) true false))) (λi f t hI=>?_) 0 ⟨_,_,_,_,0,[],rfl,rfl,sW,sW,by simp (disch:=first|exact dis|fail)only[go_sem,seval,-rO,-rN,gSl],sW,sW,sW,yz _,rfl,k1 _ _ _,zX _,sW,sW,λhne=>absurd rfl hne⟩
  obtain⟨T,L2,n2',m2,Y,vs,rfl,rfl,t0,t4,t7,t55,t56,t57,hi,rfl,k2,hle2,g4,g5,hg⟩:=hI;rcases wJ dt (zR vs)with ⟨hlt,hd⟩|⟨x,hlt,hd⟩
  .have hni:¬zR vs<zR dt:=J;have hsc:=ud 2 Y (zR vs);have hcc:=qp 2 Y (zR vs);have ha1:∀m,Cv (cl O 112 [.ptr sp 0,.agg [(6:Nat),(0:Nat),gSl 2 Y (zR vs),.bool false,.nils]] (KL L2 n2' m false)) λv t=>∃L3 n3 m3 oid3,v=.agg (wD ⟨.ofNat 7,.ofNat (zR S.obs)⟩)/\t=KL L3 n3 m3 false/\StTo sp _ n2' S L3 n3 {S with obs:=S.obs++[obK (.ofNat 6) (gSl 2 Y (zR vs)) hsc],oid:=oid3}:=λm=>QV H.h112 k2.ok J (obK (.ofNat 6) (gSl 2 Y (zR vs)) hsc) m
   generalize gSl 2 Y (zR vs)=sv at *;clear hg;refine wu ?_;refine wp (qB ?_);refine wO (ha1 _) λv t hv=>?_;obtain⟨L3,n3',m3,oid3,rfl,rfl,k3⟩:=hv;have g43:=(ho1.same J k3).trans g4;have k5:=(k2.trans k3).put2 (j:=n+1) J (by have:=k3.le;omega) (ho1.to J k3) (some (.row 131 (wD ⟨.ofNat 7,.ofNat (zR S.obs)⟩)))
   clear k0 k1 hfin k2 k3 ha1;refine wu ?_;refine ev_zc ?_;exact⟨⟨.ofNat 7,.ofNat (zR S.obs)⟩,_,n3',_,_,rfl,rfl,k5,by simp only[vG];omega,by simp only;omega⟩
  .have hx:x<256:=hbyt x (zvY (by rw[hd];exact zvZ))
   have hb:qf 1 (qo (dt.drop (zR vs)))=some [.int .u8 (.ofNat x)]:=by rw[hd];rfl
   have k3:=k2.new (some (.row 131 (wD ⟨.ofNat 1,.ofNat x⟩)));have hsrc:∀m,qQ (KL ((n2',some (AObj.row 131 (wD ⟨.ofNat 1,.ofNat x⟩)))::L2) (n2'+1) m false) 2 1 (.sl n2' 0 1 (.fix 1))=some (wD ⟨.ofNat 1,.ofNat x⟩):=λm=>(lE (j:=0) (by rw[qk,wC]) rfl).2
   have hid:vs≠[]->Y<n2'+1/\wn ((n2',some (AObj.row 131 (wD ⟨.ofNat 1,.ofNat x⟩)))::L2) Y=some (.row 131 (wo wD vs) true false):=λhne=>by
    obtain⟨q1,q2,q3⟩:=hg hne;exact⟨J,by rw[gN J];exact q3⟩
   clear hd;refine wq ?_;refine wp (vM sW ?_);refine wu ?_;refine wp (wA ?_);refine wq ?_;refine qB ?_;refine wO (QX (f:=wD) (Y:=Y) (vs:=vs) (w:=⟨.ofNat 1,.ofNat x⟩) uX kH J hid k3.ok.wf rfl (hsrc _) J J) λv t hv=>?_;obtain⟨L7,m7,rfl,rfl,g7,hw7,hf7⟩:=hv;have k7:StTo sp L n S L7 (n2'+1+1) S:=k3.oth (p:=vs≠[]) (Y:=Y) hw7 (zur _) (λhp=>⟨h.fresh (by have:=(hg hp).1;omega),by have:=(hg hp).1;omega⟩) hf7
   have g47:wn L7 (n+1)=some (.row 131 [(0:Nat),(0:Nat)]):=by
    rw[hf7 _ J λhp=>by have:=(hg hp).1;omega,gN J];exact g4
   have g57:wn L7 (n+1+1)=some (.row 5 (qo dt) true false):=by
    rw[hf7 _ J λhp=>by have:=(hg hp).1;omega,gN J];exact g5
   have hcat:=vG vs ⟨.ofNat 1,.ofNat x⟩;clear hid hg k3 k2 k1 k0 hf7 hfin;refine wu ?_;refine wu ?_;exact⟨zR vs+1,⟨_,L7,n2'+1+1,_,n2'+1,vs++[⟨.ofNat 1,.ofNat x⟩],rfl,rfl,V,V,V,V,V,V,J,hcat,k7,J,g47,g57,λ_=>⟨J,J,g7⟩⟩,J⟩
 have n8:=qw e8;by_cases e7:kd=.ofNat 7
 .subst e7;have hk:vq (.mk (.ofNat 7) dn dt dk dp)=none:=by
   cases hk:vq (.mk (.ofNat 7) dn dt dk dp)with
   |none=>rfl
   |some p=>exact absurd (uN (x:=p.1) (y:=p.2) hk).1 (by decide)
  rw[ZP hk,wH rfl]at hm;have hnk:qe (.mk (.ofNat 7) dn dt dk dp)=1+qC dk:=by simp only[qe]
  have hdc:∀x∈dk,mI O x:=λx hx=>ih x (by rw[hnk];have:=vV hx;omega) (List.all_eq_true.1 hm x hx) (ht.2.2.mem hx)
  refine wq ?_;apply wp;refine wq ?_;apply wA;refine wq ?_;refine u9 sW ?_;refine wq ?_;refine u9 sW ?_;refine wq ?_;refine u9 sW ?_;refine wq ?_;refine u9 sW ?_;refine wq ?_;refine u9 sW ?_;refine wq ?_;refine u9 sW ?_;refine wq ?_;refine vM sW ?_;refine wp (qB ?_);refine wO (br H.h65 dk hdc (k0 _ _).ok J J _) λv t hv=>?_;obtain⟨Y,vs,L2,n2,m2,S2,rfl,hvl,rfl,k2,hc1,hc2,hg⟩:=hv;have hsc:=ud 2 Y (zR vs);have hcc:=qp 2 Y (zR vs);have ha1:∀m,Cv (cl O 112 [.ptr sp 0,.agg [(1:Nat),(0:Nat),gSl 2 Y (zR vs),.bool false,.nils]] (KL L2 n2 m false)) λv t=>∃L3 n3 m3 oid3,v=.agg (wD ⟨.ofNat 7,.ofNat (zR S2.obs)⟩)/\t=KL L3 n3 m3 false/\StTo sp _ n2 S2 L3 n3 {S2 with obs:=S2.obs++[obK (.ofNat 1) (gSl 2 Y (zR vs)) hsc],oid:=oid3}:=λm=>QV H.h112 k2.ok J (obK (.ofNat 1) (gSl 2 Y (zR vs)) hsc) m
  generalize gSl 2 Y (zR vs)=sv at *;refine qB ?_;refine wO (ha1 _) λv t hv=>?_;obtain⟨L3,n3',m3,oid3,rfl,rfl,k3⟩:=hv;have k4:=k2.trans k3;have g4:=(ho1.same J k4);simp (disch:=first|exact dis|fail)only[go_sem,seval,-rO,-rN]at g4
  have hf:=λm=>hfin (m2:=m) ⟨.ofNat 7,.ofNat (zR S2.obs)⟩ (k0 _ _) k4 (by simp only[vG];omega) (by simp only;omega)
  clear k0 hfin k2 k3 k4 ha1 hg;simp only[wD]at hf;refine wu ?_;refine ev_zc ?_;exact hf _
 have n7:=qw e7;by_cases e6:kd=.ofNat 6
 .subst e6;cases hk:vq (.mk (.ofNat 6) dn dt dk dp)with
  |none=>
   rw[ZP hk,wx (by decide)]at hm
   simp[XR,VM,G9]at hm
  | some p=>
   obtain⟨x,y⟩:=p;have hni:=gZ (.mk (.ofNat 6) dn dt dk dp);have hlt:qe (qn (.mk (.ofNat 6) dn dt dk dp)).2<qe (.mk (.ofNat 6) dn dt dk dp):=by
    rw[uL hk];have h1:=gZ y;have h2:=jd hk;have h3:=vu x;show qe (qn y).2<_;omega
   have hil:=uf (qn (.mk (.ofNat 6) dn dt dk dp)).1;have hpl:=vu (qn (.mk (.ofNat 6) dn dt dk dp)).2;have hsum:qC (qn (.mk (.ofNat 6) dn dt dk dp)).1+qe (qn (.mk (.ofNat 6) dn dt dk dp)).2+(qn (.mk (.ofNat 6) dn dt dk dp)).1.length<=qe (.mk (.ofNat 6) dn dt dk dp):=U8 _ _ (yK _);obtain⟨hi1,hi2,hi3⟩:=U7 _ _ (yK _) hm (by simp only[TxD];exact ht)
   have hit:=λs=>Uh H.h115 (d:=.mk (.ofNat 6) dn dt dk dp) J s;simp only[itR]at hit;generalize qn (.mk (.ofNat 6) dn dt dk dp)=Ir at *;obtain⟨is,e⟩:=Ir;simp only at hni hlt hil hpl hsum hi1 hi2 hi3 hit;have hdc:∀z∈is,mI O z:=λz hz=>ih z (by have:=vV hz;omega) (hi1 z hz).1 (hi1 z hz).2
   have hde:=ih e hlt hi2 hi3;obtain⟨ek,en,et,eks,ep⟩:=e;simp only[Z3,wT]at hit;have hcp:wL (wQ is)=true:=vl is;have hcp2:wL (wQ eks)=true:=vl eks;refine wq ?_;apply wp;refine wq ?_;apply wA;refine wq ?_;refine u9 sW ?_;refine wq ?_;refine u9 sW ?_;refine wq ?_;refine u9 sW ?_;refine wq ?_;refine u9 sW ?_;refine wq ?_;refine u9 sW ?_;refine wq ?_;refine u9 sW ?_;refine wq ?_;refine u9 sW ?_;refine wq ?_;refine vM sW ?_;refine wq ?_;have k1:=λa b c:zm=>((k0 a b).new c);have k2:=λa b c e:zm=>(k1 a b c).put2 (j:=n+1+1) J J (h.fresh J) e;refine wp (qB ?_);refine wO (br H.h65 is hdc (k2 _ _ _ _).ok J J _) λv t hv=>?_;obtain⟨Y,vs,L2,n2,m2,S2,rfl,hvl,rfl,k3,hc1,hc2,hg⟩:=hv;have hsc:=ud 2 Y (zR vs);have hcc:=qp 2 Y (zR vs);replace hvl:=hvl.symm;have g11:=((h.fresh J:Own sp S (n+1+1)).same J k3);simp (disch:=first|exact dis|fail)only[go_sem,seval,-rO,-rN]at g11
   have hdd:=λm=>hde sp L2 n2 S2 m k3.ok J J;simp only[wT]at hdd;refine wu ?_;refine wp (qB ?_);refine wO (hdd _) λv t hv=>?_;obtain⟨w,L4,n4,m4,S4,rfl,rfl,k4,hc3,hc4⟩:=hv;clear hdd hde;have hls:=λm=>TC H.h116 H.h146 H.h166 H.h112 (sp:=sp) (n:=n4) (L:=L4) (S:=S4) k4.ok (vs:=vs) (Y:=Y) (λhne=>by
    obtain⟨q1,q2,q3,q4⟩:=hg hne;have:=k4.le;exact⟨J,q3.to q2 k4,by rw[q3.same q2 k4];exact q4⟩) w J m
   simp only[wD]at hls;refine qB ?_;refine wO (hls _) λv t hv=>?_;obtain⟨w5,L5,n5',m5,S5,rfl,rfl,k5,hc5,hc6⟩:=hv;have k6:=(k3.trans k4).trans k5;have hle6:=k6.le;have g4:=(ho1.same J k6);simp (disch:=first|exact dis|fail)only[go_sem,seval,-rO,-rN]at g4
   have k7:=((k2 _ _ _ _).trans k6).put2 (j:=n+1) J J (ho1.to J k6) (some (.row 131 (wD w5)));clear k0 k1 k2 hfin k3 k4 k5 k6 hls hg g11;simp only[wD]at k7;refine wu ?_;refine ev_zc ?_;exact⟨w5,_,n5',_,S5,rfl,rfl,k7,J,J⟩
 have n6:=qw e6;clear k0 hfin;refine wq ?_;refine wq ?_;refine ev_zc ?_;exact hsim ⟨.ofNat 4,.ofNat 0⟩ _ _ _ _
end
def LY{P:Program}{X:World}{O:Orc}(H:VOrc P X O):∀(N:Nat) (d:DT),qe d<N->qe d<=1100000->uq d=true->TxD d->mI O d
 |0,_,h,_,_,_=>by omega
 |N+1,d,h,hn,hm,ht=>FR H hm ht hn λx hx h1 h2=>LY H N x J J h1 h2
mutual
def plD:DT->Bool
 |.mk k n _ ks _=>(!eqD k (.ofNat 5)||eqD n (.ofNat 0))&&QD ks
def QD:List DT->Bool
 |[]=>true
 |d::r=>plD d&&QD r
end
def ER(O:Orc)(d:DT):Prop:=∀(L:zb) (n m:Nat) (b:Bool),Cv (cl O 64 [.agg (qK d)] (KL L n m b)) λv t=>v=.bool (plD d)/\t=KL L n m b
section
variable {O:Orc}
def Dy(h85:O 85=none)(hp:ER O d)(L:zb)(n m:Nat)(b:Bool):Cv (cl O 85 [.agg (qK d)] (KL L n m b)) λv t=>v=.bool (!plD d)/\t=KL L n m b:=by
 refine vr (F:=f85) h85 rfl rfl (zvT rfl) ?_;obtain⟨dk,dn,dt,ds,dp⟩:=d;have hp2:=λL n m b=>hp L n m b;generalize plD (.mk dk dn dt ds dp)=r at *;simp only[wT]at hp2|-;unfold f85 cF;simp only;refine wq ?_;refine wp (qB ?_);refine wO (hp2 _ _ _ _) λv t hv=>?_;obtain⟨rfl,rfl⟩:=hv;clear hp2;refine wu ?_;refine ev_zc ?_;exact⟨rfl,rfl⟩
def rx(h85:O 85=none)(h106:O 106=none)(l:List DT)(hl:List.length l<1000000000)(hp:∀x∈l,ER O x)(L:zb)(n m:Nat)(b:Bool):Cv (cl O 106 [.lst (List.length l) false (wQ l),.fn 85 [] []] (KL L n m b)) λv t=>(∃r,v=.int .i64 r/\(!ltD r (.ofNat 0))= !QD l)/\t=KL L n m b:=by
 refine vr (F:=f106) h106 rfl rfl (zvT rfl) ?_;unfold f106 cF;simp only;refine wq ?_;refine wp (wp (wu ?_));apply wA;refine wP (λi:Nat=>zR l-i) (λi f t=>∃T,f=⟨tmL T,[]⟩/\t=KL L n 0 true/\G T 0 (.lst (zR l) false (wQ l))/\G T 1 (.fn 85 [] [])/\G T 7 (zR l)/\G T 8 i/\i<=zR l/\QD l=QD (l.drop i)) (λi f t hI=>?_) 0 ⟨_,rfl,rfl,sW,sW,sW,sW,yz _,rfl⟩;obtain⟨T,rfl,rfl,t0,t1,t7,t8,hi,hpl⟩:=hI;rcases wJ l i with ⟨hlt,hd⟩|⟨x,hlt,hd⟩
 .have hni:¬i<zR l:=J;rw[hd]at hpl;clear hd;refine wu ?_;refine ev_zc ?_;exact⟨⟨_,rfl,by rw[hpl];rfl⟩,rfl⟩
 .have hcx:=ZF hd;rw[<-vd]at hcx;have hpx:=λL n m b=>Dy h85 (hp x (zvY (by rw[hd];exact zvZ))) L n m b
  rw[hd]at hpl;simp only[QD]at hpl;generalize plD x=r at *;obtain⟨xk,xn,xt,xs,xp⟩:=x;simp only[wT]at hcx hpx;clear hd hp;refine wq ?_;refine wp (vM sW ?_);refine wu ?_;refine wp (wA ?_);refine wq ?_;apply wp;refine qB ?_;refine wO (hpx _ _ _ _) λv t hv=>?_;obtain⟨rfl,rfl⟩:=hv;clear hpx;cases r with
  |false=>
   refine wu ?_;refine ev_zc ?_;exact⟨⟨_,rfl,by rw[hpl];rfl⟩,rfl⟩
  |true=>
   refine wu ?_;refine wu ?_;refine wu ?_;exact⟨i+1,⟨_,rfl,trivial,V,V,V,V,J,hpl⟩,J⟩
def rv(h85:O 85=none)(h106:O 106=none)(h82:O 82=none)(l:List DT)(hl:List.length l<1000000000)(hp:∀x∈l,ER O x)(L:zb)(n m:Nat)(b:Bool):Cv (cl O 82 [.lst (List.length l) false (wQ l),.fn 85 [] []] (KL L n m b)) λv t=>v=.bool (!QD l)/\t=KL L n m b:=by
 refine vr (F:=f82) h82 rfl rfl (zvT rfl) ?_;have hix:=λL n m b=>rx h85 h106 l hl hp L n m b;unfold f82 cF;simp only;refine wq ?_;refine wp (qB ?_);refine wO (hix _ _ _ _) λv t hv=>?_;obtain⟨⟨r,rfl,hr⟩,rfl⟩:=hv;clear hix;refine wu ?_;refine ev_zc ?_;exact⟨by rw[<-hr],rfl⟩
end
section
variable {O:Orc}
def NB(h64:O 64=none)(h85:O 85=none)(h106:O 106=none)(h82:O 82=none):∀(k:Nat) (d:DT),qe d<=k->qe d<=1100000->uq d=true->ER O d:=by
 intro k
 induction k with
 |zero=>intro d h;have:=vu d;omega
 | succ k ih=>
  intro d hk hn hm L n m b;refine vr (F:=f64) h64 rfl rfl (zvT rfl) ?_;have hd5:=qz (vD d);obtain⟨R,hR⟩:∃R,plD d=R:=⟨_,rfl⟩;rw[hR];obtain⟨kd,dn,dt,dk,dp⟩:=d;simp only[wT]at hd5|-;unfold f64 cF;simp only;refine wq ?_;refine wp (wA ?_);refine wP (λx:DT=>qe x) (λx f t=>∃T L2 m',f=⟨tmL T,[]⟩/\t=KL L2 (n+1) m' true/\G T 1 (.ptr n 0)/\wn L2 n=some (kC x)/\m'%2^n=0/\qe x<=k+1/\qe x<=1100000/\uq x=true/\plD x=R) (λx f t hI=>?_) (.mk kd dn dt dk dp) ⟨_,_,_,rfl,rfl,sW,by simp (disch:=first|exact dis|fail)only[go_sem,seval,-rO,-rN,kC,wT],by simp,hk,hn,hm,hR⟩
  clear hk hn hm hd5 hR kd dn dt dk dp;obtain⟨T,L2,m',rfl,rfl,t1,g,hmk,hk,hn,hm,hR⟩:=hI;obtain⟨kd,dn,dt,dk,dp⟩:=x;simp only[kC,wT]at g;cases hka:vq (.mk kd dn dt dk dp)with
  | some p=>
   obtain⟨⟨xk,xn,xt,xks,xp⟩,⟨yk,yn,yt,yks,yp⟩⟩:=p;have hna:=jd hka;rw[Qj hka,zU]at hm;obtain⟨rfl,rfl⟩:=uN hka;have hpx:=vu (.mk yk yn yt yks yp);have hpx2:=vu (.mk xk xn xt xks xp);have hc:=ih (.mk xk xn xt xks xp) J J hm.1;have hc':=λL n m b=>hc L n m b;simp only[plD,QD,show eqD (.ofNat 6) (.ofNat 5)=false from rfl,Bool.not_false,Bool.true_or,xC,Bool.and_true]at hR;have hy:plD (.mk yk yn yt yks yp)=((!eqD yk (.ofNat 5)||eqD yn (.ofNat 0))&&QD yks):=rfl
   have hx:plD (.mk xk xn xt xks xp)=((!eqD xk (.ofNat 5)||eqD xn (.ofNat 0))&&QD xks):=rfl
   rw[<-hx,<-hy]at hR;clear hx hy;generalize plD (.mk xk xn xt xks xp)=r at *;simp only[wT]at hc';have hc1:qf 5 (wQ [.mk xk xn xt xks xp,.mk yk yn yt yks yp])=some (qK (.mk xk xn xt xks xp)):=by rw[Zd];exact kO _ _
   have hc2:qf 5 (qv 5 (wQ [.mk xk xn xt xks xp,.mk yk yn yt yks yp]))=some (qK (.mk yk yn yt yks yp)):=by
    rw[Zd,qH,List.drop_left' (vD _)];exact lF _
   simp only[wT]at hc1 hc2;simp only[yJ,xY]at g;clear ih hc hka;refine wq ?_;apply wA;apply wp;apply wp;refine qB ?_;refine wO (hc' _ _ _ _) λv t hv=>?_;obtain⟨rfl,rfl⟩:=hv;clear hc';cases r with
   |false=>
    rw[zvW]at hR;subst hR;refine wu ?_;refine ev_zc ?_;exact⟨rfl,rfl⟩
   |true=>
    rw[xC]at hR;refine wu ?_;refine wu ?_;refine wu ?_;exact⟨.mk yk yn yt yks yp,⟨_,_,_,rfl,rfl,V,by simp (disch:=first|exact dis|fail)only[go_sem,seval,-rO,-rN, *,kC,wT],V,J,J,hm.2,hR⟩,J⟩
  | none=>
   have h6:kd≠.ofNat 6:=λe=>by
    subst e;rw[ZP hka,wx (by decide)]at hm
    simp[XR,VM,G9]at hm
   have n6:=qw h6;have hks:∀x∈dk,ER O x:=λx hx=>by
    have h1:=jx (.mk kd dn dt dk dp);have h2:=vV hx;simp only[jZ]at h1;refine ih x J J ?_;rw[ZP hka]at hm;split at hm
    .exact List.all_eq_true.1 hm x hx
    .simp only[zU,hZ]at hm;have:=List.eq_nil_of_length_eq_zero hm.1;rw[this]at hx;cases hx
   have hkl:zR dk<1000000000:=by
    have h1:=jx (.mk kd dn dt dk dp);have h2:=uf dk;simp only[jZ]at h1;omega
   have hcf:=λL n m b=>rv h85 h106 h82 dk hkl hks L n m b;clear ih hks hka hm;simp only[plD]at hR;generalize QD dk=ps at *;refine wu ?_;cases h5:eqD kd (.ofNat 5)with
   | true=>
    rw[h5,Bool.not_true,Bool.false_or]at hR;cases e0:eqD dn (.ofNat 0)with
    |true=>
     rw[e0,xC]at hR;subst hR;refine wp (qB ?_);refine wO (hcf _ _ _ _) λv t hv=>?_;obtain⟨rfl,rfl⟩:=hv;clear hcf;refine wu ?_;refine ev_zc ?_;exact⟨by first|rfl|rw[Bool.not_not],rfl⟩
    |false=>
     rw[e0,zvW]at hR;subst hR;clear hcf;refine ev_zc ?_;exact⟨rfl,rfl⟩
   |false=>
    rw[h5,Bool.not_false,Bool.true_or,xC]at hR;subst hR;refine wp (qB ?_);refine wO (hcf _ _ _ _) λv t hv=>?_;obtain⟨rfl,rfl⟩:=hv;clear hcf;refine wu ?_;refine ev_zc ?_;exact⟨by first|rfl|rw[Bool.not_not],rfl⟩
end
def oq{f:Nat}{F:IFunc}(h:O f=none)(hF:env.funs.get f=some F)(hp:env.pure f=true){a:zA}(ha:List.length a<=F.ntmps){R:Z->U->Prop}(hc:Cv ((evW env O).call f a (KL [] 0 0 true)) R):Ev (evC env (evW env O) none F.body ⟨qG (tmL []) 0 a,[]⟩ (KL [] 0 0 true)) λr fr t=>Cv (Yu (KL [] 0 0 true) (qJ env.globs F.res (some (r,fr,t)))) R:=by
 obtain⟨v,t,e,q⟩:=hc;rw[j1 h hF hp _ _ _ _ _ _ _ ha]at e;cases hx:evC env (evW env O) none F.body ⟨qG (tmL []) 0 a,[]⟩ (KL [] 0 0 true)with
 |none=>rw[hx]at e;cases e
 |some x=>
  obtain⟨r,fr,t2⟩:=x;rw[hx]at e;exact⟨r,fr,t2,rfl,v,t,e,q⟩
def Jx(d:DT):Prop:=uq d=true/\qe d<=1100000
def GPl(d:DT)(v:Z):Prop:=v=.bool (plD d)
section
variable {P:Program}{X:World}(B:Bx P X){O:Orc}(hO:OrcOk P X O)
include B hO
def NC(h64:O 64=none)(h85:O 85=none)(h106:O 106=none)(h82:O 82=none):jy P X 64 u0 Jx GPl:=by
 intro d hd;refine beX B hO f64 ?_;refine(oq h64 rfl rfl (zvT rfl) (NB h64 h85 h106 h82 (qe d) d (zX _) hd.2 hd.1 [] 0 0 true)).mono λr f t hc=>hc.mono λv s hv=>?_;obtain⟨rfl,rfl⟩:=hv;exact⟨_,rfl,rfl,qM _ _⟩
end
def ry(h:O 64=some (j7 P X 64 u0 Jx GPl))(hx:jy P X 64 u0 Jx GPl)(hd:Jx d)(s:U):(evW env O).call 64 [.agg (qK d)] s=some (.bool (plD d),s):=by
 have h1:=oc h YU d hd (WW d) s;rw[h1,show _=Z.bool (plD d)from (X9 (hx d hd)).1]
def Un(_:Program)(_:World)(l:List DT):Bool:=l.all λd=>uq d&&plD d
structure NOrc(P:Program)(X:World)(N:Nat)(O:Orc):Prop extends VOrc P X O where
 h45:O 45=none
 h62:O 62=none
 h63:O 63=some (U0 N)
 h64:O 64=some (j7 P X 64 u0 Jx GPl)
 hpl:jy P X 64 u0 Jx GPl
 hN:N<=1100000
structure CsPre(N:Nat)(l:List DT):Prop where
 tx:TxL l
 nd:∀d∈l,qe d<N
 sum:qC l<10000000
def RY(h62:O 62=none)(L:zb)(n m:Nat)(b:Bool):cl O 62 [.nils] (KL L n m b)=some (.nils,KL L n m b):=by
 have key:Cv (cl O 62 [.nils] (KL L n m b)) λv t=>v=.nils/\t=KL L n m b:=by
  refine vr (F:=f62) h62 rfl rfl (zvT rfl) ?_;have he:Yd .slice false .nils .nils=some (.bool true):=rfl;unfold f62 cF;simp only;refine ev_zc ?_;exact⟨rfl,rfl⟩
 obtain⟨v,t,h,rfl,rfl⟩:=key;exact h
def Jo(q:Bool):Sto q:=⟨[],0,[],0,[],.ofNat 0,false⟩
section
variable {P:Program}{X:World}{O:Orc}{N:Nat}
attribute [local go_sem] qq qp in
def zxA(H:NOrc P X N O){l:List DT}(hl:CsPre N l)(hw:WfA L n)(m:Nat):
  Cv (cl O 45 [.lst (zR l) false (wQ l),.nils] (KL L n m false)) λv t=>∃x L2 n2 m2,v=.tup [x,.int .i64 (bif Un P X l then .ofNat 0 else .ofNat 2)]/\(x=.nilp\/∃p,x=.ptr p 0)/\t=KL L2 n2 m2 false/\n<=n2/\∀j,j<n->wn L2 j=wn L j:=by
 refine qD (F:=f45) H.h45 rfl rfl (zvT rfl) ?_;have hcl:=λL n m b=>RY H.h62 L n m b;have hlen:=uf l;have hsum:=hl.sum;have hNN:=H.hN;obtain⟨R,hR⟩:∃R,Un P X l=R:=⟨_,rfl⟩;rw[hR];unfold f45 cF;simp only;refine wq ?_;refine wq ?_;refine wp (wp (wu ?_));apply wA;have hs0:StOk n ((n,some (Jo true).row)::L) (n+1) (Jo true):=⟨hw.cons (yK _) (zur _),wC _ _ _,λh=>absurd rfl h,λh=>absurd rfl h,(λy hy=>by cases hy),(λy hy=>by cases hy)⟩
 refine wP (λi:Nat=>zR l-i) (λi f t=>∃T L2 n2 m2,f=⟨tmL T,[]⟩/\t=KL L2 n2 m2 false/\G T 0 (.lst (zR l) false (wQ l))/\G T 6 (.ptr n 0)/\G T 13 (.lst (zR l) false (wQ l))/\G T 14 (zR l)/\G T 15 i/\i<=zR l/\StTo n ((n,some (Jo true).row)::L) (n+1) (Jo true) L2 n2 (Jo true)/\(l.take i).all (λd=>uq d&&plD d)=true) (λi f t hI=>?_) 0 ⟨_,_,_,_,rfl,rfl,sW,sW,sW,sW,sW,yz _,hs0.more hs0.wf (zX _) λ_ _=>rfl,rfl⟩;obtain⟨T,L2,n2,m2,rfl,rfl,t0,t6,t13,t14,t15,hi,k1,hal⟩:=hI;rcases wJ l i with ⟨hlt,hd⟩|⟨d,hlt,hd⟩
 .have hni:¬i<zR l:=J;rw[List.take_of_length_le hlt]at hal;have hRt:R=true:=by rw[<-hR];exact hal
  subst hRt;have hdc:∀d∈l,mI O d:=λd hdm=>by
   have h1:=List.all_eq_true.1 hal d hdm;rw[zU]at h1;have h2:=hl.nd d hdm;exact LY H.toVOrc _ d (yK _) J h1.1 (hl.tx.mem hdm)
  clear hR hal hcl;refine wu ?_;refine wp (qB ?_);refine wO (br H.h65 l hdc k1.ok (by simp only[Jo,xY];omega) (by simp only[Jo,xY];omega) _) λv t hv=>?_
  obtain⟨Y,vs,L3,n3,m3,S3,rfl,hvl,rfl,k3,hc1,hc2,hg⟩:=hv;have hrow:=k3.ok.row;have hsc:=ud 2 Y (zR vs);have hcc:=qp 2 Y (zR vs);have k4:=k1.trans k3;have hle:=k4.le;have hfr:∀j,j<n->wn L3 j=wn L j:=λj hj=>by
   rw[k4.fr j J J (λh=>absurd rfl h) (λh=>absurd rfl h),gN J]
  simp only[Sto.row]at hrow;have hsc':=hsc;simp only[vF]at hsc';generalize gSl 2 Y (zR vs)=sv at *;generalize gSl 5 S3.oid (zR S3.obs)=a1 at *;generalize gSl 2 S3.yid (zR S3.ys)=a2 at *;clear hg hvl k3 k4 hdc k1 hs0;have hfr2:=λj (hj:j<n)=>(hfr j hj).symm;clear hfr;refine wu ?_;refine ev_zc ?_;exact⟨.ptr n 0,_,n3,_,rfl,.inr ⟨n,rfl⟩,rfl,J,λj hj=>by rw[gN J];exact(hfr2 j hj).symm⟩
 .have hdm:d∈l:=zvY (by rw[hd];exact zvZ)
  have hnd:=hl.nd d hdm;have htd:=hl.tx.mem hdm;have hma:=λs=>Yp (f:=63) H.h63 htd hnd s;have hcx:=ZF hd;rw[<-vd]at hcx;have htk:l.take (i+1)=l.take i++[d]:=by
   rw[List.take_add_one,<-List.head?_drop,hd];rfl
  have hRf:(uq d&&plD d)=false->R=false:=λh=>by
   rw[<-hR];exact List.all_eq_false.2 ⟨d,hdm,by rw[h];simp⟩
  have k2:=k1.ok.new (some (.row 36 [(0:Nat),(0:Nat),.str [],.nils,(0:Nat)]));have hle:=k1.le;have hfr:∀j,j<n->wn L2 j=wn L j:=λj hj=>by
   rw[k1.fr j J J (λh=>absurd rfl h) (λh=>absurd rfl h),gN J]
  have hfr2:=λj (hj:j<n)=>(hfr j hj).symm;have k3:=λo=>(k1.trans k2).put2 (j:=n2) J (yK _) (k1.ok.fresh (zX _)) o;clear hfr hd;cases hmd:uq d with
  |false=>
   rw[hmd]at hma hRf;have:=hRf rfl;subst this;obtain⟨dk,dn,dt,ds,dp⟩:=d;simp only[wT]at hma hcx;clear hcl hRf k1 k2 k3 hs0 htk hmd;refine ev_zc ?_;exact⟨.nilp,_,n2+1,_,rfl,.inl rfl,rfl,J,λj hj=>by rw[gN J,gN J];exact(hfr2 j hj).symm⟩
  | true=>
   have hpc:=λs=>ry H.h64 H.hpl (d:=d) ⟨hmd,J⟩ s;rw[hmd]at hma hRf;cases hpd:plD d with
   |false=>
    rw[hpd]at hpc hRf;have:=hRf rfl;subst this;obtain⟨dk,dn,dt,ds,dp⟩:=d;simp only[wT]at hma hcx hpc;clear hcl hRf k1 k2 k3 hs0 htk hmd hpd;refine ev_zc ?_;exact⟨.nilp,_,n2+1,_,rfl,.inl rfl,rfl,J,λj hj=>by rw[gN J,gN J];exact(hfr2 j hj).symm⟩
   | true=>
    rw[hpd]at hpc;have hal2:(l.take (i+1)).all (λd=>uq d&&plD d)=true:=by
     rw[htk,List.all_append,hal];simp[hmd,hpd]
    obtain⟨dk,dn,dt,ds,dp⟩:=d;simp only[wT]at hma hcx hpc;clear hcl hRf hs0 htk hmd hpd hal hR hfr2;refine wu ?_;exact⟨i+1,⟨_,_,n2+1,_,rfl,rfl,V,V,V,V,V,J,k3 _,hal2⟩,J⟩
end
end Go.Proofs.YtbddpjboppmnfaaGreatDoor.Ev

/- Contracts of functions that IselErrors calls: what a call answers. No conditions. -/
import Derived.Test.YtbdfljdgapkbcaaGreatDoorWB
import Derived.Test.YtbdfljdgapkbcaaGreatDoorEvG
set_option linter.unusedSimpArgs false
set_option linter.unusedVariables false
set_option linter.defProp false
set_option maxHeartbeats 4000000
set_option linter.unusedSectionVars false
noncomputable section
open List renaming length → zM, length_cons → yw, length_nil → xN, length_append → yO, mem_cons_self → zua, mem_of_mem_drop → zv9, drop_eq_getElem_cons → zuo, append_nil → zv6, nil_append → zuc, getElem?_append_left → yP, dropWhile_sublist → zuK, getElem?_append_right → yZ, cons_append → yd, mem_cons → zul, dropWhile_cons → zuL
open Nat renaming le_of_ble_eq_true → zv4, le_refl → zS, zero_mod → zuk, or_zero → zum, zero_or → zun, lt_succ_self → yx, zero_le → yh, le_succ → zuC, lt_of_lt_of_le → zO, mul → zF, zero_add → y8, mul_one → xQ
open Bool renaming cond_self → zui, and_eq_true → zP, and_self → xO, true_and → y9, false_and → zv7
namespace Go.Proofs.YtbdfljdgapkbcaaGreatDoor.Ev
variable {L L2:za}{n sp n2 f i m dd t k nb:Nat}{O:Orc}{P:Program}{X:World}{l s r:zr}{cs:zt}{b:Bool}{v:Z}{d:DT}{tF:List (Nat×Z)}
open Nat (reduceEqDiff reduceLeDiff reduceLT reduceAdd reduceMul reduceSub reduceMod reducePow reduceDiv reduceOr reduceShiftLeft reduceGT reduceSucc)
open List (length_cons length_nil length_take length_drop)
open Int (reduceOfNat reduceNegSucc)
open T
set_option maxRecDepth 100000
attribute [local go_sem] we x9 wx Nat.or_zero Nat.zero_or Nat.zero_mod Bool.cond_self ltF gtF
def l6(c:Nat):Bool:=c==43||c==45
def sgC:zt:=(List.range 256).map λc=>.bool (l6 c)
def Kl:zM sgC=256:=by simp[sgC]
def ip:wo sgC=true:=by decide+kernel
def io:qQ sgC=256:=by rw[qw,Kl]
def iq:wO sgC=true:=by decide+kernel
def zvp:okV (.tup [.agg sgC,.bool true]) ((evT env noO 1000).call 199 [.str [43,45]] s0)=true:=by decide+kernel
def Cq:zt->U->zb:=vw (λ_:Unit=>[.str [43,45]]) (λ_=>True) (λ_=>.tup [.agg sgC,.bool true])
def CK(B:Bx P X)(hO:OrcOk P X O):vA P X 199 Cq:=
 XY false (λ_=>rfl) (λ_=>by simp only[uD,ww,uC,ip,uO,wA,xO]) λ_ _=>zyB (jb P X) B.mixed B.glob B.env zvp
def MX(h:O 199=some Cq)(st:U):(evW env O).call 199 [.str [43,45]] st=some (.tup [.agg sgC,.bool true],st):=by
 rw[qc h,Cq,vo (λ_ _ _=>rfl) st () trivial rfl]
def zwT{c:Nat}(hc:c<256):wE 1 (wX c sgC)=some [.bool (l6 c)]:=by
 rw[qe,zuo (by rw[Kl];exact hc)]
 show some [sgC[c]'(by rw[Kl];exact hc)]=_
 simp only[sgC,List.getElem_map,List.getElem_range]
def G9:∀{l vs:zt},zM l=zM vs->V1 l vs=some vs
 |[],[],_=>rfl
 |[],_::_,h=>by cases h
 |_::_,[],h=>by cases h
 |x::l,y::vs,h=>by
  have:=G9 (l:=l) (vs:=vs) (by simpa using h)
  simp only[V1,this]
def trL(p:Nat->Bool)(s:zr):zr:=s.dropWhile p
def HE(p:Nat->Bool)(x:Nat)(r:zr):trL p (x::r)=if p x=true then trL p r else x::r:=by
 simp only[trL,zuL]
def AE(p:Nat->Bool)(s:zr):(trL p s).length<=zM s:=(zuK p).length_le
section
variable {O:Orc}
attribute [local go_sem] GK Hu in
def zwk(h162:O 200=none)(h174:O 212=none){s:zr}(hb:Byt s)(hl:zM s<2000000){L:za}{p:Nat}(g:x3 L p=some (.row 241 sgC))(n m:Nat)(b:Bool):
  cl O 200 [.str s,.ptr p 0] (KL L n m b)=some (.str (trL l6 s),KL L n m b):=by
 have key:Cv (cl O 200 [.str s,.ptr p 0] (KL L n m b)) λr t=>r=.str (trL l6 s)/\t=KL L n m b:=by
  refine vf (F:=f200) h162 rfl rfl (zv4 rfl) ?_;have cc:∀(x n m:Nat) (b:Bool),x<256->cl O 212 [.ptr p 0,.int .u8 (.ofNat x)] (KL L n m b)=some (.bool (l6 x),KL L n m b):=λx n m b hx=>by
   have key:Cv (cl O 212 [.ptr p 0,.int .u8 (.ofNat x)] (KL L n m b)) λr t=>r=.bool (l6 x)/\t=KL L n m b:=by
    refine vf (F:=f212) h174 rfl rfl (zv4 rfl) ?_;have hld:=zwT hx;unfold f212 cF;simp only;generalize sgC=cs at *;refine ev_zc ?_;exact⟨rfl,rfl⟩
   obtain⟨r,t,h,rfl,rfl⟩:=key;exact h
  obtain⟨R,hR⟩:∃R,trL l6 s=R:=⟨_,rfl⟩;rw[hR];unfold f200 cF;simp only;refine xY ?_;apply xU;apply x4;refine wq (λt:zr=>t.length) (λt f t'=>∃T,f=⟨tmL T,[]⟩/\t'=KL L n 0 true/\G T 0 (.str t)/\G T 1 (.ptr p 0)/\trL l6 t=R/\Byt t/\t.length<2000000) (λt f t' hI=>?_) s ⟨_,rfl,rfl,sW,sW,hR,hb,hl⟩;clear hR hb hl s;obtain⟨T,rfl,rfl,t0,t1,hR,hb,hl⟩:=hI;cases t with
  |nil=>
   have hR:[]=R:=hR;subst hR;refine xX ?_;refine ev_zc ?_;exact⟨rfl,rfl⟩
  | cons x r=>
   have hx:=hb.cons.1;have hbr:=hb.cons.2;have hc:=λn m b=>cc x n m b hx;simp only[yw]at hl;rw[HE]at hR;clear cc hb;cases hd:l6 x with
   |true=>
    rw[wc hd]at hR;rw[hd]at hc;refine xX ?_;refine⟨r,⟨_,rfl,trivial,V,V,hR,hbr,J⟩,by simp⟩
   |false=>
    rw[x0 (by rw[hd];simp)]at hR
    subst hR;rw[hd]at hc;refine xX ?_;refine ev_zc ?_;exact⟨rfl,rfl⟩
 obtain⟨r,t,h,rfl,rfl⟩:=key;exact h
end
def LJ(s:zr):zt:=[.str s,.str [43,45]]
def BE:∀x y,LJ x=LJ y->x=y:=λx y h=>by
 simp only[LJ,qJ,Z.str.injEq,and_true]at h;exact h
def gTl:zt->U->zb:=vw LJ lF (λs=>.str (trL l6 s))
def zzJ(h:O 176=some gTl)(h1:lF s)(st:U):(evW env O).call 176 [.str s,.str [43,45]] st=some (.str (trL l6 s),st):=by
 rw[qc h,gTl,vo BE st s h1 rfl]
section
variable {P:Program}{X:World}(B:Bx P X){O:Orc}(hO:OrcOk P X O)
include B hO
attribute [local go_sem] io iq in
def zvv(h161:O 199=some Cq)(h162:O 200=none)(h174:O 212=none)(s:zr)(hs:lF s):∃s1,SC P X 176 (LJ s) (s00 0 true) (.str (trL l6 s)) s1:=by
 refine be B hO f176 ?_;have hmk:=λst=>MX (O:=O) h161 st;have hL:=λL p g n m b=> @zwk O h162 h174 s hs.1 hs.2 L p g n m b;have hov:∀l:zt,zM l=256->V1 l sgC=some sgC:=λl h=>G9 (by rw[h,Kl])
 unfold f176 cF;simp only[LJ];cases s with
 |nil=>
  refine xY ?_;refine ev_zc ?_;exact Mc _ _
 |cons c r=>
  have hpu:=ip;have hlc:=io;have hsc:=iq;generalize sgC=cs at *;generalize trL l6 (c::r)=R at *;refine xY ?_;refine xY ?_;refine xY ?_;refine ev_zc ?_;exact Mc _ _
end
def qY(n:Nat):zt:=[.int .u16 (.ofNat n)]
theorem Wq(n:Nat):(qY n).length=1:=rfl
theorem jo(n:Nat):wo (qY n)=true:=rfl
theorem K3(n:Nat):wO (qY n)=true:=rfl
def Fj(n:Nat):wkL (qY n)=qY n:=by simp only[qY,wkL,wkV]
def sF(l:zr):(xW qY l).length=zM l:=by rw[qK Wq];exact xQ _
def VB:∀{l r:zr},xW qY l=xW qY r->l=r
 |[],[],_=>rfl
 |[],_::_,h=>by cases h
 |_::_,[],h=>by cases h
 |x::l,y::r,h=>by
  simp only[xW,qY,yd,zuc,qJ,Z.int.injEq,true_and]at h;rw[VB h.2,Int.ofNat.inj h.1]
def v9(l:zr):Z:=.lst (zM l) false (xW qY l)
def HV(l:zr):zt:=[v9 l]
def FL:∀x y,HV x=HV y->x=y:=λx y h=>by
 simp only[HV,v9,qJ,Z.lst.injEq,true_and,and_true]at h;exact VB h.2
def BG(x:zr):wo (HV x)=true:=by simp only[HV,v9,ww,qn,wA,xO]
def Xy(l:zr):wkL (xW qY l)=xW qY l:=by
 induction l with
 |nil=>rfl
 |cons x r ih=>simp only[xW,qY,yd,zuc,wkL,wkV];rw[show xW qY r=xW qY r from rfl,ih]
def trR(p:Nat->Bool)(s:zr):zr:=(s.reverse.dropWhile p).reverse
def zzM(p:Nat->Bool)(u:zr)(x:Nat):trR p (u++[x])=if p x=true then trR p u else u++[x]:=by
 simp only[trR,List.reverse_append,List.reverse_cons,List.reverse_nil,zuc,List.singleton_append,zuL];split
 .rfl
 .simp
def zzN(p:Nat->Bool)(s:zr):(trR p s).length<=zM s:=by
 simp only[trR,List.length_reverse];have:=(zuK p (l:=s.reverse)).length_le
 simpa using this
def zzO{p:Nat->Bool}{x:Nat}(h:x∈trR p s):x∈s:=by
 simp only[trR,List.mem_reverse]at h;exact List.mem_reverse.1 ((zuK p).mem h)
def Fi(t:zr):t=[]\/∃u x,t=u++[x]:=by
 rcases List.eq_nil_or_concat t with h|⟨u,x,h⟩
 .exact .inl h
 .exact .inr ⟨u,x,by rw[h,List.concat_eq_append]⟩
def uU(l:zr):zr:=trR (λx=>x==0) l
def zzx(u:zr)(x:Nat):gG 1 (.lst (zM u+1) false (xW qY (u++[x]))) none (some (.int .i64 (.ofNat (zM u)))) none=some (.lst (zM u) false (xW qY u)):=by
 simp only[gG,HJ,bnd,show Nat.ble (zM u) (zM u+1)=true from wB.2 J,x6,zv7];rw[show tkN (zF (Nat.sub (zM u) 0) 1) (wX (zF 0 1) (xW qY (u++[x])))=xW qY u from ?_]
 .rfl
 .rw[show zF (Nat.sub (zM u) 0) 1=(zM u)from xQ _,show zF 0 1=0 from rfl];show tkN _ (wX 0 _)=_;rw[qe,gE,List.drop_zero,wQ];rw[List.take_left' (sF u)]
theorem Fv(u:zr)(x:Nat):wE 1 (wX (zM u) (xW qY (u++[x])))=some [.int .u16 (.ofNat x)]:=by
 rw[qe,wQ,List.drop_left' (sF u)];rfl
def zye{o:Nat}(hd:l.drop i=o::r):wE 1 (wX i (xW qY l))=some [.int .u16 (.ofNat o)]:=by
 have:=Jy Wq hd;rwa [xQ]at this
def UF:zt->U->zb:=vw HV (λl=>zM l<1000000000) (λl=>v9 (uU l))
def QZ(h:O 177=some UF)(hl:List.length l<1000000000)(hv:wkV v=v9 l)(s:U):(evW env O).call 177 [v] s=some (v9 (uU l),s):=by
 rw[qc h,UF,vo FL s l hl (by simp only[HV,wkL,hv])]
attribute [local go_sem] HV v9 in
def Rj(B:Bx P X)(hO:OrcOk P X O)(l:zr)(hl:List.length l<1000000000):∃s1,SC P X 177 (HV l) (s00 0 true) (v9 (uU l)) s1:=by
 refine be B hO f177 ?_;unfold f177 cF;obtain⟨R,hR⟩:∃R,uU l=R:=⟨_,rfl⟩;rw[hR];simp only[HV,v9];refine xY ?_;apply xU;apply x4;refine wq (λt:zr=>t.length) (λt f t'=>∃T,f=⟨tmL T,[]⟩/\t'=KL [] 0 0 true/\G T 0 (.lst t.length false (xW qY t))/\uU t=R/\t.length<1000000000) (λt f t' hI=>?_) l ⟨_,rfl,rfl,sW,hR,hl⟩;clear hR hl l;obtain⟨T,rfl,rfl,t0,hR,hl⟩:=hI;rcases Fi t with rfl|⟨u,x,rfl⟩
 .have hR:[]=R:=hR;subst hR;simp only[xN,xW]at t0;refine xX ?_;refine ev_zc ?_;exact pK rfl rfl
 .have hx:=Fv u x;have hs:=zzx u x;simp only[yO,yw,xN,y8]at hl t0 hs;unfold uU at hR;rw[zzM]at hR;by_cases h0:x=0
  .subst h0;simp only[beq_self_eq_true,if_true]at hR;generalize xW qY (u++[0])=cs at *;refine xX ?_;refine⟨u,⟨_,rfl,trivial,V,hR,J⟩,by simp⟩
  .rw[x0 (by simpa using h0)]at hR
   subst hR;have hp:wo (xW qY (u++[x]))=true:=wI jo _;have hw:=Xy (u++[x]);have hlen:(u++[x]).length=zM u+1:=by simp
   rw[hlen];generalize xW qY (u++[x])=cs at *;clear hlen;refine xX ?_;refine ev_zc ?_;exact pK hp hw
open Int renaming reduceOfNat → rO, reduceNegSucc → rN
def scF:zr->Nat->zr
 |[],c=>[c%65536]
 |x::r,c=>((c+x*10)%65536)::scF r ((c+x*10)/65536)
def Lim(l:zr):Prop:=∀x∈l,x<65536
def bJ:∀(l:zr) (c:Nat),(scF l c).length=zM l+1
 |[],_=>rfl
 |_::r,_=>by simp only[scF,yw,bJ r]
def As:∀(l:zr) (c:Nat),Lim (scF l c)
 |[],c=>λx hx=>by simp only[scF,zul,List.not_mem_nil,or_false]at hx;omega
 |y::r,c=>λx hx=>by
  simp only[scF,zul]at hx;rcases hx with rfl|hx
  .omega
  .exact As r _ x hx
def Zx(x:zr×Nat):zt:=[v9 x.1,.int .u32 (.ofNat 10),.int .u32 (.ofNat x.2)]
def nu:∀x y,Zx x=Zx y->x=y:=λ⟨a,b⟩ ⟨c,d⟩ h=>by
 simp only[Zx,v9,qJ,Z.lst.injEq,Z.int.injEq,true_and,and_true]at h;rw[VB h.1.2,Int.ofNat.inj h.2]
def dR(x:zr×Nat):wo (Zx x)=true:=by simp only[Zx,v9,ww,qn,qL,wA,xO]
def iS(x:zr×Nat):Prop:=Lim x.1/\zM x.1<100000000/\x.2<65536
theorem zz5(a:Nat):vK .u16 (.ofNat a)=.ofNat (a%65536):=by
 rw[lE];unfold IntKind.wrap;simp only[IntKind.signed,zv7,Bool.false_eq_true,if_false];rfl
theorem zvs(a:Nat):uc .shr .u32 (.ofNat a) .u64 (.ofNat 16)=some (.int .u32 (.ofNat (a/65536))):=by
 show some (Z.int .u32 (Int.fdiv (.ofNat a) (.ofNat 65536)))=_;cases a<;>rfl
def Mj:zt->U->zb:=vw Zx iS (λx=>v9 (scF x.1 x.2))
def OJ(h:O 178=some Mj){c:Nat}(hp:iS (l,c))(hv:wkV v=v9 l)(s:U):(evW env O).call 178 [v,.int .u32 (.ofNat 10),.int .u32 (.ofNat c)] s=some (v9 (scF l c),s):=by
 rw[qc h,Mj,vo nu s (l,c) hp (by simp only[Zx,wkL,hv,wkV])]
attribute [local go_sem] Zx v9 zz5 zvs in
def zx9(B:Bx P X)(hO:OrcOk P X O)(x:zr×Nat)(hx:iS x):∃s1,SC P X 178 (Zx x) (s00 0 true) (v9 (scF x.1 x.2)) s1:=by
 refine be B hO f178 ?_;obtain⟨l,c⟩:=x;obtain⟨hlim,hl,hc⟩:=hx;simp only at hlim hl hc|-;obtain⟨R,hR⟩:∃R,scF l c=R:=⟨_,rfl⟩;rw[hR];unfold f178 cF;simp only[Zx,v9];refine xY ?_;refine xY ?_;refine xU (xU (xX ?_));apply x4;refine wq (λi:Nat×Nat×zr=>zM l-i.1) (λi f t=>∃T L n m Y,f=⟨tmL T,[]⟩/\t=KL L n m true/\G T 1 (.int .u32 (.ofNat 10))/\G T 2 (.int .u32 (.ofNat i.2.1))/\G T 7 (kA qY 1 Y i.2.2)/\G T 10 (.lst (zM l) false (xW qY l))/\G T 11 (zM l)/\G T 12 i.1/\i.1<=zM l/\i.2.1<65536/\zM i.2.2=i.1/\Jb 246 qY L n Y i.2.2/\i.2.2++scF (l.drop i.1) i.2.1=R) (λi f t hI=>?_) (0,c,[]) ⟨_,_,_,_,0,rfl,rfl,sW,sW,by simp (disch:=first|exact dis|fail)only[go_sem,seval,-rO,-rN,kA],sW,sW,sW,yh _,hc,rfl,λh=>absurd rfl h,hR⟩
 clear hR hc c;obtain⟨T,L,n,m,Y,rfl,rfl,t1,t2,t7,t10,t11,t12,hi,hc,hol,hok,hR⟩:=hI;obtain⟨i,c,out⟩:=i;simp only at t2 t7 t12 hi hc hol hok hR|-;rcases wj l i with ⟨hlt,hd⟩|⟨x,hlt,hd⟩
 .rw[hd]at hR;simp only[scF]at hR;have hni:¬i<zM l:=J;refine xX ?_;apply xU;refine wi ?_;refine xZ (hZ Wq jo K3 J hok (ws:=[c%65536]) (by simp only[yw,xN];omega) (by simp only[yw,xN];omega)) λv t hv=>?_
  obtain⟨id2,L2,n2,m2,rfl,rfl,_⟩:=hv;rw[hR];obtain⟨v0,hf,hz⟩:=VH (esz:=1) (Y:=id2) (s:=KL [] 0 0 true) jo Fj R;refine xX ?_;refine ev_zc ?_;exact hz
 .have hx:=hlim x (zv9 (by rw[hd];exact zua))
  have hcx:=zye hd;rw[hd]at hR;simp only[scF]at hR;refine xY ?_;refine xU (wV sW ?_);refine xX ?_;refine xU (x4 ?_);refine xY ?_;refine xY ?_;apply xU;refine wi ?_;refine xZ (hZ Wq jo K3 J hok (ws:=[(c+x*10)%65536]) (by simp only[yw,xN];omega) (by simp only[yw,xN];omega)) λv t hv=>?_
  obtain⟨id2,L2,n2,m2,rfl,rfl,q1,_⟩:=hv;refine xX ?_;refine xX ?_;refine xX ?_;exact⟨(i+1,(c+x*10)/65536,out++[(c+x*10)%65536]),⟨_,_,_,_,id2,rfl,rfl,V,V,V,V,V,V,by simp only;omega,by simp only;omega,by simp only[yO,yw,xN];omega,q1,by rw[List.append_assoc];exact hR⟩,by simp only;omega⟩
def Qc(x:Bool×zr):zt:=[.bool x.1,v9 x.2]
def BF:∀x y,Qc x=Qc y->x=y:=λ⟨a,b⟩ ⟨c,d⟩ h=>by
 simp only[Qc,v9,qJ,Z.lst.injEq,Z.bool.injEq,true_and,and_true]at h;rw[VB h.2.2,h.1]
def nv(x:Bool×zr):wo (Qc x)=true:=by simp only[Qc,v9,ww,qn,uO,wA,xO]
def JQ(b:Bool)(l:zr):Bool:=b&&decide (0<(uU l).length)
def u4(b:Bool)(l:zr):Z:=.agg [.bool b,v9 l]
def sO:zt->U->zb:=vw Qc (λx=>zM x.2<1000000000) (λx=>u4 (JQ x.1 x.2) (uU x.2))
def U7(l:zr):(uU l).length<=zM l:=zzN _ l
def Ed(h:Lim l):Lim (uU l):=λx hx=>h x (zzO hx)
def D2(h:O 179=some sO)(hl:List.length l<1000000000)(hv:wkV v=v9 l)(s:U):(evW env O).call 179 [.bool b,v] s=some (u4 (JQ b l) (uU l),s):=by
 rw[qc h,sO,vo BF s (b,l) hl (by simp only[Qc,wkL,hv,wkV])]
def nO{s:U}:Fz s (.agg [.bool b,.lst (zM l) false (xW qY l)]) (u4 b l):=
 GE (qa (qj _ _) (qa (pK (wI jo _) (Xy _)) js))
attribute [local go_sem] Qc v9 in
def zzI(B:Bx P X)(hO:OrcOk P X O)(h139:O 177=some UF)(x:Bool×zr)(hl:List.length x.2<1000000000):∃s1,SC P X 179 (Qc x) (s00 0 true) (u4 (JQ x.1 x.2) (uU x.2)) s1:=by
 refine be B hO f179 ?_;obtain⟨b,l⟩:=x;have ht:=λs=>QZ h139 hl (v:=v9 l) (by simp only[v9,wkV,Xy]) s
 simp only at hl ht;unfold f179 cF;simp only[Qc,v9,JQ]at ht|-;have hp:wo (xW qY (uU l))=true:=wI jo _;generalize uU l=r at *;cases b with
 |false=>
  refine ev_zc ?_;exact nO
 |true=>
  rw[y9];by_cases h0:0<r.length
  .rw[qp h0];refine ev_zc ?_;exact nO
  .rw[qb h0];refine ev_zc ?_;exact nO
def UX:zr->zr->zr
 |[],l=>l
 |c::r,l=>UX r (uU (scF l (c-48)))
def fN:∀(s l:zr),(UX s l).length<=zM l+zM s
 |[],_=>by simp[UX]
 |c::r,l=>by
  have h1:=fN r (uU (scF l (c-48)));have h2:=U7 (scF l (c-48));have h3:=bJ l (c-48);simp only[UX,yw];omega
def ngF:zr->Bool
 |[]=>false
 |c::_=>decide (c=45)
def oI(s:zr):Z:=.tup [u4 (JQ (ngF s) (UX (trL l6 s) [])) (uU (UX (trL l6 s) [])),(0:Nat)]
def Mg:zt->U->zb:=vw kh (λs=>lF s/\YD s=true) oI
def zxI(h:YD s=true):∃x r,trL l6 s=x::r/\(x::r).all uR=true/\List.length s<=r.length+2/\r.length+1<=List.length s:=by
 have key:∀(c:Nat) (r:zr),(c::r).all uR=true->trL l6 (c::r)=c::r:=λc r h=>by
  rw[HE,x0];intro h2;simp only[List.all_cons,uR,zP,jm]at h;simp only[l6,Bool.or_eq_true,beq_iff_eq]at h2;omega
 cases s with
 |nil=>cases h
 | cons c r=>
  simp only[YD,ku]at h;by_cases hc:c=45
  .rw[wc hc]at h;cases r with
   |nil=>cases h
   |cons x r=>
    simp only[zP]at h;refine⟨x,r,?_,h.2,by simp,by simp⟩
    rw[HE,wc (by rw[hc];rfl)]
    exact key x r h.2
  .rw[x0 hc]at h;simp only[zP]at h;exact⟨c,r,key c r h.2,h.2,by simp,by simp⟩
section
variable {P:Program}{X:World}(B:Bx P X){O:Orc}(hO:OrcOk P X O)
include B hO
attribute [local go_sem] kh v9 u4 GK in
def zxT(h138:O 176=some gTl)(h139:O 177=some UF)(h140:O 178=some Mj)(h141:O 179=some sO)(s:zr)(hs:lF s)(hn:YD s=true):∃s1,SC P X 148 (kh s) (s00 0 true) (oI s) s1:=by
 refine be B hO f148 ?_;have htl:=λst=>zzJ h138 hs st;obtain⟨x,r,ht,hdig,hl1,hl2⟩:=zxI hn;obtain⟨hby,hlen⟩:=hs;obtain⟨R,hR⟩:∃R,oI s=R:=⟨_,rfl⟩;rw[hR];unfold oI at hR;rw[ht]at htl hR;have hlb:(trL l6 s).length<=zM s:=AE _ _;rw[ht]at hlb;have hltlen:(x::r).length<2000000:=J;have hd1:∀y∈x::r,48<=y/\y<=57:=λy hy=>by
  have:=List.all_eq_true.1 hdig y hy
  simpa [uR]using this
 unfold f148 cF;simp only[kh];obtain⟨c,q,rfl⟩:∃c q,s=c::q:=by
  cases s with
  |nil=>cases hn
  |cons c q=>exact⟨c,q,rfl⟩
 simp only[yw]at hl1 hl2;have hsub:¬(q.length+1-(r.length+1))>1:=J;refine xY ?_;refine xY ?_;refine xY ?_;refine xY ?_;refine xU (xU (xX ?_));apply x4;have hlr:r.length+1=(x::r).length:=rfl;have hbr:Z.int .u8 (.ofNat x)::wK r=wK (x::r):=rfl;rw[hlr,hbr];clear hlr hbr htl ht hl1 hl2 hlb hdig hsub hn hby;generalize x::r=D at *;refine wq (λy:Nat×zr=>zM D-y.1) (λy f t=>∃T v,f=⟨tmL T,[]⟩/\t=KL [(0,some (AObj.row 173 [Z.bool false,Z.nils]))] 1 0 true/\G T 0 (.str (c::q))/\G T 2 (.ptr 0 0)/\G T 5 v/\G T 22 (.lst (zM D) false (wK D))/\G T 23 (zM D)/\G T 24 y.1/\wkV v=v9 y.2/\y.1<=zM D/\UX (D.drop y.1) y.2=UX D []/\Lim y.2/\zM y.2<=y.1) (λy f t hI=>?_) (0,[]) ⟨_,.nils,rfl,rfl,sW,sW,sW,sW,sW,sW,rfl,yh _,rfl,(λy hy=>(by cases hy)),zS _⟩
 obtain⟨T,v,rfl,rfl,t0,t2,t5,t22,t23,t24,hv,hi,hp,hlim,hll⟩:=hI;obtain⟨i,l⟩:=y;simp only at t24 hv hi hp hlim hll|-;rcases wj D i with ⟨hlt,hd⟩|⟨y,hlt,hd⟩
 .have hni:¬i<zM D:=J;rw[hd]at hp;simp only[UX]at hp;rw[<-hp]at hR;have htd:=λb s=>D2 h141 (b:=b) (l:=l) J hv s;subst hR;simp only[ngF,u4,v9]at htd|-;have hp1:wo (xW qY (uU l))=true:=wI jo _;have hw1:wkL (xW qY (uU l))=xW qY (uU l):=Xy _;have hfin:∀(s:U) (b:Bool) (k:Nat) (cs:zt),wo cs=true->wkL cs=cs->Fz s (.tup [.agg [.bool b,.lst k false cs],(0:Nat)]) (.tup [.agg [.bool b,.lst k false cs],(0:Nat)]):=λs b k cs h1 h2=>by
   simp only[Fz];exact⟨_,rfl,qa (GE (qa (qj _ _) (qa (pK h1 h2) js))) (qa (wT _ _ _) js)⟩
  clear hv hp hlim hd hlt;by_cases hc:c=45
  .subst hc;simp only[decide_true];replace htd:=λs=>htd true s;generalize JQ true l=tb at *;generalize xW qY (uU l)=cs at *;refine xX ?_;refine ev_zc ?_;exact hfin _ _ _ _ hp1 hw1
  .have hdc:decide (c=45)=false:=qb hc;rw[hdc];replace htd:=λs=>htd false s;generalize JQ false l=tb at *;generalize xW qY (uU l)=cs at *;refine xX ?_;refine ev_zc ?_;exact hfin _ _ _ _ hp1 hw1
 .have hb:wE 1 (wK (D.drop i))=some [.int .u8 (.ofNat y)]:=by rw[hd];rfl
  have hy:=hd1 y (zv9 (by rw[hd];exact zua))
  obtain⟨hy1,hy2⟩:=hy;rw[hd]at hp;simp only[UX]at hp;have hsl:=bJ l (y-48);have hsm:=As l (y-48);have hsc:=λs=>OJ h140 (l:=l) (c:=y-48) ⟨hlim,by simp only;omega,by simp only;omega⟩ hv s
  have htr:=λs=>QZ h139 (l:=scF l (y-48)) J (v:=v9 (scF l (y-48))) (by simp only[v9,wkV,Xy]) s
  have htl:=U7 (scF l (y-48));have htm:=Ed hsm;simp only[v9]at hsc htr;rw[hsl]at htr;have hny:¬y<48:=J;have hny2:¬57<y:=J;clear hv hlim hd hsm;refine xX ?_;refine⟨(i+1,uU (scF l (y-48))),⟨_,.lst (uU (scF l (y-48))).length false (xW qY (uU (scF l (y-48)))),rfl,trivial,V,V,V,V,V,V,by simp only[v9,wkV,Xy],by simp only;omega,hp,htm,by simp only;omega⟩,by simp only;omega⟩
end
def Hv:zr×ICode×ICode:=match f202.body with
 |.seq _ (.seq _ (.seq _ (.seq _ (.seq (.seq _ (.block _ (.rf _ ps a b))) _))))=>(ps,a,b)
 |_=>([],.skip,.skip)
def zva(a b:Int):∃w,uc .or .u64 a .u64 b=some (.int .u64 w):=⟨_,rfl⟩
def zwc(a:Int):∃w,uc .shl .u64 a .u64 (.ofNat 16)=some (.int .u64 w):=⟨_,rfl⟩
section
variable {O:Orc}
def E6(h:O 215=none){l:zr}{L:za}{n m:Nat}(b:Bool):
  Cv (cl O 215 [.lst (zM l) false (xW qY l)] (KL L n m b)) λv t=>∃m2,v=.fn 219 [] [.ptr n 0]/\t=KL ((n,some (.row 171 [.lst (zM l) false (xW qY l)]))::L) (n+1) m2 b:=by
 refine wp (F:=f215) h rfl rfl (zv4 rfl) ?_;unfold f215 cF;simp only;refine xY ?_;refine xY ?_;refine ev_zc ?_;exact⟨_,rfl,rfl⟩
attribute [local go_sem] Hv f202 in
def AQ(h181:O 219=none){ab l:Nat}{ls:zr}{z:Int}(hl:zM ls<1000000)(gnb:x3 L nb=some (.row 171 [.lst (zM ls) false (xW qY ls)]))(gl:x3 L l=some (.loop .ready none (tmL tF) Hv.1 Hv.2.1 Hv.2.2 dd))(t5:G tF 5 (.ptr ab 0))(gab:x3 L ab=some (.row 154 [.int .u64 z]))(h1:nb≠ab/\nb≠l/\ab≠l)(b:Bool):
  Cv (cl O 219 [.yld l,.ptr nb 0] (KL L n m b)) λv t=>∃z2 L2 m2,t=KL L2 n m2 b/\x3 L2 l=some (.loop .ready none (tmL tF) Hv.1 Hv.2.1 Hv.2.2 dd)/\x3 L2 ab=some (.row 154 [.int .u64 z2])/\∀j,j≠ab->j≠l->x3 L2 j=x3 L j:=by
 refine wp (F:=f219) h181 rfl rfl (zv4 rfl) ?_;have hs3:=U3 (k:=zM ls) J;unfold f219 cF;simp only;refine xY ?_;apply x4;refine wq (λk:Nat=>k) (λk fr s=>∃T L2 m2 z2,fr=⟨tmL T,[]⟩/\s=KL L2 n m2 false/\G T 0 (.yld l)/\G T 1 (.ptr nb 0)/\G T 3 (.int .i64 (i3 k))/\k<=zM ls/\x3 L2 l=some (.loop .ready none (tmL tF) Hv.1 Hv.2.1 Hv.2.2 dd)/\x3 L2 ab=some (.row 154 [.int .u64 z2])/\∀j,j≠ab->j≠l->x3 L2 j=x3 L j) (λk2 fr s hI=>?_) (zM ls) ⟨_,L,m,z,rfl,rfl,sW,sW,sW,J,gl,gab,λ_ _ _=>rfl⟩;obtain⟨T,L2,m2,z2,rfl,rfl,q0,q1,q3,hk3,gl2,gab2,hfr⟩:=hI;have gnb2:x3 L2 nb=some (.row 171 [.lst (zM ls) false (xW qY ls)]):=by rw[hfr nb h1.1 h1.2.1];exact gnb
 cases k2 with
 |zero=>
  simp only[i3]at q3;clear gnb gab hs3 gl;refine ev_zc ?_;exact⟨z2,L2,m2,rfl,gl2,gab2,hfr⟩
 |succ k2=>
  have hlt:k2<zM ls:=J;obtain⟨x,hd⟩:∃x,ls.drop k2=x::ls.drop (k2+1):=⟨_,zuo hlt⟩;have hcx:=zye hd;have hs2:=U3 (k:=k2) J;obtain⟨w1,hw1⟩:=zwc z2;obtain⟨w2,hw2⟩:=zva w1 (vK .u64 (.ofNat x));obtain⟨e1,e2,e3⟩:=h1;clear gnb gab hs3 gl hd;simp only[i3]at q3;have e4:=e3.symm;replace hfr:=λj h1 h2=>(hfr j h1 h2).symm;refine xX ?_;refine⟨k2,⟨_,_,_,w2,rfl,rfl,V,V,V,J,V,V,λj h1 h2=>?_⟩,J⟩
  (repeat (rw[gN J]))
  exact(hfr j h1 h2).symm
end
section
variable {α:Type}
open Classical in
def exV(P:Program)(X:World)(f:Nat)(enc:α->zt)(Good:α->Z->Prop)(x:α):Z:=
 if h:∃v,Good x v/\wC v=true/\∃s1,SC P X f (enc x) (s00 0 true) v s1 then Classical.choose h else .bool true
def vW(P:Program)(X:World)(f:Nat)(enc:α->zt)(Pre:α->Prop)(Good:α->Z->Prop):Prop:=∀x,Pre x->∃v,Good x v/\wC v=true/\∃s1,SC P X f (enc x) (s00 0 true) v s1
def uM(P:Program)(X:World)(f:Nat)(enc:α->zt)(Pre:α->Prop)(Good:α->Z->Prop):zt->U->zb:=vw enc Pre (exV P X f enc Good)
def Xw{enc:α->zt}{Good:α->Z->Prop}{x:α}(h:∃v,Good x v/\wC v=true/\∃s1,SC P X f (enc x) (s00 0 true) v s1):Good x (exV P X f enc Good x)/\wC (exV P X f enc Good x)=true/\∃s1,SC P X f (enc x) (s00 0 true) (exV P X f enc Good x) s1:=by
 unfold exV;rw[dif_pos h];exact Classical.choose_spec h
theorem Cf{enc:α->zt}{Pre:α->Prop}{Good:α->Z->Prop}(he:∀x,wo (enc x)=true)(h:vW P X f enc Pre Good):vA P X f (uM P X f enc Pre Good):=by
 refine XY true he (λx=>?_) λx hp=>(Xw (h x hp)).2.2;by_cases hx:∃v,Good x v/\wC v=true/\∃s1,SC P X f (enc x) (s00 0 true) v s1
 .exact(Xw hx).2.1
 .unfold exV;rw[dif_neg hx];rfl
def vS{enc:α->zt}{Pre:α->Prop}{Good:α->Z->Prop}(hO:O f=some (uM P X f enc Pre Good))(h:vW P X f enc Pre Good)(inj:∀x y,enc x=enc y->x=y)(x:α)(hp:Pre x){args:zt}(ha:wkL args=enc x):∃v,Good x v/\wC v=true/\∀s,cl O f args s=some (v,s):=
 ⟨exV P X f enc Good x,(Xw (h x hp)).1,(Xw (h x hp)).2.1,λs=>oc hO inj x hp ha s⟩
end
def beX(B:Bx P X)(hO:OrcOk P X O){f:Nat}(F:IFunc){args:zt}{G:Z->Prop}(h:Ev (evC env (evW env O) none F.body ⟨qk (tmL []) 0 args,[]⟩ (KL [] 0 0 true)) λr fr t=>Cv (Xd (KL [] 0 0 true) (qv env.globs F.res (some (r,fr,t)))) λv0 s1=>∃v,G v/\wC v=true/\Fz s1 v0 v)(hF:env.funs.get f=some F:=by exact rfl)(hp:env.pure f=true:=by exact rfl)(ha:List.length args<=F.ntmps:=by exact Nat.le_of_ble_eq_true rfl):∃v,G v/\wC v=true/\∃s1,SC P X f args (s00 0 true) v s1:=by
 obtain⟨r,fr,t,e,v0,s1,e2,v,hg,hpu,hz⟩:=h;exact⟨v,hg,hpu,be B hO F ⟨r,fr,t,e,v0,s1,e2,hz⟩ hF hp ha⟩
def zvH(B:Bx P X)(hO:OrcOk P X O){f:Nat}(F:IFunc){args:zt}{G:Z->Prop}(h:Ev (evC env (evW env O) none F.body ⟨qk (tmL []) 0 args,[]⟩ (KL [] 0 0 false)) λr fr t=>Cv (mdR true (qv env.globs F.res (some (r,fr,t)))) λv0 s1=>∃v,G v/\wC v=true/\Fz s1 v0 v)(hF:env.funs.get f=some F:=by exact rfl)(hp:env.pure f=false:=by exact rfl)(ha:List.length args<=F.ntmps:=by exact Nat.le_of_ble_eq_true rfl):∃v,G v/\wC v=true/\∃s1,SC P X f args (s00 0 true) v s1:=by
 obtain⟨r,fr,t,e,v0,s1,e2,v,hg,hpu,hz⟩:=h;exact⟨v,hg,hpu,bew B hO F ⟨r,fr,t,e,v0,s1,e2,hz⟩ hF hp ha⟩
def jx(x:Bool×zr):zt:=[u4 x.1 x.2]
def LB:∀x y,jx x=jx y->x=y:=λ⟨a,b⟩ ⟨c,d⟩ h=>by
 simp only[jx,u4,v9,qJ,Z.lst.injEq,Z.bool.injEq,Z.agg.injEq,true_and,and_true]at h;rw[VB h.2.2,h.1]
def Xs(b:Bool)(l:zr):wC (u4 b l)=true:=by simp only[u4,v9,uC,ww,qn,uO,wA,xO]
def Gj(x:Bool×zr):wo (jx x)=true:=by simp only[jx,ww,Xs,wA,xO]
def LI(b:Bool)(l:zr):wkV (u4 b l)=u4 b l:=by simp only[u4,v9,wkV,wkL,Xy]
def GSm(_:Bool×zr)(v:Z):Prop:=∃k b,v=.tup [.int .i64 k,.bool b]
def ZH(x:Bool×zr):Prop:=zM x.2<100000000
def YO{s:U}(k:Int)(b:Bool):∃v,(∃k b,v=Z.tup [.int .i64 k,.bool b])/\wC v=true/\Fz s (.tup [.int .i64 k,.bool b]) v:=by
 refine⟨_,⟨k,b,rfl⟩,rfl,?_⟩;simp only[Fz];exact⟨_,rfl,qa (wT _ _ _) (qa (qj _ _) js)⟩
section
variable {P:Program}{X:World}(B:Bx P X){O:Orc}(hO:OrcOk P X O)
include B hO
section
attribute [local go_sem] v9 u4
def OX(h139:O 177=some UF)(h177:O 215=none)(h181:O 219=none):vW P X 202 jx ZH GSm:=by
 intro x hx;refine beX B hO f202 ?_;obtain⟨g,l⟩:=x;have hx:zM l<100000000:=hx;have htr:=λs=>QZ h139 (l:=l) J (v:=v9 l) (by simp only[v9,wkV,Xy]) s
 have hbw:=λ(ls:zr) L n m b=> @E6 O h177 ls L n m b;simp only[jx,u4,v9]at htr|-;generalize uU l=ls at *;unfold f202 cF;simp only;by_cases h4:4<zM ls
 .refine xY ?_;refine xY ?_;refine xY ?_;refine qz ?_;exact YO _ _
 .refine xY ?_;refine xY ?_;refine xY ?_;refine xY ?_;refine xU (xU (wi ?_));refine xZ (hbw ls _ _ _ _) λv t hv=>?_;obtain⟨m2,rfl,rfl⟩:=hv;refine xX ?_;apply x4;refine wi ?_;refine In (AQ h181 (ls:=ls) (ab:=1) (z:=.ofNat 0) J ?_ (x8 _ _ _) ?_ ?_ ?_ _) λv t hv=>?_
  .simp (disch:=first|exact dis|fail)only[go_sem,seval,-rO,-rN]
  .simp (disch:=first|exact dis|fail)only[go_sem,seval,-rO,-rN]
  .simp (disch:=first|exact dis|fail)only[go_sem,seval,-rO,-rN]
  .simp (disch:=first|exact dis|fail)only[go_sem,seval,-rO,-rN]
  obtain⟨z2,L2,m3,rfl,gl,gz,hfr⟩:=hv;simp only[Hv,f202]at gl;have gdf:=hfr 3 J J;have g0:=hfr 0 J J;simp (disch:=first|exact dis|fail)only[go_sem,seval,-rO,-rN]at gdf
  simp (disch:=first|exact dis|fail)only[go_sem,seval,-rO,-rN]at g0
  clear hfr hbw htr;refine xX ?_;obtain⟨w,hw⟩:∃w,vUn .neg (.int .u64 z2)=some (.int .u64 w):=⟨_,rfl⟩;cases g with
  | true=>
   cases c1:ltD (.ofNat 9223372036854775808) z2 with
   |false=>
    refine xY ?_;rw[kf (by (repeat rw[x5,x0 J]);exact gdf)]
    refine qz ?_;exact YO _ _
   |true=>
    refine xY ?_;refine xX ?_;rw[kf (by (repeat rw[x5,x0 J]);exact gdf)]
    refine qz ?_;exact YO _ _
  | false=>
   cases c1:ltD (.ofNat 9223372036854775807) z2 with
   |false=>
    refine xY ?_;rw[kf (by (repeat rw[x5,x0 J]);exact gdf)]
    refine qz ?_;exact YO _ _
   |true=>
    refine xY ?_;refine xX ?_;rw[kf (by (repeat rw[x5,x0 J]);exact gdf)]
    refine qz ?_;exact YO _ _
def zxt(h164:O 202=some (uM P X 202 jx ZH GSm))(hs:vW P X 202 jx ZH GSm):vW P X 180 jx ZH GSm:=by
 intro x hx;refine beX B hO f180 ?_;obtain⟨v,⟨k,g2,rfl⟩,hpv,hcall⟩:=vS h164 hs LB x hx (args:=jx x) (by simp only[jx,wkL,LI])
 obtain⟨g,l⟩:=x;simp only[jx,u4,v9]at hcall|-;unfold f180 cF;simp only;cases g2 with
 |false=>
  refine xY ?_;refine xY ?_;refine xY ?_;refine qz ?_;exact YO _ _
 | true=>
  cases c1:ltD k (.negSucc 536870911)with
  |true=>
   refine xY ?_;refine xY ?_;refine xY ?_;refine qz ?_;exact YO _ _
  | false=>
   cases c2:ltD (.ofNat 536870911) k with
   |true=>
    refine xY ?_;refine xY ?_;refine xY ?_;refine qz ?_;exact YO _ _
   |false=>
    refine xY ?_;refine xY ?_;refine xY ?_;refine xX ?_;refine qz ?_;exact YO _ _
end
end
structure Vl where
 k:Int
 n:Int
def wa(v:Vl):zt:=[.int .i64 v.k,.int .i64 v.n]
theorem ud(v:Vl):(wa v).length=2:=rfl
theorem jU(v:Vl):wo (wa v)=true:=rfl
theorem jV(v:Vl):wO (wa v)=true:=rfl
def Wr(v:Vl):wkL (wa v)=wa v:=by simp only[wa,wkL,wkV]
def mD:∀x y:Vl,wa x=wa y->x=y:=λ⟨a,b⟩ ⟨c,d⟩ h=>by
 simp only[wa,qJ,Z.int.injEq,true_and,and_true]at h;rw[h.1,h.2]
def eo{l r:List Vl}(h:xW wa l=xW wa r):l=r:=ZO (k:=2) ud J mD h
def sG(l:List Vl):wkL (xW wa l)=xW wa l:=vT Wr l
def WA(l:List Vl):wo (xW wa l)=true:=wI jU l
def Gw(l:List Vl):(xW wa l).length=zM l*2:=qK ud l
def qB(l:List Vl):Z:=.lst (zM l) false (xW wa l)
def kO(l:List Vl):wC (qB l)=true:=by simp only[qB,qn]
def GZ(l:List Vl):wkV (qB l)=qB l:=by simp only[qB,wkV,sG]
def Xo{l:List Vl}{o:Vl}{r:List Vl}(hd:l.drop i=o::r):wE 2 (wX (i*2) (xW wa l))=some (wa o):=Jy ud hd
def jq(t:zr):List Vl:=((vP t).getD []).map λc=>⟨.ofNat 2,.ofNat c⟩
def Qt{t:zr}(h:vP t=some l):List.length l<=t.length:=by
 unfold vP at h;split at h
 .rename_i l2 h2
  have:=Vb (b:=t) (by simp) (by simp) h2
  simp only[x7]at h;rw[<-h,List.length_map];exact this
 .cases h
def K6(t:zr):(jq t).length<=t.length:=by
 unfold jq;rw[List.length_map];cases h:vP t with
 |none=>simp
 |some l=>simpa using Qt h
def QH:zt->U->zb:=vw kh lF (λt=>qB (jq t))
def Yp(h:O f=some QH){t:zr}(hp:lF t)(s:U):(evW env O).call f [.str t] s=some (qB (jq t),s):=by
 rw[qc h,QH,vo pH s t hp rfl]
theorem zyd{o:Nat}(hd:l.drop i=o::r):wE 1 (wX i (jp l))=some [.int .i64 (.ofNat o)]:=by
 rw[dv,hd];rfl
section
variable {P:Program}{X:World}(B:Bx P X){O:Orc}(hO:OrcOk P X O)
include B hO
attribute [local go_sem] kh qB in
def Fl(h109:O 147=some XQ)(t:zr)(hp:lF t):∃s1,SC P X 151 (kh t) (s00 0 true) (qB (jq t)) s1:=by
 refine be B hO f151 ?_;have hcc:=λs=>Yq (f:=147) h109 hp.1 hp.2 s;have hlen:=hp.2;have hcr:∃l er,jH t=.tup [.lst (zM l) false (jp l),.int .i64 (.ofNat er)]/\jq t=l.map (λc=>⟨.ofNat 2,.ofNat c⟩)/\zM l<=t.length:=by
  unfold jH jq;cases h:vP t with
  |none=>exact⟨[],4,rfl,rfl,by simp⟩
  |some l=>exact⟨l,0,rfl,rfl,Qt h⟩
 obtain⟨l,er,h1,h2,hl⟩:=hcr;rw[h1]at hcc;rw[h2];obtain⟨R,hR⟩:∃R,l.map (λc=>(⟨.ofNat 2,.ofNat c⟩:Vl))=R:=⟨_,rfl⟩;rw[hR];clear h1 h2;unfold f151 cF;simp only[kh,qB];refine xY ?_;refine xY ?_;refine xU (xU (xX ?_));apply x4;refine wq (λx:Nat×List Vl=>zM l-x.1) (λx f t=>∃T L n m Y,f=⟨tmL T,[]⟩/\t=KL L n m true/\G T 2 (kA wa 2 Y x.2)/\G T 12 (.lst (zM l) false (jp l))/\G T 13 (zM l)/\G T 14 x.1/\x.1<=zM l/\zM x.2=x.1/\Jb 143 wa L n Y x.2/\x.2++(l.drop x.1).map (λc=>⟨.ofNat 2,.ofNat c⟩)=R) (λx f t hI=>?_) (0,[]) ⟨_,_,_,_,0,rfl,rfl,by simp (disch:=first|exact dis|fail)only[go_sem,seval,-rO,-rN,kA],sW,sW,sW,yh _,rfl,λh=>absurd rfl h,hR⟩
 clear hR;obtain⟨T,L,n,m,Y,rfl,rfl,t2,t12,t13,t14,hi,hol,hok,hR⟩:=hI;obtain⟨i,out⟩:=x;simp only at t2 t14 hi hol hok hR|-;rcases wj l i with ⟨hlt,hd⟩|⟨x,hlt,hd⟩
 .have hni:¬i<zM l:=J;rw[hd]at hR;simp only[List.map_nil,zv6]at hR;subst hR;obtain⟨v0,hf,hz⟩:=VH (esz:=2) (Y:=Y) (s:=KL [] 0 0 true) jU Wr out;refine xX ?_;refine xX ?_;refine qz ?_;exact hz
 .have hcx:=zyd hd;rw[hd,List.map_cons]at hR;refine xY ?_;refine xU (wV sW ?_);refine xX ?_;refine xU (x4 ?_);refine xY ?_;refine wi ?_;refine xZ (hZ ud jU jV J hok (ws:=[⟨.ofNat 2,.ofNat x⟩]) (by simp only[yw,xN];omega) (by simp only[yw,xN];omega)) λv t hv=>?_
  obtain⟨id2,L2,n2,m2,rfl,rfl,q1,_⟩:=hv;refine xX ?_;refine xX ?_;exact⟨(i+1,out++[⟨.ofNat 2,.ofNat x⟩]),⟨_,_,_,_,id2,rfl,rfl,V,V,V,V,by simp only;omega,by simp only[yO,yw,xN];omega,q1,by rw[List.append_assoc];exact hR⟩,by simp only;omega⟩
end
structure Ob where
 c:zt
 len:zM c=5
 sc:wO c=true
structure Sto(q:Bool) where
 obs:List Ob
 oid:Nat
 ys:List Vl
 yid:Nat
 bs:zr
 ld:Int
 wd:Bool
def Sto.row:{q:Bool}->Sto q->AObj
 |true,S=>.row 118 [.bool true,.nils,gSl 5 S.oid (zM S.obs),gSl 2 S.yid (zM S.ys),.nils,.nils]
 |false,S=>.row 135 [.nils,gSl 5 S.oid (zM S.obs),gSl 2 S.yid (zM S.ys),.nils,.nils,S.ld,.bool S.wd]
def Os:∀{q:Bool} (S:Sto q),∃t cs,S.row=.row t cs
 |true,_=>⟨_,_,rfl⟩
 |false,_=>⟨_,_,rfl⟩
abbrev tVq:Bool->Nat
 |true=>143
 |false=>163
abbrev tOq:Bool->Nat
 |true=>180
 |false=>203
def SymAt(q:Bool)(L:za)(bs:zr)(obs:List Ob)(y:Vl):Prop:=∃(i a bid:Nat) (oi oa:Ob) (l:List Vl),y=⟨.ofNat 7,.ofNat i⟩/\obs[i]? =some oi/\obs[a]? =some oa/\wE 1 (wX 2 oi.c)=some [.sl bid 0 1 (.fix 1)]/\bid∈bs/\x3 L bid=some (.row (tVq q) (wa ⟨.ofNat 7,.ofNat a⟩))/\wE 1 (wX 2 oa.c)=some [qB l]/\zM l<2000000
structure StOk{q:Bool}(sp:Nat)(L:za)(n:Nat)(S:Sto q):Prop where
 wf:WfA L n
 row:x3 L sp=some S.row
 go:GAt (tOq q) Ob.c L 0 n S.oid S.obs
 gy:GAt (tVq q) wa L 0 n S.yid S.ys
 sy:∀y∈S.ys,SymAt q L S.bs S.obs y
 bl:∀b∈S.bs,∃cs,x3 L b=some (.row (tVq q) cs)
def SymAt.mono{q:Bool}{bs bs2:zr}{obs more:List Ob}{y:Vl}(h:SymAt q L bs obs y)(hb:∀b∈bs,b∈bs2)(hf:∀j∈bs,x3 L2 j=x3 L j):SymAt q L2 bs2 (obs++more) y:=by
 obtain⟨i,a,bid,oi,oa,l,e,h1,h2,h3,h4,h5,h6,h7⟩:=h;have hi:i<zM obs:=(List.getElem?_eq_some_iff.1 h1).1;have ha:a<zM obs:=(List.getElem?_eq_some_iff.1 h2).1;exact⟨i,a,bid,oi,oa,l,e,by rw[yP hi];exact h1,by rw[yP ha];exact h2,h3,hb _ h4,by rw[hf bid h4];exact h5,h6,h7⟩
section
variable {q:Bool}{sp n:Nat}{L:za}{S:Sto q}
def StOk.spn(h:StOk sp L n S):sp<n:=h.wf.lt h.row
def StOk.ne_o(h:StOk sp L n S){j:Nat}(hg:x3 L j=some (.row t cs))(h0:S.obs≠[]):j≠S.oid:=λe=>by
 have:=(h.go h0).2.2;rw[<-e,hg]at this;simp at this
def StOk.ne_y(h:StOk sp L n S){j:Nat}(hg:x3 L j=some (.row t cs))(h0:S.ys≠[]):j≠S.yid:=λe=>by
 have:=(h.gy h0).2.2;rw[<-e,hg]at this;simp at this
def StOk.sp_o(h:StOk sp L n S)(h0:S.obs≠[]):sp≠S.oid:=by
 obtain⟨t,cs,e⟩:=Os S;exact h.ne_o (e▸h.row) h0
def StOk.sp_y(h:StOk sp L n S)(h0:S.ys≠[]):sp≠S.yid:=by
 obtain⟨t,cs,e⟩:=Os S;exact h.ne_y (e▸h.row) h0
def StOk.o_y(h:StOk sp L n S)(h0:S.obs≠[])(h1:S.ys≠[]):S.oid≠S.yid:=λe=>by
 have h2:=(h.go h0).2.2;have h3:=(h.gy h1).2.2;rw[e,h3]at h2;cases q<;>simp[tVq,tOq]at h2
end
def StOk.bne{b:Nat}{q:Bool}{S:Sto q}(h:StOk sp L n S)(hb:b∈S.bs):b<n/\b≠sp/\(S.obs≠[]->b≠S.oid)/\(S.ys≠[]->b≠S.yid):=by
 obtain⟨cs,hg⟩:=h.bl b hb;exact⟨h.wf.lt hg,λe=>by rw[e,h.row]at hg;cases q<;>simp[Sto.row,tVq]at hg,h.ne_o hg,h.ne_y hg⟩
theorem wR(esz Y k:Nat):(gSl esz Y k).cells=[gSl esz Y k]:=by cases k<;>rfl
section
variable {O:Orc}
attribute [local go_sem] wW wR in
def zyG(h112:O 150=none){S:Sto true}(h:StOk sp L n S)(hN:zM S.obs<100000000)(o:Ob)(m:Nat):
  Cv (cl O 150 [.ptr sp 0,.agg o.c] (KL L n m false)) λv t=>∃L2 n2 m2 oid2,v=.agg (wa ⟨.ofNat 7,.ofNat (zM S.obs)⟩)/\t=KL L2 n2 m2 false/\StOk (q:=true) sp L2 n2 {S with obs:=S.obs++[o],oid:=oid2}/\n<=n2/\n<=oid2/\∀j,j<n->j≠sp->(S.obs≠[]->j≠S.oid)->x3 L2 j=x3 L j:=by
 refine wp (F:=f150) h112 rfl rfl (zv4 rfl) ?_;obtain⟨obs,oid,ys,yid,bs,ld,wd⟩:=S;have hw:=h.wf;have hr:=h.row;have hsp:=h.spn;obtain⟨oc,ol,os⟩:=o;simp only[Sto.row]at hr hN|-;have ht5:wE 5 oc=some oc:=qg ol;have hlN:qQ oc=5:=by rw[qw];exact ol
 have hov:V1 [.int .i64 (.ofNat 0),.int .i64 (.ofNat 0),.nils,.bool false,.nils] oc=some oc:=G9 (by rw[ol];rfl)
 unfold f150 cF;simp only;refine xY ?_;cases obs with
 | nil=>
  simp only[xN,gSl]at hr;have hap:=λL n m e x f=> @J6 L n m 180 e 5 72 oc x f ol J J;refine xY ?_;refine ev_zc ?_;refine⟨_,_,_,n+1+1+1,rfl,rfl,?_,?_,?_,λj h1 h2 h3=>?_⟩
  .refine⟨?_,?_,λ_=>⟨yh _,by simp only;omega,?_⟩,λhne=>?_,λy hy=>(h.sy y hy).mono (λ_ hb=>hb) λj hj=>?_,λb hb=>?_⟩
   ·(repeat first|exact hw.up J|refine WfA.same ?_ J)
   ·(repeat first|exact x8 _ _ _|rw[gN J])
   .simp only[zuc,xW,zv6]
    (repeat first|exact x8 _ _ _|rw[gN J])
   .obtain⟨q1,q2,q3⟩:=h.gy hne;refine⟨q1,by simp only at q2|-;omega,?_⟩
    have:=(h.sp_y hne).symm;simp only at q2 this
    (repeat rw[x5,x0 (by simp only;omega)])
    exact q3
   .obtain⟨q1,q2,_⟩:=h.bne hj
    (repeat rw[gN J])
   .obtain⟨q1,q2,_⟩:=h.bne hb;obtain⟨cs,hcs⟩:=h.bl b hb;refine⟨cs,?_⟩
    (repeat rw[gN J])
    exact hcs
  .omega
  .omega
  ·(repeat rw[gN J])
 | cons u us=>
  obtain⟨_,hid,hgi⟩:=h.go (by simp)
  have hso:=h.sp_o (by simp)
  simp only at hid hgi hso hN;have hfl:(xW Ob.c (u::us)).length=(u::us).length *5:=qK Ob.len _;have hgi2:∀o1 o2,x3 ((n+1,o1)::(n,o2)::L) oid=some (.row 180 (xW Ob.c (u::us)) true false):=λo1 o2=>by rw[gN J,gN J];exact hgi
  have ha:=λo1 o2 m e x f=> @J7 ((n+1,o1)::(n,o2)::L) (n+1+1) m 180 e 5 72 oid (u::us).length false (xW Ob.c (u::us)) oc x f J (hgi2 o1 o2) hfl ol J os J J;obtain⟨k,hk⟩:∃k,(u::us).length=k+1:=⟨zM us,rfl⟩;rw[hk]at ha hr hN hfl;simp only[gSl]at hr;have hso2:=hso.symm;have hcat:xW Ob.c (u::us)++oc=xW Ob.c ((u::us)++[⟨oc,ol,os⟩]):=by rw[wQ,vh]
  rw[hcat]at ha;clear hgi2 hcat
  rw[hk];have hk2:((u::us)++[(⟨oc,ol,os⟩:Ob)]).length=k+1+1:=by rw[yO,hk];rfl
  have hsy:=λy hy L2 hf=>(h.sy y hy).mono (L2:=L2) (more:=[⟨oc,ol,os⟩]) (λ_ hb=>hb) hf;have hbn:=λb hb=>h.bne (b:=b) hb;have hbl:=h.bl;have hgy:=h.gy;have hoy:=h.o_y (by simp)
  have hpy:=h.sp_y;simp only at hsy hgy hoy hpy hbn hbl;clear h;generalize (u::us)++[(⟨oc,ol,os⟩:Ob)]=nobs at *;refine xY ?_;refine ev_zc ?_;refine⟨_,_,_,n+1+1+1,rfl,rfl,?_,?_,?_,λj h1 h2 h3=>?_⟩
  .refine⟨?_,?_,λ_=>⟨yh _,by simp only;omega,?_⟩,λhne=>?_,λy hy=>hsy y hy _ λj hj=>?_,λb hb=>?_⟩
   ·(repeat first|exact hw.up J|refine WfA.same ?_ J)
   .simp only[Sto.row,hk2,gSl]
    (repeat first|exact x8 _ _ _|rw[gN J])
   ·(repeat first|exact x8 _ _ _|rw[x5,x0 (by simp only;omega)])
   .obtain⟨q1,q2,q3⟩:=hgy hne;refine⟨q1,by simp only at q2|-;omega,?_⟩
    have e1:=(hpy hne).symm;have e2:=(hoy hne).symm
    try simp only at q2
    try simp only at e1
    try simp only at e2
    (repeat rw[x5,x0 (by simp only;omega)])
    exact q3
   .obtain⟨q1,q2,q3,_⟩:=hbn j hj;have:=q3 (by simp)
    (repeat rw[gN J])
   .obtain⟨q1,q2,q3,_⟩:=hbn b hb;have:=q3 (by simp)
    obtain⟨cs,hcs⟩:=hbl b hb;refine⟨cs,?_⟩
    (repeat rw[gN J])
    exact hcs
  .omega
  .omega
  .have:=h3 (by simp)
   (repeat rw[gN J])
end
def zwI(x1 x2 y1 y2:Int):∃q,J5 (.flat [.i,.i]) true (.agg [x1,x2]) (.agg [y1,y2])=some (.bool q):=by
 simp only[J5,eqV,Zy,eq1,jJ,x6];cases eqI x1 y1<;>cases eqI x2 y2<;>exact⟨_,rfl⟩
section
variable {O:Orc}
def zwQ(h165:O 203=none){S:Sto true}(hr:x3 L sp=some S.row)(n m:Nat)(b:Bool):
  cl O 203 [.ptr sp 0] (KL L n m b)=some (.bool true,KL L n m b):=by
 have key:Cv (cl O 203 [.ptr sp 0] (KL L n m b)) λv t=>v=.bool true/\t=KL L n m b:=by
  refine wp (F:=f203) h165 rfl rfl (zv4 rfl) ?_;simp only[Sto.row]at hr;have heq:J5 .ptr true (.ptr sp 0) .nilp=some (.bool true):=rfl;unfold f203 cF;simp only;refine ev_zc ?_;exact⟨rfl,rfl⟩
 obtain⟨v,t,h,rfl,rfl⟩:=key;exact h
attribute [local go_sem] wW wR in
def Mv(h144:O 182=none)(h165:O 203=none){sp n:Nat}{L:za}{S:Sto true}(hr:x3 L sp=some S.row)(hsp:sp<n){i:Nat}(hi:i<zM S.obs)(hN:zM S.obs<1000000000)(m:Nat)(b:Bool):
  Cv (cl O 182 [.ptr sp 0,.agg [(7:Nat),i]] (KL L n m b)) λv t=>∃m2,v=.ptr S.oid (i*5)/\t=KL ((n,some (.row 143 [(7:Nat),i]))::L) (n+1) m2 b:=by
 refine wp (F:=f182) h144 rfl rfl (zv4 rfl) ?_;have hr2:x3 ((n,some (.row 143 [(7:Nat),i]))::L) sp=some S.row:=by rw[gN J];exact hr
 have his:=λm b=>zwQ h165 hr2 (n+1) m b;obtain⟨obs,oid,ys,yid,bs,ld,wd⟩:=S;simp only[Sto.row]at hr hi hN;obtain⟨k,hk⟩:∃k,zM obs=k+1:=⟨zM obs-1,J⟩;rw[hk]at hr hi hN;simp only[gSl]at hr;clear hr2 hk;have hni:¬k+1<=i:=J;unfold f182 cF;simp only;refine xY ?_;refine xY ?_;refine ev_zc ?_;exact⟨_,rfl,rfl⟩
attribute [local go_sem] wW in
def zy2(h143:O 181=none)(a b:List Vl)(ha:zM a<1000000000)(hb:zM b<1000000000)(L:za)(n m:Nat)(md:Bool):
  ∃r,cl O 181 [qB a,qB b] (KL L n m md)=some (.bool r,KL L n m md):=by
 have key:Cv (cl O 181 [qB a,qB b] (KL L n m md)) λv t=>(∃r,v=.bool r)/\t=KL L n m md:=by
  refine vf (F:=f181) h143 rfl rfl (zv4 rfl) ?_;unfold f181;simp only[qB];by_cases hab:zM a=zM b
  .refine xY ?_;refine xY ?_;refine xU (xU (xX ?_));apply x4;refine wq (λi:Nat=>zM a-i) (λi f t=>∃T,f=⟨tmL T,[]⟩/\t=KL L n 0 true/\G T 0 (.lst (zM a) false (xW wa a))/\G T 1 (.lst (zM b) false (xW wa b))/\G T 12 (zM a)/\G T 13 i/\i<=zM a) (λi f t hI=>?_) 0 ⟨_,rfl,rfl,V,V,V,sW,yh _⟩;obtain⟨T,rfl,rfl,t0,t1,t12,t13,hi⟩:=hI;rcases wj a i with ⟨hlt,hd⟩|⟨x,hlt,hd⟩
   .have:¬i<zM a:=J;refine xX ?_;refine ev_zc ?_;exact⟨⟨_,rfl⟩,rfl⟩
   .obtain⟨y,hd2⟩:∃y,b.drop i=y::b.drop (i+1):=⟨_,zuo J⟩;have hc1:=Xo hd;have hc2:=Xo hd2;obtain⟨x1,x2⟩:=x;obtain⟨y1,y2⟩:=y;simp only[wa]at hc1 hc2;have hlt2:i<zM b:=J;clear hd hd2;obtain⟨q,hq⟩:=zwI x1 x2 y1 y2;cases q with
    |true=>
     refine ev_zc ?_;exact⟨⟨_,rfl⟩,rfl⟩
    |false=>
     refine xX ?_;exact⟨i+1,⟨_,rfl,trivial,V,V,V,V,J⟩,J⟩
  .refine xY ?_;refine xY ?_;refine qz ?_;exact⟨⟨_,rfl⟩,rfl⟩
 obtain⟨v,t,h,⟨r,rfl⟩,rfl⟩:=key;exact⟨r,h⟩
end
def SC.lst0{s s':U}(h1:SC P X f [.nils] s v s')(h2:SC P X f [.sl0] s v s'):SC P X f [.lst 0 false []] s v s':=by
 refine⟨h1.1,λI w xs r hwf hf hx F n hF=>?_⟩;simp only[VRL]at hx;obtain⟨x,ys,rfl,hx,rfl⟩:=hx;simp only[VR]at hx;obtain⟨_,⟨_,a,rfl⟩|⟨b,o,k,ys,rfl,_⟩⟩:=hx
 .cases a with
  |none=>exact h1.2 I w _ r hwf hf (by simp only[VRL,VR];exact⟨_,_,rfl,rfl,rfl⟩) F n hF
  |some a=>exact h2.2 I w _ r hwf hf (by simp only[VRL,VR];exact⟨_,_,rfl,⟨a,0,rfl⟩,rfl⟩) F n hF
 .exact h2.2 I w _ r hwf hf (by simp only[VRL,VR];exact⟨_,_,rfl,⟨_,k,rfl⟩,rfl⟩) F n hF
theorem RK{ty esz bytes k:Nat}{cs:zt}{e:Bool}(he:1<=esz)(hb:2*(k+1)*bytes<=281474976710656)(hk:k<1000000000000)(hl:List.length cs=(k+1)*esz)(hp:wo cs=true):uE (KL [] 0 0 true) ty esz bytes (.lst 0 true []) (.lst (k+1) e cs)=some (.gr 0 esz (k+1) cs,KL [(0,some (.app ty cs))] 1 0 true):=by
 have h2:wE (zF (k+1) esz) cs=some cs:=qg hl;have h3:wE (zF 0 esz) ([]:zt)=some []:=by rw[show zF 0 esz=0 from Nat.zero_mul _];rfl
 simp only[uE,pT,qu,h2,ZI,x6,h3];rw[show Nat.add 0 (Nat.succ k)=k+1 from y8 _,zuc,VM he hb J hp];rfl
def Xu(l:List Vl):zt:=[qB l]
def BJ:∀x y,Xu x=Xu y->x=y:=λx y h=>by
 simp only[Xu,qB,qJ,Z.lst.injEq,true_and,and_true]at h;exact eo h.2
def nz(l:List Vl):wo (Xu l)=true:=by simp only[Xu,ww,kO,wA,xO]
def Ke:zt->U->zb:=vw Xu (λl=>zM l<1000000000) qB
section
variable {P:Program}{X:World}(B:Bx P X){O:Orc}(hO:OrcOk P X O)
include B hO
attribute [local go_sem] qB in
def Be(l:List Vl)(hl:List.length l<1000000000):∃s1,SC P X 183 (Xu l) (s00 0 true) (qB l) s1:=by
 cases l with
 | nil=>
  have h1:∃s1,SC P X 183 [.nils] (s00 0 true) (.lst 0 false []) s1:=by
   refine be B hO f183 ?_;unfold f183 cF;simp only;have he:J5 .slice false .nils .nils=some (.bool true):=rfl;refine ev_zc ?_;exact lY
  have h2:∃s1,SC P X 183 [.sl0] (s00 0 true) (.lst 0 false []) s1:=by
   refine be B hO f183 ?_;unfold f183 cF;simp only;have he:J5 .slice false .sl0 .nils=some (.bool false):=rfl;refine ev_zc ?_;exact pK rfl rfl
  obtain⟨_,h1⟩:=h1;obtain⟨_,h2⟩:=h2;exact⟨_,SC.lst0 (SC.up h1 rfl rfl (s00 0 true)) (SC.up h2 rfl rfl (s00 0 true))⟩
 |cons x r=>
  refine be B hO f183 ?_;unfold f183 cF;simp only[Xu,qB];have he:∀cs,J5 .slice false (.lst (x::r).length false cs) .nils=some (.bool false):=λ_=>rfl;have hp:=WA (x::r);have hw:=sG (x::r);have hlen:=Gw (x::r);have hap:= @RK 143 2 16 r.length (xW wa (x::r)) false J (by simp only[yw]at hl;omega) (by simp only[yw]at hl;omega) hlen hp
  simp only[yw]at he|-;generalize xW wa (x::r)=cs at *;refine ev_zc ?_;exact pK hp hw
end
def Gv(l:zq):wo (xW wg l)=true:=wI qF l
def Iw(l:zq):wkL (xW wg l)=xW wg l:=vT px l
structure StTo{q:Bool}(sp:Nat)(L:za)(n:Nat)(S:Sto q)(L2:za)(n2:Nat)(S2:Sto q):Prop where
 ok:StOk sp L2 n2 S2
 le:n<=n2
 fr:∀j,j<n->j≠sp->(S.obs≠[]->j≠S.oid)->(S.ys≠[]->j≠S.yid)->x3 L2 j=x3 L j
 o:S2.obs≠[]->(S.obs≠[]/\S2.oid=S.oid)\/n<=S2.oid
 y:S2.ys≠[]->(S.ys≠[]/\S2.yid=S.yid)\/n<=S2.yid
 b:∀b∈S2.bs,b∈S.bs\/n<=b
def StTo.trans{L3:za}{n3:Nat}{q:Bool}{S S2 S3:Sto q}(h:StTo sp L n S L2 n2 S2)(g:StTo sp L2 n2 S2 L3 n3 S3):StTo sp L n S L3 n3 S3 where
 ok:=g.ok
 le:=Nat.le_trans h.le g.le
 fr:=λj h1 h2 h3 h4=>by
  have hle:=h.le;rw[g.fr j J h2 (λhne e=>by
   rcases h.o hne with ⟨q1,q2⟩|q
   .exact h3 q1 (by rw[e,q2])
   .omega) (λhne e=>by
   rcases h.y hne with ⟨q1,q2⟩|q
   .exact h4 q1 (by rw[e,q2])
   .omega)]
  exact h.fr j h1 h2 h3 h4
 o :=λhne=>by
  have hle:=h.le;rcases g.o hne with ⟨q1,q2⟩|q
  .rcases h.o q1 with ⟨q3,q4⟩|q3
   .exact .inl ⟨q3,by rw[q2,q4]⟩
   .exact .inr (by rw[q2];exact q3)
  .exact .inr J
 y :=λhne=>by
  have hle:=h.le;rcases g.y hne with ⟨q1,q2⟩|q
  .rcases h.y q1 with ⟨q3,q4⟩|q3
   .exact .inl ⟨q3,by rw[q2,q4]⟩
   .exact .inr (by rw[q2];exact q3)
  .exact .inr J
 b:=λb hb=>by
  have hle:=h.le;rcases g.b b hb with q|q
  .exact h.b b q
  .exact .inr J
def StOk.more{q:Bool}{S:Sto q}(h:StOk sp L n S)(hw:WfA L2 n2)(hn:n<=n2)(hf:∀j,j<n->x3 L2 j=x3 L j):StTo sp L n S L2 n2 S where
 ok:={
  wf:=hw
  row:=by rw[hf sp h.spn];exact h.row
  go:=h.go.ext (zS _) hn λj _ hj=>hf j hj
  gy:=h.gy.ext (zS _) hn λj _ hj=>hf j hj
  sy:=λy hy=>by
   have:=(h.sy y hy).mono (more:=[]) (λ_ hb=>hb) λj hj=>hf j (h.bne hj).1
   rwa [zv6]at this
  bl:=λb hb=>by
   obtain⟨cs,hcs⟩:=h.bl b hb;exact⟨cs,by rw[hf b (h.bne hb).1];exact hcs⟩}
 le:=hn
 fr:=λj hj _ _ _=>hf j hj
 o:=λhne=>.inl ⟨hne,rfl⟩
 y:=λhne=>.inl ⟨hne,rfl⟩
 b:=λb hb=>.inl hb
def StTo.bs{b:Nat}{q:Bool}{S S2:Sto q}(h:StTo sp L n S L2 n2 S2)(hb:n<=b)(hg:x3 L2 b=some (.row (tVq q) cs)):StTo sp L n S L2 n2 {S2 with bs:=b::S2.bs} where
 ok:={
  wf:=h.ok.wf
  row:=by rw[show ({S2 with bs:=b::S2.bs}:Sto q).row=S2.row by cases q<;>rfl];exact h.ok.row
  go:=h.ok.go
  gy:=h.ok.gy
  sy:=λy hy=>by
   have:=(h.ok.sy y hy).mono (L2:=L2) (bs2:=b::S2.bs) (more:=[]) (λ_ hx=>List.mem_cons_of_mem _ hx) λj _=>rfl
   rwa [zv6]at this
  bl:=λx hx=>by
   rcases List.mem_cons.1 hx with rfl|hx
   .exact⟨cs,hg⟩
   .exact h.ok.bl x hx}
 le:=h.le
 fr:=h.fr
 o:=h.o
 y:=h.y
 b:=λx hx=>by
  rcases List.mem_cons.1 hx with rfl|hx
  .exact .inr hb
  .exact h.b x hx
def StOk.put{j:Nat}{q:Bool}{S:Sto q}(h:StOk sp L n S)(hj:j<n)(h1:j≠sp)(h2:S.obs≠[]->j≠S.oid)(h3:S.ys≠[]->j≠S.yid)(h4:j∉S.bs)(o:zj):StOk sp ((j,o)::L) n S where
 wf:=h.wf.same hj
 row:=by rw[x5,x0 h1.symm];exact h.row
 go:=λhne=>by
  obtain⟨q1,q2,q3⟩:=h.go hne;exact⟨q1,q2,by rw[x5,x0 (h2 hne).symm];exact q3⟩
 gy:=λhne=>by
  obtain⟨q1,q2,q3⟩:=h.gy hne;exact⟨q1,q2,by rw[x5,x0 (h3 hne).symm];exact q3⟩
 sy:=λy hy=>by
  have:=(h.sy y hy).mono (L2:=(j,o)::L) (more:=[]) (λ_ hb=>hb) λb hb=>by rw[x5,x0 (show ¬b=j from λe=>h4 (e▸hb))]
  rwa [zv6]at this
 bl:=λb hb=>by
  obtain⟨cs,hcs⟩:=h.bl b hb;exact⟨cs,by rw[x5,x0 (show ¬b=j from λe=>h4 (e▸hb))];exact hcs⟩
section
variable {O:Orc}
def Qm(h112:O 150=none){S:Sto true}(h:StOk sp L n S)(hN:zM S.obs<100000000)(o:Ob)(m:Nat):
  Cv (cl O 150 [.ptr sp 0,.agg o.c] (KL L n m false)) λv t=>∃L2 n2 m2 oid2,v=.agg (wa ⟨.ofNat 7,.ofNat (zM S.obs)⟩)/\t=KL L2 n2 m2 false/\StTo sp L n S L2 n2 {S with obs:=S.obs++[o],oid:=oid2}:=by
 refine(zyG h112 h hN o m).mono λv t hv=>?_;obtain⟨L2,n2,m2,oid2,rfl,rfl,q1,q2,q3,q4⟩:=hv;exact⟨L2,n2,m2,oid2,rfl,rfl,⟨q1,q2,λj h1 h2 h3 _=>q4 j h1 h2 h3,λ_=>.inr q3,λhne=>.inl ⟨hne,rfl⟩,λb hb=>.inl hb⟩⟩
end
def Ua:ICode:=match f152.body with
 |.seq _ (.seq _ k)=>k
 |_=>.skip
def Az:ICode->ICode:=λk=>match f152.body with
 |.seq a (.seq b _)=>.seq a (.seq b k)
 |_=>.skip
theorem DX:f152.body=Az Ua:=rfl
def obS(l:List Vl):Ob:=⟨[.int .i64 (.ofNat 4),.int .i64 (.ofNat 0),qB l,.bool false,.nils],rfl,rfl⟩
def obB(Y:Nat):Ob:=⟨[.int .i64 (.ofNat 5),.int .i64 (.ofNat 0),.sl Y 0 1 (.fix 1),.bool false,.nils],rfl,rfl⟩
def O1:ICode:=match Ua with
 |.seq _ (.seq _ (.seq a _))=>a
 |_=>.skip
section
variable {O:Orc}
attribute [local go_sem] wW wR wa Trie.get_set Trie.get_del in
def DV{eb:Nat}{S:Sto true}(h:StOk sp L n S)(hY:zM S.ys<100000000){w:Vl}(hs:SymAt true L S.bs S.obs w){T:List (Nat×Z)}{v4:Z}(t0:G T 0 (.ptr sp 0))(t4:G T 4 v4)(t8:G T 8 (.ptr eb 0))(geb:x3 L eb=some (.row 143 (wa w)))(m:Nat):
  Ev (evC env (evW env O) none O1 ⟨tmL T,[]⟩ (KL L n m false)) λr f s=>r=.norm/\∃T2 L2 n2 m2 yid2,f=⟨tmL T2,[]⟩/\s=KL L2 n2 m2 false/\G T2 4 v4/\G T2 8 (.ptr eb 0)/\StTo sp L n S L2 n2 {S with ys:=S.ys++[w],yid:=yid2}:=by
 obtain⟨obs,oid,ys,yid,bs,ld,wd⟩:=S;have hw:=h.wf;have hr:=h.row;have hsp:=h.spn;have hen:=hw.lt geb;have hsy:=λy hy L2 hf=>(h.sy y hy).mono (L2:=L2) (more:=[]) (λ_ hb=>hb) hf;have hsw:=λL2 hf=>hs.mono (L2:=L2) (more:=[]) (λ_ hb=>hb) hf;have hbn:=λb hb=>h.bne (b:=b) hb;have hbl:=h.bl;have hgo:=h.go;have hpo:=h.sp_o;have hes:eb≠sp:=λe=>by rw[e,hr]at geb;simp[Sto.row]at geb
 have hrw:=h.row;have hes2:=hes.symm;simp only[Sto.row]at hr hY;simp only[zv6]at hsy hsw;simp only at hbn hbl;obtain⟨w1,w2⟩:=w;unfold O1 Ua f152 cF;simp only;cases ys with
 | nil=>
  simp only[xN,gSl]at hr;have hap:=λL n m e x f=> @J6 L n m 143 e 2 16 [.int .i64 w1,.int .i64 w2] x f rfl J J;clear h hs;simp only[wa]at geb;refine xX ?_;refine⟨trivial,_,_,_,_,n+1,rfl,rfl,V,V,?_,?_,λj h1 h2 h3 h4=>?_,λhne=>.inl ⟨hne,rfl⟩,λ_=>.inr (zuC _),λb hb=>.inl hb⟩
  .refine⟨?_,?_,λhne=>?_,λ_=>⟨yh _,by simp only;omega,?_⟩,λy hy=>?_,λb hb=>?_⟩
   ·(repeat first|exact hw.up J|refine WfA.same ?_ J)
   ·(repeat first|exact x8 _ _ _|rw[gN J])
   .obtain⟨q1,q2,q3⟩:=hgo hne;have:=(hpo hne).symm;simp only at q2 this;refine⟨q1,by simp only;omega,?_⟩
    (repeat rw[x5,x0 (by simp only;omega)])
    exact q3
   .simp only[zuc,xW,zv6]
    (repeat first|exact x8 _ _ _|rw[gN J])
   .simp only[zuc,zul,List.not_mem_nil,or_false]at hy;subst hy;refine hsw _ λj hj=>?_;obtain⟨q1,q2,_⟩:=hbn j hj
    (repeat rw[gN J])
   .obtain⟨q1,q2,_⟩:=hbn b hb;obtain⟨cs,hcs⟩:=hbl b hb;refine⟨cs,?_⟩
    (repeat rw[gN J])
    exact hcs
  .omega
  ·(repeat rw[gN J])
 | cons u us=>
  obtain⟨_,hid,hgi⟩:=h.gy (by simp)
  have hso:=h.sp_y (by simp)
  have hey:=h.ne_y geb (by simp)
  have hoy:=λhne=>h.o_y hne (by simp)
  simp only at hid hgi hso hY hoy hey;have hfl:(xW wa (u::us)).length=(u::us).length *2:=Gw _;have ha:=λm e x f=> @J7 L n m 143 e 2 16 yid (u::us).length false (xW wa (u::us)) [.int .i64 w1,.int .i64 w2] x f J hgi hfl rfl J rfl J J;obtain⟨k,hk⟩:∃k,(u::us).length=k+1:=⟨zM us,rfl⟩;rw[hk]at ha hr hY hfl;simp only[gSl]at hr;have hso2:=hso.symm;have hcat:xW wa (u::us)++[.int .i64 w1,.int .i64 w2]=xW wa ((u::us)++[⟨w1,w2⟩]):=by rw[wQ,vh];rfl
  rw[hcat]at ha;clear hcat h hs;have hk2:((u::us)++[(⟨w1,w2⟩:Vl)]).length=k+1+1:=by rw[yO,hk];rfl
  have hmem:∀y,y∈(u::us)++[(⟨w1,w2⟩:Vl)]->y∈u::us\/y=⟨w1,w2⟩:=λy hy=>by
   rcases List.mem_append.1 hy with h|h
   .exact .inl h
   .exact .inr (by simpa using h)
  generalize (u::us)++[(⟨w1,w2⟩:Vl)]=nys at *;simp only[wa]at geb;have hkeep:∀j∈bs,j<n/\j≠sp/\j≠yid:=λj hj=>⟨(hbn j hj).1,(hbn j hj).2.1,(hbn j hj).2.2.2 (by simp)⟩
  clear hrw hbn;refine xX ?_;refine⟨trivial,_,_,_,_,n+1,rfl,rfl,V,V,?_,?_,λj h1 h2 h3 h4=>?_,λhne=>.inl ⟨hne,rfl⟩,λ_=>.inr (zuC _),λb hb=>.inl hb⟩
  .refine⟨?_,?_,λhne=>?_,λ_=>⟨yh _,by simp only;omega,?_⟩,λy hy=>?_,λb hb=>?_⟩
   ·(repeat first|exact hw.up J|refine WfA.same ?_ J)
   .simp only[Sto.row,hk2,gSl]
    (repeat first|exact x8 _ _ _|rw[gN J])
   .obtain⟨q1,q2,q3⟩:=hgo hne;have e1:=(hpo hne).symm;have e2:=hoy hne;simp only at q2 e1;refine⟨q1,by simp only;omega,?_⟩
    (repeat rw[x5,x0 (by simp only;omega)])
    exact q3
   ·(repeat first|exact x8 _ _ _|rw[x5,x0 (by simp only;omega)])
   .rcases hmem y hy with hy|rfl
    .refine hsy y hy _ λj hj=>?_;obtain⟨e0,e1,e2⟩:=hkeep j hj
     (repeat rw[gN J])
    .refine hsw _ λj hj=>?_;obtain⟨e0,e1,e2⟩:=hkeep j hj
     (repeat rw[gN J])
   .obtain⟨e0,e1,e2⟩:=hkeep b hb;obtain⟨cs,hcs⟩:=hbl b hb;refine⟨cs,?_⟩
    (repeat rw[gN J])
    exact hcs
  .omega
  .have:=h4 (by simp)
   simp only at this
   (repeat rw[gN J])
end
section
variable {O:Orc}
attribute [local go_sem] wW wR wa Trie.get_set Trie.get_del in
def DW(h112:O 150=none)(h145:O 183=some Ke){ab:Nat}{S:Sto true}(h:StOk sp L n S)(hN:zM S.obs+2<100000000)(hY:zM S.ys<100000000){l:List Vl}(hl:zM l<2000000){T:List (Nat×Z)}{z1 z2:Z}(t0:G T 0 (.ptr sp 0))(t1:G T 1 (qB l))(t4:G T 4 (.ptr ab 0))(gab:x3 L ab=some (.row 143 [z1,z2]))(hab:ab∉S.bs)(m:Nat){Q:Res->Fr->U->Prop}
  (hQ:∀T L2 n2 m2 S2 w,G T 4 (.ptr ab 0)->StTo sp L n S L2 n2 S2->ab∉S2.bs->zM S2.obs<=zM S.obs+2->zM S2.ys<=zM S.ys+1->Q .ret ⟨tmL T,[]⟩ (KL ((ab,some (.row 143 (wa w)))::L2) n2 m2 false)):
  Ev (evC env (evW env O) none Ua ⟨tmL T,[]⟩ (KL L n m false)) Q:=by
 have hcl:=λs=>oc h145 BJ l J (args:=Xu l) (by simp only[Xu,wkL,GZ]) s
 simp only[Xu]at hcl;have hsp:=h.spn;have ha1:∀m,Cv (cl O 150 [.ptr sp 0,.agg [(4:Nat),(0:Nat),.lst (zM l) false (xW wa l),.bool false,.nils]] (KL L n m false)) λv t=>∃L2 n2 m2 oid2,v=.agg (wa ⟨.ofNat 7,.ofNat (zM S.obs)⟩)/\t=KL L2 n2 m2 false/\StTo sp L n S L2 n2 {S with obs:=S.obs++[obS l],oid:=oid2}:=λm=>Qm h112 h J (obS l) m
 have hap:ab≠sp:=λe=>by rw[e,h.row]at gab;simp[Sto.row]at gab
 have hao:=h.ne_o gab;have hay:=h.ne_y gab;have habn:=h.wf.lt gab;have hcp:=WA l;simp only[qB]at hcl t1;unfold Ua f152 cF;simp only;refine xU (wi ?_);refine xZ (ha1 _) λv t hv=>?_;obtain⟨L1,n1,m1,oid1,rfl,rfl,k1⟩:=hv;clear ha1;have k1w:=k1.ok.wf;have k1s:=k1.ok.spn;have k2:=k1.trans (k1.ok.more (L2:=(n1,some (.row 143 (wa ⟨.ofNat 7,.ofNat (zM S.obs)⟩)))::(n1,some (.row 143 [(0:Nat),(0:Nat)]))::L1) (n2:=n1+1) (by repeat first|exact k1w.up J|refine WfA.same ?_ J) J λj hj=>by repeat rw[gN J])
 have k3:=k2.trans (k2.ok.more (L2:=(n1+1,some (.row 143 (wa ⟨.ofNat 7,.ofNat (zM S.obs)⟩)))::(n1,some (.row 143 (wa ⟨.ofNat 7,.ofNat (zM S.obs)⟩)))::(n1,some (.row 143 [(0:Nat),(0:Nat)]))::L1) (n2:=n1+1+1) (by repeat first|exact k1w.up J|refine WfA.same ?_ J) J λj hj=>by repeat rw[gN J])
 have hl3:(S.obs++[obS l]).length=zM S.obs+1:=by rw[yO];rfl
 have ha2:∀m,Cv (cl O 150 [.ptr sp 0,.agg [(5:Nat),(0:Nat),.sl (n1+1) 0 1 (.fix 1),.bool false,.nils]] (KL ((n1+1,some (.row 143 (wa ⟨.ofNat 7,.ofNat (zM S.obs)⟩)))::(n1,some (.row 143 (wa ⟨.ofNat 7,.ofNat (zM S.obs)⟩)))::(n1,some (.row 143 [(0:Nat),(0:Nat)]))::L1) (n1+1+1) m false)) λv t=>∃L2 n2 m2 oid2,v=.agg (wa ⟨.ofNat 7,.ofNat (S.obs++[obS l]).length⟩)/\t=KL L2 n2 m2 false/\StTo sp _ (n1+1+1) _ L2 n2 {S with obs:=(S.obs++[obS l])++[obB (n1+1)],oid:=oid2}:=λm=>Qm h112 k3.ok (by simp only[hl3];omega) (obB (n1+1)) m
 have hrow3:=k3.ok.row;have hg1:x3 ((n1+1,some (AObj.row 143 (wa ⟨.ofNat 7,.ofNat (zM S.obs)⟩)))::(n1,some (.row 143 (wa ⟨.ofNat 7,.ofNat (zM S.obs)⟩)))::(n1,some (.row 143 [(0:Nat),(0:Nat)]))::L1) (n1+1)=some (.row 143 (wa ⟨.ofNat 7,.ofNat (zM S.obs)⟩)):=x8 _ _ _;simp only[hl3]at ha2;simp only[wa]at ha2;refine xX ?_;refine xU (wi ?_);refine xZ (ha2 _) λv t hv=>?_;obtain⟨L4,n4,m4,oid4,rfl,rfl,k4⟩:=hv;clear ha2;have k14:=k3.trans k4;have k4w:=k4.ok.wf;have hle1:=k1.le;have hle4:=k4.le;have hg4:=(k4.fr (n1+1) J J (k3.ok.ne_o hg1) (k3.ok.ne_y hg1)).trans hg1;clear hg1 k1 k2 k3 k4 hrow3;have k5:=k14.trans (k14.ok.more (L2:=(n4,some (.row 143 (wa ⟨.ofNat 7,.ofNat (zM S.obs+1)⟩)))::(n4,some (.row 143 [(0:Nat),(0:Nat)]))::L4) (n2:=n4+1) (by repeat first|exact k4w.up J|refine WfA.same ?_ J) J λj hj=>by repeat rw[gN J])
 have hg5:x3 ((n4,some (AObj.row 143 (wa ⟨.ofNat 7,.ofNat (zM S.obs+1)⟩)))::(n4,some (.row 143 [(0:Nat),(0:Nat)]))::L4) (n1+1)=some (.row 143 (wa ⟨.ofNat 7,.ofNat (zM S.obs)⟩)):=by
  repeat rw[gN J]
  exact hg4
 have k6:=k5.bs (b:=n1+1) J hg5;have hsym:SymAt true ((n4,some (AObj.row 143 (wa ⟨.ofNat 7,.ofNat (zM S.obs+1)⟩)))::(n4,some (.row 143 [(0:Nat),(0:Nat)]))::L4) ((n1+1)::S.bs) ((S.obs++[obS l])++[obB (n1+1)]) ⟨.ofNat 7,.ofNat (zM S.obs+1)⟩:=by
  refine⟨zM S.obs+1,zM S.obs,n1+1,obB (n1+1),obS l,l,rfl,?_,?_,rfl,zua,hg5,rfl,hl⟩
  .rw[yZ (by rw[hl3];exact zS _),hl3,Nat.sub_self];rfl
  .rw[yP (by rw[hl3];exact yx _),yZ (zS _),Nat.sub_self];rfl
 refine xX ?_;refine xU (Ev.mono (DV (eb:=n4) (w:=⟨.ofNat 7,.ofNat (zM S.obs+1)⟩) (v4:=.ptr ab 0) k6.ok hY hsym V V V (x8 _ _ _) _) λr f s hz=>?_);obtain⟨rfl,T7,L7,n7,m7,yid7,rfl,rfl,t4',t8',k7⟩:=hz;have k8:=k6.trans k7;have g4:=(k7.fr n4 J (by have:=k14.ok.spn;omega) (k6.ok.ne_o (x8 _ _ _)) (k6.ok.ne_y (x8 _ _ _))).trans (x8 _ _ _)
 have gab7:=(k8.fr ab habn hap hao hay).trans gab;have hab8:ab∉S.bs/\n<=n1+1:=⟨hab,J⟩;have hlen:((S.obs++[obS l])++[obB (n1+1)]).length=zM S.obs+2:=by rw[yO,hl3];rfl
 have hlenY:(S.ys++[(⟨.ofNat 7,.ofNat (zM S.obs+1)⟩:Vl)]).length=zM S.ys+1:=by rw[yO];rfl
 have hne:ab∉(n1+1)::S.bs:=λh=>by
  rcases List.mem_cons.1 h with e|h
  .omega
  .exact hab h
 have hq:=λT m t4=>hQ T L7 n7 m _ ⟨.ofNat 7,.ofNat (zM S.obs+1)⟩ t4 k8 hne (by simp only;omega) (by simp only;omega)
 clear hQ k7 k8 k6 k5 hg5 hsym hg4 hl3;simp only[wa]at g4 hq;refine xX ?_;exact hq _ _ V
end
def aD{obs:List Ob}{o:Ob}{x:Z}(h:obs[i]? =some o)(hx:wE 1 (wX 2 o.c)=some [x]):wE 1 (wX (i*5+2) (xW Ob.c obs))=some [x]:=by
 obtain⟨hi,he⟩:=List.getElem?_eq_some_iff.1 h;have hd:obs.drop i=o::obs.drop (i+1):=by rw[zuo hi,he]
 have h1:=uo (f:=Ob.c) (k:=5) Ob.len i obs;rw[qe]at h1 hx|-;rw[<-List.drop_drop,h1,hd];simp only[xW];obtain⟨c,hl,hs⟩:=o;rcases c with _|⟨a,_|⟨b,_|⟨d,r⟩⟩⟩
 .simp at hl
 .simp at hl
 .simp at hl
 .simpa [wE]using hx
def StTo.put{j:Nat}{q:Bool}{S S2:Sto q}(h:StTo sp L n S L2 n2 S2)(hj:n<=j)(hg:x3 L2 j=some (.row t cs))(h1:j≠sp)(h4:j∉S2.bs)(o:zj):StTo sp L n S ((j,o)::L2) n2 S2 where
 ok:=h.ok.put (h.ok.wf.lt hg) h1 (h.ok.ne_o hg) (h.ok.ne_y hg) h4 o
 le:=h.le
 fr:=λi h1 h2 h3 h4=>by rw[gN J];exact h.fr i h1 h2 h3 h4
 o:=h.o
 y:=h.y
 b:=h.b
section
variable {O:Orc}
def zy1(h143:O 181=none)(a b:List Vl)(ha:zM a<1000000000)(hb:zM b<1000000000)(L:za)(n m:Nat)(md:Bool):
  Cv (cl O 181 [.lst (zM a) false (xW wa a),.lst (zM b) false (xW wa b)] (KL L n m md)) λv t=>(∃r,v=.bool r)/\t=KL L n m md:=by
 obtain⟨r,h⟩:=zy2 h143 a b ha hb L n m md;exact⟨_,_,h,⟨r,rfl⟩,rfl⟩
attribute [local go_sem] wW wR wa in
def DY(h114:O 152=none)(h112:O 150=none)(h145:O 183=some Ke)(h143:O 181=none)(h144:O 182=none)(h165:O 203=none){S:Sto true}(h:StOk sp L n S)(hN:zM S.obs+2<100000000)(hY:zM S.ys<100000000){l:List Vl}(hl:zM l<2000000)(m:Nat):
  Cv (cl O 152 [.ptr sp 0,qB l] (KL L n m false)) λv t=>∃w L2 n2 m2 S2,v=.agg (wa w)/\t=KL L2 n2 m2 false/\StTo sp L n S L2 n2 S2/\zM S2.obs<=zM S.obs+2/\zM S2.ys<=zM S.ys+1:=by
 refine wp (F:=f152) h114 rfl rfl (zv4 rfl) ?_;have hw:=h.wf;have hsp:=h.spn;have hbn:n∉S.bs:=λhb=>by have:=(h.bne hb).1;omega
 have k0:StTo sp L n S ((n,some (.row 143 [(0:Nat),(0:Nat)]))::L) (n+1) S:=h.more (hw.cons (yx _) (zuC _)) (zuC _) λj hj=>by rw[gN J]
 rw[DX];unfold Az f152 cF;simp only;have hr:=h.row;obtain⟨obs,oid,ys,yid,bs,ld,wd⟩:=S;simp only[Sto.row]at hr hN hY;refine xY ?_;refine xU (xU (xX ?_));apply x4;refine wq (λi:Nat=>zM ys-i) (λi f t=>∃T L2 n2 m2,f=⟨tmL T,[]⟩/\t=KL L2 n2 m2 false/\G T 0 (.ptr sp 0)/\G T 1 (qB l)/\G T 4 (.ptr n 0)/\G T 12 (gSl 2 yid (zM ys))/\G T 13 (zM ys)/\G T 14 i/\i<=zM ys/\WfA L2 n2/\n+1<=n2/\∀j,j<n+1->x3 L2 j=x3 ((n,some (.row 143 [(0:Nat),(0:Nat)]))::L) j) (λi f t hI=>?_) 0 ⟨_,_,_,_,rfl,rfl,sW,sW,sW,sW,sW,sW,yh _,k0.ok.wf,zS _,λ_ _=>rfl⟩;obtain⟨T,L2,n2,m2,rfl,rfl,t0,t1,t4,t12,t13,t14,hi,hw2,hn2,hfr⟩:=hI;have k1:=k0.trans (k0.ok.more hw2 hn2 hfr);rcases wj ys i with ⟨hlt,hd⟩|⟨y,hlt,hd⟩
 .have hni:¬i<zM ys:=J;have g4:x3 L2 n=some (.row 143 [(0:Nat),(0:Nat)]):=(hfr n J).trans (x8 _ _ _);refine xX ?_;refine DW h112 h145 k1.ok hN hY hl (ab:=n) V V V g4 hbn _ λT3 L3 n3 m3 S3 w t4' k3 hb3 q1 q2=>?_;have g43:=(k3.fr n J J (k1.ok.ne_o g4) (k1.ok.ne_y g4)).trans g4;have k4:=(k1.trans k3).put (zS _) g43 J hb3 (some (.row 143 (wa w)));refine qz ?_;exact⟨w,_,_,_,S3,rfl,rfl,k4,q1,q2⟩
 .have hcy:=Xo hd;have hmem:y∈ys:=zv9 (by rw[hd];exact zua)
  obtain⟨i1,a1,bid,oi,oa,l2,rfl,e1,e2,e3,e4,e5,e6,e7⟩:=k1.ok.sy y hmem;obtain⟨q1,q2,gy⟩:=k1.ok.gy (by intro e;simp only at e;rw[e]at hlt;simp at hlt)
  have hi1:=(List.getElem?_eq_some_iff.1 e1).1;have ha1:=(List.getElem?_eq_some_iff.1 e2).1;obtain⟨q3,q4,go⟩:=k1.ok.go (by intro e;simp only at e e1;rw[e]at e1;simp at e1)
  have c1:=aD e1 e3;have c2:=aD e2 e6;have hbid:=(k1.ok.bne e4).1;have hrow:=k1.ok.row;have hia:= @pL 2 yid (zM ys) i hlt;have hge1:=λ{L:za} {n:Nat} (hr:x3 L sp=some (Sto.row ⟨obs,oid,ys,yid,bs,ld,wd⟩)) (hs:sp<n) m b=> @Mv O h144 h165 sp n L ⟨obs,oid,ys,yid,bs,ld,wd⟩ hr hs i1 hi1 (by simp only;omega) m b
  have hge2:=λ{L:za} {n:Nat} (hr:x3 L sp=some (Sto.row ⟨obs,oid,ys,yid,bs,ld,wd⟩)) (hs:sp<n) m b=> @Mv O h144 h165 sp n L ⟨obs,oid,ys,yid,bs,ld,wd⟩ hr hs a1 ha1 (by simp only;omega) m b
  have hev:=λL n m md=>zy1 h143 l2 l J J L n m md;simp only at gy go q2 q4 hge1 hge2 hrow;simp only[wa]at hcy e5;simp only[qB]at t1 c2;clear hd;have hspn:sp<n2:=k1.ok.spn;have hw3:=k1.ok.wf;clear hw h hr e1 e2 e3 e6;refine xY ?_;refine xU (wV sW ?_);refine xX ?_;refine xU (x4 ?_);refine xY ?_;apply xU;refine wi ?_;refine xZ (hge1 (by (repeat rw[gN J]);exact hrow) J _ _) λv t hv=>?_
  obtain⟨m3,rfl,rfl⟩:=hv;refine wi ?_;refine xZ (hge2 (by (repeat rw[gN J]);exact hrow) J _ _) λv t hv=>?_
  obtain⟨m4,rfl,rfl⟩:=hv;refine wi ?_;refine xZ (hev _ _ _ _) λv t hv=>?_;obtain⟨⟨r,rfl⟩,rfl⟩:=hv;have g4:x3 L2 n=some (.row 143 [(0:Nat),(0:Nat)]):=(hfr n J).trans (x8 _ _ _);have hfr2:∀j,j<n->x3 L2 j=x3 L j:=λj hj=>by rw[hfr j J,gN J]
  cases r with
  | true=>
   have hk0:=k0;clear hge1 hge2 hev k0 hrow hfr;refine xX ?_;refine ev_zc ?_;refine⟨⟨.ofNat 7,.ofNat i1⟩,_,n2+1+1+1,_,_,rfl,rfl,StTo.put (n2:=n2+1+1+1) (j:=n) (t:=143) (cs:=[.int .i64 (.ofNat 0),.int .i64 (.ofNat 0)]) (k1.trans (k1.ok.more (L2:=_) ?_ J λj hj=>?_)) (zS _) ?_ J hbn _,?_,?_⟩
   ·(repeat first|exact hw3.up J|refine WfA.same ?_ J)
   ·(repeat rw[gN J])
   ·(repeat rw[gN J])
    exact g4
   .simp only;omega
   .simp only;omega
  | false=>
   have hk0:=k0;have hfr3:=hfr;clear hge1 hge2 hev k0 hrow hfr;refine xX ?_;refine xX ?_;refine xX ?_;refine⟨i+1,⟨_,_,n2+1+1+1,_,rfl,rfl,V,by simp (disch:=first|exact dis|fail)only[go_sem,seval,-rO,-rN, *,qB],V,V,V,V,J,?_,J,λj hj=>?_⟩,J⟩
   ·(repeat first|exact hw3.up J|refine WfA.same ?_ J)
   ·(repeat rw[gN J])
    exact hfr3 j hj
end
def KD{q:Bool}(sp:Nat)(L:za)(n:Nat)(S:Sto q)(k:Nat)(v:Z)(t:U):Prop:=∃w L2 n2 m2 S2,v=.agg (wa w)/\t=KL L2 n2 m2 false/\StTo sp L n S L2 n2 S2/\zM S2.obs<=zM S.obs+k/\zM S2.ys<=zM S.ys+k
theorem uW{α:Type}(l:List α)(x:α):(l++[x]).length=zM l+1:=by rw[yO];rfl
structure Own{q:Bool}(sp:Nat)(S:Sto q)(j:Nat):Prop where
 sp:j≠sp
 o:S.obs≠[]->j≠S.oid
 y:S.ys≠[]->j≠S.yid
 b:j∉S.bs
def StOk.fresh{j:Nat}{q:Bool}{S:Sto q}(h:StOk sp L n S)(hj:n<=j):Own sp S j where
 sp:=by have:=h.spn;omega
 o:=λhne=>by have:=(h.go hne).2.1;omega
 y:=λhne=>by have:=(h.gy hne).2.1;omega
 b:=λhb=>by have:=(h.bne hb).1;omega
def Own.to{j:Nat}{q:Bool}{S S2:Sto q}(h:Own sp S j)(hj:j<n)(k:StTo sp L n S L2 n2 S2):Own sp S2 j where
 sp:=h.sp
 o:=λhne e=>by
  rcases k.o hne with ⟨q1,q2⟩|q
  .exact h.o q1 (by rw[e,q2])
  .omega
 y:=λhne e=>by
  rcases k.y hne with ⟨q1,q2⟩|q
  .exact h.y q1 (by rw[e,q2])
  .omega
 b:=λhb=>by
  rcases k.b j hb with q|q
  .exact h.b q
  .omega
def Own.same{j:Nat}{q:Bool}{S S2:Sto q}(h:Own sp S j)(hj:j<n)(k:StTo sp L n S L2 n2 S2):x3 L2 j=x3 L j:=k.fr j hj h.sp h.o h.y
def StTo.put2{j:Nat}{q:Bool}{S S2:Sto q}(h:StTo sp L n S L2 n2 S2)(hj:n<=j)(hj2:j<n2)(hw:Own sp S2 j)(o:zj):StTo sp L n S ((j,o)::L2) n2 S2 where
 ok:=h.ok.put hj2 hw.sp hw.o hw.y hw.b o
 le:=h.le
 fr:=λi h1 h2 h3 h4=>by rw[gN J];exact h.fr i h1 h2 h3 h4
 o:=h.o
 y:=h.y
 b:=h.b
def StTo.new{q:Bool}{S S2:Sto q}(h:StTo sp L n S L2 n2 S2)(o:zj):StTo sp L n S ((n2,o)::L2) (n2+1) S2:=
 h.trans (h.ok.more (h.ok.wf.cons (yx _) (zuC _)) (zuC _) λj hj=>by rw[gN J])
def StOk.new{q:Bool}{S:Sto q}(h:StOk sp L n S)(o:zj):StTo sp L n S ((n,o)::L) (n+1) S:=
 h.more (h.wf.cons (yx _) (zuC _)) (zuC _) λj hj=>by rw[gN J]
def obN(b:Bool)(l:zr):Ob:=⟨[.int .i64 (.ofNat 7),.int .i64 (.ofNat 0),.nils,.bool b,v9 l],rfl,rfl⟩
section
variable {P:Program}{X:World}{O:Orc}
attribute [local go_sem] wW wR wa in
def CP(h111:O 149=none)(h112:O 150=none)(h142:O 180=some (uM P X 180 jx ZH GSm))(hs:vW P X 180 jx ZH GSm){S:Sto true}(h:StOk sp L n S)(hN:zM S.obs<100000000)(hl:zM l<100000000)(m:Nat):
  Cv (cl O 149 [.ptr sp 0,.agg [.bool b,.lst (zM l) false (xW qY l)]] (KL L n m false)) (KD sp L n S 1):=by
 refine wp (F:=f149) h111 rfl rfl (zv4 rfl) ?_;obtain⟨v,⟨k,g2,rfl⟩,hpv,hcall⟩:=vS h142 hs LB (b,l) hl (args:=jx (b,l)) (by simp only[jx,wkL,LI])
 simp only[jx,u4,v9]at hcall;have hp:=h.spn;have k0:=(h.new (some (.row 173 [.bool b,.lst (zM l) false (xW qY l)]))).new (some (.row 143 [(0:Nat),(0:Nat)]));have ha1:∀m,Cv (cl O 150 [.ptr sp 0,.agg [(7:Nat),(0:Nat),.nils,.bool b,.lst (zM l) false (xW qY l)]] (KL _ (n+1+1) m false)) λv t=>∃L2 n2 m2 oid2,v=.agg (wa ⟨.ofNat 7,.ofNat (zM S.obs)⟩)/\t=KL L2 n2 m2 false/\StTo sp _ (n+1+1) S L2 n2 {S with obs:=S.obs++[obN b l],oid:=oid2}:=λm=>Qm h112 k0.ok hN (obN b l) m
 have hcp:=wI jo l;unfold f149 cF;simp only;cases g2 with
 |true=>
  clear ha1;refine ev_zc ?_;refine⟨⟨.ofNat 1,k⟩,_,n+1+1,_,S,rfl,rfl,(k0.put2 J J (h.fresh J) _),J,J⟩
 |false=>
  refine xY ?_;refine xY ?_;refine xU (wi ?_);refine xZ (ha1 _) λv t hv=>?_;obtain⟨L2,n2,m2,oid2,rfl,rfl,k1⟩:=hv;have hle:=k1.le;have g4:=(((h.fresh J:Own sp S (n+1)).same J k1)).trans (x8 _ _ _);have ho:Own (q:=true) sp {S with obs:=S.obs++[obN b l],oid:=oid2} (n+1):=(h.fresh J:Own sp S (n+1)).to J k1
  have k2:=k0.trans k1;clear ha1 k1 k0;refine xX ?_;refine ev_zc ?_;exact⟨⟨.ofNat 7,.ofNat (zM S.obs)⟩,_,n2,_,_,rfl,rfl,k2.put2 J J ho _,by simp only[uW];omega,by simp only;omega⟩
attribute [local go_sem] wa in
def TN(h117:O 155=none)(L:za)(n m:Nat):cl O 155 [] (KL L n m false)=some (.agg (wa ⟨.ofNat 6,.ofNat 0⟩),KL L n m false):=by
 have key:Cv (cl O 155 [] (KL L n m false)) λv t=>v=.agg (wa ⟨.ofNat 6,.ofNat 0⟩)/\t=KL L n m false:=by
  refine vf (F:=f155) h117 rfl rfl (zv4 rfl) ?_;unfold f155 cF;simp only;refine ev_zc ?_;exact⟨rfl,rfl⟩
 obtain⟨v,t,h,rfl,rfl⟩:=key;exact h
end
def Qo{α:Type}{esz bytes:Nat}{f:α->zt}(hl:∀x,(f x).length=esz)(hs:∀x,wO (f x)=true)(he:1<=esz){Y:Nat}{vs:List α}{w:α}{y:Z}(hr:vs≠[]->Y<n/\x3 L Y=some (.row t (xW f vs) true false))(hw:WfA L n)(h1:j6 y=some 1)(h2:qu (KL L n m false) esz 1 y=some (f w))(hb:2*(zM vs+1)*bytes<=281474976710656)(hn:zM vs+1<1000000000000):
  Cv (uE (KL L n m false) t esz bytes (gSl esz Y (zM vs)) y) λv s=>∃L' m',v=gSl esz n (vs++[w]).length/\s=KL L' (n+1) m' false/\x3 L' n=some (.row t (xW f (vs++[w])) true false)/\WfA L' (n+1)/\(∀j,j<n->(vs≠[]->j≠Y)->x3 L' j=x3 L j):=by
 have hfl:xW f [w]=f w:=vh w;cases vs with
 |nil=>
  refine⟨_,_,Lh (q:=0) h1 h2 (.inl rfl) he (by simp only[xN,y8]at hb;exact hb) J,_,_,rfl,rfl,by rw[x5,wc rfl,zuc,hfl],λj hj=>?_,λj hj _=>by rw[gN J]⟩
  rw[gN J];exact hw j J
 | cons u us=>
  obtain⟨hid,g1⟩:=hr (by simp)
  simp only[yw]at hb hn;have hsw:wO (f w)=true:=hs w;refine⟨_,_,KO (q:=0) (by rw[wM];exact g1) (by rw[qK hl];rfl) h1 h2 hsw he hb J,_,_,?_,rfl,by rw[x5,wc rfl,wQ,hfl],λj hj=>?_,λj hj hne=>by rw[gN J,x5,x0 (hne (by simp))]⟩
  .simp only[yd,yw,yO,gSl]
   congr 1
  .rw[gN J,x5];split
   .rfl
   .exact hw j J
def StOk.oth{Y:Nat}{p:Prop}{q:Bool}{S:Sto q}(h:StOk sp L n S)(hw:WfA L2 n2)(hn:n<=n2)(ho:p->Own sp S Y)(hf:∀j,j<n->(p->j≠Y)->x3 L2 j=x3 L j):StOk sp L2 n2 S where
 wf:=hw
 row:=by rw[hf sp h.spn λhp e=>(ho hp).sp e.symm];exact h.row
 go:=λhne=>by
  obtain⟨q1,q2,q3⟩:=h.go hne;exact⟨q1,J,by rw[hf _ q2 λhp e=>(ho hp).o hne e.symm];exact q3⟩
 gy:=λhne=>by
  obtain⟨q1,q2,q3⟩:=h.gy hne;exact⟨q1,J,by rw[hf _ q2 λhp e=>(ho hp).y hne e.symm];exact q3⟩
 sy:=λy hy=>by
  have:=(h.sy y hy).mono (L2:=L2) (more:=[]) (λ_ hb=>hb) λj hj=>hf j (h.bne hj).1 λhp e=>(ho hp).b (e▸hj)
  rwa [zv6]at this
 bl:=λb hb=>by
  obtain⟨cs,hcs⟩:=h.bl b hb;exact⟨cs,by rw[hf b (h.bne hb).1 λhp e=>(ho hp).b (e▸hb)];exact hcs⟩
def StTo.oth{n1 Y:Nat}{p:Prop}{L1:za}{q:Bool}{S S1:Sto q}(h:StTo sp L n S L1 n1 S1)(hw:WfA L2 n2)(hn:n1<=n2)(ho:p->Own sp S1 Y/\n<=Y)(hf:∀j,j<n1->(p->j≠Y)->x3 L2 j=x3 L1 j):StTo sp L n S L2 n2 S1 where
 ok:=h.ok.oth hw hn (λhp=>(ho hp).1) hf
 le:=Nat.le_trans h.le hn
 fr:=λj h1 h2 h3 h4=>by
  have:=h.le;rw[hf j J λhp=>by have:=(ho hp).2;omega];exact h.fr j h1 h2 h3 h4
 o:=h.o
 y:=h.y
 b:=h.b
def iQ(O:Orc)(d:DT):Prop:=∀(sp:Nat) (L:za) (n:Nat) (S:Sto true) (m:Nat),StOk sp L n S->zM S.obs+2*wL d<100000000->zM S.ys+2*wL d<100000000->Cv (cl O 118 [.ptr sp 0,.agg (qA d)] (KL L n m false)) (KD sp L n S (2*wL d))
def JG(d:DT)(r:List DT):qf (d::r)=wL d+qf r:=by simp only[qf]
section
variable {O:Orc}
attribute [local go_sem] wW wR wa in
def aE(h65:O 76=none)(xs:List DT)(hx:∀x∈xs,iQ O x){S:Sto true}(h:StOk sp L n S)(hN:zM S.obs+2*qf xs<100000000)(hY:zM S.ys+2*qf xs<100000000)(m:Nat):
  Cv (cl O 76 [.ptr sp 0,.lst (zM xs) false (wy xs)] (KL L n m false)) λv t=>∃Y vs L2 n2 m2 S2,v=gSl 2 Y (zM vs)/\zM vs=zM xs/\t=KL L2 n2 m2 false/\StTo sp L n S L2 n2 S2/\zM S2.obs<=zM S.obs+2*qf xs/\zM S2.ys<=zM S.ys+2*qf xs/\(vs≠[]->n<=Y/\Y<n2/\Own sp S2 Y/\x3 L2 Y=some (.row 143 (xW wa vs) true false)):=by
 refine wp (F:=f76) h65 rfl rfl (zv4 rfl) ?_;have hxl:=vQ xs;unfold f76 cF;simp only;refine xY ?_;refine xU (xU (xX ?_));apply x4;refine wq (λi:Nat=>zM xs-i) (λi f t=>∃T L2 n2 m2 S2 Y vs,f=⟨tmL T,[]⟩/\t=KL L2 n2 m2 false/\G T 0 (.ptr sp 0)/\G T 4 (gSl 2 Y (zM vs))/\G T 7 (.lst (zM xs) false (wy xs))/\G T 8 (zM xs)/\G T 9 i/\i<=zM xs/\zM vs=i/\StTo sp L n S L2 n2 S2/\zM S2.obs+2*qf (xs.drop i)<=zM S.obs+2*qf xs/\zM S2.ys+2*qf (xs.drop i)<=zM S.ys+2*qf xs/\(vs≠[]->n<=Y/\Y<n2/\Own sp S2 Y/\x3 L2 Y=some (.row 143 (xW wa vs) true false))) (λi f t hI=>?_) 0 ⟨_,L,n,m,S,0,[],rfl,rfl,sW,by simp (disch:=first|exact dis|fail)only[go_sem,seval,-rO,-rN,gSl],sW,sW,sW,yh _,rfl,h.more h.wf (zS _) λ_ _=>rfl,zS _,zS _,λhne=>absurd rfl hne⟩
 obtain⟨T,L2,n2,m2,S2,Y,vs,rfl,rfl,t0,t4,t7,t8,t9,hi,rfl,k1,hb1,hb2,hg⟩:=hI;rcases wj xs (zM vs)with ⟨hlt,hd⟩|⟨x,hlt,hd⟩
 .have hni:¬zM vs<zM xs:=J;rw[hd]at hb1 hb2;refine xX ?_;refine ev_zc ?_;exact⟨Y,vs,L2,n2,_,S2,rfl,J,rfl,k1,by simp only[qf]at hb1;omega,by simp only[qf]at hb2;omega,hg⟩
 .have hcx:=Ws hd;rw[<-vr]at hcx;rw[hd]at hb1 hb2;rw[JG]at hb1 hb2;have hxc:=hx x (zv9 (by rw[hd];exact zua))
  obtain⟨xk,xn,xt,xks,xp⟩:=x;simp only[wz]at hcx;have hle:=k1.le;have k2:=(k1.ok.new (some (.row 120 [(0:Nat),(0:Nat),.str [],.nils,(0:Nat)])));have k3:StTo sp L2 n2 S2 ((n2,some (.row 120 [xk,xn,.str xt,.lst (zM xks) false (wy xks),xp]))::(n2,some (.row 120 [(0:Nat),(0:Nat),.str [],.nils,(0:Nat)]))::L2) (n2+1) S2:=k2.put2 (zS _) (yx _) (k1.ok.fresh (zS _)) _;have hcall:=λm=>hxc sp _ (n2+1) S2 m k3.ok J J;simp only[wz]at hcall;refine xY ?_;refine xU (wV sW ?_);refine xX ?_;refine xU (x4 ?_);refine xY ?_;refine wi ?_;refine xZ (hcall _) λv t hv=>?_;obtain⟨w,L4,n4,m4,S4,rfl,rfl,k4,hc1,hc2⟩:=hv;have k5:=(k1.trans k3).trans k4;have k6:=k5.new (some (.row 143 (wa w)));have hle3:=k3.le;have hle4:=k4.le;clear hcall hxc;have hid:vs≠[]->n<=Y/\Y<n4/\Own sp S4 Y/\x3 ((n4,some (AObj.row 143 (wa w)))::L4) Y=some (.row 143 (xW wa vs) true false):=λhne=>by
   obtain⟨q1,q2,q3,q4⟩:=hg hne;refine⟨q1,J,q3.to J k4,?_⟩;rw[gN J,q3.same J k4,q3.same q2 k3];exact q4
  have hsrc:∀m,qu (KL ((n4,some (AObj.row 143 (wa w)))::L4) (n4+1) m false) 2 1 (.sl n4 0 1 (.fix 1))=some (wa w):=λm=>(j7 (j:=0) (by rw[wM,x8]) rfl).2
  refine wi ?_;refine xZ (Qo (f:=wa) (Y:=Y) (vs:=vs) (w:=w) ud jV J (λhne=>⟨by have:=(hid hne).2.1;omega,(hid hne).2.2.2⟩) k6.ok.wf rfl (hsrc _) J J) λv t hv=>?_
  obtain⟨L7,m7,rfl,rfl,g7,hw7,hf7⟩:=hv;have k7:StTo sp L n S L7 (n4+1+1) S4:=k6.oth (p:=vs≠[]) (Y:=Y) hw7 (zuC _) (λhp=>⟨(hid hp).2.2.1,(hid hp).1⟩) hf7;have ho7:Own sp S4 (n4+1):=k6.ok.fresh (zS _);have hcat:=uW vs w;clear hid hg k6 k5 k4 k3 k2 k1 hf7;refine xX ?_;refine xX ?_;exact⟨zM vs+1,⟨_,L7,n4+1+1,_,S4,n4+1,vs++[w],rfl,rfl,V,V,V,V,V,J,hcat,k7,J,J,λ_=>⟨J,J,ho7,g7⟩⟩,J⟩
end
def dE{l:Nat}{ps:zr}{asg body:ICode}{A tm2:zu}{vs:zt}{R:Z->U->Prop}(hg:x3 L l=some (.loop .ready none A ps asg body dd))(hp:Zv A ps vs=some tm2)
  (hA:Ev (evC env (evW env O) (some l) asg ⟨tm2,[]⟩ (KL L n m b)) λr fr s=>r=.norm/\∃L2 n2 m2,s=KL L2 n2 m2 b/\x3 L2 l=some (.loop .ready none A ps asg body dd)/\Ev (evC env (evW env O) (some l) body fr (KL ((l,some (.loop .busy none A ps asg body dd))::L2) n2 (kr m2 l) b)) λr fr s=>r=.norm/\∃L3 n3 m3 st pd,s=KL L3 n3 m3 b/\x3 L3 l=some (.loop st pd A ps asg body dd)/\R (.bool true) (KL ((l,some (.loop .ready none A ps asg body dd))::L3) n3 (kr m3 l) b)):
  Cv ((evW env O).round l vs (KL L n m b)) R:=by
 obtain⟨r,fr,s,e1,rfl,L2,n2,m2,rfl,g2,r2,fr2,s2,e2,rfl,L3,n3,m3,st,pd,rfl,g3,hr⟩:=hA;rw[lW,PN,wM,hg,PL,hp,PM,e1,Wb,wM,g2,PJ,kJ,e2,Qi,wM,g3,fR,kJ];exact⟨_,_,rfl,hr⟩
def JU:zr×ICode×ICode:=match f154.body with
 |.seq _ (.seq (.seq _ (.block _ (.rf _ ps a b))) _)=>(ps,a,b)
 |_=>([],.skip,.skip)
def obL(Y:Nat):Ob:=⟨[.int .i64 (.ofNat 0),.int .i64 (.ofNat 0),.sl Y 0 2 (.fix 2),.bool false,.nils],rfl,rfl⟩
section
variable {O:Orc}
attribute [local go_sem] wR in
def RQ(h:O 184=none){Y:Nat}(b:Bool):
  Cv (cl O 184 [gSl 2 Y k] (KL L n m b)) λv t=>∃m2,v=.fn 204 [] [.ptr n 0]/\t=KL ((n,some (.row 115 [gSl 2 Y k]))::L) (n+1) m2 b:=by
 refine wp (F:=f184) h rfl rfl (zv4 rfl) ?_;unfold f184 cF;simp only;refine xY ?_;refine xY ?_;refine ev_zc ?_;exact⟨_,rfl,rfl⟩
structure LsB(sp:Nat)(L:za)(n:Nat)(S:Sto true)(nb b3 b5 l Y k:Nat)(vs:List Vl)(tF:List (Nat×Z))(dd:Nat)(w:Vl):Prop where
 gnb:x3 L nb=some (.row 115 [gSl 2 Y k])
 g3:x3 L b3=some (.row 83 [.ptr sp 0])
 g5:x3 L b5=some (.row 143 (wa w))
 gl:x3 L l=some (.loop .ready none (tmL tF) JU.1 JU.2.1 JU.2.2 dd)
 gid:vs≠[]->x3 L Y=some (.row 143 (xW wa vs) true false)
 nnb:nb<n
 n3:b3<n
 n5:b5<n
 nl:l<n
 nid:vs≠[]->Y<n
 onb:Own sp S nb
 o3:Own sp S b3
 o5:Own sp S b5
 ol:Own sp S l
 oid:vs≠[]->Own sp S Y
def LsB.to{b3 b5 l Y:Nat}{S S2:Sto true}{vs:List Vl}{w:Vl}(h:LsB sp L n S nb b3 b5 l Y k vs tF dd w)(g:StTo sp L n S L2 n2 S2):LsB sp L2 n2 S2 nb b3 b5 l Y k vs tF dd w where
 gnb:=by rw[h.onb.same h.nnb g];exact h.gnb
 g3:=by rw[h.o3.same h.n3 g];exact h.g3
 g5:=by rw[h.o5.same h.n5 g];exact h.g5
 gl:=by rw[h.ol.same h.nl g];exact h.gl
 gid:=λhne=>by rw[(h.oid hne).same (h.nid hne) g];exact h.gid hne
 nnb:=zO h.nnb g.le
 n3:=zO h.n3 g.le
 n5:=zO h.n5 g.le
 nl:=zO h.nl g.le
 nid:=λhne=>zO (h.nid hne) g.le
 onb:=h.onb.to h.nnb g
 o3:=h.o3.to h.n3 g
 o5:=h.o5.to h.n5 g
 ol:=h.ol.to h.nl g
 oid:=λhne=>(h.oid hne).to (h.nid hne) g
end
section
variable {O:Orc}
attribute [-go_sem] lW in
attribute [local go_sem] wW wR wa in
def EP(h166:O 204=none)(h112:O 150=none){n0 b3 b5 l Y:Nat}{L0:za}{S0 S:Sto true}{vs:List Vl}{w:Vl}(hk:StTo sp L0 n0 S0 L n S)(hB:LsB sp L n S nb b3 b5 l Y (zM vs) vs tF dd w)(t3:G tF 3 (.ptr b3 0))(t5:G tF 5 (.ptr b5 0))(h5:n0<=b5)(hl:n0<=l)(hN:zM S.obs+zM vs<100000000)(m:Nat)(b:Bool):
  Cv (cl O 204 [.yld l,.ptr nb 0] (KL L n m b)) λv t=>∃L2 n2 m2 S2 w2,t=KL L2 n2 m2 b/\StTo sp L0 n0 S0 L2 n2 S2/\LsB sp L2 n2 S2 nb b3 b5 l Y (zM vs) vs tF dd w2/\zM S2.obs<=zM S.obs+zM vs/\zM S2.ys=zM S.ys/\(∀j,j<n->j≠b5->j≠l->Own sp S j->j<n2/\x3 L2 j=x3 L j/\Own sp S2 j):=by
 refine wp (F:=f204) h166 rfl rfl (zv4 rfl) ?_;have hs3:=U3 (k:=zM vs) J;have gnb:=hB.gnb;unfold f204 cF;simp only;refine xY ?_;apply x4;refine wq (λk:Nat=>k) (λk fr s=>∃T L2 n2 m2 S2 w2,fr=⟨tmL T,[]⟩/\s=KL L2 n2 m2 false/\G T 0 (.yld l)/\G T 1 (.ptr nb 0)/\G T 3 (.int .i64 (i3 k))/\k<=zM vs/\StTo sp L0 n0 S0 L2 n2 S2/\LsB sp L2 n2 S2 nb b3 b5 l Y (zM vs) vs tF dd w2/\zM S2.obs+k<=zM S.obs+zM vs/\zM S2.ys=zM S.ys/\(∀j,j<n->j≠b5->j≠l->Own sp S j->j<n2/\x3 L2 j=x3 L j/\Own sp S2 j)) (λk2 fr s hI=>?_) (zM vs) ⟨_,L,n,m,S,w,rfl,rfl,sW,sW,sW,zS _,hk,hB,zS _,rfl,λj h1 _ _ h2=>⟨h1,rfl,h2⟩⟩;clear hs3 gnb hB hk;obtain⟨T,L2,n2,m2,S2,w2,rfl,rfl,q0,q1,q3,hk3,hk,hB,hb1,hb2,hF⟩:=hI;cases k2 with
 |zero=>
  simp only[i3]at q3;refine ev_zc ?_;exact⟨L2,n2,m2,S2,w2,rfl,hk,hB,J,hb2,hF⟩
 | succ k2=>
  have hlt:k2<zM vs:=J;have hia:= @pL 2 Y (zM vs) k2 hlt;obtain⟨x,hd⟩:∃x,vs.drop k2=x::vs.drop (k2+1):=⟨_,zuo hlt⟩;have hcx:=Xo hd;have hne:vs≠[]:=λe=>by rw[e]at hlt;simp at hlt
  have gid:=hB.gid hne;have gnb:=hB.gnb;have hs2:=U3 (k:=k2) J;simp only[i3]at q3;obtain⟨x1,x2⟩:=x;simp only[wa]at hcx;clear hd;refine xY ?_;refine xU (x4 ?_);apply xU;refine wi ?_;have hround:∀m,Cv ((evW env O).round l [.int .i64 (.ofNat k2),.agg [x1,x2]] (KL L2 n2 m false)) λv t=>v=.bool true/\∃L3 n3 m3 S3 w3,t=KL L3 n3 m3 false/\StTo sp L0 n0 S0 L3 n3 S3/\LsB sp L3 n3 S3 nb b3 b5 l Y (zM vs) vs tF dd w3/\zM S3.obs<=zM S2.obs+1/\zM S3.ys=zM S2.ys/\(∀j,j<n2->j≠b5->j≠l->Own sp S2 j->j<n3/\x3 L3 j=x3 L2 j/\Own sp S3 j):=λm=>by
   refine dE hB.gl rfl ?_;have gl:=hB.gl;have g3:=hB.g3;have g5:=hB.g5;have nl:=hB.nl;have n3:=hB.n3;have n5:=hB.n5;have hle:=hk.le;have e1:b5≠l:=λe=>by rw[e,gl]at g5;cases g5
   have e2:b3≠l:=λe=>by rw[e,gl]at g3;cases g3
   have e3:b3≠b5:=λe=>by rw[e,g5]at g3;simp at g3
   have c0:=hk.ok.new (some (.row 143 [(0:Nat),(0:Nat)]));have c1:=c0.put2 (j:=n2) (zS _) (yx _) (hk.ok.fresh (zS _)) (some (.row 143 [x1,x2]));have hB1:=hB.to c1;have k1:=hk.trans c1;have k2':=k1.put2 (j:=l) hl J hB1.ol (some (.loop .busy none (tmL tF) JU.1 JU.2.1 JU.2.2 dd));simp only[JU,f154]at gl k2'|-;refine xX ?_;refine⟨trivial,_,_,_,rfl,V,?_⟩;apply x4;have k4:=k2'.new (some (.row 143 [x1,x2,w2.k,w2.n]));have ha1:∀m,Cv (cl O 150 [.ptr sp 0,.agg [(0:Nat),(0:Nat),.sl (n2+1) 0 2 (.fix 2),.bool false,.nils]] (KL _ (n2+1+1) m false)) λv t=>∃L3 n3 m3 oid3,v=.agg (wa ⟨.ofNat 7,.ofNat (zM S2.obs)⟩)/\t=KL L3 n3 m3 false/\StTo sp _ (n2+1+1) S2 L3 n3 {S2 with obs:=S2.obs++[obL (n2+1)],oid:=oid3}:=λm=>Qm h112 k4.ok J (obL (n2+1)) m
   refine wi ?_;refine xZ (ha1 _) λv t hv=>?_;obtain⟨L3,n3',m3,oid3,rfl,rfl,k5⟩:=hv;have hle5:=k5.le;have hsame:∀j,j<n2->Own sp S2 j->j≠l->x3 L3 j=x3 L2 j:=λj hj ho hjl=>by
    rw[ho.same J k5]
    repeat rw[gN J]
   have gl3:=hB.ol.same J k5;have g53:=(hsame b5 n5 hB.o5 e1).trans g5;have onb:=(hB.onb.to (by have:=hB.nnb;omega) k5)
   have o3:=(hB.o3.to J k5);have o5:=(hB.o5.to J k5);have ol:=(hB.ol.to J k5);have oid':=λhne=>((hB.oid hne).to (by have:=hB.nid hne;omega) k5)
   have gnb3:=(hsame nb hB.nnb hB.onb (λe=>by rw[e,gl]at gnb;cases gnb)).trans gnb
   have g33:=(hsame b3 n3 hB.o3 e2).trans g3;have gid3:=(hsame Y (hB.nid hne) (hB.oid hne) (λe=>by rw[e,gl]at gid;cases gid)).trans gid
   have k6:=((k4.trans k5).put2 h5 J o5 (some (.row 143 (wa ⟨.ofNat 7,.ofNat (zM S2.obs)⟩)))).put2 hl J ol (some (.loop .ready none (tmL tF) JU.1 JU.2.1 JU.2.2 dd));simp only[JU,f154]at k6;rw[x5,x0 (show ¬l=n2+1 by omega),x8]at gl3
   have hfin:∀j,j<n2->j≠b5->j≠l->Own sp S2 j->j<n3'/\x3 L3 j=x3 L2 j/\Own (q:=true) sp {S2 with obs:=S2.obs++[obL (n2+1)],oid:=oid3} j:=λj h1 h2 h3 h4=>⟨J,hsame j h1 h4 h3,h4.to J k5⟩
   clear ha1 k4 k2' hsame;simp only[wa]at g53;refine xX ?_;refine⟨trivial,_,_,_,_,_,rfl,(x5 _ _ _ _).trans ((x0 e1.symm).trans gl3),trivial,_,_,_,{S2 with obs:=S2.obs++[obL (n2+1)],oid:=oid3},⟨.ofNat 7,.ofNat (zM S2.obs)⟩,rfl,k6,?_,by simp only[uW];omega,rfl,λj h1 h2 h3 h4=>(by
    obtain⟨p1,p2,p3⟩:=hfin j h1 h2 h3 h4;exact⟨p1,by rw[x5,x0 h3,x5,x0 h2];exact p2,p3⟩)⟩
   have nnb:=hB.nnb;have f1:nb≠l:=λe=>by rw[e,gl]at gnb;cases gnb
   have f2:nb≠b5:=λe=>by rw[e,g5]at gnb;simp at gnb
   have f3:Y≠l:=λe=>by rw[e,gl]at gid;cases gid
   have f4:Y≠b5:=λe=>by rw[e,g5]at gid;simp at gid
   refine⟨?_,?_,?_,x8 _ _ _,λ_=>?_,J,J,J,J,λh=>by have:=hB.nid h;omega,onb,o3,o5,ol,oid'⟩
   .rw[x5,x0 f1,x5,x0 f2];exact gnb3
   .rw[x5,x0 e2,x5,x0 e3];exact g33
   .rw[x5,x0 e1,x8];rfl
   .rw[x5,x0 f3,x5,x0 f4];exact gid3
  refine xZ (hround _) λv t hv=>?_;obtain⟨rfl,L3,n3,m3,S3,w3,rfl,k3,hB3,hc1,hc2,hG⟩:=hv;have hF3:=λj h1 h2 h3 h4=>(hF j h1 h2 h3 h4);clear hround gnb gid hF;refine xX ?_;refine xX ?_;refine xX ?_;exact⟨k2,⟨_,L3,n3,_,S3,w3,rfl,rfl,V,V,V,J,k3,hB3,J,J,λj h1 h2 h3 h4=>(by
   obtain⟨p1,p2,p3⟩:=hF3 j h1 h2 h3 h4;obtain⟨p4,p5,p6⟩:=hG j p1 h2 h3 p3;exact⟨p4,p5.trans p2,p6⟩)⟩,J⟩
end
section
variable {O:Orc}
attribute [local go_sem] wW wR wa in
def TI(h116:O 154=none)(h146:O 184=none)(h166:O 204=none)(h112:O 150=none){Y:Nat}{S:Sto true}(h:StOk sp L n S){vs:List Vl}(hv:vs≠[]->Y<n/\Own sp S Y/\x3 L Y=some (.row 143 (xW wa vs) true false))(w:Vl)(hN:zM S.obs+zM vs<100000000)(m:Nat):
  Cv (cl O 154 [.ptr sp 0,gSl 2 Y (zM vs),.agg (wa w)] (KL L n m false)) (KD sp L n S (zM vs)):=by
 refine wp (F:=f154) h116 rfl rfl (zv4 rfl) ?_;have hw:=h.wf;have hsp:=h.spn;unfold f154 cF;simp only;refine xY ?_;refine xU (xU (wi ?_));refine xZ (RQ h146 false) λv t hv2=>?_;obtain⟨m2,rfl,rfl⟩:=hv2;refine xX ?_;apply x4;refine wi ?_;refine In (EP h166 h112 (L0:=L) (n0:=n) (S0:=S) (S:=S) (b3:=n) (b5:=n+1) (Y:=Y) (vs:=vs) (w:=w) (h.more ?_ J λj hj=>?_) ⟨?_,?_,?_,x8 _ _ _,λhne=>?_,J,J,J,J,λhne=>?_,h.fresh J,h.fresh J,h.fresh J,h.fresh J,λhne=>(hv hne).2.1⟩ ?_ ?_ J J hN _ false) λv t hr=>?_
 ·(repeat first|exact hw.up J|refine WfA.same ?_ J)
 ·(repeat rw[gN J])
 .simp (disch:=first|exact dis|fail)only[go_sem,seval,-rO,-rN]
 .simp (disch:=first|exact dis|fail)only[go_sem,seval,-rO,-rN]
 .simp (disch:=first|exact dis|fail)only[go_sem,seval,-rO,-rN]
 .have:=(hv hne).1
  (repeat rw[gN J])
  exact(hv hne).2.2
 .have:=(hv hne).1;omega
 .simp (disch:=first|exact dis|fail)only[go_sem,seval,-rO,-rN]
 .simp (disch:=first|exact dis|fail)only[go_sem,seval,-rO,-rN]
 obtain⟨L2,n2,m3,S2,w2,rfl,k1,hB,hb1,hb2,hF⟩:=hr;have gl:=hB.gl;obtain⟨z1,gd,od⟩:=hF (n+1+1+1+1) J J J (h.fresh J);obtain⟨z2,g6,o6⟩:=hF (n+1+1) J J J (h.fresh J);have g5:=hB.g5;have ol:=hB.ol;have nl:=hB.nl;simp (disch:=first|exact dis|fail)only[go_sem,seval,-rO,-rN]at gd
 simp (disch:=first|exact dis|fail)only[go_sem,seval,-rO,-rN]at g6
 simp only[JU,f154]at gl;simp only[wa]at g5;clear hF hB hv;refine xX ?_;refine xY ?_;refine jr (r:=.ret) ?_;show Cv _ _;rw[kf (by (repeat rw[gN J]);exact gd)]
 refine qz ?_;exact⟨w2,_,n2,_,S2,rfl,rfl,((k1.put2 J J ol _).put2 J J o6 _).put2 J J od _,hb1,J⟩
end
def UL:∀(N:Nat) (d:DT),wL d<N->vz d=true->TxD d->(∀x∈(wU d).1,vz x=true/\TxD x)/\vz (wU d).2=true/\TxD (wU d).2
 |0,_,h,_,_=>by omega
 | N+1,d,h,hm,ht=>by
  cases hk:qI d with
  |none=>rw[jj hk];exact⟨by simp,hm,ht⟩
  |some p=>
   obtain⟨x,y⟩:=p;have hn:=uu hk;rw[WH hk,zP]at hm;have htk:=ht.kids hk;have hpx:=qW x;obtain⟨h1,h2,h3⟩:=UL N y J hm.2 htk.2;rw[vZ hk];refine⟨λz hz=>?_,h2,h3⟩;rcases List.mem_cons.1 hz with rfl|hz
   .exact⟨hm.1,htk.1⟩
   .exact h1 z hz
def UM:∀(N:Nat) (d:DT),wL d<N->qf (wU d).1+wL (wU d).2+(wU d).1.length<=wL d
 |0,_,h=>by omega
 | N+1,d,h=>by
  cases hk:qI d with
  |none=>rw[jj hk];simp[qf]
  |some p=>
   obtain⟨x,y⟩:=p;have hn:=uu hk;have hpx:=qW x;have h1:=UM N y J;rw[vZ hk];simp only[qf,yw];omega
def MU{kd dn:Int}{dt:zr}{dk:List DT}{dp:Int}(h:vz (.mk kd dn dt dk dp)=true)(h6:kd≠.ofNat 6)(h7:kd≠.ofNat 7):Vd kd dn dt=true:=by
 have hk:qI (.mk kd dn dt dk dp)=none:=by
  cases hk:qI (.mk kd dn dt dk dp)with
  |none=>rfl
  |some p=>exact absurd (v7 (x:=p.1) (y:=p.2) hk).1 h6
 rw[Zn hk,x0 h7,zP]at h;exact h.2
def NG(h:O 148=some Mg){t:zr}(hb:Byt t)(hl:t.length<2000000)(hn:YD t=true)(s:U):(evW env O).call 148 [.str t] s=some (oI t,s):=by
 rw[qc h,Mg,vo pH s t ⟨⟨hb,hl⟩,hn⟩ rfl]
def obK(k:Int)(x:Z)(hx:vV x=true):Ob:=⟨[.int .i64 k,.int .i64 (.ofNat 0),x,.bool false,.nils],rfl,by simp only[jC,gR,lC,Z5,hx];rfl⟩
structure VOrc(P:Program)(X:World)(O:Orc):Prop where
 h65:O 76=none
 h86:O 118=none
 h111:O 149=none
 h112:O 150=none
 h114:O 152=none
 h116:O 154=none
 h117:O 155=none
 h144:O 182=none
 h165:O 203=none
 h143:O 181=none
 h146:O 184=none
 h166:O 204=none
 h145:O 183=some Ke
 h110:O 148=some Mg
 h113:O 151=some QH
 h115:O 153=some GH
 h142:O 180=some (uM P X 180 jx ZH GSm)
 hfx:vW P X 180 jx ZH GSm
section
variable {P:Program}{X:World}{O:Orc}
attribute [local go_sem] wW wR wa in
def Fw(H:VOrc P X O)(hm:vz d=true)(ht:TxD d)(hn:wL d<=1100000)(ih:∀x,wL x<wL d->vz x=true->TxD x->iQ O x):iQ O d:=by
 intro sp L n S m h hN hY;refine wp (F:=f118) H.h86 rfl rfl (zv4 rfl) ?_;have hw:=h.wf;have hsp:=h.spn;obtain⟨kd,dn,dt,dk,dp⟩:=d;have k0:∀a b:zj,StTo sp L n S ((n+1,a)::(n,b)::L) (n+1+1) S:=λa b=>(h.new b).new a;have ho1:Own sp S (n+1):=h.fresh J;have hpos:=qW (.mk kd dn dt dk dp);have hsim:∀(w:Vl) (a b c:zj) (m2:Nat),KD sp L n S (2*wL (.mk kd dn dt dk dp)) (.agg (wa w)) (KL ((n+1,a)::(n+1,b)::(n,c)::L) (n+1+1) m2 false):=λw a b c m2=>⟨w,_,_,_,S,rfl,rfl,(k0 b c).put2 J J ho1 a,J,J⟩;simp only[wz];unfold f118 cF;simp only;by_cases e1:kd=.ofNat 1
 .subst e1;clear k0;refine xY ?_;refine xY ?_;refine qz ?_;exact hsim ⟨.ofNat 3,dn⟩ _ _ _ _
 have n1:=w8 e1;by_cases e3:kd=.ofNat 3
 .subst e3;clear k0;refine xY ?_;refine xY ?_;refine qz ?_;exact hsim ⟨.ofNat 2,dn⟩ _ _ _ _
 have n3:=w8 e3;by_cases e9:kd=.ofNat 9
 .subst e9;clear k0;refine xY ?_;refine xY ?_;refine qz ?_;exact hsim ⟨.ofNat 5,.ofNat 0⟩ _ _ _ _
 have n9:=w8 e9;by_cases e10:kd=.ofNat 10
 .subst e10;have hno:=λL n m=>TN H.h117 L n m;simp only[wa]at hno;clear k0;refine xY ?_;refine xY ?_;refine qz ?_;exact hsim ⟨.ofNat 6,.ofNat 0⟩ _ _ _ _
 have n10:=w8 e10;simp only[TxD]at ht;have hfin:∀{L1:za} {L2:za} {n2 m2:Nat} {S2:Sto true} (w:Vl),StTo sp L n S L1 (n+1+1) S->StTo sp L1 (n+1+1) S L2 n2 S2->zM S2.obs<=zM S.obs+2*wL (.mk kd dn dt dk dp)->zM S2.ys<=zM S.ys+2*wL (.mk kd dn dt dk dp)->KD sp L n S (2*wL (.mk kd dn dt dk dp)) (.agg (wa w)) (KL ((n+1,some (.row 143 (wa w)))::L2) n2 m2 false):=λw ka kb h1 h2=>⟨w,_,_,_,_,rfl,rfl,(ka.trans kb).put2 J (by have:=kb.le;omega) (ho1.to J kb) _,h1,h2⟩
 by_cases e2:kd=.ofNat 2
 .subst e2;have hnum:YD dt=true:=MU hm (by decide) (by decide)
  have hpc:=λs=>NG H.h110 ht.1 ht.2.1 hnum s;simp only[oI,u4,v9]at hpc;have hll:(uU (UX (trL l6 dt) [])).length<100000000:=by
   have a1:=U7 (UX (trL l6 dt) []);have a2:=fN (trL l6 dt) [];have a3:=AE l6 dt;simp only[xN]at a2;omega
  generalize uU (UX (trL l6 dt) [])=l at *;generalize JQ (ngF dt) _=g at *;have hcp:wo (xW qY l)=true:=wI jo l;refine xY ?_;apply xU;refine xY ?_;apply x4;refine xY ?_;refine wY sW ?_;refine xY ?_;refine wV sW ?_;refine xY ?_;refine xU (wi ?_);have k1:=λa b c:zj=>(k0 a b).new c;refine xZ (CP H.h111 H.h112 H.h142 H.hfx ((k1 _ _ _).put2 (j:=n+1+1) J J (h.fresh J) _).ok J hll _) λv t hv=>?_;obtain⟨w,L2,n2,m2,S2,rfl,rfl,k2,hc1,hc2⟩:=hv;have hle:=k2.le;have g4:=(ho1.same J k2);simp (disch:=first|exact dis|fail)only[go_sem,seval,-rO,-rN]at g4
  have k3:=(((k1 _ _ _).put2 (j:=n+1+1) J J (h.fresh J) _).trans k2).put2 (j:=n+1) J J (ho1.to J k2) (some (.row 143 (wa w)));clear k0 k1 hfin k2 hpc;refine xX ?_;refine ev_zc ?_;exact⟨w,_,n2,_,S2,rfl,rfl,k3,J,J⟩
 have n2:=w8 e2;by_cases e4:kd=.ofNat 4
 .subst e4;have hch:=λs=>Yp H.h113 ⟨ht.1,ht.2.1⟩ s;simp only[qB]at hch;have ha1:∀m a b,Cv (cl O 150 [.ptr sp 0,.agg [(4:Nat),(0:Nat),.lst (jq dt).length false (xW wa (jq dt)),.bool false,.nils]] (KL ((n+1,a)::(n,b)::L) (n+1+1) m false)) λv t=>∃L2 n2 m2 oid2,v=.agg (wa ⟨.ofNat 7,.ofNat (zM S.obs)⟩)/\t=KL L2 n2 m2 false/\StTo sp _ (n+1+1) S L2 n2 {S with obs:=S.obs++[obS (jq dt)],oid:=oid2}:=λm a b=>Qm H.h112 (k0 a b).ok J (obS (jq dt)) m
  have hcp:=WA (jq dt);generalize xW wa (jq dt)=cs at *;refine xY ?_;apply xU;refine xY ?_;apply x4;refine xY ?_;refine wY sW ?_;refine xY ?_;refine wY sW ?_;refine xY ?_;refine wY sW ?_;refine xY ?_;refine wV sW ?_;refine xU (wi ?_);refine xZ (ha1 _ _ _) λv t hv=>?_;obtain⟨L2,n2,m2,oid2,rfl,rfl,k2⟩:=hv;have g4:=(ho1.same J k2);simp (disch:=first|exact dis|fail)only[go_sem,seval,-rO,-rN]at g4
  have hf:=λm=>hfin (m2:=m) ⟨.ofNat 7,.ofNat (zM S.obs)⟩ (k0 _ _) k2 (by simp only[uW];omega) (by simp only;omega)
  clear k0 hfin k2 hch ha1;simp only[wa]at hf;refine xX ?_;refine ev_zc ?_;exact hf _
 have n4:=w8 e4;by_cases e5:kd=.ofNat 5
 .subst e5;have hch:=λs=>Yp H.h113 ⟨ht.1,ht.2.1⟩ s;have hcl:=K6 dt;refine xY ?_;apply xU;refine xY ?_;apply x4;refine xY ?_;refine wY sW ?_;refine xY ?_;refine wY sW ?_;refine xY ?_;refine wY sW ?_;refine xY ?_;refine wY sW ?_;refine xY ?_;refine wV sW ?_;refine xU (wi ?_);refine xZ (DY H.h114 H.h112 H.h145 H.h143 H.h144 H.h165 (k0 _ _).ok J J (l:=jq dt) J _) λv t hv=>?_;obtain⟨w,L2,n2,m2,S2,rfl,rfl,k2,hc1,hc2⟩:=hv;have g4:=(ho1.same J k2);simp (disch:=first|exact dis|fail)only[go_sem,seval,-rO,-rN]at g4
  have hf:=λm=>hfin (m2:=m) w (k0 _ _) k2 J J;clear k0 hfin k2 hch;simp only[wa]at hf;refine xX ?_;refine ev_zc ?_;exact hf _
 have n5:=w8 e5;by_cases e8:kd=.ofNat 8
 .subst e8;refine xY ?_;apply xU;refine xY ?_;apply x4;refine xY ?_;refine wY sW ?_;refine xY ?_;refine wY sW ?_;refine xY ?_;refine wY sW ?_;refine xY ?_;refine wY sW ?_;refine xY ?_;refine wY sW ?_;refine xY ?_;refine wV sW ?_;have hlen:=ht.2.1;have hbyt:=ht.1;have hcs:∀l n m,JW (KL l n m false) 5 (.str dt)=some (.sl n 0 (zM dt) (.opn 1),KL ((n,some (.row 5 (wK dt) true false))::l) (n+1) m false):=λl n m=>by
   simp only[JW,qw,w9.2 (show (zM dt)<9223372036854775808 by omega),x6,Q5,wh]
   rfl
  refine xY ?_;refine xU (xU (xX ?_));apply x4;have k1:=λa b c:zj=>((k0 a b).new c);refine wq (λi:Nat=>zM dt-i) (λi f t=>∃T L2 n2 m2 Y vs,f=⟨tmL T,[]⟩/\t=KL L2 n2 m2 false/\G T 0 (.ptr sp 0)/\G T 4 (.ptr (n+1) 0)/\G T 7 (gSl 2 Y (zM vs))/\G T 55 (.sl (n+1+1) 0 (zM dt) (.opn 1))/\G T 56 (zM dt)/\G T 57 i/\i<=zM dt/\zM vs=i/\StTo sp L n S L2 n2 S/\n+1+1+1<=n2/\x3 L2 (n+1)=some (.row 143 [(0:Nat),(0:Nat)])/\x3 L2 (n+1+1)=some (.row 5 (wK dt) true false)/\(vs≠[]->n+1+1+1<=Y/\Y<n2/\x3 L2 Y=some (.row 143 (xW wa vs) true false))) (λi f t hI=>?_) 0 ⟨_,_,_,_,0,[],rfl,rfl,sW,sW,by simp (disch:=first|exact dis|fail)only[go_sem,seval,-rO,-rN,gSl],sW,sW,sW,yh _,rfl,k1 _ _ _,zS _,sW,sW,λhne=>absurd rfl hne⟩
  obtain⟨T,L2,n2',m2,Y,vs,rfl,rfl,t0,t4,t7,t55,t56,t57,hi,rfl,k2,hle2,g4,g5,hg⟩:=hI;rcases wj dt (zM vs)with ⟨hlt,hd⟩|⟨x,hlt,hd⟩
  .have hni:¬zM vs<zM dt:=J;have hsc:=vU 2 Y (zM vs);have hcc:=wR 2 Y (zM vs);have ha1:∀m,Cv (cl O 150 [.ptr sp 0,.agg [(6:Nat),(0:Nat),gSl 2 Y (zM vs),.bool false,.nils]] (KL L2 n2' m false)) λv t=>∃L3 n3 m3 oid3,v=.agg (wa ⟨.ofNat 7,.ofNat (zM S.obs)⟩)/\t=KL L3 n3 m3 false/\StTo sp _ n2' S L3 n3 {S with obs:=S.obs++[obK (.ofNat 6) (gSl 2 Y (zM vs)) hsc],oid:=oid3}:=λm=>Qm H.h112 k2.ok J (obK (.ofNat 6) (gSl 2 Y (zM vs)) hsc) m
   generalize gSl 2 Y (zM vs)=sv at *;clear hg;refine xX ?_;refine xU (wi ?_);refine xZ (ha1 _) λv t hv=>?_;obtain⟨L3,n3',m3,oid3,rfl,rfl,k3⟩:=hv;have g43:=(ho1.same J k3).trans g4;have k5:=(k2.trans k3).put2 (j:=n+1) J (by have:=k3.le;omega) (ho1.to J k3) (some (.row 143 (wa ⟨.ofNat 7,.ofNat (zM S.obs)⟩)))
   clear k0 k1 hfin k2 k3 ha1;refine xX ?_;refine ev_zc ?_;exact⟨⟨.ofNat 7,.ofNat (zM S.obs)⟩,_,n3',_,_,rfl,rfl,k5,by simp only[uW];omega,by simp only;omega⟩
  .have hx:x<256:=hbyt x (zv9 (by rw[hd];exact zua))
   have hb:wE 1 (wK (dt.drop (zM vs)))=some [.int .u8 (.ofNat x)]:=by rw[hd];rfl
   have k3:=k2.new (some (.row 143 (wa ⟨.ofNat 1,.ofNat x⟩)));have hsrc:∀m,qu (KL ((n2',some (AObj.row 143 (wa ⟨.ofNat 1,.ofNat x⟩)))::L2) (n2'+1) m false) 2 1 (.sl n2' 0 1 (.fix 1))=some (wa ⟨.ofNat 1,.ofNat x⟩):=λm=>(j7 (j:=0) (by rw[wM,x8]) rfl).2
   have hid:vs≠[]->Y<n2'+1/\x3 ((n2',some (AObj.row 143 (wa ⟨.ofNat 1,.ofNat x⟩)))::L2) Y=some (.row 143 (xW wa vs) true false):=λhne=>by
    obtain⟨q1,q2,q3⟩:=hg hne;exact⟨J,by rw[gN J];exact q3⟩
   clear hd;refine xY ?_;refine xU (wV sW ?_);refine xX ?_;refine xU (x4 ?_);refine xY ?_;refine wi ?_;refine xZ (Qo (f:=wa) (Y:=Y) (vs:=vs) (w:=⟨.ofNat 1,.ofNat x⟩) ud jV J hid k3.ok.wf rfl (hsrc _) J J) λv t hv=>?_;obtain⟨L7,m7,rfl,rfl,g7,hw7,hf7⟩:=hv;have k7:StTo sp L n S L7 (n2'+1+1) S:=k3.oth (p:=vs≠[]) (Y:=Y) hw7 (zuC _) (λhp=>⟨h.fresh (by have:=(hg hp).1;omega),by have:=(hg hp).1;omega⟩) hf7
   have g47:x3 L7 (n+1)=some (.row 143 [(0:Nat),(0:Nat)]):=by
    rw[hf7 _ J λhp=>by have:=(hg hp).1;omega,gN J];exact g4
   have g57:x3 L7 (n+1+1)=some (.row 5 (wK dt) true false):=by
    rw[hf7 _ J λhp=>by have:=(hg hp).1;omega,gN J];exact g5
   have hcat:=uW vs ⟨.ofNat 1,.ofNat x⟩;clear hid hg k3 k2 k1 k0 hf7 hfin;refine xX ?_;refine xX ?_;exact⟨zM vs+1,⟨_,L7,n2'+1+1,_,n2'+1,vs++[⟨.ofNat 1,.ofNat x⟩],rfl,rfl,V,V,V,V,V,V,J,hcat,k7,J,g47,g57,λ_=>⟨J,J,g7⟩⟩,J⟩
 have n8:=w8 e8;by_cases e7:kd=.ofNat 7
 .subst e7;have hk:qI (.mk (.ofNat 7) dn dt dk dp)=none:=by
   cases hk:qI (.mk (.ofNat 7) dn dt dk dp)with
   |none=>rfl
   |some p=>exact absurd (v7 (x:=p.1) (y:=p.2) hk).1 (by decide)
  rw[Zn hk,wc rfl]at hm;have hnk:wL (.mk (.ofNat 7) dn dt dk dp)=1+qf dk:=by simp only[wL]
  have hdc:∀x∈dk,iQ O x:=λx hx=>ih x (by rw[hnk];have:=vv hx;omega) (List.all_eq_true.1 hm x hx) (ht.2.2.mem hx)
  refine xY ?_;apply xU;refine xY ?_;apply x4;refine xY ?_;refine wY sW ?_;refine xY ?_;refine wY sW ?_;refine xY ?_;refine wY sW ?_;refine xY ?_;refine wY sW ?_;refine xY ?_;refine wY sW ?_;refine xY ?_;refine wY sW ?_;refine xY ?_;refine wV sW ?_;refine xU (wi ?_);refine xZ (aE H.h65 dk hdc (k0 _ _).ok J J _) λv t hv=>?_;obtain⟨Y,vs,L2,n2,m2,S2,rfl,hvl,rfl,k2,hc1,hc2,hg⟩:=hv;have hsc:=vU 2 Y (zM vs);have hcc:=wR 2 Y (zM vs);have ha1:∀m,Cv (cl O 150 [.ptr sp 0,.agg [(1:Nat),(0:Nat),gSl 2 Y (zM vs),.bool false,.nils]] (KL L2 n2 m false)) λv t=>∃L3 n3 m3 oid3,v=.agg (wa ⟨.ofNat 7,.ofNat (zM S2.obs)⟩)/\t=KL L3 n3 m3 false/\StTo sp _ n2 S2 L3 n3 {S2 with obs:=S2.obs++[obK (.ofNat 1) (gSl 2 Y (zM vs)) hsc],oid:=oid3}:=λm=>Qm H.h112 k2.ok J (obK (.ofNat 1) (gSl 2 Y (zM vs)) hsc) m
  generalize gSl 2 Y (zM vs)=sv at *;refine wi ?_;refine xZ (ha1 _) λv t hv=>?_;obtain⟨L3,n3',m3,oid3,rfl,rfl,k3⟩:=hv;have k4:=k2.trans k3;have g4:=(ho1.same J k4);simp (disch:=first|exact dis|fail)only[go_sem,seval,-rO,-rN]at g4
  have hf:=λm=>hfin (m2:=m) ⟨.ofNat 7,.ofNat (zM S2.obs)⟩ (k0 _ _) k4 (by simp only[uW];omega) (by simp only;omega)
  clear k0 hfin k2 k3 k4 ha1 hg;simp only[wa]at hf;refine xX ?_;refine ev_zc ?_;exact hf _
 have n7:=w8 e7;by_cases e6:kd=.ofNat 6
 .subst e6;cases hk:qI (.mk (.ofNat 6) dn dt dk dp)with
  |none=>
   rw[Zn hk,x0 (by decide)]at hm
   simp[Xf,Vd,GV]at hm
  | some p=>
   obtain⟨x,y⟩:=p;have hni:=lA (.mk (.ofNat 6) dn dt dk dp);have hlt:wL (wU (.mk (.ofNat 6) dn dt dk dp)).2<wL (.mk (.ofNat 6) dn dt dk dp):=by
    rw[vZ hk];have h1:=lA y;have h2:=uu hk;have h3:=qW x;show wL (wU y).2<_;omega
   have hil:=vQ (wU (.mk (.ofNat 6) dn dt dk dp)).1;have hpl:=qW (wU (.mk (.ofNat 6) dn dt dk dp)).2;have hsum:qf (wU (.mk (.ofNat 6) dn dt dk dp)).1+wL (wU (.mk (.ofNat 6) dn dt dk dp)).2+(wU (.mk (.ofNat 6) dn dt dk dp)).1.length<=wL (.mk (.ofNat 6) dn dt dk dp):=UM _ _ (yx _);obtain⟨hi1,hi2,hi3⟩:=UL _ _ (yx _) hm (by simp only[TxD];exact ht)
   have hit:=λs=>GU H.h115 (d:=.mk (.ofNat 6) dn dt dk dp) J s;simp only[itR]at hit;generalize wU (.mk (.ofNat 6) dn dt dk dp)=Ir at *;obtain⟨is,e⟩:=Ir;simp only at hni hlt hil hpl hsum hi1 hi2 hi3 hit;have hdc:∀z∈is,iQ O z:=λz hz=>ih z (by have:=vv hz;omega) (hi1 z hz).1 (hi1 z hz).2
   have hde:=ih e hlt hi2 hi3;obtain⟨ek,en,et,eks,ep⟩:=e;simp only[ZL,wz]at hit;have hcp:wo (wy is)=true:=qZ is;have hcp2:wo (wy eks)=true:=qZ eks;refine xY ?_;apply xU;refine xY ?_;apply x4;refine xY ?_;refine wY sW ?_;refine xY ?_;refine wY sW ?_;refine xY ?_;refine wY sW ?_;refine xY ?_;refine wY sW ?_;refine xY ?_;refine wY sW ?_;refine xY ?_;refine wY sW ?_;refine xY ?_;refine wY sW ?_;refine xY ?_;refine wV sW ?_;refine xY ?_;have k1:=λa b c:zj=>((k0 a b).new c);have k2:=λa b c e:zj=>(k1 a b c).put2 (j:=n+1+1) J J (h.fresh J) e;refine xU (wi ?_);refine xZ (aE H.h65 is hdc (k2 _ _ _ _).ok J J _) λv t hv=>?_;obtain⟨Y,vs,L2,n2,m2,S2,rfl,hvl,rfl,k3,hc1,hc2,hg⟩:=hv;have hsc:=vU 2 Y (zM vs);have hcc:=wR 2 Y (zM vs);replace hvl:=hvl.symm;have g11:=((h.fresh J:Own sp S (n+1+1)).same J k3);simp (disch:=first|exact dis|fail)only[go_sem,seval,-rO,-rN]at g11
   have hdd:=λm=>hde sp L2 n2 S2 m k3.ok J J;simp only[wz]at hdd;refine xX ?_;refine xU (wi ?_);refine xZ (hdd _) λv t hv=>?_;obtain⟨w,L4,n4,m4,S4,rfl,rfl,k4,hc3,hc4⟩:=hv;clear hdd hde;have hls:=λm=>TI H.h116 H.h146 H.h166 H.h112 (sp:=sp) (n:=n4) (L:=L4) (S:=S4) k4.ok (vs:=vs) (Y:=Y) (λhne=>by
    obtain⟨q1,q2,q3,q4⟩:=hg hne;have:=k4.le;exact⟨J,q3.to q2 k4,by rw[q3.same q2 k4];exact q4⟩) w J m
   simp only[wa]at hls;refine wi ?_;refine xZ (hls _) λv t hv=>?_;obtain⟨w5,L5,n5',m5,S5,rfl,rfl,k5,hc5,hc6⟩:=hv;have k6:=(k3.trans k4).trans k5;have hle6:=k6.le;have g4:=(ho1.same J k6);simp (disch:=first|exact dis|fail)only[go_sem,seval,-rO,-rN]at g4
   have k7:=((k2 _ _ _ _).trans k6).put2 (j:=n+1) J J (ho1.to J k6) (some (.row 143 (wa w5)));clear k0 k1 k2 hfin k3 k4 k5 k6 hls hg g11;simp only[wa]at k7;refine xX ?_;refine ev_zc ?_;exact⟨w5,_,n5',_,S5,rfl,rfl,k7,J,J⟩
 have n6:=w8 e6;clear k0 hfin;refine xY ?_;refine xY ?_;refine ev_zc ?_;exact hsim ⟨.ofNat 4,.ofNat 0⟩ _ _ _ _
end
def Lw{P:Program}{X:World}{O:Orc}(H:VOrc P X O):∀(N:Nat) (d:DT),wL d<N->wL d<=1100000->vz d=true->TxD d->iQ O d
 |0,_,h,_,_,_=>by omega
 |N+1,d,h,hn,hm,ht=>Fw H hm ht hn λx hx h1 h2=>Lw H N x J J h1 h2
mutual
def plD:DT->Bool
 |.mk k n _ ks _=>(!eqD k (.ofNat 5)||eqD n (.ofNat 0))&&WY ks
def WY:List DT->Bool
 |[]=>true
 |d::r=>plD d&&WY r
end
def EB(O:Orc)(d:DT):Prop:=∀(L:za) (n m:Nat) (b:Bool),Cv (cl O 75 [.agg (qA d)] (KL L n m b)) λv t=>v=.bool (plD d)/\t=KL L n m b
section
variable {O:Orc}
def CZ(h85:O 117=none)(hp:EB O d)(L:za)(n m:Nat)(b:Bool):Cv (cl O 117 [.agg (qA d)] (KL L n m b)) λv t=>v=.bool (!plD d)/\t=KL L n m b:=by
 refine vf (F:=f117) h85 rfl rfl (zv4 rfl) ?_;obtain⟨dk,dn,dt,ds,dp⟩:=d;have hp2:=λL n m b=>hp L n m b;generalize plD (.mk dk dn dt ds dp)=r at *;simp only[wz]at hp2|-;unfold f117 cF;simp only;refine xY ?_;refine xU (wi ?_);refine xZ (hp2 _ _ _ _) λv t hv=>?_;obtain⟨rfl,rfl⟩:=hv;clear hp2;refine xX ?_;refine ev_zc ?_;exact⟨rfl,rfl⟩
def oP(h85:O 117=none)(h106:O 144=none)(l:List DT)(hl:List.length l<1000000000)(hp:∀x∈l,EB O x)(L:za)(n m:Nat)(b:Bool):Cv (cl O 144 [.lst (List.length l) false (wy l),.fn 117 [] []] (KL L n m b)) λv t=>(∃r,v=.int .i64 r/\(!ltD r (.ofNat 0))= !WY l)/\t=KL L n m b:=by
 refine vf (F:=f144) h106 rfl rfl (zv4 rfl) ?_;unfold f144 cF;simp only;refine xY ?_;refine xU (xU (xX ?_));apply x4;refine wq (λi:Nat=>zM l-i) (λi f t=>∃T,f=⟨tmL T,[]⟩/\t=KL L n 0 true/\G T 0 (.lst (zM l) false (wy l))/\G T 1 (.fn 117 [] [])/\G T 7 (zM l)/\G T 8 i/\i<=zM l/\WY l=WY (l.drop i)) (λi f t hI=>?_) 0 ⟨_,rfl,rfl,sW,sW,sW,sW,yh _,rfl⟩;obtain⟨T,rfl,rfl,t0,t1,t7,t8,hi,hpl⟩:=hI;rcases wj l i with ⟨hlt,hd⟩|⟨x,hlt,hd⟩
 .have hni:¬i<zM l:=J;rw[hd]at hpl;clear hd;refine xX ?_;refine ev_zc ?_;exact⟨⟨_,rfl,by rw[hpl];rfl⟩,rfl⟩
 .have hcx:=Ws hd;rw[<-vr]at hcx;have hpx:=λL n m b=>CZ h85 (hp x (zv9 (by rw[hd];exact zua))) L n m b
  rw[hd]at hpl;simp only[WY]at hpl;generalize plD x=r at *;obtain⟨xk,xn,xt,xs,xp⟩:=x;simp only[wz]at hcx hpx;clear hd hp;refine xY ?_;refine xU (wV sW ?_);refine xX ?_;refine xU (x4 ?_);refine xY ?_;apply xU;refine wi ?_;refine xZ (hpx _ _ _ _) λv t hv=>?_;obtain⟨rfl,rfl⟩:=hv;clear hpx;cases r with
  |false=>
   refine xX ?_;refine ev_zc ?_;exact⟨⟨_,rfl,by rw[hpl];rfl⟩,rfl⟩
  |true=>
   refine xX ?_;refine xX ?_;refine xX ?_;exact⟨i+1,⟨_,rfl,trivial,V,V,V,V,J,hpl⟩,J⟩
def oO(h85:O 117=none)(h106:O 144=none)(h82:O 114=none)(l:List DT)(hl:List.length l<1000000000)(hp:∀x∈l,EB O x)(L:za)(n m:Nat)(b:Bool):Cv (cl O 114 [.lst (List.length l) false (wy l),.fn 117 [] []] (KL L n m b)) λv t=>v=.bool (!WY l)/\t=KL L n m b:=by
 refine vf (F:=f114) h82 rfl rfl (zv4 rfl) ?_;have hix:=λL n m b=>oP h85 h106 l hl hp L n m b;unfold f114 cF;simp only;refine xY ?_;refine xU (wi ?_);refine xZ (hix _ _ _ _) λv t hv=>?_;obtain⟨⟨r,rfl,hr⟩,rfl⟩:=hv;clear hix;refine xX ?_;refine ev_zc ?_;exact⟨by rw[<-hr],rfl⟩
end
section
variable {O:Orc}
def NK(h64:O 75=none)(h85:O 117=none)(h106:O 144=none)(h82:O 114=none):∀(k:Nat) (d:DT),wL d<=k->wL d<=1100000->vz d=true->EB O d:=by
 intro k
 induction k with
 |zero=>intro d h;have:=qW d;omega
 | succ k ih=>
  intro d hk hn hm L n m b;refine vf (F:=f75) h64 rfl rfl (zv4 rfl) ?_;have hd5:=qg (uf d);obtain⟨R,hR⟩:∃R,plD d=R:=⟨_,rfl⟩;rw[hR];obtain⟨kd,dn,dt,dk,dp⟩:=d;simp only[wz]at hd5|-;unfold f75 cF;simp only;refine xY ?_;refine xU (x4 ?_);refine wq (λx:DT=>wL x) (λx f t=>∃T L2 m',f=⟨tmL T,[]⟩/\t=KL L2 (n+1) m' true/\G T 1 (.ptr n 0)/\x3 L2 n=some (jQ x)/\m'%2^n=0/\wL x<=k+1/\wL x<=1100000/\vz x=true/\plD x=R) (λx f t hI=>?_) (.mk kd dn dt dk dp) ⟨_,_,_,rfl,rfl,sW,by simp (disch:=first|exact dis|fail)only[go_sem,seval,-rO,-rN,jQ,wz],by simp,hk,hn,hm,hR⟩
  clear hk hn hm hd5 hR kd dn dt dk dp;obtain⟨T,L2,m',rfl,rfl,t1,g,hmk,hk,hn,hm,hR⟩:=hI;obtain⟨kd,dn,dt,dk,dp⟩:=x;simp only[jQ,wz]at g;cases hka:qI (.mk kd dn dt dk dp)with
  | some p=>
   obtain⟨⟨xk,xn,xt,xks,xp⟩,⟨yk,yn,yt,yks,yp⟩⟩:=p;have hna:=uu hka;rw[WH hka,zP]at hm;obtain⟨rfl,rfl⟩:=v7 hka;have hpx:=qW (.mk yk yn yt yks yp);have hpx2:=qW (.mk xk xn xt xks xp);have hc:=ih (.mk xk xn xt xks xp) J J hm.1;have hc':=λL n m b=>hc L n m b;simp only[plD,WY,show eqD (.ofNat 6) (.ofNat 5)=false from rfl,Bool.not_false,Bool.true_or,y9,Bool.and_true]at hR;have hy:plD (.mk yk yn yt yks yp)=((!eqD yk (.ofNat 5)||eqD yn (.ofNat 0))&&WY yks):=rfl
   have hx:plD (.mk xk xn xt xks xp)=((!eqD xk (.ofNat 5)||eqD xn (.ofNat 0))&&WY xks):=rfl
   rw[<-hx,<-hy]at hR;clear hx hy;generalize plD (.mk xk xn xt xks xp)=r at *;simp only[wz]at hc';have hc1:wE 5 (wy [.mk xk xn xt xks xp,.mk yk yn yt yks yp])=some (qA (.mk xk xn xt xks xp)):=by rw[pC];exact kU _ _
   have hc2:wE 5 (wX 5 (wy [.mk xk xn xt xks xp,.mk yk yn yt yks yp]))=some (qA (.mk yk yn yt yks yp)):=by
    rw[pC,qe,List.drop_left' (uf _)];exact pc _
   simp only[wz]at hc1 hc2;simp only[yw,xN]at g;clear ih hc hka;refine xY ?_;apply x4;apply xU;apply xU;refine wi ?_;refine xZ (hc' _ _ _ _) λv t hv=>?_;obtain⟨rfl,rfl⟩:=hv;clear hc';cases r with
   |false=>
    rw[zv7]at hR;subst hR;refine xX ?_;refine ev_zc ?_;exact⟨rfl,rfl⟩
   |true=>
    rw[y9]at hR;refine xX ?_;refine xX ?_;refine xX ?_;exact⟨.mk yk yn yt yks yp,⟨_,_,_,rfl,rfl,V,by simp (disch:=first|exact dis|fail)only[go_sem,seval,-rO,-rN, *,jQ,wz],V,J,J,hm.2,hR⟩,J⟩
  | none=>
   have h6:kd≠.ofNat 6:=λe=>by
    subst e;rw[Zn hka,x0 (by decide)]at hm
    simp[Xf,Vd,GV]at hm
   have n6:=w8 h6;have hks:∀x∈dk,EB O x:=λx hx=>by
    have h1:=j4 (.mk kd dn dt dk dp);have h2:=vv hx;simp only[gL]at h1;refine ih x J J ?_;rw[Zn hka]at hm;split at hm
    .exact List.all_eq_true.1 hm x hx
    .simp only[zP,jm]at hm;have:=List.eq_nil_of_length_eq_zero hm.1;rw[this]at hx;cases hx
   have hkl:zM dk<1000000000:=by
    have h1:=j4 (.mk kd dn dt dk dp);have h2:=vQ dk;simp only[gL]at h1;omega
   have hcf:=λL n m b=>oO h85 h106 h82 dk hkl hks L n m b;clear ih hks hka hm;simp only[plD]at hR;generalize WY dk=ps at *;refine xX ?_;cases h5:eqD kd (.ofNat 5)with
   | true=>
    rw[h5,Bool.not_true,Bool.false_or]at hR;cases e0:eqD dn (.ofNat 0)with
    |true=>
     rw[e0,y9]at hR;subst hR;refine xU (wi ?_);refine xZ (hcf _ _ _ _) λv t hv=>?_;obtain⟨rfl,rfl⟩:=hv;clear hcf;refine xX ?_;refine ev_zc ?_;exact⟨by first|rfl|rw[Bool.not_not],rfl⟩
    |false=>
     rw[e0,zv7]at hR;subst hR;clear hcf;refine ev_zc ?_;exact⟨rfl,rfl⟩
   |false=>
    rw[h5,Bool.not_false,Bool.true_or,y9]at hR;subst hR;refine xU (wi ?_);refine xZ (hcf _ _ _ _) λv t hv=>?_;obtain⟨rfl,rfl⟩:=hv;clear hcf;refine xX ?_;refine ev_zc ?_;exact⟨by first|rfl|rw[Bool.not_not],rfl⟩
end
def nH{f:Nat}{F:IFunc}(h:O f=none)(hF:env.funs.get f=some F)(hp:env.pure f=true){a:zt}(ha:List.length a<=F.ntmps){R:Z->U->Prop}(hc:Cv ((evW env O).call f a (KL [] 0 0 true)) R):Ev (evC env (evW env O) none F.body ⟨qk (tmL []) 0 a,[]⟩ (KL [] 0 0 true)) λr fr t=>Cv (Xd (KL [] 0 0 true) (qv env.globs F.res (some (r,fr,t)))) R:=by
 obtain⟨v,t,e,q⟩:=hc;rw[jn h hF hp _ _ _ _ _ _ _ ha]at e;cases hx:evC env (evW env O) none F.body ⟨qk (tmL []) 0 a,[]⟩ (KL [] 0 0 true)with
 |none=>rw[hx]at e;cases e
 |some x=>
  obtain⟨r,fr,t2⟩:=x;rw[hx]at e;exact⟨r,fr,t2,rfl,v,t,e,q⟩
def Jd(d:DT):Prop:=vz d=true/\wL d<=1100000
def GPl(d:DT)(v:Z):Prop:=v=.bool (plD d)
section
variable {P:Program}{X:World}(B:Bx P X){O:Orc}(hO:OrcOk P X O)
include B hO
def NL(h64:O 75=none)(h85:O 117=none)(h106:O 144=none)(h82:O 114=none):vW P X 75 uh Jd GPl:=by
 intro d hd;refine beX B hO f75 ?_;refine(nH h64 rfl rfl (zv4 rfl) (NK h64 h85 h106 h82 (wL d) d (zS _) hd.2 hd.1 [] 0 0 true)).mono λr f t hc=>hc.mono λv s hv=>?_;obtain⟨rfl,rfl⟩:=hv;exact⟨_,rfl,rfl,qj _ _⟩
end
def oQ(h:O 75=some (uM P X 75 uh Jd GPl))(hx:vW P X 75 uh Jd GPl)(hd:Jd d)(s:U):(evW env O).call 75 [.agg (qA d)] s=some (.bool (plD d),s):=by
 have h1:=oc h Yt d hd (Wv d) s;rw[h1,show _=Z.bool (plD d)from (Xw (hx d hd)).1]
def VX(_:Program)(_:World)(l:List DT):Bool:=l.all λd=>vz d&&plD d
structure NOrc(P:Program)(X:World)(N:Nat)(O:Orc):Prop extends VOrc P X O where
 h45:O 42=none
 h62:O 73=none
 h63:O 74=some (UE N)
 h64:O 75=some (uM P X 75 uh Jd GPl)
 hpl:vW P X 75 uh Jd GPl
 hN:N<=1100000
structure CsPre(N:Nat)(l:List DT):Prop where
 tx:TxL l
 nd:∀d∈l,wL d<N
 sum:qf l<10000000
def Sc(h62:O 73=none)(L:za)(n m:Nat)(b:Bool):cl O 73 [.nils] (KL L n m b)=some (.nils,KL L n m b):=by
 have key:Cv (cl O 73 [.nils] (KL L n m b)) λv t=>v=.nils/\t=KL L n m b:=by
  refine vf (F:=f73) h62 rfl rfl (zv4 rfl) ?_;have he:J5 .slice false .nils .nils=some (.bool true):=rfl;unfold f73 cF;simp only;refine ev_zc ?_;exact⟨rfl,rfl⟩
 obtain⟨v,t,h,rfl,rfl⟩:=key;exact h
def U2(q:Bool):Sto q:=⟨[],0,[],0,[],.ofNat 0,false⟩
section
variable {P:Program}{X:World}{O:Orc}{N:Nat}
attribute [local go_sem] wW wR in
def zxG(H:NOrc P X N O){l:List DT}(hl:CsPre N l)(hw:WfA L n)(m:Nat):
  Cv (cl O 42 [.lst (zM l) false (wy l),.nils] (KL L n m false)) λv t=>∃x L2 n2 m2,v=.tup [x,.int .i64 (bif VX P X l then .ofNat 0 else .ofNat 2)]/\(x=.nilp\/∃p,x=.ptr p 0)/\t=KL L2 n2 m2 false/\n<=n2/\∀j,j<n->x3 L2 j=x3 L j:=by
 refine wp (F:=f42) H.h45 rfl rfl (zv4 rfl) ?_;have hcl:=λL n m b=>Sc H.h62 L n m b;have hlen:=vQ l;have hsum:=hl.sum;have hNN:=H.hN;obtain⟨R,hR⟩:∃R,VX P X l=R:=⟨_,rfl⟩;rw[hR];unfold f42 cF;simp only;refine xY ?_;refine xY ?_;refine xU (xU (xX ?_));apply x4;have hs0:StOk n ((n,some (U2 true).row)::L) (n+1) (U2 true):=⟨hw.cons (yx _) (zuC _),x8 _ _ _,λh=>absurd rfl h,λh=>absurd rfl h,(λy hy=>by cases hy),(λy hy=>by cases hy)⟩
 refine wq (λi:Nat=>zM l-i) (λi f t=>∃T L2 n2 m2,f=⟨tmL T,[]⟩/\t=KL L2 n2 m2 false/\G T 0 (.lst (zM l) false (wy l))/\G T 6 (.ptr n 0)/\G T 13 (.lst (zM l) false (wy l))/\G T 14 (zM l)/\G T 15 i/\i<=zM l/\StTo n ((n,some (U2 true).row)::L) (n+1) (U2 true) L2 n2 (U2 true)/\(l.take i).all (λd=>vz d&&plD d)=true) (λi f t hI=>?_) 0 ⟨_,_,_,_,rfl,rfl,sW,sW,sW,sW,sW,yh _,hs0.more hs0.wf (zS _) λ_ _=>rfl,rfl⟩;obtain⟨T,L2,n2,m2,rfl,rfl,t0,t6,t13,t14,t15,hi,k1,hal⟩:=hI;rcases wj l i with ⟨hlt,hd⟩|⟨d,hlt,hd⟩
 .have hni:¬i<zM l:=J;rw[List.take_of_length_le hlt]at hal;have hRt:R=true:=by rw[<-hR];exact hal
  subst hRt;have hdc:∀d∈l,iQ O d:=λd hdm=>by
   have h1:=List.all_eq_true.1 hal d hdm;rw[zP]at h1;have h2:=hl.nd d hdm;exact Lw H.toVOrc _ d (yx _) J h1.1 (hl.tx.mem hdm)
  clear hR hal hcl;refine xX ?_;refine xU (wi ?_);refine xZ (aE H.h65 l hdc k1.ok (by simp only[U2,xN];omega) (by simp only[U2,xN];omega) _) λv t hv=>?_
  obtain⟨Y,vs,L3,n3,m3,S3,rfl,hvl,rfl,k3,hc1,hc2,hg⟩:=hv;have hrow:=k3.ok.row;have hsc:=vU 2 Y (zM vs);have hcc:=wR 2 Y (zM vs);have k4:=k1.trans k3;have hle:=k4.le;have hfr:∀j,j<n->x3 L3 j=x3 L j:=λj hj=>by
   rw[k4.fr j J J (λh=>absurd rfl h) (λh=>absurd rfl h),gN J]
  simp only[Sto.row]at hrow;have hsc':=hsc;simp only[vV]at hsc';generalize gSl 2 Y (zM vs)=sv at *;generalize gSl 5 S3.oid (zM S3.obs)=a1 at *;generalize gSl 2 S3.yid (zM S3.ys)=a2 at *;clear hg hvl k3 k4 hdc k1 hs0;have hfr2:=λj (hj:j<n)=>(hfr j hj).symm;clear hfr;refine xX ?_;refine ev_zc ?_;exact⟨.ptr n 0,_,n3,_,rfl,.inr ⟨n,rfl⟩,rfl,J,λj hj=>by rw[gN J];exact(hfr2 j hj).symm⟩
 .have hdm:d∈l:=zv9 (by rw[hd];exact zua)
  have hnd:=hl.nd d hdm;have htd:=hl.tx.mem hdm;have hma:=λs=>ZT (f:=74) H.h63 htd hnd s;have hcx:=Ws hd;rw[<-vr]at hcx;have htk:l.take (i+1)=l.take i++[d]:=by
   rw[List.take_add_one,<-List.head?_drop,hd];rfl
  have hRf:(vz d&&plD d)=false->R=false:=λh=>by
   rw[<-hR];exact List.all_eq_false.2 ⟨d,hdm,by rw[h];simp⟩
  have k2:=k1.ok.new (some (.row 120 [(0:Nat),(0:Nat),.str [],.nils,(0:Nat)]));have hle:=k1.le;have hfr:∀j,j<n->x3 L2 j=x3 L j:=λj hj=>by
   rw[k1.fr j J J (λh=>absurd rfl h) (λh=>absurd rfl h),gN J]
  have hfr2:=λj (hj:j<n)=>(hfr j hj).symm;have k3:=λo=>(k1.trans k2).put2 (j:=n2) J (yx _) (k1.ok.fresh (zS _)) o;clear hfr hd;cases hmd:vz d with
  |false=>
   rw[hmd]at hma hRf;have:=hRf rfl;subst this;obtain⟨dk,dn,dt,ds,dp⟩:=d;simp only[wz]at hma hcx;clear hcl hRf k1 k2 k3 hs0 htk hmd;refine ev_zc ?_;exact⟨.nilp,_,n2+1,_,rfl,.inl rfl,rfl,J,λj hj=>by rw[gN J,gN J];exact(hfr2 j hj).symm⟩
  | true=>
   have hpc:=λs=>oQ H.h64 H.hpl (d:=d) ⟨hmd,J⟩ s;rw[hmd]at hma hRf;cases hpd:plD d with
   |false=>
    rw[hpd]at hpc hRf;have:=hRf rfl;subst this;obtain⟨dk,dn,dt,ds,dp⟩:=d;simp only[wz]at hma hcx hpc;clear hcl hRf k1 k2 k3 hs0 htk hmd hpd;refine ev_zc ?_;exact⟨.nilp,_,n2+1,_,rfl,.inl rfl,rfl,J,λj hj=>by rw[gN J,gN J];exact(hfr2 j hj).symm⟩
   | true=>
    rw[hpd]at hpc;have hal2:(l.take (i+1)).all (λd=>vz d&&plD d)=true:=by
     rw[htk,List.all_append,hal];simp[hmd,hpd]
    obtain⟨dk,dn,dt,ds,dp⟩:=d;simp only[wz]at hma hcx hpc;clear hcl hRf hs0 htk hmd hpd hal hR hfr2;refine xX ?_;exact⟨i+1,⟨_,_,n2+1,_,rfl,rfl,V,V,V,V,V,J,k3 _,hal2⟩,J⟩
end
end Go.Proofs.YtbdfljdgapkbcaaGreatDoor.Ev

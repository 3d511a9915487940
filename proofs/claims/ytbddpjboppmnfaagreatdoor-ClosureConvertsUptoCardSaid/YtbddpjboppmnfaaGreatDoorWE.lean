/- Contracts of functions that ClosureConverts calls: what a call answers. No conditions. -/
import Derived.Test.YtbddpjboppmnfaaGreatDoorWD
import Derived.Test.YtbddpjboppmnfaaGreatDoorWC
set_option linter.unusedSimpArgs false
set_option linter.unusedVariables false
set_option linter.defProp false
set_option maxHeartbeats 4000000
set_option linter.unusedSectionVars false
noncomputable section
open List renaming length → zR, drop_eq_getElem_cons → zud, length_nil → xY, length_append → y8, mem_cons_self → zvZ, mem_of_mem_drop → zvY, length_cons → yJ, append_nil → zvV, getD_eq_getElem?_getD → xR, getElem?_append_right → xz, append_assoc → zum, getElem?_eq_getElem → xj, nil_append → zv1
open Nat renaming le_refl → zX, zero_mod → zv9, or_zero → zub, zero_or → zuc, le_of_ble_eq_true → zvT, lt_succ_self → yK, zero_le → yz, le_succ → zur, mul_one → x8
open Bool renaming cond_self → zv7, and_self → xZ, false_and → zvW, true_or → zut, false_or → x9, true_and → xC, and_false → zv8, and_eq_true → zU, not_false → zv6, not_true → wa
namespace Go.Proofs.YtbddpjboppmnfaaGreatDoor.Ev
variable {L L2:zb}{n sp i n2 id2 j:Nat}{T:List (Nat×Z)}{s:zy}{b:Bool}
open Nat (reduceEqDiff reduceLeDiff reduceLT reduceAdd reduceMul reduceSub reduceMod reducePow reduceDiv reduceOr reduceShiftLeft reduceGT reduceSucc)
open List (length_cons length_nil length_take length_drop)
open Int renaming reduceOfNat → rO, reduceNegSucc → rN
open T
set_option maxRecDepth 100000
attribute [local go_sem] wF wI qh Nat.or_zero Nat.zero_or Nat.zero_mod Bool.cond_self ltF gtF
def Zh(l:zw):zA:=[qt l]
def B9:∀x y,Zh x=Zh y->x=y:=λa b h=>by
 simp only[Zh,vc,and_true]at h;exact lB h
def nR(l:zw):wL (Zh l)=true:=by simp only[Zh,wR,jn,wU,xZ]
def KR(l:zw):Prop:=zR l<1000000000
def GTr(l:zw)(v:Z):Prop:=∃q:zw,v=qt q/\q.length<=zR l
def Zg(x:Bool×zw):zA:=[.bool x.1,qt x.2]
def B6:∀x y,Zg x=Zg y->x=y:=λ⟨a,b⟩ ⟨c,d⟩ h=>by
 simp only[Zg,vc,and_true,Z.bool.injEq]at h;rw[h.1,lB h.2]
def nN(x:Bool×zw):wL (Zg x)=true:=by simp only[Zg,wR,jn,wU,jA,xZ]
def pZ(x:Bool×zw):Prop:=zR x.2<1000000000
def nmV(b:Bool)(l:zw):Z:=.agg [.bool b,qt l]
def Wu(b:Bool)(l:zw):qg (nmV b l)=true:=by simp only[nmV,uF,wR,jA,jn,wU,xZ]
def cm(b:Bool)(l:zw):wkV (nmV b l)=nmV b l:=by simp only[nmV,wkV,wkL,pc]
def zyg{s:U}(b:Bool)(l:zw):Fz s (nmV b l) (nmV b l):=gL (wG (qM _ _) (wG (uo (wX qR l) (ua p9 l)) ve))
def GNm(x:Bool×zw)(v:Z):Prop:=∃b q,v=nmV b q/\q.length<=zR x.2
def GPs(s:zy)(v:Z):Prop:=∃b q e,v=.tup [nmV b q,e]/\q.length<=zR s
section
variable {P:Program}{X:World}(B:Bx P X){O:Orc}(hO:OrcOk P X O)
include B hO
attribute [local go_sem] qt Zh in
def Os:jy P X 169 Zh KR GTr:=by
 intro l hl;have hl:zR l<1000000000:=hl;refine beX B hO f169 ?_;have hsl:=λk (h:k<=zR l)=>OI l h;have hfin:∀(k:Nat) (s:U),∃v,GTr l v/\qg v=true/\Fz s (.lst (l.take k).length false (wo wN (l.take k))) v:=λk s=>⟨_,⟨l.take k,rfl,by rw[List.length_take];omega⟩,jn _,uo (wX qR _) (ua p9 _)⟩
 unfold f169 cF;simp only;refine wq ?_;refine wq ?_;refine wp (wA ?_);refine wP (λk:Nat=>k) (λk f t=>∃T L n m,f=⟨tmL T,[]⟩/\t=KL L n m true/\G T 0 (.lst (zR l) false (wo wN l))/\G T 3 k/\k<=zR l) (λk f t hI=>?_) (zR l) ⟨_,_,_,_,rfl,rfl,sW,sW,zX _⟩;obtain⟨T,L,n,m,rfl,rfl,t0,t3,hk⟩:=hI;have hs:=hsl k hk;have hf:=hfin k;have hpl:=wX qR (l.take k);clear hsl hfin;generalize l.take k=q at *;generalize wo wN q=cq at *;cases k with
 |zero=>
  refine wu ?_;refine ev_zc ?_;exact hf _
 | succ k=>
  obtain⟨x,hd⟩:∃x,l.drop k=x::l.drop (k+1):=⟨_,zud J⟩;have hc:=uz hd;have hlt:k<zR l:=J;have hgt:0<k+1:=J;clear hd;cases e:eqD x (.ofNat 0)with
  |true=>
   clear hs hf hpl;refine wu ?_;exact⟨k,⟨_,L,n,_,rfl,rfl,V,V,J⟩,J⟩
  |false=>
   refine wu ?_;refine ev_zc ?_;exact hf _
attribute [local go_sem] qt Zg Zh in
def N9(h207:O 169=some (j7 P X 169 Zh KR GTr))(ht:jy P X 169 Zh KR GTr):jy P X 150 Zg pZ GNm:=by
 intro x hx;obtain⟨g,l⟩:=x;have hl:zR l<1000000000:=hx;refine beX B hO f150 ?_;obtain⟨v,⟨q,rfl,hq⟩,hp,hcall⟩:=jt h207 ht B9 l hl (args:=[qt l]) (by simp only[wkL,pc,Zh])
 have hfin:∀(b:Bool) (s:U),∃v,GNm (g,l) v/\qg v=true/\Fz s (nmV b q) v:=λb s=>⟨_,⟨b,q,rfl,hq⟩,Wu b q,zyg b q⟩;have hpl:=wX qR q;simp only[nmV,qt]at hcall hfin;unfold f150 cF;simp only;generalize wo wN q=cq at *;cases g with
 |true=>
  refine ev_zc ?_;exact hfin _ _
 |false=>
  refine ev_zc ?_;exact hfin _ _
end
def ro:ICode:=match f126.body with
 |.seq _ (.seq _ (.seq _ (.seq _ b)))=>b
 |_=>.skip
def zxN{s:zy}{st:U}:∃v,GPs s v/\qg v=true/\Fz st (.tup [.agg [.bool false,.nils],(4:Nat)]) v:=by
 refine⟨.tup [nmV false [],(4:Nat)],⟨false,[],_,rfl,yz _⟩,rfl,?_⟩;simp only[Fz];exact⟨_,rfl,wG (gL (wG (qM _ _) (wG uc ve))) (wG (wS _ _ _) ve)⟩
def T0{s:zy}(b:Bool)(q:zw)(st:U)(hq:q.length<=List.length s):∃v,GPs s v/\qg v=true/\Fz st (.tup [.agg [.bool b,.lst q.length false (wo wN q)],(0:Nat)]) v:=by
 refine⟨.tup [nmV b q,(0:Nat)],⟨b,q,_,rfl,hq⟩,by simp only[uQ,wR,Wu,vh,wU,xZ],?_⟩
 simp only[Fz];exact⟨_,rfl,wG (zyg b q) (wG (wS _ _ _) ve)⟩
def dn:Nat->Int
 |0=>.negSucc 0
 |k+1=>.ofNat k
theorem Gs{k:Nat}(h:k<9223372036854775808):ji .i64 (Int.sub (.ofNat k) (.ofNat 1))=dn k:=by
 cases k with
 |zero=>rfl
 |succ k=>
  rw[si J,Nat.add_sub_cancel,Vz J];rfl
theorem zyU{k:Nat}(h:1<=k):dn k=.ofNat (k-1):=by
 cases k with
 |zero=>omega
 |succ k=>rfl
theorem tO{c:Nat}{r:zy}(h:s.drop i=c::r):fF s i=some c:=by
 rw[KA,<-List.head?_drop,h];rfl
section
variable {P:Program}{X:World}{O:Orc}
attribute [local go_sem] qt in
def Dw(h188:O 150=some (j7 P X 150 Zg pZ GNm))(hm:jy P X 150 Zg pZ GNm){s:zy}(hby:Byt s)(hlen:zR s<2000000){T:List (Nat×Z)}{fi:Nat}{b:Bool}(t0:G T 0 (.str s))(t2:G T 2 (.ptr 0 0))(t4:G T 4 (.bool b))(t5:G T 5 fi)(hfi:fi<=zR s):
  Ev (evC env (evW env O) none ro ⟨tmL T,[]⟩ (KL [(0,some (.row 180 [.bool false,.nils]))] 1 0 true)) λr fr t=>Cv (Yu (KL [] 0 0 true) (qJ env.globs [RV.cn 2 2,RV.t 3] (some (r,fr,t)))) λv0 s1=>∃v,GPs s v/\qg v=true/\Fz s1 v0 v:=by
 have hgd:=λb q st h=> @T0 s b q st h;have hbd:=λst=> @zxN s st;unfold ro f126 cF;simp only;by_cases hf:zR s=fi
 .clear hgd;refine ev_zc ?_;exact hbd _
 have hlt:fi<zR s:=J;refine wq ?_;refine wq ?_;refine wp (wp (wu ?_));apply wA;refine wP (λk:Nat=>k) (λk f t=>∃T L n m Y l,f=⟨tmL T,[]⟩/\t=KL L n m true/\G T 0 (.str s)/\G T 2 (.ptr 0 0)/\G T 4 (.bool b)/\G T 5 fi/\G T 6 (vZ wN 1 Y l)/\G T 7 (.int .i64 (dn k))/\k<=zR s/\zR l+k<=zR s/\1<=n/\wn L 0=some (.row 180 [.bool false,.nils])/\Lv 3 wN L n Y l) (λk f t hI=>?_) (zR s) ⟨_,_,_,_,0,[],rfl,rfl,V,V,V,V,by simp (disch:=first|exact dis|fail)only[go_sem,seval,-rO,-rN,vZ],by simp (disch:=first|exact dis|fail)only[go_sem,seval,-rO,-rN, *,zyU],zX _,by simp,J,sW,λh=>absurd rfl h⟩
 clear t0 t2 t4 t5;obtain⟨T,L,n,m,Y,l,rfl,rfl,t0,t2,t4,t5,t6,t7,hk,hlk,hn,g0,hok⟩:=hI;have hend:∃v,(∃b q,v=nmV b q/\q.length<=zR l)/\qg v=true/\∀s,cl O 150 [.bool b,vZ wN 1 Y l] s=some (v,s):=jt h188 hm B6 (b,l) (show (zR l)<1000000000 by omega) (by simp only[Zg,wkL,wkV,sH])
 cases k with
 |zero=>
  simp only[dn]at t7;obtain⟨v,⟨b2,q,rfl,hq⟩,hp,hcall⟩:=hend;have hg2:=λst=>hgd b2 q st J;have hpl:=wX qR q;simp only[nmV,qt]at hcall;clear hbd hgd hok;generalize wo wN q=cq at *;refine wu ?_;refine ev_zc ?_;exact hg2 _
 | succ k=>
  simp only[dn]at t7;by_cases hkf:k<fi
  .obtain⟨v,⟨b2,q,rfl,hq⟩,hp,hcall⟩:=hend;have hg2:=λst=>hgd b2 q st J;have hpl:=wX qR q;simp only[nmV,qt]at hcall;clear hbd hgd hok;generalize wo wN q=cq at *;refine wu ?_;refine ev_zc ?_;exact hg2 _
  .clear hend hgd;obtain⟨c,hd⟩:∃c,s.drop k=c::s.drop (k+1):=⟨_,zud J⟩;have hg:=tO hd;have hc:c<256:=hby c (zvY (by rw[hd];exact zvZ))
   have hb2:=hbd;clear hd hbd;by_cases h1:c<48
   .clear hok;refine ev_zc ?_;exact hb2 _
   by_cases h2:57<c
   .clear hok;refine ev_zc ?_;exact hb2 _
   clear hb2;have h48:48<=c:=J;have hwr:= @Gs k J;refine wq ?_;refine wp (wA ?_);refine wq ?_;refine qB ?_;refine wO (pK (ws:=[.ofNat (c-48)]) (e:=true) vA qR uW J hok (by simp only[yJ,xY];omega) (by simp only[yJ,xY];omega)) λv t hv=>?_
   obtain⟨id2,L2,n2,m2,rfl,rfl,hok2,hn2,hid2,hfr⟩:=hv;have g02:=(hfr 0 J λh e=>by have:=(hok h).2;rw[<-e,g0]at this;cases this).trans g0
   clear hfr hok g0;refine wu ?_;refine wu ?_;exact⟨k,⟨_,L2,n2,_,id2,l++[.ofNat (c-48)],rfl,rfl,V,V,V,V,V,V,J,by simp only[y8,yJ,xY];omega,J,g02,hok2⟩,J⟩
end
section
variable {P:Program}{X:World}(B:Bx P X){O:Orc}(hO:OrcOk P X O)
include B hO
attribute [local go_sem] kT G0 in
def DZ(h188:O 150=some (j7 P X 150 Zg pZ GNm))(hm:jy P X 150 Zg pZ GNm):jy P X 126 kT pt GPs:=by
 intro s hs;obtain⟨hby,hlen⟩:=hs;refine beX B hO f126 ?_;have hE:=λ{T:List (Nat×Z)} {fi:Nat} {b:Bool} t0 t2 t4 t5 hfi=> @Dw P X O h188 hm s hby hlen T fi b t0 t2 t4 t5 hfi;unfold ro at hE;unfold f126 cF at hE|-;simp only at hE|-;cases s with
 |nil=>
  refine wq ?_;refine wq ?_;refine wq ?_;refine wq ?_;exact hE (fi:=0) (b:=false) sW sW sW sW (by simp)
 | cons c q=>
  by_cases h1:c=45
  .subst h1;refine wq ?_;refine wq ?_;refine wq ?_;refine wq ?_;exact hE (fi:=1) (b:=true) sW sW sW sW (by simp)
  .by_cases h2:c=43
   .subst h2;refine wq ?_;refine wq ?_;refine wq ?_;refine wq ?_;exact hE (fi:=1) (b:=false) sW sW sW sW (by simp)
   .refine wq ?_;refine wq ?_;refine wq ?_;refine wq ?_;exact hE (fi:=0) (b:=false) sW sW sW sW (by simp)
end
def pJ{α:Type}(_:α)(v:Z):Prop:=∃z,v=.int .i64 z
def G1{α:Type}{x:α}{s:U}(z:Int):∃v,pJ x v/\qg v=true/\Fz s (.int .i64 z) v:=⟨_,⟨z,rfl⟩,rfl,wS _ _ _⟩
def GBo{α:Type}(_:α)(v:Z):Prop:=∃z,v=.bool z
def tJ{α:Type}{x:α}{s:U}(z:Bool):∃v,GBo x v/\qg v=true/\Fz s (.bool z) v:=⟨_,⟨z,rfl⟩,rfl,qM _ _⟩
def pG(x:Bool×zw):zA:=[nmV x.1 x.2]
def KC{c:Bool}{l r:zw}(h:nmV b l=nmV c r):b=c/\l=r:=by
 simp only[nmV,Z.agg.injEq,vc,Z.bool.injEq,and_true]at h;exact⟨h.1,lB h.2⟩
def Cb:∀x y,pG x=pG y->x=y:=λ⟨a,b⟩ ⟨c,d⟩ h=>by
 simp only[pG,vc,and_true]at h;obtain⟨h1,h2⟩:=KC h;rw[h1,h2]
def nS(x:Bool×zw):wL (pG x)=true:=by simp only[pG,wR,Wu,wU,xZ]
abbrev Nm:=Bool×zw
def ZI(x:Nm×Nm):zA:=[nmV x.1.1 x.1.2,nmV x.2.1 x.2.2]
def Pe:∀x y,ZI x=ZI y->x=y:=λ⟨⟨a,b⟩,c,d⟩ ⟨⟨e,f⟩,g,i⟩ h=>by
 simp only[ZI,vc,and_true]at h;obtain⟨h1,h2⟩:=KC h.1;obtain⟨h3,h4⟩:=KC h.2;rw[h1,h2,h3,h4]
def nT(x:Nm×Nm):wL (ZI x)=true:=by simp only[ZI,wR,Wu,wU,xZ]
def Lx(x:Nm×Nm):Prop:=zR x.1.2<1000000000/\zR x.2.2<1000000000
def pH(x:Nm×zy×zy):zA:=[nmV x.1.1 x.1.2,.str x.2.1,.str x.2.2]
def Cc:∀x y,pH x=pH y->x=y:=λ⟨⟨a,b⟩,c,d⟩ ⟨⟨e,f⟩,g,i⟩ h=>by
 simp only[pH,vc,and_true,Z.str.injEq]at h;obtain⟨h1,h2⟩:=KC h.1;rw[h1,h2,h.2.1,h.2.2]
def nU(x:Nm×zy×zy):wL (pH x)=true:=by simp only[pH,wR,Wu,pY,wU,xZ]
def KT(x:Nm×zy×zy):Prop:=zR x.1.2<1000000000/\pt x.2.1/\pt x.2.2
section
variable {P:Program}{X:World}(B:Bx P X){O:Orc}(hO:OrcOk P X O)
include B hO
attribute [local go_sem] qt lu in
def DW:jy P X 178 lu VG pJ:=by
 intro x hx;obtain⟨a,b⟩:=x;obtain⟨ha,hb⟩:=hx;simp only at ha hb;refine beX B hO f178 ?_;have hfin:∀z s,∃v,pJ (a,b) v/\qg v=true/\Fz s (.int .i64 z) v:=λz s=>G1 z;unfold f178 cF;simp only;refine wq ?_;by_cases hl:zR a=zR b
 .refine wq ?_;refine wp (wp (wu ?_));apply wA;refine wP (λk:Nat=>k) (λk f t=>∃T L n m,f=⟨tmL T,[]⟩/\t=KL L n m true/\G T 0 (.lst (zR a) false (wo wN a))/\G T 1 (.lst (zR b) false (wo wN b))/\G T 5 (.int .i64 (dn k))/\k<=zR a) (λk f t hI=>?_) (zR a) ⟨_,_,_,_,rfl,rfl,V,V,by simp (disch:=first|exact dis|fail)only[go_sem,seval,-rO,-rN, *,Gs],zX _⟩
  obtain⟨T,L,n,m,rfl,rfl,t0,t1,t5,hk⟩:=hI;cases k with
  |zero=>
   simp only[dn]at t5;refine wu ?_;refine ev_zc ?_;exact hfin _ _
  | succ k=>
   simp only[dn]at t5;obtain⟨x,hd⟩:∃x,a.drop k=x::a.drop (k+1):=⟨_,zud J⟩;obtain⟨y,hd2⟩:∃y,b.drop k=y::b.drop (k+1):=⟨_,zud J⟩;have hc:=uz hd;have hc2:=uz hd2;have hlt:k<zR a:=J;have hlt2:k<zR b:=J;have hwr:= @Gs k J;clear hd hd2;cases e:eqD x y with
   |true=>
    clear hfin;refine wu ?_;exact⟨k,⟨_,L,n,_,rfl,rfl,V,V,V,J⟩,J⟩
   | false=>
    cases e2:ltD x y with
    |true=>
     refine ev_zc ?_;exact hfin _ _
    |false=>
     refine ev_zc ?_;exact hfin _ _
 .by_cases h2:zR a<zR b
  .refine ev_zc ?_;exact hfin _ _
  .refine ev_zc ?_;exact hfin _ _
attribute [local go_sem] ZI nmV qt in
def T8(h216:O 178=some (j7 P X 178 lu VG pJ))(ho:jy P X 178 lu VG pJ):jy P X 170 ZI Lx pJ:=by
 intro x hx;obtain⟨⟨g,a⟩,h,b⟩:=x;obtain⟨ha,hb⟩:=hx;simp only at ha hb;obtain⟨v,⟨z,rfl⟩,_,hc1⟩:=jt h216 ho UW (a,b) ⟨ha,hb⟩ (args:=[qt a,qt b]) (by simp only[lu,wkL,pc])
 obtain⟨v,⟨y,rfl⟩,_,hc2⟩:=jt h216 ho UW (b,a) ⟨hb,ha⟩ (args:=[qt b,qt a]) (by simp only[lu,wkL,pc])
 simp only[qt]at hc1 hc2;refine beX B hO f170 ?_;have hfin:∀z s,∃v,pJ ((g,a),(h,b)) v/\qg v=true/\Fz s (.int .i64 z) v:=λz s=>G1 z;unfold f170 cF;simp only;cases g<;>cases h
 all_goals
  refine ev_zc ?_;exact hfin _ _
attribute [local go_sem] pH nmV qt in
def r8(h165:O 126=some (j7 P X 126 kT pt GPs))(hps:jy P X 126 kT pt GPs)(h208:O 170=some (j7 P X 170 ZI Lx pJ))(hcm:jy P X 170 ZI Lx pJ):jy P X 151 pH KT GBo:=by
 intro x hx;obtain⟨⟨g,a⟩,s,t⟩:=x;obtain⟨ha,hs,ht⟩:=hx;simp only at ha hs ht;obtain⟨v,⟨b1,q1,e1,rfl,hq1⟩,_,hc1⟩:=jt h165 hps Zi s hs (args:=[.str s]) rfl;obtain⟨v,⟨b2,q2,e2,rfl,hq2⟩,_,hc2⟩:=jt h165 hps Zi t ht (args:=[.str t]) rfl;have l1:=hs.2;have l2:=ht.2;obtain⟨v,⟨z,rfl⟩,_,hc3⟩:=jt h208 hcm Pe ((g,a),(b1,q1)) ⟨ha,by simp only;omega⟩ (args:=[nmV g a,nmV b1 q1]) (by simp only[ZI,wkL,cm])
 obtain⟨v,⟨y,rfl⟩,_,hc4⟩:=jt h208 hcm Pe ((g,a),(b2,q2)) ⟨ha,by simp only;omega⟩ (args:=[nmV g a,nmV b2 q2]) (by simp only[ZI,wkL,cm])
 simp only[nmV,qt]at hc1 hc2 hc3 hc4;refine beX B hO f151 ?_;have hfin:∀z s',∃v,GBo ((g,a),s,t) v/\qg v=true/\Fz s' (.bool z) v:=λz s=>tJ z;unfold f151 cF;simp only;cases h1:ltD z (.ofNat 0)<;>cases h2:ltD (.ofNat 0) y
 all_goals
  refine ev_zc ?_;exact hfin _ _
attribute [local go_sem] pG nmV qt in
def D4:jy P X 152 pG pZ pJ:=by
 intro x hx;obtain⟨g,a⟩:=x;have ha:zR a<1000000000:=hx;refine beX B hO f152 ?_;have hfin:∀z s,∃v,pJ (g,a) v/\qg v=true/\Fz s (.int .i64 z) v:=λz s=>G1 z;unfold f152 cF;simp only;refine wq ?_;refine wq ?_;refine wp (wp (wu ?_));apply wA;refine wP (λk:Nat=>k) (λk f t=>∃T L n m z,f=⟨tmL T,[]⟩/\t=KL L n m true/\G T 1 (.ptr 0 0)/\G T 3 (.int .i64 z)/\G T 4 (.int .i64 (dn k))/\k<=zR a/\wn L 0=some (.row 180 [.bool g,.lst (zR a) false (wo wN a)])) (λk f t hI=>?_) (zR a) ⟨_,_,_,_,_,rfl,rfl,V,by simp (disch:=first|exact dis|fail)only[go_sem,seval,-rO,-rN, *];rfl,by simp (disch:=first|exact dis|fail)only[go_sem,seval,-rO,-rN, *,Gs],zX _,sW⟩
 obtain⟨T,L,n,m,z,rfl,rfl,t1,t3,t4,hk,g0⟩:=hI;obtain⟨w,hw⟩:∃w,vUn .neg (.int .i64 z)=some (.int .i64 w):=⟨_,rfl⟩;cases k with
 | zero=>
  simp only[dn]at t4;cases g with
  |true=>
   refine wu ?_;refine ev_zc ?_;exact hfin _ _
  |false=>
   refine wu ?_;refine ev_zc ?_;exact hfin _ _
 |succ k=>
  simp only[dn]at t4;obtain⟨x,hd⟩:∃x,a.drop k=x::a.drop (k+1):=⟨_,zud J⟩;have hc:=uz hd;have hlt:k<zR a:=J;have hwr:= @Gs k J;clear hd hfin hw;refine wu ?_;exact⟨k,⟨_,L,n,_,_,rfl,rfl,V,by simp (disch:=first|exact dis|fail)only[go_sem,seval,-rO,-rN, *];rfl,V,J,g0⟩,J⟩
end
def V1(l:List Vl):zA:=[qZ l]
def Jb{a b:List Vl}(h:qZ a=qZ b):a=b:=by
 simp only[qZ,Z.lst.injEq,true_and]at h;exact fb h.2
def Ch:∀x y,V1 x=V1 y->x=y:=λa b h=>by
 simp only[V1,vc,and_true]at h;exact Jb h
def nX(l:List Vl):wL (V1 l)=true:=by simp only[V1,wR,gM,wU,xZ]
def zz8(l:List Vl):Prop:=zR l<1000000000
def ZJ(x:List Vl×List Vl):zA:=[qZ x.1,qZ x.2]
def Ci:∀x y,ZJ x=ZJ y->x=y:=λ⟨a,b⟩ ⟨c,d⟩ h=>by
 simp only[ZJ,vc,and_true]at h;rw[Jb h.1,Jb h.2]
def nY(x:List Vl×List Vl):wL (ZJ x)=true:=by simp only[ZJ,wR,gM,wU,xZ]
def KU(x:List Vl×List Vl):Prop:=zR x.1<1000000000/\zR x.2<1000000000
def fw:zA->U->zc:=v7 V1 zz8 qZ
section
variable {P:Program}{X:World}(B:Bx P X){O:Orc}(hO:OrcOk P X O)
include B hO
attribute [local go_sem] kT qZ in
def DI(h137:O 101=some Wd)(t:zy)(hp:pt t):∃s1,SC P X 129 (kT t) (s00 0 true) (qZ (j4 t)) s1:=by
 refine be B hO f129 ?_;have hcc:=λs=>YQ (f:=101) h137 hp.1 hp.2 s;have hlen:=hp.2;have hcr:∃l er,kw t=.tup [.lst (zR l) false (j3 l),.int .i64 (.ofNat er)]/\j4 t=l.map (λc=>⟨.ofNat 2,.ofNat c⟩)/\zR l<=t.length:=by
  unfold kw j4;cases h:uG t with
  |none=>exact⟨[],4,rfl,rfl,by simp⟩
  |some l=>exact⟨l,0,rfl,rfl,Q2 h⟩
 obtain⟨l,er,h1,h2,hl⟩:=hcr;rw[h1]at hcc;rw[h2];obtain⟨R,hR⟩:∃R,l.map (λc=>(⟨.ofNat 2,.ofNat c⟩:Vl))=R:=⟨_,rfl⟩;rw[hR];clear h1 h2;unfold f129 cF;simp only[kT,qZ];refine wq ?_;refine wq ?_;refine wq ?_;refine wp (wp (wu ?_));apply wA;refine wP (λx:Nat×List Vl=>zR l-x.1) (λx f t=>∃T L n m Y,f=⟨tmL T,[]⟩/\t=KL L n m true/\G T 3 (vZ wD 2 Y x.2)/\G T 4 (.lst (zR l) false (j3 l))/\G T 6 x.1/\x.1<=zR l/\zR x.2=x.1/\Lv 149 wD L n Y x.2/\x.2++(l.drop x.1).map (λc=>⟨.ofNat 2,.ofNat c⟩)=R) (λx f t hI=>?_) (0,[]) ⟨_,_,_,_,0,rfl,rfl,by simp (disch:=first|exact dis|fail)only[go_sem,seval,-rO,-rN,vZ],sW,sW,yz _,rfl,λh=>absurd rfl h,hR⟩
 clear hR;obtain⟨T,L,n,m,Y,rfl,rfl,t3,t4,t6,hi,hol,hok,hR⟩:=hI;obtain⟨i,out⟩:=x;simp only at t3 t6 hi hol hok hR|-;rcases wJ l i with ⟨hlt,hd⟩|⟨x,hlt,hd⟩
 .have hni:¬i<zR l:=J;rw[hd]at hR;simp only[List.map_nil,zvV]at hR;subst hR;obtain⟨v0,hf,hz⟩:=Ud (esz:=2) (Y:=Y) (s:=KL [] 0 0 true) kG WT out;refine wu ?_;refine wu ?_;refine qP ?_;exact hz
 .have hcx:=zyc hd;rw[hd,List.map_cons]at hR;refine wq ?_;refine wp (wA ?_);refine qB ?_;refine wO (pK uX kG kH J hok (ws:=[⟨.ofNat 2,.ofNat x⟩]) (e:=true) (by simp only[yJ,xY];omega) (by simp only[yJ,xY];omega)) λv t hv=>?_
  obtain⟨id2,L2,n2,m2,rfl,rfl,q1,_⟩:=hv;refine wu ?_;refine wu ?_;exact⟨(i+1,out++[⟨.ofNat 2,.ofNat x⟩]),⟨_,_,_,_,id2,rfl,rfl,V,V,V,by simp only;omega,by simp only[y8,yJ,xY];omega,q1,by rw[zum];exact hR⟩,by simp only;omega⟩
attribute [local go_sem] V1 qZ in
def T9(l:List Vl)(hl:zz8 l):∃s1,SC P X 155 (V1 l) (s00 0 true) (qZ l) s1:=by
 have hl:zR l<1000000000:=hl;refine be B hO f155 ?_;unfold f155 cF;simp only;refine wq ?_;refine wq ?_;refine wp (qB ?_);refine wO (pK (Y:=0) (vs:=[]) (e:=false) uX kG kH J (λh=>absurd rfl h) (by simp only[xY];omega) (by simp only[xY];omega)) λv t hv=>?_
 obtain⟨id1,L1,n1,m1,rfl,rfl,ok1,_⟩:=hv;rw[zv1];obtain⟨v0,hf,hz⟩:=Ud (esz:=2) (Y:=id1) (s:=KL [] 0 0 true) kG WT l;refine wu ?_;refine ev_zc ?_;exact hz
attribute [local go_sem] ZJ qZ in
def D3:jy P X 154 ZJ KU GBo:=by
 intro x hx;obtain⟨a,b⟩:=x;obtain⟨ha,hb⟩:=hx;simp only at ha hb;refine beX B hO f154 ?_;have hfin:∀z s,∃v,GBo (a,b) v/\qg v=true/\Fz s (.bool z) v:=λz s=>tJ z;unfold f154;simp only[Ko,Kd,Ki];refine wq ?_;by_cases hl:zR a=zR b
 .refine wq ?_;refine wp (wp (wu ?_));apply wA;refine wP (λi:Nat=>zR a-i) (λi f t=>∃T L n m,f=⟨tmL T,[]⟩/\t=KL L n m true/\G T 0 (.lst (zR a) false (wo wD a))/\G T 1 (.lst (zR b) false (wo wD b))/\G T 5 i/\i<=zR a) (λi f t hI=>?_) 0 ⟨_,_,_,_,rfl,rfl,V,V,sW,yz _⟩;obtain⟨T,L,n,m,rfl,rfl,t0,t1,t5,hi⟩:=hI;rcases wJ a i with ⟨hlt,hd⟩|⟨x,hlt,hd⟩
  .have hni:¬i<zR a:=J;clear hd;refine wu ?_;refine ev_zc ?_;exact hfin _ _
  .obtain⟨y,hd2⟩:∃y,b.drop i=y::b.drop (i+1):=⟨_,zud J⟩;have hc1:=X1 hd;have hc2:=X1 hd2;obtain⟨x1,x2⟩:=x;obtain⟨y1,y2⟩:=y;simp only[wD]at hc1 hc2;have hlt2:i<zR b:=J;clear hd hd2;obtain⟨q,hq⟩:=zwD x1 x2 y1 y2;cases q with
   |false=>
    clear hfin;refine wu ?_;exact⟨i+1,⟨_,L,n,_,rfl,rfl,V,V,V,J⟩,J⟩
   |true=>
    refine ev_zc ?_;exact hfin _ _
 .refine ev_zc ?_;exact hfin _ _
end
def StOk.add{q:Bool}{S:Sto q}(h:StOk sp L n S)(o:Ob)(hw:WfA L2 n2)(hn:n<=id2)(hi:id2<n2)(hr:wn L2 sp=some ({S with obs:=S.obs++[o],oid:=id2}:Sto q).row)(ho:wn L2 id2=some (.row (tOq q) (wo Ob.c (S.obs++[o])) true false))(hf:∀j,j<n->j≠sp->(S.obs≠[]->j≠S.oid)->wn L2 j=wn L j):StTo sp L n S L2 n2 {S with obs:=S.obs++[o],oid:=id2} where
 ok:={
  wf:=hw
  row:=hr
  go:=λ_=>⟨yz _,hi,ho⟩
  gy:=λhne=>by
   obtain⟨q1,q2,q3⟩:=h.gy hne;exact⟨q1,Nat.lt_of_lt_of_le q2 J,by rw[hf _ q2 (h.sp_y hne).symm λh0=>(h.o_y h0 hne).symm];exact q3⟩
  sy:=λy hy=>(h.sy y hy).mono (λ_ hb=>hb) λj hj=>by
   obtain⟨q1,q2,q3,_⟩:=h.bne hj;exact hf j q1 q2 q3
  bl:=λb hb=>by
   obtain⟨q1,q2,q3,_⟩:=h.bne hb;obtain⟨cs,hcs⟩:=h.bl b hb;exact⟨cs,by rw[hf b q1 q2 q3];exact hcs⟩}
 le:=J
 fr:=λj h1 h2 h3 _=>hf j h1 h2 h3
 o:=λ_=>.inr hn
 y:=λhne=>.inl ⟨hne,rfl⟩
 b:=λb hb=>.inl hb
def StOk.load{S:Sto false}(h:StOk sp L n S)(ld:Int)(wd:Bool):StTo sp L n S ((sp,some ({S with ld:=ld,wd:=wd}:Sto false).row)::L) n {S with ld:=ld,wd:=wd} where
 ok :={
  wf:=h.wf.same h.spn
  row:=wC _ _ _
  go:=λhne=>by
   obtain⟨q1,q2,q3⟩:=h.go hne;exact⟨q1,q2,by rw[wz,wx (h.sp_o hne).symm];exact q3⟩
  gy:=λhne=>by
   obtain⟨q1,q2,q3⟩:=h.gy hne;exact⟨q1,q2,by rw[wz,wx (h.sp_y hne).symm];exact q3⟩
  sy:=λy hy=>by
   have:=(h.sy y hy).mono (L2:=(sp,some ({S with ld:=ld,wd:=wd}:Sto false).row)::L) (more:=[]) (λ_ hb=>hb) λj hj=>by
    rw[wz,wx (h.bne hj).2.1]
   rwa [zvV]at this
  bl:=λb hb=>by
   obtain⟨cs,hcs⟩:=h.bl b hb;exact⟨cs,by rw[wz,wx (h.bne hb).2.1];exact hcs⟩}
 le:=zX _
 fr:=λj _ h2 _ _=>by rw[wz,wx h2]
 o:=λhne=>.inl ⟨hne,rfl⟩
 y:=λhne=>.inl ⟨hne,rfl⟩
 b:=λb hb=>.inl hb
theorem StOk.same{q:Bool}{S:Sto q}(h:StOk sp L n S):StTo sp L n S L n S:=h.more h.wf (zX _) λ_ _=>rfl
def obM(ty cd:Int)(kd:Z)(ng:Bool)(dg:Z)(h:vF kd=true/\vF dg=true):Ob:=⟨[.int .i64 ty,.int .i64 cd,kd,.bool ng,dg],rfl,by simp only[ko,lO,YB,Qp,h.1,h.2,xZ]⟩
section
variable {O:Orc}
def Mq(h191:O 153=none){S:Sto false}(h:StOk sp L n S)(k l:Int)(m:Nat):
  Cv (cl O 153 [.ptr sp 0,k,l] (KL L n m false)) λv t=>∃r L2 m2 ld wd,v=.bool r/\t=KL L2 n m2 false/\StTo sp L n S L2 n {S with ld:=ld,wd:=wd}:=by
 refine qD (F:=f153) h191 rfl rfl (zvT rfl) ?_;have hl:=λld wd=>h.load ld wd;have hs:=h.same;have hr:=h.row;obtain⟨obs,oid,ys,yid,bs,ld,wd⟩:=S;simp only[Sto.row]at hr hl|-;have c1:=ud 5 oid (zR obs);have c2:=ud 2 yid (zR ys);unfold f153 cF;simp only;cases e:ltD l k with
 |false=>
  clear hl c1 c2;refine ev_zc ?_;exact⟨_,L,_,ld,wd,rfl,rfl,hs⟩
 | true=>
  clear hs;generalize gSl 5 oid (zR obs)=a1 at *;generalize gSl 2 yid (zR ys)=a2 at *;simp only[vF]at c1 c2;refine wq ?_;cases e2:ltD (ji .i64 (Int.sub (.ofNat 3000000) ld)) k with
  |true=>
   refine ev_zc ?_;exact⟨_,_,_,ld,true,rfl,rfl,hl ld true⟩
  |false=>
   refine wq ?_;refine wq ?_;refine ev_zc ?_;exact⟨_,_,_,_,wd,rfl,rfl,hl _ wd⟩
attribute [local go_sem] qq qp in
def Xh(h167:O 128=none)(h191:O 153=none){S:Sto false}(h:StOk sp L n S)(hN:zR S.obs<100000000){ty cd:Int}{kd dg:Z}{ng:Bool}{zk zd:Int}(hk:∀s,Vy s .v kd=some (.int .i64 zk))(hd:∀s,Vy s .v dg=some (.int .i64 zd))(hs:vF kd=true/\vF dg=true)(m:Nat):
  Cv (cl O 128 [.ptr sp 0,.agg [ty,cd,kd,.bool ng,dg]] (KL L n m false)) λv t=>∃L2 n2 m2 oid2 ld wd,v=.agg (wD ⟨.ofNat 7,.ofNat (zR S.obs)⟩)/\t=KL L2 n2 m2 false/\StTo sp L n S L2 n2 {S with obs:=S.obs++[obM ty cd kd ng dg hs],oid:=oid2,ld:=ld,wd:=wd}:=by
 refine qD (F:=f128) h167 rfl rfl (zvT rfl) ?_;have k0:=(h.new (some (.row 187 [ty,cd,kd,.bool ng,dg]))).new (some (.row 149 [(0:Nat),(0:Nat)]));have hhv:=λk l m=>Mq h191 k0.ok k l m;have s1:=hs.1;have s2:=hs.2;simp only[vF]at s1 s2;have ck:kd.cells=[kd]:=by cases kd<;>first|rfl|cases s1
 have cg:dg.cells=[dg]:=by cases dg<;>first|rfl|cases s2
 unfold f128 cF;simp only;refine wq ?_;refine wp (qB ?_);refine wO (hhv _ _ _) λv t hv=>?_;obtain⟨r,L2,m2,ld,wd,rfl,rfl,k1⟩:=hv;clear hhv;have hw:=k1.ok.wf;have hr:=k1.ok.row;have hsp:=h.spn;have fr:∀j,n<=j->j<n+1+1->wn L2 j=wn ((n+1,some (AObj.row 149 [(0:Nat),(0:Nat)]))::(n,some (.row 187 [ty,cd,kd,.bool ng,dg]))::L) j:=λj h1 h2=>(h.fresh h1:Own sp S j).same h2 k1;have g3:=fr n (zX _) J;have g4:=fr (n+1) J J;rw[gN J,wC]at g3;rw[wC]at g4;have hfin:∀{L3:zb} {n3 id2:Nat} {v:zm},WfA L3 n3->n+1+1<=id2->id2<n3->wn L3 sp=some ({S with obs:=S.obs++[obM ty cd kd ng dg hs],oid:=id2,ld:=ld,wd:=wd}:Sto false).row->wn L3 id2=some (.row 187 (wo Ob.c (S.obs++[obM ty cd kd ng dg hs])) true false)->(∀j,j<n+1+1->j≠sp->(S.obs≠[]->j≠S.oid)->wn L3 j=wn L2 j)->StTo sp L n S ((n+1,v)::L3) n3 {S with obs:=S.obs++[obM ty cd kd ng dg hs],oid:=id2,ld:=ld,wd:=wd}:=λa1 a2 a3 a4 a5 a6=>by
  have k2:=k1.ok.add (obM ty cd kd ng dg hs) a1 a2 a3 a4 a5 a6;exact((k0.trans k1).trans k2).put2 J J (((h.fresh J:Own sp S (n+1)).to J k1).to J k2) _
 have hso:=h.sp_o;have hno:=(h.fresh (zur n):Own sp S (n+1)).o;have hgo:=k1.ok.go;have hcell:wo Ob.c [obM ty cd kd ng dg hs]=[.int .i64 ty,.int .i64 cd,kd,.bool ng,dg]:=by simp only[wo,obM,zvV]
 have hoc:w8 [Z.int .i64 ty,.int .i64 cd,kd,.bool ng,dg]=true:=(obM ty cd kd ng dg hs).sc;have hfl:∀l,wo Ob.c (l++[obM ty cd kd ng dg hs])=wo Ob.c l++[.int .i64 ty,.int .i64 cd,kd,.bool ng,dg]:=λl=>by rw[qu,hcell]
 clear k0 k1 h fr;refine wu ?_;obtain⟨obs,oid,ys,yid,bs,ld0,wd0⟩:=S;have hyv:=ud 2 yid (zR ys);simp only[Sto.row]at hr hN hso hgo hfin hsp hno;simp only[hfl]at hfin;generalize obM ty cd kd ng dg hs=ob at *;cases obs with
 |nil=>
  simp only[xY,gSl]at hr;have hap:=λL n m e x f=> @Ks L n m 187 e 5 72 [.int .i64 ty,.int .i64 cd,kd,.bool ng,dg] x f rfl J J;have hf:=λ{L3 n3 id2 v} a1 a2 a3 a4 a5 a6=> @hfin L3 n3 id2 v a1 a2 a3 a4 a5 a6;clear hfin;refine wq ?_;refine ev_zc ?_;refine⟨_,_,_,n+1+1+1,ld,wd,rfl,rfl,hf ?_ J J ?_ ?_ λj h1 h2 h3=>?_⟩
  ·(repeat first|exact hw.up J|refine WfA.same ?_ J)
  ·(repeat first|exact wC _ _ _|rw[gN J])
  ·(repeat first|exact wC _ _ _|rw[gN J])
  ·(repeat rw[gN J])
 | cons u us=>
  obtain⟨_,hid,hgi⟩:=hgo (by simp)
  have hso:=hso (by simp)
  have hno:=hno (by simp)
  try simp only at hno
  try simp only at hid
  try simp only at hgi
  try simp only at hso
  try simp only at hN
  have hl5:(wo Ob.c (u::us)).length=(u::us).length *5:=vI Ob.len _;have ha:=λm e x f=> @Kt L2 (n+1+1) m 187 e 5 72 oid (u::us).length false (wo Ob.c (u::us)) [.int .i64 ty,.int .i64 cd,kd,.bool ng,dg] x f hid hgi hl5 rfl J hoc J J;have hf:=λ{L3 n3 id2 v} a1 a2 a3 a4 a5 a6=> @hfin L3 n3 id2 v a1 a2 a3 a4 a5 a6;have hne:(u::us)≠[]:=by simp
  have hkk:(u::us++[ob]).length=(u::us).length+1:=by simp
  obtain⟨k,hk2⟩:∃k,(u::us).length=k+1:=⟨zR us,rfl⟩;rw[hkk,hk2]at hf;rw[hk2]at ha hr hN hl5|-;simp only[gSl]at hr hf;have hso2:=hso.symm;clear hfin hfl hcell hgo;generalize u::us++[ob]=nobs at *;generalize wo Ob.c (u::us)=fc at *;generalize u::us=ul at *;refine wq ?_;refine ev_zc ?_;refine⟨_,_,_,n+1+1+1,ld,wd,rfl,rfl,hf ?_ J J ?_ ?_ λj h1 h2 h3=>?_⟩
  ·(repeat first|exact hw.up J|refine WfA.same ?_ J)
  ·(repeat first|exact wC _ _ _|rw[gN J])
  ·(repeat first|exact wC _ _ _|rw[gN J])
  .have:=h3 hne
   (repeat rw[gN J])
end
open Int (reduceOfNat reduceNegSucc)
def StOk.addY{q:Bool}{sp n n2 id2:Nat}{L L2:zb}{S:Sto q}(h:StOk sp L n S){w:Vl}(hs:SymAt q L S.bs S.obs w)(hw:WfA L2 n2)(hn:n<=id2)(hi:id2<n2)(hr:wn L2 sp=some ({S with ys:=S.ys++[w],yid:=id2}:Sto q).row)(ho:wn L2 id2=some (.row (tVq q) (wo wD (S.ys++[w])) true false))(hf:∀j,j<n->j≠sp->(S.ys≠[]->j≠S.yid)->wn L2 j=wn L j):StTo sp L n S L2 n2 {S with ys:=S.ys++[w],yid:=id2} where
 ok :={
  wf:=hw
  row:=hr
  go:=λhne=>by
   obtain⟨q1,q2,q3⟩:=h.go hne;exact⟨q1,Nat.lt_of_lt_of_le q2 J,by rw[hf _ q2 (h.sp_o hne).symm λh0=>h.o_y hne h0];exact q3⟩
  gy:=λ_=>⟨yz _,hi,ho⟩
  sy:=λy hy=>by
   have hb:∀j∈S.bs,wn L2 j=wn L j:=λj hj=>by
    obtain⟨q1,q2,_,q3⟩:=h.bne hj;exact hf j q1 q2 q3
   have:SymAt q L S.bs S.obs y:=by
    rcases List.mem_append.1 hy with hy|hy
    .exact h.sy y hy
    .rw[List.mem_singleton.1 hy];exact hs
   have:=this.mono (L2:=L2) (more:=[]) (λ_ hb=>hb) hb
   rwa [zvV]at this
  bl:=λb hb=>by
   obtain⟨q1,q2,_,q3⟩:=h.bne hb;obtain⟨cs,hcs⟩:=h.bl b hb;exact⟨cs,by rw[hf b q1 q2 q3];exact hcs⟩}
 le:=J
 fr:=λj h1 h2 _ h4=>hf j h1 h2 h4
 o:=λhne=>.inl ⟨hne,rfl⟩
 y:=λ_=>.inr hn
 b:=λb hb=>.inl hb
def Own.to'{q:Bool}{S:Sto q}(h:Own sp S j)(_:StTo sp L n S L2 n2 S):Own sp S j:=h
def WE:ICode:=match f130.body with
 |.seq _ (.seq _ k)=>k
 |_=>.skip
def AS:ICode:=match WE with
 |.seq _ (.seq _ (.seq a _))=>a
 |_=>.skip
section
variable {O:Orc}
attribute [local go_sem] qq qp wD Trie.get_set Trie.get_del in
def rY{eb:Nat}{S:Sto false}(h:StOk sp L n S)(hY:zR S.ys<100000000){w:Vl}(hs:SymAt false L S.bs S.obs w){v4:Z}(t0:G T 0 (.ptr sp 0))(t4:G T 4 v4)(t8:G T 8 (.ptr eb 0))(geb:wn L eb=some (.row 149 (wD w)))(m:Nat):
  Ev (evC env (evW env O) none AS ⟨tmL T,[]⟩ (KL L n m false)) λr f s=>r=.norm/\∃T2 L2 n2 m2 yid2,f=⟨tmL T2,[]⟩/\s=KL L2 n2 m2 false/\G T2 4 v4/\G T2 8 (.ptr eb 0)/\StTo sp L n S L2 n2 {S with ys:=S.ys++[w],yid:=yid2}:=by
 have hw:=h.wf;have hr:=h.row;have hsp:=h.spn;have hen:=hw.lt geb;have hes:eb≠sp:=λe=>by rw[e,hr]at geb;simp[Sto.row]at geb
 have hes2:=hes.symm;have hey:=h.ne_y geb;have hpy:=h.sp_y;have hgy:=h.gy;have hfin:=λ{L2 n2 id2} a1 a2 a3 a4 a5 a6=> @StOk.addY false sp n n2 id2 L L2 S h w hs a1 a2 a3 a4 a5 a6;clear h hs;obtain⟨obs,oid,ys,yid,bs,ld,wd⟩:=S;have c1:=ud 5 oid (zR obs);simp only[Sto.row]at hr hY hfin;generalize gSl 5 oid (zR obs)=a1 at *;obtain⟨w1,w2⟩:=w;unfold AS WE f130 cF;simp only;cases ys with
 |nil=>
  simp only[xY,gSl]at hr;have hap:=λL n m e x f=> @Ks L n m 149 e 2 16 [.int .i64 w1,.int .i64 w2] x f rfl J J;simp only[wD]at geb;have hf:=λ{L3 n3 id2} a1 a2 a3 a4 a5 a6=> @hfin L3 n3 id2 a1 a2 a3 a4 a5 a6;clear hfin;refine wu ?_;refine⟨trivial,_,_,_,_,n+1,rfl,rfl,V,V,hf ?_ J J ?_ ?_ λj h1 h2 h3=>?_⟩
  ·(repeat first|exact hw.up J|refine WfA.same ?_ J)
  ·(repeat first|exact wC _ _ _|rw[gN J])
  ·(repeat first|exact wC _ _ _|rw[gN J])
  ·(repeat rw[gN J])
 | cons u us=>
  obtain⟨_,hid,hgi⟩:=hgy (by simp)
  have hso:=hpy (by simp)
  have hey:=hey (by simp)
  try simp only at hid
  try simp only at hso
  try simp only at hey
  try simp only at hgi
  have hfl:(wo wD (u::us)).length=(u::us).length *2:=GN _;have ha:=λm e x f=> @Kt L n m 149 e 2 16 yid (u::us).length false (wo wD (u::us)) [.int .i64 w1,.int .i64 w2] x f hid hgi hfl rfl J rfl J J;have hf:=λ{L3 n3 id2} a1 a2 a3 a4 a5 a6=> @hfin L3 n3 id2 a1 a2 a3 a4 a5 a6;have hne:(u::us)≠[]:=by simp
  have hkk:(u::us++[(⟨w1,w2⟩:Vl)]).length=(u::us).length+1:=by simp
  have hcat:wo wD (u::us)++[.int .i64 w1,.int .i64 w2]=wo wD ((u::us)++[⟨w1,w2⟩]):=by rw[qu,vt];rfl
  obtain⟨k,hk2⟩:∃k,(u::us).length=k+1:=⟨zR us,rfl⟩;rw[hkk,hk2]at hf;rw[hcat,hk2]at ha;rw[hk2]at hr hY hfl;simp only[gSl]at hr hf;simp only[wD]at geb;have hso2:=hso.symm;clear hfin hgy hcat hkk hpy;generalize u::us++[(⟨w1,w2⟩:Vl)]=nys at *;generalize wo wD (u::us)=fc at *;generalize u::us=ul at *;refine wu ?_;refine⟨trivial,_,_,_,_,n+1,rfl,rfl,V,V,hf ?_ J J ?_ ?_ λj h1 h2 h3=>?_⟩
  ·(repeat first|exact hw.up J|refine WfA.same ?_ J)
  ·(repeat first|exact wC _ _ _|rw[gN J])
  ·(repeat first|exact wC _ _ _|rw[gN J])
  .have:=h3 hne
   (repeat rw[gN J])
end
def obT(l:List Vl):Ob:=obM (.ofNat 4) (.ofNat 0) (qZ l) false .nils ⟨rfl,rfl⟩
def obY(Y:Nat):Ob:=obM (.ofNat 5) (.ofNat 0) (.sl Y 0 1 (.fix 1)) false .nils ⟨rfl,rfl⟩
section
variable {O:Orc}
attribute [local go_sem] qq qp wD Trie.get_set Trie.get_del in
def rZ(h167:O 128=none)(h191:O 153=none)(h193:O 155=some fw){ab:Nat}{S:Sto false}(h:StOk sp L n S)(hN:zR S.obs+2<100000000)(hY:zR S.ys<100000000){l:List Vl}(hl:zR l<2000000){T:List (Nat×Z)}{z1 z2:Z}(t0:G T 0 (.ptr sp 0))(t1:G T 1 (qZ l))(t4:G T 4 (.ptr ab 0))(gab:wn L ab=some (.row 149 [z1,z2]))(hab:Own sp S ab)(m:Nat){Q:Res->Fr->U->Prop}
  (hQ:∀T L2 n2 m2 S2 w,G T 4 (.ptr ab 0)->StTo sp L n S L2 n2 S2->Own sp S2 ab->zR S2.obs<=zR S.obs+2->zR S2.ys<=zR S.ys+1->Q .ret ⟨tmL T,[]⟩ (KL ((ab,some (.row 149 (wD w)))::L2) n2 m2 false)):
  Ev (evC env (evW env O) none WE ⟨tmL T,[]⟩ (KL L n m false)) Q:=by
 have hcl:=λs=>oc h193 Ch l (show (zR l)<1000000000 by omega) (args:=[qZ l]) (by simp only[V1,wkL,Hd]) s
 have habn:=h.wf.lt gab;have ha1:=λm=>Xh h167 h191 h J (ty:=.ofNat 4) (cd:=.ofNat 0) (kd:=qZ l) (dg:=.nils) (ng:=false) (λ_=>rfl) (λ_=>rfl) ⟨rfl,rfl⟩ m;have hsp:=h.spn;have hcp:=Qb l;simp only[qZ]at hcl t1 ha1;unfold WE f130 cF;simp only;refine wp (qB ?_);refine wO (ha1 _) λv t hv=>?_;obtain⟨L1,n1,m1,oid1,ld1,wd1,rfl,rfl,k1⟩:=hv;clear ha1 hcl;obtain⟨S1,hS1⟩:∃S1:Sto false,S1={S with obs:=S.obs++[obT l],oid:=oid1,ld:=ld1,wd:=wd1}:=⟨_,rfl⟩
 have k1:StTo sp L n S L1 n1 S1:=hS1▸k1;have e1:S1.obs=S.obs++[obT l]/\S1.ys=S.ys:=by rw[hS1];exact⟨rfl,rfl⟩
 have e1l:zR S1.obs=zR S.obs+1:=by rw[e1.1,y8];rfl
 clear hS1;have e1o:S1.obs[zR S.obs]? =some (obT l):=by rw[e1.1,xz (zX _),Nat.sub_self];rfl
 have k2:=(k1.new (some (.row 149 [(0:Nat),(0:Nat)]))).put2 (j:=n1) k1.le (yK _) (k1.ok.fresh (zX _)) (some (.row 149 [(7:Nat),zR S.obs]));have k3:=k2.new (some (.row 149 [(7:Nat),zR S.obs]));have ha2:=λm=>Xh h167 h191 k3.ok J (ty:=.ofNat 5) (cd:=.ofNat 0) (kd:=.sl (n1+1) 0 1 (.fix 1)) (dg:=.nils) (ng:=false) (λ_=>rfl) (λ_=>rfl) ⟨rfl,rfl⟩ m;have hw3:Own sp S1 (n1+1):=k2.ok.fresh (zX _);have hle1:=k1.le;have hsp1:=k1.ok.spn;refine wu ?_;refine wp (qB ?_);refine wO (ha2 _) λv t hv=>?_;obtain⟨L4,n4,m4,oid4,ld4,wd4,rfl,rfl,k4⟩:=hv;clear ha2;obtain⟨S4,hS4⟩:∃S4:Sto false,S4={S1 with obs:=S1.obs++[obY (n1+1)],oid:=oid4,ld:=ld4,wd:=wd4}:=⟨_,rfl⟩
 have k4:StTo sp _ _ S1 L4 n4 S4:=hS4▸k4;have e4:S4.obs=S1.obs++[obY (n1+1)]/\S4.ys=S1.ys:=by rw[hS4];exact⟨rfl,rfl⟩
 clear hS4;have g5:=(hw3.same J k4).trans (wC _ _ _);have k5:=((k3.trans k4).new (some (.row 149 [(0:Nat),(0:Nat)]))).put2 (j:=n4) (by have:=k4.le;omega) (yK _) (k4.ok.fresh (zX _)) (some (.row 149 (wD ⟨.ofNat 7,.ofNat (zR S.obs+1)⟩)))
 have hle4:=k4.le;have k6:=k5.bs (b:=n1+1) (cs:=[.int .i64 (.ofNat 7),.int .i64 (.ofNat (zR S.obs))]) J (by
  (repeat rw[gN J])
  exact g5)
 have hsym:SymAt false ((n4,some (AObj.row 149 (wD ⟨.ofNat 7,.ofNat (zR S.obs+1)⟩)))::(n4,some (.row 149 [(0:Nat),(0:Nat)]))::L4) ((n1+1)::S4.bs) S4.obs ⟨.ofNat 7,.ofNat (zR S.obs+1)⟩:=by
  refine⟨zR S.obs+1,zR S.obs,n1+1,obY (n1+1),obT l,l,rfl,?_,?_,rfl,zvZ,?_,rfl,hl⟩
  .rw[e4.1,xz J,e1l,Nat.sub_self];rfl
  .rw[e4.1,List.getElem?_append_left J];exact e1o
  ·(repeat rw[gN J])
   exact g5
 have hab4:Own sp S4 ab:=(hab.to habn (k3.trans k4));have hY4:zR S4.ys=zR S.ys:=by rw[e4.2,e1.2]
 have hO4:zR S4.obs=zR S.obs+2:=by rw[e4.1,y8,e1l];rfl
 have hO1:=e1l;clear k2 k3 k4 k1;simp only[hO1];refine wu ?_;refine wp (Ev.mono (rY (eb:=n4) (w:=⟨.ofNat 7,.ofNat (zR S.obs+1)⟩) (v4:=.ptr ab 0) k6.ok (by simp only;omega) hsym V V V (wC _ _ _) _) λr f s hz=>?_)
 obtain⟨rfl,T7,L7,n7,m7,yid7,rfl,rfl,t4',t8',k7⟩:=hz;have k8:=k6.trans k7;have g4:=(k7.fr n4 J J (k6.ok.ne_o (wC _ _ _)) (k6.ok.ne_y (wC _ _ _))).trans (wC _ _ _);have hab8:=hab.to habn k8;have gab8:=(hab.same habn k8).trans gab;have hq:=λT m t4=>hQ T L7 n7 m _ ⟨.ofNat 7,.ofNat (zR S.obs+1)⟩ t4 k8 hab8 (by simp only;omega) (by simp only[y8,yJ,xY];omega)
 clear hQ k8 k7 k6 k5 hsym g5 hab hab4 hab8;simp only[wD]at g4 hq;refine wu ?_;exact hq _ _ V
end
theorem Se{l:List Vl}{o:Vl}{r:List Vl}(hd:l.drop i=o::r):qf 1 (qv (i*2+1) (wo wD l))=some [.int .i64 o.n]:=by
 have h1:=jb (f:=wD) (k:=2) uX i l;rw[qH]at h1|-;rw[<-List.drop_drop,h1,hd];rfl
def Hid(p:Prop):Prop:=p
def iN:ICode->ICode:=λk=>match f130.body with
 |.seq a (.seq b _)=>.seq a (.seq b k)
 |_=>.skip
theorem r6:f130.body=iN WE:=rfl
section
variable {P:Program}{X:World}{O:Orc}
attribute [local go_sem] qq qp wD in
def r7(h169:O 130=none)(h167:O 128=none)(h191:O 153=none)(h193:O 155=some fw)(h192:O 154=some (j7 P X 154 ZJ KU GBo))(hsm:jy P X 154 ZJ KU GBo){S:Sto false}(h:StOk sp L n S)(hN:zR S.obs+2<100000000)(hY:zR S.ys<100000000){l:List Vl}(hl:zR l<2000000)(m:Nat):
  Cv (cl O 130 [.ptr sp 0,qZ l] (KL L n m false)) (KX sp L n S 2):=by
 refine qD (F:=f130) h169 rfl rfl (zvT rfl) ?_;have hw:=h.wf;have hsp:=h.spn;have ho:Own sp S n:=h.fresh (zX _);have k0:StTo sp L n S ((n,some (.row 149 [(0:Nat),(0:Nat)]))::L) (n+1) S:=h.new _;rw[r6];unfold iN f130 cF;simp only;have hr:=h.row;simp only[Sto.row]at hr;refine wq ?_;refine wp (wp (wu ?_));apply wA;refine wP (λi:Nat=>zR S.ys-i) (λi f t=>∃T L2 n2 m2,f=⟨tmL T,[]⟩/\t=KL L2 n2 m2 false/\G T 0 (.ptr sp 0)/\G T 1 (qZ l)/\G T 4 (.ptr n 0)/\G T 5 i/\i<=zR S.ys/\WfA L2 n2/\n+1<=n2/\∀j,j<n+1->wn L2 j=wn ((n,some (.row 149 [(0:Nat),(0:Nat)]))::L) j) (λi f t hI=>?_) 0 ⟨_,_,_,_,rfl,rfl,sW,sW,sW,sW,yz _,k0.ok.wf,zX _,λ_ _=>rfl⟩;obtain⟨T,L2,n2,m2,rfl,rfl,t0,t1,t4,t5,hi,hw2,hn2,hfr⟩:=hI;have k1:=k0.trans (k0.ok.more hw2 hn2 hfr);have hrow:=k1.ok.row;simp only[Sto.row]at hrow;rcases wJ S.ys i with ⟨hlt,hd⟩|⟨y,hlt,hd⟩
 .have hni:¬i<zR S.ys:=J;have g4:wn L2 n=some (.row 149 [(0:Nat),(0:Nat)]):=(hfr n J).trans (wC _ _ _);refine wu ?_;refine rZ h167 h191 h193 k1.ok hN hY hl (ab:=n) V V V g4 (ho.to' k1) _ λT3 L3 n3 m3 S3 w t4' k3 hb3 q1 q2=>?_;have k4:=(k1.trans k3).put2 (j:=n) (zX _) (by have:=k3.le;omega) hb3 (some (.row 149 (wD w)))
  have g43:=((ho.to' k1).same J k3).trans g4;refine qP ?_;exact⟨w,_,_,_,S3,rfl,rfl,k4,q1,J⟩
 .have hcy:=X1 hd;have hcy1:=Se hd;have hmem:y∈S.ys:=zvY (by rw[hd];exact zvZ)
  obtain⟨i1,a1,bid,oi,oa,l2,rfl,e1,e2,e3,e4,e5,e6,e7⟩:=k1.ok.sy y hmem;obtain⟨q1,q2,gy⟩:=k1.ok.gy (by intro e;rw[e]at hlt;simp at hlt)
  have hi1:=(List.getElem?_eq_some_iff.1 e1).1;have ha1:=(List.getElem?_eq_some_iff.1 e2).1;obtain⟨q3,q4,go⟩:=k1.ok.go (by intro e;rw[e]at e1;simp at e1)
  have c1:=bq e1 e3;have c2:=bq e2 e6;have hbid:=(k1.ok.bne e4).1;have hia:= @lU 2 S.yid (zR S.ys) i hlt;have hib:= @lU 5 S.oid (zR S.obs) i1 hi1;have hic:= @lU 5 S.oid (zR S.obs) a1 ha1;obtain⟨v,⟨r,rfl⟩,_,hev⟩:=jt h192 hsm Ci (l2,l) ⟨by simp only;omega,by simp only;omega⟩ (args:=[qZ l2,qZ l]) (by simp only[ZJ,wkL,Hd])
  simp only[wD]at hcy e5;simp only[qZ]at t1 c2 hev;have hspn:sp<n2:=k1.ok.spn;have g4:wn L2 n=some (.row 149 [(0:Nat),(0:Nat)]):=(hfr n J).trans (wC _ _ _);have hno:Own sp S n2:=k1.ok.fresh (zX _);have k2:=λo1 o2=>(k1.new o1).put2 (j:=n2) J (yK _) hno o2;have k3:=λo1 o2 o3=>(k2 o1 o2).put2 (j:=n) (zX _) J ho o3;have hfr3:Hid (∀o1 o2,∀j,j<n+1->wn ((n2,o1)::(n2,o2)::L2) j=wn ((n,some (.row 149 [(0:Nat),(0:Nat)]))::L) j):=λo1 o2 j hj=>by
   (repeat rw[gN J])
   exact hfr j hj
  clear hd hw h hr e1 e2 e3 e6 hfr k1 k0 ho hno hmem;generalize S.yid=yid at *;generalize S.oid=oid at *;cases r with
  |true=>
   refine ev_zc ?_;refine⟨⟨.ofNat 7,.ofNat i1⟩,_,n2+1,_,S,rfl,rfl,k3 _ _ _,J,J⟩
  |false=>
   refine wu ?_;refine⟨i+1,⟨_,_,n2+1,_,rfl,rfl,V,by simp (disch:=first|exact dis|fail)only[go_sem,seval,-rO,-rN, *,qZ],V,V,J,?_,J,λj hj=>?_⟩,J⟩
   ·(repeat first|exact hw2.up J|refine WfA.same ?_ J)
   .exact hfr3 _ _ j hj
end
def zw7:pt [45,53,51,54,56,55,48,57,49,50]:=⟨λx hx=>by simp at hx;omega,by decide⟩
def zw8:pt [53,51,54,56,55,48,57,49,49]:=⟨λx hx=>by simp at hx;omega,by decide⟩
def Zn{o:zm}(h:j≠i):wn ((i,o)::L) j=wn L j:=by rw[wz,wx h]
section
variable {P:Program}{X:World}{O:Orc}
section
attribute [local go_sem] qq qp wD
def rU(h166:O 127=none)(h167:O 128=none)(h191:O 153=none)(h189:O 151=some (j7 P X 151 pH KT GBo))(hwi:jy P X 151 pH KT GBo)(h190:O 152=some (j7 P X 152 pG pZ pJ))(hsm:jy P X 152 pG pZ pJ){S:Sto false}(h:StOk sp L n S)(hN:zR S.obs<100000000)(b:Bool){l:zw}(hl:zR l<100000000)(m:Nat):
  Cv (cl O 127 [.ptr sp 0,.agg [.bool b,.lst (zR l) false (wo wN l)]] (KL L n m false)) (KX sp L n S 1):=by
 refine qD (F:=f127) h166 rfl rfl (zvT rfl) ?_;obtain⟨v,⟨r,rfl⟩,_,hc1⟩:=jt h189 hwi Cc ((b,l),[45,53,51,54,56,55,48,57,49,50],[53,51,54,56,55,48,57,49,49]) ⟨by simp only;omega,zw7,zw8⟩ (args:=pH ((b,l),[45,53,51,54,56,55,48,57,49,50],[53,51,54,56,55,48,57,49,49])) (by simp only[pH,wkL,cm,wkV])
 obtain⟨v,⟨z,rfl⟩,_,hc2⟩:=jt h190 hsm Cb (b,l) (show (zR l)<1000000000 by omega) (args:=pG (b,l)) (by simp only[pG,wkL,cm])
 simp only[pH,pG,nmV,qt]at hc1 hc2;have hsp:=h.spn;have k0:=(h.new (some (.row 180 [.bool b,.lst (zR l) false (wo wN l)]))).new (some (.row 149 [(0:Nat),(0:Nat)]));have ha1:=λm=>Xh h167 h191 k0.ok hN (ty:=.ofNat 7) (cd:=.ofNat 0) (kd:=.nils) (dg:=.lst (zR l) false (wo wN l)) (ng:=b) (λ_=>rfl) (λ_=>rfl) ⟨rfl,rfl⟩ m;have ho:Own sp S (n+1):=h.fresh (zur _);have hcp:=wX qR l;unfold f127 cF;simp only;cases r with
 |true=>
  clear ha1;refine ev_zc ?_;exact⟨⟨.ofNat 1,z⟩,_,n+1+1,_,S,rfl,rfl,k0.put2 J J ho _,J,J⟩
 |false=>
  refine wq ?_;refine wq ?_;refine wp (qB ?_);refine wO (ha1 _) λv t hv=>?_;obtain⟨L2,n2,m2,oid2,ld,wd,rfl,rfl,k1⟩:=hv;have hle:=k1.le;have g4:=(ho.same J k1).trans (wC _ _ _);have k2:=(k0.trans k1).put2 (j:=n+1) J J (ho.to J k1) (some (.row 149 (wD ⟨.ofNat 7,.ofNat (zR S.obs)⟩)));clear ha1 k1 k0;refine wu ?_;refine ev_zc ?_;exact⟨⟨.ofNat 7,.ofNat (zR S.obs)⟩,_,n2,_,_,rfl,rfl,k2,by simp only[y8,yJ,xY];omega,by simp only;omega⟩
def DY(h170:O 131=none)(h167:O 128=none)(h191:O 153=none){Y:Nat}{S:Sto false}(h:StOk sp L n S){vs:List Vl}(hv:vs≠[]->Y<n/\Own sp S Y/\wn L Y=some (.row 149 (wo wD vs) true false))(w:Vl)(hN:zR S.obs+zR vs<100000000)(m:Nat):
  Cv (cl O 131 [.ptr sp 0,gSl 2 Y (zR vs),.agg (wD w)] (KL L n m false)) (KX sp L n S (zR vs)):=by
 refine qD (F:=f131) h170 rfl rfl (zvT rfl) ?_;have hw:=h.wf;have hsp:=h.spn;have k0:=(h.new (some (.row 149 [w.k,w.n]))).new (some (.row 149 [(0:Nat),(0:Nat)]));have ho0:Own sp S n:=h.fresh (zX _);have ho1:Own sp S (n+1):=h.fresh (zur _);unfold f131 cF;simp only;refine wq ?_;refine wp (wp (wu ?_));apply wA;refine wP (λk:Nat=>k) (λk f t=>∃T L2 n2 m2 S2 w2,f=⟨tmL T,[]⟩/\t=KL L2 n2 m2 false/\G T 0 (.ptr sp 0)/\G T 1 (gSl 2 Y (zR vs))/\G T 5 (.ptr n 0)/\G T 6 (.ptr (n+1) 0)/\G T 7 (.int .i64 (dn k))/\k<=zR vs/\StTo sp L n S L2 n2 S2/\n+1+1<=n2/\Own sp S2 n/\Own sp S2 (n+1)/\wn L2 n=some (.row 149 (wD w2))/\wn L2 (n+1)=some (.row 149 [(0:Nat),(0:Nat)])/\(vs≠[]->Own sp S2 Y/\wn L2 Y=some (.row 149 (wo wD vs) true false))/\zR S2.obs+k<=zR S.obs+zR vs/\zR S2.ys<=zR S.ys) (λk f t hI=>?_) (zR vs) ⟨_,_,_,_,S,w,rfl,rfl,sW,sW,sW,sW,by simp (disch:=first|exact dis|fail)only[go_sem,seval,-rO,-rN,Gs],zX _,k0,zX _,ho0,ho1,sW,sW,λhne=>?_,zX _,zX _⟩
 .clear k0;obtain⟨T,L2,n2,m2,S2,w2,rfl,rfl,t0,t1,t5,t6,t7,hk,k1,hn2,ho0,ho1,g5,g6,hv2,hb1,hb2⟩:=hI;obtain⟨w1,w3⟩:=w2;simp only[wD]at g5;cases k with
  |zero=>
   simp only[dn]at t7;have k2:=k1.put2 (j:=n+1) J J ho1 (some (.row 149 (wD ⟨w1,w3⟩)));refine wu ?_;refine ev_zc ?_;exact⟨⟨w1,w3⟩,_,n2,_,S2,rfl,rfl,k2,J,J⟩
  |succ k=>
   simp only[dn]at t7;obtain⟨x,hd⟩:∃x,vs.drop k=x::vs.drop (k+1):=⟨_,zud J⟩;have hcx:=X1 hd;have hlt:k<zR vs:=J;have hne:vs≠[]:=λe=>by rw[e]at hlt;simp at hlt
   obtain⟨oi,gi⟩:=hv2 hne;have hin:=(hv hne).1;have hia:= @lU 2 Y (zR vs) k hlt;obtain⟨x1,x2⟩:=x;simp only[wD]at hcx;have k2:=k1.new (some (.row 149 [x1,x2,w1,w3]));have ha1:=λm=>Xh h167 h191 k2.ok J (ty:=.ofNat 0) (cd:=.ofNat 0) (kd:=.sl n2 0 2 (.fix 2)) (dg:=.nils) (ng:=false) (λ_=>rfl) (λ_=>rfl) ⟨rfl,rfl⟩ m;have hwr:= @Gs k J;clear hd;refine wq ?_;refine wp (wA ?_);refine qB ?_;refine lw (ha1 0) λv t hv3=>?_;obtain⟨L3,n3,m3,oid3,ld3,wd3,rfl,rfl,k3⟩:=hv3;have hle:=k3.le;have g53:=(ho0.same J k3).trans ((Zn J).trans g5);have g63:=(ho1.same J k3).trans ((Zn J).trans g6);have gi3:=(oi.same J k3).trans ((Zn J).trans gi);have o3:=ho0.to J k3;have o4:=ho1.to J k3;have o5:=oi.to J k3;have hni:n≠Y:=λe=>by rw[<-e,g5]at gi;simp at gi
   have k4:=(k2.trans k3).put2 (j:=n) J J o3 (some (.row 149 (wD ⟨.ofNat 7,.ofNat (zR S2.obs)⟩)));clear ha1 k1 k2 k3 hv hv2 g5 g6 gi;simp only[wD]at k4;refine wu ?_;refine wu ?_;exact⟨k,⟨_,_,n3,_,_,⟨.ofNat 7,.ofNat (zR S2.obs)⟩,rfl,rfl,V,V,V,V,V,J,k4,J,o3,o4,wC _ _ _,by rw[gN J];exact g63,λ_=>⟨o5,by rw[gN J];exact gi3⟩,by simp only[y8,yJ,xY];omega,by simp only;omega⟩,J⟩
 .obtain⟨q1,q2,q3⟩:=hv hne;exact⟨q2,by (repeat rw[gN J]);exact q3⟩
end
end
def KO(O:Orc)(d:DT):Prop:=∀(sp:Nat) (L:zb) (n:Nat) (S:Sto false) (m:Nat),StOk sp L n S->zR S.obs+2*qe d<100000000->zR S.ys+2*qe d<100000000->Cv (cl O 104 [.ptr sp 0,.agg (qK d)] (KL L n m false)) (KX sp L n S (2*qe d))
section
variable {O:Orc}
attribute [local go_sem] qq qp wD in
def HC(h107:O 78=none)(xs:List DT)(hx:∀x∈xs,KO O x){S:Sto false}(h:StOk sp L n S)(hN:zR S.obs+2*qC xs<100000000)(hY:zR S.ys+2*qC xs<100000000)(m:Nat):
  Cv (cl O 78 [.ptr sp 0,.lst (zR xs) false (wQ xs)] (KL L n m false)) λv t=>∃Y vs L2 n2 m2 S2,v=gSl 2 Y (zR vs)/\zR vs=zR xs/\t=KL L2 n2 m2 false/\StTo sp L n S L2 n2 S2/\zR S2.obs<=zR S.obs+2*qC xs/\zR S2.ys<=zR S.ys+2*qC xs/\(vs≠[]->n<=Y/\Y<n2/\Own sp S2 Y/\wn L2 Y=some (.row 149 (wo wD vs) true false)):=by
 refine qD (F:=f78) h107 rfl rfl (zvT rfl) ?_;have hxl:=uf xs;unfold f78 cF;simp only;refine wq ?_;refine wq ?_;refine wp (wp (wu ?_));apply wA;refine wP (λi:Nat=>zR xs-i) (λi f t=>∃T L2 n2 m2 S2 Y vs,f=⟨tmL T,[]⟩/\t=KL L2 n2 m2 false/\G T 0 (.ptr sp 0)/\G T 1 (.lst (zR xs) false (wQ xs))/\G T 5 (gSl 2 Y (zR vs))/\G T 6 i/\i<=zR xs/\zR vs=i/\StTo sp L n S L2 n2 S2/\zR S2.obs+2*qC (xs.drop i)<=zR S.obs+2*qC xs/\zR S2.ys+2*qC (xs.drop i)<=zR S.ys+2*qC xs/\(vs≠[]->n<=Y/\Y<n2/\Own sp S2 Y/\wn L2 Y=some (.row 149 (wo wD vs) true false))) (λi f t hI=>?_) 0 ⟨_,L,n,m,S,0,[],rfl,rfl,sW,sW,by simp (disch:=first|exact dis|fail)only[go_sem,seval,-rO,-rN,gSl],sW,yz _,rfl,h.same,zX _,zX _,λhne=>absurd rfl hne⟩
 obtain⟨T,L2,n2,m2,S2,Y,vs,rfl,rfl,t0,t1,t5,t6,hi,rfl,k1,hb1,hb2,hg⟩:=hI;rcases wJ xs (zR vs)with ⟨hlt,hd⟩|⟨x,hlt,hd⟩
 .have hni:¬zR vs<zR xs:=J;rw[hd]at hb1 hb2;refine wu ?_;refine ev_zc ?_;exact⟨Y,vs,L2,n2,_,S2,rfl,J,rfl,k1,by simp only[qC]at hb1;omega,by simp only[qC]at hb2;omega,hg⟩
 .have hcx:=ZF hd;rw[<-vd]at hcx;rw[hd]at hb1 hb2;rw[JW]at hb1 hb2;have hxc:=hx x (zvY (by rw[hd];exact zvZ))
  have hcall:=λm=>hxc sp _ n2 S2 m k1.ok J J;obtain⟨xk,xn,xt,xks,xp⟩:=x;simp only[wT]at hcx hcall;have hle:=k1.le;clear hd;refine wq ?_;refine wp (wA ?_);refine wp (qB ?_);refine wO (hcall _) λv t hv=>?_;obtain⟨w,L4,n4,m4,S4,rfl,rfl,k4,hc1,hc2⟩:=hv;have k5:=(((k1.trans k4).new (some (.row 149 [(0:Nat),(0:Nat)]))).put2 (j:=n4) (by have:=k4.le;omega) (yK _) (k4.ok.fresh (zX _)) (some (.row 149 (wD w))))
  have k6:=k5.new (some (.row 149 (wD w)));have hle4:=k4.le;clear hcall hxc;have hid:vs≠[]->n<=Y/\Y<n4/\Own sp S4 Y/\wn ((n4+1,some (AObj.row 149 (wD w)))::(n4,some (AObj.row 149 (wD w)))::(n4,some (.row 149 [(0:Nat),(0:Nat)]))::L4) Y=some (.row 149 (wo wD vs) true false):=λhne=>by
   obtain⟨q1,q2,q3,q4⟩:=hg hne;refine⟨q1,J,q3.to J k4,?_⟩
   (repeat rw[gN J])
   rw[q3.same q2 k4];exact q4
  have hsrc:∀m,qQ (KL ((n4+1,some (AObj.row 149 (wD w)))::(n4,some (AObj.row 149 (wD w)))::(n4,some (.row 149 [(0:Nat),(0:Nat)]))::L4) (n4+1+1) m false) 2 1 (.sl (n4+1) 0 1 (.fix 1))=some (wD w):=λm=>(lE (j:=0) (by rw[qk,wC]) rfl).2
  refine wu ?_;refine qB ?_;refine wO (QX (f:=wD) (Y:=Y) (vs:=vs) (w:=w) uX kH J (λhne=>⟨by have:=(hid hne).2.1;omega,(hid hne).2.2.2⟩) k6.ok.wf rfl (hsrc _) J J) λv t hv=>?_
  obtain⟨L7,m7,rfl,rfl,g7,hw7,hf7⟩:=hv;have k7:StTo sp L n S L7 (n4+1+1+1) S4:=k6.oth (p:=vs≠[]) (Y:=Y) hw7 (zur _) (λhp=>⟨(hid hp).2.2.1,(hid hp).1⟩) hf7;have ho7:Own sp S4 (n4+1+1):=k6.ok.fresh (zX _);have hcat:=vG vs w;clear hid hg k6 k5 k4 k1 hf7 hsrc;refine wu ?_;refine wu ?_;exact⟨zR vs+1,⟨_,L7,n4+1+1+1,_,S4,n4+1+1,vs++[w],rfl,rfl,V,V,V,V,J,hcat,k7,J,J,λ_=>⟨J,J,ho7,g7⟩⟩,J⟩
end
structure RVOrc(P:Program)(X:World)(O:Orc):Prop where
 h107:O 78=none
 h140:O 104=none
 h166:O 127=none
 h167:O 128=none
 h169:O 130=none
 h170:O 131=none
 h191:O 153=none
 h193:O 155=some fw
 h168:O 129=some Vc
 h136:O 29=some Vd
 h192:O 154=some (j7 P X 154 ZJ KU GBo)
 hsv:jy P X 154 ZJ KU GBo
 h165:O 126=some (j7 P X 126 kT pt GPs)
 hps:jy P X 126 kT pt GPs
 h189:O 151=some (j7 P X 151 pH KT GBo)
 hwi:jy P X 151 pH KT GBo
 h190:O 152=some (j7 P X 152 pG pZ pJ)
 hsm:jy P X 152 pG pZ pJ
section
variable {P:Program}{X:World}{O:Orc}
attribute [local go_sem] qq qp wD in
def DK(H:RVOrc P X O){d:DT}(hm:uq d=true)(ht:TxD d)(hn:qe d<=1100000)(ih:∀x,qe x<qe d->uq x=true->TxD x->KO O x):KO O d:=by
 intro sp L n S m h hN hY;refine qD (F:=f104) H.h140 rfl rfl (zvT rfl) ?_;have hw:=h.wf;have hsp:=h.spn;obtain⟨kd,dn,dt,dk,dp⟩:=d;have k0:∀a b:zm,StTo sp L n S ((n+1,a)::(n,b)::L) (n+1+1) S:=λa b=>(h.new b).new a;have ho1:Own sp S (n+1):=h.fresh J;have hpos:=vu (.mk kd dn dt dk dp);have hsim:∀(w:Vl) (a b c:zm) (m2:Nat),KX sp L n S (2*qe (.mk kd dn dt dk dp)) (.agg (wD w)) (KL ((n+1,a)::(n+1,b)::(n,c)::L) (n+1+1) m2 false):=λw a b c m2=>⟨w,_,_,_,S,rfl,rfl,(k0 b c).put2 J J ho1 a,J,J⟩;have hfin:∀{L1:zb} {L2:zb} {n2 m2:Nat} {S2:Sto false} (w:Vl),StTo sp L n S L1 (n+1+1) S->StTo sp L1 (n+1+1) S L2 n2 S2->zR S2.obs<=zR S.obs+2*qe (.mk kd dn dt dk dp)->zR S2.ys<=zR S.ys+2*qe (.mk kd dn dt dk dp)->KX sp L n S (2*qe (.mk kd dn dt dk dp)) (.agg (wD w)) (KL ((n+1,some (.row 149 (wD w)))::L2) n2 m2 false):=λw ka kb h1 h2=>⟨w,_,_,_,_,rfl,rfl,(ka.trans kb).put2 J (by have:=kb.le;omega) (ho1.to J kb) _,h1,h2⟩
 simp only[wT];unfold f104 cF;simp only;refine wq ?_;by_cases e1:kd=.ofNat 1
 .subst e1;clear k0 hfin;refine ev_zc ?_;exact hsim ⟨.ofNat 3,dn⟩ _ _ _ _
 have n1:=qw e1;refine wq ?_;by_cases e3:kd=.ofNat 3
 .subst e3;clear k0 hfin;refine ev_zc ?_;exact hsim ⟨.ofNat 2,dn⟩ _ _ _ _
 have n3:=qw e3;refine wq ?_;simp only[TxD]at ht;by_cases e2:kd=.ofNat 2
 .subst e2;obtain⟨v,⟨b,q,er,rfl,hq⟩,_,hpc⟩:=jt H.h165 H.hps Zi dt ⟨ht.1,ht.2.1⟩ (args:=[.str dt]) rfl;have hlt:=ht.2.1;simp only[nmV,qt]at hpc;have hcp:=wX qR q;have k1:=λa b c:zm=>(k0 a b).new c;refine wp (wq ?_);refine vM sW ?_;refine wq ?_;refine wp (qB ?_);refine wO (rU H.h166 H.h167 H.h191 H.h189 H.hwi H.h190 H.hsm ((k1 _ _ _).put2 (j:=n+1+1) J J (h.fresh J) _).ok J b (l:=q) J _) λv t hv=>?_;obtain⟨w,L2,n2,m2,S2,rfl,rfl,k2,hc1,hc2⟩:=hv;have hle:=k2.le;have g4:=(ho1.same J k2);simp (disch:=first|exact dis|fail)only[go_sem,seval,-rO,-rN]at g4
  have k3:=(((k1 _ _ _).put2 (j:=n+1+1) J J (h.fresh J) _).trans k2).put2 (j:=n+1) J J (ho1.to J k2) (some (.row 149 (wD w)));clear k0 k1 hfin k2 hpc;refine wu ?_;refine ev_zc ?_;exact⟨w,_,n2,_,S2,rfl,rfl,k3,J,J⟩
 have n2:=qw e2;refine wq ?_;by_cases e4:kd=.ofNat 4
 .subst e4;have hch:=λs=>YP (f:=129) H.h168 ⟨ht.1,ht.2.1⟩ s;have ha1:=λm a b=>Xh H.h167 H.h191 (k0 a b).ok J (ty:=.ofNat 4) (cd:=.ofNat 0) (kd:=qZ (j4 dt)) (dg:=.nils) (ng:=false) (λ_=>rfl) (λ_=>rfl) ⟨rfl,rfl⟩ m;simp only[qZ]at hch ha1;refine wp (wq ?_);refine vM sW ?_;refine wp (qB ?_);refine wO (ha1 _ _ _) λv t hv=>?_;obtain⟨L2,n2,m2,oid2,ld,wd,rfl,rfl,k2⟩:=hv;have g4:=(ho1.same J k2);simp (disch:=first|exact dis|fail)only[go_sem,seval,-rO,-rN]at g4
  have hf:=λm=>hfin (m2:=m) ⟨.ofNat 7,.ofNat (zR S.obs)⟩ (k0 _ _) k2 (by simp only[vG];omega) (by simp only;omega)
  clear k0 hfin k2 hch ha1;simp only[wD]at hf;refine wu ?_;refine ev_zc ?_;exact hf _
 have n4:=qw e4;refine wq ?_;by_cases e5:kd=.ofNat 5
 .subst e5;have hch:=λs=>YP (f:=129) H.h168 ⟨ht.1,ht.2.1⟩ s;have hcl:=Gk dt;have hlt:=ht.2.1;refine wp (wq ?_);refine vM sW ?_;refine wp (qB ?_);refine wO (r7 H.h169 H.h167 H.h191 H.h193 H.h192 H.hsv (k0 _ _).ok J J (l:=j4 dt) J _) λv t hv=>?_;obtain⟨w,L2,n2,m2,S2,rfl,rfl,k2,hc1,hc2⟩:=hv;have g4:=(ho1.same J k2);simp (disch:=first|exact dis|fail)only[go_sem,seval,-rO,-rN]at g4
  have hf:=λm=>hfin (m2:=m) w (k0 _ _) k2 J J;clear k0 hfin k2 hch;simp only[wD]at hf;refine wu ?_;refine ev_zc ?_;exact hf _
 have n5:=qw e5;refine wq ?_;by_cases e8:kd=.ofNat 8
 .subst e8;have hlen:=ht.2.1;have hbyt:=ht.1;refine wp (wq ?_);refine vM sW ?_;refine wq ?_;refine wp (wp (wu ?_));apply wA;refine wP (λi:Nat=>zR dt-i) (λi f t=>∃T L2 n2 m2 Y vs,f=⟨tmL T,[]⟩/\t=KL L2 n2 m2 false/\G T 0 (.ptr sp 0)/\G T 3 (.ptr n 0)/\G T 4 (.ptr (n+1) 0)/\G T 7 (gSl 2 Y (zR vs))/\G T 8 i/\i<=zR dt/\zR vs=i/\StTo sp L n S L2 n2 S/\n+1+1<=n2/\wn L2 n=some (.row 36 [(8:Nat),dn,.str dt,.lst (zR dk) false (wQ dk),dp])/\wn L2 (n+1)=some (.row 149 [(0:Nat),(0:Nat)])/\(vs≠[]->n+1+1<=Y/\Y<n2/\wn L2 Y=some (.row 149 (wo wD vs) true false))) (λi f t hI=>?_) 0 ⟨_,_,_,_,0,[],rfl,rfl,sW,sW,sW,by simp (disch:=first|exact dis|fail)only[go_sem,seval,-rO,-rN,gSl],sW,yz _,rfl,k0 _ _,zX _,sW,sW,λhne=>absurd rfl hne⟩
  obtain⟨T,L2,n2',m2,Y,vs,rfl,rfl,t0,t3,t4,t7,t8,hi,rfl,k2,hle2,g3,g4,hg⟩:=hI;rcases wJ dt (zR vs)with ⟨hlt,hd⟩|⟨x,hlt,hd⟩
  .have hni:¬zR vs<zR dt:=J;have hsc:=ud 2 Y (zR vs);have hcc:=qp 2 Y (zR vs);have ha1:=λm=>Xh H.h167 H.h191 k2.ok J (ty:=.ofNat 6) (cd:=.ofNat 0) (kd:=gSl 2 Y (zR vs)) (dg:=.nils) (ng:=false) (qq · 2 Y (zR vs)) (λ_=>rfl) ⟨hsc,rfl⟩ m;generalize gSl 2 Y (zR vs)=sv at *;clear hg;refine wu ?_;refine wp (qB ?_);refine wO (ha1 _) λv t hv=>?_;obtain⟨L3,n3',m3,oid3,ld,wd,rfl,rfl,k3⟩:=hv;have g43:=(ho1.same J k3).trans g4;have k5:=(k2.trans k3).put2 (j:=n+1) J (by have:=k3.le;omega) (ho1.to J k3) (some (.row 149 (wD ⟨.ofNat 7,.ofNat (zR S.obs)⟩)))
   clear k0 hfin k2 k3 ha1;refine wu ?_;refine ev_zc ?_;exact⟨⟨.ofNat 7,.ofNat (zR S.obs)⟩,_,n3',_,_,rfl,rfl,k5,by simp only[vG];omega,by simp only;omega⟩
  .have hx:x<256:=hbyt x (zvY (by rw[hd];exact zvZ))
   have hgs:=tO hd;have k3:=k2.new (some (.row 149 (wD ⟨.ofNat 1,.ofNat x⟩)));have hsrc:∀m,qQ (KL ((n2',some (AObj.row 149 (wD ⟨.ofNat 1,.ofNat x⟩)))::L2) (n2'+1) m false) 2 1 (.sl n2' 0 1 (.fix 1))=some (wD ⟨.ofNat 1,.ofNat x⟩):=λm=>(lE (j:=0) (by rw[qk,wC]) rfl).2
   have hid:vs≠[]->Y<n2'+1/\wn ((n2',some (AObj.row 149 (wD ⟨.ofNat 1,.ofNat x⟩)))::L2) Y=some (.row 149 (wo wD vs) true false):=λhne=>by
    obtain⟨q1,q2,q3⟩:=hg hne;exact⟨J,by rw[gN J];exact q3⟩
   clear hd;refine wq ?_;refine wp (wA ?_);refine qB ?_;refine wO (QX (f:=wD) (Y:=Y) (vs:=vs) (w:=⟨.ofNat 1,.ofNat x⟩) uX kH J hid k3.ok.wf rfl (hsrc _) J J) λv t hv=>?_;obtain⟨L7,m7,rfl,rfl,g7,hw7,hf7⟩:=hv;have k7:StTo sp L n S L7 (n2'+1+1) S:=k3.oth (p:=vs≠[]) (Y:=Y) hw7 (zur _) (λhp=>⟨h.fresh (by have:=(hg hp).1;omega),by have:=(hg hp).1;omega⟩) hf7
   have g37:=(hf7 n J λhp=>by have:=(hg hp).1;omega).trans ((Zn J).trans g3)
   have g47:=(hf7 (n+1) J λhp=>by have:=(hg hp).1;omega).trans ((Zn J).trans g4)
   have hcat:=vG vs ⟨.ofNat 1,.ofNat x⟩;clear hid hg k3 k2 k0 hf7 hfin hsrc;refine wu ?_;refine wu ?_;exact⟨zR vs+1,⟨_,L7,n2'+1+1,_,n2'+1,vs++[⟨.ofNat 1,.ofNat x⟩],rfl,rfl,V,V,V,V,V,J,hcat,k7,J,g37,g47,λ_=>⟨J,J,g7⟩⟩,J⟩
 have n8:=qw e8;refine wq ?_;by_cases e7:kd=.ofNat 7
 .subst e7;have hk:vq (.mk (.ofNat 7) dn dt dk dp)=none:=by
   cases hk:vq (.mk (.ofNat 7) dn dt dk dp)with
   |none=>rfl
   |some p=>exact absurd (uN (x:=p.1) (y:=p.2) hk).1 (by decide)
  rw[ZP hk,wH rfl]at hm;have hnk:qe (.mk (.ofNat 7) dn dt dk dp)=1+qC dk:=by simp only[qe]
  have hdc:∀x∈dk,KO O x:=λx hx=>ih x (by rw[hnk];have:=vV hx;omega) (List.all_eq_true.1 hm x hx) (ht.2.2.mem hx)
  refine wp (wq ?_);refine vM sW ?_;refine wp (qB ?_);refine wO (HC H.h107 dk hdc (k0 _ _).ok J J _) λv t hv=>?_;obtain⟨Y,vs,L2,n2,m2,S2,rfl,hvl,rfl,k2,hc1,hc2,hg⟩:=hv;have hsc:=ud 2 Y (zR vs);have hcc:=qp 2 Y (zR vs);have ha1:=λm=>Xh H.h167 H.h191 k2.ok J (ty:=.ofNat 1) (cd:=.ofNat 0) (kd:=gSl 2 Y (zR vs)) (dg:=.nils) (ng:=false) (qq · 2 Y (zR vs)) (λ_=>rfl) ⟨hsc,rfl⟩ m;generalize gSl 2 Y (zR vs)=sv at *;refine wu ?_;refine wp (qB ?_);refine wO (ha1 _) λv t hv=>?_;obtain⟨L3,n3',m3,oid3,ld,wd,rfl,rfl,k3⟩:=hv;have k4:=k2.trans k3;have g4:=(ho1.same J k4);simp (disch:=first|exact dis|fail)only[go_sem,seval,-rO,-rN]at g4
  have hf:=λm=>hfin (m2:=m) ⟨.ofNat 7,.ofNat (zR S2.obs)⟩ (k0 _ _) k4 (by simp only[vG];omega) (by simp only;omega)
  clear k0 hfin k2 k3 k4 ha1 hg;simp only[wD]at hf;refine wu ?_;refine ev_zc ?_;exact hf _
 have n7:=qw e7;refine wq ?_;by_cases e6:kd=.ofNat 6
 .subst e6;cases hk:vq (.mk (.ofNat 6) dn dt dk dp)with
  |none=>
   rw[ZP hk,wx (by decide)]at hm
   simp[XR,VM,G9]at hm
  | some p=>
   obtain⟨x,y⟩:=p;have hni:=gZ (.mk (.ofNat 6) dn dt dk dp);have hlt:qe (qn (.mk (.ofNat 6) dn dt dk dp)).2<qe (.mk (.ofNat 6) dn dt dk dp):=by
    rw[uL hk];have h1:=gZ y;have h2:=jd hk;have h3:=vu x;show qe (qn y).2<_;omega
   have hil:=uf (qn (.mk (.ofNat 6) dn dt dk dp)).1;have hpl:=vu (qn (.mk (.ofNat 6) dn dt dk dp)).2;have hsum:qC (qn (.mk (.ofNat 6) dn dt dk dp)).1+qe (qn (.mk (.ofNat 6) dn dt dk dp)).2+(qn (.mk (.ofNat 6) dn dt dk dp)).1.length<=qe (.mk (.ofNat 6) dn dt dk dp):=U8 _ _ (yK _);obtain⟨hi1,hi2,hi3⟩:=U7 _ _ (yK _) hm (by simp only[TxD];exact ht)
   have hit:=λs=>Uh H.h136 (d:=.mk (.ofNat 6) dn dt dk dp) J s;simp only[itR]at hit;generalize qn (.mk (.ofNat 6) dn dt dk dp)=Ir at *;obtain⟨is,e⟩:=Ir;simp only at hni hlt hil hpl hsum hi1 hi2 hi3 hit;have hdc:∀z∈is,KO O z:=λz hz=>ih z (by have:=vV hz;omega) (hi1 z hz).1 (hi1 z hz).2
   have hde:=ih e hlt hi2 hi3;obtain⟨ek,en,et,eks,ep⟩:=e;simp only[Z3,wT]at hit;have hcp:wL (wQ is)=true:=vl is;have hcp2:wL (wQ eks)=true:=vl eks;refine wp (wq ?_);refine vM sW ?_;refine wq ?_;have k2:=λa b c e:zm=>((k0 a b).new c).put2 (j:=n+1+1) J J (h.fresh J) e;refine wp (qB ?_);refine wO (HC H.h107 is hdc (k2 _ _ _ _).ok J J _) λv t hv=>?_;obtain⟨Y,vs,L2,n2,m2,S2,rfl,hvl,rfl,k3,hc1,hc2,hg⟩:=hv;have hsc:=ud 2 Y (zR vs);have hcc:=qp 2 Y (zR vs);replace hvl:=hvl.symm;have g11:=((h.fresh J:Own sp S (n+1+1)).same J k3);simp (disch:=first|exact dis|fail)only[go_sem,seval,-rO,-rN]at g11
   have hdd:=λm=>hde sp L2 n2 S2 m k3.ok J J;simp only[wT]at hdd;refine wu ?_;refine wp (qB ?_);refine wO (hdd _) λv t hv=>?_;obtain⟨w,L4,n4,m4,S4,rfl,rfl,k4,hc3,hc4⟩:=hv;clear hdd hde;have k5:=(k4.new (some (.row 149 [(0:Nat),(0:Nat)]))).put2 (j:=n4) k4.le (yK _) (k4.ok.fresh (zX _)) (some (.row 149 (wD w)));have hls:=λm=>DY H.h170 H.h167 H.h191 k5.ok (vs:=vs) (Y:=Y) (λhne=>by
    obtain⟨q1,q2,q3,q4⟩:=hg hne;have:=k4.le;exact⟨J,q3.to q2 k5,by rw[q3.same q2 k5];exact q4⟩) w J m
   simp only[wD]at hls;refine wu ?_;refine wp (qB ?_);refine wO (hls _) λv t hv=>?_;obtain⟨w5,L5,n5',m5,S5,rfl,rfl,k6,hc5,hc6⟩:=hv;have k7:=(k3.trans k5).trans k6;have hle7:=k7.le;have g4:=(ho1.same J k7);simp (disch:=first|exact dis|fail)only[go_sem,seval,-rO,-rN]at g4
   have k8:=((k2 _ _ _ _).trans k7).put2 (j:=n+1) J J (ho1.to J k7) (some (.row 149 (wD w5)));clear k0 k2 hfin k3 k4 k5 k6 k7 hls hg g11;simp only[wD]at k8;refine wu ?_;refine ev_zc ?_;exact⟨w5,_,n5',_,S5,rfl,rfl,k8,J,J⟩
 have n6:=qw e6;clear k0 hfin;refine wq ?_;by_cases e9:kd=.ofNat 9
 .subst e9;refine ev_zc ?_;exact hsim ⟨.ofNat 5,.ofNat 0⟩ _ _ _ _
 have n9:=qw e9;refine wq ?_;by_cases e10:kd=.ofNat 10
 .subst e10;refine ev_zc ?_;exact hsim ⟨.ofNat 6,.ofNat 0⟩ _ _ _ _
 have n10:=qw e10;refine wq ?_;refine ev_zc ?_;exact hsim ⟨.ofNat 4,.ofNat 0⟩ _ _ _ _
end
structure RNOrc(P:Program)(X:World)(N:Nat)(O:Orc):Prop extends RVOrc P X O where
 h65:O 54=none
 h106:O 77=none
 h105:O 76=some (U0 N)
 hN:N<=1100000
def Dx(x:DT)(r:List DT):QD (x::r)=(plD x&&QD r):=by simp only[QD]
section
variable {P:Program}{X:World}{O:Orc}
def D1(h106:O 77=none):∀(K:Nat) (d:DT),qe d<=K->qe d<1000000000->∀(L:zb) (n m:Nat) (b:Bool),cl O 77 [.agg (qK d)] (KL L n m b)=some (.bool (plD d),KL L n m b):=by
 intro K
 induction K with
 |zero=>intro d h;have:=vu d;omega
 | succ K ih=>
  intro d hK hM L n m b;apply X2;refine vr (F:=f77) h106 rfl rfl (zvT rfl) ?_;obtain⟨kd,dn,dt,dk,dp⟩:=d;have hnk:=uf dk;have hkk:qC dk<qe (.mk kd dn dt dk dp):=by
   have:=jx (.mk kd dn dt dk dp);simp only[jZ]at this;omega
  have hih:=λx (hx:x∈dk)=>ih x (by have:=vV hx;omega) (by have:=vV hx;omega)
  clear ih;obtain⟨R,hR⟩:∃R,plD (.mk kd dn dt dk dp)=R:=⟨_,rfl⟩;rw[hR];simp only[plD]at hR;simp only[wT];unfold f77 cF;simp only;refine wq ?_;cases e1:(!eqD kd (.ofNat 5)||eqD dn (.ofNat 0))with
  |false=>
   rw[e1,zvW]at hR;subst hR;simp only[Bool.or_eq_false_iff,Bool.not_eq_false']at e1;obtain⟨e2,e3⟩:=e1;clear hih;refine ev_zc ?_;exact⟨rfl,rfl⟩
  | true=>
   rw[e1,xC]at hR;have hj:∀{Q:Res->Fr->U->Prop} {A9:ICode} {T:List (Nat×Z)} {s:U},(eqD kd (.ofNat 5)=false->Ev (evC env (evW env O) none A9 ⟨tmL T,[]⟩ s) Q)->(eqD kd (.ofNat 5)=true->eqD dn (.ofNat 0)=true->Ev (evC env (evW env O) none A9 ⟨tmL T,[]⟩ s) Q)->Ev (evC env (evW env O) none A9 ⟨tmL T,[]⟩ s) Q:=λh1 h2=>by
    cases e2:eqD kd (.ofNat 5)with
    |false=>exact h1 e2
    |true=>rw[e2,wa,x9]at e1;exact h2 e2 e1
   refine qX (λfr t=>∃T,fr=⟨tmL T,[]⟩/\t=KL ((n,some (.row 36 [kd,dn,.str dt,.lst (zR dk) false (wQ dk),dp]))::L) (n+1) 0 true/\G T 1 (.ptr n 0)) ?_ λfr t hI=>?_
   .refine hj (λe2=>?_) λe2 e3=>?_
    .clear hih hR;refine wu ?_;exact⟨_,rfl,trivial,sW⟩
    .clear hih hR;refine wu ?_;exact⟨_,rfl,trivial,sW⟩
   .clear hj e1;obtain⟨T,rfl,rfl,t1⟩:=hI;refine wp (wp (wu ?_));apply wA;refine wP (λi:Nat=>zR dk-i) (λi f t=>∃T m2,f=⟨tmL T,[]⟩/\t=KL ((n,some (.row 36 [kd,dn,.str dt,.lst (zR dk) false (wQ dk),dp]))::L) (n+1) m2 true/\G T 1 (.ptr n 0)/\G T 3 i/\i<=zR dk/\m2%2^n=0/\R=QD (dk.drop i)) (λi f t hI=>?_) 0 ⟨_,_,rfl,rfl,V,V,yz _,by simp,hR.symm⟩
    clear hR t1;obtain⟨T,m2,rfl,rfl,t1,t3,hi,hm,hR⟩:=hI;rcases wJ dk i with ⟨hlt,hd⟩|⟨x,hlt,hd⟩
    .have hni:¬i<zR dk:=J;rw[hd]at hR;simp only[QD]at hR;clear hd hih;refine wu ?_;refine ev_zc ?_;exact⟨by rw[hR],rfl⟩
    .have hcx:=ZF hd;rw[<-vd]at hcx;have hx:=hih x (zvY (by rw[hd];exact zvZ))
     rw[hd,Dx]at hR;generalize plD x=r at *;obtain⟨xk,xn,xt,xks,xp⟩:=x;simp only[wT]at hcx hx;clear hd hih;cases r with
     |false=>
      rw[zvW]at hR;subst hR;refine ev_zc ?_;exact⟨rfl,rfl⟩
     |true=>
      rw[xC]at hR;refine wu ?_;exact⟨i+1,⟨_,_,rfl,rfl,V,V,J,V,hR⟩,J⟩
def HD(H:RVOrc P X O):∀(N:Nat) (d:DT),qe d<N->qe d<=1100000->uq d=true->TxD d->KO O d
 |0,_,h,_,_,_=>by omega
 |N+1,d,h,hn,hm,ht=>DK H hm ht hn λx hx h1 h2=>HD H N x J J h1 h2
attribute [local go_sem] qq qp in
def zzh{N:Nat}(H:RNOrc P X N O){l:List DT}(hl:CsPre N l)(hw:WfA L n)(m:Nat):
  Cv (cl O 54 [.lst (zR l) false (wQ l),.nils] (KL L n m false)) λv t=>∃x L2 n2 m2,v=.tup [x,.int .i64 (bif Un P X l then .ofNat 0 else .ofNat 2)]/\(x=.nilp\/∃p,x=.ptr p 0)/\t=KL L2 n2 m2 false/\n<=n2/\∀j,j<n->wn L2 j=wn L j:=by
 refine qD (F:=f54) H.h65 rfl rfl (zvT rfl) ?_;have hlen:=uf l;have hsum:=hl.sum;have hNN:=H.hN;obtain⟨R,hR⟩:∃R,Un P X l=R:=⟨_,rfl⟩;rw[hR];unfold f54 cF;simp only;refine wq ?_;refine wp (wp (wu ?_));apply wA;refine wP (λi:Nat=>zR l-i) (λi f t=>∃T m2,f=⟨tmL T,[]⟩/\t=KL L n m2 false/\G T 0 (.lst (zR l) false (wQ l))/\G T 1 .nils/\G T 6 i/\i<=zR l/\(l.take i).all (λd=>uq d&&plD d)=true) (λi f t hI=>?_) 0 ⟨_,_,rfl,rfl,sW,sW,sW,yz _,rfl⟩;obtain⟨T,m2,rfl,rfl,t0,t1,t6,hi,hal⟩:=hI;rcases wJ l i with ⟨hlt,hd⟩|⟨d,hlt,hd⟩
 .have hni:¬i<zR l:=J;rw[List.take_of_length_le hlt]at hal;have hRt:R=true:=by rw[<-hR];exact hal
  subst hRt;have hdc:∀d∈l,KO O d:=λd hdm=>by
   have h1:=List.all_eq_true.1 hal d hdm;rw[zU]at h1;have h2:=hl.nd d hdm;exact HD H.toRVOrc _ d (yK _) J h1.1 (hl.tx.mem hdm)
  have hs0:StOk n ((n,some (Jo false).row)::(n,some (Jo false).row)::L) (n+1) (Jo false):=⟨(hw.cons (yK _) (zur _)).same (yK _),wC _ _ _,λh=>absurd rfl h,λh=>absurd rfl h,(λy hy=>by cases hy),(λy hy=>by cases hy)⟩
  have hda:=λm=>HC H.h107 l hdc hs0 (by simp only[Jo,xY];omega) (by simp only[Jo,xY];omega) m
  have hap:∀(s:U),jo s 5 1 1 .nils .nils=some (.nils,s):=λs=>rfl;have hr0:(Jo false).row=.row 127 [.nils,.nils,.nils,.nils,.nils,(0:Nat),.bool false]:=rfl;rw[hr0]at hda;clear hR hal hdc;refine wu ?_;refine wq ?_;refine wq ?_;refine wp (qB ?_);refine wO (hda _) λv t hv=>?_;obtain⟨Y,vs,L3,n3,m3,S3,rfl,hvl,rfl,k3,hc1,hc2,hg⟩:=hv;have hrow:=k3.ok.row;have hsc:=ud 2 Y (zR vs);have hcc:=qp 2 Y (zR vs);have hle:=k3.le;have hfr:Hid (∀j,j<n->wn L3 j=wn L j):=λj hj=>by
   rw[k3.fr j J J (λh=>absurd rfl h) (λh=>absurd rfl h)]
   (repeat rw[gN J])
  simp only[Sto.row]at hrow;simp only[vF]at hsc;generalize gSl 2 Y (zR vs)=sv at *;generalize gSl 5 S3.oid (zR S3.obs)=a1 at *;generalize gSl 2 S3.yid (zR S3.ys)=a2 at *;clear hg hvl k3 hs0 hda hap;refine wu ?_;refine ev_zc ?_;exact⟨.ptr n 0,_,n3,_,rfl,.inr ⟨n,rfl⟩,rfl,J,λj hj=>by rw[gN J];exact hfr j hj⟩
 .have hdm:d∈l:=zvY (by rw[hd];exact zvZ)
  have hnd:=hl.nd d hdm;have htd:=hl.tx.mem hdm;have hma:=λs=>Yp (f:=76) H.h105 htd hnd s;have hpc:=λL n m b=>D1 H.h106 (qe d) d (zX _) J L n m b;have hcx:=ZF hd;rw[<-vd]at hcx;have htk:l.take (i+1)=l.take i++[d]:=by
   rw[List.take_add_one,<-List.head?_drop,hd];rfl
  have hRf:(uq d&&plD d)=false->R=false:=λh=>by
   rw[<-hR];exact List.all_eq_false.2 ⟨d,hdm,by rw[h];simp⟩
  clear hd hR;cases hmd:uq d with
  |false=>
   rw[hmd]at hma hRf;have:=hRf rfl;subst this;obtain⟨dk,dn,dt,ds,dp⟩:=d;simp only[wT]at hma hcx;clear hRf htk hmd hpc;refine ev_zc ?_;exact⟨.nilp,L,n,_,rfl,.inl rfl,rfl,zX _,λ_ _=>rfl⟩
  | true=>
   rw[hmd]at hma hRf;cases hpd:plD d with
   |false=>
    rw[hpd]at hpc hRf;have:=hRf rfl;subst this;obtain⟨dk,dn,dt,ds,dp⟩:=d;simp only[wT]at hma hcx hpc;clear hRf htk hmd hpd;refine ev_zc ?_;exact⟨.nilp,L,n,_,rfl,.inl rfl,rfl,zX _,λ_ _=>rfl⟩
   | true=>
    rw[hpd]at hpc;have hal2:(l.take (i+1)).all (λd=>uq d&&plD d)=true:=by
     rw[htk,List.all_append,hal];simp[hmd,hpd]
    obtain⟨dk,dn,dt,ds,dp⟩:=d;simp only[wT]at hma hcx hpc;clear hRf htk hmd hpd hal;refine wu ?_;exact⟨i+1,⟨_,_,rfl,rfl,V,V,V,J,hal2⟩,J⟩
end
section
variable {P:Program}{X:World}(B:Bx P X){O:Orc}{N:Nat}(hO:OrcOk P X O)
include B hO
def DL (H:RNOrc P X N O)(hbl:O 55=some Qe)(hnu:O 56=some oP)(hte:O 57=none)(hfo:O 79=some GX)(c:Cd)(hc:EaPre N c):∃s1,SC P X 39 (vo c) (s00 0 true) (.int .i64 (jz P X c)) s1:=by
 refine bew B hO f39 ?_;have hb:=WA hbl;have hnum:=λ(l:zw) (a:Int) (h:zR l<1000000000) s=>oc hnu WY (l,a) h (eL _) s;have hterms:=λf t hs L n m b=>D6 hte hfo (λg hg=>(hc.sz.f g hg).1) (qb t) (f:=f) t (zX _) hs L n m b;obtain⟨R,hR⟩:∃R,jz P X c=R:=⟨_,rfl⟩;rw[hR];unfold jz at hR;have hcs:=hc.cs;have hN:=hc.sz.n;have hfs:=hc.sz.f;have hcu:=λi f r h=> @X0 c.fs i f r h;have hwh:gQ c=(mG c&&c.fs.all (wFn c)):=rfl;have hwf:∀f,wFn c f=(!(f.rest&&decide (zR f.ps=0))&&((f.ps.all (λx=>wV x c.vars)&&f.fr.all (λx=>wV x c.vars))&&ur c f f.b)):=λf=>by unfold wFn;rw[List.all_append]
 obtain⟨fs,main,vars,globals,consts⟩:=c;simp only at hcs hR hN hfs hcu hwf;have hne:=λ{L n} (hw:WfA L n) m=>zzh H hcs hw m;simp only[vo,v8,qc,lr,vg,gE,qt]at hterms hnum|-;unfold f39 cF;simp only;refine wq ?_;refine wp (qB ?_);refine wO (hne (λj hj=>by rw[gN J];rfl) _) λv t hv=>?_
 obtain⟨x,L2,n2,m2,rfl,hx,rfl,hle,hfr⟩:=hv;have g0:=(hfr 0 J).trans (wC _ _ _);have hxs:vF x=true:=by rcases hx with rfl|⟨p,rfl⟩<;>rfl
 clear hne hx hfr;refine wu ?_;cases c1:ltD globals (.ofNat 0)with
 |true=>
  rw[c1]at hR;simp only[zut,wy]at hR;subst hR;clear hb hnum hterms;refine ev_zc ?_;exact wS _ _ _
 |false=>
 cases c2:ltD (.ofNat 20000) globals with
 |true=>
  rw[c2]at hR;simp only[zut,Bool.or_true,wy]at hR;subst hR;clear hb hnum hterms;refine ev_zc ?_;exact wS _ _ _
 |false=>
 cases c3:ltD vars (.ofNat 0)with
 |true=>
  rw[c3]at hR;simp only[Bool.or_true,wy]at hR;subst hR;clear hb hnum hterms;refine ev_zc ?_;exact wS _ _ _
 |false=>
 rw[c1,c2,c3]at hR;simp only[Bool.or_self,wK]at hR;cases hk:Un P X consts with
 |false=>
  rw[hk]at hR;simp only[wK]at hR|-;subst hR;clear hb hnum hterms;refine ev_zc ?_;exact wS _ _ _
 |true=>
 rw[hk]at hR;simp only[wy]at hR|-;clear hk;refine wq ?_;clear c1 c2 c3 hxs;rw[hwh]at hR;unfold mG at hR;have hbm:=hb main (.ofNat (zR fs));clear hb;simp only at hR;cases b0:wV main (.ofNat (zR fs))with
 |false=>
  rw[b0]at hR hbm;simp only[zvW,wK]at hR;subst hR;clear hterms hnum;refine ev_zc ?_;exact wS _ _ _
 | true =>
  rw[b0]at hR hbm;obtain⟨j,rfl,hj⟩:=gC b0;clear b0;have hdj:fs.drop j=fs[j]::fs.drop (j+1):=zud hj;have hdr:=hcu j _ _ hdj;have hgl:=hfs fs[j] (List.getElem_mem hj);have hg:Xb ⟨fs,.ofNat j,vars,globals,consts⟩ (.ofNat j)=fs[j]:=by
   show fs.getD j fn0=_;rw[xR,xj hj];rfl
  rw[hg]at hR;clear hg hdj;generalize fs[j]=g at hdr hgl hR;obtain⟨gps,grest,gcont,gfr,gb⟩:=g;obtain⟨gk,gv,gop,gn,gf,gas,gks⟩:=gb;simp only[wW,wE,qt]at hdr hgl hR;obtain⟨gl1,gl2,_⟩:=hgl;refine wq ?_;refine wq ?_;by_cases d1:zR gps=0
  .by_cases d2:zR gfr=0
   .cases grest with
    |true=>
     rw[wa,zv8,zv8,zvW,wK]at hR;subst hR;clear hterms hnum;refine ev_zc ?_;exact wS _ _ _
    | false=>
     rw[show decide (zR gps+zR gfr=0)=true from qL J,zv6,xZ,xZ,xC]at hR;generalize hal:wFn ⟨fs,.ofNat j,vars,globals,consts⟩=wf at *;clear hbm;refine wq ?_;refine wp (wp (wu ?_));apply wA;refine wP (λi:Nat=>zR fs-i) (λi f t=>∃T L n m,f=⟨tmL T,[]⟩/\t=KL L n m false/\G T 1 (.ptr 0 0)/\G T 6 i/\i<=zR fs/\1<=n/\wn L 0=some (.row 25 [.lst (zR fs) false (wo wW fs),j,vars,globals,.lst (zR consts) false (wQ consts)])/\(bif (fs.drop i).all wf then (.ofNat 0:Int)else .ofNat 4)=R) (λi f t hI=>?_) 0 ⟨_,_,n2+1,_,rfl,rfl,V,V,yz _,J,by (repeat rw[gN J]);exact g0,hR⟩
     clear hR g0 hdr d1 d2;obtain⟨T,L,n,m,rfl,rfl,t1,t6,hi,hn,g0,hR⟩:=hI;rcases wJ fs i with ⟨hi2,hd⟩|⟨f,hi2,hd⟩
     .have hlt:¬i<zR fs:=J;rw[hd,List.all_nil,wy]at hR;subst hR;clear hd hi2 hterms hnum hwf hcu;refine wu ?_;refine ev_zc ?_;exact wS _ _ _
     .have hcf:=hcu i f _ hd;have hfl:=hfs f (zvY (by rw[hd];exact zvZ))
      have htf:=hterms f f.b hfl.2.2;have hn1:=hnum f.ps vars hfl.1;have hn2:=hnum f.fr vars hfl.2.1;rw[hd,List.all_cons,hwf]at hR;generalize ur _ f f.b=p4 at *;generalize (f.ps.all λx=>wV x vars)=p2 at *;generalize (f.fr.all λx=>wV x vars)=p3 at *;obtain⟨ps,rest,cont,fr,b⟩:=f;obtain⟨bk,bv,bop,bn,bf,bas,bks⟩:=b;simp only[wW,wE,qt]at hcf hfl htf hn1 hn2 hR;obtain⟨hl1,hl2,_⟩:=hfl;clear hterms hnum hwf hcu hd hal hfs;have hbad:(bif false&&(fs.drop (i+1)).all wf then (.ofNat 0:Int)else .ofNat 4)=R->R=.ofNat 4:=λh=>h.symm;cases rest with
      | true=>
       by_cases d1:zR ps=0
       .rw[qL d1]at hR;clear htf hn1 hn2;obtain rfl:=hbad hR;clear hbad hR;refine ev_zc ?_;exact wS _ _ _
       .rw[qy d1,zv8,zv6,xC]at hR;cases p2 with
        |false=>
         clear htf;obtain rfl:=hbad hR;clear hbad hR;refine ev_zc ?_;exact wS _ _ _
        |true=>
        cases p3 with
        |false=>
         clear htf;obtain rfl:=hbad hR;clear hbad hR;refine ev_zc ?_;exact wS _ _ _
        |true=>
        cases p4 with
        |false=>
 obtain rfl:=hbad hR;clear hbad hR;refine ev_zc ?_
 exact wS _ _ _
        |true=>
         clear hbad;refine wu ?_;exact⟨i+1,⟨_,_,n+1,_,rfl,rfl,V,V,J,J,by (repeat rw[gN J]);exact g0,hR⟩,J⟩
      | false=>
       rw[zvW,zv6,xC]at hR;cases p2 with
       |false=>
        clear htf;obtain rfl:=hbad hR;clear hbad hR;refine ev_zc ?_;exact wS _ _ _
       |true=>
       cases p3 with
       |false=>
        clear htf;obtain rfl:=hbad hR;clear hbad hR;refine ev_zc ?_;exact wS _ _ _
       |true=>
       cases p4 with
       |false=>
 obtain rfl:=hbad hR;clear hbad hR;refine ev_zc ?_
 exact wS _ _ _
       |true=>
        clear hbad;refine wu ?_;exact⟨i+1,⟨_,_,n+1,_,rfl,rfl,V,V,J,J,by (repeat rw[gN J]);exact g0,hR⟩,J⟩
   .have h1:decide (zR gps+zR gfr=0)=false:=qy J;rw[h1,zvW,zv8,zvW,wK]at hR;have h2:0<zR gfr:=J;subst hR;clear hterms hnum h1;refine ev_zc ?_;exact wS _ _ _
  .have h1:decide (zR gps+zR gfr=0)=false:=qy J;rw[h1,zvW,zv8,zvW,wK]at hR;have h2:0<zR gps:=J;subst hR;clear hterms hnum h1;refine ev_zc ?_;exact wS _ _ _
end
theorem zyT{S:ze}{j:Nat}(h:j<List.length S):qf 1 (qv j (wo v9 S))=some [.lst (S.getD j []).length false (wo wN (S.getD j []))]:=by
 have hd:S.drop j=S[j]::S.drop (j+1):=zud h;have:=QI YM hd;rw[x8]at this;rw[this,xR,xj h];rfl
section
variable {O:Orc}
attribute [local go_sem] qq in
def N4(h37:O 41=none)(l:zw)(a:Int)(hl:zR l<1000000000){Y:Nat}(hg:GI L n Y l)(m:Nat)(b:Bool):
  cl O 41 [gSl 1 Y (zR l),a] (KL L n m b)=some (.bool (lz l a),KL L n m b):=by
 apply X2;refine vr (F:=f41) h37 rfl rfl (zvT rfl) ?_;obtain⟨R,hR⟩:∃R,lz l a=R:=⟨_,rfl⟩;rw[hR];unfold f41 cF;simp only;refine wq ?_;refine wp (wp (wu ?_));apply wA;refine wP (λi:Nat=>zR l-i) (λi f t=>∃T m2,f=⟨tmL T,[]⟩/\t=KL L n m2 true/\G T 0 (gSl 1 Y (zR l))/\G T 1 (.int .i64 a)/\G T 5 i/\i<=zR l/\m2%2^n=0/\R=lz (l.drop i) a) (λi f t hI=>?_) 0 ⟨_,_,rfl,rfl,sW,sW,sW,yz _,by simp,hR.symm⟩
 clear hR;obtain⟨T,m2,rfl,rfl,t0,t1,t5,hi,hm,hR⟩:=hI;rcases wJ l i with ⟨hlt,hd⟩|⟨y,hlt,hd⟩
 .have hni:¬i<zR l:=J;rw[hd]at hR;simp only[lz,List.any_nil]at hR;subst hR;clear hd;refine wu ?_;refine ev_zc ?_;exact⟨rfl,rfl⟩
 .have hc:=uz hd;have hia:= @lU 1 Y (zR l) i hlt;have hrow:=(hg (λe=>by rw[e]at hlt;simp at hlt)).2
  simp only[x8]at hia;rw[hd]at hR;simp only[lz,List.any_cons]at hR;clear hd;cases e:eqD y a with
  |true=>
   rw[e,zut]at hR;subst hR;refine ev_zc ?_;exact⟨rfl,rfl⟩
  |false=>
   rw[e,x9]at hR;refine wu ?_;exact⟨i+1,⟨_,_,rfl,rfl,V,V,V,J,V,hR⟩,J⟩
end
mutual
theorem A9{m:Nat}:∀t:Trm,VH m t->Qv m t
 |.mk k v op n f az ks,h=>by
  simp only[VH]at h;simp only[Qv];exact⟨h.2.2.1,mn ks h.2.2.2⟩
theorem mn{m:Nat}:∀l:List Trm,KW m l->VC m l
 |[],_=>by simp only[VC]
 |t::r,h=>by
  simp only[KW]at h;simp only[VC];exact⟨A9 t h.1,mn r h.2⟩
end
structure RcPre(N:Nat)(c:Cd):Prop where
 ea:EaPre N c
 nt:∀f∈c.fs,zR f.ps+qb f.b<900000000
 us:∀f∈c.fs,(ui f.b).length+(jh c).length *qb f.b<1000000000
 al:(c.fs.map λf=>zR f.ps+qb f.b).sum<900000000
def NR{P:Program}{X:World}{N:Nat}{c:Cd}(h:RcPre N c)(h2:jz P X c=.ofNat 0):SePre c/\∀f∈c.fs,SzT f.b:=by
 have hw:=(gU h2).1;unfold gQ at hw;rw[zU]at hw;refine⟨⟨h.ea.sz.n,λf hf=>?_⟩,λf hf=>(h.ea.sz.f f hf).2.2⟩;have h1:=List.all_eq_true.1 hw.2 f hf;unfold wFn at h1;rw[zU,zU]at h1;have h3:=h.nt f hf;exact⟨(h.ea.sz.f f hf).2.2,A9 _ (UB f.b h1.2.2 (h.ea.sz.f f hf).2.2).2,J,h.us f hf⟩
def bP(P:Program)(X:World)(N:Nat):zA->U->zc:=v7 vo (RcPre N) (λc=>.int .i64 (kv P X c))
section
variable {P:Program}{X:World}(B:Bx P X){O:Orc}{N:Nat}(hO:OrcOk P X O)
include B hO
attribute [local go_sem] qq in
def DJ(hea:O 39=some (We P X N))(h36:O 40=none)(hbi:O 58=some ZM)(h37:O 41=none)(hse:O 42=some Mc)(c:Cd)(hc:RcPre N c):∃s1,SC P X 23 (vo c) (s00 0 true) (.int .i64 (kv P X c)) s1:=by
 refine bew B hO f23 ?_;have hea:=λs=>oc hea uC c hc.ea (jr c) s;obtain⟨R,hR⟩:∃R,kv P X c=R:=⟨_,rfl⟩;rw[hR];unfold kv at hR;have hw:=λh=>NR (P:=P) (X:=X) hc h;generalize jz P X c=e at *;cases c1:eqD e (.ofNat 0)with
 |false=>
  rw[c1]at hR;simp only[wK]at hR;subst hR;clear hw;obtain⟨fs,main,vars,globals,consts⟩:=c;unfold f23 cF;simp only[vo,v8,qc]at hea|-;refine wq ?_;refine wq ?_;refine ev_zc ?_;exact wS _ _ _
 |true=>
 rw[c1,wy,ip]at hR;have he:e=.ofNat 0:=by simpa [eqD]using c1
 subst he;obtain⟨hsp,hsz⟩:=hw rfl;have hst:=λs=>oc hse uC c hsp (jr c) s;have hfz:=hc.ea.sz.f;have hnf:=hc.ea.sz.n;have hal:=hc.al;have hrl:(j0 c).length=zR c.fs:=ZU c _;have hcap:∀i,UM c i (c.fs.drop i)=match c.fs.drop i with
  |[]=>false
  |f::r=>(decide (0<((j0 c).getD i []).length)&&(eqD (.ofNat i) c.main||decide (0<zR f.fr)))||UM c (i+1) r:=λi=>by
  cases c.fs.drop i with
  |nil=>rfl
  |cons f r=>simp only[UM,rP,Bool.and_comm]
 have hc0:UM c 0 c.fs=UM c 0 (c.fs.drop 0):=rfl;rw[hc0]at hR;clear hw c1 hsp hc hc0;generalize UM c=CI at *;generalize j0 c=SS at *;have hcut:=λi f r h=> @kS c.fs i f r h;have hSc:=λi (h:i<zR SS)=> @zyT SS i h;have hbd:=λt hs l L n m Y a1 a2 a3=>DH h36 hbi (qb t) t (zX _) hs l L n m Y a1 a2 a3;obtain⟨fs,main,vars,globals,consts⟩:=c;simp only[vo,v8,qc,vT]at hea hst hcut hcap hfz hnf hR hal hrl hsz|-;unfold f23 cF;simp only;refine wq ?_;refine wq ?_;refine wq ?_;clear hea;refine wq ?_;have hsum:∀{i:Nat} {f:Fn} {r:List Fn},fs.drop i=f::r->zR f.ps+qb f.b+(r.map λf=>zR f.ps+qb f.b).sum=((fs.drop i).map λf=>zR f.ps+qb f.b).sum:=λh=>by rw[h];simp
 refine qX (λfr t=>∃T L n m Y,fr=⟨tmL T,[]⟩/\t=KL L n m false/\G T 1 (.ptr 0 0)/\G T 4 (gSl 1 Y (kY fs).length)/\G T 5 .nils/\WfA L n/\1<=n/\GI L n Y (kY fs)/\(kY fs≠[]->1<=Y)/\wn L 0=some (.row 25 [.lst (zR fs) false (wo wW fs),main,vars,globals,.lst (zR consts) false (wQ consts)])) ?_ λfr t hI=>?_
 .clear hR hst hcap hSc;refine wp (wu ?_);apply wA;refine wP (λi:Nat=>zR fs-i) (λi f t=>∃T L n m Y l,f=⟨tmL T,[]⟩/\t=KL L n m false/\G T 1 (.ptr 0 0)/\G T 4 (gSl 1 Y (zR l))/\G T 5 .nils/\G T 6 i/\i<=zR fs/\WfA L n/\1<=n/\GI L n Y l/\(l≠[]->1<=Y)/\wn L 0=some (.row 25 [.lst (zR fs) false (wo wW fs),main,vars,globals,.lst (zR consts) false (wQ consts)])/\zR l+((fs.drop i).map λf=>zR f.ps+qb f.b).sum<900000000/\l++kY (fs.drop i)=kY fs) (λi f t hI=>?_) 0 ⟨_,_,_,_,0,[],rfl,rfl,sW,by simp (disch:=first|exact dis|fail)only[go_sem,seval,-rO,-rN,gSl],sW,sW,yz _,(λj hj=>by rw[gN J];rfl),zX _,λh=>absurd rfl h,λh=>absurd rfl h,sW,by simpa using hal,rfl⟩
  obtain⟨T,L,n,m,Y,l,rfl,rfl,t1,t4,t5,t6,hi,hw,hn,hg,hid,g0,hll,hR⟩:=hI;rcases wJ fs i with ⟨hi2,hd⟩|⟨f,hi2,hd⟩
  .have hlt:¬i<zR fs:=J;rw[hd]at hR;simp only[kY,zvV]at hR;subst hR;clear hd hi2 hbd hcut hsum hfz hsz;refine wu ?_;exact⟨_,L,n,_,Y,rfl,rfl,V,V,V,hw,hn,hg,hid,g0⟩
  .have hcf:=hcut i f _ hd;have hfl:=hfz f (zvY (by rw[hd];exact zvZ))
   have hsf:=hsz f (zvY (by rw[hd];exact zvZ))
   have hs2:=hsum hd;have hbb:=hbd f.b hsf;have hbl:=VN f.b;rw[hd]at hR;simp only[kY]at hR;rw[<-hs2]at hll;obtain⟨ps,rest,cont,fr,b⟩:=f;have hl7:=qi b;simp only at hbb hbl hR hfl hll;obtain⟨bk,bv,bop,bn,bf,bas,bks⟩:=b;simp only[wW,wE,qt,List.cons_append,zv1]at hcf;simp only[vg,wE]at hbb;generalize Trm.mk bk bv bop bn bf bas bks=bb at *;clear hbd hcut hsum hd hs2 hsz hfz;refine wq ?_;refine wp (wA ?_);refine wp (qB ?_);refine wO (zww (f:=wN) (Y:=Y) (vs:=l) (ws:=ps) (lo:=1) vA uW J (λh=>⟨hid h,hg h⟩) hw hn rfl (λh=>by
    simp only[qQ];rw[show Nat.mul (zR ps) 1=(wo wN ps).length from (vI vA ps).symm];exact qz rfl) J J) λv t hv=>?_
   obtain⟨id1,L1,n1,m1,rfl,rfl,hG1,hw1,hn1,hf1,_⟩:=hv;have g01:=(hf1 0 J).trans g0;have hg1:GI L1 n1 id1 (l++ps):=λh=>(hG1 h).2;have hid1:l++ps≠[]->1<=id1:=λh=>(hG1 h).1;have hb1:=λm=>hbb (l++ps) L1 n1 m id1 hw1 hg1 (by simp only[y8];omega)
   clear hbb g0 hf1 hG1 hg hid hw;have hlp:(l++ps).length<=zR l+zR ps:=Nat.le_of_eq y8;generalize hl1e:l++ps=l1 at *;refine wu ?_;refine qB ?_;refine wO (hb1 _) λv t hv=>?_;obtain⟨id2,L2,n2,m2,rfl,rfl,hw2,hn2,hg2,hid2,hf2⟩:=hv;have g02:=(hf2 0 J λh=>by have:=hid1 h;omega).trans g01
   have hid3:l1++Yh bb≠[]->1<=id2:=λh=>by
    rcases hid2 h with ⟨h1,h2⟩|h2
    .rw[h2];exact hid1 h1
    .omega
   have hlb:(l1++Yh bb).length<=zR l1+(Yh bb).length:=Nat.le_of_eq y8;rw[<-zum,<-zum,hl1e]at hR;clear hb1 hid2 hf2 g01 hg1 hid1;generalize l1++Yh bb=l2 at *;refine wu ?_;refine wu ?_;exact⟨i+1,⟨_,L2,n2,_,id2,l2,rfl,rfl,V,V,V,V,J,hw2,J,hg2,hid3,g02,J,hR⟩,J⟩
 .clear hbd hsum hsz;obtain⟨T,L,n,m,Y,rfl,rfl,t1,t4,t5,hw,hn,hg,hid,g0⟩:=hI;have hAl:(kY fs).length<1000000000:=by
   have:=LA fs;omega
  clear hal;generalize kY fs=A9 at *;have hhas:=λ(l:zw) (a:Int) (hl:zR l<1000000000) (L:zb) (n Y:Nat) (hg:GI L n Y l) m b=>N4 h37 l a hl hg m b;refine qX (λfr t=>∃T L n m,fr=⟨tmL T,[]⟩/\t=KL L n m false/\G T 1 (.ptr 0 0)/\1<=n/\wn L 0=some (.row 25 [.lst (zR fs) false (wo wW fs),main,vars,globals,.lst (zR consts) false (wQ consts)])/\(bif CI 0 (fs.drop 0)then (.ofNat 6:Int)else .ofNat 0)=R) ?_ λfr t hI=>?_
  .clear hst hcap hSc hcut hfz;generalize (bif CI 0 (fs.drop 0)then (.ofNat 6:Int)else .ofNat 0)=X9 at *;refine wp (wu ?_);apply wA;refine wP (λj:Nat=>zR A9-j) (λj f t=>∃T L n m idm mt,f=⟨tmL T,[]⟩/\t=KL L n m false/\G T 1 (.ptr 0 0)/\G T 4 (gSl 1 Y (zR A9))/\G T 5 (gSl 1 idm (zR mt))/\G T 7 j/\j<=zR A9/\zR mt=j/\WfA L n/\1<=n/\GI L n Y A9/\GI L n idm mt/\(mt≠[]->1<=idm/\(A9≠[]->idm≠Y))/\wn L 0=some (.row 25 [.lst (zR fs) false (wo wW fs),main,vars,globals,.lst (zR consts) false (wQ consts)])/\(bif !Le mt (A9.drop j)then X9 else .ofNat 14)=R) (λj f t hI=>?_) 0 ⟨_,L,n,_,0,[],rfl,rfl,V,V,by simp (disch:=first|exact dis|fail)only[go_sem,seval,-rO,-rN, *,gSl],V,yz _,rfl,hw,hn,hg,λh=>absurd rfl h,λh=>absurd rfl h,g0,hR⟩
   clear hR t1 t4 t5 hw hn hg g0;obtain⟨T,L,n,m,idm,mt,rfl,rfl,t1,t4,t5,t7,hj,rfl,hw,hn,hg,hgm,him,g0,hR⟩:=hI;rcases wJ A9 (zR mt)with ⟨hlt,hd⟩|⟨x,hlt,hd⟩
   .have hni:¬zR mt<zR A9:=J;rw[hd]at hR;simp only[Le,zv6,wy]at hR;clear hd hhas;refine wu ?_;exact⟨_,L,n,_,rfl,rfl,V,hn,g0,hR⟩
   .have hc:=uz hd;have hia:= @lU 1 Y (zR A9) (zR mt) hlt;have hAn:A9≠[]:=λe=>by rw[e]at hlt;simp at hlt
    have hrow:=(hg hAn).2;have hin:=(hg hAn).1;have hh:=λm b=>hhas mt x J L n idm hgm m b;simp only[x8]at hia;rw[hd]at hR;simp only[Le]at hR;generalize lz mt x=hb at *;clear hd hhas;cases hb with
    |true=>
     rw[zut,wa,wK]at hR;subst hR;refine ev_zc ?_;exact wS _ _ _
    |false=>
     rw[x9]at hR;refine wq ?_;refine wp (wA ?_);refine wq ?_;have hw1:∀o:zm,WfA ((n,o)::L) (n+1):=λo=>hw.cons (yK _) (zur _);have hsrc:∀(m:Nat) (o:Bool),qQ (KL ((n,some (AObj.row 3 [x] o false))::L) (n+1) m false) 1 1 (.sl n 0 1 (.fix 1))=some (wN x):=λm o=>(lE (j:=0) (cs:=wN x) (x:=o) (f:=false) (e:=3) (by rw[qk,wC];rfl) rfl).2
     refine qB ?_;refine wO (QX (f:=wN) (Y:=idm) (vs:=mt) (w:=x) vA uW J (λh=>⟨by have:=(hgm h).1;omega,by have:=hgm h;rw[gN J];exact this.2⟩) (hw1 _) rfl (hsrc _ _) J J) λv t hv=>?_
     obtain⟨L7,m7,rfl,rfl,g7,hw7,hf7⟩:=hv;have g07:=(hf7 0 J λh=>by have:=(him h).1;omega).trans ((Zn J).trans g0)
     have hg7:GI L7 (n+1+1) Y A9:=λh=>⟨J,(hf7 Y J λh2=>((him h2).2 h).symm).trans ((Zn J).trans hrow)⟩;have hcat:=vG mt x;clear hf7 hsrc hw1 hh him hgm hg hw hrow hia;refine wu ?_;refine wu ?_;exact⟨zR mt+1,⟨_,L7,n+1+1,_,n+1,mt++[x],rfl,rfl,V,V,V,V,J,hcat,hw7,J,hg7,λ_=>⟨J,g7⟩,λ_=>⟨J,λ_=>J⟩,g07,hR⟩,J⟩
  .clear hR hhas hg hid hw t1 t4 t5 hn g0;obtain⟨T,L,n,m,rfl,rfl,t1,hn,g0,hR⟩:=hI;refine wq ?_;clear hst;refine wp (wp (wu ?_));apply wA;refine wP (λi:Nat=>zR fs-i) (λi f t=>∃T m,f=⟨tmL T,[]⟩/\t=KL L n m false/\G T 1 (.ptr 0 0)/\G T 8 (.lst (zR SS) false (wo v9 SS))/\G T 9 i/\i<=zR fs/\(bif CI i (fs.drop i)then (.ofNat 6:Int)else .ofNat 0)=R) (λi f t hI=>?_) 0 ⟨_,_,rfl,rfl,V,V,V,yz _,hR⟩;clear hR t1;obtain⟨T,m,rfl,rfl,t1,t8,t9,hi,hR⟩:=hI;rcases wJ fs i with ⟨hlt,hd⟩|⟨g,hlt,hd⟩
   .rw[hcap i,hd]at hR;simp only[wK]at hR;subst hR;have:¬i<zR fs:=J;clear hcap hcut hfz hd hSc;refine wu ?_;refine ev_zc ?_;exact wS _ _ _
   .rw[hcap i,hd]at hR;simp only at hR;have hcg:=hcut i g _ hd;have hsl:=hSc i J;have hil:i<zR SS:=J;obtain⟨gps,grest,gcont,gfr,gb⟩:=g;obtain⟨gk,gv,gop,gn,gf,gas,gks⟩:=gb;simp only[wW,wE,qt,List.cons_append,zv1]at hcg hR;generalize SS.getD i []=sl at *;clear hcap hcut hfz hd hSc hrl;by_cases hs:0<zR sl
    .rw[qL hs,xC]at hR;cases c1:eqD (.ofNat i) main with
     |true=>
      rw[c1,zut,zut,wy]at hR;subst hR;refine ev_zc ?_;exact wS _ _ _
     |false=>
      rw[c1,x9]at hR;by_cases hg:0<zR gfr
      .rw[qL hg,zut,wy]at hR;subst hR;refine ev_zc ?_;exact wS _ _ _
      .rw[qy hg,x9]at hR;refine wu ?_;exact⟨i+1,⟨_,_,rfl,rfl,V,V,V,J,hR⟩,J⟩
    .rw[qy hs,zvW,x9]at hR;refine wu ?_;exact⟨i+1,⟨_,_,rfl,rfl,V,V,V,J,hR⟩,J⟩
end
def cL(P:Program)(X:World)(c:Cd):ze:=bif eqD (jz P X c) (.ofNat 0)then j0 c else []
def I9(P:Program)(X:World)(N:Nat):zA->U->zc:=v7 vo (RcPre N) (λc=>vT (cL P X c))
section
variable {P:Program}{X:World}(B:Bx P X){O:Orc}{N:Nat}(hO:OrcOk P X O)
include B hO
def N3(hea:O 39=some (We P X N))(hse:O 42=some Mc)(c:Cd)(hc:RcPre N c):∃s1,SC P X 24 (vo c) (s00 0 true) (vT (cL P X c)) s1:=by
 refine be B hO f24 ?_;have hea:=λs=>oc hea uC c hc.ea (jr c) s;unfold cL;have hw:=λh=>(NR (P:=P) (X:=X) hc h).1;generalize jz P X c=e at *;cases c1:eqD e (.ofNat 0)with
 |false=>
  clear hw;obtain⟨fs,main,vars,globals,consts⟩:=c;unfold f24 cF;simp only[vo,v8,qc]at hea|-;refine wq ?_;refine ev_zc ?_;exact uc
 |true=>
  have he:e=.ofNat 0:=by simpa [eqD]using c1
  subst he;have hst:=λs=>oc hse uC c (hw rfl) (jr c) s;clear hw;generalize j0 c=SS at *;have hfp:=wX XX SS;have hfw:=ua BF SS;obtain⟨fs,main,vars,globals,consts⟩:=c;unfold f24 cF;simp only[vo,v8,qc,wy,vT]at hea hst|-;generalize wo v9 SS=cs at *;refine wq ?_;refine wq ?_;refine ev_zc ?_;exact uo hfp hfw
end
end Go.Proofs.YtbddpjboppmnfaaGreatDoor.Ev

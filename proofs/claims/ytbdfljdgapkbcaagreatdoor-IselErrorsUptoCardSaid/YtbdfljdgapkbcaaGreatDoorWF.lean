/- Contracts of functions that IselErrors calls: what a call answers. No conditions. -/
import Derived.Test.YtbdfljdgapkbcaaGreatDoorWB
import Derived.Test.YtbdfljdgapkbcaaGreatDoorWD
import Derived.Test.YtbdfljdgapkbcaaGreatDoorWC
set_option linter.unusedSimpArgs false
set_option linter.unusedVariables false
set_option linter.defProp false
set_option maxHeartbeats 4000000
set_option linter.unusedSectionVars false
noncomputable section
open List renaming length → zM, length_cons → yw, length_nil → xN, getD_eq_getElem?_getD → xD, length_append → yO, drop_eq_getElem_cons → zuo, mem_cons_self → zua, nil_append → zuc, cons_append → yd, append_nil → zv6, mem_of_mem_drop → zv9, getElem?_eq_getElem → yU, append_assoc → zux, mem_cons → zul, pairwise_cons → zuW, take_of_length_le → yb, length_pos_iff_exists_mem → zuX, mem_append → zuB, mem_append_left → zuR, replicate → zuY, getElem?_append_right → yZ, length_drop → zv5, length_take → zue, head?_drop → zu0, mem_cons_of_mem → xA, map_cons → zY
open Bool renaming cond_self → zui, and_self → xO, false_and → zv7, not_false → zuh, not_true → xS, and_false → zuj, true_and → y9, or_self → zuv, and_true → zut, false_or → xR, or_true → zuw
open Nat renaming le_refl → zS, zero_mod → zuk, or_zero → zum, zero_or → zun, zero_le → yh, le_of_ble_eq_true → zv4, lt_succ_self → yx, mul_one → xQ, le_succ → zuC, le_trans → zV, zero_add → y8
open List.Pairwise renaming nil → zuZ
namespace Go.Proofs.YtbdfljdgapkbcaaGreatDoor.Ev
variable {l:zq}{L L2:za}{n sp i k id2 m n2 t:Nat}{S:zc}{s:U}{v:Z}{c:Cd}{cs:zt}{O:Orc}{T:List (Nat×Z)}{P:Program}{X:World}{b:Bool}{y:Int}
open T
set_option maxRecDepth 100000
attribute [local go_sem] we x9 wx Nat.or_zero Nat.zero_or Nat.zero_mod Bool.cond_self ltF gtF
def WC:zt->U->zb:=vw ZM (λ_=>True) (λx=>.bool (wu x.1 x.2))
attribute [local go_sem] ZM in
def Dh(B:Bx P X)(hO:OrcOk P X O)(x:Int×Int):∃s1,SC P X 66 (ZM x) (s00 0 true) (.bool (wu x.1 x.2)) s1:=by
 refine be B hO f66 ?_;obtain⟨n,m⟩:=x;unfold f66 cF;simp only[wu];refine xY ?_;cases h1:ltD n (.ofNat 0)with
 |true=>refine xX ?_;refine qz ?_;exact qj _ _
 |false=>refine xX ?_;refine qz ?_;exact qj _ _
def X9(h:O 66=some WC)(a b:Int)(s:U):cl O 66 [a,b] s=some (.bool (wu a b),s):=oc h LG (a,b) trivial (dP (a,b)) s
def Zi:zt->U->zb:=vw jI (λ_=>True) (λt=>.bool (vG t.kind))
attribute [local go_sem] jI q8 wl in
def PK(B:Bx P X)(hO:OrcOk P X O)(t:Trm):∃s1,SC P X 69 (jI t) (s00 0 true) (.bool (vG t.kind)) s1:=by
 refine be B hO f69 ?_;obtain⟨k,v,op,n,f,az,ks⟩:=t;unfold f69 cF;simp only[vG,Trm.kind];refine xY ?_;cases h1:eqD k (.ofNat 1)with
 |true=>refine xX ?_;refine qz ?_;exact qj _ _
 |false=>refine xX ?_;refine qz ?_;exact qj _ _
def aT:zt->U->zb:=vw kQ (λ_=>True) (λx=>.int .i64 (jL x))
def O5{n:Int}(h:wu n (.ofNat 42)=true):jL n=jO n:=by
 obtain⟨j,rfl,hj⟩:=jR h;have e:∀k,42<=k->eqD (.ofNat j) (.ofNat k)=false:=λk hk=>qb λe=>by have:=Int.ofNat.inj e;omega
 simp only[jL,e 103 J,e 105 J,e 106 J,e 100 J,e 101 J,e 104 J,e 102 J,zuv,wh]
attribute [local go_sem] kQ in
theorem DH(B:Bx P X)(hO:OrcOk P X O)(hp:O 11=some Pb)(n:Int):∃s1,SC P X 141 (kQ n) (s00 0 true) (.int .i64 (jL n)) s1:=by
 refine be B hO f141 ?_;have hp:=λs=>oc hp Ww n trivial (Vr n) s;have hl:= @O5 n;have hm:wu n (.ofNat 42)=false->jO n=.negSucc 0:=λh=>by simp only[jO,h,wh]
 obtain⟨R,hR⟩:∃R,jL n=R:=⟨_,rfl⟩;rw[hR]at hl|-;simp only[jL]at hR;unfold f141 cF;simp only[kQ,wu]at hp hl hm|-;generalize jO n=pa at *;have go:∀{s:U} {z:Int},z=R->Fz s (.int .i64 z) (.int .i64 R):=λh=>h▸wT _ _ _;refine xY ?_;cases b1:ltD n (.ofNat 0)with
 | false=>
  cases b2:ltD n (.ofNat 42)with
  |true=>
   rw[b1,b2]at hl;refine xX ?_;refine qz ?_;exact go (hl rfl).symm
  |false=>
   rw[b1,b2]at hm;obtain rfl:=hm rfl;clear hl hm hp;cases a1:eqD n (.ofNat 103)with
   |true=>refine xX ?_;refine qz ?_;exact go (by rw[<-hR,a1];rfl)
   |false=>
   cases a2:eqD n (.ofNat 105)with
   |true=>refine xX ?_;refine qz ?_;exact go (by rw[<-hR,a1,a2];rfl)
   |false=>
   cases a3:eqD n (.ofNat 106)with
   |true=>refine xX ?_;refine qz ?_;exact go (by rw[<-hR,a1,a2,a3];rfl)
   |false=>
   cases a4:eqD n (.ofNat 100)with
   |true=>refine xX ?_;refine qz ?_;exact go (by rw[<-hR,a1,a2,a3,a4];rfl)
   |false=>
   cases a5:eqD n (.ofNat 101)with
   |true=>refine xX ?_;refine qz ?_;exact go (by rw[<-hR,a1,a2,a3,a4,a5];rfl)
   |false=>
   cases a6:eqD n (.ofNat 104)with
   |true=>refine xX ?_;refine qz ?_;exact go (by rw[<-hR,a1,a2,a3,a4,a5,a6];rfl)
   |false=>
   cases a7:eqD n (.ofNat 102)with
   |true=>refine xX ?_;refine qz ?_;exact go (by rw[<-hR,a1,a2,a3,a4,a5,a6,a7];rfl)
   |false=>refine xX ?_;refine qz ?_;exact go (by rw[<-hR,a1,a2,a3,a4,a5,a6,a7];rfl)
 | true=>
   have e:∀k,eqD n (.ofNat k)=false:=λk=>qb λe=>by rw[e]at b1;simp[ltD]at b1;omega
   rw[b1]at hm;obtain rfl:=hm rfl;clear hl hm hp;simp only[e,zuv,wh]at hR;have e1:=e 103;have e2:=e 105;have e3:=e 106;have e4:=e 100;have e5:=e 101;have e6:=e 104;have e7:=e 102
   clear e;refine xX ?_;refine qz ?_;exact go rfl
open Nat (reduceEqDiff reduceLeDiff reduceLT reduceAdd reduceMul reduceSub reduceMod reducePow reduceDiv reduceOr reduceShiftLeft reduceGT reduceSucc)
open List (length_cons length_nil length_take length_drop)
open Int (reduceOfNat reduceNegSucc)
def GG:zt->U->zb:=vw u0 rX (λx=>.bool (vY x.1 x.2.1 x.2.2))
def QC(a b:Nat):eqD (.ofNat a) (.ofNat b)=decide (a=b):=by
 by_cases h:a=b
 .rw[h,qp rfl];exact zyg rfl
 .rw[qb h];exact sx λe=>h (Int.ofNat.inj e)
section
variable {P:Program}{X:World}(B:Bx P X){O:Orc}(hO:OrcOk P X O)
include B hO
attribute [local go_sem] u0 vy jy q8 qi wD wl qd in
def o8(ht:O 141=some aT)(hbl:O 66=some WC)(x:Cd×Fn×Trm)(hx:rX x):∃s1,SC P X 108 (u0 x) (s00 0 true) (.bool (vY x.1 x.2.1 x.2.2)) s1:=by
 refine be B hO f108 ?_;obtain⟨⟨fs,main,vars,globals,consts⟩,⟨ps,rest,cont,fr,b⟩,⟨k,v,op,num,fn,az,ks⟩⟩:=x;have htk:=λs=>oc ht Ww op trivial (Vr op) s;obtain⟨hps,hal⟩:=hx;have hb:=X9 hbl;simp only[Trm.atoms]at hps hal;obtain⟨R,hR⟩:∃R,vY ⟨fs,main,vars,globals,consts⟩ ⟨ps,rest,cont,fr,b⟩ (.mk k v op num fn az ks)=R:=⟨_,rfl⟩;rw[hR];simp only[vY,Qg,G6,Trm.kind,Trm.op,Trm.atoms,Trm.num,Trm.fn,Trm.kids,Trm.var]at hR;obtain⟨bk,bv,bop,bn,bf,bas,bks⟩:=b;unfold f108 cF;simp only[kQ]at htk|-;generalize jL op=tk at *;refine xY ?_;refine xU (xU (xX ?_));apply x4;refine wq (λi:Nat=>zM az-i) (λi f t=>∃T L n m,f=⟨tmL T,[]⟩/\t=KL L n m true/\G T 3 (.ptr 0 0)/\G T 4 (.ptr 1 0)/\G T 5 (.ptr 2 0)/\G T 7 i/\i<=zM az/\3<=n/\x3 L 0=some (.row 25 [.lst (zM fs) false (xW wD fs),main,vars,globals,.lst (zM consts) false (wy consts)])/\x3 L 1=some (.row 42 [.lst (zM ps) false (xW wg ps),.bool rest,.bool cont,.lst (zM fr) false (xW wg fr),bk,bv,bop,bn,bf,.lst (zM bas) false (xW qO bas),.lst (zM bks) false (wS bks)])/\x3 L 2=some (.row 40 [k,v,op,num,fn,.lst (zM az) false (xW qO az),.lst (zM ks) false (wS ks)])/\az.all (Uj vars (.ofNat (zM consts)))=(az.drop i).all (Uj vars (.ofNat (zM consts)))) (λi f t hI=>?_) 0 ⟨_,_,_,_,rfl,rfl,sW,sW,sW,sW,yh _,zS _,sW,sW,sW,rfl⟩;obtain⟨T,L,n,m,rfl,rfl,t3,t4,t5,t7,hi,hn,g0,g1,g2,hal2⟩:=hI;rcases wj az i with ⟨hi2,hd⟩|⟨a,hi2,hd⟩
 .have hlt:¬i<zM az:=J;rw[hd]at hal2;rw[hal2,show ([]:List Atm).all (Uj vars (.ofNat (zM consts)))=true from rfl,y9]at hR;clear hal2 hd hi2 hal;refine xX ?_;refine xY ?_;by_cases k1:k=.ofNat 1
  .subst k1;simp only[QC,decide_true,x6]at hR;cases a1:eqD op (.ofNat 103)with
   |true=>
    have z5:eqD op (.ofNat 105)=false:=sx λe=>by rw[e]at a1;cases a1
    have hb1:=hb num globals;have hb2:=hb v vars
    clear hb hps;rw[a1,Bool.true_or,x6]at hR;generalize wu num globals=c2 at *;generalize wu v vars=c5 at *;cases c2;rotate_left;cases e1:eqD tk (.ofNat (zM az));rotate_left;cases e3:eqD fn (.ofNat 0);rotate_left;by_cases e4:zM ks=1
    all_goals (exact qt hR)
   |false=>
   cases a2:eqD op (.ofNat 104)with
   |true=>
    have z5:eqD op (.ofNat 105)=false:=sx λe=>by rw[e]at a2;cases a2
    have hb1:=hb num globals;have hb2:=hb v vars
    clear hb hps;rw[a1,a2,zuw,x6]at hR;generalize wu num globals=c2 at *;generalize wu v vars=c5 at *;cases c2;rotate_left;cases e1:eqD tk (.ofNat (zM az));rotate_left;cases e3:eqD fn (.ofNat 0);rotate_left;by_cases e4:zM ks=1
    all_goals (exact qt hR)
   |false=>
   have hb2:=hb v vars;rw[a1,a2,zuv,wh]at hR;cases a3:eqD op (.ofNat 105)with
   |true=>
    have hb1:=hb num (.ofNat (zM fr));clear hb hps;rw[a3,x6]at hR;generalize wu num (.ofNat (zM fr))=c2 at *;generalize wu v vars=c5 at *;cases c2;rotate_left;cases e1:eqD tk (.ofNat (zM az));rotate_left;cases e3:eqD fn (.ofNat 0);rotate_left;by_cases e4:zM ks=1
    all_goals (exact qt hR)
   | false=>
    clear hb hps;rw[a3,wh,show wu num (.ofNat 1)=eqD num (.ofNat 0) by
     rw[Bool.eq_iff_iff];simp only[wu,ltD,eqD,Bool.and_eq_true,Bool.not_eq_true',decide_eq_false_iff_not,jm];show ¬num<((0:Nat):Int)/\num<((1:Nat):Int)↔num=((0:Nat):Int);omega]at hR
    generalize wu v vars=c5 at *;cases c2:eqD num (.ofNat 0);rotate_left;cases e1:eqD tk (.ofNat (zM az));rotate_left;cases e3:eqD fn (.ofNat 0);rotate_left;by_cases e4:zM ks=1
    all_goals (exact qt hR)
  rw[w8 k1,wh]at hR;have e1:=w8 k1;clear htk;simp only[Z4]at hR;cases a1:eqD op (.ofNat 0)
  .exact qt hR
  cases a2:eqD num (.ofNat 0)
  .exact qt hR
  by_cases k2:k=.ofNat 2
  .subst k2;simp only[QC,Nat.reduceEqDiff,decide_true,decide_false,x6,wh,a1,a2,xS,zuh,zv7,y9,xR]at hR;have hb1:=hb fn (.ofNat (zM fs));have hb2:=hb v vars
   clear hb;generalize wu v vars=c2 at *;cases c2
   .exact qt hR
   cases c1:wu fn (.ofNat (zM fs))with
   |false=>rw[c1]at hb1 hR;exact qt hR
   |true=>
   rw[c1]at hb1 hR;obtain⟨j,rfl,hj⟩:=jR c1;clear c1;have hdj:fs.drop j=fs[j]::fs.drop (j+1):=zuo hj;have hdr:=lg hdj;have hg:QF ⟨fs,main,vars,globals,consts⟩ (.ofNat j)=fs[j]:=by
    show fs.getD j fn0=_;rw[xD,yU hj];rfl
   have hgl:=hps fs[j] (List.getElem_mem hj);rw[hg]at hR;clear hg hps hdj;generalize fs[j]=g at *;obtain⟨gps,grest,gcont,gfr,gb⟩:=g;obtain⟨gk,gv,gop,gn,gf,gas,gks⟩:=gb;simp only[wD,wl,qd,yd,zuc]at hdr hgl hR;by_cases c3:zM az=zM gfr;by_cases c4:zM ks=1
   all_goals (exact qt hR)
  have e2:=w8 k2;cases a3:eqD v (.ofNat 0)
  .exact qt hR
  by_cases k5:k=.ofNat 5
  .subst k5;simp only[QC,Nat.reduceEqDiff,decide_true,decide_false,x6,wh,a1,a2,a3,xS,zuh,zv7,zuj,y9,xR]at hR;have hb1:=hb fn (.ofNat (zM fs));clear hb;cases c1:wu fn (.ofNat (zM fs))with
   |false=>rw[c1]at hb1 hR;exact qt hR
   |true=>
   rw[c1]at hb1 hR;obtain⟨j,rfl,hj⟩:=jR c1;clear c1;have hdj:fs.drop j=fs[j]::fs.drop (j+1):=zuo hj;have hdr:=lg hdj;have hg:QF ⟨fs,main,vars,globals,consts⟩ (.ofNat j)=fs[j]:=by
    show fs.getD j fn0=_;rw[xD,yU hj];rfl
   have hgl:=hps fs[j] (List.getElem_mem hj);rw[hg]at hR;clear hg hps hdj;generalize fs[j]=g at *;obtain⟨gps,grest,gcont,gfr,gb⟩:=g;obtain⟨gk,gv,gop,gn,gf,gas,gks⟩:=gb;simp only[wD,wl,qd,yd,zuc,Nat.add_comm 1 (zM gps)]at hdr hgl hR;cases grest;by_cases c3:zM az=zM gps+1;by_cases c4:zM ks=0
   all_goals (exact qt hR)
  have e5:=w8 k5;clear hb hps;cases a4:eqD fn (.ofNat 0)
  .exact qt hR
  rw[a1,a2,a3,a4,e2,e5]at hR;simp only[xS,zuh,zuj,y9,zuv,wh]at hR;by_cases k3:k=.ofNat 3
  .subst k3;by_cases c1:zM az=1;by_cases c2:zM ks=2
   all_goals (refine xX ?_;refine qz ?_;exact XP (by rw[<-hR,QC];simp only[*,decide_true,decide_false,zuj,zv7,xO,x6]))
  have e3:=w8 k3;rw[e3,wh]at hR;by_cases c2:zM ks=0
  .by_cases k4:k=.ofNat 4
   .subst k4;by_cases c1:1<=zM az
    all_goals (refine xX ?_;refine qz ?_;exact XP (by rw[<-hR,QC];simp only[*,decide_true,decide_false,zut,xO,x6]))
   have e4:=w8 k4;by_cases k6:k=.ofNat 6
   .subst k6;have e6:eqD (.ofNat 6) (.ofNat 6)=true:=rfl;by_cases c1:2<=zM az
    all_goals (exact qt hR)
   have e6:=w8 k6;cases e7:eqD k (.ofNat 7);rotate_left;by_cases c1:zM az=0
   all_goals (exact qt hR)
  .refine xX ?_;refine qz ?_;exact XP (by rw[<-hR];simp only[c2,decide_false,zuj];cases eqD k (.ofNat 4)<;>cases eqD k (.ofNat 6)<;>rfl)
 .have hc:=aC hd;rw[hd,List.all_cons]at hal2;have hb1:=hb a.n vars;have hb2:=hb a.n (.ofNat (zM consts));obtain⟨ak,an⟩:=a;simp only[Uj]at hal2;simp only at hc hb1 hb2;clear hb htk;generalize wu an vars=b1 at *;generalize wu an (.ofNat (zM consts))=b2 at *;cases e1:eqD ak (.ofNat 1)with
  | false=>
   cases e2:eqD ak (.ofNat 2)with
   |false=>refine xX ?_;refine qz ?_;exact XP (by rw[<-hR,hal2];simp only[*,zv7,xO,Bool.or_false,zuv,xS,zuh])
   | true=>
    cases b2 with
    |false=>refine xX ?_;refine qz ?_;exact XP (by rw[<-hR,hal2];simp only[*,zuj,zv7,xO,zuw,xS,zuh])
    | true=>
     (refine xX ?_
      exact⟨i+1,⟨_,_,n+1,_,rfl,rfl,V,V,V,V,J,J,by (repeat rw[gN J]);exact g0,by (repeat rw[gN J]);exact g1,by (repeat rw[gN J]);exact g2,(by rw[hal2];simp only[*,y9,zuj,zv7,zuv,xS,zuh])⟩,J⟩)
  | true=>
   have e2:eqD ak (.ofNat 2)=false:=sx λe=>by rw[e]at e1;cases e1
   cases b1 with
   |false=>refine xX ?_;refine qz ?_;exact XP (by rw[<-hR,hal2];simp only[*,zut,zv7,xO,zuw,Bool.or_false,xS,zuh])
   | true=>
     (refine xX ?_
      exact⟨i+1,⟨_,_,n+1,_,rfl,rfl,V,V,V,V,J,J,by (repeat rw[gN J]);exact g0,by (repeat rw[gN J]);exact g1,by (repeat rw[gN J]);exact g2,(by rw[hal2];simp only[*,zut,y9,zuj,zv7,zuv,xS,zuh])⟩,J⟩)
end
def kT:∀{l:List Trm} {t:Trm},t∈l->wN t<=qR l
 |x::r,t,h=>by
  simp only[qR];rcases List.mem_cons.1 h with rfl|h
  .omega
  .have:=kT h;omega
def Ya:∀{ks:List Trm} {y:Trm},WR ks->y∈ks->SzT y
 |t::r,y,h,hy=>by
  simp only[WR]at h;rcases List.mem_cons.1 hy with rfl|hy
  .exact h.1
  .exact Ya h.2 hy
def sr{x:zb}(h:Cv x λu t=>u=v/\t=s):x=some (v,s):=by
 obtain⟨_,_,e,rfl,rfl⟩:=h;exact e
section
variable {O:Orc}{c:Cd}{f:Fn}
def DI(h70:O 68=none)(h89:O 108=some GG)(hps:∀g∈c.fs,g.ps.length<1000000000):∀(k:Nat) (t:Trm),wN t<=k->SzT t->∀(L:za) (n m:Nat) (b:Bool),
  cl O 68 [vy c,jy f,q8 t] (KL L n m b)=some (.bool (vD c f t),KL L n m b):=by
 intro k
 induction k with
 |zero=>intro t h;have:=vd t;omega
 | succ k ih=>
  intro t hk hsz L n m b;apply sr;refine vf (F:=f68) h70 rfl rfl (zv4 rfl) ?_;obtain⟨tk,v,op,num,fn,az,ks⟩:=t;simp only[SzT]at hsz;obtain⟨hs1,hs2,hs3⟩:=hsz;have hcall:=λs=>oc h89 Qy (c,f,.mk tk v op num fn az ks) ⟨hps,hs1⟩ (Ux (c,f,.mk tk v op num fn az ks)) s;simp only[wN]at hk;have hih:=λt (ht:t∈ks)=>ih t (by have:=kT ht;omega) (Ya hs3 ht)
  clear ih;obtain⟨R,hR⟩:∃R,vD c f (.mk tk v op num fn az ks)=R:=⟨_,rfl⟩;rw[hR];have hcl:(qi c).length=5:=rfl;have hcs:wO (qi c)=true:=by simp only[qi,jC,gR,lC,Z6,xO]
  have hfl:=pw f;have hfs:=Jm f;have hcp:=p7 c;simp only[u0,vy,jy,q8]at hcall hih|-;simp only[wl]at hcall|-;generalize hcc:qi c=cc at *;generalize hff:wD f=ff at *;have hc5:wE 5 cc=some cc:=qg hcl;have hf11:wE 11 ff=some ff:=qg hfl;unfold f68 cF;simp only;refine xY ?_;simp only[vD]at hR;generalize vY c f (.mk tk v op num fn az ks)=fo at *;refine xY ?_;refine xU (xU (xX ?_));apply x4;refine wq (λi:Nat=>zM ks-i) (λi f' t'=>∃T L2 n2 m2 fi,f'=⟨tmL T,[]⟩/\t'=KL L2 n2 m2 true/\G T 3 (.ptr n 0)/\G T 4 (.ptr (n+1) 0)/\G T 5 (.ptr (n+1+1) 0)/\G T 7 (.bool fi)/\G T 8 i/\i<=zM ks/\n+1+1+1<=n2/\m2%2^n=0/\x3 L2 n=some (.row 25 cc)/\x3 L2 (n+1)=some (.row 42 ff)/\x3 L2 (n+1+1)=some (.row 40 [tk,v,op,num,fn,.lst (zM az) false (xW qO az),.lst (zM ks) false (wS ks)])/\R=(fi&&uY c f (ks.drop i))) (λi f' t' hI=>?_) 0 ⟨_,_,_,_,fo,rfl,rfl,sW,sW,sW,sW,sW,yh _,zS _,by simp,sW,sW,sW,hR.symm⟩
  clear hR hcall;obtain⟨T,L2,n2,m2,fi,rfl,rfl,t3,t4,t5,t7,t8,hi,hn2,hm2,g0,g1,g2,hR⟩:=hI;rcases wj ks i with ⟨hlt,hd⟩|⟨x,hlt,hd⟩
  .have hni:¬i<zM ks:=J;rw[hd]at hR;simp only[uY,zut]at hR;clear hd hlt hih;refine xX ?_;refine ev_zc ?_;exact⟨by rw[hR],rfl⟩
  .cases fi with
   |false=>
    rw[zv7]at hR;clear hd hih;refine xX ?_;refine ev_zc ?_;exact⟨by rw[hR],rfl⟩
   |true=>
    have hcut:=Uu hd;have hx:=hih x (zv9 (by rw[hd];exact zua))
    rw[hd]at hR;simp only[uY,y9]at hR;generalize vD c f x=bx at *;clear hih hd;refine xX ?_;exact⟨i+1,⟨_,_,n2,_,bx,rfl,rfl,V,V,V,V,V,J,hn2,V,g0,g1,g2,hR⟩,J⟩
end
def kC(x:zq×Int):zt:=[qd x.1,.int .i64 x.2]
def Wx:∀x y,kC x=kC y->x=y:=λ⟨a,b⟩ ⟨c,d⟩ h=>by
 simp only[kC,qJ,Z.int.injEq,true_and,and_true]at h;rw[lz h.1,h.2]
def dQ(x:zq×Int):wkL (kC x)=kC x:=by simp only[kC,wkL,Zl,wkV]
def Qz(x:zq×Int):wo (kC x)=true:=by simp only[kC,ww,jE,qL,wA,xO]
def gB(l:zq)(n:Int):Bool:=l.any λx=>eqD x n
def WW(n:Int):zq->zq
 |[]=>[n]
 |x::r=>bif ltD x n then x::WW n r else n::x::r
def YH(l:zq)(n:Int):zq:=bif gB l n then l else WW n l
def Q6(x:zq×Int):Prop:=zM x.1<1000000000
def eD:zt->U->zb:=vw kC Q6 (λx=>.bool (gB x.1 x.2))
def sN:zt->U->zb:=vw kC Q6 (λx=>qd (YH x.1 x.2))
def nQ:zt->U->zb:=vw kC Q6 (λx=>.bool (x.1.all λn=>wu n x.2))
section
variable {P:Program}{X:World}(B:Bx P X){O:Orc}(hO:OrcOk P X O)
include B hO
section
attribute [local go_sem] kC qd
def zzj(x:zq×Int)(hx:Q6 x):∃s1,SC P X 37 (kC x) (s00 0 true) (.bool (gB x.1 x.2)) s1:=by
 refine be B hO f37 ?_;obtain⟨l,a⟩:=x;simp only[Q6]at hx;obtain⟨R,hR⟩:∃R,gB l a=R:=⟨_,rfl⟩;rw[hR];unfold f37 cF;simp only;refine xY ?_;refine xU (xU (xX ?_));apply x4;refine wq (λi:Nat=>zM l-i) (λi f t=>∃T L n m,f=⟨tmL T,[]⟩/\t=KL L n m true/\G T 0 (.lst (zM l) false (xW wg l))/\G T 1 (.int .i64 a)/\G T 5 i/\i<=zM l/\R=gB (l.drop i) a) (λi f t hI=>?_) 0 ⟨_,_,_,_,rfl,rfl,sW,sW,sW,yh _,hR.symm⟩;clear hR;obtain⟨T,L,n,m,rfl,rfl,t0,t1,t5,hi,hR⟩:=hI;rcases wj l i with ⟨hlt,hd⟩|⟨y,hlt,hd⟩
 .have hni:¬i<zM l:=J;rw[hd]at hR;clear hd;refine xX ?_;refine ev_zc ?_;exact XP hR
 .have hc:=uz hd;rw[hd]at hR;simp only[gB,List.any_cons]at hR;clear hd;cases e:eqD y a with
  |true=>
   rw[e,Bool.true_or]at hR;refine ev_zc ?_;exact XP hR
  |false=>
   rw[e,xR]at hR;refine xX ?_;exact⟨i+1,⟨_,_,n,_,rfl,rfl,V,V,V,J,hR⟩,J⟩
def On(hbl:O 66=some WC)(x:zq×Int)(hx:Q6 x):∃s1,SC P X 67 (kC x) (s00 0 true) (.bool (x.1.all λn=>wu n x.2)) s1:=by
 refine be B hO f67 ?_;have hb:=X9 hbl;obtain⟨l,a⟩:=x;simp only[Q6]at hx;obtain⟨R,hR⟩:∃R,(l.all λn=>wu n a)=R:=⟨_,rfl⟩;simp only;rw[hR];unfold f67 cF;simp only;refine xY ?_;refine xU (xU (xX ?_));apply x4;refine wq (λi:Nat=>zM l-i) (λi f t=>∃T L n m,f=⟨tmL T,[]⟩/\t=KL L n m true/\G T 0 (.lst (zM l) false (xW wg l))/\G T 1 (.int .i64 a)/\G T 5 i/\i<=zM l/\R=(l.drop i).all λn=>wu n a) (λi f t hI=>?_) 0 ⟨_,_,_,_,rfl,rfl,sW,sW,sW,yh _,hR.symm⟩;clear hR;obtain⟨T,L,n,m,rfl,rfl,t0,t1,t5,hi,hR⟩:=hI;rcases wj l i with ⟨hlt,hd⟩|⟨y,hlt,hd⟩
 .have hni:¬i<zM l:=J;rw[hd]at hR;clear hd;refine xX ?_;refine ev_zc ?_;exact XP hR
 .have hc:=uz hd;rw[hd,List.all_cons]at hR;have hy:=hb y a;clear hd hb;generalize wu y a=r at *;cases r with
  |false=>
   rw[zv7]at hR;refine ev_zc ?_;exact XP hR
  |true=>
   rw[y9]at hR;refine xX ?_;exact⟨i+1,⟨_,_,n,_,rfl,rfl,V,V,V,J,hR⟩,J⟩
end
end
theorem zzG{α:Type}{l:List α}{x:α}{r:List α}(hd:l.drop i=x::r):l.take (i+1)=l.take i++[x]:=by
 rw[List.take_add_one,show l[i]? =some x by rw[<-zu0,hd];rfl];rfl
def s5{n:Int}:∀{l:zq} {i:Nat},(∀x∈l.take i,ltD x n=true)->WW n l=l.take i++WW n (l.drop i)
 |_,0,_=>by simp
 |[],_+1,_=>by simp
 |x::r,i+1,h=>by
  rw[List.take_succ_cons,List.drop_succ_cons,yd,<-s5 λy hy=>h y (by simp[hy])]
  simp only[WW,h x (by simp),x6]
def Tw{n:Int}{r:zq}(h:ltD y n=false):WW n (y::r)=n::y::r:=by simp only[WW,h,wh]
theorem eN(n:Int):∀l:zq,(WW n l).length=zM l+1
 |[]=>rfl
 |x::r=>by
  simp only[WW];cases ltD x n with
  |true=>simp only[x6,yw,eN n r]
  |false=>rfl
def V5(l:zq)(n:Int):(YH l n).length<=zM l+1:=by
 unfold YH;cases gB l n with
 |true=>exact zuC _
 |false=>exact Nat.le_of_eq (eN n l)
def OW(l:zq)(h:k<=List.length l):gG 1 (.lst (List.length l) false (xW wg l)) none (some (.int .i64 (.ofNat k))) none=some (.lst (l.take k).length false (xW wg (l.take k))):=by
 have e:xW wg (l.take k)=(xW wg l).take k:=by
  have:=Gx qm k l;rw[xQ,gE]at this;exact this.symm
 simp only[gG,HJ,bnd,show Nat.ble k (zM l)=true from wB.2 h,x6,zv7];show some (Z.lst (k-0) false (tkN ((k-0)*1) (wX (0*1) (xW wg l))))=_;rw[Nat.sub_zero,xQ,Nat.zero_mul,e,zue,Nat.min_eq_left h,gE,qe,List.drop_zero]
def zwi(l:zq)(h:k<=List.length l):gG 1 (.lst (List.length l) false (xW wg l)) (some (.int .i64 (.ofNat k))) none none=some (.lst (l.drop k).length false (xW wg (l.drop k))):=by
 have e:xW wg (l.drop k)=(xW wg l).drop k:=by
  have:=uo qm k l;rw[xQ,qe]at this;exact this.symm
 simp only[gG,HJ,bnd,show Nat.ble k (zM l)=true from wB.2 h,x6,zv7];show some (Z.lst (zM l-k) false (tkN ((zM l-k)*1) (wX (k*1) (xW wg l))))=_;rw[xQ,xQ,e,zv5,gE,qe,yb (by rw[zv5,qK qm,xQ];exact zS _)]
def NV:ICode:=match f109.body with
 |.seq _ (.seq _ (.seq _ (.seq _ b)))=>b
 |_=>.skip
def Tl{α:Type}{f:α->zt}{esz Y:Nat}(hp:∀x,wo (f x)=true)(hw:∀x,wkL (f x)=f x)(vs ws:List α)(h:vs=ws):∃v0,XG 0 (kA f esz Y vs)=some v0/\Fz s v0 (.lst (zM ws) false (xW f ws)):=h▸VH hp hw vs
def PE{R:zq}{a:Int}(hx:zM l<1000000000)(hi:i<=zM l)(t0:G T 0 (.lst (zM l) false (xW wg l)))(t1:G T 1 (.int .i64 a))(t5:G T 5 i)(st:R=l.take i++[a]++l.drop i):
  Ev (evC env (evW env O) none NV ⟨tmL T,[]⟩ (KL L n m true)) λr fr t=>Cv (Xd (KL [] 0 0 true) (qv env.globs [RV.t 4] (some (r,fr,t)))) λv0 s1=>Fz s1 v0 (.lst (zM R) false (xW wg R)):=by
 have s1:=OW l hi;have s2:=zwi l hi;have l1:(l.take i).length<=zM l:=by rw[zue];omega
 have l2:(l.drop i).length<=zM l:=by rw[zv5];omega
 generalize l.take i=u at *;generalize l.drop i=w at *;unfold NV f109 cF;simp only;refine xY ?_;refine xU (wi ?_);refine xZ (hZ (Y:=0) (vs:=[]) (e:=false) qm qF vq J (λh=>absurd rfl h) (by simp only[xN];omega) (by simp only[xN];omega)) λv t hv=>?_
 obtain⟨id1,L1,n1,m1,rfl,rfl,ok1,_⟩:=hv;rw[zuc]at ok1;refine xX ?_;refine xU (wi ?_);refine xZ (hZ (ws:=[a]) (e:=false) qm qF vq J ok1 (by simp only[yw,xN];omega) (by simp only[yw,xN];omega)) λv t hv=>?_
 obtain⟨id2,L2,n2,m2,rfl,rfl,ok2,_⟩:=hv;refine xX ?_;refine xU (wi ?_);refine xZ (hZ (e:=false) qm qF vq J ok2 (by simp only[yO,yw,xN];omega) (by simp only[yO,yw,xN];omega)) λv t hv=>?_
 obtain⟨id3,L3,n3,m3,rfl,rfl,ok3,_⟩:=hv;obtain⟨v0,f1,f2⟩:=Tl (esz:=1) (Y:=id3) (s:=KL [] 0 0 true) qF px _ _ st.symm;clear s1 s2;refine xX ?_;refine ev_zc ?_;exact f2
section
variable {P:Program}{X:World}(B:Bx P X){O:Orc}(hO:OrcOk P X O)
include B hO
attribute [local go_sem] kC qd in
def zzn(hh:O 37=some eD)(x:zq×Int)(hx:Q6 x):∃s1,SC P X 109 (kC x) (s00 0 true) (qd (YH x.1 x.2)) s1:=by
 refine be B hO f109 ?_;have hc:=λs=>oc hh Wx x hx (dQ x) s;obtain⟨l,a⟩:=x;simp only[Q6]at hx;obtain⟨R,hR⟩:∃R,YH l a=R:=⟨_,rfl⟩;rw[hR];simp only[YH]at hR;generalize gB l a=ha at *;unfold f109 cF;simp only[kC,qd]at hc|-;refine xY ?_;cases ha with
 |true=>
  rw[x6]at hR;subst hR;refine ev_zc ?_;exact pK (wI qF _) (vT px _)
 | false=>
  rw[wh]at hR;refine xY ?_;clear hc;refine xY ?_;refine xU (x4 ?_);refine wq (λi:Nat=>zM l-i) (λi f t=>∃T L n m,f=⟨tmL T,[]⟩/\t=KL L n m true/\G T 0 (.lst (zM l) false (xW wg l))/\G T 1 (.int .i64 a)/\G T 5 i/\i<=zM l/\∀x∈l.take i,ltD x a=true) (λi f t hI=>?_) 0 ⟨_,_,_,_,rfl,rfl,sW,sW,sW,yh _,λx hx=>by simp at hx⟩
  obtain⟨T,L,n,m,rfl,rfl,t0,t1,t5,hi,hlt⟩:=hI;have step:ltD ((l.drop i).headD a) a=false->R=l.take i++[a]++l.drop i:=λh=>by
   rw[<-hR,s5 hlt];cases hd:l.drop i with
   |nil=>simp[WW]
   |cons y r=>rw[hd]at h;rw[Tw (show ltD y a=false from h)];simp
  rcases wj l i with ⟨hge,hd⟩|⟨y,hge,hd⟩
  .have hni:¬i<zM l:=J;have st:=step (by rw[hd];simp[ltD])
   clear step hd;refine xX ?_;exact PE hx hi V V V st
  .have hc:=uz hd;cases e:ltD y a with
   | true=>
    have htk:=zzG hd;clear step hd;refine xX ?_;exact⟨i+1,⟨_,_,n,_,rfl,rfl,V,V,V,J,λx hx=>by
     rw[htk,zuB]at hx;rcases hx with hx|hx
     .exact hlt x hx
     .rw[List.mem_singleton.1 hx];exact e⟩,J⟩
   |false=>
    have st:=step (by rw[hd];exact e)
    clear step hd;refine xX ?_;exact PE hx hi V V V st
end
def usA(given:zq):List Atm->zq->zq
 |[],l=>l
 |a::r,l=>usA given r (bif eqD a.k (.ofNat 1)&& !gB given a.n then YH l a.n else l)
def usO(given:zq):zq->zq->zq
 |[],l=>l
 |x::r,l=>usO given r (bif gB given x then l else YH l x)
mutual
def usR(S:zc)(given:zq):Trm->zq->zq
 |.mk k v _ _ fn az ks,l=>J4 S (bif vG k then given++[v]else given) ks (bif eqD k (.ofNat 2)then usO given (S.getD fn.toNat []) (usA given az l)else usA given az l)
def J4(S:zc)(given:zq):List Trm->zq->zq
 |[],l=>l
 |t::r,l=>J4 S given r (usR S given t l)
end
mutual
def usZ(S:zc):Trm->Nat
 |.mk _ _ _ _ fn az ks=>zM az+(S.getD fn.toNat []).length+bZ S ks
def bZ(S:zc):List Trm->Nat
 |[]=>0
 |t::r=>usZ S t+bZ S r
end
mutual
def cr(m:Nat):Trm->Prop
 |.mk k _ _ _ fn _ ks=>(eqD k (.ofNat 2)=true->∃j,fn=.ofNat j/\j<m)/\Kt m ks
def Kt(m:Nat):List Trm->Prop
 |[]=>True
 |t::r=>cr m t/\Kt m r
end
def LU{m:Nat}:∀{ks:List Trm} {y:Trm},Kt m ks->y∈ks->cr m y
 |t::r,y,h,hy=>by
  simp only[Kt]at h;rcases List.mem_cons.1 hy with rfl|hy
  .exact h.1
  .exact LU h.2 hy
def bX(given:zq):∀(az:List Atm) (l:zq),(usA given az l).length<=zM l+zM az
 |[],l=>zS _
 |a::r,l=>by
  refine zV (bX given r _) ?_;cases eqD a.k (.ofNat 1)&& !gB given a.n with
  |true=>have:=V5 l a.n;simp only[x6,yw];omega
  |false=>simp only[wh,yw];omega
def bY(given:zq):∀(o l:zq),(usO given o l).length<=zM l+zM o
 |[],l=>zS _
 |x::r,l=>by
  refine zV (bY given r _) ?_;cases gB given x with
  |true=>simp only[x6,yw];omega
  |false=>have:=V5 l x;simp only[wh,yw];omega
mutual
theorem AG(S:zc)(given:zq):∀(t:Trm) (l:zq),(usR S given t l).length<=zM l+usZ S t
 |.mk k v _ _ fn az ks,l=>by
  simp only[usR,usZ];have h1:=bX given az l;have h2:=bY given (S.getD fn.toNat []) (usA given az l);refine zV (iK S _ ks _) ?_;cases eqD k (.ofNat 2)with
  |true=>simp only[x6];omega
  |false=>simp only[wh];omega
theorem iK(S:zc)(given:zq):∀(ks:List Trm) (l:zq),(J4 S given ks l).length<=zM l+bZ S ks
 |[],l=>zS _
 |t::r,l=>by
  simp only[J4,bZ];have h1:=AG S given t l;refine zV (iK S given r _) ?_;omega
end
abbrev UsX:=zq×Trm×zq×zc
def GY(l:zc):wC (lQ l)=true:=by simp only[lQ,qn]
structure UsPre(N:Nat)(x:UsX):Prop where
 nt:wN x.2.1<N
 sz:SzT x.2.1
 fn:cr (zM x.2.2.2) x.2.1
 gv:zM x.2.2.1+wN x.2.1<1000000000
 us:zM x.1+usZ x.2.2.2 x.2.1<1000000000
theorem rY(Y:Nat)(l:zq):wkV (kA wg 1 Y l)=qd l:=by cases l<;>rfl
open Int renaming reduceOfNat → rO, reduceNegSucc → rN
def LiV(v:Z)(l:zq):Prop:=v=qd l\/(v=.nils/\l=[])
theorem LiV.wk(h:LiV v l):wkV v=qd l:=by
 rcases h with rfl|⟨rfl,rfl⟩
 .exact Zl l
 .rfl
theorem LiV.vlen(h:LiV v l)(s:U):Q0 s .v v=some (.int .i64 (.ofNat (List.length l))):=by
 rcases h with rfl|⟨rfl,rfl⟩<;>rfl
theorem LiV.pure(h:LiV v l):wC v=true:=by
 rcases h with rfl|⟨rfl,rfl⟩
 .exact jE l
 .rfl
theorem LiV.sc(h:LiV v l):vV v=true:=by
 rcases h with rfl|⟨rfl,rfl⟩<;>rfl
def GiV(v:Z)(l:zq):Prop:=v=qd l\/∃Y,v=kA wg 1 Y l
def GiV.wk(h:GiV v l):wkV v=qd l:=by
 rcases h with rfl|⟨Y,rfl⟩
 .exact Zl l
 .exact rY Y l
theorem EL(h:GiV v l)(hl:zM l<1000000000)(L:za)(n m:Nat):
  Cv (uE (KL L n m true) t 1 8 .nils v) λw s=>∃Y L' n',w=kA wg 1 Y l/\s=KL L' n' m true/\(l≠[]->n<=Y/\Y<n'/\x3 L' Y=some (.app t (xW wg l)))/\n<=n'/\∀j,j<n->x3 L' j=x3 L j:=by
 cases l with
 |nil=>
  refine⟨.nils,KL L n m true,?_,0,L,n,rfl,rfl,λh=>absurd rfl h,zS _,λ_ _=>rfl⟩;rcases h with rfl|⟨Y,rfl⟩<;>rfl
 | cons x r=>
  have h2:j6 v=some (r.length+1)/\qu (KL L n m true) 1 (r.length+1) v=some (xW wg (x::r)):=by
   have h3:wE (Nat.mul (r.length+1) 1) (xW wg (x::r))=some (xW wg (x::r)):=by
    rw[show Nat.mul (r.length+1) 1=(xW wg (x::r)).length from (qK qm (x::r)).symm];exact qg rfl
   rcases h with rfl|⟨Y,rfl⟩
   .exact⟨rfl,h3⟩
   .exact⟨rfl,h3⟩
  have hp:=wI qF (x::r);refine⟨.gr n 1 (r.length+1) (xW wg (x::r)),KL ((n,some (.app t (xW wg (x::r))))::L) (n+1) m true,?_,n,_,_,rfl,rfl,λ_=>⟨zS _,yx _,by rw[x5,wc rfl]⟩,zuC _,λj hj=>by rw[gN J]⟩
  simp only[yw]at hl;generalize xW wg (x::r)=cs at *;simp only[uE,h2.1];simp only[h2.2,ZI,Q5,hp,xO,x6];rw[VM J J J hp];rfl
def EJ{α:Type}{f:α->zt}{esz bytes:Nat}(hl:∀x,(f x).length=esz)(hp:∀x,wo (f x)=true)(hs:∀x,wO (f x)=true)(he:1<=esz){Y n0:Nat}{vs:List α}{w:α}{e:Bool}(h:vs≠[]->n0<=Y/\Y<n/\x3 L Y=some (.app t (xW f vs)))(hm:m%2^n0=0)(hn0:n0<=n)(hb:2*(zM vs+1)*bytes<=281474976710656)(hn:zM vs<1000000000):
  Cv (uE (KL L n m true) t esz bytes (kA f esz Y vs) (.lst 1 e (f w))) λv s=>∃L' m',v=kA f esz n (vs++[w])/\s=KL L' (n+1) m' true/\x3 L' n=some (.app t (xW f (vs++[w])))/\m'%2^n0=0/\(∀j,j<n->(vs≠[]->j≠Y)->x3 L' j=x3 L j):=by
 cases vs with
 |nil=>
  refine⟨_,_,Li L n m [] none t esz bytes e (f w) (hl w) he (by simp only[xN]at hb;omega) (hp w),_,_,?_,rfl,?_,hm,λj hj _=>by rw[gN J]⟩
  .simp only[zuc,kA,vh,yw,xN]
  .rw[x8];simp only[zuc,vh]
 |cons u us=>
  obtain⟨h1,h2,h3⟩:=h (by simp)
  have hap:=rZ L n m true t esz bytes Y (u::us).length e (xW f (u::us)) (f w) h3 (hl w) he hb hn (wI hp _) (hp w) (hs w);refine⟨_,_,hap,_,_,?_,rfl,?_,?_,λj hj hne=>by rw[gN J,x5,x0 (hne (by simp))]⟩
  .simp only[kA,yd,yO,yw,xN,y8];rw[<-yd,wQ,vh]
  .rw[x8,wQ,vh]
  .rw[we h1];exact hm
def tmR(k v op num fn:Int)(az:List Atm)(ks:List Trm):AObj:=.row 40 [k,v,op,num,fn,.lst (zM az) false (xW qO az),.lst (zM ks) false (wS ks)]
def Se{l:List Atm}{a:Atm}{r:List Atm}(hd:l.drop i=a::r):wE 1 (wX (i*2) (xW qO l))=some [.int .i64 a.k]/\wE 1 (wX 1 (wX (i*2) (xW qO l)))=some [.int .i64 a.n]:=by
 rw[uo pu,hd];exact⟨rfl,rfl⟩
def CsS(cs:zt)(S:zc):Prop:=∀j,j<zM S->∃v,wE 1 (wX j cs)=some [v]/\LiV v (S.getD j [])
section
variable {O:Orc}
def OE (hu:O 70=none)(hh:O 37=some eD)(hp:O 109=some sN)(hb:O 69=some Zi){fid:Nat}(hcs:CsS cs S)(hSl:zM S<1000000000):
  ∀(K:Nat) (t:Trm),wN t<=K->SzT t->cr (zM S) t->∀(l given:zq) (lv gv:Z),LiV lv l->GiV gv given->zM given+wN t<1000000000->zM l+usZ S t<1000000000->∀(L:za) (n m:Nat) (b:Bool),fid<n->x3 L fid=some (.row 36 cs)->
  Cv (cl O 70 [lv,q8 t,gv,.sl fid 0 (zM S) (.fix (zM S))] (KL L n m b)) λv s=>LiV v (usR S given t l)/\s=KL L n m b:=by
 intro K
 induction K with
 |zero=>intro t h;have:=vd t;omega
 | succ K ih=>
  intro t hK hsz hfn l given lv gv hlv hgv hgn hus L0 n0 m0 b0 hfid hrow;refine vf (F:=f70) hu rfl rfl (zv4 rfl) ?_;obtain⟨k,v,op,num,fn,az,ks⟩:=t;simp only[SzT,cr,usZ,wN]at hK hsz hfn hgn hus;obtain⟨hs1,hs2,hs3⟩:=hsz;obtain⟨hf1,hf2⟩:=hfn;have hgw:=hgv.wk;have hhas:=λy s=>oc hh Wx (given,y) (show (zM given)<1000000000 by omega) (args:=[gv,.int .i64 y]) (by simp only[kC,wkL,hgw,wkV]) s
  have hput:=λ(li:zq) (lv:Z) (hlv:LiV lv li) (y:Int) (h:zM li<1000000000) s=>oc hp Wx (li,y) h (args:=[lv,.int .i64 y]) (by simp only[kC,wkL,hlv.wk,wkV]) s
  have hbnd:=λs=>oc hb Yv (.mk k v op num fn az ks) trivial (Wy _) s;have hcal:=λt (ht:t∈ks)=>ih t (by have:=kT ht;omega) (Ya hs3 ht) (LU hf2 ht)
  clear ih;obtain⟨R,hR⟩:∃R,usR S given (.mk k v op num fn az ks) l=R:=⟨_,rfl⟩;rw[hR];simp only[usR]at hR;have hlA:=bX given az l;generalize hl1:usA given az l=l1 at *;simp only[jI,q8,wl,Trm.kind]at hhas hput hbnd;simp only[q8,wl];unfold f70 cF;simp only;refine xY ?_;refine xU (xU (xX ?_));apply x4;refine wq (λi:Nat=>zM az-i) (λi f t=>∃T L n m li lv,f=⟨tmL T,[]⟩/\t=KL L n m true/\LiV lv li/\G T 0 lv/\G T 2 gv/\G T 3 (.sl fid 0 (zM S) (.fix (zM S)))/\G T 5 (.ptr n0 0)/\G T 9 i/\i<=zM az/\n0+1<=n/\m%2^n0=0/\x3 L fid=some (.row 36 cs)/\x3 L n0=some (tmR k v op num fn az ks)/\zM li<=zM l+i/\l1=usA given (az.drop i) li) (λi f t hI=>?_) 0 ⟨_,_,_,_,l,lv,rfl,rfl,hlv,sW,sW,sW,sW,sW,yh _,zS _,sW,by rw[gN J];exact hrow,by simp (disch:=first|exact dis|fail)only[go_sem,seval,-rO,-rN,tmR],zS _,hl1.symm⟩
  clear hl1 hlv hrow;obtain⟨T,L,n,m,li,lv,rfl,rfl,hlv,t0,t2,t3,t5,t9,hi,hn,hm,gf,g0,hll,hl1⟩:=hI;rcases wj az i with ⟨hi2,hd⟩|⟨a,hi2,hd⟩
  .have hlt:¬i<zM az:=J;rw[hd]at hl1;simp only[usA]at hl1;subst hl1;simp only[tmR]at g0;refine xX ?_;clear hd hi hi2 t9 hlt;obtain⟨l2,hl2⟩:∃z,(bif eqD k (.ofNat 2)then usO given (S.getD fn.toNat []) l1 else l1)=z:=⟨_,rfl⟩;have hlO:=bY given (S.getD fn.toNat []) l1;have hl2n:zM l2<=zM l1+(S.getD fn.toNat []).length:=by
    rw[<-hl2];cases eqD k (.ofNat 2)with
    |true=>exact hlO
    |false=>exact Nat.le_add_right _ _
   rw[hl2]at hR;have hB:zM l2+bZ S ks<1000000000:=J;refine u6 (λfr t=>∃T L n m lv,fr=⟨tmL T,[]⟩/\t=KL L n m true/\LiV lv l2/\G T 0 lv/\G T 2 gv/\G T 3 (.sl fid 0 (zM S) (.fix (zM S)))/\G T 5 (.ptr n0 0)/\n0+1<=n/\m%2^n0=0/\x3 L fid=some (.row 36 cs)/\x3 L n0=some (tmR k v op num fn az ks)) ?_ λfr t hI=>?_
   .clear hR hcal hbnd hf2 hs3;cases e2:eqD k (.ofNat 2)with
    |false=>
     rw[e2,wh]at hl2;subst hl2;clear hhas hput hgw;refine xX ?_;exact⟨_,L,n,_,lv,rfl,rfl,hlv,V,V,V,V,hn,hm,gf,g0⟩
    | true=>
     obtain⟨j,rfl,hj⟩:=hf1 e2;obtain⟨ov,hcut,hov⟩:=hcs j hj;rw[e2,x6]at hl2;rw[show (Int.ofNat j).toNat=j from rfl]at hl2 hlO hus hl2n;generalize S.getD j []=own at *;have hvl:=hov.vlen;clear hf1 hgw hcs;refine xU (xX ?_);refine wV V ?_;refine xY ?_;refine xU (xX ?_);apply x4;refine wq (λi:Nat=>zM own-i) (λi f t=>∃T L n m li lv,f=⟨tmL T,[]⟩/\t=KL L n m true/\LiV lv li/\G T 0 lv/\G T 2 gv/\G T 3 (.sl fid 0 (zM S) (.fix (zM S)))/\G T 5 (.ptr n0 0)/\G T 10 ov/\G T 11 i/\i<=zM own/\n0+1<=n/\m%2^n0=0/\x3 L fid=some (.row 36 cs)/\x3 L n0=some (tmR k v op num (.ofNat j) az ks)/\zM li<=zM l1+i/\l2=usO given (own.drop i) li) (λi f t hI=>?_) 0 ⟨_,L,n,_,l1,lv,rfl,rfl,hlv,V,V,V,V,V,V,yh _,hn,hm,gf,g0,zS _,hl2.symm⟩;clear hl2 hlO hl2n t0 t2 t3 t5 hn hm gf g0 hcut hlv;obtain⟨T,L,n,m,li,lv,rfl,rfl,hlv,t0,t2,t3,t5,t10,t11,hi,hn,hm,gf,g0,hli,hl2⟩:=hI;rcases wj own i with ⟨hge,hd⟩|⟨y,hge,hd⟩
     .have hni:¬i<zM own:=J;rw[hd]at hl2;simp only[usO]at hl2;subst hl2;clear hd hhas hput;refine xX ?_;exact⟨_,L,n,_,lv,rfl,rfl,hlv,V,V,V,V,hn,hm,gf,g0⟩
     .obtain rfl:ov=.lst (zM own) false (xW wg own):=by
       rcases hov with h|⟨_,h⟩
       .exact h
       .rw[h]at hge;exact absurd hge (Nat.not_lt_zero _)
      have hc:=uz hd;rw[hd]at hl2;simp only[usO]at hl2;have h1:=hhas y;have h2:=hput li lv hlv y J;have h3:=V5 li y;have h4:LiV (qd (YH li y)) (YH li y):=.inl rfl;generalize YH li y=l3 at *;generalize gB given y=hs at *;simp only[qd]at h2 h4;clear hhas hput hd hov hvl;cases hs with
      |true=>
       rw[x6]at hl2;clear h4;refine xX ?_;exact⟨i+1,⟨_,L,n,_,li,lv,rfl,rfl,hlv,V,V,V,V,V,V,J,hn,hm,gf,g0,J,hl2⟩,J⟩
      |false=>
       rw[wh]at hl2;clear hlv;have h5:=h4;clear h4;refine xX ?_;exact⟨i+1,⟨_,L,n,_,l3,_,rfl,rfl,h5,V,V,V,V,V,V,J,hn,hm,gf,g0,J,hl2⟩,J⟩
   .clear hf1 hl2 hlO hl2n t0 t2 t3 t5 hn hm gf g0 hll hhas hput hlv;obtain⟨T,L,n,m,lv,rfl,rfl,hlv,t0,t2,t3,t5,hn,hm,gf,g0⟩:=hI;simp only[tmR]at g0;refine xY ?_;refine xU (wi ?_);refine xZ (EL hgv J _ _ _) λv' t hv=>?_;obtain⟨id1,L1,n1,rfl,rfl,ok1,hn1,hfr⟩:=hv;have g1:=(hfr n0 J).trans g0;have gf1:=(hfr fid J).trans gf;have ok2:given≠[]->n0<=id1/\id1<n1/\x3 L1 id1=some (.app 3 (xW wg given)):=λh=>⟨by have:=(ok1 h).1;omega,(ok1 h).2⟩
    have hne1:given≠[]->n0≠id1/\fid≠id1:=λh=>by have:=(ok1 h).1;omega
    clear g0 gf hfr ok1 hgw;refine xX ?_;obtain⟨g3,hg3⟩:∃z,(bif vG k then given++[v]else given)=z:=⟨_,rfl⟩;have hg3l:g3.length<=zM given+1:=by
     rw[<-hg3];cases vG k with
     |true=>simp
     |false=>exact zuC _
    rw[hg3]at hR;refine u6 (λfr t=>∃T L n m Y,fr=⟨tmL T,[]⟩/\t=KL L n m true/\G T 0 lv/\G T 3 (.sl fid 0 (zM S) (.fix (zM S)))/\G T 5 (.ptr n0 0)/\G T 12 (kA wg 1 Y g3)/\n0+1<=n/\m%2^n0=0/\x3 L fid=some (.row 36 cs)/\x3 L n0=some (tmR k v op num fn az ks)) ?_ λfr t hI=>?_
    .clear hcal hR hf2 hs3;generalize vG k=bk at *;cases bk with
     |false=>
      rw[wh]at hg3;subst hg3;refine xX ?_;exact⟨_,L1,n1,_,id1,rfl,rfl,V,V,V,V,J,hm,gf1,g1⟩
     |true=>
      rw[x6]at hg3;refine xU (xX ?_);refine wV V ?_;refine wi ?_;refine xZ (EJ (n0:=n0) (w:=v) (e:=true) qm qF vq J ok2 hm J J J) λv' t hv=>?_;obtain⟨L2,m2,rfl,rfl,_,hm2,hfr⟩:=hv;have g2:=(hfr n0 J λh=>(hne1 h).1).trans g1;have gf2:=(hfr fid J λh=>(hne1 h).2).trans gf1;subst hg3;clear hfr;refine xX ?_;exact⟨_,L2,n1+1,_,n1,rfl,rfl,V,V,V,V,J,hm2,gf2,g2⟩
    .clear g1 gf1 ok2 hne1 hn1 hg3 t0 t2 t3 t5 hbnd hm;obtain⟨T,L,n,m,Y,rfl,rfl,t0,t3,t5,t12,hn,hm,gf,g0⟩:=hI;simp only[tmR]at g0;refine xU (xU (xX ?_));apply x4;refine wq (λi:Nat=>zM ks-i) (λi f t=>∃T m2 li lv,f=⟨tmL T,[]⟩/\t=KL L n m2 true/\LiV lv li/\G T 0 lv/\G T 3 (.sl fid 0 (zM S) (.fix (zM S)))/\G T 5 (.ptr n0 0)/\G T 12 (kA wg 1 Y g3)/\G T 13 i/\i<=zM ks/\m2%2^n0=0/\zM li+bZ S (ks.drop i)<1000000000/\R=J4 S g3 (ks.drop i) li) (λi f t hI=>?_) 0 ⟨_,_,l2,lv,rfl,rfl,hlv,V,V,V,V,V,yh _,hm,hB,hR.symm⟩;clear hR hB t0 t3 t5 t12 hlv hm;obtain⟨T,m2,li,lv,rfl,rfl,hlv,t0,t3,t5,t12,t13,hi,hm,hB,hR⟩:=hI;rcases wj ks i with ⟨hge,hd⟩|⟨x,hge,hd⟩
     .have hni:¬i<zM ks:=J;rw[hd]at hR;simp only[J4]at hR;subst hR;clear hd hcal;have hpv:=hlv.pure;refine xX ?_;refine ev_zc ?_;exact⟨hlv,rfl⟩
     .have hc:=Uu hd;rw[hd]at hR hB;simp only[J4,bZ]at hR hB;have hxm:x∈ks:=zv9 (by rw[hd];exact zua)
      have hx:=λm b=>hcal x hxm li g3 lv (kA wg 1 Y g3) hlv (.inr ⟨Y,rfl⟩) (by have:=kT hxm;omega) J L n m b J gf
      have hl:=AG S g3 x li;have hl7:=wP x;simp only[q8]at hx;generalize usR S g3 x li=l3 at *;clear hcal hd hlv;refine xY ?_;refine xU (x4 ?_);refine wi ?_;refine xZ (hx _ _) λv' t hv=>?_;obtain⟨hlv,rfl⟩:=hv;clear hx;refine xX ?_;refine xX ?_;exact⟨i+1,⟨_,_,l3,v',rfl,rfl,hlv,V,V,V,V,V,J,V,J,hR⟩,J⟩
  .obtain⟨hc,hc'⟩:=Se hd;rw[hd]at hl1;simp only[usA]at hl1;have h1:=hhas a.n;have h2:=hput li lv hlv a.n J;have h3:=V5 li a.n;obtain⟨ak,an⟩:=a;simp only[tmR]at g0;simp only[qd]at hc hc' h1 h2 h3 hl1;have h4:LiV (.lst (YH li an).length false (xW wg (YH li an))) (YH li an):=.inl rfl;generalize YH li an=l2 at *;generalize gB given an=hs at *;clear hhas hput hbnd hcal hd hR hgw;cases e1:eqD ak (.ofNat 1)with
   |false=>
    rw[e1,zv7,wh]at hl1;clear h4;refine xX ?_;exact⟨i+1,⟨_,_,n,_,li,lv,rfl,rfl,hlv,V,V,V,V,V,J,hn,hm,gf,g0,J,hl1⟩,J⟩
   | true=>
    cases hs with
    |true=>
     rw[e1,xS,zuj,wh]at hl1;clear h4;refine xX ?_;exact⟨i+1,⟨_,_,n,_,li,lv,rfl,rfl,hlv,V,V,V,V,V,J,hn,hm,gf,g0,J,hl1⟩,J⟩
    |false=>
     rw[e1,zuh,xO,x6]at hl1;have h5:=h4;clear h4 hlv;refine xX ?_;exact⟨i+1,⟨_,_,n,_,l2,_,rfl,rfl,h5,V,V,V,V,V,J,hn,hm,gf,g0,J,hl1⟩,J⟩
end
def gp(x:zq×zq):zt:=[qd x.1,qd x.2]
def Uy:∀x y,gp x=gp y->x=y:=λ⟨a,b⟩ ⟨c,d⟩ h=>by
 simp only[gp,qJ,and_true]at h;rw[lz h.1,lz h.2]
def Gl(x:zq×zq):wo (gp x)=true:=by simp only[gp,ww,jE,wA,xO]
def Q7(x:zq×zq):Prop:=zM x.1<1000000000/\zM x.2<1000000000
def QD:zq->zq->Bool
 |[],[]=>true
 |a::r,b::q=>eqD a b&&QD r q
 |_,_=>false
def Vv:∀{a b:zq},QD a b=true↔a=b
 |[],[]=>by simp[QD]
 |[],_::_=>by simp[QD]
 |_::_,[]=>by simp[QD]
 |a::r,b::q=>by
  simp only[QD,Bool.and_eq_true,Vv (a:=r),qJ,eqD,jm]
def Mi:zt->U->zb:=vw gp Q7 (λx=>.bool (QD x.1 x.2))
section
variable {P:Program}{X:World}(B:Bx P X){O:Orc}(hO:OrcOk P X O)
include B hO
attribute [local go_sem] gp qd in
def Ov(x:zq×zq)(hx:Q7 x):∃s1,SC P X 71 (gp x) (s00 0 true) (.bool (QD x.1 x.2)) s1:=by
 refine be B hO f71 ?_;obtain⟨a,b⟩:=x;obtain⟨ha,hb⟩:=hx;obtain⟨R,hR⟩:∃R,QD a b=R:=⟨_,rfl⟩;simp only at ha hb|-;rw[hR];unfold f71 cF;simp only;refine xY ?_;by_cases hl:zM a=zM b
 .refine xY ?_;refine xU (xU (xX ?_));apply x4;refine wq (λi:Nat=>zM a-i) (λi f t=>∃T L n m,f=⟨tmL T,[]⟩/\t=KL L n m true/\G T 0 (.lst (zM a) false (xW wg a))/\G T 1 (.lst (zM b) false (xW wg b))/\G T 5 i/\i<=zM a/\R=QD (a.drop i) (b.drop i)) (λi f t hI=>?_) 0 ⟨_,_,_,_,rfl,rfl,V,V,sW,yh _,hR.symm⟩;clear hR;obtain⟨T,L,n,m,rfl,rfl,t0,t1,t5,hi,hR⟩:=hI;rcases wj a i with ⟨hlt,hd⟩|⟨y,hlt,hd⟩
  .have hni:¬i<zM a:=J;have hdb:b.drop i=[]:=List.drop_eq_nil_of_le J;rw[hd,hdb]at hR;clear hd hdb;refine xX ?_;refine ev_zc ?_;exact XP hR
  .obtain⟨z,hdb⟩:∃z,b.drop i=z::b.drop (i+1):=⟨_,zuo J⟩;have hc:=uz hd;have hcb:=uz hdb;have hltb:i<zM b:=J;rw[hd,hdb]at hR;simp only[QD]at hR;clear hd hdb;cases e:eqD y z with
   |false=>
    rw[e,zv7]at hR;refine ev_zc ?_;exact XP hR
   |true=>
    rw[e,y9]at hR;refine xX ?_;exact⟨i+1,⟨_,_,n,_,rfl,rfl,V,V,V,J,hR⟩,J⟩
 .have hR2:R=false:=by
   rw[<-hR,Bool.eq_false_iff];exact λh=>hl (by rw[Vv.1 h])
  clear hR;refine xY ?_;refine qz ?_;exact XP hR2
end
mutual
def YY:Trm->zq
 |.mk k v _ _ _ _ ks=>(bif vG k then [v]else [])++Vf ks
def Vf:List Trm->zq
 |[]=>[]
 |t::r=>YY t++Vf r
end
mutual
theorem Ve:∀t:Trm,(YY t).length<=wN t
 |.mk k v _ _ _ _ ks=>by
  have:=Lk ks;simp only[YY,wN,yO];cases vG k<;>simp<;>omega
theorem Lk:∀l:List Trm,(Vf l).length<=qR l
 |[]=>zS _
 |t::r=>by
  have h1:=Ve t;have h2:=Lk r;simp only[Vf,qR,yO];omega
end
def GI(L:za)(n Y:Nat)(l:zq):Prop:=l≠[]->Y<n/\x3 L Y=some (.row 3 (xW wg l) true false)
section
variable {O:Orc}
def Di(h36:O 36=none)(hb:O 69=some Zi):∀(K:Nat) (t:Trm),wN t<=K->SzT t->∀(l:zq) (L:za) (n m Y:Nat),WfA L n->GI L n Y l->zM l+wN t<1000000000->
  Cv (cl O 36 [gSl 1 Y (zM l),q8 t] (KL L n m false)) λv s=>∃id2 L2 n2 m2,v=gSl 1 id2 (l++YY t).length/\s=KL L2 n2 m2 false/\WfA L2 n2/\n<=n2/\GI L2 n2 id2 (l++YY t)/\(l++YY t≠[]->(l≠[]/\id2=Y)\/n<=id2)/\∀j,j<n->(l≠[]->j≠Y)->x3 L2 j=x3 L j:=by
 intro K
 induction K with
 |zero=>intro t h;have:=vd t;omega
 | succ K ih=>
  intro t hK hsz l L0 n0 m0 id0 hw0 hg0 hN;refine wp (F:=f36) h36 rfl rfl (zv4 rfl) ?_;obtain⟨k,v,op,num,fn,az,ks⟩:=t;simp only[SzT,wN]at hK hsz hN;obtain⟨hs1,hs2,hs3⟩:=hsz;have hbnd:=λs=>oc hb Yv (.mk k v op num fn az ks) trivial (Wy _) s;have hcal:=λt (ht:t∈ks)=>ih t (by have:=kT ht;omega) (Ya hs3 ht)
  clear ih;obtain⟨R,hR⟩:∃R,l++YY (.mk k v op num fn az ks)=R:=⟨_,rfl⟩;rw[hR];simp only[YY]at hR;obtain⟨l2,hl2⟩:∃z,l++(bif vG k then [v]else [])=z:=⟨_,rfl⟩;have hl2n:zM l2<=zM l+1:=by rw[<-hl2];cases vG k<;>simp
  rw[<-zux,hl2]at hR;simp only[jI,q8,wl,Trm.kind]at hbnd;simp only[q8,wl];unfold f36 cF;simp only;refine xY ?_;refine u6 (λfr t=>∃T L n m Y,fr=⟨tmL T,[]⟩/\t=KL L n m false/\G T 0 (gSl 1 Y (zM l2))/\G T 3 (.ptr n0 0)/\WfA L n/\n0+1<=n/\GI L n Y l2/\(l2≠[]->(l≠[]/\Y=id0)\/n0+1<=Y)/\x3 L n0=some (tmR k v op num fn az ks)/\∀j,j<n0->(l≠[]->j≠id0)->x3 L j=x3 L0 j) ?_ λfr t hI=>?_
  .clear hR hcal;have hg1:∀o,GI ((n0,o)::L0) (n0+1) id0 l:=λo h=>⟨by have:=(hg0 h).1;omega,by have:=hg0 h;rw[gN J];exact this.2⟩
   generalize vG k=bk at *;cases bk with
   |false=>
    rw[wh,zv6]at hl2;subst hl2;refine xX ?_;exact⟨_,_,n0+1,_,id0,rfl,rfl,V,V,hw0.cons (yx _) (zuC _),zS _,hg1 _,λh=>.inl ⟨h,rfl⟩,by simp (disch:=first|exact dis|fail)only[go_sem,seval,-rO,-rN,tmR],λj hj _=>by rw[gN J]⟩
   | true=>
    rw[x6]at hl2;refine xU (xX ?_);refine wV V ?_;have hsrc:∀(L:za) n m o,qu (KL ((n0+1,some (AObj.row 3 [v] o false))::L) n m false) 1 1 (.sl (n0+1) 0 1 (.fix 1))=some (wg v):=λL n m o=>(j7 (j:=0) (cs:=wg v) (x:=o) (f:=false) (e:=3) (by rw[wM,x8];rfl) rfl).2
    refine wi ?_;refine xZ (Qo (f:=wg) (Y:=id0) (vs:=l) (w:=v) qm vq J (λh=>⟨by have:=(hg0 h).1;omega,by have:=hg0 h;rw[gN J,gN J];exact this.2⟩) (by (repeat first|exact hw0.up J|refine WfA.same ?_ J)) rfl (hsrc _ _ _ _) J J) λv' t hv=>?_
    obtain⟨L7,m7,rfl,rfl,g7,hw7,hf7⟩:=hv;subst hl2;clear hsrc hg1;have hfn:∀j,j<n0+1->(l≠[]->j≠id0)->x3 L7 j=x3 ((n0,some (tmR k v op num fn az ks))::L0) j:=λj hj hne=>by
     rw[hf7 j J hne,gN J];rfl
    clear hf7;have g0:=hfn n0 J (λh=>by have:=(hg0 h).1;omega)
    rw[x8]at g0;refine xX ?_;exact⟨_,L7,n0+1+1+1,_,n0+1+1,rfl,rfl,V,V,hw7,J,λ_=>⟨J,g7⟩,λ_=>.inr J,g0,λj hj hne=>by rw[hfn j J hne,gN J]⟩
  .clear hbnd hl2;obtain⟨T,L,n,m,Y,rfl,rfl,t0,t3,hw,hn,hg,hid,g0,hfr⟩:=hI;simp only[tmR]at g0;refine xU (xU (xX ?_));apply x4;have hB:zM l2+qR ks<1000000000:=J;refine wq (λi:Nat=>zM ks-i) (λi f t=>∃T L n m Y li,f=⟨tmL T,[]⟩/\t=KL L n m false/\G T 0 (gSl 1 Y (zM li))/\G T 3 (.ptr n0 0)/\G T 5 i/\WfA L n/\n0+1<=n/\GI L n Y li/\(li≠[]->(l≠[]/\Y=id0)\/n0+1<=Y)/\x3 L n0=some (tmR k v op num fn az ks)/\(∀j,j<n0->(l≠[]->j≠id0)->x3 L j=x3 L0 j)/\i<=zM ks/\zM li+qR (ks.drop i)<1000000000/\R=li++Vf (ks.drop i)) (λi f t hI=>?_) 0 ⟨_,_,_,_,Y,l2,rfl,rfl,V,V,V,hw,hn,hg,hid,g0,hfr,yh _,hB,hR.symm⟩;clear hR hB t0 t3 hw hn hg hid g0 hfr;obtain⟨T,L,n,m,Y,li,rfl,rfl,t0,t3,t5,hw,hn,hg,hid,g0,hfr,hi,hB,hR⟩:=hI;simp only[tmR]at g0;rcases wj ks i with ⟨hge,hd⟩|⟨x,hge,hd⟩
   .have hni:¬i<zM ks:=J;rw[hd]at hR;simp only[Vf,zv6]at hR;subst hR;have hfr2:=hfr;clear hd hcal hfr;refine xX ?_;refine ev_zc ?_;exact⟨Y,L,n,_,rfl,rfl,hw,J,hg,λh=>by rcases hid h with h|h;exact .inl h;exact .inr J,hfr2⟩
   .have hc:=Uu hd;rw[hd]at hR hB;simp only[Vf,qR]at hR hB;have hx:=λm=>hcal x (zv9 (by rw[hd];exact zua)) li L n m Y hw hg J
    have hl:=Ve x;have hl7:=wP x;simp only[q8]at hx;have hne:li≠[]->n0≠Y:=λh=>by
     rcases hid h with ⟨h1,h2⟩|h2
     .have:=(hg0 h1).1;omega
     .omega
    have hlen:(li++YY x).length=zM li+(YY x).length:=yO;rw[<-zux]at hR;generalize li++YY x=l3 at *;have hfr2:=hfr;clear hcal hd hfr;refine xY ?_;refine xU (x4 ?_);refine wi ?_;refine xZ (hx _) λv' t hv=>?_;obtain⟨id2,L2,n2,m2,rfl,rfl,hw2,hn2,hg2,hid2,hf2⟩:=hv;have g02:=(hf2 n0 J hne).trans g0;have hf3:∀j,j<n0->(l≠[]->j≠id0)->x3 L2 j=x3 L0 j:=λj hj h=>by
     rw[hf2 j J λh2=>by rcases hid h2 with ⟨h3,h4⟩|h4;rw[h4];exact h h3;omega]
     exact hfr2 j hj h
    have hid3:l3≠[]->(l≠[]/\id2=id0)\/n0+1<=id2:=λh=>by
     rcases hid2 h with ⟨h1,h2⟩|h2
     .rw[h2];exact hid h1
     .exact .inr J
    clear hx hf2 hfr2 hid2 hid g0 hg hw hne;refine xX ?_;refine xX ?_;exact⟨i+1,⟨_,L2,n2,_,id2,l3,rfl,rfl,V,V,V,hw2,J,hg2,hid3,g02,hf3,J,J,hR⟩,J⟩
end
def RI(l:zq):Prop:=l.Pairwise (· < ·)
def RI.nd(h:RI l):l.Nodup:=List.Pairwise.imp (λh=>J) h
def G2{x n:Int}:∀{l:zq},x∈WW n l↔x=n\/x∈l
 |[]=>by simp[WW]
 |y::r=>by
  simp only[WW];cases ltD y n with
  |true=>simp only[x6,zul,G2 (l:=r)];constructor<;>(intro h;rcases h with h|h|h)<;>simp[h]
  |false=>simp only[wh,zul]
def pN{n:Int}:gB l n=true↔n∈l:=by
 simp only[gB,List.any_eq_true,eqD,jm];exact⟨λ⟨_,h1,h2⟩=>h2▸h1,λh=>⟨n,h,rfl⟩⟩
def fg{x n:Int}:x∈YH l n↔x=n\/x∈l:=by
 unfold YH;cases h:gB l n with
 |true=>
  rw[x6];exact⟨.inr,λg=>g.elim (λe=>e▸pN.1 h) Y⟩
 |false=>exact G2
def Ak{n:Int}:∀{l:zq},RI l->n∉l->RI (WW n l)
 |[],_,_=>by simp[WW,RI]
 | y::r,h,hn=>by
  simp only[RI,zuW]at h;simp only[WW];cases e:ltD y n with
  |true=>
   have hy:y<n:=by simpa [ltD]using e
   simp only[x6,RI,zuW];refine⟨λz hz=>?_,Ak h.2 λg=>hn (xA _ g)⟩;rcases G2.1 hz with rfl|hz
   .exact hy
   .exact h.1 z hz
  |false=>
   have hy:¬y<n:=by simpa [ltD]using e
   have hne:n≠y:=λg=>hn (g▸zua);simp only[wh,RI,zuW];refine⟨λz hz=>?_,h⟩;rcases List.mem_cons.1 hz with rfl|hz
   .omega
   .have:=h.1 z hz;omega
def Al{n:Int}(h:RI l):RI (YH l n):=by
 unfold YH;cases e:gB l n with
 |true=>exact h
 |false=>exact Ak h λg=>by rw[pN.2 g]at e;cases e
def bg{x:Int}{g:zq}:∀{az:List Atm} {l:zq},x∈usA g az l↔x∈l\/∃a∈az,eqD a.k (.ofNat 1)=true/\a.n=x/\x∉g
 |[],l=>by simp[usA]
 | a ::r,l=>by
  simp only[usA,bg (az:=r),zul];cases e1:eqD a.k (.ofNat 1)with
  | false=>
   simp only[zv7,wh];exact⟨λh=>h.imp Y λ⟨b,h⟩=>⟨b,.inr h.1,h.2⟩,λh=>h.imp Y λ⟨b,h,h2⟩=>by
    rcases h with rfl|h
    .rw[e1]at h2;cases h2.1
    .exact⟨b,h,h2⟩⟩
  | true=>
   cases e2:gB g a.n with
   | true=>
    simp only[xS,zuj,wh];exact⟨λh=>h.imp Y λ⟨b,h⟩=>⟨b,.inr h.1,h.2⟩,λh=>h.imp Y λ⟨b,h,h2⟩=>by
     rcases h with rfl|h
     .exact absurd (h2.2.1▸pN.1 e2) h2.2.2
     .exact⟨b,h,h2⟩⟩
   | false=>
    have hg:a.n∉g:=λh=>by rw[pN.2 h]at e2;cases e2
    simp only[zuh,zut,x6,fg];constructor
    .rintro((rfl|h)|⟨b,h,h2⟩)
     .exact .inr ⟨a,.inl rfl,e1,rfl,hg⟩
     .exact .inl h
     .exact .inr ⟨b,.inr h,h2⟩
    .rintro(h|⟨b,rfl|h,h2⟩)
     .exact .inl (.inr h)
     .exact .inl (.inl h2.2.1.symm)
     .exact .inr ⟨b,h,h2⟩
def o9{g:zq}:∀{az:List Atm} {l:zq},RI l->RI (usA g az l)
 |[],_,h=>h
 |a::r,l,h=>by
  simp only[usA];apply o9;cases eqD a.k (.ofNat 1)&& !gB g a.n with
  |true=>exact Al h
  |false=>exact h
def tc{x:Int}{g:zq}:∀{o l:zq},x∈usO g o l↔x∈l\/(x∈o/\x∉g)
 |[],l=>by simp[usO]
 | y::r,l=>by
  simp only[usO,tc (o:=r),zul];cases e2:gB g y with
  |true=>
   have hy:=pN.1 e2;simp only[x6];exact⟨λh=>h.imp Y λh=>⟨.inr h.1,h.2⟩,λh=>h.imp Y λ⟨h,h2⟩=>⟨h.resolve_left λe=>h2 (e▸hy),h2⟩⟩
  | false=>
   have hy:y∉g:=λh=>by rw[pN.2 h]at e2;cases e2
   simp only[wh,fg];constructor
   .rintro((rfl|h)|⟨h,h2⟩)
    .exact .inr ⟨.inl rfl,hy⟩
    .exact .inl h
    .exact .inr ⟨.inr h,h2⟩
   .rintro(h|⟨rfl|h,h2⟩)
    .exact .inl (.inr h)
    .exact .inl (.inl rfl)
    .exact .inr ⟨h,h2⟩
def Og{g:zq}:∀{o l:zq},RI l->RI (usO g o l)
 |[],_,h=>h
 |y::r,l,h=>by
  simp only[usO];apply Og;cases gB g y with
  |true=>exact h
  |false=>exact Al h
mutual
def fvT(S:zc)(x:Int):zq->Trm->Prop
 |g,.mk k v _ _ fn az ks=>((∃a∈az,eqD a.k (.ofNat 1)=true/\a.n=x/\x∉g)\/(eqD k (.ofNat 2)=true/\x∈S.getD fn.toNat []/\x∉g))\/VG S x (bif vG k then g++[v]else g) ks
def VG(S:zc)(x:Int):zq->List Trm->Prop
 |_,[]=>False
 |g,t::r=>fvT S x g t\/VG S x g r
end
mutual
theorem WI{S:zc}{x:Int}:∀{t:Trm} {g l:zq},x∈usR S g t l↔x∈l\/fvT S x g t
 |.mk k v _ _ fn az ks,g,l=>by
  simp only[usR,fvT,fh];cases eqD k (.ofNat 2)with
  |false=>simp only[wh,bg,Bool.false_eq_true,false_and,or_false,or_assoc]
  |true=>simp only[x6,tc,bg,true_and,or_assoc]
theorem fh{S:zc}{x:Int}:∀{ks:List Trm} {g l:zq},x∈J4 S g ks l↔x∈l\/VG S x g ks
 |[],g,l=>by simp only[J4,VG,or_false]
 |t::r,g,l=>by simp only[J4,VG,fh,WI,or_assoc]
end
mutual
theorem Oh{S:zc}:∀{t:Trm} {g l:zq},RI l->RI (usR S g t l)
 |.mk k v _ _ fn az ks,g,l,h=>by
  simp only[usR];apply Am;cases eqD k (.ofNat 2)with
  |false=>exact o9 h
  |true=>exact Og (o9 h)
theorem Am{S:zc}:∀{ks:List Trm} {g l:zq},RI l->RI (J4 S g ks l)
 |[],_,_,h=>h
 |t::r,g,l,h=>by
  simp only[J4];exact Am (Oh h)
end
mutual
theorem eu{S:zc}{x:Int}:∀{t:Trm} {g:zq},fvT S x g t->x∈gQ t\/∃j,x∈S.getD j []
 |.mk k v _ _ fn az ks,g,h=>by
  simp only[fvT]at h;simp only[gQ,zuB,List.mem_map];rcases h with (⟨a,h1,h2,h3,_⟩|⟨_,h,_⟩)|h
  .exact .inl (.inl ⟨a,h1,h3⟩)
  .exact .inr ⟨_,h⟩
  .exact(Pa h).imp .inr Y
theorem Pa{S:zc}{x:Int}:∀{ks:List Trm} {g:zq},VG S x g ks->x∈pW ks\/∃j,x∈S.getD j []
 |[],_,h=>h.elim
 |t::r,g,h=>by
  simp only[VG]at h;simp only[pW,zuB];rcases h with h|h
  .exact(eu h).imp .inl Y
  .exact(Pa h).imp .inr Y
end
mutual
theorem VE{S S2:zc}{x:Int}(hs:∀j,x∈S.getD j []->x∈S2.getD j []):∀{t:Trm} {g:zq},fvT S x g t->fvT S2 x g t
 |.mk k v _ _ fn az ks,g,h=>by
  simp only[fvT]at h|-;exact h.imp (λh=>h.imp Y λ⟨h1,h2,h3⟩=>⟨h1,hs _ h2,h3⟩) (LZ hs)
theorem LZ{S S2:zc}{x:Int}(hs:∀j,x∈S.getD j []->x∈S2.getD j []):∀{ks:List Trm} {g:zq},VG S x g ks->VG S2 x g ks
 |[],_,h=>h
 |t::r,g,h=>by
  simp only[VG]at h|-;exact h.imp (VE hs) (LZ hs)
end
def V6(c:Cd)(S:zc):zc:=c.fs.map λf=>usR S f.ps f.b []
def rIt(c:Cd):Nat->zc
 |0=>zuY (zM c.fs) []
 |k+1=>V6 c (rIt c k)
def jl(c:Cd):zc:=rIt c (pX c)
def l8(c:Cd):∀k,(rIt c k).length=zM c.fs
 |0=>by simp[rIt]
 |k+1=>by simp[rIt,V6]
theorem Z3(n j:Nat):(zuY n ([]:zq)).getD j []=[]:=by
 rw[xD,List.getElem?_replicate];split<;>rfl
theorem X8{j:Nat}:(V6 c S).getD j []=match c.fs[j]? with
  |some f=>usR S f.ps f.b []
  |none=>[]:=by
 rw[xD,V6,List.getElem?_map];cases c.fs[j]? <;>rfl
def UZ(c:Cd):∀k j,RI ((rIt c k).getD j [])
 |0,j=>by rw[rIt,Z3];exact zuZ
 |k+1,j=>by
  rw[rIt,X8];cases c.fs[j]? with
  |none=>exact zuZ
  |some f=>exact Oh zuZ
def bD(c:Cd):∀k j,∀x∈(rIt c k).getD j [],x∈kE c
 |0,j,x,h=>by rw[rIt,Z3]at h;cases h
 | k+1,j,x,h=>by
  rw[rIt,X8]at h;cases hf:c.fs[j]? with
  |none=>rw[hf]at h;cases h
  | some f=>
   rw[hf]at h;rcases WI.1 h with h|h
   .cases h
   .rcases eu h with h|⟨i,h⟩
    .exact Wl c f (List.mem_of_getElem? hf) x h
    .exact bD c k i x h
def oZ(c:Cd):∀k j,∀x∈(rIt c k).getD j [],x∈(rIt c (k+1)).getD j []
 |0,j,x,h=>by rw[rIt,Z3]at h;cases h
 | k+1,j,x,h=>by
  rw[rIt,X8]at h|-;cases hf:c.fs[j]? with
  |none=>rw[hf]at h;exact h
  |some f=>
   replace h:x∈usR (rIt c k) f.ps f.b []:=by rw[hf]at h;exact h
   show x∈usR (rIt c (k+1)) f.ps f.b [];rcases WI.1 h with h|h
   .cases h
   .exact WI.2 (.inr (VE (λi=>oZ c k i x) h))
def zyy:∀{a b:zq},RI a->RI b->(∀x∈a,x∈b)->zM a=zM b->a=b
 |[],[],_,_,_,_=>rfl
 | x ::a,y::b,ha,hb,hs,hl=>by
  have ha1:=ha;have hb1:=hb;simp only[RI,zuW]at ha hb;have hxy:x=y:=by
   rcases List.mem_cons.1 (hs x zua)with h|h
   .exact h
   .have h1:=hb.1 x h;have h2:=ZW (l:=x::a) (U9:=b) ha1.nd λz hz=>by
     rcases List.mem_cons.1 (hs z hz)with e|e
     .rcases List.mem_cons.1 hz with e2|e2
      .omega
      .have:=ha.1 z e2;omega
     .exact e
    simp only[yw]at hl h2;omega
  subst hxy;rw[zyy ha.2 hb.2 (λz hz=>by
   rcases List.mem_cons.1 (hs z (xA _ hz))with e|e
   .have:=ha.1 z hz;omega
   .exact e) (by simpa using hl)]
def rR:∀{S S2:zc},zM S=zM S2->(∀j,RI (S.getD j [])/\RI (S2.getD j [])/\∀x∈S.getD j [],x∈S2.getD j [])->S=S2\/gF S<gF S2
 |[],[],_,_=>.inl rfl
 | a::S,b::S2,hl,h=>by
  have h0:=h 0;simp only[List.getD_cons_zero]at h0;have hle:=ZW h0.1.nd h0.2.2;rcases rR (S:=S) (S2:=S2) (by simpa using hl) λj=>by simpa only[List.getD_cons_succ]using h (j+1)with e|e
  .rcases Nat.lt_or_ge (zM a) (zM b)with g|g
   .right;simp only[gF,zY,List.sum_cons,e];omega
   .left;rw[zyy h0.1 h0.2.1 h0.2.2 J,e]
  .right;simp only[gF,zY,List.sum_cons]at e|-;omega
def Ah(c:Cd)(k:Nat):gF (rIt c k)<=pX c:=by
 unfold pX;rw[<-l8 c k];refine bR λl hl=>?_;obtain⟨j,hj⟩:=List.getElem?_of_mem hl;have:(rIt c k).getD j []=l:=by rw[xD,hj];rfl
 rw[<-this];exact⟨(UZ c k j).nd,bD c k j⟩
def He(c:Cd):∀k,rIt c (k+1)=rIt c k\/k<gF (rIt c (k+1))
 |0=>by
  rcases rR (S:=rIt c 0) (S2:=rIt c 1) (by rw[l8,l8]) λj=>⟨UZ c _ j,UZ c _ j,oZ c 0 j⟩with h|h
  .exact .inl h.symm
  .exact .inr (Nat.lt_of_le_of_lt (yh _) h)
 | k+1=>by
  rcases He c k with h|h
  .left
   show V6 c (rIt c (k+1))=V6 c (rIt c k);rw[h]
  .rcases rR (S:=rIt c (k+1)) (S2:=rIt c (k+2)) (by rw[l8,l8]) λj=>⟨UZ c _ j,UZ c _ j,oZ c (k+1) j⟩with h2|h2
   .exact .inl h2.symm
   .exact .inr (by have:gF (rIt c (k+1))<gF (rIt c (k+1+1)):=h2;omega)
def Hf{c:Cd}{k:Nat}(h:rIt c (k+1)=rIt c k):∀j,rIt c (k+j)=rIt c k
 |0=>rfl
 |j+1=>by
  show V6 c (rIt c (k+j))=_;rw[Hf h j];exact h
def PG(c:Cd):V6 c (jl c)=jl c:=by
 rcases He c (pX c)with h|h
 .exact h
 .have:=Ah c (pX c+1);omega
def N0{c:Cd}{k:Nat}(h:rIt c (k+1)=rIt c k):rIt c k=jl c:=by
 unfold jl;by_cases hk:k<=pX c
 .have:=Hf h (pX c-k);rw[Nat.add_sub_cancel' hk]at this;exact this.symm
 .have:=Hf (PG c) (k-pX c);rw[Nat.add_sub_cancel' J]at this;exact this
def zxZ{c:Cd}{k:Nat}(h:rIt c (k+1)≠rIt c k):k<pX c:=by
 rcases He c k with h1|h1
 .exact absurd h1 h
 .have:=Ah c (k+1);omega
def PS(c:Cd):(jP c).length=zM c.fs:=(pO c _).len
def PU:∀(fs:List Fn) (i:Nat) (S:zc) (j:Nat),j<i->(km fs i S).getD j []=S.getD j []
 |[],_,_,_,_=>rfl
 |f::r,i,S,j,h=>by
  simp only[km];rw[PU r (i+1) _ j J,xD,List.getElem?_set,x0 J,<-xD]
def PT:∀(fs:List Fn) (i:Nat) (S:zc),i+zM fs<=zM S->km fs i S=S->∀j f,fs[j]? =some f->je S (i+j) f.b (ZR [] f.ps) (S.getD (i+j) [])=S.getD (i+j) []
 |[],_,_,_,_,j,f,h=>by simp at h
 | g::r,i,S,hl,hs,j,f,h=>by
  simp only[km]at hs;simp only[yw]at hl;have h1:=PU r (i+1) (S.set i (je S i g.b (ZR [] g.ps) (S.getD i []))) i J;rw[hs,ph J,wc rfl]at h1;cases j with
  |zero=>
   simp only[List.getElem?_cons_zero,x7]at h;subst h;exact h1.symm
  |succ j=>
   rw[<-h1,Ht]at hs;have:=PT r (i+1) S J hs j f (by simpa using h)
   rwa [show i+1+j=i+(j+1) by omega]at this
def zxs{j:Nat}{f:Fn}(h:c.fs[j]? =some f):je (jP c) j f.b (ZR [] f.ps) ((jP c).getD j [])=(jP c).getD j []:=by
 have:=PT c.fs 0 (jP c) (by rw[PS];omega) (PR c) j f h
 rwa [y8]at this
def fb{x:Int}:y∈WV l x↔y∈l\/y=x:=by
 unfold WV;split
 .rename_i h;exact⟨.inl,λh'=>h'.elim Y λe=>e▸h⟩
 .simp
def fe{y:Int}:∀{m l:zq},y∈ZR l m↔y∈l\/y∈m
 |[],l=>by simp[ZR]
 |x::r,l=>by simp only[ZR,fe (m:=r),fb,zul,or_assoc]
def jY{sc:zq}{x:Int}:∀{az:List Atm} {ow:zq},x∈vH sc ow az↔x∈ow\/∃a∈az,eqD a.k (.ofNat 1)=true/\a.n=x/\x∉sc
 |[],ow=>by simp[vH]
 | a::r,ow=>by
  simp only[vH,jY (az:=r),zul];cases e1:eqD a.k (.ofNat 1)with
  | false=>
   rw[wh];exact⟨λh=>h.imp Y λ⟨b,h⟩=>⟨b,.inr h.1,h.2⟩,λh=>h.imp Y λ⟨b,h,h2⟩=>by
    rcases h with rfl|h
    .rw[e1]at h2;cases h2.1
    .exact⟨b,h,h2⟩⟩
  | true=>
   rw[x6,ZU];constructor
   .rintro((h|⟨rfl,h⟩)|⟨b,h,h2⟩)
    .exact .inl h
    .exact .inr ⟨a,.inl rfl,e1,rfl,h⟩
    .exact .inr ⟨b,.inr h,h2⟩
   .rintro(h|⟨b,rfl|h,h2⟩)
    .exact .inl (.inl h)
    .exact .inl (.inr ⟨h2.2.1.symm,h2.2.1.symm▸h2.2.2⟩)
    .exact .inr ⟨b,h,h2⟩
def Ar{k v:Int}{sc g:zq}(h:∀y,y∈sc↔y∈g)(y:Int):y∈scB k v sc↔y∈(bif vG k then g++[v]else g):=by
 unfold scB;cases vG k with
 |true=>simp only[x6,fb,zuB,List.mem_singleton,h]
 |false=>exact h y
mutual
theorem sj{S:zc}{i:Nat}{x:Int}:∀{t:Trm} {sc g ow:zq},(∀y,y∈sc↔y∈g)->x∈je S i t sc ow->x∈ow\/fvT S x g t
 | .mk k v _ _ fn az ks,sc,g,ow,hg,h=>by
  simp only[je]at h;simp only[fvT];have hx:=not_congr (hg x);rcases cW (Ar hg) h with h|h
  .simp only[WU]at h;cases e:eqD k (.ofNat 2)with
   |false=>
    rw[e,wh,jY,hx]at h;exact h.imp Y λh=>.inl (.inl h)
   | true=>
    rw[e,x6]at h;split at h
    .rw[jY,hx]at h;exact h.imp Y λh=>.inl (.inl h)
    .rw[X3,jY,hx]at h;rcases h with (h|h)|h
     .exact .inl h
     .exact .inr (.inl (.inl h))
     .exact .inr (.inl (.inr ⟨rfl,h⟩))
  .exact .inr (.inr h)
theorem cW{S:zc}{i:Nat}{x:Int}:∀{ks:List Trm} {sc g ow:zq},(∀y,y∈sc↔y∈g)->x∈uQ S i ks sc ow->x∈ow\/VG S x g ks
 |[],_,_,_,_,h=>.inl h
 |t::r,sc,g,ow,hg,h=>by
  simp only[uQ]at h;simp only[VG];rcases sj hg h with h|h
  .exact(cW hg h).imp Y .inr
  .exact .inr (.inl h)
end
def Sb{x:Int}{t:Trm}{sc ow:zq}(h:x∈ow):x∈je S i t sc ow:=by
 obtain⟨z,e⟩:=Vg (S:=S) (i:=i) t sc ow;rw[e];exact zuR _ h
def cX{x:Int}{t:List Trm}{sc ow:zq}(h:x∈ow):x∈uQ S i t sc ow:=by
 obtain⟨z,e⟩:=Uo (S:=S) (i:=i) t sc ow;rw[e];exact zuR _ h
mutual
theorem sI{S:zc}{i:Nat}{x:Int}:∀{t:Trm} {sc g ow:zq},(∀y,y∈sc↔y∈g)->(x∈S.getD i []->x∈ow)->fvT S x g t->x∈je S i t sc ow
 | .mk k v _ _ fn az ks,sc,g,ow,hg,ho,h=>by
  simp only[fvT]at h;simp only[je];have hx:=not_congr (hg x);rcases h with h|h
  .apply cX;simp only[WU];cases e:eqD k (.ofNat 2)with
   |false=>
    rw[wh,jY,hx];rcases h with h|h
    .exact .inr h
    .rw[e]at h;cases h.1
   | true=>
    rw[x6];split
    .rename_i hi
     rw[jY,hx];rcases h with h|h
     .exact .inr h
     .rw[hi]at h;exact .inl (ho h.2.1)
    .rw[X3,jY,hx];rcases h with h|h
     .exact .inl (.inr h)
     .exact .inr h.2
  .refine ew (Ar hg) (λhh=>?_) h;have:∃z,WU S i k fn az sc ow=ow++z:=cV;obtain⟨z,e⟩:=this;rw[e];exact zuR _ (ho hh)
theorem ew{S:zc}{i:Nat}{x:Int}:∀{ks:List Trm} {sc g ow:zq},(∀y,y∈sc↔y∈g)->(x∈S.getD i []->x∈ow)->VG S x g ks->x∈uQ S i ks sc ow
 |[],_,_,_,_,_,h=>h.elim
 |t::r,sc,g,ow,hg,ho,h=>by
  simp only[VG]at h;simp only[uQ];rcases h with h|h
  .exact sI hg (λhh=>cX (ho hh)) h
  .exact Sb (ew hg ho h)
end
def zyn(l:zq)(y:Int):y∈ZR [] l↔y∈l:=by rw[fe];simp
def il{c:Cd}{x:Int}:∀(fs:List Fn) (i:Nat) (S:zc),(∀j f,fs[j]? =some f->c.fs[i+j]? =some f)->i+zM fs<=zM S->(∀j,x∈S.getD j []->x∈(jl c).getD j [])->∀j,x∈(km fs i S).getD j []->x∈(jl c).getD j []
 |[],_,_,_,_,h,j,hx=>h j hx
 | f::r,i,S,hf,hl,h,j,hx=>by
  simp only[km]at hx;simp only[yw]at hl;refine il r (i+1) _ (λj g hg=>by have:=hf (j+1) g (by simpa using hg);rwa [show i+(j+1)=i+1+j by omega]at this) (by simp only[List.length_set];omega) (λj hx=>?_) j hx
  rw[ph J]at hx;split at hx
  .rename_i e
   rcases sj (zyn f.ps) hx with hx|hx
   .rw[e];exact h _ hx
   .have h0:=hf 0 f rfl;rw[Nat.add_zero]at h0;have h1:(V6 c (jl c)).getD i []=usR (jl c) f.ps f.b []:=by rw[X8,h0]
    rw[PG]at h1;rw[e,h1];exact WI.2 (.inr (VE h hx))
  .exact h j hx
def PW(c:Cd){x:Int}:∀k j,x∈(itS c k).getD j []->x∈(jl c).getD j []
 |0,j,h=>by simp only[itS]at h;rw[Z3]at h;cases h
 |k+1,j,h=>il c.fs 0 (itS c k) (λj f h=>by rwa [y8]) (by rw[(pO c k).len];omega) (PW c k) j h
def PI(c:Cd){x:Int}:∀k j,x∈(rIt c k).getD j []->x∈(jP c).getD j []
 |0,j,h=>by rw[rIt,Z3]at h;cases h
 | k+1,j,h=>by
  rw[rIt,X8]at h;cases hf:c.fs[j]? with
  |none=>rw[hf]at h;cases h
  |some f=>
   rw[hf]at h;rcases WI.1 h with h|h
   .cases h
   .rw[<-zxs hf];exact sI (zyn f.ps) Y (VE (PI c k) h)
def PH(c:Cd)(j:Nat)(x:Int):x∈(jl c).getD j []↔x∈(jP c).getD j []:=⟨PI c _ j,PW c _ j⟩
def Hg(c:Cd)(j:Nat):decide (0<((jl c).getD j []).length)=decide (0<((jP c).getD j []).length):=by
 have:0<((jl c).getD j []).length↔0<((jP c).getD j []).length:=by
  rw[zuX,zuX];exact⟨λ⟨x,h⟩=>⟨x,(PH c j x).1 h⟩,λ⟨x,h⟩=>⟨x,(PH c j x).2 h⟩⟩
 exact decide_eq_decide.2 this
def CsR:zt->zc->Prop
 |[],[]=>True
 |v::r,l::q=>LiV v l/\CsR r q
 |_,_=>False
def CsR.len:∀{cs:zt} {S:zc},CsR cs S->zM cs=zM S
 |[],[],_=>rfl
 |_::_,_::_,h=>by simp only[CsR]at h;simp[h.2.len]
def CsR.css:∀{cs:zt} {S:zc},CsR cs S->CsS cs S
 |[],[],_,j,hj=>absurd hj (Nat.not_lt_zero _)
 |v::r,l::q,h,0,_=>⟨v,rfl,h.1⟩
 |v::r,l::q,h,j+1,hj=>h.2.css j (Nat.lt_of_succ_lt_succ hj)
def CsR.add:∀{cs:zt} {S:zc} {v:Z} {l:zq},CsR cs S->LiV v l->CsR (cs++[v]) (S++[l])
 |[],[],_,_,_,h=>⟨h,trivial⟩
 |_::_,_::_,_,_,h,g=>⟨h.1,h.2.add g⟩
def CsR.nils:∀n:Nat,CsR (reps n [.nils]) (zuY n [])
 |0=>trivial
 |n+1=>⟨.inr ⟨rfl,rfl⟩,CsR.nils n⟩
def CsR.fz:∀{cs:zt} {S:zc},CsR cs S->FzL s cs (xW vI S)
 |[],[],_=>by simp only[xW,FzL]
 |v::r,l::q,h=>by
  simp only[xW,vI,yd,zuc,FzL];refine⟨v,r,rfl,?_,h.2.fz⟩;simp only[qd,Fz];exact⟨wI qF _,.inl h.1.wk⟩
theorem zxv{fid:Nat}(h:CsR cs S)(hg:s.get fid=some (.row t cs)):Fz s (.sl fid 0 (List.length S) (.fix (List.length S))) (lQ S):=by
 simp only[lQ,Fz];refine⟨wI p8 _,.inr ⟨trivial,fid,0,_,t,cs,false,false,cs,rfl,zS _,hg,?_,h.fz⟩⟩;rw[qK Yl,xQ,<-h.len,Vk,qe];exact qg rfl
mutual
theorem Rk{S:zc}{M:Nat}(h:∀j,(S.getD j []).length<=M):∀t:Trm,usZ S t<=(gQ t).length+M*wN t
 |.mk k v op n fn az ks=>by
  have h1:=AH h ks;have h2:=h fn.toNat
  simp only[usZ,gQ,wN,yO,List.length_map,Nat.mul_add,xQ];omega
theorem AH{S:zc}{M:Nat}(h:∀j,(S.getD j []).length<=M):∀l:List Trm,bZ S l<=(pW l).length+M*qR l
 |[]=>yh _
 |t::r=>by
  have h1:=Rk h t;have h2:=AH h r;simp only[bZ,pW,qR,yO,Nat.mul_add];omega
end
structure SePre(c:Cd):Prop where
 n:zM c.fs<100000000
 f:∀f∈c.fs,SzT f.b/\cr (zM c.fs) f.b/\zM f.ps+wN f.b<1000000000/\(gQ f.b).length+(kE c).length *wN f.b<1000000000
def Mk:zt->U->zb:=vw qD SePre (λc=>lQ (jl c))
def zxY(c:Cd)(k j:Nat):((rIt c k).getD j []).length<=(kE c).length:=ZW (UZ c k j).nd (bD c k j)
section
variable {P:Program}{X:World}(B:Bx P X){O:Orc}(hO:OrcOk P X O)
include B hO
theorem Ow(hu:O 70=none)(hh:O 37=some eD)(hp:O 109=some sN)(hb:O 69=some Zi)(hs:O 71=some Mi)(c:Cd)(hc:SePre c):∃s1,SC P X 38 (qD c) (s00 0 true) (lQ (jl c)) s1:=by
 refine bew B hO f38 ?_;have hIL:=l8 c;have hIe:= @N0 c;have hIl:= @zxZ c;have hI1:∀k,rIt c (k+1)=c.fs.map λf=>usR (rIt c k) f.ps f.b []:=λ_=>rfl;have hle:=zxY c;have hI0:rIt c 0=zuY (zM c.fs) []:=rfl;obtain⟨hN,hf⟩:=hc;have hUS:∀k,∀f∈c.fs,∀(cs:zt) (fid:Nat) (L:za) (n:Nat),CsR cs (rIt c k)->fid<n->x3 L fid=some (.row 36 cs)->∃v,cl O 70 [.nils,q8 f.b,qd f.ps,.sl fid 0 (zM c.fs) (.fix (zM c.fs))] (KL L n 0 false)=some (v,KL L n 0 false)/\LiV v (usR (rIt c k) f.ps f.b []):=λk f hm cs fid L n h1 h2 h3=>by
  obtain⟨q1,q2,q3,q4⟩:=hf f hm;have hz:=Rk (hle k) f.b;have:=OE hu hh hp hb h1.css (by rw[hIL];omega) (wN f.b) f.b (zS _) q1 (by rw[hIL];exact q2) [] f.ps .nils (qd f.ps) (.inr ⟨rfl,rfl⟩) (.inl rfl) q3 (by simp only[xN];omega) L n 0 false h2 h3
  rw[hIL]at this;obtain⟨v,s,e,hv,rfl⟩:=this;exact⟨v,e,hv⟩
 have hSm:∀a b:zq,∀va vb,LiV va a->LiV vb b->zM a<=(kE c).length->zM b<=(kE c).length->∀s,c.fs≠[]->cl O 71 [va,vb] s=some (.bool (QD a b),s):=λa b va vb h1 h2 h3 h4 s h0=>by
  obtain⟨f,hm⟩:∃f,f∈c.fs:=by
   cases hh:c.fs with
   |nil=>exact absurd hh h0
   |cons f r=>exact⟨f,by simp⟩
  obtain⟨_,_,_,q4⟩:=hf f hm;have hn:=vd f.b;have:(kE c).length<=(kE c).length *wN f.b:=Nat.le_mul_of_pos_right _ hn;exact oc hs Uy (a,b) ⟨by simp only;omega,by simp only;omega⟩ (by simp only[gp,wkL,h1.wk,h2.wk]) s
 have hfz:∀(k:Nat) (cs:zt) (fid:Nat) (s:U),rIt c (k+1)=rIt c k->CsR cs (rIt c (k+1))->s.get fid=some (.row 36 cs)->Fz s (.sl fid 0 (zM c.fs) (.fix (zM c.fs))) (lQ (jl c)):=λk cs fid s h1 h2 h3=>by
  rw[h1,hIe h1]at h2;have:=zxv h2 h3
  rwa [show (jl c).length=(zM c.fs)from hIL _]at this
 have hnd:∀f∈c.fs,f.b=f.b:=λ_ _=>rfl;clear hh hp hb hs hu hf hnd;generalize hSS:jl c=SS at *;generalize hbd:pX c=bd at *;generalize rIt c=It at *;generalize (kE c).length=ul at *;clear hSS hbd hIe;obtain⟨fs,main,vars,globals,consts⟩:=c;simp only at hIL hIl hI1 hI0 hN hUS hSm hfz;unfold f38 cF;simp only[qD,vy,qi];have hms:=λl n m=> @tf l n m 36 24 (zM fs) false [] none [.nils] J J;refine xY ?_;refine xY ?_;apply x4;refine wq (λk:Nat=>bd+1-k) (λk f t=>∃T L n m fid cs,f=⟨tmL T,[]⟩/\t=KL L n m false/\G T 1 (.ptr 0 0)/\G T 3 (.sl fid 0 (zM fs) (.fix (zM fs)))/\WfA L n/\0<fid/\fid<n/\x3 L 0=some (.row 25 [.lst (zM fs) false (xW wD fs),main,vars,globals,.lst (zM consts) false (wy consts)])/\x3 L fid=some (.row 36 cs)/\CsR cs (It k)) (λk f t hI=>?_) 0 ⟨_,_,_,_,1,_,rfl,rfl,sW,sW,?_,J,J,sW,by simp (disch:=first|exact dis|fail)only[go_sem,seval,-rO,-rN];rfl,by rw[hI0];exact CsR.nils _⟩
 .obtain⟨T,L,n,m,fid,cs,rfl,rfl,t1,t3,hw,hf0,hfn,g0,gf,hcs⟩:=hI;apply x4;refine xY ?_;refine xY ?_;refine xU (xU (xX ?_));apply x4;refine wq (λx:Nat×Bool=>zM fs-x.1) (λx f t=>∃T L n2 m cn,f=⟨tmL T,[]⟩/\t=KL L n2 m false/\G T 1 (.ptr 0 0)/\G T 3 (.sl fid 0 (zM fs) (.fix (zM fs)))/\G T 4 (.bool x.2)/\G T 5 (.sl n 0 (zM fs) (.fix (zM fs)))/\G T 6 x.1/\x.1<=zM fs/\WfA L n2/\n<n2/\x3 L 0=some (.row 25 [.lst (zM fs) false (xW wD fs),main,vars,globals,.lst (zM consts) false (wy consts)])/\x3 L fid=some (.row 36 cs)/\x3 L n=some (.row 36 (cn++reps (zM fs-x.1) [.nils]))/\zM cn=x.1/\CsR cn ((It (k+1)).take x.1)/\(x.2=false->(It (k+1)).take x.1=(It k).take x.1)/\(x.2=true->It (k+1)≠It k)) (λx f t hI=>?_) (0,false) ⟨_,_,_,_,[],rfl,rfl,V,V,V,V,V,yh _,?_,yx _,by rw[gN J];exact g0,by rw[gN J];exact gf,by rw[x8];rfl,rfl,by simp[CsR],λ_=>by simp,λh=>by cases h⟩
  .obtain⟨T,L,n2,m,cn,rfl,rfl,t1,t3,t4,t5,t6,hi,hw,hn2,g0,gf,gn,hcl,hcn,hg0,hg1⟩:=hI;obtain⟨i,g⟩:=x;simp only at t4 t6 hi gn hcl hcn hg0 hg1|-;rcases wj fs i with ⟨hi2,hd⟩|⟨f,hi2,hd⟩
   .have hlt:¬i<zM fs:=J;have hie:i=zM fs:=J;rw[yb (by rw[hIL];omega)]at hcn hg0
    rw[yb (by rw[hIL];omega)]at hg0
    rw[show (zM fs)-i=0 by omega,show reps 0 [Z.nils]=[]from rfl,zv6]at gn
    subst hie;have hfin:=hfz k cn n;clear hfz hUS hSm hms hd;cases g with
    |true=>
     have hkl:=hIl (hg1 rfl);clear hfin hg0 hg1;refine xX ?_;refine xY ?_;refine xX ?_;exact⟨k+1,⟨_,L,n2,_,n,cn,rfl,rfl,V,V,hw,J,hn2,g0,gn,hcn⟩,J⟩
    |false=>
     have h1:=hg0 rfl;have hf2:=λs hs=>hfin s h1 hcn hs;clear hfin hg0 hg1;refine xX ?_;refine xY ?_;refine ev_zc ?_;exact hf2 _ (by rw[wM];exact gn)
   .have hmem:f∈fs:=zv9 (by rw[hd];simp)
    have hcf:=lg hd;obtain⟨uv,hcall,huv⟩:=hUS k f hmem cs fid L n2 hcs J gf;obtain⟨fv,hcf2,hfv⟩:=hcs.css i (by rw[hIL];exact hi2)
    have hat:(It (k+1)).getD i []=usR (It k) f.ps f.b []:=by
     rw[hI1,xD,List.getElem?_map,show fs[i]? =some f by rw[<-zu0,hd];rfl];rfl
    have hgt:∀kk,(It kk).take (i+1)=(It kk).take i++[(It kk).getD i []]:=λkk=>by
     have:i<(It kk).length:=by rw[hIL];exact hi2
     rw[List.take_add_one,yU this,xD,yU this];rfl
    have hsm:=λs=>hSm _ _ uv fv huv hfv (by rw[<-hat];exact hle _ _) (hle _ _) s (λe=>by rw[e]at hmem;cases hmem)
    have hcn2:=hcn.add huv;rw[<-hat]at hcn2 hsm;rw[<-hgt]at hcn2;have hp:jk (cn++reps (zM fs-i) [.nils]) i [uv]=some ((cn++[uv])++reps (zM fs-(i+1)) [.nils]):=by
     rw[show (zM fs)-i=(zM fs-(i+1))+1 by omega,zyx]
     have:= @WM cn [.nils] (reps (zM fs-(i+1)) [.nils]) [uv] i hcl rfl;simp only[List.singleton_append]at this;rw[this,zux];rfl
    have hcu:wE 1 (wX i ((cn++[uv])++reps (zM fs-(i+1)) [.nils]))=some [uv]:=by
     rw[zux,qe,List.drop_left' hcl];rfl
    have hsu:=huv.sc;simp only[vV]at hsu;have hsc:uv.cells=[uv]:=by rcases huv with rfl|⟨rfl,_⟩<;>rfl
    have hge:QD ((It (k+1)).getD i []) ((It k).getD i [])=true->g=false->(It (k+1)).take (i+1)=(It k).take (i+1):=λh1 h2=>by
     rw[hgt,hgt,hg0 h2,Vv.1 h1]
    have hgn:QD ((It (k+1)).getD i []) ((It k).getD i [])=false->It (k+1)≠It k:=λh1 e=>by
     rw[e,Vv.2 rfl]at h1;cases h1
    generalize QD ((It (k+1)).getD i []) ((It k).getD i [])=eb at *;have hcl2:(cn++[uv]).length=i+1:=by simp[hcl]
    generalize cn++[uv]=cn2 at *;obtain⟨ps,rest,cont,fr,b⟩:=f;obtain⟨bk,bv,bop,bn,bf,bas,bks⟩:=b;simp only[wD,wl,qd,yd,zuc]at hcf;simp only[q8,wl,qd]at hcall;have hcs2:=hcs;clear hUS hSm hfz hms hd hat hgt hcs huv hfv hcn hg0;cases g with
    |true=>
     have hh:=hg1 rfl;clear hg1 hge hgn;refine xX ?_;exact⟨(i+1,true),⟨_,_,n2,_,cn2,rfl,rfl,V,V,V,V,V,by simp only;omega,WfA.same hw J,hn2,by rw[gN J];exact g0,by rw[gN J];exact gf,x8 _ _ _,hcl2,hcn2,(λh=>by cases h),λ_=>hh⟩,by simp only;omega⟩
    |false=>
     clear hg1;refine xX ?_;exact⟨(i+1, !eb),⟨_,_,n2,_,cn2,rfl,rfl,V,V,V,V,V,by simp only;omega,WfA.same hw J,hn2,by rw[gN J];exact g0,by rw[gN J];exact gf,x8 _ _ _,hcl2,hcn2,(λh=>hge (by simpa using h) rfl),λh=>hgn (by simpa using h)⟩,by simp only;omega⟩
  .exact hw.cons (yx _) (zuC _)
 .exact λj hj=>by rw[gN J,gN J];rfl
end
def pG(l:zq):zt:=[qd l]
def Bz:∀x y,pG x=pG y->x=y:=λa b h=>by
 simp only[pG,qJ,and_true]at h;exact lz h
def nj(l:zq):wo (pG l)=true:=by simp only[pG,ww,jE,wA,xO]
def Kx(l:zq):Prop:=zM l<1000000000
def GTr(l:zq)(v:Z):Prop:=∃q:zq,v=qd q/\q.length<=zM l
def pF(x:Bool×zq):zt:=[.bool x.1,qd x.2]
def Bv:∀x y,pF x=pF y->x=y:=λ⟨a,b⟩ ⟨c,d⟩ h=>by
 simp only[pF,qJ,and_true,Z.bool.injEq]at h;rw[h.1,lz h.2]
def mX(x:Bool×zq):wo (pF x)=true:=by simp only[pF,ww,jE,wA,uO,xO]
def pp(x:Bool×zq):Prop:=zM x.2<1000000000
def nmV(b:Bool)(l:zq):Z:=.agg [.bool b,qd l]
def X4(b:Bool)(l:zq):wC (nmV b l)=true:=by simp only[nmV,uC,ww,uO,jE,wA,xO]
def bi(b:Bool)(l:zq):wkV (nmV b l)=nmV b l:=by simp only[nmV,wkV,wkL,Zl]
def zyk(b:Bool)(l:zq):Fz s (nmV b l) (nmV b l):=GE (qa (qj _ _) (qa (pK (wI qF l) (vT px l)) js))
def GNm(x:Bool×zq)(v:Z):Prop:=∃b q,v=nmV b q/\q.length<=zM x.2
def GPs(s:zr)(v:Z):Prop:=∃b q e,v=.tup [nmV b q,e]/\q.length<=zM s
section
variable {P:Program}{X:World}(B:Bx P X){O:Orc}(hO:OrcOk P X O)
include B hO
attribute [local go_sem] qd pG in
def OC:vW P X 207 pG Kx GTr:=by
 intro l hl;have hl:zM l<1000000000:=hl;refine beX B hO f207 ?_;have hsl:=λk (h:k<=zM l)=>OW l h;have hfin:∀(k:Nat) (s:U),∃v,GTr l v/\wC v=true/\Fz s (.lst (l.take k).length false (xW wg (l.take k))) v:=λk s=>⟨_,⟨l.take k,rfl,by rw[zue];omega⟩,jE _,pK (wI qF _) (vT px _)⟩
 unfold f207 cF;simp only;refine xY ?_;refine xY ?_;refine xU (x4 ?_);refine wq (λk:Nat=>k) (λk f t=>∃T L n m,f=⟨tmL T,[]⟩/\t=KL L n m true/\G T 0 (.lst (zM l) false (xW wg l))/\G T 3 k/\k<=zM l) (λk f t hI=>?_) (zM l) ⟨_,_,_,_,rfl,rfl,sW,sW,zS _⟩;obtain⟨T,L,n,m,rfl,rfl,t0,t3,hk⟩:=hI;have hs:=hsl k hk;have hf:=hfin k;have hpl:=wI qF (l.take k);clear hsl hfin;generalize l.take k=q at *;generalize xW wg q=cq at *;cases k with
 |zero=>
  refine xX ?_;refine ev_zc ?_;exact hf _
 | succ k=>
  obtain⟨x,hd⟩:∃x,l.drop k=x::l.drop (k+1):=⟨_,zuo J⟩;have hc:=uz hd;have hlt:k<zM l:=J;have hgt:0<k+1:=J;clear hd;cases e:eqD x (.ofNat 0)with
  |true=>
   clear hs hf hpl;refine xX ?_;exact⟨k,⟨_,L,n,_,rfl,rfl,V,V,J⟩,J⟩
  |false=>
   refine xX ?_;refine ev_zc ?_;exact hf _
attribute [local go_sem] qd pF pG in
def Ol(h207:O 207=some (uM P X 207 pG Kx GTr))(ht:vW P X 207 pG Kx GTr):vW P X 188 pF pp GNm:=by
 intro x hx;obtain⟨g,l⟩:=x;have hl:zM l<1000000000:=hx;refine beX B hO f188 ?_;obtain⟨v,⟨q,rfl,hq⟩,hp,hcall⟩:=vS h207 ht Bz l hl (args:=[qd l]) (by simp only[wkL,Zl,pG])
 have hfin:∀(b:Bool) (s:U),∃v,GNm (g,l) v/\wC v=true/\Fz s (nmV b q) v:=λb s=>⟨_,⟨b,q,rfl,hq⟩,X4 b q,zyk b q⟩;have hpl:=wI qF q;simp only[nmV,qd]at hcall hfin;unfold f188 cF;simp only;generalize xW wg q=cq at *;cases g with
 |true=>
  refine ev_zc ?_;exact hfin _ _
 |false=>
  refine ev_zc ?_;exact hfin _ _
end
def oG:ICode:=match f165.body with
 |.seq _ (.seq _ (.seq _ (.seq _ b)))=>b
 |_=>.skip
def zxU{s:zr}{st:U}:∃v,GPs s v/\wC v=true/\Fz st (.tup [.agg [.bool false,.nils],(4:Nat)]) v:=by
 refine⟨.tup [nmV false [],(4:Nat)],⟨false,[],_,rfl,yh _⟩,rfl,?_⟩;simp only[Fz];exact⟨_,rfl,qa (GE (qa (qj _ _) (qa lY js))) (qa (wT _ _ _) js)⟩
def T8{s:zr}(b:Bool)(q:zq)(st:U)(hq:q.length<=List.length s):∃v,GPs s v/\wC v=true/\Fz st (.tup [.agg [.bool b,.lst q.length false (xW wg q)],(0:Nat)]) v:=by
 refine⟨.tup [nmV b q,(0:Nat)],⟨b,q,_,rfl,hq⟩,by simp only[uD,ww,X4,qL,wA,xO],?_⟩
 simp only[Fz];exact⟨_,rfl,qa (zyk b q) (qa (wT _ _ _) js)⟩
def dn:Nat->Int
 |0=>.negSucc 0
 |k+1=>.ofNat k
theorem Ge{k:Nat}(h:k<9223372036854775808):vK .i64 (Int.sub (.ofNat k) (.ofNat 1))=dn k:=by
 cases k with
 |zero=>rfl
 |succ k=>
  rw[Hz J,Nat.add_sub_cancel,YR J];rfl
theorem zyV(h:1<=k):dn k=.ofNat (k-1):=by
 cases k with
 |zero=>omega
 |succ k=>rfl
theorem sX{s:zr}{c:Nat}{r:zr}(h:s.drop i=c::r):eK s i=some c:=by
 rw[Kf,<-zu0,h];rfl
section
variable {P:Program}{X:World}{O:Orc}
attribute [local go_sem] qd in
def CX(h188:O 188=some (uM P X 188 pF pp GNm))(hm:vW P X 188 pF pp GNm){s:zr}(hby:Byt s)(hlen:zM s<2000000){T:List (Nat×Z)}{fi:Nat}{b:Bool}(t0:G T 0 (.str s))(t2:G T 2 (.ptr 0 0))(t4:G T 4 (.bool b))(t5:G T 5 fi)(hfi:fi<=zM s):
  Ev (evC env (evW env O) none oG ⟨tmL T,[]⟩ (KL [(0,some (.row 196 [.bool false,.nils]))] 1 0 true)) λr fr t=>Cv (Xd (KL [] 0 0 true) (qv env.globs [RV.cn 2 2,RV.t 3] (some (r,fr,t)))) λv0 s1=>∃v,GPs s v/\wC v=true/\Fz s1 v0 v:=by
 have hgd:=λb q st h=> @T8 s b q st h;have hbd:=λst=> @zxU s st;unfold oG f165 cF;simp only;by_cases hf:zM s=fi
 .clear hgd;refine ev_zc ?_;exact hbd _
 have hlt:fi<zM s:=J;refine xY ?_;refine xY ?_;refine xU (xU (xX ?_));apply x4;refine wq (λk:Nat=>k) (λk f t=>∃T L n m Y l,f=⟨tmL T,[]⟩/\t=KL L n m true/\G T 0 (.str s)/\G T 2 (.ptr 0 0)/\G T 4 (.bool b)/\G T 5 fi/\G T 6 (kA wg 1 Y l)/\G T 7 (.int .i64 (dn k))/\k<=zM s/\zM l+k<=zM s/\1<=n/\x3 L 0=some (.row 196 [.bool false,.nils])/\Jb 3 wg L n Y l) (λk f t hI=>?_) (zM s) ⟨_,_,_,_,0,[],rfl,rfl,V,V,V,V,by simp (disch:=first|exact dis|fail)only[go_sem,seval,-rO,-rN,kA],by simp (disch:=first|exact dis|fail)only[go_sem,seval,-rO,-rN, *,zyV],zS _,by simp,J,sW,λh=>absurd rfl h⟩
 clear t0 t2 t4 t5;obtain⟨T,L,n,m,Y,l,rfl,rfl,t0,t2,t4,t5,t6,t7,hk,hlk,hn,g0,hok⟩:=hI;have hend:∃v,(∃b q,v=nmV b q/\q.length<=zM l)/\wC v=true/\∀s,cl O 188 [.bool b,kA wg 1 Y l] s=some (v,s):=vS h188 hm Bv (b,l) (show (zM l)<1000000000 by omega) (by simp only[pF,wkL,wkV,rY])
 cases k with
 |zero=>
  simp only[dn]at t7;obtain⟨v,⟨b2,q,rfl,hq⟩,hp,hcall⟩:=hend;have hg2:=λst=>hgd b2 q st J;have hpl:=wI qF q;simp only[nmV,qd]at hcall;clear hbd hgd hok;generalize xW wg q=cq at *;refine xX ?_;refine ev_zc ?_;exact hg2 _
 | succ k=>
  simp only[dn]at t7;by_cases hkf:k<fi
  .obtain⟨v,⟨b2,q,rfl,hq⟩,hp,hcall⟩:=hend;have hg2:=λst=>hgd b2 q st J;have hpl:=wI qF q;simp only[nmV,qd]at hcall;clear hbd hgd hok;generalize xW wg q=cq at *;refine xX ?_;refine ev_zc ?_;exact hg2 _
  .clear hend hgd;obtain⟨c,hd⟩:∃c,s.drop k=c::s.drop (k+1):=⟨_,zuo J⟩;have hg:=sX hd;have hc:c<256:=hby c (zv9 (by rw[hd];exact zua))
   have hb2:=hbd;clear hd hbd;by_cases h1:c<48
   .clear hok;refine ev_zc ?_;exact hb2 _
   by_cases h2:57<c
   .clear hok;refine ev_zc ?_;exact hb2 _
   clear hb2;have h48:48<=c:=J;have hwr:= @Ge k J;refine xY ?_;refine xU (x4 ?_);refine xY ?_;refine wi ?_;refine xZ (hZ (ws:=[.ofNat (c-48)]) (e:=true) qm qF vq J hok (by simp only[yw,xN];omega) (by simp only[yw,xN];omega)) λv t hv=>?_
   obtain⟨id2,L2,n2,m2,rfl,rfl,hok2,hn2,hid2,hfr⟩:=hv;have g02:=(hfr 0 J λh e=>by have:=(hok h).2;rw[<-e,g0]at this;cases this).trans g0
   clear hfr hok g0;refine xX ?_;refine xX ?_;exact⟨k,⟨_,L2,n2,_,id2,l++[.ofNat (c-48)],rfl,rfl,V,V,V,V,V,V,J,by simp only[yO,yw,xN];omega,J,g02,hok2⟩,J⟩
end
section
variable {P:Program}{X:World}(B:Bx P X){O:Orc}(hO:OrcOk P X O)
include B hO
attribute [local go_sem] kh GK in
def Dy(h188:O 188=some (uM P X 188 pF pp GNm))(hm:vW P X 188 pF pp GNm):vW P X 165 kh lF GPs:=by
 intro s hs;obtain⟨hby,hlen⟩:=hs;refine beX B hO f165 ?_;have hE:=λ{T:List (Nat×Z)} {fi:Nat} {b:Bool} t0 t2 t4 t5 hfi=> @CX P X O h188 hm s hby hlen T fi b t0 t2 t4 t5 hfi;unfold oG at hE;unfold f165 cF at hE|-;simp only at hE|-;cases s with
 |nil=>
  refine xY ?_;refine xY ?_;refine xY ?_;refine xY ?_;exact hE (fi:=0) (b:=false) sW sW sW sW (by simp)
 | cons c q=>
  by_cases h1:c=45
  .subst h1;refine xY ?_;refine xY ?_;refine xY ?_;refine xY ?_;exact hE (fi:=1) (b:=true) sW sW sW sW (by simp)
  .by_cases h2:c=43
   .subst h2;refine xY ?_;refine xY ?_;refine xY ?_;refine xY ?_;exact hE (fi:=1) (b:=false) sW sW sW sW (by simp)
   .refine xY ?_;refine xY ?_;refine xY ?_;refine xY ?_;exact hE (fi:=0) (b:=false) sW sW sW sW (by simp)
end
def lT{α:Type}(_:α)(v:Z):Prop:=∃z,v=.int .i64 z
def GL{α:Type}{x:α}(z:Int):∃v,lT x v/\wC v=true/\Fz s (.int .i64 z) v:=⟨_,⟨z,rfl⟩,rfl,wT _ _ _⟩
def GBo{α:Type}(_:α)(v:Z):Prop:=∃z,v=.bool z
def sP{α:Type}{x:α}(z:Bool):∃v,GBo x v/\wC v=true/\Fz s (.bool z) v:=⟨_,⟨z,rfl⟩,rfl,qj _ _⟩
def lO(x:Bool×zq):zt:=[nmV x.1 x.2]
def Kg{c:Bool}{r:zq}(h:nmV b l=nmV c r):b=c/\l=r:=by
 simp only[nmV,Z.agg.injEq,qJ,Z.bool.injEq,and_true]at h;exact⟨h.1,lz h.2⟩
def BC:∀x y,lO x=lO y->x=y:=λ⟨a,b⟩ ⟨c,d⟩ h=>by
 simp only[lO,qJ,and_true]at h;obtain⟨h1,h2⟩:=Kg h;rw[h1,h2]
def np(x:Bool×zq):wo (lO x)=true:=by simp only[lO,ww,X4,wA,xO]
abbrev Nm:=Bool×zq
def Ze(x:Nm×Nm):zt:=[nmV x.1.1 x.1.2,nmV x.2.1 x.2.2]
def LH:∀x y,Ze x=Ze y->x=y:=λ⟨⟨a,b⟩,c,d⟩ ⟨⟨e,f⟩,g,i⟩ h=>by
 simp only[Ze,qJ,and_true]at h;obtain⟨h1,h2⟩:=Kg h.1;obtain⟨h3,h4⟩:=Kg h.2;rw[h1,h2,h3,h4]
def nq(x:Nm×Nm):wo (Ze x)=true:=by simp only[Ze,ww,X4,wA,xO]
def Lc(x:Nm×Nm):Prop:=zM x.1.2<1000000000/\zM x.2.2<1000000000
def lP(x:Nm×zr×zr):zt:=[nmV x.1.1 x.1.2,.str x.2.1,.str x.2.2]
def BD:∀x y,lP x=lP y->x=y:=λ⟨⟨a,b⟩,c,d⟩ ⟨⟨e,f⟩,g,i⟩ h=>by
 simp only[lP,qJ,and_true,Z.str.injEq]at h;obtain⟨h1,h2⟩:=Kg h.1;rw[h1,h2,h.2.1,h.2.2]
def nr(x:Nm×zr×zr):wo (lP x)=true:=by simp only[lP,ww,X4,pm,wA,xO]
def Ky(x:Nm×zr×zr):Prop:=zM x.1.2<1000000000/\lF x.2.1/\lF x.2.2
section
variable {P:Program}{X:World}(B:Bx P X){O:Orc}(hO:OrcOk P X O)
include B hO
attribute [local go_sem] qd gp in
def Dv:vW P X 216 gp Q7 lT:=by
 intro x hx;obtain⟨a,b⟩:=x;obtain⟨ha,hb⟩:=hx;simp only at ha hb;refine beX B hO f216 ?_;have hfin:∀z s,∃v,lT (a,b) v/\wC v=true/\Fz s (.int .i64 z) v:=λz s=>GL z;unfold f216 cF;simp only;refine xY ?_;by_cases hl:zM a=zM b
 .refine xY ?_;refine xU (xU (xX ?_));apply x4;refine wq (λk:Nat=>k) (λk f t=>∃T L n m,f=⟨tmL T,[]⟩/\t=KL L n m true/\G T 0 (.lst (zM a) false (xW wg a))/\G T 1 (.lst (zM b) false (xW wg b))/\G T 5 (.int .i64 (dn k))/\k<=zM a) (λk f t hI=>?_) (zM a) ⟨_,_,_,_,rfl,rfl,V,V,by simp (disch:=first|exact dis|fail)only[go_sem,seval,-rO,-rN, *,Ge],zS _⟩
  obtain⟨T,L,n,m,rfl,rfl,t0,t1,t5,hk⟩:=hI;cases k with
  |zero=>
   simp only[dn]at t5;refine xX ?_;refine ev_zc ?_;exact hfin _ _
  | succ k=>
   simp only[dn]at t5;obtain⟨x,hd⟩:∃x,a.drop k=x::a.drop (k+1):=⟨_,zuo J⟩;obtain⟨y,hd2⟩:∃y,b.drop k=y::b.drop (k+1):=⟨_,zuo J⟩;have hc:=uz hd;have hc2:=uz hd2;have hlt:k<zM a:=J;have hlt2:k<zM b:=J;have hwr:= @Ge k J;clear hd hd2;cases e:eqD x y with
   |true=>
    clear hfin;refine xX ?_;exact⟨k,⟨_,L,n,_,rfl,rfl,V,V,V,J⟩,J⟩
   | false=>
    cases e2:ltD x y with
    |true=>
     refine ev_zc ?_;exact hfin _ _
    |false=>
     refine ev_zc ?_;exact hfin _ _
 .by_cases h2:zM a<zM b
  .refine ev_zc ?_;exact hfin _ _
  .refine ev_zc ?_;exact hfin _ _
attribute [local go_sem] Ze nmV qd in
def zza(h216:O 216=some (uM P X 216 gp Q7 lT))(ho:vW P X 216 gp Q7 lT):vW P X 208 Ze Lc lT:=by
 intro x hx;obtain⟨⟨g,a⟩,h,b⟩:=x;obtain⟨ha,hb⟩:=hx;simp only at ha hb;obtain⟨v,⟨z,rfl⟩,_,hc1⟩:=vS h216 ho Uy (a,b) ⟨ha,hb⟩ (args:=[qd a,qd b]) (by simp only[gp,wkL,Zl])
 obtain⟨v,⟨y,rfl⟩,_,hc2⟩:=vS h216 ho Uy (b,a) ⟨hb,ha⟩ (args:=[qd b,qd a]) (by simp only[gp,wkL,Zl])
 simp only[qd]at hc1 hc2;refine beX B hO f208 ?_;have hfin:∀z s,∃v,lT ((g,a),(h,b)) v/\wC v=true/\Fz s (.int .i64 z) v:=λz s=>GL z;unfold f208 cF;simp only;cases g<;>cases h
 all_goals
  refine ev_zc ?_;exact hfin _ _
attribute [local go_sem] lP nmV qd in
def ru(h165:O 165=some (uM P X 165 kh lF GPs))(hps:vW P X 165 kh lF GPs)(h208:O 208=some (uM P X 208 Ze Lc lT))(hcm:vW P X 208 Ze Lc lT):vW P X 189 lP Ky GBo:=by
 intro x hx;obtain⟨⟨g,a⟩,s,t⟩:=x;obtain⟨ha,hs,ht⟩:=hx;simp only at ha hs ht;obtain⟨v,⟨b1,q1,e1,rfl,hq1⟩,_,hc1⟩:=vS h165 hps pH s hs (args:=[.str s]) rfl;obtain⟨v,⟨b2,q2,e2,rfl,hq2⟩,_,hc2⟩:=vS h165 hps pH t ht (args:=[.str t]) rfl;have l1:=hs.2;have l2:=ht.2;obtain⟨v,⟨z,rfl⟩,_,hc3⟩:=vS h208 hcm LH ((g,a),(b1,q1)) ⟨ha,by simp only;omega⟩ (args:=[nmV g a,nmV b1 q1]) (by simp only[Ze,wkL,bi])
 obtain⟨v,⟨y,rfl⟩,_,hc4⟩:=vS h208 hcm LH ((g,a),(b2,q2)) ⟨ha,by simp only;omega⟩ (args:=[nmV g a,nmV b2 q2]) (by simp only[Ze,wkL,bi])
 simp only[nmV,qd]at hc1 hc2 hc3 hc4;refine beX B hO f189 ?_;have hfin:∀z s',∃v,GBo ((g,a),s,t) v/\wC v=true/\Fz s' (.bool z) v:=λz s=>sP z;unfold f189 cF;simp only;cases h1:ltD z (.ofNat 0)<;>cases h2:ltD (.ofNat 0) y
 all_goals
  refine ev_zc ?_;exact hfin _ _
attribute [local go_sem] lO nmV qd in
def DB:vW P X 190 lO pp lT:=by
 intro x hx;obtain⟨g,a⟩:=x;have ha:zM a<1000000000:=hx;refine beX B hO f190 ?_;have hfin:∀z s,∃v,lT (g,a) v/\wC v=true/\Fz s (.int .i64 z) v:=λz s=>GL z;unfold f190 cF;simp only;refine xY ?_;refine xY ?_;refine xU (xU (xX ?_));apply x4;refine wq (λk:Nat=>k) (λk f t=>∃T L n m z,f=⟨tmL T,[]⟩/\t=KL L n m true/\G T 1 (.ptr 0 0)/\G T 3 (.int .i64 z)/\G T 4 (.int .i64 (dn k))/\k<=zM a/\x3 L 0=some (.row 196 [.bool g,.lst (zM a) false (xW wg a)])) (λk f t hI=>?_) (zM a) ⟨_,_,_,_,_,rfl,rfl,V,by simp (disch:=first|exact dis|fail)only[go_sem,seval,-rO,-rN, *];rfl,by simp (disch:=first|exact dis|fail)only[go_sem,seval,-rO,-rN, *,Ge],zS _,sW⟩
 obtain⟨T,L,n,m,z,rfl,rfl,t1,t3,t4,hk,g0⟩:=hI;obtain⟨w,hw⟩:∃w,vUn .neg (.int .i64 z)=some (.int .i64 w):=⟨_,rfl⟩;cases k with
 | zero=>
  simp only[dn]at t4;cases g with
  |true=>
   refine xX ?_;refine ev_zc ?_;exact hfin _ _
  |false=>
   refine xX ?_;refine ev_zc ?_;exact hfin _ _
 |succ k=>
  simp only[dn]at t4;obtain⟨x,hd⟩:∃x,a.drop k=x::a.drop (k+1):=⟨_,zuo J⟩;have hc:=uz hd;have hlt:k<zM a:=J;have hwr:= @Ge k J;clear hd hfin hw;refine xX ?_;exact⟨k,⟨_,L,n,_,_,rfl,rfl,V,by simp (disch:=first|exact dis|fail)only[go_sem,seval,-rO,-rN, *];rfl,V,J,g0⟩,J⟩
end
def Vt(l:List Vl):zt:=[qB l]
def UP{a b:List Vl}(h:qB a=qB b):a=b:=by
 simp only[qB,Z.lst.injEq,true_and]at h;exact eo h.2
def BH:∀x y,Vt x=Vt y->x=y:=λa b h=>by
 simp only[Vt,qJ,and_true]at h;exact UP h
def nx(l:List Vl):wo (Vt l)=true:=by simp only[Vt,ww,kO,wA,xO]
def zz9(l:List Vl):Prop:=zM l<1000000000
def Zf(x:List Vl×List Vl):zt:=[qB x.1,qB x.2]
def BI:∀x y,Zf x=Zf y->x=y:=λ⟨a,b⟩ ⟨c,d⟩ h=>by
 simp only[Zf,qJ,and_true]at h;rw[UP h.1,UP h.2]
def ny(x:List Vl×List Vl):wo (Zf x)=true:=by simp only[Zf,ww,kO,wA,xO]
def Kz(x:List Vl×List Vl):Prop:=zM x.1<1000000000/\zM x.2<1000000000
def eC:zt->U->zb:=vw Vt zz9 qB
section
variable {P:Program}{X:World}(B:Bx P X){O:Orc}(hO:OrcOk P X O)
include B hO
attribute [local go_sem] kh qB in
def Dj(h137:O 137=some XQ)(t:zr)(hp:lF t):∃s1,SC P X 168 (kh t) (s00 0 true) (qB (jq t)) s1:=by
 refine be B hO f168 ?_;have hcc:=λs=>Yq (f:=137) h137 hp.1 hp.2 s;have hlen:=hp.2;have hcr:∃l er,jH t=.tup [.lst (zM l) false (jp l),.int .i64 (.ofNat er)]/\jq t=l.map (λc=>⟨.ofNat 2,.ofNat c⟩)/\zM l<=t.length:=by
  unfold jH jq;cases h:vP t with
  |none=>exact⟨[],4,rfl,rfl,by simp⟩
  |some l=>exact⟨l,0,rfl,rfl,Qt h⟩
 obtain⟨l,er,h1,h2,hl⟩:=hcr;rw[h1]at hcc;rw[h2];obtain⟨R,hR⟩:∃R,l.map (λc=>(⟨.ofNat 2,.ofNat c⟩:Vl))=R:=⟨_,rfl⟩;rw[hR];clear h1 h2;unfold f168 cF;simp only[kh,qB];refine xY ?_;refine xY ?_;refine xY ?_;refine xU (xU (xX ?_));apply x4;refine wq (λx:Nat×List Vl=>zM l-x.1) (λx f t=>∃T L n m Y,f=⟨tmL T,[]⟩/\t=KL L n m true/\G T 3 (kA wa 2 Y x.2)/\G T 4 (.lst (zM l) false (jp l))/\G T 6 x.1/\x.1<=zM l/\zM x.2=x.1/\Jb 163 wa L n Y x.2/\x.2++(l.drop x.1).map (λc=>⟨.ofNat 2,.ofNat c⟩)=R) (λx f t hI=>?_) (0,[]) ⟨_,_,_,_,0,rfl,rfl,by simp (disch:=first|exact dis|fail)only[go_sem,seval,-rO,-rN,kA],sW,sW,yh _,rfl,λh=>absurd rfl h,hR⟩
 clear hR;obtain⟨T,L,n,m,Y,rfl,rfl,t3,t4,t6,hi,hol,hok,hR⟩:=hI;obtain⟨i,out⟩:=x;simp only at t3 t6 hi hol hok hR|-;rcases wj l i with ⟨hlt,hd⟩|⟨x,hlt,hd⟩
 .have hni:¬i<zM l:=J;rw[hd]at hR;simp only[List.map_nil,zv6]at hR;subst hR;obtain⟨v0,hf,hz⟩:=VH (esz:=2) (Y:=Y) (s:=KL [] 0 0 true) jU Wr out;refine xX ?_;refine xX ?_;refine qz ?_;exact hz
 .have hcx:=zyd hd;rw[hd,zY]at hR;refine xY ?_;refine xU (x4 ?_);refine wi ?_;refine xZ (hZ ud jU jV J hok (ws:=[⟨.ofNat 2,.ofNat x⟩]) (e:=true) (by simp only[yw,xN];omega) (by simp only[yw,xN];omega)) λv t hv=>?_
  obtain⟨id2,L2,n2,m2,rfl,rfl,q1,_⟩:=hv;refine xX ?_;refine xX ?_;exact⟨(i+1,out++[⟨.ofNat 2,.ofNat x⟩]),⟨_,_,_,_,id2,rfl,rfl,V,V,V,by simp only;omega,by simp only[yO,yw,xN];omega,q1,by rw[zux];exact hR⟩,by simp only;omega⟩
attribute [local go_sem] Vt qB in
def zzb(l:List Vl)(hl:zz9 l):∃s1,SC P X 193 (Vt l) (s00 0 true) (qB l) s1:=by
 have hl:zM l<1000000000:=hl;refine be B hO f193 ?_;unfold f193 cF;simp only;refine xY ?_;refine xY ?_;refine xU (wi ?_);refine xZ (hZ (Y:=0) (vs:=[]) (e:=false) ud jU jV J (λh=>absurd rfl h) (by simp only[xN];omega) (by simp only[xN];omega)) λv t hv=>?_
 obtain⟨id1,L1,n1,m1,rfl,rfl,ok1,_⟩:=hv;rw[zuc];obtain⟨v0,hf,hz⟩:=VH (esz:=2) (Y:=id1) (s:=KL [] 0 0 true) jU Wr l;refine xX ?_;refine ev_zc ?_;exact hz
attribute [local go_sem] Zf qB in
def DA:vW P X 192 Zf Kz GBo:=by
 intro x hx;obtain⟨a,b⟩:=x;obtain⟨ha,hb⟩:=hx;simp only at ha hb;refine beX B hO f192 ?_;have hfin:∀z s,∃v,GBo (a,b) v/\wC v=true/\Fz s (.bool z) v:=λz s=>sP z;unfold f192;simp only[Ko,Kd,Ki];refine xY ?_;by_cases hl:zM a=zM b
 .refine xY ?_;refine xU (xU (xX ?_));apply x4;refine wq (λi:Nat=>zM a-i) (λi f t=>∃T L n m,f=⟨tmL T,[]⟩/\t=KL L n m true/\G T 0 (.lst (zM a) false (xW wa a))/\G T 1 (.lst (zM b) false (xW wa b))/\G T 5 i/\i<=zM a) (λi f t hI=>?_) 0 ⟨_,_,_,_,rfl,rfl,V,V,sW,yh _⟩;obtain⟨T,L,n,m,rfl,rfl,t0,t1,t5,hi⟩:=hI;rcases wj a i with ⟨hlt,hd⟩|⟨x,hlt,hd⟩
  .have hni:¬i<zM a:=J;clear hd;refine xX ?_;refine ev_zc ?_;exact hfin _ _
  .obtain⟨y,hd2⟩:∃y,b.drop i=y::b.drop (i+1):=⟨_,zuo J⟩;have hc1:=Xo hd;have hc2:=Xo hd2;obtain⟨x1,x2⟩:=x;obtain⟨y1,y2⟩:=y;simp only[wa]at hc1 hc2;have hlt2:i<zM b:=J;clear hd hd2;obtain⟨q,hq⟩:=zwI x1 x2 y1 y2;cases q with
   |false=>
    clear hfin;refine xX ?_;exact⟨i+1,⟨_,L,n,_,rfl,rfl,V,V,V,J⟩,J⟩
   |true=>
    refine ev_zc ?_;exact hfin _ _
 .refine ev_zc ?_;exact hfin _ _
end
def StOk.add{q:Bool}{S:Sto q}(h:StOk sp L n S)(o:Ob)(hw:WfA L2 n2)(hn:n<=id2)(hi:id2<n2)(hr:x3 L2 sp=some ({S with obs:=S.obs++[o],oid:=id2}:Sto q).row)(ho:x3 L2 id2=some (.row (tOq q) (xW Ob.c (S.obs++[o])) true false))(hf:∀j,j<n->j≠sp->(S.obs≠[]->j≠S.oid)->x3 L2 j=x3 L j):StTo sp L n S L2 n2 {S with obs:=S.obs++[o],oid:=id2} where
 ok:={
  wf:=hw
  row:=hr
  go:=λ_=>⟨yh _,hi,ho⟩
  gy:=λhne=>by
   obtain⟨q1,q2,q3⟩:=h.gy hne;exact⟨q1,Nat.lt_of_lt_of_le q2 J,by rw[hf _ q2 (h.sp_y hne).symm λh0=>(h.o_y h0 hne).symm];exact q3⟩
  sy:=λy hy=>(h.sy y hy).mono (λ_ hb=>hb) λj hj=>by
   obtain⟨q1,q2,q3,_⟩:=h.bne hj;exact hf j q1 q2 q3
  bl:=λb hb=>by
   obtain⟨q1,q2,q3,_⟩:=h.bne hb;obtain⟨cs,hcs⟩:=h.bl b hb;exact⟨cs,by rw[hf b q1 q2 q3];exact hcs⟩}
 le:=J
 fr:=λj h1 h2 h3 _=>hf j h1 h2 h3
 o:=λ_=>.inr hn
 y:=λhne=>.inl ⟨hne,rfl⟩
 b:=λb hb=>.inl hb
def StOk.load{S:Sto false}(h:StOk sp L n S)(ld:Int)(wd:Bool):StTo sp L n S ((sp,some ({S with ld:=ld,wd:=wd}:Sto false).row)::L) n {S with ld:=ld,wd:=wd} where
 ok :={
  wf:=h.wf.same h.spn
  row:=x8 _ _ _
  go:=λhne=>by
   obtain⟨q1,q2,q3⟩:=h.go hne;exact⟨q1,q2,by rw[x5,x0 (h.sp_o hne).symm];exact q3⟩
  gy:=λhne=>by
   obtain⟨q1,q2,q3⟩:=h.gy hne;exact⟨q1,q2,by rw[x5,x0 (h.sp_y hne).symm];exact q3⟩
  sy:=λy hy=>by
   have:=(h.sy y hy).mono (L2:=(sp,some ({S with ld:=ld,wd:=wd}:Sto false).row)::L) (more:=[]) (λ_ hb=>hb) λj hj=>by
    rw[x5,x0 (h.bne hj).2.1]
   rwa [zv6]at this
  bl:=λb hb=>by
   obtain⟨cs,hcs⟩:=h.bl b hb;exact⟨cs,by rw[x5,x0 (h.bne hb).2.1];exact hcs⟩}
 le:=zS _
 fr:=λj _ h2 _ _=>by rw[x5,x0 h2]
 o:=λhne=>.inl ⟨hne,rfl⟩
 y:=λhne=>.inl ⟨hne,rfl⟩
 b:=λb hb=>.inl hb
theorem StOk.same{q:Bool}{S:Sto q}(h:StOk sp L n S):StTo sp L n S L n S:=h.more h.wf (zS _) λ_ _=>rfl
def obM(ty cd:Int)(kd:Z)(ng:Bool)(dg:Z)(h:vV kd=true/\vV dg=true):Ob:=⟨[.int .i64 ty,.int .i64 cd,kd,.bool ng,dg],rfl,by simp only[jC,gR,lC,Z5,h.1,h.2,xO]⟩
section
variable {O:Orc}
def MB(h191:O 191=none){S:Sto false}(h:StOk sp L n S)(k l:Int)(m:Nat):
  Cv (cl O 191 [.ptr sp 0,k,l] (KL L n m false)) λv t=>∃r L2 m2 ld wd,v=.bool r/\t=KL L2 n m2 false/\StTo sp L n S L2 n {S with ld:=ld,wd:=wd}:=by
 refine wp (F:=f191) h191 rfl rfl (zv4 rfl) ?_;have hl:=λld wd=>h.load ld wd;have hs:=h.same;have hr:=h.row;obtain⟨obs,oid,ys,yid,bs,ld,wd⟩:=S;simp only[Sto.row]at hr hl|-;have c1:=vU 5 oid (zM obs);have c2:=vU 2 yid (zM ys);unfold f191 cF;simp only;cases e:ltD l k with
 |false=>
  clear hl c1 c2;refine ev_zc ?_;exact⟨_,L,_,ld,wd,rfl,rfl,hs⟩
 | true=>
  clear hs;generalize gSl 5 oid (zM obs)=a1 at *;generalize gSl 2 yid (zM ys)=a2 at *;simp only[vV]at c1 c2;refine xY ?_;cases e2:ltD (vK .i64 (Int.sub (.ofNat 3000000) ld)) k with
  |true=>
   refine ev_zc ?_;exact⟨_,_,_,ld,true,rfl,rfl,hl ld true⟩
  |false=>
   refine xY ?_;refine xY ?_;refine ev_zc ?_;exact⟨_,_,_,_,wd,rfl,rfl,hl _ wd⟩
attribute [local go_sem] wW wR in
def YB(h167:O 167=none)(h191:O 191=none){S:Sto false}(h:StOk sp L n S)(hN:zM S.obs<100000000){ty cd:Int}{kd dg:Z}{ng:Bool}{zk zd:Int}(hk:∀s,Q0 s .v kd=some (.int .i64 zk))(hd:∀s,Q0 s .v dg=some (.int .i64 zd))(hs:vV kd=true/\vV dg=true)(m:Nat):
  Cv (cl O 167 [.ptr sp 0,.agg [ty,cd,kd,.bool ng,dg]] (KL L n m false)) λv t=>∃L2 n2 m2 oid2 ld wd,v=.agg (wa ⟨.ofNat 7,.ofNat (zM S.obs)⟩)/\t=KL L2 n2 m2 false/\StTo sp L n S L2 n2 {S with obs:=S.obs++[obM ty cd kd ng dg hs],oid:=oid2,ld:=ld,wd:=wd}:=by
 refine wp (F:=f167) h167 rfl rfl (zv4 rfl) ?_;have k0:=(h.new (some (.row 203 [ty,cd,kd,.bool ng,dg]))).new (some (.row 163 [(0:Nat),(0:Nat)]));have hhv:=λk l m=>MB h191 k0.ok k l m;have s1:=hs.1;have s2:=hs.2;simp only[vV]at s1 s2;have ck:kd.cells=[kd]:=by cases kd<;>first|rfl|cases s1
 have cg:dg.cells=[dg]:=by cases dg<;>first|rfl|cases s2
 unfold f167 cF;simp only;refine xY ?_;refine xU (wi ?_);refine xZ (hhv _ _ _) λv t hv=>?_;obtain⟨r,L2,m2,ld,wd,rfl,rfl,k1⟩:=hv;clear hhv;have hw:=k1.ok.wf;have hr:=k1.ok.row;have hsp:=h.spn;have fr:∀j,n<=j->j<n+1+1->x3 L2 j=x3 ((n+1,some (AObj.row 163 [(0:Nat),(0:Nat)]))::(n,some (.row 203 [ty,cd,kd,.bool ng,dg]))::L) j:=λj h1 h2=>(h.fresh h1:Own sp S j).same h2 k1;have g3:=fr n (zS _) J;have g4:=fr (n+1) J J;rw[gN J,x8]at g3;rw[x8]at g4;have hfin:∀{L3:za} {n3 id2:Nat} {v:zj},WfA L3 n3->n+1+1<=id2->id2<n3->x3 L3 sp=some ({S with obs:=S.obs++[obM ty cd kd ng dg hs],oid:=id2,ld:=ld,wd:=wd}:Sto false).row->x3 L3 id2=some (.row 203 (xW Ob.c (S.obs++[obM ty cd kd ng dg hs])) true false)->(∀j,j<n+1+1->j≠sp->(S.obs≠[]->j≠S.oid)->x3 L3 j=x3 L2 j)->StTo sp L n S ((n+1,v)::L3) n3 {S with obs:=S.obs++[obM ty cd kd ng dg hs],oid:=id2,ld:=ld,wd:=wd}:=λa1 a2 a3 a4 a5 a6=>by
  have k2:=k1.ok.add (obM ty cd kd ng dg hs) a1 a2 a3 a4 a5 a6;exact((k0.trans k1).trans k2).put2 J J (((h.fresh J:Own sp S (n+1)).to J k1).to J k2) _
 have hso:=h.sp_o;have hno:=(h.fresh (zuC n):Own sp S (n+1)).o;have hgo:=k1.ok.go;have hcell:xW Ob.c [obM ty cd kd ng dg hs]=[.int .i64 ty,.int .i64 cd,kd,.bool ng,dg]:=by simp only[xW,obM,zv6]
 have hoc:wO [Z.int .i64 ty,.int .i64 cd,kd,.bool ng,dg]=true:=(obM ty cd kd ng dg hs).sc;have hfl:∀l,xW Ob.c (l++[obM ty cd kd ng dg hs])=xW Ob.c l++[.int .i64 ty,.int .i64 cd,kd,.bool ng,dg]:=λl=>by rw[wQ,hcell]
 clear k0 k1 h fr;refine xX ?_;obtain⟨obs,oid,ys,yid,bs,ld0,wd0⟩:=S;have hyv:=vU 2 yid (zM ys);simp only[Sto.row]at hr hN hso hgo hfin hsp hno;simp only[hfl]at hfin;generalize obM ty cd kd ng dg hs=ob at *;cases obs with
 |nil=>
  simp only[xN,gSl]at hr;have hap:=λL n m e x f=> @J6 L n m 203 e 5 72 [.int .i64 ty,.int .i64 cd,kd,.bool ng,dg] x f rfl J J;have hf:=λ{L3 n3 id2 v} a1 a2 a3 a4 a5 a6=> @hfin L3 n3 id2 v a1 a2 a3 a4 a5 a6;clear hfin;refine xY ?_;refine ev_zc ?_;refine⟨_,_,_,n+1+1+1,ld,wd,rfl,rfl,hf ?_ J J ?_ ?_ λj h1 h2 h3=>?_⟩
  ·(repeat first|exact hw.up J|refine WfA.same ?_ J)
  ·(repeat first|exact x8 _ _ _|rw[gN J])
  ·(repeat first|exact x8 _ _ _|rw[gN J])
  ·(repeat rw[gN J])
 | cons u us=>
  obtain⟨_,hid,hgi⟩:=hgo (by simp)
  have hso:=hso (by simp)
  have hno:=hno (by simp)
  try simp only at hno
  try simp only at hid
  try simp only at hgi
  try simp only at hso
  try simp only at hN
  have hl5:(xW Ob.c (u::us)).length=(u::us).length *5:=qK Ob.len _;have ha:=λm e x f=> @J7 L2 (n+1+1) m 203 e 5 72 oid (u::us).length false (xW Ob.c (u::us)) [.int .i64 ty,.int .i64 cd,kd,.bool ng,dg] x f hid hgi hl5 rfl J hoc J J;have hf:=λ{L3 n3 id2 v} a1 a2 a3 a4 a5 a6=> @hfin L3 n3 id2 v a1 a2 a3 a4 a5 a6;have hne:(u::us)≠[]:=by simp
  have hkk:(u::us++[ob]).length=(u::us).length+1:=by simp
  obtain⟨k,hk2⟩:∃k,(u::us).length=k+1:=⟨zM us,rfl⟩;rw[hkk,hk2]at hf;rw[hk2]at ha hr hN hl5|-;simp only[gSl]at hr hf;have hso2:=hso.symm;clear hfin hfl hcell hgo;generalize u::us++[ob]=nobs at *;generalize xW Ob.c (u::us)=fc at *;generalize u::us=ul at *;refine xY ?_;refine ev_zc ?_;refine⟨_,_,_,n+1+1+1,ld,wd,rfl,rfl,hf ?_ J J ?_ ?_ λj h1 h2 h3=>?_⟩
  ·(repeat first|exact hw.up J|refine WfA.same ?_ J)
  ·(repeat first|exact x8 _ _ _|rw[gN J])
  ·(repeat first|exact x8 _ _ _|rw[gN J])
  .have:=h3 hne
   (repeat rw[gN J])
end
def StOk.addY{q:Bool}{sp n n2 id2:Nat}{L L2:za}{S:Sto q}(h:StOk sp L n S){w:Vl}(hs:SymAt q L S.bs S.obs w)(hw:WfA L2 n2)(hn:n<=id2)(hi:id2<n2)(hr:x3 L2 sp=some ({S with ys:=S.ys++[w],yid:=id2}:Sto q).row)(ho:x3 L2 id2=some (.row (tVq q) (xW wa (S.ys++[w])) true false))(hf:∀j,j<n->j≠sp->(S.ys≠[]->j≠S.yid)->x3 L2 j=x3 L j):StTo sp L n S L2 n2 {S with ys:=S.ys++[w],yid:=id2} where
 ok :={
  wf:=hw
  row:=hr
  go:=λhne=>by
   obtain⟨q1,q2,q3⟩:=h.go hne;exact⟨q1,Nat.lt_of_lt_of_le q2 J,by rw[hf _ q2 (h.sp_o hne).symm λh0=>h.o_y hne h0];exact q3⟩
  gy:=λ_=>⟨yh _,hi,ho⟩
  sy:=λy hy=>by
   have hb:∀j∈S.bs,x3 L2 j=x3 L j:=λj hj=>by
    obtain⟨q1,q2,_,q3⟩:=h.bne hj;exact hf j q1 q2 q3
   have:SymAt q L S.bs S.obs y:=by
    rcases List.mem_append.1 hy with hy|hy
    .exact h.sy y hy
    .rw[List.mem_singleton.1 hy];exact hs
   have:=this.mono (L2:=L2) (more:=[]) (λ_ hb=>hb) hb
   rwa [zv6]at this
  bl:=λb hb=>by
   obtain⟨q1,q2,_,q3⟩:=h.bne hb;obtain⟨cs,hcs⟩:=h.bl b hb;exact⟨cs,by rw[hf b q1 q2 q3];exact hcs⟩}
 le:=J
 fr:=λj h1 h2 _ h4=>hf j h1 h2 h4
 o:=λhne=>.inl ⟨hne,rfl⟩
 y:=λ_=>.inr hn
 b:=λb hb=>.inl hb
def Own.to'{q:Bool}{S:Sto q}{j:Nat}(h:Own sp S j)(_:StTo sp L n S L2 n2 S):Own sp S j:=h
def Wc:ICode:=match f169.body with
 |.seq _ (.seq _ k)=>k
 |_=>.skip
def An:ICode:=match Wc with
 |.seq _ (.seq _ (.seq a _))=>a
 |_=>.skip
section
variable {O:Orc}
attribute [local go_sem] wW wR wa Trie.get_set Trie.get_del in
def rn{eb:Nat}{S:Sto false}(h:StOk sp L n S)(hY:zM S.ys<100000000){w:Vl}(hs:SymAt false L S.bs S.obs w){v4:Z}(t0:G T 0 (.ptr sp 0))(t4:G T 4 v4)(t8:G T 8 (.ptr eb 0))(geb:x3 L eb=some (.row 163 (wa w)))(m:Nat):
  Ev (evC env (evW env O) none An ⟨tmL T,[]⟩ (KL L n m false)) λr f s=>r=.norm/\∃T2 L2 n2 m2 yid2,f=⟨tmL T2,[]⟩/\s=KL L2 n2 m2 false/\G T2 4 v4/\G T2 8 (.ptr eb 0)/\StTo sp L n S L2 n2 {S with ys:=S.ys++[w],yid:=yid2}:=by
 have hw:=h.wf;have hr:=h.row;have hsp:=h.spn;have hen:=hw.lt geb;have hes:eb≠sp:=λe=>by rw[e,hr]at geb;simp[Sto.row]at geb
 have hes2:=hes.symm;have hey:=h.ne_y geb;have hpy:=h.sp_y;have hgy:=h.gy;have hfin:=λ{L2 n2 id2} a1 a2 a3 a4 a5 a6=> @StOk.addY false sp n n2 id2 L L2 S h w hs a1 a2 a3 a4 a5 a6;clear h hs;obtain⟨obs,oid,ys,yid,bs,ld,wd⟩:=S;have c1:=vU 5 oid (zM obs);simp only[Sto.row]at hr hY hfin;generalize gSl 5 oid (zM obs)=a1 at *;obtain⟨w1,w2⟩:=w;unfold An Wc f169 cF;simp only;cases ys with
 |nil=>
  simp only[xN,gSl]at hr;have hap:=λL n m e x f=> @J6 L n m 163 e 2 16 [.int .i64 w1,.int .i64 w2] x f rfl J J;simp only[wa]at geb;have hf:=λ{L3 n3 id2} a1 a2 a3 a4 a5 a6=> @hfin L3 n3 id2 a1 a2 a3 a4 a5 a6;clear hfin;refine xX ?_;refine⟨trivial,_,_,_,_,n+1,rfl,rfl,V,V,hf ?_ J J ?_ ?_ λj h1 h2 h3=>?_⟩
  ·(repeat first|exact hw.up J|refine WfA.same ?_ J)
  ·(repeat first|exact x8 _ _ _|rw[gN J])
  ·(repeat first|exact x8 _ _ _|rw[gN J])
  ·(repeat rw[gN J])
 | cons u us=>
  obtain⟨_,hid,hgi⟩:=hgy (by simp)
  have hso:=hpy (by simp)
  have hey:=hey (by simp)
  try simp only at hid
  try simp only at hso
  try simp only at hey
  try simp only at hgi
  have hfl:(xW wa (u::us)).length=(u::us).length *2:=Gw _;have ha:=λm e x f=> @J7 L n m 163 e 2 16 yid (u::us).length false (xW wa (u::us)) [.int .i64 w1,.int .i64 w2] x f hid hgi hfl rfl J rfl J J;have hf:=λ{L3 n3 id2} a1 a2 a3 a4 a5 a6=> @hfin L3 n3 id2 a1 a2 a3 a4 a5 a6;have hne:(u::us)≠[]:=by simp
  have hkk:(u::us++[(⟨w1,w2⟩:Vl)]).length=(u::us).length+1:=by simp
  have hcat:xW wa (u::us)++[.int .i64 w1,.int .i64 w2]=xW wa ((u::us)++[⟨w1,w2⟩]):=by rw[wQ,vh];rfl
  obtain⟨k,hk2⟩:∃k,(u::us).length=k+1:=⟨zM us,rfl⟩;rw[hkk,hk2]at hf;rw[hcat,hk2]at ha;rw[hk2]at hr hY hfl;simp only[gSl]at hr hf;simp only[wa]at geb;have hso2:=hso.symm;clear hfin hgy hcat hkk hpy;generalize u::us++[(⟨w1,w2⟩:Vl)]=nys at *;generalize xW wa (u::us)=fc at *;generalize u::us=ul at *;refine xX ?_;refine⟨trivial,_,_,_,_,n+1,rfl,rfl,V,V,hf ?_ J J ?_ ?_ λj h1 h2 h3=>?_⟩
  ·(repeat first|exact hw.up J|refine WfA.same ?_ J)
  ·(repeat first|exact x8 _ _ _|rw[gN J])
  ·(repeat first|exact x8 _ _ _|rw[gN J])
  .have:=h3 hne
   (repeat rw[gN J])
end
def obT(l:List Vl):Ob:=obM (.ofNat 4) (.ofNat 0) (qB l) false .nils ⟨rfl,rfl⟩
def obY(Y:Nat):Ob:=obM (.ofNat 5) (.ofNat 0) (.sl Y 0 1 (.fix 1)) false .nils ⟨rfl,rfl⟩
section
variable {O:Orc}
attribute [local go_sem] wW wR wa Trie.get_set Trie.get_del in
def ro(h167:O 167=none)(h191:O 191=none)(h193:O 193=some eC){ab:Nat}{S:Sto false}(h:StOk sp L n S)(hN:zM S.obs+2<100000000)(hY:zM S.ys<100000000){l:List Vl}(hl:zM l<2000000){T:List (Nat×Z)}{z1 z2:Z}(t0:G T 0 (.ptr sp 0))(t1:G T 1 (qB l))(t4:G T 4 (.ptr ab 0))(gab:x3 L ab=some (.row 163 [z1,z2]))(hab:Own sp S ab)(m:Nat){Q:Res->Fr->U->Prop}
  (hQ:∀T L2 n2 m2 S2 w,G T 4 (.ptr ab 0)->StTo sp L n S L2 n2 S2->Own sp S2 ab->zM S2.obs<=zM S.obs+2->zM S2.ys<=zM S.ys+1->Q .ret ⟨tmL T,[]⟩ (KL ((ab,some (.row 163 (wa w)))::L2) n2 m2 false)):
  Ev (evC env (evW env O) none Wc ⟨tmL T,[]⟩ (KL L n m false)) Q:=by
 have hcl:=λs=>oc h193 BH l (show (zM l)<1000000000 by omega) (args:=[qB l]) (by simp only[Vt,wkL,GZ]) s
 have habn:=h.wf.lt gab;have ha1:=λm=>YB h167 h191 h J (ty:=.ofNat 4) (cd:=.ofNat 0) (kd:=qB l) (dg:=.nils) (ng:=false) (λ_=>rfl) (λ_=>rfl) ⟨rfl,rfl⟩ m;have hsp:=h.spn;have hcp:=WA l;simp only[qB]at hcl t1 ha1;unfold Wc f169 cF;simp only;refine xU (wi ?_);refine xZ (ha1 _) λv t hv=>?_;obtain⟨L1,n1,m1,oid1,ld1,wd1,rfl,rfl,k1⟩:=hv;clear ha1 hcl;obtain⟨S1,hS1⟩:∃S1:Sto false,S1={S with obs:=S.obs++[obT l],oid:=oid1,ld:=ld1,wd:=wd1}:=⟨_,rfl⟩
 have k1:StTo sp L n S L1 n1 S1:=hS1▸k1;have e1:S1.obs=S.obs++[obT l]/\S1.ys=S.ys:=by rw[hS1];exact⟨rfl,rfl⟩
 have e1l:zM S1.obs=zM S.obs+1:=by rw[e1.1,yO];rfl
 clear hS1;have e1o:S1.obs[zM S.obs]? =some (obT l):=by rw[e1.1,yZ (zS _),Nat.sub_self];rfl
 have k2:=(k1.new (some (.row 163 [(0:Nat),(0:Nat)]))).put2 (j:=n1) k1.le (yx _) (k1.ok.fresh (zS _)) (some (.row 163 [(7:Nat),zM S.obs]));have k3:=k2.new (some (.row 163 [(7:Nat),zM S.obs]));have ha2:=λm=>YB h167 h191 k3.ok J (ty:=.ofNat 5) (cd:=.ofNat 0) (kd:=.sl (n1+1) 0 1 (.fix 1)) (dg:=.nils) (ng:=false) (λ_=>rfl) (λ_=>rfl) ⟨rfl,rfl⟩ m;have hw3:Own sp S1 (n1+1):=k2.ok.fresh (zS _);have hle1:=k1.le;have hsp1:=k1.ok.spn;refine xX ?_;refine xU (wi ?_);refine xZ (ha2 _) λv t hv=>?_;obtain⟨L4,n4,m4,oid4,ld4,wd4,rfl,rfl,k4⟩:=hv;clear ha2;obtain⟨S4,hS4⟩:∃S4:Sto false,S4={S1 with obs:=S1.obs++[obY (n1+1)],oid:=oid4,ld:=ld4,wd:=wd4}:=⟨_,rfl⟩
 have k4:StTo sp _ _ S1 L4 n4 S4:=hS4▸k4;have e4:S4.obs=S1.obs++[obY (n1+1)]/\S4.ys=S1.ys:=by rw[hS4];exact⟨rfl,rfl⟩
 clear hS4;have g5:=(hw3.same J k4).trans (x8 _ _ _);have k5:=((k3.trans k4).new (some (.row 163 [(0:Nat),(0:Nat)]))).put2 (j:=n4) (by have:=k4.le;omega) (yx _) (k4.ok.fresh (zS _)) (some (.row 163 (wa ⟨.ofNat 7,.ofNat (zM S.obs+1)⟩)))
 have hle4:=k4.le;have k6:=k5.bs (b:=n1+1) (cs:=[.int .i64 (.ofNat 7),.int .i64 (.ofNat (zM S.obs))]) J (by
  (repeat rw[gN J])
  exact g5)
 have hsym:SymAt false ((n4,some (AObj.row 163 (wa ⟨.ofNat 7,.ofNat (zM S.obs+1)⟩)))::(n4,some (.row 163 [(0:Nat),(0:Nat)]))::L4) ((n1+1)::S4.bs) S4.obs ⟨.ofNat 7,.ofNat (zM S.obs+1)⟩:=by
  refine⟨zM S.obs+1,zM S.obs,n1+1,obY (n1+1),obT l,l,rfl,?_,?_,rfl,zua,?_,rfl,hl⟩
  .rw[e4.1,yZ J,e1l,Nat.sub_self];rfl
  .rw[e4.1,List.getElem?_append_left J];exact e1o
  ·(repeat rw[gN J])
   exact g5
 have hab4:Own sp S4 ab:=(hab.to habn (k3.trans k4));have hY4:zM S4.ys=zM S.ys:=by rw[e4.2,e1.2]
 have hO4:zM S4.obs=zM S.obs+2:=by rw[e4.1,yO,e1l];rfl
 have hO1:=e1l;clear k2 k3 k4 k1;simp only[hO1];refine xX ?_;refine xU (Ev.mono (rn (eb:=n4) (w:=⟨.ofNat 7,.ofNat (zM S.obs+1)⟩) (v4:=.ptr ab 0) k6.ok (by simp only;omega) hsym V V V (x8 _ _ _) _) λr f s hz=>?_)
 obtain⟨rfl,T7,L7,n7,m7,yid7,rfl,rfl,t4',t8',k7⟩:=hz;have k8:=k6.trans k7;have g4:=(k7.fr n4 J J (k6.ok.ne_o (x8 _ _ _)) (k6.ok.ne_y (x8 _ _ _))).trans (x8 _ _ _);have hab8:=hab.to habn k8;have gab8:=(hab.same habn k8).trans gab;have hq:=λT m t4=>hQ T L7 n7 m _ ⟨.ofNat 7,.ofNat (zM S.obs+1)⟩ t4 k8 hab8 (by simp only;omega) (by simp only[yO,yw,xN];omega)
 clear hQ k8 k7 k6 k5 hsym g5 hab hab4 hab8;simp only[wa]at g4 hq;refine xX ?_;exact hq _ _ V
end
end Go.Proofs.YtbdfljdgapkbcaaGreatDoor.Ev

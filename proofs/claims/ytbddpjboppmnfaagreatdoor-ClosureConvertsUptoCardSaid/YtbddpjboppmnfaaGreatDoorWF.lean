/- Contracts of functions that ClosureConverts calls: what a call answers. No conditions. -/
import Derived.Test.YtbddpjboppmnfaaGreatDoorWD
import Derived.Test.YtbddpjboppmnfaaGreatDoorEvG
import Derived.Test.YtbddpjboppmnfaaGreatDoorWC
set_option linter.unusedSimpArgs false
set_option linter.unusedVariables false
set_option linter.defProp false
set_option maxHeartbeats 4000000
set_option linter.unusedSectionVars false
noncomputable section
open List renaming length → zR, length_cons → yJ, cons_append → yu, getD_eq_getElem?_getD → xR, nil_append → zv1, length_nil → xY, map_cons → ye, mem_cons_self → zvZ, append_nil → zvV, append_assoc → zum, mem_of_mem_drop → zvY, length_drop → zvU, drop_eq_getElem_cons → zud, length_append → y8, map_append → yj, getElem?_eq_getElem → xj, length_map → zuJ, drop_eq_nil_of_le → zuK, drop_drop → yQ
open Nat renaming zero_mod → zv9, le_refl → zX, or_zero → zub, zero_or → zuc, le_of_ble_eq_true → zvT, lt_of_lt_of_le → zT, zero_le → yz, lt_succ_self → yK, one_mul → zuL, mul_le_mul_right → xr, zero_add → xB, add_mul → xe
open Bool renaming cond_self → zv7, and_eq_true → zU, true_and → xC, not_false → zv6
open Option renaming bind_some → zuf, isSome_some → zv5
open Int renaming ofNat → yi
open List.Sublist renaming refl → zuM
namespace Go.Proofs.YtbddpjboppmnfaaGreatDoor.Ev
variable {L L0 L':zb}{n m cp n0 lo bid ob i t N esz f mid:Nat}{c:Cd}{fr:ze}{v k VE:Int}{s:U}{T:List (Nat×Z)}{us ws:zA}{l bz:zw}{a1 a2 a3 a4 a0 a6:Z}{O:Orc}{b:Bool}{e:Trm}
open T
set_option maxRecDepth 100000
attribute [local go_sem] wF wI qh Nat.or_zero Nat.zero_or Nat.zero_mod Bool.cond_self ltF gtF
def Z0(w:Int):Z:=.agg [w]
def uM(N:zq):zp:=N.map λp=>(p.1,Z0 p.2)
def lkM(v:Int):zq->Option Int
 |[]=>none
 |p::r=>if p.1=v then some p.2 else lkM v r
def bT(v:Int):∀N:zq,ZA v (uM N)=(lkM v N).map Z0
 |[]=>rfl
 |p::r=>by
  simp only[uM,ye,ZA,pN,lkM];by_cases h:p.1=v
  .rw[qL h,wH h];rfl
  .rw[qy h,wx h,wK];exact bT v r
def Hy(v w:Int):zq->zq
 |[]=>[(v,w)]
 |p::r=>if p.1=v then (v,w)::r else p::Hy v w r
theorem cQ(v w:Int):∀N:zq,Xr v (Z0 w) (uM N)=uM (Hy v w N)
 |[]=>rfl
 |p::r=>by
  simp only[uM,ye,Xr,pN,Hy];by_cases h:p.1=v
  .rw[qL h,wH h,h];rfl
  .rw[qy h,wx h,wK];have:=cQ v w r;simp only[uM]at this;rw[this];rfl
def nmF(N:zq)(v:Int):Int:=(lkM v N).getD v
section
variable {O:Orc}
attribute [local go_sem] pe QM Z8 Z7 Z0 in
def Rp(h52:O 52=none){Y:Nat}{N:zq}(g:wn L Y=some (.umap (uM N)))(v:Int)(n m:Nat)(b:Bool)(hid:Y<n):
  cl O 52 [v,.map Y] (KL L n m b)=some (.agg (wY ⟨.ofNat 1,nmF N v⟩),KL L n m b):=by
 have key:Cv (cl O 52 [v,.map Y] (KL L n m b)) λr t=>r=.agg (wY ⟨.ofNat 1,nmF N v⟩)/\t=KL L n m b:=by
  refine vr (F:=f52) h52 rfl rfl (zvT rfl) ?_;have hg:=bT v N;have hne:¬Y=n:=J;have hnn:¬n=n+1:=J;unfold f52 cF;simp only[nmF];cases hl:lkM v N with
  |none=>
   rw[hl]at hg;simp only[Option.map_none]at hg;refine wq ?_;refine ev_zc ?_;exact⟨rfl,rfl⟩
  |some w=>
   rw[hl]at hg;simp only[Option.map_some]at hg;refine wq ?_;refine ev_zc ?_;exact⟨rfl,rfl⟩
 obtain⟨r,t,h,rfl,rfl⟩:=key;exact h
end
def rnA(nm:zq)(a:Atm):Atm:=bif eqD a.k (.ofNat 1)then ⟨.ofNat 1,nmF nm a.n⟩else a
def vrA(nm:zq)(v:Int):Atm:=⟨.ofNat 1,nmF nm v⟩
def knF(c:Cd)(kn:zq)(az:List Atm):Option Int:=
 match az with
 |[]=>none
 |a::r=>match lkM a.n kn with
  |some t=>bif eqD a.k (.ofNat 1)&&(!(Xb c t).rest&&decide ((Xb c t).ps.length=r.length))then some t else none
  |none=>none
def hdF(c:Cd)(fr:ze)(kn nm:zq)(k fn:Int)(az:List Atm):Int×Int×List Atm:=
 bif eqD k (.ofNat 2)then (k,fn,az.map (rnA nm)++(fr.getD fn.toNat []).map (vrA nm))
 else bif eqD k (.ofNat 4)then
  (match knF c kn az with
   |some t=>(.ofNat 5,t,az.map (rnA nm))
   |none=>(k,fn,az.map (rnA nm)))
 else (k,fn,az.map (rnA nm))
def M7(c:Cd)(fr:ze)(kn nm:zq):Trm->Trm
 |.mk k v op n f az ks=>.mk (hdF c fr kn nm k f az).1 v op n (hdF c fr kn nm k f az).2.1 (hdF c fr kn nm k f az).2.2 ks
mutual
def tmF(c:Cd)(fr:ze)(kn nm:zq):Trm->Trm
 |.mk k v op n f az ks=>.mk (hdF c fr kn nm k f az).1 v op n (hdF c fr kn nm k f az).2.1 (hdF c fr kn nm k f az).2.2 (pE c fr kn nm ks)
def pE(c:Cd)(fr:ze)(kn nm:zq):List Trm->List Trm
 |[]=>[]
 |t::r=>tmF c fr kn nm t::pE c fr kn nm r
end
def aX(k op:Int):Bool:=eqD k (.ofNat 5)||(eqD k (.ofNat 1)&&(eqD op (.ofNat 105)||eqD op (.ofNat 106)))
mutual
def opF:Trm->zq->Option zq
 |.mk k v op n f az ks,kn=>bif aX k op then none else Vo ks (bif eqD k (.ofNat 2)then Hy v f kn else kn)
def Vo:List Trm->zq->Option zq
 |[],kn=>some kn
 |x::r,kn=>(Vo r kn).bind (opF x)
end
def Vn(b:Int):zw->Nat->zq->zq
 |[],_,N=>N
 |v::r,k,N=>Vn b r (k+1) (Hy v (b+ .ofNat k) N)
def jR(b:Int):Nat->Trm->Trm
 |0,t=>t
 |k+1,t=>jR b k (.mk (.ofNat 1) (b+ .ofNat k) (.ofNat 105) (.ofNat k) (.ofNat 0) [] [t])
def uK:ze->Int->zw
 |[],_=>[]
 |l::r,b=>b::uK r (b+ .ofNat (zR l))
def Zj:ze->Int->Int
 |[],b=>b
 |l::r,b=>Zj r (b+ .ofNat (zR l))
def pP(c:Cd)(fr:ze)(kn:zq):List Fn->ze->Int->List Fn
 |f::r,l::ls,b=>{f with fr:=l,b:=jR b (zR l) (tmF c fr kn (Vn b l 0 []) f.b)}::pP c fr kn r ls (b+ .ofNat (zR l))
 |_,_,_=>[]
def lK:List Fn->zq->Option zq
 |[],kn=>some kn
 |f::r,kn=>bif decide (0<zR f.fr)then none else (opF f.b kn).bind (lK r)
open Nat (reduceEqDiff reduceLeDiff reduceLT reduceAdd reduceMul reduceSub reduceMod reducePow reduceDiv reduceOr reduceShiftLeft reduceGT reduceSucc)
open List (length_cons length_nil length_take length_drop)
open Int (reduceOfNat reduceNegSucc)
section
variable {O:Orc}
attribute [local go_sem] pe QM Z8 Z7 pR Um Z0 in
def TY(h19:O 19=none){kid:Nat}{a5:Z}:∀(k:Nat) (t:Trm),qb t<=k->SzT t->J6 t->∀(L:zb) (n m:Nat) (met:zq),WfA L n->wn L cp=some (.row 56 [a0,a1,a2,a3,a4,a5,a6,.map kid])->wn L kid=some (.umap (uM met))->
  Cv (cl O 19 [.ptr cp 0,vg t] (KL L n m false)) λv s=>∃L2 n2 m2,s=KL L2 n2 m2 false/\n<=n2/\WfA L2 n2/\(∀j,j<n->j≠kid->wn L2 j=wn L j)/\((opF t met=none/\v=.bool false)\/∃met2,opF t met=some met2/\v=.bool true/\wn L2 kid=some (.umap (uM met2))):=by
 intro k
 induction k with
 |zero=>intro t h;have:=vQ t;omega
 | succ k ih=>
  intro t hk hsz hk2 L n m met hw hcp hid;refine qD (F:=f19) h19 rfl rfl (zvT rfl) ?_;have hcpn:=hw.lt hcp;have hck:cp≠kid:=λe=>by rw[e,hid]at hcp;cases hcp
  have hidn:=hw.lt hid;obtain⟨R,hR⟩:∃R,opF t met=R:=⟨_,rfl⟩;rw[hR];simp only[vg]at ih|-;unfold f19 cF;simp only;have hl7:=qz (qi t);have hc7:=gT t;refine wq ?_;apply wA;refine wP (λx:Trm×zq=>qb x.1) (λx f t'=>∃T L2 n2 m',f=⟨tmL T,[]⟩/\t'=KL L2 n2 m' false/\G T 0 (.ptr cp 0)/\G T 3 (.ptr n 0)/\n+1<=n2/\WfA L2 n2/\wn L2 n=some (jg x.1)/\wn L2 cp=some (.row 56 [a0,a1,a2,a3,a4,a5,a6,.map kid])/\wn L2 kid=some (.umap (uM x.2))/\qb x.1<=k+1/\SzT x.1/\J6 x.1/\opF x.1 x.2=R/\∀j,j<n->j≠kid->wn L2 j=wn L j) (λx f t' hI=>?_) (t,met) ⟨_,_,_,_,rfl,rfl,sW,sW,J,?_,?_,?_,?_,hk,hsz,hk2,hR,λj h1 h2=>?_⟩
  .clear hR hsz hk hk2 hl7 hc7 hid hw hcp t met;obtain⟨T,L2,n2,m',rfl,rfl,t0,t3,hn2,hw,g0,gc,gid,hk,hsz,hk2,hR,hfr⟩:=hI;obtain⟨⟨tk,v,op,num,fn,az,ks⟩,met⟩:=x;simp only at g0 gid hk hsz hk2 hR|-;simp only[opF,aX]at hR;simp only[SzT]at hsz;simp only[J6]at hk2;simp only[jg,wE]at g0;simp only[qb]at hk;have hcn:¬cp=n:=J;have hkn:¬kid=n:=J;apply wA;cases c5:eqD tk (.ofNat 5)with
   |true=>
    rw[c5]at hR;simp only[Bool.true_or,wy]at hR;subst hR;refine ev_zc ?_;exact⟨_,_,_,rfl,J,hw,hfr,.inl ⟨trivial,rfl⟩⟩
   |false=>
   cases cb:(eqD tk (.ofNat 1)&&(eqD op (.ofNat 105)||eqD op (.ofNat 106)))with
   | true=>
    rw[c5,cb]at hR;simp only[Bool.or_true,wy]at hR;subst hR;rw[zU,Bool.or_eq_true]at cb;obtain⟨cb1,cb2⟩:=cb;cases c105:eqD op (.ofNat 105)with
    |true=>
     refine ev_zc ?_;exact⟨_,_,_,rfl,J,hw,hfr,.inl ⟨trivial,rfl⟩⟩
    |false=>
     have c106:eqD op (.ofNat 106)=true:=by rcases cb2 with h|h;rw[c105]at h;cases h;exact h
     clear cb2;refine ev_zc ?_;exact⟨_,_,_,rfl,J,hw,hfr,.inl ⟨trivial,rfl⟩⟩
   |false=>
   rw[c5,cb]at hR;simp only[Bool.or_self,wK]at hR;refine qX (λf t'=>∃T,f=⟨tmL T,[]⟩/\t'=KL L2 n2 m' false/\G T 0 (.ptr cp 0)/\G T 3 (.ptr n 0)) ?_ λf t' hI=>?_
   .cases c1:eqD tk (.ofNat 1)with
    |false=>
     refine wu ?_;exact⟨_,rfl,trivial,V,V⟩
    |true=>
     rw[c1,xC,Bool.or_eq_false_iff]at cb;obtain⟨c105,c106⟩:=cb;refine wu ?_;exact⟨_,rfl,trivial,V,V⟩
   clear cb t0 t3 T;obtain⟨T,rfl,rfl,t0,t3⟩:=hI;refine qX (λf t'=>∃T L3 n3 m3 met3,f=⟨tmL T,[]⟩/\t'=KL L3 n3 m3 false/\G T 0 (.ptr cp 0)/\G T 3 (.ptr n 0)/\n+1<=n3/\WfA L3 n3/\wn L3 n=some (.row 44 [tk,v,op,num,fn,.lst (zR az) false (wo wY az),.lst (zR ks) false (w9 ks)])/\wn L3 cp=some (.row 56 [a0,a1,a2,a3,a4,a5,a6,.map kid])/\wn L3 kid=some (.umap (uM met3))/\Vo ks met3=R/\∀j,j<n->j≠kid->wn L3 j=wn L j) ?_ λf t' hI=>?_
   .cases c2:eqD tk (.ofNat 2)with
    |false=>
     rw[c2,wK]at hR;refine wu ?_;exact⟨_,_,_,_,met,rfl,rfl,V,V,hn2,hw,g0,gc,gid,hR,hfr⟩
    |true=>
     rw[c2,wy]at hR;have hsu:=cQ v fn met;simp only[Z0]at hsu;refine wu ?_;refine⟨_,_,_,_,Hy v fn met,rfl,rfl,V,V,J,?_,?_,?_,?_,hR,λj h1 h2=>?_⟩
     ·(repeat first|exact hw.up J|refine WfA.same ?_ J)
     ·(repeat (rw[gN J]));exact g0
     ·(repeat (rw[gN J]));exact gc
     ·(repeat first|exact wC _ _ _|rw[gN J])
     ·(repeat (rw[gN J]));exact hfr j h1 h2
   clear hR gid g0 gc hfr hw hn2 t0 t3 c5;clear met T L2 n2 m';obtain⟨T,L2,n2,m',met,rfl,rfl,t0,t3,hn2,hw,g0,gc,gid,hR,hfr⟩:=hI;rcases ks with _|⟨x,_|⟨y,_|⟨z,w⟩⟩⟩
   rotate_right
   .have:=hk2.1;simp only[yJ]at this;omega
   .simp only[Vo]at hR;subst hR;simp only[xY]at g0;refine ev_zc ?_;exact⟨_,_,_,rfl,J,hw,hfr,.inr ⟨met,rfl,rfl,gid⟩⟩
   .simp only[Vo,zuf,qY,p7,VD,and_true]at hR hk hsz hk2;have hc:qf 7 (w9 [x])=some (wZ x):=by rw[vx];exact uT (qi x)
    obtain⟨k2,v2,op2,num2,f2,as2,ks2⟩:=x;simp only[wE]at hc;simp only[yJ,xY]at g0;refine wq ?_;refine wu ?_;refine⟨(_,met),⟨_,_,_,_,rfl,rfl,V,V,J,?_,?_,?_,?_,by simp only;omega,hsz.2.2,hk2.2,hR,λj h1 h2=>?_⟩,by simp only[qb,qY];omega⟩
    .exact WfA.same hw J
    .rw[wC];simp only[jg,wE]
    .rw[gN J];exact gc
    .rw[gN J];exact gid
    .rw[gN J];exact hfr j h1 h2
   .simp only[Vo,zuf,qY,p7,VD,and_true]at hR hk hsz hk2;have hc:qf 7 (w9 [x,y])=some (wZ x):=by rw[vx];exact uT (qi x)
    have hc2:qf 7 (qv 7 (w9 [x,y]))=some (wZ y):=by
     simp only[vx,kF,zvV];rw[qH,List.drop_left' (qi x)];exact qz (qi y)
    have hpx:=vQ x;have hih:=λm=>ih y J hsz.2.2.2 hk2.2.2 L2 n2 m met hw gc gid;obtain⟨k2,v2,op2,num2,f2,as2,ks2⟩:=x;simp only[wE]at hc;simp only[yJ,xY]at g0;clear ih;apply wp;refine wq ?_;apply wA;refine wq ?_;refine u9 sW ?_;refine wq ?_;refine vM sW ?_;apply wp;refine qB ?_;refine wO (hih _) λv t hv=>?_;obtain⟨L3,n3,m3,rfl,q1,q2,q3,⟨e1,rfl⟩|⟨met2,e1,rfl,q4⟩⟩:=hv
    .rw[e1,Option.bind_none]at hR;subst hR;clear hih;refine wu ?_;refine ev_zc ?_;exact⟨_,_,_,rfl,J,q2,λj h1 h2=>by rw[q3 j J h2];exact hfr j h1 h2,.inl ⟨trivial,rfl⟩⟩
    .rw[e1,zuf]at hR;have g3:=(q3 n J J).trans g0;have gc3:=(q3 cp J hck).trans gc;clear hih;refine wu ?_;refine wu ?_;refine wu ?_;refine⟨(_,met2),⟨_,_,_,_,rfl,rfl,V,V,J,?_,?_,?_,?_,by simp only;omega,hsz.2.2.1,hk2.2.1,hR,λj h1 h2=>?_⟩,by simp only[qb,qY];omega⟩
     .exact WfA.same q2 J
     .rw[wC];simp only[jg,wE]
     .rw[gN J];exact gc3
     .rw[gN J];exact q4
     .rw[gN J,q3 j J h2];exact hfr j h1 h2
  ·(repeat first|exact hw.up J|refine WfA.same ?_ J)
  ·(repeat first|exact wC _ _ _|rw[gN J])
  ·(repeat (rw[gN J]));exact hcp
  ·(repeat (rw[gN J]));exact hid
  ·(repeat (rw[gN J]))
end
def Z2{ls:ze}{r:ze}(hd:ls.drop i=l::r):qf 1 (qv i (wo v9 ls))=some [qt l]:=by
 have:=QI YM hd;rwa [Nat.mul_one]at this
section
variable {O:Orc}
attribute [local go_sem] pR Um KD Z0 qq qp qt in
def MP(h21:O 21=none){kid bn:Nat}(hw:WfA L n)(hcp:wn L cp=some (.row 56 [a0,a1,a2,a3,a4,vT fr,gSl 1 bid (zR bz),.map kid]))(hbs:wn L bid=some (.row 3 (wo wN bz) true false))(hb:∃r,bz.drop i=.ofNat bn::r)(hl:∃r,fr.drop i=l::r)(hbn:bn+zR l<4000000000000000000)(hln:zR l<1000000000)(m:Nat):
  Cv (cl O 21 [.ptr cp 0,i] (KL L n m false)) λv t=>∃L2 n2 m2,v=.map n/\t=KL L2 n2 m2 false/\n<n2/\WfA L2 n2/\wn L2 n=some (.umap (uM (Vn (.ofNat bn) l 0 [])))/\m2%2^n=m%2^n/\∀j,j<n->wn L2 j=wn L j:=by
 refine qD (F:=f21) h21 rfl rfl (zvT rfl) ?_;obtain⟨rb,hb⟩:=hb;obtain⟨rl,hl⟩:=hl;have hcb:=uz hb;have hcl:=Z2 hl;have hfi:i<zR fr:=by
  have:=congrArg zR hl;simp only[zvU,yJ]at this;omega
 have hbi:i<zR bz:=by
  have:=congrArg zR hb;simp only[zvU,yJ]at this;omega
 have hia:= @lU 1 bid (zR bz) i hbi;have hcpn:=hw.lt hcp;have hbdn:=hw.lt hbs;obtain⟨R,hR⟩:∃R,Vn (.ofNat bn) l 0 []=R:=⟨_,rfl⟩;rw[hR];simp only[vT,qt]at hcp hcl;unfold f21 cF;simp only;have hcn:¬cp=n:=J;have hbn2:¬bid=n:=J;clear hb hl;refine wq ?_;refine wq ?_;refine wp (wp (wu ?_));apply wA;refine wP (λx:Nat×zq=>zR l-x.1) (λx f t=>∃T L2 m2,f=⟨tmL T,[]⟩/\t=KL L2 (n+1) m2 false/\G T 0 (.ptr cp 0)/\G T 1 i/\G T 5 (.map n)/\G T 15 (.lst (zR l) false (wo wN l))/\G T 16 (zR l)/\G T 17 x.1/\x.1<=zR l/\WfA L2 (n+1)/\wn L2 n=some (.umap (uM x.2))/\Vn (.ofNat bn) (l.drop x.1) x.1 x.2=R/\m2%2^n=m%2^n/\∀j,j<n->wn L2 j=wn L j) (λx f t hI=>?_) (0,[]) ⟨_,_,_,rfl,rfl,sW,sW,sW,sW,sW,sW,yz _,?_,wC _ _ _,hR,by first|rfl|exact wF (zX _),λj hj=>by rw[gN J]⟩
 .clear hR hcl;obtain⟨T,L2,m2,rfl,rfl,t0,t1,t5,t15,t16,t17,hi,hw2,g,hR,hmm,hfr⟩:=hI;obtain⟨k,N⟩:=x;simp only at t17 hi g hR|-;rcases wJ l k with ⟨hlt,hd⟩|⟨v,hlt,hd⟩
  .have hni:¬k<zR l:=J;rw[hd]at hR;simp only[Vn]at hR;subst hR;clear hcp hbs;refine wu ?_;refine ev_zc ?_;exact⟨L2,n+1,_,rfl,rfl,yK _,hw2,g,hmm,hfr⟩
  .rw[hd]at hR;simp only[Vn]at hR;have hcv:=uz hd;have g1:=(hfr cp hcpn).trans hcp;have g2:=(hfr bid hbdn).trans hbs;have hsu:=cQ v (.ofNat (bn+k)) N;have hfr2:=λj (hj:j<n)=>(hfr j hj).symm;simp only[Z0]at hsu;clear hcp hbs hfr hd;refine wu ?_;refine⟨(k+1,Hy v (.ofNat (bn+k)) N),⟨_,_,_,rfl,rfl,V,V,V,V,V,V,by simp only;omega,WfA.same hw2 J,wC _ _ _,hR,(by first|exact hmm|exact(wF (zX _)).trans hmm),λj hj=>by rw[gN J];exact(hfr2 j hj).symm⟩,by simp only;omega⟩
 ·(repeat first|exact hw.up J|refine WfA.same ?_ J)
end
def KB{v w x:Int}:∀{N:zq},lkM x (Hy v w N)=if x=v then some w else lkM x N
 |[]=>by
  simp only[Hy,lkM];by_cases h:v=x
  .rw[wH h,wH h.symm]
  .rw[wx h,wx (Ne.symm h)]
 | p::r=>by
  simp only[Hy];by_cases h:p.1=v
  .rw[wH h];simp only[lkM];by_cases h2:v=x
   .rw[wH h2,wH h2.symm]
   .rw[wx h2,wx (Ne.symm h2),wx (h▸h2)]
  .rw[wx h];simp only[lkM,KB (N:=r)];by_cases h2:p.1=x
   .rw[wH h2,wH h2,wx (h2▸h)]
   .rw[wx h2,wx h2]
theorem Lj(S:ze)(j:Nat):(S.map q9).getD j []=q9 (S.getD j []):=by
 rw[xR,xR,List.getElem?_map];cases S[j]? with
 |none=>simp[q9]
 |some l=>rfl
def tp{c:Cd}{fr:ze}{kn:zq}:∀(fs:List Fn) (ls:ze) (b:Int),zR fs=zR ls->(pP c fr kn fs ls b).length=zR fs
 |[],[],_,_=>rfl
 |f::r,l::ls,b,h=>by
  simp only[pP,yJ];rw[tp r ls _ (by simpa using h)]
def LH:∀(ls:ze) (b:Int),(uK ls b).length=zR ls
 |[],_=>rfl
 |l::r,b=>by simp only[uK,yJ,LH r]
def cnv(c:Cd)(kn:zq):Cd:={c with fs:=pP c ((qF c).map q9) kn c.fs ((qF c).map q9) c.vars,vars:=Zj ((qF c).map q9) c.vars}
def ce:((qF c).map q9).length=zR c.fs:=by rw[zuJ,Qq]
def eqT{a b:Int}:eqD a b=true↔a=b:=by unfold eqD;rw[hZ]
def aO(N:Nat)(kn:zq):Prop:=∀v t,lkM v kn=some t->∃j,t=.ofNat j/\j<N
mutual
def Ai:Trm->Prop
 |.mk k _ op _ _ _ ks=>aX k op=false/\Ht ks
def Ht:List Trm->Prop
 |[]=>True
 |x::r=>Ai x/\Ht r
end
def GP{f:Fn}{op n fn:Int}{az:List Atm}{ks:List Trm}(h:uD c f (.mk k v op n fn az ks)=true)(h2:eqD k (.ofNat 2)=true):∃j,fn=.ofNat j/\j<List.length c.fs:=by
 unfold uD at h;simp only[Trm.atoms,Trm.kind,Trm.var,Trm.op,Trm.num,Trm.fn,Trm.kids]at h;rw[zU]at h;have hk:k=.ofNat 2:=by simpa [eqD]using h2
 have h1:eqD k (.ofNat 1)=false:=by rw[hk];rfl
 have h3:=h.2;rw[h1,wK]at h3;unfold Yz at h3;rw[zU,h2,wy,zU,zU]at h3;exact gC h3.2.1.1
mutual
theorem Nd{c:Cd}{f:Fn}:∀(t:Trm) (kn kn2:zq),ur c f t=true->opF t kn=some kn2->aO (zR c.fs) kn->Ai t/\aO (zR c.fs) kn2
 | .mk k v op n fn az ks,kn,kn2,ht,h,hk=>by
  simp only[ur,zU]at ht;simp only[opF]at h;cases hb:aX k op with
  |true=>rw[hb]at h;cases h
  | false=>
   rw[hb,wK]at h;have hk2:aO (zR c.fs) (bif eqD k (.ofNat 2)then Hy v fn kn else kn):=by
    cases h2:eqD k (.ofNat 2)with
    |false=>exact hk
    |true=>
     intro x t hx;rw[wy,KB]at hx;split at hx
     .cases hx;exact GP ht.1 h2
     .exact hk x t hx
   obtain⟨q1,q2⟩:=Aj ks _ kn2 ht.2 h hk2;simp only[Ai];exact⟨⟨hb,q1⟩,q2⟩
theorem Aj{c:Cd}{f:Fn}:∀(ks:List Trm) (kn kn2:zq),jH c f ks=true->Vo ks kn=some kn2->aO (zR c.fs) kn->Ht ks/\aO (zR c.fs) kn2
 |[],kn,kn2,_,h,hk=>by
  simp only[Vo,wB]at h;subst h;simp only[Ht];exact⟨trivial,hk⟩
 |x::r,kn,kn2,ht,h,hk=>by
  simp only[jH,zU]at ht;simp only[Vo]at h;obtain⟨k1,h1,h2⟩:=Option.bind_eq_some_iff.1 h;obtain⟨q1,q2⟩:=Aj r kn k1 ht.2 h1 hk;obtain⟨q3,q4⟩:=Nd x k1 kn2 ht.1 h2 q2;simp only[Ht];exact⟨⟨q3,q1⟩,q4⟩
end
def iu{c:Cd}:∀(fs:List Fn) (kn kn2:zq),(∀f∈fs,ur c f f.b=true)->lK fs kn=some kn2->aO (zR c.fs) kn->(∀f∈fs,f.fr=[]/\Ai f.b)/\aO (zR c.fs) kn2
 |[],kn,kn2,_,h,hk=>by
  simp only[lK,wB]at h;subst h;exact⟨λf hf=>(by cases hf),hk⟩
 | f::r,kn,kn2,ht,h,hk=>by
  simp only[lK]at h;by_cases hl:0<zR f.fr
  .rw[qL hl]at h;cases h
  .rw[qy hl,wK]at h;obtain⟨k1,h1,h2⟩:=Option.bind_eq_some_iff.1 h;obtain⟨q1,q2⟩:=Nd f.b kn k1 (ht f (by simp)) h1 hk
   obtain⟨q3,q4⟩:=iu r k1 kn2 (λg hg=>ht g (by simp[hg])) h2 q2
   refine⟨λg hg=>?_,q4⟩;rcases List.mem_cons.1 hg with rfl|hg
   .exact⟨List.eq_nil_of_length_eq_zero J,q1⟩
   .exact q3 g hg
def fJ(N:Nat):aO N []:=λv t h=>by cases h
mutual
def tfL:Trm->zq
 |.mk k v _ _ f _ ks=>bif eqD k (.ofNat 2)then (v,f)::Jp ks else Jp ks
def Jp:List Trm->zq
 |[]=>[]
 |t::r=>tfL t++Jp r
end
def tfA:List Fn->zq
 |[]=>[]
 |f::r=>tfL f.b++tfA r
mutual
def cE:Trm->Bool
 |.mk k _ op _ _ _ ks=> !aX k op&&Hu ks
def Hu:List Trm->Bool
 |[]=>true
 |t::r=>cE t&&Hu r
end
def nmL(b:Int):zw->Nat->zq
 |[],_=>[]
 |v::r,k=>(v,b+ .ofNat k)::nmL b r (k+1)
def Xg(v:Int):∀a b:zq,lkM v (a++b)=(lkM v a).or (lkM v b)
 |[],_=>rfl
 |p::a,b=>by
  simp only[yu,lkM];split
  .rfl
  .exact Xg v a b
def Uk{v:Int}:∀{a:zq},v∉a.map (·.1)->lkM v a=none
 |[],_=>rfl
 |p::a,h=>by
  simp only[ye,List.mem_cons,not_or]at h;simp only[lkM];rw[wx (λe=>h.1 e.symm)];exact Uk h.2
def fO{v:Int}:∀{a:zq},lkM v a≠none->v∈a.map (·.1)
 |[],h=>absurd rfl h
 |p::a,h=>by
  simp only[lkM]at h;simp only[ye,List.mem_cons];split at h
  .rename_i e;exact .inl e.symm
  .exact .inr (fO h)
mutual
theorem A7:∀t:Trm,((tfL t).map (·.1)).Sublist (Yh t)
 | .mk k v op n f az ks=>by
  have ih:=mj ks;simp only[tfL,Yh];cases h:eqD k (.ofNat 2)with
  | true=>
   have hb:uj k=true:=by
    have:k=.ofNat 2:=by simpa [eqD]using h
    rw[this];rfl
   rw[hb];exact ih.cons_cons v
  |false=>
   cases uj k with
   |true=>exact List.Sublist.cons v ih
   |false=>exact ih
theorem mj:∀l:List Trm,((Jp l).map (·.1)).Sublist (XS l)
 |[]=>zuM _
 |t::r=>by
  simp only[Jp,XS,yj];exact(A7 t).append (mj r)
end
mutual
theorem KG{M:Nat}:∀{t:Trm},Qv M t->∀x f,lkM x (tfL t)=some f->∃j,f=.ofNat j/\j<M
 | .mk k v op n f az ks,h,x,g,hg=>by
  simp only[Qv]at h;simp only[tfL]at hg;cases e:eqD k (.ofNat 2)with
  |false=>rw[e]at hg;exact HS h.2 x g hg
  |true=>
   rw[e]at hg;simp only[wy,lkM]at hg;split at hg
   .cases hg;exact h.1 e
   .exact HS h.2 x g hg
theorem HS{M:Nat}:∀{l:List Trm},VC M l->∀x f,lkM x (Jp l)=some f->∃j,f=.ofNat j/\j<M
 |[],_,x,g,hg=>by cases hg
 |t::r,h,x,g,hg=>by
  simp only[VC]at h;simp only[Jp,Xg]at hg;cases e:lkM x (tfL t)with
  |some y=>rw[e]at hg;cases hg;exact KG h.1 x _ e
  |none=>rw[e]at hg;exact HS h.2 x g hg
end
def A6{M:Nat}:∀{l:List Fn},(∀f∈l,Qv M f.b)->∀x f,lkM x (tfA l)=some f->∃j,f=.ofNat j/\j<M
 |[],_,x,g,hg=>by cases hg
 |t::r,h,x,g,hg=>by
  simp only[tfA,Xg]at hg;cases e:lkM x (tfL t.b)with
  |some y=>rw[e]at hg;cases hg;exact KG (h t (by simp)) x _ e
  |none=>rw[e]at hg;exact A6 (λf hf=>h f (by simp[hf])) x g hg
def A5:∀l:List Fn,((tfA l).map (·.1)).Sublist (kY l)
 |[]=>zuM _
 |f::r=>by
  simp only[tfA,kY,yj];exact((A7 f.b).append (A5 r)).trans (List.sublist_append_right _ _)
mutual
theorem Nc:∀(t:Trm) (kn kn2:zq),((tfL t).map (·.1)).Nodup->opF t kn=some kn2->∀x,lkM x kn2=(lkM x (tfL t)).or (lkM x kn)
 | .mk k v op n f az ks,kn,kn2,hn,h,x=>by
  simp only[opF]at h;cases hb:aX k op with
  |true=>rw[hb]at h;cases h
  | false=>
   rw[hb,wK]at h;simp only[tfL]at hn|-;cases h2:eqD k (.ofNat 2)with
   |false=>
    rw[h2]at h hn;exact cG ks kn kn2 hn h x
   |true=>
    rw[h2]at h hn;simp only[wy,ye,List.nodup_cons]at h hn;rw[cG ks _ kn2 hn.2 h x,KB];simp only[wy,lkM];by_cases e:x=v
    .subst e;rw[wH rfl,wH rfl,Uk hn.1];rfl
    .rw[wx e,wx (Ne.symm e)]
theorem cG:∀(ks:List Trm) (kn kn2:zq),((Jp ks).map (·.1)).Nodup->Vo ks kn=some kn2->∀x,lkM x kn2=(lkM x (Jp ks)).or (lkM x kn)
 |[],kn,kn2,_,h,x=>by
  simp only[Vo,wB]at h;subst h;rfl
 |t::r,kn,kn2,hn,h,x=>by
  simp only[Vo]at h;simp only[Jp,yj]at hn|-;have hn2:=List.nodup_append.1 hn;obtain⟨k1,h1,h2⟩:=Option.bind_eq_some_iff.1 h;rw[Nc t k1 kn2 hn2.1 h2 x,cG r kn k1 hn2.2.1 h1 x,Xg,Option.or_assoc]
end
theorem rn{a b:Option Int}(h:a≠none->b=none)(c:Option Int):a.or (b.or c)=b.or (a.or c):=by
 cases a with
 |none=>rfl
 |some x=>rw[h (by simp)];rfl
theorem ir:∀(fs:List Fn) (kn kn2:zq),((tfA fs).map (·.1)).Nodup->lK fs kn=some kn2->∀x,lkM x kn2=(lkM x (tfA fs)).or (lkM x kn)
 |[],kn,kn2,_,h,x=>by
  simp only[lK,wB]at h;subst h;rfl
 |f::r,kn,kn2,hn,h,x=>by
  simp only[lK]at h;by_cases hl:0<zR f.fr
  .rw[qL hl]at h;cases h
  .rw[qy hl,wK]at h;obtain⟨k1,h1,h2⟩:=Option.bind_eq_some_iff.1 h;simp only[tfA,yj]at hn|-;have hn2:=List.nodup_append.1 hn;rw[ir r k1 kn2 hn2.2.1 h2 x,Nc f.b kn k1 hn2.1 h1 x,Xg,rn λha=>?_,<-Option.or_assoc];refine Uk λhb=>?_;exact hn2.2.2 x hb x (fO ha) rfl
mutual
theorem iv:∀(t:Trm) (kn:zq),(opF t kn).isSome=cE t
 |.mk k v op n f az ks,kn=>by
  simp only[opF,cE];cases aX k op with
  |true=>rfl
  |false=>rw[wK,PZ ks];rfl
theorem PZ:∀(ks:List Trm) (kn:zq),(Vo ks kn).isSome=Hu ks
 |[],kn=>rfl
 |t::r,kn=>by
  have h1:=PZ r kn;simp only[Vo,Hu];rw[<-h1];cases h:Vo r kn with
  |none=>simp
  |some k1=>simp only[zuf,iv t k1,zv5,Bool.and_true]
end
def Lp:List Fn->Bool
 |[]=>true
 |f::r=> !decide (0<zR f.fr)&&(cE f.b&&Lp r)
def Hs:∀(fs:List Fn) (kn:zq),(lK fs kn).isSome=Lp fs
 |[],kn=>rfl
 | f::r,kn=>by
  have h1:=iv f.b kn;simp only[lK,Lp];cases decide (0<zR f.fr)with
  |true=>rfl
  |false=>
   rw[<-h1,wK];cases opF f.b kn with
   |none=>rfl
   |some k1=>simp only[zuf,Hs r k1,zv5,xC,zv6]
def Ad{b:Int}:∀(l:zw) (k:Nat) (N:zq),l.Nodup->∀x,lkM x (Vn b l k N)=(lkM x (nmL b l k)).or (lkM x N)
 |[],_,_,_,_=>rfl
 | v::r,k,N,hn,x=>by
  have hn2:=List.nodup_cons.1 hn;simp only[Vn,nmL,lkM];rw[Ad r (k+1) _ hn2.2 x,KB];have hm:∀(l:zw) (k:Nat),(nmL b l k).map (·.1)=l:=λl=>by
   induction l with
   |nil=>intro k;rfl
   |cons y l ih=>intro k;simp only[nmL,ye,ih]
  by_cases e:x=v
  .subst e;rw[wH rfl,wH rfl,Uk (by rw[hm];exact hn2.1)];rfl
  .rw[wx e,wx (Ne.symm e)]
def zwS{b:Int}(h:l.Nodup)(v:Int):nmF (Vn b l 0 []) v=nmF (nmL b l 0) v:=by
 unfold nmF;rw[Ad l 0 [] h v,show lkM v []=none from rfl,Option.or_none]
section
variable {c:Cd}{fr:ze}{kn kn2 nm nm2:zq}(hk:∀v,lkM v kn=lkM v kn2)(hn:∀v,nmF nm v=nmF nm2 v)
include hk hn
def Tp(k f:Int)(az:List Atm):hdF c fr kn nm k f az=hdF c fr kn2 nm2 k f az:=by
 have h1:rnA nm=rnA nm2:=funext λa=>by unfold rnA;rw[hn]
 have h2:vrA nm=vrA nm2:=funext λv=>by unfold vrA;rw[hn]
 have h3:knF c kn az=knF c kn2 az:=by
  unfold knF;cases az with
  |nil=>rfl
  |cons a r=>simp only[hk]
 unfold hdF;rw[h1,h2,h3]
mutual
theorem A8:∀t:Trm,tmF c fr kn nm t=tmF c fr kn2 nm2 t
 |.mk k v op n f az ks=>by simp only[tmF,Tp hk hn k f az,ml ks]
theorem ml:∀l:List Trm,pE c fr kn nm l=pE c fr kn2 nm2 l
 |[]=>rfl
 |t::r=>by simp only[pE,A8 t,ml r]
end
end
def YA(c:Cd)(fr:ze):List Fn->ze->Int->List Fn
 |f::r,l::ls,b=>{f with fr:=l,b:=jR b (zR l) (tmF c fr (tfA c.fs) (nmL b l 0) f.b)}::YA c fr r ls (b+ .ofNat (zR l))
 |_,_,_=>[]
def AO{c:Cd}{fr:ze}{kn:zq}(hk:∀v,lkM v kn=lkM v (tfA c.fs)):∀(fs:List Fn) (ls:ze) (b:Int),(∀l∈ls,l.Nodup)->pP c fr kn fs ls b=YA c fr fs ls b
 |[],_,_,_=>by simp only[pP,YA]
 |f::r,[],_,_=>by simp only[pP,YA]
 |f::r,l::ls,b,h=>by
  simp only[pP,YA];rw[AO hk r ls _ λl hl=>h l (List.mem_cons_of_mem _ hl),A8 hk (zwS (h l zvZ))]
def zx0:∀{a b:zw},RI a->RI b->(∀x,x∈a↔x∈b)->a=b:=λ{a b} ha hb h=>
 N5 ha hb (λx hx=>(h x).1 hx) ((List.perm_ext_iff_of_nodup ha.nd hb.nd).2 h).length_eq
def i6(h:l.Nodup):RI (q9 l):=by
 have h1:(q9 l).Pairwise (λa b=>decide (a<=b)=true):=List.pairwise_mergeSort (λa b c h1 h2=>by simp only[hZ]at *;omega) (λa b=>by simp only[Bool.or_eq_true,hZ];omega) l
 have h2:(q9 l).Nodup:=(List.mergeSort_perm l _).nodup_iff.2 h;unfold RI;refine(List.Pairwise.and h1 h2).imp λ{a b} h=>?_;have:=of_decide_eq_true h.1;have:=h.2;omega
def rQ(c:Cd):j0 c=(qF c).map q9:=by
 have hl:(j0 c).length=(qF c).length:=by rw[Qq];exact ZU c _
 refine List.ext_getElem (by rw[zuJ];exact hl) λj h1 h2=>?_
 have e1:(j0 c).getD j []=(j0 c)[j]:=by rw[xR,xj h1];rfl
 have h3:j<(qF c).length:=J;have e2:(qF c).getD j []=(qF c)[j]:=by rw[xR,xj h3];rfl
 rw[List.getElem_map,<-e1,<-e2];refine zx0 (Vq c _ j) (i6 ((lA c (pg c)).nd j)) λx=>?_;rw[Jm];unfold q9;exact List.mem_mergeSort.symm
def TW(h:Wx c=true):((tfA c.fs).map (·.1)).Nodup:=by
 rw[ip]at h;have h2:(kY c.fs).Nodup:=by
  have:=(Gx (kY c.fs) [] List.nodup_nil);simp only[zv1]at this;cases hd:Le [] (kY c.fs)with
  |true=>rw[hd]at h;cases h
  |false=>
   rw[hd]at this;exact Classical.byContradiction λhc=>by have:=this.2 hc;cases this
 exact h2.sublist (A5 c.fs)
open Int renaming reduceOfNat → rO, reduceNegSucc → rN
def zyq:ICode:=match f37.body with
 |.seq _ (.seq _ (.seq a _))=>a
 |_=>.skip
section
variable {O:Orc}
def Na(h52:O 52=none){tk op num fn:Int}{az:List Atm}{ks:List Trm}{nm:zq}{T:List (Nat×Z)}{m:Nat}(gm:wn L mid=some (.umap (uM nm)))(hmid:mid<n0)(g0:wn L n0=some (.row 44 [.int .i64 tk,.int .i64 v,.int .i64 op,.int .i64 num,.int .i64 fn,.lst (zR az) false (wo wY az),.lst (zR ks) false (w9 ks)]))(hn:n0<n)(hm:m%2^n0=0)(hal:zR az<1000000000)
  (t0:G T 0 (.ptr cp 0)) (t2:G T 2 (.map mid)) (t4:G T 4 (.ptr n0 0)) (t6:G T 6 (.ptr (n0+1) 0)) (t7:G T 7 .nils) {Q:Res->Fr->U->Prop}:
  Ev (evC env (evW env O) none zyq ⟨tmL T,[]⟩ (KL L n m true)) (qa (λf t=>∃T2 L2 n2 m2 Y,f=⟨tmL T2,[]⟩/\t=KL L2 n2 m2 true/\G T2 0 (.ptr cp 0)/\G T2 2 (.map mid)/\G T2 4 (.ptr n0 0)/\G T2 6 (.ptr (n0+1) 0)/\G T2 7 (vZ wY 2 Y (az.map (rnA nm)))/\n<=n2/\m2%2^n0=0/\(az.map (rnA nm)≠[]->n<=Y/\Y<n2/\wn L2 Y=some (.app 51 (wo wY (az.map (rnA nm)))))/\∀j,j<n->wn L2 j=wn L j) Q):=by
 unfold zyq f37 cF;simp only;obtain⟨R,hR⟩:∃R,az.map (rnA nm)=R:=⟨_,rfl⟩;rw[hR];refine wp (wu ?_);apply wA;refine wP (λi:Nat=>zR az-i) (λi f t=>∃T2 L2 n2 m2 Y out,f=⟨tmL T2,[]⟩/\t=KL L2 n2 m2 true/\G T2 0 (.ptr cp 0)/\G T2 2 (.map mid)/\G T2 4 (.ptr n0 0)/\G T2 6 (.ptr (n0+1) 0)/\G T2 7 (vZ wY 2 Y out)/\G T2 15 (.lst (zR az) false (wo wY az))/\G T2 16 (zR az)/\G T2 17 i/\i<=zR az/\zR out=i/\n<=n2/\m2%2^n0=0/\out++(az.drop i).map (rnA nm)=R/\(out≠[]->n<=Y/\Y<n2/\wn L2 Y=some (.app 51 (wo wY out)))/\∀j,j<n->wn L2 j=wn L j) (λi f t hI=>?_) 0 ⟨_,_,_,_,0,[],rfl,rfl,V,V,V,V,by simp (disch:=first|exact dis|fail)only[go_sem,seval,-rO,-rN, *,vZ],V,V,V,yz _,rfl,zX _,hm,hR,λh=>absurd rfl h,λ_ _=>rfl⟩
 clear hR t0 t2 t4 t6 t7 T hm m;obtain⟨T,L2,n2,m2,Y,out,rfl,rfl,t0,t2,t4,t6,t7,t15,t16,t17,hi,rfl,hn2,hm,hR,hg,hfr⟩:=hI;rcases wJ az (zR out)with ⟨hlt,hd⟩|⟨a,hlt,hd⟩
 .have hni:¬zR out<zR az:=J;rw[hd]at hR;simp only[List.map_nil,zvV]at hR;subst hR;have hfr2:=λj (hj:j<n)=>(hfr j hj).symm;clear hfr;refine wu ?_;exact⟨_,L2,n2,m2,Y,rfl,rfl,V,V,V,V,V,hn2,hm,hg,λj hj=>(hfr2 j hj).symm⟩
 .rw[hd,ye]at hR;have hc:=US hd;have gm2:=(hfr mid J).trans gm;have hvar:∀v m o1 o2,cl O 52 [.int .i64 v,.map mid] (KL ((n2,o1)::(n2,o2)::L2) (n2+1) m true)=some (.agg (wY ⟨.ofNat 1,nmF nm v⟩),KL ((n2,o1)::(n2,o2)::L2) (n2+1) m true):=λv m o1 o2=>Rp h52 (by rw[gN J,gN J];exact gm2) v (n2+1) m true J
  obtain⟨ak,an⟩:=a;simp only[wY]at hc hvar;clear hd;refine wq ?_;refine wp (vM sW ?_);refine wu ?_;refine wp (wA ?_);refine wq ?_;cases e1:eqD ak (.ofNat 1)with
  | true=>
   have hW:rnA nm ⟨ak,an⟩=⟨.ofNat 1,nmF nm an⟩:=by unfold rnA;simp only[e1,wy]
   rw[hW]at hR;clear hW;refine wq ?_;refine qB ?_;refine wO (Yf (f:=wY) (n0:=n0) (Y:=Y) (vs:=out) (w:=⟨.ofNat 1,nmF nm an⟩) uV ug gR J (λhne=>?_) (by (repeat rw[wF J]);exact hm) J J J) λv t hv=>?_
   .obtain⟨q1,q2,q3⟩:=hg hne;refine⟨J,J,?_⟩
    (repeat rw[gN J])
    exact q3
   obtain⟨L5,m5,rfl,rfl,g5,hm5,hf5⟩:=hv;have hcat:=vG out ⟨.ofNat 1,nmF nm an⟩;have hfr3:∀j,j<n->wn L j=wn L5 j:=λj hj=>by
    rw[hf5 j J λhne=>by have:=(hg hne).1;omega]
    (repeat rw[gN J])
    exact(hfr j hj).symm
   clear hvar hf5 hg hfr gm2;refine wu ?_;refine wu ?_;exact⟨zR out+1,⟨_,L5,n2+1+1,m5,n2+1,out++[⟨.ofNat 1,nmF nm an⟩],rfl,rfl,V,V,V,V,V,V,V,V,J,hcat,J,hm5,by rw[zum];exact hR,λ_=>⟨J,J,g5⟩,λj hj=>(hfr3 j hj).symm⟩,J⟩
  | false=>
   have hW:rnA nm ⟨ak,an⟩=⟨ak,an⟩:=by unfold rnA;simp only[e1,wK]
   rw[hW]at hR;clear hW;refine wq ?_;refine qB ?_;refine wO (Yf (f:=wY) (n0:=n0) (Y:=Y) (vs:=out) (w:=⟨ak,an⟩) uV ug gR J (λhne=>?_) (by (repeat rw[wF J]);exact hm) J J J) λv t hv=>?_
   .obtain⟨q1,q2,q3⟩:=hg hne;refine⟨J,J,?_⟩
    (repeat rw[gN J])
    exact q3
   obtain⟨L5,m5,rfl,rfl,g5,hm5,hf5⟩:=hv;have hcat:=vG out ⟨ak,an⟩;have hfr3:∀j,j<n->wn L j=wn L5 j:=λj hj=>by
    rw[hf5 j J λhne=>by have:=(hg hne).1;omega]
    (repeat rw[gN J])
    exact(hfr j hj).symm
   clear hvar hf5 hg hfr gm2;refine wu ?_;refine wu ?_;exact⟨zR out+1,⟨_,L5,n2+1+1,m5,n2+1,out++[⟨ak,an⟩],rfl,rfl,V,V,V,V,V,V,V,V,J,hcat,J,hm5,by rw[zum];exact hR,λ_=>⟨J,J,g5⟩,λj hj=>(hfr3 j hj).symm⟩,J⟩
end
def zyo:ICode:=match f37.body with
 |.seq _ (.seq _ (.seq _ (.seq (.seq _ (.block _ (.seq _ (.cond _ a _)))) _)))=>a
 |_=>.skip
section
variable {O:Orc}
attribute [local go_sem] qt in
def M8(h52:O 52=none){id0 jf:Nat}{a7:Z}{tk op num:Int}{x5 x6:Z}{nm:zq}{out0:List Atm}{T:List (Nat×Z)}{m:Nat}(gm:wn L mid=some (.umap (uM nm)))(gc:wn L cp=some (.row 56 [a0,a1,a2,a3,a4,vT fr,a6,a7]))(hmid:mid<lo)(hcp:cp<lo)(hn0:n0<lo)(hlo:lo<=n)(g0:wn L n0=some (.row 44 [tk,v,op,num,jf,x5,x6]))(hm:m%2^n0=0)(hl:∃r,fr.drop jf=l::r)(hal:zR out0+zR l<1000000000)
  (t0:G T 0 (.ptr cp 0)) (t2:G T 2 (.map mid)) (t4:G T 4 (.ptr n0 0)) (t6:G T 6 (.ptr (n0+1) 0)) (t7:G T 7 (vZ wY 2 id0 out0)) (hg0:out0≠[]->lo<=id0/\id0<n/\wn L id0=some (.app 51 (wo wY out0))) {Q:Res->Fr->U->Prop}:
  Ev (evC env (evW env O) none zyo ⟨tmL T,[]⟩ (KL L n m true)) (qa (λf t=>∃T2 L2 n2 m2 Y,f=⟨tmL T2,[]⟩/\t=KL L2 n2 m2 true/\G T2 4 (.ptr n0 0)/\G T2 6 (.ptr (n0+1) 0)/\G T2 7 (vZ wY 2 Y (out0++l.map (vrA nm)))/\n<=n2/\m2%2^n0=0/\(out0++l.map (vrA nm)≠[]->lo<=Y/\Y<n2/\wn L2 Y=some (.app 51 (wo wY (out0++l.map (vrA nm)))))/\∀j,j<lo->wn L2 j=wn L j) Q):=by
 obtain⟨r,hl⟩:=hl;have hcl:=Z2 hl;have hjf:jf<zR fr:=by
  have:=congrArg zR hl;simp only[zvU,yJ]at this;omega
 unfold zyo f37 cF;simp only;obtain⟨R,hR⟩:∃R,out0++l.map (vrA nm)=R:=⟨_,rfl⟩;rw[hR];simp only[vT,qt]at gc hcl;clear hl;refine wq ?_;apply wA;refine wP (λi:Nat=>zR l-i) (λi f t=>∃T2 L2 n2 m2 Y out,f=⟨tmL T2,[]⟩/\t=KL L2 n2 m2 true/\G T2 2 (.map mid)/\G T2 4 (.ptr n0 0)/\G T2 6 (.ptr (n0+1) 0)/\G T2 7 (vZ wY 2 Y out)/\G T2 44 (.lst (zR l) false (wo wN l))/\G T2 45 (zR l)/\G T2 46 i/\i<=zR l/\zR out=zR out0+i/\n<=n2/\m2%2^n0=0/\out++(l.drop i).map (vrA nm)=R/\(out≠[]->lo<=Y/\Y<n2/\wn L2 Y=some (.app 51 (wo wY out)))/\∀j,j<lo->wn L2 j=wn L j) (λi f t hI=>?_) 0 ⟨_,_,_,_,id0,out0,rfl,rfl,V,V,V,V,V,V,V,yz _,rfl,zX _,hm,hR,hg0,λ_ _=>rfl⟩;clear hR t0 t2 t4 t6 t7 T hm m hg0 hcl gc g0;obtain⟨T,L2,n2,m2,Y,out,rfl,rfl,t2,t4,t6,t7,t44,t45,t46,hi,hol,hn2,hm,hR,hg,hfr⟩:=hI;rcases wJ l i with ⟨hlt,hd⟩|⟨v,hlt,hd⟩
 .have hni:¬i<zR l:=J;rw[hd]at hR;simp only[List.map_nil,zvV]at hR;subst hR;have hfr2:=λj (hj:j<lo)=>(hfr j hj).symm;clear hfr;refine wu ?_;exact⟨_,L2,n2,m2,Y,rfl,rfl,V,V,V,hn2,hm,hg,λj hj=>(hfr2 j hj).symm⟩
 .rw[hd,ye]at hR;have hc:=uz hd;have gm2:=(hfr mid hmid).trans gm;have hvar:∀m,cl O 52 [v,.map mid] (KL L2 n2 m true)=some (.agg (wY (vrA nm v)),KL L2 n2 m true):=λm=>Rp h52 gm2 v n2 m true J;simp only[wY,vrA]at hvar;clear hd;refine wq ?_;refine wp (vM sW ?_);refine wu ?_;refine wp (wA ?_);refine wq ?_;refine qB ?_;refine wO (Yf (f:=wY) (n0:=n0) (Y:=Y) (vs:=out) (w:=vrA nm v) uV ug gR J (λhne=>?_) hm J J J) λv' t hv=>?_
  .obtain⟨q1,q2,q3⟩:=hg hne;exact⟨J,q2,q3⟩
  obtain⟨L5,m5,rfl,rfl,g5,hm5,hf5⟩:=hv;have hcat:=vG out (vrA nm v);have hfr3:∀j,j<lo->wn L j=wn L5 j:=λj hj=>by
   rw[hf5 j J λhne=>by have:=(hg hne).1;omega]
   exact(hfr j hj).symm
  clear hvar hf5 hg hfr gm2;refine wu ?_;refine wu ?_;exact⟨i+1,⟨_,L5,n2+1,m5,n2,out++[vrA nm v],rfl,rfl,V,V,V,V,V,V,V,J,J,J,hm5,by rw[zum];exact hR,λ_=>⟨J,J,g5⟩,λj hj=>(hfr3 j hj).symm⟩,J⟩
end
def zyp:ICode:=match f37.body with
 |.seq _ (.seq _ (.seq _ (.seq (.seq _ (.block _ (.seq _ (.cond _ _ (.seq _ (.cond _ a _)))))) _)))=>a
 |_=>.skip
theorem Lz{α:Type}(f:α->zA)(esz Y:Nat)(vs:List α)(s:U):Vy s .v (vZ f esz Y vs)=some (.int .i64 (.ofNat (zR vs))):=by cases vs<;>rfl
section
variable {O:Orc}
attribute [local go_sem] pe QM Z8 Z7 qt Z0 Lz in
def M9{kid:Nat}{a5:Z}{fs:List Fn}{tv op num fn:Int}{a:Atm}{az:List Atm}{x6:Z}{kn:zq}{id0:Nat}{out:List Atm}(gk:wn L kid=some (.umap (uM kn)))(gc:wn L cp=some (.row 56 [.lst (zR fs) false (wo wW fs),a1,a2,a3,a4,a5,a6,.map kid]))(hkid:kid<n)(hcp:cp<n)(hn0:n0<n)(hcn:cp≠n0)(hkn0:kid≠n0)(g0:wn L n0=some (.row 44 [(4:Nat),tv,op,num,fn,.lst (zR az+1) false (wo wY (a::az)),x6]))(hm:m%2^n0=0)(hout:zR out=zR az+1)(hal:zR az<1000000000)(hkn:∀t,lkM a.n kn=some t->∃j g r,t=.ofNat j/\fs.drop j=g::r/\g.ps.length<1000000000)
  (t0:G T 0 (.ptr cp 0)) (t4:G T 4 (.ptr n0 0)) (t6:G T 6 (.ptr (n0+1) 0)) (t7:G T 7 (vZ wY 2 id0 out)) {Q:Res->Fr->U->Prop} (hfs:c.fs=fs):
  Ev (evC env (evW env O) none zyp ⟨tmL T,[]⟩ (KL L n m true)) (qa (λf t=>∃T2 L2 m2,f=⟨tmL T2,[]⟩/\t=KL L2 (n+1) m2 true/\G T2 4 (.ptr n0 0)/\G T2 6 (.ptr (n0+1) 0)/\G T2 7 (vZ wY 2 id0 out)/\m2%2^n0=0/\(∀j,j<n->j≠n0->wn L2 j=wn L j)/\wn L2 n0=some (.row 44 [.int .i64 (match knF c kn (a::az)with|some _=>.ofNat 5|none=>.ofNat 4),tv,op,num,.int .i64 (match knF c kn (a::az)with|some t=>t|none=>fn),.lst (zR az+1) false (wo wY (a::az)),x6])) Q):=by
 have hg:=bT a.n kn;have hc0:qf 2 (wo wY (a::az))=some (wY a):=uT (uV a);obtain⟨ak,an⟩:=a;unfold zyp f37 cF;simp only[knF]at hkn hg|-;have hn1:¬n0=n:=J;have hn2:¬cp=n:=J;have hn3:¬kid=n:=J;simp only[wo,wY,yu,zv1]at g0|-;cases hl:lkM an kn with
 | none=>
  rw[hl]at hg;simp only[Option.map_none]at hg;clear hkn;cases e1:eqD ak (.ofNat 1)with
  |true=>
   refine wq ?_;refine wu ?_;exact⟨_,_,_,rfl,rfl,V,V,V,V,λj h1 h2=>by (repeat rw[gN J]),V⟩
  |false=>
   refine wq ?_;refine wu ?_;exact⟨_,_,_,rfl,rfl,V,V,V,V,λj h1 h2=>by (repeat rw[gN J]),V⟩
 | some t=>
  rw[hl]at hg;simp only[Option.map_some]at hg;obtain⟨j,g,r,rfl,hd,hps⟩:=hkn t hl;have hdr:=kS hd;have hjl:j<zR fs:=by
   have:=congrArg zR hd;simp only[zvU,yJ]at this;omega
  have hga:Xb c (.ofNat j)=g:=by
   show c.fs.getD j fn0=_;rw[hfs,xR,<-List.head?_drop,hd];rfl
  simp only[hga];clear hkn hl hd hga;obtain⟨gps,grest,gcont,gfr,gb⟩:=g;obtain⟨gk,gv,gop,gn,gf,gas,gks⟩:=gb;simp only[wW,wE,qt,yu,zv1]at hdr hps|-;cases e1:eqD ak (.ofNat 1)with
  |false=>
   simp only[Bool.false_and,wK];refine wq ?_;refine wu ?_;exact⟨_,_,_,rfl,rfl,V,V,V,V,λj h1 h2=>by (repeat rw[gN J]),V⟩
  | true=>
   cases grest with
   |true=>
    simp only[Bool.not_true,Bool.false_and,Bool.and_false,wK];refine wq ?_;refine wu ?_;exact⟨_,_,_,rfl,rfl,V,V,V,V,λj h1 h2=>by (repeat rw[gN J]),V⟩
   |false=>
    by_cases hp:zR gps=zR az
    .simp only[zv6,xC,hp,decide_true,wy];rw[hp]at hdr;refine wq ?_;refine wu ?_;exact⟨_,_,_,rfl,rfl,V,V,V,V,λj h1 h2=>by (repeat rw[gN J]),V⟩
    .simp only[zv6,xC,hp,decide_false,wK];refine wq ?_;refine wu ?_;exact⟨_,_,_,rfl,rfl,V,V,V,V,λj h1 h2=>by (repeat rw[gN J]),V⟩
end
structure OnePre(c:Cd)(fr:ze)(kn:zq)(k fn:Int)(az:List Atm):Prop where
 al:zR az<400000000
 k2:eqD k (.ofNat 2)=true->∃j l r,fn=.ofNat j/\fr.drop j=l::r/\zR l<400000000
 k4:eqD k (.ofNat 4)=true->az≠[]
 kn:∀v t,lkM v kn=some t->∃j g r,t=.ofNat j/\c.fs.drop j=g::r/\g.ps.length<1000000000
def zwt:List Atm->Z
 |[]=>.nils
 |a::r=>.lst (a::r).length false (wo wY (a::r))
def zwY(h:Int×Int×List Atm)(v op num:Int)(ks:List Trm):Z:=.agg [.int .i64 h.1,v,op,num,.int .i64 h.2.1,zwt h.2.2,.lst (zR ks) false (w9 ks)]
section
variable {O:Orc}
def zvD{f:Nat}{F:IFunc}(hF:env.funs.get f=some F)(hp:env.pure f=true){a:zA}{R:Z->U->Prop}(ha:zR a<=F.ntmps)
  (hB:Ev (evC env (evW env O) none F.body ⟨qG (tmL []) 0 a,[]⟩ (KL L n 0 true)) λr fr t=>Cv (Yu (KL L n m b) (qJ env.globs F.res (some (r,fr,t)))) R):Cv (jp env (evW env O) f a (KL L n m b)) R:=by
 obtain⟨r,fr,t,e,q⟩:=hB;have:jp env (evW env O) f a (KL L n m b)=Yu (KL L n m b) (qJ env.globs F.res (evC env (evW env O) none F.body ⟨qG (tmL []) 0 a,[]⟩ (KL L n 0 true))):=by
  unfold jp;rw[hF];simp only[qT,qd.2 ha,wy,hp];rfl
 rw[this,e];exact q
def zwA{f:Nat}{F:IFunc}(hF:env.funs.get f=some F)(hp:env.pure f=false){a:zA}{R:Z->U->Prop}(ha:zR a<=F.ntmps)
  (hB:Ev (evC env (evW env O) none F.body ⟨qG (tmL []) 0 a,[]⟩ (KL L n m false)) λr fr t=>Cv (mdR b (qJ env.globs F.res (some (r,fr,t)))) R):Cv (jp env (evW env O) f a (KL L n m b)) R:=by
 obtain⟨r,fr,t,e,q⟩:=hB;have:jp env (evW env O) f a (KL L n m b)=mdR b (qJ env.globs F.res (evC env (evW env O) none F.body ⟨qG (tmL []) 0 a,[]⟩ (KL L n m false))):=by
  unfold jp;rw[hF];simp only[qT,qd.2 ha,wy,hp,wK];rfl
 rw[this,e];exact q
attribute [local go_sem] Lz in
def zxJ(h52:O 52=none){kn nm:zq}{kid:Nat}{b0:Z}(k v op num fn:Int)(az:List Atm)(ks:List Trm)(hp:OnePre c fr kn k fn az)(gc:wn L cp=some (.row 56 [.lst (zR c.fs) false (wo wW c.fs),a1,a2,a3,a4,vT fr,b0,.map kid]))(gk:wn L kid=some (.umap (uM kn)))(gm:wn L mid=some (.umap (uM nm)))(hcp:cp<n)(hkid:kid<n)(hmid:mid<n)(m:Nat)(b:Bool):
  Cv (jp env (evW env O) 37 [.ptr cp 0,.agg (wZ (.mk k v op num fn az ks)),.map mid] (KL L n m b)) λr t=>r=zwY (hdF c fr kn nm k fn az) v op num ks/\t=KL L n m b:=by
 refine zvD (F:=f37) rfl rfl (zvT rfl) ?_;obtain⟨H,hH⟩:∃H,hdF c fr kn nm k fn az=H:=⟨_,rfl⟩;rw[hH];simp only[wE];unfold f37 cF;simp only;refine wq ?_;refine wq ?_;refine qX _ (Na h52 (cp:=cp) (mid:=mid) (n0:=n) (nm:=nm) (tk:=k) (v:=v) (op:=op) (num:=num) (fn:=fn) (az:=az) (ks:=ks) (by (repeat rw[gN J]);exact gm) hmid sW J (by simp[wI]) (by have:=hp.al;omega) sW sW sW sW sW) λf t hI=>?_
 obtain⟨T,L2,n2,m2,Y,rfl,rfl,t0,t2,t4,t6,t7,hn2,hm2,hg,hfr⟩:=hI;have g0:wn L2 n=some (.row 44 [k,v,op,num,fn,.lst (zR az) false (wo wY az),.lst (zR ks) false (w9 ks)]):=(hfr n J).trans (by (repeat first|exact wC _ _ _|rw[gN J]))
 have g1:wn L2 (n+1)=some (.row 44 [(0:Nat),(0:Nat),(0:Nat),(0:Nat),(0:Nat),.nils,.nils]):=(hfr (n+1) J).trans (by (repeat first|exact wC _ _ _|rw[gN J]))
 have gc2:wn L2 cp=some (.row 56 [.lst (zR c.fs) false (wo wW c.fs),a1,a2,a3,a4,vT fr,b0,.map kid]):=(hfr cp J).trans (by (repeat rw[gN J]);first|done|exact gc)
 have gk2:wn L2 kid=some (.umap (uM kn)):=(hfr kid J).trans (by (repeat rw[gN J]);first|done|exact gk)
 have gm2:wn L2 mid=some (.umap (uM nm)):=(hfr mid J).trans (by (repeat rw[gN J]);first|done|exact gm)
 clear hfr;have hal:=hp.al;have hml:(az.map (rnA nm)).length=zR az:=zuJ _;refine qX (λf t=>∃T L3 n3 m3 Y,f=⟨tmL T,[]⟩/\t=KL L3 n3 m3 true/\G T 4 (.ptr n 0)/\G T 6 (.ptr (n+1) 0)/\G T 7 (vZ wY 2 Y H.2.2)/\n+1<n3/\m3%2^n=0/\(H.2.2≠[]->n<=Y)/\(∃x5,wn L3 n=some (.row 44 [.int .i64 H.1,v,op,num,.int .i64 H.2.1,x5,.lst (zR ks) false (w9 ks)]))/\∃y0 y1 y2 y3 y4 y5 y6,wn L3 (n+1)=some (.row 44 [y0,y1,y2,y3,y4,y5,y6])) ?_ λf t hI=>?_
 .unfold hdF at hH;refine wq ?_;apply wA;cases c2:eqD k (.ofNat 2)with
  | true=>
   rw[c2,wy]at hH;subst hH;obtain⟨j,l,r,rfl,hl,hll⟩:=hp.k2 c2;refine wq ?_;refine vM V ?_;have hd:fr.getD (yi j).toNat []=l:=by show fr.getD j []=l;rw[xR,<-List.head?_drop,hl];rfl
   refine Ev.mono (M8 (Q:=λ_ _ _=>False) (lo:=n+1+1) h52 gm2 gc2 J J J hn2 g0 hm2 ⟨r,hl⟩ J V V V V V hg) λr f t q=>?_;cases r with
   |norm=>
    obtain⟨T,L3,n3,m3,id3,rfl,rfl,q4,q6,q7,hn3,hm3,hg3,hf3⟩:=q;simp only[hd];refine⟨T,L3,n3,m3,id3,rfl,rfl,q4,q6,q7,J,hm3,λh=>by have:=(hg3 h).1;omega,⟨_,(hf3 n J).trans g0⟩,_,_,_,_,_,_,_,(hf3 (n+1) J).trans g1⟩
   |exit i=>exact q.elim
   |ret=>exact q.elim
  | false=>
   rw[c2,wK]at hH;refine wq ?_;refine u9 V ?_;refine wq ?_;cases c4:eqD k (.ofNat 4)with
   |false=>
    rw[c4,wK]at hH;subst hH;refine u9 V ?_;refine wu ?_;exact⟨_,L2,n2,m2,Y,rfl,rfl,V,V,V,J,hm2,λh=>by have:=(hg h).1;omega,⟨_,g0⟩,_,_,_,_,_,_,_,g1⟩
   | true=>
    rw[c4,wy]at hH;have hk4:k=.ofNat 4:=by simpa [eqD]using c4
    subst hk4;cases az with
    |nil=>exact absurd rfl (hp.k4 c4)
    |cons a az=>
    refine vM V ?_;refine Ev.mono (M9 (Q:=λ_ _ _=>False) (c:=c) (cp:=cp) (kid:=kid) (n0:=n) (n:=n2) (fs:=c.fs) (kn:=kn) (a:=a) (az:=az) (out:=(a::az).map (rnA nm)) (id0:=Y) gk2 gc2 J J J J J g0 hm2 (by rw[hml];rfl) (by simp only[yJ]at hal;omega) (hp.kn a.n) V V V V rfl) λr f t q=>?_
    cases r with
    | norm=>
     obtain⟨T,L3,m3,rfl,rfl,q4,q6,q7,hm3,hf3,q0⟩:=q;have hH1:H.1=(match knF c kn (a::az)with|some _=>.ofNat 5|none=>.ofNat 4)/\H.2.1=(match knF c kn (a::az)with|some t=>t|none=>fn)/\H.2.2=(a::az).map (rnA nm):=by
      rw[<-hH];cases knF c kn (a::az)<;>exact⟨rfl,rfl,rfl⟩
     rw[hH1.1,hH1.2.1,hH1.2.2];exact⟨T,L3,n2+1,m3,Y,rfl,rfl,q4,q6,q7,J,hm3,λh=>by have:=(hg h).1;omega,⟨_,q0⟩,_,_,_,_,_,_,_,(hf3 (n+1) J J).trans g1⟩
    |exit i=>exact q.elim
    |ret=>exact q.elim
 .obtain⟨T,L3,n3,m3,id3,rfl,rfl,t4,t6,t7,hn3,hm3,hid,⟨x5,e0⟩,y0,y1,y2,y3,y4,y5,y6,e1⟩:=hI;clear hH hg g0 g1 gc2 gk2 gm2 hn2 hm2 gc gk gm hp hal hml;obtain⟨Hk,Hf,Ha⟩:=H;simp only at t7 e0 hid|-;cases Ha with
  |nil=>
   simp only[vZ]at t7;refine ev_zc ?_;exact⟨rfl,rfl⟩
  |cons a r=>
   have hid:=hid (by simp)
   simp only[vZ]at t7;refine ev_zc ?_;exact⟨rfl,rfl⟩
end
structure ClX where
 c:Cd
 fr:ze
 b0:Z
 kn:zq
 nm:zq
 t:Trm
 cp:Nat
 kid:Nat
 mid:Nat
def LW(x:ClX):AObj:=.row 56 (qc x.c++[vT x.fr,x.b0,.map x.kid])
structure ClPre(x:ClX)(args:zA)(s:U):Prop where
 args:args=[.ptr x.cp 0,.agg (wZ x.t),.map x.mid]
 row:s.get x.cp=some (LW x)
 known:s.get x.kid=some (.umap (uM x.kn))
 names:s.get x.mid=some (.umap (uM x.nm))
 l1:x.cp<s.next
 l2:x.kid<s.next
 l3:x.mid<s.next
def sA:∀{a b:zq},uM a=uM b->a=b
 |[],[],_=>rfl
 |[],_::_,h=>by cases h
 |_::_,[],h=>by cases h
 |p::a,q::b,h=>by
  simp only[uM,ye,vc,qj,Z0,Z.agg.injEq,Z.int.injEq,true_and,and_true]at h;have:=sA (a:=a) (b:=b) h.2;rw[this,Prod.ext h.1.1 h.1.2]
def Dj{a b:ze}(h:vT a=vT b):a=b:=by
 simp only[vT,Z.lst.injEq,true_and]at h;exact Gh h.2
def ClPre.uniq{x y:ClX}{args:zA}(h:ClPre x args s)(g:ClPre y args s):x=y:=by
 obtain⟨c,fr,b0,kn,nm,t,cp,kid,mid⟩:=x;obtain⟨c',fr',b0',kn',nm',t',cp',kid',mid'⟩:=y;have h1:=h.args.symm.trans g.args;simp only[vc,Z.ptr.injEq,Z.map.injEq,Z.agg.injEq,and_true]at h1;obtain⟨rfl,h1,rfl⟩:=h1;have:=Za h1;subst this;have h2:=h.row.symm.trans g.row;simp only[wB,LW,AObj.row.injEq,true_and,and_true]at h2;obtain⟨h3,h4⟩:=List.append_inj h2 rfl;have:=Gf h3;subst this;simp only[vc,Z.map.injEq,and_true]at h4;obtain⟨h5,rfl,rfl⟩:=h4;have:=Dj h5;subst this;have h6:=h.known.symm.trans g.known;have h7:=h.names.symm.trans g.names;simp only[wB,AObj.umap.injEq]at h6 h7;rw[sA h6,sA h7]
open Classical in
def gCl(Pre:ClX->Prop)(F:ClX->Z)(args:zA)(s:U):zc:=
 if h:∃x,ClPre x args s/\Pre x then some (F (Classical.choose h),s)else none
def oO{Pre:ClX->Prop}{F:ClX->Z}{x:ClX}{args:zA}(h:ClPre x args s)(hp:Pre x):gCl Pre F args s=some (F x,s):=by
 have hx:∃x,ClPre x args s/\Pre x:=⟨x,h,hp⟩;unfold gCl;rw[dif_pos hx,(Classical.choose_spec hx).1.uniq h]
def bL{Pre:ClX->Prop}{F:ClX->Z}{args:zA}{s':U}{v:Z}(h:gCl Pre F args s=some (v,s')):∃x,ClPre x args s/\Pre x/\v=F x/\s'=s:=by
 by_cases hx:∃x,ClPre x args s/\Pre x
 .obtain⟨x,hx,hp⟩:=hx;rw[oO hx hp]at h;cases h;exact⟨x,hx,hp,rfl,rfl⟩
 .unfold gCl at h;rw[dif_neg hx]at h;cases h
def bK{Pre:ClX->Prop}{F:ClX->Z}(args:zA)(s:U)(v:Z)(s':U)(h:gCl Pre F args s=some (v,s')):Ext s s':=by
 obtain⟨x,_,_,_,rfl⟩:=bL h;exact Ext.refl _
def clL(x:ClX):zb:=[(x.cp,some (LW x)),(x.kid,some (.umap (uM x.kn))),(x.mid,some (.umap (uM x.nm)))]
def ClPre.sub{x:ClX}{args:zA}(h:ClPre x args s):∀Y o,wn (clL x) Y=some o->s.get Y=some o:=λY o ho=>by
 simp only[clL]at ho;rw[wz]at ho;split at ho
 .rename_i e;rw[e,<-ho];exact h.row
 .rw[wz]at ho;split at ho
  .rename_i e;rw[e,<-ho];exact h.known
  .rw[wz]at ho;split at ho
   .rename_i e;rw[e,<-ho];exact h.names
   .cases ho
def ClPre.ne{x:ClX}{args:zA}(h:ClPre x args s):x.cp≠x.kid/\x.cp≠x.mid:=by
 refine⟨λe=>?_,λe=>?_⟩
 .have:=h.row;rw[e,h.known]at this;cases this
 .have:=h.row;rw[e,h.names]at this;cases this
def ClPre.gets{x:ClX}{args:zA}(h:ClPre x args s):wn (clL x) x.cp=some (LW x)/\wn (clL x) x.kid=some (.umap (uM x.kn))/\wn (clL x) x.mid=some (.umap (uM x.nm)):=by
 obtain⟨n1,n2⟩:=h.ne;refine⟨wC _ _ _,?_,?_⟩
 .rw[clL,wz,wx (Ne.symm n1),wC]
 .rw[clL,wz,wx (Ne.symm n2),wz];split
  .rename_i e
   have:=h.known.symm.trans (e▸h.names);rw[this]
  .exact wC _ _ _
theorem zyQ{x:ClX}{args:zA}(h:ClPre x args s):WfA (clL x) s.next:=λj hj=>by
 have h1:=h.l1;have h2:=h.l2;have h3:=h.l3
 rw[clL,gN J,gN J,gN J];rfl
theorem RX{x:ClX}(h1:x.cp<n)(h2:x.kid<n)(h3:x.mid<n):WfA (clL x) n:=λj hj=>by
 rw[clL,gN J,gN J,gN J];rfl
def mR(x:ClX):zA:=[.ptr x.cp 0,.agg (wZ x.t),.map x.mid]
def Px{P:Program}{X:World}(B:Bx P X)(hO:OrcOk P X O){Pre:ClX->Prop}{F:ClX->Z}(hF:∀x,qg (F x)=true)
  (H:∀x,Pre x->∀n,x.cp<n->x.kid<n->x.mid<n->wn (clL x) x.cp=some (LW x)->wn (clL x) x.kid=some (.umap (uM x.kn))->wn (clL x) x.mid=some (.umap (uM x.nm))->Cv (jp env (evW env O) f (mR x) (KL (clL x) n 0 false)) λv1 t2=>∃L2 n2 m2 b2,t2=KL L2 n2 m2 b2/\m2%2^n=0/\∃t3:U,(∀Y o,t3.get Y=some o->wn L2 Y=some o/\n<=Y)/\Fz t3 v1 (F x)):vW P X f (gCl Pre F):=by
 intro args s v s' h;obtain⟨x,hx,hp,rfl,rfl⟩:=bL h;rw[hx.args];obtain⟨g1,g2,g3⟩:=hx.gets;refine zzl hO B.mixed B.glob B.env (s0:=KL (clL x) s'.next 0 false) (zz7 (zyQ hx)) rfl (λY o ho=>by rw[qk]at ho;exact hx.sub Y o ho) (hF x) ((H x hp s'.next hx.l1 hx.l2 hx.l3 g1 g2 g3).mono ?_)
 rintro v1 t2 ⟨L2,n2,m2,b2,rfl,hm,t3,h3,hz⟩
 refine⟨⟨t3,λY o ho=>?_,hz⟩,λY hid=>?_⟩
 .rw[qk];exact h3 Y o ho
 .show m2.testBit Y=false;have:=Nat.testBit_mod_two_pow m2 s'.next Y
  rw[hm,Nat.zero_testBit]at this;have hid':Y<s'.next:=hid
  simpa [hid']using this.symm
def mJ(x:ClX):Prop:=OnePre x.c x.fr x.kn x.t.kind x.t.fn x.t.atoms
def cD(x:ClX):Z:=.agg (wZ (M7 x.c x.fr x.kn x.nm x.t))
def zxo(s:U)(l:List Atm):Fz s (zwt l) (.lst (zR l) false (wo wY l)):=by
 cases l with
 |nil=>exact uc
 |cons a r=>exact uo (wX ug _) (ua pS _)
def Du{P:Program}{X:World}(B:Bx P X)(hO:OrcOk P X O)(h52:O 52=none):vW P X 37 (gCl mJ cD):=by
 refine Px B hO (λx=>by simp only[cD,uF,kE]) λx hp n h1 h2 h3 g1 g2 g3=>?_
 obtain⟨c,fr,b0,kn,nm,⟨k,v,op,num,fn,az,ks⟩,cp,kid,mid⟩:=x;refine(zxJ h52 (c:=c) (fr:=fr) (kn:=kn) (nm:=nm) (cp:=cp) (kid:=kid) (mid:=mid) k v op num fn az ks hp g1 g2 g3 h1 h2 h3 0 false).mono ?_
 rintro r t ⟨rfl,rfl⟩
 refine⟨_,_,_,_,rfl,zv9 _,KL [] 0 0 false,(λY o ho=>by rw[qk]at ho;cases ho),?_⟩
 simp only[cD,M7,wE,zwY];exact gL (wG (wS _ _ _) (wG (wS _ _ _) (wG (wS _ _ _) (wG (wS _ _ _) (wG (wS _ _ _) (wG (zxo _ _) (wG (uo (pM _) (YN _)) ve)))))))
def KS(L:zb):U:=KL L 0 0 true
def UJ(L:zb)(j:Nat):(KS L).get j=wn L j:=qk _ _ _ _ _
def FzA(A9:Nat->Prop)(L:zb)(us ws:zA):Prop:=∃L3,(∀Y o,wn L3 Y=some o->A9 Y/\wn L Y=some o)/\FzL (KS L3) us ws
def FzA.mono{A9 A':Nat->Prop}(h:FzA A9 L us ws)(ha:∀i,A9 i->A' i)(hl:∀i,A9 i->wn L' i=wn L i):FzA A' L' us ws:=by
 obtain⟨L3,h1,h2⟩:=h;refine⟨L3,λY o ho=>?_,h2⟩;obtain⟨g1,g2⟩:=h1 Y o ho;exact⟨ha _ g1,(hl _ g1).trans g2⟩
def lT{v:Z}{k:IntKind}{n:Int}(h:Fz s v (.int k n)):v=.int k n:=by
 simp only[Fz]at h;cases v<;>simp only[wkV]at h<;>first|(cases h;done)|exact h
theorem JR{v:Z}{e:Bool}{cs:zA}(h:Fz s v (.lst n e cs)):vF v=true:=by
 simp only[Fz]at h;obtain⟨_,h|⟨_,Y,off,c,_,_,_,_,_,rfl,_⟩⟩:=h
 .cases v<;>simp only[wkV]at h<;>first|(cases h;done)|rfl
 .rfl
def FzA.cells{A9:Nat->Prop}{t:Trm}(h:FzA A9 L us (wZ t)):∃u6 u7,us=[.int .i64 t.kind,.int .i64 t.var,.int .i64 t.op,.int .i64 t.num,.int .i64 t.fn,u6,u7]/\vF u6=true/\vF u7=true:=by
 obtain⟨k,v,op,n,f,az,ks⟩:=t;obtain⟨L3,_,h⟩:=h;rw[wE]at h;simp only[FzL]at h;obtain⟨u1,_,rfl,h1,u2,_,rfl,h2,u3,_,rfl,h3,u4,_,rfl,h4,u5,_,rfl,h5,u6,_,rfl,h6,u7,_,rfl,h7,rfl⟩:=h;rw[lT h1,lT h2,lT h3,lT h4,lT h5];exact⟨u6,u7,rfl,JR h6,JR h7⟩
def iU:Trm->List Trm->Trm
 |.mk k v op n f az _,ks=>.mk k v op n f az ks
def fq(s:U)(t:Trm):FzL s (wZ t) (wZ t):=by
 obtain⟨k,v,op,n,f,az,ks⟩:=t;rw[wE];exact wG (wS _ _ _) (wG (wS _ _ _) (wG (wS _ _ _) (wG (wS _ _ _) (wG (wS _ _ _) (wG (uo (wX ug _) (ua pS _)) (wG (uo (pM _) (YN _)) ve))))))
def FzA.self{A9:Nat->Prop}(t:Trm):FzA A9 L (wZ t) (wZ t):=⟨[],(λ_ _ h=>by cases h),fq _ t⟩
def FzA.kid{A9 A':Nat->Prop}{op n f:Int}{az:List Atm}{ks:List Trm}{Y:Nat}{xf ff:Bool}{aV:Z}(hAs:∀s,Fz s aV (.lst (List.length az) false (wo wY az)))(he:FzA A9 L us (wZ e))(ha:∀i,A9 i->A' i)(hl:∀i,A9 i->wn L' i=wn L i)(hid:A' Y)(hnid:¬A9 Y)(hg:wn L' Y=some (.row t us xf ff)):FzA A' L' [.int .i64 k,.int .i64 v,.int .i64 op,.int .i64 n,.int .i64 f,aV,.sl Y 0 1 (.fix 1)] (wZ (iU (.mk k v op n f az ks) [e])):=by
 obtain⟨u6,u7,hus,_⟩:=he.cells;obtain⟨L3,h1,h2⟩:=he;have hlen:zR us=7:=by rw[hus];rfl
 refine⟨(Y,some (.row t us xf ff))::L3,λj o ho=>?_,?_⟩
 .rw[wz]at ho;split at ho
  .rename_i e;rw[e,<-ho];exact⟨hid,hg⟩
  .obtain⟨g1,g2⟩:=h1 j o ho;exact⟨ha _ g1,(hl _ g1).trans g2⟩
 .simp only[iU,wE];refine wG (wS _ _ _) (wG (wS _ _ _) (wG (wS _ _ _) (wG (wS _ _ _) (wG (wS _ _ _) (wG (hAs _) (wG ?_ ve))))));have hp:wL (w9 [e])=true:=pM _;show Fz _ (.sl Y 0 1 (.fix 1)) (.lst 1 false (w9 [e]));have hc:w9 [e]=wZ e:=by rw[vx,kF,zvV]
  rw[hc]at hp|-;simp only[Fz];refine⟨hp,.inr ⟨trivial,Y,0,.fix 1,t,us,xf,ff,us,rfl,zX _,by rw[UJ,wC],?_,FzL.mono (λj o ho=>?_) h2⟩⟩
  .show qf _ (qv 0 us)=_;rw[qi,qH];exact qz hlen
  .rw[UJ]at ho|-;rw[wz];split
   .rename_i e;subst e;exact absurd (h1 _ _ ho).1 hnid
   .exact ho
def FzA.kids{A9:Nat->Prop}{op n f:Int}{az:List Atm}{ks:List Trm}{Y:Nat}(hid:ks≠[]->A9 Y/\wn L Y=some (.row 44 (wo wZ ks) true false)):FzA A9 L [.int .i64 k,.int .i64 v,.int .i64 op,.int .i64 n,.int .i64 f,.lst (List.length az) false (wo wY az),gSl 7 Y (List.length ks)] (wZ (.mk k v op n f az ks)):=by
 rw[wE];have h6:∀s w,Fz s w (.lst (zR ks) false (w9 ks))->FzL s [.int .i64 k,.int .i64 v,.int .i64 op,.int .i64 n,.int .i64 f,.lst (zR az) false (wo wY az),w] [.int .i64 k,.int .i64 v,.int .i64 op,.int .i64 n,.int .i64 f,.lst (zR az) false (wo wY az),.lst (zR ks) false (w9 ks)]:=λs w hw=>wG (wS _ _ _) (wG (wS _ _ _) (wG (wS _ _ _) (wG (wS _ _ _) (wG (wS _ _ _) (wG (uo (wX ug _) (ua pS _)) (wG hw ve))))));cases ks with
 |nil=>
  refine⟨[],(λ_ _ h=>by cases h),h6 _ _ ?_⟩
  rw[kF];exact uc
 | cons x r=>
  obtain⟨h1,h2⟩:=hid (by simp)
  refine⟨[(Y,some (.row 44 (wo wZ (x::r)) true false))],λj o ho=>?_,h6 _ _ ?_⟩
  .rw[wz]at ho;split at ho
   .rename_i e;rw[e,<-ho];exact⟨h1,h2⟩
   .cases ho
  .have hp:wL (w9 (x::r))=true:=pM _;rw[lg]at hp|-;show Fz _ (.sl Y 0 (r.length+1) (.opn 7)) (.lst (x::r).length false (wo wZ (x::r)));simp only[Fz];refine⟨hp,.inr ⟨trivial,Y,0,.opn 7,_,_,_,_,wo wZ (x::r),rfl,trivial,by rw[UJ,wC],?_,?_⟩⟩
   .show qf _ (qv 0 _)=_;exact qz rfl
   .have:∀(s:U) (l:List Trm),FzL s (wo wZ l) (wo wZ l):=λs l=>by
     induction l with
     |nil=>exact ve
     |cons y l ih=>exact(fq s y).append ih
    exact this _ _
def EX{α:Type}{bytes:Nat}{f:α->zA}(hl:∀x,(f x).length=esz)(hs:∀x,w8 (f x)=true)(he:1<=esz){Y:Nat}{vs:List α}{w:α}{y:Z}(hr:vs≠[]->lo<=Y/\Y<n/\wn L Y=some (.row t (wo f vs) true false))(hw:WfA L n)(hlo:lo<=n)(hm:m%2^lo=0)(h1:gw y=some 1)(h2:qQ (KL L n m false) esz 1 y=some (f w))(hb:2*(zR vs+1)*bytes<=281474976710656)(hn:zR vs+1<1000000000000):
  Cv (jo (KL L n m false) t esz bytes (gSl esz Y (zR vs)) y) λv s=>∃L' m',v=gSl esz n (vs++[w]).length/\s=KL L' (n+1) m' false/\wn L' n=some (.row t (wo f (vs++[w])) true false)/\WfA L' (n+1)/\m'%2^lo=0/\(∀j,j<n->(vs≠[]->j≠Y)->wn L' j=wn L j):=by
 have hfl:wo f [w]=f w:=vt w;cases vs with
 |nil=>
  refine⟨_,_,LE (q:=0) h1 h2 (.inl rfl) he (by simp only[xY,xB]at hb;exact hb) J,_,_,rfl,rfl,by rw[wz,wH rfl,zv1,hfl],λj hj=>?_,hm,λj hj _=>by rw[gN J]⟩
  rw[gN J];exact hw j J
 | cons u us=>
  obtain⟨hli,hid,g1⟩:=hr (by simp)
  simp only[yJ]at hb hn;have hsw:w8 (f w)=true:=hs w;refine⟨_,_,LF (q:=0) (by rw[qk];exact g1) (by rw[vI hl];rfl) h1 h2 hsw he hb J,_,_,?_,rfl,by rw[wz,wH rfl,qu,hfl],λj hj=>?_,(fS hli).trans hm,λj hj hne=>by rw[gN J,wz,wx (hne (by simp))]⟩
  .simp only[yu,yJ,y8,gSl]
   congr 1
  .rw[gN J,wz];split
   .rfl
   .exact hw j J
mutual
def QT(c:Cd)(fr:ze)(kn:zq):Trm->Prop
 |.mk k _ _ _ f az ks=>OnePre c fr kn k f az/\zR ks<=2/\Jw c fr kn ks
def Jw(c:Cd)(fr:ze)(kn:zq):List Trm->Prop
 |[]=>True
 |t::r=>QT c fr kn t/\Jw c fr kn r
end
def TmP(N:Nat)(x:ClX):Prop:=qb x.t<N/\N<1000000000/\QT x.c x.fr x.kn x.t
def tmX(x:ClX):Z:=.agg (wZ (tmF x.c x.fr x.kn x.nm x.t))
def Kq:List Trm->Trm->Trm
 |[],e=>e
 |x::r,e=>iU x [Kq r e]
def mH:∀(w:List Trm) (x e:Trm),Kq (w++[x]) e=Kq w (iU x [e])
 |[],_,_=>rfl
 |y::w,x,e=>by simp only[yu,Kq,mH w]
def tmA:ICode:=match f20.body with
 |.seq _ (.seq _ (.seq a _))=>a
 |_=>.skip
structure TmS(x:ClX)(L0:zb)(n0:Nat)(w:List Trm)(wid:Nat)(L:zb)(n m:Nat):Prop where
 wf:WfA L n
 le:n0+1+1<=n
 mks:m%2^n0=0
 g1:wn L (n0+1)=some (.row 44 [(0:Nat),(0:Nat),(0:Nat),(0:Nat),(0:Nat),.nils,.nils])
 way:w≠[]->n0+1+1<=wid/\wid<n/\wn L wid=some (.row 44 (wo wZ w) true false)
 old:∀j,j<n0->wn L j=wn L0 j
structure TmT(x:ClX)(n0:Nat)(w:List Trm)(wid:Nat)(T:List (Nat×Z)):Prop where
 t0:G T 0 (.ptr x.cp 0)
 t2:G T 2 (.map x.mid)
 t4:G T 4 (.ptr n0 0)
 t6:G T 6 (.ptr (n0+1) 0)
 t7:G T 7 (gSl 7 wid (zR w))
structure ClIn(x:ClX)(L0:zb)(n0:Nat):Prop where
 l1:x.cp<n0
 l2:x.kid<n0
 l3:x.mid<n0
 g1:wn L0 x.cp=some (LW x)
 g2:wn L0 x.kid=some (.umap (uM x.kn))
 g3:wn L0 x.mid=some (.umap (uM x.nm))
section
variable {O:Orc}
def Nb(h37:O 37=some (gCl mJ cD)){x:ClX}(hx:ClIn x L0 n0)(hn:n0<=n)(ho:∀j,j<n0->wn L j=wn L0 j){op num fn:Int}{az:List Atm}{ks:List Trm}(hp:OnePre x.c x.fr x.kn k fn az)(m:Nat)(b:Bool):
  (evW env O).call 37 [.ptr x.cp 0,.agg [.int .i64 k,.int .i64 v,.int .i64 op,.int .i64 num,.int .i64 fn,.lst (zR az) false (wo wY az),.lst (zR ks) false (w9 ks)],.map x.mid] (KL L n m b)=some (.agg (wZ (M7 x.c x.fr x.kn x.nm (.mk k v op num fn az ks))),KL L n m b):=by
 rw[qx h37,oO (x:={x with t:=.mk k v op num fn az ks})]
 .rfl
 .refine⟨by simp only[wE],?_,?_,?_,?_,?_,?_⟩
  .rw[qk,ho _ hx.l1];exact hx.g1
  .rw[qk,ho _ hx.l2];exact hx.g2
  .rw[qk,ho _ hx.l3];exact hx.g3
  .exact zT hx.l1 hn
  .exact zT hx.l2 hn
  .exact zT hx.l3 hn
 .exact hp
attribute [local go_sem] qq qp in
def zwb(h37:O 37=some (gCl mJ cD)){x:ClX}(hx:ClIn x L0 n0)(hN:qb x.t<1000000000)(hone:QT x.c x.fr x.kn x.t)(hS:TmS x L0 n0 [] 0 L n m)(g0:wn L n0=some (jg x.t))(hT:TmT x n0 [] 0 T){Q:Res->Fr->U->Prop}:
  Ev (evC env (evW env O) none tmA ⟨tmL T,[]⟩ (KL L n m false)) (qa (λf t=>∃T2 L2 n2 m2 w wid cur,f=⟨tmL T2,[]⟩/\t=KL L2 n2 m2 false/\TmT x n0 w wid T2/\TmS x L0 n0 w wid L2 n2 m2/\wn L2 n0=some (jg cur)/\zR cur.kids≠1/\QT x.c x.fr x.kn cur/\qb cur+zR w<=qb x.t/\Kq w (tmF x.c x.fr x.kn x.nm cur)=tmF x.c x.fr x.kn x.nm x.t) Q):=by
 unfold tmA f20 cF;simp only;obtain⟨R,hR⟩:∃R,tmF x.c x.fr x.kn x.nm x.t=R:=⟨_,rfl⟩;rw[hR];apply wA;refine wP (λp:List Trm×Trm=>qb p.2) (λp f t=>∃T2 L2 n2 m2 wid,f=⟨tmL T2,[]⟩/\t=KL L2 n2 m2 false/\TmT x n0 p.1 wid T2/\TmS x L0 n0 p.1 wid L2 n2 m2/\wn L2 n0=some (jg p.2)/\QT x.c x.fr x.kn p.2/\qb p.2+zR p.1<=qb x.t/\Kq p.1 (tmF x.c x.fr x.kn x.nm p.2)=R) (λp f t hI=>?_) ([],x.t) ⟨T,L,n,m,0,rfl,rfl,hT,hS,g0,hone,zX _,hR⟩;clear hR hT hS g0 hone;obtain⟨w,⟨k,v,op,num,fn,az,ks⟩⟩:=p;obtain⟨T,L,n,m,wid,rfl,rfl,⟨t0,t2,t4,t6,t7⟩,hS,g0,hone,hnd,hR⟩:=hI;simp only at t7 hS g0 hone hnd hR|-;have hw:=hS.wf;have hle:=hS.le;simp only[jg,wE]at g0;by_cases h1:zR ks=1
 .obtain⟨y,rfl⟩:∃y,ks=[y]:=by
   rcases ks with _|⟨y,_|⟨z,r⟩⟩
   .cases h1
   .exact⟨y,rfl⟩
   .simp only[yJ]at h1;omega
  simp only[QT,Jw,and_true]at hone;simp only[qb,qY]at hnd;have h37':=λ{L2 n2} (hn:n0<=n2) (ho:∀j,j<n0->wn L2 j=wn L0 j) m=>Nb h37 (L:=L2) (n:=n2) hx hn ho (v:=v) (op:=op) (num:=num) (ks:=[y]) hone.1 m false;have hcall:=h37' (show n0<=n by omega) hS.old
  have hcy:qf 7 (w9 [y])=some (wZ y):=by rw[vx];exact uT (qi y)
  have hcut:qf 7 (qv (0*7) (w9 [y]))=some (wZ y):=hcy;simp only[tmF,pE]at hR;simp only[M7,wE]at hcall;obtain⟨⟨Hk,Hf,Ha⟩,hH⟩:∃H,hdF x.c x.fr x.kn x.nm k fn az=H:=⟨_,rfl⟩;rw[hH]at hcall hR;simp only at hcall hR;clear h37' hH;obtain⟨yk,yv,yo,yn,yf,ya,yks⟩:=y;simp only[wE]at hcy hcut;simp only[yJ,xY]at g0 hcall;have hgo:=λj hj=>(hS.old j hj).symm;refine wp (wq ?_);refine vM V ?_;refine wu ?_;apply wA;refine wp (qB ?_);have hw2:WfA ((n,some (AObj.row 44 (wZ (.mk Hk v op num Hf Ha [.mk yk yv yo yn yf ya yks]))))::L) (n+1):=(hw.up J).same J;refine wO (EX (f:=wZ) (Y:=wid) (lo:=n0) (vs:=w) (w:=.mk Hk v op num Hf Ha [.mk yk yv yo yn yf ya yks]) qi gT J (λhne=>?_) (by simp only[wE]at hw2;exact hw2) J hS.mks rfl ?_ J J) λv' t' hv=>?_
  .obtain⟨q1,q2,q3⟩:=hS.way hne;exact⟨J,J,by rw[gN J];exact q3⟩
  .rw[wE];exact(lE (j:=0) (by rw[qk];exact wC _ _ _) rfl).2
  obtain⟨L7,m7,rfl,rfl,g7,hw7,hm7,hf7⟩:=hv;have hcat:=vG w (.mk Hk v op num Hf Ha [.mk yk yv yo yn yf ya yks]);have e0:wn L7 n0=some (.row 44 [k,v,op,num,fn,.lst (zR az) false (wo wY az),.lst 1 false (w9 [.mk yk yv yo yn yf ya yks])]):=(hf7 n0 J λhne=>by have:=(hS.way hne).1;omega).trans (by rw[gN J];exact g0)
  have e1:wn L7 (n0+1)=some (.row 44 [(0:Nat),(0:Nat),(0:Nat),(0:Nat),(0:Nat),.nils,.nils]):=(hf7 (n0+1) J λhne=>by have:=(hS.way hne).1;omega).trans (by rw[gN J];exact hS.g1)
  have hold:∀j,j<n0->wn L7 j=wn L0 j:=λj hj=>(hf7 j J λhne=>by have:=(hS.way hne).1;omega).trans (by rw[gN J];exact hS.old j hj)
  clear hcall hw2 hf7 hS g0 hgo;have hold2:=λj hj=>(hold j hj).symm;clear hold;refine wu ?_;refine wu ?_;refine⟨(w++[.mk Hk v op num Hf Ha [.mk yk yv yo yn yf ya yks]],.mk yk yv yo yn yf ya yks),⟨_,_,n+1+1,_,n+1,rfl,rfl,⟨V,V,V,V,V⟩,⟨?_,J,?_,?_,λ_=>⟨J,J,?_⟩,λj hj=>?_⟩,?_,hone.2.2,by simp only[qb]at hnd|-;rw[hcat];omega,by rw[mH];exact hR⟩,by simp only[qb,qY];omega⟩
  .refine WfA.same hw7 J
  .exact(wF (zX _)).trans hm7
  .rw[gN J];exact e1
  .rw[gN J];exact g7
  .rw[gN J];exact(hold2 j hj).symm
  .rw[wC];rfl
 .have hgo:=λj hj=>(hS.old j hj).symm;have hks:¬(yi (zR ks)=yi 1):=λe=>h1 (Int.ofNat.inj e);refine wp (wq ?_);refine u9 V ?_;refine wu ?_;exact⟨_,L,n,m,w,wid,.mk k v op num fn az ks,rfl,rfl,⟨V,V,V,V,V⟩,hS,by rw[g0];simp only[jg,wE],h1,hone,hnd,hR⟩
end
def tmB:ICode:=match f20.body with
 |.seq _ (.seq _ (.seq _ b))=>b
 |_=>.skip
def tmC:ICode:=match tmB with
 |.seq _ (.seq _ (.seq _ (.seq _ c)))=>c
 |_=>.skip
def Jg{c:Cd}{fr:ze}{kn:zq}:∀{ks:List Trm} {y:Trm},Jw c fr kn ks->y∈ks->QT c fr kn y
 |t::r,y,h,hy=>by
  simp only[Jw]at h;rcases List.mem_cons.1 hy with rfl|hy
  .exact h.1
  .exact Jg h.2 hy
def Ho:∀{ks:List Trm} {y:Trm},y∈ks->qb y<=qY ks
 |t::r,y,hy=>by
  simp only[qY];rcases List.mem_cons.1 hy with rfl|hy
  .omega
  .have:=Ho hy;omega
section
variable {O:Orc}
def A4(h20:O 20=some (gCl (TmP N) tmX)){x:ClX}(hx:ClIn x L0 n0)(hn:n0<=n)(ho:∀j,j<n0->wn L j=wn L0 j){op num fn:Int}{az:List Atm}{ks:List Trm}(hp:TmP N {x with t:=.mk k v op num fn az ks})(m:Nat)(b:Bool):
  (evW env O).call 20 [.ptr x.cp 0,.agg [.int .i64 k,.int .i64 v,.int .i64 op,.int .i64 num,.int .i64 fn,.lst (zR az) false (wo wY az),.lst (zR ks) false (w9 ks)],.map x.mid] (KL L n m b)=some (.agg (wZ (tmF x.c x.fr x.kn x.nm (.mk k v op num fn az ks))),KL L n m b):=by
 rw[qx h20,oO (x:={x with t:=.mk k v op num fn az ks})]
 .rfl
 .refine⟨by simp only[wE],?_,?_,?_,?_,?_,?_⟩
  .rw[qk,ho _ hx.l1];exact hx.g1
  .rw[qk,ho _ hx.l2];exact hx.g2
  .rw[qk,ho _ hx.l3];exact hx.g3
  .exact zT hx.l1 hn
  .exact zT hx.l2 hn
  .exact zT hx.l3 hn
 .exact hp
structure TmJ(x:ClX)(L0:zb)(n0:Nat)(w:List Trm)(e:Trm)(f:Fr)(t:U):Prop where
 ex:∃T L n m wid b8 us,f=⟨tmL T,[]⟩/\t=KL L n m false/\TmT x n0 w wid T/\G T 8 (.ptr b8 0)/\TmS x L0 n0 w wid L n m/\n0+1<b8/\b8<n/\(w≠[]->wid≠b8)/\wn L b8=some (.row 44 us)/\FzA (λr=>n0+1<r/\r<n/\r≠b8) L us (wZ e)
attribute [local go_sem] qq qp in
def zwc(h20:O 20=some (gCl (TmP N) tmX))(h37:O 37=some (gCl mJ cD)){x:ClX}(hx:ClIn x L0 n0)(hN:N<1000000000){cur:Trm}(hcur:qb cur<N+1)(hone:QT x.c x.fr x.kn cur){w:List Trm}{wid:Nat}{T:List (Nat×Z)}(hS:TmS x L0 n0 w wid L n m)(g0:wn L n0=some (jg cur))(hT:TmT x n0 w wid T){Q:Res->Fr->U->Prop}
  (hQ:∀f t,TmJ x L0 n0 w (tmF x.c x.fr x.kn x.nm cur) f t->Ev (evC env (evW env O) none tmC f t) Q):
  Ev (evC env (evW env O) none tmB ⟨tmL T,[]⟩ (KL L n m false)) Q:=by
 obtain⟨t0,t2,t4,t6,t7⟩:=hT;obtain⟨k,v,op,num,fn,az,ks⟩:=cur;have hw:=hS.wf;have hle:=hS.le;have hgo:=λj hj=>(hS.old j hj).symm;simp only[QT]at hone;simp only[qb]at hcur;have hcall:=λm=>Nb h37 (L:=L) (n:=n) hx J hS.old (v:=v) (op:=op) (num:=num) (ks:=ks) hone.1 m false;simp only[tmF]at hQ;simp only[M7,wE]at hcall;obtain⟨⟨Hk,Hf,Ha⟩,hH⟩:∃H,hdF x.c x.fr x.kn x.nm k fn az=H:=⟨_,rfl⟩;rw[hH]at hcall hQ;simp only at hcall hQ;clear hH;simp only[jg,wE]at g0;unfold tmC at hQ;unfold tmB f20 cF at *;simp only at hQ|-;refine wq ?_;refine wq ?_;obtain⟨R,hR⟩:∃R,pE x.c x.fr x.kn x.nm ks=R:=⟨_,rfl⟩;rw[hR]at hQ;refine qX (λf t=>∃T L2 n2 m2 kid,f=⟨tmL T,[]⟩/\t=KL L2 n2 m2 false/\TmT x n0 w wid T/\G T 8 (.ptr n 0)/\G T 9 (gSl 7 kid (zR R))/\TmS x L0 n0 w wid L2 n2 m2/\n<n2/\wn L2 n=some (.row 44 [Hk,v,op,num,Hf,.lst (zR Ha) false (wo wY Ha),.lst (zR ks) false (w9 ks)])/\(R≠[]->n<kid/\kid<n2/\wn L2 kid=some (.row 44 (wo wZ R) true false))) ?_ λf t hI=>?_
 .refine wq ?_;apply wA;refine wP (λi:Nat=>zR ks-i) (λi f t=>∃T L2 n2 m2 kid out,f=⟨tmL T,[]⟩/\t=KL L2 n2 m2 false/\TmT x n0 w wid T/\G T 8 (.ptr n 0)/\G T 9 (gSl 7 kid (zR out))/\G T 34 (.lst (zR ks) false (w9 ks))/\G T 35 (zR ks)/\G T 36 i/\i<=zR ks/\zR out=i/\out++pE x.c x.fr x.kn x.nm (ks.drop i)=R/\TmS x L0 n0 w wid L2 n2 m2/\n<n2/\wn L2 n=some (.row 44 [Hk,v,op,num,Hf,.lst (zR Ha) false (wo wY Ha),.lst (zR ks) false (w9 ks)])/\(out≠[]->n<kid/\kid<n2/\wn L2 kid=some (.row 44 (wo wZ out) true false))) (λi f t hI=>?_) 0 ⟨_,_,_,_,0,[],rfl,rfl,⟨V,V,V,V,V⟩,sW,by simp (disch:=first|exact dis|fail)only[go_sem,seval,-rO,-rN,gSl],sW,sW,sW,yz _,rfl,hR,⟨?_,J,(wF J).trans hS.mks,?_,λhne=>?_,λj hj=>?_⟩,J,wC _ _ _,λh=>absurd rfl h⟩
  .have hwn:w≠[]->wid<n:=λh=>(hS.way h).2.1;clear hcall hgo g0 hS hw t0 t2 t4 t6 t7 T hR hQ;obtain⟨T,L2,n2,m2,kid,out,rfl,rfl,⟨t0,t2,t4,t6,t7⟩,t8,t9,t34,t35,t36,hi,hol,hR,hS,hn2,gn,hg⟩:=hI;subst hol;rcases wJ ks (zR out)with ⟨hlt,hd⟩|⟨y,hlt,hd⟩
   .rw[hd]at hR;simp only[pE,zvV]at hR;subst hR;have hni:¬zR out<zR ks:=J;refine wu ?_;exact⟨_,L2,n2,m2,kid,rfl,rfl,⟨V,V,V,V,V⟩,V,V,hS,hn2,gn,hg⟩
   .have hy:y∈ks:=zvY (by rw[hd];exact zvZ)
    have hny:=Ho hy;have hoy:=Jg hone.2.2 hy;have hc:=YR hd;rw[hd]at hR;simp only[pE]at hR;obtain⟨yk,yv,yo,yn,yf,ya,yks⟩:=y;have hwf:=hS.wf;have hle2:=hS.le;have hcy:=λ{L3 n3} (hn:n0<=n3) (ho:∀j,j<n0->wn L3 j=wn L0 j) m=>A4 (N:=N) h20 (L:=L3) (n:=n3) hx hn ho (k:=yk) (v:=yv) (op:=yo) (num:=yn) (fn:=yf) (az:=ya) (ks:=yks) ⟨by simp only;omega,hN,hoy⟩ m false
    have hcy1:=λo1 o2 m=>hcy (L3:=(n2,o1)::(n2,o2)::L2) (show n0<=n2+1 by omega) (λj hj=>by rw[gN J,gN J];exact hS.old j hj) m
    simp only[wE]at hc hcy1;generalize tmF x.c x.fr x.kn x.nm (.mk yk yv yo yn yf ya yks)=z at *;obtain⟨zk,zv,zo,zn,zf,za,zks⟩:=z;simp only[wE]at hcy1;clear hcy hd hy;refine wq ?_;refine wp (vM sW ?_);refine wu ?_;refine wp (wA ?_);refine wq ?_;refine qB ?_;have hw2:∀o1 o2 o3:zm,WfA ((n2+1,o1)::(n2,o2)::(n2,o3)::L2) (n2+1+1):=λo1 o2 o3=>((((hwf.up J).same J).same J).same J);refine wO (EX (bytes:=88) (t:=44) (f:=wZ) (Y:=kid) (lo:=n0) (vs:=out) (w:=.mk zk zv zo zn zf za zks) qi gT J (λhne=>?_) (hw2 _ _ _) J (?_:(m2|||1<<<n2)%2^n0=0) rfl ?_ J J) λv' t' hv=>?_
    rotate_left
    .exact(wF J).trans hS.mks
    rotate_left
    rotate_left
    .obtain⟨q1,q2,q3⟩:=hg hne;exact⟨J,J,by (repeat rw[gN J]);exact q3⟩
    .rw[wE];exact(lE (j:=0) (by rw[qk];exact wC _ _ _) rfl).2
    obtain⟨L7,m7,rfl,rfl,g7,hw7,hm7,hf7⟩:=hv;have hcat:=vG out (.mk zk zv zo zn zf za zks);have hf8:∀j,j<n2->(out≠[]->j≠kid)->wn L7 j=wn L2 j:=λj hj hne=>(hf7 j J hne).trans (by (repeat rw[gN J]))
    have hS7:TmS x L0 n0 w wid L7 (n2+1+1+1) m7:=by
     refine⟨hw7,J,hm7,(hf8 (n0+1) J λhne=>by have:=(hg hne).1;omega).trans hS.g1,λhne=>?_,λj hj=>(hf8 j J λhne=>by have:=(hg hne).1;omega).trans (hS.old j hj)⟩
     obtain⟨q1,q2,q3⟩:=hS.way hne;have q4:=hwn hne;exact⟨q1,J,(hf8 wid q2 λh=>by have:=(hg h).1;omega).trans q3⟩
    have gn7:=(hf8 n hn2 λhne=>by have:=(hg hne).1;omega).trans gn
    have hR7:(out++[.mk zk zv zo zn zf za zks])++pE x.c x.fr x.kn x.nm (ks.drop (zR out+1))=R:=by rw[zum];exact hR
    clear hw2 hcy1 hf7 hf8 hg gn hS hR;refine wu ?_;refine wu ?_;exact⟨zR out+1,⟨_,L7,n2+1+1+1,m7,n2+1+1,_,rfl,rfl,⟨V,V,V,V,V⟩,V,V,V,V,V,J,hcat,hR7,hS7,J,gn7,λ_=>⟨J,J,g7⟩⟩,J⟩
  .exact((hw.up J).same J).same J
  .rw[gN J,gN J];exact hS.g1
  .obtain⟨q1,q2,q3⟩:=hS.way hne;exact⟨q1,J,by rw[gN J,gN J];exact q3⟩
  .rw[gN J,gN J];exact hS.old j hj
 .have hwn:w≠[]->wid<n:=λh=>(hS.way h).2.1;clear hcall hgo g0 hS hw t0 t2 t4 t6 t7 T hR;obtain⟨T,L2,n2,m2,kid,rfl,rfl,⟨t0,t2,t4,t6,t7⟩,t8,t9,hS,hn2,gn,hg⟩:=hI;have hle2:=hS.le;have hsc:=ud 7 kid (zR R);simp only[vF]at hsc;refine wq ?_;refine hQ _ _ ⟨⟨_,_,n2,_,wid,n,_,rfl,rfl,⟨V,V,V,V,V⟩,V,⟨hS.wf.same hn2,hle2,(wF J).trans hS.mks,?_,λhne=>?_,λj hj=>?_⟩,J,hn2,λhne=>?_,wC _ _ _,FzA.kids (Y:=kid) λhne=>?_⟩⟩
  .rw[gN J];exact hS.g1
  .obtain⟨q1,q2,q3⟩:=hS.way hne;have:=hwn hne;exact⟨q1,q2,by rw[gN J];exact q3⟩
  .rw[gN J];exact hS.old j hj
  .have:=hwn hne;omega
  .obtain⟨q1,q2,q3⟩:=hg hne;exact⟨⟨J,q2,J⟩,by rw[gN J];exact q3⟩
end
def HT:zy×ICode×ICode:=match tmC with
 |.seq (.seq _ (.block _ (.rf _ ps a b))) _=>(ps,a,b)
 |_=>([],.skip,.skip)
def TbI(L0:zb)(n0' lo:Nat)(A9:Nat->Prop)(w:List Trm)(e0:Trm)(nb l lb dd:Nat)(tF:List (Nat×Z))(k:Nat)(fr:Fr)(s:U):Prop:=
 ∃T L n m e us,fr=⟨tmL T,[]⟩/\s=KL L n m false/\G T 0 (.yld l)/\G T 1 (.ptr nb 0)/\G T 3 (.int .i64 (i3 k))/\k<=zR w/\WfA L n/\n0'<=n/\m%2^lo=0/\wn L l=some (.loop .ready none (tmL tF) HT.1 HT.2.1 HT.2.2 dd)/\wn L lb=some (.row 44 us)/\FzA (λr=>A9 r\/(n0'<=r/\r<n)) L us (wZ e)/\e=Kq (w.drop k) e0/\∀j,j<n0'->j≠lb->j≠l->wn L j=wn L0 j
section
variable {O:Orc}
attribute [local go_sem] qp in
def RK(h:O 38=none){Y k:Nat}(b:Bool):
  Cv (cl O 38 [gSl 7 Y k] (KL L n m b)) λv t=>v=.fn 53 [] [.ptr n 0]/\t=KL ((n,some (.row 42 [gSl 7 Y k]))::L) (n+1) m b:=by
 refine qD (F:=f38) h rfl rfl (zvT rfl) ?_;unfold f38 cF;simp only;refine wq ?_;refine wq ?_;refine ev_zc ?_;exact⟨rfl,rfl⟩
attribute [local go_sem] qq HT tmC tmB f20 in
def OW(h53:O 53=none){nb Y lb l dd:Nat}{tF:List (Nat×Z)}{A9:Nat->Prop}{us0:zA}{w:List Trm}{e0:Trm}(hw:WfA L n)
  (hk2:zR w<1000000000000) (hm:m%2^lo=0) (gnb:wn L nb=some (.row 42 [gSl 7 Y (zR w)])) (ga:w≠[]->wn L Y=some (.row 44 (wo wZ w) true false)) (gl:wn L l=some (.loop .ready none (tmL tF) HT.1 HT.2.1 HT.2.2 dd)) (t8:G tF 8 (.ptr lb 0)) (glb:wn L lb=some (.row 44 us0)) (hce:FzA A9 L us0 (wZ e0))
  (hA:∀r,A9 r->r<n/\r≠lb/\r≠l) (h1:lb<n/\l<n/\nb<n/\(w≠[]->Y<n)) (h2:nb≠lb/\nb≠l/\lb≠l/\(w≠[]->Y≠lb/\Y≠l)) (h3:lo<=lb/\lo<=l) (b:Bool):
  Cv (cl O 53 [.yld l,.ptr nb 0] (KL L n m b)) λv t=>∃us L2 n2 m2,t=KL L2 n2 m2 b/\WfA L2 n2/\n<=n2/\m2%2^lo=0/\wn L2 l=some (.loop .ready none (tmL tF) HT.1 HT.2.1 HT.2.2 dd)/\wn L2 lb=some (.row 44 us)/\FzA (λr=>A9 r\/(n<=r/\r<n2)) L2 us (wZ (Kq w e0))/\∀j,j<n->j≠lb->j≠l->wn L2 j=wn L j:=by
 refine qD (F:=f53) h53 rfl rfl (zvT rfl) ?_;have hs3:=Yb (k:=zR w) J;unfold f53 cF;simp only;refine wq ?_;apply wA;refine wP (λk:Nat=>k) (TbI L n lo A9 w e0 nb l lb dd tF) (λk2 fr s hI=>?_) (zR w) ⟨_,L,n,m,e0,us0,rfl,rfl,sW,sW,sW,J,hw,zX _,hm,gl,glb,hce.mono (λr h=>.inl h) λ_ _=>rfl,by rw[zuK J];rfl,λ_ _ _ _=>rfl⟩
 obtain⟨T,L2,n2,m2,e,us,rfl,rfl,q0,q1,q3,hk3,hw2,hn2,hm2,gl2,glb2,hde,he,hfr⟩:=hI;have gnb2:wn L2 nb=some (.row 42 [gSl 7 Y (zR w)]):=by rw[hfr nb J h2.1 h2.2.1];exact gnb
 cases k2 with
 |zero=>
  rw[List.drop_zero]at he;simp only[i3]at q3;clear gnb glb hs3;refine ev_zc ?_;subst he;exact⟨us,L2,n2,m2,rfl,hw2,hn2,hm2,gl2,glb2,hde,hfr⟩
 | succ k2=>
  have hlt:k2<zR w:=J;have hne:w≠[]:=λe=>by rw[e]at hlt;simp at hlt
  have hia:= @lU 7 Y (zR w) k2 hlt;obtain⟨x,hd⟩:∃x,w.drop k2=x::w.drop (k2+1):=⟨_,zud J⟩;have hcx:qf 7 (qv (k2*7) (wo wZ w))=some (wZ x):=QI qi hd;obtain⟨u6,u7,eu,s6,s7⟩:=hde.cells;have d6:=h1.2.2.2 hne;obtain⟨e9,e10⟩:=h2.2.2.2 hne;have gid:=ga hne;rw[<-hfr Y d6 e9 e10]at gid;have hs2:=Yb (k:=k2) J;have d1:=h1.1;have d2:=h1.2.1;have d3:=h1.2.2.1;have e2:=h2.2.2.1;have e7:=h2.1;have e8:=h2.2.1;obtain⟨h31,h32⟩:=h3;have hA2:∀r,(A9 r\/(n<=r/\r<n2))->r<n2/\r≠lb/\r≠l:=λr hr=>by
   rcases hr with hr|hr
   .have:=hA r hr;exact⟨J,this.2.1,this.2.2⟩
   .exact⟨hr.2,J,J⟩
  clear gnb glb hs3 gl ga hA h1 h2;replace hfr:=λj h1 h2 h3=>(hfr j h1 h2 h3).symm;simp only[i3]at q3;obtain⟨xk,xv,xo,xn,xf,xa,xks⟩:=x;simp only[wE]at hcx;have hde':=hde;rw[eu]at glb2 hde';simp only[vF]at s6 s7;clear hde;generalize e.kind=ek at *;generalize e.var=ev at *;generalize e.op=eo at *;generalize e.num=en at *;generalize e.fn=ef at *;clear eu us;have r2:=e2.symm;refine wu ?_;refine⟨k2,⟨_,_,n2+1+1,_,iU (.mk xk xv xo xn xf xa xks) [e],_,rfl,rfl,V,V,V,J,?_,J,?_,V,V,FzA.kid (λ_=>uo (e:=false) (wX ug _) (ua pS _)) hde' (A':=λr=>A9 r\/(n<=r/\r<n2+1+1)) (Y:=n2+1) (t:=44) (xf:=false) (ff:=false) (λr hr=>hr.imp (λh=>h) λhr=>⟨hr.1,J⟩) (λr hr=>?_) (.inr ⟨J,J⟩) (λhr=>?_) ?_,?_,λj h1 h2 h3=>?_⟩,J⟩
  ·(repeat first|exact hw2.up J|refine WfA.same ?_ J)
  .rw[wF J,wF J,wF J,wF J,wF J];exact hm2
  .have:=hA2 r hr
   (repeat (rw[gN J]))
  .have:=hA2 _ hr;omega
  .simp (disch:=first|exact dis|fail)only[go_sem,seval,-rO,-rN, *]
  .rw[hd,Kq,<-he]
  ·(repeat (rw[gN J]))
   exact(hfr j h1 h2 h3).symm
end
section
variable {O:Orc}
attribute [local go_sem] qq qp in
def zwd(h38:O 38=none)(h53:O 53=none){x:ClX}{w:List Trm}(hwl:List.length w<1000000000){f:Fr}{t:U}(hJ:TmJ x L0 n0 w e f t):Ev (evC env (evW env O) none tmC f t) λr f t=>Cv (mdR false (qJ env.globs f20.res (some (r,f,t)))) λv1 t2=>∃L2 n2 m2 b2,t2=KL L2 n2 m2 b2/\m2%2^n0=0/\∃t3:U,(∀Y o,t3.get Y=some o->wn L2 Y=some o/\n0<=Y)/\Fz t3 v1 (.agg (wZ (Kq w e))):=by
 obtain⟨T,L,n,m,wid,b8,us,rfl,rfl,⟨t0,t2,t4,t6,t7⟩,t8,hS,hb1,hb2,hwb,g8,hz⟩:=hJ;obtain⟨u6,u7,eu,s6,s7⟩:=hz.cells;unfold tmC tmB f20 cF;simp only;have hle:=hS.le;refine wp (wp (qB ?_));refine wO (RK h38 false) λv t hv=>?_;obtain⟨rfl,rfl⟩:=hv;refine wu ?_;apply wA;refine qB ?_;refine II (OW h53 (lo:=n0) (A9:=λr=>n0+1<r/\r<n/\r≠b8) (Y:=wid) (w:=w) (e0:=e) (lb:=b8) (us0:=us) ?_ J hS.mks ?_ (λhne=>?_) (wC _ _ _) ?_ ?_ (hz.mono (λ_ h=>h) λi hi=>?_) (λr hr=>?_) ⟨J,J,J,λhne=>?_⟩ ⟨J,J,J,λhne=>?_⟩ ⟨J,J⟩ false) λv t hr=>?_
 .exact(((hS.wf.up J).same J).same J).same J
 ·(repeat rw[gN J]);exact wC _ _ _
 .obtain⟨q1,q2,q3⟩:=hS.way hne
  (repeat rw[gN J]);exact q3
 .simp (disch:=first|exact dis|fail)only[go_sem,seval,-rO,-rN, *]
 ·(repeat rw[gN J]);exact g8
 ·(repeat rw[gN J])
 .exact⟨J,J,J⟩
 .have:=(hS.way hne).2.1;omega
 .have:=(hS.way hne).2.1;exact⟨hwb hne,J⟩
 obtain⟨us2,L2,n2,m2,rfl,hw2,hn2,hm2,gl,glb,hz2,hF⟩:=hr;have gd:wn L2 (n+1)=some .dfd:=(hF (n+1) J J J).trans (by rw[gN J];exact wC _ _ _)
 have g6:wn L2 (n0+1)=some (.row 44 [(0:Nat),(0:Nat),(0:Nat),(0:Nat),(0:Nat),.nils,.nils]):=(hF (n0+1) J J J).trans (by (repeat rw[gN J]);exact hS.g1)
 obtain⟨y6,y7,ey,z6,z7⟩:=hz2.cells;obtain⟨L3,hL3,hz3⟩:=hz2;simp only[HT,tmC,tmB,f20]at gl;generalize Kq w e=R at *;have hz3':=hz3;rw[ey]at glb hz3';simp only[vF]at z6 z7;clear hF hS hz g8 hz3 ey eu;refine wu ?_;refine wq ?_;refine vy (r:=.ret) ?_;show Cv _ _;rw[kQ (by (repeat rw[gN J]);exact gd)]
 refine qP ?_;refine⟨_,_,_,_,rfl,?_,KS L3,λY o ho=>?_,gL hz3'⟩
 .rw[wF J,wF J,wF J];exact hm2
 .rw[UJ]at ho;obtain⟨q1,q2⟩:=hL3 Y o ho;replace q1:n0+1<Y/\Y<n/\Y≠b8\/n+1+1+1<=Y/\Y<n2:=q1
  (repeat rw[gN J])
  exact⟨q2,J⟩
def zzF(h20:O 20=some (gCl (TmP N) tmX))(h37:O 37=some (gCl mJ cD))(h38:O 38=none)(h53:O 53=none){x:ClX}(hp:TmP (N+1) x)(hx:ClIn x (clL x) n):
  Cv (jp env (evW env O) 20 (mR x) (KL (clL x) n 0 false)) λv1 t2=>∃L2 n2 m2 b2,t2=KL L2 n2 m2 b2/\m2%2^n=0/\∃t3:U,(∀Y o,t3.get Y=some o->wn L2 Y=some o/\n<=Y)/\Fz t3 v1 (tmX x):=by
 refine zwA (F:=f20) rfl rfl (zvT rfl) ?_;obtain⟨hp1,hp2,hp3⟩:=hp;obtain⟨c,fr,b0,kn,nm,⟨k,v,op,num,fn,az,ks⟩,cp,kid,mid⟩:=x;obtain⟨X9,hX⟩:∃X9:ClX,X9=⟨c,fr,b0,kn,nm,.mk k v op num fn az ks,cp,kid,mid⟩:=⟨_,rfl⟩;rw[<-hX]at hp1 hp3 hx|-;have h0:=hx.l1;have hcp:X9.cp=cp:=by rw[hX]
 have hmid:X9.mid=mid:=by rw[hX]
 have ht:X9.t=.mk k v op num fn az ks:=by rw[hX]
 have hwf:WfA (clL X9) n:=RX hx.l1 hx.l2 hx.l3;simp only[mR,hcp,hmid,ht,wE];generalize clL X9=L0 at *;unfold f20 cF;simp only;refine wq ?_;refine wq ?_;refine qX _ (zwb h37 hx J hp3 ⟨?_,J,?_,?_,λh=>absurd rfl h,λj hj=>?_⟩ ?_ ⟨by rw[hcp];simp (disch:=first|exact dis|fail)only[go_sem,seval,-rO,-rN],by rw[hmid];simp (disch:=first|exact dis|fail)only[go_sem,seval,-rO,-rN],sW,sW,by simp (disch:=first|exact dis|fail)only[go_sem,seval,-rO,-rN,gSl]⟩) λf t hI=>?_
 ·(repeat first|exact hwf.up J|refine WfA.same ?_ J)
 .exact zv9 _
 .simp (disch:=first|exact dis|fail)only[go_sem,seval,-rO,-rN]
 ·(repeat rw[gN J])
 .rw[ht];simp only[jg,wE];rw[gN J];exact wC _ _ _
 obtain⟨T,L2,n2,m2,w,wid,cur,rfl,rfl,hT,hS,g0,_,hone,hnd,hway⟩:=hI;have hpos:=vQ cur;refine zwc h20 h37 hx J (cur:=cur) J hone hS g0 hT λf t hJ=>?_;have hX2:tmX X9=.agg (wZ (Kq w (tmF X9.c X9.fr X9.kn X9.nm cur))):=by rw[hway];rfl
 rw[hX2];exact zwd h38 h53 J hJ
end
section
variable {P:Program}{X:World}(B:Bx P X)
include B
def HR{O:Orc}(hO:OrcOk P X O)(h37:O 37=some (gCl mJ cD))(h38:O 38=none)(h53:O 53=none):∀N:Nat,vW P X 20 (gCl (TmP N) tmX)
 |0=>λargs s v s' h=>by
  obtain⟨x,_,hp,_⟩:=bL h;exact absurd hp.1 (Nat.not_lt_zero _)
 |N+1=>by
  have ih:=HR hO h37 h38 h53 N;have hO2:OrcOk P X (withG 20 (gCl (TmP N) tmX) O):=hO.withG bK ih;refine Px B hO2 (λx=>by simp only[tmX,uF,kE]) λx hp n h1 h2 h3 g1 g2 g3=>?_
  exact zzF (O:=withG 20 (gCl (TmP N) tmX) O) (N:=N) rfl h37 h38 h53 hp ⟨h1,h2,h3,g1,g2,g3⟩
end
open Classical in
def iL(A9:Nat->Prop):zb->zb
 |[]=>[]
 |p::r=>if A9 p.1 then p::iL A9 r else iL A9 r
def Ue{A9:Nat->Prop}{j:Nat}:∀{L:zb},A9 j->wn (iL A9 L) j=wn L j
 |[],_=>rfl
 |p::r,h=>by
  obtain⟨i,o⟩:=p;simp only[iL];rw[wz];by_cases hi:A9 i
  .rw[wH hi,wz,Ue h]
  .rw[wx hi,wx (λe:j=i=>hi (e▸h)),Ue h]
def Wg{A9:Nat->Prop}{j:Nat}:∀{L:zb},¬A9 j->wn (iL A9 L) j=none
 |[],_=>rfl
 |p::r,h=>by
  obtain⟨i,o⟩:=p;simp only[iL];by_cases hi:A9 i
  .rw[wH hi,wz,wx (λe:j=i=>h (e▸hi)),Wg h]
  .rw[wx hi,Wg h]
def bJ{A9:Nat->Prop}:FzA A9 L us ws↔FzL (KS (iL A9 L)) us ws:=by
 constructor
 .rintro⟨L3,h1,h2⟩
  refine FzL.mono (λj o ho=>?_) h2;rw[UJ]at ho|-;obtain⟨g1,g2⟩:=h1 j o ho;rw[Ue g1];exact g2
 .intro h;refine⟨iL A9 L,λY o ho=>?_,h⟩;by_cases ha:A9 Y
  .rw[Ue ha]at ho;exact⟨ha,ho⟩
  .rw[Wg ha]at ho;cases ho
def FzA.append{A9:Nat->Prop}{us' ws':zA}(h:FzA A9 L us ws)(h':FzA A9 L us' ws'):FzA A9 L (us++us') (ws++ws'):=by
 rw[bJ]at *;exact FzL.append h h'
def FzA.cons{A9:Nat->Prop}{u w:Z}(h:∀s,Fz s u w)(h':FzA A9 L us ws):FzA A9 L (u::us) (w::ws):=by
 rw[bJ]at *;exact wG (h _) h'
structure RowF{α:Type}(t esz:Nat)(f:α->zA)(A9:Nat->Prop)(L:zb)(n Y:Nat)(vs:List α):Prop where
 ex:vs≠[]->Y<n/\¬A9 Y/\∃us,wn L Y=some (.row t us true false)/\zR us=zR vs*esz/\w8 us=true/\FzA A9 L us (wo f vs)
def RowF.mono{α:Type}{f:α->zA}{A9 A':Nat->Prop}{n' Y:Nat}{vs:List α}(h:RowF t esz f A9 L n Y vs)(hn:n<=n')(hA:∀r,A9 r->A' r)(hA':vs≠[]->¬A' Y)(hl:∀r,A9 r->wn L' r=wn L r)(hid:vs≠[]->wn L' Y=wn L Y):RowF t esz f A' L' n' Y vs:=⟨λhne=>by
 obtain⟨h1,h2,us,h3,h4,h5,h6⟩:=h.ex hne;exact⟨J,hA' hne,us,(hid hne).trans h3,h4,h5,h6.mono hA hl⟩⟩
def Jy:∀a b:zA,w8 (a++b)=(w8 a&&w8 b)
 |[],_=>by simp[w8]
 |v::a,b=>by simp only[yu,ko,Jy a b,Bool.and_assoc]
theorem aN{l:zb}{k:Nat}{ks:zy}(h:i∈ks):(KL l n m b [] (some (k,ks))).get i=wn l i:=by
 rw[WQ,Ws.2 h];simp only[hid,wK,wy];cases Nat.ble k i<;>rfl
def EW{α:Type}{bytes:Nat}{f:α->zA}(he:1<=esz){A9:Nat->Prop}{n4 Y:Nat}{vs:List α}{w:α}{us2:zA}{xf ff:Bool}(hr:RowF t esz f A9 L n4 Y vs)(hA:∀r,A9 r->r<n4)(hw:WfA L n4)(hl:zR us2=esz)(hs:w8 us2=true)(hz:FzA A9 L us2 (f w))(hb:2*(zR vs+1)*bytes<=281474976710656)(hn:zR vs+1<1000000000000):
  Cv (jo (KL ((n4,some (.row t us2 xf ff))::L) (n4+1) 0 false [] (opD.onOf (n4+1) (aC (UA (some (gSl esz Y (zR vs)))) (some [n4])))) t esz bytes (gSl esz Y (zR vs)) (.sl n4 0 1 (.fix 1))) λv s=>∃L' m' on',v=gSl esz (n4+1) (vs++[w]).length/\s=KL L' (n4+1+1) m' false [] on'/\RowF t esz f A9 L' (n4+1+1) (n4+1) (vs++[w])/\WfA L' (n4+1+1)/\(∀j,j<n4->(vs≠[]->j≠Y)->wn L' j=wn L j):=by
 have hAn:¬A9 (n4+1):=λh=>by have:=hA _ h;omega
 have hl1:zR us2=1*esz:=by rw[hl,zuL]
 cases vs with
 | nil=>
  simp only[gSl,xY,HP,Zw,zv1,Ys];have hg:(KL ((n4,some (.row t us2 xf ff))::L) (n4+1) 0 false [] (some (n4+1,[n4]))).get n4=some (.row t us2 xf ff):=by
   rw[aN (by simp)];exact wC _ _ _
  refine⟨_,_,LE (q:=0) rfl (lE (j:=0) hg hl1).2 (.inl rfl) he (by simp only[xY,xB]at hb;exact hb) J,_,_,_,rfl,rfl,⟨λ_=>⟨yK _,hAn,us2,wC _ _ _,by rw[hl];simp,hs,?_⟩⟩,λj hj=>?_,λj hj _=>by rw[gN J,gN J]⟩
  .rw[vt];exact hz.mono (λ_ h=>h) λr hr=>by rw[wz,wx (by have:=hA r hr;omega),wz,wx (by have:=hA r hr;omega)]
  .rw[gN J,gN J];exact hw j J
 | cons u us=>
  obtain⟨hid1,hAi,us1,g1,g2,g3,g4⟩:=hr.ex (by simp)
  simp only[yJ]at hb hn;simp only[gSl,yJ,mh,Zw,yu,zv1,Ys];have hg:(KL ((n4,some (.row t us2 xf ff))::L) (n4+1) 0 false [] (some (n4+1,[Y,n4]))).get n4=some (.row t us2 xf ff):=by
   rw[aN (by simp)];exact wC _ _ _
  have hg2:(KL ((n4,some (.row t us2 xf ff))::L) (n4+1) 0 false [] (some (n4+1,[Y,n4]))).get Y=some (.row t us1 true false):=by
   rw[aN (by simp),gN J];exact g1
  refine⟨_,_,LF (q:=0) hg2 (by rw[g2];rfl) rfl (lE (j:=0) hg hl1).2 hs he hb J,_,_,_,?_,rfl,⟨λ_=>⟨yK _,hAn,us1++us2,wC _ _ _,?_,by rw[Jy,g3,hs];rfl,?_⟩⟩,λj hj=>?_,λj hj hne=>by rw[gN J,wz,wx (hne (by simp)),gN J]⟩
  .rw[y8];rfl
  .rw[y8,g2,hl];simp only[yJ,y8,xY,xe,zuL,xB]
  .rw[<-yu,qu,vt];refine(g4.append hz).mono (λ_ h=>h) λr hr=>?_;rw[wz,wx (by have:=hA r hr;omega),wz,wx (λe:r=Y=>hAi (e▸hr)),wz,wx (by have:=hA r hr;omega)]
  .rw[gN J,wz];split
   .rfl
   .rw[gN J];exact hw j J
def FO:ICode:=match f7.body with
 |.seq _ (.seq _ (.seq _ (.seq _ (.seq _ (.seq (.seq _ (.block _ (.loop (.seq _ (.seq _ (.seq (.block _ a) _)))))) _)))))=>a
 |_=>.skip
def FP:ICode:=match FO with
 |.seq _ (.seq _ (.seq _ (.seq a _)))=>a
 |_=>.skip
def VS(c:Cd)(fr:ze)(bid:Nat)(bz:zw)(kid:Nat):AObj:=.row 56 (qc c++[vT fr,gSl 1 bid (zR bz),.map kid])
structure CvT(c:Cd)(cp ob i b10 b11:Nat)(T:List (Nat×Z)):Prop where
 t1:G T 1 (.ptr 0 0)
 t2:G T 2 (.ptr 1 0)
 t5:G T 5 (.ptr cp 0)
 t6:G T 6 (.ptr ob 0)
 t9:G T 9 i
 t10:G T 10 (.ptr b10 0)
 t11:G T 11 (.ptr b11 0)
 t81:G T 81 (zR c.fs)
 t82:G T 82 i
section
variable {O:Orc}
attribute [local go_sem] qq qp in
def zz4{b10 b11 bn kid:Nat}{T:List (Nat×Z)}(hT:CvT c cp ob i b10 b11 T)(gc:wn L cp=some (VS c fr bid bz kid))(gb:wn L bid=some (.row 3 (wo wN bz) true false))(hb:∃r,bz.drop i=.ofNat bn::r)(hl:∃r,fr.drop i=l::r)(hbn:bn+zR l<4000000000000000000)(hln:zR l<1000000000)(hw:WfA L n){A9:Nat->Prop}(g11:wn L b11=some (.row 44 us))(hz:FzA A9 L us (wZ e))(hA:∀r,A9 r->r<n/\r≠b11)(hcp:cp≠b11)(hbb:bid≠b11){Q:Res->Fr->U->Prop}:
  Ev (evC env (evW env O) none FP ⟨tmL T,[]⟩ (KL L n m false)) (qa (λf t=>∃T2 L2 n2 m2 us2,f=⟨tmL T2,[]⟩/\t=KL L2 n2 m2 false/\CvT c cp ob i b10 b11 T2/\n<=n2/\WfA L2 n2/\wn L2 b11=some (.row 44 us2)/\FzA (λr=>A9 r\/(n<=r/\r<n2)) L2 us2 (wZ (jR (.ofNat bn) (zR l) e))/\∀j,j<n->j≠b11->wn L2 j=wn L j) Q):=by
 obtain⟨t1,t2,t5,t6,t9,t10,t11,t81,t82⟩:=hT;obtain⟨rb,hb⟩:=hb;obtain⟨rl,hl⟩:=hl;have hcl:=Z2 hl;have hcb:=uz hb;have hil:i<zR fr:=by
  have:=congrArg zR hl;simp only[zvU,yJ]at this;omega
 have hib:i<zR bz:=by
  have:=congrArg zR hb;simp only[zvU,yJ]at this;omega
 have hia:= @lU 1 bid (zR bz) i hib;have hcpn:=hw.lt gc;have hbn2:=hw.lt gb;have h11:=hw.lt g11;have hs3:=Yb (k:=zR l) J;obtain⟨c1,c2,c3,c4,c5⟩:=c;simp only[VS,qc,yu,zv1,vT,qt]at gc hcl;simp only at t81;unfold FP FO f7 cF;simp only;obtain⟨R,hR⟩:∃R,jR (.ofNat bn) (zR l) e=R:=⟨_,rfl⟩;rw[hR];refine wq ?_;apply wA;refine wP (λk:Nat=>k) (λk f t=>∃T2 L2 n2 m2 us2 e2,f=⟨tmL T2,[]⟩/\t=KL L2 n2 m2 false/\CvT ⟨c1,c2,c3,c4,c5⟩ cp ob i b10 b11 T2/\G T2 12 (.int .i64 (i3 k))/\k<=zR l/\n<=n2/\WfA L2 n2/\wn L2 b11=some (.row 44 us2)/\FzA (λr=>A9 r\/(n<=r/\r<n2)) L2 us2 (wZ e2)/\jR (.ofNat bn) k e2=R/\∀j,j<n->j≠b11->wn L2 j=wn L j) (λk f t hI=>?_) (zR l) ⟨_,L,n,_,us,e,rfl,rfl,⟨V,V,V,V,V,V,V,V,V⟩,V,zX _,zX _,hw,g11,hz.mono (λr h=>.inl h) λ_ _=>rfl,hR,λ_ _ _=>rfl⟩;clear hR hz hs3 t1 t2 t5 t6 t9 t10 t11 t81 t82 g11 T;obtain⟨T,L2,n2,m2,us2,e2,rfl,rfl,⟨t1,t2,t5,t6,t9,t10,t11,t81,t82⟩,t12,hk,hn2,hw2,g11,hz,hR,hfr⟩:=hI;simp only at t81;cases k with
 |zero=>
  simp only[jR]at hR;subst hR;simp only[i3]at t12;clear gc gb;refine wu ?_;exact⟨_,L2,n2,_,us2,rfl,rfl,⟨V,V,V,V,V,V,V,V,V⟩,hn2,hw2,g11,hz,hfr⟩
 | succ k=>
  simp only[jR]at hR;simp only[i3]at t12;have gc2:=(hfr cp hcpn hcp).trans gc;have gb2:=(hfr bid hbn2 hbb).trans gb;obtain⟨u6,u7,eu,s6,s7⟩:=hz.cells;have hz':=hz;rw[eu]at g11 hz';simp only[vF]at s6 s7;have hs2:=Yb (k:=k) J;generalize e2.kind=ek at *;generalize e2.var=ev at *;generalize e2.op=eo at *;generalize e2.num=en at *;generalize e2.fn=ef at *;have hfr2:=λj h1 h2=>(hfr j h1 h2).symm;clear eu hz gc gb hfr us2;refine wp (wq ?_);refine vM sW ?_;refine wu ?_;refine wu ?_;refine⟨k,⟨_,_,n2+1,_,_,.mk (.ofNat 1) (.ofNat (bn+k)) (.ofNat 105) (.ofNat k) (.ofNat 0) [] [e2],rfl,rfl,⟨V,V,V,V,V,V,V,V,V⟩,V,J,J,?_,wC _ _ _,FzA.kid (az:=[]) (ks:=[]) (λ_=>uc) hz' (A':=λr=>A9 r\/(n<=r/\r<n2+1)) (Y:=n2) (t:=44) (xf:=false) (ff:=false) (λr hr=>hr.imp (λh=>h) λhr=>⟨hr.1,J⟩) (λr hr=>?_) (.inr ⟨J,J⟩) (λhr=>?_) ?_,hR,λj h1 h2=>?_⟩,J⟩
  ·(repeat first|exact hw2.up J|refine WfA.same ?_ J)
  .have:r<n2/\r≠b11:=by
    rcases hr with hr|hr
    .have:=hA r hr;exact⟨J,this.2⟩
    .exact⟨hr.2,J⟩
   (repeat (rw[gN J]))
  .rcases hr with hr|hr
   .have:=hA _ hr;omega
   .omega
  .rw[gN J];exact wC _ _ _
  ·(repeat (rw[gN J]))
   exact(hfr2 j h1 h2).symm
end
def sU:ICode:=match f7.body with
 |.seq _ (.seq _ (.seq _ (.seq _ (.seq _ (.seq a _)))))=>a
 |_=>.skip
structure CvR(c:Cd)(fr:ze)(kn:zq)(bz:zw)(cp kid bid ob:Nat)(VE:Int)(lo:Nat)(L:zb)(n:Nat)(oid:Nat)(out:List Fn):Prop where
 wf:WfA L n
 le:lo<=n
 g0:wn L 0=some (.row 25 (qc c))
 gc:wn L cp=some (VS c fr bid bz kid)
 gk:wn L kid=some (.umap (uM kn))
 gb:wn L bid=some (.row 3 (wo wN bz) true false)
 go:wn L ob=some (.row 25 [gSl 11 oid (zR out),c.main,VE,c.globals,.lst (zR c.consts) false (wQ c.consts)])
structure CvB(cp kid bid ob lo:Nat):Prop where
 b0:0<lo
 b1:cp<lo
 b2:kid<lo
 b3:bid<lo
 b4:ob<lo
 d1:ob≠0
 d2:ob≠cp
 d3:ob≠kid
 d4:ob≠bid
def CvR.to{kn:zq}{kid:Nat}{L2:zb}{n2 oid:Nat}{out:List Fn}(hB:CvB cp kid bid ob lo)(h:CvR c fr kn bz cp kid bid ob VE lo L n oid out)(hw:WfA L2 n2)(hle:n<=n2)(hf:∀j,j<lo->wn L2 j=wn L j):CvR c fr kn bz cp kid bid ob VE lo L2 n2 oid out where
 wf:=hw
 le:=Nat.le_trans h.le hle
 g0:=(hf _ hB.b0).trans h.g0
 gc:=(hf _ hB.b1).trans h.gc
 gk:=(hf _ hB.b2).trans h.gk
 gb:=(hf _ hB.b3).trans h.gb
 go:=(hf _ hB.b4).trans h.go
structure CvPre(N:Nat)(c:Cd)(fr:ze)(kn:zq):Prop where
 nb:N<1000000000
 fl:zR fr=zR c.fs
 nf:zR c.fs<100000000
 ln:∀l∈fr,zR l<400000000
 ps:∀f∈c.fs,zR f.ps<1000000000
 A:∀f∈c.fs,qb f.b<N/\QT c fr kn f.b
section
variable {O:Orc}{N:Nat}
attribute [local go_sem] qq qp in
def MF(h20:O 20=some (gCl (TmP N) tmX))(h21:O 21=none)(h22:O 22=some bN){kn:zq}(hp:CvPre N c fr kn){kid:Nat}{V0:Nat}(hB:CvB cp kid bid ob lo)(hR0:CvR c fr kn bz cp kid bid ob VE lo L lo 0 [])(hbz:bz=uK fr (.ofNat V0))(hV:V0<2000000000000000000)(t1:G T 1 (.ptr 0 0))(t2:G T 2 (.ptr 1 0))(t5:G T 5 (.ptr cp 0))(t6:G T 6 (.ptr ob 0)){Q:Res->Fr->U->Prop}:
  Ev (evC env (evW env O) none sU ⟨tmL T,[]⟩ (KL L lo m false)) (qa (λf t=>∃T2 L2 n2 m2 oid A9,f=⟨tmL T2,[]⟩/\t=KL L2 n2 m2 false/\G T2 2 (.ptr 1 0)/\G T2 6 (.ptr ob 0)/\CvR c fr kn bz cp kid bid ob VE lo L2 n2 oid (pP c fr kn c.fs fr (.ofNat V0))/\RowF 46 11 wW A9 L2 n2 oid (pP c fr kn c.fs fr (.ofNat V0))/\(∀r,A9 r->lo<=r/\r<n2)/\(pP c fr kn c.fs fr (.ofNat V0)≠[]->lo<=oid)/\∀j,j<lo->j≠ob->wn L2 j=wn L j) Q):=by
 unfold sU f7 cF;simp only;obtain⟨R,hR⟩:∃R,pP c fr kn c.fs fr (.ofNat V0)=R:=⟨_,rfl⟩;rw[hR];have hg0:=hR0.g0;simp only[qc]at hg0;refine wq ?_;apply wA;refine wP (λi:Nat=>zR c.fs-i) (λi f t=>∃T L2 n2 m2 oid A9 out v,f=⟨tmL T,[]⟩/\t=KL L2 n2 m2 false/\G T 1 (.ptr 0 0)/\G T 2 (.ptr 1 0)/\G T 5 (.ptr cp 0)/\G T 6 (.ptr ob 0)/\G T 81 (zR c.fs)/\G T 82 i/\i<=zR c.fs/\zR out=i/\CvR c fr kn bz cp kid bid ob VE lo L2 n2 oid out/\RowF 46 11 wW A9 L2 n2 oid out/\(∀r,A9 r->lo<=r/\r<n2)/\(out≠[]->lo<=oid)/\out++pP c fr kn (c.fs.drop i) (fr.drop i) (.ofNat v)=R/\bz.drop i=uK (fr.drop i) (.ofNat v)/\v<=V0+i*400000000/\∀j,j<lo->j≠ob->wn L2 j=wn L j) (λi f t hI=>?_) 0 ⟨_,L,lo,_,0,λ_=>False,[],V0,rfl,rfl,V,V,V,V,V,V,yz _,rfl,hR0,⟨λh=>absurd rfl h⟩,(λr h=>h.elim),(λh=>absurd rfl h),hR,hbz,J,λ_ _ _=>rfl⟩;clear hg0 hR0 hR t1 t2 t5 t6 hbz;obtain⟨T,L2,n2,m2,oid,A9,out,v,rfl,rfl,t1,t2,t5,t6,t81,t82,hi,hol,hC,hO,hA,hoid,hR,hbz,hv,hfr⟩:=hI;subst hol;rcases wJ c.fs (zR out)with ⟨hlt,hd⟩|⟨f,hlt,hd⟩
 .rw[hd]at hR;simp only[pP,zvV]at hR;subst hR;have hni:¬zR out<zR c.fs:=J;clear hbz;refine wu ?_;exact⟨_,L2,n2,m2,oid,A9,rfl,rfl,V,V,hC,hO,hA,hoid,hfr⟩
 .have hfm:f∈c.fs:=zvY (by rw[hd];exact zvZ)
  obtain⟨htn,hto⟩:=hp.A f hfm;have hps:=hp.ps f hfm;have hln:=hp.ln;have hnf:=hp.nf;have hfl:=hp.fl;obtain⟨l,r2,hl⟩:∃l r2,fr.drop (zR out)=l::r2:=⟨_,_,zud J⟩;have hll:=hln l (zvY (by rw[hl];exact zvZ))
  have hl2:fr.drop (zR out+1)=r2:=by rw[<-yQ,hl];rfl
  have hcf:=X0 hd;rw[hl]at hbz;simp only[uK]at hbz;rw[hd,hl]at hR;simp only[pP]at hR;have hvb:v<=V0+40000000000000000:=by
   have:zR out*400000000<=100000000*400000000:=xr _ J;omega
  obtain⟨fps,frest,fcont,ffr,⟨bk,bv,bo,bn,bf,ba,bks⟩⟩:=f;simp only at htn hto hps;simp only[wW,qt,wE]at hcf;have hw:=hC.wf;have hle:=hC.le;have g0:=hC.g0;simp only[qc]at g0;obtain⟨z0,z1,z2,z3,z4,z5,z6,z7,z8⟩:=Y hB;replace hfr:=λj h1 h2=>(hfr j h1 h2).symm;refine wq ?_;refine wp (vM sW ?_);refine wu ?_;refine wp (wA ?_);refine wq ?_;refine wq ?_;refine wp (qB ?_);have hw2:∀o1 o2:zm,WfA ((n2,o1)::(n2,o2)::L2) (n2+1):=λo1 o2=>((hw.up J).same J).same J;have gt1:∀o1 o2:zm,∀j,j<n2->wn ((n2,o1)::(n2,o2)::L2) j=wn L2 j:=λo1 o2 j hj=>by rw[gN J,gN J]
  refine lw (MP h21 (i:=zR out) (bn:=v) (l:=l) (fr:=fr) (bz:=bz) (hw2 _ _) ((gt1 _ _ _ J).trans hC.gc) ((gt1 _ _ _ J).trans hC.gb) ⟨_,hbz⟩ ⟨_,hl⟩ J J 0) λv' t' hv'=>?_;obtain⟨L3,n3,m3,rfl,rfl,hn3,hw3,gn3,hm3,hf3⟩:=hv';have hf3':∀j,j<n2->wn L3 j=wn L2 j:=λj hj=>(hf3 j J).trans (gt1 _ _ _ hj);have g10:wn L3 n2=some (.row 46 [.lst (zR fps) false (wo wN fps),.bool frest,.bool fcont,.lst (zR ffr) false (wo wN ffr),bk,bv,bo,bn,bf,.lst (zR ba) false (wo wY ba),.lst (zR bks) false (w9 bks)]):=(hf3 n2 J).trans (wC _ _ _);have hm3':m3%2^(n2+1)=0:=hm3.trans (zv9 _);have hx:ClIn ⟨c,fr,gSl 1 bid (zR bz),kn,Vn (.ofNat v) l 0 [],.mk bk bv bo bn bf ba bks,cp,kid,n2+1⟩ L3 n3:=⟨by simp only;omega,by simp only;omega,hn3,(hf3' cp J).trans hC.gc,(hf3' kid J).trans hC.gk,gn3⟩
  have hterm:=λm=>A4 h20 hx (zX _) (λ_ _=>rfl) (k:=bk) (v:=bv) (op:=bo) (num:=bn) (fn:=bf) (az:=ba) (ks:=bks) ⟨htn,hp.nb,hto⟩ m false;simp only at hterm;obtain⟨z,hz⟩:∃z,tmF c fr kn (Vn (.ofNat v) l 0 []) (.mk bk bv bo bn bf ba bks)=z:=⟨_,rfl⟩;rw[hz]at hterm hR;obtain⟨zk,zv,zo,zn,zf,za,zks⟩:=z;simp only[wE]at hterm;have hz2:FzA A9 L3 [.int .i64 zk,.int .i64 zv,.int .i64 zo,.int .i64 zn,.int .i64 zf,.lst (zR za) false (wo wY za),.lst (zR zks) false (w9 zks)] (wZ (.mk zk zv zo zn zf za zks)):=by rw[<-wE];exact FzA.self _
  clear hx hm3 gn3 hf3 hw2 gt1 hcf hz hd g0;refine wu ?_;have hw4:∀o1 o2:zm,WfA ((n3,o1)::(n3,o2)::L3) (n3+1):=λo1 o2=>((hw3.up J).same J).same J;have gt4:∀o1 o2:zm,∀j,j<n3->wn ((n3,o1)::(n3,o2)::L3) j=wn L3 j:=λo1 o2 j hj=>by rw[gN J,gN J]
  refine qX _ (zz4 (c:=c) (cp:=cp) (ob:=ob) (i:=zR out) (b10:=n2) (b11:=n3) (bid:=bid) (bn:=v) (kid:=kid) (fr:=fr) (bz:=bz) (l:=l) (A9:=A9) ⟨V,V,V,V,V,V,V,V,V⟩ ((gt4 _ _ cp J).trans ((hf3' cp J).trans hC.gc)) ((gt4 _ _ bid J).trans ((hf3' bid J).trans hC.gb)) ⟨_,hbz⟩ ⟨_,hl⟩ J J (hw4 _ _) (wC _ _ _) (hz2.mono (λ_ h=>h) λr hr=>by (repeat rw[wz,wx (by have:=hA r hr;omega)])) (λr hr=>by have:=hA r hr;exact⟨J,J⟩) J J) λf t hI=>?_
  obtain⟨T4,L4,n4,m4,us4,rfl,rfl,⟨y1,y2,y5,y6,y9,y10,y11,y81,y82⟩,hn4,hw5,g11,hz4,hf4⟩:=hI;have hf:∀j,j<n2+1->wn L4 j=wn L3 j:=λj hj=>(hf4 j J J).trans (gt4 _ _ j J);have hf':∀j,j<n2->wn L4 j=wn L2 j:=λj hj=>(hf j J).trans (hf3' j hj);have g10':=(hf n2 J).trans g10;have hC4:=hC.to hB hw5 J λj hj=>hf' j J;have hO4:RowF 46 11 wW (λr=>A9 r\/(n3+1<=r/\r<n4)) L4 n4 oid out:=hO.mono J (λr h=>.inl h) (λhne h=>by
   obtain⟨q1,q2,_⟩:=hO.ex hne;rcases h with h|h
   .exact q2 h
   .omega) (λr hr=>hf' r (hA r hr).2) λhne=>hf' _ (hO.ex hne).1
  obtain⟨u6,u7,eu,s6,s7⟩:=hz4.cells;have hz5:=hz4;rw[eu]at g11 hz5;simp only[vF]at s6 s7;have hcl1:=λs=>oc h22 Pd fps hps (args:=[qt fps]) (by simp only[QJ,wkL,pc]) s
  have hcl2:=λs=>oc h22 Pd l (show (zR l)<1000000000 by omega) (args:=[qt l]) (by simp only[QJ,wkL,pc]) s
  have gc4:=hC4.gc;have go4:=hC4.go;have hle4:=hC4.le;have hcut:=Z2 hl;have hsc:=ud 11 oid (zR out);have hfl2:zR out<zR fr:=J;simp only[qt]at hcl1 hcl2 hcut;simp only[VS,qc,yu,zv1,vT]at gc4;generalize hW:jR (yi v) (zR l) (.mk zk zv zo zn zf za zks)=W at *;generalize W.kind=ek at *;generalize W.var=ev at *;generalize W.op=eo at *;generalize W.num=en at *;generalize W.fn=ef at *;clear hf4 gt4 hw4 hz4 eu hz2 hterm hf3' g10 t1 t2 t5 t6 t81 t82 hm3' hw3;have hfs:=λj hj=>(hf' j hj).symm;clear hf hf';refine qB ?_;refine lw (EW (t:=46) (bytes:=144) (f:=wW) (vs:=out) (w:=⟨fps,frest,fcont,l,W⟩) J hO4 (λr hr=>?_) hw5 rfl ?_ ?_ J J) λv' t' hv'=>?_
  .rcases hr with hr|hr
   .have:=hA r hr;omega
   .exact hr.2
  .simp only[ko,vF,s6,s7,lO,Bool.and_self]
  .simp only[wW];refine FzA.cons (λs=>uo (Wb fps) (GM fps)) (FzA.cons (λs=>qM _ _) (FzA.cons (λs=>qM _ _) (FzA.cons (λs=>uo (Wb l) (GM l)) ?_)));exact hz5
  obtain⟨L7,m7,on7,rfl,rfl,hO7,hw7,hf7⟩:=hv';have hoid2:out≠[]->lo<=oid/\oid≠ob:=λhne=>by have:=hoid hne;exact⟨this,J⟩
  have hlo7:∀j,j<lo->wn L7 j=wn L4 j:=λj hj=>hf7 j J λhne=>by have:=hoid hne;omega
  have go7:wn L7 ob=some (.row 25 [gSl 11 oid (zR out),c.main,VE,c.globals,.lst (zR c.consts) false (wQ c.consts)]):=(hlo7 ob z4).trans go4;have hcat:=vG out ⟨fps,frest,fcont,l,W⟩;have hsc2:=ud 11 (n4+1) (out++[(⟨fps,frest,fcont,l,W⟩:Fn)]).length;rw[hcat]at hsc2;simp only[vF]at hsc2;have hC7:=hC4.to (L2:=L7) (n2:=n4+1+1) hB hw7 J hlo7;replace hlo7:=λj hj=>(hlo7 j hj).symm;clear hf7 hcl1 hcl2 gc4 go4 hcut hsc hfl2 g11 g10' hoid2 hz5;refine wu ?_;refine wu ?_;have hbz2:bz.drop (zR out+1)=uK r2 (.ofNat (v+zR l)):=by rw[<-yQ,hbz];rfl
  have hR2:(out++[(⟨fps,frest,fcont,l,W⟩:Fn)])++pP c fr kn (c.fs.drop (zR out+1)) (fr.drop (zR out+1)) (.ofNat (v+zR l))=R:=by
   rw[hl2,zum];exact hR
  refine⟨zR out+1,⟨_,_,n4+1+1,_,n4+1,λr=>A9 r\/(n3+1<=r/\r<n4),out++[⟨fps,frest,fcont,l,W⟩],v+zR l,rfl,rfl,V,V,V,V,V,V,J,hcat,⟨hw7.same J,J,?_,?_,?_,?_,?_⟩,hO7.mono (zX _) (λ_ h=>h) (λhne=>(hO7.ex hne).2.1) (λr hr=>?_) (λ_=>?_),λr hr=>?_,λ_=>J,hR2,by rw[hl2];exact hbz2,?_,λj h1 h2=>?_⟩,J⟩
  .rw[wz,wx (Ne.symm z5)];exact hC7.g0
  .rw[wz,wx (Ne.symm z6)];exact hC7.gc
  .rw[wz,wx (Ne.symm z7)];exact hC7.gk
  .rw[wz,wx (Ne.symm z8)];exact hC7.gb
  .rw[wC,hcat]
  .have:lo<=r:=by
    rcases hr with hr|hr
    .exact(hA r hr).1
    .omega
   rw[gN J]
  .rw[gN J]
  .rcases hr with hr|hr
   .have:=hA r hr;omega
   .omega
  .rw[xe,zuL];omega
  .rw[wz,wx h2,<-hlo7 j h1,<-hfs j J];exact(hfr j h1 h2).symm
end
def sS:ICode:=match f7.body with
 |.seq _ (.seq _ (.seq _ (.seq _ (.seq a _))))=>a
 |_=>.skip
def kX:AObj:=.row 25 [.nils,(0:Nat),(0:Nat),(0:Nat),.nils]
structure Cv1(c:Cd)(fr:ze)(kn:zq)(bz:zw)(cp kid bid ob:Nat)(VE:Int)(lo:Nat)(L:zb)(n:Nat):Prop where
 wf:WfA L n
 le:lo<=n
 g0:wn L 0=some (.row 25 (qc c))
 g1:wn L 1=some kX
 gc:wn L cp=some (VS c fr bid bz kid)
 gk:wn L kid=some (.umap (uM kn))
 gb:bz≠[]->lo<=bid
 go:wn L ob=some (.row 25 [.nils,c.main,VE,c.globals,.lst (zR c.consts) false (wQ c.consts)])
structure CvB1(cp kid ob lo:Nat):Prop where
 b0:1<lo
 b1:cp<lo
 b2:kid<lo
 b4:ob<lo
 c0:1<cp
 c1:1<kid
 c2:1<ob
 d2:ob≠cp
 d3:ob≠kid
 d4:cp≠kid
def Cv1.to{kn kn2:zq}{kid:Nat}{L2:zb}{n2:Nat}(hB:CvB1 cp kid ob lo)(h:Cv1 c fr kn bz cp kid bid ob VE lo L n)(hw:WfA L2 n2)(hle:n<=n2)(hk:wn L2 kid=some (.umap (uM kn2)))(hf:∀j,j<lo->j≠kid->wn L2 j=wn L j):Cv1 c fr kn2 bz cp kid bid ob VE lo L2 n2 where
 wf:=hw
 le:=Nat.le_trans h.le hle
 g0:=(hf _ (by have:=hB.b0;omega) (by have:=hB.c1;omega)).trans h.g0
 g1:=(hf _ hB.b0 (by have:=hB.c1;omega)).trans h.g1
 gc:=(hf _ hB.b1 hB.d4).trans h.gc
 gk:=hk
 gb:=h.gb
 go:=(hf _ hB.b4 hB.d3).trans h.go
section
variable {O:Orc}
attribute [local go_sem] qq qp in
def ME(h19:O 19=none){c:Cd}{fr:ze}(hfl:zR fr=zR c.fs)(hnf:zR c.fs<100000000)(hln:∀l∈fr,zR l<400000000)(hsz:∀f∈c.fs,zR f.fr<1000000000/\SzT f.b/\J6 f.b){kid:Nat}{V0:Nat}{L:zb}{m:Nat}(hB:CvB1 cp kid ob lo)(hR0:Cv1 c fr [] [] cp kid 0 ob (.ofNat V0) lo L lo)(hV:V0<2000000000000000000)
  {T:List (Nat×Z)} (t1:G T 1 (.ptr 0 0)) (t2:G T 2 (.ptr 1 0)) (t5:G T 5 (.ptr cp 0)) (t6:G T 6 (.ptr ob 0)) {Q:Res->Fr->U->Prop} (hQ:lK c.fs []=none->∀T L n m,G T 2 (.ptr 1 0)->G T 3 (.int .i64 (.ofNat 2))->wn L 1=some kX->Q .ret ⟨tmL T,[]⟩ (KL L n m false)):
  Ev (evC env (evW env O) none sS ⟨tmL T,[]⟩ (KL L lo m false)) (qa (λf t=>∃T2 L2 n2 m2 bid kn,f=⟨tmL T2,[]⟩/\t=KL L2 n2 m2 false/\G T2 1 (.ptr 0 0)/\G T2 2 (.ptr 1 0)/\G T2 5 (.ptr cp 0)/\G T2 6 (.ptr ob 0)/\lK c.fs []=some kn/\Cv1 c fr kn (uK fr (.ofNat V0)) cp kid bid ob (Zj fr (.ofNat V0)) lo L2 n2/\RowF 3 1 wN (λ_=>False) L2 n2 bid (uK fr (.ofNat V0))) Q):=by
 unfold sS f7 cF;simp only;obtain⟨R,hR⟩:∃R,lK c.fs []=R:=⟨_,rfl⟩;obtain⟨BZ,hBZ⟩:∃R,uK fr (.ofNat V0)=R:=⟨_,rfl⟩;obtain⟨VE,hVE⟩:∃R,Zj fr (.ofNat V0)=R:=⟨_,rfl⟩;rw[hBZ,hVE];rw[hR]at hQ|-;have hg0:=hR0.g0;simp only[qc]at hg0;refine wq ?_;apply wA;refine wP (λi:Nat=>zR c.fs-i) (λi f t=>∃T L2 n2 m2 bid bz v kn,f=⟨tmL T,[]⟩/\t=KL L2 n2 m2 false/\G T 1 (.ptr 0 0)/\G T 2 (.ptr 1 0)/\G T 5 (.ptr cp 0)/\G T 6 (.ptr ob 0)/\G T 36 (.lst (zR c.fs) false (wo wW c.fs))/\G T 37 (zR c.fs)/\G T 38 i/\i<=zR c.fs/\zR bz=i/\Cv1 c fr kn bz cp kid bid ob (.ofNat v) lo L2 n2/\RowF 3 1 wN (λ_=>False) L2 n2 bid bz/\lK (c.fs.drop i) kn=R/\bz++uK (fr.drop i) (.ofNat v)=BZ/\Zj (fr.drop i) (.ofNat v)=VE/\v<=V0+i*400000000) (λi f t hI=>?_) 0 ⟨_,L,lo,_,0,[],V0,[],rfl,rfl,V,V,V,V,V,V,V,yz _,rfl,hR0,⟨λh=>absurd rfl h⟩,hR,hBZ,hVE,J⟩;clear hg0 hR0 hR hBZ hVE t1 t2 t5 t6;obtain⟨T,L2,n2,m2,bid,bz,v,kn,rfl,rfl,t1,t2,t5,t6,t36,t37,t38,hi,hbl,hC,hO,hR,hBZ,hVE,hv⟩:=hI;subst hbl;obtain⟨z0,z1,z2,z3,z4,z5,z6,z7,z8,z9⟩:=Y hB;rcases wJ c.fs (zR bz)with ⟨hlt,hd⟩|⟨f,hlt,hd⟩
 .rw[hd]at hR;have hdf:fr.drop (zR bz)=[]:=zuK J;rw[hdf]at hBZ hVE;simp only[lK]at hR;simp only[uK,zvV,Zj]at hBZ hVE;subst hR;subst hBZ;subst hVE;have hni:¬zR bz<zR c.fs:=J;clear hQ;refine wu ?_;exact⟨_,L2,n2,m2,bid,kn,rfl,rfl,V,V,V,V,rfl,hC,hO⟩
 .have hfm:f∈c.fs:=zvY (by rw[hd];exact zvZ)
  obtain⟨hs1,hs2,hs3⟩:=hsz f hfm;obtain⟨l,r2,hl⟩:∃l r2,fr.drop (zR bz)=l::r2:=⟨_,_,zud J⟩;have hll:=hln l (zvY (by rw[hl];exact zvZ))
  have hl2:fr.drop (zR bz+1)=r2:=by rw[<-yQ,hl];rfl
  have hcf:=X0 hd;rw[hl]at hBZ hVE;simp only[uK,Zj]at hBZ hVE;rw[hd]at hR;simp only[lK]at hR;have hvb:v<=V0+40000000000000000:=by
   have:zR bz*400000000<=100000000*400000000:=xr _ J;omega
  have hw:=hC.wf;have hle:=hC.le;have gc:=hC.gc;have gk:=hC.gk;have hopen:=λ{L n m} (hw:WfA L n) (h1:wn L cp=some (VS c fr bid bz kid)) (h2:wn L kid=some (.umap (uM kn)))=>TY (L:=L) (n:=n) (m:=m) h19 (qb f.b) f.b (zX _) hs2 hs3 kn hw h1 h2;have hg1:=hC.g1;obtain⟨fps,frest,fcont,ffr,b⟩:=f;simp only at hs1 hs2 hs3 hR hopen;obtain⟨bk,bv,bo,bn,bf,ba,bks⟩:=b;simp only[wW,qt,wE]at hcf;simp only[vg,wE]at hopen;refine wq ?_;refine wp (vM sW ?_);refine wu ?_;refine wp (wA ?_);refine wq ?_;cases ffr with
  |cons x xs=>
   have hpos:0<zR xs+1:=J;simp only[yJ,hpos,decide_true,wy]at hR hcf;subst hR;simp only[kX]at hg1;clear hopen gc gk;have z10:¬1=n2:=J;refine wu ?_;exact hQ rfl _ _ _ _ V V (wC _ _ _)
  | nil=>
   simp only[xY,Nat.lt_irrefl,decide_false,wK]at hR hcf;have hw2:∀o1 o2:zm,WfA ((n2,o1)::(n2,o2)::L2) (n2+1):=λo1 o2=>((hw.up J).same J).same J;have gt1:∀o1 o2:zm,∀j,j<n2->wn ((n2,o1)::(n2,o2)::L2) j=wn L2 j:=λo1 o2 j hj=>by rw[gN J,gN J]
   refine wp (wp (qB ?_));refine wO (hopen (hw2 _ _) ((gt1 _ _ cp J).trans gc) ((gt1 _ _ kid J).trans gk)) λv' t' hv'=>?_;obtain⟨L3,n3,m3,rfl,hn3,hw3,hf3,hor⟩:=hv';rcases hor with ⟨ho,rfl⟩|⟨kn2,ho,rfl,gk3⟩
   .rw[ho]at hR;simp only[Option.bind_none]at hR;subst hR;have g13:wn L3 1=some kX:=(hf3 1 J J).trans ((gt1 _ _ 1 J).trans hg1);simp only[kX]at g13;clear hopen gc gk hg1 hf3 gt1 hw2;refine wu ?_;refine wu ?_;exact hQ rfl _ _ _ _ V V (wC _ _ _)
   .rw[ho]at hR;simp only[zuf]at hR;have hf3':∀j,j<n2->j≠kid->wn L3 j=wn L2 j:=λj hj hne=>(hf3 j J hne).trans (gt1 _ _ j hj);have hC3:=hC.to (kn2:=kn2) hB hw3 J gk3 λj hj hne=>hf3' j J hne;have hO3:RowF 3 1 wN (λ_=>False) L3 n3 bid bz:=hO.mono J (λ_ h=>h) (λ_ h=>h) (λ_ h=>h.elim) λhne=>hf3' bid (hO.ex hne).1 (by have:=hC.gb hne;omega)
    have gc3:=hC3.gc;have go3:=hC3.go;have hcut:=Z2 hl;have hil:zR bz<zR fr:=J;have hsc:=ud 1 bid (zR bz);simp only[VS,qc,yu,zv1,vT]at gc3;simp only[qt]at hcut;clear hQ hopen gc gk hg1 hf3 hf3' gt1 hw2 hC hO ho;refine wu ?_;refine wu ?_;refine wp (qB ?_);refine lw (EW (t:=3) (bytes:=8) (f:=wN) (vs:=bz) (w:=.ofNat v) J hO3 (λr hr=>hr.elim) hw3 rfl rfl ⟨[],(λ_ _ h=>by cases h),wG (wS _ _ _) ve⟩ J J) λv' t' hv'=>?_
    obtain⟨L7,m7,on7,rfl,rfl,hO7,hw7,hf7⟩:=hv';have hlo7:∀j,j<lo->wn L7 j=wn L3 j:=λj hj=>hf7 j J λhne=>by have:=hC3.gb hne;omega
    have hC7:=hC3.to (L2:=L7) (n2:=n3+1+1) hB hw7 J ((hlo7 kid z2).trans gk3) λj hj _=>hlo7 j hj;have gc7:=(hlo7 cp z1).trans gc3;have go7:=(hlo7 ob z3).trans go3;have hcat:=vG bz (yi v);have hsc2:=ud 1 (n3+1) (bz++[yi v]).length;rw[hcat]at hsc2;simp only[vF]at hsc2;clear hf7 hsc gc3 go3 hlo7;refine wu ?_;refine wu ?_;refine wu ?_;refine⟨zR bz+1,⟨_,_,n3+1+1,_,n3+1,bz++[.ofNat v],v+zR l,kn2,rfl,rfl,V,V,V,V,V,V,V,J,hcat,⟨(hw7.same J).same J,J,?_,?_,?_,?_,λ_=>J,wC _ _ _⟩,hO7.mono (zX _) (λ_ h=>h) (λ_ h=>h) (λ_ h=>h.elim) (λ_=>?_),hR,?_,by rw[hl2];exact hVE,?_⟩,J⟩
    .rw[gN J,gN J];exact hC7.g0
    .rw[gN J,gN J];exact hC7.g1
    .rw[gN J,wC];simp only[VS,qc,yu,zv1,vT,hcat,hfl]
    .rw[gN J,gN J];exact hC7.gk
    .rw[gN J,gN J]
    .rw[hl2,zum];exact hBZ
    .rw[xe,zuL];omega
end
end Go.Proofs.YtbddpjboppmnfaaGreatDoor.Ev

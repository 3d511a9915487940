/- Contracts of functions that ClosureConverts calls: what a call answers. No conditions. -/
import Derived.Test.YtbddpjboppmnfaaGreatDoorWF
import Derived.Test.YtbddpjboppmnfaaGreatDoorWA
import Derived.Test.YtbddpjboppmnfaaGreatDoorEvG
import Derived.Test.YtbddpjboppmnfaaGreatDoorWE
set_option linter.unusedSimpArgs false
set_option linter.unusedVariables false
set_option linter.defProp false
set_option maxHeartbeats 4000000
set_option linter.unusedSectionVars false
noncomputable section
open List renaming length → zR, mem_of_mem_drop → zvY, mem_cons_self → zvZ, cons_append → yu, nil_append → zv1, length_cons → yJ, length_append → y8, getD_eq_getElem?_getD → xR, eq_nil_of_length_eq_zero → xg, map_cons → ye, getElem?_eq_getElem → xj, append_nil → zvV, sum_cons → zuI, length_nil → xY, drop_eq_getElem_cons → zud, length_map → zuJ, append_assoc → zum, length_drop → zvU, getElem_of_mem → zuO, getElem_mem → zuv, length_flatten → zuP, map_nil → xA, getElem?_cons_succ → xQ, mem_of_getElem? → xU, map_map → zuT
open Nat renaming zero_mod → zv9, zero_le → yz, zero_or → zuc, le_of_ble_eq_true → zvT, or_zero → zub, le_refl → zX, mul_le_mul_right → xr, add_mul → xe, le_trans → yb, lt_of_le_of_lt → zuQ, mul → zK, zero_add → xB, zero_mul → zuR, not_lt_zero → wg, one_mul → zuL
open Bool renaming cond_self → zv7, and_self → xZ, false_or → x9, and_eq_true → zU, true_or → zut, true_and → xC, false_and → zvW, not_false → zv6, or_eq_false_iff → xL
open Int renaming ofNat → yi, natCast_nonneg → yy
open Option renaming getD_some → zuN, getD_none → zuS
namespace Go.Proofs.YtbddpjboppmnfaaGreatDoor.Ev
variable {c:Cd}{L L0:zb}{n m bn n0 M cp bytes esz t fid i:Nat}{bz l:zw}{fr F:ze}{P:Program}{us cs:zA}{T:List (Nat×Z)}{X:World}{k v VE tf:Int}{cV:Z}{e:Bool}
open T
set_option maxRecDepth 100000
attribute [local go_sem] wF wI qh Nat.or_zero Nat.zero_or Nat.zero_mod Bool.cond_self ltF gtF
def fh{f:Fn}{op n fn:Int}{az:List Atm}{ks:List Trm}(h:uD c f (.mk k v op n fn az ks)=true)(h4:eqD k (.ofNat 4)=true):az≠[]:=by
 unfold uD at h;simp only[Trm.atoms,Trm.kind,Trm.var,Trm.op,Trm.num,Trm.fn,Trm.kids]at h;rw[zU]at h;have hk:=eqT.1 h4;have h3:=h.2;rw[hk,show eqD (.ofNat 4) (.ofNat 1)=false from rfl,wK]at h3;unfold Yz at h3;rw[zU]at h3;have h2:=h3.2;simp only[show eqD (.ofNat 4) (.ofNat 2)=false from rfl,show eqD (.ofNat 4) (.ofNat 3)=false from rfl,show eqD (.ofNat 4) (.ofNat 4)=true from rfl,wK,wy,zU,hZ]at h2;intro e;rw[e]at h2;have:=h2.1;simp only[xY]at this;omega
section
variable {c:Cd}{f:Fn}{fr:ze}{kn:zq}(hk:aO (zR c.fs) kn)(hps:∀g∈c.fs,g.ps.length<1000000000)(hfl:zR fr=zR c.fs)(hln:∀l∈fr,zR l<400000000)
include hk hps hfl hln
mutual
theorem cB:∀t:Trm,ur c f t=true->(ui t).length<400000000->QT c fr kn t
 |.mk k v op n fn az ks,ht,hu=>by
  simp only[ur,zU]at ht;simp only[ui,y8,zuJ]at hu;have hkl:=Va ht.1;simp only[Trm.kids]at hkl;simp only[QT];refine⟨⟨J,λh2=>?_,λh4=>fh ht.1 h4,λx t hx=>?_⟩,hkl,iq ks ht.2 J⟩
  .obtain⟨j,rfl,hj⟩:=GP ht.1 h2;have hj2:j<zR fr:=J;exact⟨j,fr[j],_,rfl,zud hj2,hln _ (zuv hj2)⟩
  .obtain⟨j,rfl,hj⟩:=hk x t hx;exact⟨j,c.fs[j],_,rfl,zud hj,hps _ (zuv hj)⟩
theorem iq:∀ks:List Trm,jH c f ks=true->(kf ks).length<400000000->Jw c fr kn ks
 |[],_,_=>by simp only[Jw]
 |x::r,ht,hu=>by
  simp only[jH,zU]at ht;simp only[kf,y8]at hu;simp only[Jw];exact⟨cB x ht.1 J,iq r ht.2 J⟩
end
end
def H3:Cd:=⟨[],.ofNat 0,.ofNat 0,.ofNat 0,[]⟩
def Z1(P:Program)(X:World)(c:Cd):Cd×Int:=
 bif eqD (kv P X c) (.ofNat 0)then (match lK c.fs []with
  |some kn=>(cnv c kn,.ofNat 0)
  |none=>(H3,.ofNat 2))
 else (H3,kv P X c)
structure CvArg(N:Nat)(c:Cd):Prop where
 ch:ChPre N c
 us:(jh c).length<400000000
 vs:c.vars< .ofNat 2000000000000000000
 nc:zR c.consts<1000000000
def bi(h:kv P X c=.ofNat 0):jz P X c=.ofNat 0/\Wx c=true/\UM c 0 c.fs=false:=by
 unfold kv at h;cases e:eqD (jz P X c) (.ofNat 0)with
 |false=>
  rw[e,wK]at h;rw[h]at e;cases e
 | true=>
  rw[e,wy]at h;refine⟨eqT.1 e,?_⟩;cases e2:Wx c with
  |false=>rw[e2,wK]at h;exact absurd h (by decide)
  |true=>
   rw[e2,wy]at h;cases e3:UM c 0 c.fs with
   |false=>exact⟨rfl,rfl⟩
   |true=>rw[e3,wy]at h;exact absurd h (by decide)
def UG{f:Fn}(hf:f∈c.fs):(ui f.b).length<=(jh c).length:=by
 unfold jh;obtain⟨a,b,e⟩:=List.append_of_mem hf;rw[e];simp only[List.map_append,ye,List.flatten_append,List.flatten_cons,y8];omega
def fj{c:Cd}(hu:(jh c).length<400000000):∀l∈(qF c).map q9,zR l<400000000:=λl hl=>by
 obtain⟨s,hs,rfl⟩:=List.mem_map.1 hl;rw[Qr];have hS:SOk (jh c) (zR c.fs) (qF c):=lA c (pg c);obtain⟨j,hj,e⟩:=zuO hs;have e2:(qF c).getD j []=s:=by rw[xR,xj hj,e];rfl
 have h1:=hS.sub j;have h2:=hS.nd j;rw[e2]at h1 h2;have:=pm h2 h1;omega
theorem IT(h:jz P X c=.ofNat 0):Pq P X c=(qF c).map q9:=by
 unfold Pq;rw[h];rfl
open Nat (reduceEqDiff reduceLeDiff reduceLT reduceAdd reduceMul reduceSub reduceMod reducePow reduceDiv reduceOr reduceShiftLeft reduceGT reduceSucc)
open List (length_cons length_nil length_take length_drop)
open Int renaming reduceOfNat → rO, reduceNegSucc → rN
def Xd{s:U}{ws:zA}(h:FzL s us ws):Fz s (.tup us) (.tup ws):=by simp only[Fz];exact⟨us,rfl,h⟩
theorem fe{s:U}:∀{l:zw} {us:zA},FzL s us (wo wN l)->us=wo wN l
 |[],us,h=>by simp only[wo,FzL]at h;exact h
 |x::r,us,h=>by
  simp only[wo,wN,yu,zv1,FzL]at h;obtain⟨u,us',rfl,h1,h2⟩:=h;rw[lT h1,fe h2];rfl
def I5(P:Program)(X:World)(N:Nat):zA->U->zc:=v7 vo (CvArg N) (λc=>.tup [.agg (qc (Z1 P X c).1),.int .i64 (Z1 P X c).2])
section
variable {P:Program}{X:World}(B:Bx P X){O:Orc}{N:Nat}(hO:OrcOk P X O)
include B hO
attribute [local go_sem] qq qp qt KD in
def Sb(h11:O 11=some (oN P X N))(h12:O 12=some (zyh P X N))(h18:O 18=some bM)(h19:O 19=none)(h20:O 20=some (gCl (TmP 900000001) tmX))(h21:O 21=none)(h22:O 22=some bN)(c:Cd)(hc:CvArg N c):∃s1,SC P X 7 (vo c) (s00 0 true) (.tup [.agg (qc (Z1 P X c).1),.int .i64 (Z1 P X c).2]) s1:=by
 refine bew B hO f7 ?_;have hch:=λs=>oc h11 uC c hc.ch (jr c) s;have hfr:=λs=>oc h12 uC c hc.ch (jr c) s;obtain⟨R,hR⟩:∃R,Z1 P X c=R:=⟨_,rfl⟩;rw[hR];unfold Z1 at hR;have hok:=bi (P:=P) (X:=X) (c:=c);generalize kv P X c=e at *;cases c1:eqD e (.ofNat 0)with
 |false=>
  rw[c1,wK]at hR;subst hR;clear hfr hok;obtain⟨fs,main,vars,globals,consts⟩:=c;unfold f7 cF;simp only[vo,v8,qc]at hch|-;refine wq ?_;refine wp (wq ?_);refine ev_zc ?_;exact Xd (wG (gL (wG uc (wG (wS _ _ _) (wG (wS _ _ _) (wG (wS _ _ _) (wG uc ve)))))) (wG (wS _ _ _) ve))
 | true=>
  rw[c1,wy]at hR;have he:e=.ofNat 0:=eqT.1 c1;subst he;obtain⟨hea,hon,hci⟩:=hok rfl;rw[IT hea]at hfr;obtain⟨hwh,_,_,_,hv0⟩:=gU hea;have hwf:=Jt hwh;obtain⟨V0,hV0⟩:=UD hv0;obtain⟨fs,main,vars,globals,consts⟩:=c;simp only at hV0;subst hV0;have hvs:=hc.vs;have hln:=fj hc.us;have hfl:((qF (⟨fs,main,.ofNat V0,globals,consts⟩:Cd)).map q9).length=zR fs:=ce;have hnf:=hc.ch.ea.sz.n;have hsz:=hc.ch.ea.sz.f;have hk2:=λf hf=>(UB f.b (hwf f hf).2.1 (hsz f hf).2.2).1;have hcl:=λs=>oc h18 nO consts hc.nc (args:=[Wp consts]) (by simp only[YV,wkL,Wp,wkV,kp]) s
  simp only[Wp]at hcl;obtain⟨F,hF⟩:∃F,(qF (⟨fs,main,.ofNat V0,globals,consts⟩:Cd)).map q9=F:=⟨_,rfl⟩;rw[hF]at hfr hln hfl;simp only[vT]at hfr;unfold f7 cF;simp only[vo,v8,qc]at hch hfr|-;refine wq ?_;refine wp (wq ?_);refine wu ?_;refine wq ?_;refine wq ?_;refine qX _ (ME h19 (c:=⟨fs,main,.ofNat V0,globals,consts⟩) (fr:=F) hfl hnf hln (λf hf=>⟨(hsz f hf).2.1,(hsz f hf).2.2,hk2 f hf⟩) (cp:=3) (kid:=2) (ob:=4) (V0:=V0) (lo:=5) ⟨J,J,J,J,J,J,J,J,J,J⟩ ⟨λj hj=>?_,zX _,?_,?_,?_,?_,λh=>absurd rfl h,?_⟩ (Int.ofNat_lt.1 hvs) sW sW sW sW λhno T L n m y2 y3 y1=>?_) λf t hI=>?_
  ·(repeat rw[gN J]);rfl
  .simp (disch:=first|exact dis|fail)only[go_sem,seval,-rO,-rN];rfl
  .simp (disch:=first|exact dis|fail)only[go_sem,seval,-rO,-rN];rfl
  .simp only[VS,qc,yu,zv1,vT,hfl];simp (disch:=first|exact dis|fail)only[go_sem,seval,-rO,-rN];rfl
  .simp (disch:=first|exact dis|fail)only[go_sem,seval,-rO,-rN];rfl
  .simp (disch:=first|exact dis|fail)only[go_sem,seval,-rO,-rN]
  .simp only[hno]at hR;subst hR;simp only[kX]at y1;refine qP ?_;exact Xd (wG (gL (wG uc (wG (wS _ _ _) (wG (wS _ _ _) (wG (wS _ _ _) (wG uc ve)))))) (wG (wS _ _ _) ve))
  obtain⟨T,L,n,m,bid,kn,rfl,rfl,t1,t2,t5,t6,hkn,hC,hOb⟩:=hI;simp only[hkn]at hR;subst hR;have hne:fs≠[]:=λe=>by
   rw[e]at hwh;unfold gQ mG at hwh;simp only[zU]at hwh;obtain⟨j,_,hj⟩:=gC hwh.1.1;exact absurd hj (wg _)
  have hbne:uK F (.ofNat V0)≠[]:=λe=>by
   have:=LH F (.ofNat V0);rw[e,hfl]at this;exact hne (xg this.symm)
  obtain⟨hbn,_,us,gb,_,_,hus⟩:=hOb.ex hbne;rw[fe (bJ.1 hus)]at gb;have hb5:=hC.gb hbne;have h5n:=hC.le;have hkk:=(iu (c:=⟨fs,main,.ofNat V0,globals,consts⟩) fs [] kn (λf hf=>(hwf f hf).2.1) hkn (fJ _)).2;have hp:CvPre 900000001 ⟨fs,main,.ofNat V0,globals,consts⟩ F kn:=⟨J,hfl,hnf,hln,λf hf=>(hsz f hf).1,λf hf=>⟨Nat.lt_succ_of_le (hc.ch.nt f hf),cB hkk (λf hf=>(hsz f hf).1) hfl hln f.b (hwf f hf).2.1 (zuQ (UG hf) hc.us)⟩⟩;refine qX _ (MF h20 h21 h22 hp (bz:=uK F (.ofNat V0)) (cp:=3) (kid:=2) (bid:=bid) (ob:=4) (V0:=V0) (lo:=n) ⟨J,J,J,hbn,J,J,J,J,J⟩ ⟨hC.wf,zX _,hC.g0,hC.gc,hC.gk,gb,hC.go⟩ rfl (Int.ofNat_lt.1 hvs) t1 t2 t5 t6) λf t hI=>?_;obtain⟨T2,L2,n2,m2,oid,A9,rfl,rfl,y2,y6,hC2,hO2,hA2,hoid,hfr2⟩:=hI;have g1:=(hfr2 1 J J).trans hC.g1;have go:=hC2.go;simp only[kX]at g1;have hcnv:cnv ⟨fs,main,.ofNat V0,globals,consts⟩ kn=⟨pP ⟨fs,main,.ofNat V0,globals,consts⟩ F kn fs F (.ofNat V0),main,Zj F (.ofNat V0),globals,consts⟩:=by
   show Cd.mk _ _ _ _ _=_;rw[hF]
  rw[hcnv];simp only at go hO2|-;generalize pP ⟨fs,main,.ofNat V0,globals,consts⟩ F kn fs F (.ofNat V0)=W at *;generalize Zj F (.ofNat V0)=VE at *;have hsc:=ud 11 oid (zR W);simp only[vF]at hsc;clear hfr2 hC hC2 hch hfr hcl hOb gb hus hcnv hkn hkk hp t1 t2 t5 t6 hfl hF hln;refine wq ?_;refine ev_zc ?_;refine Xd (wG (gL (wG ?_ (wG (wS _ _ _) (wG (wS _ _ _) (wG (wS _ _ _) (wG (uo (vl _) (kp _)) ve)))))) (wG (wS _ _ _) ve));cases W with
  |nil=>exact uc
  |cons f r=>
   obtain⟨q1,_,us,q3,q4,_,L3,q6,q7⟩:=hO2.ex (by simp)
   have q8:=hoid (by simp)
   have hp:wL (wo wW (f::r))=true:=wX ZD _;show Fz _ (.sl oid 0 (r.length+1) (.opn 11)) (.lst (f::r).length false (wo wW (f::r)));simp only[Fz];refine⟨hp,.inr ⟨trivial,oid,0,.opn 11,46,us,true,false,us,rfl,trivial,?_,?_,?_⟩⟩
   .rw[qk,gN J];exact q3
   .show qf _ (qv 0 us)=_;rw[qH,List.drop_zero];exact qz (by rw[q4,vI lQ])
   .refine FzL.mono (λj o ho=>?_) q7;rw[UJ]at ho;obtain⟨g1,g2⟩:=q6 j o ho;have:=hA2 j g1;rw[qk,gN J];exact g2
end
open Int (reduceOfNat reduceNegSucc)
def szL{α:Type}(F:α->Nat):Nat->List α->Nat
 |n,[]=>n
 |n,x::r=>if n<9000 then szL F (n+F x) r else n
def szN:Nat->Trm->Nat
 |0,_=>9000
 |k+1,t=>szL (szN k) (1+t.atoms.length) t.kids
def ptN:Nat->DT->Nat
 |0,_=>9000
 |k+1,d=>szL (ptN k) (1+(aE d).length) (jZ d)
def sk{α:Type}{F:α->Nat}:∀(l:List α) (n:Nat),n<=szL F n l
 |[],n=>zX _
 |x::r,n=>by
  simp only[szL];split
  .have:=sk (F:=F) r (n+F x);omega
  .exact zX _
def sm{α:Type}{F:α->Nat}{B:Nat}:∀(l:List α) (n:Nat),(∀x∈l,F x<B)->n<9000+B->szL F n l<9000+B
 |[],n,_,h=>h
 |x::r,n,hB,h=>by
  simp only[szL];split
  .exact sm r _ (λy hy=>hB y (by simp[hy])) (by have:=hB x (by simp);omega)
  .exact h
def HN:∀{ks:List Trm} {y:Trm},p7 ks->y∈ks->SzT y
 |t::r,y,h,hy=>by
  simp only[p7]at h;rcases List.mem_cons.1 hy with rfl|hy
  .exact h.1
  .exact HN h.2 hy
def cW:∀(k:Nat) (t:Trm),SzT t->szN k t<1000000002+9000*(k+1)
 |0,_,_=>by simp only[szN];omega
 |k+1,.mk a b c d e az ks,h=>by
  simp only[SzT]at h;simp only[szN,Trm.atoms,Trm.kids];have:=sm (F:=szN k) (B:=1000000002+9000*(k+1)) ks (1+zR az) (λx hx=>cW k x (HN h.2.2 hx)) J;omega
def cU{α:Type}{F G:α->Nat}:∀(l:List α) (n:Nat),(∀x∈l,F x<9000->G x<=F x)->szL F n l<9000->n+(l.map G).sum<=szL F n l
 |[],n,_,h=>by simp only[szL,xA,List.sum_nil];omega
 | x::r,n,hG,h=>by
  simp only[szL]at h|-;split at h
  .rename_i hn
   rw[wH hn];have h1:=sk (F:=F) r (n+F x);have h2:=hG x (by simp) J
   have h3:=cU r (n+F x) (λy hy=>hG y (by simp[hy])) h
   simp only[ye,zuI];omega
  .omega
def Hp:∀ks:List Trm,qY ks=(ks.map qb).sum
 |[]=>rfl
 |x::r=>by simp only[qY,ye,zuI,Hp r]
def HZ:∀ks:List Trm,(kf ks).length=(ks.map λt=>(ui t).length).sum
 |[]=>rfl
 |x::r=>by simp only[kf,y8,ye,zuI,HZ r]
def aB:∀(k:Nat) (t:Trm),szN k t<9000->qb t+(ui t).length<=szN k t
 |0,_,h=>by simp only[szN]at h;omega
 | k+1,.mk a b c d e az ks,h=>by
  simp only[szN,Trm.atoms,Trm.kids]at h|-;have:=cU (F:=szN k) (G:=λt=>qb t+(ui t).length) ks (1+zR az) (λx _ hx=>aB k x hx) h;simp only[qb,ui,y8,zuJ,Hp,HZ];have hs:∀l:List Trm,(l.map λt=>qb t+(ui t).length).sum=(l.map qb).sum+(l.map λt=>(ui t).length).sum:=λl=>by
   induction l with
   |nil=>rfl
   |cons x r ih=>simp only[ye,zuI,ih];omega
  rw[hs]at this;omega
def KI:∀{ks:List DT} {y:DT},TxL ks->y∈ks->TxD y
 |t::r,y,h,hy=>by
  simp only[TxL]at h;rcases List.mem_cons.1 hy with rfl|hy
  .exact h.1
  .exact KI h.2 hy
def NG:∀(k:Nat) (d:DT),TxD d->ptN k d<2000002+9000*(k+1)
 |0,_,_=>by simp only[ptN];omega
 |k+1,.mk a b c ks e,h=>by
  simp only[TxD]at h;simp only[ptN,aE,jZ];have:=sm (F:=ptN k) (B:=2000002+9000*(k+1)) ks (1+zR c) (λx hx=>NG k x (KI h.2.2 hx)) J;omega
def T1:∀(k:Nat) (d:DT),1<=ptN k d
 |0,_=>by simp only[ptN];omega
 |k+1,d=>by
  simp only[ptN];have:=sk (F:=ptN k) (jZ d) (1+(aE d).length);omega
def Hq:∀ks:List DT,qC ks=(ks.map qe).sum
 |[]=>rfl
 |x::r=>by simp only[qC,ye,zuI,Hq r]
def P2:∀(k:Nat) (d:DT),ptN k d<9000->qe d<=ptN k d
 |0,_,h=>by simp only[ptN]at h;omega
 |k+1,.mk a b c ks e,h=>by
  simp only[ptN,aE,jZ]at h|-;have:=cU (F:=ptN k) (G:=qe) ks (1+zR c) (λx _ hx=>P2 k x hx) h;simp only[qe,Hq];omega
section
variable {O:Orc}
def AZ(h13:O 13=none):∀(k:Nat) (d:Trm),k<=400->SzT d->∀(L:zb) (n m:Nat) (b:Bool),
  cl O 13 [.agg (wZ d),k] (KL L n m b)=some (.int .i64 (.ofNat (szN k d)),KL L n m b)
 | k,d,hk,hs,L,n,m,b=>by
  have key:Cv (cl O 13 [.agg (wZ d),k] (KL L n m b)) λv t=>v=.int .i64 (.ofNat (szN k d))/\t=KL L n m b:=by
   refine vr (F:=f13) h13 rfl rfl (zvT rfl) ?_;unfold f13 cF;simp only;cases k with
   |zero=>
    simp only[szN];obtain⟨dk,dv,dop,dn,df,das,dks⟩:=d;simp only[wE];refine wq ?_;refine wq ?_;refine qP ?_;exact⟨rfl,rfl⟩
   | succ k=>
    have ih:=λx hx=>AZ h13 k x J hx;have hsub:ji .i64 (Int.sub (.ofNat (k+1)) (.ofNat 1))=.ofNat k:=by rw[si J,Vz J];rfl
    have hpl:=λx hx=>cW k x hx;generalize hR:szN (k+1) d=R;simp only[szN]at hR;obtain⟨dk,dv,dop,dn,df,das,dks⟩:=d;simp only[Trm.atoms,Trm.kids,SzT]at hR hs;obtain⟨hs1,hs2,hs3⟩:=hs;simp only[wE];refine wq ?_;refine wq ?_;refine wq ?_;refine wp (wp (wu ?_));apply wA;refine wP (λx:Nat×Nat=>zR dks-x.1) (λx fr s=>∃T m',fr=⟨tmL T,[]⟩/\s=KL ((n,some (.row 44 [dk,dv,dop,dn,df,.lst (zR das) false (wo wY das),.lst (zR dks) false (w9 dks)]))::L) (n+1) m' true/\G T 1 (.int .i64 (.ofNat (k+1)))/\G T 2 (.ptr n 0)/\G T 5 x.2/\G T 6 x.1/\m'%2^n=0/\x.1<=zR dks/\x.2<2000000000/\R=szL (szN k) x.2 (dks.drop x.1)) (λx fr s hI=>?_) (0,1+zR das) ⟨_,_,rfl,rfl,sW,sW,sW,sW,by simp,yz _,by simp only;omega,hR.symm⟩
    obtain⟨i,q⟩:=x;obtain⟨T,m',rfl,rfl,t1,t2,t5,t6,hm,hi,hq,he⟩:=hI;simp only at t5 t6 hi hq he;clear hR;rcases wJ dks i with ⟨hi2,hd⟩|⟨x,hi2,hd⟩
    .rw[hd]at he;simp only[szL]at he;have hlt:¬i<zR dks:=J;refine wu ?_;refine wq ?_;refine vy (r:=.ret) ?_;show Cv _ _;refine qP ?_;exact⟨by rw[he],rfl⟩
    .have hxs:=HN hs3 (zvY (by rw[hd];exact zvZ))
     rw[hd]at he;simp only[szL]at he;by_cases hq2:q<9000
     .rw[wH hq2]at he;have hix:=YR hd;have ihx:=ih x hxs;have h1:=hpl x hxs;clear ih hpl hd hxs;generalize szN k x=px at *;obtain⟨xk,xv,xo,xn,xf,xa,xs⟩:=x;simp only[wE]at ihx hix;refine wu ?_;exact⟨(i+1,q+px),⟨_,_,rfl,rfl,V,V,V,V,hm,by simp only;omega,by simp only;omega,he⟩,by simp only;omega⟩
     .rw[wx hq2]at he;clear ih hpl hd;refine wu ?_;refine wq ?_;refine vy (r:=.ret) ?_;show Cv _ _;refine qP ?_;exact⟨by rw[he],rfl⟩
  obtain⟨v,t,h,rfl,rfl⟩:=key;exact h
attribute [local go_sem] wT kO lF in
def iB(h14:O 14=none):∀(k:Nat) (d:DT),k<=60->TxD d->∀(L:zb) (n m:Nat) (b:Bool),
  cl O 14 [.agg (qK d),k] (KL L n m b)=some (.int .i64 (.ofNat (ptN k d)),KL L n m b)
 | k,d,hk,hs,L,n,m,b=>by
  have key:Cv (cl O 14 [.agg (qK d),k] (KL L n m b)) λv t=>v=.int .i64 (.ofNat (ptN k d))/\t=KL L n m b:=by
   refine vr (F:=f14) h14 rfl rfl (zvT rfl) ?_;unfold f14 cF;simp only;cases k with
   |zero=>
    simp only[ptN];obtain⟨dk,dn,dt,ds,dp⟩:=d;refine wq ?_;refine wq ?_;refine qP ?_;exact⟨rfl,rfl⟩
   | succ k=>
    have ih:=λx hx=>iB h14 k x J hx;have hsub:ji .i64 (Int.sub (.ofNat (k+1)) (.ofNat 1))=.ofNat k:=by rw[si J,Vz J];rfl
    have hpl:=λx hx=>NG k x hx;have hpp:=λx=>T1 k x;generalize hR:ptN (k+1) d=R;simp only[ptN]at hR;obtain⟨dk,dn,dt,ds,dp⟩:=d;simp only[aE,jZ,TxD]at hR hs;obtain⟨_,hs1,hs3⟩:=hs;refine wq ?_;refine wq ?_;refine wq ?_;refine wp (wp (wu ?_));apply wA;refine wP (λx:Nat×Nat=>zR ds-x.1) (λx fr s=>∃T m',fr=⟨tmL T,[]⟩/\s=KL ((n,some (.row 36 [dk,dn,.str dt,.lst (zR ds) false (wQ ds),dp]))::L) (n+1) m' true/\G T 1 (.int .i64 (.ofNat (k+1)))/\G T 2 (.ptr n 0)/\G T 5 x.2/\G T 6 x.1/\m'%2^n=0/\x.1<=zR ds/\x.1<x.2/\x.2<20000000/\R=szL (ptN k) x.2 (ds.drop x.1)) (λx fr s hI=>?_) (0,1+zR dt) ⟨_,_,rfl,rfl,sW,sW,sW,sW,by simp,yz _,by simp only;omega,by simp only;omega,hR.symm⟩
    obtain⟨i,q⟩:=x;obtain⟨T,m',rfl,rfl,t1,t2,t5,t6,hm,hi,hiq,hq,he⟩:=hI;simp only at t5 t6 hi hiq hq he;clear hR;rcases wJ ds i with ⟨hi2,hd⟩|⟨x,hi2,hd⟩
    .rw[hd]at he;simp only[szL]at he;have hlt:¬i<zR ds:=J;refine wu ?_;refine wq ?_;refine vy (r:=.ret) ?_;show Cv _ _;refine qP ?_;exact⟨by rw[he],rfl⟩
    .have hxs:=KI hs3 (zvY (by rw[hd];exact zvZ))
     rw[hd]at he;simp only[szL]at he;by_cases hq2:q<9000
     .rw[wH hq2]at he;have hix:=ZF hd;rw[<-vd]at hix;have ihx:=ih x hxs;have h1:=hpl x hxs;have h2:=hpp x;clear ih hpl hpp hd hxs;generalize ptN k x=px at *;obtain⟨xk,xn,xt,xs,xp⟩:=x;simp only[wT]at ihx hix;refine wu ?_;exact⟨(i+1,q+px),⟨_,_,rfl,rfl,V,V,V,V,hm,by simp only;omega,by simp only;omega,by simp only;omega,he⟩,by simp only;omega⟩
     .rw[wx hq2]at he;clear ih hpl hpp hd;refine wu ?_;refine wq ?_;refine vy (r:=.ret) ?_;show Cv _ _;refine qP ?_;exact⟨by rw[he],rfl⟩
  obtain⟨v,t,h,rfl,rfl⟩:=key;exact h
end
def fnN(f:Fn):Nat:=szN 400 f.b+zR f.ps+zR f.fr
def lgN:Nat->Nat->List Fn->Nat
 |_,n,[]=>n
 |0,n,_::_=>n
 |k+1,n,f::r=>lgN k (n+fnN f) r
def mV:Nat->List DT->Bool
 |_,[]=>false
 |0,_::_=>false
 |k+1,d::r=>decide (300<ptN 60 d)||mV k r
def U9(c:Cd):Bool:=mV 40 c.consts||(decide (2000<lgN 110 0 c.fs)||(decide (100<zR c.fs)||(decide (30<zR c.consts)||ltD (.ofNat 1099511627776) c.vars)))
structure LgPre(c:Cd):Prop where
 nf:zR c.fs<100000000
 nc:zR c.consts<1000000000
 f:∀f∈c.fs,zR f.ps<1000000000/\zR f.fr<1000000000/\SzT f.b
 tx:TxL c.consts
def zxn{f:Fn}(h:List.length f.ps<1000000000/\List.length f.fr<1000000000/\SzT f.b):fnN f<4000000000:=by
 have:=cW 400 f.b h.2.2;unfold fnN;omega
section
variable {O:Orc}
attribute [local go_sem] qt in
def Mz(h5:O 5=none)(h13:O 13=none)(h14:O 14=none)(hc:LgPre c)(L:zb)(n m:Nat)(b:Bool):
  Cv (cl O 5 [.agg (qc c)] (KL L n m b)) λv t=>v=.bool (U9 c)/\t=KL L n m b:=by
 refine vr (F:=f5) h5 rfl rfl (zvT rfl) ?_;obtain⟨R,hR⟩:∃R,U9 c=R:=⟨_,rfl⟩;rw[hR];unfold U9 at hR;obtain⟨c1,c2,c3⟩:LgPre c:=hc
 rename_i ctx
 obtain⟨fs,main,vars,globals,consts⟩:=c;simp only at c1 c2 c3 ctx hR;obtain⟨W,hW⟩:∃W,lgN 110 0 fs=W:=⟨_,rfl⟩;obtain⟨V9,hV⟩:∃W,mV 40 consts=W:=⟨_,rfl⟩;rw[hW,hV]at hR;unfold f5 cF;simp only[qc];refine wq ?_;refine wq ?_;refine qX (λf t=>∃T m',f=⟨tmL T,[]⟩/\t=KL ((n,some (.row 25 (qc ⟨fs,main,vars,globals,consts⟩)))::L) (n+1) m' true/\G T 1 (.ptr n 0)/\G T 3 W/\m'%2^n=0/\W<1000000000000) ?_ λf t hI=>?_
 .refine wp (wu ?_);apply wA;refine wP (λx:Nat×Nat=>zR fs-x.1) (λx f t=>∃T m',f=⟨tmL T,[]⟩/\t=KL ((n,some (.row 25 (qc ⟨fs,main,vars,globals,consts⟩)))::L) (n+1) m' true/\G T 1 (.ptr n 0)/\G T 3 x.2/\G T 4 x.1/\m'%2^n=0/\x.1<=zR fs/\x.1<=110/\x.2<=x.1*4000000000/\W=lgN (110-x.1) x.2 (fs.drop x.1)) (λx f t hI=>?_) (0,0) ⟨_,_,rfl,rfl,sW,sW,sW,by simp,yz _,yz _,yz _,hW.symm⟩
  obtain⟨i,q⟩:=x;obtain⟨T,m',rfl,rfl,t1,t3,t4,hm,hi,hi2,hq,he⟩:=hI;simp only at t3 t4 hi hi2 hq he;simp only[qc];have hqb:q<=440000000000:=yb hq (by have:=xr 4000000000 hi2;omega)
  rcases wJ fs i with ⟨h1,hd⟩|⟨g,h1,hd⟩
  .rw[hd]at he;have hlt:¬i<zR fs:=J;have he2:W=q:=by rw[he];cases (110-i)<;>rfl
   clear he hd hR hW hV;subst he2;refine wu ?_;exact⟨_,_,rfl,rfl,V,V,hm,J⟩
  .by_cases h110:i<110
   .have hgm:g∈fs:=zvY (by rw[hd];exact zvZ)
    have hg:=c3 g hgm;have hgn:=zxn hg;have hdr:=kS hd;have hsz:=AZ h13 400 g.b (zX _) hg.2.2;have hszl:=cW 400 g.b hg.2.2;rw[hd,show 110-i=(110-(i+1))+1 by omega]at he
    simp only[lgN]at he;unfold fnN at he hgn;obtain⟨gps,grest,gcont,gfr,gb⟩:=g;simp only at hg hgn hsz hszl he;generalize szN 400 gb=z at *;obtain⟨bk,bv,bo,bn,bf,ba,bks⟩:=gb;simp only[wW,wE,qt,yu,zv1]at hdr;simp only[wE]at hsz;clear hd hgm hR hW hV;refine wu ?_;refine⟨(i+1,q+(z+zR gps+zR gfr)),⟨_,_,rfl,rfl,V,?_,V,hm,by simp only;omega,by simp only;omega,by simp only;omega,he⟩,by simp only;omega⟩
    clear he;have e:q+(z+zR gps+zR gfr)=q+z+zR gps+zR gfr:=J;simp only[e];simp (disch:=first|exact dis|fail)only[go_sem,seval,-rO,-rN]
   .have he2:W=q:=by rw[he,show 110-i=0 by omega,hd];rfl
    clear he hd hR hW hV;subst he2;refine wu ?_;exact⟨_,_,rfl,rfl,V,V,hm,J⟩
 .clear hW c3;obtain⟨T,m',rfl,rfl,t1,t3,hm,hWb⟩:=hI;refine wp (wp (wu ?_));apply wA;refine wP (λi:Nat=>zR consts-i) (λi f t=>∃T m',f=⟨tmL T,[]⟩/\t=KL ((n,some (.row 25 (qc ⟨fs,main,vars,globals,consts⟩)))::L) (n+1) m' true/\G T 1 (.ptr n 0)/\G T 3 W/\G T 5 i/\m'%2^n=0/\i<=zR consts/\i<=40/\V9=mV (40-i) (consts.drop i)) (λi f t hI=>?_) 0 ⟨_,_,rfl,rfl,V,V,sW,hm,yz _,yz _,hV.symm⟩;clear t1 t3 hm hV;obtain⟨T,m',rfl,rfl,t1,t3,t5,hm,hi,hi2,he⟩:=hI;simp only[qc];have hex:V9=false->(decide (2000<W)||(decide (100<zR fs)||(decide (30<zR consts)||ltD (.ofNat 1099511627776) vars)))=R:=λh=>by rw[h,x9]at hR;exact hR
  rcases wJ consts i with ⟨h1,hd⟩|⟨d,h1,hd⟩
  .have he2:V9=false:=by rw[he,hd];cases (40-i)<;>rfl
   replace hex:=hex he2;have hlt:¬i<zR consts:=J;clear he hd he2 hR;refine wu ?_;by_cases e1:2000<W
   .rw[qL e1,zut]at hex;subst hex;refine wq ?_;refine vy (r:=.ret) ?_;show Cv _ _;refine qP ?_;exact⟨rfl,rfl⟩
   rw[qy e1,x9]at hex;by_cases e2:100<zR fs
   .rw[qL e2,zut]at hex;subst hex;refine wq ?_;refine vy (r:=.ret) ?_;show Cv _ _;refine qP ?_;exact⟨rfl,rfl⟩
   rw[qy e2,x9]at hex;by_cases e3:30<zR consts
   .rw[qL e3,zut]at hex;subst hex;refine wq ?_;refine vy (r:=.ret) ?_;show Cv _ _;refine qP ?_;exact⟨rfl,rfl⟩
   rw[qy e3,x9]at hex;cases e4:ltD (.ofNat 1099511627776) vars with
   |true=>
    rw[e4]at hex;subst hex;refine wq ?_;refine vy (r:=.ret) ?_;show Cv _ _;refine qP ?_;exact⟨rfl,rfl⟩
   |false=>
    rw[e4]at hex;subst hex;refine wq ?_;refine vy (r:=.ret) ?_;show Cv _ _;refine qP ?_;exact⟨rfl,rfl⟩
  .by_cases h40:i<40
   .have hdm:d∈consts:=zvY (by rw[hd];exact zvZ)
    have hdt:=KI ctx hdm;have hpt:=iB h14 60 d (zX _) hdt;have hcut:=ZF hd;rw[<-vd]at hcut;rw[hd,show 40-i=(40-(i+1))+1 by omega]at he
    simp only[mV]at he;generalize ptN 60 d=z at *;obtain⟨dk,dn,dt,ds,dp⟩:=d;simp only[wT]at hpt hcut;clear hd hdm hdt;by_cases hz:300<z
    .rw[qL hz,zut]at he;have hR2:R=true:=by rw[<-hR,he];rfl
     subst hR2;clear he hR hex;refine ev_zc ?_;exact⟨rfl,rfl⟩
    .rw[qy hz,x9]at he;clear hR hex;refine wu ?_;exact⟨i+1,⟨_,_,rfl,rfl,V,V,V,hm,J,J,he⟩,J⟩
   .have he2:V9=false:=by rw[he,show 40-i=0 by omega,hd];rfl
    replace hex:=hex he2;clear he hd he2 hR;refine wu ?_;by_cases e1:2000<W
    .rw[qL e1,zut]at hex;subst hex;refine wq ?_;refine vy (r:=.ret) ?_;show Cv _ _;refine qP ?_;exact⟨rfl,rfl⟩
    rw[qy e1,x9]at hex;by_cases e2:100<zR fs
    .rw[qL e2,zut]at hex;subst hex;refine wq ?_;refine vy (r:=.ret) ?_;show Cv _ _;refine qP ?_;exact⟨rfl,rfl⟩
    rw[qy e2,x9]at hex;by_cases e3:30<zR consts
    .rw[qL e3,zut]at hex;subst hex;refine wq ?_;refine vy (r:=.ret) ?_;show Cv _ _;refine qP ?_;exact⟨rfl,rfl⟩
    rw[qy e3,x9]at hex;cases e4:ltD (.ofNat 1099511627776) vars with
    |true=>
     rw[e4]at hex;subst hex;refine wq ?_;refine vy (r:=.ret) ?_;show Cv _ _;refine qP ?_;exact⟨rfl,rfl⟩
    |false=>
     rw[e4]at hex;subst hex;refine wq ?_;refine vy (r:=.ret) ?_;show Cv _ _;refine qP ?_;exact⟨rfl,rfl⟩
end
theorem zxr{kn nm:zq}{fn:Int}{az:List Atm}:(hdF c fr kn nm k fn az).2.2=az.map (rnA nm)++(bif eqD k (.ofNat 2)then (fr.getD fn.toNat []).map (vrA nm)else []):=by
 unfold hdF;cases h2:eqD k (.ofNat 2)with
 |true=>rfl
 | false=>
  cases h4:eqD k (.ofNat 4)with
  |false=>simp
  |true=>
   simp only[wK,wy,zvV];cases h:knF c kn az<;>rfl
def tn{c:Cd}{fr:ze}{kn:zq}:∀(fs:List Fn) (ls:ze) (b:Int) (j:Nat) (f:Fn) (l:zw),fs[j]? =some f->ls[j]? =some l->∃bj,b<=bj/\bj+ .ofNat (zR l)<=Zj ls b/\(pP c fr kn fs ls b)[j]? =some {f with fr:=l,b:=jR bj (zR l) (tmF c fr kn (Vn bj l 0 []) f.b)}
 |[],_,_,j,f,l,h,_=>by simp at h
 |_::_,[],_,j,f,l,_,h=>by simp at h
 | g::r,m::ls,b,j,f,l,h1,h2=>by
  have he:∀(ls:ze) (b:Int),b<=Zj ls b:=by
   intro ls
   induction ls with
   |nil=>intro b;exact Int.le_refl _
   |cons l ls ih=>intro b;simp only[Zj];have:=ih (b+ .ofNat (zR l));have:(0:Int)<=.ofNat (zR l):=yy _;omega
  cases j with
  |zero=>
   simp only[List.getElem?_cons_zero,wB]at h1 h2;subst h1;subst h2;exact⟨b,Int.le_refl _,he _ _,rfl⟩
  |succ j=>
   simp only[xQ]at h1 h2;obtain⟨bj,q1,q2,q3⟩:=tn (c:=c) (fr:=fr) (kn:=kn) r ls (b+ .ofNat (zR m)) j f l h1 h2;have:(0:Int)<=.ofNat (zR m):=yy _;exact⟨bj,J,q2,by simp only[pP,xQ];exact q3⟩
section
variable {c:Cd}{kn:zq}
def sN:(cnv c kn).fs.length=zR c.fs:=tp _ _ _ (by rw[ce])
def Sa{j:Nat}{f:Fn}(h:c.fs[j]? =some f):∃bj,c.vars<=bj/\bj+ .ofNat ((qF c).getD j []).length<=(cnv c kn).vars/\(cnv c kn).fs[j]? =some {f with fr:=q9 ((qF c).getD j []),b:=jR bj ((qF c).getD j []).length (tmF c ((qF c).map q9) kn (Vn bj (q9 ((qF c).getD j [])) 0 []) f.b)}:=by
 have hj:j<zR c.fs:=by
  by_cases hj:j<zR c.fs
  .exact hj
  .rw[List.getElem?_eq_none J]at h;cases h
 have hl:((qF c).map q9)[j]? =some (q9 ((qF c).getD j [])):=by
  rw[List.getElem?_map,xR];rw[xj (by rw[Qq];exact hj)];rfl
 have:=tn (c:=c) (fr:=(qF c).map q9) (kn:=kn) c.fs ((qF c).map q9) c.vars j f _ h hl
 rwa [show (q9 ((qF c).getD j [])).length=((qF c).getD j []).length from List.length_mergeSort _]at this
end
section
variable {c:Cd}{fr:ze}{kn nm:zq}
mutual
theorem ii:∀t:Trm,qb (tmF c fr kn nm t)=qb t
 |.mk k v op n f az ks=>by simp only[tmF,qb,PP ks]
theorem PP:∀ks:List Trm,qY (pE c fr kn nm ks)=qY ks
 |[]=>by simp only[pE,qY]
 |x::r=>by simp only[pE,qY,ii x,PP r]
end
def tQ(B:Nat)(hB:∀l∈fr,List.length l<=B){k fn:Int}{az:List Atm}:(hdF c fr kn nm k fn az).2.2.length<=List.length az+B:=by
 rw[zxr,y8,zuJ];cases eqD k (.ofNat 2)with
 |false=>simp only[wK,xY];omega
 | true=>
  simp only[wy,zuJ];have:(fr.getD fn.toNat []).length<=B:=by
   rw[xR];cases e:fr[fn.toNat]? with
   |none=>simp
   |some l=>exact hB l (xU e)
  omega
mutual
theorem mB(B:Nat)(hB:∀l∈fr,zR l<=B):∀t:Trm,(ui (tmF c fr kn nm t)).length<=(ui t).length+qb t*B
 |.mk k v op n f az ks=>by
  simp only[tmF,ui,qb,y8,zuJ,xe,zuL];have h1:= @tQ c fr kn nm B hB k f az;have h2:=aI B hB ks;omega
theorem aI(B:Nat)(hB:∀l∈fr,zR l<=B):∀ks:List Trm,(kf (pE c fr kn nm ks)).length<=(kf ks).length+qY ks*B
 |[]=>by simp only[pE,kf,qY,xY];omega
 |x::r=>by
  simp only[pE,kf,qY,y8,xe];have h1:=mB B hB x;have h2:=aI B hB r;omega
end
mutual
theorem OP(B:Nat)(hB:∀l∈fr,zR l<=B)(hb:B<100000):∀t:Trm,SzT t->(ui t).length<100000->SzT (tmF c fr kn nm t)
 |.mk k v op n f az ks,h,hu=>by
  simp only[SzT]at h;simp only[ui,y8,zuJ]at hu;simp only[tmF,SzT];have h1:= @tQ c fr kn nm B hB k f az;have h2:=A3 B hB hb ks h.2.2 J;exact⟨J,by rw[h2.2];exact h.2.1,h2.1⟩
theorem A3(B:Nat)(hB:∀l∈fr,zR l<=B)(hb:B<100000):∀ks:List Trm,p7 ks->(kf ks).length<100000->p7 (pE c fr kn nm ks)/\(pE c fr kn nm ks).length=zR ks
 |[],_,_=>by simp only[pE,p7,and_self]
 |x::r,h,hu=>by
  simp only[p7]at h;simp only[kf,y8]at hu;simp only[pE,p7,yJ];have h1:=OP B hB hb x h.1 J;have h2:=A3 B hB hb r h.2 J;exact⟨⟨h1,h2.1⟩,by rw[h2.2]⟩
end
end
def Hn{b:Int}:∀(n:Nat) (t:Trm),qb (jR b n t)=n+qb t
 |0,t=>by simp only[jR];omega
 |n+1,t=>by simp only[jR,Hn n,qb,qY];omega
def HY{b:Int}:∀(n:Nat) (t:Trm),ui (jR b n t)=ui t
 |0,t=>by simp only[jR]
 |n+1,t=>by simp only[jR,HY n,ui,kf,xA,zv1,zvV]
def mb{b:Int}:∀(n:Nat) (t:Trm),SzT t->SzT (jR b n t)
 |0,t,h=>h
 |n+1,t,h=>by
  simp only[jR];refine mb n _ ?_;simp only[SzT,p7,xY,yJ,and_true];exact⟨J,J,h⟩
structure SmC(c:Cd):Prop where
 nf:zR c.fs<=100
 nc:zR c.consts<=30
 vs:c.vars<=.ofNat 1099511627776
 nd:∀d∈c.consts,qe d<=300
 fn:∀f∈c.fs,qb f.b<=2000/\zR f.ps<=2000/\zR f.fr<=2000
 us:(jh c).length<=2000
 ns:(c.fs.map λf=>qb f.b).sum<=2000
def tY:∀(fs:List Fn) (k n:Nat),zR fs<=k->lgN k n fs=n+(fs.map fnN).sum
 |[],k,n,_=>by cases k<;>simp[lgN]
 |f::r,0,n,h=>by simp at h
 |f::r,k+1,n,h=>by
  simp only[lgN];rw[tY r k _ (by simpa using h)]
  simp only[ye,zuI];omega
def A1{α:Type}{F:α->Nat}:∀{l:List α} {x:α},x∈l->F x<=(l.map F).sum
 |y::r,x,h=>by
  simp only[ye,zuI];rcases List.mem_cons.1 h with rfl|h
  .omega
  .have:=A1 (F:=F) h;omega
def sj{α:Type}{F G:α->Nat}:∀{l:List α},(∀x∈l,F x<=G x)->(l.map F).sum<=(l.map G).sum
 |[],_=>zX _
 |y::r,h=>by
  simp only[ye,zuI];have h1:=h y (by simp)
  have h2:=sj (l:=r) λx hx=>h x (by simp[hx])
  omega
def dF:∀(l:List DT) (k:Nat),zR l<=k->mV k l=false->∀d∈l,qe d<=300
 |[],_,_,_,d,h=>by cases h
 |x::r,0,hl,_,_,_=>by simp at hl
 |x::r,k+1,hl,hb,d,h=>by
  simp only[mV,xL,decide_eq_false_iff_not]at hb;rcases List.mem_cons.1 h with rfl|h
  .exact yb (P2 60 d J) J
  .exact dF r k (by simpa using hl) hb.2 d h
def Dg(h:U9 c=false):SmC c:=by
 unfold U9 at h;simp only[xL,decide_eq_false_iff_not]at h;obtain⟨h1,h2,h3,h4,h5⟩:=h;rw[tY c.fs 110 0 J,xB]at h2;have hf:∀f∈c.fs,qb f.b+(ui f.b).length<=szN 400 f.b/\szN 400 f.b<=2000/\zR f.ps<=2000/\zR f.fr<=2000:=λf hf=>by
  have:=A1 (F:=fnN) hf;unfold fnN at this h2;have hs:szN 400 f.b<=2000:=J;exact⟨aB 400 f.b J,hs,J,J⟩
 refine⟨J,J,?_,dF c.consts 40 J h1,λf hm=>?_,?_,?_⟩
 .unfold ltD at h5;rw[decide_eq_false_iff_not]at h5;exact Int.not_lt.1 h5
 .obtain⟨q1,q2,q3,q4⟩:=hf f hm;exact⟨J,q3,q4⟩
 .have h6:(jh c).length=(c.fs.map λf=>(ui f.b).length).sum:=by
   unfold jh;rw[zuP,zuT];rfl
  have h7:=sj (l:=c.fs) (F:=λf=>(ui f.b).length) (G:=fnN) λf hm=>by
   obtain⟨q1,_⟩:=hf f hm;unfold fnN;omega
  omega
 .have h7:=sj (l:=c.fs) (F:=λf=>qb f.b) (G:=fnN) λf hm=>by
   obtain⟨q1,_⟩:=hf f hm;unfold fnN;omega
  omega
def PQ{B:Nat}:∀{l:List DT},(∀d∈l,qe d<=B)->qC l<=zR l*B
 |[],_=>by simp[qC]
 |x::r,h=>by
  simp only[qC,yJ,xe,zuL];have h1:=h x (by simp)
  have h2:=PQ (l:=r) λd hd=>h d (by simp[hd])
  omega
def OK(h:SmC c)(hl:LgPre c):CsPre 301 c.consts:=by
 refine⟨hl.tx,λd hd=>by have:=h.nd d hd;omega,?_⟩
 have h1:=PQ h.nd;have h2:=xr 300 h.nc;omega
def OJ(h:SmC c)(hl:LgPre c):CvArg 301 c:=by
 have hus:=h.us;have hv:=h.vs;have e1:(yi 1099511627776)< .ofNat 2000000000000000000:=by decide
 have e2:(yi 1099511627776)< .ofNat 9223372036854775808:=by decide
 exact⟨⟨⟨OK h hl,⟨hl.nf,hl.f⟩⟩,λf hf=>by have:=(h.fn f hf).1;omega,J,J⟩,J,J,hl.nc⟩
def zzs{c:Cd}(h:SmC c):∀l∈(qF c).map q9,zR l<=2000:=λl hl=>by
 obtain⟨s,hs,rfl⟩:=List.mem_map.1 hl;rw[Qr];have hS:SOk (jh c) (zR c.fs) (qF c):=lA c (pg c);obtain⟨j,hj,e⟩:=zuO hs;have e2:(qF c).getD j []=s:=by rw[xR,xj hj,e];rfl
 have h1:=hS.sub j;have h2:=hS.nd j;rw[e2]at h1 h2;have:=pm h2 h1;have:=h.us;omega
def fg{c:Cd}{fr:ze}{kn:zq}{B:Nat}(hB:∀l∈fr,zR l<=B):∀(fs:List Fn) (ls:ze) (b:Int),((pP c fr kn fs ls b).map λf=>(ui f.b).length).sum<=(fs.map λf=>(ui f.b).length+qb f.b*B).sum
 |[],ls,b=>by cases ls<;>simp[pP]
 |f::r,[],b=>by simp[pP]
 |f::r,l::ls,b=>by
  simp only[pP,ye,zuI,HY];have h1:=mB (c:=c) (fr:=fr) (kn:=kn) (nm:=Vn b l 0 []) B hB f.b;have h2:=fg (c:=c) (kn:=kn) hB r ls (b+ .ofNat (zR l));omega
def A0{α:Type}{F G:α->Nat}(B:Nat):∀l:List α,(l.map λx=>F x+G x*B).sum=(l.map F).sum+(l.map G).sum *B
 |[]=>by simp
 |x::r=>by
  simp only[ye,zuI,A0 B r,xe];omega
def eP{B:Nat}:∀(ls:ze) (b:Int),(∀l∈ls,zR l<=B)->Zj ls b<=b+ .ofNat (zR ls*B)
 |[],b,_=>by simp only[Zj];have:(0:Int)<=.ofNat (([]:ze).length *B):=yy _;omega
 |l::r,b,h=>by
  simp only[Zj,yJ,xe,zuL];have h1:=eP r (b+ .ofNat (zR l)) λx hx=>h x (by simp[hx])
  have h2:=h l (by simp)
  have h3:yi (r.length*B+B)=yi (r.length*B)+yi B:=rfl;have h4:yi (zR l)<=yi B:=Int.ofNat_le.2 h2;omega
def zx8{kn:zq}(h:SmC c)(hl:LgPre c):ChPre 301 (cnv c kn):=by
 have hB:=zzs h;have hus:=h.us;have hns:=h.ns;have huc:(jh c).length=(c.fs.map λf=>(ui f.b).length).sum:=by
  unfold jh;rw[zuP,zuT];rfl
 have hfn:∀f∈(cnv c kn).fs,∃g∈c.fs,∃bj n nm,n<=2000/\f.ps=g.ps/\zR f.fr<=2000/\f.b=jR bj n (tmF c ((qF c).map q9) kn nm g.b):=λf hf=>by
  obtain⟨j,hj,e⟩:=zuO hf;have hjl:j<zR c.fs:=by rwa [sN]at hj
  have hg:=xj hjl;obtain⟨bj,b1,b2,b3⟩:=Sa (c:=c) (kn:=kn) hg;rw[xj hj,e,wB]at b3;have hsl:(q9 ((qF c).getD j [])).length=((qF c).getD j []).length:=Qr _;have hle:(q9 ((qF c).getD j [])).length<=2000:=by
   rw[<-Lj,xR];cases e2:((qF c).map q9)[j]? with
   |none=>simp
   |some l=>exact hB l (xU e2)
  subst b3;exact⟨c.fs[j],zuv hjl,bj,_,_,by rw[<-hsl];exact hle,rfl,hle,rfl⟩
 refine⟨⟨OK (c:=c) h hl,⟨by rw[sN];exact hl.nf,λf hf=>?_⟩⟩,λf hf=>?_,?_,?_⟩
 .obtain⟨g,hg,bj,n,nm,h1,h2,h3,h4⟩:=hfn f hf;have hs:=hl.f g hg;have hu:=UG hg;refine⟨by rw[h2];exact hs.1,J,?_⟩
  rw[h4];exact mb n _ (OP 2000 hB J g.b hs.2.2 J)
 .obtain⟨g,hg,bj,n,nm,h1,h2,h3,h4⟩:=hfn f hf;have:=(h.fn g hg).1;rw[h4,Hn,ii];omega
 .have h1:(jh (cnv c kn)).length=((cnv c kn).fs.map λf=>(ui f.b).length).sum:=by
   unfold jh;rw[zuP,zuT];rfl
  have h2:=fg (c:=c) (kn:=kn) hB c.fs ((qF c).map q9) c.vars;rw[A0]at h2;have h3:=xr 2000 hns;rw[h1];refine zuQ h2 ?_;omega
 .have h1:=eP _ c.vars hB;have hv:=h.vs;have h2:((qF c).map q9).length *2000<=100*2000:=xr _ (by rw[ce];exact h.nf)
  have h3:yi (((qF c).map q9).length *2000)<=yi (100*2000):=Int.ofNat_le.2 h2;show Zj ((qF c).map q9) c.vars<_;have e1:(yi 1099511627776)+yi (100*2000)< .ofNat 9223372036854775808:=by decide
  omega
set_option maxRecDepth 1000000
def zyW{E:Env}(h:pf P E)(p:Nat->Bool)(u:Bool):pf P {E with pure:=p,um:=u}:=h
def zyX:Env:={env with pure:=λ_=>false,um:=false}
def Sj(h:pf P env):pf P zyX:=zyW h (λ_=>false) false
def zyI:okV (.bool true) ((evT zyX noO 100000).call 6 [] s0)=true:=by decide+kernel
def I3:zA->U->zc:=v7 (λ_:Unit=>[]) (λ_=>True) (λ_=>.bool true)
def E2{O:Orc}(h:O 6=some I3)(s:U):(evW env O).call 6 [] s=some (.bool true,s):=by
 rw[qx h,I3,vY (λ_ _ _=>rfl) s () trivial rfl]
def zyJ(B:Bx P X):∃s1,SC P X 6 [] (s00 0 false) (.bool true) s1:=
 zyw (E:=zyX) (n:=100000) (jO P X) B.mixed B.glob (Sj B.env) zyI
def Bp(B:Bx P X){O:Orc}(hO:OrcOk P X O):OrcOk P X (withG 6 I3 O):=
 hO.withG pn (Wn false (λ_=>rfl) (λ_=>rfl) λ_ _=>zyJ B)
def mkV(v:Int)(l:zq):Int:=(lkM v l).getD (.negSucc 0)
section
variable {O:Orc}
def Od(h:O 25=none):∀(K:Nat) (t:Trm),qb t<=K->SzT t->∀(L:zb) (n m:Nat) (b:Bool),cl O 25 [vg t] (KL L n m b)=some (.bool (cE t),KL L n m b):=by
 intro K
 induction K with
 |zero=>intro t h;have:=vQ t;omega
 | succ K ih=>
  intro t hK hsz L n m b;apply X2;refine vr (F:=f25) h rfl rfl (zvT rfl) ?_;obtain⟨k,v,op,num,fn,az,ks⟩:=t;simp only[SzT,qb]at hK hsz;obtain⟨hs1,hs2,hs3⟩:=hsz;have hih:=λt (ht:t∈ks)=>ih t (by have:=jw ht;omega) (hU hs3 ht)
  clear ih;obtain⟨R,hR⟩:∃R,cE (.mk k v op num fn az ks)=R:=⟨_,rfl⟩;rw[hR];simp only[cE]at hR;obtain⟨bd,hbd⟩:∃z,aX k op=z:=⟨_,rfl⟩;rw[hbd]at hR;simp only[aX]at hbd;simp only[vg,wE]at hih|-;unfold f25 cF;simp only;refine wq ?_;refine qX (λfr t=>∃T,fr=⟨tmL T,[]⟩/\t=KL ((n,some (tmR k v op num fn az ks))::L) (n+1) 0 true/\G T 1 (.ptr n 0)/\G T 3 (.bool (!bd))) ?_ λfr t hI=>?_
  .clear hih hR;cases e1:eqD k (.ofNat 5)<;>cases e2:eqD k (.ofNat 1)<;>cases e3:eqD op (.ofNat 105)<;>cases e4:eqD op (.ofNat 106)
   all_goals (simp only[e1,e2,e3,e4,Bool.or_self,xZ,Bool.or_true,Bool.or_false,Bool.and_false,Bool.and_true]at hbd;subst hbd;refine wu ?_;exact⟨_,rfl,rfl,V,V⟩)
  .clear hbd;obtain⟨T,rfl,rfl,t1,t3⟩:=hI;have g0:=wC n (some (tmR k v op num fn az ks)) L;simp only[tmR]at g0;refine wp (wp (wu ?_));apply wA;refine wP (λi:Nat=>zR ks-i) (λi f t=>∃T m2 fi,f=⟨tmL T,[]⟩/\t=KL ((n,some (tmR k v op num fn az ks))::L) (n+1) m2 true/\G T 1 (.ptr n 0)/\G T 3 (.bool fi)/\G T 4 i/\i<=zR ks/\m2%2^n=0/\(fi&&Hu (ks.drop i))=R) (λi f t hI=>?_) 0 ⟨_,_, !bd,rfl,rfl,V,V,V,yz _,by simp,hR⟩
   clear hR t1 t3;obtain⟨T,m2,fi,rfl,rfl,t1,t3,t4,hi,hm,hR⟩:=hI;simp only[tmR];rcases wJ ks i with ⟨hlt,hd⟩|⟨x,hlt,hd⟩
   .have hni:¬i<zR ks:=J;rw[hd]at hR;simp only[Hu,Bool.and_true]at hR;subst hR;clear hd hih;refine wu ?_;refine ev_zc ?_;exact⟨rfl,rfl⟩
   .cases fi with
    |false=>
     rw[zvW]at hR;subst hR;clear hd hih;refine wu ?_;refine ev_zc ?_;exact⟨rfl,rfl⟩
    |true=>
     have hcx:=YR hd;have hx:=hih x (zvY (by rw[hd];exact zvZ))
     have hl7:=qi x;rw[hd]at hR;simp only[Hu,xC]at hR;generalize cE x=r at *;clear hd hih;refine wu ?_;exact⟨i+1,⟨_,_,r,rfl,rfl,V,V,V,J,V,hR⟩,J⟩
def DU(h:O 61=none)(y:Int):∀(K:Nat) (t:Trm),qb t<=K->SzT t->Qv M t->∀(L:zb) (n m:Nat) (b:Bool),cl O 61 [vg t,y] (KL L n m b)=some (.int .i64 (mkV y (tfL t)),KL L n m b):=by
 intro K
 induction K with
 |zero=>intro t h;have:=vQ t;omega
 | succ K ih=>
  intro t hK hsz hfn L n m b;apply X2;refine vr (F:=f61) h rfl rfl (zvT rfl) ?_;obtain⟨k,v,op,num,fn,az,ks⟩:=t;simp only[SzT,qb,Qv]at hK hsz hfn;obtain⟨hs1,hs2,hs3⟩:=hsz;obtain⟨hf1,hf2⟩:=hfn;have hih:=λt (ht:t∈ks)=>ih t (by have:=jw ht;omega) (hU hs3 ht) (Qc hf2 ht)
  clear ih;obtain⟨R,hR⟩:∃R,mkV y (tfL (.mk k v op num fn az ks))=R:=⟨_,rfl⟩;rw[hR];simp only[tfL]at hR;simp only[vg,wE]at hih|-;unfold f61 cF;simp only;refine wq ?_;refine qX (λfr t=>∃T,fr=⟨tmL T,[]⟩/\t=KL ((n,some (tmR k v op num fn az ks))::L) (n+1) 0 true/\G T 1 (.int .i64 y)/\G T 2 (.ptr n 0)/\mkV y (Jp ks)=R) ?_ λfr t hI=>?_
  .clear hih;cases e2:eqD k (.ofNat 2)with
   |false=>
    rw[e2,wK]at hR;refine wu ?_;exact⟨_,rfl,rfl,sW,sW,hR⟩
   |true=>
    rw[e2,wy]at hR;simp only[mkV,lkM]at hR;by_cases e3:v=y
    .rw[wH e3]at hR;have hR:fn=R:=hR;subst hR;have e4:eqD v y=true:=qL e3;clear e3 hf1;refine ev_zc ?_;exact⟨rfl,rfl⟩
    .rw[wx e3]at hR;have e4:eqD v y=false:=qy e3;clear e3;refine wu ?_;exact⟨_,rfl,rfl,sW,sW,hR⟩
  .clear hR hf1;obtain⟨T,rfl,rfl,t1,t2,hR⟩:=hI;have g0:=wC n (some (tmR k v op num fn az ks)) L;simp only[tmR]at g0;refine wp (wp (wu ?_));apply wA;refine wP (λi:Nat=>zR ks-i) (λi f t=>∃T m2,f=⟨tmL T,[]⟩/\t=KL ((n,some (tmR k v op num fn az ks))::L) (n+1) m2 true/\G T 1 (.int .i64 y)/\G T 2 (.ptr n 0)/\G T 5 i/\i<=zR ks/\m2%2^n=0/\mkV y (Jp (ks.drop i))=R) (λi f t hI=>?_) 0 ⟨_,_,rfl,rfl,V,V,V,yz _,by simp,hR⟩
   clear hR t1 t2;obtain⟨T,m2,rfl,rfl,t1,t2,t5,hi,hm,hR⟩:=hI;simp only[tmR];rcases wJ ks i with ⟨hlt,hd⟩|⟨x,hlt,hd⟩
   .have hni:¬i<zR ks:=J;rw[hd]at hR;have hR:Int.negSucc 0=R:=hR;subst hR;clear hd hih hf2;refine wu ?_;refine ev_zc ?_;exact⟨rfl,rfl⟩
   .have hcx:=YR hd;have hxm:x∈ks:=zvY (by rw[hd];exact zvZ)
    have hx:=hih x hxm;have hl7:=qi x;have hpos:=KG (Qc hf2 hxm) y;rw[hd]at hR;simp only[Jp,mkV,Xg]at hR;simp only[mkV]at hx;generalize lkM y (tfL x)=r at *;clear hd hih hf2 hxm;cases r with
    |some f=>
     obtain⟨j,rfl,_⟩:=hpos f rfl;simp only[Option.some_or,zuN]at hR hx;subst hR;clear hpos;refine ev_zc ?_;exact⟨rfl,rfl⟩
    |none=>
     simp only[Option.none_or,zuS]at hR hx;clear hpos;refine wu ?_;exact⟨i+1,⟨_,_,rfl,rfl,V,V,V,J,V,hR⟩,J⟩
end
def cdR(fs:List Fn)(main vars globals:Int)(consts:List DT):AObj:=.row 25 [.lst (zR fs) false (wo wW fs),main,vars,globals,.lst (zR consts) false (wQ consts)]
def clR(c:Cd)(fr:ze)(w:Z):AObj:=.row 65 (qc c++[vT fr,w])
section
variable {O:Orc}
def DS(h:O 44=none)(hm:O 61=none){c:Cd}(hsz:∀f∈c.fs,SzT f.b/\Qv M f.b)(hnf:List.length c.fs<1000000000)(y:Int)(L:zb)(n m:Nat)(b:Bool):cl O 44 [.agg (qc c),y] (KL L n m b)=some (.int .i64 (mkV y (tfA c.fs)),KL L n m b):=by
 apply X2;refine vr (F:=f44) h rfl rfl (zvT rfl) ?_;have hcal:=λf (hf:f∈c.fs)=>DU hm y (qb f.b) f.b (zX _) (hsz f hf).1 (hsz f hf).2;have hpos:=λf (hf:f∈c.fs)=>KG (hsz f hf).2 y;obtain⟨fs,main,vars,globals,consts⟩:=c;clear hsz;obtain⟨R,hR⟩:∃R,mkV y (tfA fs)=R:=⟨_,rfl⟩;simp only at hcal hpos hnf;simp only[hR];have hcut:=λi f r h=> @kS fs i f r h;simp only[qc];unfold f44 cF;simp only;refine wq ?_;refine wp (wp (wu ?_));apply wA;refine wP (λi:Nat=>zR fs-i) (λi f t=>∃T m2,f=⟨tmL T,[]⟩/\t=KL ((n,some (cdR fs main vars globals consts))::L) (n+1) m2 true/\G T 1 (.int .i64 y)/\G T 2 (.ptr n 0)/\G T 5 i/\i<=zR fs/\m2%2^n=0/\mkV y (tfA (fs.drop i))=R) (λi f t hI=>?_) 0 ⟨_,_,rfl,rfl,sW,sW,sW,yz _,by simp,hR⟩
 clear hR;obtain⟨T,m2,rfl,rfl,t1,t2,t5,hi,hm,hR⟩:=hI;simp only[cdR];rcases wJ fs i with ⟨hlt,hd⟩|⟨g,hlt,hd⟩
 .have hni:¬i<zR fs:=J;rw[hd]at hR;have hR:Int.negSucc 0=R:=hR;subst hR;clear hd hcal hcut hpos;refine wu ?_;refine ev_zc ?_;exact⟨rfl,rfl⟩
 .have hcg:=hcut i g _ hd;have hgm:g∈fs:=zvY (by rw[hd];exact zvZ)
  have hx:=hcal g hgm;have hps:=hpos g hgm;rw[hd]at hR;simp only[tfA,mkV,Xg]at hR;simp only[mkV]at hx;obtain⟨gps,grest,gcont,gfr,gb⟩:=g;simp only at hx hps hR;generalize lkM y (tfL gb)=r at *;obtain⟨gk,gv,gop,gn,gf,gas,gks⟩:=gb;simp only[vg,wE]at hx;simp only[wW,wE,qt,yu,zv1]at hcg;clear hcut hcal hpos hd hgm;cases r with
  |some f=>
   obtain⟨j,rfl,_⟩:=hps f rfl;simp only[Option.some_or,zuN]at hR hx;subst hR;clear hps;refine ev_zc ?_;exact⟨rfl,rfl⟩
  |none=>
   simp only[Option.none_or,zuS]at hR hx;clear hps;refine wu ?_;exact⟨i+1,⟨_,_,rfl,rfl,V,V,V,J,V,hR⟩,J⟩
def DV(h:O 43=none){Y fn:Nat}(hl:∃r,fr.drop fn=l::r)(hb:∃r,bz.drop fn=.ofNat bn::r)(hbn:bn+List.length l<4000000000000000000)(g:wn L cp=some (clR c fr (vZ wN 1 Y bz)))(v:Int)(n m:Nat)(b:Bool):cl O 43 [.ptr cp 0,v,fn] (KL L n m b)=some (.int .i64 (nmF (nmL (.ofNat bn) l 0) v),KL L n m b):=by
 apply X2;refine vr (F:=f43) h rfl rfl (zvT rfl) ?_;obtain⟨rb,hb⟩:=hb;obtain⟨rl,hl⟩:=hl;have hcl:=Z2 hl;have hcb:=uz hb;have hil:fn<zR fr:=by
  have:=congrArg zR hl;simp only[zvU,yJ]at this;omega
 have hib:fn<zR bz:=by
  have:=congrArg zR hb;simp only[zvU,yJ]at this;omega
 obtain⟨b0,bz,rfl⟩:∃x r,bz=x::r:=by
  cases bz with
  |nil=>exact absurd hib (wg _)
  |cons x r=>exact⟨x,r,rfl⟩
 clear hb hl;obtain⟨fs,main,vars,globals,consts⟩:=c;obtain⟨R,hR⟩:∃R,nmF (nmL (.ofNat bn) l 0) v=R:=⟨_,rfl⟩;rw[hR];simp only[clR,qc,yu,zv1,vT,vZ,qt]at g hcl;unfold f43 cF;simp only;refine wq ?_;refine wq ?_;refine wp (wp (wu ?_));apply wA;refine wP (λi:Nat=>zR l-i) (λi f t=>∃T,f=⟨tmL T,[]⟩/\t=KL L n 0 true/\G T 0 (.ptr cp 0)/\G T 1 (.int .i64 v)/\G T 2 fn/\G T 7 (.lst (zR l) false (wo wN l))/\G T 8 i/\i<=zR l/\nmF (nmL (.ofNat bn) (l.drop i) i) v=R) (λi f t hI=>?_) 0 ⟨_,rfl,rfl,V,V,V,V,V,yz _,hR⟩;clear hR hcl;obtain⟨T,rfl,rfl,t0,t1,t2,t7,t8,hi,hR⟩:=hI;rcases wJ l i with ⟨hlt,hd⟩|⟨x,hlt,hd⟩
 .have hni:¬i<zR l:=J;rw[hd]at hR;have hR:v=R:=hR;subst hR;clear hd g hcb;refine wu ?_;refine ev_zc ?_;exact⟨rfl,rfl⟩
 .have hc:=uz hd;rw[hd]at hR;simp only[nmL,nmF,lkM]at hR;clear hd;by_cases e:x=v
  .rw[wH e,zuN]at hR;have e2:eqD x v=true:=qL e;subst hR;clear e;refine ev_zc ?_;exact⟨rfl,rfl⟩
  .rw[wx e]at hR;have hR:nmF (nmL (.ofNat bn) (l.drop (i+1)) (i+1)) v=R:=hR;have e2:eqD x v=false:=qy e;clear e g hcb;refine wu ?_;exact⟨i+1,⟨_,rfl,trivial,V,V,V,V,V,J,hR⟩,J⟩
end
def Ju:AObj:=.row 44 [(0:Nat),(0:Nat),(0:Nat),(0:Nat),(0:Nat),.nils,.nils]
structure TeS(cp fn n0:Nat)(t:Trm)(L0:zb)(k2 f2:Int)(out:List Atm)(kV:Z)(T:List (Nat×Z))(L:zb)(n m Y:Nat):Prop where
 t0:G T 0 (.ptr cp 0)
 t2:G T 2 fn
 t4:G T 4 (.ptr n0 0)
 t6:G T 6 (.ptr (n0+1) 0)
 t7:G T 7 (.ptr (n0+1+1) 0)
 hn:n0+1+1+1<=n
 hm:m%2^n0=0
 g0:wn L n0=some (tmR t.kind t.var t.op t.num t.fn t.atoms t.kids)
 g1:wn L (n0+1)=some Ju
 g2:wn L (n0+1+1)=some (.row 44 [k2,t.var,t.op,t.num,f2,vZ wY 2 Y out,kV])
 hg:out≠[]->n0+1+1+1<=Y/\Y<n/\wn L Y=some (.app 51 (wo wY out))
 old:∀j,j<n0->wn L j=wn L0 j
structure ClR(c:Cd)(fr:ze)(bz l:zw)(bn cp fn:Nat)(L0:zb)(n0:Nat):Prop where
 lt:cp<n0
 row:∃Y,wn L0 cp=some (clR c fr (vZ wN 1 Y bz))
 hl:∃r,fr.drop fn=l::r
 hb:∃r,bz.drop fn=.ofNat bn::r
 hbn:bn+zR l<4000000000000000000
theorem YH{α:Type}(f:α->zA)(esz Y:Nat)(vs:List α):(vZ f esz Y vs).cells=[vZ f esz Y vs]:=by cases vs<;>rfl
theorem Kr{α:Type}(f:α->zA)(esz Y:Nat)(vs:List α):vF (vZ f esz Y vs)=true:=by cases vs<;>rfl
def zvq:ICode:=match f26.body with
 |.seq _ (.seq _ (.seq a _))=>a
 |_=>.skip
section
variable {O:Orc}
def fZ(h:O 43=none){fn:Nat}(hx:ClR c fr bz l bn cp fn L0 n0)(ho:∀j,j<n0->wn L j=wn L0 j)(v:Int)(n m:Nat)(b:Bool):cl O 43 [.ptr cp 0,v,fn] (KL L n m b)=some (.int .i64 (nmF (nmL (.ofNat bn) l 0) v),KL L n m b):=by
 obtain⟨Y,g⟩:=hx.row;exact DV h hx.hl hx.hb hx.hbn ((ho cp hx.lt).trans g) v n m b
attribute [local go_sem] YH in
def zzE(h43:O 43=none){fn:Nat}(hx:ClR c fr bz l bn cp fn L0 n0){op num k2 f2:Int}{az:List Atm}{ks:List Trm}{Y:Nat}(hS:TeS cp fn n0 (.mk k v op num tf az ks) L0 k2 f2 [] .nils T L n m Y)(hal:zR az<1000000000){Q:Res->Fr->U->Prop}:
  Ev (evC env (evW env O) none zvq ⟨tmL T,[]⟩ (KL L n m true)) (qa (λf t=>∃T2 L2 n2 m2 Y,f=⟨tmL T2,[]⟩/\t=KL L2 n2 m2 true/\TeS cp fn n0 (.mk k v op num tf az ks) L0 k2 f2 (az.map (rnA (nmL (.ofNat bn) l 0))) .nils T2 L2 n2 m2 Y) Q):=by
 unfold zvq f26 cF;simp only;obtain⟨nm,hnm⟩:∃nm,nmL (.ofNat bn) l 0=nm:=⟨_,rfl⟩;have hnc:=λ{L} (ho:∀j,j<n0->wn L j=wn L0 j)=>fZ h43 (L:=L) hx ho;rw[hnm]at hnc|-;obtain⟨R,hR⟩:∃R,az.map (rnA nm)=R:=⟨_,rfl⟩;rw[hR];obtain⟨t0,t2,t4,t6,t7,hn,hm,g0,g1,g2,hg,old⟩:=hS;refine wp (wu ?_);apply wA;refine wP (λi:Nat=>zR az-i) (λi f t=>∃T2 L2 n2 m2 Y out,f=⟨tmL T2,[]⟩/\t=KL L2 n2 m2 true/\TeS cp fn n0 (.mk k v op num tf az ks) L0 k2 f2 out .nils T2 L2 n2 m2 Y/\G T2 8 i/\i<=zR az/\zR out=i/\out++(az.drop i).map (rnA nm)=R) (λi f t hI=>?_) 0 ⟨_,L,n,_,Y,[],rfl,rfl,⟨V,V,V,V,V,hn,hm,g0,g1,g2,hg,old⟩,V,yz _,rfl,hR⟩;clear hR t0 t2 t4 t6 t7 hn hm g0 g1 g2 hg old;obtain⟨T,L,n,m,Y,out,rfl,rfl,⟨t0,t2,t4,t6,t7,hn,hm,g0,g1,g2,hg,old⟩,t8,hi,rfl,hR⟩:=hI;simp only[tmR,Trm.kind,Trm.var,Trm.op,Trm.num,Trm.fn,Trm.atoms,Trm.kids]at g0 g2;rcases wJ az (zR out)with ⟨hlt,hd⟩|⟨a,hlt,hd⟩
 .have hni:¬zR out<zR az:=J;rw[hd]at hR;simp only[xA,zvV]at hR;subst hR;have old2:=λj hj=>(old j hj).symm;clear old hnc hd;refine wu ?_;exact⟨_,L,n,_,Y,rfl,rfl,⟨V,V,V,V,V,hn,hm,g0,g1,g2,hg,λj hj=>(old2 j hj).symm⟩⟩
 .rw[hd,ye]at hR;have hc:=US hd;obtain⟨ak,an⟩:=a;have hnv:=λ(o o2:zm) m b=>hnc (L:=(n,o)::(n,o2)::L) (λj hj=>by rw[gN J,gN J];exact old j hj) an (n+1) m b
  simp only[wY]at hc;clear hd hnc;have hold:=λj (hj:j<n0)=>(old j hj).symm;have hidn:out≠[]->Y≠n0/\Y≠n0+1/\Y≠n0+1+1:=λh=>by have:=(hg h).1;omega
  clear old;refine wq ?_;refine wp (wA ?_);refine wq ?_;cases e1:eqD ak (.ofNat 1)with
  | true=>
   have hW:rnA nm ⟨ak,an⟩=⟨.ofNat 1,nmF nm an⟩:=by unfold rnA;simp only[e1,wy]
   rw[hW]at hR;clear hW;have hak:=eqT.1 e1;subst hak;refine wq ?_;refine qB ?_;refine wO (Yf (f:=wY) (n0:=n0) (Y:=Y) (vs:=out) (w:=⟨.ofNat 1,nmF nm an⟩) uV ug gR J (λhne=>?_) (by (repeat rw[wF J]);exact hm) J J J) λv t hv=>?_
   .obtain⟨q1,q2,q3⟩:=hg hne;refine⟨J,J,?_⟩
    (repeat rw[gN J])
    exact q3
   obtain⟨L5,m5,rfl,rfl,g5,hm5,hf5⟩:=hv;have hcat:=vG out ⟨.ofNat 1,nmF nm an⟩;have e0:=(hf5 n0 J λh=>(hidn h).1.symm).trans ((by (repeat rw[gN J]):_=wn L n0).trans g0)
   have e1':=(hf5 (n0+1) J λh=>(hidn h).2.1.symm).trans ((by (repeat rw[gN J]):_=wn L (n0+1)).trans g1)
   have e2:=(hf5 (n0+1+1) J λh=>(hidn h).2.2.symm).trans ((by (repeat rw[gN J]):_=wn L (n0+1+1)).trans g2)
   have hold5:∀j,j<n0->wn L0 j=wn L5 j:=λj hj=>by
    rw[hf5 j J λhne=>by have:=(hg hne).1;omega]
    (repeat rw[gN J])
    exact hold j hj
   have hsc:=Kr wY 2 (n+1) (out++[⟨.ofNat 1,nmF nm an⟩]);simp only[vF]at hsc;clear hnv hf5 hg hold g0 g1 g2 hidn;refine wu ?_;refine wu ?_;refine⟨zR out+1,⟨_,_,n+1+1,_,n+1,out++[⟨.ofNat 1,nmF nm an⟩],rfl,rfl,⟨V,V,V,V,V,J,?_,?_,?_,?_,λ_=>⟨J,J,?_⟩,λj hj=>?_⟩,V,J,hcat,by rw[zum];exact hR⟩,J⟩
   ·(repeat rw[wF J]);exact hm5
   .rw[gN J];exact e0
   .rw[gN J];exact e1'
   .exact wC _ _ _
   .rw[gN J];exact g5
   .rw[gN J];exact(hold5 j hj).symm
  | false=>
   have hW:rnA nm ⟨ak,an⟩=⟨ak,an⟩:=by unfold rnA;simp only[e1,wK]
   rw[hW]at hR;clear hW;refine wq ?_;refine qB ?_;refine wO (Yf (f:=wY) (n0:=n0) (Y:=Y) (vs:=out) (w:=⟨ak,an⟩) uV ug gR J (λhne=>?_) (by (repeat rw[wF J]);exact hm) J J J) λv t hv=>?_
   .obtain⟨q1,q2,q3⟩:=hg hne;refine⟨J,J,?_⟩
    (repeat rw[gN J])
    exact q3
   obtain⟨L5,m5,rfl,rfl,g5,hm5,hf5⟩:=hv;have hcat:=vG out ⟨ak,an⟩;have e0:=(hf5 n0 J λh=>(hidn h).1.symm).trans ((by (repeat rw[gN J]):_=wn L n0).trans g0)
   have e1':=(hf5 (n0+1) J λh=>(hidn h).2.1.symm).trans ((by (repeat rw[gN J]):_=wn L (n0+1)).trans g1)
   have e2:=(hf5 (n0+1+1) J λh=>(hidn h).2.2.symm).trans ((by (repeat rw[gN J]):_=wn L (n0+1+1)).trans g2)
   have hold5:∀j,j<n0->wn L0 j=wn L5 j:=λj hj=>by
    rw[hf5 j J λhne=>by have:=(hg hne).1;omega]
    (repeat rw[gN J])
    exact hold j hj
   have hsc:=Kr wY 2 (n+1) (out++[⟨ak,an⟩]);simp only[vF]at hsc;clear hnv hf5 hg hold g0 g1 g2 hidn;refine wu ?_;refine wu ?_;refine⟨zR out+1,⟨_,_,n+1+1,_,n+1,out++[⟨ak,an⟩],rfl,rfl,⟨V,V,V,V,V,J,?_,?_,?_,?_,λ_=>⟨J,J,?_⟩,λj hj=>?_⟩,V,J,hcat,by rw[zum];exact hR⟩,J⟩
   ·(repeat rw[wF J]);exact hm5
   .rw[gN J];exact e0
   .rw[gN J];exact e1'
   .exact wC _ _ _
   .rw[gN J];exact g5
   .rw[gN J];exact(hold5 j hj).symm
end
def sF{l:zb}{k:Nat}{b:Bool}{ks:zy}(h:i∈ks):(KL l n m b [] (some (k,ks))).get i=wn l i:=by
 rw[WQ];have:Xi i ks=true:=Ws.2 h;simp[hid,this]
def dE{α:Type}{f:α->zA}(hl:∀x,(f x).length=esz)(hp:∀x,wL (f x)=true)(hs:∀x,w8 (f x)=true)(he:1<=esz){Y:Nat}{vs:List α}{w:α}(h:vs≠[]->n0<=Y/\Y<n/\wn L Y=some (.app t (wo f vs)))(hn0:n0<=n)(hb:2*(zR vs+1)*bytes<=281474976710656)(hn:zR vs<1000000000):
  Cv (jo (KL L n 0 true [] (opD.onOf n (aC (UA (some (vZ f esz Y vs))) (some [])))) t esz bytes (vZ f esz Y vs) (.lst 1 e (f w))) λv s=>∃L' m' on',v=vZ f esz n (vs++[w])/\s=KL L' (n+1) m' true [] on'/\wn L' n=some (.app t (wo f (vs++[w])))/\m'%2^n0=0/\(∀j,j<n->(vs≠[]->j≠Y)->wn L' j=wn L j):=by
 cases vs with
 |nil=>
  refine⟨_,_,Yg L n 0 [] _ t esz bytes e (f w) (hl w) he (by simp only[xY]at hb;omega) (hp w),_,_,_,?_,rfl,?_,zv9 _,λj hj _=>by rw[gN J]⟩
  .simp only[zv1,vZ,vt,yJ,xY]
  .rw[wC];simp only[zv1,vt]
 | cons u us=>
  obtain⟨h1,h2,h3⟩:=h (by simp)
  simp only[vZ,HO,Zw,zvV,Ys];have h4:qf (zK 1 esz) (f w)=some (f w):=qz (by rw[hl];show esz=1*esz;omega)
  have h5:=wX hp (u::us);have h6:wL (wo f (u::us)++f w)=true:=by rw[ux,h5,hp];rfl
  refine⟨.gr n esz (zR us+1+1) (wo f (u::us)++f w),KL ((n,some (.app t (wo f (u::us)++f w)))::(Y,none)::L) (n+1) (0|||1<<<Y) true [] (some (n,[Y])),?_,_,_,_,?_,rfl,?_,?_,λj hj hne=>by rw[gN J,wz,wx (hne (by simp))]⟩
  .simp only[yJ]at hb hn;simp only[jo,gP,qQ,h4,ZZ,sF (List.mem_singleton.2 rfl),h3,ql.2,hs,xZ,wy,Zo,h6,yJ];rw[show Nat.ble (zK (zK 2 (Nat.add (zR us+1) 1)) bytes) 281474976710656=true from qd.2 hb,show Nat.ble 1 esz=true from qd.2 he,show Nat.blt (Nat.add (zR us+1) 1) 9223372036854775808=true from qA.2 (by show (zR us)+1+1<_;omega)]
   rfl
  .simp only[yu,y8,yJ,xY,xB];rw[<-yu,qu,vt]
  .rw[wC,qu,vt]
  .exact(fS h1).trans (zv9 _)
def zvo:ICode:=match f26.body with
 |.seq _ (.seq _ (.seq _ (.seq a _)))=>a
 |_=>.skip
section
variable {O:Orc}
attribute [local go_sem] YH in
def zzC(h43:O 43=none){fn:Nat}(hx:ClR c fr bz l bn cp fn L0 n0){op num:Int}{az:List Atm}{ks:List Trm}{out0:List Atm}{Y:Nat}(hS:TeS cp fn n0 (.mk k v op num tf az ks) L0 k tf out0 .nils T L n m Y)(hk2:eqD k (.ofNat 2)=true->∃j lj r,tf=.ofNat j/\fr.drop j=lj::r/\zR out0+zR lj<1000000000){Q:Res->Fr->U->Prop}:
  Ev (evC env (evW env O) none zvo ⟨tmL T,[]⟩ (KL L n m true)) (qa (λf t=>∃T2 L2 n2 m2 Y,f=⟨tmL T2,[]⟩/\t=KL L2 n2 m2 true/\TeS cp fn n0 (.mk k v op num tf az ks) L0 k tf (bif eqD k (.ofNat 2)then out0++(fr.getD tf.toNat []).map (vrA (nmL (.ofNat bn) l 0))else out0) .nils T2 L2 n2 m2 Y) Q):=by
 unfold zvo f26 cF;simp only;obtain⟨nm,hnm⟩:∃nm,nmL (.ofNat bn) l 0=nm:=⟨_,rfl⟩;have hnc:=λ{L} (ho:∀j,j<n0->wn L j=wn L0 j)=>fZ h43 (L:=L) hx ho;rw[hnm]at hnc|-;obtain⟨t0,t2,t4,t6,t7,hn,hm,g0,g1,g2,hg,old⟩:=hS;simp only[tmR,Trm.kind,Trm.var,Trm.op,Trm.num,Trm.fn,Trm.atoms,Trm.kids]at g0 g2;refine wq ?_;cases e2:eqD k (.ofNat 2)with
 |false=>
  clear hnc;have old2:=λj hj=>(old j hj).symm;clear old;refine wu ?_;exact⟨_,L,n,_,Y,rfl,rfl,⟨V,V,V,V,V,hn,hm,g0,g1,g2,hg,λj hj=>(old2 j hj).symm⟩⟩
 | true=>
  obtain⟨j,lj,r,rfl,hl,hll⟩:=hk2 e2;have hcl:=Z2 hl;have hjf:j<zR fr:=by
   have:=congrArg zR hl;simp only[zvU,yJ]at this;omega
  have hgd:fr.getD (yi j).toNat []=lj:=by show fr.getD j []=lj;rw[xR,<-List.head?_drop,hl];rfl
  rw[hgd,wy];obtain⟨cid,gc0⟩:=hx.row;have gc:=(old cp hx.lt).trans gc0;obtain⟨fs,main,vars,globals,consts⟩:=c;simp only[clR,qc,yu,zv1,vT,qt]at gc hcl;obtain⟨R,hR⟩:∃R,out0++lj.map (vrA nm)=R:=⟨_,rfl⟩;rw[hR];have hlt:=hx.lt;clear hl hgd gc0 hk2;have old2:=λj hj=>(old j hj).symm;have hnc2:= @hnc;clear hnc old;refine vM V ?_;refine wq ?_;refine wq ?_;apply wA;refine wP (λi:Nat=>zR lj-i) (λi f t=>∃T2 L2 n2 m2 Y out,f=⟨tmL T2,[]⟩/\t=KL L2 n2 m2 true/\TeS cp fn n0 (.mk k v op num (.ofNat j) az ks) L0 k (.ofNat j) out .nils T2 L2 n2 m2 Y/\G T2 10 (.lst (zR lj) false (wo wN lj))/\G T2 11 i/\i<=zR lj/\zR out=zR out0+i/\out++(lj.drop i).map (vrA nm)=R) (λi f t hI=>?_) 0 ⟨_,L,n,_,Y,out0,rfl,rfl,⟨V,V,V,V,V,hn,hm,g0,g1,g2,hg,λj hj=>(old2 j hj).symm⟩,V,V,yz _,rfl,hR⟩;clear hR t0 t2 t4 t6 t7 hn hm g0 g1 g2 hg old2 gc hcl;obtain⟨T,L,n,m,Y,out,rfl,rfl,⟨t0,t2,t4,t6,t7,hn,hm,g0,g1,g2,hg,old⟩,t10,t11,hi,hol,hR⟩:=hI;simp only[tmR,Trm.kind,Trm.var,Trm.op,Trm.num,Trm.fn,Trm.atoms,Trm.kids]at g0 g2;have old2:=λj hj=>(old j hj).symm;rcases wJ lj i with ⟨hlt,hd⟩|⟨y,hlt,hd⟩
  .have hni:¬i<zR lj:=J;rw[hd]at hR;simp only[xA,zvV]at hR;subst hR;clear old hnc2 hd;refine wu ?_;exact⟨_,L,n,_,Y,rfl,rfl,⟨V,V,V,V,V,hn,hm,g0,g1,g2,hg,λj hj=>(old2 j hj).symm⟩⟩
  .rw[hd,ye]at hR;have hc:=uz hd;have hnv:=λm b=>hnc2 old y n m b;clear hd hnc2 old;refine wq ?_;refine wp (wA ?_);refine qB ?_;refine lw (dE (f:=wY) (n0:=n0) (Y:=Y) (vs:=out) (w:=vrA nm y) uV ug gR J (λhne=>?_) J J J) λv' t hv=>?_
   .obtain⟨q1,q2,q3⟩:=hg hne;exact⟨J,q2,q3⟩
   obtain⟨L5,m5,on5,rfl,rfl,g5,hm5,hf5⟩:=hv;have hcat:=vG out (vrA nm y);have hidn:out≠[]->Y≠n0/\Y≠n0+1/\Y≠n0+1+1:=λh=>by have:=(hg h).1;omega
   have e0:=(hf5 n0 J λh=>(hidn h).1.symm).trans g0;have e1':=(hf5 (n0+1) J λh=>(hidn h).2.1.symm).trans g1;have e2:=(hf5 (n0+1+1) J λh=>(hidn h).2.2.symm).trans g2;have hold5:∀j,j<n0->wn L0 j=wn L5 j:=λj hj=>by
    rw[hf5 j J λhne=>by have:=(hg hne).1;omega]
    exact old2 j hj
   have hsc:=Kr wY 2 n (out++[vrA nm y]);simp only[vF]at hsc;clear hnv hf5 hg old2 g0 g1 g2 hidn;refine wu ?_;refine wu ?_;refine⟨i+1,⟨_,_,n+1,_,n,out++[vrA nm y],rfl,rfl,⟨V,V,V,V,V,J,?_,?_,?_,?_,λ_=>⟨J,J,?_⟩,λj hj=>?_⟩,V,V,J,J,by rw[zum];exact hR⟩,J⟩
   .rw[wF J,Nat.or_mod_two_pow,hm,hm5];rfl
   .rw[gN J];exact e0
   .rw[gN J];exact e1'
   .exact wC _ _ _
   .rw[gN J];exact g5
   .rw[gN J];exact(hold5 j hj).symm
def k4K(o:Option Int)(k:Int):Int:=match o with
 |some _=>.ofNat 5
 |none=>k
def k4F(o:Option Int)(f:Int):Int:=match o with
 |some t=>t
 |none=>f
def zvp:ICode:=match f26.body with
 |.seq _ (.seq _ (.seq _ (.seq _ (.seq a _))))=>a
 |_=>.skip
def zzD(h44:O 44=none)(h61:O 61=none){c:Cd}{fn:Nat}(hx:ClR c fr bz l bn cp fn L0 n0)(hsz:∀f∈c.fs,SzT f.b/\Qv M f.b)(hnf:zR c.fs<1000000000)(hM:M<=zR c.fs)(hps:∀f∈c.fs,zR f.ps<1000000000){op num:Int}{az:List Atm}{ks:List Trm}{out:List Atm}{Y:Nat}(hS:TeS cp fn n0 (.mk k v op num tf az ks) L0 k tf out .nils T L n m Y)(hk4:eqD k (.ofNat 4)=true->az≠[])(hal:zR az<1000000000){Q:Res->Fr->U->Prop}:
  Ev (evC env (evW env O) none zvp ⟨tmL T,[]⟩ (KL L n m true)) (qa (λf t=>∃T2 L2 n2 m2 Y,f=⟨tmL T2,[]⟩/\t=KL L2 n2 m2 true/\TeS cp fn n0 (.mk k v op num tf az ks) L0 (bif eqD k (.ofNat 4)then k4K (knF c (tfA c.fs) az) k else k) (bif eqD k (.ofNat 4)then k4F (knF c (tfA c.fs) az) tf else tf) out .nils T2 L2 n2 m2 Y) Q):=by
 unfold zvp f26 cF;simp only;obtain⟨t0,t2,t4,t6,t7,hn,hm,g0,g1,g2,hg,old⟩:=hS;simp only[tmR,Trm.kind,Trm.var,Trm.op,Trm.num,Trm.fn,Trm.atoms,Trm.kids]at g0 g2;have old2:=λj hj=>(old j hj).symm;cases e4:eqD k (.ofNat 4)with
 |false=>
  clear old;refine wq ?_;refine wu ?_;exact⟨_,L,n,_,Y,rfl,rfl,⟨V,V,V,V,V,hn,hm,g0,g1,g2,hg,λj hj=>(old2 j hj).symm⟩⟩
 | true=>
  obtain⟨a,az,rfl⟩:∃a r,az=a::r:=by
   cases az with
   |nil=>exact absurd rfl (hk4 e4)
   |cons a r=>exact⟨a,r,rfl⟩
  have hkn:=λn m b=>DS h44 h61 hsz hnf a.n L n m b;have hin:=A6 (λf hf=>(hsz f hf).2) a.n;have hc0:qf 2 (wo wY (a::az))=some (wY a):=uT (uV a);obtain⟨cid,gc0⟩:=hx.row;have gc:=(old cp hx.lt).trans gc0;have hlt:=hx.lt;clear old hk4 gc0;simp only[wy,mkV]at hkn|-;obtain⟨ak,an⟩:=a;obtain⟨fs,main,vars,globals,consts⟩:=c;simp only[clR,qc,yu,zv1,vT]at gc hkn;simp only[wo,wY,yJ,yu,zv1]at g0 hin hkn hc0 hal|-;simp only at hnf hM hps hsz;have hgd:∀j,Xb ⟨fs,main,vars,globals,consts⟩ (.ofNat j)=fs.getD j fn0:=λ_=>rfl;clear hsz;obtain⟨K,hK⟩:∃K,knF ⟨fs,main,vars,globals,consts⟩ (tfA fs) (⟨ak,an⟩::az)=K:=⟨_,rfl⟩;rw[hK];simp only[knF]at hK;cases e1:eqD ak (.ofNat 1)with
  | false=>
   have hr:(none:Option Int)=K:=by
    rw[<-hK];simp only[e1,zvW,wK];cases lkM an (tfA fs)<;>rfl
   subst hr;clear hK hkn hin hgd hps;refine wq ?_;refine wu ?_;exact⟨_,L,n,_,Y,rfl,rfl,⟨V,V,V,V,V,hn,hm,g0,g1,g2,hg,λj hj=>(old2 j hj).symm⟩⟩
  | true=>
   rw[e1]at hK;obtain⟨r,hr⟩:∃r,lkM an (tfA fs)=r:=⟨_,rfl⟩;rw[hr]at hkn hin hK;clear hr;cases r with
   |none=>
    simp only[zuS]at hkn hK;subst hK;clear hin hgd hps;refine wq ?_;refine vM V ?_;refine wq ?_;refine wu ?_;exact⟨_,L,n,_,Y,rfl,rfl,⟨V,V,V,V,V,hn,V,g0,g1,g2,hg,λj hj=>(old2 j hj).symm⟩⟩
   | some t=>
    obtain⟨j,rfl,hj⟩:=hin t rfl;simp only[zuN]at hkn hK;have hjl:j<zR fs:=J;have hd:fs.drop j=fs[j]::fs.drop (j+1):=zud hjl;have hpg:=hps fs[j] (zuv hjl);have hdr:=kS hd;rw[hgd,xR,xj hjl,zuN]at hK;clear hd hin hps hgd hj;generalize fs[j]=g at *;obtain⟨gps,grest,gcont,gfr,gb⟩:=g;obtain⟨gk,gv,gop,gn,gf,gas,gks⟩:=gb;simp only[wW,wE,qt,yu,zv1]at hdr hpg hK;cases grest with
    |true=>
     simp only[Bool.not_true,zvW,Bool.and_false,wK]at hK;subst hK;refine wq ?_;refine vM V ?_;refine wq ?_;refine wu ?_;exact⟨_,L,n,_,Y,rfl,rfl,⟨V,V,V,V,V,hn,V,g0,g1,g2,hg,λj hj=>(old2 j hj).symm⟩⟩
    | false=>
     by_cases hp:zR gps=zR az
     .simp only[zv6,xC,hp,decide_true,wy]at hK;subst hK;rw[hp]at hdr;refine wq ?_;refine vM V ?_;refine wq ?_;refine wu ?_;refine⟨_,_,n,_,Y,rfl,rfl,⟨V,V,V,V,V,hn,?_,?_,?_,?_,λh=>⟨(hg h).1,(hg h).2.1,?_⟩,λj hj=>?_⟩⟩
      .rw[wF J,wF J];exact hm
      .rw[gN J,gN J];exact g0
      .rw[gN J,gN J];exact g1
      .exact wC _ _ _
      .have:=(hg h).1;rw[gN J,gN J];exact(hg h).2.2
      .rw[gN J,gN J];exact(old2 j hj).symm
     .simp only[zv6,xC,hp,decide_false,wK]at hK;subst hK;refine wq ?_;refine vM V ?_;refine wq ?_;refine wu ?_;exact⟨_,L,n,_,Y,rfl,rfl,⟨V,V,V,V,V,hn,V,g0,g1,g2,hg,λj hj=>(old2 j hj).symm⟩⟩
end
theorem zvF(x1 x2:Int):Yd (.flat [.i,.i]) true (.agg [x1,x2]) (.agg [x1,x2])=some (.bool false):=by
 have h:∀x,eqI x x=true:=λx=>by cases x<;>simp[eqI]
 simp only[Yd,eqV,Zk,eq1,j8,wy,h];rfl
theorem zwE(b:Bool):Yd .bool true (.bool b) (.bool b)=some (.bool false):=by cases b<;>rfl
theorem j5(x:Int):eqD x x=true:=qL rfl
section
variable {O:Orc}
def aj(h:O 27=none)(l:zw)(hl:List.length l<1000000000)(L:zb)(n m:Nat)(b:Bool):cl O 27 [qt l,qt l] (KL L n m b)=some (.bool true,KL L n m b):=by
 apply X2;refine vr (F:=f27) h rfl rfl (zvT rfl) ?_;have e0:=j5 (.ofNat (zR l));simp only[qt];unfold f27 cF;simp only;refine wq ?_;refine wq ?_;refine wp (wp (wu ?_));apply wA;refine wP (λi:Nat=>zR l-i) (λi f t=>∃T,f=⟨tmL T,[]⟩/\t=KL L n 0 true/\G T 0 (.lst (zR l) false (wo wN l))/\G T 1 (.lst (zR l) false (wo wN l))/\G T 5 i/\i<=zR l) (λi f t hI=>?_) 0 ⟨_,rfl,rfl,V,V,V,yz _⟩;obtain⟨T,rfl,rfl,t0,t1,t5,hi⟩:=hI;rcases wJ l i with ⟨hlt,hd⟩|⟨y,hlt,hd⟩
 .have hni:¬i<zR l:=J;clear hd e0;refine wu ?_;refine ev_zc ?_;exact⟨rfl,rfl⟩
 .have hc:=uz hd;have e1:=j5 y;clear hd e0;refine wu ?_;exact⟨i+1,⟨_,rfl,by trivial,V,V,V,J⟩,J⟩
def iO(h:O 28=none):∀(K:Nat) (t:Trm),qb t<=K->SzT t->∀(L:zb) (n m:Nat) (b:Bool),cl O 28 [vg t,vg t] (KL L n m b)=some (.bool true,KL L n m b):=by
 intro K
 induction K with
 |zero=>intro t h;have:=vQ t;omega
 | succ K ih=>
  intro t hK hsz L n m b;apply X2;refine vr (F:=f28) h rfl rfl (zvT rfl) ?_;obtain⟨k,v,op,num,fn,az,ks⟩:=t;simp only[SzT,qb]at hK hsz;obtain⟨hs1,hs2,hs3⟩:=hsz;have hih:=λt (ht:t∈ks)=>ih t (by have:=jw ht;omega) (hU hs3 ht)
  clear ih;have e1:=j5 k;have e2:=j5 v;have e3:=j5 op;have e4:=j5 num;have e5:=j5 fn;have e6:=j5 (.ofNat (zR az));have e7:=j5 (.ofNat (zR ks))
  simp only[vg,wE]at hih|-;unfold f28;simp only[Ko,Kg,Kd,Ki];refine wq ?_;refine wq ?_;clear e1 e2 e3 e4 e5 e6 e7;refine qX (λfr t=>∃T,fr=⟨tmL T,[]⟩/\t=KL ((n+1,some (tmR k v op num fn az ks))::(n,some (tmR k v op num fn az ks))::L) (n+1+1) 0 true/\G T 2 (.ptr n 0)/\G T 3 (.ptr (n+1) 0)) ?_ λfr t hI=>?_
  .clear hih;refine wp (wu ?_);apply wA;refine wP (λi:Nat=>zR az-i) (λi f t=>∃T,f=⟨tmL T,[]⟩/\t=KL ((n+1,some (tmR k v op num fn az ks))::(n,some (tmR k v op num fn az ks))::L) (n+1+1) 0 true/\G T 2 (.ptr n 0)/\G T 3 (.ptr (n+1) 0)/\G T 5 i/\i<=zR az) (λi f t hI=>?_) 0 ⟨_,rfl,rfl,sW,sW,sW,yz _⟩;obtain⟨T,rfl,rfl,t2,t3,t5,hi⟩:=hI;simp only[tmR];rcases wJ az i with ⟨hlt,hd⟩|⟨a,hlt,hd⟩
   .have hni:¬i<zR az:=J;clear hd;refine wu ?_;exact⟨_,rfl,by trivial,V,V⟩
   .have hc:=US hd;obtain⟨ak,an⟩:=a;have hq:=zvF ak an;simp only[wY]at hc;clear hd;refine wu ?_;exact⟨i+1,⟨_,rfl,by trivial,V,V,V,J⟩,J⟩
  .obtain⟨T,rfl,rfl,t2,t3⟩:=hI;refine wp (wp (wu ?_));apply wA;refine wP (λi:Nat=>zR ks-i) (λi f t=>∃T m2,f=⟨tmL T,[]⟩/\t=KL ((n+1,some (tmR k v op num fn az ks))::(n,some (tmR k v op num fn az ks))::L) (n+1+1) m2 true/\G T 2 (.ptr n 0)/\G T 3 (.ptr (n+1) 0)/\G T 6 i/\i<=zR ks/\m2%2^n=0) (λi f t hI=>?_) 0 ⟨_,_,rfl,rfl,V,V,V,yz _,by simp⟩
   clear t2 t3;obtain⟨T,m2,rfl,rfl,t2,t3,t6,hi,hm⟩:=hI;simp only[tmR];rcases wJ ks i with ⟨hlt,hd⟩|⟨x,hlt,hd⟩
   .have hni:¬i<zR ks:=J;clear hd hih;refine wu ?_;refine ev_zc ?_;exact⟨rfl,rfl⟩
   .have hcx:=YR hd;have hx:=hih x (zvY (by rw[hd];exact zvZ))
    have hl7:=qi x;clear hd hih;refine wu ?_;exact⟨i+1,⟨_,_,rfl,rfl,V,V,V,J,V⟩,J⟩
def rX(h:O 9=none)(hn:O 27=none)(ht:O 28=none){c:Cd}(hc:∀f∈c.fs,List.length f.ps<1000000000/\List.length f.fr<1000000000/\SzT f.b)(hnf:List.length c.fs<1000000000)(L:zb)(n m:Nat)(b:Bool):cl O 9 [.agg (qc c),.agg (qc c)] (KL L n m b)=some (.bool true,KL L n m b):=by
 apply X2;refine vr (F:=f9) h rfl rfl (zvT rfl) ?_;have h1:=λf (hf:f∈c.fs)=>aj hn f.ps (hc f hf).1;have h2:=λf (hf:f∈c.fs)=>aj hn f.fr (hc f hf).2.1;have h3:=λf (hf:f∈c.fs)=>iO ht (qb f.b) f.b (zX _) (hc f hf).2.2;obtain⟨fs,main,vars,globals,consts⟩:=c;simp only at hc h1 h2 h3 hnf;clear hc;have hcut:=λi f r h=> @kS fs i f r h;have e1:=j5 main;have e2:=j5 vars;have e3:=j5 globals;have e4:=j5 (.ofNat (zR consts));have e5:=j5 (.ofNat (zR fs))
 simp only[qc];unfold f9 cF;simp only;refine wq ?_;refine wq ?_;clear e1 e2 e3 e4 e5;refine wp (wp (wu ?_));apply wA;refine wP (λi:Nat=>zR fs-i) (λi f t=>∃T L2 n2 m2,f=⟨tmL T,[]⟩/\t=KL L2 n2 m2 true/\G T 2 (.ptr n 0)/\G T 3 (.ptr (n+1) 0)/\G T 5 i/\i<=zR fs/\m2%2^n=0/\n+1+1<=n2/\wn L2 n=some (cdR fs main vars globals consts)/\wn L2 (n+1)=some (cdR fs main vars globals consts)) (λi f t hI=>?_) 0 ⟨_,_,n+1+1,_,rfl,rfl,sW,sW,sW,yz _,by simp,zX _,by simp (disch:=first|exact dis|fail)only[go_sem,seval,-rO,-rN,cdR],by simp (disch:=first|exact dis|fail)only[go_sem,seval,-rO,-rN,cdR]⟩
 obtain⟨T,L2,n2,m2,rfl,rfl,t2,t3,t5,hi,hm,hn2,g0,g1⟩:=hI;simp only[cdR]at g0 g1;rcases wJ fs i with ⟨hlt,hd⟩|⟨g,hlt,hd⟩
 .have hni:¬i<zR fs:=J;clear hd h1 h2 h3 hcut;refine wu ?_;refine ev_zc ?_;exact⟨rfl,rfl⟩
 .have hcg:=hcut i g _ hd;have hgm:g∈fs:=zvY (by rw[hd];exact zvZ)
  have k1:=h1 g hgm;have k2:=h2 g hgm;have k3:=h3 g hgm;obtain⟨gps,grest,gcont,gfr,gb⟩:=g;obtain⟨gk,gv,gop,gn,gf,gas,gks⟩:=gb;simp only[vg,wE,qt]at k1 k2 k3;simp only[wW,wE,qt,yu,zv1]at hcg;clear hcut h1 h2 h3 hd hgm;have hb1:=zwE grest;have hb2:=zwE gcont
  (refine wu ?_;exact⟨i+1,⟨_,_,n2+1+1,_,rfl,rfl,V,V,V,J,V,J,by simp (disch:=first|exact dis|fail)only[go_sem,seval,-rO,-rN, *,cdR],by simp (disch:=first|exact dis|fail)only[go_sem,seval,-rO,-rN, *,cdR]⟩,J⟩)
end
structure TePre(c:Cd)(fr:ze)(M:Nat):Prop where
 sz:∀f∈c.fs,SzT f.b/\Qv M f.b
 nf:zR c.fs<1000000000
 le:M<=zR c.fs
 ps:∀f∈c.fs,zR f.ps<1000000000
def TN(us:zA)(t:Trm):Prop:=zR us=7/\wL us=true/\w8 us=true/\wkL us=wZ t
def TNs(us:zA)(ks:List Trm):Prop:=zR us=zR ks*7/\wL us=true/\wkL us=wo wZ ks
def Zy(esz Y n:Nat)(cs:zA):Z:=match n with
 |0=>.nils
 |k+1=>.gr Y esz (k+1) cs
theorem QU(esz Y n:Nat)(cs:zA):(Zy esz Y n cs).cells=[Zy esz Y n cs]:=by cases n<;>rfl
theorem aR(esz Y n:Nat)(cs:zA):vF (Zy esz Y n cs)=true:=by cases n<;>rfl
def du:∀a b:zA,wkL (a++b)=wkL a++wkL b
 |[],_=>rfl
 |v::a,b=>by simp only[yu,wkL,du a b]
def TNs.app{vs:zA}{ks:List Trm}{t:Trm}(h:TNs us ks)(h2:TN vs t):TNs (us++vs) (ks++[t]):=by
 obtain⟨a1,a2,a3⟩:=h;obtain⟨b1,b2,b3,b4⟩:=h2;refine⟨?_,by rw[ux,a2,b2];rfl,by rw[du,a3,b4,qu,vt]⟩
 simp only[y8,a1,b1,yJ,xY,xB,xe]
def lN{v:Z}{r:zA}(h:w8 (v::r)=true):vF v=true/\w8 r=true:=by
 simp only[w8]at h;cases hv:vF v with
 |false=>rw[hv]at h;cases h
 |true=>rw[hv]at h;exact⟨rfl,h⟩
def TN.seven{t:Trm}(h:TN us t):∃w1 w2 w3 w4 w5 w6 w7,us=[w1,w2,w3,w4,w5,w6,w7]/\vF w1=true/\vF w2=true/\vF w3=true/\vF w4=true/\vF w5=true/\vF w6=true/\vF w7=true:=by
 obtain⟨h1,_,h3,_⟩:=h
 match us,h1,h3 with
 |[a1,a2,a3,a4,a5,a6,a7],_,h=>
  obtain⟨b1,h⟩:=lN h;obtain⟨b2,h⟩:=lN h;obtain⟨b3,h⟩:=lN h;obtain⟨b4,h⟩:=lN h;obtain⟨b5,h⟩:=lN h;obtain⟨b6,h⟩:=lN h;exact⟨_,_,_,_,_,_,_,rfl,b1,b2,b3,b4,b5,b6,(lN h).1⟩
def EY(he:1<=esz){Y k:Nat}(hu:zR us=esz)(hp:wL us=true)(hs:w8 us=true)(hc:wL cs=true)(hk0:k=0->cs=[])(h:k≠0->n0<=Y/\Y<n/\wn L Y=some (.app t cs))(hm:m%2^n0=0)(hn0:n0<=n)(hb:2*(k+1)*bytes<=281474976710656)(hn:k<1000000000):
  Cv (jo (KL L n m true) t esz bytes (Zy esz Y k cs) (.lst 1 e us)) λv s=>∃L' m',v=Zy esz n (k+1) (cs++us)/\s=KL L' (n+1) m' true/\wn L' n=some (.app t (cs++us))/\m'%2^n0=0/\∀j,j<n->(k≠0->j≠Y)->wn L' j=wn L j:=by
 cases k with
 |zero=>
  rw[hk0 rfl];refine⟨_,_,Yg L n m [] none t esz bytes e us hu he J hp,_,_,rfl,rfl,wC _ _ _,hm,λj hj _=>by rw[gN J]⟩
 |succ k=>
  obtain⟨h1,h2,h3⟩:=h J;refine⟨_,_,aW L n m true t esz bytes Y (k+1) e cs us h3 hu he hb hn hc hp hs,_,_,rfl,rfl,wC _ _ _,by rw[wF h1];exact hm,λj hj hne=>by rw[gN J,wz,wx (hne J)]⟩
section
variable {O:Orc}
attribute [local go_sem] YH QU in
def Oo(h26:O 26=none)(h43:O 43=none)(h44:O 44=none)(h61:O 61=none){fn:Nat}(hp:TePre c fr M):∀(K:Nat) (t:Trm),qb t<=K->SzT t->QT c fr [] t->∀(L:zb) (n m:Nat) (b:Bool),ClR c fr bz l bn cp fn L n->Cv (cl O 26 [.ptr cp 0,vg t,fn] (KL L n m b)) λv s=>(∃us,v=.agg us/\TN us (tmF c fr (tfA c.fs) (nmL (.ofNat bn) l 0) t))/\s=KL L n m b:=by
 intro K
 induction K with
 |zero=>intro t h;have:=vQ t;omega
 | succ K ih=>
  intro t hK hsz hone L0 n0 m0 b0 hx;refine vr (F:=f26) h26 rfl rfl (zvT rfl) ?_;obtain⟨k,v,op,num,tf,az,ks⟩:=t;simp only[SzT,qb,QT]at hK hsz hone;obtain⟨hs1,hs2,hs3⟩:=hsz;obtain⟨ho1,ho2,ho3⟩:=hone;have hih:=λt (ht:t∈ks)=>ih t (by have:=jw ht;omega) (hU hs3 ht) (Jg ho3 ht)
  clear ih ho3;obtain⟨nm,hnm⟩:∃nm,nmL (.ofNat bn) l 0=nm:=⟨_,rfl⟩;obtain⟨⟨Hk,Hf,Ha⟩,hH⟩:∃H,hdF c fr (tfA c.fs) nm k tf az=H:=⟨_,rfl⟩;obtain⟨R,hR⟩:∃R,pE c fr (tfA c.fs) nm ks=R:=⟨_,rfl⟩;rw[hnm]at hih|-;simp only[tmF,hH,hR];simp only[vg,wE];have hH1:(bif eqD k (.ofNat 4)then k4K (knF c (tfA c.fs) az) k else k)=Hk/\(bif eqD k (.ofNat 4)then k4F (knF c (tfA c.fs) az) tf else tf)=Hf/\(bif eqD k (.ofNat 2)then az.map (rnA nm)++(fr.getD tf.toNat []).map (vrA nm)else az.map (rnA nm))=Ha:=by
   unfold hdF at hH;cases e2:eqD k (.ofNat 2)with
   |true=>
    have e4:eqD k (.ofNat 4)=false:=by rw[eqT.1 e2];rfl
    rw[e2,wy]at hH;rw[e4];cases hH;exact⟨rfl,rfl,rfl⟩
   | false=>
    rw[e2,wK]at hH;cases e4:eqD k (.ofNat 4)with
    |false=>rw[e4,wK]at hH;cases hH;exact⟨rfl,rfl,rfl⟩
    |true=>
     rw[e4,wy]at hH;simp only[wy,wK];cases hkf:knF c (tfA c.fs) az with
     |none=>rw[hkf]at hH;cases hH;exact⟨rfl,rfl,rfl⟩
     |some t=>rw[hkf]at hH;cases hH;exact⟨rfl,rfl,rfl⟩
  obtain⟨hH1,hH2,hH3⟩:=hH1;have hml:(az.map (rnA nm)).length=zR az:=zuJ _;have hal:=ho1.al;have hk2:eqD k (.ofNat 2)=true->∃j lj r,tf=.ofNat j/\fr.drop j=lj::r/\(az.map (rnA nm)).length+zR lj<1000000000:=λh=>by
   obtain⟨j,lj,r,h1,h2,h3⟩:=ho1.k2 h;exact⟨j,lj,r,h1,h2,J⟩
  clear hH;unfold f26 cF;simp only;refine wq ?_;refine wq ?_;have hS0:∀{T},G T 0 (.ptr cp 0)->G T 2 fn->G T 4 (.ptr n0 0)->G T 6 (.ptr (n0+1) 0)->G T 7 (.ptr (n0+1+1) 0)->TeS cp fn n0 (.mk k v op num tf az ks) L0 k tf [] .nils T ((n0+1+1,some (.row 44 [k,v,op,num,tf,.nils,.nils]))::(n0+1+1,some Ju)::(n0+1,some Ju)::(n0,some (tmR k v op num tf az ks))::L0) (n0+1+1+1) (1<<<(n0+1+1)) 0:=λt0 t2 t4 t6 t7=>by
   refine⟨t0,t2,t4,t6,t7,zX _,by rw[<-zuc (1<<<(n0+1+1)),wF J];exact zv9 _,?_,?_,wC _ _ _,λh=>absurd rfl h,λj hj=>by (repeat rw[gN J])⟩
   .rw[gN J,gN J,gN J];exact wC _ _ _
   .rw[gN J,gN J];exact wC _ _ _
  refine qX _ (zzE h43 hx (hS0 sW sW sW sW sW) J) λf t hI=>?_;clear hS0;obtain⟨T,L,n,m,Y,rfl,rfl,hS⟩:=hI;rw[hnm]at hS;refine qX _ (zzC h43 hx hS hk2) λf t hI=>?_;clear hS;obtain⟨T,L,n,m,Y,rfl,rfl,hS⟩:=hI;rw[hnm,hH3]at hS;refine qX _ (zzD h44 h61 hx hp.sz hp.nf hp.le hp.ps hS ho1.k4 J) λf t hI=>?_;clear hS;obtain⟨T,L,n,m,Y,rfl,rfl,hS⟩:=hI;rw[hH1,hH2]at hS;clear hk2 hH1 hH2 hH3 hnm ho1 hp hml;obtain⟨t0,t2,t4,t6,t7,hn,hm,g0,g1,g2,hg,old⟩:=hS;have hid:Ha≠[]->n0+1+1+1<=Y:=λh=>(hg h).1;clear hg;simp only[tmR,Trm.kind,Trm.var,Trm.op,Trm.num,Trm.fn,Trm.atoms,Trm.kids]at g0 g2;have old2:=λj hj=>(old j hj).symm;clear old;refine qX (λf t=>∃T L2 n2 m2 kid us,f=⟨tmL T,[]⟩/\t=KL L2 n2 m2 true/\G T 6 (.ptr (n0+1) 0)/\G T 7 (.ptr (n0+1+1) 0)/\n0+1+1+1<=n2/\m2%2^n0=0/\wn L2 (n0+1)=some Ju/\wn L2 (n0+1+1)=some (.row 44 [Hk,v,op,num,Hf,vZ wY 2 Y Ha,Zy 7 kid (zR R) us])/\TNs us R/\(zR R≠0->n0+1+1+1<=kid)) ?_ λf t hI=>?_
  .refine wp (wu ?_);apply wA;refine wP (λi:Nat=>zR ks-i) (λi f t=>∃T L2 n2 m2 kid us ok,f=⟨tmL T,[]⟩/\t=KL L2 n2 m2 true/\G T 0 (.ptr cp 0)/\G T 2 fn/\G T 4 (.ptr n0 0)/\G T 6 (.ptr (n0+1) 0)/\G T 7 (.ptr (n0+1+1) 0)/\G T 13 i/\i<=zR ks/\zR ok=i/\ok++pE c fr (tfA c.fs) nm (ks.drop i)=R/\n0+1+1+1<=n2/\m2%2^n0=0/\wn L2 n0=some (tmR k v op num tf az ks)/\wn L2 (n0+1)=some Ju/\wn L2 (n0+1+1)=some (.row 44 [Hk,v,op,num,Hf,vZ wY 2 Y Ha,Zy 7 kid i us])/\TNs us ok/\(i≠0->n0+1+1+1<=kid/\kid<n2/\wn L2 kid=some (.app 44 us))/\∀j,j<n0->wn L0 j=wn L2 j) (λi f t hI=>?_) 0 ⟨_,L,n,_,0,[],[],rfl,rfl,V,V,V,V,V,V,yz _,rfl,hR,hn,hm,g0,g1,g2,⟨rfl,rfl,rfl⟩,λh=>absurd rfl h,old2⟩;clear hR t0 t2 t4 t6 t7 hn hm g0 g1 g2 old2;obtain⟨T,L,n,m,kid,us,ok,rfl,rfl,t0,t2,t4,t6,t7,t13,hi,rfl,hR,hn,hm,g0,g1,g2,hus,hkd,old2⟩:=hI;simp only[tmR]at g0;rcases wJ ks (zR ok)with ⟨hlt,hd⟩|⟨x,hlt,hd⟩
   .have hni:¬zR ok<zR ks:=J;rw[hd]at hR;simp only[pE,zvV]at hR;subst hR;clear hd hih;refine wu ?_;exact⟨_,L,n,_,kid,us,rfl,rfl,V,V,hn,hm,g1,g2,hus,λh=>(hkd h).1⟩
   .have hcx:=YR hd;have hxm:x∈ks:=zvY (by rw[hd];exact zvZ)
    have hx1:ClR c fr bz l bn cp fn L n:=⟨by have:=hx.lt;omega,by obtain⟨i,h⟩:=hx.row;exact⟨i,(old2 cp hx.lt).symm.trans h⟩,hx.hl,hx.hb,hx.hbn⟩
    have hcl:=λm=>hih x hxm L n m true hx1;have hl7:=qi x;rw[hd]at hR;simp only[pE]at hR;clear hd hih hx1 hxm;generalize tmF c fr (tfA c.fs) nm x=y at *;simp only[vg]at hcl;refine wq ?_;refine wp (wA ?_);refine wp (qB ?_);refine wO (hcl _) λv' t hv=>?_;obtain⟨⟨vs,rfl,hvs⟩,rfl⟩:=hv;obtain⟨w1,w2,w3,w4,w5,w6,w7,rfl,s1,s2,s3,s4,s5,s6,s7⟩:=hvs.seven;simp only[vF]at s1 s2 s3 s4 s5 s6 s7;have hpv:=hvs.2.1;clear hcl;have hkn:zR ok≠0->kid≠n0/\kid≠n0+1/\kid≠n0+1+1:=λh=>by have:=(hkd h).1;omega
    refine wu ?_;refine qB ?_;refine wO (EY (n0:=n0) (Y:=kid) (k:=zR ok) (cs:=us) (us:=[w1,w2,w3,w4,w5,w6,w7]) J rfl hpv hvs.2.2.1 hus.2.1 (λh=>xg (by rw[hus.1,h,zuR])) (λh=>?_) (by rw[wF J];exact hm) J J J) λv' t hv=>?_
    .obtain⟨q1,q2,q3⟩:=hkd h;exact⟨J,J,by rw[gN J,gN J];exact q3⟩
    obtain⟨L5,m5,rfl,rfl,g5,hm5,hf5⟩:=hv;have hcat:=vG ok y;have hus2:=hus.app hvs;have e0:=(hf5 n0 J λh=>(hkn h).1.symm).trans ((by rw[gN J,gN J]:_=wn L n0).trans g0)
    have e1:=(hf5 (n0+1) J λh=>(hkn h).2.1.symm).trans ((by rw[gN J,gN J]:_=wn L (n0+1)).trans g1)
    have e2:=(hf5 (n0+1+1) J λh=>(hkn h).2.2.symm).trans ((by rw[gN J,gN J]:_=wn L (n0+1+1)).trans g2)
    have hold5:∀j,j<n0->wn L0 j=wn L5 j:=λj hj=>by
     rw[hf5 j J λhne=>by have:=(hkd hne).1;omega,gN J,gN J]
     exact old2 j hj
    have hsc:=aR 7 (n+1) (zR ok+1) (us++[w1,w2,w3,w4,w5,w6,w7]);simp only[vF]at hsc;clear hf5 hkd old2 g0 g1 g2 hkn s1 s2 s3 s4 s5 s6 s7 hpv hus hvs;refine wu ?_;refine wu ?_;refine⟨zR ok+1,⟨_,_,n+1+1,_,n+1,us++[w1,w2,w3,w4,w5,w6,w7],ok++[y],rfl,rfl,V,V,V,V,V,V,J,hcat,by rw[zum];exact hR,J,?_,?_,?_,wC _ _ _,hus2,λ_=>⟨J,J,?_⟩,λj hj=>?_⟩,J⟩
    .rw[wF J];exact hm5
    .rw[gN J];exact e0
    .rw[gN J];exact e1
    .rw[gN J];exact g5
    .rw[gN J];exact hold5 j hj
  .clear hR hih t0 t2 t4 t6 t7 hn hm g0 g1 g2 old2;obtain⟨T,L,n,m,kid,us,rfl,rfl,t6,t7,hn,hm,g1,g2,⟨u1,u2,u3⟩,hkd⟩:=hI;simp only[Ju]at g1;obtain⟨q,hq⟩:∃q,zR R=q:=⟨_,rfl⟩;rw[hq]at g2 hkd u1;have hw:∀e1 e2,wkL [.int .i64 Hk,.int .i64 v,.int .i64 op,.int .i64 num,.int .i64 Hf,.lst (zR Ha) e1 (wo wY Ha),.lst q e2 us]=wZ (.mk Hk v op num Hf Ha R):=λe1 e2=>by
    rw[wE,hq,lg];simp only[wkL,wkV,u3,ua pS]
   have hpp:=wX ug Ha;cases q with
   | zero=>
    obtain rfl:us=[]:=xg (by rw[u1,zuR])
    clear hkd;cases Ha with
    |nil=>
     simp only[vZ,Zy]at g2;refine ev_zc ?_;exact⟨⟨_,rfl,rfl,rfl,rfl,hw false false⟩,rfl⟩
    |cons a r=>
     replace hid:n0<=Y:=yb J (hid (by simp))
     simp only[vZ,Zy]at g2;refine ev_zc ?_;exact⟨⟨_,rfl,rfl,by simp only[wR,vh,qE,wU,xZ,Zr],rfl,hw _ false⟩,rfl⟩
   | succ q=>
    replace hkd:n0<=kid:=yb J (hkd J);cases Ha with
    |nil=>
     simp only[vZ,Zy]at g2;refine ev_zc ?_;exact⟨⟨_,rfl,rfl,by simp only[wR,vh,qE,wU,xZ,Zr],rfl,hw false _⟩,rfl⟩
    |cons a r=>
     replace hid:n0<=Y:=yb J (hid (by simp))
     simp only[vZ,Zy]at g2;refine ev_zc ?_;exact⟨⟨_,rfl,rfl,by simp only[wR,vh,qE,wU,xZ],rfl,hw _ _⟩,rfl⟩
end
def zvf:ICode:=match f8.body with
 |.seq _ (.seq _ (.seq _ (.seq _ (.seq _ (.seq _ (.seq a _))))))=>a
 |_=>.skip
def T6:ICode:=match f8.body with
 |.seq _ (.seq _ (.seq _ (.seq _ (.seq _ (.seq _ (.seq _ (.seq a _)))))))=>a
 |_=>.skip
def NP:ICode:=match T6 with
 |.seq _ (.block _ (.loop (.seq _ (.seq (.block _ a) _))))=>a
 |_=>.skip
def NQ:ICode:=match NP with
 |.seq _ (.seq _ (.seq a _))=>a
 |_=>.skip
structure CrS(c:Cd)(F:ze)(bz:zw)(fid:Nat)(VE:Int)(fV cV:Z)(L:zb):Prop where
 g0:wn L 0=some (cdR c.fs c.main c.vars c.globals c.consts)
 g1:wn L 1=some kX
 g2:wn L 2=some (clR c F (vZ wN 1 fid bz))
 g3:wn L 3=some (.row 25 [fV,c.main,VE,c.globals,cV])
def CrS.to{fV:Z}{L2:zb}(h:CrS c F bz fid VE fV cV L)(hf:∀j,j<4->wn L2 j=wn L j):CrS c F bz fid VE fV cV L2:=⟨(hf 0 J).trans h.g0,(hf 1 J).trans h.g1,(hf 2 J).trans h.g2,(hf 3 J).trans h.g3⟩
structure CrT(T:List (Nat×Z)):Prop where
 t1:G T 1 (.ptr 0 0)
 t2:G T 2 (.ptr 1 0)
 t5:G T 5 (.ptr 2 0)
 t6:G T 6 (.ptr 3 0)
section
variable {O:Orc}
def Ow{b9 b10:Nat}{fV:Z}{T:List (Nat×Z)}{e:Trm}(hT:CrT T)(t8:G T 8 i)(t9:G T 9 (.ptr b9 0))(t10:G T 10 (.ptr b10 0))(hS:CrS c F bz fid VE fV cV L)(hb10:4<=b10)(g10:wn L b10=some (.row 44 us))(hus:TN us e)(hl:∃r,F.drop i=l::r)(hb:∃r,bz.drop i=.ofNat bn::r)(hbn:bn+zR l<4000000000000000000)(hln:zR l<1000000000){Q:Res->Fr->U->Prop}:
  Ev (evC env (evW env O) none NQ ⟨tmL T,[]⟩ (KL L n m true)) (qa (λf t=>∃T2 L2 m2 us2,f=⟨tmL T2,[]⟩/\t=KL L2 n m2 true/\CrT T2/\G T2 8 i/\G T2 9 (.ptr b9 0)/\G T2 10 (.ptr b10 0)/\wn L2 b10=some (.row 44 us2)/\TN us2 (jR (.ofNat bn) (zR l) e)/\∀j,j≠b10->wn L2 j=wn L j) Q):=by
 obtain⟨t1,t2,t5,t6⟩:=hT;obtain⟨rb,hb⟩:=hb;obtain⟨rl,hl⟩:=hl;have hcl:=Z2 hl;have hcb:=uz hb;have hil:i<zR F:=by
  have:=congrArg zR hl;simp only[zvU,yJ]at this;omega
 have hib:i<zR bz:=by
  have:=congrArg zR hb;simp only[zvU,yJ]at this;omega
 obtain⟨b0,bz,rfl⟩:∃x r,bz=x::r:=by
  cases bz with
  |nil=>exact absurd hib (wg _)
  |cons x r=>exact⟨x,r,rfl⟩
 have hs3:=Yb (k:=zR l) J;have g2:=hS.g2;obtain⟨c1,c2,c3,c4,c5⟩:=c;simp only[clR,qc,yu,zv1,vT,vZ,qt]at g2 hcl;clear hb hl;unfold NQ NP T6 f8 cF;simp only;obtain⟨R,hR⟩:∃R,jR (.ofNat bn) (zR l) e=R:=⟨_,rfl⟩;rw[hR];refine wq ?_;apply wA;refine wP (λk:Nat=>k) (λk f t=>∃T2 L2 m2 us2 e2,f=⟨tmL T2,[]⟩/\t=KL L2 n m2 true/\CrT T2/\G T2 8 i/\G T2 9 (.ptr b9 0)/\G T2 10 (.ptr b10 0)/\G T2 11 (.int .i64 (i3 k))/\k<=zR l/\wn L2 b10=some (.row 44 us2)/\TN us2 e2/\jR (.ofNat bn) k e2=R/\∀j,j≠b10->wn L2 j=wn L j) (λk f t hI=>?_) (zR l) ⟨_,L,_,us,e,rfl,rfl,⟨V,V,V,V⟩,V,V,V,V,zX _,g10,hus,hR,λ_ _=>rfl⟩;clear hR hs3 t1 t2 t5 t6 t8 t9 t10 g10 hus T;obtain⟨T,L2,m2,us2,e2,rfl,rfl,⟨t1,t2,t5,t6⟩,t8,t9,t10,t11,hk,g10,hus,hR,hfr⟩:=hI;have g22:=(hfr 2 J).trans g2;have hfr2:=λj hj=>(hfr j hj).symm;clear hfr g2;cases k with
 |zero=>
  simp only[jR]at hR;simp only[i3]at t11;subst hR;clear hcl hcb g22;refine wu ?_;exact⟨_,L2,_,us2,rfl,rfl,⟨V,V,V,V⟩,V,V,V,g10,hus,λj hj=>(hfr2 j hj).symm⟩
 |succ k=>
  have hs2:=Yb (k:=k) J;obtain⟨w1,w2,w3,w4,w5,w6,w7,rfl,s1,s2,s3,s4,s5,s6,s7⟩:=hus.seven;obtain⟨_,hpv,_,hwk⟩:=hus;simp only[i3]at t11;simp only[jR]at hR;refine wu ?_;refine⟨k,⟨_,_,_,_,.mk (.ofNat 1) (.ofNat bn+ .ofNat k) (.ofNat 105) (.ofNat k) (.ofNat 0) [] [e2],rfl,rfl,⟨V,V,V,V⟩,V,V,V,V,J,wC _ _ _,⟨rfl,by simp only[wR,vh,Zr,qE,wU,xZ],rfl,?_⟩,hR,λj hj=>?_⟩,J⟩
  .simp only[wE,vx,kF,zvV,<-hwk];rfl
  .rw[wz,wx hj];exact(hfr2 j hj).symm
end
def FN(us:zA)(f:Fn):Prop:=zR us=11/\wL us=true/\w8 us=true/\wkL us=wW f
def FNs(us:zA)(fs:List Fn):Prop:=zR us=zR fs*11/\wL us=true/\wkL us=wo wW fs
def FNs.app{vs:zA}{fs:List Fn}{f:Fn}(h:FNs us fs)(h2:FN vs f):FNs (us++vs) (fs++[f]):=by
 obtain⟨a1,a2,a3⟩:=h;obtain⟨b1,b2,b3,b4⟩:=h2;refine⟨?_,by rw[ux,a2,b2];rfl,by rw[du,a3,b4,qu,vt]⟩
 simp only[y8,a1,b1,yJ,xY,xB,xe]
theorem Bn(he:1<=esz){Y k:Nat}(hu:zR us=esz)(hp:wL us=true)(hs:w8 us=true)(hc:wL cs=true)(hk0:k=0->cs=[])(h:k≠0->n0<=Y/\Y<n/\wn L Y=some (.app t cs))(hn0:n0<=n)(hb:2*(k+1)*bytes<=281474976710656)(hn:k<1000000000):
  Cv (jo (KL L n 0 true [] (opD.onOf n (aC (UA (some (Zy esz Y k cs))) (some [])))) t esz bytes (Zy esz Y k cs) (.lst 1 e us)) λv s=>∃L' m' on',v=Zy esz n (k+1) (cs++us)/\s=KL L' (n+1) m' true [] on'/\wn L' n=some (.app t (cs++us))/\∀j,j<n->(k≠0->j≠Y)->wn L' j=wn L j:=by
 cases k with
 |zero=>
  rw[hk0 rfl];refine⟨_,_,Yg L n 0 [] _ t esz bytes e us hu he J hp,_,_,_,rfl,rfl,wC _ _ _,λj hj _=>by rw[gN J]⟩
 |succ k=>
  obtain⟨h1,h2,h3⟩:=h J;simp only[Zy,HO,Zw,zvV,Ys];have h4:qf (zK 1 esz) us=some us:=qz (by rw[hu];show esz=1*esz;omega)
  have h6:wL (cs++us)=true:=by rw[ux,hc,hp];rfl
  refine⟨.gr n esz (k+1+1) (cs++us),KL ((n,some (.app t (cs++us)))::(Y,none)::L) (n+1) (0|||1<<<Y) true [] (some (n,[Y])),?_,_,_,_,rfl,rfl,wC _ _ _,λj hj hne=>by rw[gN J,wz,wx (hne J)]⟩
  simp only[jo,gP,qQ,h4,ZZ,sF (List.mem_singleton.2 rfl),h3,ql.2,hs,xZ,wy,Zo,h6];rw[show Nat.ble (zK (zK 2 (Nat.add (k+1) 1)) bytes) 281474976710656=true from qd.2 hb,show Nat.ble 1 esz=true from qd.2 he,show Nat.blt (Nat.add (k+1) 1) 9223372036854775808=true from qA.2 (by show k+1+1<_;omega)]
  rfl
structure CrPre(c:Cd)(F:ze)(M:Nat):Prop where
 te:TePre c F M
 fl:zR F=zR c.fs
 nf:zR c.fs<100000000
 ln:∀l∈F,zR l<400000000
 A:∀f∈c.fs,SzT f.b/\QT c F [] f.b
section
variable {O:Orc}
attribute [local go_sem] QU in
def zxU(h26:O 26=none)(h43:O 43=none)(h44:O 44=none)(h61:O 61=none)(hp:CrPre c F M){V0:Nat}{T:List (Nat×Z)}(hT:CrT T)(hS:CrS c F bz fid VE .nils cV L)(hn:4<=n)(hbz:bz=uK F (.ofNat V0))(hV:V0<2000000000000000000){Q:Res->Fr->U->Prop}:
  Ev (evC env (evW env O) none T6 ⟨tmL T,[]⟩ (KL L n m true)) (qa (λf t=>∃T2 L2 n2 m2 oid us,f=⟨tmL T2,[]⟩/\t=KL L2 n2 m2 true/\CrT T2/\CrS c F bz fid VE (Zy 11 oid (YA c F c.fs F (.ofNat V0)).length us) cV L2/\4<=n2/\FNs us (YA c F c.fs F (.ofNat V0))) Q):=by
 unfold T6 f8 cF;simp only;obtain⟨R,hR⟩:∃R,YA c F c.fs F (.ofNat V0)=R:=⟨_,rfl⟩;rw[hR];obtain⟨t1,t2,t5,t6⟩:=hT;refine wp (wu ?_);apply wA;have hB0:V0+(zR c.fs-0)*400000000<3000000000000000000:=by
  have:=hp.nf;have:(zR c.fs-0)*400000000<=100000000*400000000:=xr _ J;omega
 refine wP (λi:Nat=>zR c.fs-i) (λi f t=>∃T2 L2 n2 m2 oid us out v,f=⟨tmL T2,[]⟩/\t=KL L2 n2 m2 true/\CrT T2/\G T2 8 i/\CrS c F bz fid VE (Zy 11 oid i us) cV L2/\4<=n2/\FNs us out/\i<=zR c.fs/\zR out=i/\bz.drop i=uK (F.drop i) (.ofNat v)/\out++YA c F (c.fs.drop i) (F.drop i) (.ofNat v)=R/\v+(zR c.fs-i)*400000000<3000000000000000000/\(i≠0->4<=oid/\oid<n2/\wn L2 oid=some (.app 46 us))) (λi f t hI=>?_) 0 ⟨_,L,n,_,0,[],[],V0,rfl,rfl,⟨V,V,V,V⟩,V,hS,hn,⟨rfl,rfl,rfl⟩,yz _,rfl,hbz,hR,hB0,λh=>absurd rfl h⟩;clear hR hB0 hS hbz t1 t2 t5 t6 T hn;obtain⟨T,L,n,m,oid,us,out,v,rfl,rfl,⟨t1,t2,t5,t6⟩,t8,hS,hn,hus,hi,rfl,hbz,hR,hB,hod⟩:=hI;have hfl:=hp.fl;have g0:=hS.g0;simp only[cdR]at g0;rcases wJ c.fs (zR out)with ⟨hlt,hd⟩|⟨f,hlt,hd⟩
 .have hni:¬zR out<zR c.fs:=J;have hR2:out=R:=by rw[hd]at hR;simpa only[YA,zvV]using hR
  subst hR2;clear hd hbz hR;refine wu ?_;exact⟨_,L,n,_,oid,us,rfl,rfl,⟨V,V,V,V⟩,hS,hn,hus⟩
 .obtain⟨l,hl⟩:∃l,F.drop (zR out)=l::F.drop (zR out+1):=⟨_,zud J⟩;have hlm:l∈F:=zvY (by rw[hl];exact zvZ)
  have hll:=hp.ln l hlm;have hfm:f∈c.fs:=zvY (by rw[hd];exact zvZ)
  obtain⟨hsz,hone⟩:=hp.A f hfm;rw[hl]at hbz;simp only[uK]at hbz;rw[hd,hl]at hR;simp only[YA]at hR;have hcf:=X0 hd;have hcl:=Z2 hl;have hB2:v+zR l+(zR c.fs-(zR out+1))*400000000<3000000000000000000:=by
   have:zR c.fs-zR out=(zR c.fs-(zR out+1))+1:=J;rw[this,xe]at hB;omega
  have hbz2:bz.drop (zR out+1)=uK (F.drop (zR out+1)) (.ofNat (v+zR l)):=by
   have:=congrArg List.tail hbz;rw[List.tail_drop]at this;exact this
  have hcr:∀{L2 n2},4<=n2->(∀j,j<4->wn L2 j=wn L j)->ClR c F bz l v 2 (zR out) L2 n2:=λh2 h=>⟨J,⟨fid,(h 2 J).trans hS.g2⟩,⟨_,hl⟩,⟨_,hbz⟩,J⟩;have hcall:=λ{L2 n2} (h2:4<=n2) (h:∀j,j<4->wn L2 j=wn L j) m=>Oo h26 h43 h44 h61 hp.te (qb f.b) f.b (zX _) hsz hone L2 n2 m true (hcr h2 h);clear hcr hsz hone hlm hfm;obtain⟨fps,frest,fcont,ffr,b⟩:=f;obtain⟨bk,bv,bo,bn,bf,ba,bks⟩:=b;simp only[wW,qt,wE]at hcf;simp only[vg,wE]at hcall;refine wq ?_;refine wp (wA ?_);refine wq ?_;refine wp (qB ?_);refine wO (hcall J (λj hj=>by rw[gN J,gN J]) _) λv' t' hv=>?_
  obtain⟨⟨vs,rfl,hvs⟩,rfl⟩:=hv;obtain⟨w1,w2,w3,w4,w5,w6,w7,rfl,s1,s2,s3,s4,s5,s6,s7⟩:=hvs.seven;simp only[vF]at s1 s2 s3 s4 s5 s6 s7;clear hcall;refine wu ?_;refine qX _ (Ow (c:=c) (F:=F) (bz:=bz) (l:=l) (i:=zR out) (b9:=n) (b10:=n+1) (bn:=v) (fid:=fid) (VE:=VE) (fV:=Zy 11 oid (zR out) us) (cV:=cV) (us:=[w1,w2,w3,w4,w5,w6,w7]) (e:=tmF c F (tfA c.fs) (nmL (.ofNat v) l 0) (.mk bk bv bo bn bf ba bks)) ⟨V,V,V,V⟩ V V V (hS.to λj hj=>by (repeat rw[gN J])) J (wC _ _ _) hvs ⟨_,hl⟩ ⟨_,hbz⟩ J J) λf t hI=>?_
  clear t1 t2 t5 t6 t8 T hvs s1 s2 s3 s4 s5 s6 s7 hcf g0;obtain⟨T,L2,m2,us2,rfl,rfl,⟨t1,t2,t5,t6⟩,t8,t9,t10,g10,hus2,hfr⟩:=hI;have hS2:CrS c F bz fid VE (Zy 11 oid (zR out) us) cV L2:=hS.to λj hj=>(hfr j J).trans (by (repeat rw[gN J]))
  have g9:=(hfr n J).trans ((by rw[gN J,gN J];exact wC _ _ _):_=some (AObj.row 46 [.lst (zR fps) false (wo wN fps),.bool frest,.bool fcont,.lst (zR ffr) false (wo wN ffr),bk,bv,bo,bn,bf,.lst (zR ba) false (wo wY ba),.lst (zR bks) false (w9 bks)]))
  have hod2:zR out≠0->4<=oid/\oid<n+1+1/\wn L2 oid=some (.app 46 us):=λh=>by
   obtain⟨q1,q2,q3⟩:=hod h;exact⟨q1,J,(hfr oid J).trans (by (repeat rw[gN J]);exact q3)⟩
  obtain⟨x1,x2,x3,x4,x5,x6,x7,rfl,s1,s2,s3,s4,s5,s6,s7⟩:=hus2.seven;have hE:FN [.lst (zR fps) false (wo wN fps),.bool frest,.bool fcont,.lst (zR l) false (wo wN l),x1,x2,x3,x4,x5,x6,x7] ⟨fps,frest,fcont,l,jR (.ofNat v) (zR l) (tmF c F (tfA c.fs) (nmL (.ofNat v) l 0) (.mk bk bv bo bn bf ba bks))⟩:=by
   obtain⟨_,b2,b3,b4⟩:=hus2;have e1:=wX qR fps;have e2:=wX qR l;refine⟨rfl,?_,?_,?_⟩
   .simp only[wR,qE,jA,xC]at b2|-;exact b2
   .exact b3
   .simp only[wW,<-b4,qt,wkL,wkV,ua p9]
  simp only[vF]at s1 s2 s3 s4 s5 s6 s7;have g2:=hS2.g2;have g3:=hS2.g3;obtain⟨c1,c2,c3,c4,c5⟩:=c;simp only[clR,qc,yu,zv1,vT]at g2;simp only[qt]at hcl;simp only at g3;have hilF:zR out<zR F:=J;clear hfr hod hS hus2;have hpE:=hE.2.1;have hnf:zR c1<100000000:=hp.nf;have hlt2:zR out<zR c1:=hlt;clear hlt;refine qB ?_;refine lw (Bn (n0:=4) (Y:=oid) (k:=zR out) (cs:=us) J rfl hpE hE.2.2.1 hus.2.1 (λh=>xg (by rw[hus.1,h,zuR])) hod2 J J J) λv' t hv=>?_
  obtain⟨L5,m5,on5,rfl,rfl,g5,hf5⟩:=hv;have hcat:=vG out (⟨fps,frest,fcont,l,jR (.ofNat v) (zR l) (tmF ⟨c1,c2,c3,c4,c5⟩ F (tfA c1) (nmL (.ofNat v) l 0) (.mk bk bv bo bn bf ba bks))⟩:Fn);have hus2:=hus.app hE;have h5:∀j,j<4->wn L5 j=wn L2 j:=λj hj=>hf5 j J λh=>by have:=(hod2 h).1;omega
  have hS5:=hS2.to h5;have g35:=hS5.g3;simp only at g35;have hsc:=aR 11 (n+1+1) (zR out+1) (us++[.lst (zR fps) false (wo wN fps),.bool frest,.bool fcont,.lst (zR l) false (wo wN l),x1,x2,x3,x4,x5,x6,x7]);simp only[vF]at hsc;clear h5 hf5 hod2 g2 g3 s1 s2 s3 s4 s5 s6 s7 hpE hE hus g9 g10 hcl;refine wu ?_;refine wu ?_;refine⟨zR out+1,⟨_,_,n+1+1+1,_,n+1+1,_,_,v+zR l,rfl,rfl,⟨V,V,V,V⟩,V,⟨?_,?_,?_,wC _ _ _⟩,J,hus2,Nat.succ_le_of_lt hlt2,hcat,hbz2,by rw[zum];exact hR,hB2,λ_=>⟨J,J,?_⟩⟩,by show (zR c1)-(zR out+1)<zR c1-zR out;omega⟩
  .rw[gN J];exact hS5.g0
  .rw[gN J];exact hS5.g1
  .rw[gN J];exact hS5.g2
  .rw[gN J];exact g5
end
section
variable {O:Orc}
attribute [local go_sem] YH in
def zxT(h25:O 25=none){c:Cd}(hp:CrPre c F M)(hfr:∀f∈c.fs,zR f.fr<1000000000){V0:Nat}{T:List (Nat×Z)}{L:zb}{n m:Nat}(hT:CrT T)(hS:CrS c F [] 0 (.ofNat V0) .nils cV L)(hn:4<=n)(hV:V0<2000000000000000000){Q:Res->Fr->U->Prop}(hQ:Lp c.fs=false->∀T L n m,G T 2 (.ptr 1 0)->G T 3 (.int .i64 (.ofNat 2))->wn L 1=some kX->Q .ret ⟨tmL T,[]⟩ (KL L n m true)):
  Ev (evC env (evW env O) none zvf ⟨tmL T,[]⟩ (KL L n m true)) (qa (λf t=>∃T2 L2 n2 m2 fid,f=⟨tmL T2,[]⟩/\t=KL L2 n2 m2 true/\CrT T2/\CrS c F (uK F (.ofNat V0)) fid (Zj F (.ofNat V0)) .nils cV L2/\4<=n2/\Lp c.fs=true) Q):=by
 unfold zvf f8 cF;simp only;obtain⟨BZ,hBZ⟩:∃R,uK F (.ofNat V0)=R:=⟨_,rfl⟩;obtain⟨VE,hVE⟩:∃R,Zj F (.ofNat V0)=R:=⟨_,rfl⟩;obtain⟨R0,hR0⟩:∃R,Lp c.fs=R:=⟨_,rfl⟩;rw[hBZ,hVE,hR0];rw[hR0]at hQ;obtain⟨t1,t2,t5,t6⟩:=hT;refine wp (wu ?_);apply wA;have hB0:V0+(zR c.fs-0)*400000000<3000000000000000000:=by
  have:=hp.nf;have:(zR c.fs-0)*400000000<=100000000*400000000:=xr _ J;omega
 refine wP (λi:Nat=>zR c.fs-i) (λi f t=>∃T2 L2 n2 m2 fid bz v,f=⟨tmL T2,[]⟩/\t=KL L2 n2 m2 true/\CrT T2/\G T2 7 i/\CrS c F bz fid (.ofNat v) .nils cV L2/\4<=n2/\i<=zR c.fs/\zR bz=i/\bz++uK (F.drop i) (.ofNat v)=BZ/\Zj (F.drop i) (.ofNat v)=VE/\v+(zR c.fs-i)*400000000<3000000000000000000/\Lp (c.fs.drop i)=R0/\(bz≠[]->4<=fid/\fid<n2/\wn L2 fid=some (.app 3 (wo wN bz)))) (λi f t hI=>?_) 0 ⟨_,L,n,_,0,[],V0,rfl,rfl,⟨V,V,V,V⟩,V,hS,hn,yz _,rfl,hBZ,hVE,hB0,hR0,λh=>absurd rfl h⟩;clear hBZ hVE hR0 hB0 hS t1 t2 t5 t6 T hn;obtain⟨T,L,n,m,fid,bz,v,rfl,rfl,⟨t1,t2,t5,t6⟩,t7,hS,hn,hi,rfl,hBZ,hVE,hB,hR,hfd⟩:=hI;have hfl:=hp.fl;have hnf:=hp.nf;have g0:=hS.g0;simp only[cdR]at g0;rcases wJ c.fs (zR bz)with ⟨hlt,hd⟩|⟨f,hlt,hd⟩
 .have hni:¬zR bz<zR c.fs:=J;have hF0:F.drop (zR bz)=[]:=List.drop_eq_nil_of_le J;rw[hF0]at hBZ hVE;simp only[uK,Zj,zvV]at hBZ hVE;rw[hd]at hR;simp only[Lp]at hR;subst hR;subst hBZ;subst hVE;clear hd hF0 hQ;refine wu ?_;exact⟨_,L,n,_,fid,rfl,rfl,⟨V,V,V,V⟩,hS,hn,trivial⟩
 .obtain⟨l,hl⟩:∃l,F.drop (zR bz)=l::F.drop (zR bz+1):=⟨_,zud J⟩;have hlm:l∈F:=zvY (by rw[hl];exact zvZ)
  have hll:=hp.ln l hlm;have hfm:f∈c.fs:=zvY (by rw[hd];exact zvZ)
  have hff:=hfr f hfm;have hop:=λL n m b=>Od h25 (qb f.b) f.b (zX _) (hp.A f hfm).1 L n m b;rw[hl]at hBZ hVE;simp only[uK,Zj]at hBZ hVE;rw[hd]at hR;simp only[Lp]at hR;have hcf:=kS hd;have hcl:=Z2 hl;have hB2:v+zR l+(zR c.fs-(zR bz+1))*400000000<3000000000000000000:=by
   have:zR c.fs-zR bz=(zR c.fs-(zR bz+1))+1:=J;rw[this,xe]at hB;omega
  have hilF:zR bz<zR F:=J;obtain⟨fps,frest,fcont,ffr,b⟩:=f;simp only at hop hR hff;generalize cE b=ob at *;obtain⟨bk,bv,bo,bn,bf,ba,bks⟩:=b;simp only[wW,qt,wE,yu,zv1]at hcf;simp only[vg,wE]at hop;have g1:=hS.g1;have g2:=hS.g2;have g3:=hS.g3;obtain⟨c1,c2,c3,c4,c5⟩:=c;simp only[clR,qc,yu,zv1,vT]at g2;simp only[kX]at g1;simp only at g3 g0;simp only[qt]at hcl;have hlt2:zR bz<zR c1:=hlt;have hnf:zR c1<100000000:=hnf;clear hlt hd hl hlm hfm hp hfr hi;refine wq ?_;refine wp (wA ?_);by_cases hz:0<zR ffr
  .rw[qL hz]at hR;have hR:false=R0:=hR;subst hR;clear hS hop hcl;refine wu ?_;exact hQ rfl _ _ _ _ V V (wC _ _ _)
  .rw[qy hz,zv6,xC]at hR;cases ob with
   |false=>
    have hR:false=R0:=hR;subst hR;clear hS hcl;refine wu ?_;exact hQ rfl _ _ _ _ V V (wC _ _ _)
   |true=>
    rw[xC]at hR;clear hQ;refine wq ?_;refine wp (qB ?_);refine lw (dE (f:=wN) (n0:=4) (Y:=fid) (vs:=bz) (w:=.ofNat v) vA qR uW J hfd J J J) λv' t hv=>?_;obtain⟨L5,m5,on5,rfl,rfl,g5,hm5,hf5⟩:=hv;have hcat:=vG bz (yi v);have h5:∀j,j<4->wn L5 j=wn L j:=λj hj=>hf5 j J λh=>by have:=(hfd h).1;omega
    have hS5:=hS.to h5;have g25:=hS5.g2;have g35:=hS5.g3;simp only[clR,qc,yu,zv1,vT]at g25;simp only at g35;have hsc:=Kr wN 1 n (bz++[yi v]);simp only[vF]at hsc;clear h5 hf5 hfd g2 g3 g0 g1 hS hop hcf;refine wu ?_;refine wu ?_;refine wu ?_;refine⟨zR bz+1,⟨_,_,n+1,_,n,bz++[.ofNat v],v+zR l,rfl,rfl,⟨V,V,V,V⟩,V,⟨?_,?_,?_,wC _ _ _⟩,J,Nat.succ_le_of_lt hlt2,hcat,by rw[zum];exact hBZ,hVE,hB2,hR,λ_=>⟨hn,J,?_⟩⟩,by show (zR c1)-(zR bz+1)<zR c1-zR bz;omega⟩
    .rw[gN J,gN J];exact hS5.g0
    .rw[gN J,gN J];exact hS5.g1
    .rw[gN J,wC];simp only[clR,qc,yu,zv1,vT,hfl]
    .rw[gN J,gN J];exact g5
theorem RE{k:Nat}(he:1<=esz)(hl:zR cs=k*esz)(hp:wL cs=true)(hb:2*k*bytes<=281474976710656)(hk:k<1000000000)(L:zb)(n m:Nat):
  Cv (jo (KL L n m true) t esz bytes .nils (.lst k e cs)) λv s=>∃Y L' n',v=Zy esz Y k cs/\s=KL L' n' m true/\n<=n'/\∀j,j<n->wn L' j=wn L j:=by
 cases k with
 |zero=>
  obtain rfl:cs=[]:=xg (by rw[hl,zuR])
  exact⟨.nils,KL L n m true,rfl,0,L,n,rfl,rfl,zX _,λ_ _=>rfl⟩
 | succ k=>
  refine⟨.gr n esz (k+1) cs,KL ((n,some (.app t cs))::L) (n+1) m true,?_,n,_,_,rfl,rfl,Nat.le_succ _,λj hj=>by rw[gN J]⟩
  have h2:gw (.lst (k+1) e cs)=some (k+1)/\qQ (KL L n m true) esz (k+1) (.lst (k+1) e cs)=some cs:=by
   have h3:qf (zK (k+1) esz) cs=some cs:=qz hl;exact⟨rfl,h3⟩
  simp only[jo,h2.1];simp only[h2.2,ZZ,QF,hp,xZ,wy];rw[Wi J J J hp];rfl
end
def iW(h:l∈(qF c).map q9):l.Nodup:=by
 obtain⟨s,hs,rfl⟩:=List.mem_map.1 h;obtain⟨j,hj,e⟩:=zuO hs;have h2:=(lA c (pg c)).nd j;have e2:(qF c).getD j []=s:=by rw[xR,xj hj,e];rfl
 have h3:s.Nodup:=e2▸h2;exact(i6 h3).nd
theorem zyR(he:kv P X c=.ofNat 0):Z1 P X c=bif Lp c.fs then (⟨YA c ((qF c).map q9) c.fs ((qF c).map q9) c.vars,c.main,Zj ((qF c).map q9) c.vars,c.globals,c.consts⟩,.ofNat 0)else (H3,.ofNat 2):=by
 obtain⟨_,ho,_⟩:=bi he;unfold Z1;rw[eqT.2 he,wy,<-Hs c.fs []];cases hk:lK c.fs []with
 |none=>rfl
 | some kn=>
  have h1:∀v,lkM v kn=lkM v (tfA c.fs):=λv=>by
   rw[ir c.fs [] kn (TW ho) hk v,show lkM v []=none from rfl,Option.or_none]
  show (cnv c kn,_)=_;unfold cnv;rw[AO h1 _ _ _ λl hl=>iW hl];rfl
structure RvArg(N:Nat)(c:Cd):Prop where
 rc:RcPre N c
 cv:CvArg N c
def oR(P:Program)(X:World)(N:Nat):zA->U->zc:=v7 vo (RvArg N) (λc=>.tup [.agg (qc (Z1 P X c).1),.int .i64 (Z1 P X c).2])
section
variable {P:Program}{X:World}(B:Bx P X){O:Orc}{N:Nat}(hO:OrcOk P X O)
include B hO
attribute [local go_sem] QU in
def NT(h23:O 23=some (bP P X N))(h24:O 24=some (I9 P X N))(h25:O 25=none)(h26:O 26=none)(h43:O 43=none)(h44:O 44=none)(h61:O 61=none)(c:Cd)(hc:RvArg N c):∃s1,SC P X 8 (vo c) (s00 0 true) (.tup [.agg (qc (Z1 P X c).1),.int .i64 (Z1 P X c).2]) s1:=by
 refine be B hO f8 ?_;have hch:=λs=>oc h23 uC c hc.rc (jr c) s;have hfr:=λs=>oc h24 uC c hc.rc (jr c) s;cases c1:eqD (kv P X c) (.ofNat 0)with
 |false=>
  have hR:Z1 P X c=(H3,kv P X c):=by unfold Z1;rw[c1];rfl
  rw[hR];generalize kv P X c=e at *;clear hfr hR;obtain⟨fs,main,vars,globals,consts⟩:=c;unfold f8 cF;simp only[vo,v8,qc]at hch|-;refine wq ?_;refine wq ?_;refine ev_zc ?_;exact Xd (wG (gL (wG uc (wG (wS _ _ _) (wG (wS _ _ _) (wG (wS _ _ _) (wG uc ve)))))) (wG (wS _ _ _) ve))
 |true=>
  have he:=eqT.1 c1;rw[zyR he];obtain⟨hea,hon,hci⟩:=bi he;rw[he]at hch;unfold cL at hfr;rw[eqT.2 hea,wy,rQ]at hfr;obtain⟨hwh,_,_,_,hv0⟩:=gU hea;have hwf:=Jt hwh;obtain⟨V0,hV0⟩:=UD hv0;have hse:=(NR hc.rc hea).1;have hln:=fj hc.cv.us;have hfl:((qF c).map q9).length=zR c.fs:=ce;have hsz:=hc.cv.ch.ea.sz.f;have hvs:=hc.cv.vs;have hp:CrPre c ((qF c).map q9) (zR c.fs):=⟨⟨λf hf=>⟨(hse.f f hf).1,(hse.f f hf).2.1⟩,by have:=hse.n;omega,zX _,λf hf=>(hsz f hf).1⟩,hfl,hse.n,hln,λf hf=>⟨(hsz f hf).2.2,cB (fJ _) (λf hf=>(hsz f hf).1) hfl hln f.b (hwf f hf).2.1 (zuQ (UG hf) hc.cv.us)⟩⟩
  have hff:=λf hf=>(hsz f hf).2.1;have hcp:=vl c.consts;have hcl:(wQ c.consts).length=zR c.consts*5:=by rw[vd];exact vI vD _
  have hcw:=kp c.consts;have hnc:=hc.cv.nc;rw[hV0]at hvs|-;have hvs:=Int.ofNat_lt.1 hvs;obtain⟨F,hF⟩:∃F,(qF c).map q9=F:=⟨_,rfl⟩;rw[hF]at hfr hp hfl|-;simp only[vT]at hfr;clear hF hse hln hsz hwf hwh hv0 hon hci hea hc c1 he;obtain⟨fs,main,vars,globals,consts⟩:=c;simp only at hV0 hcp hcl hcw hnc hfl;subst hV0;unfold f8 cF;simp only[vo,v8,qc]at hch hfr|-;refine wq ?_;refine wq ?_;refine wq ?_;refine wq ?_;refine wq ?_;refine wp (qB ?_);refine wO (RE J hcl hcp J J _ _ _) λv' t hv=>?_;obtain⟨cid,L,n,rfl,rfl,hn,hfL⟩:=hv;have e0:wn L 0=some (cdR fs main (.ofNat V0) globals consts):=(hfL 0 J).trans rfl;have e1:wn L 1=some kX:=(hfL 1 J).trans rfl;have e2:wn L 2=some (clR ⟨fs,main,.ofNat V0,globals,consts⟩ F (vZ wN 1 0 [])):=(hfL 2 J).trans (by simp only[clR,qc,vT,hfl];rfl)
  have e3:wn L 3=some (.row 25 [.nils,main,V0,globals,.nils]):=(hfL 3 J).trans rfl;have hsc:=aR 5 cid (zR consts) (wQ consts);simp only[vF]at hsc;clear hch hfr hfL;refine wu ?_;refine qX _ (zxT h25 (c:=⟨fs,main,.ofNat V0,globals,consts⟩) (F:=F) hp hff (V0:=V0) (cV:=Zy 5 cid (zR consts) (wQ consts)) ⟨V,V,V,V⟩ ⟨?_,?_,?_,wC _ _ _⟩ hn hvs λhno T L n m y2 y3 y1=>?_) λf t hI=>?_
  .rw[gN J];exact e0
  .rw[gN J];exact e1
  .rw[gN J];exact e2
  .simp only[hno,wK,H3];simp only[kX]at y1;refine qP ?_;exact Xd (wG (gL (wG uc (wG (wS _ _ _) (wG (wS _ _ _) (wG (wS _ _ _) (wG uc ve)))))) (wG (wS _ _ _) ve))
  clear e0 e1 e2 e3 hsc hn hcl;obtain⟨T,L,n,m,fid,rfl,rfl,hT,hS,hn,hop⟩:=hI;simp only[hop,wy];refine qX _ (zxU h26 h43 h44 h61 hp hT hS hn rfl hvs) λf t hI=>?_;clear hT hS hn;obtain⟨T,L,n,m,oid,us,rfl,rfl,⟨t1,t2,t5,t6⟩,hS,hn,u1,u2,u3⟩:=hI;have g1:=hS.g1;have g3:=hS.g3;clear hS hp hff hop hfl;simp only[kX]at g1;simp only at g3 u1 u3|-;generalize Zj F (.ofNat V0)=VE at *;generalize YA ⟨fs,main,.ofNat V0,globals,consts⟩ F fs F (.ofNat V0)=W at *;have hWp:=wX ZD W;obtain⟨q,hq⟩:∃q,zR W=q:=⟨_,rfl⟩;obtain⟨k,hk⟩:∃k,zR consts=k:=⟨_,rfl⟩;rw[hq]at g3 u1|-;rw[hk]at g3|-;have hW0:q=0->wo wW W=[]:=λh=>by rw[xg (hq.trans h)];rfl
  have hC0:k=0->wQ consts=[]:=λh=>by rw[xg (hk.trans h)];exact kI
  generalize wQ consts=cc at *;generalize wo wW W=ww at *;clear hq hk hnc u1 hn;cases q<;>cases k
  all_goals simp only[Zy]at g3
  .rw[hW0 rfl,hC0 rfl];clear hW0 hC0 hcp hcw hWp;refine ev_zc ?_;exact Xd (wG (gL (wG uc (wG (wS _ _ _) (wG (wS _ _ _) (wG (wS _ _ _) (wG uc ve)))))) (wG (wS _ _ _) ve))
  .rw[hW0 rfl];clear hW0 hC0 hWp;refine ev_zc ?_;exact Xd (wG (gL (wG uc (wG (wS _ _ _) (wG (wS _ _ _) (wG (wS _ _ _) (wG (uo hcp hcw) ve)))))) (wG (wS _ _ _) ve))
  .rw[hC0 rfl];clear hW0 hC0 hcp hcw;refine ev_zc ?_;exact Xd (wG (gL (wG (uo hWp u3) (wG (wS _ _ _) (wG (wS _ _ _) (wG (wS _ _ _) (wG uc ve)))))) (wG (wS _ _ _) ve))
  .clear hW0 hC0;refine ev_zc ?_;exact Xd (wG (gL (wG (uo hWp u3) (wG (wS _ _ _) (wG (wS _ _ _) (wG (wS _ _ _) (wG (uo hcp hcw) ve)))))) (wG (wS _ _ _) ve))
end
def FL{l:List DT}{x:DT}{r:List DT}(hd:l.drop i=x::r):qf 5 (qv (i*5) (wQ l))=some (qK x):=by
 rw[vd];exact QI vD hd
def dtR(k m:Int)(t:zy)(ks:List DT)(p:Int):AObj:=.row 36 [k,m,.str t,.lst (zR ks) false (wQ ks),p]
section
variable {O:Orc}
def D2(hI:O 29=some Vd)(hs:O 10=none):∀(K:Nat) (d:DT),qe d<=K->qe d<100000->∀(L:zb) (n m:Nat) (b:Bool),cl O 10 [.agg (qK d),.agg (qK d)] (KL L n m b)=some (.bool true,KL L n m b):=by
 intro K
 induction K with
 |zero=>intro d h;have:=vu d;omega
 | succ K ih=>
  intro d hK hN L n m b;apply X2;refine vr (F:=f10) hs rfl rfl (zvT rfl) ?_;have hni:=gZ d;have hla:=uf (qn d).1;have hit:=Uh hI (d:=d) J;have hmem:∀x∈(qn d).1,qe x<=K/\qe x<100000:=λx hx=>by have:=vV hx;have:=vu (qn d).2;omega
  have hkid:∀x∈jZ (qn d).2,qe x<=K/\qe x<100000:=λx hx=>by have:=vV hx;have:=jx (qn d).2;omega
  have hkl:=uf (jZ (qn d).2);have hkn:=jx (qn d).2;simp only[itR]at hit;have hih:=λx (hx:qe x<=K/\qe x<100000)=>ih x hx.1 hx.2;clear ih;generalize (qn d).1=l at *;generalize (qn d).2=x at *;obtain⟨xk,xn,xt,xks,xp⟩:=x;simp only[jZ]at hkid hkl hkn;have hll:zR l<1000000000:=J;have hkl:zR xks<1000000000:=J;clear hni hla hK hN hkn;obtain⟨dk,dn,dt,dks,dp⟩:=d;simp only[Z3,wT]at hit|-;have e1:=j5 xk;have e2:=j5 xn;have e3:=eS xt;have e4:=j5 (.ofNat (zR xks));have e5:=j5 (.ofNat (zR l))
  unfold f10 cF;simp only;refine wq ?_;refine wq ?_;refine wq ?_;refine wq ?_;clear e1 e2 e3 e4 e5 hit;refine qX (λfr t=>∃T L2 n2 m2,fr=⟨tmL T,[]⟩/\t=KL L2 n2 m2 true/\m2%2^n=0/\n<=n2/\G T 6 (.ptr (n+1+1) 0)/\G T 8 (.ptr (n+1+1+1) 0)/\wn L2 (n+1+1)=some (dtR xk xn xt xks xp)/\wn L2 (n+1+1+1)=some (dtR xk xn xt xks xp)) ?_ λfr t hI=>?_
  .refine wp (wu ?_);apply wA;refine wP (λi:Nat=>zR l-i) (λi f t=>∃T L2 n2 m2,f=⟨tmL T,[]⟩/\t=KL L2 n2 m2 true/\m2%2^n=0/\n<=n2/\G T 5 (.lst (zR l) false (wQ l))/\G T 7 (.lst (zR l) false (wQ l))/\G T 6 (.ptr (n+1+1) 0)/\G T 8 (.ptr (n+1+1+1) 0)/\G T 9 i/\wn L2 (n+1+1)=some (dtR xk xn xt xks xp)/\wn L2 (n+1+1+1)=some (dtR xk xn xt xks xp)/\i<=zR l) (λi f t hI=>?_) 0 ⟨_,_,n+1+1+1+1,_,rfl,rfl,?_,J,V,V,V,V,V,by simp (disch:=first|exact dis|fail)only[go_sem,seval,-rO,-rN,dtR],by simp (disch:=first|exact dis|fail)only[go_sem,seval,-rO,-rN,dtR],yz _⟩
   .obtain⟨T,L2,n2,m2,rfl,rfl,hm,hn2,t5,t7,t6,t8,t9,g2,g3,hi⟩:=hI;simp only[dtR]at g2 g3;rcases wJ l i with ⟨hlt,hd⟩|⟨u,hlt,hd⟩
    .have hni:¬i<zR l:=J;clear hd hih hmem hkid;refine wu ?_;exact⟨_,L2,n2,_,rfl,rfl,V,hn2,V,V,by simp (disch:=first|exact dis|fail)only[go_sem,seval,-rO,-rN, *,dtR],by simp (disch:=first|exact dis|fail)only[go_sem,seval,-rO,-rN, *,dtR]⟩
    .have hc:=FL hd;have hx:=hih u (hmem u (zvY (by rw[hd];exact zvZ)))
     have hl5:=vD u;clear hd hih hmem hkid;refine wu ?_;exact⟨i+1,⟨_,L2,n2,_,rfl,rfl,V,hn2,V,V,V,V,V,by simp (disch:=first|exact dis|fail)only[go_sem,seval,-rO,-rN, *,dtR],by simp (disch:=first|exact dis|fail)only[go_sem,seval,-rO,-rN, *,dtR],J⟩,J⟩
   .rw[wF J,<-zuc (1<<<(n+1+1)),wF J];exact zv9 _
  .obtain⟨T,L2,n2,m2,rfl,rfl,hm,hn2,t6,t8,g2,g3⟩:=hI;simp only[dtR]at g2 g3;refine wp (wp (wu ?_));apply wA;refine wP (λi:Nat=>zR xks-i) (λi f t=>∃T m2,f=⟨tmL T,[]⟩/\t=KL L2 n2 m2 true/\m2%2^n=0/\G T 6 (.ptr (n+1+1) 0)/\G T 8 (.ptr (n+1+1+1) 0)/\G T 10 i/\i<=zR xks) (λi f t hI=>?_) 0 ⟨_,_,rfl,rfl,hm,V,V,V,yz _⟩;clear t6 t8 hm;obtain⟨T,m2,rfl,rfl,hm,t6,t8,t10,hi⟩:=hI;rcases wJ xks i with ⟨hlt,hd⟩|⟨u,hlt,hd⟩
   .have hni:¬i<zR xks:=J;clear hd hih hmem hkid;refine wu ?_;refine ev_zc ?_;exact⟨rfl,rfl⟩
   .have hc:=FL hd;have hx:=hih u (hkid u (zvY (by rw[hd];exact zvZ)))
    have hl5:=vD u;clear hd hih hmem hkid;refine wu ?_;exact⟨i+1,⟨_,_,rfl,rfl,V,V,V,V,J⟩,J⟩
end
def RZ{P:Program}{X:World}{c:Cd}(h:SmC c)(hl:LgPre c):(∀f∈(Z1 P X c).1.fs,List.length f.ps<1000000000/\List.length f.fr<1000000000/\SzT f.b)/\(Z1 P X c).1.fs.length<1000000000/\(Z1 P X c).1.consts.length<1000000000/\∀d∈(Z1 P X c).1.consts,qe d<100000:=by
 unfold Z1;cases he:eqD (kv P X c) (.ofNat 0)with
 |false=>exact⟨λf hf=>(by cases hf),(show (0:Nat)<1000000000 by decide),(show (0:Nat)<1000000000 by decide),λd hd=>(by cases hd)⟩
 | true=>
  cases hk:lK c.fs []with
  |none=>exact⟨λf hf=>(by cases hf),(show (0:Nat)<1000000000 by decide),(show (0:Nat)<1000000000 by decide),λd hd=>(by cases hd)⟩
  |some kn=>
   have hs:=(zx8 (kn:=kn) h hl).ea;have hn:=hs.sz.n;exact⟨hs.sz.f,Nat.lt_trans hn (by decide),hl.nc,λd hd=>by have:=hs.cs.nd d hd;omega⟩
def zvm(h:SmC c)(hl:LgPre c):RvArg 301 c:=by
 have hus:=h.us;refine⟨⟨⟨OK h hl,⟨hl.nf,hl.f⟩⟩,λf hm=>?_,λf hm=>?_,?_⟩,OJ h hl⟩
 .have:=h.fn f hm;omega
 .have h1:=h.fn f hm;have h2:=UG hm;have h3:(jh c).length *qb f.b<=2000*2000:=Nat.mul_le_mul hus h1.1;omega
 .have key:∀l:List Fn,(∀f∈l,zR f.ps+qb f.b<=4000)->(l.map λf=>zR f.ps+qb f.b).sum<=4000*zR l:=λl=>by
   induction l with
   |nil=>intro _;simp
   |cons f r ih=>
    intro hl;have h1:=hl f (by simp)
    have h2:=ih λg hg=>hl g (by simp[hg])
    simp only[ye,zuI,yJ];omega
  have h1:=key c.fs λf hm=>by have:=h.fn f hm;omega
  have h2:=h.nf;omega
section
variable {P:Program}{X:World}(B:Bx P X){O:Orc}(hO:OrcOk P X O)
include B hO
attribute [local go_sem] qt in
def ew(h5:O 5=none)(h13:O 13=none)(h14:O 14=none)(h6:O 6=some I3)(h7:O 7=some (I5 P X 301))(h8:O 8=some (oR P X 301))(h9:O 9=none)(h27:O 27=none)(h28:O 28=none)(hI:O 29=some Vd)(h10:O 10=none)(hc:LgPre c):∃s1,SC P X 3 (vo c) (s00 0 true) (.bool true) s1:=by
 refine be B hO f3 ?_;have haw:=λs=>E2 h6 s;have hla:=λL n m b=>Mz h5 h13 h14 hc L n m b;cases hl:U9 c with
 |true=>
  simp only[hl]at hla;obtain⟨fs,main,vars,globals,consts⟩:=c;unfold f3 cF;simp only[vo,v8,qc]at hla|-;refine wq ?_;refine wp (wp (qB ?_));refine wO (hla _ _ _ _) λv t hv=>?_;obtain⟨rfl,rfl⟩:=hv;clear hla;refine wu ?_;refine ev_zc ?_;exact qM _ _
 | false=>
  have hsm:=Dg hl;have harg:=OJ hsm hc;have hrv:=zvm hsm hc;simp only[hl]at hla;have hcv:=λs=>oc h7 uC c harg (jr c) s;have hrc:=λs=>oc h8 uC c hrv (jr c) s;obtain⟨q1,q2,hdn,q3⟩:=RZ (P:=P) (X:=X) hsm hc;have hsame:=rX h9 h27 h28 q1 q2;have hs8:=λd hd=>D2 hI h10 (qe d) d (zX _) (q3 d hd);clear q1 q2 q3 harg hrv hsm hl;generalize (Z1 P X c).2=e at *;generalize (Z1 P X c).1=D at *;have e0:=j5 e;obtain⟨fs,main,vars,globals,consts⟩:=c;obtain⟨dfs,dmain,dvars,dglobals,dconsts⟩:=D;unfold f3 cF;simp only[vo,v8,qc]at hla hcv hrc hsame|-;refine wq ?_;refine wp (wp (qB ?_));refine wO (hla _ _ _ _) λv t hv=>?_;obtain⟨rfl,rfl⟩:=hv;clear hla;refine wu ?_;refine wu ?_;refine wq ?_;refine wq ?_;refine wq ?_;clear hcv hrc hsame e0;simp only at hs8;have hnd:zR dconsts<1000000000:=hdn;clear hdn;refine wp (wp (wu ?_));apply wA;refine wP (λi:Nat=>zR dconsts-i) (λi f t=>∃T L2 n2 m2,f=⟨tmL T,[]⟩/\t=KL L2 n2 m2 true/\G T 3 (.ptr 1 0)/\G T 5 (.ptr 2 0)/\G T 7 i/\wn L2 1=some (cdR dfs dmain dvars dglobals dconsts)/\wn L2 2=some (cdR dfs dmain dvars dglobals dconsts)/\i<=zR dconsts) (λi f t hI=>?_) 0 ⟨_,_,3,_,rfl,rfl,sW,sW,sW,by simp (disch:=first|exact dis|fail)only[go_sem,seval,-rO,-rN,cdR],by simp (disch:=first|exact dis|fail)only[go_sem,seval,-rO,-rN,cdR],yz _⟩
  obtain⟨T,L2,n2,m2,rfl,rfl,t3,t5,t7,g1,g2,hi⟩:=hI;simp only[cdR]at g1 g2;rcases wJ dconsts i with ⟨hlt,hd⟩|⟨d,hlt,hd⟩
  .have hni:¬i<zR dconsts:=J;clear hd hs8;refine wu ?_;refine ev_zc ?_;exact qM _ _
  .have hcd:=FL hd;have hx:=hs8 d (zvY (by rw[hd];exact zvZ))
   have hl5:=vD d;clear hd hs8 haw;refine wu ?_;exact⟨i+1,⟨_,L2,n2,_,rfl,rfl,V,V,V,by simp (disch:=first|exact dis|fail)only[go_sem,seval,-rO,-rN, *,cdR],by simp (disch:=first|exact dis|fail)only[go_sem,seval,-rO,-rN, *,cdR],J⟩,J⟩
end
end Go.Proofs.YtbddpjboppmnfaaGreatDoor.Ev

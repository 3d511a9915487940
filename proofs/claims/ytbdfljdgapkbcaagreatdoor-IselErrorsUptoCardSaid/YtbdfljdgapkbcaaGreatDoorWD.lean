/- Contracts of functions that IselErrors calls: what a call answers. No conditions. -/
import Derived.Test.YtbdfljdgapkbcaaGreatDoorWC
set_option linter.unusedSimpArgs false
set_option linter.unusedVariables false
set_option linter.defProp false
set_option maxHeartbeats 4000000
set_option linter.unusedSectionVars false
noncomputable section
open List renaming length → zM, length_cons → yw, mem_cons_self → zua, mem_of_mem_drop → zv9, cons_append → yd, getD_eq_getElem?_getD → xD, map_cons → zY, drop_eq_getElem_cons → zuo, length_nil → xN, nil_append → zuc, append_assoc → zux, mem_cons → zul, mem_append_right → zuO, length_append → yO, perm_append_singleton → zuP, getElem?_eq_getElem → yU, getElem?_replicate → zuI, map_append → z7, mem_of_getElem? → xJ, map_nil → y7
open Nat renaming le_of_ble_eq_true → zv4, zero_mod → zuk, or_zero → zum, zero_or → zun, le_refl → zS, lt_succ_self → yx, zero_le → yh, le_succ → zuC, le_of_eq → zuM, zero_add → y8, zero_testBit → zuN, blt → zG
open Bool renaming cond_self → zui, and_eq_true → zP, true_or → zuE, false_or → xR, true_and → y9
open Int renaming ofNat → z6
open List.Perm renaming swap → zv2
namespace Go.Proofs.YtbdfljdgapkbcaaGreatDoor.Ev
variable {L L2:za}{d m k off a m2 R n N2 b f R2 lb lb2 m3 y:Nat}{l op2:zq}{w:Z}{c:Cd}{i:Int}{O:Orc}{P:Program}{X:World}{e2:Bool}
open T
set_option maxRecDepth 100000
attribute [local go_sem] we x9 wx Nat.or_zero Nat.zero_or Nat.zero_mod Bool.cond_self ltF gtF
def uA(P:Program)(X:World)(c:Cd):Int:=
 bif (ltD c.globals (.ofNat 0)||ltD (.ofNat 20000) c.globals)||ltD c.vars (.ofNat 0)then .ofNat 2
 else bif VX P X c.consts then (bif ky c then .ofNat 0 else .ofNat 4)else .ofNat 2
structure EaPre(N:Nat)(c:Cd):Prop where
 cs:CsPre N c.consts
 sz:CdSz c
def XR(P:Program)(X:World)(N:Nat):zt->U->zb:=vw qD (EaPre N) (λc=>.int .i64 (uA P X c))
section
variable {P:Program}{X:World}(B:Bx P X){O:Orc}{N:Nat}(hO:OrcOk P X O)
include B hO
def FD(H:NOrc P X N O)(h46:O 43=some Ml)(c:Cd)(hc:EaPre N c):∃s1,SC P X 24 (qD c) (s00 0 true) (.int .i64 (uA P X c)) s1:=by
 refine bew B hO f24 ?_;have hwh:=λs=>oc h46 vM c hc.sz (uG c) s;obtain⟨R,hR⟩:∃R,uA P X c=R:=⟨_,rfl⟩;rw[hR];unfold uA at hR;have hcs:=hc.cs;obtain⟨fs,main,vars,globals,consts⟩:=c;simp only at hcs hR;have hne:=λ{L n} (hw:WfA L n) m=>zxG H hcs hw m;simp only[qD,vy,qi]at hwh|-;unfold f24 cF;simp only;have hin:∀(s:U) (k:Nat),Fz s (.int .i64 (.ofNat k)) (.int .i64 (.ofNat k)):=λs k=>wT s _ _;cases c1:ltD globals (.ofNat 0)with
 |true=>
  rw[c1]at hR;simp only[zuE,x6]at hR;subst hR;clear hne hwh;refine xY ?_;refine xY ?_;refine qz ?_;exact hin _ _
 |false=>
 cases c2:ltD (.ofNat 20000) globals with
 |true=>
  rw[c2]at hR;simp only[zuE,Bool.or_true,x6]at hR;subst hR;clear hne hwh;refine xY ?_;refine xY ?_;refine qz ?_;exact hin _ _
 |false=>
 cases c3:ltD vars (.ofNat 0)with
 |true=>
  rw[c3]at hR;simp only[Bool.or_true,x6]at hR;subst hR;clear hne hwh;refine xY ?_;refine xY ?_;refine qz ?_;exact hin _ _
 |false=>
 rw[c1,c2,c3]at hR;simp only[Bool.or_self,wh]at hR;refine xY ?_;refine xY ?_;apply xU;refine xU (wi ?_);refine xZ (hne (λj hj=>by rw[gN J];rfl) _) λv t hv=>?_
 obtain⟨x,L2,n2,m2,rfl,hx,rfl,hle,hfr⟩:=hv;have g0:=(hfr 0 J).trans (x8 _ _ _);have hxs:vV x=true:=by rcases hx with rfl|⟨p,rfl⟩<;>rfl
 clear hne hx hfr;cases hk:VX P X consts with
 |false=>
  rw[hk]at hR;simp only[wh]at hR|-;subst hR;clear hwh;refine xX ?_;refine ev_zc ?_;exact hin _ _
 | true=>
  rw[hk]at hR;simp only[x6]at hR|-;generalize ky _=wb at *;cases wb with
  |false=>
   simp only[wh]at hR;subst hR;refine xX ?_;refine xX ?_;refine ev_zc ?_;exact hin _ _
  |true=>
   simp only[x6]at hR;subst hR;refine xX ?_;refine xX ?_;refine ev_zc ?_;exact hin _ _
end
def Ck{f:Fn}{t:Trm}(h:vY c f t=true)(h2:eqD t.kind (.ofNat 2)=true):∃j,t.fn=.ofNat j/\j<List.length c.fs:=by
 unfold vY at h;rw[zP]at h;have hk:t.kind=.ofNat 2:=by simpa [eqD]using h2
 have h1:eqD t.kind (.ofNat 1)=false:=by rw[hk];rfl
 have h3:=h.2;rw[h1,wh]at h3;unfold Z4 at h3;rw[zP,h2,x6,zP,zP]at h3;exact jR h3.2.1.1
mutual
theorem HC{c:Cd}{f:Fn}:∀t:Trm,vD c f t=true->SzT t->cz t/\Q8 (zM c.fs) t
 |.mk k v op n fn az ks,h,hs=>by
  simp only[vD,zP]at h;simp only[SzT]at hs;have h1:=Gy h.1;have h2:=λe=>Ck h.1 e;obtain⟨h3,h4⟩:=P0 ks h.2 hs.2.2;simp only[Trm.kids,Trm.kind,Trm.fn]at h1 h2;simp only[cz,Q8];exact⟨⟨h1,h3⟩,hs.1,h1,h2,h4⟩
theorem P0{c:Cd}{f:Fn}:∀ks:List Trm,uY c f ks=true->WR ks->Kv ks/\KC (zM c.fs) ks
 |[],_,_=>by simp only[Kv,KC,and_self]
 |t::r,h,hs=>by
  simp only[uY,zP]at h;simp only[WR]at hs;obtain⟨a1,a2⟩:=HC t h.1 hs.1;obtain⟨b1,b2⟩:=P0 r h.2 hs.2;simp only[Kv,KC];exact⟨⟨a1,b1⟩,a2,b2⟩
end
structure ChPre(N:Nat)(c:Cd):Prop where
 ea:EaPre N c
 nt:∀f∈c.fs,wN f.b<=900000000
 us:(kE c).length<1000000000
 vs:c.vars< .ofNat 9223372036854775808
def kP(h:uA P X c=.ofNat 0):ky c=true/\VX P X c.consts=true/\ltD c.globals (.ofNat 0)=false/\ltD (.ofNat 20000) c.globals=false/\ltD c.vars (.ofNat 0)=false:=by
 unfold uA at h;generalize ltD c.globals (.ofNat 0)=a at *;generalize ltD (.ofNat 20000) c.globals=b at *;generalize ltD c.vars (.ofNat 0)=d at *;generalize VX P X c.consts=e at *;generalize ky c=g at *;revert h;cases a<;>cases b<;>cases d<;>cases e<;>cases g<;>intro h<;>first|exact⟨rfl,rfl,rfl,rfl,rfl⟩|exact absurd h (by decide)
def P8{N:Nat}(hp:ChPre N c)(h:ky c=true):CdOk c/\ae c:=by
 have key:∀f∈c.fs,cz f.b/\Q8 (zM c.fs) f.b:=λf hf=>by
  unfold ky at h;rw[zP]at h;have h1:=List.all_eq_true.1 h.2 f hf;unfold wFn at h1;rw[zP,zP]at h1;exact HC f.b h1.2.2 (hp.ea.sz.f f hf).2.2
 exact⟨⟨hp.ea.sz.n,λf hf=>⟨(key f hf).2,hp.nt f hf,(hp.ea.sz.f f hf).1⟩⟩,hp.ea.sz.n,λf hf=>⟨(hp.ea.sz.f f hf).1,(hp.ea.sz.f f hf).2.2,(key f hf).1⟩⟩
def KZ(c:Cd):Nat->List Fn->Bool
 |_,[]=>false
 |i,f::r=>((eqD (.ofNat i) c.main||decide (0<zM f.fr))&&decide (0<((jP c).getD i []).length))||KZ c (i+1) r
def uZ(P:Program)(X:World)(c:Cd):Int:=
 bif eqD (uA P X c) (.ofNat 0)then (bif JI c then (bif KZ c 0 c.fs then .ofNat 6 else .ofNat 0)else .ofNat 14)else uA P X c
def nP(P:Program)(X:World)(N:Nat):zt->U->zb:=vw qD (ChPre N) (λc=>.int .i64 (uZ P X c))
open Nat (reduceEqDiff reduceLeDiff reduceLT reduceAdd reduceMul reduceSub reduceMod reducePow reduceDiv reduceOr reduceShiftLeft reduceGT reduceSucc)
open List (length_cons length_nil length_take length_drop)
open Int (reduceOfNat reduceNegSucc)
section
variable {P:Program}{X:World}(B:Bx P X){O:Orc}{N:Nat}(hO:OrcOk P X O)
include B hO
attribute [local go_sem] iN zyo in
def Fm(h30:O 24=some (XR P X N))(h31:O 25=some Mf)(h32:O 26=none)(h48:O 45=some (QG 900000000))(c:Cd)(hc:ChPre N c):∃s1,SC P X 13 (qD c) (s00 0 true) (.int .i64 (uZ P X c)) s1:=by
 refine bew B hO f13 ?_;have hea:=λs=>oc h30 vM c hc.ea (uG c) s;obtain⟨R,hR⟩:∃R,uZ P X c=R:=⟨_,rfl⟩;rw[hR];unfold uZ at hR;have hw:=λh=>P8 hc (kP (P:=P) (X:=X) (c:=c) h).1;generalize uA P X c=e at *;cases c1:eqD e (.ofNat 0)with
 |false=>
  rw[c1]at hR;simp only[wh]at hR;subst hR;clear hw;obtain⟨fs,main,vars,globals,consts⟩:=c;unfold f13 cF;simp only[qD,vy,qi]at hea|-;refine xY ?_;refine xY ?_;refine qz ?_;exact wT _ _ _
 | true=>
  rw[c1]at hR;simp only[x6]at hR;have he:e=.ofNat 0:=by simpa [eqD]using c1
  subst he;obtain⟨hok,hon⟩:=hw rfl;have hoc:=λs=>oc h31 vM c hon (uG c) s;have hse:=λ{L0 n0} (hw0:WfA L0 n0) m=>Aw h32 h48 hok hw0 m false;have hfz:=hc.ea.sz.f;have hnf:=hc.ea.sz.n;clear hw hok hon c1 hc;unfold f13 cF;cases c2:JI c with
  |false=>
   rw[c2]at hR hoc;simp only[wh]at hR;subst hR;clear hse;obtain⟨fs,main,vars,globals,consts⟩:=c;simp only[qD,vy,qi]at hea hoc|-;refine xY ?_;refine xY ?_;refine xY ?_;refine qz ?_;exact wT _ _ _
  | true=>
   rw[c2]at hR hoc;simp only[x6]at hR;clear c2;have hcut:=λi f r h=> @Ut c.fs i f r h;have hcap:∀i,KZ c i (c.fs.drop i)=match c.fs.drop i with
    |[]=>false
    |f::r=>((eqD (.ofNat i) c.main||decide (0<zM f.fr))&&decide (0<((jP c).getD i []).length))||KZ c (i+1) r:=λi=>by
    cases c.fs.drop i<;>rfl
   have hS:=(pO c (pX c));generalize hCI:KZ c=CI at *;generalize jP c=SS at *;obtain⟨fs,main,vars,globals,consts⟩:=c;simp only[qD,vy,qi]at hea hoc hse hcut hcap hfz hnf hR|-;refine xY ?_;refine xY ?_;refine xY ?_;refine xU (wi ?_);refine xZ (hse (λj hj=>by rw[gN J];rfl) _) λv t hv=>?_
   obtain⟨ids,fid,L,n,m,rfl,rfl,hM,hil,hn,hfr⟩:=hv;have g0:=((hfr 0 J).1).trans (x8 _ _ _);clear hse hfr hea hoc hS;refine xX ?_;refine xU (xU (xX ?_));apply x4;refine wq (λi:Nat=>zM fs-i) (λi f t=>∃T L2 n2 m2,f=⟨tmL T,[]⟩/\t=KL L2 n2 m2 false/\G T 1 (.ptr 0 0)/\G T 4 (.sl fid 0 (zM fs) (.fix (zM fs)))/\G T 18 (.lst (zM fs) false (xW wD fs))/\G T 19 (zM fs)/\G T 20 i/\i<=zM fs/\SetM ids SS fid (0+1) L2 n2/\0<n2/\x3 L2 0=some (.row 25 [.lst (zM fs) false (xW wD fs),main,vars,globals,.lst (zM consts) false (wy consts)])/\(bif CI i (fs.drop i)then (.ofNat 6:Int)else .ofNat 0)=R) (λi f t hI=>?_) 0 ⟨_,L,n,_,rfl,rfl,sW,sW,sW,sW,sW,yh _,hM,J,g0,hR⟩;clear hR hM g0 hn;obtain⟨T,L2,n2,m2,rfl,rfl,t1,t4,t18,t19,t20,hi,hM,hn,g0,hR⟩:=hI;rcases wj fs i with ⟨hlt,hd⟩|⟨g,hlt,hd⟩
   .rw[hcap i,hd]at hR;simp only[wh]at hR;subst hR;have:¬i<zM fs:=J;clear hcap hcut hfz hM hCI;refine xX ?_;refine ev_zc ?_;exact wT _ _ _
   .rw[hcap i,hd]at hR;simp only at hR;have hcg:=hcut i g _ hd;have hgl:=(hfz g (zv9 (by rw[hd];exact zua))).2.1
    obtain⟨gps,grest,gcont,gfr,gb⟩:=g;obtain⟨gk,gv,gop,gn,gf,gas,gks⟩:=gb;simp only[wD,wl,qd]at hcg hR hgl;have hii:i<zM ids:=J;have hid:ids[i]? =some ids[i]:=yU hii;generalize hidd:ids[i]=Y at hid;have gid:=hM.maps i Y hid;have grow:=hM.row;have hidn:=hM.wf.lt gid;have hfn:=hM.wf.lt grow;have hcut2:wE 1 (wX i (ids.map Z.map))=some [.map Y]:=by
     have:(ids.map Z.map).drop i=.map Y::(ids.map Z.map).drop (i+1):=by
      rw[zuo (by simpa using hii)]
      simp[hidd]
     rw[qe,this];rfl
    have hul:=zwo (SS.getD i []);have hlo:=hM.los Y (xJ hid);have hlf:=hM.lof;have hM2:∀o1 o2:zj,SetM ids SS fid (0+1) ((n2,o1)::(n2,o2)::L2) (n2+1):=λo1 o2=>hM.oth (by
     have hw:=hM.wf
     repeat first|exact hw.up J|refine WfA.same ?_ J) λj hj _=>by rw[gN J,gN J]
    generalize uS (SS.getD i [])=ul at *;generalize SS.getD i []=sl at *;clear hcap hcut hfz hM hCI hd;by_cases hs:0<zM sl
    .rw[qp hs]at hR;cases c1:eqD (.ofNat i) main with
     |true=>
      rw[c1]at hR;simp only[zuE,y9,x6]at hR;subst hR;clear hM2;refine ev_zc ?_;exact wT _ _ _
     |false=>
      rw[c1]at hR;by_cases hg:0<zM gfr
      .rw[qp hg]at hR;simp only[xR,y9,zuE,x6]at hR;subst hR;clear hM2;refine ev_zc ?_;exact wT _ _ _
      .rw[qb hg]at hR;simp only[xR,Bool.false_and]at hR;refine xX ?_;exact⟨i+1,⟨_,_,n2+1,_,rfl,rfl,V,V,V,V,V,J,hM2 _ _,J,V,hR⟩,J⟩
    .rw[qb hs]at hR;simp only[Bool.and_false,xR]at hR;cases c1:eqD (.ofNat i) main with
     |true=>
      refine xX ?_;exact⟨i+1,⟨_,_,n2+1,_,rfl,rfl,V,V,V,V,V,J,hM2 _ _,J,V,hR⟩,J⟩
     |false=>
      by_cases hg:0<zM gfr
      .refine xX ?_;exact⟨i+1,⟨_,_,n2+1,_,rfl,rfl,V,V,V,V,V,J,hM2 _ _,J,V,hR⟩,J⟩
      .refine xX ?_;exact⟨i+1,⟨_,_,n2+1,_,rfl,rfl,V,V,V,V,V,J,hM2 _ _,J,V,hR⟩,J⟩
end
def Er{c:Cd}(h:ky c=true):∀f∈c.fs,(f.ps++f.fr).all (λx=>wu x c.vars)=true/\vD c f f.b=true/\(f.rest=true->f.ps≠[]):=λf hf=>by
 unfold ky at h;rw[zP]at h;have h1:=List.all_eq_true.1 h.2 f hf;unfold wFn at h1;rw[zP,zP]at h1;refine⟨h1.2.1,h1.2.2,λhr he=>?_⟩;have h3:=h1.1;rw[hr,he]at h3;cases h3
def i6{n m:Int}:wu n m=true↔0<=n/\n<m:=by
 unfold wu ltD;rw[zP,Bool.not_eq_true',decide_eq_false_iff_not,jm];exact⟨λh=>⟨Int.not_lt.1 h.1,h.2⟩,λh=>⟨Int.not_lt.2 h.1,h.2⟩⟩
def EN{vars nc:Int}{a:Atm}:Uj vars nc a=true↔(a.k=.ofNat 1/\wu a.n vars=true)\/(a.k=.ofNat 2/\wu a.n nc=true):=by
 unfold Uj;by_cases h1:a.k=.ofNat 1
 .have h2:¬a.k=.ofNat 2:=by rw[h1];decide
  have h1':a.k=1:=h1;have e1:eqD a.k (.ofNat 1)=true:=qp h1;have e2:eqD a.k (.ofNat 2)=false:=qb h2;rw[e1,e2];cases wu a.n vars<;>simp[h1']
 .have e1:eqD a.k (.ofNat 1)=false:=qb h1;have h1':¬a.k=1:=h1;by_cases h2:a.k=.ofNat 2
  .have e2:eqD a.k (.ofNat 2)=true:=qp h2;have h2':a.k=2:=h2;rw[e1,e2];cases wu a.n nc<;>simp[h2']
  .have e2:eqD a.k (.ofNat 2)=false:=qb h2;have h2':¬a.k=2:=h2;rw[e1,e2];simp[h1',h2']
def JF{sc:zq}{x:Int}:∀{az:List Atm} {ow:zq},x∈vH sc ow az->x∈ow\/∃a∈az,eqD a.k (.ofNat 1)=true/\a.n=x
 |[],ow,h=>.inl h
 | a::r,ow,h=>by
  simp only[vH]at h;rcases JF h with h|⟨b,hb,h1,h2⟩
  .cases hk:eqD a.k (.ofNat 1)with
   |false=>rw[hk]at h;exact .inl h
   |true=>
    rw[hk,x6,ZU]at h;rcases h with h|⟨h,_⟩
    .exact .inl h
    .exact .inr ⟨a,by simp,hk,h.symm⟩
  .exact .inr ⟨b,by simp[hb],h1,h2⟩
def Pp{sc:zq}{x:Int}:∀{l ow:zq},x∈Qq sc ow l->x∈ow\/x∈l
 |[],ow,h=>.inl h
 | a::r,ow,h=>by
  simp only[Qq]at h;rcases Pp h with h|h
  .rw[ZU]at h;rcases h with h|⟨h,_⟩
   .exact .inl h
   .exact .inr (by simp[h])
  .exact .inr (by simp[h])
section
variable {c:Cd}{f:Fn}{S:zc}{i:Nat}(hS:∀j,∀x∈S.getD j [],wu x c.vars=true)
include hS
mutual
theorem K0:∀(t:Trm) (sc ow:zq),vD c f t=true->(∀x∈ow,wu x c.vars=true)->∀x∈je S i t sc ow,wu x c.vars=true
 | .mk k v op n fn az ks,sc,ow,ht,ho=>by
  simp only[vD,zP]at ht;simp only[je];refine Jl ks _ _ ht.2 λx hx=>?_;have hat:=ht.1;unfold vY at hat
  rw[zP]at hat
  have hats:=List.all_eq_true.1 hat.1;have ha:∀x∈vH sc ow az,wu x c.vars=true:=λx hx=>by
   rcases JF hx with hx|⟨a,ha,hk,rfl⟩
   .exact ho x hx
   .rcases EN.1 (hats a ha)with ⟨_,h⟩|⟨h,_⟩
    .exact h
    .rw[h]at hk;cases hk
  unfold WU at hx;cases hk:eqD k (.ofNat 2)with
  |false=>rw[hk]at hx;exact ha x hx
  | true=>
   rw[hk,x6]at hx;split at hx
   .exact ha x hx
   .rcases Pp hx with hx|hx
    .exact ha x hx
    .exact hS _ x hx
theorem Jl:∀(ks:List Trm) (sc ow:zq),uY c f ks=true->(∀x∈ow,wu x c.vars=true)->∀x∈uQ S i ks sc ow,wu x c.vars=true
 |[],_,ow,_,ho=>by simp only[uQ];exact ho
 |x::r,sc,ow,ht,ho=>by
  simp only[uY,zP]at ht;simp only[uQ];exact K0 x sc _ ht.1 (Jl r sc ow ht.2 ho)
end
end
def JN{c:Cd}:∀(fs:List Fn) (i:Nat) (S:zc),(∀f∈fs,vD c f f.b=true)->i+zM fs<=zM S->(∀j,∀x∈S.getD j [],wu x c.vars=true)->∀j,∀x∈(km fs i S).getD j [],wu x c.vars=true
 |[],_,_,_,_,h=>h
 |f::r,i,S,hf,hl,h=>by
  simp only[km];simp only[yw]at hl;refine JN r (i+1) _ (λg hg=>hf g (by simp[hg])) (by rw[List.length_set];omega) λj x hx=>?_
  rw[ph J]at hx;split at hx
  .exact K0 h f.b _ _ (hf f (by simp)) (h i) x hx
  .exact h j x hx
def PV:∀(fs:List Fn) (i:Nat) (S:zc),(km fs i S).length=zM S
 |[],_,_=>rfl
 |f::r,i,S=>by simp only[km];rw[PV r,List.length_set]
def ij{c:Cd}(h:∀f∈c.fs,vD c f f.b=true):∀j,∀x∈(jP c).getD j [],wu x c.vars=true:=by
 have key:∀k,(itS c k).length=zM c.fs/\∀j,∀x∈(itS c k).getD j [],wu x c.vars=true:=λk=>by
  induction k with
  | zero=>
   simp only[itS];refine⟨List.length_replicate,λj x hx=>?_⟩;have e:(List.replicate (zM c.fs) ([]:zq)).getD j []=[]:=by
    rw[xD];by_cases h:j<zM c.fs
    .rw[zuI,wc h];rfl
    .rw[zuI,x0 h];rfl
   rw[e]at hx;cases hx
  |succ k ih=>
   simp only[itS,gO];exact⟨by rw[PV];exact ih.1,JN c.fs 0 _ h (by rw[ih.1];omega) ih.2⟩
 exact(key _).2
open Int renaming reduceOfNat → rO, reduceNegSucc → rN
def lR(l:zq):zq:=l.mergeSort λx y=>decide (x<=y)
def PY(l:zq):(lR l).length=zM l:=List.length_mergeSort l
structure SrPre(x:Nat×Nat×zq)(args:zt)(s:U):Prop where
 args:args=[.fn 48 [] [.ptr x.1 0]]
 row:s.get x.1=some (.row 63 [.map x.2.1])
 map:s.get x.2.1=some (.umap (uS x.2.2))
 nd:x.2.2.Nodup
 len:zM x.2.2<1000000000
 rng:∀y∈x.2.2,0<=y/\y< .ofNat 9223372036854775808
def SrPre.uniq{x y:Nat×Nat×zq}{args:zt}{s:U}(h:SrPre x args s)(g:SrPre y args s):x=y:=by
 obtain⟨p,m,l⟩:=x;obtain⟨p',m',l'⟩:=y;have h1:=h.args.symm.trans g.args;simp only[qJ,Z.fn.injEq,Z.ptr.injEq,true_and,and_true]at h1;subst h1;have h2:=h.row.symm.trans g.row;simp only[x7,AObj.row.injEq,qJ,Z.map.injEq,true_and,and_true]at h2;subst h2;have h3:=h.map.symm.trans g.map;simp only[x7,AObj.umap.injEq]at h3;rw[rU h3]
open Classical in
def jM(args:zt)(s:U):zb:=
 if h:∃x,SrPre x args s then some (qd (lR (Classical.choose h).2.2),s)else none
def GJ{x:Nat×Nat×zq}{args:zt}{s:U}(h:SrPre x args s):jM args s=some (qd (lR x.2.2),s):=by
 have hx:∃x,SrPre x args s:=⟨x,h⟩;unfold jM;rw[dif_pos hx,(Classical.choose_spec hx).uniq h]
def vI(l:zq):zt:=[qd l]
theorem Yl(l:zq):(vI l).length=1:=rfl
theorem dr(l:zq):wO (vI l)=true:=rfl
def p8(l:zq):wo (vI l)=true:=by simp only[vI,ww,jE,wA,Bool.and_self]
def A6(l:zq):wkL (vI l)=vI l:=by simp only[vI,qd,wkL,wkV,Iw]
def lQ(ls:zc):Z:=.lst (zM ls) false (xW vI ls)
def Xz(P:Program)(X:World)(c:Cd):zc:=bif eqD (uA P X c) (.ofNat 0)then (jP c).map lR else []
def zyl(P:Program)(X:World)(N:Nat):zt->U->zb:=vw qD (ChPre N) (λc=>lQ (Xz P X c))
section
variable {O:Orc}
def TF(h34:O 28=none)(Y:Nat)(L:za)(n m:Nat):Cv (cl O 28 [.map Y] (KL L n m false)) λv t=>∃m2,v=.fn 48 [] [.ptr n 0]/\t=KL ((n,some (.row 63 [.map Y]))::L) (n+1) m2 false:=by
 refine wp (F:=f28) h34 rfl rfl (zv4 rfl) ?_;unfold f28 cF;simp only;refine xY ?_;refine xY ?_;refine ev_zc ?_;exact⟨_,rfl,rfl⟩
end
section
variable {P:Program}{X:World}(B:Bx P X){O:Orc}{N:Nat}(hO:OrcOk P X O)
include B hO
attribute [local go_sem] iN zyo wW wR qd in
def Ti(h30:O 24=some (XR P X N))(h32:O 26=none)(h33:O 27=some jM)(h34:O 28=none)(h48:O 45=some (QG 900000000))(c:Cd)(hc:ChPre N c):∃s1,SC P X 14 (qD c) (s00 0 true) (lQ (Xz P X c)) s1:=by
 refine bew B hO f14 ?_;have hea:=λs=>oc h30 vM c hc.ea (uG c) s;obtain⟨R,hR⟩:∃R,Xz P X c=R:=⟨_,rfl⟩;rw[hR];unfold Xz at hR;have hw:=λh=>P8 hc (kP (P:=P) (X:=X) (c:=c) h).1;have hwf:=λh=>Er (kP (P:=P) (X:=X) (c:=c) h).1;generalize uA P X c=e at *;cases c1:eqD e (.ofNat 0)with
 |false=>
  rw[c1]at hR;simp only[wh]at hR;subst hR;clear hw hwf;obtain⟨fs,main,vars,globals,consts⟩:=c;unfold f14 cF;simp only[qD,vy,qi]at hea|-;refine xY ?_;refine xY ?_;refine qz ?_;exact lY
 | true=>
  rw[c1]at hR;simp only[x6]at hR;have he:e=.ofNat 0:=by simpa [eqD]using c1
  subst he;obtain⟨hok,hon⟩:=hw rfl;have hwt:=hwf rfl;clear hwf;have hse:=λ{L0 n0} (hw0:WfA L0 n0) m=>Aw h32 h48 hok hw0 m false;have hnf:=hc.ea.sz.n;have hus:=hc.us;have hrg:∀j,∀x∈(jP c).getD j [],0<=x/\x< .ofNat 9223372036854775808:=λj x hx=>by
   have h1:=i6.1 (ij (λf hf=>(hwt f hf).2.1) j x hx);exact⟨h1.1,Int.lt_trans h1.2 hc.vs⟩
  clear hwt;have hS:SOk (kE c) (zM c.fs) (jP c):=pO c (pX c);clear hw hok hon c1 hc;unfold f14 cF;generalize jP c=SS at *;generalize kE c=U9 at *;obtain⟨fs,main,vars,globals,consts⟩:=c;simp only[qD,vy,qi]at hea hse hnf hS|-;have hSl:=hS.len;refine xY ?_;refine xY ?_;refine xU (xU (wi ?_));refine xZ (hse (λj hj=>by rw[x5,x0 J];rfl) _) λv t hv=>?_
  obtain⟨ids,fid,L,n,m,rfl,rfl,hM,hil,hn,hfr⟩:=hv;clear hse hfr hea;refine xX ?_;apply x4;refine wq (λi:Nat=>zM fs-i) (λi f t=>∃T L2 n2 m2 oid out,f=⟨tmL T,[]⟩/\t=KL L2 n2 m2 false/\(tmL T).get 2=some (gSl 1 oid (zM out))/\(tmL T).get 9=some (.sl fid 0 (zM fs) (.fix (zM fs)))/\(tmL T).get 10=some (.int .i64 (.ofNat (zM fs)))/\(tmL T).get 11=some (.int .i64 (.ofNat i))/\i<=zM fs/\SetM ids SS fid (0+1) L2 n2/\zM out=i/\out++(SS.drop i).map lR=R/\(out≠[]->oid<n2/\x3 L2 oid=some (.row 36 (xW vI out) true false))) (λi f t hI=>?_) 0 ⟨_,L,n,_,0,[],rfl,rfl,by simp (disch:=first|exact dis|fail)only[go_sem,seval,-rO,-rN,gSl],sW,sW,sW,yh _,hM,rfl,hR,λh=>absurd rfl h⟩
  clear hR hM hn;obtain⟨T,L2,n2,m2,oid,out,rfl,rfl,t2,t9,t10,t11,hi,hM,rfl,hR,hg⟩:=hI;rcases wj SS (zM out)with ⟨hlt,hd⟩|⟨l,hlt,hd⟩
  .rw[hd]at hR;simp only[y7,List.append_nil]at hR;subst hR;have hni:¬zM out<zM fs:=J;clear hM;refine xX ?_;refine xX ?_;refine qz ?_;have hfl:∀(s:U) (ls:zc),FzL s (xW vI ls) (xW vI ls):=λs ls=>by
    induction ls with
    |nil=>exact js
    |cons x r ih=>exact qa (pK (Gv x) (Iw x)) ih
   cases out with
   |nil=>exact lY
   |cons x r=>
    obtain⟨_,q⟩:=hg (by simp)
    have hp:wo (xW vI (x::r))=true:=wI p8 _;show Fz _ (.sl oid 0 (r.length+1) (.opn 1)) (.lst (x::r).length false (xW vI (x::r)));simp only[Fz];refine⟨hp,.inr ⟨trivial,oid,0,.opn 1,_,_,_,_,xW vI (x::r),rfl,trivial,by rw[wM];exact q,?_,hfl _ _⟩⟩
    show wE _ (wX 0 _)=_;exact qg rfl
  .rw[hd]at hR;simp only[zY]at hR;have hii:zM out<zM ids:=J;have hid:ids[zM out]? =some ids[zM out]:=yU hii;generalize hidd:ids[zM out]=Y at hid;have gid:=hM.maps (zM out) Y hid;have hlt2:SS.getD (zM out) []=l:=by
    rw[xD,<-List.head?_drop,hd];rfl
   have hnd:=hS.nd (zM out);have hrgl:=hrg (zM out);rw[hlt2]at hrgl;have hlen:zM l<=zM U9:=by
    have h1:=hS.sub (zM out);rw[hlt2]at h1 hnd;exact ZW hnd h1
   rw[hlt2]at gid hnd;have grow:=hM.row;have hidn:=hM.wf.lt gid;have hfn:=hM.wf.lt grow;have hcut2:wE 1 (wX (zM out) (ids.map Z.map))=some [.map Y]:=by
    have:(ids.map Z.map).drop (zM out)=.map Y::(ids.map Z.map).drop (zM out+1):=by
     rw[zuo (by simpa using hii)]
     simp[hidd]
    rw[qe,this];rfl
   have hsr:∀m,(evW env O).call 27 [.fn 48 [] [.ptr n2 0]] (KL ((n2,some (.row 63 [.map Y]))::L2) (n2+1) m false)=some (qd (lR l),KL ((n2,some (.row 63 [.map Y]))::L2) (n2+1) m false):=λm=>by
    rw[qc h33,GJ (x:=(n2,Y,l)) ⟨rfl,by rw[wM,x8],by rw[wM,x5,x0 (show ¬Y=n2 by omega)];exact gid,hnd,by simp only;omega,hrgl⟩]
   simp only[qd]at hsr;have hw2:∀o1 o2:zj,WfA ((n2+1,o1)::(n2,o2)::L2) (n2+1+1):=λo1 o2=>by
    have hw:=hM.wf
    repeat first|exact hw.up J|refine WfA.same ?_ J
   have hid2:∀o1 o2:zj,out≠[]->oid<n2+1+1/\x3 ((n2+1,o1)::(n2,o2)::L2) oid=some (.row 36 (xW vI out) true false):=λo1 o2 hne=>by
    obtain⟨q1,q2⟩:=hg hne;exact⟨J,by rw[x5,x0 J,x5,x0 J];exact q2⟩
   have hsrc:∀m o2,qu (KL ((n2+1,some (AObj.row 36 (vI (lR l))))::(n2,o2)::L2) (n2+1+1) m false) 1 1 (.sl (n2+1) 0 1 (.fix 1))=some (vI (lR l)):=λm o2=>(j7 (j:=0) (by rw[wM,x8]) rfl).2
   have hke:=λL n m=>TF h34 Y L n m;have hfne:out≠[]->fid≠oid:=λhne e=>by
    obtain⟨_,q2⟩:=hg hne;rw[<-e,grow]at q2;simp at q2
   have hine:out≠[]->oid∉ids:=λhne hm=>by
    obtain⟨_,q2⟩:=hg hne;obtain⟨j,hj⟩:=List.getElem?_of_mem hm;have:=hM.maps j oid hj;rw[q2]at this;cases this
   clear hd hlt2;refine xY ?_;refine xU (wV sW ?_);refine xX ?_;refine xU (x4 ?_);refine xY ?_;refine wi ?_;refine xZ (hke _ _ _) λv t hv=>?_;obtain⟨m3,rfl,rfl⟩:=hv;clear hke;refine wi ?_;refine xZ (Qo (f:=vI) (Y:=oid) (vs:=out) (w:=lR l) Yl dr J (hid2 _ _) (hw2 _ _) rfl (hsrc _ _) J J) λv t hv=>?_;obtain⟨L7,m7,rfl,rfl,g7,hw7,hf7⟩:=hv;have hcat:=uW out (lR l);have hM7:SetM ids SS fid (0+1) L7 (n2+1+1+1):=hM.oth hw7 λj hj hjj=>by
    rw[hf7 j J λhne e=>by
     rcases hjj with h|h
     .exact hfne hne (by rw[<-h,e])
     .exact hine hne (e▸h),x5,x0 J,x5,x0 J]
   clear hw2 hid2 hsrc hfne hine hM hf7 hsr hg gid grow;refine xX ?_;refine xX ?_;exact⟨zM out+1,⟨_,L7,n2+1+1+1,_,n2+1+1,out++[lR l],rfl,rfl,V,V,V,V,J,hM7,hcat,by rw[zux];exact hR,λ_=>⟨J,g7⟩⟩,J⟩
end
def Zw{α:Type}{enc:α->zt}{Pre:α->Prop}{F:α->Z}(hO:OrcOk P X O)(hp1:∀x,wo (enc x)=true)(hp2:∀x,wC (F x)=true)(h:∀x,Pre x->SC P X f (enc x) (H [] 0 true) (F x) (H [] 0 true)):OrcOk P X (withG f (vw enc Pre F) O):=
 hO.withG lB (XY true hp1 hp2 λx hx=>⟨_,h x hx⟩)
def kn{α:Type}{enc:α->zt}{Pre:α->Prop}{F:α->Z}(hO:OrcOk P X O)(hp1:∀x,wo (enc x)=true)(hp2:∀x,wC (F x)=true)(h:∀x,Pre x->∃s1,SC P X f (enc x) (s00 0 true) (F x) s1):OrcOk P X (withG f (vw enc Pre F) O):=hO.withG lB (XY true hp1 hp2 h)
def ke{α:Type}{enc:α->zt}{Pre:α->Prop}{Good:α->Z->Prop}(hO:OrcOk P X O)(he:∀x,wo (enc x)=true)(h:vW P X f enc Pre Good):OrcOk P X (withG f (uM P X f enc Pre Good) O):=hO.withG lB (Cf he h)
theorem su(c:Int):wo (aK c)=true:=rfl
def oA:Orc:=withG 146 gIs (withG 211 eE (withG 210 gIx (withG 153 GH noO)))
def oB:Orc:=withG 196 gDr (withG 145 JC oA)
def oC:Orc:=withG 175 Tm oB
def oD:Orc:=withG 147 XQ oC
def oE:Orc:=withG 116 sL oD
def oN0:Orc:=withG 74 (UE 1048577) oE
section
variable {P:Program}{X:World}(B:Bx P X)
include B
def zwZ:OrcOk P X oA:=by
 have h0:=jb P X;have h1:OrcOk P X (withG 153 GH _):=Zw h0 uH GR λx hx=>eP B h0 rfl x hx;have h4:OrcOk P X (withG 210 gIx _):=Zw h1 BK (λ_=>rfl) λx hx=>zwS B h0 rfl x hx.1 hx.2;have h5:OrcOk P X (withG 211 eE _):=Zw h4 ZK K9 λx hx=>by
  obtain⟨b0,r,rfl,hb,h1,h2⟩:=hx;exact zzw B h0 b0 r hb h1 h2
 exact Zw h5 su (λ_=>rfl) λx _=>zwR B h0 rfl x
def zyp:OrcOk P X oB:=by
 have h0:=zwZ B;have h4:OrcOk P X (withG 145 JC _):=Zw h0 kR (λ_=>rfl) λx hx=>Bo B h0 rfl rfl rfl rfl rfl rfl x hx.1 hx.2;exact Zw h4 ZK K9 λx hx=>zwH B h0 rfl x hx.1 hx.2.1 hx.2.2
def zyq:OrcOk P X oC:=Zw (zyp B) ZK AM λx hx=>zyK B (zyp B) rfl rfl x hx.1 hx.2
def zyr:OrcOk P X oD:=Zw (zyq B) kR Ju λx hx=>Fo B (zyq B) rfl x hx.1 hx.2
def zys:OrcOk P X oE:=Zw (zyr B) uH (λ_=>rfl) λx hx=>RO B (zyr B) rfl rfl rfl x hx
def te:∀(N:Nat),N<=1100000->OrcOk P X (withG 74 (UE N) oE)
 |0,_=>Zw (zys B) uH (λ_=>rfl) λx hx=>absurd hx.2 (Nat.not_lt_zero _)
 |N+1,h=>by
  have ih:=te N J;have hi:OrcOk P X (withG 144 (Tn N) (withG 74 (UE N) oE)):=Zw ih mZ (λ_=>rfl) λx hx=>zxA B ih rfl rfl J x hx.1 hx.2;exact Zw (zys B) uH (λ_=>rfl) λx hx=>zxE B hi rfl rfl rfl rfl rfl x hx.1 hx.2
def zxO:OrcOk P X oN0:=te B 1048577 J
end
def uN(N:zm):zl:=N.map λp=>(p.1,.int .i64 p.2)
def lkN(v:Int):zm->Option Int
 |[]=>none
 |p::r=>if p.1=v then some p.2 else lkN v r
def VL(v:Int):∀N:zm,lZ v (uN N)=(lkN v N).map (.int .i64)
 |[]=>rfl
 |p::r=>by
  simp only[uN,zY,lZ,lV,lkN];by_cases h:p.1=v
  .rw[qp h,wc h];rfl
  .rw[qb h,x0 h,wh];exact VL v r
def bO(v w:Int):∀N:zm,lkN v N=none->YN v (.int .i64 w) (uN N)=uN (N++[(v,w)])
 |[],_=>rfl
 |p::r,h=>by
  simp only[lkN]at h;simp only[uN,zY,YN,lV,yd];by_cases e:p.1=v
  .rw[wc e]at h;cases h
  .rw[x0 e]at h;rw[qb e,wh];have:=bO v w r h;simp only[uN]at this;rw[this]
def bc{v w:Int}:∀{N:zm},lkN v N=some w->(v,w)∈N
 |p::r,h=>by
  simp only[lkN]at h;split at h
  .rename_i e;cases h;rw[<-e];exact zua
  .exact List.mem_cons_of_mem _ (bc h)
structure VI where
 op:Int
 d:Int
 a:Int
 b:Int
 imm:Int
 lb:Int
 ui:Nat
 fx:Bool
 ul:zq
def usV(Y:Nat)(fx:Bool):Nat->Z
 |0=>.nils
 |k+1=>.sl Y 0 (k+1) (bif fx then .fix (k+1)else .opn 1)
def py(x:VI):zt:=[.int .i64 x.op,.int .i64 x.d,.int .i64 x.a,.int .i64 x.b,.int .i64 x.imm,.int .i64 x.lb,usV x.ui x.fx (zM x.ul),.nils]
theorem K4(x:VI):(py x).length=8:=rfl
theorem Jp(x:VI):wO (py x)=true:=by
 have:vV (usV x.ui x.fx (zM x.ul))=true:=by cases (zM x.ul)<;>rfl
 simp only[py,jC,lC,this,y9];rfl
def tM:Nat:=73
def tV:Nat:=45
def tI:Nat:=3
def iT(L:za)(x:VI):Prop:=x.ul≠[]->∃xt,x3 L x.ui=some (.row tI (xW wg x.ul) xt false)
def InR(R:Nat)(v:Int):Prop:=∃r,v=.ofNat r/\r<R
def WZ:Nat->Nat->zq
 |0,_=>[]
 |k+1,a=>.ofNat a::WZ k (a+1)
inductive OpOk (nf nc lb:Nat):Int->Int->Int->Int->zq->Prop
 |tri {op d l:Int}:op∈[z6 1,.ofNat 2,.ofNat 7,.ofNat 8,.ofNat 9]->OpOk nf nc lb op d (.ofNat 0) l []
 |off {op d l i:Int}:op∈[z6 15,.ofNat 24,.ofNat 25]->.ofNat 0<=i->i< .ofNat 32768->OpOk nf nc lb op d i l []
 |msk {op d l i:Int}:op∈[z6 16,.ofNat 17]->.ofNat 0<=i->i< .ofNat 32->OpOk nf nc lb op d i l []
 |shf {op d l:Int}:op∈[z6 19,.ofNat 20]->OpOk nf nc lb op d (.ofNat 2) l []
 |br {op d i:Int} {k:Nat}:op∈[z6 26,.ofNat 27,.ofNat 28,.ofNat 29,.ofNat 65,.ofNat 66]->k<lb->OpOk nf nc lb op d i (.ofNat k) []
 |mov {op d i l:Int}:op∈[z6 64,.ofNat 69]->OpOk nf nc lb op d i l []
 |call {i l:Int} {k:Nat}:jO i=.ofNat k->OpOk nf nc lb (.ofNat 67) (.ofNat 4) i l (WZ k 4)
 |tail {d i l:Int} {ul:zq}:i< .ofNat nf->.ofNat 1∈ul->.ofNat 2∈ul->OpOk nf nc lb (.ofNat 68) d i l ul
 |addr {d l:Int} {k:Nat}:k<nf->OpOk nf nc lb (.ofNat 70) d (.ofNat k) l []
 |data {d l:Int} {k:Nat}:k<nc->OpOk nf nc lb (.ofNat 71) d (.ofNat k) l []
 |leave {d i l:Int} {ul:zq}:i∈[z6 102,.ofNat 103,.ofNat 104,.ofNat 105,.ofNat 106]->OpOk nf nc lb (.ofNat 72) d i l ul
structure GdI(nf nc lb R:Nat)(x:VI):Prop where
 op:OpOk nf nc lb x.op x.d x.imm x.lb x.ul
 d:InR R x.d
 a:InR R x.a
 b:InR R x.b
 u:zM x.ul<=100/\∀u∈x.ul,InR R u
def InR.mono{v:Int}(h:InR R v)(hR:R<=R2):InR R2 v:=by
 obtain⟨r,h1,h2⟩:=h;exact⟨r,h1,J⟩
def inR{r:Nat}(h:r<R):InR R (.ofNat r):=⟨r,rfl,h⟩
def GdI.mono{nf nc:Nat}{x:VI}(h:GdI nf nc lb R x)(hl:lb<=lb2)(hR:R<=R2):GdI nf nc lb2 R2 x:=by
 obtain⟨op,d,a,b,imm,l,ui,fx,ul⟩:=x;refine⟨?_,h.d.mono hR,h.a.mono hR,h.b.mono hR,h.u.1,λu hu=>(h.u.2 u hu).mono hR⟩;have:=h.op;simp only at this|-;cases this with
 |br z1 z2=>exact .br z1 (Nat.lt_of_lt_of_le z2 hl)
 |tri z=>exact .tri z
 |off z z1 z2=>exact .off z z1 z2
 |msk z z1 z2=>exact .msk z z1 z2
 |shf z=>exact .shf z
 |mov z=>exact .mov z
 |call z=>exact .call z
 |tail z z1 z2=>exact .tail z z1 z2
 |addr z=>exact .addr z
 |data z=>exact .data z
 |leave z=>exact .leave z
def WX:List VI->zq
 |[]=>[]
 |x::r=>if x.op=.ofNat 65 then x.lb::WX r else WX r
theorem eR:∀a b:List VI,WX (a++b)=WX a++WX b
 |[],b=>rfl
 |x::a,b=>by
  simp only[yd,WX,eR a b];split<;>rfl
def JZ(n:Nat):zq:=(List.range n).map z6
def Du(n:Nat):JZ (n+1)=JZ n++[.ofNat n]:=by simp only[JZ,List.range_succ,z7,zY,y7]
structure MK where
 mp:Nat
 rid:Nat
 fid:Nat
 fn:Int
 pn:Int
 sf:Nat
 rest:Bool
 nf:Nat
 nc:Nat
def jZ(K:MK)(R nd:Nat)(iv:Z)(lb wd:Nat):AObj:=.row 73 [K.fn,R,(0:Nat),nd,K.pn,.bool K.rest,iv,.map K.rid,K.sf,lb,.map K.fid,wd]
def NF:AObj->Bool
 |.row e _ _ _=> !(Nat.beq e tM||Nat.beq e tV)
 |.umap _=>false
 |_=>true
def zwM:AObj->Bool
 |.row e _ _ _=>Nat.beq e tI
 |_=>false
def Fr2(L:za)(m:Nat)(L2:za)(m2:Nat):Prop:=∀j o,x3 L j=some o->NF o=true->x3 L2 j=some o/\m2.testBit j=m.testBit j
def Fr2.refl(L:za)(m:Nat):Fr2 L m L m:=λ_ _ h _=>⟨h,rfl⟩
def Fr2.trans{L3:za}(h:Fr2 L m L2 m2)(g:Fr2 L2 m2 L3 m3):Fr2 L m L3 m3:=λj o h1 h2=>
 have ⟨q1,q2⟩:=h j o h1 h2;have ⟨q3,q4⟩:=g j o q1 h2
 ⟨q3,q4.trans q2⟩
structure MsP(K:MK)(e:Bool)(op:zq)(R N u:Nat)(L:za)(n:Nat)(is:List VI)(rg fl:zm)(lb wd nd bid:Nat):Prop where
 wf:WfA L n
 gm:x3 L K.mp=some (jZ K R nd (gSl 8 bid (zM is)) lb wd)
 gr:x3 L K.rid=some (.umap (uN rg))
 gf:x3 L K.fid=some (.umap (uN fl))
 rf:K.rid≠K.fid
 gi:is≠[]->x3 L bid=some (.row 45 (xW py is) true false)
 hrg:∀p∈rg,InR R p.2
 hfl:∀p∈fl,p.1=.ofNat 104\/p.1=.ofNat 105
 hfn:(fl.map (·.1)).Nodup
 ok:∀x∈is,GdI K.nf K.nc lb R x/\iT L x
 us:∀x∈is,x.ul≠[]->x.ui<u
 hlb:(WX is++op).Perm (JZ lb)
 ni:zM is<=N
 nl:lb<=N
 nR:R<=N
 nw:wd<=64*N
 nn:nd<=64*N
 sf:K.sf<R
 R0:33<=R
 ls:e=true->∃x∈is.getLast?,x.op=.ofNat 68\/x.op=.ofNat 72
def MsO(K:MK)(e:Bool)(op:zq)(R B N u:Nat)(L:za)(n:Nat):Prop:=∃is rg fl wd nd bid,MsP K e (op++fl.map (·.2)) R N u L n is rg fl B wd nd bid
def MsQ(K:MK)(e:Bool)(op:zq)(R B N:Nat)(u:zw)(L:za)(n m:Nat)(V9:za->Nat->Nat->Z->Prop)(v:Z)(t:U):Prop:=∃L2 n2 m2 R2 B2,t=KL L2 n2 m2 false/\R<=R2/\B<=B2/\n<=n2/\MsO K e op R2 B2 N (u.getD n2) L2 n2/\Fr2 L m L2 m2/\V9 L2 R2 B2 v
section
variable {K:MK}{e:Bool}{op:zq}{R B N u:Nat}{L L2:za}{n n2:Nat}{is:List VI}{rg fl:zm}{lb wd nd bid:Nat}
def MsP.weak(h:MsP K e op R N u L n is rg fl lb wd nd bid)(hN:N<=N2):MsP K false op R N2 u L n is rg fl lb wd nd bid:=
 {h with ni:=by have:=h.ni;omega,nl:=by have:=h.nl;omega,nR:=by have:=h.nR;omega,nw:=by have:=h.nw;omega,nn:=by have:=h.nn;omega,ls:=λh=>by cases h}
def MsO.weak(h:MsO K e op R B N u L n)(hN:N<=N2):MsO K false op R B N2 u L n:=by
 obtain⟨is,rg,fl,wd,nd,bid,h⟩:=h;exact⟨is,rg,fl,wd,nd,bid,h.weak hN⟩
def MsO.top(h:MsO K e op R B N u L n):MsO K e op R B N n L n:=by
 obtain⟨is,rg,fl,wd,nd,bid,h⟩:=h;exact⟨is,rg,fl,wd,nd,bid,{h with us:=λx hx hu=>by obtain⟨_,g⟩:=(h.ok x hx).2 hu;exact h.wf.lt g}⟩
def MsO.perm(h:MsO K e op R B N u L n)(hp:op.Perm op2):MsO K e op2 R B N u L n:=by
 obtain⟨is,rg,fl,wd,nd,bid,h⟩:=h;exact⟨is,rg,fl,wd,nd,bid,{h with hlb:=((hp.append_right _).append_left _).symm.trans h.hlb}⟩
def Oth(u:Nat)(L L2:za)(n:Nat):Prop:=∀j,j<n->x3 L2 j=x3 L j\/∃o,x3 L j=some o/\NF o=true/\(zwM o=false\/u<=j)
def MsP.up(h:MsP K e op R N u L n is rg fl lb wd nd bid)(hw:WfA L2 n2)(hs:Oth u L L2 n):MsP K e op R N u L2 n2 is rg fl lb wd nd bid:=by
 have k:∀{j o},x3 L j=some o->(NF o=false\/(zwM o=true/\j<u))->x3 L2 j=some o:=λ{j o} hj ho=>by
  rcases hs j (h.wf.lt hj)with h1|⟨o',h1,h2,h3⟩
  .exact h1.trans hj
  .rw[hj]at h1;cases h1;rcases ho with h4|⟨h4,h5⟩
   .rw[h2]at h4;cases h4
   .rcases h3 with h3|h3
    .rw[h3]at h4;cases h4
    .omega
 exact{h with
  wf:=hw
  gm:=k h.gm (.inl rfl)
  gr:=k h.gr (.inl rfl)
  gf:=k h.gf (.inl rfl)
  gi:=λhi=>k (h.gi hi) (.inl rfl)
  ok:=λx hx=>⟨(h.ok x hx).1,λhu=>by
   obtain⟨xt,h1⟩:=(h.ok x hx).2 hu;exact⟨xt,k h1 (.inr ⟨rfl,h.us x hx hu⟩)⟩⟩}
def MsO.up(h:MsO K e op R B N u L n)(hw:WfA L2 n2)(hs:Oth u L L2 n):MsO K e op R B N u L2 n2:=by
 obtain⟨is,rg,fl,wd,nd,bid,h⟩:=h;exact⟨is,rg,fl,wd,nd,bid,h.up hw hs⟩
def MsO.wf(h:MsO K e op R B N u L n):WfA L n:=by
 obtain⟨is,rg,fl,wd,nd,bid,h⟩:=h;exact h.wf
def Oth.same(h:∀j,j<n->x3 L2 j=x3 L j):Oth u L L2 n:=λj hj=>.inl (h j hj)
def MsP.add{bid2:Nat}{x:VI}(h:MsP K e op R N u L n is rg fl lb wd nd bid)(hx:GdI K.nf K.nc lb R x)(hu:iT L2 x)(hu2:x.ul≠[]->x.ui<u)(hl:WX [x]++op2=op)(hw:WfA L2 n2)(gm:x3 L2 K.mp=some (jZ K R nd (gSl 8 bid2 (is++[x]).length) lb wd))(gi:x3 L2 bid2=some (.row 45 (xW py (is++[x])) true false))(hs:∀j,j<n->j≠K.mp->(is≠[]->j≠bid)->x3 L2 j=x3 L j):MsP K (decide (x.op=.ofNat 68\/x.op=.ofNat 72)) op2 R (N+1) u L2 n2 (is++[x]) rg fl lb wd nd bid2:=by
 have k:∀{j o},x3 L j=some o->(∀c,o≠.row tM c)->(∀c,o≠.row tV c true false)->x3 L2 j=some o:=λ{j o} hj h1 h2=>by
  refine(hs j (h.wf.lt hj) (λe=>?_) λhne e=>?_).trans hj
  .subst e;have:=h.gm;rw[hj]at this;cases this;exact h1 _ rfl
  .subst e;have:=h.gi hne;rw[hj]at this;cases this;exact h2 _ rfl
 exact{h with
  wf:=hw
  gm:=gm
  gr:=k h.gr (λ_ e=>by cases e) λ_ e=>by cases e
  gf:=k h.gf (λ_ e=>by cases e) λ_ e=>by cases e
  gi:=λ_=>gi
  ok :=λy hy=>by
   rcases List.mem_append.1 hy with hy|hy
   .exact⟨(h.ok y hy).1,λhu=>by
     obtain⟨xt,h1⟩:=(h.ok y hy).2 hu;exact⟨xt,k h1 (λ_ e=>by cases e) λ_ e=>by cases e⟩⟩
   .rw[List.mem_singleton.1 hy];exact⟨hx,hu⟩
  us:=λy hy hu=>by
   rcases List.mem_append.1 hy with hy|hy
   .exact h.us y hy hu
   .rw[List.mem_singleton.1 hy]at hu|-;exact hu2 hu
  hlb:=by rw[eR,zux,hl];exact h.hlb
  ni:=by have:=h.ni;simp only[yO,yw,xN];omega
  nl:=by have:=h.nl;omega
  nR:=by have:=h.nR;omega
  nw:=by have:=h.nw;omega
  nn:=by have:=h.nn;omega
  ls:=λhe=>⟨x,by simp,of_decide_eq_true he⟩}
def MsP.fr(h:MsP K e op R N u L n is rg fl lb wd nd bid)(hs:∀j,j<n->j≠K.mp->(is≠[]->j≠bid)->x3 L2 j=x3 L j/\m2.testBit j=m.testBit j):Fr2 L m L2 m2:=λj o hj ho=>by
 have:=hs j (h.wf.lt hj) (λe=>by subst e;have:=h.gm;rw[hj]at this;cases this;cases ho) (λhne e=>by subst e;have:=h.gi hne;rw[hj]at this;cases this;cases ho)
 exact⟨this.1.trans hj,this.2⟩
def MsP.set{nd2 wd2:Nat}{rg2 fl2:zm}(h:MsP K e op R N u L n is rg fl lb wd nd bid)(hw:WfA L2 n2)(gm:x3 L2 K.mp=some (jZ K R2 nd2 (gSl 8 bid (List.length is)) lb2 wd2))(gr:x3 L2 K.rid=some (.umap (uN rg2)))(gf:x3 L2 K.fid=some (.umap (uN fl2)))(hs:∀j,j<n->j≠K.mp->j≠K.rid->j≠K.fid->x3 L2 j=x3 L j)(hR:R<=R2)(hl:lb<=lb2)(hp:(WX is++op2).Perm (JZ lb2))(hrg:∀p∈rg2,InR R2 p.2)(hfl:(∀p∈fl2,p.1=.ofNat 104\/p.1=.ofNat 105)/\(fl2.map (·.1)).Nodup)(hN:N<=N2/\lb2<=N2/\R2<=N2/\wd2<=64*N2/\nd2<=64*N2):MsP K e op2 R2 N2 u L2 n2 is rg2 fl2 lb2 wd2 nd2 bid:=by
 have k:∀{j e cs x f},x3 L j=some (.row e cs x f)->Nat.beq e tM=false->x3 L2 j=some (.row e cs x f):=λ{j e cs x f} hj he=>by
  refine(hs j (h.wf.lt hj) (λe=>?_) (λe=>?_) λe=>?_).trans hj
  .subst e;have:=h.gm;rw[hj]at this;cases this;cases he
  .subst e;have:=h.gr;rw[hj]at this;cases this
  .subst e;have:=h.gf;rw[hj]at this;cases this
 exact⟨hw,gm,gr,gf,h.rf,λhi=>k (h.gi hi) rfl,hrg,hfl.1,hfl.2,λx hx=>⟨(h.ok x hx).1.mono hl hR,λhu=>by obtain⟨xt,h1⟩:=(h.ok x hx).2 hu;exact⟨xt,k h1 rfl⟩⟩,h.us,hp,Nat.le_trans h.ni hN.1,hN.2.1,hN.2.2.1,hN.2.2.2.1,hN.2.2.2.2,Nat.lt_of_lt_of_le h.sf hR,Nat.le_trans h.R0 hR,h.ls⟩
def MsP.fr2(h:MsP K e op R N u L n is rg fl lb wd nd bid)(hs:∀j,j<n->j≠K.mp->j≠K.rid->j≠K.fid->x3 L2 j=x3 L j/\m2.testBit j=m.testBit j):Fr2 L m L2 m2:=λj o hj ho=>by
 have:=hs j (h.wf.lt hj) (λe=>by subst e;have:=h.gm;rw[hj]at this;cases this;cases ho) (λe=>by subst e;have:=h.gr;rw[hj]at this;cases this;cases ho) (λe=>by subst e;have:=h.gf;rw[hj]at this;cases this;cases ho)
 exact⟨this.1.trans hj,this.2⟩
def MsP.rm(h:MsP K e op R N u L n is rg fl lb wd nd bid):K.rid≠K.mp/\K.fid≠K.mp:=
 ⟨λe=>(by have:=h.gr;rw[e,h.gm]at this;cases this),λe=>(by have:=h.gf;rw[e,h.gm]at this;cases this)⟩
def MsP.row{nd2 wd2:Nat}(h:MsP K e op R N u L n is rg fl lb wd nd bid)(hR:R<=R2)(hl:lb<=lb2)(hp:(WX is++op2).Perm (JZ lb2))(hN:N<=N2/\lb2<=N2/\R2<=N2/\wd2<=64*N2/\nd2<=64*N2):MsP K e op2 R2 N2 u ((K.mp,some (jZ K R2 nd2 (gSl 8 bid (List.length is)) lb2 wd2))::L) n is rg fl lb2 wd2 nd2 bid/\∀o m,Fr2 L m ((K.mp,o)::L) (m|||1<<<K.mp):=by
 obtain⟨h1,h2⟩:=h.rm;have hs:∀o j,j<n->j≠K.mp->j≠K.rid->j≠K.fid->x3 ((K.mp,o)::L) j=x3 L j:=λo j _ h _ _=>by rw[x5,x0 h]
 exact⟨h.set (h.wf.same (h.wf.lt h.gm)) (x8 _ _ _) (by rw[x5,x0 h1];exact h.gr) (by rw[x5,x0 h2];exact h.gf) (hs _) hR hl hp (λp hp=>(h.hrg p hp).mono hR) ⟨h.hfl,h.hfn⟩ hN,λo m=>h.fr2 λj hj q1 q2 q3=>⟨hs o j hj q1 q2 q3,vm q1⟩⟩
end
def NJ{op:zq}(h:(l++op).Perm (JZ lb)):(l++(Int.ofNat lb::op)).Perm (JZ (lb+1)):=by
 rw[Du];exact List.perm_middle.trans ((h.cons _).trans (zuP _ _).symm)
section
variable {O:Orc}{K:MK}{e:Bool}{op:zq}{R B N u:Nat}{L:za}{n:Nat}
variable {is:List VI}{rg fl:zm}{wd nd bid:Nat}
def Aj(o:O 30=none)(h:MsP K e op R N u L n is rg fl B wd nd bid)(hN:N<100000000)(m:Nat):Cv (cl O 30 [.ptr K.mp 0] (KL L n m false)) λv t=>∃L2 m2,v=.int .i64 (.ofNat R)/\t=KL L2 n m2 false/\MsP K e op (R+1) (N+1) u L2 n is rg fl B wd nd bid/\Fr2 L m L2 m2:=by
 refine wp (F:=f30) o rfl rfl (zv4 rfl) ?_;have gm:=h.gm;have hR:=h.nR;have hs1:Int.sub (.ofNat (R+1)) (.ofNat 1)=.ofNat R:=by rw[Hz J];rfl
 simp only[jZ]at gm;unfold f30 cF;simp only;refine xY ?_;refine xY ?_;refine xY ?_;refine ev_zc ?_;have h1:=h.nl;have h2:=h.nw;have h3:=h.nn
 obtain⟨q1,q2⟩:=h.row (R2:=R+1) (N2:=N+1) (nd2:=nd) (wd2:=wd) J (zS _) h.hlb J;exact⟨_,_,rfl,rfl,q1,q2 _ _⟩
def UN(o:O 57=none)(h:MsP K e op R N u L n is rg fl B wd nd bid)(hN:N<100000000)(m:Nat):Cv (cl O 57 [.ptr K.mp 0] (KL L n m false)) λv t=>∃L2 m2,v=.int .i64 (.ofNat B)/\t=KL L2 n m2 false/\MsP K e (.ofNat B::op) R (N+1) u L2 n is rg fl (B+1) wd nd bid/\Fr2 L m L2 m2:=by
 refine wp (F:=f57) o rfl rfl (zv4 rfl) ?_;have gm:=h.gm;have h1:=h.nl;have hs1:Int.sub (.ofNat (B+1)) (.ofNat 1)=.ofNat B:=by rw[Hz J];rfl
 simp only[jZ]at gm;unfold f57 cF;simp only;refine xY ?_;refine xY ?_;refine xY ?_;refine ev_zc ?_;have hR:=h.nR;have h2:=h.nw;have h3:=h.nn
 obtain⟨q1,q2⟩:=h.row (R2:=R) (N2:=N+1) (nd2:=nd) (wd2:=wd) (lb2:=B+1) (zS _) J (NJ h.hlb) J;exact⟨_,_,rfl,rfl,q1,q2 _ _⟩
def YI(o:O 30=none)(h:MsO K e op R B N u L n)(hN:N<100000000)(m:Nat):Cv (cl O 30 [.ptr K.mp 0] (KL L n m false)) λv t=>∃L2 m2,v=.int .i64 (.ofNat R)/\t=KL L2 n m2 false/\MsO K e op (R+1) B (N+1) u L2 n/\Fr2 L m L2 m2:=by
 obtain⟨is,rg,fl,wd,nd,bid,h⟩:=h;refine(Aj o h hN m).mono λv t hv=>?_;obtain⟨L2,m2,rfl,rfl,h2,f2⟩:=hv;exact⟨L2,m2,rfl,rfl,⟨_,_,_,_,_,_,h2⟩,f2⟩
def VP(o:O 57=none)(h:MsO K e op R B N u L n)(hN:N<100000000)(m:Nat):Cv (cl O 57 [.ptr K.mp 0] (KL L n m false)) λv t=>∃L2 m2,v=.int .i64 (.ofNat B)/\t=KL L2 n m2 false/\MsO K e (.ofNat B::op) R (B+1) (N+1) u L2 n/\Fr2 L m L2 m2:=by
 obtain⟨is,rg,fl,wd,nd,bid,h⟩:=h;refine(UN o h hN m).mono λv t hv=>?_;obtain⟨L2,m2,rfl,rfl,h2,f2⟩:=hv;exact⟨L2,m2,rfl,rfl,⟨_,_,_,_,_,_,h2⟩,f2⟩
def EH{α:Type}{t esz bytes:Nat}{f:α->zt}(hl:∀x,(f x).length=esz)(hs:∀x,wO (f x)=true)(he:1<=esz){Y:Nat}{vs:List α}{w:α}{y:Z}(hr:vs≠[]->Y<n/\x3 L Y=some (.row t (xW f vs) true false))(hw:WfA L n)(h1:j6 y=some 1)(h2:qu (KL L n m false) esz 1 y=some (f w))(hb:2*(zM vs+1)*bytes<=281474976710656)(hn:zM vs+1<1000000000000):
  Cv (uE (KL L n m false) t esz bytes (gSl esz Y (zM vs)) y) λv s=>∃L' m',v=gSl esz n (vs++[w]).length/\s=KL L' (n+1) m' false/\x3 L' n=some (.row t (xW f (vs++[w])) true false)/\WfA L' (n+1)/\(∀j,j<n->(vs≠[]->j≠Y)->x3 L' j=x3 L j/\m'.testBit j=m.testBit j):=by
 have hfl:xW f [w]=f w:=vh w;cases vs with
 |nil=>
  refine⟨_,_,Lh (q:=0) h1 h2 (.inl rfl) he (by simp only[xN,y8]at hb;exact hb) J,_,_,rfl,rfl,by rw[x5,wc rfl,zuc,hfl],(hw.up (zuC _)).same (yx _),λj hj _=>⟨by rw[gN J],rfl⟩⟩
 |cons z us=>
  obtain⟨hid,g1⟩:=hr (by simp)
  simp only[yw]at hb hn;refine⟨_,_,KO (q:=0) (by rw[wM];exact g1) (by rw[qK hl];rfl) h1 h2 (hs w) he hb J,_,_,?_,rfl,by rw[x5,wc rfl,wQ,hfl],((hw.up (zuC _)).same J).same (yx _),λj hj hne=>⟨by rw[gN J,x5,x0 (hne (by simp))],by rw[WG];exact vm (hne (by simp))⟩⟩
  simp only[yd,yw,yO,gSl]
  congr 1
theorem aa{l:za}{i:Nat}{b:Bool}{ks:zr}(h:i∈ks):(KL l n m b [] (some (k,ks))).get i=x3 l i:=by
 rw[Q4,VV.2 h];simp only[hid,wh,x6];cases Nat.ble k i<;>rfl
theorem zyL{α:Type}{t esz bytes:Nat}{f:α->zt}(hl:∀x,(f x).length=esz)(hs:∀x,wO (f x)=true)(he:1<=esz){Y:Nat}{vs:List α}{w:α}{us2:zt}{xf ff:Bool}(hr:vs≠[]->Y<n/\x3 L Y=some (.row t (xW f vs) true false))(hw:WfA L n)(hu:f w=us2)(hb:2*(zM vs+1)*bytes<=281474976710656)(hn:zM vs+1<1000000000000):
  Cv (uE (KL ((n,some (.row t us2 xf ff))::L) (n+1) 0 false [] (opD.onOf (n+1) (AC (PZ (some (gSl esz Y (zM vs)))) (some [n])))) t esz bytes (gSl esz Y (zM vs)) (.sl n 0 1 (.fix 1))) λv s=>∃L' m' on',v=gSl esz (n+1) (vs++[w]).length/\s=KL L' (n+1+1) m' false [] on'/\x3 L' (n+1)=some (.row t (xW f (vs++[w])) true false)/\WfA L' (n+1+1)/\(∀j,j<n->(vs≠[]->j≠Y)->x3 L' j=x3 L j/\m'.testBit j=false):=by
 subst hu;have hl1:(f w).length=1*esz:=by rw[hl,Nat.one_mul]
 cases vs with
 | nil=>
  simp only[gSl,xN,HA,QX,zuc,UV];have hg:(KL ((n,some (.row t (f w) xf ff))::L) (n+1) 0 false [] (some (n+1,[n]))).get n=some (.row t (f w) xf ff):=by
   rw[aa (by simp)];exact x8 _ _ _
  refine⟨_,_,Lh (q:=0) rfl (j7 (j:=0) hg hl1).2 (.inl rfl) he (by simp only[xN,y8]at hb;exact hb) J,_,_,_,rfl,rfl,by rw[x8,vh],((hw.up J).same J).same J,λj hj _=>⟨by rw[gN J,gN J],zuN j⟩⟩
 | cons z us=>
  obtain⟨hid1,g1⟩:=hr (by simp)
  simp only[yw]at hb hn;simp only[gSl,yw,iB,QX,yd,zuc,UV];have hg:(KL ((n,some (.row t (f w) xf ff))::L) (n+1) 0 false [] (some (n+1,[Y,n]))).get n=some (.row t (f w) xf ff):=by
   rw[aa (by simp)];exact x8 _ _ _
  have hg2:(KL ((n,some (.row t (f w) xf ff))::L) (n+1) 0 false [] (some (n+1,[Y,n]))).get Y=some (.row t (xW f (z::us)) true false):=by
   rw[aa (by simp),gN J];exact g1
  refine⟨_,_,KO (q:=0) hg2 (by rw[qK hl];rfl) rfl (j7 (j:=0) hg hl1).2 (hs w) he hb J,_,_,_,?_,rfl,by rw[x8,<-yd,wQ,vh],(((hw.up J).same J).same J).same J,λj hj hne=>⟨by rw[gN J,x5,x0 (hne (by simp)),gN J],by rw[WG,vm (hne (by simp)),zuN]⟩⟩
  rw[yO];rfl
attribute [local go_sem] wR in
def Kj(o:O 34=none)(h:MsP K e op R N u L n is rg fl lb wd nd bid)(hN:N<100000000)(x:VI)(hx:GdI K.nf K.nc lb R x)(hu:iT L x)(hu2:x.ul≠[]->x.ui<u)(hl:WX [x]++op2=op)(m:Nat):Cv (cl O 34 [.ptr K.mp 0,.agg (py x)] (KL L n m false)) λv t=>∃L2 n2 m2 bid2,t=KL L2 n2 m2 false/\n<=n2/\MsP K (decide (x.op=.ofNat 68\/x.op=.ofNat 72)) op2 R (N+1) u L2 n2 (is++[x]) rg fl lb wd nd bid2/\Fr2 L m L2 m2:=by
 refine wp (F:=f34) o rfl rfl (zv4 rfl) ?_;have gm:=h.gm;have hlt:=h.wf.lt h.gm;have hni:=h.ni;have hsc:=Jp x;have hcl:=K4 x;obtain⟨cx,hcx⟩:∃c,py x=c:=⟨_,rfl⟩;have hgi:=h.gi;have hw:=h.wf;simp only[jZ]at gm;rw[hcx]at hsc hcl|-;obtain⟨c0,c1,c2,c3,c4,c5,c6,c7,rfl⟩:∃c0 c1 c2 c3 c4 c5 c6 c7,cx=[c0,c1,c2,c3,c4,c5,c6,c7]:=by rw[<-hcx];exact⟨_,_,_,_,_,_,_,_,rfl⟩
 unfold f34 cF;simp only;refine xY ?_;refine wi ?_;have hbn:is≠[]->bid<n:=λhne=>hw.lt (hgi hne);have hmb:is≠[]->K.mp≠bid:=λhne e=>by have:=hgi hne;rw[<-e,gm]at this;cases this
 refine w7 (zyL (t:=45) (bytes:=96) (f:=py) (Y:=bid) (vs:=is) (w:=x) (n:=n+1) K4 Jp J (λhne=>?_) ?_ hcx J J) λv t hv=>?_
 .have:=hbn hne;exact⟨J,by (repeat rw[gN J]);exact hgi hne⟩
 ·(repeat first|exact hw.up J|refine WfA.same ?_ J)
 obtain⟨L7,m7,on7,rfl,rfl,g7,hw7,hf7⟩:=hv;have hcat:=uW is x;have hsc2:=vU 8 (n+1+1) (is++[x]).length;have hf8:∀j,j<n->(is≠[]->j≠bid)->x3 L7 j=x3 L j/\m7.testBit j=false:=λj hj hne=>by
  have:=hf7 j J hne
  (repeat rw[gN J]at this)
  exact this
 have gm7:=(hf8 K.mp hlt hmb).1.trans gm;rw[hcat]at hsc2|-;simp only[vV]at hsc2;replace hf8:∀j,j<n->(is≠[]->j≠bid)->x3 L j=x3 L7 j/\m7.testBit j=false:=λj h1 h2=>⟨(hf8 j h1 h2).1.symm,(hf8 j h1 h2).2⟩;clear hf7 hgi hsc hw gm;refine ev_zc ?_;have hfr:∀j,j<n->j≠K.mp->(is≠[]->j≠bid)->x3 ((K.mp,some (.row 73 [K.fn,R,(0:Nat),nd,K.pn,.bool K.rest,gSl 8 (n+1+1) (zM is+1),.map K.rid,K.sf,lb,.map K.fid,wd]))::L7) j=x3 L j:=λj hj h1 h2=>by
  rw[x5,x0 h1];exact(hf8 j hj h2).1.symm
 refine⟨_,n+1+1+1,_,n+1+1,rfl,J,h.add hx (λhne=>?_) hu2 hl (hw7.same J) (by rw[x8];simp only[jZ,hcat]) (by rw[gN J];exact g7) hfr,h.fr λj hj h1 h2=>⟨hfr j hj h1 h2,?_⟩⟩
 .obtain⟨xt,gu⟩:=hu hne;refine⟨xt,(hfr x.ui (h.wf.lt gu) (λe=>?_) λhn e=>?_).trans gu⟩
  .rw[e,h.gm]at gu;cases gu
  .rw[e,h.gi hn]at gu;cases gu
 .rw[vm h1,Nat.testBit_or,(hf8 j hj h2).2,Bool.or_false]
end
def zwO:zr:=[30,31,32,33,34,50,51,52,53,54,55,56,57,58,59,60,61,62,63,64,85,86,87,88,89,90,91,92,93,94,95,96,97,98,99,100,101,102,103,104,131,132,133,134,135,163,20,39]
def IsO(O:Orc):Prop:=∀f∈zwO,O f=none
def IsO.no(H:IsO O)(f:Nat)(h:f∈zwO:=by decide):O f=none:=H f h
def okR:za->Nat->Nat->Z->Prop:=λ_ R _ v=>∃r,v=.int .i64 (.ofNat r)/\r<R
def okL:za->Nat->Nat->Z->Prop:=λ_ _ B v=>∃k,v=.int .i64 (.ofNat k)/\k<B
def okU:za->Nat->Nat->Z->Prop:=λ_ _ _ _=>True
def WiOk(q i:Int):Prop:=(q=.ofNat 15/\.ofNat 0<=i/\i< .ofNat 32768)\/(q∈[z6 16,.ofNat 17]/\.ofNat 0<=i/\i< .ofNat 32)\/(q∈[z6 19,.ofNat 20]/\i=.ofNat 2)
def WiOk.op{q d l:Int}{nf nc:Nat}(h:WiOk q i):OpOk nf nc lb q d i l []:=by
 rcases h with ⟨rfl,h1,h2⟩|⟨h,h1,h2⟩|⟨h,rfl⟩
 .exact .off (by simp) h1 h2
 .exact .msk h h1 h2
 .exact .shf h
def WiOk.ne{q:Int}(h:WiOk q i):q≠.ofNat 65:=λe=>by
 subst e;rcases h with ⟨h,_⟩|⟨h,_⟩|⟨h,_⟩<;>simp at h
section
variable {K:MK}{e:Bool}{op:zq}{R B N u:Nat}{L:za}{n:Nat}
def MsO.R0(h:MsO K e op R B N u L n):33<=R:=by obtain⟨_,_,_,_,_,_,h⟩:=h;exact h.R0
def MsO.more(h:MsO K e op R B N u L n)(hN:N<=N2):MsO K e op R B N2 u L n:=by
 obtain⟨is,rg,fl,wd,nd,bid,h⟩:=h;exact⟨is,rg,fl,wd,nd,bid,{h.weak hN with ls:=h.ls}⟩
def MsO.sf(h:MsO K e op R B N u L n):K.sf<R:=by obtain⟨_,_,_,_,_,_,h⟩:=h;exact h.sf
def MsO.mem{l:Int}(h:MsO K e op R B N u L n)(hl:l∈op):∃k,l=.ofNat k/\k<B:=by
 obtain⟨_,_,_,_,_,_,h⟩:=h;have:=h.hlb.mem_iff.1 (zuO _ (List.mem_append_left _ hl):l∈_);simp only[JZ,List.mem_map,List.mem_range]at this;obtain⟨k,h1,h2⟩:=this;exact⟨k,h2.symm,h1⟩
def MsO.lt{l:Int}(h:MsO K e (l::op2) R B N u L n):∃k,l=.ofNat k/\k<B:=h.mem zua
def MsO.ltn(h:MsO K e op R B N u L n)(hl:.ofNat k∈op):k<B:=by
 obtain⟨j,h1,h2⟩:=h.mem hl;cases h1;exact h2
end
section
variable {O:Orc}(H:IsO O){K:MK}{e:Bool}{op:zq}{R B N u:Nat}{L:za}{n:Nat}
include H
def oX(h:MsO K e op R B N u L n)(hN:N<100000000)(x:VI)(hx:GdI K.nf K.nc B R x)(hu:iT L x)(hu2:x.ul≠[]->x.ui<u)(hl:WX [x]++op2=op)(he:e2=true->x.op=.ofNat 68\/x.op=.ofNat 72)(m:Nat):Cv (cl O 34 [.ptr K.mp 0,.agg (py x)] (KL L n m false)) (MsQ K e2 op2 R B (N+1) (some u) L n m okU):=by
 obtain⟨is,rg,fl,wd,nd,bid,h⟩:=h;refine(Kj (H.no _) h hN x hx hu hu2 (op2:=op2++fl.map (·.2)) (by rw[<-zux,hl]) m).mono λv t hv=>?_
 obtain⟨L2,n2,m2,bid2,rfl,hn,h2,f2⟩:=hv;exact⟨L2,n2,m2,R,B,rfl,zS _,zS _,hn,⟨_,rg,fl,wd,nd,bid2,{h2 with ls:=λhe2=>h2.ls (qp (he he2))}⟩,f2,trivial⟩
def uK(h:MsO K e op R B N u L n)(hN:N<100000000){q d a b l:Int}(hx:OpOk K.nf K.nc B q d i l [])(hd:InR R d)(ha:InR R a)(hb:InR R b)(h65:q≠.ofNat 65)(he:e2=true->q=.ofNat 68\/q=.ofNat 72)(m:Nat):Cv (cl O 34 [.ptr K.mp 0,.agg [q,d,a,b,i,l,.nils,.nils]] (KL L n m false)) (MsQ K e2 op R B (N+1) (some u) L n m okU):=
 oX H h hN ⟨q,d,a,b,i,l,0,false,[]⟩ (op2:=op) ⟨hx,hd,ha,hb,yh _,λ_ h=>by cases h⟩ (λh=>absurd rfl h) (λh=>absurd rfl h) (by simp only[WX,x0 h65,zuc]) he m
def VN{l:Int}(h:MsO K e (l::op) R B N u L n)(hN:N<100000000)(m:Nat):Cv (cl O 33 [.ptr K.mp 0,l] (KL L n m false)) (MsQ K false op R B (N+1) (some u) L n m okU):=by
 refine wp (F:=f33) (H.no _) rfl rfl (zv4 rfl) ?_;obtain⟨k,rfl,hk⟩:=h.lt;have h0:InR R (.ofNat 0):=inR (by have:=h.R0;omega)
 unfold f33 cF;simp only;refine wi ?_;refine xZ (oX H h hN ⟨.ofNat 65,.ofNat 0,.ofNat 0,.ofNat 0,.ofNat 0,.ofNat k,0,false,[]⟩ (op2:=op) (e2:=false) ⟨.br (by simp) hk,h0,h0,h0,yh _,λ_ h=>by cases h⟩ (λh=>absurd rfl h) (λh=>absurd rfl h) rfl (λh=>by cases h) _) λv t hv=>?_
 obtain⟨L1,n1,m1,R1,B1,rfl,q1,q2,q3,h1,f1,_⟩:=hv;refine ev_zc ?_;exact⟨L1,n1,m1,R1,B1,rfl,q1,q2,q3,h1,f1,trivial⟩
def Ty(h:MsO K e op R B N u L n)(hN:N<100000000)(hk:k<B)(m:Nat):Cv (cl O 133 [.ptr K.mp 0,k] (KL L n m false)) (MsQ K false op R B (N+1) (some u) L n m okU):=by
 refine wp (F:=f133) (H.no _) rfl rfl (zv4 rfl) ?_;have h0:InR R (.ofNat 0):=inR (by have:=h.R0;omega)
 unfold f133 cF;simp only;refine wi ?_;refine xZ (uK H h hN (e2:=false) (.br (by simp) hk) h0 h0 h0 (by simp) (λh=>by cases h) _) λv t hv=>?_
 obtain⟨L1,n1,m1,R1,B1,rfl,q1,q2,q3,h1,f1,_⟩:=hv;refine ev_zc ?_;exact⟨L1,n1,m1,R1,B1,rfl,q1,q2,q3,h1,f1,trivial⟩
end
section
variable {O:Orc}(H:IsO O){K:MK}{e:Bool}{op:zq}{R B N u:Nat}{L:za}{n:Nat}
include H
def kc{q:Int}(h:MsO K e op R B N u L n)(hN:N<100000000)(hq:q∈[Int.ofNat 26,.ofNat 27,.ofNat 28,.ofNat 29])(ha:a<R)(hb:b<R)(hk:k<B)(m:Nat):Cv (cl O 58 [.ptr K.mp 0,q,a,b,k] (KL L n m false)) (MsQ K false op R B (N+1) (some u) L n m okU):=by
 refine wp (F:=f58) (H.no _) rfl rfl (zv4 rfl) ?_;have h0:InR R (.ofNat 0):=inR (by have:=h.R0;omega)
 have h65:q≠.ofNat 65:=λe=>by subst e;simp at hq
 have hb6:q∈[z6 26,.ofNat 27,.ofNat 28,.ofNat 29,.ofNat 65,.ofNat 66]:=by
  simp only[zul]at hq|-;rcases hq with h|h|h|h|h
  .exact .inl h
  .exact .inr (.inl h)
  .exact .inr (.inr (.inl h))
  .exact .inr (.inr (.inr (.inl h)))
  .cases h
 unfold f58 cF;simp only;refine wi ?_;refine xZ (uK H h hN (e2:=false) (.br hb6 hk) h0 (inR ha) (inR hb) h65 (λh=>by cases h) _) λv t hv=>?_
 obtain⟨L1,n1,m1,R1,B1,rfl,q1,q2,q3,h1,f1,_⟩:=hv;refine ev_zc ?_;exact⟨L1,n1,m1,R1,B1,rfl,q1,q2,q3,h1,f1,trivial⟩
def Yc{q:Int}(h:MsO K e op R B N u L n)(hN:N<90000000)(hq:q∈[Int.ofNat 1,.ofNat 2,.ofNat 7,.ofNat 8,.ofNat 9])(ha:a<R)(hb:b<R)(m:Nat):Cv (cl O 132 [.ptr K.mp 0,q,a,b] (KL L n m false)) (MsQ K false op R B (N+2) (some u) L n m okR):=by
 refine wp (F:=f132) (H.no _) rfl rfl (zv4 rfl) ?_;have h65:q≠.ofNat 65:=λe=>by subst e;simp at hq
 unfold f132 cF;simp only;refine xY ?_;refine xU (wi ?_);refine xZ (YI (H.no _) h J _) λv t hv=>?_;obtain⟨L1,m1,rfl,rfl,h1,f1⟩:=hv;refine xX ?_;refine xU (wi ?_);refine xZ (uK H h1 J (e2:=false) (.tri hq) (inR (yx R)) (inR J) (inR J) h65 (λh=>by cases h) _) λv t hv=>?_
 obtain⟨L2,n2,m2,R2,B2,rfl,q1,q2,q3,h2,f2,_⟩:=hv;refine xX ?_;refine xY ?_;refine ev_zc ?_;exact⟨L2,n2,m2,R2,B2,rfl,J,q2,q3,h2,f1.trans f2,R,rfl,J⟩
def lp{q:Int}(h:MsO K e op R B N u L n)(hN:N<90000000)(hq:WiOk q i)(ha:a<R)(m:Nat):Cv (cl O 87 [.ptr K.mp 0,q,a,i] (KL L n m false)) (MsQ K false op R B (N+2) (some u) L n m okR):=by
 refine wp (F:=f87) (H.no _) rfl rfl (zv4 rfl) ?_;have h0:InR (R+1) (.ofNat 0):=inR (by have:=h.R0;omega)
 unfold f87 cF;simp only;refine xY ?_;refine xU (wi ?_);refine xZ (YI (H.no _) h J _) λv t hv=>?_;obtain⟨L1,m1,rfl,rfl,h1,f1⟩:=hv;refine xX ?_;refine xU (wi ?_);refine xZ (uK H h1 J (e2:=false) hq.op (inR (yx R)) (inR J) h0 hq.ne (λh=>by cases h) _) λv t hv=>?_
 obtain⟨L2,n2,m2,R2,B2,rfl,q1,q2,q3,h2,f2,_⟩:=hv;refine xX ?_;refine xY ?_;refine ev_zc ?_;exact⟨L2,n2,m2,R2,B2,rfl,J,q2,q3,h2,f1.trans f2,R,rfl,J⟩
def ki(h:MsO K e op R B N u L n)(hN:N<100000000)(hd:d<R)(ha:a<R)(m:Nat):Cv (cl O 50 [.ptr K.mp 0,d,a] (KL L n m false)) (MsQ K false op R B (N+1) (some u) L n m okU):=by
 refine wp (F:=f50) (H.no _) rfl rfl (zv4 rfl) ?_;have h0:InR R (.ofNat 0):=inR (by have:=h.R0;omega)
 unfold f50 cF;simp only;refine wi ?_;refine xZ (uK H h hN (e2:=false) (.mov (by simp)) (inR hd) (inR ha) h0 (by simp) (λh=>by cases h) _) λv t hv=>?_
 obtain⟨L1,n1,m1,R1,B1,rfl,q1,q2,q3,h1,f1,_⟩:=hv;refine ev_zc ?_;exact⟨L1,n1,m1,R1,B1,rfl,q1,q2,q3,h1,f1,trivial⟩
def gH{w:Int}(h:MsO K e op R B N u L n)(hN:N<100000000)(hd:d<R)(m:Nat):Cv (cl O 89 [.ptr K.mp 0,d,w] (KL L n m false)) (MsQ K false op R B (N+1) (some u) L n m okU):=by
 refine wp (F:=f89) (H.no _) rfl rfl (zv4 rfl) ?_;have h0:InR R (.ofNat 0):=inR (by have:=h.R0;omega)
 unfold f89 cF;simp only;refine wi ?_;refine xZ (uK H h hN (e2:=false) (.mov (by simp)) (inR hd) h0 h0 (by simp) (λh=>by cases h) _) λv t hv=>?_
 obtain⟨L1,n1,m1,R1,B1,rfl,q1,q2,q3,h1,f1,_⟩:=hv;refine ev_zc ?_;exact⟨L1,n1,m1,R1,B1,rfl,q1,q2,q3,h1,f1,trivial⟩
def Xn{w:Int}(h:MsO K e op R B N u L n)(hN:N<90000000)(m:Nat):Cv (cl O 60 [.ptr K.mp 0,w] (KL L n m false)) (MsQ K false op R B (N+2) (some u) L n m okR):=by
 refine wp (F:=f60) (H.no _) rfl rfl (zv4 rfl) ?_;unfold f60 cF;simp only;refine xY ?_;refine xU (wi ?_);refine xZ (YI (H.no _) h J _) λv t hv=>?_;obtain⟨L1,m1,rfl,rfl,h1,f1⟩:=hv;refine xX ?_;refine xU (wi ?_);refine xZ (gH H h1 J (yx R) _) λv t hv=>?_;obtain⟨L2,n2,m2,R2,B2,rfl,q1,q2,q3,h2,f2,_⟩:=hv;refine xX ?_;refine xY ?_;refine ev_zc ?_;exact⟨L2,n2,m2,R2,B2,rfl,J,q2,q3,h2,f1.trans f2,R,rfl,J⟩
def KH(h:MsO K e op R B N u L n)(hN:N<90000000)(ha:a<R)(m:Nat):Cv (cl O 85 [.ptr K.mp 0,a] (KL L n m false)) (MsQ K false op R B (N+2) (some u) L n m okR):=by
 refine wp (F:=f85) (H.no _) rfl rfl (zv4 rfl) ?_;unfold f85 cF;simp only;refine xY ?_;refine xU (wi ?_);refine xZ (lp H h hN (.inr (.inr ⟨by simp,rfl⟩)) ha _) λv t hv=>?_
 obtain⟨L2,n2,m2,R2,B2,rfl,q1,q2,q3,h2,f2,r,rfl,hr⟩:=hv;refine xX ?_;refine ev_zc ?_;exact⟨L2,n2,m2,R2,B2,rfl,q1,q2,q3,h2,f2,r,rfl,hr⟩
def YA{i:Nat}(h:MsO K e op R B N u L n)(hN:N<80000000)(hd:d<R)(ha:a<R)(hi:i<32768)(m:Nat):Cv (cl O 52 [.ptr K.mp 0,d,a,i] (KL L n m false)) (MsQ K false op R B (N+3) (some u) L n m okU):=by
 refine wp (F:=f52) (H.no _) rfl rfl (zv4 rfl) ?_;unfold f52 cF;simp only;refine wi ?_;refine xZ (KH H h J ha _) λv t hv=>?_;obtain⟨L1,n1,m1,R1,B1,rfl,q1,q2,q3,h1,f1,r,rfl,hr⟩:=hv;have h0:InR R1 (.ofNat 0):=inR (by have:=h1.R0;omega)
 refine wi ?_;refine xZ (uK H h1 J (e2:=false) (.off (by simp) (Int.ofNat_le.2 (yh i)) (Int.ofNat_lt.2 hi)) (inR J) (inR hr) h0 (by simp) (λh=>by cases h) _) λv t hv=>?_
 obtain⟨L2,n2,m2,R2,B2,rfl,p1,p2,p3,h2,f2,_⟩:=hv;refine ev_zc ?_;exact⟨L2,n2,m2,R2,B2,rfl,J,J,J,h2,f1.trans f2,trivial⟩
def Hy{w i:Nat}(h:MsO K e op R B N u L n)(hN:N<80000000)(ha:a<R)(hw:w<R)(hi:i<32768)(m:Nat):Cv (cl O 88 [.ptr K.mp 0,a,i,w] (KL L n m false)) (MsQ K false op R B (N+3) (some u) L n m okU):=by
 refine wp (F:=f88) (H.no _) rfl rfl (zv4 rfl) ?_;unfold f88 cF;simp only;refine wi ?_;refine xZ (KH H h J ha _) λv t hv=>?_;obtain⟨L1,n1,m1,R1,B1,rfl,q1,q2,q3,h1,f1,r,rfl,hr⟩:=hv;have h0:InR R1 (.ofNat 0):=inR (by have:=h1.R0;omega)
 refine wi ?_;refine xZ (uK H h1 J (e2:=false) (.off (by simp) (Int.ofNat_le.2 (yh i)) (Int.ofNat_lt.2 hi)) h0 (inR hr) (inR J) (by simp) (λh=>by cases h) _) λv t hv=>?_
 obtain⟨L2,n2,m2,R2,B2,rfl,p1,p2,p3,h2,f2,_⟩:=hv;refine ev_zc ?_;exact⟨L2,n2,m2,R2,B2,rfl,J,J,J,h2,f1.trans f2,trivial⟩
end
def Fr2.new(hw:WfA L n)(h:∀j,j<n->x3 L2 j=x3 L j):Fr2 L m L2 m:=λj _ hj _=>⟨(h j (hw.lt hj)).trans hj,rfl⟩
def Fr2.newm(hw:WfA L n)(h:∀j,j<n->x3 L2 j=x3 L j)(hm:∀j,j<n->m2.testBit j=m.testBit j):Fr2 L m L2 m2:=λj _ hj _=>⟨(h j (hw.lt hj)).trans hj,hm j (hw.lt hj)⟩
section
variable {O:Orc}(H:IsO O){K:MK}{e:Bool}{op:zq}{R B N u:Nat}{L:za}{n:Nat}
include H
def sZ(hk:k<8)(m:Nat)(b:Bool):Cv (cl O 86 [k] (KL L n m b)) λv t=>v=.int .i64 (.ofNat (4*k+3))/\t=KL L n m b:=by
 refine vf (F:=f86) (H.no _) rfl rfl (zv4 rfl) ?_;unfold f86 cF;simp only;have hk2:k=0\/k=1\/k=2\/k=3\/k=4\/k=5\/k=6\/k=7:=J;clear hk;rcases hk2 with rfl|rfl|rfl|rfl|rfl|rfl|rfl|rfl<;>(
 refine xY ?_;refine xY ?_;refine ev_zc ?_;exact⟨rfl,rfl⟩)
def hJ{l:Nat}(h:MsO K e op R B N u L n)(hN:N<70000000)(ha:a<R)(hk:k<8)(hl:l<B)(m:Nat):Cv (cl O 61 [.ptr K.mp 0,a,k,l] (KL L n m false)) (MsQ K false op R B (N+14) (some u) L n m okU):=by
 refine wp (F:=f61) (H.no _) rfl rfl (zv4 rfl) ?_;have hR0:=h.R0;have h3:WiOk (.ofNat 16) (.ofNat 3):=.inr (.inl ⟨by simp,by decide,by decide⟩)
 have h31:WiOk (.ofNat 16) (.ofNat 31):=.inr (.inl ⟨by simp,by decide,by decide⟩)
 have h15:∀i,i<40->WiOk (.ofNat 15) (.ofNat i):=λi hi=>.inl ⟨rfl,Int.ofNat_le.2 (yh i),Int.ofNat_lt.2 J⟩;unfold f61 cF;simp only;refine xU (wi ?_);refine xZ (lp H h J h3 ha _) λv t hv=>?_;obtain⟨L1,n1,m1,R1,B1,rfl,a1,b1,c1,h1,f1,r1,rfl,g1⟩:=hv;refine wi ?_;refine xZ (lp H h1 J (a:=0) (h15 1 J) J _) λv t hv=>?_;obtain⟨L2,n2,m2,R2,B2,rfl,a2,b2,c2,h2,f2,r2,rfl,g2⟩:=hv;refine wi ?_;refine xZ (kc H h2 J (by simp) (show r1<R2 by omega) g2 (show l<B2 by omega) _) λv t hv=>?_
 obtain⟨L3,n3,m3,R3,B3,rfl,a3,b3,c3,h3,f3,_⟩:=hv;refine xX ?_;refine xU (wi ?_);refine xZ (YI (H.no _) h3 J _) λv t hv=>?_;obtain⟨L4,m4,rfl,rfl,h4,f4⟩:=hv;refine xX ?_;refine xU (wi ?_);refine xZ (YA H h4 J (yx R3) (show a<R3+1 by omega) J _) λv t hv=>?_
 obtain⟨L5,n5,m5,R5,B5,rfl,a5,b5,c5,h5,f5,_⟩:=hv;refine xX ?_;refine wi ?_;refine xZ (lp H h5 J h31 (show R3<R5 by omega) _) λv t hv=>?_
 obtain⟨L6,n6,m6,R6,B6,rfl,a6,b6,c6,h6,f6,r6,rfl,g6⟩:=hv;refine wi ?_;refine xZ (sZ H hk _ _) λv t hv=>?_;obtain⟨rfl,rfl⟩:=hv;refine wi ?_;refine xZ (lp H h6 J (a:=0) (h15 (4*k+3) J) J _) λv t hv=>?_;obtain⟨L7,n7,m7,R7,B7,rfl,a7,b7,c7,h7,f7,r7,rfl,g7⟩:=hv;refine wi ?_;refine xZ (kc H h7 J (by simp) (show r6<R7 by omega) g7 (show l<B7 by omega) _) λv t hv=>?_
 obtain⟨L8,n8,m8,R8,B8,rfl,a8,b8,c8,h8,f8,_⟩:=hv;refine ev_zc ?_;exact⟨L8,n8,m8,R8,B8,rfl,J,J,J,h8.weak J,f1.trans (f2.trans (f3.trans (f4.trans (f5.trans (f6.trans (f7.trans f8)))))),trivial⟩
attribute [local go_sem] lm Qe ZD ZB l7 VW in
def Vw{r:Nat}(h:MsO K e op R B N u L n)(hN:N<90000000)(hr:r=104\/r=105)(m:Nat):Cv (cl O 62 [.ptr K.mp 0,r] (KL L n m false)) (MsQ K e op R B (N+1) (some u) L n m okL):=by
 refine wp (F:=f62) (H.no _) rfl rfl (zv4 rfl) ?_;obtain⟨is,rg,fl,wd,nd,bid,h⟩:=h;have gm:=h.gm;have gf:=h.gf;have hg:=VL (.ofNat r) fl;simp only[jZ]at gm;unfold f62 cF;simp only;cases hl:lkN (.ofNat r) fl with
 |some l=>
  rw[hl,Option.map_some]at hg;have hm:l∈op++fl.map (·.2):=zuO _ (List.mem_map.2 ⟨_,bc hl,rfl⟩);have:=h.hlb.mem_iff.1 (zuO _ hm);simp only[JZ,List.mem_map,List.mem_range]at this;obtain⟨k,hk,rfl⟩:=this;refine xY ?_;refine xY ?_;refine xY ?_;refine xY ?_;refine ev_zc ?_;exact⟨L,n,_,R,B,rfl,zS _,zS _,zS _,⟨is,rg,fl,wd,nd,bid,{h with ni:=by have:=h.ni;omega,nl:=by have:=h.nl;omega,nR:=by have:=h.nR;omega,nw:=by have:=h.nw;omega,nn:=by have:=h.nn;omega}⟩,Fr2.refl _ _,k,rfl,hk⟩
 | none=>
  rw[hl,Option.map_none]at hg;refine xY ?_;refine xY ?_;refine xU (xU (xX ?_));refine wV sW ?_;refine xU (wi ?_);refine xZ (UN (H.no _) h J _) λv t hv=>?_;obtain⟨L1,m1,rfl,rfl,h1,f1⟩:=hv;have gm1:=h1.gm;have gf1:=h1.gf;have hs1:=bO (.ofNat r) (.ofNat B) fl hl;obtain⟨r1,r2⟩:=h1.rm;have r3:=h1.rf;simp only[jZ]at gm1;clear gm gf hg;refine xX ?_;refine xX ?_;refine xY ?_;refine ev_zc ?_;have hs:∀j,j<n->j≠K.mp->j≠K.rid->j≠K.fid->x3 ((K.fid,some (.umap (uN (fl++[(.ofNat r,.ofNat B)]))))::L1) j=x3 L1 j/\(m1|||1<<<K.fid).testBit j=m1.testBit j:=λj _ _ _ q=>⟨by rw[x5,x0 q],vm q⟩
  have hn:(z6 r)∉fl.map (·.1):=λhm=>by
   have key:∀F:zm,(z6 r)∈F.map (·.1)->lkN (.ofNat r) F≠none:=λF=>by
    induction F with
    |nil=>intro h;cases h
    | cons p F ih=>
     intro h;simp only[lkN];split
     .simp
     .rename_i hne
      simp only[zY,zul]at h;exact ih (h.resolve_left λe=>hne e.symm)
   exact key fl hm hl
  have b1:=h1.nl;have b2:=h1.nR;have b3:=h1.nw;have b4:=h1.nn
  refine⟨_,n,_,R,B+1,rfl,zS _,zuC _,zS _,⟨is,rg,fl++[(.ofNat r,.ofNat B)],wd,nd,bid,h1.set (h1.wf.same (h1.wf.lt h1.gf)) ?_ ?_ (x8 _ _ _) (λj q1 q2 q3 q4=>(hs j q1 q2 q3 q4).1) (zS _) (zS _) ?_ h1.hrg ⟨λp hp=>?_,?_⟩ ⟨zS _,b1,b2,b3,b4⟩⟩,f1.trans (h1.fr2 hs),B,rfl,yx B⟩
  .rw[x5,x0 (Ne.symm r2)];exact h1.gm
  .rw[x5,x0 r3];exact h1.gr
  .refine List.Perm.trans (List.Perm.append_left _ ?_) h1.hlb;rw[z7,<-zux];exact zuP _ _
  .rcases List.mem_append.1 hp with hp|hp
   .exact h1.hfl p hp
   .rw[List.mem_singleton.1 hp];rcases hr with rfl|rfl
    .exact .inl rfl
    .exact .inr rfl
  .rw[z7];refine List.nodup_append.2 ⟨h1.hfn,by simp,λa ha b hb=>?_⟩
   simp only[zY,y7,List.mem_singleton]at hb;subst hb;exact λe=>hn (e▸ha)
end
section
variable {O:Orc}(H:IsO O){K:MK}{e:Bool}{op:zq}{R B N u:Nat}{L:za}{n:Nat}
include H
attribute [local go_sem] lm Qe ZD ZB l7 VW in
def kV{x:Int}(h:MsO K e op R B N u L n)(hN:N<90000000)(m:Nat):Cv (cl O 51 [.ptr K.mp 0,x] (KL L n m false)) (MsQ K e op R B (N+1) (some u) L n m okR):=by
 refine wp (F:=f51) (H.no _) rfl rfl (zv4 rfl) ?_;obtain⟨is,rg,fl,wd,nd,bid,h⟩:=h;have gm:=h.gm;have gr:=h.gr;have hg:=VL x rg;simp only[jZ]at gm;unfold f51 cF;simp only;cases hl:lkN x rg with
 |some l=>
  rw[hl,Option.map_some]at hg;obtain⟨k,rfl,hk⟩:=h.hrg _ (bc hl);refine xY ?_;refine xY ?_;refine xY ?_;refine xY ?_;refine ev_zc ?_;exact⟨L,n,_,R,B,rfl,zS _,zS _,zS _,⟨is,rg,fl,wd,nd,bid,{h with ni:=by have:=h.ni;omega,nl:=by have:=h.nl;omega,nR:=by have:=h.nR;omega,nw:=by have:=h.nw;omega,nn:=by have:=h.nn;omega}⟩,Fr2.refl _ _,k,rfl,hk⟩
 | none=>
  rw[hl,Option.map_none]at hg;refine xY ?_;refine xY ?_;refine xU (xU (xX ?_));refine wV sW ?_;refine xU (wi ?_);refine xZ (Aj (H.no _) h J _) λv t hv=>?_;obtain⟨L1,m1,rfl,rfl,h1,f1⟩:=hv;have gm1:=h1.gm;have gr1:=h1.gr;have hs1:=bO x (.ofNat R) rg hl;obtain⟨r1,r2⟩:=h1.rm;have r3:=h1.rf;simp only[jZ]at gm1;clear gm gr hg;refine xX ?_;refine xX ?_;refine xY ?_;refine ev_zc ?_;have hs:∀j,j<n->j≠K.mp->j≠K.rid->j≠K.fid->x3 ((K.rid,some (.umap (uN (rg++[(x,.ofNat R)]))))::L1) j=x3 L1 j/\(m1|||1<<<K.rid).testBit j=m1.testBit j:=λj _ _ q _=>⟨by rw[x5,x0 q],vm q⟩
  have b1:=h1.nl;have b2:=h1.nR;have b3:=h1.nw;have b4:=h1.nn
  refine⟨_,n,_,R+1,B,rfl,zuC _,zS _,zS _,⟨is,rg++[(x,.ofNat R)],fl,wd,nd,bid,h1.set (h1.wf.same (h1.wf.lt h1.gr)) ?_ (x8 _ _ _) ?_ (λj q1 q2 q3 q4=>(hs j q1 q2 q3 q4).1) (zS _) (zS _) h1.hlb (λp hp=>?_) ⟨h1.hfl,h1.hfn⟩ ⟨zS _,b1,b2,b3,b4⟩⟩,f1.trans (h1.fr2 hs),R,rfl,yx R⟩
  .rw[x5,x0 (Ne.symm r1)];exact h1.gm
  .rw[x5,x0 (Ne.symm r3)];exact h1.gf
  .rcases List.mem_append.1 hp with hp|hp
   .exact h1.hrg p hp
   .rw[List.mem_singleton.1 hp];exact inR (yx R)
def AtO(nc:Nat)(a:Atm):Prop:=a.k=.ofNat 1\/(a.k=.ofNat 2/\∃j,a.n=.ofNat j/\j<nc)
attribute [local go_sem] qO in
def sa{a:Atm}(h:MsO K e op R B N u L n)(hN:N<80000000)(ha:AtO K.nc a)(m:Nat):Cv (cl O 59 [.ptr K.mp 0,.agg (qO a)] (KL L n m false)) (MsQ K false op R B (N+2) (some u) L n m okR):=by
 refine wp (F:=f59) (H.no _) rfl rfl (zv4 rfl) ?_;obtain⟨k,x⟩:=a;have hw:=h.wf;have hu:=λo=>h.up (L2:=(n,o)::L) (n2:=n+1) ((hw.up (zuC _)).same (yx _)) (Oth.same λj hj=>by rw[gN J])
 have fu:=λo=>Fr2.new (m:=m) hw (L2:=(n,o)::L) λj hj=>by rw[gN J]
 have hu2:=λo o2=>h.up (L2:=(n,o)::(n,o2)::L) (n2:=n+1) (((hw.up (zuC _)).same (yx _)).same (yx _)) (Oth.same λj hj=>by rw[gN J,gN J])
 simp only[qO];unfold f59 cF;simp only;rcases ha with hk|⟨hk,j,hj,hjn⟩
 .simp only at hk;subst hk;refine xY ?_;refine xU (xU (xX ?_));refine wV sW ?_;refine xU (wi ?_);refine xZ (kV H (hu _) J _) λv t hv=>?_;obtain⟨L1,n1,m1,R1,B1,rfl,q1,q2,q3,h1,f1,r,rfl,hr⟩:=hv;refine xX ?_;refine ev_zc ?_;exact⟨L1,n1,m1,R1,B1,rfl,q1,q2,J,h1.weak J,(fu _).trans f1,r,rfl,hr⟩
 .simp only at hk hj;subst hk hj;refine xY ?_;refine xU (xU (xX ?_));refine wY sW ?_;refine xX ?_;refine xU (wi ?_);refine xZ (YI (H.no _) (hu _) J _) λv t hv=>?_;obtain⟨L1,m1,rfl,rfl,h1,f1⟩:=hv;have g1:=(f1 n _ (x8 _ _ _) rfl).1;have h0:InR (R+1) (.ofNat 0):=inR (by have:=h1.R0;omega)
  refine xX ?_;refine xU (wi ?_);refine xZ (uK H h1 J (e2:=false) (.data hjn) (inR (yx R)) h0 h0 (by simp) (λh=>by cases h) _) λv t hv=>?_
  obtain⟨L2,n2,m2,R2,B2,rfl,q1,q2,q3,h2,f2,_⟩:=hv;refine xX ?_;refine xY ?_;refine ev_zc ?_;exact⟨L2,n2,m2,R2,B2,rfl,J,q2,J,h2,(fu _).trans (f1.trans f2),R,rfl,J⟩
end
def MsO.own{α:Type}{K:MK}{e:Bool}{op:zq}{B N u lo n7 m7 oid:Nat}{L7:za}{out:List α}(h:MsO K e op R B N u L n)(hw:WfA L7 n7)(hu:u<=lo)(ho:out≠[]->lo<=oid/\∃cs x f,x3 L oid=some (.row tI cs x f))(hf:∀j,j<n->(out≠[]->j≠oid)->x3 L7 j=x3 L j/\m7.testBit j=m3.testBit j):MsO K e op R B N u L7 n7/\∀L0 m0,Fr2 L0 m0 L m3->WfA L0 lo->Fr2 L0 m0 L7 m7:=by
 refine⟨h.up hw λj hj=>?_,λL0 m0 f hw0 j o hj he=>?_⟩
 .by_cases hne:out≠[]/\j=oid
  .obtain⟨h1,rfl⟩:=hne;obtain⟨h2,cs,x,f,h3⟩:=ho h1;exact .inr ⟨_,h3,rfl,.inr J⟩
  .exact .inl (hf j hj λh1 h2=>hne ⟨h1,h2⟩).1
 .obtain⟨h1,h2⟩:=f j o hj he;have:=hf j (h.wf.lt h1) λh3 h4=>by have:=(ho h3).1;have:=hw0.lt hj;omega
  exact⟨this.1.trans h1,this.2.trans h2⟩
def okA(k:Nat):za->Nat->Nat->Z->Prop:=λL R _ v=>∃Y l,v=gSl 1 Y (zM l)/\zM l=k/\(∀r∈l,InR R r)/\(l≠[]->x3 L Y=some (.row 3 (xW wg l) true false))
section
variable {O:Orc}(H:IsO O){K:MK}{e:Bool}{op:zq}{R B N u:Nat}{L:za}{n:Nat}
include H
attribute [local go_sem] wR wW in
def Xe{az:List Atm}(h:MsO K e op R B N u L n)(hN:N<70000000)(hu:u<=n)(hl:List.length az<=40)(ha:∀a∈az,AtO K.nc a)(m:Nat):Cv (cl O 53 [.ptr K.mp 0,.lst (List.length az) false (xW qO az)] (KL L n m false)) (MsQ K false op R B (N+2*List.length az) (some u) L n m (okA (List.length az))):=by
 refine wp (F:=f53) (H.no _) rfl rfl (zv4 rfl) ?_;unfold f53 cF;simp only;refine xY ?_;refine xY ?_;refine xU (xU (xX ?_));apply x4;refine wq (λi:Nat=>zM az-i) (λi f t=>∃T L2 n2 m2 R2 B2 oid out,f=⟨tmL T,[]⟩/\t=KL L2 n2 m2 false/\G T 0 (.ptr K.mp 0)/\G T 5 (gSl 1 oid (zM out))/\G T 8 (.lst (zM az) false (xW qO az))/\G T 9 (zM az)/\G T 10 i/\i<=zM az/\zM out=i/\R<=R2/\B<=B2/\n<=n2/\MsO K false op R2 B2 (N+2*i) u L2 n2/\Fr2 L m L2 m2/\(∀r∈out,InR R2 r)/\(out≠[]->n<=oid/\x3 L2 oid=some (.row 3 (xW wg out) true false))) (λi f t hI=>?_) 0 ⟨_,L,n,_,R,B,0,[],rfl,rfl,sW,by simp (disch:=first|exact dis|fail)only[go_sem,seval,-rO,-rN,gSl],sW,sW,sW,yh _,rfl,zS _,zS _,zS _,h.weak (zS _),Fr2.refl _ _,(λ_ h=>by cases h),λh=>absurd rfl h⟩
 have hw0:=h.wf;clear h;obtain⟨T,L2,n2,m2,R2,B2,oid,out,rfl,rfl,t0,t5,t8,t9,t10,hi,rfl,hR,hB,hn,h2,f2,hr,hg⟩:=hI;rcases wj az (zM out)with ⟨hlt,hd⟩|⟨a,hlt,hd⟩
 .have hni:¬zM out<zM az:=J;clear hd;refine xX ?_;refine ev_zc ?_;exact⟨L2,n2,_,R2,B2,rfl,hR,hB,hn,h2.weak J,f2,oid,out,rfl,J,hr,λhne=>(hg hne).2⟩
 .have hc:=aC hd;have hat:=ha a (zv9 (by rw[hd];exact zua))
  have hlc:=pu a;have hw2:=h2.wf;have hup:=λo o2=>h2.up (L2:=(n2,o)::(n2,o2)::L2) (n2:=n2+1) (((hw2.up (zuC _)).same (yx _)).same (yx _)) (Oth.same λj hj=>by rw[gN J,gN J])
  have fup:=λo o2=>Fr2.newm (m:=m2) (m2:=m2|||1<<<n2) hw2 (L2:=(n2,o)::(n2,o2)::L2) (λj hj=>by rw[gN J,gN J]) λj hj=>vm J
  have hat2:=λo o2 m=>sa H (hup o o2) J hat m;obtain⟨ak,an⟩:=a;simp only[qO]at hc hat2;clear hd hlc;refine xY ?_;refine xU (wV sW ?_);refine xX ?_;refine xU (x4 ?_);refine xY ?_;refine wi ?_;refine xZ (hat2 _ _ _) λv t hv=>?_;obtain⟨L3,n3,m3,R3,B3,rfl,q1,q2,q3,h3,f3,r,rfl,hr3⟩:=hv;have f4:=f2.trans ((fup _ _).trans f3);have hw3:=h3.wf;have hg3:out≠[]->n<=oid/\x3 L3 oid=some (.row 3 (xW wg out) true false):=λhne=>by
   obtain⟨g1,g2⟩:=hg hne;exact⟨g1,(f3 _ _ (fup _ _ _ _ g2 rfl).1 rfl).1⟩
  clear hat2 hup fup hg hw2 hc;refine wi ?_;refine xZ (EH (bytes:=8) (f:=wg) (Y:=oid) (vs:=out) (w:=.ofNat r) qm vq J (λhne=>?_) ?_ rfl ?_ J J) λv t hv=>?_
  .have:=hw3.lt (hg3 hne).2;exact⟨J,by rw[gN J];exact(hg3 hne).2⟩
  .exact(hw3.up (zuC _)).same (yx _)
  .exact(j7 (j:=0) (by rw[wM,x8];rfl) rfl).2
  obtain⟨L7,m7,rfl,rfl,g7,hw7,hf7⟩:=hv;have hcat:=uW out (z6 r);obtain⟨h7,f7⟩:=h3.own (lo:=n) (m3:=m3) hw7 hu (λhne=>⟨(hg3 hne).1,_,_,_,(hg3 hne).2⟩) λj hj hne=>by
   have:=hf7 j J hne;rw[gN J]at this;exact this
  have f8:=f7 _ _ f4 hw0;rw[hcat];clear hf7 hg3 f7 hw3;refine xX ?_;refine xX ?_;exact⟨zM out+1,⟨_,L7,n3+1+1,_,R3,B3,n3+1,out++[.ofNat r],rfl,rfl,V,V,V,V,V,J,hcat,J,J,J,h7.weak J,f8,λx hx=>(List.mem_append.1 hx).elim (λh=>(hr x h).mono J) λh=>by rw[List.mem_singleton.1 h];exact inR hr3,λ_=>⟨J,g7⟩⟩,J⟩
end
def zvW(a b:Nat):vMn true [.int .i64 (.ofNat a),.int .i64 (.ofNat b)]=some (.int .i64 (.ofNat (max a b))):=by
 have:ltI (.ofNat a) (.ofNat b)=zG a b:=rfl;by_cases h:a<b
 .simp only[vMn,UR,this,w9.2 h,x6];rw[Nat.max_eq_right J]
 .have h2:zG a b=false:=by cases hb:zG a b with
   |false=>rfl
   |true=>exact absurd (w9.1 hb) h
  simp only[vMn,UR,this,h2,x6,wh];rw[Nat.max_eq_left J]
def zvA(a b:Nat):vMn false [.int .i64 (.ofNat a),.int .i64 (.ofNat b)]=some (.int .i64 (.ofNat (min a b))):=by
 have:ltI (.ofNat b) (.ofNat a)=zG b a:=rfl;by_cases h:b<a
 .simp only[vMn,UR,this,w9.2 h,x6,wh];rw[Nat.min_eq_right J]
 .have h2:zG b a=false:=by cases hb:zG b a with
   |false=>rfl
   |true=>exact absurd (w9.1 hb) h
  simp only[vMn,UR,this,h2,wh];rw[Nat.min_eq_left J]
structure IlV(L:za)(v:Z)(l:zq)(Y off:Nat):Prop where
 cl:v.cells=[v]
 len:∀s,Q0 s .v v=some (.int .i64 (.ofNat (zM l)))
 ia:∀i,i<zM l->vIa 1 v (.int .i64 (.ofNat i))=some (.ptr Y (off+i))
 row:l≠[]->∃cs x f,x3 L Y=some (.row 3 cs x f)/\∀i a r,l.drop i=a::r->wE 1 (wX (off+i) cs)=some [.int .i64 a]
def IlV.fr{Y:Nat}{v:Z}(h:IlV L v l Y off)(f:Fr2 L m L2 m2):IlV L2 v l Y off:=
 ⟨h.cl,h.len,h.ia,λhne=>by obtain⟨cs,x,g,h1,h2⟩:=h.row hne;exact⟨cs,x,g,(f _ _ h1 rfl).1,h2⟩⟩
def IlV.of{Y:Nat}{x f:Bool}(h:l≠[]->x3 L Y=some (.row 3 (xW wg l) x f)):IlV L (gSl 1 Y (zM l)) l Y 0:=
 ⟨wR 1 Y _,λs=>wW s 1 Y _,λi hi=>by rw[pL hi,Nat.mul_one,y8],λhne=>⟨_,_,_,h hne,λi a r hd=>by rw[y8];exact uz hd⟩⟩
def IlV.lit{Y:Nat}{c:Cap}{x f:Bool}(h:x3 L Y=some (.row 3 (xW wg l) x f)):IlV L (.sl Y 0 (zM l) c) l Y 0:=
 ⟨rfl,λ_=>rfl,λi hi=>by simp only[vIa,GQ .i64 hi,y8];simp,λ_=>⟨_,_,_,h,λi a r hd=>by rw[y8];exact uz hd⟩⟩
section
variable {O:Orc}(H:IsO O){K:MK}{e:Bool}{op:zq}{R B N u:Nat}{L:za}{n:Nat}
include H
attribute [local go_sem] zvW in
def WK{Y:Nat}{l:zq}(h:MsO K e op R B N u L n)(hN:N<60000000)(hd:d<R)(hk:k<8)(hvw:IlV L w l Y off)(hl:List.length l<=40)(hr:∀x∈l,InR R x)(m:Nat):Cv (cl O 54 [.ptr K.mp 0,d,k,w] (KL L n m false)) (MsQ K false op R B (N+8+List.length l) (some u) L n m okU):=by
 refine wp (F:=f54) (H.no _) rfl rfl (zv4 rfl) ?_;have hlen:=hvw.len;have hia:=hvw.ia;have hR0:=h.R0;obtain⟨z1,hz1⟩:∃z,uc .shl .i64 (.ofNat (zM l)) .u64 (.ofNat 5)=some (.int .i64 z):=⟨_,rfl⟩;obtain⟨z2,hz2⟩:∃z,uc .or .i64 z1 .i64 (.ofNat (4*k+3))=some (.int .i64 z):=⟨_,rfl⟩;unfold f54 cF;simp only;refine xU (wi ?_);refine xZ (sZ H hk _ _) λv t hv=>?_;obtain⟨rfl,rfl⟩:=hv;refine wi ?_;refine xZ (Xn H h J _) λv t hv=>?_;obtain⟨L1,n1,m1,R1,B1,rfl,a1,b1,c1,h1,f1,r1,rfl,g1⟩:=hv;have i0:∀R',R<=R'->InR R' (.ofNat 0):=λR' h=>inR J;have i26:∀R',R<=R'->InR R' (.ofNat 26):=λR' h=>inR J;have z0:z6 0< .ofNat 32768:=by decide
 refine xX ?_;refine xU (wi ?_);refine xZ (uK H h1 J (e2:=false) (.off (by simp) (Int.le_refl _) z0) (i0 _ a1) (i26 _ a1) (inR g1) (by simp) (λh=>by cases h) _) λv t hv=>?_
 obtain⟨L2,n2,m2,R2,B2,rfl,a2,b2,c2,h2,f2,_⟩:=hv;clear hz1 hz2 h1;refine xX ?_;refine xU (xU (xX ?_));apply x4;refine wq (λi:Nat=>zM l-i) (λi f t=>∃T L3 n3 m3 R3 B3,f=⟨tmL T,[]⟩/\t=KL L3 n3 m3 false/\G T 0 (.ptr K.mp 0)/\G T 1 d/\G T 3 w/\G T 24 w/\G T 25 (zM l)/\G T 26 i/\i<=zM l/\R<=R3/\B<=B3/\n<=n3/\MsO K false op R3 B3 (N+3+i) u L3 n3/\Fr2 L m L3 m3) (λi f t hI=>?_) 0 ⟨_,L2,n2,_,R2,B2,rfl,rfl,sW,sW,sW,sW,sW,sW,yh _,J,J,J,h2,f1.trans f2⟩;clear h2 f1 f2 g1 h;obtain⟨T,L3,n3,m3,R3,B3,rfl,rfl,t0,t1,t3,t24,t25,t26,hi,hR,hB,hn,h3,f3⟩:=hI;rcases wj l i with ⟨hlt,hd2⟩|⟨a,hlt,hd2⟩
 .have hni:¬i<zM l:=J;clear hd2 hia;refine xX ?_;refine xU (wi ?_);refine xZ (lp H h3 J (a:=26) (.inr (.inr ⟨by simp,rfl⟩)) J _) λv t hv=>?_
  obtain⟨L4,n4,m4,R4,B4,rfl,a4,b4,c4,h4,f4,r4,rfl,g4⟩:=hv;refine xX ?_;refine xU (wi ?_);refine xZ (uK H h4 J (e2:=false) (.msk (by simp) (by decide) (by decide)) (inR (show d<R4 by omega)) (inR g4) (i0 _ J) (by simp) (λh=>by cases h) _) λv t hv=>?_
  obtain⟨L5,n5,m5,R5,B5,rfl,a5,b5,c5,h5,f5,_⟩:=hv;refine xX ?_;refine xU (wi ?_);refine xZ (uK H h5 J (e2:=false) (.off (by simp) (Int.ofNat_le.2 (yh (1+zM l))) (Int.ofNat_lt.2 J)) (i26 _ J) (i26 _ J) (i0 _ J) (by simp) (λh=>by cases h) _) λv t hv=>?_
  obtain⟨L6,n6,m6,R6,B6,rfl,a6,b6,c6,h6,f6,_⟩:=hv;have f7:=f3.trans (f4.trans (f5.trans f6));clear h3 h4 h5 f3 f4 f5 f6;obtain⟨is,rg,fl,wd,nd,bid,h6⟩:=h6;have gm:=h6.gm;have q1:=h6.nl;have q2:=h6.nR;have q3:=h6.nw;have q4:=h6.nn;have q5:=h6.ni
  simp only[jZ]at gm;refine xX ?_;refine xY ?_;refine ev_zc ?_;obtain⟨h7,f8⟩:=h6.row (R2:=R6) (N2:=N+8+zM l) (nd2:=nd) (wd2:=wd+(1+zM l)) (lb2:=B6) (zS _) (zS _) h6.hlb J;obtain⟨h8,f9⟩:=h7.row (R2:=R6) (N2:=N+8+zM l) (nd2:=max nd (wd+(1+zM l))) (wd2:=wd+(1+zM l)) (lb2:=B6) (zS _) (zS _) h6.hlb J;refine⟨_,n6,_,R6,B6,rfl,J,J,J,⟨is,rg,fl,_,_,bid,h8⟩,f7.trans ((f8 _ _).trans (f9 _ _)),trivial⟩
 .obtain⟨cs,x,g,hg,hcs⟩:=(hvw.fr f3).row λe=>by rw[e]at hlt;simp at hlt
  have hc:=hcs i a _ hd2;have hia2:=hia i hlt;obtain⟨ra,rfl,hra⟩:=hr a (zv9 (by rw[hd2];exact zua))
  clear hd2 hia hcs;refine xY ?_;refine xU (wV sW ?_);refine xX ?_;refine xU (x4 ?_);refine xY ?_;refine wi ?_;refine xZ (uK H h3 J (e2:=false) (.off (by simp) (Int.ofNat_le.2 (yh (1+i))) (Int.ofNat_lt.2 J)) (i0 _ hR) (i26 _ hR) (inR (show ra<R3 by omega)) (by simp) (λh=>by cases h) _) λv t hv=>?_
  obtain⟨L4,n4,m4,R4,B4,rfl,a4,b4,c4,h4,f4,_⟩:=hv;refine xX ?_;refine xX ?_;exact⟨i+1,⟨_,L4,n4,_,R4,B4,rfl,rfl,V,V,V,V,V,V,J,J,J,J,h4,f3.trans f4⟩,J⟩
end
def PP:∀k a,WZ (k+1) a=WZ k a++[.ofNat (a+k)]
 |0,a=>rfl
 |k+1,a=>by
  have:=PP k (a+1);rw[WZ,this,WZ,yd,show a+1+k=a+(k+1) by omega]
def Z7:∀k a,(WZ k a).length=k
 |0,_=>rfl
 |k+1,a=>by simp only[WZ,yw,Z7 k]
def Au{R:Nat}:∀k a,a+k<=R->∀x∈WZ k a,InR R x
 |0,_,_,x,h=>by cases h
 |k+1,a,hR,x,h=>by
  simp only[WZ,zul]at h;rcases h with rfl|h
  .exact inR J
  .exact Au k (a+1) J x h
theorem Kp(Y k:Nat):usV Y false k=gSl 1 Y k:=by cases k<;>rfl
section
variable {O:Orc}(H:IsO O){K:MK}{e:Bool}{op:zq}{R B N u:Nat}{L:za}{n:Nat}
include H
def Kk{Y:Nat}{ul:zq}{q d l:Int}(h:MsO K e op R B N u L n)(hN:N<100000000)(hx:OpOk K.nf K.nc B q d i l ul)(hd:InR R d)(hu:List.length ul<=100/\∀x∈ul,InR R x)(hg:ul≠[]->∃xt,x3 L Y=some (.row 3 (xW wg ul) xt false))(h65:q≠.ofNat 65)(he:e2=true->q=.ofNat 68\/q=.ofNat 72){fx:Bool}(m:Nat):Cv (cl O 34 [.ptr K.mp 0,.agg [q,d,(0:Nat),(0:Nat),i,l,usV Y fx (List.length ul),.nils]] (KL L n m false)) (MsQ K e2 op R B (N+1) none L n m okU):=by
 have h0:InR R (.ofNat 0):=inR (by have:=h.R0;omega)
 refine(oX H h.top hN ⟨q,d,.ofNat 0,.ofNat 0,i,l,Y,fx,ul⟩ (op2:=op) (e2:=e2) ⟨hx,hd,h0,h0,hu⟩ hg (λhne=>by obtain⟨_,g⟩:=hg hne;exact h.wf.lt g) (by simp only[WX,x0 h65,zuc]) he m).mono λv t hv=>?_
 obtain⟨L1,n1,m1,R1,B1,rfl,q1,q2,q3,h1,f1,_⟩:=hv;exact⟨L1,n1,m1,R1,B1,rfl,q1,q2,q3,h1.top,f1,trivial⟩
attribute [local go_sem] wR wW in
def Hn{Y:Nat}{i0:Int}{l:zq}(h:MsO K e op R B N u L n)(hN:N<60000000)(hd:d<R)(hp:jO i0=.ofNat (List.length l))(hvw:IlV L w l Y off)(hl:List.length l<=4)(hr:∀x∈l,InR R x)(m:Nat):Cv (cl O 103 [.ptr K.mp 0,d,i0,w] (KL L n m false)) (MsQ K false op R B (N+10) none L n m okU):=by
 refine wp (F:=f103) (H.no _) rfl rfl (zv4 rfl) ?_;have hlen:=hvw.len;have hia:=hvw.ia;have hR0:=h.R0;have hw0:=h.wf;unfold f103 cF;simp only;refine xY ?_;refine xU (xU (xX ?_));apply x4;refine wq (λi:Nat=>zM l-i) (λi f t=>∃T L3 n3 m3 R3 B3 oid,f=⟨tmL T,[]⟩/\t=KL L3 n3 m3 false/\G T 0 (.ptr K.mp 0)/\G T 1 d/\G T 2 (.int .i64 i0)/\G T 8 (gSl 1 oid i)/\G T 11 w/\G T 12 (zM l)/\G T 13 i/\i<=zM l/\R<=R3/\B<=B3/\n<=n3/\MsO K false op R3 B3 (N+i) n L3 n3/\Fr2 L m L3 m3/\(WZ i 4≠[]->n<=oid/\x3 L3 oid=some (.row 3 (xW wg (WZ i 4)) true false))) (λi f t hI=>?_) 0 ⟨_,L,n,_,R,B,0,rfl,rfl,sW,sW,sW,by simp (disch:=first|exact dis|fail)only[go_sem,seval,-rO,-rN,gSl],sW,sW,sW,yh _,zS _,zS _,zS _,h.top.weak (zS _),Fr2.refl _ _,λh=>absurd rfl h⟩
 clear h;obtain⟨T,L3,n3,m3,R3,B3,oid,rfl,rfl,t0,t1,t2,t8,t11,t12,t13,hi,hR,hB,hn,h3,f3,hg⟩:=hI;rcases wj l i with ⟨hlt,hd2⟩|⟨a,hlt,hd2⟩
 .have hni:¬i<zM l:=J;have hil:i=zM l:=J;subst hil;have hsc:=vU 1 oid (zM l);have hpu:=λm=>Kk H h3 J (e2:=false) (q:=.ofNat 67) (d:=.ofNat 4) (i:=i0) (l:=.ofNat 0) (fx:=false) (Y:=oid) (ul:=WZ (zM l) 4) (.call hp) (inR J) ⟨by rw[Z7];omega,Au _ _ J⟩ (λhne=>⟨_,(hg hne).2⟩) (by simp) (λh=>by cases h) m
  simp only[Z7,Kp]at hpu;simp only[vV]at hsc;clear hd2 hia hg;refine xX ?_;refine xU (wi ?_);refine xZ (hpu _) λv t hv=>?_;obtain⟨L4,n4,m4,R4,B4,rfl,a4,b4,c4,h4,f4,_⟩:=hv;clear hpu;refine xX ?_;refine wi ?_;refine xZ (ki H h4 J (show d<R4 by omega) (show 4<R4 by omega) _) λv t hv=>?_
  obtain⟨L5,n5,m5,R5,B5,rfl,a5,b5,c5,h5,f5,_⟩:=hv;refine ev_zc ?_;exact⟨L5,n5,m5,R5,B5,rfl,J,J,J,h5.top.weak J,f3.trans (f4.trans f5),trivial⟩
 .obtain⟨cs,x,g,hgc,hcs⟩:=(hvw.fr f3).row λe=>by rw[e]at hlt;simp at hlt
  have hc:=hcs i a _ hd2;have hia2:=hia i hlt;obtain⟨ra,rfl,hra⟩:=hr a (zv9 (by rw[hd2];exact zua))
  clear hd2 hia hcs;refine xY ?_;refine xU (wV sW ?_);refine xX ?_;refine xU (x4 ?_);refine xY ?_;refine xU (wi ?_);refine xZ (ki H h3 J (show 4+i<R3 by omega) (show ra<R3 by omega) _) λv t hv=>?_
  obtain⟨L4,n4,m4,R4,B4,rfl,a4,b4,c4,h4,f4,_⟩:=hv;have hg4:WZ i 4≠[]->n<=oid/\x3 L4 oid=some (.row 3 (xW wg (WZ i 4)) true false):=λhne=>⟨(hg hne).1,(f4 _ _ (hg hne).2 rfl).1⟩;have hw4:=h4.wf;have hap:=λm=>EH (t:=3) (bytes:=8) (f:=wg) (Y:=oid) (m:=m) (vs:=WZ i 4) (w:=.ofNat (4+i)) (y:=.sl n4 0 1 (.fix 1)) (L:=(n4,some (.row 3 [.int .i64 (.ofNat (4+i))]))::L4) (n:=n4+1) qm vq J (λhne=>by
   have:=hw4.lt (hg4 hne).2;exact⟨J,by rw[gN J];exact(hg4 hne).2⟩) ((hw4.up (zuC _)).same (yx _)) rfl (j7 (j:=0) (by rw[wM,x8];rfl) rfl).2 (by rw[Z7];omega) (by rw[Z7];omega)
  simp only[Z7,<-PP]at hap;clear hg hc;refine xX ?_;refine wi ?_;refine xZ (hap _) λv t hv=>?_;obtain⟨L7,m7,rfl,rfl,g7,hw7,hf7⟩:=hv;obtain⟨h7,f7⟩:=h4.own (lo:=n) (m3:=m4) hw7 (zS _) (λhne=>⟨(hg4 hne).1,_,_,_,(hg4 hne).2⟩) λj hj hne=>by
   have:=hf7 j J hne;rw[gN J]at this;exact this
  have f8:=f7 _ _ (f3.trans f4) hw0;clear hf7 hg4 f7 hw4 hap;refine xX ?_;refine xX ?_;exact⟨i+1,⟨_,L7,n4+1+1,_,R4,B4,n4+1,rfl,rfl,V,V,V,V,V,V,V,J,J,J,J,h7.weak J,f8,λ_=>⟨J,g7⟩⟩,J⟩
end
def YX{j:Nat}(h:m.testBit j=Nat.testBit 0 j)(n:Nat):m%2^n/2^j%2=0:=by
 have:(m%2^n).testBit j=false:=by rw[Nat.testBit_mod_two_pow,h,zuN,Bool.and_false]
 rw[Nat.testBit_eq_decide_div_mod_eq]at this;have h2:=of_decide_eq_false this;have:=Nat.mod_lt (m%2^n/2^j) (show 0<2 by decide)
 omega
def nW{j:Nat}(h:j<a):hid (bif decide (a=b)then []else [(a,b)]) j=false:=by
 by_cases e:a=b
 .rw[qp e];rfl
 .rw[qb e];have:Nat.ble a j=false:=by cases hb:Nat.ble a j with
   |false=>rfl
   |true=>exact absurd (wB.1 hb) J
  simp only[wh,hid,this]
def Fr2.or{L1:za}{m1:Nat}(h:Fr2 L m L1 m1)(g:Fr2 L1 0 L2 m2):Fr2 L m L2 (m1|||m2):=λj o h1 h2=>
 have ⟨q1,q2⟩:=h j o h1 h2;have ⟨q3,q4⟩:=g j o q1 h2
 ⟨q3,by rw[Nat.testBit_or,q2,q4,zuN,Bool.or_false]⟩
def EC(O:Orc)(K:MK)(op op2:zq)(R N c u l:Nat)(L:za)(m f:Nat)(caps:zt):Prop:=∀L1 n1 m1 R1 B1,R<=R1->l<B1->MsO K false op R1 B1 N u L1 n1->Fr2 L m L1 m1->Cv (cl O f (.int .i64 (.ofNat l)::caps) (KL L1 n1 m1 false)) (MsQ K false op2 R1 B1 (N+c) (some u) L1 n1 m1 okU)
section
variable {O:Orc}(H:IsO O){K:MK}{e:Bool}{op:zq}{R B N u:Nat}{L:za}{n:Nat}
include H
def Wj{c:Nat}{caps:zt}(h:MsO K e op R B N u L n)(hN:N+c<60000000)(hd:d<R)(m:Nat)(ht:EC O K (.ofNat B::op) (.ofNat B::op2) R (N+2) c u B L m f caps):Cv (cl O 90 [.ptr K.mp 0,d,.fn f [] caps] (KL L n m false)) (MsQ K false op2 R B (N+c+4) (some u) L n m okU):=by
 refine wp (F:=f90) (H.no _) rfl rfl (zv4 rfl) ?_;unfold f90 cF;simp only;refine xU (wi ?_);refine xZ (VP (H.no _) h J _) λv t hv=>?_;obtain⟨L1,m1,rfl,rfl,h1,f1⟩:=hv;refine xX ?_;refine xU (wi ?_);refine xZ (gH H h1 J hd _) λv t hv=>?_;obtain⟨L2,n2,m2,R2,B2,rfl,a2,b2,c2,h2,f2,_⟩:=hv;refine xX ?_;refine xU (wi ?_);refine xZ (ht L2 n2 m2 R2 B2 a2 J h2 (f1.trans f2)) λv t hv=>?_;obtain⟨L3,n3,m3,R3,B3,rfl,a3,b3,c3,h3,f3,_⟩:=hv;refine xX ?_;refine xU (wi ?_);refine xZ (gH H h3 J (show d<R3 by omega) _) λv t hv=>?_
 obtain⟨L4,n4,m4,R4,B4,rfl,a4,b4,c4,h4,f4,_⟩:=hv;refine xX ?_;refine wi ?_;refine xZ (VN H h4 J _) λv t hv=>?_;obtain⟨L5,n5,m5,R5,B5,rfl,a5,b5,c5,h5,f5,_⟩:=hv;refine ev_zc ?_;exact⟨L5,n5,m5,R5,B5,rfl,J,J,J,h5.weak J,f1.trans (f2.trans (f3.trans (f4.trans f5))),trivial⟩
def eO{v0 l b1 b2 b3:Nat}(g1:x3 L b1=some (.row 71 [.ptr K.mp 0]))(g2:x3 L b2=some (.row 3 [v0]))(g3:x3 L b3=some (.row 3 [y]))(h:MsO K e (.ofNat l::.ofNat y::op) R B N u L n)(hN:N<60000000)(hv:v0<R)(m:Nat):Cv (cl O 131 [l,.ptr b1 0,.ptr b2 0,.ptr b3 0] (KL L n m false)) (MsQ K false (.ofNat l::op) R B (N+20) (some u) L n m okU):=by
 refine wp (F:=f131) (H.no _) rfl rfl (zv4 rfl) ?_;have n1:=h.wf.lt g1;have n2:=h.wf.lt g2;have n3:=h.wf.lt g3
 unfold f131 cF;simp only;refine xU (wi ?_);refine w7 (lp H h J (.inr (.inl ⟨by simp,by decide,by decide⟩)) hv _) λv t hv=>?_
 obtain⟨L1,n1',m1,R1,B1,rfl,a1,b1',c1,h1,f1,r1,rfl,hr1⟩:=hv;have p1:=f1 _ _ g1 rfl;have p2:=f1 _ _ g2 rfl;have p3:=f1 _ _ g3 rfl;have hyB:=h.ltn (k:=y) (by simp)
 have e1:=YX p1.2;have e3:=YX p3.2;have hh:=λj (hj:j<n)=>nW (b:=n1') hj;replace p1:=p1.1;replace p2:=p2.1;replace p3:=p3.1;refine wi ?_;refine w7 (kc H h1 J (q:=.ofNat 26) (by simp) hr1 (show 0<R1 by have:=h1.R0;omega) (show y<B1 by omega) _) λv t hv=>?_
 obtain⟨L2,n2',m2,R2,B2,rfl,a2,b2',c2,h2,f2,_⟩:=hv;have s1:=(f2 _ _ p1 rfl).1;have s2:=(f2 _ _ p2 rfl).1;have s3:=(f2 _ _ p3 rfl).1;clear p1 p2 p3 g1 g2 g3 e1 e3 hh;refine xX ?_;refine xU (wi ?_);refine xZ (hJ H h2 J (show v0<R2 by omega) (show 7<8 by omega) (h2.ltn (k:=l) (by simp)) _) λv t hv=>?_
 obtain⟨L3,n3',m3,R3,B3,rfl,a3,b3',c3,h3,f3,_⟩:=hv;have u1:=(f3 _ _ s1 rfl).1;have u3:=(f3 _ _ s3 rfl).1;clear s1 s2 s3;refine xX ?_;refine wi ?_;refine xZ (VN H (h3.perm (zv2 _ _ _)) J _) λv t hv=>?_;obtain⟨L4,n4',m4,R4,B4,rfl,a4,b4',c4,h4,f4,_⟩:=hv;refine ev_zc ?_;exact⟨L4,n4',m4,R4,B4,rfl,J,J,J,h4.weak J,(((Fr2.refl L m).or f1).or f2).trans (f3.trans f4),trivial⟩
def nX{v0:Nat}(h:MsO K e op R B N u L n)(hN:N<50000000)(hd:d<R)(hv:v0<R)(m:Nat):Cv (cl O 92 [.ptr K.mp 0,d,v0] (KL L n m false)) (MsQ K false op R B (N+30) (some u) L n m okU):=by
 refine wp (F:=f92) (H.no _) rfl rfl (zv4 rfl) ?_;have hw:=h.wf;unfold f92 cF;simp only;refine xY ?_;have h0:=λo1 o2=>h.up (L2:=(n+1,o2)::(n,o1)::L) (n2:=n+1+1) (((hw.up J).same J).same J) (Oth.same λj hj=>by (repeat rw[gN J]))
 have f0:=λo1 o2=>Fr2.new (m:=m) hw (L2:=(n+1,o2)::(n,o1)::L) λj hj=>by (repeat rw[gN J])
 refine xU (wi ?_);refine xZ (VP (H.no _) (h0 _ _) J _) λv t hv=>?_;obtain⟨L1,m1,rfl,rfl,h1,f1⟩:=hv;have g1:=(f1 n _ (by rw[gN J,x8]) rfl).1
 have g2:=(f1 (n+1) _ (x8 _ _ _) rfl).1;have hw1:=h1.wf;refine xX ?_;have h2:=λo1 o2=>h1.up (L2:=(n+1+1,o2)::(n+1+1,o1)::L1) (n2:=n+1+1+1) (((hw1.up J).same J).same J) (Oth.same λj hj=>by (repeat rw[gN J]))
 have f2:=λo1 o2=>Fr2.newm (m:=m1) (m2:=m1|||1<<<(n+1+1)) hw1 (L2:=(n+1+1,o2)::(n+1+1,o1)::L1) (λj hj=>by (repeat rw[gN J])) λj hj=>vm J
 refine wi ?_;refine xZ (Wj H (c:=20) (h2 _ _) J hd _ (op2:=op) λL3 n3 m3 R3 B3 hR hB h3 f3=>?_) λv t hv=>?_
 .have k1:=(f3 n _ (by (repeat rw[gN J]);exact g1) rfl).1
  have k2:=(f3 (n+1) _ (by (repeat rw[gN J]);exact g2) rfl).1
  have k3:=(f3 (n+1+1) _ (x8 _ _ _) rfl).1;exact eO H k1 k2 k3 h3 J J _
 obtain⟨L4,n4,m4,R4,B4,rfl,a4,b4,c4,h4,f4,_⟩:=hv;refine ev_zc ?_;exact⟨L4,n4,m4,R4,B4,rfl,J,J,J,h4.weak J,(f0 _ _).trans (f1.trans ((f2 _ _).trans f4)),trivial⟩
end
def IlV.one{x:Int}{Y:Nat}(h:IlV L w (x::l) Y off):vIa 1 w (.int .i64 (.ofNat 0))=some (.ptr Y off)/\∃cs t f,x3 L Y=some (.row 3 cs t f)/\wE 1 (wX off cs)=some [.int .i64 x]:=by
 obtain⟨cs,t,f,h1,h2⟩:=h.row (by simp)
 exact⟨h.ia 0 (by simp),cs,t,f,h1,h2 0 x l rfl⟩
def IlV.two{x y:Int}{Y:Nat}(h:IlV L w (x::y::l) Y off):vIa 1 w (.int .i64 (.ofNat 0))=some (.ptr Y off)/\vIa 1 w (.int .i64 (.ofNat 1))=some (.ptr Y (off+1))/\∃cs t f,x3 L Y=some (.row 3 cs t f)/\wE 1 (wX off cs)=some [.int .i64 x]/\wE 1 (wX (off+1) cs)=some [.int .i64 y]:=by
 obtain⟨cs,t,f,h1,h2⟩:=h.row (by simp)
 exact⟨h.ia 0 (by simp),h.ia 1 (by simp),cs,t,f,h1,h2 0 x _ rfl,h2 1 y l rfl⟩
section
variable {O:Orc}(H:IsO O){K:MK}{e:Bool}{op:zq}{R B N u:Nat}{L:za}{n:Nat}
include H
def O0{x s Y:Nat}{q:Int}(h:MsO K e op R B N u L n)(hN:N<50000000)(hd:d<R)(hq:q=.ofNat 1\/q=.ofNat 2)(hvw:IlV L w (.ofNat x::.ofNat y::l) Y off)(hx:x<R)(hy:y<R)(hs:s<B)(m:Nat):Cv ((evW env O).call 96 [.ptr K.mp 0,.int .i64 (.ofNat d),.int .i64 q,w,.int .i64 (.ofNat s)] (KL L n m false)) (MsQ K false op R B (N+12) (some u) L n m okU):=by
 refine wp (F:=f96) (H.no _) rfl rfl (zv4 rfl) ?_;have hq2:q∈[z6 1,.ofNat 2,.ofNat 7,.ofNat 8,.ofNat 9]:=by rcases hq with rfl|rfl<;>simp
 have hR0:=h.R0;unfold f96 cF;simp only;obtain⟨i0,i1,cs,t,f,g0,c0,c1⟩:=hvw.two;refine xU (wi ?_);refine w7 (Yc H h J hq2 hx hy _) λv t hv=>?_;obtain⟨L1,n1,m1,R1,B1,rfl,a1,b1,d1,h1,f1,r1,rfl,e1⟩:=hv;replace g0:=(f1 _ _ g0 rfl).1;refine xX ?_;refine xU (wi ?_);refine xZ (Yc H h1 J (q:=.ofNat 9) (by simp) e1 (show x<R1 by omega) _) λv t hv=>?_
 obtain⟨L2,n2,m2,R2,B2,rfl,a2,b2,d2,h2,f2,r2,rfl,e2⟩:=hv;replace g0:=(f2 _ _ g0 rfl).1;have f12:=((Fr2.refl L m).or f1).trans f2;clear h h1;refine xX ?_;refine u6 (λf t=>∃T L3 n3 m3 R3 B3 r3,f=⟨tmL T,[]⟩/\t=KL L3 n3 m3 false/\(tmL T).get 0=some (.ptr K.mp 0)/\(tmL T).get 1=some (.int .i64 (.ofNat d))/\(tmL T).get 4=some (.int .i64 (.ofNat s))/\(tmL T).get 10=some (.int .i64 (.ofNat r1))/\(tmL T).get 11=some (.int .i64 (.ofNat r2))/\(tmL T).get 12=some (.int .i64 (.ofNat r3))/\r3<R3/\R2<=R3/\B2<=B3/\n2<=n3/\MsO K false op R3 B3 (N+6) u L3 n3/\Fr2 L m L3 m3) ?_ λf t hI=>?_
 .rcases hq with rfl|rfl
  .refine xU (xX ?_);refine wV sW ?_;refine wi ?_;refine xZ (Yc H h2 J (q:=.ofNat 9) (by simp) (show r1<R2 by omega) (show y<R2 by omega) _) λv t hv=>?_
   obtain⟨L3,n3,m3,R3,B3,rfl,a3,b3,d3,h3,f3,r3,rfl,e3⟩:=hv;refine xX ?_;exact⟨_,L3,n3,_,R3,B3,r3,rfl,rfl,sW,sW,sW,sW,sW,sW,e3,a3,b3,d3,h3,f12.trans f3⟩
  .refine xU (xX ?_);refine wY sW ?_;refine wi ?_;refine w7 (Yc H h2 J (q:=.ofNat 9) (by simp) (show x<R2 by omega) (show y<R2 by omega) _) λv t hv=>?_
   obtain⟨L3,n3,m3,R3,B3,rfl,a3,b3,d3,h3,f3,r3,rfl,e3⟩:=hv;refine xX ?_;exact⟨_,L3,n3,_,R3,B3,r3,rfl,rfl,sW,sW,sW,sW,sW,sW,e3,a3,b3,d3,h3,f12.or f3⟩
 .clear h2 g0 f12 hvw;obtain⟨T,L3,n3,m3,R3,B3,r3,rfl,rfl,t0,t1,t4,t10,t11,t12,e3,a3,b3,d3,h3,f3⟩:=hI;refine xU (wi ?_);refine xZ (Yc H h3 J (q:=.ofNat 7) (by simp) (show r2<R3 by omega) e3 _) λv t hv=>?_
  obtain⟨L4,n4,m4,R4,B4,rfl,a4,b4,d4,h4,f4,r4,rfl,e4⟩:=hv;refine wi ?_;refine xZ (kc H h4 J (q:=.ofNat 28) (by simp) e4 (show 0<R4 by omega) (show s<B4 by omega) _) λv t hv=>?_
  obtain⟨L5,n5,m5,R5,B5,rfl,a5,b5,d5,h5,f5,_⟩:=hv;refine xX ?_;refine wi ?_;refine xZ (ki H h5 J (show d<R5 by omega) (show r1<R5 by omega) _) λv t hv=>?_
  obtain⟨L6,n6,m6,R6,B6,rfl,a6,b6,d6,h6,f6,_⟩:=hv;refine xX ?_;refine qz ?_;exact⟨L6,n6,m6,R6,B6,rfl,J,J,J,h6.weak J,f3.trans (f4.trans (f5.trans f6)),trivial⟩
end
section
variable {O:Orc}(H:IsO O){K:MK}{e:Bool}{op:zq}{R B N u:Nat}{L:za}{n:Nat}{b1 b2 b3 Y off:Nat}{w:Z}{x y l:Nat}{r:zq}
include H
def ax{q:Int}(g1:x3 L b1=some (.row 71 [.ptr K.mp 0]))(g2:x3 L b2=some (.row 3 [q]))(g3:x3 L b3=some (.row 36 [w]))(hvw:IlV L w (.ofNat x::.ofNat y::r) Y off)(h:MsO K e op R B N u L n)(hN:N<60000000)(hq:q∈[Int.ofNat 26,.ofNat 27,.ofNat 28,.ofNat 29])(hx:x<R)(hy:y<R)(hl:l<B)(m:Nat):Cv (cl O 134 [l,.ptr b1 0,.ptr b2 0,.ptr b3 0] (KL L n m false)) (MsQ K false op R B (N+1) (some u) L n m okU):=by
 refine wp (F:=f134) (H.no _) rfl rfl (zv4 rfl) ?_;obtain⟨i0,i1,cs,t,f,g0,c0,c1⟩:=hvw.two;unfold f134 cF;simp only;refine wi ?_;refine w7 (kc H h J hq hx hy hl _) λv t hv=>?_;obtain⟨L1,n1,m1,R1,B1,rfl,a1,b1',d1,h1,f1,_⟩:=hv;refine ev_zc ?_;exact⟨L1,n1,_,R1,B1,rfl,a1,b1',d1,h1,(Fr2.refl L m).or f1,trivial⟩
def NO(g1:x3 L b1=some (.row 71 [.ptr K.mp 0]))(g2:x3 L b2=some (.row 36 [w]))(hvw:IlV L w (.ofNat x::.ofNat y::r) Y off)(h:MsO K e op R B N u L n)(hN:N<60000000)(hx:x<R)(hy:y<R)(hl:l<B)(m:Nat):Cv (cl O 91 [l,.ptr b1 0,.ptr b2 0] (KL L n m false)) (MsQ K false op R B (N+1) (some u) L n m okU):=by
 refine wp (F:=f91) (H.no _) rfl rfl (zv4 rfl) ?_;obtain⟨i0,i1,cs,t,f,g0,c0,c1⟩:=hvw.two;unfold f91 cF;simp only;refine wi ?_;refine w7 (kc H h J (q:=.ofNat 27) (by simp) hx hy hl _) λv t hv=>?_
 obtain⟨L1,n1,m1,R1,B1,rfl,a1,b1',d1,h1,f1,_⟩:=hv;refine ev_zc ?_;exact⟨L1,n1,_,R1,B1,rfl,a1,b1',d1,h1,(Fr2.refl L m).or f1,trivial⟩
def NP(g1:x3 L b1=some (.row 71 [.ptr K.mp 0]))(g2:x3 L b2=some (.row 36 [w]))(hvw:IlV L w (.ofNat x::r) Y off)(h:MsO K e op R B N u L n)(hN:N<60000000)(hx:x<R)(hl:l<B)(m:Nat):Cv (cl O 93 [l,.ptr b1 0,.ptr b2 0] (KL L n m false)) (MsQ K false op R B (N+5) (some u) L n m okU):=by
 refine wp (F:=f93) (H.no _) rfl rfl (zv4 rfl) ?_;obtain⟨i0,cs,t,f,g0,c0⟩:=hvw.one;have z1:=h.wf.lt g1;have hR0:=h.R0;unfold f93 cF;simp only;refine wi ?_;refine w7 (lp H h J (.inr (.inl ⟨by simp,by decide,by decide⟩)) hx _) λv t hv=>?_
 obtain⟨L1,n1,m1,R1,B1,rfl,a1,b1',d1,h1,f1,r1,rfl,e1⟩:=hv;obtain⟨p1,p2⟩:=f1 _ _ g1 rfl;have e3:=YX p2;have hh:=nW (b:=n1) z1;clear g1 p2;refine wi ?_;refine w7 (lp H h1 J (a:=0) (q:=.ofNat 15) (i:=.ofNat 2) (.inl ⟨rfl,by decide,by decide⟩) J _) λv t hv=>?_
 obtain⟨L2,n2,m2,R2,B2,rfl,a2,b2',d2,h2,f2,r2,rfl,e2⟩:=hv;have e4:=YX (f2 _ _ p1 rfl).2;refine wi ?_;refine w7 (kc H h2 J (q:=.ofNat 27) (by simp) (show r1<R2 by omega) e2 (show l<B2 by omega) _) λv t hv=>?_
 obtain⟨L3,n3,m3,R3,B3,rfl,a3,b3',d3,h3,f3,_⟩:=hv;refine ev_zc ?_;exact⟨L3,n3,_,R3,B3,rfl,J,J,J,h3,(((Fr2.refl L m).or f1).or f2).or f3,trivial⟩
def NQ(g1:x3 L b1=some (.row 71 [.ptr K.mp 0]))(g2:x3 L b2=some (.row 36 [w]))(g3:x3 L b3=some (.row 3 [k]))(hvw:IlV L w (.ofNat x::r) Y off)(h:MsO K e op R B N u L n)(hN:N<60000000)(hx:x<R)(hk:k<8)(hl:l<B)(m:Nat):Cv (cl O 102 [l,.ptr b1 0,.ptr b2 0,.ptr b3 0] (KL L n m false)) (MsQ K false op R B (N+14) (some u) L n m okU):=by
 refine wp (F:=f102) (H.no _) rfl rfl (zv4 rfl) ?_;obtain⟨i0,cs,t,f,g0,c0⟩:=hvw.one;unfold f102 cF;simp only;refine wi ?_;refine w7 (hJ H h J hx hk hl _) λv t hv=>?_;obtain⟨L1,n1,m1,R1,B1,rfl,a1,b1',d1,h1,f1,_⟩:=hv;refine ev_zc ?_;exact⟨L1,n1,_,R1,B1,rfl,a1,b1',d1,h1,(Fr2.refl L m).or f1,trivial⟩
def fL(g1:x3 L b1=some (.row 71 [.ptr K.mp 0]))(g2:x3 L b2=some (.row 3 [d]))(g3:x3 L b3=some (.row 36 [w]))(hvw:IlV L w (.ofNat x::.ofNat y::r) Y off)(h:MsO K e op R B N u L n)(hN:N<40000000)(hd:d<R)(hx:x<R)(hy:y<R)(hl:l<B)(m:Nat):Cv (cl O 95 [l,.ptr b1 0,.ptr b2 0,.ptr b3 0] (KL L n m false)) (MsQ K false op R B (N+12) (some u) L n m okU)/\Cv (cl O 97 [l,.ptr b1 0,.ptr b2 0,.ptr b3 0] (KL L n m false)) (MsQ K false op R B (N+12) (some u) L n m okU):=by
 constructor
 .refine wp (F:=f95) (H.no _) rfl rfl (zv4 rfl) ?_;unfold f95 cF;simp only;refine wi ?_;refine xZ (O0 H h J hd (.inl rfl) hvw hx hy hl _) λv t hv=>?_;obtain⟨L1,n1,m1,R1,B1,rfl,a1,b1',d1,h1,f1,_⟩:=hv;refine ev_zc ?_;exact⟨L1,n1,_,R1,B1,rfl,a1,b1',d1,h1,f1,trivial⟩
 .refine wp (F:=f97) (H.no _) rfl rfl (zv4 rfl) ?_;unfold f97 cF;simp only;refine wi ?_;refine xZ (O0 H h J hd (.inr rfl) hvw hx hy hl _) λv t hv=>?_;obtain⟨L1,n1,m1,R1,B1,rfl,a1,b1',d1,h1,f1,_⟩:=hv;refine ev_zc ?_;exact⟨L1,n1,_,R1,B1,rfl,a1,b1',d1,h1,f1,trivial⟩
def Jv{q:Int}(h:MsO K e op R B N u L n)(hN:N<50000000)(hd:d<R)(hq:q∈[Int.ofNat 26,.ofNat 27,.ofNat 28,.ofNat 29])(hvw:IlV L w (.ofNat x::.ofNat y::r) Y off)(hx:x<R)(hy:y<R)(m:Nat):Cv (cl O 99 [.ptr K.mp 0,d,q,w] (KL L n m false)) (MsQ K false op R B (N+5) (some u) L n m okU):=by
 refine wp (F:=f99) (H.no _) rfl rfl (zv4 rfl) ?_;have hw:=h.wf;have hwc:=hvw.cl;have h0:=λo1 o2 o3=>h.up (L2:=(n+1+1,o3)::(n+1,o2)::(n,o1)::L) (n2:=n+1+1+1) ((((hw.up J).same J).same J).same J) (Oth.same λj hj=>by (repeat rw[gN J]))
 have f0:=λo1 o2 o3=>Fr2.new (m:=m) hw (L2:=(n+1+1,o3)::(n+1,o2)::(n,o1)::L) λj hj=>by (repeat rw[gN J])
 unfold f99 cF;simp only;refine xY ?_;refine wi ?_;refine xZ (Wj H (c:=1) (h0 _ _ _) J hd _ (op2:=op) λL3 n3 m3 R3 B3 hR hB h3 f3=>?_) λv t hv=>?_
 .have k1:=(f3 n _ (by (repeat first|exact x8 _ _ _|rw[gN J])) rfl).1
  have k2:=(f3 (n+1) _ (by (repeat first|exact x8 _ _ _|rw[gN J])) rfl).1
  have k3:=(f3 (n+1+1) _ (x8 _ _ _) rfl).1;exact ax H k1 k2 k3 ((hvw.fr (f0 _ _ _)).fr f3) h3 J hq J J hB _
 obtain⟨L4,n4,m4,R4,B4,rfl,a4,b4,c4,h4,f4,_⟩:=hv;refine ev_zc ?_;exact⟨L4,n4,m4,R4,B4,rfl,J,J,J,h4.weak J,(f0 _ _ _).trans f4,trivial⟩
def fM(g1:x3 L b1=some (.row 71 [.ptr K.mp 0]))(g2:x3 L b2=some (.row 3 [d]))(g3:x3 L b3=some (.row 36 [w]))(hvw:IlV L w (.ofNat x::.ofNat y::r) Y off)(h:MsO K e op R B N u L n)(hN:N<40000000)(hd:d<R)(hx:x<R)(hy:y<R)(m:Nat):Cv (cl O 98 [l,.ptr b1 0,.ptr b2 0,.ptr b3 0] (KL L n m false)) (MsQ K false op R B (N+12) (some u) L n m okU)/\Cv (cl O 100 [l,.ptr b1 0,.ptr b2 0,.ptr b3 0] (KL L n m false)) (MsQ K false op R B (N+12) (some u) L n m okU):=by
 constructor
 .refine wp (F:=f98) (H.no _) rfl rfl (zv4 rfl) ?_;unfold f98 cF;simp only;refine wi ?_;refine xZ (Jv H h J hd (q:=.ofNat 27) (by simp) hvw hx hy _) λv t hv=>?_
  obtain⟨L1,n1,m1,R1,B1,rfl,a1,b1',d1,h1,f1,_⟩:=hv;refine ev_zc ?_;exact⟨L1,n1,_,R1,B1,rfl,a1,b1',d1,h1.weak J,f1,trivial⟩
 .refine wp (F:=f100) (H.no _) rfl rfl (zv4 rfl) ?_;unfold f100 cF;simp only;refine wi ?_;refine xZ (Jv H h J hd (q:=.ofNat 29) (by simp) hvw hx hy _) λv t hv=>?_
  obtain⟨L1,n1,m1,R1,B1,rfl,a1,b1',d1,h1,f1,_⟩:=hv;refine ev_zc ?_;exact⟨L1,n1,_,R1,B1,rfl,a1,b1',d1,h1.weak J,f1,trivial⟩
end
def eqT{a b:Int}:eqD a b=true↔a=b:=by unfold eqD;exact decide_eq_true_iff
def Wk{l:zq}(h:List.length l=2)(hr:∀x∈l,InR R x):∃x y,l=[.ofNat x,.ofNat y]/\x<R/\y<R:=by
 rcases l with _|⟨a,_|⟨b,_|⟨c,r⟩⟩⟩
 .cases h
 .cases h
 .obtain⟨x,rfl,hx⟩:=hr a (by simp)
  obtain⟨y,rfl,hy⟩:=hr b (by simp)
  exact⟨x,y,rfl,hx,hy⟩
 .simp at h
def YF{l:zq}(h:1<=List.length l)(hr:∀x∈l,InR R x):∃x r,l=.ofNat x::r/\x<R:=by
 rcases l with _|⟨a,r⟩
 .cases h
 .obtain⟨x,rfl,hx⟩:=hr a (by simp)
  exact⟨x,r,rfl,hx⟩
section
variable {O:Orc}(H:IsO O){K:MK}{e:Bool}{op:zq}{R B N u:Nat}{L:za}{n:Nat}
include H
def Kb{c x Y:Nat}{q:Int}{caps:zt}(h:MsO K e op R B N u L n)(hN:N+c<50000000)(hd:d<R)(hq:jO q=.ofNat 2)(hvw:IlV L w [.ofNat x,.ofNat y] Y off)(hx:x<R)(hy:y<R)(m:Nat)(ht:EC O K (.ofNat (B+1)::.ofNat B::op) (.ofNat (B+1)::.ofNat B::op) R (N+7) c u B L m f caps):Cv (cl O 94 [.ptr K.mp 0,d,q,w,.fn f [] caps] (KL L n m false)) (MsQ K false op R B (N+c+20) none L n m okU):=by
 refine wp (F:=f94) (H.no _) rfl rfl (zv4 rfl) ?_;have hR0:=h.R0;unfold f94 cF;simp only;obtain⟨i0,i1,cs,t,fz,g0,c0,c1⟩:=hvw.two;refine xU (wi ?_);refine xZ (VP (H.no _) h J _) λv t hv=>?_;obtain⟨L1,m1,rfl,rfl,h1,f1⟩:=hv;refine wi ?_;refine xZ (VP (H.no _) h1 J _) λv t hv=>?_;obtain⟨L2,m2,rfl,rfl,h2,f2⟩:=hv;replace g0:=(f2 _ _ (f1 _ _ g0 rfl).1 rfl).1;refine xX ?_;refine xU (wi ?_);refine w7 (Yc H h2 J (q:=.ofNat 8) (by simp) hx hy _) λv t hv=>?_
 obtain⟨L3,n3,m3,R3,B3,rfl,a3,b3,d3,h3,f3,r3,rfl,e3⟩:=hv;have f03:=(f1.trans f2).or f3;refine xX ?_;refine xU (wi ?_);refine xZ (lp H h3 J (q:=.ofNat 16) (i:=.ofNat 3) (.inr (.inl ⟨by simp,by decide,by decide⟩)) e3 _) λv t hv=>?_
 obtain⟨L4,n4,m4,R4,B4,rfl,a4,b4,d4,h4,f4,r4,rfl,e4⟩:=hv;refine wi ?_;refine xZ (kc H h4 J (q:=.ofNat 27) (by simp) e4 (show 0<R4 by omega) (show B<B4 by omega) _) λv t hv=>?_
 obtain⟨L5,n5,m5,R5,B5,rfl,a5,b5,d5,h5,f5,_⟩:=hv;have f05:=f03.trans (f4.trans f5);refine xX ?_;refine xU (wi ?_);refine xZ (ht L5 n5 _ R5 B5 J J h5 f05) λv t hv=>?_;obtain⟨L6,n6,m6,R6,B6,rfl,a6,b6,d6,h6,f6,_⟩:=hv;refine xX ?_;refine xU (wi ?_);refine xZ (Ty H h6 J (show B+1<B6 by omega) _) λv t hv=>?_
 obtain⟨L7,n7,m7,R7,B7,rfl,a7,b7,d7,h7,f7,_⟩:=hv;refine xX ?_;refine xU (wi ?_);refine xZ (VN H (h7.perm (zv2 _ _ _)) J _) λv t hv=>?_;obtain⟨L8,n8,m8,R8,B8,rfl,a8,b8,d8,h8,f8,_⟩:=hv;have f08:=f05.trans (f6.trans (f7.trans f8));refine xX ?_;refine xU (wi ?_);refine xZ (Hn H h8 J (show d<R8 by omega) hq (hvw.fr f08) (by simp) (λz hz=>by
  simp only[zul,List.not_mem_nil,or_false]at hz;rcases hz with rfl|rfl<;>exact inR J) _) λv t hv=>?_
 obtain⟨L9,n9,m9,R9,B9,rfl,a9,b9,d9,h9,f9,_⟩:=hv;refine xX ?_;refine wi ?_;refine xZ (VN H h9 J _) λv t hv=>?_;obtain⟨LA,nA,mA,RA,BA,rfl,aA,bA,dA,hA,fA,_⟩:=hv;refine ev_zc ?_;exact⟨LA,nA,mA,RA,BA,rfl,J,J,J,hA.top.weak J,f08.trans (f9.trans fA),trivial⟩
def CC(q:Int)(m:Nat)(b:Bool):Cv (cl O 101 [q] (KL L n m b)) λv t=>t=KL L n m b/\(v=.int .i64 (.negSucc 0)\/∃k,v=.int .i64 (.ofNat k)/\k<8/\jO q=.ofNat 1):=by
 refine vf (F:=f101) (H.no _) rfl rfl (zv4 rfl) ?_;unfold f101 cF;simp only;refine xY ?_;cases c1:eqD q (.ofNat 1)with
 |true=>refine xX ?_;refine qz ?_;exact⟨rfl,.inr ⟨0,rfl,J,by rw[eqT.1 c1];rfl⟩⟩
 |false=>
 cases c2:eqD q (.ofNat 18)with
 |true=>refine xX ?_;refine qz ?_;exact⟨rfl,.inr ⟨4,rfl,J,by rw[eqT.1 c2];rfl⟩⟩
 |false=>
 cases c3:eqD q (.ofNat 23)with
 |true=>refine xX ?_;refine qz ?_;exact⟨rfl,.inr ⟨5,rfl,J,by rw[eqT.1 c3];rfl⟩⟩
 |false=>
 cases c4:eqD q (.ofNat 26)with
 |true=>refine xX ?_;refine qz ?_;exact⟨rfl,.inr ⟨1,rfl,J,by rw[eqT.1 c4];rfl⟩⟩
 |false=>
 cases c5:eqD q (.ofNat 31)with
 |true=>refine xX ?_;refine qz ?_;exact⟨rfl,.inr ⟨6,rfl,J,by rw[eqT.1 c5];rfl⟩⟩
 |false=>
 cases c6:eqD q (.ofNat 36)with
 |true=>refine xX ?_;refine qz ?_;exact⟨rfl,.inr ⟨2,rfl,J,by rw[eqT.1 c6];rfl⟩⟩
 |false=>refine xX ?_;refine qz ?_;exact⟨rfl,.inl rfl⟩
end
def NR{q:Int}(h:jO q=.ofNat k):k<=4:=by
 unfold jO at h;cases hb:wu q (.ofNat 42)with
 |false=>rw[hb]at h;cases h
 | true=>
  rw[hb,x6]at h;have key:∀x∈primL,x<=.ofNat 4:=by decide
  have h0:(0:Int)<=.ofNat 4:=by decide
  have:primL.getD q.toNat 0<=.ofNat 4:=by
   rw[xD];cases e:primL[q.toNat]? with
   |none=>exact h0
   |some x=>exact key x (xJ e)
  rw[h]at this;exact Int.ofNat_le.1 this
section
variable {O:Orc}(H:IsO O){K:MK}{e:Bool}{op:zq}{R B N u:Nat}{L:za}{n:Nat}
include H
def T6{Y:Nat}{q:Int}{l:zq}(h:MsO K e op R B N u L n)(hN:N<20000000)(hd:d<R)(hp:jO q=.ofNat (List.length l))(hvw:IlV L w l Y off)(hr:∀x∈l,InR R x)(m:Nat):Cv (cl O 56 [.ptr K.mp 0,q,d,w] (KL L n m false)) (MsQ K false op R B (N+140) none L n m okU):=by
 refine wp (F:=f56) (H.no _) rfl rfl (zv4 rfl) ?_;have hw:=h.wf;have hwc:=hvw.cl;have hl2:∀k,jO q=.ofNat k->zM l=k:=λk hk=>by rw[hk]at hp;exact(Int.ofNat.inj hp).symm
 obtain⟨L0,hL0⟩:∃L0,(n+1+1,some (AObj.row 36 [w]))::(n+1,some (AObj.row 3 [d]))::(n,some (AObj.row 71 [.ptr K.mp 0]))::L=L0:=⟨_,rfl⟩;have h0:MsO K e op R B N u L0 (n+1+1+1):=h.up (hL0▸(((hw.up J).same J).same J).same J) (Oth.same λj hj=>by rw[<-hL0];(repeat rw[gN J]))
 have f0:Fr2 L m L0 m:=Fr2.new hw λj hj=>by rw[<-hL0];(repeat rw[gN J])
 have k1:x3 L0 n=some (.row 71 [.ptr K.mp 0]):=by rw[<-hL0];(repeat first|exact x8 _ _ _|rw[gN J])
 have k2:x3 L0 (n+1)=some (.row 3 [d]):=by rw[<-hL0];(repeat first|exact x8 _ _ _|rw[gN J])
 have k3:x3 L0 (n+1+1)=some (.row 36 [w]):=by rw[<-hL0];exact x8 _ _ _
 have hv0:=hvw.fr f0;unfold f56 cF;simp only;refine xY ?_;clear hL0 hw hwc hvw h;refine xY ?_;apply x4;refine xY ?_;cases c0:eqD q (.ofNat 0)with
 |true=>
  have hq:=eqT.1 c0;subst hq;clear c0;refine wV V ?_;obtain⟨x,y,rfl,hx,hy⟩:=Wk (hl2 2 rfl) hr;refine wi ?_;refine xZ (Wj H (c:=1) h0 J hd _ (op2:=op) λL3 n3 m3 R3 B3 hR hB h3 f3=>?_) λv t hv=>?_
  .exact NO H (f3 _ _ k1 rfl).1 (f3 _ _ k3 rfl).1 (hv0.fr f3) h3 J J J hB _
  obtain⟨L4,n4,m4,R4,B4,rfl,a4,b4,c4,h4,f4,_⟩:=hv;refine ev_zc ?_;exact⟨L4,n4,_,R4,B4,rfl,J,J,J,h4.top.weak J,f0.trans f4,trivial⟩
 |false=>
 refine wY V ?_;refine xY ?_;cases c2:eqD q (.ofNat 2)with
 |true=>
  have hq:=eqT.1 c2;subst hq;clear c2;refine wV V ?_;refine wi ?_;refine xZ (WK H h0 J hd (show 0<8 by omega) hv0 (by rw[hl2 2 rfl];omega) hr _) λv t hv=>?_
  obtain⟨L4,n4,m4,R4,B4,rfl,a4,b4,c4,h4,f4,_⟩:=hv;refine ev_zc ?_;exact⟨L4,n4,_,R4,B4,rfl,J,J,J,h4.top.weak (by have:=hl2 2 rfl;omega),f0.trans f4,trivial⟩
 |false=>
 refine wY V ?_;refine xU (xU (xX ?_));cases c3:eqD q (.ofNat 3)with
 |true=>
  have hq:=eqT.1 c3;subst hq;clear c3;refine wV V ?_;refine xX ?_;refine wV V ?_;obtain⟨x,r,rfl,hx⟩:=YF (zuM (hl2 1 rfl).symm) hr;obtain⟨i0,cs,t,f,g0,c0⟩:=hv0.one;refine xU (wi ?_);refine w7 (Vw H h0 J (.inl rfl) _) λv t hv=>?_;obtain⟨L1,n1,m1,R1,B1,rfl,a1,b1,d1,h1,f1,lb,rfl,hlb⟩:=hv;obtain⟨j1,e1⟩:=f1 _ _ k1 rfl;obtain⟨j2,_⟩:=f1 _ _ k2 rfl;obtain⟨j3,e3⟩:=f1 _ _ k3 rfl;obtain⟨j0,e0⟩:=f1 _ _ g0 rfl;replace e1:=YX e1 (n+1+1+1);replace e3:=YX e3 (n+1+1+1);replace e0:=YX e0 (n+1+1+1);refine wi ?_;refine w7 (hJ H h1 J (show x<R1 by omega) (show 0<8 by omega) hlb _) λv t hv=>?_
  obtain⟨L2,n2,m2,R2,B2,rfl,a2,b2,d2,h2,f2,_⟩:=hv;replace j1:=(f2 _ _ j1 rfl).1;replace j2:=(f2 _ _ j2 rfl).1;replace j3:=(f2 _ _ j3 rfl).1;replace j0:=(f2 _ _ j0 rfl).1;have f02:=(f0.or f1).or f2;clear k1 k2 k3 g0 e0 e1 e3 f1 f2 h0 h1;refine xX ?_;refine wi ?_;refine w7 (YA H h2 J (show d<R2 by omega) (show x<R2 by omega) (i:=1) J _) λv t hv=>?_
  obtain⟨L4,n4,m4,R4,B4,rfl,a4,b4,c4,h4,f4,_⟩:=hv;refine ev_zc ?_;exact⟨L4,n4,_,R4,B4,rfl,J,J,J,h4.top.weak J,f02.or f4,trivial⟩
 |false=>
 refine wY V ?_;refine xX ?_;cases c4:eqD q (.ofNat 4)with
 |true=>
  have hq:=eqT.1 c4;subst hq;clear c4;refine wV V ?_;obtain⟨x,r,rfl,hx⟩:=YF (zuM (hl2 1 rfl).symm) hr;obtain⟨i0,cs,t,f,g0,c0⟩:=hv0.one;refine xU (wi ?_);refine w7 (Vw H h0 J (.inl rfl) _) λv t hv=>?_;obtain⟨L1,n1,m1,R1,B1,rfl,a1,b1,d1,h1,f1,lb,rfl,hlb⟩:=hv;obtain⟨j1,e1⟩:=f1 _ _ k1 rfl;obtain⟨j2,_⟩:=f1 _ _ k2 rfl;obtain⟨j3,e3⟩:=f1 _ _ k3 rfl;obtain⟨j0,e0⟩:=f1 _ _ g0 rfl;replace e1:=YX e1 (n+1+1+1);replace e3:=YX e3 (n+1+1+1);replace e0:=YX e0 (n+1+1+1);refine wi ?_;refine w7 (hJ H h1 J (show x<R1 by omega) (show 0<8 by omega) hlb _) λv t hv=>?_
  obtain⟨L2,n2,m2,R2,B2,rfl,a2,b2,d2,h2,f2,_⟩:=hv;replace j1:=(f2 _ _ j1 rfl).1;replace j2:=(f2 _ _ j2 rfl).1;replace j3:=(f2 _ _ j3 rfl).1;replace j0:=(f2 _ _ j0 rfl).1;have f02:=(f0.or f1).or f2;clear k1 k2 k3 g0 e0 e1 e3 f1 f2 h0 h1;refine xX ?_;refine wi ?_;refine w7 (YA H h2 J (show d<R2 by omega) (show x<R2 by omega) (i:=2) J _) λv t hv=>?_
  obtain⟨L4,n4,m4,R4,B4,rfl,a4,b4,c4,h4,f4,_⟩:=hv;refine ev_zc ?_;exact⟨L4,n4,_,R4,B4,rfl,J,J,J,h4.top.weak J,f02.or f4,trivial⟩
 |false=>
 refine wY V ?_;refine xU (xU (xX ?_));cases c5:eqD q (.ofNat 5)with
 |true=>
  have hq:=eqT.1 c5;subst hq;clear c5;refine wV V ?_;refine xX ?_;refine wV V ?_;obtain⟨x,y,rfl,hx,hy⟩:=Wk (hl2 2 rfl) hr;obtain⟨i0,i1,cs,t,f,g0,c0,c1⟩:=hv0.two;refine xU (wi ?_);refine w7 (Vw H h0 J (.inl rfl) _) λv t hv=>?_;obtain⟨L1,n1,m1,R1,B1,rfl,a1,b1,d1,h1,f1,lb,rfl,hlb⟩:=hv;obtain⟨j1,e1⟩:=f1 _ _ k1 rfl;obtain⟨j2,_⟩:=f1 _ _ k2 rfl;obtain⟨j3,e3⟩:=f1 _ _ k3 rfl;obtain⟨j0,e0⟩:=f1 _ _ g0 rfl;replace e1:=YX e1 (n+1+1+1);replace e3:=YX e3 (n+1+1+1);replace e0:=YX e0 (n+1+1+1);refine wi ?_;refine w7 (hJ H h1 J (show x<R1 by omega) (show 0<8 by omega) hlb _) λv t hv=>?_
  obtain⟨L2,n2,m2,R2,B2,rfl,a2,b2,d2,h2,f2,_⟩:=hv;replace j1:=(f2 _ _ j1 rfl).1;replace j2:=(f2 _ _ j2 rfl).1;replace j3:=(f2 _ _ j3 rfl).1;replace j0:=(f2 _ _ j0 rfl).1;have f02:=(f0.or f1).or f2;clear k1 k2 k3 g0 e0 e1 e3 f1 f2 h0 h1;refine xX ?_;refine xU (wi ?_);refine w7 (Hy H h2 J (show x<R2 by omega) (show y<R2 by omega) (i:=1) J _) λv t hv=>?_
  obtain⟨L3,n3,m3,R3,B3,rfl,a3,b3,c3,h3,f3,_⟩:=hv;have l1:=(f3 _ _ j1 rfl).1;have l2:=(f3 _ _ j2 rfl).1;clear j0 j1 j2 j3;refine xX ?_;refine wi ?_;refine xZ (gH H h3 J (show d<R3 by omega) _) λv t hv=>?_
  obtain⟨L4,n4,m4,R4,B4,rfl,a4,b4,c4,h4,f4,_⟩:=hv;refine ev_zc ?_;exact⟨L4,n4,_,R4,B4,rfl,J,J,J,h4.top.weak J,(f02.or f3).trans f4,trivial⟩
 |false=>
 refine wY V ?_;refine xX ?_;cases c6:eqD q (.ofNat 6)with
 |true=>
  have hq:=eqT.1 c6;subst hq;clear c6;refine wV V ?_;obtain⟨x,y,rfl,hx,hy⟩:=Wk (hl2 2 rfl) hr;obtain⟨i0,i1,cs,t,f,g0,c0,c1⟩:=hv0.two;refine xU (wi ?_);refine w7 (Vw H h0 J (.inl rfl) _) λv t hv=>?_;obtain⟨L1,n1,m1,R1,B1,rfl,a1,b1,d1,h1,f1,lb,rfl,hlb⟩:=hv;obtain⟨j1,e1⟩:=f1 _ _ k1 rfl;obtain⟨j2,_⟩:=f1 _ _ k2 rfl;obtain⟨j3,e3⟩:=f1 _ _ k3 rfl;obtain⟨j0,e0⟩:=f1 _ _ g0 rfl;replace e1:=YX e1 (n+1+1+1);replace e3:=YX e3 (n+1+1+1);replace e0:=YX e0 (n+1+1+1);refine wi ?_;refine w7 (hJ H h1 J (show x<R1 by omega) (show 0<8 by omega) hlb _) λv t hv=>?_
  obtain⟨L2,n2,m2,R2,B2,rfl,a2,b2,d2,h2,f2,_⟩:=hv;replace j1:=(f2 _ _ j1 rfl).1;replace j2:=(f2 _ _ j2 rfl).1;replace j3:=(f2 _ _ j3 rfl).1;replace j0:=(f2 _ _ j0 rfl).1;have f02:=(f0.or f1).or f2;clear k1 k2 k3 g0 e0 e1 e3 f1 f2 h0 h1;refine xX ?_;refine xU (wi ?_);refine w7 (Hy H h2 J (show x<R2 by omega) (show y<R2 by omega) (i:=2) J _) λv t hv=>?_
  obtain⟨L3,n3,m3,R3,B3,rfl,a3,b3,c3,h3,f3,_⟩:=hv;have l1:=(f3 _ _ j1 rfl).1;have l2:=(f3 _ _ j2 rfl).1;clear j0 j1 j2 j3;refine xX ?_;refine wi ?_;refine xZ (gH H h3 J (show d<R3 by omega) _) λv t hv=>?_
  obtain⟨L4,n4,m4,R4,B4,rfl,a4,b4,c4,h4,f4,_⟩:=hv;refine ev_zc ?_;exact⟨L4,n4,_,R4,B4,rfl,J,J,J,h4.top.weak J,(f02.or f3).trans f4,trivial⟩
 |false=>
 refine wY V ?_;refine xY ?_;cases c7:eqD q (.ofNat 7)with
 |true=>
  have hq:=eqT.1 c7;subst hq;clear c7;refine wV V ?_;obtain⟨x,r,rfl,hx⟩:=YF (zuM (hl2 1 rfl).symm) hr;obtain⟨i0,cs,t,f,g0,c0⟩:=hv0.one;refine wi ?_;refine w7 (nX H h0 J hd hx _) λv t hv=>?_;obtain⟨L4,n4,m4,R4,B4,rfl,a4,b4,c4,h4,f4,_⟩:=hv;refine ev_zc ?_;exact⟨L4,n4,_,R4,B4,rfl,J,J,J,h4.top.weak J,f0.or f4,trivial⟩
 |false=>
 refine wY V ?_;refine xY ?_;cases c15:eqD q (.ofNat 15)with
 |true=>
  have hq:=eqT.1 c15;subst hq;clear c15;refine wV V ?_;obtain⟨x,r,rfl,hx⟩:=YF (zuM (hl2 1 rfl).symm) hr;refine wi ?_;refine xZ (Wj H (c:=5) h0 J hd _ (op2:=op) λL3 n3 m3 R3 B3 hR hB h3 f3=>?_) λv t hv=>?_
  .exact NP H (f3 _ _ k1 rfl).1 (f3 _ _ k3 rfl).1 (hv0.fr f3) h3 J J hB _
  obtain⟨L4,n4,m4,R4,B4,rfl,a4,b4,c4,h4,f4,_⟩:=hv;refine ev_zc ?_;exact⟨L4,n4,_,R4,B4,rfl,J,J,J,h4.top.weak J,f0.trans f4,trivial⟩
 |false=>
 refine wY V ?_;refine xY ?_;cases c8:eqD q (.ofNat 8)with
 |true=>
  have hq:=eqT.1 c8;subst hq;clear c8;refine wV V ?_;obtain⟨x,y,rfl,hx,hy⟩:=Wk (hl2 2 rfl) hr;refine wi ?_;refine xZ (Kb H (c:=12) h0 J hd rfl hv0 hx hy _ λL3 n3 m3 R3 B3 hR hB h3 f3=>?_) λv t hv=>?_
  .exact(fL H (f3 _ _ k1 rfl).1 (f3 _ _ k2 rfl).1 (f3 _ _ k3 rfl).1 (hv0.fr f3) h3 J J J J hB _).1
  obtain⟨L4,n4,m4,R4,B4,rfl,a4,b4,c4,h4,f4,_⟩:=hv;refine ev_zc ?_;exact⟨L4,n4,_,R4,B4,rfl,J,J,J,h4.top.weak J,f0.trans f4,trivial⟩
 |false=>
 refine wY V ?_;refine xY ?_;cases c9:eqD q (.ofNat 9)with
 |true=>
  have hq:=eqT.1 c9;subst hq;clear c9;refine wV V ?_;obtain⟨x,y,rfl,hx,hy⟩:=Wk (hl2 2 rfl) hr;refine wi ?_;refine xZ (Kb H (c:=12) h0 J hd rfl hv0 hx hy _ λL3 n3 m3 R3 B3 hR hB h3 f3=>?_) λv t hv=>?_
  .exact(fL H (f3 _ _ k1 rfl).1 (f3 _ _ k2 rfl).1 (f3 _ _ k3 rfl).1 (hv0.fr f3) h3 J J J J hB _).2
  obtain⟨L4,n4,m4,R4,B4,rfl,a4,b4,c4,h4,f4,_⟩:=hv;refine ev_zc ?_;exact⟨L4,n4,_,R4,B4,rfl,J,J,J,h4.top.weak J,f0.trans f4,trivial⟩
 |false=>
 refine wY V ?_;refine xY ?_;cases c13:eqD q (.ofNat 13)with
 |true=>
  have hq:=eqT.1 c13;subst hq;clear c13;refine wV V ?_;obtain⟨x,y,rfl,hx,hy⟩:=Wk (hl2 2 rfl) hr;refine wi ?_;refine xZ (Kb H (c:=12) h0 J hd rfl hv0 hx hy _ λL3 n3 m3 R3 B3 hR hB h3 f3=>?_) λv t hv=>?_
  .exact(fM H (f3 _ _ k1 rfl).1 (f3 _ _ k2 rfl).1 (f3 _ _ k3 rfl).1 (hv0.fr f3) h3 J J J J _).1
  obtain⟨L4,n4,m4,R4,B4,rfl,a4,b4,c4,h4,f4,_⟩:=hv;refine ev_zc ?_;exact⟨L4,n4,_,R4,B4,rfl,J,J,J,h4.top.weak J,f0.trans f4,trivial⟩
 |false=>
 refine wY V ?_;refine xY ?_;cases c14:eqD q (.ofNat 14)with
 |true=>
  have hq:=eqT.1 c14;subst hq;clear c14;refine wV V ?_;obtain⟨x,y,rfl,hx,hy⟩:=Wk (hl2 2 rfl) hr;refine wi ?_;refine xZ (Kb H (c:=12) h0 J hd rfl hv0 hx hy _ λL3 n3 m3 R3 B3 hR hB h3 f3=>?_) λv t hv=>?_
  .exact(fM H (f3 _ _ k1 rfl).1 (f3 _ _ k2 rfl).1 (f3 _ _ k3 rfl).1 (hv0.fr f3) h3 J J J J _).2
  obtain⟨L4,n4,m4,R4,B4,rfl,a4,b4,c4,h4,f4,_⟩:=hv;refine ev_zc ?_;exact⟨L4,n4,_,R4,B4,rfl,J,J,J,h4.top.weak J,f0.trans f4,trivial⟩
 |false=>
 refine wY V ?_;refine xY ?_;cases c40:eqD q (.ofNat 40)with
 |true=>
  have hq:=eqT.1 c40;subst hq;clear c40;refine wV V ?_;refine wi ?_;refine xZ (gH H h0 J hd _) λv t hv=>?_;obtain⟨L4,n4,m4,R4,B4,rfl,a4,b4,c4,h4,f4,_⟩:=hv;refine ev_zc ?_;exact⟨L4,n4,_,R4,B4,rfl,J,J,J,h4.top.weak J,f0.trans f4,trivial⟩
 |false=>
 refine wY V ?_;refine xY ?_;cases c41:eqD q (.ofNat 41)with
 |true=>
  have hq:=eqT.1 c41;subst hq;clear c41;refine wV V ?_;refine wi ?_;refine xZ (gH H h0 J hd _) λv t hv=>?_;obtain⟨L4,n4,m4,R4,B4,rfl,a4,b4,c4,h4,f4,_⟩:=hv;refine ev_zc ?_;exact⟨L4,n4,_,R4,B4,rfl,J,J,J,h4.top.weak J,f0.trans f4,trivial⟩
 |false=>
 refine wY V ?_;refine xU (xU (wi ?_));refine xZ (CC H q _ _) λv t hv=>?_;obtain⟨rfl,hv⟩:=hv;have hw0:=h0.wf;have hu:=λo1 o2=>h0.up (L2:=(n+1+1+1,o2)::(n+1+1+1,o1)::L0) (n2:=n+1+1+1+1) (((hw0.up J).same J).same J) (Oth.same λj hj=>by (repeat rw[gN J]))
 have fu:=λo1 o2=>Fr2.newm (m:=m) (m2:=m|||1<<<(n+1+1+1)) hw0 (L2:=(n+1+1+1,o2)::(n+1+1+1,o1)::L0) (λj hj=>by (repeat rw[gN J])) λj hj=>vm J
 rcases hv with rfl|⟨k,rfl,hk,hq1⟩
 .refine xX ?_;refine xY ?_;refine wY V ?_;refine xX ?_;refine wi ?_;refine xZ (Hn H (hu _ _) J hd hp (hv0.fr (fu _ _)) (NR hp) hr _) λv t hv=>?_;obtain⟨L4,n4,m4,R4,B4,rfl,a4,b4,c4,h4,f4,_⟩:=hv;refine ev_zc ?_;exact⟨L4,n4,_,R4,B4,rfl,J,J,J,h4.top.weak J,f0.trans ((fu _ _).trans f4),trivial⟩
 .obtain⟨x,r,rfl,hx⟩:=YF (zuM (hl2 1 hq1).symm) hr;have hkn:¬(z6 k<z6 0):=λh=>by cases h
  refine xX ?_;refine xY ?_;refine wV V ?_;refine xU (wi ?_);refine xZ (Wj H (c:=14) (hu _ _) J hd _ (op2:=op) λL3 n3 m3 R3 B3 hR hB h3 f3=>?_) λv t hv=>?_
  .exact NQ H (f3 _ _ (fu _ _ _ _ k1 rfl).1 rfl).1 (f3 _ _ (fu _ _ _ _ k3 rfl).1 rfl).1 (f3 _ _ (x8 _ _ _) rfl).1 ((hv0.fr (fu _ _)).fr f3) h3 J J hk hB _
  obtain⟨L4,n4,m4,R4,B4,rfl,a4,b4,c4,h4,f4,_⟩:=hv;refine xX ?_;refine ev_zc ?_;exact⟨L4,n4,_,R4,B4,rfl,J,J,J,h4.top.weak J,f0.trans ((fu _ _).trans f4),trivial⟩
end
def DZ{q:Int}(h:jL q=.ofNat k)(h2:ltD q (.ofNat 100)=false):(q=.ofNat 100/\k=1)\/(q=.ofNat 101/\k=1)\/(q=.ofNat 102/\k=2)\/(q=.ofNat 103/\k=0)\/(q=.ofNat 104/\k=1)\/(q=.ofNat 105/\k=0)\/(q=.ofNat 106/\k=0):=by
 unfold jL at h;have hp:jO q=.negSucc 0:=by
  unfold jO;have:wu q (.ofNat 42)=false:=by
   unfold wu;rw[Bool.and_eq_false_iff]
   right
   unfold ltD at h2|-;have h3:=of_decide_eq_false h2;exact qb λh=>h3 (Int.lt_of_lt_of_le h (by decide))
  rw[this];rfl
 rw[hp]at h;cases a1:eqD q (.ofNat 103)with
 |true=>rw[a1]at h;cases h;rw[eqT.1 a1];simp
 |false=>
 cases a2:eqD q (.ofNat 105)with
 |true=>rw[a1,a2]at h;cases h;rw[eqT.1 a2];simp
 |false=>
 cases a3:eqD q (.ofNat 106)with
 |true=>rw[a1,a2,a3]at h;cases h;rw[eqT.1 a3];simp
 |false=>
 cases a4:eqD q (.ofNat 100)with
 |true=>rw[a1,a2,a3,a4]at h;cases h;rw[eqT.1 a4];simp
 |false=>
 cases a5:eqD q (.ofNat 101)with
 |true=>rw[a1,a2,a3,a4,a5]at h;cases h;rw[eqT.1 a5];simp
 |false=>
 cases a6:eqD q (.ofNat 104)with
 |true=>rw[a1,a2,a3,a4,a5,a6]at h;cases h;rw[eqT.1 a6];simp
 |false=>
 cases a7:eqD q (.ofNat 102)with
 |true=>rw[a1,a2,a3,a4,a5,a6,a7]at h;cases h;rw[eqT.1 a7];simp
 |false=>rw[a1,a2,a3,a4,a5,a6,a7]at h;cases h
section
variable {O:Orc}(H:IsO O){K:MK}{e:Bool}{op:zq}{R B N u:Nat}{L:za}{n:Nat}
include H
def zxS{Y g:Nat}{tk tv q fn:Int}{az ks:Z}{l:zq}(h:MsO K e op R B N u L n)(hN:N<20000000)(hd:d<R)(hg:g<30000)(hq:ltD q (.ofNat 100)=false)(hp:jL q=.ofNat (List.length l))(hvw:IlV L w l Y off)(hr:∀x∈l,InR R x)(hsc:vV az=true/\vV ks=true)(m:Nat):Cv (cl O 55 [.ptr K.mp 0,.agg [tk,tv,q,g,fn,az,ks],d,w] (KL L n m false)) (MsQ K false op R B (N+140) (some u) L n m okU):=by
 refine wp (F:=f55) (H.no _) rfl rfl (zv4 rfl) ?_;have hw:=h.wf;obtain⟨hsa,hsk⟩:=hsc;simp only[vV]at hsa hsk;obtain⟨L0,hL0⟩:∃L0,(n,some (AObj.row 40 [tk,tv,q,g,fn,az,ks]))::L=L0:=⟨_,rfl⟩;have h0:MsO K e op R B N u L0 (n+1):=h.up (hL0▸(hw.up J).same J) (Oth.same λj hj=>by rw[<-hL0];(repeat rw[gN J]))
 have f0:Fr2 L m L0 m:=Fr2.new hw λj hj=>by rw[<-hL0];(repeat rw[gN J])
 have k1:x3 L0 n=some (.row 40 [tk,tv,q,g,fn,az,ks]):=by rw[<-hL0];exact x8 _ _ _
 have hv0:=hvw.fr f0;have hR0:=h.R0;have hsf:=h.sf;have i0:InR R (.ofNat 0):=inR J;have hg2:OpOk K.nf K.nc B (.ofNat 24) (.ofNat d) (.ofNat (1312+g)) (.ofNat 0) []:=.off (by simp) (Int.ofNat_le.2 (yh _)) (Int.ofNat_lt.2 J)
 have hg3:OpOk K.nf K.nc B (.ofNat 25) (.ofNat 0) (.ofNat (1312+g)) (.ofNat 0) []:=.off (by simp) (Int.ofNat_le.2 (yh _)) (Int.ofNat_lt.2 J)
 obtain⟨is,rg,fl,wd,nd,bid,hpp⟩:=h0;have gm:=hpp.gm;simp only[jZ]at gm;have h0:MsO K e op R B N u L0 (n+1):=⟨_,_,_,_,_,_,hpp⟩;unfold f55 cF;simp only;refine xY ?_;clear hL0 hw hvw h hpp;refine xY ?_;apply x4;rcases DZ hp hq with ⟨rfl,hl⟩|⟨rfl,hl⟩|⟨rfl,hl⟩|⟨rfl,hl⟩|⟨rfl,hl⟩|⟨rfl,hl⟩|⟨rfl,hl⟩
 .refine xY ?_;refine wV V ?_;refine wi ?_;refine xZ (WK H h0 J hd (show 3<8 by omega) hv0 J hr _) λv t hv=>?_
  obtain⟨L4,n4,m4,R4,B4,rfl,a4,b4,c4,h4,f4,_⟩:=hv;refine ev_zc ?_;exact⟨L4,n4,_,R4,B4,rfl,J,J,J,h4.weak J,f0.trans f4,trivial⟩
 .obtain⟨x,r,rfl,hx⟩:=YF (zuM hl.symm) hr;obtain⟨i0,cs,t,f,g0,c0⟩:=hv0.one;refine xY ?_;refine wY V ?_;refine xY ?_;refine wV V ?_;refine wi ?_;refine xZ (YA H h0 J hd hx (i:=1) J _) λv t hv=>?_;obtain⟨L4,n4,m4,R4,B4,rfl,a4,b4,c4,h4,f4,_⟩:=hv;refine ev_zc ?_;exact⟨L4,n4,_,R4,B4,rfl,J,J,J,h4.weak J,f0.trans f4,trivial⟩
 .obtain⟨x,y,rfl,hx,hy⟩:=Wk hl hr;obtain⟨i0,i1,cs,t,f,g0,c0,c1⟩:=hv0.two;refine xY ?_;refine wY V ?_;refine xY ?_;refine wY V ?_;refine xY ?_;refine wV V ?_;refine xU (wi ?_);refine w7 (Hy H h0 J hx hy (i:=1) J _) λv t hv=>?_;obtain⟨L3,n3,m3,R3,B3,rfl,a3,b3,c3,h3,f3,_⟩:=hv;clear gm k1 g0;refine xX ?_;refine wi ?_;refine xZ (gH H h3 J (show d<R3 by omega) _) λv t hv=>?_
  obtain⟨L4,n4,m4,R4,B4,rfl,a4,b4,c4,h4,f4,_⟩:=hv;refine ev_zc ?_;exact⟨L4,n4,_,R4,B4,rfl,J,J,J,h4.weak J,(f0.or f3).trans f4,trivial⟩
 .refine xY ?_;refine wY V ?_;refine xY ?_;refine wY V ?_;refine xY ?_;refine wY V ?_;refine xY ?_;refine wV V ?_;refine wi ?_;refine xZ (uK H h0 J (e2:=false) hg2 (inR hd) i0 i0 (by simp) (λh=>by cases h) _) λv t hv=>?_
  obtain⟨L4,n4,m4,R4,B4,rfl,a4,b4,c4,h4,f4,_⟩:=hv;refine ev_zc ?_;exact⟨L4,n4,_,R4,B4,rfl,J,J,J,h4.weak J,f0.trans f4,trivial⟩
 .obtain⟨x,r,rfl,hx⟩:=YF (zuM hl.symm) hr;obtain⟨ia0,cs,t,f,g0,c0⟩:=hv0.one;refine xY ?_;refine wY V ?_;refine xY ?_;refine wY V ?_;refine xY ?_;refine wY V ?_;refine xY ?_;refine wY V ?_;refine xY ?_;refine wV V ?_;refine xU (wi ?_);refine w7 (uK H h0 J (e2:=false) hg3 i0 i0 (inR hx) (by simp) (λh=>by cases h) _) λv t hv=>?_
  obtain⟨L3,n3,m3,R3,B3,rfl,a3,b3,c3,h3,f3,_⟩:=hv;clear gm k1 g0;refine xX ?_;refine wi ?_;refine xZ (gH H h3 J (show d<R3 by omega) _) λv t hv=>?_
  obtain⟨L4,n4,m4,R4,B4,rfl,a4,b4,c4,h4,f4,_⟩:=hv;refine ev_zc ?_;exact⟨L4,n4,_,R4,B4,rfl,J,J,J,h4.weak J,(f0.or f3).trans f4,trivial⟩
 .refine xY ?_;refine wY V ?_;refine xY ?_;refine wY V ?_;refine xY ?_;refine wY V ?_;refine xY ?_;refine wY V ?_;refine xY ?_;refine wY V ?_;refine xY ?_;refine wV V ?_;refine wi ?_;refine w7 (YA H h0 J hd hsf (i:=2+g) J _) λv t hv=>?_;obtain⟨L4,n4,m4,R4,B4,rfl,a4,b4,c4,h4,f4,_⟩:=hv;refine ev_zc ?_;exact⟨L4,n4,_,R4,B4,rfl,J,J,J,h4.weak J,f0.or f4,trivial⟩
 .refine xY ?_;refine wY V ?_;refine xY ?_;refine wY V ?_;refine xY ?_;refine wY V ?_;refine xY ?_;refine wY V ?_;refine xY ?_;refine wY V ?_;refine xY ?_;refine wY V ?_;refine xY ?_;refine wV V ?_;refine wi ?_;refine xZ (ki H h0 J hd hsf _) λv t hv=>?_;obtain⟨L4,n4,m4,R4,B4,rfl,a4,b4,c4,h4,f4,_⟩:=hv;refine ev_zc ?_;exact⟨L4,n4,_,R4,B4,rfl,J,J,J,h4.weak J,f0.trans f4,trivial⟩
end
def VS:zr×ICode×ICode:=match f104.body with
 |.seq _ (.seq (.seq _ (.block _ (.rf _ ps a b))) _)=>(ps,a,b)
 |_=>([],.skip,.skip)
def FrX(b l:Nat)(L:za)(m:Nat)(L2:za)(m2:Nat):Prop:=∀j o,x3 L j=some o->NF o=true->j≠b->j≠l->x3 L2 j=some o/\m2.testBit j=m.testBit j
def FrX.trans{l:Nat}{L3:za}(h:FrX b l L m L2 m2)(g:FrX b l L2 m2 L3 m3):FrX b l L m L3 m3:=λj o h1 h2 h3 h4=>
 have ⟨q1,q2⟩:=h j o h1 h2 h3 h4;have ⟨q3,q4⟩:=g j o q1 h2 h3 h4
 ⟨q3,q4.trans q2⟩
def Fr2.x{l:Nat}(h:Fr2 L m L2 m2):FrX b l L m L2 m2:=λj o h1 h2 _ _=>h j o h1 h2
section
variable {O:Orc}(H:IsO O){K:MK}{e:Bool}{op:zq}{R B N u:Nat}{L:za}{n:Nat}
include H
def RP(hwc:w.cells=[w])(m:Nat)(b:Bool):Cv (cl O 135 [w] (KL L n m b)) λv t=>∃m2,v=.fn 163 [] [.ptr n 0]/\t=KL ((n,some (.row 36 [w]))::L) (n+1) m2 b/\m2=m:=by
 refine wp (F:=f135) (H.no _) rfl rfl (zv4 rfl) ?_;unfold f135 cF;simp only;refine xY ?_;refine xY ?_;refine ev_zc ?_;exact⟨_,rfl,rfl,rfl⟩
attribute [-go_sem] lW in
def EO{nb b3 b5 l dd Y ed:Nat}{vs:zq}{tF:List (Nat×Z)}(h:MsO K e op R B N u L n)(hN:N<20000000)(hu:u<=b5)(gl:x3 L l=some (.loop .ready none (tmL tF) VS.1 VS.2.1 VS.2.2 dd))(gnb:x3 L nb=some (.row 36 [w]))(g3:x3 L b3=some (.row 71 [.ptr K.mp 0]))(g5:x3 L b5=some (.row 3 [.int .i64 (.ofNat ed)]))(hed:ed<R)(t3:G tF 3 (.ptr b3 0))(t5:G tF 5 (.ptr b5 0))(hvw:IlV L w vs Y off)(hid:Y≠b5)(hl:zM vs<=40)(hr:∀x∈vs,InR R x)(m:Nat)(b:Bool):
  Cv (cl O 163 [.yld l,.ptr nb 0] (KL L n m b)) λv t=>∃L2 n2 m2 R2 B2 ed2,t=KL L2 n2 m2 b/\R<=R2/\B<=B2/\n<=n2/\MsO K false op R2 B2 (N+11*zM vs) u L2 n2/\x3 L2 l=some (.loop .ready none (tmL tF) VS.1 VS.2.1 VS.2.2 dd)/\x3 L2 b5=some (.row 3 [.int .i64 (.ofNat ed2)])/\ed2<R2/\FrX b5 l L m L2 m2:=by
 refine wp (F:=f163) (H.no _) rfl rfl (zv4 rfl) ?_;have hs3:=U3 (k:=zM vs) J;have hlen:=hvw.len;unfold f163 cF;simp only;refine xY ?_;apply x4;refine wq (λk:Nat=>k) (λk fr s=>∃T L2 n2 m2 R2 B2 ed2,fr=⟨tmL T,[]⟩/\s=KL L2 n2 m2 false/\G T 0 (.yld l)/\G T 1 (.ptr nb 0)/\G T 3 (.int .i64 (i3 k))/\k<=zM vs/\R<=R2/\B<=B2/\n<=n2/\MsO K false op R2 B2 (N+11*(zM vs-k)) u L2 n2/\x3 L2 l=some (.loop .ready none (tmL tF) VS.1 VS.2.1 VS.2.2 dd)/\x3 L2 b5=some (.row 3 [.int .i64 (.ofNat ed2)])/\ed2<R2/\FrX b5 l L m L2 m2) (λk2 fr s hI=>?_) (zM vs) ⟨_,L,n,m,R,B,ed,rfl,rfl,sW,sW,sW,zS _,zS _,zS _,zS _,h.weak J,gl,g5,hed,(Fr2.refl L m).x⟩;have e1:b5≠l:=λe=>by rw[e,gl]at g5;cases g5
 have e2:b3≠l:=λe=>by rw[e,gl]at g3;cases g3
 have e3:b3≠b5:=λe=>by rw[e,g5]at g3;simp at g3
 have e4:nb≠l:=λe=>by rw[e,gl]at gnb;cases gnb
 have e5:nb≠b5:=λe=>by rw[e,g5]at gnb;simp at gnb
 have e6:vs≠[]->Y≠l:=λhne e=>by obtain⟨cs,x,f,h1,_⟩:=hvw.row hne;rw[e,gl]at h1;cases h1
 clear hs3 h gl g5 hed;obtain⟨T,L2,n2,m2,R2,B2,ed2,rfl,rfl,q0,q1,q3,hk3,hR,hB,hn,h2,gl,g5,hed,f2⟩:=hI;cases k2 with
 |zero=>
  simp only[i3]at q3;refine xX ?_;refine qz ?_;exact⟨L2,n2,m2,R2,B2,ed2,rfl,hR,hB,hn,h2.weak J,gl,g5,hed,f2⟩
 | succ k2=>
  have hlt:k2<zM vs:=J;have hia:=hvw.ia k2 hlt;obtain⟨x,hd⟩:∃x,vs.drop k2=x::vs.drop (k2+1):=⟨_,zuo hlt⟩;have hne:vs≠[]:=λe=>by rw[e]at hlt;simp at hlt
  obtain⟨cs,xt,ff,gid,hcs⟩:=hvw.row hne;have hcx:=hcs k2 x _ hd;obtain⟨rx,rfl,hrx⟩:=hr x (zv9 (by rw[hd];exact zua))
  replace gid:=(f2 _ _ gid rfl hid (e6 hne)).1;have gnb2:=(f2 _ _ gnb rfl e5 e4).1;have g32:=(f2 _ _ g3 rfl e3 e2).1;have hs2:=U3 (k:=k2) J;simp only[i3]at q3;clear hd hcs gnb g3 hlen;refine xY ?_;refine xU (x4 ?_);apply xU;refine wi ?_;have hround:∀m,Cv ((evW env O).round l [.int .i64 (.ofNat k2),.int .i64 (.ofNat rx)] (KL L2 n2 m false)) λv t=>v=.bool true/\∃L3 n3 m3 R3 B3 ed3,t=KL L3 n3 m3 false/\R2<=R3/\B2<=B3/\n2<=n3/\MsO K false op R3 B3 (N+11*(zM vs-(k2+1))+11) u L3 n3/\x3 L3 l=some (.loop .ready none (tmL tF) VS.1 VS.2.1 VS.2.2 dd)/\x3 L3 b5=some (.row 3 [.int .i64 (.ofNat ed3)])/\ed3<R3/\FrX b5 l L2 m L3 m3:=λm=>by
   refine dE gl rfl ?_;have hw2:=h2.wf;have hl2:=hw2.lt gl;have h5:=hw2.lt g5;have h3':=λo=>h2.up (L2:=(l,o)::L2) (n2:=n2) (hw2.same hl2) λj hj=>by
    by_cases hjl:j=l
    .subst hjl;exact .inr ⟨_,gl,rfl,.inl rfl⟩
    .exact .inl (by rw[x5,x0 hjl])
   have fx:∀o,FrX b5 l L2 m ((l,o)::L2) (m|||1<<<l):=λo j o' h1 _ _ h4=>⟨by rw[x5,x0 h4];exact h1,vm h4⟩
   simp only[VS,f104]at gl|-;refine xX ?_;refine⟨trivial,_,_,_,rfl,V,?_⟩;apply x4;refine xU (wi ?_);refine xZ (YI (H.no _) (h3' _) J _) λv t hv=>?_;obtain⟨L4,m4,rfl,rfl,h4,f4⟩:=hv;have gl4:=(f4 l _ (x8 _ _ _) rfl).1;have g54:=(f4 b5 _ (by rw[x5,x0 e1];exact g5) rfl).1
   have g34:=(f4 b3 _ (by rw[x5,x0 e2];exact g32) rfl).1
   have fx4:=(fx _).trans (f4.x (b:=b5) (l:=l));have hw4:=h4.wf;have h4':=λo=>h4.up (L2:=(n2,o)::L4) (n2:=n2+1) ((hw4.up (zuC _)).same (yx _)) (Oth.same λj hj=>by rw[gN J])
   have fn4:=λ(o:zj) (m:Nat)=>Fr2.new (m:=m) hw4 (L2:=(n2,o)::L4) λj hj=>by rw[gN J]
   clear h3' fx f4;refine xX ?_;refine xU (wi ?_);refine xZ (WK H (h4' _) J (d:=R2) (k:=0) (yx R2) J (IlV.lit (l:=[.ofNat rx,.ofNat ed2]) (x8 _ _ _)) (by simp) (λz hz=>by
    simp only[zul,List.not_mem_nil,or_false]at hz;rcases hz with rfl|rfl<;>exact inR J) _) λv t hv=>?_
   obtain⟨L5,n5,m5,R5,B5,rfl,a5,b5',c5,h5',f5,_⟩:=hv;simp only[yw,xN]at h5';have gl5:=(f5 l _ (fn4 _ 0 l _ gl4 rfl).1 rfl).1;have g55:=(f5 b5 _ (fn4 _ 0 b5 _ g54 rfl).1 rfl).1;have fx5:=fx4.trans (((fn4 _ _).trans f5).x (b:=b5) (l:=l));have hw5:=h5'.wf;have h55:=hw5.lt g55;have hl5:=hw5.lt gl5;clear gl4 g54 fx4 f5 fn4 h4';refine xX ?_;refine xX ?_;refine⟨trivial,_,_,_,_,_,rfl,(x5 _ _ _ _).trans ((x0 (Ne.symm e1)).trans gl5),trivial,_,n5,_,R5,B5,R2,rfl,J,J,J,(h5'.up (L2:=(l,_)::(b5,some (.row 3 [.int .i64 (.ofNat R2)]))::L5) (n2:=n5) ((hw5.same h55).same hl5) λj hj=>?_).weak J,x8 _ _ _,by rw[x5,x0 e1,x8],J,λj o h1 h2 h3 h4=>?_⟩
   .by_cases hj1:j=l
    .subst hj1;exact .inr ⟨_,gl5,rfl,.inl rfl⟩
    .by_cases hj2:j=b5
     .subst hj2;exact .inr ⟨_,g55,rfl,.inr hu⟩
     .exact .inl (by rw[x5,x0 hj1,x5,x0 hj2])
   .obtain⟨p1,p2⟩:=fx5 j o h1 h2 h3 h4;exact⟨by rw[x5,x0 h4,x5,x0 h3];exact p1,by rw[WG,vm h4,vm h3];exact p2⟩
  refine xZ (hround _) λv t hv=>?_;obtain⟨rfl,L3,n3,m3,R3,B3,ed3,rfl,a3,b3',c3,h3,gl3,g53,hed3,f3⟩:=hv;clear hround gid gnb2 g32 gl g5;refine xX ?_;refine xX ?_;refine xX ?_;exact⟨k2,⟨_,L3,n3,_,R3,B3,ed3,rfl,rfl,V,V,V,J,J,J,J,h3.weak J,gl3,g53,hed3,f2.trans f3⟩,J⟩
end
end Go.Proofs.YtbdfljdgapkbcaaGreatDoor.Ev

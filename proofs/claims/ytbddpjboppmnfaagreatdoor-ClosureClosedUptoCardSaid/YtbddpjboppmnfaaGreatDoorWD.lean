/- Contracts of functions that ClosureClosed calls: what a call answers, for all data, by symbolic evaluation. No conditions of its own. -/
import Derived.Test.YtbddpjboppmnfaaGreatDoorWC
import Derived.Test.YtbddpjboppmnfaaGreatDoorEvG
set_option linter.unusedSimpArgs false
set_option linter.unusedVariables false
set_option linter.defProp false
set_option maxHeartbeats 4000000
set_option linter.unusedSectionVars false
open List renaming length_cons → yb, cons_append → zM, length_nil → xz, nil_append → ziQ, drop_eq_getElem_cons → ziO, append_nil → ziA, mem_of_mem_drop → ziT, append_assoc → ziV, mem_cons_self → zi0, getD_eq_getElem?_getD → xe, length_drop → ziy, length_append → yA, map_cons → zD, length → xj, getElem?_eq_getElem → yH, getElem?_replicate → zi6, head?_drop → zhd, drop_eq_nil_of_le → zhe, drop_drop → yj, map_nil → yN
open Bool renaming and_eq_true → zq, cond_self → ziH, true_and → yP, true_or → ziI, false_and → ziC, false_or → xD, or_true → ziG
open Nat renaming zero_mod → ziJ, or_zero → ziM, zero_or → ziN, le_of_ble_eq_true → ziw, le_refl → zu, lt_of_lt_of_le → zp, zero_le → zQ, lt_succ_self → yc, zero_add → yO, one_mul → zhf, mul_le_mul_right → yJ, add_mul → yE
open Option renaming bind_some → ziP
open Int renaming ofNat → zG
open Classical renaming choose_spec → xg, choose → zi3
namespace Go.Proofs.YtbddpjboppmnfaaGreatDoor.Ev
variable {P:Program}{w0:World}{O:Orc}{s s':St}{v:AV}{id n esz bytes:Nat}
open T
set_option maxRecDepth 100000
noncomputable def uW(P:Program)(w0:World)(c:Cd):Int:=
 bif (ltD c.globals (.ofNat 0)||ltD (.ofNat 20000) c.globals)||ltD c.vars (.ofNat 0)then .ofNat 2
 else bif KN P w0 c.consts then (bif je c then .ofNat 0 else .ofNat 4)else .ofNat 2
structure EaPre(N:Nat)(c:Cd):Prop where
 cs:CsPre N c.consts
 sz:CdSz c
noncomputable def G8(P:Program)(w0:World)(N:Nat):List AV→St→Option (AV×St):=vF qI (EaPre N) (fun c=>.int .i64 (uW P w0 c))
section
variable {P:Program}{w0:World}(B:Bx P w0){O:Orc}{N:Nat}(hO:OrcOk P w0 O)
include B hO
attribute [local go_sem] ltF gtF xZ x4 ziJ ziN ziM ziH wZ in
theorem zsQ(H:NOrc P w0 N O)(h46:O 46=some zrZ)(c:Cd)(hc:EaPre N c):∃s1,SC P w0 30 (qI c) (s00 0 true) (.int .i64 (uW P w0 c)) s1:=by
 refine bew B hO f30 ?_;have hwh:=fun s=>oc h46 vJ c hc.sz (uC c) s;obtain⟨R,hR⟩:∃R,uW P w0 c=R:=⟨_,rfl⟩;rw[hR];unfold uW at hR;have hcs:=hc.cs;obtain⟨fs,main,vars,globals,consts⟩:=c;simp only at hcs hR;have hne:=fun{L n} (hw:WfA L n) m=>zkK H hcs hw m;simp only[qI,vd,wC]at hwh⊢;unfold f30;simp only[Ko,Kg,Ki];have hin:∀(s:St) (k:Nat),Fz s (.int .i64 (.ofNat k)) (.int .i64 (.ofNat k)):=fun s k=>wF s _ _;cases c1:ltD globals (.ofNat 0)with
 |true=>
  rw[c1]at hR;simp only[ziI,cond_true]at hR;subst hR;clear hne hwh;refine xQ ?_;refine xQ ?_;refine xW ?_;exact hin _ _
 |false=>
 cases c2:ltD (.ofNat 20000) globals with
 |true=>
  rw[c2]at hR;simp only[ziI,ziG,cond_true]at hR;subst hR;clear hne hwh;refine xQ ?_;refine xQ ?_;refine xW ?_;exact hin _ _
 |false=>
 cases c3:ltD vars (.ofNat 0)with
 |true=>
  rw[c3]at hR;simp only[ziG,cond_true]at hR;subst hR;clear hne hwh;refine xQ ?_;refine xQ ?_;refine xW ?_;exact hin _ _
 |false=>
 rw[c1,c2,c3]at hR;simp only[Bool.or_self,cond_false]at hR;refine xQ ?_;refine xQ ?_;refine xR ?_;refine xR (qt ?_);refine wc (hne (fun j hj=>by rw[xL,if_neg oM];rfl) _) fun v t hv=>?_
 obtain⟨x,L2,n2,m2,rfl,hx,rfl,hle,hfr⟩:=hv;have g0:=(hfr 0 oM).trans (xS _ _ _);have hxs:ua x=true:=by rcases hx with rfl|⟨p,rfl⟩<;>rfl
 clear hne hx hfr;cases hk:KN P w0 consts with
 |false=>
  rw[hk]at hR;simp only[cond_false]at hR⊢;subst hR;clear hwh;refine xO ?_;refine xO ?_;refine xW ?_;exact hin _ _
 | true=>
  rw[hk]at hR;simp only[cond_true]at hR⊢;generalize je _=wb at *;cases wb with
  |false=>
   simp only[cond_false]at hR;subst hR;refine xO ?_;refine xO ?_;refine xO ?_;refine xW ?_;exact hin _ _
  |true=>
   simp only[cond_true]at hR;subst hR;refine xO ?_;refine xO ?_;refine xO ?_;refine xW ?_;exact hin _ _
end
theorem zup{c:Cd}{f:Fn}{t:Trm}(h:qN c f t=true)(h2:eqD t.kind (.ofNat 2)=true):∃j,t.fn=.ofNat j∧j<c.fs.length:=by
 unfold qN at h;rw[zq]at h;have hk:t.kind=.ofNat 2:=by simpa [eqD]using h2
 have h1:eqD t.kind (.ofNat 1)=false:=by rw[hk];rfl
 have h3:=h.2;rw[h1,cond_false]at h3;unfold kv at h3;rw[zq,h2,cond_true,zq,zq]at h3;exact kT h3.2.1.1
mutual
theorem UQ{c:Cd}{f:Fn}:∀t:Trm,qv c f t=true→SzT t→Qo t∧Qr c.fs.length t
 |.mk k v op n fn as ks,h,hs=>by
  simp only[qv,zq]at h;simp only[SzT]at hs;have h1:=YA h.1;have h2:=fun e=>zup h.1 e;obtain⟨h3,h4⟩:=Gl ks h.2 hs.2.2;simp only[Trm.kids,Trm.kind,Trm.fn]at h1 h2;simp only[Qo,Qr];exact⟨⟨h1,h3⟩,hs.1,h1,h2,h4⟩
theorem Gl{c:Cd}{f:Fn}:∀ks:List Trm,qK c f ks=true→hZ ks→Y2 ks∧HQ c.fs.length ks
 |[],_,_=>by simp only[Y2,HQ,and_self]
 |t::r,h,hs=>by
  simp only[qK,zq]at h;simp only[hZ]at hs;obtain⟨a1,a2⟩:=UQ t h.1 hs.1;obtain⟨b1,b2⟩:=Gl r h.2 hs.2;simp only[Y2,HQ];exact⟨⟨a1,b1⟩,a2,b2⟩
end
structure ChPre(N:Nat)(c:Cd):Prop where
 ea:EaPre N c
 nt:∀f∈c.fs,wJ f.b≤900000000
 us:(jl c).length<1000000000
 vs:c.vars< .ofNat 9223372036854775808
theorem kl{c:Cd}(h:uW P w0 c=.ofNat 0):je c=true∧KN P w0 c.consts=true∧ltD c.globals (.ofNat 0)=false∧ltD (.ofNat 20000) c.globals=false∧ltD c.vars (.ofNat 0)=false:=by
 unfold uW at h;generalize ltD c.globals (.ofNat 0)=a at *;generalize ltD (.ofNat 20000) c.globals=b at *;generalize ltD c.vars (.ofNat 0)=d at *;generalize KN P w0 c.consts=e at *;generalize je c=g at *;revert h;cases a<;>cases b<;>cases d<;>cases e<;>cases g<;>intro h<;>first|exact⟨rfl,rfl,rfl,rfl,rfl⟩|exact absurd h (by decide)
theorem Gv{N:Nat}{c:Cd}(hp:ChPre N c)(h:je c=true):CdOk c∧Gx c:=by
 have key:∀f∈c.fs,Qo f.b∧Qr c.fs.length f.b:=fun f hf=>by
  unfold je at h;rw[zq]at h;have h1:=List.all_eq_true.1 h.2 f hf;unfold wFn at h1;rw[zq,zq]at h1;exact UQ f.b h1.2.2 (hp.ea.sz.f f hf).2.2
 exact⟨⟨hp.ea.sz.n,fun f hf=>⟨(key f hf).2,hp.nt f hf,(hp.ea.sz.f f hf).1⟩⟩,hp.ea.sz.n,fun f hf=>⟨(hp.ea.sz.f f hf).1,(hp.ea.sz.f f hf).2.2,(key f hf).1⟩⟩
def X0(c:Cd):Nat→List Fn→Bool
 |_,[]=>false
 |i,f::r=>((eqD (.ofNat i) c.main||decide (0<f.fr.length))&&decide (0<((wz c).getD i []).length))||X0 c (i+1) r
noncomputable def jE(P:Program)(w0:World)(c:Cd):Int:=
 bif eqD (uW P w0 c) (.ofNat 0)then (bif pE c then (bif X0 c 0 c.fs then .ofNat 6 else .ofNat 0)else .ofNat 14)else uW P w0 c
noncomputable def G3(P:Program)(w0:World)(N:Nat):List AV→St→Option (AV×St):=vF qI (ChPre N) (fun c=>.int .i64 (jE P w0 c))
open Nat (reduceEqDiff reduceLeDiff reduceLT reduceAdd reduceMul reduceSub reduceMod reducePow reduceDiv reduceOr reduceShiftLeft reduceGT reduceSucc)
open List (length_cons length_nil length_take length_drop)
open Int (reduceOfNat reduceNegSucc)
section
variable {P:Program}{w0:World}(B:Bx P w0){O:Orc}{N:Nat}(hO:OrcOk P w0 O)
include B hO
attribute [local go_sem] ltF gtF zzz zlB xZ x4 ziJ ziN ziM ziH wZ in
theorem zsx(h30:O 30=some (G8 P w0 N))(h31:O 31=some zrV)(h32:O 32=none)(h48:O 48=some (YC 900000000))(c:Cd)(hc:ChPre N c):∃s1,SC P w0 11 (qI c) (s00 0 true) (.int .i64 (jE P w0 c)) s1:=by
 refine bew B hO f11 ?_;have hea:=fun s=>oc h30 vJ c hc.ea (uC c) s;obtain⟨R,hR⟩:∃R,jE P w0 c=R:=⟨_,rfl⟩;rw[hR];unfold jE at hR;have hw:=fun h=>Gv hc (kl (P:=P) (w0:=w0) (c:=c) h).1;generalize uW P w0 c=e at *;cases c1:eqD e (.ofNat 0)with
 |false=>
  rw[c1]at hR;simp only[cond_false]at hR;subst hR;clear hw;obtain⟨fs,main,vars,globals,consts⟩:=c;unfold f11;simp only[qI,vd,wC]at hea⊢;refine xQ ?_;refine xQ ?_;refine xW ?_;exact wF _ _ _
 | true=>
  rw[c1]at hR;simp only[cond_true]at hR;have he:e=.ofNat 0:=by simpa [eqD]using c1
  subst he;obtain⟨hok,hon⟩:=hw rfl;have hoc:=fun s=>oc h31 vJ c hon (uC c) s;have hse:=fun{L0 n0} (hw0:WfA L0 n0) m=>zwX h32 h48 hok hw0 m false;have hfz:=hc.ea.sz.f;have hnf:=hc.ea.sz.n;clear hw hok hon c1 hc;unfold f11;cases c2:pE c with
  |false=>
   rw[c2]at hR hoc;simp only[cond_false]at hR;subst hR;clear hse;obtain⟨fs,main,vars,globals,consts⟩:=c;simp only[qI,vd,wC]at hea hoc⊢;refine xQ ?_;refine xQ ?_;refine xQ ?_;refine xW ?_;exact wF _ _ _
  | true=>
   rw[c2]at hR hoc;simp only[cond_true]at hR;clear c2;have hcut:=fun i f r h=> @X4 c.fs i f r h;have hcap:∀i,X0 c i (c.fs.drop i)=match c.fs.drop i with
    |[]=>false
    |f::r=>((eqD (.ofNat i) c.main||decide (0<f.fr.length))&&decide (0<((wz c).getD i []).length))||X0 c (i+1) r:=fun i=>by
    cases c.fs.drop i<;>rfl
   have hS:=(gA c (Yp c));generalize hCI:X0 c=CI at *;generalize wz c=SS at *;obtain⟨fs,main,vars,globals,consts⟩:=c;simp only[qI,vd,wC]at hea hoc hse hcut hcap hfz hnf hR⊢;refine xQ ?_;refine xQ ?_;refine xQ ?_;refine xR (qt ?_);refine wc (hse (fun j hj=>by rw[xL,if_neg oM];rfl) _) fun v t hv=>?_
   obtain⟨ids,fid,L,n,m,rfl,rfl,hM,hil,hn,hfr⟩:=hv;have g0:=((hfr 0 oM).1).trans (xS _ _ _);clear hse hfr hea hoc hS;refine xO ?_;refine xR (xR (xO ?_));refine xT ?_;refine wx (fun i:Nat=>fs.length-i) (fun i f t=>∃T L2 n2 m2,f=⟨tmL T,[]⟩∧t=KL L2 n2 m2 false [] none∧(tmL T).get 1=some (.ptr 0 0)∧(tmL T).get 4=some (.sl fid 0 fs.length (.fix fs.length))∧(tmL T).get 18=some (.lst fs.length false (xP wo fs))∧(tmL T).get 19=some (.int .i64 (.ofNat fs.length))∧(tmL T).get 20=some (.int .i64 (.ofNat i))∧i≤fs.length∧SetM ids SS fid (0+1) L2 n2∧0<n2∧xN L2 0=some (.row 25 [.lst fs.length false (xP wo fs),.int .i64 main,.int .i64 vars,.int .i64 globals,.lst consts.length false (wa consts)] false false)∧(bif CI i (fs.drop i)then (.ofNat 6:Int)else .ofNat 0)=R) (fun i f t hI=>?_) 0 ⟨_,L,n,_,rfl,rfl,sW,sW,sW,sW,sW,zQ _,hM,oM,g0,hR⟩;clear hR hM g0 hn;obtain⟨T,L2,n2,m2,rfl,rfl,t1,t4,t18,t19,t20,hi,hM,hn,g0,hR⟩:=hI;rcases wi fs i with ⟨hlt,hd⟩|⟨g,hlt,hd⟩
   ·rw[hcap i,hd]at hR;simp only[cond_false]at hR;subst hR;have:¬i<fs.length:=oM;clear hcap hcut hfz hM hCI;refine xO ?_;refine xO ?_;refine xW ?_;exact wF _ _ _
   ·rw[hcap i,hd]at hR;simp only at hR;have hcg:=hcut i g _ hd;have hgl:=(hfz g (ziT (by rw[hd];exact zi0))).2.1
    obtain⟨gps,grest,gcont,gfr,gb⟩:=g;obtain⟨gk,gv,gop,gn,gf,gas,gks⟩:=gb;simp only[wo,xU,qu]at hcg hR hgl;have hii:i<ids.length:=oM;have hid:ids[i]? =some ids[i]:=yH hii;generalize hidd:ids[i]=id at hid;have gid:=hM.maps i id hid;have grow:=hM.row;have hidn:=hM.wf.lt gid;have hfn:=hM.wf.lt grow;have hcut2:wj 1 (wH i (ids.map AV.map))=some [.map id]:=by
     have:(ids.map AV.map).drop i=.map id::(ids.map AV.map).drop (i+1):=by
      rw[ziO (by simpa using hii)]
      simp[hidd]
     rw[wY,this];rfl
    have hul:=zji (SS.getD i []);have hlo:=hM.los id (List.mem_of_getElem? hid);have hlf:=hM.lof;have hM2:∀o1 o2:Option AObj,SetM ids SS fid (0+1) ((n2,o1)::(n2,o2)::L2) (n2+1):=fun o1 o2=>hM.oth (by
     have hw:=hM.wf
     repeat first|exact hw.up oM|refine WfA.same ?_ oM) fun j hj _=>by rw[xL,if_neg oM,xL,if_neg oM]
    generalize uS (SS.getD i [])=ul at *;generalize SS.getD i []=sl at *;clear hcap hcut hfz hM hCI hd;by_cases hs:0<sl.length
    ·rw[decide_eq_true hs]at hR;cases c1:eqD (.ofNat i) main with
     |true=>
      rw[c1]at hR;simp only[ziI,yP,cond_true]at hR;subst hR;clear hM2;refine xO ?_;refine xW ?_;exact wF _ _ _
     |false=>
      rw[c1]at hR;by_cases hg:0<gfr.length
      ·rw[decide_eq_true hg]at hR;simp only[xD,yP,ziI,cond_true]at hR;subst hR;clear hM2;refine xO ?_;refine xW ?_;exact wF _ _ _
      ·rw[decide_eq_false hg]at hR;simp only[xD,ziC]at hR;refine xO ?_;exact⟨i+1,⟨_,_,n2+1,_,rfl,rfl,sV,sV,sV,sV,sV,oM,hM2 _ _,oM,sV,hR⟩,oM⟩
    ·rw[decide_eq_false hs]at hR;simp only[Bool.and_false,xD]at hR;cases c1:eqD (.ofNat i) main with
     |true=>
      refine xO ?_;exact⟨i+1,⟨_,_,n2+1,_,rfl,rfl,sV,sV,sV,sV,sV,oM,hM2 _ _,oM,sV,hR⟩,oM⟩
     |false=>
      by_cases hg:0<gfr.length
      ·refine xO ?_;exact⟨i+1,⟨_,_,n2+1,_,rfl,rfl,sV,sV,sV,sV,sV,oM,hM2 _ _,oM,sV,hR⟩,oM⟩
      ·refine xO ?_;exact⟨i+1,⟨_,_,n2+1,_,rfl,rfl,sV,sV,sV,sV,sV,oM,hM2 _ _,oM,sV,hR⟩,oM⟩
end
theorem Z8{c:Cd}(h:je c=true):∀f∈c.fs,(f.ps++f.fr).all (fun x=>wg x c.vars)=true∧qv c f f.b=true∧(f.rest=true→f.ps≠[]):=fun f hf=>by
 unfold je at h;rw[zq]at h;have h1:=List.all_eq_true.1 h.2 f hf;unfold wFn at h1;rw[zq,zq]at h1;refine⟨h1.2.1,h1.2.2,fun hr he=>?_⟩;have h3:=h1.1;rw[hr,he]at h3;cases h3
theorem jr{n m:Int}:wg n m=true↔0≤n∧n<m:=by
 unfold wg ltD;rw[zq,Bool.not_eq_true',decide_eq_false_iff_not,decide_eq_true_eq];exact⟨fun h=>⟨Int.not_lt.1 h.1,h.2⟩,fun h=>⟨Int.not_lt.2 h.1,h.2⟩⟩
theorem pN{vars nc:Int}{a:Atm}:zzP vars nc a=true↔(a.k=.ofNat 1∧wg a.n vars=true)∨(a.k=.ofNat 2∧wg a.n nc=true):=by
 unfold zzP;by_cases h1:a.k=.ofNat 1
 ·have h2:¬a.k=.ofNat 2:=by rw[h1];decide
  have h1':a.k=1:=h1;have e1:eqD a.k (.ofNat 1)=true:=decide_eq_true h1;have e2:eqD a.k (.ofNat 2)=false:=decide_eq_false h2;rw[e1,e2];cases wg a.n vars<;>simp[h1']
 ·have e1:eqD a.k (.ofNat 1)=false:=decide_eq_false h1;have h1':¬a.k=1:=h1;by_cases h2:a.k=.ofNat 2
  ·have e2:eqD a.k (.ofNat 2)=true:=decide_eq_true h2;have h2':a.k=2:=h2;rw[e1,e2];cases wg a.n nc<;>simp[h2']
  ·have e2:eqD a.k (.ofNat 2)=false:=decide_eq_false h2;have h2':¬a.k=2:=h2;rw[e1,e2];simp[h1',h2']
theorem Qc{sc:List Int}{x:Int}:∀{as:List Atm} {ow:List Int},x∈qD sc ow as→x∈ow∨∃a∈as,eqD a.k (.ofNat 1)=true∧a.n=x
 |[],ow,h=>.inl h
 | a::r,ow,h=>by
  simp only[qD]at h;rcases Qc h with h|⟨b,hb,h1,h2⟩
  ·cases hk:eqD a.k (.ofNat 1)with
   |false=>rw[hk]at h;exact .inl h
   |true=>
    rw[hk,cond_true,Zq]at h;rcases h with h|⟨h,_⟩
    ·exact .inl h
    ·exact .inr ⟨a,by simp,hk,h.symm⟩
  ·exact .inr ⟨b,by simp[hb],h1,h2⟩
theorem KM{sc:List Int}{x:Int}:∀{l ow:List Int},x∈pF sc ow l→x∈ow∨x∈l
 |[],ow,h=>.inl h
 | a::r,ow,h=>by
  simp only[pF]at h;rcases KM h with h|h
  ·rw[Zq]at h;rcases h with h|⟨h,_⟩
   ·exact .inl h
   ·exact .inr (by simp[h])
  ·exact .inr (by simp[h])
section
variable {c:Cd}{f:Fn}{S:List (List Int)}{i:Nat}(hS:∀j,∀x∈S.getD j [],wg x c.vars=true)
include hS
mutual
theorem Vj:∀(t:Trm) (sc ow:List Int),qv c f t=true→(∀x∈ow,wg x c.vars=true)→∀x∈vn S i t sc ow,wg x c.vars=true
 | .mk k v op n fn as ks,sc,ow,ht,ho=>by
  simp only[qv,zq]at ht;simp only[vn];refine WL ks _ _ ht.2 fun x hx=>?_;have hat:=ht.1;unfold qN at hat
  rw[zq]at hat
  have hats:=List.all_eq_true.1 hat.1;have ha:∀x∈qD sc ow as,wg x c.vars=true:=fun x hx=>by
   rcases Qc hx with hx|⟨a,ha,hk,rfl⟩
   ·exact ho x hx
   ·rcases pN.1 (hats a ha)with ⟨_,h⟩|⟨h,_⟩
    ·exact h
    ·rw[h]at hk;cases hk
  unfold lc at hx;cases hk:eqD k (.ofNat 2)with
  |false=>rw[hk]at hx;exact ha x hx
  | true=>
   rw[hk,cond_true]at hx;split at hx
   ·exact ha x hx
   ·rcases KM hx with hx|hx
    ·exact ha x hx
    ·exact hS _ x hx
theorem WL:∀(ks:List Trm) (sc ow:List Int),qK c f ks=true→(∀x∈ow,wg x c.vars=true)→∀x∈qU S i ks sc ow,wg x c.vars=true
 |[],_,ow,_,ho=>by simp only[qU];exact ho
 |x::r,sc,ow,ht,ho=>by
  simp only[qK,zq]at ht;simp only[qU];exact Vj x sc _ ht.1 (WL r sc ow ht.2 ho)
end
end
theorem Qk{c:Cd}:∀(fs:List Fn) (i:Nat) (S:List (List Int)),(∀f∈fs,qv c f f.b=true)→i+fs.length≤S.length→(∀j,∀x∈S.getD j [],wg x c.vars=true)→∀j,∀x∈(uU fs i S).getD j [],wg x c.vars=true
 |[],_,_,_,_,h=>h
 |f::r,i,S,hf,hl,h=>by
  simp only[uU];simp only[yb]at hl;refine Qk r (i+1) _ (fun g hg=>hf g (by simp[hg])) (by rw[List.length_set];omega) fun j x hx=>?_
  rw[lD oM]at hx;split at hx
  ·exact Vj h f.b _ _ (hf f (by simp)) (h i) x hx
  ·exact h j x hx
theorem Gh:∀(fs:List Fn) (i:Nat) (S:List (List Int)),(uU fs i S).length=S.length
 |[],_,_=>rfl
 |f::r,i,S=>by simp only[uU];rw[Gh r,List.length_set]
theorem Qj{c:Cd}(h:∀f∈c.fs,qv c f f.b=true):∀j,∀x∈(wz c).getD j [],wg x c.vars=true:=by
 have key:∀k,(itS c k).length=c.fs.length∧∀j,∀x∈(itS c k).getD j [],wg x c.vars=true:=fun k=>by
  induction k with
  | zero=>
   simp only[itS];refine⟨List.length_replicate,fun j x hx=>?_⟩;have e:(List.replicate c.fs.length ([]:List Int)).getD j []=[]:=by
    rw[xe];by_cases h:j<c.fs.length
    ·rw[zi6,if_pos h];rfl
    ·rw[zi6,if_neg h];rfl
   rw[e]at hx;cases hx
  |succ k ih=>
   simp only[itS,jH];exact⟨by rw[Gh];exact ih.1,Qk c.fs 0 _ h (by rw[ih.1];omega) ih.2⟩
 exact(key _).2
open Int renaming reduceOfNat → rO, reduceNegSucc → rN
def wE(l:List Int):List Int:=l.mergeSort fun x y=>decide (x≤y)
theorem lP(l:List Int):(wE l).length=l.length:=List.length_mergeSort l
structure SrPre(x:Nat×Nat×List Int)(args:List AV)(s:St):Prop where
 args:args=[.fn 51 [] [.ptr x.1 0]]
 row:s.get x.1=some (.row 74 [.map x.2.1] false false)
 map:s.get x.2.1=some (.umap (uS x.2.2))
 nd:x.2.2.Nodup
 len:x.2.2.length<1000000000
 rng:∀y∈x.2.2,0≤y∧y< .ofNat 9223372036854775808
theorem SrPre.uniq{x y:Nat×Nat×List Int}{args:List AV}(h:SrPre x args s)(g:SrPre y args s):x=y:=by
 obtain⟨p,m,l⟩:=x;obtain⟨p',m',l'⟩:=y;have h1:=h.args.symm.trans g.args;simp only[List.cons.injEq,AV.fn.injEq,AV.ptr.injEq,true_and,and_true]at h1;subst h1;have h2:=h.row.symm.trans g.row;simp only[Option.some.injEq,AObj.row.injEq,List.cons.injEq,AV.map.injEq,true_and,and_true]at h2;subst h2;have h3:=h.map.symm.trans g.map;simp only[Option.some.injEq,AObj.umap.injEq]at h3;rw[zxA h3]
open Classical in
noncomputable def uP(args:List AV)(s:St):Option (AV×St):=
 if h:∃x,SrPre x args s then some (qu (wE (zi3 h).2.2),s)else none
theorem V7{x:Nat×Nat×List Int}{args:List AV}(h:SrPre x args s):uP args s=some (qu (wE x.2.2),s):=by
 have hx:∃x,SrPre x args s:=⟨x,h⟩;unfold uP;rw[dif_pos hx,(xg hx).uniq h]
def qY(l:List Int):List AV:=[qu l]
theorem Yr(l:List Int):(qY l).length=1:=rfl
theorem Lr(l:List Int):wd (qY l)=true:=rfl
theorem Lq(l:List Int):xY (qY l)=true:=by simp only[qY,wp,ZY,wA,Bool.and_self]
def jj(ls:List (List Int)):AV:=.lst ls.length false (xP qY ls)
noncomputable def WX(P:Program)(w0:World)(c:Cd):List (List Int):=bif eqD (uW P w0 c) (.ofNat 0)then (wz c).map wE else []
noncomputable def zrT(P:Program)(w0:World)(N:Nat):List AV→St→Option (AV×St):=vF qI (ChPre N) (fun c=>jj (WX P w0 c))
section
variable {O:Orc}
theorem zmd(h34:O 34=none)(id:Nat)(L:List (Nat×Option AObj))(n m:Nat):Cv ((evW env O).call 34 [.map id] (KL L n m false [] none)) fun v t=>∃m2,v=.fn 51 [] [.ptr n 0]∧t=KL ((n,some (.row 74 [.map id] false false))::L) (n+1) m2 false [] none:=by
 refine qb (F:=f34) h34 rfl rfl (ziw rfl) ?_;unfold f34;simp only[Ko];refine xQ ?_;refine xQ ?_;refine xO ?_;refine xW ?_;exact⟨_,rfl,rfl⟩
end
section
variable {P:Program}{w0:World}(B:Bx P w0){O:Orc}{N:Nat}(hO:OrcOk P w0 O)
include B hO
attribute [local go_sem] ltF gtF zzz zlB xZ x4 ziJ ziN ziM ziH wZ wP wR qu in
theorem znU(h30:O 30=some (G8 P w0 N))(h32:O 32=none)(h33:O 33=some uP)(h34:O 34=none)(h48:O 48=some (YC 900000000))(c:Cd)(hc:ChPre N c):∃s1,SC P w0 12 (qI c) (s00 0 true) (jj (WX P w0 c)) s1:=by
 refine bew B hO f12 ?_;have hea:=fun s=>oc h30 vJ c hc.ea (uC c) s;obtain⟨R,hR⟩:∃R,WX P w0 c=R:=⟨_,rfl⟩;rw[hR];unfold WX at hR;have hw:=fun h=>Gv hc (kl (P:=P) (w0:=w0) (c:=c) h).1;have hwf:=fun h=>Z8 (kl (P:=P) (w0:=w0) (c:=c) h).1;generalize uW P w0 c=e at *;cases c1:eqD e (.ofNat 0)with
 |false=>
  rw[c1]at hR;simp only[cond_false]at hR;subst hR;clear hw hwf;obtain⟨fs,main,vars,globals,consts⟩:=c;unfold f12;simp only[qI,vd,wC]at hea⊢;refine xQ ?_;refine xQ ?_;refine xW ?_;exact uO
 | true=>
  rw[c1]at hR;simp only[cond_true]at hR;have he:e=.ofNat 0:=by simpa [eqD]using c1
  subst he;obtain⟨hok,hon⟩:=hw rfl;have hwt:=hwf rfl;clear hwf;have hse:=fun{L0 n0} (hw0:WfA L0 n0) m=>zwX h32 h48 hok hw0 m false;have hnf:=hc.ea.sz.n;have hus:=hc.us;have hrg:∀j,∀x∈(wz c).getD j [],0≤x∧x< .ofNat 9223372036854775808:=fun j x hx=>by
   have h1:=jr.1 (Qj (fun f hf=>(hwt f hf).2.1) j x hx);exact⟨h1.1,Int.lt_trans h1.2 hc.vs⟩
  clear hwt;have hS:SOk (jl c) c.fs.length (wz c):=gA c (Yp c);clear hw hok hon c1 hc;unfold f12;generalize wz c=SS at *;generalize jl c=U at *;obtain⟨fs,main,vars,globals,consts⟩:=c;simp only[qI,vd,wC]at hea hse hnf hS⊢;have hSl:=hS.len;refine xQ ?_;refine xQ ?_;refine xR (xR (qt ?_));refine wc (hse (fun j hj=>by rw[xL,if_neg oM];rfl) _) fun v t hv=>?_
  obtain⟨ids,fid,L,n,m,rfl,rfl,hM,hil,hn,hfr⟩:=hv;clear hse hfr hea;refine xO ?_;refine xT ?_;refine wx (fun i:Nat=>fs.length-i) (fun i f t=>∃T L2 n2 m2 oid out,f=⟨tmL T,[]⟩∧t=KL L2 n2 m2 false [] none∧(tmL T).get 2=some (gSl 1 oid out.length)∧(tmL T).get 9=some (.sl fid 0 fs.length (.fix fs.length))∧(tmL T).get 10=some (.int .i64 (.ofNat fs.length))∧(tmL T).get 11=some (.int .i64 (.ofNat i))∧i≤fs.length∧SetM ids SS fid (0+1) L2 n2∧out.length=i∧out++(SS.drop i).map wE=R∧(out≠[]→oid<n2∧xN L2 oid=some (.row 40 (xP qY out) true false))) (fun i f t hI=>?_) 0 ⟨_,L,n,_,0,[],rfl,rfl,by simp (disch:=first|exact dis|fail)only[go_sem,seval,-rO,-rN,gSl],sW,sW,sW,zQ _,hM,rfl,hR,fun h=>absurd rfl h⟩
  clear hR hM hn;obtain⟨T,L2,n2,m2,oid,out,rfl,rfl,t2,t9,t10,t11,hi,hM,rfl,hR,hg⟩:=hI;rcases wi SS out.length with ⟨hlt,hd⟩|⟨l,hlt,hd⟩
  ·rw[hd]at hR;simp only[yN,ziA]at hR;subst hR;have hni:¬out.length<fs.length:=oM;clear hM;refine xO ?_;refine xO ?_;refine xW ?_;have hfl:∀(s:St) (ls:List (List Int)),FzL s (xP qY ls) (xP qY ls):=fun s ls=>by
    induction ls with
    |nil=>exact vC
    |cons x r ih=>exact x0 (vO (Zc x) (GY x)) ih
   cases out with
   |nil=>exact uO
   |cons x r=>
    obtain⟨_,q⟩:=hg (by simp)
    have hp:xY (xP qY (x::r))=true:=wG Lq _;show Fz _ (.sl oid 0 (r.length+1) (.opn 1)) (.lst (x::r).length false (xP qY (x::r)));simp only[Fz];refine⟨hp,.inr ⟨trivial,oid,0,.opn 1,_,_,_,_,xP qY (x::r),rfl,trivial,by rw[wh];exact q,?_,hfl _ _⟩⟩
    show wj _ (wH 0 _)=_;exact w6 rfl
  ·rw[hd]at hR;simp only[zD]at hR;have hii:out.length<ids.length:=oM;have hid:ids[out.length]? =some ids[out.length]:=yH hii;generalize hidd:ids[out.length]=id at hid;have gid:=hM.maps out.length id hid;have hlt2:SS.getD out.length []=l:=by
    rw[xe,←zhd,hd];rfl
   have hnd:=hS.nd out.length;have hrgl:=hrg out.length;rw[hlt2]at hrgl;have hlen:l.length≤U.length:=by
    have h1:=hS.sub out.length;rw[hlt2]at h1 hnd;exact Zr hnd h1
   rw[hlt2]at gid hnd;have grow:=hM.row;have hidn:=hM.wf.lt gid;have hfn:=hM.wf.lt grow;have hcut2:wj 1 (wH out.length (ids.map AV.map))=some [.map id]:=by
    have:(ids.map AV.map).drop out.length=.map id::(ids.map AV.map).drop (out.length+1):=by
     rw[ziO (by simpa using hii)]
     simp[hidd]
    rw[wY,this];rfl
   have hsr:∀m,(evW env O).call 33 [.fn 51 [] [.ptr n2 0]] (KL ((n2,some (.row 74 [.map id] false false))::L2) (n2+1) m false [] none)=some (qu (wE l),KL ((n2,some (.row 74 [.map id] false false))::L2) (n2+1) m false [] none):=fun m=>by
    rw[wN h33,V7 (x:=(n2,id,l)) ⟨rfl,by rw[wh,xS],by rw[wh,xL,if_neg (show ¬id=n2 by omega)];exact gid,hnd,by simp only;omega,hrgl⟩]
   simp only[qu]at hsr;have hw2:∀o1 o2:Option AObj,WfA ((n2+1,o1)::(n2,o2)::L2) (n2+1+1):=fun o1 o2=>by
    have hw:=hM.wf
    repeat first|exact hw.up oM|refine WfA.same ?_ oM
   have hid2:∀o1 o2:Option AObj,out≠[]→oid<n2+1+1∧xN ((n2+1,o1)::(n2,o2)::L2) oid=some (.row 40 (xP qY out) true false):=fun o1 o2 hne=>by
    obtain⟨q1,q2⟩:=hg hne;exact⟨oM,by rw[xL,if_neg oM,xL,if_neg oM];exact q2⟩
   have hsrc:∀m o2,qC (KL ((n2+1,some (AObj.row 40 (qY (wE l)) false false))::(n2,o2)::L2) (n2+1+1) m false [] none) 1 1 (.sl (n2+1) 0 1 (.fix 1))=some (qY (wE l)):=fun m o2=>(lr (j:=0) (by rw[wh,xS]) rfl).2
   have hke:=fun L n m=>zmd h34 id L n m;have hfne:out≠[]→fid≠oid:=fun hne e=>by
    obtain⟨_,q2⟩:=hg hne;rw[←e,grow]at q2;simp at q2
   have hine:out≠[]→oid∉ids:=fun hne hm=>by
    obtain⟨_,q2⟩:=hg hne;obtain⟨j,hj⟩:=List.getElem?_of_mem hm;have:=hM.maps j oid hj;rw[q2]at this;cases this
   clear hd hlt2;refine xQ ?_;refine xR (qW sW ?_);refine xO ?_;refine xR (xT ?_);refine xQ ?_;refine qt ?_;refine wc (hke _ _ _) fun v t hv=>?_;obtain⟨m3,rfl,rfl⟩:=hv;clear hke;refine qt ?_;refine wc (zzL (f:=qY) (id:=oid) (vs:=out) (w:=wE l) Yr Lr oM (hid2 _ _) (hw2 _ _) rfl (hsrc _ _) oM oM) fun v t hv=>?_;obtain⟨L7,m7,rfl,rfl,g7,hw7,hf7⟩:=hv;have hcat:=vZ out (wE l);have hM7:SetM ids SS fid (0+1) L7 (n2+1+1+1):=hM.oth hw7 fun j hj hjj=>by
    rw[hf7 j oM fun hne e=>by
     rcases hjj with h|h
     ·exact hfne hne (by rw[←h,e])
     ·exact hine hne (e▸h),xL,if_neg oM,xL,if_neg oM]
   clear hw2 hid2 hsrc hfne hine hM hf7 hsr hg gid grow;refine xO ?_;refine xO ?_;exact⟨out.length+1,⟨_,L7,n2+1+1+1,_,n2+1+1,out++[wE l],rfl,rfl,sV,sV,sV,sV,oM,hM7,hcat,by rw[ziV];exact hR,fun _=>⟨oM,g7⟩⟩,oM⟩
end
def lf(w:Int):AV:=.agg [.int .i64 w]
def uM(N:List (Int×Int)):List (Int×AV):=N.map fun p=>(p.1,lf p.2)
def lkM(v:Int):List (Int×Int)→Option Int
 |[]=>none
 |p::r=>if p.1=v then some p.2 else lkM v r
theorem Hc(v:Int):∀N:List (Int×Int),gH v (uM N)=(lkM v N).map lf
 |[]=>rfl
 |p::r=>by
  simp only[uM,zD,gH,kL,lkM];by_cases h:p.1=v
  ·rw[decide_eq_true h,if_pos h];rfl
  ·rw[decide_eq_false h,if_neg h,cond_false];exact Hc v r
def QC(v w:Int):List (Int×Int)→List (Int×Int)
 |[]=>[(v,w)]
 |p::r=>if p.1=v then (v,w)::r else p::QC v w r
theorem HB(v w:Int):∀N:List (Int×Int),pq v (lf w) (uM N)=uM (QC v w N)
 |[]=>rfl
 |p::r=>by
  simp only[uM,zD,pq,kL,QC];by_cases h:p.1=v
  ·rw[decide_eq_true h,if_pos h,h];rfl
  ·rw[decide_eq_false h,if_neg h,cond_false];have:=HB v w r;simp only[uM]at this;rw[this];rfl
def nmF(N:List (Int×Int))(v:Int):Int:=(lkM v N).getD v
section
variable {O:Orc}
attribute [local go_sem] kh Yg lj li xZ x4 ziJ ziN ziM ziH wZ lf in
theorem zox(h52:O 52=none){L:List (Nat×Option AObj)}{N:List (Int×Int)}(g:xN L id=some (.umap (uM N)))(v:Int)(n m:Nat)(b:Bool)(hid:id<n):
  (evW env O).call 52 [.int .i64 v,.map id] (KL L n m b [] none)=some (.agg (wn ⟨.ofNat 1,nmF N v⟩),KL L n m b [] none):=by
 have key:Cv ((evW env O).call 52 [.int .i64 v,.map id] (KL L n m b [] none)) fun r t=>r=.agg (wn ⟨.ofNat 1,nmF N v⟩)∧t=KL L n m b [] none:=by
  refine vB (F:=f52) h52 rfl rfl (ziw rfl) ?_;have hg:=Hc v N;have hne:¬id=n:=oM;have hnn:¬n=n+1:=oM;unfold f52;simp only[nmF];cases hl:lkM v N with
  |none=>
   rw[hl]at hg;simp only[Option.map_none]at hg;refine xQ ?_;refine xO ?_;refine xW ?_;exact⟨rfl,rfl⟩
  |some w=>
   rw[hl]at hg;simp only[Option.map_some]at hg;refine xQ ?_;refine xO ?_;refine xW ?_;exact⟨rfl,rfl⟩
 obtain⟨r,t,h,rfl,rfl⟩:=key;exact h
end
theorem zqw{m i:Nat}(h:n≤i):u0 m i%2^n=m%2^n:=by rw[zwm];exact xZ h
theorem Q7{α:Type}{f:α→List AV}{t:Nat}(hl:∀x,(f x).length=esz)(hp:∀x,xY (f x)=true)(hs:∀x,wd (f x)=true)(he:1≤esz){L:List (Nat×Option AObj)}{m n0:Nat}{vs:List α}{w:α}{e:Bool}(h:vs≠[]→n0≤id∧id<n∧xN L id=some (.app t (xP f vs)))(hm:m%2^n0=0)(hn0:n0≤n)(hb:2*(vs.length+1)*bytes≤281474976710656)(hn:vs.length<1000000000):
  Cv (jg (KL L n m true [] none) t esz bytes (jM f esz id vs) (.lst 1 e (f w))) fun v s=>∃L' m',v=jM f esz n (vs++[w])∧s=KL L' (n+1) m' true [] none∧xN L' n=some (.app t (xP f (vs++[w])))∧m'%2^n0=0∧(∀j,j<n→(vs≠[]→j≠id)→xN L' j=xN L j):=by
 cases vs with
 |nil=>
  refine⟨_,_,Jy L n m [] none t esz bytes e (f w) (hl w) he (by simp only[xz]at hb;omega) (hp w),_,_,?_,rfl,?_,hm,fun j hj _=>by rw[xL,if_neg oM]⟩
  ·simp only[ziQ,jM,qM,yb,xz]
  ·rw[xS];simp only[ziQ,qM]
 |cons u us=>
  obtain⟨h1,h2,h3⟩:=h (by simp)
  have hap:=zxI L n m true t esz bytes id (u::us).length e (xP f (u::us)) (f w) h3 (hl w) he hb hn (wG hp _) (hp w) (hs w);refine⟨_,_,hap,_,_,?_,rfl,?_,?_,fun j hj hne=>by rw[xL,if_neg oM,xL,if_neg (hne (by simp))]⟩
  ·simp only[jM,zM,yA,yb,xz,yO];rw[←zM,wQ,qM]
  ·rw[xS,wQ,qM]
  ·rw[xZ h1];exact hm
def rnA(nm:List (Int×Int))(a:Atm):Atm:=bif eqD a.k (.ofNat 1)then ⟨.ofNat 1,nmF nm a.n⟩else a
def vrA(nm:List (Int×Int))(v:Int):Atm:=⟨.ofNat 1,nmF nm v⟩
def knF(c:Cd)(kn:List (Int×Int))(as:List Atm):Option Int:=
 match as with
 |[]=>none
 |a::r=>match lkM a.n kn with
  |some t=>bif eqD a.k (.ofNat 1)&&(!(kD c t).rest&&decide ((kD c t).ps.length=r.length))then some t else none
  |none=>none
def hdF(c:Cd)(fr:List (List Int))(kn nm:List (Int×Int))(k fn:Int)(as:List Atm):Int×Int×List Atm:=
 bif eqD k (.ofNat 2)then (k,fn,as.map (rnA nm)++(fr.getD fn.toNat []).map (vrA nm))
 else bif eqD k (.ofNat 4)then
  (match knF c kn as with
   |some t=>(.ofNat 5,t,as.map (rnA nm))
   |none=>(k,fn,as.map (rnA nm)))
 else (k,fn,as.map (rnA nm))
def zqW(c:Cd)(fr:List (List Int))(kn nm:List (Int×Int)):Trm→Trm
 |.mk k v op n f as ks=>.mk (hdF c fr kn nm k f as).1 v op n (hdF c fr kn nm k f as).2.1 (hdF c fr kn nm k f as).2.2 ks
mutual
def tmF(c:Cd)(fr:List (List Int))(kn nm:List (Int×Int)):Trm→Trm
 |.mk k v op n f as ks=>.mk (hdF c fr kn nm k f as).1 v op n (hdF c fr kn nm k f as).2.1 (hdF c fr kn nm k f as).2.2 (jN c fr kn nm ks)
def jN(c:Cd)(fr:List (List Int))(kn nm:List (Int×Int)):List Trm→List Trm
 |[]=>[]
 |t::r=>tmF c fr kn nm t::jN c fr kn nm r
end
def zvi(k op:Int):Bool:=eqD k (.ofNat 5)||(eqD k (.ofNat 1)&&(eqD op (.ofNat 105)||eqD op (.ofNat 106)))
mutual
def opF:Trm→List (Int×Int)→Option (List (Int×Int))
 |.mk k v op n f as ks,kn=>bif zvi k op then none else Ht ks (bif eqD k (.ofNat 2)then QC v f kn else kn)
def Ht:List Trm→List (Int×Int)→Option (List (Int×Int))
 |[],kn=>some kn
 |x::r,kn=>(Ht r kn).bind (opF x)
end
def pJ(b:Int):List Int→Nat→List (Int×Int)→List (Int×Int)
 |[],_,N=>N
 |v::r,k,N=>pJ b r (k+1) (QC v (b+ .ofNat k) N)
def ug(b:Int):Nat→Trm→Trm
 |0,t=>t
 |k+1,t=>ug b k (.mk (.ofNat 1) (b+ .ofNat k) (.ofNat 105) (.ofNat k) (.ofNat 0) [] [t])
def jp:List (List Int)→Int→List Int
 |[],_=>[]
 |l::r,b=>b::jp r (b+ .ofNat l.length)
def pG:List (List Int)→Int→Int
 |[],b=>b
 |l::r,b=>pG r (b+ .ofNat l.length)
def gw(c:Cd)(fr:List (List Int))(kn:List (Int×Int)):List Fn→List (List Int)→Int→List Fn
 |f::r,l::ls,b=>{f with fr:=l,b:=ug b l.length (tmF c fr kn (pJ b l 0 []) f.b)}::gw c fr kn r ls (b+ .ofNat l.length)
 |_,_,_=>[]
def gY:List Fn→List (Int×Int)→Option (List (Int×Int))
 |[],kn=>some kn
 |f::r,kn=>bif decide (0<f.fr.length)then none else (opF f.b kn).bind (gY r)
section
variable {O:Orc}
attribute [local go_sem] kh Yg lj li kO XD lf ltF gtF xZ x4 ziJ ziN ziM ziH wZ in
theorem zmz(h19:O 19=none){cp kid:Nat}{a0 a1 a2 a3 a4 a5 a6:AV}:∀(k:Nat) (t:Trm),wJ t≤k→SzT t→Qo t→∀(L:List (Nat×Option AObj)) (n m:Nat) (met:List (Int×Int)),WfA L n→xN L cp=some (.row 56 [a0,a1,a2,a3,a4,a5,a6,.map kid] false false)→xN L kid=some (.umap (uM met))→
  Cv ((evW env O).call 19 [.ptr cp 0,ud t] (KL L n m false [] none)) fun v s=>∃L2 n2 m2,s=KL L2 n2 m2 false [] none∧n≤n2∧WfA L2 n2∧(∀j,j<n→j≠kid→xN L2 j=xN L j)∧((opF t met=none∧v=.bool false)∨∃met2,opF t met=some met2∧v=.bool true∧xN L2 kid=some (.umap (uM met2))):=by
 intro k
 induction k with
 |zero=>intro t h;have:=ui t;omega
 | succ k ih=>
  intro t hk hsz hk2 L n m met hw hcp hid;refine qb (F:=f19) h19 rfl rfl (ziw rfl) ?_;have hcpn:=hw.lt hcp;have hck:cp≠kid:=fun e=>by rw[e,hid]at hcp;cases hcp
  have hidn:=hw.lt hid;obtain⟨R,hR⟩:∃R,opF t met=R:=⟨_,rfl⟩;rw[hR];simp only[ud]at ih⊢;unfold f19;simp only[Ko,Kg,Kn,Kd,Kf,Ki];have hl7:=w6 (wu t);have hc7:=jy t;refine xQ ?_;refine xT ?_;refine wx (fun x:Trm×List (Int×Int)=>wJ x.1) (fun x f t'=>∃T L2 n2 m',f=⟨tmL T,[]⟩∧t'=KL L2 n2 m' false [] none∧(tmL T).get 0=some (.ptr cp 0)∧(tmL T).get 3=some (.ptr n 0)∧n+1≤n2∧WfA L2 n2∧xN L2 n=some (vl x.1)∧xN L2 cp=some (.row 56 [a0,a1,a2,a3,a4,a5,a6,.map kid] false false)∧xN L2 kid=some (.umap (uM x.2))∧wJ x.1≤k+1∧SzT x.1∧Qo x.1∧opF x.1 x.2=R∧∀j,j<n→j≠kid→xN L2 j=xN L j) (fun x f t' hI=>?_) (t,met) ⟨_,_,_,_,rfl,rfl,sW,sW,oM,?_,?_,?_,?_,hk,hsz,hk2,hR,fun j h1 h2=>?_⟩
  ·clear hR hsz hk hk2 hl7 hc7 hid hw hcp t met;obtain⟨T,L2,n2,m',rfl,rfl,t0,t3,hn2,hw,g0,gc,gid,hk,hsz,hk2,hR,hfr⟩:=hI;obtain⟨⟨tk,v,op,num,fn,as,ks⟩,met⟩:=x;simp only at g0 gid hk hsz hk2 hR⊢;simp only[opF,zvi]at hR;simp only[SzT]at hsz;simp only[Qo]at hk2;simp only[vl,xU]at g0;simp only[wJ]at hk;have hcn:¬cp=n:=oM;have hkn:¬kid=n:=oM;refine xT ?_;cases c5:eqD tk (.ofNat 5)with
   |true=>
    rw[c5]at hR;simp only[ziI,cond_true]at hR;subst hR;refine xO ?_;refine xW ?_;exact⟨_,_,_,rfl,oM,hw,hfr,.inl ⟨trivial,rfl⟩⟩
   |false=>
   cases cb:(eqD tk (.ofNat 1)&&(eqD op (.ofNat 105)||eqD op (.ofNat 106)))with
   | true=>
    rw[c5,cb]at hR;simp only[ziG,cond_true]at hR;subst hR;rw[zq,Bool.or_eq_true]at cb;obtain⟨cb1,cb2⟩:=cb;cases c105:eqD op (.ofNat 105)with
    |true=>
     refine xO ?_;refine xW ?_;exact⟨_,_,_,rfl,oM,hw,hfr,.inl ⟨trivial,rfl⟩⟩
    |false=>
     have c106:eqD op (.ofNat 106)=true:=by rcases cb2 with h|h;rw[c105]at h;cases h;exact h
     clear cb2;refine xO ?_;refine xW ?_;exact⟨_,_,_,rfl,oM,hw,hfr,.inl ⟨trivial,rfl⟩⟩
   |false=>
   rw[c5,cb]at hR;simp only[Bool.or_self,cond_false]at hR;refine vM (fun f t'=>∃T,f=⟨tmL T,[]⟩∧t'=KL L2 n2 m' false [] none∧(tmL T).get 0=some (.ptr cp 0)∧(tmL T).get 3=some (.ptr n 0)) ?_ fun f t' hI=>?_
   ·cases c1:eqD tk (.ofNat 1)with
    |false=>
     refine xO ?_;exact⟨_,rfl,trivial,sV,sV⟩
    |true=>
     rw[c1,yP,Bool.or_eq_false_iff]at cb;obtain⟨c105,c106⟩:=cb;refine xO ?_;exact⟨_,rfl,trivial,sV,sV⟩
   clear cb t0 t3 T;obtain⟨T,rfl,rfl,t0,t3⟩:=hI;refine vM (fun f t'=>∃T L3 n3 m3 met3,f=⟨tmL T,[]⟩∧t'=KL L3 n3 m3 false [] none∧(tmL T).get 0=some (.ptr cp 0)∧(tmL T).get 3=some (.ptr n 0)∧n+1≤n3∧WfA L3 n3∧xN L3 n=some (.row 44 [.int .i64 tk,.int .i64 v,.int .i64 op,.int .i64 num,.int .i64 fn,.lst as.length false (xP wn as),.lst ks.length false (x7 ks)] false false)∧xN L3 cp=some (.row 56 [a0,a1,a2,a3,a4,a5,a6,.map kid] false false)∧xN L3 kid=some (.umap (uM met3))∧Ht ks met3=R∧∀j,j<n→j≠kid→xN L3 j=xN L j) ?_ fun f t' hI=>?_
   ·cases c2:eqD tk (.ofNat 2)with
    |false=>
     rw[c2,cond_false]at hR;refine xO ?_;exact⟨_,_,_,_,met,rfl,rfl,sV,sV,hn2,hw,g0,gc,gid,hR,hfr⟩
    |true=>
     rw[c2,cond_true]at hR;have hsu:=HB v fn met;simp only[lf]at hsu;refine xO ?_;refine⟨_,_,_,_,QC v fn met,rfl,rfl,sV,sV,oM,?_,?_,?_,?_,hR,fun j h1 h2=>?_⟩
     ·(repeat first|exact hw.up oM|refine WfA.same ?_ oM)
     ·(repeat (rw[xL,if_neg oM]));exact g0
     ·(repeat (rw[xL,if_neg oM]));exact gc
     ·(repeat first|exact xS _ _ _|rw[xL,if_neg oM])
     ·(repeat (rw[xL,if_neg oM]));exact hfr j h1 h2
   clear hR gid g0 gc hfr hw hn2 t0 t3 c5;clear met T L2 n2 m';obtain⟨T,L2,n2,m',met,rfl,rfl,t0,t3,hn2,hw,g0,gc,gid,hR,hfr⟩:=hI;rcases ks with _|⟨x,_|⟨y,_|⟨z,w⟩⟩⟩
   rotate_right
   ·have:=hk2.1;simp only[yb]at this;omega
   ·simp only[Ht]at hR;subst hR;simp only[xz]at g0;refine xO ?_;refine xW ?_;exact⟨_,_,_,rfl,oM,hw,hfr,.inr ⟨met,rfl,rfl,gid⟩⟩
   ·simp only[Ht,ziP,qo,hZ,Y2,and_true]at hR hk hsz hk2;have hc:wj 7 (x7 [x])=some (x3 x):=by rw[qi];exact vx (wu x)
    obtain⟨k2,v2,op2,num2,f2,as2,ks2⟩:=x;simp only[xU]at hc;simp only[yb,xz]at g0;refine xQ ?_;refine xO ?_;refine⟨(_,met),⟨_,_,_,_,rfl,rfl,sV,sV,oM,?_,?_,?_,?_,by simp only;omega,hsz.2.2,hk2.2,hR,fun j h1 h2=>?_⟩,by simp only[wJ,qo];omega⟩
    ·exact WfA.same hw oM
    ·rw[xS];simp only[vl,xU]
    ·rw[xL,if_neg oM];exact gc
    ·rw[xL,if_neg oM];exact gid
    ·rw[xL,if_neg oM];exact hfr j h1 h2
   ·simp only[Ht,ziP,qo,hZ,Y2,and_true]at hR hk hsz hk2;have hc:wj 7 (x7 [x,y])=some (x3 x):=by rw[qi];exact vx (wu x)
    have hc2:wj 7 (wH 7 (x7 [x,y]))=some (x3 y):=by
     simp only[qi,jz,ziA];rw[wY,List.drop_left' (wu x)];exact w6 (wu y)
    have hpx:=ui x;have hih:=fun m=>ih y oM hsz.2.2.2 hk2.2.2 L2 n2 m met hw gc gid;obtain⟨k2,v2,op2,num2,f2,as2,ks2⟩:=x;simp only[xU]at hc;simp only[yb,xz]at g0;clear ih;refine xR ?_;refine xQ ?_;refine xT ?_;refine xQ ?_;refine ve sW ?_;refine xQ ?_;refine qW sW ?_;refine xR ?_;refine qt ?_;refine wc (hih _) fun v t hv=>?_;obtain⟨L3,n3,m3,rfl,q1,q2,q3,⟨e1,rfl⟩|⟨met2,e1,rfl,q4⟩⟩:=hv
    ·rw[e1,Option.bind_none]at hR;subst hR;clear hih;refine xO ?_;refine xO ?_;refine xW ?_;exact⟨_,_,_,rfl,oM,q2,fun j h1 h2=>by rw[q3 j oM h2];exact hfr j h1 h2,.inl ⟨trivial,rfl⟩⟩
    ·rw[e1,ziP]at hR;have g3:=(q3 n oM oM).trans g0;have gc3:=(q3 cp oM hck).trans gc;clear hih;refine xO ?_;refine xO ?_;refine xO ?_;refine⟨(_,met2),⟨_,_,_,_,rfl,rfl,sV,sV,oM,?_,?_,?_,?_,by simp only;omega,hsz.2.2.1,hk2.2.1,hR,fun j h1 h2=>?_⟩,by simp only[wJ,qo];omega⟩
     ·exact WfA.same q2 oM
     ·rw[xS];simp only[vl,xU]
     ·rw[xL,if_neg oM];exact gc3
     ·rw[xL,if_neg oM];exact q4
     ·rw[xL,if_neg oM,q3 j oM h2];exact hfr j h1 h2
  ·(repeat first|exact hw.up oM|refine WfA.same ?_ oM)
  ·(repeat first|exact xS _ _ _|rw[xL,if_neg oM])
  ·(repeat (rw[xL,if_neg oM]));exact hcp
  ·(repeat (rw[xL,if_neg oM]));exact hid
  ·(repeat (rw[xL,if_neg oM]))
end
theorem Yu{ls:List (List Int)}{i:Nat}{l:List Int}{r:List (List Int)}(hd:ls.drop i=l::r):wj 1 (wH i (xP qY ls))=some [qu l]:=by
 have:=WS Yr hd;rwa [Nat.mul_one]at this
section
variable {O:Orc}
attribute [local go_sem] kO XD QO lf ltF gtF xZ x4 ziJ ziN ziM ziH wZ wP wR qu in
theorem zqD(h21:O 21=none){cp kid bid bn i:Nat}{a0 a1 a2 a3 a4:AV}{fr:List (List Int)}{bz l:List Int}{L:List (Nat×Option AObj)}(hw:WfA L n)(hcp:xN L cp=some (.row 56 [a0,a1,a2,a3,a4,jj fr,gSl 1 bid bz.length,.map kid] false false))(hbs:xN L bid=some (.row 3 (xP wy bz) true false))(hb:∃r,bz.drop i=.ofNat bn::r)(hl:∃r,fr.drop i=l::r)(hbn:bn+l.length<4000000000000000000)(hln:l.length<1000000000)(m:Nat):
  Cv ((evW env O).call 21 [.ptr cp 0,.int .i64 (.ofNat i)] (KL L n m false [] none)) fun v t=>∃L2 n2 m2,v=.map n∧t=KL L2 n2 m2 false [] none∧n<n2∧WfA L2 n2∧xN L2 n=some (.umap (uM (pJ (.ofNat bn) l 0 [])))∧m2%2^n=m%2^n∧∀j,j<n→xN L2 j=xN L j:=by
 refine qb (F:=f21) h21 rfl rfl (ziw rfl) ?_;obtain⟨rb,hb⟩:=hb;obtain⟨rl,hl⟩:=hl;have hcb:=l7 hb;have hcl:=Yu hl;have hfi:i<fr.length:=by
  have:=congrArg xj hl;simp only[ziy,yb]at this;omega
 have hbi:i<bz.length:=by
  have:=congrArg xj hb;simp only[ziy,yb]at this;omega
 have hia:= @YD 1 bid bz.length i hbi;have hcpn:=hw.lt hcp;have hbdn:=hw.lt hbs;obtain⟨R,hR⟩:∃R,pJ (.ofNat bn) l 0 []=R:=⟨_,rfl⟩;rw[hR];simp only[jj,qu]at hcp hcl;unfold f21;simp only[Ko,Kn,Ki];have hcn:¬cp=n:=oM;have hbn2:¬bid=n:=oM;clear hb hl;refine xQ ?_;refine xQ ?_;refine xR (xR (xO ?_));refine xT ?_;refine wx (fun x:Nat×List (Int×Int)=>l.length-x.1) (fun x f t=>∃T L2 m2,f=⟨tmL T,[]⟩∧t=KL L2 (n+1) m2 false [] none∧(tmL T).get 0=some (.ptr cp 0)∧(tmL T).get 1=some (.int .i64 (.ofNat i))∧(tmL T).get 5=some (.map n)∧(tmL T).get 15=some (.lst l.length false (xP wy l))∧(tmL T).get 16=some (.int .i64 (.ofNat l.length))∧(tmL T).get 17=some (.int .i64 (.ofNat x.1))∧x.1≤l.length∧WfA L2 (n+1)∧xN L2 n=some (.umap (uM x.2))∧pJ (.ofNat bn) (l.drop x.1) x.1 x.2=R∧m2%2^n=m%2^n∧∀j,j<n→xN L2 j=xN L j) (fun x f t hI=>?_) (0,[]) ⟨_,_,_,rfl,rfl,sW,sW,sW,sW,sW,sW,zQ _,?_,xS _ _ _,hR,by first|rfl|exact xZ (zu _),fun j hj=>by rw[xL,if_neg oM]⟩
 ·clear hR hcl;obtain⟨T,L2,m2,rfl,rfl,t0,t1,t5,t15,t16,t17,hi,hw2,g,hR,hmm,hfr⟩:=hI;obtain⟨k,N⟩:=x;simp only at t17 hi g hR⊢;rcases wi l k with ⟨hlt,hd⟩|⟨v,hlt,hd⟩
  ·have hni:¬k<l.length:=oM;rw[hd]at hR;simp only[pJ]at hR;subst hR;clear hcp hbs;refine xO ?_;refine xO ?_;refine xW ?_;exact⟨L2,n+1,_,rfl,rfl,yc _,hw2,g,hmm,hfr⟩
  ·rw[hd]at hR;simp only[pJ]at hR;have hcv:=l7 hd;have g1:=(hfr cp hcpn).trans hcp;have g2:=(hfr bid hbdn).trans hbs;have hsu:=HB v (.ofNat (bn+k)) N;have hfr2:=fun j (hj:j<n)=>(hfr j hj).symm;simp only[lf]at hsu;clear hcp hbs hfr hd;refine xO ?_;refine⟨(k+1,QC v (.ofNat (bn+k)) N),⟨_,_,_,rfl,rfl,sV,sV,sV,sV,sV,sV,by simp only;omega,WfA.same hw2 oM,xS _ _ _,hR,(by first|exact hmm|exact(xZ (zu _)).trans hmm),fun j hj=>by rw[xL,if_neg oM];exact(hfr2 j hj).symm⟩,by simp only;omega⟩
 ·(repeat first|exact hw.up oM|refine WfA.same ?_ oM)
end
def zlJ:ICode:=match f37.body with
 |.seq _ (.seq _ (.seq a _))=>a
 |_=>.skip
section
variable {O:Orc}
attribute [local go_sem] ltF gtF xZ x4 ziJ ziN ziM ziH wZ in
theorem zqZ(h52:O 52=none){cp mid n0:Nat}{tk v op num fn:Int}{as:List Atm}{ks:List Trm}{nm:List (Int×Int)}{L:List (Nat×Option AObj)}{T:List (Nat×AV)}{m:Nat}(gm:xN L mid=some (.umap (uM nm)))(hmid:mid<n0)(g0:xN L n0=some (.row 44 [.int .i64 tk,.int .i64 v,.int .i64 op,.int .i64 num,.int .i64 fn,.lst as.length false (xP wn as),.lst ks.length false (x7 ks)] false false))(hn:n0<n)(hm:m%2^n0=0)(hal:as.length<1000000000)
  (t0:(tmL T).get 0=some (.ptr cp 0)) (t2:(tmL T).get 2=some (.map mid)) (t4:(tmL T).get 4=some (.ptr n0 0)) (t6:(tmL T).get 6=some (.ptr (n0+1) 0)) (t7:(tmL T).get 7=some .nils) {Q:Res→Fr→St→Prop}:
  Ev (evC env (evW env O) none zlJ ⟨tmL T,[]⟩ (KL L n m true [] none)) (wM (fun f t=>∃T2 L2 n2 m2 id,f=⟨tmL T2,[]⟩∧t=KL L2 n2 m2 true [] none∧(tmL T2).get 0=some (.ptr cp 0)∧(tmL T2).get 2=some (.map mid)∧(tmL T2).get 4=some (.ptr n0 0)∧(tmL T2).get 6=some (.ptr (n0+1) 0)∧(tmL T2).get 7=some (jM wn 2 id (as.map (rnA nm)))∧n≤n2∧m2%2^n0=0∧(as.map (rnA nm)≠[]→n≤id∧id<n2∧xN L2 id=some (.app 51 (xP wn (as.map (rnA nm)))))∧∀j,j<n→xN L2 j=xN L j) Q):=by
 unfold zlJ f37;simp only;obtain⟨R,hR⟩:∃R,as.map (rnA nm)=R:=⟨_,rfl⟩;rw[hR];refine xR (xO ?_);refine xT ?_;refine wx (fun i:Nat=>as.length-i) (fun i f t=>∃T2 L2 n2 m2 id out,f=⟨tmL T2,[]⟩∧t=KL L2 n2 m2 true [] none∧(tmL T2).get 0=some (.ptr cp 0)∧(tmL T2).get 2=some (.map mid)∧(tmL T2).get 4=some (.ptr n0 0)∧(tmL T2).get 6=some (.ptr (n0+1) 0)∧(tmL T2).get 7=some (jM wn 2 id out)∧(tmL T2).get 15=some (.lst as.length false (xP wn as))∧(tmL T2).get 16=some (.int .i64 (.ofNat as.length))∧(tmL T2).get 17=some (.int .i64 (.ofNat i))∧i≤as.length∧out.length=i∧n≤n2∧m2%2^n0=0∧out++(as.drop i).map (rnA nm)=R∧(out≠[]→n≤id∧id<n2∧xN L2 id=some (.app 51 (xP wn out)))∧∀j,j<n→xN L2 j=xN L j) (fun i f t hI=>?_) 0 ⟨_,_,_,_,0,[],rfl,rfl,sV,sV,sV,sV,by simp (disch:=first|exact dis|fail)only[go_sem,seval,-rO,-rN, *,jM],sV,sV,sV,zQ _,rfl,zu _,hm,hR,fun h=>absurd rfl h,fun _ _=>rfl⟩
 clear hR t0 t2 t4 t6 t7 T hm m;obtain⟨T,L2,n2,m2,id,out,rfl,rfl,t0,t2,t4,t6,t7,t15,t16,t17,hi,rfl,hn2,hm,hR,hg,hfr⟩:=hI;rcases wi as out.length with ⟨hlt,hd⟩|⟨a,hlt,hd⟩
 ·have hni:¬out.length<as.length:=oM;rw[hd]at hR;simp only[yN,ziA]at hR;subst hR;have hfr2:=fun j (hj:j<n)=>(hfr j hj).symm;clear hfr;refine xO ?_;exact⟨_,L2,n2,m2,id,rfl,rfl,sV,sV,sV,sV,sV,hn2,hm,hg,fun j hj=>(hfr2 j hj).symm⟩
 ·rw[hd,zD]at hR;have hc:=zye hd;have gm2:=(hfr mid oM).trans gm;have hvar:∀v m o1 o2,(evW env O).call 52 [.int .i64 v,.map mid] (KL ((n2,o1)::(n2,o2)::L2) (n2+1) m true [] none)=some (.agg (wn ⟨.ofNat 1,nmF nm v⟩),KL ((n2,o1)::(n2,o2)::L2) (n2+1) m true [] none):=fun v m o1 o2=>zox h52 (by rw[xL,if_neg oM,xL,if_neg oM];exact gm2) v (n2+1) m true oM
  obtain⟨ak,an⟩:=a;simp only[wn]at hc hvar;clear hd;refine xQ ?_;refine xR (qW sW ?_);refine xO ?_;refine xR (xT ?_);refine xQ ?_;cases e1:eqD ak (.ofNat 1)with
  | true=>
   have hW:rnA nm ⟨ak,an⟩=⟨.ofNat 1,nmF nm an⟩:=by unfold rnA;simp only[e1,cond_true]
   rw[hW]at hR;clear hW;refine xQ ?_;refine qt ?_;refine wc (Q7 (f:=wn) (n0:=n0) (id:=id) (vs:=out) (w:=⟨.ofNat 1,nmF nm an⟩) jU vU pU oM (fun hne=>?_) (by (repeat rw[xZ oM]);exact hm) oM oM oM) fun v t hv=>?_
   ·obtain⟨q1,q2,q3⟩:=hg hne;refine⟨oM,oM,?_⟩
    (repeat rw[xL,if_neg oM])
    exact q3
   obtain⟨L5,m5,rfl,rfl,g5,hm5,hf5⟩:=hv;have hcat:=vZ out ⟨.ofNat 1,nmF nm an⟩;have hfr3:∀j,j<n→xN L j=xN L5 j:=fun j hj=>by
    rw[hf5 j oM fun hne=>by have:=(hg hne).1;omega]
    (repeat rw[xL,if_neg oM])
    exact(hfr j hj).symm
   clear hvar hf5 hg hfr gm2;refine xO ?_;refine xO ?_;exact⟨out.length+1,⟨_,L5,n2+1+1,m5,n2+1,out++[⟨.ofNat 1,nmF nm an⟩],rfl,rfl,sV,sV,sV,sV,sV,sV,sV,sV,oM,hcat,oM,hm5,by rw[ziV];exact hR,fun _=>⟨oM,oM,g5⟩,fun j hj=>(hfr3 j hj).symm⟩,oM⟩
  | false=>
   have hW:rnA nm ⟨ak,an⟩=⟨ak,an⟩:=by unfold rnA;simp only[e1,cond_false]
   rw[hW]at hR;clear hW;refine xQ ?_;refine qt ?_;refine wc (Q7 (f:=wn) (n0:=n0) (id:=id) (vs:=out) (w:=⟨ak,an⟩) jU vU pU oM (fun hne=>?_) (by (repeat rw[xZ oM]);exact hm) oM oM oM) fun v t hv=>?_
   ·obtain⟨q1,q2,q3⟩:=hg hne;refine⟨oM,oM,?_⟩
    (repeat rw[xL,if_neg oM])
    exact q3
   obtain⟨L5,m5,rfl,rfl,g5,hm5,hf5⟩:=hv;have hcat:=vZ out ⟨ak,an⟩;have hfr3:∀j,j<n→xN L j=xN L5 j:=fun j hj=>by
    rw[hf5 j oM fun hne=>by have:=(hg hne).1;omega]
    (repeat rw[xL,if_neg oM])
    exact(hfr j hj).symm
   clear hvar hf5 hg hfr gm2;refine xO ?_;refine xO ?_;exact⟨out.length+1,⟨_,L5,n2+1+1,m5,n2+1,out++[⟨ak,an⟩],rfl,rfl,sV,sV,sV,sV,sV,sV,sV,sV,oM,hcat,oM,hm5,by rw[ziV];exact hR,fun _=>⟨oM,oM,g5⟩,fun j hj=>(hfr3 j hj).symm⟩,oM⟩
end
def zlH:ICode:=match f37.body with
 |.seq _ (.seq _ (.seq _ (.seq (.seq _ (.block _ (.seq _ (.cond _ a _)))) _)))=>a
 |_=>.skip
section
variable {O:Orc}
attribute [local go_sem] ltF gtF xZ x4 ziJ ziN ziM ziH wZ qu in
theorem zqX(h52:O 52=none){cp mid n0 lo id0 jf:Nat}{a0 a1 a2 a3 a4 a6 a7:AV}{tk v op num:Int}{x5 x6:AV}{nm:List (Int×Int)}{fr:List (List Int)}{l:List Int}{out0:List Atm}{L:List (Nat×Option AObj)}{T:List (Nat×AV)}{m:Nat}(gm:xN L mid=some (.umap (uM nm)))(gc:xN L cp=some (.row 56 [a0,a1,a2,a3,a4,jj fr,a6,a7] false false))(hmid:mid<lo)(hcp:cp<lo)(hn0:n0<lo)(hlo:lo≤n)(g0:xN L n0=some (.row 44 [.int .i64 tk,.int .i64 v,.int .i64 op,.int .i64 num,.int .i64 (.ofNat jf),x5,x6] false false))(hm:m%2^n0=0)(hl:∃r,fr.drop jf=l::r)(hal:out0.length+l.length<1000000000)
  (t0:(tmL T).get 0=some (.ptr cp 0)) (t2:(tmL T).get 2=some (.map mid)) (t4:(tmL T).get 4=some (.ptr n0 0)) (t6:(tmL T).get 6=some (.ptr (n0+1) 0)) (t7:(tmL T).get 7=some (jM wn 2 id0 out0)) (hg0:out0≠[]→lo≤id0∧id0<n∧xN L id0=some (.app 51 (xP wn out0))) {Q:Res→Fr→St→Prop}:
  Ev (evC env (evW env O) none zlH ⟨tmL T,[]⟩ (KL L n m true [] none)) (wM (fun f t=>∃T2 L2 n2 m2 id,f=⟨tmL T2,[]⟩∧t=KL L2 n2 m2 true [] none∧(tmL T2).get 4=some (.ptr n0 0)∧(tmL T2).get 6=some (.ptr (n0+1) 0)∧(tmL T2).get 7=some (jM wn 2 id (out0++l.map (vrA nm)))∧n≤n2∧m2%2^n0=0∧(out0++l.map (vrA nm)≠[]→lo≤id∧id<n2∧xN L2 id=some (.app 51 (xP wn (out0++l.map (vrA nm)))))∧∀j,j<lo→xN L2 j=xN L j) Q):=by
 obtain⟨r,hl⟩:=hl;have hcl:=Yu hl;have hjf:jf<fr.length:=by
  have:=congrArg xj hl;simp only[ziy,yb]at this;omega
 unfold zlH f37;simp only;obtain⟨R,hR⟩:∃R,out0++l.map (vrA nm)=R:=⟨_,rfl⟩;rw[hR];simp only[jj,qu]at gc hcl;clear hl;refine xQ ?_;refine xT ?_;refine wx (fun i:Nat=>l.length-i) (fun i f t=>∃T2 L2 n2 m2 id out,f=⟨tmL T2,[]⟩∧t=KL L2 n2 m2 true [] none∧(tmL T2).get 2=some (.map mid)∧(tmL T2).get 4=some (.ptr n0 0)∧(tmL T2).get 6=some (.ptr (n0+1) 0)∧(tmL T2).get 7=some (jM wn 2 id out)∧(tmL T2).get 44=some (.lst l.length false (xP wy l))∧(tmL T2).get 45=some (.int .i64 (.ofNat l.length))∧(tmL T2).get 46=some (.int .i64 (.ofNat i))∧i≤l.length∧out.length=out0.length+i∧n≤n2∧m2%2^n0=0∧out++(l.drop i).map (vrA nm)=R∧(out≠[]→lo≤id∧id<n2∧xN L2 id=some (.app 51 (xP wn out)))∧∀j,j<lo→xN L2 j=xN L j) (fun i f t hI=>?_) 0 ⟨_,_,_,_,id0,out0,rfl,rfl,sV,sV,sV,sV,sV,sV,sV,zQ _,rfl,zu _,hm,hR,hg0,fun _ _=>rfl⟩;clear hR t0 t2 t4 t6 t7 T hm m hg0 hcl gc g0;obtain⟨T,L2,n2,m2,id,out,rfl,rfl,t2,t4,t6,t7,t44,t45,t46,hi,hol,hn2,hm,hR,hg,hfr⟩:=hI;rcases wi l i with ⟨hlt,hd⟩|⟨v,hlt,hd⟩
 ·have hni:¬i<l.length:=oM;rw[hd]at hR;simp only[yN,ziA]at hR;subst hR;have hfr2:=fun j (hj:j<lo)=>(hfr j hj).symm;clear hfr;refine xO ?_;exact⟨_,L2,n2,m2,id,rfl,rfl,sV,sV,sV,hn2,hm,hg,fun j hj=>(hfr2 j hj).symm⟩
 ·rw[hd,zD]at hR;have hc:=l7 hd;have gm2:=(hfr mid hmid).trans gm;have hvar:∀m,(evW env O).call 52 [.int .i64 v,.map mid] (KL L2 n2 m true [] none)=some (.agg (wn (vrA nm v)),KL L2 n2 m true [] none):=fun m=>zox h52 gm2 v n2 m true oM;simp only[wn,vrA]at hvar;clear hd;refine xQ ?_;refine xR (qW sW ?_);refine xO ?_;refine xR (xT ?_);refine xQ ?_;refine qt ?_;refine wc (Q7 (f:=wn) (n0:=n0) (id:=id) (vs:=out) (w:=vrA nm v) jU vU pU oM (fun hne=>?_) hm oM oM oM) fun v' t hv=>?_
  ·obtain⟨q1,q2,q3⟩:=hg hne;exact⟨oM,q2,q3⟩
  obtain⟨L5,m5,rfl,rfl,g5,hm5,hf5⟩:=hv;have hcat:=vZ out (vrA nm v);have hfr3:∀j,j<lo→xN L j=xN L5 j:=fun j hj=>by
   rw[hf5 j oM fun hne=>by have:=(hg hne).1;omega]
   exact(hfr j hj).symm
  clear hvar hf5 hg hfr gm2;refine xO ?_;refine xO ?_;exact⟨i+1,⟨_,L5,n2+1,m5,n2,out++[vrA nm v],rfl,rfl,sV,sV,sV,sV,sV,sV,sV,oM,oM,oM,hm5,by rw[ziV];exact hR,fun _=>⟨oM,oM,g5⟩,fun j hj=>(hfr3 j hj).symm⟩,oM⟩
end
def zlI:ICode:=match f37.body with
 |.seq _ (.seq _ (.seq _ (.seq (.seq _ (.block _ (.seq _ (.cond _ _ (.seq _ (.cond _ a _)))))) _)))=>a
 |_=>.skip
theorem Jv{α:Type}(f:α→List AV)(esz id:Nat)(vs:List α)(s:St):QF s .v (jM f esz id vs)=some (.int .i64 (.ofNat vs.length)):=by cases vs<;>rfl
section
variable {O:Orc}
attribute [local go_sem] kh Yg lj li ltF gtF xZ x4 ziJ ziN ziM ziH wZ qu lf Jv in
theorem zqY{cp kid n0:Nat}{a1 a2 a3 a4 a5 a6:AV}{fs:List Fn}{tv op num fn:Int}{a:Atm}{as:List Atm}{x6:AV}{kn:List (Int×Int)}{id0:Nat}{out:List Atm}{L:List (Nat×Option AObj)}{T:List (Nat×AV)}{m:Nat}(gk:xN L kid=some (.umap (uM kn)))(gc:xN L cp=some (.row 56 [.lst fs.length false (xP wo fs),a1,a2,a3,a4,a5,a6,.map kid] false false))(hkid:kid<n)(hcp:cp<n)(hn0:n0<n)(hcn:cp≠n0)(hkn0:kid≠n0)(g0:xN L n0=some (.row 44 [.int .i64 (.ofNat 4),.int .i64 tv,.int .i64 op,.int .i64 num,.int .i64 fn,.lst (as.length+1) false (xP wn (a::as)),x6] false false))(hm:m%2^n0=0)(hout:out.length=as.length+1)(hal:as.length<1000000000)(hkn:∀t,lkM a.n kn=some t→∃j g r,t=.ofNat j∧fs.drop j=g::r∧g.ps.length<1000000000)
  (t0:(tmL T).get 0=some (.ptr cp 0)) (t4:(tmL T).get 4=some (.ptr n0 0)) (t6:(tmL T).get 6=some (.ptr (n0+1) 0)) (t7:(tmL T).get 7=some (jM wn 2 id0 out)) {Q:Res→Fr→St→Prop} {c:Cd} (hfs:c.fs=fs):
  Ev (evC env (evW env O) none zlI ⟨tmL T,[]⟩ (KL L n m true [] none)) (wM (fun f t=>∃T2 L2 m2,f=⟨tmL T2,[]⟩∧t=KL L2 (n+1) m2 true [] none∧(tmL T2).get 4=some (.ptr n0 0)∧(tmL T2).get 6=some (.ptr (n0+1) 0)∧(tmL T2).get 7=some (jM wn 2 id0 out)∧m2%2^n0=0∧(∀j,j<n→j≠n0→xN L2 j=xN L j)∧xN L2 n0=some (.row 44 [.int .i64 (match knF c kn (a::as)with|some _=>.ofNat 5|none=>.ofNat 4),.int .i64 tv,.int .i64 op,.int .i64 num,.int .i64 (match knF c kn (a::as)with|some t=>t|none=>fn),.lst (as.length+1) false (xP wn (a::as)),x6] false false)) Q):=by
 have hg:=Hc a.n kn;have hc0:wj 2 (xP wn (a::as))=some (wn a):=vx (jU a);obtain⟨ak,an⟩:=a;unfold zlI f37;simp only[knF]at hkn hg⊢;have hn1:¬n0=n:=oM;have hn2:¬cp=n:=oM;have hn3:¬kid=n:=oM;simp only[xP,wn,zM,ziQ]at g0⊢;cases hl:lkM an kn with
 | none=>
  rw[hl]at hg;simp only[Option.map_none]at hg;clear hkn;cases e1:eqD ak (.ofNat 1)with
  |true=>
   refine xQ ?_;refine xO ?_;exact⟨_,_,_,rfl,rfl,sV,sV,sV,sV,fun j h1 h2=>by (repeat rw[xL,if_neg oM]),sV⟩
  |false=>
   refine xQ ?_;refine xO ?_;exact⟨_,_,_,rfl,rfl,sV,sV,sV,sV,fun j h1 h2=>by (repeat rw[xL,if_neg oM]),sV⟩
 | some t=>
  rw[hl]at hg;simp only[Option.map_some]at hg;obtain⟨j,g,r,rfl,hd,hps⟩:=hkn t hl;have hdr:=ZO hd;have hjl:j<fs.length:=by
   have:=congrArg xj hd;simp only[ziy,yb]at this;omega
  have hga:kD c (.ofNat j)=g:=by
   show c.fs.getD j fn0=_;rw[hfs,xe,←zhd,hd];rfl
  simp only[hga];clear hkn hl hd hga;obtain⟨gps,grest,gcont,gfr,gb⟩:=g;obtain⟨gk,gv,gop,gn,gf,gas,gks⟩:=gb;simp only[wo,xU,qu,zM,ziQ]at hdr hps⊢;cases e1:eqD ak (.ofNat 1)with
  |false=>
   simp only[ziC,cond_false];refine xQ ?_;refine xO ?_;exact⟨_,_,_,rfl,rfl,sV,sV,sV,sV,fun j h1 h2=>by (repeat rw[xL,if_neg oM]),sV⟩
  | true=>
   cases grest with
   |true=>
    simp only[Bool.not_true,ziC,Bool.and_false,cond_false];refine xQ ?_;refine xO ?_;exact⟨_,_,_,rfl,rfl,sV,sV,sV,sV,fun j h1 h2=>by (repeat rw[xL,if_neg oM]),sV⟩
   |false=>
    by_cases hp:gps.length=as.length
    ·simp only[Bool.not_false,yP,hp,decide_true,cond_true];rw[hp]at hdr;refine xQ ?_;refine xO ?_;exact⟨_,_,_,rfl,rfl,sV,sV,sV,sV,fun j h1 h2=>by (repeat rw[xL,if_neg oM]),sV⟩
    ·simp only[Bool.not_false,yP,hp,decide_false,cond_false];refine xQ ?_;refine xO ?_;exact⟨_,_,_,rfl,rfl,sV,sV,sV,sV,fun j h1 h2=>by (repeat rw[xL,if_neg oM]),sV⟩
end
structure OnePre(c:Cd)(fr:List (List Int))(kn:List (Int×Int))(k fn:Int)(as:List Atm):Prop where
 al:as.length<400000000
 k2:eqD k (.ofNat 2)=true→∃j l r,fn=.ofNat j∧fr.drop j=l::r∧l.length<400000000
 k4:eqD k (.ofNat 4)=true→as≠[]
 kn:∀v t,lkM v kn=some t→∃j g r,t=.ofNat j∧c.fs.drop j=g::r∧g.ps.length<1000000000
def zjt:List Atm→AV
 |[]=>.nils
 |a::r=>.lst (a::r).length false (xP wn (a::r))
def zjR(h:Int×Int×List Atm)(v op num:Int)(ks:List Trm):AV:=.agg [.int .i64 h.1,.int .i64 v,.int .i64 op,.int .i64 num,.int .i64 h.2.1,zjt h.2.2,.lst ks.length false (x7 ks)]
section
variable {O:Orc}
theorem zii{f:Nat}{F:IFunc}(hF:env.funs.get f=some F)(hp:env.pure f=true){a:List AV}{L:List (Nat×Option AObj)}{m:Nat}{b:Bool}{R:AV→St→Prop}(ha:a.length≤F.ntmps)
  (hB:Ev (evC env (evW env O) none F.body ⟨wL (tmL []) 0 a,[]⟩ (KL L n 0 true [] none)) fun r fr t=>Cv (pK (KL L n m b [] none) (wT env.globs F.res (some (r,fr,t)))) R):Cv (vz env (evW env O) f a (KL L n m b [] none)) R:=by
 obtain⟨r,fr,t,e,q⟩:=hB;have:vz env (evW env O) f a (KL L n m b [] none)=pK (KL L n m b [] none) (wT env.globs F.res (evC env (evW env O) none F.body ⟨wL (tmL []) 0 a,[]⟩ (KL L n 0 true [] none))):=by
  unfold vz;rw[hF];simp only[wV,x9.2 ha,cond_true,hp];rfl
 rw[this,e];exact q
theorem zjB{f:Nat}{F:IFunc}(hF:env.funs.get f=some F)(hp:env.pure f=false){a:List AV}{L:List (Nat×Option AObj)}{m:Nat}{b:Bool}{R:AV→St→Prop}(ha:a.length≤F.ntmps)
  (hB:Ev (evC env (evW env O) none F.body ⟨wL (tmL []) 0 a,[]⟩ (KL L n m false [] none)) fun r fr t=>Cv (mdR b (wT env.globs F.res (some (r,fr,t)))) R):Cv (vz env (evW env O) f a (KL L n m b [] none)) R:=by
 obtain⟨r,fr,t,e,q⟩:=hB;have:vz env (evW env O) f a (KL L n m b [] none)=mdR b (wT env.globs F.res (evC env (evW env O) none F.body ⟨wL (tmL []) 0 a,[]⟩ (KL L n m false [] none))):=by
  unfold vz;rw[hF];simp only[wV,x9.2 ha,cond_true,hp,cond_false];rfl
 rw[this,e];exact q
attribute [local go_sem] ltF gtF xZ x4 ziJ ziN ziM ziH wZ Jv in
theorem zkT(h52:O 52=none){c:Cd}{fr:List (List Int)}{kn nm:List (Int×Int)}{cp kid mid:Nat}{b0 a1 a2 a3 a4:AV}(k v op num fn:Int)(as:List Atm)(ks:List Trm)(hp:OnePre c fr kn k fn as){L:List (Nat×Option AObj)}(gc:xN L cp=some (.row 56 [.lst c.fs.length false (xP wo c.fs),a1,a2,a3,a4,jj fr,b0,.map kid] false false))(gk:xN L kid=some (.umap (uM kn)))(gm:xN L mid=some (.umap (uM nm)))(hcp:cp<n)(hkid:kid<n)(hmid:mid<n)(m:Nat)(b:Bool):
  Cv (vz env (evW env O) 37 [.ptr cp 0,.agg (x3 (.mk k v op num fn as ks)),.map mid] (KL L n m b [] none)) fun r t=>r=zjR (hdF c fr kn nm k fn as) v op num ks∧t=KL L n m b [] none:=by
 refine zii (F:=f37) rfl rfl (ziw rfl) ?_;obtain⟨H,hH⟩:∃H,hdF c fr kn nm k fn as=H:=⟨_,rfl⟩;rw[hH];simp only[xU];unfold f37;simp only[Ko,Kn,Kd,Ke,Kf,Ki];refine xQ ?_;refine xQ ?_;refine vM _ (zqZ h52 (cp:=cp) (mid:=mid) (n0:=n) (nm:=nm) (tk:=k) (v:=v) (op:=op) (num:=num) (fn:=fn) (as:=as) (ks:=ks) (by (repeat rw[xL,if_neg oM]);exact gm) hmid sW oM (by simp[x4]) (by have:=hp.al;omega) sW sW sW sW sW) fun f t hI=>?_
 obtain⟨T,L2,n2,m2,id,rfl,rfl,t0,t2,t4,t6,t7,hn2,hm2,hg,hfr⟩:=hI;have g0:xN L2 n=some (.row 44 [.int .i64 k,.int .i64 v,.int .i64 op,.int .i64 num,.int .i64 fn,.lst as.length false (xP wn as),.lst ks.length false (x7 ks)] false false):=(hfr n oM).trans (by (repeat first|exact xS _ _ _|rw[xL,if_neg oM]))
 have g1:xN L2 (n+1)=some (.row 44 [.int .i64 (.ofNat 0),.int .i64 (.ofNat 0),.int .i64 (.ofNat 0),.int .i64 (.ofNat 0),.int .i64 (.ofNat 0),.nils,.nils] false false):=(hfr (n+1) oM).trans (by (repeat first|exact xS _ _ _|rw[xL,if_neg oM]))
 have gc2:xN L2 cp=some (.row 56 [.lst c.fs.length false (xP wo c.fs),a1,a2,a3,a4,jj fr,b0,.map kid] false false):=(hfr cp oM).trans (by (repeat rw[xL,if_neg oM]);first|done|exact gc)
 have gk2:xN L2 kid=some (.umap (uM kn)):=(hfr kid oM).trans (by (repeat rw[xL,if_neg oM]);first|done|exact gk)
 have gm2:xN L2 mid=some (.umap (uM nm)):=(hfr mid oM).trans (by (repeat rw[xL,if_neg oM]);first|done|exact gm)
 clear hfr;have hal:=hp.al;have hml:(as.map (rnA nm)).length=as.length:=List.length_map _;refine vM (fun f t=>∃T L3 n3 m3 id,f=⟨tmL T,[]⟩∧t=KL L3 n3 m3 true [] none∧(tmL T).get 4=some (.ptr n 0)∧(tmL T).get 6=some (.ptr (n+1) 0)∧(tmL T).get 7=some (jM wn 2 id H.2.2)∧n+1<n3∧m3%2^n=0∧(H.2.2≠[]→n≤id)∧(∃x5,xN L3 n=some (.row 44 [.int .i64 H.1,.int .i64 v,.int .i64 op,.int .i64 num,.int .i64 H.2.1,x5,.lst ks.length false (x7 ks)] false false))∧∃y0 y1 y2 y3 y4 y5 y6,xN L3 (n+1)=some (.row 44 [y0,y1,y2,y3,y4,y5,y6] false false)) ?_ fun f t hI=>?_
 ·unfold hdF at hH;refine xQ ?_;refine xT ?_;cases c2:eqD k (.ofNat 2)with
  | true=>
   rw[c2,cond_true]at hH;subst hH;obtain⟨j,l,r,rfl,hl,hll⟩:=hp.k2 c2;refine xQ ?_;refine qW sV ?_;have hd:fr.getD (zG j).toNat []=l:=by show fr.getD j []=l;rw[xe,←zhd,hl];rfl
   refine Ev.mono (zqX (Q:=fun _ _ _=>False) (lo:=n+1+1) h52 gm2 gc2 oM oM oM hn2 g0 hm2 ⟨r,hl⟩ oM sV sV sV sV sV hg) fun r f t q=>?_;cases r with
   |norm=>
    obtain⟨T,L3,n3,m3,id3,rfl,rfl,q4,q6,q7,hn3,hm3,hg3,hf3⟩:=q;simp only[hd];refine⟨T,L3,n3,m3,id3,rfl,rfl,q4,q6,q7,oM,hm3,fun h=>by have:=(hg3 h).1;omega,⟨_,(hf3 n oM).trans g0⟩,_,_,_,_,_,_,_,(hf3 (n+1) oM).trans g1⟩
   |exit i=>exact q.elim
   |ret=>exact q.elim
  | false=>
   rw[c2,cond_false]at hH;refine xQ ?_;refine ve sV ?_;refine xQ ?_;cases c4:eqD k (.ofNat 4)with
   |false=>
    rw[c4,cond_false]at hH;subst hH;refine ve sV ?_;refine xO ?_;exact⟨_,L2,n2,m2,id,rfl,rfl,sV,sV,sV,oM,hm2,fun h=>by have:=(hg h).1;omega,⟨_,g0⟩,_,_,_,_,_,_,_,g1⟩
   | true=>
    rw[c4,cond_true]at hH;have hk4:k=.ofNat 4:=by simpa [eqD]using c4
    subst hk4;cases as with
    |nil=>exact absurd rfl (hp.k4 c4)
    |cons a as=>
    refine qW sV ?_;refine Ev.mono (zqY (Q:=fun _ _ _=>False) (c:=c) (cp:=cp) (kid:=kid) (n0:=n) (n:=n2) (fs:=c.fs) (kn:=kn) (a:=a) (as:=as) (out:=(a::as).map (rnA nm)) (id0:=id) gk2 gc2 oM oM oM oM oM g0 hm2 (by rw[hml];rfl) (by simp only[yb]at hal;omega) (hp.kn a.n) sV sV sV sV rfl) fun r f t q=>?_
    cases r with
    | norm=>
     obtain⟨T,L3,m3,rfl,rfl,q4,q6,q7,hm3,hf3,q0⟩:=q;have hH1:H.1=(match knF c kn (a::as)with|some _=>.ofNat 5|none=>.ofNat 4)∧H.2.1=(match knF c kn (a::as)with|some t=>t|none=>fn)∧H.2.2=(a::as).map (rnA nm):=by
      rw[←hH];cases knF c kn (a::as)<;>exact⟨rfl,rfl,rfl⟩
     rw[hH1.1,hH1.2.1,hH1.2.2];exact⟨T,L3,n2+1,m3,id,rfl,rfl,q4,q6,q7,oM,hm3,fun h=>by have:=(hg h).1;omega,⟨_,q0⟩,_,_,_,_,_,_,_,(hf3 (n+1) oM oM).trans g1⟩
    |exit i=>exact q.elim
    |ret=>exact q.elim
 ·obtain⟨T,L3,n3,m3,id3,rfl,rfl,t4,t6,t7,hn3,hm3,hid,⟨x5,e0⟩,y0,y1,y2,y3,y4,y5,y6,e1⟩:=hI;clear hH hg g0 g1 gc2 gk2 gm2 hn2 hm2 gc gk gm hp hal hml;obtain⟨Hk,Hf,Ha⟩:=H;simp only at t7 e0 hid⊢;cases Ha with
  |nil=>
   simp only[jM]at t7;refine xO ?_;refine xW ?_;exact⟨rfl,rfl⟩
  |cons a r=>
   have hid:=hid (by simp)
   simp only[jM]at t7;refine xO ?_;refine xW ?_;exact⟨rfl,rfl⟩
end
structure ClX where
 c:Cd
 fr:List (List Int)
 b0:AV
 kn:List (Int×Int)
 nm:List (Int×Int)
 t:Trm
 cp:Nat
 kid:Nat
 mid:Nat
def JO(x:ClX):AObj:=.row 56 (wC x.c++[jj x.fr,x.b0,.map x.kid]) false false
structure ClPre(x:ClX)(args:List AV)(s:St):Prop where
 args:args=[.ptr x.cp 0,.agg (x3 x.t),.map x.mid]
 row:s.get x.cp=some (JO x)
 known:s.get x.kid=some (.umap (uM x.kn))
 names:s.get x.mid=some (.umap (uM x.nm))
 l1:x.cp<s.next
 l2:x.kid<s.next
 l3:x.mid<s.next
theorem zxz:∀{a b:List (Int×Int)},uM a=uM b→a=b
 |[],[],_=>rfl
 |[],_::_,h=>by cases h
 |_::_,[],h=>by cases h
 |p::a,q::b,h=>by
  simp only[uM,zD,List.cons.injEq,Prod.mk.injEq,lf,AV.agg.injEq,AV.int.injEq,true_and,and_true]at h;have:=zxz (a:=a) (b:=b) h.2;rw[this,Prod.ext h.1.1 h.1.2]
theorem zz6{a b:List Int}(h:qY a=qY b):a=b:=by
 simp only[qY,List.cons.injEq,and_true]at h;exact Ui h
theorem zuG{a b:List (List Int)}(h:jj a=jj b):a=b:=by
 simp only[jj,AV.lst.injEq,true_and]at h;exact j0 Yr oM (fun _ _ h=>zz6 h) h.2
theorem ClPre.uniq{x y:ClX}{args:List AV}(h:ClPre x args s)(g:ClPre y args s):x=y:=by
 obtain⟨c,fr,b0,kn,nm,t,cp,kid,mid⟩:=x;obtain⟨c',fr',b0',kn',nm',t',cp',kid',mid'⟩:=y;have h1:=h.args.symm.trans g.args;simp only[List.cons.injEq,AV.ptr.injEq,AV.map.injEq,AV.agg.injEq,and_true]at h1;obtain⟨rfl,h1,rfl⟩:=h1;have:=kW h1;subst this;have h2:=h.row.symm.trans g.row;simp only[Option.some.injEq,JO,AObj.row.injEq,true_and,and_true]at h2;obtain⟨h3,h4⟩:=List.append_inj h2 rfl;have:=Vk h3;subst this;simp only[List.cons.injEq,AV.map.injEq,and_true]at h4;obtain⟨h5,rfl,rfl⟩:=h4;have:=zuG h5;subst this;have h6:=h.known.symm.trans g.known;have h7:=h.names.symm.trans g.names;simp only[Option.some.injEq,AObj.umap.injEq]at h6 h7;rw[zxz h6,zxz h7]
open Classical in
noncomputable def gCl(Pre:ClX→Prop)(F:ClX→AV)(args:List AV)(s:St):Option (AV×St):=
 if h:∃x,ClPre x args s∧Pre x then some (F (zi3 h),s)else none
theorem zyP{Pre:ClX→Prop}{F:ClX→AV}{x:ClX}{args:List AV}(h:ClPre x args s)(hp:Pre x):gCl Pre F args s=some (F x,s):=by
 have hx:∃x,ClPre x args s∧Pre x:=⟨x,h,hp⟩;unfold gCl;rw[dif_pos hx,(xg hx).1.uniq h]
theorem G5{Pre:ClX→Prop}{F:ClX→AV}{args:List AV}(h:gCl Pre F args s=some (v,s')):∃x,ClPre x args s∧Pre x∧v=F x∧s'=s:=by
 by_cases hx:∃x,ClPre x args s∧Pre x
 ·obtain⟨x,hx,hp⟩:=hx;rw[zyP hx hp]at h;cases h;exact⟨x,hx,hp,rfl,rfl⟩
 ·unfold gCl at h;rw[dif_neg hx]at h;cases h
theorem G4{Pre:ClX→Prop}{F:ClX→AV}(args:List AV)(s:St)(v:AV)(s':St)(h:gCl Pre F args s=some (v,s')):Ext s s':=by
 obtain⟨x,_,_,_,rfl⟩:=G5 h;exact Ext.refl _
def clL(x:ClX):List (Nat×Option AObj):=[(x.cp,some (JO x)),(x.kid,some (.umap (uM x.kn))),(x.mid,some (.umap (uM x.nm)))]
theorem ClPre.sub{x:ClX}{args:List AV}(h:ClPre x args s):∀id o,xN (clL x) id=some o→s.get id=some o:=fun id o ho=>by
 simp only[clL]at ho;rw[xL]at ho;split at ho
 ·rename_i e;rw[e,←ho];exact h.row
 ·rw[xL]at ho;split at ho
  ·rename_i e;rw[e,←ho];exact h.known
  ·rw[xL]at ho;split at ho
   ·rename_i e;rw[e,←ho];exact h.names
   ·cases ho
theorem ClPre.ne{x:ClX}{args:List AV}(h:ClPre x args s):x.cp≠x.kid∧x.cp≠x.mid:=by
 refine⟨fun e=>?_,fun e=>?_⟩
 ·have:=h.row;rw[e,h.known]at this;cases this
 ·have:=h.row;rw[e,h.names]at this;cases this
theorem ClPre.gets{x:ClX}{args:List AV}(h:ClPre x args s):xN (clL x) x.cp=some (JO x)∧xN (clL x) x.kid=some (.umap (uM x.kn))∧xN (clL x) x.mid=some (.umap (uM x.nm)):=by
 obtain⟨n1,n2⟩:=h.ne;refine⟨xS _ _ _,?_,?_⟩
 ·rw[clL,xL,if_neg (Ne.symm n1),xS]
 ·rw[clL,xL,if_neg (Ne.symm n2),xL];split
  ·rename_i e
   have:=h.known.symm.trans (e▸h.names);rw[this]
  ·exact xS _ _ _
theorem zl4{x:ClX}{args:List AV}(h:ClPre x args s):WfA (clL x) s.next:=fun j hj=>by
 have h1:=h.l1;have h2:=h.l2;have h3:=h.l3
 rw[clL,xL,if_neg oM,xL,if_neg oM,xL,if_neg oM];rfl
theorem zoW{x:ClX}(h1:x.cp<n)(h2:x.kid<n)(h3:x.mid<n):WfA (clL x) n:=fun j hj=>by
 rw[clL,xL,if_neg oM,xL,if_neg oM,xL,if_neg oM];rfl
def zzO(x:ClX):List AV:=[.ptr x.cp 0,.agg (x3 x.t),.map x.mid]
theorem Ks(B:Bx P w0)(hO:OrcOk P w0 O){f:Nat}{Pre:ClX→Prop}{F:ClX→AV}(hF:∀x,wq (F x)=true)
  (H:∀x,Pre x→∀n,x.cp<n→x.kid<n→x.mid<n→xN (clL x) x.cp=some (JO x)→xN (clL x) x.kid=some (.umap (uM x.kn))→xN (clL x) x.mid=some (.umap (uM x.nm))→Cv (vz env (evW env O) f (zzO x) (KL (clL x) n 0 false [] none)) fun v1 t2=>∃L2 n2 m2 b2,t2=KL L2 n2 m2 b2 [] none∧m2%2^n=0∧∃t3:St,(∀id o,t3.get id=some o→xN L2 id=some o∧n≤id)∧Fz t3 v1 (F x)):qz P w0 f (gCl Pre F):=by
 intro args s v s' h;obtain⟨x,hx,hp,rfl,rfl⟩:=G5 h;rw[hx.args];obtain⟨g1,g2,g3⟩:=hx.gets;refine zmM hO B.mixed B.glob B.env (s0:=KL (clL x) s'.next 0 false [] none) (zlv (zl4 hx)) rfl (fun id o ho=>by rw[wh]at ho;exact hx.sub id o ho) (hF x) ((H x hp s'.next hx.l1 hx.l2 hx.l3 g1 g2 g3).mono ?_)
 rintro v1 t2 ⟨L2,n2,m2,b2,rfl,hm,t3,h3,hz⟩
 refine⟨⟨t3,fun id o ho=>?_,hz⟩,fun id hid=>?_⟩
 ·rw[wh];exact h3 id o ho
 ·show m2.testBit id=false;have:=Nat.testBit_mod_two_pow m2 s'.next id
  rw[hm,Nat.zero_testBit]at this;have hid':id<s'.next:=hid
  simpa [hid']using this.symm
def zzF(x:ClX):Prop:=OnePre x.c x.fr x.kn x.t.kind x.t.fn x.t.atoms
def Hs(x:ClX):AV:=.agg (x3 (zqW x.c x.fr x.kn x.nm x.t))
theorem zkA(s:St)(l:List Atm):Fz s (zjt l) (.lst l.length false (xP wn l)):=by
 cases l with
 |nil=>exact uO
 |cons a r=>exact vO (wG vU _) (vN lB _)
theorem zuS(B:Bx P w0)(hO:OrcOk P w0 O)(h52:O 52=none):qz P w0 37 (gCl zzF Hs):=by
 refine Ks B hO (fun x=>by simp only[Hs,vw,uw]) fun x hp n h1 h2 h3 g1 g2 g3=>?_
 obtain⟨c,fr,b0,kn,nm,⟨k,v,op,num,fn,as,ks⟩,cp,kid,mid⟩:=x;refine(zkT h52 (c:=c) (fr:=fr) (kn:=kn) (nm:=nm) (cp:=cp) (kid:=kid) (mid:=mid) k v op num fn as ks hp g1 g2 g3 h1 h2 h3 0 false).mono ?_
 rintro r t ⟨rfl,rfl⟩
 refine⟨_,_,_,_,rfl,ziJ _,KL [] 0 0 false [] none,(fun id o ho=>by rw[wh]at ho;cases ho),?_⟩
 simp only[Hs,zqW,xU,zjR];exact YB (x0 (wF _ _ _) (x0 (wF _ _ _) (x0 (wF _ _ _) (x0 (wF _ _ _) (x0 (wF _ _ _) (x0 (zkA _ _) (x0 (vO (kI _) (lZ _)) vC)))))))
noncomputable def KS(L:List (Nat×Option AObj)):St:=KL L 0 0 true [] none
theorem XX(L:List (Nat×Option AObj))(j:Nat):(KS L).get j=xN L j:=wh _ _ _ _ _
def FzA(A:Nat→Prop)(L:List (Nat×Option AObj))(us ws:List AV):Prop:=∃L3,(∀id o,xN L3 id=some o→A id∧xN L id=some o)∧FzL (KS L3) us ws
theorem FzA.mono{A A':Nat→Prop}{L L':List (Nat×Option AObj)}{us ws:List AV}(h:FzA A L us ws)(ha:∀i,A i→A' i)(hl:∀i,A i→xN L' i=xN L i):FzA A' L' us ws:=by
 obtain⟨L3,h1,h2⟩:=h;refine⟨L3,fun id o ho=>?_,h2⟩;obtain⟨g1,g2⟩:=h1 id o ho;exact⟨ha _ g1,(hl _ g1).trans g2⟩
theorem j1{k:IntKind}{n:Int}(h:Fz s v (.int k n)):v=.int k n:=by
 simp only[Fz]at h;cases v<;>simp only[wkV]at h<;>first|(cases h;done)|exact h
theorem WY{e:Bool}{cs:List AV}(h:Fz s v (.lst n e cs)):ua v=true:=by
 simp only[Fz]at h;obtain⟨_,h|⟨_,id,off,c,_,_,_,_,_,rfl,_⟩⟩:=h
 ·cases v<;>simp only[wkV]at h<;>first|(cases h;done)|rfl
 ·rfl
theorem FzA.cells{A:Nat→Prop}{L:List (Nat×Option AObj)}{us:List AV}{t:Trm}(h:FzA A L us (x3 t)):∃u6 u7,us=[.int .i64 t.kind,.int .i64 t.var,.int .i64 t.op,.int .i64 t.num,.int .i64 t.fn,u6,u7]∧ua u6=true∧ua u7=true:=by
 obtain⟨k,v,op,n,f,as,ks⟩:=t;obtain⟨L3,_,h⟩:=h;rw[xU]at h;simp only[FzL]at h;obtain⟨u1,_,rfl,h1,u2,_,rfl,h2,u3,_,rfl,h3,u4,_,rfl,h4,u5,_,rfl,h5,u6,_,rfl,h6,u7,_,rfl,h7,rfl⟩:=h;rw[j1 h1,j1 h2,j1 h3,j1 h4,j1 h5];exact⟨u6,u7,rfl,WY h6,WY h7⟩
def P9:Trm→List Trm→Trm
 |.mk k v op n f as _,ks=>.mk k v op n f as ks
theorem Ph(s:St)(t:Trm):FzL s (x3 t) (x3 t):=by
 obtain⟨k,v,op,n,f,as,ks⟩:=t;rw[xU];exact x0 (wF _ _ _) (x0 (wF _ _ _) (x0 (wF _ _ _) (x0 (wF _ _ _) (x0 (wF _ _ _) (x0 (vO (wG vU _) (vN lB _)) (x0 (vO (kI _) (lZ _)) vC))))))
theorem FzA.self{A:Nat→Prop}{L:List (Nat×Option AObj)}(t:Trm):FzA A L (x3 t) (x3 t):=⟨[],(fun _ _ h=>by cases h),Ph _ t⟩
theorem FzA.kid{A A':Nat→Prop}{L L':List (Nat×Option AObj)}{us:List AV}{e:Trm}{k v op n f:Int}{as:List Atm}{ks:List Trm}{t:Nat}{xf ff:Bool}{aV:AV}(hAs:∀s,Fz s aV (.lst as.length false (xP wn as)))(he:FzA A L us (x3 e))(ha:∀i,A i→A' i)(hl:∀i,A i→xN L' i=xN L i)(hid:A' id)(hnid:¬A id)(hg:xN L' id=some (.row t us xf ff)):FzA A' L' [.int .i64 k,.int .i64 v,.int .i64 op,.int .i64 n,.int .i64 f,aV,.sl id 0 1 (.fix 1)] (x3 (P9 (.mk k v op n f as ks) [e])):=by
 obtain⟨u6,u7,hus,_⟩:=he.cells;obtain⟨L3,h1,h2⟩:=he;have hlen:us.length=7:=by rw[hus];rfl
 refine⟨(id,some (.row t us xf ff))::L3,fun j o ho=>?_,?_⟩
 ·rw[xL]at ho;split at ho
  ·rename_i e;rw[e,←ho];exact⟨hid,hg⟩
  ·obtain⟨g1,g2⟩:=h1 j o ho;exact⟨ha _ g1,(hl _ g1).trans g2⟩
 ·simp only[P9,xU];refine x0 (wF _ _ _) (x0 (wF _ _ _) (x0 (wF _ _ _) (x0 (wF _ _ _) (x0 (wF _ _ _) (x0 (hAs _) (x0 ?_ vC))))));have hp:xY (x7 [e])=true:=kI _;show Fz _ (.sl id 0 1 (.fix 1)) (.lst 1 false (x7 [e]));have hc:x7 [e]=x3 e:=by rw[qi,jz,ziA]
  rw[hc]at hp⊢;simp only[Fz];refine⟨hp,.inr ⟨trivial,id,0,.fix 1,t,us,xf,ff,us,rfl,zu _,by rw[XX,xS],?_,FzL.mono (fun j o ho=>?_) h2⟩⟩
  ·show wj _ (wH 0 us)=_;rw[wu,wY];exact w6 hlen
  ·rw[XX]at ho⊢;rw[xL];split
   ·rename_i e;subst e;exact absurd (h1 _ _ ho).1 hnid
   ·exact ho
theorem FzA.kids{A:Nat→Prop}{L:List (Nat×Option AObj)}{k v op n f:Int}{as:List Atm}{ks:List Trm}(hid:ks≠[]→A id∧xN L id=some (.row 44 (xP x3 ks) true false)):FzA A L [.int .i64 k,.int .i64 v,.int .i64 op,.int .i64 n,.int .i64 f,.lst as.length false (xP wn as),gSl 7 id ks.length] (x3 (.mk k v op n f as ks)):=by
 rw[xU];have h6:∀s w,Fz s w (.lst ks.length false (x7 ks))→FzL s [.int .i64 k,.int .i64 v,.int .i64 op,.int .i64 n,.int .i64 f,.lst as.length false (xP wn as),w] [.int .i64 k,.int .i64 v,.int .i64 op,.int .i64 n,.int .i64 f,.lst as.length false (xP wn as),.lst ks.length false (x7 ks)]:=fun s w hw=>x0 (wF _ _ _) (x0 (wF _ _ _) (x0 (wF _ _ _) (x0 (wF _ _ _) (x0 (wF _ _ _) (x0 (vO (wG vU _) (vN lB _)) (x0 hw vC))))));cases ks with
 |nil=>
  refine⟨[],(fun _ _ h=>by cases h),h6 _ _ ?_⟩
  rw[jz];exact uO
 | cons x r=>
  obtain⟨h1,h2⟩:=hid (by simp)
  refine⟨[(id,some (.row 44 (xP x3 (x::r)) true false))],fun j o ho=>?_,h6 _ _ ?_⟩
  ·rw[xL]at ho;split at ho
   ·rename_i e;rw[e,←ho];exact⟨h1,h2⟩
   ·cases ho
  ·have hp:xY (x7 (x::r))=true:=kI _;rw[kH]at hp⊢;show Fz _ (.sl id 0 (r.length+1) (.opn 7)) (.lst (x::r).length false (xP x3 (x::r)));simp only[Fz];refine⟨hp,.inr ⟨trivial,id,0,.opn 7,_,_,_,_,xP x3 (x::r),rfl,trivial,by rw[XX,xS],?_,?_⟩⟩
   ·show wj _ (wH 0 _)=_;exact w6 rfl
   ·have:∀(s:St) (l:List Trm),FzL s (xP x3 l) (xP x3 l):=fun s l=>by
     induction l with
     |nil=>exact vC
     |cons y l ih=>exact(Ph s y).append ih
    exact this _ _
theorem ztW{α:Type}{t:Nat}{f:α→List AV}(hl:∀x,(f x).length=esz)(hs:∀x,wd (f x)=true)(he:1≤esz){L:List (Nat×Option AObj)}{m lo:Nat}{vs:List α}{w:α}{y:AV}(hr:vs≠[]→lo≤id∧id<n∧xN L id=some (.row t (xP f vs) true false))(hw:WfA L n)(hlo:lo≤n)(hm:m%2^lo=0)(h1:j6 y=some 1)(h2:qC (KL L n m false [] none) esz 1 y=some (f w))(hb:2*(vs.length+1)*bytes≤281474976710656)(hn:vs.length+1<1000000000000):
  Cv (jg (KL L n m false [] none) t esz bytes (gSl esz id vs.length) y) fun v s=>∃L' m',v=gSl esz n (vs++[w]).length∧s=KL L' (n+1) m' false [] none∧xN L' n=some (.row t (xP f (vs++[w])) true false)∧WfA L' (n+1)∧m'%2^lo=0∧(∀j,j<n→(vs≠[]→j≠id)→xN L' j=xN L j):=by
 have hfl:xP f [w]=f w:=qM w;cases vs with
 |nil=>
  refine⟨_,_,HV (q:=0) h1 h2 (.inl rfl) he (by simp only[xz,yO]at hb;exact hb) oM,_,_,rfl,rfl,by rw[xL,if_pos rfl,ziQ,hfl],fun j hj=>?_,hm,fun j hj _=>by rw[xL,if_neg oM]⟩
  rw[xL,if_neg oM];exact hw j oM
 | cons u us=>
  obtain⟨hli,hid,g1⟩:=hr (by simp)
  simp only[yb]at hb hn;have hsw:wd (f w)=true:=hs w;refine⟨_,_,HW (q:=0) (by rw[wh];exact g1) (by rw[vu hl];rfl) h1 h2 hsw he hb oM,_,_,?_,rfl,by rw[xL,if_pos rfl,wQ,hfl],fun j hj=>?_,(zqw hli).trans hm,fun j hj hne=>by rw[xL,if_neg oM,xL,if_neg (hne (by simp))]⟩
  ·simp only[zM,yb,yA,gSl]
   congr 1
  ·rw[xL,if_neg oM,xL];split
   ·rfl
   ·exact hw j oM
mutual
def Qp(c:Cd)(fr:List (List Int))(kn:List (Int×Int)):Trm→Prop
 |.mk k _ _ _ f as ks=>OnePre c fr kn k f as∧ks.length≤2∧WE c fr kn ks
def WE(c:Cd)(fr:List (List Int))(kn:List (Int×Int)):List Trm→Prop
 |[]=>True
 |t::r=>Qp c fr kn t∧WE c fr kn r
end
def TmP(N:Nat)(x:ClX):Prop:=wJ x.t<N∧N<1000000000∧Qp x.c x.fr x.kn x.t
def tmX(x:ClX):AV:=.agg (x3 (tmF x.c x.fr x.kn x.nm x.t))
def QH:List Trm→Trm→Trm
 |[],e=>e
 |x::r,e=>P9 x [QH r e]
theorem zzC:∀(w:List Trm) (x e:Trm),QH (w++[x]) e=QH w (P9 x [e])
 |[],_,_=>rfl
 |y::w,x,e=>by simp only[zM,QH,zzC w]
def tmA:ICode:=match f20.body with
 |.seq _ (.seq _ (.seq a _))=>a
 |_=>.skip
structure TmS(x:ClX)(L0:List (Nat×Option AObj))(n0:Nat)(w:List Trm)(wid:Nat)(L:List (Nat×Option AObj))(n m:Nat):Prop where
 wf:WfA L n
 le:n0+1+1≤n
 mks:m%2^n0=0
 g1:xN L (n0+1)=some (.row 44 [.int .i64 (.ofNat 0),.int .i64 (.ofNat 0),.int .i64 (.ofNat 0),.int .i64 (.ofNat 0),.int .i64 (.ofNat 0),.nils,.nils] false false)
 way:w≠[]→n0+1+1≤wid∧wid<n∧xN L wid=some (.row 44 (xP x3 w) true false)
 old:∀j,j<n0→xN L j=xN L0 j
structure TmT(x:ClX)(n0:Nat)(w:List Trm)(wid:Nat)(T:List (Nat×AV)):Prop where
 t0:(tmL T).get 0=some (.ptr x.cp 0)
 t2:(tmL T).get 2=some (.map x.mid)
 t4:(tmL T).get 4=some (.ptr n0 0)
 t6:(tmL T).get 6=some (.ptr (n0+1) 0)
 t7:(tmL T).get 7=some (gSl 7 wid w.length)
structure ClIn(x:ClX)(L0:List (Nat×Option AObj))(n0:Nat):Prop where
 l1:x.cp<n0
 l2:x.kid<n0
 l3:x.mid<n0
 g1:xN L0 x.cp=some (JO x)
 g2:xN L0 x.kid=some (.umap (uM x.kn))
 g3:xN L0 x.mid=some (.umap (uM x.nm))
section
variable {O:Orc}
theorem zq0(h37:O 37=some (gCl zzF Hs)){x:ClX}{L0 L:List (Nat×Option AObj)}{n0:Nat}(hx:ClIn x L0 n0)(hn:n0≤n)(ho:∀j,j<n0→xN L j=xN L0 j){k v op num fn:Int}{as:List Atm}{ks:List Trm}(hp:OnePre x.c x.fr x.kn k fn as)(m:Nat)(b:Bool):
  (evW env O).call 37 [.ptr x.cp 0,.agg [.int .i64 k,.int .i64 v,.int .i64 op,.int .i64 num,.int .i64 fn,.lst as.length false (xP wn as),.lst ks.length false (x7 ks)],.map x.mid] (KL L n m b [] none)=some (.agg (x3 (zqW x.c x.fr x.kn x.nm (.mk k v op num fn as ks))),KL L n m b [] none):=by
 rw[wN h37,zyP (x:={x with t:=.mk k v op num fn as ks})]
 ·rfl
 ·refine⟨by simp only[xU],?_,?_,?_,?_,?_,?_⟩
  ·rw[wh,ho _ hx.l1];exact hx.g1
  ·rw[wh,ho _ hx.l2];exact hx.g2
  ·rw[wh,ho _ hx.l3];exact hx.g3
  ·exact zp hx.l1 hn
  ·exact zp hx.l2 hn
  ·exact zp hx.l3 hn
 ·exact hp
attribute [local go_sem] ltF gtF xZ x4 ziJ ziN ziM ziH wZ wP wR in
theorem zjc(h37:O 37=some (gCl zzF Hs)){x:ClX}{L0:List (Nat×Option AObj)}{n0:Nat}(hx:ClIn x L0 n0)(hN:wJ x.t<1000000000)(hone:Qp x.c x.fr x.kn x.t){T:List (Nat×AV)}{L:List (Nat×Option AObj)}{m:Nat}(hS:TmS x L0 n0 [] 0 L n m)(g0:xN L n0=some (vl x.t))(hT:TmT x n0 [] 0 T){Q:Res→Fr→St→Prop}:
  Ev (evC env (evW env O) none tmA ⟨tmL T,[]⟩ (KL L n m false [] none)) (wM (fun f t=>∃T2 L2 n2 m2 w wid cur,f=⟨tmL T2,[]⟩∧t=KL L2 n2 m2 false [] none∧TmT x n0 w wid T2∧TmS x L0 n0 w wid L2 n2 m2∧xN L2 n0=some (vl cur)∧cur.kids.length≠1∧Qp x.c x.fr x.kn cur∧wJ cur+w.length≤wJ x.t∧QH w (tmF x.c x.fr x.kn x.nm cur)=tmF x.c x.fr x.kn x.nm x.t) Q):=by
 unfold tmA f20;simp only;obtain⟨R,hR⟩:∃R,tmF x.c x.fr x.kn x.nm x.t=R:=⟨_,rfl⟩;rw[hR];refine xT ?_;refine wx (fun p:List Trm×Trm=>wJ p.2) (fun p f t=>∃T2 L2 n2 m2 wid,f=⟨tmL T2,[]⟩∧t=KL L2 n2 m2 false [] none∧TmT x n0 p.1 wid T2∧TmS x L0 n0 p.1 wid L2 n2 m2∧xN L2 n0=some (vl p.2)∧Qp x.c x.fr x.kn p.2∧wJ p.2+p.1.length≤wJ x.t∧QH p.1 (tmF x.c x.fr x.kn x.nm p.2)=R) (fun p f t hI=>?_) ([],x.t) ⟨T,L,n,m,0,rfl,rfl,hT,hS,g0,hone,zu _,hR⟩;clear hR hT hS g0 hone;obtain⟨w,⟨k,v,op,num,fn,as,ks⟩⟩:=p;obtain⟨T,L,n,m,wid,rfl,rfl,⟨t0,t2,t4,t6,t7⟩,hS,g0,hone,hnd,hR⟩:=hI;simp only at t7 hS g0 hone hnd hR⊢;have hw:=hS.wf;have hle:=hS.le;simp only[vl,xU]at g0;by_cases h1:ks.length=1
 ·obtain⟨y,rfl⟩:∃y,ks=[y]:=by
   rcases ks with _|⟨y,_|⟨z,r⟩⟩
   ·cases h1
   ·exact⟨y,rfl⟩
   ·simp only[yb]at h1;omega
  simp only[Qp,WE,and_true]at hone;simp only[wJ,qo]at hnd;have h37':=fun{L2 n2} (hn:n0≤n2) (ho:∀j,j<n0→xN L2 j=xN L0 j) m=>zq0 h37 (L:=L2) (n:=n2) hx hn ho (v:=v) (op:=op) (num:=num) (ks:=[y]) hone.1 m false;have hcall:=h37' (show n0≤n by omega) hS.old
  have hcy:wj 7 (x7 [y])=some (x3 y):=by rw[qi];exact vx (wu y)
  have hcut:wj 7 (wH (0*7) (x7 [y]))=some (x3 y):=hcy;simp only[tmF,jN]at hR;simp only[zqW,xU]at hcall;obtain⟨⟨Hk,Hf,Ha⟩,hH⟩:∃H,hdF x.c x.fr x.kn x.nm k fn as=H:=⟨_,rfl⟩;rw[hH]at hcall hR;simp only at hcall hR;clear h37' hH;obtain⟨yk,yv,yo,yn,yf,ya,yks⟩:=y;simp only[xU]at hcy hcut;simp only[yb,xz]at g0 hcall;have hgo:=fun j hj=>(hS.old j hj).symm;refine xR (xQ ?_);refine qW sV ?_;refine xO ?_;refine xT ?_;refine xR (qt ?_);have hw2:WfA ((n,some (AObj.row 44 (x3 (.mk Hk v op num Hf Ha [.mk yk yv yo yn yf ya yks])) false false))::L) (n+1):=(hw.up oM).same oM;refine wc (ztW (f:=x3) (id:=wid) (lo:=n0) (vs:=w) (w:=.mk Hk v op num Hf Ha [.mk yk yv yo yn yf ya yks]) wu jy oM (fun hne=>?_) (by simp only[xU]at hw2;exact hw2) oM hS.mks rfl ?_ oM oM) fun v' t' hv=>?_
  ·obtain⟨q1,q2,q3⟩:=hS.way hne;exact⟨oM,oM,by rw[xL,if_neg oM];exact q3⟩
  ·rw[xU];exact(lr (j:=0) (by rw[wh];exact xS _ _ _) rfl).2
  obtain⟨L7,m7,rfl,rfl,g7,hw7,hm7,hf7⟩:=hv;have hcat:=vZ w (.mk Hk v op num Hf Ha [.mk yk yv yo yn yf ya yks]);have e0:xN L7 n0=some (.row 44 [.int .i64 k,.int .i64 v,.int .i64 op,.int .i64 num,.int .i64 fn,.lst as.length false (xP wn as),.lst 1 false (x7 [.mk yk yv yo yn yf ya yks])] false false):=(hf7 n0 oM fun hne=>by have:=(hS.way hne).1;omega).trans (by rw[xL,if_neg oM];exact g0)
  have e1:xN L7 (n0+1)=some (.row 44 [.int .i64 (.ofNat 0),.int .i64 (.ofNat 0),.int .i64 (.ofNat 0),.int .i64 (.ofNat 0),.int .i64 (.ofNat 0),.nils,.nils] false false):=(hf7 (n0+1) oM fun hne=>by have:=(hS.way hne).1;omega).trans (by rw[xL,if_neg oM];exact hS.g1)
  have hold:∀j,j<n0→xN L7 j=xN L0 j:=fun j hj=>(hf7 j oM fun hne=>by have:=(hS.way hne).1;omega).trans (by rw[xL,if_neg oM];exact hS.old j hj)
  clear hcall hw2 hf7 hS g0 hgo;have hold2:=fun j hj=>(hold j hj).symm;clear hold;refine xO ?_;refine xO ?_;refine⟨(w++[.mk Hk v op num Hf Ha [.mk yk yv yo yn yf ya yks]],.mk yk yv yo yn yf ya yks),⟨_,_,n+1+1,_,n+1,rfl,rfl,⟨sV,sV,sV,sV,sV⟩,⟨?_,oM,?_,?_,fun _=>⟨oM,oM,?_⟩,fun j hj=>?_⟩,?_,hone.2.2,by simp only[wJ]at hnd⊢;rw[hcat];omega,by rw[zzC];exact hR⟩,by simp only[wJ,qo];omega⟩
  ·refine WfA.same hw7 oM
  ·exact(xZ (zu _)).trans hm7
  ·rw[xL,if_neg oM];exact e1
  ·rw[xL,if_neg oM];exact g7
  ·rw[xL,if_neg oM];exact(hold2 j hj).symm
  ·rw[xS];rfl
 ·have hgo:=fun j hj=>(hS.old j hj).symm;have hks:¬(zG ks.length=zG 1):=fun e=>h1 (Int.ofNat.inj e);refine xR (xQ ?_);refine ve sV ?_;refine xO ?_;exact⟨_,L,n,m,w,wid,.mk k v op num fn as ks,rfl,rfl,⟨sV,sV,sV,sV,sV⟩,hS,by rw[g0];simp only[vl,xU],h1,hone,hnd,hR⟩
end
def tmB:ICode:=match f20.body with
 |.seq _ (.seq _ (.seq _ b))=>b
 |_=>.skip
def tmC:ICode:=match tmB with
 |.seq _ (.seq _ (.seq _ (.seq _ c)))=>c
 |_=>.skip
theorem K0{c:Cd}{fr:List (List Int)}{kn:List (Int×Int)}:∀{ks:List Trm} {y:Trm},WE c fr kn ks→y∈ks→Qp c fr kn y
 |t::r,y,h,hy=>by
  simp only[WE]at h;rcases List.mem_cons.1 hy with rfl|hy
  ·exact h.1
  ·exact K0 h.2 hy
theorem Ut:∀{ks:List Trm} {y:Trm},y∈ks→wJ y≤qo ks
 |t::r,y,hy=>by
  simp only[qo];rcases List.mem_cons.1 hy with rfl|hy
  ·omega
  ·have:=Ut hy;omega
section
variable {O:Orc}
theorem zw4{N:Nat}(h20:O 20=some (gCl (TmP N) tmX)){x:ClX}{L0 L:List (Nat×Option AObj)}{n0:Nat}(hx:ClIn x L0 n0)(hn:n0≤n)(ho:∀j,j<n0→xN L j=xN L0 j){k v op num fn:Int}{as:List Atm}{ks:List Trm}(hp:TmP N {x with t:=.mk k v op num fn as ks})(m:Nat)(b:Bool):
  (evW env O).call 20 [.ptr x.cp 0,.agg [.int .i64 k,.int .i64 v,.int .i64 op,.int .i64 num,.int .i64 fn,.lst as.length false (xP wn as),.lst ks.length false (x7 ks)],.map x.mid] (KL L n m b [] none)=some (.agg (x3 (tmF x.c x.fr x.kn x.nm (.mk k v op num fn as ks))),KL L n m b [] none):=by
 rw[wN h20,zyP (x:={x with t:=.mk k v op num fn as ks})]
 ·rfl
 ·refine⟨by simp only[xU],?_,?_,?_,?_,?_,?_⟩
  ·rw[wh,ho _ hx.l1];exact hx.g1
  ·rw[wh,ho _ hx.l2];exact hx.g2
  ·rw[wh,ho _ hx.l3];exact hx.g3
  ·exact zp hx.l1 hn
  ·exact zp hx.l2 hn
  ·exact zp hx.l3 hn
 ·exact hp
structure TmJ(x:ClX)(L0:List (Nat×Option AObj))(n0:Nat)(w:List Trm)(e:Trm)(f:Fr)(t:St):Prop where
 ex:∃T L n m wid b8 us,f=⟨tmL T,[]⟩∧t=KL L n m false [] none∧TmT x n0 w wid T∧(tmL T).get 8=some (.ptr b8 0)∧TmS x L0 n0 w wid L n m∧n0+1<b8∧b8<n∧(w≠[]→wid≠b8)∧xN L b8=some (.row 44 us false false)∧FzA (fun r=>n0+1<r∧r<n∧r≠b8) L us (x3 e)
attribute [local go_sem] ltF gtF xZ x4 ziJ ziN ziM ziH wZ wP wR in
theorem zjd{N:Nat}(h20:O 20=some (gCl (TmP N) tmX))(h37:O 37=some (gCl zzF Hs)){x:ClX}{L0:List (Nat×Option AObj)}{n0:Nat}(hx:ClIn x L0 n0)(hN:N<1000000000){cur:Trm}(hcur:wJ cur<N+1)(hone:Qp x.c x.fr x.kn cur){w:List Trm}{wid:Nat}{T:List (Nat×AV)}{L:List (Nat×Option AObj)}{m:Nat}(hS:TmS x L0 n0 w wid L n m)(g0:xN L n0=some (vl cur))(hT:TmT x n0 w wid T){Q:Res→Fr→St→Prop}
  (hQ:∀f t,TmJ x L0 n0 w (tmF x.c x.fr x.kn x.nm cur) f t→Ev (evC env (evW env O) none tmC f t) Q):
  Ev (evC env (evW env O) none tmB ⟨tmL T,[]⟩ (KL L n m false [] none)) Q:=by
 obtain⟨t0,t2,t4,t6,t7⟩:=hT;obtain⟨k,v,op,num,fn,as,ks⟩:=cur;have hw:=hS.wf;have hle:=hS.le;have hgo:=fun j hj=>(hS.old j hj).symm;simp only[Qp]at hone;simp only[wJ]at hcur;have hcall:=fun m=>zq0 h37 (L:=L) (n:=n) hx oM hS.old (v:=v) (op:=op) (num:=num) (ks:=ks) hone.1 m false;simp only[tmF]at hQ;simp only[zqW,xU]at hcall;obtain⟨⟨Hk,Hf,Ha⟩,hH⟩:∃H,hdF x.c x.fr x.kn x.nm k fn as=H:=⟨_,rfl⟩;rw[hH]at hcall hQ;simp only at hcall hQ;clear hH;simp only[vl,xU]at g0;unfold tmC at hQ;unfold tmB f20 at *;simp only at hQ⊢;refine xQ ?_;refine xQ ?_;obtain⟨R,hR⟩:∃R,jN x.c x.fr x.kn x.nm ks=R:=⟨_,rfl⟩;rw[hR]at hQ;refine vM (fun f t=>∃T L2 n2 m2 kid,f=⟨tmL T,[]⟩∧t=KL L2 n2 m2 false [] none∧TmT x n0 w wid T∧(tmL T).get 8=some (.ptr n 0)∧(tmL T).get 9=some (gSl 7 kid R.length)∧TmS x L0 n0 w wid L2 n2 m2∧n<n2∧xN L2 n=some (.row 44 [.int .i64 Hk,.int .i64 v,.int .i64 op,.int .i64 num,.int .i64 Hf,.lst Ha.length false (xP wn Ha),.lst ks.length false (x7 ks)] false false)∧(R≠[]→n<kid∧kid<n2∧xN L2 kid=some (.row 44 (xP x3 R) true false))) ?_ fun f t hI=>?_
 ·refine xQ ?_;refine xT ?_;refine wx (fun i:Nat=>ks.length-i) (fun i f t=>∃T L2 n2 m2 kid out,f=⟨tmL T,[]⟩∧t=KL L2 n2 m2 false [] none∧TmT x n0 w wid T∧(tmL T).get 8=some (.ptr n 0)∧(tmL T).get 9=some (gSl 7 kid out.length)∧(tmL T).get 34=some (.lst ks.length false (x7 ks))∧(tmL T).get 35=some (.int .i64 (.ofNat ks.length))∧(tmL T).get 36=some (.int .i64 (.ofNat i))∧i≤ks.length∧out.length=i∧out++jN x.c x.fr x.kn x.nm (ks.drop i)=R∧TmS x L0 n0 w wid L2 n2 m2∧n<n2∧xN L2 n=some (.row 44 [.int .i64 Hk,.int .i64 v,.int .i64 op,.int .i64 num,.int .i64 Hf,.lst Ha.length false (xP wn Ha),.lst ks.length false (x7 ks)] false false)∧(out≠[]→n<kid∧kid<n2∧xN L2 kid=some (.row 44 (xP x3 out) true false))) (fun i f t hI=>?_) 0 ⟨_,_,_,_,0,[],rfl,rfl,⟨sV,sV,sV,sV,sV⟩,sW,by simp (disch:=first|exact dis|fail)only[go_sem,seval,-rO,-rN,gSl],sW,sW,sW,zQ _,rfl,hR,⟨?_,oM,(xZ oM).trans hS.mks,?_,fun hne=>?_,fun j hj=>?_⟩,oM,xS _ _ _,fun h=>absurd rfl h⟩
  ·have hwn:w≠[]→wid<n:=fun h=>(hS.way h).2.1;clear hcall hgo g0 hS hw t0 t2 t4 t6 t7 T hR hQ;obtain⟨T,L2,n2,m2,kid,out,rfl,rfl,⟨t0,t2,t4,t6,t7⟩,t8,t9,t34,t35,t36,hi,hol,hR,hS,hn2,gn,hg⟩:=hI;subst hol;rcases wi ks out.length with ⟨hlt,hd⟩|⟨y,hlt,hd⟩
   ·rw[hd]at hR;simp only[jN,ziA]at hR;subst hR;have hni:¬out.length<ks.length:=oM;refine xO ?_;exact⟨_,L2,n2,m2,kid,rfl,rfl,⟨sV,sV,sV,sV,sV⟩,sV,sV,hS,hn2,gn,hg⟩
   ·have hy:y∈ks:=ziT (by rw[hd];exact zi0)
    have hny:=Ut hy;have hoy:=K0 hone.2.2 hy;have hc:=zsE hd;rw[hd]at hR;simp only[jN]at hR;obtain⟨yk,yv,yo,yn,yf,ya,yks⟩:=y;have hwf:=hS.wf;have hle2:=hS.le;have hcy:=fun{L3 n3} (hn:n0≤n3) (ho:∀j,j<n0→xN L3 j=xN L0 j) m=>zw4 (N:=N) h20 (L:=L3) (n:=n3) hx hn ho (k:=yk) (v:=yv) (op:=yo) (num:=yn) (fn:=yf) (as:=ya) (ks:=yks) ⟨by simp only;omega,hN,hoy⟩ m false
    have hcy1:=fun o1 o2 m=>hcy (L3:=(n2,o1)::(n2,o2)::L2) (show n0≤n2+1 by omega) (fun j hj=>by rw[xL,if_neg oM,xL,if_neg oM];exact hS.old j hj) m
    simp only[xU]at hc hcy1;generalize tmF x.c x.fr x.kn x.nm (.mk yk yv yo yn yf ya yks)=z at *;obtain⟨zk,zv,zo,zn,zf,za,zks⟩:=z;simp only[xU]at hcy1;clear hcy hd hy;refine xQ ?_;refine xR (qW sW ?_);refine xO ?_;refine xR (xT ?_);refine xQ ?_;refine qt ?_;have hw2:∀o1 o2 o3:Option AObj,WfA ((n2+1,o1)::(n2,o2)::(n2,o3)::L2) (n2+1+1):=fun o1 o2 o3=>((((hwf.up oM).same oM).same oM).same oM);refine wc (ztW (bytes:=88) (t:=44) (f:=x3) (id:=kid) (lo:=n0) (vs:=out) (w:=.mk zk zv zo zn zf za zks) wu jy oM (fun hne=>?_) (hw2 _ _ _) oM (?_:(m2|||1<<<n2)%2^n0=0) rfl ?_ oM oM) fun v' t' hv=>?_
    rotate_left
    ·exact(xZ oM).trans hS.mks
    rotate_left
    rotate_left
    ·obtain⟨q1,q2,q3⟩:=hg hne;exact⟨oM,oM,by (repeat rw[xL,if_neg oM]);exact q3⟩
    ·rw[xU];exact(lr (j:=0) (by rw[wh];exact xS _ _ _) rfl).2
    obtain⟨L7,m7,rfl,rfl,g7,hw7,hm7,hf7⟩:=hv;have hcat:=vZ out (.mk zk zv zo zn zf za zks);have hf8:∀j,j<n2→(out≠[]→j≠kid)→xN L7 j=xN L2 j:=fun j hj hne=>(hf7 j oM hne).trans (by (repeat rw[xL,if_neg oM]))
    have hS7:TmS x L0 n0 w wid L7 (n2+1+1+1) m7:=by
     refine⟨hw7,oM,hm7,(hf8 (n0+1) oM fun hne=>by have:=(hg hne).1;omega).trans hS.g1,fun hne=>?_,fun j hj=>(hf8 j oM fun hne=>by have:=(hg hne).1;omega).trans (hS.old j hj)⟩
     obtain⟨q1,q2,q3⟩:=hS.way hne;have q4:=hwn hne;exact⟨q1,oM,(hf8 wid q2 fun h=>by have:=(hg h).1;omega).trans q3⟩
    have gn7:=(hf8 n hn2 fun hne=>by have:=(hg hne).1;omega).trans gn
    have hR7:(out++[.mk zk zv zo zn zf za zks])++jN x.c x.fr x.kn x.nm (ks.drop (out.length+1))=R:=by rw[ziV];exact hR
    clear hw2 hcy1 hf7 hf8 hg gn hS hR;refine xO ?_;refine xO ?_;exact⟨out.length+1,⟨_,L7,n2+1+1+1,m7,n2+1+1,_,rfl,rfl,⟨sV,sV,sV,sV,sV⟩,sV,sV,sV,sV,sV,oM,hcat,hR7,hS7,oM,gn7,fun _=>⟨oM,oM,g7⟩⟩,oM⟩
  ·exact((hw.up oM).same oM).same oM
  ·rw[xL,if_neg oM,xL,if_neg oM];exact hS.g1
  ·obtain⟨q1,q2,q3⟩:=hS.way hne;exact⟨q1,oM,by rw[xL,if_neg oM,xL,if_neg oM];exact q3⟩
  ·rw[xL,if_neg oM,xL,if_neg oM];exact hS.old j hj
 ·have hwn:w≠[]→wid<n:=fun h=>(hS.way h).2.1;clear hcall hgo g0 hS hw t0 t2 t4 t6 t7 T hR;obtain⟨T,L2,n2,m2,kid,rfl,rfl,⟨t0,t2,t4,t6,t7⟩,t8,t9,hS,hn2,gn,hg⟩:=hI;have hle2:=hS.le;have hsc:=uE 7 kid R.length;simp only[ua]at hsc;refine xQ ?_;refine hQ _ _ ⟨⟨_,_,n2,_,wid,n,_,rfl,rfl,⟨sV,sV,sV,sV,sV⟩,sV,⟨hS.wf.same hn2,hle2,(xZ oM).trans hS.mks,?_,fun hne=>?_,fun j hj=>?_⟩,oM,hn2,fun hne=>?_,xS _ _ _,FzA.kids (id:=kid) fun hne=>?_⟩⟩
  ·rw[xL,if_neg oM];exact hS.g1
  ·obtain⟨q1,q2,q3⟩:=hS.way hne;have:=hwn hne;exact⟨q1,q2,by rw[xL,if_neg oM];exact q3⟩
  ·rw[xL,if_neg oM];exact hS.old j hj
  ·have:=hwn hne;omega
  ·obtain⟨q1,q2,q3⟩:=hg hne;exact⟨⟨oM,q2,oM⟩,by rw[xL,if_neg oM];exact q3⟩
end
def UT:List Nat×ICode×ICode:=match tmC with
 |.seq (.seq _ (.block _ (.rf _ ps a b))) _=>(ps,a,b)
 |_=>([],.skip,.skip)
def TbI(L0:List (Nat×Option AObj))(n0' lo:Nat)(A:Nat→Prop)(w:List Trm)(e0:Trm)(nb l lb dd:Nat)(tF:List (Nat×AV))(k:Nat)(fr:Fr)(s:St):Prop:=
 ∃T L n m e us,fr=⟨tmL T,[]⟩∧s=KL L n m false [] none∧(tmL T).get 0=some (.yld l)∧(tmL T).get 1=some (.ptr nb 0)∧(tmL T).get 3=some (.int .i64 (i3 k))∧k≤w.length∧WfA L n∧n0'≤n∧m%2^lo=0∧xN L l=some (.loop .ready none (tmL tF) UT.1 UT.2.1 UT.2.2 dd)∧xN L lb=some (.row 44 us false false)∧FzA (fun r=>A r∨(n0'≤r∧r<n)) L us (x3 e)∧e=QH (w.drop k) e0∧∀j,j<n0'→j≠lb→j≠l→xN L j=xN L0 j
section
variable {O:Orc}
attribute [local go_sem] wR in
theorem zoL(h:O 38=none){k:Nat}{L:List (Nat×Option AObj)}{m:Nat}(b:Bool):
  Cv ((evW env O).call 38 [gSl 7 id k] (KL L n m b [] none)) fun v t=>v=.fn 53 [] [.ptr n 0]∧t=KL ((n,some (.row 42 [gSl 7 id k] false false))::L) (n+1) m b [] none:=by
 refine qb (F:=f38) h rfl rfl (ziw rfl) ?_;unfold f38;simp only[Ko];refine xQ ?_;refine xQ ?_;refine xO ?_;refine xW ?_;exact⟨rfl,rfl⟩
attribute [local go_sem] ltF gtF xZ x4 ziJ ziN ziM ziH wZ wP UT tmC tmB f20 in
theorem zp6(h53:O 53=none){L:List (Nat×Option AObj)}{m nb lo lb l dd:Nat}{tF:List (Nat×AV)}{A:Nat→Prop}{us0:List AV}{w:List Trm}{e0:Trm}(hw:WfA L n)
  (hk2:w.length<1000000000000) (hm:m%2^lo=0) (gnb:xN L nb=some (.row 42 [gSl 7 id w.length] false false)) (ga:w≠[]→xN L id=some (.row 44 (xP x3 w) true false)) (gl:xN L l=some (.loop .ready none (tmL tF) UT.1 UT.2.1 UT.2.2 dd)) (t8:(tmL tF).get 8=some (.ptr lb 0)) (glb:xN L lb=some (.row 44 us0 false false)) (hce:FzA A L us0 (x3 e0))
  (hA:∀r,A r→r<n∧r≠lb∧r≠l) (h1:lb<n∧l<n∧nb<n∧(w≠[]→id<n)) (h2:nb≠lb∧nb≠l∧lb≠l∧(w≠[]→id≠lb∧id≠l)) (h3:lo≤lb∧lo≤l) (b:Bool):
  Cv ((evW env O).call 53 [.yld l,.ptr nb 0] (KL L n m b [] none)) fun v t=>∃us L2 n2 m2,t=KL L2 n2 m2 b [] none∧WfA L2 n2∧n≤n2∧m2%2^lo=0∧xN L2 l=some (.loop .ready none (tmL tF) UT.1 UT.2.1 UT.2.2 dd)∧xN L2 lb=some (.row 44 us false false)∧FzA (fun r=>A r∨(n≤r∧r<n2)) L2 us (x3 (QH w e0))∧∀j,j<n→j≠lb→j≠l→xN L2 j=xN L j:=by
 refine qb (F:=f53) h53 rfl rfl (ziw rfl) ?_;have hs3:=ZE (k:=w.length) oM;unfold f53;simp only[Ko,Ki];refine xQ ?_;refine xT ?_;refine wx (fun k:Nat=>k) (TbI L n lo A w e0 nb l lb dd tF) (fun k2 fr s hI=>?_) w.length ⟨_,L,n,m,e0,us0,rfl,rfl,sW,sW,sW,oM,hw,zu _,hm,gl,glb,hce.mono (fun r h=>.inl h) fun _ _=>rfl,by rw[zhe oM];rfl,fun _ _ _ _=>rfl⟩
 obtain⟨T,L2,n2,m2,e,us,rfl,rfl,q0,q1,q3,hk3,hw2,hn2,hm2,gl2,glb2,hde,he,hfr⟩:=hI;have gnb2:xN L2 nb=some (.row 42 [gSl 7 id w.length] false false):=by rw[hfr nb oM h2.1 h2.2.1];exact gnb
 cases k2 with
 |zero=>
  rw[List.drop_zero]at he;simp only[i3]at q3;clear gnb glb hs3;refine xO ?_;refine xW ?_;subst he;exact⟨us,L2,n2,m2,rfl,hw2,hn2,hm2,gl2,glb2,hde,hfr⟩
 | succ k2=>
  have hlt:k2<w.length:=oM;have hne:w≠[]:=fun e=>by rw[e]at hlt;simp at hlt
  have hia:= @YD 7 id w.length k2 hlt;obtain⟨x,hd⟩:∃x,w.drop k2=x::w.drop (k2+1):=⟨_,ziO oM⟩;have hcx:wj 7 (wH (k2*7) (xP x3 w))=some (x3 x):=WS wu hd;obtain⟨u6,u7,eu,s6,s7⟩:=hde.cells;have d6:=h1.2.2.2 hne;obtain⟨e9,e10⟩:=h2.2.2.2 hne;have gid:=ga hne;rw[←hfr id d6 e9 e10]at gid;have hs2:=ZE (k:=k2) oM;have d1:=h1.1;have d2:=h1.2.1;have d3:=h1.2.2.1;have e2:=h2.2.2.1;have e7:=h2.1;have e8:=h2.2.1;obtain⟨h31,h32⟩:=h3;have hA2:∀r,(A r∨(n≤r∧r<n2))→r<n2∧r≠lb∧r≠l:=fun r hr=>by
   rcases hr with hr|hr
   ·have:=hA r hr;exact⟨oM,this.2.1,this.2.2⟩
   ·exact⟨hr.2,oM,oM⟩
  clear gnb glb hs3 gl ga hA h1 h2;replace hfr:=fun j h1 h2 h3=>(hfr j h1 h2 h3).symm;simp only[i3]at q3;obtain⟨xk,xv,xo,xn,xf,xa,xks⟩:=x;simp only[xU]at hcx;have hde':=hde;rw[eu]at glb2 hde';simp only[ua]at s6 s7;clear hde;generalize e.kind=ek at *;generalize e.var=ev at *;generalize e.op=eo at *;generalize e.num=en at *;generalize e.fn=ef at *;clear eu us;have r2:=e2.symm;refine xO ?_;refine⟨k2,⟨_,_,n2+1+1,_,P9 (.mk xk xv xo xn xf xa xks) [e],_,rfl,rfl,sV,sV,sV,oM,?_,oM,?_,sV,sV,FzA.kid (fun _=>vO (e:=false) (wG vU _) (vN lB _)) hde' (A':=fun r=>A r∨(n≤r∧r<n2+1+1)) (id:=n2+1) (t:=44) (xf:=false) (ff:=false) (fun r hr=>hr.imp (fun h=>h) fun hr=>⟨hr.1,oM⟩) (fun r hr=>?_) (.inr ⟨oM,oM⟩) (fun hr=>?_) ?_,?_,fun j h1 h2 h3=>?_⟩,oM⟩
  ·(repeat first|exact hw2.up oM|refine WfA.same ?_ oM)
  ·rw[xZ oM,xZ oM,xZ oM,xZ oM,xZ oM];exact hm2
  ·have:=hA2 r hr
   (repeat (rw[xL,if_neg oM]))
  ·have:=hA2 _ hr;omega
  ·simp (disch:=first|exact dis|fail)only[go_sem,seval,-rO,-rN, *]
  ·rw[hd,QH,←he]
  ·(repeat (rw[xL,if_neg oM]))
   exact(hfr j h1 h2 h3).symm
end
section
variable {O:Orc}
attribute [local go_sem] ltF gtF xZ x4 ziJ ziN ziM ziH wZ wP wR in
theorem zje(h38:O 38=none)(h53:O 53=none){x:ClX}{L0:List (Nat×Option AObj)}{n0:Nat}{w:List Trm}(hwl:w.length<1000000000){e:Trm}{f:Fr}{t:St}(hJ:TmJ x L0 n0 w e f t):Ev (evC env (evW env O) none tmC f t) fun r f t=>Cv (mdR false (wT env.globs f20.res (some (r,f,t)))) fun v1 t2=>∃L2 n2 m2 b2,t2=KL L2 n2 m2 b2 [] none∧m2%2^n0=0∧∃t3:St,(∀id o,t3.get id=some o→xN L2 id=some o∧n0≤id)∧Fz t3 v1 (.agg (x3 (QH w e))):=by
 obtain⟨T,L,n,m,wid,b8,us,rfl,rfl,⟨t0,t2,t4,t6,t7⟩,t8,hS,hb1,hb2,hwb,g8,hz⟩:=hJ;obtain⟨u6,u7,eu,s6,s7⟩:=hz.cells;unfold tmC tmB f20;simp only;have hle:=hS.le;refine xR (xR (qt ?_));refine wc (zoL h38 false) fun v t hv=>?_;obtain⟨rfl,rfl⟩:=hv;refine xO ?_;refine xT ?_;refine qt ?_;refine zrw (zp6 h53 (lo:=n0) (A:=fun r=>n0+1<r∧r<n∧r≠b8) (id:=wid) (w:=w) (e0:=e) (lb:=b8) (us0:=us) ?_ oM hS.mks ?_ (fun hne=>?_) (xS _ _ _) ?_ ?_ (hz.mono (fun _ h=>h) fun i hi=>?_) (fun r hr=>?_) ⟨oM,oM,oM,fun hne=>?_⟩ ⟨oM,oM,oM,fun hne=>?_⟩ ⟨oM,oM⟩ false) fun v t hr=>?_
 ·exact(((hS.wf.up oM).same oM).same oM).same oM
 ·(repeat rw[xL,if_neg oM]);exact xS _ _ _
 ·obtain⟨q1,q2,q3⟩:=hS.way hne
  (repeat rw[xL,if_neg oM]);exact q3
 ·simp (disch:=first|exact dis|fail)only[go_sem,seval,-rO,-rN, *]
 ·(repeat rw[xL,if_neg oM]);exact g8
 ·(repeat rw[xL,if_neg oM])
 ·exact⟨oM,oM,oM⟩
 ·have:=(hS.way hne).2.1;omega
 ·have:=(hS.way hne).2.1;exact⟨hwb hne,oM⟩
 obtain⟨us2,L2,n2,m2,rfl,hw2,hn2,hm2,gl,glb,hz2,hF⟩:=hr;have gd:xN L2 (n+1)=some .dfd:=(hF (n+1) oM oM oM).trans (by rw[xL,if_neg oM];exact xS _ _ _)
 have g6:xN L2 (n0+1)=some (.row 44 [.int .i64 (.ofNat 0),.int .i64 (.ofNat 0),.int .i64 (.ofNat 0),.int .i64 (.ofNat 0),.int .i64 (.ofNat 0),.nils,.nils] false false):=(hF (n0+1) oM oM oM).trans (by (repeat rw[xL,if_neg oM]);exact hS.g1)
 obtain⟨y6,y7,ey,z6,z7⟩:=hz2.cells;obtain⟨L3,hL3,hz3⟩:=hz2;simp only[UT,tmC,tmB,f20]at gl;generalize QH w e=R at *;have hz3':=hz3;rw[ey]at glb hz3';simp only[ua]at z6 z7;clear hF hS hz g8 hz3 ey eu;refine xO ?_;refine xQ ?_;refine wB (r:=.ret) ?_;show Cv _ _;rw[uL (by (repeat rw[xL,if_neg oM]);exact gd)]
 refine xW ?_;refine⟨_,_,_,_,rfl,?_,KS L3,fun id o ho=>?_,YB hz3'⟩
 ·rw[xZ oM,xZ oM,xZ oM];exact hm2
 ·rw[XX]at ho;obtain⟨q1,q2⟩:=hL3 id o ho;replace q1:n0+1<id∧id<n∧id≠b8∨n+1+1+1≤id∧id<n2:=q1
  (repeat rw[xL,if_neg oM])
  exact⟨q2,oM⟩
theorem zm2{N:Nat}(h20:O 20=some (gCl (TmP N) tmX))(h37:O 37=some (gCl zzF Hs))(h38:O 38=none)(h53:O 53=none){x:ClX}(hp:TmP (N+1) x)(hx:ClIn x (clL x) n):
  Cv (vz env (evW env O) 20 (zzO x) (KL (clL x) n 0 false [] none)) fun v1 t2=>∃L2 n2 m2 b2,t2=KL L2 n2 m2 b2 [] none∧m2%2^n=0∧∃t3:St,(∀id o,t3.get id=some o→xN L2 id=some o∧n≤id)∧Fz t3 v1 (tmX x):=by
 refine zjB (F:=f20) rfl rfl (ziw rfl) ?_;obtain⟨hp1,hp2,hp3⟩:=hp;obtain⟨c,fr,b0,kn,nm,⟨k,v,op,num,fn,as,ks⟩,cp,kid,mid⟩:=x;obtain⟨X,hX⟩:∃X:ClX,X=⟨c,fr,b0,kn,nm,.mk k v op num fn as ks,cp,kid,mid⟩:=⟨_,rfl⟩;rw[←hX]at hp1 hp3 hx⊢;have h0:=hx.l1;have hcp:X.cp=cp:=by rw[hX]
 have hmid:X.mid=mid:=by rw[hX]
 have ht:X.t=.mk k v op num fn as ks:=by rw[hX]
 have hwf:WfA (clL X) n:=zoW hx.l1 hx.l2 hx.l3;simp only[zzO,hcp,hmid,ht,xU];generalize clL X=L0 at *;unfold f20;simp only[Ko,Kn,Ki];refine xQ ?_;refine xQ ?_;refine vM _ (zjc h37 hx oM hp3 ⟨?_,oM,?_,?_,fun h=>absurd rfl h,fun j hj=>?_⟩ ?_ ⟨by rw[hcp];simp (disch:=first|exact dis|fail)only[go_sem,seval,-rO,-rN],by rw[hmid];simp (disch:=first|exact dis|fail)only[go_sem,seval,-rO,-rN],sW,sW,by simp (disch:=first|exact dis|fail)only[go_sem,seval,-rO,-rN,gSl]⟩) fun f t hI=>?_
 ·(repeat first|exact hwf.up oM|refine WfA.same ?_ oM)
 ·exact ziJ _
 ·simp (disch:=first|exact dis|fail)only[go_sem,seval,-rO,-rN]
 ·(repeat rw[xL,if_neg oM])
 ·rw[ht];simp only[vl,xU];rw[xL,if_neg oM];exact xS _ _ _
 obtain⟨T,L2,n2,m2,w,wid,cur,rfl,rfl,hT,hS,g0,_,hone,hnd,hway⟩:=hI;have hpos:=ui cur;refine zjd h20 h37 hx oM (cur:=cur) oM hone hS g0 hT fun f t hJ=>?_;have hX2:tmX X=.agg (x3 (QH w (tmF X.c X.fr X.kn X.nm cur))):=by rw[hway];rfl
 rw[hX2];exact zje h38 h53 oM hJ
end
section
variable {P:Program}{w0:World}(B:Bx P w0)
include B
theorem UP{O:Orc}(hO:OrcOk P w0 O)(h37:O 37=some (gCl zzF Hs))(h38:O 38=none)(h53:O 53=none):∀N:Nat,qz P w0 20 (gCl (TmP N) tmX)
 |0=>fun args s v s' h=>by
  obtain⟨x,_,hp,_⟩:=G5 h;exact absurd hp.1 (Nat.not_lt_zero _)
 |N+1=>by
  have ih:=UP hO h37 h38 h53 N;have hO2:OrcOk P w0 (withG 20 (gCl (TmP N) tmX) O):=hO.withG G4 ih;refine Ks B hO2 (fun x=>by simp only[tmX,vw,uw]) fun x hp n h1 h2 h3 g1 g2 g3=>?_
  exact zm2 (O:=withG 20 (gCl (TmP N) tmX) O) (N:=N) rfl h37 h38 h53 hp ⟨h1,h2,h3,g1,g2,g3⟩
end
open Classical in
noncomputable def P1(A:Nat→Prop):List (Nat×Option AObj)→List (Nat×Option AObj)
 |[]=>[]
 |p::r=>if A p.1 then p::P1 A r else P1 A r
theorem Xv{A:Nat→Prop}{j:Nat}:∀{L:List (Nat×Option AObj)},A j→xN (P1 A L) j=xN L j
 |[],_=>rfl
 |p::r,h=>by
  obtain⟨i,o⟩:=p;simp only[P1];rw[xL];by_cases hi:A i
  ·rw[if_pos hi,xL,Xv h]
  ·rw[if_neg hi,if_neg (fun e:j=i=>hi (e▸h)),Xv h]
theorem Zg{A:Nat→Prop}{j:Nat}:∀{L:List (Nat×Option AObj)},¬A j→xN (P1 A L) j=none
 |[],_=>rfl
 |p::r,h=>by
  obtain⟨i,o⟩:=p;simp only[P1];by_cases hi:A i
  ·rw[if_pos hi,xL,if_neg (fun e:j=i=>h (e▸hi)),Zg h]
  ·rw[if_neg hi,Zg h]
theorem G2{A:Nat→Prop}{L:List (Nat×Option AObj)}{us ws:List AV}:FzA A L us ws↔FzL (KS (P1 A L)) us ws:=by
 constructor
 ·rintro⟨L3,h1,h2⟩
  refine FzL.mono (fun j o ho=>?_) h2;rw[XX]at ho⊢;obtain⟨g1,g2⟩:=h1 j o ho;rw[Xv g1];exact g2
 ·intro h;refine⟨P1 A L,fun id o ho=>?_,h⟩;by_cases ha:A id
  ·rw[Xv ha]at ho;exact⟨ha,ho⟩
  ·rw[Zg ha]at ho;cases ho
theorem FzA.append{A:Nat→Prop}{L:List (Nat×Option AObj)}{us ws us' ws':List AV}(h:FzA A L us ws)(h':FzA A L us' ws'):FzA A L (us++us') (ws++ws'):=by
 rw[G2]at *;exact FzL.append h h'
theorem FzA.cons{A:Nat→Prop}{L:List (Nat×Option AObj)}{u w:AV}{us ws:List AV}(h:∀s,Fz s u w)(h':FzA A L us ws):FzA A L (u::us) (w::ws):=by
 rw[G2]at *;exact x0 (h _) h'
structure RowF{α:Type}(t esz:Nat)(f:α→List AV)(A:Nat→Prop)(L:List (Nat×Option AObj))(n id:Nat)(vs:List α):Prop where
 ex:vs≠[]→id<n∧¬A id∧∃us,xN L id=some (.row t us true false)∧us.length=vs.length*esz∧wd us=true∧FzA A L us (xP f vs)
theorem RowF.mono{α:Type}{t:Nat}{f:α→List AV}{A A':Nat→Prop}{L L':List (Nat×Option AObj)}{n':Nat}{vs:List α}(h:RowF t esz f A L n id vs)(hn:n≤n')(hA:∀r,A r→A' r)(hA':vs≠[]→¬A' id)(hl:∀r,A r→xN L' r=xN L r)(hid:vs≠[]→xN L' id=xN L id):RowF t esz f A' L' n' id vs:=⟨fun hne=>by
 obtain⟨h1,h2,us,h3,h4,h5,h6⟩:=h.ex hne;exact⟨oM,hA' hne,us,(hid hne).trans h3,h4,h5,h6.mono hA hl⟩⟩
theorem WG:∀a b:List AV,wd (a++b)=(wd a&&wd b)
 |[],_=>by simp[wd]
 |v::a,b=>by simp only[zM,jx,WG a b,Bool.and_assoc]
theorem Gw{l:List (Nat×Option AObj)}{m k i:Nat}{b:Bool}{ks:List Nat}(h:i∈ks):(KL l n m b [] (some (k,ks))).get i=xN l i:=by
 rw[Y1,XB.2 h];simp only[hid,cond_false,cond_true];cases Nat.ble k i<;>rfl
theorem ztV{α:Type}{t:Nat}{f:α→List AV}(he:1≤esz){A:Nat→Prop}{L:List (Nat×Option AObj)}{n4:Nat}{vs:List α}{w:α}{us2:List AV}{xf ff:Bool}(hr:RowF t esz f A L n4 id vs)(hA:∀r,A r→r<n4)(hw:WfA L n4)(hl:us2.length=esz)(hs:wd us2=true)(hz:FzA A L us2 (f w))(hb:2*(vs.length+1)*bytes≤281474976710656)(hn:vs.length+1<1000000000000):
  Cv (jg (KL ((n4,some (.row t us2 xf ff))::L) (n4+1) 0 false [] (opD.onOf (n4+1) (zw3 (Gk (some (gSl esz id vs.length))) (some [n4])))) t esz bytes (gSl esz id vs.length) (.sl n4 0 1 (.fix 1))) fun v s=>∃L' m' on',v=gSl esz (n4+1) (vs++[w]).length∧s=KL L' (n4+1+1) m' false [] on'∧RowF t esz f A L' (n4+1+1) (n4+1) (vs++[w])∧WfA L' (n4+1+1)∧(∀j,j<n4→(vs≠[]→j≠id)→xN L' j=xN L j):=by
 have hAn:¬A (n4+1):=fun h=>by have:=hA _ h;omega
 have hl1:us2.length=1*esz:=by rw[hl,zhf]
 cases vs with
 | nil=>
  simp only[gSl,xz,UM,YV,ziQ,Wp];have hg:(KL ((n4,some (.row t us2 xf ff))::L) (n4+1) 0 false [] (some (n4+1,[n4]))).get n4=some (.row t us2 xf ff):=by
   rw[Gw (by simp)];exact xS _ _ _
  refine⟨_,_,HV (q:=0) rfl (lr (j:=0) hg hl1).2 (.inl rfl) he (by simp only[xz,yO]at hb;exact hb) oM,_,_,_,rfl,rfl,⟨fun _=>⟨yc _,hAn,us2,xS _ _ _,by rw[hl];simp,hs,?_⟩⟩,fun j hj=>?_,fun j hj _=>by rw[xL,if_neg oM,xL,if_neg oM]⟩
  ·rw[qM];exact hz.mono (fun _ h=>h) fun r hr=>by rw[xL,if_neg (by have:=hA r hr;omega),xL,if_neg (by have:=hA r hr;omega)]
  ·rw[xL,if_neg oM,xL,if_neg oM];exact hw j oM
 | cons u us=>
  obtain⟨hid1,hAi,us1,g1,g2,g3,g4⟩:=hr.ex (by simp)
  simp only[yb]at hb hn;simp only[gSl,yb,zzk,YV,zM,ziQ,Wp];have hg:(KL ((n4,some (.row t us2 xf ff))::L) (n4+1) 0 false [] (some (n4+1,[id,n4]))).get n4=some (.row t us2 xf ff):=by
   rw[Gw (by simp)];exact xS _ _ _
  have hg2:(KL ((n4,some (.row t us2 xf ff))::L) (n4+1) 0 false [] (some (n4+1,[id,n4]))).get id=some (.row t us1 true false):=by
   rw[Gw (by simp),xL,if_neg oM];exact g1
  refine⟨_,_,HW (q:=0) hg2 (by rw[g2];rfl) rfl (lr (j:=0) hg hl1).2 hs he hb oM,_,_,_,?_,rfl,⟨fun _=>⟨yc _,hAn,us1++us2,xS _ _ _,?_,by rw[WG,g3,hs];rfl,?_⟩⟩,fun j hj=>?_,fun j hj hne=>by rw[xL,if_neg oM,xL,if_neg (hne (by simp)),xL,if_neg oM]⟩
  ·rw[yA];rfl
  ·rw[yA,g2,hl];simp only[yb,yA,xz,yE,zhf,yO]
  ·rw[←zM,wQ,qM];refine(g4.append hz).mono (fun _ h=>h) fun r hr=>?_;rw[xL,if_neg (by have:=hA r hr;omega),xL,if_neg (fun e:r=id=>hAi (e▸hr)),xL,if_neg (by have:=hA r hr;omega)]
  ·rw[xL,if_neg oM,xL];split
   ·rfl
   ·rw[xL,if_neg oM];exact hw j oM
def zsH:ICode:=match f7.body with
 |.seq _ (.seq _ (.seq _ (.seq _ (.seq _ (.seq (.seq _ (.block _ (.loop (.seq _ (.seq _ (.seq (.block _ a) _)))))) _)))))=>a
 |_=>.skip
def zsI:ICode:=match zsH with
 |.seq _ (.seq _ (.seq _ (.seq a _)))=>a
 |_=>.skip
def Xe(c:Cd)(fr:List (List Int))(bid:Nat)(bz:List Int)(kid:Nat):AObj:=.row 56 (wC c++[jj fr,gSl 1 bid bz.length,.map kid]) false false
structure CvT(c:Cd)(cp ob i b10 b11:Nat)(T:List (Nat×AV)):Prop where
 t1:(tmL T).get 1=some (.ptr 0 0)
 t2:(tmL T).get 2=some (.ptr 1 0)
 t5:(tmL T).get 5=some (.ptr cp 0)
 t6:(tmL T).get 6=some (.ptr ob 0)
 t9:(tmL T).get 9=some (.int .i64 (.ofNat i))
 t10:(tmL T).get 10=some (.ptr b10 0)
 t11:(tmL T).get 11=some (.ptr b11 0)
 t81:(tmL T).get 81=some (.int .i64 (.ofNat c.fs.length))
 t82:(tmL T).get 82=some (.int .i64 (.ofNat i))
section
variable {O:Orc}
attribute [local go_sem] ltF gtF xZ x4 ziJ ziN ziM ziH wZ wP wR in
theorem zlq{c:Cd}{fr:List (List Int)}{bz l:List Int}{cp ob i b10 b11 bid bn kid:Nat}{L:List (Nat×Option AObj)}{m:Nat}{T:List (Nat×AV)}(hT:CvT c cp ob i b10 b11 T)(gc:xN L cp=some (Xe c fr bid bz kid))(gb:xN L bid=some (.row 3 (xP wy bz) true false))(hb:∃r,bz.drop i=.ofNat bn::r)(hl:∃r,fr.drop i=l::r)(hbn:bn+l.length<4000000000000000000)(hln:l.length<1000000000)(hw:WfA L n){A:Nat→Prop}{us:List AV}{e:Trm}(g11:xN L b11=some (.row 44 us false false))(hz:FzA A L us (x3 e))(hA:∀r,A r→r<n∧r≠b11)(hcp:cp≠b11)(hbb:bid≠b11){Q:Res→Fr→St→Prop}:
  Ev (evC env (evW env O) none zsI ⟨tmL T,[]⟩ (KL L n m false [] none)) (wM (fun f t=>∃T2 L2 n2 m2 us2,f=⟨tmL T2,[]⟩∧t=KL L2 n2 m2 false [] none∧CvT c cp ob i b10 b11 T2∧n≤n2∧WfA L2 n2∧xN L2 b11=some (.row 44 us2 false false)∧FzA (fun r=>A r∨(n≤r∧r<n2)) L2 us2 (x3 (ug (.ofNat bn) l.length e))∧∀j,j<n→j≠b11→xN L2 j=xN L j) Q):=by
 obtain⟨t1,t2,t5,t6,t9,t10,t11,t81,t82⟩:=hT;obtain⟨rb,hb⟩:=hb;obtain⟨rl,hl⟩:=hl;have hcl:=Yu hl;have hcb:=l7 hb;have hil:i<fr.length:=by
  have:=congrArg xj hl;simp only[ziy,yb]at this;omega
 have hib:i<bz.length:=by
  have:=congrArg xj hb;simp only[ziy,yb]at this;omega
 have hia:= @YD 1 bid bz.length i hib;have hcpn:=hw.lt gc;have hbn2:=hw.lt gb;have h11:=hw.lt g11;have hs3:=ZE (k:=l.length) oM;obtain⟨c1,c2,c3,c4,c5⟩:=c;simp only[Xe,wC,zM,ziQ,jj,qu]at gc hcl;simp only at t81;unfold zsI zsH f7;simp only;obtain⟨R,hR⟩:∃R,ug (.ofNat bn) l.length e=R:=⟨_,rfl⟩;rw[hR];refine xQ ?_;refine xT ?_;refine wx (fun k:Nat=>k) (fun k f t=>∃T2 L2 n2 m2 us2 e2,f=⟨tmL T2,[]⟩∧t=KL L2 n2 m2 false [] none∧CvT ⟨c1,c2,c3,c4,c5⟩ cp ob i b10 b11 T2∧(tmL T2).get 12=some (.int .i64 (i3 k))∧k≤l.length∧n≤n2∧WfA L2 n2∧xN L2 b11=some (.row 44 us2 false false)∧FzA (fun r=>A r∨(n≤r∧r<n2)) L2 us2 (x3 e2)∧ug (.ofNat bn) k e2=R∧∀j,j<n→j≠b11→xN L2 j=xN L j) (fun k f t hI=>?_) l.length ⟨_,L,n,_,us,e,rfl,rfl,⟨sV,sV,sV,sV,sV,sV,sV,sV,sV⟩,sV,zu _,zu _,hw,g11,hz.mono (fun r h=>.inl h) fun _ _=>rfl,hR,fun _ _ _=>rfl⟩;clear hR hz hs3 t1 t2 t5 t6 t9 t10 t11 t81 t82 g11 T;obtain⟨T,L2,n2,m2,us2,e2,rfl,rfl,⟨t1,t2,t5,t6,t9,t10,t11,t81,t82⟩,t12,hk,hn2,hw2,g11,hz,hR,hfr⟩:=hI;simp only at t81;cases k with
 |zero=>
  simp only[ug]at hR;subst hR;simp only[i3]at t12;clear gc gb;refine xO ?_;exact⟨_,L2,n2,_,us2,rfl,rfl,⟨sV,sV,sV,sV,sV,sV,sV,sV,sV⟩,hn2,hw2,g11,hz,hfr⟩
 | succ k=>
  simp only[ug]at hR;simp only[i3]at t12;have gc2:=(hfr cp hcpn hcp).trans gc;have gb2:=(hfr bid hbn2 hbb).trans gb;obtain⟨u6,u7,eu,s6,s7⟩:=hz.cells;have hz':=hz;rw[eu]at g11 hz';simp only[ua]at s6 s7;have hs2:=ZE (k:=k) oM;generalize e2.kind=ek at *;generalize e2.var=ev at *;generalize e2.op=eo at *;generalize e2.num=en at *;generalize e2.fn=ef at *;have hfr2:=fun j h1 h2=>(hfr j h1 h2).symm;clear eu hz gc gb hfr us2;refine xR (xQ ?_);refine qW sW ?_;refine xO ?_;refine xO ?_;refine⟨k,⟨_,_,n2+1,_,_,.mk (.ofNat 1) (.ofNat (bn+k)) (.ofNat 105) (.ofNat k) (.ofNat 0) [] [e2],rfl,rfl,⟨sV,sV,sV,sV,sV,sV,sV,sV,sV⟩,sV,oM,oM,?_,xS _ _ _,FzA.kid (as:=[]) (ks:=[]) (fun _=>uO) hz' (A':=fun r=>A r∨(n≤r∧r<n2+1)) (id:=n2) (t:=44) (xf:=false) (ff:=false) (fun r hr=>hr.imp (fun h=>h) fun hr=>⟨hr.1,oM⟩) (fun r hr=>?_) (.inr ⟨oM,oM⟩) (fun hr=>?_) ?_,hR,fun j h1 h2=>?_⟩,oM⟩
  ·(repeat first|exact hw2.up oM|refine WfA.same ?_ oM)
  ·have:r<n2∧r≠b11:=by
    rcases hr with hr|hr
    ·have:=hA r hr;exact⟨oM,this.2⟩
    ·exact⟨hr.2,oM⟩
   (repeat (rw[xL,if_neg oM]))
  ·rcases hr with hr|hr
   ·have:=hA _ hr;omega
   ·omega
  ·rw[xL,if_neg oM];exact xS _ _ _
  ·(repeat (rw[xL,if_neg oM]))
   exact(hfr2 j h1 h2).symm
end
def zxU:ICode:=match f7.body with
 |.seq _ (.seq _ (.seq _ (.seq _ (.seq _ (.seq a _)))))=>a
 |_=>.skip
structure CvR(c:Cd)(fr:List (List Int))(kn:List (Int×Int))(bz:List Int)(cp kid bid ob:Nat)(VE:Int)(lo:Nat)(L:List (Nat×Option AObj))(n:Nat)(oid:Nat)(out:List Fn):Prop where
 wf:WfA L n
 le:lo≤n
 g0:xN L 0=some (.row 25 (wC c) false false)
 gc:xN L cp=some (Xe c fr bid bz kid)
 gk:xN L kid=some (.umap (uM kn))
 gb:xN L bid=some (.row 3 (xP wy bz) true false)
 go:xN L ob=some (.row 25 [gSl 11 oid out.length,.int .i64 c.main,.int .i64 VE,.int .i64 c.globals,.lst c.consts.length false (wa c.consts)] false false)
structure CvB(cp kid bid ob lo:Nat):Prop where
 b0:0<lo
 b1:cp<lo
 b2:kid<lo
 b3:bid<lo
 b4:ob<lo
 d1:ob≠0
 d2:ob≠cp
 d3:ob≠kid
 d4:ob≠bid
theorem CvR.to{c:Cd}{fr:List (List Int)}{kn:List (Int×Int)}{bz:List Int}{cp kid bid ob:Nat}{VE:Int}{lo:Nat}{L L2:List (Nat×Option AObj)}{n2 oid:Nat}{out:List Fn}(hB:CvB cp kid bid ob lo)(h:CvR c fr kn bz cp kid bid ob VE lo L n oid out)(hw:WfA L2 n2)(hle:n≤n2)(hf:∀j,j<lo→xN L2 j=xN L j):CvR c fr kn bz cp kid bid ob VE lo L2 n2 oid out where
 wf:=hw
 le:=Nat.le_trans h.le hle
 g0:=(hf _ hB.b0).trans h.g0
 gc:=(hf _ hB.b1).trans h.gc
 gk:=(hf _ hB.b2).trans h.gk
 gb:=(hf _ hB.b3).trans h.gb
 go:=(hf _ hB.b4).trans h.go
structure CvPre(N:Nat)(c:Cd)(fr:List (List Int))(kn:List (Int×Int)):Prop where
 nb:N<1000000000
 fl:fr.length=c.fs.length
 nf:c.fs.length<100000000
 ln:∀l∈fr,l.length<400000000
 ps:∀f∈c.fs,f.ps.length<1000000000
 tm:∀f∈c.fs,wJ f.b<N∧Qp c fr kn f.b
section
variable {O:Orc}{N:Nat}
attribute [local go_sem] ltF gtF xZ x4 ziJ ziN ziM ziH wZ wP wR in
theorem zqr(h20:O 20=some (gCl (TmP N) tmX))(h21:O 21=none)(h22:O 22=some G7){c:Cd}{fr:List (List Int)}{kn:List (Int×Int)}(hp:CvPre N c fr kn){bz:List Int}{cp kid bid ob:Nat}{VE:Int}{V0:Nat}{lo:Nat}{L:List (Nat×Option AObj)}{m:Nat}(hB:CvB cp kid bid ob lo)(hR0:CvR c fr kn bz cp kid bid ob VE lo L lo 0 [])(hbz:bz=jp fr (.ofNat V0))(hV:V0<2000000000000000000)
  {T:List (Nat×AV)} (t1:(tmL T).get 1=some (.ptr 0 0)) (t2:(tmL T).get 2=some (.ptr 1 0)) (t5:(tmL T).get 5=some (.ptr cp 0)) (t6:(tmL T).get 6=some (.ptr ob 0)) {Q:Res→Fr→St→Prop}:
  Ev (evC env (evW env O) none zxU ⟨tmL T,[]⟩ (KL L lo m false [] none)) (wM (fun f t=>∃T2 L2 n2 m2 oid A,f=⟨tmL T2,[]⟩∧t=KL L2 n2 m2 false [] none∧(tmL T2).get 2=some (.ptr 1 0)∧(tmL T2).get 6=some (.ptr ob 0)∧CvR c fr kn bz cp kid bid ob VE lo L2 n2 oid (gw c fr kn c.fs fr (.ofNat V0))∧RowF 46 11 wo A L2 n2 oid (gw c fr kn c.fs fr (.ofNat V0))∧(∀r,A r→lo≤r∧r<n2)∧(gw c fr kn c.fs fr (.ofNat V0)≠[]→lo≤oid)∧∀j,j<lo→j≠ob→xN L2 j=xN L j) Q):=by
 unfold zxU f7;simp only;obtain⟨R,hR⟩:∃R,gw c fr kn c.fs fr (.ofNat V0)=R:=⟨_,rfl⟩;rw[hR];have hg0:=hR0.g0;simp only[wC]at hg0;refine xQ ?_;refine xT ?_;refine wx (fun i:Nat=>c.fs.length-i) (fun i f t=>∃T L2 n2 m2 oid A out v,f=⟨tmL T,[]⟩∧t=KL L2 n2 m2 false [] none∧(tmL T).get 1=some (.ptr 0 0)∧(tmL T).get 2=some (.ptr 1 0)∧(tmL T).get 5=some (.ptr cp 0)∧(tmL T).get 6=some (.ptr ob 0)∧(tmL T).get 81=some (.int .i64 (.ofNat c.fs.length))∧(tmL T).get 82=some (.int .i64 (.ofNat i))∧i≤c.fs.length∧out.length=i∧CvR c fr kn bz cp kid bid ob VE lo L2 n2 oid out∧RowF 46 11 wo A L2 n2 oid out∧(∀r,A r→lo≤r∧r<n2)∧(out≠[]→lo≤oid)∧out++gw c fr kn (c.fs.drop i) (fr.drop i) (.ofNat v)=R∧bz.drop i=jp (fr.drop i) (.ofNat v)∧v≤V0+i*400000000∧∀j,j<lo→j≠ob→xN L2 j=xN L j) (fun i f t hI=>?_) 0 ⟨_,L,lo,_,0,fun _=>False,[],V0,rfl,rfl,sV,sV,sV,sV,sV,sV,zQ _,rfl,hR0,⟨fun h=>absurd rfl h⟩,(fun r h=>h.elim),(fun h=>absurd rfl h),hR,hbz,oM,fun _ _ _=>rfl⟩;clear hg0 hR0 hR t1 t2 t5 t6 hbz;obtain⟨T,L2,n2,m2,oid,A,out,v,rfl,rfl,t1,t2,t5,t6,t81,t82,hi,hol,hC,hO,hA,hoid,hR,hbz,hv,hfr⟩:=hI;subst hol;rcases wi c.fs out.length with ⟨hlt,hd⟩|⟨f,hlt,hd⟩
 ·rw[hd]at hR;simp only[gw,ziA]at hR;subst hR;have hni:¬out.length<c.fs.length:=oM;clear hbz;refine xO ?_;exact⟨_,L2,n2,m2,oid,A,rfl,rfl,sV,sV,hC,hO,hA,hoid,hfr⟩
 ·have hfm:f∈c.fs:=ziT (by rw[hd];exact zi0)
  obtain⟨htn,hto⟩:=hp.tm f hfm;have hps:=hp.ps f hfm;have hln:=hp.ln;have hnf:=hp.nf;have hfl:=hp.fl;obtain⟨l,r2,hl⟩:∃l r2,fr.drop out.length=l::r2:=⟨_,_,ziO oM⟩;have hll:=hln l (ziT (by rw[hl];exact zi0))
  have hl2:fr.drop (out.length+1)=r2:=by rw[←yj,hl];rfl
  have hcf:=X4 hd;rw[hl]at hbz;simp only[jp]at hbz;rw[hd,hl]at hR;simp only[gw]at hR;have hvb:v≤V0+40000000000000000:=by
   have:out.length*400000000≤100000000*400000000:=yJ _ oM;omega
  obtain⟨fps,frest,fcont,ffr,⟨bk,bv,bo,bn,bf,ba,bks⟩⟩:=f;simp only at htn hto hps;simp only[wo,qu,xU]at hcf;have hw:=hC.wf;have hle:=hC.le;have g0:=hC.g0;simp only[wC]at g0;obtain⟨z0,z1,z2,z3,z4,z5,z6,z7,z8⟩:=id hB;replace hfr:=fun j h1 h2=>(hfr j h1 h2).symm;refine xQ ?_;refine xR (qW sW ?_);refine xO ?_;refine xR (xT ?_);refine xQ ?_;refine xQ ?_;refine xR (qt ?_);have hw2:∀o1 o2:Option AObj,WfA ((n2,o1)::(n2,o2)::L2) (n2+1):=fun o1 o2=>((hw.up oM).same oM).same oM;have gt1:∀o1 o2:Option AObj,∀j,j<n2→xN ((n2,o1)::(n2,o2)::L2) j=xN L2 j:=fun o1 o2 j hj=>by rw[xL,if_neg oM,xL,if_neg oM]
  refine p9 (zqD h21 (i:=out.length) (bn:=v) (l:=l) (fr:=fr) (bz:=bz) (hw2 _ _) ((gt1 _ _ _ oM).trans hC.gc) ((gt1 _ _ _ oM).trans hC.gb) ⟨_,hbz⟩ ⟨_,hl⟩ oM oM 0) fun v' t' hv'=>?_;obtain⟨L3,n3,m3,rfl,rfl,hn3,hw3,gn3,hm3,hf3⟩:=hv';have hf3':∀j,j<n2→xN L3 j=xN L2 j:=fun j hj=>(hf3 j oM).trans (gt1 _ _ _ hj);have g10:xN L3 n2=some (.row 46 [.lst fps.length false (xP wy fps),.bool frest,.bool fcont,.lst ffr.length false (xP wy ffr),.int .i64 bk,.int .i64 bv,.int .i64 bo,.int .i64 bn,.int .i64 bf,.lst ba.length false (xP wn ba),.lst bks.length false (x7 bks)] false false):=(hf3 n2 oM).trans (xS _ _ _);have hm3':m3%2^(n2+1)=0:=hm3.trans (ziJ _);have hx:ClIn ⟨c,fr,gSl 1 bid bz.length,kn,pJ (.ofNat v) l 0 [],.mk bk bv bo bn bf ba bks,cp,kid,n2+1⟩ L3 n3:=⟨by simp only;omega,by simp only;omega,hn3,(hf3' cp oM).trans hC.gc,(hf3' kid oM).trans hC.gk,gn3⟩
  have hterm:=fun m=>zw4 h20 hx (zu _) (fun _ _=>rfl) (k:=bk) (v:=bv) (op:=bo) (num:=bn) (fn:=bf) (as:=ba) (ks:=bks) ⟨htn,hp.nb,hto⟩ m false;simp only at hterm;obtain⟨z,hz⟩:∃z,tmF c fr kn (pJ (.ofNat v) l 0 []) (.mk bk bv bo bn bf ba bks)=z:=⟨_,rfl⟩;rw[hz]at hterm hR;obtain⟨zk,zv,zo,zn,zf,za,zks⟩:=z;simp only[xU]at hterm;have hz2:FzA A L3 [.int .i64 zk,.int .i64 zv,.int .i64 zo,.int .i64 zn,.int .i64 zf,.lst za.length false (xP wn za),.lst zks.length false (x7 zks)] (x3 (.mk zk zv zo zn zf za zks)):=by rw[←xU];exact FzA.self _
  clear hx hm3 gn3 hf3 hw2 gt1 hcf hz hd g0;refine xO ?_;have hw4:∀o1 o2:Option AObj,WfA ((n3,o1)::(n3,o2)::L3) (n3+1):=fun o1 o2=>((hw3.up oM).same oM).same oM;have gt4:∀o1 o2:Option AObj,∀j,j<n3→xN ((n3,o1)::(n3,o2)::L3) j=xN L3 j:=fun o1 o2 j hj=>by rw[xL,if_neg oM,xL,if_neg oM]
  refine vM _ (zlq (c:=c) (cp:=cp) (ob:=ob) (i:=out.length) (b10:=n2) (b11:=n3) (bid:=bid) (bn:=v) (kid:=kid) (fr:=fr) (bz:=bz) (l:=l) (A:=A) ⟨sV,sV,sV,sV,sV,sV,sV,sV,sV⟩ ((gt4 _ _ cp oM).trans ((hf3' cp oM).trans hC.gc)) ((gt4 _ _ bid oM).trans ((hf3' bid oM).trans hC.gb)) ⟨_,hbz⟩ ⟨_,hl⟩ oM oM (hw4 _ _) (xS _ _ _) (hz2.mono (fun _ h=>h) fun r hr=>by (repeat rw[xL,if_neg (by have:=hA r hr;omega)])) (fun r hr=>by have:=hA r hr;exact⟨oM,oM⟩) oM oM) fun f t hI=>?_
  obtain⟨T4,L4,n4,m4,us4,rfl,rfl,⟨y1,y2,y5,y6,y9,y10,y11,y81,y82⟩,hn4,hw5,g11,hz4,hf4⟩:=hI;have hf:∀j,j<n2+1→xN L4 j=xN L3 j:=fun j hj=>(hf4 j oM oM).trans (gt4 _ _ j oM);have hf':∀j,j<n2→xN L4 j=xN L2 j:=fun j hj=>(hf j oM).trans (hf3' j hj);have g10':=(hf n2 oM).trans g10;have hC4:=hC.to hB hw5 oM fun j hj=>hf' j oM;have hO4:RowF 46 11 wo (fun r=>A r∨(n3+1≤r∧r<n4)) L4 n4 oid out:=hO.mono oM (fun r h=>.inl h) (fun hne h=>by
   obtain⟨q1,q2,_⟩:=hO.ex hne;rcases h with h|h
   ·exact q2 h
   ·omega) (fun r hr=>hf' r (hA r hr).2) fun hne=>hf' _ (hO.ex hne).1
  obtain⟨u6,u7,eu,s6,s7⟩:=hz4.cells;have hz5:=hz4;rw[eu]at g11 hz5;simp only[ua]at s6 s7;have hcl1:=fun s=>oc h22 JZ fps hps (args:=[qu fps]) (by simp only[Yd,wkL,Hi]) s
  have hcl2:=fun s=>oc h22 JZ l (show l.length<1000000000 by omega) (args:=[qu l]) (by simp only[Yd,wkL,Hi]) s
  have gc4:=hC4.gc;have go4:=hC4.go;have hle4:=hC4.le;have hcut:=Yu hl;have hsc:=uE 11 oid out.length;have hfl2:out.length<fr.length:=oM;simp only[qu]at hcl1 hcl2 hcut;simp only[Xe,wC,zM,ziQ,jj]at gc4;generalize hW:ug (zG v) l.length (.mk zk zv zo zn zf za zks)=W at *;generalize W.kind=ek at *;generalize W.var=ev at *;generalize W.op=eo at *;generalize W.num=en at *;generalize W.fn=ef at *;clear hf4 gt4 hw4 hz4 eu hz2 hterm hf3' g10 t1 t2 t5 t6 t81 t82 hm3' hw3;have hfs:=fun j hj=>(hf' j hj).symm;clear hf hf';refine qt ?_;refine p9 (ztV (t:=46) (bytes:=144) (f:=wo) (vs:=out) (w:=⟨fps,frest,fcont,l,W⟩) oM hO4 (fun r hr=>?_) hw5 rfl ?_ ?_ oM oM) fun v' t' hv'=>?_
  ·rcases hr with hr|hr
   ·have:=hA r hr;omega
   ·exact hr.2
  ·simp only[jx,ua,s6,s7,lx,Bool.and_self]
  ·simp only[wo];refine FzA.cons (fun s=>vO (Zc fps) (GY fps)) (FzA.cons (fun s=>w8 _ _) (FzA.cons (fun s=>w8 _ _) (FzA.cons (fun s=>vO (Zc l) (GY l)) ?_)));exact hz5
  obtain⟨L7,m7,on7,rfl,rfl,hO7,hw7,hf7⟩:=hv';have hoid2:out≠[]→lo≤oid∧oid≠ob:=fun hne=>by have:=hoid hne;exact⟨this,oM⟩
  have hlo7:∀j,j<lo→xN L7 j=xN L4 j:=fun j hj=>hf7 j oM fun hne=>by have:=hoid hne;omega
  have go7:xN L7 ob=some (.row 25 [gSl 11 oid out.length,.int .i64 c.main,.int .i64 VE,.int .i64 c.globals,.lst c.consts.length false (wa c.consts)] false false):=(hlo7 ob z4).trans go4;have hcat:=vZ out ⟨fps,frest,fcont,l,W⟩;have hsc2:=uE 11 (n4+1) (out++[(⟨fps,frest,fcont,l,W⟩:Fn)]).length;rw[hcat]at hsc2;simp only[ua]at hsc2;have hC7:=hC4.to (L2:=L7) (n2:=n4+1+1) hB hw7 oM hlo7;replace hlo7:=fun j hj=>(hlo7 j hj).symm;clear hf7 hcl1 hcl2 gc4 go4 hcut hsc hfl2 g11 g10' hoid2 hz5;refine xO ?_;refine xO ?_;have hbz2:bz.drop (out.length+1)=jp r2 (.ofNat (v+l.length)):=by rw[←yj,hbz];rfl
  have hR2:(out++[(⟨fps,frest,fcont,l,W⟩:Fn)])++gw c fr kn (c.fs.drop (out.length+1)) (fr.drop (out.length+1)) (.ofNat (v+l.length))=R:=by
   rw[hl2,ziV];exact hR
  refine⟨out.length+1,⟨_,_,n4+1+1,_,n4+1,fun r=>A r∨(n3+1≤r∧r<n4),out++[⟨fps,frest,fcont,l,W⟩],v+l.length,rfl,rfl,sV,sV,sV,sV,sV,sV,oM,hcat,⟨hw7.same oM,oM,?_,?_,?_,?_,?_⟩,hO7.mono (zu _) (fun _ h=>h) (fun hne=>(hO7.ex hne).2.1) (fun r hr=>?_) (fun _=>?_),fun r hr=>?_,fun _=>oM,hR2,by rw[hl2];exact hbz2,?_,fun j h1 h2=>?_⟩,oM⟩
  ·rw[xL,if_neg (Ne.symm z5)];exact hC7.g0
  ·rw[xL,if_neg (Ne.symm z6)];exact hC7.gc
  ·rw[xL,if_neg (Ne.symm z7)];exact hC7.gk
  ·rw[xL,if_neg (Ne.symm z8)];exact hC7.gb
  ·rw[xS,hcat]
  ·have:lo≤r:=by
    rcases hr with hr|hr
    ·exact(hA r hr).1
    ·omega
   rw[xL,if_neg oM]
  ·rw[xL,if_neg oM]
  ·rcases hr with hr|hr
   ·have:=hA r hr;omega
   ·omega
  ·rw[yE,zhf];omega
  ·rw[xL,if_neg h2,←hlo7 j h1,←hfs j oM];exact(hfr j h1 h2).symm
end
def zxT:ICode:=match f7.body with
 |.seq _ (.seq _ (.seq _ (.seq _ (.seq a _))))=>a
 |_=>.skip
def pA:AObj:=.row 25 [.nils,.int .i64 (.ofNat 0),.int .i64 (.ofNat 0),.int .i64 (.ofNat 0),.nils] false false
structure Cv1(c:Cd)(fr:List (List Int))(kn:List (Int×Int))(bz:List Int)(cp kid bid ob:Nat)(VE:Int)(lo:Nat)(L:List (Nat×Option AObj))(n:Nat):Prop where
 wf:WfA L n
 le:lo≤n
 g0:xN L 0=some (.row 25 (wC c) false false)
 g1:xN L 1=some pA
 gc:xN L cp=some (Xe c fr bid bz kid)
 gk:xN L kid=some (.umap (uM kn))
 gb:bz≠[]→lo≤bid
 go:xN L ob=some (.row 25 [.nils,.int .i64 c.main,.int .i64 VE,.int .i64 c.globals,.lst c.consts.length false (wa c.consts)] false false)
structure CvB1(cp kid ob lo:Nat):Prop where
 b0:1<lo
 b1:cp<lo
 b2:kid<lo
 b4:ob<lo
 c0:1<cp
 c1:1<kid
 c2:1<ob
 d2:ob≠cp
 d3:ob≠kid
 d4:cp≠kid
theorem Cv1.to{c:Cd}{fr:List (List Int)}{kn kn2:List (Int×Int)}{bz:List Int}{cp kid bid ob:Nat}{VE:Int}{lo:Nat}{L L2:List (Nat×Option AObj)}{n2:Nat}(hB:CvB1 cp kid ob lo)(h:Cv1 c fr kn bz cp kid bid ob VE lo L n)(hw:WfA L2 n2)(hle:n≤n2)(hk:xN L2 kid=some (.umap (uM kn2)))(hf:∀j,j<lo→j≠kid→xN L2 j=xN L j):Cv1 c fr kn2 bz cp kid bid ob VE lo L2 n2 where
 wf:=hw
 le:=Nat.le_trans h.le hle
 g0:=(hf _ (by have:=hB.b0;omega) (by have:=hB.c1;omega)).trans h.g0
 g1:=(hf _ hB.b0 (by have:=hB.c1;omega)).trans h.g1
 gc:=(hf _ hB.b1 hB.d4).trans h.gc
 gk:=hk
 gb:=h.gb
 go:=(hf _ hB.b4 hB.d3).trans h.go
section
variable {O:Orc}
attribute [local go_sem] ltF gtF xZ x4 ziJ ziN ziM ziH wZ wP wR in
theorem zqq(h19:O 19=none){c:Cd}{fr:List (List Int)}(hfl:fr.length=c.fs.length)(hnf:c.fs.length<100000000)(hln:∀l∈fr,l.length<400000000)(hsz:∀f∈c.fs,f.fr.length<1000000000∧SzT f.b∧Qo f.b){cp kid ob:Nat}{V0:Nat}{lo:Nat}{L:List (Nat×Option AObj)}{m:Nat}(hB:CvB1 cp kid ob lo)(hR0:Cv1 c fr [] [] cp kid 0 ob (.ofNat V0) lo L lo)(hV:V0<2000000000000000000)
  {T:List (Nat×AV)} (t1:(tmL T).get 1=some (.ptr 0 0)) (t2:(tmL T).get 2=some (.ptr 1 0)) (t5:(tmL T).get 5=some (.ptr cp 0)) (t6:(tmL T).get 6=some (.ptr ob 0)) {Q:Res→Fr→St→Prop} (hQ:gY c.fs []=none→∀T L n m,(tmL T).get 2=some (.ptr 1 0)→(tmL T).get 3=some (.int .i64 (.ofNat 2))→xN L 1=some pA→Q .ret ⟨tmL T,[]⟩ (KL L n m false [] none)):
  Ev (evC env (evW env O) none zxT ⟨tmL T,[]⟩ (KL L lo m false [] none)) (wM (fun f t=>∃T2 L2 n2 m2 bid kn,f=⟨tmL T2,[]⟩∧t=KL L2 n2 m2 false [] none∧(tmL T2).get 1=some (.ptr 0 0)∧(tmL T2).get 2=some (.ptr 1 0)∧(tmL T2).get 5=some (.ptr cp 0)∧(tmL T2).get 6=some (.ptr ob 0)∧gY c.fs []=some kn∧Cv1 c fr kn (jp fr (.ofNat V0)) cp kid bid ob (pG fr (.ofNat V0)) lo L2 n2∧RowF 3 1 wy (fun _=>False) L2 n2 bid (jp fr (.ofNat V0))) Q):=by
 unfold zxT f7;simp only;obtain⟨R,hR⟩:∃R,gY c.fs []=R:=⟨_,rfl⟩;obtain⟨BZ,hBZ⟩:∃R,jp fr (.ofNat V0)=R:=⟨_,rfl⟩;obtain⟨VE,hVE⟩:∃R,pG fr (.ofNat V0)=R:=⟨_,rfl⟩;rw[hBZ,hVE];rw[hR]at hQ⊢;have hg0:=hR0.g0;simp only[wC]at hg0;refine xQ ?_;refine xT ?_;refine wx (fun i:Nat=>c.fs.length-i) (fun i f t=>∃T L2 n2 m2 bid bz v kn,f=⟨tmL T,[]⟩∧t=KL L2 n2 m2 false [] none∧(tmL T).get 1=some (.ptr 0 0)∧(tmL T).get 2=some (.ptr 1 0)∧(tmL T).get 5=some (.ptr cp 0)∧(tmL T).get 6=some (.ptr ob 0)∧(tmL T).get 36=some (.lst c.fs.length false (xP wo c.fs))∧(tmL T).get 37=some (.int .i64 (.ofNat c.fs.length))∧(tmL T).get 38=some (.int .i64 (.ofNat i))∧i≤c.fs.length∧bz.length=i∧Cv1 c fr kn bz cp kid bid ob (.ofNat v) lo L2 n2∧RowF 3 1 wy (fun _=>False) L2 n2 bid bz∧gY (c.fs.drop i) kn=R∧bz++jp (fr.drop i) (.ofNat v)=BZ∧pG (fr.drop i) (.ofNat v)=VE∧v≤V0+i*400000000) (fun i f t hI=>?_) 0 ⟨_,L,lo,_,0,[],V0,[],rfl,rfl,sV,sV,sV,sV,sV,sV,sV,zQ _,rfl,hR0,⟨fun h=>absurd rfl h⟩,hR,hBZ,hVE,oM⟩;clear hg0 hR0 hR hBZ hVE t1 t2 t5 t6;obtain⟨T,L2,n2,m2,bid,bz,v,kn,rfl,rfl,t1,t2,t5,t6,t36,t37,t38,hi,hbl,hC,hO,hR,hBZ,hVE,hv⟩:=hI;subst hbl;obtain⟨z0,z1,z2,z3,z4,z5,z6,z7,z8,z9⟩:=id hB;rcases wi c.fs bz.length with ⟨hlt,hd⟩|⟨f,hlt,hd⟩
 ·rw[hd]at hR;have hdf:fr.drop bz.length=[]:=zhe oM;rw[hdf]at hBZ hVE;simp only[gY]at hR;simp only[jp,ziA,pG]at hBZ hVE;subst hR;subst hBZ;subst hVE;have hni:¬bz.length<c.fs.length:=oM;clear hQ;refine xO ?_;exact⟨_,L2,n2,m2,bid,kn,rfl,rfl,sV,sV,sV,sV,rfl,hC,hO⟩
 ·have hfm:f∈c.fs:=ziT (by rw[hd];exact zi0)
  obtain⟨hs1,hs2,hs3⟩:=hsz f hfm;obtain⟨l,r2,hl⟩:∃l r2,fr.drop bz.length=l::r2:=⟨_,_,ziO oM⟩;have hll:=hln l (ziT (by rw[hl];exact zi0))
  have hl2:fr.drop (bz.length+1)=r2:=by rw[←yj,hl];rfl
  have hcf:=X4 hd;rw[hl]at hBZ hVE;simp only[jp,pG]at hBZ hVE;rw[hd]at hR;simp only[gY]at hR;have hvb:v≤V0+40000000000000000:=by
   have:bz.length*400000000≤100000000*400000000:=yJ _ oM;omega
  have hw:=hC.wf;have hle:=hC.le;have gc:=hC.gc;have gk:=hC.gk;have hopen:=fun{L n m} (hw:WfA L n) (h1:xN L cp=some (Xe c fr bid bz kid)) (h2:xN L kid=some (.umap (uM kn)))=>zmz (L:=L) (n:=n) (m:=m) h19 (wJ f.b) f.b (zu _) hs2 hs3 kn hw h1 h2;have hg1:=hC.g1;obtain⟨fps,frest,fcont,ffr,b⟩:=f;simp only at hs1 hs2 hs3 hR hopen;obtain⟨bk,bv,bo,bn,bf,ba,bks⟩:=b;simp only[wo,qu,xU]at hcf;simp only[ud,xU]at hopen;refine xQ ?_;refine xR (qW sW ?_);refine xO ?_;refine xR (xT ?_);refine xQ ?_;cases ffr with
  |cons x xs=>
   have hpos:0<xs.length+1:=oM;simp only[yb,hpos,decide_true,cond_true]at hR hcf;subst hR;simp only[pA]at hg1;clear hopen gc gk;have z10:¬1=n2:=oM;refine xO ?_;exact hQ rfl _ _ _ _ sV sV (xS _ _ _)
  | nil=>
   simp only[xz,Nat.lt_irrefl,decide_false,cond_false]at hR hcf;have hw2:∀o1 o2:Option AObj,WfA ((n2,o1)::(n2,o2)::L2) (n2+1):=fun o1 o2=>((hw.up oM).same oM).same oM;have gt1:∀o1 o2:Option AObj,∀j,j<n2→xN ((n2,o1)::(n2,o2)::L2) j=xN L2 j:=fun o1 o2 j hj=>by rw[xL,if_neg oM,xL,if_neg oM]
   refine xR (xR (qt ?_));refine wc (hopen (hw2 _ _) ((gt1 _ _ cp oM).trans gc) ((gt1 _ _ kid oM).trans gk)) fun v' t' hv'=>?_;obtain⟨L3,n3,m3,rfl,hn3,hw3,hf3,hor⟩:=hv';rcases hor with ⟨ho,rfl⟩|⟨kn2,ho,rfl,gk3⟩
   ·rw[ho]at hR;simp only[Option.bind_none]at hR;subst hR;have g13:xN L3 1=some pA:=(hf3 1 oM oM).trans ((gt1 _ _ 1 oM).trans hg1);simp only[pA]at g13;clear hopen gc gk hg1 hf3 gt1 hw2;refine xO ?_;refine xO ?_;exact hQ rfl _ _ _ _ sV sV (xS _ _ _)
   ·rw[ho]at hR;simp only[ziP]at hR;have hf3':∀j,j<n2→j≠kid→xN L3 j=xN L2 j:=fun j hj hne=>(hf3 j oM hne).trans (gt1 _ _ j hj);have hC3:=hC.to (kn2:=kn2) hB hw3 oM gk3 fun j hj hne=>hf3' j oM hne;have hO3:RowF 3 1 wy (fun _=>False) L3 n3 bid bz:=hO.mono oM (fun _ h=>h) (fun _ h=>h) (fun _ h=>h.elim) fun hne=>hf3' bid (hO.ex hne).1 (by have:=hC.gb hne;omega)
    have gc3:=hC3.gc;have go3:=hC3.go;have hcut:=Yu hl;have hil:bz.length<fr.length:=oM;have hsc:=uE 1 bid bz.length;simp only[Xe,wC,zM,ziQ,jj]at gc3;simp only[qu]at hcut;clear hQ hopen gc gk hg1 hf3 hf3' gt1 hw2 hC hO ho;refine xO ?_;refine xO ?_;refine xR (qt ?_);refine p9 (ztV (t:=3) (bytes:=8) (f:=wy) (vs:=bz) (w:=.ofNat v) oM hO3 (fun r hr=>hr.elim) hw3 rfl rfl ⟨[],(fun _ _ h=>by cases h),x0 (wF _ _ _) vC⟩ oM oM) fun v' t' hv'=>?_
    obtain⟨L7,m7,on7,rfl,rfl,hO7,hw7,hf7⟩:=hv';have hlo7:∀j,j<lo→xN L7 j=xN L3 j:=fun j hj=>hf7 j oM fun hne=>by have:=hC3.gb hne;omega
    have hC7:=hC3.to (L2:=L7) (n2:=n3+1+1) hB hw7 oM ((hlo7 kid z2).trans gk3) fun j hj _=>hlo7 j hj;have gc7:=(hlo7 cp z1).trans gc3;have go7:=(hlo7 ob z3).trans go3;have hcat:=vZ bz (zG v);have hsc2:=uE 1 (n3+1) (bz++[zG v]).length;rw[hcat]at hsc2;simp only[ua]at hsc2;clear hf7 hsc gc3 go3 hlo7;refine xO ?_;refine xO ?_;refine xO ?_;refine⟨bz.length+1,⟨_,_,n3+1+1,_,n3+1,bz++[.ofNat v],v+l.length,kn2,rfl,rfl,sV,sV,sV,sV,sV,sV,sV,oM,hcat,⟨(hw7.same oM).same oM,oM,?_,?_,?_,?_,fun _=>oM,xS _ _ _⟩,hO7.mono (zu _) (fun _ h=>h) (fun _ h=>h) (fun _ h=>h.elim) (fun _=>?_),hR,?_,by rw[hl2];exact hVE,?_⟩,oM⟩
    ·rw[xL,if_neg oM,xL,if_neg oM];exact hC7.g0
    ·rw[xL,if_neg oM,xL,if_neg oM];exact hC7.g1
    ·rw[xL,if_neg oM,xS];simp only[Xe,wC,zM,ziQ,jj,hcat,hfl]
    ·rw[xL,if_neg oM,xL,if_neg oM];exact hC7.gk
    ·rw[xL,if_neg oM,xL,if_neg oM]
    ·rw[hl2,ziV];exact hBZ
    ·rw[yE,zhf];omega
end
end Go.Proofs.YtbddpjboppmnfaaGreatDoor.Ev

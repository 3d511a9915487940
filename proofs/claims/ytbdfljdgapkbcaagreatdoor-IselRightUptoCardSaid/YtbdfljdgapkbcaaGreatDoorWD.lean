/- Contracts of functions that IselRight calls: what a call answers, for all data, by symbolic evaluation. No conditions of its own. -/
import Derived.Test.YtbdfljdgapkbcaaGreatDoorWC
set_option linter.unusedSimpArgs false
set_option linter.unusedVariables false
set_option linter.defProp false
set_option maxHeartbeats 4000000
set_option linter.unusedSectionVars false
open Nat renaming le_of_ble_eq_true → ziF, zero_mod → ziS, or_zero → ziV, zero_or → ziW, le_refl → zo, lt_succ_self → zV, zero_le → zK, le_succ → zhi, le_of_eq → zhl, zero_add → yC, zero_testBit → zhm, blt → ze
open Bool renaming cond_self → ziQ, and_eq_true → zl, true_or → ziR, false_or → xj, true_and → yD
open Int renaming ofNat → zA
open List renaming mem_cons_self → zi9, length_cons → zU, mem_of_mem_drop → zi2, cons_append → zG, getD_eq_getElem?_getD → yU, map_cons → zv, drop_eq_getElem_cons → ziX, nil_append → ziZ, append_assoc → zi4, mem_cons → ziU, mem_append_right → zhn, length_nil → xd, length_append → yl, perm_append_singleton → zho, getElem?_eq_getElem → yv, getElem?_replicate → zhf, map_append → zB, mem_of_getElem? → y7, map_nil → yB
open List.Perm renaming swap → ziD
namespace Go.Proofs.YtbdfljdgapkbcaaGreatDoor.Ev
variable {P:Program}{w0:World}{O:Orc}{s:St}{v:AV}{id n esz bytes:Nat}
open T
set_option maxRecDepth 100000
noncomputable def je(P:Program)(w0:World)(c:Cd):Int:=
 bif (ltD c.globals (.ofNat 0)||ltD (.ofNat 20000) c.globals)||ltD c.vars (.ofNat 0)then .ofNat 2
 else bif KA P w0 c.consts then (bif jK c then .ofNat 0 else .ofNat 4)else .ofNat 2
structure EaPre(N:Nat)(c:Cd):Prop where
 cs:CsPre N c.consts
 sz:CdSz c
noncomputable def GN(P:Program)(w0:World)(N:Nat):List AV→St→Option (AV×St):=vr qD (EaPre N) (fun c=>.int .i64 (je P w0 c))
section
variable {P:Program}{w0:World}(B:Bx P w0){O:Orc}{N:Nat}(hO:OrcOk P w0 O)
include B hO
attribute [local go_sem] ltF gtF xI xH ziS ziW ziV ziQ xW in
theorem zsv(H:NOrc P w0 N O)(h46:O 43=some zrC)(c:Cd)(hc:EaPre N c):∃s1,SC P w0 24 (qD c) (s00 0 true) (.int .i64 (je P w0 c)) s1:=by
 refine bew B hO f24 ?_;have hwh:=fun s=>oc h46 jy c hc.sz (kR c) s;obtain⟨R,hR⟩:∃R,je P w0 c=R:=⟨_,rfl⟩;rw[hR];unfold je at hR;have hcs:=hc.cs;obtain⟨fs,main,vars,globals,consts⟩:=c;simp only at hcs hR;have hne:=fun{L n} (hw:WfA L n) m=>zkz H hcs hw m;simp only[qD,vv,w9]at hwh⊢;unfold f24 cF;simp only;have hin:∀(s:St) (k:Nat),Fz s (.int .i64 (.ofNat k)) (.int .i64 (.ofNat k)):=fun s k=>wU s _ _;cases c1:ltD globals (.ofNat 0)with
 |true=>
  rw[c1]at hR;simp only[ziR,cond_true]at hR;subst hR;clear hne hwh;refine xB ?_;refine xB ?_;refine xF ?_;exact hin _ _
 |false=>
 cases c2:ltD (.ofNat 20000) globals with
 |true=>
  rw[c2]at hR;simp only[ziR,Bool.or_true,cond_true]at hR;subst hR;clear hne hwh;refine xB ?_;refine xB ?_;refine xF ?_;exact hin _ _
 |false=>
 cases c3:ltD vars (.ofNat 0)with
 |true=>
  rw[c3]at hR;simp only[Bool.or_true,cond_true]at hR;subst hR;clear hne hwh;refine xB ?_;refine xB ?_;refine xF ?_;exact hin _ _
 |false=>
 rw[c1,c2,c3]at hR;simp only[Bool.or_self,cond_false]at hR;refine xB ?_;refine xB ?_;refine xz ?_;refine xz (xK ?_);refine xC (hne (fun j hj=>by rw[xr,if_neg oM];rfl) _) fun v t hv=>?_
 obtain⟨x,L2,n2,m2,rfl,hx,rfl,hle,hfr⟩:=hv;have g0:=(hfr 0 oM).trans (xG _ _ _);have hxs:q8 x=true:=by rcases hx with rfl|⟨p,rfl⟩<;>rfl
 clear hne hx hfr;cases hk:KA P w0 consts with
 |false=>
  rw[hk]at hR;simp only[cond_false]at hR⊢;subst hR;clear hwh;refine xu ?_;refine xu ?_;refine xF ?_;exact hin _ _
 | true=>
  rw[hk]at hR;simp only[cond_true]at hR⊢;generalize jK _=wb at *;cases wb with
  |false=>
   simp only[cond_false]at hR;subst hR;refine xu ?_;refine xu ?_;refine xu ?_;refine xF ?_;exact hin _ _
  |true=>
   simp only[cond_true]at hR;subst hR;refine xu ?_;refine xu ?_;refine xu ?_;refine xF ?_;exact hin _ _
end
theorem zvR{c:Cd}{f:Fn}{t:Trm}(h:ux c f t=true)(h2:eqD t.kind (.ofNat 2)=true):∃j,t.fn=.ofNat j∧j<c.fs.length:=by
 unfold ux at h;rw[zl]at h;have hk:t.kind=.ofNat 2:=by simpa [eqD]using h2
 have h1:eqD t.kind (.ofNat 1)=false:=by rw[hk];rfl
 have h3:=h.2;rw[h1,cond_false]at h3;unfold Zm at h3;rw[zl,h2,cond_true,zl,zl]at h3;exact kH h3.2.1.1
mutual
theorem PX{c:Cd}{f:Fn}:∀t:Trm,vW c f t=true→SzT t→Hq t∧Qo c.fs.length t
 |.mk k v op n fn az ks,h,hs=>by
  simp only[vW,zl]at h;simp only[SzT]at hs;have h1:=Ua h.1;have h2:=fun e=>zvR h.1 e;obtain⟨h3,h4⟩:=K1 ks h.2 hs.2.2;simp only[Trm.kids,Trm.kind,Trm.fn]at h1 h2;simp only[Hq,Qo];exact⟨⟨h1,h3⟩,hs.1,h1,h2,h4⟩
theorem K1{c:Cd}{f:Fn}:∀ks:List Trm,jm c f ks=true→YQ ks→QZ ks∧Hs c.fs.length ks
 |[],_,_=>by simp only[QZ,Hs,and_self]
 |t::r,h,hs=>by
  simp only[jm,zl]at h;simp only[YQ]at hs;obtain⟨a1,a2⟩:=PX t h.1 hs.1;obtain⟨b1,b2⟩:=K1 r h.2 hs.2;simp only[QZ,Hs];exact⟨⟨a1,b1⟩,a2,b2⟩
end
structure ChPre(N:Nat)(c:Cd):Prop where
 ea:EaPre N c
 nt:∀f∈c.fs,wC f.b≤900000000
 us:(XG c).length<1000000000
 vs:c.vars< .ofNat 9223372036854775808
theorem gG{c:Cd}(h:je P w0 c=.ofNat 0):jK c=true∧KA P w0 c.consts=true∧ltD c.globals (.ofNat 0)=false∧ltD (.ofNat 20000) c.globals=false∧ltD c.vars (.ofNat 0)=false:=by
 unfold je at h;generalize ltD c.globals (.ofNat 0)=a at *;generalize ltD (.ofNat 20000) c.globals=b at *;generalize ltD c.vars (.ofNat 0)=d at *;generalize KA P w0 c.consts=e at *;generalize jK c=g at *;revert h;cases a<;>cases b<;>cases d<;>cases e<;>cases g<;>intro h<;>first|exact⟨rfl,rfl,rfl,rfl,rfl⟩|exact absurd h (by decide)
theorem Ga{N:Nat}{c:Cd}(hp:ChPre N c)(h:jK c=true):CdOk c∧Ge c:=by
 have key:∀f∈c.fs,Hq f.b∧Qo c.fs.length f.b:=fun f hf=>by
  unfold jK at h;rw[zl]at h;have h1:=List.all_eq_true.1 h.2 f hf;unfold wFn at h1;rw[zl,zl]at h1;exact PX f.b h1.2.2 (hp.ea.sz.f f hf).2.2
 exact⟨⟨hp.ea.sz.n,fun f hf=>⟨(key f hf).2,hp.nt f hf,(hp.ea.sz.f f hf).1⟩⟩,hp.ea.sz.n,fun f hf=>⟨(hp.ea.sz.f f hf).1,(hp.ea.sz.f f hf).2.2,(key f hf).1⟩⟩
def zt9(c:Cd):Nat→List Fn→Bool
 |_,[]=>false
 |i,f::r=>((eqD (.ofNat i) c.main||decide (0<f.fr.length))&&decide (0<((gT c).getD i []).length))||zt9 c (i+1) r
noncomputable def lW(P:Program)(w0:World)(c:Cd):Int:=
 bif eqD (je P w0 c) (.ofNat 0)then (bif KI c then (bif zt9 c 0 c.fs then .ofNat 6 else .ofNat 0)else .ofNat 14)else je P w0 c
noncomputable def zyq(P:Program)(w0:World)(N:Nat):List AV→St→Option (AV×St):=vr qD (ChPre N) (fun c=>.int .i64 (lW P w0 c))
open Nat (reduceEqDiff reduceLeDiff reduceLT reduceAdd reduceMul reduceSub reduceMod reducePow reduceDiv reduceOr reduceShiftLeft reduceGT reduceSucc)
open List (length_cons length_nil length_take length_drop)
open Int (reduceOfNat reduceNegSucc)
section
variable {P:Program}{w0:World}(B:Bx P w0){O:Orc}{N:Nat}(hO:OrcOk P w0 O)
include B hO
attribute [local go_sem] ltF gtF P8 zlo xI xH ziS ziW ziV ziQ xW in
theorem zsg(h30:O 24=some (GN P w0 N))(h31:O 25=some zrz)(h32:O 26=none)(h48:O 45=some (Yq 900000000))(c:Cd)(hc:ChPre N c):∃s1,SC P w0 13 (qD c) (s00 0 true) (.int .i64 (lW P w0 c)) s1:=by
 refine bew B hO f13 ?_;have hea:=fun s=>oc h30 jy c hc.ea (kR c) s;obtain⟨R,hR⟩:∃R,lW P w0 c=R:=⟨_,rfl⟩;rw[hR];unfold lW at hR;have hw:=fun h=>Ga hc (gG (P:=P) (w0:=w0) (c:=c) h).1;generalize je P w0 c=e at *;cases c1:eqD e (.ofNat 0)with
 |false=>
  rw[c1]at hR;simp only[cond_false]at hR;subst hR;clear hw;obtain⟨fs,main,vars,globals,consts⟩:=c;unfold f13 cF;simp only[qD,vv,w9]at hea⊢;refine xB ?_;refine xB ?_;refine xF ?_;exact wU _ _ _
 | true=>
  rw[c1]at hR;simp only[cond_true]at hR;have he:e=.ofNat 0:=by simpa [eqD]using c1
  subst he;obtain⟨hok,hon⟩:=hw rfl;have hoc:=fun s=>oc h31 jy c hon (kR c) s;have hse:=fun{L0 n0} (hw0:WfA L0 n0) m=>zws h32 h48 hok hw0 m false;have hfz:=hc.ea.sz.f;have hnf:=hc.ea.sz.n;clear hw hok hon c1 hc;unfold f13 cF;cases c2:KI c with
  |false=>
   rw[c2]at hR hoc;simp only[cond_false]at hR;subst hR;clear hse;obtain⟨fs,main,vars,globals,consts⟩:=c;simp only[qD,vv,w9]at hea hoc⊢;refine xB ?_;refine xB ?_;refine xB ?_;refine xF ?_;exact wU _ _ _
  | true=>
   rw[c2]at hR hoc;simp only[cond_true]at hR;clear c2;have hcut:=fun i f r h=> @VL c.fs i f r h;have hcap:∀i,zt9 c i (c.fs.drop i)=match c.fs.drop i with
    |[]=>false
    |f::r=>((eqD (.ofNat i) c.main||decide (0<f.fr.length))&&decide (0<((gT c).getD i []).length))||zt9 c (i+1) r:=fun i=>by
    cases c.fs.drop i<;>rfl
   have hS:=(pf c (Qq c));generalize hCI:zt9 c=CI at *;generalize gT c=SS at *;obtain⟨fs,main,vars,globals,consts⟩:=c;simp only[qD,vv,w9]at hea hoc hse hcut hcap hfz hnf hR⊢;refine xB ?_;refine xB ?_;refine xB ?_;refine xz (xK ?_);refine xC (hse (fun j hj=>by rw[xr,if_neg oM];rfl) _) fun v t hv=>?_
   obtain⟨ids,fid,L,n,m,rfl,rfl,hM,hil,hn,hfr⟩:=hv;have g0:=((hfr 0 oM).1).trans (xG _ _ _);clear hse hfr hea hoc hS;refine xu ?_;refine xz (xz (xu ?_));refine xE ?_;refine xU (fun i:Nat=>fs.length-i) (fun i f t=>∃T L2 n2 m2,f=⟨tmL T,[]⟩∧t=KL L2 n2 m2 false [] none∧(tmL T).get 1=some (.ptr 0 0)∧(tmL T).get 4=some (.sl fid 0 fs.length (.fix fs.length))∧(tmL T).get 18=some (.lst fs.length false (xA we fs))∧(tmL T).get 19=some (.int .i64 (.ofNat fs.length))∧(tmL T).get 20=some (.int .i64 (.ofNat i))∧i≤fs.length∧SetM ids SS fid (0+1) L2 n2∧0<n2∧xD L2 0=some (.row 25 [.lst fs.length false (xA we fs),.int .i64 main,.int .i64 vars,.int .i64 globals,.lst consts.length false (xX consts)] false false)∧(bif CI i (fs.drop i)then (.ofNat 6:Int)else .ofNat 0)=R) (fun i f t hI=>?_) 0 ⟨_,L,n,_,rfl,rfl,sW,sW,sW,sW,sW,zK _,hM,oM,g0,hR⟩;clear hR hM g0 hn;obtain⟨T,L2,n2,m2,rfl,rfl,t1,t4,t18,t19,t20,hi,hM,hn,g0,hR⟩:=hI;rcases xQ fs i with ⟨hlt,hd⟩|⟨g,hlt,hd⟩
   ·rw[hcap i,hd]at hR;simp only[cond_false]at hR;subst hR;have:¬i<fs.length:=oM;clear hcap hcut hfz hM hCI;refine xu ?_;refine xu ?_;refine xF ?_;exact wU _ _ _
   ·rw[hcap i,hd]at hR;simp only at hR;have hcg:=hcut i g _ hd;have hgl:=(hfz g (zi2 (by rw[hd];exact zi9))).2.1
    obtain⟨gps,grest,gcont,gfr,gb⟩:=g;obtain⟨gk,gv,gop,gn,gf,gas,gks⟩:=gb;simp only[we,xP,qW]at hcg hR hgl;have hii:i<ids.length:=oM;have hid:ids[i]? =some ids[i]:=yv hii;generalize hidd:ids[i]=id at hid;have gid:=hM.maps i id hid;have grow:=hM.row;have hidn:=hM.wf.lt gid;have hfn:=hM.wf.lt grow;have hcut2:xV 1 (wl i (ids.map AV.map))=some [.map id]:=by
     have:(ids.map AV.map).drop i=.map id::(ids.map AV.map).drop (i+1):=by
      rw[ziX (by simpa using hii)]
      simp[hidd]
     rw[wK,this];rfl
    have hul:=zjb (SS.getD i []);have hlo:=hM.los id (y7 hid);have hlf:=hM.lof;have hM2:∀o1 o2:Option AObj,SetM ids SS fid (0+1) ((n2,o1)::(n2,o2)::L2) (n2+1):=fun o1 o2=>hM.oth (by
     have hw:=hM.wf
     repeat first|exact hw.up oM|refine WfA.same ?_ oM) fun j hj _=>by rw[xr,if_neg oM,xr,if_neg oM]
    generalize uS (SS.getD i [])=ul at *;generalize SS.getD i []=sl at *;clear hcap hcut hfz hM hCI hd;by_cases hs:0<sl.length
    ·rw[decide_eq_true hs]at hR;cases c1:eqD (.ofNat i) main with
     |true=>
      rw[c1]at hR;simp only[ziR,yD,cond_true]at hR;subst hR;clear hM2;refine xu ?_;refine xF ?_;exact wU _ _ _
     |false=>
      rw[c1]at hR;by_cases hg:0<gfr.length
      ·rw[decide_eq_true hg]at hR;simp only[xj,yD,ziR,cond_true]at hR;subst hR;clear hM2;refine xu ?_;refine xF ?_;exact wU _ _ _
      ·rw[decide_eq_false hg]at hR;simp only[xj,Bool.false_and]at hR;refine xu ?_;exact⟨i+1,⟨_,_,n2+1,_,rfl,rfl,sV,sV,sV,sV,sV,oM,hM2 _ _,oM,sV,hR⟩,oM⟩
    ·rw[decide_eq_false hs]at hR;simp only[Bool.and_false,xj]at hR;cases c1:eqD (.ofNat i) main with
     |true=>
      refine xu ?_;exact⟨i+1,⟨_,_,n2+1,_,rfl,rfl,sV,sV,sV,sV,sV,oM,hM2 _ _,oM,sV,hR⟩,oM⟩
     |false=>
      by_cases hg:0<gfr.length
      ·refine xu ?_;exact⟨i+1,⟨_,_,n2+1,_,rfl,rfl,sV,sV,sV,sV,sV,oM,hM2 _ _,oM,sV,hR⟩,oM⟩
      ·refine xu ?_;exact⟨i+1,⟨_,_,n2+1,_,rfl,rfl,sV,sV,sV,sV,sV,oM,hM2 _ _,oM,sV,hR⟩,oM⟩
end
theorem ztp{c:Cd}(h:jK c=true):∀f∈c.fs,(f.ps++f.fr).all (fun x=>x0 x c.vars)=true∧vW c f f.b=true∧(f.rest=true→f.ps≠[]):=fun f hf=>by
 unfold jK at h;rw[zl]at h;have h1:=List.all_eq_true.1 h.2 f hf;unfold wFn at h1;rw[zl,zl]at h1;refine⟨h1.2.1,h1.2.2,fun hr he=>?_⟩;have h3:=h1.1;rw[hr,he]at h3;cases h3
theorem zzn{n m:Int}:x0 n m=true↔0≤n∧n<m:=by
 unfold x0 ltD;rw[zl,Bool.not_eq_true',decide_eq_false_iff_not,decide_eq_true_eq];exact⟨fun h=>⟨Int.not_lt.1 h.1,h.2⟩,fun h=>⟨Int.not_lt.2 h.1,h.2⟩⟩
theorem ztI{vars nc:Int}{a:Atm}:Gi vars nc a=true↔(a.k=.ofNat 1∧x0 a.n vars=true)∨(a.k=.ofNat 2∧x0 a.n nc=true):=by
 unfold Gi;by_cases h1:a.k=.ofNat 1
 ·have h2:¬a.k=.ofNat 2:=by rw[h1];decide
  have h1':a.k=1:=h1;have e1:eqD a.k (.ofNat 1)=true:=decide_eq_true h1;have e2:eqD a.k (.ofNat 2)=false:=decide_eq_false h2;rw[e1,e2];cases x0 a.n vars<;>simp[h1']
 ·have e1:eqD a.k (.ofNat 1)=false:=decide_eq_false h1;have h1':¬a.k=1:=h1;by_cases h2:a.k=.ofNat 2
  ·have e2:eqD a.k (.ofNat 2)=true:=decide_eq_true h2;have h2':a.k=2:=h2;rw[e1,e2];cases x0 a.n nc<;>simp[h2']
  ·have e2:eqD a.k (.ofNat 2)=false:=decide_eq_false h2;have h2':¬a.k=2:=h2;rw[e1,e2];simp[h1',h2']
theorem Qd{sc:List Int}{x:Int}:∀{az:List Atm} {ow:List Int},x∈qS sc ow az→x∈ow∨∃a∈az,eqD a.k (.ofNat 1)=true∧a.n=x
 |[],ow,h=>.inl h
 | a::r,ow,h=>by
  simp only[qS]at h;rcases Qd h with h|⟨b,hb,h1,h2⟩
  ·cases hk:eqD a.k (.ofNat 1)with
   |false=>rw[hk]at h;exact .inl h
   |true=>
    rw[hk,cond_true,Zh]at h;rcases h with h|⟨h,_⟩
    ·exact .inl h
    ·exact .inr ⟨a,by simp,hk,h.symm⟩
  ·exact .inr ⟨b,by simp[hb],h1,h2⟩
theorem Ky{sc:List Int}{x:Int}:∀{l ow:List Int},x∈Yg sc ow l→x∈ow∨x∈l
 |[],ow,h=>.inl h
 | a::r,ow,h=>by
  simp only[Yg]at h;rcases Ky h with h|h
  ·rw[Zh]at h;rcases h with h|⟨h,_⟩
   ·exact .inl h
   ·exact .inr (by simp[h])
  ·exact .inr (by simp[h])
section
variable {c:Cd}{f:Fn}{S:List (List Int)}{i:Nat}(hS:∀j,∀x∈S.getD j [],x0 x c.vars=true)
include hS
mutual
theorem Vq:∀(t:Trm) (sc ow:List Int),vW c f t=true→(∀x∈ow,x0 x c.vars=true)→∀x∈uM S i t sc ow,x0 x c.vars=true
 | .mk k v op n fn az ks,sc,ow,ht,ho=>by
  simp only[vW,zl]at ht;simp only[uM];refine WM ks _ _ ht.2 fun x hx=>?_;have hat:=ht.1;unfold ux at hat
  rw[zl]at hat
  have hats:=List.all_eq_true.1 hat.1;have ha:∀x∈qS sc ow az,x0 x c.vars=true:=fun x hx=>by
   rcases Qd hx with hx|⟨a,ha,hk,rfl⟩
   ·exact ho x hx
   ·rcases ztI.1 (hats a ha)with ⟨_,h⟩|⟨h,_⟩
    ·exact h
    ·rw[h]at hk;cases hk
  unfold XP at hx;cases hk:eqD k (.ofNat 2)with
  |false=>rw[hk]at hx;exact ha x hx
  | true=>
   rw[hk,cond_true]at hx;split at hx
   ·exact ha x hx
   ·rcases Ky hx with hx|hx
    ·exact ha x hx
    ·exact hS _ x hx
theorem WM:∀(ks:List Trm) (sc ow:List Int),jm c f ks=true→(∀x∈ow,x0 x c.vars=true)→∀x∈v7 S i ks sc ow,x0 x c.vars=true
 |[],_,ow,_,ho=>by simp only[v7];exact ho
 |x::r,sc,ow,ht,ho=>by
  simp only[jm,zl]at ht;simp only[v7];exact Vq x sc _ ht.1 (WM r sc ow ht.2 ho)
end
end
theorem Qj{c:Cd}:∀(fs:List Fn) (i:Nat) (S:List (List Int)),(∀f∈fs,vW c f f.b=true)→i+fs.length≤S.length→(∀j,∀x∈S.getD j [],x0 x c.vars=true)→∀j,∀x∈(ko fs i S).getD j [],x0 x c.vars=true
 |[],_,_,_,_,h=>h
 |f::r,i,S,hf,hl,h=>by
  simp only[ko];simp only[zU]at hl;refine Qj r (i+1) _ (fun g hg=>hf g (by simp[hg])) (by rw[List.length_set];omega) fun j x hx=>?_
  rw[ZI oM]at hx;split at hx
  ·exact Vq h f.b _ _ (hf f (by simp)) (h i) x hx
  ·exact h j x hx
theorem KY:∀(fs:List Fn) (i:Nat) (S:List (List Int)),(ko fs i S).length=S.length
 |[],_,_=>rfl
 |f::r,i,S=>by simp only[ko];rw[KY r,List.length_set]
theorem PK{c:Cd}(h:∀f∈c.fs,vW c f f.b=true):∀j,∀x∈(gT c).getD j [],x0 x c.vars=true:=by
 have key:∀k,(itS c k).length=c.fs.length∧∀j,∀x∈(itS c k).getD j [],x0 x c.vars=true:=fun k=>by
  induction k with
  | zero=>
   simp only[itS];refine⟨List.length_replicate,fun j x hx=>?_⟩;have e:(List.replicate c.fs.length ([]:List Int)).getD j []=[]:=by
    rw[yU];by_cases h:j<c.fs.length
    ·rw[zhf,if_pos h];rfl
    ·rw[zhf,if_neg h];rfl
   rw[e]at hx;cases hx
  |succ k ih=>
   simp only[itS,jt];exact⟨by rw[KY];exact ih.1,Qj c.fs 0 _ h (by rw[ih.1];omega) ih.2⟩
 exact(key _).2
open Int renaming reduceOfNat → rO, reduceNegSucc → rN
def kp(l:List Int):List Int:=l.mergeSort fun x y=>decide (x≤y)
theorem zuS(l:List Int):(kp l).length=l.length:=List.length_mergeSort l
structure SrPre(x:Nat×Nat×List Int)(args:List AV)(s:St):Prop where
 args:args=[.fn 48 [] [.ptr x.1 0]]
 row:s.get x.1=some (.row 63 [.map x.2.1] false false)
 map:s.get x.2.1=some (.umap (uS x.2.2))
 nd:x.2.2.Nodup
 len:x.2.2.length<1000000000
 rng:∀y∈x.2.2,0≤y∧y< .ofNat 9223372036854775808
theorem SrPre.uniq{x y:Nat×Nat×List Int}{args:List AV}(h:SrPre x args s)(g:SrPre y args s):x=y:=by
 obtain⟨p,m,l⟩:=x;obtain⟨p',m',l'⟩:=y;have h1:=h.args.symm.trans g.args;simp only[List.cons.injEq,AV.fn.injEq,AV.ptr.injEq,true_and,and_true]at h1;subst h1;have h2:=h.row.symm.trans g.row;simp only[Option.some.injEq,AObj.row.injEq,List.cons.injEq,AV.map.injEq,true_and,and_true]at h2;subst h2;have h3:=h.map.symm.trans g.map;simp only[Option.some.injEq,AObj.umap.injEq]at h3;rw[zxe h3]
open Classical in
noncomputable def vX(args:List AV)(s:St):Option (AV×St):=
 if h:∃x,SrPre x args s then some (qW (kp (Classical.choose h).2.2),s)else none
theorem Uk{x:Nat×Nat×List Int}{args:List AV}(h:SrPre x args s):vX args s=some (qW (kp x.2.2),s):=by
 have hx:∃x,SrPre x args s:=⟨x,h⟩;unfold vX;rw[dif_pos hx,(Classical.choose_spec hx).uniq h]
def v8(l:List Int):List AV:=[qW l]
theorem Vv(l:List Int):(v8 l).length=1:=rfl
theorem HW(l:List Int):xZ (v8 l)=true:=rfl
theorem HV(l:List Int):xN (v8 l)=true:=by simp only[v8,xY,Kv,x6,Bool.and_self]
def zxQ(ls:List (List Int)):AV:=.lst ls.length false (xA v8 ls)
noncomputable def Ub(P:Program)(w0:World)(c:Cd):List (List Int):=bif eqD (je P w0 c) (.ofNat 0)then (gT c).map kp else []
noncomputable def zlm(P:Program)(w0:World)(N:Nat):List AV→St→Option (AV×St):=vr qD (ChPre N) (fun c=>zxQ (Ub P w0 c))
section
variable {O:Orc}
theorem znV(h34:O 28=none)(id:Nat)(L:List (Nat×Option AObj))(n m:Nat):Cv ((evW env O).call 28 [.map id] (KL L n m false [] none)) fun v t=>∃m2,v=.fn 48 [] [.ptr n 0]∧t=KL ((n,some (.row 63 [.map id] false false))::L) (n+1) m2 false [] none:=by
 refine xO (F:=f28) h34 rfl rfl (ziF rfl) ?_;unfold f28 cF;simp only;refine xB ?_;refine xB ?_;refine xu ?_;refine xF ?_;exact⟨_,rfl,rfl⟩
end
section
variable {P:Program}{w0:World}(B:Bx P w0){O:Orc}{N:Nat}(hO:OrcOk P w0 O)
include B hO
attribute [local go_sem] ltF gtF P8 zlo xI xH ziS ziW ziV ziQ xW ww wD qW in
theorem znA(h30:O 24=some (GN P w0 N))(h32:O 26=none)(h33:O 27=some vX)(h34:O 28=none)(h48:O 45=some (Yq 900000000))(c:Cd)(hc:ChPre N c):∃s1,SC P w0 14 (qD c) (s00 0 true) (zxQ (Ub P w0 c)) s1:=by
 refine bew B hO f14 ?_;have hea:=fun s=>oc h30 jy c hc.ea (kR c) s;obtain⟨R,hR⟩:∃R,Ub P w0 c=R:=⟨_,rfl⟩;rw[hR];unfold Ub at hR;have hw:=fun h=>Ga hc (gG (P:=P) (w0:=w0) (c:=c) h).1;have hwf:=fun h=>ztp (gG (P:=P) (w0:=w0) (c:=c) h).1;generalize je P w0 c=e at *;cases c1:eqD e (.ofNat 0)with
 |false=>
  rw[c1]at hR;simp only[cond_false]at hR;subst hR;clear hw hwf;obtain⟨fs,main,vars,globals,consts⟩:=c;unfold f14 cF;simp only[qD,vv,w9]at hea⊢;refine xB ?_;refine xB ?_;refine xF ?_;exact l9
 | true=>
  rw[c1]at hR;simp only[cond_true]at hR;have he:e=.ofNat 0:=by simpa [eqD]using c1
  subst he;obtain⟨hok,hon⟩:=hw rfl;have hwt:=hwf rfl;clear hwf;have hse:=fun{L0 n0} (hw0:WfA L0 n0) m=>zws h32 h48 hok hw0 m false;have hnf:=hc.ea.sz.n;have hus:=hc.us;have hrg:∀j,∀x∈(gT c).getD j [],0≤x∧x< .ofNat 9223372036854775808:=fun j x hx=>by
   have h1:=zzn.1 (PK (fun f hf=>(hwt f hf).2.1) j x hx);exact⟨h1.1,Int.lt_trans h1.2 hc.vs⟩
  clear hwt;have hS:SOk (XG c) c.fs.length (gT c):=pf c (Qq c);clear hw hok hon c1 hc;unfold f14 cF;generalize gT c=SS at *;generalize XG c=U at *;obtain⟨fs,main,vars,globals,consts⟩:=c;simp only[qD,vv,w9]at hea hse hnf hS⊢;have hSl:=hS.len;refine xB ?_;refine xB ?_;refine xz (xz (xK ?_));refine xC (hse (fun j hj=>by rw[xr,if_neg oM];rfl) _) fun v t hv=>?_
  obtain⟨ids,fid,L,n,m,rfl,rfl,hM,hil,hn,hfr⟩:=hv;clear hse hfr hea;refine xu ?_;refine xE ?_;refine xU (fun i:Nat=>fs.length-i) (fun i f t=>∃T L2 n2 m2 oid out,f=⟨tmL T,[]⟩∧t=KL L2 n2 m2 false [] none∧(tmL T).get 2=some (gSl 1 oid out.length)∧(tmL T).get 9=some (.sl fid 0 fs.length (.fix fs.length))∧(tmL T).get 10=some (.int .i64 (.ofNat fs.length))∧(tmL T).get 11=some (.int .i64 (.ofNat i))∧i≤fs.length∧SetM ids SS fid (0+1) L2 n2∧out.length=i∧out++(SS.drop i).map kp=R∧(out≠[]→oid<n2∧xD L2 oid=some (.row 36 (xA v8 out) true false))) (fun i f t hI=>?_) 0 ⟨_,L,n,_,0,[],rfl,rfl,by simp (disch:=first|exact dis|fail)only[go_sem,seval,-rO,-rN,gSl],sW,sW,sW,zK _,hM,rfl,hR,fun h=>absurd rfl h⟩
  clear hR hM hn;obtain⟨T,L2,n2,m2,oid,out,rfl,rfl,t2,t9,t10,t11,hi,hM,rfl,hR,hg⟩:=hI;rcases xQ SS out.length with ⟨hlt,hd⟩|⟨l,hlt,hd⟩
  ·rw[hd]at hR;simp only[yB,List.append_nil]at hR;subst hR;have hni:¬out.length<fs.length:=oM;clear hM;refine xu ?_;refine xu ?_;refine xF ?_;have hfl:∀(s:St) (ls:List (List Int)),FzL s (xA v8 ls) (xA v8 ls):=fun s ls=>by
    induction ls with
    |nil=>exact ji
    |cons x r ih=>exact wB (Yp (V9 x) (zkp x)) ih
   cases out with
   |nil=>exact l9
   |cons x r=>
    obtain⟨_,q⟩:=hg (by simp)
    have hp:xN (xA v8 (x::r))=true:=wz HV _;show Fz _ (.sl oid 0 (r.length+1) (.opn 1)) (.lst (x::r).length false (xA v8 (x::r)));simp only[Fz];refine⟨hp,.inr ⟨trivial,oid,0,.opn 1,_,_,_,_,xA v8 (x::r),rfl,trivial,by rw[x5];exact q,?_,hfl _ _⟩⟩
    show xV _ (wl 0 _)=_;exact wF rfl
  ·rw[hd]at hR;simp only[zv]at hR;have hii:out.length<ids.length:=oM;have hid:ids[out.length]? =some ids[out.length]:=yv hii;generalize hidd:ids[out.length]=id at hid;have gid:=hM.maps out.length id hid;have hlt2:SS.getD out.length []=l:=by
    rw[yU,←List.head?_drop,hd];rfl
   have hnd:=hS.nd out.length;have hrgl:=hrg out.length;rw[hlt2]at hrgl;have hlen:l.length≤U.length:=by
    have h1:=hS.sub out.length;rw[hlt2]at h1 hnd;exact UC hnd h1
   rw[hlt2]at gid hnd;have grow:=hM.row;have hidn:=hM.wf.lt gid;have hfn:=hM.wf.lt grow;have hcut2:xV 1 (wl out.length (ids.map AV.map))=some [.map id]:=by
    have:(ids.map AV.map).drop out.length=.map id::(ids.map AV.map).drop (out.length+1):=by
     rw[ziX (by simpa using hii)]
     simp[hidd]
    rw[wK,this];rfl
   have hsr:∀m,(evW env O).call 27 [.fn 48 [] [.ptr n2 0]] (KL ((n2,some (.row 63 [.map id] false false))::L2) (n2+1) m false [] none)=some (qW (kp l),KL ((n2,some (.row 63 [.map id] false false))::L2) (n2+1) m false [] none):=fun m=>by
    rw[wx h33,Uk (x:=(n2,id,l)) ⟨rfl,by rw[x5,xG],by rw[x5,xr,if_neg (show ¬id=n2 by omega)];exact gid,hnd,by simp only;omega,hrgl⟩]
   simp only[qW]at hsr;have hw2:∀o1 o2:Option AObj,WfA ((n2+1,o1)::(n2,o2)::L2) (n2+1+1):=fun o1 o2=>by
    have hw:=hM.wf
    repeat first|exact hw.up oM|refine WfA.same ?_ oM
   have hid2:∀o1 o2:Option AObj,out≠[]→oid<n2+1+1∧xD ((n2+1,o1)::(n2,o2)::L2) oid=some (.row 36 (xA v8 out) true false):=fun o1 o2 hne=>by
    obtain⟨q1,q2⟩:=hg hne;exact⟨oM,by rw[xr,if_neg oM,xr,if_neg oM];exact q2⟩
   have hsrc:∀m o2,wS (KL ((n2+1,some (AObj.row 36 (v8 (kp l)) false false))::(n2,o2)::L2) (n2+1+1) m false [] none) 1 1 (.sl (n2+1) 0 1 (.fix 1))=some (v8 (kp l)):=fun m o2=>(jH (j:=0) (by rw[x5,xG]) rfl).2
   have hke:=fun L n m=>znV h34 id L n m;have hfne:out≠[]→fid≠oid:=fun hne e=>by
    obtain⟨_,q2⟩:=hg hne;rw[←e,grow]at q2;simp at q2
   have hine:out≠[]→oid∉ids:=fun hne hm=>by
    obtain⟨_,q2⟩:=hg hne;obtain⟨j,hj⟩:=List.getElem?_of_mem hm;have:=hM.maps j oid hj;rw[q2]at this;cases this
   clear hd hlt2;refine xB ?_;refine xz (x4 sW ?_);refine xu ?_;refine xz (xE ?_);refine xB ?_;refine xK ?_;refine xC (hke _ _ _) fun v t hv=>?_;obtain⟨m3,rfl,rfl⟩:=hv;clear hke;refine xK ?_;refine xC (zzj (f:=v8) (id:=oid) (vs:=out) (w:=kp l) Vv HW oM (hid2 _ _) (hw2 _ _) rfl (hsrc _ _) oM oM) fun v t hv=>?_;obtain⟨L7,m7,rfl,rfl,g7,hw7,hf7⟩:=hv;have hcat:=jN out (kp l);have hM7:SetM ids SS fid (0+1) L7 (n2+1+1+1):=hM.oth hw7 fun j hj hjj=>by
    rw[hf7 j oM fun hne e=>by
     rcases hjj with h|h
     ·exact hfne hne (by rw[←h,e])
     ·exact hine hne (e▸h),xr,if_neg oM,xr,if_neg oM]
   clear hw2 hid2 hsrc hfne hine hM hf7 hsr hg gid grow;refine xu ?_;refine xu ?_;exact⟨out.length+1,⟨_,L7,n2+1+1+1,_,n2+1+1,out++[kp l],rfl,rfl,sV,sV,sV,sV,oM,hM7,hcat,by rw[zi4];exact hR,fun _=>⟨oM,g7⟩⟩,oM⟩
end
mutual
def szW:Trm→Nat→Nat
 |.mk _ _ _ _ _ az ks,n=>if 30<az.length then 0 else XC ks (n-1)
def XC:List Trm→Nat→Nat
 |[],n=>n
 |t::r,n=>if n=0 then 0 else XC r (szW t n)
end
mutual
def Gb:Trm→Prop
 |.mk _ _ _ _ _ az ks=>az.length≤30∧YN ks
def YN:List Trm→Prop
 |[]=>True
 |t::r=>Gb t∧YN r
end
theorem zpI:∀{l:List Trm} {n:Nat},0<XC l n→0<n
 |[],n,h=>h
 |t::r,n,h=>by
  simp only[XC]at h;split at h<;>omega
mutual
theorem zww:∀(t:Trm) (n:Nat),0<n→0<szW t n→Gb t∧wC t+szW t n=n
 | .mk k v op m f az ks,n,hn,h=>by
  simp only[szW]at h⊢;split at h
  ·omega
  ·rename_i ha
   obtain⟨h1,h2⟩:=PU ks (n-1) h;rw[if_neg ha];simp only[Gb,wC];exact⟨⟨oM,h1⟩,oM⟩
theorem PU:∀(l:List Trm) (n:Nat),0<XC l n→YN l∧qB l+XC l n=n
 |[],n,h=>by simp only[YN,qB,XC];exact⟨trivial,oM⟩
 | t::r,n,h=>by
  simp only[XC]at h⊢;split at h
  ·omega
  ·rename_i hn
   have h3:=zpI h;obtain⟨h1,h2⟩:=PU r _ h;obtain⟨h4,h5⟩:=zww t n oM h3;rw[if_neg hn];simp only[YN,qB];exact⟨⟨h4,h1⟩,oM⟩
end
mutual
theorem zy6:∀(t:Trm) (n:Nat),szW t n≤n
 |.mk k v op m f az ks,n=>by
  simp only[szW];split
  ·omega
  ·have:=zwx ks (n-1);omega
theorem zwx:∀(l:List Trm) (n:Nat),XC l n≤n
 |[],n=>by simp only[XC];omega
 |t::r,n=>by
  simp only[XC];split
  ·omega
  ·have h1:=zy6 t n;have h2:=zwx r (szW t n);omega
end
def V7:List Fn→Nat→Option Nat
 |[],n=>some n
 |f::r,n=>if n=0 then some 0 else if 30<f.ps.length∨30<f.fr.length then none else V7 r (szW f.b n)
def Lu(c:Cd):Bool:=match V7 c.fs 150 with
 |none=>false
 |some n=>decide (0<n)&&(decide (c.consts.length≤200)&&decide (c.fs.length≤400))
theorem Lv:∀(l:List Fn) (n m:Nat),0<n→V7 l n=some m→0<m→m≤n∧∀f∈l,f.ps.length≤30∧f.fr.length≤30∧Gb f.b∧wC f.b≤n
 |[],n,m,_,h,_=>by simp only[V7,Option.some.injEq]at h;subst h;exact⟨zo _,fun _ h=>by cases h⟩
 | f ::r,n,m,hn,h,hm=>by
  simp only[V7]at h;rw[if_neg oM]at h;split at h
  ·cases h
  ·rename_i hl
   have h0:0<szW f.b n:=by
    cases hz:szW f.b n with
    | zero=>
     rw[hz]at h;have:m=0:=by
      cases r with
      |nil=>simp only[V7,Option.some.injEq]at h;omega
      |cons g r=>simp only[V7,if_true,Option.some.injEq]at h;omega
     omega
    |succ k=>omega
   obtain⟨h1,h2⟩:=Lv r _ m h0 h hm;obtain⟨h3,h4⟩:=zww f.b n hn h0;refine⟨oM,fun g hg=>?_⟩;rcases List.mem_cons.1 hg with rfl|hg
   ·exact⟨oM,oM,h3,oM⟩
   ·obtain⟨q1,q2,q3,q4⟩:=h2 g hg;exact⟨q1,q2,q3,oM⟩
structure FewC(c:Cd):Prop where
 nf:c.fs.length≤400
 nc:c.consts.length≤200
 fn:∀f∈c.fs,f.ps.length≤30∧f.fr.length≤30∧Gb f.b∧wC f.b≤150
theorem zjw{c:Cd}(h:Lu c=true):FewC c:=by
 unfold Lu at h;split at h
 ·cases h
 ·rename_i n hn
  simp only[zl,decide_eq_true_eq]at h;exact⟨h.2.2,h.2.1,(Lv c.fs 150 n oM hn h.1).2⟩
def uN(N:List (Int×Int)):List (Int×AV):=N.map fun p=>(p.1,.int .i64 p.2)
def lkN(v:Int):List (Int×Int)→Option Int
 |[]=>none
 |p::r=>if p.1=v then some p.2 else lkN v r
theorem pe(v:Int):∀N:List (Int×Int),kz v (uN N)=(lkN v N).map (.int .i64)
 |[]=>rfl
 |p::r=>by
  simp only[uN,zv,kz,kv,lkN];by_cases h:p.1=v
  ·rw[decide_eq_true h,if_pos h];rfl
  ·rw[decide_eq_false h,if_neg h,cond_false];exact pe v r
theorem QR(v w:Int):∀N:List (Int×Int),lkN v N=none→pt v (.int .i64 w) (uN N)=uN (N++[(v,w)])
 |[],_=>rfl
 |p::r,h=>by
  simp only[lkN]at h;simp only[uN,zv,pt,kv,zG];by_cases e:p.1=v
  ·rw[if_pos e]at h;cases h
  ·rw[if_neg e]at h;rw[decide_eq_false e,cond_false];have:=QR v w r h;simp only[uN]at this;rw[this]
theorem GV{v w:Int}:∀{N:List (Int×Int)},lkN v N=some w→(v,w)∈N
 |p::r,h=>by
  simp only[lkN]at h;split at h
  ·rename_i e;cases h;rw[←e];exact zi9
  ·exact List.mem_cons_of_mem _ (GV h)
structure VI where
 op:Int
 d:Int
 a:Int
 b:Int
 imm:Int
 lb:Int
 ui:Nat
 fx:Bool
 ul:List Int
def usV(id:Nat)(fx:Bool):Nat→AV
 |0=>.nils
 |k+1=>.sl id 0 (k+1) (bif fx then .fix (k+1)else .opn 1)
def kK(x:VI):List AV:=[.int .i64 x.op,.int .i64 x.d,.int .i64 x.a,.int .i64 x.b,.int .i64 x.imm,.int .i64 x.lb,usV x.ui x.fx x.ul.length,.nils]
theorem Vz(x:VI):(kK x).length=8:=rfl
theorem WP(x:VI):xZ (kK x)=true:=by
 have:q8 (usV x.ui x.fx x.ul.length)=true:=by cases x.ul.length<;>rfl
 simp only[kK,u5,lC,this,yD];rfl
def tM:Nat:=73
def tV:Nat:=45
def tI:Nat:=3
def zze(L:List (Nat×Option AObj))(x:VI):Prop:=x.ul≠[]→∃xt,xD L x.ui=some (.row tI (xA xL x.ul) xt false)
def InR(R:Nat)(v:Int):Prop:=∃r,v=.ofNat r∧r<R
def kY:Nat→Nat→List Int
 |0,_=>[]
 |k+1,a=>.ofNat a::kY k (a+1)
inductive OpOk (nf nc lb:Nat):Int→Int→Int→Int→List Int→Prop
 |tri {op d l:Int}:op∈[zA 1,.ofNat 2,.ofNat 7,.ofNat 8,.ofNat 9]→OpOk nf nc lb op d (.ofNat 0) l []
 |off {op d l i:Int}:op∈[zA 15,.ofNat 24,.ofNat 25]→.ofNat 0≤i→i< .ofNat 32768→OpOk nf nc lb op d i l []
 |msk {op d l i:Int}:op∈[zA 16,.ofNat 17]→.ofNat 0≤i→i< .ofNat 32→OpOk nf nc lb op d i l []
 |shf {op d l:Int}:op∈[zA 19,.ofNat 20]→OpOk nf nc lb op d (.ofNat 2) l []
 |br {op d i:Int} {k:Nat}:op∈[zA 26,.ofNat 27,.ofNat 28,.ofNat 29,.ofNat 65,.ofNat 66]→k<lb→OpOk nf nc lb op d i (.ofNat k) []
 |mov {op d i l:Int}:op∈[zA 64,.ofNat 69]→OpOk nf nc lb op d i l []
 |call {i l:Int} {k:Nat}:uQ i=.ofNat k→OpOk nf nc lb (.ofNat 67) (.ofNat 4) i l (kY k 4)
 |tail {d i l:Int} {ul:List Int}:i< .ofNat nf→.ofNat 1∈ul→.ofNat 2∈ul→OpOk nf nc lb (.ofNat 68) d i l ul
 |addr {d l:Int} {k:Nat}:k<nf→OpOk nf nc lb (.ofNat 70) d (.ofNat k) l []
 |data {d l:Int} {k:Nat}:k<nc→OpOk nf nc lb (.ofNat 71) d (.ofNat k) l []
 |leave {d i l:Int} {ul:List Int}:i∈[zA 102,.ofNat 103,.ofNat 104,.ofNat 105,.ofNat 106]→OpOk nf nc lb (.ofNat 72) d i l ul
structure GdI(nf nc lb R:Nat)(x:VI):Prop where
 op:OpOk nf nc lb x.op x.d x.imm x.lb x.ul
 d:InR R x.d
 a:InR R x.a
 b:InR R x.b
 u:x.ul.length≤100∧∀u∈x.ul,InR R u
theorem InR.mono{R R2:Nat}{v:Int}(h:InR R v)(hR:R≤R2):InR R2 v:=by
 obtain⟨r,h1,h2⟩:=h;exact⟨r,h1,oM⟩
theorem inR{R r:Nat}(h:r<R):InR R (.ofNat r):=⟨r,rfl,h⟩
theorem GdI.mono{nf nc lb lb2 R R2:Nat}{x:VI}(h:GdI nf nc lb R x)(hl:lb≤lb2)(hR:R≤R2):GdI nf nc lb2 R2 x:=by
 obtain⟨op,d,a,b,imm,l,ui,fx,ul⟩:=x;refine⟨?_,h.d.mono hR,h.a.mono hR,h.b.mono hR,h.u.1,fun u hu=>(h.u.2 u hu).mono hR⟩;have:=h.op;simp only at this⊢;cases this with
 |br z1 z2=>exact .br z1 (Nat.lt_of_lt_of_le z2 hl)
 |tri z=>exact .tri z
 |off z z1 z2=>exact .off z z1 z2
 |msk z z1 z2=>exact .msk z z1 z2
 |shf z=>exact .shf z
 |mov z=>exact .mov z
 |call z=>exact .call z
 |tail z z1 z2=>exact .tail z z1 z2
 |addr z=>exact .addr z
 |data z=>exact .data z
 |leave z=>exact .leave z
def Z1:List VI→List Int
 |[]=>[]
 |x::r=>if x.op=.ofNat 65 then x.lb::Z1 r else Z1 r
theorem LS:∀a b:List VI,Z1 (a++b)=Z1 a++Z1 b
 |[],b=>rfl
 |x::a,b=>by
  simp only[zG,Z1,LS a b];split<;>rfl
def Xy(n:Nat):List Int:=(List.range n).map zA
theorem zuC(n:Nat):Xy (n+1)=Xy n++[.ofNat n]:=by simp only[Xy,List.range_succ,zB,zv,yB]
theorem zyX(n:Nat):(Xy n).Nodup:=List.Pairwise.map _ (fun a b h e=>h (Int.ofNat.inj e)) List.nodup_range
structure MK where
 mp:Nat
 rid:Nat
 fid:Nat
 fn:Int
 pn:Int
 sf:Nat
 rest:Bool
 nf:Nat
 nc:Nat
def uh(K:MK)(R nd:Nat)(iv:AV)(lb wd:Nat):AObj:=.row 73 [.int .i64 K.fn,.int .i64 (.ofNat R),.int .i64 (.ofNat 0),.int .i64 (.ofNat nd),.int .i64 K.pn,.bool K.rest,iv,.map K.rid,.int .i64 (.ofNat K.sf),.int .i64 (.ofNat lb),.map K.fid,.int .i64 (.ofNat wd)] false false
def zqR:AObj→Bool
 |.row e _ _ _=> !(Nat.beq e tM||Nat.beq e tV)
 |.umap _=>false
 |_=>true
def zjy:AObj→Bool
 |.row e _ _ _=>Nat.beq e tI
 |_=>false
def Fr2(L:List (Nat×Option AObj))(m:Nat)(L2:List (Nat×Option AObj))(m2:Nat):Prop:=∀j o,xD L j=some o→zqR o=true→xD L2 j=some o∧m2.testBit j=m.testBit j
theorem Fr2.refl(L:List (Nat×Option AObj))(m:Nat):Fr2 L m L m:=fun _ _ h _=>⟨h,rfl⟩
theorem Fr2.trans{L L2 L3:List (Nat×Option AObj)}{m m2 m3:Nat}(h:Fr2 L m L2 m2)(g:Fr2 L2 m2 L3 m3):Fr2 L m L3 m3:=fun j o h1 h2=>
 have ⟨q1,q2⟩:=h j o h1 h2;have ⟨q3,q4⟩:=g j o q1 h2
 ⟨q3,q4.trans q2⟩
structure MsP(K:MK)(e:Bool)(op:List Int)(R N u:Nat)(L:List (Nat×Option AObj))(n:Nat)(is:List VI)(rg fl:List (Int×Int))(lb wd nd bid:Nat):Prop where
 wf:WfA L n
 gm:xD L K.mp=some (uh K R nd (gSl 8 bid is.length) lb wd)
 gr:xD L K.rid=some (.umap (uN rg))
 gf:xD L K.fid=some (.umap (uN fl))
 rf:K.rid≠K.fid
 gi:is≠[]→xD L bid=some (.row 45 (xA kK is) true false)
 hrg:∀p∈rg,InR R p.2
 hfl:∀p∈fl,p.1=.ofNat 104∨p.1=.ofNat 105
 hfn:(fl.map (·.1)).Nodup
 ok:∀x∈is,GdI K.nf K.nc lb R x∧zze L x
 us:∀x∈is,x.ul≠[]→x.ui<u
 hlb:(Z1 is++op).Perm (Xy lb)
 ni:is.length≤N
 nl:lb≤N
 nR:R≤N
 nw:wd≤N
 nn:nd≤N
 sf:K.sf<R
 R0:33≤R
 ls:e=true→∃x∈is.getLast?,x.op=.ofNat 68∨x.op=.ofNat 72
def MsO(K:MK)(e:Bool)(op:List Int)(R B N u:Nat)(L:List (Nat×Option AObj))(n:Nat):Prop:=∃is rg fl wd nd bid,MsP K e (op++fl.map (·.2)) R N u L n is rg fl B wd nd bid
def MsQ(K:MK)(e:Bool)(op:List Int)(R B N:Nat)(u:Option Nat)(L:List (Nat×Option AObj))(n m:Nat)(V:List (Nat×Option AObj)→Nat→Nat→AV→Prop)(v:AV)(t:St):Prop:=∃L2 n2 m2 R2 B2,t=KL L2 n2 m2 false [] none∧R≤R2∧B≤B2∧n≤n2∧MsO K e op R2 B2 N (u.getD n2) L2 n2∧Fr2 L m L2 m2∧V L2 R2 B2 v
section
variable {K:MK}{e:Bool}{op:List Int}{R B N u:Nat}{L L2:List (Nat×Option AObj)}{n n2:Nat}{is:List VI}{rg fl:List (Int×Int)}{lb wd nd bid:Nat}
theorem MsP.weak{N2:Nat}(h:MsP K e op R N u L n is rg fl lb wd nd bid)(hN:N≤N2):MsP K false op R N2 u L n is rg fl lb wd nd bid:=
 {h with ni:=by have:=h.ni;omega,nl:=by have:=h.nl;omega,nR:=by have:=h.nR;omega,nw:=by have:=h.nw;omega,nn:=by have:=h.nn;omega,ls:=fun h=>by cases h}
theorem MsO.weak{N2:Nat}(h:MsO K e op R B N u L n)(hN:N≤N2):MsO K false op R B N2 u L n:=by
 obtain⟨is,rg,fl,wd,nd,bid,h⟩:=h;exact⟨is,rg,fl,wd,nd,bid,h.weak hN⟩
theorem MsO.top(h:MsO K e op R B N u L n):MsO K e op R B N n L n:=by
 obtain⟨is,rg,fl,wd,nd,bid,h⟩:=h;exact⟨is,rg,fl,wd,nd,bid,{h with us:=fun x hx hu=>by obtain⟨_,g⟩:=(h.ok x hx).2 hu;exact h.wf.lt g}⟩
theorem MsO.perm{op2:List Int}(h:MsO K e op R B N u L n)(hp:op.Perm op2):MsO K e op2 R B N u L n:=by
 obtain⟨is,rg,fl,wd,nd,bid,h⟩:=h;exact⟨is,rg,fl,wd,nd,bid,{h with hlb:=((hp.append_right _).append_left _).symm.trans h.hlb}⟩
def Oth(u:Nat)(L L2:List (Nat×Option AObj))(n:Nat):Prop:=∀j,j<n→xD L2 j=xD L j∨∃o,xD L j=some o∧zqR o=true∧(zjy o=false∨u≤j)
theorem MsP.up(h:MsP K e op R N u L n is rg fl lb wd nd bid)(hw:WfA L2 n2)(hs:Oth u L L2 n):MsP K e op R N u L2 n2 is rg fl lb wd nd bid:=by
 have k:∀{j o},xD L j=some o→(zqR o=false∨(zjy o=true∧j<u))→xD L2 j=some o:=fun{j o} hj ho=>by
  rcases hs j (h.wf.lt hj)with h1|⟨o',h1,h2,h3⟩
  ·exact h1.trans hj
  ·rw[hj]at h1;cases h1;rcases ho with h4|⟨h4,h5⟩
   ·rw[h2]at h4;cases h4
   ·rcases h3 with h3|h3
    ·rw[h3]at h4;cases h4
    ·omega
 exact{h with
  wf:=hw
  gm:=k h.gm (.inl rfl)
  gr:=k h.gr (.inl rfl)
  gf:=k h.gf (.inl rfl)
  gi:=fun hi=>k (h.gi hi) (.inl rfl)
  ok:=fun x hx=>⟨(h.ok x hx).1,fun hu=>by
   obtain⟨xt,h1⟩:=(h.ok x hx).2 hu;exact⟨xt,k h1 (.inr ⟨rfl,h.us x hx hu⟩)⟩⟩}
theorem MsO.up(h:MsO K e op R B N u L n)(hw:WfA L2 n2)(hs:Oth u L L2 n):MsO K e op R B N u L2 n2:=by
 obtain⟨is,rg,fl,wd,nd,bid,h⟩:=h;exact⟨is,rg,fl,wd,nd,bid,h.up hw hs⟩
theorem MsO.wf(h:MsO K e op R B N u L n):WfA L n:=by
 obtain⟨is,rg,fl,wd,nd,bid,h⟩:=h;exact h.wf
theorem Oth.same(h:∀j,j<n→xD L2 j=xD L j):Oth u L L2 n:=fun j hj=>.inl (h j hj)
theorem MsP.add{bid2:Nat}{op2:List Int}{x:VI}(h:MsP K e op R N u L n is rg fl lb wd nd bid)(hx:GdI K.nf K.nc lb R x)(hu:zze L2 x)(hu2:x.ul≠[]→x.ui<u)(hl:Z1 [x]++op2=op)(hw:WfA L2 n2)(gm:xD L2 K.mp=some (uh K R nd (gSl 8 bid2 (is++[x]).length) lb wd))(gi:xD L2 bid2=some (.row 45 (xA kK (is++[x])) true false))(hs:∀j,j<n→j≠K.mp→(is≠[]→j≠bid)→xD L2 j=xD L j):MsP K (decide (x.op=.ofNat 68∨x.op=.ofNat 72)) op2 R (N+1) u L2 n2 (is++[x]) rg fl lb wd nd bid2:=by
 have k:∀{j o},xD L j=some o→(∀c,o≠.row tM c false false)→(∀c,o≠.row tV c true false)→xD L2 j=some o:=fun{j o} hj h1 h2=>by
  refine(hs j (h.wf.lt hj) (fun e=>?_) fun hne e=>?_).trans hj
  ·subst e;have:=h.gm;rw[hj]at this;cases this;exact h1 _ rfl
  ·subst e;have:=h.gi hne;rw[hj]at this;cases this;exact h2 _ rfl
 exact{h with
  wf:=hw
  gm:=gm
  gr:=k h.gr (fun _ e=>by cases e) fun _ e=>by cases e
  gf:=k h.gf (fun _ e=>by cases e) fun _ e=>by cases e
  gi:=fun _=>gi
  ok :=fun y hy=>by
   rcases List.mem_append.1 hy with hy|hy
   ·exact⟨(h.ok y hy).1,fun hu=>by
     obtain⟨xt,h1⟩:=(h.ok y hy).2 hu;exact⟨xt,k h1 (fun _ e=>by cases e) fun _ e=>by cases e⟩⟩
   ·rw[List.mem_singleton.1 hy];exact⟨hx,hu⟩
  us:=fun y hy hu=>by
   rcases List.mem_append.1 hy with hy|hy
   ·exact h.us y hy hu
   ·rw[List.mem_singleton.1 hy]at hu⊢;exact hu2 hu
  hlb:=by rw[LS,zi4,hl];exact h.hlb
  ni:=by have:=h.ni;simp only[yl,zU,xd];omega
  nl:=by have:=h.nl;omega
  nR:=by have:=h.nR;omega
  nw:=by have:=h.nw;omega
  nn:=by have:=h.nn;omega
  ls:=fun he=>⟨x,by simp,of_decide_eq_true he⟩}
theorem MsP.fr{m m2:Nat}(h:MsP K e op R N u L n is rg fl lb wd nd bid)(hs:∀j,j<n→j≠K.mp→(is≠[]→j≠bid)→xD L2 j=xD L j∧m2.testBit j=m.testBit j):Fr2 L m L2 m2:=fun j o hj ho=>by
 have:=hs j (h.wf.lt hj) (fun e=>by subst e;have:=h.gm;rw[hj]at this;cases this;cases ho) (fun hne e=>by subst e;have:=h.gi hne;rw[hj]at this;cases this;cases ho)
 exact⟨this.1.trans hj,this.2⟩
theorem MsP.set{R2 N2 nd2 lb2 wd2:Nat}{rg2 fl2:List (Int×Int)}{op2:List Int}(h:MsP K e op R N u L n is rg fl lb wd nd bid)(hw:WfA L2 n2)(gm:xD L2 K.mp=some (uh K R2 nd2 (gSl 8 bid is.length) lb2 wd2))(gr:xD L2 K.rid=some (.umap (uN rg2)))(gf:xD L2 K.fid=some (.umap (uN fl2)))(hs:∀j,j<n→j≠K.mp→j≠K.rid→j≠K.fid→xD L2 j=xD L j)(hR:R≤R2)(hl:lb≤lb2)(hp:(Z1 is++op2).Perm (Xy lb2))(hrg:∀p∈rg2,InR R2 p.2)(hfl:(∀p∈fl2,p.1=.ofNat 104∨p.1=.ofNat 105)∧(fl2.map (·.1)).Nodup)(hN:N≤N2∧lb2≤N2∧R2≤N2∧wd2≤N2∧nd2≤N2):MsP K e op2 R2 N2 u L2 n2 is rg2 fl2 lb2 wd2 nd2 bid:=by
 have k:∀{j e cs x f},xD L j=some (.row e cs x f)→Nat.beq e tM=false→xD L2 j=some (.row e cs x f):=fun{j e cs x f} hj he=>by
  refine(hs j (h.wf.lt hj) (fun e=>?_) (fun e=>?_) fun e=>?_).trans hj
  ·subst e;have:=h.gm;rw[hj]at this;cases this;cases he
  ·subst e;have:=h.gr;rw[hj]at this;cases this
  ·subst e;have:=h.gf;rw[hj]at this;cases this
 exact⟨hw,gm,gr,gf,h.rf,fun hi=>k (h.gi hi) rfl,hrg,hfl.1,hfl.2,fun x hx=>⟨(h.ok x hx).1.mono hl hR,fun hu=>by obtain⟨xt,h1⟩:=(h.ok x hx).2 hu;exact⟨xt,k h1 rfl⟩⟩,h.us,hp,Nat.le_trans h.ni hN.1,hN.2.1,hN.2.2.1,hN.2.2.2.1,hN.2.2.2.2,Nat.lt_of_lt_of_le h.sf hR,Nat.le_trans h.R0 hR,h.ls⟩
theorem MsP.fr2{m m2:Nat}(h:MsP K e op R N u L n is rg fl lb wd nd bid)(hs:∀j,j<n→j≠K.mp→j≠K.rid→j≠K.fid→xD L2 j=xD L j∧m2.testBit j=m.testBit j):Fr2 L m L2 m2:=fun j o hj ho=>by
 have:=hs j (h.wf.lt hj) (fun e=>by subst e;have:=h.gm;rw[hj]at this;cases this;cases ho) (fun e=>by subst e;have:=h.gr;rw[hj]at this;cases this;cases ho) (fun e=>by subst e;have:=h.gf;rw[hj]at this;cases this;cases ho)
 exact⟨this.1.trans hj,this.2⟩
theorem MsP.rm(h:MsP K e op R N u L n is rg fl lb wd nd bid):K.rid≠K.mp∧K.fid≠K.mp:=
 ⟨fun e=>(by have:=h.gr;rw[e,h.gm]at this;cases this),fun e=>(by have:=h.gf;rw[e,h.gm]at this;cases this)⟩
theorem MsP.row{R2 N2 nd2 lb2 wd2:Nat}{op2:List Int}(h:MsP K e op R N u L n is rg fl lb wd nd bid)(hR:R≤R2)(hl:lb≤lb2)(hp:(Z1 is++op2).Perm (Xy lb2))(hN:N≤N2∧lb2≤N2∧R2≤N2∧wd2≤N2∧nd2≤N2):MsP K e op2 R2 N2 u ((K.mp,some (uh K R2 nd2 (gSl 8 bid is.length) lb2 wd2))::L) n is rg fl lb2 wd2 nd2 bid∧∀o m,Fr2 L m ((K.mp,o)::L) (m|||1<<<K.mp):=by
 obtain⟨h1,h2⟩:=h.rm;have hs:∀o j,j<n→j≠K.mp→j≠K.rid→j≠K.fid→xD ((K.mp,o)::L) j=xD L j:=fun o j _ h _ _=>by rw[xr,if_neg h]
 exact⟨h.set (h.wf.same (h.wf.lt h.gm)) (xG _ _ _) (by rw[xr,if_neg h1];exact h.gr) (by rw[xr,if_neg h2];exact h.gf) (hs _) hR hl hp (fun p hp=>(h.hrg p hp).mono hR) ⟨h.hfl,h.hfn⟩ hN,fun o m=>h.fr2 fun j hj q1 q2 q3=>⟨hs o j hj q1 q2 q3,qn q1⟩⟩
end
theorem zqV{l op:List Int}{lb:Nat}(h:(l++op).Perm (Xy lb)):(l++(Int.ofNat lb::op)).Perm (Xy (lb+1)):=by
 rw[zuC];exact List.perm_middle.trans ((h.cons _).trans (zho _ _).symm)
section
variable {O:Orc}{K:MK}{e:Bool}{op:List Int}{R B N u:Nat}{L:List (Nat×Option AObj)}{n:Nat}
variable {is:List VI}{rg fl:List (Int×Int)}{wd nd bid:Nat}
attribute [local go_sem] xI xH ziS ziW ziV ziQ xW in
theorem zwl(o:O 30=none)(h:MsP K e op R N u L n is rg fl B wd nd bid)(hN:N<100000000)(m:Nat):Cv ((evW env O).call 30 [.ptr K.mp 0] (KL L n m false [] none)) fun v t=>∃L2 m2,v=.int .i64 (.ofNat R)∧t=KL L2 n m2 false [] none∧MsP K e op (R+1) (N+1) u L2 n is rg fl B wd nd bid∧Fr2 L m L2 m2:=by
 refine xO (F:=f30) o rfl rfl (ziF rfl) ?_;have gm:=h.gm;have hR:=h.nR;have hs1:Int.sub (.ofNat (R+1)) (.ofNat 1)=.ofNat R:=by rw[Wt oM];rfl
 simp only[uh]at gm;unfold f30 cF;simp only;refine xB ?_;refine xB ?_;refine xB ?_;refine xu ?_;refine xF ?_;have h1:=h.nl;have h2:=h.nw;have h3:=h.nn
 obtain⟨q1,q2⟩:=h.row (R2:=R+1) (N2:=N+1) (nd2:=nd) (wd2:=wd) oM (zo _) h.hlb oM;exact⟨_,_,rfl,rfl,q1,q2 _ _⟩
attribute [local go_sem] xI xH ziS ziW ziV ziQ xW in
theorem Wb(o:O 57=none)(h:MsP K e op R N u L n is rg fl B wd nd bid)(hN:N<100000000)(m:Nat):Cv ((evW env O).call 57 [.ptr K.mp 0] (KL L n m false [] none)) fun v t=>∃L2 m2,v=.int .i64 (.ofNat B)∧t=KL L2 n m2 false [] none∧MsP K e (.ofNat B::op) R (N+1) u L2 n is rg fl (B+1) wd nd bid∧Fr2 L m L2 m2:=by
 refine xO (F:=f57) o rfl rfl (ziF rfl) ?_;have gm:=h.gm;have h1:=h.nl;have hs1:Int.sub (.ofNat (B+1)) (.ofNat 1)=.ofNat B:=by rw[Wt oM];rfl
 simp only[uh]at gm;unfold f57 cF;simp only;refine xB ?_;refine xB ?_;refine xB ?_;refine xu ?_;refine xF ?_;have hR:=h.nR;have h2:=h.nw;have h3:=h.nn
 obtain⟨q1,q2⟩:=h.row (R2:=R) (N2:=N+1) (nd2:=nd) (wd2:=wd) (lb2:=B+1) (zo _) oM (zqV h.hlb) oM;exact⟨_,_,rfl,rfl,q1,q2 _ _⟩
theorem pl(o:O 30=none)(h:MsO K e op R B N u L n)(hN:N<100000000)(m:Nat):Cv ((evW env O).call 30 [.ptr K.mp 0] (KL L n m false [] none)) fun v t=>∃L2 m2,v=.int .i64 (.ofNat R)∧t=KL L2 n m2 false [] none∧MsO K e op (R+1) B (N+1) u L2 n∧Fr2 L m L2 m2:=by
 obtain⟨is,rg,fl,wd,nd,bid,h⟩:=h;refine(zwl o h hN m).mono fun v t hv=>?_;obtain⟨L2,m2,rfl,rfl,h2,f2⟩:=hv;exact⟨L2,m2,rfl,rfl,⟨_,_,_,_,_,_,h2⟩,f2⟩
theorem Xl(o:O 57=none)(h:MsO K e op R B N u L n)(hN:N<100000000)(m:Nat):Cv ((evW env O).call 57 [.ptr K.mp 0] (KL L n m false [] none)) fun v t=>∃L2 m2,v=.int .i64 (.ofNat B)∧t=KL L2 n m2 false [] none∧MsO K e (.ofNat B::op) R (B+1) (N+1) u L2 n∧Fr2 L m L2 m2:=by
 obtain⟨is,rg,fl,wd,nd,bid,h⟩:=h;refine(Wb o h hN m).mono fun v t hv=>?_;obtain⟨L2,m2,rfl,rfl,h2,f2⟩:=hv;exact⟨L2,m2,rfl,rfl,⟨_,_,_,_,_,_,h2⟩,f2⟩
theorem ztE{α:Type}{t:Nat}{f:α→List AV}(hl:∀x,(f x).length=esz)(hs:∀x,xZ (f x)=true)(he:1≤esz){L:List (Nat×Option AObj)}{m:Nat}{vs:List α}{w:α}{y:AV}(hr:vs≠[]→id<n∧xD L id=some (.row t (xA f vs) true false))(hw:WfA L n)(h1:uJ y=some 1)(h2:wS (KL L n m false [] none) esz 1 y=some (f w))(hb:2*(vs.length+1)*bytes≤281474976710656)(hn:vs.length+1<1000000000000):
  Cv (vC (KL L n m false [] none) t esz bytes (gSl esz id vs.length) y) fun v s=>∃L' m',v=gSl esz n (vs++[w]).length∧s=KL L' (n+1) m' false [] none∧xD L' n=some (.row t (xA f (vs++[w])) true false)∧WfA L' (n+1)∧(∀j,j<n→(vs≠[]→j≠id)→xD L' j=xD L j∧m'.testBit j=m.testBit j):=by
 have hfl:xA f [w]=f w:=qO w;cases vs with
 |nil=>
  refine⟨_,_,Hw (q:=0) h1 h2 (.inl rfl) he (by simp only[xd,yC]at hb;exact hb) oM,_,_,rfl,rfl,by rw[xr,if_pos rfl,ziZ,hfl],(hw.up (zhi _)).same (zV _),fun j hj _=>⟨by rw[xr,if_neg oM],rfl⟩⟩
 |cons z us=>
  obtain⟨hid,g1⟩:=hr (by simp)
  simp only[zU]at hb hn;refine⟨_,_,Vd (q:=0) (by rw[x5];exact g1) (by rw[ql hl];rfl) h1 h2 (hs w) he hb oM,_,_,?_,rfl,by rw[xr,if_pos rfl,wj,hfl],((hw.up (zhi _)).same oM).same (zV _),fun j hj hne=>⟨by rw[xr,if_neg oM,xr,if_neg (hne (by simp))],by rw[ZN];exact qn (hne (by simp))⟩⟩
  simp only[zG,zU,yl,gSl]
  congr 1
theorem Gd{l:List (Nat×Option AObj)}{m k i:Nat}{b:Bool}{ks:List Nat}(h:i∈ks):(KL l n m b [] (some (k,ks))).get i=xD l i:=by
 rw[YP,Xq.2 h];simp only[hid,cond_false,cond_true];cases Nat.ble k i<;>rfl
theorem zlH{α:Type}{t:Nat}{f:α→List AV}(hl:∀x,(f x).length=esz)(hs:∀x,xZ (f x)=true)(he:1≤esz){L:List (Nat×Option AObj)}{vs:List α}{w:α}{us2:List AV}{xf ff:Bool}(hr:vs≠[]→id<n∧xD L id=some (.row t (xA f vs) true false))(hw:WfA L n)(hu:f w=us2)(hb:2*(vs.length+1)*bytes≤281474976710656)(hn:vs.length+1<1000000000000):
  Cv (vC (KL ((n,some (.row t us2 xf ff))::L) (n+1) 0 false [] (opD.onOf (n+1) (zwy (K0 (some (gSl esz id vs.length))) (some [n])))) t esz bytes (gSl esz id vs.length) (.sl n 0 1 (.fix 1))) fun v s=>∃L' m' on',v=gSl esz (n+1) (vs++[w]).length∧s=KL L' (n+1+1) m' false [] on'∧xD L' (n+1)=some (.row t (xA f (vs++[w])) true false)∧WfA L' (n+1+1)∧(∀j,j<n→(vs≠[]→j≠id)→xD L' j=xD L j∧m'.testBit j=false):=by
 subst hu;have hl1:(f w).length=1*esz:=by rw[hl,Nat.one_mul]
 cases vs with
 | nil=>
  simp only[gSl,xd,UV,YH,ziZ,Wk];have hg:(KL ((n,some (.row t (f w) xf ff))::L) (n+1) 0 false [] (some (n+1,[n]))).get n=some (.row t (f w) xf ff):=by
   rw[Gd (by simp)];exact xG _ _ _
  refine⟨_,_,Hw (q:=0) rfl (jH (j:=0) hg hl1).2 (.inl rfl) he (by simp only[xd,yC]at hb;exact hb) oM,_,_,_,rfl,rfl,by rw[xG,qO],((hw.up oM).same oM).same oM,fun j hj _=>⟨by rw[xr,if_neg oM,xr,if_neg oM],zhm j⟩⟩
 | cons z us=>
  obtain⟨hid1,g1⟩:=hr (by simp)
  simp only[zU]at hb hn;simp only[gSl,zU,PV,YH,zG,ziZ,Wk];have hg:(KL ((n,some (.row t (f w) xf ff))::L) (n+1) 0 false [] (some (n+1,[id,n]))).get n=some (.row t (f w) xf ff):=by
   rw[Gd (by simp)];exact xG _ _ _
  have hg2:(KL ((n,some (.row t (f w) xf ff))::L) (n+1) 0 false [] (some (n+1,[id,n]))).get id=some (.row t (xA f (z::us)) true false):=by
   rw[Gd (by simp),xr,if_neg oM];exact g1
  refine⟨_,_,Vd (q:=0) hg2 (by rw[ql hl];rfl) rfl (jH (j:=0) hg hl1).2 (hs w) he hb oM,_,_,_,?_,rfl,by rw[xG,←zG,wj,qO],(((hw.up oM).same oM).same oM).same oM,fun j hj hne=>⟨by rw[xr,if_neg oM,xr,if_neg (hne (by simp)),xr,if_neg oM],by rw[ZN,qn (hne (by simp)),zhm]⟩⟩
  rw[yl];rfl
attribute [local go_sem] wD xI xH ziS ziW ziV ziQ xW ltF gtF in
theorem QO{lb:Nat}{op2:List Int}(o:O 34=none)(h:MsP K e op R N u L n is rg fl lb wd nd bid)(hN:N<100000000)(x:VI)(hx:GdI K.nf K.nc lb R x)(hu:zze L x)(hu2:x.ul≠[]→x.ui<u)(hl:Z1 [x]++op2=op)(m:Nat):Cv ((evW env O).call 34 [.ptr K.mp 0,.agg (kK x)] (KL L n m false [] none)) fun v t=>∃L2 n2 m2 bid2,t=KL L2 n2 m2 false [] none∧n≤n2∧MsP K (decide (x.op=.ofNat 68∨x.op=.ofNat 72)) op2 R (N+1) u L2 n2 (is++[x]) rg fl lb wd nd bid2∧Fr2 L m L2 m2:=by
 refine xO (F:=f34) o rfl rfl (ziF rfl) ?_;have gm:=h.gm;have hlt:=h.wf.lt h.gm;have hni:=h.ni;have hsc:=WP x;have hcl:=Vz x;obtain⟨cx,hcx⟩:∃c,kK x=c:=⟨_,rfl⟩;have hgi:=h.gi;have hw:=h.wf;simp only[uh]at gm;rw[hcx]at hsc hcl⊢;obtain⟨c0,c1,c2,c3,c4,c5,c6,c7,rfl⟩:∃c0 c1 c2 c3 c4 c5 c6 c7,cx=[c0,c1,c2,c3,c4,c5,c6,c7]:=by rw[←hcx];exact⟨_,_,_,_,_,_,_,_,rfl⟩
 unfold f34 cF;simp only;refine xB ?_;refine xK ?_;have hbn:is≠[]→bid<n:=fun hne=>hw.lt (hgi hne);have hmb:is≠[]→K.mp≠bid:=fun hne e=>by have:=hgi hne;rw[←e,gm]at this;cases this
 refine wh (zlH (t:=45) (bytes:=96) (f:=kK) (id:=bid) (vs:=is) (w:=x) (n:=n+1) Vz WP oM (fun hne=>?_) ?_ hcx oM oM) fun v t hv=>?_
 ·have:=hbn hne;exact⟨oM,by (repeat rw[xr,if_neg oM]);exact hgi hne⟩
 ·(repeat first|exact hw.up oM|refine WfA.same ?_ oM)
 obtain⟨L7,m7,on7,rfl,rfl,g7,hw7,hf7⟩:=hv;have hcat:=jN is x;have hsc2:=jj 8 (n+1+1) (is++[x]).length;have hf8:∀j,j<n→(is≠[]→j≠bid)→xD L7 j=xD L j∧m7.testBit j=false:=fun j hj hne=>by
  have:=hf7 j oM hne
  (repeat rw[xr,if_neg oM]at this)
  exact this
 have gm7:=(hf8 K.mp hlt hmb).1.trans gm;rw[hcat]at hsc2⊢;simp only[q8]at hsc2;replace hf8:∀j,j<n→(is≠[]→j≠bid)→xD L j=xD L7 j∧m7.testBit j=false:=fun j h1 h2=>⟨(hf8 j h1 h2).1.symm,(hf8 j h1 h2).2⟩;clear hf7 hgi hsc hw gm;refine xu ?_;refine xF ?_;have hfr:∀j,j<n→j≠K.mp→(is≠[]→j≠bid)→xD ((K.mp,some (.row 73 [.int .i64 K.fn,.int .i64 (.ofNat R),.int .i64 (.ofNat 0),.int .i64 (.ofNat nd),.int .i64 K.pn,.bool K.rest,gSl 8 (n+1+1) (is.length+1),.map K.rid,.int .i64 (.ofNat K.sf),.int .i64 (.ofNat lb),.map K.fid,.int .i64 (.ofNat wd)] false false))::L7) j=xD L j:=fun j hj h1 h2=>by
  rw[xr,if_neg h1];exact(hf8 j hj h2).1.symm
 refine⟨_,n+1+1+1,_,n+1+1,rfl,oM,h.add hx (fun hne=>?_) hu2 hl (hw7.same oM) (by rw[xG];simp only[uh,hcat]) (by rw[xr,if_neg oM];exact g7) hfr,h.fr fun j hj h1 h2=>⟨hfr j hj h1 h2,?_⟩⟩
 ·obtain⟨xt,gu⟩:=hu hne;refine⟨xt,(hfr x.ui (h.wf.lt gu) (fun e=>?_) fun hn e=>?_).trans gu⟩
  ·rw[e,h.gm]at gu;cases gu
  ·rw[e,h.gi hn]at gu;cases gu
 ·rw[qn h1,Nat.testBit_or,(hf8 j hj h2).2,Bool.or_false]
end
def zjA:List Nat:=[30,31,32,33,34,50,51,52,53,54,55,56,57,58,59,60,61,62,63,64,85,86,87,88,89,90,91,92,93,94,95,96,97,98,99,100,101,102,103,104,131,132,133,134,135,163,20,39]
def IsO(O:Orc):Prop:=∀f∈zjA,O f=none
theorem IsO.no(H:IsO O)(f:Nat)(h:f∈zjA:=by decide):O f=none:=H f h
def okR:List (Nat×Option AObj)→Nat→Nat→AV→Prop:=fun _ R _ v=>∃r,v=.int .i64 (.ofNat r)∧r<R
def okL:List (Nat×Option AObj)→Nat→Nat→AV→Prop:=fun _ _ B v=>∃k,v=.int .i64 (.ofNat k)∧k<B
def okU:List (Nat×Option AObj)→Nat→Nat→AV→Prop:=fun _ _ _ _=>True
def WiOk(q i:Int):Prop:=(q=.ofNat 15∧.ofNat 0≤i∧i< .ofNat 32768)∨(q∈[zA 16,.ofNat 17]∧.ofNat 0≤i∧i< .ofNat 32)∨(q∈[zA 19,.ofNat 20]∧i=.ofNat 2)
theorem WiOk.op{q i d l:Int}{nf nc lb:Nat}(h:WiOk q i):OpOk nf nc lb q d i l []:=by
 rcases h with ⟨rfl,h1,h2⟩|⟨h,h1,h2⟩|⟨h,rfl⟩
 ·exact .off (by simp) h1 h2
 ·exact .msk h h1 h2
 ·exact .shf h
theorem WiOk.ne{q i:Int}(h:WiOk q i):q≠.ofNat 65:=fun e=>by
 subst e;rcases h with ⟨h,_⟩|⟨h,_⟩|⟨h,_⟩<;>simp at h
section
variable {K:MK}{e:Bool}{op:List Int}{R B N u:Nat}{L:List (Nat×Option AObj)}{n:Nat}
theorem MsO.R0(h:MsO K e op R B N u L n):33≤R:=by obtain⟨_,_,_,_,_,_,h⟩:=h;exact h.R0
theorem MsO.more{N2:Nat}(h:MsO K e op R B N u L n)(hN:N≤N2):MsO K e op R B N2 u L n:=by
 obtain⟨is,rg,fl,wd,nd,bid,h⟩:=h;exact⟨is,rg,fl,wd,nd,bid,{h.weak hN with ls:=h.ls}⟩
theorem MsO.sf(h:MsO K e op R B N u L n):K.sf<R:=by obtain⟨_,_,_,_,_,_,h⟩:=h;exact h.sf
theorem MsO.mem{l:Int}(h:MsO K e op R B N u L n)(hl:l∈op):∃k,l=.ofNat k∧k<B:=by
 obtain⟨_,_,_,_,_,_,h⟩:=h;have:=h.hlb.mem_iff.1 (zhn _ (List.mem_append_left _ hl):l∈_);simp only[Xy,List.mem_map,List.mem_range]at this;obtain⟨k,h1,h2⟩:=this;exact⟨k,h2.symm,h1⟩
theorem MsO.lt{l:Int}{op2:List Int}(h:MsO K e (l::op2) R B N u L n):∃k,l=.ofNat k∧k<B:=h.mem zi9
theorem MsO.ltn{k:Nat}(h:MsO K e op R B N u L n)(hl:.ofNat k∈op):k<B:=by
 obtain⟨j,h1,h2⟩:=h.mem hl;cases h1;exact h2
end
section
variable {O:Orc}(H:IsO O){K:MK}{e:Bool}{op:List Int}{R B N u:Nat}{L:List (Nat×Option AObj)}{n:Nat}
include H
theorem zyT(h:MsO K e op R B N u L n)(hN:N<100000000)(x:VI){op2:List Int}{e2:Bool}(hx:GdI K.nf K.nc B R x)(hu:zze L x)(hu2:x.ul≠[]→x.ui<u)(hl:Z1 [x]++op2=op)(he:e2=true→x.op=.ofNat 68∨x.op=.ofNat 72)(m:Nat):Cv ((evW env O).call 34 [.ptr K.mp 0,.agg (kK x)] (KL L n m false [] none)) (MsQ K e2 op2 R B (N+1) (some u) L n m okU):=by
 obtain⟨is,rg,fl,wd,nd,bid,h⟩:=h;refine(QO (H.no _) h hN x hx hu hu2 (op2:=op2++fl.map (·.2)) (by rw[←zi4,hl]) m).mono fun v t hv=>?_
 obtain⟨L2,n2,m2,bid2,rfl,hn,h2,f2⟩:=hv;exact⟨L2,n2,m2,R,B,rfl,zo _,zo _,hn,⟨_,rg,fl,wd,nd,bid2,{h2 with ls:=fun he2=>h2.ls (decide_eq_true (he he2))}⟩,f2,trivial⟩
theorem vm(h:MsO K e op R B N u L n)(hN:N<100000000){q d a b i l:Int}{e2:Bool}(hx:OpOk K.nf K.nc B q d i l [])(hd:InR R d)(ha:InR R a)(hb:InR R b)(h65:q≠.ofNat 65)(he:e2=true→q=.ofNat 68∨q=.ofNat 72)(m:Nat):Cv ((evW env O).call 34 [.ptr K.mp 0,.agg [.int .i64 q,.int .i64 d,.int .i64 a,.int .i64 b,.int .i64 i,.int .i64 l,.nils,.nils]] (KL L n m false [] none)) (MsQ K e2 op R B (N+1) (some u) L n m okU):=
 zyT H h hN ⟨q,d,a,b,i,l,0,false,[]⟩ (op2:=op) ⟨hx,hd,ha,hb,zK _,fun _ h=>by cases h⟩ (fun h=>absurd rfl h) (fun h=>absurd rfl h) (by simp only[Z1,if_neg h65,ziZ]) he m
attribute [local go_sem] xI xH ziS ziW ziV ziQ xW in
theorem Xh{l:Int}(h:MsO K e (l::op) R B N u L n)(hN:N<100000000)(m:Nat):Cv ((evW env O).call 33 [.ptr K.mp 0,.int .i64 l] (KL L n m false [] none)) (MsQ K false op R B (N+1) (some u) L n m okU):=by
 refine xO (F:=f33) (H.no _) rfl rfl (ziF rfl) ?_;obtain⟨k,rfl,hk⟩:=h.lt;have h0:InR R (.ofNat 0):=inR (by have:=h.R0;omega)
 unfold f33 cF;simp only;refine xK ?_;refine xC (zyT H h hN ⟨.ofNat 65,.ofNat 0,.ofNat 0,.ofNat 0,.ofNat 0,.ofNat k,0,false,[]⟩ (op2:=op) (e2:=false) ⟨.br (by simp) hk,h0,h0,h0,zK _,fun _ h=>by cases h⟩ (fun h=>absurd rfl h) (fun h=>absurd rfl h) rfl (fun h=>by cases h) _) fun v t hv=>?_
 obtain⟨L1,n1,m1,R1,B1,rfl,q1,q2,q3,h1,f1,_⟩:=hv;refine xu ?_;refine xF ?_;exact⟨L1,n1,m1,R1,B1,rfl,q1,q2,q3,h1,f1,trivial⟩
attribute [local go_sem] xI xH ziS ziW ziV ziQ xW in
theorem znP{k:Nat}(h:MsO K e op R B N u L n)(hN:N<100000000)(hk:k<B)(m:Nat):Cv ((evW env O).call 133 [.ptr K.mp 0,.int .i64 (.ofNat k)] (KL L n m false [] none)) (MsQ K false op R B (N+1) (some u) L n m okU):=by
 refine xO (F:=f133) (H.no _) rfl rfl (ziF rfl) ?_;have h0:InR R (.ofNat 0):=inR (by have:=h.R0;omega)
 unfold f133 cF;simp only;refine xK ?_;refine xC (vm H h hN (e2:=false) (.br (by simp) hk) h0 h0 h0 (by simp) (fun h=>by cases h) _) fun v t hv=>?_
 obtain⟨L1,n1,m1,R1,B1,rfl,q1,q2,q3,h1,f1,_⟩:=hv;refine xu ?_;refine xF ?_;exact⟨L1,n1,m1,R1,B1,rfl,q1,q2,q3,h1,f1,trivial⟩
end
section
variable {O:Orc}(H:IsO O){K:MK}{e:Bool}{op:List Int}{R B N u:Nat}{L:List (Nat×Option AObj)}{n:Nat}
include H
attribute [local go_sem] xI xH ziS ziW ziV ziQ xW in
theorem uu{q:Int}{a b k:Nat}(h:MsO K e op R B N u L n)(hN:N<100000000)(hq:q∈[Int.ofNat 26,.ofNat 27,.ofNat 28,.ofNat 29])(ha:a<R)(hb:b<R)(hk:k<B)(m:Nat):Cv ((evW env O).call 58 [.ptr K.mp 0,.int .i64 q,.int .i64 (.ofNat a),.int .i64 (.ofNat b),.int .i64 (.ofNat k)] (KL L n m false [] none)) (MsQ K false op R B (N+1) (some u) L n m okU):=by
 refine xO (F:=f58) (H.no _) rfl rfl (ziF rfl) ?_;have h0:InR R (.ofNat 0):=inR (by have:=h.R0;omega)
 have h65:q≠.ofNat 65:=fun e=>by subst e;simp at hq
 have hb6:q∈[zA 26,.ofNat 27,.ofNat 28,.ofNat 29,.ofNat 65,.ofNat 66]:=by
  simp only[ziU]at hq⊢;rcases hq with h|h|h|h|h
  ·exact .inl h
  ·exact .inr (.inl h)
  ·exact .inr (.inr (.inl h))
  ·exact .inr (.inr (.inr (.inl h)))
  ·cases h
 unfold f58 cF;simp only;refine xK ?_;refine xC (vm H h hN (e2:=false) (.br hb6 hk) h0 (inR ha) (inR hb) h65 (fun h=>by cases h) _) fun v t hv=>?_
 obtain⟨L1,n1,m1,R1,B1,rfl,q1,q2,q3,h1,f1,_⟩:=hv;refine xu ?_;refine xF ?_;exact⟨L1,n1,m1,R1,B1,rfl,q1,q2,q3,h1,f1,trivial⟩
attribute [local go_sem] xI xH ziS ziW ziV ziQ xW in
theorem lG{q:Int}{a b:Nat}(h:MsO K e op R B N u L n)(hN:N<90000000)(hq:q∈[Int.ofNat 1,.ofNat 2,.ofNat 7,.ofNat 8,.ofNat 9])(ha:a<R)(hb:b<R)(m:Nat):Cv ((evW env O).call 132 [.ptr K.mp 0,.int .i64 q,.int .i64 (.ofNat a),.int .i64 (.ofNat b)] (KL L n m false [] none)) (MsQ K false op R B (N+2) (some u) L n m okR):=by
 refine xO (F:=f132) (H.no _) rfl rfl (ziF rfl) ?_;have h65:q≠.ofNat 65:=fun e=>by subst e;simp at hq
 unfold f132 cF;simp only;refine xB ?_;refine xz (xK ?_);refine xC (pl (H.no _) h oM _) fun v t hv=>?_;obtain⟨L1,m1,rfl,rfl,h1,f1⟩:=hv;refine xu ?_;refine xz (xK ?_);refine xC (vm H h1 oM (e2:=false) (.tri hq) (inR (zV R)) (inR oM) (inR oM) h65 (fun h=>by cases h) _) fun v t hv=>?_
 obtain⟨L2,n2,m2,R2,B2,rfl,q1,q2,q3,h2,f2,_⟩:=hv;refine xu ?_;refine xB ?_;refine xu ?_;refine xF ?_;exact⟨L2,n2,m2,R2,B2,rfl,oM,q2,q3,h2,f1.trans f2,R,rfl,oM⟩
attribute [local go_sem] xI xH ziS ziW ziV ziQ xW in
theorem jR{q i:Int}{a:Nat}(h:MsO K e op R B N u L n)(hN:N<90000000)(hq:WiOk q i)(ha:a<R)(m:Nat):Cv ((evW env O).call 87 [.ptr K.mp 0,.int .i64 q,.int .i64 (.ofNat a),.int .i64 i] (KL L n m false [] none)) (MsQ K false op R B (N+2) (some u) L n m okR):=by
 refine xO (F:=f87) (H.no _) rfl rfl (ziF rfl) ?_;have h0:InR (R+1) (.ofNat 0):=inR (by have:=h.R0;omega)
 unfold f87 cF;simp only;refine xB ?_;refine xz (xK ?_);refine xC (pl (H.no _) h oM _) fun v t hv=>?_;obtain⟨L1,m1,rfl,rfl,h1,f1⟩:=hv;refine xu ?_;refine xz (xK ?_);refine xC (vm H h1 oM (e2:=false) hq.op (inR (zV R)) (inR oM) h0 hq.ne (fun h=>by cases h) _) fun v t hv=>?_
 obtain⟨L2,n2,m2,R2,B2,rfl,q1,q2,q3,h2,f2,_⟩:=hv;refine xu ?_;refine xB ?_;refine xu ?_;refine xF ?_;exact⟨L2,n2,m2,R2,B2,rfl,oM,q2,q3,h2,f1.trans f2,R,rfl,oM⟩
attribute [local go_sem] xI xH ziS ziW ziV ziQ xW in
theorem uy{d a:Nat}(h:MsO K e op R B N u L n)(hN:N<100000000)(hd:d<R)(ha:a<R)(m:Nat):Cv ((evW env O).call 50 [.ptr K.mp 0,.int .i64 (.ofNat d),.int .i64 (.ofNat a)] (KL L n m false [] none)) (MsQ K false op R B (N+1) (some u) L n m okU):=by
 refine xO (F:=f50) (H.no _) rfl rfl (ziF rfl) ?_;have h0:InR R (.ofNat 0):=inR (by have:=h.R0;omega)
 unfold f50 cF;simp only;refine xK ?_;refine xC (vm H h hN (e2:=false) (.mov (by simp)) (inR hd) (inR ha) h0 (by simp) (fun h=>by cases h) _) fun v t hv=>?_
 obtain⟨L1,n1,m1,R1,B1,rfl,q1,q2,q3,h1,f1,_⟩:=hv;refine xu ?_;refine xF ?_;exact⟨L1,n1,m1,R1,B1,rfl,q1,q2,q3,h1,f1,trivial⟩
attribute [local go_sem] xI xH ziS ziW ziV ziQ xW in
theorem jp{d:Nat}{w:Int}(h:MsO K e op R B N u L n)(hN:N<100000000)(hd:d<R)(m:Nat):Cv ((evW env O).call 89 [.ptr K.mp 0,.int .i64 (.ofNat d),.int .i64 w] (KL L n m false [] none)) (MsQ K false op R B (N+1) (some u) L n m okU):=by
 refine xO (F:=f89) (H.no _) rfl rfl (ziF rfl) ?_;have h0:InR R (.ofNat 0):=inR (by have:=h.R0;omega)
 unfold f89 cF;simp only;refine xK ?_;refine xC (vm H h hN (e2:=false) (.mov (by simp)) (inR hd) h0 h0 (by simp) (fun h=>by cases h) _) fun v t hv=>?_
 obtain⟨L1,n1,m1,R1,B1,rfl,q1,q2,q3,h1,f1,_⟩:=hv;refine xu ?_;refine xF ?_;exact⟨L1,n1,m1,R1,B1,rfl,q1,q2,q3,h1,f1,trivial⟩
attribute [local go_sem] xI xH ziS ziW ziV ziQ xW in
theorem pT{w:Int}(h:MsO K e op R B N u L n)(hN:N<90000000)(m:Nat):Cv ((evW env O).call 60 [.ptr K.mp 0,.int .i64 w] (KL L n m false [] none)) (MsQ K false op R B (N+2) (some u) L n m okR):=by
 refine xO (F:=f60) (H.no _) rfl rfl (ziF rfl) ?_;unfold f60 cF;simp only;refine xB ?_;refine xz (xK ?_);refine xC (pl (H.no _) h oM _) fun v t hv=>?_;obtain⟨L1,m1,rfl,rfl,h1,f1⟩:=hv;refine xu ?_;refine xz (xK ?_);refine xC (jp H h1 oM (zV R) _) fun v t hv=>?_;obtain⟨L2,n2,m2,R2,B2,rfl,q1,q2,q3,h2,f2,_⟩:=hv;refine xu ?_;refine xB ?_;refine xu ?_;refine xF ?_;exact⟨L2,n2,m2,R2,B2,rfl,oM,q2,q3,h2,f1.trans f2,R,rfl,oM⟩
attribute [local go_sem] xI xH ziS ziW ziV ziQ xW in
theorem Q7{a:Nat}(h:MsO K e op R B N u L n)(hN:N<90000000)(ha:a<R)(m:Nat):Cv ((evW env O).call 85 [.ptr K.mp 0,.int .i64 (.ofNat a)] (KL L n m false [] none)) (MsQ K false op R B (N+2) (some u) L n m okR):=by
 refine xO (F:=f85) (H.no _) rfl rfl (ziF rfl) ?_;unfold f85 cF;simp only;refine xB ?_;refine xz (xK ?_);refine xC (jR H h hN (.inr (.inr ⟨by simp,rfl⟩)) ha _) fun v t hv=>?_
 obtain⟨L2,n2,m2,R2,B2,rfl,q1,q2,q3,h2,f2,r,rfl,hr⟩:=hv;refine xu ?_;refine xu ?_;refine xF ?_;exact⟨L2,n2,m2,R2,B2,rfl,q1,q2,q3,h2,f2,r,rfl,hr⟩
attribute [local go_sem] xI xH ziS ziW ziV ziQ xW in
theorem pg{d a i:Nat}(h:MsO K e op R B N u L n)(hN:N<80000000)(hd:d<R)(ha:a<R)(hi:i<32768)(m:Nat):Cv ((evW env O).call 52 [.ptr K.mp 0,.int .i64 (.ofNat d),.int .i64 (.ofNat a),.int .i64 (.ofNat i)] (KL L n m false [] none)) (MsQ K false op R B (N+3) (some u) L n m okU):=by
 refine xO (F:=f52) (H.no _) rfl rfl (ziF rfl) ?_;unfold f52 cF;simp only;refine xK ?_;refine xC (Q7 H h oM ha _) fun v t hv=>?_;obtain⟨L1,n1,m1,R1,B1,rfl,q1,q2,q3,h1,f1,r,rfl,hr⟩:=hv;have h0:InR R1 (.ofNat 0):=inR (by have:=h1.R0;omega)
 refine xK ?_;refine xC (vm H h1 oM (e2:=false) (.off (by simp) (Int.ofNat_le.2 (zK i)) (Int.ofNat_lt.2 hi)) (inR oM) (inR hr) h0 (by simp) (fun h=>by cases h) _) fun v t hv=>?_
 obtain⟨L2,n2,m2,R2,B2,rfl,p1,p2,p3,h2,f2,_⟩:=hv;refine xu ?_;refine xF ?_;exact⟨L2,n2,m2,R2,B2,rfl,oM,oM,oM,h2,f1.trans f2,trivial⟩
attribute [local go_sem] xI xH ziS ziW ziV ziQ xW in
theorem UU{a w i:Nat}(h:MsO K e op R B N u L n)(hN:N<80000000)(ha:a<R)(hw:w<R)(hi:i<32768)(m:Nat):Cv ((evW env O).call 88 [.ptr K.mp 0,.int .i64 (.ofNat a),.int .i64 (.ofNat i),.int .i64 (.ofNat w)] (KL L n m false [] none)) (MsQ K false op R B (N+3) (some u) L n m okU):=by
 refine xO (F:=f88) (H.no _) rfl rfl (ziF rfl) ?_;unfold f88 cF;simp only;refine xK ?_;refine xC (Q7 H h oM ha _) fun v t hv=>?_;obtain⟨L1,n1,m1,R1,B1,rfl,q1,q2,q3,h1,f1,r,rfl,hr⟩:=hv;have h0:InR R1 (.ofNat 0):=inR (by have:=h1.R0;omega)
 refine xK ?_;refine xC (vm H h1 oM (e2:=false) (.off (by simp) (Int.ofNat_le.2 (zK i)) (Int.ofNat_lt.2 hi)) h0 (inR hr) (inR oM) (by simp) (fun h=>by cases h) _) fun v t hv=>?_
 obtain⟨L2,n2,m2,R2,B2,rfl,p1,p2,p3,h2,f2,_⟩:=hv;refine xu ?_;refine xF ?_;exact⟨L2,n2,m2,R2,B2,rfl,oM,oM,oM,h2,f1.trans f2,trivial⟩
end
theorem Fr2.new{L L2:List (Nat×Option AObj)}{m:Nat}(hw:WfA L n)(h:∀j,j<n→xD L2 j=xD L j):Fr2 L m L2 m:=fun j _ hj _=>⟨(h j (hw.lt hj)).trans hj,rfl⟩
theorem Fr2.newm{L L2:List (Nat×Option AObj)}{m m2:Nat}(hw:WfA L n)(h:∀j,j<n→xD L2 j=xD L j)(hm:∀j,j<n→m2.testBit j=m.testBit j):Fr2 L m L2 m2:=fun j _ hj _=>⟨(h j (hw.lt hj)).trans hj,hm j (hw.lt hj)⟩
section
variable {O:Orc}(H:IsO O){K:MK}{e:Bool}{op:List Int}{R B N u:Nat}{L:List (Nat×Option AObj)}{n:Nat}
include H
attribute [local go_sem] xI xH ziS ziW ziV ziQ xW in
theorem zxK{k:Nat}(hk:k<8)(m:Nat)(b:Bool):Cv ((evW env O).call 86 [.int .i64 (.ofNat k)] (KL L n m b [] none)) fun v t=>v=.int .i64 (.ofNat (4*k+3))∧t=KL L n m b [] none:=by
 refine wI (F:=f86) (H.no _) rfl rfl (ziF rfl) ?_;unfold f86 cF;simp only;have hk2:k=0∨k=1∨k=2∨k=3∨k=4∨k=5∨k=6∨k=7:=oM;clear hk;rcases hk2 with rfl|rfl|rfl|rfl|rfl|rfl|rfl|rfl<;>(
 refine xB ?_;refine xB ?_;refine xu ?_;refine xF ?_;exact⟨rfl,rfl⟩)
attribute [local go_sem] xI xH ziS ziW ziV ziQ xW in
theorem jJ{a k l:Nat}(h:MsO K e op R B N u L n)(hN:N<70000000)(ha:a<R)(hk:k<8)(hl:l<B)(m:Nat):Cv ((evW env O).call 61 [.ptr K.mp 0,.int .i64 (.ofNat a),.int .i64 (.ofNat k),.int .i64 (.ofNat l)] (KL L n m false [] none)) (MsQ K false op R B (N+14) (some u) L n m okU):=by
 refine xO (F:=f61) (H.no _) rfl rfl (ziF rfl) ?_;have hR0:=h.R0;have h3:WiOk (.ofNat 16) (.ofNat 3):=.inr (.inl ⟨by simp,by decide,by decide⟩)
 have h31:WiOk (.ofNat 16) (.ofNat 31):=.inr (.inl ⟨by simp,by decide,by decide⟩)
 have h15:∀i,i<40→WiOk (.ofNat 15) (.ofNat i):=fun i hi=>.inl ⟨rfl,Int.ofNat_le.2 (zK i),Int.ofNat_lt.2 oM⟩;unfold f61 cF;simp only;refine xz (xK ?_);refine xC (jR H h oM h3 ha _) fun v t hv=>?_;obtain⟨L1,n1,m1,R1,B1,rfl,a1,b1,c1,h1,f1,r1,rfl,g1⟩:=hv;refine xK ?_;refine xC (jR H h1 oM (a:=0) (h15 1 oM) oM _) fun v t hv=>?_;obtain⟨L2,n2,m2,R2,B2,rfl,a2,b2,c2,h2,f2,r2,rfl,g2⟩:=hv;refine xK ?_;refine xC (uu H h2 oM (by simp) (show r1<R2 by omega) g2 (show l<B2 by omega) _) fun v t hv=>?_
 obtain⟨L3,n3,m3,R3,B3,rfl,a3,b3,c3,h3,f3,_⟩:=hv;refine xu ?_;refine xz (xK ?_);refine xC (pl (H.no _) h3 oM _) fun v t hv=>?_;obtain⟨L4,m4,rfl,rfl,h4,f4⟩:=hv;refine xu ?_;refine xz (xK ?_);refine xC (pg H h4 oM (zV R3) (show a<R3+1 by omega) oM _) fun v t hv=>?_
 obtain⟨L5,n5,m5,R5,B5,rfl,a5,b5,c5,h5,f5,_⟩:=hv;refine xu ?_;refine xK ?_;refine xC (jR H h5 oM h31 (show R3<R5 by omega) _) fun v t hv=>?_
 obtain⟨L6,n6,m6,R6,B6,rfl,a6,b6,c6,h6,f6,r6,rfl,g6⟩:=hv;refine xK ?_;refine xC (zxK H hk _ _) fun v t hv=>?_;obtain⟨rfl,rfl⟩:=hv;refine xK ?_;refine xC (jR H h6 oM (a:=0) (h15 (4*k+3) oM) oM _) fun v t hv=>?_;obtain⟨L7,n7,m7,R7,B7,rfl,a7,b7,c7,h7,f7,r7,rfl,g7⟩:=hv;refine xK ?_;refine xC (uu H h7 oM (by simp) (show r6<R7 by omega) g7 (show l<B7 by omega) _) fun v t hv=>?_
 obtain⟨L8,n8,m8,R8,B8,rfl,a8,b8,c8,h8,f8,_⟩:=hv;refine xu ?_;refine xF ?_;exact⟨L8,n8,m8,R8,B8,rfl,oM,oM,oM,h8.weak oM,f1.trans (f2.trans (f3.trans (f4.trans (f5.trans (f6.trans (f7.trans f8)))))),trivial⟩
attribute [local go_sem] jo Zd kU kT jQ Z8 xI xH ziS ziW ziV ziQ xW in
theorem Y8{r:Nat}(h:MsO K e op R B N u L n)(hN:N<90000000)(hr:r=104∨r=105)(m:Nat):Cv ((evW env O).call 62 [.ptr K.mp 0,.int .i64 (.ofNat r)] (KL L n m false [] none)) (MsQ K e op R B (N+1) (some u) L n m okL):=by
 refine xO (F:=f62) (H.no _) rfl rfl (ziF rfl) ?_;obtain⟨is,rg,fl,wd,nd,bid,h⟩:=h;have gm:=h.gm;have gf:=h.gf;have hg:=pe (.ofNat r) fl;simp only[uh]at gm;unfold f62 cF;simp only;cases hl:lkN (.ofNat r) fl with
 |some l=>
  rw[hl,Option.map_some]at hg;have hm:l∈op++fl.map (·.2):=zhn _ (List.mem_map.2 ⟨_,GV hl,rfl⟩);have:=h.hlb.mem_iff.1 (zhn _ hm);simp only[Xy,List.mem_map,List.mem_range]at this;obtain⟨k,hk,rfl⟩:=this;refine xB ?_;refine xB ?_;refine xB ?_;refine xB ?_;refine xu ?_;refine xF ?_;exact⟨L,n,_,R,B,rfl,zo _,zo _,zo _,⟨is,rg,fl,wd,nd,bid,{h with ni:=by have:=h.ni;omega,nl:=by have:=h.nl;omega,nR:=by have:=h.nR;omega,nw:=by have:=h.nw;omega,nn:=by have:=h.nn;omega}⟩,Fr2.refl _ _,k,rfl,hk⟩
 | none=>
  rw[hl,Option.map_none]at hg;refine xB ?_;refine xB ?_;refine xz (xz (xu ?_));refine x4 sW ?_;refine xz (xK ?_);refine xC (Wb (H.no _) h oM _) fun v t hv=>?_;obtain⟨L1,m1,rfl,rfl,h1,f1⟩:=hv;have gm1:=h1.gm;have gf1:=h1.gf;have hs1:=QR (.ofNat r) (.ofNat B) fl hl;obtain⟨r1,r2⟩:=h1.rm;have r3:=h1.rf;simp only[uh]at gm1;clear gm gf hg;refine xu ?_;refine xu ?_;refine xB ?_;refine xu ?_;refine xF ?_;have hs:∀j,j<n→j≠K.mp→j≠K.rid→j≠K.fid→xD ((K.fid,some (.umap (uN (fl++[(.ofNat r,.ofNat B)]))))::L1) j=xD L1 j∧(m1|||1<<<K.fid).testBit j=m1.testBit j:=fun j _ _ _ q=>⟨by rw[xr,if_neg q],qn q⟩
  have hn:(zA r)∉fl.map (·.1):=fun hm=>by
   have key:∀F:List (Int×Int),(zA r)∈F.map (·.1)→lkN (.ofNat r) F≠none:=fun F=>by
    induction F with
    |nil=>intro h;cases h
    | cons p F ih=>
     intro h;simp only[lkN];split
     ·simp
     ·rename_i hne
      simp only[zv,ziU]at h;exact ih (h.resolve_left fun e=>hne e.symm)
   exact key fl hm hl
  have b1:=h1.nl;have b2:=h1.nR;have b3:=h1.nw;have b4:=h1.nn
  refine⟨_,n,_,R,B+1,rfl,zo _,zhi _,zo _,⟨is,rg,fl++[(.ofNat r,.ofNat B)],wd,nd,bid,h1.set (h1.wf.same (h1.wf.lt h1.gf)) ?_ ?_ (xG _ _ _) (fun j q1 q2 q3 q4=>(hs j q1 q2 q3 q4).1) (zo _) (zo _) ?_ h1.hrg ⟨fun p hp=>?_,?_⟩ ⟨zo _,b1,b2,b3,b4⟩⟩,f1.trans (h1.fr2 hs),B,rfl,zV B⟩
  ·rw[xr,if_neg (Ne.symm r2)];exact h1.gm
  ·rw[xr,if_neg r3];exact h1.gr
  ·refine List.Perm.trans (List.Perm.append_left _ ?_) h1.hlb;rw[zB,←zi4];exact zho _ _
  ·rcases List.mem_append.1 hp with hp|hp
   ·exact h1.hfl p hp
   ·rw[List.mem_singleton.1 hp];rcases hr with rfl|rfl
    ·exact .inl rfl
    ·exact .inr rfl
  ·rw[zB];refine List.nodup_append.2 ⟨h1.hfn,by simp,fun a ha b hb=>?_⟩
   simp only[zv,yB,List.mem_singleton]at hb;subst hb;exact fun e=>hn (e▸ha)
end
section
variable {O:Orc}(H:IsO O){K:MK}{e:Bool}{op:List Int}{R B N u:Nat}{L:List (Nat×Option AObj)}{n:Nat}
include H
attribute [local go_sem] jo Zd kU kT jQ Z8 xI xH ziS ziW ziV ziQ xW in
theorem u9{x:Int}(h:MsO K e op R B N u L n)(hN:N<90000000)(m:Nat):Cv ((evW env O).call 51 [.ptr K.mp 0,.int .i64 x] (KL L n m false [] none)) (MsQ K e op R B (N+1) (some u) L n m okR):=by
 refine xO (F:=f51) (H.no _) rfl rfl (ziF rfl) ?_;obtain⟨is,rg,fl,wd,nd,bid,h⟩:=h;have gm:=h.gm;have gr:=h.gr;have hg:=pe x rg;simp only[uh]at gm;unfold f51 cF;simp only;cases hl:lkN x rg with
 |some l=>
  rw[hl,Option.map_some]at hg;obtain⟨k,rfl,hk⟩:=h.hrg _ (GV hl);refine xB ?_;refine xB ?_;refine xB ?_;refine xB ?_;refine xu ?_;refine xF ?_;exact⟨L,n,_,R,B,rfl,zo _,zo _,zo _,⟨is,rg,fl,wd,nd,bid,{h with ni:=by have:=h.ni;omega,nl:=by have:=h.nl;omega,nR:=by have:=h.nR;omega,nw:=by have:=h.nw;omega,nn:=by have:=h.nn;omega}⟩,Fr2.refl _ _,k,rfl,hk⟩
 | none=>
  rw[hl,Option.map_none]at hg;refine xB ?_;refine xB ?_;refine xz (xz (xu ?_));refine x4 sW ?_;refine xz (xK ?_);refine xC (zwl (H.no _) h oM _) fun v t hv=>?_;obtain⟨L1,m1,rfl,rfl,h1,f1⟩:=hv;have gm1:=h1.gm;have gr1:=h1.gr;have hs1:=QR x (.ofNat R) rg hl;obtain⟨r1,r2⟩:=h1.rm;have r3:=h1.rf;simp only[uh]at gm1;clear gm gr hg;refine xu ?_;refine xu ?_;refine xB ?_;refine xu ?_;refine xF ?_;have hs:∀j,j<n→j≠K.mp→j≠K.rid→j≠K.fid→xD ((K.rid,some (.umap (uN (rg++[(x,.ofNat R)]))))::L1) j=xD L1 j∧(m1|||1<<<K.rid).testBit j=m1.testBit j:=fun j _ _ q _=>⟨by rw[xr,if_neg q],qn q⟩
  have b1:=h1.nl;have b2:=h1.nR;have b3:=h1.nw;have b4:=h1.nn
  refine⟨_,n,_,R+1,B,rfl,zhi _,zo _,zo _,⟨is,rg++[(x,.ofNat R)],fl,wd,nd,bid,h1.set (h1.wf.same (h1.wf.lt h1.gr)) ?_ (xG _ _ _) ?_ (fun j q1 q2 q3 q4=>(hs j q1 q2 q3 q4).1) (zo _) (zo _) h1.hlb (fun p hp=>?_) ⟨h1.hfl,h1.hfn⟩ ⟨zo _,b1,b2,b3,b4⟩⟩,f1.trans (h1.fr2 hs),R,rfl,zV R⟩
  ·rw[xr,if_neg (Ne.symm r1)];exact h1.gm
  ·rw[xr,if_neg (Ne.symm r3)];exact h1.gf
  ·rcases List.mem_append.1 hp with hp|hp
   ·exact h1.hrg p hp
   ·rw[List.mem_singleton.1 hp];exact inR (zV R)
def AtO(nc:Nat)(a:Atm):Prop:=a.k=.ofNat 1∨(a.k=.ofNat 2∧∃j,a.n=.ofNat j∧j<nc)
attribute [local go_sem] qp ltF gtF xI xH ziS ziW ziV ziQ xW in
theorem zxk{a:Atm}(h:MsO K e op R B N u L n)(hN:N<80000000)(ha:AtO K.nc a)(m:Nat):Cv ((evW env O).call 59 [.ptr K.mp 0,.agg (qp a)] (KL L n m false [] none)) (MsQ K false op R B (N+2) (some u) L n m okR):=by
 refine xO (F:=f59) (H.no _) rfl rfl (ziF rfl) ?_;obtain⟨k,x⟩:=a;have hw:=h.wf;have hu:=fun o=>h.up (L2:=(n,o)::L) (n2:=n+1) ((hw.up (zhi _)).same (zV _)) (Oth.same fun j hj=>by rw[xr,if_neg oM])
 have fu:=fun o=>Fr2.new (m:=m) hw (L2:=(n,o)::L) fun j hj=>by rw[xr,if_neg oM]
 have hu2:=fun o o2=>h.up (L2:=(n,o)::(n,o2)::L) (n2:=n+1) (((hw.up (zhi _)).same (zV _)).same (zV _)) (Oth.same fun j hj=>by rw[xr,if_neg oM,xr,if_neg oM])
 simp only[qp];unfold f59 cF;simp only;rcases ha with hk|⟨hk,j,hj,hjn⟩
 ·simp only at hk;subst hk;refine xB ?_;refine xz (xz (xu ?_));refine x4 sW ?_;refine xz (xK ?_);refine xC (u9 H (hu _) oM _) fun v t hv=>?_;obtain⟨L1,n1,m1,R1,B1,rfl,q1,q2,q3,h1,f1,r,rfl,hr⟩:=hv;refine xu ?_;refine xu ?_;refine xF ?_;exact⟨L1,n1,m1,R1,B1,rfl,q1,q2,oM,h1.weak oM,(fu _).trans f1,r,rfl,hr⟩
 ·simp only at hk hj;subst hk hj;refine xB ?_;refine xz (xz (xu ?_));refine x7 sW ?_;refine xu ?_;refine xz (xK ?_);refine xC (pl (H.no _) (hu _) oM _) fun v t hv=>?_;obtain⟨L1,m1,rfl,rfl,h1,f1⟩:=hv;have g1:=(f1 n _ (xG _ _ _) rfl).1;have h0:InR (R+1) (.ofNat 0):=inR (by have:=h1.R0;omega)
  refine xu ?_;refine xz (xK ?_);refine xC (vm H h1 oM (e2:=false) (.data hjn) (inR (zV R)) h0 h0 (by simp) (fun h=>by cases h) _) fun v t hv=>?_
  obtain⟨L2,n2,m2,R2,B2,rfl,q1,q2,q3,h2,f2,_⟩:=hv;refine xu ?_;refine xB ?_;refine xu ?_;refine xF ?_;exact⟨L2,n2,m2,R2,B2,rfl,oM,q2,oM,h2,(fu _).trans (f1.trans f2),R,rfl,oM⟩
end
theorem MsO.own{α:Type}{K:MK}{e:Bool}{op:List Int}{R B N u lo n7 m3 m7 oid:Nat}{L L7:List (Nat×Option AObj)}{out:List α}(h:MsO K e op R B N u L n)(hw:WfA L7 n7)(hu:u≤lo)(ho:out≠[]→lo≤oid∧∃cs x f,xD L oid=some (.row tI cs x f))(hf:∀j,j<n→(out≠[]→j≠oid)→xD L7 j=xD L j∧m7.testBit j=m3.testBit j):MsO K e op R B N u L7 n7∧∀L0 m0,Fr2 L0 m0 L m3→WfA L0 lo→Fr2 L0 m0 L7 m7:=by
 refine⟨h.up hw fun j hj=>?_,fun L0 m0 f hw0 j o hj he=>?_⟩
 ·by_cases hne:out≠[]∧j=oid
  ·obtain⟨h1,rfl⟩:=hne;obtain⟨h2,cs,x,f,h3⟩:=ho h1;exact .inr ⟨_,h3,rfl,.inr oM⟩
  ·exact .inl (hf j hj fun h1 h2=>hne ⟨h1,h2⟩).1
 ·obtain⟨h1,h2⟩:=f j o hj he;have:=hf j (h.wf.lt h1) fun h3 h4=>by have:=(ho h3).1;have:=hw0.lt hj;omega
  exact⟨this.1.trans h1,this.2.trans h2⟩
def okA(k:Nat):List (Nat×Option AObj)→Nat→Nat→AV→Prop:=fun L R _ v=>∃id l,v=gSl 1 id l.length∧l.length=k∧(∀r∈l,InR R r)∧(l≠[]→xD L id=some (.row 3 (xA xL l) true false))
section
variable {O:Orc}(H:IsO O){K:MK}{e:Bool}{op:List Int}{R B N u:Nat}{L:List (Nat×Option AObj)}{n:Nat}
include H
attribute [local go_sem] wD ww ltF gtF xI xH ziS ziW ziV ziQ xW in
theorem pK{az:List Atm}(h:MsO K e op R B N u L n)(hN:N<70000000)(hu:u≤n)(hl:az.length≤40)(ha:∀a∈az,AtO K.nc a)(m:Nat):Cv ((evW env O).call 53 [.ptr K.mp 0,.lst az.length false (xA qp az)] (KL L n m false [] none)) (MsQ K false op R B (N+80) (some u) L n m (okA az.length)):=by
 refine xO (F:=f53) (H.no _) rfl rfl (ziF rfl) ?_;unfold f53 cF;simp only;refine xB ?_;refine xB ?_;refine xz (xz (xu ?_));refine xE ?_;refine xU (fun i:Nat=>az.length-i) (fun i f t=>∃T L2 n2 m2 R2 B2 oid out,f=⟨tmL T,[]⟩∧t=KL L2 n2 m2 false [] none∧(tmL T).get 0=some (.ptr K.mp 0)∧(tmL T).get 5=some (gSl 1 oid out.length)∧(tmL T).get 8=some (.lst az.length false (xA qp az))∧(tmL T).get 9=some (.int .i64 (.ofNat az.length))∧(tmL T).get 10=some (.int .i64 (.ofNat i))∧i≤az.length∧out.length=i∧R≤R2∧B≤B2∧n≤n2∧MsO K false op R2 B2 (N+2*i) u L2 n2∧Fr2 L m L2 m2∧(∀r∈out,InR R2 r)∧(out≠[]→n≤oid∧xD L2 oid=some (.row 3 (xA xL out) true false))) (fun i f t hI=>?_) 0 ⟨_,L,n,_,R,B,0,[],rfl,rfl,sW,by simp (disch:=first|exact dis|fail)only[go_sem,seval,-rO,-rN,gSl],sW,sW,sW,zK _,rfl,zo _,zo _,zo _,h.weak (zo _),Fr2.refl _ _,(fun _ h=>by cases h),fun h=>absurd rfl h⟩
 have hw0:=h.wf;clear h;obtain⟨T,L2,n2,m2,R2,B2,oid,out,rfl,rfl,t0,t5,t8,t9,t10,hi,rfl,hR,hB,hn,h2,f2,hr,hg⟩:=hI;rcases xQ az out.length with ⟨hlt,hd⟩|⟨a,hlt,hd⟩
 ·have hni:¬out.length<az.length:=oM;clear hd;refine xu ?_;refine xu ?_;refine xF ?_;exact⟨L2,n2,_,R2,B2,rfl,hR,hB,hn,h2.weak oM,f2,oid,out,rfl,oM,hr,fun hne=>(hg hne).2⟩
 ·have hc:=zzN hd;have hat:=ha a (zi2 (by rw[hd];exact zi9))
  have hlc:=lQ a;have hw2:=h2.wf;have hup:=fun o o2=>h2.up (L2:=(n2,o)::(n2,o2)::L2) (n2:=n2+1) (((hw2.up (zhi _)).same (zV _)).same (zV _)) (Oth.same fun j hj=>by rw[xr,if_neg oM,xr,if_neg oM])
  have fup:=fun o o2=>Fr2.newm (m:=m2) (m2:=m2|||1<<<n2) hw2 (L2:=(n2,o)::(n2,o2)::L2) (fun j hj=>by rw[xr,if_neg oM,xr,if_neg oM]) fun j hj=>qn oM
  have hat2:=fun o o2 m=>zxk H (hup o o2) oM hat m;obtain⟨ak,an⟩:=a;simp only[qp]at hc hat2;clear hd hlc;refine xB ?_;refine xz (x4 sW ?_);refine xu ?_;refine xz (xE ?_);refine xB ?_;refine xK ?_;refine xC (hat2 _ _ _) fun v t hv=>?_;obtain⟨L3,n3,m3,R3,B3,rfl,q1,q2,q3,h3,f3,r,rfl,hr3⟩:=hv;have f4:=f2.trans ((fup _ _).trans f3);have hw3:=h3.wf;have hg3:out≠[]→n≤oid∧xD L3 oid=some (.row 3 (xA xL out) true false):=fun hne=>by
   obtain⟨g1,g2⟩:=hg hne;exact⟨g1,(f3 _ _ (fup _ _ _ _ g2 rfl).1 rfl).1⟩
  clear hat2 hup fup hg hw2 hc;refine xK ?_;refine xC (ztE (bytes:=8) (f:=xL) (id:=oid) (vs:=out) (w:=.ofNat r) qy uZ oM (fun hne=>?_) ?_ rfl ?_ oM oM) fun v t hv=>?_
  ·have:=hw3.lt (hg3 hne).2;exact⟨oM,by rw[xr,if_neg oM];exact(hg3 hne).2⟩
  ·exact(hw3.up (zhi _)).same (zV _)
  ·exact(jH (j:=0) (by rw[x5,xG];rfl) rfl).2
  obtain⟨L7,m7,rfl,rfl,g7,hw7,hf7⟩:=hv;have hcat:=jN out (zA r);obtain⟨h7,f7⟩:=h3.own (lo:=n) (m3:=m3) hw7 hu (fun hne=>⟨(hg3 hne).1,_,_,_,(hg3 hne).2⟩) fun j hj hne=>by
   have:=hf7 j oM hne;rw[xr,if_neg oM]at this;exact this
  have f8:=f7 _ _ f4 hw0;rw[hcat];clear hf7 hg3 f7 hw3;refine xu ?_;refine xu ?_;exact⟨out.length+1,⟨_,L7,n3+1+1,_,R3,B3,n3+1,out++[.ofNat r],rfl,rfl,sV,sV,sV,sV,sV,oM,hcat,oM,oM,oM,h7.weak oM,f8,fun x hx=>(List.mem_append.1 hx).elim (fun h=>(hr x h).mono oM) fun h=>by rw[List.mem_singleton.1 h];exact inR hr3,fun _=>⟨oM,g7⟩⟩,oM⟩
end
theorem ziy(a b:Nat):vMn true [.int .i64 (.ofNat a),.int .i64 (.ofNat b)]=some (.int .i64 (.ofNat (max a b))):=by
 have:ltI (.ofNat a) (.ofNat b)=ze a b:=rfl;by_cases h:a<b
 ·simp only[vMn,Wg,this,wi.2 h,cond_true];rw[Nat.max_eq_right oM]
 ·have h2:ze a b=false:=by cases hb:ze a b with
   |false=>rfl
   |true=>exact absurd (wi.1 hb) h
  simp only[vMn,Wg,this,h2,cond_true,cond_false];rw[Nat.max_eq_left oM]
theorem zia(a b:Nat):vMn false [.int .i64 (.ofNat a),.int .i64 (.ofNat b)]=some (.int .i64 (.ofNat (min a b))):=by
 have:ltI (.ofNat b) (.ofNat a)=ze b a:=rfl;by_cases h:b<a
 ·simp only[vMn,Wg,this,wi.2 h,cond_true,cond_false];rw[Nat.min_eq_right oM]
 ·have h2:ze b a=false:=by cases hb:ze b a with
   |false=>rfl
   |true=>exact absurd (wi.1 hb) h
  simp only[vMn,Wg,this,h2,cond_false];rw[Nat.min_eq_left oM]
structure IlV(L:List (Nat×Option AObj))(v:AV)(l:List Int)(id off:Nat):Prop where
 cl:v.cells=[v]
 len:∀s,QD s .v v=some (.int .i64 (.ofNat l.length))
 ia:∀i,i<l.length→vIa 1 v (.int .i64 (.ofNat i))=some (.ptr id (off+i))
 row:l≠[]→∃cs x f,xD L id=some (.row 3 cs x f)∧∀i a r,l.drop i=a::r→xV 1 (wl (off+i) cs)=some [.int .i64 a]
theorem IlV.fr{L L2:List (Nat×Option AObj)}{m m2 off:Nat}{l:List Int}(h:IlV L v l id off)(f:Fr2 L m L2 m2):IlV L2 v l id off:=
 ⟨h.cl,h.len,h.ia,fun hne=>by obtain⟨cs,x,g,h1,h2⟩:=h.row hne;exact⟨cs,x,g,(f _ _ h1 rfl).1,h2⟩⟩
theorem IlV.of{L:List (Nat×Option AObj)}{l:List Int}{x f:Bool}(h:l≠[]→xD L id=some (.row 3 (xA xL l) x f)):IlV L (gSl 1 id l.length) l id 0:=
 ⟨wD 1 id _,fun s=>ww s 1 id _,fun i hi=>by rw[X1 hi,Nat.mul_one,yC],fun hne=>⟨_,_,_,h hne,fun i a r hd=>by rw[yC];exact jx hd⟩⟩
theorem IlV.lit{L:List (Nat×Option AObj)}{l:List Int}{c:Cap}{x f:Bool}(h:xD L id=some (.row 3 (xA xL l) x f)):IlV L (.sl id 0 l.length c) l id 0:=
 ⟨rfl,fun _=>rfl,fun i hi=>by simp only[vIa,Uq .i64 hi,yC];simp,fun _=>⟨_,_,_,h,fun i a r hd=>by rw[yC];exact jx hd⟩⟩
section
variable {O:Orc}(H:IsO O){K:MK}{e:Bool}{op:List Int}{R B N u:Nat}{L:List (Nat×Option AObj)}{n:Nat}
include H
attribute [local go_sem] ziy xI xH ziS ziW ziV ziQ xW ltF gtF in
theorem ZQ{d k off:Nat}{w:AV}{l:List Int}(h:MsO K e op R B N u L n)(hN:N<60000000)(hd:d<R)(hk:k<8)(hvw:IlV L w l id off)(hl:l.length≤40)(hr:∀x∈l,InR R x)(m:Nat):Cv ((evW env O).call 54 [.ptr K.mp 0,.int .i64 (.ofNat d),.int .i64 (.ofNat k),w] (KL L n m false [] none)) (MsQ K false op R B (N+100) (some u) L n m okU):=by
 refine xO (F:=f54) (H.no _) rfl rfl (ziF rfl) ?_;have hlen:=hvw.len;have hia:=hvw.ia;have hR0:=h.R0;obtain⟨z1,hz1⟩:∃z,qw .shl .i64 (.ofNat l.length) .u64 (.ofNat 5)=some (.int .i64 z):=⟨_,rfl⟩;obtain⟨z2,hz2⟩:∃z,qw .or .i64 z1 .i64 (.ofNat (4*k+3))=some (.int .i64 z):=⟨_,rfl⟩;unfold f54 cF;simp only;refine xz (xK ?_);refine xC (zxK H hk _ _) fun v t hv=>?_;obtain⟨rfl,rfl⟩:=hv;refine xK ?_;refine xC (pT H h oM _) fun v t hv=>?_;obtain⟨L1,n1,m1,R1,B1,rfl,a1,b1,c1,h1,f1,r1,rfl,g1⟩:=hv;have i0:∀R',R≤R'→InR R' (.ofNat 0):=fun R' h=>inR oM;have i26:∀R',R≤R'→InR R' (.ofNat 26):=fun R' h=>inR oM;have z0:zA 0< .ofNat 32768:=by decide
 refine xu ?_;refine xz (xK ?_);refine xC (vm H h1 oM (e2:=false) (.off (by simp) (Int.le_refl _) z0) (i0 _ a1) (i26 _ a1) (inR g1) (by simp) (fun h=>by cases h) _) fun v t hv=>?_
 obtain⟨L2,n2,m2,R2,B2,rfl,a2,b2,c2,h2,f2,_⟩:=hv;clear hz1 hz2 h1;refine xu ?_;refine xz (xz (xu ?_));refine xE ?_;refine xU (fun i:Nat=>l.length-i) (fun i f t=>∃T L3 n3 m3 R3 B3,f=⟨tmL T,[]⟩∧t=KL L3 n3 m3 false [] none∧(tmL T).get 0=some (.ptr K.mp 0)∧(tmL T).get 1=some (.int .i64 (.ofNat d))∧(tmL T).get 3=some w∧(tmL T).get 24=some w∧(tmL T).get 25=some (.int .i64 (.ofNat l.length))∧(tmL T).get 26=some (.int .i64 (.ofNat i))∧i≤l.length∧R≤R3∧B≤B3∧n≤n3∧MsO K false op R3 B3 (N+3+i) u L3 n3∧Fr2 L m L3 m3) (fun i f t hI=>?_) 0 ⟨_,L2,n2,_,R2,B2,rfl,rfl,sW,sW,sW,sW,sW,sW,zK _,oM,oM,oM,h2,f1.trans f2⟩;clear h2 f1 f2 g1 h;obtain⟨T,L3,n3,m3,R3,B3,rfl,rfl,t0,t1,t3,t24,t25,t26,hi,hR,hB,hn,h3,f3⟩:=hI;rcases xQ l i with ⟨hlt,hd2⟩|⟨a,hlt,hd2⟩
 ·have hni:¬i<l.length:=oM;clear hd2 hia;refine xu ?_;refine xz (xK ?_);refine xC (jR H h3 oM (a:=26) (.inr (.inr ⟨by simp,rfl⟩)) oM _) fun v t hv=>?_
  obtain⟨L4,n4,m4,R4,B4,rfl,a4,b4,c4,h4,f4,r4,rfl,g4⟩:=hv;refine xu ?_;refine xz (xK ?_);refine xC (vm H h4 oM (e2:=false) (.msk (by simp) (by decide) (by decide)) (inR (show d<R4 by omega)) (inR g4) (i0 _ oM) (by simp) (fun h=>by cases h) _) fun v t hv=>?_
  obtain⟨L5,n5,m5,R5,B5,rfl,a5,b5,c5,h5,f5,_⟩:=hv;refine xu ?_;refine xz (xK ?_);refine xC (vm H h5 oM (e2:=false) (.off (by simp) (Int.ofNat_le.2 (zK (1+l.length))) (Int.ofNat_lt.2 oM)) (i26 _ oM) (i26 _ oM) (i0 _ oM) (by simp) (fun h=>by cases h) _) fun v t hv=>?_
  obtain⟨L6,n6,m6,R6,B6,rfl,a6,b6,c6,h6,f6,_⟩:=hv;have f7:=f3.trans (f4.trans (f5.trans f6));clear h3 h4 h5 f3 f4 f5 f6;obtain⟨is,rg,fl,wd,nd,bid,h6⟩:=h6;have gm:=h6.gm;have q1:=h6.nl;have q2:=h6.nR;have q3:=h6.nw;have q4:=h6.nn;have q5:=h6.ni
  simp only[uh]at gm;refine xu ?_;refine xB ?_;refine xu ?_;refine xF ?_;obtain⟨h7,f8⟩:=h6.row (R2:=R6) (N2:=N+100) (nd2:=nd) (wd2:=wd+(1+l.length)) (lb2:=B6) (zo _) (zo _) h6.hlb oM;obtain⟨h8,f9⟩:=h7.row (R2:=R6) (N2:=N+100) (nd2:=max nd (wd+(1+l.length))) (wd2:=wd+(1+l.length)) (lb2:=B6) (zo _) (zo _) h6.hlb oM;refine⟨_,n6,_,R6,B6,rfl,oM,oM,oM,⟨is,rg,fl,_,_,bid,h8⟩,f7.trans ((f8 _ _).trans (f9 _ _)),trivial⟩
 ·obtain⟨cs,x,g,hg,hcs⟩:=(hvw.fr f3).row fun e=>by rw[e]at hlt;simp at hlt
  have hc:=hcs i a _ hd2;have hia2:=hia i hlt;obtain⟨ra,rfl,hra⟩:=hr a (zi2 (by rw[hd2];exact zi9))
  clear hd2 hia hcs;refine xB ?_;refine xz (x4 sW ?_);refine xu ?_;refine xz (xE ?_);refine xB ?_;refine xK ?_;refine xC (vm H h3 oM (e2:=false) (.off (by simp) (Int.ofNat_le.2 (zK (1+i))) (Int.ofNat_lt.2 oM)) (i0 _ hR) (i26 _ hR) (inR (show ra<R3 by omega)) (by simp) (fun h=>by cases h) _) fun v t hv=>?_
  obtain⟨L4,n4,m4,R4,B4,rfl,a4,b4,c4,h4,f4,_⟩:=hv;refine xu ?_;refine xu ?_;exact⟨i+1,⟨_,L4,n4,_,R4,B4,rfl,rfl,sV,sV,sV,sV,sV,sV,oM,oM,oM,oM,h4,f3.trans f4⟩,oM⟩
end
theorem KW:∀k a,kY (k+1) a=kY k a++[.ofNat (a+k)]
 |0,a=>rfl
 |k+1,a=>by
  have:=KW k (a+1);rw[kY,this,kY,zG,show a+1+k=a+(k+1) by omega]
theorem j6:∀k a,(kY k a).length=k
 |0,_=>rfl
 |k+1,a=>by simp only[kY,zU,j6 k]
theorem zwq{R:Nat}:∀k a,a+k≤R→∀x∈kY k a,InR R x
 |0,_,_,x,h=>by cases h
 |k+1,a,hR,x,h=>by
  simp only[kY,ziU]at h;rcases h with rfl|h
  ·exact inR oM
  ·exact zwq k (a+1) oM x h
theorem QV(id k:Nat):usV id false k=gSl 1 id k:=by cases k<;>rfl
section
variable {O:Orc}(H:IsO O){K:MK}{e:Bool}{op:List Int}{R B N u:Nat}{L:List (Nat×Option AObj)}{n:Nat}
include H
theorem QP{ul:List Int}{q d i l:Int}{e2:Bool}(h:MsO K e op R B N u L n)(hN:N<100000000)(hx:OpOk K.nf K.nc B q d i l ul)(hd:InR R d)(hu:ul.length≤100∧∀x∈ul,InR R x)(hg:ul≠[]→∃xt,xD L id=some (.row 3 (xA xL ul) xt false))(h65:q≠.ofNat 65)(he:e2=true→q=.ofNat 68∨q=.ofNat 72){fx:Bool}(m:Nat):Cv ((evW env O).call 34 [.ptr K.mp 0,.agg [.int .i64 q,.int .i64 d,.int .i64 (.ofNat 0),.int .i64 (.ofNat 0),.int .i64 i,.int .i64 l,usV id fx ul.length,.nils]] (KL L n m false [] none)) (MsQ K e2 op R B (N+1) none L n m okU):=by
 have h0:InR R (.ofNat 0):=inR (by have:=h.R0;omega)
 refine(zyT H h.top hN ⟨q,d,.ofNat 0,.ofNat 0,i,l,id,fx,ul⟩ (op2:=op) (e2:=e2) ⟨hx,hd,h0,h0,hu⟩ hg (fun hne=>by obtain⟨_,g⟩:=hg hne;exact h.wf.lt g) (by simp only[Z1,if_neg h65,ziZ]) he m).mono fun v t hv=>?_
 obtain⟨L1,n1,m1,R1,B1,rfl,q1,q2,q3,h1,f1,_⟩:=hv;exact⟨L1,n1,m1,R1,B1,rfl,q1,q2,q3,h1.top,f1,trivial⟩
attribute [local go_sem] wD ww ltF gtF xI xH ziS ziW ziV ziQ xW in
theorem UL{d off:Nat}{i0:Int}{w:AV}{l:List Int}(h:MsO K e op R B N u L n)(hN:N<60000000)(hd:d<R)(hp:uQ i0=.ofNat l.length)(hvw:IlV L w l id off)(hl:l.length≤4)(hr:∀x∈l,InR R x)(m:Nat):Cv ((evW env O).call 103 [.ptr K.mp 0,.int .i64 (.ofNat d),.int .i64 i0,w] (KL L n m false [] none)) (MsQ K false op R B (N+10) none L n m okU):=by
 refine xO (F:=f103) (H.no _) rfl rfl (ziF rfl) ?_;have hlen:=hvw.len;have hia:=hvw.ia;have hR0:=h.R0;have hw0:=h.wf;unfold f103 cF;simp only;refine xB ?_;refine xz (xz (xu ?_));refine xE ?_;refine xU (fun i:Nat=>l.length-i) (fun i f t=>∃T L3 n3 m3 R3 B3 oid,f=⟨tmL T,[]⟩∧t=KL L3 n3 m3 false [] none∧(tmL T).get 0=some (.ptr K.mp 0)∧(tmL T).get 1=some (.int .i64 (.ofNat d))∧(tmL T).get 2=some (.int .i64 i0)∧(tmL T).get 8=some (gSl 1 oid i)∧(tmL T).get 11=some w∧(tmL T).get 12=some (.int .i64 (.ofNat l.length))∧(tmL T).get 13=some (.int .i64 (.ofNat i))∧i≤l.length∧R≤R3∧B≤B3∧n≤n3∧MsO K false op R3 B3 (N+i) n L3 n3∧Fr2 L m L3 m3∧(kY i 4≠[]→n≤oid∧xD L3 oid=some (.row 3 (xA xL (kY i 4)) true false))) (fun i f t hI=>?_) 0 ⟨_,L,n,_,R,B,0,rfl,rfl,sW,sW,sW,by simp (disch:=first|exact dis|fail)only[go_sem,seval,-rO,-rN,gSl],sW,sW,sW,zK _,zo _,zo _,zo _,h.top.weak (zo _),Fr2.refl _ _,fun h=>absurd rfl h⟩
 clear h;obtain⟨T,L3,n3,m3,R3,B3,oid,rfl,rfl,t0,t1,t2,t8,t11,t12,t13,hi,hR,hB,hn,h3,f3,hg⟩:=hI;rcases xQ l i with ⟨hlt,hd2⟩|⟨a,hlt,hd2⟩
 ·have hni:¬i<l.length:=oM;have hil:i=l.length:=oM;subst hil;have hsc:=jj 1 oid l.length;have hpu:=fun m=>QP H h3 oM (e2:=false) (q:=.ofNat 67) (d:=.ofNat 4) (i:=i0) (l:=.ofNat 0) (fx:=false) (id:=oid) (ul:=kY l.length 4) (.call hp) (inR oM) ⟨by rw[j6];omega,zwq _ _ oM⟩ (fun hne=>⟨_,(hg hne).2⟩) (by simp) (fun h=>by cases h) m
  simp only[j6,QV]at hpu;simp only[q8]at hsc;clear hd2 hia hg;refine xu ?_;refine xz (xK ?_);refine xC (hpu _) fun v t hv=>?_;obtain⟨L4,n4,m4,R4,B4,rfl,a4,b4,c4,h4,f4,_⟩:=hv;clear hpu;refine xu ?_;refine xK ?_;refine xC (uy H h4 oM (show d<R4 by omega) (show 4<R4 by omega) _) fun v t hv=>?_
  obtain⟨L5,n5,m5,R5,B5,rfl,a5,b5,c5,h5,f5,_⟩:=hv;refine xu ?_;refine xF ?_;exact⟨L5,n5,m5,R5,B5,rfl,oM,oM,oM,h5.top.weak oM,f3.trans (f4.trans f5),trivial⟩
 ·obtain⟨cs,x,g,hgc,hcs⟩:=(hvw.fr f3).row fun e=>by rw[e]at hlt;simp at hlt
  have hc:=hcs i a _ hd2;have hia2:=hia i hlt;obtain⟨ra,rfl,hra⟩:=hr a (zi2 (by rw[hd2];exact zi9))
  clear hd2 hia hcs;refine xB ?_;refine xz (x4 sW ?_);refine xu ?_;refine xz (xE ?_);refine xB ?_;refine xz (xK ?_);refine xC (uy H h3 oM (show 4+i<R3 by omega) (show ra<R3 by omega) _) fun v t hv=>?_
  obtain⟨L4,n4,m4,R4,B4,rfl,a4,b4,c4,h4,f4,_⟩:=hv;have hg4:kY i 4≠[]→n≤oid∧xD L4 oid=some (.row 3 (xA xL (kY i 4)) true false):=fun hne=>⟨(hg hne).1,(f4 _ _ (hg hne).2 rfl).1⟩;have hw4:=h4.wf;have hap:=fun m=>ztE (t:=3) (bytes:=8) (f:=xL) (id:=oid) (m:=m) (vs:=kY i 4) (w:=.ofNat (4+i)) (y:=.sl n4 0 1 (.fix 1)) (L:=(n4,some (.row 3 [.int .i64 (.ofNat (4+i))] false false))::L4) (n:=n4+1) qy uZ oM (fun hne=>by
   have:=hw4.lt (hg4 hne).2;exact⟨oM,by rw[xr,if_neg oM];exact(hg4 hne).2⟩) ((hw4.up (zhi _)).same (zV _)) rfl (jH (j:=0) (by rw[x5,xG];rfl) rfl).2 (by rw[j6];omega) (by rw[j6];omega)
  simp only[j6,←KW]at hap;clear hg hc;refine xu ?_;refine xK ?_;refine xC (hap _) fun v t hv=>?_;obtain⟨L7,m7,rfl,rfl,g7,hw7,hf7⟩:=hv;obtain⟨h7,f7⟩:=h4.own (lo:=n) (m3:=m4) hw7 (zo _) (fun hne=>⟨(hg4 hne).1,_,_,_,(hg4 hne).2⟩) fun j hj hne=>by
   have:=hf7 j oM hne;rw[xr,if_neg oM]at this;exact this
  have f8:=f7 _ _ (f3.trans f4) hw0;clear hf7 hg4 f7 hw4 hap;refine xu ?_;refine xu ?_;exact⟨i+1,⟨_,L7,n4+1+1,_,R4,B4,n4+1,rfl,rfl,sV,sV,sV,sV,sV,sV,sV,oM,oM,oM,oM,h7.weak oM,f8,fun _=>⟨oM,g7⟩⟩,oM⟩
end
theorem pG{m j:Nat}(h:m.testBit j=Nat.testBit 0 j)(n:Nat):m%2^n/2^j%2=0:=by
 have:(m%2^n).testBit j=false:=by rw[Nat.testBit_mod_two_pow,h,zhm,Bool.and_false]
 rw[Nat.testBit_eq_decide_div_mod_eq]at this;have h2:=of_decide_eq_false this;have:=Nat.mod_lt (m%2^n/2^j) (show 0<2 by decide)
 omega
theorem zyw{a b j:Nat}(h:j<a):hid (bif decide (a=b)then []else [(a,b)]) j=false:=by
 by_cases e:a=b
 ·rw[decide_eq_true e];rfl
 ·rw[decide_eq_false e];have:Nat.ble a j=false:=by cases hb:Nat.ble a j with
   |false=>rfl
   |true=>exact absurd (xR.1 hb) oM
  simp only[cond_false,hid,this]
theorem Fr2.or{L L1 L2:List (Nat×Option AObj)}{m m1 m2:Nat}(h:Fr2 L m L1 m1)(g:Fr2 L1 0 L2 m2):Fr2 L m L2 (m1|||m2):=fun j o h1 h2=>
 have ⟨q1,q2⟩:=h j o h1 h2;have ⟨q3,q4⟩:=g j o q1 h2
 ⟨q3,by rw[Nat.testBit_or,q2,q4,zhm,Bool.or_false]⟩
def zty(O:Orc)(K:MK)(op op2:List Int)(R N c u l:Nat)(L:List (Nat×Option AObj))(m f:Nat)(caps:List AV):Prop:=∀L1 n1 m1 R1 B1,R≤R1→l<B1→MsO K false op R1 B1 N u L1 n1→Fr2 L m L1 m1→Cv ((evW env O).call f (.int .i64 (.ofNat l)::caps) (KL L1 n1 m1 false [] none)) (MsQ K false op2 R1 B1 (N+c) (some u) L1 n1 m1 okU)
section
variable {O:Orc}(H:IsO O){K:MK}{e:Bool}{op:List Int}{R B N u:Nat}{L:List (Nat×Option AObj)}{n:Nat}
include H
attribute [local go_sem] ltF gtF xI xH ziS ziW ziV ziQ xW in
theorem Zu{d c f:Nat}{op2:List Int}{caps:List AV}(h:MsO K e op R B N u L n)(hN:N+c<60000000)(hd:d<R)(m:Nat)(ht:zty O K (.ofNat B::op) (.ofNat B::op2) R (N+2) c u B L m f caps):Cv ((evW env O).call 90 [.ptr K.mp 0,.int .i64 (.ofNat d),.fn f [] caps] (KL L n m false [] none)) (MsQ K false op2 R B (N+c+4) (some u) L n m okU):=by
 refine xO (F:=f90) (H.no _) rfl rfl (ziF rfl) ?_;unfold f90 cF;simp only;refine xz (xK ?_);refine xC (Xl (H.no _) h oM _) fun v t hv=>?_;obtain⟨L1,m1,rfl,rfl,h1,f1⟩:=hv;refine xu ?_;refine xz (xK ?_);refine xC (jp H h1 oM hd _) fun v t hv=>?_;obtain⟨L2,n2,m2,R2,B2,rfl,a2,b2,c2,h2,f2,_⟩:=hv;refine xu ?_;refine xz (xK ?_);refine xC (ht L2 n2 m2 R2 B2 a2 oM h2 (f1.trans f2)) fun v t hv=>?_;obtain⟨L3,n3,m3,R3,B3,rfl,a3,b3,c3,h3,f3,_⟩:=hv;refine xu ?_;refine xz (xK ?_);refine xC (jp H h3 oM (show d<R3 by omega) _) fun v t hv=>?_
 obtain⟨L4,n4,m4,R4,B4,rfl,a4,b4,c4,h4,f4,_⟩:=hv;refine xu ?_;refine xK ?_;refine xC (Xh H h4 oM _) fun v t hv=>?_;obtain⟨L5,n5,m5,R5,B5,rfl,a5,b5,c5,h5,f5,_⟩:=hv;refine xu ?_;refine xF ?_;exact⟨L5,n5,m5,R5,B5,rfl,oM,oM,oM,h5.weak oM,f1.trans (f2.trans (f3.trans (f4.trans f5))),trivial⟩
attribute [local go_sem] ltF gtF xI xH ziS ziW ziV ziQ xW in
theorem LO{v0 l y b1 b2 b3:Nat}(g1:xD L b1=some (.row 71 [.ptr K.mp 0] false false))(g2:xD L b2=some (.row 3 [.int .i64 (.ofNat v0)] false false))(g3:xD L b3=some (.row 3 [.int .i64 (.ofNat y)] false false))(h:MsO K e (.ofNat l::.ofNat y::op) R B N u L n)(hN:N<60000000)(hv:v0<R)(m:Nat):Cv ((evW env O).call 131 [.int .i64 (.ofNat l),.ptr b1 0,.ptr b2 0,.ptr b3 0] (KL L n m false [] none)) (MsQ K false (.ofNat l::op) R B (N+20) (some u) L n m okU):=by
 refine xO (F:=f131) (H.no _) rfl rfl (ziF rfl) ?_;have n1:=h.wf.lt g1;have n2:=h.wf.lt g2;have n3:=h.wf.lt g3
 unfold f131 cF;simp only;refine xz (xK ?_);refine wh (jR H h oM (.inr (.inl ⟨by simp,by decide,by decide⟩)) hv _) fun v t hv=>?_
 obtain⟨L1,n1',m1,R1,B1,rfl,a1,b1',c1,h1,f1,r1,rfl,hr1⟩:=hv;have p1:=f1 _ _ g1 rfl;have p2:=f1 _ _ g2 rfl;have p3:=f1 _ _ g3 rfl;have hyB:=h.ltn (k:=y) (by simp)
 have e1:=pG p1.2;have e3:=pG p3.2;have hh:=fun j (hj:j<n)=>zyw (b:=n1') hj;replace p1:=p1.1;replace p2:=p2.1;replace p3:=p3.1;refine xK ?_;refine wh (uu H h1 oM (q:=.ofNat 26) (by simp) hr1 (show 0<R1 by have:=h1.R0;omega) (show y<B1 by omega) _) fun v t hv=>?_
 obtain⟨L2,n2',m2,R2,B2,rfl,a2,b2',c2,h2,f2,_⟩:=hv;have s1:=(f2 _ _ p1 rfl).1;have s2:=(f2 _ _ p2 rfl).1;have s3:=(f2 _ _ p3 rfl).1;clear p1 p2 p3 g1 g2 g3 e1 e3 hh;refine xu ?_;refine xz (xK ?_);refine xC (jJ H h2 oM (show v0<R2 by omega) (show 7<8 by omega) (h2.ltn (k:=l) (by simp)) _) fun v t hv=>?_
 obtain⟨L3,n3',m3,R3,B3,rfl,a3,b3',c3,h3,f3,_⟩:=hv;have u1:=(f3 _ _ s1 rfl).1;have u3:=(f3 _ _ s3 rfl).1;clear s1 s2 s3;refine xu ?_;refine xK ?_;refine xC (Xh H (h3.perm (ziD _ _ _)) oM _) fun v t hv=>?_;obtain⟨L4,n4',m4,R4,B4,rfl,a4,b4',c4,h4,f4,_⟩:=hv;refine xu ?_;refine xF ?_;exact⟨L4,n4',m4,R4,B4,rfl,oM,oM,oM,h4.weak oM,(((Fr2.refl L m).or f1).or f2).trans (f3.trans f4),trivial⟩
attribute [local go_sem] ltF gtF xI xH ziS ziW ziV ziQ xW in
theorem zyx{d v0:Nat}(h:MsO K e op R B N u L n)(hN:N<50000000)(hd:d<R)(hv:v0<R)(m:Nat):Cv ((evW env O).call 92 [.ptr K.mp 0,.int .i64 (.ofNat d),.int .i64 (.ofNat v0)] (KL L n m false [] none)) (MsQ K false op R B (N+30) (some u) L n m okU):=by
 refine xO (F:=f92) (H.no _) rfl rfl (ziF rfl) ?_;have hw:=h.wf;unfold f92 cF;simp only;refine xB ?_;have h0:=fun o1 o2=>h.up (L2:=(n+1,o2)::(n,o1)::L) (n2:=n+1+1) (((hw.up oM).same oM).same oM) (Oth.same fun j hj=>by (repeat rw[xr,if_neg oM]))
 have f0:=fun o1 o2=>Fr2.new (m:=m) hw (L2:=(n+1,o2)::(n,o1)::L) fun j hj=>by (repeat rw[xr,if_neg oM])
 refine xz (xK ?_);refine xC (Xl (H.no _) (h0 _ _) oM _) fun v t hv=>?_;obtain⟨L1,m1,rfl,rfl,h1,f1⟩:=hv;have g1:=(f1 n _ (by rw[xr,if_neg oM,xG]) rfl).1
 have g2:=(f1 (n+1) _ (xG _ _ _) rfl).1;have hw1:=h1.wf;refine xu ?_;have h2:=fun o1 o2=>h1.up (L2:=(n+1+1,o2)::(n+1+1,o1)::L1) (n2:=n+1+1+1) (((hw1.up oM).same oM).same oM) (Oth.same fun j hj=>by (repeat rw[xr,if_neg oM]))
 have f2:=fun o1 o2=>Fr2.newm (m:=m1) (m2:=m1|||1<<<(n+1+1)) hw1 (L2:=(n+1+1,o2)::(n+1+1,o1)::L1) (fun j hj=>by (repeat rw[xr,if_neg oM])) fun j hj=>qn oM
 refine xK ?_;refine xC (Zu H (c:=20) (h2 _ _) oM hd _ (op2:=op) fun L3 n3 m3 R3 B3 hR hB h3 f3=>?_) fun v t hv=>?_
 ·have k1:=(f3 n _ (by (repeat rw[xr,if_neg oM]);exact g1) rfl).1
  have k2:=(f3 (n+1) _ (by (repeat rw[xr,if_neg oM]);exact g2) rfl).1
  have k3:=(f3 (n+1+1) _ (xG _ _ _) rfl).1;exact LO H k1 k2 k3 h3 oM oM _
 obtain⟨L4,n4,m4,R4,B4,rfl,a4,b4,c4,h4,f4,_⟩:=hv;refine xu ?_;refine xF ?_;exact⟨L4,n4,m4,R4,B4,rfl,oM,oM,oM,h4.weak oM,(f0 _ _).trans (f1.trans ((f2 _ _).trans f4)),trivial⟩
end
theorem IlV.one{L:List (Nat×Option AObj)}{w:AV}{x:Int}{l:List Int}{off:Nat}(h:IlV L w (x::l) id off):vIa 1 w (.int .i64 (.ofNat 0))=some (.ptr id off)∧∃cs t f,xD L id=some (.row 3 cs t f)∧xV 1 (wl off cs)=some [.int .i64 x]:=by
 obtain⟨cs,t,f,h1,h2⟩:=h.row (by simp)
 exact⟨h.ia 0 (by simp),cs,t,f,h1,h2 0 x l rfl⟩
theorem IlV.two{L:List (Nat×Option AObj)}{w:AV}{x y:Int}{l:List Int}{off:Nat}(h:IlV L w (x::y::l) id off):vIa 1 w (.int .i64 (.ofNat 0))=some (.ptr id off)∧vIa 1 w (.int .i64 (.ofNat 1))=some (.ptr id (off+1))∧∃cs t f,xD L id=some (.row 3 cs t f)∧xV 1 (wl off cs)=some [.int .i64 x]∧xV 1 (wl (off+1) cs)=some [.int .i64 y]:=by
 obtain⟨cs,t,f,h1,h2⟩:=h.row (by simp)
 exact⟨h.ia 0 (by simp),h.ia 1 (by simp),cs,t,f,h1,h2 0 x _ rfl,h2 1 y l rfl⟩
section
variable {O:Orc}(H:IsO O){K:MK}{e:Bool}{op:List Int}{R B N u:Nat}{L:List (Nat×Option AObj)}{n:Nat}
include H
attribute [local go_sem] ltF gtF xI xH ziS ziW ziV ziQ xW in
theorem zpG{d x y s off:Nat}{q:Int}{w:AV}{l:List Int}(h:MsO K e op R B N u L n)(hN:N<50000000)(hd:d<R)(hq:q=.ofNat 1∨q=.ofNat 2)(hvw:IlV L w (.ofNat x::.ofNat y::l) id off)(hx:x<R)(hy:y<R)(hs:s<B)(m:Nat):Cv ((evW env O).call 96 [.ptr K.mp 0,.int .i64 (.ofNat d),.int .i64 q,w,.int .i64 (.ofNat s)] (KL L n m false [] none)) (MsQ K false op R B (N+12) (some u) L n m okU):=by
 refine xO (F:=f96) (H.no _) rfl rfl (ziF rfl) ?_;have hq2:q∈[zA 1,.ofNat 2,.ofNat 7,.ofNat 8,.ofNat 9]:=by rcases hq with rfl|rfl<;>simp
 have hR0:=h.R0;unfold f96 cF;simp only;obtain⟨i0,i1,cs,t,f,g0,c0,c1⟩:=hvw.two;refine xz (xK ?_);refine wh (lG H h oM hq2 hx hy _) fun v t hv=>?_;obtain⟨L1,n1,m1,R1,B1,rfl,a1,b1,d1,h1,f1,r1,rfl,e1⟩:=hv;replace g0:=(f1 _ _ g0 rfl).1;refine xu ?_;refine xz (xK ?_);refine xC (lG H h1 oM (q:=.ofNat 9) (by simp) e1 (show x<R1 by omega) _) fun v t hv=>?_
 obtain⟨L2,n2,m2,R2,B2,rfl,a2,b2,d2,h2,f2,r2,rfl,e2⟩:=hv;replace g0:=(f2 _ _ g0 rfl).1;have f12:=((Fr2.refl L m).or f1).trans f2;clear h h1;refine xu ?_;refine lp (fun f t=>∃T L3 n3 m3 R3 B3 r3,f=⟨tmL T,[]⟩∧t=KL L3 n3 m3 false [] none∧(tmL T).get 0=some (.ptr K.mp 0)∧(tmL T).get 1=some (.int .i64 (.ofNat d))∧(tmL T).get 4=some (.int .i64 (.ofNat s))∧(tmL T).get 10=some (.int .i64 (.ofNat r1))∧(tmL T).get 11=some (.int .i64 (.ofNat r2))∧(tmL T).get 12=some (.int .i64 (.ofNat r3))∧r3<R3∧R2≤R3∧B2≤B3∧n2≤n3∧MsO K false op R3 B3 (N+6) u L3 n3∧Fr2 L m L3 m3) ?_ fun f t hI=>?_
 ·rcases hq with rfl|rfl
  ·refine xz (xu ?_);refine x4 sW ?_;refine xK ?_;refine xC (lG H h2 oM (q:=.ofNat 9) (by simp) (show r1<R2 by omega) (show y<R2 by omega) _) fun v t hv=>?_
   obtain⟨L3,n3,m3,R3,B3,rfl,a3,b3,d3,h3,f3,r3,rfl,e3⟩:=hv;refine xu ?_;exact⟨_,L3,n3,_,R3,B3,r3,rfl,rfl,sW,sW,sW,sW,sW,sW,e3,a3,b3,d3,h3,f12.trans f3⟩
  ·refine xz (xu ?_);refine x7 sW ?_;refine xK ?_;refine wh (lG H h2 oM (q:=.ofNat 9) (by simp) (show x<R2 by omega) (show y<R2 by omega) _) fun v t hv=>?_
   obtain⟨L3,n3,m3,R3,B3,rfl,a3,b3,d3,h3,f3,r3,rfl,e3⟩:=hv;refine xu ?_;exact⟨_,L3,n3,_,R3,B3,r3,rfl,rfl,sW,sW,sW,sW,sW,sW,e3,a3,b3,d3,h3,f12.or f3⟩
 ·clear h2 g0 f12 hvw;obtain⟨T,L3,n3,m3,R3,B3,r3,rfl,rfl,t0,t1,t4,t10,t11,t12,e3,a3,b3,d3,h3,f3⟩:=hI;refine xz (xK ?_);refine xC (lG H h3 oM (q:=.ofNat 7) (by simp) (show r2<R3 by omega) e3 _) fun v t hv=>?_
  obtain⟨L4,n4,m4,R4,B4,rfl,a4,b4,d4,h4,f4,r4,rfl,e4⟩:=hv;refine xK ?_;refine xC (uu H h4 oM (q:=.ofNat 28) (by simp) e4 (show 0<R4 by omega) (show s<B4 by omega) _) fun v t hv=>?_
  obtain⟨L5,n5,m5,R5,B5,rfl,a5,b5,d5,h5,f5,_⟩:=hv;refine xu ?_;refine xK ?_;refine xC (uy H h5 oM (show d<R5 by omega) (show r1<R5 by omega) _) fun v t hv=>?_
  obtain⟨L6,n6,m6,R6,B6,rfl,a6,b6,d6,h6,f6,_⟩:=hv;refine xu ?_;refine xF ?_;exact⟨L6,n6,m6,R6,B6,rfl,oM,oM,oM,h6.weak oM,f3.trans (f4.trans (f5.trans f6)),trivial⟩
end
section
variable {O:Orc}(H:IsO O){K:MK}{e:Bool}{op:List Int}{R B N u:Nat}{L:List (Nat×Option AObj)}{n:Nat}{b1 b2 b3 id off:Nat}{w:AV}{x y l:Nat}{r:List Int}
include H
attribute [local go_sem] ltF gtF xI xH ziS ziW ziV ziQ xW in
theorem Gs{q:Int}(g1:xD L b1=some (.row 71 [.ptr K.mp 0] false false))(g2:xD L b2=some (.row 3 [.int .i64 q] false false))(g3:xD L b3=some (.row 36 [w] false false))(hvw:IlV L w (.ofNat x::.ofNat y::r) id off)(h:MsO K e op R B N u L n)(hN:N<60000000)(hq:q∈[Int.ofNat 26,.ofNat 27,.ofNat 28,.ofNat 29])(hx:x<R)(hy:y<R)(hl:l<B)(m:Nat):Cv ((evW env O).call 134 [.int .i64 (.ofNat l),.ptr b1 0,.ptr b2 0,.ptr b3 0] (KL L n m false [] none)) (MsQ K false op R B (N+1) (some u) L n m okU):=by
 refine xO (F:=f134) (H.no _) rfl rfl (ziF rfl) ?_;obtain⟨i0,i1,cs,t,f,g0,c0,c1⟩:=hvw.two;unfold f134 cF;simp only;refine xK ?_;refine wh (uu H h oM hq hx hy hl _) fun v t hv=>?_;obtain⟨L1,n1,m1,R1,B1,rfl,a1,b1',d1,h1,f1,_⟩:=hv;refine xu ?_;refine xF ?_;exact⟨L1,n1,_,R1,B1,rfl,a1,b1',d1,h1,(Fr2.refl L m).or f1,trivial⟩
attribute [local go_sem] ltF gtF xI xH ziS ziW ziV ziQ xW in
theorem zq0(g1:xD L b1=some (.row 71 [.ptr K.mp 0] false false))(g2:xD L b2=some (.row 36 [w] false false))(hvw:IlV L w (.ofNat x::.ofNat y::r) id off)(h:MsO K e op R B N u L n)(hN:N<60000000)(hx:x<R)(hy:y<R)(hl:l<B)(m:Nat):Cv ((evW env O).call 91 [.int .i64 (.ofNat l),.ptr b1 0,.ptr b2 0] (KL L n m false [] none)) (MsQ K false op R B (N+1) (some u) L n m okU):=by
 refine xO (F:=f91) (H.no _) rfl rfl (ziF rfl) ?_;obtain⟨i0,i1,cs,t,f,g0,c0,c1⟩:=hvw.two;unfold f91 cF;simp only;refine xK ?_;refine wh (uu H h oM (q:=.ofNat 27) (by simp) hx hy hl _) fun v t hv=>?_
 obtain⟨L1,n1,m1,R1,B1,rfl,a1,b1',d1,h1,f1,_⟩:=hv;refine xu ?_;refine xF ?_;exact⟨L1,n1,_,R1,B1,rfl,a1,b1',d1,h1,(Fr2.refl L m).or f1,trivial⟩
attribute [local go_sem] ltF gtF xI xH ziS ziW ziV ziQ xW in
theorem zq1(g1:xD L b1=some (.row 71 [.ptr K.mp 0] false false))(g2:xD L b2=some (.row 36 [w] false false))(hvw:IlV L w (.ofNat x::r) id off)(h:MsO K e op R B N u L n)(hN:N<60000000)(hx:x<R)(hl:l<B)(m:Nat):Cv ((evW env O).call 93 [.int .i64 (.ofNat l),.ptr b1 0,.ptr b2 0] (KL L n m false [] none)) (MsQ K false op R B (N+5) (some u) L n m okU):=by
 refine xO (F:=f93) (H.no _) rfl rfl (ziF rfl) ?_;obtain⟨i0,cs,t,f,g0,c0⟩:=hvw.one;have z1:=h.wf.lt g1;have hR0:=h.R0;unfold f93 cF;simp only;refine xK ?_;refine wh (jR H h oM (.inr (.inl ⟨by simp,by decide,by decide⟩)) hx _) fun v t hv=>?_
 obtain⟨L1,n1,m1,R1,B1,rfl,a1,b1',d1,h1,f1,r1,rfl,e1⟩:=hv;obtain⟨p1,p2⟩:=f1 _ _ g1 rfl;have e3:=pG p2;have hh:=zyw (b:=n1) z1;clear g1 p2;refine xK ?_;refine wh (jR H h1 oM (a:=0) (q:=.ofNat 15) (i:=.ofNat 2) (.inl ⟨rfl,by decide,by decide⟩) oM _) fun v t hv=>?_
 obtain⟨L2,n2,m2,R2,B2,rfl,a2,b2',d2,h2,f2,r2,rfl,e2⟩:=hv;have e4:=pG (f2 _ _ p1 rfl).2;refine xK ?_;refine wh (uu H h2 oM (q:=.ofNat 27) (by simp) (show r1<R2 by omega) e2 (show l<B2 by omega) _) fun v t hv=>?_
 obtain⟨L3,n3,m3,R3,B3,rfl,a3,b3',d3,h3,f3,_⟩:=hv;refine xu ?_;refine xF ?_;exact⟨L3,n3,_,R3,B3,rfl,oM,oM,oM,h3,(((Fr2.refl L m).or f1).or f2).or f3,trivial⟩
attribute [local go_sem] ltF gtF xI xH ziS ziW ziV ziQ xW in
theorem zq2{k:Nat}(g1:xD L b1=some (.row 71 [.ptr K.mp 0] false false))(g2:xD L b2=some (.row 36 [w] false false))(g3:xD L b3=some (.row 3 [.int .i64 (.ofNat k)] false false))(hvw:IlV L w (.ofNat x::r) id off)(h:MsO K e op R B N u L n)(hN:N<60000000)(hx:x<R)(hk:k<8)(hl:l<B)(m:Nat):Cv ((evW env O).call 102 [.int .i64 (.ofNat l),.ptr b1 0,.ptr b2 0,.ptr b3 0] (KL L n m false [] none)) (MsQ K false op R B (N+14) (some u) L n m okU):=by
 refine xO (F:=f102) (H.no _) rfl rfl (ziF rfl) ?_;obtain⟨i0,cs,t,f,g0,c0⟩:=hvw.one;unfold f102 cF;simp only;refine xK ?_;refine wh (jJ H h oM hx hk hl _) fun v t hv=>?_;obtain⟨L1,n1,m1,R1,B1,rfl,a1,b1',d1,h1,f1,_⟩:=hv;refine xu ?_;refine xF ?_;exact⟨L1,n1,_,R1,B1,rfl,a1,b1',d1,h1,(Fr2.refl L m).or f1,trivial⟩
attribute [local go_sem] ltF gtF xI xH ziS ziW ziV ziQ xW in
theorem Pr{d:Nat}(g1:xD L b1=some (.row 71 [.ptr K.mp 0] false false))(g2:xD L b2=some (.row 3 [.int .i64 (.ofNat d)] false false))(g3:xD L b3=some (.row 36 [w] false false))(hvw:IlV L w (.ofNat x::.ofNat y::r) id off)(h:MsO K e op R B N u L n)(hN:N<40000000)(hd:d<R)(hx:x<R)(hy:y<R)(hl:l<B)(m:Nat):Cv ((evW env O).call 95 [.int .i64 (.ofNat l),.ptr b1 0,.ptr b2 0,.ptr b3 0] (KL L n m false [] none)) (MsQ K false op R B (N+12) (some u) L n m okU)∧Cv ((evW env O).call 97 [.int .i64 (.ofNat l),.ptr b1 0,.ptr b2 0,.ptr b3 0] (KL L n m false [] none)) (MsQ K false op R B (N+12) (some u) L n m okU):=by
 constructor
 ·refine xO (F:=f95) (H.no _) rfl rfl (ziF rfl) ?_;unfold f95 cF;simp only;refine xK ?_;refine xC (zpG H h oM hd (.inl rfl) hvw hx hy hl _) fun v t hv=>?_;obtain⟨L1,n1,m1,R1,B1,rfl,a1,b1',d1,h1,f1,_⟩:=hv;refine xu ?_;refine xF ?_;exact⟨L1,n1,_,R1,B1,rfl,a1,b1',d1,h1,f1,trivial⟩
 ·refine xO (F:=f97) (H.no _) rfl rfl (ziF rfl) ?_;unfold f97 cF;simp only;refine xK ?_;refine xC (zpG H h oM hd (.inr rfl) hvw hx hy hl _) fun v t hv=>?_;obtain⟨L1,n1,m1,R1,B1,rfl,a1,b1',d1,h1,f1,_⟩:=hv;refine xu ?_;refine xF ?_;exact⟨L1,n1,_,R1,B1,rfl,a1,b1',d1,h1,f1,trivial⟩
attribute [local go_sem] ltF gtF xI xH ziS ziW ziV ziQ xW in
theorem WU{d:Nat}{q:Int}(h:MsO K e op R B N u L n)(hN:N<50000000)(hd:d<R)(hq:q∈[Int.ofNat 26,.ofNat 27,.ofNat 28,.ofNat 29])(hvw:IlV L w (.ofNat x::.ofNat y::r) id off)(hx:x<R)(hy:y<R)(m:Nat):Cv ((evW env O).call 99 [.ptr K.mp 0,.int .i64 (.ofNat d),.int .i64 q,w] (KL L n m false [] none)) (MsQ K false op R B (N+5) (some u) L n m okU):=by
 refine xO (F:=f99) (H.no _) rfl rfl (ziF rfl) ?_;have hw:=h.wf;have hwc:=hvw.cl;have h0:=fun o1 o2 o3=>h.up (L2:=(n+1+1,o3)::(n+1,o2)::(n,o1)::L) (n2:=n+1+1+1) ((((hw.up oM).same oM).same oM).same oM) (Oth.same fun j hj=>by (repeat rw[xr,if_neg oM]))
 have f0:=fun o1 o2 o3=>Fr2.new (m:=m) hw (L2:=(n+1+1,o3)::(n+1,o2)::(n,o1)::L) fun j hj=>by (repeat rw[xr,if_neg oM])
 unfold f99 cF;simp only;refine xB ?_;refine xK ?_;refine xC (Zu H (c:=1) (h0 _ _ _) oM hd _ (op2:=op) fun L3 n3 m3 R3 B3 hR hB h3 f3=>?_) fun v t hv=>?_
 ·have k1:=(f3 n _ (by (repeat first|exact xG _ _ _|rw[xr,if_neg oM])) rfl).1
  have k2:=(f3 (n+1) _ (by (repeat first|exact xG _ _ _|rw[xr,if_neg oM])) rfl).1
  have k3:=(f3 (n+1+1) _ (xG _ _ _) rfl).1;exact Gs H k1 k2 k3 ((hvw.fr (f0 _ _ _)).fr f3) h3 oM hq oM oM hB _
 obtain⟨L4,n4,m4,R4,B4,rfl,a4,b4,c4,h4,f4,_⟩:=hv;refine xu ?_;refine xF ?_;exact⟨L4,n4,m4,R4,B4,rfl,oM,oM,oM,h4.weak oM,(f0 _ _ _).trans f4,trivial⟩
attribute [local go_sem] ltF gtF xI xH ziS ziW ziV ziQ xW in
theorem Ps{d:Nat}(g1:xD L b1=some (.row 71 [.ptr K.mp 0] false false))(g2:xD L b2=some (.row 3 [.int .i64 (.ofNat d)] false false))(g3:xD L b3=some (.row 36 [w] false false))(hvw:IlV L w (.ofNat x::.ofNat y::r) id off)(h:MsO K e op R B N u L n)(hN:N<40000000)(hd:d<R)(hx:x<R)(hy:y<R)(m:Nat):Cv ((evW env O).call 98 [.int .i64 (.ofNat l),.ptr b1 0,.ptr b2 0,.ptr b3 0] (KL L n m false [] none)) (MsQ K false op R B (N+12) (some u) L n m okU)∧Cv ((evW env O).call 100 [.int .i64 (.ofNat l),.ptr b1 0,.ptr b2 0,.ptr b3 0] (KL L n m false [] none)) (MsQ K false op R B (N+12) (some u) L n m okU):=by
 constructor
 ·refine xO (F:=f98) (H.no _) rfl rfl (ziF rfl) ?_;unfold f98 cF;simp only;refine xK ?_;refine xC (WU H h oM hd (q:=.ofNat 27) (by simp) hvw hx hy _) fun v t hv=>?_
  obtain⟨L1,n1,m1,R1,B1,rfl,a1,b1',d1,h1,f1,_⟩:=hv;refine xu ?_;refine xF ?_;exact⟨L1,n1,_,R1,B1,rfl,a1,b1',d1,h1.weak oM,f1,trivial⟩
 ·refine xO (F:=f100) (H.no _) rfl rfl (ziF rfl) ?_;unfold f100 cF;simp only;refine xK ?_;refine xC (WU H h oM hd (q:=.ofNat 29) (by simp) hvw hx hy _) fun v t hv=>?_
  obtain⟨L1,n1,m1,R1,B1,rfl,a1,b1',d1,h1,f1,_⟩:=hv;refine xu ?_;refine xF ?_;exact⟨L1,n1,_,R1,B1,rfl,a1,b1',d1,h1.weak oM,f1,trivial⟩
end
theorem eqT{a b:Int}:eqD a b=true↔a=b:=by unfold eqD;exact decide_eq_true_iff
theorem Zv{R:Nat}{l:List Int}(h:l.length=2)(hr:∀x∈l,InR R x):∃x y,l=[.ofNat x,.ofNat y]∧x<R∧y<R:=by
 rcases l with _|⟨a,_|⟨b,_|⟨c,r⟩⟩⟩
 ·cases h
 ·cases h
 ·obtain⟨x,rfl,hx⟩:=hr a (by simp)
  obtain⟨y,rfl,hy⟩:=hr b (by simp)
  exact⟨x,y,rfl,hx,hy⟩
 ·simp at h
theorem pi{R:Nat}{l:List Int}(h:1≤l.length)(hr:∀x∈l,InR R x):∃x r,l=.ofNat x::r∧x<R:=by
 rcases l with _|⟨a,r⟩
 ·cases h
 ·obtain⟨x,rfl,hx⟩:=hr a (by simp)
  exact⟨x,r,rfl,hx⟩
section
variable {O:Orc}(H:IsO O){K:MK}{e:Bool}{op:List Int}{R B N u:Nat}{L:List (Nat×Option AObj)}{n:Nat}
include H
attribute [local go_sem] ltF gtF xI xH ziS ziW ziV ziQ xW in
theorem QJ{d c x y f off:Nat}{q:Int}{w:AV}{caps:List AV}(h:MsO K e op R B N u L n)(hN:N+c<50000000)(hd:d<R)(hq:uQ q=.ofNat 2)(hvw:IlV L w [.ofNat x,.ofNat y] id off)(hx:x<R)(hy:y<R)(m:Nat)(ht:zty O K (.ofNat (B+1)::.ofNat B::op) (.ofNat (B+1)::.ofNat B::op) R (N+7) c u B L m f caps):Cv ((evW env O).call 94 [.ptr K.mp 0,.int .i64 (.ofNat d),.int .i64 q,w,.fn f [] caps] (KL L n m false [] none)) (MsQ K false op R B (N+c+20) none L n m okU):=by
 refine xO (F:=f94) (H.no _) rfl rfl (ziF rfl) ?_;have hR0:=h.R0;unfold f94 cF;simp only;obtain⟨i0,i1,cs,t,fz,g0,c0,c1⟩:=hvw.two;refine xz (xK ?_);refine xC (Xl (H.no _) h oM _) fun v t hv=>?_;obtain⟨L1,m1,rfl,rfl,h1,f1⟩:=hv;refine xK ?_;refine xC (Xl (H.no _) h1 oM _) fun v t hv=>?_;obtain⟨L2,m2,rfl,rfl,h2,f2⟩:=hv;replace g0:=(f2 _ _ (f1 _ _ g0 rfl).1 rfl).1;refine xu ?_;refine xz (xK ?_);refine wh (lG H h2 oM (q:=.ofNat 8) (by simp) hx hy _) fun v t hv=>?_
 obtain⟨L3,n3,m3,R3,B3,rfl,a3,b3,d3,h3,f3,r3,rfl,e3⟩:=hv;have f03:=(f1.trans f2).or f3;refine xu ?_;refine xz (xK ?_);refine xC (jR H h3 oM (q:=.ofNat 16) (i:=.ofNat 3) (.inr (.inl ⟨by simp,by decide,by decide⟩)) e3 _) fun v t hv=>?_
 obtain⟨L4,n4,m4,R4,B4,rfl,a4,b4,d4,h4,f4,r4,rfl,e4⟩:=hv;refine xK ?_;refine xC (uu H h4 oM (q:=.ofNat 27) (by simp) e4 (show 0<R4 by omega) (show B<B4 by omega) _) fun v t hv=>?_
 obtain⟨L5,n5,m5,R5,B5,rfl,a5,b5,d5,h5,f5,_⟩:=hv;have f05:=f03.trans (f4.trans f5);refine xu ?_;refine xz (xK ?_);refine xC (ht L5 n5 _ R5 B5 oM oM h5 f05) fun v t hv=>?_;obtain⟨L6,n6,m6,R6,B6,rfl,a6,b6,d6,h6,f6,_⟩:=hv;refine xu ?_;refine xz (xK ?_);refine xC (znP H h6 oM (show B+1<B6 by omega) _) fun v t hv=>?_
 obtain⟨L7,n7,m7,R7,B7,rfl,a7,b7,d7,h7,f7,_⟩:=hv;refine xu ?_;refine xz (xK ?_);refine xC (Xh H (h7.perm (ziD _ _ _)) oM _) fun v t hv=>?_;obtain⟨L8,n8,m8,R8,B8,rfl,a8,b8,d8,h8,f8,_⟩:=hv;have f08:=f05.trans (f6.trans (f7.trans f8));refine xu ?_;refine xz (xK ?_);refine xC (UL H h8 oM (show d<R8 by omega) hq (hvw.fr f08) (by simp) (fun z hz=>by
  simp only[ziU,List.not_mem_nil,or_false]at hz;rcases hz with rfl|rfl<;>exact inR oM) _) fun v t hv=>?_
 obtain⟨L9,n9,m9,R9,B9,rfl,a9,b9,d9,h9,f9,_⟩:=hv;refine xu ?_;refine xK ?_;refine xC (Xh H h9 oM _) fun v t hv=>?_;obtain⟨LA,nA,mA,RA,BA,rfl,aA,bA,dA,hA,fA,_⟩:=hv;refine xu ?_;refine xF ?_;exact⟨LA,nA,mA,RA,BA,rfl,oM,oM,oM,hA.top.weak oM,f08.trans (f9.trans fA),trivial⟩
attribute [local go_sem] ltF gtF xI xH ziS ziW ziV ziQ xW in
theorem zv7(q:Int)(m:Nat)(b:Bool):Cv ((evW env O).call 101 [.int .i64 q] (KL L n m b [] none)) fun v t=>t=KL L n m b [] none∧(v=.int .i64 (.negSucc 0)∨∃k,v=.int .i64 (.ofNat k)∧k<8∧uQ q=.ofNat 1):=by
 refine wI (F:=f101) (H.no _) rfl rfl (ziF rfl) ?_;unfold f101 cF;simp only;refine xB ?_;cases c1:eqD q (.ofNat 1)with
 |true=>refine xu ?_;refine xF ?_;exact⟨rfl,.inr ⟨0,rfl,oM,by rw[eqT.1 c1];rfl⟩⟩
 |false=>
 cases c2:eqD q (.ofNat 18)with
 |true=>refine xu ?_;refine xF ?_;exact⟨rfl,.inr ⟨4,rfl,oM,by rw[eqT.1 c2];rfl⟩⟩
 |false=>
 cases c3:eqD q (.ofNat 23)with
 |true=>refine xu ?_;refine xF ?_;exact⟨rfl,.inr ⟨5,rfl,oM,by rw[eqT.1 c3];rfl⟩⟩
 |false=>
 cases c4:eqD q (.ofNat 26)with
 |true=>refine xu ?_;refine xF ?_;exact⟨rfl,.inr ⟨1,rfl,oM,by rw[eqT.1 c4];rfl⟩⟩
 |false=>
 cases c5:eqD q (.ofNat 31)with
 |true=>refine xu ?_;refine xF ?_;exact⟨rfl,.inr ⟨6,rfl,oM,by rw[eqT.1 c5];rfl⟩⟩
 |false=>
 cases c6:eqD q (.ofNat 36)with
 |true=>refine xu ?_;refine xF ?_;exact⟨rfl,.inr ⟨2,rfl,oM,by rw[eqT.1 c6];rfl⟩⟩
 |false=>refine xu ?_;refine xF ?_;exact⟨rfl,.inl rfl⟩
end
theorem zq3{q:Int}{k:Nat}(h:uQ q=.ofNat k):k≤4:=by
 unfold uQ at h;cases hb:x0 q (.ofNat 42)with
 |false=>rw[hb]at h;cases h
 | true=>
  rw[hb,cond_true]at h;have key:∀x∈primL,x≤.ofNat 4:=by decide
  have h0:(0:Int)≤.ofNat 4:=by decide
  have:primL.getD q.toNat 0≤.ofNat 4:=by
   rw[yU];cases e:primL[q.toNat]? with
   |none=>exact h0
   |some x=>exact key x (y7 e)
  rw[h]at this;exact Int.ofNat_le.1 this
section
variable {O:Orc}(H:IsO O){K:MK}{e:Bool}{op:List Int}{R B N u:Nat}{L:List (Nat×Option AObj)}{n:Nat}
include H
attribute [local go_sem] ltF gtF xI xH ziS ziW ziV ziQ xW in
theorem zmm{d off:Nat}{q:Int}{w:AV}{l:List Int}(h:MsO K e op R B N u L n)(hN:N<20000000)(hd:d<R)(hp:uQ q=.ofNat l.length)(hvw:IlV L w l id off)(hr:∀x∈l,InR R x)(m:Nat):Cv ((evW env O).call 56 [.ptr K.mp 0,.int .i64 q,.int .i64 (.ofNat d),w] (KL L n m false [] none)) (MsQ K false op R B (N+200) none L n m okU):=by
 refine xO (F:=f56) (H.no _) rfl rfl (ziF rfl) ?_;have hw:=h.wf;have hwc:=hvw.cl;have hl2:∀k,uQ q=.ofNat k→l.length=k:=fun k hk=>by rw[hk]at hp;exact(Int.ofNat.inj hp).symm
 obtain⟨L0,hL0⟩:∃L0,(n+1+1,some (AObj.row 36 [w] false false))::(n+1,some (AObj.row 3 [.int .i64 (.ofNat d)] false false))::(n,some (AObj.row 71 [.ptr K.mp 0] false false))::L=L0:=⟨_,rfl⟩;have h0:MsO K e op R B N u L0 (n+1+1+1):=h.up (hL0▸(((hw.up oM).same oM).same oM).same oM) (Oth.same fun j hj=>by rw[←hL0];(repeat rw[xr,if_neg oM]))
 have f0:Fr2 L m L0 m:=Fr2.new hw fun j hj=>by rw[←hL0];(repeat rw[xr,if_neg oM])
 have k1:xD L0 n=some (.row 71 [.ptr K.mp 0] false false):=by rw[←hL0];(repeat first|exact xG _ _ _|rw[xr,if_neg oM])
 have k2:xD L0 (n+1)=some (.row 3 [.int .i64 (.ofNat d)] false false):=by rw[←hL0];(repeat first|exact xG _ _ _|rw[xr,if_neg oM])
 have k3:xD L0 (n+1+1)=some (.row 36 [w] false false):=by rw[←hL0];exact xG _ _ _
 have hv0:=hvw.fr f0;unfold f56 cF;simp only;refine xB ?_;clear hL0 hw hwc hvw h;refine xB ?_;refine xE ?_;refine xB ?_;cases c0:eqD q (.ofNat 0)with
 |true=>
  have hq:=eqT.1 c0;subst hq;clear c0;refine x4 sV ?_;obtain⟨x,y,rfl,hx,hy⟩:=Zv (hl2 2 rfl) hr;refine xK ?_;refine xC (Zu H (c:=1) h0 oM hd _ (op2:=op) fun L3 n3 m3 R3 B3 hR hB h3 f3=>?_) fun v t hv=>?_
  ·exact zq0 H (f3 _ _ k1 rfl).1 (f3 _ _ k3 rfl).1 (hv0.fr f3) h3 oM oM oM hB _
  obtain⟨L4,n4,m4,R4,B4,rfl,a4,b4,c4,h4,f4,_⟩:=hv;refine xu ?_;refine xF ?_;exact⟨L4,n4,_,R4,B4,rfl,oM,oM,oM,h4.top.weak oM,f0.trans f4,trivial⟩
 |false=>
 refine x7 sV ?_;refine xB ?_;cases c2:eqD q (.ofNat 2)with
 |true=>
  have hq:=eqT.1 c2;subst hq;clear c2;refine x4 sV ?_;refine xK ?_;refine xC (ZQ H h0 oM hd (show 0<8 by omega) hv0 (by rw[hl2 2 rfl];omega) hr _) fun v t hv=>?_
  obtain⟨L4,n4,m4,R4,B4,rfl,a4,b4,c4,h4,f4,_⟩:=hv;refine xu ?_;refine xF ?_;exact⟨L4,n4,_,R4,B4,rfl,oM,oM,oM,h4.top.weak oM,f0.trans f4,trivial⟩
 |false=>
 refine x7 sV ?_;refine xz (xz (xu ?_));cases c3:eqD q (.ofNat 3)with
 |true=>
  have hq:=eqT.1 c3;subst hq;clear c3;refine x4 sV ?_;refine xu ?_;refine x4 sV ?_;obtain⟨x,r,rfl,hx⟩:=pi (zhl (hl2 1 rfl).symm) hr;obtain⟨i0,cs,t,f,g0,c0⟩:=hv0.one;refine xz (xK ?_);refine wh (Y8 H h0 oM (.inl rfl) _) fun v t hv=>?_;obtain⟨L1,n1,m1,R1,B1,rfl,a1,b1,d1,h1,f1,lb,rfl,hlb⟩:=hv;obtain⟨j1,e1⟩:=f1 _ _ k1 rfl;obtain⟨j2,_⟩:=f1 _ _ k2 rfl;obtain⟨j3,e3⟩:=f1 _ _ k3 rfl;obtain⟨j0,e0⟩:=f1 _ _ g0 rfl;replace e1:=pG e1 (n+1+1+1);replace e3:=pG e3 (n+1+1+1);replace e0:=pG e0 (n+1+1+1);refine xK ?_;refine wh (jJ H h1 oM (show x<R1 by omega) (show 0<8 by omega) hlb _) fun v t hv=>?_
  obtain⟨L2,n2,m2,R2,B2,rfl,a2,b2,d2,h2,f2,_⟩:=hv;replace j1:=(f2 _ _ j1 rfl).1;replace j2:=(f2 _ _ j2 rfl).1;replace j3:=(f2 _ _ j3 rfl).1;replace j0:=(f2 _ _ j0 rfl).1;have f02:=(f0.or f1).or f2;clear k1 k2 k3 g0 e0 e1 e3 f1 f2 h0 h1;refine xu ?_;refine xK ?_;refine wh (pg H h2 oM (show d<R2 by omega) (show x<R2 by omega) (i:=1) oM _) fun v t hv=>?_
  obtain⟨L4,n4,m4,R4,B4,rfl,a4,b4,c4,h4,f4,_⟩:=hv;refine xu ?_;refine xF ?_;exact⟨L4,n4,_,R4,B4,rfl,oM,oM,oM,h4.top.weak oM,f02.or f4,trivial⟩
 |false=>
 refine x7 sV ?_;refine xu ?_;cases c4:eqD q (.ofNat 4)with
 |true=>
  have hq:=eqT.1 c4;subst hq;clear c4;refine x4 sV ?_;obtain⟨x,r,rfl,hx⟩:=pi (zhl (hl2 1 rfl).symm) hr;obtain⟨i0,cs,t,f,g0,c0⟩:=hv0.one;refine xz (xK ?_);refine wh (Y8 H h0 oM (.inl rfl) _) fun v t hv=>?_;obtain⟨L1,n1,m1,R1,B1,rfl,a1,b1,d1,h1,f1,lb,rfl,hlb⟩:=hv;obtain⟨j1,e1⟩:=f1 _ _ k1 rfl;obtain⟨j2,_⟩:=f1 _ _ k2 rfl;obtain⟨j3,e3⟩:=f1 _ _ k3 rfl;obtain⟨j0,e0⟩:=f1 _ _ g0 rfl;replace e1:=pG e1 (n+1+1+1);replace e3:=pG e3 (n+1+1+1);replace e0:=pG e0 (n+1+1+1);refine xK ?_;refine wh (jJ H h1 oM (show x<R1 by omega) (show 0<8 by omega) hlb _) fun v t hv=>?_
  obtain⟨L2,n2,m2,R2,B2,rfl,a2,b2,d2,h2,f2,_⟩:=hv;replace j1:=(f2 _ _ j1 rfl).1;replace j2:=(f2 _ _ j2 rfl).1;replace j3:=(f2 _ _ j3 rfl).1;replace j0:=(f2 _ _ j0 rfl).1;have f02:=(f0.or f1).or f2;clear k1 k2 k3 g0 e0 e1 e3 f1 f2 h0 h1;refine xu ?_;refine xK ?_;refine wh (pg H h2 oM (show d<R2 by omega) (show x<R2 by omega) (i:=2) oM _) fun v t hv=>?_
  obtain⟨L4,n4,m4,R4,B4,rfl,a4,b4,c4,h4,f4,_⟩:=hv;refine xu ?_;refine xF ?_;exact⟨L4,n4,_,R4,B4,rfl,oM,oM,oM,h4.top.weak oM,f02.or f4,trivial⟩
 |false=>
 refine x7 sV ?_;refine xz (xz (xu ?_));cases c5:eqD q (.ofNat 5)with
 |true=>
  have hq:=eqT.1 c5;subst hq;clear c5;refine x4 sV ?_;refine xu ?_;refine x4 sV ?_;obtain⟨x,y,rfl,hx,hy⟩:=Zv (hl2 2 rfl) hr;obtain⟨i0,i1,cs,t,f,g0,c0,c1⟩:=hv0.two;refine xz (xK ?_);refine wh (Y8 H h0 oM (.inl rfl) _) fun v t hv=>?_;obtain⟨L1,n1,m1,R1,B1,rfl,a1,b1,d1,h1,f1,lb,rfl,hlb⟩:=hv;obtain⟨j1,e1⟩:=f1 _ _ k1 rfl;obtain⟨j2,_⟩:=f1 _ _ k2 rfl;obtain⟨j3,e3⟩:=f1 _ _ k3 rfl;obtain⟨j0,e0⟩:=f1 _ _ g0 rfl;replace e1:=pG e1 (n+1+1+1);replace e3:=pG e3 (n+1+1+1);replace e0:=pG e0 (n+1+1+1);refine xK ?_;refine wh (jJ H h1 oM (show x<R1 by omega) (show 0<8 by omega) hlb _) fun v t hv=>?_
  obtain⟨L2,n2,m2,R2,B2,rfl,a2,b2,d2,h2,f2,_⟩:=hv;replace j1:=(f2 _ _ j1 rfl).1;replace j2:=(f2 _ _ j2 rfl).1;replace j3:=(f2 _ _ j3 rfl).1;replace j0:=(f2 _ _ j0 rfl).1;have f02:=(f0.or f1).or f2;clear k1 k2 k3 g0 e0 e1 e3 f1 f2 h0 h1;refine xu ?_;refine xz (xK ?_);refine wh (UU H h2 oM (show x<R2 by omega) (show y<R2 by omega) (i:=1) oM _) fun v t hv=>?_
  obtain⟨L3,n3,m3,R3,B3,rfl,a3,b3,c3,h3,f3,_⟩:=hv;have l1:=(f3 _ _ j1 rfl).1;have l2:=(f3 _ _ j2 rfl).1;clear j0 j1 j2 j3;refine xu ?_;refine xK ?_;refine xC (jp H h3 oM (show d<R3 by omega) _) fun v t hv=>?_
  obtain⟨L4,n4,m4,R4,B4,rfl,a4,b4,c4,h4,f4,_⟩:=hv;refine xu ?_;refine xF ?_;exact⟨L4,n4,_,R4,B4,rfl,oM,oM,oM,h4.top.weak oM,(f02.or f3).trans f4,trivial⟩
 |false=>
 refine x7 sV ?_;refine xu ?_;cases c6:eqD q (.ofNat 6)with
 |true=>
  have hq:=eqT.1 c6;subst hq;clear c6;refine x4 sV ?_;obtain⟨x,y,rfl,hx,hy⟩:=Zv (hl2 2 rfl) hr;obtain⟨i0,i1,cs,t,f,g0,c0,c1⟩:=hv0.two;refine xz (xK ?_);refine wh (Y8 H h0 oM (.inl rfl) _) fun v t hv=>?_;obtain⟨L1,n1,m1,R1,B1,rfl,a1,b1,d1,h1,f1,lb,rfl,hlb⟩:=hv;obtain⟨j1,e1⟩:=f1 _ _ k1 rfl;obtain⟨j2,_⟩:=f1 _ _ k2 rfl;obtain⟨j3,e3⟩:=f1 _ _ k3 rfl;obtain⟨j0,e0⟩:=f1 _ _ g0 rfl;replace e1:=pG e1 (n+1+1+1);replace e3:=pG e3 (n+1+1+1);replace e0:=pG e0 (n+1+1+1);refine xK ?_;refine wh (jJ H h1 oM (show x<R1 by omega) (show 0<8 by omega) hlb _) fun v t hv=>?_
  obtain⟨L2,n2,m2,R2,B2,rfl,a2,b2,d2,h2,f2,_⟩:=hv;replace j1:=(f2 _ _ j1 rfl).1;replace j2:=(f2 _ _ j2 rfl).1;replace j3:=(f2 _ _ j3 rfl).1;replace j0:=(f2 _ _ j0 rfl).1;have f02:=(f0.or f1).or f2;clear k1 k2 k3 g0 e0 e1 e3 f1 f2 h0 h1;refine xu ?_;refine xz (xK ?_);refine wh (UU H h2 oM (show x<R2 by omega) (show y<R2 by omega) (i:=2) oM _) fun v t hv=>?_
  obtain⟨L3,n3,m3,R3,B3,rfl,a3,b3,c3,h3,f3,_⟩:=hv;have l1:=(f3 _ _ j1 rfl).1;have l2:=(f3 _ _ j2 rfl).1;clear j0 j1 j2 j3;refine xu ?_;refine xK ?_;refine xC (jp H h3 oM (show d<R3 by omega) _) fun v t hv=>?_
  obtain⟨L4,n4,m4,R4,B4,rfl,a4,b4,c4,h4,f4,_⟩:=hv;refine xu ?_;refine xF ?_;exact⟨L4,n4,_,R4,B4,rfl,oM,oM,oM,h4.top.weak oM,(f02.or f3).trans f4,trivial⟩
 |false=>
 refine x7 sV ?_;refine xB ?_;cases c7:eqD q (.ofNat 7)with
 |true=>
  have hq:=eqT.1 c7;subst hq;clear c7;refine x4 sV ?_;obtain⟨x,r,rfl,hx⟩:=pi (zhl (hl2 1 rfl).symm) hr;obtain⟨i0,cs,t,f,g0,c0⟩:=hv0.one;refine xK ?_;refine wh (zyx H h0 oM hd hx _) fun v t hv=>?_;obtain⟨L4,n4,m4,R4,B4,rfl,a4,b4,c4,h4,f4,_⟩:=hv;refine xu ?_;refine xF ?_;exact⟨L4,n4,_,R4,B4,rfl,oM,oM,oM,h4.top.weak oM,f0.or f4,trivial⟩
 |false=>
 refine x7 sV ?_;refine xB ?_;cases c15:eqD q (.ofNat 15)with
 |true=>
  have hq:=eqT.1 c15;subst hq;clear c15;refine x4 sV ?_;obtain⟨x,r,rfl,hx⟩:=pi (zhl (hl2 1 rfl).symm) hr;refine xK ?_;refine xC (Zu H (c:=5) h0 oM hd _ (op2:=op) fun L3 n3 m3 R3 B3 hR hB h3 f3=>?_) fun v t hv=>?_
  ·exact zq1 H (f3 _ _ k1 rfl).1 (f3 _ _ k3 rfl).1 (hv0.fr f3) h3 oM oM hB _
  obtain⟨L4,n4,m4,R4,B4,rfl,a4,b4,c4,h4,f4,_⟩:=hv;refine xu ?_;refine xF ?_;exact⟨L4,n4,_,R4,B4,rfl,oM,oM,oM,h4.top.weak oM,f0.trans f4,trivial⟩
 |false=>
 refine x7 sV ?_;refine xB ?_;cases c8:eqD q (.ofNat 8)with
 |true=>
  have hq:=eqT.1 c8;subst hq;clear c8;refine x4 sV ?_;obtain⟨x,y,rfl,hx,hy⟩:=Zv (hl2 2 rfl) hr;refine xK ?_;refine xC (QJ H (c:=12) h0 oM hd rfl hv0 hx hy _ fun L3 n3 m3 R3 B3 hR hB h3 f3=>?_) fun v t hv=>?_
  ·exact(Pr H (f3 _ _ k1 rfl).1 (f3 _ _ k2 rfl).1 (f3 _ _ k3 rfl).1 (hv0.fr f3) h3 oM oM oM oM hB _).1
  obtain⟨L4,n4,m4,R4,B4,rfl,a4,b4,c4,h4,f4,_⟩:=hv;refine xu ?_;refine xF ?_;exact⟨L4,n4,_,R4,B4,rfl,oM,oM,oM,h4.top.weak oM,f0.trans f4,trivial⟩
 |false=>
 refine x7 sV ?_;refine xB ?_;cases c9:eqD q (.ofNat 9)with
 |true=>
  have hq:=eqT.1 c9;subst hq;clear c9;refine x4 sV ?_;obtain⟨x,y,rfl,hx,hy⟩:=Zv (hl2 2 rfl) hr;refine xK ?_;refine xC (QJ H (c:=12) h0 oM hd rfl hv0 hx hy _ fun L3 n3 m3 R3 B3 hR hB h3 f3=>?_) fun v t hv=>?_
  ·exact(Pr H (f3 _ _ k1 rfl).1 (f3 _ _ k2 rfl).1 (f3 _ _ k3 rfl).1 (hv0.fr f3) h3 oM oM oM oM hB _).2
  obtain⟨L4,n4,m4,R4,B4,rfl,a4,b4,c4,h4,f4,_⟩:=hv;refine xu ?_;refine xF ?_;exact⟨L4,n4,_,R4,B4,rfl,oM,oM,oM,h4.top.weak oM,f0.trans f4,trivial⟩
 |false=>
 refine x7 sV ?_;refine xB ?_;cases c13:eqD q (.ofNat 13)with
 |true=>
  have hq:=eqT.1 c13;subst hq;clear c13;refine x4 sV ?_;obtain⟨x,y,rfl,hx,hy⟩:=Zv (hl2 2 rfl) hr;refine xK ?_;refine xC (QJ H (c:=12) h0 oM hd rfl hv0 hx hy _ fun L3 n3 m3 R3 B3 hR hB h3 f3=>?_) fun v t hv=>?_
  ·exact(Ps H (f3 _ _ k1 rfl).1 (f3 _ _ k2 rfl).1 (f3 _ _ k3 rfl).1 (hv0.fr f3) h3 oM oM oM oM _).1
  obtain⟨L4,n4,m4,R4,B4,rfl,a4,b4,c4,h4,f4,_⟩:=hv;refine xu ?_;refine xF ?_;exact⟨L4,n4,_,R4,B4,rfl,oM,oM,oM,h4.top.weak oM,f0.trans f4,trivial⟩
 |false=>
 refine x7 sV ?_;refine xB ?_;cases c14:eqD q (.ofNat 14)with
 |true=>
  have hq:=eqT.1 c14;subst hq;clear c14;refine x4 sV ?_;obtain⟨x,y,rfl,hx,hy⟩:=Zv (hl2 2 rfl) hr;refine xK ?_;refine xC (QJ H (c:=12) h0 oM hd rfl hv0 hx hy _ fun L3 n3 m3 R3 B3 hR hB h3 f3=>?_) fun v t hv=>?_
  ·exact(Ps H (f3 _ _ k1 rfl).1 (f3 _ _ k2 rfl).1 (f3 _ _ k3 rfl).1 (hv0.fr f3) h3 oM oM oM oM _).2
  obtain⟨L4,n4,m4,R4,B4,rfl,a4,b4,c4,h4,f4,_⟩:=hv;refine xu ?_;refine xF ?_;exact⟨L4,n4,_,R4,B4,rfl,oM,oM,oM,h4.top.weak oM,f0.trans f4,trivial⟩
 |false=>
 refine x7 sV ?_;refine xB ?_;cases c40:eqD q (.ofNat 40)with
 |true=>
  have hq:=eqT.1 c40;subst hq;clear c40;refine x4 sV ?_;refine xK ?_;refine xC (jp H h0 oM hd _) fun v t hv=>?_;obtain⟨L4,n4,m4,R4,B4,rfl,a4,b4,c4,h4,f4,_⟩:=hv;refine xu ?_;refine xF ?_;exact⟨L4,n4,_,R4,B4,rfl,oM,oM,oM,h4.top.weak oM,f0.trans f4,trivial⟩
 |false=>
 refine x7 sV ?_;refine xB ?_;cases c41:eqD q (.ofNat 41)with
 |true=>
  have hq:=eqT.1 c41;subst hq;clear c41;refine x4 sV ?_;refine xK ?_;refine xC (jp H h0 oM hd _) fun v t hv=>?_;obtain⟨L4,n4,m4,R4,B4,rfl,a4,b4,c4,h4,f4,_⟩:=hv;refine xu ?_;refine xF ?_;exact⟨L4,n4,_,R4,B4,rfl,oM,oM,oM,h4.top.weak oM,f0.trans f4,trivial⟩
 |false=>
 refine x7 sV ?_;refine xz (xz (xK ?_));refine xC (zv7 H q _ _) fun v t hv=>?_;obtain⟨rfl,hv⟩:=hv;have hw0:=h0.wf;have hu:=fun o1 o2=>h0.up (L2:=(n+1+1+1,o2)::(n+1+1+1,o1)::L0) (n2:=n+1+1+1+1) (((hw0.up oM).same oM).same oM) (Oth.same fun j hj=>by (repeat rw[xr,if_neg oM]))
 have fu:=fun o1 o2=>Fr2.newm (m:=m) (m2:=m|||1<<<(n+1+1+1)) hw0 (L2:=(n+1+1+1,o2)::(n+1+1+1,o1)::L0) (fun j hj=>by (repeat rw[xr,if_neg oM])) fun j hj=>qn oM
 rcases hv with rfl|⟨k,rfl,hk,hq1⟩
 ·refine xu ?_;refine xB ?_;refine x7 sV ?_;refine xu ?_;refine xK ?_;refine xC (UL H (hu _ _) oM hd hp (hv0.fr (fu _ _)) (zq3 hp) hr _) fun v t hv=>?_;obtain⟨L4,n4,m4,R4,B4,rfl,a4,b4,c4,h4,f4,_⟩:=hv;refine xu ?_;refine xF ?_;exact⟨L4,n4,_,R4,B4,rfl,oM,oM,oM,h4.top.weak oM,f0.trans ((fu _ _).trans f4),trivial⟩
 ·obtain⟨x,r,rfl,hx⟩:=pi (zhl (hl2 1 hq1).symm) hr;have hkn:¬(zA k<zA 0):=fun h=>by cases h
  refine xu ?_;refine xB ?_;refine x4 sV ?_;refine xz (xK ?_);refine xC (Zu H (c:=14) (hu _ _) oM hd _ (op2:=op) fun L3 n3 m3 R3 B3 hR hB h3 f3=>?_) fun v t hv=>?_
  ·exact zq2 H (f3 _ _ (fu _ _ _ _ k1 rfl).1 rfl).1 (f3 _ _ (fu _ _ _ _ k3 rfl).1 rfl).1 (f3 _ _ (xG _ _ _) rfl).1 ((hv0.fr (fu _ _)).fr f3) h3 oM oM hk hB _
  obtain⟨L4,n4,m4,R4,B4,rfl,a4,b4,c4,h4,f4,_⟩:=hv;refine xu ?_;refine xu ?_;refine xF ?_;exact⟨L4,n4,_,R4,B4,rfl,oM,oM,oM,h4.top.weak oM,f0.trans ((fu _ _).trans f4),trivial⟩
end
theorem zu0{q:Int}{k:Nat}(h:gh q=.ofNat k)(h2:ltD q (.ofNat 100)=false):(q=.ofNat 100∧k=1)∨(q=.ofNat 101∧k=1)∨(q=.ofNat 102∧k=2)∨(q=.ofNat 103∧k=0)∨(q=.ofNat 104∧k=1)∨(q=.ofNat 105∧k=0)∨(q=.ofNat 106∧k=0):=by
 unfold gh at h;have hp:uQ q=.negSucc 0:=by
  unfold uQ;have:x0 q (.ofNat 42)=false:=by
   unfold x0;rw[Bool.and_eq_false_iff]
   right
   unfold ltD at h2⊢;have h3:=of_decide_eq_false h2;exact decide_eq_false fun h=>h3 (Int.lt_of_lt_of_le h (by decide))
  rw[this];rfl
 rw[hp]at h;cases a1:eqD q (.ofNat 103)with
 |true=>rw[a1]at h;cases h;rw[eqT.1 a1];simp
 |false=>
 cases a2:eqD q (.ofNat 105)with
 |true=>rw[a1,a2]at h;cases h;rw[eqT.1 a2];simp
 |false=>
 cases a3:eqD q (.ofNat 106)with
 |true=>rw[a1,a2,a3]at h;cases h;rw[eqT.1 a3];simp
 |false=>
 cases a4:eqD q (.ofNat 100)with
 |true=>rw[a1,a2,a3,a4]at h;cases h;rw[eqT.1 a4];simp
 |false=>
 cases a5:eqD q (.ofNat 101)with
 |true=>rw[a1,a2,a3,a4,a5]at h;cases h;rw[eqT.1 a5];simp
 |false=>
 cases a6:eqD q (.ofNat 104)with
 |true=>rw[a1,a2,a3,a4,a5,a6]at h;cases h;rw[eqT.1 a6];simp
 |false=>
 cases a7:eqD q (.ofNat 102)with
 |true=>rw[a1,a2,a3,a4,a5,a6,a7]at h;cases h;rw[eqT.1 a7];simp
 |false=>rw[a1,a2,a3,a4,a5,a6,a7]at h;cases h
section
variable {O:Orc}(H:IsO O){K:MK}{e:Bool}{op:List Int}{R B N u:Nat}{L:List (Nat×Option AObj)}{n:Nat}
include H
attribute [local go_sem] ltF gtF xI xH ziS ziW ziV ziQ xW in
theorem zkL{d off g:Nat}{tk tv q fn:Int}{az ks w:AV}{l:List Int}(h:MsO K e op R B N u L n)(hN:N<20000000)(hd:d<R)(hg:g<30000)(hq:ltD q (.ofNat 100)=false)(hp:gh q=.ofNat l.length)(hvw:IlV L w l id off)(hr:∀x∈l,InR R x)(hsc:q8 az=true∧q8 ks=true)(m:Nat):Cv ((evW env O).call 55 [.ptr K.mp 0,.agg [.int .i64 tk,.int .i64 tv,.int .i64 q,.int .i64 (.ofNat g),.int .i64 fn,az,ks],.int .i64 (.ofNat d),w] (KL L n m false [] none)) (MsQ K false op R B (N+200) (some u) L n m okU):=by
 refine xO (F:=f55) (H.no _) rfl rfl (ziF rfl) ?_;have hw:=h.wf;obtain⟨hsa,hsk⟩:=hsc;simp only[q8]at hsa hsk;obtain⟨L0,hL0⟩:∃L0,(n,some (AObj.row 40 [.int .i64 tk,.int .i64 tv,.int .i64 q,.int .i64 (.ofNat g),.int .i64 fn,az,ks] false false))::L=L0:=⟨_,rfl⟩;have h0:MsO K e op R B N u L0 (n+1):=h.up (hL0▸(hw.up oM).same oM) (Oth.same fun j hj=>by rw[←hL0];(repeat rw[xr,if_neg oM]))
 have f0:Fr2 L m L0 m:=Fr2.new hw fun j hj=>by rw[←hL0];(repeat rw[xr,if_neg oM])
 have k1:xD L0 n=some (.row 40 [.int .i64 tk,.int .i64 tv,.int .i64 q,.int .i64 (.ofNat g),.int .i64 fn,az,ks] false false):=by rw[←hL0];exact xG _ _ _
 have hv0:=hvw.fr f0;have hR0:=h.R0;have hsf:=h.sf;have i0:InR R (.ofNat 0):=inR oM;have hg2:OpOk K.nf K.nc B (.ofNat 24) (.ofNat d) (.ofNat (1312+g)) (.ofNat 0) []:=.off (by simp) (Int.ofNat_le.2 (zK _)) (Int.ofNat_lt.2 oM)
 have hg3:OpOk K.nf K.nc B (.ofNat 25) (.ofNat 0) (.ofNat (1312+g)) (.ofNat 0) []:=.off (by simp) (Int.ofNat_le.2 (zK _)) (Int.ofNat_lt.2 oM)
 obtain⟨is,rg,fl,wd,nd,bid,hpp⟩:=h0;have gm:=hpp.gm;simp only[uh]at gm;have h0:MsO K e op R B N u L0 (n+1):=⟨_,_,_,_,_,_,hpp⟩;unfold f55 cF;simp only;refine xB ?_;clear hL0 hw hvw h hpp;refine xB ?_;refine xE ?_;rcases zu0 hp hq with ⟨rfl,hl⟩|⟨rfl,hl⟩|⟨rfl,hl⟩|⟨rfl,hl⟩|⟨rfl,hl⟩|⟨rfl,hl⟩|⟨rfl,hl⟩
 ·refine xB ?_;refine x4 sV ?_;refine xK ?_;refine xC (ZQ H h0 oM hd (show 3<8 by omega) hv0 oM hr _) fun v t hv=>?_
  obtain⟨L4,n4,m4,R4,B4,rfl,a4,b4,c4,h4,f4,_⟩:=hv;refine xu ?_;refine xF ?_;exact⟨L4,n4,_,R4,B4,rfl,oM,oM,oM,h4.weak oM,f0.trans f4,trivial⟩
 ·obtain⟨x,r,rfl,hx⟩:=pi (zhl hl.symm) hr;obtain⟨i0,cs,t,f,g0,c0⟩:=hv0.one;refine xB ?_;refine x7 sV ?_;refine xB ?_;refine x4 sV ?_;refine xK ?_;refine xC (pg H h0 oM hd hx (i:=1) oM _) fun v t hv=>?_;obtain⟨L4,n4,m4,R4,B4,rfl,a4,b4,c4,h4,f4,_⟩:=hv;refine xu ?_;refine xF ?_;exact⟨L4,n4,_,R4,B4,rfl,oM,oM,oM,h4.weak oM,f0.trans f4,trivial⟩
 ·obtain⟨x,y,rfl,hx,hy⟩:=Zv hl hr;obtain⟨i0,i1,cs,t,f,g0,c0,c1⟩:=hv0.two;refine xB ?_;refine x7 sV ?_;refine xB ?_;refine x7 sV ?_;refine xB ?_;refine x4 sV ?_;refine xz (xK ?_);refine wh (UU H h0 oM hx hy (i:=1) oM _) fun v t hv=>?_;obtain⟨L3,n3,m3,R3,B3,rfl,a3,b3,c3,h3,f3,_⟩:=hv;clear gm k1 g0;refine xu ?_;refine xK ?_;refine xC (jp H h3 oM (show d<R3 by omega) _) fun v t hv=>?_
  obtain⟨L4,n4,m4,R4,B4,rfl,a4,b4,c4,h4,f4,_⟩:=hv;refine xu ?_;refine xF ?_;exact⟨L4,n4,_,R4,B4,rfl,oM,oM,oM,h4.weak oM,(f0.or f3).trans f4,trivial⟩
 ·refine xB ?_;refine x7 sV ?_;refine xB ?_;refine x7 sV ?_;refine xB ?_;refine x7 sV ?_;refine xB ?_;refine x4 sV ?_;refine xK ?_;refine xC (vm H h0 oM (e2:=false) hg2 (inR hd) i0 i0 (by simp) (fun h=>by cases h) _) fun v t hv=>?_
  obtain⟨L4,n4,m4,R4,B4,rfl,a4,b4,c4,h4,f4,_⟩:=hv;refine xu ?_;refine xF ?_;exact⟨L4,n4,_,R4,B4,rfl,oM,oM,oM,h4.weak oM,f0.trans f4,trivial⟩
 ·obtain⟨x,r,rfl,hx⟩:=pi (zhl hl.symm) hr;obtain⟨ia0,cs,t,f,g0,c0⟩:=hv0.one;refine xB ?_;refine x7 sV ?_;refine xB ?_;refine x7 sV ?_;refine xB ?_;refine x7 sV ?_;refine xB ?_;refine x7 sV ?_;refine xB ?_;refine x4 sV ?_;refine xz (xK ?_);refine wh (vm H h0 oM (e2:=false) hg3 i0 i0 (inR hx) (by simp) (fun h=>by cases h) _) fun v t hv=>?_
  obtain⟨L3,n3,m3,R3,B3,rfl,a3,b3,c3,h3,f3,_⟩:=hv;clear gm k1 g0;refine xu ?_;refine xK ?_;refine xC (jp H h3 oM (show d<R3 by omega) _) fun v t hv=>?_
  obtain⟨L4,n4,m4,R4,B4,rfl,a4,b4,c4,h4,f4,_⟩:=hv;refine xu ?_;refine xF ?_;exact⟨L4,n4,_,R4,B4,rfl,oM,oM,oM,h4.weak oM,(f0.or f3).trans f4,trivial⟩
 ·refine xB ?_;refine x7 sV ?_;refine xB ?_;refine x7 sV ?_;refine xB ?_;refine x7 sV ?_;refine xB ?_;refine x7 sV ?_;refine xB ?_;refine x7 sV ?_;refine xB ?_;refine x4 sV ?_;refine xK ?_;refine wh (pg H h0 oM hd hsf (i:=2+g) oM _) fun v t hv=>?_;obtain⟨L4,n4,m4,R4,B4,rfl,a4,b4,c4,h4,f4,_⟩:=hv;refine xu ?_;refine xF ?_;exact⟨L4,n4,_,R4,B4,rfl,oM,oM,oM,h4.weak oM,f0.or f4,trivial⟩
 ·refine xB ?_;refine x7 sV ?_;refine xB ?_;refine x7 sV ?_;refine xB ?_;refine x7 sV ?_;refine xB ?_;refine x7 sV ?_;refine xB ?_;refine x7 sV ?_;refine xB ?_;refine x7 sV ?_;refine xB ?_;refine x4 sV ?_;refine xK ?_;refine xC (uy H h0 oM hd hsf _) fun v t hv=>?_;obtain⟨L4,n4,m4,R4,B4,rfl,a4,b4,c4,h4,f4,_⟩:=hv;refine xu ?_;refine xF ?_;exact⟨L4,n4,_,R4,B4,rfl,oM,oM,oM,h4.weak oM,f0.trans f4,trivial⟩
end
def Xn:List Nat×ICode×ICode:=match f104.body with
 |.seq _ (.seq (.seq _ (.block _ (.rf _ ps a b))) _)=>(ps,a,b)
 |_=>([],.skip,.skip)
def FrX(b l:Nat)(L:List (Nat×Option AObj))(m:Nat)(L2:List (Nat×Option AObj))(m2:Nat):Prop:=∀j o,xD L j=some o→zqR o=true→j≠b→j≠l→xD L2 j=some o∧m2.testBit j=m.testBit j
theorem FrX.trans{b l:Nat}{L L2 L3:List (Nat×Option AObj)}{m m2 m3:Nat}(h:FrX b l L m L2 m2)(g:FrX b l L2 m2 L3 m3):FrX b l L m L3 m3:=fun j o h1 h2 h3 h4=>
 have ⟨q1,q2⟩:=h j o h1 h2 h3 h4;have ⟨q3,q4⟩:=g j o q1 h2 h3 h4
 ⟨q3,q4.trans q2⟩
theorem Fr2.x{b l:Nat}{L L2:List (Nat×Option AObj)}{m m2:Nat}(h:Fr2 L m L2 m2):FrX b l L m L2 m2:=fun j o h1 h2 _ _=>h j o h1 h2
section
variable {O:Orc}(H:IsO O){K:MK}{e:Bool}{op:List Int}{R B N u:Nat}{L:List (Nat×Option AObj)}{n:Nat}
include H
theorem zor{w:AV}(hwc:w.cells=[w])(m:Nat)(b:Bool):Cv ((evW env O).call 135 [w] (KL L n m b [] none)) fun v t=>∃m2,v=.fn 163 [] [.ptr n 0]∧t=KL ((n,some (.row 36 [w] false false))::L) (n+1) m2 b [] none∧m2=m:=by
 refine xO (F:=f135) (H.no _) rfl rfl (ziF rfl) ?_;unfold f135 cF;simp only;refine xB ?_;refine xB ?_;refine xu ?_;refine xF ?_;exact⟨_,rfl,rfl,rfl⟩
attribute [-go_sem] kw in
attribute [local go_sem] ltF gtF xI xH ziS ziW ziV ziQ xW in
theorem ztJ{nb b3 b5 l dd off ed:Nat}{w:AV}{vs:List Int}{tF:List (Nat×AV)}(h:MsO K e op R B N u L n)(hN:N<20000000)(hu:u≤b5)(gl:xD L l=some (.loop .ready none (tmL tF) Xn.1 Xn.2.1 Xn.2.2 dd))(gnb:xD L nb=some (.row 36 [w] false false))(g3:xD L b3=some (.row 71 [.ptr K.mp 0] false false))(g5:xD L b5=some (.row 3 [.int .i64 (.ofNat ed)] false false))(hed:ed<R)(t3:(tmL tF).get 3=some (.ptr b3 0))(t5:(tmL tF).get 5=some (.ptr b5 0))(hvw:IlV L w vs id off)(hid:id≠b5)(hl:vs.length≤40)(hr:∀x∈vs,InR R x)(m:Nat)(b:Bool):
  Cv ((evW env O).call 163 [.yld l,.ptr nb 0] (KL L n m b [] none)) fun v t=>∃L2 n2 m2 R2 B2 ed2,t=KL L2 n2 m2 b [] none∧R≤R2∧B≤B2∧n≤n2∧MsO K false op R2 B2 (N+110*40) u L2 n2∧xD L2 l=some (.loop .ready none (tmL tF) Xn.1 Xn.2.1 Xn.2.2 dd)∧xD L2 b5=some (.row 3 [.int .i64 (.ofNat ed2)] false false)∧ed2<R2∧FrX b5 l L m L2 m2:=by
 refine xO (F:=f163) (H.no _) rfl rfl (ziF rfl) ?_;have hs3:=Wu (k:=vs.length) oM;have hlen:=hvw.len;unfold f163 cF;simp only;refine xB ?_;refine xE ?_;refine xU (fun k:Nat=>k) (fun k fr s=>∃T L2 n2 m2 R2 B2 ed2,fr=⟨tmL T,[]⟩∧s=KL L2 n2 m2 false [] none∧(tmL T).get 0=some (.yld l)∧(tmL T).get 1=some (.ptr nb 0)∧(tmL T).get 3=some (.int .i64 (i3 k))∧k≤vs.length∧R≤R2∧B≤B2∧n≤n2∧MsO K false op R2 B2 (N+110*(vs.length-k)) u L2 n2∧xD L2 l=some (.loop .ready none (tmL tF) Xn.1 Xn.2.1 Xn.2.2 dd)∧xD L2 b5=some (.row 3 [.int .i64 (.ofNat ed2)] false false)∧ed2<R2∧FrX b5 l L m L2 m2) (fun k2 fr s hI=>?_) vs.length ⟨_,L,n,m,R,B,ed,rfl,rfl,sW,sW,sW,zo _,zo _,zo _,zo _,h.weak oM,gl,g5,hed,(Fr2.refl L m).x⟩;have e1:b5≠l:=fun e=>by rw[e,gl]at g5;cases g5
 have e2:b3≠l:=fun e=>by rw[e,gl]at g3;cases g3
 have e3:b3≠b5:=fun e=>by rw[e,g5]at g3;simp at g3
 have e4:nb≠l:=fun e=>by rw[e,gl]at gnb;cases gnb
 have e5:nb≠b5:=fun e=>by rw[e,g5]at gnb;simp at gnb
 have e6:vs≠[]→id≠l:=fun hne e=>by obtain⟨cs,x,f,h1,_⟩:=hvw.row hne;rw[e,gl]at h1;cases h1
 clear hs3 h gl g5 hed;obtain⟨T,L2,n2,m2,R2,B2,ed2,rfl,rfl,q0,q1,q3,hk3,hR,hB,hn,h2,gl,g5,hed,f2⟩:=hI;cases k2 with
 |zero=>
  simp only[i3]at q3;refine xu ?_;refine xF ?_;exact⟨L2,n2,m2,R2,B2,ed2,rfl,hR,hB,hn,h2.weak oM,gl,g5,hed,f2⟩
 | succ k2=>
  have hlt:k2<vs.length:=oM;have hia:=hvw.ia k2 hlt;obtain⟨x,hd⟩:∃x,vs.drop k2=x::vs.drop (k2+1):=⟨_,ziX hlt⟩;have hne:vs≠[]:=fun e=>by rw[e]at hlt;simp at hlt
  obtain⟨cs,xt,ff,gid,hcs⟩:=hvw.row hne;have hcx:=hcs k2 x _ hd;obtain⟨rx,rfl,hrx⟩:=hr x (zi2 (by rw[hd];exact zi9))
  replace gid:=(f2 _ _ gid rfl hid (e6 hne)).1;have gnb2:=(f2 _ _ gnb rfl e5 e4).1;have g32:=(f2 _ _ g3 rfl e3 e2).1;have hs2:=Wu (k:=k2) oM;simp only[i3]at q3;clear hd hcs gnb g3 hlen;refine xB ?_;refine xz (xE ?_);refine xz ?_;refine xK ?_;have hround:∀m,Cv ((evW env O).round l [.int .i64 (.ofNat k2),.int .i64 (.ofNat rx)] (KL L2 n2 m false [] none)) fun v t=>v=.bool true∧∃L3 n3 m3 R3 B3 ed3,t=KL L3 n3 m3 false [] none∧R2≤R3∧B2≤B3∧n2≤n3∧MsO K false op R3 B3 (N+110*(vs.length-(k2+1))+110) u L3 n3∧xD L3 l=some (.loop .ready none (tmL tF) Xn.1 Xn.2.1 Xn.2.2 dd)∧xD L3 b5=some (.row 3 [.int .i64 (.ofNat ed3)] false false)∧ed3<R3∧FrX b5 l L2 m L3 m3:=fun m=>by
   refine H7 gl rfl ?_;have hw2:=h2.wf;have hl2:=hw2.lt gl;have h5:=hw2.lt g5;have h3':=fun o=>h2.up (L2:=(l,o)::L2) (n2:=n2) (hw2.same hl2) fun j hj=>by
    by_cases hjl:j=l
    ·subst hjl;exact .inr ⟨_,gl,rfl,.inl rfl⟩
    ·exact .inl (by rw[xr,if_neg hjl])
   have fx:∀o,FrX b5 l L2 m ((l,o)::L2) (m|||1<<<l):=fun o j o' h1 _ _ h4=>⟨by rw[xr,if_neg h4];exact h1,qn h4⟩
   simp only[Xn,f104]at gl⊢;refine xu ?_;refine⟨trivial,_,_,_,rfl,sV,?_⟩;refine xE ?_;refine xz (xK ?_);refine xC (pl (H.no _) (h3' _) oM _) fun v t hv=>?_;obtain⟨L4,m4,rfl,rfl,h4,f4⟩:=hv;have gl4:=(f4 l _ (xG _ _ _) rfl).1;have g54:=(f4 b5 _ (by rw[xr,if_neg e1];exact g5) rfl).1
   have g34:=(f4 b3 _ (by rw[xr,if_neg e2];exact g32) rfl).1
   have fx4:=(fx _).trans (f4.x (b:=b5) (l:=l));have hw4:=h4.wf;have h4':=fun o=>h4.up (L2:=(n2,o)::L4) (n2:=n2+1) ((hw4.up (zhi _)).same (zV _)) (Oth.same fun j hj=>by rw[xr,if_neg oM])
   have fn4:=fun(o:Option AObj) (m:Nat)=>Fr2.new (m:=m) hw4 (L2:=(n2,o)::L4) fun j hj=>by rw[xr,if_neg oM]
   clear h3' fx f4;refine xu ?_;refine xz (xK ?_);refine xC (ZQ H (h4' _) oM (d:=R2) (k:=0) (zV R2) oM (IlV.lit (l:=[.ofNat rx,.ofNat ed2]) (xG _ _ _)) (by simp) (fun z hz=>by
    simp only[ziU,List.not_mem_nil,or_false]at hz;rcases hz with rfl|rfl<;>exact inR oM) _) fun v t hv=>?_
   obtain⟨L5,n5,m5,R5,B5,rfl,a5,b5',c5,h5',f5,_⟩:=hv;have gl5:=(f5 l _ (fn4 _ 0 l _ gl4 rfl).1 rfl).1;have g55:=(f5 b5 _ (fn4 _ 0 b5 _ g54 rfl).1 rfl).1;have fx5:=fx4.trans (((fn4 _ _).trans f5).x (b:=b5) (l:=l));have hw5:=h5'.wf;have h55:=hw5.lt g55;have hl5:=hw5.lt gl5;clear gl4 g54 fx4 f5 fn4 h4';refine xu ?_;refine xu ?_;refine⟨trivial,_,_,_,_,_,rfl,(xr _ _ _ _).trans ((if_neg (Ne.symm e1)).trans gl5),trivial,_,n5,_,R5,B5,R2,rfl,oM,oM,oM,(h5'.up (L2:=(l,_)::(b5,some (.row 3 [.int .i64 (.ofNat R2)] false false))::L5) (n2:=n5) ((hw5.same h55).same hl5) fun j hj=>?_).weak oM,xG _ _ _,by rw[xr,if_neg e1,xG],oM,fun j o h1 h2 h3 h4=>?_⟩
   ·by_cases hj1:j=l
    ·subst hj1;exact .inr ⟨_,gl5,rfl,.inl rfl⟩
    ·by_cases hj2:j=b5
     ·subst hj2;exact .inr ⟨_,g55,rfl,.inr hu⟩
     ·exact .inl (by rw[xr,if_neg hj1,xr,if_neg hj2])
   ·obtain⟨p1,p2⟩:=fx5 j o h1 h2 h3 h4;exact⟨by rw[xr,if_neg h4,xr,if_neg h3];exact p1,by rw[ZN,qn h4,qn h3];exact p2⟩
  refine xC (hround _) fun v t hv=>?_;obtain⟨rfl,L3,n3,m3,R3,B3,ed3,rfl,a3,b3',c3,h3,gl3,g53,hed3,f3⟩:=hv;clear hround gid gnb2 g32 gl g5;refine xu ?_;refine xu ?_;refine xu ?_;exact⟨k2,⟨_,L3,n3,_,R3,B3,ed3,rfl,rfl,sV,sV,sV,oM,oM,oM,oM,h3.weak oM,gl3,g53,hed3,f2.trans f3⟩,oM⟩
end
end Go.Proofs.YtbdfljdgapkbcaaGreatDoor.Ev

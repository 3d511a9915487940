/- Contracts of functions that ClosureConverts calls: what a call answers. No conditions. -/
import Derived.Test.YtbddpjboppmnfaaGreatDoorWC
import Derived.Test.YtbddpjboppmnfaaGreatDoorWB
set_option linter.unusedSimpArgs false
set_option linter.unusedVariables false
set_option linter.defProp false
set_option maxHeartbeats 4000000
set_option linter.unusedSectionVars false
noncomputable section
open List renaming length → zR, getD_eq_getElem?_getD → xR, length_cons → yJ, length_append → y8, append_assoc → zum, length_nil → xY, getElem?_eq_getElem → xj, cons_append → yu, drop_eq_getElem_cons → zud, nil_append → zv1, mem_cons_self → zvZ, mem_of_mem_drop → zvY, append_nil → zvV, mem_cons → zua, pairwise_cons → zuC, replicate → zuD, getElem?_replicate → zux, take_of_length_le → yq, length_pos_iff_exists_mem → zuE, mem_append → zuq, mem_append_left → zuF, map_cons → ye, length_drop → zvU, head?_drop → zuH, length_set → zuj, getElem?_of_mem → zuh, mem_cons_of_mem → zuz, mem_of_getElem? → xU, sum_cons → zuI
open Bool renaming and_eq_true → zU, false_and → zvW, cond_self → zv7, and_self → xZ, true_and → xC, and_false → zv8, not_false → zv6, not_true → wa, or_self → zuk, false_or → x9, true_or → zut, and_true → zui, or_true → zul
open Nat renaming le_refl → zX, zero_le → yz, zero_mod → zv9, or_zero → zub, zero_or → zuc, mul_one → x8, le_of_ble_eq_true → zvT, lt_succ_self → yK, le_succ → zur, le_trans → yb, not_lt_zero → wg, zero_add → xB
open List.Pairwise renaming nil → zuG
open List.Perm renaming refl → wi
namespace Go.Proofs.YtbddpjboppmnfaaGreatDoor.Ev
variable {l:zw}{x n y:Int}{c:Cd}{S:ze}{O:Orc}{v:Z}{P:Program}{X:World}{i k m f t:Nat}{s:U}{cs:zA}
open T
set_option maxRecDepth 100000
attribute [local go_sem] wF wI qh Nat.or_zero Nat.zero_or Nat.zero_mod Bool.cond_self ltF gtF
def jz(P:Program)(X:World)(c:Cd):Int:=
 bif (ltD c.globals (.ofNat 0)||ltD (.ofNat 20000) c.globals)||ltD c.vars (.ofNat 0)then .ofNat 2
 else bif Un P X c.consts then (bif gQ c then .ofNat 0 else .ofNat 4)else .ofNat 2
structure EaPre(N:Nat)(c:Cd):Prop where
 cs:CsPre N c.consts
 sz:CdSz c
def We(P:Program)(X:World)(N:Nat):zA->U->zc:=v7 vo (EaPre N) (λc=>.int .i64 (jz P X c))
section
variable {P:Program}{X:World}(B:Bx P X){O:Orc}{N:Nat}(hO:OrcOk P X O)
include B hO
def FX(H:NOrc P X N O)(h46:O 46=some Md)(c:Cd)(hc:EaPre N c):∃s1,SC P X 30 (vo c) (s00 0 true) (.int .i64 (jz P X c)) s1:=by
 refine bew B hO f30 ?_;have hwh:=λs=>oc h46 uC c hc.sz (jr c) s;obtain⟨R,hR⟩:∃R,jz P X c=R:=⟨_,rfl⟩;rw[hR];unfold jz at hR;have hcs:=hc.cs;obtain⟨fs,main,vars,globals,consts⟩:=c;simp only at hcs hR;have hne:=λ{L n} (hw:WfA L n) m=>zxA H hcs hw m;simp only[vo,v8,qc]at hwh|-;unfold f30 cF;simp only;have hin:∀(s:U) (k:Nat),Fz s (.int .i64 (.ofNat k)) (.int .i64 (.ofNat k)):=λs k=>wS s _ _;cases c1:ltD globals (.ofNat 0)with
 |true=>
  rw[c1]at hR;simp only[zut,wy]at hR;subst hR;clear hne hwh;refine wq ?_;refine wq ?_;refine qP ?_;exact hin _ _
 |false=>
 cases c2:ltD (.ofNat 20000) globals with
 |true=>
  rw[c2]at hR;simp only[zut,zul,wy]at hR;subst hR;clear hne hwh;refine wq ?_;refine wq ?_;refine qP ?_;exact hin _ _
 |false=>
 cases c3:ltD vars (.ofNat 0)with
 |true=>
  rw[c3]at hR;simp only[zul,wy]at hR;subst hR;clear hne hwh;refine wq ?_;refine wq ?_;refine qP ?_;exact hin _ _
 |false=>
 rw[c1,c2,c3]at hR;simp only[zuk,wK]at hR;refine wq ?_;refine wq ?_;apply wp;refine wp (qB ?_);refine wO (hne (λj hj=>by rw[gN J];rfl) _) λv t hv=>?_
 obtain⟨x,L2,n2,m2,rfl,hx,rfl,hle,hfr⟩:=hv;have g0:=(hfr 0 J).trans (wC _ _ _);have hxs:vF x=true:=by rcases hx with rfl|⟨p,rfl⟩<;>rfl
 clear hne hx hfr;cases hk:Un P X consts with
 |false=>
  rw[hk]at hR;simp only[wK]at hR|-;subst hR;clear hwh;refine wu ?_;refine ev_zc ?_;exact hin _ _
 | true=>
  rw[hk]at hR;simp only[wy]at hR|-;generalize gQ _=wb at *;cases wb with
  |false=>
   simp only[wK]at hR;subst hR;refine wu ?_;refine wu ?_;refine ev_zc ?_;exact hin _ _
  |true=>
   simp only[wy]at hR;subst hR;refine wu ?_;refine wu ?_;refine ev_zc ?_;exact hin _ _
end
def CN{f:Fn}{t:Trm}(h:uD c f t=true)(h2:eqD t.kind (.ofNat 2)=true):∃j,t.fn=.ofNat j/\j<List.length c.fs:=by
 unfold uD at h;rw[zU]at h;have hk:t.kind=.ofNat 2:=by simpa [eqD]using h2
 have h1:eqD t.kind (.ofNat 1)=false:=by rw[hk];rfl
 have h3:=h.2;rw[h1,wK]at h3;unfold Yz at h3;rw[zU,h2,wy,zU,zU]at h3;exact gC h3.2.1.1
mutual
theorem UB{c:Cd}{f:Fn}:∀t:Trm,ur c f t=true->SzT t->J6 t/\VH (zR c.fs) t
 |.mk k v op n fn az ks,h,hs=>by
  simp only[ur,zU]at h;simp only[SzT]at hs;have h1:=Va h.1;have h2:=λe=>CN h.1 e;obtain⟨h3,h4⟩:=aD ks h.2 hs.2.2;simp only[Trm.kids,Trm.kind,Trm.fn]at h1 h2;simp only[J6,VH];exact⟨⟨h1,h3⟩,hs.1,h1,h2,h4⟩
theorem aD{c:Cd}{f:Fn}:∀ks:List Trm,jH c f ks=true->p7 ks->VD ks/\KW (zR c.fs) ks
 |[],_,_=>by simp only[VD,KW,and_self]
 |t::r,h,hs=>by
  simp only[jH,zU]at h;simp only[p7]at hs;obtain⟨a1,a2⟩:=UB t h.1 hs.1;obtain⟨b1,b2⟩:=aD r h.2 hs.2;simp only[VD,KW];exact⟨⟨a1,b1⟩,a2,b2⟩
end
structure ChPre(N:Nat)(c:Cd):Prop where
 ea:EaPre N c
 nt:∀f∈c.fs,qb f.b<=900000000
 us:(jh c).length<1000000000
 vs:c.vars< .ofNat 9223372036854775808
def gU(h:jz P X c=.ofNat 0):gQ c=true/\Un P X c.consts=true/\ltD c.globals (.ofNat 0)=false/\ltD (.ofNat 20000) c.globals=false/\ltD c.vars (.ofNat 0)=false:=by
 unfold jz at h;generalize ltD c.globals (.ofNat 0)=a at *;generalize ltD (.ofNat 20000) c.globals=b at *;generalize ltD c.vars (.ofNat 0)=d at *;generalize Un P X c.consts=e at *;generalize gQ c=g at *;revert h;cases a<;>cases b<;>cases d<;>cases e<;>cases g<;>intro h<;>first|exact⟨rfl,rfl,rfl,rfl,rfl⟩|exact absurd h (by decide)
def aM{N:Nat}(hp:ChPre N c)(h:gQ c=true):CdOk c/\aP c:=by
 have key:∀f∈c.fs,J6 f.b/\VH (zR c.fs) f.b:=λf hf=>by
  unfold gQ at h;rw[zU]at h;have h1:=List.all_eq_true.1 h.2 f hf;unfold wFn at h1;rw[zU,zU]at h1;exact UB f.b h1.2.2 (hp.ea.sz.f f hf).2.2
 exact⟨⟨hp.ea.sz.n,λf hf=>⟨(key f hf).2,hp.nt f hf,(hp.ea.sz.f f hf).1⟩⟩,hp.ea.sz.n,λf hf=>⟨(hp.ea.sz.f f hf).1,(hp.ea.sz.f f hf).2.2,(key f hf).1⟩⟩
def UM(c:Cd):Nat->List Fn->Bool
 |_,[]=>false
 |i,f::r=>((eqD (.ofNat i) c.main||decide (0<zR f.fr))&&decide (0<((qF c).getD i []).length))||UM c (i+1) r
def kv(P:Program)(X:World)(c:Cd):Int:=
 bif eqD (jz P X c) (.ofNat 0)then (bif Wx c then (bif UM c 0 c.fs then .ofNat 6 else .ofNat 0)else .ofNat 14)else jz P X c
def oN(P:Program)(X:World)(N:Nat):zA->U->zc:=v7 vo (ChPre N) (λc=>.int .i64 (kv P X c))
open Nat (reduceEqDiff reduceLeDiff reduceLT reduceAdd reduceMul reduceSub reduceMod reducePow reduceDiv reduceOr reduceShiftLeft reduceGT reduceSucc)
open List (length_cons length_nil length_take length_drop)
open Int (reduceOfNat reduceNegSucc)
section
variable {P:Program}{X:World}(B:Bx P X){O:Orc}{N:Nat}(hO:OrcOk P X O)
include B hO
attribute [local go_sem] mD zyj in
def FD(h30:O 30=some (We P X N))(h31:O 31=some I7)(h32:O 32=none)(h48:O 48=some (Vb 900000000))(c:Cd)(hc:ChPre N c):∃s1,SC P X 11 (vo c) (s00 0 true) (.int .i64 (kv P X c)) s1:=by
 refine bew B hO f11 ?_;have hea:=λs=>oc h30 uC c hc.ea (jr c) s;obtain⟨R,hR⟩:∃R,kv P X c=R:=⟨_,rfl⟩;rw[hR];unfold kv at hR;have hw:=λh=>aM hc (gU (P:=P) (X:=X) (c:=c) h).1;generalize jz P X c=e at *;cases c1:eqD e (.ofNat 0)with
 |false=>
  rw[c1]at hR;simp only[wK]at hR;subst hR;clear hw;obtain⟨fs,main,vars,globals,consts⟩:=c;unfold f11 cF;simp only[vo,v8,qc]at hea|-;refine wq ?_;refine wq ?_;refine qP ?_;exact wS _ _ _
 | true=>
  rw[c1]at hR;simp only[wy]at hR;have he:e=.ofNat 0:=by simpa [eqD]using c1
  subst he;obtain⟨hok,hon⟩:=hw rfl;have hoc:=λs=>oc h31 uC c hon (jr c) s;have hse:=λ{L0 n0} (hw0:WfA L0 n0) m=>AY h32 h48 hok hw0 m false;have hfz:=hc.ea.sz.f;have hnf:=hc.ea.sz.n;clear hw hok hon c1 hc;unfold f11 cF;cases c2:Wx c with
  |false=>
   rw[c2]at hR hoc;simp only[wK]at hR;subst hR;clear hse;obtain⟨fs,main,vars,globals,consts⟩:=c;simp only[vo,v8,qc]at hea hoc|-;refine wq ?_;refine wq ?_;refine wq ?_;refine qP ?_;exact wS _ _ _
  | true=>
   rw[c2]at hR hoc;simp only[wy]at hR;clear c2;have hcut:=λi f r h=> @X0 c.fs i f r h;have hcap:∀i,UM c i (c.fs.drop i)=match c.fs.drop i with
    |[]=>false
    |f::r=>((eqD (.ofNat i) c.main||decide (0<zR f.fr))&&decide (0<((qF c).getD i []).length))||UM c (i+1) r:=λi=>by
    cases c.fs.drop i<;>rfl
   have hS:=(lA c (pg c));generalize hCI:UM c=CI at *;generalize qF c=SS at *;obtain⟨fs,main,vars,globals,consts⟩:=c;simp only[vo,v8,qc]at hea hoc hse hcut hcap hfz hnf hR|-;refine wq ?_;refine wq ?_;refine wq ?_;refine wp (qB ?_);refine wO (hse (λj hj=>by rw[gN J];rfl) _) λv t hv=>?_
   obtain⟨ids,fid,L,n,m,rfl,rfl,hM,hil,hn,hfr⟩:=hv;have g0:=((hfr 0 J).1).trans (wC _ _ _);clear hse hfr hea hoc hS;refine wu ?_;refine wp (wp (wu ?_));apply wA;refine wP (λi:Nat=>zR fs-i) (λi f t=>∃T L2 n2 m2,f=⟨tmL T,[]⟩/\t=KL L2 n2 m2 false/\G T 1 (.ptr 0 0)/\G T 4 (.sl fid 0 (zR fs) (.fix (zR fs)))/\G T 18 (.lst (zR fs) false (wo wW fs))/\G T 19 (zR fs)/\G T 20 i/\i<=zR fs/\SetM ids SS fid (0+1) L2 n2/\0<n2/\wn L2 0=some (.row 25 [.lst (zR fs) false (wo wW fs),main,vars,globals,.lst (zR consts) false (wQ consts)])/\(bif CI i (fs.drop i)then (.ofNat 6:Int)else .ofNat 0)=R) (λi f t hI=>?_) 0 ⟨_,L,n,_,rfl,rfl,sW,sW,sW,sW,sW,yz _,hM,J,g0,hR⟩;clear hR hM g0 hn;obtain⟨T,L2,n2,m2,rfl,rfl,t1,t4,t18,t19,t20,hi,hM,hn,g0,hR⟩:=hI;rcases wJ fs i with ⟨hlt,hd⟩|⟨g,hlt,hd⟩
   .rw[hcap i,hd]at hR;simp only[wK]at hR;subst hR;have:¬i<zR fs:=J;clear hcap hcut hfz hM hCI;refine wu ?_;refine ev_zc ?_;exact wS _ _ _
   .rw[hcap i,hd]at hR;simp only at hR;have hcg:=hcut i g _ hd;have hgl:=(hfz g (zvY (by rw[hd];exact zvZ))).2.1
    obtain⟨gps,grest,gcont,gfr,gb⟩:=g;obtain⟨gk,gv,gop,gn,gf,gas,gks⟩:=gb;simp only[wW,wE,qt]at hcg hR hgl;have hii:i<zR ids:=J;have hid:ids[i]? =some ids[i]:=xj hii;generalize hidd:ids[i]=Y at hid;have gid:=hM.maps i Y hid;have grow:=hM.row;have hidn:=hM.wf.lt gid;have hfn:=hM.wf.lt grow;have hcut2:qf 1 (qv i (ids.map Z.map))=some [.map Y]:=by
     have:(ids.map Z.map).drop i=.map Y::(ids.map Z.map).drop (i+1):=by
      rw[zud (by simpa using hii)]
      simp[hidd]
     rw[qH,this];rfl
    have hul:=zwh (SS.getD i []);have hlo:=hM.los Y (xU hid);have hlf:=hM.lof;have hM2:∀o1 o2:zm,SetM ids SS fid (0+1) ((n2,o1)::(n2,o2)::L2) (n2+1):=λo1 o2=>hM.oth (by
     have hw:=hM.wf
     repeat first|exact hw.up J|refine WfA.same ?_ J) λj hj _=>by rw[gN J,gN J]
    generalize uS (SS.getD i [])=ul at *;generalize SS.getD i []=sl at *;clear hcap hcut hfz hM hCI hd;by_cases hs:0<zR sl
    .rw[qL hs]at hR;cases c1:eqD (.ofNat i) main with
     |true=>
      rw[c1]at hR;simp only[zut,xC,wy]at hR;subst hR;clear hM2;refine ev_zc ?_;exact wS _ _ _
     |false=>
      rw[c1]at hR;by_cases hg:0<zR gfr
      .rw[qL hg]at hR;simp only[x9,xC,zut,wy]at hR;subst hR;clear hM2;refine ev_zc ?_;exact wS _ _ _
      .rw[qy hg]at hR;simp only[x9,zvW]at hR;refine wu ?_;exact⟨i+1,⟨_,_,n2+1,_,rfl,rfl,V,V,V,V,V,J,hM2 _ _,J,V,hR⟩,J⟩
    .rw[qy hs]at hR;simp only[zv8,x9]at hR;cases c1:eqD (.ofNat i) main with
     |true=>
      refine wu ?_;exact⟨i+1,⟨_,_,n2+1,_,rfl,rfl,V,V,V,V,V,J,hM2 _ _,J,V,hR⟩,J⟩
     |false=>
      by_cases hg:0<zR gfr
      .refine wu ?_;exact⟨i+1,⟨_,_,n2+1,_,rfl,rfl,V,V,V,V,V,J,hM2 _ _,J,V,hR⟩,J⟩
      .refine wu ?_;exact⟨i+1,⟨_,_,n2+1,_,rfl,rfl,V,V,V,V,V,J,hM2 _ _,J,V,hR⟩,J⟩
end
def Jt{c:Cd}(h:gQ c=true):∀f∈c.fs,(f.ps++f.fr).all (λx=>wV x c.vars)=true/\ur c f f.b=true/\(f.rest=true->f.ps≠[]):=λf hf=>by
 unfold gQ at h;rw[zU]at h;have h1:=List.all_eq_true.1 h.2 f hf;unfold wFn at h1;rw[zU,zU]at h1;refine⟨h1.2.1,h1.2.2,λhr he=>?_⟩;have h3:=h1.1;rw[hr,he]at h3;cases h3
def mT{m:Int}:wV n m=true↔0<=n/\n<m:=by
 unfold wV ltD;rw[zU,Bool.not_eq_true',decide_eq_false_iff_not,hZ];exact⟨λh=>⟨Int.not_lt.1 h.1,h.2⟩,λh=>⟨Int.not_lt.2 h.1,h.2⟩⟩
def E1{vars nc:Int}{a:Atm}:K3 vars nc a=true↔(a.k=.ofNat 1/\wV a.n vars=true)\/(a.k=.ofNat 2/\wV a.n nc=true):=by
 unfold K3;by_cases h1:a.k=.ofNat 1
 .have h2:¬a.k=.ofNat 2:=by rw[h1];decide
  have h1':a.k=1:=h1;have e1:eqD a.k (.ofNat 1)=true:=qL h1;have e2:eqD a.k (.ofNat 2)=false:=qy h2;rw[e1,e2];cases wV a.n vars<;>simp[h1']
 .have e1:eqD a.k (.ofNat 1)=false:=qy h1;have h1':¬a.k=1:=h1;by_cases h2:a.k=.ofNat 2
  .have e2:eqD a.k (.ofNat 2)=true:=qL h2;have h2':a.k=2:=h2;rw[e1,e2];cases wV a.n nc<;>simp[h2']
  .have e2:eqD a.k (.ofNat 2)=false:=qy h2;have h2':¬a.k=2:=h2;rw[e1,e2];simp[h1',h2']
def JV{sc:zw}{x:Int}:∀{az:List Atm} {ow:zw},x∈uy sc ow az->x∈ow\/∃a∈az,eqD a.k (.ofNat 1)=true/\a.n=x
 |[],ow,h=>.inl h
 | a::r,ow,h=>by
  simp only[uy]at h;rcases JV h with h|⟨b,hb,h1,h2⟩
  .cases hk:eqD a.k (.ofNat 1)with
   |false=>rw[hk]at h;exact .inl h
   |true=>
    rw[hk,wy,Yq]at h;rcases h with h|⟨h,_⟩
    .exact .inl h
    .exact .inr ⟨a,by simp,hk,h.symm⟩
  .exact .inr ⟨b,by simp[hb],h1,h2⟩
def PO{sc:zw}{x:Int}:∀{l ow:zw},x∈QZ sc ow l->x∈ow\/x∈l
 |[],ow,h=>.inl h
 | a::r,ow,h=>by
  simp only[QZ]at h;rcases PO h with h|h
  .rw[Yq]at h;rcases h with h|⟨h,_⟩
   .exact .inl h
   .exact .inr (by simp[h])
  .exact .inr (by simp[h])
section
variable {c:Cd}{f:Fn}{S:ze}{i:Nat}(hS:∀j,∀x∈S.getD j [],wV x c.vars=true)
include hS
mutual
theorem Ge:∀(t:Trm) (sc ow:zw),ur c f t=true->(∀x∈ow,wV x c.vars=true)->∀x∈jT S i t sc ow,wV x c.vars=true
 | .mk k v op n fn az ks,sc,ow,ht,ho=>by
  simp only[ur,zU]at ht;simp only[jT];refine JE ks _ _ ht.2 λx hx=>?_;have hat:=ht.1;unfold uD at hat
  rw[zU]at hat
  have hats:=List.all_eq_true.1 hat.1;have ha:∀x∈uy sc ow az,wV x c.vars=true:=λx hx=>by
   rcases JV hx with hx|⟨a,ha,hk,rfl⟩
   .exact ho x hx
   .rcases E1.1 (hats a ha)with ⟨_,h⟩|⟨h,_⟩
    .exact h
    .rw[h]at hk;cases hk
  unfold Qy at hx;cases hk:eqD k (.ofNat 2)with
  |false=>rw[hk]at hx;exact ha x hx
  | true=>
   rw[hk,wy]at hx;split at hx
   .exact ha x hx
   .rcases PO hx with hx|hx
    .exact ha x hx
    .exact hS _ x hx
theorem JE:∀(ks:List Trm) (sc ow:zw),jH c f ks=true->(∀x∈ow,wV x c.vars=true)->∀x∈jC S i ks sc ow,wV x c.vars=true
 |[],_,ow,_,ho=>by simp only[jC];exact ho
 |x::r,sc,ow,ht,ho=>by
  simp only[jH,zU]at ht;simp only[jC];exact Ge x sc _ ht.1 (JE r sc ow ht.2 ho)
end
end
def J2{c:Cd}:∀(fs:List Fn) (i:Nat) (S:ze),(∀f∈fs,ur c f f.b=true)->i+zR fs<=zR S->(∀j,∀x∈S.getD j [],wV x c.vars=true)->∀j,∀x∈(kZ fs i S).getD j [],wV x c.vars=true
 |[],_,_,_,_,h=>h
 |f::r,i,S,hf,hl,h=>by
  simp only[kZ];simp only[yJ]at hl;refine J2 r (i+1) _ (λg hg=>hf g (by simp[hg])) (by rw[zuj];omega) λj x hx=>?_
  rw[pV J]at hx;split at hx
  .exact Ge h f.b _ _ (hf f (by simp)) (h i) x hx
  .exact h j x hx
def ax:∀(fs:List Fn) (i:Nat) (S:ze),(kZ fs i S).length=zR S
 |[],_,_=>rfl
 |f::r,i,S=>by simp only[kZ];rw[ax r,zuj]
def iV{c:Cd}(h:∀f∈c.fs,ur c f f.b=true):∀j,∀x∈(qF c).getD j [],wV x c.vars=true:=by
 have key:∀k,(itS c k).length=zR c.fs/\∀j,∀x∈(itS c k).getD j [],wV x c.vars=true:=λk=>by
  induction k with
  | zero=>
   simp only[itS];refine⟨List.length_replicate,λj x hx=>?_⟩;have e:(zuD (zR c.fs) ([]:zw)).getD j []=[]:=by
    rw[xR];by_cases h:j<zR c.fs
    .rw[zux,wH h];rfl
    .rw[zux,wx h];rfl
   rw[e]at hx;cases hx
  |succ k ih=>
   simp only[itS,lL];exact⟨by rw[ax];exact ih.1,J2 c.fs 0 _ h (by rw[ih.1];omega) ih.2⟩
 exact(key _).2
open Int renaming reduceOfNat → rO, reduceNegSucc → rN
def q9(l:zw):zw:=l.mergeSort λx y=>decide (x<=y)
def Qr(l:zw):(q9 l).length=zR l:=List.length_mergeSort l
structure SrPre(x:Nat×Nat×zw)(args:zA)(s:U):Prop where
 args:args=[.fn 51 [] [.ptr x.1 0]]
 row:s.get x.1=some (.row 74 [.map x.2.1])
 map:s.get x.2.1=some (.umap (uS x.2.2))
 nd:x.2.2.Nodup
 len:zR x.2.2<1000000000
 rng:∀y∈x.2.2,0<=y/\y< .ofNat 9223372036854775808
def SrPre.uniq{x y:Nat×Nat×zw}{args:zA}(h:SrPre x args s)(g:SrPre y args s):x=y:=by
 obtain⟨p,m,l⟩:=x;obtain⟨p',m',l'⟩:=y;have h1:=h.args.symm.trans g.args;simp only[vc,Z.fn.injEq,Z.ptr.injEq,true_and,and_true]at h1;subst h1;have h2:=h.row.symm.trans g.row;simp only[wB,AObj.row.injEq,vc,Z.map.injEq,true_and,and_true]at h2;subst h2;have h3:=h.map.symm.trans g.map;simp only[wB,AObj.umap.injEq]at h3;rw[sB h3]
open Classical in
def kU(args:zA)(s:U):zc:=
 if h:∃x,SrPre x args s then some (qt (q9 (Classical.choose h).2.2),s)else none
def GY{x:Nat×Nat×zw}{args:zA}(h:SrPre x args s):kU args s=some (qt (q9 x.2.2),s):=by
 have hx:∃x,SrPre x args s:=⟨x,h⟩;unfold kU;rw[dif_pos hx,(Classical.choose_spec hx).uniq h]
def v9(l:zw):zA:=[qt l]
theorem YM(l:zw):(v9 l).length=1:=rfl
theorem ee(l:zw):w8 (v9 l)=true:=rfl
def XX(l:zw):wL (v9 l)=true:=by simp only[v9,wR,jn,wU,xZ]
def BF(l:zw):wkL (v9 l)=v9 l:=by simp only[v9,qt,wkL,wkV,GM]
def vT(ls:ze):Z:=.lst (zR ls) false (wo v9 ls)
def Pq(P:Program)(X:World)(c:Cd):ze:=bif eqD (jz P X c) (.ofNat 0)then (qF c).map q9 else []
def zyh(P:Program)(X:World)(N:Nat):zA->U->zc:=v7 vo (ChPre N) (λc=>vT (Pq P X c))
section
variable {O:Orc}
def TA(h34:O 34=none)(Y:Nat)(L:zb)(n m:Nat):Cv (cl O 34 [.map Y] (KL L n m false)) λv t=>∃m2,v=.fn 51 [] [.ptr n 0]/\t=KL ((n,some (.row 74 [.map Y]))::L) (n+1) m2 false:=by
 refine qD (F:=f34) h34 rfl rfl (zvT rfl) ?_;unfold f34 cF;simp only;refine wq ?_;refine wq ?_;refine ev_zc ?_;exact⟨_,rfl,rfl⟩
end
section
variable {P:Program}{X:World}(B:Bx P X){O:Orc}{N:Nat}(hO:OrcOk P X O)
include B hO
attribute [local go_sem] mD zyj qq qp qt in
def Te(h30:O 30=some (We P X N))(h32:O 32=none)(h33:O 33=some kU)(h34:O 34=none)(h48:O 48=some (Vb 900000000))(c:Cd)(hc:ChPre N c):∃s1,SC P X 12 (vo c) (s00 0 true) (vT (Pq P X c)) s1:=by
 refine bew B hO f12 ?_;have hea:=λs=>oc h30 uC c hc.ea (jr c) s;obtain⟨R,hR⟩:∃R,Pq P X c=R:=⟨_,rfl⟩;rw[hR];unfold Pq at hR;have hw:=λh=>aM hc (gU (P:=P) (X:=X) (c:=c) h).1;have hwf:=λh=>Jt (gU (P:=P) (X:=X) (c:=c) h).1;generalize jz P X c=e at *;cases c1:eqD e (.ofNat 0)with
 |false=>
  rw[c1]at hR;simp only[wK]at hR;subst hR;clear hw hwf;obtain⟨fs,main,vars,globals,consts⟩:=c;unfold f12 cF;simp only[vo,v8,qc]at hea|-;refine wq ?_;refine wq ?_;refine qP ?_;exact uc
 | true=>
  rw[c1]at hR;simp only[wy]at hR;have he:e=.ofNat 0:=by simpa [eqD]using c1
  subst he;obtain⟨hok,hon⟩:=hw rfl;have hwt:=hwf rfl;clear hwf;have hse:=λ{L0 n0} (hw0:WfA L0 n0) m=>AY h32 h48 hok hw0 m false;have hnf:=hc.ea.sz.n;have hus:=hc.us;have hrg:∀j,∀x∈(qF c).getD j [],0<=x/\x< .ofNat 9223372036854775808:=λj x hx=>by
   have h1:=mT.1 (iV (λf hf=>(hwt f hf).2.1) j x hx);exact⟨h1.1,Int.lt_trans h1.2 hc.vs⟩
  clear hwt;have hS:SOk (jh c) (zR c.fs) (qF c):=lA c (pg c);clear hw hok hon c1 hc;unfold f12 cF;generalize qF c=SS at *;generalize jh c=U9 at *;obtain⟨fs,main,vars,globals,consts⟩:=c;simp only[vo,v8,qc]at hea hse hnf hS|-;have hSl:=hS.len;refine wq ?_;refine wq ?_;refine wp (wp (qB ?_));refine wO (hse (λj hj=>by rw[wz,wx J];rfl) _) λv t hv=>?_
  obtain⟨ids,fid,L,n,m,rfl,rfl,hM,hil,hn,hfr⟩:=hv;clear hse hfr hea;refine wu ?_;apply wA;refine wP (λi:Nat=>zR fs-i) (λi f t=>∃T L2 n2 m2 oid out,f=⟨tmL T,[]⟩/\t=KL L2 n2 m2 false/\(tmL T).get 2=some (gSl 1 oid (zR out))/\(tmL T).get 9=some (.sl fid 0 (zR fs) (.fix (zR fs)))/\(tmL T).get 10=some (.int .i64 (.ofNat (zR fs)))/\(tmL T).get 11=some (.int .i64 (.ofNat i))/\i<=zR fs/\SetM ids SS fid (0+1) L2 n2/\zR out=i/\out++(SS.drop i).map q9=R/\(out≠[]->oid<n2/\wn L2 oid=some (.row 40 (wo v9 out) true false))) (λi f t hI=>?_) 0 ⟨_,L,n,_,0,[],rfl,rfl,by simp (disch:=first|exact dis|fail)only[go_sem,seval,-rO,-rN,gSl],sW,sW,sW,yz _,hM,rfl,hR,λh=>absurd rfl h⟩
  clear hR hM hn;obtain⟨T,L2,n2,m2,oid,out,rfl,rfl,t2,t9,t10,t11,hi,hM,rfl,hR,hg⟩:=hI;rcases wJ SS (zR out)with ⟨hlt,hd⟩|⟨l,hlt,hd⟩
  .rw[hd]at hR;simp only[List.map_nil,zvV]at hR;subst hR;have hni:¬zR out<zR fs:=J;clear hM;refine wu ?_;refine wu ?_;refine qP ?_;have hfl:∀(s:U) (ls:ze),FzL s (wo v9 ls) (wo v9 ls):=λs ls=>by
    induction ls with
    |nil=>exact ve
    |cons x r ih=>exact wG (uo (Wb x) (GM x)) ih
   cases out with
   |nil=>exact uc
   |cons x r=>
    obtain⟨_,q⟩:=hg (by simp)
    have hp:wL (wo v9 (x::r))=true:=wX XX _;show Fz _ (.sl oid 0 (r.length+1) (.opn 1)) (.lst (x::r).length false (wo v9 (x::r)));simp only[Fz];refine⟨hp,.inr ⟨trivial,oid,0,.opn 1,_,_,_,_,wo v9 (x::r),rfl,trivial,by rw[qk];exact q,?_,hfl _ _⟩⟩
    show qf _ (qv 0 _)=_;exact qz rfl
  .rw[hd]at hR;simp only[ye]at hR;have hii:zR out<zR ids:=J;have hid:ids[zR out]? =some ids[zR out]:=xj hii;generalize hidd:ids[zR out]=Y at hid;have gid:=hM.maps (zR out) Y hid;have hlt2:SS.getD (zR out) []=l:=by
    rw[xR,<-zuH,hd];rfl
   have hnd:=hS.nd (zR out);have hrgl:=hrg (zR out);rw[hlt2]at hrgl;have hlen:zR l<=zR U9:=by
    have h1:=hS.sub (zR out);rw[hlt2]at h1 hnd;exact pm hnd h1
   rw[hlt2]at gid hnd;have grow:=hM.row;have hidn:=hM.wf.lt gid;have hfn:=hM.wf.lt grow;have hcut2:qf 1 (qv (zR out) (ids.map Z.map))=some [.map Y]:=by
    have:(ids.map Z.map).drop (zR out)=.map Y::(ids.map Z.map).drop (zR out+1):=by
     rw[zud (by simpa using hii)]
     simp[hidd]
    rw[qH,this];rfl
   have hsr:∀m,(evW env O).call 33 [.fn 51 [] [.ptr n2 0]] (KL ((n2,some (.row 74 [.map Y]))::L2) (n2+1) m false)=some (qt (q9 l),KL ((n2,some (.row 74 [.map Y]))::L2) (n2+1) m false):=λm=>by
    rw[qx h33,GY (x:=(n2,Y,l)) ⟨rfl,by rw[qk,wC],by rw[qk,wz,wx (show ¬Y=n2 by omega)];exact gid,hnd,by simp only;omega,hrgl⟩]
   simp only[qt]at hsr;have hw2:∀o1 o2:zm,WfA ((n2+1,o1)::(n2,o2)::L2) (n2+1+1):=λo1 o2=>by
    have hw:=hM.wf
    repeat first|exact hw.up J|refine WfA.same ?_ J
   have hid2:∀o1 o2:zm,out≠[]->oid<n2+1+1/\wn ((n2+1,o1)::(n2,o2)::L2) oid=some (.row 40 (wo v9 out) true false):=λo1 o2 hne=>by
    obtain⟨q1,q2⟩:=hg hne;exact⟨J,by rw[wz,wx J,wz,wx J];exact q2⟩
   have hsrc:∀m o2,qQ (KL ((n2+1,some (AObj.row 40 (v9 (q9 l))))::(n2,o2)::L2) (n2+1+1) m false) 1 1 (.sl (n2+1) 0 1 (.fix 1))=some (v9 (q9 l)):=λm o2=>(lE (j:=0) (by rw[qk,wC]) rfl).2
   have hke:=λL n m=>TA h34 Y L n m;have hfne:out≠[]->fid≠oid:=λhne e=>by
    obtain⟨_,q2⟩:=hg hne;rw[<-e,grow]at q2;simp at q2
   have hine:out≠[]->oid∉ids:=λhne hm=>by
    obtain⟨_,q2⟩:=hg hne;obtain⟨j,hj⟩:=zuh hm;have:=hM.maps j oid hj;rw[q2]at this;cases this
   clear hd hlt2;refine wq ?_;refine wp (vM sW ?_);refine wu ?_;refine wp (wA ?_);refine wq ?_;refine qB ?_;refine wO (hke _ _ _) λv t hv=>?_;obtain⟨m3,rfl,rfl⟩:=hv;clear hke;refine qB ?_;refine wO (QX (f:=v9) (Y:=oid) (vs:=out) (w:=q9 l) YM ee J (hid2 _ _) (hw2 _ _) rfl (hsrc _ _) J J) λv t hv=>?_;obtain⟨L7,m7,rfl,rfl,g7,hw7,hf7⟩:=hv;have hcat:=vG out (q9 l);have hM7:SetM ids SS fid (0+1) L7 (n2+1+1+1):=hM.oth hw7 λj hj hjj=>by
    rw[hf7 j J λhne e=>by
     rcases hjj with h|h
     .exact hfne hne (by rw[<-h,e])
     .exact hine hne (e▸h),wz,wx J,wz,wx J]
   clear hw2 hid2 hsrc hfne hine hM hf7 hsr hg gid grow;refine wu ?_;refine wu ?_;exact⟨zR out+1,⟨_,L7,n2+1+1+1,_,n2+1+1,out++[q9 l],rfl,rfl,V,V,V,V,J,hM7,hcat,by rw[zum];exact hR,λ_=>⟨J,g7⟩⟩,J⟩
end
def ZY{α:Type}{enc:α->zA}{Pre:α->Prop}{F:α->Z}(hO:OrcOk P X O)(hp1:∀x,wL (enc x)=true)(hp2:∀x,qg (F x)=true)(h:∀x,Pre x->SC P X f (enc x) (H [] 0 true) (F x) (H [] 0 true)):OrcOk P X (withG f (v7 enc Pre F) O):=
 hO.withG pn (Wn true hp1 hp2 λx hx=>⟨_,h x hx⟩)
def kn{α:Type}{enc:α->zA}{Pre:α->Prop}{F:α->Z}(hO:OrcOk P X O)(hp1:∀x,wL (enc x)=true)(hp2:∀x,qg (F x)=true)(h:∀x,Pre x->∃s1,SC P X f (enc x) (s00 0 true) (F x) s1):OrcOk P X (withG f (v7 enc Pre F) O):=hO.withG pn (Wn true hp1 hp2 h)
def ke{α:Type}{enc:α->zA}{Pre:α->Prop}{Good:α->Z->Prop}(hO:OrcOk P X O)(he:∀x,wL (enc x)=true)(h:jy P X f enc Pre Good):OrcOk P X (withG f (j7 P X f enc Pre Good) O):=hO.withG pn (CJ he h)
theorem sX(c:Int):wL (bA c)=true:=rfl
def oA:Orc:=withG 108 gIs (withG 173 fy (withG 172 gIx (withG 115 Vd noO)))
def oB:Orc:=withG 158 gDr (withG 107 JS oA)
def oC:Orc:=withG 137 Ti oB
def oD:Orc:=withG 109 Wd oC
def oE:Orc:=withG 84 tu oD
def oN0:Orc:=withG 63 (U0 301) oE
section
variable {P:Program}{X:World}(B:Bx P X)
include B
def zwT:OrcOk P X oA:=by
 have h0:=jO P X;have h1:OrcOk P X (withG 115 Vd _):=ZY h0 js G6 λx hx=>fI B h0 rfl x hx;have h4:OrcOk P X (withG 172 gIx _):=ZY h1 Ck (λ_=>rfl) λx hx=>zwK B h0 rfl x hx.1 hx.2;have h5:OrcOk P X (withG 173 fy _):=ZY h4 Yk Gn λx hx=>by
  obtain⟨b0,r,rfl,hb,h1,h2⟩:=hx;exact zzq B h0 b0 r hb h1 h2
 exact ZY h5 sX (λ_=>rfl) λx _=>zwJ B h0 rfl x
def zyk:OrcOk P X oB:=by
 have h0:=zwT B;have h4:OrcOk P X (withG 107 JS _):=ZY h0 gX (λ_=>rfl) λx hx=>BU B h0 rfl rfl rfl rfl rfl rfl x hx.1 hx.2;exact ZY h4 Yk Gn λx hx=>zwB B h0 rfl x hx.1 hx.2.1 hx.2.2
def zyl:OrcOk P X oC:=ZY (zyk B) Yk Bh λx hx=>zyG B (zyk B) rfl rfl x hx.1 hx.2
def zym:OrcOk P X oD:=ZY (zyl B) gX JL λx hx=>FE B (zyl B) rfl x hx.1 hx.2
def zyn:OrcOk P X oE:=ZY (zym B) js (λ_=>rfl) λx hx=>RJ B (zym B) rfl rfl rfl x hx
def Af:∀(N:Nat),N<=1100000->OrcOk P X (withG 63 (U0 N) oE)
 |0,_=>ZY (zyn B) js (λ_=>rfl) λx hx=>absurd hx.2 (wg _)
 |N+1,h=>by
  have ih:=Af N J;have hi:OrcOk P X (withG 106 (Tj N) (withG 63 (U0 N) oE)):=ZY ih nP (λ_=>rfl) λx hx=>zxu B ih rfl rfl J x hx.1 hx.2;exact ZY (zyn B) js (λ_=>rfl) λx hx=>zxy B hi rfl rfl rfl rfl rfl x hx.1 hx.2
def zxH:OrcOk P X oN0:=Af B 301 J
end
def Qe:zA->U->zc:=v7 Yl (λ_=>True) (λx=>.bool (wV x.1 x.2))
attribute [local go_sem] Yl in
def DG(B:Bx P X)(hO:OrcOk P X O)(x:Int×Int):∃s1,SC P X 55 (Yl x) (s00 0 true) (.bool (wV x.1 x.2)) s1:=by
 refine be B hO f55 ?_;obtain⟨n,m⟩:=x;unfold f55 cF;simp only[wV];refine wq ?_;cases h1:ltD n (.ofNat 0)with
 |true=>refine wu ?_;refine qP ?_;exact qM _ _
 |false=>refine wu ?_;refine qP ?_;exact qM _ _
def WA(h:O 55=some Qe)(a b:Int)(s:U):cl O 55 [a,b] s=some (.bool (wV a b),s):=oc h Pc (a,b) trivial (eK (a,b)) s
def ZM:zA->U->zc:=v7 kx (λ_=>True) (λt=>.bool (uj t.kind))
attribute [local go_sem] kx vg wE in
def af(B:Bx P X)(hO:OrcOk P X O)(t:Trm):∃s1,SC P X 58 (kx t) (s00 0 true) (.bool (uj t.kind)) s1:=by
 refine be B hO f58 ?_;obtain⟨k,v,op,n,f,az,ks⟩:=t;unfold f58 cF;simp only[uj,Trm.kind];refine wq ?_;cases h1:eqD k (.ofNat 1)with
 |true=>refine wu ?_;refine qP ?_;exact qM _ _
 |false=>refine wu ?_;refine qP ?_;exact qM _ _
def bQ:zA->U->zc:=v7 gW (λ_=>True) (λx=>.int .i64 (pC x))
def OU{n:Int}(h:wV n (.ofNat 42)=true):pC n=Yw n:=by
 obtain⟨j,rfl,hj⟩:=gC h;have e:∀k,42<=k->eqD (.ofNat j) (.ofNat k)=false:=λk hk=>qy λe=>by have:=Int.ofNat.inj e;omega
 simp only[pC,e 103 J,e 105 J,e 106 J,e 100 J,e 101 J,e 104 J,e 102 J,zuk,wK]
attribute [local go_sem] gW in
theorem D5(B:Bx P X)(hO:OrcOk P X O)(hp:O 132=some Py)(n:Int):∃s1,SC P X 105 (gW n) (s00 0 true) (.int .i64 (pC n)) s1:=by
 refine be B hO f105 ?_;have hp:=λs=>oc hp WX n trivial (VY n) s;have hl:= @OU n;have hm:wV n (.ofNat 42)=false->Yw n=.negSucc 0:=λh=>by simp only[Yw,h,wK]
 obtain⟨R,hR⟩:∃R,pC n=R:=⟨_,rfl⟩;rw[hR]at hl|-;simp only[pC]at hR;unfold f105 cF;simp only[gW,wV]at hp hl hm|-;generalize Yw n=pa at *;have go:∀{s:U} {z:Int},z=R->Fz s (.int .i64 z) (.int .i64 R):=λh=>h▸wS _ _ _;refine wq ?_;cases b1:ltD n (.ofNat 0)with
 | false=>
  cases b2:ltD n (.ofNat 42)with
  |true=>
   rw[b1,b2]at hl;refine wu ?_;refine qP ?_;exact go (hl rfl).symm
  |false=>
   rw[b1,b2]at hm;obtain rfl:=hm rfl;clear hl hm hp;cases a1:eqD n (.ofNat 103)with
   |true=>refine wu ?_;refine qP ?_;exact go (by rw[<-hR,a1];rfl)
   |false=>
   cases a2:eqD n (.ofNat 105)with
   |true=>refine wu ?_;refine qP ?_;exact go (by rw[<-hR,a1,a2];rfl)
   |false=>
   cases a3:eqD n (.ofNat 106)with
   |true=>refine wu ?_;refine qP ?_;exact go (by rw[<-hR,a1,a2,a3];rfl)
   |false=>
   cases a4:eqD n (.ofNat 100)with
   |true=>refine wu ?_;refine qP ?_;exact go (by rw[<-hR,a1,a2,a3,a4];rfl)
   |false=>
   cases a5:eqD n (.ofNat 101)with
   |true=>refine wu ?_;refine qP ?_;exact go (by rw[<-hR,a1,a2,a3,a4,a5];rfl)
   |false=>
   cases a6:eqD n (.ofNat 104)with
   |true=>refine wu ?_;refine qP ?_;exact go (by rw[<-hR,a1,a2,a3,a4,a5,a6];rfl)
   |false=>
   cases a7:eqD n (.ofNat 102)with
   |true=>refine wu ?_;refine qP ?_;exact go (by rw[<-hR,a1,a2,a3,a4,a5,a6,a7];rfl)
   |false=>refine wu ?_;refine qP ?_;exact go (by rw[<-hR,a1,a2,a3,a4,a5,a6,a7];rfl)
 | true=>
   have e:∀k,eqD n (.ofNat k)=false:=λk=>qy λe=>by rw[e]at b1;simp[ltD]at b1;omega
   rw[b1]at hm;obtain rfl:=hm rfl;clear hl hm hp;simp only[e,zuk,wK]at hR;have e1:=e 103;have e2:=e 105;have e3:=e 106;have e4:=e 100;have e5:=e 101;have e6:=e 104;have e7:=e 102
   clear e;refine wu ?_;refine qP ?_;exact go rfl
def GX:zA->U->zc:=v7 jI sE (λx=>.bool (uD x.1 x.2.1 x.2.2))
def GC(a b:Nat):eqD (.ofNat a) (.ofNat b)=decide (a=b):=by
 by_cases h:a=b
 .rw[h,qL rfl];exact zwC rfl
 .rw[qy h];exact sZ λe=>h (Int.ofNat.inj e)
section
variable {P:Program}{X:World}(B:Bx P X){O:Orc}(hO:OrcOk P X O)
include B hO
attribute [local go_sem] jI v8 lr vg qc wW wE qt in
def rS(ht:O 105=some bQ)(hbl:O 55=some Qe)(x:Cd×Fn×Trm)(hx:sE x):∃s1,SC P X 79 (jI x) (s00 0 true) (.bool (uD x.1 x.2.1 x.2.2)) s1:=by
 refine be B hO f79 ?_;obtain⟨⟨fs,main,vars,globals,consts⟩,⟨ps,rest,cont,fr,b⟩,⟨k,v,op,num,fn,az,ks⟩⟩:=x;have htk:=λs=>oc ht WX op trivial (VY op) s;obtain⟨hps,hal⟩:=hx;have hb:=WA hbl;simp only[Trm.atoms]at hps hal;obtain⟨R,hR⟩:∃R,uD ⟨fs,main,vars,globals,consts⟩ ⟨ps,rest,cont,fr,b⟩ (.mk k v op num fn az ks)=R:=⟨_,rfl⟩;rw[hR];simp only[uD,Ur,MN,Trm.kind,Trm.op,Trm.atoms,Trm.num,Trm.fn,Trm.kids,Trm.var]at hR;obtain⟨bk,bv,bop,bn,bf,bas,bks⟩:=b;unfold f79 cF;simp only[gW]at htk|-;generalize pC op=tk at *;refine wq ?_;refine wp (wp (wu ?_));apply wA;refine wP (λi:Nat=>zR az-i) (λi f t=>∃T L n m,f=⟨tmL T,[]⟩/\t=KL L n m true/\G T 3 (.ptr 0 0)/\G T 4 (.ptr 1 0)/\G T 5 (.ptr 2 0)/\G T 7 i/\i<=zR az/\3<=n/\wn L 0=some (.row 25 [.lst (zR fs) false (wo wW fs),main,vars,globals,.lst (zR consts) false (wQ consts)])/\wn L 1=some (.row 46 [.lst (zR ps) false (wo wN ps),.bool rest,.bool cont,.lst (zR fr) false (wo wN fr),bk,bv,bop,bn,bf,.lst (zR bas) false (wo wY bas),.lst (zR bks) false (w9 bks)])/\wn L 2=some (.row 44 [k,v,op,num,fn,.lst (zR az) false (wo wY az),.lst (zR ks) false (w9 ks)])/\az.all (K3 vars (.ofNat (zR consts)))=(az.drop i).all (K3 vars (.ofNat (zR consts)))) (λi f t hI=>?_) 0 ⟨_,_,_,_,rfl,rfl,sW,sW,sW,sW,yz _,zX _,sW,sW,sW,rfl⟩;obtain⟨T,L,n,m,rfl,rfl,t3,t4,t5,t7,hi,hn,g0,g1,g2,hal2⟩:=hI;rcases wJ az i with ⟨hi2,hd⟩|⟨a,hi2,hd⟩
 .have hlt:¬i<zR az:=J;rw[hd]at hal2;rw[hal2,show ([]:List Atm).all (K3 vars (.ofNat (zR consts)))=true from rfl,xC]at hR;clear hal2 hd hi2 hal;refine wu ?_;refine wq ?_;by_cases k1:k=.ofNat 1
  .subst k1;simp only[GC,decide_true,wy]at hR;cases a1:eqD op (.ofNat 103)with
   |true=>
    have z5:eqD op (.ofNat 105)=false:=sZ λe=>by rw[e]at a1;cases a1
    have hb1:=hb num globals;have hb2:=hb v vars
    clear hb hps;rw[a1,zut,wy]at hR;generalize wV num globals=c2 at *;generalize wV v vars=c5 at *;cases c2;rotate_left;cases e1:eqD tk (.ofNat (zR az));rotate_left;cases e3:eqD fn (.ofNat 0);rotate_left;by_cases e4:zR ks=1
    all_goals (exact qU hR)
   |false=>
   cases a2:eqD op (.ofNat 104)with
   |true=>
    have z5:eqD op (.ofNat 105)=false:=sZ λe=>by rw[e]at a2;cases a2
    have hb1:=hb num globals;have hb2:=hb v vars
    clear hb hps;rw[a1,a2,zul,wy]at hR;generalize wV num globals=c2 at *;generalize wV v vars=c5 at *;cases c2;rotate_left;cases e1:eqD tk (.ofNat (zR az));rotate_left;cases e3:eqD fn (.ofNat 0);rotate_left;by_cases e4:zR ks=1
    all_goals (exact qU hR)
   |false=>
   have hb2:=hb v vars;rw[a1,a2,zuk,wK]at hR;cases a3:eqD op (.ofNat 105)with
   |true=>
    have hb1:=hb num (.ofNat (zR fr));clear hb hps;rw[a3,wy]at hR;generalize wV num (.ofNat (zR fr))=c2 at *;generalize wV v vars=c5 at *;cases c2;rotate_left;cases e1:eqD tk (.ofNat (zR az));rotate_left;cases e3:eqD fn (.ofNat 0);rotate_left;by_cases e4:zR ks=1
    all_goals (exact qU hR)
   | false=>
    clear hb hps;rw[a3,wK,show wV num (.ofNat 1)=eqD num (.ofNat 0) by
     rw[Bool.eq_iff_iff];simp only[wV,ltD,eqD,zU,Bool.not_eq_true',decide_eq_false_iff_not,hZ];show ¬num<((0:Nat):Int)/\num<((1:Nat):Int)↔num=((0:Nat):Int);omega]at hR
    generalize wV v vars=c5 at *;cases c2:eqD num (.ofNat 0);rotate_left;cases e1:eqD tk (.ofNat (zR az));rotate_left;cases e3:eqD fn (.ofNat 0);rotate_left;by_cases e4:zR ks=1
    all_goals (exact qU hR)
  rw[qw k1,wK]at hR;have e1:=qw k1;clear htk;simp only[Yz]at hR;cases a1:eqD op (.ofNat 0)
  .exact qU hR
  cases a2:eqD num (.ofNat 0)
  .exact qU hR
  by_cases k2:k=.ofNat 2
  .subst k2;simp only[GC,Nat.reduceEqDiff,decide_true,decide_false,wy,wK,a1,a2,wa,zv6,zvW,xC,x9]at hR;have hb1:=hb fn (.ofNat (zR fs));have hb2:=hb v vars
   clear hb;generalize wV v vars=c2 at *;cases c2
   .exact qU hR
   cases c1:wV fn (.ofNat (zR fs))with
   |false=>rw[c1]at hb1 hR;exact qU hR
   |true=>
   rw[c1]at hb1 hR;obtain⟨j,rfl,hj⟩:=gC c1;clear c1;have hdj:fs.drop j=fs[j]::fs.drop (j+1):=zud hj;have hdr:=kS hdj;have hg:Xb ⟨fs,main,vars,globals,consts⟩ (.ofNat j)=fs[j]:=by
    show fs.getD j fn0=_;rw[xR,xj hj];rfl
   have hgl:=hps fs[j] (List.getElem_mem hj);rw[hg]at hR;clear hg hps hdj;generalize fs[j]=g at *;obtain⟨gps,grest,gcont,gfr,gb⟩:=g;obtain⟨gk,gv,gop,gn,gf,gas,gks⟩:=gb;simp only[wW,wE,qt,yu,zv1]at hdr hgl hR;by_cases c3:zR az=zR gfr;by_cases c4:zR ks=1
   all_goals (exact qU hR)
  have e2:=qw k2;cases a3:eqD v (.ofNat 0)
  .exact qU hR
  by_cases k5:k=.ofNat 5
  .subst k5;simp only[GC,Nat.reduceEqDiff,decide_true,decide_false,wy,wK,a1,a2,a3,wa,zv6,zvW,zv8,xC,x9]at hR;have hb1:=hb fn (.ofNat (zR fs));clear hb;cases c1:wV fn (.ofNat (zR fs))with
   |false=>rw[c1]at hb1 hR;exact qU hR
   |true=>
   rw[c1]at hb1 hR;obtain⟨j,rfl,hj⟩:=gC c1;clear c1;have hdj:fs.drop j=fs[j]::fs.drop (j+1):=zud hj;have hdr:=kS hdj;have hg:Xb ⟨fs,main,vars,globals,consts⟩ (.ofNat j)=fs[j]:=by
    show fs.getD j fn0=_;rw[xR,xj hj];rfl
   have hgl:=hps fs[j] (List.getElem_mem hj);rw[hg]at hR;clear hg hps hdj;generalize fs[j]=g at *;obtain⟨gps,grest,gcont,gfr,gb⟩:=g;obtain⟨gk,gv,gop,gn,gf,gas,gks⟩:=gb;simp only[wW,wE,qt,yu,zv1,Nat.add_comm 1 (zR gps)]at hdr hgl hR;cases grest;by_cases c3:zR az=zR gps+1;by_cases c4:zR ks=0
   all_goals (exact qU hR)
  have e5:=qw k5;clear hb hps;cases a4:eqD fn (.ofNat 0)
  .exact qU hR
  rw[a1,a2,a3,a4,e2,e5]at hR;simp only[wa,zv6,zv8,xC,zuk,wK]at hR;by_cases k3:k=.ofNat 3
  .subst k3;by_cases c1:zR az=1;by_cases c2:zR ks=2
   all_goals (refine wu ?_;refine qP ?_;exact XQ (by rw[<-hR,GC];simp only[*,decide_true,decide_false,zv8,zvW,xZ,wy]))
  have e3:=qw k3;rw[e3,wK]at hR;by_cases c2:zR ks=0
  .by_cases k4:k=.ofNat 4
   .subst k4;by_cases c1:1<=zR az
    all_goals (refine wu ?_;refine qP ?_;exact XQ (by rw[<-hR,GC];simp only[*,decide_true,decide_false,zui,xZ,wy]))
   have e4:=qw k4;by_cases k6:k=.ofNat 6
   .subst k6;have e6:eqD (.ofNat 6) (.ofNat 6)=true:=rfl;by_cases c1:2<=zR az
    all_goals (exact qU hR)
   have e6:=qw k6;cases e7:eqD k (.ofNat 7);rotate_left;by_cases c1:zR az=0
   all_goals (exact qU hR)
  .refine wu ?_;refine qP ?_;exact XQ (by rw[<-hR];simp only[c2,decide_false,zv8];cases eqD k (.ofNat 4)<;>cases eqD k (.ofNat 6)<;>rfl)
 .have hc:=US hd;rw[hd,List.all_cons]at hal2;have hb1:=hb a.n vars;have hb2:=hb a.n (.ofNat (zR consts));obtain⟨ak,an⟩:=a;simp only[K3]at hal2;simp only at hc hb1 hb2;clear hb htk;generalize wV an vars=b1 at *;generalize wV an (.ofNat (zR consts))=b2 at *;cases e1:eqD ak (.ofNat 1)with
  | false=>
   cases e2:eqD ak (.ofNat 2)with
   |false=>refine wu ?_;refine qP ?_;exact XQ (by rw[<-hR,hal2];simp only[*,zvW,xZ,Bool.or_false,zuk,wa,zv6])
   | true=>
    cases b2 with
    |false=>refine wu ?_;refine qP ?_;exact XQ (by rw[<-hR,hal2];simp only[*,zv8,zvW,xZ,zul,wa,zv6])
    | true=>
     (refine wu ?_
      exact⟨i+1,⟨_,_,n+1,_,rfl,rfl,V,V,V,V,J,J,by (repeat rw[gN J]);exact g0,by (repeat rw[gN J]);exact g1,by (repeat rw[gN J]);exact g2,(by rw[hal2];simp only[*,xC,zv8,zvW,zuk,wa,zv6])⟩,J⟩)
  | true=>
   have e2:eqD ak (.ofNat 2)=false:=sZ λe=>by rw[e]at e1;cases e1
   cases b1 with
   |false=>refine wu ?_;refine qP ?_;exact XQ (by rw[<-hR,hal2];simp only[*,zui,zvW,xZ,zul,Bool.or_false,wa,zv6])
   | true=>
     (refine wu ?_
      exact⟨i+1,⟨_,_,n+1,_,rfl,rfl,V,V,V,V,J,J,by (repeat rw[gN J]);exact g0,by (repeat rw[gN J]);exact g1,by (repeat rw[gN J]);exact g2,(by rw[hal2];simp only[*,zui,xC,zv8,zvW,zuk,wa,zv6])⟩,J⟩)
end
def jw:∀{l:List Trm} {t:Trm},t∈l->qb t<=qY l
 |x::r,t,h=>by
  simp only[qY];rcases List.mem_cons.1 h with rfl|h
  .omega
  .have:=jw h;omega
def hU:∀{ks:List Trm} {y:Trm},p7 ks->y∈ks->SzT y
 |t::r,y,h,hy=>by
  simp only[p7]at h;rcases List.mem_cons.1 hy with rfl|hy
  .exact h.1
  .exact hU h.2 hy
def X2{x:zc}(h:Cv x λu t=>u=v/\t=s):x=some (v,s):=by
 obtain⟨_,_,e,rfl,rfl⟩:=h;exact e
section
variable {O:Orc}{c:Cd}{f:Fn}
def D6(h70:O 57=none)(h89:O 79=some GX)(hps:∀g∈c.fs,g.ps.length<1000000000):∀(k:Nat) (t:Trm),qb t<=k->SzT t->∀(L:zb) (n m:Nat) (b:Bool),
  cl O 57 [v8 c,lr f,vg t] (KL L n m b)=some (.bool (ur c f t),KL L n m b):=by
 intro k
 induction k with
 |zero=>intro t h;have:=vQ t;omega
 | succ k ih=>
  intro t hk hsz L n m b;apply X2;refine vr (F:=f57) h70 rfl rfl (zvT rfl) ?_;obtain⟨tk,v,op,num,fn,az,ks⟩:=t;simp only[SzT]at hsz;obtain⟨hs1,hs2,hs3⟩:=hsz;have hcall:=λs=>oc h89 Q7 (c,f,.mk tk v op num fn az ks) ⟨hps,hs1⟩ (UV (c,f,.mk tk v op num fn az ks)) s;simp only[qb]at hk;have hih:=λt (ht:t∈ks)=>ih t (by have:=jw ht;omega) (hU hs3 ht)
  clear ih;obtain⟨R,hR⟩:∃R,ur c f (.mk tk v op num fn az ks)=R:=⟨_,rfl⟩;rw[hR];have hcl:(qc c).length=5:=rfl;have hcs:w8 (qc c)=true:=by simp only[qc,ko,lO,YB,WH,xZ]
  have hfl:=lQ f;have hfs:=JF f;have hcp:=gS c;simp only[jI,v8,lr,vg]at hcall hih|-;simp only[wE]at hcall|-;generalize hcc:qc c=cc at *;generalize hff:wW f=ff at *;have hc5:qf 5 cc=some cc:=qz hcl;have hf11:qf 11 ff=some ff:=qz hfl;unfold f57 cF;simp only;refine wq ?_;simp only[ur]at hR;generalize uD c f (.mk tk v op num fn az ks)=fo at *;refine wq ?_;refine wp (wp (wu ?_));apply wA;refine wP (λi:Nat=>zR ks-i) (λi f' t'=>∃T L2 n2 m2 fi,f'=⟨tmL T,[]⟩/\t'=KL L2 n2 m2 true/\G T 3 (.ptr n 0)/\G T 4 (.ptr (n+1) 0)/\G T 5 (.ptr (n+1+1) 0)/\G T 7 (.bool fi)/\G T 8 i/\i<=zR ks/\n+1+1+1<=n2/\m2%2^n=0/\wn L2 n=some (.row 25 cc)/\wn L2 (n+1)=some (.row 46 ff)/\wn L2 (n+1+1)=some (.row 44 [tk,v,op,num,fn,.lst (zR az) false (wo wY az),.lst (zR ks) false (w9 ks)])/\R=(fi&&jH c f (ks.drop i))) (λi f' t' hI=>?_) 0 ⟨_,_,_,_,fo,rfl,rfl,sW,sW,sW,sW,sW,yz _,zX _,by simp,sW,sW,sW,hR.symm⟩
  clear hR hcall;obtain⟨T,L2,n2,m2,fi,rfl,rfl,t3,t4,t5,t7,t8,hi,hn2,hm2,g0,g1,g2,hR⟩:=hI;rcases wJ ks i with ⟨hlt,hd⟩|⟨x,hlt,hd⟩
  .have hni:¬i<zR ks:=J;rw[hd]at hR;simp only[jH,zui]at hR;clear hd hlt hih;refine wu ?_;refine ev_zc ?_;exact⟨by rw[hR],rfl⟩
  .cases fi with
   |false=>
    rw[zvW]at hR;clear hd hih;refine wu ?_;refine ev_zc ?_;exact⟨by rw[hR],rfl⟩
   |true=>
    have hcut:=YR hd;have hx:=hih x (zvY (by rw[hd];exact zvZ))
    rw[hd]at hR;simp only[jH,xC]at hR;generalize ur c f x=bx at *;clear hih hd;refine wu ?_;exact⟨i+1,⟨_,_,n2,_,bx,rfl,rfl,V,V,V,V,V,J,hn2,V,g0,g1,g2,hR⟩,J⟩
end
def gE(x:zw×Int):zA:=[qt x.1,.int .i64 x.2]
def WY:∀x y,gE x=gE y->x=y:=λ⟨a,b⟩ ⟨c,d⟩ h=>by
 simp only[gE,vc,Z.int.injEq,true_and,and_true]at h;rw[lB h.1,h.2]
def eL(x:zw×Int):wkL (gE x)=gE x:=by simp only[gE,wkL,pc,wkV]
def Q8(x:zw×Int):wL (gE x)=true:=by simp only[gE,wR,jn,vh,wU,xZ]
def lz(l:zw)(n:Int):Bool:=l.any λx=>eqD x n
def QC(n:Int):zw->zw
 |[]=>[n]
 |x::r=>bif ltD x n then x::QC n r else n::x::r
def Xm(l:zw)(n:Int):zw:=bif lz l n then l else QC n l
def VF(x:zw×Int):Prop:=zR x.1<1000000000
def fx:zA->U->zc:=v7 gE VF (λx=>.bool (lz x.1 x.2))
def tG:zA->U->zc:=v7 gE VF (λx=>qt (Xm x.1 x.2))
def oP:zA->U->zc:=v7 gE VF (λx=>.bool (x.1.all λn=>wV n x.2))
section
variable {P:Program}{X:World}(B:Bx P X){O:Orc}(hO:OrcOk P X O)
include B hO
section
attribute [local go_sem] gE qt
def zzg(x:zw×Int)(hx:VF x):∃s1,SC P X 41 (gE x) (s00 0 true) (.bool (lz x.1 x.2)) s1:=by
 refine be B hO f41 ?_;obtain⟨l,a⟩:=x;simp only[VF]at hx;obtain⟨R,hR⟩:∃R,lz l a=R:=⟨_,rfl⟩;rw[hR];unfold f41 cF;simp only;refine wq ?_;refine wp (wp (wu ?_));apply wA;refine wP (λi:Nat=>zR l-i) (λi f t=>∃T L n m,f=⟨tmL T,[]⟩/\t=KL L n m true/\G T 0 (.lst (zR l) false (wo wN l))/\G T 1 (.int .i64 a)/\G T 5 i/\i<=zR l/\R=lz (l.drop i) a) (λi f t hI=>?_) 0 ⟨_,_,_,_,rfl,rfl,sW,sW,sW,yz _,hR.symm⟩;clear hR;obtain⟨T,L,n,m,rfl,rfl,t0,t1,t5,hi,hR⟩:=hI;rcases wJ l i with ⟨hlt,hd⟩|⟨y,hlt,hd⟩
 .have hni:¬i<zR l:=J;rw[hd]at hR;clear hd;refine wu ?_;refine ev_zc ?_;exact XQ hR
 .have hc:=uz hd;rw[hd]at hR;simp only[lz,List.any_cons]at hR;clear hd;cases e:eqD y a with
  |true=>
   rw[e,zut]at hR;refine ev_zc ?_;exact XQ hR
  |false=>
   rw[e,x9]at hR;refine wu ?_;exact⟨i+1,⟨_,_,n,_,rfl,rfl,V,V,V,J,hR⟩,J⟩
def Oc(hbl:O 55=some Qe)(x:zw×Int)(hx:VF x):∃s1,SC P X 56 (gE x) (s00 0 true) (.bool (x.1.all λn=>wV n x.2)) s1:=by
 refine be B hO f56 ?_;have hb:=WA hbl;obtain⟨l,a⟩:=x;simp only[VF]at hx;obtain⟨R,hR⟩:∃R,(l.all λn=>wV n a)=R:=⟨_,rfl⟩;simp only;rw[hR];unfold f56 cF;simp only;refine wq ?_;refine wp (wp (wu ?_));apply wA;refine wP (λi:Nat=>zR l-i) (λi f t=>∃T L n m,f=⟨tmL T,[]⟩/\t=KL L n m true/\G T 0 (.lst (zR l) false (wo wN l))/\G T 1 (.int .i64 a)/\G T 5 i/\i<=zR l/\R=(l.drop i).all λn=>wV n a) (λi f t hI=>?_) 0 ⟨_,_,_,_,rfl,rfl,sW,sW,sW,yz _,hR.symm⟩;clear hR;obtain⟨T,L,n,m,rfl,rfl,t0,t1,t5,hi,hR⟩:=hI;rcases wJ l i with ⟨hlt,hd⟩|⟨y,hlt,hd⟩
 .have hni:¬i<zR l:=J;rw[hd]at hR;clear hd;refine wu ?_;refine ev_zc ?_;exact XQ hR
 .have hc:=uz hd;rw[hd,List.all_cons]at hR;have hy:=hb y a;clear hd hb;generalize wV y a=r at *;cases r with
  |false=>
   rw[zvW]at hR;refine ev_zc ?_;exact XQ hR
  |true=>
   rw[xC]at hR;refine wu ?_;exact⟨i+1,⟨_,_,n,_,rfl,rfl,V,V,V,J,hR⟩,J⟩
end
end
theorem zzB{α:Type}{l:List α}{x:α}{r:List α}(hd:l.drop i=x::r):l.take (i+1)=l.take i++[x]:=by
 rw[List.take_add_one,show l[i]? =some x by rw[<-zuH,hd];rfl];rfl
def tU{n:Int}:∀{l:zw} {i:Nat},(∀x∈l.take i,ltD x n=true)->QC n l=l.take i++QC n (l.drop i)
 |_,0,_=>by simp
 |[],_+1,_=>by simp
 |x::r,i+1,h=>by
  rw[List.take_succ_cons,List.drop_succ_cons,yu,<-tU λy hy=>h y (by simp[hy])]
  simp only[QC,h x (by simp),wy]
def Tt{r:zw}(h:ltD y n=false):QC n (y::r)=n::y::r:=by simp only[QC,h,wK]
theorem fH(n:Int):∀l:zw,(QC n l).length=zR l+1
 |[]=>rfl
 |x::r=>by
  simp only[QC];cases ltD x n with
  |true=>simp only[wy,yJ,fH n r]
  |false=>rfl
def Uv(l:zw)(n:Int):(Xm l n).length<=zR l+1:=by
 unfold Xm;cases lz l n with
 |true=>exact zur _
 |false=>exact Nat.le_of_eq (fH n l)
def OI(l:zw)(h:k<=List.length l):QE 1 (.lst (List.length l) false (wo wN l)) none (some (.int .i64 (.ofNat k))) none=some (.lst (l.take k).length false (wo wN (l.take k))):=by
 have e:wo wN (l.take k)=(wo wN l).take k:=by
  have:=GO vA k l;rw[x8,pD]at this;exact this.symm
 simp only[QE,dm,bnd,show Nat.ble k (zR l)=true from qd.2 h,wy,zvW];show some (Z.lst (k-0) false (tkN ((k-0)*1) (qv (0*1) (wo wN l))))=_;rw[Nat.sub_zero,x8,Nat.zero_mul,e,List.length_take,Nat.min_eq_left h,pD,qH,List.drop_zero]
def zx7(l:zw)(h:k<=List.length l):QE 1 (.lst (List.length l) false (wo wN l)) (some (.int .i64 (.ofNat k))) none none=some (.lst (l.drop k).length false (wo wN (l.drop k))):=by
 have e:wo wN (l.drop k)=(wo wN l).drop k:=by
  have:=jb vA k l;rw[x8,qH]at this;exact this.symm
 simp only[QE,dm,bnd,show Nat.ble k (zR l)=true from qd.2 h,wy,zvW];show some (Z.lst (zR l-k) false (tkN ((zR l-k)*1) (qv (k*1) (wo wN l))))=_;rw[x8,x8,e,zvU,pD,qH,yq (by rw[zvU,vI vA,x8];exact zX _)]
def NI:ICode:=match f80.body with
 |.seq _ (.seq _ (.seq _ (.seq _ b)))=>b
 |_=>.skip
def Th{α:Type}{f:α->zA}{esz Y:Nat}(hp:∀x,wL (f x)=true)(hw:∀x,wkL (f x)=f x)(vs ws:List α)(h:vs=ws):∃v0,XP 0 (vZ f esz Y vs)=some v0/\Fz s v0 (.lst (zR ws) false (wo f ws)):=h▸Ud hp hw vs
def P7{R:zw}{a:Int}{T:List (Nat×Z)}{L:zb}{n:Nat}(hx:zR l<1000000000)(hi:i<=zR l)(t0:G T 0 (.lst (zR l) false (wo wN l)))(t1:G T 1 (.int .i64 a))(t5:G T 5 i)(st:R=l.take i++[a]++l.drop i):
  Ev (evC env (evW env O) none NI ⟨tmL T,[]⟩ (KL L n m true)) λr fr t=>Cv (Yu (KL [] 0 0 true) (qJ env.globs [RV.t 4] (some (r,fr,t)))) λv0 s1=>Fz s1 v0 (.lst (zR R) false (wo wN R)):=by
 have s1:=OI l hi;have s2:=zx7 l hi;have l1:(l.take i).length<=zR l:=by rw[List.length_take];omega
 have l2:(l.drop i).length<=zR l:=by rw[zvU];omega
 generalize l.take i=u at *;generalize l.drop i=w at *;unfold NI f80 cF;simp only;refine wq ?_;refine wp (qB ?_);refine wO (pK (Y:=0) (vs:=[]) (e:=false) vA qR uW J (λh=>absurd rfl h) (by simp only[xY];omega) (by simp only[xY];omega)) λv t hv=>?_
 obtain⟨id1,L1,n1,m1,rfl,rfl,ok1,_⟩:=hv;rw[zv1]at ok1;refine wu ?_;refine wp (qB ?_);refine wO (pK (ws:=[a]) (e:=false) vA qR uW J ok1 (by simp only[yJ,xY];omega) (by simp only[yJ,xY];omega)) λv t hv=>?_
 obtain⟨id2,L2,n2,m2,rfl,rfl,ok2,_⟩:=hv;refine wu ?_;refine wp (qB ?_);refine wO (pK (e:=false) vA qR uW J ok2 (by simp only[y8,yJ,xY];omega) (by simp only[y8,yJ,xY];omega)) λv t hv=>?_
 obtain⟨id3,L3,n3,m3,rfl,rfl,ok3,_⟩:=hv;obtain⟨v0,f1,f2⟩:=Th (esz:=1) (Y:=id3) (s:=KL [] 0 0 true) qR p9 _ _ st.symm;clear s1 s2;refine wu ?_;refine ev_zc ?_;exact f2
section
variable {P:Program}{X:World}(B:Bx P X){O:Orc}(hO:OrcOk P X O)
include B hO
attribute [local go_sem] gE qt in
def zzj(hh:O 41=some fx)(x:zw×Int)(hx:VF x):∃s1,SC P X 80 (gE x) (s00 0 true) (qt (Xm x.1 x.2)) s1:=by
 refine be B hO f80 ?_;have hc:=λs=>oc hh WY x hx (eL x) s;obtain⟨l,a⟩:=x;simp only[VF]at hx;obtain⟨R,hR⟩:∃R,Xm l a=R:=⟨_,rfl⟩;rw[hR];simp only[Xm]at hR;generalize lz l a=ha at *;unfold f80 cF;simp only[gE,qt]at hc|-;refine wq ?_;cases ha with
 |true=>
  rw[wy]at hR;subst hR;refine ev_zc ?_;exact uo (wX qR _) (ua p9 _)
 | false=>
  rw[wK]at hR;refine wq ?_;clear hc;refine wq ?_;refine wp (wA ?_);refine wP (λi:Nat=>zR l-i) (λi f t=>∃T L n m,f=⟨tmL T,[]⟩/\t=KL L n m true/\G T 0 (.lst (zR l) false (wo wN l))/\G T 1 (.int .i64 a)/\G T 5 i/\i<=zR l/\∀x∈l.take i,ltD x a=true) (λi f t hI=>?_) 0 ⟨_,_,_,_,rfl,rfl,sW,sW,sW,yz _,λx hx=>by simp at hx⟩
  obtain⟨T,L,n,m,rfl,rfl,t0,t1,t5,hi,hlt⟩:=hI;have step:ltD ((l.drop i).headD a) a=false->R=l.take i++[a]++l.drop i:=λh=>by
   rw[<-hR,tU hlt];cases hd:l.drop i with
   |nil=>simp[QC]
   |cons y r=>rw[hd]at h;rw[Tt (show ltD y a=false from h)];simp
  rcases wJ l i with ⟨hge,hd⟩|⟨y,hge,hd⟩
  .have hni:¬i<zR l:=J;have st:=step (by rw[hd];simp[ltD])
   clear step hd;refine wu ?_;exact P7 hx hi V V V st
  .have hc:=uz hd;cases e:ltD y a with
   | true=>
    have htk:=zzB hd;clear step hd;refine wu ?_;exact⟨i+1,⟨_,_,n,_,rfl,rfl,V,V,V,J,λx hx=>by
     rw[htk,zuq]at hx;rcases hx with hx|hx
     .exact hlt x hx
     .rw[List.mem_singleton.1 hx];exact e⟩,J⟩
   |false=>
    have st:=step (by rw[hd];exact e)
    clear step hd;refine wu ?_;exact P7 hx hi V V V st
end
def usA(given:zw):List Atm->zw->zw
 |[],l=>l
 |a::r,l=>usA given r (bif eqD a.k (.ofNat 1)&& !lz given a.n then Xm l a.n else l)
def usO(given:zw):zw->zw->zw
 |[],l=>l
 |x::r,l=>usO given r (bif lz given x then l else Xm l x)
mutual
def usR(S:ze)(given:zw):Trm->zw->zw
 |.mk k v _ _ fn az ks,l=>Kp S (bif uj k then given++[v]else given) ks (bif eqD k (.ofNat 2)then usO given (S.getD fn.toNat []) (usA given az l)else usA given az l)
def Kp(S:ze)(given:zw):List Trm->zw->zw
 |[],l=>l
 |t::r,l=>Kp S given r (usR S given t l)
end
mutual
def usZ(S:ze):Trm->Nat
 |.mk _ _ _ _ fn az ks=>zR az+(S.getD fn.toNat []).length+dc S ks
def dc(S:ze):List Trm->Nat
 |[]=>0
 |t::r=>usZ S t+dc S r
end
mutual
def Qv(m:Nat):Trm->Prop
 |.mk k _ _ _ fn _ ks=>(eqD k (.ofNat 2)=true->∃j,fn=.ofNat j/\j<m)/\VC m ks
def VC(m:Nat):List Trm->Prop
 |[]=>True
 |t::r=>Qv m t/\VC m r
end
def Qc{m:Nat}:∀{ks:List Trm} {y:Trm},VC m ks->y∈ks->Qv m y
 |t::r,y,h,hy=>by
  simp only[VC]at h;rcases List.mem_cons.1 hy with rfl|hy
  .exact h.1
  .exact Qc h.2 hy
def da(given:zw):∀(az:List Atm) (l:zw),(usA given az l).length<=zR l+zR az
 |[],l=>zX _
 |a::r,l=>by
  refine yb (da given r _) ?_;cases eqD a.k (.ofNat 1)&& !lz given a.n with
  |true=>have:=Uv l a.n;simp only[wy,yJ];omega
  |false=>simp only[wK,yJ];omega
def db(given:zw):∀(o l:zw),(usO given o l).length<=zR l+zR o
 |[],l=>zX _
 |x::r,l=>by
  refine yb (db given r _) ?_;cases lz given x with
  |true=>simp only[wy,yJ];omega
  |false=>have:=Uv l x;simp only[wK,yJ];omega
mutual
theorem Bc(S:ze)(given:zw):∀(t:Trm) (l:zw),(usR S given t l).length<=zR l+usZ S t
 |.mk k v _ _ fn az ks,l=>by
  simp only[usR,usZ];have h1:=da given az l;have h2:=db given (S.getD fn.toNat []) (usA given az l);refine yb (mz S _ ks _) ?_;cases eqD k (.ofNat 2)with
  |true=>simp only[wy];omega
  |false=>simp only[wK];omega
theorem mz(S:ze)(given:zw):∀(ks:List Trm) (l:zw),(Kp S given ks l).length<=zR l+dc S ks
 |[],l=>zX _
 |t::r,l=>by
  simp only[Kp,dc];have h1:=Bc S given t l;refine yb (mz S given r _) ?_;omega
end
abbrev UsX:=zw×Trm×zw×ze
def Hc(l:ze):qg (vT l)=true:=by simp only[vT,qE]
def Gh:∀{a b:ze},wo v9 a=wo v9 b->a=b
 |[],[],_=>rfl
 |[],_::_,h=>by simp[wo,v9]at h
 |_::_,[],h=>by simp[wo,v9]at h
 |x::a,y::b,h=>by
  simp only[wo,v9,yu,zv1,vc]at h;rw[lB h.1,Gh h.2]
structure UsPre(N:Nat)(x:UsX):Prop where
 nt:qb x.2.1<N
 sz:SzT x.2.1
 fn:Qv (zR x.2.2.2) x.2.1
 gv:zR x.2.2.1+qb x.2.1<1000000000
 us:zR x.1+usZ x.2.2.2 x.2.1<1000000000
theorem sH(Y:Nat)(l:zw):wkV (vZ wN 1 Y l)=qt l:=by cases l<;>rfl
def LiV(v:Z)(l:zw):Prop:=v=qt l\/(v=.nils/\l=[])
theorem LiV.wk(h:LiV v l):wkV v=qt l:=by
 rcases h with rfl|⟨rfl,rfl⟩
 .exact pc l
 .rfl
theorem LiV.vlen(h:LiV v l)(s:U):Vy s .v v=some (.int .i64 (.ofNat (List.length l))):=by
 rcases h with rfl|⟨rfl,rfl⟩<;>rfl
theorem LiV.pure(h:LiV v l):qg v=true:=by
 rcases h with rfl|⟨rfl,rfl⟩
 .exact jn l
 .rfl
theorem LiV.sc(h:LiV v l):vF v=true:=by
 rcases h with rfl|⟨rfl,rfl⟩<;>rfl
def GiV(v:Z)(l:zw):Prop:=v=qt l\/∃Y,v=vZ wN 1 Y l
def GiV.wk(h:GiV v l):wkV v=qt l:=by
 rcases h with rfl|⟨Y,rfl⟩
 .exact pc l
 .exact sH Y l
theorem E0(h:GiV v l)(hl:zR l<1000000000)(L:zb)(n m:Nat):
  Cv (jo (KL L n m true) t 1 8 .nils v) λw s=>∃Y L' n',w=vZ wN 1 Y l/\s=KL L' n' m true/\(l≠[]->n<=Y/\Y<n'/\wn L' Y=some (.app t (wo wN l)))/\n<=n'/\∀j,j<n->wn L' j=wn L j:=by
 cases l with
 |nil=>
  refine⟨.nils,KL L n m true,?_,0,L,n,rfl,rfl,λh=>absurd rfl h,zX _,λ_ _=>rfl⟩;rcases h with rfl|⟨Y,rfl⟩<;>rfl
 | cons x r=>
  have h2:gw v=some (r.length+1)/\qQ (KL L n m true) 1 (r.length+1) v=some (wo wN (x::r)):=by
   have h3:qf (Nat.mul (r.length+1) 1) (wo wN (x::r))=some (wo wN (x::r)):=by
    rw[show Nat.mul (r.length+1) 1=(wo wN (x::r)).length from (vI vA (x::r)).symm];exact qz rfl
   rcases h with rfl|⟨Y,rfl⟩
   .exact⟨rfl,h3⟩
   .exact⟨rfl,h3⟩
  have hp:=wX qR (x::r);refine⟨.gr n 1 (r.length+1) (wo wN (x::r)),KL ((n,some (.app t (wo wN (x::r))))::L) (n+1) m true,?_,n,_,_,rfl,rfl,λ_=>⟨zX _,yK _,by rw[wz,wH rfl]⟩,zur _,λj hj=>by rw[gN J]⟩
  simp only[yJ]at hl;generalize wo wN (x::r)=cs at *;simp only[jo,h2.1];simp only[h2.2,ZZ,QF,hp,xZ,wy];rw[Wi J J J hp];rfl
def fS{n:Nat}(h:n<=i):gj m i%2^n=m%2^n:=by rw[Ab];exact wF h
def Yf{α:Type}{f:α->zA}{esz bytes:Nat}(hl:∀x,(f x).length=esz)(hp:∀x,wL (f x)=true)(hs:∀x,w8 (f x)=true)(he:1<=esz){L:zb}{n Y n0:Nat}{vs:List α}{w:α}{e:Bool}(h:vs≠[]->n0<=Y/\Y<n/\wn L Y=some (.app t (wo f vs)))(hm:m%2^n0=0)(hn0:n0<=n)(hb:2*(zR vs+1)*bytes<=281474976710656)(hn:zR vs<1000000000):
  Cv (jo (KL L n m true) t esz bytes (vZ f esz Y vs) (.lst 1 e (f w))) λv s=>∃L' m',v=vZ f esz n (vs++[w])/\s=KL L' (n+1) m' true/\wn L' n=some (.app t (wo f (vs++[w])))/\m'%2^n0=0/\(∀j,j<n->(vs≠[]->j≠Y)->wn L' j=wn L j):=by
 cases vs with
 |nil=>
  refine⟨_,_,Yg L n m [] none t esz bytes e (f w) (hl w) he (by simp only[xY]at hb;omega) (hp w),_,_,?_,rfl,?_,hm,λj hj _=>by rw[gN J]⟩
  .simp only[zv1,vZ,vt,yJ,xY]
  .rw[wC];simp only[zv1,vt]
 |cons u us=>
  obtain⟨h1,h2,h3⟩:=h (by simp)
  have hap:=aW L n m true t esz bytes Y (u::us).length e (wo f (u::us)) (f w) h3 (hl w) he hb hn (wX hp _) (hp w) (hs w);refine⟨_,_,hap,_,_,?_,rfl,?_,?_,λj hj hne=>by rw[gN J,wz,wx (hne (by simp))]⟩
  .simp only[vZ,yu,y8,yJ,xY,xB];rw[<-yu,qu,vt]
  .rw[wC,qu,vt]
  .rw[wF h1];exact hm
def tmR(k v op num fn:Int)(az:List Atm)(ks:List Trm):AObj:=.row 44 [k,v,op,num,fn,.lst (zR az) false (wo wY az),.lst (zR ks) false (w9 ks)]
def Sd{l:List Atm}{a:Atm}{r:List Atm}(hd:l.drop i=a::r):qf 1 (qv (i*2) (wo wY l))=some [.int .i64 a.k]/\qf 1 (qv 1 (qv (i*2) (wo wY l)))=some [.int .i64 a.n]:=by
 rw[jb uV,hd];exact⟨rfl,rfl⟩
def CsS(cs:zA)(S:ze):Prop:=∀j,j<zR S->∃v,qf 1 (qv j cs)=some [v]/\LiV v (S.getD j [])
section
variable {O:Orc}
def Ou (hu:O 59=none)(hh:O 41=some fx)(hp:O 80=some tG)(hb:O 58=some ZM){fid:Nat}(hcs:CsS cs S)(hSl:zR S<1000000000):
  ∀(K:Nat) (t:Trm),qb t<=K->SzT t->Qv (zR S) t->∀(l given:zw) (lv gv:Z),LiV lv l->GiV gv given->zR given+qb t<1000000000->zR l+usZ S t<1000000000->∀(L:zb) (n m:Nat) (b:Bool),fid<n->wn L fid=some (.row 40 cs)->
  Cv (cl O 59 [lv,vg t,gv,.sl fid 0 (zR S) (.fix (zR S))] (KL L n m b)) λv s=>LiV v (usR S given t l)/\s=KL L n m b:=by
 intro K
 induction K with
 |zero=>intro t h;have:=vQ t;omega
 | succ K ih=>
  intro t hK hsz hfn l given lv gv hlv hgv hgn hus L0 n0 m0 b0 hfid hrow;refine vr (F:=f59) hu rfl rfl (zvT rfl) ?_;obtain⟨k,v,op,num,fn,az,ks⟩:=t;simp only[SzT,Qv,usZ,qb]at hK hsz hfn hgn hus;obtain⟨hs1,hs2,hs3⟩:=hsz;obtain⟨hf1,hf2⟩:=hfn;have hgw:=hgv.wk;have hhas:=λy s=>oc hh WY (given,y) (show (zR given)<1000000000 by omega) (args:=[gv,.int .i64 y]) (by simp only[gE,wkL,hgw,wkV]) s
  have hput:=λ(li:zw) (lv:Z) (hlv:LiV lv li) (y:Int) (h:zR li<1000000000) s=>oc hp WY (li,y) h (args:=[lv,.int .i64 y]) (by simp only[gE,wkL,hlv.wk,wkV]) s
  have hbnd:=λs=>oc hb YX (.mk k v op num fn az ks) trivial (WZ _) s;have hcal:=λt (ht:t∈ks)=>ih t (by have:=jw ht;omega) (hU hs3 ht) (Qc hf2 ht)
  clear ih;obtain⟨R,hR⟩:∃R,usR S given (.mk k v op num fn az ks) l=R:=⟨_,rfl⟩;rw[hR];simp only[usR]at hR;have hlA:=da given az l;generalize hl1:usA given az l=l1 at *;simp only[kx,vg,wE,Trm.kind]at hhas hput hbnd;simp only[vg,wE];unfold f59 cF;simp only;refine wq ?_;refine wp (wp (wu ?_));apply wA;refine wP (λi:Nat=>zR az-i) (λi f t=>∃T L n m li lv,f=⟨tmL T,[]⟩/\t=KL L n m true/\LiV lv li/\G T 0 lv/\G T 2 gv/\G T 3 (.sl fid 0 (zR S) (.fix (zR S)))/\G T 5 (.ptr n0 0)/\G T 9 i/\i<=zR az/\n0+1<=n/\m%2^n0=0/\wn L fid=some (.row 40 cs)/\wn L n0=some (tmR k v op num fn az ks)/\zR li<=zR l+i/\l1=usA given (az.drop i) li) (λi f t hI=>?_) 0 ⟨_,_,_,_,l,lv,rfl,rfl,hlv,sW,sW,sW,sW,sW,yz _,zX _,sW,by rw[gN J];exact hrow,by simp (disch:=first|exact dis|fail)only[go_sem,seval,-rO,-rN,tmR],zX _,hl1.symm⟩
  clear hl1 hlv hrow;obtain⟨T,L,n,m,li,lv,rfl,rfl,hlv,t0,t2,t3,t5,t9,hi,hn,hm,gf,g0,hll,hl1⟩:=hI;rcases wJ az i with ⟨hi2,hd⟩|⟨a,hi2,hd⟩
  .have hlt:¬i<zR az:=J;rw[hd]at hl1;simp only[usA]at hl1;subst hl1;simp only[tmR]at g0;refine wu ?_;clear hd hi hi2 t9 hlt;obtain⟨l2,hl2⟩:∃z,(bif eqD k (.ofNat 2)then usO given (S.getD fn.toNat []) l1 else l1)=z:=⟨_,rfl⟩;have hlO:=db given (S.getD fn.toNat []) l1;have hl2n:zR l2<=zR l1+(S.getD fn.toNat []).length:=by
    rw[<-hl2];cases eqD k (.ofNat 2)with
    |true=>exact hlO
    |false=>exact Nat.le_add_right _ _
   rw[hl2]at hR;have hB:zR l2+dc S ks<1000000000:=J;refine qX (λfr t=>∃T L n m lv,fr=⟨tmL T,[]⟩/\t=KL L n m true/\LiV lv l2/\G T 0 lv/\G T 2 gv/\G T 3 (.sl fid 0 (zR S) (.fix (zR S)))/\G T 5 (.ptr n0 0)/\n0+1<=n/\m%2^n0=0/\wn L fid=some (.row 40 cs)/\wn L n0=some (tmR k v op num fn az ks)) ?_ λfr t hI=>?_
   .clear hR hcal hbnd hf2 hs3;cases e2:eqD k (.ofNat 2)with
    |false=>
     rw[e2,wK]at hl2;subst hl2;clear hhas hput hgw;refine wu ?_;exact⟨_,L,n,_,lv,rfl,rfl,hlv,V,V,V,V,hn,hm,gf,g0⟩
    | true=>
     obtain⟨j,rfl,hj⟩:=hf1 e2;obtain⟨ov,hcut,hov⟩:=hcs j hj;rw[e2,wy]at hl2;rw[show (Int.ofNat j).toNat=j from rfl]at hl2 hlO hus hl2n;generalize S.getD j []=own at *;have hvl:=hov.vlen;clear hf1 hgw hcs;refine wp (wu ?_);refine vM V ?_;refine wq ?_;refine wp (wu ?_);apply wA;refine wP (λi:Nat=>zR own-i) (λi f t=>∃T L n m li lv,f=⟨tmL T,[]⟩/\t=KL L n m true/\LiV lv li/\G T 0 lv/\G T 2 gv/\G T 3 (.sl fid 0 (zR S) (.fix (zR S)))/\G T 5 (.ptr n0 0)/\G T 10 ov/\G T 11 i/\i<=zR own/\n0+1<=n/\m%2^n0=0/\wn L fid=some (.row 40 cs)/\wn L n0=some (tmR k v op num (.ofNat j) az ks)/\zR li<=zR l1+i/\l2=usO given (own.drop i) li) (λi f t hI=>?_) 0 ⟨_,L,n,_,l1,lv,rfl,rfl,hlv,V,V,V,V,V,V,yz _,hn,hm,gf,g0,zX _,hl2.symm⟩;clear hl2 hlO hl2n t0 t2 t3 t5 hn hm gf g0 hcut hlv;obtain⟨T,L,n,m,li,lv,rfl,rfl,hlv,t0,t2,t3,t5,t10,t11,hi,hn,hm,gf,g0,hli,hl2⟩:=hI;rcases wJ own i with ⟨hge,hd⟩|⟨y,hge,hd⟩
     .have hni:¬i<zR own:=J;rw[hd]at hl2;simp only[usO]at hl2;subst hl2;clear hd hhas hput;refine wu ?_;exact⟨_,L,n,_,lv,rfl,rfl,hlv,V,V,V,V,hn,hm,gf,g0⟩
     .obtain rfl:ov=.lst (zR own) false (wo wN own):=by
       rcases hov with h|⟨_,h⟩
       .exact h
       .rw[h]at hge;exact absurd hge (wg _)
      have hc:=uz hd;rw[hd]at hl2;simp only[usO]at hl2;have h1:=hhas y;have h2:=hput li lv hlv y J;have h3:=Uv li y;have h4:LiV (qt (Xm li y)) (Xm li y):=.inl rfl;generalize Xm li y=l3 at *;generalize lz given y=hs at *;simp only[qt]at h2 h4;clear hhas hput hd hov hvl;cases hs with
      |true=>
       rw[wy]at hl2;clear h4;refine wu ?_;exact⟨i+1,⟨_,L,n,_,li,lv,rfl,rfl,hlv,V,V,V,V,V,V,J,hn,hm,gf,g0,J,hl2⟩,J⟩
      |false=>
       rw[wK]at hl2;clear hlv;have h5:=h4;clear h4;refine wu ?_;exact⟨i+1,⟨_,L,n,_,l3,_,rfl,rfl,h5,V,V,V,V,V,V,J,hn,hm,gf,g0,J,hl2⟩,J⟩
   .clear hf1 hl2 hlO hl2n t0 t2 t3 t5 hn hm gf g0 hll hhas hput hlv;obtain⟨T,L,n,m,lv,rfl,rfl,hlv,t0,t2,t3,t5,hn,hm,gf,g0⟩:=hI;simp only[tmR]at g0;refine wq ?_;refine wp (qB ?_);refine wO (E0 hgv J _ _ _) λv' t hv=>?_;obtain⟨id1,L1,n1,rfl,rfl,ok1,hn1,hfr⟩:=hv;have g1:=(hfr n0 J).trans g0;have gf1:=(hfr fid J).trans gf;have ok2:given≠[]->n0<=id1/\id1<n1/\wn L1 id1=some (.app 3 (wo wN given)):=λh=>⟨by have:=(ok1 h).1;omega,(ok1 h).2⟩
    have hne1:given≠[]->n0≠id1/\fid≠id1:=λh=>by have:=(ok1 h).1;omega
    clear g0 gf hfr ok1 hgw;refine wu ?_;obtain⟨g3,hg3⟩:∃z,(bif uj k then given++[v]else given)=z:=⟨_,rfl⟩;have hg3l:g3.length<=zR given+1:=by
     rw[<-hg3];cases uj k with
     |true=>simp
     |false=>exact zur _
    rw[hg3]at hR;refine qX (λfr t=>∃T L n m Y,fr=⟨tmL T,[]⟩/\t=KL L n m true/\G T 0 lv/\G T 3 (.sl fid 0 (zR S) (.fix (zR S)))/\G T 5 (.ptr n0 0)/\G T 12 (vZ wN 1 Y g3)/\n0+1<=n/\m%2^n0=0/\wn L fid=some (.row 40 cs)/\wn L n0=some (tmR k v op num fn az ks)) ?_ λfr t hI=>?_
    .clear hcal hR hf2 hs3;generalize uj k=bk at *;cases bk with
     |false=>
      rw[wK]at hg3;subst hg3;refine wu ?_;exact⟨_,L1,n1,_,id1,rfl,rfl,V,V,V,V,J,hm,gf1,g1⟩
     |true=>
      rw[wy]at hg3;refine wp (wu ?_);refine vM V ?_;refine qB ?_;refine wO (Yf (n0:=n0) (w:=v) (e:=true) vA qR uW J ok2 hm J J J) λv' t hv=>?_;obtain⟨L2,m2,rfl,rfl,_,hm2,hfr⟩:=hv;have g2:=(hfr n0 J λh=>(hne1 h).1).trans g1;have gf2:=(hfr fid J λh=>(hne1 h).2).trans gf1;subst hg3;clear hfr;refine wu ?_;exact⟨_,L2,n1+1,_,n1,rfl,rfl,V,V,V,V,J,hm2,gf2,g2⟩
    .clear g1 gf1 ok2 hne1 hn1 hg3 t0 t2 t3 t5 hbnd hm;obtain⟨T,L,n,m,Y,rfl,rfl,t0,t3,t5,t12,hn,hm,gf,g0⟩:=hI;simp only[tmR]at g0;refine wp (wp (wu ?_));apply wA;refine wP (λi:Nat=>zR ks-i) (λi f t=>∃T m2 li lv,f=⟨tmL T,[]⟩/\t=KL L n m2 true/\LiV lv li/\G T 0 lv/\G T 3 (.sl fid 0 (zR S) (.fix (zR S)))/\G T 5 (.ptr n0 0)/\G T 12 (vZ wN 1 Y g3)/\G T 13 i/\i<=zR ks/\m2%2^n0=0/\zR li+dc S (ks.drop i)<1000000000/\R=Kp S g3 (ks.drop i) li) (λi f t hI=>?_) 0 ⟨_,_,l2,lv,rfl,rfl,hlv,V,V,V,V,V,yz _,hm,hB,hR.symm⟩;clear hR hB t0 t3 t5 t12 hlv hm;obtain⟨T,m2,li,lv,rfl,rfl,hlv,t0,t3,t5,t12,t13,hi,hm,hB,hR⟩:=hI;rcases wJ ks i with ⟨hge,hd⟩|⟨x,hge,hd⟩
     .have hni:¬i<zR ks:=J;rw[hd]at hR;simp only[Kp]at hR;subst hR;clear hd hcal;have hpv:=hlv.pure;refine wu ?_;refine ev_zc ?_;exact⟨hlv,rfl⟩
     .have hc:=YR hd;rw[hd]at hR hB;simp only[Kp,dc]at hR hB;have hxm:x∈ks:=zvY (by rw[hd];exact zvZ)
      have hx:=λm b=>hcal x hxm li g3 lv (vZ wN 1 Y g3) hlv (.inr ⟨Y,rfl⟩) (by have:=jw hxm;omega) J L n m b J gf
      have hl:=Bc S g3 x li;have hl7:=qi x;simp only[vg]at hx;generalize usR S g3 x li=l3 at *;clear hcal hd hlv;refine wq ?_;refine wp (wA ?_);refine qB ?_;refine wO (hx _ _) λv' t hv=>?_;obtain⟨hlv,rfl⟩:=hv;clear hx;refine wu ?_;refine wu ?_;exact⟨i+1,⟨_,_,l3,v',rfl,rfl,hlv,V,V,V,V,V,J,V,J,hR⟩,J⟩
  .obtain⟨hc,hc'⟩:=Sd hd;rw[hd]at hl1;simp only[usA]at hl1;have h1:=hhas a.n;have h2:=hput li lv hlv a.n J;have h3:=Uv li a.n;obtain⟨ak,an⟩:=a;simp only[tmR]at g0;simp only[qt]at hc hc' h1 h2 h3 hl1;have h4:LiV (.lst (Xm li an).length false (wo wN (Xm li an))) (Xm li an):=.inl rfl;generalize Xm li an=l2 at *;generalize lz given an=hs at *;clear hhas hput hbnd hcal hd hR hgw;cases e1:eqD ak (.ofNat 1)with
   |false=>
    rw[e1,zvW,wK]at hl1;clear h4;refine wu ?_;exact⟨i+1,⟨_,_,n,_,li,lv,rfl,rfl,hlv,V,V,V,V,V,J,hn,hm,gf,g0,J,hl1⟩,J⟩
   | true=>
    cases hs with
    |true=>
     rw[e1,wa,zv8,wK]at hl1;clear h4;refine wu ?_;exact⟨i+1,⟨_,_,n,_,li,lv,rfl,rfl,hlv,V,V,V,V,V,J,hn,hm,gf,g0,J,hl1⟩,J⟩
    |false=>
     rw[e1,zv6,xZ,wy]at hl1;have h5:=h4;clear h4 hlv;refine wu ?_;exact⟨i+1,⟨_,_,n,_,l2,_,rfl,rfl,h5,V,V,V,V,V,J,hn,hm,gf,g0,J,hl1⟩,J⟩
end
def lu(x:zw×zw):zA:=[qt x.1,qt x.2]
def UW:∀x y,lu x=lu y->x=y:=λ⟨a,b⟩ ⟨c,d⟩ h=>by
 simp only[lu,vc,and_true]at h;rw[lB h.1,lB h.2]
def GA(x:zw×zw):wL (lu x)=true:=by simp only[lu,wR,jn,wU,xZ]
def VG(x:zw×zw):Prop:=zR x.1<1000000000/\zR x.2<1000000000
def Q9:zw->zw->Bool
 |[],[]=>true
 |a::r,b::q=>eqD a b&&Q9 r q
 |_,_=>false
def V3:∀{a b:zw},Q9 a b=true↔a=b
 |[],[]=>by simp[Q9]
 |[],_::_=>by simp[Q9]
 |_::_,[]=>by simp[Q9]
 |a::r,b::q=>by
  simp only[Q9,zU,V3 (a:=r),vc,eqD,hZ]
def Ma:zA->U->zc:=v7 lu VG (λx=>.bool (Q9 x.1 x.2))
section
variable {P:Program}{X:World}(B:Bx P X){O:Orc}(hO:OrcOk P X O)
include B hO
attribute [local go_sem] lu qt in
def Oj(x:zw×zw)(hx:VG x):∃s1,SC P X 60 (lu x) (s00 0 true) (.bool (Q9 x.1 x.2)) s1:=by
 refine be B hO f60 ?_;obtain⟨a,b⟩:=x;obtain⟨ha,hb⟩:=hx;obtain⟨R,hR⟩:∃R,Q9 a b=R:=⟨_,rfl⟩;simp only at ha hb|-;rw[hR];unfold f60 cF;simp only;refine wq ?_;by_cases hl:zR a=zR b
 .refine wq ?_;refine wp (wp (wu ?_));apply wA;refine wP (λi:Nat=>zR a-i) (λi f t=>∃T L n m,f=⟨tmL T,[]⟩/\t=KL L n m true/\G T 0 (.lst (zR a) false (wo wN a))/\G T 1 (.lst (zR b) false (wo wN b))/\G T 5 i/\i<=zR a/\R=Q9 (a.drop i) (b.drop i)) (λi f t hI=>?_) 0 ⟨_,_,_,_,rfl,rfl,V,V,sW,yz _,hR.symm⟩;clear hR;obtain⟨T,L,n,m,rfl,rfl,t0,t1,t5,hi,hR⟩:=hI;rcases wJ a i with ⟨hlt,hd⟩|⟨y,hlt,hd⟩
  .have hni:¬i<zR a:=J;have hdb:b.drop i=[]:=List.drop_eq_nil_of_le J;rw[hd,hdb]at hR;clear hd hdb;refine wu ?_;refine ev_zc ?_;exact XQ hR
  .obtain⟨z,hdb⟩:∃z,b.drop i=z::b.drop (i+1):=⟨_,zud J⟩;have hc:=uz hd;have hcb:=uz hdb;have hltb:i<zR b:=J;rw[hd,hdb]at hR;simp only[Q9]at hR;clear hd hdb;cases e:eqD y z with
   |false=>
    rw[e,zvW]at hR;refine ev_zc ?_;exact XQ hR
   |true=>
    rw[e,xC]at hR;refine wu ?_;exact⟨i+1,⟨_,_,n,_,rfl,rfl,V,V,V,J,hR⟩,J⟩
 .have hR2:R=false:=by
   rw[<-hR,Bool.eq_false_iff];exact λh=>hl (by rw[V3.1 h])
  clear hR;refine wq ?_;refine qP ?_;exact XQ hR2
end
mutual
def Yh:Trm->zw
 |.mk k v _ _ _ _ ks=>(bif uj k then [v]else [])++XS ks
def XS:List Trm->zw
 |[]=>[]
 |t::r=>Yh t++XS r
end
mutual
theorem VN:∀t:Trm,(Yh t).length<=qb t
 |.mk k v _ _ _ _ ks=>by
  have:=LI ks;simp only[Yh,qb,y8];cases uj k<;>simp<;>omega
theorem LI:∀l:List Trm,(XS l).length<=qY l
 |[]=>zX _
 |t::r=>by
  have h1:=VN t;have h2:=LI r;simp only[XS,qY,y8];omega
end
def GI(L:zb)(n Y:Nat)(l:zw):Prop:=l≠[]->Y<n/\wn L Y=some (.row 3 (wo wN l) true false)
section
variable {O:Orc}
def DH(h36:O 40=none)(hb:O 58=some ZM):∀(K:Nat) (t:Trm),qb t<=K->SzT t->∀(l:zw) (L:zb) (n m Y:Nat),WfA L n->GI L n Y l->zR l+qb t<1000000000->
  Cv (cl O 40 [gSl 1 Y (zR l),vg t] (KL L n m false)) λv s=>∃id2 L2 n2 m2,v=gSl 1 id2 (l++Yh t).length/\s=KL L2 n2 m2 false/\WfA L2 n2/\n<=n2/\GI L2 n2 id2 (l++Yh t)/\(l++Yh t≠[]->(l≠[]/\id2=Y)\/n<=id2)/\∀j,j<n->(l≠[]->j≠Y)->wn L2 j=wn L j:=by
 intro K
 induction K with
 |zero=>intro t h;have:=vQ t;omega
 | succ K ih=>
  intro t hK hsz l L0 n0 m0 id0 hw0 hg0 hN;refine qD (F:=f40) h36 rfl rfl (zvT rfl) ?_;obtain⟨k,v,op,num,fn,az,ks⟩:=t;simp only[SzT,qb]at hK hsz hN;obtain⟨hs1,hs2,hs3⟩:=hsz;have hbnd:=λs=>oc hb YX (.mk k v op num fn az ks) trivial (WZ _) s;have hcal:=λt (ht:t∈ks)=>ih t (by have:=jw ht;omega) (hU hs3 ht)
  clear ih;obtain⟨R,hR⟩:∃R,l++Yh (.mk k v op num fn az ks)=R:=⟨_,rfl⟩;rw[hR];simp only[Yh]at hR;obtain⟨l2,hl2⟩:∃z,l++(bif uj k then [v]else [])=z:=⟨_,rfl⟩;have hl2n:zR l2<=zR l+1:=by rw[<-hl2];cases uj k<;>simp
  rw[<-zum,hl2]at hR;simp only[kx,vg,wE,Trm.kind]at hbnd;simp only[vg,wE];unfold f40 cF;simp only;refine wq ?_;refine qX (λfr t=>∃T L n m Y,fr=⟨tmL T,[]⟩/\t=KL L n m false/\G T 0 (gSl 1 Y (zR l2))/\G T 3 (.ptr n0 0)/\WfA L n/\n0+1<=n/\GI L n Y l2/\(l2≠[]->(l≠[]/\Y=id0)\/n0+1<=Y)/\wn L n0=some (tmR k v op num fn az ks)/\∀j,j<n0->(l≠[]->j≠id0)->wn L j=wn L0 j) ?_ λfr t hI=>?_
  .clear hR hcal;have hg1:∀o,GI ((n0,o)::L0) (n0+1) id0 l:=λo h=>⟨by have:=(hg0 h).1;omega,by have:=hg0 h;rw[gN J];exact this.2⟩
   generalize uj k=bk at *;cases bk with
   |false=>
    rw[wK,zvV]at hl2;subst hl2;refine wu ?_;exact⟨_,_,n0+1,_,id0,rfl,rfl,V,V,hw0.cons (yK _) (zur _),zX _,hg1 _,λh=>.inl ⟨h,rfl⟩,by simp (disch:=first|exact dis|fail)only[go_sem,seval,-rO,-rN,tmR],λj hj _=>by rw[gN J]⟩
   | true=>
    rw[wy]at hl2;refine wp (wu ?_);refine vM V ?_;have hsrc:∀(L:zb) n m o,qQ (KL ((n0+1,some (AObj.row 3 [v] o false))::L) n m false) 1 1 (.sl (n0+1) 0 1 (.fix 1))=some (wN v):=λL n m o=>(lE (j:=0) (cs:=wN v) (x:=o) (f:=false) (e:=3) (by rw[qk,wC];rfl) rfl).2
    refine qB ?_;refine wO (QX (f:=wN) (Y:=id0) (vs:=l) (w:=v) vA uW J (λh=>⟨by have:=(hg0 h).1;omega,by have:=hg0 h;rw[gN J,gN J];exact this.2⟩) (by (repeat first|exact hw0.up J|refine WfA.same ?_ J)) rfl (hsrc _ _ _ _) J J) λv' t hv=>?_
    obtain⟨L7,m7,rfl,rfl,g7,hw7,hf7⟩:=hv;subst hl2;clear hsrc hg1;have hfn:∀j,j<n0+1->(l≠[]->j≠id0)->wn L7 j=wn ((n0,some (tmR k v op num fn az ks))::L0) j:=λj hj hne=>by
     rw[hf7 j J hne,gN J];rfl
    clear hf7;have g0:=hfn n0 J (λh=>by have:=(hg0 h).1;omega)
    rw[wC]at g0;refine wu ?_;exact⟨_,L7,n0+1+1+1,_,n0+1+1,rfl,rfl,V,V,hw7,J,λ_=>⟨J,g7⟩,λ_=>.inr J,g0,λj hj hne=>by rw[hfn j J hne,gN J]⟩
  .clear hbnd hl2;obtain⟨T,L,n,m,Y,rfl,rfl,t0,t3,hw,hn,hg,hid,g0,hfr⟩:=hI;simp only[tmR]at g0;refine wp (wp (wu ?_));apply wA;have hB:zR l2+qY ks<1000000000:=J;refine wP (λi:Nat=>zR ks-i) (λi f t=>∃T L n m Y li,f=⟨tmL T,[]⟩/\t=KL L n m false/\G T 0 (gSl 1 Y (zR li))/\G T 3 (.ptr n0 0)/\G T 5 i/\WfA L n/\n0+1<=n/\GI L n Y li/\(li≠[]->(l≠[]/\Y=id0)\/n0+1<=Y)/\wn L n0=some (tmR k v op num fn az ks)/\(∀j,j<n0->(l≠[]->j≠id0)->wn L j=wn L0 j)/\i<=zR ks/\zR li+qY (ks.drop i)<1000000000/\R=li++XS (ks.drop i)) (λi f t hI=>?_) 0 ⟨_,_,_,_,Y,l2,rfl,rfl,V,V,V,hw,hn,hg,hid,g0,hfr,yz _,hB,hR.symm⟩;clear hR hB t0 t3 hw hn hg hid g0 hfr;obtain⟨T,L,n,m,Y,li,rfl,rfl,t0,t3,t5,hw,hn,hg,hid,g0,hfr,hi,hB,hR⟩:=hI;simp only[tmR]at g0;rcases wJ ks i with ⟨hge,hd⟩|⟨x,hge,hd⟩
   .have hni:¬i<zR ks:=J;rw[hd]at hR;simp only[XS,zvV]at hR;subst hR;have hfr2:=hfr;clear hd hcal hfr;refine wu ?_;refine ev_zc ?_;exact⟨Y,L,n,_,rfl,rfl,hw,J,hg,λh=>by rcases hid h with h|h;exact .inl h;exact .inr J,hfr2⟩
   .have hc:=YR hd;rw[hd]at hR hB;simp only[XS,qY]at hR hB;have hx:=λm=>hcal x (zvY (by rw[hd];exact zvZ)) li L n m Y hw hg J
    have hl:=VN x;have hl7:=qi x;simp only[vg]at hx;have hne:li≠[]->n0≠Y:=λh=>by
     rcases hid h with ⟨h1,h2⟩|h2
     .have:=(hg0 h1).1;omega
     .omega
    have hlen:(li++Yh x).length=zR li+(Yh x).length:=y8;rw[<-zum]at hR;generalize li++Yh x=l3 at *;have hfr2:=hfr;clear hcal hd hfr;refine wq ?_;refine wp (wA ?_);refine qB ?_;refine wO (hx _) λv' t hv=>?_;obtain⟨id2,L2,n2,m2,rfl,rfl,hw2,hn2,hg2,hid2,hf2⟩:=hv;have g02:=(hf2 n0 J hne).trans g0;have hf3:∀j,j<n0->(l≠[]->j≠id0)->wn L2 j=wn L0 j:=λj hj h=>by
     rw[hf2 j J λh2=>by rcases hid h2 with ⟨h3,h4⟩|h4;rw[h4];exact h h3;omega]
     exact hfr2 j hj h
    have hid3:l3≠[]->(l≠[]/\id2=id0)\/n0+1<=id2:=λh=>by
     rcases hid2 h with ⟨h1,h2⟩|h2
     .rw[h2];exact hid h1
     .exact .inr J
    clear hx hf2 hfr2 hid2 hid g0 hg hw hne;refine wu ?_;refine wu ?_;exact⟨i+1,⟨_,L2,n2,_,id2,l3,rfl,rfl,V,V,V,hw2,J,hg2,hid3,g02,hf3,J,J,hR⟩,J⟩
end
def RI(l:zw):Prop:=l.Pairwise (· < ·)
def RI.nd(h:RI l):l.Nodup:=List.Pairwise.imp (λh=>J) h
def Hh{x n:Int}:∀{l:zw},x∈QC n l↔x=n\/x∈l
 |[]=>by simp[QC]
 |y::r=>by
  simp only[QC];cases ltD y n with
  |true=>simp only[wy,zua,Hh (l:=r)];constructor<;>(intro h;rcases h with h|h|h)<;>simp[h]
  |false=>simp only[wK,zua]
def Zp:lz l n=true↔n∈l:=by
 simp only[lz,List.any_eq_true,eqD,hZ];exact⟨λ⟨_,h1,h2⟩=>h2▸h1,λh=>⟨n,h,rfl⟩⟩
def fW:x∈Xm l n↔x=n\/x∈l:=by
 unfold Xm;cases h:lz l n with
 |true=>
  rw[wy];exact⟨.inr,λg=>g.elim (λe=>e▸Zp.1 h) Y⟩
 |false=>exact Hh
def AP{n:Int}:∀{l:zw},RI l->n∉l->RI (QC n l)
 |[],_,_=>by simp[QC,RI]
 | y::r,h,hn=>by
  simp only[RI,zuC]at h;simp only[QC];cases e:ltD y n with
  |true=>
   have hy:y<n:=by simpa [ltD]using e
   simp only[wy,RI,zuC];refine⟨λz hz=>?_,AP h.2 λg=>hn (zuz _ g)⟩;rcases Hh.1 hz with rfl|hz
   .exact hy
   .exact h.1 z hz
  |false=>
   have hy:¬y<n:=by simpa [ltD]using e
   have hne:n≠y:=λg=>hn (g▸zvZ);simp only[wK,RI,zuC];refine⟨λz hz=>?_,h⟩;rcases List.mem_cons.1 hz with rfl|hz
   .omega
   .have:=h.1 z hz;omega
def AQ(h:RI l):RI (Xm l n):=by
 unfold Xm;cases e:lz l n with
 |true=>exact h
 |false=>exact AP h λg=>by rw[Zp.2 g]at e;cases e
def bZ{x:Int}{g:zw}:∀{az:List Atm} {l:zw},x∈usA g az l↔x∈l\/∃a∈az,eqD a.k (.ofNat 1)=true/\a.n=x/\x∉g
 |[],l=>by simp[usA]
 | a ::r,l=>by
  simp only[usA,bZ (az:=r),zua];cases e1:eqD a.k (.ofNat 1)with
  | false=>
   simp only[zvW,wK];exact⟨λh=>h.imp Y λ⟨b,h⟩=>⟨b,.inr h.1,h.2⟩,λh=>h.imp Y λ⟨b,h,h2⟩=>by
    rcases h with rfl|h
    .rw[e1]at h2;cases h2.1
    .exact⟨b,h,h2⟩⟩
  | true=>
   cases e2:lz g a.n with
   | true=>
    simp only[wa,zv8,wK];exact⟨λh=>h.imp Y λ⟨b,h⟩=>⟨b,.inr h.1,h.2⟩,λh=>h.imp Y λ⟨b,h,h2⟩=>by
     rcases h with rfl|h
     .exact absurd (h2.2.1▸Zp.1 e2) h2.2.2
     .exact⟨b,h,h2⟩⟩
   | false=>
    have hg:a.n∉g:=λh=>by rw[Zp.2 h]at e2;cases e2
    simp only[zv6,zui,wy,fW];constructor
    .rintro((rfl|h)|⟨b,h,h2⟩)
     .exact .inr ⟨a,.inl rfl,e1,rfl,hg⟩
     .exact .inl h
     .exact .inr ⟨b,.inr h,h2⟩
    .rintro(h|⟨b,rfl|h,h2⟩)
     .exact .inl (.inr h)
     .exact .inl (.inl h2.2.1.symm)
     .exact .inr ⟨b,h,h2⟩
def rT{g:zw}:∀{az:List Atm} {l:zw},RI l->RI (usA g az l)
 |[],_,h=>h
 |a::r,l,h=>by
  simp only[usA];apply rT;cases eqD a.k (.ofNat 1)&& !lz g a.n with
  |true=>exact AQ h
  |false=>exact h
def Ac{x:Int}{g:zw}:∀{o l:zw},x∈usO g o l↔x∈l\/(x∈o/\x∉g)
 |[],l=>by simp[usO]
 | y::r,l=>by
  simp only[usO,Ac (o:=r),zua];cases e2:lz g y with
  |true=>
   have hy:=Zp.1 e2;simp only[wy];exact⟨λh=>h.imp Y λh=>⟨.inr h.1,h.2⟩,λh=>h.imp Y λ⟨h,h2⟩=>⟨h.resolve_left λe=>h2 (e▸hy),h2⟩⟩
  | false=>
   have hy:y∉g:=λh=>by rw[Zp.2 h]at e2;cases e2
   simp only[wK,fW];constructor
   .rintro((rfl|h)|⟨h,h2⟩)
    .exact .inr ⟨.inl rfl,hy⟩
    .exact .inl h
    .exact .inr ⟨.inr h,h2⟩
   .rintro(h|⟨rfl|h,h2⟩)
    .exact .inl (.inr h)
    .exact .inl (.inl rfl)
    .exact .inr ⟨h,h2⟩
def N6{g:zw}:∀{o l:zw},RI l->RI (usO g o l)
 |[],_,h=>h
 |y::r,l,h=>by
  simp only[usO];apply N6;cases lz g y with
  |true=>exact h
  |false=>exact AQ h
mutual
def fvT(S:ze)(x:Int):zw->Trm->Prop
 |g,.mk k v _ _ fn az ks=>((∃a∈az,eqD a.k (.ofNat 1)=true/\a.n=x/\x∉g)\/(eqD k (.ofNat 2)=true/\x∈S.getD fn.toNat []/\x∉g))\/Uc S x (bif uj k then g++[v]else g) ks
def Uc(S:ze)(x:Int):zw->List Trm->Prop
 |_,[]=>False
 |g,t::r=>fvT S x g t\/Uc S x g r
end
mutual
theorem Qk{S:ze}{x:Int}:∀{t:Trm} {g l:zw},x∈usR S g t l↔x∈l\/fvT S x g t
 |.mk k v _ _ fn az ks,g,l=>by
  simp only[usR,fvT,fX];cases eqD k (.ofNat 2)with
  |false=>simp only[wK,bZ,Bool.false_eq_true,false_and,or_false,or_assoc]
  |true=>simp only[wy,Ac,bZ,true_and,or_assoc]
theorem fX{S:ze}{x:Int}:∀{ks:List Trm} {g l:zw},x∈Kp S g ks l↔x∈l\/Uc S x g ks
 |[],g,l=>by simp only[Kp,Uc,or_false]
 |t::r,g,l=>by simp only[Kp,Uc,fX,Qk,or_assoc]
end
mutual
theorem N7{S:ze}:∀{t:Trm} {g l:zw},RI l->RI (usR S g t l)
 |.mk k v _ _ fn az ks,g,l,h=>by
  simp only[usR];apply AR;cases eqD k (.ofNat 2)with
  |false=>exact rT h
  |true=>exact N6 (rT h)
theorem AR{S:ze}:∀{ks:List Trm} {g l:zw},RI l->RI (Kp S g ks l)
 |[],_,_,h=>h
 |t::r,g,l,h=>by
  simp only[Kp];exact AR (N7 h)
end
mutual
theorem fm{S:ze}{x:Int}:∀{t:Trm} {g:zw},fvT S x g t->x∈ui t\/∃j,x∈S.getD j []
 |.mk k v _ _ fn az ks,g,h=>by
  simp only[fvT]at h;simp only[ui,zuq,List.mem_map];rcases h with (⟨a,h1,h2,h3,_⟩|⟨_,h,_⟩)|h
  .exact .inl (.inl ⟨a,h1,h3⟩)
  .exact .inr ⟨_,h⟩
  .exact(Pw h).imp .inr Y
theorem Pw{S:ze}{x:Int}:∀{ks:List Trm} {g:zw},Uc S x g ks->x∈kf ks\/∃j,x∈S.getD j []
 |[],_,h=>h.elim
 |t::r,g,h=>by
  simp only[Uc]at h;simp only[kf,zuq];rcases h with h|h
  .exact(fm h).imp .inl Y
  .exact(Pw h).imp .inr Y
end
mutual
theorem Ub{S S2:ze}{x:Int}(hs:∀j,x∈S.getD j []->x∈S2.getD j []):∀{t:Trm} {g:zw},fvT S x g t->fvT S2 x g t
 |.mk k v _ _ fn az ks,g,h=>by
  simp only[fvT]at h|-;exact h.imp (λh=>h.imp Y λ⟨h1,h2,h3⟩=>⟨h1,hs _ h2,h3⟩) (Pv hs)
theorem Pv{S S2:ze}{x:Int}(hs:∀j,x∈S.getD j []->x∈S2.getD j []):∀{ks:List Trm} {g:zw},Uc S x g ks->Uc S2 x g ks
 |[],_,h=>h
 |t::r,g,h=>by
  simp only[Uc]at h|-;exact h.imp (Ub hs) (Pv hs)
end
def Uw(c:Cd)(S:ze):ze:=c.fs.map λf=>usR S f.ps f.b []
def rIt(c:Cd):Nat->ze
 |0=>zuD (zR c.fs) []
 |k+1=>Uw c (rIt c k)
def j0(c:Cd):ze:=rIt c (pg c)
def ZU(c:Cd):∀k,(rIt c k).length=zR c.fs
 |0=>by simp[rIt]
 |k+1=>by simp[rIt,Uw]
theorem Yy(n j:Nat):(zuD n ([]:zw)).getD j []=[]:=by
 rw[xR,zux];split<;>rfl
theorem Wz{j:Nat}:(Uw c S).getD j []=match c.fs[j]? with
  |some f=>usR S f.ps f.b []
  |none=>[]:=by
 rw[xR,Uw,List.getElem?_map];cases c.fs[j]? <;>rfl
def Vq(c:Cd):∀k j,RI ((rIt c k).getD j [])
 |0,j=>by rw[rIt,Yy];exact zuG
 |k+1,j=>by
  rw[rIt,Wz];cases c.fs[j]? with
  |none=>exact zuG
  |some f=>exact N7 zuG
def cK(c:Cd):∀k j,∀x∈(rIt c k).getD j [],x∈jh c
 |0,j,x,h=>by rw[rIt,Yy]at h;cases h
 | k+1,j,x,h=>by
  rw[rIt,Wz]at h;cases hf:c.fs[j]? with
  |none=>rw[hf]at h;cases h
  | some f=>
   rw[hf]at h;rcases Qk.1 h with h|h
   .cases h
   .rcases fm h with h|⟨i,h⟩
    .exact WM c f (xU hf) x h
    .exact cK c k i x h
def rM(c:Cd):∀k j,∀x∈(rIt c k).getD j [],x∈(rIt c (k+1)).getD j []
 |0,j,x,h=>by rw[rIt,Yy]at h;cases h
 | k+1,j,x,h=>by
  rw[rIt,Wz]at h|-;cases hf:c.fs[j]? with
  |none=>rw[hf]at h;exact h
  |some f=>
   replace h:x∈usR (rIt c k) f.ps f.b []:=by rw[hf]at h;exact h
   show x∈usR (rIt c (k+1)) f.ps f.b [];rcases Qk.1 h with h|h
   .cases h
   .exact Qk.2 (.inr (Ub (λi=>rM c k i x) h))
def N5:∀{a b:zw},RI a->RI b->(∀x∈a,x∈b)->zR a=zR b->a=b
 |[],[],_,_,_,_=>rfl
 | x ::a,y::b,ha,hb,hs,hl=>by
  have ha1:=ha;have hb1:=hb;simp only[RI,zuC]at ha hb;have hxy:x=y:=by
   rcases List.mem_cons.1 (hs x zvZ)with h|h
   .exact h
   .have h1:=hb.1 x h;have h2:=pm (l:=x::a) (U9:=b) ha1.nd λz hz=>by
     rcases List.mem_cons.1 (hs z hz)with e|e
     .rcases List.mem_cons.1 hz with e2|e2
      .omega
      .have:=ha.1 z e2;omega
     .exact e
    simp only[yJ]at hl h2;omega
  subst hxy;rw[N5 ha.2 hb.2 (λz hz=>by
   rcases List.mem_cons.1 (hs z (zuz _ hz))with e|e
   .have:=ha.1 z hz;omega
   .exact e) (by simpa using hl)]
def sr:∀{S S2:ze},zR S=zR S2->(∀j,RI (S.getD j [])/\RI (S2.getD j [])/\∀x∈S.getD j [],x∈S2.getD j [])->S=S2\/lG S<lG S2
 |[],[],_,_=>.inl rfl
 | a::S,b::S2,hl,h=>by
  have h0:=h 0;simp only[List.getD_cons_zero]at h0;have hle:=pm h0.1.nd h0.2.2;rcases sr (S:=S) (S2:=S2) (by simpa using hl) λj=>by simpa only[List.getD_cons_succ]using h (j+1)with e|e
  .rcases Nat.lt_or_ge (zR a) (zR b)with g|g
   .right;simp only[lG,ye,zuI,e];omega
   .left;rw[N5 h0.1 h0.2.1 h0.2.2 J,e]
  .right;simp only[lG,ye,zuI]at e|-;omega
def AM(c:Cd)(k:Nat):lG (rIt c k)<=pg c:=by
 unfold pg;rw[<-ZU c k];refine cX λl hl=>?_;obtain⟨j,hj⟩:=zuh hl;have:(rIt c k).getD j []=l:=by rw[xR,hj];rfl
 rw[<-this];exact⟨(Vq c k j).nd,cK c k j⟩
def HA(c:Cd):∀k,rIt c (k+1)=rIt c k\/k<lG (rIt c (k+1))
 |0=>by
  rcases sr (S:=rIt c 0) (S2:=rIt c 1) (by rw[ZU,ZU]) λj=>⟨Vq c _ j,Vq c _ j,rM c 0 j⟩with h|h
  .exact .inl h.symm
  .exact .inr (Nat.lt_of_le_of_lt (yz _) h)
 | k+1=>by
  rcases HA c k with h|h
  .left
   show Uw c (rIt c (k+1))=Uw c (rIt c k);rw[h]
  .rcases sr (S:=rIt c (k+1)) (S2:=rIt c (k+2)) (by rw[ZU,ZU]) λj=>⟨Vq c _ j,Vq c _ j,rM c (k+1) j⟩with h2|h2
   .exact .inl h2.symm
   .exact .inr (by have:lG (rIt c (k+1))<lG (rIt c (k+1+1)):=h2;omega)
def HB{c:Cd}{k:Nat}(h:rIt c (k+1)=rIt c k):∀j,rIt c (k+j)=rIt c k
 |0=>rfl
 |j+1=>by
  show Uw c (rIt c (k+j))=_;rw[HB h j];exact h
def P9(c:Cd):Uw c (j0 c)=j0 c:=by
 rcases HA c (pg c)with h|h
 .exact h
 .have:=AM c (pg c+1);omega
def NN{c:Cd}{k:Nat}(h:rIt c (k+1)=rIt c k):rIt c k=j0 c:=by
 unfold j0;by_cases hk:k<=pg c
 .have:=HB h (pg c-k);rw[Nat.add_sub_cancel' hk]at this;exact this.symm
 .have:=HB (P9 c) (k-pg c);rw[Nat.add_sub_cancel' J]at this;exact this
def zxS{c:Cd}{k:Nat}(h:rIt c (k+1)≠rIt c k):k<pg c:=by
 rcases HA c k with h1|h1
 .exact absurd h1 h
 .have:=AM c (k+1);omega
def Qq(c:Cd):(qF c).length=zR c.fs:=(lA c _).len
def aw:∀(fs:List Fn) (i:Nat) (S:ze) (j:Nat),j<i->(kZ fs i S).getD j []=S.getD j []
 |[],_,_,_,_=>rfl
 |f::r,i,S,j,h=>by
  simp only[kZ];rw[aw r (i+1) _ j J,xR,List.getElem?_set,wx J,<-xR]
def av:∀(fs:List Fn) (i:Nat) (S:ze),i+zR fs<=zR S->kZ fs i S=S->∀j f,fs[j]? =some f->jT S (i+j) f.b (Yo [] f.ps) (S.getD (i+j) [])=S.getD (i+j) []
 |[],_,_,_,_,j,f,h=>by simp at h
 | g::r,i,S,hl,hs,j,f,h=>by
  simp only[kZ]at hs;simp only[yJ]at hl;have h1:=aw r (i+1) (S.set i (jT S i g.b (Yo [] g.ps) (S.getD i []))) i J;rw[hs,pV J,wH rfl]at h1;cases j with
  |zero=>
   simp only[List.getElem?_cons_zero,wB]at h;subst h;exact h1.symm
  |succ j=>
   rw[<-h1,HJ]at hs;have:=av r (i+1) S J hs j f (by simpa using h)
   rwa [show i+1+j=i+(j+1) by omega]at this
def zxl{j:Nat}{f:Fn}(h:c.fs[j]? =some f):jT (qF c) j f.b (Yo [] f.ps) ((qF c).getD j [])=(qF c).getD j []:=by
 have:=av c.fs 0 (qF c) (by rw[Qq];omega) (au c) j f h
 rwa [xB]at this
def fT:y∈Qz l x↔y∈l\/y=x:=by
 unfold Qz;split
 .rename_i h;exact⟨.inl,λh'=>h'.elim Y λe=>e▸h⟩
 .simp
def fU{y:Int}:∀{m l:zw},y∈Yo l m↔y∈l\/y∈m
 |[],l=>by simp[Yo]
 |x::r,l=>by simp only[Yo,fU (m:=r),fT,zua,or_assoc]
def kM{sc:zw}{x:Int}:∀{az:List Atm} {ow:zw},x∈uy sc ow az↔x∈ow\/∃a∈az,eqD a.k (.ofNat 1)=true/\a.n=x/\x∉sc
 |[],ow=>by simp[uy]
 | a::r,ow=>by
  simp only[uy,kM (az:=r),zua];cases e1:eqD a.k (.ofNat 1)with
  | false=>
   rw[wK];exact⟨λh=>h.imp Y λ⟨b,h⟩=>⟨b,.inr h.1,h.2⟩,λh=>h.imp Y λ⟨b,h,h2⟩=>by
    rcases h with rfl|h
    .rw[e1]at h2;cases h2.1
    .exact⟨b,h,h2⟩⟩
  | true=>
   rw[wy,Yq];constructor
   .rintro((h|⟨rfl,h⟩)|⟨b,h,h2⟩)
    .exact .inl h
    .exact .inr ⟨a,.inl rfl,e1,rfl,h⟩
    .exact .inr ⟨b,.inr h,h2⟩
   .rintro(h|⟨b,rfl|h,h2⟩)
    .exact .inl (.inl h)
    .exact .inl (.inr ⟨h2.2.1.symm,h2.2.1.symm▸h2.2.2⟩)
    .exact .inr ⟨b,h,h2⟩
def AU{k v:Int}{sc g:zw}(h:∀y,y∈sc↔y∈g)(y:Int):y∈scB k v sc↔y∈(bif uj k then g++[v]else g):=by
 unfold scB;cases uj k with
 |true=>simp only[wy,fT,zuq,List.mem_singleton,h]
 |false=>exact h y
mutual
theorem sL{S:ze}{i:Nat}{x:Int}:∀{t:Trm} {sc g ow:zw},(∀y,y∈sc↔y∈g)->x∈jT S i t sc ow->x∈ow\/fvT S x g t
 | .mk k v _ _ fn az ks,sc,g,ow,hg,h=>by
  simp only[jT]at h;simp only[fvT];have hx:=not_congr (hg x);rcases dW (AU hg) h with h|h
  .simp only[Qy]at h;cases e:eqD k (.ofNat 2)with
   |false=>
    rw[e,wK,kM,hx]at h;exact h.imp Y λh=>.inl (.inl h)
   | true=>
    rw[e,wy]at h;split at h
    .rw[kM,hx]at h;exact h.imp Y λh=>.inl (.inl h)
    .rw[Wt,kM,hx]at h;rcases h with (h|h)|h
     .exact .inl h
     .exact .inr (.inl (.inl h))
     .exact .inr (.inl (.inr ⟨rfl,h⟩))
  .exact .inr (.inr h)
theorem dW{S:ze}{i:Nat}{x:Int}:∀{ks:List Trm} {sc g ow:zw},(∀y,y∈sc↔y∈g)->x∈jC S i ks sc ow->x∈ow\/Uc S x g ks
 |[],_,_,_,_,h=>.inl h
 |t::r,sc,g,ow,hg,h=>by
  simp only[jC]at h;simp only[Uc];rcases sL hg h with h|h
  .exact(dW hg h).imp Y .inr
  .exact .inr (.inl h)
end
def RW{t:Trm}{sc ow:zw}(h:x∈ow):x∈jT S i t sc ow:=by
 obtain⟨z,e⟩:=VO (S:=S) (i:=i) t sc ow;rw[e];exact zuF _ h
def dX{t:List Trm}{sc ow:zw}(h:x∈ow):x∈jC S i t sc ow:=by
 obtain⟨z,e⟩:=UN (S:=S) (i:=i) t sc ow;rw[e];exact zuF _ h
mutual
theorem tq{S:ze}{i:Nat}{x:Int}:∀{t:Trm} {sc g ow:zw},(∀y,y∈sc↔y∈g)->(x∈S.getD i []->x∈ow)->fvT S x g t->x∈jT S i t sc ow
 | .mk k v _ _ fn az ks,sc,g,ow,hg,ho,h=>by
  simp only[fvT]at h;simp only[jT];have hx:=not_congr (hg x);rcases h with h|h
  .apply dX;simp only[Qy];cases e:eqD k (.ofNat 2)with
   |false=>
    rw[wK,kM,hx];rcases h with h|h
    .exact .inr h
    .rw[e]at h;cases h.1
   | true=>
    rw[wy];split
    .rename_i hi
     rw[kM,hx];rcases h with h|h
     .exact .inr h
     .rw[hi]at h;exact .inl (ho h.2.1)
    .rw[Wt,kM,hx];rcases h with h|h
     .exact .inl (.inr h)
     .exact .inr h.2
  .refine fp (AU hg) (λhh=>?_) h;have:∃z,Qy S i k fn az sc ow=ow++z:=dV;obtain⟨z,e⟩:=this;rw[e];exact zuF _ (ho hh)
theorem fp{S:ze}{i:Nat}{x:Int}:∀{ks:List Trm} {sc g ow:zw},(∀y,y∈sc↔y∈g)->(x∈S.getD i []->x∈ow)->Uc S x g ks->x∈jC S i ks sc ow
 |[],_,_,_,_,_,h=>h.elim
 |t::r,sc,g,ow,hg,ho,h=>by
  simp only[Uc]at h;simp only[jC];rcases h with h|h
  .exact tq hg (λhh=>dX (ho hh)) h
  .exact RW (fp hg ho h)
end
def zyi(l:zw)(y:Int):y∈Yo [] l↔y∈l:=by rw[fU];simp
def iX{c:Cd}{x:Int}:∀(fs:List Fn) (i:Nat) (S:ze),(∀j f,fs[j]? =some f->c.fs[i+j]? =some f)->i+zR fs<=zR S->(∀j,x∈S.getD j []->x∈(j0 c).getD j [])->∀j,x∈(kZ fs i S).getD j []->x∈(j0 c).getD j []
 |[],_,_,_,_,h,j,hx=>h j hx
 | f::r,i,S,hf,hl,h,j,hx=>by
  simp only[kZ]at hx;simp only[yJ]at hl;refine iX r (i+1) _ (λj g hg=>by have:=hf (j+1) g (by simpa using hg);rwa [show i+(j+1)=i+1+j by omega]at this) (by simp only[zuj];omega) (λj hx=>?_) j hx
  rw[pV J]at hx;split at hx
  .rename_i e
   rcases sL (zyi f.ps) hx with hx|hx
   .rw[e];exact h _ hx
   .have h0:=hf 0 f rfl;rw[Nat.add_zero]at h0;have h1:(Uw c (j0 c)).getD i []=usR (j0 c) f.ps f.b []:=by rw[Wz,h0]
    rw[P9]at h1;rw[e,h1];exact Qk.2 (.inr (Ub h hx))
  .exact h j hx
def ay(c:Cd){x:Int}:∀k j,x∈(itS c k).getD j []->x∈(j0 c).getD j []
 |0,j,h=>by simp only[itS]at h;rw[Yy]at h;cases h
 |k+1,j,h=>iX c.fs 0 (itS c k) (λj f h=>by rwa [xB]) (by rw[(lA c k).len];omega) (ay c k) j h
def aa(c:Cd){x:Int}:∀k j,x∈(rIt c k).getD j []->x∈(qF c).getD j []
 |0,j,h=>by rw[rIt,Yy]at h;cases h
 | k+1,j,h=>by
  rw[rIt,Wz]at h;cases hf:c.fs[j]? with
  |none=>rw[hf]at h;cases h
  |some f=>
   rw[hf]at h;rcases Qk.1 h with h|h
   .cases h
   .rw[<-zxl hf];exact tq (zyi f.ps) Y (Ub (aa c k) h)
def Jm(c:Cd)(j:Nat)(x:Int):x∈(j0 c).getD j []↔x∈(qF c).getD j []:=⟨aa c _ j,ay c _ j⟩
def rP(c:Cd)(j:Nat):decide (0<((j0 c).getD j []).length)=decide (0<((qF c).getD j []).length):=by
 have:0<((j0 c).getD j []).length↔0<((qF c).getD j []).length:=by
  rw[zuE,zuE];exact⟨λ⟨x,h⟩=>⟨x,(Jm c j x).1 h⟩,λ⟨x,h⟩=>⟨x,(Jm c j x).2 h⟩⟩
 exact decide_eq_decide.2 this
def Put2(met l:zw)(o:Option zw):Prop:=met.Nodup->match o with
 |some m=>m.Perm (met++l)/\(met++l).Nodup
 |none=>¬(met++l).Nodup
def Put2.perm{met l2:zw}{o:Option zw}(h:Put2 met l o)(p:l.Perm l2):Put2 met l2 o:=λhn=>by
 have h:=h hn;have hp:(met++l).Perm (met++l2):=p.append_left met;cases o with
 |none=>exact λg=>h (hp.nodup_iff.2 g)
 |some m=>exact⟨h.1.trans hp,hp.nodup_iff.1 h.2⟩
def Put2.bind{met l2:zw}{o:Option zw}{g:zw->Option zw}(h:Put2 met l o)(hg:∀m,o=some m->Put2 m l2 (g m)):Put2 met (l++l2) (o.bind g):=λhn=>by
 have h:=h hn;cases o with
 |none=>
  simp only[Option.bind_none];intro g2;rw[<-zum]at g2;exact h (List.nodup_append.1 g2).1
 |some m=>
  have hp:(m++l2).Perm (met++(l++l2)):=by rw[<-zum];exact h.1.append_right l2
  have hm:=hg m rfl (h.1.nodup_iff.2 h.2);simp only[Option.bind_some];cases hgm:g m with
  |none=>rw[hgm]at hm;exact λg2=>hm (hp.nodup_iff.2 g2)
  |some q=>rw[hgm]at hm;exact⟨hm.1.trans hp,hp.nodup_iff.1 hm.2⟩
def Hw(v:Int)(met:zw):Put2 met [v] (cI v met):=λhn=>by
 unfold cI;by_cases h:v∈met
 .rw[wH h];intro g;exact(List.nodup_append.1 g).2.2 v h v (by simp) rfl
 .rw[wx h];refine⟨wi _,List.nodup_append.2 ⟨hn,by simp,λa ha b hb e=>?_⟩⟩
  rw[List.mem_singleton]at hb;exact h (by rw[<-hb,<-e];exact ha)
def Uu(met:zw):Put2 met [] (some met):=λhn=>by
 rw[zvV];exact⟨wi _,hn⟩
mutual
theorem iF:∀(t:Trm) (met:zw),Put2 met (Yh t) (H8 t met)
 |.mk k v op n f az ks,met=>by
  simp only[Yh,H8];refine Put2.bind ?_ λm _=>P4 ks m;cases uj k with
  |true=>exact Hw v met
  |false=>exact Uu met
theorem P4:∀(l:List Trm) (met:zw),Put2 met (XS l) (JB l met)
 |[],met=>Uu met
 |x::r,met=>by
  simp only[XS,JB];exact(Put2.bind (P4 r met) λm _=>iF x m).perm List.perm_append_comm
end
def P6:∀(l met:zw),Put2 met l (Hz l met)
 |[],met=>Uu met
 |v::r,met=>by
  simp only[Hz];exact Put2.bind (l:=[v]) (Hw v met) λm _=>P6 r m
def kY:List Fn->zw
 |[]=>[]
 |f::r=>f.ps++(Yh f.b++kY r)
def P5:∀(l:List Fn) (met:zw),Put2 met (kY l) (Xk l met)
 |[],met=>Uu met
 |f::r,met=>by
  simp only[kY,Xk];rw[<-zum];exact Put2.bind (Put2.bind (P6 f.ps met) λm _=>iF f.b m) λm _=>P5 r m
def Le:zw->zw->Bool
 |_,[]=>false
 |met,x::r=>lz met x||Le (met++[x]) r
def Gx:∀(l met:zw),met.Nodup->(Le met l=true↔¬(met++l).Nodup)
 |[],met,hn=>by simp only[Le,zvV];exact⟨(λh=>by cases h),λh=>absurd hn h⟩
 | x::r,met,hn=>by
  simp only[Le,Bool.or_eq_true,Zp];by_cases h:x∈met
  .exact⟨λ_ g=>(List.nodup_append.1 g).2.2 x h x (by simp) rfl,λ_=>.inl h⟩
  .have hn2:(met++[x]).Nodup:=by
    have:=Hw x met hn;unfold cI at this;rw[wx h]at this;exact this.2
   rw[Gx r (met++[x]) hn2,zum];exact⟨λg=>g.resolve_left h,.inr⟩
def ip(c:Cd):Wx c= !Le [] (kY c.fs):=by
 have h1:=P5 c.fs [] List.nodup_nil;have h2:=Gx (kY c.fs) [] List.nodup_nil;unfold Wx;cases ho:Xk c.fs []with
 |none=>
  rw[ho]at h1;rw[h2.2 h1];rfl
 |some m=>
  rw[ho]at h1;cases hd:Le [] (kY c.fs)with
  |false=>rfl
  |true=>exact absurd h1.2 (h2.1 hd)
def LA:∀l:List Fn,(kY l).length<=(l.map λf=>zR f.ps+qb f.b).sum
 |[]=>zX _
 |f::r=>by
  have h1:=LA r;have h2:=VN f.b;simp only[kY,y8,ye,zuI];omega
def CsR:zA->ze->Prop
 |[],[]=>True
 |v::r,l::q=>LiV v l/\CsR r q
 |_,_=>False
def CsR.len:∀{cs:zA} {S:ze},CsR cs S->zR cs=zR S
 |[],[],_=>rfl
 |_::_,_::_,h=>by simp only[CsR]at h;simp[h.2.len]
def CsR.css:∀{cs:zA} {S:ze},CsR cs S->CsS cs S
 |[],[],_,j,hj=>absurd hj (wg _)
 |v::r,l::q,h,0,_=>⟨v,rfl,h.1⟩
 |v::r,l::q,h,j+1,hj=>h.2.css j (Nat.lt_of_succ_lt_succ hj)
def CsR.add:∀{cs:zA} {S:ze} {v:Z} {l:zw},CsR cs S->LiV v l->CsR (cs++[v]) (S++[l])
 |[],[],_,_,_,h=>⟨h,trivial⟩
 |_::_,_::_,_,_,h,g=>⟨h.1,h.2.add g⟩
def CsR.nils:∀n:Nat,CsR (reps n [.nils]) (zuD n [])
 |0=>trivial
 |n+1=>⟨.inr ⟨rfl,rfl⟩,CsR.nils n⟩
def CsR.fz:∀{cs:zA} {S:ze},CsR cs S->FzL s cs (wo v9 S)
 |[],[],_=>by simp only[wo,FzL]
 |v::r,l::q,h=>by
  simp only[wo,v9,yu,zv1,FzL];refine⟨v,r,rfl,?_,h.2.fz⟩;simp only[qt,Fz];exact⟨wX qR _,.inl h.1.wk⟩
theorem zxp{fid:Nat}(h:CsR cs S)(hg:s.get fid=some (.row t cs)):Fz s (.sl fid 0 (List.length S) (.fix (List.length S))) (vT S):=by
 simp only[vT,Fz];refine⟨wX XX _,.inr ⟨trivial,fid,0,_,t,cs,false,false,cs,rfl,zX _,hg,?_,h.fz⟩⟩;rw[vI YM,x8,<-h.len,bp,qH];exact qz rfl
mutual
theorem Rc{S:ze}{M:Nat}(h:∀j,(S.getD j []).length<=M):∀t:Trm,usZ S t<=(ui t).length+M*qb t
 |.mk k v op n fn az ks=>by
  have h1:=Bd h ks;have h2:=h fn.toNat
  simp only[usZ,ui,qb,y8,List.length_map,Nat.mul_add,x8];omega
theorem Bd{S:ze}{M:Nat}(h:∀j,(S.getD j []).length<=M):∀l:List Trm,dc S l<=(kf l).length+M*qY l
 |[]=>yz _
 |t::r=>by
  have h1:=Rc h t;have h2:=Bd h r;simp only[dc,kf,qY,y8,Nat.mul_add];omega
end
structure SePre(c:Cd):Prop where
 n:zR c.fs<100000000
 f:∀f∈c.fs,SzT f.b/\Qv (zR c.fs) f.b/\zR f.ps+qb f.b<1000000000/\(ui f.b).length+(jh c).length *qb f.b<1000000000
def Mc:zA->U->zc:=v7 vo SePre (λc=>vT (j0 c))
def zxR(c:Cd)(k j:Nat):((rIt c k).getD j []).length<=(jh c).length:=pm (Vq c k j).nd (cK c k j)
section
variable {P:Program}{X:World}(B:Bx P X){O:Orc}(hO:OrcOk P X O)
include B hO
theorem Ol(hu:O 59=none)(hh:O 41=some fx)(hp:O 80=some tG)(hb:O 58=some ZM)(hs:O 60=some Ma)(c:Cd)(hc:SePre c):∃s1,SC P X 42 (vo c) (s00 0 true) (vT (j0 c)) s1:=by
 refine bew B hO f42 ?_;have hIL:=ZU c;have hIe:= @NN c;have hIl:= @zxS c;have hI1:∀k,rIt c (k+1)=c.fs.map λf=>usR (rIt c k) f.ps f.b []:=λ_=>rfl;have hle:=zxR c;have hI0:rIt c 0=zuD (zR c.fs) []:=rfl;obtain⟨hN,hf⟩:=hc;have hUS:∀k,∀f∈c.fs,∀(cs:zA) (fid:Nat) (L:zb) (n:Nat),CsR cs (rIt c k)->fid<n->wn L fid=some (.row 40 cs)->∃v,cl O 59 [.nils,vg f.b,qt f.ps,.sl fid 0 (zR c.fs) (.fix (zR c.fs))] (KL L n 0 false)=some (v,KL L n 0 false)/\LiV v (usR (rIt c k) f.ps f.b []):=λk f hm cs fid L n h1 h2 h3=>by
  obtain⟨q1,q2,q3,q4⟩:=hf f hm;have hz:=Rc (hle k) f.b;have:=Ou hu hh hp hb h1.css (by rw[hIL];omega) (qb f.b) f.b (zX _) q1 (by rw[hIL];exact q2) [] f.ps .nils (qt f.ps) (.inr ⟨rfl,rfl⟩) (.inl rfl) q3 (by simp only[xY];omega) L n 0 false h2 h3
  rw[hIL]at this;obtain⟨v,s,e,hv,rfl⟩:=this;exact⟨v,e,hv⟩
 have hSm:∀a b:zw,∀va vb,LiV va a->LiV vb b->zR a<=(jh c).length->zR b<=(jh c).length->∀s,c.fs≠[]->cl O 60 [va,vb] s=some (.bool (Q9 a b),s):=λa b va vb h1 h2 h3 h4 s h0=>by
  obtain⟨f,hm⟩:∃f,f∈c.fs:=by
   cases hh:c.fs with
   |nil=>exact absurd hh h0
   |cons f r=>exact⟨f,by simp⟩
  obtain⟨_,_,_,q4⟩:=hf f hm;have hn:=vQ f.b;have:(jh c).length<=(jh c).length *qb f.b:=Nat.le_mul_of_pos_right _ hn;exact oc hs UW (a,b) ⟨by simp only;omega,by simp only;omega⟩ (by simp only[lu,wkL,h1.wk,h2.wk]) s
 have hfz:∀(k:Nat) (cs:zA) (fid:Nat) (s:U),rIt c (k+1)=rIt c k->CsR cs (rIt c (k+1))->s.get fid=some (.row 40 cs)->Fz s (.sl fid 0 (zR c.fs) (.fix (zR c.fs))) (vT (j0 c)):=λk cs fid s h1 h2 h3=>by
  rw[h1,hIe h1]at h2;have:=zxp h2 h3
  rwa [show (j0 c).length=(zR c.fs)from hIL _]at this
 have hnd:∀f∈c.fs,f.b=f.b:=λ_ _=>rfl;clear hh hp hb hs hu hf hnd;generalize hSS:j0 c=SS at *;generalize hbd:pg c=bd at *;generalize rIt c=It at *;generalize (jh c).length=ul at *;clear hSS hbd hIe;obtain⟨fs,main,vars,globals,consts⟩:=c;simp only at hIL hIl hI1 hI0 hN hUS hSm hfz;unfold f42 cF;simp only[vo,v8,qc];have hms:=λl n m=> @Ag l n m 40 24 (zR fs) false [] none [.nils] J J;refine wq ?_;refine wq ?_;apply wA;refine wP (λk:Nat=>bd+1-k) (λk f t=>∃T L n m fid cs,f=⟨tmL T,[]⟩/\t=KL L n m false/\G T 1 (.ptr 0 0)/\G T 3 (.sl fid 0 (zR fs) (.fix (zR fs)))/\WfA L n/\0<fid/\fid<n/\wn L 0=some (.row 25 [.lst (zR fs) false (wo wW fs),main,vars,globals,.lst (zR consts) false (wQ consts)])/\wn L fid=some (.row 40 cs)/\CsR cs (It k)) (λk f t hI=>?_) 0 ⟨_,_,_,_,1,_,rfl,rfl,sW,sW,?_,J,J,sW,by simp (disch:=first|exact dis|fail)only[go_sem,seval,-rO,-rN];rfl,by rw[hI0];exact CsR.nils _⟩
 .obtain⟨T,L,n,m,fid,cs,rfl,rfl,t1,t3,hw,hf0,hfn,g0,gf,hcs⟩:=hI;apply wA;refine wq ?_;refine wq ?_;refine wp (wp (wu ?_));apply wA;refine wP (λx:Nat×Bool=>zR fs-x.1) (λx f t=>∃T L n2 m cn,f=⟨tmL T,[]⟩/\t=KL L n2 m false/\G T 1 (.ptr 0 0)/\G T 3 (.sl fid 0 (zR fs) (.fix (zR fs)))/\G T 4 (.bool x.2)/\G T 5 (.sl n 0 (zR fs) (.fix (zR fs)))/\G T 6 x.1/\x.1<=zR fs/\WfA L n2/\n<n2/\wn L 0=some (.row 25 [.lst (zR fs) false (wo wW fs),main,vars,globals,.lst (zR consts) false (wQ consts)])/\wn L fid=some (.row 40 cs)/\wn L n=some (.row 40 (cn++reps (zR fs-x.1) [.nils]))/\zR cn=x.1/\CsR cn ((It (k+1)).take x.1)/\(x.2=false->(It (k+1)).take x.1=(It k).take x.1)/\(x.2=true->It (k+1)≠It k)) (λx f t hI=>?_) (0,false) ⟨_,_,_,_,[],rfl,rfl,V,V,V,V,V,yz _,?_,yK _,by rw[gN J];exact g0,by rw[gN J];exact gf,by rw[wC];rfl,rfl,by simp[CsR],λ_=>by simp,λh=>by cases h⟩
  .obtain⟨T,L,n2,m,cn,rfl,rfl,t1,t3,t4,t5,t6,hi,hw,hn2,g0,gf,gn,hcl,hcn,hg0,hg1⟩:=hI;obtain⟨i,g⟩:=x;simp only at t4 t6 hi gn hcl hcn hg0 hg1|-;rcases wJ fs i with ⟨hi2,hd⟩|⟨f,hi2,hd⟩
   .have hlt:¬i<zR fs:=J;have hie:i=zR fs:=J;rw[yq (by rw[hIL];omega)]at hcn hg0
    rw[yq (by rw[hIL];omega)]at hg0
    rw[show (zR fs)-i=0 by omega,show reps 0 [Z.nils]=[]from rfl,zvV]at gn
    subst hie;have hfin:=hfz k cn n;clear hfz hUS hSm hms hd;cases g with
    |true=>
     have hkl:=hIl (hg1 rfl);clear hfin hg0 hg1;refine wu ?_;refine wq ?_;refine wu ?_;exact⟨k+1,⟨_,L,n2,_,n,cn,rfl,rfl,V,V,hw,J,hn2,g0,gn,hcn⟩,J⟩
    |false=>
     have h1:=hg0 rfl;have hf2:=λs hs=>hfin s h1 hcn hs;clear hfin hg0 hg1;refine wu ?_;refine wq ?_;refine ev_zc ?_;exact hf2 _ (by rw[qk];exact gn)
   .have hmem:f∈fs:=zvY (by rw[hd];simp)
    have hcf:=kS hd;obtain⟨uv,hcall,huv⟩:=hUS k f hmem cs fid L n2 hcs J gf;obtain⟨fv,hcf2,hfv⟩:=hcs.css i (by rw[hIL];exact hi2)
    have hat:(It (k+1)).getD i []=usR (It k) f.ps f.b []:=by
     rw[hI1,xR,List.getElem?_map,show fs[i]? =some f by rw[<-zuH,hd];rfl];rfl
    have hgt:∀kk,(It kk).take (i+1)=(It kk).take i++[(It kk).getD i []]:=λkk=>by
     have:i<(It kk).length:=by rw[hIL];exact hi2
     rw[List.take_add_one,xj this,xR,xj this];rfl
    have hsm:=λs=>hSm _ _ uv fv huv hfv (by rw[<-hat];exact hle _ _) (hle _ _) s (λe=>by rw[e]at hmem;cases hmem)
    have hcn2:=hcn.add huv;rw[<-hat]at hcn2 hsm;rw[<-hgt]at hcn2;have hp:ki (cn++reps (zR fs-i) [.nils]) i [uv]=some ((cn++[uv])++reps (zR fs-(i+1)) [.nils]):=by
     rw[show (zR fs)-i=(zR fs-(i+1))+1 by omega,zyu]
     have:= @Ji cn [.nils] (reps (zR fs-(i+1)) [.nils]) [uv] i hcl rfl;simp only[List.singleton_append]at this;rw[this,zum];rfl
    have hcu:qf 1 (qv i ((cn++[uv])++reps (zR fs-(i+1)) [.nils]))=some [uv]:=by
     rw[zum,qH,List.drop_left' hcl];rfl
    have hsu:=huv.sc;simp only[vF]at hsu;have hsc:uv.cells=[uv]:=by rcases huv with rfl|⟨rfl,_⟩<;>rfl
    have hge:Q9 ((It (k+1)).getD i []) ((It k).getD i [])=true->g=false->(It (k+1)).take (i+1)=(It k).take (i+1):=λh1 h2=>by
     rw[hgt,hgt,hg0 h2,V3.1 h1]
    have hgn:Q9 ((It (k+1)).getD i []) ((It k).getD i [])=false->It (k+1)≠It k:=λh1 e=>by
     rw[e,V3.2 rfl]at h1;cases h1
    generalize Q9 ((It (k+1)).getD i []) ((It k).getD i [])=eb at *;have hcl2:(cn++[uv]).length=i+1:=by simp[hcl]
    generalize cn++[uv]=cn2 at *;obtain⟨ps,rest,cont,fr,b⟩:=f;obtain⟨bk,bv,bop,bn,bf,bas,bks⟩:=b;simp only[wW,wE,qt,yu,zv1]at hcf;simp only[vg,wE,qt]at hcall;have hcs2:=hcs;clear hUS hSm hfz hms hd hat hgt hcs huv hfv hcn hg0;cases g with
    |true=>
     have hh:=hg1 rfl;clear hg1 hge hgn;refine wu ?_;exact⟨(i+1,true),⟨_,_,n2,_,cn2,rfl,rfl,V,V,V,V,V,by simp only;omega,WfA.same hw J,hn2,by rw[gN J];exact g0,by rw[gN J];exact gf,wC _ _ _,hcl2,hcn2,(λh=>by cases h),λ_=>hh⟩,by simp only;omega⟩
    |false=>
     clear hg1;refine wu ?_;exact⟨(i+1, !eb),⟨_,_,n2,_,cn2,rfl,rfl,V,V,V,V,V,by simp only;omega,WfA.same hw J,hn2,by rw[gN J];exact g0,by rw[gN J];exact gf,wC _ _ _,hcl2,hcn2,(λh=>hge (by simpa using h) rfl),λh=>hgn (by simpa using h)⟩,by simp only;omega⟩
  .exact hw.cons (yK _) (zur _)
 .exact λj hj=>by rw[gN J,gN J];rfl
end
end Go.Proofs.YtbddpjboppmnfaaGreatDoor.Ev

/- Contracts of functions that ClosureClosed calls: what a call answers, for all data, by symbolic evaluation. No conditions of its own. -/
import Derived.Test.YtbddpjboppmnfaaGreatDoorWD
import Derived.Test.YtbddpjboppmnfaaGreatDoorWA
import Derived.Test.YtbddpjboppmnfaaGreatDoorEvG
import Derived.Lib.SlKeysI
import Derived.Maps.Range
import Derived.ChangeArms
set_option linter.unusedSimpArgs false
set_option linter.unusedVariables false
set_option linter.defProp false
set_option maxHeartbeats 4000000
set_option linter.unusedSectionVars false
open Bool renaming and_eq_true → zq, false_or → xD, true_or → ziI, or_eq_false_iff → yY, cond_self → ziH, true_and → yP, not_eq_true' → zhp
open List renaming getElem?_eq_getElem → yH, getD_eq_getElem?_getD → xe, length_map → zhg, map_cons → zD, length_append → yA, length_cons → yb, eq_nil_of_length_eq_zero → yF, length_nil → xz, nil_append → ziQ, sum_cons → zhh, replicate → zhi, getElem_mem → zi4, length_mergeSort → zhj, drop_eq_getElem_cons → ziO, map_nil → yN, mem_singleton → zW, append_assoc → ziV, cons_append → zM, mem_of_mem_drop → ziT, getElem_of_mem → zhk, append_nil → ziA, map_map → zhl, mem_cons_self → zi0, nodup_nil → zhn, mem_of_getElem? → xq, length_flatten → zho, getElem?_map → xb, all_eq_true → zhq, getElem?_cons_succ → xd, getElem?_cons_zero → yZ, getElem?_replicate → zi6, mem_append → ziZ, length → xj, getElem?_eq_none → ym
open Int renaming natCast_nonneg → zP, ofNat → zG, le_refl → zhr
open Nat renaming zero_le → zQ, zero_add → yO, le_refl → zu, mul_le_mul_right → yJ, lt_of_le_of_lt → zhm, le_of_ble_eq_true → ziw, le_trans → zA, zero_mod → ziJ, add_mul → yE, or_zero → ziM, zero_or → ziN, add_zero → yR, one_mul → zhf
open Array renaming getElem?_toList → zC, length_toList → yD
namespace Go.Proofs.YtbddpjboppmnfaaGreatDoor.Ev
variable {P:Program}{w0 w w':World}{E:Env}{O:Orc}{s s':St}{φ:Phi}{v:AV}{n:Nat}{t:TypeId}
open T
set_option maxRecDepth 100000
theorem Wv(c:Cd):(wz c).length=c.fs.length:=(gA c _).len
theorem UB{a b:List Int}(h:∃z,b=a++z)(hl:b.length≤a.length):b=a:=by
 obtain⟨z,rfl⟩:=h;simp only[yA]at hl;have:z=[]:=yF oM;simp[this]
theorem XH{a b:List Int}(h:∃z,b=a++z):a.length≤b.length:=by
 obtain⟨z,rfl⟩:=h;simp
theorem zzv{sc ow:List Int}{x:Int}(h:jd sc ow x=ow):x∈sc∨x∈ow:=by
 by_cases hs:x∈sc
 ·exact .inl hs
 ·refine .inr ?_;unfold jd at h;rw[if_neg hs]at h;unfold Zk at h;split at h
  ·assumption
  ·have:=congrArg xj h;simp at this
theorem zm8{sc:List Int}{x:Int}(h:x∈sc):jd sc [] x=[]:=by unfold jd;rw[if_pos h]
theorem lX{sc ow:List Int}:∀{as:List Atm},qD sc ow as=ow→∀a∈as,eqD a.k (.ofNat 1)=true→a.n∈sc∨a.n∈ow
 |[],_,a,ha,_=>by cases ha
 | b::r,h,a,ha,hk=>by
  simp only[qD]at h;obtain⟨X,hX⟩:∃X,(bif eqD b.k (.ofNat 1)then jd sc ow b.n else ow)=X:=⟨_,rfl⟩;have h1:∃z,X=ow++z:=by
   rw[←hX];cases eqD b.k (.ofNat 1)with
   |true=>exact XT _ _ _
   |false=>exact⟨[],by simp⟩
  rw[hX]at h;have h2:=XH (jT sc r X);rw[h]at h2;have hXo:=UB h1 h2;subst hXo;rcases List.mem_cons.1 ha with rfl|ha
  ·rw[hk,cond_true]at hX;exact zzv hX
  ·exact lX h a ha hk
theorem Lg{sc ow:List Int}:∀{l:List Int},pF sc ow l=ow→∀x∈l,x∈sc∨x∈ow
 |[],_,a,ha=>by cases ha
 |b::r,h,a,ha=>by
  simp only[pF]at h;have h2:=XH (Y9 sc r (jd sc ow b));rw[h]at h2;have hXo:=UB (XT sc ow b) h2;rcases List.mem_cons.1 ha with rfl|ha
  ·exact zzv hXo
  ·rw[hXo]at h;exact Lg h a ha
theorem Vg{sc:List Int}:∀{as:List Atm},(∀a∈as,eqD a.k (.ofNat 1)=true→a.n∈sc)→qD sc [] as=[]
 |[],_=>rfl
 | b::r,h=>by
  simp only[qD];have:(bif eqD b.k (.ofNat 1)then jd sc [] b.n else [])=[]:=by
   cases hk:eqD b.k (.ofNat 1)with
   |true=>exact zm8 (h b (by simp) hk)
   |false=>rfl
  rw[this];exact Vg fun a ha=>h a (by simp[ha])
section
variable {S:List (List Int)}{i:Nat}
theorem zsn{k f:Int}{as:List Atm}{sc ow:List Int}(h:lc S i k f as sc ow=ow):(∀a∈as,eqD a.k (.ofNat 1)=true→a.n∈sc∨a.n∈ow)∧(eqD k (.ofNat 2)=true→f.toNat≠i→∀x∈Ji S f,x∈sc∨x∈ow):=by
 unfold lc at h;cases hk:eqD k (.ofNat 2)with
 |false=>rw[hk,cond_false]at h;exact⟨lX h,fun h=>by cases h⟩
 |true=>
  rw[hk,cond_true]at h;split at h
  ·rename_i hf;exact⟨lX h,fun _ h=>absurd hf h⟩
  ·have h1:=jT sc as ow;have h2:=XH (Y9 sc (Ji S f) (qD sc ow as));rw[h]at h2;have h3:=UB h1 h2;rw[h3]at h;exact⟨lX h3,fun _ _=>Lg h⟩
theorem zsp{k v op n f:Int}{as:List Atm}{ks:List Trm}{sc ow:List Int}(h:vn S i (.mk k v op n f as ks) sc ow=ow):lc S i k f as sc ow=ow∧qU S i ks (scB k v sc) ow=ow:=by
 simp only[vn]at h;have h2:=XH (ZK (S:=S) (i:=i) ks (scB k v sc) (lc S i k f as sc ow));rw[h]at h2;have h3:=UB (Le (S:=S) (i:=i)) h2;rw[h3]at h;exact⟨h3,h⟩
theorem zvs{x:Trm}{r:List Trm}{sc ow:List Int}(h:qU S i (x::r) sc ow=ow):qU S i r sc ow=ow∧vn S i x sc ow=ow:=by
 simp only[qU]at h;have h2:=XH (Xa (S:=S) (i:=i) x sc (qU S i r sc ow));rw[h]at h2;have h3:=UB (ZK (S:=S) (i:=i) r sc ow) h2;rw[h3]at h;exact⟨h3,h⟩
end
theorem Gg:∀(fs:List Fn) (i:Nat) (S:List (List Int)) (j:Nat),j<i→(uU fs i S).getD j []=S.getD j []
 |[],_,_,_,_=>rfl
 |f::r,i,S,j,h=>by
  simp only[uU];rw[Gg r (i+1) _ j oM,xe,List.getElem?_set,if_neg oM,←xe]
theorem Gf:∀(fs:List Fn) (i:Nat) (S:List (List Int)),i+fs.length≤S.length→uU fs i S=S→∀j f,fs[j]? =some f→vn S (i+j) f.b (pH [] f.ps) (S.getD (i+j) [])=S.getD (i+j) []
 |[],_,_,_,_,j,f,h=>by simp at h
 | g::r,i,S,hl,hs,j,f,h=>by
  simp only[uU]at hs;simp only[yb]at hl;have h1:=Gg r (i+1) (S.set i (vn S i g.b (pH [] g.ps) (S.getD i []))) i oM;rw[hs,lD oM,if_pos rfl]at h1;cases j with
  |zero=>
   simp only[yZ,Option.some.injEq]at h;subst h;exact h1.symm
  |succ j=>
   rw[←h1,XO]at hs;have:=Gf r (i+1) S oM hs j f (by simpa using h)
   rwa [show i+1+j=i+(j+1) by omega]at this
theorem zkx{c:Cd}{j:Nat}{f:Fn}(h:c.fs[j]? =some f):vn (wz c) j f.b (pH [] f.ps) ((wz c).getD j [])=(wz c).getD j []:=by
 have:=Gf c.fs 0 (wz c) (by rw[Wv];omega) (Ge c) j f h
 rwa [yO]at this
theorem lG{l:List Int}{x:Int}:x∈wE l↔x∈l:=by unfold wE;exact List.mem_mergeSort
theorem ji(S:List (List Int))(j:Nat):(S.map wE).getD j []=wE (S.getD j []):=by
 rw[xe,xe,xb];cases S[j]? with
 |none=>simp[wE]
 |some l=>rfl
theorem zqA{l:List Int}{x y:Int}:y∈Zk l x↔y∈l∨y=x:=by
 unfold Zk;split
 ·rename_i h;exact⟨.inl,fun h'=>h'.elim id fun e=>e▸h⟩
 ·simp
theorem XC{k v x:Int}{sc:List Int}:x∈scB k v sc↔x∈sc∨(vX k=true∧x=v):=by
 unfold scB;cases vX k with
 |true=>simp[zqA]
 |false=>simp
def zkC(S:List (List Int)):Prop:=∀j:Nat,S.getD j []=[]
theorem zr9{c:Cd}{fr:List (List Int)}{kn nm:List (Int×Int)}{k fn:Int}{as:List Atm}:((hdF c fr kn nm k fn as).1=k∧(hdF c fr kn nm k fn as).2.1=fn)∨(k=.ofNat 4∧(hdF c fr kn nm k fn as).1=.ofNat 5∧∃t,knF c kn as=some t∧(hdF c fr kn nm k fn as).2.1=t∧(hdF c fr kn nm k fn as).2.2=as.map (rnA nm)):=by
 unfold hdF;cases h2:eqD k (.ofNat 2)with
 |true=>exact .inl ⟨rfl,rfl⟩
 | false=>
  cases h4:eqD k (.ofNat 4)with
  |false=>exact .inl ⟨rfl,rfl⟩
  |true=>
   simp only[cond_false,cond_true];cases h:knF c kn as with
   |none=>exact .inl ⟨rfl,rfl⟩
   |some t=>exact .inr ⟨by simpa [eqD]using h4,rfl,t,rfl,rfl,rfl⟩
theorem He{c:Cd}{fr:List (List Int)}{kn nm:List (Int×Int)}{k fn:Int}{as:List Atm}:(hdF c fr kn nm k fn as).2.2=as.map (rnA nm)++(bif eqD k (.ofNat 2)then (fr.getD fn.toNat []).map (vrA nm)else []):=by
 unfold hdF;cases h2:eqD k (.ofNat 2)with
 |true=>rfl
 | false=>
  cases h4:eqD k (.ofNat 4)with
  |false=>simp
  |true=>
   simp only[cond_false,cond_true,ziA];cases h:knF c kn as<;>rfl
section
variable {c:Cd}{S S2:List (List Int)}{kn nm:List (Int×Int)}{i:Nat}{Si:List Int}(h2:zkC S2)(hnm:∀v,v∉Si→nmF nm v=v)(hSi:Ji S (.ofNat i)=Si)
include h2 hnm hSi
theorem zjy{k fn:Int}{as:List Atm}{sc sc2:List Int}(h:lc S i k fn as sc Si=Si)(h1:∀x∈sc,x∈sc2)(h3:∀v∈Si,nmF nm v∈sc2):lc S2 i (hdF c (S.map wE) kn nm k fn as).1 (hdF c (S.map wE) kn nm k fn as).2.1 (hdF c (S.map wE) kn nm k fn as).2.2 sc2 []=[]:=by
 obtain⟨g1,g2⟩:=zsn h;have hv:∀v,v∈sc∨v∈Si→nmF nm v∈sc2:=fun v hv=>by
  by_cases hs:v∈Si
  ·exact h3 v hs
  ·rw[hnm v hs];exact h1 v (hv.resolve_right hs)
 have ha:qD sc2 [] (hdF c (S.map wE) kn nm k fn as).2.2=[]:=by
  refine Vg fun a ha hk=>?_;rw[He]at ha;rcases List.mem_append.1 ha with ha|ha
  ·obtain⟨b,hb,rfl⟩:=List.mem_map.1 ha;unfold rnA at hk⊢;cases hbk:eqD b.k (.ofNat 1)with
   |true=>exact hv _ (g1 b hb hbk)
   |false=>rw[hbk,cond_false,hbk]at hk;cases hk
  ·cases hk2:eqD k (.ofNat 2)with
   |false=>rw[hk2]at ha;cases ha
   |true=>
    rw[hk2,cond_true]at ha;obtain⟨x,hx,rfl⟩:=List.mem_map.1 ha;rw[ji,lG]at hx;refine hv x ?_;by_cases hfi:fn.toNat=i
    ·right;rw[←hSi];unfold Ji;rw[hfi]at hx;exact hx
    ·exact g2 hk2 hfi x hx
 unfold lc;rw[ha];have:Ji S2 (hdF c (S.map wE) kn nm k fn as).2.1=[]:=h2 _;rw[this];cases eqD _ (.ofNat 2)with
 |false=>rfl
 |true=>simp[pF]
mutual
theorem zly:∀(t:Trm) (sc sc2:List Int),vn S i t sc Si=Si→(∀x∈sc,x∈sc2)→(∀v∈Si,nmF nm v∈sc2)→vn S2 i (tmF c (S.map wE) kn nm t) sc2 []=[]
 | .mk k v op n fn as ks,sc,sc2,h,h1,h3=>by
  obtain⟨g1,g2⟩:=zsp h;simp only[tmF,vn];rw[zjy h2 hnm hSi g1 h1 h3];have hb:vX (hdF c (S.map wE) kn nm k fn as).1=vX k:=by
   rcases zr9 (c:=c) (fr:=S.map wE) (kn:=kn) (nm:=nm) (k:=k) (fn:=fn) (as:=as)with ⟨e,_⟩|⟨rfl,e,_⟩
   ·rw[e]
   ·rw[e];rfl
  refine zsq ks (scB k v sc) _ g2 (fun x hx=>?_) fun v hv=>?_
  ·rw[XC]at hx⊢;rw[hb];exact hx.imp (h1 x) id
  ·exact XC.2 (.inl (h3 v hv))
theorem zsq:∀(ks:List Trm) (sc sc2:List Int),qU S i ks sc Si=Si→(∀x∈sc,x∈sc2)→(∀v∈Si,nmF nm v∈sc2)→qU S2 i (jN c (S.map wE) kn nm ks) sc2 []=[]
 |[],_,_,_,_,_=>by simp only[jN,qU]
 |x::r,sc,sc2,h,h1,h3=>by
  obtain⟨g1,g2⟩:=zvs h;simp only[jN,qU];rw[zsq r sc sc2 g1 h1 h3];exact zly x sc sc2 g2 h1 h3
end
end
theorem Ll{S2:List (List Int)}{i:Nat}{b:Int}:∀(n:Nat) (t:Trm) (sc:List Int),(∀sc2:List Int,(∀x∈sc,x∈sc2)→(∀k,k<n→b+ .ofNat k∈sc2)→vn S2 i t sc2 []=[])→vn S2 i (ug b n t) sc []=[]
 |0,t,sc,h=>h sc (fun _ h=>h) fun k hk=>by omega
 | n+1,t,sc,h=>by
  simp only[ug];refine Ll n _ sc fun sc2 h1 h2=>?_;simp only[vn,qU];have:lc S2 i (.ofNat 1) (.ofNat 0) [] sc2 []=[]:=rfl;rw[this];refine h _ (fun x hx=>?_) fun k hk=>?_
  ·exact XC.2 (.inl (h1 x hx))
  ·by_cases e:k=n
   ·subst e;exact XC.2 (.inr ⟨rfl,rfl⟩)
   ·exact XC.2 (.inl (h2 k oM))
theorem QN{v w x:Int}:∀{N:List (Int×Int)},lkM x (QC v w N)=if x=v then some w else lkM x N
 |[]=>by
  simp only[QC,lkM];by_cases h:v=x
  ·rw[if_pos h,if_pos h.symm]
  ·rw[if_neg h,if_neg (Ne.symm h)]
 | p::r=>by
  simp only[QC];by_cases h:p.1=v
  ·rw[if_pos h];simp only[lkM];by_cases h2:v=x
   ·rw[if_pos h2,if_pos h2.symm]
   ·rw[if_neg h2,if_neg (Ne.symm h2),if_neg (h▸h2)]
  ·rw[if_neg h];simp only[lkM,QN (N:=r)];by_cases h2:p.1=x
   ·rw[if_pos h2,if_pos h2,if_neg (h2▸h)]
   ·rw[if_neg h2,if_neg h2]
theorem Hm{b x:Int}:∀{l:List Int} {k:Nat} {N:List (Int×Int)},x∉l→lkM x (pJ b l k N)=lkM x N
 |[],_,_,_=>rfl
 |v::r,k,N,h=>by
  simp only[List.mem_cons,not_or]at h;simp only[pJ];rw[Hm h.2,QN,if_neg h.1]
theorem zqI{b x:Int}:∀{l:List Int} {k:Nat} {N:List (Int×Int)},x∈l→∃j,k≤j∧j<k+l.length∧lkM x (pJ b l k N)=some (b+ .ofNat j)
 | v::r,k,N,h=>by
  simp only[pJ];by_cases hr:x∈r
  ·obtain⟨j,h1,h2,h3⟩:=zqI (b:=b) (k:=k+1) (N:=QC v (b+ .ofNat k) N) hr;exact⟨j,oM,by simp only[yb];omega,h3⟩
  ·rcases List.mem_cons.1 h with rfl|h
   ·refine⟨k,zu _,by simp only[yb];omega,?_⟩
    rw[Hm hr,QN,if_pos rfl]
   ·exact absurd h hr
theorem zwo{b:Int}{l:List Int}{v:Int}(h:v∉l):nmF (pJ b l 0 []) v=v:=by
 unfold nmF;rw[Hm h];rfl
theorem zqG{b:Int}{l:List Int}{v:Int}(h:v∈l):∃j,j<l.length∧nmF (pJ b l 0 []) v=b+ .ofNat j:=by
 obtain⟨j,_,h2,h3⟩:=zqI (b:=b) (k:=0) (N:=[]) h;exact⟨j,oM,by unfold nmF;rw[h3];rfl⟩
theorem zx5{c:Cd}{fr:List (List Int)}{kn:List (Int×Int)}:∀(fs:List Fn) (ls:List (List Int)) (b:Int),fs.length=ls.length→(gw c fr kn fs ls b).length=fs.length
 |[],[],_,_=>rfl
 |f::r,l::ls,b,h=>by
  simp only[gw,yb];rw[zx5 r ls _ (by simpa using h)]
theorem JB:∀(ls:List (List Int)) (b:Int),(jp ls b).length=ls.length
 |[],_=>rfl
 |l::r,b=>by simp only[jp,yb,JB r]
theorem zx4{c:Cd}{fr:List (List Int)}{kn:List (Int×Int)}:∀(fs:List Fn) (ls:List (List Int)) (b:Int) (j:Nat) (f:Fn) (l:List Int),fs[j]? =some f→ls[j]? =some l→∃bj,b≤bj∧bj+ .ofNat l.length≤pG ls b∧(gw c fr kn fs ls b)[j]? =some {f with fr:=l,b:=ug bj l.length (tmF c fr kn (pJ bj l 0 []) f.b)}
 |[],_,_,j,f,l,h,_=>by simp at h
 |_::_,[],_,j,f,l,_,h=>by simp at h
 | g::r,m::ls,b,j,f,l,h1,h2=>by
  have he:∀(ls:List (List Int)) (b:Int),b≤pG ls b:=by
   intro ls
   induction ls with
   |nil=>intro b;exact zhr _
   |cons l ls ih=>intro b;simp only[pG];have:=ih (b+ .ofNat l.length);have:(0:Int)≤.ofNat l.length:=zP _;omega
  cases j with
  |zero=>
   simp only[yZ,Option.some.injEq]at h1 h2;subst h1;subst h2;exact⟨b,zhr _,he _ _,rfl⟩
  |succ j=>
   simp only[xd]at h1 h2;obtain⟨bj,q1,q2,q3⟩:=zx4 (c:=c) (fr:=fr) (kn:=kn) r ls (b+ .ofNat m.length) j f l h1 h2;have:(0:Int)≤.ofNat m.length:=zP _;exact⟨bj,oM,q2,by simp only[gw,xd];exact q3⟩
def cnv(c:Cd)(kn:List (Int×Int)):Cd:={c with fs:=gw c ((wz c).map wE) kn c.fs ((wz c).map wE) c.vars,vars:=pG ((wz c).map wE) c.vars}
theorem zza{S:List (List Int)}:∀(fs:List Fn) (i:Nat),(∀j f,fs[j]? =some f→vn S (i+j) f.b (pH [] f.ps) []=[])→zkC S→uU fs i S=S
 |[],_,_,_=>rfl
 | f::r,i,h,hS=>by
  simp only[uU];have h0:=h 0 f rfl;rw[yR]at h0;rw[show S.getD i []=[]from hS i,h0];have:S.set i []=S:=by
   have:=XO (S:=S) (i:=i)
   rwa [show S.getD i []=[]from hS i]at this
  rw[this];refine zza r (i+1) (fun j g hg=>?_) hS;rw[show i+1+j=i+(j+1) by omega]
  exact h (j+1) g (by simpa using hg)
theorem Ue(n:Nat):zkC (zhi n []):=fun j=>by
 rw[xe];by_cases h:j<n
 ·rw[zi6,if_pos h];rfl
 ·rw[zi6,if_neg h];rfl
section
variable {c:Cd}{kn:List (Int×Int)}
theorem Uq:((wz c).map wE).length=c.fs.length:=by rw[zhg,Wv]
theorem kJ:(cnv c kn).fs.length=c.fs.length:=zx5 _ _ _ (by rw[Uq])
theorem Xd{j:Nat}{f:Fn}(h:c.fs[j]? =some f):∃bj,c.vars≤bj∧bj+ .ofNat ((wz c).getD j []).length≤(cnv c kn).vars∧(cnv c kn).fs[j]? =some {f with fr:=wE ((wz c).getD j []),b:=ug bj ((wz c).getD j []).length (tmF c ((wz c).map wE) kn (pJ bj (wE ((wz c).getD j [])) 0 []) f.b)}:=by
 have hj:j<c.fs.length:=by
  by_cases hj:j<c.fs.length
  ·exact hj
  ·rw[ym oM]at h;cases h
 have hl:((wz c).map wE)[j]? =some (wE ((wz c).getD j [])):=by
  rw[xb,xe];rw[yH (by rw[Wv];exact hj)];rfl
 have:=zx4 (c:=c) (fr:=(wz c).map wE) (kn:=kn) c.fs ((wz c).map wE) c.vars j f _ h hl
 rwa [show (wE ((wz c).getD j [])).length=((wz c).getD j []).length from zhj _]at this
theorem zoY{j:Nat}{f:Fn}(h:(cnv c kn).fs[j]? =some f)(n:Nat):vn (List.replicate n []) j f.b (pH [] f.ps) []=[]:=by
 have hj:j<c.fs.length:=by
  by_cases hj:j<c.fs.length
  ·exact hj
  ·rw[ym (by rw[kJ];omega)]at h;cases h
 obtain⟨bj,_,_,h3⟩:=Xd (c:=c) (kn:=kn) (yH hj);rw[h]at h3;simp only[Option.some.injEq]at h3;subst h3;have hfix:=zkx (yH hj);generalize hS:(wz c).getD j []=Sj at *;refine Ll _ _ _ fun sc2 h1 h2=>?_;refine zly (S:=wz c) (Si:=Sj) (Ue n) (fun v hv=>zwo (fun h=>hv (lG.1 h))) hS _ _ sc2 hfix h1 fun v hv=>?_;obtain⟨k,hk,e⟩:=zqG (b:=bj) (lG.2 hv);rw[e];exact h2 k (by rwa [show (wE Sj).length=Sj.length from zhj _]at hk)
theorem Lw:wz (cnv c kn)=zhi c.fs.length []:=by
 unfold wz;generalize Yp (cnv c kn)=k
 induction k with
 |zero=>simp only[itS,kJ]
 |succ k ih=>
  simp only[itS,ih,jH];refine zza _ _ (fun j f hf=>?_) (Ue _);rw[yO];exact zoY hf _
end
mutual
def pP:Trm→List Int
 |.mk k v _ _ _ _ ks=>(bif vX k then [v]else [])++gJ ks
def gJ:List Trm→List Int
 |[]=>[]
 |x::r=>gJ r++pP x
end
theorem zpu{v:Int}{met m:List Int}:Hv v met=some m↔m=met++[v]∧v∉met:=by
 unfold Hv;by_cases h:v∈met
 ·simp[h]
 ·simp[h,eq_comm]
theorem QQ{v:Int}{met m:List Int}(hn:met.Nodup):Hv v met=some m↔m=met++[v]∧(met++[v]).Nodup:=by
 rw[zpu];refine and_congr_right fun _=>?_;rw[List.nodup_append];exact⟨fun h=>⟨hn,by simp,fun a ha b hb=>by simp only[zW]at hb;subst hb;exact fun e=>h (e▸ha)⟩,fun h hm=>h.2.2 v hm v (by simp) rfl⟩
mutual
theorem Y7:∀(t:Trm) (met m:List Int),met.Nodup→(U8 t met=some m↔m=met++pP t∧(met++pP t).Nodup)
 | .mk k v op n f as ks,met,m,hn=>by
  simp only[U8,pP];cases vX k with
  |false=>
   simp only[cond_false,Option.bind_some,ziQ];exact lz ks met m hn
  | true=>
   simp only[cond_true];rw[←ziV];constructor
   ·intro h;obtain⟨m1,h1,h2⟩:=Option.bind_eq_some_iff.1 h;obtain⟨rfl,hn1⟩:=(QQ hn).1 h1;exact(lz ks _ m hn1).1 h2
   ·rintro⟨rfl,h⟩
    have hn1:(met++[v]).Nodup:=(List.nodup_append.1 h).1;exact Option.bind_eq_some_iff.2 ⟨_,(QQ hn).2 ⟨rfl,hn1⟩,(lz ks _ _ hn1).2 ⟨rfl,h⟩⟩
theorem lz:∀(ks:List Trm) (met m:List Int),met.Nodup→(Y8 ks met=some m↔m=met++gJ ks∧(met++gJ ks).Nodup)
 |[],met,m,hn=>by
  simp only[Y8,gJ,ziA,Option.some.injEq];exact⟨fun h=>⟨h.symm,hn⟩,fun h=>h.1.symm⟩
 | x::r,met,m,hn=>by
  simp only[Y8,gJ];rw[←ziV];constructor
  ·intro h;obtain⟨m1,h1,h2⟩:=Option.bind_eq_some_iff.1 h;obtain⟨rfl,hn1⟩:=(lz r met m1 hn).1 h1;exact(Y7 x _ m hn1).1 h2
  ·rintro⟨rfl,h⟩
   have hn1:(met++gJ r).Nodup:=(List.nodup_append.1 h).1;exact Option.bind_eq_some_iff.2 ⟨_,(lz r met _ hn).2 ⟨rfl,hn1⟩,(Y7 x _ _ hn1).2 ⟨rfl,h⟩⟩
end
theorem Z4:∀(l met m:List Int),met.Nodup→(Qf l met=some m↔m=met++l∧(met++l).Nodup)
 |[],met,m,hn=>by
  simp only[Qf,ziA,Option.some.injEq];exact⟨fun h=>⟨h.symm,hn⟩,fun h=>h.1.symm⟩
 | x::r,met,m,hn=>by
  simp only[Qf];rw[show met++x::r=(met++[x])++r by simp]
  constructor
  ·intro h;obtain⟨m1,h1,h2⟩:=Option.bind_eq_some_iff.1 h;obtain⟨rfl,hn1⟩:=(QQ hn).1 h1;exact(Z4 r _ m hn1).1 h2
  ·rintro⟨rfl,h⟩
   have hn1:(met++[x]).Nodup:=(List.nodup_append.1 h).1;exact Option.bind_eq_some_iff.2 ⟨_,(QQ hn).2 ⟨rfl,hn1⟩,(Z4 r _ _ hn1).2 ⟨rfl,h⟩⟩
def YM:List Fn→List Int
 |[]=>[]
 |f::r=>(f.ps++pP f.b)++YM r
theorem YN:∀(fs:List Fn) (met m:List Int),met.Nodup→(lm fs met=some m↔m=met++YM fs∧(met++YM fs).Nodup)
 |[],met,m,hn=>by
  simp only[lm,YM,ziA,Option.some.injEq];exact⟨fun h=>⟨h.symm,hn⟩,fun h=>h.1.symm⟩
 | f::r,met,m,hn=>by
  simp only[lm,YM];rw[←ziV,←ziV];constructor
  ·intro h;obtain⟨m1,h1,h2⟩:=Option.bind_eq_some_iff.1 h;obtain⟨m0,h0,h1⟩:=Option.bind_eq_some_iff.1 h1;obtain⟨rfl,hn0⟩:=(Z4 _ _ _ hn).1 h0;obtain⟨rfl,hn1⟩:=(Y7 _ _ _ hn0).1 h1;exact(YN r _ m hn1).1 h2
  ·rintro⟨rfl,h⟩
   have hn1:(met++f.ps++pP f.b).Nodup:=(List.nodup_append.1 h).1;have hn0:(met++f.ps).Nodup:=(List.nodup_append.1 hn1).1;exact Option.bind_eq_some_iff.2 ⟨_,Option.bind_eq_some_iff.2 ⟨_,(Z4 _ _ _ hn).2 ⟨rfl,hn0⟩,(Y7 _ _ _ hn0).2 ⟨rfl,hn1⟩⟩,(YN r _ _ hn1).2 ⟨rfl,h⟩⟩
theorem KZ(c:Cd):pE c=true↔(YM c.fs).Nodup:=by
 unfold pE;have h:=fun m=>YN c.fs [] m zhn;simp only[ziQ]at h;cases e:lm c.fs []with
 |none=>
  refine⟨fun h=>(by cases h),fun hn=>?_⟩
  rw[(h _).2 ⟨rfl,hn⟩]at e;cases e
 |some m=>exact⟨fun _=>((h m).1 e).2,fun _=>rfl⟩
section
variable {c:Cd}{fr:List (List Int)}{kn:List (Int×Int)}
mutual
theorem zxK{nm:List (Int×Int)}:∀t:Trm,pP (tmF c fr kn nm t)=pP t
 | .mk k v op n fn as ks=>by
  simp only[tmF,pP,H1 ks];have hb:vX (hdF c fr kn nm k fn as).1=vX k:=by
   rcases zr9 (c:=c) (fr:=fr) (kn:=kn) (nm:=nm) (k:=k) (fn:=fn) (as:=as)with ⟨e,_⟩|⟨rfl,e,_⟩
   ·rw[e]
   ·rw[e];rfl
  rw[hb]
theorem H1{nm:List (Int×Int)}:∀ks:List Trm,gJ (jN c fr kn nm ks)=gJ ks
 |[]=>by simp only[jN,gJ]
 |x::r=>by simp only[jN,gJ,zxK x,H1 r]
end
end
def P2(b:Int):Nat→List Int
 |0=>[]
 |n+1=>P2 b n++[b+ .ofNat n]
theorem JC{b:Int}:∀(n:Nat) (t:Trm),pP (ug b n t)=P2 b n++pP t
 |0,t=>rfl
 |n+1,t=>by
  simp only[ug,JC n,pP,gJ,P2,ziV,ziQ];rfl
theorem Z0{b x:Int}:∀{n:Nat},x∈P2 b n↔b≤x∧x<b+ .ofNat n
 |0=>by
  simp only[P2];constructor
  ·intro h;cases h
  ·rintro⟨h1,h2⟩;have:(zG 0)=0:=rfl;omega
 |n+1=>by
  simp only[P2,ziZ,Z0 (n:=n),zW];have:(zG (n+1))=zG n+1:=rfl;have:(0:Int)≤.ofNat n:=zP _;omega
theorem zpF{b:Int}:∀n:Nat,(P2 b n).Nodup
 |0=>zhn
 |n+1=>by
  simp only[P2];refine List.nodup_append.2 ⟨zpF n,by simp,fun x hx y hy=>?_⟩
  rw[Z0]at hx;simp only[zW]at hy;omega
theorem zxV:∀(ls:List (List Int)) (b:Int),b≤pG ls b
 |[],b=>zhr _
 |l::ls,b=>by
  simp only[pG];have:=zxV ls (b+ .ofNat l.length);have:(0:Int)≤.ofNat l.length:=zP _;omega
theorem PN{c:Cd}{fr:List (List Int)}{kn:List (Int×Int)}{V:Int}:∀(fs:List Fn) (ls:List (List Int)) (b:Int),V≤b→(∀x∈YM fs,x<V)→(YM fs).Nodup→(YM (gw c fr kn fs ls b)).Nodup∧∀x∈YM (gw c fr kn fs ls b),x∈YM fs∨b≤x
 |[],[],_,_,_,_=>⟨zhn,fun x h=>by cases h⟩
 |[],_::_,_,_,_,_=>⟨zhn,fun x h=>by cases h⟩
 |_::_,[],_,_,_,_=>⟨zhn,fun x h=>by cases h⟩
 | f::r,l::ls,b,hb,hV,hn=>by
  have hl0:(0:Int)≤.ofNat l.length:=zP _;simp only[YM]at hn hV;obtain⟨n1,n2,n3⟩:=List.nodup_append.1 hn;obtain⟨p1,p2,p3⟩:=List.nodup_append.1 n1;obtain⟨ih1,ih2⟩:=PN (c:=c) (fr:=fr) (kn:=kn) r ls (b+ .ofNat l.length) oM (fun x hx=>hV x (by simp[hx])) n2
  simp only[gw,YM,JC,zxK];have hold:∀x,x∈f.ps++pP f.b→x<V:=fun x hx=>hV x (List.mem_append.2 (.inl hx));refine⟨List.nodup_append.2 ⟨?_,ih1,fun x hx y hy=>?_⟩,fun x hx=>?_⟩
  ·refine List.nodup_append.2 ⟨p1,List.nodup_append.2 ⟨zpF _,p2,fun x hx y hy=>?_⟩,fun x hx y hy=>?_⟩
   ·rw[Z0]at hx;have:=hold y (List.mem_append.2 (.inr hy));omega
   ·rcases List.mem_append.1 hy with hy|hy
    ·rw[Z0]at hy;have:=hold x (List.mem_append.2 (.inl hx));omega
    ·exact p3 x hx y hy
  ·have hx':x∈f.ps++pP f.b∨(b≤x∧x<b+ .ofNat l.length):=by
    simp only[ziZ]at hx⊢;rcases hx with hx|hx|hx
    ·exact .inl (.inl hx)
    ·exact .inr (Z0.1 hx)
    ·exact .inl (.inr hx)
   rcases ih2 y hy with hy'|hy'
   ·rcases hx' with hx'|hx'
    ·exact n3 x hx' y hy'
    ·have:=hV y (List.mem_append.2 (.inr hy'));omega
   ·rcases hx' with hx'|hx'
    ·have:=hold x hx';omega
    ·omega
  ·rcases List.mem_append.1 hx with hx|hx
   ·simp only[ziZ]at hx⊢;rcases hx with hx|hx|hx
    ·exact .inl (.inl (.inl hx))
    ·exact .inr (Z0.1 hx).1
    ·exact .inl (.inl (.inr hx))
   ·rcases ih2 x hx with h|h
    ·exact .inl (List.mem_append.2 (.inr h))
    ·exact .inr oM
def U4(N:Nat)(kn:List (Int×Int)):Prop:=∀v t,lkM v kn=some t→∃j,t=.ofNat j∧j<N
mutual
def Uz:Trm→Prop
 |.mk k _ op _ _ _ ks=>zvi k op=false∧YO ks
def YO:List Trm→Prop
 |[]=>True
 |x::r=>Uz x∧YO r
end
theorem Yz{c:Cd}{f:Fn}{k v op n fn:Int}{as:List Atm}{ks:List Trm}(h:qN c f (.mk k v op n fn as ks)=true)(h2:eqD k (.ofNat 2)=true):∃j,fn=.ofNat j∧j<c.fs.length:=by
 unfold qN at h;simp only[Trm.atoms,Trm.kind,Trm.var,Trm.op,Trm.num,Trm.fn,Trm.kids]at h;rw[zq]at h;have hk:k=.ofNat 2:=by simpa [eqD]using h2
 have h1:eqD k (.ofNat 1)=false:=by rw[hk];rfl
 have h3:=h.2;rw[h1,cond_false]at h3;unfold kv at h3;rw[zq,h2,cond_true,zq,zq]at h3;exact kT h3.2.1.1
mutual
theorem zq1{c:Cd}{f:Fn}:∀(t:Trm) (kn kn2:List (Int×Int)),qv c f t=true→opF t kn=some kn2→U4 c.fs.length kn→Uz t∧U4 c.fs.length kn2
 | .mk k v op n fn as ks,kn,kn2,ht,h,hk=>by
  simp only[qv,zq]at ht;simp only[opF]at h;cases hb:zvi k op with
  |true=>rw[hb]at h;cases h
  | false=>
   rw[hb,cond_false]at h;have hk2:U4 c.fs.length (bif eqD k (.ofNat 2)then QC v fn kn else kn):=by
    cases h2:eqD k (.ofNat 2)with
    |false=>exact hk
    |true=>
     intro x t hx;rw[cond_true,QN]at hx;split at hx
     ·cases hx;exact Yz ht.1 h2
     ·exact hk x t hx
   obtain⟨q1,q2⟩:=zwt ks _ kn2 ht.2 h hk2;simp only[Uz];exact⟨⟨hb,q1⟩,q2⟩
theorem zwt{c:Cd}{f:Fn}:∀(ks:List Trm) (kn kn2:List (Int×Int)),qK c f ks=true→Ht ks kn=some kn2→U4 c.fs.length kn→YO ks∧U4 c.fs.length kn2
 |[],kn,kn2,_,h,hk=>by
  simp only[Ht,Option.some.injEq]at h;subst h;simp only[YO];exact⟨trivial,hk⟩
 |x::r,kn,kn2,ht,h,hk=>by
  simp only[qK,zq]at ht;simp only[Ht]at h;obtain⟨k1,h1,h2⟩:=Option.bind_eq_some_iff.1 h;obtain⟨q1,q2⟩:=zwt r kn k1 ht.2 h1 hk;obtain⟨q3,q4⟩:=zq1 x k1 kn2 ht.1 h2 q2;simp only[YO];exact⟨⟨q3,q1⟩,q4⟩
end
theorem Uy{c:Cd}:∀(fs:List Fn) (kn kn2:List (Int×Int)),(∀f∈fs,qv c f f.b=true)→gY fs kn=some kn2→U4 c.fs.length kn→(∀f∈fs,f.fr=[]∧Uz f.b)∧U4 c.fs.length kn2
 |[],kn,kn2,_,h,hk=>by
  simp only[gY,Option.some.injEq]at h;subst h;exact⟨fun f hf=>(by cases hf),hk⟩
 | f::r,kn,kn2,ht,h,hk=>by
  simp only[gY]at h;by_cases hl:0<f.fr.length
  ·rw[decide_eq_true hl]at h;cases h
  ·rw[decide_eq_false hl,cond_false]at h;obtain⟨k1,h1,h2⟩:=Option.bind_eq_some_iff.1 h;obtain⟨q1,q2⟩:=zq1 f.b kn k1 (ht f (by simp)) h1 hk
   obtain⟨q3,q4⟩:=Uy r k1 kn2 (fun g hg=>ht g (by simp[hg])) h2 q2
   refine⟨fun g hg=>?_,q4⟩;rcases List.mem_cons.1 hg with rfl|hg
   ·exact⟨yF oM,q1⟩
   ·exact q3 g hg
theorem Pr(N:Nat):U4 N []:=fun v t h=>by cases h
theorem Pc{c:Cd}{j:Nat}{f:Fn}(h:c.fs[j]? =some f):kD c (.ofNat j)=f:=by
 show c.fs.getD j fn0=f;rw[xe,h];rfl
theorem VW{c:Cd}{kn:List (Int×Int)}{j:Nat}(hj:j<c.fs.length):(kD (cnv c kn) (.ofNat j)).ps=(kD c (.ofNat j)).ps∧(kD (cnv c kn) (.ofNat j)).rest=(kD c (.ofNat j)).rest∧(kD (cnv c kn) (.ofNat j)).fr.length=((wz c).getD j []).length:=by
 have h:=yH hj;obtain⟨bj,_,_,h2⟩:=Xd (c:=c) (kn:=kn) h;rw[Pc h,Pc h2];exact⟨rfl,rfl,zhj _⟩
theorem pO{v m n:Int}(h:wg v m=true)(hm:m≤n):wg v n=true:=by
 rw[jr]at *;omega
theorem eqT{a b:Int}:eqD a b=true↔a=b:=by unfold eqD;rw[decide_eq_true_eq]
theorem zmJ{c:Cd}{k v op num fn:Int}{na nk:Nat}(h:kv c k v op num fn na nk=true):eqD op (.ofNat 0)=true∧eqD num (.ofNat 0)=true∧(eqD k (.ofNat 2)=true∨eqD v (.ofNat 0)=true)∧(eqD k (.ofNat 2)=true∨eqD k (.ofNat 5)=true∨eqD fn (.ofNat 0)=true):=by
 unfold kv at h;rw[zq]at h;have h1:=h.1;revert h1;cases eqD op (.ofNat 0)<;>cases eqD num (.ofNat 0)<;>cases eqD k (.ofNat 2)<;>cases eqD v (.ofNat 0)<;>cases eqD k (.ofNat 5)<;>cases eqD fn (.ofNat 0)<;>simp
structure CnOk(c:Cd)(kn:List (Int×Int)):Prop where
 ok:U4 c.fs.length kn
 fr:∀f∈c.fs,f.fr=[]
 sb:∀j,∀x∈(wz c).getD j [],wg x c.vars=true
 vs:c.vars≤(cnv c kn).vars
theorem fr0{c:Cd}{kn:List (Int×Int)}(h:CnOk c kn)(j:Int):(kD c j).fr=[]:=by
 unfold kD;rw[xe];cases e:c.fs[j.toNat]? with
 |none=>rfl
 |some f=>exact h.fr f (xq e)
section
variable {c:Cd}{kn nm:List (Int×Int)}(h:CnOk c kn)(hnm:∀v,wg v c.vars=true→wg (nmF nm v) (cnv c kn).vars=true)
include h hnm
theorem zrF{f f2:Fn}{k v op num fn:Int}{as:List Atm}{ks ks2:List Trm}(hf:qN c f (.mk k v op num fn as ks)=true)(hb:zvi k op=false)(hl:ks2.length=ks.length):qN (cnv c kn) f2 (.mk (hdF c ((wz c).map wE) kn nm k fn as).1 v op num (hdF c ((wz c).map wE) kn nm k fn as).2.1 (hdF c ((wz c).map wE) kn nm k fn as).2.2 ks2)=true:=by
 have hfn:=fun h2=>Yz hf h2;unfold qN at hf⊢;simp only[Trm.atoms,Trm.kind,Trm.var,Trm.op,Trm.num,Trm.fn,Trm.kids]at hf⊢;rw[zq]at hf⊢;obtain⟨ha,hr⟩:=hf;refine⟨?_,?_⟩
 ·rw[zhq]at ha⊢;intro a haa;rw[He]at haa;rcases List.mem_append.1 haa with haa|haa
  ·obtain⟨b,hbb,rfl⟩:=List.mem_map.1 haa;rcases pN.1 (ha b hbb)with ⟨h1,h2⟩|⟨h1,h2⟩
   ·have:rnA nm b=⟨.ofNat 1,nmF nm b.n⟩:=by unfold rnA;rw[eqT.2 h1];rfl
    rw[this];exact pN.2 (.inl ⟨rfl,hnm _ h2⟩)
   ·have:rnA nm b=b:=by unfold rnA;rw[h1];rfl
    rw[this];exact pN.2 (.inr ⟨h1,h2⟩)
  ·cases hk2:eqD k (.ofNat 2)with
   |false=>rw[hk2]at haa;cases haa
   |true=>
    rw[hk2,cond_true]at haa;obtain⟨x,hx,rfl⟩:=List.mem_map.1 haa;rw[ji,lG]at hx;exact pN.2 (.inl ⟨rfl,hnm _ (h.sb _ x hx)⟩)
 ·have hnl:(cnv c kn).fs.length=c.fs.length:=kJ;have hlen:(hdF c ((wz c).map wE) kn nm k fn as).2.2.length=as.length+(bif eqD k (.ofNat 2)then ((wz c).getD fn.toNat []).length else 0):=by
   rw[He,yA,zhg];cases eqD k (.ofNat 2)with
   |false=>rfl
   |true=>
    simp only[cond_true,zhg];rw[ji,show (wE ((wz c).getD fn.toNat [])).length=_ from zhj _]
  unfold zvi at hb;rw[yY]at hb;obtain⟨hb5,hb1⟩:=hb;rcases zr9 (c:=c) (fr:=(wz c).map wE) (kn:=kn) (nm:=nm) (k:=k) (fn:=fn) (as:=as)with ⟨e1,e2⟩|⟨rfl,e1,t,ht,e2,e3⟩
  ·rw [e1,e2,hlen];cases c1:eqD k (.ofNat 1)with
   |true=>
    have hk1:=eqT.1 c1;subst hk1;rw[c1,cond_true]at hr;rw[cond_true];unfold Zu at hr⊢;simp only[Trm.atoms,Trm.op,Trm.num,Trm.fn,Trm.kids,Trm.var,zq,hlen]at hr⊢;obtain⟨q1,q2,q3,q4,q5⟩:=hr;refine⟨q1,?_,q3,(hl▸q4),pO q5 h.vs⟩;unfold zwn at q2⊢;rw[c1,yP,yY]at hb1;rw[hb1.1]at q2⊢;exact q2
   | false=>
    rw[c1,cond_false]at hr;rw[cond_false,hl];unfold kv at hr⊢;rw[zq]at hr⊢;refine⟨hr.1,?_⟩;have h2:=hr.2;rw[hb5,hnl]at *;cases c2:eqD k (.ofNat 2)with
    |true=>
     rw[c2,cond_true]at h2;rw[cond_true];simp only[zq,decide_eq_true_eq,cond_true]at h2⊢;obtain⟨⟨q1,q2,q3⟩,q4⟩:=h2;obtain⟨j,rfl,hj⟩:=hfn c2;refine⟨⟨q1,pO q2 h.vs,?_⟩,q4⟩;rw[fr0 h]at q3;rw[(VW hj).2.2,q3];exact yO _
    | false=>
     rw[c2,cond_false]at h2;simp only[cond_false,yR];cases c3:eqD k (.ofNat 3)with
     |true=>rw[c3,cond_true]at h2;rw[cond_true];exact h2
     |false=>
      rw[c3,cond_false]at h2;rw[cond_false];exact h2
  ·rw [e1,e2,e3,zhg];rw[show eqD (.ofNat 4) (.ofNat 1)=false from rfl,cond_false]at hr;rw[show eqD (.ofNat 5) (.ofNat 1)=false from rfl,cond_false,hl];have ho:=zmJ hr;unfold kv at hr⊢;rw[zq]at hr;have h2:=hr.2;simp only[show eqD (.ofNat 4) (.ofNat 2)=false from rfl,show eqD (.ofNat 4) (.ofNat 3)=false from rfl,show eqD (.ofNat 4) (.ofNat 4)=true from rfl,cond_false,cond_true,zq,decide_eq_true_eq]at h2;have hv:eqD v (.ofNat 0)=true:=ho.2.2.1.resolve_left (by decide)
   rw[ho.1,ho.2.1,hv];simp only[show eqD (.ofNat 5) (.ofNat 2)=false from rfl,show eqD (.ofNat 5) (.ofNat 3)=false from rfl,show eqD (.ofNat 5) (.ofNat 4)=false from rfl,show eqD (.ofNat 5) (.ofNat 6)=false from rfl,show eqD (.ofNat 5) (.ofNat 5)=true from rfl,cond_false,cond_true,Bool.not_true,Bool.not_false,Bool.and_false,Bool.or_self,Bool.false_and,yP,zq,decide_eq_true_eq];unfold knF at ht;cases as with
   |nil=>cases ht
   | cons a r=>
    simp only at ht;cases hl2:lkM a.n kn with
    |none=>rw[hl2]at ht;cases ht
    | some t2=>
     rw[hl2]at ht;simp only at ht;cases hc:(eqD a.k (.ofNat 1)&&(!(kD c t2).rest&&decide ((kD c t2).ps.length=r.length)))with
     |false=>rw[hc]at ht;cases ht
     |true=>
      rw[hc]at ht;simp only[cond_true,Option.some.injEq]at ht;subst ht;simp only[zq,zhp,decide_eq_true_eq]at hc;obtain⟨j,rfl,hj⟩:=h.ok _ _ hl2;have hfa:=VW (c:=c) (kn:=kn) hj;refine⟨⟨?_,?_,?_⟩,h2.2⟩
      ·rw[hnl,jr];exact⟨zP _,Int.ofNat_lt.2 hj⟩
      ·rw[hfa.2.1,hc.2.1];rfl
      ·rw[hfa.1,hc.2.2,yb];omega
mutual
theorem zw5{f f2:Fn}:∀t:Trm,qv c f t=true→Uz t→qv (cnv c kn) f2 (tmF c ((wz c).map wE) kn nm t)=true
 |.mk k v op n fn as ks,ht,ho=>by
  simp only[qv,zq]at ht;simp only[Uz]at ho;simp only[tmF,qv,zq];obtain⟨q1,q2⟩:=zzm (f:=f) (f2:=f2) ks ht.2 ho.2;exact⟨zrF h hnm ht.1 ho.1 q2,q1⟩
theorem zzm{f f2:Fn}:∀ks:List Trm,qK c f ks=true→YO ks→qK (cnv c kn) f2 (jN c ((wz c).map wE) kn nm ks)=true∧(jN c ((wz c).map wE) kn nm ks).length=ks.length
 |[],_,_=>by simp only[jN,qK,and_self]
 |x::r,ht,ho=>by
  simp only[qK,zq]at ht;simp only[YO]at ho;simp only[jN,qK,zq,yb];obtain⟨q1,q2⟩:=zzm (f:=f) (f2:=f2) r ht.2 ho.2;exact⟨⟨zw5 x ht.1 ho.1,q1⟩,by rw[q2]⟩
end
end
theorem UR{d:Cd}{f:Fn}{b:Int}:∀(n:Nat) (t:Trm),qv d f t=true→(∀k,k<n→wg (b+ .ofNat k) d.vars=true)→n≤f.fr.length→qv d f (ug b n t)=true
 |0,t,h,_,_=>h
 |n+1,t,h,hv,hn=>by
  simp only[ug];refine UR n _ ?_ (fun k hk=>hv k oM) oM;simp only[qv,qK,Bool.and_true,zq];refine⟨?_,h⟩;unfold qN;simp only[Trm.atoms,Trm.kind,List.all_nil,yP,show eqD (.ofNat 1) (.ofNat 1)=true from rfl,cond_true];unfold Zu;simp only[Trm.atoms,Trm.op,Trm.num,Trm.fn,Trm.kids,Trm.var,yb,xz,zq];refine⟨rfl,?_,rfl,rfl,hv n oM⟩;rw[show zwn d f (.ofNat 105)=.ofNat f.fr.length from rfl,jr];exact⟨zP _,Int.ofNat_lt.2 oM⟩
structure CnPre(c:Cd)(kn:List (Int×Int)):Prop where
 w:je c=true
 o:pE c=true
 k:gY c.fs []=some kn
 ci:X0 c 0 c.fs=false
 v0:0≤c.vars
theorem zxW(c:Cd)(kn:List (Int×Int)):c.vars≤(cnv c kn).vars:=zxV _ _
theorem CnPre.ok{c:Cd}{kn:List (Int×Int)}(h:CnPre c kn):CnOk c kn∧∀f∈c.fs,Uz f.b:=by
 have hw:=Z8 h.w;obtain⟨h1,h2⟩:=Uy c.fs [] kn (fun f hf=>(hw f hf).2.1) h.k (Pr _);exact⟨⟨h2,fun f hf=>(h1 f hf).1,Qj fun f hf=>(hw f hf).2.1,zxW c kn⟩,fun f hf=>(h1 f hf).2⟩
theorem zxN{c:Cd}:∀(fs:List Fn) (i:Nat),X0 c i fs=false→∀j f,fs[j]? =some f→eqD (.ofNat (i+j)) c.main=true→(wz c).getD (i+j) []=[]
 |[],_,_,j,f,h,_=>by simp at h
 | g::r,i,hc,j,f,h,hm=>by
  simp only[X0,yY]at hc;cases j with
  |zero=>
   rw[yR]at hm⊢;rw[hm,ziI,yP,decide_eq_false_iff_not]at hc;exact yF oM
  |succ j=>
   have:=zxN r (i+1) hc.2 j f (by simpa using h)
   rw[show i+1+j=i+(j+1) by omega]at this
   exact this hm
theorem zzY{c:Cd}{f:Fn}:(∀t:Trm,qv c f t=true→∀x∈pP t,wg x c.vars=true):=by
 intro t;refine Trm.rec (motive_1:=fun t=>qv c f t=true→∀x∈pP t,wg x c.vars=true) (motive_2:=fun ks=>qK c f ks=true→∀x∈gJ ks,wg x c.vars=true) ?_ ?_ ?_ t
 ·intro k v op n fn as ks ih ht x hx;simp only[qv,zq]at ht;simp only[pP]at hx;rcases List.mem_append.1 hx with hx|hx
  ·have hf:=ht.1;unfold qN at hf;simp only[Trm.atoms,Trm.kind,Trm.var,Trm.op,Trm.num,Trm.fn,Trm.kids]at hf;rw[zq]at hf;have h2:=hf.2;unfold vX at hx;cases c1:eqD k (.ofNat 1)with
   |true=>
    rw[c1,cond_true]at h2;rw[c1,ziI,cond_true,zW]at hx;subst hx;unfold Zu at h2;simp only[Trm.var,zq]at h2;exact h2.2.2.2.2
   | false=>
    rw[c1,cond_false]at h2;rw[c1,xD]at hx;cases c2:eqD k (.ofNat 2)with
    |false=>rw[c2]at hx;cases hx
    |true=>
     rw[c2,cond_true,zW]at hx;subst hx;unfold kv at h2;rw[zq,c2,cond_true]at h2;simp only[zq]at h2;exact h2.2.1.2.1
  ·exact ih ht.2 x hx
 ·intro _ x hx;cases hx
 ·intro t r ih1 ih2 ht x hx;simp only[qK,zq]at ht;simp only[gJ]at hx;rcases List.mem_append.1 hx with hx|hx
  ·exact ih2 ht.2 x hx
  ·exact ih1 ht.1 x hx
theorem Ux{c:Cd}:∀fs:List Fn,(∀f∈fs,f.ps.all (fun x=>wg x c.vars)=true∧qv c f f.b=true)→∀x∈YM fs,wg x c.vars=true
 |[],_,x,hx=>by cases hx
 | f::r,h,x,hx=>by
  simp only[YM]at hx;obtain⟨h1,h2⟩:=h f (by simp)
  rcases List.mem_append.1 hx with hx|hx
  ·rcases List.mem_append.1 hx with hx|hx
   ·exact List.all_eq_true.1 h1 x hx
   ·exact zzY f.b h2 x hx
  ·exact Ux r (fun g hg=>h g (by simp[hg])) x hx
theorem zl5{c:Cd}{kn:List (Int×Int)}(h:CnPre c kn):je (cnv c kn)=true∧pE (cnv c kn)=true∧X0 (cnv c kn) 0 (cnv c kn).fs=false:=by
 have hw:=Z8 h.w;obtain⟨hok,hop⟩:=h.ok;have hvs:=hok.vs;refine⟨?_,?_,?_⟩
 ·have hm:=h.w;unfold je zva at hm⊢;rw[zq,zq,zq,zhp,decide_eq_true_eq]at hm;obtain⟨⟨m1,m2,m3⟩,_⟩:=hm;obtain⟨j,hj,hjl⟩:=kT m1;have hmain:(cnv c kn).main=c.main:=rfl;have hS:(wz c).getD j []=[]:=by
   have:=zxN c.fs 0 h.ci j _ (yH hjl) (by rw[yO,hj];exact eqT.2 rfl)
   rwa [yO]at this
  rw[zq];refine⟨?_,List.all_eq_true.2 fun f hf=>?_⟩
  ·rw[hmain,hj,kJ,zq,zq,zhp,decide_eq_true_eq];obtain⟨f1,f2,f3⟩:=VW (c:=c) (kn:=kn) hjl;rw[hj]at m1 m2 m3;refine⟨m1,?_,by rw[f2];exact m3⟩
   rw[f1,f3,hS,xz];omega
  ·obtain⟨j,hjl2,hj2⟩:=zhk hf;have hjl:j<c.fs.length:=by rwa [kJ]at hjl2
   have hg:=yH hjl;obtain⟨bj,b1,b2,b3⟩:=Xd (c:=c) (kn:=kn) hg;rw[yH hjl2,hj2,Option.some.injEq]at b3;have hin:c.fs[j]∈c.fs:=zi4 hjl;obtain⟨w1,w2,w3⟩:=hw _ hin;have hopj:=hop _ hin;generalize c.fs[j]=g at *;have hv0:=h.v0;have hsl:(wE ((wz c).getD j [])).length=((wz c).getD j []).length:=zhj _;subst b3;unfold wFn;rw[zq,zq];refine⟨?_,?_,?_⟩
   ·show (!(g.rest&&decide (g.ps.length=0)))=true;cases hr:g.rest with
    |false=>rfl
    |true=>
     have:=w3 hr;have hp:¬g.ps.length=0:=fun e=>this (yF e);simp[hp]
   ·rw[zhq]at w1⊢;intro x hx;rcases List.mem_append.1 hx with hx|hx
    ·exact pO (w1 x (List.mem_append.2 (.inl hx))) hvs
    ·exact pO (hok.sb j x (lG.1 hx)) hvs
   ·refine UR _ _ (zw5 hok (fun v hv=>?_) g.b w2 hopj) (fun k hk=>?_) (Nat.le_of_eq hsl.symm)
    ·by_cases hm:v∈wE ((wz c).getD j [])
     ·obtain⟨i,hi,e⟩:=zqG (b:=bj) hm;rw[e,jr];rw[hsl]at hi;have hi2:zG i<zG ((wz c).getD j []).length:=Int.ofNat_lt.2 hi;have hi3:(0:Int)≤.ofNat i:=zP _;omega
     ·rw[zwo hm];exact pO hv hvs
    ·rw[jr];have hi2:zG k<zG ((wz c).getD j []).length:=Int.ofNat_lt.2 hk;have hi3:(0:Int)≤.ofNat k:=zP _;omega
 ·rw[KZ];have ho:=(KZ c).1 h.o;have hb:=Ux (c:=c) c.fs fun f hf=>by
   obtain⟨w1,w2,_⟩:=hw f hf;refine⟨?_,w2⟩;rw[zhq]at w1⊢;exact fun x hx=>w1 x (List.mem_append.2 (.inl hx))
  exact(PN (c:=c) (V:=c.vars) c.fs _ c.vars (zhr _) (fun x hx=>(jr.1 (hb x hx)).2) ho).1
 ·have:∀(fs:List Fn) (i:Nat),X0 (cnv c kn) i fs=false:=by
   intro fs
   induction fs with
   |nil=>intro i;rfl
   |cons f r ih=>
    intro i;simp only[X0,ih,Bool.or_false];rw[Lw,Ue];simp
  exact this _ _
theorem Pe{c:Cd}{f:Fn}{k v op n fn:Int}{as:List Atm}{ks:List Trm}(h:qN c f (.mk k v op n fn as ks)=true)(h4:eqD k (.ofNat 4)=true):as≠[]:=by
 unfold qN at h;simp only[Trm.atoms,Trm.kind,Trm.var,Trm.op,Trm.num,Trm.fn,Trm.kids]at h;rw[zq]at h;have hk:=eqT.1 h4;have h3:=h.2;rw[hk,show eqD (.ofNat 4) (.ofNat 1)=false from rfl,cond_false]at h3;unfold kv at h3;rw[zq]at h3;have h2:=h3.2;simp only[show eqD (.ofNat 4) (.ofNat 2)=false from rfl,show eqD (.ofNat 4) (.ofNat 3)=false from rfl,show eqD (.ofNat 4) (.ofNat 4)=true from rfl,cond_false,cond_true,zq,decide_eq_true_eq]at h2;intro e;rw[e]at h2;have:=h2.1;simp only[xz]at this;omega
section
variable {c:Cd}{f:Fn}{fr:List (List Int)}{kn:List (Int×Int)}(hk:U4 c.fs.length kn)(hps:∀g∈c.fs,g.ps.length<1000000000)(hfl:fr.length=c.fs.length)(hln:∀l∈fr,l.length<400000000)
include hk hps hfl hln
mutual
theorem zws:∀t:Trm,qv c f t=true→(q9 t).length<400000000→Qp c fr kn t
 |.mk k v op n fn as ks,ht,hu=>by
  simp only[qv,zq]at ht;simp only[q9,yA,zhg]at hu;have hkl:=YA ht.1;simp only[Trm.kids]at hkl;simp only[Qp];refine⟨⟨oM,fun h2=>?_,fun h4=>Pe ht.1 h4,fun x t hx=>?_⟩,hkl,PO ks ht.2 oM⟩
  ·obtain⟨j,rfl,hj⟩:=Yz ht.1 h2;have hj2:j<fr.length:=oM;exact⟨j,fr[j],_,rfl,ziO hj2,hln _ (zi4 hj2)⟩
  ·obtain⟨j,rfl,hj⟩:=hk x t hx;exact⟨j,c.fs[j],_,rfl,ziO hj,hps _ (zi4 hj)⟩
theorem PO:∀ks:List Trm,qK c f ks=true→(jw ks).length<400000000→WE c fr kn ks
 |[],_,_=>by simp only[WE]
 |x::r,ht,hu=>by
  simp only[qK,zq]at ht;simp only[jw,yA]at hu;simp only[WE];exact⟨zws x ht.1 oM,PO r ht.2 oM⟩
end
end
def HO:Cd:=⟨[],.ofNat 0,.ofNat 0,.ofNat 0,[]⟩
noncomputable def zyb(P:Program)(w0:World)(c:Cd):Cd×Int:=
 bif eqD (jE P w0 c) (.ofNat 0)then (match gY c.fs []with
  |some kn=>(cnv c kn,.ofNat 0)
  |none=>(HO,.ofNat 2))
 else (HO,jE P w0 c)
structure CvArg(N:Nat)(c:Cd):Prop where
 ch:ChPre N c
 us:(jl c).length<400000000
 vs:c.vars< .ofNat 2000000000000000000
 nc:c.consts.length<1000000000
theorem GL{c:Cd}(h:jE P w0 c=.ofNat 0):uW P w0 c=.ofNat 0∧pE c=true∧X0 c 0 c.fs=false:=by
 unfold jE at h;cases e:eqD (uW P w0 c) (.ofNat 0)with
 |false=>
  rw[e,cond_false]at h;rw[h]at e;cases e
 | true=>
  rw[e,cond_true]at h;refine⟨eqT.1 e,?_⟩;cases e2:pE c with
  |false=>rw[e2,cond_false]at h;exact absurd h (by decide)
  |true=>
   rw[e2,cond_true]at h;cases e3:X0 c 0 c.fs with
   |false=>exact⟨rfl,rfl⟩
   |true=>rw[e3,cond_true]at h;exact absurd h (by decide)
theorem zzw{c:Cd}{f:Fn}(hf:f∈c.fs):(q9 f.b).length≤(jl c).length:=by
 unfold jl;obtain⟨a,b,e⟩:=List.append_of_mem hf;rw[e];simp only[List.map_append,zD,List.flatten_append,List.flatten_cons,yA];omega
theorem zrH{c:Cd}(hu:(jl c).length<400000000):∀l∈(wz c).map wE,l.length<400000000:=fun l hl=>by
 obtain⟨s,hs,rfl⟩:=List.mem_map.1 hl;rw[lP];have hS:SOk (jl c) c.fs.length (wz c):=gA c (Yp c);obtain⟨j,hj,e⟩:=zhk hs;have e2:(wz c).getD j []=s:=by rw[xe,yH hj,e];rfl
 have h1:=hS.sub j;have h2:=hS.nd j;rw[e2]at h1 h2;have:=Zr h2 h1;omega
theorem Pf{c:Cd}(h:uW P w0 c=.ofNat 0):WX P w0 c=(wz c).map wE:=by
 unfold WX;rw[h];rfl
open Nat (reduceEqDiff reduceLeDiff reduceLT reduceAdd reduceMul reduceSub reduceMod reducePow reduceDiv reduceOr reduceShiftLeft reduceGT reduceSucc)
open List (length_cons length_nil length_take length_drop)
open Int renaming reduceOfNat → rO, reduceNegSucc → rN
theorem zyO{us ws:List AV}(h:FzL s us ws):Fz s (.tup us) (.tup ws):=by simp only[Fz];exact⟨us,rfl,h⟩
theorem Pb{s:St}:∀{l:List Int} {us:List AV},FzL s us (xP wy l)→us=xP wy l
 |[],us,h=>by simp only[xP,FzL]at h;exact h
 |x::r,us,h=>by
  simp only[xP,wy,zM,ziQ,FzL]at h;obtain⟨u,us',rfl,h1,h2⟩:=h;rw[j1 h1,Pb h2];rfl
noncomputable def zrS(P:Program)(w0:World)(N:Nat):List AV→St→Option (AV×St):=vF qI (CvArg N) (fun c=>.tup [.agg (wC (zyb P w0 c).1),.int .i64 (zyb P w0 c).2])
section
variable {P:Program}{w0:World}(B:Bx P w0){O:Orc}{N:Nat}(hO:OrcOk P w0 O)
include B hO
attribute [local go_sem] ltF gtF xZ x4 ziJ ziN ziM ziH wZ wP wR qu QO in
theorem zo0(h11:O 11=some (G3 P w0 N))(h12:O 12=some (zrT P w0 N))(h18:O 18=some G6)(h19:O 19=none)(h20:O 20=some (gCl (TmP 900000001) tmX))(h21:O 21=none)(h22:O 22=some G7)(c:Cd)(hc:CvArg N c):∃s1,SC P w0 7 (qI c) (s00 0 true) (.tup [.agg (wC (zyb P w0 c).1),.int .i64 (zyb P w0 c).2]) s1:=by
 refine bew B hO f7 ?_;have hch:=fun s=>oc h11 vJ c hc.ch (uC c) s;have hfr:=fun s=>oc h12 vJ c hc.ch (uC c) s;obtain⟨R,hR⟩:∃R,zyb P w0 c=R:=⟨_,rfl⟩;rw[hR];unfold zyb at hR;have hok:=GL (P:=P) (w0:=w0) (c:=c);generalize jE P w0 c=e at *;cases c1:eqD e (.ofNat 0)with
 |false=>
  rw[c1,cond_false]at hR;subst hR;clear hfr hok;obtain⟨fs,main,vars,globals,consts⟩:=c;unfold f7;simp only[qI,vd,wC]at hch⊢;refine xQ ?_;refine xR (xQ ?_);refine xO ?_;refine xW ?_;exact zyO (x0 (YB (x0 uO (x0 (wF _ _ _) (x0 (wF _ _ _) (x0 (wF _ _ _) (x0 uO vC)))))) (x0 (wF _ _ _) vC))
 | true=>
  rw[c1,cond_true]at hR;have he:e=.ofNat 0:=eqT.1 c1;subst he;obtain⟨hea,hon,hci⟩:=hok rfl;rw[Pf hea]at hfr;obtain⟨hwh,_,_,_,hv0⟩:=kl hea;have hwf:=Z8 hwh;obtain⟨V0,hV0⟩:=UU hv0;obtain⟨fs,main,vars,globals,consts⟩:=c;simp only at hV0;subst hV0;have hvs:=hc.vs;have hln:=zrH hc.us;have hfl:((wz (⟨fs,main,.ofNat V0,globals,consts⟩:Cd)).map wE).length=fs.length:=Uq;have hnf:=hc.ch.ea.sz.n;have hsz:=hc.ch.ea.sz.f;have hk2:=fun f hf=>(UQ f.b (hwf f hf).2.1 (hsz f hf).2.2).1;have hcl:=fun s=>oc h18 zyu consts hc.nc (args:=[Zn consts]) (by simp only[pa,wkL,Zn,wkV,jA]) s
  simp only[Zn]at hcl;obtain⟨F,hF⟩:∃F,(wz (⟨fs,main,.ofNat V0,globals,consts⟩:Cd)).map wE=F:=⟨_,rfl⟩;rw[hF]at hfr hln hfl;simp only[jj]at hfr;unfold f7;simp only[qI,vd,wC]at hch hfr⊢;refine xQ ?_;refine xR (xQ ?_);refine xO ?_;refine xQ ?_;refine xQ ?_;refine vM _ (zqq h19 (c:=⟨fs,main,.ofNat V0,globals,consts⟩) (fr:=F) hfl hnf hln (fun f hf=>⟨(hsz f hf).2.1,(hsz f hf).2.2,hk2 f hf⟩) (cp:=3) (kid:=2) (ob:=4) (V0:=V0) (lo:=5) ⟨oM,oM,oM,oM,oM,oM,oM,oM,oM,oM⟩ ⟨fun j hj=>?_,zu _,?_,?_,?_,?_,fun h=>absurd rfl h,?_⟩ (Int.ofNat_lt.1 hvs) sW sW sW sW fun hno T L n m y2 y3 y1=>?_) fun f t hI=>?_
  ·(repeat rw[xL,if_neg oM]);rfl
  ·simp (disch:=first|exact dis|fail)only[go_sem,seval,-rO,-rN];rfl
  ·simp (disch:=first|exact dis|fail)only[go_sem,seval,-rO,-rN];rfl
  ·simp only[Xe,wC,zM,ziQ,jj,hfl];simp (disch:=first|exact dis|fail)only[go_sem,seval,-rO,-rN];rfl
  ·simp (disch:=first|exact dis|fail)only[go_sem,seval,-rO,-rN];rfl
  ·simp (disch:=first|exact dis|fail)only[go_sem,seval,-rO,-rN]
  ·simp only[hno]at hR;subst hR;simp only[pA]at y1;refine xW ?_;exact zyO (x0 (YB (x0 uO (x0 (wF _ _ _) (x0 (wF _ _ _) (x0 (wF _ _ _) (x0 uO vC)))))) (x0 (wF _ _ _) vC))
  obtain⟨T,L,n,m,bid,kn,rfl,rfl,t1,t2,t5,t6,hkn,hC,hOb⟩:=hI;simp only[hkn]at hR;subst hR;have hne:fs≠[]:=fun e=>by
   rw[e]at hwh;unfold je zva at hwh;simp only[zq]at hwh;obtain⟨j,_,hj⟩:=kT hwh.1.1;exact absurd hj (Nat.not_lt_zero _)
  have hbne:jp F (.ofNat V0)≠[]:=fun e=>by
   have:=JB F (.ofNat V0);rw[e,hfl]at this;exact hne (yF this.symm)
  obtain⟨hbn,_,us,gb,_,_,hus⟩:=hOb.ex hbne;rw[Pb (G2.1 hus)]at gb;have hb5:=hC.gb hbne;have h5n:=hC.le;have hkk:=(Uy (c:=⟨fs,main,.ofNat V0,globals,consts⟩) fs [] kn (fun f hf=>(hwf f hf).2.1) hkn (Pr _)).2;have hp:CvPre 900000001 ⟨fs,main,.ofNat V0,globals,consts⟩ F kn:=⟨oM,hfl,hnf,hln,fun f hf=>(hsz f hf).1,fun f hf=>⟨Nat.lt_succ_of_le (hc.ch.nt f hf),zws hkk (fun f hf=>(hsz f hf).1) hfl hln f.b (hwf f hf).2.1 (zhm (zzw hf) hc.us)⟩⟩;refine vM _ (zqr h20 h21 h22 hp (bz:=jp F (.ofNat V0)) (cp:=3) (kid:=2) (bid:=bid) (ob:=4) (V0:=V0) (lo:=n) ⟨oM,oM,oM,hbn,oM,oM,oM,oM,oM⟩ ⟨hC.wf,zu _,hC.g0,hC.gc,hC.gk,gb,hC.go⟩ rfl (Int.ofNat_lt.1 hvs) t1 t2 t5 t6) fun f t hI=>?_;obtain⟨T2,L2,n2,m2,oid,A,rfl,rfl,y2,y6,hC2,hO2,hA2,hoid,hfr2⟩:=hI;have g1:=(hfr2 1 oM oM).trans hC.g1;have go:=hC2.go;simp only[pA]at g1;have hcnv:cnv ⟨fs,main,.ofNat V0,globals,consts⟩ kn=⟨gw ⟨fs,main,.ofNat V0,globals,consts⟩ F kn fs F (.ofNat V0),main,pG F (.ofNat V0),globals,consts⟩:=by
   show Cd.mk _ _ _ _ _=_;rw[hF]
  rw[hcnv];simp only at go hO2⊢;generalize gw ⟨fs,main,.ofNat V0,globals,consts⟩ F kn fs F (.ofNat V0)=W at *;generalize pG F (.ofNat V0)=VE at *;have hsc:=uE 11 oid W.length;simp only[ua]at hsc;clear hfr2 hC hC2 hch hfr hcl hOb gb hus hcnv hkn hkk hp t1 t2 t5 t6 hfl hF hln;refine xQ ?_;refine xO ?_;refine xW ?_;refine zyO (x0 (YB (x0 ?_ (x0 (wF _ _ _) (x0 (wF _ _ _) (x0 (wF _ _ _) (x0 (vO (vA _) (jA _)) vC)))))) (x0 (wF _ _ _) vC));cases W with
  |nil=>exact uO
  |cons f r=>
   obtain⟨q1,_,us,q3,q4,_,L3,q6,q7⟩:=hO2.ex (by simp)
   have q8:=hoid (by simp)
   have hp:xY (xP wo (f::r))=true:=wG pV _;show Fz _ (.sl oid 0 (r.length+1) (.opn 11)) (.lst (f::r).length false (xP wo (f::r)));simp only[Fz];refine⟨hp,.inr ⟨trivial,oid,0,.opn 11,46,us,true,false,us,rfl,trivial,?_,?_,?_⟩⟩
   ·rw[wh,xL,if_neg oM];exact q3
   ·show wj _ (wH 0 us)=_;rw[wY,List.drop_zero];exact w6 (by rw[q4,vu kV])
   ·refine FzL.mono (fun j o ho=>?_) q7;rw[XX]at ho;obtain⟨g1,g2⟩:=q6 j o ho;have:=hA2 j g1;rw[wh,xL,if_neg oM];exact g2
end
open Int (reduceOfNat reduceNegSucc)
def szL{α:Type}(F:α→Nat):Nat→List α→Nat
 |n,[]=>n
 |n,x::r=>if n<9000 then szL F (n+F x) r else n
def szN:Nat→Trm→Nat
 |0,_=>9000
 |k+1,t=>szL (szN k) (1+t.atoms.length) t.kids
def ptN:Nat→DT→Nat
 |0,_=>9000
 |k+1,d=>szL (ptN k) (1+(Gm d).length) (jP d)
theorem zxr{α:Type}{F:α→Nat}:∀(l:List α) (n:Nat),n≤szL F n l
 |[],n=>zu _
 |x::r,n=>by
  simp only[szL];split
  ·have:=zxr (F:=F) r (n+F x);omega
  ·exact zu _
theorem zxs{α:Type}{F:α→Nat}{B:Nat}:∀(l:List α) (n:Nat),(∀x∈l,F x<B)→n<9000+B→szL F n l<9000+B
 |[],n,_,h=>h
 |x::r,n,hB,h=>by
  simp only[szL];split
  ·exact zxs r _ (fun y hy=>hB y (by simp[hy])) (by have:=hB x (by simp);omega)
  ·exact h
theorem UL:∀{ks:List Trm} {y:Trm},hZ ks→y∈ks→SzT y
 |t::r,y,h,hy=>by
  simp only[hZ]at h;rcases List.mem_cons.1 hy with rfl|hy
  ·exact h.1
  ·exact UL h.2 hy
theorem HF:∀(k:Nat) (t:Trm),SzT t→szN k t<1000000002+9000*(k+1)
 |0,_,_=>by simp only[szN];omega
 |k+1,.mk a b c d e as ks,h=>by
  simp only[SzT]at h;simp only[szN,Trm.atoms,Trm.kids];have:=zxs (F:=szN k) (B:=1000000002+9000*(k+1)) ks (1+as.length) (fun x hx=>HF k x (UL h.2.2 hx)) oM;omega
theorem HE{α:Type}{F G:α→Nat}:∀(l:List α) (n:Nat),(∀x∈l,F x<9000→G x≤F x)→szL F n l<9000→n+(l.map G).sum≤szL F n l
 |[],n,_,h=>by simp only[szL,yN,List.sum_nil];omega
 | x::r,n,hG,h=>by
  simp only[szL]at h⊢;split at h
  ·rename_i hn
   rw[if_pos hn];have h1:=zxr (F:=F) r (n+F x);have h2:=hG x (by simp) oM
   have h3:=HE r (n+F x) (fun y hy=>hG y (by simp[hy])) h
   simp only[zD,zhh];omega
  ·omega
theorem Uu:∀ks:List Trm,qo ks=(ks.map wJ).sum
 |[]=>rfl
 |x::r=>by simp only[qo,zD,zhh,Uu r]
theorem UZ:∀ks:List Trm,(jw ks).length=(ks.map fun t=>(q9 t).length).sum
 |[]=>rfl
 |x::r=>by simp only[jw,yA,zD,zhh,UZ r]
theorem Gj:∀(k:Nat) (t:Trm),szN k t<9000→wJ t+(q9 t).length≤szN k t
 |0,_,h=>by simp only[szN]at h;omega
 | k+1,.mk a b c d e as ks,h=>by
  simp only[szN,Trm.atoms,Trm.kids]at h⊢;have:=HE (F:=szN k) (G:=fun t=>wJ t+(q9 t).length) ks (1+as.length) (fun x _ hx=>Gj k x hx) h;simp only[wJ,q9,yA,zhg,Uu,UZ];have hs:∀l:List Trm,(l.map fun t=>wJ t+(q9 t).length).sum=(l.map wJ).sum+(l.map fun t=>(q9 t).length).sum:=fun l=>by
   induction l with
   |nil=>rfl
   |cons x r ih=>simp only[zD,zhh,ih];omega
  rw[hs]at this;omega
theorem QT:∀{ks:List DT} {y:DT},TxL ks→y∈ks→TxD y
 |t::r,y,h,hy=>by
  simp only[TxL]at h;rcases List.mem_cons.1 hy with rfl|hy
  ·exact h.1
  ·exact QT h.2 hy
theorem zps:∀(k:Nat) (d:DT),TxD d→ptN k d<2000002+9000*(k+1)
 |0,_,_=>by simp only[ptN];omega
 |k+1,.mk a b c ks e,h=>by
  simp only[TxD]at h;simp only[ptN,Gm,jP];have:=zxs (F:=ptN k) (B:=2000002+9000*(k+1)) ks (1+c.length) (fun x hx=>zps k x (QT h.2.2 hx)) oM;omega
theorem zmC:∀(k:Nat) (d:DT),1≤ptN k d
 |0,_=>by simp only[ptN];omega
 |k+1,d=>by
  simp only[ptN];have:=zxr (F:=ptN k) (jP d) (1+(Gm d).length);omega
theorem Uv:∀ks:List DT,w9 ks=(ks.map wI).sum
 |[]=>rfl
 |x::r=>by simp only[w9,zD,zhh,Uv r]
theorem K4:∀(k:Nat) (d:DT),ptN k d<9000→wI d≤ptN k d
 |0,_,h=>by simp only[ptN]at h;omega
 |k+1,.mk a b c ks e,h=>by
  simp only[ptN,Gm,jP]at h⊢;have:=HE (F:=ptN k) (G:=wI) ks (1+c.length) (fun x _ hx=>K4 k x hx) h;simp only[wI,Uv];omega
section
variable {O:Orc}
attribute [local go_sem] ltF gtF xZ x4 ziJ ziN ziM ziH wZ in
theorem zwY(h13:O 13=none):∀(k:Nat) (d:Trm),k≤400→SzT d→∀(L:List (Nat×Option AObj)) (n m:Nat) (b:Bool),
  (evW env O).call 13 [.agg (x3 d),.int .i64 (.ofNat k)] (KL L n m b [] none)=some (.int .i64 (.ofNat (szN k d)),KL L n m b [] none)
 | k,d,hk,hs,L,n,m,b=>by
  have key:Cv ((evW env O).call 13 [.agg (x3 d),.int .i64 (.ofNat k)] (KL L n m b [] none)) fun v t=>v=.int .i64 (.ofNat (szN k d))∧t=KL L n m b [] none:=by
   refine vB (F:=f13) h13 rfl rfl (ziw rfl) ?_;unfold f13;simp only[Ko,Kg,Ki];cases k with
   |zero=>
    simp only[szN];obtain⟨dk,dv,dop,dn,df,das,dks⟩:=d;simp only[xU];refine xQ ?_;refine xQ ?_;refine xW ?_;exact⟨rfl,rfl⟩
   | succ k=>
    have ih:=fun x hx=>zwY h13 k x oM hx;have hsub:vW .i64 (Int.sub (.ofNat (k+1)) (.ofNat 1))=.ofNat k:=by rw[ztg oM,WB oM];rfl
    have hpl:=fun x hx=>HF k x hx;generalize hR:szN (k+1) d=R;simp only[szN]at hR;obtain⟨dk,dv,dop,dn,df,das,dks⟩:=d;simp only[Trm.atoms,Trm.kids,SzT]at hR hs;obtain⟨hs1,hs2,hs3⟩:=hs;simp only[xU];refine xQ ?_;refine xQ ?_;refine xQ ?_;refine xR (xR (xO ?_));refine xT ?_;refine wx (fun x:Nat×Nat=>dks.length-x.1) (fun x fr s=>∃T m',fr=⟨tmL T,[]⟩∧s=KL ((n,some (.row 44 [.int .i64 dk,.int .i64 dv,.int .i64 dop,.int .i64 dn,.int .i64 df,.lst das.length false (xP wn das),.lst dks.length false (x7 dks)] false false))::L) (n+1) m' true [] none∧(tmL T).get 1=some (.int .i64 (.ofNat (k+1)))∧(tmL T).get 2=some (.ptr n 0)∧(tmL T).get 5=some (.int .i64 (.ofNat x.2))∧(tmL T).get 6=some (.int .i64 (.ofNat x.1))∧m'%2^n=0∧x.1≤dks.length∧x.2<2000000000∧R=szL (szN k) x.2 (dks.drop x.1)) (fun x fr s hI=>?_) (0,1+das.length) ⟨_,_,rfl,rfl,sW,sW,sW,sW,by simp,zQ _,by simp only;omega,hR.symm⟩
    obtain⟨i,q⟩:=x;obtain⟨T,m',rfl,rfl,t1,t2,t5,t6,hm,hi,hq,he⟩:=hI;simp only at t5 t6 hi hq he;clear hR;rcases wi dks i with ⟨hi2,hd⟩|⟨x,hi2,hd⟩
    ·rw[hd]at he;simp only[szL]at he;have hlt:¬i<dks.length:=oM;refine xO ?_;refine xQ ?_;refine wB (r:=.ret) ?_;show Cv _ _;refine xW ?_;exact⟨by rw[he],rfl⟩
    ·have hxs:=UL hs3 (ziT (by rw[hd];exact zi0))
     rw[hd]at he;simp only[szL]at he;by_cases hq2:q<9000
     ·rw[if_pos hq2]at he;have hix:=zsE hd;have ihx:=ih x hxs;have h1:=hpl x hxs;clear ih hpl hd hxs;generalize szN k x=px at *;obtain⟨xk,xv,xo,xn,xf,xa,xs⟩:=x;simp only[xU]at ihx hix;refine xO ?_;exact⟨(i+1,q+px),⟨_,_,rfl,rfl,sV,sV,sV,sV,hm,by simp only;omega,by simp only;omega,he⟩,by simp only;omega⟩
     ·rw[if_neg hq2]at he;clear ih hpl hd;refine xO ?_;refine xQ ?_;refine wB (r:=.ret) ?_;show Cv _ _;refine xW ?_;exact⟨by rw[he],rfl⟩
  obtain⟨v,t,h,rfl,rfl⟩:=key;exact h
attribute [local go_sem] wD kw kP ltF gtF xZ x4 ziJ ziN ziM ziH wZ in
theorem PS(h14:O 14=none):∀(k:Nat) (d:DT),k≤60→TxD d→∀(L:List (Nat×Option AObj)) (n m:Nat) (b:Bool),
  (evW env O).call 14 [.agg (w4 d),.int .i64 (.ofNat k)] (KL L n m b [] none)=some (.int .i64 (.ofNat (ptN k d)),KL L n m b [] none)
 | k,d,hk,hs,L,n,m,b=>by
  have key:Cv ((evW env O).call 14 [.agg (w4 d),.int .i64 (.ofNat k)] (KL L n m b [] none)) fun v t=>v=.int .i64 (.ofNat (ptN k d))∧t=KL L n m b [] none:=by
   refine vB (F:=f14) h14 rfl rfl (ziw rfl) ?_;unfold f14;simp only[Ko,Kg,Ki];cases k with
   |zero=>
    simp only[ptN];obtain⟨dk,dn,dt,ds,dp⟩:=d;refine xQ ?_;refine xQ ?_;refine xW ?_;exact⟨rfl,rfl⟩
   | succ k=>
    have ih:=fun x hx=>PS h14 k x oM hx;have hsub:vW .i64 (Int.sub (.ofNat (k+1)) (.ofNat 1))=.ofNat k:=by rw[ztg oM,WB oM];rfl
    have hpl:=fun x hx=>zps k x hx;have hpp:=fun x=>zmC k x;generalize hR:ptN (k+1) d=R;simp only[ptN]at hR;obtain⟨dk,dn,dt,ds,dp⟩:=d;simp only[Gm,jP,TxD]at hR hs;obtain⟨_,hs1,hs3⟩:=hs;refine xQ ?_;refine xQ ?_;refine xQ ?_;refine xR (xR (xO ?_));refine xT ?_;refine wx (fun x:Nat×Nat=>ds.length-x.1) (fun x fr s=>∃T m',fr=⟨tmL T,[]⟩∧s=KL ((n,some (.row 36 [.int .i64 dk,.int .i64 dn,.str dt,.lst ds.length false (wa ds),.int .i64 dp] false false))::L) (n+1) m' true [] none∧(tmL T).get 1=some (.int .i64 (.ofNat (k+1)))∧(tmL T).get 2=some (.ptr n 0)∧(tmL T).get 5=some (.int .i64 (.ofNat x.2))∧(tmL T).get 6=some (.int .i64 (.ofNat x.1))∧m'%2^n=0∧x.1≤ds.length∧x.1<x.2∧x.2<20000000∧R=szL (ptN k) x.2 (ds.drop x.1)) (fun x fr s hI=>?_) (0,1+dt.length) ⟨_,_,rfl,rfl,sW,sW,sW,sW,by simp,zQ _,by simp only;omega,by simp only;omega,hR.symm⟩
    obtain⟨i,q⟩:=x;obtain⟨T,m',rfl,rfl,t1,t2,t5,t6,hm,hi,hiq,hq,he⟩:=hI;simp only at t5 t6 hi hiq hq he;clear hR;rcases wi ds i with ⟨hi2,hd⟩|⟨x,hi2,hd⟩
    ·rw[hd]at he;simp only[szL]at he;have hlt:¬i<ds.length:=oM;refine xO ?_;refine xQ ?_;refine wB (r:=.ret) ?_;show Cv _ _;refine xW ?_;exact⟨by rw[he],rfl⟩
    ·have hxs:=QT hs3 (ziT (by rw[hd];exact zi0))
     rw[hd]at he;simp only[szL]at he;by_cases hq2:q<9000
     ·rw[if_pos hq2]at he;have hix:=Xf hd;rw[←qE]at hix;have ihx:=ih x hxs;have h1:=hpl x hxs;have h2:=hpp x;clear ih hpl hpp hd hxs;generalize ptN k x=px at *;obtain⟨xk,xn,xt,xs,xp⟩:=x;simp only[wD]at ihx hix;refine xO ?_;exact⟨(i+1,q+px),⟨_,_,rfl,rfl,sV,sV,sV,sV,hm,by simp only;omega,by simp only;omega,by simp only;omega,he⟩,by simp only;omega⟩
     ·rw[if_neg hq2]at he;clear ih hpl hpp hd;refine xO ?_;refine xQ ?_;refine wB (r:=.ret) ?_;show Cv _ _;refine xW ?_;exact⟨by rw[he],rfl⟩
  obtain⟨v,t,h,rfl,rfl⟩:=key;exact h
end
def fnN(f:Fn):Nat:=szN 400 f.b+f.ps.length+f.fr.length
def lgN:Nat→Nat→List Fn→Nat
 |_,n,[]=>n
 |0,n,_::_=>n
 |k+1,n,f::r=>lgN k (n+fnN f) r
def zzS:Nat→List DT→Bool
 |_,[]=>false
 |0,_::_=>false
 |k+1,d::r=>decide (300<ptN 60 d)||zzS k r
def Wi(c:Cd):Bool:=zzS 40 c.consts||(decide (2000<lgN 110 0 c.fs)||(decide (100<c.fs.length)||(decide (30<c.consts.length)||ltD (.ofNat 1099511627776) c.vars)))
structure LgPre(c:Cd):Prop where
 nf:c.fs.length<100000000
 nc:c.consts.length<1000000000
 f:∀f∈c.fs,f.ps.length<1000000000∧f.fr.length<1000000000∧SzT f.b
 tx:TxL c.consts
theorem zkz{f:Fn}(h:f.ps.length<1000000000∧f.fr.length<1000000000∧SzT f.b):fnN f<4000000000:=by
 have:=HF 400 f.b h.2.2;unfold fnN;omega
section
variable {O:Orc}
attribute [local go_sem] ltF gtF xZ x4 ziJ ziN ziM ziH wZ qu in
theorem zql(h5:O 5=none)(h13:O 13=none)(h14:O 14=none){c:Cd}(hc:LgPre c)(L:List (Nat×Option AObj))(n m:Nat)(b:Bool):
  Cv ((evW env O).call 5 [.agg (wC c)] (KL L n m b [] none)) fun v t=>v=.bool (Wi c)∧t=KL L n m b [] none:=by
 refine vB (F:=f5) h5 rfl rfl (ziw rfl) ?_;obtain⟨R,hR⟩:∃R,Wi c=R:=⟨_,rfl⟩;rw[hR];unfold Wi at hR;obtain⟨c1,c2,c3⟩:LgPre c:=hc
 rename_i ctx
 obtain⟨fs,main,vars,globals,consts⟩:=c;simp only at c1 c2 c3 ctx hR;obtain⟨W,hW⟩:∃W,lgN 110 0 fs=W:=⟨_,rfl⟩;obtain⟨V,hV⟩:∃W,zzS 40 consts=W:=⟨_,rfl⟩;rw[hW,hV]at hR;unfold f5;simp only[wC];refine xQ ?_;refine xQ ?_;refine vM (fun f t=>∃T m',f=⟨tmL T,[]⟩∧t=KL ((n,some (.row 25 (wC ⟨fs,main,vars,globals,consts⟩) false false))::L) (n+1) m' true [] none∧(tmL T).get 1=some (.ptr n 0)∧(tmL T).get 3=some (.int .i64 (.ofNat W))∧m'%2^n=0∧W<1000000000000) ?_ fun f t hI=>?_
 ·refine xR (xO ?_);refine xT ?_;refine wx (fun x:Nat×Nat=>fs.length-x.1) (fun x f t=>∃T m',f=⟨tmL T,[]⟩∧t=KL ((n,some (.row 25 (wC ⟨fs,main,vars,globals,consts⟩) false false))::L) (n+1) m' true [] none∧(tmL T).get 1=some (.ptr n 0)∧(tmL T).get 3=some (.int .i64 (.ofNat x.2))∧(tmL T).get 4=some (.int .i64 (.ofNat x.1))∧m'%2^n=0∧x.1≤fs.length∧x.1≤110∧x.2≤x.1*4000000000∧W=lgN (110-x.1) x.2 (fs.drop x.1)) (fun x f t hI=>?_) (0,0) ⟨_,_,rfl,rfl,sW,sW,sW,by simp,zQ _,zQ _,zQ _,hW.symm⟩
  obtain⟨i,q⟩:=x;obtain⟨T,m',rfl,rfl,t1,t3,t4,hm,hi,hi2,hq,he⟩:=hI;simp only at t3 t4 hi hi2 hq he;simp only[wC];have hqb:q≤440000000000:=zA hq (by have:=yJ 4000000000 hi2;omega)
  rcases wi fs i with ⟨h1,hd⟩|⟨g,h1,hd⟩
  ·rw[hd]at he;have hlt:¬i<fs.length:=oM;have he2:W=q:=by rw[he];cases (110-i)<;>rfl
   clear he hd hR hW hV;subst he2;refine xO ?_;exact⟨_,_,rfl,rfl,sV,sV,hm,oM⟩
  ·by_cases h110:i<110
   ·have hgm:g∈fs:=ziT (by rw[hd];exact zi0)
    have hg:=c3 g hgm;have hgn:=zkz hg;have hdr:=ZO hd;have hsz:=zwY h13 400 g.b (zu _) hg.2.2;have hszl:=HF 400 g.b hg.2.2;rw[hd,show 110-i=(110-(i+1))+1 by omega]at he
    simp only[lgN]at he;unfold fnN at he hgn;obtain⟨gps,grest,gcont,gfr,gb⟩:=g;simp only at hg hgn hsz hszl he;generalize szN 400 gb=z at *;obtain⟨bk,bv,bo,bn,bf,ba,bks⟩:=gb;simp only[wo,xU,qu,zM,ziQ]at hdr;simp only[xU]at hsz;clear hd hgm hR hW hV;refine xO ?_;refine⟨(i+1,q+(z+gps.length+gfr.length)),⟨_,_,rfl,rfl,sV,?_,sV,hm,by simp only;omega,by simp only;omega,by simp only;omega,he⟩,by simp only;omega⟩
    clear he;have e:q+(z+gps.length+gfr.length)=q+z+gps.length+gfr.length:=oM;simp only[e];simp (disch:=first|exact dis|fail)only[go_sem,seval,-rO,-rN]
   ·have he2:W=q:=by rw[he,show 110-i=0 by omega,hd];rfl
    clear he hd hR hW hV;subst he2;refine xO ?_;exact⟨_,_,rfl,rfl,sV,sV,hm,oM⟩
 ·clear hW c3;obtain⟨T,m',rfl,rfl,t1,t3,hm,hWb⟩:=hI;refine xR (xR (xO ?_));refine xT ?_;refine wx (fun i:Nat=>consts.length-i) (fun i f t=>∃T m',f=⟨tmL T,[]⟩∧t=KL ((n,some (.row 25 (wC ⟨fs,main,vars,globals,consts⟩) false false))::L) (n+1) m' true [] none∧(tmL T).get 1=some (.ptr n 0)∧(tmL T).get 3=some (.int .i64 (.ofNat W))∧(tmL T).get 5=some (.int .i64 (.ofNat i))∧m'%2^n=0∧i≤consts.length∧i≤40∧V=zzS (40-i) (consts.drop i)) (fun i f t hI=>?_) 0 ⟨_,_,rfl,rfl,sV,sV,sW,hm,zQ _,zQ _,hV.symm⟩;clear t1 t3 hm hV;obtain⟨T,m',rfl,rfl,t1,t3,t5,hm,hi,hi2,he⟩:=hI;simp only[wC];have hex:V=false→(decide (2000<W)||(decide (100<fs.length)||(decide (30<consts.length)||ltD (.ofNat 1099511627776) vars)))=R:=fun h=>by rw[h,xD]at hR;exact hR
  rcases wi consts i with ⟨h1,hd⟩|⟨d,h1,hd⟩
  ·have he2:V=false:=by rw[he,hd];cases (40-i)<;>rfl
   replace hex:=hex he2;have hlt:¬i<consts.length:=oM;clear he hd he2 hR;refine xO ?_;by_cases e1:2000<W
   ·rw[decide_eq_true e1,ziI]at hex;subst hex;refine xQ ?_;refine wB (r:=.ret) ?_;show Cv _ _;refine xW ?_;exact⟨rfl,rfl⟩
   rw[decide_eq_false e1,xD]at hex;by_cases e2:100<fs.length
   ·rw[decide_eq_true e2,ziI]at hex;subst hex;refine xQ ?_;refine wB (r:=.ret) ?_;show Cv _ _;refine xW ?_;exact⟨rfl,rfl⟩
   rw[decide_eq_false e2,xD]at hex;by_cases e3:30<consts.length
   ·rw[decide_eq_true e3,ziI]at hex;subst hex;refine xQ ?_;refine wB (r:=.ret) ?_;show Cv _ _;refine xW ?_;exact⟨rfl,rfl⟩
   rw[decide_eq_false e3,xD]at hex;cases e4:ltD (.ofNat 1099511627776) vars with
   |true=>
    rw[e4]at hex;subst hex;refine xQ ?_;refine wB (r:=.ret) ?_;show Cv _ _;refine xW ?_;exact⟨rfl,rfl⟩
   |false=>
    rw[e4]at hex;subst hex;refine xQ ?_;refine wB (r:=.ret) ?_;show Cv _ _;refine xW ?_;exact⟨rfl,rfl⟩
  ·by_cases h40:i<40
   ·have hdm:d∈consts:=ziT (by rw[hd];exact zi0)
    have hdt:=QT ctx hdm;have hpt:=PS h14 60 d (zu _) hdt;have hcut:=Xf hd;rw[←qE]at hcut;rw[hd,show 40-i=(40-(i+1))+1 by omega]at he
    simp only[zzS]at he;generalize ptN 60 d=z at *;obtain⟨dk,dn,dt,ds,dp⟩:=d;simp only[wD]at hpt hcut;clear hd hdm hdt;by_cases hz:300<z
    ·rw[decide_eq_true hz,ziI]at he;have hR2:R=true:=by rw[←hR,he];rfl
     subst hR2;clear he hR hex;refine xO ?_;refine xW ?_;exact⟨rfl,rfl⟩
    ·rw[decide_eq_false hz,xD]at he;clear hR hex;refine xO ?_;exact⟨i+1,⟨_,_,rfl,rfl,sV,sV,sV,hm,oM,oM,he⟩,oM⟩
   ·have he2:V=false:=by rw[he,show 40-i=0 by omega,hd];rfl
    replace hex:=hex he2;clear he hd he2 hR;refine xO ?_;by_cases e1:2000<W
    ·rw[decide_eq_true e1,ziI]at hex;subst hex;refine xQ ?_;refine wB (r:=.ret) ?_;show Cv _ _;refine xW ?_;exact⟨rfl,rfl⟩
    rw[decide_eq_false e1,xD]at hex;by_cases e2:100<fs.length
    ·rw[decide_eq_true e2,ziI]at hex;subst hex;refine xQ ?_;refine wB (r:=.ret) ?_;show Cv _ _;refine xW ?_;exact⟨rfl,rfl⟩
    rw[decide_eq_false e2,xD]at hex;by_cases e3:30<consts.length
    ·rw[decide_eq_true e3,ziI]at hex;subst hex;refine xQ ?_;refine wB (r:=.ret) ?_;show Cv _ _;refine xW ?_;exact⟨rfl,rfl⟩
    rw[decide_eq_false e3,xD]at hex;cases e4:ltD (.ofNat 1099511627776) vars with
    |true=>
     rw[e4]at hex;subst hex;refine xQ ?_;refine wB (r:=.ret) ?_;show Cv _ _;refine xW ?_;exact⟨rfl,rfl⟩
    |false=>
     rw[e4]at hex;subst hex;refine xQ ?_;refine wB (r:=.ret) ?_;show Cv _ _;refine xW ?_;exact⟨rfl,rfl⟩
end
section
variable {c:Cd}{fr:List (List Int)}{kn nm:List (Int×Int)}
mutual
theorem PH:∀t:Trm,wJ (tmF c fr kn nm t)=wJ t
 |.mk k v op n f as ks=>by simp only[tmF,wJ,KO ks]
theorem KO:∀ks:List Trm,qo (jN c fr kn nm ks)=qo ks
 |[]=>by simp only[jN,qo]
 |x::r=>by simp only[jN,qo,PH x,KO r]
end
theorem zwf(B:Nat)(hB:∀l∈fr,l.length≤B){k fn:Int}{as:List Atm}:(hdF c fr kn nm k fn as).2.2.length≤as.length+B:=by
 rw[He,yA,zhg];cases eqD k (.ofNat 2)with
 |false=>simp only[cond_false,xz];omega
 | true=>
  simp only[cond_true,zhg];have:(fr.getD fn.toNat []).length≤B:=by
   rw[xe];cases e:fr[fn.toNat]? with
   |none=>simp
   |some l=>exact hB l (xq e)
  omega
mutual
theorem zzx(B:Nat)(hB:∀l∈fr,l.length≤B):∀t:Trm,(q9 (tmF c fr kn nm t)).length≤(q9 t).length+wJ t*B
 |.mk k v op n f as ks=>by
  simp only[tmF,q9,wJ,yA,zhg,yE,zhf];have h1:= @zwf c fr kn nm B hB k f as;have h2:=Gr B hB ks;omega
theorem Gr(B:Nat)(hB:∀l∈fr,l.length≤B):∀ks:List Trm,(jw (jN c fr kn nm ks)).length≤(jw ks).length+qo ks*B
 |[]=>by simp only[jN,jw,qo,xz];omega
 |x::r=>by
  simp only[jN,jw,qo,yA,yE];have h1:=zzx B hB x;have h2:=Gr B hB r;omega
end
mutual
theorem zp1(B:Nat)(hB:∀l∈fr,l.length≤B)(hb:B<100000):∀t:Trm,SzT t→(q9 t).length<100000→SzT (tmF c fr kn nm t)
 |.mk k v op n f as ks,h,hu=>by
  simp only[SzT]at h;simp only[q9,yA,zhg]at hu;simp only[tmF,SzT];have h1:= @zwf c fr kn nm B hB k f as;have h2:=zw2 B hB hb ks h.2.2 oM;exact⟨oM,by rw[h2.2];exact h.2.1,h2.1⟩
theorem zw2(B:Nat)(hB:∀l∈fr,l.length≤B)(hb:B<100000):∀ks:List Trm,hZ ks→(jw ks).length<100000→hZ (jN c fr kn nm ks)∧(jN c fr kn nm ks).length=ks.length
 |[],_,_=>by simp only[jN,hZ,and_self]
 |x::r,h,hu=>by
  simp only[hZ]at h;simp only[jw,yA]at hu;simp only[jN,hZ,yb];have h1:=zp1 B hB hb x h.1 oM;have h2:=zw2 B hB hb r h.2 oM;exact⟨⟨h1,h2.1⟩,by rw[h2.2]⟩
end
end
theorem Us{b:Int}:∀(n:Nat) (t:Trm),wJ (ug b n t)=n+wJ t
 |0,t=>by simp only[ug];omega
 |n+1,t=>by simp only[ug,Us n,wJ,qo];omega
theorem UY{b:Int}:∀(n:Nat) (t:Trm),q9 (ug b n t)=q9 t
 |0,t=>by simp only[ug]
 |n+1,t=>by simp only[ug,UY n,q9,jw,yN,ziQ,ziA]
theorem zzi{b:Int}:∀(n:Nat) (t:Trm),SzT t→SzT (ug b n t)
 |0,t,h=>h
 |n+1,t,h=>by
  simp only[ug];refine zzi n _ ?_;simp only[SzT,hZ,xz,yb,and_true];exact⟨oM,oM,h⟩
structure SmC(c:Cd):Prop where
 nf:c.fs.length≤100
 nc:c.consts.length≤30
 vs:c.vars≤.ofNat 1099511627776
 nd:∀d∈c.consts,wI d≤300
 fn:∀f∈c.fs,wJ f.b≤2000∧f.ps.length≤2000∧f.fr.length≤2000
 us:(jl c).length≤2000
 ns:(c.fs.map fun f=>wJ f.b).sum≤2000
theorem zwj:∀(fs:List Fn) (k n:Nat),fs.length≤k→lgN k n fs=n+(fs.map fnN).sum
 |[],k,n,_=>by cases k<;>simp[lgN]
 |f::r,0,n,h=>by simp at h
 |f::r,k+1,n,h=>by
  simp only[lgN];rw[zwj r k _ (by simpa using h)]
  simp only[zD,zhh];omega
theorem zw0{α:Type}{F:α→Nat}:∀{l:List α} {x:α},x∈l→F x≤(l.map F).sum
 |y::r,x,h=>by
  simp only[zD,zhh];rcases List.mem_cons.1 h with rfl|h
  ·omega
  ·have:=zw0 (F:=F) h;omega
theorem zxq{α:Type}{F G:α→Nat}:∀{l:List α},(∀x∈l,F x≤G x)→(l.map F).sum≤(l.map G).sum
 |[],_=>zu _
 |y::r,h=>by
  simp only[zD,zhh];have h1:=h y (by simp)
  have h2:=zxq (l:=r) fun x hx=>h x (by simp[hx])
  omega
theorem HX:∀(l:List DT) (k:Nat),l.length≤k→zzS k l=false→∀d∈l,wI d≤300
 |[],_,_,_,d,h=>by cases h
 |x::r,0,hl,_,_,_=>by simp at hl
 |x::r,k+1,hl,hb,d,h=>by
  simp only[zzS,yY,decide_eq_false_iff_not]at hb;rcases List.mem_cons.1 h with rfl|h
  ·exact zA (K4 60 d oM) oM
  ·exact HX r k (by simpa using hl) hb.2 d h
theorem zuE{c:Cd}(h:Wi c=false):SmC c:=by
 unfold Wi at h;simp only[yY,decide_eq_false_iff_not]at h;obtain⟨h1,h2,h3,h4,h5⟩:=h;rw[zwj c.fs 110 0 oM,yO]at h2;have hf:∀f∈c.fs,wJ f.b+(q9 f.b).length≤szN 400 f.b∧szN 400 f.b≤2000∧f.ps.length≤2000∧f.fr.length≤2000:=fun f hf=>by
  have:=zw0 (F:=fnN) hf;unfold fnN at this h2;have hs:szN 400 f.b≤2000:=oM;exact⟨Gj 400 f.b oM,hs,oM,oM⟩
 refine⟨oM,oM,?_,HX c.consts 40 oM h1,fun f hm=>?_,?_,?_⟩
 ·unfold ltD at h5;rw[decide_eq_false_iff_not]at h5;exact Int.not_lt.1 h5
 ·obtain⟨q1,q2,q3,q4⟩:=hf f hm;exact⟨oM,q3,q4⟩
 ·have h6:(jl c).length=(c.fs.map fun f=>(q9 f.b).length).sum:=by
   unfold jl;rw[zho,zhl];rfl
  have h7:=zxq (l:=c.fs) (F:=fun f=>(q9 f.b).length) (G:=fnN) fun f hm=>by
   obtain⟨q1,_⟩:=hf f hm;unfold fnN;omega
  omega
 ·have h7:=zxq (l:=c.fs) (F:=fun f=>wJ f.b) (G:=fnN) fun f hm=>by
   obtain⟨q1,_⟩:=hf f hm;unfold fnN;omega
  omega
theorem KP{B:Nat}:∀{l:List DT},(∀d∈l,wI d≤B)→w9 l≤l.length*B
 |[],_=>by simp[w9]
 |x::r,h=>by
  simp only[w9,yb,yE,zhf];have h1:=h x (by simp)
  have h2:=KP (l:=r) fun d hd=>h d (by simp[hd])
  omega
theorem zlO{c:Cd}(h:SmC c)(hl:LgPre c):CsPre 301 c.consts:=by
 refine⟨hl.tx,fun d hd=>by have:=h.nd d hd;omega,?_⟩
 have h1:=KP h.nd;have h2:=yJ 300 h.nc;omega
theorem zk9{c:Cd}(h:SmC c)(hl:LgPre c):CvArg 301 c:=by
 have hus:=h.us;have hv:=h.vs;have e1:(zG 1099511627776)< .ofNat 2000000000000000000:=by decide
 have e2:(zG 1099511627776)< .ofNat 9223372036854775808:=by decide
 exact⟨⟨⟨zlO h hl,⟨hl.nf,hl.f⟩⟩,fun f hf=>by have:=(h.fn f hf).1;omega,oM,oM⟩,oM,oM,hl.nc⟩
theorem zmT{c:Cd}(h:SmC c):∀l∈(wz c).map wE,l.length≤2000:=fun l hl=>by
 obtain⟨s,hs,rfl⟩:=List.mem_map.1 hl;rw[lP];have hS:SOk (jl c) c.fs.length (wz c):=gA c (Yp c);obtain⟨j,hj,e⟩:=zhk hs;have e2:(wz c).getD j []=s:=by rw[xe,yH hj,e];rfl
 have h1:=hS.sub j;have h2:=hS.nd j;rw[e2]at h1 h2;have:=Zr h2 h1;have:=h.us;omega
theorem Pd{c:Cd}{fr:List (List Int)}{kn:List (Int×Int)}{B:Nat}(hB:∀l∈fr,l.length≤B):∀(fs:List Fn) (ls:List (List Int)) (b:Int),((gw c fr kn fs ls b).map fun f=>(q9 f.b).length).sum≤(fs.map fun f=>(q9 f.b).length+wJ f.b*B).sum
 |[],ls,b=>by cases ls<;>simp[gw]
 |f::r,[],b=>by simp[gw]
 |f::r,l::ls,b=>by
  simp only[gw,zD,zhh,UY];have h1:=zzx (c:=c) (fr:=fr) (kn:=kn) (nm:=pJ b l 0 []) B hB f.b;have h2:=Pd (c:=c) (kn:=kn) hB r ls (b+ .ofNat l.length);omega
theorem zwZ{α:Type}{F G:α→Nat}(B:Nat):∀l:List α,(l.map fun x=>F x+G x*B).sum=(l.map F).sum+(l.map G).sum *B
 |[]=>by simp
 |x::r=>by
  simp only[zD,zhh,zwZ B r,yE];omega
theorem LS{B:Nat}:∀(ls:List (List Int)) (b:Int),(∀l∈ls,l.length≤B)→pG ls b≤b+ .ofNat (ls.length*B)
 |[],b,_=>by simp only[pG];have:(0:Int)≤.ofNat (([]:List (List Int)).length *B):=zP _;omega
 |l::r,b,h=>by
  simp only[pG,yb,yE,zhf];have h1:=LS r (b+ .ofNat l.length) fun x hx=>h x (by simp[hx])
  have h2:=h l (by simp)
  have h3:zG (r.length*B+B)=zG (r.length*B)+zG B:=rfl;have h4:zG l.length≤zG B:=Int.ofNat_le.2 h2;omega
theorem zpV{c:Cd}{kn:List (Int×Int)}(h:SmC c)(hl:LgPre c):ChPre 301 (cnv c kn):=by
 have hB:=zmT h;have hus:=h.us;have hns:=h.ns;have huc:(jl c).length=(c.fs.map fun f=>(q9 f.b).length).sum:=by
  unfold jl;rw[zho,zhl];rfl
 have hfn:∀f∈(cnv c kn).fs,∃g∈c.fs,∃bj n nm,n≤2000∧f.ps=g.ps∧f.fr.length≤2000∧f.b=ug bj n (tmF c ((wz c).map wE) kn nm g.b):=fun f hf=>by
  obtain⟨j,hj,e⟩:=zhk hf;have hjl:j<c.fs.length:=by rwa [kJ]at hj
  have hg:=yH hjl;obtain⟨bj,b1,b2,b3⟩:=Xd (c:=c) (kn:=kn) hg;rw[yH hj,e,Option.some.injEq]at b3;have hsl:(wE ((wz c).getD j [])).length=((wz c).getD j []).length:=lP _;have hle:(wE ((wz c).getD j [])).length≤2000:=by
   rw[←ji,xe];cases e2:((wz c).map wE)[j]? with
   |none=>simp
   |some l=>exact hB l (xq e2)
  subst b3;exact⟨c.fs[j],zi4 hjl,bj,_,_,by rw[←hsl];exact hle,rfl,hle,rfl⟩
 refine⟨⟨zlO (c:=c) h hl,⟨by rw[kJ];exact hl.nf,fun f hf=>?_⟩⟩,fun f hf=>?_,?_,?_⟩
 ·obtain⟨g,hg,bj,n,nm,h1,h2,h3,h4⟩:=hfn f hf;have hs:=hl.f g hg;have hu:=zzw hg;refine⟨by rw[h2];exact hs.1,oM,?_⟩
  rw[h4];exact zzi n _ (zp1 2000 hB oM g.b hs.2.2 oM)
 ·obtain⟨g,hg,bj,n,nm,h1,h2,h3,h4⟩:=hfn f hf;have:=(h.fn g hg).1;rw[h4,Us,PH];omega
 ·have h1:(jl (cnv c kn)).length=((cnv c kn).fs.map fun f=>(q9 f.b).length).sum:=by
   unfold jl;rw[zho,zhl];rfl
  have h2:=Pd (c:=c) (kn:=kn) hB c.fs ((wz c).map wE) c.vars;rw[zwZ]at h2;have h3:=yJ 2000 hns;rw[h1];refine zhm h2 ?_;omega
 ·have h1:=LS _ c.vars hB;have hv:=h.vs;have h2:((wz c).map wE).length *2000≤100*2000:=yJ _ (by rw[Uq];exact h.nf)
  have h3:zG (((wz c).map wE).length *2000)≤zG (100*2000):=Int.ofNat_le.2 h2;show pG ((wz c).map wE) c.vars<_;have e1:(zG 1099511627776)+zG (100*2000)< .ofNat 9223372036854775808:=by decide
  omega
set_option maxRecDepth 1000000
theorem zl8(h:ki P E)(p:Nat→Bool)(u:Bool):ki P {E with pure:=p,um:=u}:=h
def zl9:Env:={env with pure:=fun _=>false,um:=false}
theorem zo8(h:ki P env):ki P zl9:=zl8 h (fun _=>false) false
theorem zlX:okV (.bool true) ((evT zl9 noO 100000).call 6 [] s0)=true:=by decide+kernel
noncomputable def zrR:List AV→St→Option (AV×St):=vF (fun _:Unit=>[]) (fun _=>True) (fun _=>.bool true)
theorem ztY(h:O 6=some zrR)(s:St):(evW env O).call 6 [] s=some (.bool true,s):=by
 rw[wN h,zrR,qP (fun _ _ _=>rfl) s () trivial rfl]
theorem zlY(B:Bx P w0):∃s1,SC P w0 6 [] (s00 0 false) (.bool true) s1:=
 zlM (E:=zl9) (n:=100000) (pj P w0) B.mixed B.glob (zo8 B.env) zlX
theorem zvg(B:Bx P w0)(hO:OrcOk P w0 O):OrcOk P w0 (withG 6 zrR O):=
 hO.withG lJ (Wh false (fun _=>rfl) (fun _=>rfl) fun _ _=>zlY B)
theorem zpY:wE []=[]:=yF (lP [])
theorem zvJ{c:Cd}{kn:List (Int×Int)}(h0:jE P w0 c=.ofNat 0)(hk:gY c.fs []=some kn):jE P w0 (cnv c kn)=.ofNat 0∧WX P w0 (cnv c kn)=List.replicate c.fs.length []:=by
 obtain⟨he,ho,hc⟩:=GL h0;obtain⟨hw,hn,g1,g2,g3⟩:=kl he;have hv0:0≤c.vars:=by
  unfold ltD at g3;rw[decide_eq_false_iff_not]at g3;exact Int.not_lt.1 g3
 obtain⟨q1,q2,q3⟩:=zl5 (c:=c) (kn:=kn) ⟨hw,ho,hk,hc,hv0⟩;have hve:ltD (cnv c kn).vars (.ofNat 0)=false:=by
  unfold ltD;rw[decide_eq_false_iff_not];have:=zxW c kn;exact Int.not_lt.2 (Int.le_trans hv0 this)
 have hea:uW P w0 (cnv c kn)=.ofNat 0:=by
  unfold uW;rw[show (cnv c kn).globals=c.globals from rfl,show (cnv c kn).consts=c.consts from rfl,g1,g2,hve,hn,q1];rfl
 refine⟨?_,?_⟩
 ·unfold jE;rw[hea,q2,q3];rfl
 ·unfold WX;rw[hea,Lw,List.map_replicate,zpY];rfl
theorem zoZ{c:Cd}{kn:List (Int×Int)}{i:Nat}{f:Fn}{r:List Fn}(h:(cnv c kn).fs.drop i=f::r):∃l r2,((wz c).map wE).drop i=l::r2∧f.fr.length=l.length:=by
 have hi:i<(cnv c kn).fs.length:=by
  have:=congrArg xj h;simp only[List.length_drop,yb]at this;omega
 have hjl:i<c.fs.length:=by rwa [kJ]at hi
 have hg:=yH hjl;obtain⟨bj,b1,b2,b3⟩:=Xd (c:=c) (kn:=kn) hg;have e:(cnv c kn).fs[i]? =some f:=by rw[←List.head?_drop,h];rfl
 rw[e,Option.some.injEq]at b3;have hl:i<((wz c).map wE).length:=by rw[Uq];exact hjl
 refine⟨_,_,ziO hl,?_⟩;subst b3;show (wE ((wz c).getD i [])).length=_;rw[←ji,xe,yH hl];rfl
section
variable {P:Program}{w0:World}(B:Bx P w0){O:Orc}(hO:OrcOk P w0 O)
include B hO
attribute [local go_sem] ltF gtF xZ x4 ziJ ziN ziM ziH wZ qu in
theorem zvI(h5:O 5=none)(h13:O 13=none)(h14:O 14=none)(h6:O 6=some zrR)(h7:O 7=some (zrS P w0 301))(h11:O 11=some (G3 P w0 301))(h12:O 12=some (zrT P w0 301)){c:Cd}(hc:LgPre c):∃s1,SC P w0 4 (qI c) (s00 0 true) (.bool true) s1:=by
 refine bew B hO f4 ?_;have haw:=fun s=>ztY h6 s;have hla:=fun L n m b=>zql h5 h13 h14 hc L n m b;cases hl:Wi c with
 |true=>
  simp only[hl]at hla;obtain⟨fs,main,vars,globals,consts⟩:=c;unfold f4;simp only[qI,vd,wC]at hla⊢;refine xQ ?_;refine xR (xR (qt ?_));refine wc (hla _ _ _ _) fun v t hv=>?_;obtain⟨rfl,rfl⟩:=hv;clear hla;refine xO ?_;refine xO ?_;refine xW ?_;exact w8 _ _
 | false=>
  have hsm:=zuE hl;have harg:=zk9 hsm hc;simp only[hl]at hla;have hcv:=fun s=>oc h7 vJ c harg (uC c) s;have hch:=fun s=>oc h11 vJ c harg.ch (uC c) s;have hfr:=fun s=>oc h12 vJ c harg.ch (uC c) s;unfold zyb at hcv;cases he:eqD (jE P w0 c) (.ofNat 0)with
  | false=>
   rw[he]at hcv;simp only[cond_false,HO]at hcv;clear hfr;generalize jE P w0 c=e at *;obtain⟨fs,main,vars,globals,consts⟩:=c;unfold f4;simp only[qI,vd,wC,xP,xz,jW]at hla hcv hch⊢;refine xQ ?_;refine xR (xR (qt ?_));refine wc (hla _ _ _ _) fun v t hv=>?_;obtain⟨rfl,rfl⟩:=hv;clear hla;refine xO ?_;refine xO ?_;refine xQ ?_;refine xR (xQ ?_);refine qW sV ?_;have hee:eqD e e=true:=eqT.2 rfl;cases c2:eqD e (.ofNat 2)with
   |true=>
    refine xO ?_;refine xW ?_;exact w8 _ _
   |false=>
    refine xO ?_;refine xW ?_;exact w8 _ _
  | true=>
   have he0:=eqT.1 he;rw[he]at hcv;simp only[cond_true]at hcv;cases hk:gY c.fs []with
   |none=>
    rw[hk]at hcv;simp only[HO]at hcv;clear hfr hch he he0;obtain⟨fs,main,vars,globals,consts⟩:=c;unfold f4;simp only[qI,vd,wC,xP,xz,jW]at hla hcv⊢;refine xQ ?_;refine xR (xR (qt ?_));refine wc (hla _ _ _ _) fun v t hv=>?_;obtain⟨rfl,rfl⟩:=hv;clear hla;refine xO ?_;refine xO ?_;refine xQ ?_;refine xR (xQ ?_);refine qW sV ?_;refine xO ?_;refine xW ?_;exact w8 _ _
   | some kn=>
    rw[hk]at hcv;simp only at hcv;obtain⟨hd1,hd2⟩:=zvJ (P:=P) (w0:=w0) he0 hk;have hchd:=fun s=>oc h11 vJ (cnv c kn) (zpV hsm hc) (uC _) s;have hfrd:=fun s=>oc h12 vJ (cnv c kn) (zpV hsm hc) (uC _) s;rw[Pf (GL he0).1]at hfr;rw[hd1]at hchd;rw[hd2]at hfrd;have hdl:(cnv c kn).fs.length=c.fs.length:=kJ;have hfrs:=fun{i f r} (h:(cnv c kn).fs.drop i=f::r)=>zoZ h;have hml:((wz c).map wE).length=c.fs.length:=Uq;have hnf:=hc.nf;clear hd1 hd2 hch he he0 hl hk;generalize cnv c kn=D at *;generalize (wz c).map wE=F at *;obtain⟨fs,main,vars,globals,consts⟩:=c;obtain⟨dfs,dmain,dvars,dglobals,dconsts⟩:=D;simp only at hdl hml hnf hfrs;unfold f4;simp only[qI,vd,wC,jj,List.length_replicate]at hla hcv hfr hchd hfrd⊢;rw[hml]at hfr;rw[hdl]at hcv hchd hfrd;refine xQ ?_;refine xR (xR (qt ?_));refine wc (hla _ _ _ _) fun v t hv=>?_;obtain⟨rfl,rfl⟩:=hv;clear hla;refine xO ?_;refine xO ?_;refine xQ ?_;refine xR (xO ?_);refine xQ ?_;obtain⟨r1,hr1⟩:∃r,(AObj.row 25 [.lst fs.length false (xP wo dfs),.int .i64 dmain,.int .i64 dvars,.int .i64 dglobals,.lst dconsts.length false (wa dconsts)] false false)=r:=⟨_,rfl⟩;obtain⟨r0,hr0⟩:∃r,(AObj.row 25 [.lst fs.length false (xP wo fs),.int .i64 main,.int .i64 vars,.int .i64 globals,.lst consts.length false (wa consts)] false false)=r:=⟨_,rfl⟩;refine vM (fun f t=>∃T L m,f=⟨tmL T,[]⟩∧t=KL L 2 m false [] none∧xN L 1=some r1∧xN L 0=some r0∧(tmL T).get 1=some (.ptr 0 0)∧(tmL T).get 3=some (.ptr 1 0)∧(tmL T).get 5=some (.lst fs.length false (xP qY (zhi fs.length [])))) ?_ fun f t hI=>?_
    ·refine xR (xO ?_);refine xT ?_;refine wx (fun i:Nat=>fs.length-i) (fun i f t=>∃T L m,f=⟨tmL T,[]⟩∧t=KL L 2 m false [] none∧xN L 1=some r1∧xN L 0=some r0∧(tmL T).get 1=some (.ptr 0 0)∧(tmL T).get 3=some (.ptr 1 0)∧(tmL T).get 5=some (.lst fs.length false (xP qY (zhi fs.length [])))∧(tmL T).get 6=some (.int .i64 (.ofNat i))∧i≤fs.length) (fun i f t hI=>?_) 0 ⟨_,_,_,rfl,rfl,sW,sW,sW,sW,sW,sW,zQ _⟩;clear hcv hfr hchd hfrd hfrs;obtain⟨T,L,m,rfl,rfl,g1,g0,t1,t3,t5,t6,hi⟩:=hI;clear hr1 hr0;by_cases hlt:i<fs.length
     ·obtain⟨r,hd⟩:∃r,(zhi fs.length ([]:List Int)).drop i=[]::r:=by
       rw[List.drop_replicate];obtain⟨k,hk⟩:∃k,fs.length-i=k+1:=⟨fs.length-i-1,oM⟩;rw[hk];exact⟨_,rfl⟩
      have hcut:=Yu hd;simp only[qu,xz,xP]at hcut;clear hd;refine xO ?_;exact⟨i+1,⟨_,L,_,rfl,rfl,g1,g0,sV,sV,sV,sV,oM⟩,oM⟩
     ·refine xO ?_;exact⟨_,L,_,rfl,rfl,g1,g0,sV,sV,sV⟩
    ·obtain⟨T,L,m,rfl,rfl,g1,g0,t1,t3,t5⟩:=hI;rw[←hr1]at g1;rw[←hr0]at g0;clear hr1 hr0 hcv hfrd;refine xQ ?_;refine vM (fun f t=>∃T m,f=⟨tmL T,[]⟩∧t=KL L 2 m false [] none∧(tmL T).get 1=some (.ptr 0 0)∧(tmL T).get 3=some (.ptr 1 0)∧(tmL T).get 5=some (.lst fs.length false (xP qY (zhi fs.length [])))) ?_ fun f t hI=>?_
     ·refine xR (xO ?_);refine xT ?_;refine wx (fun i:Nat=>fs.length-i) (fun i f t=>∃T m,f=⟨tmL T,[]⟩∧t=KL L 2 m false [] none∧(tmL T).get 1=some (.ptr 0 0)∧(tmL T).get 3=some (.ptr 1 0)∧(tmL T).get 5=some (.lst fs.length false (xP qY (zhi fs.length [])))∧(tmL T).get 7=some (.lst fs.length false (xP qY F))∧(tmL T).get 8=some (.int .i64 (.ofNat i))∧i≤fs.length) (fun i f t hI=>?_) 0 ⟨_,_,rfl,rfl,sV,sV,sV,sV,sV,zQ _⟩;clear hfr hchd t1 t3 t5;obtain⟨T,m,rfl,rfl,t1,t3,t5,t7,t8,hi⟩:=hI;by_cases hlt:i<fs.length
      ·obtain⟨f,r,hd⟩:∃f r,dfs.drop i=f::r:=⟨_,_,ziO oM⟩;obtain⟨l,r2,hl,hll⟩:=hfrs hd;have hcut:=Yu hl;have hdr:=ZO hd;obtain⟨fps,frest,fcont,ffr,⟨bk,bv,bo,bn,bf,ba,bks⟩⟩:=f;simp only at hll;simp only[wo,xU,qu,zM,ziQ,hll]at hdr hcut;clear hd hl hfrs;refine xO ?_;exact⟨i+1,⟨_,_,rfl,rfl,sV,sV,sV,sV,sV,oM⟩,oM⟩
      ·clear hfrs;refine xO ?_;exact⟨_,_,rfl,rfl,sV,sV,sV⟩
     ·clear t1 t3 t5;obtain⟨T,m,rfl,rfl,t1,t3,t5⟩:=hI;clear hfrs hfr;refine xO ?_;refine xW ?_;exact w8 _ _
end
theorem Qs{α:Type}{f:Nat}{enc:α→List AV}{Pre:α→Prop}{F:α→AV}(hO:OrcOk P w0 O)(hp1:∀x,xY (enc x)=true)(hp2:∀x,wq (F x)=true)(h:∀x,Pre x→SC P w0 f (enc x) (H [] 0 true) (F x) (H [] 0 true)):OrcOk P w0 (withG f (vF enc Pre F) O):=
 hO.withG lJ (Wh true hp1 hp2 fun x hx=>⟨_,h x hx⟩)
theorem kn{f:Nat}{α:Type}{enc:α→List AV}{Pre:α→Prop}{F:α→AV}(hO:OrcOk P w0 O)(hp1:∀x,xY (enc x)=true)(hp2:∀x,wq (F x)=true)(h:∀x,Pre x→∃s1,SC P w0 f (enc x) (s00 0 true) (F x) s1):OrcOk P w0 (withG f (vF enc Pre F) O):=hO.withG lJ (Wh true hp1 hp2 h)
theorem ke{f:Nat}{α:Type}{enc:α→List AV}{Pre:α→Prop}{Good:α→AV→Prop}(hO:OrcOk P w0 O)(he:∀x,xY (enc x)=true)(h:Y0 P w0 f enc Pre Good):OrcOk P w0 (withG f (Qv P w0 f enc Pre Good) O):=hO.withG lJ (zul he h)
theorem zo7(c:Int):xY (zyv c)=true:=rfl
noncomputable def oA:Orc:=withG 108 gIs (withG 173 Pl (withG 172 gIx (withG 115 zrU noO)))
noncomputable def oB:Orc:=withG 158 gDr (withG 107 Pk oA)
noncomputable def oC:Orc:=withG 137 znX oB
noncomputable def oD:Orc:=withG 109 V6 oC
noncomputable def oE:Orc:=withG 84 zx7 oD
noncomputable def oN0:Orc:=withG 63 (Pj 301) oE
section
variable {P:Program}{w0:World}(B:Bx P w0)
include B
theorem zjN:OrcOk P w0 oA:=by
 have h0:=pj P w0;have h1:OrcOk P w0 (withG 115 zrU _):=Qs h0 km zqf fun x hx=>zqg B h0 rfl x hx;have h4:OrcOk P w0 (withG 172 gIx _):=Qs h1 zv2 (fun _=>rfl) fun x hx=>zjI B h0 rfl x hx.1 hx.2;have h5:OrcOk P w0 (withG 173 Pl _):=Qs h4 X5 Vy fun x hx=>by
  obtain⟨b0,r,rfl,hb,h1,h2⟩:=hx;exact zmR B h0 b0 r hb h1 h2
 exact Qs h5 zo7 (fun _=>rfl) fun x _=>zjH B h0 rfl x
theorem zlC:OrcOk P w0 oB:=by
 have h0:=zjN B;have h4:OrcOk P w0 (withG 107 Pk _):=Qs h0 ZQ (fun _=>rfl) fun x hx=>zvP B h0 rfl rfl rfl rfl rfl rfl x hx.1 hx.2;exact Qs h4 X5 Vy fun x hx=>zjC B h0 rfl x hx.1 hx.2.1 hx.2.2
theorem zlD:OrcOk P w0 oC:=Qs (zlC B) X5 zvd fun x hx=>zlV B (zlC B) rfl rfl x hx.1 hx.2
theorem zlE:OrcOk P w0 oD:=Qs (zlD B) ZQ Lx fun x hx=>zsy B (zlD B) rfl x hx.1 hx.2
theorem zlF:OrcOk P w0 oE:=Qs (zlE B) km (fun _=>rfl) fun x hx=>zoK B (zlE B) rfl rfl rfl x hx
theorem zwq:∀(N:Nat),N≤100000→OrcOk P w0 (withG 63 (Pj N) oE)
 |0,_=>Qs (zlF B) km (fun _=>rfl) fun x hx=>absurd hx.2 (Nat.not_lt_zero _)
 |N+1,h=>by
  have ih:=zwq N oM;have hi:OrcOk P w0 (withG 106 (znY N) (withG 63 (Pj N) oE)):=Qs ih zyx (fun _=>rfl) fun x hx=>zkE B ih rfl rfl oM x hx.1 hx.2;exact Qs (zlF B) km (fun _=>rfl) fun x hx=>zkI B hi rfl rfl rfl rfl rfl x hx.1 hx.2
theorem zkR:OrcOk P w0 oN0:=zwq B 301 oM
end
noncomputable def oG1:Orc:=withG 139 Wa (withG 161 zuv oN0)
noncomputable def oG2:Orc:=withG 141 zx9 (withG 140 zrY (withG 138 gTl oG1))
noncomputable def oG3:Orc:=withG 145 QM (withG 113 V5 (withG 110 zrW oG2))
noncomputable def oG4(P:Program)(w0:World):Orc:=withG 64 (Qv P w0 64 vr WF GPl) (withG 142 (Qv P w0 142 uc lw GSm) (withG 164 (Qv P w0 164 uc lw GSm) oG3))
noncomputable def oW1:Orc:=withG 147 zyR (withG 66 ph (withG 132 zrX noO))
noncomputable def oW2:Orc:=withG 89 G9 (withG 118 zyQ oW1)
noncomputable def oG5(P:Program)(w0:World):Orc:=withG 46 zrZ (oG4 P w0)
noncomputable def oB1:Orc:=withG 71 pi noO
noncomputable def oF(P:Program)(w0:World):Orc:=withG 33 uP (withG 30 (G8 P w0 301) (withG 31 zrV (withG 48 (YC 900000000) oB1)))
noncomputable def oH(P:Program)(w0:World):Orc:=withG 12 (zrT P w0 301) (withG 11 (G3 P w0 301) noO)
noncomputable def oK(P:Program)(w0:World):Orc:=withG 22 G7 (withG 18 G6 (withG 20 (gCl (TmP 900000001) tmX) (oH P w0)))
noncomputable def oL(P:Program)(w0:World):Orc:=withG 6 zrR (withG 7 (zrS P w0 301) (oH P w0))
section
variable {P:Program}{w0:World}(B:Bx P w0)
include B
theorem zkN:OrcOk P w0 oG1:=by
 have h0:=zkR B;have h1:OrcOk P w0 (withG 161 zuv _):=h0.withG lJ (zuI B h0);exact kn h1 zv0 (fun x=>by simp only[va,qe]) fun x hx=>zok B h1 x hx
theorem zkO:OrcOk P w0 oG2:=by
 have h0:=zkN B;have h1:OrcOk P w0 (withG 138 gTl _):=kn h0 (fun _=>rfl) (fun _=>rfl) fun x hx=>zj7 B h0 rfl rfl rfl x hx;have h2:OrcOk P w0 (withG 140 zrY _):=kn h1 LO (fun x=>by simp only[va,qe]) fun x hx=>zk4 B h1 x hx
 exact kn h2 zyA (fun x=>pZ _ _) fun x hx=>zm3 B h2 rfl x hx
theorem zqN:OrcOk P w0 oG3:=by
 have h0:=zkO B;have h1:OrcOk P w0 (withG 110 zrW _):=kn h0 ZQ (fun x=>by simp only[zy4,uQ,wp,pZ,vb,wA,Bool.and_self]) fun x hx=>zkW B h0 rfl rfl rfl rfl x hx.1 hx.2
 have h2:OrcOk P w0 (withG 113 V5 _):=kn h1 ZQ (fun x=>YJ _) fun x hx=>zsw B h1 rfl x hx;exact kn h2 zyB YJ fun x hx=>zvH B h2 x hx
theorem zlP:Y0 P w0 164 uc lw GSm:=zpW B (zqN B) rfl rfl rfl
theorem zqT:OrcOk P w0 (withG 164 (Qv P w0 164 uc lw GSm) oG3):=ke (zqN B) VI (zlP B)
theorem zlA:Y0 P w0 142 uc lw GSm:=zky B (zqT B) rfl (zlP B)
theorem zlK:Y0 P w0 64 vr WF GPl:=zpo B (pj P w0) rfl rfl rfl rfl
theorem zkP:OrcOk P w0 (oG4 P w0):=ke (ke (zqT B) VI (zlA B)) km (zlK B)
theorem zkS:OrcOk P w0 oW2:=by
 have h0:=pj P w0;have h1:OrcOk P w0 (withG 132 zrX _):=kn h0 VK (fun _=>rfl) fun x _=>zmB B h0 x;have h2:OrcOk P w0 (withG 66 ph _):=kn h1 zyw (fun _=>rfl) fun x _=>zt0 B h1 x;have h3:OrcOk P w0 (withG 147 zyR _):=kn h2 VK (fun _=>rfl) fun x _=>zp5 B h2 rfl x;have h4:OrcOk P w0 (withG 118 zyQ _):=kn h3 WT (fun _=>rfl) fun x _=>zpq B h3 rfl rfl x;exact kn h4 WT (fun _=>rfl) fun x hx=>zuq B h4 rfl rfl x hx
theorem zkQ:OrcOk P w0 (oG5 P w0):=kn (zkP B) jX (fun _=>rfl) fun x hx=>zoz B (zkS B) rfl rfl rfl rfl rfl rfl rfl rfl x hx
theorem zjO(hS:qz P w0 33 uP):OrcOk P w0 (oF P w0):=by
 have h0:OrcOk P w0 (withG 48 (YC 900000000) oB1):=zmn B 900000000 oM;have h1:OrcOk P w0 (withG 31 zrV _):=kn h0 jX (fun _=>rfl) fun x hx=>zmy B h0 rfl rfl x hx;have h2:OrcOk P w0 (withG 30 (G8 P w0 301) _):=kn h1 jX (fun _=>rfl) fun x hx=>zsQ B (zkQ B) ⟨⟨rfl,rfl,rfl,rfl,rfl,rfl,rfl,rfl,rfl,rfl,rfl,rfl,rfl,rfl,rfl,rfl,rfl,zlA B⟩,rfl,rfl,rfl,rfl,zlK B,oM⟩ rfl x hx;refine h2.withG (fun args s v s' h=>?_) hS;unfold uP at h;split at h
 ·cases h;exact Ext.refl _
 ·cases h
theorem zlG(hS:qz P w0 33 uP):OrcOk P w0 (oH P w0):=by
 have h0:=zjO B hS;have h1:OrcOk P w0 (withG 11 (G3 P w0 301) noO):=kn (pj P w0) jX (fun _=>rfl) fun x hx=>zsx B h0 rfl rfl rfl rfl x hx;exact kn h1 jX (fun x=>by simp only[jj,qe]) fun x hx=>znU B h0 rfl rfl rfl rfl rfl x hx
theorem zjP(hS:qz P w0 33 uP):OrcOk P w0 (oK P w0):=by
 have h0:=pj P w0;have h1:OrcOk P w0 (withG 37 (gCl zzF Hs) noO):=h0.withG G4 (zuS B h0 rfl);have h2:=(zlG B hS).withG G4 (UP B h1 rfl rfl rfl 900000001);have h3:OrcOk P w0 (withG 18 G6 _):=kn h2 LM Uh fun x hx=>zvF B h2 x hx;exact kn h3 zyy ZY fun x hx=>zvG B h3 x hx
theorem zjQ(hS:qz P w0 33 uP):OrcOk P w0 (oL P w0):=by
 have h0:=zlG B hS;have h1:OrcOk P w0 (withG 7 (zrS P w0 301) _):=kn h0 jX (fun x=>by simp only[uQ,wp,vw,gK,vb,wA,Bool.and_self]) fun x hx=>zo0 B (zjP B hS) rfl rfl rfl rfl rfl rfl rfl x hx
 exact zvg B h1
theorem zkF(hS:qz P w0 33 uP){c:Cd}(hc:LgPre c):∃s1,SC P w0 4 (qI c) (s00 0 true) (.bool true) s1:=
 zvI B (zjQ B hS) rfl rfl rfl rfl rfl rfl rfl hc
end
open Go.RowKit (Below)
open Go.WideElems (rd rg rg_of)
theorem Wide.all{F:Fence}(hF:Wide F)(P:Program)(m:Machine):m.fenced P F:=fun g _=>⟨(fun h=>by rw[hF.alive]at h;cases h),.inl (hF.fn _),fun f _=>hF.fn f,(fun d hd=>by rw[hF.depth]at hd;cases hd)⟩
theorem U9{F:Fence}(hF:Wide F){f:FuncId}{args:Array Value}{R:Ending→World→Prop}(h:Calls P f args w R):CallsIn F n P f args w R:=
 ⟨hF.fn f,fun cs _=>by
  obtain⟨e,w',fr,r,s,x⟩:=h cs;refine⟨e,w',fr,r,?_,x⟩;cases e with
  |returned v=>exact(StepsIn.of_steps s).mono fun m _=>hF.all P m
  |panicked chain=>exact(StepsIn.of_steps s).mono fun m _=>hF.all P m
  |outgrown=>exact s⟩
structure SrtOk(P:Program):Prop where
 fn:∃fn,P.funcs[33]? =some fn∧fn.body.isSome=true∧(fn.name== "runtime.NumGoroutine")=false
 key:P.underlying 3=some (.int .i64)
 ok:∀(Bm b nn:Nat) (D0:DataW Unit) (R:Value→Option (DataW Unit×List MemPlace)) (w:World),Bm<w.heap.size→w.cell? ⟨Bm,0,none⟩=some (.map (some b))→w.ownsMap P 3 R b nn D0→Maps.size D0≤maxLen→Maps.size D0*8≤140737488355328→Calls P 33 #[.func (.func 51) #[] #[.pointer (some ⟨Bm,0,none⟩)]] w fun e w'=>∃(v:Value) (ss:List Int),e=.returned v∧ss.Perm (intKeys D0)∧w'.ownsRow w.heap.size 3 1 v ss.length ((ss.mergeSort (fun x y=>decide (x≤y))).map encZ)∧Below w.heap.size w w'
theorem Pm{args:List AV}(h:uP args s=some (v,s')):∃x,SrPre x args s∧v=qu (wE x.2.2)∧s'=s:=by
 by_cases hx:∃x,SrPre x args s
 ·obtain⟨x,hx⟩:=hx;rw[V7 hx]at h;cases h;exact⟨x,hx,rfl,rfl⟩
 ·unfold uP at h;rw[dif_neg hx]at h;cases h
def rdM(_:Value):Option (DataW Unit×List MemPlace):=some (.nil,[])
theorem Gq{φ:Phi}:∀{l:List Int} {es:List MapEntry},URel φ (uS l) es→es.map (·.key)=l.map (Value.int .i64)
 |[],_,h=>by simp only[uS,yN,URel]at h;rw[h];rfl
 |x::r,_,h=>by
  simp only[uS,zD,URel]at h;obtain⟨e,es',rfl,h1,_,h3⟩:=h;rw[zD,zD,h1,Gq (l:=r) h3]
theorem zqk{k:TypeId}(hk:P.underlying k=some (.int .i64)){x:Int}(hx:0≤x∧x< .ofNat 9223372036854775808):keyOf P k (.int .i64 x)=some (.int .i64 x):=by
 have hw:(Lit.int .i64 x).wf=true:=by
  simp only[Lit.wf,zq,decide_eq_true_eq];constructor
  ·have:(-9223372036854775808:Int)≤0:=by decide
   exact Int.le_trans this hx.1
  ·have:=hx.2;have e:(zG 9223372036854775808)=9223372036854775807+1:=by decide
   rw[e]at this;exact Int.lt_add_one_iff.1 this
 simp[keyOf,hk,mapKey,hw]
theorem ztf(r:Rel P w0 φ s.get w)(hb:Below w.heap.size w w'):Step P w0 φ s w ⟨φ.m,(φ.full w.heap.size w').z⟩ s w':=by
 have rb:=r.below hb;have hz:∀b o v,φ.z b o=some v→(φ.full w.heap.size w').z b o=some v:=G1 (s:=s) rb _;have hsub:Sub φ ⟨φ.m,(φ.full w.heap.size w').z⟩:=⟨fun _ _ h=>h,hz⟩;have hlt:∀b i,b<w.heap.size→(φ.full w.heap.size w').z b i=φ.z b i:=fun b i h=>by
  show (if w.heap.size≤b then _ else _)=_;rw[if_neg oM]
 refine⟨Ext.refl s,⟨rb.base,fun id o ho=>?_,rb.rng,rb.old,rb.inj,fun b o v h=>?_,fun id o B ho hB=>?_⟩,fun _ _=>rfl,hb.size,fun b h _=>hb.block b h,fun id _ h1 h2=>absurd h2 oM,hz,fun b o v h=>?_⟩
 ·obtain⟨B,hB,q⟩:=r.obj id o ho;exact⟨B,hB,q.keep hsub (hb.block B.b (r.rng id B hB))⟩
 ·have h':(if w.heap.size≤b then (match w'.heap[b]? with
   |some (.cells c _ _)=>c[o]?
   |_=>none)else φ.z b o)=some v:=h
  split at h'
  ·split at h'
   ·rename_i c e fr hw;exact⟨c,e,fr,hw,h'⟩
   ·cases h'
  ·exact rb.frz b o v h'
 ·exact(r.sep id o B ho hB).congr fun i=>hlt B.b i (r.rng id B hB)
 ·by_cases hlt2:b<w.heap.size
  ·have h':(φ.full w.heap.size w').z b o=some v:=h;rw[hlt b o hlt2]at h';exact .inl h'
  ·exact .inr (.inl oM)
theorem zzB(φ:Phi):∀l:List Int,VRL φ (xP wy l) (l.map encZ)
 |[]=>rfl
 |x::r=>by
  simp only[xP,wy,zM,ziQ,zD,VRL];exact⟨_,_,rfl,by simp only[VR],zzB φ r⟩
theorem HD(h:SrtOk P):qz P w0 33 uP:=by
 intro args s v s' hg;obtain⟨⟨p,m,l⟩,hx,rfl,rfl⟩:=Pm hg;refine⟨h.fn,fun φ w xs r hwf hf hxs F n hF=>?_⟩;rw[hx.args]at hxs;obtain⟨B,hB,hbl⟩:=r.obj p _ hx.row;simp only[ObjRel]at hbl;obtain⟨c,fr,hc,hsz,hle,hext,hcells,_⟩:=hbl;obtain⟨h1,h0⟩:=hext trivial;obtain⟨Bm,hBm,hm⟩:=r.obj m _ hx.map;simp only[ObjRel]at hm;obtain⟨ents,clk,hmh,lst,hperm,hu,hnd,hbn,hbc⟩:=hm;have hkeys:=Gq hu;have hlen:ents.size=l.length:=by
  have:=congrArg xj hkeys;rw[zhg,zhg]at this;rw[←this,←yD,hperm.length_eq]
 have hkp:(ents.toList.map (·.key)).Perm (l.map (Value.int .i64)):=by rw[←hkeys];exact(hperm.map _).symm
 have hrd:∀x∈ents.toList,∃y:Int,y∈l∧x.key=.int .i64 y:=fun x hxm=>by
  have:=hkp.mem_iff.1 (List.mem_map.2 ⟨x,hxm,rfl⟩);obtain⟨y,hy,e⟩:=List.mem_map.1 this;exact⟨y,hy,e.symm⟩
 have hrd2:∀x∈ents.toList,∃y:Int,x.key=.int .i64 y∧rd P 3 rdM x=some (.int .i64 y,.nil):=fun x hxm=>by
  obtain⟨y,hy,e⟩:=hrd x hxm;exact⟨y,e,by unfold rd;rw[e,zqk h.key (hx.rng y hy)];rfl⟩
 have hown:w.ownsMap P 3 rdM Bm.b ents.size (.map ((ents.toList.map (rg P 3 rdM)).foldr DataW.insert [])):=by
  refine⟨ents,clk,hmh,⟨by rw[hlen];have:=hx.len;simp only at this;unfold maxLen;omega,⟨fun x hxm=>hbc x (hperm.mem_iff.2 hxm),((hperm.map (·.born)).nodup_iff).1 hbn,?_⟩,fun x hxm=>?_⟩,zu _,rfl⟩
  ·rw[hkp.nodup_iff];exact List.pairwise_map.2 (hx.nd.imp fun hab e=>hab (by simpa using e))
  ·obtain⟨y,_,e⟩:=hrd2 x hxm;exact⟨_,e⟩
 have hik:(intKeys (.map ((ents.toList.map (rg P 3 rdM)).foldr DataW.insert []))).Perm l:=by
  show (((ents.toList.map (rg P 3 rdM)).foldr DataW.insert []).map fun p=>intOf p.1).Perm l;refine((Go.WideShapes.sorted_perm _).map _).trans ?_;rw[zhl];have e:ents.toList.map ((fun p:Lit×DataW Unit=>intOf p.1) ∘ rg P 3 rdM)=(ents.toList.map (·.key)).map (fun v=>match v with|.int _ a=>a|_=>0):=by
   rw[zhl];refine List.map_congr_left fun x hxm=>?_;obtain⟨y,e1,e2⟩:=hrd2 x hxm;simp only[Function.comp,rg_of e2,e1];rfl
  rw[e];refine(hkp.map _).trans ?_;rw[zhl];have:((fun v:Value=>match v with|.int _ a=>a|_=>(0:Int)) ∘ Value.int .i64)=id:=rfl
  rw[this,List.map_id]
 have hsz2:Maps.size (DataW.map (H:=Unit) ((ents.toList.map (rg P 3 rdM)).foldr DataW.insert []))=l.length:=by
  rw[Maps.size_eq,(Go.WideShapes.sorted_perm _).length_eq,zhg,yD,hlen]
 rw[h0,List.drop_zero,List.length_singleton]at hcells;simp only[VRL,VR]at hcells;obtain⟨y,ys,hy,⟨Bm',hBm',rfl⟩,rfl⟩:=hcells;rw[hBm]at hBm';cases hBm';have hcell:w.cell? ⟨B.b,0,none⟩=some (.map (some Bm.b)):=by
  have h3:c.toList[0]? =some (.map (some Bm.b)):=by
   have:=congrArg (·[0]?) hy
   simpa using this
  unfold World.cell?;rw[hc];show c[0]? =_;rw[←zC];exact h3
 simp only[VRL,VR]at hxs;obtain⟨a,as,rfl,⟨us,vs,rfl,rfl,q,qs,rfl,⟨B',hB',rfl⟩,rfl⟩,rfl⟩:=hxs;rw[hB]at hB';cases hB';rw[h0,yO];have hxl:=hx.len;simp only at hxl;refine(U9 hF (h.ok B.b Bm.b ents.size _ rdM w (r.rng p B hB) hcell hown (by rw[hsz2];unfold maxLen;omega) (by rw[hsz2];omega))).mono ?_
 rintro e w' ⟨v,ss,rfl,hp,hrow,hb⟩
 have hss:ss.mergeSort (fun x y=>decide (x≤y))=wE l:=mergeSort_of_perm_i (hp.trans hik);have hsl:ss.length=l.length:=(hp.trans hik).length_eq;rw[hss,hsl]at hrow;refine⟨_,v,rfl,ztf r hb,?_⟩;have hp2:xY (xP wy (wE l))=true:=Zc _;have hl2:(wE l).length=l.length:=lP l;obtain⟨_,⟨rfl,hz⟩|⟨g,cap,cur,rfl,hg1,hg2,hg3,_,hg5,hg6⟩⟩:=hrow
 ·have:l=[]:=yF hz;subst this;simp only[qu,VR];exact⟨hp2,.inl ⟨by rw[hl2];rfl,_,rfl⟩⟩
 ·simp only[qu,VR];refine⟨hp2,.inr ⟨g,0,cap,(wE l).map encZ,by rw[hl2],(fun h=>by cases h),(by rw[hl2];exact hg3),?_,zzB _ _⟩⟩
  refine ZC.of fun i y hi=>?_;show (if w.heap.size≤g then _ else _)=_;rw[if_pos hg1,hg2];show cur[0+i]? =_;rw[←hg6,Nat.mul_one]at hi;rw[yO,←zC];rw[List.getElem?_take]at hi;split at hi
  ·exact hi
  ·cases hi
structure Mu(H0:Type)(μ:DataW H0→Nat):Prop where
 str:∀b:List UInt8,b.length≤μ (.lit (.string b))
 sl:∀es sp:List (DataW H0),(∀d∈es,μ d≤μ (.slice es sp))∧es.length≤μ (.slice es sp)
 ag:∀ps:List (DataW H0),∀d∈ps,μ d≤μ (.agg ps)
section
variable {H0:Type}{enc:TypeId×Value→H0}{P:Program}{W:World}{sp:Nat→Bool}{held:Bool}{tD tI tS tK tE:TypeId}{fs:Array Field}{α:Type}{f:α→List AV}{k N:Nat}{μ:DataW H0→Nat}
theorem Q0{a:Addr}{n:Nat}(h0:0<k)(hk:P.cellsOf tE=k)(hsp:a.spot=none)
  (ih:∀cs x,DataW.trod enc P W 0 sp held n tE cs=some x→μ x.1≤N→∃d,VRL (Wr W) (f d) cs):
  ∀(len:Nat),(∀i,i<len→∃x,(W.cells? 0 (a.add (i*k)) k).bind (DataW.trod enc P W 0 sp held n tE)=some x∧μ x.1≤N)→
   ∃ds ys,ds.length=len∧ys.length=len*k∧VRL (Wr W) (xP f ds) ys∧∀i y,ys[i]? =some y→(Wr W).z a.block (a.off+i)=some y
 |0,_=>⟨[],[],rfl,by simp,VRL.nil _,fun i y h=>by simp at h⟩
 | len+1,h=>by
  obtain⟨ds,ys,h1,h2,h3,h4⟩:=Q0 h0 hk hsp ih len (fun i hi=>h i oM);obtain⟨x,hx,hm⟩:=h len oM;cases hc:W.cells? 0 (a.add (len*k)) k with
  |none=>rw[hc]at hx;cases hx
  | some cs=>
   rw[hc]at hx;obtain⟨d,hd⟩:=ih cs x hx hm;obtain⟨_,hl,hg⟩:=World.cells?_some hc;refine⟨ds++[d],ys++cs,by simp[h1],by rw[yA,h2,hl,Nat.succ_mul],by rw[wQ,qM];exact VRL.append h3 hd,fun i y hy=>?_⟩
   by_cases hi:i<ys.length
   ·rw[List.getElem?_append_left hi]at hy;exact h4 i y hy
   ·rw[List.getElem?_append_right oM]at hy;have hj:i-ys.length<k:=by
     rw[←hl];exact(List.getElem?_eq_some_iff.1 hy).1
    have:=hg (i-ys.length) hj;rw[hy,HS hsp,HS rfl]at this;show W.cell? ⟨a.block,a.off+i,none⟩=some y;rw[←this]
    congr 2
    simp only;omega
theorem jQ(hM:Mu H0 μ)(h0:0<k)(hk:P.cellsOf tE=k)(hK:P.underlying tK=some (.slice tE))(hp:∀d,xY (f d)=true)
  (ih:∀m,m<n→∀cs x,DataW.trod enc P W 0 sp held m tE cs=some x→μ x.1≤N→∃d,VRL (Wr W) (f d) cs)
  (hs:sp=fun _=>true) {cs:List Value} {x:DataW H0×List MemPlace} (h:DataW.trod enc P W 0 sp held n tK cs=some x) (hN:μ x.1≤N):
  ∃ds v,cs=[v]∧VR (Wr W) (.lst ds.length false (xP f ds)) v∧ds.length≤N:=by
 rcases DataW.trod_slice hK h with ⟨rfl,_⟩|⟨a,len,cap,elems,rest,m,rfl,rfl,rfl,_,hlc,hcm,hel,hsl,hspare,_⟩
 ·exact⟨[],_,rfl,by simp only[VR];exact⟨rfl,.inl ⟨rfl,_,rfl⟩⟩,zQ _⟩
 ·rw [hk]at hsl hspare;have hsm:=hM.sl (elems.map (·.1)) (rest.map (·.1));replace hN:μ (DataW.slice (elems.map (·.1)) (rest.map (·.1)))≤N:=hN;by_cases hcap:cap=0
  ·subst hcap;obtain rfl:len=0:=oM;exact⟨[],_,rfl,by simp only[VR];exact⟨rfl,.inl ⟨rfl,_,rfl⟩⟩,zQ _⟩
  ·have hcell:∃x,(W.cells? 0 (a.add (0*k)) k)=some x:=by
    by_cases hl:0<len
    ·have:=hsl 0 hl;rw[yH oM]at this;cases hc:W.cells? 0 (a.add (0*k)) k with
     |none=>rw[hc]at this;cases this
     |some y=>exact⟨y,rfl⟩
    ·obtain rfl:len=0:=oM;obtain⟨hr,hj⟩:=hspare (by rw[hs])
     have:=hj 0 oM;rw[yH oM]at this;rw[yO]at this;cases hc:W.cells? 0 (a.add (0*k)) k with
     |none=>rw[hc]at this;cases this
     |some y=>exact⟨y,rfl⟩
   obtain⟨y,hy⟩:=hcell;have hspot:a.spot=none:=by
    obtain⟨_,hl,hg⟩:=World.cells?_some hy;have h1:=hg 0 h0;rw[yH oM]at h1;obtain⟨_,_,_,_,h2,_⟩:=zxO h1
    simpa [Addr.add]using h2
   obtain⟨ds,ys,g1,_,g3,g4⟩:=Q0 (W:=W) (enc:=enc) (sp:=sp) (held:=held) (μ:=μ) (N:=N) h0 hk hspot (ih m oM) len fun i hi=>by
    have:=hsl i hi;rw[yH oM]at this;exact⟨_,this,zA (hsm.1 _ (List.mem_map.2 ⟨_,zi4 oM,rfl⟩)) hN⟩
   refine⟨ds,_,rfl,?_,?_⟩
   ·simp only[VR];refine⟨wG hp ds,.inr ⟨a.block,a.off,cap,ys,?_,by simp,oM,ZC.of g4,g3⟩⟩
    rw[g1];cases a;simp only at hspot;subst hspot;rfl
   ·have:=hsm.2;rw[zhg]at this;omega
def DTx:={d:DT//TxD d}
def X2(d:DTx):List AV:=w4 d.1
theorem HH:∀l:List DTx,TxL (l.map (·.1))
 |[]=>by simp only[yN,TxL]
 |d::r=>by simp only[zD,TxL];exact⟨d.2,HH r⟩
theorem Yt:∀l:List DTx,wa (l.map (·.1))=xP X2 l
 |[]=>by simp only[yN,wa,xP]
 |d::r=>by simp only[zD,wa,xP,Yt r,X2]
theorem zqE(s:ByteArray):(vo s).length=s.data.toList.length:=by simp[vo]
theorem zzH(hM:Mu H0 μ)(hN2:N<2000000)(T:DatumTy P tD tI tS tK fs)(hs:sp=fun _=>true):∀(n:Nat) (cs:List Value) (x:DataW H0×List MemPlace),DataW.trod enc P W 0 sp held n tD cs=some x→μ x.1≤N→∃d:DTx,VRL (Wr W) (X2 d) cs:=by
 intro n
 induction n using Nat.strongRecOn with
 |ind n ih=>
 intro cs x h hN;obtain⟨xs,m,rfl,rfl,hl,hlen,hf⟩:=DataW.trod_struct T.d h;rw[T.cd]at hl;obtain⟨c0,c1,c2,c3,c4,rfl⟩:=zkw hl;have hfs:=T.fs;obtain⟨f0,f1,f2,f3,f4,hfe⟩:=zkw (l:=fs.toList) (by have:=congrArg xj hfs;simpa using this)
 rw[hfe]at hfs;simp only[zD,yN,List.cons.injEq,Prod.mk.injEq,and_true]at hfs;obtain⟨⟨a0,b0⟩,⟨a1,b1⟩,⟨a2,b2⟩,⟨a3,b3⟩,⟨a4,b4⟩⟩:=hfs;have hag:=hM.ag (xs.map (·.1));have hat:∀(i:Nat) (f:Field),fs.toList[i]? =some f→∃y,DataW.trod enc P W 0 sp held m f.type (([c0,c1,c2,c3,c4].drop f.offset).take (P.cellsOf f.type))=some y∧μ y.1≤N:=fun i f hi=>by
  have h1:=hf i f (by rw[←zC];exact hi)
  have hlt:i<fs.toList.length:=(List.getElem?_eq_some_iff.1 hi).1;rw[yH (by rw[hlen];simpa using hlt)]at h1
  exact⟨_,h1,zA (hag _ (List.mem_map.2 ⟨_,zi4 _,rfl⟩)) hN⟩
 obtain⟨y0,g0,_⟩:=hat 0 f0 (by rw[hfe];rfl)
 obtain⟨y1,g1,_⟩:=hat 1 f1 (by rw[hfe];rfl)
 obtain⟨y2,g2,m2⟩:=hat 2 f2 (by rw[hfe];rfl)
 obtain⟨y3,g3,m3⟩:=hat 3 f3 (by rw[hfe];rfl)
 obtain⟨y4,g4,_⟩:=hat 4 f4 (by rw[hfe];rfl)
 rw[a0,b0,T.ci]at g0;rw[a1,b1,T.ci]at g1;rw[a2,b2,T.cs]at g2;rw[a3,b3,T.ck]at g3;rw[a4,b4,T.ci]at g4;obtain⟨n0,e0,_,_⟩:=DataW.trod_int T.i g0;obtain⟨n1,e1,_,_⟩:=DataW.trod_int T.i g1;obtain⟨s2,e2,z2,_⟩:=DataW.trod_string T.s g2;obtain⟨n4,e4,_,_⟩:=DataW.trod_int T.i g4;subst z2;have hst:=hM.str s2.data.toList;replace m2:μ (DataW.lit (.string s2.data.toList))≤N:=m2;simp at e0 e1 e2 e4;subst e0;subst e1;subst e2;subst e4;obtain⟨ds,v,q1,q2,q3⟩:=jQ hM (f:=X2) oM T.cd T.k (fun d=>uy d.1) (n:=m) (fun k hk cs x h hm=>ih k oM cs x h hm) hs g3 m3;simp at q1;subst q1;refine⟨⟨.mk n0 n1 (vo s2) (ds.map (·.1)) n4,?_⟩,?_⟩
 ·simp only[TxD];exact⟨zsg s2,by rw[zqE];omega,HH ds⟩
 ·simp only[X2,w4,zhg,Yt];exact VRL.cons (by simp[VR]) (VRL.cons (by simp[VR]) (VRL.cons (by simp only[VR];exact⟨s2,rfl,rfl⟩) (VRL.cons q2 (VRL.cons (by simp[VR]) (VRL.nil _)))))
theorem QL(hM:Mu H0 μ){gs:Array Field}(ht:P.underlying t=some (.struct gs)){cs:List Value}{x:DataW H0×List MemPlace}(h:DataW.trod enc P W 0 sp held n t cs=some x)(hN:μ x.1≤N):
  cs.length=P.cellsOf t∧∃m,m<n∧∀(i:Nat) (a:TypeId) (o:Nat),(gs.toList.map (fun f=>(f.type,f.offset)))[i]? =some (a,o)→∃y,DataW.trod enc P W 0 sp held m a ((cs.drop o).take (P.cellsOf a))=some y∧μ y.1≤N:=by
 obtain⟨xs,m,rfl,rfl,hl,hlen,hf⟩:=DataW.trod_struct ht h;have hag:=hM.ag (xs.map (·.1));refine⟨hl,m,oM,fun i a o hi=>?_⟩;rw[xb,Option.map_eq_some_iff]at hi;obtain⟨f,hi,e⟩:=hi;obtain⟨rfl,rfl⟩:=Prod.mk.inj e;have h1:=hf i f (by rw[←zC];exact hi)
 have hlt:i<gs.toList.length:=(List.getElem?_eq_some_iff.1 hi).1;rw[yH (by rw[hlen];simpa using hlt)]at h1
 exact⟨_,h1,zA (hag _ (List.mem_map.2 ⟨_,zi4 _,rfl⟩)) hN⟩
structure CodeTy(P:Program)(tI tB tIs tA tAs tT tTs tF tFs tD tK tC:TypeId)(ga gt gf gc:Array Field):Prop where
 i:P.underlying tI=some (.int .i64)
 b:P.underlying tB=some .bool
 is:P.underlying tIs=some (.slice tI)
 a:P.underlying tA=some (.struct ga)
 as:P.underlying tAs=some (.slice tA)
 t:P.underlying tT=some (.struct gt)
 ts:P.underlying tTs=some (.slice tT)
 f:P.underlying tF=some (.struct gf)
 fs:P.underlying tFs=some (.slice tF)
 c:P.underlying tC=some (.struct gc)
 ma:ga.toList.map (fun f=>(f.type,f.offset))=[(tI,0),(tI,1)]
 mt:gt.toList.map (fun f=>(f.type,f.offset))=[(tI,0),(tI,1),(tI,2),(tI,3),(tI,4),(tAs,5),(tTs,6)]
 mf:gf.toList.map (fun f=>(f.type,f.offset))=[(tIs,0),(tB,1),(tB,2),(tIs,3),(tT,4)]
 mc:gc.toList.map (fun f=>(f.type,f.offset))=[(tFs,0),(tI,1),(tI,2),(tI,3),(tK,4)]
 ci:P.cellsOf tI=1
 cb:P.cellsOf tB=1
 cis:P.cellsOf tIs=1
 ca:P.cellsOf tA=2
 cas:P.cellsOf tAs=1
 ct:P.cellsOf tT=7
 cts:P.cellsOf tTs=1
 cf:P.cellsOf tF=11
 cfs:P.cellsOf tFs=1
 cc:P.cellsOf tC=5
theorem zj9{α:Type}{l:List α}(h:l.length=2):∃a b,l=[a,b]:=by
 match l,h with
 |[a,b],_=>exact⟨a,b,rfl⟩
theorem zj1{α:Type}{l:List α}(h:l.length=7):∃a b c d e f g,l=[a,b,c,d,e,f,g]:=by
 match l,h with
 |[a,b,c,d,e,f,g],_=>exact⟨a,b,c,d,e,f,g,rfl⟩
theorem zl7{α:Type}{l:List α}(h:l.length=11):∃a b c d r,l=a::b::c::d::r∧r.length=7:=by
 match l,h with
 |a::b::c::d::r,h=>exact⟨a,b,c,d,r,rfl,by simpa using h⟩
def TmX:={t:Trm//SzT t}
def Xb(t:TmX):List AV:=x3 t.1
theorem zzj:∀l:List TmX,hZ (l.map (·.1))
 |[]=>by simp only[yN,hZ]
 |d::r=>by simp only[zD,hZ];exact⟨d.2,zzj r⟩
theorem WP:∀l:List TmX,x7 (l.map (·.1))=xP Xb l
 |[]=>by simp only[yN,x7,xP]
 |d::r=>by simp only[zD,x7,xP,WP r,Xb]
def FnX:={f:Fn//f.ps.length<1000000000∧f.fr.length<1000000000∧SzT f.b}
def QI(f:FnX):List AV:=wo f.1
theorem WN:∀l:List FnX,xP wo (l.map (·.1))=xP QI l
 |[]=>rfl
 |d::r=>by simp only[zD,xP,WN r,QI]
section
variable {tB tIs tA tAs tT tTs tF tFs tC:TypeId}{ga gt gf gc:Array Field}
theorem uv(T:CodeTy P tI tB tIs tA tAs tT tTs tF tFs tD tK tC ga gt gf gc){m:Nat}{cs:List Value}{x:DataW H0×List MemPlace}(h:DataW.trod enc P W 0 sp held m tI cs=some x):∃n,cs=[.int .i64 n]:=by
 obtain⟨n,e,_⟩:=DataW.trod_int T.i h;exact⟨n,e⟩
theorem Ju(hM:Mu H0 μ)(T:CodeTy P tI tB tIs tA tAs tT tTs tF tFs tD tK tC ga gt gf gc)(hs:sp=fun _=>true){m:Nat}{cs:List Value}{x:DataW H0×List MemPlace}(h:DataW.trod enc P W 0 sp held m tIs cs=some x)(hN:μ x.1≤N):∃l v,cs=[v]∧VR (Wr W) (qu l) v∧l.length≤N:=
 jQ hM (f:=wy) (k:=1) oM T.ci T.is Vn (n:=m) (fun k _ cs x h _=>by
  obtain⟨n,rfl⟩:=uv T h;exact⟨n,VRL.cons (by simp only[VR]) (VRL.nil _)⟩) hs h hN
theorem zoE(hM:Mu H0 μ)(hN2:N<2000000)(T:CodeTy P tI tB tIs tA tAs tT tTs tF tFs tD tK tC ga gt gf gc)(hs:sp=fun _=>true):∀(n:Nat) (cs:List Value) (x:DataW H0×List MemPlace),DataW.trod enc P W 0 sp held n tT cs=some x→μ x.1≤N→∃d:TmX,VRL (Wr W) (Xb d) cs:=by
 intro n
 induction n using Nat.strongRecOn with
 |ind n ih=>
 intro cs x h hN;obtain⟨hl,m,hm,hat⟩:=QL hM T.t h hN;rw[T.mt]at hat
 rw[T.ct]at hl;obtain⟨c0,c1,c2,c3,c4,c5,c6,rfl⟩:=zj1 hl;obtain⟨y0,g0,_⟩:=hat 0 _ _ rfl;obtain⟨y1,g1,_⟩:=hat 1 _ _ rfl;obtain⟨y2,g2,_⟩:=hat 2 _ _ rfl;obtain⟨y3,g3,_⟩:=hat 3 _ _ rfl;obtain⟨y4,g4,_⟩:=hat 4 _ _ rfl;obtain⟨y5,g5,m5⟩:=hat 5 _ _ rfl;obtain⟨y6,g6,m6⟩:=hat 6 _ _ rfl;rw[T.ci]at g0 g1 g2 g3 g4;rw[T.cas]at g5;rw[T.cts]at g6;obtain⟨n0,e0⟩:=uv T g0;obtain⟨n1,e1⟩:=uv T g1;obtain⟨n2,e2⟩:=uv T g2;obtain⟨n3,e3⟩:=uv T g3;obtain⟨n4,e4⟩:=uv T g4;simp at e0 e1 e2 e3 e4;subst e0 e1 e2 e3 e4;obtain⟨as,v5,q1,q2,q3⟩:=jQ hM (f:=wn) oM T.ca T.as vU (n:=m) (fun k _ cs x h hx=>by
  obtain⟨hl,m,_,hat⟩:=QL hM T.a h hx;rw[T.ma]at hat
  rw[T.ca]at hl;obtain⟨c0,c1,rfl⟩:=zj9 hl;obtain⟨y0,g0,_⟩:=hat 0 _ _ rfl;obtain⟨y1,g1,_⟩:=hat 1 _ _ rfl;rw[T.ci]at g0 g1;obtain⟨n0,e0⟩:=uv T g0;obtain⟨n1,e1⟩:=uv T g1;simp at e0 e1;subst e0 e1;exact⟨⟨n0,n1⟩,VRL.cons (by simp[VR]) (VRL.cons (by simp[VR]) (VRL.nil _))⟩) hs g5 m5
 obtain⟨ks,v6,u1,u2,u3⟩:=jQ hM (f:=Xb) oM T.ct T.ts (fun d=>uw d.1) (n:=m) (fun k hk cs x h hx=>ih k oM cs x h hx) hs g6 m6;simp at q1 u1;subst q1 u1;refine⟨⟨.mk n0 n1 n2 n3 n4 as (ks.map (·.1)),?_⟩,?_⟩
 ·simp only[SzT,zhg];exact⟨oM,oM,zzj ks⟩
 ·simp only[Xb,x3,zhg,WP];exact VRL.cons (by simp[VR]) (VRL.cons (by simp[VR]) (VRL.cons (by simp[VR]) (VRL.cons (by simp[VR]) (VRL.cons (by simp[VR]) (VRL.cons q2 (VRL.cons u2 (VRL.nil _)))))))
theorem zoD(hM:Mu H0 μ)(hN2:N<2000000)(T:CodeTy P tI tB tIs tA tAs tT tTs tF tFs tD tK tC ga gt gf gc)(hs:sp=fun _=>true){cs:List Value}{x:DataW H0×List MemPlace}(h:DataW.trod enc P W 0 sp held n tF cs=some x)(hN:μ x.1≤N):∃d:FnX,VRL (Wr W) (QI d) cs:=by
 obtain⟨hl,m,hm,hat⟩:=QL hM T.f h hN;rw[T.mf]at hat
 rw[T.cf]at hl;obtain⟨c0,c1,c2,c3,r,rfl,hr⟩:=zl7 hl;obtain⟨y0,g0,m0⟩:=hat 0 _ _ rfl;obtain⟨y1,g1,_⟩:=hat 1 _ _ rfl;obtain⟨y2,g2,_⟩:=hat 2 _ _ rfl;obtain⟨y3,g3,m3⟩:=hat 3 _ _ rfl;obtain⟨y4,g4,m4⟩:=hat 4 _ _ rfl;rw[T.cis]at g0 g3;rw[T.cb]at g1 g2;rw[T.ct]at g4;obtain⟨b1,e1,_⟩:=DataW.trod_bool T.b g1;obtain⟨b2,e2,_⟩:=DataW.trod_bool T.b g2;simp at e1 e2;subst e1 e2;have hr':(((c0::Value.bool b1::Value.bool b2::c3::r).drop 4).take 7)=r:=List.take_of_length_le (by simp[hr])
 rw[hr']at g4;obtain⟨ps,v0,p1,p2,p3⟩:=Ju hM T hs g0 m0;obtain⟨fr,v3,q1,q2,q3⟩:=Ju hM T hs g3 m3;obtain⟨t,ht⟩:=zoE hM hN2 T hs m r y4 g4 m4;simp at p1 q1;subst p1 q1;exact⟨⟨⟨ps,b1,b2,fr,t.1⟩,⟨zhm p3 oM,zhm q3 oM,t.2⟩⟩,VRL.cons p2 (VRL.cons (by simp[VR]) (VRL.cons (by simp[VR]) (VRL.cons q2 ht)))⟩
theorem abs_code(hM:Mu H0 μ)(hN2:N<2000000)(D:DatumTy P tD tI tS tK fs)(T:CodeTy P tI tB tIs tA tAs tT tTs tF tFs tD tK tC ga gt gf gc)(hs:sp=fun _=>true){cs:List Value}{x:DataW H0×List MemPlace}(h:DataW.trod enc P W 0 sp held n tC cs=some x)(hN:μ x.1≤N):∃c:Cd,LgPre c∧VRL (Wr W) (wC c) cs:=by
 obtain⟨hl,m,hm,hat⟩:=QL hM T.c h hN;rw[T.mc]at hat
 rw[T.cc]at hl;obtain⟨c0,c1,c2,c3,c4,rfl⟩:=zkw hl;obtain⟨y0,g0,m0⟩:=hat 0 _ _ rfl;obtain⟨y1,g1,_⟩:=hat 1 _ _ rfl;obtain⟨y2,g2,_⟩:=hat 2 _ _ rfl;obtain⟨y3,g3,_⟩:=hat 3 _ _ rfl;obtain⟨y4,g4,m4⟩:=hat 4 _ _ rfl;rw[T.ci]at g1 g2 g3;rw[T.cfs]at g0;rw[D.ck]at g4;obtain⟨n1,e1⟩:=uv T g1;obtain⟨n2,e2⟩:=uv T g2;obtain⟨n3,e3⟩:=uv T g3;simp at e1 e2 e3;subst e1 e2 e3;obtain⟨ds,v4,q1,q2,q3⟩:=jQ hM (f:=X2) oM D.cd D.k (fun d=>uy d.1) (n:=m) (fun k _ cs x h hx=>zzH hM hN2 D hs k cs x h hx) hs g4 m4;obtain⟨gs,v0,p1,p2,p3⟩:=jQ hM (f:=QI) oM T.cf T.fs (fun d=>pV d.1) (n:=m) (fun k _ cs x h hx=>zoD hM hN2 T hs h hx) hs g0 m0;simp at q1 p1;subst q1 p1;refine⟨⟨gs.map (·.1),n1,n2,n3,ds.map (·.1)⟩,⟨by rw[zhg];omega,by rw[zhg];omega,fun f hf=>?_,HH ds⟩,?_⟩
 ·obtain⟨g,_,rfl⟩:=List.mem_map.1 hf;exact g.2
 ·simp only[wC,zhg,WN,Yt];exact VRL.cons p2 (VRL.cons (by simp[VR]) (VRL.cons (by simp[VR]) (VRL.cons (by simp[VR]) (VRL.cons q2 (VRL.nil _)))))
end
end
theorem closed_calls(B:Bx P w)(hs:SrtOk P){c:Cd}(hc:LgPre c){cs:Array Value}(hv:VRL (Wr w) (wC c) cs.toList):
  Calls P 4 #[.agg cs] w fun e w'=>e=.returned (.bool true)∧Below w.heap.size w w':=by
 obtain⟨s1,h⟩:=zkF B (HD hs) hc;have hx:VRL (Wr w) (qI c) [.agg cs]:=VRL.cons (by simp only[vd,VR];exact⟨cs.toList,by simp,hv⟩) (VRL.nil _)
 refine callsIn_wide.1 (CallsIn.mono (h.2 _ w _ (zu1 P w true) (show Wf (s00 0 true)from zjq [] 0 true) (fun _ _=>rfl) hx Fence.wide 0 ⟨fun _=>trivial,rfl,rfl⟩) ?_)
 rintro e w' ⟨φ',x,rfl,k1,k2⟩
 simp only[VR]at k2;exact⟨by rw[k2],k1.rel.base⟩
end Go.Proofs.YtbddpjboppmnfaaGreatDoor.Ev

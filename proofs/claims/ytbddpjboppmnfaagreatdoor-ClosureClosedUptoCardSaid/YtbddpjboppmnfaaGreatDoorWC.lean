/- Contracts of functions that ClosureClosed calls: what a call answers, for all data, by symbolic evaluation. No conditions of its own. -/
import Derived.Test.YtbddpjboppmnfaaGreatDoorWB
import Derived.Test.YtbddpjboppmnfaaGreatDoorEvG
set_option linter.unusedSimpArgs false
set_option linter.unusedVariables false
set_option linter.defProp false
set_option maxHeartbeats 4000000
set_option linter.unusedSectionVars false
open Nat renaming le_of_ble_eq_true → ziw, le_refl → zu, zero_mod → ziJ, or_zero → ziM, zero_or → ziN, lt_succ_self → yc, zero_le → zQ, le_succ → zha, lt_of_lt_of_le → zp, mul → zc, zero_add → yO, mul_one → xC
open List renaming length_cons → yb, length_nil → xz, length_append → yA, mem_cons_self → zi0, mem_of_mem_drop → ziT, drop_eq_getElem_cons → ziO, append_nil → ziA, nil_append → ziQ, getElem?_append_left → yB, dropWhile_sublist → zhb, getElem?_append_right → yM, cons_append → zM, mem_cons → ziL, dropWhile_cons → zhc
open Bool renaming cond_self → ziH, and_eq_true → zq, and_self → xA
namespace Go.Proofs.YtbddpjboppmnfaaGreatDoor.Ev
variable {P:Program}{w0:World}{O:Orc}{s s':St}{v:AV}{tm:Trie AV}{d:DT}{id n esz bytes:Nat}
open Nat (reduceEqDiff reduceLeDiff reduceLT reduceAdd reduceMul reduceSub reduceMod reducePow reduceDiv reduceOr reduceShiftLeft reduceGT reduceSucc)
open List (length_cons length_nil length_take length_drop)
open Int (reduceOfNat reduceNegSucc)
open T
set_option maxRecDepth 100000
def kN(c:Nat):Bool:=c==43||c==45
def sgC:List AV:=(List.range 256).map fun c=>.bool (kN c)
theorem QR:sgC.length=256:=by simp[sgC]
theorem zzd:xY sgC=true:=by decide+kernel
theorem zzc:qg sgC=256:=by rw[wV,QR]
theorem zze:wd sgC=true:=by decide+kernel
theorem zj2:okV (.tup [.agg sgC,.bool true]) ((evT env noO 1000).call 161 [.str [43,45]] s0)=true:=by decide+kernel
noncomputable def zuv:List AV→St→Option (AV×St):=vF (fun _:Unit=>[.str [43,45]]) (fun _=>True) (fun _=>.tup [.agg sgC,.bool true])
theorem zuI(B:Bx P w0)(hO:OrcOk P w0 O):qz P w0 161 zuv:=
 Wh false (fun _=>rfl) (fun _=>by simp only[uQ,wp,vw,zzd,jv,wA,xA]) fun _ _=>zlM (pj P w0) B.mixed B.glob B.env zj2
theorem zqB(h:O 161=some zuv)(st:St):(evW env O).call 161 [.str [43,45]] st=some (.tup [.agg sgC,.bool true],st):=by
 rw[wN h,zuv,qP (fun _ _ _=>rfl) st () trivial rfl]
theorem zjJ{c:Nat}(hc:c<256):wj 1 (wH c sgC)=some [.bool (kN c)]:=by
 rw[wY,ziO (by rw[QR];exact hc)]
 show some [sgC[c]'(by rw[QR];exact hc)]=_
 simp only[sgC,List.getElem_map,List.getElem_range]
theorem UA:∀{l vs:List AV},l.length=vs.length→XG l vs=some vs
 |[],[],_=>rfl
 |[],_::_,h=>by cases h
 |_::_,[],h=>by cases h
 |x::l,y::vs,h=>by
  have:=UA (l:=l) (vs:=vs) (by simpa using h)
  simp only[XG,this]
def trL(p:Nat→Bool)(s:List Nat):List Nat:=s.dropWhile p
theorem UV(p:Nat→Bool)(x:Nat)(r:List Nat):trL p (x::r)=if p x=true then trL p r else x::r:=by
 simp only[trL,zhc]
theorem zw7(p:Nat→Bool)(s:List Nat):(trL p s).length≤s.length:=(zhb p).length_le
section
variable {O:Orc}
attribute [local go_sem] zyS zzg in
theorem zjb(h162:O 162=none)(h174:O 174=none){s:List Nat}(hb:Byt s)(hl:s.length<2000000){L:List (Nat×Option AObj)}{p:Nat}(g:xN L p=some (.row 227 sgC false false))(n m:Nat)(b:Bool):
  (evW env O).call 162 [.str s,.ptr p 0] (KL L n m b [] none)=some (.str (trL kN s),KL L n m b [] none):=by
 have key:Cv ((evW env O).call 162 [.str s,.ptr p 0] (KL L n m b [] none)) fun r t=>r=.str (trL kN s)∧t=KL L n m b [] none:=by
  refine vB (F:=f162) h162 rfl rfl (ziw rfl) ?_;have cc:∀(x n m:Nat) (b:Bool),x<256→(evW env O).call 174 [.ptr p 0,.int .u8 (.ofNat x)] (KL L n m b [] none)=some (.bool (kN x),KL L n m b [] none):=fun x n m b hx=>by
   have key:Cv ((evW env O).call 174 [.ptr p 0,.int .u8 (.ofNat x)] (KL L n m b [] none)) fun r t=>r=.bool (kN x)∧t=KL L n m b [] none:=by
    refine vB (F:=f174) h174 rfl rfl (ziw rfl) ?_;have hld:=zjJ hx;unfold f174;simp only[Ko];generalize sgC=cs at *;refine xO ?_;refine xW ?_;exact⟨rfl,rfl⟩
   obtain⟨r,t,h,rfl,rfl⟩:=key;exact h
  obtain⟨R,hR⟩:∃R,trL kN s=R:=⟨_,rfl⟩;rw[hR];unfold f162;simp only[Ko,Ki];refine xQ ?_;refine xR ?_;refine xT ?_;refine wx (fun t:List Nat=>t.length) (fun t f t'=>∃T,f=⟨tmL T,[]⟩∧t'=KL L n 0 true [] none∧(tmL T).get 0=some (.str t)∧(tmL T).get 1=some (.ptr p 0)∧trL kN t=R∧Byt t∧t.length<2000000) (fun t f t' hI=>?_) s ⟨_,rfl,rfl,sW,sW,hR,hb,hl⟩;clear hR hb hl s;obtain⟨T,rfl,rfl,t0,t1,hR,hb,hl⟩:=hI;cases t with
  |nil=>
   have hR:[]=R:=hR;subst hR;refine xO ?_;refine xO ?_;refine xW ?_;exact⟨rfl,rfl⟩
  | cons x r=>
   have hx:=hb.cons.1;have hbr:=hb.cons.2;have hc:=fun n m b=>cc x n m b hx;simp only[yb]at hl;rw[UV]at hR;clear cc hb;cases hd:kN x with
   |true=>
    rw[if_pos hd]at hR;rw[hd]at hc;refine xO ?_;refine⟨r,⟨_,rfl,trivial,sV,sV,hR,hbr,oM⟩,by simp⟩
   |false=>
    rw[if_neg (by rw[hd];simp)]at hR
    subst hR;rw[hd]at hc;refine xO ?_;refine xO ?_;refine xW ?_;exact⟨rfl,rfl⟩
 obtain⟨r,t,h,rfl,rfl⟩:=key;exact h
end
def J1(s:List Nat):List AV:=[.str s,.str [43,45]]
theorem zvY:∀x y,J1 x=J1 y→x=y:=fun x y h=>by
 simp only[J1,List.cons.injEq,AV.str.injEq,and_true]at h;exact h
noncomputable def gTl:List AV→St→Option (AV×St):=vF J1 Qq (fun s=>.str (trL kN s))
theorem zm4(h:O 138=some gTl){s:List Nat}(h1:Qq s)(st:St):(evW env O).call 138 [.str s,.str [43,45]] st=some (.str (trL kN s),st):=by
 rw[wN h,gTl,qP zvY st s h1 rfl]
section
variable {P:Program}{w0:World}(B:Bx P w0){O:Orc}(hO:OrcOk P w0 O)
include B hO
attribute [local go_sem] zzc zze in
theorem zj7(h161:O 161=some zuv)(h162:O 162=none)(h174:O 174=none)(s:List Nat)(hs:Qq s):∃s1,SC P w0 138 (J1 s) (s00 0 true) (.str (trL kN s)) s1:=by
 refine be B hO f138 ?_;have hmk:=fun st=>zqB (O:=O) h161 st;have hL:=fun L p g n m b=> @zjb O h162 h174 s hs.1 hs.2 L p g n m b;have hov:∀l:List AV,l.length=256→XG l sgC=some sgC:=fun l h=>UA (by rw[h,QR])
 unfold f138;simp only[J1];cases s with
 |nil=>
  refine xQ ?_;refine xO ?_;refine xW ?_;exact zrQ _ _
 |cons c r=>
  have hpu:=zzd;have hlc:=zzc;have hsc:=zze;generalize sgC=cs at *;generalize trL kN (c::r)=R at *;refine xQ ?_;refine xQ ?_;refine xQ ?_;refine xO ?_;refine xW ?_;exact zrQ _ _
end
def ql(n:Nat):List AV:=[.int .u16 (.ofNat n)]
theorem ZL(n:Nat):(ql n).length=1:=rfl
theorem v7(n:Nat):xY (ql n)=true:=rfl
theorem Vp(n:Nat):wd (ql n)=true:=rfl
theorem zst(n:Nat):wkL (ql n)=ql n:=by simp only[ql,wkL,wkV]
theorem zx2(l:List Nat):(xP ql l).length=l.length:=by rw[vu ZL];exact xC _
theorem Xs:∀{l r:List Nat},xP ql l=xP ql r→l=r
 |[],[],_=>rfl
 |[],_::_,h=>by cases h
 |_::_,[],h=>by cases h
 |x::l,y::r,h=>by
  simp only[xP,ql,zM,ziQ,List.cons.injEq,AV.int.injEq,true_and]at h;rw[Xs h.2,Int.ofNat.inj h.1]
def va(l:List Nat):AV:=.lst l.length false (xP ql l)
def Jf(l:List Nat):List AV:=[va l]
theorem zsW:∀x y,Jf x=Jf y→x=y:=fun x y h=>by
 simp only[Jf,va,List.cons.injEq,AV.lst.injEq,true_and,and_true]at h;exact Xs h.2
theorem zv0(x:List Nat):xY (Jf x)=true:=by simp only[Jf,va,wp,qe,wA,xA]
theorem Zd(l:List Nat):wkL (xP ql l)=xP ql l:=by
 induction l with
 |nil=>rfl
 |cons x r ih=>simp only[xP,ql,zM,ziQ,wkL,wkV];rw[show xP ql r=xP ql r from rfl,ih]
def trR(p:Nat→Bool)(s:List Nat):List Nat:=(s.reverse.dropWhile p).reverse
theorem zm5(p:Nat→Bool)(u:List Nat)(x:Nat):trR p (u++[x])=if p x=true then trR p u else u++[x]:=by
 simp only[trR,List.reverse_append,List.reverse_cons,List.reverse_nil,ziQ,List.singleton_append,zhc];split
 ·rfl
 ·simp
theorem zm6(p:Nat→Bool)(s:List Nat):(trR p s).length≤s.length:=by
 simp only[trR,List.length_reverse];have:=(zhb p (l:=s.reverse)).length_le
 simpa using this
theorem zm7{p:Nat→Bool}{s:List Nat}{x:Nat}(h:x∈trR p s):x∈s:=by
 simp only[trR,List.mem_reverse]at h;exact List.mem_reverse.1 ((zhb p).mem h)
theorem zss(t:List Nat):t=[]∨∃u x,t=u++[x]:=by
 rcases List.eq_nil_or_concat t with h|⟨u,x,h⟩
 ·exact .inl h
 ·exact .inr ⟨u,x,by rw[h,List.concat_eq_append]⟩
def vH(l:List Nat):List Nat:=trR (fun x=>x==0) l
theorem zmS(u:List Nat)(x:Nat):QG 1 (.lst (u.length+1) false (xP ql (u++[x]))) none (some (.int .i64 (.ofNat u.length))) none=some (.lst u.length false (xP ql u)):=by
 simp only[QG,zxC,bnd,show Nat.ble u.length (u.length+1)=true from x9.2 oM,cond_true,Bool.false_and];rw[show tkN (zc (Nat.sub u.length 0) 1) (wH (zc 0 1) (xP ql (u++[x])))=xP ql u from ?_]
 ·rfl
 ·rw[show zc (Nat.sub u.length 0) 1=u.length from xC _,show zc 0 1=0 from rfl];show tkN _ (wH 0 _)=_;rw[wY,US,List.drop_zero,wQ];rw[List.take_left' (zx2 u)]
theorem zsF(u:List Nat)(x:Nat):wj 1 (wH u.length (xP ql (u++[x])))=some [.int .u16 (.ofNat x)]:=by
 rw[wY,wQ,List.drop_left' (zx2 u)];rfl
theorem zlz{l:List Nat}{i:Nat}{o:Nat}{r:List Nat}(hd:l.drop i=o::r):wj 1 (wH i (xP ql l))=some [.int .u16 (.ofNat o)]:=by
 have:=WS ZL hd;rwa [xC]at this
noncomputable def Wa:List AV→St→Option (AV×St):=vF Jf (fun l=>l.length<1000000000) (fun l=>va (vH l))
theorem YX(h:O 139=some Wa){l:List Nat}(hl:l.length<1000000000)(hv:wkV v=va l)(s:St):(evW env O).call 139 [v] s=some (va (vH l),s):=by
 rw[wN h,Wa,qP zsW s l hl (by simp only[Jf,wkL,hv])]
attribute [local go_sem] Jf va in
theorem zok(B:Bx P w0)(hO:OrcOk P w0 O)(l:List Nat)(hl:l.length<1000000000):∃s1,SC P w0 139 (Jf l) (s00 0 true) (va (vH l)) s1:=by
 refine be B hO f139 ?_;unfold f139;obtain⟨R,hR⟩:∃R,vH l=R:=⟨_,rfl⟩;rw[hR];simp only[Jf,va];refine xQ ?_;refine xR ?_;refine xT ?_;refine wx (fun t:List Nat=>t.length) (fun t f t'=>∃T,f=⟨tmL T,[]⟩∧t'=KL [] 0 0 true [] none∧(tmL T).get 0=some (.lst t.length false (xP ql t))∧vH t=R∧t.length<1000000000) (fun t f t' hI=>?_) l ⟨_,rfl,rfl,sW,hR,hl⟩;clear hR hl l;obtain⟨T,rfl,rfl,t0,hR,hl⟩:=hI;rcases zss t with rfl|⟨u,x,rfl⟩
 ·have hR:[]=R:=hR;subst hR;simp only[xz,xP]at t0;refine xO ?_;refine xO ?_;refine xW ?_;exact vO rfl rfl
 ·have hx:=zsF u x;have hs:=zmS u x;simp only[yA,yb,xz,yO]at hl t0 hs;unfold vH at hR;rw[zm5]at hR;by_cases h0:x=0
  ·subst h0;simp only[beq_self_eq_true,if_true]at hR;generalize xP ql (u++[0])=cs at *;refine xO ?_;refine⟨u,⟨_,rfl,trivial,sV,hR,oM⟩,by simp⟩
  ·rw[if_neg (by simpa using h0)]at hR
   subst hR;have hp:xY (xP ql (u++[x]))=true:=wG v7 _;have hw:=Zd (u++[x]);have hlen:(u++[x]).length=u.length+1:=by simp
   rw[hlen];generalize xP ql (u++[x])=cs at *;clear hlen;refine xO ?_;refine xO ?_;refine xW ?_;exact vO hp hw
open Int renaming reduceOfNat → rO, reduceNegSucc → rN
def scF:List Nat→Nat→List Nat
 |[],c=>[c%65536]
 |x::r,c=>((c+x*10)%65536)::scF r ((c+x*10)/65536)
def Lim(l:List Nat):Prop:=∀x∈l,x<65536
theorem Hy:∀(l:List Nat) (c:Nat),(scF l c).length=l.length+1
 |[],_=>rfl
 |_::r,_=>by simp only[scF,yb,Hy r]
theorem zwV:∀(l:List Nat) (c:Nat),Lim (scF l c)
 |[],c=>fun x hx=>by simp only[scF,ziL,List.not_mem_nil,or_false]at hx;omega
 |y::r,c=>fun x hx=>by
  simp only[scF,ziL]at hx;rcases hx with rfl|hx
  ·omega
  ·exact zwV r _ x hx
def lg(x:List Nat×Nat):List AV:=[va x.1,.int .u32 (.ofNat 10),.int .u32 (.ofNat x.2)]
theorem zyz:∀x y,lg x=lg y→x=y:=fun⟨a,b⟩ ⟨c,d⟩ h=>by
 simp only[lg,va,List.cons.injEq,AV.lst.injEq,AV.int.injEq,true_and,and_true]at h;rw[Xs h.1.2,Int.ofNat.inj h.2]
theorem LO(x:List Nat×Nat):xY (lg x)=true:=by simp only[lg,va,wp,qe,vb,wA,xA]
def zzG(x:List Nat×Nat):Prop:=Lim x.1∧x.1.length<100000000∧x.2<65536
theorem zlp(a:Nat):vW .u16 (.ofNat a)=.ofNat (a%65536):=by
 rw[ky];unfold IntKind.wrap;simp only[IntKind.signed,Bool.false_and,Bool.false_eq_true,if_false];rfl
theorem zj5(a:Nat):ub .shr .u32 (.ofNat a) .u64 (.ofNat 16)=some (.int .u32 (.ofNat (a/65536))):=by
 show some (AV.int .u32 (Int.fdiv (.ofNat a) (.ofNat 65536)))=_;cases a<;>rfl
noncomputable def zrY:List AV→St→Option (AV×St):=vF lg zzG (fun x=>va (scF x.1 x.2))
theorem zpN(h:O 140=some zrY){l:List Nat}{c:Nat}(hp:zzG (l,c))(hv:wkV v=va l)(s:St):(evW env O).call 140 [v,.int .u32 (.ofNat 10),.int .u32 (.ofNat c)] s=some (va (scF l c),s):=by
 rw[wN h,zrY,qP zyz s (l,c) hp (by simp only[lg,wkL,hv,wkV])]
attribute [local go_sem] lg va zlp zj5 in
theorem zk4(B:Bx P w0)(hO:OrcOk P w0 O)(x:List Nat×Nat)(hx:zzG x):∃s1,SC P w0 140 (lg x) (s00 0 true) (va (scF x.1 x.2)) s1:=by
 refine be B hO f140 ?_;obtain⟨l,c⟩:=x;obtain⟨hlim,hl,hc⟩:=hx;simp only at hlim hl hc⊢;obtain⟨R,hR⟩:∃R,scF l c=R:=⟨_,rfl⟩;rw[hR];unfold f140;simp only[lg,va];refine xQ ?_;refine xQ ?_;refine xR (xR (xO ?_));refine xT ?_;refine wx (fun i:Nat×Nat×List Nat=>l.length-i.1) (fun i f t=>∃T L n m id,f=⟨tmL T,[]⟩∧t=KL L n m true [] none∧(tmL T).get 1=some (.int .u32 (.ofNat 10))∧(tmL T).get 2=some (.int .u32 (.ofNat i.2.1))∧(tmL T).get 7=some (jM ql 1 id i.2.2)∧(tmL T).get 10=some (.lst l.length false (xP ql l))∧(tmL T).get 11=some (.int .i64 (.ofNat l.length))∧(tmL T).get 12=some (.int .i64 (.ofNat i.1))∧i.1≤l.length∧i.2.1<65536∧i.2.2.length=i.1∧zxD 232 ql L n id i.2.2∧i.2.2++scF (l.drop i.1) i.2.1=R) (fun i f t hI=>?_) (0,c,[]) ⟨_,_,_,_,0,rfl,rfl,sW,sW,by simp (disch:=first|exact dis|fail)only[go_sem,seval,-rO,-rN,jM],sW,sW,sW,zQ _,hc,rfl,fun h=>absurd rfl h,hR⟩
 clear hR hc c;obtain⟨T,L,n,m,id,rfl,rfl,t1,t2,t7,t10,t11,t12,hi,hc,hol,hok,hR⟩:=hI;obtain⟨i,c,out⟩:=i;simp only at t2 t7 t12 hi hc hol hok hR⊢;rcases wi l i with ⟨hlt,hd⟩|⟨x,hlt,hd⟩
 ·rw[hd]at hR;simp only[scF]at hR;have hni:¬i<l.length:=oM;refine xO ?_;refine xR ?_;refine qt ?_;refine wc (GB ZL v7 Vp oM hok (ws:=[c%65536]) (by simp only[yb,xz];omega) (by simp only[yb,xz];omega)) fun v t hv=>?_
  obtain⟨id2,L2,n2,m2,rfl,rfl,_⟩:=hv;rw[hR];obtain⟨v0,hf,hz⟩:=zx6 (esz:=1) (id:=id2) (s:=KL [] 0 0 true [] none) v7 zst R;refine xO ?_;refine xO ?_;refine xW ?_;exact hz
 ·have hx:=hlim x (ziT (by rw[hd];exact zi0))
  have hcx:=zlz hd;rw[hd]at hR;simp only[scF]at hR;refine xQ ?_;refine xR (qW sW ?_);refine xO ?_;refine xR (xT ?_);refine xQ ?_;refine xQ ?_;refine xR ?_;refine qt ?_;refine wc (GB ZL v7 Vp oM hok (ws:=[(c+x*10)%65536]) (by simp only[yb,xz];omega) (by simp only[yb,xz];omega)) fun v t hv=>?_
  obtain⟨id2,L2,n2,m2,rfl,rfl,q1,_⟩:=hv;refine xO ?_;refine xO ?_;refine xO ?_;exact⟨(i+1,(c+x*10)/65536,out++[(c+x*10)%65536]),⟨_,_,_,_,id2,rfl,rfl,sV,sV,sV,sV,sV,sV,by simp only;omega,by simp only;omega,by simp only[yA,yb,xz];omega,q1,by rw[List.append_assoc];exact hR⟩,by simp only;omega⟩
def Ye(x:Bool×List Nat):List AV:=[.bool x.1,va x.2]
theorem zvZ:∀x y,Ye x=Ye y→x=y:=fun⟨a,b⟩ ⟨c,d⟩ h=>by
 simp only[Ye,va,List.cons.injEq,AV.lst.injEq,AV.bool.injEq,true_and,and_true]at h;rw[Xs h.2.2,h.1]
theorem zyA(x:Bool×List Nat):xY (Ye x)=true:=by simp only[Ye,va,wp,qe,jv,wA,xA]
def Qn(b:Bool)(l:List Nat):Bool:=b&&decide (0<(vH l).length)
def vK(b:Bool)(l:List Nat):AV:=.agg [.bool b,va l]
noncomputable def zx9:List AV→St→Option (AV×St):=vF Ye (fun x=>x.2.length<1000000000) (fun x=>vK (Qn x.1 x.2) (vH x.2))
theorem Wz(l:List Nat):(vH l).length≤l.length:=zm6 _ l
theorem ztx{l:List Nat}(h:Lim l):Lim (vH l):=fun x hx=>h x (zm7 hx)
theorem ztm(h:O 141=some zx9){b:Bool}{l:List Nat}(hl:l.length<1000000000)(hv:wkV v=va l)(s:St):(evW env O).call 141 [.bool b,v] s=some (vK (Qn b l) (vH l),s):=by
 rw[wN h,zx9,qP zvZ s (b,l) hl (by simp only[Ye,wkL,hv,wkV])]
theorem zyN{b:Bool}{l:List Nat}:Fz s (.agg [.bool b,.lst l.length false (xP ql l)]) (vK b l):=
 YB (x0 (w8 _ _) (x0 (vO (wG v7 _) (Zd _)) vC))
attribute [local go_sem] Ye va ltF gtF in
theorem zm3(B:Bx P w0)(hO:OrcOk P w0 O)(h139:O 139=some Wa)(x:Bool×List Nat)(hl:x.2.length<1000000000):∃s1,SC P w0 141 (Ye x) (s00 0 true) (vK (Qn x.1 x.2) (vH x.2)) s1:=by
 refine be B hO f141 ?_;obtain⟨b,l⟩:=x;have ht:=fun s=>YX h139 hl (v:=va l) (by simp only[va,wkV,Zd]) s
 simp only at hl ht;unfold f141;simp only[Ye,va,Qn]at ht⊢;have hp:xY (xP ql (vH l))=true:=wG v7 _;generalize vH l=r at *;cases b with
 |false=>
  refine xO ?_;refine xW ?_;exact zyN
 |true=>
  rw[Bool.true_and];by_cases h0:0<r.length
  ·rw[decide_eq_true h0];refine xO ?_;refine xW ?_;exact zyN
  ·rw[decide_eq_false h0];refine xO ?_;refine xW ?_;exact zyN
def Ws:List Nat→List Nat→List Nat
 |[],l=>l
 |c::r,l=>Ws r (vH (scF l (c-48)))
theorem PU:∀(s l:List Nat),(Ws s l).length≤l.length+s.length
 |[],_=>by simp[Ws]
 |c::r,l=>by
  have h1:=PU r (vH (scF l (c-48)));have h2:=Wz (scF l (c-48));have h3:=Hy l (c-48);simp only[Ws,yb];omega
def ngF:List Nat→Bool
 |[]=>false
 |c::_=>decide (c=45)
def zy4(s:List Nat):AV:=.tup [vK (Qn (ngF s) (Ws (trL kN s) [])) (vH (Ws (trL kN s) [])),.int .i64 (.ofNat 0)]
noncomputable def zrW:List AV→St→Option (AV×St):=vF pc (fun s=>Qq s∧YL s=true) zy4
theorem zkL{s:List Nat}(h:YL s=true):∃x r,trL kN s=x::r∧(x::r).all gR=true∧s.length≤r.length+2∧r.length+1≤s.length:=by
 have key:∀(c:Nat) (r:List Nat),(c::r).all gR=true→trL kN (c::r)=c::r:=fun c r h=>by
  rw[UV,if_neg];intro h2;simp only[List.all_cons,gR,zq,decide_eq_true_eq]at h;simp only[kN,Bool.or_eq_true,beq_iff_eq]at h2;omega
 cases s with
 |nil=>cases h
 | cons c r=>
  simp only[YL,Um]at h;by_cases hc:c=45
  ·rw[if_pos hc]at h;cases r with
   |nil=>cases h
   |cons x r=>
    simp only[zq]at h;refine⟨x,r,?_,h.2,by simp,by simp⟩
    rw[UV,if_pos (by rw[hc];rfl)]
    exact key x r h.2
  ·rw[if_neg hc]at h;simp only[zq]at h;exact⟨c,r,key c r h.2,h.2,by simp,by simp⟩
section
variable {P:Program}{w0:World}(B:Bx P w0){O:Orc}(hO:OrcOk P w0 O)
include B hO
attribute [local go_sem] pc va vK ltF gtF zyS in
theorem zkW(h138:O 138=some gTl)(h139:O 139=some Wa)(h140:O 140=some zrY)(h141:O 141=some zx9)(s:List Nat)(hs:Qq s)(hn:YL s=true):∃s1,SC P w0 110 (pc s) (s00 0 true) (zy4 s) s1:=by
 refine be B hO f110 ?_;have htl:=fun st=>zm4 h138 hs st;obtain⟨x,r,ht,hdig,hl1,hl2⟩:=zkL hn;obtain⟨hby,hlen⟩:=hs;obtain⟨R,hR⟩:∃R,zy4 s=R:=⟨_,rfl⟩;rw[hR];unfold zy4 at hR;rw[ht]at htl hR;have hlb:(trL kN s).length≤s.length:=zw7 _ _;rw[ht]at hlb;have hltlen:(x::r).length<2000000:=oM;have hd1:∀y∈x::r,48≤y∧y≤57:=fun y hy=>by
  have:=List.all_eq_true.1 hdig y hy
  simpa [gR]using this
 unfold f110;simp only[pc];obtain⟨c,q,rfl⟩:∃c q,s=c::q:=by
  cases s with
  |nil=>cases hn
  |cons c q=>exact⟨c,q,rfl⟩
 simp only[yb]at hl1 hl2;have hsub:¬(q.length+1-(r.length+1))>1:=oM;refine xQ ?_;refine xQ ?_;refine xQ ?_;refine xQ ?_;refine xR (xR (xO ?_));refine xT ?_;have hlr:r.length+1=(x::r).length:=rfl;have hbr:AV.int .u8 (.ofNat x)::ww r=ww (x::r):=rfl;rw[hlr,hbr];clear hlr hbr htl ht hl1 hl2 hlb hdig hsub hn hby;generalize x::r=D at *;refine wx (fun y:Nat×List Nat=>D.length-y.1) (fun y f t=>∃T v,f=⟨tmL T,[]⟩∧t=KL [(0,some (AObj.row 157 [AV.bool false,AV.nils] false false))] 1 0 true [] none∧(tmL T).get 0=some (.str (c::q))∧(tmL T).get 2=some (.ptr 0 0)∧(tmL T).get 5=some v∧(tmL T).get 22=some (.lst D.length false (ww D))∧(tmL T).get 23=some (.int .i64 (.ofNat D.length))∧(tmL T).get 24=some (.int .i64 (.ofNat y.1))∧wkV v=va y.2∧y.1≤D.length∧Ws (D.drop y.1) y.2=Ws D []∧Lim y.2∧y.2.length≤y.1) (fun y f t hI=>?_) (0,[]) ⟨_,.nils,rfl,rfl,sW,sW,sW,sW,sW,sW,rfl,zQ _,rfl,(fun y hy=>(by cases hy)),zu _⟩
 obtain⟨T,v,rfl,rfl,t0,t2,t5,t22,t23,t24,hv,hi,hp,hlim,hll⟩:=hI;obtain⟨i,l⟩:=y;simp only at t24 hv hi hp hlim hll⊢;rcases wi D i with ⟨hlt,hd⟩|⟨y,hlt,hd⟩
 ·have hni:¬i<D.length:=oM;rw[hd]at hp;simp only[Ws]at hp;rw[←hp]at hR;have htd:=fun b s=>ztm h141 (b:=b) (l:=l) oM hv s;subst hR;simp only[ngF,vK,va]at htd⊢;have hp1:xY (xP ql (vH l))=true:=wG v7 _;have hw1:wkL (xP ql (vH l))=xP ql (vH l):=Zd _;have hfin:∀(s:St) (b:Bool) (k:Nat) (cs:List AV),xY cs=true→wkL cs=cs→Fz s (.tup [.agg [.bool b,.lst k false cs],.int .i64 (.ofNat 0)]) (.tup [.agg [.bool b,.lst k false cs],.int .i64 (.ofNat 0)]):=fun s b k cs h1 h2=>by
   simp only[Fz];exact⟨_,rfl,x0 (YB (x0 (w8 _ _) (x0 (vO h1 h2) vC))) (x0 (wF _ _ _) vC)⟩
  clear hv hp hlim hd hlt;by_cases hc:c=45
  ·subst hc;simp only[decide_true];replace htd:=fun s=>htd true s;generalize Qn true l=tb at *;generalize xP ql (vH l)=cs at *;refine xO ?_;refine xO ?_;refine xW ?_;exact hfin _ _ _ _ hp1 hw1
  ·have hdc:decide (c=45)=false:=decide_eq_false hc;rw[hdc];replace htd:=fun s=>htd false s;generalize Qn false l=tb at *;generalize xP ql (vH l)=cs at *;refine xO ?_;refine xO ?_;refine xW ?_;exact hfin _ _ _ _ hp1 hw1
 ·have hb:wj 1 (ww (D.drop i))=some [.int .u8 (.ofNat y)]:=by rw[hd];rfl
  have hy:=hd1 y (ziT (by rw[hd];exact zi0))
  obtain⟨hy1,hy2⟩:=hy;rw[hd]at hp;simp only[Ws]at hp;have hsl:=Hy l (y-48);have hsm:=zwV l (y-48);have hsc:=fun s=>zpN h140 (l:=l) (c:=y-48) ⟨hlim,by simp only;omega,by simp only;omega⟩ hv s
  have htr:=fun s=>YX h139 (l:=scF l (y-48)) oM (v:=va (scF l (y-48))) (by simp only[va,wkV,Zd]) s
  have htl:=Wz (scF l (y-48));have htm:=ztx hsm;simp only[va]at hsc htr;rw[hsl]at htr;have hny:¬y<48:=oM;have hny2:¬57<y:=oM;clear hv hlim hd hsm;refine xO ?_;refine⟨(i+1,vH (scF l (y-48))),⟨_,.lst (vH (scF l (y-48))).length false (xP ql (vH (scF l (y-48)))),rfl,trivial,sV,sV,sV,sV,sV,sV,by simp only[va,wkV,Zd],by simp only;omega,hp,htm,by simp only;omega⟩,by simp only;omega⟩
end
def UJ:List Nat×ICode×ICode:=match f164.body with
 |.seq _ (.seq _ (.seq _ (.seq _ (.seq (.seq _ (.block _ (.rf _ ps a b))) _))))=>(ps,a,b)
 |_=>([],.skip,.skip)
theorem zjY(a b:Int):∃w,ub .or .u64 a .u64 b=some (.int .u64 w):=⟨_,rfl⟩
theorem zk7(a:Int):∃w,ub .shl .u64 a .u64 (.ofNat 16)=some (.int .u64 w):=⟨_,rfl⟩
section
variable {O:Orc}
theorem zsf(h:O 177=none){l:List Nat}{L:List (Nat×Option AObj)}{n m:Nat}(b:Bool):
  Cv ((evW env O).call 177 [.lst l.length false (xP ql l)] (KL L n m b [] none)) fun v t=>∃m2,v=.fn 181 [] [.ptr n 0]∧t=KL ((n,some (.row 155 [.lst l.length false (xP ql l)] false false))::L) (n+1) m2 b [] none:=by
 refine qb (F:=f177) h rfl rfl (ziw rfl) ?_;unfold f177;simp only[Ko];refine xQ ?_;refine xQ ?_;refine xO ?_;refine xW ?_;exact⟨_,rfl,rfl⟩
attribute [local go_sem] ltF gtF xZ x4 ziJ ziN ziM ziH wZ UJ f164 in
theorem zvh(h181:O 181=none){L:List (Nat×Option AObj)}{m nb ab l dd:Nat}{tF:List (Nat×AV)}{ls:List Nat}{z:Int}(hl:ls.length<1000000)(gnb:xN L nb=some (.row 155 [.lst ls.length false (xP ql ls)] false false))(gl:xN L l=some (.loop .ready none (tmL tF) UJ.1 UJ.2.1 UJ.2.2 dd))(t5:(tmL tF).get 5=some (.ptr ab 0))(gab:xN L ab=some (.row 145 [.int .u64 z] false false))(h1:nb≠ab∧nb≠l∧ab≠l)(b:Bool):
  Cv ((evW env O).call 181 [.yld l,.ptr nb 0] (KL L n m b [] none)) fun v t=>∃z2 L2 m2,t=KL L2 n m2 b [] none∧xN L2 l=some (.loop .ready none (tmL tF) UJ.1 UJ.2.1 UJ.2.2 dd)∧xN L2 ab=some (.row 145 [.int .u64 z2] false false)∧∀j,j≠ab→j≠l→xN L2 j=xN L j:=by
 refine qb (F:=f181) h181 rfl rfl (ziw rfl) ?_;have hs3:=ZE (k:=ls.length) oM;unfold f181;simp only[Ko,Ki];refine xQ ?_;refine xT ?_;refine wx (fun k:Nat=>k) (fun k fr s=>∃T L2 m2 z2,fr=⟨tmL T,[]⟩∧s=KL L2 n m2 false [] none∧(tmL T).get 0=some (.yld l)∧(tmL T).get 1=some (.ptr nb 0)∧(tmL T).get 3=some (.int .i64 (i3 k))∧k≤ls.length∧xN L2 l=some (.loop .ready none (tmL tF) UJ.1 UJ.2.1 UJ.2.2 dd)∧xN L2 ab=some (.row 145 [.int .u64 z2] false false)∧∀j,j≠ab→j≠l→xN L2 j=xN L j) (fun k2 fr s hI=>?_) ls.length ⟨_,L,m,z,rfl,rfl,sW,sW,sW,oM,gl,gab,fun _ _ _=>rfl⟩;obtain⟨T,L2,m2,z2,rfl,rfl,q0,q1,q3,hk3,gl2,gab2,hfr⟩:=hI;have gnb2:xN L2 nb=some (.row 155 [.lst ls.length false (xP ql ls)] false false):=by rw[hfr nb h1.1 h1.2.1];exact gnb
 cases k2 with
 |zero=>
  simp only[i3]at q3;clear gnb gab hs3 gl;refine xO ?_;refine xW ?_;exact⟨z2,L2,m2,rfl,gl2,gab2,hfr⟩
 |succ k2=>
  have hlt:k2<ls.length:=oM;obtain⟨x,hd⟩:∃x,ls.drop k2=x::ls.drop (k2+1):=⟨_,ziO hlt⟩;have hcx:=zlz hd;have hs2:=ZE (k:=k2) oM;obtain⟨w1,hw1⟩:=zk7 z2;obtain⟨w2,hw2⟩:=zjY w1 (vW .u64 (.ofNat x));obtain⟨e1,e2,e3⟩:=h1;clear gnb gab hs3 gl hd;simp only[i3]at q3;have e4:=e3.symm;replace hfr:=fun j h1 h2=>(hfr j h1 h2).symm;refine xO ?_;refine⟨k2,⟨_,_,_,w2,rfl,rfl,sV,sV,sV,oM,sV,sV,fun j h1 h2=>?_⟩,oM⟩
  (repeat (rw[xL,if_neg oM]))
  exact(hfr j h1 h2).symm
end
section
variable {α:Type}
open Classical in
noncomputable def exV(P:Program)(w0:World)(f:Nat)(enc:α→List AV)(Good:α→AV→Prop)(x:α):AV:=
 if h:∃v,Good x v∧wq v=true∧∃s1,SC P w0 f (enc x) (s00 0 true) v s1 then Classical.choose h else .bool true
def Y0(P:Program)(w0:World)(f:Nat)(enc:α→List AV)(Pre:α→Prop)(Good:α→AV→Prop):Prop:=∀x,Pre x→∃v,Good x v∧wq v=true∧∃s1,SC P w0 f (enc x) (s00 0 true) v s1
noncomputable def Qv(P:Program)(w0:World)(f:Nat)(enc:α→List AV)(Pre:α→Prop)(Good:α→AV→Prop):List AV→St→Option (AV×St):=vF enc Pre (exV P w0 f enc Good)
theorem Za{f:Nat}{enc:α→List AV}{Good:α→AV→Prop}{x:α}(h:∃v,Good x v∧wq v=true∧∃s1,SC P w0 f (enc x) (s00 0 true) v s1):Good x (exV P w0 f enc Good x)∧wq (exV P w0 f enc Good x)=true∧∃s1,SC P w0 f (enc x) (s00 0 true) (exV P w0 f enc Good x) s1:=by
 unfold exV;rw[dif_pos h];exact Classical.choose_spec h
theorem zul{f:Nat}{enc:α→List AV}{Pre:α→Prop}{Good:α→AV→Prop}(he:∀x,xY (enc x)=true)(h:Y0 P w0 f enc Pre Good):qz P w0 f (Qv P w0 f enc Pre Good):=by
 refine Wh true he (fun x=>?_) fun x hp=>(Za (h x hp)).2.2;by_cases hx:∃v,Good x v∧wq v=true∧∃s1,SC P w0 f (enc x) (s00 0 true) v s1
 ·exact(Za hx).2.1
 ·unfold exV;rw[dif_neg hx];rfl
theorem LZ{f:Nat}{enc:α→List AV}{Pre:α→Prop}{Good:α→AV→Prop}(hO:O f=some (Qv P w0 f enc Pre Good))(h:Y0 P w0 f enc Pre Good)(inj:∀x y,enc x=enc y→x=y)(x:α)(hp:Pre x){args:List AV}(ha:wkL args=enc x):∃v,Good x v∧wq v=true∧∀s,(evW env O).call f args s=some (v,s):=
 ⟨exV P w0 f enc Good x,(Za (h x hp)).1,(Za (h x hp)).2.1,fun s=>oc hO inj x hp ha s⟩
end
theorem beX(B:Bx P w0)(hO:OrcOk P w0 O){f:Nat}(F:IFunc){args:List AV}{G:AV→Prop}(h:Ev (evC env (evW env O) none F.body ⟨wL (tmL []) 0 args,[]⟩ (KL [] 0 0 true [] none)) fun r fr t=>Cv (pK (KL [] 0 0 true [] none) (wT env.globs F.res (some (r,fr,t)))) fun v0 s1=>∃v,G v∧wq v=true∧Fz s1 v0 v)(hF:env.funs.get f=some F:=by exact rfl)(hp:env.pure f=true:=by exact rfl)(ha:args.length≤F.ntmps:=by exact Nat.le_of_ble_eq_true rfl):∃v,G v∧wq v=true∧∃s1,SC P w0 f args (s00 0 true) v s1:=by
 obtain⟨r,fr,t,e,v0,s1,e2,v,hg,hpu,hz⟩:=h;exact⟨v,hg,hpu,be B hO F ⟨r,fr,t,e,v0,s1,e2,hz⟩ hF hp ha⟩
def uc(x:Bool×List Nat):List AV:=[vK x.1 x.2]
theorem JU:∀x y,uc x=uc y→x=y:=fun⟨a,b⟩ ⟨c,d⟩ h=>by
 simp only[uc,vK,va,List.cons.injEq,AV.lst.injEq,AV.bool.injEq,AV.agg.injEq,true_and,and_true]at h;rw[Xs h.2.2,h.1]
theorem pZ(b:Bool)(l:List Nat):wq (vK b l)=true:=by simp only[vK,va,vw,wp,qe,jv,wA,xA]
theorem VI(x:Bool×List Nat):xY (uc x)=true:=by simp only[uc,wp,pZ,wA,xA]
theorem J0(b:Bool)(l:List Nat):wkV (vK b l)=vK b l:=by simp only[vK,va,wkV,wkL,Zd]
def GSm(_:Bool×List Nat)(v:AV):Prop:=∃k b,v=.tup [.int .i64 k,.bool b]
def lw(x:Bool×List Nat):Prop:=x.2.length<100000000
theorem pt(k:Int)(b:Bool):∃v,(∃k b,v=AV.tup [.int .i64 k,.bool b])∧wq v=true∧Fz s (.tup [.int .i64 k,.bool b]) v:=by
 refine⟨_,⟨k,b,rfl⟩,rfl,?_⟩;simp only[Fz];exact⟨_,rfl,x0 (wF _ _ _) (x0 (w8 _ _) vC)⟩
section
variable {P:Program}{w0:World}(B:Bx P w0){O:Orc}(hO:OrcOk P w0 O)
include B hO
attribute [local go_sem] va vK ltF gtF xZ x4 ziJ ziN ziM ziH wZ in
theorem zpW(h139:O 139=some Wa)(h177:O 177=none)(h181:O 181=none):Y0 P w0 164 uc lw GSm:=by
 intro x hx;refine beX B hO f164 ?_;obtain⟨g,l⟩:=x;have hx:l.length<100000000:=hx;have htr:=fun s=>YX h139 (l:=l) oM (v:=va l) (by simp only[va,wkV,Zd]) s
 have hbw:=fun(ls:List Nat) L n m b=> @zsf O h177 ls L n m b;simp only[uc,vK,va]at htr⊢;generalize vH l=ls at *;unfold f164;simp only[Ko,Kg,Kn,Ki];by_cases h4:4<ls.length
 ·refine xQ ?_;refine xQ ?_;refine xQ ?_;refine xW ?_;exact pt _ _
 ·refine xQ ?_;refine xQ ?_;refine xQ ?_;refine xQ ?_;refine xR (xR (qt ?_));refine wc (hbw ls _ _ _ _) fun v t hv=>?_;obtain⟨m2,rfl,rfl⟩:=hv;refine xO ?_;refine xT ?_;refine qt ?_;refine zrw (zvh h181 (ls:=ls) (ab:=1) (z:=.ofNat 0) oM ?_ (xS _ _ _) ?_ ?_ ?_ _) fun v t hv=>?_
  ·simp (disch:=first|exact dis|fail)only[go_sem,seval,-rO,-rN]
  ·simp (disch:=first|exact dis|fail)only[go_sem,seval,-rO,-rN]
  ·simp (disch:=first|exact dis|fail)only[go_sem,seval,-rO,-rN]
  ·simp (disch:=first|exact dis|fail)only[go_sem,seval,-rO,-rN]
  obtain⟨z2,L2,m3,rfl,gl,gz,hfr⟩:=hv;simp only[UJ,f164]at gl;have gdf:=hfr 3 oM oM;have g0:=hfr 0 oM oM;simp (disch:=first|exact dis|fail)only[go_sem,seval,-rO,-rN]at gdf
  simp (disch:=first|exact dis|fail)only[go_sem,seval,-rO,-rN]at g0
  clear hfr hbw htr;refine xO ?_;obtain⟨w,hw⟩:∃w,vUn .neg (.int .u64 z2)=some (.int .u64 w):=⟨_,rfl⟩;cases g with
  | true=>
   cases c1:ltD (.ofNat 9223372036854775808) z2 with
   |false=>
    refine xQ ?_;rw[uL (by (repeat rw[xL,if_neg oM]);exact gdf)]
    refine xW ?_;exact pt _ _
   |true=>
    refine xQ ?_;refine xO ?_;rw[uL (by (repeat rw[xL,if_neg oM]);exact gdf)]
    refine xW ?_;exact pt _ _
  | false=>
   cases c1:ltD (.ofNat 9223372036854775807) z2 with
   |false=>
    refine xQ ?_;rw[uL (by (repeat rw[xL,if_neg oM]);exact gdf)]
    refine xW ?_;exact pt _ _
   |true=>
    refine xQ ?_;refine xO ?_;rw[uL (by (repeat rw[xL,if_neg oM]);exact gdf)]
    refine xW ?_;exact pt _ _
attribute [local go_sem] va vK ltF gtF in
theorem zky(h164:O 164=some (Qv P w0 164 uc lw GSm))(hs:Y0 P w0 164 uc lw GSm):Y0 P w0 142 uc lw GSm:=by
 intro x hx;refine beX B hO f142 ?_;obtain⟨v,⟨k,g2,rfl⟩,hpv,hcall⟩:=LZ h164 hs JU x hx (args:=uc x) (by simp only[uc,wkL,J0])
 obtain⟨g,l⟩:=x;simp only[uc,vK,va]at hcall⊢;unfold f142;simp only[Ko,Kg,Ki];cases g2 with
 |false=>
  refine xQ ?_;refine xQ ?_;refine xQ ?_;refine xW ?_;exact pt _ _
 | true=>
  cases c1:ltD k (.negSucc 536870911)with
  |true=>
   refine xQ ?_;refine xQ ?_;refine xQ ?_;refine xW ?_;exact pt _ _
  | false=>
   cases c2:ltD (.ofNat 536870911) k with
   |true=>
    refine xQ ?_;refine xQ ?_;refine xQ ?_;refine xW ?_;exact pt _ _
   |false=>
    refine xQ ?_;refine xQ ?_;refine xQ ?_;refine xO ?_;refine xW ?_;exact pt _ _
end
structure Vl where
 k:Int
 n:Int
def xX(v:Vl):List AV:=[.int .i64 v.k,.int .i64 v.n]
theorem jV(v:Vl):(xX v).length=2:=rfl
theorem pW(v:Vl):xY (xX v)=true:=rfl
theorem pX(v:Vl):wd (xX v)=true:=rfl
theorem JL(v:Vl):wkL (xX v)=xX v:=by simp only[xX,wkL,wkV]
theorem zz7:∀x y:Vl,xX x=xX y→x=y:=fun⟨a,b⟩ ⟨c,d⟩ h=>by
 simp only[xX,List.cons.injEq,AV.int.injEq,true_and,and_true]at h;rw[h.1,h.2]
theorem zrC{l r:List Vl}(h:xP xX l=xP xX r):l=r:=j0 (k:=2) jV oM zz7 h
theorem zx3(l:List Vl):wkL (xP xX l)=xP xX l:=vN JL l
theorem X9(l:List Vl):xY (xP xX l)=true:=wG pW l
theorem Pa(l:List Vl):(xP xX l).length=l.length*2:=vu jV l
def vq(l:List Vl):AV:=.lst l.length false (xP xX l)
theorem YJ(l:List Vl):wq (vq l)=true:=by simp only[vq,qe]
theorem zqs(l:List Vl):wkV (vq l)=vq l:=by simp only[vq,wkV,zx3]
theorem GM{l:List Vl}{i:Nat}{o:Vl}{r:List Vl}(hd:l.drop i=o::r):wj 2 (wH (i*2) (xP xX l))=some (xX o):=WS jV hd
def jD(t:List Nat):List Vl:=((kY t).getD []).map fun c=>⟨.ofNat 2,.ofNat c⟩
theorem Vu{t l:List Nat}(h:kY t=some l):l.length≤t.length:=by
 unfold kY at h;split at h
 ·rename_i l2 h2
  have:=Q3 (b:=t) (by simp) (by simp) h2
  simp only[Option.some.injEq]at h;rw[←h,List.length_map];exact this
 ·cases h
theorem zya(t:List Nat):(jD t).length≤t.length:=by
 unfold jD;rw[List.length_map];cases h:kY t with
 |none=>simp
 |some l=>simpa using Vu h
noncomputable def V5:List AV→St→Option (AV×St):=vF pc Qq (fun t=>vq (jD t))
theorem Vs(h:O 113=some V5){t:List Nat}(hp:Qq t)(s:St):(evW env O).call 113 [.str t] s=some (vq (jD t),s):=by
 rw[wN h,V5,qP Xm s t hp rfl]
theorem zjA{l:List Nat}{i:Nat}{o:Nat}{r:List Nat}(hd:l.drop i=o::r):wj 1 (wH i (uz l))=some [.int .i64 (.ofNat o)]:=by
 rw[Lv,hd];rfl
section
variable {P:Program}{w0:World}(B:Bx P w0){O:Orc}(hO:OrcOk P w0 O)
include B hO
attribute [local go_sem] pc vq in
theorem zsw(h109:O 109=some V6)(t:List Nat)(hp:Qq t):∃s1,SC P w0 113 (pc t) (s00 0 true) (vq (jD t)) s1:=by
 refine be B hO f113 ?_;have hcc:=fun s=>Vv (f:=109) h109 hp.1 hp.2 s;have hlen:=hp.2;have hcr:∃l er,kZ t=.tup [.lst l.length false (uz l),.int .i64 (.ofNat er)]∧jD t=l.map (fun c=>⟨.ofNat 2,.ofNat c⟩)∧l.length≤t.length:=by
  unfold kZ jD;cases h:kY t with
  |none=>exact⟨[],4,rfl,rfl,by simp⟩
  |some l=>exact⟨l,0,rfl,rfl,Vu h⟩
 obtain⟨l,er,h1,h2,hl⟩:=hcr;rw[h1]at hcc;rw[h2];obtain⟨R,hR⟩:∃R,l.map (fun c=>(⟨.ofNat 2,.ofNat c⟩:Vl))=R:=⟨_,rfl⟩;rw[hR];clear h1 h2;unfold f113;simp only[pc,vq];refine xQ ?_;refine xQ ?_;refine xR (xR (xO ?_));refine xT ?_;refine wx (fun x:Nat×List Vl=>l.length-x.1) (fun x f t=>∃T L n m id,f=⟨tmL T,[]⟩∧t=KL L n m true [] none∧(tmL T).get 2=some (jM xX 2 id x.2)∧(tmL T).get 12=some (.lst l.length false (uz l))∧(tmL T).get 13=some (.int .i64 (.ofNat l.length))∧(tmL T).get 14=some (.int .i64 (.ofNat x.1))∧x.1≤l.length∧x.2.length=x.1∧zxD 131 xX L n id x.2∧x.2++(l.drop x.1).map (fun c=>⟨.ofNat 2,.ofNat c⟩)=R) (fun x f t hI=>?_) (0,[]) ⟨_,_,_,_,0,rfl,rfl,by simp (disch:=first|exact dis|fail)only[go_sem,seval,-rO,-rN,jM],sW,sW,sW,zQ _,rfl,fun h=>absurd rfl h,hR⟩
 clear hR;obtain⟨T,L,n,m,id,rfl,rfl,t2,t12,t13,t14,hi,hol,hok,hR⟩:=hI;obtain⟨i,out⟩:=x;simp only at t2 t14 hi hol hok hR⊢;rcases wi l i with ⟨hlt,hd⟩|⟨x,hlt,hd⟩
 ·have hni:¬i<l.length:=oM;rw[hd]at hR;simp only[List.map_nil,ziA]at hR;subst hR;obtain⟨v0,hf,hz⟩:=zx6 (esz:=2) (id:=id) (s:=KL [] 0 0 true [] none) pW JL out;refine xO ?_;refine xO ?_;refine xW ?_;exact hz
 ·have hcx:=zjA hd;rw[hd,List.map_cons]at hR;refine xQ ?_;refine xR (qW sW ?_);refine xO ?_;refine xR (xT ?_);refine xQ ?_;refine qt ?_;refine wc (GB jV pW pX oM hok (ws:=[⟨.ofNat 2,.ofNat x⟩]) (by simp only[yb,xz];omega) (by simp only[yb,xz];omega)) fun v t hv=>?_
  obtain⟨id2,L2,n2,m2,rfl,rfl,q1,_⟩:=hv;refine xO ?_;refine xO ?_;exact⟨(i+1,out++[⟨.ofNat 2,.ofNat x⟩]),⟨_,_,_,_,id2,rfl,rfl,sV,sV,sV,sV,by simp only;omega,by simp only[yA,yb,xz];omega,q1,by rw[List.append_assoc];exact hR⟩,by simp only;omega⟩
end
structure Ob where
 c:List AV
 len:c.length=5
 sc:wd c=true
structure Sto where
 obs:List Ob
 oid:Nat
 ys:List Vl
 yid:Nat
 bs:List Nat
def Sto.row(S:Sto):AObj:=.row 114 [.bool true,.nils,gSl 5 S.oid S.obs.length,gSl 2 S.yid S.ys.length,.nils,.nils] false false
def SymAt(L:List (Nat×Option AObj))(bs:List Nat)(obs:List Ob)(y:Vl):Prop:=∃(i a bid:Nat) (oi oa:Ob) (l:List Vl),y=⟨.ofNat 7,.ofNat i⟩∧obs[i]? =some oi∧obs[a]? =some oa∧wj 1 (wH 2 oi.c)=some [.sl bid 0 1 (.fix 1)]∧bid∈bs∧xN L bid=some (.row 131 (xX ⟨.ofNat 7,.ofNat a⟩) false false)∧wj 1 (wH 2 oa.c)=some [vq l]∧l.length<2000000
structure StOk(sp:Nat)(L:List (Nat×Option AObj))(n:Nat)(S:Sto):Prop where
 wf:WfA L n
 row:xN L sp=some S.row
 go:GAt 164 Ob.c L 0 n S.oid S.obs
 gy:GAt 131 xX L 0 n S.yid S.ys
 sy:∀y∈S.ys,SymAt L S.bs S.obs y
 bl:∀b∈S.bs,∃cs,xN L b=some (.row 131 cs false false)
theorem SymAt.mono{L L2:List (Nat×Option AObj)}{bs bs2:List Nat}{obs more:List Ob}{y:Vl}(h:SymAt L bs obs y)(hb:∀b∈bs,b∈bs2)(hf:∀j∈bs,xN L2 j=xN L j):SymAt L2 bs2 (obs++more) y:=by
 obtain⟨i,a,bid,oi,oa,l,e,h1,h2,h3,h4,h5,h6,h7⟩:=h;have hi:i<obs.length:=(List.getElem?_eq_some_iff.1 h1).1;have ha:a<obs.length:=(List.getElem?_eq_some_iff.1 h2).1;exact⟨i,a,bid,oi,oa,l,e,by rw[yB hi];exact h1,by rw[yB ha];exact h2,h3,hb _ h4,by rw[hf bid h4];exact h5,h6,h7⟩
section
variable {sp n:Nat}{L:List (Nat×Option AObj)}{S:Sto}
theorem StOk.spn(h:StOk sp L n S):sp<n:=h.wf.lt h.row
theorem StOk.ne_o(h:StOk sp L n S){j t:Nat}{cs:List AV}(hg:xN L j=some (.row t cs false false))(h0:S.obs≠[]):j≠S.oid:=fun e=>by
 have:=(h.go h0).2.2;rw[←e,hg]at this;simp at this
theorem StOk.ne_y(h:StOk sp L n S){j t:Nat}{cs:List AV}(hg:xN L j=some (.row t cs false false))(h0:S.ys≠[]):j≠S.yid:=fun e=>by
 have:=(h.gy h0).2.2;rw[←e,hg]at this;simp at this
theorem StOk.sp_o(h:StOk sp L n S)(h0:S.obs≠[]):sp≠S.oid:=h.ne_o h.row h0
theorem StOk.sp_y(h:StOk sp L n S)(h0:S.ys≠[]):sp≠S.yid:=h.ne_y h.row h0
theorem StOk.o_y(h:StOk sp L n S)(h0:S.obs≠[])(h1:S.ys≠[]):S.oid≠S.yid:=fun e=>by
 have h2:=(h.go h0).2.2;have h3:=(h.gy h1).2.2;rw[e,h3]at h2;simp at h2
end
theorem StOk.bne{sp b:Nat}{L:List (Nat×Option AObj)}{S:Sto}(h:StOk sp L n S)(hb:b∈S.bs):b<n∧b≠sp∧(S.obs≠[]→b≠S.oid)∧(S.ys≠[]→b≠S.yid):=by
 obtain⟨cs,hg⟩:=h.bl b hb;exact⟨h.wf.lt hg,fun e=>by rw[e,h.row]at hg;simp[Sto.row]at hg,h.ne_o hg,h.ne_y hg⟩
theorem wR(esz id k:Nat):(gSl esz id k).cells=[gSl esz id k]:=by cases k<;>rfl
section
variable {O:Orc}
attribute [local go_sem] ltF gtF xZ x4 ziJ ziN ziM ziH wZ wP wR in
theorem zlR(h112:O 112=none){sp:Nat}{L:List (Nat×Option AObj)}{S:Sto}(h:StOk sp L n S)(hN:S.obs.length<100000000)(o:Ob)(m:Nat):
  Cv ((evW env O).call 112 [.ptr sp 0,.agg o.c] (KL L n m false [] none)) fun v t=>∃L2 n2 m2 oid2,v=.agg (xX ⟨.ofNat 7,.ofNat S.obs.length⟩)∧t=KL L2 n2 m2 false [] none∧StOk sp L2 n2 {S with obs:=S.obs++[o],oid:=oid2}∧n≤n2∧n≤oid2∧∀j,j<n→j≠sp→(S.obs≠[]→j≠S.oid)→xN L2 j=xN L j:=by
 refine qb (F:=f112) h112 rfl rfl (ziw rfl) ?_;obtain⟨obs,oid,ys,yid,bs⟩:=S;have hw:=h.wf;have hr:=h.row;have hsp:=h.spn;obtain⟨oc,ol,os⟩:=o;simp only[Sto.row]at hr hN⊢;have ht5:wj 5 oc=some oc:=w6 ol;have hlN:qg oc=5:=by rw[wV];exact ol
 have hov:XG [.int .i64 (.ofNat 0),.int .i64 (.ofNat 0),.nils,.bool false,.nils] oc=some oc:=UA (by rw[ol];rfl)
 unfold f112;simp only[Ko,Kn,Kd,Kf,Ki];refine xQ ?_;cases obs with
 | nil=>
  simp only[xz,gSl]at hr;have hap:=fun L n m e x f=> @zxG L n m 164 e 5 72 oc x f ol oM oM;refine xQ ?_;refine xO ?_;refine xW ?_;refine⟨_,_,_,n+1+1+1,rfl,rfl,?_,?_,?_,fun j h1 h2 h3=>?_⟩
  ·refine⟨?_,?_,fun _=>⟨zQ _,by simp only;omega,?_⟩,fun hne=>?_,fun y hy=>(h.sy y hy).mono (fun _ hb=>hb) fun j hj=>?_,fun b hb=>?_⟩
   ·(repeat first|exact hw.up oM|refine WfA.same ?_ oM)
   ·(repeat first|exact xS _ _ _|rw[xL,if_neg oM])
   ·simp only[ziQ,xP,ziA]
    (repeat first|exact xS _ _ _|rw[xL,if_neg oM])
   ·obtain⟨q1,q2,q3⟩:=h.gy hne;refine⟨q1,by simp only at q2⊢;omega,?_⟩
    have:=(h.sp_y hne).symm;simp only at q2 this
    (repeat rw[xL,if_neg (by simp only;omega)])
    exact q3
   ·obtain⟨q1,q2,_⟩:=h.bne hj
    (repeat rw[xL,if_neg oM])
   ·obtain⟨q1,q2,_⟩:=h.bne hb;obtain⟨cs,hcs⟩:=h.bl b hb;refine⟨cs,?_⟩
    (repeat rw[xL,if_neg oM])
    exact hcs
  ·omega
  ·omega
  ·(repeat rw[xL,if_neg oM])
 | cons u us=>
  obtain⟨_,hid,hgi⟩:=h.go (by simp)
  have hso:=h.sp_o (by simp)
  simp only at hid hgi hso hN;have hfl:(xP Ob.c (u::us)).length=(u::us).length *5:=vu Ob.len _;have hgi2:∀o1 o2,xN ((n+1,o1)::(n,o2)::L) oid=some (.row 164 (xP Ob.c (u::us)) true false):=fun o1 o2=>by rw[xL,if_neg oM,xL,if_neg oM];exact hgi
  have ha:=fun o1 o2 m e x f=> @zxH ((n+1,o1)::(n,o2)::L) (n+1+1) m 164 e 5 72 oid (u::us).length false (xP Ob.c (u::us)) oc x f oM (hgi2 o1 o2) hfl ol oM os oM oM;obtain⟨k,hk⟩:∃k,(u::us).length=k+1:=⟨us.length,rfl⟩;rw[hk]at ha hr hN hfl;simp only[gSl]at hr;have hso2:=hso.symm;have hcat:xP Ob.c (u::us)++oc=xP Ob.c ((u::us)++[⟨oc,ol,os⟩]):=by rw[wQ,qM]
  rw[hcat]at ha;clear hgi2 hcat
  rw[hk];have hk2:((u::us)++[(⟨oc,ol,os⟩:Ob)]).length=k+1+1:=by rw[yA,hk];rfl
  have hsy:=fun y hy L2 hf=>(h.sy y hy).mono (L2:=L2) (more:=[⟨oc,ol,os⟩]) (fun _ hb=>hb) hf;have hbn:=fun b hb=>h.bne (b:=b) hb;have hbl:=h.bl;have hgy:=h.gy;have hoy:=h.o_y (by simp)
  have hpy:=h.sp_y;simp only at hsy hgy hoy hpy hbn hbl;clear h;generalize (u::us)++[(⟨oc,ol,os⟩:Ob)]=nobs at *;refine xQ ?_;refine xO ?_;refine xW ?_;refine⟨_,_,_,n+1+1+1,rfl,rfl,?_,?_,?_,fun j h1 h2 h3=>?_⟩
  ·refine⟨?_,?_,fun _=>⟨zQ _,by simp only;omega,?_⟩,fun hne=>?_,fun y hy=>hsy y hy _ fun j hj=>?_,fun b hb=>?_⟩
   ·(repeat first|exact hw.up oM|refine WfA.same ?_ oM)
   ·simp only[Sto.row,hk2,gSl]
    (repeat first|exact xS _ _ _|rw[xL,if_neg oM])
   ·(repeat first|exact xS _ _ _|rw[xL,if_neg (by simp only;omega)])
   ·obtain⟨q1,q2,q3⟩:=hgy hne;refine⟨q1,by simp only at q2⊢;omega,?_⟩
    have e1:=(hpy hne).symm;have e2:=(hoy hne).symm
    try simp only at q2
    try simp only at e1
    try simp only at e2
    (repeat rw[xL,if_neg (by simp only;omega)])
    exact q3
   ·obtain⟨q1,q2,q3,_⟩:=hbn j hj;have:=q3 (by simp)
    (repeat rw[xL,if_neg oM])
   ·obtain⟨q1,q2,q3,_⟩:=hbn b hb;have:=q3 (by simp)
    obtain⟨cs,hcs⟩:=hbl b hb;refine⟨cs,?_⟩
    (repeat rw[xL,if_neg oM])
    exact hcs
  ·omega
  ·omega
  ·have:=h3 (by simp)
   (repeat rw[xL,if_neg oM])
end
theorem zik(x1 x2 y1 y2:Int):∃q,pL (.flat [.i,.i]) true (.agg [.int .i64 x1,.int .i64 x2]) (.agg [.int .i64 y1,.int .i64 y2])=some (.bool q):=by
 simp only[pL,eqV,lh,eq1,uG,cond_true];cases eqI x1 y1<;>cases eqI x2 y2<;>exact⟨_,rfl⟩
section
variable {O:Orc}
theorem zjG(h165:O 165=none){sp:Nat}{L:List (Nat×Option AObj)}{S:Sto}(hr:xN L sp=some S.row)(n m:Nat)(b:Bool):
  (evW env O).call 165 [.ptr sp 0] (KL L n m b [] none)=some (.bool true,KL L n m b [] none):=by
 have key:Cv ((evW env O).call 165 [.ptr sp 0] (KL L n m b [] none)) fun v t=>v=.bool true∧t=KL L n m b [] none:=by
  refine qb (F:=f165) h165 rfl rfl (ziw rfl) ?_;simp only[Sto.row]at hr;have heq:pL .ptr true (.ptr sp 0) .nilp=some (.bool true):=rfl;unfold f165;simp only[Ko,Kg];refine xO ?_;refine xW ?_;exact⟨rfl,rfl⟩
 obtain⟨v,t,h,rfl,rfl⟩:=key;exact h
attribute [local go_sem] ltF gtF xZ x4 ziJ ziN ziM ziH wZ wP wR in
theorem zr4(h144:O 144=none)(h165:O 165=none){sp n:Nat}{L:List (Nat×Option AObj)}{S:Sto}(hr:xN L sp=some S.row)(hsp:sp<n){i:Nat}(hi:i<S.obs.length)(hN:S.obs.length<1000000000)(m:Nat)(b:Bool):
  Cv ((evW env O).call 144 [.ptr sp 0,.agg [.int .i64 (.ofNat 7),.int .i64 (.ofNat i)]] (KL L n m b [] none)) fun v t=>∃m2,v=.ptr S.oid (i*5)∧t=KL ((n,some (.row 131 [.int .i64 (.ofNat 7),.int .i64 (.ofNat i)] false false))::L) (n+1) m2 b [] none:=by
 refine qb (F:=f144) h144 rfl rfl (ziw rfl) ?_;have hr2:xN ((n,some (.row 131 [.int .i64 (.ofNat 7),.int .i64 (.ofNat i)] false false))::L) sp=some S.row:=by rw[xL,if_neg oM];exact hr
 have his:=fun m b=>zjG h165 hr2 (n+1) m b;obtain⟨obs,oid,ys,yid,bs⟩:=S;simp only[Sto.row]at hr hi hN;obtain⟨k,hk⟩:∃k,obs.length=k+1:=⟨obs.length-1,oM⟩;rw[hk]at hr hi hN;simp only[gSl]at hr;clear hr2 hk;have hni:¬k+1≤i:=oM;unfold f144;simp only[Ko,Kd,Ke,Ki];refine xQ ?_;refine xQ ?_;refine xO ?_;refine xW ?_;exact⟨_,rfl,rfl⟩
attribute [local go_sem] wP in
theorem zkc(h143:O 143=none)(a b:List Vl)(ha:a.length<1000000000)(hb:b.length<1000000000)(L:List (Nat×Option AObj))(n m:Nat)(md:Bool):
  ∃r,(evW env O).call 143 [vq a,vq b] (KL L n m md [] none)=some (.bool r,KL L n m md [] none):=by
 have key:Cv ((evW env O).call 143 [vq a,vq b] (KL L n m md [] none)) fun v t=>(∃r,v=.bool r)∧t=KL L n m md [] none:=by
  refine vB (F:=f143) h143 rfl rfl (ziw rfl) ?_;unfold f143;simp only[vq];by_cases hab:a.length=b.length
  ·refine xQ ?_;refine xQ ?_;refine xR (xR (xO ?_));refine xT ?_;refine wx (fun i:Nat=>a.length-i) (fun i f t=>∃T,f=⟨tmL T,[]⟩∧t=KL L n 0 true [] none∧(tmL T).get 0=some (.lst a.length false (xP xX a))∧(tmL T).get 1=some (.lst b.length false (xP xX b))∧(tmL T).get 12=some (.int .i64 (.ofNat a.length))∧(tmL T).get 13=some (.int .i64 (.ofNat i))∧i≤a.length) (fun i f t hI=>?_) 0 ⟨_,rfl,rfl,sV,sV,sV,sW,zQ _⟩;obtain⟨T,rfl,rfl,t0,t1,t12,t13,hi⟩:=hI;rcases wi a i with ⟨hlt,hd⟩|⟨x,hlt,hd⟩
   ·have:¬i<a.length:=oM;refine xO ?_;refine xO ?_;refine xW ?_;exact⟨⟨_,rfl⟩,rfl⟩
   ·obtain⟨y,hd2⟩:∃y,b.drop i=y::b.drop (i+1):=⟨_,ziO oM⟩;have hc1:=GM hd;have hc2:=GM hd2;obtain⟨x1,x2⟩:=x;obtain⟨y1,y2⟩:=y;simp only[xX]at hc1 hc2;have hlt2:i<b.length:=oM;clear hd hd2;obtain⟨q,hq⟩:=zik x1 x2 y1 y2;cases q with
    |true=>
     refine xO ?_;refine xW ?_;exact⟨⟨_,rfl⟩,rfl⟩
    |false=>
     refine xO ?_;exact⟨i+1,⟨_,rfl,trivial,sV,sV,sV,sV,oM⟩,oM⟩
  ·refine xQ ?_;refine xQ ?_;refine xW ?_;exact⟨⟨_,rfl⟩,rfl⟩
 obtain⟨v,t,h,⟨r,rfl⟩,rfl⟩:=key;exact⟨r,h⟩
end
theorem SC.lst0{f:Nat}(h1:SC P w0 f [.nils] s v s')(h2:SC P w0 f [.sl0] s v s'):SC P w0 f [.lst 0 false []] s v s':=by
 refine⟨h1.1,fun φ w xs r hwf hf hx F n hF=>?_⟩;simp only[VRL]at hx;obtain⟨x,ys,rfl,hx,rfl⟩:=hx;simp only[VR]at hx;obtain⟨_,⟨_,a,rfl⟩|⟨b,o,k,ys,rfl,_⟩⟩:=hx
 ·cases a with
  |none=>exact h1.2 φ w _ r hwf hf (by simp only[VRL,VR];exact⟨_,_,rfl,rfl,rfl⟩) F n hF
  |some a=>exact h2.2 φ w _ r hwf hf (by simp only[VRL,VR];exact⟨_,_,rfl,⟨a,0,rfl⟩,rfl⟩) F n hF
 ·exact h2.2 φ w _ r hwf hf (by simp only[VRL,VR];exact⟨_,_,rfl,⟨_,k,rfl⟩,rfl⟩) F n hF
theorem GC{ty esz bytes k:Nat}{cs:List AV}{e:Bool}(he:1≤esz)(hb:2*(k+1)*bytes≤281474976710656)(hk:k<1000000000000)(hl:cs.length=(k+1)*esz)(hp:xY cs=true):jg (KL [] 0 0 true [] none) ty esz bytes (.lst 0 true []) (.lst (k+1) e cs)=some (.gr 0 esz (k+1) cs,KL [(0,some (.app ty cs))] 1 0 true [] none):=by
 have h2:wj (zc (k+1) esz) cs=some cs:=w6 hl;have h3:wj (zc 0 esz) ([]:List AV)=some []:=by rw[show zc 0 esz=0 from Nat.zero_mul _];rfl
 simp only[jg,gF,qC,h2,pM,cond_true,h3];rw[show Nat.add 0 (Nat.succ k)=k+1 from yO _,ziQ,Ua he hb oM hp];rfl
def p7(l:List Vl):List AV:=[vq l]
theorem zv1:∀x y,p7 x=p7 y→x=y:=fun x y h=>by
 simp only[p7,vq,List.cons.injEq,AV.lst.injEq,true_and,and_true]at h;exact zrC h.2
theorem zyB(l:List Vl):xY (p7 l)=true:=by simp only[p7,wp,YJ,wA,xA]
noncomputable def QM:List AV→St→Option (AV×St):=vF p7 (fun l=>l.length<1000000000) vq
section
variable {P:Program}{w0:World}(B:Bx P w0){O:Orc}(hO:OrcOk P w0 O)
include B hO
attribute [local go_sem] vq in
theorem zvH(l:List Vl)(hl:l.length<1000000000):∃s1,SC P w0 145 (p7 l) (s00 0 true) (vq l) s1:=by
 cases l with
 | nil=>
  have h1:∃s1,SC P w0 145 [.nils] (s00 0 true) (.lst 0 false []) s1:=by
   refine be B hO f145 ?_;unfold f145;simp only[Ko];have he:pL .slice false .nils .nils=some (.bool true):=rfl;refine xO ?_;refine xW ?_;exact uO
  have h2:∃s1,SC P w0 145 [.sl0] (s00 0 true) (.lst 0 false []) s1:=by
   refine be B hO f145 ?_;unfold f145;simp only[Ko];have he:pL .slice false .sl0 .nils=some (.bool false):=rfl;refine xO ?_;refine xW ?_;exact vO rfl rfl
  obtain⟨_,h1⟩:=h1;obtain⟨_,h2⟩:=h2;exact⟨_,SC.lst0 (SC.up h1 rfl rfl (s00 0 true)) (SC.up h2 rfl rfl (s00 0 true))⟩
 |cons x r=>
  refine be B hO f145 ?_;unfold f145;simp only[p7,vq];have he:∀cs,pL .slice false (.lst (x::r).length false cs) .nils=some (.bool false):=fun _=>rfl;have hp:=X9 (x::r);have hw:=zx3 (x::r);have hlen:=Pa (x::r);have hap:= @GC 131 2 16 r.length (xP xX (x::r)) false oM (by simp only[yb]at hl;omega) (by simp only[yb]at hl;omega) hlen hp
  simp only[yb]at he⊢;generalize xP xX (x::r)=cs at *;refine xO ?_;refine xW ?_;exact vO hp hw
end
def Zn(l:List DT):AV:=.lst l.length false (wa l)
theorem Uh(l:List DT):wq (Zn l)=true:=by simp only[Zn,qe]
theorem Lu(l:List DT):(wa l).length=l.length*5:=by rw[qE];exact vu qQ l
theorem Zc(l:List Int):xY (xP wy l)=true:=wG Vn l
theorem GY(l:List Int):wkL (xP wy l)=xP wy l:=vN Lp l
theorem zrB(l:List Int):(xP wy l).length=l.length*1:=vu kQ l
theorem znT{l r:List Int}(h:xP wy l=xP wy r):l=r:=j0 (k:=1) kQ oM (fun x y h=>by simpa [wy]using h) h
def pa(l:List DT):List AV:=[Zn l]
theorem zyu:∀x y,pa x=pa y→x=y:=fun x y h=>by
 simp only[pa,Zn,List.cons.injEq,AV.lst.injEq,true_and,and_true]at h;exact kX h.2
theorem LM(l:List DT):xY (pa l)=true:=by simp only[pa,wp,Uh,wA,xA]
noncomputable def G6:List AV→St→Option (AV×St):=vF pa (fun l=>l.length<1000000000) Zn
section
variable {P:Program}{w0:World}(B:Bx P w0){O:Orc}(hO:OrcOk P w0 O)
include B hO
attribute [local go_sem] Zn in
theorem zvF(l:List DT)(hl:l.length<1000000000):∃s1,SC P w0 18 (pa l) (s00 0 true) (Zn l) s1:=by
 cases l with
 | nil=>
  have h1:∃s1,SC P w0 18 [.nils] (s00 0 true) (.lst 0 false []) s1:=by
   refine be B hO f18 ?_;unfold f18;simp only[Ko];have he:pL .slice false .nils .nils=some (.bool true):=rfl;refine xO ?_;refine xW ?_;exact uO
  have h2:∃s1,SC P w0 18 [.sl0] (s00 0 true) (.lst 0 false []) s1:=by
   refine be B hO f18 ?_;unfold f18;simp only[Ko];have he:pL .slice false .sl0 .nils=some (.bool false):=rfl;refine xO ?_;refine xW ?_;exact vO rfl rfl
  obtain⟨_,h1⟩:=h1;obtain⟨_,h2⟩:=h2;exact⟨_,SC.lst0 (SC.up h1 rfl rfl (s00 0 true)) (SC.up h2 rfl rfl (s00 0 true))⟩
 |cons x r=>
  refine be B hO f18 ?_;unfold f18;simp only[pa,Zn];have he:∀cs,pL .slice false (.lst (x::r).length false cs) .nils=some (.bool false):=fun _=>rfl;have hp:=vA (x::r);have hw:=jA (x::r);have hlen:=Lu (x::r);have hap:= @GC 36 5 64 r.length (wa (x::r)) false oM (by simp only[yb]at hl;omega) (by simp only[yb]at hl;omega) hlen hp
  simp only[yb]at he⊢;generalize wa (x::r)=cs at *;refine xO ?_;refine xW ?_;exact vO hp hw
end
def Yd(l:List Int):List AV:=[qu l]
theorem JZ:∀x y,Yd x=Yd y→x=y:=fun x y h=>by
 simp only[Yd,qu,List.cons.injEq,AV.lst.injEq,true_and,and_true]at h;exact znT h.2
theorem zyy(l:List Int):xY (Yd l)=true:=by simp only[Yd,wp,ZY,wA,xA]
noncomputable def G7:List AV→St→Option (AV×St):=vF Yd (fun l=>l.length<1000000000) qu
section
variable {P:Program}{w0:World}(B:Bx P w0){O:Orc}(hO:OrcOk P w0 O)
include B hO
attribute [local go_sem] qu in
theorem zvG(l:List Int)(hl:l.length<1000000000):∃s1,SC P w0 22 (Yd l) (s00 0 true) (qu l) s1:=by
 cases l with
 | nil=>
  have h1:∃s1,SC P w0 22 [.nils] (s00 0 true) (.lst 0 false []) s1:=by
   refine be B hO f22 ?_;unfold f22;simp only[Ko];have he:pL .slice false .nils .nils=some (.bool true):=rfl;refine xO ?_;refine xW ?_;exact uO
  have h2:∃s1,SC P w0 22 [.sl0] (s00 0 true) (.lst 0 false []) s1:=by
   refine be B hO f22 ?_;unfold f22;simp only[Ko];have he:pL .slice false .sl0 .nils=some (.bool false):=rfl;refine xO ?_;refine xW ?_;exact vO rfl rfl
  obtain⟨_,h1⟩:=h1;obtain⟨_,h2⟩:=h2;exact⟨_,SC.lst0 (SC.up h1 rfl rfl (s00 0 true)) (SC.up h2 rfl rfl (s00 0 true))⟩
 |cons x r=>
  refine be B hO f22 ?_;unfold f22;simp only[Yd,qu];have he:∀cs,pL .slice false (.lst (x::r).length false cs) .nils=some (.bool false):=fun _=>rfl;have hp:=Zc (x::r);have hw:=GY (x::r);have hlen:=zrB (x::r);have hap:= @GC 3 1 8 r.length (xP wy (x::r)) false oM (by simp only[yb]at hl;omega) (by simp only[yb]at hl;omega) hlen hp
  simp only[yb]at he⊢;generalize xP wy (x::r)=cs at *;refine xO ?_;refine xW ?_;exact vO hp hw
end
structure StTo(sp:Nat)(L:List (Nat×Option AObj))(n:Nat)(S:Sto)(L2:List (Nat×Option AObj))(n2:Nat)(S2:Sto):Prop where
 ok:StOk sp L2 n2 S2
 le:n≤n2
 fr:∀j,j<n→j≠sp→(S.obs≠[]→j≠S.oid)→(S.ys≠[]→j≠S.yid)→xN L2 j=xN L j
 o:S2.obs≠[]→(S.obs≠[]∧S2.oid=S.oid)∨n≤S2.oid
 y:S2.ys≠[]→(S.ys≠[]∧S2.yid=S.yid)∨n≤S2.yid
 b:∀b∈S2.bs,b∈S.bs∨n≤b
theorem StTo.trans{sp:Nat}{L L2 L3:List (Nat×Option AObj)}{n2 n3:Nat}{S S2 S3:Sto}(h:StTo sp L n S L2 n2 S2)(g:StTo sp L2 n2 S2 L3 n3 S3):StTo sp L n S L3 n3 S3 where
 ok:=g.ok
 le:=Nat.le_trans h.le g.le
 fr:=fun j h1 h2 h3 h4=>by
  have hle:=h.le;rw[g.fr j oM h2 (fun hne e=>by
   rcases h.o hne with ⟨q1,q2⟩|q
   ·exact h3 q1 (by rw[e,q2])
   ·omega) (fun hne e=>by
   rcases h.y hne with ⟨q1,q2⟩|q
   ·exact h4 q1 (by rw[e,q2])
   ·omega)]
  exact h.fr j h1 h2 h3 h4
 o :=fun hne=>by
  have hle:=h.le;rcases g.o hne with ⟨q1,q2⟩|q
  ·rcases h.o q1 with ⟨q3,q4⟩|q3
   ·exact .inl ⟨q3,by rw[q2,q4]⟩
   ·exact .inr (by rw[q2];exact q3)
  ·exact .inr oM
 y :=fun hne=>by
  have hle:=h.le;rcases g.y hne with ⟨q1,q2⟩|q
  ·rcases h.y q1 with ⟨q3,q4⟩|q3
   ·exact .inl ⟨q3,by rw[q2,q4]⟩
   ·exact .inr (by rw[q2];exact q3)
  ·exact .inr oM
 b:=fun b hb=>by
  have hle:=h.le;rcases g.b b hb with q|q
  ·exact h.b b q
  ·exact .inr oM
theorem StOk.more{sp n2:Nat}{L L2:List (Nat×Option AObj)}{S:Sto}(h:StOk sp L n S)(hw:WfA L2 n2)(hn:n≤n2)(hf:∀j,j<n→xN L2 j=xN L j):StTo sp L n S L2 n2 S where
 ok:={
  wf:=hw
  row:=by rw[hf sp h.spn];exact h.row
  go:=h.go.ext (zu _) hn fun j _ hj=>hf j hj
  gy:=h.gy.ext (zu _) hn fun j _ hj=>hf j hj
  sy:=fun y hy=>by
   have:=(h.sy y hy).mono (more:=[]) (fun _ hb=>hb) fun j hj=>hf j (h.bne hj).1
   rwa [ziA]at this
  bl:=fun b hb=>by
   obtain⟨cs,hcs⟩:=h.bl b hb;exact⟨cs,by rw[hf b (h.bne hb).1];exact hcs⟩}
 le:=hn
 fr:=fun j hj _ _ _=>hf j hj
 o:=fun hne=>.inl ⟨hne,rfl⟩
 y:=fun hne=>.inl ⟨hne,rfl⟩
 b:=fun b hb=>.inl hb
theorem StTo.bs{sp n2 b:Nat}{L L2:List (Nat×Option AObj)}{S S2:Sto}(h:StTo sp L n S L2 n2 S2)(hb:n≤b){cs:List AV}(hg:xN L2 b=some (.row 131 cs false false)):StTo sp L n S L2 n2 {S2 with bs:=b::S2.bs} where
 ok:={
  wf:=h.ok.wf
  row:=h.ok.row
  go:=h.ok.go
  gy:=h.ok.gy
  sy:=fun y hy=>by
   have:=(h.ok.sy y hy).mono (L2:=L2) (bs2:=b::S2.bs) (more:=[]) (fun _ hx=>List.mem_cons_of_mem _ hx) fun j _=>rfl
   rwa [ziA]at this
  bl:=fun x hx=>by
   rcases List.mem_cons.1 hx with rfl|hx
   ·exact⟨cs,hg⟩
   ·exact h.ok.bl x hx}
 le:=h.le
 fr:=h.fr
 o:=h.o
 y:=h.y
 b:=fun x hx=>by
  rcases List.mem_cons.1 hx with rfl|hx
  ·exact .inr hb
  ·exact h.b x hx
theorem StOk.put{sp j:Nat}{L:List (Nat×Option AObj)}{S:Sto}(h:StOk sp L n S)(hj:j<n)(h1:j≠sp)(h2:S.obs≠[]→j≠S.oid)(h3:S.ys≠[]→j≠S.yid)(h4:j∉S.bs)(o:Option AObj):StOk sp ((j,o)::L) n S where
 wf:=h.wf.same hj
 row:=by rw[xL,if_neg h1.symm];exact h.row
 go:=fun hne=>by
  obtain⟨q1,q2,q3⟩:=h.go hne;exact⟨q1,q2,by rw[xL,if_neg (h2 hne).symm];exact q3⟩
 gy:=fun hne=>by
  obtain⟨q1,q2,q3⟩:=h.gy hne;exact⟨q1,q2,by rw[xL,if_neg (h3 hne).symm];exact q3⟩
 sy:=fun y hy=>by
  have:=(h.sy y hy).mono (L2:=(j,o)::L) (more:=[]) (fun _ hb=>hb) fun b hb=>by rw[xL,if_neg (show ¬b=j from fun e=>h4 (e▸hb))]
  rwa [ziA]at this
 bl:=fun b hb=>by
  obtain⟨cs,hcs⟩:=h.bl b hb;exact⟨cs,by rw[xL,if_neg (show ¬b=j from fun e=>h4 (e▸hb))];exact hcs⟩
section
variable {O:Orc}
theorem Yn(h112:O 112=none){sp:Nat}{L:List (Nat×Option AObj)}{S:Sto}(h:StOk sp L n S)(hN:S.obs.length<100000000)(o:Ob)(m:Nat):
  Cv ((evW env O).call 112 [.ptr sp 0,.agg o.c] (KL L n m false [] none)) fun v t=>∃L2 n2 m2 oid2,v=.agg (xX ⟨.ofNat 7,.ofNat S.obs.length⟩)∧t=KL L2 n2 m2 false [] none∧StTo sp L n S L2 n2 {S with obs:=S.obs++[o],oid:=oid2}:=by
 refine(zlR h112 h hN o m).mono fun v t hv=>?_;obtain⟨L2,n2,m2,oid2,rfl,rfl,q1,q2,q3,q4⟩:=hv;exact⟨L2,n2,m2,oid2,rfl,rfl,⟨q1,q2,fun j h1 h2 h3 _=>q4 j h1 h2 h3,fun _=>.inr q3,fun hne=>.inl ⟨hne,rfl⟩,fun b hb=>.inl hb⟩⟩
end
def XP:ICode:=match f114.body with
 |.seq _ (.seq _ k)=>k
 |_=>.skip
def zw1:ICode→ICode:=fun k=>match f114.body with
 |.seq a (.seq b _)=>.seq a (.seq b k)
 |_=>.skip
theorem ztj:f114.body=zw1 XP:=rfl
def obS(l:List Vl):Ob:=⟨[.int .i64 (.ofNat 4),.int .i64 (.ofNat 0),vq l,.bool false,.nils],rfl,rfl⟩
def obB(id:Nat):Ob:=⟨[.int .i64 (.ofNat 5),.int .i64 (.ofNat 0),.sl id 0 1 (.fix 1),.bool false,.nils],rfl,rfl⟩
def zp0:ICode:=match XP with
 |.seq _ (.seq _ (.seq a _))=>a
 |_=>.skip
section
variable {O:Orc}
attribute [local go_sem] ltF gtF xZ x4 ziJ ziN ziM ziH wZ wP wR xX Trie.get_set Trie.get_del in
theorem zth{sp eb:Nat}{L:List (Nat×Option AObj)}{S:Sto}(h:StOk sp L n S)(hY:S.ys.length<100000000){w:Vl}(hs:SymAt L S.bs S.obs w){T:List (Nat×AV)}{v4:AV}(t0:(tmL T).get 0=some (.ptr sp 0))(t4:(tmL T).get 4=some v4)(t8:(tmL T).get 8=some (.ptr eb 0))(geb:xN L eb=some (.row 131 (xX w) false false))(m:Nat):
  Ev (evC env (evW env O) none zp0 ⟨tmL T,[]⟩ (KL L n m false [] none)) fun r f s=>r=.norm∧∃T2 L2 n2 m2 yid2,f=⟨tmL T2,[]⟩∧s=KL L2 n2 m2 false [] none∧(tmL T2).get 4=some v4∧(tmL T2).get 8=some (.ptr eb 0)∧StTo sp L n S L2 n2 {S with ys:=S.ys++[w],yid:=yid2}:=by
 obtain⟨obs,oid,ys,yid,bs⟩:=S;have hw:=h.wf;have hr:=h.row;have hsp:=h.spn;have hen:=hw.lt geb;have hsy:=fun y hy L2 hf=>(h.sy y hy).mono (L2:=L2) (more:=[]) (fun _ hb=>hb) hf;have hsw:=fun L2 hf=>hs.mono (L2:=L2) (more:=[]) (fun _ hb=>hb) hf;have hbn:=fun b hb=>h.bne (b:=b) hb;have hbl:=h.bl;have hgo:=h.go;have hpo:=h.sp_o;have hes:eb≠sp:=fun e=>by rw[e,hr]at geb;simp[Sto.row]at geb
 have hrw:=h.row;have hes2:=hes.symm;simp only[Sto.row]at hr hY;simp only[ziA]at hsy hsw;simp only at hbn hbl;obtain⟨w1,w2⟩:=w;unfold zp0 XP f114;simp only;cases ys with
 | nil=>
  simp only[xz,gSl]at hr;have hap:=fun L n m e x f=> @zxG L n m 131 e 2 16 [.int .i64 w1,.int .i64 w2] x f rfl oM oM;clear h hs;simp only[xX]at geb;refine xO ?_;refine⟨trivial,_,_,_,_,n+1,rfl,rfl,sV,sV,?_,?_,fun j h1 h2 h3 h4=>?_,fun hne=>.inl ⟨hne,rfl⟩,fun _=>.inr (zha _),fun b hb=>.inl hb⟩
  ·refine⟨?_,?_,fun hne=>?_,fun _=>⟨zQ _,by simp only;omega,?_⟩,fun y hy=>?_,fun b hb=>?_⟩
   ·(repeat first|exact hw.up oM|refine WfA.same ?_ oM)
   ·(repeat first|exact xS _ _ _|rw[xL,if_neg oM])
   ·obtain⟨q1,q2,q3⟩:=hgo hne;have:=(hpo hne).symm;simp only at q2 this;refine⟨q1,by simp only;omega,?_⟩
    (repeat rw[xL,if_neg (by simp only;omega)])
    exact q3
   ·simp only[ziQ,xP,ziA]
    (repeat first|exact xS _ _ _|rw[xL,if_neg oM])
   ·simp only[ziQ,ziL,List.not_mem_nil,or_false]at hy;subst hy;refine hsw _ fun j hj=>?_;obtain⟨q1,q2,_⟩:=hbn j hj
    (repeat rw[xL,if_neg oM])
   ·obtain⟨q1,q2,_⟩:=hbn b hb;obtain⟨cs,hcs⟩:=hbl b hb;refine⟨cs,?_⟩
    (repeat rw[xL,if_neg oM])
    exact hcs
  ·omega
  ·(repeat rw[xL,if_neg oM])
 | cons u us=>
  obtain⟨_,hid,hgi⟩:=h.gy (by simp)
  have hso:=h.sp_y (by simp)
  have hey:=h.ne_y geb (by simp)
  have hoy:=fun hne=>h.o_y hne (by simp)
  simp only at hid hgi hso hY hoy hey;have hfl:(xP xX (u::us)).length=(u::us).length *2:=Pa _;have ha:=fun m e x f=> @zxH L n m 131 e 2 16 yid (u::us).length false (xP xX (u::us)) [.int .i64 w1,.int .i64 w2] x f oM hgi hfl rfl oM rfl oM oM;obtain⟨k,hk⟩:∃k,(u::us).length=k+1:=⟨us.length,rfl⟩;rw[hk]at ha hr hY hfl;simp only[gSl]at hr;have hso2:=hso.symm;have hcat:xP xX (u::us)++[.int .i64 w1,.int .i64 w2]=xP xX ((u::us)++[⟨w1,w2⟩]):=by rw[wQ,qM];rfl
  rw[hcat]at ha;clear hcat h hs;have hk2:((u::us)++[(⟨w1,w2⟩:Vl)]).length=k+1+1:=by rw[yA,hk];rfl
  have hmem:∀y,y∈(u::us)++[(⟨w1,w2⟩:Vl)]→y∈u::us∨y=⟨w1,w2⟩:=fun y hy=>by
   rcases List.mem_append.1 hy with h|h
   ·exact .inl h
   ·exact .inr (by simpa using h)
  generalize (u::us)++[(⟨w1,w2⟩:Vl)]=nys at *;simp only[xX]at geb;have hkeep:∀j∈bs,j<n∧j≠sp∧j≠yid:=fun j hj=>⟨(hbn j hj).1,(hbn j hj).2.1,(hbn j hj).2.2.2 (by simp)⟩
  clear hrw hbn;refine xO ?_;refine⟨trivial,_,_,_,_,n+1,rfl,rfl,sV,sV,?_,?_,fun j h1 h2 h3 h4=>?_,fun hne=>.inl ⟨hne,rfl⟩,fun _=>.inr (zha _),fun b hb=>.inl hb⟩
  ·refine⟨?_,?_,fun hne=>?_,fun _=>⟨zQ _,by simp only;omega,?_⟩,fun y hy=>?_,fun b hb=>?_⟩
   ·(repeat first|exact hw.up oM|refine WfA.same ?_ oM)
   ·simp only[Sto.row,hk2,gSl]
    (repeat first|exact xS _ _ _|rw[xL,if_neg oM])
   ·obtain⟨q1,q2,q3⟩:=hgo hne;have e1:=(hpo hne).symm;have e2:=hoy hne;simp only at q2 e1;refine⟨q1,by simp only;omega,?_⟩
    (repeat rw[xL,if_neg (by simp only;omega)])
    exact q3
   ·(repeat first|exact xS _ _ _|rw[xL,if_neg (by simp only;omega)])
   ·rcases hmem y hy with hy|rfl
    ·refine hsy y hy _ fun j hj=>?_;obtain⟨e0,e1,e2⟩:=hkeep j hj
     (repeat rw[xL,if_neg oM])
    ·refine hsw _ fun j hj=>?_;obtain⟨e0,e1,e2⟩:=hkeep j hj
     (repeat rw[xL,if_neg oM])
   ·obtain⟨e0,e1,e2⟩:=hkeep b hb;obtain⟨cs,hcs⟩:=hbl b hb;refine⟨cs,?_⟩
    (repeat rw[xL,if_neg oM])
    exact hcs
  ·omega
  ·have:=h4 (by simp)
   simp only at this
   (repeat rw[xL,if_neg oM])
end
section
variable {O:Orc}
attribute [local go_sem] ltF gtF xZ x4 ziJ ziN ziM ziH wZ wP wR xX Trie.get_set Trie.get_del in
theorem zti(h112:O 112=none)(h145:O 145=some QM){sp ab:Nat}{L:List (Nat×Option AObj)}{S:Sto}(h:StOk sp L n S)(hN:S.obs.length+2<100000000)(hY:S.ys.length<100000000){l:List Vl}(hl:l.length<2000000){T:List (Nat×AV)}{z1 z2:AV}(t0:(tmL T).get 0=some (.ptr sp 0))(t1:(tmL T).get 1=some (vq l))(t4:(tmL T).get 4=some (.ptr ab 0))(gab:xN L ab=some (.row 131 [z1,z2] false false))(hab:ab∉S.bs)(m:Nat){Q:Res→Fr→St→Prop}
  (hQ:∀T L2 n2 m2 S2 w,(tmL T).get 4=some (.ptr ab 0)→StTo sp L n S L2 n2 S2→ab∉S2.bs→S2.obs.length≤S.obs.length+2→S2.ys.length≤S.ys.length+1→Q .ret ⟨tmL T,[]⟩ (KL ((ab,some (.row 131 (xX w) false false))::L2) n2 m2 false [] none)):
  Ev (evC env (evW env O) none XP ⟨tmL T,[]⟩ (KL L n m false [] none)) Q:=by
 have hcl:=fun s=>oc h145 zv1 l oM (args:=p7 l) (by simp only[p7,wkL,zqs]) s
 simp only[p7]at hcl;have hsp:=h.spn;have ha1:∀m,Cv ((evW env O).call 112 [.ptr sp 0,.agg [.int .i64 (.ofNat 4),.int .i64 (.ofNat 0),.lst l.length false (xP xX l),.bool false,.nils]] (KL L n m false [] none)) fun v t=>∃L2 n2 m2 oid2,v=.agg (xX ⟨.ofNat 7,.ofNat S.obs.length⟩)∧t=KL L2 n2 m2 false [] none∧StTo sp L n S L2 n2 {S with obs:=S.obs++[obS l],oid:=oid2}:=fun m=>Yn h112 h oM (obS l) m
 have hap:ab≠sp:=fun e=>by rw[e,h.row]at gab;simp[Sto.row]at gab
 have hao:=h.ne_o gab;have hay:=h.ne_y gab;have habn:=h.wf.lt gab;have hcp:=X9 l;simp only[vq]at hcl t1;unfold XP f114;simp only;refine xR (qt ?_);refine wc (ha1 _) fun v t hv=>?_;obtain⟨L1,n1,m1,oid1,rfl,rfl,k1⟩:=hv;clear ha1;have k1w:=k1.ok.wf;have k1s:=k1.ok.spn;have k2:=k1.trans (k1.ok.more (L2:=(n1,some (.row 131 (xX ⟨.ofNat 7,.ofNat S.obs.length⟩) false false))::(n1,some (.row 131 [.int .i64 (.ofNat 0),.int .i64 (.ofNat 0)] false false))::L1) (n2:=n1+1) (by repeat first|exact k1w.up oM|refine WfA.same ?_ oM) oM fun j hj=>by repeat rw[xL,if_neg oM])
 have k3:=k2.trans (k2.ok.more (L2:=(n1+1,some (.row 131 (xX ⟨.ofNat 7,.ofNat S.obs.length⟩) false false))::(n1,some (.row 131 (xX ⟨.ofNat 7,.ofNat S.obs.length⟩) false false))::(n1,some (.row 131 [.int .i64 (.ofNat 0),.int .i64 (.ofNat 0)] false false))::L1) (n2:=n1+1+1) (by repeat first|exact k1w.up oM|refine WfA.same ?_ oM) oM fun j hj=>by repeat rw[xL,if_neg oM])
 have hl3:(S.obs++[obS l]).length=S.obs.length+1:=by rw[yA];rfl
 have ha2:∀m,Cv ((evW env O).call 112 [.ptr sp 0,.agg [.int .i64 (.ofNat 5),.int .i64 (.ofNat 0),.sl (n1+1) 0 1 (.fix 1),.bool false,.nils]] (KL ((n1+1,some (.row 131 (xX ⟨.ofNat 7,.ofNat S.obs.length⟩) false false))::(n1,some (.row 131 (xX ⟨.ofNat 7,.ofNat S.obs.length⟩) false false))::(n1,some (.row 131 [.int .i64 (.ofNat 0),.int .i64 (.ofNat 0)] false false))::L1) (n1+1+1) m false [] none)) fun v t=>∃L2 n2 m2 oid2,v=.agg (xX ⟨.ofNat 7,.ofNat (S.obs++[obS l]).length⟩)∧t=KL L2 n2 m2 false [] none∧StTo sp _ (n1+1+1) _ L2 n2 {S with obs:=(S.obs++[obS l])++[obB (n1+1)],oid:=oid2}:=fun m=>Yn h112 k3.ok (by simp only[hl3];omega) (obB (n1+1)) m
 have hrow3:=k3.ok.row;have hg1:xN ((n1+1,some (AObj.row 131 (xX ⟨.ofNat 7,.ofNat S.obs.length⟩) false false))::(n1,some (.row 131 (xX ⟨.ofNat 7,.ofNat S.obs.length⟩) false false))::(n1,some (.row 131 [.int .i64 (.ofNat 0),.int .i64 (.ofNat 0)] false false))::L1) (n1+1)=some (.row 131 (xX ⟨.ofNat 7,.ofNat S.obs.length⟩) false false):=xS _ _ _;simp only[hl3]at ha2;simp only[xX]at ha2;refine xO ?_;refine xR (qt ?_);refine wc (ha2 _) fun v t hv=>?_;obtain⟨L4,n4,m4,oid4,rfl,rfl,k4⟩:=hv;clear ha2;have k14:=k3.trans k4;have k4w:=k4.ok.wf;have hle1:=k1.le;have hle4:=k4.le;have hg4:=(k4.fr (n1+1) oM oM (k3.ok.ne_o hg1) (k3.ok.ne_y hg1)).trans hg1;clear hg1 k1 k2 k3 k4 hrow3;have k5:=k14.trans (k14.ok.more (L2:=(n4,some (.row 131 (xX ⟨.ofNat 7,.ofNat (S.obs.length+1)⟩) false false))::(n4,some (.row 131 [.int .i64 (.ofNat 0),.int .i64 (.ofNat 0)] false false))::L4) (n2:=n4+1) (by repeat first|exact k4w.up oM|refine WfA.same ?_ oM) oM fun j hj=>by repeat rw[xL,if_neg oM])
 have hg5:xN ((n4,some (AObj.row 131 (xX ⟨.ofNat 7,.ofNat (S.obs.length+1)⟩) false false))::(n4,some (.row 131 [.int .i64 (.ofNat 0),.int .i64 (.ofNat 0)] false false))::L4) (n1+1)=some (.row 131 (xX ⟨.ofNat 7,.ofNat S.obs.length⟩) false false):=by
  repeat rw[xL,if_neg oM]
  exact hg4
 have k6:=k5.bs (b:=n1+1) oM hg5;have hsym:SymAt ((n4,some (AObj.row 131 (xX ⟨.ofNat 7,.ofNat (S.obs.length+1)⟩) false false))::(n4,some (.row 131 [.int .i64 (.ofNat 0),.int .i64 (.ofNat 0)] false false))::L4) ((n1+1)::S.bs) ((S.obs++[obS l])++[obB (n1+1)]) ⟨.ofNat 7,.ofNat (S.obs.length+1)⟩:=by
  refine⟨S.obs.length+1,S.obs.length,n1+1,obB (n1+1),obS l,l,rfl,?_,?_,rfl,zi0,hg5,rfl,hl⟩
  ·rw[yM (by rw[hl3];exact zu _),hl3,Nat.sub_self];rfl
  ·rw[yB (by rw[hl3];exact yc _),yM (zu _),Nat.sub_self];rfl
 refine xO ?_;refine xR (Ev.mono (zth (eb:=n4) (w:=⟨.ofNat 7,.ofNat (S.obs.length+1)⟩) (v4:=.ptr ab 0) k6.ok hY hsym sV sV sV (xS _ _ _) _) fun r f s hz=>?_);obtain⟨rfl,T7,L7,n7,m7,yid7,rfl,rfl,t4',t8',k7⟩:=hz;have k8:=k6.trans k7;have g4:=(k7.fr n4 oM (by have:=k14.ok.spn;omega) (k6.ok.ne_o (xS _ _ _)) (k6.ok.ne_y (xS _ _ _))).trans (xS _ _ _)
 have gab7:=(k8.fr ab habn hap hao hay).trans gab;have hab8:ab∉S.bs∧n≤n1+1:=⟨hab,oM⟩;have hlen:((S.obs++[obS l])++[obB (n1+1)]).length=S.obs.length+2:=by rw[yA,hl3];rfl
 have hlenY:(S.ys++[(⟨.ofNat 7,.ofNat (S.obs.length+1)⟩:Vl)]).length=S.ys.length+1:=by rw[yA];rfl
 have hne:ab∉(n1+1)::S.bs:=fun h=>by
  rcases List.mem_cons.1 h with e|h
  ·omega
  ·exact hab h
 have hq:=fun T m t4=>hQ T L7 n7 m _ ⟨.ofNat 7,.ofNat (S.obs.length+1)⟩ t4 k8 hne (by simp only;omega) (by simp only;omega)
 clear hQ k7 k8 k6 k5 hg5 hsym hg4 hl3;simp only[xX]at g4 hq;refine xO ?_;exact hq _ _ sV
end
theorem zsG{obs:List Ob}{i:Nat}{o:Ob}{x:AV}(h:obs[i]? =some o)(hx:wj 1 (wH 2 o.c)=some [x]):wj 1 (wH (i*5+2) (xP Ob.c obs))=some [x]:=by
 obtain⟨hi,he⟩:=List.getElem?_eq_some_iff.1 h;have hd:obs.drop i=o::obs.drop (i+1):=by rw[ziO hi,he]
 have h1:=uD (f:=Ob.c) (k:=5) Ob.len i obs;rw[wY]at h1 hx⊢;rw[←List.drop_drop,h1,hd];simp only[xP];obtain⟨c,hl,hs⟩:=o;rcases c with _|⟨a,_|⟨b,_|⟨d,r⟩⟩⟩
 ·simp at hl
 ·simp at hl
 ·simp at hl
 ·simpa [wj]using hx
theorem StTo.put{sp n2 j t:Nat}{L L2:List (Nat×Option AObj)}{S S2:Sto}(h:StTo sp L n S L2 n2 S2)(hj:n≤j){cs:List AV}(hg:xN L2 j=some (.row t cs false false))(h1:j≠sp)(h4:j∉S2.bs)(o:Option AObj):StTo sp L n S ((j,o)::L2) n2 S2 where
 ok:=h.ok.put (h.ok.wf.lt hg) h1 (h.ok.ne_o hg) (h.ok.ne_y hg) h4 o
 le:=h.le
 fr:=fun i h1 h2 h3 h4=>by rw[xL,if_neg oM];exact h.fr i h1 h2 h3 h4
 o:=h.o
 y:=h.y
 b:=h.b
section
variable {O:Orc}
theorem zkb(h143:O 143=none)(a b:List Vl)(ha:a.length<1000000000)(hb:b.length<1000000000)(L:List (Nat×Option AObj))(n m:Nat)(md:Bool):
  Cv ((evW env O).call 143 [.lst a.length false (xP xX a),.lst b.length false (xP xX b)] (KL L n m md [] none)) fun v t=>(∃r,v=.bool r)∧t=KL L n m md [] none:=by
 obtain⟨r,h⟩:=zkc h143 a b ha hb L n m md;exact⟨_,_,h,⟨r,rfl⟩,rfl⟩
attribute [local go_sem] ltF gtF xZ x4 ziJ ziN ziM ziH wZ wP wR xX in
theorem ztk(h114:O 114=none)(h112:O 112=none)(h145:O 145=some QM)(h143:O 143=none)(h144:O 144=none)(h165:O 165=none){sp:Nat}{L:List (Nat×Option AObj)}{S:Sto}(h:StOk sp L n S)(hN:S.obs.length+2<100000000)(hY:S.ys.length<100000000){l:List Vl}(hl:l.length<2000000)(m:Nat):
  Cv ((evW env O).call 114 [.ptr sp 0,vq l] (KL L n m false [] none)) fun v t=>∃w L2 n2 m2 S2,v=.agg (xX w)∧t=KL L2 n2 m2 false [] none∧StTo sp L n S L2 n2 S2∧S2.obs.length≤S.obs.length+2∧S2.ys.length≤S.ys.length+1:=by
 refine qb (F:=f114) h114 rfl rfl (ziw rfl) ?_;have hw:=h.wf;have hsp:=h.spn;have hbn:n∉S.bs:=fun hb=>by have:=(h.bne hb).1;omega
 have k0:StTo sp L n S ((n,some (.row 131 [.int .i64 (.ofNat 0),.int .i64 (.ofNat 0)] false false))::L) (n+1) S:=h.more (hw.cons (yc _) (zha _)) (zha _) fun j hj=>by rw[xL,if_neg oM]
 rw[ztj];unfold zw1 f114;simp only;have hr:=h.row;obtain⟨obs,oid,ys,yid,bs⟩:=S;simp only[Sto.row]at hr hN hY;refine xQ ?_;refine xR (xR (xO ?_));refine xT ?_;refine wx (fun i:Nat=>ys.length-i) (fun i f t=>∃T L2 n2 m2,f=⟨tmL T,[]⟩∧t=KL L2 n2 m2 false [] none∧(tmL T).get 0=some (.ptr sp 0)∧(tmL T).get 1=some (vq l)∧(tmL T).get 4=some (.ptr n 0)∧(tmL T).get 12=some (gSl 2 yid ys.length)∧(tmL T).get 13=some (.int .i64 (.ofNat ys.length))∧(tmL T).get 14=some (.int .i64 (.ofNat i))∧i≤ys.length∧WfA L2 n2∧n+1≤n2∧∀j,j<n+1→xN L2 j=xN ((n,some (.row 131 [.int .i64 (.ofNat 0),.int .i64 (.ofNat 0)] false false))::L) j) (fun i f t hI=>?_) 0 ⟨_,_,_,_,rfl,rfl,sW,sW,sW,sW,sW,sW,zQ _,k0.ok.wf,zu _,fun _ _=>rfl⟩;obtain⟨T,L2,n2,m2,rfl,rfl,t0,t1,t4,t12,t13,t14,hi,hw2,hn2,hfr⟩:=hI;have k1:=k0.trans (k0.ok.more hw2 hn2 hfr);rcases wi ys i with ⟨hlt,hd⟩|⟨y,hlt,hd⟩
 ·have hni:¬i<ys.length:=oM;have g4:xN L2 n=some (.row 131 [.int .i64 (.ofNat 0),.int .i64 (.ofNat 0)] false false):=(hfr n oM).trans (xS _ _ _);refine xO ?_;refine zti h112 h145 k1.ok hN hY hl (ab:=n) sV sV sV g4 hbn _ fun T3 L3 n3 m3 S3 w t4' k3 hb3 q1 q2=>?_;have g43:=(k3.fr n oM oM (k1.ok.ne_o g4) (k1.ok.ne_y g4)).trans g4;have k4:=(k1.trans k3).put (zu _) g43 oM hb3 (some (.row 131 (xX w) false false));refine xW ?_;exact⟨w,_,_,_,S3,rfl,rfl,k4,q1,q2⟩
 ·have hcy:=GM hd;have hmem:y∈ys:=ziT (by rw[hd];exact zi0)
  obtain⟨i1,a1,bid,oi,oa,l2,rfl,e1,e2,e3,e4,e5,e6,e7⟩:=k1.ok.sy y hmem;obtain⟨q1,q2,gy⟩:=k1.ok.gy (by intro e;simp only at e;rw[e]at hlt;simp at hlt)
  have hi1:=(List.getElem?_eq_some_iff.1 e1).1;have ha1:=(List.getElem?_eq_some_iff.1 e2).1;obtain⟨q3,q4,go⟩:=k1.ok.go (by intro e;simp only at e e1;rw[e]at e1;simp at e1)
  have c1:=zsG e1 e3;have c2:=zsG e2 e6;have hbid:=(k1.ok.bne e4).1;have hrow:=k1.ok.row;have hia:= @YD 2 yid ys.length i hlt;have hge1:=fun{L:List (Nat×Option AObj)} {n:Nat} (hr:xN L sp=some (Sto.row ⟨obs,oid,ys,yid,bs⟩)) (hs:sp<n) m b=> @zr4 O h144 h165 sp n L ⟨obs,oid,ys,yid,bs⟩ hr hs i1 hi1 (by simp only;omega) m b
  have hge2:=fun{L:List (Nat×Option AObj)} {n:Nat} (hr:xN L sp=some (Sto.row ⟨obs,oid,ys,yid,bs⟩)) (hs:sp<n) m b=> @zr4 O h144 h165 sp n L ⟨obs,oid,ys,yid,bs⟩ hr hs a1 ha1 (by simp only;omega) m b
  have hev:=fun L n m md=>zkb h143 l2 l oM oM L n m md;simp only at gy go q2 q4 hge1 hge2 hrow;simp only[xX]at hcy e5;simp only[vq]at t1 c2;clear hd;have hspn:sp<n2:=k1.ok.spn;have hw3:=k1.ok.wf;clear hw h hr e1 e2 e3 e6;refine xQ ?_;refine xR (qW sW ?_);refine xO ?_;refine xR (xT ?_);refine xQ ?_;refine xR ?_;refine qt ?_;refine wc (hge1 (by (repeat rw[xL,if_neg oM]);exact hrow) oM _ _) fun v t hv=>?_
  obtain⟨m3,rfl,rfl⟩:=hv;refine qt ?_;refine wc (hge2 (by (repeat rw[xL,if_neg oM]);exact hrow) oM _ _) fun v t hv=>?_
  obtain⟨m4,rfl,rfl⟩:=hv;refine qt ?_;refine wc (hev _ _ _ _) fun v t hv=>?_;obtain⟨⟨r,rfl⟩,rfl⟩:=hv;have g4:xN L2 n=some (.row 131 [.int .i64 (.ofNat 0),.int .i64 (.ofNat 0)] false false):=(hfr n oM).trans (xS _ _ _);have hfr2:∀j,j<n→xN L2 j=xN L j:=fun j hj=>by rw[hfr j oM,xL,if_neg oM]
  cases r with
  | true=>
   have hk0:=k0;clear hge1 hge2 hev k0 hrow hfr;refine xO ?_;refine xO ?_;refine xW ?_;refine⟨⟨.ofNat 7,.ofNat i1⟩,_,n2+1+1+1,_,_,rfl,rfl,StTo.put (n2:=n2+1+1+1) (j:=n) (t:=131) (cs:=[.int .i64 (.ofNat 0),.int .i64 (.ofNat 0)]) (k1.trans (k1.ok.more (L2:=_) ?_ oM fun j hj=>?_)) (zu _) ?_ oM hbn _,?_,?_⟩
   ·(repeat first|exact hw3.up oM|refine WfA.same ?_ oM)
   ·(repeat rw[xL,if_neg oM])
   ·(repeat rw[xL,if_neg oM])
    exact g4
   ·simp only;omega
   ·simp only;omega
  | false=>
   have hk0:=k0;have hfr3:=hfr;clear hge1 hge2 hev k0 hrow hfr;refine xO ?_;refine xO ?_;refine xO ?_;refine⟨i+1,⟨_,_,n2+1+1+1,_,rfl,rfl,sV,by simp (disch:=first|exact dis|fail)only[go_sem,seval,-rO,-rN, *,vq],sV,sV,sV,sV,oM,?_,oM,fun j hj=>?_⟩,oM⟩
   ·(repeat first|exact hw3.up oM|refine WfA.same ?_ oM)
   ·(repeat rw[xL,if_neg oM])
    exact hfr3 j hj
end
def ztQ(sp:Nat)(L:List (Nat×Option AObj))(n:Nat)(S:Sto)(k:Nat)(v:AV)(t:St):Prop:=∃w L2 n2 m2 S2,v=.agg (xX w)∧t=KL L2 n2 m2 false [] none∧StTo sp L n S L2 n2 S2∧S2.obs.length≤S.obs.length+k∧S2.ys.length≤S.ys.length+k
theorem vZ{α:Type}(l:List α)(x:α):(l++[x]).length=l.length+1:=by rw[yA];rfl
structure Own(sp:Nat)(S:Sto)(j:Nat):Prop where
 sp:j≠sp
 o:S.obs≠[]→j≠S.oid
 y:S.ys≠[]→j≠S.yid
 b:j∉S.bs
theorem StOk.fresh{sp j:Nat}{L:List (Nat×Option AObj)}{S:Sto}(h:StOk sp L n S)(hj:n≤j):Own sp S j where
 sp:=by have:=h.spn;omega
 o:=fun hne=>by have:=(h.go hne).2.1;omega
 y:=fun hne=>by have:=(h.gy hne).2.1;omega
 b:=fun hb=>by have:=(h.bne hb).1;omega
theorem Own.to{sp n2 j:Nat}{L L2:List (Nat×Option AObj)}{S S2:Sto}(h:Own sp S j)(hj:j<n)(k:StTo sp L n S L2 n2 S2):Own sp S2 j where
 sp:=h.sp
 o:=fun hne e=>by
  rcases k.o hne with ⟨q1,q2⟩|q
  ·exact h.o q1 (by rw[e,q2])
  ·omega
 y:=fun hne e=>by
  rcases k.y hne with ⟨q1,q2⟩|q
  ·exact h.y q1 (by rw[e,q2])
  ·omega
 b:=fun hb=>by
  rcases k.b j hb with q|q
  ·exact h.b q
  ·omega
theorem Own.same{sp n2 j:Nat}{L L2:List (Nat×Option AObj)}{S S2:Sto}(h:Own sp S j)(hj:j<n)(k:StTo sp L n S L2 n2 S2):xN L2 j=xN L j:=k.fr j hj h.sp h.o h.y
theorem StTo.put2{sp n2 j:Nat}{L L2:List (Nat×Option AObj)}{S S2:Sto}(h:StTo sp L n S L2 n2 S2)(hj:n≤j)(hj2:j<n2)(hw:Own sp S2 j)(o:Option AObj):StTo sp L n S ((j,o)::L2) n2 S2 where
 ok:=h.ok.put hj2 hw.sp hw.o hw.y hw.b o
 le:=h.le
 fr:=fun i h1 h2 h3 h4=>by rw[xL,if_neg oM];exact h.fr i h1 h2 h3 h4
 o:=h.o
 y:=h.y
 b:=h.b
theorem StTo.new{sp n2:Nat}{L L2:List (Nat×Option AObj)}{S S2:Sto}(h:StTo sp L n S L2 n2 S2)(o:Option AObj):StTo sp L n S ((n2,o)::L2) (n2+1) S2:=
 h.trans (h.ok.more (h.ok.wf.cons (yc _) (zha _)) (zha _) fun j hj=>by rw[xL,if_neg oM])
theorem StOk.new{sp:Nat}{L:List (Nat×Option AObj)}{S:Sto}(h:StOk sp L n S)(o:Option AObj):StTo sp L n S ((n,o)::L) (n+1) S:=
 h.more (h.wf.cons (yc _) (zha _)) (zha _) fun j hj=>by rw[xL,if_neg oM]
def obN(b:Bool)(l:List Nat):Ob:=⟨[.int .i64 (.ofNat 7),.int .i64 (.ofNat 0),.nils,.bool b,va l],rfl,rfl⟩
section
variable {P:Program}{w0:World}{O:Orc}
attribute [local go_sem] ltF gtF xZ x4 ziJ ziN ziM ziH wZ wP wR xX in
theorem zuN(h111:O 111=none)(h112:O 112=none)(h142:O 142=some (Qv P w0 142 uc lw GSm))(hs:Y0 P w0 142 uc lw GSm){sp:Nat}{L:List (Nat×Option AObj)}{S:Sto}(h:StOk sp L n S)(hN:S.obs.length<100000000){b:Bool}{l:List Nat}(hl:l.length<100000000)(m:Nat):
  Cv ((evW env O).call 111 [.ptr sp 0,.agg [.bool b,.lst l.length false (xP ql l)]] (KL L n m false [] none)) (ztQ sp L n S 1):=by
 refine qb (F:=f111) h111 rfl rfl (ziw rfl) ?_;obtain⟨v,⟨k,g2,rfl⟩,hpv,hcall⟩:=LZ h142 hs JU (b,l) hl (args:=uc (b,l)) (by simp only[uc,wkL,J0])
 simp only[uc,vK,va]at hcall;have hp:=h.spn;have k0:=(h.new (some (.row 157 [.bool b,.lst l.length false (xP ql l)] false false))).new (some (.row 131 [.int .i64 (.ofNat 0),.int .i64 (.ofNat 0)] false false));have ha1:∀m,Cv ((evW env O).call 112 [.ptr sp 0,.agg [.int .i64 (.ofNat 7),.int .i64 (.ofNat 0),.nils,.bool b,.lst l.length false (xP ql l)]] (KL _ (n+1+1) m false [] none)) fun v t=>∃L2 n2 m2 oid2,v=.agg (xX ⟨.ofNat 7,.ofNat S.obs.length⟩)∧t=KL L2 n2 m2 false [] none∧StTo sp _ (n+1+1) S L2 n2 {S with obs:=S.obs++[obN b l],oid:=oid2}:=fun m=>Yn h112 k0.ok hN (obN b l) m
 have hcp:=wG v7 l;unfold f111;simp only[Ko,Kn,Ki];cases g2 with
 |true=>
  clear ha1;refine xO ?_;refine xW ?_;refine⟨⟨.ofNat 1,k⟩,_,n+1+1,_,S,rfl,rfl,(k0.put2 oM oM (h.fresh oM) _),oM,oM⟩
 |false=>
  refine xQ ?_;refine xQ ?_;refine xR (qt ?_);refine wc (ha1 _) fun v t hv=>?_;obtain⟨L2,n2,m2,oid2,rfl,rfl,k1⟩:=hv;have hle:=k1.le;have g4:=(((h.fresh oM:Own sp S (n+1)).same oM k1)).trans (xS _ _ _);have ho:Own sp {S with obs:=S.obs++[obN b l],oid:=oid2} (n+1):=(h.fresh oM:Own sp S (n+1)).to oM k1
  have k2:=k0.trans k1;clear ha1 k1 k0;refine xO ?_;refine xO ?_;refine xW ?_;exact⟨⟨.ofNat 7,.ofNat S.obs.length⟩,_,n2,_,_,rfl,rfl,k2.put2 oM oM ho _,by simp only[vZ];omega,by simp only;omega⟩
attribute [local go_sem] xZ x4 ziJ ziN ziM ziH wZ xX in
theorem zmj(h117:O 117=none)(L:List (Nat×Option AObj))(n m:Nat):(evW env O).call 117 [] (KL L n m false [] none)=some (.agg (xX ⟨.ofNat 6,.ofNat 0⟩),KL L n m false [] none):=by
 have key:Cv ((evW env O).call 117 [] (KL L n m false [] none)) fun v t=>v=.agg (xX ⟨.ofNat 6,.ofNat 0⟩)∧t=KL L n m false [] none:=by
  refine vB (F:=f117) h117 rfl rfl (ziw rfl) ?_;unfold f117;simp only[Ko,Kn,Ki];refine xO ?_;refine xW ?_;exact⟨rfl,rfl⟩
 obtain⟨v,t,h,rfl,rfl⟩:=key;exact h
end
theorem zzL{α:Type}{t:Nat}{f:α→List AV}(hl:∀x,(f x).length=esz)(hs:∀x,wd (f x)=true)(he:1≤esz){L:List (Nat×Option AObj)}{m:Nat}{vs:List α}{w:α}{y:AV}(hr:vs≠[]→id<n∧xN L id=some (.row t (xP f vs) true false))(hw:WfA L n)(h1:j6 y=some 1)(h2:qC (KL L n m false [] none) esz 1 y=some (f w))(hb:2*(vs.length+1)*bytes≤281474976710656)(hn:vs.length+1<1000000000000):
  Cv (jg (KL L n m false [] none) t esz bytes (gSl esz id vs.length) y) fun v s=>∃L' m',v=gSl esz n (vs++[w]).length∧s=KL L' (n+1) m' false [] none∧xN L' n=some (.row t (xP f (vs++[w])) true false)∧WfA L' (n+1)∧(∀j,j<n→(vs≠[]→j≠id)→xN L' j=xN L j):=by
 have hfl:xP f [w]=f w:=qM w;cases vs with
 |nil=>
  refine⟨_,_,HV (q:=0) h1 h2 (.inl rfl) he (by simp only[xz,yO]at hb;exact hb) oM,_,_,rfl,rfl,by rw[xL,if_pos rfl,ziQ,hfl],fun j hj=>?_,fun j hj _=>by rw[xL,if_neg oM]⟩
  rw[xL,if_neg oM];exact hw j oM
 | cons u us=>
  obtain⟨hid,g1⟩:=hr (by simp)
  simp only[yb]at hb hn;have hsw:wd (f w)=true:=hs w;refine⟨_,_,HW (q:=0) (by rw[wh];exact g1) (by rw[vu hl];rfl) h1 h2 hsw he hb oM,_,_,?_,rfl,by rw[xL,if_pos rfl,wQ,hfl],fun j hj=>?_,fun j hj hne=>by rw[xL,if_neg oM,xL,if_neg (hne (by simp))]⟩
  ·simp only[zM,yb,yA,gSl]
   congr 1
  ·rw[xL,if_neg oM,xL];split
   ·rfl
   ·exact hw j oM
theorem StOk.oth{sp n2:Nat}{p:Prop}{L L2:List (Nat×Option AObj)}{S:Sto}(h:StOk sp L n S)(hw:WfA L2 n2)(hn:n≤n2)(ho:p→Own sp S id)(hf:∀j,j<n→(p→j≠id)→xN L2 j=xN L j):StOk sp L2 n2 S where
 wf:=hw
 row:=by rw[hf sp h.spn fun hp e=>(ho hp).sp e.symm];exact h.row
 go:=fun hne=>by
  obtain⟨q1,q2,q3⟩:=h.go hne;exact⟨q1,oM,by rw[hf _ q2 fun hp e=>(ho hp).o hne e.symm];exact q3⟩
 gy:=fun hne=>by
  obtain⟨q1,q2,q3⟩:=h.gy hne;exact⟨q1,oM,by rw[hf _ q2 fun hp e=>(ho hp).y hne e.symm];exact q3⟩
 sy:=fun y hy=>by
  have:=(h.sy y hy).mono (L2:=L2) (more:=[]) (fun _ hb=>hb) fun j hj=>hf j (h.bne hj).1 fun hp e=>(ho hp).b (e▸hj)
  rwa [ziA]at this
 bl:=fun b hb=>by
  obtain⟨cs,hcs⟩:=h.bl b hb;exact⟨cs,by rw[hf b (h.bne hb).1 fun hp e=>(ho hp).b (e▸hb)];exact hcs⟩
theorem StTo.oth{sp n1 n2:Nat}{p:Prop}{L L1 L2:List (Nat×Option AObj)}{S S1:Sto}(h:StTo sp L n S L1 n1 S1)(hw:WfA L2 n2)(hn:n1≤n2)(ho:p→Own sp S1 id∧n≤id)(hf:∀j,j<n1→(p→j≠id)→xN L2 j=xN L1 j):StTo sp L n S L2 n2 S1 where
 ok:=h.ok.oth hw hn (fun hp=>(ho hp).1) hf
 le:=Nat.le_trans h.le hn
 fr:=fun j h1 h2 h3 h4=>by
  have:=h.le;rw[hf j oM fun hp=>by have:=(ho hp).2;omega];exact h.fr j h1 h2 h3 h4
 o:=h.o
 y:=h.y
 b:=h.b
def zzE(O:Orc)(d:DT):Prop:=∀(sp:Nat) (L:List (Nat×Option AObj)) (n:Nat) (S:Sto) (m:Nat),StOk sp L n S→S.obs.length+2*wI d<100000000→S.ys.length+2*wI d<100000000→Cv ((evW env O).call 86 [.ptr sp 0,.agg (w4 d)] (KL L n m false [] none)) (ztQ sp L n S (2*wI d))
theorem PI(d:DT)(r:List DT):w9 (d::r)=wI d+w9 r:=by simp only[w9]
section
variable {O:Orc}
attribute [local go_sem] ltF gtF xZ x4 ziJ ziN ziM ziH wZ wP wR xX in
theorem GN(h65:O 65=none)(xs:List DT)(hx:∀x∈xs,zzE O x){sp:Nat}{L:List (Nat×Option AObj)}{S:Sto}(h:StOk sp L n S)(hN:S.obs.length+2*w9 xs<100000000)(hY:S.ys.length+2*w9 xs<100000000)(m:Nat):
  Cv ((evW env O).call 65 [.ptr sp 0,.lst xs.length false (wa xs)] (KL L n m false [] none)) fun v t=>∃id vs L2 n2 m2 S2,v=gSl 2 id vs.length∧vs.length=xs.length∧t=KL L2 n2 m2 false [] none∧StTo sp L n S L2 n2 S2∧S2.obs.length≤S.obs.length+2*w9 xs∧S2.ys.length≤S.ys.length+2*w9 xs∧(vs≠[]→n≤id∧id<n2∧Own sp S2 id∧xN L2 id=some (.row 131 (xP xX vs) true false)):=by
 refine qb (F:=f65) h65 rfl rfl (ziw rfl) ?_;have hxl:=j3 xs;unfold f65;simp only[Ko,Kn,Ki];refine xQ ?_;refine xR (xR (xO ?_));refine xT ?_;refine wx (fun i:Nat=>xs.length-i) (fun i f t=>∃T L2 n2 m2 S2 id vs,f=⟨tmL T,[]⟩∧t=KL L2 n2 m2 false [] none∧(tmL T).get 0=some (.ptr sp 0)∧(tmL T).get 4=some (gSl 2 id vs.length)∧(tmL T).get 7=some (.lst xs.length false (wa xs))∧(tmL T).get 8=some (.int .i64 (.ofNat xs.length))∧(tmL T).get 9=some (.int .i64 (.ofNat i))∧i≤xs.length∧vs.length=i∧StTo sp L n S L2 n2 S2∧S2.obs.length+2*w9 (xs.drop i)≤S.obs.length+2*w9 xs∧S2.ys.length+2*w9 (xs.drop i)≤S.ys.length+2*w9 xs∧(vs≠[]→n≤id∧id<n2∧Own sp S2 id∧xN L2 id=some (.row 131 (xP xX vs) true false))) (fun i f t hI=>?_) 0 ⟨_,L,n,m,S,0,[],rfl,rfl,sW,by simp (disch:=first|exact dis|fail)only[go_sem,seval,-rO,-rN,gSl],sW,sW,sW,zQ _,rfl,h.more h.wf (zu _) fun _ _=>rfl,zu _,zu _,fun hne=>absurd rfl hne⟩
 obtain⟨T,L2,n2,m2,S2,id,vs,rfl,rfl,t0,t4,t7,t8,t9,hi,rfl,k1,hb1,hb2,hg⟩:=hI;rcases wi xs vs.length with ⟨hlt,hd⟩|⟨x,hlt,hd⟩
 ·have hni:¬vs.length<xs.length:=oM;rw[hd]at hb1 hb2;refine xO ?_;refine xO ?_;refine xW ?_;exact⟨id,vs,L2,n2,_,S2,rfl,oM,rfl,k1,by simp only[w9]at hb1;omega,by simp only[w9]at hb2;omega,hg⟩
 ·have hcx:=Xf hd;rw[←qE]at hcx;rw[hd]at hb1 hb2;rw[PI]at hb1 hb2;have hxc:=hx x (ziT (by rw[hd];exact zi0))
  obtain⟨xk,xn,xt,xks,xp⟩:=x;simp only[wD]at hcx;have hle:=k1.le;have k2:=(k1.ok.new (some (.row 36 [.int .i64 (.ofNat 0),.int .i64 (.ofNat 0),.str [],.nils,.int .i64 (.ofNat 0)] false false)));have k3:StTo sp L2 n2 S2 ((n2,some (.row 36 [.int .i64 xk,.int .i64 xn,.str xt,.lst xks.length false (wa xks),.int .i64 xp] false false))::(n2,some (.row 36 [.int .i64 (.ofNat 0),.int .i64 (.ofNat 0),.str [],.nils,.int .i64 (.ofNat 0)] false false))::L2) (n2+1) S2:=k2.put2 (zu _) (yc _) (k1.ok.fresh (zu _)) _;have hcall:=fun m=>hxc sp _ (n2+1) S2 m k3.ok oM oM;simp only[wD]at hcall;refine xQ ?_;refine xR (qW sW ?_);refine xO ?_;refine xR (xT ?_);refine xQ ?_;refine qt ?_;refine wc (hcall _) fun v t hv=>?_;obtain⟨w,L4,n4,m4,S4,rfl,rfl,k4,hc1,hc2⟩:=hv;have k5:=(k1.trans k3).trans k4;have k6:=k5.new (some (.row 131 (xX w) false false));have hle3:=k3.le;have hle4:=k4.le;clear hcall hxc;have hid:vs≠[]→n≤id∧id<n4∧Own sp S4 id∧xN ((n4,some (AObj.row 131 (xX w) false false))::L4) id=some (.row 131 (xP xX vs) true false):=fun hne=>by
   obtain⟨q1,q2,q3,q4⟩:=hg hne;refine⟨q1,oM,q3.to oM k4,?_⟩;rw[xL,if_neg oM,q3.same oM k4,q3.same q2 k3];exact q4
  have hsrc:∀m,qC (KL ((n4,some (AObj.row 131 (xX w) false false))::L4) (n4+1) m false [] none) 2 1 (.sl n4 0 1 (.fix 1))=some (xX w):=fun m=>(lr (j:=0) (by rw[wh,xS]) rfl).2
  refine qt ?_;refine wc (zzL (f:=xX) (id:=id) (vs:=vs) (w:=w) jV pX oM (fun hne=>⟨by have:=(hid hne).2.1;omega,(hid hne).2.2.2⟩) k6.ok.wf rfl (hsrc _) oM oM) fun v t hv=>?_
  obtain⟨L7,m7,rfl,rfl,g7,hw7,hf7⟩:=hv;have k7:StTo sp L n S L7 (n4+1+1) S4:=k6.oth (p:=vs≠[]) (id:=id) hw7 (zha _) (fun hp=>⟨(hid hp).2.2.1,(hid hp).1⟩) hf7;have ho7:Own sp S4 (n4+1):=k6.ok.fresh (zu _);have hcat:=vZ vs w;clear hid hg k6 k5 k4 k3 k2 k1 hf7;refine xO ?_;refine xO ?_;exact⟨vs.length+1,⟨_,L7,n4+1+1,_,S4,n4+1,vs++[w],rfl,rfl,sV,sV,sV,sV,sV,oM,hcat,k7,oM,oM,fun _=>⟨oM,oM,ho7,g7⟩⟩,oM⟩
end
theorem zsJ{l dd:Nat}{ps:List Nat}{asg body:ICode}{tm2:Trie AV}{L:List (Nat×Option AObj)}{m:Nat}{b:Bool}{vs:List AV}{R:AV→St→Prop}(hg:xN L l=some (.loop .ready none tm ps asg body dd))(hp:hU tm ps vs=some tm2)
  (hA:Ev (evC env (evW env O) (some l) asg ⟨tm2,[]⟩ (KL L n m b [] none)) fun r fr s=>r=.norm∧∃L2 n2 m2,s=KL L2 n2 m2 b [] none∧xN L2 l=some (.loop .ready none tm ps asg body dd)∧Ev (evC env (evW env O) (some l) body fr (KL ((l,some (.loop .busy none tm ps asg body dd))::L2) n2 (u0 m2 l) b [] none)) fun r fr s=>r=.norm∧∃L3 n3 m3 st pd,s=KL L3 n3 m3 b [] none∧xN L3 l=some (.loop st pd tm ps asg body dd)∧R (.bool true) (KL ((l,some (.loop .ready none tm ps asg body dd))::L3) n3 (u0 m3 l) b [] none)):
  Cv ((evW env O).round l vs (KL L n m b [] none)) R:=by
 obtain⟨r,fr,s,e1,rfl,L2,n2,m2,rfl,g2,r2,fr2,s2,e2,rfl,L3,n3,m3,st,pd,rfl,g3,hr⟩:=hA;rw[pe,Ga,wh,hg,K8,hp,K9,e1,Zy,wh,g2,K7,jC,e2,Yj,wh,g3,PX,jC];exact⟨_,_,rfl,hr⟩
def Qx:List Nat×ICode×ICode:=match f116.body with
 |.seq _ (.seq (.seq _ (.block _ (.rf _ ps a b))) _)=>(ps,a,b)
 |_=>([],.skip,.skip)
def obL(id:Nat):Ob:=⟨[.int .i64 (.ofNat 0),.int .i64 (.ofNat 0),.sl id 0 2 (.fix 2),.bool false,.nils],rfl,rfl⟩
section
variable {O:Orc}
attribute [local go_sem] wR in
theorem zoM(h:O 146=none){k:Nat}{L:List (Nat×Option AObj)}{m:Nat}(b:Bool):
  Cv ((evW env O).call 146 [gSl 2 id k] (KL L n m b [] none)) fun v t=>∃m2,v=.fn 166 [] [.ptr n 0]∧t=KL ((n,some (.row 111 [gSl 2 id k] false false))::L) (n+1) m2 b [] none:=by
 refine qb (F:=f146) h rfl rfl (ziw rfl) ?_;unfold f146;simp only[Ko];refine xQ ?_;refine xQ ?_;refine xO ?_;refine xW ?_;exact⟨_,rfl,rfl⟩
structure LsB(sp:Nat)(L:List (Nat×Option AObj))(n:Nat)(S:Sto)(nb b3 b5 l id k:Nat)(vs:List Vl)(tF:List (Nat×AV))(dd:Nat)(w:Vl):Prop where
 gnb:xN L nb=some (.row 111 [gSl 2 id k] false false)
 g3:xN L b3=some (.row 92 [.ptr sp 0] false false)
 g5:xN L b5=some (.row 131 (xX w) false false)
 gl:xN L l=some (.loop .ready none (tmL tF) Qx.1 Qx.2.1 Qx.2.2 dd)
 gid:vs≠[]→xN L id=some (.row 131 (xP xX vs) true false)
 nnb:nb<n
 n3:b3<n
 n5:b5<n
 nl:l<n
 nid:vs≠[]→id<n
 onb:Own sp S nb
 o3:Own sp S b3
 o5:Own sp S b5
 ol:Own sp S l
 oid:vs≠[]→Own sp S id
theorem LsB.to{sp n2 nb b3 b5 l k dd:Nat}{L L2:List (Nat×Option AObj)}{S S2:Sto}{vs:List Vl}{tF:List (Nat×AV)}{w:Vl}(h:LsB sp L n S nb b3 b5 l id k vs tF dd w)(g:StTo sp L n S L2 n2 S2):LsB sp L2 n2 S2 nb b3 b5 l id k vs tF dd w where
 gnb:=by rw[h.onb.same h.nnb g];exact h.gnb
 g3:=by rw[h.o3.same h.n3 g];exact h.g3
 g5:=by rw[h.o5.same h.n5 g];exact h.g5
 gl:=by rw[h.ol.same h.nl g];exact h.gl
 gid:=fun hne=>by rw[(h.oid hne).same (h.nid hne) g];exact h.gid hne
 nnb:=zp h.nnb g.le
 n3:=zp h.n3 g.le
 n5:=zp h.n5 g.le
 nl:=zp h.nl g.le
 nid:=fun hne=>zp (h.nid hne) g.le
 onb:=h.onb.to h.nnb g
 o3:=h.o3.to h.n3 g
 o5:=h.o5.to h.n5 g
 ol:=h.ol.to h.nl g
 oid:=fun hne=>(h.oid hne).to (h.nid hne) g
end
section
variable {O:Orc}
attribute [-go_sem] pe in
attribute [local go_sem] ltF gtF xZ x4 ziJ ziN ziM ziH wZ wP wR xX in
theorem ztZ(h166:O 166=none)(h112:O 112=none){sp n0 nb b3 b5 l dd:Nat}{L0 L:List (Nat×Option AObj)}{S0 S:Sto}{vs:List Vl}{tF:List (Nat×AV)}{w:Vl}(hk:StTo sp L0 n0 S0 L n S)(hB:LsB sp L n S nb b3 b5 l id vs.length vs tF dd w)(t3:(tmL tF).get 3=some (.ptr b3 0))(t5:(tmL tF).get 5=some (.ptr b5 0))(h5:n0≤b5)(hl:n0≤l)(hN:S.obs.length+vs.length<100000000)(m:Nat)(b:Bool):
  Cv ((evW env O).call 166 [.yld l,.ptr nb 0] (KL L n m b [] none)) fun v t=>∃L2 n2 m2 S2 w2,t=KL L2 n2 m2 b [] none∧StTo sp L0 n0 S0 L2 n2 S2∧LsB sp L2 n2 S2 nb b3 b5 l id vs.length vs tF dd w2∧S2.obs.length≤S.obs.length+vs.length∧S2.ys.length=S.ys.length∧(∀j,j<n→j≠b5→j≠l→Own sp S j→j<n2∧xN L2 j=xN L j∧Own sp S2 j):=by
 refine qb (F:=f166) h166 rfl rfl (ziw rfl) ?_;have hs3:=ZE (k:=vs.length) oM;have gnb:=hB.gnb;unfold f166;simp only[Ko,Ki];refine xQ ?_;refine xT ?_;refine wx (fun k:Nat=>k) (fun k fr s=>∃T L2 n2 m2 S2 w2,fr=⟨tmL T,[]⟩∧s=KL L2 n2 m2 false [] none∧(tmL T).get 0=some (.yld l)∧(tmL T).get 1=some (.ptr nb 0)∧(tmL T).get 3=some (.int .i64 (i3 k))∧k≤vs.length∧StTo sp L0 n0 S0 L2 n2 S2∧LsB sp L2 n2 S2 nb b3 b5 l id vs.length vs tF dd w2∧S2.obs.length+k≤S.obs.length+vs.length∧S2.ys.length=S.ys.length∧(∀j,j<n→j≠b5→j≠l→Own sp S j→j<n2∧xN L2 j=xN L j∧Own sp S2 j)) (fun k2 fr s hI=>?_) vs.length ⟨_,L,n,m,S,w,rfl,rfl,sW,sW,sW,zu _,hk,hB,zu _,rfl,fun j h1 _ _ h2=>⟨h1,rfl,h2⟩⟩;clear hs3 gnb hB hk;obtain⟨T,L2,n2,m2,S2,w2,rfl,rfl,q0,q1,q3,hk3,hk,hB,hb1,hb2,hF⟩:=hI;cases k2 with
 |zero=>
  simp only[i3]at q3;refine xO ?_;refine xW ?_;exact⟨L2,n2,m2,S2,w2,rfl,hk,hB,oM,hb2,hF⟩
 | succ k2=>
  have hlt:k2<vs.length:=oM;have hia:= @YD 2 id vs.length k2 hlt;obtain⟨x,hd⟩:∃x,vs.drop k2=x::vs.drop (k2+1):=⟨_,ziO hlt⟩;have hcx:=GM hd;have hne:vs≠[]:=fun e=>by rw[e]at hlt;simp at hlt
  have gid:=hB.gid hne;have gnb:=hB.gnb;have hs2:=ZE (k:=k2) oM;simp only[i3]at q3;obtain⟨x1,x2⟩:=x;simp only[xX]at hcx;clear hd;refine xQ ?_;refine xR (xT ?_);refine xR ?_;refine qt ?_;have hround:∀m,Cv ((evW env O).round l [.int .i64 (.ofNat k2),.agg [.int .i64 x1,.int .i64 x2]] (KL L2 n2 m false [] none)) fun v t=>v=.bool true∧∃L3 n3 m3 S3 w3,t=KL L3 n3 m3 false [] none∧StTo sp L0 n0 S0 L3 n3 S3∧LsB sp L3 n3 S3 nb b3 b5 l id vs.length vs tF dd w3∧S3.obs.length≤S2.obs.length+1∧S3.ys.length=S2.ys.length∧(∀j,j<n2→j≠b5→j≠l→Own sp S2 j→j<n3∧xN L3 j=xN L2 j∧Own sp S3 j):=fun m=>by
   refine zsJ hB.gl rfl ?_;have gl:=hB.gl;have g3:=hB.g3;have g5:=hB.g5;have nl:=hB.nl;have n3:=hB.n3;have n5:=hB.n5;have hle:=hk.le;have e1:b5≠l:=fun e=>by rw[e,gl]at g5;cases g5
   have e2:b3≠l:=fun e=>by rw[e,gl]at g3;cases g3
   have e3:b3≠b5:=fun e=>by rw[e,g5]at g3;simp at g3
   have c0:=hk.ok.new (some (.row 131 [.int .i64 (.ofNat 0),.int .i64 (.ofNat 0)] false false));have c1:=c0.put2 (j:=n2) (zu _) (yc _) (hk.ok.fresh (zu _)) (some (.row 131 [.int .i64 x1,.int .i64 x2] false false));have hB1:=hB.to c1;have k1:=hk.trans c1;have k2':=k1.put2 (j:=l) hl oM hB1.ol (some (.loop .busy none (tmL tF) Qx.1 Qx.2.1 Qx.2.2 dd));simp only[Qx,f116]at gl k2'⊢;refine xO ?_;refine⟨trivial,_,_,_,rfl,sV,?_⟩;refine xT ?_;have k4:=k2'.new (some (.row 131 [.int .i64 x1,.int .i64 x2,.int .i64 w2.k,.int .i64 w2.n] false false));have ha1:∀m,Cv ((evW env O).call 112 [.ptr sp 0,.agg [.int .i64 (.ofNat 0),.int .i64 (.ofNat 0),.sl (n2+1) 0 2 (.fix 2),.bool false,.nils]] (KL _ (n2+1+1) m false [] none)) fun v t=>∃L3 n3 m3 oid3,v=.agg (xX ⟨.ofNat 7,.ofNat S2.obs.length⟩)∧t=KL L3 n3 m3 false [] none∧StTo sp _ (n2+1+1) S2 L3 n3 {S2 with obs:=S2.obs++[obL (n2+1)],oid:=oid3}:=fun m=>Yn h112 k4.ok oM (obL (n2+1)) m
   refine qt ?_;refine wc (ha1 _) fun v t hv=>?_;obtain⟨L3,n3',m3,oid3,rfl,rfl,k5⟩:=hv;have hle5:=k5.le;have hsame:∀j,j<n2→Own sp S2 j→j≠l→xN L3 j=xN L2 j:=fun j hj ho hjl=>by
    rw[ho.same oM k5]
    repeat rw[xL,if_neg oM]
   have gl3:=hB.ol.same oM k5;have g53:=(hsame b5 n5 hB.o5 e1).trans g5;have onb:=(hB.onb.to (by have:=hB.nnb;omega) k5)
   have o3:=(hB.o3.to oM k5);have o5:=(hB.o5.to oM k5);have ol:=(hB.ol.to oM k5);have oid':=fun hne=>((hB.oid hne).to (by have:=hB.nid hne;omega) k5)
   have gnb3:=(hsame nb hB.nnb hB.onb (fun e=>by rw[e,gl]at gnb;cases gnb)).trans gnb
   have g33:=(hsame b3 n3 hB.o3 e2).trans g3;have gid3:=(hsame id (hB.nid hne) (hB.oid hne) (fun e=>by rw[e,gl]at gid;cases gid)).trans gid
   have k6:=((k4.trans k5).put2 h5 oM o5 (some (.row 131 (xX ⟨.ofNat 7,.ofNat S2.obs.length⟩) false false))).put2 hl oM ol (some (.loop .ready none (tmL tF) Qx.1 Qx.2.1 Qx.2.2 dd));simp only[Qx,f116]at k6;rw[xL,if_neg (show ¬l=n2+1 by omega),xS]at gl3
   have hfin:∀j,j<n2→j≠b5→j≠l→Own sp S2 j→j<n3'∧xN L3 j=xN L2 j∧Own sp {S2 with obs:=S2.obs++[obL (n2+1)],oid:=oid3} j:=fun j h1 h2 h3 h4=>⟨oM,hsame j h1 h4 h3,h4.to oM k5⟩
   clear ha1 k4 k2' hsame;simp only[xX]at g53;refine xO ?_;refine⟨trivial,_,_,_,_,_,rfl,(xL _ _ _ _).trans ((if_neg e1.symm).trans gl3),trivial,_,_,_,{S2 with obs:=S2.obs++[obL (n2+1)],oid:=oid3},⟨.ofNat 7,.ofNat S2.obs.length⟩,rfl,k6,?_,by simp only[vZ];omega,rfl,fun j h1 h2 h3 h4=>(by
    obtain⟨p1,p2,p3⟩:=hfin j h1 h2 h3 h4;exact⟨p1,by rw[xL,if_neg h3,xL,if_neg h2];exact p2,p3⟩)⟩
   have nnb:=hB.nnb;have f1:nb≠l:=fun e=>by rw[e,gl]at gnb;cases gnb
   have f2:nb≠b5:=fun e=>by rw[e,g5]at gnb;simp at gnb
   have f3:id≠l:=fun e=>by rw[e,gl]at gid;cases gid
   have f4:id≠b5:=fun e=>by rw[e,g5]at gid;simp at gid
   refine⟨?_,?_,?_,xS _ _ _,fun _=>?_,oM,oM,oM,oM,fun h=>by have:=hB.nid h;omega,onb,o3,o5,ol,oid'⟩
   ·rw[xL,if_neg f1,xL,if_neg f2];exact gnb3
   ·rw[xL,if_neg e2,xL,if_neg e3];exact g33
   ·rw[xL,if_neg e1,xS];rfl
   ·rw[xL,if_neg f3,xL,if_neg f4];exact gid3
  refine wc (hround _) fun v t hv=>?_;obtain⟨rfl,L3,n3,m3,S3,w3,rfl,k3,hB3,hc1,hc2,hG⟩:=hv;have hF3:=fun j h1 h2 h3 h4=>(hF j h1 h2 h3 h4);clear hround gnb gid hF;refine xO ?_;refine xO ?_;refine xO ?_;exact⟨k2,⟨_,L3,n3,_,S3,w3,rfl,rfl,sV,sV,sV,oM,k3,hB3,oM,oM,fun j h1 h2 h3 h4=>(by
   obtain⟨p1,p2,p3⟩:=hF3 j h1 h2 h3 h4;obtain⟨p4,p5,p6⟩:=hG j p1 h2 h3 p3;exact⟨p4,p5.trans p2,p6⟩)⟩,oM⟩
end
section
variable {O:Orc}
attribute [local go_sem] ltF gtF xZ x4 ziJ ziN ziM ziH wZ wP wR xX in
theorem zmf(h116:O 116=none)(h146:O 146=none)(h166:O 166=none)(h112:O 112=none){sp:Nat}{L:List (Nat×Option AObj)}{S:Sto}(h:StOk sp L n S){vs:List Vl}(hv:vs≠[]→id<n∧Own sp S id∧xN L id=some (.row 131 (xP xX vs) true false))(w:Vl)(hN:S.obs.length+vs.length<100000000)(m:Nat):
  Cv ((evW env O).call 116 [.ptr sp 0,gSl 2 id vs.length,.agg (xX w)] (KL L n m false [] none)) (ztQ sp L n S vs.length):=by
 refine qb (F:=f116) h116 rfl rfl (ziw rfl) ?_;have hw:=h.wf;have hsp:=h.spn;unfold f116;simp only[Ko,Kn,Ki];refine xQ ?_;refine xR (xR (qt ?_));refine wc (zoM h146 false) fun v t hv2=>?_;obtain⟨m2,rfl,rfl⟩:=hv2;refine xO ?_;refine xT ?_;refine qt ?_;refine zrw (ztZ h166 h112 (L0:=L) (n0:=n) (S0:=S) (S:=S) (b3:=n) (b5:=n+1) (id:=id) (vs:=vs) (w:=w) (h.more ?_ oM fun j hj=>?_) ⟨?_,?_,?_,xS _ _ _,fun hne=>?_,oM,oM,oM,oM,fun hne=>?_,h.fresh oM,h.fresh oM,h.fresh oM,h.fresh oM,fun hne=>(hv hne).2.1⟩ ?_ ?_ oM oM hN _ false) fun v t hr=>?_
 ·(repeat first|exact hw.up oM|refine WfA.same ?_ oM)
 ·(repeat rw[xL,if_neg oM])
 ·simp (disch:=first|exact dis|fail)only[go_sem,seval,-rO,-rN]
 ·simp (disch:=first|exact dis|fail)only[go_sem,seval,-rO,-rN]
 ·simp (disch:=first|exact dis|fail)only[go_sem,seval,-rO,-rN]
 ·have:=(hv hne).1
  (repeat rw[xL,if_neg oM])
  exact(hv hne).2.2
 ·have:=(hv hne).1;omega
 ·simp (disch:=first|exact dis|fail)only[go_sem,seval,-rO,-rN]
 ·simp (disch:=first|exact dis|fail)only[go_sem,seval,-rO,-rN]
 obtain⟨L2,n2,m3,S2,w2,rfl,k1,hB,hb1,hb2,hF⟩:=hr;have gl:=hB.gl;obtain⟨z1,gd,od⟩:=hF (n+1+1+1+1) oM oM oM (h.fresh oM);obtain⟨z2,g6,o6⟩:=hF (n+1+1) oM oM oM (h.fresh oM);have g5:=hB.g5;have ol:=hB.ol;have nl:=hB.nl;simp (disch:=first|exact dis|fail)only[go_sem,seval,-rO,-rN]at gd
 simp (disch:=first|exact dis|fail)only[go_sem,seval,-rO,-rN]at g6
 simp only[Qx,f116]at gl;simp only[xX]at g5;clear hF hB hv;refine xO ?_;refine xQ ?_;refine wB (r:=.ret) ?_;show Cv _ _;rw[uL (by (repeat rw[xL,if_neg oM]);exact gd)]
 refine xW ?_;exact⟨w2,_,n2,_,S2,rfl,rfl,((k1.put2 oM oM ol _).put2 oM oM o6 _).put2 oM oM od _,hb1,oM⟩
end
theorem Kz:∀(N:Nat) (d:DT),wI d<N→uu d=true→TxD d→(∀x∈(qd d).1,uu x=true∧TxD x)∧uu (qd d).2=true∧TxD (qd d).2
 |0,_,h,_,_=>by omega
 | N+1,d,h,hm,ht=>by
  cases hk:qH d with
  |none=>rw[gS hk];exact⟨by simp,hm,ht⟩
  |some p=>
   obtain⟨x,y⟩:=p;have hn:=uH hk;rw[Wl hk,zq]at hm;have htk:=ht.kids hk;have hpx:=vv x;obtain⟨h1,h2,h3⟩:=Kz N y oM hm.2 htk.2;rw[kq hk];refine⟨fun z hz=>?_,h2,h3⟩;rcases List.mem_cons.1 hz with rfl|hz
   ·exact⟨hm.1,htk.1⟩
   ·exact h1 z hz
theorem KA:∀(N:Nat) (d:DT),wI d<N→w9 (qd d).1+wI (qd d).2+(qd d).1.length≤wI d
 |0,_,h=>by omega
 | N+1,d,h=>by
  cases hk:qH d with
  |none=>rw[gS hk];simp[w9]
  |some p=>
   obtain⟨x,y⟩:=p;have hn:=uH hk;have hpx:=vv x;have h1:=KA N y oM;rw[kq hk];simp only[w9,yb];omega
theorem zqx{kd dn:Int}{dt:List Nat}{dk:List DT}{dp:Int}(h:uu (.mk kd dn dt dk dp)=true)(h6:kd≠.ofNat 6)(h7:kd≠.ofNat 7):JA kd dn dt=true:=by
 have hk:qH (.mk kd dn dt dk dp)=none:=by
  cases hk:qH (.mk kd dn dt dk dp)with
  |none=>rfl
  |some p=>exact absurd (vV (x:=p.1) (y:=p.2) hk).1 h6
 rw[ZZ hk,if_neg h7,zq]at h;exact h.2
theorem zpk(h:O 110=some zrW){t:List Nat}(hb:Byt t)(hl:t.length<2000000)(hn:YL t=true)(s:St):(evW env O).call 110 [.str t] s=some (zy4 t,s):=by
 rw[wN h,zrW,qP Xm s t ⟨⟨hb,hl⟩,hn⟩ rfl]
def obK(k:Int)(x:AV)(hx:ua x=true):Ob:=⟨[.int .i64 k,.int .i64 (.ofNat 0),x,.bool false,.nils],rfl,by simp only[jx,lx,XM,Wu,hx];rfl⟩
structure VOrc(P:Program)(w0:World)(O:Orc):Prop where
 h65:O 65=none
 h86:O 86=none
 h111:O 111=none
 h112:O 112=none
 h114:O 114=none
 h116:O 116=none
 h117:O 117=none
 h144:O 144=none
 h165:O 165=none
 h143:O 143=none
 h146:O 146=none
 h166:O 166=none
 h145:O 145=some QM
 h110:O 110=some zrW
 h113:O 113=some V5
 h115:O 115=some zrU
 h142:O 142=some (Qv P w0 142 uc lw GSm)
 hfx:Y0 P w0 142 uc lw GSm
section
variable {P:Program}{w0:World}{O:Orc}
attribute [local go_sem] ltF gtF xZ x4 ziJ ziN ziM ziH wZ wP wR xX in
theorem zsK(H:VOrc P w0 O)(hm:uu d=true)(ht:TxD d)(hn:wI d≤100000)(ih:∀x,wI x<wI d→uu x=true→TxD x→zzE O x):zzE O d:=by
 intro sp L n S m h hN hY;refine qb (F:=f86) H.h86 rfl rfl (ziw rfl) ?_;have hw:=h.wf;have hsp:=h.spn;obtain⟨kd,dn,dt,dk,dp⟩:=d;have k0:∀a b:Option AObj,StTo sp L n S ((n+1,a)::(n,b)::L) (n+1+1) S:=fun a b=>(h.new b).new a;have ho1:Own sp S (n+1):=h.fresh oM;have hpos:=vv (.mk kd dn dt dk dp);have hsim:∀(w:Vl) (a b c:Option AObj) (m2:Nat),ztQ sp L n S (2*wI (.mk kd dn dt dk dp)) (.agg (xX w)) (KL ((n+1,a)::(n+1,b)::(n,c)::L) (n+1+1) m2 false [] none):=fun w a b c m2=>⟨w,_,_,_,S,rfl,rfl,(k0 b c).put2 oM oM ho1 a,oM,oM⟩;simp only[wD];unfold f86;simp only[Ko,Kn,Ki];by_cases e1:kd=.ofNat 1
 ·subst e1;clear k0;refine xQ ?_;refine xQ ?_;refine xW ?_;exact hsim ⟨.ofNat 3,dn⟩ _ _ _ _
 have n1:=qx e1;by_cases e3:kd=.ofNat 3
 ·subst e3;clear k0;refine xQ ?_;refine xQ ?_;refine xW ?_;exact hsim ⟨.ofNat 2,dn⟩ _ _ _ _
 have n3:=qx e3;by_cases e9:kd=.ofNat 9
 ·subst e9;clear k0;refine xQ ?_;refine xQ ?_;refine xW ?_;exact hsim ⟨.ofNat 5,.ofNat 0⟩ _ _ _ _
 have n9:=qx e9;by_cases e10:kd=.ofNat 10
 ·subst e10;have hno:=fun L n m=>zmj H.h117 L n m;simp only[xX]at hno;clear k0;refine xQ ?_;refine xQ ?_;refine xW ?_;exact hsim ⟨.ofNat 6,.ofNat 0⟩ _ _ _ _
 have n10:=qx e10;simp only[TxD]at ht;have hfin:∀{L1:List (Nat×Option AObj)} {L2:List (Nat×Option AObj)} {n2 m2:Nat} {S2:Sto} (w:Vl),StTo sp L n S L1 (n+1+1) S→StTo sp L1 (n+1+1) S L2 n2 S2→S2.obs.length≤S.obs.length+2*wI (.mk kd dn dt dk dp)→S2.ys.length≤S.ys.length+2*wI (.mk kd dn dt dk dp)→ztQ sp L n S (2*wI (.mk kd dn dt dk dp)) (.agg (xX w)) (KL ((n+1,some (.row 131 (xX w) false false))::L2) n2 m2 false [] none):=fun w ka kb h1 h2=>⟨w,_,_,_,_,rfl,rfl,(ka.trans kb).put2 oM (by have:=kb.le;omega) (ho1.to oM kb) _,h1,h2⟩
 by_cases e2:kd=.ofNat 2
 ·subst e2;have hnum:YL dt=true:=zqx hm (by decide) (by decide)
  have hpc:=fun s=>zpk H.h110 ht.1 ht.2.1 hnum s;simp only[zy4,vK,va]at hpc;have hll:(vH (Ws (trL kN dt) [])).length<100000000:=by
   have a1:=Wz (Ws (trL kN dt) []);have a2:=PU (trL kN dt) [];have a3:=zw7 kN dt;simp only[xz]at a2;omega
  generalize vH (Ws (trL kN dt) [])=l at *;generalize Qn (ngF dt) _=g at *;have hcp:xY (xP ql l)=true:=wG v7 l;refine xQ ?_;refine xR ?_;refine xQ ?_;refine xT ?_;refine xQ ?_;refine ve sW ?_;refine xQ ?_;refine qW sW ?_;refine xQ ?_;refine xR (qt ?_);have k1:=fun a b c:Option AObj=>(k0 a b).new c;refine wc (zuN H.h111 H.h112 H.h142 H.hfx ((k1 _ _ _).put2 (j:=n+1+1) oM oM (h.fresh oM) _).ok oM hll _) fun v t hv=>?_;obtain⟨w,L2,n2,m2,S2,rfl,rfl,k2,hc1,hc2⟩:=hv;have hle:=k2.le;have g4:=(ho1.same oM k2);simp (disch:=first|exact dis|fail)only[go_sem,seval,-rO,-rN]at g4
  have k3:=(((k1 _ _ _).put2 (j:=n+1+1) oM oM (h.fresh oM) _).trans k2).put2 (j:=n+1) oM oM (ho1.to oM k2) (some (.row 131 (xX w) false false));clear k0 k1 hfin k2 hpc;refine xO ?_;refine xO ?_;refine xW ?_;exact⟨w,_,n2,_,S2,rfl,rfl,k3,oM,oM⟩
 have n2:=qx e2;by_cases e4:kd=.ofNat 4
 ·subst e4;have hch:=fun s=>Vs H.h113 ⟨ht.1,ht.2.1⟩ s;simp only[vq]at hch;have ha1:∀m a b,Cv ((evW env O).call 112 [.ptr sp 0,.agg [.int .i64 (.ofNat 4),.int .i64 (.ofNat 0),.lst (jD dt).length false (xP xX (jD dt)),.bool false,.nils]] (KL ((n+1,a)::(n,b)::L) (n+1+1) m false [] none)) fun v t=>∃L2 n2 m2 oid2,v=.agg (xX ⟨.ofNat 7,.ofNat S.obs.length⟩)∧t=KL L2 n2 m2 false [] none∧StTo sp _ (n+1+1) S L2 n2 {S with obs:=S.obs++[obS (jD dt)],oid:=oid2}:=fun m a b=>Yn H.h112 (k0 a b).ok oM (obS (jD dt)) m
  have hcp:=X9 (jD dt);generalize xP xX (jD dt)=cs at *;refine xQ ?_;refine xR ?_;refine xQ ?_;refine xT ?_;refine xQ ?_;refine ve sW ?_;refine xQ ?_;refine ve sW ?_;refine xQ ?_;refine ve sW ?_;refine xQ ?_;refine qW sW ?_;refine xR (qt ?_);refine wc (ha1 _ _ _) fun v t hv=>?_;obtain⟨L2,n2,m2,oid2,rfl,rfl,k2⟩:=hv;have g4:=(ho1.same oM k2);simp (disch:=first|exact dis|fail)only[go_sem,seval,-rO,-rN]at g4
  have hf:=fun m=>hfin (m2:=m) ⟨.ofNat 7,.ofNat S.obs.length⟩ (k0 _ _) k2 (by simp only[vZ];omega) (by simp only;omega)
  clear k0 hfin k2 hch ha1;simp only[xX]at hf;refine xO ?_;refine xO ?_;refine xW ?_;exact hf _
 have n4:=qx e4;by_cases e5:kd=.ofNat 5
 ·subst e5;have hch:=fun s=>Vs H.h113 ⟨ht.1,ht.2.1⟩ s;have hcl:=zya dt;refine xQ ?_;refine xR ?_;refine xQ ?_;refine xT ?_;refine xQ ?_;refine ve sW ?_;refine xQ ?_;refine ve sW ?_;refine xQ ?_;refine ve sW ?_;refine xQ ?_;refine ve sW ?_;refine xQ ?_;refine qW sW ?_;refine xR (qt ?_);refine wc (ztk H.h114 H.h112 H.h145 H.h143 H.h144 H.h165 (k0 _ _).ok oM oM (l:=jD dt) oM _) fun v t hv=>?_;obtain⟨w,L2,n2,m2,S2,rfl,rfl,k2,hc1,hc2⟩:=hv;have g4:=(ho1.same oM k2);simp (disch:=first|exact dis|fail)only[go_sem,seval,-rO,-rN]at g4
  have hf:=fun m=>hfin (m2:=m) w (k0 _ _) k2 oM oM;clear k0 hfin k2 hch;simp only[xX]at hf;refine xO ?_;refine xO ?_;refine xW ?_;exact hf _
 have n5:=qx e5;by_cases e8:kd=.ofNat 8
 ·subst e8;refine xQ ?_;refine xR ?_;refine xQ ?_;refine xT ?_;refine xQ ?_;refine ve sW ?_;refine xQ ?_;refine ve sW ?_;refine xQ ?_;refine ve sW ?_;refine xQ ?_;refine ve sW ?_;refine xQ ?_;refine ve sW ?_;refine xQ ?_;refine qW sW ?_;have hlen:=ht.2.1;have hbyt:=ht.1;have hcs:∀l n m,Qz (KL l n m false [] none) 5 (.str dt)=some (.sl n 0 dt.length (.opn 1),KL ((n,some (.row 5 (ww dt) true false))::l) (n+1) m false [] none):=fun l n m=>by
   simp only[Qz,wV,wK.2 (show dt.length<9223372036854775808 by omega),cond_true,WD,cond_false]
   rfl
  refine xQ ?_;refine xR (xR (xO ?_));refine xT ?_;have k1:=fun a b c:Option AObj=>((k0 a b).new c);refine wx (fun i:Nat=>dt.length-i) (fun i f t=>∃T L2 n2 m2 id vs,f=⟨tmL T,[]⟩∧t=KL L2 n2 m2 false [] none∧(tmL T).get 0=some (.ptr sp 0)∧(tmL T).get 4=some (.ptr (n+1) 0)∧(tmL T).get 7=some (gSl 2 id vs.length)∧(tmL T).get 55=some (.sl (n+1+1) 0 dt.length (.opn 1))∧(tmL T).get 56=some (.int .i64 (.ofNat dt.length))∧(tmL T).get 57=some (.int .i64 (.ofNat i))∧i≤dt.length∧vs.length=i∧StTo sp L n S L2 n2 S∧n+1+1+1≤n2∧xN L2 (n+1)=some (.row 131 [.int .i64 (.ofNat 0),.int .i64 (.ofNat 0)] false false)∧xN L2 (n+1+1)=some (.row 5 (ww dt) true false)∧(vs≠[]→n+1+1+1≤id∧id<n2∧xN L2 id=some (.row 131 (xP xX vs) true false))) (fun i f t hI=>?_) 0 ⟨_,_,_,_,0,[],rfl,rfl,sW,sW,by simp (disch:=first|exact dis|fail)only[go_sem,seval,-rO,-rN,gSl],sW,sW,sW,zQ _,rfl,k1 _ _ _,zu _,sW,sW,fun hne=>absurd rfl hne⟩
  obtain⟨T,L2,n2',m2,id,vs,rfl,rfl,t0,t4,t7,t55,t56,t57,hi,rfl,k2,hle2,g4,g5,hg⟩:=hI;rcases wi dt vs.length with ⟨hlt,hd⟩|⟨x,hlt,hd⟩
  ·have hni:¬vs.length<dt.length:=oM;have hsc:=uE 2 id vs.length;have hcc:=wR 2 id vs.length;have ha1:∀m,Cv ((evW env O).call 112 [.ptr sp 0,.agg [.int .i64 (.ofNat 6),.int .i64 (.ofNat 0),gSl 2 id vs.length,.bool false,.nils]] (KL L2 n2' m false [] none)) fun v t=>∃L3 n3 m3 oid3,v=.agg (xX ⟨.ofNat 7,.ofNat S.obs.length⟩)∧t=KL L3 n3 m3 false [] none∧StTo sp _ n2' S L3 n3 {S with obs:=S.obs++[obK (.ofNat 6) (gSl 2 id vs.length) hsc],oid:=oid3}:=fun m=>Yn H.h112 k2.ok oM (obK (.ofNat 6) (gSl 2 id vs.length) hsc) m
   generalize gSl 2 id vs.length=sv at *;clear hg;refine xO ?_;refine xR (qt ?_);refine wc (ha1 _) fun v t hv=>?_;obtain⟨L3,n3',m3,oid3,rfl,rfl,k3⟩:=hv;have g43:=(ho1.same oM k3).trans g4;have k5:=(k2.trans k3).put2 (j:=n+1) oM (by have:=k3.le;omega) (ho1.to oM k3) (some (.row 131 (xX ⟨.ofNat 7,.ofNat S.obs.length⟩) false false))
   clear k0 k1 hfin k2 k3 ha1;refine xO ?_;refine xO ?_;refine xW ?_;exact⟨⟨.ofNat 7,.ofNat S.obs.length⟩,_,n3',_,_,rfl,rfl,k5,by simp only[vZ];omega,by simp only;omega⟩
  ·have hx:x<256:=hbyt x (ziT (by rw[hd];exact zi0))
   have hb:wj 1 (ww (dt.drop vs.length))=some [.int .u8 (.ofNat x)]:=by rw[hd];rfl
   have k3:=k2.new (some (.row 131 (xX ⟨.ofNat 1,.ofNat x⟩) false false));have hsrc:∀m,qC (KL ((n2',some (AObj.row 131 (xX ⟨.ofNat 1,.ofNat x⟩) false false))::L2) (n2'+1) m false [] none) 2 1 (.sl n2' 0 1 (.fix 1))=some (xX ⟨.ofNat 1,.ofNat x⟩):=fun m=>(lr (j:=0) (by rw[wh,xS]) rfl).2
   have hid:vs≠[]→id<n2'+1∧xN ((n2',some (AObj.row 131 (xX ⟨.ofNat 1,.ofNat x⟩) false false))::L2) id=some (.row 131 (xP xX vs) true false):=fun hne=>by
    obtain⟨q1,q2,q3⟩:=hg hne;exact⟨oM,by rw[xL,if_neg oM];exact q3⟩
   clear hd;refine xQ ?_;refine xR (qW sW ?_);refine xO ?_;refine xR (xT ?_);refine xQ ?_;refine qt ?_;refine wc (zzL (f:=xX) (id:=id) (vs:=vs) (w:=⟨.ofNat 1,.ofNat x⟩) jV pX oM hid k3.ok.wf rfl (hsrc _) oM oM) fun v t hv=>?_;obtain⟨L7,m7,rfl,rfl,g7,hw7,hf7⟩:=hv;have k7:StTo sp L n S L7 (n2'+1+1) S:=k3.oth (p:=vs≠[]) (id:=id) hw7 (zha _) (fun hp=>⟨h.fresh (by have:=(hg hp).1;omega),by have:=(hg hp).1;omega⟩) hf7
   have g47:xN L7 (n+1)=some (.row 131 [.int .i64 (.ofNat 0),.int .i64 (.ofNat 0)] false false):=by
    rw[hf7 _ oM fun hp=>by have:=(hg hp).1;omega,xL,if_neg oM];exact g4
   have g57:xN L7 (n+1+1)=some (.row 5 (ww dt) true false):=by
    rw[hf7 _ oM fun hp=>by have:=(hg hp).1;omega,xL,if_neg oM];exact g5
   have hcat:=vZ vs ⟨.ofNat 1,.ofNat x⟩;clear hid hg k3 k2 k1 k0 hf7 hfin;refine xO ?_;refine xO ?_;exact⟨vs.length+1,⟨_,L7,n2'+1+1,_,n2'+1,vs++[⟨.ofNat 1,.ofNat x⟩],rfl,rfl,sV,sV,sV,sV,sV,sV,oM,hcat,k7,oM,g47,g57,fun _=>⟨oM,oM,g7⟩⟩,oM⟩
 have n8:=qx e8;by_cases e7:kd=.ofNat 7
 ·subst e7;have hk:qH (.mk (.ofNat 7) dn dt dk dp)=none:=by
   cases hk:qH (.mk (.ofNat 7) dn dt dk dp)with
   |none=>rfl
   |some p=>exact absurd (vV (x:=p.1) (y:=p.2) hk).1 (by decide)
  rw[ZZ hk,if_pos rfl]at hm;have hnk:wI (.mk (.ofNat 7) dn dt dk dp)=1+w9 dk:=by simp only[wI]
  have hdc:∀x∈dk,zzE O x:=fun x hx=>ih x (by rw[hnk];have:=jt hx;omega) (List.all_eq_true.1 hm x hx) (ht.2.2.mem hx)
  refine xQ ?_;refine xR ?_;refine xQ ?_;refine xT ?_;refine xQ ?_;refine ve sW ?_;refine xQ ?_;refine ve sW ?_;refine xQ ?_;refine ve sW ?_;refine xQ ?_;refine ve sW ?_;refine xQ ?_;refine ve sW ?_;refine xQ ?_;refine ve sW ?_;refine xQ ?_;refine qW sW ?_;refine xR (qt ?_);refine wc (GN H.h65 dk hdc (k0 _ _).ok oM oM _) fun v t hv=>?_;obtain⟨id,vs,L2,n2,m2,S2,rfl,hvl,rfl,k2,hc1,hc2,hg⟩:=hv;have hsc:=uE 2 id vs.length;have hcc:=wR 2 id vs.length;have ha1:∀m,Cv ((evW env O).call 112 [.ptr sp 0,.agg [.int .i64 (.ofNat 1),.int .i64 (.ofNat 0),gSl 2 id vs.length,.bool false,.nils]] (KL L2 n2 m false [] none)) fun v t=>∃L3 n3 m3 oid3,v=.agg (xX ⟨.ofNat 7,.ofNat S2.obs.length⟩)∧t=KL L3 n3 m3 false [] none∧StTo sp _ n2 S2 L3 n3 {S2 with obs:=S2.obs++[obK (.ofNat 1) (gSl 2 id vs.length) hsc],oid:=oid3}:=fun m=>Yn H.h112 k2.ok oM (obK (.ofNat 1) (gSl 2 id vs.length) hsc) m
  generalize gSl 2 id vs.length=sv at *;refine qt ?_;refine wc (ha1 _) fun v t hv=>?_;obtain⟨L3,n3',m3,oid3,rfl,rfl,k3⟩:=hv;have k4:=k2.trans k3;have g4:=(ho1.same oM k4);simp (disch:=first|exact dis|fail)only[go_sem,seval,-rO,-rN]at g4
  have hf:=fun m=>hfin (m2:=m) ⟨.ofNat 7,.ofNat S2.obs.length⟩ (k0 _ _) k4 (by simp only[vZ];omega) (by simp only;omega)
  clear k0 hfin k2 k3 k4 ha1 hg;simp only[xX]at hf;refine xO ?_;refine xO ?_;refine xW ?_;exact hf _
 have n7:=qx e7;by_cases e6:kd=.ofNat 6
 ·subst e6;cases hk:qH (.mk (.ofNat 6) dn dt dk dp)with
  |none=>
   rw[ZZ hk,if_neg (by decide)]at hm
   simp[Y6,JA,Pq]at hm
  | some p=>
   obtain⟨x,y⟩:=p;have hni:=Qd (.mk (.ofNat 6) dn dt dk dp);have hlt:wI (qd (.mk (.ofNat 6) dn dt dk dp)).2<wI (.mk (.ofNat 6) dn dt dk dp):=by
    rw[kq hk];have h1:=Qd y;have h2:=uH hk;have h3:=vv x;show wI (qd y).2<_;omega
   have hil:=j3 (qd (.mk (.ofNat 6) dn dt dk dp)).1;have hpl:=vv (qd (.mk (.ofNat 6) dn dt dk dp)).2;have hsum:w9 (qd (.mk (.ofNat 6) dn dt dk dp)).1+wI (qd (.mk (.ofNat 6) dn dt dk dp)).2+(qd (.mk (.ofNat 6) dn dt dk dp)).1.length≤wI (.mk (.ofNat 6) dn dt dk dp):=KA _ _ (yc _);obtain⟨hi1,hi2,hi3⟩:=Kz _ _ (yc _) hm (by simp only[TxD];exact ht)
   have hit:=fun s=>zqh H.h115 (d:=.mk (.ofNat 6) dn dt dk dp) oM s;simp only[itR]at hit;generalize qd (.mk (.ofNat 6) dn dt dk dp)=I at *;obtain⟨is,e⟩:=I;simp only at hni hlt hil hpl hsum hi1 hi2 hi3 hit;have hdc:∀z∈is,zzE O z:=fun z hz=>ih z (by have:=jt hz;omega) (hi1 z hz).1 (hi1 z hz).2
   have hde:=ih e hlt hi2 hi3;obtain⟨ek,en,et,eks,ep⟩:=e;simp only[Xk,wD]at hit;have hcp:xY (wa is)=true:=vA is;have hcp2:xY (wa eks)=true:=vA eks;refine xQ ?_;refine xR ?_;refine xQ ?_;refine xT ?_;refine xQ ?_;refine ve sW ?_;refine xQ ?_;refine ve sW ?_;refine xQ ?_;refine ve sW ?_;refine xQ ?_;refine ve sW ?_;refine xQ ?_;refine ve sW ?_;refine xQ ?_;refine ve sW ?_;refine xQ ?_;refine ve sW ?_;refine xQ ?_;refine qW sW ?_;refine xQ ?_;have k1:=fun a b c:Option AObj=>((k0 a b).new c);have k2:=fun a b c e:Option AObj=>(k1 a b c).put2 (j:=n+1+1) oM oM (h.fresh oM) e;refine xR (qt ?_);refine wc (GN H.h65 is hdc (k2 _ _ _ _).ok oM oM _) fun v t hv=>?_;obtain⟨id,vs,L2,n2,m2,S2,rfl,hvl,rfl,k3,hc1,hc2,hg⟩:=hv;have hsc:=uE 2 id vs.length;have hcc:=wR 2 id vs.length;replace hvl:=hvl.symm;have g11:=((h.fresh oM:Own sp S (n+1+1)).same oM k3);simp (disch:=first|exact dis|fail)only[go_sem,seval,-rO,-rN]at g11
   have hdd:=fun m=>hde sp L2 n2 S2 m k3.ok oM oM;simp only[wD]at hdd;refine xO ?_;refine xR (qt ?_);refine wc (hdd _) fun v t hv=>?_;obtain⟨w,L4,n4,m4,S4,rfl,rfl,k4,hc3,hc4⟩:=hv;clear hdd hde;have hls:=fun m=>zmf H.h116 H.h146 H.h166 H.h112 (sp:=sp) (n:=n4) (L:=L4) (S:=S4) k4.ok (vs:=vs) (id:=id) (fun hne=>by
    obtain⟨q1,q2,q3,q4⟩:=hg hne;have:=k4.le;exact⟨oM,q3.to q2 k4,by rw[q3.same q2 k4];exact q4⟩) w oM m
   simp only[xX]at hls;refine qt ?_;refine wc (hls _) fun v t hv=>?_;obtain⟨w5,L5,n5',m5,S5,rfl,rfl,k5,hc5,hc6⟩:=hv;have k6:=(k3.trans k4).trans k5;have hle6:=k6.le;have g4:=(ho1.same oM k6);simp (disch:=first|exact dis|fail)only[go_sem,seval,-rO,-rN]at g4
   have k7:=((k2 _ _ _ _).trans k6).put2 (j:=n+1) oM oM (ho1.to oM k6) (some (.row 131 (xX w5) false false));clear k0 k1 k2 hfin k3 k4 k5 k6 hls hg g11;simp only[xX]at k7;refine xO ?_;refine xO ?_;refine xW ?_;exact⟨w5,_,n5',_,S5,rfl,rfl,k7,oM,oM⟩
 have n6:=qx e6;clear k0 hfin;refine xQ ?_;refine xQ ?_;refine xO ?_;refine xW ?_;exact hsim ⟨.ofNat 4,.ofNat 0⟩ _ _ _ _
end
theorem JP{P:Program}{w0:World}{O:Orc}(H:VOrc P w0 O):∀(N:Nat) (d:DT),wI d<N→wI d≤100000→uu d=true→TxD d→zzE O d
 |0,_,h,_,_,_=>by omega
 |N+1,d,h,hn,hm,ht=>zsK H hm ht hn fun x hx h1 h2=>JP H N x oM oM h1 h2
def ztP(O:Orc)(d:DT):Prop:=∀(L:List (Nat×Option AObj)) (n m:Nat) (b:Bool),Cv ((evW env O).call 64 [.agg (w4 d)] (KL L n m b [] none)) fun v t=>(∃r,v=.bool r)∧t=KL L n m b [] none
section
variable {O:Orc}
attribute [local go_sem] xZ x4 ziJ ziN ziM ziH wZ in
theorem zuU(h85:O 85=none)(hp:ztP O d)(L:List (Nat×Option AObj))(n m:Nat)(b:Bool):Cv ((evW env O).call 85 [.agg (w4 d)] (KL L n m b [] none)) fun v t=>(∃r,v=.bool r)∧t=KL L n m b [] none:=by
 refine vB (F:=f85) h85 rfl rfl (ziw rfl) ?_;obtain⟨dk,dn,dt,ds,dp⟩:=d;have hp2:=fun L n m b=>hp L n m b;simp only[wD]at hp2⊢;unfold f85;simp only[Ko];refine xQ ?_;refine xR (qt ?_);refine wc (hp2 _ _ _ _) fun v t hv=>?_;obtain⟨⟨r,rfl⟩,rfl⟩:=hv;clear hp2;refine xO ?_;refine xO ?_;refine xW ?_;exact⟨⟨_,rfl⟩,rfl⟩
attribute [local go_sem] ltF gtF xZ x4 ziJ ziN ziM ziH wZ in
theorem zy9(h85:O 85=none)(h106:O 106=none)(l:List DT)(hl:l.length<1000000000)(hp:∀x∈l,ztP O x)(L:List (Nat×Option AObj))(n m:Nat)(b:Bool):Cv ((evW env O).call 106 [.lst l.length false (wa l),.fn 85 [] []] (KL L n m b [] none)) fun v t=>(∃r,v=.int .i64 r)∧t=KL L n m b [] none:=by
 refine vB (F:=f106) h106 rfl rfl (ziw rfl) ?_;unfold f106;simp only[Ko,Ki];refine xQ ?_;refine xR (xR (xO ?_));refine xT ?_;refine wx (fun i:Nat=>l.length-i) (fun i f t=>∃T,f=⟨tmL T,[]⟩∧t=KL L n 0 true [] none∧(tmL T).get 0=some (.lst l.length false (wa l))∧(tmL T).get 1=some (.fn 85 [] [])∧(tmL T).get 7=some (.int .i64 (.ofNat l.length))∧(tmL T).get 8=some (.int .i64 (.ofNat i))∧i≤l.length) (fun i f t hI=>?_) 0 ⟨_,rfl,rfl,sW,sW,sW,sW,zQ _⟩;obtain⟨T,rfl,rfl,t0,t1,t7,t8,hi⟩:=hI;rcases wi l i with ⟨hlt,hd⟩|⟨x,hlt,hd⟩
 ·have hni:¬i<l.length:=oM;refine xO ?_;refine xO ?_;refine xW ?_;exact⟨⟨_,rfl⟩,rfl⟩
 ·have hcx:=Xf hd;rw[←qE]at hcx;have hpx:=fun L n m b=>zuU h85 (hp x (ziT (by rw[hd];exact zi0))) L n m b
  obtain⟨xk,xn,xt,xs,xp⟩:=x;simp only[wD]at hcx hpx;clear hd hp;refine xQ ?_;refine xR (qW sW ?_);refine xO ?_;refine xR (xT ?_);refine xQ ?_;refine xR ?_;refine qt ?_;refine wc (hpx _ _ _ _) fun v t hv=>?_;obtain⟨⟨r,rfl⟩,rfl⟩:=hv;clear hpx;cases r with
  |true=>
   refine xO ?_;refine xO ?_;refine xW ?_;exact⟨⟨_,rfl⟩,rfl⟩
  |false=>
   refine xO ?_;refine xO ?_;refine xO ?_;exact⟨i+1,⟨_,rfl,trivial,sV,sV,sV,sV,oM⟩,oM⟩
attribute [local go_sem] ltF gtF in
theorem zy8(h85:O 85=none)(h106:O 106=none)(h82:O 82=none)(l:List DT)(hl:l.length<1000000000)(hp:∀x∈l,ztP O x)(L:List (Nat×Option AObj))(n m:Nat)(b:Bool):Cv ((evW env O).call 82 [.lst l.length false (wa l),.fn 85 [] []] (KL L n m b [] none)) fun v t=>(∃r,v=.bool r)∧t=KL L n m b [] none:=by
 refine vB (F:=f82) h82 rfl rfl (ziw rfl) ?_;have hix:=fun L n m b=>zy9 h85 h106 l hl hp L n m b;unfold f82;simp only[Ko,Ki];refine xQ ?_;refine xR (qt ?_);refine wc (hix _ _ _ _) fun v t hv=>?_;obtain⟨⟨r,rfl⟩,rfl⟩:=hv;clear hix;refine xO ?_;refine xO ?_;refine xW ?_;exact⟨⟨_,rfl⟩,rfl⟩
end
section
variable {O:Orc}
attribute [local go_sem] ltF gtF xZ x4 ziJ ziN ziM ziH wZ in
theorem zpn(h64:O 64=none)(h85:O 85=none)(h106:O 106=none)(h82:O 82=none):∀(k:Nat) (d:DT),wI d≤k→wI d≤100000→uu d=true→ztP O d:=by
 intro k
 induction k with
 |zero=>intro d h;have:=vv d;omega
 | succ k ih=>
  intro d hk hn hm L n m b;refine vB (F:=f64) h64 rfl rfl (ziw rfl) ?_;have hd5:=w6 (qQ d);obtain⟨kd,dn,dt,dk,dp⟩:=d;simp only[wD]at hd5⊢;unfold f64;simp only[Ko,Kg,Kn,Ki];refine xQ ?_;refine xR (xT ?_);refine wx (fun x:DT=>wI x) (fun x f t=>∃T L2 m',f=⟨tmL T,[]⟩∧t=KL L2 (n+1) m' true [] none∧(tmL T).get 1=some (.ptr n 0)∧xN L2 n=some (Ya x)∧m'%2^n=0∧wI x≤k+1∧wI x≤100000∧uu x=true) (fun x f t hI=>?_) (.mk kd dn dt dk dp) ⟨_,_,_,rfl,rfl,sW,by simp (disch:=first|exact dis|fail)only[go_sem,seval,-rO,-rN,Ya,wD],by simp,hk,hn,hm⟩
  clear hk hn hm hd5 kd dn dt dk dp;obtain⟨T,L2,m',rfl,rfl,t1,g,hmk,hk,hn,hm⟩:=hI;obtain⟨kd,dn,dt,dk,dp⟩:=x;simp only[Ya,wD]at g;cases hka:qH (.mk kd dn dt dk dp)with
  | some p=>
   obtain⟨⟨xk,xn,xt,xks,xp⟩,⟨yk,yn,yt,yks,yp⟩⟩:=p;have hna:=uH hka;rw[Wl hka,zq]at hm;obtain⟨rfl,rfl⟩:=vV hka;have hpx:=vv (.mk yk yn yt yks yp);have hpx2:=vv (.mk xk xn xt xks xp);have hc:=ih (.mk xk xn xt xks xp) oM oM hm.1;have hc':=fun L n m b=>hc L n m b;simp only[wD]at hc';have hc1:wj 5 (wa [.mk xk xn xt xks xp,.mk yk yn yt yks yp])=some (w4 (.mk xk xn xt xks xp)):=by rw[l6];exact kw _ _
   have hc2:wj 5 (wH 5 (wa [.mk xk xn xt xks xp,.mk yk yn yt yks yp]))=some (w4 (.mk yk yn yt yks yp)):=by
    rw[l6,wY,List.drop_left' (qQ _)];exact kP _
   simp only[wD]at hc1 hc2;simp only[yb,xz]at g;clear ih hc hka;refine xQ ?_;refine xT ?_;refine xR ?_;refine xR ?_;refine qt ?_;refine wc (hc' _ _ _ _) fun v t hv=>?_;obtain⟨⟨r,rfl⟩,rfl⟩:=hv;clear hc';cases r with
   |false=>
    refine xO ?_;refine xO ?_;refine xW ?_;exact⟨⟨_,rfl⟩,rfl⟩
   |true=>
    refine xO ?_;refine xO ?_;refine xO ?_;exact⟨.mk yk yn yt yks yp,⟨_,_,_,rfl,rfl,sV,by simp (disch:=first|exact dis|fail)only[go_sem,seval,-rO,-rN, *,Ya,wD],sV,oM,oM,hm.2⟩,oM⟩
  | none=>
   have h6:kd≠.ofNat 6:=fun e=>by
    subst e;rw[ZZ hka,if_neg (by decide)]at hm
    simp[Y6,JA,Pq]at hm
   have n6:=qx h6;have hks:∀x∈dk,ztP O x:=fun x hx=>by
    have h1:=ku (.mk kd dn dt dk dp);have h2:=jt hx;simp only[jP]at h1;refine ih x oM oM ?_;rw[ZZ hka]at hm;split at hm
    ·exact List.all_eq_true.1 hm x hx
    ·simp only[zq,decide_eq_true_eq]at hm;have:=List.eq_nil_of_length_eq_zero hm.1;rw[this]at hx;cases hx
   have hkl:dk.length<1000000000:=by
    have h1:=ku (.mk kd dn dt dk dp);have h2:=j3 dk;simp only[jP]at h1;omega
   have hcf:=fun L n m b=>zy8 h85 h106 h82 dk hkl hks L n m b;clear ih hks hka hm;refine xO ?_;by_cases h5:kd=.ofNat 5
   ·subst h5;cases e0:eqD dn (.ofNat 0)with
    |true=>
     refine xR (qt ?_);refine wc (hcf _ _ _ _) fun v t hv=>?_;obtain⟨⟨r,rfl⟩,rfl⟩:=hv;clear hcf;refine xO ?_;refine xO ?_;refine xW ?_;exact⟨⟨_,rfl⟩,rfl⟩
    |false=>
     clear hcf;refine xO ?_;refine xW ?_;exact⟨⟨_,rfl⟩,rfl⟩
   ·have n5:=qx h5;refine xR (qt ?_);refine wc (hcf _ _ _ _) fun v t hv=>?_;obtain⟨⟨r,rfl⟩,rfl⟩:=hv;clear hcf;refine xO ?_;refine xO ?_;refine xW ?_;exact⟨⟨_,rfl⟩,rfl⟩
end
theorem zyH{f:Nat}{F:IFunc}(h:O f=none)(hF:env.funs.get f=some F)(hp:env.pure f=true){a:List AV}(ha:a.length≤F.ntmps){R:AV→St→Prop}(hc:Cv ((evW env O).call f a (KL [] 0 0 true [] none)) R):Ev (evC env (evW env O) none F.body ⟨wL (tmL []) 0 a,[]⟩ (KL [] 0 0 true [] none)) fun r fr t=>Cv (pK (KL [] 0 0 true [] none) (wT env.globs F.res (some (r,fr,t)))) R:=by
 obtain⟨v,t,e,q⟩:=hc;rw[vY h hF hp _ _ _ _ _ _ _ ha]at e;cases hx:evC env (evW env O) none F.body ⟨wL (tmL []) 0 a,[]⟩ (KL [] 0 0 true [] none)with
 |none=>rw[hx]at e;cases e
 |some x=>
  obtain⟨r,fr,t2⟩:=x;rw[hx]at e;exact⟨r,fr,t2,rfl,v,t,e,q⟩
def WF(d:DT):Prop:=uu d=true∧wI d≤100000
def GPl(_:DT)(v:AV):Prop:=∃r,v=.bool r
section
variable {P:Program}{w0:World}(B:Bx P w0){O:Orc}(hO:OrcOk P w0 O)
include B hO
theorem zpo(h64:O 64=none)(h85:O 85=none)(h106:O 106=none)(h82:O 82=none):Y0 P w0 64 vr WF GPl:=by
 intro d hd;refine beX B hO f64 ?_;refine(zyH h64 rfl rfl (ziw rfl) (zpn h64 h85 h106 h82 (wI d) d (zu _) hd.2 hd.1 [] 0 0 true)).mono fun r f t hc=>hc.mono fun v s hv=>?_;obtain⟨⟨r,rfl⟩,rfl⟩:=hv;exact⟨_,⟨r,rfl⟩,rfl,w8 _ _⟩
end
noncomputable def plB(P:Program)(w0:World)(d:DT):Bool:=match exV P w0 64 vr GPl d with
 |.bool b=>b
 |_=>false
theorem zxa(h:O 64=some (Qv P w0 64 vr WF GPl))(hx:Y0 P w0 64 vr WF GPl)(hd:WF d)(s:St):(evW env O).call 64 [.agg (w4 d)] s=some (.bool (plB P w0 d),s):=by
 have h1:=oc h l9 d hd (ZP d) s;obtain⟨r,hr⟩:=(Za (hx d hd)).1;unfold plB;rw[h1,hr]
noncomputable def KN(P:Program)(w0:World)(l:List DT):Bool:=l.all fun d=>uu d&&plB P w0 d
structure NOrc(P:Program)(w0:World)(N:Nat)(O:Orc):Prop extends VOrc P w0 O where
 h45:O 45=none
 h62:O 62=none
 h63:O 63=some (Pj N)
 h64:O 64=some (Qv P w0 64 vr WF GPl)
 hpl:Y0 P w0 64 vr WF GPl
 hN:N≤100000
structure CsPre(N:Nat)(l:List DT):Prop where
 tx:TxL l
 nd:∀d∈l,wI d<N
 sum:w9 l<10000000
theorem zoX(h62:O 62=none)(L:List (Nat×Option AObj))(n m:Nat)(b:Bool):(evW env O).call 62 [.nils] (KL L n m b [] none)=some (.nils,KL L n m b [] none):=by
 have key:Cv ((evW env O).call 62 [.nils] (KL L n m b [] none)) fun v t=>v=.nils∧t=KL L n m b [] none:=by
  refine vB (F:=f62) h62 rfl rfl (ziw rfl) ?_;have he:pL .slice false .nils .nils=some (.bool true):=rfl;unfold f62;simp only[Ko];refine xO ?_;refine xW ?_;exact⟨rfl,rfl⟩
 obtain⟨v,t,h,rfl,rfl⟩:=key;exact h
def sto0:Sto:=⟨[],0,[],0,[]⟩
section
variable {P:Program}{w0:World}{O:Orc}{N:Nat}
attribute [local go_sem] ltF gtF xZ x4 ziJ ziN ziM ziH wZ wP wR in
theorem zkK(H:NOrc P w0 N O){l:List DT}(hl:CsPre N l){L:List (Nat×Option AObj)}(hw:WfA L n)(m:Nat):
  Cv ((evW env O).call 45 [.lst l.length false (wa l),.nils] (KL L n m false [] none)) fun v t=>∃x L2 n2 m2,v=.tup [x,.int .i64 (bif KN P w0 l then .ofNat 0 else .ofNat 2)]∧(x=.nilp∨∃p,x=.ptr p 0)∧t=KL L2 n2 m2 false [] none∧n≤n2∧∀j,j<n→xN L2 j=xN L j:=by
 refine qb (F:=f45) H.h45 rfl rfl (ziw rfl) ?_;have hcl:=fun L n m b=>zoX H.h62 L n m b;have hlen:=j3 l;have hsum:=hl.sum;have hNN:=H.hN;obtain⟨R,hR⟩:∃R,KN P w0 l=R:=⟨_,rfl⟩;rw[hR];unfold f45;simp only[Ko,Kg,Kn,Ki];refine xQ ?_;refine xQ ?_;refine xR (xR (xO ?_));refine xT ?_;have hs0:StOk n ((n,some sto0.row)::L) (n+1) sto0:=⟨hw.cons (yc _) (zha _),xS _ _ _,fun h=>absurd rfl h,fun h=>absurd rfl h,(fun y hy=>by cases hy),(fun y hy=>by cases hy)⟩
 refine wx (fun i:Nat=>l.length-i) (fun i f t=>∃T L2 n2 m2,f=⟨tmL T,[]⟩∧t=KL L2 n2 m2 false [] none∧(tmL T).get 0=some (.lst l.length false (wa l))∧(tmL T).get 6=some (.ptr n 0)∧(tmL T).get 13=some (.lst l.length false (wa l))∧(tmL T).get 14=some (.int .i64 (.ofNat l.length))∧(tmL T).get 15=some (.int .i64 (.ofNat i))∧i≤l.length∧StTo n ((n,some sto0.row)::L) (n+1) sto0 L2 n2 sto0∧(l.take i).all (fun d=>uu d&&plB P w0 d)=true) (fun i f t hI=>?_) 0 ⟨_,_,_,_,rfl,rfl,sW,sW,sW,sW,sW,zQ _,hs0.more hs0.wf (zu _) fun _ _=>rfl,rfl⟩;obtain⟨T,L2,n2,m2,rfl,rfl,t0,t6,t13,t14,t15,hi,k1,hal⟩:=hI;rcases wi l i with ⟨hlt,hd⟩|⟨d,hlt,hd⟩
 ·have hni:¬i<l.length:=oM;rw[List.take_of_length_le hlt]at hal;have hRt:R=true:=by rw[←hR];exact hal
  subst hRt;have hdc:∀d∈l,zzE O d:=fun d hdm=>by
   have h1:=List.all_eq_true.1 hal d hdm;rw[zq]at h1;have h2:=hl.nd d hdm;exact JP H.toVOrc _ d (yc _) oM h1.1 (hl.tx.mem hdm)
  clear hR hal hcl;refine xO ?_;refine xR (qt ?_);refine wc (GN H.h65 l hdc k1.ok (by simp only[sto0,xz];omega) (by simp only[sto0,xz];omega) _) fun v t hv=>?_
  obtain⟨id,vs,L3,n3,m3,S3,rfl,hvl,rfl,k3,hc1,hc2,hg⟩:=hv;have hrow:=k3.ok.row;have hsc:=uE 2 id vs.length;have hcc:=wR 2 id vs.length;have k4:=k1.trans k3;have hle:=k4.le;have hfr:∀j,j<n→xN L3 j=xN L j:=fun j hj=>by
   rw[k4.fr j oM oM (fun h=>absurd rfl h) (fun h=>absurd rfl h),xL,if_neg oM]
  simp only[Sto.row]at hrow;have hsc':=hsc;simp only[ua]at hsc';generalize gSl 2 id vs.length=sv at *;generalize gSl 5 S3.oid S3.obs.length=a1 at *;generalize gSl 2 S3.yid S3.ys.length=a2 at *;clear hg hvl k3 k4 hdc k1 hs0;have hfr2:=fun j (hj:j<n)=>(hfr j hj).symm;clear hfr;refine xO ?_;refine xO ?_;refine xW ?_;exact⟨.ptr n 0,_,n3,_,rfl,.inr ⟨n,rfl⟩,rfl,oM,fun j hj=>by rw[xL,if_neg oM];exact(hfr2 j hj).symm⟩
 ·have hdm:d∈l:=ziT (by rw[hd];exact zi0)
  have hnd:=hl.nd d hdm;have htd:=hl.tx.mem hdm;have hma:=fun s=>Uj (f:=63) H.h63 htd hnd s;have hcx:=Xf hd;rw[←qE]at hcx;have htk:l.take (i+1)=l.take i++[d]:=by
   rw[List.take_add_one,←List.head?_drop,hd];rfl
  have hRf:(uu d&&plB P w0 d)=false→R=false:=fun h=>by
   rw[←hR];exact List.all_eq_false.2 ⟨d,hdm,by rw[h];simp⟩
  have k2:=k1.ok.new (some (.row 36 [.int .i64 (.ofNat 0),.int .i64 (.ofNat 0),.str [],.nils,.int .i64 (.ofNat 0)] false false));have hle:=k1.le;have hfr:∀j,j<n→xN L2 j=xN L j:=fun j hj=>by
   rw[k1.fr j oM oM (fun h=>absurd rfl h) (fun h=>absurd rfl h),xL,if_neg oM]
  have hfr2:=fun j (hj:j<n)=>(hfr j hj).symm;have k3:=fun o=>(k1.trans k2).put2 (j:=n2) oM (yc _) (k1.ok.fresh (zu _)) o;clear hfr hd;cases hmd:uu d with
  |false=>
   rw[hmd]at hma hRf;have:=hRf rfl;subst this;obtain⟨dk,dn,dt,ds,dp⟩:=d;simp only[wD]at hma hcx;clear hcl hRf k1 k2 k3 hs0 htk hmd;refine xO ?_;refine xW ?_;exact⟨.nilp,_,n2+1,_,rfl,.inl rfl,rfl,oM,fun j hj=>by rw[xL,if_neg oM,xL,if_neg oM];exact(hfr2 j hj).symm⟩
  | true=>
   have hpc:=fun s=>zxa H.h64 H.hpl (d:=d) ⟨hmd,oM⟩ s;rw[hmd]at hma hRf;cases hpd:plB P w0 d with
   |false=>
    rw[hpd]at hpc hRf;have:=hRf rfl;subst this;obtain⟨dk,dn,dt,ds,dp⟩:=d;simp only[wD]at hma hcx hpc;clear hcl hRf k1 k2 k3 hs0 htk hmd hpd;refine xO ?_;refine xW ?_;exact⟨.nilp,_,n2+1,_,rfl,.inl rfl,rfl,oM,fun j hj=>by rw[xL,if_neg oM,xL,if_neg oM];exact(hfr2 j hj).symm⟩
   | true=>
    rw[hpd]at hpc;have hal2:(l.take (i+1)).all (fun d=>uu d&&plB P w0 d)=true:=by
     rw[htk,List.all_append,hal];simp[hmd,hpd]
    obtain⟨dk,dn,dt,ds,dp⟩:=d;simp only[wD]at hma hcx hpc;clear hcl hRf hs0 htk hmd hpd hal hR hfr2;refine xO ?_;exact⟨i+1,⟨_,_,n2+1,_,rfl,rfl,sV,sV,sV,sV,sV,oM,k3 _,hal2⟩,oM⟩
end
end Go.Proofs.YtbddpjboppmnfaaGreatDoor.Ev

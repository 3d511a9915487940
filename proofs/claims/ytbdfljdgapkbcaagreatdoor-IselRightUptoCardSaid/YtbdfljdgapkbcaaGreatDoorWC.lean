/- Contracts of functions that IselRight calls: what a call answers, for all data, by symbolic evaluation. No conditions of its own. -/
import Derived.Test.YtbdfljdgapkbcaaGreatDoorWB
import Derived.Test.YtbdfljdgapkbcaaGreatDoorEvG
set_option linter.unusedSimpArgs false
set_option linter.unusedVariables false
set_option linter.defProp false
set_option maxHeartbeats 4000000
set_option linter.unusedSectionVars false
open Nat renaming le_of_ble_eq_true → ziF, le_refl → zo, zero_mod → ziS, or_zero → ziV, zero_or → ziW, lt_succ_self → zV, zero_le → zK, le_succ → zhi, lt_of_lt_of_le → zk, mul → zb, zero_add → yC, mul_one → xi
open List renaming length_cons → zU, length_nil → xd, length_append → yl, mem_cons_self → zi9, mem_of_mem_drop → zi2, drop_eq_getElem_cons → ziX, append_nil → ziJ, nil_append → ziZ, getElem?_append_left → ym, dropWhile_sublist → zhj, getElem?_append_right → yA, cons_append → zG, mem_cons → ziU, dropWhile_cons → zhk
open Bool renaming cond_self → ziQ, and_eq_true → zl, and_self → xe
namespace Go.Proofs.YtbdfljdgapkbcaaGreatDoor.Ev
variable {P:Program}{w0:World}{O:Orc}{s s':St}{v:AV}{tm:Trie AV}{d:DT}{id n esz bytes:Nat}
open Nat (reduceEqDiff reduceLeDiff reduceLT reduceAdd reduceMul reduceSub reduceMod reducePow reduceDiv reduceOr reduceShiftLeft reduceGT reduceSucc)
open List (length_cons length_nil length_take length_drop)
open Int (reduceOfNat reduceNegSucc)
open T
set_option maxRecDepth 100000
def kA(c:Nat):Bool:=c==43||c==45
def sgC:List AV:=(List.range 256).map fun c=>.bool (kA c)
theorem QS:sgC.length=256:=by simp[sgC]
theorem PN:xN sgC=true:=by decide+kernel
theorem PM:wY sgC=256:=by rw[wE,QS]
theorem PO:xZ sgC=true:=by decide+kernel
theorem zj0:okV (.tup [.agg sgC,.bool true]) ((evT env noO 1000).call 199 [.str [43,45]] s0)=true:=by decide+kernel
noncomputable def zvX:List AV→St→Option (AV×St):=vr (fun _:Unit=>[.str [43,45]]) (fun _=>True) (fun _=>.tup [.agg sgC,.bool true])
theorem zub(B:Bx P w0)(hO:OrcOk P w0 O):qv P w0 199 zvX:=
 Wa false (fun _=>rfl) (fun _=>by simp only[uz,xY,ve,PN,uq,x6,xe]) fun _ _=>zlx (hH P w0) B.mixed B.glob B.env zj0
theorem zqe(h:O 199=some zvX)(st:St):(evW env O).call 199 [.str [43,45]] st=some (.tup [.agg sgC,.bool true],st):=by
 rw[wx h,zvX,qH (fun _ _ _=>rfl) st () trivial rfl]
theorem zjF{c:Nat}(hc:c<256):xV 1 (wl c sgC)=some [.bool (kA c)]:=by
 rw[wK,ziX (by rw[QS];exact hc)]
 show some [sgC[c]'(by rw[QS];exact hc)]=_
 simp only[sgC,List.getElem_map,List.getElem_range]
theorem UE:∀{l vs:List AV},l.length=vs.length→Xt l vs=some vs
 |[],[],_=>rfl
 |[],_::_,h=>by cases h
 |_::_,[],h=>by cases h
 |x::l,y::vs,h=>by
  have:=UE (l:=l) (vs:=vs) (by simpa using h)
  simp only[Xt,this]
def trL(p:Nat→Bool)(s:List Nat):List Nat:=s.dropWhile p
theorem UY(p:Nat→Bool)(x:Nat)(r:List Nat):trL p (x::r)=if p x=true then trL p r else x::r:=by
 simp only[trL,zhk]
theorem zwA(p:Nat→Bool)(s:List Nat):(trL p s).length≤s.length:=(zhj p).length_le
section
variable {O:Orc}
attribute [local go_sem] zyt PQ in
theorem zk7(h162:O 200=none)(h174:O 212=none){s:List Nat}(hb:Byt s)(hl:s.length<2000000){L:List (Nat×Option AObj)}{p:Nat}(g:xD L p=some (.row 241 sgC false false))(n m:Nat)(b:Bool):
  (evW env O).call 200 [.str s,.ptr p 0] (KL L n m b [] none)=some (.str (trL kA s),KL L n m b [] none):=by
 have key:Cv ((evW env O).call 200 [.str s,.ptr p 0] (KL L n m b [] none)) fun r t=>r=.str (trL kA s)∧t=KL L n m b [] none:=by
  refine wI (F:=f200) h162 rfl rfl (ziF rfl) ?_;have cc:∀(x n m:Nat) (b:Bool),x<256→(evW env O).call 212 [.ptr p 0,.int .u8 (.ofNat x)] (KL L n m b [] none)=some (.bool (kA x),KL L n m b [] none):=fun x n m b hx=>by
   have key:Cv ((evW env O).call 212 [.ptr p 0,.int .u8 (.ofNat x)] (KL L n m b [] none)) fun r t=>r=.bool (kA x)∧t=KL L n m b [] none:=by
    refine wI (F:=f212) h174 rfl rfl (ziF rfl) ?_;have hld:=zjF hx;unfold f212 cF;simp only;generalize sgC=cs at *;refine xu ?_;refine xF ?_;exact⟨rfl,rfl⟩
   obtain⟨r,t,h,rfl,rfl⟩:=key;exact h
  obtain⟨R,hR⟩:∃R,trL kA s=R:=⟨_,rfl⟩;rw[hR];unfold f200 cF;simp only;refine xB ?_;refine xz ?_;refine xE ?_;refine xU (fun t:List Nat=>t.length) (fun t f t'=>∃T,f=⟨tmL T,[]⟩∧t'=KL L n 0 true [] none∧(tmL T).get 0=some (.str t)∧(tmL T).get 1=some (.ptr p 0)∧trL kA t=R∧Byt t∧t.length<2000000) (fun t f t' hI=>?_) s ⟨_,rfl,rfl,sW,sW,hR,hb,hl⟩;clear hR hb hl s;obtain⟨T,rfl,rfl,t0,t1,hR,hb,hl⟩:=hI;cases t with
  |nil=>
   have hR:[]=R:=hR;subst hR;refine xu ?_;refine xu ?_;refine xF ?_;exact⟨rfl,rfl⟩
  | cons x r=>
   have hx:=hb.cons.1;have hbr:=hb.cons.2;have hc:=fun n m b=>cc x n m b hx;simp only[zU]at hl;rw[UY]at hR;clear cc hb;cases hd:kA x with
   |true=>
    rw[if_pos hd]at hR;rw[hd]at hc;refine xu ?_;refine⟨r,⟨_,rfl,trivial,sV,sV,hR,hbr,oM⟩,by simp⟩
   |false=>
    rw[if_neg (by rw[hd];simp)]at hR
    subst hR;rw[hd]at hc;refine xu ?_;refine xu ?_;refine xF ?_;exact⟨rfl,rfl⟩
 obtain⟨r,t,h,rfl,rfl⟩:=key;exact h
end
def JY(s:List Nat):List AV:=[.str s,.str [43,45]]
theorem zvn:∀x y,JY x=JY y→x=y:=fun x y h=>by
 simp only[JY,List.cons.injEq,AV.str.injEq,and_true]at h;exact h
noncomputable def gTl:List AV→St→Option (AV×St):=vr JY Qn (fun s=>.str (trL kA s))
theorem zmP(h:O 176=some gTl){s:List Nat}(h1:Qn s)(st:St):(evW env O).call 176 [.str s,.str [43,45]] st=some (.str (trL kA s),st):=by
 rw[wx h,gTl,qH zvn st s h1 rfl]
section
variable {P:Program}{w0:World}(B:Bx P w0){O:Orc}(hO:OrcOk P w0 O)
include B hO
attribute [local go_sem] PM PO in
theorem zj6(h161:O 199=some zvX)(h162:O 200=none)(h174:O 212=none)(s:List Nat)(hs:Qn s):∃s1,SC P w0 176 (JY s) (s00 0 true) (.str (trL kA s)) s1:=by
 refine be B hO f176 ?_;have hmk:=fun st=>zqe (O:=O) h161 st;have hL:=fun L p g n m b=> @zk7 O h162 h174 s hs.1 hs.2 L p g n m b;have hov:∀l:List AV,l.length=256→Xt l sgC=some sgC:=fun l h=>UE (by rw[h,QS])
 unfold f176 cF;simp only[JY];cases s with
 |nil=>
  refine xB ?_;refine xu ?_;refine xF ?_;exact zrx _ _
 |cons c r=>
  have hpu:=PN;have hlc:=PM;have hsc:=PO;generalize sgC=cs at *;generalize trL kA (c::r)=R at *;refine xB ?_;refine xB ?_;refine xB ?_;refine xu ?_;refine xF ?_;exact zrx _ _
end
def qd(n:Nat):List AV:=[.int .u16 (.ofNat n)]
theorem Zz(n:Nat):(qd n).length=1:=rfl
theorem vG(n:Nat):xN (qd n)=true:=rfl
theorem Vx(n:Nat):xZ (qd n)=true:=rfl
theorem zsc(n:Nat):wkL (qd n)=qd n:=by simp only[qd,wkL,wkV]
theorem zxw(l:List Nat):(xA qd l).length=l.length:=by rw[ql Zz];exact xi _
theorem Xd:∀{l r:List Nat},xA qd l=xA qd r→l=r
 |[],[],_=>rfl
 |[],_::_,h=>by cases h
 |_::_,[],h=>by cases h
 |x::l,y::r,h=>by
  simp only[xA,qd,zG,ziZ,List.cons.injEq,AV.int.injEq,true_and]at h;rw[Xd h.2,Int.ofNat.inj h.1]
def qP(l:List Nat):AV:=.lst l.length false (xA qd l)
def Je(l:List Nat):List AV:=[qP l]
theorem zsB:∀x y,Je x=Je y→x=y:=fun x y h=>by
 simp only[Je,qP,List.cons.injEq,AV.lst.injEq,true_and,and_true]at h;exact Xd h.2
theorem zvp(x:List Nat):xN (Je x)=true:=by simp only[Je,qP,xY,wN,x6,xe]
theorem p7(l:List Nat):wkL (xA qd l)=xA qd l:=by
 induction l with
 |nil=>rfl
 |cons x r ih=>simp only[xA,qd,zG,ziZ,wkL,wkV];rw[show xA qd r=xA qd r from rfl,ih]
def trR(p:Nat→Bool)(s:List Nat):List Nat:=(s.reverse.dropWhile p).reverse
theorem zmQ(p:Nat→Bool)(u:List Nat)(x:Nat):trR p (u++[x])=if p x=true then trR p u else u++[x]:=by
 simp only[trR,List.reverse_append,List.reverse_cons,List.reverse_nil,ziZ,List.singleton_append,zhk];split
 ·rfl
 ·simp
theorem zmR(p:Nat→Bool)(s:List Nat):(trR p s).length≤s.length:=by
 simp only[trR,List.length_reverse];have:=(zhj p (l:=s.reverse)).length_le
 simpa using this
theorem zmS{p:Nat→Bool}{s:List Nat}{x:Nat}(h:x∈trR p s):x∈s:=by
 simp only[trR,List.mem_reverse]at h;exact List.mem_reverse.1 ((zhj p).mem h)
theorem zsb(t:List Nat):t=[]∨∃u x,t=u++[x]:=by
 rcases List.eq_nil_or_concat t with h|⟨u,x,h⟩
 ·exact .inl h
 ·exact .inr ⟨u,x,by rw[h,List.concat_eq_append]⟩
def vq(l:List Nat):List Nat:=trR (fun x=>x==0) l
theorem zmE(u:List Nat)(x:Nat):ki 1 (.lst (u.length+1) false (xA qd (u++[x]))) none (some (.int .i64 (.ofNat u.length))) none=some (.lst u.length false (xA qd u)):=by
 simp only[ki,Hm,bnd,show Nat.ble u.length (u.length+1)=true from xR.2 oM,cond_true,Bool.false_and];rw[show tkN (zb (Nat.sub u.length 0) 1) (wl (zb 0 1) (xA qd (u++[x])))=xA qd u from ?_]
 ·rfl
 ·rw[show zb (Nat.sub u.length 0) 1=u.length from xi _,show zb 0 1=0 from rfl];show tkN _ (wl 0 _)=_;rw[wK,YJ,List.drop_zero,wj];rw[List.take_left' (zxw u)]
theorem zsn(u:List Nat)(x:Nat):xV 1 (wl u.length (xA qd (u++[x])))=some [.int .u16 (.ofNat x)]:=by
 rw[wK,wj,List.drop_left' (zxw u)];rfl
theorem zlg{l:List Nat}{i:Nat}{o:Nat}{r:List Nat}(hd:l.drop i=o::r):xV 1 (wl i (xA qd l))=some [.int .u16 (.ofNat o)]:=by
 have:=YY Zz hd;rwa [xi]at this
noncomputable def X2:List AV→St→Option (AV×St):=vr Je (fun l=>l.length<1000000000) (fun l=>qP (vq l))
theorem YK(h:O 177=some X2){l:List Nat}(hl:l.length<1000000000)(hv:wkV v=qP l)(s:St):(evW env O).call 177 [v] s=some (qP (vq l),s):=by
 rw[wx h,X2,qH zsB s l hl (by simp only[Je,wkL,hv])]
attribute [local go_sem] Je qP in
theorem zpY(B:Bx P w0)(hO:OrcOk P w0 O)(l:List Nat)(hl:l.length<1000000000):∃s1,SC P w0 177 (Je l) (s00 0 true) (qP (vq l)) s1:=by
 refine be B hO f177 ?_;unfold f177 cF;obtain⟨R,hR⟩:∃R,vq l=R:=⟨_,rfl⟩;rw[hR];simp only[Je,qP];refine xB ?_;refine xz ?_;refine xE ?_;refine xU (fun t:List Nat=>t.length) (fun t f t'=>∃T,f=⟨tmL T,[]⟩∧t'=KL [] 0 0 true [] none∧(tmL T).get 0=some (.lst t.length false (xA qd t))∧vq t=R∧t.length<1000000000) (fun t f t' hI=>?_) l ⟨_,rfl,rfl,sW,hR,hl⟩;clear hR hl l;obtain⟨T,rfl,rfl,t0,hR,hl⟩:=hI;rcases zsb t with rfl|⟨u,x,rfl⟩
 ·have hR:[]=R:=hR;subst hR;simp only[xd,xA]at t0;refine xu ?_;refine xu ?_;refine xF ?_;exact Yp rfl rfl
 ·have hx:=zsn u x;have hs:=zmE u x;simp only[yl,zU,xd,yC]at hl t0 hs;unfold vq at hR;rw[zmQ]at hR;by_cases h0:x=0
  ·subst h0;simp only[beq_self_eq_true,if_true]at hR;generalize xA qd (u++[0])=cs at *;refine xu ?_;refine⟨u,⟨_,rfl,trivial,sV,hR,oM⟩,by simp⟩
  ·rw[if_neg (by simpa using h0)]at hR
   subst hR;have hp:xN (xA qd (u++[x]))=true:=wz vG _;have hw:=p7 (u++[x]);have hlen:(u++[x]).length=u.length+1:=by simp
   rw[hlen];generalize xA qd (u++[x])=cs at *;clear hlen;refine xu ?_;refine xu ?_;refine xF ?_;exact Yp hp hw
open Int renaming reduceOfNat → rO, reduceNegSucc → rN
def scF:List Nat→Nat→List Nat
 |[],c=>[c%65536]
 |x::r,c=>((c+x*10)%65536)::scF r ((c+x*10)/65536)
def Lim(l:List Nat):Prop:=∀x∈l,x<65536
theorem Ha:∀(l:List Nat) (c:Nat),(scF l c).length=l.length+1
 |[],_=>rfl
 |_::r,_=>by simp only[scF,zU,Ha r]
theorem zwp:∀(l:List Nat) (c:Nat),Lim (scF l c)
 |[],c=>fun x hx=>by simp only[scF,ziU,List.not_mem_nil,or_false]at hx;omega
 |y::r,c=>fun x hx=>by
  simp only[scF,ziU]at hx;rcases hx with rfl|hx
  ·omega
  ·exact zwp r _ x hx
def gX(x:List Nat×Nat):List AV:=[qP x.1,.int .u32 (.ofNat 10),.int .u32 (.ofNat x.2)]
theorem zz7:∀x y,gX x=gX y→x=y:=fun⟨a,b⟩ ⟨c,d⟩ h=>by
 simp only[gX,qP,List.cons.injEq,AV.lst.injEq,AV.int.injEq,true_and,and_true]at h;rw[Xd h.1.2,Int.ofNat.inj h.2]
theorem Li(x:List Nat×Nat):xN (gX x)=true:=by simp only[gX,qP,xY,wN,qu,x6,xe]
def zzd(x:List Nat×Nat):Prop:=Lim x.1∧x.1.length<100000000∧x.2<65536
theorem zm9(a:Nat):qJ .u16 (.ofNat a)=.ofNat (a%65536):=by
 rw[j8];unfold IntKind.wrap;simp only[IntKind.signed,Bool.false_and,Bool.false_eq_true,if_false];rfl
theorem zj3(a:Nat):qw .shr .u32 (.ofNat a) .u64 (.ofNat 16)=some (.int .u32 (.ofNat (a/65536))):=by
 show some (AV.int .u32 (Int.fdiv (.ofNat a) (.ofNat 65536)))=_;cases a<;>rfl
noncomputable def zrB:List AV→St→Option (AV×St):=vr gX zzd (fun x=>qP (scF x.1 x.2))
theorem zpr(h:O 178=some zrB){l:List Nat}{c:Nat}(hp:zzd (l,c))(hv:wkV v=qP l)(s:St):(evW env O).call 178 [v,.int .u32 (.ofNat 10),.int .u32 (.ofNat c)] s=some (qP (scF l c),s):=by
 rw[wx h,zrB,qH zz7 s (l,c) hp (by simp only[gX,wkL,hv,wkV])]
attribute [local go_sem] gX qP zm9 zj3 in
theorem zkX(B:Bx P w0)(hO:OrcOk P w0 O)(x:List Nat×Nat)(hx:zzd x):∃s1,SC P w0 178 (gX x) (s00 0 true) (qP (scF x.1 x.2)) s1:=by
 refine be B hO f178 ?_;obtain⟨l,c⟩:=x;obtain⟨hlim,hl,hc⟩:=hx;simp only at hlim hl hc⊢;obtain⟨R,hR⟩:∃R,scF l c=R:=⟨_,rfl⟩;rw[hR];unfold f178 cF;simp only[gX,qP];refine xB ?_;refine xB ?_;refine xz (xz (xu ?_));refine xE ?_;refine xU (fun i:Nat×Nat×List Nat=>l.length-i.1) (fun i f t=>∃T L n m id,f=⟨tmL T,[]⟩∧t=KL L n m true [] none∧(tmL T).get 1=some (.int .u32 (.ofNat 10))∧(tmL T).get 2=some (.int .u32 (.ofNat i.2.1))∧(tmL T).get 7=some (ZW qd 1 id i.2.2)∧(tmL T).get 10=some (.lst l.length false (xA qd l))∧(tmL T).get 11=some (.int .i64 (.ofNat l.length))∧(tmL T).get 12=some (.int .i64 (.ofNat i.1))∧i.1≤l.length∧i.2.1<65536∧i.2.2.length=i.1∧Js 246 qd L n id i.2.2∧i.2.2++scF (l.drop i.1) i.2.1=R) (fun i f t hI=>?_) (0,c,[]) ⟨_,_,_,_,0,rfl,rfl,sW,sW,by simp (disch:=first|exact dis|fail)only[go_sem,seval,-rO,-rN,ZW],sW,sW,sW,zK _,hc,rfl,fun h=>absurd rfl h,hR⟩
 clear hR hc c;obtain⟨T,L,n,m,id,rfl,rfl,t1,t2,t7,t10,t11,t12,hi,hc,hol,hok,hR⟩:=hI;obtain⟨i,c,out⟩:=i;simp only at t2 t7 t12 hi hc hol hok hR⊢;rcases xQ l i with ⟨hlt,hd⟩|⟨x,hlt,hd⟩
 ·rw[hd]at hR;simp only[scF]at hR;have hni:¬i<l.length:=oM;refine xu ?_;refine xz ?_;refine xK ?_;refine xC (QE Zz vG Vx oM hok (ws:=[c%65536]) (by simp only[zU,xd];omega) (by simp only[zU,xd];omega)) fun v t hv=>?_
  obtain⟨id2,L2,n2,m2,rfl,rfl,_⟩:=hv;rw[hR];obtain⟨v0,hf,hz⟩:=zxB (esz:=1) (id:=id2) (s:=KL [] 0 0 true [] none) vG zsc R;refine xu ?_;refine xu ?_;refine xF ?_;exact hz
 ·have hx:=hlim x (zi2 (by rw[hd];exact zi9))
  have hcx:=zlg hd;rw[hd]at hR;simp only[scF]at hR;refine xB ?_;refine xz (x4 sW ?_);refine xu ?_;refine xz (xE ?_);refine xB ?_;refine xB ?_;refine xz ?_;refine xK ?_;refine xC (QE Zz vG Vx oM hok (ws:=[(c+x*10)%65536]) (by simp only[zU,xd];omega) (by simp only[zU,xd];omega)) fun v t hv=>?_
  obtain⟨id2,L2,n2,m2,rfl,rfl,q1,_⟩:=hv;refine xu ?_;refine xu ?_;refine xu ?_;exact⟨(i+1,(c+x*10)/65536,out++[(c+x*10)%65536]),⟨_,_,_,_,id2,rfl,rfl,sV,sV,sV,sV,sV,sV,by simp only;omega,by simp only;omega,by simp only[yl,zU,xd];omega,q1,by rw[List.append_assoc];exact hR⟩,by simp only;omega⟩
def Z5(x:Bool×List Nat):List AV:=[.bool x.1,qP x.2]
theorem zvo:∀x y,Z5 x=Z5 y→x=y:=fun⟨a,b⟩ ⟨c,d⟩ h=>by
 simp only[Z5,qP,List.cons.injEq,AV.lst.injEq,AV.bool.injEq,true_and,and_true]at h;rw[Xd h.2.2,h.1]
theorem zz8(x:Bool×List Nat):xN (Z5 x)=true:=by simp only[Z5,qP,xY,wN,uq,x6,xe]
def Qm(b:Bool)(l:List Nat):Bool:=b&&decide (0<(vq l).length)
def vw(b:Bool)(l:List Nat):AV:=.agg [.bool b,qP l]
noncomputable def zxE:List AV→St→Option (AV×St):=vr Z5 (fun x=>x.2.length<1000000000) (fun x=>vw (Qm x.1 x.2) (vq x.2))
theorem Wy(l:List Nat):(vq l).length≤l.length:=zmR _ l
theorem ztc{l:List Nat}(h:Lim l):Lim (vq l):=fun x hx=>h x (zmS hx)
theorem zu2(h:O 179=some zxE){b:Bool}{l:List Nat}(hl:l.length<1000000000)(hv:wkV v=qP l)(s:St):(evW env O).call 179 [.bool b,v] s=some (vw (Qm b l) (vq l),s):=by
 rw[wx h,zxE,qH zvo s (b,l) hl (by simp only[Z5,wkL,hv,wkV])]
theorem zyp{b:Bool}{l:List Nat}:Fz s (.agg [.bool b,.lst l.length false (xA qd l)]) (vw b l):=
 zyo (wB (w7 _ _) (wB (Yp (wz vG _) (p7 _)) ji))
attribute [local go_sem] Z5 qP ltF gtF in
theorem zmO(B:Bx P w0)(hO:OrcOk P w0 O)(h139:O 177=some X2)(x:Bool×List Nat)(hl:x.2.length<1000000000):∃s1,SC P w0 179 (Z5 x) (s00 0 true) (vw (Qm x.1 x.2) (vq x.2)) s1:=by
 refine be B hO f179 ?_;obtain⟨b,l⟩:=x;have ht:=fun s=>YK h139 hl (v:=qP l) (by simp only[qP,wkV,p7]) s
 simp only at hl ht;unfold f179 cF;simp only[Z5,qP,Qm]at ht⊢;have hp:xN (xA qd (vq l))=true:=wz vG _;generalize vq l=r at *;cases b with
 |false=>
  refine xu ?_;refine xF ?_;exact zyp
 |true=>
  rw[Bool.true_and];by_cases h0:0<r.length
  ·rw[decide_eq_true h0];refine xu ?_;refine xF ?_;exact zyp
  ·rw[decide_eq_false h0];refine xu ?_;refine xF ?_;exact zyp
def Wo:List Nat→List Nat→List Nat
 |[],l=>l
 |c::r,l=>Wo r (vq (scF l (c-48)))
theorem Pt:∀(s l:List Nat),(Wo s l).length≤l.length+s.length
 |[],_=>by simp[Wo]
 |c::r,l=>by
  have h1:=Pt r (vq (scF l (c-48)));have h2:=Wy (scF l (c-48));have h3:=Ha l (c-48);simp only[Wo,zU];omega
def ngF:List Nat→Bool
 |[]=>false
 |c::_=>decide (c=45)
def zyG(s:List Nat):AV:=.tup [vw (Qm (ngF s) (Wo (trL kA s) [])) (vq (Wo (trL kA s) [])),.int .i64 (.ofNat 0)]
noncomputable def zrA:List AV→St→Option (AV×St):=vr lZ (fun s=>Qn s∧YB s=true) zyG
theorem zkB{s:List Nat}(h:YB s=true):∃x r,trL kA s=x::r∧(x::r).all gK=true∧s.length≤r.length+2∧r.length+1≤s.length:=by
 have key:∀(c:Nat) (r:List Nat),(c::r).all gK=true→trL kA (c::r)=c::r:=fun c r h=>by
  rw[UY,if_neg];intro h2;simp only[List.all_cons,gK,zl,decide_eq_true_eq]at h;simp only[kA,Bool.or_eq_true,beq_iff_eq]at h2;omega
 cases s with
 |nil=>cases h
 | cons c r=>
  simp only[YB,Ux]at h;by_cases hc:c=45
  ·rw[if_pos hc]at h;cases r with
   |nil=>cases h
   |cons x r=>
    simp only[zl]at h;refine⟨x,r,?_,h.2,by simp,by simp⟩
    rw[UY,if_pos (by rw[hc];rfl)]
    exact key x r h.2
  ·rw[if_neg hc]at h;simp only[zl]at h;exact⟨c,r,key c r h.2,h.2,by simp,by simp⟩
section
variable {P:Program}{w0:World}(B:Bx P w0){O:Orc}(hO:OrcOk P w0 O)
include B hO
attribute [local go_sem] lZ qP vw ltF gtF zyt in
theorem zkM(h138:O 176=some gTl)(h139:O 177=some X2)(h140:O 178=some zrB)(h141:O 179=some zxE)(s:List Nat)(hs:Qn s)(hn:YB s=true):∃s1,SC P w0 148 (lZ s) (s00 0 true) (zyG s) s1:=by
 refine be B hO f148 ?_;have htl:=fun st=>zmP h138 hs st;obtain⟨x,r,ht,hdig,hl1,hl2⟩:=zkB hn;obtain⟨hby,hlen⟩:=hs;obtain⟨R,hR⟩:∃R,zyG s=R:=⟨_,rfl⟩;rw[hR];unfold zyG at hR;rw[ht]at htl hR;have hlb:(trL kA s).length≤s.length:=zwA _ _;rw[ht]at hlb;have hltlen:(x::r).length<2000000:=oM;have hd1:∀y∈x::r,48≤y∧y≤57:=fun y hy=>by
  have:=List.all_eq_true.1 hdig y hy
  simpa [gK]using this
 unfold f148 cF;simp only[lZ];obtain⟨c,q,rfl⟩:∃c q,s=c::q:=by
  cases s with
  |nil=>cases hn
  |cons c q=>exact⟨c,q,rfl⟩
 simp only[zU]at hl1 hl2;have hsub:¬(q.length+1-(r.length+1))>1:=oM;refine xB ?_;refine xB ?_;refine xB ?_;refine xB ?_;refine xz (xz (xu ?_));refine xE ?_;have hlr:r.length+1=(x::r).length:=rfl;have hbr:AV.int .u8 (.ofNat x)::x9 r=x9 (x::r):=rfl;rw[hlr,hbr];clear hlr hbr htl ht hl1 hl2 hlb hdig hsub hn hby;generalize x::r=D at *;refine xU (fun y:Nat×List Nat=>D.length-y.1) (fun y f t=>∃T v,f=⟨tmL T,[]⟩∧t=KL [(0,some (AObj.row 173 [AV.bool false,AV.nils] false false))] 1 0 true [] none∧(tmL T).get 0=some (.str (c::q))∧(tmL T).get 2=some (.ptr 0 0)∧(tmL T).get 5=some v∧(tmL T).get 22=some (.lst D.length false (x9 D))∧(tmL T).get 23=some (.int .i64 (.ofNat D.length))∧(tmL T).get 24=some (.int .i64 (.ofNat y.1))∧wkV v=qP y.2∧y.1≤D.length∧Wo (D.drop y.1) y.2=Wo D []∧Lim y.2∧y.2.length≤y.1) (fun y f t hI=>?_) (0,[]) ⟨_,.nils,rfl,rfl,sW,sW,sW,sW,sW,sW,rfl,zK _,rfl,(fun y hy=>(by cases hy)),zo _⟩
 obtain⟨T,v,rfl,rfl,t0,t2,t5,t22,t23,t24,hv,hi,hp,hlim,hll⟩:=hI;obtain⟨i,l⟩:=y;simp only at t24 hv hi hp hlim hll⊢;rcases xQ D i with ⟨hlt,hd⟩|⟨y,hlt,hd⟩
 ·have hni:¬i<D.length:=oM;rw[hd]at hp;simp only[Wo]at hp;rw[←hp]at hR;have htd:=fun b s=>zu2 h141 (b:=b) (l:=l) oM hv s;subst hR;simp only[ngF,vw,qP]at htd⊢;have hp1:xN (xA qd (vq l))=true:=wz vG _;have hw1:wkL (xA qd (vq l))=xA qd (vq l):=p7 _;have hfin:∀(s:St) (b:Bool) (k:Nat) (cs:List AV),xN cs=true→wkL cs=cs→Fz s (.tup [.agg [.bool b,.lst k false cs],.int .i64 (.ofNat 0)]) (.tup [.agg [.bool b,.lst k false cs],.int .i64 (.ofNat 0)]):=fun s b k cs h1 h2=>by
   simp only[Fz];exact⟨_,rfl,wB (zyo (wB (w7 _ _) (wB (Yp h1 h2) ji))) (wB (wU _ _ _) ji)⟩
  clear hv hp hlim hd hlt;by_cases hc:c=45
  ·subst hc;simp only[decide_true];replace htd:=fun s=>htd true s;generalize Qm true l=tb at *;generalize xA qd (vq l)=cs at *;refine xu ?_;refine xu ?_;refine xF ?_;exact hfin _ _ _ _ hp1 hw1
  ·have hdc:decide (c=45)=false:=decide_eq_false hc;rw[hdc];replace htd:=fun s=>htd false s;generalize Qm false l=tb at *;generalize xA qd (vq l)=cs at *;refine xu ?_;refine xu ?_;refine xF ?_;exact hfin _ _ _ _ hp1 hw1
 ·have hb:xV 1 (x9 (D.drop i))=some [.int .u8 (.ofNat y)]:=by rw[hd];rfl
  have hy:=hd1 y (zi2 (by rw[hd];exact zi9))
  obtain⟨hy1,hy2⟩:=hy;rw[hd]at hp;simp only[Wo]at hp;have hsl:=Ha l (y-48);have hsm:=zwp l (y-48);have hsc:=fun s=>zpr h140 (l:=l) (c:=y-48) ⟨hlim,by simp only;omega,by simp only;omega⟩ hv s
  have htr:=fun s=>YK h139 (l:=scF l (y-48)) oM (v:=qP (scF l (y-48))) (by simp only[qP,wkV,p7]) s
  have htl:=Wy (scF l (y-48));have htm:=ztc hsm;simp only[qP]at hsc htr;rw[hsl]at htr;have hny:¬y<48:=oM;have hny2:¬57<y:=oM;clear hv hlim hd hsm;refine xu ?_;refine⟨(i+1,vq (scF l (y-48))),⟨_,.lst (vq (scF l (y-48))).length false (xA qd (vq (scF l (y-48)))),rfl,trivial,sV,sV,sV,sV,sV,sV,by simp only[qP,wkV,p7],by simp only;omega,hp,htm,by simp only;omega⟩,by simp only;omega⟩
end
def UR:List Nat×ICode×ICode:=match f202.body with
 |.seq _ (.seq _ (.seq _ (.seq _ (.seq (.seq _ (.block _ (.rf _ ps a b))) _))))=>(ps,a,b)
 |_=>([],.skip,.skip)
theorem zjU(a b:Int):∃w,qw .or .u64 a .u64 b=some (.int .u64 w):=⟨_,rfl⟩
theorem zk0(a:Int):∃w,qw .shl .u64 a .u64 (.ofNat 16)=some (.int .u64 w):=⟨_,rfl⟩
section
variable {O:Orc}
theorem ztZ(h:O 215=none){l:List Nat}{L:List (Nat×Option AObj)}{n m:Nat}(b:Bool):
  Cv ((evW env O).call 215 [.lst l.length false (xA qd l)] (KL L n m b [] none)) fun v t=>∃m2,v=.fn 219 [] [.ptr n 0]∧t=KL ((n,some (.row 171 [.lst l.length false (xA qd l)] false false))::L) (n+1) m2 b [] none:=by
 refine xO (F:=f215) h rfl rfl (ziF rfl) ?_;unfold f215 cF;simp only;refine xB ?_;refine xB ?_;refine xu ?_;refine xF ?_;exact⟨_,rfl,rfl⟩
attribute [local go_sem] ltF gtF xI xH ziS ziW ziV ziQ xW UR f202 in
theorem zwK(h181:O 219=none){L:List (Nat×Option AObj)}{m nb ab l dd:Nat}{tF:List (Nat×AV)}{ls:List Nat}{z:Int}(hl:ls.length<1000000)(gnb:xD L nb=some (.row 171 [.lst ls.length false (xA qd ls)] false false))(gl:xD L l=some (.loop .ready none (tmL tF) UR.1 UR.2.1 UR.2.2 dd))(t5:(tmL tF).get 5=some (.ptr ab 0))(gab:xD L ab=some (.row 154 [.int .u64 z] false false))(h1:nb≠ab∧nb≠l∧ab≠l)(b:Bool):
  Cv ((evW env O).call 219 [.yld l,.ptr nb 0] (KL L n m b [] none)) fun v t=>∃z2 L2 m2,t=KL L2 n m2 b [] none∧xD L2 l=some (.loop .ready none (tmL tF) UR.1 UR.2.1 UR.2.2 dd)∧xD L2 ab=some (.row 154 [.int .u64 z2] false false)∧∀j,j≠ab→j≠l→xD L2 j=xD L j:=by
 refine xO (F:=f219) h181 rfl rfl (ziF rfl) ?_;have hs3:=Wu (k:=ls.length) oM;unfold f219 cF;simp only;refine xB ?_;refine xE ?_;refine xU (fun k:Nat=>k) (fun k fr s=>∃T L2 m2 z2,fr=⟨tmL T,[]⟩∧s=KL L2 n m2 false [] none∧(tmL T).get 0=some (.yld l)∧(tmL T).get 1=some (.ptr nb 0)∧(tmL T).get 3=some (.int .i64 (i3 k))∧k≤ls.length∧xD L2 l=some (.loop .ready none (tmL tF) UR.1 UR.2.1 UR.2.2 dd)∧xD L2 ab=some (.row 154 [.int .u64 z2] false false)∧∀j,j≠ab→j≠l→xD L2 j=xD L j) (fun k2 fr s hI=>?_) ls.length ⟨_,L,m,z,rfl,rfl,sW,sW,sW,oM,gl,gab,fun _ _ _=>rfl⟩;obtain⟨T,L2,m2,z2,rfl,rfl,q0,q1,q3,hk3,gl2,gab2,hfr⟩:=hI;have gnb2:xD L2 nb=some (.row 171 [.lst ls.length false (xA qd ls)] false false):=by rw[hfr nb h1.1 h1.2.1];exact gnb
 cases k2 with
 |zero=>
  simp only[i3]at q3;clear gnb gab hs3 gl;refine xu ?_;refine xF ?_;exact⟨z2,L2,m2,rfl,gl2,gab2,hfr⟩
 |succ k2=>
  have hlt:k2<ls.length:=oM;obtain⟨x,hd⟩:∃x,ls.drop k2=x::ls.drop (k2+1):=⟨_,ziX hlt⟩;have hcx:=zlg hd;have hs2:=Wu (k:=k2) oM;obtain⟨w1,hw1⟩:=zk0 z2;obtain⟨w2,hw2⟩:=zjU w1 (qJ .u64 (.ofNat x));obtain⟨e1,e2,e3⟩:=h1;clear gnb gab hs3 gl hd;simp only[i3]at q3;have e4:=e3.symm;replace hfr:=fun j h1 h2=>(hfr j h1 h2).symm;refine xu ?_;refine⟨k2,⟨_,_,_,w2,rfl,rfl,sV,sV,sV,oM,sV,sV,fun j h1 h2=>?_⟩,oM⟩
  (repeat (rw[xr,if_neg oM]))
  exact(hfr j h1 h2).symm
end
section
variable {α:Type}
open Classical in
noncomputable def exV(P:Program)(w0:World)(f:Nat)(enc:α→List AV)(Good:α→AV→Prop)(x:α):AV:=
 if h:∃v,Good x v∧x8 v=true∧∃s1,SC P w0 f (enc x) (s00 0 true) v s1 then Classical.choose h else .bool true
def lg(P:Program)(w0:World)(f:Nat)(enc:α→List AV)(Pre:α→Prop)(Good:α→AV→Prop):Prop:=∀x,Pre x→∃v,Good x v∧x8 v=true∧∃s1,SC P w0 f (enc x) (s00 0 true) v s1
noncomputable def Z0(P:Program)(w0:World)(f:Nat)(enc:α→List AV)(Pre:α→Prop)(Good:α→AV→Prop):List AV→St→Option (AV×St):=vr enc Pre (exV P w0 f enc Good)
theorem pY{f:Nat}{enc:α→List AV}{Good:α→AV→Prop}{x:α}(h:∃v,Good x v∧x8 v=true∧∃s1,SC P w0 f (enc x) (s00 0 true) v s1):Good x (exV P w0 f enc Good x)∧x8 (exV P w0 f enc Good x)=true∧∃s1,SC P w0 f (enc x) (s00 0 true) (exV P w0 f enc Good x) s1:=by
 unfold exV;rw[dif_pos h];exact Classical.choose_spec h
theorem zvM{f:Nat}{enc:α→List AV}{Pre:α→Prop}{Good:α→AV→Prop}(he:∀x,xN (enc x)=true)(h:lg P w0 f enc Pre Good):qv P w0 f (Z0 P w0 f enc Pre Good):=by
 refine Wa true he (fun x=>?_) fun x hp=>(pY (h x hp)).2.2;by_cases hx:∃v,Good x v∧x8 v=true∧∃s1,SC P w0 f (enc x) (s00 0 true) v s1
 ·exact(pY hx).2.1
 ·unfold exV;rw[dif_neg hx];rfl
theorem Y7{f:Nat}{enc:α→List AV}{Pre:α→Prop}{Good:α→AV→Prop}(hO:O f=some (Z0 P w0 f enc Pre Good))(h:lg P w0 f enc Pre Good)(inj:∀x y,enc x=enc y→x=y)(x:α)(hp:Pre x){args:List AV}(ha:wkL args=enc x):∃v,Good x v∧x8 v=true∧∀s,(evW env O).call f args s=some (v,s):=
 ⟨exV P w0 f enc Good x,(pY (h x hp)).1,(pY (h x hp)).2.1,fun s=>oc hO inj x hp ha s⟩
end
theorem beX(B:Bx P w0)(hO:OrcOk P w0 O){f:Nat}(F:IFunc){args:List AV}{G:AV→Prop}(h:Ev (evC env (evW env O) none F.body ⟨wq (tmL []) 0 args,[]⟩ (KL [] 0 0 true [] none)) fun r fr t=>Cv (Z2 (KL [] 0 0 true [] none) (wL env.globs F.res (some (r,fr,t)))) fun v0 s1=>∃v,G v∧x8 v=true∧Fz s1 v0 v)(hF:env.funs.get f=some F:=by exact rfl)(hp:env.pure f=true:=by exact rfl)(ha:args.length≤F.ntmps:=by exact Nat.le_of_ble_eq_true rfl):∃v,G v∧x8 v=true∧∃s1,SC P w0 f args (s00 0 true) v s1:=by
 obtain⟨r,fr,t,e,v0,s1,e2,v,hg,hpu,hz⟩:=h;exact⟨v,hg,hpu,be B hO F ⟨r,fr,t,e,v0,s1,e2,hz⟩ hF hp ha⟩
theorem zih(B:Bx P w0)(hO:OrcOk P w0 O){f:Nat}(F:IFunc){args:List AV}{G:AV→Prop}(h:Ev (evC env (evW env O) none F.body ⟨wq (tmL []) 0 args,[]⟩ (KL [] 0 0 false [] none)) fun r fr t=>Cv (mdR true (wL env.globs F.res (some (r,fr,t)))) fun v0 s1=>∃v,G v∧x8 v=true∧Fz s1 v0 v)(hF:env.funs.get f=some F:=by exact rfl)(hp:env.pure f=false:=by exact rfl)(ha:args.length≤F.ntmps:=by exact Nat.le_of_ble_eq_true rfl):∃v,G v∧x8 v=true∧∃s1,SC P w0 f args (s00 0 true) v s1:=by
 obtain⟨r,fr,t,e,v0,s1,e2,v,hg,hpu,hz⟩:=h;exact⟨v,hg,hpu,bew B hO F ⟨r,fr,t,e,v0,s1,e2,hz⟩ hF hp ha⟩
def vJ(x:Bool×List Nat):List AV:=[vw x.1 x.2]
theorem JR:∀x y,vJ x=vJ y→x=y:=fun⟨a,b⟩ ⟨c,d⟩ h=>by
 simp only[vJ,vw,qP,List.cons.injEq,AV.lst.injEq,AV.bool.injEq,AV.agg.injEq,true_and,and_true]at h;rw[Xd h.2.2,h.1]
theorem pV(b:Bool)(l:List Nat):x8 (vw b l)=true:=by simp only[vw,qP,ve,xY,wN,uq,x6,xe]
theorem VX(x:Bool×List Nat):xN (vJ x)=true:=by simp only[vJ,xY,pV,x6,xe]
theorem JX(b:Bool)(l:List Nat):wkV (vw b l)=vw b l:=by simp only[vw,qP,wkV,wkL,p7]
def GSm(_:Bool×List Nat)(v:AV):Prop:=∃k b,v=.tup [.int .i64 k,.bool b]
def lh(x:Bool×List Nat):Prop:=x.2.length<100000000
theorem pu(k:Int)(b:Bool):∃v,(∃k b,v=AV.tup [.int .i64 k,.bool b])∧x8 v=true∧Fz s (.tup [.int .i64 k,.bool b]) v:=by
 refine⟨_,⟨k,b,rfl⟩,rfl,?_⟩;simp only[Fz];exact⟨_,rfl,wB (wU _ _ _) (wB (w7 _ _) ji)⟩
section
variable {P:Program}{w0:World}(B:Bx P w0){O:Orc}(hO:OrcOk P w0 O)
include B hO
attribute [local go_sem] qP vw ltF gtF xI xH ziS ziW ziV ziQ xW in
theorem zpD(h139:O 177=some X2)(h177:O 215=none)(h181:O 219=none):lg P w0 202 vJ lh GSm:=by
 intro x hx;refine beX B hO f202 ?_;obtain⟨g,l⟩:=x;have hx:l.length<100000000:=hx;have htr:=fun s=>YK h139 (l:=l) oM (v:=qP l) (by simp only[qP,wkV,p7]) s
 have hbw:=fun(ls:List Nat) L n m b=> @ztZ O h177 ls L n m b;simp only[vJ,vw,qP]at htr⊢;generalize vq l=ls at *;unfold f202 cF;simp only;by_cases h4:4<ls.length
 ·refine xB ?_;refine xB ?_;refine xB ?_;refine xF ?_;exact pu _ _
 ·refine xB ?_;refine xB ?_;refine xB ?_;refine xB ?_;refine xz (xz (xK ?_));refine xC (hbw ls _ _ _ _) fun v t hv=>?_;obtain⟨m2,rfl,rfl⟩:=hv;refine xu ?_;refine xE ?_;refine xK ?_;refine zrd (zwK h181 (ls:=ls) (ab:=1) (z:=.ofNat 0) oM ?_ (xG _ _ _) ?_ ?_ ?_ _) fun v t hv=>?_
  ·simp (disch:=first|exact dis|fail)only[go_sem,seval,-rO,-rN]
  ·simp (disch:=first|exact dis|fail)only[go_sem,seval,-rO,-rN]
  ·simp (disch:=first|exact dis|fail)only[go_sem,seval,-rO,-rN]
  ·simp (disch:=first|exact dis|fail)only[go_sem,seval,-rO,-rN]
  obtain⟨z2,L2,m3,rfl,gl,gz,hfr⟩:=hv;simp only[UR,f202]at gl;have gdf:=hfr 3 oM oM;have g0:=hfr 0 oM oM;simp (disch:=first|exact dis|fail)only[go_sem,seval,-rO,-rN]at gdf
  simp (disch:=first|exact dis|fail)only[go_sem,seval,-rO,-rN]at g0
  clear hfr hbw htr;refine xu ?_;obtain⟨w,hw⟩:∃w,vUn .neg (.int .u64 z2)=some (.int .u64 w):=⟨_,rfl⟩;cases g with
  | true=>
   cases c1:ltD (.ofNat 9223372036854775808) z2 with
   |false=>
    refine xB ?_;rw[uv (by (repeat rw[xr,if_neg oM]);exact gdf)]
    refine xF ?_;exact pu _ _
   |true=>
    refine xB ?_;refine xu ?_;rw[uv (by (repeat rw[xr,if_neg oM]);exact gdf)]
    refine xF ?_;exact pu _ _
  | false=>
   cases c1:ltD (.ofNat 9223372036854775807) z2 with
   |false=>
    refine xB ?_;rw[uv (by (repeat rw[xr,if_neg oM]);exact gdf)]
    refine xF ?_;exact pu _ _
   |true=>
    refine xB ?_;refine xu ?_;rw[uv (by (repeat rw[xr,if_neg oM]);exact gdf)]
    refine xF ?_;exact pu _ _
attribute [local go_sem] qP vw ltF gtF in
theorem zko(h164:O 202=some (Z0 P w0 202 vJ lh GSm))(hs:lg P w0 202 vJ lh GSm):lg P w0 180 vJ lh GSm:=by
 intro x hx;refine beX B hO f180 ?_;obtain⟨v,⟨k,g2,rfl⟩,hpv,hcall⟩:=Y7 h164 hs JR x hx (args:=vJ x) (by simp only[vJ,wkL,JX])
 obtain⟨g,l⟩:=x;simp only[vJ,vw,qP]at hcall⊢;unfold f180 cF;simp only;cases g2 with
 |false=>
  refine xB ?_;refine xB ?_;refine xB ?_;refine xF ?_;exact pu _ _
 | true=>
  cases c1:ltD k (.negSucc 536870911)with
  |true=>
   refine xB ?_;refine xB ?_;refine xB ?_;refine xF ?_;exact pu _ _
  | false=>
   cases c2:ltD (.ofNat 536870911) k with
   |true=>
    refine xB ?_;refine xB ?_;refine xB ?_;refine xF ?_;exact pu _ _
   |false=>
    refine xB ?_;refine xB ?_;refine xB ?_;refine xu ?_;refine xF ?_;exact pu _ _
end
structure Vl where
 k:Int
 n:Int
def xM(v:Vl):List AV:=[.int .i64 v.k,.int .i64 v.n]
theorem jw(v:Vl):(xM v).length=2:=rfl
theorem pQ(v:Vl):xN (xM v)=true:=rfl
theorem pR(v:Vl):xZ (xM v)=true:=rfl
theorem JJ(v:Vl):wkL (xM v)=xM v:=by simp only[xM,wkL,wkV]
theorem zzE:∀x y:Vl,xM x=xM y→x=y:=fun⟨a,b⟩ ⟨c,d⟩ h=>by
 simp only[xM,List.cons.injEq,AV.int.injEq,true_and,and_true]at h;rw[h.1,h.2]
theorem zrj{l r:List Vl}(h:xA xM l=xA xM r):l=r:=kD (k:=2) jw oM zzE h
theorem zxx(l:List Vl):wkL (xA xM l)=xA xM l:=vM JJ l
theorem XZ(l:List Vl):xN (xA xM l)=true:=wz pQ l
theorem Ly(l:List Vl):(xA xM l).length=l.length*2:=ql jw l
def q9(l:List Vl):AV:=.lst l.length false (xA xM l)
theorem Yw(l:List Vl):x8 (q9 l)=true:=by simp only[q9,wN]
theorem zr7(l:List Vl):wkV (q9 l)=q9 l:=by simp only[q9,wkV,zxx]
theorem Gx{l:List Vl}{i:Nat}{o:Vl}{r:List Vl}(hd:l.drop i=o::r):xV 2 (wl (i*2) (xA xM l))=some (xM o):=YY jw hd
def jd(t:List Nat):List Vl:=((kM t).getD []).map fun c=>⟨.ofNat 2,.ofNat c⟩
theorem VG{t l:List Nat}(h:kM t=some l):l.length≤t.length:=by
 unfold kM at h;split at h
 ·rename_i l2 h2
  have:=Q9 (b:=t) (by simp) (by simp) h2
  simp only[Option.some.injEq]at h;rw[←h,List.length_map];exact this
 ·cases h
theorem zzH(t:List Nat):(jd t).length≤t.length:=by
 unfold jd;rw[List.length_map];cases h:kM t with
 |none=>simp
 |some l=>simpa using VG h
noncomputable def Ui:List AV→St→Option (AV×St):=vr lZ Qn (fun t=>q9 (jd t))
theorem VD(h:O 151=some Ui){t:List Nat}(hp:Qn t)(s:St):(evW env O).call 151 [.str t] s=some (q9 (jd t),s):=by
 rw[wx h,Ui,qH Y5 s t hp rfl]
theorem zjt{l:List Nat}{i:Nat}{o:Nat}{r:List Nat}(hd:l.drop i=o::r):xV 1 (wl i (uc l))=some [.int .i64 (.ofNat o)]:=by
 rw[H1,hd];rfl
section
variable {P:Program}{w0:World}(B:Bx P w0){O:Orc}(hO:OrcOk P w0 O)
include B hO
attribute [local go_sem] lZ q9 in
theorem zse(h109:O 147=some Uj)(t:List Nat)(hp:Qn t):∃s1,SC P w0 151 (lZ t) (s00 0 true) (q9 (jd t)) s1:=by
 refine be B hO f151 ?_;have hcc:=fun s=>VH (f:=147) h109 hp.1 hp.2 s;have hlen:=hp.2;have hcr:∃l er,kN t=.tup [.lst l.length false (uc l),.int .i64 (.ofNat er)]∧jd t=l.map (fun c=>⟨.ofNat 2,.ofNat c⟩)∧l.length≤t.length:=by
  unfold kN jd;cases h:kM t with
  |none=>exact⟨[],4,rfl,rfl,by simp⟩
  |some l=>exact⟨l,0,rfl,rfl,VG h⟩
 obtain⟨l,er,h1,h2,hl⟩:=hcr;rw[h1]at hcc;rw[h2];obtain⟨R,hR⟩:∃R,l.map (fun c=>(⟨.ofNat 2,.ofNat c⟩:Vl))=R:=⟨_,rfl⟩;rw[hR];clear h1 h2;unfold f151 cF;simp only[lZ,q9];refine xB ?_;refine xB ?_;refine xz (xz (xu ?_));refine xE ?_;refine xU (fun x:Nat×List Vl=>l.length-x.1) (fun x f t=>∃T L n m id,f=⟨tmL T,[]⟩∧t=KL L n m true [] none∧(tmL T).get 2=some (ZW xM 2 id x.2)∧(tmL T).get 12=some (.lst l.length false (uc l))∧(tmL T).get 13=some (.int .i64 (.ofNat l.length))∧(tmL T).get 14=some (.int .i64 (.ofNat x.1))∧x.1≤l.length∧x.2.length=x.1∧Js 143 xM L n id x.2∧x.2++(l.drop x.1).map (fun c=>⟨.ofNat 2,.ofNat c⟩)=R) (fun x f t hI=>?_) (0,[]) ⟨_,_,_,_,0,rfl,rfl,by simp (disch:=first|exact dis|fail)only[go_sem,seval,-rO,-rN,ZW],sW,sW,sW,zK _,rfl,fun h=>absurd rfl h,hR⟩
 clear hR;obtain⟨T,L,n,m,id,rfl,rfl,t2,t12,t13,t14,hi,hol,hok,hR⟩:=hI;obtain⟨i,out⟩:=x;simp only at t2 t14 hi hol hok hR⊢;rcases xQ l i with ⟨hlt,hd⟩|⟨x,hlt,hd⟩
 ·have hni:¬i<l.length:=oM;rw[hd]at hR;simp only[List.map_nil,ziJ]at hR;subst hR;obtain⟨v0,hf,hz⟩:=zxB (esz:=2) (id:=id) (s:=KL [] 0 0 true [] none) pQ JJ out;refine xu ?_;refine xu ?_;refine xF ?_;exact hz
 ·have hcx:=zjt hd;rw[hd,List.map_cons]at hR;refine xB ?_;refine xz (x4 sW ?_);refine xu ?_;refine xz (xE ?_);refine xB ?_;refine xK ?_;refine xC (QE jw pQ pR oM hok (ws:=[⟨.ofNat 2,.ofNat x⟩]) (by simp only[zU,xd];omega) (by simp only[zU,xd];omega)) fun v t hv=>?_
  obtain⟨id2,L2,n2,m2,rfl,rfl,q1,_⟩:=hv;refine xu ?_;refine xu ?_;exact⟨(i+1,out++[⟨.ofNat 2,.ofNat x⟩]),⟨_,_,_,_,id2,rfl,rfl,sV,sV,sV,sV,by simp only;omega,by simp only[yl,zU,xd];omega,q1,by rw[List.append_assoc];exact hR⟩,by simp only;omega⟩
end
structure Ob where
 c:List AV
 len:c.length=5
 sc:xZ c=true
structure Sto where
 obs:List Ob
 oid:Nat
 ys:List Vl
 yid:Nat
 bs:List Nat
def Sto.row(S:Sto):AObj:=.row 118 [.bool true,.nils,gSl 5 S.oid S.obs.length,gSl 2 S.yid S.ys.length,.nils,.nils] false false
def SymAt(L:List (Nat×Option AObj))(bs:List Nat)(obs:List Ob)(y:Vl):Prop:=∃(i a bid:Nat) (oi oa:Ob) (l:List Vl),y=⟨.ofNat 7,.ofNat i⟩∧obs[i]? =some oi∧obs[a]? =some oa∧xV 1 (wl 2 oi.c)=some [.sl bid 0 1 (.fix 1)]∧bid∈bs∧xD L bid=some (.row 143 (xM ⟨.ofNat 7,.ofNat a⟩) false false)∧xV 1 (wl 2 oa.c)=some [q9 l]∧l.length<2000000
structure StOk(sp:Nat)(L:List (Nat×Option AObj))(n:Nat)(S:Sto):Prop where
 wf:WfA L n
 row:xD L sp=some S.row
 go:GAt 180 Ob.c L 0 n S.oid S.obs
 gy:GAt 143 xM L 0 n S.yid S.ys
 sy:∀y∈S.ys,SymAt L S.bs S.obs y
 bl:∀b∈S.bs,∃cs,xD L b=some (.row 143 cs false false)
theorem SymAt.mono{L L2:List (Nat×Option AObj)}{bs bs2:List Nat}{obs more:List Ob}{y:Vl}(h:SymAt L bs obs y)(hb:∀b∈bs,b∈bs2)(hf:∀j∈bs,xD L2 j=xD L j):SymAt L2 bs2 (obs++more) y:=by
 obtain⟨i,a,bid,oi,oa,l,e,h1,h2,h3,h4,h5,h6,h7⟩:=h;have hi:i<obs.length:=(List.getElem?_eq_some_iff.1 h1).1;have ha:a<obs.length:=(List.getElem?_eq_some_iff.1 h2).1;exact⟨i,a,bid,oi,oa,l,e,by rw[ym hi];exact h1,by rw[ym ha];exact h2,h3,hb _ h4,by rw[hf bid h4];exact h5,h6,h7⟩
section
variable {sp n:Nat}{L:List (Nat×Option AObj)}{S:Sto}
theorem StOk.spn(h:StOk sp L n S):sp<n:=h.wf.lt h.row
theorem StOk.ne_o(h:StOk sp L n S){j t:Nat}{cs:List AV}(hg:xD L j=some (.row t cs false false))(h0:S.obs≠[]):j≠S.oid:=fun e=>by
 have:=(h.go h0).2.2;rw[←e,hg]at this;simp at this
theorem StOk.ne_y(h:StOk sp L n S){j t:Nat}{cs:List AV}(hg:xD L j=some (.row t cs false false))(h0:S.ys≠[]):j≠S.yid:=fun e=>by
 have:=(h.gy h0).2.2;rw[←e,hg]at this;simp at this
theorem StOk.sp_o(h:StOk sp L n S)(h0:S.obs≠[]):sp≠S.oid:=h.ne_o h.row h0
theorem StOk.sp_y(h:StOk sp L n S)(h0:S.ys≠[]):sp≠S.yid:=h.ne_y h.row h0
theorem StOk.o_y(h:StOk sp L n S)(h0:S.obs≠[])(h1:S.ys≠[]):S.oid≠S.yid:=fun e=>by
 have h2:=(h.go h0).2.2;have h3:=(h.gy h1).2.2;rw[e,h3]at h2;simp at h2
end
theorem StOk.bne{sp b:Nat}{L:List (Nat×Option AObj)}{S:Sto}(h:StOk sp L n S)(hb:b∈S.bs):b<n∧b≠sp∧(S.obs≠[]→b≠S.oid)∧(S.ys≠[]→b≠S.yid):=by
 obtain⟨cs,hg⟩:=h.bl b hb;exact⟨h.wf.lt hg,fun e=>by rw[e,h.row]at hg;simp[Sto.row]at hg,h.ne_o hg,h.ne_y hg⟩
theorem wD(esz id k:Nat):(gSl esz id k).cells=[gSl esz id k]:=by cases k<;>rfl
section
variable {O:Orc}
attribute [local go_sem] ltF gtF xI xH ziS ziW ziV ziQ xW ww wD in
theorem zlC(h112:O 150=none){sp:Nat}{L:List (Nat×Option AObj)}{S:Sto}(h:StOk sp L n S)(hN:S.obs.length<100000000)(o:Ob)(m:Nat):
  Cv ((evW env O).call 150 [.ptr sp 0,.agg o.c] (KL L n m false [] none)) fun v t=>∃L2 n2 m2 oid2,v=.agg (xM ⟨.ofNat 7,.ofNat S.obs.length⟩)∧t=KL L2 n2 m2 false [] none∧StOk sp L2 n2 {S with obs:=S.obs++[o],oid:=oid2}∧n≤n2∧n≤oid2∧∀j,j<n→j≠sp→(S.obs≠[]→j≠S.oid)→xD L2 j=xD L j:=by
 refine xO (F:=f150) h112 rfl rfl (ziF rfl) ?_;obtain⟨obs,oid,ys,yid,bs⟩:=S;have hw:=h.wf;have hr:=h.row;have hsp:=h.spn;obtain⟨oc,ol,os⟩:=o;simp only[Sto.row]at hr hN⊢;have ht5:xV 5 oc=some oc:=wF ol;have hlN:wY oc=5:=by rw[wE];exact ol
 have hov:Xt [.int .i64 (.ofNat 0),.int .i64 (.ofNat 0),.nils,.bool false,.nils] oc=some oc:=UE (by rw[ol];rfl)
 unfold f150 cF;simp only;refine xB ?_;cases obs with
 | nil=>
  simp only[xd,gSl]at hr;have hap:=fun L n m e x f=> @zxh L n m 180 e 5 72 oc x f ol oM oM;refine xB ?_;refine xu ?_;refine xF ?_;refine⟨_,_,_,n+1+1+1,rfl,rfl,?_,?_,?_,fun j h1 h2 h3=>?_⟩
  ·refine⟨?_,?_,fun _=>⟨zK _,by simp only;omega,?_⟩,fun hne=>?_,fun y hy=>(h.sy y hy).mono (fun _ hb=>hb) fun j hj=>?_,fun b hb=>?_⟩
   ·(repeat first|exact hw.up oM|refine WfA.same ?_ oM)
   ·(repeat first|exact xG _ _ _|rw[xr,if_neg oM])
   ·simp only[ziZ,xA,ziJ]
    (repeat first|exact xG _ _ _|rw[xr,if_neg oM])
   ·obtain⟨q1,q2,q3⟩:=h.gy hne;refine⟨q1,by simp only at q2⊢;omega,?_⟩
    have:=(h.sp_y hne).symm;simp only at q2 this
    (repeat rw[xr,if_neg (by simp only;omega)])
    exact q3
   ·obtain⟨q1,q2,_⟩:=h.bne hj
    (repeat rw[xr,if_neg oM])
   ·obtain⟨q1,q2,_⟩:=h.bne hb;obtain⟨cs,hcs⟩:=h.bl b hb;refine⟨cs,?_⟩
    (repeat rw[xr,if_neg oM])
    exact hcs
  ·omega
  ·omega
  ·(repeat rw[xr,if_neg oM])
 | cons u us=>
  obtain⟨_,hid,hgi⟩:=h.go (by simp)
  have hso:=h.sp_o (by simp)
  simp only at hid hgi hso hN;have hfl:(xA Ob.c (u::us)).length=(u::us).length *5:=ql Ob.len _;have hgi2:∀o1 o2,xD ((n+1,o1)::(n,o2)::L) oid=some (.row 180 (xA Ob.c (u::us)) true false):=fun o1 o2=>by rw[xr,if_neg oM,xr,if_neg oM];exact hgi
  have ha:=fun o1 o2 m e x f=> @zxi ((n+1,o1)::(n,o2)::L) (n+1+1) m 180 e 5 72 oid (u::us).length false (xA Ob.c (u::us)) oc x f oM (hgi2 o1 o2) hfl ol oM os oM oM;obtain⟨k,hk⟩:∃k,(u::us).length=k+1:=⟨us.length,rfl⟩;rw[hk]at ha hr hN hfl;simp only[gSl]at hr;have hso2:=hso.symm;have hcat:xA Ob.c (u::us)++oc=xA Ob.c ((u::us)++[⟨oc,ol,os⟩]):=by rw[wj,qO]
  rw[hcat]at ha;clear hgi2 hcat
  rw[hk];have hk2:((u::us)++[(⟨oc,ol,os⟩:Ob)]).length=k+1+1:=by rw[yl,hk];rfl
  have hsy:=fun y hy L2 hf=>(h.sy y hy).mono (L2:=L2) (more:=[⟨oc,ol,os⟩]) (fun _ hb=>hb) hf;have hbn:=fun b hb=>h.bne (b:=b) hb;have hbl:=h.bl;have hgy:=h.gy;have hoy:=h.o_y (by simp)
  have hpy:=h.sp_y;simp only at hsy hgy hoy hpy hbn hbl;clear h;generalize (u::us)++[(⟨oc,ol,os⟩:Ob)]=nobs at *;refine xB ?_;refine xu ?_;refine xF ?_;refine⟨_,_,_,n+1+1+1,rfl,rfl,?_,?_,?_,fun j h1 h2 h3=>?_⟩
  ·refine⟨?_,?_,fun _=>⟨zK _,by simp only;omega,?_⟩,fun hne=>?_,fun y hy=>hsy y hy _ fun j hj=>?_,fun b hb=>?_⟩
   ·(repeat first|exact hw.up oM|refine WfA.same ?_ oM)
   ·simp only[Sto.row,hk2,gSl]
    (repeat first|exact xG _ _ _|rw[xr,if_neg oM])
   ·(repeat first|exact xG _ _ _|rw[xr,if_neg (by simp only;omega)])
   ·obtain⟨q1,q2,q3⟩:=hgy hne;refine⟨q1,by simp only at q2⊢;omega,?_⟩
    have e1:=(hpy hne).symm;have e2:=(hoy hne).symm
    try simp only at q2
    try simp only at e1
    try simp only at e2
    (repeat rw[xr,if_neg (by simp only;omega)])
    exact q3
   ·obtain⟨q1,q2,q3,_⟩:=hbn j hj;have:=q3 (by simp)
    (repeat rw[xr,if_neg oM])
   ·obtain⟨q1,q2,q3,_⟩:=hbn b hb;have:=q3 (by simp)
    obtain⟨cs,hcs⟩:=hbl b hb;refine⟨cs,?_⟩
    (repeat rw[xr,if_neg oM])
    exact hcs
  ·omega
  ·omega
  ·have:=h3 (by simp)
   (repeat rw[xr,if_neg oM])
end
theorem zik(x1 x2 y1 y2:Int):∃q,WA (.flat [.i,.i]) true (.agg [.int .i64 x1,.int .i64 x2]) (.agg [.int .i64 y1,.int .i64 y2])=some (.bool q):=by
 simp only[WA,eqV,gZ,eq1,vU,cond_true];cases eqI x1 y1<;>cases eqI x2 y2<;>exact⟨_,rfl⟩
section
variable {O:Orc}
theorem zjC(h165:O 203=none){sp:Nat}{L:List (Nat×Option AObj)}{S:Sto}(hr:xD L sp=some S.row)(n m:Nat)(b:Bool):
  (evW env O).call 203 [.ptr sp 0] (KL L n m b [] none)=some (.bool true,KL L n m b [] none):=by
 have key:Cv ((evW env O).call 203 [.ptr sp 0] (KL L n m b [] none)) fun v t=>v=.bool true∧t=KL L n m b [] none:=by
  refine xO (F:=f203) h165 rfl rfl (ziF rfl) ?_;simp only[Sto.row]at hr;have heq:WA .ptr true (.ptr sp 0) .nilp=some (.bool true):=rfl;unfold f203 cF;simp only;refine xu ?_;refine xF ?_;exact⟨rfl,rfl⟩
 obtain⟨v,t,h,rfl,rfl⟩:=key;exact h
attribute [local go_sem] ltF gtF xI xH ziS ziW ziV ziQ xW ww wD in
theorem zrJ(h144:O 182=none)(h165:O 203=none){sp n:Nat}{L:List (Nat×Option AObj)}{S:Sto}(hr:xD L sp=some S.row)(hsp:sp<n){i:Nat}(hi:i<S.obs.length)(hN:S.obs.length<1000000000)(m:Nat)(b:Bool):
  Cv ((evW env O).call 182 [.ptr sp 0,.agg [.int .i64 (.ofNat 7),.int .i64 (.ofNat i)]] (KL L n m b [] none)) fun v t=>∃m2,v=.ptr S.oid (i*5)∧t=KL ((n,some (.row 143 [.int .i64 (.ofNat 7),.int .i64 (.ofNat i)] false false))::L) (n+1) m2 b [] none:=by
 refine xO (F:=f182) h144 rfl rfl (ziF rfl) ?_;have hr2:xD ((n,some (.row 143 [.int .i64 (.ofNat 7),.int .i64 (.ofNat i)] false false))::L) sp=some S.row:=by rw[xr,if_neg oM];exact hr
 have his:=fun m b=>zjC h165 hr2 (n+1) m b;obtain⟨obs,oid,ys,yid,bs⟩:=S;simp only[Sto.row]at hr hi hN;obtain⟨k,hk⟩:∃k,obs.length=k+1:=⟨obs.length-1,oM⟩;rw[hk]at hr hi hN;simp only[gSl]at hr;clear hr2 hk;have hni:¬k+1≤i:=oM;unfold f182 cF;simp only;refine xB ?_;refine xB ?_;refine xu ?_;refine xF ?_;exact⟨_,rfl,rfl⟩
attribute [local go_sem] ww in
theorem zlY(h143:O 181=none)(a b:List Vl)(ha:a.length<1000000000)(hb:b.length<1000000000)(L:List (Nat×Option AObj))(n m:Nat)(md:Bool):
  ∃r,(evW env O).call 181 [q9 a,q9 b] (KL L n m md [] none)=some (.bool r,KL L n m md [] none):=by
 have key:Cv ((evW env O).call 181 [q9 a,q9 b] (KL L n m md [] none)) fun v t=>(∃r,v=.bool r)∧t=KL L n m md [] none:=by
  refine wI (F:=f181) h143 rfl rfl (ziF rfl) ?_;unfold f181;simp only[q9];by_cases hab:a.length=b.length
  ·refine xB ?_;refine xB ?_;refine xz (xz (xu ?_));refine xE ?_;refine xU (fun i:Nat=>a.length-i) (fun i f t=>∃T,f=⟨tmL T,[]⟩∧t=KL L n 0 true [] none∧(tmL T).get 0=some (.lst a.length false (xA xM a))∧(tmL T).get 1=some (.lst b.length false (xA xM b))∧(tmL T).get 12=some (.int .i64 (.ofNat a.length))∧(tmL T).get 13=some (.int .i64 (.ofNat i))∧i≤a.length) (fun i f t hI=>?_) 0 ⟨_,rfl,rfl,sV,sV,sV,sW,zK _⟩;obtain⟨T,rfl,rfl,t0,t1,t12,t13,hi⟩:=hI;rcases xQ a i with ⟨hlt,hd⟩|⟨x,hlt,hd⟩
   ·have:¬i<a.length:=oM;refine xu ?_;refine xu ?_;refine xF ?_;exact⟨⟨_,rfl⟩,rfl⟩
   ·obtain⟨y,hd2⟩:∃y,b.drop i=y::b.drop (i+1):=⟨_,ziX oM⟩;have hc1:=Gx hd;have hc2:=Gx hd2;obtain⟨x1,x2⟩:=x;obtain⟨y1,y2⟩:=y;simp only[xM]at hc1 hc2;have hlt2:i<b.length:=oM;clear hd hd2;obtain⟨q,hq⟩:=zik x1 x2 y1 y2;cases q with
    |true=>
     refine xu ?_;refine xF ?_;exact⟨⟨_,rfl⟩,rfl⟩
    |false=>
     refine xu ?_;exact⟨i+1,⟨_,rfl,trivial,sV,sV,sV,sV,oM⟩,oM⟩
  ·refine xB ?_;refine xB ?_;refine xF ?_;exact⟨⟨_,rfl⟩,rfl⟩
 obtain⟨v,t,h,⟨r,rfl⟩,rfl⟩:=key;exact⟨r,h⟩
end
theorem SC.lst0{f:Nat}(h1:SC P w0 f [.nils] s v s')(h2:SC P w0 f [.sl0] s v s'):SC P w0 f [.lst 0 false []] s v s':=by
 refine⟨h1.1,fun φ w xs r hwf hf hx F n hF=>?_⟩;simp only[VRL]at hx;obtain⟨x,ys,rfl,hx,rfl⟩:=hx;simp only[VR]at hx;obtain⟨_,⟨_,a,rfl⟩|⟨b,o,k,ys,rfl,_⟩⟩:=hx
 ·cases a with
  |none=>exact h1.2 φ w _ r hwf hf (by simp only[VRL,VR];exact⟨_,_,rfl,rfl,rfl⟩) F n hF
  |some a=>exact h2.2 φ w _ r hwf hf (by simp only[VRL,VR];exact⟨_,_,rfl,⟨a,0,rfl⟩,rfl⟩) F n hF
 ·exact h2.2 φ w _ r hwf hf (by simp only[VRL,VR];exact⟨_,_,rfl,⟨_,k,rfl⟩,rfl⟩) F n hF
theorem zol{ty esz bytes k:Nat}{cs:List AV}{e:Bool}(he:1≤esz)(hb:2*(k+1)*bytes≤281474976710656)(hk:k<1000000000000)(hl:cs.length=(k+1)*esz)(hp:xN cs=true):vC (KL [] 0 0 true [] none) ty esz bytes (.lst 0 true []) (.lst (k+1) e cs)=some (.gr 0 esz (k+1) cs,KL [(0,some (.app ty cs))] 1 0 true [] none):=by
 have h2:xV (zb (k+1) esz) cs=some cs:=wF hl;have h3:xV (zb 0 esz) ([]:List AV)=some []:=by rw[show zb 0 esz=0 from Nat.zero_mul _];rfl
 simp only[vC,ge,wS,h2,lL,cond_true,h3];rw[show Nat.add 0 (Nat.succ k)=k+1 from yC _,ziZ,Um he hb oM hp];rfl
def pW(l:List Vl):List AV:=[q9 l]
theorem zvr:∀x y,pW x=pW y→x=y:=fun x y h=>by
 simp only[pW,q9,List.cons.injEq,AV.lst.injEq,true_and,and_true]at h;exact zrj h.2
theorem zya(l:List Vl):xN (pW l)=true:=by simp only[pW,xY,Yw,x6,xe]
noncomputable def QL:List AV→St→Option (AV×St):=vr pW (fun l=>l.length<1000000000) q9
section
variable {P:Program}{w0:World}(B:Bx P w0){O:Orc}(hO:OrcOk P w0 O)
include B hO
attribute [local go_sem] q9 in
theorem zw8(l:List Vl)(hl:l.length<1000000000):∃s1,SC P w0 183 (pW l) (s00 0 true) (q9 l) s1:=by
 cases l with
 | nil=>
  have h1:∃s1,SC P w0 183 [.nils] (s00 0 true) (.lst 0 false []) s1:=by
   refine be B hO f183 ?_;unfold f183 cF;simp only;have he:WA .slice false .nils .nils=some (.bool true):=rfl;refine xu ?_;refine xF ?_;exact l9
  have h2:∃s1,SC P w0 183 [.sl0] (s00 0 true) (.lst 0 false []) s1:=by
   refine be B hO f183 ?_;unfold f183 cF;simp only;have he:WA .slice false .sl0 .nils=some (.bool false):=rfl;refine xu ?_;refine xF ?_;exact Yp rfl rfl
  obtain⟨_,h1⟩:=h1;obtain⟨_,h2⟩:=h2;exact⟨_,SC.lst0 (SC.up h1 rfl rfl (s00 0 true)) (SC.up h2 rfl rfl (s00 0 true))⟩
 |cons x r=>
  refine be B hO f183 ?_;unfold f183 cF;simp only[pW,q9];have he:∀cs,WA .slice false (.lst (x::r).length false cs) .nils=some (.bool false):=fun _=>rfl;have hp:=XZ (x::r);have hw:=zxx (x::r);have hlen:=Ly (x::r);have hap:= @zol 143 2 16 r.length (xA xM (x::r)) false oM (by simp only[zU]at hl;omega) (by simp only[zU]at hl;omega) hlen hp
  simp only[zU]at he⊢;generalize xA xM (x::r)=cs at *;refine xu ?_;refine xF ?_;exact Yp hp hw
end
theorem V9(l:List Int):xN (xA xL l)=true:=wz Vt l
theorem zkp(l:List Int):wkL (xA xL l)=xA xL l:=vM Vu l
structure StTo(sp:Nat)(L:List (Nat×Option AObj))(n:Nat)(S:Sto)(L2:List (Nat×Option AObj))(n2:Nat)(S2:Sto):Prop where
 ok:StOk sp L2 n2 S2
 le:n≤n2
 fr:∀j,j<n→j≠sp→(S.obs≠[]→j≠S.oid)→(S.ys≠[]→j≠S.yid)→xD L2 j=xD L j
 o:S2.obs≠[]→(S.obs≠[]∧S2.oid=S.oid)∨n≤S2.oid
 y:S2.ys≠[]→(S.ys≠[]∧S2.yid=S.yid)∨n≤S2.yid
 b:∀b∈S2.bs,b∈S.bs∨n≤b
theorem StTo.trans{sp:Nat}{L L2 L3:List (Nat×Option AObj)}{n2 n3:Nat}{S S2 S3:Sto}(h:StTo sp L n S L2 n2 S2)(g:StTo sp L2 n2 S2 L3 n3 S3):StTo sp L n S L3 n3 S3 where
 ok:=g.ok
 le:=Nat.le_trans h.le g.le
 fr:=fun j h1 h2 h3 h4=>by
  have hle:=h.le;rw[g.fr j oM h2 (fun hne e=>by
   rcases h.o hne with ⟨q1,q2⟩|q
   ·exact h3 q1 (by rw[e,q2])
   ·omega) (fun hne e=>by
   rcases h.y hne with ⟨q1,q2⟩|q
   ·exact h4 q1 (by rw[e,q2])
   ·omega)]
  exact h.fr j h1 h2 h3 h4
 o :=fun hne=>by
  have hle:=h.le;rcases g.o hne with ⟨q1,q2⟩|q
  ·rcases h.o q1 with ⟨q3,q4⟩|q3
   ·exact .inl ⟨q3,by rw[q2,q4]⟩
   ·exact .inr (by rw[q2];exact q3)
  ·exact .inr oM
 y :=fun hne=>by
  have hle:=h.le;rcases g.y hne with ⟨q1,q2⟩|q
  ·rcases h.y q1 with ⟨q3,q4⟩|q3
   ·exact .inl ⟨q3,by rw[q2,q4]⟩
   ·exact .inr (by rw[q2];exact q3)
  ·exact .inr oM
 b:=fun b hb=>by
  have hle:=h.le;rcases g.b b hb with q|q
  ·exact h.b b q
  ·exact .inr oM
theorem StOk.more{sp n2:Nat}{L L2:List (Nat×Option AObj)}{S:Sto}(h:StOk sp L n S)(hw:WfA L2 n2)(hn:n≤n2)(hf:∀j,j<n→xD L2 j=xD L j):StTo sp L n S L2 n2 S where
 ok:={
  wf:=hw
  row:=by rw[hf sp h.spn];exact h.row
  go:=h.go.ext (zo _) hn fun j _ hj=>hf j hj
  gy:=h.gy.ext (zo _) hn fun j _ hj=>hf j hj
  sy:=fun y hy=>by
   have:=(h.sy y hy).mono (more:=[]) (fun _ hb=>hb) fun j hj=>hf j (h.bne hj).1
   rwa [ziJ]at this
  bl:=fun b hb=>by
   obtain⟨cs,hcs⟩:=h.bl b hb;exact⟨cs,by rw[hf b (h.bne hb).1];exact hcs⟩}
 le:=hn
 fr:=fun j hj _ _ _=>hf j hj
 o:=fun hne=>.inl ⟨hne,rfl⟩
 y:=fun hne=>.inl ⟨hne,rfl⟩
 b:=fun b hb=>.inl hb
theorem StTo.bs{sp n2 b:Nat}{L L2:List (Nat×Option AObj)}{S S2:Sto}(h:StTo sp L n S L2 n2 S2)(hb:n≤b){cs:List AV}(hg:xD L2 b=some (.row 143 cs false false)):StTo sp L n S L2 n2 {S2 with bs:=b::S2.bs} where
 ok:={
  wf:=h.ok.wf
  row:=h.ok.row
  go:=h.ok.go
  gy:=h.ok.gy
  sy:=fun y hy=>by
   have:=(h.ok.sy y hy).mono (L2:=L2) (bs2:=b::S2.bs) (more:=[]) (fun _ hx=>List.mem_cons_of_mem _ hx) fun j _=>rfl
   rwa [ziJ]at this
  bl:=fun x hx=>by
   rcases List.mem_cons.1 hx with rfl|hx
   ·exact⟨cs,hg⟩
   ·exact h.ok.bl x hx}
 le:=h.le
 fr:=h.fr
 o:=h.o
 y:=h.y
 b:=fun x hx=>by
  rcases List.mem_cons.1 hx with rfl|hx
  ·exact .inr hb
  ·exact h.b x hx
theorem StOk.put{sp j:Nat}{L:List (Nat×Option AObj)}{S:Sto}(h:StOk sp L n S)(hj:j<n)(h1:j≠sp)(h2:S.obs≠[]→j≠S.oid)(h3:S.ys≠[]→j≠S.yid)(h4:j∉S.bs)(o:Option AObj):StOk sp ((j,o)::L) n S where
 wf:=h.wf.same hj
 row:=by rw[xr,if_neg h1.symm];exact h.row
 go:=fun hne=>by
  obtain⟨q1,q2,q3⟩:=h.go hne;exact⟨q1,q2,by rw[xr,if_neg (h2 hne).symm];exact q3⟩
 gy:=fun hne=>by
  obtain⟨q1,q2,q3⟩:=h.gy hne;exact⟨q1,q2,by rw[xr,if_neg (h3 hne).symm];exact q3⟩
 sy:=fun y hy=>by
  have:=(h.sy y hy).mono (L2:=(j,o)::L) (more:=[]) (fun _ hb=>hb) fun b hb=>by rw[xr,if_neg (show ¬b=j from fun e=>h4 (e▸hb))]
  rwa [ziJ]at this
 bl:=fun b hb=>by
  obtain⟨cs,hcs⟩:=h.bl b hb;exact⟨cs,by rw[xr,if_neg (show ¬b=j from fun e=>h4 (e▸hb))];exact hcs⟩
section
variable {O:Orc}
theorem Ye(h112:O 150=none){sp:Nat}{L:List (Nat×Option AObj)}{S:Sto}(h:StOk sp L n S)(hN:S.obs.length<100000000)(o:Ob)(m:Nat):
  Cv ((evW env O).call 150 [.ptr sp 0,.agg o.c] (KL L n m false [] none)) fun v t=>∃L2 n2 m2 oid2,v=.agg (xM ⟨.ofNat 7,.ofNat S.obs.length⟩)∧t=KL L2 n2 m2 false [] none∧StTo sp L n S L2 n2 {S with obs:=S.obs++[o],oid:=oid2}:=by
 refine(zlC h112 h hN o m).mono fun v t hv=>?_;obtain⟨L2,n2,m2,oid2,rfl,rfl,q1,q2,q3,q4⟩:=hv;exact⟨L2,n2,m2,oid2,rfl,rfl,⟨q1,q2,fun j h1 h2 h3 _=>q4 j h1 h2 h3,fun _=>.inr q3,fun hne=>.inl ⟨hne,rfl⟩,fun b hb=>.inl hb⟩⟩
end
def XB:ICode:=match f152.body with
 |.seq _ (.seq _ k)=>k
 |_=>.skip
def zwv:ICode→ICode:=fun k=>match f152.body with
 |.seq a (.seq b _)=>.seq a (.seq b k)
 |_=>.skip
theorem zuY:f152.body=zwv XB:=rfl
def obS(l:List Vl):Ob:=⟨[.int .i64 (.ofNat 4),.int .i64 (.ofNat 0),q9 l,.bool false,.nils],rfl,rfl⟩
def obB(id:Nat):Ob:=⟨[.int .i64 (.ofNat 5),.int .i64 (.ofNat 0),.sl id 0 1 (.fix 1),.bool false,.nils],rfl,rfl⟩
def zpH:ICode:=match XB with
 |.seq _ (.seq _ (.seq a _))=>a
 |_=>.skip
section
variable {O:Orc}
attribute [local go_sem] ltF gtF xI xH ziS ziW ziV ziQ xW ww wD xM Trie.get_set Trie.get_del in
theorem zuW{sp eb:Nat}{L:List (Nat×Option AObj)}{S:Sto}(h:StOk sp L n S)(hY:S.ys.length<100000000){w:Vl}(hs:SymAt L S.bs S.obs w){T:List (Nat×AV)}{v4:AV}(t0:(tmL T).get 0=some (.ptr sp 0))(t4:(tmL T).get 4=some v4)(t8:(tmL T).get 8=some (.ptr eb 0))(geb:xD L eb=some (.row 143 (xM w) false false))(m:Nat):
  Ev (evC env (evW env O) none zpH ⟨tmL T,[]⟩ (KL L n m false [] none)) fun r f s=>r=.norm∧∃T2 L2 n2 m2 yid2,f=⟨tmL T2,[]⟩∧s=KL L2 n2 m2 false [] none∧(tmL T2).get 4=some v4∧(tmL T2).get 8=some (.ptr eb 0)∧StTo sp L n S L2 n2 {S with ys:=S.ys++[w],yid:=yid2}:=by
 obtain⟨obs,oid,ys,yid,bs⟩:=S;have hw:=h.wf;have hr:=h.row;have hsp:=h.spn;have hen:=hw.lt geb;have hsy:=fun y hy L2 hf=>(h.sy y hy).mono (L2:=L2) (more:=[]) (fun _ hb=>hb) hf;have hsw:=fun L2 hf=>hs.mono (L2:=L2) (more:=[]) (fun _ hb=>hb) hf;have hbn:=fun b hb=>h.bne (b:=b) hb;have hbl:=h.bl;have hgo:=h.go;have hpo:=h.sp_o;have hes:eb≠sp:=fun e=>by rw[e,hr]at geb;simp[Sto.row]at geb
 have hrw:=h.row;have hes2:=hes.symm;simp only[Sto.row]at hr hY;simp only[ziJ]at hsy hsw;simp only at hbn hbl;obtain⟨w1,w2⟩:=w;unfold zpH XB f152 cF;simp only;cases ys with
 | nil=>
  simp only[xd,gSl]at hr;have hap:=fun L n m e x f=> @zxh L n m 143 e 2 16 [.int .i64 w1,.int .i64 w2] x f rfl oM oM;clear h hs;simp only[xM]at geb;refine xu ?_;refine⟨trivial,_,_,_,_,n+1,rfl,rfl,sV,sV,?_,?_,fun j h1 h2 h3 h4=>?_,fun hne=>.inl ⟨hne,rfl⟩,fun _=>.inr (zhi _),fun b hb=>.inl hb⟩
  ·refine⟨?_,?_,fun hne=>?_,fun _=>⟨zK _,by simp only;omega,?_⟩,fun y hy=>?_,fun b hb=>?_⟩
   ·(repeat first|exact hw.up oM|refine WfA.same ?_ oM)
   ·(repeat first|exact xG _ _ _|rw[xr,if_neg oM])
   ·obtain⟨q1,q2,q3⟩:=hgo hne;have:=(hpo hne).symm;simp only at q2 this;refine⟨q1,by simp only;omega,?_⟩
    (repeat rw[xr,if_neg (by simp only;omega)])
    exact q3
   ·simp only[ziZ,xA,ziJ]
    (repeat first|exact xG _ _ _|rw[xr,if_neg oM])
   ·simp only[ziZ,ziU,List.not_mem_nil,or_false]at hy;subst hy;refine hsw _ fun j hj=>?_;obtain⟨q1,q2,_⟩:=hbn j hj
    (repeat rw[xr,if_neg oM])
   ·obtain⟨q1,q2,_⟩:=hbn b hb;obtain⟨cs,hcs⟩:=hbl b hb;refine⟨cs,?_⟩
    (repeat rw[xr,if_neg oM])
    exact hcs
  ·omega
  ·(repeat rw[xr,if_neg oM])
 | cons u us=>
  obtain⟨_,hid,hgi⟩:=h.gy (by simp)
  have hso:=h.sp_y (by simp)
  have hey:=h.ne_y geb (by simp)
  have hoy:=fun hne=>h.o_y hne (by simp)
  simp only at hid hgi hso hY hoy hey;have hfl:(xA xM (u::us)).length=(u::us).length *2:=Ly _;have ha:=fun m e x f=> @zxi L n m 143 e 2 16 yid (u::us).length false (xA xM (u::us)) [.int .i64 w1,.int .i64 w2] x f oM hgi hfl rfl oM rfl oM oM;obtain⟨k,hk⟩:∃k,(u::us).length=k+1:=⟨us.length,rfl⟩;rw[hk]at ha hr hY hfl;simp only[gSl]at hr;have hso2:=hso.symm;have hcat:xA xM (u::us)++[.int .i64 w1,.int .i64 w2]=xA xM ((u::us)++[⟨w1,w2⟩]):=by rw[wj,qO];rfl
  rw[hcat]at ha;clear hcat h hs;have hk2:((u::us)++[(⟨w1,w2⟩:Vl)]).length=k+1+1:=by rw[yl,hk];rfl
  have hmem:∀y,y∈(u::us)++[(⟨w1,w2⟩:Vl)]→y∈u::us∨y=⟨w1,w2⟩:=fun y hy=>by
   rcases List.mem_append.1 hy with h|h
   ·exact .inl h
   ·exact .inr (by simpa using h)
  generalize (u::us)++[(⟨w1,w2⟩:Vl)]=nys at *;simp only[xM]at geb;have hkeep:∀j∈bs,j<n∧j≠sp∧j≠yid:=fun j hj=>⟨(hbn j hj).1,(hbn j hj).2.1,(hbn j hj).2.2.2 (by simp)⟩
  clear hrw hbn;refine xu ?_;refine⟨trivial,_,_,_,_,n+1,rfl,rfl,sV,sV,?_,?_,fun j h1 h2 h3 h4=>?_,fun hne=>.inl ⟨hne,rfl⟩,fun _=>.inr (zhi _),fun b hb=>.inl hb⟩
  ·refine⟨?_,?_,fun hne=>?_,fun _=>⟨zK _,by simp only;omega,?_⟩,fun y hy=>?_,fun b hb=>?_⟩
   ·(repeat first|exact hw.up oM|refine WfA.same ?_ oM)
   ·simp only[Sto.row,hk2,gSl]
    (repeat first|exact xG _ _ _|rw[xr,if_neg oM])
   ·obtain⟨q1,q2,q3⟩:=hgo hne;have e1:=(hpo hne).symm;have e2:=hoy hne;simp only at q2 e1;refine⟨q1,by simp only;omega,?_⟩
    (repeat rw[xr,if_neg (by simp only;omega)])
    exact q3
   ·(repeat first|exact xG _ _ _|rw[xr,if_neg (by simp only;omega)])
   ·rcases hmem y hy with hy|rfl
    ·refine hsy y hy _ fun j hj=>?_;obtain⟨e0,e1,e2⟩:=hkeep j hj
     (repeat rw[xr,if_neg oM])
    ·refine hsw _ fun j hj=>?_;obtain⟨e0,e1,e2⟩:=hkeep j hj
     (repeat rw[xr,if_neg oM])
   ·obtain⟨e0,e1,e2⟩:=hkeep b hb;obtain⟨cs,hcs⟩:=hbl b hb;refine⟨cs,?_⟩
    (repeat rw[xr,if_neg oM])
    exact hcs
  ·omega
  ·have:=h4 (by simp)
   simp only at this
   (repeat rw[xr,if_neg oM])
end
section
variable {O:Orc}
attribute [local go_sem] ltF gtF xI xH ziS ziW ziV ziQ xW ww wD xM Trie.get_set Trie.get_del in
theorem zuX(h112:O 150=none)(h145:O 183=some QL){sp ab:Nat}{L:List (Nat×Option AObj)}{S:Sto}(h:StOk sp L n S)(hN:S.obs.length+2<100000000)(hY:S.ys.length<100000000){l:List Vl}(hl:l.length<2000000){T:List (Nat×AV)}{z1 z2:AV}(t0:(tmL T).get 0=some (.ptr sp 0))(t1:(tmL T).get 1=some (q9 l))(t4:(tmL T).get 4=some (.ptr ab 0))(gab:xD L ab=some (.row 143 [z1,z2] false false))(hab:ab∉S.bs)(m:Nat){Q:Res→Fr→St→Prop}
  (hQ:∀T L2 n2 m2 S2 w,(tmL T).get 4=some (.ptr ab 0)→StTo sp L n S L2 n2 S2→ab∉S2.bs→S2.obs.length≤S.obs.length+2→S2.ys.length≤S.ys.length+1→Q .ret ⟨tmL T,[]⟩ (KL ((ab,some (.row 143 (xM w) false false))::L2) n2 m2 false [] none)):
  Ev (evC env (evW env O) none XB ⟨tmL T,[]⟩ (KL L n m false [] none)) Q:=by
 have hcl:=fun s=>oc h145 zvr l oM (args:=pW l) (by simp only[pW,wkL,zr7]) s
 simp only[pW]at hcl;have hsp:=h.spn;have ha1:∀m,Cv ((evW env O).call 150 [.ptr sp 0,.agg [.int .i64 (.ofNat 4),.int .i64 (.ofNat 0),.lst l.length false (xA xM l),.bool false,.nils]] (KL L n m false [] none)) fun v t=>∃L2 n2 m2 oid2,v=.agg (xM ⟨.ofNat 7,.ofNat S.obs.length⟩)∧t=KL L2 n2 m2 false [] none∧StTo sp L n S L2 n2 {S with obs:=S.obs++[obS l],oid:=oid2}:=fun m=>Ye h112 h oM (obS l) m
 have hap:ab≠sp:=fun e=>by rw[e,h.row]at gab;simp[Sto.row]at gab
 have hao:=h.ne_o gab;have hay:=h.ne_y gab;have habn:=h.wf.lt gab;have hcp:=XZ l;simp only[q9]at hcl t1;unfold XB f152 cF;simp only;refine xz (xK ?_);refine xC (ha1 _) fun v t hv=>?_;obtain⟨L1,n1,m1,oid1,rfl,rfl,k1⟩:=hv;clear ha1;have k1w:=k1.ok.wf;have k1s:=k1.ok.spn;have k2:=k1.trans (k1.ok.more (L2:=(n1,some (.row 143 (xM ⟨.ofNat 7,.ofNat S.obs.length⟩) false false))::(n1,some (.row 143 [.int .i64 (.ofNat 0),.int .i64 (.ofNat 0)] false false))::L1) (n2:=n1+1) (by repeat first|exact k1w.up oM|refine WfA.same ?_ oM) oM fun j hj=>by repeat rw[xr,if_neg oM])
 have k3:=k2.trans (k2.ok.more (L2:=(n1+1,some (.row 143 (xM ⟨.ofNat 7,.ofNat S.obs.length⟩) false false))::(n1,some (.row 143 (xM ⟨.ofNat 7,.ofNat S.obs.length⟩) false false))::(n1,some (.row 143 [.int .i64 (.ofNat 0),.int .i64 (.ofNat 0)] false false))::L1) (n2:=n1+1+1) (by repeat first|exact k1w.up oM|refine WfA.same ?_ oM) oM fun j hj=>by repeat rw[xr,if_neg oM])
 have hl3:(S.obs++[obS l]).length=S.obs.length+1:=by rw[yl];rfl
 have ha2:∀m,Cv ((evW env O).call 150 [.ptr sp 0,.agg [.int .i64 (.ofNat 5),.int .i64 (.ofNat 0),.sl (n1+1) 0 1 (.fix 1),.bool false,.nils]] (KL ((n1+1,some (.row 143 (xM ⟨.ofNat 7,.ofNat S.obs.length⟩) false false))::(n1,some (.row 143 (xM ⟨.ofNat 7,.ofNat S.obs.length⟩) false false))::(n1,some (.row 143 [.int .i64 (.ofNat 0),.int .i64 (.ofNat 0)] false false))::L1) (n1+1+1) m false [] none)) fun v t=>∃L2 n2 m2 oid2,v=.agg (xM ⟨.ofNat 7,.ofNat (S.obs++[obS l]).length⟩)∧t=KL L2 n2 m2 false [] none∧StTo sp _ (n1+1+1) _ L2 n2 {S with obs:=(S.obs++[obS l])++[obB (n1+1)],oid:=oid2}:=fun m=>Ye h112 k3.ok (by simp only[hl3];omega) (obB (n1+1)) m
 have hrow3:=k3.ok.row;have hg1:xD ((n1+1,some (AObj.row 143 (xM ⟨.ofNat 7,.ofNat S.obs.length⟩) false false))::(n1,some (.row 143 (xM ⟨.ofNat 7,.ofNat S.obs.length⟩) false false))::(n1,some (.row 143 [.int .i64 (.ofNat 0),.int .i64 (.ofNat 0)] false false))::L1) (n1+1)=some (.row 143 (xM ⟨.ofNat 7,.ofNat S.obs.length⟩) false false):=xG _ _ _;simp only[hl3]at ha2;simp only[xM]at ha2;refine xu ?_;refine xz (xK ?_);refine xC (ha2 _) fun v t hv=>?_;obtain⟨L4,n4,m4,oid4,rfl,rfl,k4⟩:=hv;clear ha2;have k14:=k3.trans k4;have k4w:=k4.ok.wf;have hle1:=k1.le;have hle4:=k4.le;have hg4:=(k4.fr (n1+1) oM oM (k3.ok.ne_o hg1) (k3.ok.ne_y hg1)).trans hg1;clear hg1 k1 k2 k3 k4 hrow3;have k5:=k14.trans (k14.ok.more (L2:=(n4,some (.row 143 (xM ⟨.ofNat 7,.ofNat (S.obs.length+1)⟩) false false))::(n4,some (.row 143 [.int .i64 (.ofNat 0),.int .i64 (.ofNat 0)] false false))::L4) (n2:=n4+1) (by repeat first|exact k4w.up oM|refine WfA.same ?_ oM) oM fun j hj=>by repeat rw[xr,if_neg oM])
 have hg5:xD ((n4,some (AObj.row 143 (xM ⟨.ofNat 7,.ofNat (S.obs.length+1)⟩) false false))::(n4,some (.row 143 [.int .i64 (.ofNat 0),.int .i64 (.ofNat 0)] false false))::L4) (n1+1)=some (.row 143 (xM ⟨.ofNat 7,.ofNat S.obs.length⟩) false false):=by
  repeat rw[xr,if_neg oM]
  exact hg4
 have k6:=k5.bs (b:=n1+1) oM hg5;have hsym:SymAt ((n4,some (AObj.row 143 (xM ⟨.ofNat 7,.ofNat (S.obs.length+1)⟩) false false))::(n4,some (.row 143 [.int .i64 (.ofNat 0),.int .i64 (.ofNat 0)] false false))::L4) ((n1+1)::S.bs) ((S.obs++[obS l])++[obB (n1+1)]) ⟨.ofNat 7,.ofNat (S.obs.length+1)⟩:=by
  refine⟨S.obs.length+1,S.obs.length,n1+1,obB (n1+1),obS l,l,rfl,?_,?_,rfl,zi9,hg5,rfl,hl⟩
  ·rw[yA (by rw[hl3];exact zo _),hl3,Nat.sub_self];rfl
  ·rw[ym (by rw[hl3];exact zV _),yA (zo _),Nat.sub_self];rfl
 refine xu ?_;refine xz (Ev.mono (zuW (eb:=n4) (w:=⟨.ofNat 7,.ofNat (S.obs.length+1)⟩) (v4:=.ptr ab 0) k6.ok hY hsym sV sV sV (xG _ _ _) _) fun r f s hz=>?_);obtain⟨rfl,T7,L7,n7,m7,yid7,rfl,rfl,t4',t8',k7⟩:=hz;have k8:=k6.trans k7;have g4:=(k7.fr n4 oM (by have:=k14.ok.spn;omega) (k6.ok.ne_o (xG _ _ _)) (k6.ok.ne_y (xG _ _ _))).trans (xG _ _ _)
 have gab7:=(k8.fr ab habn hap hao hay).trans gab;have hab8:ab∉S.bs∧n≤n1+1:=⟨hab,oM⟩;have hlen:((S.obs++[obS l])++[obB (n1+1)]).length=S.obs.length+2:=by rw[yl,hl3];rfl
 have hlenY:(S.ys++[(⟨.ofNat 7,.ofNat (S.obs.length+1)⟩:Vl)]).length=S.ys.length+1:=by rw[yl];rfl
 have hne:ab∉(n1+1)::S.bs:=fun h=>by
  rcases List.mem_cons.1 h with e|h
  ·omega
  ·exact hab h
 have hq:=fun T m t4=>hQ T L7 n7 m _ ⟨.ofNat 7,.ofNat (S.obs.length+1)⟩ t4 k8 hne (by simp only;omega) (by simp only;omega)
 clear hQ k7 k8 k6 k5 hg5 hsym hg4 hl3;simp only[xM]at g4 hq;refine xu ?_;exact hq _ _ sV
end
theorem zso{obs:List Ob}{i:Nat}{o:Ob}{x:AV}(h:obs[i]? =some o)(hx:xV 1 (wl 2 o.c)=some [x]):xV 1 (wl (i*5+2) (xA Ob.c obs))=some [x]:=by
 obtain⟨hi,he⟩:=List.getElem?_eq_some_iff.1 h;have hd:obs.drop i=o::obs.drop (i+1):=by rw[ziX hi,he]
 have h1:=uf (f:=Ob.c) (k:=5) Ob.len i obs;rw[wK]at h1 hx⊢;rw[←List.drop_drop,h1,hd];simp only[xA];obtain⟨c,hl,hs⟩:=o;rcases c with _|⟨a,_|⟨b,_|⟨d,r⟩⟩⟩
 ·simp at hl
 ·simp at hl
 ·simp at hl
 ·simpa [xV]using hx
theorem StTo.put{sp n2 j t:Nat}{L L2:List (Nat×Option AObj)}{S S2:Sto}(h:StTo sp L n S L2 n2 S2)(hj:n≤j){cs:List AV}(hg:xD L2 j=some (.row t cs false false))(h1:j≠sp)(h4:j∉S2.bs)(o:Option AObj):StTo sp L n S ((j,o)::L2) n2 S2 where
 ok:=h.ok.put (h.ok.wf.lt hg) h1 (h.ok.ne_o hg) (h.ok.ne_y hg) h4 o
 le:=h.le
 fr:=fun i h1 h2 h3 h4=>by rw[xr,if_neg oM];exact h.fr i h1 h2 h3 h4
 o:=h.o
 y:=h.y
 b:=h.b
section
variable {O:Orc}
theorem zlX(h143:O 181=none)(a b:List Vl)(ha:a.length<1000000000)(hb:b.length<1000000000)(L:List (Nat×Option AObj))(n m:Nat)(md:Bool):
  Cv ((evW env O).call 181 [.lst a.length false (xA xM a),.lst b.length false (xA xM b)] (KL L n m md [] none)) fun v t=>(∃r,v=.bool r)∧t=KL L n m md [] none:=by
 obtain⟨r,h⟩:=zlY h143 a b ha hb L n m md;exact⟨_,_,h,⟨r,rfl⟩,rfl⟩
attribute [local go_sem] ltF gtF xI xH ziS ziW ziV ziQ xW ww wD xM in
theorem zuZ(h114:O 152=none)(h112:O 150=none)(h145:O 183=some QL)(h143:O 181=none)(h144:O 182=none)(h165:O 203=none){sp:Nat}{L:List (Nat×Option AObj)}{S:Sto}(h:StOk sp L n S)(hN:S.obs.length+2<100000000)(hY:S.ys.length<100000000){l:List Vl}(hl:l.length<2000000)(m:Nat):
  Cv ((evW env O).call 152 [.ptr sp 0,q9 l] (KL L n m false [] none)) fun v t=>∃w L2 n2 m2 S2,v=.agg (xM w)∧t=KL L2 n2 m2 false [] none∧StTo sp L n S L2 n2 S2∧S2.obs.length≤S.obs.length+2∧S2.ys.length≤S.ys.length+1:=by
 refine xO (F:=f152) h114 rfl rfl (ziF rfl) ?_;have hw:=h.wf;have hsp:=h.spn;have hbn:n∉S.bs:=fun hb=>by have:=(h.bne hb).1;omega
 have k0:StTo sp L n S ((n,some (.row 143 [.int .i64 (.ofNat 0),.int .i64 (.ofNat 0)] false false))::L) (n+1) S:=h.more (hw.cons (zV _) (zhi _)) (zhi _) fun j hj=>by rw[xr,if_neg oM]
 rw[zuY];unfold zwv f152 cF;simp only;have hr:=h.row;obtain⟨obs,oid,ys,yid,bs⟩:=S;simp only[Sto.row]at hr hN hY;refine xB ?_;refine xz (xz (xu ?_));refine xE ?_;refine xU (fun i:Nat=>ys.length-i) (fun i f t=>∃T L2 n2 m2,f=⟨tmL T,[]⟩∧t=KL L2 n2 m2 false [] none∧(tmL T).get 0=some (.ptr sp 0)∧(tmL T).get 1=some (q9 l)∧(tmL T).get 4=some (.ptr n 0)∧(tmL T).get 12=some (gSl 2 yid ys.length)∧(tmL T).get 13=some (.int .i64 (.ofNat ys.length))∧(tmL T).get 14=some (.int .i64 (.ofNat i))∧i≤ys.length∧WfA L2 n2∧n+1≤n2∧∀j,j<n+1→xD L2 j=xD ((n,some (.row 143 [.int .i64 (.ofNat 0),.int .i64 (.ofNat 0)] false false))::L) j) (fun i f t hI=>?_) 0 ⟨_,_,_,_,rfl,rfl,sW,sW,sW,sW,sW,sW,zK _,k0.ok.wf,zo _,fun _ _=>rfl⟩;obtain⟨T,L2,n2,m2,rfl,rfl,t0,t1,t4,t12,t13,t14,hi,hw2,hn2,hfr⟩:=hI;have k1:=k0.trans (k0.ok.more hw2 hn2 hfr);rcases xQ ys i with ⟨hlt,hd⟩|⟨y,hlt,hd⟩
 ·have hni:¬i<ys.length:=oM;have g4:xD L2 n=some (.row 143 [.int .i64 (.ofNat 0),.int .i64 (.ofNat 0)] false false):=(hfr n oM).trans (xG _ _ _);refine xu ?_;refine zuX h112 h145 k1.ok hN hY hl (ab:=n) sV sV sV g4 hbn _ fun T3 L3 n3 m3 S3 w t4' k3 hb3 q1 q2=>?_;have g43:=(k3.fr n oM oM (k1.ok.ne_o g4) (k1.ok.ne_y g4)).trans g4;have k4:=(k1.trans k3).put (zo _) g43 oM hb3 (some (.row 143 (xM w) false false));refine xF ?_;exact⟨w,_,_,_,S3,rfl,rfl,k4,q1,q2⟩
 ·have hcy:=Gx hd;have hmem:y∈ys:=zi2 (by rw[hd];exact zi9)
  obtain⟨i1,a1,bid,oi,oa,l2,rfl,e1,e2,e3,e4,e5,e6,e7⟩:=k1.ok.sy y hmem;obtain⟨q1,q2,gy⟩:=k1.ok.gy (by intro e;simp only at e;rw[e]at hlt;simp at hlt)
  have hi1:=(List.getElem?_eq_some_iff.1 e1).1;have ha1:=(List.getElem?_eq_some_iff.1 e2).1;obtain⟨q3,q4,go⟩:=k1.ok.go (by intro e;simp only at e e1;rw[e]at e1;simp at e1)
  have c1:=zso e1 e3;have c2:=zso e2 e6;have hbid:=(k1.ok.bne e4).1;have hrow:=k1.ok.row;have hia:= @X1 2 yid ys.length i hlt;have hge1:=fun{L:List (Nat×Option AObj)} {n:Nat} (hr:xD L sp=some (Sto.row ⟨obs,oid,ys,yid,bs⟩)) (hs:sp<n) m b=> @zrJ O h144 h165 sp n L ⟨obs,oid,ys,yid,bs⟩ hr hs i1 hi1 (by simp only;omega) m b
  have hge2:=fun{L:List (Nat×Option AObj)} {n:Nat} (hr:xD L sp=some (Sto.row ⟨obs,oid,ys,yid,bs⟩)) (hs:sp<n) m b=> @zrJ O h144 h165 sp n L ⟨obs,oid,ys,yid,bs⟩ hr hs a1 ha1 (by simp only;omega) m b
  have hev:=fun L n m md=>zlX h143 l2 l oM oM L n m md;simp only at gy go q2 q4 hge1 hge2 hrow;simp only[xM]at hcy e5;simp only[q9]at t1 c2;clear hd;have hspn:sp<n2:=k1.ok.spn;have hw3:=k1.ok.wf;clear hw h hr e1 e2 e3 e6;refine xB ?_;refine xz (x4 sW ?_);refine xu ?_;refine xz (xE ?_);refine xB ?_;refine xz ?_;refine xK ?_;refine xC (hge1 (by (repeat rw[xr,if_neg oM]);exact hrow) oM _ _) fun v t hv=>?_
  obtain⟨m3,rfl,rfl⟩:=hv;refine xK ?_;refine xC (hge2 (by (repeat rw[xr,if_neg oM]);exact hrow) oM _ _) fun v t hv=>?_
  obtain⟨m4,rfl,rfl⟩:=hv;refine xK ?_;refine xC (hev _ _ _ _) fun v t hv=>?_;obtain⟨⟨r,rfl⟩,rfl⟩:=hv;have g4:xD L2 n=some (.row 143 [.int .i64 (.ofNat 0),.int .i64 (.ofNat 0)] false false):=(hfr n oM).trans (xG _ _ _);have hfr2:∀j,j<n→xD L2 j=xD L j:=fun j hj=>by rw[hfr j oM,xr,if_neg oM]
  cases r with
  | true=>
   have hk0:=k0;clear hge1 hge2 hev k0 hrow hfr;refine xu ?_;refine xu ?_;refine xF ?_;refine⟨⟨.ofNat 7,.ofNat i1⟩,_,n2+1+1+1,_,_,rfl,rfl,StTo.put (n2:=n2+1+1+1) (j:=n) (t:=143) (cs:=[.int .i64 (.ofNat 0),.int .i64 (.ofNat 0)]) (k1.trans (k1.ok.more (L2:=_) ?_ oM fun j hj=>?_)) (zo _) ?_ oM hbn _,?_,?_⟩
   ·(repeat first|exact hw3.up oM|refine WfA.same ?_ oM)
   ·(repeat rw[xr,if_neg oM])
   ·(repeat rw[xr,if_neg oM])
    exact g4
   ·simp only;omega
   ·simp only;omega
  | false=>
   have hk0:=k0;have hfr3:=hfr;clear hge1 hge2 hev k0 hrow hfr;refine xu ?_;refine xu ?_;refine xu ?_;refine⟨i+1,⟨_,_,n2+1+1+1,_,rfl,rfl,sV,by simp (disch:=first|exact dis|fail)only[go_sem,seval,-rO,-rN, *,q9],sV,sV,sV,sV,oM,?_,oM,fun j hj=>?_⟩,oM⟩
   ·(repeat first|exact hw3.up oM|refine WfA.same ?_ oM)
   ·(repeat rw[xr,if_neg oM])
    exact hfr3 j hj
end
def ztz(sp:Nat)(L:List (Nat×Option AObj))(n:Nat)(S:Sto)(k:Nat)(v:AV)(t:St):Prop:=∃w L2 n2 m2 S2,v=.agg (xM w)∧t=KL L2 n2 m2 false [] none∧StTo sp L n S L2 n2 S2∧S2.obs.length≤S.obs.length+k∧S2.ys.length≤S.ys.length+k
theorem jN{α:Type}(l:List α)(x:α):(l++[x]).length=l.length+1:=by rw[yl];rfl
structure Own(sp:Nat)(S:Sto)(j:Nat):Prop where
 sp:j≠sp
 o:S.obs≠[]→j≠S.oid
 y:S.ys≠[]→j≠S.yid
 b:j∉S.bs
theorem StOk.fresh{sp j:Nat}{L:List (Nat×Option AObj)}{S:Sto}(h:StOk sp L n S)(hj:n≤j):Own sp S j where
 sp:=by have:=h.spn;omega
 o:=fun hne=>by have:=(h.go hne).2.1;omega
 y:=fun hne=>by have:=(h.gy hne).2.1;omega
 b:=fun hb=>by have:=(h.bne hb).1;omega
theorem Own.to{sp n2 j:Nat}{L L2:List (Nat×Option AObj)}{S S2:Sto}(h:Own sp S j)(hj:j<n)(k:StTo sp L n S L2 n2 S2):Own sp S2 j where
 sp:=h.sp
 o:=fun hne e=>by
  rcases k.o hne with ⟨q1,q2⟩|q
  ·exact h.o q1 (by rw[e,q2])
  ·omega
 y:=fun hne e=>by
  rcases k.y hne with ⟨q1,q2⟩|q
  ·exact h.y q1 (by rw[e,q2])
  ·omega
 b:=fun hb=>by
  rcases k.b j hb with q|q
  ·exact h.b q
  ·omega
theorem Own.same{sp n2 j:Nat}{L L2:List (Nat×Option AObj)}{S S2:Sto}(h:Own sp S j)(hj:j<n)(k:StTo sp L n S L2 n2 S2):xD L2 j=xD L j:=k.fr j hj h.sp h.o h.y
theorem StTo.put2{sp n2 j:Nat}{L L2:List (Nat×Option AObj)}{S S2:Sto}(h:StTo sp L n S L2 n2 S2)(hj:n≤j)(hj2:j<n2)(hw:Own sp S2 j)(o:Option AObj):StTo sp L n S ((j,o)::L2) n2 S2 where
 ok:=h.ok.put hj2 hw.sp hw.o hw.y hw.b o
 le:=h.le
 fr:=fun i h1 h2 h3 h4=>by rw[xr,if_neg oM];exact h.fr i h1 h2 h3 h4
 o:=h.o
 y:=h.y
 b:=h.b
theorem StTo.new{sp n2:Nat}{L L2:List (Nat×Option AObj)}{S S2:Sto}(h:StTo sp L n S L2 n2 S2)(o:Option AObj):StTo sp L n S ((n2,o)::L2) (n2+1) S2:=
 h.trans (h.ok.more (h.ok.wf.cons (zV _) (zhi _)) (zhi _) fun j hj=>by rw[xr,if_neg oM])
theorem StOk.new{sp:Nat}{L:List (Nat×Option AObj)}{S:Sto}(h:StOk sp L n S)(o:Option AObj):StTo sp L n S ((n,o)::L) (n+1) S:=
 h.more (h.wf.cons (zV _) (zhi _)) (zhi _) fun j hj=>by rw[xr,if_neg oM]
def obN(b:Bool)(l:List Nat):Ob:=⟨[.int .i64 (.ofNat 7),.int .i64 (.ofNat 0),.nils,.bool b,qP l],rfl,rfl⟩
section
variable {P:Program}{w0:World}{O:Orc}
attribute [local go_sem] ltF gtF xI xH ziS ziW ziV ziQ xW ww wD xM in
theorem zug(h111:O 149=none)(h112:O 150=none)(h142:O 180=some (Z0 P w0 180 vJ lh GSm))(hs:lg P w0 180 vJ lh GSm){sp:Nat}{L:List (Nat×Option AObj)}{S:Sto}(h:StOk sp L n S)(hN:S.obs.length<100000000){b:Bool}{l:List Nat}(hl:l.length<100000000)(m:Nat):
  Cv ((evW env O).call 149 [.ptr sp 0,.agg [.bool b,.lst l.length false (xA qd l)]] (KL L n m false [] none)) (ztz sp L n S 1):=by
 refine xO (F:=f149) h111 rfl rfl (ziF rfl) ?_;obtain⟨v,⟨k,g2,rfl⟩,hpv,hcall⟩:=Y7 h142 hs JR (b,l) hl (args:=vJ (b,l)) (by simp only[vJ,wkL,JX])
 simp only[vJ,vw,qP]at hcall;have hp:=h.spn;have k0:=(h.new (some (.row 173 [.bool b,.lst l.length false (xA qd l)] false false))).new (some (.row 143 [.int .i64 (.ofNat 0),.int .i64 (.ofNat 0)] false false));have ha1:∀m,Cv ((evW env O).call 150 [.ptr sp 0,.agg [.int .i64 (.ofNat 7),.int .i64 (.ofNat 0),.nils,.bool b,.lst l.length false (xA qd l)]] (KL _ (n+1+1) m false [] none)) fun v t=>∃L2 n2 m2 oid2,v=.agg (xM ⟨.ofNat 7,.ofNat S.obs.length⟩)∧t=KL L2 n2 m2 false [] none∧StTo sp _ (n+1+1) S L2 n2 {S with obs:=S.obs++[obN b l],oid:=oid2}:=fun m=>Ye h112 k0.ok hN (obN b l) m
 have hcp:=wz vG l;unfold f149 cF;simp only;cases g2 with
 |true=>
  clear ha1;refine xu ?_;refine xF ?_;refine⟨⟨.ofNat 1,k⟩,_,n+1+1,_,S,rfl,rfl,(k0.put2 oM oM (h.fresh oM) _),oM,oM⟩
 |false=>
  refine xB ?_;refine xB ?_;refine xz (xK ?_);refine xC (ha1 _) fun v t hv=>?_;obtain⟨L2,n2,m2,oid2,rfl,rfl,k1⟩:=hv;have hle:=k1.le;have g4:=(((h.fresh oM:Own sp S (n+1)).same oM k1)).trans (xG _ _ _);have ho:Own sp {S with obs:=S.obs++[obN b l],oid:=oid2} (n+1):=(h.fresh oM:Own sp S (n+1)).to oM k1
  have k2:=k0.trans k1;clear ha1 k1 k0;refine xu ?_;refine xu ?_;refine xF ?_;exact⟨⟨.ofNat 7,.ofNat S.obs.length⟩,_,n2,_,_,rfl,rfl,k2.put2 oM oM ho _,by simp only[jN];omega,by simp only;omega⟩
attribute [local go_sem] xI xH ziS ziW ziV ziQ xW xM in
theorem zn4(h117:O 155=none)(L:List (Nat×Option AObj))(n m:Nat):(evW env O).call 155 [] (KL L n m false [] none)=some (.agg (xM ⟨.ofNat 6,.ofNat 0⟩),KL L n m false [] none):=by
 have key:Cv ((evW env O).call 155 [] (KL L n m false [] none)) fun v t=>v=.agg (xM ⟨.ofNat 6,.ofNat 0⟩)∧t=KL L n m false [] none:=by
  refine wI (F:=f155) h117 rfl rfl (ziF rfl) ?_;unfold f155 cF;simp only;refine xu ?_;refine xF ?_;exact⟨rfl,rfl⟩
 obtain⟨v,t,h,rfl,rfl⟩:=key;exact h
end
theorem zzj{α:Type}{t:Nat}{f:α→List AV}(hl:∀x,(f x).length=esz)(hs:∀x,xZ (f x)=true)(he:1≤esz){L:List (Nat×Option AObj)}{m:Nat}{vs:List α}{w:α}{y:AV}(hr:vs≠[]→id<n∧xD L id=some (.row t (xA f vs) true false))(hw:WfA L n)(h1:uJ y=some 1)(h2:wS (KL L n m false [] none) esz 1 y=some (f w))(hb:2*(vs.length+1)*bytes≤281474976710656)(hn:vs.length+1<1000000000000):
  Cv (vC (KL L n m false [] none) t esz bytes (gSl esz id vs.length) y) fun v s=>∃L' m',v=gSl esz n (vs++[w]).length∧s=KL L' (n+1) m' false [] none∧xD L' n=some (.row t (xA f (vs++[w])) true false)∧WfA L' (n+1)∧(∀j,j<n→(vs≠[]→j≠id)→xD L' j=xD L j):=by
 have hfl:xA f [w]=f w:=qO w;cases vs with
 |nil=>
  refine⟨_,_,Hw (q:=0) h1 h2 (.inl rfl) he (by simp only[xd,yC]at hb;exact hb) oM,_,_,rfl,rfl,by rw[xr,if_pos rfl,ziZ,hfl],fun j hj=>?_,fun j hj _=>by rw[xr,if_neg oM]⟩
  rw[xr,if_neg oM];exact hw j oM
 | cons u us=>
  obtain⟨hid,g1⟩:=hr (by simp)
  simp only[zU]at hb hn;have hsw:xZ (f w)=true:=hs w;refine⟨_,_,Vd (q:=0) (by rw[x5];exact g1) (by rw[ql hl];rfl) h1 h2 hsw he hb oM,_,_,?_,rfl,by rw[xr,if_pos rfl,wj,hfl],fun j hj=>?_,fun j hj hne=>by rw[xr,if_neg oM,xr,if_neg (hne (by simp))]⟩
  ·simp only[zG,zU,yl,gSl]
   congr 1
  ·rw[xr,if_neg oM,xr];split
   ·rfl
   ·exact hw j oM
theorem StOk.oth{sp n2:Nat}{p:Prop}{L L2:List (Nat×Option AObj)}{S:Sto}(h:StOk sp L n S)(hw:WfA L2 n2)(hn:n≤n2)(ho:p→Own sp S id)(hf:∀j,j<n→(p→j≠id)→xD L2 j=xD L j):StOk sp L2 n2 S where
 wf:=hw
 row:=by rw[hf sp h.spn fun hp e=>(ho hp).sp e.symm];exact h.row
 go:=fun hne=>by
  obtain⟨q1,q2,q3⟩:=h.go hne;exact⟨q1,oM,by rw[hf _ q2 fun hp e=>(ho hp).o hne e.symm];exact q3⟩
 gy:=fun hne=>by
  obtain⟨q1,q2,q3⟩:=h.gy hne;exact⟨q1,oM,by rw[hf _ q2 fun hp e=>(ho hp).y hne e.symm];exact q3⟩
 sy:=fun y hy=>by
  have:=(h.sy y hy).mono (L2:=L2) (more:=[]) (fun _ hb=>hb) fun j hj=>hf j (h.bne hj).1 fun hp e=>(ho hp).b (e▸hj)
  rwa [ziJ]at this
 bl:=fun b hb=>by
  obtain⟨cs,hcs⟩:=h.bl b hb;exact⟨cs,by rw[hf b (h.bne hb).1 fun hp e=>(ho hp).b (e▸hb)];exact hcs⟩
theorem StTo.oth{sp n1 n2:Nat}{p:Prop}{L L1 L2:List (Nat×Option AObj)}{S S1:Sto}(h:StTo sp L n S L1 n1 S1)(hw:WfA L2 n2)(hn:n1≤n2)(ho:p→Own sp S1 id∧n≤id)(hf:∀j,j<n1→(p→j≠id)→xD L2 j=xD L1 j):StTo sp L n S L2 n2 S1 where
 ok:=h.ok.oth hw hn (fun hp=>(ho hp).1) hf
 le:=Nat.le_trans h.le hn
 fr:=fun j h1 h2 h3 h4=>by
  have:=h.le;rw[hf j oM fun hp=>by have:=(ho hp).2;omega];exact h.fr j h1 h2 h3 h4
 o:=h.o
 y:=h.y
 b:=h.b
def zzc(O:Orc)(d:DT):Prop:=∀(sp:Nat) (L:List (Nat×Option AObj)) (n:Nat) (S:Sto) (m:Nat),StOk sp L n S→S.obs.length+2*wn d<100000000→S.ys.length+2*wn d<100000000→Cv ((evW env O).call 118 [.ptr sp 0,.agg (wR d)] (KL L n m false [] none)) (ztz sp L n S (2*wn d))
theorem Pg(d:DT)(r:List DT):wW (d::r)=wn d+wW r:=by simp only[wW]
section
variable {O:Orc}
attribute [local go_sem] ltF gtF xI xH ziS ziW ziV ziQ xW ww wD xM in
theorem Gz(h65:O 76=none)(xs:List DT)(hx:∀x∈xs,zzc O x){sp:Nat}{L:List (Nat×Option AObj)}{S:Sto}(h:StOk sp L n S)(hN:S.obs.length+2*wW xs<100000000)(hY:S.ys.length+2*wW xs<100000000)(m:Nat):
  Cv ((evW env O).call 76 [.ptr sp 0,.lst xs.length false (xX xs)] (KL L n m false [] none)) fun v t=>∃id vs L2 n2 m2 S2,v=gSl 2 id vs.length∧vs.length=xs.length∧t=KL L2 n2 m2 false [] none∧StTo sp L n S L2 n2 S2∧S2.obs.length≤S.obs.length+2*wW xs∧S2.ys.length≤S.ys.length+2*wW xs∧(vs≠[]→n≤id∧id<n2∧Own sp S2 id∧xD L2 id=some (.row 143 (xA xM vs) true false)):=by
 refine xO (F:=f76) h65 rfl rfl (ziF rfl) ?_;have hxl:=jE xs;unfold f76 cF;simp only;refine xB ?_;refine xz (xz (xu ?_));refine xE ?_;refine xU (fun i:Nat=>xs.length-i) (fun i f t=>∃T L2 n2 m2 S2 id vs,f=⟨tmL T,[]⟩∧t=KL L2 n2 m2 false [] none∧(tmL T).get 0=some (.ptr sp 0)∧(tmL T).get 4=some (gSl 2 id vs.length)∧(tmL T).get 7=some (.lst xs.length false (xX xs))∧(tmL T).get 8=some (.int .i64 (.ofNat xs.length))∧(tmL T).get 9=some (.int .i64 (.ofNat i))∧i≤xs.length∧vs.length=i∧StTo sp L n S L2 n2 S2∧S2.obs.length+2*wW (xs.drop i)≤S.obs.length+2*wW xs∧S2.ys.length+2*wW (xs.drop i)≤S.ys.length+2*wW xs∧(vs≠[]→n≤id∧id<n2∧Own sp S2 id∧xD L2 id=some (.row 143 (xA xM vs) true false))) (fun i f t hI=>?_) 0 ⟨_,L,n,m,S,0,[],rfl,rfl,sW,by simp (disch:=first|exact dis|fail)only[go_sem,seval,-rO,-rN,gSl],sW,sW,sW,zK _,rfl,h.more h.wf (zo _) fun _ _=>rfl,zo _,zo _,fun hne=>absurd rfl hne⟩
 obtain⟨T,L2,n2,m2,S2,id,vs,rfl,rfl,t0,t4,t7,t8,t9,hi,rfl,k1,hb1,hb2,hg⟩:=hI;rcases xQ xs vs.length with ⟨hlt,hd⟩|⟨x,hlt,hd⟩
 ·have hni:¬vs.length<xs.length:=oM;rw[hd]at hb1 hb2;refine xu ?_;refine xu ?_;refine xF ?_;exact⟨id,vs,L2,n2,_,S2,rfl,oM,rfl,k1,by simp only[wW]at hb1;omega,by simp only[wW]at hb2;omega,hg⟩
 ·have hcx:=Gy hd;rw[←vg]at hcx;rw[hd]at hb1 hb2;rw[Pg]at hb1 hb2;have hxc:=hx x (zi2 (by rw[hd];exact zi9))
  obtain⟨xk,xn,xt,xks,xp⟩:=x;simp only[wo]at hcx;have hle:=k1.le;have k2:=(k1.ok.new (some (.row 120 [.int .i64 (.ofNat 0),.int .i64 (.ofNat 0),.str [],.nils,.int .i64 (.ofNat 0)] false false)));have k3:StTo sp L2 n2 S2 ((n2,some (.row 120 [.int .i64 xk,.int .i64 xn,.str xt,.lst xks.length false (xX xks),.int .i64 xp] false false))::(n2,some (.row 120 [.int .i64 (.ofNat 0),.int .i64 (.ofNat 0),.str [],.nils,.int .i64 (.ofNat 0)] false false))::L2) (n2+1) S2:=k2.put2 (zo _) (zV _) (k1.ok.fresh (zo _)) _;have hcall:=fun m=>hxc sp _ (n2+1) S2 m k3.ok oM oM;simp only[wo]at hcall;refine xB ?_;refine xz (x4 sW ?_);refine xu ?_;refine xz (xE ?_);refine xB ?_;refine xK ?_;refine xC (hcall _) fun v t hv=>?_;obtain⟨w,L4,n4,m4,S4,rfl,rfl,k4,hc1,hc2⟩:=hv;have k5:=(k1.trans k3).trans k4;have k6:=k5.new (some (.row 143 (xM w) false false));have hle3:=k3.le;have hle4:=k4.le;clear hcall hxc;have hid:vs≠[]→n≤id∧id<n4∧Own sp S4 id∧xD ((n4,some (AObj.row 143 (xM w) false false))::L4) id=some (.row 143 (xA xM vs) true false):=fun hne=>by
   obtain⟨q1,q2,q3,q4⟩:=hg hne;refine⟨q1,oM,q3.to oM k4,?_⟩;rw[xr,if_neg oM,q3.same oM k4,q3.same q2 k3];exact q4
  have hsrc:∀m,wS (KL ((n4,some (AObj.row 143 (xM w) false false))::L4) (n4+1) m false [] none) 2 1 (.sl n4 0 1 (.fix 1))=some (xM w):=fun m=>(jH (j:=0) (by rw[x5,xG]) rfl).2
  refine xK ?_;refine xC (zzj (f:=xM) (id:=id) (vs:=vs) (w:=w) jw pR oM (fun hne=>⟨by have:=(hid hne).2.1;omega,(hid hne).2.2.2⟩) k6.ok.wf rfl (hsrc _) oM oM) fun v t hv=>?_
  obtain⟨L7,m7,rfl,rfl,g7,hw7,hf7⟩:=hv;have k7:StTo sp L n S L7 (n4+1+1) S4:=k6.oth (p:=vs≠[]) (id:=id) hw7 (zhi _) (fun hp=>⟨(hid hp).2.2.1,(hid hp).1⟩) hf7;have ho7:Own sp S4 (n4+1):=k6.ok.fresh (zo _);have hcat:=jN vs w;clear hid hg k6 k5 k4 k3 k2 k1 hf7;refine xu ?_;refine xu ?_;exact⟨vs.length+1,⟨_,L7,n4+1+1,_,S4,n4+1,vs++[w],rfl,rfl,sV,sV,sV,sV,sV,oM,hcat,k7,oM,oM,fun _=>⟨oM,oM,ho7,g7⟩⟩,oM⟩
end
theorem H7{l dd:Nat}{ps:List Nat}{asg body:ICode}{tm2:Trie AV}{L:List (Nat×Option AObj)}{m:Nat}{b:Bool}{vs:List AV}{R:AV→St→Prop}(hg:xD L l=some (.loop .ready none tm ps asg body dd))(hp:gS tm ps vs=some tm2)
  (hA:Ev (evC env (evW env O) (some l) asg ⟨tm2,[]⟩ (KL L n m b [] none)) fun r fr s=>r=.norm∧∃L2 n2 m2,s=KL L2 n2 m2 b [] none∧xD L2 l=some (.loop .ready none tm ps asg body dd)∧Ev (evC env (evW env O) (some l) body fr (KL ((l,some (.loop .busy none tm ps asg body dd))::L2) n2 (uG m2 l) b [] none)) fun r fr s=>r=.norm∧∃L3 n3 m3 st pd,s=KL L3 n3 m3 b [] none∧xD L3 l=some (.loop st pd tm ps asg body dd)∧R (.bool true) (KL ((l,some (.loop .ready none tm ps asg body dd))::L3) n3 (uG m3 l) b [] none)):
  Cv ((evW env O).round l vs (KL L n m b [] none)) R:=by
 obtain⟨r,fr,s,e1,rfl,L2,n2,m2,rfl,g2,r2,fr2,s2,e2,rfl,L3,n3,m3,st,pd,rfl,g3,hr⟩:=hA;rw[kw,KU,x5,hg,KS,hp,KT,e1,Zn,x5,g2,KR,uX,e2,Ya,x5,g3,Px,uX];exact⟨_,_,rfl,hr⟩
def Qu:List Nat×ICode×ICode:=match f154.body with
 |.seq _ (.seq (.seq _ (.block _ (.rf _ ps a b))) _)=>(ps,a,b)
 |_=>([],.skip,.skip)
def obL(id:Nat):Ob:=⟨[.int .i64 (.ofNat 0),.int .i64 (.ofNat 0),.sl id 0 2 (.fix 2),.bool false,.nils],rfl,rfl⟩
section
variable {O:Orc}
attribute [local go_sem] wD in
theorem zos(h:O 184=none){k:Nat}{L:List (Nat×Option AObj)}{m:Nat}(b:Bool):
  Cv ((evW env O).call 184 [gSl 2 id k] (KL L n m b [] none)) fun v t=>∃m2,v=.fn 204 [] [.ptr n 0]∧t=KL ((n,some (.row 115 [gSl 2 id k] false false))::L) (n+1) m2 b [] none:=by
 refine xO (F:=f184) h rfl rfl (ziF rfl) ?_;unfold f184 cF;simp only;refine xB ?_;refine xB ?_;refine xu ?_;refine xF ?_;exact⟨_,rfl,rfl⟩
structure LsB(sp:Nat)(L:List (Nat×Option AObj))(n:Nat)(S:Sto)(nb b3 b5 l id k:Nat)(vs:List Vl)(tF:List (Nat×AV))(dd:Nat)(w:Vl):Prop where
 gnb:xD L nb=some (.row 115 [gSl 2 id k] false false)
 g3:xD L b3=some (.row 83 [.ptr sp 0] false false)
 g5:xD L b5=some (.row 143 (xM w) false false)
 gl:xD L l=some (.loop .ready none (tmL tF) Qu.1 Qu.2.1 Qu.2.2 dd)
 gid:vs≠[]→xD L id=some (.row 143 (xA xM vs) true false)
 nnb:nb<n
 n3:b3<n
 n5:b5<n
 nl:l<n
 nid:vs≠[]→id<n
 onb:Own sp S nb
 o3:Own sp S b3
 o5:Own sp S b5
 ol:Own sp S l
 oid:vs≠[]→Own sp S id
theorem LsB.to{sp n2 nb b3 b5 l k dd:Nat}{L L2:List (Nat×Option AObj)}{S S2:Sto}{vs:List Vl}{tF:List (Nat×AV)}{w:Vl}(h:LsB sp L n S nb b3 b5 l id k vs tF dd w)(g:StTo sp L n S L2 n2 S2):LsB sp L2 n2 S2 nb b3 b5 l id k vs tF dd w where
 gnb:=by rw[h.onb.same h.nnb g];exact h.gnb
 g3:=by rw[h.o3.same h.n3 g];exact h.g3
 g5:=by rw[h.o5.same h.n5 g];exact h.g5
 gl:=by rw[h.ol.same h.nl g];exact h.gl
 gid:=fun hne=>by rw[(h.oid hne).same (h.nid hne) g];exact h.gid hne
 nnb:=zk h.nnb g.le
 n3:=zk h.n3 g.le
 n5:=zk h.n5 g.le
 nl:=zk h.nl g.le
 nid:=fun hne=>zk (h.nid hne) g.le
 onb:=h.onb.to h.nnb g
 o3:=h.o3.to h.n3 g
 o5:=h.o5.to h.n5 g
 ol:=h.ol.to h.nl g
 oid:=fun hne=>(h.oid hne).to (h.nid hne) g
end
section
variable {O:Orc}
attribute [-go_sem] kw in
attribute [local go_sem] ltF gtF xI xH ziS ziW ziV ziQ xW ww wD xM in
theorem ztK(h166:O 204=none)(h112:O 150=none){sp n0 nb b3 b5 l dd:Nat}{L0 L:List (Nat×Option AObj)}{S0 S:Sto}{vs:List Vl}{tF:List (Nat×AV)}{w:Vl}(hk:StTo sp L0 n0 S0 L n S)(hB:LsB sp L n S nb b3 b5 l id vs.length vs tF dd w)(t3:(tmL tF).get 3=some (.ptr b3 0))(t5:(tmL tF).get 5=some (.ptr b5 0))(h5:n0≤b5)(hl:n0≤l)(hN:S.obs.length+vs.length<100000000)(m:Nat)(b:Bool):
  Cv ((evW env O).call 204 [.yld l,.ptr nb 0] (KL L n m b [] none)) fun v t=>∃L2 n2 m2 S2 w2,t=KL L2 n2 m2 b [] none∧StTo sp L0 n0 S0 L2 n2 S2∧LsB sp L2 n2 S2 nb b3 b5 l id vs.length vs tF dd w2∧S2.obs.length≤S.obs.length+vs.length∧S2.ys.length=S.ys.length∧(∀j,j<n→j≠b5→j≠l→Own sp S j→j<n2∧xD L2 j=xD L j∧Own sp S2 j):=by
 refine xO (F:=f204) h166 rfl rfl (ziF rfl) ?_;have hs3:=Wu (k:=vs.length) oM;have gnb:=hB.gnb;unfold f204 cF;simp only;refine xB ?_;refine xE ?_;refine xU (fun k:Nat=>k) (fun k fr s=>∃T L2 n2 m2 S2 w2,fr=⟨tmL T,[]⟩∧s=KL L2 n2 m2 false [] none∧(tmL T).get 0=some (.yld l)∧(tmL T).get 1=some (.ptr nb 0)∧(tmL T).get 3=some (.int .i64 (i3 k))∧k≤vs.length∧StTo sp L0 n0 S0 L2 n2 S2∧LsB sp L2 n2 S2 nb b3 b5 l id vs.length vs tF dd w2∧S2.obs.length+k≤S.obs.length+vs.length∧S2.ys.length=S.ys.length∧(∀j,j<n→j≠b5→j≠l→Own sp S j→j<n2∧xD L2 j=xD L j∧Own sp S2 j)) (fun k2 fr s hI=>?_) vs.length ⟨_,L,n,m,S,w,rfl,rfl,sW,sW,sW,zo _,hk,hB,zo _,rfl,fun j h1 _ _ h2=>⟨h1,rfl,h2⟩⟩;clear hs3 gnb hB hk;obtain⟨T,L2,n2,m2,S2,w2,rfl,rfl,q0,q1,q3,hk3,hk,hB,hb1,hb2,hF⟩:=hI;cases k2 with
 |zero=>
  simp only[i3]at q3;refine xu ?_;refine xF ?_;exact⟨L2,n2,m2,S2,w2,rfl,hk,hB,oM,hb2,hF⟩
 | succ k2=>
  have hlt:k2<vs.length:=oM;have hia:= @X1 2 id vs.length k2 hlt;obtain⟨x,hd⟩:∃x,vs.drop k2=x::vs.drop (k2+1):=⟨_,ziX hlt⟩;have hcx:=Gx hd;have hne:vs≠[]:=fun e=>by rw[e]at hlt;simp at hlt
  have gid:=hB.gid hne;have gnb:=hB.gnb;have hs2:=Wu (k:=k2) oM;simp only[i3]at q3;obtain⟨x1,x2⟩:=x;simp only[xM]at hcx;clear hd;refine xB ?_;refine xz (xE ?_);refine xz ?_;refine xK ?_;have hround:∀m,Cv ((evW env O).round l [.int .i64 (.ofNat k2),.agg [.int .i64 x1,.int .i64 x2]] (KL L2 n2 m false [] none)) fun v t=>v=.bool true∧∃L3 n3 m3 S3 w3,t=KL L3 n3 m3 false [] none∧StTo sp L0 n0 S0 L3 n3 S3∧LsB sp L3 n3 S3 nb b3 b5 l id vs.length vs tF dd w3∧S3.obs.length≤S2.obs.length+1∧S3.ys.length=S2.ys.length∧(∀j,j<n2→j≠b5→j≠l→Own sp S2 j→j<n3∧xD L3 j=xD L2 j∧Own sp S3 j):=fun m=>by
   refine H7 hB.gl rfl ?_;have gl:=hB.gl;have g3:=hB.g3;have g5:=hB.g5;have nl:=hB.nl;have n3:=hB.n3;have n5:=hB.n5;have hle:=hk.le;have e1:b5≠l:=fun e=>by rw[e,gl]at g5;cases g5
   have e2:b3≠l:=fun e=>by rw[e,gl]at g3;cases g3
   have e3:b3≠b5:=fun e=>by rw[e,g5]at g3;simp at g3
   have c0:=hk.ok.new (some (.row 143 [.int .i64 (.ofNat 0),.int .i64 (.ofNat 0)] false false));have c1:=c0.put2 (j:=n2) (zo _) (zV _) (hk.ok.fresh (zo _)) (some (.row 143 [.int .i64 x1,.int .i64 x2] false false));have hB1:=hB.to c1;have k1:=hk.trans c1;have k2':=k1.put2 (j:=l) hl oM hB1.ol (some (.loop .busy none (tmL tF) Qu.1 Qu.2.1 Qu.2.2 dd));simp only[Qu,f154]at gl k2'⊢;refine xu ?_;refine⟨trivial,_,_,_,rfl,sV,?_⟩;refine xE ?_;have k4:=k2'.new (some (.row 143 [.int .i64 x1,.int .i64 x2,.int .i64 w2.k,.int .i64 w2.n] false false));have ha1:∀m,Cv ((evW env O).call 150 [.ptr sp 0,.agg [.int .i64 (.ofNat 0),.int .i64 (.ofNat 0),.sl (n2+1) 0 2 (.fix 2),.bool false,.nils]] (KL _ (n2+1+1) m false [] none)) fun v t=>∃L3 n3 m3 oid3,v=.agg (xM ⟨.ofNat 7,.ofNat S2.obs.length⟩)∧t=KL L3 n3 m3 false [] none∧StTo sp _ (n2+1+1) S2 L3 n3 {S2 with obs:=S2.obs++[obL (n2+1)],oid:=oid3}:=fun m=>Ye h112 k4.ok oM (obL (n2+1)) m
   refine xK ?_;refine xC (ha1 _) fun v t hv=>?_;obtain⟨L3,n3',m3,oid3,rfl,rfl,k5⟩:=hv;have hle5:=k5.le;have hsame:∀j,j<n2→Own sp S2 j→j≠l→xD L3 j=xD L2 j:=fun j hj ho hjl=>by
    rw[ho.same oM k5]
    repeat rw[xr,if_neg oM]
   have gl3:=hB.ol.same oM k5;have g53:=(hsame b5 n5 hB.o5 e1).trans g5;have onb:=(hB.onb.to (by have:=hB.nnb;omega) k5)
   have o3:=(hB.o3.to oM k5);have o5:=(hB.o5.to oM k5);have ol:=(hB.ol.to oM k5);have oid':=fun hne=>((hB.oid hne).to (by have:=hB.nid hne;omega) k5)
   have gnb3:=(hsame nb hB.nnb hB.onb (fun e=>by rw[e,gl]at gnb;cases gnb)).trans gnb
   have g33:=(hsame b3 n3 hB.o3 e2).trans g3;have gid3:=(hsame id (hB.nid hne) (hB.oid hne) (fun e=>by rw[e,gl]at gid;cases gid)).trans gid
   have k6:=((k4.trans k5).put2 h5 oM o5 (some (.row 143 (xM ⟨.ofNat 7,.ofNat S2.obs.length⟩) false false))).put2 hl oM ol (some (.loop .ready none (tmL tF) Qu.1 Qu.2.1 Qu.2.2 dd));simp only[Qu,f154]at k6;rw[xr,if_neg (show ¬l=n2+1 by omega),xG]at gl3
   have hfin:∀j,j<n2→j≠b5→j≠l→Own sp S2 j→j<n3'∧xD L3 j=xD L2 j∧Own sp {S2 with obs:=S2.obs++[obL (n2+1)],oid:=oid3} j:=fun j h1 h2 h3 h4=>⟨oM,hsame j h1 h4 h3,h4.to oM k5⟩
   clear ha1 k4 k2' hsame;simp only[xM]at g53;refine xu ?_;refine⟨trivial,_,_,_,_,_,rfl,(xr _ _ _ _).trans ((if_neg e1.symm).trans gl3),trivial,_,_,_,{S2 with obs:=S2.obs++[obL (n2+1)],oid:=oid3},⟨.ofNat 7,.ofNat S2.obs.length⟩,rfl,k6,?_,by simp only[jN];omega,rfl,fun j h1 h2 h3 h4=>(by
    obtain⟨p1,p2,p3⟩:=hfin j h1 h2 h3 h4;exact⟨p1,by rw[xr,if_neg h3,xr,if_neg h2];exact p2,p3⟩)⟩
   have nnb:=hB.nnb;have f1:nb≠l:=fun e=>by rw[e,gl]at gnb;cases gnb
   have f2:nb≠b5:=fun e=>by rw[e,g5]at gnb;simp at gnb
   have f3:id≠l:=fun e=>by rw[e,gl]at gid;cases gid
   have f4:id≠b5:=fun e=>by rw[e,g5]at gid;simp at gid
   refine⟨?_,?_,?_,xG _ _ _,fun _=>?_,oM,oM,oM,oM,fun h=>by have:=hB.nid h;omega,onb,o3,o5,ol,oid'⟩
   ·rw[xr,if_neg f1,xr,if_neg f2];exact gnb3
   ·rw[xr,if_neg e2,xr,if_neg e3];exact g33
   ·rw[xr,if_neg e1,xG];rfl
   ·rw[xr,if_neg f3,xr,if_neg f4];exact gid3
  refine xC (hround _) fun v t hv=>?_;obtain⟨rfl,L3,n3,m3,S3,w3,rfl,k3,hB3,hc1,hc2,hG⟩:=hv;have hF3:=fun j h1 h2 h3 h4=>(hF j h1 h2 h3 h4);clear hround gnb gid hF;refine xu ?_;refine xu ?_;refine xu ?_;exact⟨k2,⟨_,L3,n3,_,S3,w3,rfl,rfl,sV,sV,sV,oM,k3,hB3,oM,oM,fun j h1 h2 h3 h4=>(by
   obtain⟨p1,p2,p3⟩:=hF3 j h1 h2 h3 h4;obtain⟨p4,p5,p6⟩:=hG j p1 h2 h3 p3;exact⟨p4,p5.trans p2,p6⟩)⟩,oM⟩
end
section
variable {O:Orc}
attribute [local go_sem] ltF gtF xI xH ziS ziW ziV ziQ xW ww wD xM in
theorem znY(h116:O 154=none)(h146:O 184=none)(h166:O 204=none)(h112:O 150=none){sp:Nat}{L:List (Nat×Option AObj)}{S:Sto}(h:StOk sp L n S){vs:List Vl}(hv:vs≠[]→id<n∧Own sp S id∧xD L id=some (.row 143 (xA xM vs) true false))(w:Vl)(hN:S.obs.length+vs.length<100000000)(m:Nat):
  Cv ((evW env O).call 154 [.ptr sp 0,gSl 2 id vs.length,.agg (xM w)] (KL L n m false [] none)) (ztz sp L n S vs.length):=by
 refine xO (F:=f154) h116 rfl rfl (ziF rfl) ?_;have hw:=h.wf;have hsp:=h.spn;unfold f154 cF;simp only;refine xB ?_;refine xz (xz (xK ?_));refine xC (zos h146 false) fun v t hv2=>?_;obtain⟨m2,rfl,rfl⟩:=hv2;refine xu ?_;refine xE ?_;refine xK ?_;refine zrd (ztK h166 h112 (L0:=L) (n0:=n) (S0:=S) (S:=S) (b3:=n) (b5:=n+1) (id:=id) (vs:=vs) (w:=w) (h.more ?_ oM fun j hj=>?_) ⟨?_,?_,?_,xG _ _ _,fun hne=>?_,oM,oM,oM,oM,fun hne=>?_,h.fresh oM,h.fresh oM,h.fresh oM,h.fresh oM,fun hne=>(hv hne).2.1⟩ ?_ ?_ oM oM hN _ false) fun v t hr=>?_
 ·(repeat first|exact hw.up oM|refine WfA.same ?_ oM)
 ·(repeat rw[xr,if_neg oM])
 ·simp (disch:=first|exact dis|fail)only[go_sem,seval,-rO,-rN]
 ·simp (disch:=first|exact dis|fail)only[go_sem,seval,-rO,-rN]
 ·simp (disch:=first|exact dis|fail)only[go_sem,seval,-rO,-rN]
 ·have:=(hv hne).1
  (repeat rw[xr,if_neg oM])
  exact(hv hne).2.2
 ·have:=(hv hne).1;omega
 ·simp (disch:=first|exact dis|fail)only[go_sem,seval,-rO,-rN]
 ·simp (disch:=first|exact dis|fail)only[go_sem,seval,-rO,-rN]
 obtain⟨L2,n2,m3,S2,w2,rfl,k1,hB,hb1,hb2,hF⟩:=hr;have gl:=hB.gl;obtain⟨z1,gd,od⟩:=hF (n+1+1+1+1) oM oM oM (h.fresh oM);obtain⟨z2,g6,o6⟩:=hF (n+1+1) oM oM oM (h.fresh oM);have g5:=hB.g5;have ol:=hB.ol;have nl:=hB.nl;simp (disch:=first|exact dis|fail)only[go_sem,seval,-rO,-rN]at gd
 simp (disch:=first|exact dis|fail)only[go_sem,seval,-rO,-rN]at g6
 simp only[Qu,f154]at gl;simp only[xM]at g5;clear hF hB hv;refine xu ?_;refine xB ?_;refine wM (r:=.ret) ?_;show Cv _ _;rw[uv (by (repeat rw[xr,if_neg oM]);exact gd)]
 refine xF ?_;exact⟨w2,_,n2,_,S2,rfl,rfl,((k1.put2 oM oM ol _).put2 oM oM o6 _).put2 oM oM od _,hb1,oM⟩
end
theorem Km:∀(N:Nat) (d:DT),wn d<N→vY d=true→TxD d→(∀x∈(wV d).1,vY x=true∧TxD x)∧vY (wV d).2=true∧TxD (wV d).2
 |0,_,h,_,_=>by omega
 | N+1,d,h,hm,ht=>by
  cases hk:qt d with
  |none=>rw[gL hk];exact⟨by simp,hm,ht⟩
  |some p=>
   obtain⟨x,y⟩:=p;have hn:=uk hk;rw[We hk,zl]at hm;have htk:=ht.kids hk;have hpx:=vd x;obtain⟨h1,h2,h3⟩:=Km N y oM hm.2 htk.2;rw[jY hk];refine⟨fun z hz=>?_,h2,h3⟩;rcases List.mem_cons.1 hz with rfl|hz
   ·exact⟨hm.1,htk.1⟩
   ·exact h1 z hz
theorem Kn:∀(N:Nat) (d:DT),wn d<N→wW (wV d).1+wn (wV d).2+(wV d).1.length≤wn d
 |0,_,h=>by omega
 | N+1,d,h=>by
  cases hk:qt d with
  |none=>rw[gL hk];simp[wW]
  |some p=>
   obtain⟨x,y⟩:=p;have hn:=uk hk;have hpx:=vd x;have h1:=Kn N y oM;rw[jY hk];simp only[wW,zU];omega
theorem zqb{kd dn:Int}{dt:List Nat}{dk:List DT}{dp:Int}(h:vY (.mk kd dn dt dk dp)=true)(h6:kd≠.ofNat 6)(h7:kd≠.ofNat 7):Jz kd dn dt=true:=by
 have hk:qt (.mk kd dn dt dk dp)=none:=by
  cases hk:qt (.mk kd dn dt dk dp)with
  |none=>rfl
  |some p=>exact absurd (vE (x:=p.1) (y:=p.2) hk).1 h6
 rw[ZO hk,if_neg h7,zl]at h;exact h.2
theorem zqS(h:O 148=some zrA){t:List Nat}(hb:Byt t)(hl:t.length<2000000)(hn:YB t=true)(s:St):(evW env O).call 148 [.str t] s=some (zyG t,s):=by
 rw[wx h,zrA,qH Y5 s t ⟨⟨hb,hl⟩,hn⟩ rfl]
def obK(k:Int)(x:AV)(hx:q8 x=true):Ob:=⟨[.int .i64 k,.int .i64 (.ofNat 0),x,.bool false,.nils],rfl,by simp only[u5,li,lC,ZT,hx];rfl⟩
structure VOrc(P:Program)(w0:World)(O:Orc):Prop where
 h65:O 76=none
 h86:O 118=none
 h111:O 149=none
 h112:O 150=none
 h114:O 152=none
 h116:O 154=none
 h117:O 155=none
 h144:O 182=none
 h165:O 203=none
 h143:O 181=none
 h146:O 184=none
 h166:O 204=none
 h145:O 183=some QL
 h110:O 148=some zrA
 h113:O 151=some Ui
 h115:O 153=some zry
 h142:O 180=some (Z0 P w0 180 vJ lh GSm)
 hfx:lg P w0 180 vJ lh GSm
section
variable {P:Program}{w0:World}{O:Orc}
attribute [local go_sem] ltF gtF xI xH ziS ziW ziV ziQ xW ww wD xM in
theorem zsp(H:VOrc P w0 O)(hm:vY d=true)(ht:TxD d)(hn:wn d≤1100000)(ih:∀x,wn x<wn d→vY x=true→TxD x→zzc O x):zzc O d:=by
 intro sp L n S m h hN hY;refine xO (F:=f118) H.h86 rfl rfl (ziF rfl) ?_;have hw:=h.wf;have hsp:=h.spn;obtain⟨kd,dn,dt,dk,dp⟩:=d;have k0:∀a b:Option AObj,StTo sp L n S ((n+1,a)::(n,b)::L) (n+1+1) S:=fun a b=>(h.new b).new a;have ho1:Own sp S (n+1):=h.fresh oM;have hpos:=vd (.mk kd dn dt dk dp);have hsim:∀(w:Vl) (a b c:Option AObj) (m2:Nat),ztz sp L n S (2*wn (.mk kd dn dt dk dp)) (.agg (xM w)) (KL ((n+1,a)::(n+1,b)::(n,c)::L) (n+1+1) m2 false [] none):=fun w a b c m2=>⟨w,_,_,_,S,rfl,rfl,(k0 b c).put2 oM oM ho1 a,oM,oM⟩;simp only[wo];unfold f118 cF;simp only;by_cases e1:kd=.ofNat 1
 ·subst e1;clear k0;refine xB ?_;refine xB ?_;refine xF ?_;exact hsim ⟨.ofNat 3,dn⟩ _ _ _ _
 have n1:=qj e1;by_cases e3:kd=.ofNat 3
 ·subst e3;clear k0;refine xB ?_;refine xB ?_;refine xF ?_;exact hsim ⟨.ofNat 2,dn⟩ _ _ _ _
 have n3:=qj e3;by_cases e9:kd=.ofNat 9
 ·subst e9;clear k0;refine xB ?_;refine xB ?_;refine xF ?_;exact hsim ⟨.ofNat 5,.ofNat 0⟩ _ _ _ _
 have n9:=qj e9;by_cases e10:kd=.ofNat 10
 ·subst e10;have hno:=fun L n m=>zn4 H.h117 L n m;simp only[xM]at hno;clear k0;refine xB ?_;refine xB ?_;refine xF ?_;exact hsim ⟨.ofNat 6,.ofNat 0⟩ _ _ _ _
 have n10:=qj e10;simp only[TxD]at ht;have hfin:∀{L1:List (Nat×Option AObj)} {L2:List (Nat×Option AObj)} {n2 m2:Nat} {S2:Sto} (w:Vl),StTo sp L n S L1 (n+1+1) S→StTo sp L1 (n+1+1) S L2 n2 S2→S2.obs.length≤S.obs.length+2*wn (.mk kd dn dt dk dp)→S2.ys.length≤S.ys.length+2*wn (.mk kd dn dt dk dp)→ztz sp L n S (2*wn (.mk kd dn dt dk dp)) (.agg (xM w)) (KL ((n+1,some (.row 143 (xM w) false false))::L2) n2 m2 false [] none):=fun w ka kb h1 h2=>⟨w,_,_,_,_,rfl,rfl,(ka.trans kb).put2 oM (by have:=kb.le;omega) (ho1.to oM kb) _,h1,h2⟩
 by_cases e2:kd=.ofNat 2
 ·subst e2;have hnum:YB dt=true:=zqb hm (by decide) (by decide)
  have hpc:=fun s=>zqS H.h110 ht.1 ht.2.1 hnum s;simp only[zyG,vw,qP]at hpc;have hll:(vq (Wo (trL kA dt) [])).length<100000000:=by
   have a1:=Wy (Wo (trL kA dt) []);have a2:=Pt (trL kA dt) [];have a3:=zwA kA dt;simp only[xd]at a2;omega
  generalize vq (Wo (trL kA dt) [])=l at *;generalize Qm (ngF dt) _=g at *;have hcp:xN (xA qd l)=true:=wz vG l;refine xB ?_;refine xz ?_;refine xB ?_;refine xE ?_;refine xB ?_;refine x7 sW ?_;refine xB ?_;refine x4 sW ?_;refine xB ?_;refine xz (xK ?_);have k1:=fun a b c:Option AObj=>(k0 a b).new c;refine xC (zug H.h111 H.h112 H.h142 H.hfx ((k1 _ _ _).put2 (j:=n+1+1) oM oM (h.fresh oM) _).ok oM hll _) fun v t hv=>?_;obtain⟨w,L2,n2,m2,S2,rfl,rfl,k2,hc1,hc2⟩:=hv;have hle:=k2.le;have g4:=(ho1.same oM k2);simp (disch:=first|exact dis|fail)only[go_sem,seval,-rO,-rN]at g4
  have k3:=(((k1 _ _ _).put2 (j:=n+1+1) oM oM (h.fresh oM) _).trans k2).put2 (j:=n+1) oM oM (ho1.to oM k2) (some (.row 143 (xM w) false false));clear k0 k1 hfin k2 hpc;refine xu ?_;refine xu ?_;refine xF ?_;exact⟨w,_,n2,_,S2,rfl,rfl,k3,oM,oM⟩
 have n2:=qj e2;by_cases e4:kd=.ofNat 4
 ·subst e4;have hch:=fun s=>VD H.h113 ⟨ht.1,ht.2.1⟩ s;simp only[q9]at hch;have ha1:∀m a b,Cv ((evW env O).call 150 [.ptr sp 0,.agg [.int .i64 (.ofNat 4),.int .i64 (.ofNat 0),.lst (jd dt).length false (xA xM (jd dt)),.bool false,.nils]] (KL ((n+1,a)::(n,b)::L) (n+1+1) m false [] none)) fun v t=>∃L2 n2 m2 oid2,v=.agg (xM ⟨.ofNat 7,.ofNat S.obs.length⟩)∧t=KL L2 n2 m2 false [] none∧StTo sp _ (n+1+1) S L2 n2 {S with obs:=S.obs++[obS (jd dt)],oid:=oid2}:=fun m a b=>Ye H.h112 (k0 a b).ok oM (obS (jd dt)) m
  have hcp:=XZ (jd dt);generalize xA xM (jd dt)=cs at *;refine xB ?_;refine xz ?_;refine xB ?_;refine xE ?_;refine xB ?_;refine x7 sW ?_;refine xB ?_;refine x7 sW ?_;refine xB ?_;refine x7 sW ?_;refine xB ?_;refine x4 sW ?_;refine xz (xK ?_);refine xC (ha1 _ _ _) fun v t hv=>?_;obtain⟨L2,n2,m2,oid2,rfl,rfl,k2⟩:=hv;have g4:=(ho1.same oM k2);simp (disch:=first|exact dis|fail)only[go_sem,seval,-rO,-rN]at g4
  have hf:=fun m=>hfin (m2:=m) ⟨.ofNat 7,.ofNat S.obs.length⟩ (k0 _ _) k2 (by simp only[jN];omega) (by simp only;omega)
  clear k0 hfin k2 hch ha1;simp only[xM]at hf;refine xu ?_;refine xu ?_;refine xF ?_;exact hf _
 have n4:=qj e4;by_cases e5:kd=.ofNat 5
 ·subst e5;have hch:=fun s=>VD H.h113 ⟨ht.1,ht.2.1⟩ s;have hcl:=zzH dt;refine xB ?_;refine xz ?_;refine xB ?_;refine xE ?_;refine xB ?_;refine x7 sW ?_;refine xB ?_;refine x7 sW ?_;refine xB ?_;refine x7 sW ?_;refine xB ?_;refine x7 sW ?_;refine xB ?_;refine x4 sW ?_;refine xz (xK ?_);refine xC (zuZ H.h114 H.h112 H.h145 H.h143 H.h144 H.h165 (k0 _ _).ok oM oM (l:=jd dt) oM _) fun v t hv=>?_;obtain⟨w,L2,n2,m2,S2,rfl,rfl,k2,hc1,hc2⟩:=hv;have g4:=(ho1.same oM k2);simp (disch:=first|exact dis|fail)only[go_sem,seval,-rO,-rN]at g4
  have hf:=fun m=>hfin (m2:=m) w (k0 _ _) k2 oM oM;clear k0 hfin k2 hch;simp only[xM]at hf;refine xu ?_;refine xu ?_;refine xF ?_;exact hf _
 have n5:=qj e5;by_cases e8:kd=.ofNat 8
 ·subst e8;refine xB ?_;refine xz ?_;refine xB ?_;refine xE ?_;refine xB ?_;refine x7 sW ?_;refine xB ?_;refine x7 sW ?_;refine xB ?_;refine x7 sW ?_;refine xB ?_;refine x7 sW ?_;refine xB ?_;refine x7 sW ?_;refine xB ?_;refine x4 sW ?_;have hlen:=ht.2.1;have hbyt:=ht.1;have hcs:∀l n m,Qw (KL l n m false [] none) 5 (.str dt)=some (.sl n 0 dt.length (.opn 1),KL ((n,some (.row 5 (x9 dt) true false))::l) (n+1) m false [] none):=fun l n m=>by
   simp only[Qw,wE,wi.2 (show dt.length<9223372036854775808 by omega),cond_true,WE,cond_false]
   rfl
  refine xB ?_;refine xz (xz (xu ?_));refine xE ?_;have k1:=fun a b c:Option AObj=>((k0 a b).new c);refine xU (fun i:Nat=>dt.length-i) (fun i f t=>∃T L2 n2 m2 id vs,f=⟨tmL T,[]⟩∧t=KL L2 n2 m2 false [] none∧(tmL T).get 0=some (.ptr sp 0)∧(tmL T).get 4=some (.ptr (n+1) 0)∧(tmL T).get 7=some (gSl 2 id vs.length)∧(tmL T).get 55=some (.sl (n+1+1) 0 dt.length (.opn 1))∧(tmL T).get 56=some (.int .i64 (.ofNat dt.length))∧(tmL T).get 57=some (.int .i64 (.ofNat i))∧i≤dt.length∧vs.length=i∧StTo sp L n S L2 n2 S∧n+1+1+1≤n2∧xD L2 (n+1)=some (.row 143 [.int .i64 (.ofNat 0),.int .i64 (.ofNat 0)] false false)∧xD L2 (n+1+1)=some (.row 5 (x9 dt) true false)∧(vs≠[]→n+1+1+1≤id∧id<n2∧xD L2 id=some (.row 143 (xA xM vs) true false))) (fun i f t hI=>?_) 0 ⟨_,_,_,_,0,[],rfl,rfl,sW,sW,by simp (disch:=first|exact dis|fail)only[go_sem,seval,-rO,-rN,gSl],sW,sW,sW,zK _,rfl,k1 _ _ _,zo _,sW,sW,fun hne=>absurd rfl hne⟩
  obtain⟨T,L2,n2',m2,id,vs,rfl,rfl,t0,t4,t7,t55,t56,t57,hi,rfl,k2,hle2,g4,g5,hg⟩:=hI;rcases xQ dt vs.length with ⟨hlt,hd⟩|⟨x,hlt,hd⟩
  ·have hni:¬vs.length<dt.length:=oM;have hsc:=jj 2 id vs.length;have hcc:=wD 2 id vs.length;have ha1:∀m,Cv ((evW env O).call 150 [.ptr sp 0,.agg [.int .i64 (.ofNat 6),.int .i64 (.ofNat 0),gSl 2 id vs.length,.bool false,.nils]] (KL L2 n2' m false [] none)) fun v t=>∃L3 n3 m3 oid3,v=.agg (xM ⟨.ofNat 7,.ofNat S.obs.length⟩)∧t=KL L3 n3 m3 false [] none∧StTo sp _ n2' S L3 n3 {S with obs:=S.obs++[obK (.ofNat 6) (gSl 2 id vs.length) hsc],oid:=oid3}:=fun m=>Ye H.h112 k2.ok oM (obK (.ofNat 6) (gSl 2 id vs.length) hsc) m
   generalize gSl 2 id vs.length=sv at *;clear hg;refine xu ?_;refine xz (xK ?_);refine xC (ha1 _) fun v t hv=>?_;obtain⟨L3,n3',m3,oid3,rfl,rfl,k3⟩:=hv;have g43:=(ho1.same oM k3).trans g4;have k5:=(k2.trans k3).put2 (j:=n+1) oM (by have:=k3.le;omega) (ho1.to oM k3) (some (.row 143 (xM ⟨.ofNat 7,.ofNat S.obs.length⟩) false false))
   clear k0 k1 hfin k2 k3 ha1;refine xu ?_;refine xu ?_;refine xF ?_;exact⟨⟨.ofNat 7,.ofNat S.obs.length⟩,_,n3',_,_,rfl,rfl,k5,by simp only[jN];omega,by simp only;omega⟩
  ·have hx:x<256:=hbyt x (zi2 (by rw[hd];exact zi9))
   have hb:xV 1 (x9 (dt.drop vs.length))=some [.int .u8 (.ofNat x)]:=by rw[hd];rfl
   have k3:=k2.new (some (.row 143 (xM ⟨.ofNat 1,.ofNat x⟩) false false));have hsrc:∀m,wS (KL ((n2',some (AObj.row 143 (xM ⟨.ofNat 1,.ofNat x⟩) false false))::L2) (n2'+1) m false [] none) 2 1 (.sl n2' 0 1 (.fix 1))=some (xM ⟨.ofNat 1,.ofNat x⟩):=fun m=>(jH (j:=0) (by rw[x5,xG]) rfl).2
   have hid:vs≠[]→id<n2'+1∧xD ((n2',some (AObj.row 143 (xM ⟨.ofNat 1,.ofNat x⟩) false false))::L2) id=some (.row 143 (xA xM vs) true false):=fun hne=>by
    obtain⟨q1,q2,q3⟩:=hg hne;exact⟨oM,by rw[xr,if_neg oM];exact q3⟩
   clear hd;refine xB ?_;refine xz (x4 sW ?_);refine xu ?_;refine xz (xE ?_);refine xB ?_;refine xK ?_;refine xC (zzj (f:=xM) (id:=id) (vs:=vs) (w:=⟨.ofNat 1,.ofNat x⟩) jw pR oM hid k3.ok.wf rfl (hsrc _) oM oM) fun v t hv=>?_;obtain⟨L7,m7,rfl,rfl,g7,hw7,hf7⟩:=hv;have k7:StTo sp L n S L7 (n2'+1+1) S:=k3.oth (p:=vs≠[]) (id:=id) hw7 (zhi _) (fun hp=>⟨h.fresh (by have:=(hg hp).1;omega),by have:=(hg hp).1;omega⟩) hf7
   have g47:xD L7 (n+1)=some (.row 143 [.int .i64 (.ofNat 0),.int .i64 (.ofNat 0)] false false):=by
    rw[hf7 _ oM fun hp=>by have:=(hg hp).1;omega,xr,if_neg oM];exact g4
   have g57:xD L7 (n+1+1)=some (.row 5 (x9 dt) true false):=by
    rw[hf7 _ oM fun hp=>by have:=(hg hp).1;omega,xr,if_neg oM];exact g5
   have hcat:=jN vs ⟨.ofNat 1,.ofNat x⟩;clear hid hg k3 k2 k1 k0 hf7 hfin;refine xu ?_;refine xu ?_;exact⟨vs.length+1,⟨_,L7,n2'+1+1,_,n2'+1,vs++[⟨.ofNat 1,.ofNat x⟩],rfl,rfl,sV,sV,sV,sV,sV,sV,oM,hcat,k7,oM,g47,g57,fun _=>⟨oM,oM,g7⟩⟩,oM⟩
 have n8:=qj e8;by_cases e7:kd=.ofNat 7
 ·subst e7;have hk:qt (.mk (.ofNat 7) dn dt dk dp)=none:=by
   cases hk:qt (.mk (.ofNat 7) dn dt dk dp)with
   |none=>rfl
   |some p=>exact absurd (vE (x:=p.1) (y:=p.2) hk).1 (by decide)
  rw[ZO hk,if_pos rfl]at hm;have hnk:wn (.mk (.ofNat 7) dn dt dk dp)=1+wW dk:=by simp only[wn]
  have hdc:∀x∈dk,zzc O x:=fun x hx=>ih x (by rw[hnk];have:=uj hx;omega) (List.all_eq_true.1 hm x hx) (ht.2.2.mem hx)
  refine xB ?_;refine xz ?_;refine xB ?_;refine xE ?_;refine xB ?_;refine x7 sW ?_;refine xB ?_;refine x7 sW ?_;refine xB ?_;refine x7 sW ?_;refine xB ?_;refine x7 sW ?_;refine xB ?_;refine x7 sW ?_;refine xB ?_;refine x7 sW ?_;refine xB ?_;refine x4 sW ?_;refine xz (xK ?_);refine xC (Gz H.h65 dk hdc (k0 _ _).ok oM oM _) fun v t hv=>?_;obtain⟨id,vs,L2,n2,m2,S2,rfl,hvl,rfl,k2,hc1,hc2,hg⟩:=hv;have hsc:=jj 2 id vs.length;have hcc:=wD 2 id vs.length;have ha1:∀m,Cv ((evW env O).call 150 [.ptr sp 0,.agg [.int .i64 (.ofNat 1),.int .i64 (.ofNat 0),gSl 2 id vs.length,.bool false,.nils]] (KL L2 n2 m false [] none)) fun v t=>∃L3 n3 m3 oid3,v=.agg (xM ⟨.ofNat 7,.ofNat S2.obs.length⟩)∧t=KL L3 n3 m3 false [] none∧StTo sp _ n2 S2 L3 n3 {S2 with obs:=S2.obs++[obK (.ofNat 1) (gSl 2 id vs.length) hsc],oid:=oid3}:=fun m=>Ye H.h112 k2.ok oM (obK (.ofNat 1) (gSl 2 id vs.length) hsc) m
  generalize gSl 2 id vs.length=sv at *;refine xK ?_;refine xC (ha1 _) fun v t hv=>?_;obtain⟨L3,n3',m3,oid3,rfl,rfl,k3⟩:=hv;have k4:=k2.trans k3;have g4:=(ho1.same oM k4);simp (disch:=first|exact dis|fail)only[go_sem,seval,-rO,-rN]at g4
  have hf:=fun m=>hfin (m2:=m) ⟨.ofNat 7,.ofNat S2.obs.length⟩ (k0 _ _) k4 (by simp only[jN];omega) (by simp only;omega)
  clear k0 hfin k2 k3 k4 ha1 hg;simp only[xM]at hf;refine xu ?_;refine xu ?_;refine xF ?_;exact hf _
 have n7:=qj e7;by_cases e6:kd=.ofNat 6
 ·subst e6;cases hk:qt (.mk (.ofNat 6) dn dt dk dp)with
  |none=>
   rw[ZO hk,if_neg (by decide)]at hm
   simp[YU,Jz,LQ]at hm
  | some p=>
   obtain⟨x,y⟩:=p;have hni:=Qe (.mk (.ofNat 6) dn dt dk dp);have hlt:wn (wV (.mk (.ofNat 6) dn dt dk dp)).2<wn (.mk (.ofNat 6) dn dt dk dp):=by
    rw[jY hk];have h1:=Qe y;have h2:=uk hk;have h3:=vd x;show wn (wV y).2<_;omega
   have hil:=jE (wV (.mk (.ofNat 6) dn dt dk dp)).1;have hpl:=vd (wV (.mk (.ofNat 6) dn dt dk dp)).2;have hsum:wW (wV (.mk (.ofNat 6) dn dt dk dp)).1+wn (wV (.mk (.ofNat 6) dn dt dk dp)).2+(wV (.mk (.ofNat 6) dn dt dk dp)).1.length≤wn (.mk (.ofNat 6) dn dt dk dp):=Kn _ _ (zV _);obtain⟨hi1,hi2,hi3⟩:=Km _ _ (zV _) hm (by simp only[TxD];exact ht)
   have hit:=fun s=>zrY H.h115 (d:=.mk (.ofNat 6) dn dt dk dp) oM s;simp only[itR]at hit;generalize wV (.mk (.ofNat 6) dn dt dk dp)=I at *;obtain⟨is,e⟩:=I;simp only at hni hlt hil hpl hsum hi1 hi2 hi3 hit;have hdc:∀z∈is,zzc O z:=fun z hz=>ih z (by have:=uj hz;omega) (hi1 z hz).1 (hi1 z hz).2
   have hde:=ih e hlt hi2 hi3;obtain⟨ek,en,et,eks,ep⟩:=e;simp only[Y3,wo]at hit;have hcp:xN (xX is)=true:=ub is;have hcp2:xN (xX eks)=true:=ub eks;refine xB ?_;refine xz ?_;refine xB ?_;refine xE ?_;refine xB ?_;refine x7 sW ?_;refine xB ?_;refine x7 sW ?_;refine xB ?_;refine x7 sW ?_;refine xB ?_;refine x7 sW ?_;refine xB ?_;refine x7 sW ?_;refine xB ?_;refine x7 sW ?_;refine xB ?_;refine x7 sW ?_;refine xB ?_;refine x4 sW ?_;refine xB ?_;have k1:=fun a b c:Option AObj=>((k0 a b).new c);have k2:=fun a b c e:Option AObj=>(k1 a b c).put2 (j:=n+1+1) oM oM (h.fresh oM) e;refine xz (xK ?_);refine xC (Gz H.h65 is hdc (k2 _ _ _ _).ok oM oM _) fun v t hv=>?_;obtain⟨id,vs,L2,n2,m2,S2,rfl,hvl,rfl,k3,hc1,hc2,hg⟩:=hv;have hsc:=jj 2 id vs.length;have hcc:=wD 2 id vs.length;replace hvl:=hvl.symm;have g11:=((h.fresh oM:Own sp S (n+1+1)).same oM k3);simp (disch:=first|exact dis|fail)only[go_sem,seval,-rO,-rN]at g11
   have hdd:=fun m=>hde sp L2 n2 S2 m k3.ok oM oM;simp only[wo]at hdd;refine xu ?_;refine xz (xK ?_);refine xC (hdd _) fun v t hv=>?_;obtain⟨w,L4,n4,m4,S4,rfl,rfl,k4,hc3,hc4⟩:=hv;clear hdd hde;have hls:=fun m=>znY H.h116 H.h146 H.h166 H.h112 (sp:=sp) (n:=n4) (L:=L4) (S:=S4) k4.ok (vs:=vs) (id:=id) (fun hne=>by
    obtain⟨q1,q2,q3,q4⟩:=hg hne;have:=k4.le;exact⟨oM,q3.to q2 k4,by rw[q3.same q2 k4];exact q4⟩) w oM m
   simp only[xM]at hls;refine xK ?_;refine xC (hls _) fun v t hv=>?_;obtain⟨w5,L5,n5',m5,S5,rfl,rfl,k5,hc5,hc6⟩:=hv;have k6:=(k3.trans k4).trans k5;have hle6:=k6.le;have g4:=(ho1.same oM k6);simp (disch:=first|exact dis|fail)only[go_sem,seval,-rO,-rN]at g4
   have k7:=((k2 _ _ _ _).trans k6).put2 (j:=n+1) oM oM (ho1.to oM k6) (some (.row 143 (xM w5) false false));clear k0 k1 k2 hfin k3 k4 k5 k6 hls hg g11;simp only[xM]at k7;refine xu ?_;refine xu ?_;refine xF ?_;exact⟨w5,_,n5',_,S5,rfl,rfl,k7,oM,oM⟩
 have n6:=qj e6;clear k0 hfin;refine xB ?_;refine xB ?_;refine xu ?_;refine xF ?_;exact hsim ⟨.ofNat 4,.ofNat 0⟩ _ _ _ _
end
theorem JM{P:Program}{w0:World}{O:Orc}(H:VOrc P w0 O):∀(N:Nat) (d:DT),wn d<N→wn d≤1100000→vY d=true→TxD d→zzc O d
 |0,_,h,_,_,_=>by omega
 |N+1,d,h,hn,hm,ht=>zsp H hm ht hn fun x hx h1 h2=>JM H N x oM oM h1 h2
def ztx(O:Orc)(d:DT):Prop:=∀(L:List (Nat×Option AObj)) (n m:Nat) (b:Bool),Cv ((evW env O).call 75 [.agg (wR d)] (KL L n m b [] none)) fun v t=>(∃r,v=.bool r)∧t=KL L n m b [] none
section
variable {O:Orc}
attribute [local go_sem] xI xH ziS ziW ziV ziQ xW in
theorem zum(h85:O 117=none)(hp:ztx O d)(L:List (Nat×Option AObj))(n m:Nat)(b:Bool):Cv ((evW env O).call 117 [.agg (wR d)] (KL L n m b [] none)) fun v t=>(∃r,v=.bool r)∧t=KL L n m b [] none:=by
 refine wI (F:=f117) h85 rfl rfl (ziF rfl) ?_;obtain⟨dk,dn,dt,ds,dp⟩:=d;have hp2:=fun L n m b=>hp L n m b;simp only[wo]at hp2⊢;unfold f117 cF;simp only;refine xB ?_;refine xz (xK ?_);refine xC (hp2 _ _ _ _) fun v t hv=>?_;obtain⟨⟨r,rfl⟩,rfl⟩:=hv;clear hp2;refine xu ?_;refine xu ?_;refine xF ?_;exact⟨⟨_,rfl⟩,rfl⟩
attribute [local go_sem] ltF gtF xI xH ziS ziW ziV ziQ xW in
theorem zyM(h85:O 117=none)(h106:O 144=none)(l:List DT)(hl:l.length<1000000000)(hp:∀x∈l,ztx O x)(L:List (Nat×Option AObj))(n m:Nat)(b:Bool):Cv ((evW env O).call 144 [.lst l.length false (xX l),.fn 117 [] []] (KL L n m b [] none)) fun v t=>(∃r,v=.int .i64 r)∧t=KL L n m b [] none:=by
 refine wI (F:=f144) h106 rfl rfl (ziF rfl) ?_;unfold f144 cF;simp only;refine xB ?_;refine xz (xz (xu ?_));refine xE ?_;refine xU (fun i:Nat=>l.length-i) (fun i f t=>∃T,f=⟨tmL T,[]⟩∧t=KL L n 0 true [] none∧(tmL T).get 0=some (.lst l.length false (xX l))∧(tmL T).get 1=some (.fn 117 [] [])∧(tmL T).get 7=some (.int .i64 (.ofNat l.length))∧(tmL T).get 8=some (.int .i64 (.ofNat i))∧i≤l.length) (fun i f t hI=>?_) 0 ⟨_,rfl,rfl,sW,sW,sW,sW,zK _⟩;obtain⟨T,rfl,rfl,t0,t1,t7,t8,hi⟩:=hI;rcases xQ l i with ⟨hlt,hd⟩|⟨x,hlt,hd⟩
 ·have hni:¬i<l.length:=oM;refine xu ?_;refine xu ?_;refine xF ?_;exact⟨⟨_,rfl⟩,rfl⟩
 ·have hcx:=Gy hd;rw[←vg]at hcx;have hpx:=fun L n m b=>zum h85 (hp x (zi2 (by rw[hd];exact zi9))) L n m b
  obtain⟨xk,xn,xt,xs,xp⟩:=x;simp only[wo]at hcx hpx;clear hd hp;refine xB ?_;refine xz (x4 sW ?_);refine xu ?_;refine xz (xE ?_);refine xB ?_;refine xz ?_;refine xK ?_;refine xC (hpx _ _ _ _) fun v t hv=>?_;obtain⟨⟨r,rfl⟩,rfl⟩:=hv;clear hpx;cases r with
  |true=>
   refine xu ?_;refine xu ?_;refine xF ?_;exact⟨⟨_,rfl⟩,rfl⟩
  |false=>
   refine xu ?_;refine xu ?_;refine xu ?_;exact⟨i+1,⟨_,rfl,trivial,sV,sV,sV,sV,oM⟩,oM⟩
attribute [local go_sem] ltF gtF in
theorem zyK(h85:O 117=none)(h106:O 144=none)(h82:O 114=none)(l:List DT)(hl:l.length<1000000000)(hp:∀x∈l,ztx O x)(L:List (Nat×Option AObj))(n m:Nat)(b:Bool):Cv ((evW env O).call 114 [.lst l.length false (xX l),.fn 117 [] []] (KL L n m b [] none)) fun v t=>(∃r,v=.bool r)∧t=KL L n m b [] none:=by
 refine wI (F:=f114) h82 rfl rfl (ziF rfl) ?_;have hix:=fun L n m b=>zyM h85 h106 l hl hp L n m b;unfold f114 cF;simp only;refine xB ?_;refine xz (xK ?_);refine xC (hix _ _ _ _) fun v t hv=>?_;obtain⟨⟨r,rfl⟩,rfl⟩:=hv;clear hix;refine xu ?_;refine xu ?_;refine xF ?_;exact⟨⟨_,rfl⟩,rfl⟩
end
section
variable {O:Orc}
attribute [local go_sem] ltF gtF xI xH ziS ziW ziV ziQ xW in
theorem zqW(h64:O 75=none)(h85:O 117=none)(h106:O 144=none)(h82:O 114=none):∀(k:Nat) (d:DT),wn d≤k→wn d≤1100000→vY d=true→ztx O d:=by
 intro k
 induction k with
 |zero=>intro d h;have:=vd d;omega
 | succ k ih=>
  intro d hk hn hm L n m b;refine wI (F:=f75) h64 rfl rfl (ziF rfl) ?_;have hd5:=wF (qT d);obtain⟨kd,dn,dt,dk,dp⟩:=d;simp only[wo]at hd5⊢;unfold f75 cF;simp only;refine xB ?_;refine xz (xE ?_);refine xU (fun x:DT=>wn x) (fun x f t=>∃T L2 m',f=⟨tmL T,[]⟩∧t=KL L2 (n+1) m' true [] none∧(tmL T).get 1=some (.ptr n 0)∧xD L2 n=some (ZY x)∧m'%2^n=0∧wn x≤k+1∧wn x≤1100000∧vY x=true) (fun x f t hI=>?_) (.mk kd dn dt dk dp) ⟨_,_,_,rfl,rfl,sW,by simp (disch:=first|exact dis|fail)only[go_sem,seval,-rO,-rN,ZY,wo],by simp,hk,hn,hm⟩
  clear hk hn hm hd5 kd dn dt dk dp;obtain⟨T,L2,m',rfl,rfl,t1,g,hmk,hk,hn,hm⟩:=hI;obtain⟨kd,dn,dt,dk,dp⟩:=x;simp only[ZY,wo]at g;cases hka:qt (.mk kd dn dt dk dp)with
  | some p=>
   obtain⟨⟨xk,xn,xt,xks,xp⟩,⟨yk,yn,yt,yks,yp⟩⟩:=p;have hna:=uk hka;rw[We hka,zl]at hm;obtain⟨rfl,rfl⟩:=vE hka;have hpx:=vd (.mk yk yn yt yks yp);have hpx2:=vd (.mk xk xn xt xks xp);have hc:=ih (.mk xk xn xt xks xp) oM oM hm.1;have hc':=fun L n m b=>hc L n m b;simp only[wo]at hc';have hc1:xV 5 (xX [.mk xk xn xt xks xp,.mk yk yn yt yks yp])=some (wR (.mk xk xn xt xks xp)):=by rw[lV];exact gU _ _
   have hc2:xV 5 (wl 5 (xX [.mk xk xn xt xks xp,.mk yk yn yt yks yp]))=some (wR (.mk yk yn yt yks yp)):=by
    rw[lV,wK,List.drop_left' (qT _)];exact px _
   simp only[wo]at hc1 hc2;simp only[zU,xd]at g;clear ih hc hka;refine xB ?_;refine xE ?_;refine xz ?_;refine xz ?_;refine xK ?_;refine xC (hc' _ _ _ _) fun v t hv=>?_;obtain⟨⟨r,rfl⟩,rfl⟩:=hv;clear hc';cases r with
   |false=>
    refine xu ?_;refine xu ?_;refine xF ?_;exact⟨⟨_,rfl⟩,rfl⟩
   |true=>
    refine xu ?_;refine xu ?_;refine xu ?_;exact⟨.mk yk yn yt yks yp,⟨_,_,_,rfl,rfl,sV,by simp (disch:=first|exact dis|fail)only[go_sem,seval,-rO,-rN, *,ZY,wo],sV,oM,oM,hm.2⟩,oM⟩
  | none=>
   have h6:kd≠.ofNat 6:=fun e=>by
    subst e;rw[ZO hka,if_neg (by decide)]at hm
    simp[YU,Jz,LQ]at hm
   have n6:=qj h6;have hks:∀x∈dk,ztx O x:=fun x hx=>by
    have h1:=j4 (.mk kd dn dt dk dp);have h2:=uj hx;simp only[lu]at h1;refine ih x oM oM ?_;rw[ZO hka]at hm;split at hm
    ·exact List.all_eq_true.1 hm x hx
    ·simp only[zl,decide_eq_true_eq]at hm;have:=List.eq_nil_of_length_eq_zero hm.1;rw[this]at hx;cases hx
   have hkl:dk.length<1000000000:=by
    have h1:=j4 (.mk kd dn dt dk dp);have h2:=jE dk;simp only[lu]at h1;omega
   have hcf:=fun L n m b=>zyK h85 h106 h82 dk hkl hks L n m b;clear ih hks hka hm;refine xu ?_;by_cases h5:kd=.ofNat 5
   ·subst h5;cases e0:eqD dn (.ofNat 0)with
    |true=>
     refine xz (xK ?_);refine xC (hcf _ _ _ _) fun v t hv=>?_;obtain⟨⟨r,rfl⟩,rfl⟩:=hv;clear hcf;refine xu ?_;refine xu ?_;refine xF ?_;exact⟨⟨_,rfl⟩,rfl⟩
    |false=>
     clear hcf;refine xu ?_;refine xF ?_;exact⟨⟨_,rfl⟩,rfl⟩
   ·have n5:=qj h5;refine xz (xK ?_);refine xC (hcf _ _ _ _) fun v t hv=>?_;obtain⟨⟨r,rfl⟩,rfl⟩:=hv;clear hcf;refine xu ?_;refine xu ?_;refine xF ?_;exact⟨⟨_,rfl⟩,rfl⟩
end
theorem zyh{f:Nat}{F:IFunc}(h:O f=none)(hF:env.funs.get f=some F)(hp:env.pure f=true){a:List AV}(ha:a.length≤F.ntmps){R:AV→St→Prop}(hc:Cv ((evW env O).call f a (KL [] 0 0 true [] none)) R):Ev (evC env (evW env O) none F.body ⟨wq (tmL []) 0 a,[]⟩ (KL [] 0 0 true [] none)) fun r fr t=>Cv (Z2 (KL [] 0 0 true [] none) (wL env.globs F.res (some (r,fr,t)))) R:=by
 obtain⟨v,t,e,q⟩:=hc;rw[vF h hF hp _ _ _ _ _ _ _ ha]at e;cases hx:evC env (evW env O) none F.body ⟨wq (tmL []) 0 a,[]⟩ (KL [] 0 0 true [] none)with
 |none=>rw[hx]at e;cases e
 |some x=>
  obtain⟨r,fr,t2⟩:=x;rw[hx]at e;exact⟨r,fr,t2,rfl,v,t,e,q⟩
def WF(d:DT):Prop:=vY d=true∧wn d≤1100000
def GPl(_:DT)(v:AV):Prop:=∃r,v=.bool r
section
variable {P:Program}{w0:World}(B:Bx P w0){O:Orc}(hO:OrcOk P w0 O)
include B hO
theorem zqX(h64:O 75=none)(h85:O 117=none)(h106:O 144=none)(h82:O 114=none):lg P w0 75 vb WF GPl:=by
 intro d hd;refine beX B hO f75 ?_;refine(zyh h64 rfl rfl (ziF rfl) (zqW h64 h85 h106 h82 (wn d) d (zo _) hd.2 hd.1 [] 0 0 true)).mono fun r f t hc=>hc.mono fun v s hv=>?_;obtain⟨⟨r,rfl⟩,rfl⟩:=hv;exact⟨_,⟨r,rfl⟩,rfl,w7 _ _⟩
end
noncomputable def plB(P:Program)(w0:World)(d:DT):Bool:=match exV P w0 75 vb GPl d with
 |.bool b=>b
 |_=>false
theorem zyN(h:O 75=some (Z0 P w0 75 vb WF GPl))(hx:lg P w0 75 vb WF GPl)(hd:WF d)(s:St):(evW env O).call 75 [.agg (wR d)] s=some (.bool (plB P w0 d),s):=by
 have h1:=oc h lY d hd (ZE d) s;obtain⟨r,hr⟩:=(pY (hx d hd)).1;unfold plB;rw[h1,hr]
noncomputable def KA(P:Program)(w0:World)(l:List DT):Bool:=l.all fun d=>vY d&&plB P w0 d
structure NOrc(P:Program)(w0:World)(N:Nat)(O:Orc):Prop extends VOrc P w0 O where
 h45:O 42=none
 h62:O 73=none
 h63:O 74=some (LE N)
 h64:O 75=some (Z0 P w0 75 vb WF GPl)
 hpl:lg P w0 75 vb WF GPl
 hN:N≤1100000
structure CsPre(N:Nat)(l:List DT):Prop where
 tx:TxL l
 nd:∀d∈l,wn d<N
 sum:wW l<10000000
theorem zoE(h62:O 73=none)(L:List (Nat×Option AObj))(n m:Nat)(b:Bool):(evW env O).call 73 [.nils] (KL L n m b [] none)=some (.nils,KL L n m b [] none):=by
 have key:Cv ((evW env O).call 73 [.nils] (KL L n m b [] none)) fun v t=>v=.nils∧t=KL L n m b [] none:=by
  refine wI (F:=f73) h62 rfl rfl (ziF rfl) ?_;have he:WA .slice false .nils .nils=some (.bool true):=rfl;unfold f73 cF;simp only;refine xu ?_;refine xF ?_;exact⟨rfl,rfl⟩
 obtain⟨v,t,h,rfl,rfl⟩:=key;exact h
def sto0:Sto:=⟨[],0,[],0,[]⟩
section
variable {P:Program}{w0:World}{O:Orc}{N:Nat}
attribute [local go_sem] ltF gtF xI xH ziS ziW ziV ziQ xW ww wD in
theorem zkz(H:NOrc P w0 N O){l:List DT}(hl:CsPre N l){L:List (Nat×Option AObj)}(hw:WfA L n)(m:Nat):
  Cv ((evW env O).call 42 [.lst l.length false (xX l),.nils] (KL L n m false [] none)) fun v t=>∃x L2 n2 m2,v=.tup [x,.int .i64 (bif KA P w0 l then .ofNat 0 else .ofNat 2)]∧(x=.nilp∨∃p,x=.ptr p 0)∧t=KL L2 n2 m2 false [] none∧n≤n2∧∀j,j<n→xD L2 j=xD L j:=by
 refine xO (F:=f42) H.h45 rfl rfl (ziF rfl) ?_;have hcl:=fun L n m b=>zoE H.h62 L n m b;have hlen:=jE l;have hsum:=hl.sum;have hNN:=H.hN;obtain⟨R,hR⟩:∃R,KA P w0 l=R:=⟨_,rfl⟩;rw[hR];unfold f42 cF;simp only;refine xB ?_;refine xB ?_;refine xz (xz (xu ?_));refine xE ?_;have hs0:StOk n ((n,some sto0.row)::L) (n+1) sto0:=⟨hw.cons (zV _) (zhi _),xG _ _ _,fun h=>absurd rfl h,fun h=>absurd rfl h,(fun y hy=>by cases hy),(fun y hy=>by cases hy)⟩
 refine xU (fun i:Nat=>l.length-i) (fun i f t=>∃T L2 n2 m2,f=⟨tmL T,[]⟩∧t=KL L2 n2 m2 false [] none∧(tmL T).get 0=some (.lst l.length false (xX l))∧(tmL T).get 6=some (.ptr n 0)∧(tmL T).get 13=some (.lst l.length false (xX l))∧(tmL T).get 14=some (.int .i64 (.ofNat l.length))∧(tmL T).get 15=some (.int .i64 (.ofNat i))∧i≤l.length∧StTo n ((n,some sto0.row)::L) (n+1) sto0 L2 n2 sto0∧(l.take i).all (fun d=>vY d&&plB P w0 d)=true) (fun i f t hI=>?_) 0 ⟨_,_,_,_,rfl,rfl,sW,sW,sW,sW,sW,zK _,hs0.more hs0.wf (zo _) fun _ _=>rfl,rfl⟩;obtain⟨T,L2,n2,m2,rfl,rfl,t0,t6,t13,t14,t15,hi,k1,hal⟩:=hI;rcases xQ l i with ⟨hlt,hd⟩|⟨d,hlt,hd⟩
 ·have hni:¬i<l.length:=oM;rw[List.take_of_length_le hlt]at hal;have hRt:R=true:=by rw[←hR];exact hal
  subst hRt;have hdc:∀d∈l,zzc O d:=fun d hdm=>by
   have h1:=List.all_eq_true.1 hal d hdm;rw[zl]at h1;have h2:=hl.nd d hdm;exact JM H.toVOrc _ d (zV _) oM h1.1 (hl.tx.mem hdm)
  clear hR hal hcl;refine xu ?_;refine xz (xK ?_);refine xC (Gz H.h65 l hdc k1.ok (by simp only[sto0,xd];omega) (by simp only[sto0,xd];omega) _) fun v t hv=>?_
  obtain⟨id,vs,L3,n3,m3,S3,rfl,hvl,rfl,k3,hc1,hc2,hg⟩:=hv;have hrow:=k3.ok.row;have hsc:=jj 2 id vs.length;have hcc:=wD 2 id vs.length;have k4:=k1.trans k3;have hle:=k4.le;have hfr:∀j,j<n→xD L3 j=xD L j:=fun j hj=>by
   rw[k4.fr j oM oM (fun h=>absurd rfl h) (fun h=>absurd rfl h),xr,if_neg oM]
  simp only[Sto.row]at hrow;have hsc':=hsc;simp only[q8]at hsc';generalize gSl 2 id vs.length=sv at *;generalize gSl 5 S3.oid S3.obs.length=a1 at *;generalize gSl 2 S3.yid S3.ys.length=a2 at *;clear hg hvl k3 k4 hdc k1 hs0;have hfr2:=fun j (hj:j<n)=>(hfr j hj).symm;clear hfr;refine xu ?_;refine xu ?_;refine xF ?_;exact⟨.ptr n 0,_,n3,_,rfl,.inr ⟨n,rfl⟩,rfl,oM,fun j hj=>by rw[xr,if_neg oM];exact(hfr2 j hj).symm⟩
 ·have hdm:d∈l:=zi2 (by rw[hd];exact zi9)
  have hnd:=hl.nd d hdm;have htd:=hl.tx.mem hdm;have hma:=fun s=>Uu (f:=74) H.h63 htd hnd s;have hcx:=Gy hd;rw[←vg]at hcx;have htk:l.take (i+1)=l.take i++[d]:=by
   rw[List.take_add_one,←List.head?_drop,hd];rfl
  have hRf:(vY d&&plB P w0 d)=false→R=false:=fun h=>by
   rw[←hR];exact List.all_eq_false.2 ⟨d,hdm,by rw[h];simp⟩
  have k2:=k1.ok.new (some (.row 120 [.int .i64 (.ofNat 0),.int .i64 (.ofNat 0),.str [],.nils,.int .i64 (.ofNat 0)] false false));have hle:=k1.le;have hfr:∀j,j<n→xD L2 j=xD L j:=fun j hj=>by
   rw[k1.fr j oM oM (fun h=>absurd rfl h) (fun h=>absurd rfl h),xr,if_neg oM]
  have hfr2:=fun j (hj:j<n)=>(hfr j hj).symm;have k3:=fun o=>(k1.trans k2).put2 (j:=n2) oM (zV _) (k1.ok.fresh (zo _)) o;clear hfr hd;cases hmd:vY d with
  |false=>
   rw[hmd]at hma hRf;have:=hRf rfl;subst this;obtain⟨dk,dn,dt,ds,dp⟩:=d;simp only[wo]at hma hcx;clear hcl hRf k1 k2 k3 hs0 htk hmd;refine xu ?_;refine xF ?_;exact⟨.nilp,_,n2+1,_,rfl,.inl rfl,rfl,oM,fun j hj=>by rw[xr,if_neg oM,xr,if_neg oM];exact(hfr2 j hj).symm⟩
  | true=>
   have hpc:=fun s=>zyN H.h64 H.hpl (d:=d) ⟨hmd,oM⟩ s;rw[hmd]at hma hRf;cases hpd:plB P w0 d with
   |false=>
    rw[hpd]at hpc hRf;have:=hRf rfl;subst this;obtain⟨dk,dn,dt,ds,dp⟩:=d;simp only[wo]at hma hcx hpc;clear hcl hRf k1 k2 k3 hs0 htk hmd hpd;refine xu ?_;refine xF ?_;exact⟨.nilp,_,n2+1,_,rfl,.inl rfl,rfl,oM,fun j hj=>by rw[xr,if_neg oM,xr,if_neg oM];exact(hfr2 j hj).symm⟩
   | true=>
    rw[hpd]at hpc;have hal2:(l.take (i+1)).all (fun d=>vY d&&plB P w0 d)=true:=by
     rw[htk,List.all_append,hal];simp[hmd,hpd]
    obtain⟨dk,dn,dt,ds,dp⟩:=d;simp only[wo]at hma hcx hpc;clear hcl hRf hs0 htk hmd hpd hal hR hfr2;refine xu ?_;exact⟨i+1,⟨_,_,n2+1,_,rfl,rfl,sV,sV,sV,sV,sV,oM,k3 _,hal2⟩,oM⟩
end
end Go.Proofs.YtbdfljdgapkbcaaGreatDoor.Ev

/- Contracts of functions that IselRight calls: what a call answers, for all data, by symbolic evaluation. No conditions of its own. -/
import Derived.Test.YtbdfljdgapkbcaaGreatDoorEvG
import Derived.Test.YtbdfljdgapkbcaaGreatDoorIrIselRight
set_option linter.unusedSimpArgs false
set_option linter.unusedVariables false
set_option linter.defProp false
set_option maxHeartbeats 4000000
set_option linter.unusedSectionVars false
open Nat renaming le_of_ble_eq_true → ziF, le_refl → zo, two_pow_add_eq_or_of_lt → ziG, lt_succ_self → zV, zero_le → zK, mul_comm → yh
open List renaming length_cons → zU, length_append → yl, cons_append → zG, length_drop → ziH, length_nil → xd, append_nil → ziJ, take_of_length_le → zE, all_cons → ziK
open Bool renaming and_self → xe, cond_decide → ziI, true_and → yD
open Int renaming ofNat → zA
namespace Go.Proofs.YtbdfljdgapkbcaaGreatDoor.Ev
variable {P:Program}{w0:World}{O:Orc}{s:St}{v:AV}{d:DT}{n esz:Nat}{o:AObj}
open T
set_option maxRecDepth 100000
structure Bx(P:Program)(w0:World):Prop where
 mixed:P.follows .mixedOrders=true
 glob:xS env.globs w0
 env:kj P env
theorem bs(B:Bx P w0)(hO:OrcOk P w0 O){f:Nat}(F:IFunc){args:List AV}{os:List (Option AObj)}{b:Bool}{c':St}(h:∀C:Cx,Is C env O (H os 0 b) 0→Tri C F.body {tm:=wq (tmL []) 0 args,df:=[]} (H os 0 b) (Fin env (H os 0 b) 0 F.res v c'))(hF:env.funs.get f=some F:=by exact rfl)(hle:args.length≤F.ntmps:=by exact Nat.le_of_ble_eq_true rfl):SC P w0 f args (H os 0 b) v c':=
 Is.sc hO B.mixed B.glob B.env 0 hF hle kV h
theorem bm(B:Bx P w0)(hO:OrcOk P w0 O){f:Nat}(F:IFunc){args:List AV}{os:List (Option AObj)}{b:Bool}{c':St}(h:∀C:Cx,Is C env O (H (some o::os) 0 b) 1→Tri C F.body {tm:=wq (tmL []) 0 args,df:=[]} (H (some o::os) 0 b) (Fin env (H (some o::os) 0 b) 1 F.res v c'))(hF:env.funs.get f=some F:=by exact rfl)(hg:qG o=false:=by exact rfl)(hle:args.length≤F.ntmps:=by exact Nat.le_of_ble_eq_true rfl):SC P w0 f args (H (some o::os) 0 b) v c':=
 Is.sc hO B.mixed B.glob B.env 1 hF hle (zjH hg) h
theorem ci{f:Nat}(F:IFunc)(h:O f=none)(hF:env.funs.get f=some F:=by exact rfl)(hp:env.pure f=true:=by exact rfl)(a:List AV)(l:List (Nat×Option AObj))(n m:Nat)(b:Bool)(hd:List (Nat×Nat))(on:Option (Nat×List Nat))(ha:a.length≤F.ntmps):
  (evW env O).call f a (KL l n m b hd on)=Z2 (KL l n m b hd on) (wL env.globs F.res (evC env (evW env O) none F.body ⟨wq (tmL []) 0 a,[]⟩ (KL l n 0 true hd on))):=vF h hF hp a l n m b hd on ha
theorem ciw{f:Nat}(F:IFunc)(h:O f=none)(hF:env.funs.get f=some F:=by exact rfl)(hp:env.pure f=false:=by exact rfl)(a:List AV)(l:List (Nat×Option AObj))(n m:Nat)(b:Bool)(hd:List (Nat×Nat))(on:Option (Nat×List Nat))(ha:a.length≤F.ntmps):
  (evW env O).call f a (KL l n m b hd on)=mdR b (wL env.globs F.res (evC env (evW env O) none F.body ⟨wq (tmL []) 0 a,[]⟩ (KL l n m false hd on))):=HG h hF hp a l n m b hd on ha
def ZY(d:DT):AObj:=.row 120 (wR d) false false
def VV:AObj:=.row 120 [.int .i64 (.ofNat 0),.int .i64 (.ofNat 0),.str [],.nils,.int .i64 (.ofNat 0)] false false
theorem gU(d:DT)(r:List AV):xV 5 (wR d++r)=some (wR d):=qI (qT d)
theorem px(d:DT):xV 5 (wR d)=some (wR d):=wF (qT d)
theorem qj{a b:Int}(h:a≠b):eqD a b=false:=by simp[eqD,h]
theorem lV(x y:DT):xX [x,y]=wR x++wR y:=by simp only[gD,lU,ziJ]
def zzg(acc:List DT):AV:=match acc with
 |[]=>.nils
 |t::r=>.gr 2 5 (t::r).length (xX (t::r))
def Q6(acc:List DT):List (Option AObj):=match acc with
 |[]=>[]
 |t::r=>[some (.app 120 (xX (t::r)))]
theorem JV(d:DT):x8 (Y3 d)=true:=by simp only[Y3,ve,ua]
theorem xQ{α:Type}(l:List α)(i:Nat):(l.length≤i∧l.drop i=[])∨∃x,i<l.length∧l.drop i=x::l.drop (i+1):=by
 by_cases h:i<l.length
 ·exact .inr ⟨l[i],h,List.drop_eq_getElem_cons h⟩
 ·exact .inl ⟨oM,List.drop_eq_nil_of_le oM⟩
def zzb(p:Prop)(C:Cx)(fr1:Fr)(s1:St)(Q:Res→Fr→St→Prop):Res→Fr→St→Prop
 |.norm,f,t=>p∧Gc C f t fr1 s1
 |r,f,t=>Q r f t
theorem P1{C:Cx}{ia ib:ICode}{fr:Fr}{Q:Res→Fr→St→Prop}(p:Prop)(fr1:Fr)(s1:St)(h1:Tri C ia fr s (zzb p C fr1 s1 Q))(h2:p→Tri C ib fr1 s1 Q):Tri C (.seq ia ib) fr s Q:=
 qg (h1.mono fun r f t=>by
  cases r with
  |norm=>exact fun h=>zxd h.2 (h2 h.1)
  |exit i=>exact fun h=>h
  |ret=>exact fun h=>h)
open Nat (reduceEqDiff reduceLeDiff reduceLT reduceAdd reduceMul reduceSub reduceMod reducePow reduceDiv reduceOr reduceShiftLeft reduceGT reduceSucc)
open List (length_cons length_nil length_take length_drop)
open Int renaming reduceOfNat → rO, reduceNegSucc → rN
def qt:DT→Option (DT×DT)
 |.mk kd _ _ ks _=>match ks with
  |[x,y]=>if kd=.ofNat 6 then some (x,y)else none
  |_=>none
theorem vE{kd n:Int}{t:List Nat}{ks:List DT}{p:Int}{x y:DT}(h:qt (.mk kd n t ks p)=some (x,y)):kd=.ofNat 6∧ks=[x,y]:=by
 simp only[qt]at h;split at h
 ·split at h
  ·cases h;exact⟨by assumption,rfl⟩
  ·cases h
 ·cases h
theorem Qc{kd n:Int}{t:List Nat}{ks:List DT}{p:Int}(h:qt (.mk kd n t ks p)=none)(hk:kd=.ofNat 6):¬ks.length=2:=by
 subst hk;intro hl
 match ks,hl with
 |[x,y],_=>simp[qt]at h
theorem ZL{x y:DT}(h:qt d=some (x,y)):SizeOf.sizeOf x<SizeOf.sizeOf d∧SizeOf.sizeOf y<SizeOf.sizeOf d:=by
 obtain⟨kd,n,t,ks,p⟩:=d;obtain⟨rfl,rfl⟩:=vE h;simp only[DT.mk.sizeOf_spec,List.cons.sizeOf_spec,List.nil.sizeOf_spec];omega
def Zc:Nat→DT→List DT×DT
 |0,d=>([],d)
 |k+1,d=>match qt d with
  |some (x,y)=>(x::(Zc k y).1,(Zc k y).2)
  |none=>([],d)
noncomputable def wV(d:DT):List DT×DT:=Zc (SizeOf.sizeOf d) d
theorem ZK:∀{k m:Nat} {d:DT},SizeOf.sizeOf d≤k→SizeOf.sizeOf d≤m→Zc k d=Zc m d
 |0,_,d,h,_=>by cases d;simp only[DT.mk.sizeOf_spec]at h;omega
 |_+1,0,d,_,h=>by cases d;simp only[DT.mk.sizeOf_spec]at h;omega
 | k+1,m+1,d,h,h'=>by
  simp only[Zc];cases hk:qt d with
  |none=>rfl
  |some xy=>
   obtain⟨x,y⟩:=xy;have:=(ZL hk).2;simp only;rw[ZK (k:=k) (m:=m) oM oM]
theorem jY{x y:DT}(h:qt d=some (x,y)):wV d=(x::(wV y).1,(wV y).2):=by
 have:=ZL h;unfold wV;rw[ZK (d:=d) (m:=SizeOf.sizeOf d+1) (zo _) oM,Zc,h];simp only;rw[ZK (d:=y) (m:=SizeOf.sizeOf y) oM (zo _)]
theorem gL(h:qt d=none):wV d=([],d):=by
 unfold wV;rw[ZK (d:=d) (m:=SizeOf.sizeOf d+1) (zo _) oM,Zc,h]
attribute [local go_sem] Y3 zzg Q6 ZY VV wo lV f113 gU px lU ll in
theorem zrX(B:Bx P w0)(hO:OrcOk P w0 O)(o23:O 113=none)(d0:DT)(hlen:(wV d0).1.length<2000000):
  SC P w0 153 [Y3 d0] (H [] 0 true) (.tup [.lst (wV d0).1.length false (xX (wV d0).1),Y3 (wV d0).2]) (H [] 0 true):=by
 refine Is.sc hO B.mixed B.glob B.env 0 (show env.funs.get 153=some f153 from rfl) (ziF rfl) kV fun C k=>?_;have cpair:= @vF env O _ _ o23 (show env.funs.get 113=some f113 from rfl) rfl;generalize hl:(wV d0).1=l at hlen⊢;generalize he:(wV d0).2=e;unfold f153 cF;simp only;refine k.q ?_;refine zwC ⟨tmL [(3,.ptr 1 0),(2,zzg l),(1,.ptr 0 0)],[]⟩ (H ([some (ZY e),some VV]++Q6 l) 0 true) (vf (jn (k.gcL [0,1] [3,2,1] true (fr1:=⟨tmL [(3,.ptr 1 0),(2,zzg []),(1,.ptr 0 0)],[]⟩) (s1:=H ([some (ZY d0),some VV]++Q6 []) 0 true) (by simp (disch:=first|exact dis|fail)only[go_sem,seval,-rO,-rN,ZY,VV,zzg,Q6,ua]) ?_))) ?_
 ·refine lI (fun x:List DT×DT=>SizeOf.sizeOf x.2) (fun x=>⟨tmL [(3,.ptr 1 0),(2,zzg x.1),(1,.ptr 0 0)],[]⟩) (fun x=>H ([some (ZY x.2),some VV]++Q6 x.1) 0 true) (fun x=>x.1++(wV x.2).1=l∧(wV x.2).2=e) (fun x hx=>?_) ([],d0) ⟨hl,he⟩;obtain⟨acc,cur⟩:=x;simp only at hx⊢;obtain⟨hx1,hx2⟩:=hx;have hc2:acc.length<2000000:=by rw[←hx1,yl]at hlen;omega
  cases hkd:qt cur with
  | some xy=>
   obtain⟨x,y⟩:=xy;have hm:=ZL hkd;rw[jY hkd]at hx1 hx2;obtain⟨kd,n,t,ks,p⟩:=cur;obtain⟨rfl,rfl⟩:=vE hkd;obtain⟨xk,xn,xt,xks,xp⟩:=x;obtain⟨yk,yn,yt,yks,yp⟩:=y;cases acc with
   |nil=>
    refine k.z ?_;refine⟨([]++[⟨xk,xn,xt,xks,xp⟩],⟨yk,yn,yt,yks,yp⟩),⟨by rw[←hx1];simp,hx2⟩,hm.2,?_⟩
    refine k.gcs (keep:=[0,1,2]) (live:=[3,2,1]) (md:=true) ?_;simp only[zG,List.nil_append,zzg,Q6,gD,lU,wo,ziJ,zU,xd];simp (disch:=first|exact dis|fail)only[go_sem,seval,-rO,-rN,ZY,VV,wo]
   |cons a0 ar=>
    have hp1:=ub (a0::ar);simp only[zU]at hc2;refine k.z ?_;refine⟨((a0::ar)++[⟨xk,xn,xt,xks,xp⟩],⟨yk,yn,yt,yks,yp⟩),⟨by rw[←hx1];simp,hx2⟩,hm.2,?_⟩
    refine k.gcs (keep:=[0,1,3]) (live:=[3,2,1]) (md:=true) ?_;simp only[zG,List.nil_append,zzg,Q6,gD,U9,lU,wo,ziJ,List.append_assoc,yl,zU,xd];simp (disch:=first|exact dis|fail)only[go_sem,seval,-rO,-rN,ZY,VV,wo,ub,ua]
  | none=>
   rw[gL hkd]at hx1 hx2;simp only[ziJ]at hx1 hx2;subst hx1;subst hx2;obtain⟨kd,n,t,ks,p⟩:=cur;by_cases hk:kd=.ofNat 6
   ·have hl:=Qc hkd hk;subst hk;cases acc with
    |nil=>
     refine k.z ?_;exact k.g [0,1] [3,2,1]
    |cons a0 ar=>
     have hp1:=ub (a0::ar);refine k.z ?_;exact k.g [0,1,2] [3,2,1]
   ·have hke:eqD kd (.ofNat 6)=false:=qj hk;cases acc with
    |nil=>
     refine k.z ?_;exact k.g [0,1] [3,2,1]
    |cons a0 ar=>
     have hp1:=ub (a0::ar);refine k.z ?_;exact k.g [0,1,2] [3,2,1]
 ·obtain⟨ek,en,et,eks,ep⟩:=e;cases l with
  |nil=>
   refine k.q ?_;refine k.z ?_;exact fin
  |cons a0 ar=>
   have hp1:=ub (a0::ar);refine k.q ?_;refine k.z ?_;exact fin
def vb(d:DT):List AV:=[Y3 d]
theorem lY:∀x y,vb x=vb y→x=y:=fun d e h=>by
 simp only[vb,List.cons.injEq,and_true]at h;exact zsx h
theorem ZE(d:DT):wkL [AV.agg (wR d)]=vb d:=by simp only[vb,Y3,wkL,wkV,JL]
theorem jV(d:DT):xN (vb d)=true:=by simp only[vb,xY,JV,x6,xe]
noncomputable def itR(d:DT):AV:=.tup [.lst (wV d).1.length false (xX (wV d).1),Y3 (wV d).2]
noncomputable def zry:List AV→St→Option (AV×St):=vr vb (fun d=>(wV d).1.length<2000000) itR
theorem zrY{f:Nat}(h:O f=some zry)(hi:(wV d).1.length<2000000)(s:St):(evW env O).call f [.agg (wR d)] s=some (itR d,s):=by
 rw[wx h,zry,qH lY s d hi (ZE d)]
theorem zrW(d:DT):x8 (itR d)=true:=by simp only[itR,uz,xY,wN,JV,x6,xe]
mutual
def wn:DT→Nat
 |.mk _ _ _ ks _=>1+wW ks
def wW:List DT→Nat
 |[]=>0
 |d::r=>wn d+wW r
end
theorem vd:∀d,0<wn d
 |.mk _ _ _ ks _=>by simp only[wn];omega
theorem jE:∀l,l.length≤wW l
 |[]=>zo _
 |d::r=>by simp only[wW,zU];have:=jE r;have:=vd d;omega
theorem uj:∀{l:List DT} {d:DT},d∈l→wn d≤wW l
 |[],d,h=>by cases h
 |x::r,d,h=>by
  simp only[wW];rcases List.mem_cons.1 h with rfl|h
  ·omega
  ·have:=uj h;omega
theorem uk{x y:DT}(h:qt d=some (x,y)):wn d=1+wn x+wn y:=by
 obtain⟨kd,n,t,ks,p⟩:=d;obtain⟨rfl,rfl⟩:=vE h;simp only[wn,wW];omega
theorem Qe(d:DT):wW (wV d).1+wn (wV d).2≤wn d:=by
 have key:∀(k:Nat) (d:DT),SizeOf.sizeOf d<k→wW (wV d).1+wn (wV d).2≤wn d:=by
  intro k
  induction k with
  |zero=>intro d h;omega
  | succ k ih=>
   intro d h;cases hk:qt d with
   |none=>rw[gL hk];simp only[wW];omega
   |some xy=>
    obtain⟨x,y⟩:=xy;have:=ih y (by have:=(ZL hk).2;omega)
    have h2:=uk hk;rw[jY hk];simp only[wW];omega
 exact key _ d (zV _)
def LQ:DT→Int|.mk k _ _ _ _=>k
def zim:DT→Int|.mk _ n _ _ _=>n
def zj5:DT→List Nat|.mk _ _ t _ _=>t
def lu:DT→List DT|.mk _ _ _ ks _=>ks
theorem j4(d:DT):wn d=1+wW (lu d):=by cases d;simp only[wn,lu]
def Gcx{α:Type}(p:α→Prop)(C:Cx)(fr1:α→Fr)(s1:α→St)(Q:Res→Fr→St→Prop):Res→Fr→St→Prop
 |.norm,f,t=>∃x,p x∧Gc C f t (fr1 x) (s1 x)
 |r,f,t=>Q r f t
theorem P2{α:Type}{C:Cx}{ia ib:ICode}{fr:Fr}{Q:Res→Fr→St→Prop}(p:α→Prop)(fr1:α→Fr)(s1:α→St)(h1:Tri C ia fr s (Gcx p C fr1 s1 Q))(h2:∀x,p x→Tri C ib (fr1 x) (s1 x) Q):Tri C (.seq ia ib) fr s Q:=
 qg (h1.mono fun r f t=>by
  cases r with
  |norm=>exact fun⟨x,hp,hg⟩=>zxd hg (h2 x hp)
  |exit i=>exact fun h=>h
  |ret=>exact fun h=>h)
theorem zn5{kd n:Int}{t:List Nat}{ks:List DT}{p:Int}(h:qt (.mk kd n t ks p)=none):(eqD kd (.ofNat 6)=false)∨(kd=.ofNat 6∧¬ks.length=2):=by
 by_cases hk:kd=.ofNat 6
 ·exact .inr ⟨hk,Qc h hk⟩
 ·exact .inl (qj hk)
def zv6(c:Int):Bool:=match c with
 |.ofNat n=>qK n
 |.negSucc _=>false
theorem qk:qK n=true↔n≤1114111∧(n<55296∨57343<n):=by
 unfold qK;rw[Gj];by_cases h:n<55296
 ·rw[if_pos h];simp;omega
 ·rw[if_neg h,Bool.and_eq_true,xR,xR];omega
theorem znM:zv6 (.ofNat n)=decide (n≤1114111∧(n<55296∨57343<n)):=by
 show qK n=_;by_cases h:n≤1114111∧(n<55296∨57343<n)
 ·rw[qk.2 h];exact(decide_eq_true h).symm
 ·rw[decide_eq_false h];cases hv:qK n with
  |false=>rfl
  |true=>exact absurd (qk.1 hv) h
def zz3(c:Int):List AV:=[.int .i64 c]
theorem zsA:∀x y,zz3 x=zz3 y→x=y:=fun x y h=>by
 simp only[zz3,List.cons.injEq,AV.int.injEq,true_and,and_true]at h;exact h
noncomputable def gIs:List AV→St→Option (AV×St):=vr zz3 (fun _=>True) (fun c=>.bool (zv6 c))
theorem znN{f:Nat}(h:O f=some gIs)(c:Int)(s:St):(evW env O).call f [.int .i64 c] s=some (.bool (zv6 c),s):=by
 rw[wx h,gIs,qH zsA s c trivial rfl]
attribute [local go_sem] zz3 zv6 f174 in
theorem zjD(B:Bx P w0)(hO:OrcOk P w0 O)(o82:O 174=none)(c:Int):
  SC P w0 146 (zz3 c) (H [] 0 true) (.bool (zv6 c)) (H [] 0 true):=by
 refine Is.sc hO B.mixed B.glob B.env 0 (show env.funs.get 146=some f146 from rfl) (ziF rfl) kV fun C k=>?_;have cv:= @vF env O _ _ o82 (show env.funs.get 174=some f174 from rfl) rfl;unfold f146 cF;simp only;cases c with
 |negSucc m=>
  refine k.z ?_;exact fin
 | ofNat n=>
  rw[znM];by_cases h1:n≤1114111
  ·by_cases h2:n<55296
   ·rw[decide_eq_true ⟨h1,.inl h2⟩];refine k.z ?_;exact fin
   ·by_cases h3:57343<n
    ·rw[decide_eq_true ⟨h1,.inr h3⟩];refine k.z ?_;exact fin
    ·rw[decide_eq_false oM];refine k.z ?_;exact fin
  ·rw[decide_eq_false oM];refine k.z ?_;exact fin
open Int (reduceOfNat reduceNegSucc)
def kQ(l:List Nat):List AV:=[.lst l.length false (x9 l)]
theorem VW:∀x y,kQ x=kQ y→x=y:=fun x y h=>by
 simp only[kQ,List.cons.injEq,AV.lst.injEq,true_and,and_true]at h;exact Vi h.2
theorem XT(l:List Nat):xN (kQ l)=true:=by simp only[kQ,xY,wN,x6,xe]
theorem GF(l:List Nat)(e:Bool):wkL [AV.lst l.length e (x9 l)]=kQ l:=by simp only[kQ,wkL,wkV,WC]
def H9(l:List Nat):Option (Nat×Nat):=if (ue l).1=65533∧(ue l).2≤1 then none else some (ue l)
theorem zky(a b:Nat):Nat.div a b=a/b:=rfl
theorem bb(a b:Nat):Nat.beq a b=decide (a=b):=by
 cases h:Nat.beq a b with
 |true=>exact(decide_eq_true (xT.1 h)).symm
 |false=>exact(decide_eq_false (fun h'=>by rw[xT.2 h']at h;cases h)).symm
theorem ku(a b:Nat):YZ a b=a%32*64+b%64:=rfl
theorem ZA(a b c:Nat):ZX a b c=a%16*4096+b%64*64+c%64:=rfl
theorem ZB(a b c d:Nat):VM a b c d=a%8*262144+b%64*4096+c%64*64+d%64:=rfl
theorem zzO(a:Nat):ue [a]=if a<128 then (a,1)else (65533,1):=by
 simp only[ue,Y1,ziI]
theorem zzP(a b:Nat):ue [a,b]=if a<128 then (a,1)else if a/32=6∧b/64=2∧128≤YZ a b then (YZ a b,2)else (65533,1):=by
 simp only[ue,Y1,ziI,Ja,bb,Y0,zky];by_cases h0:a<128
 ·rw[if_pos h0,if_pos h0]
 rw[if_neg h0,if_neg h0];by_cases h1:a/32=6<;>by_cases h2:b/64=2<;>by_cases h3:128≤YZ a b<;>simp[h1,h2,h3]
theorem zzQ(a b c:Nat):ue [a,b,c]=if a<128 then (a,1)else if a/32=6∧b/64=2∧128≤YZ a b then (YZ a b,2)else if a/16=14∧b/64=2∧c/64=2∧2048≤ZX a b c∧qK (ZX a b c)=true then (ZX a b c,3)else (65533,1):=by
 simp only[ue,Y1,ziI,Ja,bb,Y0,zky];by_cases h0:a<128
 ·rw[if_pos h0,if_pos h0]
 rw[if_neg h0,if_neg h0];by_cases h1:a/32=6
 ·have h4:¬a/16=14:=oM;by_cases h2:b/64=2<;>by_cases h3:128≤YZ a b<;>simp[h1,h2,h3,h4]
 ·by_cases h4:a/16=14<;>by_cases h2:b/64=2<;>by_cases h5:c/64=2<;>by_cases h6:2048≤ZX a b c<;>cases h7:qK (ZX a b c)<;>simp[h1,h2,h4,h5,h6]
theorem GA(a b c d:Nat)(r:List Nat):ue (a::b::c::d::r)=if a<128 then (a,1)else if a/32=6∧b/64=2∧128≤YZ a b then (YZ a b,2)else if a/16=14∧b/64=2∧c/64=2∧2048≤ZX a b c∧qK (ZX a b c)=true then (ZX a b c,3)
  else if a/8=30∧b/64=2∧c/64=2∧d/64=2∧65536≤VM a b c d∧qK (VM a b c d)=true then (VM a b c d,4)else (65533,1):=by
 simp only[ue,Y1,ziI,Ja,bb,Y0,zky];by_cases h0:a<128
 ·rw[if_pos h0,if_pos h0]
 rw[if_neg h0,if_neg h0];by_cases h1:a/32=6
 ·have h4:¬a/16=14:=oM;have h8:¬a/8=30:=oM;by_cases h2:b/64=2<;>by_cases h3:128≤YZ a b<;>simp[h1,h2,h3,h4,h8]
 ·by_cases h4:a/16=14
  ·have h8:¬a/8=30:=oM;by_cases h2:b/64=2<;>by_cases h5:c/64=2<;>by_cases h6:2048≤ZX a b c<;>cases h7:qK (ZX a b c)<;>simp[h1,h2,h4,h5,h6,h8]
  ·by_cases h8:a/8=30<;>by_cases h2:b/64=2<;>by_cases h5:c/64=2<;>by_cases h9:d/64=2<;>by_cases h6:65536≤VM a b c d<;>cases h7:qK (VM a b c d)<;>simp[h1,h2,h4,h5,h6,h8,h9]
theorem zjp{a:Nat}(h:a<256):qw .and .u8 (.ofNat a) .u8 (.ofNat 31)=some (.int .u8 (.ofNat (a%32))):=by
 have:∀a,a<256→bits .and .u8 (.ofNat a) (.ofNat 31)=some (.ofNat (a%32)):=by decide+kernel
 show (match bits .and .u8 (.ofNat a) (.ofNat 31)with|some n=>some (AV.int .u8 n)|none=>none)=_
 rw[this a h]
theorem zjo{a:Nat}(h:a<256):qw .and .u8 (.ofNat a) .u8 (.ofNat 15)=some (.int .u8 (.ofNat (a%16))):=by
 have:∀a,a<256→bits .and .u8 (.ofNat a) (.ofNat 15)=some (.ofNat (a%16)):=by decide+kernel
 show (match bits .and .u8 (.ofNat a) (.ofNat 15)with|some n=>some (AV.int .u8 n)|none=>none)=_
 rw[this a h]
theorem zoj{a:Nat}(h:a<256):qw .and .u8 (.ofNat a) .u8 (.ofNat 7)=some (.int .u8 (.ofNat (a%8))):=by
 have:∀a,a<256→bits .and .u8 (.ofNat a) (.ofNat 7)=some (.ofNat (a%8)):=by decide+kernel
 show (match bits .and .u8 (.ofNat a) (.ofNat 7)with|some n=>some (AV.int .u8 n)|none=>none)=_
 rw[this a h]
theorem ztB{a:Nat}(h:a<256):qw .and .u8 (.ofNat a) .u8 (.ofNat 63)=some (.int .u8 (.ofNat (a%64))):=by
 have:∀a,a<256→bits .and .u8 (.ofNat a) (.ofNat 63)=some (.ofNat (a%64)):=by decide+kernel
 show (match bits .and .u8 (.ofNat a) (.ofNat 63)with|some n=>some (AV.int .u8 n)|none=>none)=_
 rw[this a h]
theorem zok{a:Nat}(h:a<256):qw .andNot .i32 (.ofNat a) .i32 (.negSucc 0)=some (.int .i32 (.ofNat 0)):=by
 have:∀a,a<256→bits .andNot .i32 (.ofNat a) (.negSucc 0)=some (.ofNat 0):=by decide+kernel
 show (match bits .andNot .i32 (.ofNat a) (.negSucc 0)with|some n=>some (AV.int .i32 n)|none=>none)=_
 rw[this a h]
theorem zig:qw .and .i32 (.ofNat 65533) .i32 (.negSucc 0)=some (.int .i32 (.ofNat 65533)):=by
 have:bits .and .i32 (.ofNat 65533) (.negSucc 0)=some (.ofNat 65533):=by decide+kernel
 show (match bits .and .i32 (.ofNat 65533) (.negSucc 0)with|some n=>some (AV.int .i32 n)|none=>none)=_
 rw[this]
theorem zj1:qw .shl .i32 (.ofNat 241) .u64 (.ofNat 31)=some (.int .i32 (.negSucc 2147483647)):=by
 have:qJ .i32 (zA 241*2^(min (zA 31).toNat (IntKind.bits .i32)))=.negSucc 2147483647:=by decide+kernel
 show some (AV.int .i32 _)=_;rw[this]
theorem zj4:qw .shr .i32 (.negSucc 2147483647) .u64 (.ofNat 31)=some (.int .i32 (.negSucc 0)):=by
 have:(Int.negSucc 2147483647).fdiv (2^(min (zA 31).toNat (IntKind.bits .i32)))=.negSucc 0:=by decide+kernel
 show some (AV.int .i32 _)=_;rw[this]
theorem zmB(a:Nat):qw .shr .u8 (.ofNat a) .u64 (.ofNat 4)=some (.int .u8 (.ofNat (a/16))):=by
 show some (AV.int .u8 (Int.fdiv (.ofNat a) (.ofNat 16)))=_;cases a<;>rfl
theorem zkZ(a:Nat):qw .shl .i32 (.ofNat a) .u64 (.ofNat 6)=some (.int .i32 (qJ .i32 (.ofNat (a*64)))):=rfl
theorem zly(a:Nat):qw .shl .i32 (.ofNat a) .u64 (.ofNat 12)=some (.int .i32 (qJ .i32 (.ofNat (a*4096)))):=rfl
theorem zj2(a:Nat):qw .shl .i32 (.ofNat a) .u64 (.ofNat 18)=some (.int .i32 (qJ .i32 (.ofNat (a*262144)))):=rfl
theorem zts(h:n<2147483648):IntKind.wrap .i32 ((n:Nat):Int)=.ofNat n:=by
 have h1:((n:Nat):Int)%(2^IntKind.bits .i32:Int)=(n:Int):=by
  show (n:Int)%4294967296=_;omega
 have h2:¬((n:Nat):Int)≥(2^(IntKind.bits .i32-1):Int):=by
  show ¬(n:Int)≥2147483648;omega
 unfold IntKind.wrap;simp only[h1,h2,decide_false,Bool.and_false,Bool.false_eq_true,if_false];rfl
theorem orN{a b:Nat}(h:a<16777216)(h':b<16777216):qw .or .i32 (.ofNat a) .i32 (.ofNat b)=some (.int .i32 (.ofNat (a|||b))):=by
 have e:∀n,n<16777216→BitVec.ofInt 32 (zA n)=BitVec.ofNat 32 n:=fun n _=>rfl;have hor:a|||b<16777216:=Nat.or_lt_two_pow (n:=24) h h'
 have:bits .or .i32 (.ofNat a) (.ofNat b)=some (.ofNat (a|||b)):=by
  show some (IntKind.wrap .i32 _)=_
  congr 1
  have:((BitVec.ofInt (IntKind.bits .i32) (zA a))|||(BitVec.ofInt (IntKind.bits .i32) (zA b))).toNat=a|||b:=by
   show ((BitVec.ofNat 32 a)|||(BitVec.ofNat 32 b)).toNat=_
   rw[BitVec.toNat_or,BitVec.toNat_ofNat,BitVec.toNat_ofNat,Nat.mod_eq_of_lt oM,Nat.mod_eq_of_lt oM]
  rw[this];exact zts oM
 show (match bits .or .i32 (.ofNat a) (.ofNat b)with|some n=>some (AV.int .i32 n)|none=>none)=_
 rw[this]
theorem or2{a b:Nat}(h:b<64):a*64|||b=a*64+b:=by
 have:=ziG (i:=6) h a;rw[yh a 64];exact this.symm
theorem zjQ{a b:Nat}(h:b<64):a*4096|||b*64=a*4096+b*64:=by
 have e1:=ziG (i:=12) (b:=b*64) oM a;rw[yh a 4096];exact e1.symm
theorem zjR{a b c:Nat}(h:c<64):(a*4096+b*64)|||c=a*4096+b*64+c:=by
 have:=or2 (a:=a*64+b) h;rw[show (a*64+b)*64=a*4096+b*64 by omega]at this;exact this
theorem zis{a b:Nat}(h:b<64):a*262144|||b*4096=a*262144+b*4096:=by
 have e1:=ziG (i:=18) (b:=b*4096) oM a;rw[yh a 262144];exact e1.symm
theorem zjS{a b c:Nat}(h:c<64):(a*262144+b*4096)|||c*64=a*262144+b*4096+c*64:=by
 have:=zjQ (a:=a*64+b) h;rw[show (a*64+b)*4096=a*262144+b*4096 by omega]at this;exact this
theorem zjT{a b c d:Nat}(h:d<64):(a*262144+b*4096+c*64)|||d=a*262144+b*4096+c*64+d:=by
 have:=or2 (a:=a*4096+b*64+c) h;rw[show (a*4096+b*64+c)*64=a*262144+b*4096+c*64 by omega]at this;exact this
def kg(c:Nat):Nat:=if c<128 then 240 else if c<194 then 241 else if c<224 then 2 else if c=224 then 19 else if c<237 then 3 else if c=237 then 35 else if c<240 then 3 else if c=240 then 52 else if c<244 then 4 else if c=244 then 68 else 241
def u8V(v:Option AV)(n:Nat):Bool:=match v with
 |some (.int .u8 (.ofNat m))=>Nat.beq m n
 |_=>false
theorem zja{v:Option AV}(h:u8V v n=true):v=some (.int .u8 (.ofNat n)):=by
 unfold u8V at h;split at h
 ·rw[xT.1 h]
 ·cases h
theorem zxO{c:Nat}(h:c<256)(s:St):vLd env.globs s (.gptr 0 c)=some (.int .u8 (.ofNat (kg c))):=by
 have key:(List.range 256).all (fun c=>u8V (vLd env.globs s0 (.gptr 0 c)) (kg c))=true:=by decide+kernel
 have:=zja (List.all_eq_true.1 key c (List.mem_range.2 h));rw[←this];rfl
theorem zxP(s:St):Zw env.globs s 2 (.gptr 1 0)=some (.agg [.int .u8 (.ofNat 128),.int .u8 (.ofNat 191)])∧Zw env.globs s 2 (.gptr 1 2)=some (.agg [.int .u8 (.ofNat 160),.int .u8 (.ofNat 191)])∧Zw env.globs s 2 (.gptr 1 4)=some (.agg [.int .u8 (.ofNat 128),.int .u8 (.ofNat 159)])∧Zw env.globs s 2 (.gptr 1 6)=some (.agg [.int .u8 (.ofNat 144),.int .u8 (.ofNat 191)])∧Zw env.globs s 2 (.gptr 1 8)=some (.agg [.int .u8 (.ofNat 128),.int .u8 (.ofNat 143)]):=
 ⟨rfl,rfl,rfl,rfl,rfl⟩
theorem Hk{g off i:Nat}{k:IntKind}(h:i<n):P7 n esz (.gptr g off) (.int k (.ofNat i))=some (.gptr g (off+i*esz)):=by
 simp only[P7,Uq k h];rfl
noncomputable def uO(l:List Nat):AV:=.tup [.int .i32 (.ofNat (ue l).1),.int .i64 (.ofNat (ue l).2)]
theorem VN(l:List Nat):x8 (uO l)=true:=by simp only[uO,uz,xY,qu,x6,xe]
theorem dl4{a b c d:Nat}{r:List Nat}{v:Nat×Nat}(h:ue (a::b::c::d::r)=v:=by (rw[GA];(repeat' split);all_goals first|rfl|(exfalso;(try simp only[ku,ZA,ZB,qk]at *);omega))):uO (a::b::c::d::r)=.tup [.int .i32 (.ofNat v.1),.int .i64 (.ofNat v.2)]:=by subst h;rfl
theorem dl3{a b c:Nat}{r:List Nat}{v:Nat×Nat}(h:ue [a,b,c]=v:=by (rw[zzQ];(repeat' split);all_goals first|rfl|(exfalso;(try simp only[ku,ZA,ZB,qk]at *);omega)))(h4:∀d s,r=d::s→ue (a::b::c::d::s)=v:=by (intros;first|contradiction|(rw[GA];(repeat' split);all_goals first|rfl|(exfalso;(try simp only[ku,ZA,ZB,qk]at *);omega)))):uO (a::b::c::r)=.tup [.int .i32 (.ofNat v.1),.int .i64 (.ofNat v.2)]:=by
 cases r with
 |nil=>subst h;rfl
 |cons d s=>exact h4 d s rfl▸rfl
theorem dl2{a b:Nat}{r:List Nat}{v:Nat×Nat}(h:ue [a,b]=v:=by (rw[zzP];(repeat' split);all_goals first|rfl|(exfalso;(try simp only[ku,ZA,ZB,qk]at *);omega)))(h3:∀c s,r=c::s→uO (a::b::c::s)=.tup [.int .i32 (.ofNat v.1),.int .i64 (.ofNat v.2)]:=by (intros;first|contradiction|exact dl3)):uO (a::b::r)=.tup [.int .i32 (.ofNat v.1),.int .i64 (.ofNat v.2)]:=by
 cases r with
 |nil=>subst h;rfl
 |cons d s=>exact h3 d s rfl
theorem dl1{a:Nat}{r:List Nat}{v:Nat×Nat}(h:ue [a]=v:=by (rw[zzO];(repeat' split);all_goals first|rfl|(exfalso;(try simp only[ku,ZA,ZB,qk]at *);omega)))(h2:∀c s,r=c::s→uO (a::c::s)=.tup [.int .i32 (.ofNat v.1),.int .i64 (.ofNat v.2)]:=by (intros;first|contradiction|exact dl2)):uO (a::r)=.tup [.int .i32 (.ofNat v.1),.int .i64 (.ofNat v.2)]:=by
 cases r with
 |nil=>subst h;rfl
 |cons d s=>exact h2 d s rfl
attribute [local go_sem] kQ Hk zoj zmB zj1 zj4 zok zig orN Nat.zero_or in
theorem zpx(B:Bx P w0)(hO:OrcOk P w0 O)(b0:Nat)(r:List Nat)(hb:Byt (b0::r))(hc:128≤b0∧(b0<194∨244<b0))(hlen:(b0::r).length<2000000):
  SC P w0 211 (kQ (b0::r)) (H [] 0 true) (uO (b0::r)) (H [] 0 true):=by
 refine Is.sc hO B.mixed B.glob B.env 0 (show env.funs.get 211=some f211 from rfl) (ziF rfl) kV fun C k=>?_;have h0:b0<256:=hb b0 (by simp)
 have hx:kg b0=241:=by
  unfold kg
  repeat' split
  all_goals omega
 have hl2:=fun s=>zxO (c:=b0) h0 s;rw[hx]at hl2;have hl3:=fun s=>zxP s;unfold f211 cF;simp only[Ko];rw[dl1 (v:=(65533,1))];refine k.z ?_;exact fin
attribute [local go_sem] kQ Hk zoj zmB zjp ztB zkZ orN or2 ku in
theorem zpy(B:Bx P w0)(hO:OrcOk P w0 O)(b0:Nat)(r:List Nat)(hb:Byt (b0::r))(hc:128≤b0∧(194≤b0∧b0<224))(hlen:(b0::r).length<2000000):
  SC P w0 211 (kQ (b0::r)) (H [] 0 true) (uO (b0::r)) (H [] 0 true):=by
 refine Is.sc hO B.mixed B.glob B.env 0 (show env.funs.get 211=some f211 from rfl) (ziF rfl) kV fun C k=>?_;have h0:b0<256:=hb b0 (by simp)
 have hx:kg b0=2:=by
  unfold kg
  repeat' split
  all_goals omega
 have hl2:=fun s=>zxO (c:=b0) h0 s;rw[hx]at hl2;have hl3:=fun s=>zxP s;unfold f211 cF;simp only[Ko]
 match r,hb,hlen with
 |[],hb,hlen=>
  rw[dl1 (v:=(65533,1))];refine k.z ?_;exact fin
 | b1::r,hb,hlen=>
  have h1:b1<256:=hb b1 (by simp)
  simp only[zU]at hlen;have hlr:r.length<2000000:=oM;by_cases g1:b1<128
  case pos=>
   rw[dl2 (v:=(65533,1))];refine k.z ?_;exact fin
  by_cases g2:191<b1
  case pos=>
   rw[dl2 (v:=(65533,1))];refine k.z ?_;exact fin
  rw[dl2 (v:=(YZ b0 b1,2))];refine k.z ?_;exact fin
attribute [local go_sem] kQ Hk zoj zmB zjo ztB zkZ zly orN zjQ zjR ZA in
theorem zpz(B:Bx P w0)(hO:OrcOk P w0 O)(b0:Nat)(r:List Nat)(hb:Byt (b0::r))(hc:224≤b0∧b0<240)(hlen:(b0::r).length<2000000):
  SC P w0 211 (kQ (b0::r)) (H [] 0 true) (uO (b0::r)) (H [] 0 true):=by
 refine Is.sc hO B.mixed B.glob B.env 0 (show env.funs.get 211=some f211 from rfl) (ziF rfl) kV fun C k=>?_;have h0:b0<256:=hb b0 (by simp)
 obtain⟨x,lo,hi,hx,hq⟩:∃x lo hi,kg b0=x∧((x=19∧lo=160∧hi=191∧b0<225)∨(x=3∧lo=128∧hi=191∧225≤b0∧(b0<237∨238≤b0))∨(x=35∧lo=128∧hi=159∧237≤b0∧b0<238)):=by
  refine⟨kg b0,if b0<225 then 160 else 128,if 237≤b0∧b0<238 then 159 else 191,rfl,?_⟩;unfold kg
  repeat' split
  all_goals omega
 have hl2:=fun s=>zxO (c:=b0) h0 s;rw[hx]at hl2;clear hx;have hl3:=fun s=>zxP s;unfold f211 cF;simp only[Ko]
 match r,hb,hlen with
 |[],hb,hlen=>
  rcases hq with ⟨rfl,rfl,rfl,hq⟩|⟨rfl,rfl,rfl,hq⟩|⟨rfl,rfl,rfl,hq⟩
  all_goals rw[dl1 (v:=(65533,1))];refine k.z ?_;exact fin
 |[b1],hb,hlen=>
  have h1:b1<256:=hb b1 (by simp)
  rcases hq with ⟨rfl,rfl,rfl,hq⟩|⟨rfl,rfl,rfl,hq⟩|⟨rfl,rfl,rfl,hq⟩
  all_goals rw[dl2 (v:=(65533,1))];refine k.z ?_;exact fin
 | b1::b2::r,hb,hlen=>
  have h1:b1<256:=hb b1 (by simp)
  have h2:b2<256:=hb b2 (by simp)
  simp only[zU]at hlen;have hlr:r.length<2000000:=oM;by_cases g1:b1<lo
  rotate_left
  by_cases g2:hi<b1
  rotate_left
  by_cases g3:b2<128
  rotate_left
  by_cases g4:191<b2
  rotate_left
  rw[dl3 (v:=(ZX b0 b1 b2,3))]
  rotate_left
  iterate 4 (rw[dl3 (v:=(65533,1))];rotate_left)
  all_goals
   rcases hq with ⟨rfl,rfl,rfl,hq⟩|⟨rfl,rfl,rfl,hq⟩|⟨rfl,rfl,rfl,hq⟩
   all_goals refine k.z ?_;exact fin
attribute [local go_sem] kQ Hk zoj zmB ztB zkZ zly zj2 orN zis zjS zjT ZB in
theorem zpA(B:Bx P w0)(hO:OrcOk P w0 O)(b0:Nat)(r:List Nat)(hb:Byt (b0::r))(hc:240≤b0∧b0<245)(hlen:(b0::r).length<2000000):
  SC P w0 211 (kQ (b0::r)) (H [] 0 true) (uO (b0::r)) (H [] 0 true):=by
 refine Is.sc hO B.mixed B.glob B.env 0 (show env.funs.get 211=some f211 from rfl) (ziF rfl) kV fun C k=>?_;have h0:b0<256:=hb b0 (by simp)
 obtain⟨x,lo,hi,hx,hq⟩:∃x lo hi,kg b0=x∧((x=52∧lo=144∧hi=191∧b0<241)∨(x=4∧lo=128∧hi=191∧241≤b0∧b0<244)∨(x=68∧lo=128∧hi=143∧244≤b0)):=by
  refine⟨kg b0,if b0<241 then 144 else 128,if 244≤b0 then 143 else 191,rfl,?_⟩;unfold kg
  repeat' split
  all_goals omega
 have hl2:=fun s=>zxO (c:=b0) h0 s;rw[hx]at hl2;clear hx;have hl3:=fun s=>zxP s;unfold f211 cF;simp only[Ko]
 match r,hb,hlen with
 |[],hb,hlen=>
  rcases hq with ⟨rfl,rfl,rfl,hq⟩|⟨rfl,rfl,rfl,hq⟩|⟨rfl,rfl,rfl,hq⟩
  all_goals rw[dl1 (v:=(65533,1))];refine k.z ?_;exact fin
 |[b1],hb,hlen=>
  have h1:b1<256:=hb b1 (by simp)
  rcases hq with ⟨rfl,rfl,rfl,hq⟩|⟨rfl,rfl,rfl,hq⟩|⟨rfl,rfl,rfl,hq⟩
  all_goals rw[dl2 (v:=(65533,1))];refine k.z ?_;exact fin
 |[b1,b2],hb,hlen=>
  have h1:b1<256:=hb b1 (by simp)
  have h2:b2<256:=hb b2 (by simp)
  rcases hq with ⟨rfl,rfl,rfl,hq⟩|⟨rfl,rfl,rfl,hq⟩|⟨rfl,rfl,rfl,hq⟩
  all_goals rw[dl3 (v:=(65533,1))];refine k.z ?_;exact fin
 | b1::b2::b3::r,hb,hlen=>
  have h1:b1<256:=hb b1 (by simp)
  have h2:b2<256:=hb b2 (by simp)
  have h3:b3<256:=hb b3 (by simp)
  simp only[zU]at hlen;have hlr:r.length<2000000:=oM;by_cases g1:b1<lo
  rotate_left
  by_cases g2:hi<b1
  rotate_left
  by_cases g3:b2<128
  rotate_left
  by_cases g4:191<b2
  rotate_left
  by_cases g5:b3<128
  rotate_left
  by_cases g6:191<b3
  rotate_left
  rw[dl4 (v:=(VM b0 b1 b2 b3,4))]
  rotate_left
  iterate 6 (rw[dl4 (v:=(65533,1))];rotate_left)
  all_goals
   rcases hq with ⟨rfl,rfl,rfl,hq⟩|⟨rfl,rfl,rfl,hq⟩|⟨rfl,rfl,rfl,hq⟩
   all_goals refine k.z ?_;exact fin
theorem zmD(B:Bx P w0)(hO:OrcOk P w0 O)(b0:Nat)(r:List Nat)(hb:Byt (b0::r))(hc:128≤b0)(hlen:(b0::r).length<2000000):
  SC P w0 211 (kQ (b0::r)) (H [] 0 true) (uO (b0::r)) (H [] 0 true):=by
 have h0:b0<256:=hb b0 (by simp)
 by_cases c1:b0<194∨244<b0
 ·exact zpx B hO b0 r hb ⟨hc,c1⟩ hlen
 by_cases c2:b0<224
 ·exact zpy B hO b0 r hb ⟨hc,oM,c2⟩ hlen
 by_cases c5:b0<240
 ·exact zpz B hO b0 r hb ⟨oM,c5⟩ hlen
 exact zpA B hO b0 r hb ⟨oM,oM⟩ hlen
def zog(l:List Nat):Prop:=∃b0 r,l=b0::r∧Byt l∧128≤b0∧l.length<2000000
noncomputable def LG:List AV→St→Option (AV×St):=vr kQ zog uO
theorem zuO(h:O 211=some LG){b0:Nat}{r:List Nat}(hb:Byt (b0::r))(h1:128≤b0)(h2:(b0::r).length<2000000)(e:Bool)(s:St):(evW env O).call 211 [.lst (r.length+1) e (.int .u8 (.ofNat b0)::x9 r)] s=some (uO (b0::r),s):=by
 rw[wx h,LG];exact qH VW s (b0::r) ⟨b0,r,rfl,hb,h1,h2⟩ (GF (b0::r) e)
def zjn(l:List Nat):Prop:=l≠[]∧Byt l∧l.length<2000000
noncomputable def gDr:List AV→St→Option (AV×St):=vr kQ zjn uO
theorem zoK(h:O 196=some gDr){l:List Nat}(h0:l≠[])(hb:Byt l)(h2:l.length<2000000)(hn:n=l.length)(e:Bool)(s:St):(evW env O).call 196 [.lst n e (x9 l)] s=some (uO l,s):=by
 subst hn;rw[wx h,gDr,qH VW s l ⟨h0,hb,h2⟩ (GF l e)]
theorem VO{b0:Nat}(h:b0<128)(r:List Nat):ue (b0::r)=(b0,1):=by
 simp only[ue,Gj,if_pos h]
attribute [local go_sem] kQ in
theorem zju(B:Bx P w0)(hO:OrcOk P w0 O)(h117:O 211=some LG)(l:List Nat)(hl:l≠[])(hb:Byt l)(hlen:l.length<2000000):
  SC P w0 196 (kQ l) (H [] 0 true) (uO l) (H [] 0 true):=by
 refine Is.sc hO B.mixed B.glob B.env 0 (show env.funs.get 196=some f196 from rfl) (ziF rfl) kV fun C k=>?_
 match l,hl,hb,hlen with
 |b0::r,_,hb,hlen=>
 have h0:b0<256:=hb b0 (by simp)
 unfold f196 cF;simp only;refine k.q ?_;by_cases h1:b0<128
 ·rw[uO,VO h1];refine qg ?_;refine k.q ?_;refine vf (jn (ZU (k.ev ?_)));simp (disch:=first|exact dis|fail)only[go_sem,seval,-rO,-rN,h1]
  refine⟨_,rfl,?_⟩;simp only[wH,kl];exact fin
 ·have hs:=zuO h117 (b0:=b0) (r:=r) hb oM hlen;rw[uO]at hs⊢;refine qg ?_;refine k.q ?_;refine vf (jn (ZU (k.ev ?_)));simp (disch:=first|exact dis|fail)only[go_sem,seval,-rO,-rN,h1]
  refine⟨_,rfl,?_⟩;simp only[wH,kl];refine k.z ?_;exact fin
theorem JN:∀{l:List Nat},l≠[]→1≤(ue l).2∧(ue l).2≤l.length∧qK (ue l).1=true
 |[],h=>absurd rfl h
 |[a],_=>by
  rw[zzO];split
  ·exact⟨zo _,by simp,qk.2 oM⟩
  ·exact⟨zo _,by simp,rfl⟩
 | [a,b],_=>by
  rw[zzP];split
  ·exact⟨zo _,by simp,qk.2 (by simp only;omega)⟩
  ·split
   ·exact⟨by simp,by simp,qk.2 (by simp only[ku];omega)⟩
   ·exact⟨zo _,by simp,rfl⟩
 | [a,b,c],_=>by
  rw[zzQ];split
  ·exact⟨zo _,by simp,qk.2 (by simp only;omega)⟩
  ·split
   ·exact⟨by simp,by simp,qk.2 (by simp only[ku];omega)⟩
   ·split
    ·rename_i h;exact⟨by simp,by simp,h.2.2.2.2⟩
    ·exact⟨zo _,by simp,rfl⟩
 | a ::b::c::d::r,_=>by
  rw[GA];simp only[zU];split
  ·exact⟨zo _,by simp only;omega,qk.2 (by simp only;omega)⟩
  ·split
   ·exact⟨by simp,by simp only;omega,qk.2 (by simp only[ku];omega)⟩
   ·split
    ·rename_i h;exact⟨by simp,by simp only;omega,h.2.2.2.2⟩
    ·split
     ·rename_i h;exact⟨by simp,by simp only;omega,h.2.2.2.2.2⟩
     ·exact⟨zo _,by simp only;omega,rfl⟩
def U7(b:List Nat):Nat→Nat→List (Nat×Nat)→Sum (List (Nat×Nat)) Nat
 |0,i,_=>.inr i
 |k+1,i,acc=>if b.length≤i then .inl acc else match H9 (b.drop i)with
  |none=>.inr i
  |some p=>U7 b k (i+p.2) (acc++[(p.1,i)])
def vT(l:List (Nat×Nat)):List AV:=xA (fun p:Nat×Nat=>[AV.int .i64 (.ofNat p.1),.int .i64 (.ofNat p.2)]) l
theorem v9(l:List (Nat×Nat)):xN (vT l)=true:=wz (fun p=>by simp only[xY,qu,x6,xe]) l
theorem zw0(l:List (Nat×Nat)):wkL (vT l)=vT l:=vM (fun p=>rfl) l
theorem JK(l:List (Nat×Nat))(p:Nat×Nat):vT (l++[p])=vT l++[.int .i64 (.ofNat p.1),.int .i64 (.ofNat p.2)]:=by unfold vT;rw[wj,qO]
theorem jU(p:Nat×Nat)(l:List (Nat×Nat)):vT (p::l)=.int .i64 (.ofNat p.1)::.int .i64 (.ofNat p.2)::vT l:=rfl
theorem Yi:vT []=[]:=rfl
def Gg(id:Nat)(acc:List (Nat×Nat)):AV:=match acc with
 |[]=>.nils
 |t::r=>.gr id 2 (t::r).length (vT (t::r))
def YR(ty:Nat)(acc:List (Nat×Nat)):List (Option AObj):=match acc with
 |[]=>[]
 |t::r=>[some (.app ty (vT (t::r)))]
theorem zxR{l:List (Nat×Option AObj)}{n m id pos:Nat}{md:Bool}{t:List Nat}{x:Nat}{r:List Nat}(hg:xD l id=some (.siter t pos))(hd:t.drop pos=x::r):
  oNs (KL l n m md [] none) (.ptr id 0)=some (.tup [.bool true,.int .i64 (.ofNat pos),.int .i32 (.ofNat (ue (x::r)).1)],KL ((id,some (.siter t (pos+(ue (x::r)).2)))::l) n (uG m id) md [] none):=by
 simp only[oNs,x5,hg,kP,hd,uX];rfl
theorem zqk{l:List (Nat×Option AObj)}{n m id pos:Nat}{md:Bool}{t:List Nat}(hg:xD l id=some (.siter t pos))(hd:t.drop pos=[]):
  oNs (KL l n m md [] none) (.ptr id 0)=some (.tup [.bool false],KL l n m md [] none):=by
 simp only[oNs,x5,hg,kP,hd]
theorem zxT(l:List (Nat×Option AObj))(n m:Nat)(md:Bool)(t:List Nat):oRs (KL l n m md [] none) (.str t)=some (.ptr n 0,KL ((n,some (.siter t 0))::l) (n+1) m md [] none):=rfl
def Gh(b:List Nat):AV:=match U7 b (b.length+1) 0 []with
 |.inl l=>.tup [.lst l.length false (vT l),.agg [.int .i64 (.ofNat 0),.int .i64 (.ofNat 0)]]
 |.inr i=>.tup [.lst 0 false [],.agg [.int .i64 (.ofNat 4),.int .i64 (.ofNat i)]]
theorem zwG(b:List Nat):x8 (Gh b)=true:=by
 unfold Gh;split<;>simp only[uz,xY,wN,ve,qu,x6,xe]
def Qn(b:List Nat):Prop:=Byt b∧b.length<2000000
noncomputable def znD:List AV→St→Option (AV×St):=vr kQ Qn Gh
theorem ztA(h:O 175=some znD){l:List Nat}(hb:Byt l)(h2:l.length<2000000)(hn:n=l.length)(e:Bool)(s:St):(evW env O).call 175 [.lst n e (x9 l)] s=some (Gh l,s):=by
 subst hn;rw[wx h,znD,qH VW s l ⟨hb,h2⟩ (GF l e)]
theorem Q9{b:List Nat}:∀{k i:Nat} {acc l:List (Nat×Nat)},acc.length≤i→i≤b.length→U7 b k i acc=.inl l→l.length≤b.length
 |0,_,_,_,_,_,h=>by cases h
 | k+1,i,acc,l,h1,h2,h=>by
  rw[U7]at h;split at h
  ·cases h;omega
  ·split at h
   ·cases h
   ·rename_i p hp
    have hne:b.drop i≠[]:=fun he=>by have:=congrArg List.length he;rw[ziH]at this;simp at this;omega
    unfold H9 at hp;split at hp
    ·cases hp
    ·cases hp;have:=JN hne;rw[ziH]at this;exact Q9 (by simp;omega) oM h
attribute [local go_sem] kQ JG zxT Gg YR f197 Yi zw0 in
theorem zlG(B:Bx P w0)(hO:OrcOk P w0 O)(o101:O 197=none)(h100:O 196=some gDr)(b:List Nat)(hb:Byt b)(hlen:b.length<2000000):
  SC P w0 175 (kQ b) (H [] 0 true) (Gh b) (H [] 0 true):=by
 refine Is.sc hO B.mixed B.glob B.env 0 (show env.funs.get 175=some f175 from rfl) (ziF rfl) kV fun C k=>?_;have cw:= @vF env O _ _ o101 (show env.funs.get 197=some f197 from rfl) rfl;unfold f175 cF;simp only;refine k.q ?_;refine k.q ?_;refine P2 (fun l=>U7 b (b.length+1) 0 []=.inl l) (fun l=>⟨tmL [(4,Gg 1 l),(3,.ptr 0 0)],[]⟩) (fun l=>H ([some (.row 211 [.int .i64 (.ofNat 0),.int .i64 (.ofNat 0)] false false)]++YR 214 l) 0 true) ?_ ?_
 ·refine k.q ?_;refine vf (jn (k.gcL [0,1] [11,4,3,0] true (fr1:=⟨tmL [(11,.ptr 1 0),(4,Gg 2 []),(3,.ptr 0 0),(0,.lst b.length false (x9 b))],[]⟩) (s1:=H ([some (.row 211 [.int .i64 (.ofNat 0),.int .i64 (.ofNat 0)] false false),some (.siter b 0)]++YR 214 []) 0 true) (by simp (disch:=first|exact dis|fail)only[go_sem,seval,-rO,-rN,Gg,YR]) ?_))
  refine lI (fun x:Nat×Nat×List (Nat×Nat)=>x.1) (fun x=>⟨tmL [(11,.ptr 1 0),(4,Gg 2 x.2.2),(3,.ptr 0 0),(0,.lst b.length false (x9 b))],[]⟩) (fun x=>H ([some (.row 211 [.int .i64 (.ofNat 0),.int .i64 (.ofNat 0)] false false),some (.siter b x.2.1)]++YR 214 x.2.2) 0 true) (fun x=>U7 b x.1 x.2.1 x.2.2=U7 b (b.length+1) 0 []∧b.length<x.1+x.2.1∧x.2.1≤b.length∧x.2.2.length≤x.2.1) (fun x hx=>?_) (b.length+1,0,[]) ⟨rfl,by simp only;omega,zK _,by simp⟩
  obtain⟨kk,i,acc⟩:=x;obtain⟨g1,g2,g3,g4⟩:=hx;simp only at g1 g2 g3 g4⊢;cases kk with
  |zero=>omega
  |succ kk=>
  rw[U7]at g1;rcases xQ b i with ⟨hi,hd⟩|⟨y,hi,hd⟩
  ·rw[if_pos hi]at g1;have hns:=fun l n m hg=> @zqk l n m 1 i true b hg hd;cases acc with
   |nil=>
    refine k.z ?_;simp only[Gcx];refine⟨[],g1.symm,?_⟩;exact k.g [0] [4,3]
   |cons a0 ar=>
    have hp1:=v9 (a0::ar);refine k.z ?_;simp only[Gcx];refine⟨a0::ar,g1.symm,?_⟩;exact k.g [0,2] [4,3]
  ·rw [if_neg oM,hd]at g1;have hns:=fun l n m hg=> @zxR l n m 1 i true b y _ hg hd;have hsz:=JN (l:=y::b.drop (i+1)) (by simp)
   have hsl:(y::b.drop (i+1)).length=b.length-i:=by rw[←hd,ziH]
   rw[hsl]at hsz;have hbd:Byt (y::b.drop (i+1)):=by rw[←hd];exact hb.drop i
   have hdr:=fun e s=>zoK (O:=O) h100 (l:=b.drop i) (by rw[hd];simp) (hb.drop i) (by rw[ziH];omega) (n:=b.length-i) (by rw[ziH]) e s
   simp only[uO,hd,x9]at hdr;have hc1:=(qk.1 hsz.2.2).1;revert hns hsz hc1 hdr g1;generalize hdl:ue (y::b.drop (i+1))=D;obtain⟨c,sz⟩:=D;intro g1 hns hsz hdr hc1;simp only at hns hsz hdr hc1;by_cases h1:c=65533
   ·subst h1;by_cases h2:sz≤1
    ·have hR:H9 (y::b.drop (i+1))=none:=by unfold H9;rw[hdl,if_pos ⟨rfl,h2⟩]
     rw[hR]at g1;simp only at g1;simp only[Gh,←g1];cases acc with
     |nil=>
      refine k.z ?_;exact fin
     |cons a0 ar=>
      have hp1:=v9 (a0::ar);refine k.z ?_;exact fin
    ·have hR:H9 (y::b.drop (i+1))=some (65533,sz):=by unfold H9;rw[hdl,if_neg (fun h=>h2 h.2)]
     rw[hR]at g1;simp only at g1;cases acc with
     |nil=>
      refine k.z ?_;refine⟨(kk,i+sz,[]++[(65533,i)]),⟨g1,by simp only;omega,by simp only;omega,by simp;omega⟩,zV _,?_⟩
      refine k.gcs (keep:=[0,1,2]) (live:=[11,4,3,0]) (md:=true) ?_;simp (disch:=first|exact dis|fail)only[go_sem,seval,-rO,-rN,Gg,YR,jU,Yi]
     |cons a0 ar=>
      have hp1:=v9 (a0::ar);simp only[zU]at g4;refine k.z ?_;refine⟨(kk,i+sz,(a0::ar)++[(65533,i)]),⟨g1,by simp only;omega,by simp only;omega,by simp;omega⟩,zV _,?_⟩
      refine k.gcs (keep:=[0,1,3]) (live:=[11,4,3,0]) (md:=true) ?_;simp only[zG,Gg,YR,jU,JK,yl,zU,xd];simp (disch:=first|exact dis|fail)only[go_sem,seval,-rO,-rN,v9]
   ·have hR:H9 (y::b.drop (i+1))=some (c,sz):=by unfold H9;rw[hdl,if_neg (fun h=>h1 h.1)]
    rw[hR]at g1;simp only at g1;cases acc with
    |nil=>
     refine k.z ?_;refine⟨(kk,i+sz,[]++[(c,i)]),⟨g1,by simp only;omega,by simp only;omega,by simp;omega⟩,zV _,?_⟩
     refine k.gcs (keep:=[0,1,2]) (live:=[11,4,3,0]) (md:=true) ?_;simp (disch:=first|exact dis|fail)only[go_sem,seval,-rO,-rN,Gg,YR,jU,Yi]
    |cons a0 ar=>
     have hp1:=v9 (a0::ar);simp only[zU]at g4;refine k.z ?_;refine⟨(kk,i+sz,(a0::ar)++[(c,i)]),⟨g1,by simp only;omega,by simp only;omega,by simp;omega⟩,zV _,?_⟩
     refine k.gcs (keep:=[0,1,3]) (live:=[11,4,3,0]) (md:=true) ?_;simp only[zG,Gg,YR,jU,JK,yl,zU,xd];simp (disch:=first|exact dis|fail)only[go_sem,seval,-rO,-rN,v9]
 ·intro l hl;simp only[Gh,hl];cases l with
  |nil=>
   refine k.z ?_;exact fin
  |cons a0 ar=>
   have hp1:=v9 (a0::ar);refine k.z ?_;exact fin
def uc(l:List Nat):List AV:=xA (fun n:Nat=>[AV.int .i64 (.ofNat n)]) l
theorem gE(l:List Nat):xN (uc l)=true:=wz (fun p=>by simp only[xY,qu,x6,xe]) l
theorem zw2(l:List Nat):wkL (uc l)=uc l:=vM (fun p=>rfl) l
theorem zw1(l:List Nat)(p:Nat):uc (l++[p])=uc l++[.int .i64 (.ofNat p)]:=by unfold uc;rw[wj,qO]
theorem WR(p:Nat)(l:List Nat):uc (p::l)=.int .i64 (.ofNat p)::uc l:=rfl
theorem VC:uc []=[]:=rfl
theorem H1(i:Nat)(l:List Nat):wl i (uc l)=uc (l.drop i):=by
 have:=uf (f:=fun n:Nat=>[AV.int .i64 (.ofNat n)]) (k:=1) (fun _=>rfl) i l;rw[Nat.mul_one]at this;exact this
theorem HY(i:Nat)(l:List (Nat×Nat)):wl (i*2) (vT l)=vT (l.drop i):=uf (k:=2) (fun _=>rfl) i l
def YS(id:Nat)(acc:List Nat):AV:=match acc with
 |[]=>.nils
 |t::r=>.gr id 1 (t::r).length (uc (t::r))
def gw(ty:Nat)(acc:List Nat):List (Option AObj):=match acc with
 |[]=>[]
 |t::r=>[some (.app ty (uc (t::r)))]
def kM(b:List Nat):Option (List Nat):=match U7 b (b.length+1) 0 []with
 |.inl l=>some (l.map (·.1))
 |.inr _=>none
def kN(b:List Nat):AV:=match kM b with
 |some l=>.tup [.lst l.length false (uc l),.int .i64 (.ofNat 0)]
 |none=>.tup [.lst 0 false [],.int .i64 (.ofNat 4)]
theorem H2(b:List Nat):x8 (kN b)=true:=by
 unfold kN;split<;>simp only[uz,xY,wN,qu,x6,xe]
def lZ(s:List Nat):List AV:=[.str s]
theorem Y5:∀x y,lZ x=lZ y→x=y:=fun x y h=>by
 simp only[lZ,List.cons.injEq,AV.str.injEq,and_true]at h;exact h
theorem ZF(l:List Nat):xN (lZ l)=true:=by simp only[lZ,xY,lA,x6,xe]
noncomputable def Uj:List AV→St→Option (AV×St):=vr lZ Qn kN
theorem VH{f:Nat}(h:O f=some Uj){l:List Nat}(hb:Byt l)(h2:l.length<2000000)(s:St):(evW env O).call f [.str l] s=some (kN l,s):=by
 rw[wx h,Uj,qH Y5 s l ⟨hb,h2⟩ rfl]
theorem zsh(B:Bx P w0)(hO:OrcOk P w0 O)(h83:O 175=some znD)(b:List Nat)(hb:Byt b)(hlen:b.length<2000000):
  SC P w0 147 (lZ b) (H [] 0 true) (kN b) (H [] 0 true):=by
 refine Is.sc hO B.mixed B.glob B.env 0 (show env.funs.get 147=some f147 from rfl) (ziF rfl) kV fun C k=>?_;have hall:=fun e s=>ztA h83 hb hlen rfl e s;unfold f147 cF;simp only;refine qg (k.eval (by simp (disch:=first|exact dis|fail)only[go_sem,seval,-rO,-rN,lZ];exact rfl) ?_)
 simp only[wH];cases hA:U7 b (b.length+1) 0 []with
 |inr i=>
  simp only[kN,kM,hA];simp only[Gh,hA]at hall;refine k.eval (by simp (disch:=first|exact dis|fail)only[go_sem,seval,-rO,-rN,hall];exact rfl) ?_
  try simp only[wH,kl,Cut,if_true]
  apply Yo (Or.inr rfl)
  iterate 5 (simp (disch:=first|exact dis|fail)only[go_sem,seval,-rO,-rN]<;>exact rfl)
 | inl l=>
  have hl:=Q9 (by simp) (by simp) hA
  simp only[kN,kM,hA];simp only[Gh,hA]at hall;refine qg (k.eval (by simp (disch:=first|exact dis|fail)only[go_sem,seval,-rO,-rN,hall];exact rfl) ?_)
  simp only[wH];refine qg (k.eval (by simp (disch:=first|exact dis|fail)only[go_sem,seval,-rO,-rN];exact rfl) ?_)
  simp only[wH];refine qg (k.eval (by simp (disch:=first|exact dis|fail)only[go_sem,seval,-rO,-rN];exact rfl) ?_)
  simp only[wH];refine zwC ⟨tmL [(6,YS 0 (l.map (·.1)))],[]⟩ (H (gw 3 (l.map (·.1))) 0 true) ?_ ?_
  ·
   refine qg (k.eval (by simp (disch:=first|exact dis|fail)only[go_sem,seval,-rO,-rN];exact rfl) ?_)
   simp only[wH];refine vf (jn (k.gcL [] [22,21,20,6] true (fr1:=⟨tmL [(22,.int .i64 (.ofNat 0)),(21,.int .i64 (.ofNat l.length)),(20,.lst l.length false (vT l)),(6,YS 0 [])],[]⟩) (s1:=H (gw 3 []) 0 true) (by simp (disch:=first|exact dis|fail)only[go_sem,seval,-rO,-rN,YS,gw]) ?_))
   refine lI (fun x:Nat×List Nat=>l.length-x.1) (fun x=>⟨tmL [(22,.int .i64 (.ofNat x.1)),(21,.int .i64 (.ofNat l.length)),(20,.lst l.length false (vT l)),(6,YS 0 x.2)],[]⟩) (fun x=>H (gw 3 x.2) 0 true) (fun x=>x.1≤l.length∧x.2=(l.take x.1).map (·.1)) (fun x hx=>?_) (0,[]) ⟨zK _,rfl⟩;obtain⟨i,acc⟩:=x;obtain⟨g1,g2⟩:=hx;simp only at g1 g2⊢;rcases xQ l i with ⟨hi,hd⟩|⟨⟨c,p⟩,hi,hd⟩
   ·have hlt:¬i<l.length:=oM;rw[zE hi]at g2;rw[←g2];cases acc with
    |nil=>
     refine k.eval (by simp (disch:=first|exact dis|fail)only[go_sem,seval,-rO,-rN,YS,gw,hlt];exact rfl) ?_
     try simp only[wH,kl,Cut]
     refine k.gcs (keep:=[]) (live:=[6]) (md:=true) ?_;simp (disch:=first|exact dis|fail)only[go_sem,seval,-rO,-rN,YS,gw]
    |cons a0 ar=>
     have hp1:=gE (a0::ar);refine k.eval (by simp (disch:=first|exact dis|fail)only[go_sem,seval,-rO,-rN,YS,gw,hlt];exact rfl) ?_
     try simp only[wH,kl,Cut]
     refine k.gcs (keep:=[0]) (live:=[6]) (md:=true) ?_;simp (disch:=first|exact dis|fail)only[go_sem,seval,-rO,-rN,YS,gw,hp1]
   ·have hdr:wl (i*2) (vT l)=.int .i64 (.ofNat c)::.int .i64 (.ofNat p)::vT (l.drop (i+1)):=by rw[HY,hd,jU]
    have hnext:acc++[c]=(l.take (i+1)).map (·.1):=by
     rw[List.take_add,hd,g2];simp
    have hacc:acc.length=i:=by rw[g2,List.length_map,List.length_take];omega
    cases acc with
    |nil=>
     refine k.eval (by simp (disch:=first|exact dis|fail)only[go_sem,seval,-rO,-rN,YS,gw,hi,hdr];exact rfl) ?_
     try simp only[wH]
     refine⟨(i+1,[]++[c]),⟨by simp only;omega,hnext⟩,by simp only;omega,?_⟩
     refine k.gcs (keep:=[1]) (live:=[22,21,20,6]) (md:=true) ?_;simp (disch:=first|exact dis|fail)only[go_sem,seval,-rO,-rN,YS,gw,WR,VC]
    |cons a0 ar=>
     have hp1:=gE (a0::ar);simp only[zU]at hacc;refine k.eval (by simp (disch:=first|exact dis|fail)only[go_sem,seval,-rO,-rN,YS,gw,hi,hdr];exact rfl) ?_
     try simp only[wH]
     refine⟨(i+1,(a0::ar)++[c]),⟨by simp only;omega,hnext⟩,by simp only;omega,?_⟩
     refine k.gcs (keep:=[2]) (live:=[22,21,20,6]) (md:=true) ?_;simp only[zG,YS,gw,WR,zw1,yl,zU,xd];simp (disch:=first|exact dis|fail)only[go_sem,seval,-rO,-rN,gE]
  ·generalize l.map (·.1)=m;cases m with
   |nil=>
    refine k.eval (by simp (disch:=first|exact dis|fail)only[go_sem,seval,-rO,-rN,YS,gw];exact rfl) ?_
    try simp only[wH,kl,Cut,if_true]
    apply Yo (Or.inr rfl)
    iterate 5 (simp (disch:=first|exact dis|fail)only[go_sem,seval,-rO,-rN,VC]<;>exact rfl)
   |cons a0 ar=>
    have hp1:=gE (a0::ar);refine k.eval (by simp (disch:=first|exact dis|fail)only[go_sem,seval,-rO,-rN,YS,gw];exact rfl) ?_
    try simp only[wH,kl,Cut,if_true]
    apply Yo (Or.inr rfl)
    iterate 5 (simp (disch:=first|exact dis|fail)only[go_sem,seval,-rO,-rN,zw2]<;>exact rfl)
def gK(c:Nat):Bool:=decide (48≤c)&&decide (c≤57)
def Ux(s:List Nat):List Nat:=match s with
 |[]=>[]
 |c::r=>if c=45 then r else c::r
def YB(s:List Nat):Bool:=match Ux s with
 |[]=>false
 |c::r=>(decide (c≠48)||eqS s [48])&&(c::r).all gK
def ixF:Nat→List Nat→Int
 |_,[]=> -1
 |i,c::r=>if gK c=true then ixF (i+1) r else .ofNat i
theorem GU:∀(i:Nat) (s:List Nat),(!ltD (ixF i s) (.ofNat 0))= !s.all gK
 |i,[]=>rfl
 | i,c::r=>by
  simp only[ixF,ziK];cases hc:gK c with
  |true=>rw[if_pos rfl,GU (i+1) r];rfl
  |false=>
   rw[if_neg (by simp)]
   have:ltD (.ofNat i) (.ofNat 0)=false:=by rw[GW];exact decide_eq_false oM
   rw[this];rfl
theorem zlW(a b:Bool):WA .bool false (.bool a) (.bool b)=some (.bool (a==b)):=by cases a<;>cases b<;>rfl
theorem zsq{y:Nat}(hy:128≤y):∀r:List Nat,128≤(ue (y::r)).1
 |[]=>by rw[zzO,if_neg oM];simp
 |[a]=>by
  rw[zzP,if_neg oM];split
  ·rename_i h;exact h.2.2
  ·simp
 | [a,b]=>by
  rw[zzQ,if_neg oM];split
  ·rename_i h;exact h.2.2
  ·split
   ·rename_i h;have:=h.2.2.2.1;simp only;omega
   ·simp
 | a::b::c::r=>by
  rw[GA,if_neg oM];split
  ·rename_i h;exact h.2.2
  ·split
   ·rename_i h;have:=h.2.2.2.1;simp only;omega
   ·split
    ·rename_i h;have:=h.2.2.2.2.1;simp only;omega
    ·simp
def Lm(s:List Nat):List AV:=[.str s,.fn 173 [] [],.bool true]
theorem zsC:∀x y,Lm x=Lm y→x=y:=fun x y h=>by
 simp only[Lm,List.cons.injEq,AV.str.injEq,and_true]at h;exact h
theorem zvs(l:List Nat):xN (Lm l)=true:=by simp only[Lm,xY,lA,Xw,uq,x6,xe]
noncomputable def gIx:List AV→St→Option (AV×St):=vr Lm Qn (fun s=>.int .i64 (ixF 0 s))
theorem zxN(h:O 210=some gIx){l:List Nat}(hb:Byt l)(h2:l.length<2000000)(s:St):(evW env O).call 210 [.str l,.fn 173 [] [],.bool true] s=some (.int .i64 (ixF 0 l),s):=by
 rw[wx h,gIx,qH zsC s l ⟨hb,h2⟩ rfl]
attribute [local go_sem] Lm zxT f173 zlW in
theorem zjE(B:Bx P w0)(hO:OrcOk P w0 O)(o81:O 173=none)(b:List Nat)(hb:Byt b)(hlen:b.length<2000000):
  SC P w0 210 (Lm b) (H [] 0 true) (.int .i64 (ixF 0 b)) (H [] 0 true):=by
 refine Is.sc hO B.mixed B.glob B.env 0 (show env.funs.get 210=some f210 from rfl) (ziF rfl) kV fun C k=>?_;have c81:= @vF env O _ _ o81 (show env.funs.get 173=some f173 from rfl) rfl;unfold f210 cF;simp only;refine k.q ?_;refine P1 (p:=ixF 0 b= -1) ⟨tmL [],[]⟩ (H [] 0 true) ?_ ?_
 ·refine k.q ?_;refine vf (jn (k.gcL [0] [10,2,1] true (fr1:=⟨tmL [(10,.ptr 0 0),(2,.bool true),(1,.fn 173 [] [])],[]⟩) (s1:=H [some (.siter b 0)] 0 true) sW ?_));refine lI (fun i:Nat=>b.length-i) (fun i=>⟨tmL [(10,.ptr 0 0),(2,.bool true),(1,.fn 173 [] [])],[]⟩) (fun i=>H [some (.siter b i)] 0 true) (fun i=>i≤b.length∧ixF i (b.drop i)=ixF 0 b) (fun i hi=>?_) 0 ⟨zK _,rfl⟩;obtain⟨g1,g2⟩:=hi;rcases xQ b i with ⟨hi,hd⟩|⟨y,hi,hd⟩
  ·have hns:=fun l n m hg=> @zqk l n m 0 i true b hg hd;rw[hd]at g2;refine k.z ?_;simp only[zzb];refine⟨g2.symm,?_⟩;exact k.g [] []
  ·have hns:=fun l n m hg=> @zxR l n m 0 i true b y _ hg hd;rw[hd]at g2;simp only[ixF]at g2;by_cases h1:y<128
   ·rw[VO h1]at hns;simp only at hns;by_cases h2:y<48
    ·rw[if_neg (by simp[gK];omega)]at g2
     rw[←g2];refine k.z ?_;simp only[zzb];exact fin
    ·by_cases h3:57<y
     ·rw[if_neg (by simp[gK];omega)]at g2
      rw[←g2];refine k.z ?_;simp only[zzb];exact fin
     ·rw[if_pos (by simp[gK];omega)]at g2
      refine k.z ?_;refine⟨i+1,⟨oM,g2⟩,oM,?_⟩;refine k.gcs (keep:=[0]) (live:=[10,2,1]) (md:=true) ?_;simp (disch:=first|exact dis|fail)only[go_sem,seval,-rO,-rN]
   ·have hbig:=zsq (y:=y) oM (b.drop (i+1));rw[if_neg (by simp[gK];omega)]at g2
    rw[←g2];revert hns hbig;generalize ue (y::b.drop (i+1))=D;obtain⟨c,sz⟩:=D;intro hns hbig;simp only at hns hbig;have h2:¬c<48:=oM;have h3:57<c:=oM;refine k.z ?_;simp only[zzb];exact fin
 ·intro hp;rw[hp];refine k.q ?_;refine k.z ?_;apply Yo (Or.inr rfl)
  iterate 3 (simp (disch:=first|exact dis|fail)only[go_sem,seval,-rO,-rN];exact rfl)
  ·simp (disch:=first|exact dis|fail)only[go_sem,seval,-rO,-rN];rfl
  ·simp (disch:=first|exact dis|fail)only[go_sem,seval,-rO,-rN]
theorem PQ(c:Nat)(r:List Nat)(k:IntKind):P9 (.str (c::r)) (some (.int k (.ofNat 1))) none=some (.str r):=by
 simp only[P9,bnd,wE,zU,xR.2 (show 1≤r.length+1 by omega),cond_true,kP,lF,List.drop_succ_cons,List.drop_zero]
 rw[zE (by show r.length≤r.length+1-1;omega)]
theorem zpB(c:Nat)(r:List Nat)(k:IntKind):P9 (.str (c::r)) none (some (.int k (.ofNat 1)))=some (.str [c]):=by
 simp only[P9,bnd,wE,zU,xR.2 (show 1≤r.length+1 by omega),cond_true,kP,lF,List.drop_zero]
 rfl
theorem zyt(c:Nat)(r:List Nat):zv0 (c::r) 0=some c:=rfl
noncomputable def LF:List AV→St→Option (AV×St):=vr lZ Qn (fun s=>.bool (YB s))
theorem zuf{f:Nat}(h:O f=some LF){l:List Nat}(hb:Byt l)(h2:l.length<2000000)(s:St):(evW env O).call f [.str l] s=some (.bool (YB l),s):=by
 rw[wx h,LF,qH Y5 s l ⟨hb,h2⟩ rfl]
attribute [local go_sem] lZ f171 f194 f209 YB Ux PQ zpB zyt f172 f195 eqS in
theorem zve(B:Bx P w0)(hO:OrcOk P w0 O)(o79:O 171=none)(o98:O 194=none)(o115:O 209=none)(o80:O 172=none)(o99:O 195=none)(h116:O 210=some gIx)(s:List Nat)(hb:Byt s)(hlen:s.length<2000000):
  SC P w0 145 (lZ s) (H [] 0 true) (.bool (YB s)) (H [] 0 true):=by
 refine Is.sc hO B.mixed B.glob B.env 0 (show env.funs.get 145=some f145 from rfl) (ziF rfl) kV fun C k=>?_;have c79:= @vF env O _ _ o79 (show env.funs.get 171=some f171 from rfl) rfl;have c98:= @vF env O _ _ o98 (show env.funs.get 194=some f194 from rfl) rfl;have c115:= @vF env O _ _ o115 (show env.funs.get 209=some f209 from rfl) rfl;have c80:= @vF env O _ _ o80 (show env.funs.get 172=some f172 from rfl) rfl;have c99:= @vF env O _ _ o99 (show env.funs.get 195=some f195 from rfl) rfl;unfold f145 cF;simp only
 match s,hb,hlen with
 |[],hb,hlen=>
  refine k.z ?_;exact fin
 | c ::r,hb,hlen=>
  have hlr:r.length<2000000:=by simp only[zU]at hlen;omega
  by_cases h45:c=45
  ·subst h45
   match r,hb,hlen,hlr with
   |[],hb,hlen,hlr=>
    refine k.z ?_;exact fin
   | c2::r2,hb,hlen,hlr=>
    have hb2:Byt (c2::r2):=hb.cons.2;have hc2:c2<256:=hb2 c2 (by simp)
    have hix:=fun s=>zxN h116 hb2 hlr s;have hal:=GU 0 (c2::r2);have hm:YB (45::c2::r2)=(decide (c2≠48)&&(c2::r2).all gK):=by
     simp only[YB,Ux,if_true,eqS];simp
    rw[hm];by_cases h48:c2=48
    ·subst h48;refine k.z ?_;exact fin
    ·rw[decide_eq_true h48,yD];refine k.z ?_;exact fin
  ·have hc:c<256:=hb c (by simp)
   have hix:=fun s=>zxN h116 hb hlen s;have hal:=GU 0 (c::r);have hm:YB (c::r)=((decide (c≠48)||eqS (c::r) [48])&&(c::r).all gK):=by
    simp only[YB,Ux,h45,if_false]
   rw[hm];by_cases h48:c=48
   ·subst h48;cases r with
    |nil=>
     refine k.z ?_;exact fin
    |cons c3 r3=>
     refine k.z ?_;exact fin
   ·rw[decide_eq_true h48,Bool.true_or,yD];refine k.z ?_;exact fin
def okC(t:List Nat):Bool:=(kM t).isSome
def Jz(k n:Int)(t:List Nat):Bool:=
 if k=.ofNat 0∨k=.ofNat 8∨k=.ofNat 9∨k=.ofNat 10 then true
 else if k=.ofNat 1 then eqD n (.ofNat 0)||eqD n (.ofNat 1)
 else if k=.ofNat 2 then YB t
 else if k=.ofNat 3 then zv6 n
 else if k=.ofNat 4 then okC t
 else if k=.ofNat 5 then okC t&& !decide (t=[])
 else false
def YU(d:DT):Bool:=Jz (LQ d) (zim d) (zj5 d)
def Qv:Nat→DT→Bool
 |0,_=>false
 |k+1,d=>match qt d with
  |some p=>Qv k p.1&&Qv k p.2
  |none=>if LQ d=.ofNat 7 then (lu d).all (Qv k)else decide ((lu d).length=0)&&YU d
def vY(d:DT):Bool:=Qv (wn d) d
theorem Yf{α:Type}{f g:α→Bool}:∀{l:List α},(∀x∈l,f x=g x)→l.all f=l.all g
 |[],_=>rfl
 |x::r,h=>by simp only[ziK,h x (by simp),Yf (l:=r) fun y hy=>h y (by simp[hy])]
theorem gM:∀{k m:Nat} {d:DT},wn d≤k→wn d≤m→Qv k d=Qv m d
 |0,_,a,h,_=>by have:=vd a;omega
 |_+1,0,a,_,h=>by have:=vd a;omega
 | k+1,m+1,d,h,h'=>by
  have hk:=j4 d;have e:(lu d).all (Qv k)=(lu d).all (Qv m):=Yf fun x hx=>by
   have:=uj hx;exact gM oM oM
  simp only[Qv,e];cases hka:qt d with
  |none=>rfl
  |some p=>
   have:=uk (x:=p.1) (y:=p.2) hka;simp only;rw[gM (k:=k) (m:=m) (d:=p.1) oM oM,gM (k:=k) (m:=m) (d:=p.2) oM oM]
theorem We{x y:DT}(h:qt d=some (x,y)):vY d=(vY x&&vY y):=by
 have:=uk h;unfold vY;rw[gM (m:=wn d+1) (zo _) oM,Qv,h];simp only;rw[gM (k:=wn d) (m:=wn x) oM (zo _),gM (k:=wn d) (m:=wn y) oM (zo _)]
theorem zua(h:qt d=none):vY d=if LQ d=.ofNat 7 then (lu d).all vY else decide ((lu d).length=0)&&YU d:=by
 have hk:=j4 d;have e:(lu d).all (Qv (wn d))=(lu d).all vY:=Yf fun x hx=>by
  have:=uj hx;exact gM oM (zo _)
 unfold vY at e⊢;rw[gM (m:=wn d+1) (zo _) oM,Qv,h,e]
mutual
def TxD:DT→Prop
 |.mk _ _ t ks _=>Byt t∧t.length<2000000∧TxL ks
def TxL:List DT→Prop
 |[]=>True
 |d::r=>TxD d∧TxL r
end
theorem TxL.mem:∀{l:List DT} {d:DT},TxL l→d∈l→TxD d
 |[],_,_,h=>by cases h
 |x::r,d,ht,h=>by
  simp only[TxL]at ht;rcases List.mem_cons.1 h with rfl|h
  ·exact ht.1
  ·exact TxL.mem ht.2 h
theorem TxD.kids{x y:DT}(ht:TxD d)(h:qt d=some (x,y)):TxD x∧TxD y:=by
 obtain⟨kd,n,t,ks,p⟩:=d;obtain⟨rfl,rfl⟩:=vE h;simp only[TxD,TxL]at ht;exact⟨ht.2.2.1,ht.2.2.2.1⟩
noncomputable def zxC:List AV→St→Option (AV×St):=vr vb TxD (fun d=>.bool (YU d))
theorem zwL(h:O 116=some zxC)(ht:TxD d)(s:St):(evW env O).call 116 [.agg (wR d)] s=some (.bool (YU d),s):=by
 rw[wx h,zxC,qH lY s d ht (ZE d)]
attribute [local go_sem] vb Y3 wo true_or if_true or_true Option.isSome_none Option.isSome_some in
theorem zoq(B:Bx P w0)(hO:OrcOk P w0 O)(h50:O 145=some LF)(h51:O 146=some gIs)(h52:O 147=some Uj)(d:DT)(ht:TxD d):
  SC P w0 116 (vb d) (H [] 0 true) (.bool (YU d)) (H [] 0 true):=by
 refine Is.sc hO B.mixed B.glob B.env 0 (show env.funs.get 116=some f116 from rfl) (ziF rfl) kV fun C k=>?_;obtain⟨kd,n,t,ks,p⟩:=d;simp only[TxD]at ht;have hnum:=zuf (f:=145) h50 ht.1 oM;have his:=znN h51 n;have hco:=VH (f:=147) h52 ht.1 oM;unfold f116 cF;rw[show YU (.mk kd n t ks p)=Jz kd n t from rfl];unfold Jz;simp only;by_cases k0:kd=.ofNat 0
 ·subst k0;refine k.z ?_;exact fin
 by_cases k8:kd=.ofNat 8
 ·subst k8;refine k.z ?_;exact fin
 by_cases k9:kd=.ofNat 9
 ·subst k9;refine k.z ?_;exact fin
 by_cases k10:kd=.ofNat 10
 ·subst k10;refine k.z ?_;exact fin
 rw[if_neg (by simp only[k0,k8,k9,k10,or_self,not_false_eq_true])]
 have e0:=qj k0;have e8:=qj k8;have e9:=qj k9;have e10:=qj k10;by_cases k1:kd=.ofNat 1
 ·subst k1;rw[if_pos rfl];cases h0:eqD n (.ofNat 0)with
  |true=>
   refine k.z ?_;exact fin
  |false=>
   refine k.z ?_;exact fin
 rw[if_neg k1];have e1:=qj k1;by_cases k2:kd=.ofNat 2
 ·subst k2;rw[if_pos rfl];refine k.z ?_;exact fin
 rw[if_neg k2];have e2:=qj k2;by_cases k3:kd=.ofNat 3
 ·subst k3;rw[if_pos rfl];refine k.z ?_;exact fin
 rw[if_neg k3];have e3:=qj k3;by_cases k4:kd=.ofNat 4
 ·subst k4;rw[if_pos rfl];simp only[kN]at hco;simp only[okC];cases hc:kM t with
  |none=>
   rw[hc]at hco;refine k.z ?_;exact fin
  |some l=>
   rw[hc]at hco;refine k.z ?_;exact fin
 rw[if_neg k4];have e4:=qj k4;by_cases k5:kd=.ofNat 5
 ·subst k5;rw[if_pos rfl];simp only[kN]at hco;simp only[okC];cases hc:kM t with
  |none=>
   rw[hc]at hco;refine k.z ?_;exact fin
  |some l=>
   rw[hc]at hco;refine k.z ?_;exact fin
 rw[if_neg k5];have e5:=qj k5;refine k.z ?_;exact fin
noncomputable def LE(N:Nat):List AV→St→Option (AV×St):=vr vb (fun d=>TxD d∧wn d<N) (fun d=>.bool (vY d))
theorem Uu{f N:Nat}(h:O f=some (LE N))(ht:TxD d)(hn:wn d<N)(s:St):(evW env O).call f [.agg (wR d)] s=some (.bool (vY d),s):=by
 rw[wx h,LE,qH lY s d ⟨ht,hn⟩ (ZE d)]
def ixM:Nat→List DT→Int
 |_,[]=> -1
 |i,d::r=>if vY d=true then ixM (i+1) r else .ofNat i
theorem ZO{kd n:Int}{t:List Nat}{ks:List DT}{p:Int}(h:qt (.mk kd n t ks p)=none):vY (.mk kd n t ks p)=if kd=.ofNat 7 then ks.all vY else decide (ks.length=0)&&YU (.mk kd n t ks p):=zua h
theorem zxM:∀(i:Nat) (s:List DT),(!ltD (ixM i s) (.ofNat 0))= !s.all vY
 |i,[]=>rfl
 | i,c::r=>by
  simp only[ixM,ziK];cases hc:vY c with
  |true=>rw[if_pos rfl,zxM (i+1) r];rfl
  |false=>
   rw[if_neg (by simp)]
   have:ltD (.ofNat i) (.ofNat 0)=false:=by rw[GW];exact decide_eq_false oM
   rw[this];rfl
def Y4(x:List DT):List AV:=[.lst x.length false (xX x),.fn 115 [] []]
theorem zvm:∀x y,Y4 x=Y4 y→x=y:=fun a b h=>by
 simp only[Y4,List.cons.injEq,AV.lst.injEq,true_and,and_true]at h;exact lT h.2
theorem zz6(x:List DT):xN (Y4 x)=true:=by simp only[Y4,xY,wN,Xw,x6,xe]
noncomputable def znE(N:Nat):List AV→St→Option (AV×St):=vr Y4 (fun l=>TxL l∧wW l<N) (fun l=>.int .i64 (ixM 0 l))
theorem zrZ{N:Nat}(h:O 144=some (znE N)){l:List DT}(ht:TxL l)(hn:wW l<N)(s:St):(evW env O).call 144 [.lst l.length false (xX l),.fn 115 [] []] s=some (.int .i64 (ixM 0 l),s):=by
 rw[wx h,znE,qH zvm s l ⟨ht,hn⟩ (by simp only[Y4,wkL,wkV,ll])]
attribute [local go_sem] Y4 gU wo f115 in
theorem zkt(B:Bx P w0)(hO:OrcOk P w0 O)(o25:O 115=none){N:Nat}(h11:O 74=some (LE N))(hN:N≤1100000)(l:List DT)(ht:TxL l)(hn:wW l<N):
  SC P w0 144 (Y4 l) (H [] 0 true) (.int .i64 (ixM 0 l)) (H [] 0 true):=by
 refine Is.sc hO B.mixed B.glob B.env 0 (show env.funs.get 144=some f144 from rfl) (ziF rfl) kV fun C k=>?_;have c25:= @vF env O _ _ o25 (show env.funs.get 115=some f115 from rfl) rfl;have hll:=jE l;unfold f144 cF;simp only;refine k.q ?_;refine P1 (p:=ixM 0 l= -1) ⟨tmL [],[]⟩ (H [] 0 true) ?_ ?_
 ·refine k.q ?_;refine vf (jn (k.gcL [] [8,7,1,0] true (fr1:=⟨tmL [(8,.int .i64 (.ofNat 0)),(7,.int .i64 (.ofNat l.length)),(1,.fn 115 [] []),(0,.lst l.length false (xX l))],[]⟩) (s1:=H [] 0 true) sW ?_));refine lI (fun i:Nat=>l.length-i) (fun i=>⟨tmL [(8,.int .i64 (.ofNat i)),(7,.int .i64 (.ofNat l.length)),(1,.fn 115 [] []),(0,.lst l.length false (xX l))],[]⟩) (fun _=>H [] 0 true) (fun i=>i≤l.length∧ixM i (l.drop i)=ixM 0 l) (fun i hi=>?_) 0 ⟨zK _,rfl⟩;obtain⟨g1,g2⟩:=hi;rcases xQ l i with ⟨hi,hd⟩|⟨x,hi,hd⟩
  ·have hlt:¬i<l.length:=oM;rw[hd]at g2;refine k.z ?_;simp only[zzb];refine⟨g2.symm,?_⟩;exact k.g [] []
  ·have hmem:x∈l:=List.mem_of_mem_drop (by rw[hd];exact List.mem_cons_self)
   have hnx:wn x<N:=by have:=uj hmem;omega
   have hc:=Uu (f:=74) h11 (ht.mem hmem) hnx;have hdr:wl (i*5) (xX l)=wR x++xX (l.drop (i+1)):=by rw[HZ,hd,gD]
   rw[hd]at g2;simp only[ixM]at g2;obtain⟨xk,xn,xt,xks,xp⟩:=x;simp only[wo]at hc;cases hsm:vY (.mk xk xn xt xks xp)with
   |true=>
    rw[hsm]at hc g2;rw[if_pos rfl]at g2;refine k.z ?_;refine⟨i+1,⟨oM,g2⟩,oM,?_⟩;refine k.gcs (keep:=[]) (live:=[8,7,1,0]) (md:=true) ?_;simp (disch:=first|exact dis|fail)only[go_sem,seval,-rO,-rN]
   |false=>
    rw[hsm]at hc g2;rw[if_neg (by simp)]at g2
    rw[←g2];refine k.eval (by simp (disch:=first|exact dis|fail)only[go_sem,seval,-rO,-rN,hi,hdr,wo,c25,f115,hc];exact rfl) ?_
    try simp only[wH,kl]
    simp only[zzb];exact fin
 ·intro hp;rw[hp];refine k.q ?_;refine k.z ?_;apply Yo (Or.inr rfl)
  iterate 3 (simp (disch:=first|exact dis|fail)only[go_sem,seval,-rO,-rN];exact rfl)
  ·simp (disch:=first|exact dis|fail)only[go_sem,seval,-rO,-rN];rfl
  ·simp (disch:=first|exact dis|fail)only[go_sem,seval,-rO,-rN]
attribute [local go_sem] vb Y3 ZY wo f113 lV gU px f114 in
theorem zkx(B:Bx P w0)(hO:OrcOk P w0 O)(o23:O 113=none)(o24:O 114=none)(h26:O 116=some zxC){N:Nat}(h49:O 144=some (znE N))(h11:O 74=some (LE N))(d0:DT)(ht:TxD d0)(hN:wn d0<N+1):
  SC P w0 74 (vb d0) (H [] 0 true) (.bool (vY d0)) (H [] 0 true):=by
 refine Is.sc hO B.mixed B.glob B.env 0 (show env.funs.get 74=some f74 from rfl) (ziF rfl) kV fun C k=>?_;have cpair:= @vF env O _ _ o23 (show env.funs.get 113=some f113 from rfl) rfl;have c24:= @vF env O _ _ o24 (show env.funs.get 114=some f114 from rfl) rfl;generalize hres:vY d0=res;unfold f74 cF;simp only;refine k.q ?_;refine P2 (fun d:DT=>vY d=res∧qt d=none∧TxD d∧wn d<N+1) (fun _=>⟨tmL [(1,.ptr 0 0)],[]⟩) (fun d=>H [some (ZY d)] 0 true) (vf (jn (k.gcL [0] [1] true (fr1:=⟨tmL [(1,.ptr 0 0)],[]⟩) (s1:=H [some (ZY d0)] 0 true) (by simp (disch:=first|exact dis|fail)only[go_sem,seval,-rO,-rN,ZY,ua]) ?_))) ?_
 ·refine lI (fun d:DT=>wn d) (fun _=>⟨tmL [(1,.ptr 0 0)],[]⟩) (fun d=>H [some (ZY d)] 0 true) (fun d=>vY d=res∧TxD d∧wn d<N+1) (fun d hx=>?_) d0 ⟨hres,ht,hN⟩;obtain⟨kd,n,t,ks,p⟩:=d;obtain⟨g1,g2,g3⟩:=hx;cases hka:qt (.mk kd n t ks p)with
  |none=>
   rcases zn5 hka with he|⟨rfl,hl⟩
   ·refine k.z ?_;simp only[Gcx];refine⟨.mk kd n t ks p,⟨g1,hka,g2,g3⟩,?_⟩;exact k.g [0] [1]
   ·refine k.z ?_;simp only[Gcx];refine⟨.mk (.ofNat 6) n t ks p,⟨g1,hka,g2,g3⟩,?_⟩;exact k.g [0] [1]
  | some xy=>
   obtain⟨⟨xk,xn,xt,xks,xp⟩,⟨yk,yn,yt,yks,yp⟩⟩:=xy;have hna:=uk hka;have hpt:=g2.kids hka;rw[We hka]at g1;obtain⟨rfl,rfl⟩:=vE hka;have hc:=Uu (f:=74) h11 hpt.1 (by have:=vd (.mk yk yn yt yks yp);omega)
   simp only[wo]at hc;cases hsm:vY (.mk xk xn xt xks xp)with
   |true=>
    rw[hsm]at hc g1;refine k.z ?_;refine⟨.mk yk yn yt yks yp,⟨by rw[←g1,yD],hpt.2,oM⟩,oM,?_⟩
    exact k.g [0] [1]
   |false=>
    rw[hsm]at hc g1;refine k.z ?_;simp only[Gcx];rw[←g1];apply Yo (Or.inr rfl)
    iterate 5 (simp (disch:=first|exact dis|fail)only[go_sem,seval,-rO,-rN]<;>exact rfl)
 ·rintro⟨kd,n,t,ks,p⟩ ⟨g1,g2,g3,g4⟩
  rw[ZO g2]at g1;have hb:=zwL h26 g3;simp only[wo]at hb;simp only[TxD]at g3;have hn:=j4 (.mk kd n t ks p);simp only[lu]at hn;by_cases k7:kd=.ofNat 7
  ·subst k7;rw[if_pos rfl]at g1;have hix:=zrZ h49 g3.2.2 oM;have hal:=zxM 0 ks;refine k.z ?_;exact fin
  ·rw[if_neg k7]at g1;have e7:=qj k7;by_cases hl:ks.length=0
   ·rw[decide_eq_true hl,yD]at g1;rw[g1]at hb;rw[hl]at hb;refine k.z ?_;exact fin
   ·rw[decide_eq_false hl,Bool.false_and]at g1;subst g1;refine k.z ?_;exact fin
end Go.Proofs.YtbdfljdgapkbcaaGreatDoor.Ev

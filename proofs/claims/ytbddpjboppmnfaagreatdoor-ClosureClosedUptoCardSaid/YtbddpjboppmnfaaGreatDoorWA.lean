/- Contracts of functions that ClosureClosed calls: what a call answers, for all data, by symbolic evaluation. No conditions of its own. -/
import Derived.Test.YtbddpjboppmnfaaGreatDoorEvG
import Derived.Test.YtbddpjboppmnfaaGreatDoorIrClosureClosed
set_option linter.unusedSimpArgs false
set_option linter.unusedVariables false
set_option linter.defProp false
set_option maxHeartbeats 4000000
set_option linter.unusedSectionVars false
open Nat renaming le_of_ble_eq_true → ziw, le_refl → zu, two_pow_add_eq_or_of_lt → zix, lt_succ_self → yc, zero_le → zQ, mul_comm → yy
open List renaming length_cons → yb, length_append → yA, cons_append → zM, length_drop → ziy, length_nil → xz, append_nil → ziA, take_of_length_le → zK, all_cons → ziB
open Bool renaming and_self → xA, cond_decide → ziz, true_and → yP
open Int renaming ofNat → zG
namespace Go.Proofs.YtbddpjboppmnfaaGreatDoor.Ev
variable {P:Program}{w0:World}{O:Orc}{s:St}{v:AV}{d:DT}{n esz:Nat}{o:AObj}
open T
set_option maxRecDepth 100000
structure Bx(P:Program)(w0:World):Prop where
 mixed:P.follows .mixedOrders=true
 glob:x8 env.globs w0
 env:ki P env
theorem bs(B:Bx P w0)(hO:OrcOk P w0 O){f:Nat}(F:IFunc){args:List AV}{os:List (Option AObj)}{b:Bool}{c':St}(h:∀C:Cx,Is C env O (H os 0 b) 0→Tri C F.body {tm:=wL (tmL []) 0 args,df:=[]} (H os 0 b) (Fin env (H os 0 b) 0 F.res v c'))(hF:env.funs.get f=some F:=by exact rfl)(hle:args.length≤F.ntmps:=by exact Nat.le_of_ble_eq_true rfl):SC P w0 f args (H os 0 b) v c':=
 Is.sc hO B.mixed B.glob B.env 0 hF hle gB h
theorem bm(B:Bx P w0)(hO:OrcOk P w0 O){f:Nat}(F:IFunc){args:List AV}{os:List (Option AObj)}{b:Bool}{c':St}(h:∀C:Cx,Is C env O (H (some o::os) 0 b) 1→Tri C F.body {tm:=wL (tmL []) 0 args,df:=[]} (H (some o::os) 0 b) (Fin env (H (some o::os) 0 b) 1 F.res v c'))(hF:env.funs.get f=some F:=by exact rfl)(hg:qO o=false:=by exact rfl)(hle:args.length≤F.ntmps:=by exact Nat.le_of_ble_eq_true rfl):SC P w0 f args (H (some o::os) 0 b) v c':=
 Is.sc hO B.mixed B.glob B.env 1 hF hle (zjL hg) h
theorem ci{f:Nat}(F:IFunc)(h:O f=none)(hF:env.funs.get f=some F:=by exact rfl)(hp:env.pure f=true:=by exact rfl)(a:List AV)(l:List (Nat×Option AObj))(n m:Nat)(b:Bool)(hd:List (Nat×Nat))(on:Option (Nat×List Nat))(ha:a.length≤F.ntmps):
  (evW env O).call f a (KL l n m b hd on)=pK (KL l n m b hd on) (wT env.globs F.res (evC env (evW env O) none F.body ⟨wL (tmL []) 0 a,[]⟩ (KL l n 0 true hd on))):=vY h hF hp a l n m b hd on ha
theorem ciw{f:Nat}(F:IFunc)(h:O f=none)(hF:env.funs.get f=some F:=by exact rfl)(hp:env.pure f=false:=by exact rfl)(a:List AV)(l:List (Nat×Option AObj))(n m:Nat)(b:Bool)(hd:List (Nat×Nat))(on:Option (Nat×List Nat))(ha:a.length≤F.ntmps):
  (evW env O).call f a (KL l n m b hd on)=mdR b (wT env.globs F.res (evC env (evW env O) none F.body ⟨wL (tmL []) 0 a,[]⟩ (KL l n m false hd on))):=H9 h hF hp a l n m b hd on ha
def Ya(d:DT):AObj:=.row 36 (w4 d) false false
def VG:AObj:=.row 36 [.int .i64 (.ofNat 0),.int .i64 (.ofNat 0),.str [],.nils,.int .i64 (.ofNat 0)] false false
theorem kw(d:DT)(r:List AV):wj 5 (w4 d++r)=some (w4 d):=vx (qQ d)
theorem kP(d:DT):wj 5 (w4 d)=some (w4 d):=w6 (qQ d)
theorem qx{a b:Int}(h:a≠b):eqD a b=false:=by simp[eqD,h]
theorem l6(x y:DT):wa [x,y]=w4 x++w4 y:=by simp only[gL,jW,ziA]
def zzI(acc:List DT):AV:=match acc with
 |[]=>.nils
 |t::r=>.gr 2 5 (t::r).length (wa (t::r))
def Q1(acc:List DT):List (Option AObj):=match acc with
 |[]=>[]
 |t::r=>[some (.app 36 (wa (t::r)))]
theorem JX(d:DT):wq (Xk d)=true:=by simp only[Xk,vw,uy]
theorem wi{α:Type}(l:List α)(i:Nat):(l.length≤i∧l.drop i=[])∨∃x,i<l.length∧l.drop i=x::l.drop (i+1):=by
 by_cases h:i<l.length
 ·exact .inr ⟨l[i],h,List.drop_eq_getElem_cons h⟩
 ·exact .inl ⟨oM,List.drop_eq_nil_of_le oM⟩
def zzD(p:Prop)(C:Cx)(fr1:Fr)(s1:St)(Q:Res→Fr→St→Prop):Res→Fr→St→Prop
 |.norm,f,t=>p∧Gc C f t fr1 s1
 |r,f,t=>Q r f t
theorem zzr{C:Cx}{ia ib:ICode}{fr:Fr}{Q:Res→Fr→St→Prop}(p:Prop)(fr1:Fr)(s1:St)(h1:Tri C ia fr s (zzD p C fr1 s1 Q))(h2:p→Tri C ib fr1 s1 Q):Tri C (.seq ia ib) fr s Q:=
 qq (h1.mono fun r f t=>by
  cases r with
  |norm=>exact fun h=>zxy h.2 (h2 h.1)
  |exit i=>exact fun h=>h
  |ret=>exact fun h=>h)
open Nat (reduceEqDiff reduceLeDiff reduceLT reduceAdd reduceMul reduceSub reduceMod reducePow reduceDiv reduceOr reduceShiftLeft reduceGT reduceSucc)
open List (length_cons length_nil length_take length_drop)
open Int renaming reduceOfNat → rO, reduceNegSucc → rN
def qH:DT→Option (DT×DT)
 |.mk kd _ _ ks _=>match ks with
  |[x,y]=>if kd=.ofNat 6 then some (x,y)else none
  |_=>none
theorem vV{kd n:Int}{t:List Nat}{ks:List DT}{p:Int}{x y:DT}(h:qH (.mk kd n t ks p)=some (x,y)):kd=.ofNat 6∧ks=[x,y]:=by
 simp only[qH]at h;split at h
 ·split at h
  ·cases h;exact⟨by assumption,rfl⟩
  ·cases h
 ·cases h
theorem Qb{kd n:Int}{t:List Nat}{ks:List DT}{p:Int}(h:qH (.mk kd n t ks p)=none)(hk:kd=.ofNat 6):¬ks.length=2:=by
 subst hk;intro hl
 match ks,hl with
 |[x,y],_=>simp[qH]at h
theorem ZV{x y:DT}(h:qH d=some (x,y)):SizeOf.sizeOf x<SizeOf.sizeOf d∧SizeOf.sizeOf y<SizeOf.sizeOf d:=by
 obtain⟨kd,n,t,ks,p⟩:=d;obtain⟨rfl,rfl⟩:=vV h;simp only[DT.mk.sizeOf_spec,List.cons.sizeOf_spec,List.nil.sizeOf_spec];omega
def Zl:Nat→DT→List DT×DT
 |0,d=>([],d)
 |k+1,d=>match qH d with
  |some (x,y)=>(x::(Zl k y).1,(Zl k y).2)
  |none=>([],d)
noncomputable def qd(d:DT):List DT×DT:=Zl (SizeOf.sizeOf d) d
theorem ZU:∀{k m:Nat} {d:DT},SizeOf.sizeOf d≤k→SizeOf.sizeOf d≤m→Zl k d=Zl m d
 |0,_,d,h,_=>by cases d;simp only[DT.mk.sizeOf_spec]at h;omega
 |_+1,0,d,_,h=>by cases d;simp only[DT.mk.sizeOf_spec]at h;omega
 | k+1,m+1,d,h,h'=>by
  simp only[Zl];cases hk:qH d with
  |none=>rfl
  |some xy=>
   obtain⟨x,y⟩:=xy;have:=(ZV hk).2;simp only;rw[ZU (k:=k) (m:=m) oM oM]
theorem kq{x y:DT}(h:qH d=some (x,y)):qd d=(x::(qd y).1,(qd y).2):=by
 have:=ZV h;unfold qd;rw[ZU (d:=d) (m:=SizeOf.sizeOf d+1) (zu _) oM,Zl,h];simp only;rw[ZU (d:=y) (m:=SizeOf.sizeOf y) oM (zu _)]
theorem gS(h:qH d=none):qd d=([],d):=by
 unfold qd;rw[ZU (d:=d) (m:=SizeOf.sizeOf d+1) (zu _) oM,Zl,h]
attribute [local go_sem] Xk zzI Q1 Ya VG wD l6 f81 kw kP jW jA in
theorem zqg(B:Bx P w0)(hO:OrcOk P w0 O)(o23:O 81=none)(d0:DT)(hlen:(qd d0).1.length<2000000):
  SC P w0 115 [Xk d0] (H [] 0 true) (.tup [.lst (qd d0).1.length false (wa (qd d0).1),Xk (qd d0).2]) (H [] 0 true):=by
 refine Is.sc hO B.mixed B.glob B.env 0 (show env.funs.get 115=some f115 from rfl) (ziw rfl) gB fun C k=>?_;have cpair:= @vY env O _ _ o23 (show env.funs.get 81=some f81 from rfl) rfl;generalize hl:(qd d0).1=l at hlen⊢;generalize he:(qd d0).2=e;unfold f115;simp only[Ko,Kn,Kd,Kf,Ki];refine k.q ?_;refine zw9 ⟨tmL [(3,.ptr 1 0),(2,zzI l),(1,.ptr 0 0)],[]⟩ (H ([some (Ya e),some VG]++Q1 l) 0 true) (vy (jK (k.gcL [0,1] [3,2,1] true (fr1:=⟨tmL [(3,.ptr 1 0),(2,zzI []),(1,.ptr 0 0)],[]⟩) (s1:=H ([some (Ya d0),some VG]++Q1 []) 0 true) (by simp (disch:=first|exact dis|fail)only[go_sem,seval,-rO,-rN,Ya,VG,zzI,Q1,uy]) ?_))) ?_
 ·refine lT (fun x:List DT×DT=>SizeOf.sizeOf x.2) (fun x=>⟨tmL [(3,.ptr 1 0),(2,zzI x.1),(1,.ptr 0 0)],[]⟩) (fun x=>H ([some (Ya x.2),some VG]++Q1 x.1) 0 true) (fun x=>x.1++(qd x.2).1=l∧(qd x.2).2=e) (fun x hx=>?_) ([],d0) ⟨hl,he⟩;obtain⟨acc,cur⟩:=x;simp only at hx⊢;obtain⟨hx1,hx2⟩:=hx;have hc2:acc.length<2000000:=by rw[←hx1,yA]at hlen;omega
  cases hkd:qH cur with
  | some xy=>
   obtain⟨x,y⟩:=xy;have hm:=ZV hkd;rw[kq hkd]at hx1 hx2;obtain⟨kd,n,t,ks,p⟩:=cur;obtain⟨rfl,rfl⟩:=vV hkd;obtain⟨xk,xn,xt,xks,xp⟩:=x;obtain⟨yk,yn,yt,yks,yp⟩:=y;cases acc with
   |nil=>
    refine k.z ?_;refine⟨([]++[⟨xk,xn,xt,xks,xp⟩],⟨yk,yn,yt,yks,yp⟩),⟨by rw[←hx1];simp,hx2⟩,hm.2,?_⟩
    refine k.gcs (keep:=[0,1,2]) (live:=[3,2,1]) (md:=true) ?_;simp only[zM,List.nil_append,zzI,Q1,gL,jW,wD,ziA,yb,xz];simp (disch:=first|exact dis|fail)only[go_sem,seval,-rO,-rN,Ya,VG,wD]
   |cons a0 ar=>
    have hp1:=vA (a0::ar);simp only[yb]at hc2;refine k.z ?_;refine⟨((a0::ar)++[⟨xk,xn,xt,xks,xp⟩],⟨yk,yn,yt,yks,yp⟩),⟨by rw[←hx1];simp,hx2⟩,hm.2,?_⟩
    refine k.gcs (keep:=[0,1,3]) (live:=[3,2,1]) (md:=true) ?_;simp only[zM,List.nil_append,zzI,Q1,gL,Ja,jW,wD,ziA,List.append_assoc,yA,yb,xz];simp (disch:=first|exact dis|fail)only[go_sem,seval,-rO,-rN,Ya,VG,wD,vA,uy]
  | none=>
   rw[gS hkd]at hx1 hx2;simp only[ziA]at hx1 hx2;subst hx1;subst hx2;obtain⟨kd,n,t,ks,p⟩:=cur;by_cases hk:kd=.ofNat 6
   ·have hl:=Qb hkd hk;subst hk;cases acc with
    |nil=>
     refine k.z ?_;exact k.g [0,1] [3,2,1]
    |cons a0 ar=>
     have hp1:=vA (a0::ar);refine k.z ?_;exact k.g [0,1,2] [3,2,1]
   ·have hke:eqD kd (.ofNat 6)=false:=qx hk;cases acc with
    |nil=>
     refine k.z ?_;exact k.g [0,1] [3,2,1]
    |cons a0 ar=>
     have hp1:=vA (a0::ar);refine k.z ?_;exact k.g [0,1,2] [3,2,1]
 ·obtain⟨ek,en,et,eks,ep⟩:=e;cases l with
  |nil=>
   refine k.q ?_;refine k.z ?_;exact fin
  |cons a0 ar=>
   have hp1:=vA (a0::ar);refine k.q ?_;refine k.z ?_;exact fin
def vr(d:DT):List AV:=[Xk d]
theorem l9:∀x y,vr x=vr y→x=y:=fun d e h=>by
 simp only[vr,List.cons.injEq,and_true]at h;exact zsS h
theorem ZP(d:DT):wkL [AV.agg (w4 d)]=vr d:=by simp only[vr,Xk,wkL,wkV,JN]
theorem km(d:DT):xY (vr d)=true:=by simp only[vr,wp,JX,wA,xA]
noncomputable def itR(d:DT):AV:=.tup [.lst (qd d).1.length false (wa (qd d).1),Xk (qd d).2]
noncomputable def zrU:List AV→St→Option (AV×St):=vF vr (fun d=>(qd d).1.length<2000000) itR
theorem zqh{f:Nat}(h:O f=some zrU)(hi:(qd d).1.length<2000000)(s:St):(evW env O).call f [.agg (w4 d)] s=some (itR d,s):=by
 rw[wN h,zrU,qP l9 s d hi (ZP d)]
theorem zqf(d:DT):wq (itR d)=true:=by simp only[itR,uQ,wp,qe,JX,wA,xA]
mutual
def wI:DT→Nat
 |.mk _ _ _ ks _=>1+w9 ks
def w9:List DT→Nat
 |[]=>0
 |d::r=>wI d+w9 r
end
theorem vv:∀d,0<wI d
 |.mk _ _ _ ks _=>by simp only[wI];omega
theorem j3:∀l,l.length≤w9 l
 |[]=>zu _
 |d::r=>by simp only[w9,yb];have:=j3 r;have:=vv d;omega
theorem jt:∀{l:List DT} {d:DT},d∈l→wI d≤w9 l
 |[],d,h=>by cases h
 |x::r,d,h=>by
  simp only[w9];rcases List.mem_cons.1 h with rfl|h
  ·omega
  ·have:=jt h;omega
theorem uH{x y:DT}(h:qH d=some (x,y)):wI d=1+wI x+wI y:=by
 obtain⟨kd,n,t,ks,p⟩:=d;obtain⟨rfl,rfl⟩:=vV h;simp only[wI,w9];omega
theorem Qd(d:DT):w9 (qd d).1+wI (qd d).2≤wI d:=by
 have key:∀(k:Nat) (d:DT),SizeOf.sizeOf d<k→w9 (qd d).1+wI (qd d).2≤wI d:=by
  intro k
  induction k with
  |zero=>intro d h;omega
  | succ k ih=>
   intro d h;cases hk:qH d with
   |none=>rw[gS hk];simp only[w9];omega
   |some xy=>
    obtain⟨x,y⟩:=xy;have:=ih y (by have:=(ZV hk).2;omega)
    have h2:=uH hk;rw[kq hk];simp only[w9];omega
 exact key _ d (yc _)
def Pq:DT→Int|.mk k _ _ _ _=>k
def zim:DT→Int|.mk _ n _ _ _=>n
def Gm:DT→List Nat|.mk _ _ t _ _=>t
def jP:DT→List DT|.mk _ _ _ ks _=>ks
theorem ku(d:DT):wI d=1+w9 (jP d):=by cases d;simp only[wI,jP]
def Gcx{α:Type}(p:α→Prop)(C:Cx)(fr1:α→Fr)(s1:α→St)(Q:Res→Fr→St→Prop):Res→Fr→St→Prop
 |.norm,f,t=>∃x,p x∧Gc C f t (fr1 x) (s1 x)
 |r,f,t=>Q r f t
theorem zzs{α:Type}{C:Cx}{ia ib:ICode}{fr:Fr}{Q:Res→Fr→St→Prop}(p:α→Prop)(fr1:α→Fr)(s1:α→St)(h1:Tri C ia fr s (Gcx p C fr1 s1 Q))(h2:∀x,p x→Tri C ib (fr1 x) (s1 x) Q):Tri C (.seq ia ib) fr s Q:=
 qq (h1.mono fun r f t=>by
  cases r with
  |norm=>exact fun⟨x,hp,hg⟩=>zxy hg (h2 x hp)
  |exit i=>exact fun h=>h
  |ret=>exact fun h=>h)
theorem zmk{kd n:Int}{t:List Nat}{ks:List DT}{p:Int}(h:qH (.mk kd n t ks p)=none):(eqD kd (.ofNat 6)=false)∨(kd=.ofNat 6∧¬ks.length=2):=by
 by_cases hk:kd=.ofNat 6
 ·exact .inr ⟨hk,Qb h hk⟩
 ·exact .inl (qx hk)
def zuC(c:Int):Bool:=match c with
 |.ofNat n=>qT n
 |.negSucc _=>false
theorem qy:qT n=true↔n≤1114111∧(n<55296∨57343<n):=by
 unfold qT;rw[GD];by_cases h:n<55296
 ·rw[if_pos h];simp;omega
 ·rw[if_neg h,Bool.and_eq_true,x9,x9];omega
theorem zn6:zuC (.ofNat n)=decide (n≤1114111∧(n<55296∨57343<n)):=by
 show qT n=_;by_cases h:n≤1114111∧(n<55296∨57343<n)
 ·rw[qy.2 h];exact(decide_eq_true h).symm
 ·rw[decide_eq_false h];cases hv:qT n with
  |false=>rfl
  |true=>exact absurd (qy.1 hv) h
def zyv(c:Int):List AV:=[.int .i64 c]
theorem zsV:∀x y,zyv x=zyv y→x=y:=fun x y h=>by
 simp only[zyv,List.cons.injEq,AV.int.injEq,true_and,and_true]at h;exact h
noncomputable def gIs:List AV→St→Option (AV×St):=vF zyv (fun _=>True) (fun c=>.bool (zuC c))
theorem zn7{f:Nat}(h:O f=some gIs)(c:Int)(s:St):(evW env O).call f [.int .i64 c] s=some (.bool (zuC c),s):=by
 rw[wN h,gIs,qP zsV s c trivial rfl]
attribute [local go_sem] zyv zuC f136 in
theorem zjH(B:Bx P w0)(hO:OrcOk P w0 O)(o82:O 136=none)(c:Int):
  SC P w0 108 (zyv c) (H [] 0 true) (.bool (zuC c)) (H [] 0 true):=by
 refine Is.sc hO B.mixed B.glob B.env 0 (show env.funs.get 108=some f108 from rfl) (ziw rfl) gB fun C k=>?_;have cv:= @vY env O _ _ o82 (show env.funs.get 136=some f136 from rfl) rfl;unfold f108;simp only[Ko,Kg,Ki];cases c with
 |negSucc m=>
  refine k.z ?_;exact fin
 | ofNat n=>
  rw[zn6];by_cases h1:n≤1114111
  ·by_cases h2:n<55296
   ·rw[decide_eq_true ⟨h1,.inl h2⟩];refine k.z ?_;exact fin
   ·by_cases h3:57343<n
    ·rw[decide_eq_true ⟨h1,.inr h3⟩];refine k.z ?_;exact fin
    ·rw[decide_eq_false oM];refine k.z ?_;exact fin
  ·rw[decide_eq_false oM];refine k.z ?_;exact fin
open Int (reduceOfNat reduceNegSucc)
def gh(l:List Nat):List AV:=[.lst l.length false (ww l)]
theorem VH:∀x y,gh x=gh y→x=y:=fun x y h=>by
 simp only[gh,List.cons.injEq,AV.lst.injEq,true_and,and_true]at h;exact Vc h.2
theorem X5(l:List Nat):xY (gh l)=true:=by simp only[gh,wp,qe,wA,xA]
theorem GS(l:List Nat)(e:Bool):wkL [AV.lst l.length e (ww l)]=gh l:=by simp only[gh,wkL,wkV,WA]
def LE(l:List Nat):Option (Nat×Nat):=if (uB l).1=65533∧(uB l).2≤1 then none else some (uB l)
theorem zkJ(a b:Nat):Nat.div a b=a/b:=rfl
theorem bb(a b:Nat):Nat.beq a b=decide (a=b):=by
 cases h:Nat.beq a b with
 |true=>exact(decide_eq_true (we.1 h)).symm
 |false=>exact(decide_eq_false (fun h'=>by rw[we.2 h']at h;cases h)).symm
theorem kK(a b:Nat):Xg a b=a%32*64+b%64:=rfl
theorem ZM(a b c:Nat):Z9 a b c=a%16*4096+b%64*64+c%64:=rfl
theorem ZN(a b c d:Nat):Vx a b c d=a%8*262144+b%64*4096+c%64*64+d%64:=rfl
theorem zyf(a:Nat):uB [a]=if a<128 then (a,1)else (65533,1):=by
 simp only[uB,Xi,ziz]
theorem zyg(a b:Nat):uB [a,b]=if a<128 then (a,1)else if a/32=6∧b/64=2∧128≤Xg a b then (Xg a b,2)else (65533,1):=by
 simp only[uB,Xi,ziz,Jb,bb,Xh,zkJ];by_cases h0:a<128
 ·rw[if_pos h0,if_pos h0]
 rw[if_neg h0,if_neg h0];by_cases h1:a/32=6<;>by_cases h2:b/64=2<;>by_cases h3:128≤Xg a b<;>simp[h1,h2,h3]
theorem zyh(a b c:Nat):uB [a,b,c]=if a<128 then (a,1)else if a/32=6∧b/64=2∧128≤Xg a b then (Xg a b,2)else if a/16=14∧b/64=2∧c/64=2∧2048≤Z9 a b c∧qT (Z9 a b c)=true then (Z9 a b c,3)else (65533,1):=by
 simp only[uB,Xi,ziz,Jb,bb,Xh,zkJ];by_cases h0:a<128
 ·rw[if_pos h0,if_pos h0]
 rw[if_neg h0,if_neg h0];by_cases h1:a/32=6
 ·have h4:¬a/16=14:=oM;by_cases h2:b/64=2<;>by_cases h3:128≤Xg a b<;>simp[h1,h2,h3,h4]
 ·by_cases h4:a/16=14<;>by_cases h2:b/64=2<;>by_cases h5:c/64=2<;>by_cases h6:2048≤Z9 a b c<;>cases h7:qT (Z9 a b c)<;>simp[h1,h2,h4,h5,h6]
theorem GO(a b c d:Nat)(r:List Nat):uB (a::b::c::d::r)=if a<128 then (a,1)else if a/32=6∧b/64=2∧128≤Xg a b then (Xg a b,2)else if a/16=14∧b/64=2∧c/64=2∧2048≤Z9 a b c∧qT (Z9 a b c)=true then (Z9 a b c,3)
  else if a/8=30∧b/64=2∧c/64=2∧d/64=2∧65536≤Vx a b c d∧qT (Vx a b c d)=true then (Vx a b c d,4)else (65533,1):=by
 simp only[uB,Xi,ziz,Jb,bb,Xh,zkJ];by_cases h0:a<128
 ·rw[if_pos h0,if_pos h0]
 rw[if_neg h0,if_neg h0];by_cases h1:a/32=6
 ·have h4:¬a/16=14:=oM;have h8:¬a/8=30:=oM;by_cases h2:b/64=2<;>by_cases h3:128≤Xg a b<;>simp[h1,h2,h3,h4,h8]
 ·by_cases h4:a/16=14
  ·have h8:¬a/8=30:=oM;by_cases h2:b/64=2<;>by_cases h5:c/64=2<;>by_cases h6:2048≤Z9 a b c<;>cases h7:qT (Z9 a b c)<;>simp[h1,h2,h4,h5,h6,h8]
  ·by_cases h8:a/8=30<;>by_cases h2:b/64=2<;>by_cases h5:c/64=2<;>by_cases h9:d/64=2<;>by_cases h6:65536≤Vx a b c d<;>cases h7:qT (Vx a b c d)<;>simp[h1,h2,h4,h5,h6,h8,h9]
theorem zjv{a:Nat}(h:a<256):ub .and .u8 (.ofNat a) .u8 (.ofNat 31)=some (.int .u8 (.ofNat (a%32))):=by
 have:∀a,a<256→bits .and .u8 (.ofNat a) (.ofNat 31)=some (.ofNat (a%32)):=by decide+kernel
 show (match bits .and .u8 (.ofNat a) (.ofNat 31)with|some n=>some (AV.int .u8 n)|none=>none)=_
 rw[this a h]
theorem zju{a:Nat}(h:a<256):ub .and .u8 (.ofNat a) .u8 (.ofNat 15)=some (.int .u8 (.ofNat (a%16))):=by
 have:∀a,a<256→bits .and .u8 (.ofNat a) (.ofNat 15)=some (.ofNat (a%16)):=by decide+kernel
 show (match bits .and .u8 (.ofNat a) (.ofNat 15)with|some n=>some (AV.int .u8 n)|none=>none)=_
 rw[this a h]
theorem zoF{a:Nat}(h:a<256):ub .and .u8 (.ofNat a) .u8 (.ofNat 7)=some (.int .u8 (.ofNat (a%8))):=by
 have:∀a,a<256→bits .and .u8 (.ofNat a) (.ofNat 7)=some (.ofNat (a%8)):=by decide+kernel
 show (match bits .and .u8 (.ofNat a) (.ofNat 7)with|some n=>some (AV.int .u8 n)|none=>none)=_
 rw[this a h]
theorem ztS{a:Nat}(h:a<256):ub .and .u8 (.ofNat a) .u8 (.ofNat 63)=some (.int .u8 (.ofNat (a%64))):=by
 have:∀a,a<256→bits .and .u8 (.ofNat a) (.ofNat 63)=some (.ofNat (a%64)):=by decide+kernel
 show (match bits .and .u8 (.ofNat a) (.ofNat 63)with|some n=>some (AV.int .u8 n)|none=>none)=_
 rw[this a h]
theorem zoG{a:Nat}(h:a<256):ub .andNot .i32 (.ofNat a) .i32 (.negSucc 0)=some (.int .i32 (.ofNat 0)):=by
 have:∀a,a<256→bits .andNot .i32 (.ofNat a) (.negSucc 0)=some (.ofNat 0):=by decide+kernel
 show (match bits .andNot .i32 (.ofNat a) (.negSucc 0)with|some n=>some (AV.int .i32 n)|none=>none)=_
 rw[this a h]
theorem zig:ub .and .i32 (.ofNat 65533) .i32 (.negSucc 0)=some (.int .i32 (.ofNat 65533)):=by
 have:bits .and .i32 (.ofNat 65533) (.negSucc 0)=some (.ofNat 65533):=by decide+kernel
 show (match bits .and .i32 (.ofNat 65533) (.negSucc 0)with|some n=>some (AV.int .i32 n)|none=>none)=_
 rw[this]
theorem zj3:ub .shl .i32 (.ofNat 241) .u64 (.ofNat 31)=some (.int .i32 (.negSucc 2147483647)):=by
 have:vW .i32 (zG 241*2^(min (zG 31).toNat (IntKind.bits .i32)))=.negSucc 2147483647:=by decide+kernel
 show some (AV.int .i32 _)=_;rw[this]
theorem zj6:ub .shr .i32 (.negSucc 2147483647) .u64 (.ofNat 31)=some (.int .i32 (.negSucc 0)):=by
 have:(Int.negSucc 2147483647).fdiv (2^(min (zG 31).toNat (IntKind.bits .i32)))=.negSucc 0:=by decide+kernel
 show some (AV.int .i32 _)=_;rw[this]
theorem zmP(a:Nat):ub .shr .u8 (.ofNat a) .u64 (.ofNat 4)=some (.int .u8 (.ofNat (a/16))):=by
 show some (AV.int .u8 (Int.fdiv (.ofNat a) (.ofNat 16)))=_;cases a<;>rfl
theorem zk6(a:Nat):ub .shl .i32 (.ofNat a) .u64 (.ofNat 6)=some (.int .i32 (vW .i32 (.ofNat (a*64)))):=rfl
theorem zlN(a:Nat):ub .shl .i32 (.ofNat a) .u64 (.ofNat 12)=some (.int .i32 (vW .i32 (.ofNat (a*4096)))):=rfl
theorem zj4(a:Nat):ub .shl .i32 (.ofNat a) .u64 (.ofNat 18)=some (.int .i32 (vW .i32 (.ofNat (a*262144)))):=rfl
theorem ztM(h:n<2147483648):IntKind.wrap .i32 ((n:Nat):Int)=.ofNat n:=by
 have h1:((n:Nat):Int)%(2^IntKind.bits .i32:Int)=(n:Int):=by
  show (n:Int)%4294967296=_;omega
 have h2:¬((n:Nat):Int)≥(2^(IntKind.bits .i32-1):Int):=by
  show ¬(n:Int)≥2147483648;omega
 unfold IntKind.wrap;simp only[h1,h2,decide_false,Bool.and_false,Bool.false_eq_true,if_false];rfl
theorem orN{a b:Nat}(h:a<16777216)(h':b<16777216):ub .or .i32 (.ofNat a) .i32 (.ofNat b)=some (.int .i32 (.ofNat (a|||b))):=by
 have e:∀n,n<16777216→BitVec.ofInt 32 (zG n)=BitVec.ofNat 32 n:=fun n _=>rfl;have hor:a|||b<16777216:=Nat.or_lt_two_pow (n:=24) h h'
 have:bits .or .i32 (.ofNat a) (.ofNat b)=some (.ofNat (a|||b)):=by
  show some (IntKind.wrap .i32 _)=_
  congr 1
  have:((BitVec.ofInt (IntKind.bits .i32) (zG a))|||(BitVec.ofInt (IntKind.bits .i32) (zG b))).toNat=a|||b:=by
   show ((BitVec.ofNat 32 a)|||(BitVec.ofNat 32 b)).toNat=_
   rw[BitVec.toNat_or,BitVec.toNat_ofNat,BitVec.toNat_ofNat,Nat.mod_eq_of_lt oM,Nat.mod_eq_of_lt oM]
  rw[this];exact ztM oM
 show (match bits .or .i32 (.ofNat a) (.ofNat b)with|some n=>some (AV.int .i32 n)|none=>none)=_
 rw[this]
theorem or2{a b:Nat}(h:b<64):a*64|||b=a*64+b:=by
 have:=zix (i:=6) h a;rw[yy a 64];exact this.symm
theorem zjU{a b:Nat}(h:b<64):a*4096|||b*64=a*4096+b*64:=by
 have e1:=zix (i:=12) (b:=b*64) oM a;rw[yy a 4096];exact e1.symm
theorem zjV{a b c:Nat}(h:c<64):(a*4096+b*64)|||c=a*4096+b*64+c:=by
 have:=or2 (a:=a*64+b) h;rw[show (a*64+b)*64=a*4096+b*64 by omega]at this;exact this
theorem zir{a b:Nat}(h:b<64):a*262144|||b*4096=a*262144+b*4096:=by
 have e1:=zix (i:=18) (b:=b*4096) oM a;rw[yy a 262144];exact e1.symm
theorem zjW{a b c:Nat}(h:c<64):(a*262144+b*4096)|||c*64=a*262144+b*4096+c*64:=by
 have:=zjU (a:=a*64+b) h;rw[show (a*64+b)*4096=a*262144+b*4096 by omega]at this;exact this
theorem zjX{a b c d:Nat}(h:d<64):(a*262144+b*4096+c*64)|||d=a*262144+b*4096+c*64+d:=by
 have:=or2 (a:=a*4096+b*64+c) h;rw[show (a*4096+b*64+c)*64=a*262144+b*4096+c*64 by omega]at this;exact this
def kC(c:Nat):Nat:=if c<128 then 240 else if c<194 then 241 else if c<224 then 2 else if c=224 then 19 else if c<237 then 3 else if c=237 then 35 else if c<240 then 3 else if c=240 then 52 else if c<244 then 4 else if c=244 then 68 else 241
def u8V(v:Option AV)(n:Nat):Bool:=match v with
 |some (.int .u8 (.ofNat m))=>Nat.beq m n
 |_=>false
theorem zjh{v:Option AV}(h:u8V v n=true):v=some (.int .u8 (.ofNat n)):=by
 unfold u8V at h;split at h
 ·rw[we.1 h]
 ·cases h
theorem zwk{c:Nat}(h:c<256)(s:St):vLd env.globs s (.gptr 0 c)=some (.int .u8 (.ofNat (kC c))):=by
 have key:(List.range 256).all (fun c=>u8V (vLd env.globs s0 (.gptr 0 c)) (kC c))=true:=by decide+kernel
 have:=zjh (List.all_eq_true.1 key c (List.mem_range.2 h));rw[←this];rfl
theorem zwl(s:St):ZH env.globs s 2 (.gptr 1 0)=some (.agg [.int .u8 (.ofNat 128),.int .u8 (.ofNat 191)])∧ZH env.globs s 2 (.gptr 1 2)=some (.agg [.int .u8 (.ofNat 160),.int .u8 (.ofNat 191)])∧ZH env.globs s 2 (.gptr 1 4)=some (.agg [.int .u8 (.ofNat 128),.int .u8 (.ofNat 159)])∧ZH env.globs s 2 (.gptr 1 6)=some (.agg [.int .u8 (.ofNat 144),.int .u8 (.ofNat 191)])∧ZH env.globs s 2 (.gptr 1 8)=some (.agg [.int .u8 (.ofNat 128),.int .u8 (.ofNat 143)]):=
 ⟨rfl,rfl,rfl,rfl,rfl⟩
theorem HL{g off i:Nat}{k:IntKind}(h:i<n):zzy n esz (.gptr g off) (.int k (.ofNat i))=some (.gptr g (off+i*esz)):=by
 simp only[zzy,zyV k h];rfl
noncomputable def jh(l:List Nat):AV:=.tup [.int .i32 (.ofNat (uB l).1),.int .i64 (.ofNat (uB l).2)]
theorem Vy(l:List Nat):wq (jh l)=true:=by simp only[jh,uQ,wp,vb,wA,xA]
theorem dl4{a b c d:Nat}{r:List Nat}{v:Nat×Nat}(h:uB (a::b::c::d::r)=v:=by (rw[GO];(repeat' split);all_goals first|rfl|(exfalso;(try simp only[kK,ZM,ZN,qy]at *);omega))):jh (a::b::c::d::r)=.tup [.int .i32 (.ofNat v.1),.int .i64 (.ofNat v.2)]:=by subst h;rfl
theorem dl3{a b c:Nat}{r:List Nat}{v:Nat×Nat}(h:uB [a,b,c]=v:=by (rw[zyh];(repeat' split);all_goals first|rfl|(exfalso;(try simp only[kK,ZM,ZN,qy]at *);omega)))(h4:∀d s,r=d::s→uB (a::b::c::d::s)=v:=by (intros;first|contradiction|(rw[GO];(repeat' split);all_goals first|rfl|(exfalso;(try simp only[kK,ZM,ZN,qy]at *);omega)))):jh (a::b::c::r)=.tup [.int .i32 (.ofNat v.1),.int .i64 (.ofNat v.2)]:=by
 cases r with
 |nil=>subst h;rfl
 |cons d s=>exact h4 d s rfl▸rfl
theorem dl2{a b:Nat}{r:List Nat}{v:Nat×Nat}(h:uB [a,b]=v:=by (rw[zyg];(repeat' split);all_goals first|rfl|(exfalso;(try simp only[kK,ZM,ZN,qy]at *);omega)))(h3:∀c s,r=c::s→jh (a::b::c::s)=.tup [.int .i32 (.ofNat v.1),.int .i64 (.ofNat v.2)]:=by (intros;first|contradiction|exact dl3)):jh (a::b::r)=.tup [.int .i32 (.ofNat v.1),.int .i64 (.ofNat v.2)]:=by
 cases r with
 |nil=>subst h;rfl
 |cons d s=>exact h3 d s rfl
theorem dl1{a:Nat}{r:List Nat}{v:Nat×Nat}(h:uB [a]=v:=by (rw[zyf];(repeat' split);all_goals first|rfl|(exfalso;(try simp only[kK,ZM,ZN,qy]at *);omega)))(h2:∀c s,r=c::s→jh (a::c::s)=.tup [.int .i32 (.ofNat v.1),.int .i64 (.ofNat v.2)]:=by (intros;first|contradiction|exact dl2)):jh (a::r)=.tup [.int .i32 (.ofNat v.1),.int .i64 (.ofNat v.2)]:=by
 cases r with
 |nil=>subst h;rfl
 |cons d s=>exact h2 d s rfl
attribute [local go_sem] gh HL zoF zmP zj3 zj6 zoG zig orN Nat.zero_or in
theorem zpQ(B:Bx P w0)(hO:OrcOk P w0 O)(b0:Nat)(r:List Nat)(hb:Byt (b0::r))(hc:128≤b0∧(b0<194∨244<b0))(hlen:(b0::r).length<2000000):
  SC P w0 173 (gh (b0::r)) (H [] 0 true) (jh (b0::r)) (H [] 0 true):=by
 refine Is.sc hO B.mixed B.glob B.env 0 (show env.funs.get 173=some f173 from rfl) (ziw rfl) gB fun C k=>?_;have h0:b0<256:=hb b0 (by simp)
 have hx:kC b0=241:=by
  unfold kC
  repeat' split
  all_goals omega
 have hl2:=fun s=>zwk (c:=b0) h0 s;rw[hx]at hl2;have hl3:=fun s=>zwl s;unfold f173;simp only[Ko,Kg,Kn,Ki];rw[dl1 (v:=(65533,1))];refine k.z ?_;exact fin
attribute [local go_sem] gh HL zoF zmP zjv ztS zk6 orN or2 kK in
theorem zpR(B:Bx P w0)(hO:OrcOk P w0 O)(b0:Nat)(r:List Nat)(hb:Byt (b0::r))(hc:128≤b0∧(194≤b0∧b0<224))(hlen:(b0::r).length<2000000):
  SC P w0 173 (gh (b0::r)) (H [] 0 true) (jh (b0::r)) (H [] 0 true):=by
 refine Is.sc hO B.mixed B.glob B.env 0 (show env.funs.get 173=some f173 from rfl) (ziw rfl) gB fun C k=>?_;have h0:b0<256:=hb b0 (by simp)
 have hx:kC b0=2:=by
  unfold kC
  repeat' split
  all_goals omega
 have hl2:=fun s=>zwk (c:=b0) h0 s;rw[hx]at hl2;have hl3:=fun s=>zwl s;unfold f173;simp only[Ko,Kg,Kn,Ki]
 match r,hb,hlen with
 |[],hb,hlen=>
  rw[dl1 (v:=(65533,1))];refine k.z ?_;exact fin
 | b1::r,hb,hlen=>
  have h1:b1<256:=hb b1 (by simp)
  simp only[yb]at hlen;have hlr:r.length<2000000:=oM;by_cases g1:b1<128
  case pos=>
   rw[dl2 (v:=(65533,1))];refine k.z ?_;exact fin
  by_cases g2:191<b1
  case pos=>
   rw[dl2 (v:=(65533,1))];refine k.z ?_;exact fin
  rw[dl2 (v:=(Xg b0 b1,2))];refine k.z ?_;exact fin
attribute [local go_sem] gh HL zoF zmP zju ztS zk6 zlN orN zjU zjV ZM in
theorem zpS(B:Bx P w0)(hO:OrcOk P w0 O)(b0:Nat)(r:List Nat)(hb:Byt (b0::r))(hc:224≤b0∧b0<240)(hlen:(b0::r).length<2000000):
  SC P w0 173 (gh (b0::r)) (H [] 0 true) (jh (b0::r)) (H [] 0 true):=by
 refine Is.sc hO B.mixed B.glob B.env 0 (show env.funs.get 173=some f173 from rfl) (ziw rfl) gB fun C k=>?_;have h0:b0<256:=hb b0 (by simp)
 obtain⟨x,lo,hi,hx,hq⟩:∃x lo hi,kC b0=x∧((x=19∧lo=160∧hi=191∧b0<225)∨(x=3∧lo=128∧hi=191∧225≤b0∧(b0<237∨238≤b0))∨(x=35∧lo=128∧hi=159∧237≤b0∧b0<238)):=by
  refine⟨kC b0,if b0<225 then 160 else 128,if 237≤b0∧b0<238 then 159 else 191,rfl,?_⟩;unfold kC
  repeat' split
  all_goals omega
 have hl2:=fun s=>zwk (c:=b0) h0 s;rw[hx]at hl2;clear hx;have hl3:=fun s=>zwl s;unfold f173;simp only[Ko,Kg,Kn,Ki]
 match r,hb,hlen with
 |[],hb,hlen=>
  rcases hq with ⟨rfl,rfl,rfl,hq⟩|⟨rfl,rfl,rfl,hq⟩|⟨rfl,rfl,rfl,hq⟩
  all_goals rw[dl1 (v:=(65533,1))];refine k.z ?_;exact fin
 |[b1],hb,hlen=>
  have h1:b1<256:=hb b1 (by simp)
  rcases hq with ⟨rfl,rfl,rfl,hq⟩|⟨rfl,rfl,rfl,hq⟩|⟨rfl,rfl,rfl,hq⟩
  all_goals rw[dl2 (v:=(65533,1))];refine k.z ?_;exact fin
 | b1::b2::r,hb,hlen=>
  have h1:b1<256:=hb b1 (by simp)
  have h2:b2<256:=hb b2 (by simp)
  simp only[yb]at hlen;have hlr:r.length<2000000:=oM;by_cases g1:b1<lo
  rotate_left
  by_cases g2:hi<b1
  rotate_left
  by_cases g3:b2<128
  rotate_left
  by_cases g4:191<b2
  rotate_left
  rw[dl3 (v:=(Z9 b0 b1 b2,3))]
  rotate_left
  iterate 4 (rw[dl3 (v:=(65533,1))];rotate_left)
  all_goals
   rcases hq with ⟨rfl,rfl,rfl,hq⟩|⟨rfl,rfl,rfl,hq⟩|⟨rfl,rfl,rfl,hq⟩
   all_goals refine k.z ?_;exact fin
attribute [local go_sem] gh HL zoF zmP ztS zk6 zlN zj4 orN zir zjW zjX ZN in
theorem zpT(B:Bx P w0)(hO:OrcOk P w0 O)(b0:Nat)(r:List Nat)(hb:Byt (b0::r))(hc:240≤b0∧b0<245)(hlen:(b0::r).length<2000000):
  SC P w0 173 (gh (b0::r)) (H [] 0 true) (jh (b0::r)) (H [] 0 true):=by
 refine Is.sc hO B.mixed B.glob B.env 0 (show env.funs.get 173=some f173 from rfl) (ziw rfl) gB fun C k=>?_;have h0:b0<256:=hb b0 (by simp)
 obtain⟨x,lo,hi,hx,hq⟩:∃x lo hi,kC b0=x∧((x=52∧lo=144∧hi=191∧b0<241)∨(x=4∧lo=128∧hi=191∧241≤b0∧b0<244)∨(x=68∧lo=128∧hi=143∧244≤b0)):=by
  refine⟨kC b0,if b0<241 then 144 else 128,if 244≤b0 then 143 else 191,rfl,?_⟩;unfold kC
  repeat' split
  all_goals omega
 have hl2:=fun s=>zwk (c:=b0) h0 s;rw[hx]at hl2;clear hx;have hl3:=fun s=>zwl s;unfold f173;simp only[Ko,Kg,Kn,Ki]
 match r,hb,hlen with
 |[],hb,hlen=>
  rcases hq with ⟨rfl,rfl,rfl,hq⟩|⟨rfl,rfl,rfl,hq⟩|⟨rfl,rfl,rfl,hq⟩
  all_goals rw[dl1 (v:=(65533,1))];refine k.z ?_;exact fin
 |[b1],hb,hlen=>
  have h1:b1<256:=hb b1 (by simp)
  rcases hq with ⟨rfl,rfl,rfl,hq⟩|⟨rfl,rfl,rfl,hq⟩|⟨rfl,rfl,rfl,hq⟩
  all_goals rw[dl2 (v:=(65533,1))];refine k.z ?_;exact fin
 |[b1,b2],hb,hlen=>
  have h1:b1<256:=hb b1 (by simp)
  have h2:b2<256:=hb b2 (by simp)
  rcases hq with ⟨rfl,rfl,rfl,hq⟩|⟨rfl,rfl,rfl,hq⟩|⟨rfl,rfl,rfl,hq⟩
  all_goals rw[dl3 (v:=(65533,1))];refine k.z ?_;exact fin
 | b1::b2::b3::r,hb,hlen=>
  have h1:b1<256:=hb b1 (by simp)
  have h2:b2<256:=hb b2 (by simp)
  have h3:b3<256:=hb b3 (by simp)
  simp only[yb]at hlen;have hlr:r.length<2000000:=oM;by_cases g1:b1<lo
  rotate_left
  by_cases g2:hi<b1
  rotate_left
  by_cases g3:b2<128
  rotate_left
  by_cases g4:191<b2
  rotate_left
  by_cases g5:b3<128
  rotate_left
  by_cases g6:191<b3
  rotate_left
  rw[dl4 (v:=(Vx b0 b1 b2 b3,4))]
  rotate_left
  iterate 6 (rw[dl4 (v:=(65533,1))];rotate_left)
  all_goals
   rcases hq with ⟨rfl,rfl,rfl,hq⟩|⟨rfl,rfl,rfl,hq⟩|⟨rfl,rfl,rfl,hq⟩
   all_goals refine k.z ?_;exact fin
theorem zmR(B:Bx P w0)(hO:OrcOk P w0 O)(b0:Nat)(r:List Nat)(hb:Byt (b0::r))(hc:128≤b0)(hlen:(b0::r).length<2000000):
  SC P w0 173 (gh (b0::r)) (H [] 0 true) (jh (b0::r)) (H [] 0 true):=by
 have h0:b0<256:=hb b0 (by simp)
 by_cases c1:b0<194∨244<b0
 ·exact zpQ B hO b0 r hb ⟨hc,c1⟩ hlen
 by_cases c2:b0<224
 ·exact zpR B hO b0 r hb ⟨hc,oM,c2⟩ hlen
 by_cases c5:b0<240
 ·exact zpS B hO b0 r hb ⟨oM,c5⟩ hlen
 exact zpT B hO b0 r hb ⟨oM,oM⟩ hlen
def zoC(l:List Nat):Prop:=∃b0 r,l=b0::r∧Byt l∧128≤b0∧l.length<2000000
noncomputable def Pl:List AV→St→Option (AV×St):=vF gh zoC jh
theorem zu9(h:O 173=some Pl){b0:Nat}{r:List Nat}(hb:Byt (b0::r))(h1:128≤b0)(h2:(b0::r).length<2000000)(e:Bool)(s:St):(evW env O).call 173 [.lst (r.length+1) e (.int .u8 (.ofNat b0)::ww r)] s=some (jh (b0::r),s):=by
 rw[wN h,Pl];exact qP VH s (b0::r) ⟨b0,r,rfl,hb,h1,h2⟩ (GS (b0::r) e)
def zjs(l:List Nat):Prop:=l≠[]∧Byt l∧l.length<2000000
noncomputable def gDr:List AV→St→Option (AV×St):=vF gh zjs jh
theorem zo6(h:O 158=some gDr){l:List Nat}(h0:l≠[])(hb:Byt l)(h2:l.length<2000000)(hn:n=l.length)(e:Bool)(s:St):(evW env O).call 158 [.lst n e (ww l)] s=some (jh l,s):=by
 subst hn;rw[wN h,gDr,qP VH s l ⟨h0,hb,h2⟩ (GS l e)]
theorem Vz{b0:Nat}(h:b0<128)(r:List Nat):uB (b0::r)=(b0,1):=by
 simp only[uB,GD,if_pos h]
attribute [local go_sem] gh in
theorem zjC(B:Bx P w0)(hO:OrcOk P w0 O)(h117:O 173=some Pl)(l:List Nat)(hl:l≠[])(hb:Byt l)(hlen:l.length<2000000):
  SC P w0 158 (gh l) (H [] 0 true) (jh l) (H [] 0 true):=by
 refine Is.sc hO B.mixed B.glob B.env 0 (show env.funs.get 158=some f158 from rfl) (ziw rfl) gB fun C k=>?_
 match l,hl,hb,hlen with
 |b0::r,_,hb,hlen=>
 have h0:b0<256:=hb b0 (by simp)
 unfold f158;simp only[Ko,Ki];refine k.q ?_;by_cases h1:b0<128
 ·rw[jh,Vz h1];refine qq ?_;refine k.q ?_;refine vy (jK (Z6 (k.ev ?_)));simp (disch:=first|exact dis|fail)only[go_sem,seval,-rO,-rN,h1]
  refine⟨_,rfl,?_⟩;simp only[wM,kE];exact fin
 ·have hs:=zu9 h117 (b0:=b0) (r:=r) hb oM hlen;rw[jh]at hs⊢;refine qq ?_;refine k.q ?_;refine vy (jK (Z6 (k.ev ?_)));simp (disch:=first|exact dis|fail)only[go_sem,seval,-rO,-rN,h1]
  refine⟨_,rfl,?_⟩;simp only[wM,kE];refine k.z ?_;exact fin
theorem JQ:∀{l:List Nat},l≠[]→1≤(uB l).2∧(uB l).2≤l.length∧qT (uB l).1=true
 |[],h=>absurd rfl h
 |[a],_=>by
  rw[zyf];split
  ·exact⟨zu _,by simp,qy.2 oM⟩
  ·exact⟨zu _,by simp,rfl⟩
 | [a,b],_=>by
  rw[zyg];split
  ·exact⟨zu _,by simp,qy.2 (by simp only;omega)⟩
  ·split
   ·exact⟨by simp,by simp,qy.2 (by simp only[kK];omega)⟩
   ·exact⟨zu _,by simp,rfl⟩
 | [a,b,c],_=>by
  rw[zyh];split
  ·exact⟨zu _,by simp,qy.2 (by simp only;omega)⟩
  ·split
   ·exact⟨by simp,by simp,qy.2 (by simp only[kK];omega)⟩
   ·split
    ·rename_i h;exact⟨by simp,by simp,h.2.2.2.2⟩
    ·exact⟨zu _,by simp,rfl⟩
 | a ::b::c::d::r,_=>by
  rw[GO];simp only[yb];split
  ·exact⟨zu _,by simp only;omega,qy.2 (by simp only;omega)⟩
  ·split
   ·exact⟨by simp,by simp only;omega,qy.2 (by simp only[kK];omega)⟩
   ·split
    ·rename_i h;exact⟨by simp,by simp only;omega,h.2.2.2.2⟩
    ·split
     ·rename_i h;exact⟨by simp,by simp only;omega,h.2.2.2.2.2⟩
     ·exact⟨zu _,by simp only;omega,rfl⟩
def U7(b:List Nat):Nat→Nat→List (Nat×Nat)→Sum (List (Nat×Nat)) Nat
 |0,i,_=>.inr i
 |k+1,i,acc=>if b.length≤i then .inl acc else match LE (b.drop i)with
  |none=>.inr i
  |some p=>U7 b k (i+p.2) (acc++[(p.1,i)])
def uk(l:List (Nat×Nat)):List AV:=xP (fun p:Nat×Nat=>[AV.int .i64 (.ofNat p.1),.int .i64 (.ofNat p.2)]) l
theorem ux(l:List (Nat×Nat)):xY (uk l)=true:=wG (fun p=>by simp only[wp,vb,wA,xA]) l
theorem zvx(l:List (Nat×Nat)):wkL (uk l)=uk l:=vN (fun p=>rfl) l
theorem JM(l:List (Nat×Nat))(p:Nat×Nat):uk (l++[p])=uk l++[.int .i64 (.ofNat p.1),.int .i64 (.ofNat p.2)]:=by unfold uk;rw[wQ,qM]
theorem kj(p:Nat×Nat)(l:List (Nat×Nat)):uk (p::l)=.int .i64 (.ofNat p.1)::.int .i64 (.ofNat p.2)::uk l:=rfl
theorem Ys:uk []=[]:=rfl
def Gz(id:Nat)(acc:List (Nat×Nat)):AV:=match acc with
 |[]=>.nils
 |t::r=>.gr id 2 (t::r).length (uk (t::r))
def Y3(ty:Nat)(acc:List (Nat×Nat)):List (Option AObj):=match acc with
 |[]=>[]
 |t::r=>[some (.app ty (uk (t::r)))]
theorem zwp{l:List (Nat×Option AObj)}{n m id pos:Nat}{md:Bool}{t:List Nat}{x:Nat}{r:List Nat}(hg:xN l id=some (.siter t pos))(hd:t.drop pos=x::r):
  oNs (KL l n m md [] none) (.ptr id 0)=some (.tup [.bool true,.int .i64 (.ofNat pos),.int .i32 (.ofNat (uB (x::r)).1)],KL ((id,some (.siter t (pos+(uB (x::r)).2)))::l) n (u0 m id) md [] none):=by
 simp only[oNs,wh,hg,gg,hd,jC];rfl
theorem zqJ{l:List (Nat×Option AObj)}{n m id pos:Nat}{md:Bool}{t:List Nat}(hg:xN l id=some (.siter t pos))(hd:t.drop pos=[]):
  oNs (KL l n m md [] none) (.ptr id 0)=some (.tup [.bool false],KL l n m md [] none):=by
 simp only[oNs,wh,hg,gg,hd]
theorem zwr(l:List (Nat×Option AObj))(n m:Nat)(md:Bool)(t:List Nat):oRs (KL l n m md [] none) (.str t)=some (.ptr n 0,KL ((n,some (.siter t 0))::l) (n+1) m md [] none):=rfl
def GA(b:List Nat):AV:=match U7 b (b.length+1) 0 []with
 |.inl l=>.tup [.lst l.length false (uk l),.agg [.int .i64 (.ofNat 0),.int .i64 (.ofNat 0)]]
 |.inr i=>.tup [.lst 0 false [],.agg [.int .i64 (.ofNat 4),.int .i64 (.ofNat i)]]
theorem zvd(b:List Nat):wq (GA b)=true:=by
 unfold GA;split<;>simp only[uQ,wp,qe,vw,vb,wA,xA]
def Qq(b:List Nat):Prop:=Byt b∧b.length<2000000
noncomputable def znX:List AV→St→Option (AV×St):=vF gh Qq GA
theorem ztR(h:O 137=some znX){l:List Nat}(hb:Byt l)(h2:l.length<2000000)(hn:n=l.length)(e:Bool)(s:St):(evW env O).call 137 [.lst n e (ww l)] s=some (GA l,s):=by
 subst hn;rw[wN h,znX,qP VH s l ⟨hb,h2⟩ (GS l e)]
theorem Q3{b:List Nat}:∀{k i:Nat} {acc l:List (Nat×Nat)},acc.length≤i→i≤b.length→U7 b k i acc=.inl l→l.length≤b.length
 |0,_,_,_,_,_,h=>by cases h
 | k+1,i,acc,l,h1,h2,h=>by
  rw[U7]at h;split at h
  ·cases h;omega
  ·split at h
   ·cases h
   ·rename_i p hp
    have hne:b.drop i≠[]:=fun he=>by have:=congrArg List.length he;rw[ziy]at this;simp at this;omega
    unfold LE at hp;split at hp
    ·cases hp
    ·cases hp;have:=JQ hne;rw[ziy]at this;exact Q3 (by simp;omega) oM h
attribute [local go_sem] gh JJ zwr Gz Y3 f159 Ys zvx in
theorem zlV(B:Bx P w0)(hO:OrcOk P w0 O)(o101:O 159=none)(h100:O 158=some gDr)(b:List Nat)(hb:Byt b)(hlen:b.length<2000000):
  SC P w0 137 (gh b) (H [] 0 true) (GA b) (H [] 0 true):=by
 refine Is.sc hO B.mixed B.glob B.env 0 (show env.funs.get 137=some f137 from rfl) (ziw rfl) gB fun C k=>?_;have cw:= @vY env O _ _ o101 (show env.funs.get 159=some f159 from rfl) rfl;unfold f137;simp only[Ko,Kn,Ki];refine k.q ?_;refine k.q ?_;refine zzs (fun l=>U7 b (b.length+1) 0 []=.inl l) (fun l=>⟨tmL [(4,Gz 1 l),(3,.ptr 0 0)],[]⟩) (fun l=>H ([some (.row 195 [.int .i64 (.ofNat 0),.int .i64 (.ofNat 0)] false false)]++Y3 198 l) 0 true) ?_ ?_
 ·refine k.q ?_;refine vy (jK (k.gcL [0,1] [11,4,3,0] true (fr1:=⟨tmL [(11,.ptr 1 0),(4,Gz 2 []),(3,.ptr 0 0),(0,.lst b.length false (ww b))],[]⟩) (s1:=H ([some (.row 195 [.int .i64 (.ofNat 0),.int .i64 (.ofNat 0)] false false),some (.siter b 0)]++Y3 198 []) 0 true) (by simp (disch:=first|exact dis|fail)only[go_sem,seval,-rO,-rN,Gz,Y3]) ?_))
  refine lT (fun x:Nat×Nat×List (Nat×Nat)=>x.1) (fun x=>⟨tmL [(11,.ptr 1 0),(4,Gz 2 x.2.2),(3,.ptr 0 0),(0,.lst b.length false (ww b))],[]⟩) (fun x=>H ([some (.row 195 [.int .i64 (.ofNat 0),.int .i64 (.ofNat 0)] false false),some (.siter b x.2.1)]++Y3 198 x.2.2) 0 true) (fun x=>U7 b x.1 x.2.1 x.2.2=U7 b (b.length+1) 0 []∧b.length<x.1+x.2.1∧x.2.1≤b.length∧x.2.2.length≤x.2.1) (fun x hx=>?_) (b.length+1,0,[]) ⟨rfl,by simp only;omega,zQ _,by simp⟩
  obtain⟨kk,i,acc⟩:=x;obtain⟨g1,g2,g3,g4⟩:=hx;simp only at g1 g2 g3 g4⊢;cases kk with
  |zero=>omega
  |succ kk=>
  rw[U7]at g1;rcases wi b i with ⟨hi,hd⟩|⟨y,hi,hd⟩
  ·rw[if_pos hi]at g1;have hns:=fun l n m hg=> @zqJ l n m 1 i true b hg hd;cases acc with
   |nil=>
    refine k.z ?_;simp only[Gcx];refine⟨[],g1.symm,?_⟩;exact k.g [0] [4,3]
   |cons a0 ar=>
    have hp1:=ux (a0::ar);refine k.z ?_;simp only[Gcx];refine⟨a0::ar,g1.symm,?_⟩;exact k.g [0,2] [4,3]
  ·rw [if_neg oM,hd]at g1;have hns:=fun l n m hg=> @zwp l n m 1 i true b y _ hg hd;have hsz:=JQ (l:=y::b.drop (i+1)) (by simp)
   have hsl:(y::b.drop (i+1)).length=b.length-i:=by rw[←hd,ziy]
   rw[hsl]at hsz;have hbd:Byt (y::b.drop (i+1)):=by rw[←hd];exact hb.drop i
   have hdr:=fun e s=>zo6 (O:=O) h100 (l:=b.drop i) (by rw[hd];simp) (hb.drop i) (by rw[ziy];omega) (n:=b.length-i) (by rw[ziy]) e s
   simp only[jh,hd,ww]at hdr;have hc1:=(qy.1 hsz.2.2).1;revert hns hsz hc1 hdr g1;generalize hdl:uB (y::b.drop (i+1))=D;obtain⟨c,sz⟩:=D;intro g1 hns hsz hdr hc1;simp only at hns hsz hdr hc1;by_cases h1:c=65533
   ·subst h1;by_cases h2:sz≤1
    ·have hR:LE (y::b.drop (i+1))=none:=by unfold LE;rw[hdl,if_pos ⟨rfl,h2⟩]
     rw[hR]at g1;simp only at g1;simp only[GA,←g1];cases acc with
     |nil=>
      refine k.z ?_;exact fin
     |cons a0 ar=>
      have hp1:=ux (a0::ar);refine k.z ?_;exact fin
    ·have hR:LE (y::b.drop (i+1))=some (65533,sz):=by unfold LE;rw[hdl,if_neg (fun h=>h2 h.2)]
     rw[hR]at g1;simp only at g1;cases acc with
     |nil=>
      refine k.z ?_;refine⟨(kk,i+sz,[]++[(65533,i)]),⟨g1,by simp only;omega,by simp only;omega,by simp;omega⟩,yc _,?_⟩
      refine k.gcs (keep:=[0,1,2]) (live:=[11,4,3,0]) (md:=true) ?_;simp (disch:=first|exact dis|fail)only[go_sem,seval,-rO,-rN,Gz,Y3,kj,Ys]
     |cons a0 ar=>
      have hp1:=ux (a0::ar);simp only[yb]at g4;refine k.z ?_;refine⟨(kk,i+sz,(a0::ar)++[(65533,i)]),⟨g1,by simp only;omega,by simp only;omega,by simp;omega⟩,yc _,?_⟩
      refine k.gcs (keep:=[0,1,3]) (live:=[11,4,3,0]) (md:=true) ?_;simp only[zM,Gz,Y3,kj,JM,yA,yb,xz];simp (disch:=first|exact dis|fail)only[go_sem,seval,-rO,-rN,ux]
   ·have hR:LE (y::b.drop (i+1))=some (c,sz):=by unfold LE;rw[hdl,if_neg (fun h=>h1 h.1)]
    rw[hR]at g1;simp only at g1;cases acc with
    |nil=>
     refine k.z ?_;refine⟨(kk,i+sz,[]++[(c,i)]),⟨g1,by simp only;omega,by simp only;omega,by simp;omega⟩,yc _,?_⟩
     refine k.gcs (keep:=[0,1,2]) (live:=[11,4,3,0]) (md:=true) ?_;simp (disch:=first|exact dis|fail)only[go_sem,seval,-rO,-rN,Gz,Y3,kj,Ys]
    |cons a0 ar=>
     have hp1:=ux (a0::ar);simp only[yb]at g4;refine k.z ?_;refine⟨(kk,i+sz,(a0::ar)++[(c,i)]),⟨g1,by simp only;omega,by simp only;omega,by simp;omega⟩,yc _,?_⟩
     refine k.gcs (keep:=[0,1,3]) (live:=[11,4,3,0]) (md:=true) ?_;simp only[zM,Gz,Y3,kj,JM,yA,yb,xz];simp (disch:=first|exact dis|fail)only[go_sem,seval,-rO,-rN,ux]
 ·intro l hl;simp only[GA,hl];cases l with
  |nil=>
   refine k.z ?_;exact fin
  |cons a0 ar=>
   have hp1:=ux (a0::ar);refine k.z ?_;exact fin
def uz(l:List Nat):List AV:=xP (fun n:Nat=>[AV.int .i64 (.ofNat n)]) l
theorem gM(l:List Nat):xY (uz l)=true:=wG (fun p=>by simp only[wp,vb,wA,xA]) l
theorem zvz(l:List Nat):wkL (uz l)=uz l:=vN (fun p=>rfl) l
theorem zvy(l:List Nat)(p:Nat):uz (l++[p])=uz l++[.int .i64 (.ofNat p)]:=by unfold uz;rw[wQ,qM]
theorem WO(p:Nat)(l:List Nat):uz (p::l)=.int .i64 (.ofNat p)::uz l:=rfl
theorem Vr:uz []=[]:=rfl
theorem Lv(i:Nat)(l:List Nat):wH i (uz l)=uz (l.drop i):=by
 have:=uD (f:=fun n:Nat=>[AV.int .i64 (.ofNat n)]) (k:=1) (fun _=>rfl) i l;rw[Nat.mul_one]at this;exact this
theorem Ls(i:Nat)(l:List (Nat×Nat)):wH (i*2) (uk l)=uk (l.drop i):=uD (k:=2) (fun _=>rfl) i l
def Y4(id:Nat)(acc:List Nat):AV:=match acc with
 |[]=>.nils
 |t::r=>.gr id 1 (t::r).length (uz (t::r))
def gI(ty:Nat)(acc:List Nat):List (Option AObj):=match acc with
 |[]=>[]
 |t::r=>[some (.app ty (uz (t::r)))]
def kY(b:List Nat):Option (List Nat):=match U7 b (b.length+1) 0 []with
 |.inl l=>some (l.map (·.1))
 |.inr _=>none
def kZ(b:List Nat):AV:=match kY b with
 |some l=>.tup [.lst l.length false (uz l),.int .i64 (.ofNat 0)]
 |none=>.tup [.lst 0 false [],.int .i64 (.ofNat 4)]
theorem Lx(b:List Nat):wq (kZ b)=true:=by
 unfold kZ;split<;>simp only[uQ,wp,qe,vb,wA,xA]
def pc(s:List Nat):List AV:=[.str s]
theorem Xm:∀x y,pc x=pc y→x=y:=fun x y h=>by
 simp only[pc,List.cons.injEq,AV.str.injEq,and_true]at h;exact h
theorem ZQ(l:List Nat):xY (pc l)=true:=by simp only[pc,wp,lL,wA,xA]
noncomputable def V6:List AV→St→Option (AV×St):=vF pc Qq kZ
theorem Vv{f:Nat}(h:O f=some V6){l:List Nat}(hb:Byt l)(h2:l.length<2000000)(s:St):(evW env O).call f [.str l] s=some (kZ l,s):=by
 rw[wN h,V6,qP Xm s l ⟨hb,h2⟩ rfl]
theorem zsy(B:Bx P w0)(hO:OrcOk P w0 O)(h83:O 137=some znX)(b:List Nat)(hb:Byt b)(hlen:b.length<2000000):
  SC P w0 109 (pc b) (H [] 0 true) (kZ b) (H [] 0 true):=by
 refine Is.sc hO B.mixed B.glob B.env 0 (show env.funs.get 109=some f109 from rfl) (ziw rfl) gB fun C k=>?_;have hall:=fun e s=>ztR h83 hb hlen rfl e s;unfold f109;simp only[Ko,Kn,Kd,Ki];refine qq (k.eval (by simp (disch:=first|exact dis|fail)only[go_sem,seval,-rO,-rN,pc];exact rfl) ?_)
 simp only[wM];cases hA:U7 b (b.length+1) 0 []with
 |inr i=>
  simp only[kZ,kY,hA];simp only[GA,hA]at hall;refine k.eval (by simp (disch:=first|exact dis|fail)only[go_sem,seval,-rO,-rN,hall];exact rfl) ?_
  try simp only[wM,kE,Cut,if_true]
  apply Yx (Or.inr rfl)
  iterate 5 (simp (disch:=first|exact dis|fail)only[go_sem,seval,-rO,-rN]<;>exact rfl)
 | inl l=>
  have hl:=Q3 (by simp) (by simp) hA
  simp only[kZ,kY,hA];simp only[GA,hA]at hall;refine qq (k.eval (by simp (disch:=first|exact dis|fail)only[go_sem,seval,-rO,-rN,hall];exact rfl) ?_)
  simp only[wM];refine qq (k.eval (by simp (disch:=first|exact dis|fail)only[go_sem,seval,-rO,-rN];exact rfl) ?_)
  simp only[wM];refine qq (k.eval (by simp (disch:=first|exact dis|fail)only[go_sem,seval,-rO,-rN];exact rfl) ?_)
  simp only[wM];refine zw9 ⟨tmL [(6,Y4 0 (l.map (·.1)))],[]⟩ (H (gI 3 (l.map (·.1))) 0 true) ?_ ?_
  ·
   refine qq (k.eval (by simp (disch:=first|exact dis|fail)only[go_sem,seval,-rO,-rN];exact rfl) ?_)
   simp only[wM];refine vy (jK (k.gcL [] [22,21,20,6] true (fr1:=⟨tmL [(22,.int .i64 (.ofNat 0)),(21,.int .i64 (.ofNat l.length)),(20,.lst l.length false (uk l)),(6,Y4 0 [])],[]⟩) (s1:=H (gI 3 []) 0 true) (by simp (disch:=first|exact dis|fail)only[go_sem,seval,-rO,-rN,Y4,gI]) ?_))
   refine lT (fun x:Nat×List Nat=>l.length-x.1) (fun x=>⟨tmL [(22,.int .i64 (.ofNat x.1)),(21,.int .i64 (.ofNat l.length)),(20,.lst l.length false (uk l)),(6,Y4 0 x.2)],[]⟩) (fun x=>H (gI 3 x.2) 0 true) (fun x=>x.1≤l.length∧x.2=(l.take x.1).map (·.1)) (fun x hx=>?_) (0,[]) ⟨zQ _,rfl⟩;obtain⟨i,acc⟩:=x;obtain⟨g1,g2⟩:=hx;simp only at g1 g2⊢;rcases wi l i with ⟨hi,hd⟩|⟨⟨c,p⟩,hi,hd⟩
   ·have hlt:¬i<l.length:=oM;rw[zK hi]at g2;rw[←g2];cases acc with
    |nil=>
     refine k.eval (by simp (disch:=first|exact dis|fail)only[go_sem,seval,-rO,-rN,Y4,gI,hlt];exact rfl) ?_
     try simp only[wM,kE,Cut]
     refine k.gcs (keep:=[]) (live:=[6]) (md:=true) ?_;simp (disch:=first|exact dis|fail)only[go_sem,seval,-rO,-rN,Y4,gI]
    |cons a0 ar=>
     have hp1:=gM (a0::ar);refine k.eval (by simp (disch:=first|exact dis|fail)only[go_sem,seval,-rO,-rN,Y4,gI,hlt];exact rfl) ?_
     try simp only[wM,kE,Cut]
     refine k.gcs (keep:=[0]) (live:=[6]) (md:=true) ?_;simp (disch:=first|exact dis|fail)only[go_sem,seval,-rO,-rN,Y4,gI,hp1]
   ·have hdr:wH (i*2) (uk l)=.int .i64 (.ofNat c)::.int .i64 (.ofNat p)::uk (l.drop (i+1)):=by rw[Ls,hd,kj]
    have hnext:acc++[c]=(l.take (i+1)).map (·.1):=by
     rw[List.take_add,hd,g2];simp
    have hacc:acc.length=i:=by rw[g2,List.length_map,List.length_take];omega
    cases acc with
    |nil=>
     refine k.eval (by simp (disch:=first|exact dis|fail)only[go_sem,seval,-rO,-rN,Y4,gI,hi,hdr];exact rfl) ?_
     try simp only[wM]
     refine⟨(i+1,[]++[c]),⟨by simp only;omega,hnext⟩,by simp only;omega,?_⟩
     refine k.gcs (keep:=[1]) (live:=[22,21,20,6]) (md:=true) ?_;simp (disch:=first|exact dis|fail)only[go_sem,seval,-rO,-rN,Y4,gI,WO,Vr]
    |cons a0 ar=>
     have hp1:=gM (a0::ar);simp only[yb]at hacc;refine k.eval (by simp (disch:=first|exact dis|fail)only[go_sem,seval,-rO,-rN,Y4,gI,hi,hdr];exact rfl) ?_
     try simp only[wM]
     refine⟨(i+1,(a0::ar)++[c]),⟨by simp only;omega,hnext⟩,by simp only;omega,?_⟩
     refine k.gcs (keep:=[2]) (live:=[22,21,20,6]) (md:=true) ?_;simp only[zM,Y4,gI,WO,zvy,yA,yb,xz];simp (disch:=first|exact dis|fail)only[go_sem,seval,-rO,-rN,gM]
  ·generalize l.map (·.1)=m;cases m with
   |nil=>
    refine k.eval (by simp (disch:=first|exact dis|fail)only[go_sem,seval,-rO,-rN,Y4,gI];exact rfl) ?_
    try simp only[wM,kE,Cut,if_true]
    apply Yx (Or.inr rfl)
    iterate 5 (simp (disch:=first|exact dis|fail)only[go_sem,seval,-rO,-rN,Vr]<;>exact rfl)
   |cons a0 ar=>
    have hp1:=gM (a0::ar);refine k.eval (by simp (disch:=first|exact dis|fail)only[go_sem,seval,-rO,-rN,Y4,gI];exact rfl) ?_
    try simp only[wM,kE,Cut,if_true]
    apply Yx (Or.inr rfl)
    iterate 5 (simp (disch:=first|exact dis|fail)only[go_sem,seval,-rO,-rN,zvz]<;>exact rfl)
def gR(c:Nat):Bool:=decide (48≤c)&&decide (c≤57)
def Um(s:List Nat):List Nat:=match s with
 |[]=>[]
 |c::r=>if c=45 then r else c::r
def YL(s:List Nat):Bool:=match Um s with
 |[]=>false
 |c::r=>(decide (c≠48)||eqS s [48])&&(c::r).all gR
def ixF:Nat→List Nat→Int
 |_,[]=> -1
 |i,c::r=>if gR c=true then ixF (i+1) r else .ofNat i
theorem Hh:∀(i:Nat) (s:List Nat),(!ltD (ixF i s) (.ofNat 0))= !s.all gR
 |i,[]=>rfl
 | i,c::r=>by
  simp only[ixF,ziB];cases hc:gR c with
  |true=>rw[if_pos rfl,Hh (i+1) r];rfl
  |false=>
   rw[if_neg (by simp)]
   have:ltD (.ofNat i) (.ofNat 0)=false:=by rw[Hj];exact decide_eq_false oM
   rw[this];rfl
theorem zka(a b:Bool):pL .bool false (.bool a) (.bool b)=some (.bool (a==b)):=by cases a<;>cases b<;>rfl
theorem zsL{y:Nat}(hy:128≤y):∀r:List Nat,128≤(uB (y::r)).1
 |[]=>by rw[zyf,if_neg oM];simp
 |[a]=>by
  rw[zyg,if_neg oM];split
  ·rename_i h;exact h.2.2
  ·simp
 | [a,b]=>by
  rw[zyh,if_neg oM];split
  ·rename_i h;exact h.2.2
  ·split
   ·rename_i h;have:=h.2.2.2.1;simp only;omega
   ·simp
 | a::b::c::r=>by
  rw[GO,if_neg oM];split
  ·rename_i h;exact h.2.2
  ·split
   ·rename_i h;have:=h.2.2.2.1;simp only;omega
   ·split
    ·rename_i h;have:=h.2.2.2.2.1;simp only;omega
    ·simp
def LR(s:List Nat):List AV:=[.str s,.fn 135 [] [],.bool true]
theorem zsX:∀x y,LR x=LR y→x=y:=fun x y h=>by
 simp only[LR,List.cons.injEq,AV.str.injEq,and_true]at h;exact h
theorem zv2(l:List Nat):xY (LR l)=true:=by simp only[LR,wp,lL,XK,jv,wA,xA]
noncomputable def gIx:List AV→St→Option (AV×St):=vF LR Qq (fun s=>.int .i64 (ixF 0 s))
theorem zwi(h:O 172=some gIx){l:List Nat}(hb:Byt l)(h2:l.length<2000000)(s:St):(evW env O).call 172 [.str l,.fn 135 [] [],.bool true] s=some (.int .i64 (ixF 0 l),s):=by
 rw[wN h,gIx,qP zsX s l ⟨hb,h2⟩ rfl]
attribute [local go_sem] LR zwr f135 zka in
theorem zjI(B:Bx P w0)(hO:OrcOk P w0 O)(o81:O 135=none)(b:List Nat)(hb:Byt b)(hlen:b.length<2000000):
  SC P w0 172 (LR b) (H [] 0 true) (.int .i64 (ixF 0 b)) (H [] 0 true):=by
 refine Is.sc hO B.mixed B.glob B.env 0 (show env.funs.get 172=some f172 from rfl) (ziw rfl) gB fun C k=>?_;have c81:= @vY env O _ _ o81 (show env.funs.get 135=some f135 from rfl) rfl;unfold f172;simp only[Ko,Ki];refine k.q ?_;refine zzr (p:=ixF 0 b= -1) ⟨tmL [],[]⟩ (H [] 0 true) ?_ ?_
 ·refine k.q ?_;refine vy (jK (k.gcL [0] [10,2,1] true (fr1:=⟨tmL [(10,.ptr 0 0),(2,.bool true),(1,.fn 135 [] [])],[]⟩) (s1:=H [some (.siter b 0)] 0 true) sW ?_));refine lT (fun i:Nat=>b.length-i) (fun i=>⟨tmL [(10,.ptr 0 0),(2,.bool true),(1,.fn 135 [] [])],[]⟩) (fun i=>H [some (.siter b i)] 0 true) (fun i=>i≤b.length∧ixF i (b.drop i)=ixF 0 b) (fun i hi=>?_) 0 ⟨zQ _,rfl⟩;obtain⟨g1,g2⟩:=hi;rcases wi b i with ⟨hi,hd⟩|⟨y,hi,hd⟩
  ·have hns:=fun l n m hg=> @zqJ l n m 0 i true b hg hd;rw[hd]at g2;refine k.z ?_;simp only[zzD];refine⟨g2.symm,?_⟩;exact k.g [] []
  ·have hns:=fun l n m hg=> @zwp l n m 0 i true b y _ hg hd;rw[hd]at g2;simp only[ixF]at g2;by_cases h1:y<128
   ·rw[Vz h1]at hns;simp only at hns;by_cases h2:y<48
    ·rw[if_neg (by simp[gR];omega)]at g2
     rw[←g2];refine k.z ?_;simp only[zzD];exact fin
    ·by_cases h3:57<y
     ·rw[if_neg (by simp[gR];omega)]at g2
      rw[←g2];refine k.z ?_;simp only[zzD];exact fin
     ·rw[if_pos (by simp[gR];omega)]at g2
      refine k.z ?_;refine⟨i+1,⟨oM,g2⟩,oM,?_⟩;refine k.gcs (keep:=[0]) (live:=[10,2,1]) (md:=true) ?_;simp (disch:=first|exact dis|fail)only[go_sem,seval,-rO,-rN]
   ·have hbig:=zsL (y:=y) oM (b.drop (i+1));rw[if_neg (by simp[gR];omega)]at g2
    rw[←g2];revert hns hbig;generalize uB (y::b.drop (i+1))=D;obtain⟨c,sz⟩:=D;intro hns hbig;simp only at hns hbig;have h2:¬c<48:=oM;have h3:57<c:=oM;refine k.z ?_;simp only[zzD];exact fin
 ·intro hp;rw[hp];refine k.q ?_;refine k.z ?_;apply Yx (Or.inr rfl)
  iterate 3 (simp (disch:=first|exact dis|fail)only[go_sem,seval,-rO,-rN];exact rfl)
  ·simp (disch:=first|exact dis|fail)only[go_sem,seval,-rO,-rN];rfl
  ·simp (disch:=first|exact dis|fail)only[go_sem,seval,-rO,-rN]
theorem zzg(c:Nat)(r:List Nat)(k:IntKind):zzA (.str (c::r)) (some (.int k (.ofNat 1))) none=some (.str r):=by
 simp only[zzA,bnd,wV,yb,x9.2 (show 1≤r.length+1 by omega),cond_true,gg,lS,List.drop_succ_cons,List.drop_zero]
 rw[zK (by show r.length≤r.length+1-1;omega)]
theorem zpU(c:Nat)(r:List Nat)(k:IntKind):zzA (.str (c::r)) none (some (.int k (.ofNat 1)))=some (.str [c]):=by
 simp only[zzA,bnd,wV,yb,x9.2 (show 1≤r.length+1 by omega),cond_true,gg,lS,List.drop_zero]
 rfl
theorem zyS(c:Nat)(r:List Nat):zuy (c::r) 0=some c:=rfl
noncomputable def Pk:List AV→St→Option (AV×St):=vF pc Qq (fun s=>.bool (YL s))
theorem zuM{f:Nat}(h:O f=some Pk){l:List Nat}(hb:Byt l)(h2:l.length<2000000)(s:St):(evW env O).call f [.str l] s=some (.bool (YL l),s):=by
 rw[wN h,Pk,qP Xm s l ⟨hb,h2⟩ rfl]
attribute [local go_sem] pc f133 f156 f171 YL Um zzg zpU zyS f134 f157 eqS in
theorem zvP(B:Bx P w0)(hO:OrcOk P w0 O)(o79:O 133=none)(o98:O 156=none)(o115:O 171=none)(o80:O 134=none)(o99:O 157=none)(h116:O 172=some gIx)(s:List Nat)(hb:Byt s)(hlen:s.length<2000000):
  SC P w0 107 (pc s) (H [] 0 true) (.bool (YL s)) (H [] 0 true):=by
 refine Is.sc hO B.mixed B.glob B.env 0 (show env.funs.get 107=some f107 from rfl) (ziw rfl) gB fun C k=>?_;have c79:= @vY env O _ _ o79 (show env.funs.get 133=some f133 from rfl) rfl;have c98:= @vY env O _ _ o98 (show env.funs.get 156=some f156 from rfl) rfl;have c115:= @vY env O _ _ o115 (show env.funs.get 171=some f171 from rfl) rfl;have c80:= @vY env O _ _ o80 (show env.funs.get 134=some f134 from rfl) rfl;have c99:= @vY env O _ _ o99 (show env.funs.get 157=some f157 from rfl) rfl;unfold f107;simp only[Ko,Kg,Ki]
 match s,hb,hlen with
 |[],hb,hlen=>
  refine k.z ?_;exact fin
 | c ::r,hb,hlen=>
  have hlr:r.length<2000000:=by simp only[yb]at hlen;omega
  by_cases h45:c=45
  ·subst h45
   match r,hb,hlen,hlr with
   |[],hb,hlen,hlr=>
    refine k.z ?_;exact fin
   | c2::r2,hb,hlen,hlr=>
    have hb2:Byt (c2::r2):=hb.cons.2;have hc2:c2<256:=hb2 c2 (by simp)
    have hix:=fun s=>zwi h116 hb2 hlr s;have hal:=Hh 0 (c2::r2);have hm:YL (45::c2::r2)=(decide (c2≠48)&&(c2::r2).all gR):=by
     simp only[YL,Um,if_true,eqS];simp
    rw[hm];by_cases h48:c2=48
    ·subst h48;refine k.z ?_;exact fin
    ·rw[decide_eq_true h48,yP];refine k.z ?_;exact fin
  ·have hc:c<256:=hb c (by simp)
   have hix:=fun s=>zwi h116 hb hlen s;have hal:=Hh 0 (c::r);have hm:YL (c::r)=((decide (c≠48)||eqS (c::r) [48])&&(c::r).all gR):=by
    simp only[YL,Um,h45,if_false]
   rw[hm];by_cases h48:c=48
   ·subst h48;cases r with
    |nil=>
     refine k.z ?_;exact fin
    |cons c3 r3=>
     refine k.z ?_;exact fin
   ·rw[decide_eq_true h48,Bool.true_or,yP];refine k.z ?_;exact fin
def okC(t:List Nat):Bool:=(kY t).isSome
def JA(k n:Int)(t:List Nat):Bool:=
 if k=.ofNat 0∨k=.ofNat 8∨k=.ofNat 9∨k=.ofNat 10 then true
 else if k=.ofNat 1 then eqD n (.ofNat 0)||eqD n (.ofNat 1)
 else if k=.ofNat 2 then YL t
 else if k=.ofNat 3 then zuC n
 else if k=.ofNat 4 then okC t
 else if k=.ofNat 5 then okC t&& !decide (t=[])
 else false
def Y6(d:DT):Bool:=JA (Pq d) (zim d) (Gm d)
def Qy:Nat→DT→Bool
 |0,_=>false
 |k+1,d=>match qH d with
  |some p=>Qy k p.1&&Qy k p.2
  |none=>if Pq d=.ofNat 7 then (jP d).all (Qy k)else decide ((jP d).length=0)&&Y6 d
def uu(d:DT):Bool:=Qy (wI d) d
theorem Yo{α:Type}{f g:α→Bool}:∀{l:List α},(∀x∈l,f x=g x)→l.all f=l.all g
 |[],_=>rfl
 |x::r,h=>by simp only[ziB,h x (by simp),Yo (l:=r) fun y hy=>h y (by simp[hy])]
theorem gT:∀{k m:Nat} {d:DT},wI d≤k→wI d≤m→Qy k d=Qy m d
 |0,_,a,h,_=>by have:=vv a;omega
 |_+1,0,a,_,h=>by have:=vv a;omega
 | k+1,m+1,d,h,h'=>by
  have hk:=ku d;have e:(jP d).all (Qy k)=(jP d).all (Qy m):=Yo fun x hx=>by
   have:=jt hx;exact gT oM oM
  simp only[Qy,e];cases hka:qH d with
  |none=>rfl
  |some p=>
   have:=uH (x:=p.1) (y:=p.2) hka;simp only;rw[gT (k:=k) (m:=m) (d:=p.1) oM oM,gT (k:=k) (m:=m) (d:=p.2) oM oM]
theorem Wl{x y:DT}(h:qH d=some (x,y)):uu d=(uu x&&uu y):=by
 have:=uH h;unfold uu;rw[gT (m:=wI d+1) (zu _) oM,Qy,h];simp only;rw[gT (k:=wI d) (m:=wI x) oM (zu _),gT (k:=wI d) (m:=wI y) oM (zu _)]
theorem zuH(h:qH d=none):uu d=if Pq d=.ofNat 7 then (jP d).all uu else decide ((jP d).length=0)&&Y6 d:=by
 have hk:=ku d;have e:(jP d).all (Qy (wI d))=(jP d).all uu:=Yo fun x hx=>by
  have:=jt hx;exact gT oM (zu _)
 unfold uu at e⊢;rw[gT (m:=wI d+1) (zu _) oM,Qy,h,e]
mutual
def TxD:DT→Prop
 |.mk _ _ t ks _=>Byt t∧t.length<2000000∧TxL ks
def TxL:List DT→Prop
 |[]=>True
 |d::r=>TxD d∧TxL r
end
theorem TxL.mem:∀{l:List DT} {d:DT},TxL l→d∈l→TxD d
 |[],_,_,h=>by cases h
 |x::r,d,ht,h=>by
  simp only[TxL]at ht;rcases List.mem_cons.1 h with rfl|h
  ·exact ht.1
  ·exact TxL.mem ht.2 h
theorem TxD.kids{x y:DT}(ht:TxD d)(h:qH d=some (x,y)):TxD x∧TxD y:=by
 obtain⟨kd,n,t,ks,p⟩:=d;obtain⟨rfl,rfl⟩:=vV h;simp only[TxD,TxL]at ht;exact⟨ht.2.2.1,ht.2.2.2.1⟩
noncomputable def zx7:List AV→St→Option (AV×St):=vF vr TxD (fun d=>.bool (Y6 d))
theorem zvj(h:O 84=some zx7)(ht:TxD d)(s:St):(evW env O).call 84 [.agg (w4 d)] s=some (.bool (Y6 d),s):=by
 rw[wN h,zx7,qP l9 s d ht (ZP d)]
attribute [local go_sem] vr Xk wD true_or if_true or_true Option.isSome_none Option.isSome_some in
theorem zoK(B:Bx P w0)(hO:OrcOk P w0 O)(h50:O 107=some Pk)(h51:O 108=some gIs)(h52:O 109=some V6)(d:DT)(ht:TxD d):
  SC P w0 84 (vr d) (H [] 0 true) (.bool (Y6 d)) (H [] 0 true):=by
 refine Is.sc hO B.mixed B.glob B.env 0 (show env.funs.get 84=some f84 from rfl) (ziw rfl) gB fun C k=>?_;obtain⟨kd,n,t,ks,p⟩:=d;simp only[TxD]at ht;have hnum:=zuM (f:=107) h50 ht.1 oM;have his:=zn7 h51 n;have hco:=Vv (f:=109) h52 ht.1 oM;unfold f84;rw[show Y6 (.mk kd n t ks p)=JA kd n t from rfl];unfold JA;simp only;by_cases k0:kd=.ofNat 0
 ·subst k0;refine k.z ?_;exact fin
 by_cases k8:kd=.ofNat 8
 ·subst k8;refine k.z ?_;exact fin
 by_cases k9:kd=.ofNat 9
 ·subst k9;refine k.z ?_;exact fin
 by_cases k10:kd=.ofNat 10
 ·subst k10;refine k.z ?_;exact fin
 rw[if_neg (by simp only[k0,k8,k9,k10,or_self,not_false_eq_true])]
 have e0:=qx k0;have e8:=qx k8;have e9:=qx k9;have e10:=qx k10;by_cases k1:kd=.ofNat 1
 ·subst k1;rw[if_pos rfl];cases h0:eqD n (.ofNat 0)with
  |true=>
   refine k.z ?_;exact fin
  |false=>
   refine k.z ?_;exact fin
 rw[if_neg k1];have e1:=qx k1;by_cases k2:kd=.ofNat 2
 ·subst k2;rw[if_pos rfl];refine k.z ?_;exact fin
 rw[if_neg k2];have e2:=qx k2;by_cases k3:kd=.ofNat 3
 ·subst k3;rw[if_pos rfl];refine k.z ?_;exact fin
 rw[if_neg k3];have e3:=qx k3;by_cases k4:kd=.ofNat 4
 ·subst k4;rw[if_pos rfl];simp only[kZ]at hco;simp only[okC];cases hc:kY t with
  |none=>
   rw[hc]at hco;refine k.z ?_;exact fin
  |some l=>
   rw[hc]at hco;refine k.z ?_;exact fin
 rw[if_neg k4];have e4:=qx k4;by_cases k5:kd=.ofNat 5
 ·subst k5;rw[if_pos rfl];simp only[kZ]at hco;simp only[okC];cases hc:kY t with
  |none=>
   rw[hc]at hco;refine k.z ?_;exact fin
  |some l=>
   rw[hc]at hco;refine k.z ?_;exact fin
 rw[if_neg k5];have e5:=qx k5;refine k.z ?_;exact fin
noncomputable def Pj(N:Nat):List AV→St→Option (AV×St):=vF vr (fun d=>TxD d∧wI d<N) (fun d=>.bool (uu d))
theorem Uj{f N:Nat}(h:O f=some (Pj N))(ht:TxD d)(hn:wI d<N)(s:St):(evW env O).call f [.agg (w4 d)] s=some (.bool (uu d),s):=by
 rw[wN h,Pj,qP l9 s d ⟨ht,hn⟩ (ZP d)]
def ixM:Nat→List DT→Int
 |_,[]=> -1
 |i,d::r=>if uu d=true then ixM (i+1) r else .ofNat i
theorem ZZ{kd n:Int}{t:List Nat}{ks:List DT}{p:Int}(h:qH (.mk kd n t ks p)=none):uu (.mk kd n t ks p)=if kd=.ofNat 7 then ks.all uu else decide (ks.length=0)&&Y6 (.mk kd n t ks p):=zuH h
theorem zwh:∀(i:Nat) (s:List DT),(!ltD (ixM i s) (.ofNat 0))= !s.all uu
 |i,[]=>rfl
 | i,c::r=>by
  simp only[ixM,ziB];cases hc:uu c with
  |true=>rw[if_pos rfl,zwh (i+1) r];rfl
  |false=>
   rw[if_neg (by simp)]
   have:ltD (.ofNat i) (.ofNat 0)=false:=by rw[Hj];exact decide_eq_false oM
   rw[this];rfl
def Xl(x:List DT):List AV:=[.lst x.length false (wa x),.fn 83 [] []]
theorem zvX:∀x y,Xl x=Xl y→x=y:=fun a b h=>by
 simp only[Xl,List.cons.injEq,AV.lst.injEq,true_and,and_true]at h;exact kX h.2
theorem zyx(x:List DT):xY (Xl x)=true:=by simp only[Xl,wp,qe,XK,wA,xA]
noncomputable def znY(N:Nat):List AV→St→Option (AV×St):=vF Xl (fun l=>TxL l∧w9 l<N) (fun l=>.int .i64 (ixM 0 l))
theorem zqi{N:Nat}(h:O 106=some (znY N)){l:List DT}(ht:TxL l)(hn:w9 l<N)(s:St):(evW env O).call 106 [.lst l.length false (wa l),.fn 83 [] []] s=some (.int .i64 (ixM 0 l),s):=by
 rw[wN h,znY,qP zvX s l ⟨ht,hn⟩ (by simp only[Xl,wkL,wkV,jA])]
attribute [local go_sem] Xl kw wD f83 in
theorem zkE(B:Bx P w0)(hO:OrcOk P w0 O)(o25:O 83=none){N:Nat}(h11:O 63=some (Pj N))(hN:N≤100000)(l:List DT)(ht:TxL l)(hn:w9 l<N):
  SC P w0 106 (Xl l) (H [] 0 true) (.int .i64 (ixM 0 l)) (H [] 0 true):=by
 refine Is.sc hO B.mixed B.glob B.env 0 (show env.funs.get 106=some f106 from rfl) (ziw rfl) gB fun C k=>?_;have c25:= @vY env O _ _ o25 (show env.funs.get 83=some f83 from rfl) rfl;have hll:=j3 l;unfold f106;simp only[Ko,Ki];refine k.q ?_;refine zzr (p:=ixM 0 l= -1) ⟨tmL [],[]⟩ (H [] 0 true) ?_ ?_
 ·refine k.q ?_;refine vy (jK (k.gcL [] [8,7,1,0] true (fr1:=⟨tmL [(8,.int .i64 (.ofNat 0)),(7,.int .i64 (.ofNat l.length)),(1,.fn 83 [] []),(0,.lst l.length false (wa l))],[]⟩) (s1:=H [] 0 true) sW ?_));refine lT (fun i:Nat=>l.length-i) (fun i=>⟨tmL [(8,.int .i64 (.ofNat i)),(7,.int .i64 (.ofNat l.length)),(1,.fn 83 [] []),(0,.lst l.length false (wa l))],[]⟩) (fun _=>H [] 0 true) (fun i=>i≤l.length∧ixM i (l.drop i)=ixM 0 l) (fun i hi=>?_) 0 ⟨zQ _,rfl⟩;obtain⟨g1,g2⟩:=hi;rcases wi l i with ⟨hi,hd⟩|⟨x,hi,hd⟩
  ·have hlt:¬i<l.length:=oM;rw[hd]at g2;refine k.z ?_;simp only[zzD];refine⟨g2.symm,?_⟩;exact k.g [] []
  ·have hmem:x∈l:=List.mem_of_mem_drop (by rw[hd];exact List.mem_cons_self)
   have hnx:wI x<N:=by have:=jt hmem;omega
   have hc:=Uj (f:=63) h11 (ht.mem hmem) hnx;have hdr:wH (i*5) (wa l)=w4 x++wa (l.drop (i+1)):=by rw[Lt,hd,gL]
   rw[hd]at g2;simp only[ixM]at g2;obtain⟨xk,xn,xt,xks,xp⟩:=x;simp only[wD]at hc;cases hsm:uu (.mk xk xn xt xks xp)with
   |true=>
    rw[hsm]at hc g2;rw[if_pos rfl]at g2;refine k.z ?_;refine⟨i+1,⟨oM,g2⟩,oM,?_⟩;refine k.gcs (keep:=[]) (live:=[8,7,1,0]) (md:=true) ?_;simp (disch:=first|exact dis|fail)only[go_sem,seval,-rO,-rN]
   |false=>
    rw[hsm]at hc g2;rw[if_neg (by simp)]at g2
    rw[←g2];refine k.eval (by simp (disch:=first|exact dis|fail)only[go_sem,seval,-rO,-rN,hi,hdr,wD,c25,f83,hc];exact rfl) ?_
    try simp only[wM,kE]
    simp only[zzD];exact fin
 ·intro hp;rw[hp];refine k.q ?_;refine k.z ?_;apply Yx (Or.inr rfl)
  iterate 3 (simp (disch:=first|exact dis|fail)only[go_sem,seval,-rO,-rN];exact rfl)
  ·simp (disch:=first|exact dis|fail)only[go_sem,seval,-rO,-rN];rfl
  ·simp (disch:=first|exact dis|fail)only[go_sem,seval,-rO,-rN]
attribute [local go_sem] vr Xk Ya wD f81 l6 kw kP f82 in
theorem zkI(B:Bx P w0)(hO:OrcOk P w0 O)(o23:O 81=none)(o24:O 82=none)(h26:O 84=some zx7){N:Nat}(h49:O 106=some (znY N))(h11:O 63=some (Pj N))(d0:DT)(ht:TxD d0)(hN:wI d0<N+1):
  SC P w0 63 (vr d0) (H [] 0 true) (.bool (uu d0)) (H [] 0 true):=by
 refine Is.sc hO B.mixed B.glob B.env 0 (show env.funs.get 63=some f63 from rfl) (ziw rfl) gB fun C k=>?_;have cpair:= @vY env O _ _ o23 (show env.funs.get 81=some f81 from rfl) rfl;have c24:= @vY env O _ _ o24 (show env.funs.get 82=some f82 from rfl) rfl;generalize hres:uu d0=res;unfold f63;simp only[Ko,Kg,Kn,Ki];refine k.q ?_;refine zzs (fun d:DT=>uu d=res∧qH d=none∧TxD d∧wI d<N+1) (fun _=>⟨tmL [(1,.ptr 0 0)],[]⟩) (fun d=>H [some (Ya d)] 0 true) (vy (jK (k.gcL [0] [1] true (fr1:=⟨tmL [(1,.ptr 0 0)],[]⟩) (s1:=H [some (Ya d0)] 0 true) (by simp (disch:=first|exact dis|fail)only[go_sem,seval,-rO,-rN,Ya,uy]) ?_))) ?_
 ·refine lT (fun d:DT=>wI d) (fun _=>⟨tmL [(1,.ptr 0 0)],[]⟩) (fun d=>H [some (Ya d)] 0 true) (fun d=>uu d=res∧TxD d∧wI d<N+1) (fun d hx=>?_) d0 ⟨hres,ht,hN⟩;obtain⟨kd,n,t,ks,p⟩:=d;obtain⟨g1,g2,g3⟩:=hx;cases hka:qH (.mk kd n t ks p)with
  |none=>
   rcases zmk hka with he|⟨rfl,hl⟩
   ·refine k.z ?_;simp only[Gcx];refine⟨.mk kd n t ks p,⟨g1,hka,g2,g3⟩,?_⟩;exact k.g [0] [1]
   ·refine k.z ?_;simp only[Gcx];refine⟨.mk (.ofNat 6) n t ks p,⟨g1,hka,g2,g3⟩,?_⟩;exact k.g [0] [1]
  | some xy=>
   obtain⟨⟨xk,xn,xt,xks,xp⟩,⟨yk,yn,yt,yks,yp⟩⟩:=xy;have hna:=uH hka;have hpt:=g2.kids hka;rw[Wl hka]at g1;obtain⟨rfl,rfl⟩:=vV hka;have hc:=Uj (f:=63) h11 hpt.1 (by have:=vv (.mk yk yn yt yks yp);omega)
   simp only[wD]at hc;cases hsm:uu (.mk xk xn xt xks xp)with
   |true=>
    rw[hsm]at hc g1;refine k.z ?_;refine⟨.mk yk yn yt yks yp,⟨by rw[←g1,yP],hpt.2,oM⟩,oM,?_⟩
    exact k.g [0] [1]
   |false=>
    rw[hsm]at hc g1;refine k.z ?_;simp only[Gcx];rw[←g1];apply Yx (Or.inr rfl)
    iterate 5 (simp (disch:=first|exact dis|fail)only[go_sem,seval,-rO,-rN]<;>exact rfl)
 ·rintro⟨kd,n,t,ks,p⟩ ⟨g1,g2,g3,g4⟩
  rw[ZZ g2]at g1;have hb:=zvj h26 g3;simp only[wD]at hb;simp only[TxD]at g3;have hn:=ku (.mk kd n t ks p);simp only[jP]at hn;by_cases k7:kd=.ofNat 7
  ·subst k7;rw[if_pos rfl]at g1;have hix:=zqi h49 g3.2.2 oM;have hal:=zwh 0 ks;refine k.z ?_;exact fin
  ·rw[if_neg k7]at g1;have e7:=qx k7;by_cases hl:ks.length=0
   ·rw[decide_eq_true hl,yP]at g1;rw[g1]at hb;rw[hl]at hb;refine k.z ?_;exact fin
   ·rw[decide_eq_false hl,Bool.false_and]at g1;subst g1;refine k.z ?_;exact fin
end Go.Proofs.YtbddpjboppmnfaaGreatDoor.Ev

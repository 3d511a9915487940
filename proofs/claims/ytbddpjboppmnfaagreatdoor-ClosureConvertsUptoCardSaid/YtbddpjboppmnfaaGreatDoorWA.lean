/- Contracts of functions that ClosureConverts calls: what a call answers. No conditions. -/
import Derived.Test.YtbddpjboppmnfaaGreatDoorEvG
import Derived.Test.YtbddpjboppmnfaaGreatDoorIrClosureConverts
set_option linter.unusedSimpArgs false
set_option linter.unusedVariables false
set_option linter.defProp false
set_option maxHeartbeats 4000000
set_option linter.unusedSectionVars false
noncomputable section
open List renaming length → zR, length_cons → yJ, length_append → y8, drop_succ_cons → wc, cons_append → yu, length_drop → zvU, length_nil → xY, take_of_length_le → yq, drop_zero → yR, append_nil → zvV, mem_of_mem_drop → zvY, mem_cons_self → zvZ, nil_append → zv1, all_cons → zv2, length_take → zv3
open Nat renaming le_of_ble_eq_true → zvT, le_refl → zX, lt_succ_self → yK, zero_le → yz, two_pow_add_eq_or_of_lt → zvX, mul_comm → yY
open Bool renaming and_self → xZ, true_and → xC, false_and → zvW, cond_decide → zv0
open Int renaming ofNat → yi
open Option renaming isSome_none → zv4, isSome_some → zv5
namespace Go.Proofs.YtbddpjboppmnfaaGreatDoor.Ev
variable {O:Orc}{P:Program}{X:World}{a b n c f N i:Nat}{d x y:DT}{l r t:zy}{kd p:Int}
noncomputable abbrev cl(O:Orc)(f:Nat)(a:zA)(s:U):zc:=(evW T.env O).call f a s
open T
set_option maxRecDepth 100000
structure Bx(P:Program)(X:World):Prop where
 mixed:P.follows .mixedOrders=true
 glob:qm env.globs X
 env:pf P env
def bs(B:Bx P X)(hO:OrcOk P X O){f:Nat}(F:IFunc){args:zA}{os:zl}{b:Bool}{v:Z}{c':U}(h:∀C:Cx,Is C env O (H os 0 b) 0->Tri C F.body {A:=qG (tmL []) 0 args,df:=[]} (H os 0 b) (Fin env (H os 0 b) 0 F.res v c'))(hF:env.funs.get f=some F:=by exact rfl)(hle:List.length args<=F.ntmps:=by exact Nat.le_of_ble_eq_true rfl):SC P X f args (H os 0 b) v c':=
 Is.sc hO B.mixed B.glob B.env 0 hF hle kA h
def bm(B:Bx P X)(hO:OrcOk P X O){f:Nat}(F:IFunc){args:zA}{os:zl}{o:AObj}{b:Bool}{v:Z}{c':U}(h:∀C:Cx,Is C env O (H (some o::os) 0 b) 1->Tri C F.body {A:=qG (tmL []) 0 args,df:=[]} (H (some o::os) 0 b) (Fin env (H (some o::os) 0 b) 1 F.res v c'))(hF:env.funs.get f=some F:=by exact rfl)(hg:uE o=false:=by exact rfl)(hle:List.length args<=F.ntmps:=by exact Nat.le_of_ble_eq_true rfl):SC P X f args (H (some o::os) 0 b) v c':=
 Is.sc hO B.mixed B.glob B.env 1 hF hle (zwN hg) h
def ci{f:Nat}(F:IFunc)(h:O f=none)(hF:env.funs.get f=some F:=by exact rfl)(hp:env.pure f=true:=by exact rfl)(a:zA)(l:zb)(n m:Nat)(b:Bool)(hd:zi)(on:zg)(ha:List.length a<=F.ntmps):
  cl O f a (KL l n m b hd on)=Yu (KL l n m b hd on) (qJ env.globs F.res (evC env (evW env O) none F.body ⟨qG (tmL []) 0 a,[]⟩ (KL l n 0 true hd on))):=j1 h hF hp a l n m b hd on ha
def ciw{f:Nat}(F:IFunc)(h:O f=none)(hF:env.funs.get f=some F:=by exact rfl)(hp:env.pure f=false:=by exact rfl)(a:zA)(l:zb)(n m:Nat)(b:Bool)(hd:zi)(on:zg)(ha:List.length a<=F.ntmps):
  cl O f a (KL l n m b hd on)=mdR b (qJ env.globs F.res (evC env (evW env O) none F.body ⟨qG (tmL []) 0 a,[]⟩ (KL l n m false hd on))):=dQ h hF hp a l n m b hd on ha
def kC(d:DT):AObj:=.row 36 (qK d)
def ZH:AObj:=.row 36 [.int .i64 (.ofNat 0),.int .i64 (.ofNat 0),.str [],.nils,.int .i64 (.ofNat 0)]
def kO(d:DT)(r:zA):qf 5 (qK d++r)=some (qK d):=uT (vD d)
def lF(d:DT):qf 5 (qK d)=some (qK d):=qz (vD d)
def qw{a b:Int}(h:a≠b):eqD a b=false:=by simp[eqD,h]
def Zd(x y:DT):wQ [x,y]=qK x++qK y:=by simp only[jW,kI,zvV]
def VI(acc:List DT):Z:=match acc with
 |[]=>.nils
 |t::r=>.gr 2 5 (t::r).length (wQ (t::r))
def ZB(acc:List DT):zl:=match acc with
 |[]=>[]
 |t::r=>[some (.app 36 (wQ (t::r)))]
def Pb(d:DT):qg (Z3 d)=true:=by simp only[Z3,uF,jq]
def wJ{α:Type}(l:List α)(i:Nat):(zR l<=i/\l.drop i=[])\/∃x,i<zR l/\l.drop i=x::l.drop (i+1):=by
 by_cases h:i<zR l
 .exact .inr ⟨l[i],h,List.drop_eq_getElem_cons h⟩
 .exact .inl ⟨J,List.drop_eq_nil_of_le J⟩
def Xz(p:Prop)(C:Cx)(fr1:Fr)(s1:U)(Q:Res->Fr->U->Prop):Res->Fr->U->Prop
 |.norm,f,t=>p/\Gc C f t fr1 s1
 |r,f,t=>Q r f t
def YF{C:Cx}{ia ib:ICode}{fr:Fr}{s:U}{Q:Res->Fr->U->Prop}(p:Prop)(fr1:Fr)(s1:U)(h1:Tri C ia fr s (Xz p C fr1 s1 Q))(h2:p->Tri C ib fr1 s1 Q):Tri C (.seq ia ib) fr s Q:=
 qN (h1.mono λr f t=>by
  cases r with
  |norm=>exact λh=>cY h.2 (h2 h.1)
  |exit i=>exact λh=>h
  |ret=>exact λh=>h)
open Nat (reduceEqDiff reduceLeDiff reduceLT reduceAdd reduceMul reduceSub reduceMod reducePow reduceDiv reduceOr reduceShiftLeft reduceGT reduceSucc)
open List (length_cons length_nil length_take length_drop)
open Int renaming reduceOfNat → rO, reduceNegSucc → rN
def vq:DT->Option (DT×DT)
 |.mk kd _ _ ks _=>match ks with
  |[x,y]=>if kd=.ofNat 6 then some (x,y)else none
  |_=>none
def uN{n:Int}{ks:List DT}(h:vq (.mk kd n t ks p)=some (x,y)):kd=.ofNat 6/\ks=[x,y]:=by
 simp only[vq]at h;split at h
 .split at h
  .cases h;exact⟨by assumption,rfl⟩
  .cases h
 .cases h
def Wm{n:Int}{ks:List DT}(h:vq (.mk kd n t ks p)=none)(hk:kd=.ofNat 6):¬List.length ks=2:=by
 subst hk;intro hl
 match ks,hl with
 |[x,y],_=>simp[vq]at h
def pX(h:vq d=some (x,y)):SizeOf.sizeOf x<SizeOf.sizeOf d/\SizeOf.sizeOf y<SizeOf.sizeOf d:=by
 obtain⟨kd,n,t,ks,p⟩:=d;obtain⟨rfl,rfl⟩:=uN h;simp only[DT.mk.sizeOf_spec,List.cons.sizeOf_spec,List.nil.sizeOf_spec];omega
def Wl:Nat->DT->List DT×DT
 |0,d=>([],d)
 |k+1,d=>match vq d with
  |some (x,y)=>(x::(Wl k y).1,(Wl k y).2)
  |none=>([],d)
def qn(d:DT):List DT×DT:=Wl (SizeOf.sizeOf d) d
def Qg:∀{k m:Nat} {d:DT},SizeOf.sizeOf d<=k->SizeOf.sizeOf d<=m->Wl k d=Wl m d
 |0,_,d,h,_=>by cases d;simp only[DT.mk.sizeOf_spec]at h;omega
 |_+1,0,d,_,h=>by cases d;simp only[DT.mk.sizeOf_spec]at h;omega
 | k+1,m+1,d,h,h'=>by
  simp only[Wl];cases hk:vq d with
  |none=>rfl
  |some xy=>
   obtain⟨x,y⟩:=xy;have:=(pX hk).2;simp only;rw[Qg (k:=k) (m:=m) J J]
def uL(h:vq d=some (x,y)):qn d=(x::(qn y).1,(qn y).2):=by
 have:=pX h;unfold qn;rw[Qg (d:=d) (m:=SizeOf.sizeOf d+1) (zX _) J,Wl,h];simp only;rw[Qg (d:=y) (m:=SizeOf.sizeOf y) J (zX _)]
def jY(h:vq d=none):qn d=([],d):=by
 unfold qn;rw[Qg (d:=d) (m:=SizeOf.sizeOf d+1) (zX _) J,Wl,h]
def oW(d:DT):vq (qn d).2=none:=by
 have key:∀(k:Nat) (d:DT),SizeOf.sizeOf d<k->vq (qn d).2=none:=by
  intro k
  induction k with
  |zero=>intro d h;omega
  | succ k ih=>
   intro d h;cases hk:vq d with
   |none=>rw[jY hk];exact hk
   |some xy=>
    obtain⟨x,y⟩:=xy;rw[uL hk];exact ih y (by have:=(pX hk).2;omega)
 exact key _ d (yK _)
attribute [local go_sem] Z3 VI ZB kC ZH wT Zd f81 kO lF kI kp in
def fI(B:Bx P X)(hO:OrcOk P X O)(o23:O 81=none)(d0:DT)(hlen:(qn d0).1.length<2000000):
  SC P X 115 [Z3 d0] (H [] 0 true) (.tup [.lst (qn d0).1.length false (wQ (qn d0).1),Z3 (qn d0).2]) (H [] 0 true):=by
 refine Is.sc hO B.mixed B.glob B.env 0 (show env.funs.get 115=some f115 from rfl) (zvT rfl) kA λC k=>?_;have cpair:= @j1 env O _ _ o23 (show env.funs.get 81=some f81 from rfl) rfl;generalize hl:(qn d0).1=l at hlen|-;generalize he:(qn d0).2=e;unfold f115 cF;simp only;apply k.q;refine Qs ⟨tmL [(3,.ptr 1 0),(2,VI l),(1,.ptr 0 0)],[]⟩ (H ([some (kC e),some ZH]++ZB l) 0 true) (qV (vR (k.gcL [0,1] [3,2,1] true (fr1:=⟨tmL [(3,.ptr 1 0),(2,VI []),(1,.ptr 0 0)],[]⟩) (s1:=H ([some (kC d0),some ZH]++ZB []) 0 true) (by simp (disch:=first|exact dis|fail)only[go_sem,seval,-rO,-rN,kC,ZH,VI,ZB,jq]) ?_))) ?_
 .refine jQ (λx:List DT×DT=>SizeOf.sizeOf x.2) (λx=>⟨tmL [(3,.ptr 1 0),(2,VI x.1),(1,.ptr 0 0)],[]⟩) (λx=>H ([some (kC x.2),some ZH]++ZB x.1) 0 true) (λx=>x.1++(qn x.2).1=l/\(qn x.2).2=e) (λx hx=>?_) ([],d0) ⟨hl,he⟩;obtain⟨acc,cur⟩:=x;simp only at hx|-;obtain⟨hx1,hx2⟩:=hx;have hc2:zR acc<2000000:=by rw[<-hx1,y8]at hlen;omega
  cases hkd:vq cur with
  | some xy=>
   obtain⟨x,y⟩:=xy;have hm:=pX hkd;rw[uL hkd]at hx1 hx2;obtain⟨kd,n,t,ks,p⟩:=cur;obtain⟨rfl,rfl⟩:=uN hkd;obtain⟨xk,xn,xt,xks,xp⟩:=x;obtain⟨yk,yn,yt,yks,yp⟩:=y;cases acc with
   |nil=>
    apply k.z;refine⟨([]++[⟨xk,xn,xt,xks,xp⟩],⟨yk,yn,yt,yks,yp⟩),⟨by rw[<-hx1];simp,hx2⟩,hm.2,?_⟩
    refine k.gcs (keep:=[0,1,2]) (live:=[3,2,1]) (md:=true) ?_;simp only[yu,zv1,VI,ZB,jW,kI,wT,zvV,yJ,xY];simp (disch:=first|exact dis|fail)only[go_sem,seval,-rO,-rN,kC,ZH,wT]
   |cons a0 ar=>
    have hp1:=vl (a0::ar);simp only[yJ]at hc2;apply k.z;refine⟨((a0::ar)++[⟨xk,xn,xt,xks,xp⟩],⟨yk,yn,yt,yks,yp⟩),⟨by rw[<-hx1];simp,hx2⟩,hm.2,?_⟩
    refine k.gcs (keep:=[0,1,3]) (live:=[3,2,1]) (md:=true) ?_;simp only[yu,zv1,VI,ZB,jW,QH,kI,wT,zvV,List.append_assoc,y8,yJ,xY];simp (disch:=first|exact dis|fail)only[go_sem,seval,-rO,-rN,kC,ZH,wT,vl,jq]
  | none=>
   rw[jY hkd]at hx1 hx2;simp only[zvV]at hx1 hx2;subst hx1;subst hx2;obtain⟨kd,n,t,ks,p⟩:=cur;by_cases hk:kd=.ofNat 6
   .have hl:=Wm hkd hk;subst hk;cases acc with
    |nil=>
     apply k.z;exact k.g [0,1] [3,2,1]
    |cons a0 ar=>
     have hp1:=vl (a0::ar);apply k.z;exact k.g [0,1,2] [3,2,1]
   .have hke:eqD kd (.ofNat 6)=false:=qw hk;cases acc with
    |nil=>
     apply k.z;exact k.g [0,1] [3,2,1]
    |cons a0 ar=>
     have hp1:=vl (a0::ar);apply k.z;exact k.g [0,1,2] [3,2,1]
 .obtain⟨ek,en,et,eks,ep⟩:=e;cases l with
  |nil=>
   apply k.q;apply k.z;exact fin
  |cons a0 ar=>
   have hp1:=vl (a0::ar);apply k.q;apply k.z;exact fin
attribute [local go_sem] Z3 VI ZB kC ZH wT Zd kO lF kI kp in
def De(B:Bx P X)(hO:OrcOk P X O)(d0:DT)(hlen:(qn d0).1.length<2000000):
  SC P X 29 [Z3 d0] (H [] 0 true) (.tup [.lst (qn d0).1.length false (wQ (qn d0).1),Z3 (qn d0).2]) (H [] 0 true):=by
 refine Is.sc hO B.mixed B.glob B.env 0 (show env.funs.get 29=some f29 from rfl) (zvT rfl) kA λC k=>?_;generalize hl:(qn d0).1=l at hlen|-;generalize he:(qn d0).2=e;unfold f29 cF;simp only;apply k.q;apply k.q;refine Qs ⟨tmL [(4,VI l),(3,.ptr 1 0),(1,.ptr 0 0)],[]⟩ (H ([some (kC e),some ZH]++ZB l) 0 true) (qV (vR (k.gcL [0,1] [4,3,1] true (fr1:=⟨tmL [(4,VI []),(3,.ptr 1 0),(1,.ptr 0 0)],[]⟩) (s1:=H ([some (kC d0),some ZH]++ZB []) 0 true) (by simp (disch:=first|exact dis|fail)only[go_sem,seval,-rO,-rN,kC,ZH,VI,ZB,jq]) ?_))) ?_
 .refine jQ (λx:List DT×DT=>SizeOf.sizeOf x.2) (λx=>⟨tmL [(4,VI x.1),(3,.ptr 1 0),(1,.ptr 0 0)],[]⟩) (λx=>H ([some (kC x.2),some ZH]++ZB x.1) 0 true) (λx=>x.1++(qn x.2).1=l/\(qn x.2).2=e) (λx hx=>?_) ([],d0) ⟨hl,he⟩;obtain⟨acc,cur⟩:=x;simp only at hx|-;obtain⟨hx1,hx2⟩:=hx;have hc2:zR acc<2000000:=by rw[<-hx1,y8]at hlen;omega
  cases hkd:vq cur with
  | some xy=>
   obtain⟨x,y⟩:=xy;have hm:=pX hkd;rw[uL hkd]at hx1 hx2;obtain⟨kd,n,t,ks,p⟩:=cur;obtain⟨rfl,rfl⟩:=uN hkd;obtain⟨xk,xn,xt,xks,xp⟩:=x;obtain⟨yk,yn,yt,yks,yp⟩:=y;cases acc with
   |nil=>
    apply k.z;refine⟨([]++[⟨xk,xn,xt,xks,xp⟩],⟨yk,yn,yt,yks,yp⟩),⟨by rw[<-hx1];simp,hx2⟩,hm.2,?_⟩
    refine k.gcs (keep:=[0,1,2]) (live:=[4,3,1]) (md:=true) ?_;simp only[yu,zv1,VI,ZB,jW,kI,wT,zvV,yJ,xY];simp (disch:=first|exact dis|fail)only[go_sem,seval,-rO,-rN,kC,ZH,wT]
   |cons a0 ar=>
    have hp1:=vl (a0::ar);simp only[yJ]at hc2;apply k.z;refine⟨((a0::ar)++[⟨xk,xn,xt,xks,xp⟩],⟨yk,yn,yt,yks,yp⟩),⟨by rw[<-hx1];simp,hx2⟩,hm.2,?_⟩
    refine k.gcs (keep:=[0,1,3]) (live:=[4,3,1]) (md:=true) ?_;simp only[yu,zv1,VI,ZB,jW,QH,kI,wT,zvV,List.append_assoc,y8,yJ,xY];simp (disch:=first|exact dis|fail)only[go_sem,seval,-rO,-rN,kC,ZH,wT,vl,jq]
  | none=>
   rw[jY hkd]at hx1 hx2;simp only[zvV]at hx1 hx2;subst hx1;subst hx2;obtain⟨kd,n,t,ks,p⟩:=cur;by_cases hk:kd=.ofNat 6
   .have hl:=Wm hkd hk;subst hk;cases acc with
    |nil=>
     apply k.z;exact k.g [0,1] [4,3,1]
    |cons a0 ar=>
     have hp1:=vl (a0::ar);apply k.z;exact k.g [0,1,2] [4,3,1]
   .have hke:eqD kd (.ofNat 6)=false:=qw hk;cases acc with
    |nil=>
     apply k.z;exact k.g [0,1] [4,3,1]
    |cons a0 ar=>
     have hp1:=vl (a0::ar);apply k.z;exact k.g [0,1,2] [4,3,1]
 .obtain⟨ek,en,et,eks,ep⟩:=e;cases l with
  |nil=>
   apply k.q;apply k.z;exact fin
  |cons a0 ar=>
   have hp1:=vl (a0::ar);apply k.q;apply k.z;exact fin
def u0(d:DT):zA:=[Z3 d]
def YU:∀x y,u0 x=u0 y->x=y:=λd e h=>by
 simp only[u0,vc,and_true]at h;exact F0 h
def WW(d:DT):wkL [Z.agg (qK d)]=u0 d:=by simp only[u0,Z3,wkL,wkV,LT]
def js(d:DT):wL (u0 d)=true:=by simp only[u0,wR,Pb,wU,xZ]
def itR(d:DT):Z:=.tup [.lst (qn d).1.length false (wQ (qn d).1),Z3 (qn d).2]
def Vd:zA->U->zc:=v7 u0 (λd=>(qn d).1.length<2000000) itR
def Uh(h:O f=some Vd)(hi:(qn d).1.length<2000000)(s:U):(evW env O).call f [.agg (qK d)] s=some (itR d,s):=by
 rw[qx h,Vd,vY YU s d hi (WW d)]
def G6(d:DT):qg (itR d)=true:=by simp only[itR,uQ,wR,qE,Pb,wU,xZ]
def PC(B:Bx P X)(hO:OrcOk P X O):OrcOk P X (withG 115 Vd (withG 29 Vd O)):=
 (hO.withG pn (Wn true js G6 λd hd=>⟨_,De B (jO P X) d hd⟩)).withG pn (Wn true js G6 λd hd=>⟨_,fI B (jO P X) rfl d hd⟩)
mutual
def qe:DT->Nat
 |.mk _ _ _ ks _=>1+qC ks
def qC:List DT->Nat
 |[]=>0
 |d::r=>qe d+qC r
end
def vu:∀d,0<qe d
 |.mk _ _ _ ks _=>by simp only[qe];omega
def uf:∀l,zR l<=qC l
 |[]=>zX _
 |d::r=>by simp only[qC,yJ];have:=uf r;have:=vu d;omega
def vV:∀{l:List DT} {d:DT},d∈l->qe d<=qC l
 |[],d,h=>by cases h
 |x::r,d,h=>by
  simp only[qC];rcases List.mem_cons.1 h with rfl|h
  .omega
  .have:=vV h;omega
def jd(h:vq d=some (x,y)):qe d=1+qe x+qe y:=by
 obtain⟨kd,n,t,ks,p⟩:=d;obtain⟨rfl,rfl⟩:=uN h;simp only[qe,qC];omega
def gZ(d:DT):qC (qn d).1+qe (qn d).2<=qe d:=by
 have key:∀(k:Nat) (d:DT),SizeOf.sizeOf d<k->qC (qn d).1+qe (qn d).2<=qe d:=by
  intro k
  induction k with
  |zero=>intro d h;omega
  | succ k ih=>
   intro d h;cases hk:vq d with
   |none=>rw[jY hk];simp only[qC];omega
   |some xy=>
    obtain⟨x,y⟩:=xy;have:=ih y (by have:=(pX hk).2;omega)
    have h2:=jd hk;rw[uL hk];simp only[qC];omega
 exact key _ d (yK _)
def G9:DT->Int|.mk k _ _ _ _=>k
def zvG:DT->Int|.mk _ n _ _ _=>n
def aE:DT->zy|.mk _ _ t _ _=>t
def jZ:DT->List DT|.mk _ _ _ ks _=>ks
def jx(d:DT):qe d=1+qC (jZ d):=by cases d;simp only[qe,jZ]
def Gcx{α:Type}(p:α->Prop)(C:Cx)(fr1:α->Fr)(s1:α->U)(Q:Res->Fr->U->Prop):Res->Fr->U->Prop
 |.norm,f,t=>∃x,p x/\Gc C f t (fr1 x) (s1 x)
 |r,f,t=>Q r f t
def HV{α:Type}{C:Cx}{ia ib:ICode}{fr:Fr}{s:U}{Q:Res->Fr->U->Prop}(p:α->Prop)(fr1:α->Fr)(s1:α->U)(h1:Tri C ia fr s (Gcx p C fr1 s1 Q))(h2:∀x,p x->Tri C ib (fr1 x) (s1 x) Q):Tri C (.seq ia ib) fr s Q:=
 qN (h1.mono λr f t=>by
  cases r with
  |norm=>exact λ⟨x,hp,hg⟩=>cY hg (h2 x hp)
  |exit i=>exact λh=>h
  |ret=>exact λh=>h)
def s8:∀{a b:zy},eqS a b=true->a=b
 |[],[],_=>rfl
 |[],_::_,h=>by cases h
 |_::_,[],h=>by cases h
 |x::r,y::s,h=>by
  simp only[eqS]at h;cases hb:Nat.beq x y with
  |false=>rw[hb]at h;cases h
  |true=>rw[hb]at h;rw[ql.1 hb,s8 h]
def eS:∀a:zy,eqS a a=true
 |[]=>rfl
 |x::r=>by simp only[eqS,ql.2 (rfl:x=x),wy];exact eS r
def TI{n:Int}{ks:List DT}(h:vq (.mk kd n t ks p)=none):(eqD kd (.ofNat 6)=false)\/(kd=.ofNat 6/\¬List.length ks=2):=by
 by_cases hk:kd=.ofNat 6
 .exact .inr ⟨hk,Wm h hk⟩
 .exact .inl (qw hk)
def Lm(c:Int):Bool:=match c with
 |.ofNat n=>vz n
 |.negSucc _=>false
def vw:vz n=true↔n<=1114111/\(n<55296\/57343<n):=by
 unfold vz;rw[WR];by_cases h:n<55296
 .rw[wH h];simp;omega
 .rw[wx h,Bool.and_eq_true,qd,qd];omega
def tV:Lm (.ofNat n)=decide (n<=1114111/\(n<55296\/57343<n)):=by
 show vz n=_;by_cases h:n<=1114111/\(n<55296\/57343<n)
 .rw[vw.2 h];exact(qL h).symm
 .rw[qy h];cases hv:vz n with
  |false=>rfl
  |true=>exact absurd (vw.1 hv) h
def bA(c:Int):zA:=[.int .i64 c]
def F2:∀x y,bA x=bA y->x=y:=λx y h=>by
 simp only[bA,vc,Z.int.injEq,true_and,and_true]at h;exact h
def gIs:zA->U->zc:=v7 bA (λ_=>True) (λc=>.bool (Lm c))
def bW(h:O f=some gIs)(c:Int)(s:U):(evW env O).call f [.int .i64 c] s=some (.bool (Lm c),s):=by
 rw[qx h,gIs,vY F2 s c trivial rfl]
attribute [local go_sem] bA Lm f136 in
def zwJ(B:Bx P X)(hO:OrcOk P X O)(o82:O 136=none)(c:Int):
  SC P X 108 (bA c) (H [] 0 true) (.bool (Lm c)) (H [] 0 true):=by
 refine Is.sc hO B.mixed B.glob B.env 0 (show env.funs.get 108=some f108 from rfl) (zvT rfl) kA λC k=>?_;have cv:= @j1 env O _ _ o82 (show env.funs.get 136=some f136 from rfl) rfl;unfold f108 cF;simp only;cases c with
 |negSucc m=>
  apply k.z;exact fin
 | ofNat n=>
  rw[tV];by_cases h1:n<=1114111
  .by_cases h2:n<55296
   .rw[qL ⟨h1,.inl h2⟩];apply k.z;exact fin
   .by_cases h3:57343<n
    .rw[qL ⟨h1,.inr h3⟩];apply k.z;exact fin
    .rw[qy J];apply k.z;exact fin
  .rw[qy J];apply k.z;exact fin
attribute [local go_sem] bA Lm in
def NU(B:Bx P X)(hO:OrcOk P X O)(c:Int):
  SC P X 103 (bA c) (H [] 0 true) (.bool (Lm c)) (H [] 0 true):=by
 refine Is.sc hO B.mixed B.glob B.env 0 (show env.funs.get 103=some f103 from rfl) (zvT rfl) kA λC k=>?_;unfold f103 cF;simp only;cases c with
 |negSucc m=>
  apply k.z;exact fin
 | ofNat n=>
  rw[tV];by_cases h1:n<=1114111
  .by_cases h2:n<55296
   .rw[qL ⟨h1,.inl h2⟩];apply k.z;exact fin
   .by_cases h3:57343<n
    .rw[qL ⟨h1,.inr h3⟩];apply k.z;exact fin
    .rw[qy J];apply k.z;exact fin
  .rw[qy J];apply k.z;exact fin
theorem zys(a:Nat):jl .quo .i64 (.ofNat a) .i64 (.ofNat 64)=some (.int .i64 (ji .i64 (.ofNat (a/64)))):=rfl
theorem T5(a:Nat):jl .quo .i64 (.ofNat a) .i64 (.ofNat 4096)=some (.int .i64 (ji .i64 (.ofNat (a/4096)))):=rfl
theorem DF(a:Nat):jl .quo .i64 (.ofNat a) .i64 (.ofNat 262144)=some (.int .i64 (ji .i64 (.ofNat (a/262144)))):=rfl
theorem JZ(a:Nat):jl .rem .i64 (.ofNat a) .i64 (.ofNat 64)=some (.int .i64 (.ofNat (a%64))):=rfl
theorem zvh(a:Nat):jl .rem .i64 (.ofNat a) .i64 (.ofNat 32)=some (.int .i64 (.ofNat (a%32))):=rfl
theorem zvg(a:Nat):jl .rem .i64 (.ofNat a) .i64 (.ofNat 16)=some (.int .i64 (.ofNat (a%16))):=rfl
theorem zvL(a:Nat):jl .rem .i64 (.ofNat a) .i64 (.ofNat 8)=some (.int .i64 (.ofNat (a%8))):=rfl
def lR(l:zy):Nat:=match l with
 |[]=>0
 |[b]=>b
 |[b,_]=>b%32
 |[b,_,_]=>b%16
 |b::_=>b%8
def ZL:zy->Nat->Nat
 |[],n=>n
 |b::r,n=>ZL r (64*n+b%64)
def kc(l:zy):Nat:=ZL (l.drop 1) (lR l)
def lq(l:zy):zA:=[.lst (zR l) false (qo l)]
def X3:∀x y,lq x=lq y->x=y:=λx y h=>by
 simp only[lq,vc,Z.lst.injEq,true_and,and_true]at h;exact QY h.2
def Yk(l:zy):wL (lq l)=true:=by simp only[lq,wR,qE,wU,xZ]
def VX(l:zy)(e:Bool):wkL [Z.lst (zR l) e (qo l)]=lq l:=by simp only[lq,wkL,wkV,Qu]
def fB:zA->U->zc:=v7 lq (λl=>1<=zR l/\zR l<=4/\Byt l) (λl=>.int .i64 (.ofNat (kc l)))
def Em(h:O 167=some fB)(h1:1<=List.length l)(h2:List.length l<=4)(h3:Byt l)(hn:n=List.length l)(e:Bool)(s:U):(evW env O).call 167 [.lst n e (qo l)] s=some (.int .i64 (.ofNat (kc l)),s):=by
 subst hn;rw[qx h,fB,vY X3 s l ⟨h1,h2,h3⟩ (VX l e)]
attribute [local go_sem] lq zys JZ zvh zvg zvL kc lR ZL wc yR yY in
def zzJ(B:Bx P X)(hO:OrcOk P X O)(l:zy)(h1:1<=zR l)(h2:zR l<=4)(hb:Byt l):
  SC P X 167 (lq l) (H [] 0 true) (.int .i64 (.ofNat (kc l))) (H [] 0 true):=by
 refine Is.sc hO B.mixed B.glob B.env 0 (show env.funs.get 167=some f167 from rfl) (zvT rfl) kA λC k=>?_;unfold f167 cF;simp only
 match l,h1,h2,hb with
 |[b0],_,_,hb=>
  have h0:b0<256:=hb b0 (by simp)
  apply k.q;apply k.q;apply k.q;apply k.q;apply k.q;apply k.q;apply qN;apply k.q;refine qV (vR ?_);refine uu (k.ev ?_);simp (disch:=first|exact dis|fail)only[go_sem,seval,-rO,-rN]
  refine⟨_,rfl,?_⟩;simp only[qa,uU];apply k.z;exact fin
 |[b0,b1],_,_,hb=>
  have h0:b0<256:=hb b0 (by simp)
  have h1:b1<256:=hb b1 (by simp)
  apply k.q;apply k.q;apply k.q;apply k.q;apply k.q;apply k.q;apply qN;apply k.q;refine qV (vR ?_);refine uu (k.ev ?_);simp (disch:=first|exact dis|fail)only[go_sem,seval,-rO,-rN,JZ,o7]
  refine⟨_,rfl,?_⟩;simp only[qa];refine uu (k.ev ?_);simp (disch:=first|exact dis|fail)only[go_sem,seval,-rO,-rN]
  refine⟨_,rfl,?_⟩;simp only[qa,uU];apply k.z;exact fin
 |[b0,b1,b2],_,_,hb=>
  have h0:b0<256:=hb b0 (by simp)
  have h1:b1<256:=hb b1 (by simp)
  have h2:b2<256:=hb b2 (by simp)
  apply k.q;apply k.q;apply k.q;apply k.q;apply k.q;apply k.q;apply qN;apply k.q;refine qV (vR ?_);refine uu (k.ev ?_);simp (disch:=first|exact dis|fail)only[go_sem,seval,-rO,-rN,JZ,o7]
  refine⟨_,rfl,?_⟩;simp only[qa];refine uu (k.ev ?_);simp (disch:=first|exact dis|fail)only[go_sem,seval,-rO,-rN,JZ,o7]
  refine⟨_,rfl,?_⟩;simp only[qa];refine uu (k.ev ?_);simp (disch:=first|exact dis|fail)only[go_sem,seval,-rO,-rN]
  refine⟨_,rfl,?_⟩;simp only[qa,uU];apply k.z;exact fin
 |[b0,b1,b2,b3],_,_,hb=>
  have h0:b0<256:=hb b0 (by simp)
  have h1:b1<256:=hb b1 (by simp)
  have h2:b2<256:=hb b2 (by simp)
  have h3:b3<256:=hb b3 (by simp)
  apply k.q;apply k.q;apply k.q;apply k.q;apply k.q;apply k.q;apply qN;apply k.q;refine qV (vR ?_);refine uu (k.ev ?_);simp (disch:=first|exact dis|fail)only[go_sem,seval,-rO,-rN,JZ,o7]
  refine⟨_,rfl,?_⟩;simp only[qa];refine uu (k.ev ?_);simp (disch:=first|exact dis|fail)only[go_sem,seval,-rO,-rN,JZ,o7]
  refine⟨_,rfl,?_⟩;simp only[qa];refine uu (k.ev ?_);simp (disch:=first|exact dis|fail)only[go_sem,seval,-rO,-rN,JZ,o7]
  refine⟨_,rfl,?_⟩;simp only[qa];refine uu (k.ev ?_);simp (disch:=first|exact dis|fail)only[go_sem,seval,-rO,-rN]
  refine⟨_,rfl,?_⟩;simp only[qa,uU];apply k.z;exact fin
 |b0::b1::b2::b3::b4::r,_,h2,_=>simp only[yJ]at h2;omega
theorem WV(c:Nat):J8 c=if c<128 then [c]else if c<2048 then [192+c/64,128+c%64]else if c<65536 then [224+c/4096,128+c/64%64,128+c%64]else [240+c/262144,128+c/4096%64,128+c/64%64,128+c%64]:=by
 unfold J8;rw[WR,WR,WR];rfl
def FZ(h:c<=1114111):Byt (J8 c):=by
 rw[WV];intro x hx;split at hx
 .simp at hx;omega
 .split at hx
  .simp at hx;omega
  .split at hx
   .simp at hx;omega
   .simp at hx;omega
def Ca(c:Nat):zA:=[.int .i64 (.ofNat c)]
theorem F3:∀x y,Ca x=Ca y->x=y:=λx y h=>by
 simp only[Ca,vc,Z.int.injEq,true_and,and_true]at h;cases h;rfl
def oZ(l:zy):Z:=.lst (zR l) false (qo l)
def Di(l:zy):qg (oZ l)=true:=by simp only[oZ,qE]
def I4:zA->U->zc:=v7 Ca (λc=>c<=1114111) (λc=>oZ (J8 c))
def Fl(h:O 168=some I4)(hc:c<=1114111)(s:U):(evW env O).call 168 [.int .i64 (.ofNat c)] s=some (oZ (J8 c),s):=by
 rw[qx h,I4,vY F3 s c hc rfl]
attribute [local go_sem] Ca oZ zys JZ T5 DF in
def zyL(B:Bx P X)(hO:OrcOk P X O)(c:Nat)(hc:c<=1114111):
  SC P X 168 (Ca c) (H [] 0 true) (oZ (J8 c)) (H [] 0 true):=by
 refine Is.sc hO B.mixed B.glob B.env 0 (show env.funs.get 168=some f168 from rfl) (zvT rfl) kA λC k=>?_;unfold f168 cF;simp only;rw[WV];by_cases h1:c<128
 .rw[wH h1];apply k.z;exact fin
 rw[wx h1];by_cases h2:c<2048
 .rw[wH h2];apply k.z;exact fin
 rw[wx h2];by_cases h3:c<65536
 .rw[wH h3];apply k.z;exact fin
 rw[wx h3];apply k.z;exact fin
def Z6(l:zy):Nat->Nat->Option (Nat×Nat)
 |0,_=>none
 |k+1,n=>if n<=4/\n<=(zR l)then (if vz (kc (l.take n))=true/\J8 (kc (l.take n))=l.take n then some (kc (l.take n),n)else Z6 l k (n+1))else none
def fE(l:zy):Z:=match Z6 l 5 1 with
 |some p=>.tup [.int .i64 (.ofNat p.1),.int .i64 (.ofNat p.2),.int .i64 (.ofNat 0)]
 |none=>.tup [.int .i64 (.ofNat 0),.int .i64 (.ofNat 0),.int .i64 (.ofNat 4)]
def Da(l:zy):qg (fE l)=true:=by
 unfold fE;cases Z6 l 5 1<;>simp only[uQ,wR,vh,wU,xZ]
def VW(x:zy×Nat):zA:=[.lst (zR x.1) false (qo x.1),.int .i64 (.ofNat x.2)]
theorem B5:∀x y,VW x=VW y->x=y:=λ⟨a,b⟩ ⟨c,d⟩ h=>by
 simp only[VW,vc,Z.lst.injEq,Z.int.injEq,true_and,and_true]at h;rw[QY h.1.2];cases h.2;rfl
def nM(x:zy×Nat):wL (VW x)=true:=by simp only[VW,wR,qE,vh,wU,xZ]
def zyB(x:zy×Nat):Prop:=Byt x.1/\x.2<zR x.1/\zR x.1<2000000
def I6:zA->U->zc:=v7 VW zyB (λx=>fE (x.1.drop x.2))
def Mj(h:O 149=some I6){b:zy}(h1:Byt b)(h2:i<List.length b)(h3:List.length b<2000000)(e:Bool)(s:U):(evW env O).call 149 [.lst (List.length b) e (qo b),.int .i64 (.ofNat i)] s=some (fE (b.drop i),s):=by
 rw[qx h,I6,vY B5 s (b,i) ⟨h1,h2,h3⟩ (by simp only[VW,wkL,wkV,Qu])]
def zzI(h1:List.length l<=4)(hb:Byt l):kc l<4294967296:=by
 match l,h1,hb with
 |[],_,_=>simp[kc,ZL,lR]
 |[a],_,hb=>have:=hb a (by simp);simp[kc,ZL,lR];omega
 |[a,b],_,hb=>simp[kc,ZL,lR];omega
 |[a,b,c],_,hb=>simp[kc,ZL,lR];omega
 |[a,b,c,d],_,hb=>simp[kc,ZL,lR];omega
 |a::b::c::d::e::r,h,_=>simp only[yJ]at h;omega
attribute [local go_sem] VW oZ in
def zxq(B:Bx P X)(hO:OrcOk P X O)(h30:O 103=some gIs)(h77:O 168=some I4)(h102:O 167=some fB)(b:zy)(i:Nat)(hb:Byt b)(hi:i<zR b)(hlb:zR b<2000000):
  SC P X 149 (VW (b,i)) (H [] 0 true) (fE (b.drop i)) (H [] 0 true):=by
 refine Is.sc hO B.mixed B.glob B.env 0 (show env.funs.get 149=some f149 from rfl) (zvT rfl) kA λC k=>?_;have hge:¬zR b<=i:=J;unfold f149 cF;simp only;apply k.q;apply k.q;refine YF (p:=Z6 (b.drop i) 5 1=none) ⟨tmL [],[]⟩ (H [] 0 true) ?_ ?_
 .apply k.q;refine qV (vR (k.gcL [] [7,1,0] true (fr1:=⟨tmL [(7,.int .i64 (.ofNat 1)),(1,.int .i64 (.ofNat i)),(0,.lst (zR b) false (qo b))],[]⟩) (s1:=H [] 0 true) sW ?_));refine jQ (λx:Nat×Nat=>x.1) (λx=>⟨tmL [(7,.int .i64 (.ofNat x.2)),(1,.int .i64 (.ofNat i)),(0,.lst (zR b) false (qo b))],[]⟩) (λ_=>H [] 0 true) (λx=>1<=x.2/\x.2+x.1=6/\Z6 (b.drop i) x.1 x.2=Z6 (b.drop i) 5 1) (λx hx=>?_) (5,1) ⟨by simp,rfl,rfl⟩
  obtain⟨kk,n⟩:=x;obtain⟨g0,g1,g2⟩:=hx;simp only at g0 g1 g2|-;cases kk with
  |zero=>
   have h4:¬n<=4:=J;simp only[Z6]at g2;apply k.z;simp only[Xz];refine⟨g2.symm,?_⟩;exact k.g [] []
  | succ kk=>
   have h4:n<=5:=J;rw[Z6,zvU]at g2;by_cases h5:n<=4
   case neg=>
    rw[wx J]at g2;apply k.z;simp only[Xz];refine⟨g2.symm,?_⟩;exact k.g [] []
   by_cases h6:i+n<=zR b
   case neg=>
    rw[wx J]at g2;apply k.z;simp only[Xz];refine⟨g2.symm,?_⟩;exact k.g [] []
   rw[wH ⟨h5,J⟩]at g2;have hsub:i+n-i=n:=J;have hl:((b.drop i).take n).length=n:=by rw[zv3,zvU];omega
   have hby:Byt ((b.drop i).take n):=(hb.drop i).take n;have htl:=zzI (l:=(b.drop i).take n) J hby;have ht:=λe s=>Em h102 (l:=(b.drop i).take n) J J hby (n:=n) hl.symm e s;have his:=bW h30 (.ofNat (kc ((b.drop i).take n)));revert g2 hl hby htl ht his;generalize htk:(b.drop i).take n=tk;intro g2 hl hby htl ht his;cases hv:vz (kc tk)with
   |false=>
    rw[wx (by rw[hv];simp)]at g2
    rw[show Lm (.ofNat (kc tk))=false from hv]at his;apply k.z;refine⟨(kk,n+1),⟨J,J,g2⟩,yK _,?_⟩;refine k.gcs (keep:=[]) (live:=[7,1,0]) (md:=true) ?_;simp (disch:=first|exact dis|fail)only[go_sem,seval,-rO,-rN]
   |true=>
    rw[show Lm (.ofNat (kc tk))=true from hv]at his;have hcc:=(vw.1 hv).1;have hbc:=Fl h77 hcc;have hbb:=FZ hcc;by_cases he:J8 (kc tk)=tk
    .rw[wH ⟨hv,he⟩]at g2;apply k.z;simp only[Xz,fE];rw[<-g2];exact fin
    .rw[wx (λh=>he h.2)]at g2;apply k.z;refine⟨(kk,n+1),⟨J,J,g2⟩,yK _,?_⟩;refine k.gcs (keep:=[]) (live:=[7,1,0]) (md:=true) ?_;simp (disch:=first|exact dis|fail)only[go_sem,seval,-rO,-rN]
 .intro hp;simp only[fE,hp];apply k.q;apply k.z;exact fin
def Q4(l:zy):Option (Nat×Nat):=if (kg l).1=65533/\(kg l).2<=1 then none else some (kg l)
theorem zxz(a b:Nat):Nat.div a b=a/b:=rfl
def bb(a b:Nat):Nat.beq a b=decide (a=b):=by
 cases h:Nat.beq a b with
 |true=>exact(qL (ql.1 h)).symm
 |false=>exact(qy (λh'=>by rw[ql.2 h']at h;cases h)).symm
theorem lh(a b:Nat):Zz a b=a%32*64+b%64:=rfl
theorem lm(a b c:Nat):ph a b c=a%16*4096+b%64*64+c%64:=rfl
theorem lp(a b c d:Nat):XG a b c d=a%8*262144+b%64*4096+c%64*64+d%64:=rfl
def Gp(a:Nat):kg [a]=if a<128 then (a,1)else (65533,1):=by
 simp only[kg,VU,zv0]
def UT(a b:Nat):kg [a,b]=if a<128 then (a,1)else if a/32=6/\b/64=2/\128<=Zz a b then (Zz a b,2)else (65533,1):=by
 simp only[kg,VU,zv0,La,bb,VT,zxz];by_cases h0:a<128
 .rw[wH h0,wH h0]
 rw[wx h0,wx h0];by_cases h1:a/32=6<;>by_cases h2:b/64=2<;>by_cases h3:128<=Zz a b<;>simp[h1,h2,h3]
def Q3(a b c:Nat):kg [a,b,c]=if a<128 then (a,1)else if a/32=6/\b/64=2/\128<=Zz a b then (Zz a b,2)else if a/16=14/\b/64=2/\c/64=2/\2048<=ph a b c/\vz (ph a b c)=true then (ph a b c,3)else (65533,1):=by
 simp only[kg,VU,zv0,La,bb,VT,zxz];by_cases h0:a<128
 .rw[wH h0,wH h0]
 rw[wx h0,wx h0];by_cases h1:a/32=6
 .have h4:¬a/16=14:=J;by_cases h2:b/64=2<;>by_cases h3:128<=Zz a b<;>simp[h1,h2,h3,h4]
 .by_cases h4:a/16=14<;>by_cases h2:b/64=2<;>by_cases h5:c/64=2<;>by_cases h6:2048<=ph a b c<;>cases h7:vz (ph a b c)<;>simp[h1,h2,h4,h5,h6]
def YS(a b c d:Nat)(r:zy):kg (a::b::c::d::r)=if a<128 then (a,1)else if a/32=6/\b/64=2/\128<=Zz a b then (Zz a b,2)else if a/16=14/\b/64=2/\c/64=2/\2048<=ph a b c/\vz (ph a b c)=true then (ph a b c,3)
  else if a/8=30/\b/64=2/\c/64=2/\d/64=2/\65536<=XG a b c d/\vz (XG a b c d)=true then (XG a b c d,4)else (65533,1):=by
 simp only[kg,VU,zv0,La,bb,VT,zxz];by_cases h0:a<128
 .rw[wH h0,wH h0]
 rw[wx h0,wx h0];by_cases h1:a/32=6
 .have h4:¬a/16=14:=J;have h8:¬a/8=30:=J;by_cases h2:b/64=2<;>by_cases h3:128<=Zz a b<;>simp[h1,h2,h3,h4,h8]
 .by_cases h4:a/16=14
  .have h8:¬a/8=30:=J;by_cases h2:b/64=2<;>by_cases h5:c/64=2<;>by_cases h6:2048<=ph a b c<;>cases h7:vz (ph a b c)<;>simp[h1,h2,h4,h5,h6,h8]
  .by_cases h8:a/8=30<;>by_cases h2:b/64=2<;>by_cases h5:c/64=2<;>by_cases h9:d/64=2<;>by_cases h6:65536<=XG a b c d<;>cases h7:vz (XG a b c d)<;>simp[h1,h2,h4,h5,h6,h8,h9]
def JM(ha:a<256):(vz (kc [a])=true/\J8 (kc [a])=[a])↔a<128:=by
 have e:kc [a]=a:=rfl;rw[e,vw,WV];constructor
 .rintro⟨_,h⟩
  by_cases h1:a<128
  .exact h1
  .rw[wx h1,wH J]at h;simp at h
 .intro h;rw[wH h];exact⟨J,rfl⟩
def OY(a b:Nat):kc [a,b]=Zz a b:=by rw[lh];simp only[kc,lR,ZL,wc,yR];omega
def zyz(a b c:Nat):kc [a,b,c]=ph a b c:=by rw[lm];simp only[kc,lR,ZL,wc,yR];omega
def zvs(a b c d:Nat):kc [a,b,c,d]=XG a b c d:=by rw[lp];simp only[kc,lR,ZL,wc,yR];omega
def LX(ha:a<256)(hb:b<256):(vz (kc [a,b])=true/\J8 (kc [a,b])=[a,b])↔a/32=6/\b/64=2/\128<=Zz a b:=by
 have e:kc [a,b]=a%32*64+b%64:=by simp only[kc,lR,ZL,wc,yR];omega
 rw[e,vw,WV,lh];constructor
 .rintro⟨_,h⟩
  split at h
  .simp at h
  .rw[wH J]at h;simp only[vc,and_true]at h;omega
 .rintro⟨h1,h2,h3⟩
  rw[wx J,wH J];simp only[vc,and_true];omega
def sO(ha:a<256)(hb:b<256)(hc:c<256):(vz (kc [a,b,c])=true/\J8 (kc [a,b,c])=[a,b,c])↔a/16=14/\b/64=2/\c/64=2/\2048<=ph a b c/\vz (ph a b c)=true:=by
 have e:kc [a,b,c]=ph a b c:=by rw[lm];simp only[kc,lR,ZL,wc,yR];omega
 rw[e,WV];constructor
 .rintro⟨hv,h⟩
  rw[lm]at h|-;split at h
  .simp at h
  .split at h
   .simp at h
   .rw[wH J]at h;simp only[vc,and_true]at h;rw[lm]at hv;exact⟨J,J,J,J,hv⟩
 .rintro⟨h1,h2,h3,h4,hv⟩
  refine⟨hv,?_⟩;rw[lm]at h4|-;rw[wx J,wx J,wH J];simp only[vc,and_true];omega
def zyb{d:Nat}(ha:a<256)(hb:b<256)(hc:c<256)(hd:d<256):(vz (kc [a,b,c,d])=true/\J8 (kc [a,b,c,d])=[a,b,c,d])↔a/8=30/\b/64=2/\c/64=2/\d/64=2/\65536<=XG a b c d/\vz (XG a b c d)=true:=by
 have e:kc [a,b,c,d]=XG a b c d:=by rw[lp];simp only[kc,lR,ZL,wc,yR];omega
 rw[e,WV];constructor
 .rintro⟨hv,h⟩
  rw[lp]at h|-;split at h
  .simp at h
  .split at h
   .simp at h
   .split at h
    .simp at h
    .simp only[vc,and_true]at h;rw[lp]at hv;exact⟨J,J,J,J,J,hv⟩
 .rintro⟨h1,h2,h3,h5,h4,hv⟩
  refine⟨hv,?_⟩;rw[lp]at h4|-;rw[wx J,wx J,wx J];simp only[vc,and_true];omega
def kq(h:kg l=(c,n))(h':¬(c=65533/\n<=1)):Q4 l=some (c,n):=by
 unfold Q4;rw[h,wx h']
def WU(h:kg l=(65533,1)):Q4 l=none:=by
 unfold Q4;rw[h,wH ⟨rfl,zX _⟩]
def bS(k n:Nat)(h:¬(n<=4/\n<=List.length l)):Z6 l k n=none:=by
 cases k with
 |zero=>rfl
 |succ k=>rw[Z6,wx h]
def Mh(hb:Byt l)(hl:l≠[]):Z6 l 5 1=Q4 l:=by
 match l,hb,hl with
 |[a],hb,_=>
  have ha:=hb a (by simp)
  rw[Z6,wH (by simp),yq (by simp)]
  by_cases h:a<128
  .rw[wH ((JM ha).2 h),kq (by rw[Gp,wH h]) J];rfl
  .rw[wx (λh'=>h ((JM ha).1 h')),WU (by rw[Gp,wx h]),bS _ _ (by simp)]
 | [a,b],hb,_=>
  have ha:=hb a (by simp)
  have hb':=hb b (by simp)
  have t1:[a,b].take 1=[a]:=rfl;rw[Z6,wH (by simp),t1]
  by_cases h:a<128
  .rw[wH ((JM ha).2 h),kq (by rw[UT,wH h]) J];rfl
  rw[wx (λh'=>h ((JM ha).1 h')),Z6,wH (by simp),yq (by simp)]
  by_cases h2:a/32=6/\b/64=2/\128<=Zz a b
  .rw[wH ((LX ha hb').2 h2),kq (c:=Zz a b) (n:=2) (by rw[UT,wx h,wH h2]) J]
   rw[OY]
  .rw[wx (λh'=>h2 ((LX ha hb').1 h')),WU (by rw[UT,wx h,wx h2]),bS _ _ (by simp)]
 | [a,b,c],hb,_=>
  have ha:=hb a (by simp)
  have hb':=hb b (by simp)
  have hc:=hb c (by simp)
  have t1:[a,b,c].take 1=[a]:=rfl;have t2:[a,b,c].take (1+1)=[a,b]:=rfl;rw[Z6,wH (by simp),t1]
  by_cases h:a<128
  .rw[wH ((JM ha).2 h),kq (by rw[Q3,wH h]) J];rfl
  rw[wx (λh'=>h ((JM ha).1 h')),Z6,wH (by simp),t2]
  by_cases h2:a/32=6/\b/64=2/\128<=Zz a b
  .rw[wH ((LX ha hb').2 h2),kq (c:=Zz a b) (n:=2) (by rw[Q3,wx h,wH h2]) J]
   rw[OY]
  rw[wx (λh'=>h2 ((LX ha hb').1 h')),Z6,wH (by simp),yq (by simp)]
  by_cases h3:a/16=14/\b/64=2/\c/64=2/\2048<=ph a b c/\vz (ph a b c)=true
  .rw[wH ((sO ha hb' hc).2 h3),kq (c:=ph a b c) (n:=3) (by rw[Q3,wx h,wx h2,wH h3]) J]
   rw[zyz]
  .rw[wx (λh'=>h3 ((sO ha hb' hc).1 h')),WU (by rw[Q3,wx h,wx h2,wx h3]),bS _ _ (by simp)]
 | a::b::c::d::r,hb,_=>
  have ha:=hb a (by simp)
  have hb':=hb b (by simp)
  have hc:=hb c (by simp)
  have hd:=hb d (by simp)
  have t1:(a::b::c::d::r).take 1=[a]:=rfl;have t2:(a::b::c::d::r).take (1+1)=[a,b]:=rfl;have t3:(a::b::c::d::r).take (1+1+1)=[a,b,c]:=rfl;have t4:(a::b::c::d::r).take (1+1+1+1)=[a,b,c,d]:=rfl;rw[Z6,wH (by simp),t1]
  by_cases h:a<128
  .rw[wH ((JM ha).2 h),kq (by rw[YS,wH h]) J];rfl
  rw[wx (λh'=>h ((JM ha).1 h')),Z6,wH (by simp),t2]
  by_cases h2:a/32=6/\b/64=2/\128<=Zz a b
  .rw[wH ((LX ha hb').2 h2),kq (c:=Zz a b) (n:=2) (by rw[YS,wx h,wH h2]) J]
   rw[OY]
  rw[wx (λh'=>h2 ((LX ha hb').1 h')),Z6,wH (by simp),t3]
  by_cases h3:a/16=14/\b/64=2/\c/64=2/\2048<=ph a b c/\vz (ph a b c)=true
  .rw[wH ((sO ha hb' hc).2 h3),kq (c:=ph a b c) (n:=3) (by rw[YS,wx h,wx h2,wH h3]) J]
   rw[zyz]
  rw[wx (λh'=>h3 ((sO ha hb' hc).1 h')),Z6,wH (by simp),t4]
  by_cases h4:a/8=30/\b/64=2/\c/64=2/\d/64=2/\65536<=XG a b c d/\vz (XG a b c d)=true
  .rw[wH ((zyb ha hb' hc hd).2 h4),kq (c:=XG a b c d) (n:=4) (by rw[YS,wx h,wx h2,wx h3,wH h4]) J]
   rw[zvs]
  .rw[wx (λh'=>h4 ((zyb ha hb' hc hd).1 h')),WU (by rw[YS,wx h,wx h2,wx h3,wx h4]),bS _ _ (by simp)]
def zwv(h:a<256):jl .and .u8 (.ofNat a) .u8 (.ofNat 31)=some (.int .u8 (.ofNat (a%32))):=by
 have:∀a,a<256->bits .and .u8 (.ofNat a) (.ofNat 31)=some (.ofNat (a%32)):=by decide+kernel
 show (match bits .and .u8 (.ofNat a) (.ofNat 31)with|some n=>some (Z.int .u8 n)|none=>none)=_
 rw[this a h]
def zwu(h:a<256):jl .and .u8 (.ofNat a) .u8 (.ofNat 15)=some (.int .u8 (.ofNat (a%16))):=by
 have:∀a,a<256->bits .and .u8 (.ofNat a) (.ofNat 15)=some (.ofNat (a%16)):=by decide+kernel
 show (match bits .and .u8 (.ofNat a) (.ofNat 15)with|some n=>some (Z.int .u8 n)|none=>none)=_
 rw[this a h]
def Ry(h:a<256):jl .and .u8 (.ofNat a) .u8 (.ofNat 7)=some (.int .u8 (.ofNat (a%8))):=by
 have:∀a,a<256->bits .and .u8 (.ofNat a) (.ofNat 7)=some (.ofNat (a%8)):=by decide+kernel
 show (match bits .and .u8 (.ofNat a) (.ofNat 7)with|some n=>some (Z.int .u8 n)|none=>none)=_
 rw[this a h]
def ET(h:a<256):jl .and .u8 (.ofNat a) .u8 (.ofNat 63)=some (.int .u8 (.ofNat (a%64))):=by
 have:∀a,a<256->bits .and .u8 (.ofNat a) (.ofNat 63)=some (.ofNat (a%64)):=by decide+kernel
 show (match bits .and .u8 (.ofNat a) (.ofNat 63)with|some n=>some (Z.int .u8 n)|none=>none)=_
 rw[this a h]
def Rz(h:a<256):jl .andNot .i32 (.ofNat a) .i32 (.negSucc 0)=some (.int .i32 (.ofNat 0)):=by
 have:∀a,a<256->bits .andNot .i32 (.ofNat a) (.negSucc 0)=some (.ofNat 0):=by decide+kernel
 show (match bits .andNot .i32 (.ofNat a) (.negSucc 0)with|some n=>some (Z.int .i32 n)|none=>none)=_
 rw[this a h]
def zvB:jl .and .i32 (.ofNat 65533) .i32 (.negSucc 0)=some (.int .i32 (.ofNat 65533)):=by
 have:bits .and .i32 (.ofNat 65533) (.negSucc 0)=some (.ofNat 65533):=by decide+kernel
 show (match bits .and .i32 (.ofNat 65533) (.negSucc 0)with|some n=>some (Z.int .i32 n)|none=>none)=_
 rw[this]
def zvj:jl .shl .i32 (.ofNat 241) .u64 (.ofNat 31)=some (.int .i32 (.negSucc 2147483647)):=by
 have:ji .i32 (yi 241*2^(min (yi 31).toNat (IntKind.bits .i32)))=.negSucc 2147483647:=by decide+kernel
 show some (Z.int .i32 _)=_;rw[this]
def zvn:jl .shr .i32 (.negSucc 2147483647) .u64 (.ofNat 31)=some (.int .i32 (.negSucc 0)):=by
 have:(Int.negSucc 2147483647).fdiv (2^(min (yi 31).toNat (IntKind.bits .i32)))=.negSucc 0:=by decide+kernel
 show some (Z.int .i32 _)=_;rw[this]
theorem zzo(a:Nat):jl .shr .u8 (.ofNat a) .u64 (.ofNat 4)=some (.int .u8 (.ofNat (a/16))):=by
 show some (Z.int .u8 (Int.fdiv (.ofNat a) (.ofNat 16)))=_;cases a<;>rfl
theorem zx4(a:Nat):jl .shl .i32 (.ofNat a) .u64 (.ofNat 6)=some (.int .i32 (ji .i32 (.ofNat (a*64)))):=rfl
theorem zyx(a:Nat):jl .shl .i32 (.ofNat a) .u64 (.ofNat 12)=some (.int .i32 (ji .i32 (.ofNat (a*4096)))):=rfl
theorem zvk(a:Nat):jl .shl .i32 (.ofNat a) .u64 (.ofNat 18)=some (.int .i32 (ji .i32 (.ofNat (a*262144)))):=rfl
theorem EO(h:n<2147483648):IntKind.wrap .i32 ((n:Nat):Int)=.ofNat n:=by
 have h1:((n:Nat):Int)%(2^IntKind.bits .i32:Int)=(n:Int):=by
  show (n:Int)%4294967296=_;omega
 have h2:¬((n:Nat):Int)>=(2^(IntKind.bits .i32-1):Int):=by
  show ¬(n:Int)>=2147483648;omega
 unfold IntKind.wrap;simp only[h1,h2,decide_false,Bool.and_false,Bool.false_eq_true,if_false];rfl
def orN(h:a<16777216)(h':b<16777216):jl .or .i32 (.ofNat a) .i32 (.ofNat b)=some (.int .i32 (.ofNat (a|||b))):=by
 have e:∀n,n<16777216->BitVec.ofInt 32 (yi n)=BitVec.ofNat 32 n:=λn _=>rfl;have hor:a|||b<16777216:=Nat.or_lt_two_pow (n:=24) h h'
 have:bits .or .i32 (.ofNat a) (.ofNat b)=some (.ofNat (a|||b)):=by
  show some (IntKind.wrap .i32 _)=_
  congr 1
  have:((BitVec.ofInt (IntKind.bits .i32) (yi a))|||(BitVec.ofInt (IntKind.bits .i32) (yi b))).toNat=a|||b:=by
   show ((BitVec.ofNat 32 a)|||(BitVec.ofNat 32 b)).toNat=_
   rw[BitVec.toNat_or,BitVec.toNat_ofNat,BitVec.toNat_ofNat,Nat.mod_eq_of_lt J,Nat.mod_eq_of_lt J]
  rw[this];exact EO J
 show (match bits .or .i32 (.ofNat a) (.ofNat b)with|some n=>some (Z.int .i32 n)|none=>none)=_
 rw[this]
def or2(h:b<64):a*64|||b=a*64+b:=by
 have:=zvX (i:=6) h a;rw[yY a 64];exact this.symm
def zw1(h:b<64):a*4096|||b*64=a*4096+b*64:=by
 have e1:=zvX (i:=12) (b:=b*64) J a;rw[yY a 4096];exact e1.symm
def zw2(h:c<64):(a*4096+b*64)|||c=a*4096+b*64+c:=by
 have:=or2 (a:=a*64+b) h;rw[show (a*64+b)*64=a*4096+b*64 by omega]at this;exact this
def zvK(h:b<64):a*262144|||b*4096=a*262144+b*4096:=by
 have e1:=zvX (i:=18) (b:=b*4096) J a;rw[yY a 262144];exact e1.symm
def zw3(h:c<64):(a*262144+b*4096)|||c*64=a*262144+b*4096+c*64:=by
 have:=zw1 (a:=a*64+b) h;rw[show (a*64+b)*4096=a*262144+b*4096 by omega]at this;exact this
def zw4{d:Nat}(h:d<64):(a*262144+b*4096+c*64)|||d=a*262144+b*4096+c*64+d:=by
 have:=or2 (a:=a*4096+b*64+c) h;rw[show (a*4096+b*64+c)*64=a*262144+b*4096+c*64 by omega]at this;exact this
def pA(c:Nat):Nat:=if c<128 then 240 else if c<194 then 241 else if c<224 then 2 else if c=224 then 19 else if c<237 then 3 else if c=237 then 35 else if c<240 then 3 else if c=240 then 52 else if c<244 then 4 else if c=244 then 68 else 241
def u8V(v:zC)(n:Nat):Bool:=match v with
 |some (.int .u8 (.ofNat m))=>Nat.beq m n
 |_=>false
def zwg{v:zC}(h:u8V v n=true):v=some (.int .u8 (.ofNat n)):=by
 unfold u8V at h;split at h
 .rw[ql.1 h]
 .cases h
theorem tZ(h:c<256)(s:U):vLd env.globs s (.gptr 0 c)=some (.int .u8 (.ofNat (pA c))):=by
 have key:(List.range 256).all (λc=>u8V (vLd env.globs s0 (.gptr 0 c)) (pA c))=true:=by decide+kernel
 have:=zwg (List.all_eq_true.1 key c (List.mem_range.2 h));rw[<-this];rfl
def Aa(s:U):WN env.globs s 2 (.gptr 1 0)=some (.agg [.int .u8 (.ofNat 128),.int .u8 (.ofNat 191)])/\WN env.globs s 2 (.gptr 1 2)=some (.agg [.int .u8 (.ofNat 160),.int .u8 (.ofNat 191)])/\WN env.globs s 2 (.gptr 1 4)=some (.agg [.int .u8 (.ofNat 128),.int .u8 (.ofNat 159)])/\WN env.globs s 2 (.gptr 1 6)=some (.agg [.int .u8 (.ofNat 144),.int .u8 (.ofNat 191)])/\WN env.globs s 2 (.gptr 1 8)=some (.agg [.int .u8 (.ofNat 128),.int .u8 (.ofNat 143)]):=
 ⟨rfl,rfl,rfl,rfl,rfl⟩
theorem dh{esz g off:Nat}{k:IntKind}(h:i<n):mC n esz (.gptr g off) (.int k (.ofNat i))=some (.gptr g (off+i*esz)):=by
 simp only[mC,oV k h];rfl
def gD(l:zy):Z:=.tup [.int .i32 (.ofNat (kg l).1),.int .i64 (.ofNat (kg l).2)]
def Gn(l:zy):qg (gD l)=true:=by simp only[gD,uQ,wR,vh,wU,xZ]
theorem dl4{d:Nat}{v:Nat×Nat}(h:kg (a::b::c::d::r)=v:=by (rw[YS];(repeat' split);all_goals first|rfl|(exfalso;(try simp only[lh,lm,lp,vw]at *);omega))):gD (a::b::c::d::r)=.tup [.int .i32 (.ofNat v.1),.int .i64 (.ofNat v.2)]:=by subst h;rfl
theorem dl3{v:Nat×Nat}(h:kg [a,b,c]=v:=by (rw[Q3];(repeat' split);all_goals first|rfl|(exfalso;(try simp only[lh,lm,lp,vw]at *);omega)))(h4:∀d s,r=d::s->kg (a::b::c::d::s)=v:=by (intros;first|contradiction|(rw[YS];(repeat' split);all_goals first|rfl|(exfalso;(try simp only[lh,lm,lp,vw]at *);omega)))):gD (a::b::c::r)=.tup [.int .i32 (.ofNat v.1),.int .i64 (.ofNat v.2)]:=by
 cases r with
 |nil=>subst h;rfl
 |cons d s=>exact h4 d s rfl▸rfl
theorem dl2{v:Nat×Nat}(h:kg [a,b]=v:=by (rw[UT];(repeat' split);all_goals first|rfl|(exfalso;(try simp only[lh,lm,lp,vw]at *);omega)))(h3:∀c s,r=c::s->gD (a::b::c::s)=.tup [.int .i32 (.ofNat v.1),.int .i64 (.ofNat v.2)]:=by (intros;first|contradiction|exact dl3)):gD (a::b::r)=.tup [.int .i32 (.ofNat v.1),.int .i64 (.ofNat v.2)]:=by
 cases r with
 |nil=>subst h;rfl
 |cons d s=>exact h3 d s rfl
theorem dl1{v:Nat×Nat}(h:kg [a]=v:=by (rw[Gp];(repeat' split);all_goals first|rfl|(exfalso;(try simp only[lh,lm,lp,vw]at *);omega)))(h2:∀c s,r=c::s->gD (a::c::s)=.tup [.int .i32 (.ofNat v.1),.int .i64 (.ofNat v.2)]:=by (intros;first|contradiction|exact dl2)):gD (a::r)=.tup [.int .i32 (.ofNat v.1),.int .i64 (.ofNat v.2)]:=by
 cases r with
 |nil=>subst h;rfl
 |cons d s=>exact h2 d s rfl
attribute [local go_sem] lq dh Ry zzo zvj zvn Rz zvB orN Nat.zero_or in
def OD(B:Bx P X)(hO:OrcOk P X O)(b0:Nat)(r:zy)(hb:Byt (b0::r))(hc:128<=b0/\(b0<194\/244<b0))(hlen:(b0::r).length<2000000):
  SC P X 173 (lq (b0::r)) (H [] 0 true) (gD (b0::r)) (H [] 0 true):=by
 refine Is.sc hO B.mixed B.glob B.env 0 (show env.funs.get 173=some f173 from rfl) (zvT rfl) kA λC k=>?_;have h0:b0<256:=hb b0 (by simp)
 have hx:pA b0=241:=by
  unfold pA
  repeat' split
  all_goals omega
 have hl2:=λs=>tZ (c:=b0) h0 s;rw[hx]at hl2;have hl3:=λs=>Aa s;unfold f173 cF;simp only[Ko];rw[dl1 (v:=(65533,1))];apply k.z;exact fin
attribute [local go_sem] lq dh Ry zzo zwv ET zx4 orN or2 lh in
def OE(B:Bx P X)(hO:OrcOk P X O)(b0:Nat)(r:zy)(hb:Byt (b0::r))(hc:128<=b0/\(194<=b0/\b0<224))(hlen:(b0::r).length<2000000):
  SC P X 173 (lq (b0::r)) (H [] 0 true) (gD (b0::r)) (H [] 0 true):=by
 refine Is.sc hO B.mixed B.glob B.env 0 (show env.funs.get 173=some f173 from rfl) (zvT rfl) kA λC k=>?_;have h0:b0<256:=hb b0 (by simp)
 have hx:pA b0=2:=by
  unfold pA
  repeat' split
  all_goals omega
 have hl2:=λs=>tZ (c:=b0) h0 s;rw[hx]at hl2;have hl3:=λs=>Aa s;unfold f173 cF;simp only[Ko]
 match r,hb,hlen with
 |[],hb,hlen=>
  rw[dl1 (v:=(65533,1))];apply k.z;exact fin
 | b1::r,hb,hlen=>
  have h1:b1<256:=hb b1 (by simp)
  simp only[yJ]at hlen;have hlr:r.length<2000000:=J;by_cases g1:b1<128
  case pos=>
   rw[dl2 (v:=(65533,1))];apply k.z;exact fin
  by_cases g2:191<b1
  case pos=>
   rw[dl2 (v:=(65533,1))];apply k.z;exact fin
  rw[dl2 (v:=(Zz b0 b1,2))];apply k.z;exact fin
attribute [local go_sem] lq dh Ry zzo zwu ET zx4 zyx orN zw1 zw2 lm in
def OF(B:Bx P X)(hO:OrcOk P X O)(b0:Nat)(r:zy)(hb:Byt (b0::r))(hc:224<=b0/\b0<240)(hlen:(b0::r).length<2000000):
  SC P X 173 (lq (b0::r)) (H [] 0 true) (gD (b0::r)) (H [] 0 true):=by
 refine Is.sc hO B.mixed B.glob B.env 0 (show env.funs.get 173=some f173 from rfl) (zvT rfl) kA λC k=>?_;have h0:b0<256:=hb b0 (by simp)
 obtain⟨x,lo,hi,hx,hq⟩:∃x lo hi,pA b0=x/\((x=19/\lo=160/\hi=191/\b0<225)\/(x=3/\lo=128/\hi=191/\225<=b0/\(b0<237\/238<=b0))\/(x=35/\lo=128/\hi=159/\237<=b0/\b0<238)):=by
  refine⟨pA b0,if b0<225 then 160 else 128,if 237<=b0/\b0<238 then 159 else 191,rfl,?_⟩;unfold pA
  repeat' split
  all_goals omega
 have hl2:=λs=>tZ (c:=b0) h0 s;rw[hx]at hl2;clear hx;have hl3:=λs=>Aa s;unfold f173 cF;simp only[Ko]
 match r,hb,hlen with
 |[],hb,hlen=>
  rcases hq with ⟨rfl,rfl,rfl,hq⟩|⟨rfl,rfl,rfl,hq⟩|⟨rfl,rfl,rfl,hq⟩
  all_goals rw[dl1 (v:=(65533,1))];apply k.z;exact fin
 |[b1],hb,hlen=>
  have h1:b1<256:=hb b1 (by simp)
  rcases hq with ⟨rfl,rfl,rfl,hq⟩|⟨rfl,rfl,rfl,hq⟩|⟨rfl,rfl,rfl,hq⟩
  all_goals rw[dl2 (v:=(65533,1))];apply k.z;exact fin
 | b1::b2::r,hb,hlen=>
  have h1:b1<256:=hb b1 (by simp)
  have h2:b2<256:=hb b2 (by simp)
  simp only[yJ]at hlen;have hlr:r.length<2000000:=J;by_cases g1:b1<lo
  rotate_left
  by_cases g2:hi<b1
  rotate_left
  by_cases g3:b2<128
  rotate_left
  by_cases g4:191<b2
  rotate_left
  rw[dl3 (v:=(ph b0 b1 b2,3))]
  rotate_left
  iterate 4 (rw[dl3 (v:=(65533,1))];rotate_left)
  all_goals
   rcases hq with ⟨rfl,rfl,rfl,hq⟩|⟨rfl,rfl,rfl,hq⟩|⟨rfl,rfl,rfl,hq⟩
   all_goals refine k.z ?_;exact fin
attribute [local go_sem] lq dh Ry zzo ET zx4 zyx zvk orN zvK zw3 zw4 lp in
def OG(B:Bx P X)(hO:OrcOk P X O)(b0:Nat)(r:zy)(hb:Byt (b0::r))(hc:240<=b0/\b0<245)(hlen:(b0::r).length<2000000):
  SC P X 173 (lq (b0::r)) (H [] 0 true) (gD (b0::r)) (H [] 0 true):=by
 refine Is.sc hO B.mixed B.glob B.env 0 (show env.funs.get 173=some f173 from rfl) (zvT rfl) kA λC k=>?_;have h0:b0<256:=hb b0 (by simp)
 obtain⟨x,lo,hi,hx,hq⟩:∃x lo hi,pA b0=x/\((x=52/\lo=144/\hi=191/\b0<241)\/(x=4/\lo=128/\hi=191/\241<=b0/\b0<244)\/(x=68/\lo=128/\hi=143/\244<=b0)):=by
  refine⟨pA b0,if b0<241 then 144 else 128,if 244<=b0 then 143 else 191,rfl,?_⟩;unfold pA
  repeat' split
  all_goals omega
 have hl2:=λs=>tZ (c:=b0) h0 s;rw[hx]at hl2;clear hx;have hl3:=λs=>Aa s;unfold f173 cF;simp only[Ko]
 match r,hb,hlen with
 |[],hb,hlen=>
  rcases hq with ⟨rfl,rfl,rfl,hq⟩|⟨rfl,rfl,rfl,hq⟩|⟨rfl,rfl,rfl,hq⟩
  all_goals rw[dl1 (v:=(65533,1))];apply k.z;exact fin
 |[b1],hb,hlen=>
  have h1:b1<256:=hb b1 (by simp)
  rcases hq with ⟨rfl,rfl,rfl,hq⟩|⟨rfl,rfl,rfl,hq⟩|⟨rfl,rfl,rfl,hq⟩
  all_goals rw[dl2 (v:=(65533,1))];apply k.z;exact fin
 |[b1,b2],hb,hlen=>
  have h1:b1<256:=hb b1 (by simp)
  have h2:b2<256:=hb b2 (by simp)
  rcases hq with ⟨rfl,rfl,rfl,hq⟩|⟨rfl,rfl,rfl,hq⟩|⟨rfl,rfl,rfl,hq⟩
  all_goals rw[dl3 (v:=(65533,1))];apply k.z;exact fin
 | b1::b2::b3::r,hb,hlen=>
  have h1:b1<256:=hb b1 (by simp)
  have h2:b2<256:=hb b2 (by simp)
  have h3:b3<256:=hb b3 (by simp)
  simp only[yJ]at hlen;have hlr:r.length<2000000:=J;by_cases g1:b1<lo
  rotate_left
  by_cases g2:hi<b1
  rotate_left
  by_cases g3:b2<128
  rotate_left
  by_cases g4:191<b2
  rotate_left
  by_cases g5:b3<128
  rotate_left
  by_cases g6:191<b3
  rotate_left
  rw[dl4 (v:=(XG b0 b1 b2 b3,4))]
  rotate_left
  iterate 6 (rw[dl4 (v:=(65533,1))];rotate_left)
  all_goals
   rcases hq with ⟨rfl,rfl,rfl,hq⟩|⟨rfl,rfl,rfl,hq⟩|⟨rfl,rfl,rfl,hq⟩
   all_goals refine k.z ?_;exact fin
def zzq(B:Bx P X)(hO:OrcOk P X O)(b0:Nat)(r:zy)(hb:Byt (b0::r))(hc:128<=b0)(hlen:(b0::r).length<2000000):
  SC P X 173 (lq (b0::r)) (H [] 0 true) (gD (b0::r)) (H [] 0 true):=by
 have h0:b0<256:=hb b0 (by simp)
 by_cases c1:b0<194\/244<b0
 .exact OD B hO b0 r hb ⟨hc,c1⟩ hlen
 by_cases c2:b0<224
 .exact OE B hO b0 r hb ⟨hc,J,c2⟩ hlen
 by_cases c5:b0<240
 .exact OF B hO b0 r hb ⟨J,c5⟩ hlen
 exact OG B hO b0 r hb ⟨J,J⟩ hlen
def Ru(l:zy):Prop:=∃b0 r,l=b0::r/\Byt l/\128<=b0/\zR l<2000000
def fy:zA->U->zc:=v7 lq Ru gD
def D9(h:O 173=some fy){b0:Nat}(hb:Byt (b0::r))(h1:128<=b0)(h2:(b0::r).length<2000000)(e:Bool)(s:U):(evW env O).call 173 [.lst (r.length+1) e (.int .u8 (.ofNat b0)::qo r)] s=some (gD (b0::r),s):=by
 rw[qx h,fy];exact vY X3 s (b0::r) ⟨b0,r,rfl,hb,h1,h2⟩ (VX (b0::r) e)
def zws(l:zy):Prop:=l≠[]/\Byt l/\zR l<2000000
def gDr:zA->U->zc:=v7 lq zws gD
def Si(h:O 158=some gDr)(h0:l≠[])(hb:Byt l)(h2:List.length l<2000000)(hn:n=List.length l)(e:Bool)(s:U):(evW env O).call 158 [.lst n e (qo l)] s=some (gD l,s):=by
 subst hn;rw[qx h,gDr,vY X3 s l ⟨h0,hb,h2⟩ (VX l e)]
def Gq{b0:Nat}(h:b0<128)(r:zy):kg (b0::r)=(b0,1):=by
 simp only[kg,WR,wH h]
attribute [local go_sem] lq in
def zwB(B:Bx P X)(hO:OrcOk P X O)(h117:O 173=some fy)(l:zy)(hl:l≠[])(hb:Byt l)(hlen:zR l<2000000):
  SC P X 158 (lq l) (H [] 0 true) (gD l) (H [] 0 true):=by
 refine Is.sc hO B.mixed B.glob B.env 0 (show env.funs.get 158=some f158 from rfl) (zvT rfl) kA λC k=>?_
 match l,hl,hb,hlen with
 |b0::r,_,hb,hlen=>
 have h0:b0<256:=hb b0 (by simp)
 unfold f158 cF;simp only;apply k.q;by_cases h1:b0<128
 .rw[gD,Gq h1];apply qN;apply k.q;refine qV (vR (uu (k.ev ?_)));simp (disch:=first|exact dis|fail)only[go_sem,seval,-rO,-rN,h1]
  refine⟨_,rfl,?_⟩;simp only[qa,uU];exact fin
 .have hs:=D9 h117 (b0:=b0) (r:=r) hb J hlen;rw[gD]at hs|-;apply qN;apply k.q;refine qV (vR (uu (k.ev ?_)));simp (disch:=first|exact dis|fail)only[go_sem,seval,-rO,-rN,h1]
  refine⟨_,rfl,?_⟩;simp only[qa,uU];apply k.z;exact fin
def UU:∀{l:zy},l≠[]->1<=(kg l).2/\(kg l).2<=zR l/\vz (kg l).1=true
 |[],h=>absurd rfl h
 |[a],_=>by
  rw[Gp];split
  .exact⟨zX _,by simp,vw.2 J⟩
  .exact⟨zX _,by simp,rfl⟩
 | [a,b],_=>by
  rw[UT];split
  .exact⟨zX _,by simp,vw.2 (by simp only;omega)⟩
  .split
   .exact⟨by simp,by simp,vw.2 (by simp only[lh];omega)⟩
   .exact⟨zX _,by simp,rfl⟩
 | [a,b,c],_=>by
  rw[Q3];split
  .exact⟨zX _,by simp,vw.2 (by simp only;omega)⟩
  .split
   .exact⟨by simp,by simp,vw.2 (by simp only[lh];omega)⟩
   .split
    .rename_i h;exact⟨by simp,by simp,h.2.2.2.2⟩
    .exact⟨zX _,by simp,rfl⟩
 | a ::b::c::d::r,_=>by
  rw[YS];simp only[yJ];split
  .exact⟨zX _,by simp only;omega,vw.2 (by simp only;omega)⟩
  .split
   .exact⟨by simp,by simp only;omega,vw.2 (by simp only[lh];omega)⟩
   .split
    .rename_i h;exact⟨by simp,by simp only;omega,h.2.2.2.2⟩
    .split
     .rename_i h;exact⟨by simp,by simp only;omega,h.2.2.2.2.2⟩
     .exact⟨zX _,by simp only;omega,rfl⟩
def Qx(b:zy):Nat->Nat->zi->Sum zi Nat
 |0,i,_=>.inr i
 |k+1,i,acc=>if (zR b)<=i then .inl acc else match Q4 (b.drop i)with
  |none=>.inr i
  |some p=>Qx b k (i+p.2) (acc++[(p.1,i)])
def uY(l:zi):zA:=wo (λp:Nat×Nat=>[Z.int .i64 (.ofNat p.1),.int .i64 (.ofNat p.2)]) l
def uh(l:zi):wL (uY l)=true:=wX (λp=>by simp only[wR,vh,wU,xZ]) l
def LS(l:zi):wkL (uY l)=uY l:=ua (λp=>rfl) l
def UP(l:zi)(p:Nat×Nat):uY (l++[p])=uY l++[.int .i64 (.ofNat p.1),.int .i64 (.ofNat p.2)]:=by unfold uY;rw[qu,vt]
theorem jV(p:Nat×Nat)(l:zi):uY (p::l)=.int .i64 (.ofNat p.1)::.int .i64 (.ofNat p.2)::uY l:=rfl
theorem Zb:uY []=[]:=rfl
def Qw(Y:Nat)(acc:zi):Z:=match acc with
 |[]=>.nils
 |t::r=>.gr Y 2 (t::r).length (uY (t::r))
def pF(ty:Nat)(acc:zi):zl:=match acc with
 |[]=>[]
 |t::r=>[some (.app ty (uY (t::r)))]
theorem Ae{l:zb}{n m Y pos:Nat}{md:Bool}{t:zy}{x:Nat}{r:zy}(hg:wn l Y=some (.siter t pos))(hd:t.drop pos=x::r):
  oNs (KL l n m md) (.ptr Y 0)=some (.tup [.bool true,.int .i64 (.ofNat pos),.int .i32 (.ofNat (kg (x::r)).1)],KL ((Y,some (.siter t (pos+(kg (x::r)).2)))::l) n (gj m Y) md):=by
 simp only[oNs,qk,hg,Zf,hd,lf];rfl
def MT{l:zb}{n m Y pos:Nat}{md:Bool}{t:zy}(hg:wn l Y=some (.siter t pos))(hd:t.drop pos=[]):
  oNs (KL l n m md) (.ptr Y 0)=some (.tup [.bool false],KL l n m md):=by
 simp only[oNs,qk,hg,Zf,hd]
theorem Ah(l:zb)(n m:Nat)(md:Bool)(t:zy):oRs (KL l n m md) (.str t)=some (.ptr n 0,KL ((n,some (.siter t 0))::l) (n+1) m md):=rfl
def aS(b:zy):Z:=match Qx b (zR b+1) 0 []with
 |.inl l=>.tup [.lst (zR l) false (uY l),.agg [.int .i64 (.ofNat 0),.int .i64 (.ofNat 0)]]
 |.inr i=>.tup [.lst 0 false [],.agg [.int .i64 (.ofNat 4),.int .i64 (.ofNat i)]]
def Bh(b:zy):qg (aS b)=true:=by
 unfold aS;split<;>simp only[uQ,wR,qE,uF,vh,wU,xZ]
def pt(b:zy):Prop:=Byt b/\zR b<2000000
def Ti:zA->U->zc:=v7 lq pt aS
def ES(h:O 137=some Ti)(hb:Byt l)(h2:List.length l<2000000)(hn:n=List.length l)(e:Bool)(s:U):(evW env O).call 137 [.lst n e (qo l)] s=some (aS l,s):=by
 subst hn;rw[qx h,Ti,vY X3 s l ⟨hb,h2⟩ (VX l e)]
def VK{b:zy}:∀{k i:Nat} {acc l:zi},zR acc<=i->i<=zR b->Qx b k i acc=.inl l->zR l<=zR b
 |0,_,_,_,_,_,h=>by cases h
 | k+1,i,acc,l,h1,h2,h=>by
  rw[Qx]at h;split at h
  .cases h;omega
  .split at h
   .cases h
   .rename_i p hp
    have hne:b.drop i≠[]:=λhe=>by have:=congrArg zR he;rw[zvU]at this;simp at this;omega
    unfold Q4 at hp;split at hp
    .cases hp
    .cases hp;have:=UU hne;rw[zvU]at this;exact VK (by simp;omega) J h
attribute [local go_sem] lq LQ Ah Qw pF f159 Zb LS in
def zyG(B:Bx P X)(hO:OrcOk P X O)(o101:O 159=none)(h100:O 158=some gDr)(b:zy)(hb:Byt b)(hlen:zR b<2000000):
  SC P X 137 (lq b) (H [] 0 true) (aS b) (H [] 0 true):=by
 refine Is.sc hO B.mixed B.glob B.env 0 (show env.funs.get 137=some f137 from rfl) (zvT rfl) kA λC k=>?_;have cw:= @j1 env O _ _ o101 (show env.funs.get 159=some f159 from rfl) rfl;unfold f137 cF;simp only;apply k.q;apply k.q;refine HV (λl=>Qx b (zR b+1) 0 []=.inl l) (λl=>⟨tmL [(4,Qw 1 l),(3,.ptr 0 0)],[]⟩) (λl=>H ([some (.row 195 [.int .i64 (.ofNat 0),.int .i64 (.ofNat 0)])]++pF 198 l) 0 true) ?_ ?_
 .apply k.q;refine qV (vR (k.gcL [0,1] [11,4,3,0] true (fr1:=⟨tmL [(11,.ptr 1 0),(4,Qw 2 []),(3,.ptr 0 0),(0,.lst (zR b) false (qo b))],[]⟩) (s1:=H ([some (.row 195 [.int .i64 (.ofNat 0),.int .i64 (.ofNat 0)]),some (.siter b 0)]++pF 198 []) 0 true) (by simp (disch:=first|exact dis|fail)only[go_sem,seval,-rO,-rN,Qw,pF]) ?_))
  refine jQ (λx:Nat×Nat×zi=>x.1) (λx=>⟨tmL [(11,.ptr 1 0),(4,Qw 2 x.2.2),(3,.ptr 0 0),(0,.lst (zR b) false (qo b))],[]⟩) (λx=>H ([some (.row 195 [.int .i64 (.ofNat 0),.int .i64 (.ofNat 0)]),some (.siter b x.2.1)]++pF 198 x.2.2) 0 true) (λx=>Qx b x.1 x.2.1 x.2.2=Qx b (zR b+1) 0 []/\zR b<x.1+x.2.1/\x.2.1<=zR b/\zR x.2.2<=x.2.1) (λx hx=>?_) (zR b+1,0,[]) ⟨rfl,by simp only;omega,yz _,by simp⟩
  obtain⟨kk,i,acc⟩:=x;obtain⟨g1,g2,g3,g4⟩:=hx;simp only at g1 g2 g3 g4|-;cases kk with
  |zero=>omega
  |succ kk=>
  rw[Qx]at g1;rcases wJ b i with ⟨hi,hd⟩|⟨y,hi,hd⟩
  .rw[wH hi]at g1;have hns:=λl n m hg=> @MT l n m 1 i true b hg hd;cases acc with
   |nil=>
    apply k.z;simp only[Gcx];refine⟨[],g1.symm,?_⟩;exact k.g [0] [4,3]
   |cons a0 ar=>
    have hp1:=uh (a0::ar);apply k.z;simp only[Gcx];refine⟨a0::ar,g1.symm,?_⟩;exact k.g [0,2] [4,3]
  .rw [wx J,hd]at g1;have hns:=λl n m hg=> @Ae l n m 1 i true b y _ hg hd;have hsz:=UU (l:=y::b.drop (i+1)) (by simp)
   have hsl:(y::b.drop (i+1)).length=zR b-i:=by rw[<-hd,zvU]
   rw[hsl]at hsz;have hbd:Byt (y::b.drop (i+1)):=by rw[<-hd];exact hb.drop i
   have hdr:=λe s=>Si (O:=O) h100 (l:=b.drop i) (by rw[hd];simp) (hb.drop i) (by rw[zvU];omega) (n:=zR b-i) (by rw[zvU]) e s
   simp only[gD,hd,qo]at hdr;have hc1:=(vw.1 hsz.2.2).1;revert hns hsz hc1 hdr g1;generalize hdl:kg (y::b.drop (i+1))=D;obtain⟨c,sz⟩:=D;intro g1 hns hsz hdr hc1;simp only at hns hsz hdr hc1;by_cases h1:c=65533
   .subst h1;by_cases h2:sz<=1
    .have hR:Q4 (y::b.drop (i+1))=none:=by unfold Q4;rw[hdl,wH ⟨rfl,h2⟩]
     rw[hR]at g1;simp only at g1;simp only[aS,<-g1];cases acc with
     |nil=>
      apply k.z;exact fin
     |cons a0 ar=>
      have hp1:=uh (a0::ar);apply k.z;exact fin
    .have hR:Q4 (y::b.drop (i+1))=some (65533,sz):=by unfold Q4;rw[hdl,wx (λh=>h2 h.2)]
     rw[hR]at g1;simp only at g1;cases acc with
     |nil=>
      apply k.z;refine⟨(kk,i+sz,[]++[(65533,i)]),⟨g1,by simp only;omega,by simp only;omega,by simp;omega⟩,yK _,?_⟩
      refine k.gcs (keep:=[0,1,2]) (live:=[11,4,3,0]) (md:=true) ?_;simp (disch:=first|exact dis|fail)only[go_sem,seval,-rO,-rN,Qw,pF,jV,Zb]
     |cons a0 ar=>
      have hp1:=uh (a0::ar);simp only[yJ]at g4;apply k.z;refine⟨(kk,i+sz,(a0::ar)++[(65533,i)]),⟨g1,by simp only;omega,by simp only;omega,by simp;omega⟩,yK _,?_⟩
      refine k.gcs (keep:=[0,1,3]) (live:=[11,4,3,0]) (md:=true) ?_;simp only[yu,Qw,pF,jV,UP,y8,yJ,xY];simp (disch:=first|exact dis|fail)only[go_sem,seval,-rO,-rN,uh]
   .have hR:Q4 (y::b.drop (i+1))=some (c,sz):=by unfold Q4;rw[hdl,wx (λh=>h1 h.1)]
    rw[hR]at g1;simp only at g1;cases acc with
    |nil=>
     apply k.z;refine⟨(kk,i+sz,[]++[(c,i)]),⟨g1,by simp only;omega,by simp only;omega,by simp;omega⟩,yK _,?_⟩
     refine k.gcs (keep:=[0,1,2]) (live:=[11,4,3,0]) (md:=true) ?_;simp (disch:=first|exact dis|fail)only[go_sem,seval,-rO,-rN,Qw,pF,jV,Zb]
    |cons a0 ar=>
     have hp1:=uh (a0::ar);simp only[yJ]at g4;apply k.z;refine⟨(kk,i+sz,(a0::ar)++[(c,i)]),⟨g1,by simp only;omega,by simp only;omega,by simp;omega⟩,yK _,?_⟩
     refine k.gcs (keep:=[0,1,3]) (live:=[11,4,3,0]) (md:=true) ?_;simp only[yu,Qw,pF,jV,UP,y8,yJ,xY];simp (disch:=first|exact dis|fail)only[go_sem,seval,-rO,-rN,uh]
 .intro l hl;simp only[aS,hl];cases l with
  |nil=>
   apply k.z;exact fin
  |cons a0 ar=>
   have hp1:=uh (a0::ar);apply k.z;exact fin
def j3(l:zy):zA:=wo (λn:Nat=>[Z.int .i64 (.ofNat n)]) l
def jX(l:zy):wL (j3 l)=true:=wX (λp=>by simp only[wR,vh,wU,xZ]) l
def LV(l:zy):wkL (j3 l)=j3 l:=ua (λp=>rfl) l
def LU(l:zy)(p:Nat):j3 (l++[p])=j3 l++[.int .i64 (.ofNat p)]:=by unfold j3;rw[qu,vt]
theorem ZE(p:Nat)(l:zy):j3 (p::l)=.int .i64 (.ofNat p)::j3 l:=rfl
theorem YO:j3 []=[]:=rfl
def ei(i:Nat)(l:zy):qv i (j3 l)=j3 (l.drop i):=by
 have:=jb (f:=λn:Nat=>[Z.int .i64 (.ofNat n)]) (k:=1) (λ_=>rfl) i l;rw[Nat.mul_one]at this;exact this
def JH(i:Nat)(l:zi):qv (i*2) (uY l)=uY (l.drop i):=jb (k:=2) (λ_=>rfl) i l
def lI(Y:Nat)(acc:zy):Z:=match acc with
 |[]=>.nils
 |t::r=>.gr Y 1 (t::r).length (j3 (t::r))
def jB(ty:Nat)(acc:zy):zl:=match acc with
 |[]=>[]
 |t::r=>[some (.app ty (j3 (t::r)))]
def uG(b:zy):Option zy:=match Qx b (zR b+1) 0 []with
 |.inl l=>some (l.map (·.1))
 |.inr _=>none
def kw(b:zy):Z:=match uG b with
 |some l=>.tup [.lst (zR l) false (j3 l),.int .i64 (.ofNat 0)]
 |none=>.tup [.lst 0 false [],.int .i64 (.ofNat 4)]
def JL(b:zy):qg (kw b)=true:=by
 unfold kw;split<;>simp only[uQ,wR,qE,vh,wU,xZ]
def kT(s:zy):zA:=[.str s]
def Zi:∀x y,kT x=kT y->x=y:=λx y h=>by
 simp only[kT,vc,Z.str.injEq,and_true]at h;exact h
def gX(l:zy):wL (kT l)=true:=by simp only[kT,wR,pY,wU,xZ]
def Wd:zA->U->zc:=v7 kT pt kw
def YQ(h:O f=some Wd)(hb:Byt l)(h2:List.length l<2000000)(s:U):(evW env O).call f [.str l] s=some (kw l,s):=by
 rw[qx h,Wd,vY Zi s l ⟨hb,h2⟩ rfl]
def FE(B:Bx P X)(hO:OrcOk P X O)(h83:O 137=some Ti)(b:zy)(hb:Byt b)(hlen:zR b<2000000):
  SC P X 109 (kT b) (H [] 0 true) (kw b) (H [] 0 true):=by
 refine Is.sc hO B.mixed B.glob B.env 0 (show env.funs.get 109=some f109 from rfl) (zvT rfl) kA λC k=>?_;have hall:=λe s=>ES h83 hb hlen rfl e s;unfold f109 cF;simp only;refine qN (k.eval (by simp (disch:=first|exact dis|fail)only[go_sem,seval,-rO,-rN,kT];exact rfl) ?_)
 simp only[qa];cases hA:Qx b (zR b+1) 0 []with
 |inr i=>
  simp only[kw,uG,hA];simp only[aS,hA]at hall;refine k.eval (by simp (disch:=first|exact dis|fail)only[go_sem,seval,-rO,-rN,hall];exact rfl) ?_
  try simp only[qa,uU,Cut,if_true]
  apply Z5 (Or.inr rfl)
  iterate 5 (simp (disch:=first|exact dis|fail)only[go_sem,seval,-rO,-rN]<;>exact rfl)
 | inl l=>
  have hl:=VK (by simp) (by simp) hA
  simp only[kw,uG,hA];simp only[aS,hA]at hall;refine qN (k.eval (by simp (disch:=first|exact dis|fail)only[go_sem,seval,-rO,-rN,hall];exact rfl) ?_)
  simp only[qa];refine qN (k.eval (by simp (disch:=first|exact dis|fail)only[go_sem,seval,-rO,-rN];exact rfl) ?_)
  simp only[qa];refine qN (k.eval (by simp (disch:=first|exact dis|fail)only[go_sem,seval,-rO,-rN];exact rfl) ?_)
  simp only[qa];refine Qs ⟨tmL [(6,lI 0 (l.map (·.1)))],[]⟩ (H (jB 3 (l.map (·.1))) 0 true) ?_ ?_
  ·
   refine qN (k.eval (by simp (disch:=first|exact dis|fail)only[go_sem,seval,-rO,-rN];exact rfl) ?_)
   simp only[qa];refine qV (vR (k.gcL [] [22,21,20,6] true (fr1:=⟨tmL [(22,.int .i64 (.ofNat 0)),(21,.int .i64 (.ofNat (zR l))),(20,.lst (zR l) false (uY l)),(6,lI 0 [])],[]⟩) (s1:=H (jB 3 []) 0 true) (by simp (disch:=first|exact dis|fail)only[go_sem,seval,-rO,-rN,lI,jB]) ?_))
   refine jQ (λx:Nat×zy=>zR l-x.1) (λx=>⟨tmL [(22,.int .i64 (.ofNat x.1)),(21,.int .i64 (.ofNat (zR l))),(20,.lst (zR l) false (uY l)),(6,lI 0 x.2)],[]⟩) (λx=>H (jB 3 x.2) 0 true) (λx=>x.1<=zR l/\x.2=(l.take x.1).map (·.1)) (λx hx=>?_) (0,[]) ⟨yz _,rfl⟩;obtain⟨i,acc⟩:=x;obtain⟨g1,g2⟩:=hx;simp only at g1 g2|-;rcases wJ l i with ⟨hi,hd⟩|⟨⟨c,p⟩,hi,hd⟩
   .have hlt:¬i<zR l:=J;rw[yq hi]at g2;rw[<-g2];cases acc with
    |nil=>
     refine k.eval (by simp (disch:=first|exact dis|fail)only[go_sem,seval,-rO,-rN,lI,jB,hlt];exact rfl) ?_
     try simp only[qa,uU,Cut]
     refine k.gcs (keep:=[]) (live:=[6]) (md:=true) ?_;simp (disch:=first|exact dis|fail)only[go_sem,seval,-rO,-rN,lI,jB]
    |cons a0 ar=>
     have hp1:=jX (a0::ar);refine k.eval (by simp (disch:=first|exact dis|fail)only[go_sem,seval,-rO,-rN,lI,jB,hlt];exact rfl) ?_
     try simp only[qa,uU,Cut]
     refine k.gcs (keep:=[0]) (live:=[6]) (md:=true) ?_;simp (disch:=first|exact dis|fail)only[go_sem,seval,-rO,-rN,lI,jB,hp1]
   .have hdr:qv (i*2) (uY l)=.int .i64 (.ofNat c)::.int .i64 (.ofNat p)::uY (l.drop (i+1)):=by rw[JH,hd,jV]
    have hnext:acc++[c]=(l.take (i+1)).map (·.1):=by
     rw[List.take_add,hd,g2];simp
    have hacc:zR acc=i:=by rw[g2,List.length_map,zv3];omega
    cases acc with
    |nil=>
     refine k.eval (by simp (disch:=first|exact dis|fail)only[go_sem,seval,-rO,-rN,lI,jB,hi,hdr];exact rfl) ?_
     try simp only[qa]
     refine⟨(i+1,[]++[c]),⟨by simp only;omega,hnext⟩,by simp only;omega,?_⟩
     refine k.gcs (keep:=[1]) (live:=[22,21,20,6]) (md:=true) ?_;simp (disch:=first|exact dis|fail)only[go_sem,seval,-rO,-rN,lI,jB,ZE,YO]
    |cons a0 ar=>
     have hp1:=jX (a0::ar);simp only[yJ]at hacc;refine k.eval (by simp (disch:=first|exact dis|fail)only[go_sem,seval,-rO,-rN,lI,jB,hi,hdr];exact rfl) ?_
     try simp only[qa]
     refine⟨(i+1,(a0::ar)++[c]),⟨by simp only;omega,hnext⟩,by simp only;omega,?_⟩
     refine k.gcs (keep:=[2]) (live:=[22,21,20,6]) (md:=true) ?_;simp only[yu,lI,jB,ZE,LU,y8,yJ,xY];simp (disch:=first|exact dis|fail)only[go_sem,seval,-rO,-rN,jX]
  .generalize l.map (·.1)=m;cases m with
   |nil=>
    refine k.eval (by simp (disch:=first|exact dis|fail)only[go_sem,seval,-rO,-rN,lI,jB];exact rfl) ?_
    try simp only[qa,uU,Cut,if_true]
    apply Z5 (Or.inr rfl)
    iterate 5 (simp (disch:=first|exact dis|fail)only[go_sem,seval,-rO,-rN,YO]<;>exact rfl)
   |cons a0 ar=>
    have hp1:=jX (a0::ar);refine k.eval (by simp (disch:=first|exact dis|fail)only[go_sem,seval,-rO,-rN,lI,jB];exact rfl) ?_
    try simp only[qa,uU,Cut,if_true]
    apply Z5 (Or.inr rfl)
    iterate 5 (simp (disch:=first|exact dis|fail)only[go_sem,seval,-rO,-rN,LV]<;>exact rfl)
def VL(b:zy):Z:=match Qx b (zR b+1) 0 []with
 |.inl l=>.tup [.lst (zR l) false (uY l),.int .i64 (.ofNat 0),.int .i64 (.ofNat 0)]
 |.inr i=>.tup [.lst 0 false [],.int .i64 (.ofNat 4),.int .i64 (.ofNat i)]
def mN(b:zy):qg (VL b)=true:=by
 unfold VL;split<;>simp only[uQ,wR,qE,vh,wU,xZ]
def ft:zA->U->zc:=v7 lq pt VL
def Bk(h:O 125=some ft)(hb:Byt l)(h2:List.length l<2000000)(hn:n=List.length l)(e:Bool)(s:U):(evW env O).call 125 [.lst n e (qo l)] s=some (VL l,s):=by
 subst hn;rw[qx h,ft,vY X3 s l ⟨hb,h2⟩ (VX l e)]
attribute [local go_sem] lq Qw pF Zb LS in
def Rx(B:Bx P X)(hO:OrcOk P X O)(h84:O 149=some I6)(b:zy)(hb:Byt b)(hlen:zR b<2000000):
  SC P X 125 (lq b) (H [] 0 true) (VL b) (H [] 0 true):=by
 refine Is.sc hO B.mixed B.glob B.env 0 (show env.funs.get 125=some f125 from rfl) (zvT rfl) kA λC k=>?_;unfold f125 cF;simp only;apply k.q;apply k.q;apply k.q;refine HV (λl=>Qx b (zR b+1) 0 []=.inl l) (λl=>⟨tmL [(5,Qw 0 l)],[]⟩) (λl=>H (pF 178 l) 0 true) ?_ ?_
 .refine qV (vR (k.gcL [] [6,5,0] true (fr1:=⟨tmL [(6,.int .i64 (.ofNat 0)),(5,Qw 0 []),(0,.lst (zR b) false (qo b))],[]⟩) (s1:=H (pF 178 []) 0 true) (by simp (disch:=first|exact dis|fail)only[go_sem,seval,-rO,-rN,Qw,pF]) ?_))
  refine jQ (λx:Nat×Nat×zi=>x.1) (λx=>⟨tmL [(6,.int .i64 (.ofNat x.2.1)),(5,Qw 0 x.2.2),(0,.lst (zR b) false (qo b))],[]⟩) (λx=>H (pF 178 x.2.2) 0 true) (λx=>Qx b x.1 x.2.1 x.2.2=Qx b (zR b+1) 0 []/\zR b<x.1+x.2.1/\x.2.1<=zR b/\zR x.2.2<=x.2.1) (λx hx=>?_) (zR b+1,0,[]) ⟨rfl,by simp only;omega,yz _,by simp⟩
  obtain⟨kk,i,acc⟩:=x;obtain⟨g1,g2,g3,g4⟩:=hx;simp only at g1 g2 g3 g4|-;cases kk with
  |zero=>omega
  |succ kk=>
  rw[Qx]at g1;by_cases hi:zR b<=i
  .rw[wH hi]at g1;have hlt:¬i<zR b:=J;cases acc with
   |nil=>
    apply k.z;simp only[Gcx];refine⟨[],g1.symm,?_⟩;exact k.g [] [5]
   |cons a0 ar=>
    have hp1:=uh (a0::ar);apply k.z;simp only[Gcx];refine⟨a0::ar,g1.symm,?_⟩;exact k.g [0] [5]
  .have hi2:i<zR b:=J;rw[wx hi]at g1;have hget:=λe s=>Mj h84 hb hi2 hlen e s;have hne:b.drop i≠[]:=λhe=>by have:=congrArg zR he;rw[zvU]at this;simp at this;omega
   have hsz:=UU hne;rw[zvU]at hsz;simp only[fE,Mh (hb.drop i) hne]at hget;cases hR:Q4 (b.drop i)with
   | none=>
    rw[hR]at g1 hget;simp only at g1 hget;simp only[VL,<-g1];cases acc with
    |nil=>
     apply k.z;exact fin
    |cons a0 ar=>
     have hp1:=uh (a0::ar);apply k.z;exact fin
   | some p=>
    obtain⟨c,sz⟩:=p;have hD:kg (b.drop i)=(c,sz):=by
     unfold Q4 at hR;split at hR
     .cases hR
     .exact Option.some.inj hR
    rw[hD]at hsz;rw[hR]at g1 hget;simp only at g1 hget hsz;cases acc with
    |nil=>
     apply k.z;refine⟨(kk,i+sz,[]++[(c,i)]),⟨g1,by simp only;omega,by simp only;omega,by simp;omega⟩,yK _,?_⟩
     refine k.gcs (keep:=[0]) (live:=[6,5,0]) (md:=true) ?_;simp (disch:=first|exact dis|fail)only[go_sem,seval,-rO,-rN,Qw,pF,jV,Zb]
    |cons a0 ar=>
     have hp1:=uh (a0::ar);simp only[yJ]at g4;apply k.z;refine⟨(kk,i+sz,(a0::ar)++[(c,i)]),⟨g1,by simp only;omega,by simp only;omega,by simp;omega⟩,yK _,?_⟩
     refine k.gcs (keep:=[1]) (live:=[6,5,0]) (md:=true) ?_;simp only[yu,Qw,pF,jV,UP,y8,yJ,xY];simp (disch:=first|exact dis|fail)only[go_sem,seval,-rO,-rN,uh]
 .intro l hl;simp only[VL,hl];cases l with
  |nil=>
   apply k.z;exact fin
  |cons a0 ar=>
   have hp1:=uh (a0::ar);apply k.z;exact fin
def BO(B:Bx P X)(hO:OrcOk P X O)(h53:O 125=some ft)(b:zy)(hb:Byt b)(hlen:zR b<2000000):
  SC P X 101 (kT b) (H [] 0 true) (kw b) (H [] 0 true):=by
 refine Is.sc hO B.mixed B.glob B.env 0 (show env.funs.get 101=some f101 from rfl) (zvT rfl) kA λC k=>?_;have hall:=λe s=>Bk h53 hb hlen rfl e s;unfold f101 cF;simp only;refine qN (k.eval (by simp (disch:=first|exact dis|fail)only[go_sem,seval,-rO,-rN,kT];exact rfl) ?_)
 simp only[qa];cases hA:Qx b (zR b+1) 0 []with
 |inr i=>
  simp only[kw,uG,hA];simp only[VL,hA]at hall;refine k.eval (by simp (disch:=first|exact dis|fail)only[go_sem,seval,-rO,-rN,hall];exact rfl) ?_
  try simp only[qa,uU,Cut,if_true]
  apply Z5 (Or.inr rfl)
  iterate 5 (simp (disch:=first|exact dis|fail)only[go_sem,seval,-rO,-rN]<;>exact rfl)
 | inl l=>
  have hl:=VK (by simp) (by simp) hA
  simp only[kw,uG,hA];simp only[VL,hA]at hall;refine qN (k.eval (by simp (disch:=first|exact dis|fail)only[go_sem,seval,-rO,-rN,hall];exact rfl) ?_)
  simp only[qa];refine qN (k.eval (by simp (disch:=first|exact dis|fail)only[go_sem,seval,-rO,-rN];exact rfl) ?_)
  simp only[qa];refine qN (k.eval (by simp (disch:=first|exact dis|fail)only[go_sem,seval,-rO,-rN];exact rfl) ?_)
  simp only[qa];refine Qs ⟨tmL [(7,lI 0 (l.map (·.1)))],[]⟩ (H (jB 3 (l.map (·.1))) 0 true) ?_ ?_
  ·
   refine qN (k.eval (by simp (disch:=first|exact dis|fail)only[go_sem,seval,-rO,-rN];exact rfl) ?_)
   simp only[qa];refine qV (vR (k.gcL [] [8,7,4] true (fr1:=⟨tmL [(8,.int .i64 (.ofNat 0)),(7,lI 0 []),(4,.lst (zR l) false (uY l))],[]⟩) (s1:=H (jB 3 []) 0 true) (by simp (disch:=first|exact dis|fail)only[go_sem,seval,-rO,-rN,lI,jB]) ?_))
   refine jQ (λx:Nat×zy=>zR l-x.1) (λx=>⟨tmL [(8,.int .i64 (.ofNat x.1)),(7,lI 0 x.2),(4,.lst (zR l) false (uY l))],[]⟩) (λx=>H (jB 3 x.2) 0 true) (λx=>x.1<=zR l/\x.2=(l.take x.1).map (·.1)) (λx hx=>?_) (0,[]) ⟨yz _,rfl⟩;obtain⟨i,acc⟩:=x;obtain⟨g1,g2⟩:=hx;simp only at g1 g2|-;rcases wJ l i with ⟨hi,hd⟩|⟨⟨c,p⟩,hi,hd⟩
   .have hlt:¬i<zR l:=J;rw[yq hi]at g2;rw[<-g2];cases acc with
    |nil=>
     refine k.eval (by simp (disch:=first|exact dis|fail)only[go_sem,seval,-rO,-rN,lI,jB,hlt];exact rfl) ?_
     try simp only[qa,uU,Cut]
     refine k.gcs (keep:=[]) (live:=[7]) (md:=true) ?_;simp (disch:=first|exact dis|fail)only[go_sem,seval,-rO,-rN,lI,jB]
    |cons a0 ar=>
     have hp1:=jX (a0::ar);refine k.eval (by simp (disch:=first|exact dis|fail)only[go_sem,seval,-rO,-rN,lI,jB,hlt];exact rfl) ?_
     try simp only[qa,uU,Cut]
     refine k.gcs (keep:=[0]) (live:=[7]) (md:=true) ?_;simp (disch:=first|exact dis|fail)only[go_sem,seval,-rO,-rN,lI,jB,hp1]
   .have hdr:qv (i*2) (uY l)=.int .i64 (.ofNat c)::.int .i64 (.ofNat p)::uY (l.drop (i+1)):=by rw[JH,hd,jV]
    have hnext:acc++[c]=(l.take (i+1)).map (·.1):=by
     rw[List.take_add,hd,g2];simp
    have hacc:zR acc=i:=by rw[g2,List.length_map,zv3];omega
    cases acc with
    |nil=>
     refine k.eval (by simp (disch:=first|exact dis|fail)only[go_sem,seval,-rO,-rN,lI,jB,hi,hdr];exact rfl) ?_
     try simp only[qa]
     refine⟨(i+1,[]++[c]),⟨by simp only;omega,hnext⟩,by simp only;omega,?_⟩
     refine k.gcs (keep:=[0]) (live:=[8,7,4]) (md:=true) ?_;simp (disch:=first|exact dis|fail)only[go_sem,seval,-rO,-rN,lI,jB,ZE,YO]
    |cons a0 ar=>
     have hp1:=jX (a0::ar);simp only[yJ]at hacc;refine k.eval (by simp (disch:=first|exact dis|fail)only[go_sem,seval,-rO,-rN,lI,jB,hi,hdr];exact rfl) ?_
     try simp only[qa]
     refine⟨(i+1,(a0::ar)++[c]),⟨by simp only;omega,hnext⟩,by simp only;omega,?_⟩
     refine k.gcs (keep:=[1]) (live:=[8,7,4]) (md:=true) ?_;simp only[yu,lI,jB,ZE,LU,y8,yJ,xY];simp (disch:=first|exact dis|fail)only[go_sem,seval,-rO,-rN,jX]
  .generalize l.map (·.1)=m;cases m with
   |nil=>
    refine k.eval (by simp (disch:=first|exact dis|fail)only[go_sem,seval,-rO,-rN,lI,jB];exact rfl) ?_
    try simp only[qa,uU,Cut,if_true]
    apply Z5 (Or.inr rfl)
    iterate 5 (simp (disch:=first|exact dis|fail)only[go_sem,seval,-rO,-rN,YO]<;>exact rfl)
   |cons a0 ar=>
    have hp1:=jX (a0::ar);refine k.eval (by simp (disch:=first|exact dis|fail)only[go_sem,seval,-rO,-rN,lI,jB];exact rfl) ?_
    try simp only[qa,uU,Cut,if_true]
    apply Z5 (Or.inr rfl)
    iterate 5 (simp (disch:=first|exact dis|fail)only[go_sem,seval,-rO,-rN,LV]<;>exact rfl)
def jD(c:Nat):Bool:=decide (48<=c)&&decide (c<=57)
def gp(s:zy):zy:=match s with
 |[]=>[]
 |c::r=>if c=45 then r else c::r
def Xj(s:zy):Bool:=match gp s with
 |[]=>false
 |c::r=>(decide (c≠48)||eqS s [48])&&(c::r).all jD
def ixF:Nat->zy->Int
 |_,[]=> -1
 |i,c::r=>if jD c=true then ixF (i+1) r else .ofNat i
theorem bX:∀(i:Nat) (s:zy),(!ltD (ixF i s) (.ofNat 0))= !s.all jD
 |i,[]=>rfl
 | i,c::r=>by
  simp only[ixF,zv2];cases hc:jD c with
  |true=>rw[wH rfl,bX (i+1) r];rfl
  |false=>
   rw[wx (by simp)]
   have:ltD (.ofNat i) (.ofNat 0)=false:=by rw[bY];exact qy J
   rw[this];rfl
theorem zyZ(a b:Bool):Yd .bool false (.bool a) (.bool b)=some (.bool (a==b)):=by cases a<;>cases b<;>rfl
def FS{y:Nat}(hy:128<=y):∀r:zy,128<=(kg (y::r)).1
 |[]=>by rw[Gp,wx J];simp
 |[a]=>by
  rw[UT,wx J];split
  .rename_i h;exact h.2.2
  .simp
 | [a,b]=>by
  rw[Q3,wx J];split
  .rename_i h;exact h.2.2
  .split
   .rename_i h;have:=h.2.2.2.1;simp only;omega
   .simp
 | a::b::c::r=>by
  rw[YS,wx J];split
  .rename_i h;exact h.2.2
  .split
   .rename_i h;have:=h.2.2.2.1;simp only;omega
   .split
    .rename_i h;have:=h.2.2.2.2.1;simp only;omega
    .simp
def eO(s:zy):zA:=[.str s,.fn 135 [] [],.bool true]
def F5:∀x y,eO x=eO y->x=y:=λx y h=>by
 simp only[eO,vc,Z.str.injEq,and_true]at h;exact h
def Ck(l:zy):wL (eO l)=true:=by simp only[eO,wR,pY,Ut,jA,wU,xZ]
def gIx:zA->U->zc:=v7 eO pt (λs=>.int .i64 (ixF 0 s))
def tX(h:O 172=some gIx)(hb:Byt l)(h2:List.length l<2000000)(s:U):(evW env O).call 172 [.str l,.fn 135 [] [],.bool true] s=some (.int .i64 (ixF 0 l),s):=by
 rw[qx h,gIx,vY F5 s l ⟨hb,h2⟩ rfl]
attribute [local go_sem] eO Ah f135 zyZ in
def zwK(B:Bx P X)(hO:OrcOk P X O)(o81:O 135=none)(b:zy)(hb:Byt b)(hlen:zR b<2000000):
  SC P X 172 (eO b) (H [] 0 true) (.int .i64 (ixF 0 b)) (H [] 0 true):=by
 refine Is.sc hO B.mixed B.glob B.env 0 (show env.funs.get 172=some f172 from rfl) (zvT rfl) kA λC k=>?_;have c81:= @j1 env O _ _ o81 (show env.funs.get 135=some f135 from rfl) rfl;unfold f172 cF;simp only;apply k.q;refine YF (p:=ixF 0 b= -1) ⟨tmL [],[]⟩ (H [] 0 true) ?_ ?_
 .apply k.q;refine qV (vR (k.gcL [0] [10,2,1] true (fr1:=⟨tmL [(10,.ptr 0 0),(2,.bool true),(1,.fn 135 [] [])],[]⟩) (s1:=H [some (.siter b 0)] 0 true) sW ?_));refine jQ (λi:Nat=>zR b-i) (λi=>⟨tmL [(10,.ptr 0 0),(2,.bool true),(1,.fn 135 [] [])],[]⟩) (λi=>H [some (.siter b i)] 0 true) (λi=>i<=zR b/\ixF i (b.drop i)=ixF 0 b) (λi hi=>?_) 0 ⟨yz _,rfl⟩;obtain⟨g1,g2⟩:=hi;rcases wJ b i with ⟨hi,hd⟩|⟨y,hi,hd⟩
  .have hns:=λl n m hg=> @MT l n m 0 i true b hg hd;rw[hd]at g2;apply k.z;simp only[Xz];refine⟨g2.symm,?_⟩;exact k.g [] []
  .have hns:=λl n m hg=> @Ae l n m 0 i true b y _ hg hd;rw[hd]at g2;simp only[ixF]at g2;by_cases h1:y<128
   .rw[Gq h1]at hns;simp only at hns;by_cases h2:y<48
    .rw[wx (by simp[jD];omega)]at g2
     rw[<-g2];apply k.z;simp only[Xz];exact fin
    .by_cases h3:57<y
     .rw[wx (by simp[jD];omega)]at g2
      rw[<-g2];apply k.z;simp only[Xz];exact fin
     .rw[wH (by simp[jD];omega)]at g2
      apply k.z;refine⟨i+1,⟨J,g2⟩,J,?_⟩;refine k.gcs (keep:=[0]) (live:=[10,2,1]) (md:=true) ?_;simp (disch:=first|exact dis|fail)only[go_sem,seval,-rO,-rN]
   .have hbig:=FS (y:=y) J (b.drop (i+1));rw[wx (by simp[jD];omega)]at g2
    rw[<-g2];revert hns hbig;generalize kg (y::b.drop (i+1))=D;obtain⟨c,sz⟩:=D;intro hns hbig;simp only at hns hbig;have h2:¬c<48:=J;have h3:57<c:=J;apply k.z;simp only[Xz];exact fin
 .intro hp;rw[hp];apply k.q;apply k.z;apply Z5 (Or.inr rfl)
  iterate 3 (simp (disch:=first|exact dis|fail)only[go_sem,seval,-rO,-rN];exact rfl)
  .simp (disch:=first|exact dis|fail)only[go_sem,seval,-rO,-rN];rfl
  .simp (disch:=first|exact dis|fail)only[go_sem,seval,-rO,-rN]
def HK(c:Nat)(r:zy)(k:IntKind):mE (.str (c::r)) (some (.int k (.ofNat 1))) none=some (.str r):=by
 simp only[mE,bnd,qT,yJ,qd.2 (show 1<=r.length+1 by omega),wy,Zf,YE,wc,yR]
 rw[yq (by show r.length<=r.length+1-1;omega)]
theorem OH(c:Nat)(r:zy)(k:IntKind):mE (.str (c::r)) none (some (.int k (.ofNat 1)))=some (.str [c]):=by
 simp only[mE,bnd,qT,yJ,qd.2 (show 1<=r.length+1 by omega),wy,Zf,YE,yR]
 rfl
theorem G0(c:Nat)(r:zy):fF (c::r) 0=some c:=rfl
def JS:zA->U->zc:=v7 kT pt (λs=>.bool (Xj s))
def PU(h:O f=some JS)(hb:Byt l)(h2:List.length l<2000000)(s:U):(evW env O).call f [.str l] s=some (.bool (Xj l),s):=by
 rw[qx h,JS,vY Zi s l ⟨hb,h2⟩ rfl]
attribute [local go_sem] kT f133 f156 f171 Xj gp HK OH G0 f134 f157 eqS in
def BU(B:Bx P X)(hO:OrcOk P X O)(o79:O 133=none)(o98:O 156=none)(o115:O 171=none)(o80:O 134=none)(o99:O 157=none)(h116:O 172=some gIx)(s:zy)(hb:Byt s)(hlen:zR s<2000000):
  SC P X 107 (kT s) (H [] 0 true) (.bool (Xj s)) (H [] 0 true):=by
 refine Is.sc hO B.mixed B.glob B.env 0 (show env.funs.get 107=some f107 from rfl) (zvT rfl) kA λC k=>?_;have c79:= @j1 env O _ _ o79 (show env.funs.get 133=some f133 from rfl) rfl;have c98:= @j1 env O _ _ o98 (show env.funs.get 156=some f156 from rfl) rfl;have c115:= @j1 env O _ _ o115 (show env.funs.get 171=some f171 from rfl) rfl;have c80:= @j1 env O _ _ o80 (show env.funs.get 134=some f134 from rfl) rfl;have c99:= @j1 env O _ _ o99 (show env.funs.get 157=some f157 from rfl) rfl;unfold f107 cF;simp only
 match s,hb,hlen with
 |[],hb,hlen=>
  apply k.z;exact fin
 | c ::r,hb,hlen=>
  have hlr:r.length<2000000:=by simp only[yJ]at hlen;omega
  by_cases h45:c=45
  .subst h45
   match r,hb,hlen,hlr with
   |[],hb,hlen,hlr=>
    apply k.z;exact fin
   | c2::r2,hb,hlen,hlr=>
    have hb2:Byt (c2::r2):=hb.cons.2;have hc2:c2<256:=hb2 c2 (by simp)
    have hix:=λs=>tX h116 hb2 hlr s;have hal:=bX 0 (c2::r2);have hm:Xj (45::c2::r2)=(decide (c2≠48)&&(c2::r2).all jD):=by
     simp only[Xj,gp,if_true,eqS];simp
    rw[hm];by_cases h48:c2=48
    .subst h48;apply k.z;exact fin
    .rw[qL h48,xC];apply k.z;exact fin
  .have hc:c<256:=hb c (by simp)
   have hix:=λs=>tX h116 hb hlen s;have hal:=bX 0 (c::r);have hm:Xj (c::r)=((decide (c≠48)||eqS (c::r) [48])&&(c::r).all jD):=by
    simp only[Xj,gp,h45,if_false]
   rw[hm];by_cases h48:c=48
   .subst h48;cases r with
    |nil=>
     apply k.z;exact fin
    |cons c3 r3=>
     apply k.z;exact fin
   .rw[qL h48,Bool.true_or,xC];apply k.z;exact fin
theorem aT{s:zy}{y:Nat}(hd:s.drop i=y::s.drop (i+1)):(s.drop i).all jD=(jD y&&(s.drop (i+1)).all jD):=by rw[hd];rfl
attribute [local go_sem] kT Xj gp eqS jD G0 HK in
def Dp(B:Bx P X)(hO:OrcOk P X O)(s:zy)(hb:Byt s)(hlen:zR s<2000000):
  SC P X 102 (kT s) (H [] 0 true) (.bool (Xj s)) (H [] 0 true):=by
 refine Is.sc hO B.mixed B.glob B.env 0 (show env.funs.get 102=some f102 from rfl) (zvT rfl) kA λC k=>?_;unfold f102 cF;simp only;apply k.q;by_cases h0:s=[48]
 .subst h0;apply k.z;exact fin
 apply k.q;refine Qs ⟨tmL [(0,.str (gp s))],[]⟩ (H [] 0 true) ?_ ?_
 .match s,hb with
  |[],hb=>
   apply k.z;simp only[gp];exact k.g [] [0]
  |c::r,hb=>
   have hc:c<256:=hb c (by simp)
   by_cases h45:c=45
   .subst h45;apply k.z;simp only[gp,if_true];exact k.g [] [0]
   .apply k.z;simp only[gp,h45,if_false];exact k.g [] [0]
 have hn:Xj s=match gp s with
   |[]=>false
   |c::r=>decide (c≠48)&&(c::r).all jD:=by
  unfold Xj;cases gp s with
  |nil=>rfl
  | cons c r=>
   have:eqS s [48]=false:=by
    cases h:eqS s [48]with
    |false=>rfl
    |true=>exact absurd (s8 h) h0
   simp only[this,Bool.or_false]
 rw[hn];have hmb:Byt (gp s)/\(gp s).length<2000000:=by
  match s,hb,hlen with
  |[],hb,hlen=>exact⟨hb,hlen⟩
  |c::r,hb,hlen=>
   simp only[gp];split
   .exact⟨hb.cons.2,by simp only[yJ]at hlen;omega⟩
   .exact⟨hb,hlen⟩
 revert hmb;generalize gp s=m;intro hmb;obtain⟨hmb,hml⟩:=hmb
 match m,hmb,hml with
 |[],hmb,hml=>
  apply k.z;exact fin
 |c::r,hmb,hml=>
 simp only;have hc:c<256:=hmb c (by simp)
 by_cases h48:c=48
 .subst h48;apply k.z;exact fin
 rw[qL h48,xC];apply k.q;obtain⟨m,hm⟩:∃m,m=c::r:=⟨_,rfl⟩;rw[<-hm]at hml hmb|-;refine YF (p:=m.all jD=true) ⟨tmL [],[]⟩ (H [] 0 true) ?_ ?_
 ·
  refine qN (k.eval (by simp (disch:=first|exact dis|fail)only[go_sem,seval,-rO,-rN];exact rfl) ?_)
  simp only[qa];refine qV (vR (k.gcL [] [3,0] true (fr1:=⟨tmL [(3,.int .i64 (.ofNat 0)),(0,.str m)],[]⟩) (s1:=H [] 0 true) sW ?_));refine jQ (λi:Nat=>zR m-i) (λi=>⟨tmL [(3,.int .i64 (.ofNat i)),(0,.str m)],[]⟩) (λ_=>H [] 0 true) (λi=>i<=zR m/\(m.drop i).all jD=m.all jD) (λi hi=>?_) 0 ⟨yz _,rfl⟩;obtain⟨g1,g2⟩:=hi;rcases wJ m i with ⟨hi,hd⟩|⟨y,hi,hd⟩
  .have hlt:¬i<zR m:=J;rw[hd]at g2;refine k.eval (by simp (disch:=first|exact dis|fail)only[go_sem,seval,-rO,-rN,hlt];exact rfl) ?_
   try simp only[qa,uU]
   simp only[Xz];refine⟨g2.symm,?_⟩;exact k.g [] []
  .have hy:y<256:=hmb y (zvY (by rw[hd];exact zvZ))
   have hg:fF m i=some y:=by rw[KA];have:=congrArg List.head? hd;rw[List.head?_drop]at this;exact this
   rw[aT hd]at g2;by_cases h2:y<48
   .rw[show jD y=false from by simp[jD];omega,zvW]at g2
    rw[<-g2];refine k.eval (by simp (disch:=first|exact dis|fail)only[go_sem,seval,-rO,-rN,hi,hg,h2];exact rfl) ?_
    try simp only[qa,uU]
    simp only[Xz];exact fin
   .by_cases h3:57<y
    .rw[show jD y=false from by simp[jD];omega,zvW]at g2
     rw[<-g2];refine k.eval (by simp (disch:=first|exact dis|fail)only[go_sem,seval,-rO,-rN,hi,hg,h2,h3];exact rfl) ?_
     try simp only[qa,uU]
     simp only[Xz];exact fin
    .rw[show jD y=true from by simp[jD];omega,xC]at g2
     refine k.eval (by simp (disch:=first|exact dis|fail)only[go_sem,seval,-rO,-rN,hi,hg,h2,h3];exact rfl) ?_
     try simp only[qa]
     refine⟨i+1,⟨J,g2⟩,J,?_⟩;refine k.gcs (keep:=[]) (live:=[3,0]) (md:=true) ?_;simp (disch:=first|exact dis|fail)only[go_sem,seval,-rO,-rN]
 .intro hp;rw[hp];apply k.q;apply k.z;exact fin
def okC(t:zy):Bool:=(uG t).isSome
def VM(k n:Int)(t:zy):Bool:=
 if k=.ofNat 0\/k=.ofNat 8\/k=.ofNat 9\/k=.ofNat 10 then true
 else if k=.ofNat 1 then eqD n (.ofNat 0)||eqD n (.ofNat 1)
 else if k=.ofNat 2 then Xj t
 else if k=.ofNat 3 then Lm n
 else if k=.ofNat 4 then okC t
 else if k=.ofNat 5 then okC t&& !decide (t=[])
 else false
def XR(d:DT):Bool:=VM (G9 d) (zvG d) (aE d)
def Kc:Nat->DT->Bool
 |0,_=>false
 |k+1,d=>match vq d with
  |some p=>Kc k p.1&&Kc k p.2
  |none=>if G9 d=.ofNat 7 then (jZ d).all (Kc k)else decide ((jZ d).length=0)&&XR d
def uq(d:DT):Bool:=Kc (qe d) d
def QW{α:Type}{f g:α->Bool}:∀{l:List α},(∀x∈l,f x=g x)->l.all f=l.all g
 |[],_=>rfl
 |x::r,h=>by simp only[zv2,h x (by simp),QW (l:=r) λy hy=>h y (by simp[hy])]
def ZQ:∀{k m:Nat} {d:DT},qe d<=k->qe d<=m->Kc k d=Kc m d
 |0,_,a,h,_=>by have:=vu a;omega
 |_+1,0,a,_,h=>by have:=vu a;omega
 | k+1,m+1,d,h,h'=>by
  have hk:=jx d;have e:(jZ d).all (Kc k)=(jZ d).all (Kc m):=QW λx hx=>by
   have:=vV hx;exact ZQ J J
  simp only[Kc,e];cases hka:vq d with
  |none=>rfl
  |some p=>
   have:=jd (x:=p.1) (y:=p.2) hka;simp only;rw[ZQ (k:=k) (m:=m) (d:=p.1) J J,ZQ (k:=k) (m:=m) (d:=p.2) J J]
def Qj(h:vq d=some (x,y)):uq d=(uq x&&uq y):=by
 have:=jd h;unfold uq;rw[ZQ (m:=qe d+1) (zX _) J,Kc,h];simp only;rw[ZQ (k:=qe d) (m:=qe x) J (zX _),ZQ (k:=qe d) (m:=qe y) J (zX _)]
def PN(h:vq d=none):uq d=if G9 d=.ofNat 7 then (jZ d).all uq else decide ((jZ d).length=0)&&XR d:=by
 have hk:=jx d;have e:(jZ d).all (Kc (qe d))=(jZ d).all uq:=QW λx hx=>by
  have:=vV hx;exact ZQ J (zX _)
 unfold uq at e|-;rw[ZQ (m:=qe d+1) (zX _) J,Kc,h,e]
mutual
def TxD:DT->Prop
 |.mk _ _ t ks _=>Byt t/\t.length<2000000/\TxL ks
def TxL:List DT->Prop
 |[]=>True
 |d::r=>TxD d/\TxL r
end
def TxL.mem:∀{l:List DT} {d:DT},TxL l->d∈l->TxD d
 |[],_,_,h=>by cases h
 |x::r,d,ht,h=>by
  simp only[TxL]at ht;rcases List.mem_cons.1 h with rfl|h
  .exact ht.1
  .exact TxL.mem ht.2 h
def TxD.kids(ht:TxD d)(h:vq d=some (x,y)):TxD x/\TxD y:=by
 obtain⟨kd,n,t,ks,p⟩:=d;obtain⟨rfl,rfl⟩:=uN h;simp only[TxD,TxL]at ht;exact⟨ht.2.2.1,ht.2.2.2.1⟩
def tu:zA->U->zc:=v7 u0 TxD (λd=>.bool (XR d))
def Br(h:O 84=some tu)(ht:TxD d)(s:U):(evW env O).call 84 [.agg (qK d)] s=some (.bool (XR d),s):=by
 rw[qx h,tu,vY YU s d ht (WW d)]
attribute [local go_sem] u0 Z3 wT true_or if_true or_true zv4 zv5 in
def RJ(B:Bx P X)(hO:OrcOk P X O)(h50:O 107=some JS)(h51:O 108=some gIs)(h52:O 109=some Wd)(d:DT)(ht:TxD d):
  SC P X 84 (u0 d) (H [] 0 true) (.bool (XR d)) (H [] 0 true):=by
 refine Is.sc hO B.mixed B.glob B.env 0 (show env.funs.get 84=some f84 from rfl) (zvT rfl) kA λC k=>?_;obtain⟨kd,n,t,ks,p⟩:=d;simp only[TxD]at ht;have hnum:=PU (f:=107) h50 ht.1 J;have his:=bW h51 n;have hco:=YQ (f:=109) h52 ht.1 J;unfold f84 cF;rw[show XR (.mk kd n t ks p)=VM kd n t from rfl];unfold VM;simp only;by_cases k0:kd=.ofNat 0
 .subst k0;apply k.z;exact fin
 by_cases k8:kd=.ofNat 8
 .subst k8;apply k.z;exact fin
 by_cases k9:kd=.ofNat 9
 .subst k9;apply k.z;exact fin
 by_cases k10:kd=.ofNat 10
 .subst k10;apply k.z;exact fin
 rw[wx (by simp only[k0,k8,k9,k10,or_self,not_false_eq_true])]
 have e0:=qw k0;have e8:=qw k8;have e9:=qw k9;have e10:=qw k10;by_cases k1:kd=.ofNat 1
 .subst k1;rw[wH rfl];cases h0:eqD n (.ofNat 0)with
  |true=>
   apply k.z;exact fin
  |false=>
   apply k.z;exact fin
 rw[wx k1];have e1:=qw k1;by_cases k2:kd=.ofNat 2
 .subst k2;rw[wH rfl];apply k.z;exact fin
 rw[wx k2];have e2:=qw k2;by_cases k3:kd=.ofNat 3
 .subst k3;rw[wH rfl];apply k.z;exact fin
 rw[wx k3];have e3:=qw k3;by_cases k4:kd=.ofNat 4
 .subst k4;rw[wH rfl];simp only[kw]at hco;simp only[okC];cases hc:uG t with
  |none=>
   rw[hc]at hco;apply k.z;exact fin
  |some l=>
   rw[hc]at hco;apply k.z;exact fin
 rw[wx k4];have e4:=qw k4;by_cases k5:kd=.ofNat 5
 .subst k5;rw[wH rfl];simp only[kw]at hco;simp only[okC];cases hc:uG t with
  |none=>
   rw[hc]at hco;apply k.z;exact fin
  |some l=>
   rw[hc]at hco;apply k.z;exact fin
 rw[wx k5];have e5:=qw k5;apply k.z;exact fin
def U0(N:Nat):zA->U->zc:=v7 u0 (λd=>TxD d/\qe d<N) (λd=>.bool (uq d))
def Yp(h:O f=some (U0 N))(ht:TxD d)(hn:qe d<N)(s:U):(evW env O).call f [.agg (qK d)] s=some (.bool (uq d),s):=by
 rw[qx h,U0,vY YU s d ⟨ht,hn⟩ (WW d)]
def ixM:Nat->List DT->Int
 |_,[]=> -1
 |i,d::r=>if uq d=true then ixM (i+1) r else .ofNat i
def ZP{n:Int}{ks:List DT}(h:vq (.mk kd n t ks p)=none):uq (.mk kd n t ks p)=if kd=.ofNat 7 then ks.all uq else decide (zR ks=0)&&XR (.mk kd n t ks p):=PN h
theorem tW:∀(i:Nat) (s:List DT),(!ltD (ixM i s) (.ofNat 0))= !s.all uq
 |i,[]=>rfl
 | i,c::r=>by
  simp only[ixM,zv2];cases hc:uq c with
  |true=>rw[wH rfl,tW (i+1) r];rfl
  |false=>
   rw[wx (by simp)]
   have:ltD (.ofNat i) (.ofNat 0)=false:=by rw[bY];exact qy J
   rw[this];rfl
def VZ(x:List DT):zA:=[.lst (zR x) false (wQ x),.fn 83 [] []]
def B8:∀x y,VZ x=VZ y->x=y:=λa b h=>by
 simp only[VZ,vc,Z.lst.injEq,true_and,and_true]at h;exact Zc h.2
def nP(x:List DT):wL (VZ x)=true:=by simp only[VZ,wR,qE,Ut,wU,xZ]
def Tj(N:Nat):zA->U->zc:=v7 VZ (λl=>TxL l/\qC l<N) (λl=>.int .i64 (ixM 0 l))
def Mw(h:O 106=some (Tj N)){l:List DT}(ht:TxL l)(hn:qC l<N)(s:U):(evW env O).call 106 [.lst (List.length l) false (wQ l),.fn 83 [] []] s=some (.int .i64 (ixM 0 l),s):=by
 rw[qx h,Tj,vY B8 s l ⟨ht,hn⟩ (by simp only[VZ,wkL,wkV,kp])]
attribute [local go_sem] VZ kO wT f83 in
def zxu(B:Bx P X)(hO:OrcOk P X O)(o25:O 83=none)(h11:O 63=some (U0 N))(hN:N<=1100000)(l:List DT)(ht:TxL l)(hn:qC l<N):
  SC P X 106 (VZ l) (H [] 0 true) (.int .i64 (ixM 0 l)) (H [] 0 true):=by
 refine Is.sc hO B.mixed B.glob B.env 0 (show env.funs.get 106=some f106 from rfl) (zvT rfl) kA λC k=>?_;have c25:= @j1 env O _ _ o25 (show env.funs.get 83=some f83 from rfl) rfl;have hll:=uf l;unfold f106 cF;simp only;apply k.q;refine YF (p:=ixM 0 l= -1) ⟨tmL [],[]⟩ (H [] 0 true) ?_ ?_
 .apply k.q;refine qV (vR (k.gcL [] [8,7,1,0] true (fr1:=⟨tmL [(8,.int .i64 (.ofNat 0)),(7,.int .i64 (.ofNat (zR l))),(1,.fn 83 [] []),(0,.lst (zR l) false (wQ l))],[]⟩) (s1:=H [] 0 true) sW ?_));refine jQ (λi:Nat=>zR l-i) (λi=>⟨tmL [(8,.int .i64 (.ofNat i)),(7,.int .i64 (.ofNat (zR l))),(1,.fn 83 [] []),(0,.lst (zR l) false (wQ l))],[]⟩) (λ_=>H [] 0 true) (λi=>i<=zR l/\ixM i (l.drop i)=ixM 0 l) (λi hi=>?_) 0 ⟨yz _,rfl⟩;obtain⟨g1,g2⟩:=hi;rcases wJ l i with ⟨hi,hd⟩|⟨x,hi,hd⟩
  .have hlt:¬i<zR l:=J;rw[hd]at g2;apply k.z;simp only[Xz];refine⟨g2.symm,?_⟩;exact k.g [] []
  .have hmem:x∈l:=zvY (by rw[hd];exact zvZ)
   have hnx:qe x<N:=by have:=vV hmem;omega
   have hc:=Yp (f:=63) h11 (ht.mem hmem) hnx;have hdr:qv (i*5) (wQ l)=qK x++wQ (l.drop (i+1)):=by rw[XY,hd,jW]
   rw[hd]at g2;simp only[ixM]at g2;obtain⟨xk,xn,xt,xks,xp⟩:=x;simp only[wT]at hc;cases hsm:uq (.mk xk xn xt xks xp)with
   |true=>
    rw[hsm]at hc g2;rw[wH rfl]at g2;apply k.z;refine⟨i+1,⟨J,g2⟩,J,?_⟩;refine k.gcs (keep:=[]) (live:=[8,7,1,0]) (md:=true) ?_;simp (disch:=first|exact dis|fail)only[go_sem,seval,-rO,-rN]
   |false=>
    rw[hsm]at hc g2;rw[wx (by simp)]at g2
    rw[<-g2];refine k.eval (by simp (disch:=first|exact dis|fail)only[go_sem,seval,-rO,-rN,hi,hdr,wT,c25,f83,hc];exact rfl) ?_
    try simp only[qa,uU]
    simp only[Xz];exact fin
 .intro hp;rw[hp];apply k.q;apply k.z;apply Z5 (Or.inr rfl)
  iterate 3 (simp (disch:=first|exact dis|fail)only[go_sem,seval,-rO,-rN];exact rfl)
  .simp (disch:=first|exact dis|fail)only[go_sem,seval,-rO,-rN];rfl
  .simp (disch:=first|exact dis|fail)only[go_sem,seval,-rO,-rN]
attribute [local go_sem] u0 Z3 kC wT f81 Zd kO lF f82 in
def zxy(B:Bx P X)(hO:OrcOk P X O)(o23:O 81=none)(o24:O 82=none)(h26:O 84=some tu)(h49:O 106=some (Tj N))(h11:O 63=some (U0 N))(d0:DT)(ht:TxD d0)(hN:qe d0<N+1):
  SC P X 63 (u0 d0) (H [] 0 true) (.bool (uq d0)) (H [] 0 true):=by
 refine Is.sc hO B.mixed B.glob B.env 0 (show env.funs.get 63=some f63 from rfl) (zvT rfl) kA λC k=>?_;have cpair:= @j1 env O _ _ o23 (show env.funs.get 81=some f81 from rfl) rfl;have c24:= @j1 env O _ _ o24 (show env.funs.get 82=some f82 from rfl) rfl;generalize hres:uq d0=res;unfold f63 cF;simp only;apply k.q;refine HV (λd:DT=>uq d=res/\vq d=none/\TxD d/\qe d<N+1) (λ_=>⟨tmL [(1,.ptr 0 0)],[]⟩) (λd=>H [some (kC d)] 0 true) (qV (vR (k.gcL [0] [1] true (fr1:=⟨tmL [(1,.ptr 0 0)],[]⟩) (s1:=H [some (kC d0)] 0 true) (by simp (disch:=first|exact dis|fail)only[go_sem,seval,-rO,-rN,kC,jq]) ?_))) ?_
 .refine jQ (λd:DT=>qe d) (λ_=>⟨tmL [(1,.ptr 0 0)],[]⟩) (λd=>H [some (kC d)] 0 true) (λd=>uq d=res/\TxD d/\qe d<N+1) (λd hx=>?_) d0 ⟨hres,ht,hN⟩;obtain⟨kd,n,t,ks,p⟩:=d;obtain⟨g1,g2,g3⟩:=hx;cases hka:vq (.mk kd n t ks p)with
  |none=>
   rcases TI hka with he|⟨rfl,hl⟩
   .apply k.z;simp only[Gcx];refine⟨.mk kd n t ks p,⟨g1,hka,g2,g3⟩,?_⟩;exact k.g [0] [1]
   .apply k.z;simp only[Gcx];refine⟨.mk (.ofNat 6) n t ks p,⟨g1,hka,g2,g3⟩,?_⟩;exact k.g [0] [1]
  | some xy=>
   obtain⟨⟨xk,xn,xt,xks,xp⟩,⟨yk,yn,yt,yks,yp⟩⟩:=xy;have hna:=jd hka;have hpt:=g2.kids hka;rw[Qj hka]at g1;obtain⟨rfl,rfl⟩:=uN hka;have hc:=Yp (f:=63) h11 hpt.1 (by have:=vu (.mk yk yn yt yks yp);omega)
   simp only[wT]at hc;cases hsm:uq (.mk xk xn xt xks xp)with
   |true=>
    rw[hsm]at hc g1;apply k.z;refine⟨.mk yk yn yt yks yp,⟨by rw[<-g1,xC],hpt.2,J⟩,J,?_⟩
    exact k.g [0] [1]
   |false=>
    rw[hsm]at hc g1;apply k.z;simp only[Gcx];rw[<-g1];apply Z5 (Or.inr rfl)
    iterate 5 (simp (disch:=first|exact dis|fail)only[go_sem,seval,-rO,-rN]<;>exact rfl)
 .rintro⟨kd,n,t,ks,p⟩ ⟨g1,g2,g3,g4⟩
  rw[ZP g2]at g1;have hb:=Br h26 g3;simp only[wT]at hb;simp only[TxD]at g3;have hn:=jx (.mk kd n t ks p);simp only[jZ]at hn;by_cases k7:kd=.ofNat 7
  .subst k7;rw[wH rfl]at g1;have hix:=Mw h49 g3.2.2 J;have hal:=tW 0 ks;apply k.z;exact fin
  .rw[wx k7]at g1;have e7:=qw k7;by_cases hl:zR ks=0
   .rw[qL hl,xC]at g1;rw[g1]at hb;rw[hl]at hb;apply k.z;exact fin
   .rw[qy hl,zvW]at g1;subst g1;apply k.z;exact fin
def zwO(d:DT):Bool:=if G9 d=.ofNat 7 then (jZ d).all uq else decide ((jZ d).length=0)&&XR d
def He:∀(k:Nat) (d:DT),qe d<k->uq d=((qn d).1.all uq&&zwO (qn d).2)
 |0,d,h=>by omega
 | k+1,d,h=>by
  cases hk:vq d with
  |none=>
   rw[jY hk,PN hk];rfl
  |some p=>
   obtain⟨x,y⟩:=p;have hn:=jd hk;have ih:=He k y (by have:=vu x;omega)
   rw[uL hk,Qj hk,ih];simp only[zv2,Bool.and_assoc]
def Be(d:DT)(ht:TxD d):TxL (qn d).1/\TxD (qn d).2:=by
 have key:∀(k:Nat) (d:DT),qe d<k->TxD d->TxL (qn d).1/\TxD (qn d).2:=by
  intro k
  induction k with
  |zero=>intro d h;omega
  | succ k ih=>
   intro d h ht;cases hk:vq d with
   |none=>rw[jY hk];exact⟨by simp only[TxL],ht⟩
   |some xy=>
    obtain⟨x,y⟩:=xy;have h2:=jd hk;have h3:=ht.kids hk;have:=ih y (by have:=vu x;omega) h3.2
    rw[uL hk];exact⟨by simp only[TxL];exact⟨h3.1,this.1⟩,this.2⟩
 exact key _ d (yK _) ht
theorem dB{α:Type}{f:α->Bool}{l:List α}{y:α}(hd:l.drop i=y::l.drop (i+1)):(l.drop i).all f=(f y&&(l.drop (i+1)).all f):=by rw[hd];rfl
attribute [local go_sem] u0 Z3 wT kC kO true_or if_true or_true zv4 zv5 in
def DM(B:Bx P X)(hO:OrcOk P X O)(h27:O 29=some Vd)(h28:O 101=some Wd)(h29:O 102=some JS)(h30:O 103=some gIs)(h12:O 76=some (U0 N))(hN2:N<=1100000)(d0:DT)(ht0:TxD d0)(hN:qe d0<N+1):
  SC P X 76 (u0 d0) (H [] 0 true) (.bool (uq d0)) (H [] 0 true):=by
 refine Is.sc hO B.mixed B.glob B.env 0 (show env.funs.get 76=some f76 from rfl) (zvT rfl) kA λC k=>?_;rw[He _ d0 (yK _)];have hni:=gZ d0;have hla:=uf (qn d0).1;have htx:=Be d0 ht0;have hca:=Uh (f:=29) h27 (d:=d0) J;simp only[itR]at hca;have hx0:=oW d0;revert hni hla hca htx hx0;generalize (qn d0).1=l;generalize (qn d0).2=x;intro hni hla htx hca hx0;have hkx:=jx x;have hlx:=uf (jZ x);obtain⟨kd,n,t,ks,p⟩:=x;obtain⟨ak,an,at_,aks,ap⟩:=d0;simp only[Z3,wT]at hca;simp only[jZ]at hkx hlx;obtain⟨htl,htx⟩:=htx;simp only[TxD]at htx;have hnum:=PU (f:=102) h29 htx.1 J;have his:=bW h30 n;have hco:=YQ (f:=101) h28 htx.1 J;unfold f76 cF;simp only;apply k.q;apply k.q;refine YF (p:=l.all uq=true) ⟨tmL [(4,.ptr 0 0)],[]⟩ (H [some (kC (.mk kd n t ks p))] 0 true) ?_ ?_
 .apply k.q;refine qV (vR (k.gcL [1] [5,4,3] true (fr1:=⟨tmL [(5,.int .i64 (.ofNat 0)),(4,.ptr 0 0),(3,.lst (zR l) false (wQ l))],[]⟩) (s1:=H [some (kC (.mk kd n t ks p))] 0 true) (by simp (disch:=first|exact dis|fail)only[go_sem,seval,-rO,-rN,kC,wT]) ?_))
  refine jQ (λi:Nat=>zR l-i) (λi=>⟨tmL [(5,.int .i64 (.ofNat i)),(4,.ptr 0 0),(3,.lst (zR l) false (wQ l))],[]⟩) (λ_=>H [some (kC (.mk kd n t ks p))] 0 true) (λi=>i<=zR l/\(l.drop i).all uq=l.all uq) (λi hi=>?_) 0 ⟨yz _,rfl⟩;obtain⟨g1,g2⟩:=hi;rcases wJ l i with ⟨hi,hd⟩|⟨u,hi,hd⟩
  .have hlt:¬i<zR l:=J;rw[hd]at g2;apply k.z;simp only[Xz];refine⟨g2.symm,?_⟩;exact k.g [0] [4]
  .have hmem:u∈l:=zvY (by rw[hd];exact zvZ)
   have hc:=Yp (f:=76) h12 (htl.mem hmem) (by have:=vV hmem;have:=vu (.mk kd n t ks p);omega)
   have hdr:qv (i*5) (wQ l)=qK u++wQ (l.drop (i+1)):=by rw[XY,hd,jW]
   rw[dB hd]at g2;obtain⟨uk,un,ut,uks,up⟩:=u;simp only[wT]at hc;cases hsm:uq (.mk uk un ut uks up)with
   |true=>
    rw[hsm]at hc g2;apply k.z;refine⟨i+1,⟨J,by rw[<-g2,xC]⟩,J,?_⟩
    exact k.g [0] [5,4,3]
   |false=>
    rw[hsm]at hc g2;apply k.z;simp only[Xz];rw[<-g2,zvW,zvW];exact fin
 intro hp;rw[hp,xC];rw[show zwO (.mk kd n t ks p)=(if kd=.ofNat 7 then ks.all uq else decide (zR ks=0)&&VM kd n t)from rfl];by_cases k7:kd=.ofNat 7
 .subst k7;rw[wH rfl];apply k.q;refine YF (p:=ks.all uq=true) ⟨tmL [(4,.ptr 0 0)],[]⟩ (H [some (kC (.mk (.ofNat 7) n t ks p))] 0 true) ?_ ?_
  .apply k.q;refine qV (vR (k.gcL [0] [6,4] true (fr1:=⟨tmL [(6,.int .i64 (.ofNat 0)),(4,.ptr 0 0)],[]⟩) (s1:=H [some (kC (.mk (.ofNat 7) n t ks p))] 0 true) (by simp (disch:=first|exact dis|fail)only[go_sem,seval,-rO,-rN,kC,wT]) ?_))
   refine jQ (λi:Nat=>zR ks-i) (λi=>⟨tmL [(6,.int .i64 (.ofNat i)),(4,.ptr 0 0)],[]⟩) (λ_=>H [some (kC (.mk (.ofNat 7) n t ks p))] 0 true) (λi=>i<=zR ks/\(ks.drop i).all uq=ks.all uq) (λi hi=>?_) 0 ⟨yz _,rfl⟩;obtain⟨g1,g2⟩:=hi;rcases wJ ks i with ⟨hi,hd⟩|⟨u,hi,hd⟩
   .have hlt:¬i<zR ks:=J;rw[hd]at g2;apply k.z;simp only[Xz];refine⟨g2.symm,?_⟩;exact k.g [0] [4]
   .have hmem:u∈ks:=zvY (by rw[hd];exact zvZ)
    have hc:=Yp (f:=76) h12 (htx.2.2.mem hmem) (by have:=vV hmem;omega)
    have hdr:qv (i*5) (wQ ks)=qK u++wQ (ks.drop (i+1)):=by rw[XY,hd,jW]
    rw[dB hd]at g2;obtain⟨uk,un,ut,uks,up⟩:=u;simp only[wT]at hc;cases hsm:uq (.mk uk un ut uks up)with
    |true=>
     rw[hsm]at hc g2;apply k.z;refine⟨i+1,⟨J,by rw[<-g2,xC]⟩,J,?_⟩
     exact k.g [0] [6,4]
    |false=>
     rw[hsm]at hc g2;apply k.z;simp only[Xz];rw[<-g2,zvW];exact fin
  intro hq;rw[hq];simp only[kw]at hco;cases hc:uG t with
  |none=>
   rw[hc]at hco;apply k.z;exact fin
  |some ll=>
   rw[hc]at hco;apply k.z;exact fin
 rw[wx k7];have e7:=qw k7;by_cases hl:zR ks=0
 case neg=>
  have hl2:0<zR ks:=J;rw[qy hl,zvW];apply k.z;exact fin
 have hks:ks=[]:=List.eq_nil_of_length_eq_zero hl;subst hks;rw[qL hl,xC];apply k.q;refine Qs ⟨tmL [(4,.ptr 0 0)],[]⟩ (H [some (kC (.mk kd n t [] p))] 0 true) ?_ ?_
 .apply qN;refine k.gc [0] [4] true (fr1:=⟨tmL [(4,.ptr 0 0)],[]⟩) (s1:=H [some (kC (.mk kd n t [] p))] 0 true) (by simp (disch:=first|exact dis|fail)only[go_sem,seval,-rO,-rN,kC,wT]) ?_
  apply k.z;refine qV (vR (uu (k.ev ?_)));simp (disch:=first|exact dis|fail)only[go_sem,seval,-rO,-rN,kC,wT]
  refine⟨_,rfl,?_⟩;simp only[qa,uU,Cut];exact k.g [0] [4]
 unfold VM;simp only[kw]at hco;by_cases k0:kd=.ofNat 0
 .subst k0;cases hc:uG t with
  |none=>
   rw[hc]at hco;apply k.z;exact fin
  |some ll=>
   rw[hc]at hco;apply k.z;exact fin
 by_cases k8:kd=.ofNat 8
 .subst k8;cases hc:uG t with
  |none=>
   rw[hc]at hco;apply k.z;exact fin
  |some ll=>
   rw[hc]at hco;apply k.z;exact fin
 by_cases k9:kd=.ofNat 9
 .subst k9;cases hc:uG t with
  |none=>
   rw[hc]at hco;apply k.z;exact fin
  |some ll=>
   rw[hc]at hco;apply k.z;exact fin
 by_cases k10:kd=.ofNat 10
 .subst k10;cases hc:uG t with
  |none=>
   rw[hc]at hco;apply k.z;exact fin
  |some ll=>
   rw[hc]at hco;apply k.z;exact fin
 rw[wx (by simp only[k0,k8,k9,k10,or_self,not_false_eq_true])]
 have e0:=qw k0;have e8:=qw k8;have e9:=qw k9;have e10:=qw k10;by_cases k1:kd=.ofNat 1
 .subst k1;rw[wH rfl];cases hc:uG t with
  | none=>
   rw[hc]at hco;cases h0:eqD n (.ofNat 0)with
   |true=>
    apply k.z;exact fin
   |false=>
    apply k.z;exact fin
  | some ll=>
   rw[hc]at hco;cases h0:eqD n (.ofNat 0)with
   |true=>
    apply k.z;exact fin
   |false=>
    apply k.z;exact fin
 rw[wx k1];have e1:=qw k1;by_cases k2:kd=.ofNat 2
 .subst k2;rw[wH rfl];cases hc:uG t with
  |none=>
   rw[hc]at hco;apply k.z;exact fin
  |some ll=>
   rw[hc]at hco;apply k.z;exact fin
 rw[wx k2];have e2:=qw k2;by_cases k3:kd=.ofNat 3
 .subst k3;rw[wH rfl];cases hc:uG t with
  |none=>
   rw[hc]at hco;apply k.z;exact fin
  |some ll=>
   rw[hc]at hco;apply k.z;exact fin
 rw[wx k3];have e3:=qw k3;by_cases k4:kd=.ofNat 4
 .subst k4;rw[wH rfl];simp only[okC];cases hc:uG t with
  |none=>
   rw[hc]at hco;apply k.z;exact fin
  |some ll=>
   rw[hc]at hco;apply k.z;exact fin
 rw[wx k4];have e4:=qw k4;by_cases k5:kd=.ofNat 5
 .subst k5;rw[wH rfl];simp only[okC];cases hc:uG t with
  |none=>
   rw[hc]at hco;apply k.z;exact fin
  | some ll=>
   rw[hc]at hco;cases t with
   |nil=>
    apply k.z;exact fin
   |cons t0 tr=>
    apply k.z;exact fin
 rw[wx k5];have e5:=qw k5;cases hc:uG t with
 |none=>
  rw[hc]at hco;apply k.z;exact fin
 |some ll=>
  rw[hc]at hco;apply k.z;exact fin
end Go.Proofs.YtbddpjboppmnfaaGreatDoor.Ev

/- Contracts of functions that IselErrors calls: what a call answers. No conditions. -/
import Derived.Test.YtbdfljdgapkbcaaGreatDoorEvG
import Derived.Test.YtbdfljdgapkbcaaGreatDoorIrIselErrors
set_option linter.unusedSimpArgs false
set_option linter.unusedVariables false
set_option linter.defProp false
set_option maxHeartbeats 4000000
set_option linter.unusedSectionVars false
noncomputable section
open List renaming length → zM, length_cons → yw, length_append → yO, drop_succ_cons → xT, cons_append → yd, length_drop → zv5, length_nil → xN, take_of_length_le → yb, drop_zero → yE, append_nil → zv6, mem_of_mem_drop → zv9, mem_cons_self → zua, nil_append → zuc, all_cons → zud, length_take → zue
open Nat renaming le_of_ble_eq_true → zv4, le_refl → zS, lt_succ_self → yx, zero_le → yh, two_pow_add_eq_or_of_lt → zv8, mul_comm → yL
open Bool renaming and_self → xO, true_and → y9, false_and → zv7, cond_decide → zub
open Int renaming ofNat → z6
open Option renaming isSome_none → zuf, isSome_some → zug
namespace Go.Proofs.YtbdfljdgapkbcaaGreatDoor.Ev
variable {O:Orc}{P:Program}{X:World}{a b n c f N i:Nat}{d y:DT}{l r t:zr}{kd p:Int}
noncomputable abbrev cl(O:Orc)(f:Nat)(a:zt)(s:U):zb:=(evW T.env O).call f a s
open T
set_option maxRecDepth 100000
structure Bx(P:Program)(X:World):Prop where
 mixed:P.follows .mixedOrders=true
 glob:wG env.globs X
 env:lL P env
def bs(B:Bx P X)(hO:OrcOk P X O){f:Nat}(F:IFunc){args:zt}{os:zi}{b:Bool}{v:Z}{c':U}(h:∀C:Cx,Is C env O (H os 0 b) 0->Tri C F.body {A:=qk (tmL []) 0 args,df:=[]} (H os 0 b) (Fin env (H os 0 b) 0 F.res v c'))(hF:env.funs.get f=some F:=by exact rfl)(hle:List.length args<=F.ntmps:=by exact Nat.le_of_ble_eq_true rfl):SC P X f args (H os 0 b) v c':=
 Is.sc hO B.mixed B.glob B.env 0 hF hle jN h
def bm(B:Bx P X)(hO:OrcOk P X O){f:Nat}(F:IFunc){args:zt}{os:zi}{o:AObj}{b:Bool}{v:Z}{c':U}(h:∀C:Cx,Is C env O (H (some o::os) 0 b) 1->Tri C F.body {A:=qk (tmL []) 0 args,df:=[]} (H (some o::os) 0 b) (Fin env (H (some o::os) 0 b) 1 F.res v c'))(hF:env.funs.get f=some F:=by exact rfl)(hg:vN o=false:=by exact rfl)(hle:List.length args<=F.ntmps:=by exact Nat.le_of_ble_eq_true rfl):SC P X f args (H (some o::os) 0 b) v c':=
 Is.sc hO B.mixed B.glob B.env 1 hF hle (zwW hg) h
def ci{f:Nat}(F:IFunc)(h:O f=none)(hF:env.funs.get f=some F:=by exact rfl)(hp:env.pure f=true:=by exact rfl)(a:zt)(l:za)(n m:Nat)(b:Bool)(hd:zg)(on:ze)(ha:List.length a<=F.ntmps):
  cl O f a (KL l n m b hd on)=Xd (KL l n m b hd on) (qv env.globs F.res (evC env (evW env O) none F.body ⟨qk (tmL []) 0 a,[]⟩ (KL l n 0 true hd on))):=jn h hF hp a l n m b hd on ha
def ciw{f:Nat}(F:IFunc)(h:O f=none)(hF:env.funs.get f=some F:=by exact rfl)(hp:env.pure f=false:=by exact rfl)(a:zt)(l:za)(n m:Nat)(b:Bool)(hd:zg)(on:ze)(ha:List.length a<=F.ntmps):
  cl O f a (KL l n m b hd on)=mdR b (qv env.globs F.res (evC env (evW env O) none F.body ⟨qk (tmL []) 0 a,[]⟩ (KL l n m false hd on))):=cP h hF hp a l n m b hd on ha
def jQ(d:DT):AObj:=.row 120 (qA d)
def Zd:AObj:=.row 120 [.int .i64 (.ofNat 0),.int .i64 (.ofNat 0),.str [],.nils,.int .i64 (.ofNat 0)]
def kU(d:DT)(r:zt):wE 5 (qA d++r)=some (qA d):=vO (uf d)
def pc(d:DT):wE 5 (qA d)=some (qA d):=qg (uf d)
def w8{a b:Int}(h:a≠b):eqD a b=false:=by simp[eqD,h]
def pC(x y:DT):wy [x,y]=qA x++qA y:=by simp only[jh,kN,zv6]
def Q9(acc:List DT):Z:=match acc with
 |[]=>.nils
 |t::r=>.gr 2 5 (t::r).length (wy (t::r))
def pZ(acc:List DT):zi:=match acc with
 |[]=>[]
 |t::r=>[some (.app 120 (wy (t::r)))]
def LE(d:DT):wC (ZL d)=true:=by simp only[ZL,uC,uF]
def wj{α:Type}(l:List α)(i:Nat):(zM l<=i/\l.drop i=[])\/∃x,i<zM l/\l.drop i=x::l.drop (i+1):=by
 by_cases h:i<zM l
 .exact .inr ⟨l[i],h,List.drop_eq_getElem_cons h⟩
 .exact .inl ⟨J,List.drop_eq_nil_of_le J⟩
def YW(p:Prop)(C:Cx)(fr1:Fr)(s1:U)(Q:Res->Fr->U->Prop):Res->Fr->U->Prop
 |.norm,f,t=>p/\Gc C f t fr1 s1
 |r,f,t=>Q r f t
def Ye{C:Cx}{ia ib:ICode}{fr:Fr}{s:U}{Q:Res->Fr->U->Prop}(p:Prop)(fr1:Fr)(s1:U)(h1:Tri C ia fr s (YW p C fr1 s1 Q))(h2:p->Tri C ib fr1 s1 Q):Tri C (.seq ia ib) fr s Q:=
 ql (h1.mono λr f t=>by
  cases r with
  |norm=>exact λh=>bS h.2 (h2 h.1)
  |exit i=>exact λh=>h
  |ret=>exact λh=>h)
open Nat (reduceEqDiff reduceLeDiff reduceLT reduceAdd reduceMul reduceSub reduceMod reducePow reduceDiv reduceOr reduceShiftLeft reduceGT reduceSucc)
open List (length_cons length_nil length_take length_drop)
open Int renaming reduceOfNat → rO, reduceNegSucc → rN
def qI:DT->Option (DT×DT)
 |.mk kd _ _ ks _=>match ks with
  |[x,y]=>if kd=.ofNat 6 then some (x,y)else none
  |_=>none
def v7{n:Int}{ks:List DT}{x:DT}(h:qI (.mk kd n t ks p)=some (x,y)):kd=.ofNat 6/\ks=[x,y]:=by
 simp only[qI]at h;split at h
 .split at h
  .cases h;exact⟨by assumption,rfl⟩
  .cases h
 .cases h
def XX{n:Int}{ks:List DT}(h:qI (.mk kd n t ks p)=none)(hk:kd=.ofNat 6):¬List.length ks=2:=by
 subst hk;intro hl
 match ks,hl with
 |[x,y],_=>simp[qI]at h
def pj{x:DT}(h:qI d=some (x,y)):SizeOf.sizeOf x<SizeOf.sizeOf d/\SizeOf.sizeOf y<SizeOf.sizeOf d:=by
 obtain⟨kd,n,t,ks,p⟩:=d;obtain⟨rfl,rfl⟩:=v7 h;simp only[DT.mk.sizeOf_spec,List.cons.sizeOf_spec,List.nil.sizeOf_spec];omega
def XW:Nat->DT->List DT×DT
 |0,d=>([],d)
 |k+1,d=>match qI d with
  |some (x,y)=>(x::(XW k y).1,(XW k y).2)
  |none=>([],d)
def wU(d:DT):List DT×DT:=XW (SizeOf.sizeOf d) d
def WE:∀{k m:Nat} {d:DT},SizeOf.sizeOf d<=k->SizeOf.sizeOf d<=m->XW k d=XW m d
 |0,_,d,h,_=>by cases d;simp only[DT.mk.sizeOf_spec]at h;omega
 |_+1,0,d,_,h=>by cases d;simp only[DT.mk.sizeOf_spec]at h;omega
 | k+1,m+1,d,h,h'=>by
  simp only[XW];cases hk:qI d with
  |none=>rfl
  |some xy=>
   obtain⟨x,y⟩:=xy;have:=(pj hk).2;simp only;rw[WE (k:=k) (m:=m) J J]
def vZ{x:DT}(h:qI d=some (x,y)):wU d=(x::(wU y).1,(wU y).2):=by
 have:=pj h;unfold wU;rw[WE (d:=d) (m:=SizeOf.sizeOf d+1) (zS _) J,XW,h];simp only;rw[WE (d:=y) (m:=SizeOf.sizeOf y) J (zS _)]
def jj(h:qI d=none):wU d=([],d):=by
 unfold wU;rw[WE (d:=d) (m:=SizeOf.sizeOf d+1) (zS _) J,XW,h]
def nY(d:DT):qI (wU d).2=none:=by
 have key:∀(k:Nat) (d:DT),SizeOf.sizeOf d<k->qI (wU d).2=none:=by
  intro k
  induction k with
  |zero=>intro d h;omega
  | succ k ih=>
   intro d h;cases hk:qI d with
   |none=>rw[jj hk];exact hk
   |some xy=>
    obtain⟨x,y⟩:=xy;rw[vZ hk];exact ih y (by have:=(pj hk).2;omega)
 exact key _ d (yx _)
attribute [local go_sem] ZL Q9 pZ jQ Zd wz pC f113 kU pc kN pf in
def eP(B:Bx P X)(hO:OrcOk P X O)(o23:O 113=none)(d0:DT)(hlen:(wU d0).1.length<2000000):
  SC P X 153 [ZL d0] (H [] 0 true) (.tup [.lst (wU d0).1.length false (wy (wU d0).1),ZL (wU d0).2]) (H [] 0 true):=by
 refine Is.sc hO B.mixed B.glob B.env 0 (show env.funs.get 153=some f153 from rfl) (zv4 rfl) jN λC k=>?_;have cpair:= @jn env O _ _ o23 (show env.funs.get 113=some f113 from rfl) rfl;generalize hl:(wU d0).1=l at hlen|-;generalize he:(wU d0).2=e;unfold f153 cF;simp only;apply k.q;refine WO ⟨tmL [(3,.ptr 1 0),(2,Q9 l),(1,.ptr 0 0)],[]⟩ (H ([some (jQ e),some Zd]++pZ l) 0 true) (qx (ve (k.gcL [0,1] [3,2,1] true (fr1:=⟨tmL [(3,.ptr 1 0),(2,Q9 []),(1,.ptr 0 0)],[]⟩) (s1:=H ([some (jQ d0),some Zd]++pZ []) 0 true) (by simp (disch:=first|exact dis|fail)only[go_sem,seval,-rO,-rN,jQ,Zd,Q9,pZ,uF]) ?_))) ?_
 .refine jd (λx:List DT×DT=>SizeOf.sizeOf x.2) (λx=>⟨tmL [(3,.ptr 1 0),(2,Q9 x.1),(1,.ptr 0 0)],[]⟩) (λx=>H ([some (jQ x.2),some Zd]++pZ x.1) 0 true) (λx=>x.1++(wU x.2).1=l/\(wU x.2).2=e) (λx hx=>?_) ([],d0) ⟨hl,he⟩;obtain⟨acc,cur⟩:=x;simp only at hx|-;obtain⟨hx1,hx2⟩:=hx;have hc2:zM acc<2000000:=by rw[<-hx1,yO]at hlen;omega
  cases hkd:qI cur with
  | some xy=>
   obtain⟨x,y⟩:=xy;have hm:=pj hkd;rw[vZ hkd]at hx1 hx2;obtain⟨kd,n,t,ks,p⟩:=cur;obtain⟨rfl,rfl⟩:=v7 hkd;obtain⟨xk,xn,xt,xks,xp⟩:=x;obtain⟨yk,yn,yt,yks,yp⟩:=y;cases acc with
   |nil=>
    apply k.z;refine⟨([]++[⟨xk,xn,xt,xks,xp⟩],⟨yk,yn,yt,yks,yp⟩),⟨by rw[<-hx1];simp,hx2⟩,hm.2,?_⟩
    refine k.gcs (keep:=[0,1,2]) (live:=[3,2,1]) (md:=true) ?_;simp only[yd,zuc,Q9,pZ,jh,kN,wz,zv6,yw,xN];simp (disch:=first|exact dis|fail)only[go_sem,seval,-rO,-rN,jQ,Zd,wz]
   |cons a0 ar=>
    have hp1:=qZ (a0::ar);simp only[yw]at hc2;apply k.z;refine⟨((a0::ar)++[⟨xk,xn,xt,xks,xp⟩],⟨yk,yn,yt,yks,yp⟩),⟨by rw[<-hx1];simp,hx2⟩,hm.2,?_⟩
    refine k.gcs (keep:=[0,1,3]) (live:=[3,2,1]) (md:=true) ?_;simp only[yd,zuc,Q9,pZ,jh,Qb,kN,wz,zv6,List.append_assoc,yO,yw,xN];simp (disch:=first|exact dis|fail)only[go_sem,seval,-rO,-rN,jQ,Zd,wz,qZ,uF]
  | none=>
   rw[jj hkd]at hx1 hx2;simp only[zv6]at hx1 hx2;subst hx1;subst hx2;obtain⟨kd,n,t,ks,p⟩:=cur;by_cases hk:kd=.ofNat 6
   .have hl:=XX hkd hk;subst hk;cases acc with
    |nil=>
     apply k.z;exact k.g [0,1] [3,2,1]
    |cons a0 ar=>
     have hp1:=qZ (a0::ar);apply k.z;exact k.g [0,1,2] [3,2,1]
   .have hke:eqD kd (.ofNat 6)=false:=w8 hk;cases acc with
    |nil=>
     apply k.z;exact k.g [0,1] [3,2,1]
    |cons a0 ar=>
     have hp1:=qZ (a0::ar);apply k.z;exact k.g [0,1,2] [3,2,1]
 .obtain⟨ek,en,et,eks,ep⟩:=e;cases l with
  |nil=>
   apply k.q;apply k.z;exact fin
  |cons a0 ar=>
   have hp1:=qZ (a0::ar);apply k.q;apply k.z;exact fin
attribute [local go_sem] ZL Q9 pZ jQ Zd wz pC kU pc kN pf in
def CD(B:Bx P X)(hO:OrcOk P X O)(d0:DT)(hlen:(wU d0).1.length<2000000):
  SC P X 136 [ZL d0] (H [] 0 true) (.tup [.lst (wU d0).1.length false (wy (wU d0).1),ZL (wU d0).2]) (H [] 0 true):=by
 refine Is.sc hO B.mixed B.glob B.env 0 (show env.funs.get 136=some f136 from rfl) (zv4 rfl) jN λC k=>?_;generalize hl:(wU d0).1=l at hlen|-;generalize he:(wU d0).2=e;unfold f136 cF;simp only;apply k.q;apply k.q;refine WO ⟨tmL [(4,Q9 l),(3,.ptr 1 0),(1,.ptr 0 0)],[]⟩ (H ([some (jQ e),some Zd]++pZ l) 0 true) (qx (ve (k.gcL [0,1] [4,3,1] true (fr1:=⟨tmL [(4,Q9 []),(3,.ptr 1 0),(1,.ptr 0 0)],[]⟩) (s1:=H ([some (jQ d0),some Zd]++pZ []) 0 true) (by simp (disch:=first|exact dis|fail)only[go_sem,seval,-rO,-rN,jQ,Zd,Q9,pZ,uF]) ?_))) ?_
 .refine jd (λx:List DT×DT=>SizeOf.sizeOf x.2) (λx=>⟨tmL [(4,Q9 x.1),(3,.ptr 1 0),(1,.ptr 0 0)],[]⟩) (λx=>H ([some (jQ x.2),some Zd]++pZ x.1) 0 true) (λx=>x.1++(wU x.2).1=l/\(wU x.2).2=e) (λx hx=>?_) ([],d0) ⟨hl,he⟩;obtain⟨acc,cur⟩:=x;simp only at hx|-;obtain⟨hx1,hx2⟩:=hx;have hc2:zM acc<2000000:=by rw[<-hx1,yO]at hlen;omega
  cases hkd:qI cur with
  | some xy=>
   obtain⟨x,y⟩:=xy;have hm:=pj hkd;rw[vZ hkd]at hx1 hx2;obtain⟨kd,n,t,ks,p⟩:=cur;obtain⟨rfl,rfl⟩:=v7 hkd;obtain⟨xk,xn,xt,xks,xp⟩:=x;obtain⟨yk,yn,yt,yks,yp⟩:=y;cases acc with
   |nil=>
    apply k.z;refine⟨([]++[⟨xk,xn,xt,xks,xp⟩],⟨yk,yn,yt,yks,yp⟩),⟨by rw[<-hx1];simp,hx2⟩,hm.2,?_⟩
    refine k.gcs (keep:=[0,1,2]) (live:=[4,3,1]) (md:=true) ?_;simp only[yd,zuc,Q9,pZ,jh,kN,wz,zv6,yw,xN];simp (disch:=first|exact dis|fail)only[go_sem,seval,-rO,-rN,jQ,Zd,wz]
   |cons a0 ar=>
    have hp1:=qZ (a0::ar);simp only[yw]at hc2;apply k.z;refine⟨((a0::ar)++[⟨xk,xn,xt,xks,xp⟩],⟨yk,yn,yt,yks,yp⟩),⟨by rw[<-hx1];simp,hx2⟩,hm.2,?_⟩
    refine k.gcs (keep:=[0,1,3]) (live:=[4,3,1]) (md:=true) ?_;simp only[yd,zuc,Q9,pZ,jh,Qb,kN,wz,zv6,List.append_assoc,yO,yw,xN];simp (disch:=first|exact dis|fail)only[go_sem,seval,-rO,-rN,jQ,Zd,wz,qZ,uF]
  | none=>
   rw[jj hkd]at hx1 hx2;simp only[zv6]at hx1 hx2;subst hx1;subst hx2;obtain⟨kd,n,t,ks,p⟩:=cur;by_cases hk:kd=.ofNat 6
   .have hl:=XX hkd hk;subst hk;cases acc with
    |nil=>
     apply k.z;exact k.g [0,1] [4,3,1]
    |cons a0 ar=>
     have hp1:=qZ (a0::ar);apply k.z;exact k.g [0,1,2] [4,3,1]
   .have hke:eqD kd (.ofNat 6)=false:=w8 hk;cases acc with
    |nil=>
     apply k.z;exact k.g [0,1] [4,3,1]
    |cons a0 ar=>
     have hp1:=qZ (a0::ar);apply k.z;exact k.g [0,1,2] [4,3,1]
 .obtain⟨ek,en,et,eks,ep⟩:=e;cases l with
  |nil=>
   apply k.q;apply k.z;exact fin
  |cons a0 ar=>
   have hp1:=qZ (a0::ar);apply k.q;apply k.z;exact fin
def uh(d:DT):zt:=[ZL d]
def Yt:∀x y,uh x=uh y->x=y:=λd e h=>by
 simp only[uh,qJ,and_true]at h;exact FG h
def Wv(d:DT):wkL [Z.agg (qA d)]=uh d:=by simp only[uh,ZL,wkL,wkV,Ls]
def uH(d:DT):wo (uh d)=true:=by simp only[uh,ww,LE,wA,xO]
def itR(d:DT):Z:=.tup [.lst (wU d).1.length false (wy (wU d).1),ZL (wU d).2]
def GH:zt->U->zb:=vw uh (λd=>(wU d).1.length<2000000) itR
def GU(h:O f=some GH)(hi:(wU d).1.length<2000000)(s:U):(evW env O).call f [.agg (qA d)] s=some (itR d,s):=by
 rw[qc h,GH,vo Yt s d hi (Wv d)]
def GR(d:DT):wC (itR d)=true:=by simp only[itR,uD,ww,qn,LE,wA,xO]
def CE(B:Bx P X)(hO:OrcOk P X O):OrcOk P X (withG 153 GH (withG 136 GH O)):=
 (hO.withG lB (XY true uH GR λd hd=>⟨_,CD B (jb P X) d hd⟩)).withG lB (XY true uH GR λd hd=>⟨_,eP B (jb P X) rfl d hd⟩)
mutual
def wL:DT->Nat
 |.mk _ _ _ ks _=>1+qf ks
def qf:List DT->Nat
 |[]=>0
 |d::r=>wL d+qf r
end
def qW:∀d,0<wL d
 |.mk _ _ _ ks _=>by simp only[wL];omega
def vQ:∀l,zM l<=qf l
 |[]=>zS _
 |d::r=>by simp only[qf,yw];have:=vQ r;have:=qW d;omega
def vv:∀{l:List DT} {d:DT},d∈l->wL d<=qf l
 |[],d,h=>by cases h
 |x::r,d,h=>by
  simp only[qf];rcases List.mem_cons.1 h with rfl|h
  .omega
  .have:=vv h;omega
def uu{x:DT}(h:qI d=some (x,y)):wL d=1+wL x+wL y:=by
 obtain⟨kd,n,t,ks,p⟩:=d;obtain⟨rfl,rfl⟩:=v7 h;simp only[wL,qf];omega
def lA(d:DT):qf (wU d).1+wL (wU d).2<=wL d:=by
 have key:∀(k:Nat) (d:DT),SizeOf.sizeOf d<k->qf (wU d).1+wL (wU d).2<=wL d:=by
  intro k
  induction k with
  |zero=>intro d h;omega
  | succ k ih=>
   intro d h;cases hk:qI d with
   |none=>rw[jj hk];simp only[qf];omega
   |some xy=>
    obtain⟨x,y⟩:=xy;have:=ih y (by have:=(pj hk).2;omega)
    have h2:=uu hk;rw[vZ hk];simp only[qf];omega
 exact key _ d (yx _)
def GV:DT->Int|.mk k _ _ _ _=>k
def zvK:DT->Int|.mk _ n _ _ _=>n
def zvu:DT->zr|.mk _ _ t _ _=>t
def gL:DT->List DT|.mk _ _ _ ks _=>ks
def j4(d:DT):wL d=1+qf (gL d):=by cases d;simp only[wL,gL]
def Gcx{α:Type}(p:α->Prop)(C:Cx)(fr1:α->Fr)(s1:α->U)(Q:Res->Fr->U->Prop):Res->Fr->U->Prop
 |.norm,f,t=>∃x,p x/\Gc C f t (fr1 x) (s1 x)
 |r,f,t=>Q r f t
def HF{α:Type}{C:Cx}{ia ib:ICode}{fr:Fr}{s:U}{Q:Res->Fr->U->Prop}(p:α->Prop)(fr1:α->Fr)(s1:α->U)(h1:Tri C ia fr s (Gcx p C fr1 s1 Q))(h2:∀x,p x->Tri C ib (fr1 x) (s1 x) Q):Tri C (.seq ia ib) fr s Q:=
 ql (h1.mono λr f t=>by
  cases r with
  |norm=>exact λ⟨x,hp,hg⟩=>bS hg (h2 x hp)
  |exit i=>exact λh=>h
  |ret=>exact λh=>h)
def sA:∀{a b:zr},eqS a b=true->a=b
 |[],[],_=>rfl
 |[],_::_,h=>by cases h
 |_::_,[],h=>by cases h
 |x::r,y::s,h=>by
  simp only[eqS]at h;cases hb:Nat.beq x y with
  |false=>rw[hb]at h;cases h
  |true=>rw[hb]at h;rw[wH.1 hb,sA h]
def TO{n:Int}{ks:List DT}(h:qI (.mk kd n t ks p)=none):(eqD kd (.ofNat 6)=false)\/(kd=.ofNat 6/\¬List.length ks=2):=by
 by_cases hk:kd=.ofNat 6
 .exact .inr ⟨hk,XX h hk⟩
 .exact .inl (w8 hk)
def H2(c:Int):Bool:=match c with
 |.ofNat n=>qS n
 |.negSucc _=>false
def qN:qS n=true↔n<=1114111/\(n<55296\/57343<n):=by
 unfold qS;rw[Wp];by_cases h:n<55296
 .rw[wc h];simp;omega
 .rw[x0 h,Bool.and_eq_true,wB,wB];omega
def s6:H2 (.ofNat n)=decide (n<=1114111/\(n<55296\/57343<n)):=by
 show qS n=_;by_cases h:n<=1114111/\(n<55296\/57343<n)
 .rw[qN.2 h];exact(qp h).symm
 .rw[qb h];cases hv:qS n with
  |false=>rfl
  |true=>exact absurd (qN.1 hv) h
def aK(c:Int):zt:=[.int .i64 c]
def FI:∀x y,aK x=aK y->x=y:=λx y h=>by
 simp only[aK,qJ,Z.int.injEq,true_and,and_true]at h;exact h
def gIs:zt->U->zb:=vw aK (λ_=>True) (λc=>.bool (H2 c))
def aZ(h:O f=some gIs)(c:Int)(s:U):(evW env O).call f [.int .i64 c] s=some (.bool (H2 c),s):=by
 rw[qc h,gIs,vo FI s c trivial rfl]
attribute [local go_sem] aK H2 f174 in
def zwR(B:Bx P X)(hO:OrcOk P X O)(o82:O 174=none)(c:Int):
  SC P X 146 (aK c) (H [] 0 true) (.bool (H2 c)) (H [] 0 true):=by
 refine Is.sc hO B.mixed B.glob B.env 0 (show env.funs.get 146=some f146 from rfl) (zv4 rfl) jN λC k=>?_;have cv:= @jn env O _ _ o82 (show env.funs.get 174=some f174 from rfl) rfl;unfold f146 cF;simp only;cases c with
 |negSucc m=>
  apply k.z;exact fin
 | ofNat n=>
  rw[s6];by_cases h1:n<=1114111
  .by_cases h2:n<55296
   .rw[qp ⟨h1,.inl h2⟩];apply k.z;exact fin
   .by_cases h3:57343<n
    .rw[qp ⟨h1,.inr h3⟩];apply k.z;exact fin
    .rw[qb J];apply k.z;exact fin
  .rw[qb J];apply k.z;exact fin
attribute [local go_sem] aK H2 in
def N4(B:Bx P X)(hO:OrcOk P X O)(c:Int):
  SC P X 139 (aK c) (H [] 0 true) (.bool (H2 c)) (H [] 0 true):=by
 refine Is.sc hO B.mixed B.glob B.env 0 (show env.funs.get 139=some f139 from rfl) (zv4 rfl) jN λC k=>?_;unfold f139 cF;simp only;cases c with
 |negSucc m=>
  apply k.z;exact fin
 | ofNat n=>
  rw[s6];by_cases h1:n<=1114111
  .by_cases h2:n<55296
   .rw[qp ⟨h1,.inl h2⟩];apply k.z;exact fin
   .by_cases h3:57343<n
    .rw[qp ⟨h1,.inr h3⟩];apply k.z;exact fin
    .rw[qb J];apply k.z;exact fin
  .rw[qb J];apply k.z;exact fin
theorem zyu(a:Nat):uc .quo .i64 (.ofNat a) .i64 (.ofNat 64)=some (.int .i64 (vK .i64 (.ofNat (a/64)))):=rfl
theorem T9(a:Nat):uc .quo .i64 (.ofNat a) .i64 (.ofNat 4096)=some (.int .i64 (vK .i64 (.ofNat (a/4096)))):=rfl
theorem Dg(a:Nat):uc .quo .i64 (.ofNat a) .i64 (.ofNat 262144)=some (.int .i64 (vK .i64 (.ofNat (a/262144)))):=rfl
theorem JK(a:Nat):uc .rem .i64 (.ofNat a) .i64 (.ofNat 64)=some (.int .i64 (.ofNat (a%64))):=rfl
theorem zvl(a:Nat):uc .rem .i64 (.ofNat a) .i64 (.ofNat 32)=some (.int .i64 (.ofNat (a%32))):=rfl
theorem zvk(a:Nat):uc .rem .i64 (.ofNat a) .i64 (.ofNat 16)=some (.int .i64 (.ofNat (a%16))):=rfl
theorem zvQ(a:Nat):uc .rem .i64 (.ofNat a) .i64 (.ofNat 8)=some (.int .i64 (.ofNat (a%8))):=rfl
def gT(l:zr):Nat:=match l with
 |[]=>0
 |[b]=>b
 |[b,_]=>b%32
 |[b,_,_]=>b%16
 |b::_=>b%8
def Zh:zr->Nat->Nat
 |[],n=>n
 |b::r,n=>Zh r (64*n+b%64)
def jv(l:zr):Nat:=Zh (l.drop 1) (gT l)
def gh(l:zr):zt:=[.lst (zM l) false (wK l)]
def Xq:∀x y,gh x=gh y->x=y:=λx y h=>by
 simp only[gh,qJ,Z.lst.injEq,true_and,and_true]at h;exact Qp h.2
def ZK(l:zr):wo (gh l)=true:=by simp only[gh,ww,qn,wA,xO]
def Vq(l:zr)(e:Bool):wkL [Z.lst (zM l) e (wK l)]=gh l:=by simp only[gh,wkL,wkV,WQ]
def eG:zt->U->zb:=vw gh (λl=>1<=zM l/\zM l<=4/\Byt l) (λl=>.int .i64 (.ofNat (jv l)))
def D3(h:O 205=some eG)(h1:1<=List.length l)(h2:List.length l<=4)(h3:Byt l)(hn:n=List.length l)(e:Bool)(s:U):(evW env O).call 205 [.lst n e (wK l)] s=some (.int .i64 (.ofNat (jv l)),s):=by
 subst hn;rw[qc h,eG,vo Xq s l ⟨h1,h2,h3⟩ (Vq l e)]
attribute [local go_sem] gh zyu JK zvl zvk zvQ jv gT Zh xT yE yL in
def zzL(B:Bx P X)(hO:OrcOk P X O)(l:zr)(h1:1<=zM l)(h2:zM l<=4)(hb:Byt l):
  SC P X 205 (gh l) (H [] 0 true) (.int .i64 (.ofNat (jv l))) (H [] 0 true):=by
 refine Is.sc hO B.mixed B.glob B.env 0 (show env.funs.get 205=some f205 from rfl) (zv4 rfl) jN λC k=>?_;unfold f205 cF;simp only
 match l,h1,h2,hb with
 |[b0],_,_,hb=>
  have h0:b0<256:=hb b0 (by simp)
  apply k.q;apply k.q;apply k.q;apply k.q;apply k.q;apply k.q;apply ql;apply k.q;refine qx (ve ?_);refine vE (k.ev ?_);simp (disch:=first|exact dis|fail)only[go_sem,seval,-rO,-rN]
  refine⟨_,rfl,?_⟩;simp only[wJ,ub];apply k.z;exact fin
 |[b0,b1],_,_,hb=>
  have h0:b0<256:=hb b0 (by simp)
  have h1:b1<256:=hb b1 (by simp)
  apply k.q;apply k.q;apply k.q;apply k.q;apply k.q;apply k.q;apply ql;apply k.q;refine qx (ve ?_);refine vE (k.ev ?_);simp (disch:=first|exact dis|fail)only[go_sem,seval,-rO,-rN,JK,oh]
  refine⟨_,rfl,?_⟩;simp only[wJ];refine vE (k.ev ?_);simp (disch:=first|exact dis|fail)only[go_sem,seval,-rO,-rN]
  refine⟨_,rfl,?_⟩;simp only[wJ,ub];apply k.z;exact fin
 |[b0,b1,b2],_,_,hb=>
  have h0:b0<256:=hb b0 (by simp)
  have h1:b1<256:=hb b1 (by simp)
  have h2:b2<256:=hb b2 (by simp)
  apply k.q;apply k.q;apply k.q;apply k.q;apply k.q;apply k.q;apply ql;apply k.q;refine qx (ve ?_);refine vE (k.ev ?_);simp (disch:=first|exact dis|fail)only[go_sem,seval,-rO,-rN,JK,oh]
  refine⟨_,rfl,?_⟩;simp only[wJ];refine vE (k.ev ?_);simp (disch:=first|exact dis|fail)only[go_sem,seval,-rO,-rN,JK,oh]
  refine⟨_,rfl,?_⟩;simp only[wJ];refine vE (k.ev ?_);simp (disch:=first|exact dis|fail)only[go_sem,seval,-rO,-rN]
  refine⟨_,rfl,?_⟩;simp only[wJ,ub];apply k.z;exact fin
 |[b0,b1,b2,b3],_,_,hb=>
  have h0:b0<256:=hb b0 (by simp)
  have h1:b1<256:=hb b1 (by simp)
  have h2:b2<256:=hb b2 (by simp)
  have h3:b3<256:=hb b3 (by simp)
  apply k.q;apply k.q;apply k.q;apply k.q;apply k.q;apply k.q;apply ql;apply k.q;refine qx (ve ?_);refine vE (k.ev ?_);simp (disch:=first|exact dis|fail)only[go_sem,seval,-rO,-rN,JK,oh]
  refine⟨_,rfl,?_⟩;simp only[wJ];refine vE (k.ev ?_);simp (disch:=first|exact dis|fail)only[go_sem,seval,-rO,-rN,JK,oh]
  refine⟨_,rfl,?_⟩;simp only[wJ];refine vE (k.ev ?_);simp (disch:=first|exact dis|fail)only[go_sem,seval,-rO,-rN,JK,oh]
  refine⟨_,rfl,?_⟩;simp only[wJ];refine vE (k.ev ?_);simp (disch:=first|exact dis|fail)only[go_sem,seval,-rO,-rN]
  refine⟨_,rfl,?_⟩;simp only[wJ,ub];apply k.z;exact fin
 |b0::b1::b2::b3::b4::r,_,h2,_=>simp only[yw]at h2;omega
theorem Wu(c:Nat):JS c=if c<128 then [c]else if c<2048 then [192+c/64,128+c%64]else if c<65536 then [224+c/4096,128+c/64%64,128+c%64]else [240+c/262144,128+c/4096%64,128+c/64%64,128+c%64]:=by
 unfold JS;rw[Wp,Wp,Wp];rfl
def FF(h:c<=1114111):Byt (JS c):=by
 rw[Wu];intro x hx;split at hx
 .simp at hx;omega
 .split at hx
  .simp at hx;omega
  .split at hx
   .simp at hx;omega
   .simp at hx;omega
def BB(c:Nat):zt:=[.int .i64 (.ofNat c)]
theorem FJ:∀x y,BB x=BB y->x=y:=λx y h=>by
 simp only[BB,qJ,Z.int.injEq,true_and,and_true]at h;cases h;rfl
def og(l:zr):Z:=.lst (zM l) false (wK l)
def CJ(l:zr):wC (og l)=true:=by simp only[og,qn]
def Md:zt->U->zb:=vw BB (λc=>c<=1114111) (λc=>og (JS c))
def E7(h:O 206=some Md)(hc:c<=1114111)(s:U):(evW env O).call 206 [.int .i64 (.ofNat c)] s=some (og (JS c),s):=by
 rw[qc h,Md,vo FJ s c hc rfl]
attribute [local go_sem] BB og zyu JK T9 Dg in
def zyP(B:Bx P X)(hO:OrcOk P X O)(c:Nat)(hc:c<=1114111):
  SC P X 206 (BB c) (H [] 0 true) (og (JS c)) (H [] 0 true):=by
 refine Is.sc hO B.mixed B.glob B.env 0 (show env.funs.get 206=some f206 from rfl) (zv4 rfl) jN λC k=>?_;unfold f206 cF;simp only;rw[Wu];by_cases h1:c<128
 .rw[wc h1];apply k.z;exact fin
 rw[x0 h1];by_cases h2:c<2048
 .rw[wc h2];apply k.z;exact fin
 rw[x0 h2];by_cases h3:c<65536
 .rw[wc h3];apply k.z;exact fin
 rw[x0 h3];apply k.z;exact fin
def ZA(l:zr):Nat->Nat->Option (Nat×Nat)
 |0,_=>none
 |k+1,n=>if n<=4/\n<=(zM l)then (if qS (jv (l.take n))=true/\JS (jv (l.take n))=l.take n then some (jv (l.take n),n)else ZA l k (n+1))else none
def eJ(l:zr):Z:=match ZA l 5 1 with
 |some p=>.tup [.int .i64 (.ofNat p.1),.int .i64 (.ofNat p.2),.int .i64 (.ofNat 0)]
 |none=>.tup [.int .i64 (.ofNat 0),.int .i64 (.ofNat 0),.int .i64 (.ofNat 4)]
def Cu(l:zr):wC (eJ l)=true:=by
 unfold eJ;cases ZA l 5 1<;>simp only[uD,ww,qL,wA,xO]
def Vp(x:zr×Nat):zt:=[.lst (zM x.1) false (wK x.1),.int .i64 (.ofNat x.2)]
theorem Bu:∀x y,Vp x=Vp y->x=y:=λ⟨a,b⟩ ⟨c,d⟩ h=>by
 simp only[Vp,qJ,Z.lst.injEq,Z.int.injEq,true_and,and_true]at h;rw[Qp h.1.2];cases h.2;rfl
def mW(x:zr×Nat):wo (Vp x)=true:=by simp only[Vp,ww,qn,qL,wA,xO]
def zyF(x:zr×Nat):Prop:=Byt x.1/\x.2<zM x.1/\zM x.1<2000000
def Me:zt->U->zb:=vw Vp zyF (λx=>eJ (x.1.drop x.2))
def Mt(h:O 187=some Me){b:zr}(h1:Byt b)(h2:i<List.length b)(h3:List.length b<2000000)(e:Bool)(s:U):(evW env O).call 187 [.lst (List.length b) e (wK b),.int .i64 (.ofNat i)] s=some (eJ (b.drop i),s):=by
 rw[qc h,Me,vo Bu s (b,i) ⟨h1,h2,h3⟩ (by simp only[Vp,wkL,wkV,WQ])]
def zzK(h1:List.length l<=4)(hb:Byt l):jv l<4294967296:=by
 match l,h1,hb with
 |[],_,_=>simp[jv,Zh,gT]
 |[a],_,hb=>have:=hb a (by simp);simp[jv,Zh,gT];omega
 |[a,b],_,hb=>simp[jv,Zh,gT];omega
 |[a,b,c],_,hb=>simp[jv,Zh,gT];omega
 |[a,b,c,d],_,hb=>simp[jv,Zh,gT];omega
 |a::b::c::d::e::r,h,_=>simp only[yw]at h;omega
attribute [local go_sem] Vp og in
def zxx(B:Bx P X)(hO:OrcOk P X O)(h30:O 139=some gIs)(h77:O 206=some Md)(h102:O 205=some eG)(b:zr)(i:Nat)(hb:Byt b)(hi:i<zM b)(hlb:zM b<2000000):
  SC P X 187 (Vp (b,i)) (H [] 0 true) (eJ (b.drop i)) (H [] 0 true):=by
 refine Is.sc hO B.mixed B.glob B.env 0 (show env.funs.get 187=some f187 from rfl) (zv4 rfl) jN λC k=>?_;have hge:¬zM b<=i:=J;unfold f187 cF;simp only;apply k.q;apply k.q;refine Ye (p:=ZA (b.drop i) 5 1=none) ⟨tmL [],[]⟩ (H [] 0 true) ?_ ?_
 .apply k.q;refine qx (ve (k.gcL [] [7,1,0] true (fr1:=⟨tmL [(7,.int .i64 (.ofNat 1)),(1,.int .i64 (.ofNat i)),(0,.lst (zM b) false (wK b))],[]⟩) (s1:=H [] 0 true) sW ?_));refine jd (λx:Nat×Nat=>x.1) (λx=>⟨tmL [(7,.int .i64 (.ofNat x.2)),(1,.int .i64 (.ofNat i)),(0,.lst (zM b) false (wK b))],[]⟩) (λ_=>H [] 0 true) (λx=>1<=x.2/\x.2+x.1=6/\ZA (b.drop i) x.1 x.2=ZA (b.drop i) 5 1) (λx hx=>?_) (5,1) ⟨by simp,rfl,rfl⟩
  obtain⟨kk,n⟩:=x;obtain⟨g0,g1,g2⟩:=hx;simp only at g0 g1 g2|-;cases kk with
  |zero=>
   have h4:¬n<=4:=J;simp only[ZA]at g2;apply k.z;simp only[YW];refine⟨g2.symm,?_⟩;exact k.g [] []
  | succ kk=>
   have h4:n<=5:=J;rw[ZA,zv5]at g2;by_cases h5:n<=4
   case neg=>
    rw[x0 J]at g2;apply k.z;simp only[YW];refine⟨g2.symm,?_⟩;exact k.g [] []
   by_cases h6:i+n<=zM b
   case neg=>
    rw[x0 J]at g2;apply k.z;simp only[YW];refine⟨g2.symm,?_⟩;exact k.g [] []
   rw[wc ⟨h5,J⟩]at g2;have hsub:i+n-i=n:=J;have hl:((b.drop i).take n).length=n:=by rw[zue,zv5];omega
   have hby:Byt ((b.drop i).take n):=(hb.drop i).take n;have htl:=zzK (l:=(b.drop i).take n) J hby;have ht:=λe s=>D3 h102 (l:=(b.drop i).take n) J J hby (n:=n) hl.symm e s;have his:=aZ h30 (.ofNat (jv ((b.drop i).take n)));revert g2 hl hby htl ht his;generalize htk:(b.drop i).take n=tk;intro g2 hl hby htl ht his;cases hv:qS (jv tk)with
   |false=>
    rw[x0 (by rw[hv];simp)]at g2
    rw[show H2 (.ofNat (jv tk))=false from hv]at his;apply k.z;refine⟨(kk,n+1),⟨J,J,g2⟩,yx _,?_⟩;refine k.gcs (keep:=[]) (live:=[7,1,0]) (md:=true) ?_;simp (disch:=first|exact dis|fail)only[go_sem,seval,-rO,-rN]
   |true=>
    rw[show H2 (.ofNat (jv tk))=true from hv]at his;have hcc:=(qN.1 hv).1;have hbc:=E7 h77 hcc;have hbb:=FF hcc;by_cases he:JS (jv tk)=tk
    .rw[wc ⟨hv,he⟩]at g2;apply k.z;simp only[YW,eJ];rw[<-g2];exact fin
    .rw[x0 (λh=>he h.2)]at g2;apply k.z;refine⟨(kk,n+1),⟨J,J,g2⟩,yx _,?_⟩;refine k.gcs (keep:=[]) (live:=[7,1,0]) (md:=true) ?_;simp (disch:=first|exact dis|fail)only[go_sem,seval,-rO,-rN]
 .intro hp;simp only[eJ,hp];apply k.q;apply k.z;exact fin
def Qv(l:zr):Option (Nat×Nat):=if (jw l).1=65533/\(jw l).2<=1 then none else some (jw l)
theorem zxF(a b:Nat):Nat.div a b=a/b:=rfl
def bb(a b:Nat):Nat.beq a b=decide (a=b):=by
 cases h:Nat.beq a b with
 |true=>exact(qp (wH.1 h)).symm
 |false=>exact(qb (λh'=>by rw[wH.2 h']at h;cases h)).symm
theorem kZ(a b:Nat):pY a b=a%32*64+b%64:=rfl
theorem ge(a b c:Nat):lu a b c=a%16*4096+b%64*64+c%64:=rfl
theorem gg(a b c d:Nat):YZ a b c d=a%8*262144+b%64*4096+c%64*64+d%64:=rfl
def Ga(a:Nat):jw [a]=if a<128 then (a,1)else (65533,1):=by
 simp only[jw,Vn,zub]
def Uv(a b:Nat):jw [a,b]=if a<128 then (a,1)else if a/32=6/\b/64=2/\128<=pY a b then (pY a b,2)else (65533,1):=by
 simp only[jw,Vn,zub,HR,bb,Vm,zxF];by_cases h0:a<128
 .rw[wc h0,wc h0]
 rw[x0 h0,x0 h0];by_cases h1:a/32=6<;>by_cases h2:b/64=2<;>by_cases h3:128<=pY a b<;>simp[h1,h2,h3]
def Qu(a b c:Nat):jw [a,b,c]=if a<128 then (a,1)else if a/32=6/\b/64=2/\128<=pY a b then (pY a b,2)else if a/16=14/\b/64=2/\c/64=2/\2048<=lu a b c/\qS (lu a b c)=true then (lu a b c,3)else (65533,1):=by
 simp only[jw,Vn,zub,HR,bb,Vm,zxF];by_cases h0:a<128
 .rw[wc h0,wc h0]
 rw[x0 h0,x0 h0];by_cases h1:a/32=6
 .have h4:¬a/16=14:=J;by_cases h2:b/64=2<;>by_cases h3:128<=pY a b<;>simp[h1,h2,h3,h4]
 .by_cases h4:a/16=14<;>by_cases h2:b/64=2<;>by_cases h5:c/64=2<;>by_cases h6:2048<=lu a b c<;>cases h7:qS (lu a b c)<;>simp[h1,h2,h4,h5,h6]
def Yr(a b c d:Nat)(r:zr):jw (a::b::c::d::r)=if a<128 then (a,1)else if a/32=6/\b/64=2/\128<=pY a b then (pY a b,2)else if a/16=14/\b/64=2/\c/64=2/\2048<=lu a b c/\qS (lu a b c)=true then (lu a b c,3)
  else if a/8=30/\b/64=2/\c/64=2/\d/64=2/\65536<=YZ a b c d/\qS (YZ a b c d)=true then (YZ a b c d,4)else (65533,1):=by
 simp only[jw,Vn,zub,HR,bb,Vm,zxF];by_cases h0:a<128
 .rw[wc h0,wc h0]
 rw[x0 h0,x0 h0];by_cases h1:a/32=6
 .have h4:¬a/16=14:=J;have h8:¬a/8=30:=J;by_cases h2:b/64=2<;>by_cases h3:128<=pY a b<;>simp[h1,h2,h3,h4,h8]
 .by_cases h4:a/16=14
  .have h8:¬a/8=30:=J;by_cases h2:b/64=2<;>by_cases h5:c/64=2<;>by_cases h6:2048<=lu a b c<;>cases h7:qS (lu a b c)<;>simp[h1,h2,h4,h5,h6,h8]
  .by_cases h8:a/8=30<;>by_cases h2:b/64=2<;>by_cases h5:c/64=2<;>by_cases h9:d/64=2<;>by_cases h6:65536<=YZ a b c d<;>cases h7:qS (YZ a b c d)<;>simp[h1,h2,h4,h5,h6,h8,h9]
def Jw(ha:a<256):(qS (jv [a])=true/\JS (jv [a])=[a])↔a<128:=by
 have e:jv [a]=a:=rfl;rw[e,qN,Wu];constructor
 .rintro⟨_,h⟩
  by_cases h1:a<128
  .exact h1
  .rw[x0 h1,wc J]at h;simp at h
 .intro h;rw[wc h];exact⟨J,rfl⟩
def O8(a b:Nat):jv [a,b]=pY a b:=by rw[kZ];simp only[jv,gT,Zh,xT,yE];omega
def zyE(a b c:Nat):jv [a,b,c]=lu a b c:=by rw[ge];simp only[jv,gT,Zh,xT,yE];omega
def zvw(a b c d:Nat):jv [a,b,c,d]=YZ a b c d:=by rw[gg];simp only[jv,gT,Zh,xT,yE];omega
def Lv(ha:a<256)(hb:b<256):(qS (jv [a,b])=true/\JS (jv [a,b])=[a,b])↔a/32=6/\b/64=2/\128<=pY a b:=by
 have e:jv [a,b]=a%32*64+b%64:=by simp only[jv,gT,Zh,xT,yE];omega
 rw[e,qN,Wu,kZ];constructor
 .rintro⟨_,h⟩
  split at h
  .simp at h
  .rw[wc J]at h;simp only[qJ,and_true]at h;omega
 .rintro⟨h1,h2,h3⟩
  rw[x0 J,wc J];simp only[qJ,and_true];omega
def sk(ha:a<256)(hb:b<256)(hc:c<256):(qS (jv [a,b,c])=true/\JS (jv [a,b,c])=[a,b,c])↔a/16=14/\b/64=2/\c/64=2/\2048<=lu a b c/\qS (lu a b c)=true:=by
 have e:jv [a,b,c]=lu a b c:=by rw[ge];simp only[jv,gT,Zh,xT,yE];omega
 rw[e,Wu];constructor
 .rintro⟨hv,h⟩
  rw[ge]at h|-;split at h
  .simp at h
  .split at h
   .simp at h
   .rw[wc J]at h;simp only[qJ,and_true]at h;rw[ge]at hv;exact⟨J,J,J,J,hv⟩
 .rintro⟨h1,h2,h3,h4,hv⟩
  refine⟨hv,?_⟩;rw[ge]at h4|-;rw[x0 J,x0 J,wc J];simp only[qJ,and_true];omega
def zyc{d:Nat}(ha:a<256)(hb:b<256)(hc:c<256)(hd:d<256):(qS (jv [a,b,c,d])=true/\JS (jv [a,b,c,d])=[a,b,c,d])↔a/8=30/\b/64=2/\c/64=2/\d/64=2/\65536<=YZ a b c d/\qS (YZ a b c d)=true:=by
 have e:jv [a,b,c,d]=YZ a b c d:=by rw[gg];simp only[jv,gT,Zh,xT,yE];omega
 rw[e,Wu];constructor
 .rintro⟨hv,h⟩
  rw[gg]at h|-;split at h
  .simp at h
  .split at h
   .simp at h
   .split at h
    .simp at h
    .simp only[qJ,and_true]at h;rw[gg]at hv;exact⟨J,J,J,J,J,hv⟩
 .rintro⟨h1,h2,h3,h5,h4,hv⟩
  refine⟨hv,?_⟩;rw[gg]at h4|-;rw[x0 J,x0 J,x0 J];simp only[qJ,and_true];omega
def jD(h:jw l=(c,n))(h':¬(c=65533/\n<=1)):Qv l=some (c,n):=by
 unfold Qv;rw[h,x0 h']
def Wt(h:jw l=(65533,1)):Qv l=none:=by
 unfold Qv;rw[h,wc ⟨rfl,zS _⟩]
def aV(k n:Nat)(h:¬(n<=4/\n<=List.length l)):ZA l k n=none:=by
 cases k with
 |zero=>rfl
 |succ k=>rw[ZA,x0 h]
def Mr(hb:Byt l)(hl:l≠[]):ZA l 5 1=Qv l:=by
 match l,hb,hl with
 |[a],hb,_=>
  have ha:=hb a (by simp)
  rw[ZA,wc (by simp),yb (by simp)]
  by_cases h:a<128
  .rw[wc ((Jw ha).2 h),jD (by rw[Ga,wc h]) J];rfl
  .rw[x0 (λh'=>h ((Jw ha).1 h')),Wt (by rw[Ga,x0 h]),aV _ _ (by simp)]
 | [a,b],hb,_=>
  have ha:=hb a (by simp)
  have hb':=hb b (by simp)
  have t1:[a,b].take 1=[a]:=rfl;rw[ZA,wc (by simp),t1]
  by_cases h:a<128
  .rw[wc ((Jw ha).2 h),jD (by rw[Uv,wc h]) J];rfl
  rw[x0 (λh'=>h ((Jw ha).1 h')),ZA,wc (by simp),yb (by simp)]
  by_cases h2:a/32=6/\b/64=2/\128<=pY a b
  .rw[wc ((Lv ha hb').2 h2),jD (c:=pY a b) (n:=2) (by rw[Uv,x0 h,wc h2]) J]
   rw[O8]
  .rw[x0 (λh'=>h2 ((Lv ha hb').1 h')),Wt (by rw[Uv,x0 h,x0 h2]),aV _ _ (by simp)]
 | [a,b,c],hb,_=>
  have ha:=hb a (by simp)
  have hb':=hb b (by simp)
  have hc:=hb c (by simp)
  have t1:[a,b,c].take 1=[a]:=rfl;have t2:[a,b,c].take (1+1)=[a,b]:=rfl;rw[ZA,wc (by simp),t1]
  by_cases h:a<128
  .rw[wc ((Jw ha).2 h),jD (by rw[Qu,wc h]) J];rfl
  rw[x0 (λh'=>h ((Jw ha).1 h')),ZA,wc (by simp),t2]
  by_cases h2:a/32=6/\b/64=2/\128<=pY a b
  .rw[wc ((Lv ha hb').2 h2),jD (c:=pY a b) (n:=2) (by rw[Qu,x0 h,wc h2]) J]
   rw[O8]
  rw[x0 (λh'=>h2 ((Lv ha hb').1 h')),ZA,wc (by simp),yb (by simp)]
  by_cases h3:a/16=14/\b/64=2/\c/64=2/\2048<=lu a b c/\qS (lu a b c)=true
  .rw[wc ((sk ha hb' hc).2 h3),jD (c:=lu a b c) (n:=3) (by rw[Qu,x0 h,x0 h2,wc h3]) J]
   rw[zyE]
  .rw[x0 (λh'=>h3 ((sk ha hb' hc).1 h')),Wt (by rw[Qu,x0 h,x0 h2,x0 h3]),aV _ _ (by simp)]
 | a::b::c::d::r,hb,_=>
  have ha:=hb a (by simp)
  have hb':=hb b (by simp)
  have hc:=hb c (by simp)
  have hd:=hb d (by simp)
  have t1:(a::b::c::d::r).take 1=[a]:=rfl;have t2:(a::b::c::d::r).take (1+1)=[a,b]:=rfl;have t3:(a::b::c::d::r).take (1+1+1)=[a,b,c]:=rfl;have t4:(a::b::c::d::r).take (1+1+1+1)=[a,b,c,d]:=rfl;rw[ZA,wc (by simp),t1]
  by_cases h:a<128
  .rw[wc ((Jw ha).2 h),jD (by rw[Yr,wc h]) J];rfl
  rw[x0 (λh'=>h ((Jw ha).1 h')),ZA,wc (by simp),t2]
  by_cases h2:a/32=6/\b/64=2/\128<=pY a b
  .rw[wc ((Lv ha hb').2 h2),jD (c:=pY a b) (n:=2) (by rw[Yr,x0 h,wc h2]) J]
   rw[O8]
  rw[x0 (λh'=>h2 ((Lv ha hb').1 h')),ZA,wc (by simp),t3]
  by_cases h3:a/16=14/\b/64=2/\c/64=2/\2048<=lu a b c/\qS (lu a b c)=true
  .rw[wc ((sk ha hb' hc).2 h3),jD (c:=lu a b c) (n:=3) (by rw[Yr,x0 h,x0 h2,wc h3]) J]
   rw[zyE]
  rw[x0 (λh'=>h3 ((sk ha hb' hc).1 h')),ZA,wc (by simp),t4]
  by_cases h4:a/8=30/\b/64=2/\c/64=2/\d/64=2/\65536<=YZ a b c d/\qS (YZ a b c d)=true
  .rw[wc ((zyc ha hb' hc hd).2 h4),jD (c:=YZ a b c d) (n:=4) (by rw[Yr,x0 h,x0 h2,x0 h3,wc h4]) J]
   rw[zvw]
  .rw[x0 (λh'=>h4 ((zyc ha hb' hc hd).1 h')),Wt (by rw[Yr,x0 h,x0 h2,x0 h3,x0 h4]),aV _ _ (by simp)]
def zwC(h:a<256):uc .and .u8 (.ofNat a) .u8 (.ofNat 31)=some (.int .u8 (.ofNat (a%32))):=by
 have:∀a,a<256->bits .and .u8 (.ofNat a) (.ofNat 31)=some (.ofNat (a%32)):=by decide+kernel
 show (match bits .and .u8 (.ofNat a) (.ofNat 31)with|some n=>some (Z.int .u8 n)|none=>none)=_
 rw[this a h]
def zwB(h:a<256):uc .and .u8 (.ofNat a) .u8 (.ofNat 15)=some (.int .u8 (.ofNat (a%16))):=by
 have:∀a,a<256->bits .and .u8 (.ofNat a) (.ofNat 15)=some (.ofNat (a%16)):=by decide+kernel
 show (match bits .and .u8 (.ofNat a) (.ofNat 15)with|some n=>some (Z.int .u8 n)|none=>none)=_
 rw[this a h]
def RH(h:a<256):uc .and .u8 (.ofNat a) .u8 (.ofNat 7)=some (.int .u8 (.ofNat (a%8))):=by
 have:∀a,a<256->bits .and .u8 (.ofNat a) (.ofNat 7)=some (.ofNat (a%8)):=by decide+kernel
 show (match bits .and .u8 (.ofNat a) (.ofNat 7)with|some n=>some (Z.int .u8 n)|none=>none)=_
 rw[this a h]
def EE(h:a<256):uc .and .u8 (.ofNat a) .u8 (.ofNat 63)=some (.int .u8 (.ofNat (a%64))):=by
 have:∀a,a<256->bits .and .u8 (.ofNat a) (.ofNat 63)=some (.ofNat (a%64)):=by decide+kernel
 show (match bits .and .u8 (.ofNat a) (.ofNat 63)with|some n=>some (Z.int .u8 n)|none=>none)=_
 rw[this a h]
def RJ(h:a<256):uc .andNot .i32 (.ofNat a) .i32 (.negSucc 0)=some (.int .i32 (.ofNat 0)):=by
 have:∀a,a<256->bits .andNot .i32 (.ofNat a) (.negSucc 0)=some (.ofNat 0):=by decide+kernel
 show (match bits .andNot .i32 (.ofNat a) (.negSucc 0)with|some n=>some (Z.int .i32 n)|none=>none)=_
 rw[this a h]
def zvG:uc .and .i32 (.ofNat 65533) .i32 (.negSucc 0)=some (.int .i32 (.ofNat 65533)):=by
 have:bits .and .i32 (.ofNat 65533) (.negSucc 0)=some (.ofNat 65533):=by decide+kernel
 show (match bits .and .i32 (.ofNat 65533) (.negSucc 0)with|some n=>some (Z.int .i32 n)|none=>none)=_
 rw[this]
def zvq:uc .shl .i32 (.ofNat 241) .u64 (.ofNat 31)=some (.int .i32 (.negSucc 2147483647)):=by
 have:vK .i32 (z6 241*2^(min (z6 31).toNat (IntKind.bits .i32)))=.negSucc 2147483647:=by decide+kernel
 show some (Z.int .i32 _)=_;rw[this]
def zvt:uc .shr .i32 (.negSucc 2147483647) .u64 (.ofNat 31)=some (.int .i32 (.negSucc 0)):=by
 have:(Int.negSucc 2147483647).fdiv (2^(min (z6 31).toNat (IntKind.bits .i32)))=.negSucc 0:=by decide+kernel
 show some (Z.int .i32 _)=_;rw[this]
theorem zzu(a:Nat):uc .shr .u8 (.ofNat a) .u64 (.ofNat 4)=some (.int .u8 (.ofNat (a/16))):=by
 show some (Z.int .u8 (Int.fdiv (.ofNat a) (.ofNat 16)))=_;cases a<;>rfl
theorem zwb(a:Nat):uc .shl .i32 (.ofNat a) .u64 (.ofNat 6)=some (.int .i32 (vK .i32 (.ofNat (a*64)))):=rfl
theorem zyC(a:Nat):uc .shl .i32 (.ofNat a) .u64 (.ofNat 12)=some (.int .i32 (vK .i32 (.ofNat (a*4096)))):=rfl
theorem zvr(a:Nat):uc .shl .i32 (.ofNat a) .u64 (.ofNat 18)=some (.int .i32 (vK .i32 (.ofNat (a*262144)))):=rfl
theorem Eu(h:n<2147483648):IntKind.wrap .i32 ((n:Nat):Int)=.ofNat n:=by
 have h1:((n:Nat):Int)%(2^IntKind.bits .i32:Int)=(n:Int):=by
  show (n:Int)%4294967296=_;omega
 have h2:¬((n:Nat):Int)>=(2^(IntKind.bits .i32-1):Int):=by
  show ¬(n:Int)>=2147483648;omega
 unfold IntKind.wrap;simp only[h1,h2,decide_false,Bool.and_false,Bool.false_eq_true,if_false];rfl
def orN(h:a<16777216)(h':b<16777216):uc .or .i32 (.ofNat a) .i32 (.ofNat b)=some (.int .i32 (.ofNat (a|||b))):=by
 have e:∀n,n<16777216->BitVec.ofInt 32 (z6 n)=BitVec.ofNat 32 n:=λn _=>rfl;have hor:a|||b<16777216:=Nat.or_lt_two_pow (n:=24) h h'
 have:bits .or .i32 (.ofNat a) (.ofNat b)=some (.ofNat (a|||b)):=by
  show some (IntKind.wrap .i32 _)=_
  congr 1
  have:((BitVec.ofInt (IntKind.bits .i32) (z6 a))|||(BitVec.ofInt (IntKind.bits .i32) (z6 b))).toNat=a|||b:=by
   show ((BitVec.ofNat 32 a)|||(BitVec.ofNat 32 b)).toNat=_
   rw[BitVec.toNat_or,BitVec.toNat_ofNat,BitVec.toNat_ofNat,Nat.mod_eq_of_lt J,Nat.mod_eq_of_lt J]
  rw[this];exact Eu J
 show (match bits .or .i32 (.ofNat a) (.ofNat b)with|some n=>some (Z.int .i32 n)|none=>none)=_
 rw[this]
def or2(h:b<64):a*64|||b=a*64+b:=by
 have:=zv8 (i:=6) h a;rw[yL a 64];exact this.symm
def zw6(h:b<64):a*4096|||b*64=a*4096+b*64:=by
 have e1:=zv8 (i:=12) (b:=b*64) J a;rw[yL a 4096];exact e1.symm
def zw7(h:c<64):(a*4096+b*64)|||c=a*4096+b*64+c:=by
 have:=or2 (a:=a*64+b) h;rw[show (a*64+b)*64=a*4096+b*64 by omega]at this;exact this
def zvP(h:b<64):a*262144|||b*4096=a*262144+b*4096:=by
 have e1:=zv8 (i:=18) (b:=b*4096) J a;rw[yL a 262144];exact e1.symm
def zw8(h:c<64):(a*262144+b*4096)|||c*64=a*262144+b*4096+c*64:=by
 have:=zw6 (a:=a*64+b) h;rw[show (a*64+b)*4096=a*262144+b*4096 by omega]at this;exact this
def zw9{d:Nat}(h:d<64):(a*262144+b*4096+c*64)|||d=a*262144+b*4096+c*64+d:=by
 have:=or2 (a:=a*4096+b*64+c) h;rw[show (a*4096+b*64+c)*64=a*262144+b*4096+c*64 by omega]at this;exact this
def lJ(c:Nat):Nat:=if c<128 then 240 else if c<194 then 241 else if c<224 then 2 else if c=224 then 19 else if c<237 then 3 else if c=237 then 35 else if c<240 then 3 else if c=240 then 52 else if c<244 then 4 else if c=244 then 68 else 241
def u8V(v:zv)(n:Nat):Bool:=match v with
 |some (.int .u8 (.ofNat m))=>Nat.beq m n
 |_=>false
def zwn{v:zv}(h:u8V v n=true):v=some (.int .u8 (.ofNat n)):=by
 unfold u8V at h;split at h
 .rw[wH.1 h]
 .cases h
theorem s9(h:c<256)(s:U):vLd env.globs s (.gptr 0 c)=some (.int .u8 (.ofNat (lJ c))):=by
 have key:(List.range 256).all (λc=>u8V (vLd env.globs s0 (.gptr 0 c)) (lJ c))=true:=by decide+kernel
 have:=zwn (List.all_eq_true.1 key c (List.mem_range.2 h));rw[<-this];rfl
def ta(s:U):Wm env.globs s 2 (.gptr 1 0)=some (.agg [.int .u8 (.ofNat 128),.int .u8 (.ofNat 191)])/\Wm env.globs s 2 (.gptr 1 2)=some (.agg [.int .u8 (.ofNat 160),.int .u8 (.ofNat 191)])/\Wm env.globs s 2 (.gptr 1 4)=some (.agg [.int .u8 (.ofNat 128),.int .u8 (.ofNat 159)])/\Wm env.globs s 2 (.gptr 1 6)=some (.agg [.int .u8 (.ofNat 144),.int .u8 (.ofNat 191)])/\Wm env.globs s 2 (.gptr 1 8)=some (.agg [.int .u8 (.ofNat 128),.int .u8 (.ofNat 143)]):=
 ⟨rfl,rfl,rfl,rfl,rfl⟩
theorem cj{esz g off:Nat}{k:IntKind}(h:i<n):iM n esz (.gptr g off) (.int k (.ofNat i))=some (.gptr g (off+i*esz)):=by
 simp only[iM,GQ k h];rfl
def kB(l:zr):Z:=.tup [.int .i32 (.ofNat (jw l).1),.int .i64 (.ofNat (jw l).2)]
def K9(l:zr):wC (kB l)=true:=by simp only[kB,uD,ww,qL,wA,xO]
theorem dl4{d:Nat}{v:Nat×Nat}(h:jw (a::b::c::d::r)=v:=by (rw[Yr];(repeat' split);all_goals first|rfl|(exfalso;(try simp only[kZ,ge,gg,qN]at *);omega))):kB (a::b::c::d::r)=.tup [.int .i32 (.ofNat v.1),.int .i64 (.ofNat v.2)]:=by subst h;rfl
theorem dl3{v:Nat×Nat}(h:jw [a,b,c]=v:=by (rw[Qu];(repeat' split);all_goals first|rfl|(exfalso;(try simp only[kZ,ge,gg,qN]at *);omega)))(h4:∀d s,r=d::s->jw (a::b::c::d::s)=v:=by (intros;first|contradiction|(rw[Yr];(repeat' split);all_goals first|rfl|(exfalso;(try simp only[kZ,ge,gg,qN]at *);omega)))):kB (a::b::c::r)=.tup [.int .i32 (.ofNat v.1),.int .i64 (.ofNat v.2)]:=by
 cases r with
 |nil=>subst h;rfl
 |cons d s=>exact h4 d s rfl▸rfl
theorem dl2{v:Nat×Nat}(h:jw [a,b]=v:=by (rw[Uv];(repeat' split);all_goals first|rfl|(exfalso;(try simp only[kZ,ge,gg,qN]at *);omega)))(h3:∀c s,r=c::s->kB (a::b::c::s)=.tup [.int .i32 (.ofNat v.1),.int .i64 (.ofNat v.2)]:=by (intros;first|contradiction|exact dl3)):kB (a::b::r)=.tup [.int .i32 (.ofNat v.1),.int .i64 (.ofNat v.2)]:=by
 cases r with
 |nil=>subst h;rfl
 |cons d s=>exact h3 d s rfl
theorem dl1{v:Nat×Nat}(h:jw [a]=v:=by (rw[Ga];(repeat' split);all_goals first|rfl|(exfalso;(try simp only[kZ,ge,gg,qN]at *);omega)))(h2:∀c s,r=c::s->kB (a::c::s)=.tup [.int .i32 (.ofNat v.1),.int .i64 (.ofNat v.2)]:=by (intros;first|contradiction|exact dl2)):kB (a::r)=.tup [.int .i32 (.ofNat v.1),.int .i64 (.ofNat v.2)]:=by
 cases r with
 |nil=>subst h;rfl
 |cons d s=>exact h2 d s rfl
attribute [local go_sem] gh cj RH zzu zvq zvt RJ zvG orN Nat.zero_or in
def OP(B:Bx P X)(hO:OrcOk P X O)(b0:Nat)(r:zr)(hb:Byt (b0::r))(hc:128<=b0/\(b0<194\/244<b0))(hlen:(b0::r).length<2000000):
  SC P X 211 (gh (b0::r)) (H [] 0 true) (kB (b0::r)) (H [] 0 true):=by
 refine Is.sc hO B.mixed B.glob B.env 0 (show env.funs.get 211=some f211 from rfl) (zv4 rfl) jN λC k=>?_;have h0:b0<256:=hb b0 (by simp)
 have hx:lJ b0=241:=by
  unfold lJ
  repeat' split
  all_goals omega
 have hl2:=λs=>s9 (c:=b0) h0 s;rw[hx]at hl2;have hl3:=λs=>ta s;unfold f211 cF;simp only[Ko];rw[dl1 (v:=(65533,1))];apply k.z;exact fin
attribute [local go_sem] gh cj RH zzu zwC EE zwb orN or2 kZ in
def OQ(B:Bx P X)(hO:OrcOk P X O)(b0:Nat)(r:zr)(hb:Byt (b0::r))(hc:128<=b0/\(194<=b0/\b0<224))(hlen:(b0::r).length<2000000):
  SC P X 211 (gh (b0::r)) (H [] 0 true) (kB (b0::r)) (H [] 0 true):=by
 refine Is.sc hO B.mixed B.glob B.env 0 (show env.funs.get 211=some f211 from rfl) (zv4 rfl) jN λC k=>?_;have h0:b0<256:=hb b0 (by simp)
 have hx:lJ b0=2:=by
  unfold lJ
  repeat' split
  all_goals omega
 have hl2:=λs=>s9 (c:=b0) h0 s;rw[hx]at hl2;have hl3:=λs=>ta s;unfold f211 cF;simp only[Ko]
 match r,hb,hlen with
 |[],hb,hlen=>
  rw[dl1 (v:=(65533,1))];apply k.z;exact fin
 | b1::r,hb,hlen=>
  have h1:b1<256:=hb b1 (by simp)
  simp only[yw]at hlen;have hlr:r.length<2000000:=J;by_cases g1:b1<128
  case pos=>
   rw[dl2 (v:=(65533,1))];apply k.z;exact fin
  by_cases g2:191<b1
  case pos=>
   rw[dl2 (v:=(65533,1))];apply k.z;exact fin
  rw[dl2 (v:=(pY b0 b1,2))];apply k.z;exact fin
attribute [local go_sem] gh cj RH zzu zwB EE zwb zyC orN zw6 zw7 ge in
def OS(B:Bx P X)(hO:OrcOk P X O)(b0:Nat)(r:zr)(hb:Byt (b0::r))(hc:224<=b0/\b0<240)(hlen:(b0::r).length<2000000):
  SC P X 211 (gh (b0::r)) (H [] 0 true) (kB (b0::r)) (H [] 0 true):=by
 refine Is.sc hO B.mixed B.glob B.env 0 (show env.funs.get 211=some f211 from rfl) (zv4 rfl) jN λC k=>?_;have h0:b0<256:=hb b0 (by simp)
 obtain⟨x,lo,hi,hx,hq⟩:∃x lo hi,lJ b0=x/\((x=19/\lo=160/\hi=191/\b0<225)\/(x=3/\lo=128/\hi=191/\225<=b0/\(b0<237\/238<=b0))\/(x=35/\lo=128/\hi=159/\237<=b0/\b0<238)):=by
  refine⟨lJ b0,if b0<225 then 160 else 128,if 237<=b0/\b0<238 then 159 else 191,rfl,?_⟩;unfold lJ
  repeat' split
  all_goals omega
 have hl2:=λs=>s9 (c:=b0) h0 s;rw[hx]at hl2;clear hx;have hl3:=λs=>ta s;unfold f211 cF;simp only[Ko]
 match r,hb,hlen with
 |[],hb,hlen=>
  rcases hq with ⟨rfl,rfl,rfl,hq⟩|⟨rfl,rfl,rfl,hq⟩|⟨rfl,rfl,rfl,hq⟩
  all_goals rw[dl1 (v:=(65533,1))];apply k.z;exact fin
 |[b1],hb,hlen=>
  have h1:b1<256:=hb b1 (by simp)
  rcases hq with ⟨rfl,rfl,rfl,hq⟩|⟨rfl,rfl,rfl,hq⟩|⟨rfl,rfl,rfl,hq⟩
  all_goals rw[dl2 (v:=(65533,1))];apply k.z;exact fin
 | b1::b2::r,hb,hlen=>
  have h1:b1<256:=hb b1 (by simp)
  have h2:b2<256:=hb b2 (by simp)
  simp only[yw]at hlen;have hlr:r.length<2000000:=J;by_cases g1:b1<lo
  rotate_left
  by_cases g2:hi<b1
  rotate_left
  by_cases g3:b2<128
  rotate_left
  by_cases g4:191<b2
  rotate_left
  rw[dl3 (v:=(lu b0 b1 b2,3))]
  rotate_left
  iterate 4 (rw[dl3 (v:=(65533,1))];rotate_left)
  all_goals
   rcases hq with ⟨rfl,rfl,rfl,hq⟩|⟨rfl,rfl,rfl,hq⟩|⟨rfl,rfl,rfl,hq⟩
   all_goals refine k.z ?_;exact fin
attribute [local go_sem] gh cj RH zzu EE zwb zyC zvr orN zvP zw8 zw9 gg in
def OT(B:Bx P X)(hO:OrcOk P X O)(b0:Nat)(r:zr)(hb:Byt (b0::r))(hc:240<=b0/\b0<245)(hlen:(b0::r).length<2000000):
  SC P X 211 (gh (b0::r)) (H [] 0 true) (kB (b0::r)) (H [] 0 true):=by
 refine Is.sc hO B.mixed B.glob B.env 0 (show env.funs.get 211=some f211 from rfl) (zv4 rfl) jN λC k=>?_;have h0:b0<256:=hb b0 (by simp)
 obtain⟨x,lo,hi,hx,hq⟩:∃x lo hi,lJ b0=x/\((x=52/\lo=144/\hi=191/\b0<241)\/(x=4/\lo=128/\hi=191/\241<=b0/\b0<244)\/(x=68/\lo=128/\hi=143/\244<=b0)):=by
  refine⟨lJ b0,if b0<241 then 144 else 128,if 244<=b0 then 143 else 191,rfl,?_⟩;unfold lJ
  repeat' split
  all_goals omega
 have hl2:=λs=>s9 (c:=b0) h0 s;rw[hx]at hl2;clear hx;have hl3:=λs=>ta s;unfold f211 cF;simp only[Ko]
 match r,hb,hlen with
 |[],hb,hlen=>
  rcases hq with ⟨rfl,rfl,rfl,hq⟩|⟨rfl,rfl,rfl,hq⟩|⟨rfl,rfl,rfl,hq⟩
  all_goals rw[dl1 (v:=(65533,1))];apply k.z;exact fin
 |[b1],hb,hlen=>
  have h1:b1<256:=hb b1 (by simp)
  rcases hq with ⟨rfl,rfl,rfl,hq⟩|⟨rfl,rfl,rfl,hq⟩|⟨rfl,rfl,rfl,hq⟩
  all_goals rw[dl2 (v:=(65533,1))];apply k.z;exact fin
 |[b1,b2],hb,hlen=>
  have h1:b1<256:=hb b1 (by simp)
  have h2:b2<256:=hb b2 (by simp)
  rcases hq with ⟨rfl,rfl,rfl,hq⟩|⟨rfl,rfl,rfl,hq⟩|⟨rfl,rfl,rfl,hq⟩
  all_goals rw[dl3 (v:=(65533,1))];apply k.z;exact fin
 | b1::b2::b3::r,hb,hlen=>
  have h1:b1<256:=hb b1 (by simp)
  have h2:b2<256:=hb b2 (by simp)
  have h3:b3<256:=hb b3 (by simp)
  simp only[yw]at hlen;have hlr:r.length<2000000:=J;by_cases g1:b1<lo
  rotate_left
  by_cases g2:hi<b1
  rotate_left
  by_cases g3:b2<128
  rotate_left
  by_cases g4:191<b2
  rotate_left
  by_cases g5:b3<128
  rotate_left
  by_cases g6:191<b3
  rotate_left
  rw[dl4 (v:=(YZ b0 b1 b2 b3,4))]
  rotate_left
  iterate 6 (rw[dl4 (v:=(65533,1))];rotate_left)
  all_goals
   rcases hq with ⟨rfl,rfl,rfl,hq⟩|⟨rfl,rfl,rfl,hq⟩|⟨rfl,rfl,rfl,hq⟩
   all_goals refine k.z ?_;exact fin
def zzw(B:Bx P X)(hO:OrcOk P X O)(b0:Nat)(r:zr)(hb:Byt (b0::r))(hc:128<=b0)(hlen:(b0::r).length<2000000):
  SC P X 211 (gh (b0::r)) (H [] 0 true) (kB (b0::r)) (H [] 0 true):=by
 have h0:b0<256:=hb b0 (by simp)
 by_cases c1:b0<194\/244<b0
 .exact OP B hO b0 r hb ⟨hc,c1⟩ hlen
 by_cases c2:b0<224
 .exact OQ B hO b0 r hb ⟨hc,J,c2⟩ hlen
 by_cases c5:b0<240
 .exact OS B hO b0 r hb ⟨J,c5⟩ hlen
 exact OT B hO b0 r hb ⟨J,J⟩ hlen
def RD(l:zr):Prop:=∃b0 r,l=b0::r/\Byt l/\128<=b0/\zM l<2000000
def eE:zt->U->zb:=vw gh RD kB
def DN(h:O 211=some eE){b0:Nat}(hb:Byt (b0::r))(h1:128<=b0)(h2:(b0::r).length<2000000)(e:Bool)(s:U):(evW env O).call 211 [.lst (r.length+1) e (.int .u8 (.ofNat b0)::wK r)] s=some (kB (b0::r),s):=by
 rw[qc h,eE];exact vo Xq s (b0::r) ⟨b0,r,rfl,hb,h1,h2⟩ (Vq (b0::r) e)
def zwA(l:zr):Prop:=l≠[]/\Byt l/\zM l<2000000
def gDr:zt->U->zb:=vw gh zwA kB
def Sj(h:O 196=some gDr)(h0:l≠[])(hb:Byt l)(h2:List.length l<2000000)(hn:n=List.length l)(e:Bool)(s:U):(evW env O).call 196 [.lst n e (wK l)] s=some (kB l,s):=by
 subst hn;rw[qc h,gDr,vo Xq s l ⟨h0,hb,h2⟩ (Vq l e)]
def Gb{b0:Nat}(h:b0<128)(r:zr):jw (b0::r)=(b0,1):=by
 simp only[jw,Wp,wc h]
attribute [local go_sem] gh in
def zwH(B:Bx P X)(hO:OrcOk P X O)(h117:O 211=some eE)(l:zr)(hl:l≠[])(hb:Byt l)(hlen:zM l<2000000):
  SC P X 196 (gh l) (H [] 0 true) (kB l) (H [] 0 true):=by
 refine Is.sc hO B.mixed B.glob B.env 0 (show env.funs.get 196=some f196 from rfl) (zv4 rfl) jN λC k=>?_
 match l,hl,hb,hlen with
 |b0::r,_,hb,hlen=>
 have h0:b0<256:=hb b0 (by simp)
 unfold f196 cF;simp only;apply k.q;by_cases h1:b0<128
 .rw[kB,Gb h1];apply ql;apply k.q;refine qx (ve (vE (k.ev ?_)));simp (disch:=first|exact dis|fail)only[go_sem,seval,-rO,-rN,h1]
  refine⟨_,rfl,?_⟩;simp only[wJ,ub];exact fin
 .have hs:=DN h117 (b0:=b0) (r:=r) hb J hlen;rw[kB]at hs|-;apply ql;apply k.q;refine qx (ve (vE (k.ev ?_)));simp (disch:=first|exact dis|fail)only[go_sem,seval,-rO,-rN,h1]
  refine⟨_,rfl,?_⟩;simp only[wJ,ub];apply k.z;exact fin
def Uw:∀{l:zr},l≠[]->1<=(jw l).2/\(jw l).2<=zM l/\qS (jw l).1=true
 |[],h=>absurd rfl h
 |[a],_=>by
  rw[Ga];split
  .exact⟨zS _,by simp,qN.2 J⟩
  .exact⟨zS _,by simp,rfl⟩
 | [a,b],_=>by
  rw[Uv];split
  .exact⟨zS _,by simp,qN.2 (by simp only;omega)⟩
  .split
   .exact⟨by simp,by simp,qN.2 (by simp only[kZ];omega)⟩
   .exact⟨zS _,by simp,rfl⟩
 | [a,b,c],_=>by
  rw[Qu];split
  .exact⟨zS _,by simp,qN.2 (by simp only;omega)⟩
  .split
   .exact⟨by simp,by simp,qN.2 (by simp only[kZ];omega)⟩
   .split
    .rename_i h;exact⟨by simp,by simp,h.2.2.2.2⟩
    .exact⟨zS _,by simp,rfl⟩
 | a ::b::c::d::r,_=>by
  rw[Yr];simp only[yw];split
  .exact⟨zS _,by simp only;omega,qN.2 (by simp only;omega)⟩
  .split
   .exact⟨by simp,by simp only;omega,qN.2 (by simp only[kZ];omega)⟩
   .split
    .rename_i h;exact⟨by simp,by simp only;omega,h.2.2.2.2⟩
    .split
     .rename_i h;exact⟨by simp,by simp only;omega,h.2.2.2.2.2⟩
     .exact⟨zS _,by simp only;omega,rfl⟩
def WT(b:zr):Nat->Nat->zg->Sum zg Nat
 |0,i,_=>.inr i
 |k+1,i,acc=>if (zM b)<=i then .inl acc else match Qv (b.drop i)with
  |none=>.inr i
  |some p=>WT b k (i+p.2) (acc++[(p.1,i)])
def ue(l:zg):zt:=xW (λp:Nat×Nat=>[Z.int .i64 (.ofNat p.1),.int .i64 (.ofNat p.2)]) l
def vx(l:zg):wo (ue l)=true:=wI (λp=>by simp only[ww,qL,wA,xO]) l
def Lr(l:zg):wkL (ue l)=ue l:=vT (λp=>rfl) l
def Uq(l:zg)(p:Nat×Nat):ue (l++[p])=ue l++[.int .i64 (.ofNat p.1),.int .i64 (.ofNat p.2)]:=by unfold ue;rw[wQ,vh]
theorem jg(p:Nat×Nat)(l:zg):ue (p::l)=.int .i64 (.ofNat p.1)::.int .i64 (.ofNat p.2)::ue l:=rfl
theorem pB:ue []=[]:=rfl
def WS(Y:Nat)(acc:zg):Z:=match acc with
 |[]=>.nils
 |t::r=>.gr Y 2 (t::r).length (ue (t::r))
def lM(ty:Nat)(acc:zg):zi:=match acc with
 |[]=>[]
 |t::r=>[some (.app ty (ue (t::r)))]
theorem td{l:za}{n m Y pos:Nat}{md:Bool}{t:zr}{x:Nat}{r:zr}(hg:x3 l Y=some (.siter t pos))(hd:t.drop pos=x::r):
  oNs (KL l n m md) (.ptr Y 0)=some (.tup [.bool true,.int .i64 (.ofNat pos),.int .i32 (.ofNat (jw (x::r)).1)],KL ((Y,some (.siter t (pos+(jw (x::r)).2)))::l) n (kr m Y) md):=by
 simp only[oNs,wM,hg,pE,hd,kJ];rfl
def M5{l:za}{n m Y pos:Nat}{md:Bool}{t:zr}(hg:x3 l Y=some (.siter t pos))(hd:t.drop pos=[]):
  oNs (KL l n m md) (.ptr Y 0)=some (.tup [.bool false],KL l n m md):=by
 simp only[oNs,wM,hg,pE,hd]
theorem tg(l:za)(n m:Nat)(md:Bool)(t:zr):oRs (KL l n m md) (.str t)=some (.ptr n 0,KL ((n,some (.siter t 0))::l) (n+1) m md):=rfl
def ah(b:zr):Z:=match WT b (zM b+1) 0 []with
 |.inl l=>.tup [.lst (zM l) false (ue l),.agg [.int .i64 (.ofNat 0),.int .i64 (.ofNat 0)]]
 |.inr i=>.tup [.lst 0 false [],.agg [.int .i64 (.ofNat 4),.int .i64 (.ofNat i)]]
def AM(b:zr):wC (ah b)=true:=by
 unfold ah;split<;>simp only[uD,ww,qn,uC,qL,wA,xO]
def lF(b:zr):Prop:=Byt b/\zM b<2000000
def Tm:zt->U->zb:=vw gh lF ah
def ED(h:O 175=some Tm)(hb:Byt l)(h2:List.length l<2000000)(hn:n=List.length l)(e:Bool)(s:U):(evW env O).call 175 [.lst n e (wK l)] s=some (ah l,s):=by
 subst hn;rw[qc h,Tm,vo Xq s l ⟨hb,h2⟩ (Vq l e)]
def Vb{b:zr}:∀{k i:Nat} {acc l:zg},zM acc<=i->i<=zM b->WT b k i acc=.inl l->zM l<=zM b
 |0,_,_,_,_,_,h=>by cases h
 | k+1,i,acc,l,h1,h2,h=>by
  rw[WT]at h;split at h
  .cases h;omega
  .split at h
   .cases h
   .rename_i p hp
    have hne:b.drop i≠[]:=λhe=>by have:=congrArg zM he;rw[zv5]at this;simp at this;omega
    unfold Qv at hp;split at hp
    .cases hp
    .cases hp;have:=Uw hne;rw[zv5]at this;exact Vb (by simp;omega) J h
attribute [local go_sem] gh Lp tg WS lM f197 pB Lr in
def zyK(B:Bx P X)(hO:OrcOk P X O)(o101:O 197=none)(h100:O 196=some gDr)(b:zr)(hb:Byt b)(hlen:zM b<2000000):
  SC P X 175 (gh b) (H [] 0 true) (ah b) (H [] 0 true):=by
 refine Is.sc hO B.mixed B.glob B.env 0 (show env.funs.get 175=some f175 from rfl) (zv4 rfl) jN λC k=>?_;have cw:= @jn env O _ _ o101 (show env.funs.get 197=some f197 from rfl) rfl;unfold f175 cF;simp only;apply k.q;apply k.q;refine HF (λl=>WT b (zM b+1) 0 []=.inl l) (λl=>⟨tmL [(4,WS 1 l),(3,.ptr 0 0)],[]⟩) (λl=>H ([some (.row 211 [.int .i64 (.ofNat 0),.int .i64 (.ofNat 0)])]++lM 214 l) 0 true) ?_ ?_
 .apply k.q;refine qx (ve (k.gcL [0,1] [11,4,3,0] true (fr1:=⟨tmL [(11,.ptr 1 0),(4,WS 2 []),(3,.ptr 0 0),(0,.lst (zM b) false (wK b))],[]⟩) (s1:=H ([some (.row 211 [.int .i64 (.ofNat 0),.int .i64 (.ofNat 0)]),some (.siter b 0)]++lM 214 []) 0 true) (by simp (disch:=first|exact dis|fail)only[go_sem,seval,-rO,-rN,WS,lM]) ?_))
  refine jd (λx:Nat×Nat×zg=>x.1) (λx=>⟨tmL [(11,.ptr 1 0),(4,WS 2 x.2.2),(3,.ptr 0 0),(0,.lst (zM b) false (wK b))],[]⟩) (λx=>H ([some (.row 211 [.int .i64 (.ofNat 0),.int .i64 (.ofNat 0)]),some (.siter b x.2.1)]++lM 214 x.2.2) 0 true) (λx=>WT b x.1 x.2.1 x.2.2=WT b (zM b+1) 0 []/\zM b<x.1+x.2.1/\x.2.1<=zM b/\zM x.2.2<=x.2.1) (λx hx=>?_) (zM b+1,0,[]) ⟨rfl,by simp only;omega,yh _,by simp⟩
  obtain⟨kk,i,acc⟩:=x;obtain⟨g1,g2,g3,g4⟩:=hx;simp only at g1 g2 g3 g4|-;cases kk with
  |zero=>omega
  |succ kk=>
  rw[WT]at g1;rcases wj b i with ⟨hi,hd⟩|⟨y,hi,hd⟩
  .rw[wc hi]at g1;have hns:=λl n m hg=> @M5 l n m 1 i true b hg hd;cases acc with
   |nil=>
    apply k.z;simp only[Gcx];refine⟨[],g1.symm,?_⟩;exact k.g [0] [4,3]
   |cons a0 ar=>
    have hp1:=vx (a0::ar);apply k.z;simp only[Gcx];refine⟨a0::ar,g1.symm,?_⟩;exact k.g [0,2] [4,3]
  .rw [x0 J,hd]at g1;have hns:=λl n m hg=> @td l n m 1 i true b y _ hg hd;have hsz:=Uw (l:=y::b.drop (i+1)) (by simp)
   have hsl:(y::b.drop (i+1)).length=zM b-i:=by rw[<-hd,zv5]
   rw[hsl]at hsz;have hbd:Byt (y::b.drop (i+1)):=by rw[<-hd];exact hb.drop i
   have hdr:=λe s=>Sj (O:=O) h100 (l:=b.drop i) (by rw[hd];simp) (hb.drop i) (by rw[zv5];omega) (n:=zM b-i) (by rw[zv5]) e s
   simp only[kB,hd,wK]at hdr;have hc1:=(qN.1 hsz.2.2).1;revert hns hsz hc1 hdr g1;generalize hdl:jw (y::b.drop (i+1))=D;obtain⟨c,sz⟩:=D;intro g1 hns hsz hdr hc1;simp only at hns hsz hdr hc1;by_cases h1:c=65533
   .subst h1;by_cases h2:sz<=1
    .have hR:Qv (y::b.drop (i+1))=none:=by unfold Qv;rw[hdl,wc ⟨rfl,h2⟩]
     rw[hR]at g1;simp only at g1;simp only[ah,<-g1];cases acc with
     |nil=>
      apply k.z;exact fin
     |cons a0 ar=>
      have hp1:=vx (a0::ar);apply k.z;exact fin
    .have hR:Qv (y::b.drop (i+1))=some (65533,sz):=by unfold Qv;rw[hdl,x0 (λh=>h2 h.2)]
     rw[hR]at g1;simp only at g1;cases acc with
     |nil=>
      apply k.z;refine⟨(kk,i+sz,[]++[(65533,i)]),⟨g1,by simp only;omega,by simp only;omega,by simp;omega⟩,yx _,?_⟩
      refine k.gcs (keep:=[0,1,2]) (live:=[11,4,3,0]) (md:=true) ?_;simp (disch:=first|exact dis|fail)only[go_sem,seval,-rO,-rN,WS,lM,jg,pB]
     |cons a0 ar=>
      have hp1:=vx (a0::ar);simp only[yw]at g4;apply k.z;refine⟨(kk,i+sz,(a0::ar)++[(65533,i)]),⟨g1,by simp only;omega,by simp only;omega,by simp;omega⟩,yx _,?_⟩
      refine k.gcs (keep:=[0,1,3]) (live:=[11,4,3,0]) (md:=true) ?_;simp only[yd,WS,lM,jg,Uq,yO,yw,xN];simp (disch:=first|exact dis|fail)only[go_sem,seval,-rO,-rN,vx]
   .have hR:Qv (y::b.drop (i+1))=some (c,sz):=by unfold Qv;rw[hdl,x0 (λh=>h1 h.1)]
    rw[hR]at g1;simp only at g1;cases acc with
    |nil=>
     apply k.z;refine⟨(kk,i+sz,[]++[(c,i)]),⟨g1,by simp only;omega,by simp only;omega,by simp;omega⟩,yx _,?_⟩
     refine k.gcs (keep:=[0,1,2]) (live:=[11,4,3,0]) (md:=true) ?_;simp (disch:=first|exact dis|fail)only[go_sem,seval,-rO,-rN,WS,lM,jg,pB]
    |cons a0 ar=>
     have hp1:=vx (a0::ar);simp only[yw]at g4;apply k.z;refine⟨(kk,i+sz,(a0::ar)++[(c,i)]),⟨g1,by simp only;omega,by simp only;omega,by simp;omega⟩,yx _,?_⟩
     refine k.gcs (keep:=[0,1,3]) (live:=[11,4,3,0]) (md:=true) ?_;simp only[yd,WS,lM,jg,Uq,yO,yw,xN];simp (disch:=first|exact dis|fail)only[go_sem,seval,-rO,-rN,vx]
 .intro l hl;simp only[ah,hl];cases l with
  |nil=>
   apply k.z;exact fin
  |cons a0 ar=>
   have hp1:=vx (a0::ar);apply k.z;exact fin
def jp(l:zr):zt:=xW (λn:Nat=>[Z.int .i64 (.ofNat n)]) l
def ji(l:zr):wo (jp l)=true:=wI (λp=>by simp only[ww,qL,wA,xO]) l
def Lu(l:zr):wkL (jp l)=jp l:=vT (λp=>rfl) l
def Lt(l:zr)(p:Nat):jp (l++[p])=jp l++[.int .i64 (.ofNat p)]:=by unfold jp;rw[wQ,vh]
theorem Zb(p:Nat)(l:zr):jp (p::l)=.int .i64 (.ofNat p)::jp l:=rfl
theorem Yo:jp []=[]:=rfl
def dv(i:Nat)(l:zr):wX i (jp l)=jp (l.drop i):=by
 have:=uo (f:=λn:Nat=>[Z.int .i64 (.ofNat n)]) (k:=1) (λ_=>rfl) i l;rw[Nat.mul_one]at this;exact this
def Jq(i:Nat)(l:zg):wX (i*2) (ue l)=ue (l.drop i):=uo (k:=2) (λ_=>rfl) i l
def gJ(Y:Nat)(acc:zr):Z:=match acc with
 |[]=>.nils
 |t::r=>.gr Y 1 (t::r).length (jp (t::r))
def uP(ty:Nat)(acc:zr):zi:=match acc with
 |[]=>[]
 |t::r=>[some (.app ty (jp (t::r)))]
def vP(b:zr):Option zr:=match WT b (zM b+1) 0 []with
 |.inl l=>some (l.map (·.1))
 |.inr _=>none
def jH(b:zr):Z:=match vP b with
 |some l=>.tup [.lst (zM l) false (jp l),.int .i64 (.ofNat 0)]
 |none=>.tup [.lst 0 false [],.int .i64 (.ofNat 4)]
def Ju(b:zr):wC (jH b)=true:=by
 unfold jH;split<;>simp only[uD,ww,qn,qL,wA,xO]
def kh(s:zr):zt:=[.str s]
def pH:∀x y,kh x=kh y->x=y:=λx y h=>by
 simp only[kh,qJ,Z.str.injEq,and_true]at h;exact h
def kR(l:zr):wo (kh l)=true:=by simp only[kh,ww,pm,wA,xO]
def XQ:zt->U->zb:=vw kh lF jH
def Yq(h:O f=some XQ)(hb:Byt l)(h2:List.length l<2000000)(s:U):(evW env O).call f [.str l] s=some (jH l,s):=by
 rw[qc h,XQ,vo pH s l ⟨hb,h2⟩ rfl]
def Fo(B:Bx P X)(hO:OrcOk P X O)(h83:O 175=some Tm)(b:zr)(hb:Byt b)(hlen:zM b<2000000):
  SC P X 147 (kh b) (H [] 0 true) (jH b) (H [] 0 true):=by
 refine Is.sc hO B.mixed B.glob B.env 0 (show env.funs.get 147=some f147 from rfl) (zv4 rfl) jN λC k=>?_;have hall:=λe s=>ED h83 hb hlen rfl e s;unfold f147 cF;simp only;refine ql (k.eval (by simp (disch:=first|exact dis|fail)only[go_sem,seval,-rO,-rN,kh];exact rfl) ?_)
 simp only[wJ];cases hA:WT b (zM b+1) 0 []with
 |inr i=>
  simp only[jH,vP,hA];simp only[ah,hA]at hall;refine k.eval (by simp (disch:=first|exact dis|fail)only[go_sem,seval,-rO,-rN,hall];exact rfl) ?_
  try simp only[wJ,ub,Cut,if_true]
  apply Zz (Or.inr rfl)
  iterate 5 (simp (disch:=first|exact dis|fail)only[go_sem,seval,-rO,-rN]<;>exact rfl)
 | inl l=>
  have hl:=Vb (by simp) (by simp) hA
  simp only[jH,vP,hA];simp only[ah,hA]at hall;refine ql (k.eval (by simp (disch:=first|exact dis|fail)only[go_sem,seval,-rO,-rN,hall];exact rfl) ?_)
  simp only[wJ];refine ql (k.eval (by simp (disch:=first|exact dis|fail)only[go_sem,seval,-rO,-rN];exact rfl) ?_)
  simp only[wJ];refine ql (k.eval (by simp (disch:=first|exact dis|fail)only[go_sem,seval,-rO,-rN];exact rfl) ?_)
  simp only[wJ];refine WO ⟨tmL [(6,gJ 0 (l.map (·.1)))],[]⟩ (H (uP 3 (l.map (·.1))) 0 true) ?_ ?_
  ·
   refine ql (k.eval (by simp (disch:=first|exact dis|fail)only[go_sem,seval,-rO,-rN];exact rfl) ?_)
   simp only[wJ];refine qx (ve (k.gcL [] [22,21,20,6] true (fr1:=⟨tmL [(22,.int .i64 (.ofNat 0)),(21,.int .i64 (.ofNat (zM l))),(20,.lst (zM l) false (ue l)),(6,gJ 0 [])],[]⟩) (s1:=H (uP 3 []) 0 true) (by simp (disch:=first|exact dis|fail)only[go_sem,seval,-rO,-rN,gJ,uP]) ?_))
   refine jd (λx:Nat×zr=>zM l-x.1) (λx=>⟨tmL [(22,.int .i64 (.ofNat x.1)),(21,.int .i64 (.ofNat (zM l))),(20,.lst (zM l) false (ue l)),(6,gJ 0 x.2)],[]⟩) (λx=>H (uP 3 x.2) 0 true) (λx=>x.1<=zM l/\x.2=(l.take x.1).map (·.1)) (λx hx=>?_) (0,[]) ⟨yh _,rfl⟩;obtain⟨i,acc⟩:=x;obtain⟨g1,g2⟩:=hx;simp only at g1 g2|-;rcases wj l i with ⟨hi,hd⟩|⟨⟨c,p⟩,hi,hd⟩
   .have hlt:¬i<zM l:=J;rw[yb hi]at g2;rw[<-g2];cases acc with
    |nil=>
     refine k.eval (by simp (disch:=first|exact dis|fail)only[go_sem,seval,-rO,-rN,gJ,uP,hlt];exact rfl) ?_
     try simp only[wJ,ub,Cut]
     refine k.gcs (keep:=[]) (live:=[6]) (md:=true) ?_;simp (disch:=first|exact dis|fail)only[go_sem,seval,-rO,-rN,gJ,uP]
    |cons a0 ar=>
     have hp1:=ji (a0::ar);refine k.eval (by simp (disch:=first|exact dis|fail)only[go_sem,seval,-rO,-rN,gJ,uP,hlt];exact rfl) ?_
     try simp only[wJ,ub,Cut]
     refine k.gcs (keep:=[0]) (live:=[6]) (md:=true) ?_;simp (disch:=first|exact dis|fail)only[go_sem,seval,-rO,-rN,gJ,uP,hp1]
   .have hdr:wX (i*2) (ue l)=.int .i64 (.ofNat c)::.int .i64 (.ofNat p)::ue (l.drop (i+1)):=by rw[Jq,hd,jg]
    have hnext:acc++[c]=(l.take (i+1)).map (·.1):=by
     rw[List.take_add,hd,g2];simp
    have hacc:zM acc=i:=by rw[g2,List.length_map,zue];omega
    cases acc with
    |nil=>
     refine k.eval (by simp (disch:=first|exact dis|fail)only[go_sem,seval,-rO,-rN,gJ,uP,hi,hdr];exact rfl) ?_
     try simp only[wJ]
     refine⟨(i+1,[]++[c]),⟨by simp only;omega,hnext⟩,by simp only;omega,?_⟩
     refine k.gcs (keep:=[1]) (live:=[22,21,20,6]) (md:=true) ?_;simp (disch:=first|exact dis|fail)only[go_sem,seval,-rO,-rN,gJ,uP,Zb,Yo]
    |cons a0 ar=>
     have hp1:=ji (a0::ar);simp only[yw]at hacc;refine k.eval (by simp (disch:=first|exact dis|fail)only[go_sem,seval,-rO,-rN,gJ,uP,hi,hdr];exact rfl) ?_
     try simp only[wJ]
     refine⟨(i+1,(a0::ar)++[c]),⟨by simp only;omega,hnext⟩,by simp only;omega,?_⟩
     refine k.gcs (keep:=[2]) (live:=[22,21,20,6]) (md:=true) ?_;simp only[yd,gJ,uP,Zb,Lt,yO,yw,xN];simp (disch:=first|exact dis|fail)only[go_sem,seval,-rO,-rN,ji]
  .generalize l.map (·.1)=m;cases m with
   |nil=>
    refine k.eval (by simp (disch:=first|exact dis|fail)only[go_sem,seval,-rO,-rN,gJ,uP];exact rfl) ?_
    try simp only[wJ,ub,Cut,if_true]
    apply Zz (Or.inr rfl)
    iterate 5 (simp (disch:=first|exact dis|fail)only[go_sem,seval,-rO,-rN,Yo]<;>exact rfl)
   |cons a0 ar=>
    have hp1:=ji (a0::ar);refine k.eval (by simp (disch:=first|exact dis|fail)only[go_sem,seval,-rO,-rN,gJ,uP];exact rfl) ?_
    try simp only[wJ,ub,Cut,if_true]
    apply Zz (Or.inr rfl)
    iterate 5 (simp (disch:=first|exact dis|fail)only[go_sem,seval,-rO,-rN,Lu]<;>exact rfl)
def Vc(b:zr):Z:=match WT b (zM b+1) 0 []with
 |.inl l=>.tup [.lst (zM l) false (ue l),.int .i64 (.ofNat 0),.int .i64 (.ofNat 0)]
 |.inr i=>.tup [.lst 0 false [],.int .i64 (.ofNat 4),.int .i64 (.ofNat i)]
def iW(b:zr):wC (Vc b)=true:=by
 unfold Vc;split<;>simp only[uD,ww,qn,qL,wA,xO]
def eA:zt->U->zb:=vw gh lF Vc
def AN(h:O 164=some eA)(hb:Byt l)(h2:List.length l<2000000)(hn:n=List.length l)(e:Bool)(s:U):(evW env O).call 164 [.lst n e (wK l)] s=some (Vc l,s):=by
 subst hn;rw[qc h,eA,vo Xq s l ⟨hb,h2⟩ (Vq l e)]
attribute [local go_sem] gh WS lM pB Lr in
def RG(B:Bx P X)(hO:OrcOk P X O)(h84:O 187=some Me)(b:zr)(hb:Byt b)(hlen:zM b<2000000):
  SC P X 164 (gh b) (H [] 0 true) (Vc b) (H [] 0 true):=by
 refine Is.sc hO B.mixed B.glob B.env 0 (show env.funs.get 164=some f164 from rfl) (zv4 rfl) jN λC k=>?_;unfold f164 cF;simp only;apply k.q;apply k.q;apply k.q;refine HF (λl=>WT b (zM b+1) 0 []=.inl l) (λl=>⟨tmL [(5,WS 0 l)],[]⟩) (λl=>H (lM 194 l) 0 true) ?_ ?_
 .refine qx (ve (k.gcL [] [6,5,0] true (fr1:=⟨tmL [(6,.int .i64 (.ofNat 0)),(5,WS 0 []),(0,.lst (zM b) false (wK b))],[]⟩) (s1:=H (lM 194 []) 0 true) (by simp (disch:=first|exact dis|fail)only[go_sem,seval,-rO,-rN,WS,lM]) ?_))
  refine jd (λx:Nat×Nat×zg=>x.1) (λx=>⟨tmL [(6,.int .i64 (.ofNat x.2.1)),(5,WS 0 x.2.2),(0,.lst (zM b) false (wK b))],[]⟩) (λx=>H (lM 194 x.2.2) 0 true) (λx=>WT b x.1 x.2.1 x.2.2=WT b (zM b+1) 0 []/\zM b<x.1+x.2.1/\x.2.1<=zM b/\zM x.2.2<=x.2.1) (λx hx=>?_) (zM b+1,0,[]) ⟨rfl,by simp only;omega,yh _,by simp⟩
  obtain⟨kk,i,acc⟩:=x;obtain⟨g1,g2,g3,g4⟩:=hx;simp only at g1 g2 g3 g4|-;cases kk with
  |zero=>omega
  |succ kk=>
  rw[WT]at g1;by_cases hi:zM b<=i
  .rw[wc hi]at g1;have hlt:¬i<zM b:=J;cases acc with
   |nil=>
    apply k.z;simp only[Gcx];refine⟨[],g1.symm,?_⟩;exact k.g [] [5]
   |cons a0 ar=>
    have hp1:=vx (a0::ar);apply k.z;simp only[Gcx];refine⟨a0::ar,g1.symm,?_⟩;exact k.g [0] [5]
  .have hi2:i<zM b:=J;rw[x0 hi]at g1;have hget:=λe s=>Mt h84 hb hi2 hlen e s;have hne:b.drop i≠[]:=λhe=>by have:=congrArg zM he;rw[zv5]at this;simp at this;omega
   have hsz:=Uw hne;rw[zv5]at hsz;simp only[eJ,Mr (hb.drop i) hne]at hget;cases hR:Qv (b.drop i)with
   | none=>
    rw[hR]at g1 hget;simp only at g1 hget;simp only[Vc,<-g1];cases acc with
    |nil=>
     apply k.z;exact fin
    |cons a0 ar=>
     have hp1:=vx (a0::ar);apply k.z;exact fin
   | some p=>
    obtain⟨c,sz⟩:=p;have hD:jw (b.drop i)=(c,sz):=by
     unfold Qv at hR;split at hR
     .cases hR
     .exact Option.some.inj hR
    rw[hD]at hsz;rw[hR]at g1 hget;simp only at g1 hget hsz;cases acc with
    |nil=>
     apply k.z;refine⟨(kk,i+sz,[]++[(c,i)]),⟨g1,by simp only;omega,by simp only;omega,by simp;omega⟩,yx _,?_⟩
     refine k.gcs (keep:=[0]) (live:=[6,5,0]) (md:=true) ?_;simp (disch:=first|exact dis|fail)only[go_sem,seval,-rO,-rN,WS,lM,jg,pB]
    |cons a0 ar=>
     have hp1:=vx (a0::ar);simp only[yw]at g4;apply k.z;refine⟨(kk,i+sz,(a0::ar)++[(c,i)]),⟨g1,by simp only;omega,by simp only;omega,by simp;omega⟩,yx _,?_⟩
     refine k.gcs (keep:=[1]) (live:=[6,5,0]) (md:=true) ?_;simp only[yd,WS,lM,jg,Uq,yO,yw,xN];simp (disch:=first|exact dis|fail)only[go_sem,seval,-rO,-rN,vx]
 .intro l hl;simp only[Vc,hl];cases l with
  |nil=>
   apply k.z;exact fin
  |cons a0 ar=>
   have hp1:=vx (a0::ar);apply k.z;exact fin
def Bf(B:Bx P X)(hO:OrcOk P X O)(h53:O 164=some eA)(b:zr)(hb:Byt b)(hlen:zM b<2000000):
  SC P X 137 (kh b) (H [] 0 true) (jH b) (H [] 0 true):=by
 refine Is.sc hO B.mixed B.glob B.env 0 (show env.funs.get 137=some f137 from rfl) (zv4 rfl) jN λC k=>?_;have hall:=λe s=>AN h53 hb hlen rfl e s;unfold f137 cF;simp only;refine ql (k.eval (by simp (disch:=first|exact dis|fail)only[go_sem,seval,-rO,-rN,kh];exact rfl) ?_)
 simp only[wJ];cases hA:WT b (zM b+1) 0 []with
 |inr i=>
  simp only[jH,vP,hA];simp only[Vc,hA]at hall;refine k.eval (by simp (disch:=first|exact dis|fail)only[go_sem,seval,-rO,-rN,hall];exact rfl) ?_
  try simp only[wJ,ub,Cut,if_true]
  apply Zz (Or.inr rfl)
  iterate 5 (simp (disch:=first|exact dis|fail)only[go_sem,seval,-rO,-rN]<;>exact rfl)
 | inl l=>
  have hl:=Vb (by simp) (by simp) hA
  simp only[jH,vP,hA];simp only[Vc,hA]at hall;refine ql (k.eval (by simp (disch:=first|exact dis|fail)only[go_sem,seval,-rO,-rN,hall];exact rfl) ?_)
  simp only[wJ];refine ql (k.eval (by simp (disch:=first|exact dis|fail)only[go_sem,seval,-rO,-rN];exact rfl) ?_)
  simp only[wJ];refine ql (k.eval (by simp (disch:=first|exact dis|fail)only[go_sem,seval,-rO,-rN];exact rfl) ?_)
  simp only[wJ];refine WO ⟨tmL [(7,gJ 0 (l.map (·.1)))],[]⟩ (H (uP 3 (l.map (·.1))) 0 true) ?_ ?_
  ·
   refine ql (k.eval (by simp (disch:=first|exact dis|fail)only[go_sem,seval,-rO,-rN];exact rfl) ?_)
   simp only[wJ];refine qx (ve (k.gcL [] [8,7,4] true (fr1:=⟨tmL [(8,.int .i64 (.ofNat 0)),(7,gJ 0 []),(4,.lst (zM l) false (ue l))],[]⟩) (s1:=H (uP 3 []) 0 true) (by simp (disch:=first|exact dis|fail)only[go_sem,seval,-rO,-rN,gJ,uP]) ?_))
   refine jd (λx:Nat×zr=>zM l-x.1) (λx=>⟨tmL [(8,.int .i64 (.ofNat x.1)),(7,gJ 0 x.2),(4,.lst (zM l) false (ue l))],[]⟩) (λx=>H (uP 3 x.2) 0 true) (λx=>x.1<=zM l/\x.2=(l.take x.1).map (·.1)) (λx hx=>?_) (0,[]) ⟨yh _,rfl⟩;obtain⟨i,acc⟩:=x;obtain⟨g1,g2⟩:=hx;simp only at g1 g2|-;rcases wj l i with ⟨hi,hd⟩|⟨⟨c,p⟩,hi,hd⟩
   .have hlt:¬i<zM l:=J;rw[yb hi]at g2;rw[<-g2];cases acc with
    |nil=>
     refine k.eval (by simp (disch:=first|exact dis|fail)only[go_sem,seval,-rO,-rN,gJ,uP,hlt];exact rfl) ?_
     try simp only[wJ,ub,Cut]
     refine k.gcs (keep:=[]) (live:=[7]) (md:=true) ?_;simp (disch:=first|exact dis|fail)only[go_sem,seval,-rO,-rN,gJ,uP]
    |cons a0 ar=>
     have hp1:=ji (a0::ar);refine k.eval (by simp (disch:=first|exact dis|fail)only[go_sem,seval,-rO,-rN,gJ,uP,hlt];exact rfl) ?_
     try simp only[wJ,ub,Cut]
     refine k.gcs (keep:=[0]) (live:=[7]) (md:=true) ?_;simp (disch:=first|exact dis|fail)only[go_sem,seval,-rO,-rN,gJ,uP,hp1]
   .have hdr:wX (i*2) (ue l)=.int .i64 (.ofNat c)::.int .i64 (.ofNat p)::ue (l.drop (i+1)):=by rw[Jq,hd,jg]
    have hnext:acc++[c]=(l.take (i+1)).map (·.1):=by
     rw[List.take_add,hd,g2];simp
    have hacc:zM acc=i:=by rw[g2,List.length_map,zue];omega
    cases acc with
    |nil=>
     refine k.eval (by simp (disch:=first|exact dis|fail)only[go_sem,seval,-rO,-rN,gJ,uP,hi,hdr];exact rfl) ?_
     try simp only[wJ]
     refine⟨(i+1,[]++[c]),⟨by simp only;omega,hnext⟩,by simp only;omega,?_⟩
     refine k.gcs (keep:=[0]) (live:=[8,7,4]) (md:=true) ?_;simp (disch:=first|exact dis|fail)only[go_sem,seval,-rO,-rN,gJ,uP,Zb,Yo]
    |cons a0 ar=>
     have hp1:=ji (a0::ar);simp only[yw]at hacc;refine k.eval (by simp (disch:=first|exact dis|fail)only[go_sem,seval,-rO,-rN,gJ,uP,hi,hdr];exact rfl) ?_
     try simp only[wJ]
     refine⟨(i+1,(a0::ar)++[c]),⟨by simp only;omega,hnext⟩,by simp only;omega,?_⟩
     refine k.gcs (keep:=[1]) (live:=[8,7,4]) (md:=true) ?_;simp only[yd,gJ,uP,Zb,Lt,yO,yw,xN];simp (disch:=first|exact dis|fail)only[go_sem,seval,-rO,-rN,ji]
  .generalize l.map (·.1)=m;cases m with
   |nil=>
    refine k.eval (by simp (disch:=first|exact dis|fail)only[go_sem,seval,-rO,-rN,gJ,uP];exact rfl) ?_
    try simp only[wJ,ub,Cut,if_true]
    apply Zz (Or.inr rfl)
    iterate 5 (simp (disch:=first|exact dis|fail)only[go_sem,seval,-rO,-rN,Yo]<;>exact rfl)
   |cons a0 ar=>
    have hp1:=ji (a0::ar);refine k.eval (by simp (disch:=first|exact dis|fail)only[go_sem,seval,-rO,-rN,gJ,uP];exact rfl) ?_
    try simp only[wJ,ub,Cut,if_true]
    apply Zz (Or.inr rfl)
    iterate 5 (simp (disch:=first|exact dis|fail)only[go_sem,seval,-rO,-rN,Lu]<;>exact rfl)
def uR(c:Nat):Bool:=decide (48<=c)&&decide (c<=57)
def ku(s:zr):zr:=match s with
 |[]=>[]
 |c::r=>if c=45 then r else c::r
def YD(s:zr):Bool:=match ku s with
 |[]=>false
 |c::r=>(decide (c≠48)||eqS s [48])&&(c::r).all uR
def ixF:Nat->zr->Int
 |_,[]=> -1
 |i,c::r=>if uR c=true then ixF (i+1) r else .ofNat i
theorem ba:∀(i:Nat) (s:zr),(!ltD (ixF i s) (.ofNat 0))= !s.all uR
 |i,[]=>rfl
 | i,c::r=>by
  simp only[ixF,zud];cases hc:uR c with
  |true=>rw[wc rfl,ba (i+1) r];rfl
  |false=>
   rw[x0 (by simp)]
   have:ltD (.ofNat i) (.ofNat 0)=false:=by rw[Zm];exact qb J
   rw[this];rfl
theorem zy0(a b:Bool):J5 .bool false (.bool a) (.bool b)=some (.bool (a==b)):=by cases a<;>cases b<;>rfl
def Fx{y:Nat}(hy:128<=y):∀r:zr,128<=(jw (y::r)).1
 |[]=>by rw[Ga,x0 J];simp
 |[a]=>by
  rw[Uv,x0 J];split
  .rename_i h;exact h.2.2
  .simp
 | [a,b]=>by
  rw[Qu,x0 J];split
  .rename_i h;exact h.2.2
  .split
   .rename_i h;have:=h.2.2.2.1;simp only;omega
   .simp
 | a::b::c::r=>by
  rw[Yr,x0 J];split
  .rename_i h;exact h.2.2
  .split
   .rename_i h;have:=h.2.2.2.1;simp only;omega
   .split
    .rename_i h;have:=h.2.2.2.2.1;simp only;omega
    .simp
def dU(s:zr):zt:=[.str s,.fn 173 [] [],.bool true]
def FM:∀x y,dU x=dU y->x=y:=λx y h=>by
 simp only[dU,qJ,Z.str.injEq,and_true]at h;exact h
def BK(l:zr):wo (dU l)=true:=by simp only[dU,ww,pm,V3,uO,wA,xO]
def gIx:zt->U->zb:=vw dU lF (λs=>.int .i64 (ixF 0 s))
def s8(h:O 210=some gIx)(hb:Byt l)(h2:List.length l<2000000)(s:U):(evW env O).call 210 [.str l,.fn 173 [] [],.bool true] s=some (.int .i64 (ixF 0 l),s):=by
 rw[qc h,gIx,vo FM s l ⟨hb,h2⟩ rfl]
attribute [local go_sem] dU tg f173 zy0 in
def zwS(B:Bx P X)(hO:OrcOk P X O)(o81:O 173=none)(b:zr)(hb:Byt b)(hlen:zM b<2000000):
  SC P X 210 (dU b) (H [] 0 true) (.int .i64 (ixF 0 b)) (H [] 0 true):=by
 refine Is.sc hO B.mixed B.glob B.env 0 (show env.funs.get 210=some f210 from rfl) (zv4 rfl) jN λC k=>?_;have c81:= @jn env O _ _ o81 (show env.funs.get 173=some f173 from rfl) rfl;unfold f210 cF;simp only;apply k.q;refine Ye (p:=ixF 0 b= -1) ⟨tmL [],[]⟩ (H [] 0 true) ?_ ?_
 .apply k.q;refine qx (ve (k.gcL [0] [10,2,1] true (fr1:=⟨tmL [(10,.ptr 0 0),(2,.bool true),(1,.fn 173 [] [])],[]⟩) (s1:=H [some (.siter b 0)] 0 true) sW ?_));refine jd (λi:Nat=>zM b-i) (λi=>⟨tmL [(10,.ptr 0 0),(2,.bool true),(1,.fn 173 [] [])],[]⟩) (λi=>H [some (.siter b i)] 0 true) (λi=>i<=zM b/\ixF i (b.drop i)=ixF 0 b) (λi hi=>?_) 0 ⟨yh _,rfl⟩;obtain⟨g1,g2⟩:=hi;rcases wj b i with ⟨hi,hd⟩|⟨y,hi,hd⟩
  .have hns:=λl n m hg=> @M5 l n m 0 i true b hg hd;rw[hd]at g2;apply k.z;simp only[YW];refine⟨g2.symm,?_⟩;exact k.g [] []
  .have hns:=λl n m hg=> @td l n m 0 i true b y _ hg hd;rw[hd]at g2;simp only[ixF]at g2;by_cases h1:y<128
   .rw[Gb h1]at hns;simp only at hns;by_cases h2:y<48
    .rw[x0 (by simp[uR];omega)]at g2
     rw[<-g2];apply k.z;simp only[YW];exact fin
    .by_cases h3:57<y
     .rw[x0 (by simp[uR];omega)]at g2
      rw[<-g2];apply k.z;simp only[YW];exact fin
     .rw[wc (by simp[uR];omega)]at g2
      apply k.z;refine⟨i+1,⟨J,g2⟩,J,?_⟩;refine k.gcs (keep:=[0]) (live:=[10,2,1]) (md:=true) ?_;simp (disch:=first|exact dis|fail)only[go_sem,seval,-rO,-rN]
   .have hbig:=Fx (y:=y) J (b.drop (i+1));rw[x0 (by simp[uR];omega)]at g2
    rw[<-g2];revert hns hbig;generalize jw (y::b.drop (i+1))=D;obtain⟨c,sz⟩:=D;intro hns hbig;simp only at hns hbig;have h2:¬c<48:=J;have h3:57<c:=J;apply k.z;simp only[YW];exact fin
 .intro hp;rw[hp];apply k.q;apply k.z;apply Zz (Or.inr rfl)
  iterate 3 (simp (disch:=first|exact dis|fail)only[go_sem,seval,-rO,-rN];exact rfl)
  .simp (disch:=first|exact dis|fail)only[go_sem,seval,-rO,-rN];rfl
  .simp (disch:=first|exact dis|fail)only[go_sem,seval,-rO,-rN]
def Hu(c:Nat)(r:zr)(k:IntKind):iO (.str (c::r)) (some (.int k (.ofNat 1))) none=some (.str r):=by
 simp only[iO,bnd,qw,yw,wB.2 (show 1<=r.length+1 by omega),x6,pE,Yb,xT,yE]
 rw[yb (by show r.length<=r.length+1-1;omega)]
theorem OU(c:Nat)(r:zr)(k:IntKind):iO (.str (c::r)) none (some (.int k (.ofNat 1)))=some (.str [c]):=by
 simp only[iO,bnd,qw,yw,wB.2 (show 1<=r.length+1 by omega),x6,pE,Yb,yE]
 rfl
theorem GK(c:Nat)(r:zr):eK (c::r) 0=some c:=rfl
def JC:zt->U->zb:=vw kh lF (λs=>.bool (YD s))
def Pt(h:O f=some JC)(hb:Byt l)(h2:List.length l<2000000)(s:U):(evW env O).call f [.str l] s=some (.bool (YD l),s):=by
 rw[qc h,JC,vo pH s l ⟨hb,h2⟩ rfl]
attribute [local go_sem] kh f171 f194 f209 YD ku Hu OU GK f172 f195 eqS in
def Bo(B:Bx P X)(hO:OrcOk P X O)(o79:O 171=none)(o98:O 194=none)(o115:O 209=none)(o80:O 172=none)(o99:O 195=none)(h116:O 210=some gIx)(s:zr)(hb:Byt s)(hlen:zM s<2000000):
  SC P X 145 (kh s) (H [] 0 true) (.bool (YD s)) (H [] 0 true):=by
 refine Is.sc hO B.mixed B.glob B.env 0 (show env.funs.get 145=some f145 from rfl) (zv4 rfl) jN λC k=>?_;have c79:= @jn env O _ _ o79 (show env.funs.get 171=some f171 from rfl) rfl;have c98:= @jn env O _ _ o98 (show env.funs.get 194=some f194 from rfl) rfl;have c115:= @jn env O _ _ o115 (show env.funs.get 209=some f209 from rfl) rfl;have c80:= @jn env O _ _ o80 (show env.funs.get 172=some f172 from rfl) rfl;have c99:= @jn env O _ _ o99 (show env.funs.get 195=some f195 from rfl) rfl;unfold f145 cF;simp only
 match s,hb,hlen with
 |[],hb,hlen=>
  apply k.z;exact fin
 | c ::r,hb,hlen=>
  have hlr:r.length<2000000:=by simp only[yw]at hlen;omega
  by_cases h45:c=45
  .subst h45
   match r,hb,hlen,hlr with
   |[],hb,hlen,hlr=>
    apply k.z;exact fin
   | c2::r2,hb,hlen,hlr=>
    have hb2:Byt (c2::r2):=hb.cons.2;have hc2:c2<256:=hb2 c2 (by simp)
    have hix:=λs=>s8 h116 hb2 hlr s;have hal:=ba 0 (c2::r2);have hm:YD (45::c2::r2)=(decide (c2≠48)&&(c2::r2).all uR):=by
     simp only[YD,ku,if_true,eqS];simp
    rw[hm];by_cases h48:c2=48
    .subst h48;apply k.z;exact fin
    .rw[qp h48,y9];apply k.z;exact fin
  .have hc:c<256:=hb c (by simp)
   have hix:=λs=>s8 h116 hb hlen s;have hal:=ba 0 (c::r);have hm:YD (c::r)=((decide (c≠48)||eqS (c::r) [48])&&(c::r).all uR):=by
    simp only[YD,ku,h45,if_false]
   rw[hm];by_cases h48:c=48
   .subst h48;cases r with
    |nil=>
     apply k.z;exact fin
    |cons c3 r3=>
     apply k.z;exact fin
   .rw[qp h48,Bool.true_or,y9];apply k.z;exact fin
theorem ai{s:zr}{y:Nat}(hd:s.drop i=y::s.drop (i+1)):(s.drop i).all uR=(uR y&&(s.drop (i+1)).all uR):=by rw[hd];rfl
attribute [local go_sem] kh YD ku eqS uR GK Hu in
def CQ(B:Bx P X)(hO:OrcOk P X O)(s:zr)(hb:Byt s)(hlen:zM s<2000000):
  SC P X 138 (kh s) (H [] 0 true) (.bool (YD s)) (H [] 0 true):=by
 refine Is.sc hO B.mixed B.glob B.env 0 (show env.funs.get 138=some f138 from rfl) (zv4 rfl) jN λC k=>?_;unfold f138 cF;simp only;apply k.q;by_cases h0:s=[48]
 .subst h0;apply k.z;exact fin
 apply k.q;refine WO ⟨tmL [(0,.str (ku s))],[]⟩ (H [] 0 true) ?_ ?_
 .match s,hb with
  |[],hb=>
   apply k.z;simp only[ku];exact k.g [] [0]
  |c::r,hb=>
   have hc:c<256:=hb c (by simp)
   by_cases h45:c=45
   .subst h45;apply k.z;simp only[ku,if_true];exact k.g [] [0]
   .apply k.z;simp only[ku,h45,if_false];exact k.g [] [0]
 have hn:YD s=match ku s with
   |[]=>false
   |c::r=>decide (c≠48)&&(c::r).all uR:=by
  unfold YD;cases ku s with
  |nil=>rfl
  | cons c r=>
   have:eqS s [48]=false:=by
    cases h:eqS s [48]with
    |false=>rfl
    |true=>exact absurd (sA h) h0
   simp only[this,Bool.or_false]
 rw[hn];have hmb:Byt (ku s)/\(ku s).length<2000000:=by
  match s,hb,hlen with
  |[],hb,hlen=>exact⟨hb,hlen⟩
  |c::r,hb,hlen=>
   simp only[ku];split
   .exact⟨hb.cons.2,by simp only[yw]at hlen;omega⟩
   .exact⟨hb,hlen⟩
 revert hmb;generalize ku s=m;intro hmb;obtain⟨hmb,hml⟩:=hmb
 match m,hmb,hml with
 |[],hmb,hml=>
  apply k.z;exact fin
 |c::r,hmb,hml=>
 simp only;have hc:c<256:=hmb c (by simp)
 by_cases h48:c=48
 .subst h48;apply k.z;exact fin
 rw[qp h48,y9];apply k.q;obtain⟨m,hm⟩:∃m,m=c::r:=⟨_,rfl⟩;rw[<-hm]at hml hmb|-;refine Ye (p:=m.all uR=true) ⟨tmL [],[]⟩ (H [] 0 true) ?_ ?_
 ·
  refine ql (k.eval (by simp (disch:=first|exact dis|fail)only[go_sem,seval,-rO,-rN];exact rfl) ?_)
  simp only[wJ];refine qx (ve (k.gcL [] [3,0] true (fr1:=⟨tmL [(3,.int .i64 (.ofNat 0)),(0,.str m)],[]⟩) (s1:=H [] 0 true) sW ?_));refine jd (λi:Nat=>zM m-i) (λi=>⟨tmL [(3,.int .i64 (.ofNat i)),(0,.str m)],[]⟩) (λ_=>H [] 0 true) (λi=>i<=zM m/\(m.drop i).all uR=m.all uR) (λi hi=>?_) 0 ⟨yh _,rfl⟩;obtain⟨g1,g2⟩:=hi;rcases wj m i with ⟨hi,hd⟩|⟨y,hi,hd⟩
  .have hlt:¬i<zM m:=J;rw[hd]at g2;refine k.eval (by simp (disch:=first|exact dis|fail)only[go_sem,seval,-rO,-rN,hlt];exact rfl) ?_
   try simp only[wJ,ub]
   simp only[YW];refine⟨g2.symm,?_⟩;exact k.g [] []
  .have hy:y<256:=hmb y (zv9 (by rw[hd];exact zua))
   have hg:eK m i=some y:=by rw[Kf];have:=congrArg List.head? hd;rw[List.head?_drop]at this;exact this
   rw[ai hd]at g2;by_cases h2:y<48
   .rw[show uR y=false from by simp[uR];omega,zv7]at g2
    rw[<-g2];refine k.eval (by simp (disch:=first|exact dis|fail)only[go_sem,seval,-rO,-rN,hi,hg,h2];exact rfl) ?_
    try simp only[wJ,ub]
    simp only[YW];exact fin
   .by_cases h3:57<y
    .rw[show uR y=false from by simp[uR];omega,zv7]at g2
     rw[<-g2];refine k.eval (by simp (disch:=first|exact dis|fail)only[go_sem,seval,-rO,-rN,hi,hg,h2,h3];exact rfl) ?_
     try simp only[wJ,ub]
     simp only[YW];exact fin
    .rw[show uR y=true from by simp[uR];omega,y9]at g2
     refine k.eval (by simp (disch:=first|exact dis|fail)only[go_sem,seval,-rO,-rN,hi,hg,h2,h3];exact rfl) ?_
     try simp only[wJ]
     refine⟨i+1,⟨J,g2⟩,J,?_⟩;refine k.gcs (keep:=[]) (live:=[3,0]) (md:=true) ?_;simp (disch:=first|exact dis|fail)only[go_sem,seval,-rO,-rN]
 .intro hp;rw[hp];apply k.q;apply k.z;exact fin
def okC(t:zr):Bool:=(vP t).isSome
def Vd(k n:Int)(t:zr):Bool:=
 if k=.ofNat 0\/k=.ofNat 8\/k=.ofNat 9\/k=.ofNat 10 then true
 else if k=.ofNat 1 then eqD n (.ofNat 0)||eqD n (.ofNat 1)
 else if k=.ofNat 2 then YD t
 else if k=.ofNat 3 then H2 n
 else if k=.ofNat 4 then okC t
 else if k=.ofNat 5 then okC t&& !decide (t=[])
 else false
def Xf(d:DT):Bool:=Vd (GV d) (zvK d) (zvu d)
def JV:Nat->DT->Bool
 |0,_=>false
 |k+1,d=>match qI d with
  |some p=>JV k p.1&&JV k p.2
  |none=>if GV d=.ofNat 7 then (gL d).all (JV k)else decide ((gL d).length=0)&&Xf d
def vz(d:DT):Bool:=JV (wL d) d
def Qn{α:Type}{f g:α->Bool}:∀{l:List α},(∀x∈l,f x=g x)->l.all f=l.all g
 |[],_=>rfl
 |x::r,h=>by simp only[zud,h x (by simp),Qn (l:=r) λy hy=>h y (by simp[hy])]
def Zo:∀{k m:Nat} {d:DT},wL d<=k->wL d<=m->JV k d=JV m d
 |0,_,a,h,_=>by have:=qW a;omega
 |_+1,0,a,_,h=>by have:=qW a;omega
 | k+1,m+1,d,h,h'=>by
  have hk:=j4 d;have e:(gL d).all (JV k)=(gL d).all (JV m):=Qn λx hx=>by
   have:=vv hx;exact Zo J J
  simp only[JV,e];cases hka:qI d with
  |none=>rfl
  |some p=>
   have:=uu (x:=p.1) (y:=p.2) hka;simp only;rw[Zo (k:=k) (m:=m) (d:=p.1) J J,Zo (k:=k) (m:=m) (d:=p.2) J J]
def WH{x:DT}(h:qI d=some (x,y)):vz d=(vz x&&vz y):=by
 have:=uu h;unfold vz;rw[Zo (m:=wL d+1) (zS _) J,JV,h];simp only;rw[Zo (k:=wL d) (m:=wL x) J (zS _),Zo (k:=wL d) (m:=wL y) J (zS _)]
def Po(h:qI d=none):vz d=if GV d=.ofNat 7 then (gL d).all vz else decide ((gL d).length=0)&&Xf d:=by
 have hk:=j4 d;have e:(gL d).all (JV (wL d))=(gL d).all vz:=Qn λx hx=>by
  have:=vv hx;exact Zo J (zS _)
 unfold vz at e|-;rw[Zo (m:=wL d+1) (zS _) J,JV,h,e]
mutual
def TxD:DT->Prop
 |.mk _ _ t ks _=>Byt t/\t.length<2000000/\TxL ks
def TxL:List DT->Prop
 |[]=>True
 |d::r=>TxD d/\TxL r
end
def TxL.mem:∀{l:List DT} {d:DT},TxL l->d∈l->TxD d
 |[],_,_,h=>by cases h
 |x::r,d,ht,h=>by
  simp only[TxL]at ht;rcases List.mem_cons.1 h with rfl|h
  .exact ht.1
  .exact TxL.mem ht.2 h
def TxD.kids{x:DT}(ht:TxD d)(h:qI d=some (x,y)):TxD x/\TxD y:=by
 obtain⟨kd,n,t,ks,p⟩:=d;obtain⟨rfl,rfl⟩:=v7 h;simp only[TxD,TxL]at ht;exact⟨ht.2.2.1,ht.2.2.2.1⟩
def sL:zt->U->zb:=vw uh TxD (λd=>.bool (Xf d))
def AR(h:O 116=some sL)(ht:TxD d)(s:U):(evW env O).call 116 [.agg (qA d)] s=some (.bool (Xf d),s):=by
 rw[qc h,sL,vo Yt s d ht (Wv d)]
attribute [local go_sem] uh ZL wz true_or if_true or_true zuf zug in
def RO(B:Bx P X)(hO:OrcOk P X O)(h50:O 145=some JC)(h51:O 146=some gIs)(h52:O 147=some XQ)(d:DT)(ht:TxD d):
  SC P X 116 (uh d) (H [] 0 true) (.bool (Xf d)) (H [] 0 true):=by
 refine Is.sc hO B.mixed B.glob B.env 0 (show env.funs.get 116=some f116 from rfl) (zv4 rfl) jN λC k=>?_;obtain⟨kd,n,t,ks,p⟩:=d;simp only[TxD]at ht;have hnum:=Pt (f:=145) h50 ht.1 J;have his:=aZ h51 n;have hco:=Yq (f:=147) h52 ht.1 J;unfold f116 cF;rw[show Xf (.mk kd n t ks p)=Vd kd n t from rfl];unfold Vd;simp only;by_cases k0:kd=.ofNat 0
 .subst k0;apply k.z;exact fin
 by_cases k8:kd=.ofNat 8
 .subst k8;apply k.z;exact fin
 by_cases k9:kd=.ofNat 9
 .subst k9;apply k.z;exact fin
 by_cases k10:kd=.ofNat 10
 .subst k10;apply k.z;exact fin
 rw[x0 (by simp only[k0,k8,k9,k10,or_self,not_false_eq_true])]
 have e0:=w8 k0;have e8:=w8 k8;have e9:=w8 k9;have e10:=w8 k10;by_cases k1:kd=.ofNat 1
 .subst k1;rw[wc rfl];cases h0:eqD n (.ofNat 0)with
  |true=>
   apply k.z;exact fin
  |false=>
   apply k.z;exact fin
 rw[x0 k1];have e1:=w8 k1;by_cases k2:kd=.ofNat 2
 .subst k2;rw[wc rfl];apply k.z;exact fin
 rw[x0 k2];have e2:=w8 k2;by_cases k3:kd=.ofNat 3
 .subst k3;rw[wc rfl];apply k.z;exact fin
 rw[x0 k3];have e3:=w8 k3;by_cases k4:kd=.ofNat 4
 .subst k4;rw[wc rfl];simp only[jH]at hco;simp only[okC];cases hc:vP t with
  |none=>
   rw[hc]at hco;apply k.z;exact fin
  |some l=>
   rw[hc]at hco;apply k.z;exact fin
 rw[x0 k4];have e4:=w8 k4;by_cases k5:kd=.ofNat 5
 .subst k5;rw[wc rfl];simp only[jH]at hco;simp only[okC];cases hc:vP t with
  |none=>
   rw[hc]at hco;apply k.z;exact fin
  |some l=>
   rw[hc]at hco;apply k.z;exact fin
 rw[x0 k5];have e5:=w8 k5;apply k.z;exact fin
def UE(N:Nat):zt->U->zb:=vw uh (λd=>TxD d/\wL d<N) (λd=>.bool (vz d))
def ZT(h:O f=some (UE N))(ht:TxD d)(hn:wL d<N)(s:U):(evW env O).call f [.agg (qA d)] s=some (.bool (vz d),s):=by
 rw[qc h,UE,vo Yt s d ⟨ht,hn⟩ (Wv d)]
def ixM:Nat->List DT->Int
 |_,[]=> -1
 |i,d::r=>if vz d=true then ixM (i+1) r else .ofNat i
def Zn{n:Int}{ks:List DT}(h:qI (.mk kd n t ks p)=none):vz (.mk kd n t ks p)=if kd=.ofNat 7 then ks.all vz else decide (zM ks=0)&&Xf (.mk kd n t ks p):=Po h
theorem s7:∀(i:Nat) (s:List DT),(!ltD (ixM i s) (.ofNat 0))= !s.all vz
 |i,[]=>rfl
 | i,c::r=>by
  simp only[ixM,zud];cases hc:vz c with
  |true=>rw[wc rfl,s7 (i+1) r];rfl
  |false=>
   rw[x0 (by simp)]
   have:ltD (.ofNat i) (.ofNat 0)=false:=by rw[Zm];exact qb J
   rw[this];rfl
def Vs(x:List DT):zt:=[.lst (zM x) false (wy x),.fn 115 [] []]
def By:∀x y,Vs x=Vs y->x=y:=λa b h=>by
 simp only[Vs,qJ,Z.lst.injEq,true_and,and_true]at h;exact Yn h.2
def mZ(x:List DT):wo (Vs x)=true:=by simp only[Vs,ww,qn,V3,wA,xO]
def Tn(N:Nat):zt->U->zb:=vw Vs (λl=>TxL l/\qf l<N) (λl=>.int .i64 (ixM 0 l))
def MH(h:O 144=some (Tn N)){l:List DT}(ht:TxL l)(hn:qf l<N)(s:U):(evW env O).call 144 [.lst (List.length l) false (wy l),.fn 115 [] []] s=some (.int .i64 (ixM 0 l),s):=by
 rw[qc h,Tn,vo By s l ⟨ht,hn⟩ (by simp only[Vs,wkL,wkV,pf])]
attribute [local go_sem] Vs kU wz f115 in
def zxA(B:Bx P X)(hO:OrcOk P X O)(o25:O 115=none)(h11:O 74=some (UE N))(hN:N<=1100000)(l:List DT)(ht:TxL l)(hn:qf l<N):
  SC P X 144 (Vs l) (H [] 0 true) (.int .i64 (ixM 0 l)) (H [] 0 true):=by
 refine Is.sc hO B.mixed B.glob B.env 0 (show env.funs.get 144=some f144 from rfl) (zv4 rfl) jN λC k=>?_;have c25:= @jn env O _ _ o25 (show env.funs.get 115=some f115 from rfl) rfl;have hll:=vQ l;unfold f144 cF;simp only;apply k.q;refine Ye (p:=ixM 0 l= -1) ⟨tmL [],[]⟩ (H [] 0 true) ?_ ?_
 .apply k.q;refine qx (ve (k.gcL [] [8,7,1,0] true (fr1:=⟨tmL [(8,.int .i64 (.ofNat 0)),(7,.int .i64 (.ofNat (zM l))),(1,.fn 115 [] []),(0,.lst (zM l) false (wy l))],[]⟩) (s1:=H [] 0 true) sW ?_));refine jd (λi:Nat=>zM l-i) (λi=>⟨tmL [(8,.int .i64 (.ofNat i)),(7,.int .i64 (.ofNat (zM l))),(1,.fn 115 [] []),(0,.lst (zM l) false (wy l))],[]⟩) (λ_=>H [] 0 true) (λi=>i<=zM l/\ixM i (l.drop i)=ixM 0 l) (λi hi=>?_) 0 ⟨yh _,rfl⟩;obtain⟨g1,g2⟩:=hi;rcases wj l i with ⟨hi,hd⟩|⟨x,hi,hd⟩
  .have hlt:¬i<zM l:=J;rw[hd]at g2;apply k.z;simp only[YW];refine⟨g2.symm,?_⟩;exact k.g [] []
  .have hmem:x∈l:=zv9 (by rw[hd];exact zua)
   have hnx:wL x<N:=by have:=vv hmem;omega
   have hc:=ZT (f:=74) h11 (ht.mem hmem) hnx;have hdr:wX (i*5) (wy l)=qA x++wy (l.drop (i+1)):=by rw[Xl,hd,jh]
   rw[hd]at g2;simp only[ixM]at g2;obtain⟨xk,xn,xt,xks,xp⟩:=x;simp only[wz]at hc;cases hsm:vz (.mk xk xn xt xks xp)with
   |true=>
    rw[hsm]at hc g2;rw[wc rfl]at g2;apply k.z;refine⟨i+1,⟨J,g2⟩,J,?_⟩;refine k.gcs (keep:=[]) (live:=[8,7,1,0]) (md:=true) ?_;simp (disch:=first|exact dis|fail)only[go_sem,seval,-rO,-rN]
   |false=>
    rw[hsm]at hc g2;rw[x0 (by simp)]at g2
    rw[<-g2];refine k.eval (by simp (disch:=first|exact dis|fail)only[go_sem,seval,-rO,-rN,hi,hdr,wz,c25,f115,hc];exact rfl) ?_
    try simp only[wJ,ub]
    simp only[YW];exact fin
 .intro hp;rw[hp];apply k.q;apply k.z;apply Zz (Or.inr rfl)
  iterate 3 (simp (disch:=first|exact dis|fail)only[go_sem,seval,-rO,-rN];exact rfl)
  .simp (disch:=first|exact dis|fail)only[go_sem,seval,-rO,-rN];rfl
  .simp (disch:=first|exact dis|fail)only[go_sem,seval,-rO,-rN]
attribute [local go_sem] uh ZL jQ wz f113 pC kU pc f114 in
def zxE(B:Bx P X)(hO:OrcOk P X O)(o23:O 113=none)(o24:O 114=none)(h26:O 116=some sL)(h49:O 144=some (Tn N))(h11:O 74=some (UE N))(d0:DT)(ht:TxD d0)(hN:wL d0<N+1):
  SC P X 74 (uh d0) (H [] 0 true) (.bool (vz d0)) (H [] 0 true):=by
 refine Is.sc hO B.mixed B.glob B.env 0 (show env.funs.get 74=some f74 from rfl) (zv4 rfl) jN λC k=>?_;have cpair:= @jn env O _ _ o23 (show env.funs.get 113=some f113 from rfl) rfl;have c24:= @jn env O _ _ o24 (show env.funs.get 114=some f114 from rfl) rfl;generalize hres:vz d0=res;unfold f74 cF;simp only;apply k.q;refine HF (λd:DT=>vz d=res/\qI d=none/\TxD d/\wL d<N+1) (λ_=>⟨tmL [(1,.ptr 0 0)],[]⟩) (λd=>H [some (jQ d)] 0 true) (qx (ve (k.gcL [0] [1] true (fr1:=⟨tmL [(1,.ptr 0 0)],[]⟩) (s1:=H [some (jQ d0)] 0 true) (by simp (disch:=first|exact dis|fail)only[go_sem,seval,-rO,-rN,jQ,uF]) ?_))) ?_
 .refine jd (λd:DT=>wL d) (λ_=>⟨tmL [(1,.ptr 0 0)],[]⟩) (λd=>H [some (jQ d)] 0 true) (λd=>vz d=res/\TxD d/\wL d<N+1) (λd hx=>?_) d0 ⟨hres,ht,hN⟩;obtain⟨kd,n,t,ks,p⟩:=d;obtain⟨g1,g2,g3⟩:=hx;cases hka:qI (.mk kd n t ks p)with
  |none=>
   rcases TO hka with he|⟨rfl,hl⟩
   .apply k.z;simp only[Gcx];refine⟨.mk kd n t ks p,⟨g1,hka,g2,g3⟩,?_⟩;exact k.g [0] [1]
   .apply k.z;simp only[Gcx];refine⟨.mk (.ofNat 6) n t ks p,⟨g1,hka,g2,g3⟩,?_⟩;exact k.g [0] [1]
  | some xy=>
   obtain⟨⟨xk,xn,xt,xks,xp⟩,⟨yk,yn,yt,yks,yp⟩⟩:=xy;have hna:=uu hka;have hpt:=g2.kids hka;rw[WH hka]at g1;obtain⟨rfl,rfl⟩:=v7 hka;have hc:=ZT (f:=74) h11 hpt.1 (by have:=qW (.mk yk yn yt yks yp);omega)
   simp only[wz]at hc;cases hsm:vz (.mk xk xn xt xks xp)with
   |true=>
    rw[hsm]at hc g1;apply k.z;refine⟨.mk yk yn yt yks yp,⟨by rw[<-g1,y9],hpt.2,J⟩,J,?_⟩
    exact k.g [0] [1]
   |false=>
    rw[hsm]at hc g1;apply k.z;simp only[Gcx];rw[<-g1];apply Zz (Or.inr rfl)
    iterate 5 (simp (disch:=first|exact dis|fail)only[go_sem,seval,-rO,-rN]<;>exact rfl)
 .rintro⟨kd,n,t,ks,p⟩ ⟨g1,g2,g3,g4⟩
  rw[Zn g2]at g1;have hb:=AR h26 g3;simp only[wz]at hb;simp only[TxD]at g3;have hn:=j4 (.mk kd n t ks p);simp only[gL]at hn;by_cases k7:kd=.ofNat 7
  .subst k7;rw[wc rfl]at g1;have hix:=MH h49 g3.2.2 J;have hal:=s7 0 ks;apply k.z;exact fin
  .rw[x0 k7]at g1;have e7:=w8 k7;by_cases hl:zM ks=0
   .rw[qp hl,y9]at g1;rw[g1]at hb;rw[hl]at hb;apply k.z;exact fin
   .rw[qb hl,zv7]at g1;subst g1;apply k.z;exact fin
def zwX(d:DT):Bool:=if GV d=.ofNat 7 then (gL d).all vz else decide ((gL d).length=0)&&Xf d
def G0:∀(k:Nat) (d:DT),wL d<k->vz d=((wU d).1.all vz&&zwX (wU d).2)
 |0,d,h=>by omega
 | k+1,d,h=>by
  cases hk:qI d with
  |none=>
   rw[jj hk,Po hk];rfl
  |some p=>
   obtain⟨x,y⟩:=p;have hn:=uu hk;have ih:=G0 k y (by have:=qW x;omega)
   rw[vZ hk,WH hk,ih];simp only[zud,Bool.and_assoc]
def AJ(d:DT)(ht:TxD d):TxL (wU d).1/\TxD (wU d).2:=by
 have key:∀(k:Nat) (d:DT),wL d<k->TxD d->TxL (wU d).1/\TxD (wU d).2:=by
  intro k
  induction k with
  |zero=>intro d h;omega
  | succ k ih=>
   intro d h ht;cases hk:qI d with
   |none=>rw[jj hk];exact⟨by simp only[TxL],ht⟩
   |some xy=>
    obtain⟨x,y⟩:=xy;have h2:=uu hk;have h3:=ht.kids hk;have:=ih y (by have:=qW x;omega) h3.2
    rw[vZ hk];exact⟨by simp only[TxL];exact⟨h3.1,this.1⟩,this.2⟩
 exact key _ d (yx _) ht
theorem cD{α:Type}{f:α->Bool}{l:List α}{y:α}(hd:l.drop i=y::l.drop (i+1)):(l.drop i).all f=(f y&&(l.drop (i+1)).all f):=by rw[hd];rfl
attribute [local go_sem] uh ZL wz jQ kU true_or if_true or_true zuf zug in
def Dn(B:Bx P X)(hO:OrcOk P X O)(h27:O 136=some GH)(h28:O 137=some XQ)(h29:O 138=some JC)(h30:O 139=some gIs)(h12:O 105=some (UE N))(hN2:N<=1100000)(d0:DT)(ht0:TxD d0)(hN:wL d0<N+1):
  SC P X 105 (uh d0) (H [] 0 true) (.bool (vz d0)) (H [] 0 true):=by
 refine Is.sc hO B.mixed B.glob B.env 0 (show env.funs.get 105=some f105 from rfl) (zv4 rfl) jN λC k=>?_;rw[G0 _ d0 (yx _)];have hni:=lA d0;have hla:=vQ (wU d0).1;have htx:=AJ d0 ht0;have hca:=GU (f:=136) h27 (d:=d0) J;simp only[itR]at hca;have hx0:=nY d0;revert hni hla hca htx hx0;generalize (wU d0).1=l;generalize (wU d0).2=x;intro hni hla htx hca hx0;have hkx:=j4 x;have hlx:=vQ (gL x);obtain⟨kd,n,t,ks,p⟩:=x;obtain⟨ak,an,at_,aks,ap⟩:=d0;simp only[ZL,wz]at hca;simp only[gL]at hkx hlx;obtain⟨htl,htx⟩:=htx;simp only[TxD]at htx;have hnum:=Pt (f:=138) h29 htx.1 J;have his:=aZ h30 n;have hco:=Yq (f:=137) h28 htx.1 J;unfold f105 cF;simp only;apply k.q;apply k.q;refine Ye (p:=l.all vz=true) ⟨tmL [(4,.ptr 0 0)],[]⟩ (H [some (jQ (.mk kd n t ks p))] 0 true) ?_ ?_
 .apply k.q;refine qx (ve (k.gcL [1] [5,4,3] true (fr1:=⟨tmL [(5,.int .i64 (.ofNat 0)),(4,.ptr 0 0),(3,.lst (zM l) false (wy l))],[]⟩) (s1:=H [some (jQ (.mk kd n t ks p))] 0 true) (by simp (disch:=first|exact dis|fail)only[go_sem,seval,-rO,-rN,jQ,wz]) ?_))
  refine jd (λi:Nat=>zM l-i) (λi=>⟨tmL [(5,.int .i64 (.ofNat i)),(4,.ptr 0 0),(3,.lst (zM l) false (wy l))],[]⟩) (λ_=>H [some (jQ (.mk kd n t ks p))] 0 true) (λi=>i<=zM l/\(l.drop i).all vz=l.all vz) (λi hi=>?_) 0 ⟨yh _,rfl⟩;obtain⟨g1,g2⟩:=hi;rcases wj l i with ⟨hi,hd⟩|⟨u,hi,hd⟩
  .have hlt:¬i<zM l:=J;rw[hd]at g2;apply k.z;simp only[YW];refine⟨g2.symm,?_⟩;exact k.g [0] [4]
  .have hmem:u∈l:=zv9 (by rw[hd];exact zua)
   have hc:=ZT (f:=105) h12 (htl.mem hmem) (by have:=vv hmem;have:=qW (.mk kd n t ks p);omega)
   have hdr:wX (i*5) (wy l)=qA u++wy (l.drop (i+1)):=by rw[Xl,hd,jh]
   rw[cD hd]at g2;obtain⟨uk,un,ut,uks,up⟩:=u;simp only[wz]at hc;cases hsm:vz (.mk uk un ut uks up)with
   |true=>
    rw[hsm]at hc g2;apply k.z;refine⟨i+1,⟨J,by rw[<-g2,y9]⟩,J,?_⟩
    exact k.g [0] [5,4,3]
   |false=>
    rw[hsm]at hc g2;apply k.z;simp only[YW];rw[<-g2,zv7,zv7];exact fin
 intro hp;rw[hp,y9];rw[show zwX (.mk kd n t ks p)=(if kd=.ofNat 7 then ks.all vz else decide (zM ks=0)&&Vd kd n t)from rfl];by_cases k7:kd=.ofNat 7
 .subst k7;rw[wc rfl];apply k.q;refine Ye (p:=ks.all vz=true) ⟨tmL [(4,.ptr 0 0)],[]⟩ (H [some (jQ (.mk (.ofNat 7) n t ks p))] 0 true) ?_ ?_
  .apply k.q;refine qx (ve (k.gcL [0] [6,4] true (fr1:=⟨tmL [(6,.int .i64 (.ofNat 0)),(4,.ptr 0 0)],[]⟩) (s1:=H [some (jQ (.mk (.ofNat 7) n t ks p))] 0 true) (by simp (disch:=first|exact dis|fail)only[go_sem,seval,-rO,-rN,jQ,wz]) ?_))
   refine jd (λi:Nat=>zM ks-i) (λi=>⟨tmL [(6,.int .i64 (.ofNat i)),(4,.ptr 0 0)],[]⟩) (λ_=>H [some (jQ (.mk (.ofNat 7) n t ks p))] 0 true) (λi=>i<=zM ks/\(ks.drop i).all vz=ks.all vz) (λi hi=>?_) 0 ⟨yh _,rfl⟩;obtain⟨g1,g2⟩:=hi;rcases wj ks i with ⟨hi,hd⟩|⟨u,hi,hd⟩
   .have hlt:¬i<zM ks:=J;rw[hd]at g2;apply k.z;simp only[YW];refine⟨g2.symm,?_⟩;exact k.g [0] [4]
   .have hmem:u∈ks:=zv9 (by rw[hd];exact zua)
    have hc:=ZT (f:=105) h12 (htx.2.2.mem hmem) (by have:=vv hmem;omega)
    have hdr:wX (i*5) (wy ks)=qA u++wy (ks.drop (i+1)):=by rw[Xl,hd,jh]
    rw[cD hd]at g2;obtain⟨uk,un,ut,uks,up⟩:=u;simp only[wz]at hc;cases hsm:vz (.mk uk un ut uks up)with
    |true=>
     rw[hsm]at hc g2;apply k.z;refine⟨i+1,⟨J,by rw[<-g2,y9]⟩,J,?_⟩
     exact k.g [0] [6,4]
    |false=>
     rw[hsm]at hc g2;apply k.z;simp only[YW];rw[<-g2,zv7];exact fin
  intro hq;rw[hq];simp only[jH]at hco;cases hc:vP t with
  |none=>
   rw[hc]at hco;apply k.z;exact fin
  |some ll=>
   rw[hc]at hco;apply k.z;exact fin
 rw[x0 k7];have e7:=w8 k7;by_cases hl:zM ks=0
 case neg=>
  have hl2:0<zM ks:=J;rw[qb hl,zv7];apply k.z;exact fin
 have hks:ks=[]:=List.eq_nil_of_length_eq_zero hl;subst hks;rw[qp hl,y9];apply k.q;refine WO ⟨tmL [(4,.ptr 0 0)],[]⟩ (H [some (jQ (.mk kd n t [] p))] 0 true) ?_ ?_
 .apply ql;refine k.gc [0] [4] true (fr1:=⟨tmL [(4,.ptr 0 0)],[]⟩) (s1:=H [some (jQ (.mk kd n t [] p))] 0 true) (by simp (disch:=first|exact dis|fail)only[go_sem,seval,-rO,-rN,jQ,wz]) ?_
  apply k.z;refine qx (ve (vE (k.ev ?_)));simp (disch:=first|exact dis|fail)only[go_sem,seval,-rO,-rN,jQ,wz]
  refine⟨_,rfl,?_⟩;simp only[wJ,ub,Cut];exact k.g [0] [4]
 unfold Vd;simp only[jH]at hco;by_cases k0:kd=.ofNat 0
 .subst k0;cases hc:vP t with
  |none=>
   rw[hc]at hco;apply k.z;exact fin
  |some ll=>
   rw[hc]at hco;apply k.z;exact fin
 by_cases k8:kd=.ofNat 8
 .subst k8;cases hc:vP t with
  |none=>
   rw[hc]at hco;apply k.z;exact fin
  |some ll=>
   rw[hc]at hco;apply k.z;exact fin
 by_cases k9:kd=.ofNat 9
 .subst k9;cases hc:vP t with
  |none=>
   rw[hc]at hco;apply k.z;exact fin
  |some ll=>
   rw[hc]at hco;apply k.z;exact fin
 by_cases k10:kd=.ofNat 10
 .subst k10;cases hc:vP t with
  |none=>
   rw[hc]at hco;apply k.z;exact fin
  |some ll=>
   rw[hc]at hco;apply k.z;exact fin
 rw[x0 (by simp only[k0,k8,k9,k10,or_self,not_false_eq_true])]
 have e0:=w8 k0;have e8:=w8 k8;have e9:=w8 k9;have e10:=w8 k10;by_cases k1:kd=.ofNat 1
 .subst k1;rw[wc rfl];cases hc:vP t with
  | none=>
   rw[hc]at hco;cases h0:eqD n (.ofNat 0)with
   |true=>
    apply k.z;exact fin
   |false=>
    apply k.z;exact fin
  | some ll=>
   rw[hc]at hco;cases h0:eqD n (.ofNat 0)with
   |true=>
    apply k.z;exact fin
   |false=>
    apply k.z;exact fin
 rw[x0 k1];have e1:=w8 k1;by_cases k2:kd=.ofNat 2
 .subst k2;rw[wc rfl];cases hc:vP t with
  |none=>
   rw[hc]at hco;apply k.z;exact fin
  |some ll=>
   rw[hc]at hco;apply k.z;exact fin
 rw[x0 k2];have e2:=w8 k2;by_cases k3:kd=.ofNat 3
 .subst k3;rw[wc rfl];cases hc:vP t with
  |none=>
   rw[hc]at hco;apply k.z;exact fin
  |some ll=>
   rw[hc]at hco;apply k.z;exact fin
 rw[x0 k3];have e3:=w8 k3;by_cases k4:kd=.ofNat 4
 .subst k4;rw[wc rfl];simp only[okC];cases hc:vP t with
  |none=>
   rw[hc]at hco;apply k.z;exact fin
  |some ll=>
   rw[hc]at hco;apply k.z;exact fin
 rw[x0 k4];have e4:=w8 k4;by_cases k5:kd=.ofNat 5
 .subst k5;rw[wc rfl];simp only[okC];cases hc:vP t with
  |none=>
   rw[hc]at hco;apply k.z;exact fin
  | some ll=>
   rw[hc]at hco;cases t with
   |nil=>
    apply k.z;exact fin
   |cons t0 tr=>
    apply k.z;exact fin
 rw[x0 k5];have e5:=w8 k5;cases hc:vP t with
 |none=>
  rw[hc]at hco;apply k.z;exact fin
 |some ll=>
  rw[hc]at hco;apply k.z;exact fin
end Go.Proofs.YtbdfljdgapkbcaaGreatDoor.Ev

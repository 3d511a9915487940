/- A part of the evaluator and of its soundness: what it answers, the model's run answers. No conditions. -/
import Derived.Test.YtbdfljdgapkbcaaGreatDoorEvG
import Derived.Maps.RangeRun
set_option linter.unusedSimpArgs false
set_option linter.unusedVariables false
set_option linter.defProp false
open List renaming length → zM, map_cons → zY, length_cons → yw, cons_append → yd, eq_nil_of_length_eq_zero → yS
open Int renaming reduceNegSucc → xL, reduceOfNat → xM
open Nat renaming ble → zH, mul → zF, lt_succ_self → yx, not_lt_zero → zvZ, testBit_mod_two_pow → zv0, le_refl → zS, add → zE, testBit_shiftLeft → zv3
open Array renaming getElem?_toList → zX
open List.Perm renaming refl → zv1, swap → zv2
open Bool renaming and_self → xO
namespace Go.Proofs.YtbdfljdgapkbcaaGreatDoor.Ev
variable {n i f m esz bytes t:Nat}{s:U}{P:Program}{b:Bool}{v:Z}{a cs:zt}{xs:zf}{E:Env}{O:Orc}{X:World}{l:za}
open Go.RowKit (Below)
def Ev(X9:zh)(Q:Res->Fr->U->Prop):Prop:=∃r fr s,X9=some (r,fr,s)/\Q r fr s
def Cv(X9:zb)(R:Z->U->Prop):Prop:=∃v s,X9=some (v,s)/\R v s
section
variable {E:Env}{O:Orc}{rd:zw}{ia ib ic:ICode}{fr fr':Fr}{s s':U}{Q Q':Res->Fr->U->Prop}{X9 Y9:zh}{U9 V9:zb}{R R':Z->U->Prop}
def jr{r:Res}(h:Q r fr s):Ev (some (r,fr,s)) Q:=⟨r,fr,s,rfl,h⟩
def J9(h:R v s):Cv (some (v,s)) R:=⟨v,s,rfl,h⟩
def Ev.mono(h:Ev X9 Q)(hq:∀r f t,Q r f t->Q' r f t):Ev X9 Q':=by
 obtain⟨r,f,t,e,q⟩:=h;exact⟨r,f,t,e,hq _ _ _ q⟩
def Cv.mono(h:Cv U9 R)(hq:∀v t,R v t->R' v t):Cv U9 R':=by
 obtain⟨v,t,e,q⟩:=h;exact⟨v,t,e,hq _ _ q⟩
def sD{k:Fr->U->zh}(h:Ev X9 (wJ (λf t=>Ev (k f t) Q) Q)):Ev (ko k X9) Q:=by
 obtain⟨r,f,t,rfl,q⟩:=h;cases r with
 |norm=>exact q
 |exit i=>exact⟨_,_,_,rfl,q⟩
 |ret=>exact⟨_,_,_,rfl,q⟩
def xU(h:Ev (evC E (evW E O) rd ia fr s) (wJ (λf t=>Ev (evC E (evW E O) rd ib f t) Q) Q)):Ev (evC E (evW E O) rd (.seq ia ib) fr s) Q:=sD h
theorem Ce{Y:Nat}(h:Ev X9 (ub Y Q)):Ev (gS Y X9) Q:=by
 obtain⟨r,f,t,rfl,q⟩:=h;cases r with
 |norm=>exact⟨_,_,_,rfl,q⟩
 |ret=>exact⟨_,_,_,rfl,q⟩
 |exit i=>
  refine⟨if i=Y then .norm else .exit i,f,t,?_,q⟩;rw[Jf];split<;>rfl
def x4{Y:Nat}(h:Ev (evC E (evW E O) rd ib fr s) (ub Y Q)):Ev (evC E (evW E O) rd (.block Y ib) fr s) Q:=Ce h
def wq{α:Type}(m:α->Nat)(Ir:α->Fr->U->Prop)(h:∀x fr s,Ir x fr s->Ev (evC E (evW E O) rd ib fr s) (wJ (λf t=>∃y,Ir y f t/\m y<m x) Q))(x:α)(hx:Ir x fr s):Ev (evC E (evW E O) rd (.loop ib) fr s) Q:=by
 have key:∀n x fr s,Ir x fr s->m x<n->Ev (evC E (evW E O) rd (.loop ib) fr s) Q:=by
  intro n
  induction n with
  |zero=>intro x fr s _ h;omega
  |succ n ih=>
   intro x fr s hx hn;rw[FS];refine sD ((h x fr s hx).mono λr f t=>?_);cases r with
   |norm=>exact λ⟨y,hy,hm⟩=>ih y f t hy J
   |exit i=>exact λh=>h
   |ret=>exact λh=>h
 exact key _ x fr s hx (yx _)
def xZ{df:zr}{ops:List SOper}{A:zu}{d:zw}(hc:Cv U9 R)(h:∀v t,R v t->Ev (j5 df (evS E (evW E O) ops (vC A d v) t)) Q):Ev (j5 df (sg (stS A d U9) (evS E (evW E O) ops))) Q:=by
 obtain⟨v,t,rfl,q⟩:=hc;exact h v t q
def w7{df:zr}{ops:zo}{j:Nat}{A:zu}{d:zw}{deps:Nat}{log:List LogE}{hd:zg}{on:ze}{tch:Option zr}(hc:Cv U9 R)(h:∀v t,R v t->Ev (j5 df (sb (opD.endS2 d deps i log A n m hd on tch (some (v,t))) (evD E (evW E O) ops j))) Q):Ev (j5 df (sb (opD.endS2 d deps i log A n m hd on tch U9) (evD E (evW E O) ops j))) Q:=by
 obtain⟨v,t,rfl,q⟩:=hc;exact h v t q
def vf{f:Nat}{F:IFunc}(h:O f=none)(hF:E.funs.get f=some F)(hp:E.pure f=true){hd:zg}{on:ze}(ha:zM a<=F.ntmps)
  (hB:Ev (evC E (evW E O) none F.body ⟨qk (tmL []) 0 a,[]⟩ (KL l n 0 true hd on)) λr fr t=>Cv (Xd (KL l n m b hd on) (qv E.globs F.res (some (r,fr,t)))) R):Cv ((evW E O).call f a (KL l n m b hd on)) R:=by
 obtain⟨r,fr,t,e,q⟩:=hB;rw[jn h hF hp _ _ _ _ _ _ _ ha,e];exact q
def wp{f:Nat}{F:IFunc}(h:O f=none)(hF:E.funs.get f=some F)(hp:E.pure f=false){hd:zg}{on:ze}(ha:zM a<=F.ntmps)
  (hB:Ev (evC E (evW E O) none F.body ⟨qk (tmL []) 0 a,[]⟩ (KL l n m false hd on)) λr fr t=>Cv (mdR b (qv E.globs F.res (some (r,fr,t)))) R):Cv ((evW E O).call f a (KL l n m b hd on)) R:=by
 obtain⟨r,fr,t,e,q⟩:=hB;rw[cP h hF hp _ _ _ _ _ _ _ ha,e];exact q
end
section
variable {E:Env}{O:Orc}{ia ib ic:ICode}{fr fr':Fr}{s s':U}{Q:Res->Fr->U->Prop}{X9 Y9:zh}{U9 V9:zb}{R:Z->U->Prop}{r:Res}
def cvF{f:Nat}{F:IFunc}(hF:E.funs.get f=some F)(hp:E.pure f=true)(ha:zM a<=F.ntmps)
  (hB:Ev (evC E (evW E O) none F.body ⟨qk (tmL []) 0 a,[]⟩ (KL [] 0 0 true)) λr fr t=>Cv (Xd (KL [] 0 0 b) (qv E.globs F.res (some (r,fr,t)))) R):Cv (kY E (evW E O) f a (s00 0 b)) R:=by
 obtain⟨r,fr,t,e,q⟩:=hB;have:kY E (evW E O) f a (s00 0 b)=Xd (KL [] 0 0 b) (qv E.globs F.res (evC E (evW E O) none F.body ⟨qk (tmL []) 0 a,[]⟩ (KL [] 0 0 true))):=by
  unfold kY;rw[hF];simp only[qw,wB.2 ha,x6,hp];rfl
 rw[this,e];exact q
def zvJ{f:Nat}{F:IFunc}(hF:E.funs.get f=some F)(hp:E.pure f=false)(ha:zM a<=F.ntmps)
  (hB:Ev (evC E (evW E O) none F.body ⟨qk (tmL []) 0 a,[]⟩ (KL [] 0 0 false)) λr fr t=>Cv (mdR b (qv E.globs F.res (some (r,fr,t)))) R):Cv (kY E (evW E O) f a (s00 0 b)) R:=by
 obtain⟨r,fr,t,e,q⟩:=hB;have:kY E (evW E O) f a (s00 0 b)=mdR b (qv E.globs F.res (evC E (evW E O) none F.body ⟨qk (tmL []) 0 a,[]⟩ (KL [] 0 0 false))):=by
  unfold kY;rw[hF];simp only[qw,wB.2 ha,x6,hp,wh];rfl
 rw[this,e];exact q
def xX{Z9:Prop}(q:Z9)(h:X9=some (r,fr',s'):=by (simp (disch:=first|exact dis|fail)only[go_sem,seval,-Int.reduceOfNat,-Int.reduceNegSucc, *];exact rfl))(h2:Q r fr' s'=Z9:=by (try simp only[wJ,ub,if_true, ↓reduceIte]);first|done|exact rfl):Ev X9 Q:=by
 subst h2;subst h;exact jr q
def wi(q:Ev Y9 Q)(h:X9=Y9:=by (simp (disch:=first|exact dis|fail)only[go_sem,seval,-Int.reduceOfNat,-Int.reduceNegSucc, *];exact rfl)):Ev X9 Q:=h▸q
def xY{Z9:Prop}(q:Z9)(h:evC E (evW E O) none ia fr s=some (r,fr',s'):=by (simp (disch:=first|exact dis|fail)only[go_sem,seval,-Int.reduceOfNat,-Int.reduceNegSucc, *];exact rfl))(h2:wJ (λf t=>Ev (evC E (evW E O) none ib f t) Q) Q r fr' s'=Z9:=by (try simp only[wJ,ub,if_true, ↓reduceIte]);first|done|exact rfl):Ev (evC E (evW E O) none (.seq ia ib) fr s) Q:=
 xU (by rw[h];exact jr (h2▸q))
def qz{Z9:Prop}(q:Z9)(h:U9=some (v,s):=by (simp (disch:=first|exact dis|fail)only[go_sem,seval,-Int.reduceOfNat,-Int.reduceNegSucc,Nat.mod_one, *];exact rfl))(h2:R v s=Z9:=by exact rfl):Cv U9 R:=by
 subst h2;subst h;exact J9 q
def ev_zc{Z9:Prop}(q:Z9)(h:X9=some (r,fr',s'):=by (simp (disch:=first|exact dis|fail)only[go_sem,seval,-Int.reduceOfNat,-Int.reduceNegSucc, *];exact rfl))(h2:Q r fr' s'=Cv U9 R:=by (try simp only[wJ,ub,if_true, ↓reduceIte]);first|done|exact rfl)(h3:U9=some (v,s):=by (simp (disch:=first|exact dis|fail)only[go_sem,seval,-Int.reduceOfNat,-Int.reduceNegSucc,Nat.mod_one, *];exact rfl))(h4:R v s=Z9:=by exact rfl):Ev X9 Q:=by
 subst h4;subst h;exact jr (h2▸h3▸J9 q)
end
def gN{j:Nat}{o:zj}{L:za}(h:¬j=i):x3 ((i,o)::L) j=x3 L j:=by rw[x5,x0 h]
abbrev G(T:List (Nat×Z))(k:Nat)(v:Z):Prop:=(tmL T).get k=some v
attribute [go_sem] G
instance :Coe Int Z:=⟨.int .i64⟩
instance :Coe Nat Z:=⟨λn=>.int .i64 (.ofNat n)⟩
def zz7(n:Nat):Cap->Prop
 |.fix m=>n<=m
 |.opn _=>True
mutual
def Fz(s:U):Z->Z->Prop
 |v,.lst n ex cs=>wo cs=true/\(wkV v=.lst n ex cs\/(ex=false/\∃Y off c e cells x f us,v=.sl Y off n c/\zz7 n c/\s.get Y=some (.row e cells x f)/\cut cells off (zM cs)=some us/\FzL s us cs))
 |v,.agg cs=>∃us,v=.agg us/\FzL s us cs
 |v,.tup cs=>∃us,v=.tup us/\FzL s us cs
 |v,w=>wkV v=w
def FzL(s:U):zt->zt->Prop
 |us,[]=>us=[]
 |us,w::ws=>∃u us',us=u::us'/\Fz s u w/\FzL s us' ws
end
def FzL.len{s:U}:∀{us ws:zt},FzL s us ws->zM us=zM ws
 |_,[],h=>by simp only[FzL]at h;rw[h]
 |_,w::ws,h=>by
  simp only[FzL]at h;obtain⟨u,us',rfl,_,h2⟩:=h;simp[FzL.len h2]
def FzL.append{s:U}:∀{us ws us' ws':zt},FzL s us ws->FzL s us' ws'->FzL s (us++us') (ws++ws')
 |_,[],_,_,h,h'=>by simp only[FzL]at h;rw[h];exact h'
 |_,w::ws,us',ws',h,h'=>by
  simp only[FzL]at h;obtain⟨u,us1,rfl,h1,h2⟩:=h;simp only[yd,FzL];exact⟨u,us1++us',rfl,h1,FzL.append h2 h'⟩
noncomputable def Phi.full(I:Phi)(k:Nat)(w:World):Phi:=⟨I.m,λb o=>if k<=b then (match w.heap[b]? with
 |some (.cells c _ _)=>c[o]?
 |_=>none)else I.z b o⟩
section
variable {P:Program}{X w w':World}{I I':Phi}{s:U}
def nN(r:Rel P X I' s.get w')(k:Nat):∀b o v,I'.z b o=some v->(I'.full k w').z b o=some v:=λb o v h=>by
 obtain⟨c,e,fr,h1,h2⟩:=r.frz b o v h;show (if k<=b then _ else _)=_;split
 .rw[h1];exact h2
 .exact h
def vt(r:Rel P X I' s.get w')(k:Nat):Sub I' (I'.full k w'):=⟨λ_ _ h=>h,nN r k⟩
mutual
theorem ez{k:Nat}(r:Rel P X I' s.get w')(hn:∀Y B,I' Y=some B->(∃o,s.get Y=some o)->k<=B.b):∀{v w:Z} {x:Value},Fz s v w->VR I' v x->VR (I'.full k w') w x
 | v,.lst n ex cs,x,h,hv=>by
  simp only[Fz]at h;obtain⟨hp,h|⟨rfl,Y,off,c,e,cells,xt,f,us,rfl,hco,hg,hc,hf⟩⟩:=h
  .rw[<-h];exact VR.mono (vt r k) _ _ (qE hv)
  .simp only[VR]at hv;obtain⟨B,kk,hB,rfl,hcap⟩:=hv;obtain⟨B',hB',t⟩:=r.obj Y _ hg;rw[hB]at hB';cases hB';have hk:=hn Y B hB ⟨_,hg⟩;simp only[ObjRel]at t;obtain⟨cc,fr,t1,t2,t3,t4,t5,_⟩:=t;simp only[VR];obtain⟨c1,c2,c3⟩:=cut_some hc;have hus:VRL I' us ((((cc.toList.drop B.o).take (zM cells)).drop off).take (zM cs)):=by rw[c3];exact(t5.drop off).take _
   refine⟨hp,.inr ⟨B.b,B.o+off,kk,(((cc.toList.drop B.o).take (zM cells)).drop off).take (zM cs),rfl,(by simp),?_,?_,WB r hn hf hus⟩⟩
   .cases c with
    |fix m=>simp only at hcap;subst hcap;exact hco
    |opn m=>simp only at hcap;exact hcap.2.2.1
   .refine ZC.of λi y hi=>?_;show (if k<=B.b then _ else _)=_;rw[wc hk,t1];show cc[B.o+off+i]? =_;simp only[List.getElem?_take,List.getElem?_drop]at hi;split at hi
    .split at hi
     .rw[<-zX,Nat.add_assoc];exact hi
     .cases hi
    .cases hi
 |v,.agg cs,x,h,hv=>by
  simp only[Fz]at h;obtain⟨us,rfl,h⟩:=h;simp only[VR]at hv|-;obtain⟨xs,rfl,hv⟩:=hv;exact⟨xs,rfl,WB r hn h hv⟩
 |v,.tup cs,x,h,hv=>by
  simp only[Fz]at h;obtain⟨us,rfl,h⟩:=h;simp only[VR]at hv|-;obtain⟨xs,rfl,hv⟩:=hv;exact⟨xs,rfl,WB r hn h hv⟩
 |v,.bool _,x,h,hv=>by simp only[Fz]at h;rw[<-h];exact VR.mono (vt r k) _ _ (qE hv)
 |v,.int _ _,x,h,hv=>by simp only[Fz]at h;rw[<-h];exact VR.mono (vt r k) _ _ (qE hv)
 |v,.str _,x,h,hv=>by simp only[Fz]at h;rw[<-h];exact VR.mono (vt r k) _ _ (qE hv)
 |v,.ptr _ _,x,h,hv=>by simp only[Fz]at h;rw[<-h];exact VR.mono (vt r k) _ _ (qE hv)
 |v,.nilp,x,h,hv=>by simp only[Fz]at h;rw[<-h];exact VR.mono (vt r k) _ _ (qE hv)
 |v,.gptr _ _,x,h,hv=>by simp only[Fz]at h;rw[<-h];exact VR.mono (vt r k) _ _ (qE hv)
 |v,.sl _ _ _ _,x,h,hv=>by simp only[Fz]at h;rw[<-h];exact VR.mono (vt r k) _ _ (qE hv)
 |v,.sl0,x,h,hv=>by simp only[Fz]at h;rw[<-h];exact VR.mono (vt r k) _ _ (qE hv)
 |v,.nils,x,h,hv=>by simp only[Fz]at h;rw[<-h];exact VR.mono (vt r k) _ _ (qE hv)
 |v,.map _,x,h,hv=>by simp only[Fz]at h;rw[<-h];exact VR.mono (vt r k) _ _ (qE hv)
 |v,.nilm,x,h,hv=>by simp only[Fz]at h;rw[<-h];exact VR.mono (vt r k) _ _ (qE hv)
 |v,.fn _ _ _,x,h,hv=>by simp only[Fz]at h;rw[<-h];exact VR.mono (vt r k) _ _ (qE hv)
 |v,.nilf,x,h,hv=>by simp only[Fz]at h;rw[<-h];exact VR.mono (vt r k) _ _ (qE hv)
 |v,.yld _,x,h,hv=>by simp only[Fz]at h;rw[<-h];exact VR.mono (vt r k) _ _ (qE hv)
 |v,.ifc _ _,x,h,hv=>by simp only[Fz]at h;rw[<-h];exact VR.mono (vt r k) _ _ (qE hv)
 |v,.nili,x,h,hv=>by simp only[Fz]at h;rw[<-h];exact VR.mono (vt r k) _ _ (qE hv)
 |v,.gr _ _ _ _,x,h,hv=>by simp only[Fz]at h;rw[<-h];exact VR.mono (vt r k) _ _ (qE hv)
 |v,.vp _,x,h,hv=>by simp only[Fz]at h;rw[<-h];exact VR.mono (vt r k) _ _ (qE hv)
theorem WB{k:Nat}(r:Rel P X I' s.get w')(hn:∀Y B,I' Y=some B->(∃o,s.get Y=some o)->k<=B.b):∀{us ws:zt} {xs:zy},FzL s us ws->VRL I' us xs->VRL (I'.full k w') ws xs
 |us,[],xs,h,hv=>by simp only[FzL]at h;subst h;simpa only[VRL]using hv
 |us,w::ws,xs,h,hv=>by
  simp only[FzL]at h;obtain⟨u,us',rfl,h1,h2⟩:=h;simp only[VRL]at hv|-;obtain⟨y,ys,rfl,h3,h4⟩:=hv;exact⟨y,ys,rfl,ez r hn h1 h3,WB r hn h2 h4⟩
end
end
def fY(hO:OrcOk P X O)(hm:P.follows .mixedOrders=true)(hG:wG E.globs X)(hE:lL P E){args:zt}(h:Cv (kY E (evW E O) f args (s00 0 b)) λv0 s1=>Fz s1 v0 v):∃s1,SC P X f args (s00 0 b) v s1:=by
 obtain⟨v0,s1,e,hz⟩:=h;obtain⟨h1,h2⟩:=Jk (nG hO.ext hm hG hE hO.ok) hG hE (aI hm hG _ (nG hO.ext hm hG hE hO.ok)) e;refine⟨{s00 0 b with next:=s1.next,wm:=s1.wm},h1,λI w xs r hwf hf hx F n hF=>(h2 r hwf (λY hid=>hf Y hid) hx F n hF).mono ?_⟩
 rintro e' w' ⟨I',x,rfl,k1,k2⟩
 have hnew:∀Y B,I' Y=some B->(∃o,s1.get Y=some o)->w.heap.size<=B.b:=λY B hB ⟨o,ho⟩=>by
  have hlt:Y<s1.next:=by
   have:=(k1.ext.wf hwf).lt Y o (wZ ho);exact this
  rcases k1.own Y B (Nat.zero_le _) hlt hB with h|⟨id0,o0,B0,q,_⟩
  .exact h
  .rw[WN]at q;cases q
 have hgn:∀Y o,({s00 0 b with next:=s1.next,wm:=s1.wm}:U).get Y=some o->False:=λY o h=>by
  have:=wZ h;simp[s00,Trie.get]at this
 have hz':∀b o v,(I'.full w.heap.size w').z b o=some v->I.z b o=some v\/w.heap.size<=b:=λb o v h=>by
  by_cases hb:w.heap.size<=b
  .exact .inr hb
  .have h':I'.z b o=some v:=by
    have:(if w.heap.size<=b then _ else I'.z b o)=some v:=h
    rwa [x0 hb]at this
   rcases k1.zown b o v h' with h|h|⟨id0,o0,B0,q,_⟩
   .exact .inl h
   .exact .inr h
   .rw[WN]at q;cases q
 refine⟨I'.full w.heap.size w',x,rfl,⟨⟨k1.ext.next,k1.ext.wm,rfl,rfl,λY hid _=>absurd hid (zvZ _),λY o hid _=>absurd hid (zvZ _),λ_=>⟨λY o h=>?_,λp hp=>absurd (show p∈([]:zg)from hp) (by simp)⟩,λY hid _=>absurd hid (zvZ _),λY o hid _ _ _=>absurd hid (zvZ _)⟩,⟨k1.rel.base,λY o h=>(hgn Y o h).elim,k1.rel.rng,λY o B h _ _=>(hgn Y o h).elim,λY id' o o' B B' h _ _ _ _=>(hgn Y o h).elim,λb o v h=>?_,λY o B h _=>(hgn Y o h).elim⟩,k1.same,k1.size,k1.frame,λY B h1 h2 h3=>?_,λb o v h=>nN k1.rel _ _ _ _ (k1.zsub b o v h),λb o v h=>?_⟩,ez k1.rel hnew hz k2⟩
 .simp[s00,Trie.get]at h
 .have h':(if w.heap.size<=b then (match w'.heap[b]? with
   |some (.cells c _ _)=>c[o]?
   |_=>none)else I'.z b o)=some v:=h
  split at h'
  .split at h'
   .rename_i c e fr hw;exact⟨c,e,fr,hw,h'⟩
   .cases h'
  .exact k1.rel.frz b o v h'
 .exact k1.own Y B h1 h2 h3
 .rcases hz' b o v h with h|h
  .exact .inl h
  .exact .inr (.inl h)
theorem aW{need:Nat}(he:1<=esz)(hb:2*need*bytes<=281474976710656)(hn:need<9223372036854775808):grow s t esz bytes cs need=some (.sl s.next 0 need (.opn esz),s.alloc (.row t cs true false)):=by
 simp only[grow];rw[show zH (zF (zF 2 need) bytes) 281474976710656=true from wB.2 hb,show zH 1 esz=true from wB.2 he,show Nat.blt need 9223372036854775808=true from w9.2 hn];rfl
def WM{a b c v:zt}{off:Nat}(h1:List.length a=off)(h2:List.length v=List.length b):jk (a++(b++c)) off v=some (a++(v++c)):=by
 subst h1
 induction a with
 | nil=>
  show jk (b++c) 0 v=some (v++c);have over_ok:∀(v b c:zt),zM v=zM b->V1 (b++c) v=some (v++c):=by
   intro v
   induction v with
   |nil=>intro b c h;cases b with
    |nil=>cases c<;>rfl
    |cons _ _=>simp at h
   |cons x v ih=>intro b c h;cases b with
    |nil=>simp at h
    |cons y b=>simp only[yd,V1,ih b c (by simpa using h)]
  cases h:b++c with
  |nil=>rw[<-over_ok v b c h2,h];rfl
  |cons x r=>rw[<-over_ok v b c h2,h];rfl
 |cons x a ih=>simp only[yd,yw,jk,ih]
section
variable {l:za}{n m t esz bytes Y k q:Nat}{b:Bool}{hd:zg}{on:ze}{y:Z}{old new:zt}
theorem Lh(h1:j6 y=some (q+1))(h2:qu (KL l n m b hd on) esz (q+1) y=some new)(hm:b=false\/wo new=false)(he:1<=esz)(hb:2*(q+1)*bytes<=281474976710656)(hn:q<1000000000000):
  uE (KL l n m b hd on) t esz bytes .nils y=some (.sl n 0 (q+1) (.opn esz),KL ((n,some (.row t new true false))::l) (n+1) m b hd on):=by
 have hz:(b&&wo new)=false:=by rcases hm with rfl|h<;>simp[*]
 simp only[uE,h1,h2,ZI,Q5,hz,wh];rw[aW he hb J];rfl
theorem KO(hg:(KL l n m b hd on).get Y=some (.row t old true false))(hk:zM old=k*esz)(h1:j6 y=some (q+1))(h2:qu (KL l n m b hd on) esz (q+1) y=some new)(hs:wO new=true)(he:1<=esz)(hb:2*(k+(q+1))*bytes<=281474976710656)(hn:k+q<1000000000000):
  uE (KL l n m b hd on) t esz bytes (.sl Y 0 k (.opn esz)) y=some (.sl n 0 (k+(q+1)) (.opn esz),KL ((n,some (.row t (old++new) true false))::(Y,none)::l) (n+1) (kr m Y) b hd on):=by
 have hle:zH (zE 0 (zF (zE k (Nat.succ q)) esz)) (qQ old)=false:=by
  rw[qw,hk];cases h:zH (zE 0 (zF (zE k (Nat.succ q)) esz)) (k*esz)with
  |false=>rfl
  |true=>
   exfalso
   have h2:=wB.1 h;have h3:0+(k+(q+1))*esz<=k*esz:=h2;rw[Nat.add_mul]at h3;have:1<=(q+1)*esz:=Nat.mul_pos J J;omega
 have hc:cut old 0 (zF k esz)=some old:=by
  rw[Vk,show zF k esz=(zM old)from hk.symm];exact qg rfl
 simp only[uE,h1,h2,ZI,hg,wH.2 (rfl:esz=esz),wH.2 (rfl:t=t),Bool.not_false,Bool.and_true,xO,x6,hle,wh,hs,hc,Ey];rw[show zE k (Nat.succ q)=k+(q+1)from rfl,aW he hb J];rfl
end
theorem j7{Y j e q:Nat}{c:Cap}{x f:Bool}(hg:s.get Y=some (.row e cs x f))(hl:List.length cs=q*esz):j6 (.sl Y 0 q c)=some q/\qu s esz q (.sl Y 0 q c)=some cs:=by
 refine⟨rfl,?_⟩;simp only[qu,hg,Vk,show zF q esz=(zM cs)from hl.symm];exact qg rfl
theorem zxJ(l:za)(n m:Nat)(hd:zg)(on:ze)(e len:Nat)(cs:zt):VY (KL l n m false hd on) e len (some cs)=some (.sl n 0 len (.fix len),KL ((n,some (.row e cs false false))::l) (n+1) m false hd on):=rfl
attribute [go_sem] zxJ
def ltF{j:Nat}(h:i<j):(i=j)=False:=eq_false J
def gtF{j:Nat}(h:j<i):(i=j)=False:=eq_false J
def we{m i n:Nat}(h:n<=i):(m|||1<<<i)%2^n=m%2^n:=by
 apply Nat.eq_of_testBit_eq;intro j;simp only[zv0,Nat.testBit_or,zv3];by_cases hj:j<n
 .have:¬i<=j:=J;simp[hj,this]
 .simp[hj]
def x9(h:n<=i):(1<<<i)%2^n=0:=by
 have:= @we 0 i n h
 simpa using this
def kA{α:Type}(f:α->zt)(esz Y:Nat)(vs:List α):Z:=match vs with
 |[]=>.nils
 |_::_=>.gr Y esz (zM vs) (xW f vs)
def Jb{α:Type}(t:Nat)(f:α->zt)(L:za)(n Y:Nat)(vs:List α):Prop:=vs≠[]->Y<n/\x3 L Y=some (.app t (xW f vs))
theorem VM{need:Nat}(he:1<=esz)(hb:2*need*bytes<=281474976710656)(hn:need<9223372036854775808)(hp:wo cs=true):ZP s t esz bytes cs need=some (.gr s.next esz need cs,s.alloc (.app t cs)):=by
 simp only[ZP];rw[show zH (zF (zF 2 need) bytes) 281474976710656=true from wB.2 hb,show zH 1 esz=true from wB.2 he,show Nat.blt need 9223372036854775808=true from w9.2 hn,hp];rfl
def pJ{α:Type}{f:α->zt}(h:∀x,wO (f x)=true):∀l:List α,wO (xW f l)=true
 |[]=>rfl
 | x::r=>by
  have ap:∀a b:zt,wO a=true->wO b=true->wO (a++b)=true:=by
   intro a
   induction a with
   |nil=>intro b _ h;exact h
   |cons v a ih=>
    intro b h1 h2;simp only[yd,jC,Bool.and_eq_true]at h1|-;exact⟨h1.1,ih b h1.2 h2⟩
  exact ap _ _ (h x) (pJ h r)
def hZ{α:Type}{f:α->zt}(hl:∀x,(f x).length=esz)(hp:∀x,wo (f x)=true)(hs:∀x,wO (f x)=true)(he:1<=esz){L:za}{Y:Nat}{vs ws:List α}{e:Bool}(h:Jb t f L n Y vs)(hb:2*(zM vs+zM ws)*bytes<=281474976710656)(hn:zM vs+zM ws<1000000000000):
  Cv (uE (KL L n m true) t esz bytes (kA f esz Y vs) (.lst (zM ws) e (xW f ws))) λv s=>∃id' L' n' m',v=kA f esz id' (vs++ws)/\s=KL L' n' m' true/\Jb t f L' n' id' (vs++ws)/\n<=n'/\(id'=Y\/n<=id')/\(∀j,j<n->(vs≠[]->j≠Y)->x3 L' j=x3 L j):=by
 cases ws with
 |nil=>
  refine⟨kA f esz Y vs,KL L n m true,?_,Y,L,n,m,by rw[List.append_nil],rfl,by rw[List.append_nil];exact h,zS _,.inl rfl,λ_ _ _=>rfl⟩
  cases vs<;>rfl
 | cons w ws=>
  have h2:qu (KL L n m true) esz (zM ws+1) (.lst (w::ws).length e (xW f (w::ws)))=some (xW f (w::ws)):=by
   simp only[qu];rw[show zF (zM ws+1) esz=(xW f (w::ws)).length from (qK hl (w::ws)).symm];exact qg rfl
  cases vs with
  |nil=>
   refine⟨.gr n esz (zM ws+1) (xW f (w::ws)),KL ((n,some (.app t (xW f (w::ws))))::L) (n+1) m true,?_,n,_,_,_,rfl,rfl,λ_=>⟨yx _,by rw[x5,wc rfl];rfl⟩,Nat.le_succ _,.inr (zS _),λj hj _=>by rw[x5,x0 J]⟩
   simp only[List.length_nil,yw]at hb hn;simp only[uE,kA,yw,pT];simp only[yw]at h2;simp only[h2,ZI,Q5,wI hp,xO,x6];rw[VM he (by simpa using hb) J (wI hp _)];rfl
  | cons u us=>
   obtain⟨hid,hg⟩:=h (by simp)
   refine⟨.gr n esz ((zM us+1)+(zM ws+1)) (xW f (u::us)++xW f (w::ws)),KL ((n,some (.app t (xW f (u::us)++xW f (w::ws))))::(Y,none)::L) (n+1) (kr m Y) true,?_,n,_,_,_,?_,rfl,λ_=>⟨yx _,by rw[x5,wc rfl,wQ]⟩,Nat.le_succ _,.inr (zS _),λj hj hne=>by rw[x5,x0 J,x5,x0 (hne (by simp))]⟩
   .simp only[yw]at hb hn;simp only[uE,kA,yw,pT];simp only[yw]at h2;simp only[h2,ZI,wM,hg,wH.2 (rfl:esz=esz),wH.2 (rfl:t=t),wH.2 (rfl:qQ (xW f (u::us))=qQ (xW f (u::us))),pJ hs,xO,x6,Ey];rw[show zE (zM us+1) (Nat.succ (zM ws))=(zM us+1)+(zM ws+1)from rfl,VM he hb J (by rw[kj,wI hp,wI hp];rfl)];rfl
   .simp only[kA,yd,List.length_append,yw];rw[<-yd,wQ]
    congr 1;omega
theorem VH{α:Type}{f:α->zt}{Y:Nat}(hp:∀x,wo (f x)=true)(hw:∀x,wkL (f x)=f x)(vs:List α):∃v0,XG 0 (kA f esz Y vs)=some v0/\Fz s v0 (.lst (List.length vs) false (xW f vs)):=by
 cases vs with
 |nil=>exact⟨.nils,rfl,by simp only[Fz,wkV,xW,wA,true_and,List.length_nil];exact .inl trivial⟩
 |cons v vs=>
  refine⟨.lst (v::vs).length false (xW f (v::vs)),?_,?_⟩
  .simp only[kA,XG,VC,Xa,show zH 0 Y=true from wB.2 (Nat.zero_le _),x6]
  .simp only[Fz,wkV,vT hw,wI hp,true_and];exact .inl trivial
section
variable {L:za}{n m t e esz bytes Y k:Nat}{b:Bool}{old cs:zt}{x f:Bool}
def J6(hl:zM cs=esz)(he:1<=esz)(hb:2*bytes<=281474976710656):
  uE (KL ((n,some (.row e cs x f))::L) (n+1) m false [] (some (n+1,[n]))) t esz bytes .nils (.sl n 0 1 (.fix 1))=some (.sl (n+1) 0 1 (.opn esz),KL ((n+1,some (.row t cs true false))::(n,some (.row e cs x f))::L) (n+1+1) m false [] (some (n+1,[n]))):=by
 have hg:(KL ((n,some (.row e cs x f))::L) (n+1) m false [] (some (n+1,[n]))).get n=some (.row e cs x f):=by
  rw[Q4];simp only[hid,wh,Xb,wH.2 (rfl:n=n),x6,x5,if_true];cases zH (n+1) n<;>rfl
 exact Lh (q:=0) rfl (j7 (j:=0) hg J).2 (.inl rfl) he J J
def J7(hid':Y<n)(hg:x3 L Y=some (.row t old true false))(hk:zM old=k*esz)(hl:zM cs=esz)(he:1<=esz)(hs:wO cs=true)(hb:2*(k+1)*bytes<=281474976710656)(hn:k<1000000000000):
  uE (KL ((n,some (.row e cs x f))::L) (n+1) m b [] (some (n+1,[Y,n]))) t esz bytes (.sl Y 0 k (.opn esz)) (.sl n 0 1 (.fix 1))=some (.sl (n+1) 0 (k+1) (.opn esz),KL ((n+1,some (.row t (old++cs) true false))::(Y,none)::(n,some (.row e cs x f))::L) (n+1+1) (kr m Y) b [] (some (n+1,[Y,n]))):=by
 have hm:∀j,j=Y\/j=n->Xb j [Y,n]=true:=λj h=>VV.2 (by rcases h with rfl|rfl<;>simp)
 have hg1:(KL ((n,some (.row e cs x f))::L) (n+1) m b [] (some (n+1,[Y,n]))).get n=some (.row e cs x f):=by
  rw[Q4];simp only[hid,wh,hm n (.inr rfl),x6,x5,if_true];cases zH (n+1) n<;>rfl
 have hg2:(KL ((n,some (.row e cs x f))::L) (n+1) m b [] (some (n+1,[Y,n]))).get Y=some (.row t old true false):=by
  rw[Q4];simp only[hid,wh,hm Y (.inl rfl),x6,x5,x0 (show ¬Y=n by omega),hg]
  cases zH (n+1) Y<;>rfl
 exact KO (q:=0) hg2 hk rfl (j7 (j:=0) hg1 J).2 hs he J J
end
def zwj{j:Nat}:((1<<<i)%2^n).testBit j=(decide (j<n)&&decide (i=j)):=by
 rw[zv0,zv3];by_cases h:i=j
 .subst h;simp
 .by_cases h2:i<=j
  .have:j-i≠0:=J;have h3:Nat.testBit 1 (j-i)=false:=by
    cases hb:Nat.testBit 1 (j-i)with
    |false=>rfl
    |true=>rw[Nat.testBit_one_eq_true_iff_self_eq_zero]at hb;omega
   simp[h,h3]
  .simp[h,h2]
theorem tf{l:za}{n m e bytes C:Nat}{b:Bool}{hd:zg}{on:ze}{zs:zt}(h:C*bytes<=281474976710656)(h2:C<9223372036854775808):H4 (KL l n m b hd on) e bytes zs (.int .i64 (.ofNat C)) (.int .i64 (.ofNat C))=some (.sl n 0 C (.fix C),KL ((n,some (.row e (reps C zs) false false))::l) (n+1) m b hd on):=by
 simp only[H4];rw[show zH C C=true from wB.2 (zS _),show zH (zF C bytes) 281474976710656=true from wB.2 h,show Nat.blt C 9223372036854775808=true from w9.2 h2];rfl
def wx{j:Nat}(h:i<j\/j<i):(1<<<i)%2^n/2^j%2=0:=by
 have h1:((1<<<i)%2^n).testBit j=false:=by
  rw[zwj];have:i≠j:=J;simp[this]
 rw[JP]at h1;simp only[Bool.not_eq_false']at h1;exact wH.1 h1
open Go.ChangeMaps (setBlock)
section
variable {C:Cx}{ic ia ib:ICode}{fr:Fr}{s:U}{Q:Res->Fr->U->Prop}
def zwl(ok:CxOk C)(h:Ev (evC C.E (evW C.E C.O) C.rd ic fr s) Q):Tri C ic fr s Q:=by
 obtain⟨r,f,t,e,q⟩:=h;exact iI ok e q
def U6{α:Type}(m:α->Nat)(Ir:α->Fr->U->Prop)(h:∀x fr s,Ir x fr s->Tri C ib fr s (wJ (λf t=>∃y,Ir y f t/\m y<m x) Q))(x:α)(hx:Ir x fr s):Tri C (.loop ib) fr s Q:=by
 apply ve;have key:∀n x fr s,Ir x fr s->m x<n->HN C ib fr s Q:=by
  intro n
  induction n with
  |zero=>intro x fr s _ h;omega
  |succ n ih=>
   intro x fr s hx hn;refine vE ((h x fr s hx).mono λr f t=>?_);cases r with
   |norm=>exact λ⟨y,hy,hm⟩=>ih y f t hy J
   |exit i=>exact λh=>h
   |ret=>exact λh=>h
 exact key _ x fr s hx (yx _)
end
def zwP:IOp->Bool
 |.nm _=>true
 |_=>false
def KQ{x:Option IOp}{op:IOp}(h:(bif b then x else none)=some op):x=some op:=by cases b<;>first|exact h|cases h
def zyO{x y:Option IOp}{op:IOp}(h:(bif b then x else y)=some op):x=some op\/y=some op:=by cases b<;>first|exact .inl h|exact .inr h
def cM{b:Builtin}{ts:List TypeId}{xs:List Operand}{op:IOp}(h:Xi P b ts xs=some op):zwP op=false:=by
 unfold Xi at h;split at h
 all_goals (repeat' (split at h))
 all_goals (try replace h:=KQ h)
 all_goals first|(cases h<;>rfl)|(obtain⟨_,_,rfl⟩:=Option.map_eq_some_iff.1 h;rfl)
def RT{o:Op}{op:IOp}(h:qM P o=some op)(hn:zwP op=true):∃y,o=.next y false/\(vc y).map .nm=some op:=by
 unfold qM at h;split at h
 all_goals first|(exact⟨_,rfl,h⟩)|skip
 all_goals (try (repeat' (split at h)))
 all_goals (try replace h:=KQ h)
 all_goals first|(cases h<;>cases hn;done)|(obtain⟨_,_,rfl⟩:=Option.map_eq_some_iff.1 h;cases hn;done)|(rw[cM h]at hn;cases hn;done)|skip
 all_goals (
  rcases zyO h with h|h
  .cases h<;>cases hn
  .replace h:=KQ h;cases h<;>cases hn)
def zyS{o:Op}{x:Opd}(h:mm P o=.nm x):∃y,o=.next y false/\vc y=some x/\cOp P o=some (.nm x):=by
 unfold mm at h;cases hc:cOp P o with
 |none=>rw[hc]at h;cases h
 |some op=>
  rw[hc]at h;simp only at h;subst h;rcases Lm hc with ⟨hv,_⟩|⟨c,_,⟨f,l,_,he,_⟩|⟨y,y',l,_,he,_⟩⟩
  .obtain⟨y,rfl,hy⟩:=RT hv rfl;obtain⟨z,hz,he⟩:=Option.map_eq_some_iff.1 hy;cases he;exact⟨y,rfl,hz,rfl⟩
  .cases he
  .cases he
def zyQ{nt:Nat}{c:Code}{l:List SOper}(h:cC P nt c=some (.reg l)):∃Y ops,c=.region Y ops false/\cSs P nt ops ops.toList=some l:=by
 cases c with
 | region Y ops any=>
  cases any with
  |true=>
   simp only[cC]at h;obtain⟨l',hl,he⟩:=Option.map_eq_some_iff.1 h;exact(Hq he (λ_=>nofun) (λ_ _ _=>nofun)).elim
  |false=>
   simp only[cC]at h;obtain⟨l',hl,he⟩:=Option.map_eq_some_iff.1 h;cases he;exact⟨Y,ops,rfl,hl⟩
 |seq a b=>
  simp only[cC]at h;split at h
  .simp only[x7]at h;cases h
  .cases h
 |cond a b c=>
  simp only[cC]at h;split at h<;>cases h
 |block a b=>
  simp only[cC]at h;obtain⟨_,_,he⟩:=Option.map_eq_some_iff.1 h;cases he
 |loop b=>
  simp only[cC]at h;obtain⟨_,_,he⟩:=Option.map_eq_some_iff.1 h;cases he
 | rangeFunc a b c d=>
  simp only[cC]at h;split at h
  .cases hq:b.toList.all (Nat.blt · nt)with
   |true=>rw[hq]at h;cases h
   |false=>rw[hq]at h;cases h
  .cases h
 |_=>simp[cC]at h
def EntRel.mem{I:Phi}:∀{l:zf} {es:zA} {e:MapEntry},EntRel I l es->e∈es->∃p∈l,VR I p.1 e.key/\VR I p.2.1 e.val/\e.born=p.2.2
 |[],_,e,h,he=>by simp only[EntRel]at h;subst h;cases he
 |p::l,_,e,h,he=>by
  obtain⟨e',es',rfl,h1,h2,h3,h4⟩:=h;rcases List.mem_cons.1 he with rfl|he
  .exact⟨p,by simp,h1,h2,h3⟩
  .obtain⟨q,hq,h5⟩:=EntRel.mem h4 he;exact⟨q,by simp[hq],h5⟩
def EntRel.old{I:Phi}{k:Nat}:∀{l:zf} {es:zA},EntRel I l es->(∀p∈l,p.2.2<k)->∀e∈es,e.born<k
 |_,_,h,hl,e,he=>by
  obtain⟨p,hp,_,_,h3⟩:=h.mem he;rw[h3];exact hl p hp
def i7{w:World}:Below w.heap.size w w.drew:=(Below.refl _ w).drew
def Ri{C:Cx}{fr:Fr}{Q:Res->Fr->U->Prop}(ok:CxOk C){d x:Nat}{rest:List SOper}{it since last clk:Nat}{seen:zr}{es:zf}
  (hx:fr.A.get x=some (.ptr it 0)) (hi:s.get it=some (.miter (some m) since seen last)) (hm:s.get m=some (.map es clk)) (ho:∀p∈es,p.2.2<since) (hl:since<=last)
  (h0:u9 seen es=[]->∃tm' s',evS C.E (evW C.E C.O) rest (fr.A.set d (.tup [.bool false])) s=some (tm',s')/\Q .norm ⟨tm',fr.df⟩ s')
  (h1:∀p,p∈u9 seen es->∃tm' s',evS C.E (evW C.E C.O) rest (fr.A.set d (.tup [.bool true,p.1,p.2.1])) (s.put it (.miter (some m) since (seen++[p.2.2]) clk))=some (tm',s')/\Q .norm ⟨tm',fr.df⟩ s'):
  Tri C (.reg (⟨some d,.nm (.t x),none⟩::rest)) fr s Q:=by
 intro c hc I w a ha hf F n hF hrd;obtain⟨Y,ops,rfl,hls⟩:=zyQ hc;apply wpIn_region;rw[List.range_eq_range',<-Array.length_toList];obtain⟨o,orest,hto⟩:∃o orest,ops.toList=o::orest:=by
  cases ht:ops.toList with
  |nil=>rw[ht]at hls;simp[cSs]at hls
  |cons o r=>exact⟨o,r,rfl⟩
 rw[hto]at hls|-;simp only[cSs]at hls;split at hls
 case h_2=>cases hls
 rename_i so l' hso hrest
 simp only[x7,qJ]at hls;obtain⟨rfl,rfl⟩:=hls;have hk:ops[0]? =some o:=by rw[<-zX,hto];rfl
 have hd':ops.toList.drop 1=orest:=by rw[hto];rfl
 simp only[yw,List.range'_succ,wpOpsIn,hk];obtain⟨hg,hop,hdst,hlt⟩:=KV hso;replace hdst:o.dst=some d:=hdst.symm;rw[kW hg (A:=fr.A) (b:=true) rfl (TmOn.of hf.A),wc rfl];obtain⟨y,hy1,hy2,hy3⟩:=zyS hop.symm;refine⟨λf _=>hF.fn f,?_⟩;rw[Oper.semAt_eq _ _ _ (Ps hy3)];have hv:=wn (I:=I) (a:=a) hy2 (v:=.ptr it 0) (by simp only[Opd.ev];exact hx) (TmOn.of hf.A)
 simp only[VR]at hv;obtain⟨B,hB,hv⟩:=hv;have hr:=ha.st.rel;obtain⟨B',hB',_,m',hb,Bm,hBm,rfl⟩:=hr.obj it _ hi;rw[hB]at hB';cases hB';obtain⟨ents,hbm,hent⟩:=X1 hr hm hBm;have hex:execOp a.eval o=(do pure (.value (<-Instr.next (a.eval y) false o.type))):=by unfold execOp;rw[hy1]
 have hv2:a.eval y=.pointer (some ⟨B.b,0,none⟩):=by rw[hv];rename_i h00;simp[h00]
 have hleft:=WF seen hent;have hfl:(leftOf ents seen.toArray).toList=ents.toList.filter λe=> !seen.contains e.born:=by simp[leftOf]
 have go:∀{I':Phi} {v:Z} {xv:Value} {tm':zu} {s1 s':U} {w':World},Step C.P C.X I s w I' s1 w'->VR I' v xv->(∀Y,s1.next<=Y->I' Y=none)->Wf s1->evS C.E (evW C.E C.O) l' (fr.A.set d v) s1=some (tm',s')->Q .norm ⟨tm',fr.df⟩ s'->
   wpOpsIn F n C.P ops (cA C Q) (List.range' 1 (zM orest)) (a.put o.dst xv) w':=by
  intro I' v xv tm' s1 s' w' st hvx hfr1 hwf1 hev q;have hsub:=st.sub (s:=s) (s':=s1) (λY h1=>ha.fresh Y h1);refine UC ok.self ok.glob hF orest 1 hd' hrest hev st.rel hwf1 (λY h1=>hfr1 Y h1) ?_ ?_ λφ2 a2 w2 k1 k2=>?_
  .rw[hdst];exact(oY (nt:=C.nt) (dst:=some d) (hf.A.mono hsub) hf.size (λd' h'=>hlt d' (hdst.trans h')) hvx).1
  .rw[hdst];simp[Act.put,hf.size]
  .refine⟨.norm,_,s',φ2,rfl,(ha.step ok st).step ok k1,⟨k2.1,k2.2.1,?_⟩,q⟩;rw[k2.2.2,hdst];exact(hf.df.mono hsub).mono (k1.sub λY h1=>hfr1 Y h1)
 rcases run_next_at (P:=C.P) w o.type B.b Bm.b since last seen.toArray ents clk hb hbm (hent.old ho) hl with ⟨hz,hrun⟩|⟨e,he,w1,hw1,hrun⟩
 .have hnil:u9 seen es=[]:=by
   have:(ents.toList.filter λe=> !seen.contains e.born)=[]:=by rw[<-hfl];exact yS (by simpa using hz)
   rw[this]at hleft;have:=hleft.length;exact yS (by simpa using this)
  obtain⟨tm',s',hev,q⟩:=h0 hnil;rw[hex];rw[hv2,Sem.run_bind,hrun,Result.andThen_ok,Sem.run_pure,Oper.uponIn_value];exact go (Step.refl hr) (by simp only[VR];exact⟨[.bool false],rfl,VRL.cons (by simp[VR]) (VRL.nil I)⟩) ha.fresh (ha.wf ok) hev q
 .rw[hfl]at he;obtain⟨p,hp,e1,e2,e3⟩:=hleft.mem he;obtain⟨tm',s',hev,q⟩:=h1 p hp;have st1:Step C.P C.X I s w I s w1:=by
   rcases hw1 with rfl|rfl
   .exact Step.refl hr
   .exact Step.below hr i7
  have hh:w1.heap=w.heap:=by rcases hw1 with rfl|rfl<;>rfl
  have hb1:w1.heap[B.b]? =some (.mapIter (some Bm.b) since seen.toArray last):=by rw[hh];exact hb
  have st2:Step C.P C.X I s w1 I (s.put it (.miter (some m) since (seen++[p.2.2]) clk)) (setBlock w1 B.b (.mapIter (some Bm.b) since (seen.toArray.push e.born) clk)):=
   Step.setObj st1.rel hi hB hb1 (x':=.mapIter (some Bm.b) since (seen.toArray.push e.born) clk) ⟨by assumption,some Bm.b,by rw[pS hb1];simp[e3],Bm,hBm,rfl⟩
  have st:=Step.trans (ha.wf ok) st1 st2;rw[hex];rw[hv2,Sem.run_bind,hrun,Result.andThen_ok,Sem.run_pure,Oper.uponIn_value];exact go st (by simp only[VR];exact⟨[.bool true,e.key,e.val],rfl,VRL.cons (by simp[VR]) (VRL.cons e1 (VRL.cons e2 (VRL.nil I)))⟩) (λY hid=>by rw[ZV]at hid;exact ha.fresh Y hid) (st.ext.wf (ha.wf ok)) hev q
def Cvt(P:Program)(o:AObj):Prop:=∀(φa φb:Phi) (w:World) (B:Blk),(∀b i v,φa.z b i=some v->φb.z b i=some v)->ObjRel P φa w o B->ObjRel P φb w o B
def dF{es:zl}(h:Qh es=true):Cvt P (.umap es):=λ_ _ _ _ hz ⟨ents,clk,h1,h2⟩=>⟨ents,clk,h1,h2.pure hz h⟩
section
variable {P:Program}{X:World}{I φ1:Phi}{s s0 s' t:U}{w w':World}
def Step.emb(hsub:∀Y o,s0.get Y=some o->s.get Y=some o)(hn:s0.next=s.next)(r:Rel P X I s.get w)(k:Step P X I s0 w φ1 t w')(e:Ext s s')(hn':s'.next=s.next){z:Nat->Nat->Option Value}
  (hz1:∀b i v,φ1.z b i=some v->z b i=some v) (hz2:∀b i,b<w.heap.size->z b i=φ1.z b i) (hz3:∀b o v,z b o=some v->∃c e fr,w'.heap[b]? =some (.cells c e fr)/\c[o]? =some v)
  (hg:∀Y o,s'.get Y=some o->(t.get Y=some o/\Y<s.next/\Cvt P o)\/(s.get Y=some o/\∀o0,s0.get Y=some o0->t.wm.testBit Y=false))
  (hw:∀Y,Y<s.next->t.wm.testBit Y=true->s'.wm.testBit Y=true) (hlt:∀Y o,s0.get Y=some o->Y<s.next):Step P X I s w ⟨I.m,z⟩ s' w':=by
 have hm:∀Y,Y<s.next->φ1 Y=I Y:=λY hid=>k.same Y (.inl J)
 have hvis:∀Y o,s'.get Y=some o->∃y,s.get Y=some y:=λY o ho=>by
  rcases hg Y o ho with ⟨h1,h2,_⟩|⟨h1,_⟩
  .obtain⟨y,hy⟩:=k.ext.get_vis J h1;exact⟨y,hsub _ _ hy⟩
  .exact⟨o,h1⟩
 have hsb:Sub I ⟨I.m,z⟩:=⟨λ_ _ h=>h,λb i v h=>hz1 b i v (k.zsub b i v h)⟩;have hk:∀Y o B,s.get Y=some o->I Y=some B->(∀o0,s0.get Y=some o0->t.wm.testBit Y=false)->w'.heap[B.b]? =w.heap[B.b]? :=λY o B ho hB hnw=>by
  by_cases hold:B.b<X.heap.size
  .rw[k.rel.base.block _ hold,r.base.block _ hold]
  .refine k.frame B.b (r.rng Y B hB) λid0 o0 B0 h0 hB0 hbe=>?_;rcases r.inj Y id0 o o0 B B0 ho (hsub _ _ h0) hB hB0 hbe.symm with rfl|h
   .exact hnw o0 h0
   .exact absurd h hold
 refine⟨e,⟨k.rel.base,λY o ho=>?_,λY B hB=>?_,λY o B ho hB hlt=>?_,λi j o o' B1 B2 h1 h2 q1 q2 q3=>?_,hz3,λY o B ho hB=>?_⟩,λ_ _=>rfl,k.size,λb hb hq=>?_,(λY B h1 h2=>absurd h2 J),λb i v h=>hz1 b i v (k.zsub b i v h),λb i u hu=>?_⟩
 .rcases hg Y o ho with ⟨h1,h2,hc⟩|⟨h1,h2⟩
  .obtain⟨B,hB,q⟩:=k.rel.obj Y o h1;exact⟨B,(hm Y h2).symm.trans hB,hc _ _ _ _ hz1 q⟩
  .obtain⟨B,hB,q⟩:=r.obj Y o h1;exact⟨B,hB,q.keep hsb (hk Y o B h1 hB h2)⟩
 .exact Nat.lt_of_lt_of_le (r.rng Y B hB) k.size
 .rcases hg Y o ho with ⟨h1,h2,_⟩|⟨h1,_⟩
  .exact k.rel.old Y o B h1 ((hm Y h2).trans hB) hlt
  .exact r.old Y o B h1 hB hlt
 .obtain⟨y,hy⟩:=hvis i o h1;obtain⟨y',hy'⟩:=hvis j o' h2;exact r.inj i j y y' B1 B2 hy hy' q1 q2 q3
 .have hb:B.b<w.heap.size:=r.rng Y B hB;rcases hg Y o ho with ⟨h1,h2,_⟩|⟨h1,h2⟩
  .exact(k.rel.sep Y o B h1 ((hm Y h2).trans hB)).congr λi=>hz2 B.b i hb
  .by_cases hold:B.b<X.heap.size
   .have:=r.old Y o B h1 hB hold;cases o<;>first|(cases this;done)|(simp only[SepOf])
   .refine(r.sep Y o B h1 hB).congr λi=>?_;show z B.b i=I.z B.b i;rw[hz2 B.b i hb];cases e1:φ1.z B.b i with
    |none=>
     cases e2:I.z B.b i with
     |none=>rfl
     |some u=>have:=k.zsub B.b i u e2;rw[e1]at this;cases this
    | some u=>
     rcases k.zown _ _ _ e1 with q|q|⟨id0,o0,B0,q1,q2,q3,q4⟩
     .exact q.symm
     .omega
     .rcases r.inj Y id0 o o0 B B0 h1 (hsub _ _ q1) hB q2 q3.symm with rfl|h
      .rw[h2 o0 q1]at q4;cases q4
      .exact absurd h hold
 .refine k.frame b hb λid0 o0 B0 h0 hB0 hbe=>?_;cases e1:t.wm.testBit id0 with
  |false=>rfl
  |true=>
   have h1:=hq id0 o0 B0 (hsub _ _ h0) hB0 hbe;rw[hw id0 (hlt id0 o0 h0) e1]at h1;cases h1
 .by_cases hb:b<w.heap.size
  .have hu':z b i=some u:=hu;rw[hz2 b i hb]at hu';rcases k.zown _ _ _ hu' with q|q|⟨id0,o0,B0,q1,q2,q3,q4⟩
   .exact .inl q
   .omega
   .exact .inr (.inr ⟨id0,o0,B0,hsub _ _ q1,q2,q3,hw id0 (hlt id0 o0 q1) q4⟩)
  .exact .inr (.inl J)
end
def Rg (hO:OrcOk P X O)(hm:P.follows .mixedOrders=true)(hG:wG E.globs X)(hE:lL P E){f:Nat}{F:IFunc}{args:zt}{c:U}{R:Z->U->Prop}
  (hF:E.funs.get f=some F) (hle:zM args<=F.ntmps) (hh:c.hide=[]) (ho:c.only=none) (hw:c.wm=0)
  (H:∀C:Cx,CxOk C->C.P=P->C.E=E->C.O=O->C.rd=none->C.s=c->Tri C F.body {A:=qk .leaf 0 args,df:=[]} c (λr fr t=>∃v t2,qv E.globs F.res (some (r,fr,t))=some (v,t2)/\R v t2)):
  (∃fn,P.funcs[f]? =some fn/\fn.body.isSome=true/\(fn.name== "runtime.NumGoroutine")=false)/\∀(I:Phi) (w:World) (xs:zy),Rel P X I c.get w->Wf c->(∀Y,c.next<=Y->I Y=none)->VRL I args xs->∀Fe n,Wide Fe->CallsIn Fe n P f xs.toArray w λe w'=>∃v t2 φ1 x,e=.returned x/\Step P X I c w φ1 t2 w'/\VR φ1 v x/\R v t2:=by
 obtain⟨fn,hfn,hcf⟩:=hE f F hF;unfold cN at hcf;split at hcf
 .cases hcf
 .rename_i cd hbody
  split at hcf
  .rename_i ib rs hb hrs
   cases hnm:(fn.name != "runtime.NumGoroutine")with
   |false=>rw[hnm]at hcf;simp at hcf
   | true=>
    rw[hnm]at hcf;simp only[x6,x7]at hcf;subst hcf;have hnm':(fn.name== "runtime.NumGoroutine")=false:=by simpa [bne]using hnm
    refine⟨⟨fn,hfn,by rw[hbody];rfl,hnm'⟩,?_⟩
    intro I w xs r hwf hf hx Fe n hFe;have ok:CxOk ⟨P,X,E,O,fn.ntmps,none,I,c,w,0⟩:=
     ⟨hO,hm,hG,hE,r,hwf,hf,hh,ho,λi hi=>by rw[show (⟨P,X,E,O,fn.ntmps,none,I,c,w,0⟩:Cx).s.wm=0 from hw]at hi;simp at hi,λi hi=>by simp at hi⟩
    have hat:At ⟨P,X,E,O,fn.ntmps,none,I,c,w,0⟩ I c w:=⟨Step.refl r,hf⟩;have hxl:zM xs<=fn.ntmps:=by rw[<-VRL.length hx];exact hle
    have hfr:FrRel I fn.ntmps {A:=qk .leaf 0 args,df:=[]} {tmps:=xs.toArray++Array.replicate (fn.ntmps-xs.toArray.size) undef,defers:=[]}:=
     ⟨Wg hx _,by simp;omega,rfl⟩
    have hFp:Wide Fe.plain:=⟨hFe.fn,hFe.depth,hFe.alive⟩;have ht:=H _ ok rfl rfl rfl rfl rfl;have key:CallsIn Fe.plain n P f xs.toArray w λe w'=>∃v t2 φ1 x,e=.returned x/\Step P X I c w φ1 t2 w'/\VR φ1 v x/\R v t2:=by
     refine callsIn_of_wp_marks hfn hbody (hFe.fn f) (wpIn_mono (ht cd hb I w _ hat hfr Fe.plain n hFp (λ_=>rfl)) ?_)
     rintro e a' w' ⟨res,fr',s1,φ1,rfl,k1,k2,v,t2,he,hR⟩
     simp only[qv]at he;have hres:∃s2,qT s1 fr'.df=some s2/\QT E.globs fr'.A s2 rs=some (v,t2)/\(res=.norm\/res=.ret):=by
      cases res with
      |exit i=>simp at he
      |norm=>
       simp only at he;split at he
       .rename_i s2 hs2;exact⟨s2,hs2,he,.inl rfl⟩
       .cases he
      |ret=>
       simp only at he;split at he
       .rename_i s2 hs2;exact⟨s2,hs2,he,.inr rfl⟩
       .cases he
     obtain⟨s2,hmk,hre,hor⟩:=hres;have hleave:LeavesInM Fe.plain n P fn a'.tmps (λe w'=>∃v t2 φ1 x,e=.returned x/\Step P X I c w φ1 t2 w'/\VR φ1 v x/\R v t2) a'.defers .returning w':=by
      refine Pn ok hmk k2.df k1 λw2 k3=>?_;obtain⟨rfl,x,k4,k5⟩:=ZE hG k3.st.rel k2.A hrs hre;exact⟨x,k4,v,_,φ1,x,rfl,k3.st,k5,hR⟩
     rcases hor with rfl|rfl
     .exact hleave
     .exact hleave
    exact key
  .cases hcf
noncomputable def JY(s:U):List (Nat×AObj)->U
 |[]=>s
 |p::r=>JY (s.put p.1 p.2) r
def PF:∀(W:List (Nat×AObj)) (s:U),(JY s W).next=s.next
 |[],_=>rfl
 |p::r,s=>PF r (s.put p.1 p.2)
def NW(s:U)(Y:Nat)(o:AObj)(j:Nat):seen (s.put Y o) j=seen s j:=uw rfl rfl j
def bC(s:U)(Y:Nat)(o:AObj)(j:Nat):(s.put Y o).get j=if j=Y then (if seen s Y then some o else none)else s.get j:=by
 rw[kq,NW,kq,show (s.put Y o).objs=s.objs.set Y o from rfl,Trie.get_set];by_cases h:j=Y
 .subst h;simp
 .simp[h]
def fQ:∀(W:List (Nat×AObj)) (s:U),(W.map (·.1)).Nodup->(∀p∈W,∃o,s.get p.1=some o)->∀Y o,(JY s W).get Y=some o->(Y,o)∈W\/((∀p∈W,p.1≠Y)/\s.get Y=some o)
 |[],s,_,_,Y,o,h=>.inr ⟨by simp,h⟩
 | p::r,s,hn,hs,Y,o,h=>by
  simp only[zY,List.nodup_cons,List.mem_map,not_exists,not_and]at hn;have h2:=fQ r (s.put p.1 p.2) hn.2 (λq hq=>by
   obtain⟨o,ho⟩:=hs q (by simp[hq])
   refine⟨o,?_⟩;rw[bC,x0 (λe=>hn.1 q hq e)];exact ho) Y o h
  rcases h2 with h2|⟨h2,h3⟩
  .exact .inl (by simp[h2])
  .rw[bC]at h3;by_cases he:Y=p.1
   .rw[wc he]at h3;split at h3
    .cases h3;subst he;exact .inl (by simp)
    .cases h3
   .rw[x0 he]at h3;refine .inr ⟨λq hq=>?_,h3⟩;rcases List.mem_cons.1 hq with rfl|hq
    .exact Ne.symm he
    .exact h2 q hq
def Ag:∀(W:List (Nat×AObj)) (s:U) (Y:Nat),(s.wm.testBit Y=true\/∃p∈W,p.1=Y)->(JY s W).wm.testBit Y=true
 |[],s,Y,h=>by
  rcases h with h|⟨p,hp,_⟩
  .exact h
  .cases hp
 | p::r,s,Y,h=>by
  refine Ag r (s.put p.1 p.2) Y ?_;rcases h with h|⟨q,hq,he⟩
  .left;show (kr s.wm p.1).testBit Y=true;rw[qC,h];rfl
  .rcases List.mem_cons.1 hq with rfl|hq
   .left;show (kr s.wm q.1).testBit Y=true;rw[qC];simp[he]
   .exact .inr ⟨q,hq,he⟩
def Hc:∀(W:List (Nat×AObj)) (s:U),(W.map (·.1)).Nodup->(∀p∈W,∃o,s.get p.1=some o/\vN o=false)->Ext s (JY s W)
 |[],s,_,_=>Ext.refl s
 |p::r,s,hn,hs=>by
  simp only[zY,List.nodup_cons,List.mem_map,not_exists,not_and]at hn;obtain⟨o,ho,hg⟩:=hs p (by simp)
  refine(uj ho hg).trans (Hc r (s.put p.1 p.2) hn.2 λq hq=>?_);obtain⟨o,ho,hg⟩:=hs q (by simp[hq])
  refine⟨o,?_,hg⟩;rw[bC,x0 (λe=>hn.1 q hq e)];exact ho
def zzr(hO:OrcOk P X O)(hm:P.follows .mixedOrders=true)(hG:wG E.globs X)(hE:lL P E){f:Nat}{F:IFunc}{args:zt}{s0:U}{W:List (Nat×AObj)}
  (hF:E.funs.get f=some F) (hle:zM args<=F.ntmps) (hh:s0.hide=[]) (ho:s0.only=none) (hw:s0.wm=0) (hwf0:Wf s0) (hn:s0.next=s.next) (hsub:∀Y o,s0.get Y=some o->s.get Y=some o)
  (hp:wC v=true) (hWn:(W.map (·.1)).Nodup) (hWs:∀p∈W,∃o,s.get p.1=some o/\vN o=false) (hWp:∀p∈W,p.1<s.next/\Cvt P p.2)
  (H:∀C:Cx,CxOk C->C.P=P->C.E=E->C.O=O->C.rd=none->C.s=s0->Tri C F.body {A:=qk .leaf 0 args,df:=[]} s0 (λr fr t=>∃v1 t2,qv E.globs F.res (some (r,fr,t))=some (v1,t2)/\v1=v/\(∀p∈W,t2.get p.1=some p.2)/\∀Y,Y<s0.next->(∀p∈W,p.1≠Y)->t2.wm.testBit Y=false)):SC P X f args s v (JY s W):=by
 obtain⟨h1,h2⟩:=Rg hO hm hG hE (R:=λv1 t2=>v1=v/\(∀p∈W,t2.get p.1=some p.2)/\∀Y,Y<s0.next->(∀p∈W,p.1≠Y)->t2.wm.testBit Y=false) hF hle hh ho hw H
 refine⟨h1,λI w xs r hwf hf hx Fe n hFe=>(h2 I w xs (r.sub hsub) hwf0 (λY hid=>hf Y J) hx Fe n hFe).mono ?_⟩
 rintro e w' ⟨v1,t2,φ1,x,rfl,k,hv,rfl,hW1,hW2⟩
 refine⟨⟨I.m,φ1.z⟩,x,rfl,Step.emb hsub hn r k (Hc W s hWn hWs) (PF W s) (λ_ _ _ h=>h) (λ_ _ _=>rfl) k.rel.frz (λY o ho=>?_) (λY hid hb=>?_) (λY o h=>by rw[<-hn];exact hwf0.lt Y o (wZ h)),VR.pure (I:=φ1) (I':=⟨I.m,φ1.z⟩) (λ_ _ _ h=>h) _ _ hp hv⟩
 .rcases fQ W s hWn (λp hp=>let ⟨o,h,_⟩:=hWs p hp;⟨o,h⟩) Y o ho with h|⟨h,h'⟩
  .exact .inl ⟨hW1 _ h,hWp _ h⟩
  .by_cases hid:Y<s0.next
   .exact .inr ⟨h',λ_ _=>hW2 Y hid h⟩
   .exact .inr ⟨h',λo0 h0=>absurd (hwf0.lt Y o0 (wZ h0)) hid⟩
 .by_cases h:∃p∈W,p.1=Y
  .exact Ag W s Y (.inr h)
  .have:=hW2 Y J (λp hp he=>h ⟨p,hp,he⟩);rw[this]at hb;cases hb
def bT{α:Type}{C:Cx}{ic:ICode}{fr:Fr}{Q:Res->Fr->U->Prop}(ok:CxOk C){Y:Nat}{o:AObj}(o':α->AObj)(p:α->Prop)(hg:s.get Y=some o)(hng:vN o=false)(hna:Pe o=false)(hng2:∀x,vN (o' x)=false)(hna2:∀x,Pe (o' x)=false)
  (ho:∀I w B,ObjRel C.P I w o B->∃x,p x/\ObjRel C.P I w (o' x) B) (h:∀x,p x->Tri C ic fr (s.put Y (o' x)) Q):Tri C ic fr s Q:=by
 intro c hc I w a ha hf F n hF hrd;obtain⟨B,hB,t⟩:=ha.st.rel.obj Y o hg;obtain⟨x,hp,t'⟩:=ho I w B t;refine h x hp c hc I w a (ha.step ok ?_) hf F n hF hrd;exact Step.put ha.st.rel hg hB (λ_ _=>rfl) rfl rfl rfl rfl t' hng hna
def La(es:zl)(xs:zf)(clk:Nat):Prop:=
 (xs.map λp=>(p.1,p.2.1)).Perm (es.map λq=>(.int .i64 q.1,q.2))/\(xs.map (·.2.2)).Nodup/\(∀p∈xs,p.2.2<clk)/\(es.map (·.1)).Nodup
section
variable {I:Phi}
def EntRel.perm:∀{l l2:zA},l.Perm l2->∀{xs:zf},EntRel I xs l->∃ys,ys.Perm xs/\EntRel I ys l2:=by
 intro l l2 h
 induction h with
 |nil=>exact λ{xs} hx=>⟨xs,zv1 _,hx⟩
 | cons a _ ih=>
  intro xs hx;cases xs with
  |nil=>simp only[EntRel]at hx;cases hx
  |cons p xs=>
   obtain⟨e,es',he,h1,h2,h3,h4⟩:=hx;cases he;obtain⟨ys,q1,q2⟩:=ih h4;exact⟨p::ys,q1.cons p,_,_,rfl,h1,h2,h3,q2⟩
 | swap a b l=>
  intro xs hx;cases xs with
  |nil=>simp only[EntRel]at hx;cases hx
  | cons p xs=>
   obtain⟨e,es',he,h1,h2,h3,h4⟩:=hx;cases he;cases xs with
   |nil=>simp only[EntRel]at h4;cases h4
   |cons p2 xs=>
    obtain⟨e,es',he,g1,g2,g3,g4⟩:=h4;cases he;exact⟨p2::p::xs,zv2 _ _ _,_,_,rfl,g1,g2,g3,_,_,rfl,h1,h2,h3,g4⟩
 |trans _ _ ih1 ih2=>
  intro xs hx;obtain⟨ys,q1,q2⟩:=ih1 hx;obtain⟨zs,q3,q4⟩:=ih2 q2;exact⟨zs,q3.trans q1,q4⟩
def EntRel.perm':∀{xs ys:zf},xs.Perm ys->∀{l:zA},EntRel I xs l->∃l2,l2.Perm l/\EntRel I ys l2:=by
 intro xs ys h
 induction h with
 |nil=>exact λ{l} hx=>⟨l,zv1 _,hx⟩
 |cons a _ ih=>
  rintro l ⟨e,es',rfl,h1,h2,h3,h4⟩
  obtain⟨l2,q1,q2⟩:=ih h4;exact⟨e::l2,q1.cons e,_,_,rfl,h1,h2,h3,q2⟩
 |swap a b l=>
  rintro l ⟨e,es',rfl,h1,h2,h3,e2,es2,rfl,g1,g2,g3,g4⟩
  exact⟨e2::e::es2,zv2 _ _ _,_,_,rfl,g1,g2,g3,_,_,rfl,h1,h2,h3,g4⟩
 |trans _ _ ih1 ih2=>
  intro l hx;obtain⟨l2,q1,q2⟩:=ih1 hx;obtain⟨l3,q3,q4⟩:=ih2 q2;exact⟨l3,q3.trans q1,q4⟩
def oN{α β:Type}(f:α->β){m1 m:List β}(h:m1.Perm m):∀(l:List α),l.map f=m1->∃l2:List α,l2.Perm l/\l2.map f=m:=by
 induction h with
 |nil=>exact λl hl=>⟨l,zv1 _,hl⟩
 | cons a _ ih=>
  intro l hl;cases l with
  |nil=>cases hl
  |cons x l=>
   simp only[zY,qJ]at hl;obtain⟨l2,q1,q2⟩:=ih l hl.2;exact⟨x::l2,q1.cons x,by rw[zY,hl.1,q2]⟩
 | swap a b m=>
  intro l hl;cases l with
  |nil=>cases hl
  | cons x l=>
   cases l with
   |nil=>simp at hl
   |cons y l=>
    simp only[zY,qJ]at hl;exact⟨y::x::l,zv2 _ _ _,by rw[zY,zY,hl.1,hl.2.1,hl.2.2]⟩
 |trans _ _ ih1 ih2=>
  intro l hl;obtain⟨l2,q1,q2⟩:=ih1 l hl;obtain⟨l3,q3,q4⟩:=ih2 l2 q2;exact⟨l3,q3.trans q1,q4⟩
def URel.ent:∀{es:zl} {l:zA},URel I es l->∃xs,EntRel I xs l/\(xs.map λp=>(p.1,p.2.1))=(es.map λq=>(.int .i64 q.1,q.2))/\xs.map (·.2.2)=l.map (·.born)
 |[],_,h=>by simp only[URel]at h;subst h;exact⟨[],rfl,rfl,rfl⟩
 |q::es,_,h=>by
  obtain⟨e,l,rfl,h1,h2,h3⟩:=h;obtain⟨xs,q1,q2,q3⟩:=URel.ent h3;exact⟨(.int .i64 q.1,q.2,e.born)::xs,⟨e,l,rfl,by simp only[VR];exact h1,h2,rfl,q1⟩,by rw[zY,q2];rfl,by rw[zY,q3];rfl⟩
def EntRel.urel:∀{xs:zf} {es:zl} {l:zA},EntRel I xs l->(xs.map λp=>(p.1,p.2.1))=(es.map λq=>(.int .i64 q.1,q.2))->URel I es l
 |[],es,l,h,e=>by
  cases es with
  |nil=>exact h
  |cons q es=>cases e
 | p::xs,es,l,h,e=>by
  cases es with
  |nil=>cases e
  |cons q es=>
   simp only[zY,qJ,wF]at e;obtain⟨e1,l1,rfl,h1,h2,h3,h4⟩:=h;refine⟨e1,l1,rfl,?_,e.1.2▸h2,EntRel.urel h4 e.2⟩;rw[e.1.1]at h1;simpa only[VR]using h1
def EntRel.borns:∀{xs:zf} {l:zA},EntRel I xs l->l.map (·.born)=xs.map (·.2.2)
 |[],_,h=>by simp only[EntRel]at h;subst h;rfl
 |p::xs,_,h=>by
  obtain⟨e,l,rfl,_,_,h3,h4⟩:=h;rw[zY,zY,EntRel.borns h4,h3]
end
section
variable {P:Program}{I:Phi}{w:World}{B:Blk}{es es2:zl}{xs:zf}{clk:Nat}
def iJ(h:ObjRel P I w (.umap es) B):∃x:zf×Nat,La es x.1 x.2/\ObjRel P I w (.map x.1 x.2) B:=by
 obtain⟨ents,clk,h1,l,h2,h3,h4,h5,h6⟩:=h;obtain⟨xs,q1,q2,q3⟩:=h3.ent;obtain⟨ys,p1,p2⟩:=q1.perm h2;refine⟨(ys,clk),⟨?_,?_,λp hp=>?_,h4⟩,ents,h1,p2⟩
 .rw[<-q2];exact p1.map _
 .have:(ys.map (·.2.2)).Perm (l.map (·.born)):=by rw[<-q3];exact p1.map _
  exact this.nodup_iff.2 h5
 .have hm:p.2.2∈xs.map (·.2.2):=List.mem_map.2 ⟨p,p1.mem_iff.1 hp,rfl⟩;rw[q3]at hm;obtain⟨e,he,hb⟩:=List.mem_map.1 hm;rw[<-hb];exact h6 e he
def eY(he:La es xs clk)(h:ObjRel P I w (.map xs clk) B):ObjRel P I w (.umap es) B:=by
 obtain⟨ents,h1,h2⟩:=h;obtain⟨e1,e2,e3,e4⟩:=he;obtain⟨ys,p1,p2⟩:=oN (λp:Z×Z×Nat=>(p.1,p.2.1)) e1 xs rfl;obtain⟨l,q1,q2⟩:=h2.perm' p1.symm;refine⟨ents,clk,h1,l,q1,q2.urel p2,e4,?_,λe he=>?_⟩
 .rw[q2.borns];exact(p1.map (·.2.2)).nodup_iff.2 e2
 .have hm:e.born∈l.map (·.born):=List.mem_map.2 ⟨e,he,rfl⟩;rw[q2.borns]at hm;obtain⟨p,hp,hb⟩:=List.mem_map.1 hm;rw[<-hb];exact e3 p (p1.mem_iff.1 hp)
def Eg(hp:es.Perm es2)(h:ObjRel P I w (.umap es) B):ObjRel P I w (.umap es2) B:=by
 obtain⟨x,h1,h2⟩:=iJ h;refine eY ⟨h1.1.trans (hp.map _),h1.2.1,h1.2.2.1,?_⟩ h2;exact(hp.map (·.1)).nodup_iff.1 h1.2.2.2
end
section
variable {C:Cx}{ic:ICode}{fr:Fr}{s:U}{Q:Res->Fr->U->Prop}{Y:Nat}{es es2:zl}
def Ue(ok:CxOk C)(hg:s.get Y=some (.umap es))(h:∀xs clk,La es xs clk->Tri C ic fr (s.put Y (.map xs clk)) Q):Tri C ic fr s Q:=
 bT ok (λx:zf×Nat=>.map x.1 x.2) (λx=>La es x.1 x.2) hg rfl rfl (λ_=>rfl) (λ_=>rfl) (λ_ _ _ h=>iJ h) λx hx=>h x.1 x.2 hx
def Ud(ok:CxOk C){clk:Nat}(hg:s.get Y=some (.map xs clk))(he:La es xs clk)(h:Tri C ic fr (s.put Y (.umap es)) Q):Tri C ic fr s Q:=
 bT ok (λ_:Unit=>.umap es) (λ_=>True) hg rfl rfl (λ_=>rfl) (λ_=>rfl) (λ_ _ _ h=>⟨(),trivial,eY he h⟩) λ_ _=>h
def H9(ok:CxOk C)(hg:s.get Y=some (.umap es))(hp:es.Perm es2)(h:Tri C ic fr (s.put Y (.umap es2)) Q):Tri C ic fr s Q:=
 bT ok (λ_:Unit=>.umap es2) (λ_=>True) hg rfl rfl (λ_=>rfl) (λ_=>rfl) (λ_ _ _ h=>⟨(),trivial,Eg hp h⟩) λ_ _=>h
end
end Go.Proofs.YtbdfljdgapkbcaaGreatDoor.Ev

/- A part of the evaluator and of its soundness: what it answers, the model's run answers. No conditions. -/
import Derived.Test.YtbddpjboppmnfaaGreatDoorEvG
import Derived.Maps.RangeRun
set_option linter.unusedSimpArgs false
set_option linter.unusedVariables false
set_option linter.defProp false
open List renaming length → zR, map_cons → ye, length_cons → yJ, cons_append → yu, eq_nil_of_length_eq_zero → xg
open Int renaming reduceNegSucc → xW, reduceOfNat → xX
open Nat renaming ble → zM, mul → zK, lt_succ_self → yK, not_lt_zero → wg, testBit_mod_two_pow → wh, le_refl → zX, add → zJ, testBit_shiftLeft → zvS
open Array renaming getElem?_toList → yd
open List.Perm renaming refl → wi, swap → wj
open Bool renaming and_self → xZ
namespace Go.Proofs.YtbddpjboppmnfaaGreatDoor.Ev
variable {P:Program}{n f i j m esz bytes t:Nat}{s:U}{b:Bool}{v:Z}{a cs:zA}{xs:zh}{E:Env}{O:Orc}{X:World}{l:zb}
open Go.RowKit (Below)
def Ev(X9:zj)(Q:Res->Fr->U->Prop):Prop:=∃r fr s,X9=some (r,fr,s)/\Q r fr s
def Cv(X9:zc)(R:Z->U->Prop):Prop:=∃v s,X9=some (v,s)/\R v s
section
variable {E:Env}{O:Orc}{rd:zD}{ia ib ic:ICode}{fr fr':Fr}{s s':U}{Q Q':Res->Fr->U->Prop}{X9 Y9:zj}{U9 V9:zc}{R R':Z->U->Prop}
def vy{r:Res}(h:Q r fr s):Ev (some (r,fr,s)) Q:=⟨r,fr,s,rfl,h⟩
def Kv(h:R v s):Cv (some (v,s)) R:=⟨v,s,rfl,h⟩
def Ev.mono(h:Ev X9 Q)(hq:∀r f t,Q r f t->Q' r f t):Ev X9 Q':=by
 obtain⟨r,f,t,e,q⟩:=h;exact⟨r,f,t,e,hq _ _ _ q⟩
def Cv.mono(h:Cv U9 R)(hq:∀v t,R v t->R' v t):Cv U9 R':=by
 obtain⟨v,t,e,q⟩:=h;exact⟨v,t,e,hq _ _ q⟩
def tc{k:Fr->U->zj}(h:Ev X9 (qa (λf t=>Ev (k f t) Q) Q)):Ev (ge k X9) Q:=by
 obtain⟨r,f,t,rfl,q⟩:=h;cases r with
 |norm=>exact q
 |exit i=>exact⟨_,_,_,rfl,q⟩
 |ret=>exact⟨_,_,_,rfl,q⟩
def wp(h:Ev (evC E (evW E O) rd ia fr s) (qa (λf t=>Ev (evC E (evW E O) rd ib f t) Q) Q)):Ev (evC E (evW E O) rd (.seq ia ib) fr s) Q:=tc h
theorem CH{Y:Nat}(h:Ev X9 (uU Y Q)):Ev (lP Y X9) Q:=by
 obtain⟨r,f,t,rfl,q⟩:=h;cases r with
 |norm=>exact⟨_,_,_,rfl,q⟩
 |ret=>exact⟨_,_,_,rfl,q⟩
 |exit i=>
  refine⟨if i=Y then .norm else .exit i,f,t,?_,q⟩;rw[JA];split<;>rfl
def wA{Y:Nat}(h:Ev (evC E (evW E O) rd ib fr s) (uU Y Q)):Ev (evC E (evW E O) rd (.block Y ib) fr s) Q:=CH h
def wP{α:Type}(m:α->Nat)(Ir:α->Fr->U->Prop)(h:∀x fr s,Ir x fr s->Ev (evC E (evW E O) rd ib fr s) (qa (λf t=>∃y,Ir y f t/\m y<m x) Q))(x:α)(hx:Ir x fr s):Ev (evC E (evW E O) rd (.loop ib) fr s) Q:=by
 have key:∀n x fr s,Ir x fr s->m x<n->Ev (evC E (evW E O) rd (.loop ib) fr s) Q:=by
  intro n
  induction n with
  |zero=>intro x fr s _ h;omega
  |succ n ih=>
   intro x fr s hx hn;rw[Ia];refine tc ((h x fr s hx).mono λr f t=>?_);cases r with
   |norm=>exact λ⟨y,hy,hm⟩=>ih y f t hy J
   |exit i=>exact λh=>h
   |ret=>exact λh=>h
 exact key _ x fr s hx (yK _)
def wO{df:zy}{ops:List SOper}{A:zB}{d:zD}(hc:Cv U9 R)(h:∀v t,R v t->Ev (kN df (evS E (evW E O) ops (uB A d v) t)) Q):Ev (kN df (Fh (stS A d U9) (evS E (evW E O) ops))) Q:=by
 obtain⟨v,t,rfl,q⟩:=hc;exact h v t q
def lw{df:zy}{ops:zt}{A:zB}{d:zD}{deps:Nat}{log:List LogE}{hd:zi}{on:zg}{tch:Option zy}(hc:Cv U9 R)(h:∀v t,R v t->Ev (kN df (sI (opD.endS2 d deps i log A n m hd on tch (some (v,t))) (evD E (evW E O) ops j))) Q):Ev (kN df (sI (opD.endS2 d deps i log A n m hd on tch U9) (evD E (evW E O) ops j))) Q:=by
 obtain⟨v,t,rfl,q⟩:=hc;exact h v t q
def vr{f:Nat}{F:IFunc}(h:O f=none)(hF:E.funs.get f=some F)(hp:E.pure f=true){hd:zi}{on:zg}(ha:zR a<=F.ntmps)
  (hB:Ev (evC E (evW E O) none F.body ⟨qG (tmL []) 0 a,[]⟩ (KL l n 0 true hd on)) λr fr t=>Cv (Yu (KL l n m b hd on) (qJ E.globs F.res (some (r,fr,t)))) R):Cv ((evW E O).call f a (KL l n m b hd on)) R:=by
 obtain⟨r,fr,t,e,q⟩:=hB;rw[j1 h hF hp _ _ _ _ _ _ _ ha,e];exact q
def qD{f:Nat}{F:IFunc}(h:O f=none)(hF:E.funs.get f=some F)(hp:E.pure f=false){hd:zi}{on:zg}(ha:zR a<=F.ntmps)
  (hB:Ev (evC E (evW E O) none F.body ⟨qG (tmL []) 0 a,[]⟩ (KL l n m false hd on)) λr fr t=>Cv (mdR b (qJ E.globs F.res (some (r,fr,t)))) R):Cv ((evW E O).call f a (KL l n m b hd on)) R:=by
 obtain⟨r,fr,t,e,q⟩:=hB;rw[dQ h hF hp _ _ _ _ _ _ _ ha,e];exact q
end
section
variable {E:Env}{O:Orc}{ia ib ic:ICode}{fr fr':Fr}{s s':U}{Q:Res->Fr->U->Prop}{X9 Y9:zj}{U9 V9:zc}{R:Z->U->Prop}{r:Res}
def cvF{f:Nat}{F:IFunc}(hF:E.funs.get f=some F)(hp:E.pure f=true)(ha:zR a<=F.ntmps)
  (hB:Ev (evC E (evW E O) none F.body ⟨qG (tmL []) 0 a,[]⟩ (KL [] 0 0 true)) λr fr t=>Cv (Yu (KL [] 0 0 b) (qJ E.globs F.res (some (r,fr,t)))) R):Cv (jp E (evW E O) f a (s00 0 b)) R:=by
 obtain⟨r,fr,t,e,q⟩:=hB;have:jp E (evW E O) f a (s00 0 b)=Yu (KL [] 0 0 b) (qJ E.globs F.res (evC E (evW E O) none F.body ⟨qG (tmL []) 0 a,[]⟩ (KL [] 0 0 true))):=by
  unfold jp;rw[hF];simp only[qT,qd.2 ha,wy,hp];rfl
 rw[this,e];exact q
def zvE{f:Nat}{F:IFunc}(hF:E.funs.get f=some F)(hp:E.pure f=false)(ha:zR a<=F.ntmps)
  (hB:Ev (evC E (evW E O) none F.body ⟨qG (tmL []) 0 a,[]⟩ (KL [] 0 0 false)) λr fr t=>Cv (mdR b (qJ E.globs F.res (some (r,fr,t)))) R):Cv (jp E (evW E O) f a (s00 0 b)) R:=by
 obtain⟨r,fr,t,e,q⟩:=hB;have:jp E (evW E O) f a (s00 0 b)=mdR b (qJ E.globs F.res (evC E (evW E O) none F.body ⟨qG (tmL []) 0 a,[]⟩ (KL [] 0 0 false))):=by
  unfold jp;rw[hF];simp only[qT,qd.2 ha,wy,hp,wK];rfl
 rw[this,e];exact q
def wu{Z9:Prop}(q:Z9)(h:X9=some (r,fr',s'):=by (simp (disch:=first|exact dis|fail)only[go_sem,seval,-Int.reduceOfNat,-Int.reduceNegSucc, *];exact rfl))(h2:Q r fr' s'=Z9:=by (try simp only[qa,uU,if_true, ↓reduceIte]);first|done|exact rfl):Ev X9 Q:=by
 subst h2;subst h;exact vy q
def qB(q:Ev Y9 Q)(h:X9=Y9:=by (simp (disch:=first|exact dis|fail)only[go_sem,seval,-Int.reduceOfNat,-Int.reduceNegSucc, *];exact rfl)):Ev X9 Q:=h▸q
def wq{Z9:Prop}(q:Z9)(h:evC E (evW E O) none ia fr s=some (r,fr',s'):=by (simp (disch:=first|exact dis|fail)only[go_sem,seval,-Int.reduceOfNat,-Int.reduceNegSucc, *];exact rfl))(h2:qa (λf t=>Ev (evC E (evW E O) none ib f t) Q) Q r fr' s'=Z9:=by (try simp only[qa,uU,if_true, ↓reduceIte]);first|done|exact rfl):Ev (evC E (evW E O) none (.seq ia ib) fr s) Q:=
 wp (by rw[h];exact vy (h2▸q))
def qP{Z9:Prop}(q:Z9)(h:U9=some (v,s):=by (simp (disch:=first|exact dis|fail)only[go_sem,seval,-Int.reduceOfNat,-Int.reduceNegSucc,Nat.mod_one, *];exact rfl))(h2:R v s=Z9:=by exact rfl):Cv U9 R:=by
 subst h2;subst h;exact Kv q
def ev_zc{Z9:Prop}(q:Z9)(h:X9=some (r,fr',s'):=by (simp (disch:=first|exact dis|fail)only[go_sem,seval,-Int.reduceOfNat,-Int.reduceNegSucc, *];exact rfl))(h2:Q r fr' s'=Cv U9 R:=by (try simp only[qa,uU,if_true, ↓reduceIte]);first|done|exact rfl)(h3:U9=some (v,s):=by (simp (disch:=first|exact dis|fail)only[go_sem,seval,-Int.reduceOfNat,-Int.reduceNegSucc,Nat.mod_one, *];exact rfl))(h4:R v s=Z9:=by exact rfl):Ev X9 Q:=by
 subst h4;subst h;exact vy (h2▸h3▸Kv q)
end
def gN{o:zm}{L:zb}(h:¬j=i):wn ((i,o)::L) j=wn L j:=by rw[wz,wx h]
abbrev G(T:List (Nat×Z))(k:Nat)(v:Z):Prop:=(tmL T).get k=some v
attribute [go_sem] G
instance :Coe Int Z:=⟨.int .i64⟩
instance :Coe Nat Z:=⟨λn=>.int .i64 (.ofNat n)⟩
def zwp(n:Nat):Cap->Prop
 |.fix m=>n<=m
 |.opn _=>True
mutual
def Fz(s:U):Z->Z->Prop
 |v,.lst n ex cs=>wL cs=true/\(wkV v=.lst n ex cs\/(ex=false/\∃Y off c e cells x f us,v=.sl Y off n c/\zwp n c/\s.get Y=some (.row e cells x f)/\cut cells off (zR cs)=some us/\FzL s us cs))
 |v,.agg cs=>∃us,v=.agg us/\FzL s us cs
 |v,.tup cs=>∃us,v=.tup us/\FzL s us cs
 |v,w=>wkV v=w
def FzL(s:U):zA->zA->Prop
 |us,[]=>us=[]
 |us,w::ws=>∃u us',us=u::us'/\Fz s u w/\FzL s us' ws
end
def FzL.append{s:U}:∀{us ws us' ws':zA},FzL s us ws->FzL s us' ws'->FzL s (us++us') (ws++ws')
 |_,[],_,_,h,h'=>by simp only[FzL]at h;rw[h];exact h'
 |_,w::ws,us',ws',h,h'=>by
  simp only[FzL]at h;obtain⟨u,us1,rfl,h1,h2⟩:=h;simp only[yu,FzL];exact⟨u,us1++us',rfl,h1,FzL.append h2 h'⟩
noncomputable def Phi.full(I:Phi)(k:Nat)(w:World):Phi:=⟨I.m,λb o=>if k<=b then (match w.heap[b]? with
 |some (.cells c _ _)=>c[o]?
 |_=>none)else I.z b o⟩
section
variable {P:Program}{X w w':World}{I I':Phi}{s:U}
def bI(r:Rel P X I' s.get w')(k:Nat):∀b o v,I'.z b o=some v->(I'.full k w').z b o=some v:=λb o v h=>by
 obtain⟨c,e,fr,h1,h2⟩:=r.frz b o v h;show (if k<=b then _ else _)=_;split
 .rw[h1];exact h2
 .exact h
def ub(r:Rel P X I' s.get w')(k:Nat):Sub I' (I'.full k w'):=⟨λ_ _ h=>h,bI r k⟩
mutual
theorem GV{k:Nat}(r:Rel P X I' s.get w')(hn:∀Y B,I' Y=some B->(∃o,s.get Y=some o)->k<=B.b):∀{v w:Z} {x:Value},Fz s v w->VR I' v x->VR (I'.full k w') w x
 | v,.lst n ex cs,x,h,hv=>by
  simp only[Fz]at h;obtain⟨hp,h|⟨rfl,Y,off,c,e,cells,xt,f,us,rfl,hco,hg,hc,hf⟩⟩:=h
  .rw[<-h];exact VR.mono (ub r k) _ _ (vm hv)
  .simp only[VR]at hv;obtain⟨B,kk,hB,rfl,hcap⟩:=hv;obtain⟨B',hB',t⟩:=r.obj Y _ hg;rw[hB]at hB';cases hB';have hk:=hn Y B hB ⟨_,hg⟩;simp only[ObjRel]at t;obtain⟨cc,fr,t1,t2,t3,t4,t5,_⟩:=t;simp only[VR];obtain⟨c1,c2,c3⟩:=cut_some hc;have hus:VRL I' us ((((cc.toList.drop B.o).take (zR cells)).drop off).take (zR cs)):=by rw[c3];exact(t5.drop off).take _
   refine⟨hp,.inr ⟨B.b,B.o+off,kk,(((cc.toList.drop B.o).take (zR cells)).drop off).take (zR cs),rfl,(by simp),?_,?_,Qd r hn hf hus⟩⟩
   .cases c with
    |fix m=>simp only at hcap;subst hcap;exact hco
    |opn m=>simp only at hcap;exact hcap.2.2.1
   .refine ZC.of λi y hi=>?_;show (if k<=B.b then _ else _)=_;rw[wH hk,t1];show cc[B.o+off+i]? =_;simp only[List.getElem?_take,List.getElem?_drop]at hi;split at hi
    .split at hi
     .rw[<-yd,Nat.add_assoc];exact hi
     .cases hi
    .cases hi
 |v,.agg cs,x,h,hv=>by
  simp only[Fz]at h;obtain⟨us,rfl,h⟩:=h;simp only[VR]at hv|-;obtain⟨xs,rfl,hv⟩:=hv;exact⟨xs,rfl,Qd r hn h hv⟩
 |v,.tup cs,x,h,hv=>by
  simp only[Fz]at h;obtain⟨us,rfl,h⟩:=h;simp only[VR]at hv|-;obtain⟨xs,rfl,hv⟩:=hv;exact⟨xs,rfl,Qd r hn h hv⟩
 |v,.bool _,x,h,hv=>by simp only[Fz]at h;rw[<-h];exact VR.mono (ub r k) _ _ (vm hv)
 |v,.int _ _,x,h,hv=>by simp only[Fz]at h;rw[<-h];exact VR.mono (ub r k) _ _ (vm hv)
 |v,.str _,x,h,hv=>by simp only[Fz]at h;rw[<-h];exact VR.mono (ub r k) _ _ (vm hv)
 |v,.ptr _ _,x,h,hv=>by simp only[Fz]at h;rw[<-h];exact VR.mono (ub r k) _ _ (vm hv)
 |v,.nilp,x,h,hv=>by simp only[Fz]at h;rw[<-h];exact VR.mono (ub r k) _ _ (vm hv)
 |v,.gptr _ _,x,h,hv=>by simp only[Fz]at h;rw[<-h];exact VR.mono (ub r k) _ _ (vm hv)
 |v,.sl _ _ _ _,x,h,hv=>by simp only[Fz]at h;rw[<-h];exact VR.mono (ub r k) _ _ (vm hv)
 |v,.sl0,x,h,hv=>by simp only[Fz]at h;rw[<-h];exact VR.mono (ub r k) _ _ (vm hv)
 |v,.nils,x,h,hv=>by simp only[Fz]at h;rw[<-h];exact VR.mono (ub r k) _ _ (vm hv)
 |v,.map _,x,h,hv=>by simp only[Fz]at h;rw[<-h];exact VR.mono (ub r k) _ _ (vm hv)
 |v,.nilm,x,h,hv=>by simp only[Fz]at h;rw[<-h];exact VR.mono (ub r k) _ _ (vm hv)
 |v,.fn _ _ _,x,h,hv=>by simp only[Fz]at h;rw[<-h];exact VR.mono (ub r k) _ _ (vm hv)
 |v,.nilf,x,h,hv=>by simp only[Fz]at h;rw[<-h];exact VR.mono (ub r k) _ _ (vm hv)
 |v,.yld _,x,h,hv=>by simp only[Fz]at h;rw[<-h];exact VR.mono (ub r k) _ _ (vm hv)
 |v,.ifc _ _,x,h,hv=>by simp only[Fz]at h;rw[<-h];exact VR.mono (ub r k) _ _ (vm hv)
 |v,.nili,x,h,hv=>by simp only[Fz]at h;rw[<-h];exact VR.mono (ub r k) _ _ (vm hv)
 |v,.gr _ _ _ _,x,h,hv=>by simp only[Fz]at h;rw[<-h];exact VR.mono (ub r k) _ _ (vm hv)
 |v,.vp _,x,h,hv=>by simp only[Fz]at h;rw[<-h];exact VR.mono (ub r k) _ _ (vm hv)
theorem Qd{k:Nat}(r:Rel P X I' s.get w')(hn:∀Y B,I' Y=some B->(∃o,s.get Y=some o)->k<=B.b):∀{us ws:zA} {xs:zE},FzL s us ws->VRL I' us xs->VRL (I'.full k w') ws xs
 |us,[],xs,h,hv=>by simp only[FzL]at h;subst h;simpa only[VRL]using hv
 |us,w::ws,xs,h,hv=>by
  simp only[FzL]at h;obtain⟨u,us',rfl,h1,h2⟩:=h;simp only[VRL]at hv|-;obtain⟨y,ys,rfl,h3,h4⟩:=hv;exact⟨y,ys,rfl,GV r hn h1 h3,Qd r hn h2 h4⟩
end
end
def iP(hO:OrcOk P X O)(hm:P.follows .mixedOrders=true)(hG:qm E.globs X)(hE:pf P E){args:zA}(h:Cv (jp E (evW E O) f args (s00 0 b)) λv0 s1=>Fz s1 v0 v):∃s1,SC P X f args (s00 0 b) v s1:=by
 obtain⟨v0,s1,e,hz⟩:=h;obtain⟨h1,h2⟩:=XW (GK hO.ext hm hG hE hO.ok) hG hE (Kw hm hG _ (GK hO.ext hm hG hE hO.ok)) e;refine⟨{s00 0 b with next:=s1.next,wm:=s1.wm},h1,λI w xs r hwf hf hx F n hF=>(h2 r hwf (λY hid=>hf Y hid) hx F n hF).mono ?_⟩
 rintro e' w' ⟨I',x,rfl,k1,k2⟩
 have hnew:∀Y B,I' Y=some B->(∃o,s1.get Y=some o)->w.heap.size<=B.b:=λY B hB ⟨o,ho⟩=>by
  have hlt:Y<s1.next:=by
   have:=(k1.ext.wf hwf).lt Y o (qr ho);exact this
  rcases k1.own Y B (Nat.zero_le _) hlt hB with h|⟨id0,o0,B0,q,_⟩
  .exact h
  .rw[Qo]at q;cases q
 have hgn:∀Y o,({s00 0 b with next:=s1.next,wm:=s1.wm}:U).get Y=some o->False:=λY o h=>by
  have:=qr h;simp[s00,Trie.get]at this
 have hz':∀b o v,(I'.full w.heap.size w').z b o=some v->I.z b o=some v\/w.heap.size<=b:=λb o v h=>by
  by_cases hb:w.heap.size<=b
  .exact .inr hb
  .have h':I'.z b o=some v:=by
    have:(if w.heap.size<=b then _ else I'.z b o)=some v:=h
    rwa [wx hb]at this
   rcases k1.zown b o v h' with h|h|⟨id0,o0,B0,q,_⟩
   .exact .inl h
   .exact .inr h
   .rw[Qo]at q;cases q
 refine⟨I'.full w.heap.size w',x,rfl,⟨⟨k1.ext.next,k1.ext.wm,rfl,rfl,λY hid _=>absurd hid (wg _),λY o hid _=>absurd hid (wg _),λ_=>⟨λY o h=>?_,λp hp=>absurd (show p∈([]:zi)from hp) (by simp)⟩,λY hid _=>absurd hid (wg _),λY o hid _ _ _=>absurd hid (wg _)⟩,⟨k1.rel.base,λY o h=>(hgn Y o h).elim,k1.rel.rng,λY o B h _ _=>(hgn Y o h).elim,λY id' o o' B B' h _ _ _ _=>(hgn Y o h).elim,λb o v h=>?_,λY o B h _=>(hgn Y o h).elim⟩,k1.same,k1.size,k1.frame,λY B h1 h2 h3=>?_,λb o v h=>bI k1.rel _ _ _ _ (k1.zsub b o v h),λb o v h=>?_⟩,GV k1.rel hnew hz k2⟩
 .simp[s00,Trie.get]at h
 .have h':(if w.heap.size<=b then (match w'.heap[b]? with
   |some (.cells c _ _)=>c[o]?
   |_=>none)else I'.z b o)=some v:=h
  split at h'
  .split at h'
   .rename_i c e fr hw;exact⟨c,e,fr,hw,h'⟩
   .cases h'
  .exact k1.rel.frz b o v h'
 .exact k1.own Y B h1 h2 h3
 .rcases hz' b o v h with h|h
  .exact .inl h
  .exact .inr (.inl h)
theorem tP{need:Nat}(he:1<=esz)(hb:2*need*bytes<=281474976710656)(hn:need<9223372036854775808):grow s t esz bytes cs need=some (.sl s.next 0 need (.opn esz),s.alloc (.row t cs true false)):=by
 simp only[grow];rw[show zM (zK (zK 2 need) bytes) 281474976710656=true from qd.2 hb,show zM 1 esz=true from qd.2 he,show Nat.blt need 9223372036854775808=true from qA.2 hn];rfl
def Ji{a b c v:zA}{off:Nat}(h1:List.length a=off)(h2:List.length v=List.length b):ki (a++(b++c)) off v=some (a++(v++c)):=by
 subst h1
 induction a with
 | nil=>
  show ki (b++c) 0 v=some (v++c);have over_ok:∀(v b c:zA),zR v=zR b->Uq (b++c) v=some (v++c):=by
   intro v
   induction v with
   |nil=>intro b c h;cases b with
    |nil=>cases c<;>rfl
    |cons _ _=>simp at h
   |cons x v ih=>intro b c h;cases b with
    |nil=>simp at h
    |cons y b=>simp only[yu,Uq,ih b c (by simpa using h)]
  cases h:b++c with
  |nil=>rw[<-over_ok v b c h2,h];rfl
  |cons x r=>rw[<-over_ok v b c h2,h];rfl
 |cons x a ih=>simp only[yu,yJ,ki,ih]
section
variable {l:zb}{n m t esz bytes Y k q:Nat}{b:Bool}{hd:zi}{on:zg}{y:Z}{old new:zA}
theorem LE(h1:gw y=some (q+1))(h2:qQ (KL l n m b hd on) esz (q+1) y=some new)(hm:b=false\/wL new=false)(he:1<=esz)(hb:2*(q+1)*bytes<=281474976710656)(hn:q<1000000000000):
  jo (KL l n m b hd on) t esz bytes .nils y=some (.sl n 0 (q+1) (.opn esz),KL ((n,some (.row t new true false))::l) (n+1) m b hd on):=by
 have hz:(b&&wL new)=false:=by rcases hm with rfl|h<;>simp[*]
 simp only[jo,h1,h2,ZZ,QF,hz,wK];rw[tP he hb J];rfl
theorem LF(hg:(KL l n m b hd on).get Y=some (.row t old true false))(hk:zR old=k*esz)(h1:gw y=some (q+1))(h2:qQ (KL l n m b hd on) esz (q+1) y=some new)(hs:w8 new=true)(he:1<=esz)(hb:2*(k+(q+1))*bytes<=281474976710656)(hn:k+q<1000000000000):
  jo (KL l n m b hd on) t esz bytes (.sl Y 0 k (.opn esz)) y=some (.sl n 0 (k+(q+1)) (.opn esz),KL ((n,some (.row t (old++new) true false))::(Y,none)::l) (n+1) (gj m Y) b hd on):=by
 have hle:zM (zJ 0 (zK (zJ k (Nat.succ q)) esz)) (vC old)=false:=by
  rw[qT,hk];cases h:zM (zJ 0 (zK (zJ k (Nat.succ q)) esz)) (k*esz)with
  |false=>rfl
  |true=>
   exfalso
   have h2:=qd.1 h;have h3:0+(k+(q+1))*esz<=k*esz:=h2;rw[Nat.add_mul]at h3;have:1<=(q+1)*esz:=Nat.mul_pos J J;omega
 have hc:cut old 0 (zK k esz)=some old:=by
  rw[bp,show zK k esz=(zR old)from hk.symm];exact qz rfl
 simp only[jo,h1,h2,ZZ,hg,ql.2 (rfl:esz=esz),ql.2 (rfl:t=t),Bool.not_false,Bool.and_true,xZ,wy,hle,wK,hs,hc,EQ];rw[show zJ k (Nat.succ q)=k+(q+1)from rfl,tP he hb J];rfl
end
theorem lE{Y j e q:Nat}{c:Cap}{x f:Bool}(hg:s.get Y=some (.row e cs x f))(hl:List.length cs=q*esz):gw (.sl Y 0 q c)=some q/\qQ s esz q (.sl Y 0 q c)=some cs:=by
 refine⟨rfl,?_⟩;simp only[qQ,hg,bp,show zK q esz=(zR cs)from hl.symm];exact qz rfl
theorem zxC(l:zb)(n m:Nat)(hd:zi)(on:zg)(e len:Nat)(cs:zA):Uo (KL l n m false hd on) e len (some cs)=some (.sl n 0 len (.fix len),KL ((n,some (.row e cs false false))::l) (n+1) m false hd on):=rfl
attribute [go_sem] zxC
def ltF(h:i<j):(i=j)=False:=eq_false J
def gtF(h:j<i):(i=j)=False:=eq_false J
def wF{m i n:Nat}(h:n<=i):(m|||1<<<i)%2^n=m%2^n:=by
 apply Nat.eq_of_testBit_eq;intro j;simp only[wh,Nat.testBit_or,zvS];by_cases hj:j<n
 .have:¬i<=j:=J;simp[hj,this]
 .simp[hj]
def wI(h:n<=i):(1<<<i)%2^n=0:=by
 have:= @wF 0 i n h
 simpa using this
def vZ{α:Type}(f:α->zA)(esz Y:Nat)(vs:List α):Z:=match vs with
 |[]=>.nils
 |_::_=>.gr Y esz (zR vs) (wo f vs)
def Lv{α:Type}(t:Nat)(f:α->zA)(L:zb)(n Y:Nat)(vs:List α):Prop:=vs≠[]->Y<n/\wn L Y=some (.app t (wo f vs))
theorem Wi{need:Nat}(he:1<=esz)(hb:2*need*bytes<=281474976710656)(hn:need<9223372036854775808)(hp:wL cs=true):Zo s t esz bytes cs need=some (.gr s.next esz need cs,s.alloc (.app t cs)):=by
 simp only[Zo];rw[show zM (zK (zK 2 need) bytes) 281474976710656=true from qd.2 hb,show zM 1 esz=true from qd.2 he,show Nat.blt need 9223372036854775808=true from qA.2 hn,hp];rfl
def Xa{α:Type}{f:α->zA}(h:∀x,w8 (f x)=true):∀l:List α,w8 (wo f l)=true
 |[]=>rfl
 | x::r=>by
  have ap:∀a b:zA,w8 a=true->w8 b=true->w8 (a++b)=true:=by
   intro a
   induction a with
   |nil=>intro b _ h;exact h
   |cons v a ih=>
    intro b h1 h2;simp only[yu,ko,Bool.and_eq_true]at h1|-;exact⟨h1.1,ih b h1.2 h2⟩
  exact ap _ _ (h x) (Xa h r)
def pK{α:Type}{f:α->zA}(hl:∀x,(f x).length=esz)(hp:∀x,wL (f x)=true)(hs:∀x,w8 (f x)=true)(he:1<=esz){L:zb}{Y:Nat}{vs ws:List α}{e:Bool}(h:Lv t f L n Y vs)(hb:2*(zR vs+zR ws)*bytes<=281474976710656)(hn:zR vs+zR ws<1000000000000):
  Cv (jo (KL L n m true) t esz bytes (vZ f esz Y vs) (.lst (zR ws) e (wo f ws))) λv s=>∃id' L' n' m',v=vZ f esz id' (vs++ws)/\s=KL L' n' m' true/\Lv t f L' n' id' (vs++ws)/\n<=n'/\(id'=Y\/n<=id')/\(∀j,j<n->(vs≠[]->j≠Y)->wn L' j=wn L j):=by
 cases ws with
 |nil=>
  refine⟨vZ f esz Y vs,KL L n m true,?_,Y,L,n,m,by rw[List.append_nil],rfl,by rw[List.append_nil];exact h,zX _,.inl rfl,λ_ _ _=>rfl⟩
  cases vs<;>rfl
 | cons w ws=>
  have h2:qQ (KL L n m true) esz (zR ws+1) (.lst (w::ws).length e (wo f (w::ws)))=some (wo f (w::ws)):=by
   simp only[qQ];rw[show zK (zR ws+1) esz=(wo f (w::ws)).length from (vI hl (w::ws)).symm];exact qz rfl
  cases vs with
  |nil=>
   refine⟨.gr n esz (zR ws+1) (wo f (w::ws)),KL ((n,some (.app t (wo f (w::ws))))::L) (n+1) m true,?_,n,_,_,_,rfl,rfl,λ_=>⟨yK _,by rw[wz,wH rfl];rfl⟩,Nat.le_succ _,.inr (zX _),λj hj _=>by rw[wz,wx J]⟩
   simp only[List.length_nil,yJ]at hb hn;simp only[jo,vZ,yJ,gP];simp only[yJ]at h2;simp only[h2,ZZ,QF,wX hp,xZ,wy];rw[Wi he (by simpa using hb) J (wX hp _)];rfl
  | cons u us=>
   obtain⟨hid,hg⟩:=h (by simp)
   refine⟨.gr n esz ((zR us+1)+(zR ws+1)) (wo f (u::us)++wo f (w::ws)),KL ((n,some (.app t (wo f (u::us)++wo f (w::ws))))::(Y,none)::L) (n+1) (gj m Y) true,?_,n,_,_,_,?_,rfl,λ_=>⟨yK _,by rw[wz,wH rfl,qu]⟩,Nat.le_succ _,.inr (zX _),λj hj hne=>by rw[wz,wx J,wz,wx (hne (by simp))]⟩
   .simp only[yJ]at hb hn;simp only[jo,vZ,yJ,gP];simp only[yJ]at h2;simp only[h2,ZZ,qk,hg,ql.2 (rfl:esz=esz),ql.2 (rfl:t=t),ql.2 (rfl:vC (wo f (u::us))=vC (wo f (u::us))),Xa hs,xZ,wy,EQ];rw[show zJ (zR us+1) (Nat.succ (zR ws))=(zR us+1)+(zR ws+1)from rfl,Wi he hb J (by rw[ux,wX hp,wX hp];rfl)];rfl
   .simp only[vZ,yu,List.length_append,yJ];rw[<-yu,qu]
    congr 1;omega
theorem Ud{α:Type}{f:α->zA}{Y:Nat}(hp:∀x,wL (f x)=true)(hw:∀x,wkL (f x)=f x)(vs:List α):∃v0,XP 0 (vZ f esz Y vs)=some v0/\Fz s v0 (.lst (List.length vs) false (wo f vs)):=by
 cases vs with
 |nil=>exact⟨.nils,rfl,by simp only[Fz,wkV,wo,wU,true_and,List.length_nil];exact .inl trivial⟩
 |cons v vs=>
  refine⟨.lst (v::vs).length false (wo f (v::vs)),?_,?_⟩
  .simp only[vZ,XP,J9,XO,show zM 0 Y=true from qd.2 (Nat.zero_le _),wy]
  .simp only[Fz,wkV,ua hw,wX hp,true_and];exact .inl trivial
section
variable {L:zb}{n m t e esz bytes Y k:Nat}{b:Bool}{old cs:zA}{x f:Bool}
def Ks(hl:zR cs=esz)(he:1<=esz)(hb:2*bytes<=281474976710656):
  jo (KL ((n,some (.row e cs x f))::L) (n+1) m false [] (some (n+1,[n]))) t esz bytes .nils (.sl n 0 1 (.fix 1))=some (.sl (n+1) 0 1 (.opn esz),KL ((n+1,some (.row t cs true false))::(n,some (.row e cs x f))::L) (n+1+1) m false [] (some (n+1,[n]))):=by
 have hg:(KL ((n,some (.row e cs x f))::L) (n+1) m false [] (some (n+1,[n]))).get n=some (.row e cs x f):=by
  rw[WQ];simp only[hid,wK,Xi,ql.2 (rfl:n=n),wy,wz,if_true];cases zM (n+1) n<;>rfl
 exact LE (q:=0) rfl (lE (j:=0) hg J).2 (.inl rfl) he J J
def Kt(hid':Y<n)(hg:wn L Y=some (.row t old true false))(hk:zR old=k*esz)(hl:zR cs=esz)(he:1<=esz)(hs:w8 cs=true)(hb:2*(k+1)*bytes<=281474976710656)(hn:k<1000000000000):
  jo (KL ((n,some (.row e cs x f))::L) (n+1) m b [] (some (n+1,[Y,n]))) t esz bytes (.sl Y 0 k (.opn esz)) (.sl n 0 1 (.fix 1))=some (.sl (n+1) 0 (k+1) (.opn esz),KL ((n+1,some (.row t (old++cs) true false))::(Y,none)::(n,some (.row e cs x f))::L) (n+1+1) (gj m Y) b [] (some (n+1,[Y,n]))):=by
 have hm:∀j,j=Y\/j=n->Xi j [Y,n]=true:=λj h=>Ws.2 (by rcases h with rfl|rfl<;>simp)
 have hg1:(KL ((n,some (.row e cs x f))::L) (n+1) m b [] (some (n+1,[Y,n]))).get n=some (.row e cs x f):=by
  rw[WQ];simp only[hid,wK,hm n (.inr rfl),wy,wz,if_true];cases zM (n+1) n<;>rfl
 have hg2:(KL ((n,some (.row e cs x f))::L) (n+1) m b [] (some (n+1,[Y,n]))).get Y=some (.row t old true false):=by
  rw[WQ];simp only[hid,wK,hm Y (.inl rfl),wy,wz,wx (show ¬Y=n by omega),hg]
  cases zM (n+1) Y<;>rfl
 exact LF (q:=0) hg2 hk rfl (lE (j:=0) hg1 J).2 hs he J J
end
def zx9:((1<<<i)%2^n).testBit j=(decide (j<n)&&decide (i=j)):=by
 rw[wh,zvS];by_cases h:i=j
 .subst h;simp
 .by_cases h2:i<=j
  .have:j-i≠0:=J;have h3:Nat.testBit 1 (j-i)=false:=by
    cases hb:Nat.testBit 1 (j-i)with
    |false=>rfl
    |true=>rw[Nat.testBit_one_eq_true_iff_self_eq_zero]at hb;omega
   simp[h,h3]
  .simp[h,h2]
mutual
theorem Fz.mono{s s':U}(h:∀j o,s.get j=some o->s'.get j=some o):∀{v w:Z},Fz s v w->Fz s' v w
 |v,.lst n ex cs,hf=>by
  simp only[Fz]at hf|-;obtain⟨hp,hf|⟨h1,Y,off,c,e,cells,x,f,us,h2,h3,h4,h5,h6⟩⟩:=hf
  .exact⟨hp,.inl hf⟩
  .exact⟨hp,.inr ⟨h1,Y,off,c,e,cells,x,f,us,h2,h3,h _ _ h4,h5,FzL.mono h h6⟩⟩
 |v,.agg cs,hf=>by simp only[Fz]at hf|-;obtain⟨us,h1,h2⟩:=hf;exact⟨us,h1,FzL.mono h h2⟩
 |v,.tup cs,hf=>by simp only[Fz]at hf|-;obtain⟨us,h1,h2⟩:=hf;exact⟨us,h1,FzL.mono h h2⟩
 |v,.bool _,hf=>by simpa only[Fz]using hf
 |v,.int _ _,hf=>by simpa only[Fz]using hf
 |v,.str _,hf=>by simpa only[Fz]using hf
 |v,.ptr _ _,hf=>by simpa only[Fz]using hf
 |v,.nilp,hf=>by simpa only[Fz]using hf
 |v,.gptr _ _,hf=>by simpa only[Fz]using hf
 |v,.sl _ _ _ _,hf=>by simpa only[Fz]using hf
 |v,.sl0,hf=>by simpa only[Fz]using hf
 |v,.nils,hf=>by simpa only[Fz]using hf
 |v,.map _,hf=>by simpa only[Fz]using hf
 |v,.nilm,hf=>by simpa only[Fz]using hf
 |v,.fn _ _ _,hf=>by simpa only[Fz]using hf
 |v,.nilf,hf=>by simpa only[Fz]using hf
 |v,.yld _,hf=>by simpa only[Fz]using hf
 |v,.ifc _ _,hf=>by simpa only[Fz]using hf
 |v,.nili,hf=>by simpa only[Fz]using hf
 |v,.gr _ _ _ _,hf=>by simpa only[Fz]using hf
 |v,.vp _,hf=>by simpa only[Fz]using hf
theorem FzL.mono{s s':U}(h:∀j o,s.get j=some o->s'.get j=some o):∀{us ws:zA},FzL s us ws->FzL s' us ws
 |us,[],hf=>by simpa only[FzL]using hf
 |us,w::ws,hf=>by
  simp only[FzL]at hf|-;obtain⟨u,us',h1,h2,h3⟩:=hf;exact⟨u,us',h1,Fz.mono h h2,FzL.mono h h3⟩
end
theorem Ag{l:zb}{n m e bytes C:Nat}{b:Bool}{hd:zi}{on:zg}{zs:zA}(h:C*bytes<=281474976710656)(h2:C<9223372036854775808):Lo (KL l n m b hd on) e bytes zs (.int .i64 (.ofNat C)) (.int .i64 (.ofNat C))=some (.sl n 0 C (.fix C),KL ((n,some (.row e (reps C zs) false false))::l) (n+1) m b hd on):=by
 simp only[Lo];rw[show zM C C=true from qd.2 (zX _),show zM (zK C bytes) 281474976710656=true from qd.2 h,show Nat.blt C 9223372036854775808=true from qA.2 h2];rfl
def qh(h:i<j\/j<i):(1<<<i)%2^n/2^j%2=0:=by
 have h1:((1<<<i)%2^n).testBit j=false:=by
  rw[zx9];have:i≠j:=J;simp[this]
 rw[J4]at h1;simp only[Bool.not_eq_false']at h1;exact ql.1 h1
open Go.ChangeMaps (setBlock)
section
variable {C:Cx}{ic ia ib:ICode}{fr:Fr}{s:U}{Q:Res->Fr->U->Prop}
def zwe(ok:CxOk C)(h:Ev (evC C.E (evW C.E C.O) C.rd ic fr s) Q):Tri C ic fr s Q:=by
 obtain⟨r,f,t,e,q⟩:=h;exact mr ok e q
def Jr{α:Type}(m:α->Nat)(Ir:α->Fr->U->Prop)(h:∀x fr s,Ir x fr s->Tri C ib fr s (qa (λf t=>∃y,Ir y f t/\m y<m x) Q))(x:α)(hx:Ir x fr s):Tri C (.loop ib) fr s Q:=by
 apply vR;have key:∀n x fr s,Ir x fr s->m x<n->H6 C ib fr s Q:=by
  intro n
  induction n with
  |zero=>intro x fr s _ h;omega
  |succ n ih=>
   intro x fr s hx hn;refine uu ((h x fr s hx).mono λr f t=>?_);cases r with
   |norm=>exact λ⟨y,hy,hm⟩=>ih y f t hy J
   |exit i=>exact λh=>h
   |ret=>exact λh=>h
 exact key _ x fr s hx (yK _)
end
def zwH:IOp->Bool
 |.nm _=>true
 |_=>false
def K5{x:Option IOp}{op:IOp}(h:(bif b then x else none)=some op):x=some op:=by cases b<;>first|exact h|cases h
def zyK{x y:Option IOp}{op:IOp}(h:(bif b then x else y)=some op):x=some op\/y=some op:=by cases b<;>first|exact .inl h|exact .inr h
def dM{b:Builtin}{ts:List TypeId}{xs:List Operand}{op:IOp}(h:XV P b ts xs=some op):zwH op=false:=by
 unfold XV at h;split at h
 all_goals (repeat' (split at h))
 all_goals (try replace h:=K5 h)
 all_goals first|(cases h<;>rfl)|(obtain⟨_,_,rfl⟩:=Option.map_eq_some_iff.1 h;rfl)
def RO{o:Op}{op:IOp}(h:vv P o=some op)(hn:zwH op=true):∃y,o=.next y false/\(vP y).map .nm=some op:=by
 unfold vv at h;split at h
 all_goals first|(exact⟨_,rfl,h⟩)|skip
 all_goals (try (repeat' (split at h)))
 all_goals (try replace h:=K5 h)
 all_goals first|(cases h<;>cases hn;done)|(obtain⟨_,_,rfl⟩:=Option.map_eq_some_iff.1 h;cases hn;done)|(rw[dM h]at hn;cases hn;done)|skip
 all_goals (
  rcases zyK h with h|h
  .cases h<;>cases hn
  .replace h:=K5 h;cases h<;>cases hn)
def zyO{o:Op}{x:Opd}(h:nj P o=.nm x):∃y,o=.next y false/\vP y=some x/\cOp P o=some (.nm x):=by
 unfold nj at h;cases hc:cOp P o with
 |none=>rw[hc]at h;cases h
 |some op=>
  rw[hc]at h;simp only at h;subst h;rcases LM hc with ⟨hv,_⟩|⟨c,_,⟨f,l,_,he,_⟩|⟨y,y',l,_,he,_⟩⟩
  .obtain⟨y,rfl,hy⟩:=RO hv rfl;obtain⟨z,hz,he⟩:=Option.map_eq_some_iff.1 hy;cases he;exact⟨y,rfl,hz,rfl⟩
  .cases he
  .cases he
def zyM{nt:Nat}{c:Code}{l:List SOper}(h:cC P nt c=some (.reg l)):∃Y ops,c=.region Y ops false/\cSs P nt ops ops.toList=some l:=by
 cases c with
 | region Y ops any=>
  cases any with
  |true=>
   simp only[cC]at h;obtain⟨l',hl,he⟩:=Option.map_eq_some_iff.1 h;cases he
  |false=>
   simp only[cC]at h;obtain⟨l',hl,he⟩:=Option.map_eq_some_iff.1 h;cases he;exact⟨Y,ops,rfl,hl⟩
 |seq a b=>
  simp only[cC]at h;split at h
  .simp only[wB]at h;cases h
  .cases h
 |cond a b c=>
  simp only[cC]at h;split at h<;>cases h
 |block a b=>
  simp only[cC]at h;obtain⟨_,_,he⟩:=Option.map_eq_some_iff.1 h;cases he
 |loop b=>
  simp only[cC]at h;obtain⟨_,_,he⟩:=Option.map_eq_some_iff.1 h;cases he
 | rangeFunc a b c d=>
  simp only[cC]at h;split at h
  .cases hq:b.toList.all (Nat.blt · nt)with
   |true=>rw[hq]at h;cases h
   |false=>rw[hq]at h;cases h
  .cases h
 |_=>simp[cC]at h
def EntRel.mem{I:Phi}:∀{l:zh} {es:zF} {e:MapEntry},EntRel I l es->e∈es->∃p∈l,VR I p.1 e.key/\VR I p.2.1 e.val/\e.born=p.2.2
 |[],_,e,h,he=>by simp only[EntRel]at h;subst h;cases he
 |p::l,_,e,h,he=>by
  obtain⟨e',es',rfl,h1,h2,h3,h4⟩:=h;rcases List.mem_cons.1 he with rfl|he
  .exact⟨p,by simp,h1,h2,h3⟩
  .obtain⟨q,hq,h5⟩:=EntRel.mem h4 he;exact⟨q,by simp[hq],h5⟩
def EntRel.old{I:Phi}{k:Nat}:∀{l:zh} {es:zF},EntRel I l es->(∀p∈l,p.2.2<k)->∀e∈es,e.born<k
 |_,_,h,hl,e,he=>by
  obtain⟨p,hp,_,_,h3⟩:=h.mem he;rw[h3];exact hl p hp
def mU{w:World}:Below w.heap.size w w.drew:=(Below.refl _ w).drew
def Ra{C:Cx}{fr:Fr}{Q:Res->Fr->U->Prop}(ok:CxOk C){d x:Nat}{rest:List SOper}{it since last clk:Nat}{seen:zy}{es:zh}
  (hx:fr.A.get x=some (.ptr it 0)) (hi:s.get it=some (.miter (some m) since seen last)) (hm:s.get m=some (.map es clk)) (ho:∀p∈es,p.2.2<since) (hl:since<=last)
  (h0:jM seen es=[]->∃tm' s',evS C.E (evW C.E C.O) rest (fr.A.set d (.tup [.bool false])) s=some (tm',s')/\Q .norm ⟨tm',fr.df⟩ s')
  (h1:∀p,p∈jM seen es->∃tm' s',evS C.E (evW C.E C.O) rest (fr.A.set d (.tup [.bool true,p.1,p.2.1])) (s.put it (.miter (some m) since (seen++[p.2.2]) clk))=some (tm',s')/\Q .norm ⟨tm',fr.df⟩ s'):
  Tri C (.reg (⟨some d,.nm (.t x),none⟩::rest)) fr s Q:=by
 intro c hc I w a ha hf F n hF hrd;obtain⟨Y,ops,rfl,hls⟩:=zyM hc;apply wpIn_region;rw[List.range_eq_range',<-Array.length_toList];obtain⟨o,orest,hto⟩:∃o orest,ops.toList=o::orest:=by
  cases ht:ops.toList with
  |nil=>rw[ht]at hls;simp[cSs]at hls
  |cons o r=>exact⟨o,r,rfl⟩
 rw[hto]at hls|-;simp only[cSs]at hls;split at hls
 case h_2=>cases hls
 rename_i so l' hso hrest
 simp only[wB,vc]at hls;obtain⟨rfl,rfl⟩:=hls;have hk:ops[0]? =some o:=by rw[<-yd,hto];rfl
 have hd':ops.toList.drop 1=orest:=by rw[hto];rfl
 simp only[yJ,List.range'_succ,wpOpsIn,hk];obtain⟨hg,hop,hdst,hlt⟩:=a9 hso;replace hdst:o.dst=some d:=hdst.symm;rw[pp hg (A:=fr.A) (b:=true) rfl (TmOn.of hf.A),wH rfl];obtain⟨y,hy1,hy2,hy3⟩:=zyO hop.symm;refine⟨λf _=>hF.fn f,?_⟩;rw[Oper.semAt_eq _ _ _ (PT hy3)];have hv:=wM (I:=I) (a:=a) hy2 (v:=.ptr it 0) (by simp only[Opd.ev];exact hx) (TmOn.of hf.A)
 simp only[VR]at hv;obtain⟨B,hB,hv⟩:=hv;have hr:=ha.st.rel;obtain⟨B',hB',_,m',hb,Bm,hBm,rfl⟩:=hr.obj it _ hi;rw[hB]at hB';cases hB';obtain⟨ents,hbm,hent⟩:=Wq hr hm hBm;have hex:execOp a.eval o=(do pure (.value (<-Instr.next (a.eval y) false o.type))):=by unfold execOp;rw[hy1]
 have hv2:a.eval y=.pointer (some ⟨B.b,0,none⟩):=by rw[hv];rename_i h00;simp[h00]
 have hleft:=Qi seen hent;have hfl:(leftOf ents seen.toArray).toList=ents.toList.filter λe=> !seen.contains e.born:=by simp[leftOf]
 have go:∀{I':Phi} {v:Z} {xv:Value} {tm':zB} {s1 s':U} {w':World},Step C.P C.X I s w I' s1 w'->VR I' v xv->(∀Y,s1.next<=Y->I' Y=none)->Wf s1->evS C.E (evW C.E C.O) l' (fr.A.set d v) s1=some (tm',s')->Q .norm ⟨tm',fr.df⟩ s'->
   wpOpsIn F n C.P ops (dw C Q) (List.range' 1 (zR orest)) (a.put o.dst xv) w':=by
  intro I' v xv tm' s1 s' w' st hvx hfr1 hwf1 hev q;have hsub:=st.sub (s:=s) (s':=s1) (λY h1=>ha.fresh Y h1);refine UZ ok.self ok.glob hF orest 1 hd' hrest hev st.rel hwf1 (λY h1=>hfr1 Y h1) ?_ ?_ λφ2 a2 w2 k1 k2=>?_
  .rw[hdst];exact(rL (nt:=C.nt) (dst:=some d) (hf.A.mono hsub) hf.size (λd' h'=>hlt d' (hdst.trans h')) hvx).1
  .rw[hdst];simp[Act.put,hf.size]
  .refine⟨.norm,_,s',φ2,rfl,(ha.step ok st).step ok k1,⟨k2.1,k2.2.1,?_⟩,q⟩;rw[k2.2.2,hdst];exact(hf.df.mono hsub).mono (k1.sub λY h1=>hfr1 Y h1)
 rcases run_next_at (P:=C.P) w o.type B.b Bm.b since last seen.toArray ents clk hb hbm (hent.old ho) hl with ⟨hz,hrun⟩|⟨e,he,w1,hw1,hrun⟩
 .have hnil:jM seen es=[]:=by
   have:(ents.toList.filter λe=> !seen.contains e.born)=[]:=by rw[<-hfl];exact xg (by simpa using hz)
   rw[this]at hleft;have:=hleft.length;exact xg (by simpa using this)
  obtain⟨tm',s',hev,q⟩:=h0 hnil;rw[hex];rw[hv2,Sem.run_bind,hrun,Result.andThen_ok,Sem.run_pure,Oper.uponIn_value];exact go (Step.refl hr) (by simp only[VR];exact⟨[.bool false],rfl,VRL.cons (by simp[VR]) (VRL.nil I)⟩) ha.fresh (ha.wf ok) hev q
 .rw[hfl]at he;obtain⟨p,hp,e1,e2,e3⟩:=hleft.mem he;obtain⟨tm',s',hev,q⟩:=h1 p hp;have st1:Step C.P C.X I s w I s w1:=by
   rcases hw1 with rfl|rfl
   .exact Step.refl hr
   .exact Step.below hr mU
  have hh:w1.heap=w.heap:=by rcases hw1 with rfl|rfl<;>rfl
  have hb1:w1.heap[B.b]? =some (.mapIter (some Bm.b) since seen.toArray last):=by rw[hh];exact hb
  have st2:Step C.P C.X I s w1 I (s.put it (.miter (some m) since (seen++[p.2.2]) clk)) (setBlock w1 B.b (.mapIter (some Bm.b) since (seen.toArray.push e.born) clk)):=
   Step.setObj st1.rel hi hB hb1 (x':=.mapIter (some Bm.b) since (seen.toArray.push e.born) clk) ⟨by assumption,some Bm.b,by rw[Zu hb1];simp[e3],Bm,hBm,rfl⟩
  have st:=Step.trans (ha.wf ok) st1 st2;rw[hex];rw[hv2,Sem.run_bind,hrun,Result.andThen_ok,Sem.run_pure,Oper.uponIn_value];exact go st (by simp only[VR];exact⟨[.bool true,e.key,e.val],rfl,VRL.cons (by simp[VR]) (VRL.cons e1 (VRL.cons e2 (VRL.nil I)))⟩) (λY hid=>by rw[Yr]at hid;exact ha.fresh Y hid) (st.ext.wf (ha.wf ok)) hev q
def Cvt(P:Program)(o:AObj):Prop:=∀(φa φb:Phi) (w:World) (B:Blk),(∀b i v,φa.z b i=some v->φb.z b i=some v)->ObjRel P φa w o B->ObjRel P φb w o B
def eB{es:zp}(h:QO es=true):Cvt P (.umap es):=λ_ _ _ _ hz ⟨ents,clk,h1,h2⟩=>⟨ents,clk,h1,h2.pure hz h⟩
section
variable {P:Program}{X:World}{I φ1:Phi}{s s0 s' t:U}{w w':World}
def Step.emb(hsub:∀Y o,s0.get Y=some o->s.get Y=some o)(hn:s0.next=s.next)(r:Rel P X I s.get w)(k:Step P X I s0 w φ1 t w')(e:Ext s s')(hn':s'.next=s.next){z:Nat->Nat->Option Value}
  (hz1:∀b i v,φ1.z b i=some v->z b i=some v) (hz2:∀b i,b<w.heap.size->z b i=φ1.z b i) (hz3:∀b o v,z b o=some v->∃c e fr,w'.heap[b]? =some (.cells c e fr)/\c[o]? =some v)
  (hg:∀Y o,s'.get Y=some o->(t.get Y=some o/\Y<s.next/\Cvt P o)\/(s.get Y=some o/\∀o0,s0.get Y=some o0->t.wm.testBit Y=false))
  (hw:∀Y,Y<s.next->t.wm.testBit Y=true->s'.wm.testBit Y=true) (hlt:∀Y o,s0.get Y=some o->Y<s.next):Step P X I s w ⟨I.m,z⟩ s' w':=by
 have hm:∀Y,Y<s.next->φ1 Y=I Y:=λY hid=>k.same Y (.inl J)
 have hvis:∀Y o,s'.get Y=some o->∃y,s.get Y=some y:=λY o ho=>by
  rcases hg Y o ho with ⟨h1,h2,_⟩|⟨h1,_⟩
  .obtain⟨y,hy⟩:=k.ext.get_vis J h1;exact⟨y,hsub _ _ hy⟩
  .exact⟨o,h1⟩
 have hsb:Sub I ⟨I.m,z⟩:=⟨λ_ _ h=>h,λb i v h=>hz1 b i v (k.zsub b i v h)⟩;have hk:∀Y o B,s.get Y=some o->I Y=some B->(∀o0,s0.get Y=some o0->t.wm.testBit Y=false)->w'.heap[B.b]? =w.heap[B.b]? :=λY o B ho hB hnw=>by
  by_cases hold:B.b<X.heap.size
  .rw[k.rel.base.block _ hold,r.base.block _ hold]
  .refine k.frame B.b (r.rng Y B hB) λid0 o0 B0 h0 hB0 hbe=>?_;rcases r.inj Y id0 o o0 B B0 ho (hsub _ _ h0) hB hB0 hbe.symm with rfl|h
   .exact hnw o0 h0
   .exact absurd h hold
 refine⟨e,⟨k.rel.base,λY o ho=>?_,λY B hB=>?_,λY o B ho hB hlt=>?_,λi j o o' B1 B2 h1 h2 q1 q2 q3=>?_,hz3,λY o B ho hB=>?_⟩,λ_ _=>rfl,k.size,λb hb hq=>?_,(λY B h1 h2=>absurd h2 J),λb i v h=>hz1 b i v (k.zsub b i v h),λb i u hu=>?_⟩
 .rcases hg Y o ho with ⟨h1,h2,hc⟩|⟨h1,h2⟩
  .obtain⟨B,hB,q⟩:=k.rel.obj Y o h1;exact⟨B,(hm Y h2).symm.trans hB,hc _ _ _ _ hz1 q⟩
  .obtain⟨B,hB,q⟩:=r.obj Y o h1;exact⟨B,hB,q.keep hsb (hk Y o B h1 hB h2)⟩
 .exact Nat.lt_of_lt_of_le (r.rng Y B hB) k.size
 .rcases hg Y o ho with ⟨h1,h2,_⟩|⟨h1,_⟩
  .exact k.rel.old Y o B h1 ((hm Y h2).trans hB) hlt
  .exact r.old Y o B h1 hB hlt
 .obtain⟨y,hy⟩:=hvis i o h1;obtain⟨y',hy'⟩:=hvis j o' h2;exact r.inj i j y y' B1 B2 hy hy' q1 q2 q3
 .have hb:B.b<w.heap.size:=r.rng Y B hB;rcases hg Y o ho with ⟨h1,h2,_⟩|⟨h1,h2⟩
  .exact(k.rel.sep Y o B h1 ((hm Y h2).trans hB)).congr λi=>hz2 B.b i hb
  .by_cases hold:B.b<X.heap.size
   .have:=r.old Y o B h1 hB hold;cases o<;>first|(cases this;done)|(simp only[SepOf])
   .refine(r.sep Y o B h1 hB).congr λi=>?_;show z B.b i=I.z B.b i;rw[hz2 B.b i hb];cases e1:φ1.z B.b i with
    |none=>
     cases e2:I.z B.b i with
     |none=>rfl
     |some u=>have:=k.zsub B.b i u e2;rw[e1]at this;cases this
    | some u=>
     rcases k.zown _ _ _ e1 with q|q|⟨id0,o0,B0,q1,q2,q3,q4⟩
     .exact q.symm
     .omega
     .rcases r.inj Y id0 o o0 B B0 h1 (hsub _ _ q1) hB q2 q3.symm with rfl|h
      .rw[h2 o0 q1]at q4;cases q4
      .exact absurd h hold
 .refine k.frame b hb λid0 o0 B0 h0 hB0 hbe=>?_;cases e1:t.wm.testBit id0 with
  |false=>rfl
  |true=>
   have h1:=hq id0 o0 B0 (hsub _ _ h0) hB0 hbe;rw[hw id0 (hlt id0 o0 h0) e1]at h1;cases h1
 .by_cases hb:b<w.heap.size
  .have hu':z b i=some u:=hu;rw[hz2 b i hb]at hu';rcases k.zown _ _ _ hu' with q|q|⟨id0,o0,B0,q1,q2,q3,q4⟩
   .exact .inl q
   .omega
   .exact .inr (.inr ⟨id0,o0,B0,hsub _ _ q1,q2,q3,hw id0 (hlt id0 o0 q1) q4⟩)
  .exact .inr (.inl J)
end
def O8 (hO:OrcOk P X O)(hm:P.follows .mixedOrders=true)(hG:qm E.globs X)(hE:pf P E){f:Nat}{F:IFunc}{args:zA}{c:U}{R:Z->U->Prop}
  (hF:E.funs.get f=some F) (hle:zR args<=F.ntmps) (hh:c.hide=[]) (ho:c.only=none) (hw:c.wm=0)
  (H:∀C:Cx,CxOk C->C.P=P->C.E=E->C.O=O->C.rd=none->C.s=c->Tri C F.body {A:=qG .leaf 0 args,df:=[]} c (λr fr t=>∃v t2,qJ E.globs F.res (some (r,fr,t))=some (v,t2)/\R v t2)):
  (∃fn,P.funcs[f]? =some fn/\fn.body.isSome=true/\(fn.name== "runtime.NumGoroutine")=false)/\∀(I:Phi) (w:World) (xs:zE),Rel P X I c.get w->Wf c->(∀Y,c.next<=Y->I Y=none)->VRL I args xs->∀Fe n,Wide Fe->CallsIn Fe n P f xs.toArray w λe w'=>∃v t2 φ1 x,e=.returned x/\Step P X I c w φ1 t2 w'/\VR φ1 v x/\R v t2:=by
 obtain⟨fn,hfn,hcf⟩:=hE f F hF;unfold dN at hcf;split at hcf
 .cases hcf
 .rename_i cd hbody
  split at hcf
  .rename_i ib rs hb hrs
   cases hnm:(fn.name != "runtime.NumGoroutine")with
   |false=>rw[hnm]at hcf;simp at hcf
   | true=>
    rw[hnm]at hcf;simp only[wy,wB]at hcf;subst hcf;have hnm':(fn.name== "runtime.NumGoroutine")=false:=by simpa [bne]using hnm
    refine⟨⟨fn,hfn,by rw[hbody];rfl,hnm'⟩,?_⟩
    intro I w xs r hwf hf hx Fe n hFe;have ok:CxOk ⟨P,X,E,O,fn.ntmps,none,I,c,w,0⟩:=
     ⟨hO,hm,hG,hE,r,hwf,hf,hh,ho,λi hi=>by rw[show (⟨P,X,E,O,fn.ntmps,none,I,c,w,0⟩:Cx).s.wm=0 from hw]at hi;simp at hi,λi hi=>by simp at hi⟩
    have hat:At ⟨P,X,E,O,fn.ntmps,none,I,c,w,0⟩ I c w:=⟨Step.refl r,hf⟩;have hxl:zR xs<=fn.ntmps:=by rw[<-VRL.length hx];exact hle
    have hfr:FrRel I fn.ntmps {A:=qG .leaf 0 args,df:=[]} {tmps:=xs.toArray++Array.replicate (fn.ntmps-xs.toArray.size) undef,defers:=[]}:=
     ⟨WI hx _,by simp;omega,rfl⟩
    have hFp:Wide Fe.plain:=⟨hFe.fn,hFe.depth,hFe.alive⟩;have ht:=H _ ok rfl rfl rfl rfl rfl;have key:CallsIn Fe.plain n P f xs.toArray w λe w'=>∃v t2 φ1 x,e=.returned x/\Step P X I c w φ1 t2 w'/\VR φ1 v x/\R v t2:=by
     refine callsIn_of_wp_marks hfn hbody (hFe.fn f) (wpIn_mono (ht cd hb I w _ hat hfr Fe.plain n hFp (λ_=>rfl)) ?_)
     rintro e a' w' ⟨res,fr',s1,φ1,rfl,k1,k2,v,t2,he,hR⟩
     simp only[qJ]at he;have hres:∃s2,vB s1 fr'.df=some s2/\Vs E.globs fr'.A s2 rs=some (v,t2)/\(res=.norm\/res=.ret):=by
      cases res with
      |exit i=>simp at he
      |norm=>
       simp only at he;split at he
       .rename_i s2 hs2;exact⟨s2,hs2,he,.inl rfl⟩
       .cases he
      |ret=>
       simp only at he;split at he
       .rename_i s2 hs2;exact⟨s2,hs2,he,.inr rfl⟩
       .cases he
     obtain⟨s2,hmk,hre,hor⟩:=hres;have hleave:LeavesInM Fe.plain n P fn a'.tmps (λe w'=>∃v t2 φ1 x,e=.returned x/\Step P X I c w φ1 t2 w'/\VR φ1 v x/\R v t2) a'.defers .returning w':=by
      refine PM ok hmk k2.df k1 λw2 k3=>?_;obtain⟨rfl,x,k4,k5⟩:=Z9 hG k3.st.rel k2.A hrs hre;exact⟨x,k4,v,_,φ1,x,rfl,k3.st,k5,hR⟩
     rcases hor with rfl|rfl
     .exact hleave
     .exact hleave
    exact key
  .cases hcf
noncomputable def Kk(s:U):List (Nat×AObj)->U
 |[]=>s
 |p::r=>Kk (s.put p.1 p.2) r
def P8:∀(W:List (Nat×AObj)) (s:U),(Kk s W).next=s.next
 |[],_=>rfl
 |p::r,s=>P8 r (s.put p.1 p.2)
def NJ(s:U)(Y:Nat)(o:AObj)(j:Nat):seen (s.put Y o) j=seen s j:=je rfl rfl j
def cJ(s:U)(Y:Nat)(o:AObj)(j:Nat):(s.put Y o).get j=if j=Y then (if seen s Y then some o else none)else s.get j:=by
 rw[gh,NJ,gh,show (s.put Y o).objs=s.objs.set Y o from rfl,Trie.get_set];by_cases h:j=Y
 .subst h;simp
 .simp[h]
def iG:∀(W:List (Nat×AObj)) (s:U),(W.map (·.1)).Nodup->(∀p∈W,∃o,s.get p.1=some o)->∀Y o,(Kk s W).get Y=some o->(Y,o)∈W\/((∀p∈W,p.1≠Y)/\s.get Y=some o)
 |[],s,_,_,Y,o,h=>.inr ⟨by simp,h⟩
 | p::r,s,hn,hs,Y,o,h=>by
  simp only[ye,List.nodup_cons,List.mem_map,not_exists,not_and]at hn;have h2:=iG r (s.put p.1 p.2) hn.2 (λq hq=>by
   obtain⟨o,ho⟩:=hs q (by simp[hq])
   refine⟨o,?_⟩;rw[cJ,wx (λe=>hn.1 q hq e)];exact ho) Y o h
  rcases h2 with h2|⟨h2,h3⟩
  .exact .inl (by simp[h2])
  .rw[cJ]at h3;by_cases he:Y=p.1
   .rw[wH he]at h3;split at h3
    .cases h3;subst he;exact .inl (by simp)
    .cases h3
   .rw[wx he]at h3;refine .inr ⟨λq hq=>?_,h3⟩;rcases List.mem_cons.1 hq with rfl|hq
    .exact Ne.symm he
    .exact h2 q hq
def AL:∀(W:List (Nat×AObj)) (s:U) (Y:Nat),(s.wm.testBit Y=true\/∃p∈W,p.1=Y)->(Kk s W).wm.testBit Y=true
 |[],s,Y,h=>by
  rcases h with h|⟨p,hp,_⟩
  .exact h
  .cases hp
 | p::r,s,Y,h=>by
  refine AL r (s.put p.1 p.2) Y ?_;rcases h with h|⟨q,hq,he⟩
  .left;show (gj s.wm p.1).testBit Y=true;rw[vf,h];rfl
  .rcases List.mem_cons.1 hq with rfl|hq
   .left;show (gj s.wm q.1).testBit Y=true;rw[vf];simp[he]
   .exact .inr ⟨q,hq,he⟩
def Hx:∀(W:List (Nat×AObj)) (s:U),(W.map (·.1)).Nodup->(∀p∈W,∃o,s.get p.1=some o/\uE o=false)->Ext s (Kk s W)
 |[],s,_,_=>Ext.refl s
 |p::r,s,hn,hs=>by
  simp only[ye,List.nodup_cons,List.mem_map,not_exists,not_and]at hn;obtain⟨o,ho,hg⟩:=hs p (by simp)
  refine(ja ho hg).trans (Hx r (s.put p.1 p.2) hn.2 λq hq=>?_);obtain⟨o,ho,hg⟩:=hs q (by simp[hq])
  refine⟨o,?_,hg⟩;rw[cJ,wx (λe=>hn.1 q hq e)];exact ho
def zzm(hO:OrcOk P X O)(hm:P.follows .mixedOrders=true)(hG:qm E.globs X)(hE:pf P E){f:Nat}{F:IFunc}{args:zA}{s0:U}{W:List (Nat×AObj)}
  (hF:E.funs.get f=some F) (hle:zR args<=F.ntmps) (hh:s0.hide=[]) (ho:s0.only=none) (hw:s0.wm=0) (hwf0:Wf s0) (hn:s0.next=s.next) (hsub:∀Y o,s0.get Y=some o->s.get Y=some o)
  (hp:qg v=true) (hWn:(W.map (·.1)).Nodup) (hWs:∀p∈W,∃o,s.get p.1=some o/\uE o=false) (hWp:∀p∈W,p.1<s.next/\Cvt P p.2)
  (H:∀C:Cx,CxOk C->C.P=P->C.E=E->C.O=O->C.rd=none->C.s=s0->Tri C F.body {A:=qG .leaf 0 args,df:=[]} s0 (λr fr t=>∃v1 t2,qJ E.globs F.res (some (r,fr,t))=some (v1,t2)/\v1=v/\(∀p∈W,t2.get p.1=some p.2)/\∀Y,Y<s0.next->(∀p∈W,p.1≠Y)->t2.wm.testBit Y=false)):SC P X f args s v (Kk s W):=by
 obtain⟨h1,h2⟩:=O8 hO hm hG hE (R:=λv1 t2=>v1=v/\(∀p∈W,t2.get p.1=some p.2)/\∀Y,Y<s0.next->(∀p∈W,p.1≠Y)->t2.wm.testBit Y=false) hF hle hh ho hw H
 refine⟨h1,λI w xs r hwf hf hx Fe n hFe=>(h2 I w xs (r.sub hsub) hwf0 (λY hid=>hf Y J) hx Fe n hFe).mono ?_⟩
 rintro e w' ⟨v1,t2,φ1,x,rfl,k,hv,rfl,hW1,hW2⟩
 refine⟨⟨I.m,φ1.z⟩,x,rfl,Step.emb hsub hn r k (Hx W s hWn hWs) (P8 W s) (λ_ _ _ h=>h) (λ_ _ _=>rfl) k.rel.frz (λY o ho=>?_) (λY hid hb=>?_) (λY o h=>by rw[<-hn];exact hwf0.lt Y o (qr h)),VR.pure (I:=φ1) (I':=⟨I.m,φ1.z⟩) (λ_ _ _ h=>h) _ _ hp hv⟩
 .rcases iG W s hWn (λp hp=>let ⟨o,h,_⟩:=hWs p hp;⟨o,h⟩) Y o ho with h|⟨h,h'⟩
  .exact .inl ⟨hW1 _ h,hWp _ h⟩
  .by_cases hid:Y<s0.next
   .exact .inr ⟨h',λ_ _=>hW2 Y hid h⟩
   .exact .inr ⟨h',λo0 h0=>absurd (hwf0.lt Y o0 (qr h0)) hid⟩
 .by_cases h:∃p∈W,p.1=Y
  .exact AL W s Y (.inr h)
  .have:=hW2 Y J (λp hp he=>h ⟨p,hp,he⟩);rw[this]at hb;cases hb
def zzl(hO:OrcOk P X O)(hm:P.follows .mixedOrders=true)(hG:qm E.globs X)(hE:pf P E){args:zA}{s0:U}
  (hwf0:Wf s0) (hn:s0.next=s.next) (hsub:∀Y o,s0.get Y=some o->s.get Y=some o) (hp:qg v=true)
  (h:Cv (jp E (evW E O) f args s0) λv1 t2=>(∃t3:U,(∀Y o,t3.get Y=some o->t2.get Y=some o/\s0.next<=Y)/\Fz t3 v1 v)/\∀Y,Y<s0.next->t2.wm.testBit Y=false):SC P X f args s v s:=by
 obtain⟨v1,t2,he,⟨t3,ht3,hfz⟩,hW2⟩:=h;obtain⟨h1,h2⟩:=XW (GK hO.ext hm hG hE hO.ok) hG hE (Kw hm hG _ (GK hO.ext hm hG hE hO.ok)) he;refine⟨h1,λI w xs r hwf hf hx Fe n hFe=>(h2 (r.sub hsub) hwf0 (λY hid=>hf Y J) hx Fe n hFe).mono ?_⟩
 rintro e w' ⟨φ1,x,rfl,k,hv⟩
 have hnew:∀Y B,φ1 Y=some B->(∃o,t3.get Y=some o)->w.heap.size<=B.b:=λY B hB ⟨o,ho⟩=>by
  obtain⟨q1,q2⟩:=ht3 Y o ho;rcases k.own Y B q2 ((k.ext.wf hwf0).lt Y o (qr q1)) hB with h|⟨id0,o0,B0,q,_,_,q3⟩
  .exact h
  .rw[hW2 id0 (hwf0.lt id0 o0 (qr q))]at q3;cases q3
 have hx2:=GV (s:=t3) (k.rel.sub λY o h=>(ht3 Y o h).1) hnew hfz hv;have hzf:∀b o v,(φ1.full w.heap.size w').z b o=some v->∃c e fr,w'.heap[b]? =some (.cells c e fr)/\c[o]? =some v:=λb o v h=>by
  have h':(if w.heap.size<=b then (match w'.heap[b]? with
   |some (.cells c _ _)=>c[o]?
   |_=>none)else φ1.z b o)=some v:=h
  split at h'
  .split at h'
   .rename_i c e fr hw;exact⟨c,e,fr,hw,h'⟩
   .cases h'
  .exact k.rel.frz b o v h'
 refine⟨⟨I.m,(φ1.full w.heap.size w').z⟩,x,rfl,Step.emb hsub hn r k (Ext.refl s) rfl (bI k.rel _) (λb i hb=>?_) hzf (λY o ho=>.inr ⟨ho,λo0 h0=>hW2 Y (hwf0.lt Y o0 (qr h0))⟩) (λY hid hb=>?_) (λY o h=>by rw[<-hn];exact hwf0.lt Y o (qr h)),VR.pure (I:=φ1.full w.heap.size w') (I':=⟨I.m,(φ1.full w.heap.size w').z⟩) (λ_ _ _ h=>h) _ _ hp hx2⟩
 .show (if w.heap.size<=b then _ else _)=_;rw[wx J]
 .rw[hW2 Y J]at hb;cases hb
def cZ{α:Type}{C:Cx}{ic:ICode}{fr:Fr}{Q:Res->Fr->U->Prop}(ok:CxOk C){Y:Nat}{o:AObj}(o':α->AObj)(p:α->Prop)(hg:s.get Y=some o)(hng:uE o=false)(hna:PB o=false)(hng2:∀x,uE (o' x)=false)(hna2:∀x,PB (o' x)=false)
  (ho:∀I w B,ObjRel C.P I w o B->∃x,p x/\ObjRel C.P I w (o' x) B) (h:∀x,p x->Tri C ic fr (s.put Y (o' x)) Q):Tri C ic fr s Q:=by
 intro c hc I w a ha hf F n hF hrd;obtain⟨B,hB,t⟩:=ha.st.rel.obj Y o hg;obtain⟨x,hp,t'⟩:=ho I w B t;refine h x hp c hc I w a (ha.step ok ?_) hf F n hF hrd;exact Step.put ha.st.rel hg hB (λ_ _=>rfl) rfl rfl rfl rfl t' hng hna
def Lw(es:zp)(xs:zh)(clk:Nat):Prop:=
 (xs.map λp=>(p.1,p.2.1)).Perm (es.map λq=>(.int .i64 q.1,q.2))/\(xs.map (·.2.2)).Nodup/\(∀p∈xs,p.2.2<clk)/\(es.map (·.1)).Nodup
section
variable {I:Phi}
def EntRel.perm:∀{l l2:zF},l.Perm l2->∀{xs:zh},EntRel I xs l->∃ys,ys.Perm xs/\EntRel I ys l2:=by
 intro l l2 h
 induction h with
 |nil=>exact λ{xs} hx=>⟨xs,wi _,hx⟩
 | cons a _ ih=>
  intro xs hx;cases xs with
  |nil=>simp only[EntRel]at hx;cases hx
  |cons p xs=>
   obtain⟨e,es',he,h1,h2,h3,h4⟩:=hx;cases he;obtain⟨ys,q1,q2⟩:=ih h4;exact⟨p::ys,q1.cons p,_,_,rfl,h1,h2,h3,q2⟩
 | swap a b l=>
  intro xs hx;cases xs with
  |nil=>simp only[EntRel]at hx;cases hx
  | cons p xs=>
   obtain⟨e,es',he,h1,h2,h3,h4⟩:=hx;cases he;cases xs with
   |nil=>simp only[EntRel]at h4;cases h4
   |cons p2 xs=>
    obtain⟨e,es',he,g1,g2,g3,g4⟩:=h4;cases he;exact⟨p2::p::xs,wj _ _ _,_,_,rfl,g1,g2,g3,_,_,rfl,h1,h2,h3,g4⟩
 |trans _ _ ih1 ih2=>
  intro xs hx;obtain⟨ys,q1,q2⟩:=ih1 hx;obtain⟨zs,q3,q4⟩:=ih2 q2;exact⟨zs,q3.trans q1,q4⟩
def EntRel.perm':∀{xs ys:zh},xs.Perm ys->∀{l:zF},EntRel I xs l->∃l2,l2.Perm l/\EntRel I ys l2:=by
 intro xs ys h
 induction h with
 |nil=>exact λ{l} hx=>⟨l,wi _,hx⟩
 |cons a _ ih=>
  rintro l ⟨e,es',rfl,h1,h2,h3,h4⟩
  obtain⟨l2,q1,q2⟩:=ih h4;exact⟨e::l2,q1.cons e,_,_,rfl,h1,h2,h3,q2⟩
 |swap a b l=>
  rintro l ⟨e,es',rfl,h1,h2,h3,e2,es2,rfl,g1,g2,g3,g4⟩
  exact⟨e2::e::es2,wj _ _ _,_,_,rfl,g1,g2,g3,_,_,rfl,h1,h2,h3,g4⟩
 |trans _ _ ih1 ih2=>
  intro l hx;obtain⟨l2,q1,q2⟩:=ih1 hx;obtain⟨l3,q3,q4⟩:=ih2 q2;exact⟨l3,q3.trans q1,q4⟩
def ru{α β:Type}(f:α->β){m1 m:List β}(h:m1.Perm m):∀(l:List α),l.map f=m1->∃l2:List α,l2.Perm l/\l2.map f=m:=by
 induction h with
 |nil=>exact λl hl=>⟨l,wi _,hl⟩
 | cons a _ ih=>
  intro l hl;cases l with
  |nil=>cases hl
  |cons x l=>
   simp only[ye,vc]at hl;obtain⟨l2,q1,q2⟩:=ih l hl.2;exact⟨x::l2,q1.cons x,by rw[ye,hl.1,q2]⟩
 | swap a b m=>
  intro l hl;cases l with
  |nil=>cases hl
  | cons x l=>
   cases l with
   |nil=>simp at hl
   |cons y l=>
    simp only[ye,vc]at hl;exact⟨y::x::l,wj _ _ _,by rw[ye,ye,hl.1,hl.2.1,hl.2.2]⟩
 |trans _ _ ih1 ih2=>
  intro l hl;obtain⟨l2,q1,q2⟩:=ih1 l hl;obtain⟨l3,q3,q4⟩:=ih2 l2 q2;exact⟨l3,q3.trans q1,q4⟩
def URel.ent:∀{es:zp} {l:zF},URel I es l->∃xs,EntRel I xs l/\(xs.map λp=>(p.1,p.2.1))=(es.map λq=>(.int .i64 q.1,q.2))/\xs.map (·.2.2)=l.map (·.born)
 |[],_,h=>by simp only[URel]at h;subst h;exact⟨[],rfl,rfl,rfl⟩
 |q::es,_,h=>by
  obtain⟨e,l,rfl,h1,h2,h3⟩:=h;obtain⟨xs,q1,q2,q3⟩:=URel.ent h3;exact⟨(.int .i64 q.1,q.2,e.born)::xs,⟨e,l,rfl,by simp only[VR];exact h1,h2,rfl,q1⟩,by rw[ye,q2];rfl,by rw[ye,q3];rfl⟩
def EntRel.urel:∀{xs:zh} {es:zp} {l:zF},EntRel I xs l->(xs.map λp=>(p.1,p.2.1))=(es.map λq=>(.int .i64 q.1,q.2))->URel I es l
 |[],es,l,h,e=>by
  cases es with
  |nil=>exact h
  |cons q es=>cases e
 | p::xs,es,l,h,e=>by
  cases es with
  |nil=>cases e
  |cons q es=>
   simp only[ye,vc,qj]at e;obtain⟨e1,l1,rfl,h1,h2,h3,h4⟩:=h;refine⟨e1,l1,rfl,?_,e.1.2▸h2,EntRel.urel h4 e.2⟩;rw[e.1.1]at h1;simpa only[VR]using h1
def EntRel.borns:∀{xs:zh} {l:zF},EntRel I xs l->l.map (·.born)=xs.map (·.2.2)
 |[],_,h=>by simp only[EntRel]at h;subst h;rfl
 |p::xs,_,h=>by
  obtain⟨e,l,rfl,_,_,h3,h4⟩:=h;rw[ye,ye,EntRel.borns h4,h3]
end
section
variable {P:Program}{I:Phi}{w:World}{B:Blk}{es es2:zp}{xs:zh}{clk:Nat}
def mw(h:ObjRel P I w (.umap es) B):∃x:zh×Nat,Lw es x.1 x.2/\ObjRel P I w (.map x.1 x.2) B:=by
 obtain⟨ents,clk,h1,l,h2,h3,h4,h5,h6⟩:=h;obtain⟨xs,q1,q2,q3⟩:=h3.ent;obtain⟨ys,p1,p2⟩:=q1.perm h2;refine⟨(ys,clk),⟨?_,?_,λp hp=>?_,h4⟩,ents,h1,p2⟩
 .rw[<-q2];exact p1.map _
 .have:(ys.map (·.2.2)).Perm (l.map (·.born)):=by rw[<-q3];exact p1.map _
  exact this.nodup_iff.2 h5
 .have hm:p.2.2∈xs.map (·.2.2):=List.mem_map.2 ⟨p,p1.mem_iff.1 hp,rfl⟩;rw[q3]at hm;obtain⟨e,he,hb⟩:=List.mem_map.1 hm;rw[<-hb];exact h6 e he
def fQ(he:Lw es xs clk)(h:ObjRel P I w (.map xs clk) B):ObjRel P I w (.umap es) B:=by
 obtain⟨ents,h1,h2⟩:=h;obtain⟨e1,e2,e3,e4⟩:=he;obtain⟨ys,p1,p2⟩:=ru (λp:Z×Z×Nat=>(p.1,p.2.1)) e1 xs rfl;obtain⟨l,q1,q2⟩:=h2.perm' p1.symm;refine⟨ents,clk,h1,l,q1,q2.urel p2,e4,?_,λe he=>?_⟩
 .rw[q2.borns];exact(p1.map (·.2.2)).nodup_iff.2 e2
 .have hm:e.born∈l.map (·.born):=List.mem_map.2 ⟨e,he,rfl⟩;rw[q2.borns]at hm;obtain⟨p,hp,hb⟩:=List.mem_map.1 hm;rw[<-hb];exact e3 p (p1.mem_iff.1 hp)
def EC(hp:es.Perm es2)(h:ObjRel P I w (.umap es) B):ObjRel P I w (.umap es2) B:=by
 obtain⟨x,h1,h2⟩:=mw h;refine fQ ⟨h1.1.trans (hp.map _),h1.2.1,h1.2.2.1,?_⟩ h2;exact(hp.map (·.1)).nodup_iff.1 h1.2.2.2
end
section
variable {C:Cx}{ic:ICode}{fr:Fr}{s:U}{Q:Res->Fr->U->Prop}{Y:Nat}{es es2:zp}
def UF(ok:CxOk C)(hg:s.get Y=some (.umap es))(h:∀xs clk,Lw es xs clk->Tri C ic fr (s.put Y (.map xs clk)) Q):Tri C ic fr s Q:=
 cZ ok (λx:zh×Nat=>.map x.1 x.2) (λx=>Lw es x.1 x.2) hg rfl rfl (λ_=>rfl) (λ_=>rfl) (λ_ _ _ h=>mw h) λx hx=>h x.1 x.2 hx
def UE(ok:CxOk C){clk:Nat}(hg:s.get Y=some (.map xs clk))(he:Lw es xs clk)(h:Tri C ic fr (s.put Y (.umap es)) Q):Tri C ic fr s Q:=
 cZ ok (λ_:Unit=>.umap es) (λ_=>True) hg rfl rfl (λ_=>rfl) (λ_=>rfl) (λ_ _ _ h=>⟨(),trivial,fQ he h⟩) λ_ _=>h
def Lu(ok:CxOk C)(hg:s.get Y=some (.umap es))(hp:es.Perm es2)(h:Tri C ic fr (s.put Y (.umap es2)) Q):Tri C ic fr s Q:=
 cZ ok (λ_:Unit=>.umap es2) (λ_=>True) hg rfl rfl (λ_=>rfl) (λ_=>rfl) (λ_ _ _ h=>⟨(),trivial,EC hp h⟩) λ_ _=>h
end
end Go.Proofs.YtbddpjboppmnfaaGreatDoor.Ev

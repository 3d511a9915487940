/- Part of a verified evaluator of the model's code, generic over the program: a run of the evaluator that answers shows what the model's run answers. No conditions of its own. -/
import Derived.Test.YtbdfljdgapkbcaaGreatDoorEvG
import Derived.Maps.RangeRun
set_option linter.unusedSimpArgs false
set_option linter.unusedVariables false
set_option linter.defProp false
open List renaming map_cons → zv, length_cons → zU, cons_append → zG, eq_nil_of_length_eq_zero → yr
open Nat renaming ble → zd, mul → zb, lt_succ_self → zV, not_lt_zero → ziA, testBit_mod_two_pow → ziB, le_refl → zo, add → zc, testBit_shiftLeft → ziE
open Int renaming reduceNegSucc → xb, reduceOfNat → xc
open Array renaming getElem?_toList → zu
open List.Perm renaming refl → ziC, swap → ziD
open Bool renaming and_self → xe
namespace Go.Proofs.YtbdfljdgapkbcaaGreatDoor.Ev
variable {P:Program}{w0 w:World}{E:Env}{O:Orc}{s:St}{v:AV}{tm:Trie AV}{id n esz bytes:Nat}{o:AObj}{op:IOp}
open Go.RowKit (Below)
def Ev(X:Option (Res×Fr×St))(Q:Res→Fr→St→Prop):Prop:=∃r fr s,X=some (r,fr,s)∧Q r fr s
def Cv(X:Option (AV×St))(R:AV→St→Prop):Prop:=∃v s,X=some (v,s)∧R v s
section
variable {E:Env}{O:Orc}{rd:Option Nat}{ia ib ic:ICode}{fr fr':Fr}{s s':St}{Q Q':Res→Fr→St→Prop}{X Y:Option (Res×Fr×St)}{U V:Option (AV×St)}{R R':AV→St→Prop}
theorem wM{r:Res}(h:Q r fr s):Ev (some (r,fr,s)) Q:=⟨r,fr,s,rfl,h⟩
theorem zoG(h:R v s):Cv (some (v,s)) R:=⟨v,s,rfl,h⟩
theorem Ev.mono(h:Ev X Q)(hq:∀r f t,Q r f t→Q' r f t):Ev X Q':=by
 obtain⟨r,f,t,e,q⟩:=h;exact⟨r,f,t,e,hq _ _ _ q⟩
theorem Cv.mono(h:Cv U R)(hq:∀v t,R v t→R' v t):Cv U R':=by
 obtain⟨v,t,e,q⟩:=h;exact⟨v,t,e,hq _ _ q⟩
theorem zxu{k:Fr→St→Option (Res×Fr×St)}(h:Ev X (wH (fun f t=>Ev (k f t) Q) Q)):Ev (uC k X) Q:=by
 obtain⟨r,f,t,rfl,q⟩:=h;cases r with
 |norm=>exact q
 |exit i=>exact⟨_,_,_,rfl,q⟩
 |ret=>exact⟨_,_,_,rfl,q⟩
theorem xz(h:Ev (evC E (evW E O) rd ia fr s) (wH (fun f t=>Ev (evC E (evW E O) rd ib f t) Q) Q)):Ev (evC E (evW E O) rd (.seq ia ib) fr s) Q:=zxu h
theorem zvL(h:Ev X (kl id Q)):Ev (jv id X) Q:=by
 obtain⟨r,f,t,rfl,q⟩:=h;cases r with
 |norm=>exact⟨_,_,_,rfl,q⟩
 |ret=>exact⟨_,_,_,rfl,q⟩
 |exit i=>
  refine⟨if i=id then .norm else .exit i,f,t,?_,q⟩;rw[WH];split<;>rfl
theorem xE(h:Ev (evC E (evW E O) rd ib fr s) (kl id Q)):Ev (evC E (evW E O) rd (.block id ib) fr s) Q:=zvL h
theorem xU{α:Type}(m:α→Nat)(I:α→Fr→St→Prop)(h:∀x fr s,I x fr s→Ev (evC E (evW E O) rd ib fr s) (wH (fun f t=>∃y,I y f t∧m y<m x) Q))(x:α)(hx:I x fr s):Ev (evC E (evW E O) rd (.loop ib) fr s) Q:=by
 have key:∀n x fr s,I x fr s→m x<n→Ev (evC E (evW E O) rd (.loop ib) fr s) Q:=by
  intro n
  induction n with
  |zero=>intro x fr s _ h;omega
  |succ n ih=>
   intro x fr s hx hn;rw[zsI];refine zxu ((h x fr s hx).mono fun r f t=>?_);cases r with
   |norm=>exact fun⟨y,hy,hm⟩=>ih y f t hy oM
   |exit i=>exact fun h=>h
   |ret=>exact fun h=>h
 exact key _ x fr s hx (zV _)
theorem xC{df:List Nat}{ops:List SOper}{d:Option Nat}(hc:Cv U R)(h:∀v t,R v t→Ev (uo df (evS E (evW E O) ops (qC tm d v) t)) Q):Ev (uo df (zxm (stS tm d U) (evS E (evW E O) ops))) Q:=by
 obtain⟨v,t,rfl,q⟩:=hc;exact h v t q
theorem wh{df:List Nat}{ops:List DOper}{j:Nat}{d:Option Nat}{deps i:Nat}{log:List LogE}{m:Nat}{hd:List (Nat×Nat)}{on:Option (Nat×List Nat)}{tch:Option (List Nat)}(hc:Cv U R)(h:∀v t,R v t→Ev (uo df (zxl (opD.endS2 d deps i log tm n m hd on tch (some (v,t))) (evD E (evW E O) ops j))) Q):Ev (uo df (zxl (opD.endS2 d deps i log tm n m hd on tch U) (evD E (evW E O) ops j))) Q:=by
 obtain⟨v,t,rfl,q⟩:=hc;exact h v t q
theorem wI{f:Nat}{F:IFunc}(h:O f=none)(hF:E.funs.get f=some F)(hp:E.pure f=true){a:List AV}{l:List (Nat×Option AObj)}{m:Nat}{b:Bool}{hd:List (Nat×Nat)}{on:Option (Nat×List Nat)}(ha:a.length≤F.ntmps)
  (hB:Ev (evC E (evW E O) none F.body ⟨wq (tmL []) 0 a,[]⟩ (KL l n 0 true hd on)) fun r fr t=>Cv (Z2 (KL l n m b hd on) (wL E.globs F.res (some (r,fr,t)))) R):Cv ((evW E O).call f a (KL l n m b hd on)) R:=by
 obtain⟨r,fr,t,e,q⟩:=hB;rw[vF h hF hp _ _ _ _ _ _ _ ha,e];exact q
theorem xO{f:Nat}{F:IFunc}(h:O f=none)(hF:E.funs.get f=some F)(hp:E.pure f=false){a:List AV}{l:List (Nat×Option AObj)}{m:Nat}{b:Bool}{hd:List (Nat×Nat)}{on:Option (Nat×List Nat)}(ha:a.length≤F.ntmps)
  (hB:Ev (evC E (evW E O) none F.body ⟨wq (tmL []) 0 a,[]⟩ (KL l n m false hd on)) fun r fr t=>Cv (mdR b (wL E.globs F.res (some (r,fr,t)))) R):Cv ((evW E O).call f a (KL l n m b hd on)) R:=by
 obtain⟨r,fr,t,e,q⟩:=hB;rw[HG h hF hp _ _ _ _ _ _ _ ha,e];exact q
end
section
variable {E:Env}{O:Orc}{ia ib ic:ICode}{fr fr':Fr}{s s':St}{Q:Res→Fr→St→Prop}{X Y:Option (Res×Fr×St)}{U V:Option (AV×St)}{R:AV→St→Prop}{r:Res}
theorem cvF{f:Nat}{F:IFunc}(hF:E.funs.get f=some F)(hp:E.pure f=true){a:List AV}{b:Bool}(ha:a.length≤F.ntmps)
  (hB:Ev (evC E (evW E O) none F.body ⟨wq (tmL []) 0 a,[]⟩ (KL [] 0 0 true [] none)) fun r fr t=>Cv (Z2 (KL [] 0 0 b [] none) (wL E.globs F.res (some (r,fr,t)))) R):Cv (jc E (evW E O) f a (s00 0 b)) R:=by
 obtain⟨r,fr,t,e,q⟩:=hB;have:jc E (evW E O) f a (s00 0 b)=Z2 (KL [] 0 0 b [] none) (wL E.globs F.res (evC E (evW E O) none F.body ⟨wq (tmL []) 0 a,[]⟩ (KL [] 0 0 true [] none))):=by
  unfold jc;rw[hF];simp only[wE,xR.2 ha,cond_true,hp];rfl
 rw[this,e];exact q
theorem zij{f:Nat}{F:IFunc}(hF:E.funs.get f=some F)(hp:E.pure f=false){a:List AV}{b:Bool}(ha:a.length≤F.ntmps)
  (hB:Ev (evC E (evW E O) none F.body ⟨wq (tmL []) 0 a,[]⟩ (KL [] 0 0 false [] none)) fun r fr t=>Cv (mdR b (wL E.globs F.res (some (r,fr,t)))) R):Cv (jc E (evW E O) f a (s00 0 b)) R:=by
 obtain⟨r,fr,t,e,q⟩:=hB;have:jc E (evW E O) f a (s00 0 b)=mdR b (wL E.globs F.res (evC E (evW E O) none F.body ⟨wq (tmL []) 0 a,[]⟩ (KL [] 0 0 false [] none))):=by
  unfold jc;rw[hF];simp only[wE,xR.2 ha,cond_true,hp,cond_false];rfl
 rw[this,e];exact q
theorem xu{Z:Prop}(q:Z)(h:X=some (r,fr',s'):=by (simp (disch:=first|exact dis|fail)only[go_sem,seval,-Int.reduceOfNat,-Int.reduceNegSucc, *];exact rfl))(h2:Q r fr' s'=Z:=by (try simp only[wH,kl,if_true, ↓reduceIte]);first|done|exact rfl):Ev X Q:=by
 subst h2;subst h;exact wM q
theorem xK(q:Ev Y Q)(h:X=Y:=by (simp (disch:=first|exact dis|fail)only[go_sem,seval,-Int.reduceOfNat,-Int.reduceNegSucc, *];exact rfl)):Ev X Q:=h▸q
theorem xB{Z:Prop}(q:Z)(h:evC E (evW E O) none ia fr s=some (r,fr',s'):=by (simp (disch:=first|exact dis|fail)only[go_sem,seval,-Int.reduceOfNat,-Int.reduceNegSucc, *];exact rfl))(h2:wH (fun f t=>Ev (evC E (evW E O) none ib f t) Q) Q r fr' s'=Z:=by (try simp only[wH,kl,if_true, ↓reduceIte]);first|done|exact rfl):Ev (evC E (evW E O) none (.seq ia ib) fr s) Q:=
 xz (by rw[h];exact wM (h2▸q))
theorem xF{Z:Prop}(q:Z)(h:U=some (v,s):=by (simp (disch:=first|exact dis|fail)only[go_sem,seval,-Int.reduceOfNat,-Int.reduceNegSucc,Nat.mod_one, *];exact rfl))(h2:R v s=Z:=by exact rfl):Cv U R:=by
 subst h2;subst h;exact zoG q
end
def zlb(n:Nat):Cap→Prop
 |.fix m=>n≤m
 |.opn _=>True
mutual
def Fz(s:St):AV→AV→Prop
 |v,.lst n ex cs=>xN cs=true∧(wkV v=.lst n ex cs∨(ex=false∧∃id off c e cells x f us,v=.sl id off n c∧zlb n c∧s.get id=some (.row e cells x f)∧cut cells off cs.length=some us∧FzL s us cs))
 |v,.agg cs=>∃us,v=.agg us∧FzL s us cs
 |v,.tup cs=>∃us,v=.tup us∧FzL s us cs
 |v,w=>wkV v=w
def FzL(s:St):List AV→List AV→Prop
 |us,[]=>us=[]
 |us,w::ws=>∃u us',us=u::us'∧Fz s u w∧FzL s us' ws
end
theorem FzL.len{s:St}:∀{us ws:List AV},FzL s us ws→us.length=ws.length
 |_,[],h=>by simp only[FzL]at h;rw[h]
 |_,w::ws,h=>by
  simp only[FzL]at h;obtain⟨u,us',rfl,_,h2⟩:=h;simp[FzL.len h2]
theorem FzL.append{s:St}:∀{us ws us' ws':List AV},FzL s us ws→FzL s us' ws'→FzL s (us++us') (ws++ws')
 |_,[],_,_,h,h'=>by simp only[FzL]at h;rw[h];exact h'
 |_,w::ws,us',ws',h,h'=>by
  simp only[FzL]at h;obtain⟨u,us1,rfl,h1,h2⟩:=h;simp only[zG,FzL];exact⟨u,us1++us',rfl,h1,FzL.append h2 h'⟩
noncomputable def Phi.full(φ:Phi)(k:Nat)(w:World):Phi:=⟨φ.m,fun b o=>if k≤b then (match w.heap[b]? with
 |some (.cells c _ _)=>c[o]?
 |_=>none)else φ.z b o⟩
variable {φ:Phi}
section
variable {P:Program}{w0 w w':World}{φ φ':Phi}{s:St}
theorem zyn(r:Rel P w0 φ' s.get w')(k:Nat):∀b o v,φ'.z b o=some v→(φ'.full k w').z b o=some v:=fun b o v h=>by
 obtain⟨c,e,fr,h1,h2⟩:=r.frz b o v h;show (if k≤b then _ else _)=_;split
 ·rw[h1];exact h2
 ·exact h
theorem qq(r:Rel P w0 φ' s.get w')(k:Nat):Sub φ' (φ'.full k w'):=⟨fun _ _ h=>h,zyn r k⟩
mutual
theorem LB{k:Nat}(r:Rel P w0 φ' s.get w')(hn:∀id B,φ' id=some B→(∃o,s.get id=some o)→k≤B.b):∀{v w:AV} {x:Value},Fz s v w→VR φ' v x→VR (φ'.full k w') w x
 | v,.lst n ex cs,x,h,hv=>by
  simp only[Fz]at h;obtain⟨hp,h|⟨rfl,id,off,c,e,cells,xt,f,us,rfl,hco,hg,hc,hf⟩⟩:=h
  ·rw[←h];exact VR.mono (qq r k) _ _ (wO hv)
  ·simp only[VR]at hv;obtain⟨B,kk,hB,rfl,hcap⟩:=hv;obtain⟨B',hB',t⟩:=r.obj id _ hg;rw[hB]at hB';cases hB';have hk:=hn id B hB ⟨_,hg⟩;simp only[ObjRel]at t;obtain⟨cc,fr,t1,t2,t3,t4,t5,_⟩:=t;simp only[VR];obtain⟨c1,c2,c3⟩:=cut_some hc;have hus:VRL φ' us ((((cc.toList.drop B.o).take cells.length).drop off).take cs.length):=by rw[c3];exact(t5.drop off).take _
   refine⟨hp,.inr ⟨B.b,B.o+off,kk,(((cc.toList.drop B.o).take cells.length).drop off).take cs.length,rfl,(by simp),?_,?_,ZH r hn hf hus⟩⟩
   ·cases c with
    |fix m=>simp only at hcap;subst hcap;exact hco
    |opn m=>simp only at hcap;exact hcap.2.2.1
   ·refine ZC.of fun i y hi=>?_;show (if k≤B.b then _ else _)=_;rw[if_pos hk,t1];show cc[B.o+off+i]? =_;simp only[List.getElem?_take,List.getElem?_drop]at hi;split at hi
    ·split at hi
     ·rw[←zu,Nat.add_assoc];exact hi
     ·cases hi
    ·cases hi
 |v,.agg cs,x,h,hv=>by
  simp only[Fz]at h;obtain⟨us,rfl,h⟩:=h;simp only[VR]at hv⊢;obtain⟨xs,rfl,hv⟩:=hv;exact⟨xs,rfl,ZH r hn h hv⟩
 |v,.tup cs,x,h,hv=>by
  simp only[Fz]at h;obtain⟨us,rfl,h⟩:=h;simp only[VR]at hv⊢;obtain⟨xs,rfl,hv⟩:=hv;exact⟨xs,rfl,ZH r hn h hv⟩
 |v,.bool _,x,h,hv=>by simp only[Fz]at h;rw[←h];exact VR.mono (qq r k) _ _ (wO hv)
 |v,.int _ _,x,h,hv=>by simp only[Fz]at h;rw[←h];exact VR.mono (qq r k) _ _ (wO hv)
 |v,.str _,x,h,hv=>by simp only[Fz]at h;rw[←h];exact VR.mono (qq r k) _ _ (wO hv)
 |v,.ptr _ _,x,h,hv=>by simp only[Fz]at h;rw[←h];exact VR.mono (qq r k) _ _ (wO hv)
 |v,.nilp,x,h,hv=>by simp only[Fz]at h;rw[←h];exact VR.mono (qq r k) _ _ (wO hv)
 |v,.gptr _ _,x,h,hv=>by simp only[Fz]at h;rw[←h];exact VR.mono (qq r k) _ _ (wO hv)
 |v,.sl _ _ _ _,x,h,hv=>by simp only[Fz]at h;rw[←h];exact VR.mono (qq r k) _ _ (wO hv)
 |v,.sl0,x,h,hv=>by simp only[Fz]at h;rw[←h];exact VR.mono (qq r k) _ _ (wO hv)
 |v,.nils,x,h,hv=>by simp only[Fz]at h;rw[←h];exact VR.mono (qq r k) _ _ (wO hv)
 |v,.map _,x,h,hv=>by simp only[Fz]at h;rw[←h];exact VR.mono (qq r k) _ _ (wO hv)
 |v,.nilm,x,h,hv=>by simp only[Fz]at h;rw[←h];exact VR.mono (qq r k) _ _ (wO hv)
 |v,.fn _ _ _,x,h,hv=>by simp only[Fz]at h;rw[←h];exact VR.mono (qq r k) _ _ (wO hv)
 |v,.nilf,x,h,hv=>by simp only[Fz]at h;rw[←h];exact VR.mono (qq r k) _ _ (wO hv)
 |v,.yld _,x,h,hv=>by simp only[Fz]at h;rw[←h];exact VR.mono (qq r k) _ _ (wO hv)
 |v,.ifc _ _,x,h,hv=>by simp only[Fz]at h;rw[←h];exact VR.mono (qq r k) _ _ (wO hv)
 |v,.nili,x,h,hv=>by simp only[Fz]at h;rw[←h];exact VR.mono (qq r k) _ _ (wO hv)
 |v,.gr _ _ _ _,x,h,hv=>by simp only[Fz]at h;rw[←h];exact VR.mono (qq r k) _ _ (wO hv)
 |v,.vp _,x,h,hv=>by simp only[Fz]at h;rw[←h];exact VR.mono (qq r k) _ _ (wO hv)
theorem ZH{k:Nat}(r:Rel P w0 φ' s.get w')(hn:∀id B,φ' id=some B→(∃o,s.get id=some o)→k≤B.b):∀{us ws:List AV} {xs:List Value},FzL s us ws→VRL φ' us xs→VRL (φ'.full k w') ws xs
 |us,[],xs,h,hv=>by simp only[FzL]at h;subst h;simpa only[VRL]using hv
 |us,w::ws,xs,h,hv=>by
  simp only[FzL]at h;obtain⟨u,us',rfl,h1,h2⟩:=h;simp only[VRL]at hv⊢;obtain⟨y,ys,rfl,h3,h4⟩:=hv;exact⟨y,ys,rfl,LB r hn h1 h3,ZH r hn h2 h4⟩
end
end
theorem PE(hO:OrcOk P w0 O)(hm:P.follows .mixedOrders=true)(hG:xS E.globs w0)(hE:kj P E){f:Nat}{args:List AV}{b:Bool}(h:Cv (jc E (evW E O) f args (s00 0 b)) fun v0 s1=>Fz s1 v0 v):∃s1,SC P w0 f args (s00 0 b) v s1:=by
 obtain⟨v0,s1,e,hz⟩:=h;obtain⟨h1,h2⟩:=WL (zyg hO.ext hm hG hE hO.ok) hG hE (GE hm hG _ (zyg hO.ext hm hG hE hO.ok)) e;refine⟨{s00 0 b with next:=s1.next,wm:=s1.wm},h1,fun φ w xs r hwf hf hx F n hF=>(h2 r hwf (fun id hid=>hf id hid) hx F n hF).mono ?_⟩
 rintro e' w' ⟨φ',x,rfl,k1,k2⟩
 have hnew:∀id B,φ' id=some B→(∃o,s1.get id=some o)→w.heap.size≤B.b:=fun id B hB ⟨o,ho⟩=>by
  have hlt:id<s1.next:=by
   have:=(k1.ext.wf hwf).lt id o (wa ho);exact this
  rcases k1.own id B (Nat.zero_le _) hlt hB with h|⟨id0,o0,B0,q,_⟩
  ·exact h
  ·rw[ZS]at q;cases q
 have hgn:∀id o,({s00 0 b with next:=s1.next,wm:=s1.wm}:St).get id=some o→False:=fun id o h=>by
  have:=wa h;simp[s00,Trie.get]at this
 have hz':∀b o v,(φ'.full w.heap.size w').z b o=some v→φ.z b o=some v∨w.heap.size≤b:=fun b o v h=>by
  by_cases hb:w.heap.size≤b
  ·exact .inr hb
  ·have h':φ'.z b o=some v:=by
    have:(if w.heap.size≤b then _ else φ'.z b o)=some v:=h
    rwa [if_neg hb]at this
   rcases k1.zown b o v h' with h|h|⟨id0,o0,B0,q,_⟩
   ·exact .inl h
   ·exact .inr h
   ·rw[ZS]at q;cases q
 refine⟨φ'.full w.heap.size w',x,rfl,⟨⟨k1.ext.next,k1.ext.wm,rfl,rfl,fun id hid _=>absurd hid (ziA _),fun id o hid _=>absurd hid (ziA _),fun _=>⟨fun id o h=>?_,fun p hp=>absurd (show p∈([]:List (Nat×Nat))from hp) (by simp)⟩,fun id hid _=>absurd hid (ziA _),fun id o hid _ _ _=>absurd hid (ziA _)⟩,⟨k1.rel.base,fun id o h=>(hgn id o h).elim,k1.rel.rng,fun id o B h _ _=>(hgn id o h).elim,fun id id' o o' B B' h _ _ _ _=>(hgn id o h).elim,fun b o v h=>?_,fun id o B h _=>(hgn id o h).elim⟩,k1.same,k1.size,k1.frame,fun id B h1 h2 h3=>?_,fun b o v h=>zyn k1.rel _ _ _ _ (k1.zsub b o v h),fun b o v h=>?_⟩,LB k1.rel hnew hz k2⟩
 ·simp[s00,Trie.get]at h
 ·have h':(if w.heap.size≤b then (match w'.heap[b]? with
   |some (.cells c _ _)=>c[o]?
   |_=>none)else φ'.z b o)=some v:=h
  split at h'
  ·split at h'
   ·rename_i c e fr hw;exact⟨c,e,fr,hw,h'⟩
   ·cases h'
  ·exact k1.rel.frz b o v h'
 ·exact k1.own id B h1 h2 h3
 ·rcases hz' b o v h with h|h
  ·exact .inl h
  ·exact .inr (.inl h)
theorem GR{t need:Nat}{cs:List AV}(he:1≤esz)(hb:2*need*bytes≤281474976710656)(hn:need<9223372036854775808):grow s t esz bytes cs need=some (.sl s.next 0 need (.opn esz),s.alloc (.row t cs true false)):=by
 simp only[grow];rw[show zd (zb (zb 2 need) bytes) 281474976710656=true from xR.2 hb,show zd 1 esz=true from xR.2 he,show Nat.blt need 9223372036854775808=true from wi.2 hn];rfl
theorem Wn{a b c v:List AV}{off:Nat}(h1:a.length=off)(h2:v.length=b.length):vN (a++(b++c)) off v=some (a++(v++c)):=by
 subst h1
 induction a with
 | nil=>
  show vN (b++c) 0 v=some (v++c);have over_ok:∀(v b c:List AV),v.length=b.length→Xt (b++c) v=some (v++c):=by
   intro v
   induction v with
   |nil=>intro b c h;cases b with
    |nil=>cases c<;>rfl
    |cons _ _=>simp at h
   |cons x v ih=>intro b c h;cases b with
    |nil=>simp at h
    |cons y b=>simp only[zG,Xt,ih b c (by simpa using h)]
  cases h:b++c with
  |nil=>rw[←over_ok v b c h2,h];rfl
  |cons x r=>rw[←over_ok v b c h2,h];rfl
 |cons x a ih=>simp only[zG,zU,vN,ih]
section
variable {l:List (Nat×Option AObj)}{n m t esz bytes id k q:Nat}{b:Bool}{hd:List (Nat×Nat)}{on:Option (Nat×List Nat)}{y:AV}{old new:List AV}
theorem Hw(h1:uJ y=some (q+1))(h2:wS (KL l n m b hd on) esz (q+1) y=some new)(hm:b=false∨xN new=false)(he:1≤esz)(hb:2*(q+1)*bytes≤281474976710656)(hn:q<1000000000000):
  vC (KL l n m b hd on) t esz bytes .nils y=some (.sl n 0 (q+1) (.opn esz),KL ((n,some (.row t new true false))::l) (n+1) m b hd on):=by
 have hz:(b&&xN new)=false:=by rcases hm with rfl|h<;>simp[*]
 simp only[vC,h1,h2,lL,WE,hz,cond_false];rw[GR he hb oM];rfl
theorem Vd(hg:(KL l n m b hd on).get id=some (.row t old true false))(hk:old.length=k*esz)(h1:uJ y=some (q+1))(h2:wS (KL l n m b hd on) esz (q+1) y=some new)(hs:xZ new=true)(he:1≤esz)(hb:2*(k+(q+1))*bytes≤281474976710656)(hn:k+q<1000000000000):
  vC (KL l n m b hd on) t esz bytes (.sl id 0 k (.opn esz)) y=some (.sl n 0 (k+(q+1)) (.opn esz),KL ((n,some (.row t (old++new) true false))::(id,none)::l) (n+1) (uG m id) b hd on):=by
 have hle:zd (zc 0 (zb (zc k (Nat.succ q)) esz)) (wY old)=false:=by
  rw[wE,hk];cases h:zd (zc 0 (zb (zc k (Nat.succ q)) esz)) (k*esz)with
  |false=>rfl
  |true=>
   exfalso
   have h2:=xR.1 h;have h3:0+(k+(q+1))*esz≤k*esz:=h2;rw[Nat.add_mul]at h3;have:1≤(q+1)*esz:=Nat.mul_pos oM oM;omega
 have hc:cut old 0 (zb k esz)=some old:=by
  rw[QH,show zb k esz=old.length from hk.symm];exact wF rfl
 simp only[vC,h1,h2,lL,hg,xT.2 (rfl:esz=esz),xT.2 (rfl:t=t),Bool.not_false,Bool.and_true,xe,cond_true,hle,cond_false,hs,hc,ztv];rw[show zc k (Nat.succ q)=k+(q+1)from rfl,GR he hb oM];rfl
end
theorem jH{j e q:Nat}{c:Cap}{x f:Bool}{cs:List AV}(hg:s.get id=some (.row e cs x f))(hl:cs.length=q*esz):uJ (.sl id 0 q c)=some q∧wS s esz q (.sl id 0 q c)=some cs:=by
 refine⟨rfl,?_⟩;simp only[wS,hg,QH,show zb q esz=cs.length from hl.symm];exact wF rfl
theorem zkC(l:List (Nat×Option AObj))(n m:Nat)(hd:List (Nat×Nat))(on:Option (Nat×List Nat))(e len:Nat)(cs:List AV):Xr (KL l n m false hd on) e len (some cs)=some (.sl n 0 len (.fix len),KL ((n,some (.row e cs false false))::l) (n+1) m false hd on):=rfl
attribute [go_sem] zkC
theorem ltF{i j:Nat}(h:i<j):(i=j)=False:=eq_false oM
theorem gtF{i j:Nat}(h:j<i):(i=j)=False:=eq_false oM
theorem xI{m i n:Nat}(h:n≤i):(m|||1<<<i)%2^n=m%2^n:=by
 apply Nat.eq_of_testBit_eq;intro j;simp only[ziB,Nat.testBit_or,ziE];by_cases hj:j<n
 ·have:¬i≤j:=oM;simp[hj,this]
 ·simp[hj]
theorem xH{i:Nat}(h:n≤i):(1<<<i)%2^n=0:=by
 have:= @xI 0 i n h
 simpa using this
def ZW{α:Type}(f:α→List AV)(esz id:Nat)(vs:List α):AV:=match vs with
 |[]=>.nils
 |_::_=>.gr id esz vs.length (xA f vs)
def Js{α:Type}(t:Nat)(f:α→List AV)(L:List (Nat×Option AObj))(n id:Nat)(vs:List α):Prop:=vs≠[]→id<n∧xD L id=some (.app t (xA f vs))
theorem Um{t need:Nat}{cs:List AV}(he:1≤esz)(hb:2*need*bytes≤281474976710656)(hn:need<9223372036854775808)(hp:xN cs=true):lq s t esz bytes cs need=some (.gr s.next esz need cs,s.alloc (.app t cs)):=by
 simp only[lq];rw[show zd (zb (zb 2 need) bytes) 281474976710656=true from xR.2 hb,show zd 1 esz=true from xR.2 he,show Nat.blt need 9223372036854775808=true from wi.2 hn,hp];rfl
theorem l7{α:Type}{f:α→List AV}(h:∀x,xZ (f x)=true):∀l:List α,xZ (xA f l)=true
 |[]=>rfl
 | x::r=>by
  have ap:∀a b:List AV,xZ a=true→xZ b=true→xZ (a++b)=true:=by
   intro a
   induction a with
   |nil=>intro b _ h;exact h
   |cons v a ih=>
    intro b h1 h2;simp only[zG,u5,Bool.and_eq_true]at h1⊢;exact⟨h1.1,ih b h1.2 h2⟩
  exact ap _ _ (h x) (l7 h r)
theorem QE{α:Type}{f:α→List AV}{t:Nat}(hl:∀x,(f x).length=esz)(hp:∀x,xN (f x)=true)(hs:∀x,xZ (f x)=true)(he:1≤esz){L:List (Nat×Option AObj)}{m:Nat}{vs ws:List α}{e:Bool}(h:Js t f L n id vs)(hb:2*(vs.length+ws.length)*bytes≤281474976710656)(hn:vs.length+ws.length<1000000000000):
  Cv (vC (KL L n m true [] none) t esz bytes (ZW f esz id vs) (.lst ws.length e (xA f ws))) fun v s=>∃id' L' n' m',v=ZW f esz id' (vs++ws)∧s=KL L' n' m' true [] none∧Js t f L' n' id' (vs++ws)∧n≤n'∧(id'=id∨n≤id')∧(∀j,j<n→(vs≠[]→j≠id)→xD L' j=xD L j):=by
 cases ws with
 |nil=>
  refine⟨ZW f esz id vs,KL L n m true [] none,?_,id,L,n,m,by rw[List.append_nil],rfl,by rw[List.append_nil];exact h,zo _,.inl rfl,fun _ _ _=>rfl⟩
  cases vs<;>rfl
 | cons w ws=>
  have h2:wS (KL L n m true [] none) esz (ws.length+1) (.lst (w::ws).length e (xA f (w::ws)))=some (xA f (w::ws)):=by
   simp only[wS];rw[show zb (ws.length+1) esz=(xA f (w::ws)).length from (ql hl (w::ws)).symm];exact wF rfl
  cases vs with
  |nil=>
   refine⟨.gr n esz (ws.length+1) (xA f (w::ws)),KL ((n,some (.app t (xA f (w::ws))))::L) (n+1) m true [] none,?_,n,_,_,_,rfl,rfl,fun _=>⟨zV _,by rw[xr,if_pos rfl];rfl⟩,Nat.le_succ _,.inr (zo _),fun j hj _=>by rw[xr,if_neg oM]⟩
   simp only[List.length_nil,zU]at hb hn;simp only[vC,ZW,zU,ge];simp only[zU]at h2;simp only[h2,lL,WE,wz hp,xe,cond_true];rw[Um he (by simpa using hb) oM (wz hp _)];rfl
  | cons u us=>
   obtain⟨hid,hg⟩:=h (by simp)
   refine⟨.gr n esz ((us.length+1)+(ws.length+1)) (xA f (u::us)++xA f (w::ws)),KL ((n,some (.app t (xA f (u::us)++xA f (w::ws))))::(id,none)::L) (n+1) (uG m id) true [] none,?_,n,_,_,_,?_,rfl,fun _=>⟨zV _,by rw[xr,if_pos rfl,wj]⟩,Nat.le_succ _,.inr (zo _),fun j hj hne=>by rw[xr,if_neg oM,xr,if_neg (hne (by simp))]⟩
   ·simp only[zU]at hb hn;simp only[vC,ZW,zU,ge];simp only[zU]at h2;simp only[h2,lL,x5,hg,xT.2 (rfl:esz=esz),xT.2 (rfl:t=t),xT.2 (rfl:wY (xA f (u::us))=wY (xA f (u::us))),l7 hs,xe,cond_true,ztv];rw[show zc (us.length+1) (Nat.succ ws.length)=(us.length+1)+(ws.length+1)from rfl,Um he hb oM (by rw[uA,wz hp,wz hp];rfl)];rfl
   ·simp only[ZW,zG,List.length_append,zU];rw[←zG,wj]
    congr 1;omega
theorem zxB{α:Type}{f:α→List AV}(hp:∀x,xN (f x)=true)(hw:∀x,wkL (f x)=f x)(vs:List α):∃v0,ZZ 0 (ZW f esz id vs)=some v0∧Fz s v0 (.lst vs.length false (xA f vs)):=by
 cases vs with
 |nil=>exact⟨.nils,rfl,by simp only[Fz,wkV,xA,x6,true_and,List.length_nil];exact .inl trivial⟩
 |cons v vs=>
  refine⟨.lst (v::vs).length false (xA f (v::vs)),?_,?_⟩
  ·simp only[ZW,ZZ,Xe,pH,show zd 0 id=true from xR.2 (Nat.zero_le _),cond_true]
  ·simp only[Fz,wkV,vM hw,wz hp,true_and];exact .inl trivial
section
variable {L:List (Nat×Option AObj)}{n m t e esz bytes id k:Nat}{b:Bool}{old cs:List AV}{x f:Bool}
theorem zxh(hl:cs.length=esz)(he:1≤esz)(hb:2*bytes≤281474976710656):
  vC (KL ((n,some (.row e cs x f))::L) (n+1) m false [] (some (n+1,[n]))) t esz bytes .nils (.sl n 0 1 (.fix 1))=some (.sl (n+1) 0 1 (.opn esz),KL ((n+1,some (.row t cs true false))::(n,some (.row e cs x f))::L) (n+1+1) m false [] (some (n+1,[n]))):=by
 have hg:(KL ((n,some (.row e cs x f))::L) (n+1) m false [] (some (n+1,[n]))).get n=some (.row e cs x f):=by
  rw[YP];simp only[hid,cond_false,pI,xT.2 (rfl:n=n),cond_true,xr,if_true];cases zd (n+1) n<;>rfl
 exact Hw (q:=0) rfl (jH (j:=0) hg oM).2 (.inl rfl) he oM oM
theorem zxi(hid':id<n)(hg:xD L id=some (.row t old true false))(hk:old.length=k*esz)(hl:cs.length=esz)(he:1≤esz)(hs:xZ cs=true)(hb:2*(k+1)*bytes≤281474976710656)(hn:k<1000000000000):
  vC (KL ((n,some (.row e cs x f))::L) (n+1) m b [] (some (n+1,[id,n]))) t esz bytes (.sl id 0 k (.opn esz)) (.sl n 0 1 (.fix 1))=some (.sl (n+1) 0 (k+1) (.opn esz),KL ((n+1,some (.row t (old++cs) true false))::(id,none)::(n,some (.row e cs x f))::L) (n+1+1) (uG m id) b [] (some (n+1,[id,n]))):=by
 have hm:∀j,j=id∨j=n→pI j [id,n]=true:=fun j h=>Xq.2 (by rcases h with rfl|rfl<;>simp)
 have hg1:(KL ((n,some (.row e cs x f))::L) (n+1) m b [] (some (n+1,[id,n]))).get n=some (.row e cs x f):=by
  rw[YP];simp only[hid,cond_false,hm n (.inr rfl),cond_true,xr,if_true];cases zd (n+1) n<;>rfl
 have hg2:(KL ((n,some (.row e cs x f))::L) (n+1) m b [] (some (n+1,[id,n]))).get id=some (.row t old true false):=by
  rw[YP];simp only[hid,cond_false,hm id (.inl rfl),cond_true,xr,if_neg (show ¬id=n by omega),hg]
  cases zd (n+1) id<;>rfl
 exact Vd (q:=0) hg2 hk rfl (jH (j:=0) hg1 oM).2 hs he oM oM
end
theorem zk6{i j:Nat}:((1<<<i)%2^n).testBit j=(decide (j<n)&&decide (i=j)):=by
 rw[ziB,ziE];by_cases h:i=j
 ·subst h;simp
 ·by_cases h2:i≤j
  ·have:j-i≠0:=oM;have h3:Nat.testBit 1 (j-i)=false:=by
    cases hb:Nat.testBit 1 (j-i)with
    |false=>rfl
    |true=>rw[Nat.testBit_one_eq_true_iff_self_eq_zero]at hb;omega
   simp[h,h3]
  ·simp[h,h2]
theorem zmb{l:List (Nat×Option AObj)}{n m e bytes C:Nat}{b:Bool}{hd:List (Nat×Nat)}{on:Option (Nat×List Nat)}{zs:List AV}(h:C*bytes≤281474976710656)(h2:C<9223372036854775808):Jm (KL l n m b hd on) e bytes zs (.int .i64 (.ofNat C)) (.int .i64 (.ofNat C))=some (.sl n 0 C (.fix C),KL ((n,some (.row e (reps C zs) false false))::l) (n+1) m b hd on):=by
 simp only[Jm];rw[show zd C C=true from xR.2 (zo _),show zd (zb C bytes) 281474976710656=true from xR.2 h,show Nat.blt C 9223372036854775808=true from wi.2 h2];rfl
theorem xW{i j:Nat}(h:i<j∨j<i):(1<<<i)%2^n/2^j%2=0:=by
 have h1:((1<<<i)%2^n).testBit j=false:=by
  rw[zk6];have:i≠j:=oM;simp[this]
 rw[Ql]at h1;simp only[Bool.not_eq_false']at h1;exact xT.1 h1
open Go.ChangeMaps (setBlock)
section
variable {C:Cx}{ic ia ib:ICode}{fr:Fr}{s:St}{Q:Res→Fr→St→Prop}
theorem zk8(ok:CxOk C)(h:Ev (evC C.E (evW C.E C.O) C.rd ic fr s) Q):Tri C ic fr s Q:=by
 obtain⟨r,f,t,e,q⟩:=h;exact P3 ok e q
theorem Wx{α:Type}(m:α→Nat)(I:α→Fr→St→Prop)(h:∀x fr s,I x fr s→Tri C ib fr s (wH (fun f t=>∃y,I y f t∧m y<m x) Q))(x:α)(hx:I x fr s):Tri C (.loop ib) fr s Q:=by
 refine jn ?_;have key:∀n x fr s,I x fr s→m x<n→U5 C ib fr s Q:=by
  intro n
  induction n with
  |zero=>intro x fr s _ h;omega
  |succ n ih=>
   intro x fr s hx hn;refine ZU ((h x fr s hx).mono fun r f t=>?_);cases r with
   |norm=>exact fun⟨y,hy,hm⟩=>ih y f t hy oM
   |exit i=>exact fun h=>h
   |ret=>exact fun h=>h
 exact key _ x fr s hx (zV _)
end
def zjB:IOp→Bool
 |.nm _=>true
 |_=>false
theorem Vf{b:Bool}{x:Option IOp}(h:(bif b then x else none)=some op):x=some op:=by cases b<;>first|exact h|cases h
theorem zlL{b:Bool}{x y:Option IOp}(h:(bif b then x else y)=some op):x=some op∨y=some op:=by cases b<;>first|exact .inl h|exact .inr h
theorem HD{b:Builtin}{ts:List TypeId}{xs:List Operand}(h:pN P b ts xs=some op):zjB op=false:=by
 unfold pN at h;split at h
 all_goals (repeat' (split at h))
 all_goals (try replace h:=Vf h)
 all_goals first|(cases h<;>rfl)|(obtain⟨_,_,rfl⟩:=Option.map_eq_some_iff.1 h;rfl)
theorem zov{o:Op}(h:wT P o=some op)(hn:zjB op=true):∃y,o=.next y false∧(qh y).map .nm=some op:=by
 unfold wT at h;split at h
 all_goals first|(exact⟨_,rfl,h⟩)|skip
 all_goals (try (repeat' (split at h)))
 all_goals (try replace h:=Vf h)
 all_goals first|(cases h<;>cases hn;done)|(obtain⟨_,_,rfl⟩:=Option.map_eq_some_iff.1 h;cases hn;done)|(rw[HD h]at hn;cases hn;done)|skip
 all_goals (
  rcases zlL h with h|h
  ·cases h<;>cases hn
  ·replace h:=Vf h;cases h<;>cases hn)
theorem zlO{o:Op}{x:Opd}(h:zzw P o=.nm x):∃y,o=.next y false∧qh y=some x∧cOp P o=some (.nm x):=by
 unfold zzw at h;cases hc:cOp P o with
 |none=>rw[hc]at h;cases h
 |some op=>
  rw[hc]at h;simp only at h;subst h;rcases JC hc with ⟨hv,_⟩|⟨c,_,⟨f,l,_,he,_⟩|⟨y,y',l,_,he,_⟩⟩
  ·obtain⟨y,rfl,hy⟩:=zov hv rfl;obtain⟨z,hz,he⟩:=Option.map_eq_some_iff.1 hy;cases he;exact⟨y,rfl,hz,rfl⟩
  ·cases he
  ·cases he
theorem zlM{nt:Nat}{c:Code}{l:List SOper}(h:cC P nt c=some (.reg l)):∃id ops,c=.region id ops false∧cSs P nt ops ops.toList=some l:=by
 cases c with
 | region id ops any=>
  cases any with
  |true=>
   simp only[cC]at h;obtain⟨l',hl,he⟩:=Option.map_eq_some_iff.1 h;exact(UO he (fun _=>nofun) (fun _ _ _=>nofun)).elim
  |false=>
   simp only[cC]at h;obtain⟨l',hl,he⟩:=Option.map_eq_some_iff.1 h;cases he;exact⟨id,ops,rfl,hl⟩
 |seq a b=>
  simp only[cC]at h;split at h
  ·simp only[Option.some.injEq]at h;cases h
  ·cases h
 |cond a b c=>
  simp only[cC]at h;split at h<;>cases h
 |block a b=>
  simp only[cC]at h;obtain⟨_,_,he⟩:=Option.map_eq_some_iff.1 h;cases he
 |loop b=>
  simp only[cC]at h;obtain⟨_,_,he⟩:=Option.map_eq_some_iff.1 h;cases he
 | rangeFunc a b c d=>
  simp only[cC]at h;split at h
  ·cases hq:b.toList.all (Nat.blt · nt)with
   |true=>rw[hq]at h;cases h
   |false=>rw[hq]at h;cases h
  ·cases h
 |_=>simp[cC]at h
theorem EntRel.mem{φ:Phi}:∀{l:List (AV×AV×Nat)} {es:List MapEntry} {e:MapEntry},EntRel φ l es→e∈es→∃p∈l,VR φ p.1 e.key∧VR φ p.2.1 e.val∧e.born=p.2.2
 |[],_,e,h,he=>by simp only[EntRel]at h;subst h;cases he
 |p::l,_,e,h,he=>by
  obtain⟨e',es',rfl,h1,h2,h3,h4⟩:=h;rcases List.mem_cons.1 he with rfl|he
  ·exact⟨p,by simp,h1,h2,h3⟩
  ·obtain⟨q,hq,h5⟩:=EntRel.mem h4 he;exact⟨q,by simp[hq],h5⟩
theorem EntRel.old{k:Nat}:∀{l:List (AV×AV×Nat)} {es:List MapEntry},EntRel φ l es→(∀p∈l,p.2.2<k)→∀e∈es,e.born<k
 |_,_,h,hl,e,he=>by
  obtain⟨p,hp,_,_,h3⟩:=h.mem he;rw[h3];exact hl p hp
theorem zzo:Below w.heap.size w w.drew:=(Below.refl _ w).drew
theorem zpX{C:Cx}{fr:Fr}{Q:Res→Fr→St→Prop}(ok:CxOk C){d x:Nat}{rest:List SOper}{it m since last clk:Nat}{seen:List Nat}{es:List (AV×AV×Nat)}
  (hx:fr.tm.get x=some (.ptr it 0)) (hi:s.get it=some (.miter (some m) since seen last)) (hm:s.get m=some (.map es clk)) (ho:∀p∈es,p.2.2<since) (hl:since≤last)
  (h0:vz seen es=[]→∃tm' s',evS C.E (evW C.E C.O) rest (fr.tm.set d (.tup [.bool false])) s=some (tm',s')∧Q .norm ⟨tm',fr.df⟩ s')
  (h1:∀p,p∈vz seen es→∃tm' s',evS C.E (evW C.E C.O) rest (fr.tm.set d (.tup [.bool true,p.1,p.2.1])) (s.put it (.miter (some m) since (seen++[p.2.2]) clk))=some (tm',s')∧Q .norm ⟨tm',fr.df⟩ s'):
  Tri C (.reg (⟨some d,.nm (.t x),none⟩::rest)) fr s Q:=by
 intro c hc φ w a ha hf F n hF hrd;obtain⟨id,ops,rfl,hls⟩:=zlM hc;refine wpIn_region ?_;rw[List.range_eq_range',←Array.length_toList];obtain⟨o,orest,hto⟩:∃o orest,ops.toList=o::orest:=by
  cases ht:ops.toList with
  |nil=>rw[ht]at hls;simp[cSs]at hls
  |cons o r=>exact⟨o,r,rfl⟩
 rw[hto]at hls⊢;simp only[cSs]at hls;split at hls
 case h_2=>cases hls
 rename_i so l' hso hrest
 simp only[Option.some.injEq,List.cons.injEq]at hls;obtain⟨rfl,rfl⟩:=hls;have hk:ops[0]? =some o:=by rw[←zu,hto];rfl
 have hd':ops.toList.drop 1=orest:=by rw[hto];rfl
 simp only[zU,List.range'_succ,wpOpsIn,hk];obtain⟨hg,hop,hdst,hlt⟩:=Vm hso;replace hdst:o.dst=some d:=hdst.symm;rw[ja hg (tm:=fr.tm) (b:=true) rfl (TmOn.of hf.tm),if_pos rfl];obtain⟨y,hy1,hy2,hy3⟩:=zlO hop.symm;refine⟨fun f _=>hF.fn f,?_⟩;rw[Oper.semAt_eq _ _ _ (KD hy3)];have hv:=xJ (φ:=φ) (a:=a) hy2 (v:=.ptr it 0) (by simp only[Opd.ev];exact hx) (TmOn.of hf.tm)
 simp only[VR]at hv;obtain⟨B,hB,hv⟩:=hv;have hr:=ha.st.rel;obtain⟨B',hB',_,m',hb,Bm,hBm,rfl⟩:=hr.obj it _ hi;rw[hB]at hB';cases hB';obtain⟨ents,hbm,hent⟩:=Zf hr hm hBm;have hex:execOp a.eval o=(do pure (.value (←Instr.next (a.eval y) false o.type))):=by unfold execOp;rw[hy1]
 have hv2:a.eval y=.pointer (some ⟨B.b,0,none⟩):=by rw[hv];rename_i h00;simp[h00]
 have hleft:=ZM seen hent;have hfl:(leftOf ents seen.toArray).toList=ents.toList.filter fun e=> !seen.contains e.born:=by simp[leftOf]
 have go:∀{φ':Phi} {v:AV} {xv:Value} {tm':Trie AV} {s1 s':St} {w':World},Step C.P C.w0 φ s w φ' s1 w'→VR φ' v xv→(∀id,s1.next≤id→φ' id=none)→Wf s1→evS C.E (evW C.E C.O) l' (fr.tm.set d v) s1=some (tm',s')→Q .norm ⟨tm',fr.df⟩ s'→
   wpOpsIn F n C.P ops (Hr C Q) (List.range' 1 orest.length) (a.put o.dst xv) w':=by
  intro φ' v xv tm' s1 s' w' st hvx hfr1 hwf1 hev q;have hsub:=st.sub (s:=s) (s':=s1) (fun id h1=>ha.fresh id h1);refine XY ok.self ok.glob hF orest 1 hd' hrest hev st.rel hwf1 (fun id h1=>hfr1 id h1) ?_ ?_ fun φ2 a2 w2 k1 k2=>?_
  ·rw[hdst];exact(zyU (nt:=C.nt) (dst:=some d) (hf.tm.mono hsub) hf.size (fun d' h'=>hlt d' (hdst.trans h')) hvx).1
  ·rw[hdst];simp[Act.put,hf.size]
  ·refine⟨.norm,_,s',φ2,rfl,(ha.step ok st).step ok k1,⟨k2.1,k2.2.1,?_⟩,q⟩;rw[k2.2.2,hdst];exact(hf.df.mono hsub).mono (k1.sub fun id h1=>hfr1 id h1)
 rcases run_next_at (P:=C.P) w o.type B.b Bm.b since last seen.toArray ents clk hb hbm (hent.old ho) hl with ⟨hz,hrun⟩|⟨e,he,w1,hw1,hrun⟩
 ·have hnil:vz seen es=[]:=by
   have:(ents.toList.filter fun e=> !seen.contains e.born)=[]:=by rw[←hfl];exact yr (by simpa using hz)
   rw[this]at hleft;have:=hleft.length;exact yr (by simpa using this)
  obtain⟨tm',s',hev,q⟩:=h0 hnil;rw[hex];rw[hv2,Sem.run_bind,hrun,Result.andThen_ok,Sem.run_pure,Oper.uponIn_value];exact go (Step.refl hr) (by simp only[VR];exact⟨[.bool false],rfl,VRL.cons (by simp[VR]) (VRL.nil φ)⟩) ha.fresh (ha.wf ok) hev q
 ·rw[hfl]at he;obtain⟨p,hp,e1,e2,e3⟩:=hleft.mem he;obtain⟨tm',s',hev,q⟩:=h1 p hp;have st1:Step C.P C.w0 φ s w φ s w1:=by
   rcases hw1 with rfl|rfl
   ·exact Step.refl hr
   ·exact Step.below hr zzo
  have hh:w1.heap=w.heap:=by rcases hw1 with rfl|rfl<;>rfl
  have hb1:w1.heap[B.b]? =some (.mapIter (some Bm.b) since seen.toArray last):=by rw[hh];exact hb
  have st2:Step C.P C.w0 φ s w1 φ (s.put it (.miter (some m) since (seen++[p.2.2]) clk)) (setBlock w1 B.b (.mapIter (some Bm.b) since (seen.toArray.push e.born) clk)):=
   Step.setObj st1.rel hi hB hb1 (x':=.mapIter (some Bm.b) since (seen.toArray.push e.born) clk) ⟨by assumption,some Bm.b,by rw[kZ hb1];simp[e3],Bm,hBm,rfl⟩
  have st:=Step.trans (ha.wf ok) st1 st2;rw[hex];rw[hv2,Sem.run_bind,hrun,Result.andThen_ok,Sem.run_pure,Oper.uponIn_value];exact go st (by simp only[VR];exact⟨[.bool true,e.key,e.val],rfl,VRL.cons (by simp[VR]) (VRL.cons e1 (VRL.cons e2 (VRL.nil φ)))⟩) (fun id hid=>by rw[lv]at hid;exact ha.fresh id hid) (st.ext.wf (ha.wf ok)) hev q
def Cvt(P:Program)(o:AObj):Prop:=∀(φa φb:Phi) (w:World) (B:Blk),(∀b i v,φa.z b i=some v→φb.z b i=some v)→ObjRel P φa w o B→ObjRel P φb w o B
theorem H8{es:List (Int×AV)}(h:Z9 es=true):Cvt P (.umap es):=fun _ _ _ _ hz ⟨ents,clk,h1,h2⟩=>⟨ents,clk,h1,h2.pure hz h⟩
section
variable {P:Program}{w0:World}{φ φ1:Phi}{s s0 s' t:St}{w w':World}
theorem Step.emb(hsub:∀id o,s0.get id=some o→s.get id=some o)(hn:s0.next=s.next)(r:Rel P w0 φ s.get w)(k:Step P w0 φ s0 w φ1 t w')(e:Ext s s')(hn':s'.next=s.next){z:Nat→Nat→Option Value}
  (hz1:∀b i v,φ1.z b i=some v→z b i=some v) (hz2:∀b i,b<w.heap.size→z b i=φ1.z b i) (hz3:∀b o v,z b o=some v→∃c e fr,w'.heap[b]? =some (.cells c e fr)∧c[o]? =some v)
  (hg:∀id o,s'.get id=some o→(t.get id=some o∧id<s.next∧Cvt P o)∨(s.get id=some o∧∀o0,s0.get id=some o0→t.wm.testBit id=false))
  (hw:∀id,id<s.next→t.wm.testBit id=true→s'.wm.testBit id=true) (hlt:∀id o,s0.get id=some o→id<s.next):Step P w0 φ s w ⟨φ.m,z⟩ s' w':=by
 have hm:∀id,id<s.next→φ1 id=φ id:=fun id hid=>k.same id (.inl oM)
 have hvis:∀id o,s'.get id=some o→∃y,s.get id=some y:=fun id o ho=>by
  rcases hg id o ho with ⟨h1,h2,_⟩|⟨h1,_⟩
  ·obtain⟨y,hy⟩:=k.ext.get_vis oM h1;exact⟨y,hsub _ _ hy⟩
  ·exact⟨o,h1⟩
 have hsb:Sub φ ⟨φ.m,z⟩:=⟨fun _ _ h=>h,fun b i v h=>hz1 b i v (k.zsub b i v h)⟩;have hk:∀id o B,s.get id=some o→φ id=some B→(∀o0,s0.get id=some o0→t.wm.testBit id=false)→w'.heap[B.b]? =w.heap[B.b]? :=fun id o B ho hB hnw=>by
  by_cases hold:B.b<w0.heap.size
  ·rw[k.rel.base.block _ hold,r.base.block _ hold]
  ·refine k.frame B.b (r.rng id B hB) fun id0 o0 B0 h0 hB0 hbe=>?_;rcases r.inj id id0 o o0 B B0 ho (hsub _ _ h0) hB hB0 hbe.symm with rfl|h
   ·exact hnw o0 h0
   ·exact absurd h hold
 refine⟨e,⟨k.rel.base,fun id o ho=>?_,fun id B hB=>?_,fun id o B ho hB hlt=>?_,fun i j o o' B1 B2 h1 h2 q1 q2 q3=>?_,hz3,fun id o B ho hB=>?_⟩,fun _ _=>rfl,k.size,fun b hb hq=>?_,(fun id B h1 h2=>absurd h2 oM),fun b i v h=>hz1 b i v (k.zsub b i v h),fun b i u hu=>?_⟩
 ·rcases hg id o ho with ⟨h1,h2,hc⟩|⟨h1,h2⟩
  ·obtain⟨B,hB,q⟩:=k.rel.obj id o h1;exact⟨B,(hm id h2).symm.trans hB,hc _ _ _ _ hz1 q⟩
  ·obtain⟨B,hB,q⟩:=r.obj id o h1;exact⟨B,hB,q.keep hsb (hk id o B h1 hB h2)⟩
 ·exact Nat.lt_of_lt_of_le (r.rng id B hB) k.size
 ·rcases hg id o ho with ⟨h1,h2,_⟩|⟨h1,_⟩
  ·exact k.rel.old id o B h1 ((hm id h2).trans hB) hlt
  ·exact r.old id o B h1 hB hlt
 ·obtain⟨y,hy⟩:=hvis i o h1;obtain⟨y',hy'⟩:=hvis j o' h2;exact r.inj i j y y' B1 B2 hy hy' q1 q2 q3
 ·have hb:B.b<w.heap.size:=r.rng id B hB;rcases hg id o ho with ⟨h1,h2,_⟩|⟨h1,h2⟩
  ·exact(k.rel.sep id o B h1 ((hm id h2).trans hB)).congr fun i=>hz2 B.b i hb
  ·by_cases hold:B.b<w0.heap.size
   ·have:=r.old id o B h1 hB hold;cases o<;>first|(cases this;done)|(simp only[SepOf])
   ·refine(r.sep id o B h1 hB).congr fun i=>?_;show z B.b i=φ.z B.b i;rw[hz2 B.b i hb];cases e1:φ1.z B.b i with
    |none=>
     cases e2:φ.z B.b i with
     |none=>rfl
     |some u=>have:=k.zsub B.b i u e2;rw[e1]at this;cases this
    | some u=>
     rcases k.zown _ _ _ e1 with q|q|⟨id0,o0,B0,q1,q2,q3,q4⟩
     ·exact q.symm
     ·omega
     ·rcases r.inj id id0 o o0 B B0 h1 (hsub _ _ q1) hB q2 q3.symm with rfl|h
      ·rw[h2 o0 q1]at q4;cases q4
      ·exact absurd h hold
 ·refine k.frame b hb fun id0 o0 B0 h0 hB0 hbe=>?_;cases e1:t.wm.testBit id0 with
  |false=>rfl
  |true=>
   have h1:=hq id0 o0 B0 (hsub _ _ h0) hB0 hbe;rw[hw id0 (hlt id0 o0 h0) e1]at h1;cases h1
 ·by_cases hb:b<w.heap.size
  ·have hu':z b i=some u:=hu;rw[hz2 b i hb]at hu';rcases k.zown _ _ _ hu' with q|q|⟨id0,o0,B0,q1,q2,q3,q4⟩
   ·exact .inl q
   ·omega
   ·exact .inr (.inr ⟨id0,o0,B0,hsub _ _ q1,q2,q3,hw id0 (hlt id0 o0 q1) q4⟩)
  ·exact .inr (.inl oM)
end
theorem zpV(hO:OrcOk P w0 O)(hm:P.follows .mixedOrders=true)(hG:xS E.globs w0)(hE:kj P E){f:Nat}{F:IFunc}{args:List AV}{c:St}{R:AV→St→Prop}
  (hF:E.funs.get f=some F) (hle:args.length≤F.ntmps) (hh:c.hide=[]) (ho:c.only=none) (hw:c.wm=0)
  (H:∀C:Cx,CxOk C→C.P=P→C.E=E→C.O=O→C.rd=none→C.s=c→Tri C F.body {tm:=wq .leaf 0 args,df:=[]} c (fun r fr t=>∃v t2,wL E.globs F.res (some (r,fr,t))=some (v,t2)∧R v t2)):
  (∃fn,P.funcs[f]? =some fn∧fn.body.isSome=true∧(fn.name== "runtime.NumGoroutine")=false)∧∀(φ:Phi) (w:World) (xs:List Value),Rel P w0 φ c.get w→Wf c→(∀id,c.next≤id→φ id=none)→VRL φ args xs→∀Fe n,Wide Fe→CallsIn Fe n P f xs.toArray w fun e w'=>∃v t2 φ1 x,e=.returned x∧Step P w0 φ c w φ1 t2 w'∧VR φ1 v x∧R v t2:=by
 obtain⟨fn,hfn,hcf⟩:=hE f F hF;unfold HE at hcf;split at hcf
 ·cases hcf
 ·rename_i cd hbody
  split at hcf
  ·rename_i ib rs hb hrs
   cases hnm:(fn.name != "runtime.NumGoroutine")with
   |false=>rw[hnm]at hcf;simp at hcf
   | true=>
    rw[hnm]at hcf;simp only[cond_true,Option.some.injEq]at hcf;subst hcf;have hnm':(fn.name== "runtime.NumGoroutine")=false:=by simpa [bne]using hnm
    refine⟨⟨fn,hfn,by rw[hbody];rfl,hnm'⟩,?_⟩
    intro φ w xs r hwf hf hx Fe n hFe;have ok:CxOk ⟨P,w0,E,O,fn.ntmps,none,φ,c,w,0⟩:=
     ⟨hO,hm,hG,hE,r,hwf,hf,hh,ho,fun i hi=>by rw[show (⟨P,w0,E,O,fn.ntmps,none,φ,c,w,0⟩:Cx).s.wm=0 from hw]at hi;simp at hi,fun i hi=>by simp at hi⟩
    have hat:At ⟨P,w0,E,O,fn.ntmps,none,φ,c,w,0⟩ φ c w:=⟨Step.refl r,hf⟩;have hxl:xs.length≤fn.ntmps:=by rw[←VRL.length hx];exact hle
    have hfr:FrRel φ fn.ntmps {tm:=wq .leaf 0 args,df:=[]} {tmps:=xs.toArray++Array.replicate (fn.ntmps-xs.toArray.size) undef,defers:=[]}:=
     ⟨Zr hx _,by simp;omega,rfl⟩
    have hFp:Wide Fe.plain:=⟨hFe.fn,hFe.depth,hFe.alive⟩;have ht:=H _ ok rfl rfl rfl rfl rfl;have key:CallsIn Fe.plain n P f xs.toArray w fun e w'=>∃v t2 φ1 x,e=.returned x∧Step P w0 φ c w φ1 t2 w'∧VR φ1 v x∧R v t2:=by
     refine callsIn_of_wp_marks hfn hbody (hFe.fn f) (wpIn_mono (ht cd hb φ w _ hat hfr Fe.plain n hFp (fun _=>rfl)) ?_)
     rintro e a' w' ⟨res,fr',s1,φ1,rfl,k1,k2,v,t2,he,hR⟩
     simp only[wL]at he;have hres:∃s2,wZ s1 fr'.df=some s2∧YE E.globs fr'.tm s2 rs=some (v,t2)∧(res=.norm∨res=.ret):=by
      cases res with
      |exit i=>simp at he
      |norm=>
       simp only at he;split at he
       ·rename_i s2 hs2;exact⟨s2,hs2,he,.inl rfl⟩
       ·cases he
      |ret=>
       simp only at he;split at he
       ·rename_i s2 hs2;exact⟨s2,hs2,he,.inr rfl⟩
       ·cases he
     obtain⟨s2,hmk,hre,hor⟩:=hres;have hleave:LeavesInM Fe.plain n P fn a'.tmps (fun e w'=>∃v t2 φ1 x,e=.returned x∧Step P w0 φ c w φ1 t2 w'∧VR φ1 v x∧R v t2) a'.defers .returning w':=by
      refine Kx ok hmk k2.df k1 fun w2 k3=>?_;obtain⟨rfl,x,k4,k5⟩:=hJ hG k3.st.rel k2.tm hrs hre;exact⟨x,k4,v,_,φ1,x,rfl,k3.st,k5,hR⟩
     rcases hor with rfl|rfl
     ·exact hleave
     ·exact hleave
    exact key
  ·cases hcf
noncomputable def Qz(s:St):List (Nat×AObj)→St
 |[]=>s
 |p::r=>Qz (s.put p.1 p.2) r
theorem KQ:∀(W:List (Nat×AObj)) (s:St),(Qz s W).next=s.next
 |[],_=>rfl
 |p::r,s=>KQ r (s.put p.1 p.2)
theorem zq7(s:St)(id:Nat)(o:AObj)(j:Nat):seen (s.put id o) j=seen s j:=qY rfl rfl j
theorem G4(s:St)(id:Nat)(o:AObj)(j:Nat):(s.put id o).get j=if j=id then (if seen s id then some o else none)else s.get j:=by
 rw[uF,zq7,uF,show (s.put id o).objs=s.objs.set id o from rfl,Trie.get_set];by_cases h:j=id
 ·subst h;simp
 ·simp[h]
theorem Pv:∀(W:List (Nat×AObj)) (s:St),(W.map (·.1)).Nodup→(∀p∈W,∃o,s.get p.1=some o)→∀id o,(Qz s W).get id=some o→(id,o)∈W∨((∀p∈W,p.1≠id)∧s.get id=some o)
 |[],s,_,_,id,o,h=>.inr ⟨by simp,h⟩
 | p::r,s,hn,hs,id,o,h=>by
  simp only[zv,List.nodup_cons,List.mem_map,not_exists,not_and]at hn;have h2:=Pv r (s.put p.1 p.2) hn.2 (fun q hq=>by
   obtain⟨o,ho⟩:=hs q (by simp[hq])
   refine⟨o,?_⟩;rw[G4,if_neg (fun e=>hn.1 q hq e)];exact ho) id o h
  rcases h2 with h2|⟨h2,h3⟩
  ·exact .inl (by simp[h2])
  ·rw[G4]at h3;by_cases he:id=p.1
   ·rw[if_pos he]at h3;split at h3
    ·cases h3;subst he;exact .inl (by simp)
    ·cases h3
   ·rw[if_neg he]at h3;refine .inr ⟨fun q hq=>?_,h3⟩;rcases List.mem_cons.1 hq with rfl|hq
    ·exact Ne.symm he
    ·exact h2 q hq
theorem zwk:∀(W:List (Nat×AObj)) (s:St) (id:Nat),(s.wm.testBit id=true∨∃p∈W,p.1=id)→(Qz s W).wm.testBit id=true
 |[],s,id,h=>by
  rcases h with h|⟨p,hp,_⟩
  ·exact h
  ·cases hp
 | p::r,s,id,h=>by
  refine zwk r (s.put p.1 p.2) id ?_;rcases h with h|⟨q,hq,he⟩
  ·left;show (uG s.wm p.1).testBit id=true;rw[wJ,h];rfl
  ·rcases List.mem_cons.1 hq with rfl|hq
   ·left;show (uG s.wm q.1).testBit id=true;rw[wJ];simp[he]
   ·exact .inr ⟨q,hq,he⟩
theorem UG:∀(W:List (Nat×AObj)) (s:St),(W.map (·.1)).Nodup→(∀p∈W,∃o,s.get p.1=some o∧qG o=false)→Ext s (Qz s W)
 |[],s,_,_=>Ext.refl s
 |p::r,s,hn,hs=>by
  simp only[zv,List.nodup_cons,List.mem_map,not_exists,not_and]at hn;obtain⟨o,ho,hg⟩:=hs p (by simp)
  refine(qU ho hg).trans (UG r (s.put p.1 p.2) hn.2 fun q hq=>?_);obtain⟨o,ho,hg⟩:=hs q (by simp[hq])
  refine⟨o,?_,hg⟩;rw[G4,if_neg (fun e=>hn.1 q hq e)];exact ho
theorem zmy(hO:OrcOk P w0 O)(hm:P.follows .mixedOrders=true)(hG:xS E.globs w0)(hE:kj P E){f:Nat}{F:IFunc}{args:List AV}{s0:St}{W:List (Nat×AObj)}
  (hF:E.funs.get f=some F) (hle:args.length≤F.ntmps) (hh:s0.hide=[]) (ho:s0.only=none) (hw:s0.wm=0) (hwf0:Wf s0) (hn:s0.next=s.next) (hsub:∀id o,s0.get id=some o→s.get id=some o)
  (hp:x8 v=true) (hWn:(W.map (·.1)).Nodup) (hWs:∀p∈W,∃o,s.get p.1=some o∧qG o=false) (hWp:∀p∈W,p.1<s.next∧Cvt P p.2)
  (H:∀C:Cx,CxOk C→C.P=P→C.E=E→C.O=O→C.rd=none→C.s=s0→Tri C F.body {tm:=wq .leaf 0 args,df:=[]} s0 (fun r fr t=>∃v1 t2,wL E.globs F.res (some (r,fr,t))=some (v1,t2)∧v1=v∧(∀p∈W,t2.get p.1=some p.2)∧∀id,id<s0.next→(∀p∈W,p.1≠id)→t2.wm.testBit id=false)):SC P w0 f args s v (Qz s W):=by
 obtain⟨h1,h2⟩:=zpV hO hm hG hE (R:=fun v1 t2=>v1=v∧(∀p∈W,t2.get p.1=some p.2)∧∀id,id<s0.next→(∀p∈W,p.1≠id)→t2.wm.testBit id=false) hF hle hh ho hw H
 refine⟨h1,fun φ w xs r hwf hf hx Fe n hFe=>(h2 φ w xs (r.sub hsub) hwf0 (fun id hid=>hf id oM) hx Fe n hFe).mono ?_⟩
 rintro e w' ⟨v1,t2,φ1,x,rfl,k,hv,rfl,hW1,hW2⟩
 refine⟨⟨φ.m,φ1.z⟩,x,rfl,Step.emb hsub hn r k (UG W s hWn hWs) (KQ W s) (fun _ _ _ h=>h) (fun _ _ _=>rfl) k.rel.frz (fun id o ho=>?_) (fun id hid hb=>?_) (fun id o h=>by rw[←hn];exact hwf0.lt id o (wa h)),VR.pure (φ:=φ1) (φ':=⟨φ.m,φ1.z⟩) (fun _ _ _ h=>h) _ _ hp hv⟩
 ·rcases Pv W s hWn (fun p hp=>let ⟨o,h,_⟩:=hWs p hp;⟨o,h⟩) id o ho with h|⟨h,h'⟩
  ·exact .inl ⟨hW1 _ h,hWp _ h⟩
  ·by_cases hid:id<s0.next
   ·exact .inr ⟨h',fun _ _=>hW2 id hid h⟩
   ·exact .inr ⟨h',fun o0 h0=>absurd (hwf0.lt id o0 (wa h0)) hid⟩
 ·by_cases h:∃p∈W,p.1=id
  ·exact zwk W s id (.inr h)
  ·have:=hW2 id oM (fun p hp he=>h ⟨p,hp,he⟩);rw[this]at hb;cases hb
theorem Hf{α:Type}{C:Cx}{ic:ICode}{fr:Fr}{Q:Res→Fr→St→Prop}(ok:CxOk C)(o':α→AObj)(p:α→Prop)(hg:s.get id=some o)(hng:qG o=false)(hna:Kk o=false)(hng2:∀x,qG (o' x)=false)(hna2:∀x,Kk (o' x)=false)
  (ho:∀φ w B,ObjRel C.P φ w o B→∃x,p x∧ObjRel C.P φ w (o' x) B) (h:∀x,p x→Tri C ic fr (s.put id (o' x)) Q):Tri C ic fr s Q:=by
 intro c hc φ w a ha hf F n hF hrd;obtain⟨B,hB,t⟩:=ha.st.rel.obj id o hg;obtain⟨x,hp,t'⟩:=ho φ w B t;refine h x hp c hc φ w a (ha.step ok ?_) hf F n hF hrd;exact Step.put ha.st.rel hg hB (fun _ _=>rfl) rfl rfl rfl rfl t' hng hna
def Jt(es:List (Int×AV))(xs:List (AV×AV×Nat))(clk:Nat):Prop:=
 (xs.map fun p=>(p.1,p.2.1)).Perm (es.map fun q=>(.int .i64 q.1,q.2))∧(xs.map (·.2.2)).Nodup∧(∀p∈xs,p.2.2<clk)∧(es.map (·.1)).Nodup
section
variable {φ:Phi}
theorem EntRel.perm:∀{l l2:List MapEntry},l.Perm l2→∀{xs:List (AV×AV×Nat)},EntRel φ xs l→∃ys,ys.Perm xs∧EntRel φ ys l2:=by
 intro l l2 h
 induction h with
 |nil=>exact fun{xs} hx=>⟨xs,ziC _,hx⟩
 | cons a _ ih=>
  intro xs hx;cases xs with
  |nil=>simp only[EntRel]at hx;cases hx
  |cons p xs=>
   obtain⟨e,es',he,h1,h2,h3,h4⟩:=hx;cases he;obtain⟨ys,q1,q2⟩:=ih h4;exact⟨p::ys,q1.cons p,_,_,rfl,h1,h2,h3,q2⟩
 | swap a b l=>
  intro xs hx;cases xs with
  |nil=>simp only[EntRel]at hx;cases hx
  | cons p xs=>
   obtain⟨e,es',he,h1,h2,h3,h4⟩:=hx;cases he;cases xs with
   |nil=>simp only[EntRel]at h4;cases h4
   |cons p2 xs=>
    obtain⟨e,es',he,g1,g2,g3,g4⟩:=h4;cases he;exact⟨p2::p::xs,ziD _ _ _,_,_,rfl,g1,g2,g3,_,_,rfl,h1,h2,h3,g4⟩
 |trans _ _ ih1 ih2=>
  intro xs hx;obtain⟨ys,q1,q2⟩:=ih1 hx;obtain⟨zs,q3,q4⟩:=ih2 q2;exact⟨zs,q3.trans q1,q4⟩
theorem EntRel.perm':∀{xs ys:List (AV×AV×Nat)},xs.Perm ys→∀{l:List MapEntry},EntRel φ xs l→∃l2,l2.Perm l∧EntRel φ ys l2:=by
 intro xs ys h
 induction h with
 |nil=>exact fun{l} hx=>⟨l,ziC _,hx⟩
 |cons a _ ih=>
  rintro l ⟨e,es',rfl,h1,h2,h3,h4⟩
  obtain⟨l2,q1,q2⟩:=ih h4;exact⟨e::l2,q1.cons e,_,_,rfl,h1,h2,h3,q2⟩
 |swap a b l=>
  rintro l ⟨e,es',rfl,h1,h2,h3,e2,es2,rfl,g1,g2,g3,g4⟩
  exact⟨e2::e::es2,ziD _ _ _,_,_,rfl,g1,g2,g3,_,_,rfl,h1,h2,h3,g4⟩
 |trans _ _ ih1 ih2=>
  intro l hx;obtain⟨l2,q1,q2⟩:=ih1 hx;obtain⟨l3,q3,q4⟩:=ih2 q2;exact⟨l3,q3.trans q1,q4⟩
theorem zyJ{α β:Type}(f:α→β){m1 m:List β}(h:m1.Perm m):∀(l:List α),l.map f=m1→∃l2:List α,l2.Perm l∧l2.map f=m:=by
 induction h with
 |nil=>exact fun l hl=>⟨l,ziC _,hl⟩
 | cons a _ ih=>
  intro l hl;cases l with
  |nil=>cases hl
  |cons x l=>
   simp only[zv,List.cons.injEq]at hl;obtain⟨l2,q1,q2⟩:=ih l hl.2;exact⟨x::l2,q1.cons x,by rw[zv,hl.1,q2]⟩
 | swap a b m=>
  intro l hl;cases l with
  |nil=>cases hl
  | cons x l=>
   cases l with
   |nil=>simp at hl
   |cons y l=>
    simp only[zv,List.cons.injEq]at hl;exact⟨y::x::l,ziD _ _ _,by rw[zv,zv,hl.1,hl.2.1,hl.2.2]⟩
 |trans _ _ ih1 ih2=>
  intro l hl;obtain⟨l2,q1,q2⟩:=ih1 l hl;obtain⟨l3,q3,q4⟩:=ih2 l2 q2;exact⟨l3,q3.trans q1,q4⟩
theorem URel.ent:∀{es:List (Int×AV)} {l:List MapEntry},URel φ es l→∃xs,EntRel φ xs l∧(xs.map fun p=>(p.1,p.2.1))=(es.map fun q=>(.int .i64 q.1,q.2))∧xs.map (·.2.2)=l.map (·.born)
 |[],_,h=>by simp only[URel]at h;subst h;exact⟨[],rfl,rfl,rfl⟩
 |q::es,_,h=>by
  obtain⟨e,l,rfl,h1,h2,h3⟩:=h;obtain⟨xs,q1,q2,q3⟩:=URel.ent h3;exact⟨(.int .i64 q.1,q.2,e.born)::xs,⟨e,l,rfl,by simp only[VR];exact h1,h2,rfl,q1⟩,by rw[zv,q2];rfl,by rw[zv,q3];rfl⟩
theorem EntRel.urel:∀{xs:List (AV×AV×Nat)} {es:List (Int×AV)} {l:List MapEntry},EntRel φ xs l→(xs.map fun p=>(p.1,p.2.1))=(es.map fun q=>(.int .i64 q.1,q.2))→URel φ es l
 |[],es,l,h,e=>by
  cases es with
  |nil=>exact h
  |cons q es=>cases e
 | p::xs,es,l,h,e=>by
  cases es with
  |nil=>cases e
  |cons q es=>
   simp only[zv,List.cons.injEq,Prod.mk.injEq]at e;obtain⟨e1,l1,rfl,h1,h2,h3,h4⟩:=h;refine⟨e1,l1,rfl,?_,e.1.2▸h2,EntRel.urel h4 e.2⟩;rw[e.1.1]at h1;simpa only[VR]using h1
theorem EntRel.borns:∀{xs:List (AV×AV×Nat)} {l:List MapEntry},EntRel φ xs l→l.map (·.born)=xs.map (·.2.2)
 |[],_,h=>by simp only[EntRel]at h;subst h;rfl
 |p::xs,_,h=>by
  obtain⟨e,l,rfl,_,_,h3,h4⟩:=h;rw[zv,zv,EntRel.borns h4,h3]
end
section
variable {P:Program}{φ:Phi}{w:World}{B:Blk}{es es2:List (Int×AV)}{xs:List (AV×AV×Nat)}{clk:Nat}
theorem P4(h:ObjRel P φ w (.umap es) B):∃x:List (AV×AV×Nat)×Nat,Jt es x.1 x.2∧ObjRel P φ w (.map x.1 x.2) B:=by
 obtain⟨ents,clk,h1,l,h2,h3,h4,h5,h6⟩:=h;obtain⟨xs,q1,q2,q3⟩:=h3.ent;obtain⟨ys,p1,p2⟩:=q1.perm h2;refine⟨(ys,clk),⟨?_,?_,fun p hp=>?_,h4⟩,ents,h1,p2⟩
 ·rw[←q2];exact p1.map _
 ·have:(ys.map (·.2.2)).Perm (l.map (·.born)):=by rw[←q3];exact p1.map _
  exact this.nodup_iff.2 h5
 ·have hm:p.2.2∈xs.map (·.2.2):=List.mem_map.2 ⟨p,p1.mem_iff.1 hp,rfl⟩;rw[q3]at hm;obtain⟨e,he,hb⟩:=List.mem_map.1 hm;rw[←hb];exact h6 e he
theorem LZ(he:Jt es xs clk)(h:ObjRel P φ w (.map xs clk) B):ObjRel P φ w (.umap es) B:=by
 obtain⟨ents,h1,h2⟩:=h;obtain⟨e1,e2,e3,e4⟩:=he;obtain⟨ys,p1,p2⟩:=zyJ (fun p:AV×AV×Nat=>(p.1,p.2.1)) e1 xs rfl;obtain⟨l,q1,q2⟩:=h2.perm' p1.symm;refine⟨ents,clk,h1,l,q1,q2.urel p2,e4,?_,fun e he=>?_⟩
 ·rw[q2.borns];exact(p1.map (·.2.2)).nodup_iff.2 e2
 ·have hm:e.born∈l.map (·.born):=List.mem_map.2 ⟨e,he,rfl⟩;rw[q2.borns]at hm;obtain⟨p,hp,hb⟩:=List.mem_map.1 hm;rw[←hb];exact e3 p (p1.mem_iff.1 hp)
theorem ztf(hp:es.Perm es2)(h:ObjRel P φ w (.umap es) B):ObjRel P φ w (.umap es2) B:=by
 obtain⟨x,h1,h2⟩:=P4 h;refine LZ ⟨h1.1.trans (hp.map _),h1.2.1,h1.2.2.1,?_⟩ h2;exact(hp.map (·.1)).nodup_iff.1 h1.2.2.2
end
section
variable {C:Cx}{ic:ICode}{fr:Fr}{s:St}{Q:Res→Fr→St→Prop}{id:Nat}{es es2:List (Int×AV)}
theorem XF(ok:CxOk C)(hg:s.get id=some (.umap es))(h:∀xs clk,Jt es xs clk→Tri C ic fr (s.put id (.map xs clk)) Q):Tri C ic fr s Q:=
 Hf ok (fun x:List (AV×AV×Nat)×Nat=>.map x.1 x.2) (fun x=>Jt es x.1 x.2) hg rfl rfl (fun _=>rfl) (fun _=>rfl) (fun _ _ _ h=>P4 h) fun x hx=>h x.1 x.2 hx
theorem XE(ok:CxOk C){xs:List (AV×AV×Nat)}{clk:Nat}(hg:s.get id=some (.map xs clk))(he:Jt es xs clk)(h:Tri C ic fr (s.put id (.umap es)) Q):Tri C ic fr s Q:=
 Hf ok (fun _:Unit=>.umap es) (fun _=>True) hg rfl rfl (fun _=>rfl) (fun _=>rfl) (fun _ _ _ h=>⟨(),trivial,LZ he h⟩) fun _ _=>h
theorem Jr(ok:CxOk C)(hg:s.get id=some (.umap es))(hp:es.Perm es2)(h:Tri C ic fr (s.put id (.umap es2)) Q):Tri C ic fr s Q:=
 Hf ok (fun _:Unit=>.umap es2) (fun _=>True) hg rfl rfl (fun _=>rfl) (fun _=>rfl) (fun _ _ _ h=>⟨(),trivial,ztf hp h⟩) fun _ _=>h
end
end Go.Proofs.YtbdfljdgapkbcaaGreatDoor.Ev

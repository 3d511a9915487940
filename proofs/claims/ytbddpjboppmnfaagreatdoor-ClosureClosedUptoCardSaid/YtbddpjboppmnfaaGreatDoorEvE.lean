/- Part of a verified evaluator of the model's code, generic over the program: a run of the evaluator that answers shows what the model's run answers. No conditions of its own. -/
import Derived.Test.YtbddpjboppmnfaaGreatDoorEvD
import Derived.OpenShut
import Derived.ChangeSame
set_option linter.unusedSimpArgs false
set_option linter.unusedVariables false
set_option linter.defProp false
open List renaming getElem?_eq_getElem → yH, getElem?_cons_zero → yZ, getElem?_eq_none → ym, getElem?_map → xb, getElem?_cons_succ → xd, getD_eq_getElem?_getD → xe, getElem?_append_left → yB, contains_iff_mem → xi, length → xj
open Bool renaming and_eq_true → zq, or_eq_true → zr
open Nat renaming le_refl → zu, lt_of_not_le → y8, beq → zb, le_of_lt → yU, le_of_not_lt → xc, le_trans → zA, testBit_or → yS, zero_le → zQ, mul_comm → yy, zero_add → yO, ble → ze, pred → zB
open Array renaming getD_eq_getD_getElem? → yT, getElem?_eq_getElem → zO, replicate → yW, getElem?_toList → zC
open Option renaming map_some → yg
open Classical renaming choose_spec → xg
namespace Go.Proofs.YtbddpjboppmnfaaGreatDoor.Ev
variable {P:Program}{w0 w:World}{E:Env}{S:Self}{s s':St}{v:AV}{tm:Trie AV}{id n:Nat}{o:AObj}{t:TypeId}
noncomputable def KH(i:Nat)(d:DOper)(T:Trie AV)(W t:St):LogE:={idx:=i,lo:=W.next,hi:=t.next,tch:=qn d.o.op T,wm:=qa t.wm W.next}
structure Tr(E:Env)(S:Self)(ds:List DOper) where
 L:Nat→List LogE
 T:Nat→Trie AV
 W:Nat→St
 V:Nat→Option (AV×St)
 skip:∀i d,ds[i]? =some d→V i=none→kF d.o.guard (T i)=some false∧L (i+1)=L i∧T (i+1)=qS (T i) d.o.dst qk∧W (i+1)=W i
 run:∀i d v t,ds[i]? =some d→V i=some (v,t)→kF d.o.guard (T i)=some true∧qA E S d.o.op (T i) (vm d (L i) (T i) (W i))=some (v,t)∧
  uA d.deps (qn d.o.op (T i)) (qa t.wm (W i).next) (L i)=true∧L (i+1)=KH i d (T i) (W i) t::L i∧T (i+1)=qS (T i) d.o.dst v∧
  W (i+1)={t with hide:=(W i).hide,only:=(W i).only,wm:=Nat.lor (W i).wm t.wm}
theorem Gp{E:Env}{S:Self}:∀{ds:List DOper} {k:Nat} {log:List LogE} {tm tm':Trie AV} {s s':St},evD E S ds k log tm s=some (tm',s')→
  ∃ (L:Nat→List LogE) (T:Nat→Trie AV) (W:Nat→St) (V:Nat→Option (AV×St)),L 0=log∧T 0=tm∧W 0=s∧T ds.length=tm'∧W ds.length=s'∧
   (∀i d,ds[i]? =some d→V i=none→kF d.o.guard (T i)=some false∧L (i+1)=L i∧T (i+1)=qS (T i) d.o.dst qk∧W (i+1)=W i)∧
   (∀i d v t,ds[i]? =some d→V i=some (v,t)→kF d.o.guard (T i)=some true∧qA E S d.o.op (T i) (vm d (L i) (T i) (W i))=some (v,t)∧
    uA d.deps (qn d.o.op (T i)) (qa t.wm (W i).next) (L i)=true∧L (i+1)=KH (k+i) d (T i) (W i) t::L i∧T (i+1)=qS (T i) d.o.dst v∧
    W (i+1)={t with hide:=(W i).hide,only:=(W i).only,wm:=Nat.lor (W i).wm t.wm})
 |[],k,log,tm,tm',s,s',h=>by
  simp only[evD,Option.some.injEq,Prod.mk.injEq]at h;obtain⟨rfl,rfl⟩:=h;exact⟨fun _=>log,fun _=>tm,fun _=>s,fun _=>none,rfl,rfl,rfl,rfl,rfl,(fun i d h=>by simp at h),(fun i d v t h=>by simp at h)⟩
 | o ::r,k,log,tm,tm',s,s',h=>by
  simp only[evD]at h;split at h
  ·rename_i p hp
   obtain⟨L,T,W,V,h1,h2,h3,h4,h5,h6,h7⟩:=Gp h
   have hV:∃V0:Option (AV×St),(V0=none→kF o.o.guard tm=some false∧p.1=log∧p.2.1=qS tm o.o.dst qk∧p.2.2=s)∧
     (∀v t,V0=some (v,t)→kF o.o.guard tm=some true∧qA E S o.o.op tm (vm o log tm s)=some (v,t)∧
      uA o.deps (qn o.o.op tm) (qa t.wm s.next) log=true∧p.1=KH k o tm s t::log∧p.2.1=qS tm o.o.dst v∧p.2.2={t with hide:=s.hide,only:=s.only,wm:=Nat.lor s.wm t.wm}):=by
    unfold lQ at hp;split at hp
    ·rename_i hw
     cases he:qA E S o.o.op tm (vm o log tm s)with
     |none=>rw[he]at hp;simp[Jg]at hp
     | some q=>
      rw[he]at hp;simp only[Jg]at hp;cases hb:uA o.deps (qn o.o.op tm) (qa q.2.wm s.next) log with
      |false=>rw[hb]at hp;simp at hp
      |true=>
       rw[hb]at hp;simp only[cond_true,Option.some.injEq]at hp;refine⟨some q,(fun h=>by cases h),fun v t hvt=>?_⟩
       cases hvt;subst hp;exact⟨hw,rfl,hb,rfl,rfl,rfl⟩
    ·rename_i hw
     simp only[Option.some.injEq]at hp;subst hp;exact⟨none,fun _=>⟨hw,rfl,rfl,rfl⟩,(fun v t h=>by cases h)⟩
    ·cases hp
   obtain⟨V0,hV1,hV2⟩:=hV;refine⟨fun i=>match i with|0=>log|i+1=>L i,fun i=>match i with|0=>tm|i+1=>T i,fun i=>match i with|0=>s|i+1=>W i,fun i=>match i with|0=>V0|i+1=>V i,rfl,rfl,rfl,h4,h5,?_,?_⟩
   ·intro i d hd hv;cases i with
    |zero=>
     simp only[yZ,Option.some.injEq]at hd;subst hd;obtain⟨g1,g2,g3,g4⟩:=hV1 hv;exact⟨g1,h1.trans g2,h2.trans g3,h3.trans g4⟩
    |succ i=>exact h6 i d (by simpa using hd) hv
   ·intro i d v t hd hv;cases i with
    |zero=>
     simp only[yZ,Option.some.injEq]at hd;subst hd;obtain⟨g1,g2,g3,g4,g5,g6⟩:=hV2 v t hv;exact⟨g1,g2,g3,h1.trans g4,h2.trans g5,h3.trans g6⟩
    |succ i=>
     have:=h7 i d v t (by simpa using hd) hv
     rw[show k+1+i=k+(i+1) by omega]at this
     exact this
  ·cases h
theorem zj8{E:Env}{S:Self}{ds:List DOper}{tm':Trie AV}(h:evD E S ds 0 [] tm s=some (tm',s')):
  ∃R:Tr E S ds,R.L 0=[]∧R.T 0=tm∧R.W 0=s∧R.T ds.length=tm'∧R.W ds.length=s':=by
 obtain⟨L,T,W,V,h1,h2,h3,h4,h5,h6,h7⟩:=Gp h;exact⟨⟨L,T,W,V,h6,fun i d v t hd hv=>by have:=h7 i d v t hd hv;rw[yO]at this;exact this⟩,h1,h2,h3,h4,h5⟩
section
variable {E:Env}{S:Self}{ds:List DOper}(R:Tr E S ds)
def Tr.wr(i id:Nat):Prop:=∃v t,R.V i=some (v,t)∧((R.W i).next≤id∧id<t.next∨id<(R.W i).next∧t.wm.testBit id=true)
structure Tr.Ok:Prop where
 l0:R.L 0=[]
 only:(R.W 0).only=none
 wf:Wf (R.W 0)
variable {R}
theorem uq{i:Nat}(h:i<ds.length):∃d,ds[i]? =some d:=⟨ds[i],by simp[h]⟩
theorem Tr.facts(hS:ExtS S)(ok:R.Ok):∀i,i≤ds.length→(R.W i).only=none∧Wf (R.W i)∧(R.W i).hide=(R.W 0).hide∧(∀e∈R.L i,e.hi≤(R.W i).next)∧Ext (R.W 0) (R.W i)
 |0,_=>⟨ok.only,ok.wf,rfl,by rw[ok.l0];simp,Ext.refl _⟩
 | i+1,hi=>by
  obtain⟨h1,h2,h3,h4,h5⟩:=Tr.facts hS ok i oM;obtain⟨d,hd⟩:=uq (ds:=ds) (i:=i) oM;cases hv:R.V i with
  |none=>
   obtain⟨_,g2,_,g4⟩:=R.skip i d hd hv;rw[g2,g4];exact⟨h1,h2,h3,h4,h5⟩
  |some p=>
   obtain⟨_,g2,_,g4,_,g6⟩:=R.run i d p.1 p.2 hd hv;have hx:=VM h1 h4 (gq hS g2);rw[←g6]at hx;refine⟨hx.only.trans h1,hx.wf h2,hx.hide.trans h3,fun e he=>?_,h5.trans hx⟩;rw[g4]at he;rcases List.mem_cons.1 he with rfl|he
   ·rw[g6];exact zu _
   ·exact zA (h4 e he) hx.next
theorem Tr.ext(hS:ExtS S)(ok:R.Ok){i:Nat}(hi:i<ds.length):Ext (R.W i) (R.W (i+1)):=by
 obtain⟨h1,h2,h3,h4,h5⟩:=R.facts hS ok i oM;obtain⟨d,hd⟩:=uq (ds:=ds) hi;cases hv:R.V i with
 |none=>obtain⟨_,g2,_,g4⟩:=R.skip i d hd hv;rw[g4];exact Ext.refl _
 |some p=>
  obtain⟨_,g2,_,g4,_,g6⟩:=R.run i d p.1 p.2 hd hv;rw[g6];exact VM h1 h4 (gq hS g2)
theorem Tr.next_le(hS:ExtS S)(ok:R.Ok):∀{i j:Nat},i≤j→j≤ds.length→(R.W i).next≤(R.W j).next
 |i,0,h,_=>by (have:i=0:=by omega);subst this;exact Nat.le_refl _
 |i,j+1,h,hj=>by
  by_cases e:i=j+1
  ·subst e;exact zu _
  ·exact zA (Tr.next_le hS ok (i:=i) (j:=j) oM oM) (R.ext hS ok (i:=j) oM).next
theorem Tr.keep1(hS:ExtS S)(ok:R.Ok){i:Nat}(hi:i<ds.length)(hw:¬R.wr i id):(R.W (i+1)).objs.get id=(R.W i).objs.get id:=by
 obtain⟨h1,h2,h3,h4,h5⟩:=R.facts hS ok i oM;obtain⟨g1,g2',_⟩:=R.facts hS ok (i+1) oM;obtain⟨d,hd⟩:=uq (ds:=ds) hi;cases hv:R.V i with
 |none=>obtain⟨_,_,_,g4⟩:=R.skip i d hd hv;rw[g4]
 | some p=>
  obtain⟨_,g2,_,g4,_,g6⟩:=R.run i d p.1 p.2 hd hv;have hx:=gq hS g2;by_cases hlt:id<(R.W i).next
  ·have hb:p.2.wm.testBit id=false:=by
    cases hb:p.2.wm.testBit id with
    |false=>rfl
    |true=>exact absurd ⟨p.1,p.2,hv,.inr ⟨hlt,hb⟩⟩ hw
   rw[g6];exact hx.keep id hlt hb
  ·have hge:¬id<p.2.next:=fun h=>hw ⟨p.1,p.2,hv,.inl ⟨oM,h⟩⟩
   have e1:(R.W i).objs.get id=none:=by
    cases he:(R.W i).objs.get id with
    |none=>rfl
    |some o=>exact absurd (h2.lt id o he) hlt
   have e2:(R.W (i+1)).objs.get id=none:=by
    cases he:(R.W (i+1)).objs.get id with
    |none=>rfl
    |some o=>have:=g2'.lt id o he;rw[g6]at this;exact absurd this hge
   rw[e1,e2]
theorem Tr.keepN(hS:ExtS S)(ok:R.Ok){id:Nat}:∀{i j:Nat},i≤j→j≤ds.length→(∀k,i≤k→k<j→¬R.wr k id)→(R.W j).objs.get id=(R.W i).objs.get id
 |i,0,h,_,_=>by (have:i=0:=by omega);subst this;rfl
 |i,j+1,h,hj,hw=>by
  by_cases e:i=j+1
  ·subst e;rfl
  ·exact(R.keep1 hS ok oM (hw j oM oM)).trans (Tr.keepN hS ok (i:=i) (j:=j) oM oM fun k h1 h2=>hw k h1 oM)
theorem Tr.logged(hS:ExtS S)(ok:R.Ok){j:Nat}{d:DOper}{v:AV}{t:St}(hd:ds[j]? =some d)(hv:R.V j=some (v,t)):∀{i:Nat},j<i→i≤ds.length→KH j d (R.T j) (R.W j) t∈R.L i
 |0,h,_=>by omega
 | i+1,h,hi=>by
  obtain⟨di,hdi⟩:=uq (ds:=ds) (i:=i) oM;by_cases e:j=i
  ·subst e;rw[hd]at hdi;cases hdi;obtain⟨_,_,_,g4,_⟩:=R.run j d v t hd hv;rw[g4];simp
  ·have ih:=Tr.logged hS ok hd hv (i:=i) oM oM;cases hvi:R.V i with
   |none=>obtain⟨_,g2,_⟩:=R.skip i di hdi hvi;rw[g2];exact ih
   |some p=>obtain⟨_,_,_,g4,_⟩:=R.run i di p.1 p.2 hdi hvi;rw[g4];exact List.mem_cons_of_mem _ ih
end
theorem ge{deps wm:Nat}{tch:Option (List Nat)}:∀{log:List LogE},uA deps tch wm log=true→∀e∈log,deps.testBit e.idx=false→(wm=0∨offMask wm e.tch=true)∧(e.wm=0∨offMask e.wm tch=true)
 |[],_,e,he,_=>by simp at he
 | x::r,h,e,he,hb=>by
  simp only[uA]at h;cases hd:deps.testBit x.idx with
  |true=>
   rw[hd]at h;simp only[cond_true]at h;rcases List.mem_cons.1 he with rfl|he
   ·rw[hd]at hb;cases hb
   ·exact ge h e he hb
  | false=>
   rw[hd]at h;simp only[cond_false]at h;cases hc:((zb wm 0||offMask wm x.tch)&&(zb x.wm 0||offMask x.wm tch))with
   |false=>rw[hc]at h;simp at h
   |true=>
    rw[hc]at h;simp only[cond_true]at h;rcases List.mem_cons.1 he with rfl|he
    ·rw[zq,zr,zr,we,we]at hc;exact hc
    ·exact ge h e he hb
theorem YH{deps:Nat}{h:List (Nat×Nat)}{id:Nat}:∀{log:List LogE},∀e∈log,deps.testBit e.idx=false→e.lo≤id→id<e.hi→hid (qG deps log h) id=true
 |[],e,he,_,_,_=>by simp at he
 | x::r,e,he,hb,h1,h2=>by
  simp only[qG];rcases List.mem_cons.1 he with rfl|he
  ·have:(zb e.lo e.hi||deps.testBit e.idx)=false:=by
    rw[hb,Bool.or_false,Bool.eq_false_iff,ne_eq,we];omega
   rw[this];simp only[cond_false,hid];rw[show ze e.lo id=true from x9.2 h1,show Nat.blt id e.hi=true from wK.2 h2];rfl
  ·have ih:=YH (h:=h) e he hb h1 h2;cases hc:(zb x.lo x.hi||deps.testBit x.idx)with
   |true=>simp only[cond_true];exact ih
   |false=>
    simp only[cond_false,hid];cases ze x.lo id<;>cases Nat.blt id x.hi<;>simp[ih]
theorem Zt{m:Nat}{l:List Nat}{a:Nat}(h:offMask m (some l)=true)(ha:a∈l):m.testBit a=false:=by
 simp only[offMask]at h
 induction l with
 |nil=>simp at ha
 | cons x r ih=>
  simp only[offMask.go]at h;cases hx:m.testBit x with
  |true=>rw[hx]at h;simp at h
  |false=>
   rw[hx]at h;simp only[cond_false]at h;rcases List.mem_cons.1 ha with rfl|ha
   ·exact hx
   ·exact ih h ha
theorem gX(m n i:Nat):(qa m n).testBit i=(decide (i<n)&&m.testBit i):=by
 show (m%2^n).testBit i=_;rw[Nat.testBit_mod_two_pow]
open Go.RowKit (Below)
section
variable {E:Env}{S:Self}{ds:List DOper}(R:Tr E S ds)
def wt(ds:List DOper)(j t:Nat):Prop:=∃d,ds[j]? =some d∧d.o.dst=some t
def Tr.cur(D:Nat→Prop)(id:Nat)(o:AObj):Prop:=
 (id<(R.W 0).next→seen (R.W 0) id=true)∧∃m,m≤ds.length∧(∀j,j<m→R.wr j id→D j)∧(∀j,m≤j→j<ds.length→R.wr j id→¬D j)∧(R.W m).objs.get id=some o
def Tr.curA(D:Nat→Prop)(id:Nat)(o:AObj)(m:Nat):Prop:=
 (id<(R.W 0).next→seen (R.W 0) id=true)∧m≤ds.length∧(∀j,j<m→R.wr j id→D j)∧(∀j,m≤j→j<ds.length→R.wr j id→¬D j)∧(R.W m).objs.get id=some o
structure Inv(P:Program)(w0:World)(φ0:Phi)(w00:World)(nt:Nat)(a0:Act)(D:Nat→Prop)(φ:Phi)(w:World)(a:Act):Prop where
 base:Below w0.heap.size w0 w
 obj:∀id o m,R.curA D id o m→∃B,φ id=some B∧ObjRel P (φ.cut (R.W m).next) w o B
 rng:∀id B,φ id=some B→B.b<w.heap.size
 old:∀id o B,R.cur D id o→φ id=some B→B.b<w0.heap.size→qO o=true
 inj:∀id id' o o' B B',R.cur D id o→R.cur D id' o'→φ id=some B→φ id'=some B'→B.b=B'.b→id=id'∨B.b<w0.heap.size
 out:∀id,(id<(R.W 0).next∨(R.W ds.length).next≤id)→φ id=φ0 id
 fresh:∀i,i<ds.length→¬D i→∀id,(R.W i).next≤id→id<(R.W (i+1)).next→φ id=none
 tmp:∀t v m,m≤ds.length→(∀j,j<m→wt ds j t→D j)→(∀j,m≤j→j<ds.length→wt ds j t→¬D j)→(R.T m).get t=some v→VR (φ.cut (R.W m).next) v (a.tmps.getD t undef)
 size:a.tmps.size=nt
 df:a.defers=a0.defers
 grow:w00.heap.size≤w.heap.size
 own:∀id B,(R.W 0).next≤id→id<(R.W ds.length).next→φ id=some B→w00.heap.size≤B.b∨∃id0 o0 B0,(R.W 0).get id0=some o0∧φ0 id0=some B0∧B0.b=B.b∧(R.W ds.length).wm.testBit id0=true
 frame:∀b,b<w00.heap.size→(∀id o B,(R.W 0).get id=some o→φ0 id=some B→B.b=b→(R.W ds.length).wm.testBit id=false)→w.heap[b]? =w00.heap[b]?
 frz:∀b o v,φ.z b o=some v→∃c e fr,w.heap[b]? =some (.cells c e fr)∧c[o]? =some v
 sep:∀id o B,R.cur D id o→φ id=some B→SepOf o B φ.z
 zsub:∀b o v,φ0.z b o=some v→φ.z b o=some v
 zown:∀b o v,φ.z b o=some v→φ0.z b o=some v∨w00.heap.size≤b∨∃id0 o0 B0,(R.W 0).get id0=some o0∧φ0 id0=some B0∧B0.b=b∧(R.W ds.length).wm.testBit id0=true
def more(D:Nat→Prop)(i:Nat):Nat→Prop:=fun j=>D j∨j=i
structure Ready(D:Nat→Prop)(i:Nat):Prop where
 lt:i<ds.length
 new:¬D i
 deps:∀d j,ds[i]? =some d→d.deps.testBit j=true→j<ds.length→D j
structure Closed(ds:List DOper)(D:Nat→Prop):Prop where
 dep:∀i d j,D i→ds[i]? =some d→d.deps.testBit j=true→j<ds.length→D j
variable {R}
theorem Tr.cur_of_A{D:Nat→Prop}{m:Nat}(h:R.curA D id o m):R.cur D id o:=⟨h.1,m,h.2⟩
theorem Tr.A_of_cur{D:Nat→Prop}(h:R.cur D id o):∃m,R.curA D id o m:=let ⟨h0,m,h1⟩:=h;⟨m,h0,h1⟩
theorem Tr.wr_lt(hS:ExtS S)(_ok:R.Ok){i:Nat}(hi:i<ds.length)(h:R.wr i id):id<(R.W (i+1)).next:=by
 obtain⟨v,t,hv,h1⟩:=h;obtain⟨d,hd⟩:=uq (ds:=ds) hi;obtain⟨_,g2,_,_,_,g6⟩:=R.run i d v t hd hv;have hx:=(gq hS g2).next
 have:(R.W (i+1)).next=t.next:=by rw[g6]
 have hx':(R.W i).next≤t.next:=hx
 rw[this];rcases h1 with h1|h1<;>omega
theorem Tr.wm_le(hS:ExtS S)(ok:R.Ok):∀{i j:Nat},i≤j→j≤ds.length→∀id,(R.W i).wm.testBit id=true→(R.W j).wm.testBit id=true
 |i,0,h,_,id,hb=>by
  have:i=0:=oM;subst this;exact hb
 |i,j+1,h,hj,id,hb=>by
  by_cases e:i=j+1
  ·subst e;exact hb
  ·exact(R.ext hS ok (i:=j) oM).wm id (Tr.wm_le hS ok (i:=i) (j:=j) oM oM id hb)
theorem Tr.wm_run(hS:ExtS S)(ok:R.Ok){i:Nat}(hi:i<ds.length){t:St}(hv:R.V i=some (v,t))(hb:t.wm.testBit id=true):(R.W ds.length).wm.testBit id=true:=by
 obtain⟨d,hd⟩:=uq (ds:=ds) hi;obtain⟨_,_,_,_,_,g6⟩:=R.run i d v t hd hv;refine Tr.wm_le hS ok (i:=i+1) oM (zu _) id ?_;rw[g6];show ((R.W i).wm|||t.wm).testBit id=true
 rw[yS,hb,Bool.or_true]
theorem Tr.sees(hS:ExtS S)(ok:R.Ok){D:Nat→Prop}(hcl:Closed ds D){i:Nat}(hr:Ready (ds:=ds) D i){d:DOper}(hd:ds[i]? =some d){t:St}(hv:R.V i=some (v,t))(hsee:seen (vm d (R.L i) (R.T i) (R.W i)) id=true)(hlt:id<(R.W i).next):
  (id<(R.W 0).next→seen (R.W 0) id=true)∧(∀j,j<i→R.wr j id→D j)∧(∀j,i≤j→j<ds.length→R.wr j id→¬D j):=by
 obtain⟨f1,f2,f3,f4,f5⟩:=R.facts hS ok i (by have:=hr.lt;omega)
 have hs1:=Gb f1 hsee;have htch:∀l,qn d.o.op (R.T i)=some l→id∈l:=by
  intro l hl;unfold seen at hsee;simp only[vm,hl,yg,zq,zr]at hsee;rcases hsee.2 with h1|h1
  ·rw[x9]at h1;omega
  ·rw[gU,xi]at h1;exact h1
 have hnh:hid (qG d.deps (R.L i) (R.W i).hide) id=false:=by
  cases hh:hid (qG d.deps (R.L i) (R.W i).hide) id with
  |false=>rfl
  |true=>
   exfalso
   unfold seen at hsee;simp only[vm]at hsee;split at hsee
   ·rw[hh]at hsee;cases hsee
   ·rw[hh]at hsee;cases hsee
 obtain⟨_,g2,g3,_,_,_⟩:=R.run i d v t hd hv;refine⟨fun _=>by rw[←vh f3 (f1.trans ok.only.symm)];exact hs1,fun j hj hw=>?_,fun j hj hjn hw hD=>?_⟩
 ·obtain⟨vj,tj,hvj,hwj⟩:=hw;obtain⟨dj,hdj⟩:=uq (ds:=ds) (i:=j) (by have:=hr.lt;omega)
  have hmem:=R.logged hS ok hdj hvj (i:=i) hj (by have:=hr.lt;omega)
  cases hb:d.deps.testBit j with
  |true=>exact hr.deps d j hd hb (by have:=hr.lt;omega)
  | false=>
   exfalso
   rcases hwj with ⟨h1,h2⟩|⟨h1,h2⟩
   ·have:=YH (deps:=d.deps) (h:=(R.W i).hide) (id:=id) _ hmem hb h1 h2;rw[hnh]at this;cases this
   ·obtain⟨_,hc⟩:=ge g3 _ hmem hb;have hbit:(KH j dj (R.T j) (R.W j) tj).wm.testBit id=true:=by
     show (qa tj.wm (R.W j).next).testBit id=true
     rw[gX,h2];simp[h1]
    rcases hc with hc|hc
    ·rw[hc]at hbit;simp at hbit
    ·cases ht:qn d.o.op (R.T i)with
     |none=>rw[ht]at hc;simp[offMask]at hc
     |some l=>rw[ht]at hc;rw[Zt hc (htch l ht)]at hbit;cases hbit
 ·have hne:j≠i:=fun e=>hr.new (e▸hD);obtain⟨vj,tj,hvj,hwj⟩:=hw;obtain⟨dj,hdj⟩:=uq (ds:=ds) hjn;obtain⟨_,_,k3,_⟩:=R.run j dj vj tj hdj hvj;have hb:dj.deps.testBit i=false:=by
   cases hb:dj.deps.testBit i with
   |false=>rfl
   |true=>exact absurd (hcl.dep j dj i hD hdj hb hr.lt) hr.new
  have hmem:=R.logged hS ok hd hv (i:=j) oM oM;have hle:=R.next_le hS ok (i:=i) (j:=j) oM oM;rcases hwj with ⟨h1,h2⟩|⟨h1,h2⟩
  ·omega
  ·obtain⟨hc,_⟩:=ge k3 _ hmem hb;have hbit:(qa tj.wm (R.W j).next).testBit id=true:=by rw[gX,h2];simp[h1]
   rcases hc with hc|hc
   ·rw[hc]at hbit;simp at hbit
   ·have hc':offMask (qa tj.wm (R.W j).next) (qn d.o.op (R.T i))=true:=hc
    cases ht:qn d.o.op (R.T i)with
    |none=>rw[ht]at hc';simp[offMask]at hc'
    |some l=>rw[ht]at hc';rw[Zt hc' (htch l ht)]at hbit;cases hbit
end
theorem zqb:∀{h:List (Nat×Nat)} {n id:Nat},(∀p∈h,p.2≤n)→n≤id→hid h id=false
 |[],_,_,_,_=>rfl
 |p::r,n,id,hp,hle=>by
  have h1:=hp p (by simp)
  simp only[hid];rw[show Nat.blt id p.2=false from zvm oM,zqb (fun q hq=>hp q (by simp[hq])) hle]
  cases ze p.1 id<;>rfl
theorem Wg{deps n:Nat}{h:List (Nat×Nat)}:∀{log:List LogE},(∀p∈h,p.2≤n)→(∀e∈log,e.hi≤n)→∀p∈qG deps log h,p.2≤n
 |[],hh,_,p,hp=>hh p hp
 | e::r,hh,hl,p,hp=>by
  simp only[qG]at hp;cases hb:(zb e.lo e.hi||deps.testBit e.idx)with
  |true=>rw[hb]at hp;simp only[cond_true]at hp;exact Wg hh (fun e' he'=>hl e' (by simp[he'])) p hp
  |false=>
   rw[hb]at hp;simp only[cond_false,List.mem_cons]at hp;rcases hp with rfl|hp
   ·exact hl e (by simp)
   ·exact Wg hh (fun e' he'=>hl e' (by simp[he'])) p hp
section
variable {E:Env}{S:Self}{ds:List DOper}{R:Tr E S ds}
theorem Tr.begWf(hS:ExtS S)(ok:R.Ok){i:Nat}(hi:i<ds.length)(d:DOper):Wf (vm d (R.L i) (R.T i) (R.W i)):=by
 obtain⟨f1,f2,f3,f4,f5⟩:=R.facts hS ok i oM;exact⟨f2.lt,fun p hp=>Wg f2.hd f4 p hp⟩
theorem Tr.wr_seen(hS:ExtS S)(ok:R.Ok){i:Nat}(hi:i<ds.length){d:DOper}(hd:ds[i]? =some d)(h:R.wr i id):seen (vm d (R.L i) (R.T i) (R.W i)) id=true:=by
 obtain⟨v,t,hv,h1⟩:=h;obtain⟨_,g2,_,_,_,g6⟩:=R.run i d v t hd hv;have hx:=gq hS g2;rcases h1 with ⟨h1,h2⟩|⟨h1,h2⟩
 ·have hh:=zqb (R.begWf hS ok hi d).hd (id:=id) h1;unfold seen;cases ht:qn d.o.op (R.T i)with
  |none=>simp only[vm,ht,Option.map_none];simp only[vm]at hh;rw[hh];rfl
  |some l=>
   simp only[vm,ht,yg];simp only[vm]at hh;rw[hh];rw[show ze (R.W i).next id=true from x9.2 h1];rfl
 ·rcases hx.wv id h1 h2 with h3|h3
  ·simp[vm]at h3
  ·exact h3
theorem Tr.wr_order(hS:ExtS S)(ok:R.Ok){i k:Nat}(hik:i<k)(hk:k<ds.length){dk:DOper}(hdk:ds[k]? =some dk)(h1:R.wr i id)(h2:R.wr k id):dk.deps.testBit i=true:=by
 cases hb:dk.deps.testBit i with
 |true=>rfl
 | false=>
  exfalso
  have hsee:=R.wr_seen hS ok hk hdk h2;have hlt1:=R.wr_lt hS ok oM h1;have hle:=R.next_le hS ok (i:=i+1) (j:=k) oM oM;obtain⟨di,hdi⟩:=uq (ds:=ds) (i:=i) oM;obtain⟨vi,ti,hvi,hwi⟩:=h1;obtain⟨vk,tk,hvk,hwk⟩:=h2;obtain⟨_,_,k3,_⟩:=R.run k dk vk tk hdk hvk;have hmem:=R.logged hS ok hdi hvi (i:=k) hik oM;rcases hwi with ⟨q1,q2⟩|⟨q1,q2⟩
  ·have:=YH (deps:=dk.deps) (h:=(R.W k).hide) (id:=id) _ hmem hb q1 q2;unfold seen at hsee;simp only[vm]at hsee;split at hsee
   ·rw[this]at hsee;cases hsee
   ·rw[this]at hsee;cases hsee
  ·obtain⟨_,hc⟩:=ge k3 _ hmem hb;have hbit:(KH i di (R.T i) (R.W i) ti).wm.testBit id=true:=by
    show (qa ti.wm (R.W i).next).testBit id=true
    rw[gX,q2];simp[q1]
   rcases hc with hc|hc
   ·rw[hc]at hbit;simp at hbit
   ·cases ht:qn dk.o.op (R.T k)with
    |none=>rw[ht]at hc;simp[offMask]at hc
    | some l=>
     rw[ht]at hc;have hin:id∈l:=by
      unfold seen at hsee;simp only[vm,ht,yg,zq,zr]at hsee;rcases hsee.2 with h3|h3
      ·rw[x9]at h3;omega
      ·rw[gU,xi]at h3;exact h3
     rw[Zt hc hin]at hbit;cases hbit
theorem Tr.curA_split(hS:ExtS S)(ok:R.Ok){D:Nat→Prop}(hcl:Closed ds D){i:Nat}(hr:Ready (ds:=ds) D i){m:Nat}(h:R.curA (more D i) id o m):
  (R.wr i id∧i<m∧(R.W (i+1)).objs.get id=some o)∨(¬R.wr i id∧R.curA D id o m):=by
 obtain⟨h0,hm,h1,h2,h3⟩:=h;by_cases hw:R.wr i id
 ·left
  have him:i<m:=by
   apply y8;intro hle;exact h2 i hle hr.lt hw (.inr rfl)
  refine⟨hw,him,?_⟩;rw[←h3];refine(R.keepN hS ok (i:=i+1) (j:=m) oM hm fun k hk1 hk2 hwk=>?_).symm;have hDk:D k:=(h1 k hk2 hwk).resolve_right oM;obtain⟨dk,hdk⟩:=uq (ds:=ds) (i:=k) oM;exact hr.new (hcl.dep k dk i hDk hdk (R.wr_order hS ok oM oM hdk hw hwk) hr.lt)
 ·right
  exact⟨hw,h0,hm,fun j hj hwj=>(h1 j hj hwj).resolve_right (fun e=>hw (e▸hwj)),fun j hj hjn hwj hD=>h2 j hj hjn hwj (.inl hD),h3⟩
theorem Tr.cur_split(hS:ExtS S)(ok:R.Ok){D:Nat→Prop}(hcl:Closed ds D){i:Nat}(hr:Ready (ds:=ds) D i)(h:R.cur (more D i) id o):
  (R.wr i id∧(R.W (i+1)).objs.get id=some o)∨(¬R.wr i id∧R.cur D id o):=by
 obtain⟨m,hA⟩:=R.A_of_cur h;rcases R.curA_split hS ok hcl hr hA with ⟨h1,_,h2⟩|⟨h1,h2⟩
 ·exact .inl ⟨h1,h2⟩
 ·exact .inr ⟨h1,R.cur_of_A h2⟩
end
section
variable {E:Env}{S:Self}{ds:List DOper}{R:Tr E S ds}
variable {P:Program}{w0:World}{φ0:Phi}{w00:World}{nt:Nat}{a0:Act}{D:Nat→Prop}{φ φ':Phi}{w w':World}{a:Act}{i:Nat}{d:DOper}{v:AV}{t:St}{x:Value}
def YZ(ds:List DOper):Prop:=∀(j k:Nat) (dj dk:DOper),j<k→ds[j]? =some dj→ds[k]? =some dk→WQ dj.o dk.o=true→dk.deps.testBit j=true
def zxE(ds:List DOper)(nt:Nat):Prop:=∀(j:Nat) (dj:DOper) (t:Nat),ds[j]? =some dj→dj.o.dst=some t→t<nt
theorem Inv.curA_of(hS:ExtS S)(ok:R.Ok)(hcl:Closed ds D)(hr:Ready (ds:=ds) D i)(hd:ds[i]? =some d)(hv:R.V i=some (v,t))(hg:(vm d (R.L i) (R.T i) (R.W i)).get id=some o):R.curA D id o i:=by
 have h1:(vm d (R.L i) (R.T i) (R.W i)).objs.get id=some o:=wl hg;obtain⟨f1,f2,_⟩:=R.facts hS ok i (by have:=hr.lt;omega)
 obtain⟨k1,k2,k3⟩:=R.sees hS ok hcl hr hd hv (qB hg) (f2.lt id o h1);exact⟨k1,yU hr.lt,k2,k3,h1⟩
theorem Inv.cur_of(hS:ExtS S)(ok:R.Ok)(hcl:Closed ds D)(hr:Ready (ds:=ds) D i)(hd:ds[i]? =some d)(hv:R.V i=some (v,t))(hg:(vm d (R.L i) (R.T i) (R.W i)).get id=some o):R.cur D id o:=
 R.cur_of_A (Inv.curA_of hS ok hcl hr hd hv hg)
theorem Inv.rel(hS:ExtS S)(ok:R.Ok)(hcl:Closed ds D)(hr:Ready (ds:=ds) D i)(hd:ds[i]? =some d)(hv:R.V i=some (v,t))(inv:Inv R P w0 φ0 w00 nt a0 D φ w a):Rel P w0 (φ.cut (R.W i).next) (vm d (R.L i) (R.T i) (R.W i)).get w:=by
 obtain⟨_,f2,_⟩:=R.facts hS ok i (by have:=hr.lt;omega)
 have hlt:∀{id o},(vm d (R.L i) (R.T i) (R.W i)).get id=some o→id<(R.W i).next:=fun{id o} hg=>f2.lt id o (wl (s:=vm d (R.L i) (R.T i) (R.W i)) hg)
 refine⟨inv.base,fun id o h=>?_,fun id B hB=>inv.rng id B (Phi.cut_some hB).2,fun id o B h hB=>inv.old id o B (Inv.cur_of hS ok hcl hr hd hv h) (Phi.cut_some hB).2,fun id id' o o' B B' h h' hB hB'=>inv.inj id id' o o' B B' (Inv.cur_of hS ok hcl hr hd hv h) (Inv.cur_of hS ok hcl hr hd hv h') (Phi.cut_some hB).2 (Phi.cut_some hB').2,inv.frz,fun id o B h hB=>inv.sep id o B (Inv.cur_of hS ok hcl hr hd hv h) (Phi.cut_some hB).2⟩;obtain⟨B,hB,ht⟩:=inv.obj id o i (Inv.curA_of hS ok hcl hr hd hv h);exact⟨B,(Phi.cut_lt φ (hlt h)).trans hB,ht⟩
theorem Xc{p q:SOper}{k:Nat}(h:p.dst=some k)(hq:k∈q.names∨q.dst=some k):WQ p q=true:=by
 have mem:∀{n:Nat} {l:List Nat},n∈l→YK n l=true:=by
  intro n l
  induction l with
  |nil=>intro h;simp at h
  |cons m r ih=>
   intro h;simp only[YK,zr];rcases List.mem_cons.1 h with rfl|h
   ·exact .inl (we.2 rfl)
   ·exact .inr (ih h)
 unfold WQ;rw[h];rcases hq with hq|hq
 ·simp[mem hq]
 ·simp[hq]
theorem Vt{p q:SOper}{k:Nat}(h:q.dst=some k)(hp:k∈p.names):WQ p q=true:=by
 have mem:∀{n:Nat} {l:List Nat},n∈l→YK n l=true:=by
  intro n l
  induction l with
  |nil=>intro h;simp at h
  |cons m r ih=>
   intro h;simp only[YK,zr];rcases List.mem_cons.1 h with rfl|h
   ·exact .inl (we.2 rfl)
   ·exact .inr (ih h)
 unfold WQ;rw[h];simp[mem hp]
theorem Inv.names(hck:YZ ds)(hcl:Closed ds D)(hr:Ready (ds:=ds) D i)(hd:ds[i]? =some d)(inv:Inv R P w0 φ0 w00 nt a0 D φ w a):TmOn (φ.cut (R.W i).next) d.o.names (R.T i) a:=by
 intro k hk u hu;refine inv.tmp k u i (by have:=hr.lt;omega) (fun j hj hw=>?_) (fun j hj hjn hw hD=>?_) hu
 ·obtain⟨dj,hdj,hdst⟩:=hw;exact hr.deps d j hd (hck j i dj d hj hdj hd (Xc hdst (.inl hk))) (by have:=hr.lt;omega)
 ·obtain⟨dj,hdj,hdst⟩:=hw;have hne:j≠i:=fun e=>hr.new (e▸hD);exact hr.new (hcl.dep j dj i hD hdj (hck i j d dj oM hd hdj (Vt hdst hk)) hr.lt)
theorem Inv.tmp_step(hck:YZ ds)(hdo:zxE ds nt)(hcl:Closed ds D)(hr:Ready (ds:=ds) D i)(hd:ds[i]? =some d)(inv:Inv R P w0 φ0 w00 nt a0 D φ w a)(hS:ExtS S)(ok:R.Ok)(hsub:Sub φ φ')(hT:R.T (i+1)=qS (R.T i) d.o.dst v)(hTn:∀j dj,ds[j]? =some dj→∀k,dj.o.dst≠some k→(R.T (j+1)).get k=(R.T j).get k)(hx:VR (φ'.cut (R.W (i+1)).next) v x):
  ∀k u m,m≤ds.length→(∀j,j<m→wt ds j k→more D i j)→(∀j,m≤j→j<ds.length→wt ds j k→¬more D i j)→(R.T m).get k=some u→VR (φ'.cut (R.W m).next) u ((a.put d.o.dst x).tmps.getD k undef):=by
 intro k u m hm h1 h2 hu;by_cases hk:d.o.dst=some k
 ·have hwi:wt ds i k:=⟨d,hd,hk⟩;have him:i<m:=by
   apply y8;intro hle;exact h2 i hle hr.lt hwi (.inr rfl)
  have key:∀q,i+1≤q→q≤m→(R.T q).get k=(R.T (i+1)).get k:=by
   intro q
   induction q with
   |zero=>intro h;omega
   | succ q ih=>
    intro hq1 hq2;by_cases e:q=i
    ·subst e;rfl
    ·obtain⟨dq,hdq⟩:=uq (ds:=ds) (i:=q) oM;rw[hTn q dq hdq k (fun hdst=>?_)]
     ·exact ih oM oM
     ·have hDq:D q:=(h1 q oM ⟨dq,hdq,hdst⟩).resolve_right e;exact hr.new (hcl.dep q dq i hDq hdq (hck i q d dq oM hd hdq (Xc hk (.inr hdst))) hr.lt)
  rw[key m oM (zu _),hT,hk]at hu;simp only[qS,Trie.get_set_same,Option.some.injEq]at hu;subst hu;rw[hk];have hlt:k<a.tmps.size:=by rw[inv.size];exact hdo i d k hd hk
  simp only[Act.put];rw[V8 _ _ _ _ hlt,if_pos rfl];exact VR.mono (Sub.cut (Sub.refl _) (R.next_le hS ok him hm)) _ _ hx
 ·have hput:(a.put d.o.dst x).tmps.getD k undef=a.tmps.getD k undef:=by
   cases hdst:d.o.dst with
   |none=>rfl
   |some e=>
    simp only[Act.put];have hlt:e<a.tmps.size:=by rw[inv.size];exact hdo i d e hd hdst
    rw[V8 _ _ _ _ hlt,if_neg (fun h=>hk (by rw[hdst,h]))]
  rw[hput];have hni:¬wt ds i k:=fun⟨d',hd',hk'⟩=>by rw[hd]at hd';cases hd';exact hk hk'
  exact VR.mono (hsub.cut (zu _)) _ _ (inv.tmp k u m hm (fun j hj hw=>(h1 j hj hw).resolve_right (fun e=>hni (e▸hw))) (fun j hj hjn hw hD=>h2 j hj hjn hw (.inl hD)) hu)
theorem Tr.T_other{j:Nat}{dj:DOper}(hdj:ds[j]? =some dj){k:Nat}(hk:dj.o.dst≠some k):(R.T (j+1)).get k=(R.T j).get k:=by
 have:∀u,(qS (R.T j) dj.o.dst u).get k=(R.T j).get k:=fun u=>by
  cases hdst:dj.o.dst with
  |none=>rfl
  |some e=>simp only[qS];exact Trie.get_set_ne _ _ (fun h=>hk (by rw[hdst,h]))
 cases hv:R.V j with
 |none=>obtain⟨_,_,g3,_⟩:=R.skip j dj hdj hv;rw[g3];exact this _
 |some p=>obtain⟨_,_,_,_,g5,_⟩:=R.run j dj p.1 p.2 hdj hv;rw[g5];exact this _
end
section
variable {E:Env}{S:Self}{ds:List DOper}{R:Tr E S ds}
variable {P:Program}{w0:World}{φ0:Phi}{w00:World}{nt:Nat}{a0:Act}{D:Nat→Prop}{φ φ':Phi}{w w':World}{a:Act}{i:Nat}{d:DOper}{v:AV}{t:St}{x:Value}
theorem Z3(dst:Option Nat):(a.put dst x).tmps.size=a.tmps.size∧(a.put dst x).defers=a.defers:=by
 cases dst<;>simp[Act.put]
theorem Inv.skip(hS:ExtS S)(ok:R.Ok)(hck:YZ ds)(hdo:zxE ds nt)(hcl:Closed ds D)(hr:Ready (ds:=ds) D i)(hd:ds[i]? =some d)(hv:R.V i=none)(inv:Inv R P w0 φ0 w00 nt a0 D φ w a):
  Inv R P w0 φ0 w00 nt a0 (more D i) φ w (a.put d.o.dst undef):=by
 have hnw:∀id,¬R.wr i id:=fun id ⟨_,_,h,_⟩=>by rw[hv]at h;cases h
 have hcur:∀{id o},R.cur (more D i) id o→R.cur D id o:=fun{id o} h=>by
  rcases R.cur_split hS ok hcl hr h with ⟨h1,_⟩|⟨_,h1⟩
  ·exact absurd h1 (hnw id)
  ·exact h1
 have hcurA:∀{id o m},R.curA (more D i) id o m→R.curA D id o m:=fun{id o m} h=>by
  rcases R.curA_split hS ok hcl hr h with ⟨h1,_⟩|⟨_,h1⟩
  ·exact absurd h1 (hnw id)
  ·exact h1
 obtain⟨_,_,g3,_⟩:=R.skip i d hd hv
 exact⟨inv.base,fun id o m h=>inv.obj id o m (hcurA h),inv.rng,fun id o B h=>inv.old id o B (hcur h),fun id id' o o' B B' h h'=>inv.inj id id' o o' B B' (hcur h) (hcur h'),inv.out,fun j hj hD=>inv.fresh j hj (fun h=>hD (.inl h)),
  inv.tmp_step hck hdo hcl hr hd hS ok (Sub.refl _) g3 (fun j dj hdj k hk=>R.T_other hdj hk) (Z7 _),(Z3 _).1.trans inv.size,(Z3 _).2.trans inv.df,inv.grow,inv.own,inv.frame,inv.frz,fun id o B h=>inv.sep id o B (hcur h),inv.zsub,inv.zown⟩
theorem Inv.run(hS:ExtS S)(ok:R.Ok)(hck:YZ ds)(hdo:zxE ds nt)(hcl:Closed ds D)(hr:Ready (ds:=ds) D i)(hd:ds[i]? =some d)(hv:R.V i=some (v,t))(inv:Inv R P w0 φ0 w00 nt a0 D φ w a)
  {ψ:Phi} (st:Step P w0 (φ.cut (R.W i).next) (vm d (R.L i) (R.T i) (R.W i)) w ψ t w') (hx:VR ψ v x):Inv R P w0 φ0 w00 nt a0 (more D i) (φ.merge (R.W i).next (R.W (i+1)).next ψ) w' (a.put d.o.dst x):=by
 obtain⟨_,g2,_,_,g5,g6⟩:=R.run i d v t hd hv;obtain⟨f1,f2,f3,f4,f5⟩:=R.facts hS ok i (yU hr.lt);have hnx:(R.W (i+1)).next=t.next:=by rw[g6]
 have hob:(R.W (i+1)).objs=t.objs:=by rw[g6]
 have hn0:=R.next_le hS ok (i:=0) (j:=i) (zQ _) (yU hr.lt);have hn1:=R.next_le hS ok (i:=i) (j:=i+1) (Nat.le_succ _) hr.lt;have hnN:=R.next_le hS ok (i:=i+1) (j:=ds.length) hr.lt (zu _);have hniN:=R.next_le hS ok (i:=i) (j:=ds.length) (yU hr.lt) (zu _);obtain⟨φ',hφ'⟩:∃φ',φ'=φ.merge (R.W i).next (R.W (i+1)).next ψ:=⟨_,rfl⟩
 have hlow:∀{id},id<(R.W i).next→ψ id=φ id:=fun{id} h=>(st.same id (.inl h)).trans (Phi.cut_lt φ h)
 have hhigh:∀{id},(R.W (i+1)).next≤id→ψ id=none:=fun{id} h=>(st.same id (.inr (hnx▸h))).trans (Phi.cut_ge φ oM)
 have hin:∀{id},id<(R.W (i+1)).next→φ' id=ψ id:=fun{id} h=>by
  rw[hφ'];by_cases h1:id<(R.W i).next
  ·rw[Phi.merge_out _ _ (.inl h1)];exact(hlow h1).symm
  ·exact Phi.merge_in _ _ ⟨oM,h⟩
 have hout:∀{id},(id<(R.W i).next∨(R.W (i+1)).next≤id)→φ' id=φ id:=fun{id} h=>by rw[hφ'];exact Phi.merge_out _ _ h
 have hz':φ'.z=ψ.z:=by rw[hφ'];rfl
 have hsub:Sub φ φ':=⟨fun id B hB=>by
  by_cases h:(R.W i).next≤id∧id<(R.W (i+1)).next
  ·rw[inv.fresh i hr.lt hr.new id h.1 h.2]at hB;cases hB
  ·rw[hout oM];exact hB,fun b o v hzv=>by rw[hz'];exact st.zsub b o v hzv⟩
 have hsubψ:Sub ψ φ':=⟨fun id B hB=>by
  have hlt:id<(R.W (i+1)).next:=by apply y8;intro hle;rw[hhigh hle]at hB;cases hB
  rw[hin hlt];exact hB,fun b o v hzv=>by rw[hz'];exact hzv⟩
 have hψc:∀{m},i+1≤m→m≤ds.length→Sub ψ (φ'.cut (R.W m).next):=fun{m} h1 h2=>hsubψ.to_cut fun id hid=>hhigh (zA (R.next_le hS ok h1 h2) hid)
 have hget:∀{id o},R.wr i id→(R.W (i+1)).objs.get id=some o→t.get id=some o:=fun{id o} hw ho=>by
  rw[uZ,vh st.ext.hide st.ext.only,R.wr_seen hS ok hr.lt hd hw,←hob];exact ho
 have hsame:∀{id},¬R.wr i id→φ' id=φ id:=fun{id} hw=>by
  apply hout;by_cases h1:id<(R.W i).next
  ·exact .inl h1
  ·right;apply xc;intro h2;exact hw ⟨v,t,hv,.inl ⟨oM,oM⟩⟩
 have hold:∀{id o},R.wr i id→t.objs.get id=some o→id<(R.W i).next→∃o',R.cur D id o'∧φ' id=φ id:=fun{id o} hw ho hlt=>by
  obtain⟨o',ho'⟩:=st.ext.vis id o hlt ho;have hg:(vm d (R.L i) (R.T i) (R.W i)).get id=some o':=by rw[uZ,R.wr_seen hS ok hr.lt hd hw];exact ho'
  exact⟨o',Inv.cur_of hS ok hcl hr hd hv hg,hout (.inl hlt)⟩
 have hbits:∀{id o},(vm d (R.L i) (R.T i) (R.W i)).get id=some o→t.wm.testBit id=true→R.wr i id:=fun{id o} hg hb=>⟨v,t,hv,.inr ⟨f2.lt id o (wl (s:=vm d (R.L i) (R.T i) (R.W i)) hg),hb⟩⟩;have hwlt:∀{id},R.wr i id→id<(R.W (i+1)).next:=fun{id} hw=>R.wr_lt hS ok hr.lt hw
 have hmix:∀{id id' o o' B B'},R.wr i id→(R.W (i+1)).objs.get id=some o→¬R.wr i id'→R.cur D id' o'→φ' id=some B→φ' id'=some B'→B.b=B'.b→id=id'∨B.b<w0.heap.size:=fun{id id' o o' B B'} hw ho hw' hc' hB hB' e=>by
  rw[hsame hw']at hB';by_cases hlt:id<(R.W i).next
  ·obtain⟨o1,hc,hp⟩:=hold hw (by rw[←hob];exact ho) hlt
   exact inv.inj id id' o1 o' B B' hc hc' (hp▸hB) hB' e
  ·have hlt2:=hwlt hw;rw[hin hlt2]at hB;rcases st.own id B (xc hlt) (hnx▸hlt2) hB with h1|⟨id0,o0,B0,q1,q2,q3,q4⟩
   ·have:=(inv.rng id' B' hB');omega
   ·have hc0:=Inv.cur_of hS ok hcl hr hd hv q1;rcases inv.inj id0 id' o0 o' B0 B' hc0 hc' (Phi.cut_some q2).2 hB' (q3.trans e)with he|he
    ·subst he;exact absurd (hbits q1 q4) hw'
    ·exact .inr (q3▸he)
 rw[←hφ'];refine⟨st.rel.base,?_,?_,?_,?_,?_,?_,inv.tmp_step hck hdo hcl hr hd hS ok hsub g5 (fun j dj hdj k hk=>R.T_other hdj hk) (VR.mono (hψc (zu _) hr.lt) _ _ hx),(Z3 _).1.trans inv.size,(Z3 _).2.trans inv.df,zA inv.grow st.size,?_,?_,?_,?_,?_,?_⟩
 ·intro id o m h;rcases R.curA_split hS ok hcl hr h with ⟨hw,him,ho⟩|⟨hw,hc⟩
  ·obtain⟨B,hB,ht⟩:=st.rel.obj id o (hget hw ho);exact⟨B,hsubψ.of _ _ hB,ht.keep (hψc him h.2.1) rfl⟩
  ·obtain⟨B,hB,ht⟩:=inv.obj id o m hc;refine⟨B,hsub.of _ _ hB,ht.keep (hsub.cut (zu _)) (st.frame B.b (inv.rng id B hB) fun id2 o2 B2 q1 q2 q3=>?_)⟩;cases hb:t.wm.testBit id2 with
   |false=>rfl
   |true=>
    have q2':=(Phi.cut_some q2).2;rcases inv.inj id2 id o2 o B2 B (Inv.cur_of hS ok hcl hr hd hv q1) (R.cur_of_A hc) q2' hB q3 with he|he
    ·subst he;exact absurd (hbits q1 hb) hw
    ·have hgo:=wl (s:=vm d (R.L i) (R.T i) (R.W i)) q1;have:=st.ext.giv id2 o2 (f2.lt id2 o2 hgo) hgo (inv.old id2 o2 B2 (Inv.cur_of hS ok hcl hr hd hv q1) q2' he) hb;simp[vm]at this
 ·intro id B hB;by_cases h:id<(R.W (i+1)).next
  ·rw[hin h]at hB;exact st.rel.rng id B hB
  ·rw[hout oM]at hB;have:=inv.rng id B hB;have:=st.size;omega
 ·intro id o B h hB hlt;rcases R.cur_split hS ok hcl hr h with ⟨hw,ho⟩|⟨hw,hc⟩
  ·exact st.rel.old id o B (hget hw ho) (hin (hwlt hw)▸hB) hlt
  ·exact inv.old id o B hc (hsame hw▸hB) hlt
 ·intro id id' o o' B B' h h' hB hB' e;rcases R.cur_split hS ok hcl hr h with ⟨hw,ho⟩|⟨hw,hc⟩<;>rcases R.cur_split hS ok hcl hr h' with ⟨hw',ho'⟩|⟨hw',hc'⟩
  ·exact st.rel.inj id id' o o' B B' (hget hw ho) (hget hw' ho') (hin (hwlt hw)▸hB) (hin (hwlt hw')▸hB') e
  ·exact hmix hw ho hw' hc' hB hB' e
  ·exact(hmix hw' ho' hw hc hB' hB e.symm).elim (fun h=>.inl h.symm) (fun h=>.inr oM)
  ·exact inv.inj id id' o o' B B' hc hc' (hsame hw▸hB) (hsame hw'▸hB') e
 ·intro id h;rw[hout (by
   rcases h with h|h
   ·left;omega
   ·right;omega)]
  exact inv.out id h
 ·intro j hj hD id h1 h2;have hji:j≠i:=fun e=>hD (.inr e);have hDj:¬D j:=fun h=>hD (.inl h);rw[hout ?_]
  ·exact inv.fresh j hj hDj id h1 h2
  ·by_cases hlt:j<i
   ·left
    have:=R.next_le hS ok (i:=j+1) (j:=i) hlt (yU hr.lt);omega
   ·right
    have:=R.next_le hS ok (i:=i+1) (j:=j) oM (yU hj);omega
 ·intro id B h1 h2 hB;by_cases hrange:(R.W i).next≤id∧id<(R.W (i+1)).next
  ·rw[hin hrange.2]at hB;rcases st.own id B hrange.1 (hnx▸hrange.2) hB with h3|⟨id0,o0,B0,q1,q2,q3,q4⟩
   ·exact .inl (zA inv.grow h3)
   ·have q2':=(Phi.cut_some q2).2;have hlt0:id0<(R.W i).next:=f2.lt id0 o0 (wl (s:=vm d (R.L i) (R.T i) (R.W i)) q1)
    by_cases hl:id0<(R.W 0).next
    ·obtain⟨o1,ho1⟩:=f5.vis id0 o0 hl (wl (s:=vm d (R.L i) (R.T i) (R.W i)) q1);have hs:=(Inv.cur_of hS ok hcl hr hd hv q1).1 hl;refine .inr ⟨id0,o1,B0,by rw[uZ,hs];exact ho1,?_,q3,R.wm_run hS ok hr.lt hv q4⟩
     rw[←inv.out id0 (.inl hl)];exact q2'
    ·rcases inv.own id0 B0 (xc hl) oM q2' with h4|⟨id1,o1,B1,r1,r2,r3,r4⟩
     ·exact .inl (q3▸h4)
     ·exact .inr ⟨id1,o1,B1,r1,r2,r3.trans q3,r4⟩
  ·rw[hout oM]at hB;exact inv.own id B h1 h2 hB
 ·intro b hb H;refine(st.frame b (Nat.lt_of_lt_of_le hb inv.grow) fun id o B q1 q2 q3=>?_).trans (inv.frame b hb H);have q2':=(Phi.cut_some q2).2;cases hbit:t.wm.testBit id with
  |false=>rfl
  | true=>
   exfalso
   have hwN:=R.wm_run hS ok hr.lt hv hbit;have hlt0:id<(R.W i).next:=f2.lt id o (wl (s:=vm d (R.L i) (R.T i) (R.W i)) q1)
   by_cases hl:id<(R.W 0).next
   ·obtain⟨o1,ho1⟩:=f5.vis id o hl (wl (s:=vm d (R.L i) (R.T i) (R.W i)) q1);have hs:=(Inv.cur_of hS ok hcl hr hd hv q1).1 hl;have:=H id o1 B (by rw[uZ,hs];exact ho1) (by rw[←inv.out id (.inl hl)];exact q2') q3
    rw[hwN]at this;cases this
   ·rcases inv.own id B (xc hl) oM q2' with h4|⟨id1,o1,B1,r1,r2,r3,r4⟩
    ·omega
    ·have:=H id1 o1 B1 r1 r2 (r3.trans q3);rw[r4]at this;cases this
 ·intro b o u hu;rw[hz']at hu;exact st.rel.frz b o u hu
 ·intro id o B h hB;rw[hz'];rcases R.cur_split hS ok hcl hr h with ⟨hw,ho⟩|⟨hw,hc⟩
  ·exact st.rel.sep id o B (hget hw ho) (hin (hwlt hw)▸hB)
  ·rw [hsame hw]at hB;have h0:=inv.sep id o B hc hB;cases hgv:qO o with
   |true=>cases o<;>first|trivial|(cases hgv;done)
   | false=>
    refine h0.congr fun k=>?_;cases hk:ψ.z B.b k with
    |none=>
     cases hk2:φ.z B.b k with
     |none=>rfl
     |some u=>have h9:=st.zsub B.b k u hk2;rw[hk]at h9;cases h9
    | some u=>
     rcases st.zown B.b k u hk with h1|h1|⟨id0,o0,B0,q1,q2,q3,q4⟩
     ·exact h1.symm
     ·have:=inv.rng id B hB;omega
     ·exfalso
      rcases inv.inj id0 id o0 o B0 B (Inv.cur_of hS ok hcl hr hd hv q1) hc (Phi.cut_some q2).2 hB q3 with he|he
      ·subst he;exact hw (hbits q1 q4)
      ·rw[inv.old id o B hc hB oM]at hgv;cases hgv
 ·intro b o u hu;rw[hz'];exact st.zsub b o u (inv.zsub b o u hu)
 ·intro b o u hu;rw[hz']at hu;rcases st.zown b o u hu with h1|h1|⟨id0,o0,B0,q1,q2,q3,q4⟩
  ·exact inv.zown b o u h1
  ·exact .inr (.inl (zA inv.grow h1))
  ·have q2':=(Phi.cut_some q2).2;have hlt0:id0<(R.W i).next:=f2.lt id0 o0 (wl (s:=vm d (R.L i) (R.T i) (R.W i)) q1)
   by_cases hl:id0<(R.W 0).next
   ·obtain⟨o1,ho1⟩:=f5.vis id0 o0 hl (wl (s:=vm d (R.L i) (R.T i) (R.W i)) q1);have hs:=(Inv.cur_of hS ok hcl hr hd hv q1).1 hl;refine .inr (.inr ⟨id0,o1,B0,by rw[uZ,hs];exact ho1,?_,q3,R.wm_run hS ok hr.lt hv q4⟩)
    rw[←inv.out id0 (.inl hl)];exact q2'
   ·rcases inv.own id0 B0 (xc hl) oM q2' with h4|⟨id1,o1,B1,r1,r2,r3,r4⟩
    ·exact .inr (.inl (q3▸h4))
    ·exact .inr (.inr ⟨id1,o1,B1,r1,r2,r3.trans q3,r4⟩)
end
theorem KX:∀{l:List Nat} {i k d:Nat},Wn i l=true→l[k]? =some d→∀j,d.testBit j=true→j<i+k
 |[],_,k,d,_,h,_,_=>by simp at h
 |x::r,i,0,d,h,hd,j,hb=>by
  simp only[Wn,zq,wK]at h;simp only[yZ,Option.some.injEq]at hd;subst hd;apply y8;intro hle;have h1:x<2^j:=Nat.lt_of_lt_of_le h.1 (Nat.pow_le_pow_right oM oM);rw[Nat.testBit_lt_two_pow h1]at hb;cases hb
 |x::r,i,k+1,d,h,hd,j,hb=>by
  simp only[Wn,zq]at h;have:=KX (k:=k) h.2 (by simpa using hd) j hb
  omega
theorem Qe{i:Nat}{p:SOper}:∀{l:List SOper} {ds:List Nat} {k:Nat} {q:SOper} {d:Nat},Z2 i p l ds=true→l[k]? =some q→ds[k]? =some d→WQ p q=true→d.testBit i=true
 |[],_,k,q,d,_,h,_,_=>by simp at h
 |b::r,[],k,q,d,h,_,_,_=>by simp[Z2]at h
 |b::r,x::xs,0,q,d,h,hq,hd,hc=>by
  simp only[yZ,Option.some.injEq]at hq hd;subst hq;subst hd;simp only[Z2,zq,zr,Bool.not_eq_true']at h;rcases h.1 with h1|h1
  ·rw[hc]at h1;cases h1
  ·exact h1
 |b::r,x::xs,k+1,q,d,h,hq,hd,hc=>by
  simp only[Z2,zq]at h;exact Qe (k:=k) h.2 (by simpa using hq) (by simpa using hd) hc
theorem KW:∀{l:List SOper} {ds:List Nat} {i j k:Nat} {p q:SOper} {d:Nat},Uw i l ds=true→j<k→l[j]? =some p→l[k]? =some q→ds[k]? =some d→WQ p q=true→d.testBit (i+j)=true
 |[],_,i,j,k,p,q,d,_,_,h,_,_,_=>by simp at h
 |a::r,[],i,j,k,p,q,d,h,_,_,_,_,_=>by simp[Uw]at h
 |a::r,x::xs,i,j,0,p,q,d,h,hjk,hp,hq,hd,hc=>by omega
 |a::r,x::xs,i,0,k+1,p,q,d,h,hjk,hp,hq,hd,hc=>by
  simp only[yZ,Option.some.injEq]at hp;subst hp;simp only[Uw,zq]at h;exact Qe (k:=k) h.1 (by simpa using hq) (by simpa using hd) hc
 |a::r,x::xs,i,j+1,k+1,p,q,d,h,hjk,hp,hq,hd,hc=>by
  simp only[Uw,zq]at h;have:=KW (j:=j) (k:=k) h.2 oM (by simpa using hp) (by simpa using hq) (by simpa using hd) hc
  rw[show i+(j+1)=i+1+j by omega];exact this
theorem Z1:∀{l:List SOper} {ds:List Nat} {i:Nat} {d:DOper},(mkD l ds)[i]? =some d↔l[i]? =some d.o∧ds[i]? =some d.deps
 |[],ds,i,d=>by simp[mkD]
 |a::r,[],i,d=>by simp[mkD]
 |a::r,x::xs,0,d=>by
  simp only[mkD,yZ,Option.some.injEq];constructor
  ·rintro rfl;exact⟨rfl,rfl⟩
  ·rintro⟨rfl,rfl⟩;rfl
 |a::r,x::xs,i+1,d=>by simp only[mkD,xd];exact Z1
theorem Un:∀{l:List SOper} {ds:List Nat},l.length=ds.length→(mkD l ds).length=l.length
 |[],ds,_=>by simp[mkD]
 |a::r,[],h=>by simp at h
 |a::r,x::xs,h=>by simp only[mkD,List.length_cons];rw[Un (by simpa using h)]
theorem zxL{P:Program}{nt:Nat}{ops:Array Oper}:∀{rs:List Oper} {l:List SOper},cSs P nt ops rs=some l→l.length=rs.length∧∀(i:Nat) (o:Oper),rs[i]? =some o→∃so,l[i]? =some so∧cS P nt ops o=some so
 |[],l,h=>by simp[cSs]at h;subst h;exact⟨rfl,(fun i o h=>by simp at h)⟩
 | r::rs,l,h=>by
  simp only[cSs]at h;split at h
  ·rename_i a l' h1 h2
   simp only[Option.some.injEq]at h;subst h;obtain⟨k1,k2⟩:=zxL h2;refine⟨by simp[k1],fun i o ho=>?_⟩
   cases i with
   |zero=>simp only[yZ,Option.some.injEq]at ho;subst ho;exact⟨a,by simp,h1⟩
   |succ i=>obtain⟨so,k3,k4⟩:=k2 i o (by simpa using ho);exact⟨so,by simpa using k3,k4⟩
  ·cases h
theorem JR{acc:List Nat}{j:Nat}:∀{es:List Edge} {s0:Nat},(es.foldl (fun s e=>bif Region.binds .any e then s|||2^e.on|||acc.getD e.on 0 else s) s0).testBit j=true→s0.testBit j=true∨∃e∈es,Region.binds .any e=true∧(j=e.on∨(acc.getD e.on 0).testBit j=true)
 |[],s0,h=>.inl h
 | e::r,s0,h=>by
  rw[List.foldl_cons]at h;rcases JR h with h1|⟨e',he',h2⟩
  ·cases hb:Region.binds .any e with
   |false=>rw[hb]at h1;exact .inl h1
   |true=>
    rw[hb]at h1;simp only[cond_true,yS,zr]at h1;rcases h1 with (h1|h1)|h1
    ·exact .inl h1
    ·rw[Nat.testBit_two_pow]at h1;exact .inr ⟨e,by simp,hb,.inl (by simpa using (of_decide_eq_true h1).symm)⟩
    ·exact .inr ⟨e,by simp,hb,.inr h1⟩
  ·exact .inr ⟨e',by simp[he'],h2⟩
theorem JS{acc:List Nat}:∀{es:List Edge} {s0:Nat},(∀j,s0.testBit j=true→(es.foldl (fun s e=>bif Region.binds .any e then s|||2^e.on|||acc.getD e.on 0 else s) s0).testBit j=true)∧∀e∈es,Region.binds .any e=true→(es.foldl (fun s e=>bif Region.binds .any e then s|||2^e.on|||acc.getD e.on 0 else s) s0).testBit e.on=true
 |[],s0=>⟨fun j h=>h,fun e he=>by simp at he⟩
 | x::r,s0=>by
  simp only[List.foldl_cons];obtain⟨h1,h2⟩:=JS (acc:=acc) (es:=r) (s0:=bif Region.binds .any x then s0|||2^x.on|||acc.getD x.on 0 else s0)
  refine⟨fun j hj=>h1 j ?_,fun e he hb=>?_⟩
  ·cases Region.binds .any x with
   |false=>exact hj
   |true=>simp only[cond_true,yS,hj,Bool.true_or]
  ·rcases List.mem_cons.1 he with rfl|he
   ·apply h1;rw[hb];simp only[cond_true,yS,Nat.testBit_two_pow_self,Bool.or_true,Bool.true_or]
   ·exact h2 e he hb
theorem VA:∀{l:List Oper} {acc:List Nat},(kB l acc).length=acc.length+l.length∧(∀k,k<acc.length→(kB l acc)[k]? =acc[k]?)∧
  ∀(i:Nat) (o:Oper),l[i]? =some o→∃acc':List Nat,(kB l acc)[acc.length+i]? =some (zsM acc' o.after.toList)∧acc'.length=acc.length+i∧∀k,k<acc'.length→acc'[k]? =(kB l acc)[k]?
 |[],acc=>⟨by simp[kB],fun k _=>rfl,fun i o h=>by simp at h⟩
 | x::r,acc=>by
  simp only[kB];obtain⟨h1,h2,h3⟩:=VA (l:=r) (acc:=acc++[zsM acc x.after.toList]);refine⟨by rw[h1];simp;omega,fun k hk=>?_,fun i o ho=>?_⟩
  ·rw[h2 k (by simp;omega),yB hk]
  ·cases i with
   |zero=>
    simp only[yZ,Option.some.injEq]at ho;subst ho;refine⟨acc,?_,by simp,fun k hk=>?_⟩
    ·rw[h2 _ (by simp)];simp
    ·rw[h2 k (by simp;omega),yB hk]
   |succ i=>
    obtain⟨acc',k1,k2,k3⟩:=h3 i o (by simpa using ho)
    refine⟨acc',?_,by rw[k2];simp;omega,k3⟩
    rw[←k1];congr 1;simp;omega
theorem JG{nt:Nat}{ops:Array Oper}{ds:List DOper}(h:H7 P nt ops=some ds):
  ds.length=ops.size∧YZ ds∧zxE ds nt∧(∀(i:Nat) (d:DOper),ds[i]? =some d→∃o,ops[i]? =some o∧cS P nt ops o=some d.o∧(∀j,d.deps.testBit j=true→j<i)∧(∀e∈o.after,Region.binds .any e=true→e.on<i)∧
   ∀j,d.deps.testBit j=true→∃e∈o.after,Region.binds .any e=true∧(j=e.on∨∃d',ds[e.on]? =some d'∧d'.deps.testBit j=true)):=by
 unfold H7 at h;split at h
 ·rename_i l hl
  simp only at h;cases hb:(Uw 0 l (kB ops.toList [])&&Wn 0 (kB ops.toList []))with
  |false=>rw[hb]at h;simp at h
  | true=>
   rw[hb]at h;simp only[cond_true,Option.some.injEq]at h;subst h;rw[zq]at hb;obtain⟨k1,k2⟩:=zxL hl;obtain⟨d1,_,d3⟩:=VA (l:=ops.toList) (acc:=[]);simp only[List.length_nil,yO]at d1 d3;have hlen:l.length=(kB ops.toList []).length:=by rw[k1,d1]
   have hget:∀(i:Nat) (d:DOper),(mkD l (kB ops.toList []))[i]? =some d→∃o,ops[i]? =some o∧cS P nt ops o=some d.o:=fun i d hd=>by
    obtain⟨q1,q2⟩:=Z1.1 hd;have hlt:i<l.length:=by
     apply y8;intro hle;rw[ym hle]at q1;cases q1
    have ho:ops.toList[i]? =some ops.toList[i]:=by rw[yH]
    obtain⟨so,k3,k4⟩:=k2 i _ ho;rw[q1]at k3;cases k3;exact⟨_,by rw[←zC];exact ho,k4⟩
   refine⟨by rw[Un hlen,k1];simp,?_,?_,?_⟩
   ·intro j k dj dk hjk hj hk hc;obtain⟨q1,q2⟩:=Z1.1 hj;obtain⟨q3,q4⟩:=Z1.1 hk;have:=KW hb.1 hjk q1 q3 q4 hc;rw[yO]at this;exact this
   ·intro j dj t hj ht;obtain⟨o,_,ho⟩:=hget j dj hj;obtain⟨_,_,h3,h4⟩:=GH ho;exact h4 t (by rw[←h3];exact ht)
   ·intro i d hd;obtain⟨o,ho,hcs⟩:=hget i d hd;obtain⟨q1,q2⟩:=Z1.1 hd;have hback:∀j,d.deps.testBit j=true→j<i:=fun j hj=>by
     have:=KX hb.2 q2 j hj;omega
    obtain⟨acc',r1,r2,r3⟩:=d3 i o (by rw[zC];exact ho)
    rw[q2]at r1;simp only[Option.some.injEq]at r1;refine⟨o,ho,hcs,hback,fun e he hbd=>hback _ (by rw[r1];exact JS.2 e (by simpa using he) hbd),fun j hj=>?_⟩
    rw[r1]at hj;rcases JR hj with h0|⟨e,he,hbd,hor⟩
    ·simp at h0
    ·refine⟨e,by simpa using he,hbd,?_⟩
     rcases hor with h1|h1
     ·exact .inl h1
     ·right
      have hlt:e.on<acc'.length:=by
       apply y8;intro hle;rw[xe,ym hle]at h1;simp at h1
      have hlt2:e.on<l.length:=by
       have hi:i<l.length:=by apply y8;intro hle;rw[ym hle]at q1;cases q1
       omega
      refine⟨⟨l[e.on],acc'[e.on]⟩,Z1.2 ⟨yH hlt2,?_⟩,?_⟩
      ·rw[←r3 _ hlt,yH hlt]
      ·rw[xe,yH hlt]at h1;simpa using h1
 ·cases h
def LD(listed:Array Bool)(i:Nat):Prop:=listed.getD i false=true
theorem zlQ{listed:Array Bool}{i:Nat}(h:i<listed.size):LD (listed.setIfInBounds i true)=more (LD listed) i:=by
 funext j
 unfold LD more;simp only[yT,Array.getElem?_setIfInBounds];by_cases e:i=j
 ·subst e;simp[h]
 ·rw[if_neg e];simp[Ne.symm e]
theorem zsO(hS:SelfOk P w0 S)(hG:x8 E.globs w0){ops:Array Oper}{ds:List DOper}{nt:Nat}(hc:H7 P nt ops=some ds){R:Tr E S ds}(ok:R.Ok){φ0:Phi}{w00:World}{a0:Act}{F:Fence}(hF:Wide F){Q:Exit→Act→World→Prop}
  (hQ:∀φ w a,Inv R P w0 φ0 w00 nt a0 (fun i=>i<ds.length) φ w a→Q .normal a w):
  ∀(fuel:Nat) (listed:Array Bool) (φ:Phi) (w:World) (a:Act) (u:List Nat),listed.size=ops.size→u.length≤fuel→(∀i,i<ops.size→¬LD listed i→i∈u)→Closed ds (LD listed)→Inv R P w0 φ0 w00 nt a0 (LD listed) φ w a→wpAnyIn F n P .any ops Q fuel listed a w:=by
 obtain⟨c1,c2,c3,c4⟩:=JG hc;have hdone:∀{listed φ w a},listed.size=ops.size→(∀i,i<ops.size→LD listed i)→Inv R P w0 φ0 w00 nt a0 (LD listed) φ w a→Q .normal a w:=fun{listed φ w a} hsz hall inv=>by
  have e:LD listed=fun i=>i<ds.length:=by
   funext i
   apply propext;constructor
   ·intro h;rw[c1];apply y8;intro hle;unfold LD at h;rw[yT,Array.getElem?_eq_none oM]at h;simp at h
   ·intro h;exact hall i oM
  exact hQ φ w a (e▸inv)
 have hready:∀{listed:Array Bool},listed.size=ops.size→Region.ready .any ops listed=[]→∀i,i<ops.size→LD listed i:=fun{listed} hsz hnil i=>by
  induction i using Nat.strongRecOn with
  | _ i ih=>
   intro hi;by_cases hl:LD listed i
   ·exact hl
   ·exfalso
    obtain⟨d,hd⟩:=uq (ds:=ds) (i:=i) oM;obtain⟨o,ho,_,_,hed,_⟩:=c4 i d hd;have:i∈Region.ready .any ops listed:=mem_ready.2 ⟨by
     unfold LD at hl;rw[yT,zO oM]at hl⊢
     simpa using hl,o,ho,fun e he hb=>ih e.on (hed e he hb) (by have:=hed e he hb;omega)⟩
    rw[hnil]at this;simp at this
 intro fuel
 induction fuel with
 | zero=>
  intro listed φ w a u hsz hu hin hcl inv;have hu0:u=[]:=List.eq_nil_of_length_eq_zero oM;subst hu0;have hall:∀i,i<ops.size→LD listed i:=fun i hi=>by
   by_cases h:LD listed i
   ·exact h
   ·have:=hin i hi h;simp at this
  refine⟨?_,hdone hsz hall inv⟩;rw[List.eq_nil_iff_forall_not_mem];intro i hi;obtain⟨h1,o,ho,_⟩:=mem_ready.1 hi;have hlt:i<ops.size:=(Array.getElem?_eq_some_iff.1 ho).1;have:=hall i hlt;unfold LD at this;rw[yT,zO oM]at this h1;simp at this h1;rw[this]at h1;cases h1
 | succ fuel ih=>
  intro listed φ w a u hsz hu hin hcl inv;refine⟨fun hnil=>hdone hsz (hready hsz hnil) inv,fun i hi=>?_⟩;obtain⟨h1,o,ho,hed⟩:=mem_ready.1 hi;have hlt:i<ops.size:=(Array.getElem?_eq_some_iff.1 ho).1;have hnew:¬LD listed i:=by
   unfold LD;rw[yT,zO oM]at h1⊢
   simpa using h1
  obtain⟨d,hd⟩:=uq (ds:=ds) (i:=i) oM;obtain⟨o',ho',hcs,hback,_,hdep⟩:=c4 i d hd;rw[ho]at ho';cases ho';have hr:Ready (ds:=ds) (LD listed) i:=by
   refine⟨oM,hnew,fun d' j hd' hb hj=>?_⟩;rw[hd]at hd';cases hd';obtain⟨e,he,hbd,hor⟩:=hdep j hb;have hL:LD listed e.on:=hed e he hbd;rcases hor with rfl|⟨d'',hd'',hb''⟩
   ·exact hL
   ·exact hcl.dep e.on d'' j hL hd'' hb'' hj
  have hnext:∀φ' w' a',Inv R P w0 φ0 w00 nt a0 (more (LD listed) i) φ' w' a'→wpAnyIn F n P .any ops Q fuel (listed.setIfInBounds i true) a' w':=fun φ' w' a' inv'=>by
   have hset:=zlQ (listed:=listed) (i:=i) oM;refine ih _ φ' w' a' (u.erase i) (by simp[hsz]) ?_ ?_ ?_ (hset▸inv')
   ·rw[List.length_erase_of_mem (hin i hlt hnew)];omega
   ·intro j hj hn;rw[hset]at hn;have hji:j≠i:=fun e=>hn (.inr e);exact(List.mem_erase_of_ne hji).2 (hin j hj (fun h=>hn (.inl h)))
   ·rw[hset];refine⟨fun k dk j hk hdk hb hj=>?_⟩;rcases hk with hk|rfl
    ·exact .inl (hcl.dep k dk j hk hdk hb hj)
    ·exact .inl (hr.deps dk j hdk hb hj)
  unfold wpOpIn;rw[ho];simp only;obtain⟨hg,hop,hdst,hdlt⟩:=GH hcs;have hnm:=inv.names c2 hcl hr hd;rw[zqC]at hnm;cases hv:R.V i with
  |none=>
   obtain⟨g1,_,_,_⟩:=R.skip i d hd hv;rw[kx hg g1 (hnm.sub (by intro t h;simp[h]))]
   simp only[Bool.false_eq_true,if_false];refine⟨fun f _=>hF.fn f,hnext φ w _ ?_⟩;rw[←hdst];exact inv.skip hS.ext ok c2 c3 hcl hr hd hv
  |some p=>
   obtain⟨v,t⟩:=p;obtain⟨g1,g2,_,_,_,g6⟩:=R.run i d v t hd hv;rw[kx hg g1 (hnm.sub (by intro t h;simp[h])),if_pos rfl]
   rw[hop]at g2;obtain⟨op,hc1,hc2⟩:=JE g2;rw[hc2]at g2;have hfr:Fresh (φ.cut (R.W i).next) (vm d (R.L i) (R.T i) (R.W i)) t:=fun id h1=>Phi.cut_ge φ h1
   refine VQ hS hG hc1 g2 (inv.rel hS.ext ok hcl hr hd hv) (R.begWf hS.ext ok oM d) hfr (hnm.sub (by intro t h;rw[hop,hc2];simp[h])) hF fun ψ x w' k1 k2=>hnext (φ.merge (R.W i).next (R.W (i+1)).next ψ) w' _ ?_
   rw[←hdst];exact inv.run hS.ext ok c2 c3 hcl hr hd hv k1 k2
theorem QJ(hm:P.follows .mixedOrders=true)(hG:x8 E.globs w0)(S:Self)(hS:SelfOk P w0 S):DrawOk P w0 E S:=by
 refine⟨?_⟩;intro id nt ops ds tm tm' s s' φ w a F n Q hc hon he r hwf hf ht hsz hF hQ;obtain⟨R,t1,t2,t3,t4,t5⟩:=zj8 he;have ok:R.Ok:=⟨t1,by rw[t3];exact hon,by rw[t3];exact hwf⟩
 obtain⟨c1,c2,c3,c4⟩:=JG hc;have hno:∀i,¬LD (yW ops.size false) i:=fun i h=>by
  unfold LD at h;rw[yT,Array.getElem?_replicate]at h;split at h<;>simp at h
 have hcur:∀{id o},R.cur (LD (yW ops.size false)) id o→s.get id=some o:=fun{id o} h=>by
  obtain⟨h0,m,hm,h1,_,h3⟩:=h;have hk:=R.keepN hS.ext ok (id:=id) (i:=0) (j:=m) (zQ _) hm (fun k _ hk hw=>hno k (h1 k hk hw));rw[h3,t3]at hk;have hlt:=hwf.lt id o hk.symm;rw[t3]at h0;rw[uZ,h0 hlt];exact hk.symm
 have hcurA:∀{id o m},R.curA (LD (yW ops.size false)) id o m→s.get id=some o:=fun{id o m} h=>hcur (R.cur_of_A h);have hfin:∀φ' w' a',Inv R P w0 φ w nt a (fun i=>i<ds.length) φ' w' a'→Q .normal a' w':=fun φ' w' a' inv=>by
  have hcf:∀{id o},s'.get id=some o→R.cur (fun i=>i<ds.length) id o:=fun{id o} h=>by
   obtain⟨f1,f2,f3,_⟩:=R.facts hS.ext ok ds.length (zu _);refine⟨fun _=>?_,ds.length,zu _,fun j hj _=>hj,fun j h1 h2 _ _=>oM,by rw[t5];exact wl h⟩
   rw[←vh f3 (f1.trans ok.only.symm),t5];exact qB h
  have hext:=(R.facts hS.ext ok ds.length (zu _)).2.2.2.2;rw[t3,t5]at hext;have hcfA:∀{id o},s'.get id=some o→R.curA (fun i=>i<ds.length) id o ds.length:=fun{id o} h=>by
   obtain⟨h0,m,hm,h1,h2,h3⟩:=hcf h;exact⟨h0,zu _,fun j hj _=>hj,fun j h1 h2 _ _=>oM,by rw[t5];exact wl h⟩
  refine hQ φ' a' w' ⟨hext,⟨inv.base,fun id o h=>(let ⟨B,hB,ht⟩:=inv.obj id o ds.length (hcfA h);⟨B,hB,ht.keep (Phi.cut_sub φ' _) rfl⟩),inv.rng,fun id o B h=>inv.old id o B (hcf h),fun id id' o o' B B' h h'=>inv.inj id id' o o' B B' (hcf h) (hcf h'),inv.frz,fun id o B h=>inv.sep id o B (hcf h)⟩,?_,inv.grow,?_,?_,inv.zsub,?_⟩ ⟨?_,inv.size,inv.df⟩
  ·have:=inv.out;rw[t3,t5]at this;exact this
  ·have:=inv.frame;rw[t3,t5]at this;exact this
  ·have:=inv.own;rw[t3,t5]at this;exact this
  ·have:=inv.zown;rw[t3,t5]at this;exact this
  ·intro k v hv;exact VR.mono (Phi.cut_sub φ' _) _ _ (inv.tmp k v ds.length (zu _) (fun j hj _=>hj) (fun j h1 h2 _ _=>oM) (by rw[t4];exact hv))
 refine wpIn_region_any hm (zsO hS hG hc ok hF hfin ops.size _ φ _ a (List.range ops.size) (by simp) (by simp) (fun i hi _=>by simpa using hi) ⟨fun i _ _ h=>absurd h (hno i)⟩ ?_)
 have r':Rel P w0 φ s.get {w with drawn:=w.drawn+1}:=Rel.congr (w:=w) rfl rfl rfl rfl r
 have htight:∀m,m≤ds.length→Sub φ (φ.cut (R.W m).next):=fun m hm=>(Sub.refl φ).to_cut fun id hid=>hf id (by
  have:=R.next_le hS.ext ok (i:=0) (j:=m) (zQ _) hm;rw[t3]at this;omega)
 refine⟨r'.base,fun id o m h=>(let ⟨B,hB,ht⟩:=r'.obj id o (hcurA h);⟨B,hB,ht.keep (htight m h.2.1) rfl⟩),r'.rng,fun id o B h=>r'.old id o B (hcur h),fun id id' o o' B B' h h'=>r'.inj id id' o o' B B' (hcur h) (hcur h'),fun _ _=>rfl,fun i hi _ id h1 h2=>?_,fun k v m hmN h1 _ hv=>?_,hsz,rfl,zu _,fun id B h1 h2 hB=>?_,fun b _ _=>rfl,r'.frz,fun id o B h=>r'.sep id o B (hcur h),fun _ _ _ h=>h,fun _ _ _ h=>.inl h⟩
 ·refine hf id ?_;have:=R.next_le hS.ext ok (i:=0) (j:=i) (zQ _) (yU hi);rw[t3]at this;omega
 ·have key:∀q,q≤m→(R.T q).get k=(R.T 0).get k:=by
   intro q
   induction q with
   |zero=>intro _;rfl
   |succ q ih=>
    intro hq;obtain⟨dq,hdq⟩:=uq (ds:=ds) (i:=q) oM;rw[R.T_other hdq (fun e=>hno q (h1 q oM ⟨dq,hdq,e⟩))];exact ih oM
  rw[key m (zu _),t2]at hv;exact VR.mono (htight m hmN) _ _ (ht k v hv)
 ·rw[t3]at h1;rw[hf id h1]at hB;cases hB
def TOk(Q:Nat→IFunc→Prop):Nat→Nat→Trie IFunc→Prop
 |_,_,.leaf=>True
 |a,b,.node v l r=>(match v with|some F=>Q b F|none=>True)∧TOk Q (2*a) (a+b) l∧TOk Q (2*a) (2*a+b) r
theorem TOk.get{Q:Nat→IFunc→Prop}:∀{t:Trie IFunc} {a b n:Nat} {F:IFunc},TOk Q a b t→t.get n=some F→Q (a*n+b) F
 |.leaf,_,_,_,_,_,h=>by simp[Trie.get]at h
 | .node v l r,a,b,n,F,⟨h1,h2,h3⟩,h=>by
  match n with
  |0=>
   simp only[Trie.get]at h;subst h
   simpa using h1
  | m+1=>
   simp only[Trie.get]at h;by_cases e:(m+1)%2=1
   ·have e1:zb (Nat.mod (m+1) 2) 1=true:=by show zb ((m+1)%2) 1=true;rw[e];rfl
    rw[e1]at h;have:=h2.get (n:=(m+1)/2) h;have e2:2*a*((m+1)/2)+(a+b)=a*(m+1)+b:=by
     have:m+1=2*((m+1)/2)+1:=oM;generalize (m+1)/2=k at this⊢;rw[this,Nat.mul_add,Nat.mul_one,yy 2 a,Nat.mul_assoc,Nat.add_assoc]
    rw[e2]at this;exact this
   ·have e1:zb (Nat.mod (m+1) 2) 1=false:=by
     show zb ((m+1)%2) 1=false;have:(m+1)%2=0:=oM;rw[this];rfl
    rw[e1]at h;have:=h3.get (n:=zB ((m+1)/2)) h;have e2:2*a*(zB ((m+1)/2))+(2*a+b)=a*(m+1)+b:=by
     have:m+1=2*(zB ((m+1)/2))+2:=by simp only[Nat.pred_eq_sub_one];omega
     generalize zB ((m+1)/2)=k at this⊢;rw[this,Nat.mul_add,yy 2 a,Nat.mul_assoc,←Nat.add_assoc]
    rw[e2]at this;exact this
def Q(P:Program)(k:Nat)(F:IFunc):Prop:=∃fn,P.funcs[k]? =some fn∧H6 P fn=some F
theorem envOk_of{P:Program}{E:Env}(h:TOk (Q P) 1 0 E.funs):ki P E:=fun f F hf=>by
 have:=h.get hf;rw[Nat.one_mul,Nat.add_zero]at this;exact this
abbrev Orc:=Nat→Option (List AV→St→Option (AV×St))
variable {O:Orc}
def QY(O:Orc):Prop:=∀f g,O f=some g→∀args s v s',g args s=some (v,s')→Ext s s'
noncomputable def pB(E:Env)(O:Orc)(S:Self)(f:Nat)(args:List AV)(s:St):Option (AV×St):=
 match O f with
 |some g=>g args s
 |none=>vz E S f args s
noncomputable def evT(E:Env)(O:Orc):Nat→Self
 |0=>⟨fun _ _ _=>none,fun _ _ _ _=>none,fun _ _ _=>none⟩
 |n+1=>⟨fun f args s=>pB E O (evT E O n) f args s,fun rd b fr s=>evC E (evT E O n) rd (.loop b) fr s,fun l args s=>ja E (evT E O n) l args s⟩
theorem XZ{f:Nat}{args:List AV}(h:pB E O S f args s=some (v,s')):
  (∃g,O f=some g∧g args s=some (v,s'))∨(O f=none∧vz E S f args s=some (v,s')):=by
 unfold pB at h;split at h
 ·rename_i g hg;exact .inl ⟨g,hg,h⟩
 ·rename_i hg;exact .inr ⟨hg,h⟩
theorem ko(E:Env){O:Orc}(hx:QY O):∀n,Mono (evT E O n)
 |0=>⟨fun _ _ _ _ _ h=>by simp[evT]at h,fun _ _ _ _ _ _ _ h=>by simp[evT]at h,fun _ _ _ _ _ h=>by simp[evT]at h⟩
 | n+1=>⟨fun f args s v s' h=>by
   rcases XZ h with ⟨g,hg,h⟩|⟨_,h⟩
   ·exact(hx f g hg _ _ _ _ h).next
   ·exact zz2 (ko E hx n) h,
  fun _ _ _ _ _ _ _ h=>qV (ko E hx n) h,fun _ _ _ _ _ h=>P3 (ko E hx n) h⟩
theorem gO(E:Env){O:Orc}(hx:QY O):∀n,ExtS (evT E O n)
 |0=>⟨fun _ _ _ _ _ h=>by simp[evT]at h,fun _ _ _ _ _ _ _ h=>by simp[evT]at h,fun _ _ _ _ _ h=>by simp[evT]at h⟩
 | n+1=>⟨fun f args s v s' h=>by
   rcases XZ h with ⟨g,hg,h⟩|⟨_,h⟩
   ·exact hx f g hg _ _ _ _ h
   ·exact zvp (gO E hx n) h,
  fun _ _ _ _ _ _ _ h=>kf (gO E hx n) h,fun _ _ _ _ _ h=>zxi (gO E hx n) h⟩
def SC(P:Program)(w0:World)(f:Nat)(args:List AV)(s:St)(v:AV)(s':St):Prop:=
 (∃fn,P.funcs[f]? =some fn∧fn.body.isSome=true∧(fn.name== "runtime.NumGoroutine")=false)∧
 ∀(φ:Phi) (w:World) (xs:List Value),Rel P w0 φ s.get w→Wf s→Fresh φ s s'→VRL φ args xs→∀F n,Wide F→CallsIn F n P f xs.toArray w (QZ P w0 φ s w v s')
def qz(P:Program)(w0:World)(f:Nat)(g:List AV→St→Option (AV×St)):Prop:=
 ∀args s v s',g args s=some (v,s')→SC P w0 f args s v s'
theorem VT{P:Program}{w0:World}{E:Env}{O:Orc}(hx:QY O)(hm:P.follows .mixedOrders=true)(hG:x8 E.globs w0)(hE:ki P E)(hO:∀f g,O f=some g→qz P w0 f g):∀n,SelfOk P w0 (evT E O n)
 |0=>⟨ko E hx 0,gO E hx 0,fun h=>by simp[evT]at h,fun h=>by simp[evT]at h,fun h=>by simp[evT]at h⟩
 | n+1=>
  have ih:=VT hx hm hG hE hO n;have hD:DrawOk P w0 E (evT E O n):=QJ hm hG _ ih
  ⟨ko E hx (n+1),gO E hx (n+1),fun{f args s v s'} h=>by
   rcases XZ h with ⟨g,hg,hv⟩|⟨_,h⟩
   ·obtain⟨h1,h2⟩:=hO f g hg args s v s' hv;exact⟨h1,fun{φ w xs} r hwf hf hx F k hF=>h2 φ w xs r hwf hf hx F k hF⟩
   ·exact pT ih hG hE hD h,
  fun h _ _ _ _ r hwf hf ha hB=>Hx ih hG hD h r hwf hf ha hB,fun h _ _ _ _ _ hb r hwf hf hfr F k hF hrd=>zyX ih hG hD h hb r hwf hf hfr F k hF hrd⟩
def eqN:List Nat→List Nat→Bool
 |[],[]=>true
 |a::x,b::y=>zb a b&&eqN x y
 |_,_=>false
theorem zs0:∀{a b:List Nat},eqN a b=true→a=b
 |[],[],_=>rfl
 |[],_::_,h=>by simp[eqN]at h
 |_::_,[],h=>by simp[eqN]at h
 |a::x,b::y,h=>by
  simp only[eqN,zq,we]at h;rw[h.1,zs0 h.2]
mutual
def eqA:AV→AV→Bool
 |.bool a,.bool b=>a==b
 |.int k n,.int k' m=>uG k k'&&eqI n m
 |.str a,.str b=>eqN a b
 |.nils,.nils=>true
 |.nilp,.nilp=>true
 |.agg a,.agg b=>LT a b
 |.tup a,.tup b=>LT a b
 |.lst n e a,.lst m f b=>zb n m&&(e==f)&&LT a b
 |_,_=>false
def LT:List AV→List AV→Bool
 |[],[]=>true
 |a::x,b::y=>eqA a b&&LT x y
 |_,_=>false
end
mutual
theorem zsZ:∀{a b:AV},eqA a b=true→a=b
 |.bool a,b,h=>by cases b<;>simp[eqA]at h;rw[h]
 |.int k n,b,h=>by
  cases b<;>simp only[eqA,zq,ZW,v8,decide_eq_true_eq,beq_iff_eq]at h<;>first|(cases h;done)|skip
  rw[h.1,h.2]
 |.str a,b,h=>by
  cases b<;>simp only[eqA]at h<;>first|(cases h;done)|skip
  rw[zs0 h]
 |.nils,b,h=>by cases b<;>simp[eqA]at h;rfl
 |.nilp,b,h=>by cases b<;>simp[eqA]at h;rfl
 |.agg a,b,h=>by
  cases b<;>simp only[eqA]at h<;>first|(cases h;done)|skip
  rw[QK h]
 |.lst n e a,b,h=>by
  cases b<;>simp only[eqA,zq,we,beq_iff_eq]at h<;>first|(cases h;done)|skip
  rw[h.1.1,h.1.2,QK h.2]
 |.ptr _ _,b,h=>by cases b<;>simp[eqA]at h
 |.gptr _ _,b,h=>by cases b<;>simp[eqA]at h
 |.sl _ _ _ _,b,h=>by cases b<;>simp[eqA]at h
 |.sl0,b,h=>by cases b<;>simp[eqA]at h
 |.map _,b,h=>by cases b<;>simp[eqA]at h
 |.nilm,b,h=>by cases b<;>simp[eqA]at h
 |.fn _ _ _,b,h=>by cases b<;>simp[eqA]at h
 |.nilf,b,h=>by cases b<;>simp[eqA]at h
 |.yld _,b,h=>by cases b<;>simp[eqA]at h
 |.ifc _ _,b,h=>by cases b<;>simp[eqA]at h
 |.nili,b,h=>by cases b<;>simp[eqA]at h
 |.tup a,b,h=>by
  cases b<;>simp only[eqA]at h<;>first|(cases h;done)|skip
  rw[QK h]
 |.gr _ _ _ _,b,h=>by cases b<;>simp[eqA]at h
 |.vp _,b,h=>by cases b<;>simp[eqA]at h
theorem QK:∀{a b:List AV},LT a b=true→a=b
 |[],[],_=>rfl
 |[],_::_,h=>by simp[LT]at h
 |_::_,[],h=>by simp[LT]at h
 |a::x,b::y,h=>by
  simp only[LT,zq]at h;rw[zsZ h.1,QK h.2]
end
def s00(m:Nat)(b:Bool):St:={objs:=.leaf,next:=0,wm:=m,hide:=[],only:=none,md:=b}
theorem Z5(m:Nat)(b:Bool)(id:Nat):(s00 m b).get id=none:=by
 cases h:(s00 m b).get id with
 |none=>rfl
 |some o=>have:=wl h;simp[s00,Trie.get]at this
theorem SC.up{f:Nat}{args:List AV}{b:Bool}{s1:St}(h:SC P w0 f args (s00 0 b) v s1)(hp1:xY args=true)(hp2:wq v=true)(s:St):SC P w0 f args s v s:=by
 refine⟨h.1,fun φ w xs r hwf hf hx F k hF=>?_⟩;have r0:Rel P w0 ⟨fun _=>none,φ.z⟩ (s00 0 b).get w:=by
  refine⟨r.base,fun id o h=>?_,(fun id B h=>by cases h),(fun id _ _ _ h=>by cases h),fun id _ _ _ _ _ h=>?_,r.frz,fun _ _ _ _ h=>by cases h⟩
  ·rw[Z5]at h;cases h
  ·rw[Z5]at h;cases h
 have hcall:=h.2 _ w xs r0 ⟨(fun id o h=>by simp[s00,Trie.get]at h),fun p hp=>by simp[s00]at hp⟩ (fun _ _=>rfl) (VRL.pure (φ:=φ) (φ':=⟨fun _=>none,φ.z⟩) (fun _ _ _ h=>h) _ _ hp1 hx) F k hF
 refine CallsIn.mono hcall ?_
 rintro e w1 ⟨φ1,x,rfl,k1,k2⟩
 have hold:∀b,b<w.heap.size→w1.heap[b]? =w.heap[b]? :=fun b hb=>k1.frame b hb fun id o B ho=>by rw[Z5]at ho;cases ho
 have hz:∀b i u,φ1.z b i=some u→φ.z b i=some u∨w.heap.size≤b:=fun b i u hu=>by
  rcases k1.zown b i u hu with h1|h1|⟨id0,o0,B0,q1,_⟩
  ·exact .inl h1
  ·exact .inr h1
  ·rw[Z5]at q1;cases q1
 refine⟨φ.zset φ1.z,x,rfl,⟨Ext.refl _,⟨k1.rel.base,fun id o ho=>?_,fun id B hB=>?_,r.old,r.inj,k1.rel.frz,fun id o B ho hB=>?_⟩,fun _ _=>rfl,k1.size,fun b hlt _=>hold b hlt,(fun id _ h1 h2=>absurd h2 oM),k1.zsub,fun b i u hu=>?_⟩,VR.pure (φ:=φ1) (φ':=φ.zset φ1.z) (fun _ _ _ h=>h) _ _ hp2 k2⟩
 ·obtain⟨B,hB,t⟩:=r.obj id o ho;exact⟨B,hB,t.keep (φ:=φ) (φ':=φ.zset φ1.z) ⟨fun _ _ h=>h,k1.zsub⟩ (hold _ (r.rng id B hB))⟩
 ·have hB':φ id=some B:=hB;have h1:=r.rng id B hB';have h2:=k1.size;omega
 ·refine(r.sep id o B ho hB).congr fun i=>?_;have hB':φ id=some B:=hB;show φ1.z B.b i=φ.z B.b i;cases h1:φ1.z B.b i with
  |none=>
   cases h2:φ.z B.b i with
   |none=>rfl
   |some u=>have:=k1.zsub B.b i u h2;rw[h1]at this;cases this
  |some u=>
   rcases hz _ _ _ h1 with h2|h2
   ·exact h2.symm
   ·have:=r.rng id B hB';omega
 ·rcases hz b i u hu with h1|h1
  ·exact .inl h1
  ·exact .inr (.inl h1)
structure LeS(S S':Self):Prop where
 call:∀f a s r,S.call f a s=some r→S'.call f a s=some r
 loop:∀rd b fr s r,S.loop rd b fr s=some r→S'.loop rd b fr s=some r
 round:∀l a s r,S.round l a s=some r→S'.round l a s=some r
structure LimS(T:Nat→Self)(L:Self):Prop where
 call:∀f a s r,L.call f a s=some r→∃n,(T n).call f a s=some r
 loop:∀rd b fr s r,L.loop rd b fr s=some r→∃n,(T n).loop rd b fr s=some r
 round:∀l a s r,L.round l a s=some r→∃n,(T n).round l a s=some r
theorem LeS.refl(S:Self):LeS S S:=⟨fun _ _ _ _ h=>h,fun _ _ _ _ _ h=>h,fun _ _ _ _ h=>h⟩
theorem LeS.trans{S' S'':Self}(h:LeS S S')(h':LeS S' S''):LeS S S'':=
 ⟨fun _ _ _ _ t=>h'.call _ _ _ _ (h.call _ _ _ _ t),fun _ _ _ _ _ t=>h'.loop _ _ _ _ _ (h.loop _ _ _ _ _ t),fun _ _ _ _ t=>h'.round _ _ _ _ (h.round _ _ _ _ t)⟩
theorem LeS.chain{T:Nat→Self}(h:∀n,LeS (T n) (T (n+1))):∀{n m:Nat},n≤m→LeS (T n) (T m)
 |n,0,hle=>by (have:n=0:=by omega);subst this;exact LeS.refl _
 |n,m+1,hle=>by
  by_cases e:n=m+1
  ·subst e;exact LeS.refl _
  ·exact(LeS.chain h (n:=n) (m:=m) oM).trans (h m)
structure Ct{α:Type}(X:Self→Option α):Prop where
 up:∀S S',LeS S S'→∀r,X S=some r→X S'=some r
 fin:∀(T:Nat→Self) (L:Self),(∀n,LeS (T n) (T (n+1)))→LimS T L→∀r,X L=some r→∃n,X (T n)=some r
theorem Ct.const{α:Type}(x:Option α):Ct fun _=>x:=⟨fun _ _ _ _ h=>h,fun _ _ _ _ _ h=>⟨0,h⟩⟩
theorem Ct.call(f:Nat)(a:List AV)(s:St):Ct fun S=>S.call f a s:=⟨fun _ _ h _ t=>h.call _ _ _ _ t,fun _ _ _ h _ t=>h.call _ _ _ _ t⟩
theorem Ct.loop(rd:Option Nat)(b:ICode)(fr:Fr)(s:St):Ct fun S=>S.loop rd b fr s:=⟨fun _ _ h _ t=>h.loop _ _ _ _ _ t,fun _ _ _ h _ t=>h.loop _ _ _ _ _ t⟩
theorem Ct.round(l:Nat)(a:List AV)(s:St):Ct fun S=>S.round l a s:=⟨fun _ _ h _ t=>h.round _ _ _ _ t,fun _ _ _ h _ t=>h.round _ _ _ _ t⟩
theorem Ct.bind{α β:Type}{X:Self→Option α}{k:Self→Option α→Option β}(hX:Ct X)(h0:∀S,k S none=none)(hk:∀x,Ct fun S=>k S (some x)):Ct fun S=>k S (X S) where
 up:=fun S S' hS r h=>by
  cases hx:X S with
  |none=>rw[hx,h0]at h;cases h
  |some x=>rw[hx]at h;rw[hX.up S S' hS x hx];exact(hk x).up S S' hS r h
 fin:=fun T L hT hL r h=>by
  cases hx:X L with
  |none=>rw[hx,h0]at h;cases h
  |some x=>
   rw[hx]at h;obtain⟨n,hn⟩:=hX.fin T L hT hL x hx;obtain⟨m,hm⟩:=(hk x).fin T L hT hL r h;refine⟨n+m,?_⟩;rw[hX.up _ _ (LeS.chain hT oM) x hn];exact(hk x).up _ _ (LeS.chain hT oM) r hm
theorem Ct.map{α β:Type}{X:Self→Option α}(g:Option α→Option β)(hX:Ct X)(h0:g none=none):Ct fun S=>g (X S):=
 Ct.bind (k:=fun _ x=>g x) hX (fun _=>h0) fun x=>Ct.const (g (some x))
theorem zxR(E:Env)(op:IOp)(tm:Trie AV)(s:St):Ct fun S=>qA E S op tm s:=by
 cases op
 case call f args=>
  show Ct fun S=>LV S f (evL tm args) s;cases evL tm args with
  |none=>exact Ct.const none
  |some vs=>exact Ct.call f vs s
 case cv x args=>
  show Ct fun S=>GT S (x.ev tm) (evL tm args) s;cases evL tm args with
  |none=>exact Ct.const none
  | some vs=>
   cases x.ev tm with
   |none=>exact Ct.const none
   |some u=>
    cases u
    case fn f a c=>exact Ct.call f (a++vs++c) s
    case yld l=>exact Ct.round l vs s
    all_goals exact Ct.const none
 all_goals exact Ct.const _
theorem zsD(E:Env)(o:SOper)(tm:Trie AV)(s:St):Ct fun S=>lR E S o tm s:=by
 unfold lR;cases kF o.guard tm with
 |none=>exact Ct.const none
 |some b=>
  cases b with
  |true=>exact(zxR E o.op tm s).map (stS tm o.dst) rfl
  |false=>exact Ct.const _
theorem zsB(E:Env):∀(l:List SOper) (tm:Trie AV) (s:St),Ct fun S=>evS E S l tm s
 |[],_,_=>Ct.const _
 |o::r,tm,s=>Ct.bind (k:=fun S x=>match x with|some p=>evS E S r p.1 p.2|none=>none) (zsD E o tm s) (fun _=>rfl) fun p=>zsB E r p.1 p.2
theorem zsC(E:Env)(o:DOper)(i:Nat)(log:List LogE)(tm:Trie AV)(s:St):Ct fun S=>lQ E S o i log tm s:=by
 unfold lQ;cases kF o.o.guard tm with
 |none=>exact Ct.const none
 |some b=>
  cases b with
  |true=>exact(zxR E o.o.op tm _).map (Jg o i log tm s) rfl
  |false=>exact Ct.const _
theorem zsA(E:Env):∀(l:List DOper) (i:Nat) (log:List LogE) (tm:Trie AV) (s:St),Ct fun S=>evD E S l i log tm s
 |[],_,_,_,_=>Ct.const _
 |o::r,i,log,tm,s=>Ct.bind (k:=fun S x=>match x with|some p=>evD E S r (Nat.succ i) p.1 p.2.1 p.2.2|none=>none) (zsC E o i log tm s) (fun _=>rfl) fun p=>zsA E r _ _ _ _
theorem LB{X:Self→Option (Res×Fr×St)}{k:Self→Fr→St→Option (Res×Fr×St)}(hX:Ct X)(hk:∀fr s,Ct fun S=>k S fr s):Ct fun S=>uV (k S) (X S):=
 Ct.bind (k:=fun S x=>uV (k S) x) hX (fun _=>rfl) fun p=>by
  obtain⟨r,fr,s⟩:=p;cases r with
  |norm=>exact hk fr s
  |exit i=>exact Ct.const _
  |ret=>exact Ct.const _
theorem kA(E:Env)(rd:Option Nat):∀(c:ICode) (fr:Fr) (s:St),Ct fun S=>evC E S rd c fr s
 |.skip,_,_=>Ct.const _
 |.reg ops,fr,s=>(zsB E ops fr.tm s).map (uI fr.df) rfl
 |.regd ops,fr,s=>by
  show Ct fun S=>Qg E S ops fr s;unfold Qg;cases s.only with
  |none=>exact(zsA E ops 0 [] fr.tm s).map (uI fr.df) rfl
  |some _=>exact Ct.const none
 |.seq a b,fr,s=>LB (kA E rd a fr s) (kA E rd b)
 | .cond c a b,fr,s=>by
  show Ct fun S=>WR (c.ev fr.tm) (evC E S rd a) (evC E S rd b) fr s;cases c.ev fr.tm with
  |none=>exact Ct.const none
  | some v=>
   cases v
   case bool x=>cases x with
    |true=>exact kA E rd a fr s
    |false=>exact kA E rd b fr s
   all_goals exact Ct.const none
 |.block id b,fr,s=>(kA E rd b fr s).map (jR id) rfl
 |.loop b,fr,s=>LB (kA E rd b fr s) (fun fr s=>Ct.loop rd b fr s)
 |.exit _,_,_=>Ct.const _
 |.ret,_,_=>Ct.const _
 | .rf g ps asg body,fr,s=>by
  show Ct fun S=>rfR S rd (g.ev fr.tm) ps asg body fr s;unfold rfR;cases rd with
  |some _=>exact Ct.const none
  | none=>
   simp only;cases g.ev fr.tm with
   |none=>exact Ct.const none
   |some v=>
    cases v
    case fn f a c=>exact(Ct.call f _ _).map (gZ fr (Nat.succ s.next) s.next) rfl
    all_goals exact Ct.const none
 |.stk,_,_=>Ct.const _
theorem LA(E:Env)(F:IFunc)(args:List AV)(s:St):Ct fun S=>pR E S F args s:=
 (kA E none F.body _ s).map (wT E.globs F.res) rfl
theorem zsz(E:Env)(f:Nat)(args:List AV)(s:St):Ct fun S=>vz E S f args s:=by
 unfold vz;cases E.funs.get f with
 |none=>exact Ct.const none
 | some F=>
  simp only;cases ze (qg args) F.ntmps with
  |false=>exact Ct.const none
  |true=>
   simp only[cond_true];cases E.pure f with
   |true=>exact(LA E F args _).map (pK s) rfl
   |false=>exact(LA E F args _).map (mdR s.md) rfl
theorem Vw(E:Env)(O:Orc)(f:Nat)(args:List AV)(s:St):Ct fun S=>pB E O S f args s:=by
 unfold pB;cases O f with
 |none=>exact zsz E f args s
 |some g=>exact Ct.const _
theorem X3(E:Env)(l:Nat)(args:List AV)(s:St):Ct fun S=>ja E S l args s:=by
 unfold ja;cases s.get l with
 |none=>exact Ct.const none
 | some o=>
  cases o
  case loop st pend tm ps asg body d=>
   simp only;cases hU tm ps args with
   |none=>exact Ct.const none
   | some tm1=>
    simp only;refine Ct.bind (k:=fun S x=>vc E S l body x) (kA E (some l) asg _ s) (fun _=>rfl) fun p=>?_;unfold vc;obtain⟨r,fr,s1⟩:=p;cases r with
    |exit i=>exact Ct.const none
    |ret=>exact Ct.const none
    | norm=>
     simp only;cases s1.get l with
     |none=>exact Ct.const none
     | some o=>
      cases o
      case loop st pend tm ps asg body d=>
       cases st with
       |ready=>exact(kA E (some l) _ fr _).map (ue l) rfl
       |busy=>exact Ct.const none
       |done=>exact Ct.const none
       |exhausted=>exact Ct.const none
      all_goals exact Ct.const none
  all_goals exact Ct.const none
theorem uY(E:Env)(O:Orc):∀n,LeS (evT E O n) (evT E O (n+1))
 |0=>⟨fun _ _ _ _ h=>by simp[evT]at h,fun _ _ _ _ _ h=>by simp[evT]at h,fun _ _ _ _ h=>by simp[evT]at h⟩
 |n+1=>
  have ih:=uY E O n
  ⟨fun f a s r h=>(Vw E O f a s).up _ _ ih r h,fun rd b fr s r h=>(kA E rd (.loop b) fr s).up _ _ ih r h,fun l a s r h=>(X3 E l a s).up _ _ ih r h⟩
noncomputable section
open Classical in
def zyW{α:Type}(X:Nat→Option α):Option α:=if h:∃r n,X n=some r then some (Classical.choose h)else none
theorem vg{α:Type}{X:Nat→Option α}{r:α}(h:zyW X=some r):∃n,X n=some r:=by
 unfold zyW at h;split at h
 ·rename_i hx
  cases h;exact xg hx
 ·cases h
theorem jo{α:Type}{X:Nat→Option α}(hm:∀n r,X n=some r→X (n+1)=some r){n:Nat}{r:α}(h:X n=some r):zyW X=some r:=by
 have up:∀k m r,X m=some r→X (m+k)=some r:=fun k=>by
  induction k with
  |zero=>intro m r h;exact h
  |succ k ih=>intro m r h;exact hm _ _ (ih m r h)
 unfold zyW;have hx:∃r n,X n=some r:=⟨r,n,h⟩;rw[dif_pos hx];obtain⟨m,hm'⟩:=xg hx;have h1:=up m n r h;have h2:=up n m _ hm';rw[Nat.add_comm,h1]at h2;exact h2.symm
def evW(E:Env)(O:Orc):Self:=
 ⟨fun f a s=>zyW fun n=>(evT E O n).call f a s,fun rd b fr s=>zyW fun n=>(evT E O n).loop rd b fr s,fun l a s=>zyW fun n=>(evT E O n).round l a s⟩
end
theorem GU(E:Env)(O:Orc):LimS (evT E O) (evW E O):=⟨fun _ _ _ _ h=>vg h,fun _ _ _ _ _ h=>vg h,fun _ _ _ _ h=>vg h⟩
theorem zru{f:Nat}{a:List AV}{r:AV×St}(h:pB E O (evW E O) f a s=some r):(evW E O).call f a s=some r:=by
 obtain⟨n,hn⟩:=(Vw E O f a s).fin _ _ (uY E O) (GU E O) r h;exact jo (n:=n+1) (fun n r h=>(uY E O n).call _ _ _ _ h) hn
theorem zrv{rd:Option Nat}{b:ICode}{fr:Fr}{r:Res×Fr×St}(h:evC E (evW E O) rd (.loop b) fr s=some r):(evW E O).loop rd b fr s=some r:=by
 obtain⟨n,hn⟩:=(kA E rd (.loop b) fr s).fin _ _ (uY E O) (GU E O) r h;exact jo (n:=n+1) (fun n r h=>(uY E O n).loop _ _ _ _ _ h) hn
theorem zuj{l:Nat}{a:List AV}{r:AV×St}(h:ja E (evW E O) l a s=some r):(evW E O).round l a s=some r:=by
 obtain⟨n,hn⟩:=(X3 E l a s).fin _ _ (uY E O) (GU E O) r h;exact jo (n:=n+1) (fun n r h=>(uY E O n).round _ _ _ _ h) hn
theorem laid_ints{H:Type}{enc:TypeId×Value→H}{base:Nat}{spare:Nat→Bool}{held:Bool}{fuel:Nat}{e:TypeId}{k:IntKind}{cs:List Value}{vs:List Int}{p:List MemPlace}(ht:P.underlying t=some (.array n e))(he:P.underlying e=some (.int k))(hc:P.cellsOf e=1)(hct:P.cellsOf t=n)
  (h:DataW.trod enc P w base spare held fuel t cs=some (.agg (vs.map fun v=>.lit (.int k v)),p)):cs=vs.map (.int k ·):=by
 obtain⟨xs,m,rfl,hx,hlen,hn,hel⟩:=DataW.trod_array ht h;simp only[Prod.mk.injEq,DataW.agg.injEq]at hx;have hl:vs.length=n:=by
  have:=congrArg xj hx.1;simp at this;omega
 rw[hct]at hlen;apply List.ext_getElem?;intro i;by_cases hi:i<n
 ·have h1:=hel i hi;rw[hc,Nat.mul_one]at h1;rw[yH oM]at h1;obtain⟨z,z1,z2,_⟩:=DataW.trod_int he h1;have hz:xs[i].1=.lit (.int k z):=by rw[z2]
  have hv:(vs.map fun v=>(DataW.lit (.int k v):DataW H))[i]? =(xs.map (·.1))[i]? :=by rw[hx.1]
  rw[xb,xb,yH oM,yH oM]at hv;simp only[yg,Option.some.injEq]at hv;rw[hz]at hv;have hvz:vs[i]=z:=by simpa using hv
  have hcs:cs[i]? =some (.int k z):=by
   have:=congrArg (fun l=>l[0]?) z1
   simpa using this
  rw[hcs,xb,yH oM,yg,hvz]
 ·rw[ym oM,ym (by simp;omega)]
theorem HR(φ:Phi)(k:IntKind):∀vs:List Int,VRL φ (vs.map (AV.int k ·)) (vs.map (Value.int k ·))
 |[]=>VRL.nil φ
 |v::vs=>VRL.cons (by simp only[VR]) (HR φ k vs)
theorem glob_of{name:String}{g:Nat}{cs:Array Value}{k:IntKind}{vs:List Int}(hg:P.globalNamed name=some g)(hv:w.var? P name=some cs)(hcs:cs.toList=vs.map (Value.int k ·)):
  g<w.heap.size∧∃c e fr,w.heap[g]? =some (.cells c e fr)∧(vs.map (AV.int k ·)).length≤c.size∧∀φ,VRL φ (vs.map (AV.int k ·)) (c.toList.take (vs.map (AV.int k ·)).length):=by
 unfold World.var? at hv;rw[hg]at hv;simp only[Option.bind_some]at hv;cases hh:w.heap[g]? with
 |none=>rw[hh]at hv;cases hv
 |some o=>
  rw[hh]at hv;cases o<;>simp only at hv<;>first|(cases hv;done)|skip
  rename_i c e fr
  have hcc:c=cs:=by simpa using hv
  subst hcc;refine⟨(Array.getElem?_eq_some_iff.1 hh).1,c,e,fr,rfl,?_,fun φ=>?_⟩
  ·have:=congrArg xj hcs;simp at this⊢;omega
  ·rw[hcs,List.take_of_length_le (by simp)];exact HR φ k vs
theorem laid_pairs{H:Type}{enc:TypeId×Value→H}{base:Nat}{spare:Nat→Bool}{held:Bool}{fuel:Nat}{e u:TypeId}{k:IntKind}{f0 f1:Field}{cs:List Value}{vs:List (Int×Int)}{p:List MemPlace}(ht:P.underlying t=some (.array n e))(he:P.underlying e=some (.struct #[f0,f1]))
  (h0:f0.type=u∧f0.offset=0) (h1:f1.type=u∧f1.offset=1) (hu:P.underlying u=some (.int k)) (hcu:P.cellsOf u=1) (hc:P.cellsOf e=2) (hct:P.cellsOf t=n*2)
  (h:DataW.trod enc P w base spare held fuel t cs=some (.agg (vs.map fun v=>.agg [.lit (.int k v.1),.lit (.int k v.2)]),p)):cs=(vs.flatMap fun v=>[v.1,v.2]).map (.int k ·):=by
 obtain⟨xs,m,rfl,hx,hlen,hn,hel⟩:=DataW.trod_array ht h;simp only[Prod.mk.injEq,DataW.agg.injEq]at hx;have hl:vs.length=n:=by
  have:=congrArg xj hx.1;simp at this;omega
 rw[hct]at hlen;have key:∀i (hi:i<vs.length),cs[2*i]? =some (.int k vs[i].1)∧cs[2*i+1]? =some (.int k vs[i].2):=by
  intro i hi;have g:=hel i oM;rw[hc,yH oM]at g;obtain⟨y0,y1,m',e1,e2,e3,e4⟩:=Go.ChangeShapes.trod_struct2 he g;rw[h0.1,h0.2,hcu]at e3;rw[h1.1,h1.2,hcu]at e4;obtain⟨z0,a0,b0,_⟩:=DataW.trod_int hu e3;obtain⟨z1,a1,b1,_⟩:=DataW.trod_int hu e4;have hv:(vs.map fun v=>(DataW.agg [.lit (.int k v.1),.lit (.int k v.2)]:DataW H))[i]? =(xs.map (·.1))[i]? :=by rw[hx.1]
  rw[xb,xb,yH oM,yH oM]at hv;simp only[yg,Option.some.injEq]at hv;rw[e1,b0,b1]at hv;simp at hv;rw[hv.1,hv.2];have c0:=congrArg (fun l=>l[0]?) a0;have c1:=congrArg (fun l=>l[0]?) a1;simp[List.getElem?_take]at c0 c1;rw[show 2*i=i*2 from yy _ _];exact⟨c0,c1⟩
 apply List.ext_getElem?;intro j;have hfl:∀(l:List (Int×Int)) (q:Nat),((l.flatMap fun v=>[v.1,v.2]).map (Value.int k ·))[q]? =if q%2=0 then (l[q/2]?).map (fun v=>Value.int k v.1)else (l[q/2]?).map (fun v=>Value.int k v.2):=by
  intro l
  induction l with
  |nil=>intro q;simp
  | cons v r ih=>
   intro q
   match q with
   |0=>simp
   |1=>simp
   |q+2=>
    have:=ih q;simp only[List.flatMap_cons,List.cons_append,List.nil_append,List.map_cons,xd];rw[this,show (q+2)%2=q%2 by omega,show (q+2)/2=q/2+1 by omega,xd]
 rw[hfl];by_cases hj:j/2<vs.length
 ·obtain⟨k1,k2⟩:=key (j/2) hj;rw[yH hj];split
  ·rw[show 2*(j/2)=j by omega]at k1;rw[k1];simp
  ·rw[show 2*(j/2)+1=j by omega]at k2;rw[k2];simp
 ·rw[ym oM,ym (l:=vs) oM];simp
def GlobAt(w:World)(g:Nat)(l:List AV):Prop:=g<w.heap.size∧∃c e fr,w.heap[g]? =some (.cells c e fr)∧l.length≤c.size∧∀φ,VRL φ l (c.toList.take l.length)
theorem globRel_of{G:List (List AV)}(h:∀i cs,G[i]? =some cs→cs≠[]→GlobAt w i cs):x8 G w:=h
open Go.RowKit (Below)
noncomputable def okV(v:AV):Option (AV×St)→Bool
 |some p=>eqA v p.1
 |none=>false
theorem zqV{r:Option (AV×St)}(h:okV v r=true):∃s,r=some (v,s):=by
 cases r with
 |none=>simp[okV]at h
 |some p=>exact⟨p.2,by rw[zsZ h]⟩
noncomputable def noO:Orc:=fun _=>none
noncomputable def withG(f:Nat)(g:List AV→St→Option (AV×St))(O:Orc):Orc:=fun k=>bif zb f k then some g else O k
structure OrcOk(P:Program)(w0:World)(O:Orc):Prop where
 ext:QY O
 ok:∀f g,O f=some g→qz P w0 f g
theorem pj(P:Program)(w0:World):OrcOk P w0 noO:=⟨fun _ _ h=>by (cases h),fun _ _ h=>by (cases h)⟩
theorem OrcOk.withG{f:Nat}{g:List AV→St→Option (AV×St)}(hO:OrcOk P w0 O)(he:∀args s v s',g args s=some (v,s')→Ext s s')(hk:qz P w0 f g):OrcOk P w0 (withG f g O):=by
 refine⟨fun k h hk'=>?_,fun k h hk'=>?_⟩<;>unfold Ev.withG at hk'
 ·cases hb:zb f k with
  |true=>rw[hb]at hk';simp only[cond_true,Option.some.injEq]at hk';subst hk';exact he
  |false=>rw[hb]at hk';simp only[cond_false]at hk';exact hO.ext k h hk'
 ·cases hb:zb f k with
  |true=>
   rw[hb]at hk';simp only[cond_true,Option.some.injEq]at hk';subst hk';rw[we]at hb;subst hb;exact hk
  |false=>rw[hb]at hk';simp only[cond_false]at hk';exact hO.ok k h hk'
end Go.Proofs.YtbddpjboppmnfaaGreatDoor.Ev

/- Part of a verified evaluator of the model's code, generic over the program: a run of the evaluator that answers shows what the model's run answers. No conditions of its own. -/
import Derived.Test.YtbdfljdgapkbcaaGreatDoorEvD
import Derived.OpenShut
import Derived.ChangeSame
set_option linter.unusedSimpArgs false
set_option linter.unusedVariables false
set_option linter.defProp false
open Bool renaming and_eq_true → zl, or_eq_true → zm
open List renaming getElem?_eq_getElem → yv, getElem?_cons_zero → yN, getElem?_eq_none → yb, getElem?_cons_succ → yP, getElem?_map → yQ, mem_cons_of_mem → yR, eq_nil_iff_forall_not_mem → yT, eq_nil_of_length_eq_zero → yr, getD_eq_getElem?_getD → yU, getElem?_append_left → ym, length_erase_of_mem → yW, contains_iff_mem → yY, mem_erase_of_ne → yZ, mem_of_getElem? → y7, length → y8
open Array renaming getD_eq_getD_getElem? → yH, getElem?_eq_getElem → zI, replicate → yK, getElem?_replicate → yV, getElem?_toList → zu
open Nat renaming le_refl → zo, lt_of_not_le → yO, beq → za, le_of_lt → yI, le_trans → zr, le_of_not_lt → yS, testBit_or → yG, zero_le → zK, mul_comm → yh, zero_add → yC, ble → zd, pred → zt
open Option renaming map_some → zY
open Classical renaming choose_spec → yX
namespace Go.Proofs.YtbdfljdgapkbcaaGreatDoor.Ev
variable {P:Program}{w0 w:World}{E:Env}{S:Self}{s s':St}{φ:Phi}{v:AV}{tm:Trie AV}{id n:Nat}{o:AObj}{op:IOp}{t:TypeId}
noncomputable def Ku(i:Nat)(d:DOper)(T:Trie AV)(W t:St):LogE:={idx:=i,lo:=W.next,hi:=t.next,tch:=qo d.o.op T,wm:=wQ t.wm W.next}
structure Tr(E:Env)(S:Self)(ds:List DOper) where
 L:Nat→List LogE
 T:Nat→Trie AV
 W:Nat→St
 V:Nat→Option (AV×St)
 skip:∀i d,ds[i]? =some d→V i=none→kq d.o.guard (T i)=some false∧L (i+1)=L i∧T (i+1)=qC (T i) d.o.dst qc∧W (i+1)=W i
 run:∀i d v t,ds[i]? =some d→V i=some (v,t)→kq d.o.guard (T i)=some true∧wP E S d.o.op (T i) (qZ d (L i) (T i) (W i))=some (v,t)∧
  ud d.deps (qo d.o.op (T i)) (wQ t.wm (W i).next) (L i)=true∧L (i+1)=Ku i d (T i) (W i) t::L i∧T (i+1)=qC (T i) d.o.dst v∧
  W (i+1)={t with hide:=(W i).hide,only:=(W i).only,wm:=Nat.lor (W i).wm t.wm}
theorem K3{E:Env}{S:Self}:∀{ds:List DOper} {k:Nat} {log:List LogE} {tm tm':Trie AV} {s s':St},evD E S ds k log tm s=some (tm',s')→
  ∃ (L:Nat→List LogE) (T:Nat→Trie AV) (W:Nat→St) (V:Nat→Option (AV×St)),L 0=log∧T 0=tm∧W 0=s∧T ds.length=tm'∧W ds.length=s'∧
   (∀i d,ds[i]? =some d→V i=none→kq d.o.guard (T i)=some false∧L (i+1)=L i∧T (i+1)=qC (T i) d.o.dst qc∧W (i+1)=W i)∧
   (∀i d v t,ds[i]? =some d→V i=some (v,t)→kq d.o.guard (T i)=some true∧wP E S d.o.op (T i) (qZ d (L i) (T i) (W i))=some (v,t)∧
    ud d.deps (qo d.o.op (T i)) (wQ t.wm (W i).next) (L i)=true∧L (i+1)=Ku (k+i) d (T i) (W i) t::L i∧T (i+1)=qC (T i) d.o.dst v∧
    W (i+1)={t with hide:=(W i).hide,only:=(W i).only,wm:=Nat.lor (W i).wm t.wm})
 |[],k,log,tm,tm',s,s',h=>by
  simp only[evD,Option.some.injEq,Prod.mk.injEq]at h;obtain⟨rfl,rfl⟩:=h;exact⟨fun _=>log,fun _=>tm,fun _=>s,fun _=>none,rfl,rfl,rfl,rfl,rfl,(fun i d h=>by simp at h),(fun i d v t h=>by simp at h)⟩
 | o ::r,k,log,tm,tm',s,s',h=>by
  simp only[evD]at h;split at h
  ·rename_i p hp
   obtain⟨L,T,W,V,h1,h2,h3,h4,h5,h6,h7⟩:=K3 h
   have hV:∃V0:Option (AV×St),(V0=none→kq o.o.guard tm=some false∧p.1=log∧p.2.1=qC tm o.o.dst qc∧p.2.2=s)∧
     (∀v t,V0=some (v,t)→kq o.o.guard tm=some true∧wP E S o.o.op tm (qZ o log tm s)=some (v,t)∧
      ud o.deps (qo o.o.op tm) (wQ t.wm s.next) log=true∧p.1=Ku k o tm s t::log∧p.2.1=qC tm o.o.dst v∧p.2.2={t with hide:=s.hide,only:=s.only,wm:=Nat.lor s.wm t.wm}):=by
    unfold lE at hp;split at hp
    ·rename_i hw
     cases he:wP E S o.o.op tm (qZ o log tm s)with
     |none=>rw[he]at hp;simp[Jf]at hp
     | some q=>
      rw[he]at hp;simp only[Jf]at hp;cases hb:ud o.deps (qo o.o.op tm) (wQ q.2.wm s.next) log with
      |false=>rw[hb]at hp;simp at hp
      |true=>
       rw[hb]at hp;simp only[cond_true,Option.some.injEq]at hp;refine⟨some q,(fun h=>by cases h),fun v t hvt=>?_⟩
       cases hvt;subst hp;exact⟨hw,rfl,hb,rfl,rfl,rfl⟩
    ·rename_i hw
     simp only[Option.some.injEq]at hp;subst hp;exact⟨none,fun _=>⟨hw,rfl,rfl,rfl⟩,(fun v t h=>by cases h)⟩
    ·cases hp
   obtain⟨V0,hV1,hV2⟩:=hV;refine⟨fun i=>match i with|0=>log|i+1=>L i,fun i=>match i with|0=>tm|i+1=>T i,fun i=>match i with|0=>s|i+1=>W i,fun i=>match i with|0=>V0|i+1=>V i,rfl,rfl,rfl,h4,h5,?_,?_⟩
   ·intro i d hd hv;cases i with
    |zero=>
     simp only[yN,Option.some.injEq]at hd;subst hd;obtain⟨g1,g2,g3,g4⟩:=hV1 hv;exact⟨g1,h1.trans g2,h2.trans g3,h3.trans g4⟩
    |succ i=>exact h6 i d (by simpa using hd) hv
   ·intro i d v t hd hv;cases i with
    |zero=>
     simp only[yN,Option.some.injEq]at hd;subst hd;obtain⟨g1,g2,g3,g4,g5,g6⟩:=hV2 v t hv;exact⟨g1,g2,g3,h1.trans g4,h2.trans g5,h3.trans g6⟩
    |succ i=>
     have:=h7 i d v t (by simpa using hd) hv
     rw[show k+1+i=k+(i+1) by omega]at this
     exact this
  ·cases h
theorem zj7{E:Env}{S:Self}{ds:List DOper}{tm':Trie AV}(h:evD E S ds 0 [] tm s=some (tm',s')):
  ∃R:Tr E S ds,R.L 0=[]∧R.T 0=tm∧R.W 0=s∧R.T ds.length=tm'∧R.W ds.length=s':=by
 obtain⟨L,T,W,V,h1,h2,h3,h4,h5,h6,h7⟩:=K3 h;exact⟨⟨L,T,W,V,h6,fun i d v t hd hv=>by have:=h7 i d v t hd hv;rw[yC]at this;exact this⟩,h1,h2,h3,h4,h5⟩
section
variable {E:Env}{S:Self}{ds:List DOper}(R:Tr E S ds)
def Tr.wr(i id:Nat):Prop:=∃v t,R.V i=some (v,t)∧((R.W i).next≤id∧id<t.next∨id<(R.W i).next∧t.wm.testBit id=true)
structure Tr.Ok:Prop where
 l0:R.L 0=[]
 only:(R.W 0).only=none
 wf:Wf (R.W 0)
variable {R}
theorem vu{i:Nat}(h:i<ds.length):∃d,ds[i]? =some d:=⟨ds[i],by simp[h]⟩
theorem Tr.facts(hS:ExtS S)(ok:R.Ok):∀i,i≤ds.length→(R.W i).only=none∧Wf (R.W i)∧(R.W i).hide=(R.W 0).hide∧(∀e∈R.L i,e.hi≤(R.W i).next)∧Ext (R.W 0) (R.W i)
 |0,_=>⟨ok.only,ok.wf,rfl,by rw[ok.l0];simp,Ext.refl _⟩
 | i+1,hi=>by
  obtain⟨h1,h2,h3,h4,h5⟩:=Tr.facts hS ok i oM;obtain⟨d,hd⟩:=vu (ds:=ds) (i:=i) oM;cases hv:R.V i with
  |none=>
   obtain⟨_,g2,_,g4⟩:=R.skip i d hd hv;rw[g2,g4];exact⟨h1,h2,h3,h4,h5⟩
  |some p=>
   obtain⟨_,g2,_,g4,_,g6⟩:=R.run i d p.1 p.2 hd hv;have hx:=V1 h1 h4 (jf hS g2);rw[←g6]at hx;refine⟨hx.only.trans h1,hx.wf h2,hx.hide.trans h3,fun e he=>?_,h5.trans hx⟩;rw[g4]at he;rcases List.mem_cons.1 he with rfl|he
   ·rw[g6];exact zo _
   ·exact zr (h4 e he) hx.next
theorem Tr.ext(hS:ExtS S)(ok:R.Ok){i:Nat}(hi:i<ds.length):Ext (R.W i) (R.W (i+1)):=by
 obtain⟨h1,h2,h3,h4,h5⟩:=R.facts hS ok i oM;obtain⟨d,hd⟩:=vu (ds:=ds) hi;cases hv:R.V i with
 |none=>obtain⟨_,g2,_,g4⟩:=R.skip i d hd hv;rw[g4];exact Ext.refl _
 |some p=>
  obtain⟨_,g2,_,g4,_,g6⟩:=R.run i d p.1 p.2 hd hv;rw[g6];exact V1 h1 h4 (jf hS g2)
theorem Tr.next_le(hS:ExtS S)(ok:R.Ok):∀{i j:Nat},i≤j→j≤ds.length→(R.W i).next≤(R.W j).next
 |i,0,h,_=>by (have:i=0:=by omega);subst this;exact Nat.le_refl _
 |i,j+1,h,hj=>by
  by_cases e:i=j+1
  ·subst e;exact zo _
  ·exact zr (Tr.next_le hS ok (i:=i) (j:=j) oM oM) (R.ext hS ok (i:=j) oM).next
theorem Tr.keep1(hS:ExtS S)(ok:R.Ok){i:Nat}(hi:i<ds.length)(hw:¬R.wr i id):(R.W (i+1)).objs.get id=(R.W i).objs.get id:=by
 obtain⟨h1,h2,h3,h4,h5⟩:=R.facts hS ok i oM;obtain⟨g1,g2',_⟩:=R.facts hS ok (i+1) oM;obtain⟨d,hd⟩:=vu (ds:=ds) hi;cases hv:R.V i with
 |none=>obtain⟨_,_,_,g4⟩:=R.skip i d hd hv;rw[g4]
 | some p=>
  obtain⟨_,g2,_,g4,_,g6⟩:=R.run i d p.1 p.2 hd hv;have hx:=jf hS g2;by_cases hlt:id<(R.W i).next
  ·have hb:p.2.wm.testBit id=false:=by
    cases hb:p.2.wm.testBit id with
    |false=>rfl
    |true=>exact absurd ⟨p.1,p.2,hv,.inr ⟨hlt,hb⟩⟩ hw
   rw[g6];exact hx.keep id hlt hb
  ·have hge:¬id<p.2.next:=fun h=>hw ⟨p.1,p.2,hv,.inl ⟨oM,h⟩⟩
   have e1:(R.W i).objs.get id=none:=by
    cases he:(R.W i).objs.get id with
    |none=>rfl
    |some o=>exact absurd (h2.lt id o he) hlt
   have e2:(R.W (i+1)).objs.get id=none:=by
    cases he:(R.W (i+1)).objs.get id with
    |none=>rfl
    |some o=>have:=g2'.lt id o he;rw[g6]at this;exact absurd this hge
   rw[e1,e2]
theorem Tr.keepN(hS:ExtS S)(ok:R.Ok){id:Nat}:∀{i j:Nat},i≤j→j≤ds.length→(∀k,i≤k→k<j→¬R.wr k id)→(R.W j).objs.get id=(R.W i).objs.get id
 |i,0,h,_,_=>by (have:i=0:=by omega);subst this;rfl
 |i,j+1,h,hj,hw=>by
  by_cases e:i=j+1
  ·subst e;rfl
  ·exact(R.keep1 hS ok oM (hw j oM oM)).trans (Tr.keepN hS ok (i:=i) (j:=j) oM oM fun k h1 h2=>hw k h1 oM)
theorem Tr.logged(hS:ExtS S)(ok:R.Ok){j:Nat}{d:DOper}{v:AV}{t:St}(hd:ds[j]? =some d)(hv:R.V j=some (v,t)):∀{i:Nat},j<i→i≤ds.length→Ku j d (R.T j) (R.W j) t∈R.L i
 |0,h,_=>by omega
 | i+1,h,hi=>by
  obtain⟨di,hdi⟩:=vu (ds:=ds) (i:=i) oM;by_cases e:j=i
  ·subst e;rw[hd]at hdi;cases hdi;obtain⟨_,_,_,g4,_⟩:=R.run j d v t hd hv;rw[g4];simp
  ·have ih:=Tr.logged hS ok hd hv (i:=i) oM oM;cases hvi:R.V i with
   |none=>obtain⟨_,g2,_⟩:=R.skip i di hdi hvi;rw[g2];exact ih
   |some p=>obtain⟨_,_,_,g4,_⟩:=R.run i di p.1 p.2 hdi hvi;rw[g4];exact yR _ ih
end
theorem kO{deps wm:Nat}{tch:Option (List Nat)}:∀{log:List LogE},ud deps tch wm log=true→∀e∈log,deps.testBit e.idx=false→(wm=0∨offMask wm e.tch=true)∧(e.wm=0∨offMask e.wm tch=true)
 |[],_,e,he,_=>by simp at he
 | x::r,h,e,he,hb=>by
  simp only[ud]at h;cases hd:deps.testBit x.idx with
  |true=>
   rw[hd]at h;simp only[cond_true]at h;rcases List.mem_cons.1 he with rfl|he
   ·rw[hd]at hb;cases hb
   ·exact kO h e he hb
  | false=>
   rw[hd]at h;simp only[cond_false]at h;cases hc:((za wm 0||offMask wm x.tch)&&(za x.wm 0||offMask x.wm tch))with
   |false=>rw[hc]at h;simp at h
   |true=>
    rw[hc]at h;simp only[cond_true]at h;rcases List.mem_cons.1 he with rfl|he
    ·rw[zl,zm,zm,xT,xT]at hc;exact hc
    ·exact kO h e he hb
theorem Yu{deps:Nat}{h:List (Nat×Nat)}{id:Nat}:∀{log:List LogE},∀e∈log,deps.testBit e.idx=false→e.lo≤id→id<e.hi→hid (qr deps log h) id=true
 |[],e,he,_,_,_=>by simp at he
 | x::r,e,he,hb,h1,h2=>by
  simp only[qr];rcases List.mem_cons.1 he with rfl|he
  ·have:(za e.lo e.hi||deps.testBit e.idx)=false:=by
    rw[hb,Bool.or_false,Bool.eq_false_iff,ne_eq,xT];omega
   rw[this];simp only[cond_false,hid];rw[show zd e.lo id=true from xR.2 h1,show Nat.blt id e.hi=true from wi.2 h2];rfl
  ·have ih:=Yu (h:=h) e he hb h1 h2;cases hc:(za x.lo x.hi||deps.testBit x.idx)with
   |true=>simp only[cond_true];exact ih
   |false=>
    simp only[cond_false,hid];cases zd x.lo id<;>cases Nat.blt id x.hi<;>simp[ih]
theorem Zj{m:Nat}{l:List Nat}{a:Nat}(h:offMask m (some l)=true)(ha:a∈l):m.testBit a=false:=by
 simp only[offMask]at h
 induction l with
 |nil=>simp at ha
 | cons x r ih=>
  simp only[offMask.go]at h;cases hx:m.testBit x with
  |true=>rw[hx]at h;simp at h
  |false=>
   rw[hx]at h;simp only[cond_false]at h;rcases List.mem_cons.1 ha with rfl|ha
   ·exact hx
   ·exact ih h ha
theorem gP(m n i:Nat):(wQ m n).testBit i=(decide (i<n)&&m.testBit i):=by
 show (m%2^n).testBit i=_;rw[Nat.testBit_mod_two_pow]
open Go.RowKit (Below)
section
variable {E:Env}{S:Self}{ds:List DOper}(R:Tr E S ds)
def wt(ds:List DOper)(j t:Nat):Prop:=∃d,ds[j]? =some d∧d.o.dst=some t
def Tr.cur(D:Nat→Prop)(id:Nat)(o:AObj):Prop:=
 (id<(R.W 0).next→seen (R.W 0) id=true)∧∃m,m≤ds.length∧(∀j,j<m→R.wr j id→D j)∧(∀j,m≤j→j<ds.length→R.wr j id→¬D j)∧(R.W m).objs.get id=some o
def Tr.curA(D:Nat→Prop)(id:Nat)(o:AObj)(m:Nat):Prop:=
 (id<(R.W 0).next→seen (R.W 0) id=true)∧m≤ds.length∧(∀j,j<m→R.wr j id→D j)∧(∀j,m≤j→j<ds.length→R.wr j id→¬D j)∧(R.W m).objs.get id=some o
structure Inv(P:Program)(w0:World)(φ0:Phi)(w00:World)(nt:Nat)(a0:Act)(D:Nat→Prop)(φ:Phi)(w:World)(a:Act):Prop where
 base:Below w0.heap.size w0 w
 obj:∀id o m,R.curA D id o m→∃B,φ id=some B∧ObjRel P (φ.cut (R.W m).next) w o B
 rng:∀id B,φ id=some B→B.b<w.heap.size
 old:∀id o B,R.cur D id o→φ id=some B→B.b<w0.heap.size→qG o=true
 inj:∀id id' o o' B B',R.cur D id o→R.cur D id' o'→φ id=some B→φ id'=some B'→B.b=B'.b→id=id'∨B.b<w0.heap.size
 out:∀id,(id<(R.W 0).next∨(R.W ds.length).next≤id)→φ id=φ0 id
 fresh:∀i,i<ds.length→¬D i→∀id,(R.W i).next≤id→id<(R.W (i+1)).next→φ id=none
 tmp:∀t v m,m≤ds.length→(∀j,j<m→wt ds j t→D j)→(∀j,m≤j→j<ds.length→wt ds j t→¬D j)→(R.T m).get t=some v→VR (φ.cut (R.W m).next) v (a.tmps.getD t undef)
 size:a.tmps.size=nt
 df:a.defers=a0.defers
 grow:w00.heap.size≤w.heap.size
 own:∀id B,(R.W 0).next≤id→id<(R.W ds.length).next→φ id=some B→w00.heap.size≤B.b∨∃id0 o0 B0,(R.W 0).get id0=some o0∧φ0 id0=some B0∧B0.b=B.b∧(R.W ds.length).wm.testBit id0=true
 frame:∀b,b<w00.heap.size→(∀id o B,(R.W 0).get id=some o→φ0 id=some B→B.b=b→(R.W ds.length).wm.testBit id=false)→w.heap[b]? =w00.heap[b]?
 frz:∀b o v,φ.z b o=some v→∃c e fr,w.heap[b]? =some (.cells c e fr)∧c[o]? =some v
 sep:∀id o B,R.cur D id o→φ id=some B→SepOf o B φ.z
 zsub:∀b o v,φ0.z b o=some v→φ.z b o=some v
 zown:∀b o v,φ.z b o=some v→φ0.z b o=some v∨w00.heap.size≤b∨∃id0 o0 B0,(R.W 0).get id0=some o0∧φ0 id0=some B0∧B0.b=b∧(R.W ds.length).wm.testBit id0=true
def more(D:Nat→Prop)(i:Nat):Nat→Prop:=fun j=>D j∨j=i
structure Ready(D:Nat→Prop)(i:Nat):Prop where
 lt:i<ds.length
 new:¬D i
 deps:∀d j,ds[i]? =some d→d.deps.testBit j=true→j<ds.length→D j
structure Closed(ds:List DOper)(D:Nat→Prop):Prop where
 dep:∀i d j,D i→ds[i]? =some d→d.deps.testBit j=true→j<ds.length→D j
variable {R}
theorem Tr.cur_of_A{D:Nat→Prop}{m:Nat}(h:R.curA D id o m):R.cur D id o:=⟨h.1,m,h.2⟩
theorem Tr.A_of_cur{D:Nat→Prop}(h:R.cur D id o):∃m,R.curA D id o m:=let ⟨h0,m,h1⟩:=h;⟨m,h0,h1⟩
theorem Tr.wr_lt(hS:ExtS S)(_ok:R.Ok){i:Nat}(hi:i<ds.length)(h:R.wr i id):id<(R.W (i+1)).next:=by
 obtain⟨v,t,hv,h1⟩:=h;obtain⟨d,hd⟩:=vu (ds:=ds) hi;obtain⟨_,g2,_,_,_,g6⟩:=R.run i d v t hd hv;have hx:=(jf hS g2).next
 have:(R.W (i+1)).next=t.next:=by rw[g6]
 have hx':(R.W i).next≤t.next:=hx
 rw[this];rcases h1 with h1|h1<;>omega
theorem Tr.wm_le(hS:ExtS S)(ok:R.Ok):∀{i j:Nat},i≤j→j≤ds.length→∀id,(R.W i).wm.testBit id=true→(R.W j).wm.testBit id=true
 |i,0,h,_,id,hb=>by
  have:i=0:=oM;subst this;exact hb
 |i,j+1,h,hj,id,hb=>by
  by_cases e:i=j+1
  ·subst e;exact hb
  ·exact(R.ext hS ok (i:=j) oM).wm id (Tr.wm_le hS ok (i:=i) (j:=j) oM oM id hb)
theorem Tr.wm_run(hS:ExtS S)(ok:R.Ok){i:Nat}(hi:i<ds.length){t:St}(hv:R.V i=some (v,t))(hb:t.wm.testBit id=true):(R.W ds.length).wm.testBit id=true:=by
 obtain⟨d,hd⟩:=vu (ds:=ds) hi;obtain⟨_,_,_,_,_,g6⟩:=R.run i d v t hd hv;refine Tr.wm_le hS ok (i:=i+1) oM (zo _) id ?_;rw[g6];show ((R.W i).wm|||t.wm).testBit id=true
 rw[yG,hb,Bool.or_true]
theorem Tr.sees(hS:ExtS S)(ok:R.Ok){D:Nat→Prop}(hcl:Closed ds D){i:Nat}(hr:Ready (ds:=ds) D i){d:DOper}(hd:ds[i]? =some d){t:St}(hv:R.V i=some (v,t))(hsee:seen (qZ d (R.L i) (R.T i) (R.W i)) id=true)(hlt:id<(R.W i).next):
  (id<(R.W 0).next→seen (R.W 0) id=true)∧(∀j,j<i→R.wr j id→D j)∧(∀j,i≤j→j<ds.length→R.wr j id→¬D j):=by
 obtain⟨f1,f2,f3,f4,f5⟩:=R.facts hS ok i (by have:=hr.lt;omega)
 have hs1:=KV f1 hsee;have htch:∀l,qo d.o.op (R.T i)=some l→id∈l:=by
  intro l hl;unfold seen at hsee;simp only[qZ,hl,zY,zl,zm]at hsee;rcases hsee.2 with h1|h1
  ·rw[xR]at h1;omega
  ·rw[gN,yY]at h1;exact h1
 have hnh:hid (qr d.deps (R.L i) (R.W i).hide) id=false:=by
  cases hh:hid (qr d.deps (R.L i) (R.W i).hide) id with
  |false=>rfl
  |true=>
   exfalso
   unfold seen at hsee;simp only[qZ]at hsee;split at hsee
   ·rw[hh]at hsee;cases hsee
   ·rw[hh]at hsee;cases hsee
 obtain⟨_,g2,g3,_,_,_⟩:=R.run i d v t hd hv;refine⟨fun _=>by rw[←qY f3 (f1.trans ok.only.symm)];exact hs1,fun j hj hw=>?_,fun j hj hjn hw hD=>?_⟩
 ·obtain⟨vj,tj,hvj,hwj⟩:=hw;obtain⟨dj,hdj⟩:=vu (ds:=ds) (i:=j) (by have:=hr.lt;omega)
  have hmem:=R.logged hS ok hdj hvj (i:=i) hj (by have:=hr.lt;omega)
  cases hb:d.deps.testBit j with
  |true=>exact hr.deps d j hd hb (by have:=hr.lt;omega)
  | false=>
   exfalso
   rcases hwj with ⟨h1,h2⟩|⟨h1,h2⟩
   ·have:=Yu (deps:=d.deps) (h:=(R.W i).hide) (id:=id) _ hmem hb h1 h2;rw[hnh]at this;cases this
   ·obtain⟨_,hc⟩:=kO g3 _ hmem hb;have hbit:(Ku j dj (R.T j) (R.W j) tj).wm.testBit id=true:=by
     show (wQ tj.wm (R.W j).next).testBit id=true
     rw[gP,h2];simp[h1]
    rcases hc with hc|hc
    ·rw[hc]at hbit;simp at hbit
    ·cases ht:qo d.o.op (R.T i)with
     |none=>rw[ht]at hc;simp[offMask]at hc
     |some l=>rw[ht]at hc;rw[Zj hc (htch l ht)]at hbit;cases hbit
 ·have hne:j≠i:=fun e=>hr.new (e▸hD);obtain⟨vj,tj,hvj,hwj⟩:=hw;obtain⟨dj,hdj⟩:=vu (ds:=ds) hjn;obtain⟨_,_,k3,_⟩:=R.run j dj vj tj hdj hvj;have hb:dj.deps.testBit i=false:=by
   cases hb:dj.deps.testBit i with
   |false=>rfl
   |true=>exact absurd (hcl.dep j dj i hD hdj hb hr.lt) hr.new
  have hmem:=R.logged hS ok hd hv (i:=j) oM oM;have hle:=R.next_le hS ok (i:=i) (j:=j) oM oM;rcases hwj with ⟨h1,h2⟩|⟨h1,h2⟩
  ·omega
  ·obtain⟨hc,_⟩:=kO k3 _ hmem hb;have hbit:(wQ tj.wm (R.W j).next).testBit id=true:=by rw[gP,h2];simp[h1]
   rcases hc with hc|hc
   ·rw[hc]at hbit;simp at hbit
   ·have hc':offMask (wQ tj.wm (R.W j).next) (qo d.o.op (R.T i))=true:=hc
    cases ht:qo d.o.op (R.T i)with
    |none=>rw[ht]at hc';simp[offMask]at hc'
    |some l=>rw[ht]at hc';rw[Zj hc' (htch l ht)]at hbit;cases hbit
end
theorem zrR:∀{h:List (Nat×Nat)} {n id:Nat},(∀p∈h,p.2≤n)→n≤id→hid h id=false
 |[],_,_,_,_=>rfl
 |p::r,n,id,hp,hle=>by
  have h1:=hp p (by simp)
  simp only[hid];rw[show Nat.blt id p.2=false from zwO oM,zrR (fun q hq=>hp q (by simp[hq])) hle]
  cases zd p.1 id<;>rfl
theorem X7{deps n:Nat}{h:List (Nat×Nat)}:∀{log:List LogE},(∀p∈h,p.2≤n)→(∀e∈log,e.hi≤n)→∀p∈qr deps log h,p.2≤n
 |[],hh,_,p,hp=>hh p hp
 | e::r,hh,hl,p,hp=>by
  simp only[qr]at hp;cases hb:(za e.lo e.hi||deps.testBit e.idx)with
  |true=>rw[hb]at hp;simp only[cond_true]at hp;exact X7 hh (fun e' he'=>hl e' (by simp[he'])) p hp
  |false=>
   rw[hb]at hp;simp only[cond_false,List.mem_cons]at hp;rcases hp with rfl|hp
   ·exact hl e (by simp)
   ·exact X7 hh (fun e' he'=>hl e' (by simp[he'])) p hp
section
variable {E:Env}{S:Self}{ds:List DOper}{R:Tr E S ds}
theorem Tr.begWf(hS:ExtS S)(ok:R.Ok){i:Nat}(hi:i<ds.length)(d:DOper):Wf (qZ d (R.L i) (R.T i) (R.W i)):=by
 obtain⟨f1,f2,f3,f4,f5⟩:=R.facts hS ok i oM;exact⟨f2.lt,fun p hp=>X7 f2.hd f4 p hp⟩
theorem Tr.wr_seen(hS:ExtS S)(ok:R.Ok){i:Nat}(hi:i<ds.length){d:DOper}(hd:ds[i]? =some d)(h:R.wr i id):seen (qZ d (R.L i) (R.T i) (R.W i)) id=true:=by
 obtain⟨v,t,hv,h1⟩:=h;obtain⟨_,g2,_,_,_,g6⟩:=R.run i d v t hd hv;have hx:=jf hS g2;rcases h1 with ⟨h1,h2⟩|⟨h1,h2⟩
 ·have hh:=zrR (R.begWf hS ok hi d).hd (id:=id) h1;unfold seen;cases ht:qo d.o.op (R.T i)with
  |none=>simp only[qZ,ht,Option.map_none];simp only[qZ]at hh;rw[hh];rfl
  |some l=>
   simp only[qZ,ht,zY];simp only[qZ]at hh;rw[hh];rw[show zd (R.W i).next id=true from xR.2 h1];rfl
 ·rcases hx.wv id h1 h2 with h3|h3
  ·simp[qZ]at h3
  ·exact h3
theorem Tr.wr_order(hS:ExtS S)(ok:R.Ok){i k:Nat}(hik:i<k)(hk:k<ds.length){dk:DOper}(hdk:ds[k]? =some dk)(h1:R.wr i id)(h2:R.wr k id):dk.deps.testBit i=true:=by
 cases hb:dk.deps.testBit i with
 |true=>rfl
 | false=>
  exfalso
  have hsee:=R.wr_seen hS ok hk hdk h2;have hlt1:=R.wr_lt hS ok oM h1;have hle:=R.next_le hS ok (i:=i+1) (j:=k) oM oM;obtain⟨di,hdi⟩:=vu (ds:=ds) (i:=i) oM;obtain⟨vi,ti,hvi,hwi⟩:=h1;obtain⟨vk,tk,hvk,hwk⟩:=h2;obtain⟨_,_,k3,_⟩:=R.run k dk vk tk hdk hvk;have hmem:=R.logged hS ok hdi hvi (i:=k) hik oM;rcases hwi with ⟨q1,q2⟩|⟨q1,q2⟩
  ·have:=Yu (deps:=dk.deps) (h:=(R.W k).hide) (id:=id) _ hmem hb q1 q2;unfold seen at hsee;simp only[qZ]at hsee;split at hsee
   ·rw[this]at hsee;cases hsee
   ·rw[this]at hsee;cases hsee
  ·obtain⟨_,hc⟩:=kO k3 _ hmem hb;have hbit:(Ku i di (R.T i) (R.W i) ti).wm.testBit id=true:=by
    show (wQ ti.wm (R.W i).next).testBit id=true
    rw[gP,q2];simp[q1]
   rcases hc with hc|hc
   ·rw[hc]at hbit;simp at hbit
   ·cases ht:qo dk.o.op (R.T k)with
    |none=>rw[ht]at hc;simp[offMask]at hc
    | some l=>
     rw[ht]at hc;have hin:id∈l:=by
      unfold seen at hsee;simp only[qZ,ht,zY,zl,zm]at hsee;rcases hsee.2 with h3|h3
      ·rw[xR]at h3;omega
      ·rw[gN,yY]at h3;exact h3
     rw[Zj hc hin]at hbit;cases hbit
theorem Tr.curA_split(hS:ExtS S)(ok:R.Ok){D:Nat→Prop}(hcl:Closed ds D){i:Nat}(hr:Ready (ds:=ds) D i){m:Nat}(h:R.curA (more D i) id o m):
  (R.wr i id∧i<m∧(R.W (i+1)).objs.get id=some o)∨(¬R.wr i id∧R.curA D id o m):=by
 obtain⟨h0,hm,h1,h2,h3⟩:=h;by_cases hw:R.wr i id
 ·left
  have him:i<m:=by
   apply yO;intro hle;exact h2 i hle hr.lt hw (.inr rfl)
  refine⟨hw,him,?_⟩;rw[←h3];refine(R.keepN hS ok (i:=i+1) (j:=m) oM hm fun k hk1 hk2 hwk=>?_).symm;have hDk:D k:=(h1 k hk2 hwk).resolve_right oM;obtain⟨dk,hdk⟩:=vu (ds:=ds) (i:=k) oM;exact hr.new (hcl.dep k dk i hDk hdk (R.wr_order hS ok oM oM hdk hw hwk) hr.lt)
 ·right
  exact⟨hw,h0,hm,fun j hj hwj=>(h1 j hj hwj).resolve_right (fun e=>hw (e▸hwj)),fun j hj hjn hwj hD=>h2 j hj hjn hwj (.inl hD),h3⟩
theorem Tr.cur_split(hS:ExtS S)(ok:R.Ok){D:Nat→Prop}(hcl:Closed ds D){i:Nat}(hr:Ready (ds:=ds) D i)(h:R.cur (more D i) id o):
  (R.wr i id∧(R.W (i+1)).objs.get id=some o)∨(¬R.wr i id∧R.cur D id o):=by
 obtain⟨m,hA⟩:=R.A_of_cur h;rcases R.curA_split hS ok hcl hr hA with ⟨h1,_,h2⟩|⟨h1,h2⟩
 ·exact .inl ⟨h1,h2⟩
 ·exact .inr ⟨h1,R.cur_of_A h2⟩
end
section
variable {E:Env}{S:Self}{ds:List DOper}{R:Tr E S ds}
variable {P:Program}{w0:World}{φ0:Phi}{w00:World}{nt:Nat}{a0:Act}{D:Nat→Prop}{φ φ':Phi}{w w':World}{a:Act}{i:Nat}{d:DOper}{v:AV}{t:St}{x:Value}
def YO(ds:List DOper):Prop:=∀(j k:Nat) (dj dk:DOper),j<k→ds[j]? =some dj→ds[k]? =some dk→WT dj.o dk.o=true→dk.deps.testBit j=true
def zxg(ds:List DOper)(nt:Nat):Prop:=∀(j:Nat) (dj:DOper) (t:Nat),ds[j]? =some dj→dj.o.dst=some t→t<nt
theorem Inv.curA_of(hS:ExtS S)(ok:R.Ok)(hcl:Closed ds D)(hr:Ready (ds:=ds) D i)(hd:ds[i]? =some d)(hv:R.V i=some (v,t))(hg:(qZ d (R.L i) (R.T i) (R.W i)).get id=some o):R.curA D id o i:=by
 have h1:(qZ d (R.L i) (R.T i) (R.W i)).objs.get id=some o:=wa hg;obtain⟨f1,f2,_⟩:=R.facts hS ok i (by have:=hr.lt;omega)
 obtain⟨k1,k2,k3⟩:=R.sees hS ok hcl hr hd hv (qm hg) (f2.lt id o h1);exact⟨k1,yI hr.lt,k2,k3,h1⟩
theorem Inv.cur_of(hS:ExtS S)(ok:R.Ok)(hcl:Closed ds D)(hr:Ready (ds:=ds) D i)(hd:ds[i]? =some d)(hv:R.V i=some (v,t))(hg:(qZ d (R.L i) (R.T i) (R.W i)).get id=some o):R.cur D id o:=
 R.cur_of_A (Inv.curA_of hS ok hcl hr hd hv hg)
theorem Inv.rel(hS:ExtS S)(ok:R.Ok)(hcl:Closed ds D)(hr:Ready (ds:=ds) D i)(hd:ds[i]? =some d)(hv:R.V i=some (v,t))(inv:Inv R P w0 φ0 w00 nt a0 D φ w a):Rel P w0 (φ.cut (R.W i).next) (qZ d (R.L i) (R.T i) (R.W i)).get w:=by
 obtain⟨_,f2,_⟩:=R.facts hS ok i (by have:=hr.lt;omega)
 have hlt:∀{id o},(qZ d (R.L i) (R.T i) (R.W i)).get id=some o→id<(R.W i).next:=fun{id o} hg=>f2.lt id o (wa (s:=qZ d (R.L i) (R.T i) (R.W i)) hg)
 refine⟨inv.base,fun id o h=>?_,fun id B hB=>inv.rng id B (Phi.cut_some hB).2,fun id o B h hB=>inv.old id o B (Inv.cur_of hS ok hcl hr hd hv h) (Phi.cut_some hB).2,fun id id' o o' B B' h h' hB hB'=>inv.inj id id' o o' B B' (Inv.cur_of hS ok hcl hr hd hv h) (Inv.cur_of hS ok hcl hr hd hv h') (Phi.cut_some hB).2 (Phi.cut_some hB').2,inv.frz,fun id o B h hB=>inv.sep id o B (Inv.cur_of hS ok hcl hr hd hv h) (Phi.cut_some hB).2⟩;obtain⟨B,hB,ht⟩:=inv.obj id o i (Inv.curA_of hS ok hcl hr hd hv h);exact⟨B,(Phi.cut_lt φ (hlt h)).trans hB,ht⟩
theorem YX{p q:SOper}{k:Nat}(h:p.dst=some k)(hq:k∈q.names∨q.dst=some k):WT p q=true:=by
 have mem:∀{n:Nat} {l:List Nat},n∈l→Yy n l=true:=by
  intro n l
  induction l with
  |nil=>intro h;simp at h
  |cons m r ih=>
   intro h;simp only[Yy,zm];rcases List.mem_cons.1 h with rfl|h
   ·exact .inl (xT.2 rfl)
   ·exact .inr (ih h)
 unfold WT;rw[h];rcases hq with hq|hq
 ·simp[mem hq]
 ·simp[hq]
theorem VE{p q:SOper}{k:Nat}(h:q.dst=some k)(hp:k∈p.names):WT p q=true:=by
 have mem:∀{n:Nat} {l:List Nat},n∈l→Yy n l=true:=by
  intro n l
  induction l with
  |nil=>intro h;simp at h
  |cons m r ih=>
   intro h;simp only[Yy,zm];rcases List.mem_cons.1 h with rfl|h
   ·exact .inl (xT.2 rfl)
   ·exact .inr (ih h)
 unfold WT;rw[h];simp[mem hp]
theorem Inv.names(hck:YO ds)(hcl:Closed ds D)(hr:Ready (ds:=ds) D i)(hd:ds[i]? =some d)(inv:Inv R P w0 φ0 w00 nt a0 D φ w a):TmOn (φ.cut (R.W i).next) d.o.names (R.T i) a:=by
 intro k hk u hu;refine inv.tmp k u i (by have:=hr.lt;omega) (fun j hj hw=>?_) (fun j hj hjn hw hD=>?_) hu
 ·obtain⟨dj,hdj,hdst⟩:=hw;exact hr.deps d j hd (hck j i dj d hj hdj hd (YX hdst (.inl hk))) (by have:=hr.lt;omega)
 ·obtain⟨dj,hdj,hdst⟩:=hw;have hne:j≠i:=fun e=>hr.new (e▸hD);exact hr.new (hcl.dep j dj i hD hdj (hck i j d dj oM hd hdj (VE hdst hk)) hr.lt)
theorem Inv.tmp_step(hck:YO ds)(hdo:zxg ds nt)(hcl:Closed ds D)(hr:Ready (ds:=ds) D i)(hd:ds[i]? =some d)(inv:Inv R P w0 φ0 w00 nt a0 D φ w a)(hS:ExtS S)(ok:R.Ok)(hsub:Sub φ φ')(hT:R.T (i+1)=qC (R.T i) d.o.dst v)(hTn:∀j dj,ds[j]? =some dj→∀k,dj.o.dst≠some k→(R.T (j+1)).get k=(R.T j).get k)(hx:VR (φ'.cut (R.W (i+1)).next) v x):
  ∀k u m,m≤ds.length→(∀j,j<m→wt ds j k→more D i j)→(∀j,m≤j→j<ds.length→wt ds j k→¬more D i j)→(R.T m).get k=some u→VR (φ'.cut (R.W m).next) u ((a.put d.o.dst x).tmps.getD k undef):=by
 intro k u m hm h1 h2 hu;by_cases hk:d.o.dst=some k
 ·have hwi:wt ds i k:=⟨d,hd,hk⟩;have him:i<m:=by
   apply yO;intro hle;exact h2 i hle hr.lt hwi (.inr rfl)
  have key:∀q,i+1≤q→q≤m→(R.T q).get k=(R.T (i+1)).get k:=by
   intro q
   induction q with
   |zero=>intro h;omega
   | succ q ih=>
    intro hq1 hq2;by_cases e:q=i
    ·subst e;rfl
    ·obtain⟨dq,hdq⟩:=vu (ds:=ds) (i:=q) oM;rw[hTn q dq hdq k (fun hdst=>?_)]
     ·exact ih oM oM
     ·have hDq:D q:=(h1 q oM ⟨dq,hdq,hdst⟩).resolve_right e;exact hr.new (hcl.dep q dq i hDq hdq (hck i q d dq oM hd hdq (YX hk (.inr hdst))) hr.lt)
  rw[key m oM (zo _),hT,hk]at hu;simp only[qC,Trie.get_set_same,Option.some.injEq]at hu;subst hu;rw[hk];have hlt:k<a.tmps.size:=by rw[inv.size];exact hdo i d k hd hk
  simp only[Act.put];rw[p8 _ _ _ _ hlt,if_pos rfl];exact VR.mono (Sub.cut (Sub.refl _) (R.next_le hS ok him hm)) _ _ hx
 ·have hput:(a.put d.o.dst x).tmps.getD k undef=a.tmps.getD k undef:=by
   cases hdst:d.o.dst with
   |none=>rfl
   |some e=>
    simp only[Act.put];have hlt:e<a.tmps.size:=by rw[inv.size];exact hdo i d e hd hdst
    rw[p8 _ _ _ _ hlt,if_neg (fun h=>hk (by rw[hdst,h]))]
  rw[hput];have hni:¬wt ds i k:=fun⟨d',hd',hk'⟩=>by rw[hd]at hd';cases hd';exact hk hk'
  exact VR.mono (hsub.cut (zo _)) _ _ (inv.tmp k u m hm (fun j hj hw=>(h1 j hj hw).resolve_right (fun e=>hni (e▸hw))) (fun j hj hjn hw hD=>h2 j hj hjn hw (.inl hD)) hu)
theorem Tr.T_other{j:Nat}{dj:DOper}(hdj:ds[j]? =some dj){k:Nat}(hk:dj.o.dst≠some k):(R.T (j+1)).get k=(R.T j).get k:=by
 have:∀u,(qC (R.T j) dj.o.dst u).get k=(R.T j).get k:=fun u=>by
  cases hdst:dj.o.dst with
  |none=>rfl
  |some e=>simp only[qC];exact Trie.get_set_ne _ _ (fun h=>hk (by rw[hdst,h]))
 cases hv:R.V j with
 |none=>obtain⟨_,_,g3,_⟩:=R.skip j dj hdj hv;rw[g3];exact this _
 |some p=>obtain⟨_,_,_,_,g5,_⟩:=R.run j dj p.1 p.2 hdj hv;rw[g5];exact this _
end
section
variable {E:Env}{S:Self}{ds:List DOper}{R:Tr E S ds}
variable {P:Program}{w0:World}{φ0:Phi}{w00:World}{nt:Nat}{a0:Act}{D:Nat→Prop}{φ φ':Phi}{w w':World}{a:Act}{i:Nat}{d:DOper}{v:AV}{t:St}{x:Value}
theorem kG(dst:Option Nat):(a.put dst x).tmps.size=a.tmps.size∧(a.put dst x).defers=a.defers:=by
 cases dst<;>simp[Act.put]
theorem Inv.skip(hS:ExtS S)(ok:R.Ok)(hck:YO ds)(hdo:zxg ds nt)(hcl:Closed ds D)(hr:Ready (ds:=ds) D i)(hd:ds[i]? =some d)(hv:R.V i=none)(inv:Inv R P w0 φ0 w00 nt a0 D φ w a):
  Inv R P w0 φ0 w00 nt a0 (more D i) φ w (a.put d.o.dst undef):=by
 have hnw:∀id,¬R.wr i id:=fun id ⟨_,_,h,_⟩=>by rw[hv]at h;cases h
 have hcur:∀{id o},R.cur (more D i) id o→R.cur D id o:=fun{id o} h=>by
  rcases R.cur_split hS ok hcl hr h with ⟨h1,_⟩|⟨_,h1⟩
  ·exact absurd h1 (hnw id)
  ·exact h1
 have hcurA:∀{id o m},R.curA (more D i) id o m→R.curA D id o m:=fun{id o m} h=>by
  rcases R.curA_split hS ok hcl hr h with ⟨h1,_⟩|⟨_,h1⟩
  ·exact absurd h1 (hnw id)
  ·exact h1
 obtain⟨_,_,g3,_⟩:=R.skip i d hd hv
 exact⟨inv.base,fun id o m h=>inv.obj id o m (hcurA h),inv.rng,fun id o B h=>inv.old id o B (hcur h),fun id id' o o' B B' h h'=>inv.inj id id' o o' B B' (hcur h) (hcur h'),inv.out,fun j hj hD=>inv.fresh j hj (fun h=>hD (.inl h)),
  inv.tmp_step hck hdo hcl hr hd hS ok (Sub.refl _) g3 (fun j dj hdj k hk=>R.T_other hdj hk) (ZV _),(kG _).1.trans inv.size,(kG _).2.trans inv.df,inv.grow,inv.own,inv.frame,inv.frz,fun id o B h=>inv.sep id o B (hcur h),inv.zsub,inv.zown⟩
theorem Inv.run(hS:ExtS S)(ok:R.Ok)(hck:YO ds)(hdo:zxg ds nt)(hcl:Closed ds D)(hr:Ready (ds:=ds) D i)(hd:ds[i]? =some d)(hv:R.V i=some (v,t))(inv:Inv R P w0 φ0 w00 nt a0 D φ w a)
  {ψ:Phi} (st:Step P w0 (φ.cut (R.W i).next) (qZ d (R.L i) (R.T i) (R.W i)) w ψ t w') (hx:VR ψ v x):Inv R P w0 φ0 w00 nt a0 (more D i) (φ.merge (R.W i).next (R.W (i+1)).next ψ) w' (a.put d.o.dst x):=by
 obtain⟨_,g2,_,_,g5,g6⟩:=R.run i d v t hd hv;obtain⟨f1,f2,f3,f4,f5⟩:=R.facts hS ok i (yI hr.lt);have hnx:(R.W (i+1)).next=t.next:=by rw[g6]
 have hob:(R.W (i+1)).objs=t.objs:=by rw[g6]
 have hn0:=R.next_le hS ok (i:=0) (j:=i) (zK _) (yI hr.lt);have hn1:=R.next_le hS ok (i:=i) (j:=i+1) (Nat.le_succ _) hr.lt;have hnN:=R.next_le hS ok (i:=i+1) (j:=ds.length) hr.lt (zo _);have hniN:=R.next_le hS ok (i:=i) (j:=ds.length) (yI hr.lt) (zo _);obtain⟨φ',hφ'⟩:∃φ',φ'=φ.merge (R.W i).next (R.W (i+1)).next ψ:=⟨_,rfl⟩
 have hlow:∀{id},id<(R.W i).next→ψ id=φ id:=fun{id} h=>(st.same id (.inl h)).trans (Phi.cut_lt φ h)
 have hhigh:∀{id},(R.W (i+1)).next≤id→ψ id=none:=fun{id} h=>(st.same id (.inr (hnx▸h))).trans (Phi.cut_ge φ oM)
 have hin:∀{id},id<(R.W (i+1)).next→φ' id=ψ id:=fun{id} h=>by
  rw[hφ'];by_cases h1:id<(R.W i).next
  ·rw[Phi.merge_out _ _ (.inl h1)];exact(hlow h1).symm
  ·exact Phi.merge_in _ _ ⟨oM,h⟩
 have hout:∀{id},(id<(R.W i).next∨(R.W (i+1)).next≤id)→φ' id=φ id:=fun{id} h=>by rw[hφ'];exact Phi.merge_out _ _ h
 have hz':φ'.z=ψ.z:=by rw[hφ'];rfl
 have hsub:Sub φ φ':=⟨fun id B hB=>by
  by_cases h:(R.W i).next≤id∧id<(R.W (i+1)).next
  ·rw[inv.fresh i hr.lt hr.new id h.1 h.2]at hB;cases hB
  ·rw[hout oM];exact hB,fun b o v hzv=>by rw[hz'];exact st.zsub b o v hzv⟩
 have hsubψ:Sub ψ φ':=⟨fun id B hB=>by
  have hlt:id<(R.W (i+1)).next:=by apply yO;intro hle;rw[hhigh hle]at hB;cases hB
  rw[hin hlt];exact hB,fun b o v hzv=>by rw[hz'];exact hzv⟩
 have hψc:∀{m},i+1≤m→m≤ds.length→Sub ψ (φ'.cut (R.W m).next):=fun{m} h1 h2=>hsubψ.to_cut fun id hid=>hhigh (zr (R.next_le hS ok h1 h2) hid)
 have hget:∀{id o},R.wr i id→(R.W (i+1)).objs.get id=some o→t.get id=some o:=fun{id o} hw ho=>by
  rw[uF,qY st.ext.hide st.ext.only,R.wr_seen hS ok hr.lt hd hw,←hob];exact ho
 have hsame:∀{id},¬R.wr i id→φ' id=φ id:=fun{id} hw=>by
  apply hout;by_cases h1:id<(R.W i).next
  ·exact .inl h1
  ·right;apply yS;intro h2;exact hw ⟨v,t,hv,.inl ⟨oM,oM⟩⟩
 have hold:∀{id o},R.wr i id→t.objs.get id=some o→id<(R.W i).next→∃o',R.cur D id o'∧φ' id=φ id:=fun{id o} hw ho hlt=>by
  obtain⟨o',ho'⟩:=st.ext.vis id o hlt ho;have hg:(qZ d (R.L i) (R.T i) (R.W i)).get id=some o':=by rw[uF,R.wr_seen hS ok hr.lt hd hw];exact ho'
  exact⟨o',Inv.cur_of hS ok hcl hr hd hv hg,hout (.inl hlt)⟩
 have hbits:∀{id o},(qZ d (R.L i) (R.T i) (R.W i)).get id=some o→t.wm.testBit id=true→R.wr i id:=fun{id o} hg hb=>⟨v,t,hv,.inr ⟨f2.lt id o (wa (s:=qZ d (R.L i) (R.T i) (R.W i)) hg),hb⟩⟩;have hwlt:∀{id},R.wr i id→id<(R.W (i+1)).next:=fun{id} hw=>R.wr_lt hS ok hr.lt hw
 have hmix:∀{id id' o o' B B'},R.wr i id→(R.W (i+1)).objs.get id=some o→¬R.wr i id'→R.cur D id' o'→φ' id=some B→φ' id'=some B'→B.b=B'.b→id=id'∨B.b<w0.heap.size:=fun{id id' o o' B B'} hw ho hw' hc' hB hB' e=>by
  rw[hsame hw']at hB';by_cases hlt:id<(R.W i).next
  ·obtain⟨o1,hc,hp⟩:=hold hw (by rw[←hob];exact ho) hlt
   exact inv.inj id id' o1 o' B B' hc hc' (hp▸hB) hB' e
  ·have hlt2:=hwlt hw;rw[hin hlt2]at hB;rcases st.own id B (yS hlt) (hnx▸hlt2) hB with h1|⟨id0,o0,B0,q1,q2,q3,q4⟩
   ·have:=(inv.rng id' B' hB');omega
   ·have hc0:=Inv.cur_of hS ok hcl hr hd hv q1;rcases inv.inj id0 id' o0 o' B0 B' hc0 hc' (Phi.cut_some q2).2 hB' (q3.trans e)with he|he
    ·subst he;exact absurd (hbits q1 q4) hw'
    ·exact .inr (q3▸he)
 rw[←hφ'];refine⟨st.rel.base,?_,?_,?_,?_,?_,?_,inv.tmp_step hck hdo hcl hr hd hS ok hsub g5 (fun j dj hdj k hk=>R.T_other hdj hk) (VR.mono (hψc (zo _) hr.lt) _ _ hx),(kG _).1.trans inv.size,(kG _).2.trans inv.df,zr inv.grow st.size,?_,?_,?_,?_,?_,?_⟩
 ·intro id o m h;rcases R.curA_split hS ok hcl hr h with ⟨hw,him,ho⟩|⟨hw,hc⟩
  ·obtain⟨B,hB,ht⟩:=st.rel.obj id o (hget hw ho);exact⟨B,hsubψ.of _ _ hB,ht.keep (hψc him h.2.1) rfl⟩
  ·obtain⟨B,hB,ht⟩:=inv.obj id o m hc;refine⟨B,hsub.of _ _ hB,ht.keep (hsub.cut (zo _)) (st.frame B.b (inv.rng id B hB) fun id2 o2 B2 q1 q2 q3=>?_)⟩;cases hb:t.wm.testBit id2 with
   |false=>rfl
   |true=>
    have q2':=(Phi.cut_some q2).2;rcases inv.inj id2 id o2 o B2 B (Inv.cur_of hS ok hcl hr hd hv q1) (R.cur_of_A hc) q2' hB q3 with he|he
    ·subst he;exact absurd (hbits q1 hb) hw
    ·have hgo:=wa (s:=qZ d (R.L i) (R.T i) (R.W i)) q1;have:=st.ext.giv id2 o2 (f2.lt id2 o2 hgo) hgo (inv.old id2 o2 B2 (Inv.cur_of hS ok hcl hr hd hv q1) q2' he) hb;simp[qZ]at this
 ·intro id B hB;by_cases h:id<(R.W (i+1)).next
  ·rw[hin h]at hB;exact st.rel.rng id B hB
  ·rw[hout oM]at hB;have:=inv.rng id B hB;have:=st.size;omega
 ·intro id o B h hB hlt;rcases R.cur_split hS ok hcl hr h with ⟨hw,ho⟩|⟨hw,hc⟩
  ·exact st.rel.old id o B (hget hw ho) (hin (hwlt hw)▸hB) hlt
  ·exact inv.old id o B hc (hsame hw▸hB) hlt
 ·intro id id' o o' B B' h h' hB hB' e;rcases R.cur_split hS ok hcl hr h with ⟨hw,ho⟩|⟨hw,hc⟩<;>rcases R.cur_split hS ok hcl hr h' with ⟨hw',ho'⟩|⟨hw',hc'⟩
  ·exact st.rel.inj id id' o o' B B' (hget hw ho) (hget hw' ho') (hin (hwlt hw)▸hB) (hin (hwlt hw')▸hB') e
  ·exact hmix hw ho hw' hc' hB hB' e
  ·exact(hmix hw' ho' hw hc hB' hB e.symm).elim (fun h=>.inl h.symm) (fun h=>.inr oM)
  ·exact inv.inj id id' o o' B B' hc hc' (hsame hw▸hB) (hsame hw'▸hB') e
 ·intro id h;rw[hout (by
   rcases h with h|h
   ·left;omega
   ·right;omega)]
  exact inv.out id h
 ·intro j hj hD id h1 h2;have hji:j≠i:=fun e=>hD (.inr e);have hDj:¬D j:=fun h=>hD (.inl h);rw[hout ?_]
  ·exact inv.fresh j hj hDj id h1 h2
  ·by_cases hlt:j<i
   ·left
    have:=R.next_le hS ok (i:=j+1) (j:=i) hlt (yI hr.lt);omega
   ·right
    have:=R.next_le hS ok (i:=i+1) (j:=j) oM (yI hj);omega
 ·intro id B h1 h2 hB;by_cases hrange:(R.W i).next≤id∧id<(R.W (i+1)).next
  ·rw[hin hrange.2]at hB;rcases st.own id B hrange.1 (hnx▸hrange.2) hB with h3|⟨id0,o0,B0,q1,q2,q3,q4⟩
   ·exact .inl (zr inv.grow h3)
   ·have q2':=(Phi.cut_some q2).2;have hlt0:id0<(R.W i).next:=f2.lt id0 o0 (wa (s:=qZ d (R.L i) (R.T i) (R.W i)) q1)
    by_cases hl:id0<(R.W 0).next
    ·obtain⟨o1,ho1⟩:=f5.vis id0 o0 hl (wa (s:=qZ d (R.L i) (R.T i) (R.W i)) q1);have hs:=(Inv.cur_of hS ok hcl hr hd hv q1).1 hl;refine .inr ⟨id0,o1,B0,by rw[uF,hs];exact ho1,?_,q3,R.wm_run hS ok hr.lt hv q4⟩
     rw[←inv.out id0 (.inl hl)];exact q2'
    ·rcases inv.own id0 B0 (yS hl) oM q2' with h4|⟨id1,o1,B1,r1,r2,r3,r4⟩
     ·exact .inl (q3▸h4)
     ·exact .inr ⟨id1,o1,B1,r1,r2,r3.trans q3,r4⟩
  ·rw[hout oM]at hB;exact inv.own id B h1 h2 hB
 ·intro b hb H;refine(st.frame b (Nat.lt_of_lt_of_le hb inv.grow) fun id o B q1 q2 q3=>?_).trans (inv.frame b hb H);have q2':=(Phi.cut_some q2).2;cases hbit:t.wm.testBit id with
  |false=>rfl
  | true=>
   exfalso
   have hwN:=R.wm_run hS ok hr.lt hv hbit;have hlt0:id<(R.W i).next:=f2.lt id o (wa (s:=qZ d (R.L i) (R.T i) (R.W i)) q1)
   by_cases hl:id<(R.W 0).next
   ·obtain⟨o1,ho1⟩:=f5.vis id o hl (wa (s:=qZ d (R.L i) (R.T i) (R.W i)) q1);have hs:=(Inv.cur_of hS ok hcl hr hd hv q1).1 hl;have:=H id o1 B (by rw[uF,hs];exact ho1) (by rw[←inv.out id (.inl hl)];exact q2') q3
    rw[hwN]at this;cases this
   ·rcases inv.own id B (yS hl) oM q2' with h4|⟨id1,o1,B1,r1,r2,r3,r4⟩
    ·omega
    ·have:=H id1 o1 B1 r1 r2 (r3.trans q3);rw[r4]at this;cases this
 ·intro b o u hu;rw[hz']at hu;exact st.rel.frz b o u hu
 ·intro id o B h hB;rw[hz'];rcases R.cur_split hS ok hcl hr h with ⟨hw,ho⟩|⟨hw,hc⟩
  ·exact st.rel.sep id o B (hget hw ho) (hin (hwlt hw)▸hB)
  ·rw [hsame hw]at hB;have h0:=inv.sep id o B hc hB;cases hgv:qG o with
   |true=>cases o<;>first|trivial|(cases hgv;done)
   | false=>
    refine h0.congr fun k=>?_;cases hk:ψ.z B.b k with
    |none=>
     cases hk2:φ.z B.b k with
     |none=>rfl
     |some u=>have h9:=st.zsub B.b k u hk2;rw[hk]at h9;cases h9
    | some u=>
     rcases st.zown B.b k u hk with h1|h1|⟨id0,o0,B0,q1,q2,q3,q4⟩
     ·exact h1.symm
     ·have:=inv.rng id B hB;omega
     ·exfalso
      rcases inv.inj id0 id o0 o B0 B (Inv.cur_of hS ok hcl hr hd hv q1) hc (Phi.cut_some q2).2 hB q3 with he|he
      ·subst he;exact hw (hbits q1 q4)
      ·rw[inv.old id o B hc hB oM]at hgv;cases hgv
 ·intro b o u hu;rw[hz'];exact st.zsub b o u (inv.zsub b o u hu)
 ·intro b o u hu;rw[hz']at hu;rcases st.zown b o u hu with h1|h1|⟨id0,o0,B0,q1,q2,q3,q4⟩
  ·exact inv.zown b o u h1
  ·exact .inr (.inl (zr inv.grow h1))
  ·have q2':=(Phi.cut_some q2).2;have hlt0:id0<(R.W i).next:=f2.lt id0 o0 (wa (s:=qZ d (R.L i) (R.T i) (R.W i)) q1)
   by_cases hl:id0<(R.W 0).next
   ·obtain⟨o1,ho1⟩:=f5.vis id0 o0 hl (wa (s:=qZ d (R.L i) (R.T i) (R.W i)) q1);have hs:=(Inv.cur_of hS ok hcl hr hd hv q1).1 hl;refine .inr (.inr ⟨id0,o1,B0,by rw[uF,hs];exact ho1,?_,q3,R.wm_run hS ok hr.lt hv q4⟩)
    rw[←inv.out id0 (.inl hl)];exact q2'
   ·rcases inv.own id0 B0 (yS hl) oM q2' with h4|⟨id1,o1,B1,r1,r2,r3,r4⟩
    ·exact .inr (.inl (q3▸h4))
    ·exact .inr (.inr ⟨id1,o1,B1,r1,r2,r3.trans q3,r4⟩)
end
theorem KG:∀{l:List Nat} {i k d:Nat},Wi i l=true→l[k]? =some d→∀j,d.testBit j=true→j<i+k
 |[],_,k,d,_,h,_,_=>by simp at h
 |x::r,i,0,d,h,hd,j,hb=>by
  simp only[Wi,zl,wi]at h;simp only[yN,Option.some.injEq]at hd;subst hd;apply yO;intro hle;have h1:x<2^j:=Nat.lt_of_lt_of_le h.1 (Nat.pow_le_pow_right oM oM);rw[Nat.testBit_lt_two_pow h1]at hb;cases hb
 |x::r,i,k+1,d,h,hd,j,hb=>by
  simp only[Wi,zl]at h;have:=KG (k:=k) h.2 (by simpa using hd) j hb
  omega
theorem Qf{i:Nat}{p:SOper}:∀{l:List SOper} {ds:List Nat} {k:Nat} {q:SOper} {d:Nat},ZR i p l ds=true→l[k]? =some q→ds[k]? =some d→WT p q=true→d.testBit i=true
 |[],_,k,q,d,_,h,_,_=>by simp at h
 |b::r,[],k,q,d,h,_,_,_=>by simp[ZR]at h
 |b::r,x::xs,0,q,d,h,hq,hd,hc=>by
  simp only[yN,Option.some.injEq]at hq hd;subst hq;subst hd;simp only[ZR,zl,zm,Bool.not_eq_true']at h;rcases h.1 with h1|h1
  ·rw[hc]at h1;cases h1
  ·exact h1
 |b::r,x::xs,k+1,q,d,h,hq,hd,hc=>by
  simp only[ZR,zl]at h;exact Qf (k:=k) h.2 (by simpa using hq) (by simpa using hd) hc
theorem KF:∀{l:List SOper} {ds:List Nat} {i j k:Nat} {p q:SOper} {d:Nat},UD i l ds=true→j<k→l[j]? =some p→l[k]? =some q→ds[k]? =some d→WT p q=true→d.testBit (i+j)=true
 |[],_,i,j,k,p,q,d,_,_,h,_,_,_=>by simp at h
 |a::r,[],i,j,k,p,q,d,h,_,_,_,_,_=>by simp[UD]at h
 |a::r,x::xs,i,j,0,p,q,d,h,hjk,hp,hq,hd,hc=>by omega
 |a::r,x::xs,i,0,k+1,p,q,d,h,hjk,hp,hq,hd,hc=>by
  simp only[yN,Option.some.injEq]at hp;subst hp;simp only[UD,zl]at h;exact Qf (k:=k) h.1 (by simpa using hq) (by simpa using hd) hc
 |a::r,x::xs,i,j+1,k+1,p,q,d,h,hjk,hp,hq,hd,hc=>by
  simp only[UD,zl]at h;have:=KF (j:=j) (k:=k) h.2 oM (by simpa using hp) (by simpa using hq) (by simpa using hd) hc
  rw[show i+(j+1)=i+1+j by omega];exact this
theorem ZP:∀{l:List SOper} {ds:List Nat} {i:Nat} {d:DOper},(mkD l ds)[i]? =some d↔l[i]? =some d.o∧ds[i]? =some d.deps
 |[],ds,i,d=>by simp[mkD]
 |a::r,[],i,d=>by simp[mkD]
 |a::r,x::xs,0,d=>by
  simp only[mkD,yN,Option.some.injEq];constructor
  ·rintro rfl;exact⟨rfl,rfl⟩
  ·rintro⟨rfl,rfl⟩;rfl
 |a::r,x::xs,i+1,d=>by simp only[mkD,yP];exact ZP
theorem Uy:∀{l:List SOper} {ds:List Nat},l.length=ds.length→(mkD l ds).length=l.length
 |[],ds,_=>by simp[mkD]
 |a::r,[],h=>by simp at h
 |a::r,x::xs,h=>by simp only[mkD,List.length_cons];rw[Uy (by simpa using h)]
theorem zxn{P:Program}{nt:Nat}{ops:Array Oper}:∀{rs:List Oper} {l:List SOper},cSs P nt ops rs=some l→l.length=rs.length∧∀(i:Nat) (o:Oper),rs[i]? =some o→∃so,l[i]? =some so∧cS P nt ops o=some so
 |[],l,h=>by simp[cSs]at h;subst h;exact⟨rfl,(fun i o h=>by simp at h)⟩
 | r::rs,l,h=>by
  simp only[cSs]at h;split at h
  ·rename_i a l' h1 h2
   simp only[Option.some.injEq]at h;subst h;obtain⟨k1,k2⟩:=zxn h2;refine⟨by simp[k1],fun i o ho=>?_⟩
   cases i with
   |zero=>simp only[yN,Option.some.injEq]at ho;subst ho;exact⟨a,by simp,h1⟩
   |succ i=>obtain⟨so,k3,k4⟩:=k2 i o (by simpa using ho);exact⟨so,by simpa using k3,k4⟩
  ·cases h
theorem JO{acc:List Nat}{j:Nat}:∀{es:List Edge} {s0:Nat},(es.foldl (fun s e=>bif Region.binds .any e then s|||2^e.on|||acc.getD e.on 0 else s) s0).testBit j=true→s0.testBit j=true∨∃e∈es,Region.binds .any e=true∧(j=e.on∨(acc.getD e.on 0).testBit j=true)
 |[],s0,h=>.inl h
 | e::r,s0,h=>by
  rw[List.foldl_cons]at h;rcases JO h with h1|⟨e',he',h2⟩
  ·cases hb:Region.binds .any e with
   |false=>rw[hb]at h1;exact .inl h1
   |true=>
    rw[hb]at h1;simp only[cond_true,yG,zm]at h1;rcases h1 with (h1|h1)|h1
    ·exact .inl h1
    ·rw[Nat.testBit_two_pow]at h1;exact .inr ⟨e,by simp,hb,.inl (by simpa using (of_decide_eq_true h1).symm)⟩
    ·exact .inr ⟨e,by simp,hb,.inr h1⟩
  ·exact .inr ⟨e',by simp[he'],h2⟩
theorem JP{acc:List Nat}:∀{es:List Edge} {s0:Nat},(∀j,s0.testBit j=true→(es.foldl (fun s e=>bif Region.binds .any e then s|||2^e.on|||acc.getD e.on 0 else s) s0).testBit j=true)∧∀e∈es,Region.binds .any e=true→(es.foldl (fun s e=>bif Region.binds .any e then s|||2^e.on|||acc.getD e.on 0 else s) s0).testBit e.on=true
 |[],s0=>⟨fun j h=>h,fun e he=>by simp at he⟩
 | x::r,s0=>by
  simp only[List.foldl_cons];obtain⟨h1,h2⟩:=JP (acc:=acc) (es:=r) (s0:=bif Region.binds .any x then s0|||2^x.on|||acc.getD x.on 0 else s0)
  refine⟨fun j hj=>h1 j ?_,fun e he hb=>?_⟩
  ·cases Region.binds .any x with
   |false=>exact hj
   |true=>simp only[cond_true,yG,hj,Bool.true_or]
  ·rcases List.mem_cons.1 he with rfl|he
   ·apply h1;rw[hb];simp only[cond_true,yG,Nat.testBit_two_pow_self,Bool.or_true,Bool.true_or]
   ·exact h2 e he hb
theorem VP:∀{l:List Oper} {acc:List Nat},(kf l acc).length=acc.length+l.length∧(∀k,k<acc.length→(kf l acc)[k]? =acc[k]?)∧
  ∀(i:Nat) (o:Oper),l[i]? =some o→∃acc':List Nat,(kf l acc)[acc.length+i]? =some (zsr acc' o.after.toList)∧acc'.length=acc.length+i∧∀k,k<acc'.length→acc'[k]? =(kf l acc)[k]?
 |[],acc=>⟨by simp[kf],fun k _=>rfl,fun i o h=>by simp at h⟩
 | x::r,acc=>by
  simp only[kf];obtain⟨h1,h2,h3⟩:=VP (l:=r) (acc:=acc++[zsr acc x.after.toList]);refine⟨by rw[h1];simp;omega,fun k hk=>?_,fun i o ho=>?_⟩
  ·rw[h2 k (by simp;omega),ym hk]
  ·cases i with
   |zero=>
    simp only[yN,Option.some.injEq]at ho;subst ho;refine⟨acc,?_,by simp,fun k hk=>?_⟩
    ·rw[h2 _ (by simp)];simp
    ·rw[h2 k (by simp;omega),ym hk]
   |succ i=>
    obtain⟨acc',k1,k2,k3⟩:=h3 i o (by simpa using ho)
    refine⟨acc',?_,by rw[k2];simp;omega,k3⟩
    rw[←k1];congr 1;simp;omega
theorem XM{nt:Nat}{ops:Array Oper}{ds:List DOper}(h:WJ P nt ops=some ds):
  ds.length=ops.size∧YO ds∧zxg ds nt∧(∀(i:Nat) (d:DOper),ds[i]? =some d→∃o,ops[i]? =some o∧cS P nt ops o=some d.o∧(∀j,d.deps.testBit j=true→j<i)∧(∀e∈o.after,Region.binds .any e=true→e.on<i)∧
   ∀j,d.deps.testBit j=true→∃e∈o.after,Region.binds .any e=true∧(j=e.on∨∃d',ds[e.on]? =some d'∧d'.deps.testBit j=true)):=by
 unfold WJ at h;split at h
 ·rename_i l hl
  simp only at h;cases hb:(UD 0 l (kf ops.toList [])&&Wi 0 (kf ops.toList []))with
  |false=>rw[hb]at h;simp at h
  | true=>
   rw[hb]at h;simp only[cond_true,Option.some.injEq]at h;subst h;rw[zl]at hb;obtain⟨k1,k2⟩:=zxn hl;obtain⟨d1,_,d3⟩:=VP (l:=ops.toList) (acc:=[]);simp only[List.length_nil,yC]at d1 d3;have hlen:l.length=(kf ops.toList []).length:=by rw[k1,d1]
   have hget:∀(i:Nat) (d:DOper),(mkD l (kf ops.toList []))[i]? =some d→∃o,ops[i]? =some o∧cS P nt ops o=some d.o:=fun i d hd=>by
    obtain⟨q1,q2⟩:=ZP.1 hd;have hlt:i<l.length:=by
     apply yO;intro hle;rw[yb hle]at q1;cases q1
    have ho:ops.toList[i]? =some ops.toList[i]:=by rw[yv]
    obtain⟨so,k3,k4⟩:=k2 i _ ho;rw[q1]at k3;cases k3;exact⟨_,by rw[←zu];exact ho,k4⟩
   refine⟨by rw[Uy hlen,k1];simp,?_,?_,?_⟩
   ·intro j k dj dk hjk hj hk hc;obtain⟨q1,q2⟩:=ZP.1 hj;obtain⟨q3,q4⟩:=ZP.1 hk;have:=KF hb.1 hjk q1 q3 q4 hc;rw[yC]at this;exact this
   ·intro j dj t hj ht;obtain⟨o,_,ho⟩:=hget j dj hj;obtain⟨_,_,h3,h4⟩:=Vm ho;exact h4 t (by rw[←h3];exact ht)
   ·intro i d hd;obtain⟨o,ho,hcs⟩:=hget i d hd;obtain⟨q1,q2⟩:=ZP.1 hd;have hback:∀j,d.deps.testBit j=true→j<i:=fun j hj=>by
     have:=KG hb.2 q2 j hj;omega
    obtain⟨acc',r1,r2,r3⟩:=d3 i o (by rw[zu];exact ho)
    rw[q2]at r1;simp only[Option.some.injEq]at r1;refine⟨o,ho,hcs,hback,fun e he hbd=>hback _ (by rw[r1];exact JP.2 e (by simpa using he) hbd),fun j hj=>?_⟩
    rw[r1]at hj;rcases JO hj with h0|⟨e,he,hbd,hor⟩
    ·simp at h0
    ·refine⟨e,by simpa using he,hbd,?_⟩
     rcases hor with h1|h1
     ·exact .inl h1
     ·right
      have hlt:e.on<acc'.length:=by
       apply yO;intro hle;rw[yU,yb hle]at h1;simp at h1
      have hlt2:e.on<l.length:=by
       have hi:i<l.length:=by apply yO;intro hle;rw[yb hle]at q1;cases q1
       omega
      refine⟨⟨l[e.on],acc'[e.on]⟩,ZP.2 ⟨yv hlt2,?_⟩,?_⟩
      ·rw[←r3 _ hlt,yv hlt]
      ·rw[yU,yv hlt]at h1;simpa using h1
 ·cases h
def LD(listed:Array Bool)(i:Nat):Prop:=listed.getD i false=true
theorem ztw{listed:Array Bool}{i:Nat}(h:i<listed.size):LD (listed.setIfInBounds i true)=more (LD listed) i:=by
 funext j
 unfold LD more;simp only[yH,Array.getElem?_setIfInBounds];by_cases e:i=j
 ·subst e;simp[h]
 ·rw[if_neg e];simp[Ne.symm e]
theorem zst(hS:SelfOk P w0 S)(hG:xS E.globs w0){ops:Array Oper}{ds:List DOper}{nt:Nat}(hc:WJ P nt ops=some ds){R:Tr E S ds}(ok:R.Ok){φ0:Phi}{w00:World}{a0:Act}{F:Fence}(hF:Wide F){Q:Exit→Act→World→Prop}
  (hQ:∀φ w a,Inv R P w0 φ0 w00 nt a0 (fun i=>i<ds.length) φ w a→Q .normal a w):
  ∀(fuel:Nat) (listed:Array Bool) (φ:Phi) (w:World) (a:Act) (u:List Nat),listed.size=ops.size→u.length≤fuel→(∀i,i<ops.size→¬LD listed i→i∈u)→Closed ds (LD listed)→Inv R P w0 φ0 w00 nt a0 (LD listed) φ w a→wpAnyIn F n P .any ops Q fuel listed a w:=by
 obtain⟨c1,c2,c3,c4⟩:=XM hc;have hdone:∀{listed φ w a},listed.size=ops.size→(∀i,i<ops.size→LD listed i)→Inv R P w0 φ0 w00 nt a0 (LD listed) φ w a→Q .normal a w:=fun{listed φ w a} hsz hall inv=>by
  have e:LD listed=fun i=>i<ds.length:=by
   funext i
   apply propext;constructor
   ·intro h;rw[c1];apply yO;intro hle;unfold LD at h;rw[yH,Array.getElem?_eq_none oM]at h;simp at h
   ·intro h;exact hall i oM
  exact hQ φ w a (e▸inv)
 have hready:∀{listed:Array Bool},listed.size=ops.size→Region.ready .any ops listed=[]→∀i,i<ops.size→LD listed i:=fun{listed} hsz hnil i=>by
  induction i using Nat.strongRecOn with
  | _ i ih=>
   intro hi;by_cases hl:LD listed i
   ·exact hl
   ·exfalso
    obtain⟨d,hd⟩:=vu (ds:=ds) (i:=i) oM;obtain⟨o,ho,_,_,hed,_⟩:=c4 i d hd;have:i∈Region.ready .any ops listed:=mem_ready.2 ⟨by
     unfold LD at hl;rw[yH,zI oM]at hl⊢
     simpa using hl,o,ho,fun e he hb=>ih e.on (hed e he hb) (by have:=hed e he hb;omega)⟩
    rw[hnil]at this;simp at this
 intro fuel
 induction fuel with
 | zero=>
  intro listed φ w a u hsz hu hin hcl inv;have hu0:u=[]:=yr oM;subst hu0;have hall:∀i,i<ops.size→LD listed i:=fun i hi=>by
   by_cases h:LD listed i
   ·exact h
   ·have:=hin i hi h;simp at this
  refine⟨?_,hdone hsz hall inv⟩;rw[yT];intro i hi;obtain⟨h1,o,ho,_⟩:=mem_ready.1 hi;have hlt:i<ops.size:=(Array.getElem?_eq_some_iff.1 ho).1;have:=hall i hlt;unfold LD at this;rw[yH,zI oM]at this h1;simp at this h1;rw[this]at h1;cases h1
 | succ fuel ih=>
  intro listed φ w a u hsz hu hin hcl inv;refine⟨fun hnil=>hdone hsz (hready hsz hnil) inv,fun i hi=>?_⟩;obtain⟨h1,o,ho,hed⟩:=mem_ready.1 hi;have hlt:i<ops.size:=(Array.getElem?_eq_some_iff.1 ho).1;have hnew:¬LD listed i:=by
   unfold LD;rw[yH,zI oM]at h1⊢
   simpa using h1
  obtain⟨d,hd⟩:=vu (ds:=ds) (i:=i) oM;obtain⟨o',ho',hcs,hback,_,hdep⟩:=c4 i d hd;rw[ho]at ho';cases ho';have hr:Ready (ds:=ds) (LD listed) i:=by
   refine⟨oM,hnew,fun d' j hd' hb hj=>?_⟩;rw[hd]at hd';cases hd';obtain⟨e,he,hbd,hor⟩:=hdep j hb;have hL:LD listed e.on:=hed e he hbd;rcases hor with rfl|⟨d'',hd'',hb''⟩
   ·exact hL
   ·exact hcl.dep e.on d'' j hL hd'' hb'' hj
  have hnext:∀φ' w' a',Inv R P w0 φ0 w00 nt a0 (more (LD listed) i) φ' w' a'→wpAnyIn F n P .any ops Q fuel (listed.setIfInBounds i true) a' w':=fun φ' w' a' inv'=>by
   have hset:=ztw (listed:=listed) (i:=i) oM;refine ih _ φ' w' a' (u.erase i) (by simp[hsz]) ?_ ?_ ?_ (hset▸inv')
   ·rw[yW (hin i hlt hnew)];omega
   ·intro j hj hn;rw[hset]at hn;have hji:j≠i:=fun e=>hn (.inr e);exact(yZ hji).2 (hin j hj (fun h=>hn (.inl h)))
   ·rw[hset];refine⟨fun k dk j hk hdk hb hj=>?_⟩;rcases hk with hk|rfl
    ·exact .inl (hcl.dep k dk j hk hdk hb hj)
    ·exact .inl (hr.deps dk j hdk hb hj)
  unfold wpOpIn;rw[ho];simp only;obtain⟨hg,hop,hdst,hdlt⟩:=Vm hcs;have hnm:=inv.names c2 hcl hr hd;rw[Pc]at hnm;cases hv:R.V i with
  |none=>
   obtain⟨g1,_,_,_⟩:=R.skip i d hd hv;rw[ja hg g1 (hnm.sub (by intro t h;simp[h]))]
   simp only[Bool.false_eq_true,if_false];refine⟨fun f _=>hF.fn f,hnext φ w _ ?_⟩;rw[←hdst];exact inv.skip hS.ext ok c2 c3 hcl hr hd hv
  |some p=>
   obtain⟨v,t⟩:=p;obtain⟨g1,g2,_,_,_,g6⟩:=R.run i d v t hd hv;rw[ja hg g1 (hnm.sub (by intro t h;simp[h])),if_pos rfl]
   rw[hop]at g2;obtain⟨op,hc1,hc2⟩:=XL g2;rw[hc2]at g2;have hfr:Fresh (φ.cut (R.W i).next) (qZ d (R.L i) (R.T i) (R.W i)) t:=fun id h1=>Phi.cut_ge φ h1
   refine Yn hS hG hc1 g2 (inv.rel hS.ext ok hcl hr hd hv) (R.begWf hS.ext ok oM d) hfr (hnm.sub (by intro t h;rw[hop,hc2];simp[h])) hF fun ψ x w' k1 k2=>hnext (φ.merge (R.W i).next (R.W (i+1)).next ψ) w' _ ?_
   rw[←hdst];exact inv.run hS.ext ok c2 c3 hcl hr hd hv k1 k2
theorem zmw(h:G6 op=true):wP E zmv op tm s=wP E S op tm s:=by
 cases op<;>first|rfl|(simp[G6]at h)
theorem zjY{x:Opd}{f:AV→Option AV}(h:v1 tm s x f=some (v,s')):s'=s:=by
 unfold v1 at h;split at h
 ·unfold kB at h;split at h
  ·cases h;rfl
  ·cases h
 ·cases h
theorem zjX(h:G6 op=true)(he:wP E S op tm s=some (v,s')):s'=s:=by
 cases op<;>first|exact zjY he|(simp[G6]at h)
theorem zlV{a b:AV}(h:eqW a b=true):a=b:=by
 unfold eqW at h;split at h
 ·simp only[zl,kF,vn,decide_eq_true_eq,beq_iff_eq]at h;rw[h.1,h.2]
 ·simp only[zl,xT]at h;rw[h.1,h.2]
 ·cases h
theorem zwm{d:Option Nat}{x:Option (AV×St)}(h:QA tm d x=true):∃v t,x=some (v,t)∧∃k,d=some k∧tm.get k=some v:=by
 unfold QA at h;split at h
 ·rename_i p
  split at h
  ·rename_i k
   unfold UM at h;split at h
   ·rename_i u hu
    exact⟨p.1,p.2,rfl,k,rfl,by rw[hu,zlV h]⟩
   ·cases h
  ·cases h
 ·cases h
theorem Wq{E:Env}{S:Self}{tm:Trie AV}{s:St}:∀{l:List DOper},l.all (rtL G6)=true→ju E tm s l=true→∀d∈l,∃v,wP E S d.o.op tm s=some (v,s)∧∃k,d.o.dst=some k∧tm.get k=some v
 | o ::r,h1,h,d,hd=>by
  simp only[ju]at h;simp only[List.all_cons,zl]at h1;cases hb:QA tm o.o.dst (wP E zmv o.o.op tm s)with
  |false=>rw[hb]at h;cases h
  | true=>
   rw[hb]at h;rcases List.mem_cons.1 hd with rfl|hd
   ·have hk:G6 d.o.op=true:=by
     have:=h1.1;unfold rtL at this;rw[zl]at this;exact this.1
    obtain⟨v,t,e,k,e1,e2⟩:=zwm hb;rw[zmw (S:=S) hk]at e;obtain rfl:=zjX hk e;exact⟨v,e,k,e1,e2⟩
   ·exact Wq h1.2 h d hd
 |[],_,_,d,hd=>by simp at hd
theorem UN:∀l:List DOper,uW l=l.map (·.o)
 |[]=>rfl
 |o::r=>by show o.o::uW r=_;rw[UN r];rfl
theorem G9:∀{l:List SOper} {k:Nat},k∈pU l→∃o∈l,o.dst=some k
 | o::r,k,h=>by
  simp only[pU]at h;split at h
  ·rename_i i hi
   rcases List.mem_cons.1 h with rfl|h
   ·exact⟨o,List.mem_cons_self,hi⟩
   ·obtain⟨o',h1,h2⟩:=G9 h;exact⟨o',yR _ h1,h2⟩
  ·obtain⟨o',h1,h2⟩:=G9 h;exact⟨o',yR _ h1,h2⟩
 |[],k,h=>by simp[pU]at h
open Classical in
theorem zkU{w00:World}(hm:P.follows .mixedOrders=true)(hG:xS E.globs w00)(hS:SelfOk P w00 S){nt:Nat}{ops:Array Oper}{ds:List DOper}{c:Nat}{Tf:Trie AV}{φ0:Phi}{a0:Act}{F:Fence}{Q:Exit→Act→World→Prop}
  (hl:WJ P nt ops=some ds) (hlt:c<ds.length) (hgd:∀d∈ds,d.o.guard=none) (hdp:∀(i j:Nat) (di dj:DOper) (k:Nat),ds[i]? =some di→ds[j]? =some dj→dj.o.dst=some k→k∈di.o.names→di.deps.testBit j=true)
  (hev:∀(i:Nat) (d:DOper),ds[i]? =some d→∀X,(i=c→X=s)→(X=s∨X=s')→∃v,wP E S d.o.op Tf X=some (v,if i=c then s' else X)∧∀k,d.o.dst=some k→Tf.get k=some v)
  (htm:∀k v,Tf.get k=some v→(∀(i:Nat) (d:DOper),ds[i]? =some d→d.o.dst≠some k)→tm.get k=some v)
  (r0:Rel P w00 φ0 s.get w0) (hwf:Wf s) (hwf':Wf s') (hnx:s.next≤s'.next) (hf0:Fresh φ0 s s') (ht0:TmRel φ0 tm a0.tmps) (hsz0:a0.tmps.size=nt) (hF:Wide F)
  (hQ:∀φ' a' w',Step P w00 φ0 s w0 φ' s' w'→Q1 φ' nt Tf a0 a'→Q .normal a' w'):(Code.region id ops true).wpIn F n P Q a0 w0:=by
 obtain⟨c1,c2,c3,c4⟩:=XM hl;have hno:∀i,¬LD (yK ops.size false) i:=fun i h=>by
  unfold LD at h;rw[yH,yV]at h;split at h<;>simp at h
 let X:(Nat→Prop)→St:=fun D=>if D c then s' else s
 let Iv:(Nat→Prop)→Phi→World→Act→Prop:=fun D φ w a=>Step P w00 φ0 s w0 φ (X D) w∧(∀k v,Tf.get k=some v→(∀j,wt ds j k→D j)→VR φ v (a.tmps.getD k undef))∧a.tmps.size=nt∧a.defers=a0.defers
 have hfrX:∀{D φ w},Step P w00 φ0 s w0 φ (X D) w→∀id,(X D).next≤id→φ id=none:=fun{D φ w} st id hid=>by
  rw[st.same id (.inr hid)];exact hf0 id (zr st.ext.next hid)
 have hdone:∀{listed φ w a},(∀i,i<ops.size→LD listed i)→Iv (LD listed) φ w a→Q .normal a w:=fun{listed φ w a} hall inv=>by
  obtain⟨i1,i2,i3,i4⟩:=inv;have hX:X (LD listed)=s':=if_pos (hall c (by rw[←c1];exact hlt))
  rw[hX]at i1;exact hQ φ a w i1 ⟨fun k v hv=>i2 k v hv fun j ⟨d,hd,_⟩=>hall j (by rw[←c1];exact(List.getElem?_eq_some_iff.1 hd).1),i3,i4⟩
 have hready:∀{listed:Array Bool},listed.size=ops.size→Region.ready .any ops listed=[]→∀i,i<ops.size→LD listed i:=fun{listed} hsz hnil i=>by
  induction i using Nat.strongRecOn with
  | _ i ih=>
   intro hi;by_cases hL:LD listed i
   ·exact hL
   ·exfalso
    obtain⟨d,hd⟩:=vu (ds:=ds) (i:=i) oM;obtain⟨o,ho,_,_,hed,_⟩:=c4 i d hd;have:i∈Region.ready .any ops listed:=mem_ready.2 ⟨by
     unfold LD at hL;rw[yH,zI oM]at hL⊢
     simpa using hL,o,ho,fun e he hb=>ih e.on (hed e he hb) (by have:=hed e he hb;omega)⟩
    rw[hnil]at this;simp at this
 have key:∀(fuel:Nat) (listed:Array Bool) (φ:Phi) (w:World) (a:Act) (u:List Nat),listed.size=ops.size→u.length≤fuel→(∀i,i<ops.size→¬LD listed i→i∈u)→Closed ds (LD listed)→Iv (LD listed) φ w a→wpAnyIn F n P .any ops Q fuel listed a w:=by
  intro fuel
  induction fuel with
  | zero=>
   intro listed φ w a u hsz hu hin hcl inv;have hu0:u=[]:=yr oM;subst hu0;have hall:∀i,i<ops.size→LD listed i:=fun i hi=>by
    by_cases h:LD listed i
    ·exact h
    ·have:=hin i hi h;simp at this
   refine⟨?_,hdone hall inv⟩;rw[yT];intro i hi;obtain⟨h1,o,ho,_⟩:=mem_ready.1 hi;have hlt:i<ops.size:=(Array.getElem?_eq_some_iff.1 ho).1;have:=hall i hlt;unfold LD at this;rw[yH,zI oM]at this h1;simp at this h1;rw[this]at h1;cases h1
  | succ fuel ih=>
   intro listed φ w a u hsz hu hin hcl inv;refine⟨fun hnil=>hdone (hready hsz hnil) inv,fun i hi=>?_⟩;obtain⟨h1,o,ho,hed⟩:=mem_ready.1 hi;have hlt:i<ops.size:=(Array.getElem?_eq_some_iff.1 ho).1;have hnew:¬LD listed i:=by
    unfold LD;rw[yH,zI oM]at h1⊢
    simpa using h1
   obtain⟨d,hd⟩:=vu (ds:=ds) (i:=i) oM;obtain⟨o',ho',hcs,hback,_,hdep⟩:=c4 i d hd;rw[ho]at ho';cases ho';have hrd2:∀j,d.deps.testBit j=true→LD listed j:=fun j hb=>by
    obtain⟨e,he,hbd,hor⟩:=hdep j hb;have hL:LD listed e.on:=hed e he hbd;rcases hor with rfl|⟨d'',hd'',hb''⟩
    ·exact hL
    ·refine hcl.dep e.on d'' j hL hd'' hb'' ?_;obtain⟨_,_,_,hb3,_⟩:=c4 e.on d'' hd'';have:=hb3 j hb'';have:=(List.getElem?_eq_some_iff.1 hd'').1;omega
   obtain⟨i1,i2,i3,i4⟩:=inv;have hset:=ztw (listed:=listed) (i:=i) oM;have hXs:(i=c→X (LD listed)=s):=fun e=>by subst e;exact if_neg hnew
   have hXo:X (LD listed)=s∨X (LD listed)=s':=by
    by_cases e:LD listed c
    ·exact .inr (if_pos e)
    ·exact .inl (if_neg e)
   have hXn:(if i=c then s' else X (LD listed))=X (more (LD listed) i):=by
    by_cases e:i=c
    ·rw[if_pos e];exact(if_pos (.inr e.symm)).symm
    ·rw[if_neg e];by_cases e2:LD listed c
     ·exact(if_pos e2).trans (if_pos (.inl e2)).symm
     ·exact(if_neg e2).trans (if_neg fun h=>h.elim e2 fun h=>e h.symm).symm
   obtain⟨v,hv,hvd⟩:=hev i d hd (X (LD listed)) hXs hXo;rw[hXn]at hv;unfold wpOpIn;rw[ho];simp only;obtain⟨hg,hop,hdst,hdlt⟩:=Vm hcs;have hgn:d.o.guard=none:=hgd d (y7 hd);have hnm:TmOn φ d.o.names Tf a:=fun t ht u hu=>i2 t u hu fun j ⟨dj,hdj,hk⟩=>hrd2 j (hdp i j d dj t hd hdj hk ht);rw[Pc]at hnm;rw[ja hg (tm:=Tf) (b:=true) (by rw[hgn];rfl) (hnm.sub (by intro t h;simp[h])),if_pos rfl]
   rw[hop]at hv;obtain⟨op,hc1,hc2⟩:=XL hv;rw[hc2]at hv;refine Yn hS hG hc1 hv i1.rel (i1.ext.wf hwf) (fun id h1=>hfrX i1 id h1) (hnm.sub (by intro t h;rw[hop,hc2];simp[h])) hF fun ψ x w' k1 k2=>?_
   have hsub:Sub φ ψ:=k1.sub fun id h1=>hfrX i1 id h1;refine ih _ ψ w' _ (u.erase i) (by simp[hsz]) ?_ ?_ ?_ ?_
   ·rw[yW (hin i hlt hnew)];omega
   ·intro j hj hn;rw[hset]at hn;have hji:j≠i:=fun e=>hn (.inr e);exact(yZ hji).2 (hin j hj (fun h=>hn (.inl h)))
   ·rw[hset];refine⟨fun k dk j hk hdk hb hj=>?_⟩;rcases hk with hk|rfl
    ·exact .inl (hcl.dep k dk j hk hdk hb hj)
    ·rw[hd]at hdk;cases hdk;exact .inl (hrd2 j hb)
   ·rw [hset];refine⟨Step.trans hwf i1 k1,fun k u hu hw=>?_,by rw[←hdst,(kG _).1];exact i3,by rw[←hdst,(kG _).2];exact i4⟩
    rw[←hdst];by_cases hk:d.o.dst=some k
    ·rw[hk];have:=hvd k hk;rw[hu,Option.some.injEq]at this;subst this;have hlt2:k<a.tmps.size:=by rw[i3];exact c3 i d k hd hk
     simp only[Act.put];rw[p8 _ _ _ _ hlt2,if_pos rfl];exact k2
    ·have hput:(a.put d.o.dst x).tmps.getD k undef=a.tmps.getD k undef:=by
      cases hds:d.o.dst with
      |none=>rfl
      |some e=>
       simp only[Act.put];have hlt2:e<a.tmps.size:=by rw[i3];exact c3 i d e hd hds
       rw[p8 _ _ _ _ hlt2,if_neg (fun h=>hk (by rw[hds,h]))]
     rw[hput];refine VR.mono hsub _ _ (i2 k u hu fun j hwj=>(hw j hwj).resolve_right fun e=>?_);obtain⟨dj,hdj,hkj⟩:=hwj;rw[e,hd]at hdj;cases hdj;exact hk hkj
 refine wpIn_region_any hm (key ops.size _ φ0 _ a0 (List.range ops.size) (by simp) (by simp) (fun i hi _=>by simpa using hi) ⟨fun i _ _ h=>absurd h (hno i)⟩ ⟨?_,fun k v hv hw=>ht0 k v (htm k v hv fun i d hd hk=>hno i (hw i ⟨d,hd,hk⟩)),hsz0,rfl⟩)
 have hX0:X (LD (yK ops.size false))=s:=if_neg (hno c);rw[hX0];exact Step.below r0 (Below.refl _ w0).drew
theorem zkV{w00:World}(hm:P.follows .mixedOrders=true)(hG:xS E.globs w00)(hS:SelfOk P w00 S){nt:Nat}{ops:Array Oper}{a0 c0:DOper}{r0:List DOper}{tm':Trie AV}{a:Act}{F:Fence}{Q:Exit→Act→World→Prop}
  (hl:WJ P nt ops=some (a0::c0::r0)) (htw:zuI a0 c0 r0=true) (he:wP E S c0.o.op tm' s=some (v,s')) (h1:QA tm' c0.o.dst (some (v,s'))=true) (h2:ju E tm' s (a0::r0)=true) (h3:ju E tm' s' (a0::r0)=true) (ho:∀k,k∉pU (a0.o::c0.o::uW r0)→tm'.get k=tm.get k)
  (r:Rel P w00 φ s.get w) (hwf:Wf s) (hf:Fresh φ s s') (ht:TmRel φ tm a.tmps) (hsz:a.tmps.size=nt) (hF:Wide F)
  (hQ:∀φ' a' w',Step P w00 φ s w φ' s' w'→Q1 φ' nt tm' a a'→Q .normal a' w'):(Code.region id ops true).wpIn F n P Q a w:=by
 unfold zuI at htw;simp only[zl]at htw;obtain⟨⟨⟨⟨⟨_,g1⟩,_⟩,g2⟩,g3⟩,g4⟩:=htw;have gall:(a0::r0).all (rtL G6)=true:=by simp only[List.all_cons,zl];exact⟨g2,g3⟩
 have hgn:∀d:DOper,∀k,rtL k d=true→d.o.guard=none:=fun d k h=>by
  unfold rtL at h;rw[zl]at h;cases hg:d.o.guard with
  |none=>rfl
  |some _=>rw[hg]at h;cases h.2
 obtain⟨v',t',hvt,k0,hk0,hk1⟩:=zwm h1;cases hvt;have c2:=Wq (S:=S) gall h2;have c3:=Wq (S:=S) gall h3;have hx:=jf hS.ext he;refine zkU (c:=1) hm hG hS hl (by simp) (fun d hd=>?_) (fun i j di dj k hi hj hk hn=>?_) (fun i d hi X hX1 hX2=>?_) (fun k v hv hk=>?_) r hwf (hx.wf hwf) hx.next hf ht hsz hF hQ
 ·rcases List.mem_cons.1 hd with rfl|hd
  ·exact hgn _ _ g2
  ·rcases List.mem_cons.1 hd with rfl|hd
   ·exact hgn _ _ g1
   ·exact hgn _ _ (List.all_eq_true.1 g3 d hd)
 ·unfold zlw at g4;have hil:=(List.getElem?_eq_some_iff.1 hi).1;have hjl:=(List.getElem?_eq_some_iff.1 hj).1;have:=List.all_eq_true.1 (List.all_eq_true.1 g4 i (List.mem_range.2 hil)) j (List.mem_range.2 hjl);rw[hi,hj]at this;simp only[hk]at this;have hc:di.o.names.contains k=true:=by simpa using hn
  rw[hc]at this
  simpa using this
 ·by_cases hi1:i=1
  ·subst hi1;obtain rfl:=hX1 rfl;simp only[yP,yN,Option.some.injEq]at hi;subst hi;exact⟨v,by rw[if_pos rfl];exact he,fun k hk=>by rw[hk0]at hk;cases hk;exact hk1⟩
  ·have hm:d∈a0::r0:=by
    rcases i with _|_|i
    ·simp only[yN,Option.some.injEq]at hi;subst hi;exact List.mem_cons_self
    ·exact absurd rfl hi1
    ·simp only[yP]at hi;exact yR _ (y7 hi)
   rw[if_neg hi1];rcases hX2 with rfl|rfl
   ·obtain⟨v1,e1,k,e2,e3⟩:=c2 d hm;exact⟨v1,e1,fun k' hk'=>by rw[e2]at hk';cases hk';exact e3⟩
   ·obtain⟨v1,e1,k,e2,e3⟩:=c3 d hm;exact⟨v1,e1,fun k' hk'=>by rw[e2]at hk';cases hk';exact e3⟩
 ·have hno:k∉pU (a0.o::c0.o::uW r0):=fun hmem=>by
   obtain⟨o,ho1,ho2⟩:=G9 hmem;rw[UN]at ho1;have:o∈(a0::c0::r0).map (·.o):=by simpa using ho1
   obtain⟨d,hd,rfl⟩:=List.mem_map.1 this;obtain⟨i,hi,hid⟩:=List.getElem_of_mem hd;exact hk i d (by rw[yv hi,hid]) ho2
  rw[←ho k hno];exact hv
theorem GE(hm:P.follows .mixedOrders=true)(hG:xS E.globs w0)(S:Self)(hS:SelfOk P w0 S):DrawOk P w0 E S:=by
 refine⟨?_,fun hl htw he h1 h2 h3 ho r hwf hf ht hsz hF hQ=>zkV hm hG hS hl htw he h1 h2 h3 ho r hwf hf ht hsz hF hQ⟩;intro id nt ops ds tm tm' s s' φ w a F n Q hc hon he r hwf hf ht hsz hF hQ;obtain⟨R,t1,t2,t3,t4,t5⟩:=zj7 he;have ok:R.Ok:=⟨t1,by rw[t3];exact hon,by rw[t3];exact hwf⟩
 obtain⟨c1,c2,c3,c4⟩:=XM hc;have hno:∀i,¬LD (yK ops.size false) i:=fun i h=>by
  unfold LD at h;rw[yH,yV]at h;split at h<;>simp at h
 have hcur:∀{id o},R.cur (LD (yK ops.size false)) id o→s.get id=some o:=fun{id o} h=>by
  obtain⟨h0,m,hm,h1,_,h3⟩:=h;have hk:=R.keepN hS.ext ok (id:=id) (i:=0) (j:=m) (zK _) hm (fun k _ hk hw=>hno k (h1 k hk hw));rw[h3,t3]at hk;have hlt:=hwf.lt id o hk.symm;rw[t3]at h0;rw[uF,h0 hlt];exact hk.symm
 have hcurA:∀{id o m},R.curA (LD (yK ops.size false)) id o m→s.get id=some o:=fun{id o m} h=>hcur (R.cur_of_A h);have hfin:∀φ' w' a',Inv R P w0 φ w nt a (fun i=>i<ds.length) φ' w' a'→Q .normal a' w':=fun φ' w' a' inv=>by
  have hcf:∀{id o},s'.get id=some o→R.cur (fun i=>i<ds.length) id o:=fun{id o} h=>by
   obtain⟨f1,f2,f3,_⟩:=R.facts hS.ext ok ds.length (zo _);refine⟨fun _=>?_,ds.length,zo _,fun j hj _=>hj,fun j h1 h2 _ _=>oM,by rw[t5];exact wa h⟩
   rw[←qY f3 (f1.trans ok.only.symm),t5];exact qm h
  have hext:=(R.facts hS.ext ok ds.length (zo _)).2.2.2.2;rw[t3,t5]at hext;have hcfA:∀{id o},s'.get id=some o→R.curA (fun i=>i<ds.length) id o ds.length:=fun{id o} h=>by
   obtain⟨h0,m,hm,h1,h2,h3⟩:=hcf h;exact⟨h0,zo _,fun j hj _=>hj,fun j h1 h2 _ _=>oM,by rw[t5];exact wa h⟩
  refine hQ φ' a' w' ⟨hext,⟨inv.base,fun id o h=>(let ⟨B,hB,ht⟩:=inv.obj id o ds.length (hcfA h);⟨B,hB,ht.keep (Phi.cut_sub φ' _) rfl⟩),inv.rng,fun id o B h=>inv.old id o B (hcf h),fun id id' o o' B B' h h'=>inv.inj id id' o o' B B' (hcf h) (hcf h'),inv.frz,fun id o B h=>inv.sep id o B (hcf h)⟩,?_,inv.grow,?_,?_,inv.zsub,?_⟩ ⟨?_,inv.size,inv.df⟩
  ·have:=inv.out;rw[t3,t5]at this;exact this
  ·have:=inv.frame;rw[t3,t5]at this;exact this
  ·have:=inv.own;rw[t3,t5]at this;exact this
  ·have:=inv.zown;rw[t3,t5]at this;exact this
  ·intro k v hv;exact VR.mono (Phi.cut_sub φ' _) _ _ (inv.tmp k v ds.length (zo _) (fun j hj _=>hj) (fun j h1 h2 _ _=>oM) (by rw[t4];exact hv))
 refine wpIn_region_any hm (zst hS hG hc ok hF hfin ops.size _ φ _ a (List.range ops.size) (by simp) (by simp) (fun i hi _=>by simpa using hi) ⟨fun i _ _ h=>absurd h (hno i)⟩ ?_)
 have r':Rel P w0 φ s.get {w with drawn:=w.drawn+1}:=Rel.congr (w:=w) rfl rfl rfl rfl r
 have htight:∀m,m≤ds.length→Sub φ (φ.cut (R.W m).next):=fun m hm=>(Sub.refl φ).to_cut fun id hid=>hf id (by
  have:=R.next_le hS.ext ok (i:=0) (j:=m) (zK _) hm;rw[t3]at this;omega)
 refine⟨r'.base,fun id o m h=>(let ⟨B,hB,ht⟩:=r'.obj id o (hcurA h);⟨B,hB,ht.keep (htight m h.2.1) rfl⟩),r'.rng,fun id o B h=>r'.old id o B (hcur h),fun id id' o o' B B' h h'=>r'.inj id id' o o' B B' (hcur h) (hcur h'),fun _ _=>rfl,fun i hi _ id h1 h2=>?_,fun k v m hmN h1 _ hv=>?_,hsz,rfl,zo _,fun id B h1 h2 hB=>?_,fun b _ _=>rfl,r'.frz,fun id o B h=>r'.sep id o B (hcur h),fun _ _ _ h=>h,fun _ _ _ h=>.inl h⟩
 ·refine hf id ?_;have:=R.next_le hS.ext ok (i:=0) (j:=i) (zK _) (yI hi);rw[t3]at this;omega
 ·have key:∀q,q≤m→(R.T q).get k=(R.T 0).get k:=by
   intro q
   induction q with
   |zero=>intro _;rfl
   |succ q ih=>
    intro hq;obtain⟨dq,hdq⟩:=vu (ds:=ds) (i:=q) oM;rw[R.T_other hdq (fun e=>hno q (h1 q oM ⟨dq,hdq,e⟩))];exact ih oM
  rw[key m (zo _),t2]at hv;exact VR.mono (htight m hmN) _ _ (ht k v hv)
 ·rw[t3]at h1;rw[hf id h1]at hB;cases hB
def TOk(Q:Nat→IFunc→Prop):Nat→Nat→Trie IFunc→Prop
 |_,_,.leaf=>True
 |a,b,.node v l r=>(match v with|some F=>Q b F|none=>True)∧TOk Q (2*a) (a+b) l∧TOk Q (2*a) (2*a+b) r
theorem TOk.get{Q:Nat→IFunc→Prop}:∀{t:Trie IFunc} {a b n:Nat} {F:IFunc},TOk Q a b t→t.get n=some F→Q (a*n+b) F
 |.leaf,_,_,_,_,_,h=>by simp[Trie.get]at h
 | .node v l r,a,b,n,F,⟨h1,h2,h3⟩,h=>by
  match n with
  |0=>
   simp only[Trie.get]at h;subst h
   simpa using h1
  | m+1=>
   simp only[Trie.get]at h;by_cases e:(m+1)%2=1
   ·have e1:za (Nat.mod (m+1) 2) 1=true:=by show za ((m+1)%2) 1=true;rw[e];rfl
    rw[e1]at h;have:=h2.get (n:=(m+1)/2) h;have e2:2*a*((m+1)/2)+(a+b)=a*(m+1)+b:=by
     have:m+1=2*((m+1)/2)+1:=oM;generalize (m+1)/2=k at this⊢;rw[this,Nat.mul_add,Nat.mul_one,yh 2 a,Nat.mul_assoc,Nat.add_assoc]
    rw[e2]at this;exact this
   ·have e1:za (Nat.mod (m+1) 2) 1=false:=by
     show za ((m+1)%2) 1=false;have:(m+1)%2=0:=oM;rw[this];rfl
    rw[e1]at h;have:=h3.get (n:=zt ((m+1)/2)) h;have e2:2*a*(zt ((m+1)/2))+(2*a+b)=a*(m+1)+b:=by
     have:m+1=2*(zt ((m+1)/2))+2:=by simp only[Nat.pred_eq_sub_one];omega
     generalize zt ((m+1)/2)=k at this⊢;rw[this,Nat.mul_add,yh 2 a,Nat.mul_assoc,←Nat.add_assoc]
    rw[e2]at this;exact this
def Q(P:Program)(k:Nat)(F:IFunc):Prop:=∃fn,P.funcs[k]? =some fn∧HE P fn=some F
theorem envOk_of{P:Program}{E:Env}(h:TOk (Q P) 1 0 E.funs):kj P E:=fun f F hf=>by
 have:=h.get hf;rw[Nat.one_mul,Nat.add_zero]at this;exact this
abbrev Orc:=Nat→Option (List AV→St→Option (AV×St))
variable {O:Orc}
def Q0(O:Orc):Prop:=∀f g,O f=some g→∀args s v s',g args s=some (v,s')→Ext s s'
noncomputable def pB(E:Env)(O:Orc)(S:Self)(f:Nat)(args:List AV)(s:St):Option (AV×St):=
 match O f with
 |some g=>g args s
 |none=>jc E S f args s
noncomputable def evT(E:Env)(O:Orc):Nat→Self
 |0=>⟨fun _ _ _=>none,fun _ _ _ _=>none,fun _ _ _=>none⟩
 |n+1=>⟨fun f args s=>pB E O (evT E O n) f args s,fun rd b fr s=>evC E (evT E O n) rd (.loop b) fr s,fun l args s=>uI E (evT E O n) l args s⟩
theorem XO{f:Nat}{args:List AV}(h:pB E O S f args s=some (v,s')):
  (∃g,O f=some g∧g args s=some (v,s'))∨(O f=none∧jc E S f args s=some (v,s')):=by
 unfold pB at h;split at h
 ·rename_i g hg;exact .inl ⟨g,hg,h⟩
 ·rename_i hg;exact .inr ⟨hg,h⟩
theorem jW(E:Env){O:Orc}(hx:Q0 O):∀n,Mono (evT E O n)
 |0=>⟨fun _ _ _ _ _ h=>by simp[evT]at h,fun _ _ _ _ _ _ _ h=>by simp[evT]at h,fun _ _ _ _ _ h=>by simp[evT]at h⟩
 | n+1=>⟨fun f args s v s' h=>by
   rcases XO h with ⟨g,hg,h⟩|⟨_,h⟩
   ·exact(hx f g hg _ _ _ _ h).next
   ·exact zzx (jW E hx n) h,
  fun _ _ _ _ _ _ _ h=>qL (jW E hx n) h,fun _ _ _ _ _ h=>PC (jW E hx n) h⟩
theorem gH(E:Env){O:Orc}(hx:Q0 O):∀n,ExtS (evT E O n)
 |0=>⟨fun _ _ _ _ _ h=>by simp[evT]at h,fun _ _ _ _ _ _ _ h=>by simp[evT]at h,fun _ _ _ _ _ h=>by simp[evT]at h⟩
 | n+1=>⟨fun f args s v s' h=>by
   rcases XO h with ⟨g,hg,h⟩|⟨_,h⟩
   ·exact hx f g hg _ _ _ _ h
   ·exact zwR (gH E hx n) h,
  fun _ _ _ _ _ _ _ h=>jO (gH E hx n) h,fun _ _ _ _ _ h=>zyY (gH E hx n) h⟩
def SC(P:Program)(w0:World)(f:Nat)(args:List AV)(s:St)(v:AV)(s':St):Prop:=
 (∃fn,P.funcs[f]? =some fn∧fn.body.isSome=true∧(fn.name== "runtime.NumGoroutine")=false)∧
 ∀(φ:Phi) (w:World) (xs:List Value),Rel P w0 φ s.get w→Wf s→Fresh φ s s'→VRL φ args xs→∀F n,Wide F→CallsIn F n P f xs.toArray w (Q2 P w0 φ s w v s')
def qv(P:Program)(w0:World)(f:Nat)(g:List AV→St→Option (AV×St)):Prop:=
 ∀args s v s',g args s=some (v,s')→SC P w0 f args s v s'
theorem V6{P:Program}{w0:World}{E:Env}{O:Orc}(hx:Q0 O)(hm:P.follows .mixedOrders=true)(hG:xS E.globs w0)(hE:kj P E)(hO:∀f g,O f=some g→qv P w0 f g):∀n,SelfOk P w0 (evT E O n)
 |0=>⟨jW E hx 0,gH E hx 0,fun h=>by simp[evT]at h,fun h=>by simp[evT]at h,fun h=>by simp[evT]at h⟩
 | n+1=>
  have ih:=V6 hx hm hG hE hO n;have hD:DrawOk P w0 E (evT E O n):=GE hm hG _ ih
  ⟨jW E hx (n+1),gH E hx (n+1),fun{f args s v s'} h=>by
   rcases XO h with ⟨g,hg,hv⟩|⟨_,h⟩
   ·obtain⟨h1,h2⟩:=hO f g hg args s v s' hv;exact⟨h1,fun{φ w xs} r hwf hf hx F k hF=>h2 φ w xs r hwf hf hx F k hF⟩
   ·exact WL ih hG hE hD h,
  fun h _ _ _ _ r hwf hf ha hB=>G5 ih hG hD h r hwf hf ha hB,fun h _ _ _ _ _ hb r hwf hf hfr F k hF hrd=>zyz ih hG hD h hb r hwf hf hfr F k hF hrd⟩
def eqN:List Nat→List Nat→Bool
 |[],[]=>true
 |a::x,b::y=>za a b&&eqN x y
 |_,_=>false
theorem zsG:∀{a b:List Nat},eqN a b=true→a=b
 |[],[],_=>rfl
 |[],_::_,h=>by simp[eqN]at h
 |_::_,[],h=>by simp[eqN]at h
 |a::x,b::y,h=>by
  simp only[eqN,zl,xT]at h;rw[h.1,zsG h.2]
mutual
def eqA:AV→AV→Bool
 |.bool a,.bool b=>a==b
 |.int k n,.int k' m=>vU k k'&&eqI n m
 |.str a,.str b=>eqN a b
 |.nils,.nils=>true
 |.nilp,.nilp=>true
 |.agg a,.agg b=>Ln a b
 |.tup a,.tup b=>Ln a b
 |.lst n e a,.lst m f b=>za n m&&(e==f)&&Ln a b
 |_,_=>false
def Ln:List AV→List AV→Bool
 |[],[]=>true
 |a::x,b::y=>eqA a b&&Ln x y
 |_,_=>false
end
mutual
theorem zsF:∀{a b:AV},eqA a b=true→a=b
 |.bool a,b,h=>by cases b<;>simp[eqA]at h;rw[h]
 |.int k n,b,h=>by
  cases b<;>simp only[eqA,zl,kF,vn,decide_eq_true_eq,beq_iff_eq]at h<;>first|(cases h;done)|skip
  rw[h.1,h.2]
 |.str a,b,h=>by
  cases b<;>simp only[eqA]at h<;>first|(cases h;done)|skip
  rw[zsG h]
 |.nils,b,h=>by cases b<;>simp[eqA]at h;rfl
 |.nilp,b,h=>by cases b<;>simp[eqA]at h;rfl
 |.agg a,b,h=>by
  cases b<;>simp only[eqA]at h<;>first|(cases h;done)|skip
  rw[QI h]
 |.lst n e a,b,h=>by
  cases b<;>simp only[eqA,zl,xT,beq_iff_eq]at h<;>first|(cases h;done)|skip
  rw[h.1.1,h.1.2,QI h.2]
 |.ptr _ _,b,h=>by cases b<;>simp[eqA]at h
 |.gptr _ _,b,h=>by cases b<;>simp[eqA]at h
 |.sl _ _ _ _,b,h=>by cases b<;>simp[eqA]at h
 |.sl0,b,h=>by cases b<;>simp[eqA]at h
 |.map _,b,h=>by cases b<;>simp[eqA]at h
 |.nilm,b,h=>by cases b<;>simp[eqA]at h
 |.fn _ _ _,b,h=>by cases b<;>simp[eqA]at h
 |.nilf,b,h=>by cases b<;>simp[eqA]at h
 |.yld _,b,h=>by cases b<;>simp[eqA]at h
 |.ifc _ _,b,h=>by cases b<;>simp[eqA]at h
 |.nili,b,h=>by cases b<;>simp[eqA]at h
 |.tup a,b,h=>by
  cases b<;>simp only[eqA]at h<;>first|(cases h;done)|skip
  rw[QI h]
 |.gr _ _ _ _,b,h=>by cases b<;>simp[eqA]at h
 |.vp _,b,h=>by cases b<;>simp[eqA]at h
theorem QI:∀{a b:List AV},Ln a b=true→a=b
 |[],[],_=>rfl
 |[],_::_,h=>by simp[Ln]at h
 |_::_,[],h=>by simp[Ln]at h
 |a::x,b::y,h=>by
  simp only[Ln,zl]at h;rw[zsF h.1,QI h.2]
end
def s00(m:Nat)(b:Bool):St:={objs:=.leaf,next:=0,wm:=m,hide:=[],only:=none,md:=b}
theorem ZS(m:Nat)(b:Bool)(id:Nat):(s00 m b).get id=none:=by
 cases h:(s00 m b).get id with
 |none=>rfl
 |some o=>have:=wa h;simp[s00,Trie.get]at this
theorem SC.up{f:Nat}{args:List AV}{b:Bool}{s1:St}(h:SC P w0 f args (s00 0 b) v s1)(hp1:xN args=true)(hp2:x8 v=true)(s:St):SC P w0 f args s v s:=by
 refine⟨h.1,fun φ w xs r hwf hf hx F k hF=>?_⟩;have r0:Rel P w0 ⟨fun _=>none,φ.z⟩ (s00 0 b).get w:=by
  refine⟨r.base,fun id o h=>?_,(fun id B h=>by cases h),(fun id _ _ _ h=>by cases h),fun id _ _ _ _ _ h=>?_,r.frz,fun _ _ _ _ h=>by cases h⟩
  ·rw[ZS]at h;cases h
  ·rw[ZS]at h;cases h
 have hcall:=h.2 _ w xs r0 ⟨(fun id o h=>by simp[s00,Trie.get]at h),fun p hp=>by simp[s00]at hp⟩ (fun _ _=>rfl) (VRL.pure (φ:=φ) (φ':=⟨fun _=>none,φ.z⟩) (fun _ _ _ h=>h) _ _ hp1 hx) F k hF
 refine CallsIn.mono hcall ?_
 rintro e w1 ⟨φ1,x,rfl,k1,k2⟩
 have hold:∀b,b<w.heap.size→w1.heap[b]? =w.heap[b]? :=fun b hb=>k1.frame b hb fun id o B ho=>by rw[ZS]at ho;cases ho
 have hz:∀b i u,φ1.z b i=some u→φ.z b i=some u∨w.heap.size≤b:=fun b i u hu=>by
  rcases k1.zown b i u hu with h1|h1|⟨id0,o0,B0,q1,_⟩
  ·exact .inl h1
  ·exact .inr h1
  ·rw[ZS]at q1;cases q1
 refine⟨φ.zset φ1.z,x,rfl,⟨Ext.refl _,⟨k1.rel.base,fun id o ho=>?_,fun id B hB=>?_,r.old,r.inj,k1.rel.frz,fun id o B ho hB=>?_⟩,fun _ _=>rfl,k1.size,fun b hlt _=>hold b hlt,(fun id _ h1 h2=>absurd h2 oM),k1.zsub,fun b i u hu=>?_⟩,VR.pure (φ:=φ1) (φ':=φ.zset φ1.z) (fun _ _ _ h=>h) _ _ hp2 k2⟩
 ·obtain⟨B,hB,t⟩:=r.obj id o ho;exact⟨B,hB,t.keep (φ:=φ) (φ':=φ.zset φ1.z) ⟨fun _ _ h=>h,k1.zsub⟩ (hold _ (r.rng id B hB))⟩
 ·have hB':φ id=some B:=hB;have h1:=r.rng id B hB';have h2:=k1.size;omega
 ·refine(r.sep id o B ho hB).congr fun i=>?_;have hB':φ id=some B:=hB;show φ1.z B.b i=φ.z B.b i;cases h1:φ1.z B.b i with
  |none=>
   cases h2:φ.z B.b i with
   |none=>rfl
   |some u=>have:=k1.zsub B.b i u h2;rw[h1]at this;cases this
  |some u=>
   rcases hz _ _ _ h1 with h2|h2
   ·exact h2.symm
   ·have:=r.rng id B hB';omega
 ·rcases hz b i u hu with h1|h1
  ·exact .inl h1
  ·exact .inr (.inl h1)
structure LeS(S S':Self):Prop where
 call:∀f a s r,S.call f a s=some r→S'.call f a s=some r
 loop:∀rd b fr s r,S.loop rd b fr s=some r→S'.loop rd b fr s=some r
 round:∀l a s r,S.round l a s=some r→S'.round l a s=some r
structure LimS(T:Nat→Self)(L:Self):Prop where
 call:∀f a s r,L.call f a s=some r→∃n,(T n).call f a s=some r
 loop:∀rd b fr s r,L.loop rd b fr s=some r→∃n,(T n).loop rd b fr s=some r
 round:∀l a s r,L.round l a s=some r→∃n,(T n).round l a s=some r
theorem LeS.refl(S:Self):LeS S S:=⟨fun _ _ _ _ h=>h,fun _ _ _ _ _ h=>h,fun _ _ _ _ h=>h⟩
theorem LeS.trans{S' S'':Self}(h:LeS S S')(h':LeS S' S''):LeS S S'':=
 ⟨fun _ _ _ _ t=>h'.call _ _ _ _ (h.call _ _ _ _ t),fun _ _ _ _ _ t=>h'.loop _ _ _ _ _ (h.loop _ _ _ _ _ t),fun _ _ _ _ t=>h'.round _ _ _ _ (h.round _ _ _ _ t)⟩
theorem LeS.chain{T:Nat→Self}(h:∀n,LeS (T n) (T (n+1))):∀{n m:Nat},n≤m→LeS (T n) (T m)
 |n,0,hle=>by (have:n=0:=by omega);subst this;exact LeS.refl _
 |n,m+1,hle=>by
  by_cases e:n=m+1
  ·subst e;exact LeS.refl _
  ·exact(LeS.chain h (n:=n) (m:=m) oM).trans (h m)
structure Ct{α:Type}(X:Self→Option α):Prop where
 up:∀S S',LeS S S'→∀r,X S=some r→X S'=some r
 fin:∀(T:Nat→Self) (L:Self),(∀n,LeS (T n) (T (n+1)))→LimS T L→∀r,X L=some r→∃n,X (T n)=some r
theorem Ct.const{α:Type}(x:Option α):Ct fun _=>x:=⟨fun _ _ _ _ h=>h,fun _ _ _ _ _ h=>⟨0,h⟩⟩
theorem Ct.call(f:Nat)(a:List AV)(s:St):Ct fun S=>S.call f a s:=⟨fun _ _ h _ t=>h.call _ _ _ _ t,fun _ _ _ h _ t=>h.call _ _ _ _ t⟩
theorem Ct.loop(rd:Option Nat)(b:ICode)(fr:Fr)(s:St):Ct fun S=>S.loop rd b fr s:=⟨fun _ _ h _ t=>h.loop _ _ _ _ _ t,fun _ _ _ h _ t=>h.loop _ _ _ _ _ t⟩
theorem Ct.round(l:Nat)(a:List AV)(s:St):Ct fun S=>S.round l a s:=⟨fun _ _ h _ t=>h.round _ _ _ _ t,fun _ _ _ h _ t=>h.round _ _ _ _ t⟩
theorem Ct.bind{α β:Type}{X:Self→Option α}{k:Self→Option α→Option β}(hX:Ct X)(h0:∀S,k S none=none)(hk:∀x,Ct fun S=>k S (some x)):Ct fun S=>k S (X S) where
 up:=fun S S' hS r h=>by
  cases hx:X S with
  |none=>rw[hx,h0]at h;cases h
  |some x=>rw[hx]at h;rw[hX.up S S' hS x hx];exact(hk x).up S S' hS r h
 fin:=fun T L hT hL r h=>by
  cases hx:X L with
  |none=>rw[hx,h0]at h;cases h
  |some x=>
   rw[hx]at h;obtain⟨n,hn⟩:=hX.fin T L hT hL x hx;obtain⟨m,hm⟩:=(hk x).fin T L hT hL r h;refine⟨n+m,?_⟩;rw[hX.up _ _ (LeS.chain hT oM) x hn];exact(hk x).up _ _ (LeS.chain hT oM) r hm
theorem Ct.map{α β:Type}{X:Self→Option α}(g:Option α→Option β)(hX:Ct X)(h0:g none=none):Ct fun S=>g (X S):=
 Ct.bind (k:=fun _ x=>g x) hX (fun _=>h0) fun x=>Ct.const (g (some x))
theorem Gv(E:Env)(op:IOp)(tm:Trie AV)(s:St):Ct fun S=>wP E S op tm s:=by
 cases op
 case call f args=>
  show Ct fun S=>Lp S f (evL tm args) s;cases evL tm args with
  |none=>exact Ct.const none
  |some vs=>exact Ct.call f vs s
 case cv x args=>
  show Ct fun S=>GG S (x.ev tm) (evL tm args) s;cases evL tm args with
  |none=>exact Ct.const none
  | some vs=>
   cases x.ev tm with
   |none=>exact Ct.const none
   |some u=>
    cases u
    case fn f a c=>exact Ct.call f (a++vs++c) s
    case yld l=>exact Ct.round l vs s
    all_goals exact Ct.const none
 all_goals exact Ct.const _
theorem zsl(E:Env)(o:SOper)(tm:Trie AV)(s:St):Ct fun S=>gg E S o tm s:=by
 unfold gg;cases kq o.guard tm with
 |none=>exact Ct.const none
 |some b=>
  cases b with
  |true=>exact(Gv E o.op tm s).map (stS tm o.dst) rfl
  |false=>exact Ct.const _
theorem zzM(E:Env):∀(l:List SOper) (tm:Trie AV) (s:St),Ct fun S=>evS E S l tm s
 |[],_,_=>Ct.const _
 |o::r,tm,s=>Ct.bind (k:=fun S x=>match x with|some p=>evS E S r p.1 p.2|none=>none) (zsl E o tm s) (fun _=>rfl) fun p=>zzM E r p.1 p.2
theorem zsk(E:Env)(o:DOper)(i:Nat)(log:List LogE)(tm:Trie AV)(s:St):Ct fun S=>lE E S o i log tm s:=by
 unfold lE;cases kq o.o.guard tm with
 |none=>exact Ct.const none
 |some b=>
  cases b with
  |true=>exact(Gv E o.o.op tm _).map (Jf o i log tm s) rfl
  |false=>exact Ct.const _
theorem zsj(E:Env):∀(l:List DOper) (i:Nat) (log:List LogE) (tm:Trie AV) (s:St),Ct fun S=>evD E S l i log tm s
 |[],_,_,_,_=>Ct.const _
 |o::r,i,log,tm,s=>Ct.bind (k:=fun S x=>match x with|some p=>evD E S r (Nat.succ i) p.1 p.2.1 p.2.2|none=>none) (zsk E o i log tm s) (fun _=>rfl) fun p=>zsj E r _ _ _ _
theorem H6{X:Self→Option (Res×Fr×St)}{k:Self→Fr→St→Option (Res×Fr×St)}(hX:Ct X)(hk:∀fr s,Ct fun S=>k S fr s):Ct fun S=>uC (k S) (X S):=
 Ct.bind (k:=fun S x=>uC (k S) x) hX (fun _=>rfl) fun p=>by
  obtain⟨r,fr,s⟩:=p;cases r with
  |norm=>exact hk fr s
  |exit i=>exact Ct.const _
  |ret=>exact Ct.const _
theorem kc(E:Env)(rd:Option Nat):∀(c:ICode) (fr:Fr) (s:St),Ct fun S=>evC E S rd c fr s
 |.skip,_,_=>Ct.const _
 |.reg ops,fr,s=>(zzM E ops fr.tm s).map (uo fr.df) rfl
 |.regd ops,fr,s=>by
  show Ct fun S=>Qg E S ops fr s;unfold Qg;cases s.only with
  |none=>exact(zsj E ops 0 [] fr.tm s).map (uo fr.df) rfl
  |some _=>exact Ct.const none
 |.regt a c r,fr,s=>Ct.bind (k:=fun S x=>rtS E S (a::r) c.o fr.df s x) (zzM E (a.o::c.o::uW r) fr.tm s) (fun _=>rfl) fun p=>(Gv E c.o.op p.1 s).map (rtE E (a::r) c.o.dst p.1 fr.df s) rfl
 |.seq a b,fr,s=>H6 (kc E rd a fr s) (kc E rd b)
 | .cond c a b,fr,s=>by
  show Ct fun S=>WV (c.ev fr.tm) (evC E S rd a) (evC E S rd b) fr s;cases c.ev fr.tm with
  |none=>exact Ct.const none
  | some v=>
   cases v
   case bool x=>cases x with
    |true=>exact kc E rd a fr s
    |false=>exact kc E rd b fr s
   all_goals exact Ct.const none
 |.block id b,fr,s=>(kc E rd b fr s).map (jv id) rfl
 |.loop b,fr,s=>H6 (kc E rd b fr s) (fun fr s=>Ct.loop rd b fr s)
 |.exit _,_,_=>Ct.const _
 |.ret,_,_=>Ct.const _
 | .rf g ps asg body,fr,s=>by
  show Ct fun S=>rfR S rd (g.ev fr.tm) ps asg body fr s;unfold rfR;cases rd with
  |some _=>exact Ct.const none
  | none=>
   simp only;cases g.ev fr.tm with
   |none=>exact Ct.const none
   |some v=>
    cases v
    case fn f a c=>exact(Ct.call f _ _).map (gQ fr (Nat.succ s.next) s.next) rfl
    all_goals exact Ct.const none
 |.stk,_,_=>Ct.const _
theorem H5(E:Env)(F:IFunc)(args:List AV)(s:St):Ct fun S=>pM E S F args s:=
 (kc E none F.body _ s).map (wL E.globs F.res) rfl
theorem zsi(E:Env)(f:Nat)(args:List AV)(s:St):Ct fun S=>jc E S f args s:=by
 unfold jc;cases E.funs.get f with
 |none=>exact Ct.const none
 | some F=>
  simp only;cases zd (wY args) F.ntmps with
  |false=>exact Ct.const none
  |true=>
   simp only[cond_true];cases E.pure f with
   |true=>exact(H5 E F args _).map (Z2 s) rfl
   |false=>exact(H5 E F args _).map (mdR s.md) rfl
theorem VK(E:Env)(O:Orc)(f:Nat)(args:List AV)(s:St):Ct fun S=>pB E O S f args s:=by
 unfold pB;cases O f with
 |none=>exact zsi E f args s
 |some g=>exact Ct.const _
theorem XS(E:Env)(l:Nat)(args:List AV)(s:St):Ct fun S=>uI E S l args s:=by
 unfold uI;cases s.get l with
 |none=>exact Ct.const none
 | some o=>
  cases o
  case loop st pend tm ps asg body d=>
   simp only;cases gS tm ps args with
   |none=>exact Ct.const none
   | some tm1=>
    simp only;refine Ct.bind (k:=fun S x=>qR E S l body x) (kc E (some l) asg _ s) (fun _=>rfl) fun p=>?_;unfold qR;obtain⟨r,fr,s1⟩:=p;cases r with
    |exit i=>exact Ct.const none
    |ret=>exact Ct.const none
    | norm=>
     simp only;cases s1.get l with
     |none=>exact Ct.const none
     | some o=>
      cases o
      case loop st pend tm ps asg body d=>
       cases st with
       |ready=>exact(kc E (some l) _ fr _).map (vP l) rfl
       |busy=>exact Ct.const none
       |done=>exact Ct.const none
       |exhausted=>exact Ct.const none
      all_goals exact Ct.const none
  all_goals exact Ct.const none
theorem uE(E:Env)(O:Orc):∀n,LeS (evT E O n) (evT E O (n+1))
 |0=>⟨fun _ _ _ _ h=>by simp[evT]at h,fun _ _ _ _ _ h=>by simp[evT]at h,fun _ _ _ _ h=>by simp[evT]at h⟩
 |n+1=>
  have ih:=uE E O n
  ⟨fun f a s r h=>(VK E O f a s).up _ _ ih r h,fun rd b fr s r h=>(kc E rd (.loop b) fr s).up _ _ ih r h,fun l a s r h=>(XS E l a s).up _ _ ih r h⟩
noncomputable section
open Classical in
def zyy{α:Type}(X:Nat→Option α):Option α:=if h:∃r n,X n=some r then some (Classical.choose h)else none
theorem qV{α:Type}{X:Nat→Option α}{r:α}(h:zyy X=some r):∃n,X n=some r:=by
 unfold zyy at h;split at h
 ·rename_i hx
  cases h;exact yX hx
 ·cases h
theorem uV{α:Type}{X:Nat→Option α}(hm:∀n r,X n=some r→X (n+1)=some r){n:Nat}{r:α}(h:X n=some r):zyy X=some r:=by
 have up:∀k m r,X m=some r→X (m+k)=some r:=fun k=>by
  induction k with
  |zero=>intro m r h;exact h
  |succ k ih=>intro m r h;exact hm _ _ (ih m r h)
 unfold zyy;have hx:∃r n,X n=some r:=⟨r,n,h⟩;rw[dif_pos hx];obtain⟨m,hm'⟩:=yX hx;have h1:=up m n r h;have h2:=up n m _ hm';rw[Nat.add_comm,h1]at h2;exact h2.symm
def evW(E:Env)(O:Orc):Self:=
 ⟨fun f a s=>zyy fun n=>(evT E O n).call f a s,fun rd b fr s=>zyy fun n=>(evT E O n).loop rd b fr s,fun l a s=>zyy fun n=>(evT E O n).round l a s⟩
end
theorem GH(E:Env)(O:Orc):LimS (evT E O) (evW E O):=⟨fun _ _ _ _ h=>qV h,fun _ _ _ _ _ h=>qV h,fun _ _ _ _ h=>qV h⟩
theorem zrb{f:Nat}{a:List AV}{r:AV×St}(h:pB E O (evW E O) f a s=some r):(evW E O).call f a s=some r:=by
 obtain⟨n,hn⟩:=(VK E O f a s).fin _ _ (uE E O) (GH E O) r h;exact uV (n:=n+1) (fun n r h=>(uE E O n).call _ _ _ _ h) hn
theorem zrc{rd:Option Nat}{b:ICode}{fr:Fr}{r:Res×Fr×St}(h:evC E (evW E O) rd (.loop b) fr s=some r):(evW E O).loop rd b fr s=some r:=by
 obtain⟨n,hn⟩:=(kc E rd (.loop b) fr s).fin _ _ (uE E O) (GH E O) r h;exact uV (n:=n+1) (fun n r h=>(uE E O n).loop _ _ _ _ _ h) hn
theorem zvK{l:Nat}{a:List AV}{r:AV×St}(h:uI E (evW E O) l a s=some r):(evW E O).round l a s=some r:=by
 obtain⟨n,hn⟩:=(XS E l a s).fin _ _ (uE E O) (GH E O) r h;exact uV (n:=n+1) (fun n r h=>(uE E O n).round _ _ _ _ h) hn
theorem laid_ints{H:Type}{enc:TypeId×Value→H}{base:Nat}{spare:Nat→Bool}{held:Bool}{fuel:Nat}{e:TypeId}{k:IntKind}{cs:List Value}{vs:List Int}{p:List MemPlace}(ht:P.underlying t=some (.array n e))(he:P.underlying e=some (.int k))(hc:P.cellsOf e=1)(hct:P.cellsOf t=n)
  (h:DataW.trod enc P w base spare held fuel t cs=some (.agg (vs.map fun v=>.lit (.int k v)),p)):cs=vs.map (.int k ·):=by
 obtain⟨xs,m,rfl,hx,hlen,hn,hel⟩:=DataW.trod_array ht h;simp only[Prod.mk.injEq,DataW.agg.injEq]at hx;have hl:vs.length=n:=by
  have:=congrArg y8 hx.1;simp at this;omega
 rw[hct]at hlen;apply List.ext_getElem?;intro i;by_cases hi:i<n
 ·have h1:=hel i hi;rw[hc,Nat.mul_one]at h1;rw[yv oM]at h1;obtain⟨z,z1,z2,_⟩:=DataW.trod_int he h1;have hz:xs[i].1=.lit (.int k z):=by rw[z2]
  have hv:(vs.map fun v=>(DataW.lit (.int k v):DataW H))[i]? =(xs.map (·.1))[i]? :=by rw[hx.1]
  rw[yQ,yQ,yv oM,yv oM]at hv;simp only[zY,Option.some.injEq]at hv;rw[hz]at hv;have hvz:vs[i]=z:=by simpa using hv
  have hcs:cs[i]? =some (.int k z):=by
   have:=congrArg (fun l=>l[0]?) z1
   simpa using this
  rw[hcs,yQ,yv oM,zY,hvz]
 ·rw[yb oM,yb (by simp;omega)]
theorem Ht(φ:Phi)(k:IntKind):∀vs:List Int,VRL φ (vs.map (AV.int k ·)) (vs.map (Value.int k ·))
 |[]=>VRL.nil φ
 |v::vs=>VRL.cons (by simp only[VR]) (Ht φ k vs)
theorem glob_of{name:String}{g:Nat}{cs:Array Value}{k:IntKind}{vs:List Int}(hg:P.globalNamed name=some g)(hv:w.var? P name=some cs)(hcs:cs.toList=vs.map (Value.int k ·)):
  g<w.heap.size∧∃c e fr,w.heap[g]? =some (.cells c e fr)∧(vs.map (AV.int k ·)).length≤c.size∧∀φ,VRL φ (vs.map (AV.int k ·)) (c.toList.take (vs.map (AV.int k ·)).length):=by
 unfold World.var? at hv;rw[hg]at hv;simp only[Option.bind_some]at hv;cases hh:w.heap[g]? with
 |none=>rw[hh]at hv;cases hv
 |some o=>
  rw[hh]at hv;cases o<;>simp only at hv<;>first|(cases hv;done)|skip
  rename_i c e fr
  have hcc:c=cs:=by simpa using hv
  subst hcc;refine⟨(Array.getElem?_eq_some_iff.1 hh).1,c,e,fr,rfl,?_,fun φ=>?_⟩
  ·have:=congrArg y8 hcs;simp at this⊢;omega
  ·rw[hcs,List.take_of_length_le (by simp)];exact Ht φ k vs
theorem laid_pairs{H:Type}{enc:TypeId×Value→H}{base:Nat}{spare:Nat→Bool}{held:Bool}{fuel:Nat}{e u:TypeId}{k:IntKind}{f0 f1:Field}{cs:List Value}{vs:List (Int×Int)}{p:List MemPlace}(ht:P.underlying t=some (.array n e))(he:P.underlying e=some (.struct #[f0,f1]))
  (h0:f0.type=u∧f0.offset=0) (h1:f1.type=u∧f1.offset=1) (hu:P.underlying u=some (.int k)) (hcu:P.cellsOf u=1) (hc:P.cellsOf e=2) (hct:P.cellsOf t=n*2)
  (h:DataW.trod enc P w base spare held fuel t cs=some (.agg (vs.map fun v=>.agg [.lit (.int k v.1),.lit (.int k v.2)]),p)):cs=(vs.flatMap fun v=>[v.1,v.2]).map (.int k ·):=by
 obtain⟨xs,m,rfl,hx,hlen,hn,hel⟩:=DataW.trod_array ht h;simp only[Prod.mk.injEq,DataW.agg.injEq]at hx;have hl:vs.length=n:=by
  have:=congrArg y8 hx.1;simp at this;omega
 rw[hct]at hlen;have key:∀i (hi:i<vs.length),cs[2*i]? =some (.int k vs[i].1)∧cs[2*i+1]? =some (.int k vs[i].2):=by
  intro i hi;have g:=hel i oM;rw[hc,yv oM]at g;obtain⟨y0,y1,m',e1,e2,e3,e4⟩:=Go.ChangeShapes.trod_struct2 he g;rw[h0.1,h0.2,hcu]at e3;rw[h1.1,h1.2,hcu]at e4;obtain⟨z0,a0,b0,_⟩:=DataW.trod_int hu e3;obtain⟨z1,a1,b1,_⟩:=DataW.trod_int hu e4;have hv:(vs.map fun v=>(DataW.agg [.lit (.int k v.1),.lit (.int k v.2)]:DataW H))[i]? =(xs.map (·.1))[i]? :=by rw[hx.1]
  rw[yQ,yQ,yv oM,yv oM]at hv;simp only[zY,Option.some.injEq]at hv;rw[e1,b0,b1]at hv;simp at hv;rw[hv.1,hv.2];have c0:=congrArg (fun l=>l[0]?) a0;have c1:=congrArg (fun l=>l[0]?) a1;simp[List.getElem?_take]at c0 c1;rw[show 2*i=i*2 from yh _ _];exact⟨c0,c1⟩
 apply List.ext_getElem?;intro j;have hfl:∀(l:List (Int×Int)) (q:Nat),((l.flatMap fun v=>[v.1,v.2]).map (Value.int k ·))[q]? =if q%2=0 then (l[q/2]?).map (fun v=>Value.int k v.1)else (l[q/2]?).map (fun v=>Value.int k v.2):=by
  intro l
  induction l with
  |nil=>intro q;simp
  | cons v r ih=>
   intro q
   match q with
   |0=>simp
   |1=>simp
   |q+2=>
    have:=ih q;simp only[List.flatMap_cons,List.cons_append,List.nil_append,List.map_cons,yP];rw[this,show (q+2)%2=q%2 by omega,show (q+2)/2=q/2+1 by omega,yP]
 rw[hfl];by_cases hj:j/2<vs.length
 ·obtain⟨k1,k2⟩:=key (j/2) hj;rw[yv hj];split
  ·rw[show 2*(j/2)=j by omega]at k1;rw[k1];simp
  ·rw[show 2*(j/2)+1=j by omega]at k2;rw[k2];simp
 ·rw[yb oM,yb (l:=vs) oM];simp
def GlobAt(w:World)(g:Nat)(l:List AV):Prop:=g<w.heap.size∧∃c e fr,w.heap[g]? =some (.cells c e fr)∧l.length≤c.size∧∀φ,VRL φ l (c.toList.take l.length)
theorem globRel_of{G:List (List AV)}(h:∀i cs,G[i]? =some cs→cs≠[]→GlobAt w i cs):xS G w:=h
open Go.RowKit (Below)
noncomputable def okV(v:AV):Option (AV×St)→Bool
 |some p=>eqA v p.1
 |none=>false
theorem zqw{r:Option (AV×St)}(h:okV v r=true):∃s,r=some (v,s):=by
 cases r with
 |none=>simp[okV]at h
 |some p=>exact⟨p.2,by rw[zsF h]⟩
noncomputable def noO:Orc:=fun _=>none
noncomputable def withG(f:Nat)(g:List AV→St→Option (AV×St))(O:Orc):Orc:=fun k=>bif za f k then some g else O k
structure OrcOk(P:Program)(w0:World)(O:Orc):Prop where
 ext:Q0 O
 ok:∀f g,O f=some g→qv P w0 f g
theorem hH(P:Program)(w0:World):OrcOk P w0 noO:=⟨fun _ _ h=>by (cases h),fun _ _ h=>by (cases h)⟩
theorem OrcOk.withG{f:Nat}{g:List AV→St→Option (AV×St)}(hO:OrcOk P w0 O)(he:∀args s v s',g args s=some (v,s')→Ext s s')(hk:qv P w0 f g):OrcOk P w0 (withG f g O):=by
 refine⟨fun k h hk'=>?_,fun k h hk'=>?_⟩<;>unfold Ev.withG at hk'
 ·cases hb:za f k with
  |true=>rw[hb]at hk';simp only[cond_true,Option.some.injEq]at hk';subst hk';exact he
  |false=>rw[hb]at hk';simp only[cond_false]at hk';exact hO.ext k h hk'
 ·cases hb:za f k with
  |true=>
   rw[hb]at hk';simp only[cond_true,Option.some.injEq]at hk';subst hk';rw[xT]at hb;subst hb;exact hk
  |false=>rw[hb]at hk';simp only[cond_false]at hk';exact hO.ok k h hk'
end Go.Proofs.YtbdfljdgapkbcaaGreatDoor.Ev

/- A part of the evaluator and of its soundness: what it answers, the model's run answers. No conditions. -/
import Derived.Test.YtbdfljdgapkbcaaGreatDoorEvD
import Derived.OpenShut
import Derived.ChangeSame
set_option linter.unusedSimpArgs false
set_option linter.unusedVariables false
set_option linter.defProp false
noncomputable section
open List renaming length → zM, getElem?_eq_getElem → yU, getElem?_cons_zero → xr, getElem?_eq_none → yF, getElem?_cons_succ → xw, getElem?_map → xz, mem_cons_of_mem → xA, eq_nil_iff_forall_not_mem → xC, eq_nil_of_length_eq_zero → yS, getD_eq_getElem?_getD → xD, getElem?_append_left → yP, length_erase_of_mem → xF, contains_iff_mem → xH, mem_erase_of_ne → xI, mem_of_getElem? → xJ
open Bool renaming and_eq_true → zP, or_eq_true → zQ
open Array renaming getD_eq_getD_getElem? → xe, getElem?_eq_getElem → yf, replicate → xj, getElem?_replicate → xE, getElem?_toList → zX
open Nat renaming le_refl → zS, lt_of_not_le → xu, beq → zD, le_of_lt → xg, le_trans → zV, le_of_not_lt → xB, testBit_or → xd, zero_le → yh, mul_comm → yL, zero_add → y8, ble → zH, pred → zW
open Option renaming map_some → yA
open Classical renaming choose_spec → xG
namespace Go.Proofs.YtbdfljdgapkbcaaGreatDoor.Ev
variable {i n k nt f m:Nat}{E:Env}{P:Program}{s s' t:U}{S:Self}{A tm':zu}{v:Z}{X w w00:World}{o:AObj}{l:zr}{F:Fence}
def Pk(i:Nat)(d:DOper)(T:zu)(W t:U):LogE:={idx:=i,lo:=W.next,hi:=t.next,tch:=vn d.o.op T,wm:=qH t.wm W.next}
structure Tr(E:Env)(S:Self)(ds:zo) where
 L:Nat->List LogE
 T:Nat->zu
 W:Nat->U
 V9:Nat->zb
 skip:∀i d,ds[i]? =some d->V9 i=none->lS d.o.guard (T i)=some false/\L (i+1)=L i/\T (i+1)=vC (T i) d.o.dst qX/\W (i+1)=W i
 run:∀i d v t,ds[i]? =some d->V9 i=some (v,t)->lS d.o.guard (T i)=some true/\qG E S d.o.op (T i) (ux d (L i) (T i) (W i))=some (v,t)/\
  jW d.deps (vn d.o.op (T i)) (qH t.wm (W i).next) (L i)=true/\L (i+1)=Pk i d (T i) (W i) t::L i/\T (i+1)=vC (T i) d.o.dst v/\
  W (i+1)={t with hide:=(W i).hide,only:=(W i).only,wm:=Nat.lor (W i).wm t.wm}
def P2 {E:Env}{S:Self}:∀{ds:zo} {k:Nat} {log:List LogE} {A tm':zu} {s s':U},evD E S ds k log A s=some (tm',s')->
  ∃ (L:Nat->List LogE) (T:Nat->zu) (W:Nat->U) (V9:Nat->zb),L 0=log/\T 0=A/\W 0=s/\T (zM ds)=tm'/\W (zM ds)=s'/\
   (∀i d,ds[i]? =some d->V9 i=none->lS d.o.guard (T i)=some false/\L (i+1)=L i/\T (i+1)=vC (T i) d.o.dst qX/\W (i+1)=W i)/\
   (∀i d v t,ds[i]? =some d->V9 i=some (v,t)->lS d.o.guard (T i)=some true/\qG E S d.o.op (T i) (ux d (L i) (T i) (W i))=some (v,t)/\
    jW d.deps (vn d.o.op (T i)) (qH t.wm (W i).next) (L i)=true/\L (i+1)=Pk (k+i) d (T i) (W i) t::L i/\T (i+1)=vC (T i) d.o.dst v/\
    W (i+1)={t with hide:=(W i).hide,only:=(W i).only,wm:=Nat.lor (W i).wm t.wm})
 |[],k,log,A,tm',s,s',h=>by
  simp only[evD,x7,wF]at h;obtain⟨rfl,rfl⟩:=h;exact⟨λ_=>log,λ_=>A,λ_=>s,λ_=>none,rfl,rfl,rfl,rfl,rfl,(λi d h=>by simp at h),(λi d v t h=>by simp at h)⟩
 | o ::r,k,log,A,tm',s,s',h=>by
  simp only[evD]at h;split at h
  .rename_i p hp
   obtain⟨L,T,W,V9,h1,h2,h3,h4,h5,h6,h7⟩:=P2 h
   have hV:∃V0:zb,(V0=none->lS o.o.guard A=some false/\p.1=log/\p.2.1=vC A o.o.dst qX/\p.2.2=s)/\
     (∀v t,V0=some (v,t)->lS o.o.guard A=some true/\qG E S o.o.op A (ux o log A s)=some (v,t)/\
      jW o.deps (vn o.o.op A) (qH t.wm s.next) log=true/\p.1=Pk k o A s t::log/\p.2.1=vC A o.o.dst v/\p.2.2={t with hide:=s.hide,only:=s.only,wm:=Nat.lor s.wm t.wm}):=by
    unfold Z9 at hp;split at hp
    .rename_i hw
     cases he:qG E S o.o.op A (ux o log A s)with
     |none=>rw[he]at hp;simp[HW]at hp
     | some q=>
      rw[he]at hp;simp only[HW]at hp;cases hb:jW o.deps (vn o.o.op A) (qH q.2.wm s.next) log with
      |false=>rw[hb]at hp;simp at hp
      |true=>
       rw[hb]at hp;simp only[x6,x7]at hp;refine⟨some q,(λh=>by cases h),λv t hvt=>?_⟩
       cases hvt;subst hp;exact⟨hw,rfl,hb,rfl,rfl,rfl⟩
    .rename_i hw
     simp only[x7]at hp;subst hp;exact⟨none,λ_=>⟨hw,rfl,rfl,rfl⟩,(λv t h=>by cases h)⟩
    .cases hp
   obtain⟨V0,hV1,hV2⟩:=hV;refine⟨λi=>match i with|0=>log|i+1=>L i,λi=>match i with|0=>A|i+1=>T i,λi=>match i with|0=>s|i+1=>W i,λi=>match i with|0=>V0|i+1=>V9 i,rfl,rfl,rfl,h4,h5,?_,?_⟩
   .intro i d hd hv;cases i with
    |zero=>
     simp only[xr,x7]at hd;subst hd;obtain⟨g1,g2,g3,g4⟩:=hV1 hv;exact⟨g1,h1.trans g2,h2.trans g3,h3.trans g4⟩
    |succ i=>exact h6 i d (by simpa using hd) hv
   .intro i d v t hd hv;cases i with
    |zero=>
     simp only[xr,x7]at hd;subst hd;obtain⟨g1,g2,g3,g4,g5,g6⟩:=hV2 v t hv;exact⟨g1,g2,g3,h1.trans g4,h2.trans g5,h3.trans g6⟩
    |succ i=>
     have:=h7 i d v t (by simpa using hd) hv
     rw[show k+1+i=k+(i+1) by omega]at this
     exact this
  .cases h
def zvx{E:Env}{S:Self}{ds:zo}(h:evD E S ds 0 [] A s=some (tm',s')):
  ∃R:Tr E S ds,R.L 0=[]/\R.T 0=A/\R.W 0=s/\R.T (zM ds)=tm'/\R.W (zM ds)=s':=by
 obtain⟨L,T,W,V9,h1,h2,h3,h4,h5,h6,h7⟩:=P2 h;exact⟨⟨L,T,W,V9,h6,λi d v t hd hv=>by have:=h7 i d v t hd hv;rw[y8]at this;exact this⟩,h1,h2,h3,h4,h5⟩
section
variable {E:Env}{S:Self}{ds:zo}(R:Tr E S ds)
def Tr.wr(i Y:Nat):Prop:=∃v t,R.V9 i=some (v,t)/\((R.W i).next<=Y/\Y<t.next\/Y<(R.W i).next/\t.wm.testBit Y=true)
structure Tr.Ok:Prop where
 l0:R.L 0=[]
 only:(R.W 0).only=none
 wf:Wf (R.W 0)
variable {R}
def uX(h:i<zM ds):∃d,ds[i]? =some d:=⟨ds[i],by simp[h]⟩
def Tr.facts(hS:ExtS S)(ok:R.Ok):∀i,i<=zM ds->(R.W i).only=none/\Wf (R.W i)/\(R.W i).hide=(R.W 0).hide/\(∀e∈R.L i,e.hi<=(R.W i).next)/\Ext (R.W 0) (R.W i)
 |0,_=>⟨ok.only,ok.wf,rfl,by rw[ok.l0];simp,Ext.refl _⟩
 | i+1,hi=>by
  obtain⟨h1,h2,h3,h4,h5⟩:=Tr.facts hS ok i J;obtain⟨d,hd⟩:=uX (ds:=ds) (i:=i) J;cases hv:R.V9 i with
  |none=>
   obtain⟨_,g2,_,g4⟩:=R.skip i d hd hv;rw[g2,g4];exact⟨h1,h2,h3,h4,h5⟩
  |some p=>
   obtain⟨_,g2,_,g4,_,g6⟩:=R.run i d p.1 p.2 hd hv;have hx:=Gm h1 h4 (gq hS g2);rw[<-g6]at hx;refine⟨hx.only.trans h1,hx.wf h2,hx.hide.trans h3,λe he=>?_,h5.trans hx⟩;rw[g4]at he;rcases List.mem_cons.1 he with rfl|he
   .rw[g6];exact zS _
   .exact zV (h4 e he) hx.next
def Tr.ext(hS:ExtS S)(ok:R.Ok)(hi:i<List.length ds):Ext (R.W i) (R.W (i+1)):=by
 obtain⟨h1,h2,h3,h4,h5⟩:=R.facts hS ok i J;obtain⟨d,hd⟩:=uX (ds:=ds) hi;cases hv:R.V9 i with
 |none=>obtain⟨_,g2,_,g4⟩:=R.skip i d hd hv;rw[g4];exact Ext.refl _
 |some p=>
  obtain⟨_,g2,_,g4,_,g6⟩:=R.run i d p.1 p.2 hd hv;rw[g6];exact Gm h1 h4 (gq hS g2)
def Tr.next_le(hS:ExtS S)(ok:R.Ok):∀{i j:Nat},i<=j->j<=zM ds->(R.W i).next<=(R.W j).next
 |i,0,h,_=>by (have:i=0:=by omega);subst this;exact Nat.le_refl _
 |i,j+1,h,hj=>by
  by_cases e:i=j+1
  .subst e;exact zS _
  .exact zV (Tr.next_le hS ok (i:=i) (j:=j) J J) (R.ext hS ok (i:=j) J).next
def Tr.keep1(hS:ExtS S)(ok:R.Ok){Y:Nat}(hi:i<List.length ds)(hw:¬R.wr i Y):(R.W (i+1)).objs.get Y=(R.W i).objs.get Y:=by
 obtain⟨h1,h2,h3,h4,h5⟩:=R.facts hS ok i J;obtain⟨g1,g2',_⟩:=R.facts hS ok (i+1) J;obtain⟨d,hd⟩:=uX (ds:=ds) hi;cases hv:R.V9 i with
 |none=>obtain⟨_,_,_,g4⟩:=R.skip i d hd hv;rw[g4]
 | some p=>
  obtain⟨_,g2,_,g4,_,g6⟩:=R.run i d p.1 p.2 hd hv;have hx:=gq hS g2;by_cases hlt:Y<(R.W i).next
  .have hb:p.2.wm.testBit Y=false:=by
    cases hb:p.2.wm.testBit Y with
    |false=>rfl
    |true=>exact absurd ⟨p.1,p.2,hv,.inr ⟨hlt,hb⟩⟩ hw
   rw[g6];exact hx.keep Y hlt hb
  .have hge:¬Y<p.2.next:=λh=>hw ⟨p.1,p.2,hv,.inl ⟨J,h⟩⟩
   have e1:(R.W i).objs.get Y=none:=by
    cases he:(R.W i).objs.get Y with
    |none=>rfl
    |some o=>exact absurd (h2.lt Y o he) hlt
   have e2:(R.W (i+1)).objs.get Y=none:=by
    cases he:(R.W (i+1)).objs.get Y with
    |none=>rfl
    |some o=>have:=g2'.lt Y o he;rw[g6]at this;exact absurd this hge
   rw[e1,e2]
def Tr.keepN(hS:ExtS S)(ok:R.Ok){Y:Nat}:∀{i j:Nat},i<=j->j<=zM ds->(∀k,i<=k->k<j->¬R.wr k Y)->(R.W j).objs.get Y=(R.W i).objs.get Y
 |i,0,h,_,_=>by (have:i=0:=by omega);subst this;rfl
 |i,j+1,h,hj,hw=>by
  by_cases e:i=j+1
  .subst e;rfl
  .exact(R.keep1 hS ok J (hw j J J)).trans (Tr.keepN hS ok (i:=i) (j:=j) J J λk h1 h2=>hw k h1 J)
def Tr.logged(hS:ExtS S)(ok:R.Ok){j:Nat}{d:DOper}{v:Z}{t:U}(hd:ds[j]? =some d)(hv:R.V9 j=some (v,t)):∀{i:Nat},j<i->i<=zM ds->Pk j d (R.T j) (R.W j) t∈R.L i
 |0,h,_=>by omega
 | i+1,h,hi=>by
  obtain⟨di,hdi⟩:=uX (ds:=ds) (i:=i) J;by_cases e:j=i
  .subst e;rw[hd]at hdi;cases hdi;obtain⟨_,_,_,g4,_⟩:=R.run j d v t hd hv;rw[g4];simp
  .have ih:=Tr.logged hS ok hd hv (i:=i) J J;cases hvi:R.V9 i with
   |none=>obtain⟨_,g2,_⟩:=R.skip i di hdi hvi;rw[g2];exact ih
   |some p=>obtain⟨_,_,_,g4,_⟩:=R.run i di p.1 p.2 hdi hvi;rw[g4];exact xA _ ih
end
def pD{deps wm:Nat}{tch:Option zr}:∀{log:List LogE},jW deps tch wm log=true->∀e∈log,deps.testBit e.idx=false->(wm=0\/offMask wm e.tch=true)/\(e.wm=0\/offMask e.wm tch=true)
 |[],_,e,he,_=>by simp at he
 | x::r,h,e,he,hb=>by
  simp only[jW]at h;cases hd:deps.testBit x.idx with
  |true=>
   rw[hd]at h;simp only[x6]at h;rcases List.mem_cons.1 he with rfl|he
   .rw[hd]at hb;cases hb
   .exact pD h e he hb
  | false=>
   rw[hd]at h;simp only[wh]at h;cases hc:((zD wm 0||offMask wm x.tch)&&(zD x.wm 0||offMask x.wm tch))with
   |false=>rw[hc]at h;simp at h
   |true=>
    rw[hc]at h;simp only[x6]at h;rcases List.mem_cons.1 he with rfl|he
    .rw[zP,zQ,zQ,wH,wH]at hc;exact hc
    .exact pD h e he hb
def QL{deps:Nat}{h:zg}{Y:Nat}:∀{log:List LogE},∀e∈log,deps.testBit e.idx=false->e.lo<=Y->Y<e.hi->hid (vu deps log h) Y=true
 |[],e,he,_,_,_=>by simp at he
 | x::r,e,he,hb,h1,h2=>by
  simp only[vu];rcases List.mem_cons.1 he with rfl|he
  .have:(zD e.lo e.hi||deps.testBit e.idx)=false:=by
    rw[hb,Bool.or_false,Bool.eq_false_iff,ne_eq,wH];omega
   rw[this];simp only[wh,hid];rw[show zH e.lo Y=true from wB.2 h1,show Nat.blt Y e.hi=true from w9.2 h2];rfl
  .have ih:=QL (h:=h) e he hb h1 h2;cases hc:(zD x.lo x.hi||deps.testBit x.idx)with
   |true=>simp only[x6];exact ih
   |false=>
    simp only[wh,hid];cases zH x.lo Y<;>cases Nat.blt Y x.hi<;>simp[ih]
def X6{a:Nat}(h:offMask m (some l)=true)(ha:a∈l):m.testBit a=false:=by
 simp only[offMask]at h
 induction l with
 |nil=>simp at ha
 | cons x r ih=>
  simp only[offMask.go]at h;cases hx:m.testBit x with
  |true=>rw[hx]at h;simp at h
  |false=>
   rw[hx]at h;simp only[wh]at h;rcases List.mem_cons.1 ha with rfl|ha
   .exact hx
   .exact ih h ha
def Zr(m n i:Nat):(qH m n).testBit i=(decide (i<n)&&m.testBit i):=by
 show (m%2^n).testBit i=_;rw[Nat.testBit_mod_two_pow]
open Go.RowKit (Below)
section
variable {E:Env}{S:Self}{ds:zo}(R:Tr E S ds)
def wt(ds:zo)(j t:Nat):Prop:=∃d,ds[j]? =some d/\d.o.dst=some t
def Tr.cur(D:Nat->Prop)(Y:Nat)(o:AObj):Prop:=
 (Y<(R.W 0).next->seen (R.W 0) Y=true)/\∃m,m<=zM ds/\(∀j,j<m->R.wr j Y->D j)/\(∀j,m<=j->j<zM ds->R.wr j Y->¬D j)/\(R.W m).objs.get Y=some o
def Tr.curA(D:Nat->Prop)(Y:Nat)(o:AObj)(m:Nat):Prop:=
 (Y<(R.W 0).next->seen (R.W 0) Y=true)/\m<=zM ds/\(∀j,j<m->R.wr j Y->D j)/\(∀j,m<=j->j<zM ds->R.wr j Y->¬D j)/\(R.W m).objs.get Y=some o
structure Inv(P:Program)(X:World)(φ0:Phi)(w00:World)(nt:Nat)(a0:Act)(D:Nat->Prop)(I:Phi)(w:World)(a:Act):Prop where
 base:Below X.heap.size X w
 obj:∀Y o m,R.curA D Y o m->∃B,I Y=some B/\ObjRel P (I.cut (R.W m).next) w o B
 rng:∀Y B,I Y=some B->B.b<w.heap.size
 old:∀Y o B,R.cur D Y o->I Y=some B->B.b<X.heap.size->vN o=true
 inj:∀Y id' o o' B B',R.cur D Y o->R.cur D id' o'->I Y=some B->I id'=some B'->B.b=B'.b->Y=id'\/B.b<X.heap.size
 out:∀Y,(Y<(R.W 0).next\/(R.W (zM ds)).next<=Y)->I Y=φ0 Y
 fresh:∀i,i<zM ds->¬D i->∀Y,(R.W i).next<=Y->Y<(R.W (i+1)).next->I Y=none
 tmp:∀t v m,m<=zM ds->(∀j,j<m->wt ds j t->D j)->(∀j,m<=j->j<zM ds->wt ds j t->¬D j)->(R.T m).get t=some v->VR (I.cut (R.W m).next) v (a.tmps.getD t undef)
 size:a.tmps.size=nt
 df:a.defers=a0.defers
 grow:w00.heap.size<=w.heap.size
 own:∀Y B,(R.W 0).next<=Y->Y<(R.W (zM ds)).next->I Y=some B->w00.heap.size<=B.b\/∃id0 o0 B0,(R.W 0).get id0=some o0/\φ0 id0=some B0/\B0.b=B.b/\(R.W (zM ds)).wm.testBit id0=true
 frame:∀b,b<w00.heap.size->(∀Y o B,(R.W 0).get Y=some o->φ0 Y=some B->B.b=b->(R.W (zM ds)).wm.testBit Y=false)->w.heap[b]? =w00.heap[b]?
 frz:∀b o v,I.z b o=some v->∃c e fr,w.heap[b]? =some (.cells c e fr)/\c[o]? =some v
 sep:∀Y o B,R.cur D Y o->I Y=some B->SepOf o B I.z
 zsub:∀b o v,φ0.z b o=some v->I.z b o=some v
 zown:∀b o v,I.z b o=some v->φ0.z b o=some v\/w00.heap.size<=b\/∃id0 o0 B0,(R.W 0).get id0=some o0/\φ0 id0=some B0/\B0.b=b/\(R.W (zM ds)).wm.testBit id0=true
def more(D:Nat->Prop)(i:Nat):Nat->Prop:=λj=>D j\/j=i
structure Ready(D:Nat->Prop)(i:Nat):Prop where
 lt:i<zM ds
 new:¬D i
 deps:∀d j,ds[i]? =some d->d.deps.testBit j=true->j<zM ds->D j
structure Closed(ds:zo)(D:Nat->Prop):Prop where
 dep:∀i d j,D i->ds[i]? =some d->d.deps.testBit j=true->j<zM ds->D j
variable {R}
def Tr.cur_of_A{D:Nat->Prop}{Y:Nat}(h:R.curA D Y o m):R.cur D Y o:=⟨h.1,m,h.2⟩
def Tr.A_of_cur{D:Nat->Prop}{Y:Nat}(h:R.cur D Y o):∃m,R.curA D Y o m:=let ⟨h0,m,h1⟩:=h;⟨m,h0,h1⟩
def Tr.wr_lt(hS:ExtS S)(_ok:R.Ok){Y:Nat}(hi:i<List.length ds)(h:R.wr i Y):Y<(R.W (i+1)).next:=by
 obtain⟨v,t,hv,h1⟩:=h;obtain⟨d,hd⟩:=uX (ds:=ds) hi;obtain⟨_,g2,_,_,_,g6⟩:=R.run i d v t hd hv;have hx:=(gq hS g2).next
 have:(R.W (i+1)).next=t.next:=by rw[g6]
 have hx':(R.W i).next<=t.next:=hx
 rw[this];rcases h1 with h1|h1<;>omega
def Tr.wm_le(hS:ExtS S)(ok:R.Ok):∀{i j:Nat},i<=j->j<=zM ds->∀Y,(R.W i).wm.testBit Y=true->(R.W j).wm.testBit Y=true
 |i,0,h,_,Y,hb=>by
  have:i=0:=J;subst this;exact hb
 |i,j+1,h,hj,Y,hb=>by
  by_cases e:i=j+1
  .subst e;exact hb
  .exact(R.ext hS ok (i:=j) J).wm Y (Tr.wm_le hS ok (i:=i) (j:=j) J J Y hb)
def Tr.wm_run(hS:ExtS S)(ok:R.Ok)(hi:i<List.length ds)(hv:R.V9 i=some (v,t)){Y:Nat}(hb:t.wm.testBit Y=true):(R.W (List.length ds)).wm.testBit Y=true:=by
 obtain⟨d,hd⟩:=uX (ds:=ds) hi;obtain⟨_,_,_,_,_,g6⟩:=R.run i d v t hd hv;refine Tr.wm_le hS ok (i:=i+1) J (zS _) Y ?_;rw[g6];show ((R.W i).wm|||t.wm).testBit Y=true
 rw[xd,hb,Bool.or_true]
def Tr.sees(hS:ExtS S)(ok:R.Ok){D:Nat->Prop}(hcl:Closed ds D)(hr:Ready (ds:=ds) D i){d:DOper}(hd:ds[i]? =some d)(hv:R.V9 i=some (v,t)){Y:Nat}(hsee:seen (ux d (R.L i) (R.T i) (R.W i)) Y=true)(hlt:Y<(R.W i).next):
  (Y<(R.W 0).next->seen (R.W 0) Y=true)/\(∀j,j<i->R.wr j Y->D j)/\(∀j,i<=j->j<zM ds->R.wr j Y->¬D j):=by
 obtain⟨f1,f2,f3,f4,f5⟩:=R.facts hS ok i (by have:=hr.lt;omega)
 have hs1:=PO f1 hsee;have htch:∀l,vn d.o.op (R.T i)=some l->Y∈l:=by
  intro l hl;unfold seen at hsee;simp only[ux,hl,yA,zP,zQ]at hsee;rcases hsee.2 with h1|h1
  .rw[wB]at h1;omega
  .rw[Zp,xH]at h1;exact h1
 have hnh:hid (vu d.deps (R.L i) (R.W i).hide) Y=false:=by
  cases hh:hid (vu d.deps (R.L i) (R.W i).hide) Y with
  |false=>rfl
  |true=>
   exfalso
   unfold seen at hsee;simp only[ux]at hsee;split at hsee
   .rw[hh]at hsee;cases hsee
   .rw[hh]at hsee;cases hsee
 obtain⟨_,g2,g3,_,_,_⟩:=R.run i d v t hd hv;refine⟨λ_=>by rw[<-uw f3 (f1.trans ok.only.symm)];exact hs1,λj hj hw=>?_,λj hj hjn hw hD=>?_⟩
 .obtain⟨vj,tj,hvj,hwj⟩:=hw;obtain⟨dj,hdj⟩:=uX (ds:=ds) (i:=j) (by have:=hr.lt;omega)
  have hmem:=R.logged hS ok hdj hvj (i:=i) hj (by have:=hr.lt;omega)
  cases hb:d.deps.testBit j with
  |true=>exact hr.deps d j hd hb (by have:=hr.lt;omega)
  | false=>
   exfalso
   rcases hwj with ⟨h1,h2⟩|⟨h1,h2⟩
   .have:=QL (deps:=d.deps) (h:=(R.W i).hide) (Y:=Y) _ hmem hb h1 h2;rw[hnh]at this;cases this
   .obtain⟨_,hc⟩:=pD g3 _ hmem hb;have hbit:(Pk j dj (R.T j) (R.W j) tj).wm.testBit Y=true:=by
     show (qH tj.wm (R.W j).next).testBit Y=true
     rw[Zr,h2];simp[h1]
    rcases hc with hc|hc
    .rw[hc]at hbit;simp at hbit
    .cases ht:vn d.o.op (R.T i)with
     |none=>rw[ht]at hc;simp[offMask]at hc
     |some l=>rw[ht]at hc;rw[X6 hc (htch l ht)]at hbit;cases hbit
 .have hne:j≠i:=λe=>hr.new (e▸hD);obtain⟨vj,tj,hvj,hwj⟩:=hw;obtain⟨dj,hdj⟩:=uX (ds:=ds) hjn;obtain⟨_,_,k3,_⟩:=R.run j dj vj tj hdj hvj;have hb:dj.deps.testBit i=false:=by
   cases hb:dj.deps.testBit i with
   |false=>rfl
   |true=>exact absurd (hcl.dep j dj i hD hdj hb hr.lt) hr.new
  have hmem:=R.logged hS ok hd hv (i:=j) J J;have hle:=R.next_le hS ok (i:=i) (j:=j) J J;rcases hwj with ⟨h1,h2⟩|⟨h1,h2⟩
  .omega
  .obtain⟨hc,_⟩:=pD k3 _ hmem hb;have hbit:(qH tj.wm (R.W j).next).testBit Y=true:=by rw[Zr,h2];simp[h1]
   rcases hc with hc|hc
   .rw[hc]at hbit;simp at hbit
   .have hc':offMask (qH tj.wm (R.W j).next) (vn d.o.op (R.T i))=true:=hc
    cases ht:vn d.o.op (R.T i)with
    |none=>rw[ht]at hc';simp[offMask]at hc'
    |some l=>rw[ht]at hc';rw[X6 hc' (htch l ht)]at hbit;cases hbit
end
theorem MC:∀{h:zg} {n Y:Nat},(∀p∈h,p.2<=n)->n<=Y->hid h Y=false
 |[],_,_,_,_=>rfl
 |p::r,n,Y,hp,hle=>by
  have h1:=hp p (by simp)
  simp only[hid];rw[show Nat.blt Y p.2=false from AU J,MC (λq hq=>hp q (by simp[hq])) hle]
  cases zH p.1 Y<;>rfl
def UK{deps n:Nat}{h:zg}:∀{log:List LogE},(∀p∈h,p.2<=n)->(∀e∈log,e.hi<=n)->∀p∈vu deps log h,p.2<=n
 |[],hh,_,p,hp=>hh p hp
 | e::r,hh,hl,p,hp=>by
  simp only[vu]at hp;cases hb:(zD e.lo e.hi||deps.testBit e.idx)with
  |true=>rw[hb]at hp;simp only[x6]at hp;exact UK hh (λe' he'=>hl e' (by simp[he'])) p hp
  |false=>
   rw[hb]at hp;simp only[wh,List.mem_cons]at hp;rcases hp with rfl|hp
   .exact hl e (by simp)
   .exact UK hh (λe' he'=>hl e' (by simp[he'])) p hp
section
variable {E:Env}{S:Self}{ds:zo}{R:Tr E S ds}
def Tr.begWf(hS:ExtS S)(ok:R.Ok)(hi:i<List.length ds)(d:DOper):Wf (ux d (R.L i) (R.T i) (R.W i)):=by
 obtain⟨f1,f2,f3,f4,f5⟩:=R.facts hS ok i J;exact⟨f2.lt,λp hp=>UK f2.hd f4 p hp⟩
def Tr.wr_seen(hS:ExtS S)(ok:R.Ok){Y:Nat}(hi:i<List.length ds){d:DOper}(hd:ds[i]? =some d)(h:R.wr i Y):seen (ux d (R.L i) (R.T i) (R.W i)) Y=true:=by
 obtain⟨v,t,hv,h1⟩:=h;obtain⟨_,g2,_,_,_,g6⟩:=R.run i d v t hd hv;have hx:=gq hS g2;rcases h1 with ⟨h1,h2⟩|⟨h1,h2⟩
 .have hh:=MC (R.begWf hS ok hi d).hd (Y:=Y) h1;unfold seen;cases ht:vn d.o.op (R.T i)with
  |none=>simp only[ux,ht,Option.map_none];simp only[ux]at hh;rw[hh];rfl
  |some l=>
   simp only[ux,ht,yA];simp only[ux]at hh;rw[hh];rw[show zH (R.W i).next Y=true from wB.2 h1];rfl
 .rcases hx.wv Y h1 h2 with h3|h3
  .simp[ux]at h3
  .exact h3
def Tr.wr_order(hS:ExtS S)(ok:R.Ok){Y:Nat}(hik:i<k)(hk:k<List.length ds){dk:DOper}(hdk:ds[k]? =some dk)(h1:R.wr i Y)(h2:R.wr k Y):dk.deps.testBit i=true:=by
 cases hb:dk.deps.testBit i with
 |true=>rfl
 | false=>
  exfalso
  have hsee:=R.wr_seen hS ok hk hdk h2;have hlt1:=R.wr_lt hS ok J h1;have hle:=R.next_le hS ok (i:=i+1) (j:=k) J J;obtain⟨di,hdi⟩:=uX (ds:=ds) (i:=i) J;obtain⟨vi,ti,hvi,hwi⟩:=h1;obtain⟨vk,tk,hvk,hwk⟩:=h2;obtain⟨_,_,k3,_⟩:=R.run k dk vk tk hdk hvk;have hmem:=R.logged hS ok hdi hvi (i:=k) hik J;rcases hwi with ⟨q1,q2⟩|⟨q1,q2⟩
  .have:=QL (deps:=dk.deps) (h:=(R.W k).hide) (Y:=Y) _ hmem hb q1 q2;unfold seen at hsee;simp only[ux]at hsee;split at hsee
   .rw[this]at hsee;cases hsee
   .rw[this]at hsee;cases hsee
  .obtain⟨_,hc⟩:=pD k3 _ hmem hb;have hbit:(Pk i di (R.T i) (R.W i) ti).wm.testBit Y=true:=by
    show (qH ti.wm (R.W i).next).testBit Y=true
    rw[Zr,q2];simp[q1]
   rcases hc with hc|hc
   .rw[hc]at hbit;simp at hbit
   .cases ht:vn dk.o.op (R.T k)with
    |none=>rw[ht]at hc;simp[offMask]at hc
    | some l=>
     rw[ht]at hc;have hin:Y∈l:=by
      unfold seen at hsee;simp only[ux,ht,yA,zP,zQ]at hsee;rcases hsee.2 with h3|h3
      .rw[wB]at h3;omega
      .rw[Zp,xH]at h3;exact h3
     rw[X6 hc hin]at hbit;cases hbit
def Tr.curA_split(hS:ExtS S)(ok:R.Ok){D:Nat->Prop}(hcl:Closed ds D)(hr:Ready (ds:=ds) D i){Y:Nat}(h:R.curA (more D i) Y o m):
  (R.wr i Y/\i<m/\(R.W (i+1)).objs.get Y=some o)\/(¬R.wr i Y/\R.curA D Y o m):=by
 obtain⟨h0,hm,h1,h2,h3⟩:=h;by_cases hw:R.wr i Y
 .left
  have him:i<m:=by
   apply xu;intro hle;exact h2 i hle hr.lt hw (.inr rfl)
  refine⟨hw,him,?_⟩;rw[<-h3];refine(R.keepN hS ok (i:=i+1) (j:=m) J hm λk hk1 hk2 hwk=>?_).symm;have hDk:D k:=(h1 k hk2 hwk).resolve_right J;obtain⟨dk,hdk⟩:=uX (ds:=ds) (i:=k) J;exact hr.new (hcl.dep k dk i hDk hdk (R.wr_order hS ok J J hdk hw hwk) hr.lt)
 .right
  exact⟨hw,h0,hm,λj hj hwj=>(h1 j hj hwj).resolve_right (λe=>hw (e▸hwj)),λj hj hjn hwj hD=>h2 j hj hjn hwj (.inl hD),h3⟩
def Tr.cur_split(hS:ExtS S)(ok:R.Ok){D:Nat->Prop}(hcl:Closed ds D)(hr:Ready (ds:=ds) D i){Y:Nat}(h:R.cur (more D i) Y o):
  (R.wr i Y/\(R.W (i+1)).objs.get Y=some o)\/(¬R.wr i Y/\R.cur D Y o):=by
 obtain⟨m,hA⟩:=R.A_of_cur h;rcases R.curA_split hS ok hcl hr hA with ⟨h1,_,h2⟩|⟨h1,h2⟩
 .exact .inl ⟨h1,h2⟩
 .exact .inr ⟨h1,R.cur_of_A h2⟩
end
section
variable {E:Env}{S:Self}{ds:zo}{R:Tr E S ds}
variable {P:Program}{X:World}{φ0:Phi}{w00:World}{nt:Nat}{a0:Act}{D:Nat->Prop}{I I':Phi}{w w':World}{a:Act}{i:Nat}{d:DOper}{v:Z}{t:U}{x:Value}
def Q3(ds:zo):Prop:=∀(j k:Nat) (dj dk:DOper),j<k->ds[j]? =some dj->ds[k]? =some dk->Jt dj.o dk.o=true->dk.deps.testBit j=true
def rW(ds:zo)(nt:Nat):Prop:=∀(j:Nat) (dj:DOper) (t:Nat),ds[j]? =some dj->dj.o.dst=some t->t<nt
def Inv.curA_of(hS:ExtS S)(ok:R.Ok)(hcl:Closed ds D)(hr:Ready (ds:=ds) D i)(hd:ds[i]? =some d)(hv:R.V9 i=some (v,t)){Y:Nat}(hg:(ux d (R.L i) (R.T i) (R.W i)).get Y=some o):R.curA D Y o i:=by
 have h1:(ux d (R.L i) (R.T i) (R.W i)).objs.get Y=some o:=wZ hg;obtain⟨f1,f2,_⟩:=R.facts hS ok i (by have:=hr.lt;omega)
 obtain⟨k1,k2,k3⟩:=R.sees hS ok hcl hr hd hv (vl hg) (f2.lt Y o h1);exact⟨k1,xg hr.lt,k2,k3,h1⟩
def Inv.cur_of(hS:ExtS S)(ok:R.Ok)(hcl:Closed ds D)(hr:Ready (ds:=ds) D i)(hd:ds[i]? =some d)(hv:R.V9 i=some (v,t)){Y:Nat}(hg:(ux d (R.L i) (R.T i) (R.W i)).get Y=some o):R.cur D Y o:=
 R.cur_of_A (Inv.curA_of hS ok hcl hr hd hv hg)
def Inv.rel(hS:ExtS S)(ok:R.Ok)(hcl:Closed ds D)(hr:Ready (ds:=ds) D i)(hd:ds[i]? =some d)(hv:R.V9 i=some (v,t))(inv:Inv R P X φ0 w00 nt a0 D I w a):Rel P X (I.cut (R.W i).next) (ux d (R.L i) (R.T i) (R.W i)).get w:=by
 obtain⟨_,f2,_⟩:=R.facts hS ok i (by have:=hr.lt;omega)
 have hlt:∀{Y o},(ux d (R.L i) (R.T i) (R.W i)).get Y=some o->Y<(R.W i).next:=λ{Y o} hg=>f2.lt Y o (wZ (s:=ux d (R.L i) (R.T i) (R.W i)) hg)
 refine⟨inv.base,λY o h=>?_,λY B hB=>inv.rng Y B (Phi.cut_some hB).2,λY o B h hB=>inv.old Y o B (Inv.cur_of hS ok hcl hr hd hv h) (Phi.cut_some hB).2,λY id' o o' B B' h h' hB hB'=>inv.inj Y id' o o' B B' (Inv.cur_of hS ok hcl hr hd hv h) (Inv.cur_of hS ok hcl hr hd hv h') (Phi.cut_some hB).2 (Phi.cut_some hB').2,inv.frz,λY o B h hB=>inv.sep Y o B (Inv.cur_of hS ok hcl hr hd hv h) (Phi.cut_some hB).2⟩;obtain⟨B,hB,ht⟩:=inv.obj Y o i (Inv.curA_of hS ok hcl hr hd hv h);exact⟨B,(Phi.cut_lt I (hlt h)).trans hB,ht⟩
def Vj{p q:SOper}(h:p.dst=some k)(hq:k∈q.names\/q.dst=some k):Jt p q=true:=by
 have mem:∀{n:Nat} {l:zr},n∈l->QO n l=true:=by
  intro n l
  induction l with
  |nil=>intro h;simp at h
  |cons m r ih=>
   intro h;simp only[QO,zQ];rcases List.mem_cons.1 h with rfl|h
   .exact .inl (wH.2 rfl)
   .exact .inr (ih h)
 unfold Jt;rw[h];rcases hq with hq|hq
 .simp[mem hq]
 .simp[hq]
def K7{p q:SOper}(h:q.dst=some k)(hp:k∈p.names):Jt p q=true:=by
 have mem:∀{n:Nat} {l:zr},n∈l->QO n l=true:=by
  intro n l
  induction l with
  |nil=>intro h;simp at h
  |cons m r ih=>
   intro h;simp only[QO,zQ];rcases List.mem_cons.1 h with rfl|h
   .exact .inl (wH.2 rfl)
   .exact .inr (ih h)
 unfold Jt;rw[h];simp[mem hp]
def Inv.names(hck:Q3 ds)(hcl:Closed ds D)(hr:Ready (ds:=ds) D i)(hd:ds[i]? =some d)(inv:Inv R P X φ0 w00 nt a0 D I w a):TmOn (I.cut (R.W i).next) d.o.names (R.T i) a:=by
 intro k hk u hu;refine inv.tmp k u i (by have:=hr.lt;omega) (λj hj hw=>?_) (λj hj hjn hw hD=>?_) hu
 .obtain⟨dj,hdj,hdst⟩:=hw;exact hr.deps d j hd (hck j i dj d hj hdj hd (Vj hdst (.inl hk))) (by have:=hr.lt;omega)
 .obtain⟨dj,hdj,hdst⟩:=hw;have hne:j≠i:=λe=>hr.new (e▸hD);exact hr.new (hcl.dep j dj i hD hdj (hck i j d dj J hd hdj (K7 hdst hk)) hr.lt)
def Inv.tmp_step(hck:Q3 ds)(hdo:rW ds nt)(hcl:Closed ds D)(hr:Ready (ds:=ds) D i)(hd:ds[i]? =some d)(inv:Inv R P X φ0 w00 nt a0 D I w a)(hS:ExtS S)(ok:R.Ok)(hsub:Sub I I')(hT:R.T (i+1)=vC (R.T i) d.o.dst v)(hTn:∀j dj,ds[j]? =some dj->∀k,dj.o.dst≠some k->(R.T (j+1)).get k=(R.T j).get k)(hx:VR (I'.cut (R.W (i+1)).next) v x):
  ∀k u m,m<=zM ds->(∀j,j<m->wt ds j k->more D i j)->(∀j,m<=j->j<zM ds->wt ds j k->¬more D i j)->(R.T m).get k=some u->VR (I'.cut (R.W m).next) u ((a.put d.o.dst x).tmps.getD k undef):=by
 intro k u m hm h1 h2 hu;by_cases hk:d.o.dst=some k
 .have hwi:wt ds i k:=⟨d,hd,hk⟩;have him:i<m:=by
   apply xu;intro hle;exact h2 i hle hr.lt hwi (.inr rfl)
  have key:∀q,i+1<=q->q<=m->(R.T q).get k=(R.T (i+1)).get k:=by
   intro q
   induction q with
   |zero=>intro h;omega
   | succ q ih=>
    intro hq1 hq2;by_cases e:q=i
    .subst e;rfl
    .obtain⟨dq,hdq⟩:=uX (ds:=ds) (i:=q) J;rw[hTn q dq hdq k (λhdst=>?_)]
     .exact ih J J
     .have hDq:D q:=(h1 q J ⟨dq,hdq,hdst⟩).resolve_right e;exact hr.new (hcl.dep q dq i hDq hdq (hck i q d dq J hd hdq (Vj hk (.inr hdst))) hr.lt)
  rw[key m J (zS _),hT,hk]at hu;simp only[vC,Trie.get_set_same,x7]at hu;subst hu;rw[hk];have hlt:k<a.tmps.size:=by rw[inv.size];exact hdo i d k hd hk
  simp only[Act.put];rw[XS _ _ _ _ hlt,wc rfl];exact VR.mono (Sub.cut (Sub.refl _) (R.next_le hS ok him hm)) _ _ hx
 .have hput:(a.put d.o.dst x).tmps.getD k undef=a.tmps.getD k undef:=by
   cases hdst:d.o.dst with
   |none=>rfl
   |some e=>
    simp only[Act.put];have hlt:e<a.tmps.size:=by rw[inv.size];exact hdo i d e hd hdst
    rw[XS _ _ _ _ hlt,x0 (λh=>hk (by rw[hdst,h]))]
  rw[hput];have hni:¬wt ds i k:=λ⟨d',hd',hk'⟩=>by rw[hd]at hd';cases hd';exact hk hk'
  exact VR.mono (hsub.cut (zS _)) _ _ (inv.tmp k u m hm (λj hj hw=>(h1 j hj hw).resolve_right (λe=>hni (e▸hw))) (λj hj hjn hw hD=>h2 j hj hjn hw (.inl hD)) hu)
def Tr.T_other{j:Nat}{dj:DOper}(hdj:ds[j]? =some dj)(hk:dj.o.dst≠some k):(R.T (j+1)).get k=(R.T j).get k:=by
 have:∀u,(vC (R.T j) dj.o.dst u).get k=(R.T j).get k:=λu=>by
  cases hdst:dj.o.dst with
  |none=>rfl
  |some e=>simp only[vC];exact Trie.get_set_ne _ _ (λh=>hk (by rw[hdst,h]))
 cases hv:R.V9 j with
 |none=>obtain⟨_,_,g3,_⟩:=R.skip j dj hdj hv;rw[g3];exact this _
 |some p=>obtain⟨_,_,_,_,g5,_⟩:=R.run j dj p.1 p.2 hdj hv;rw[g5];exact this _
end
section
variable {E:Env}{S:Self}{ds:zo}{R:Tr E S ds}
variable {P:Program}{X:World}{φ0:Phi}{w00:World}{nt:Nat}{a0:Act}{D:Nat->Prop}{I I':Phi}{w w':World}{a:Act}{i:Nat}{d:DOper}{v:Z}{t:U}{x:Value}
def po(dst:zw):(a.put dst x).tmps.size=a.tmps.size/\(a.put dst x).defers=a.defers:=by
 cases dst<;>simp[Act.put]
def Inv.skip(hS:ExtS S)(ok:R.Ok)(hck:Q3 ds)(hdo:rW ds nt)(hcl:Closed ds D)(hr:Ready (ds:=ds) D i)(hd:ds[i]? =some d)(hv:R.V9 i=none)(inv:Inv R P X φ0 w00 nt a0 D I w a):
  Inv R P X φ0 w00 nt a0 (more D i) I w (a.put d.o.dst undef):=by
 have hnw:∀Y,¬R.wr i Y:=λY ⟨_,_,h,_⟩=>by rw[hv]at h;cases h
 have hcur:∀{Y o},R.cur (more D i) Y o->R.cur D Y o:=λ{Y o} h=>by
  rcases R.cur_split hS ok hcl hr h with ⟨h1,_⟩|⟨_,h1⟩
  .exact absurd h1 (hnw Y)
  .exact h1
 have hcurA:∀{Y o m},R.curA (more D i) Y o m->R.curA D Y o m:=λ{Y o m} h=>by
  rcases R.curA_split hS ok hcl hr h with ⟨h1,_⟩|⟨_,h1⟩
  .exact absurd h1 (hnw Y)
  .exact h1
 obtain⟨_,_,g3,_⟩:=R.skip i d hd hv
 exact⟨inv.base,λY o m h=>inv.obj Y o m (hcurA h),inv.rng,λY o B h=>inv.old Y o B (hcur h),λY id' o o' B B' h h'=>inv.inj Y id' o o' B B' (hcur h) (hcur h'),inv.out,λj hj hD=>inv.fresh j hj (λh=>hD (.inl h)),
  inv.tmp_step hck hdo hcl hr hd hS ok (Sub.refl _) g3 (λj dj hdj k hk=>R.T_other hdj hk) (WP _),(po _).1.trans inv.size,(po _).2.trans inv.df,inv.grow,inv.own,inv.frame,inv.frz,λY o B h=>inv.sep Y o B (hcur h),inv.zsub,inv.zown⟩
def Inv.run(hS:ExtS S)(ok:R.Ok)(hck:Q3 ds)(hdo:rW ds nt)(hcl:Closed ds D)(hr:Ready (ds:=ds) D i)(hd:ds[i]? =some d)(hv:R.V9 i=some (v,t))(inv:Inv R P X φ0 w00 nt a0 D I w a)
  {ψ:Phi} (st:Step P X (I.cut (R.W i).next) (ux d (R.L i) (R.T i) (R.W i)) w ψ t w') (hx:VR ψ v x):Inv R P X φ0 w00 nt a0 (more D i) (I.merge (R.W i).next (R.W (i+1)).next ψ) w' (a.put d.o.dst x):=by
 obtain⟨_,g2,_,_,g5,g6⟩:=R.run i d v t hd hv;obtain⟨f1,f2,f3,f4,f5⟩:=R.facts hS ok i (xg hr.lt);have hnx:(R.W (i+1)).next=t.next:=by rw[g6]
 have hob:(R.W (i+1)).objs=t.objs:=by rw[g6]
 have hn0:=R.next_le hS ok (i:=0) (j:=i) (yh _) (xg hr.lt);have hn1:=R.next_le hS ok (i:=i) (j:=i+1) (Nat.le_succ _) hr.lt;have hnN:=R.next_le hS ok (i:=i+1) (j:=zM ds) hr.lt (zS _);have hniN:=R.next_le hS ok (i:=i) (j:=zM ds) (xg hr.lt) (zS _);obtain⟨I',hφ'⟩:∃I',I'=I.merge (R.W i).next (R.W (i+1)).next ψ:=⟨_,rfl⟩
 have hlow:∀{Y},Y<(R.W i).next->ψ Y=I Y:=λ{Y} h=>(st.same Y (.inl h)).trans (Phi.cut_lt I h)
 have hhigh:∀{Y},(R.W (i+1)).next<=Y->ψ Y=none:=λ{Y} h=>(st.same Y (.inr (hnx▸h))).trans (Phi.cut_ge I J)
 have hin:∀{Y},Y<(R.W (i+1)).next->I' Y=ψ Y:=λ{Y} h=>by
  rw[hφ'];by_cases h1:Y<(R.W i).next
  .rw[Phi.merge_out _ _ (.inl h1)];exact(hlow h1).symm
  .exact Phi.merge_in _ _ ⟨J,h⟩
 have hout:∀{Y},(Y<(R.W i).next\/(R.W (i+1)).next<=Y)->I' Y=I Y:=λ{Y} h=>by rw[hφ'];exact Phi.merge_out _ _ h
 have hz':I'.z=ψ.z:=by rw[hφ'];rfl
 have hsub:Sub I I':=⟨λY B hB=>by
  by_cases h:(R.W i).next<=Y/\Y<(R.W (i+1)).next
  .rw[inv.fresh i hr.lt hr.new Y h.1 h.2]at hB;cases hB
  .rw[hout J];exact hB,λb o v hzv=>by rw[hz'];exact st.zsub b o v hzv⟩
 have hsubψ:Sub ψ I':=⟨λY B hB=>by
  have hlt:Y<(R.W (i+1)).next:=by apply xu;intro hle;rw[hhigh hle]at hB;cases hB
  rw[hin hlt];exact hB,λb o v hzv=>by rw[hz'];exact hzv⟩
 have hψc:∀{m},i+1<=m->m<=zM ds->Sub ψ (I'.cut (R.W m).next):=λ{m} h1 h2=>hsubψ.to_cut λY hid=>hhigh (zV (R.next_le hS ok h1 h2) hid)
 have hget:∀{Y o},R.wr i Y->(R.W (i+1)).objs.get Y=some o->t.get Y=some o:=λ{Y o} hw ho=>by
  rw[kq,uw st.ext.hide st.ext.only,R.wr_seen hS ok hr.lt hd hw,<-hob];exact ho
 have hsame:∀{Y},¬R.wr i Y->I' Y=I Y:=λ{Y} hw=>by
  apply hout;by_cases h1:Y<(R.W i).next
  .exact .inl h1
  .right;apply xB;intro h2;exact hw ⟨v,t,hv,.inl ⟨J,J⟩⟩
 have hold:∀{Y o},R.wr i Y->t.objs.get Y=some o->Y<(R.W i).next->∃o',R.cur D Y o'/\I' Y=I Y:=λ{Y o} hw ho hlt=>by
  obtain⟨o',ho'⟩:=st.ext.vis Y o hlt ho;have hg:(ux d (R.L i) (R.T i) (R.W i)).get Y=some o':=by rw[kq,R.wr_seen hS ok hr.lt hd hw];exact ho'
  exact⟨o',Inv.cur_of hS ok hcl hr hd hv hg,hout (.inl hlt)⟩
 have hbits:∀{Y o},(ux d (R.L i) (R.T i) (R.W i)).get Y=some o->t.wm.testBit Y=true->R.wr i Y:=λ{Y o} hg hb=>⟨v,t,hv,.inr ⟨f2.lt Y o (wZ (s:=ux d (R.L i) (R.T i) (R.W i)) hg),hb⟩⟩;have hwlt:∀{Y},R.wr i Y->Y<(R.W (i+1)).next:=λ{Y} hw=>R.wr_lt hS ok hr.lt hw
 have hmix:∀{Y id' o o' B B'},R.wr i Y->(R.W (i+1)).objs.get Y=some o->¬R.wr i id'->R.cur D id' o'->I' Y=some B->I' id'=some B'->B.b=B'.b->Y=id'\/B.b<X.heap.size:=λ{Y id' o o' B B'} hw ho hw' hc' hB hB' e=>by
  rw[hsame hw']at hB';by_cases hlt:Y<(R.W i).next
  .obtain⟨o1,hc,hp⟩:=hold hw (by rw[<-hob];exact ho) hlt
   exact inv.inj Y id' o1 o' B B' hc hc' (hp▸hB) hB' e
  .have hlt2:=hwlt hw;rw[hin hlt2]at hB;rcases st.own Y B (xB hlt) (hnx▸hlt2) hB with h1|⟨id0,o0,B0,q1,q2,q3,q4⟩
   .have:=(inv.rng id' B' hB');omega
   .have hc0:=Inv.cur_of hS ok hcl hr hd hv q1;rcases inv.inj id0 id' o0 o' B0 B' hc0 hc' (Phi.cut_some q2).2 hB' (q3.trans e)with he|he
    .subst he;exact absurd (hbits q1 q4) hw'
    .exact .inr (q3▸he)
 rw[<-hφ'];refine⟨st.rel.base,?_,?_,?_,?_,?_,?_,inv.tmp_step hck hdo hcl hr hd hS ok hsub g5 (λj dj hdj k hk=>R.T_other hdj hk) (VR.mono (hψc (zS _) hr.lt) _ _ hx),(po _).1.trans inv.size,(po _).2.trans inv.df,zV inv.grow st.size,?_,?_,?_,?_,?_,?_⟩
 .intro Y o m h;rcases R.curA_split hS ok hcl hr h with ⟨hw,him,ho⟩|⟨hw,hc⟩
  .obtain⟨B,hB,ht⟩:=st.rel.obj Y o (hget hw ho);exact⟨B,hsubψ.of _ _ hB,ht.keep (hψc him h.2.1) rfl⟩
  .obtain⟨B,hB,ht⟩:=inv.obj Y o m hc;refine⟨B,hsub.of _ _ hB,ht.keep (hsub.cut (zS _)) (st.frame B.b (inv.rng Y B hB) λid2 o2 B2 q1 q2 q3=>?_)⟩;cases hb:t.wm.testBit id2 with
   |false=>rfl
   |true=>
    have q2':=(Phi.cut_some q2).2;rcases inv.inj id2 Y o2 o B2 B (Inv.cur_of hS ok hcl hr hd hv q1) (R.cur_of_A hc) q2' hB q3 with he|he
    .subst he;exact absurd (hbits q1 hb) hw
    .have hgo:=wZ (s:=ux d (R.L i) (R.T i) (R.W i)) q1;have:=st.ext.giv id2 o2 (f2.lt id2 o2 hgo) hgo (inv.old id2 o2 B2 (Inv.cur_of hS ok hcl hr hd hv q1) q2' he) hb;simp[ux]at this
 .intro Y B hB;by_cases h:Y<(R.W (i+1)).next
  .rw[hin h]at hB;exact st.rel.rng Y B hB
  .rw[hout J]at hB;have:=inv.rng Y B hB;have:=st.size;omega
 .intro Y o B h hB hlt;rcases R.cur_split hS ok hcl hr h with ⟨hw,ho⟩|⟨hw,hc⟩
  .exact st.rel.old Y o B (hget hw ho) (hin (hwlt hw)▸hB) hlt
  .exact inv.old Y o B hc (hsame hw▸hB) hlt
 .intro Y id' o o' B B' h h' hB hB' e;rcases R.cur_split hS ok hcl hr h with ⟨hw,ho⟩|⟨hw,hc⟩<;>rcases R.cur_split hS ok hcl hr h' with ⟨hw',ho'⟩|⟨hw',hc'⟩
  .exact st.rel.inj Y id' o o' B B' (hget hw ho) (hget hw' ho') (hin (hwlt hw)▸hB) (hin (hwlt hw')▸hB') e
  .exact hmix hw ho hw' hc' hB hB' e
  .exact(hmix hw' ho' hw hc hB' hB e.symm).elim (λh=>.inl h.symm) (λh=>.inr J)
  .exact inv.inj Y id' o o' B B' hc hc' (hsame hw▸hB) (hsame hw'▸hB') e
 .intro Y h;rw[hout (by
   rcases h with h|h
   .left;omega
   .right;omega)]
  exact inv.out Y h
 .intro j hj hD Y h1 h2;have hji:j≠i:=λe=>hD (.inr e);have hDj:¬D j:=λh=>hD (.inl h);rw[hout ?_]
  .exact inv.fresh j hj hDj Y h1 h2
  .by_cases hlt:j<i
   .left
    have:=R.next_le hS ok (i:=j+1) (j:=i) hlt (xg hr.lt);omega
   .right
    have:=R.next_le hS ok (i:=i+1) (j:=j) J (xg hj);omega
 .intro Y B h1 h2 hB;by_cases hrange:(R.W i).next<=Y/\Y<(R.W (i+1)).next
  .rw[hin hrange.2]at hB;rcases st.own Y B hrange.1 (hnx▸hrange.2) hB with h3|⟨id0,o0,B0,q1,q2,q3,q4⟩
   .exact .inl (zV inv.grow h3)
   .have q2':=(Phi.cut_some q2).2;have hlt0:id0<(R.W i).next:=f2.lt id0 o0 (wZ (s:=ux d (R.L i) (R.T i) (R.W i)) q1)
    by_cases hl:id0<(R.W 0).next
    .obtain⟨o1,ho1⟩:=f5.vis id0 o0 hl (wZ (s:=ux d (R.L i) (R.T i) (R.W i)) q1);have hs:=(Inv.cur_of hS ok hcl hr hd hv q1).1 hl;refine .inr ⟨id0,o1,B0,by rw[kq,hs];exact ho1,?_,q3,R.wm_run hS ok hr.lt hv q4⟩
     rw[<-inv.out id0 (.inl hl)];exact q2'
    .rcases inv.own id0 B0 (xB hl) J q2' with h4|⟨id1,o1,B1,r1,r2,r3,r4⟩
     .exact .inl (q3▸h4)
     .exact .inr ⟨id1,o1,B1,r1,r2,r3.trans q3,r4⟩
  .rw[hout J]at hB;exact inv.own Y B h1 h2 hB
 .intro b hb H;refine(st.frame b (Nat.lt_of_lt_of_le hb inv.grow) λY o B q1 q2 q3=>?_).trans (inv.frame b hb H);have q2':=(Phi.cut_some q2).2;cases hbit:t.wm.testBit Y with
  |false=>rfl
  | true=>
   exfalso
   have hwN:=R.wm_run hS ok hr.lt hv hbit;have hlt0:Y<(R.W i).next:=f2.lt Y o (wZ (s:=ux d (R.L i) (R.T i) (R.W i)) q1)
   by_cases hl:Y<(R.W 0).next
   .obtain⟨o1,ho1⟩:=f5.vis Y o hl (wZ (s:=ux d (R.L i) (R.T i) (R.W i)) q1);have hs:=(Inv.cur_of hS ok hcl hr hd hv q1).1 hl;have:=H Y o1 B (by rw[kq,hs];exact ho1) (by rw[<-inv.out Y (.inl hl)];exact q2') q3
    rw[hwN]at this;cases this
   .rcases inv.own Y B (xB hl) J q2' with h4|⟨id1,o1,B1,r1,r2,r3,r4⟩
    .omega
    .have:=H id1 o1 B1 r1 r2 (r3.trans q3);rw[r4]at this;cases this
 .intro b o u hu;rw[hz']at hu;exact st.rel.frz b o u hu
 .intro Y o B h hB;rw[hz'];rcases R.cur_split hS ok hcl hr h with ⟨hw,ho⟩|⟨hw,hc⟩
  .exact st.rel.sep Y o B (hget hw ho) (hin (hwlt hw)▸hB)
  .rw [hsame hw]at hB;have h0:=inv.sep Y o B hc hB;cases hgv:vN o with
   |true=>cases o<;>first|trivial|(cases hgv;done)
   | false=>
    refine h0.congr λk=>?_;cases hk:ψ.z B.b k with
    |none=>
     cases hk2:I.z B.b k with
     |none=>rfl
     |some u=>have h9:=st.zsub B.b k u hk2;rw[hk]at h9;cases h9
    | some u=>
     rcases st.zown B.b k u hk with h1|h1|⟨id0,o0,B0,q1,q2,q3,q4⟩
     .exact h1.symm
     .have:=inv.rng Y B hB;omega
     .exfalso
      rcases inv.inj id0 Y o0 o B0 B (Inv.cur_of hS ok hcl hr hd hv q1) hc (Phi.cut_some q2).2 hB q3 with he|he
      .subst he;exact hw (hbits q1 q4)
      .rw[inv.old Y o B hc hB J]at hgv;cases hgv
 .intro b o u hu;rw[hz'];exact st.zsub b o u (inv.zsub b o u hu)
 .intro b o u hu;rw[hz']at hu;rcases st.zown b o u hu with h1|h1|⟨id0,o0,B0,q1,q2,q3,q4⟩
  .exact inv.zown b o u h1
  .exact .inr (.inl (zV inv.grow h1))
  .have q2':=(Phi.cut_some q2).2;have hlt0:id0<(R.W i).next:=f2.lt id0 o0 (wZ (s:=ux d (R.L i) (R.T i) (R.W i)) q1)
   by_cases hl:id0<(R.W 0).next
   .obtain⟨o1,ho1⟩:=f5.vis id0 o0 hl (wZ (s:=ux d (R.L i) (R.T i) (R.W i)) q1);have hs:=(Inv.cur_of hS ok hcl hr hd hv q1).1 hl;refine .inr (.inr ⟨id0,o1,B0,by rw[kq,hs];exact ho1,?_,q3,R.wm_run hS ok hr.lt hv q4⟩)
    rw[<-inv.out id0 (.inl hl)];exact q2'
   .rcases inv.own id0 B0 (xB hl) J q2' with h4|⟨id1,o1,B1,r1,r2,r3,r4⟩
    .exact .inr (.inl (q3▸h4))
    .exact .inr (.inr ⟨id1,o1,B1,r1,r2,r3.trans q3,r4⟩)
end
def Pw:∀{l:zr} {i k d:Nat},UT i l=true->l[k]? =some d->∀j,d.testBit j=true->j<i+k
 |[],_,k,d,_,h,_,_=>by simp at h
 |x::r,i,0,d,h,hd,j,hb=>by
  simp only[UT,zP,w9]at h;simp only[xr,x7]at hd;subst hd;apply xu;intro hle;have h1:x<2^j:=Nat.lt_of_lt_of_le h.1 (Nat.pow_le_pow_right J J);rw[Nat.testBit_lt_two_pow h1]at hb;cases hb
 |x::r,i,k+1,d,h,hd,j,hb=>by
  simp only[UT,zP]at h;have:=Pw (k:=k) h.2 (by simpa using hd) j hb
  omega
def JH{i:Nat}{p:SOper}:∀{l:List SOper} {ds:zr} {k:Nat} {q:SOper} {d:Nat},WL i p l ds=true->l[k]? =some q->ds[k]? =some d->Jt p q=true->d.testBit i=true
 |[],_,k,q,d,_,h,_,_=>by simp at h
 |b::r,[],k,q,d,h,_,_,_=>by simp[WL]at h
 |b::r,x::xs,0,q,d,h,hq,hd,hc=>by
  simp only[xr,x7]at hq hd;subst hq;subst hd;simp only[WL,zP,zQ,Bool.not_eq_true']at h;rcases h.1 with h1|h1
  .rw[hc]at h1;cases h1
  .exact h1
 |b::r,x::xs,k+1,q,d,h,hq,hd,hc=>by
  simp only[WL,zP]at h;exact JH (k:=k) h.2 (by simpa using hq) (by simpa using hd) hc
def Pv:∀{l:List SOper} {ds:zr} {i j k:Nat} {p q:SOper} {d:Nat},G8 i l ds=true->j<k->l[j]? =some p->l[k]? =some q->ds[k]? =some d->Jt p q=true->d.testBit (i+j)=true
 |[],_,i,j,k,p,q,d,_,_,h,_,_,_=>by simp at h
 |a::r,[],i,j,k,p,q,d,h,_,_,_,_,_=>by simp[G8]at h
 |a::r,x::xs,i,j,0,p,q,d,h,hjk,hp,hq,hd,hc=>by omega
 |a::r,x::xs,i,0,k+1,p,q,d,h,hjk,hp,hq,hd,hc=>by
  simp only[xr,x7]at hp;subst hp;simp only[G8,zP]at h;exact JH (k:=k) h.1 (by simpa using hq) (by simpa using hd) hc
 |a::r,x::xs,i,j+1,k+1,p,q,d,h,hjk,hp,hq,hd,hc=>by
  simp only[G8,zP]at h;have:=Pv (j:=j) (k:=k) h.2 J (by simpa using hp) (by simpa using hq) (by simpa using hd) hc
  rw[show i+(j+1)=i+1+j by omega];exact this
def WJ:∀{l:List SOper} {ds:zr} {i:Nat} {d:DOper},(mkD l ds)[i]? =some d↔l[i]? =some d.o/\ds[i]? =some d.deps
 |[],ds,i,d=>by simp[mkD]
 |a::r,[],i,d=>by simp[mkD]
 |a::r,x::xs,0,d=>by
  simp only[mkD,xr,x7];constructor
  .rintro rfl;exact⟨rfl,rfl⟩
  .rintro⟨rfl,rfl⟩;rfl
 |a::r,x::xs,i+1,d=>by simp only[mkD,xw];exact WJ
def G3:∀{l:List SOper} {ds:zr},zM l=zM ds->(mkD l ds).length=zM l
 |[],ds,_=>by simp[mkD]
 |a::r,[],h=>by simp at h
 |a::r,x::xs,h=>by simp only[mkD,List.length_cons];rw[G3 (by simpa using h)]
def sh{P:Program}{nt:Nat}{ops:Array Oper}:∀{rs:List Oper} {l:List SOper},cSs P nt ops rs=some l->zM l=zM rs/\∀(i:Nat) (o:Oper),rs[i]? =some o->∃so,l[i]? =some so/\cS P nt ops o=some so
 |[],l,h=>by simp[cSs]at h;subst h;exact⟨rfl,(λi o h=>by simp at h)⟩
 | r::rs,l,h=>by
  simp only[cSs]at h;split at h
  .rename_i a l' h1 h2
   simp only[x7]at h;subst h;obtain⟨k1,k2⟩:=sh h2;refine⟨by simp[k1],λi o ho=>?_⟩
   cases i with
   |zero=>simp only[xr,x7]at ho;subst ho;exact⟨a,by simp,h1⟩
   |succ i=>obtain⟨so,k3,k4⟩:=k2 i o (by simpa using ho);exact⟨so,by simpa using k3,k4⟩
  .cases h
def Lx{acc:zr}{j:Nat}:∀{es:List Edge} {s0:Nat},(es.foldl (λs e=>bif Region.binds .any e then s|||2^e.on|||acc.getD e.on 0 else s) s0).testBit j=true->s0.testBit j=true\/∃e∈es,Region.binds .any e=true/\(j=e.on\/(acc.getD e.on 0).testBit j=true)
 |[],s0,h=>.inl h
 | e::r,s0,h=>by
  rw[List.foldl_cons]at h;rcases Lx h with h1|⟨e',he',h2⟩
  .cases hb:Region.binds .any e with
   |false=>rw[hb]at h1;exact .inl h1
   |true=>
    rw[hb]at h1;simp only[x6,xd,zQ]at h1;rcases h1 with (h1|h1)|h1
    .exact .inl h1
    .rw[Nat.testBit_two_pow]at h1;exact .inr ⟨e,by simp,hb,.inl (by simpa using (of_decide_eq_true h1).symm)⟩
    .exact .inr ⟨e,by simp,hb,.inr h1⟩
  .exact .inr ⟨e',by simp[he'],h2⟩
def Ly{acc:zr}:∀{es:List Edge} {s0:Nat},(∀j,s0.testBit j=true->(es.foldl (λs e=>bif Region.binds .any e then s|||2^e.on|||acc.getD e.on 0 else s) s0).testBit j=true)/\∀e∈es,Region.binds .any e=true->(es.foldl (λs e=>bif Region.binds .any e then s|||2^e.on|||acc.getD e.on 0 else s) s0).testBit e.on=true
 |[],s0=>⟨λj h=>h,λe he=>by simp at he⟩
 | x::r,s0=>by
  simp only[List.foldl_cons];obtain⟨h1,h2⟩:=Ly (acc:=acc) (es:=r) (s0:=bif Region.binds .any x then s0|||2^x.on|||acc.getD x.on 0 else s0)
  refine⟨λj hj=>h1 j ?_,λe he hb=>?_⟩
  .cases Region.binds .any x with
   |false=>exact hj
   |true=>simp only[x6,xd,hj,Bool.true_or]
  .rcases List.mem_cons.1 he with rfl|he
   .apply h1;rw[hb];simp only[x6,xd,Nat.testBit_two_pow_self,Bool.or_true,Bool.true_or]
   .exact h2 e he hb
def Gd:∀{l:List Oper} {acc:zr},(lI l acc).length=zM acc+zM l/\(∀k,k<zM acc->(lI l acc)[k]? =acc[k]?)/\
  ∀(i:Nat) (o:Oper),l[i]? =some o->∃acc':zr,(lI l acc)[zM acc+i]? =some (Fy acc' o.after.toList)/\zM acc'=zM acc+i/\∀k,k<zM acc'->acc'[k]? =(lI l acc)[k]?
 |[],acc=>⟨by simp[lI],λk _=>rfl,λi o h=>by simp at h⟩
 | x::r,acc=>by
  simp only[lI];obtain⟨h1,h2,h3⟩:=Gd (l:=r) (acc:=acc++[Fy acc x.after.toList]);refine⟨by rw[h1];simp;omega,λk hk=>?_,λi o ho=>?_⟩
  .rw[h2 k (by simp;omega),yP hk]
  .cases i with
   |zero=>
    simp only[xr,x7]at ho;subst ho;refine⟨acc,?_,by simp,λk hk=>?_⟩
    .rw[h2 _ (by simp)];simp
    .rw[h2 k (by simp;omega),yP hk]
   |succ i=>
    obtain⟨acc',k1,k2,k3⟩:=h3 i o (by simpa using ho)
    refine⟨acc',?_,by rw[k2];simp;omega,k3⟩
    rw[<-k1];congr 1;simp;omega
def Ul {ops:Array Oper}{ds:zo}(h:Ji P nt ops=some ds):
  (zM ds)=ops.size/\Q3 ds/\rW ds nt/\(∀(i:Nat) (d:DOper),ds[i]? =some d->∃o,ops[i]? =some o/\cS P nt ops o=some d.o/\(∀j,d.deps.testBit j=true->j<i)/\(∀e∈o.after,Region.binds .any e=true->e.on<i)/\
   ∀j,d.deps.testBit j=true->∃e∈o.after,Region.binds .any e=true/\(j=e.on\/∃d',ds[e.on]? =some d'/\d'.deps.testBit j=true)):=by
 unfold Ji at h;split at h
 .rename_i l hl
  simp only at h;cases hb:(G8 0 l (lI ops.toList [])&&UT 0 (lI ops.toList []))with
  |false=>rw[hb]at h;simp at h
  | true=>
   rw[hb]at h;simp only[x6,x7]at h;subst h;rw[zP]at hb;obtain⟨k1,k2⟩:=sh hl;obtain⟨d1,_,d3⟩:=Gd (l:=ops.toList) (acc:=[]);simp only[List.length_nil,y8]at d1 d3;have hlen:zM l=(lI ops.toList []).length:=by rw[k1,d1]
   have hget:∀(i:Nat) (d:DOper),(mkD l (lI ops.toList []))[i]? =some d->∃o,ops[i]? =some o/\cS P nt ops o=some d.o:=λi d hd=>by
    obtain⟨q1,q2⟩:=WJ.1 hd;have hlt:i<zM l:=by
     apply xu;intro hle;rw[yF hle]at q1;cases q1
    have ho:ops.toList[i]? =some ops.toList[i]:=by rw[yU]
    obtain⟨so,k3,k4⟩:=k2 i _ ho;rw[q1]at k3;cases k3;exact⟨_,by rw[<-zX];exact ho,k4⟩
   refine⟨by rw[G3 hlen,k1];simp,?_,?_,?_⟩
   .intro j k dj dk hjk hj hk hc;obtain⟨q1,q2⟩:=WJ.1 hj;obtain⟨q3,q4⟩:=WJ.1 hk;have:=Pv hb.1 hjk q1 q3 q4 hc;rw[y8]at this;exact this
   .intro j dj t hj ht;obtain⟨o,_,ho⟩:=hget j dj hj;obtain⟨_,_,h3,h4⟩:=KV ho;exact h4 t (by rw[<-h3];exact ht)
   .intro i d hd;obtain⟨o,ho,hcs⟩:=hget i d hd;obtain⟨q1,q2⟩:=WJ.1 hd;have hback:∀j,d.deps.testBit j=true->j<i:=λj hj=>by
     have:=Pw hb.2 q2 j hj;omega
    obtain⟨acc',r1,r2,r3⟩:=d3 i o (by rw[zX];exact ho)
    rw[q2]at r1;simp only[x7]at r1;refine⟨o,ho,hcs,hback,λe he hbd=>hback _ (by rw[r1];exact Ly.2 e (by simpa using he) hbd),λj hj=>?_⟩
    rw[r1]at hj;rcases Lx hj with h0|⟨e,he,hbd,hor⟩
    .simp at h0
    .refine⟨e,by simpa using he,hbd,?_⟩
     rcases hor with h1|h1
     .exact .inl h1
     .right
      have hlt:e.on<zM acc':=by
       apply xu;intro hle;rw[xD,yF hle]at h1;simp at h1
      have hlt2:e.on<zM l:=by
       have hi:i<zM l:=by apply xu;intro hle;rw[yF hle]at q1;cases q1
       omega
      refine⟨⟨l[e.on],acc'[e.on]⟩,WJ.2 ⟨yU hlt2,?_⟩,?_⟩
      .rw[<-r3 _ hlt,yU hlt]
      .rw[xD,yU hlt]at h1;simpa using h1
 .cases h
def LD(listed:Array Bool)(i:Nat):Prop:=listed.getD i false=true
def Ez{listed:Array Bool}(h:i<listed.size):LD (listed.setIfInBounds i true)=more (LD listed) i:=by
 funext j
 unfold LD more;simp only[xe,Array.getElem?_setIfInBounds];by_cases e:i=j
 .subst e;simp[h]
 .rw[x0 e];simp[Ne.symm e]
def FB(hS:SelfOk P X S)(hG:wG E.globs X){ops:Array Oper}{ds:zo}(hc:Ji P nt ops=some ds){R:Tr E S ds}(ok:R.Ok){φ0:Phi}{a0:Act}(hF:Wide F){Q:Exit->Act->World->Prop}
  (hQ:∀I w a,Inv R P X φ0 w00 nt a0 (λi=>i<zM ds) I w a->Q .normal a w):
  ∀(fuel:Nat) (listed:Array Bool) (I:Phi) (w:World) (a:Act) (u:zr),listed.size=ops.size->zM u<=fuel->(∀i,i<ops.size->¬LD listed i->i∈u)->Closed ds (LD listed)->Inv R P X φ0 w00 nt a0 (LD listed) I w a->wpAnyIn F n P .any ops Q fuel listed a w:=by
 obtain⟨c1,c2,c3,c4⟩:=Ul hc;have hdone:∀{listed I w a},listed.size=ops.size->(∀i,i<ops.size->LD listed i)->Inv R P X φ0 w00 nt a0 (LD listed) I w a->Q .normal a w:=λ{listed I w a} hsz hall inv=>by
  have e:LD listed=λi=>i<zM ds:=by
   funext i
   apply propext;constructor
   .intro h;rw[c1];apply xu;intro hle;unfold LD at h;rw[xe,Array.getElem?_eq_none J]at h;simp at h
   .intro h;exact hall i J
  exact hQ I w a (e▸inv)
 have hready:∀{listed:Array Bool},listed.size=ops.size->Region.ready .any ops listed=[]->∀i,i<ops.size->LD listed i:=λ{listed} hsz hnil i=>by
  induction i using Nat.strongRecOn with
  | _ i ih=>
   intro hi;by_cases hl:LD listed i
   .exact hl
   .exfalso
    obtain⟨d,hd⟩:=uX (ds:=ds) (i:=i) J;obtain⟨o,ho,_,_,hed,_⟩:=c4 i d hd;have:i∈Region.ready .any ops listed:=mem_ready.2 ⟨by
     unfold LD at hl;rw[xe,yf J]at hl|-
     simpa using hl,o,ho,λe he hb=>ih e.on (hed e he hb) (by have:=hed e he hb;omega)⟩
    rw[hnil]at this;simp at this
 intro fuel
 induction fuel with
 | zero=>
  intro listed I w a u hsz hu hin hcl inv;have hu0:u=[]:=yS J;subst hu0;have hall:∀i,i<ops.size->LD listed i:=λi hi=>by
   by_cases h:LD listed i
   .exact h
   .have:=hin i hi h;simp at this
  refine⟨?_,hdone hsz hall inv⟩;rw[xC];intro i hi;obtain⟨h1,o,ho,_⟩:=mem_ready.1 hi;have hlt:i<ops.size:=(Array.getElem?_eq_some_iff.1 ho).1;have:=hall i hlt;unfold LD at this;rw[xe,yf J]at this h1;simp at this h1;rw[this]at h1;cases h1
 | succ fuel ih=>
  intro listed I w a u hsz hu hin hcl inv;refine⟨λhnil=>hdone hsz (hready hsz hnil) inv,λi hi=>?_⟩;obtain⟨h1,o,ho,hed⟩:=mem_ready.1 hi;have hlt:i<ops.size:=(Array.getElem?_eq_some_iff.1 ho).1;have hnew:¬LD listed i:=by
   unfold LD;rw[xe,yf J]at h1|-
   simpa using h1
  obtain⟨d,hd⟩:=uX (ds:=ds) (i:=i) J;obtain⟨o',ho',hcs,hback,_,hdep⟩:=c4 i d hd;rw[ho]at ho';cases ho';have hr:Ready (ds:=ds) (LD listed) i:=by
   refine⟨J,hnew,λd' j hd' hb hj=>?_⟩;rw[hd]at hd';cases hd';obtain⟨e,he,hbd,hor⟩:=hdep j hb;have hL:LD listed e.on:=hed e he hbd;rcases hor with rfl|⟨d'',hd'',hb''⟩
   .exact hL
   .exact hcl.dep e.on d'' j hL hd'' hb'' hj
  have hnext:∀I' w' a',Inv R P X φ0 w00 nt a0 (more (LD listed) i) I' w' a'->wpAnyIn F n P .any ops Q fuel (listed.setIfInBounds i true) a' w':=λI' w' a' inv'=>by
   have hset:=Ez (listed:=listed) (i:=i) J;refine ih _ I' w' a' (u.erase i) (by simp[hsz]) ?_ ?_ ?_ (hset▸inv')
   .rw[xF (hin i hlt hnew)];omega
   .intro j hj hn;rw[hset]at hn;have hji:j≠i:=λe=>hn (.inr e);exact(xI hji).2 (hin j hj (λh=>hn (.inl h)))
   .rw[hset];refine⟨λk dk j hk hdk hb hj=>?_⟩;rcases hk with hk|rfl
    .exact .inl (hcl.dep k dk j hk hdk hb hj)
    .exact .inl (hr.deps dk j hdk hb hj)
  unfold wpOpIn;rw[ho];simp only;obtain⟨hg,hop,hdst,hdlt⟩:=KV hcs;have hnm:=inv.names c2 hcl hr hd;rw[fm]at hnm;cases hv:R.V9 i with
  |none=>
   obtain⟨g1,_,_,_⟩:=R.skip i d hd hv;rw[kW hg g1 (hnm.sub (by intro t h;simp[h]))]
   simp only[Bool.false_eq_true,if_false];refine⟨λf _=>hF.fn f,hnext I w _ ?_⟩;rw[<-hdst];exact inv.skip hS.ext ok c2 c3 hcl hr hd hv
  |some p=>
   obtain⟨v,t⟩:=p;obtain⟨g1,g2,_,_,_,g6⟩:=R.run i d v t hd hv;rw[kW hg g1 (hnm.sub (by intro t h;simp[h])),wc rfl]
   rw[hop]at g2;obtain⟨op,hc1,hc2⟩:=Uk g2;rw[hc2]at g2;have hfr:Fresh (I.cut (R.W i).next) (ux d (R.L i) (R.T i) (R.W i)) t:=λY h1=>Phi.cut_ge I h1
   refine QE hS hG hc1 g2 (inv.rel hS.ext ok hcl hr hd hv) (R.begWf hS.ext ok J d) hfr (hnm.sub (by intro t h;rw[hop,hc2];simp[h])) hF λψ x w' k1 k2=>hnext (I.merge (R.W i).next (R.W (i+1)).next ψ) w' _ ?_
   rw[<-hdst];exact inv.run hS.ext ok c2 c3 hcl hr hd hv k1 k2
def zzp{op:IOp}(h:bF op=true):qG E zzo op A s=qG E S op A s:=by
 cases op<;>first|rfl|(simp[bF]at h)
def zvn{x:Opd}{f:Z->zv}(h:v1 A s x f=some (v,s')):s'=s:=by
 unfold v1 at h;split at h
 .unfold l9 at h;split at h
  .cases h;rfl
  .cases h
 .cases h
def zvm{op:IOp}(h:bF op=true)(he:qG E S op A s=some (v,s')):s'=s:=by
 cases op<;>first|exact zvn he|(simp[bF]at h)
def zyZ{a b:Z}(h:eqW a b=true):a=b:=by
 unfold eqW at h;split at h
 .simp only[zP,pl,uL,jm,beq_iff_eq]at h;rw[h.1,h.2]
 .simp only[zP,wH]at h;rw[h.1,h.2]
 .cases h
def Ao{d:zw}{x:zb}(h:J1 A d x=true):∃v t,x=some (v,t)/\∃k,d=some k/\A.get k=some v:=by
 unfold J1 at h;split at h
 .rename_i p
  split at h
  .rename_i k
   unfold Ho at h;split at h
   .rename_i u hu
    exact⟨p.1,p.2,rfl,k,rfl,by rw[hu,zyZ h]⟩
   .cases h
  .cases h
 .cases h
def U0{E:Env}{S:Self}{A:zu}{s:U}:∀{l:zo},l.all (rtL bF)=true->gP E A s l=true->∀d∈l,∃v,qG E S d.o.op A s=some (v,s)/\∃k,d.o.dst=some k/\A.get k=some v
 | o ::r,h1,h,d,hd=>by
  simp only[gP]at h;simp only[List.all_cons,zP]at h1;cases hb:J1 A o.o.dst (qG E zzo o.o.op A s)with
  |false=>rw[hb]at h;cases h
  | true=>
   rw[hb]at h;rcases List.mem_cons.1 hd with rfl|hd
   .have hk:bF d.o.op=true:=by
     have:=h1.1;unfold rtL at this;rw[zP]at this;exact this.1
    obtain⟨v,t,e,k,e1,e2⟩:=Ao hb;rw[zzp (S:=S) hk]at e;obtain rfl:=zvm hk e;exact⟨v,e,k,e1,e2⟩
   .exact U0 h1.2 h d hd
 |[],_,_,d,hd=>by simp at hd
theorem Hp:∀l:zo,kI l=l.map (·.o)
 |[]=>rfl
 |o::r=>by show o.o::kI r=_;rw[Hp r];rfl
def bI:∀{l:List SOper} {k:Nat},k∈Xp l->∃o∈l,o.dst=some k
 | o::r,k,h=>by
  simp only[Xp]at h;split at h
  .rename_i i hi
   rcases List.mem_cons.1 h with rfl|h
   .exact⟨o,List.mem_cons_self,hi⟩
   .obtain⟨o',h1,h2⟩:=bI h;exact⟨o',xA _ h1,h2⟩
  .obtain⟨o',h1,h2⟩:=bI h;exact⟨o',xA _ h1,h2⟩
 |[],k,h=>by simp[Xp]at h
open Classical in
def zx6(hm:P.follows .mixedOrders=true)(hG:wG E.globs w00)(hS:SelfOk P w00 S){Y:Nat}{ops:Array Oper}{ds:zo}{c:Nat}{Tf:zu}{φ0:Phi}{a0:Act}{Q:Exit->Act->World->Prop}
  (hl:Ji P nt ops=some ds) (hlt:c<zM ds) (hgd:∀d∈ds,d.o.guard=none) (hdp:∀(i j:Nat) (di dj:DOper) (k:Nat),ds[i]? =some di->ds[j]? =some dj->dj.o.dst=some k->k∈di.o.names->di.deps.testBit j=true)
  (hev:∀(i:Nat) (d:DOper),ds[i]? =some d->∀X9,(i=c->X9=s)->(X9=s\/X9=s')->∃v,qG E S d.o.op Tf X9=some (v,if i=c then s' else X9)/\∀k,d.o.dst=some k->Tf.get k=some v)
  (htm:∀k v,Tf.get k=some v->(∀(i:Nat) (d:DOper),ds[i]? =some d->d.o.dst≠some k)->A.get k=some v)
  (r0:Rel P w00 φ0 s.get X) (hwf:Wf s) (hwf':Wf s') (hnx:s.next<=s'.next) (hf0:Fresh φ0 s s') (ht0:TmRel φ0 A a0.tmps) (hsz0:a0.tmps.size=nt) (hF:Wide F)
  (hQ:∀I' a' w',Step P w00 φ0 s X I' s' w'->KA I' nt Tf a0 a'->Q .normal a' w'):(Code.region Y ops true).wpIn F n P Q a0 X:=by
 obtain⟨c1,c2,c3,c4⟩:=Ul hl;have hno:∀i,¬LD (xj ops.size false) i:=λi h=>by
  unfold LD at h;rw[xe,xE]at h;split at h<;>simp at h
 let X9:(Nat->Prop)->U:=λD=>if D c then s' else s
 let Iv:(Nat->Prop)->Phi->World->Act->Prop:=λD I w a=>Step P w00 φ0 s X I (X9 D) w/\(∀k v,Tf.get k=some v->(∀j,wt ds j k->D j)->VR I v (a.tmps.getD k undef))/\a.tmps.size=nt/\a.defers=a0.defers
 have hfrX:∀{D I w},Step P w00 φ0 s X I (X9 D) w->∀Y,(X9 D).next<=Y->I Y=none:=λ{D I w} st Y hid=>by
  rw[st.same Y (.inr hid)];exact hf0 Y (zV st.ext.next hid)
 have hdone:∀{listed I w a},(∀i,i<ops.size->LD listed i)->Iv (LD listed) I w a->Q .normal a w:=λ{listed I w a} hall inv=>by
  obtain⟨i1,i2,i3,i4⟩:=inv;have hX:X9 (LD listed)=s':=wc (hall c (by rw[<-c1];exact hlt))
  rw[hX]at i1;exact hQ I a w i1 ⟨λk v hv=>i2 k v hv λj ⟨d,hd,_⟩=>hall j (by rw[<-c1];exact(List.getElem?_eq_some_iff.1 hd).1),i3,i4⟩
 have hready:∀{listed:Array Bool},listed.size=ops.size->Region.ready .any ops listed=[]->∀i,i<ops.size->LD listed i:=λ{listed} hsz hnil i=>by
  induction i using Nat.strongRecOn with
  | _ i ih=>
   intro hi;by_cases hL:LD listed i
   .exact hL
   .exfalso
    obtain⟨d,hd⟩:=uX (ds:=ds) (i:=i) J;obtain⟨o,ho,_,_,hed,_⟩:=c4 i d hd;have:i∈Region.ready .any ops listed:=mem_ready.2 ⟨by
     unfold LD at hL;rw[xe,yf J]at hL|-
     simpa using hL,o,ho,λe he hb=>ih e.on (hed e he hb) (by have:=hed e he hb;omega)⟩
    rw[hnil]at this;simp at this
 have key:∀(fuel:Nat) (listed:Array Bool) (I:Phi) (w:World) (a:Act) (u:zr),listed.size=ops.size->zM u<=fuel->(∀i,i<ops.size->¬LD listed i->i∈u)->Closed ds (LD listed)->Iv (LD listed) I w a->wpAnyIn F n P .any ops Q fuel listed a w:=by
  intro fuel
  induction fuel with
  | zero=>
   intro listed I w a u hsz hu hin hcl inv;have hu0:u=[]:=yS J;subst hu0;have hall:∀i,i<ops.size->LD listed i:=λi hi=>by
    by_cases h:LD listed i
    .exact h
    .have:=hin i hi h;simp at this
   refine⟨?_,hdone hall inv⟩;rw[xC];intro i hi;obtain⟨h1,o,ho,_⟩:=mem_ready.1 hi;have hlt:i<ops.size:=(Array.getElem?_eq_some_iff.1 ho).1;have:=hall i hlt;unfold LD at this;rw[xe,yf J]at this h1;simp at this h1;rw[this]at h1;cases h1
  | succ fuel ih=>
   intro listed I w a u hsz hu hin hcl inv;refine⟨λhnil=>hdone (hready hsz hnil) inv,λi hi=>?_⟩;obtain⟨h1,o,ho,hed⟩:=mem_ready.1 hi;have hlt:i<ops.size:=(Array.getElem?_eq_some_iff.1 ho).1;have hnew:¬LD listed i:=by
    unfold LD;rw[xe,yf J]at h1|-
    simpa using h1
   obtain⟨d,hd⟩:=uX (ds:=ds) (i:=i) J;obtain⟨o',ho',hcs,hback,_,hdep⟩:=c4 i d hd;rw[ho]at ho';cases ho';have hrd2:∀j,d.deps.testBit j=true->LD listed j:=λj hb=>by
    obtain⟨e,he,hbd,hor⟩:=hdep j hb;have hL:LD listed e.on:=hed e he hbd;rcases hor with rfl|⟨d'',hd'',hb''⟩
    .exact hL
    .refine hcl.dep e.on d'' j hL hd'' hb'' ?_;obtain⟨_,_,_,hb3,_⟩:=c4 e.on d'' hd'';have:=hb3 j hb'';have:=(List.getElem?_eq_some_iff.1 hd'').1;omega
   obtain⟨i1,i2,i3,i4⟩:=inv;have hset:=Ez (listed:=listed) (i:=i) J;have hXs:(i=c->X9 (LD listed)=s):=λe=>by subst e;exact x0 hnew
   have hXo:X9 (LD listed)=s\/X9 (LD listed)=s':=by
    by_cases e:LD listed c
    .exact .inr (wc e)
    .exact .inl (x0 e)
   have hXn:(if i=c then s' else X9 (LD listed))=X9 (more (LD listed) i):=by
    by_cases e:i=c
    .rw[wc e];exact(wc (.inr e.symm)).symm
    .rw[x0 e];by_cases e2:LD listed c
     .exact(wc e2).trans (wc (.inl e2)).symm
     .exact(x0 e2).trans (x0 λh=>h.elim e2 λh=>e h.symm).symm
   obtain⟨v,hv,hvd⟩:=hev i d hd (X9 (LD listed)) hXs hXo;rw[hXn]at hv;unfold wpOpIn;rw[ho];simp only;obtain⟨hg,hop,hdst,hdlt⟩:=KV hcs;have hgn:d.o.guard=none:=hgd d (xJ hd);have hnm:TmOn I d.o.names Tf a:=λt ht u hu=>i2 t u hu λj ⟨dj,hdj,hk⟩=>hrd2 j (hdp i j d dj t hd hdj hk ht);rw[fm]at hnm;rw[kW hg (A:=Tf) (b:=true) (by rw[hgn];rfl) (hnm.sub (by intro t h;simp[h])),wc rfl]
   rw[hop]at hv;obtain⟨op,hc1,hc2⟩:=Uk hv;rw[hc2]at hv;refine QE hS hG hc1 hv i1.rel (i1.ext.wf hwf) (λY h1=>hfrX i1 Y h1) (hnm.sub (by intro t h;rw[hop,hc2];simp[h])) hF λψ x w' k1 k2=>?_
   have hsub:Sub I ψ:=k1.sub λY h1=>hfrX i1 Y h1;refine ih _ ψ w' _ (u.erase i) (by simp[hsz]) ?_ ?_ ?_ ?_
   .rw[xF (hin i hlt hnew)];omega
   .intro j hj hn;rw[hset]at hn;have hji:j≠i:=λe=>hn (.inr e);exact(xI hji).2 (hin j hj (λh=>hn (.inl h)))
   .rw[hset];refine⟨λk dk j hk hdk hb hj=>?_⟩;rcases hk with hk|rfl
    .exact .inl (hcl.dep k dk j hk hdk hb hj)
    .rw[hd]at hdk;cases hdk;exact .inl (hrd2 j hb)
   .rw [hset];refine⟨Step.trans hwf i1 k1,λk u hu hw=>?_,by rw[<-hdst,(po _).1];exact i3,by rw[<-hdst,(po _).2];exact i4⟩
    rw[<-hdst];by_cases hk:d.o.dst=some k
    .rw[hk];have:=hvd k hk;rw[hu,x7]at this;subst this;have hlt2:k<a.tmps.size:=by rw[i3];exact c3 i d k hd hk
     simp only[Act.put];rw[XS _ _ _ _ hlt2,wc rfl];exact k2
    .have hput:(a.put d.o.dst x).tmps.getD k undef=a.tmps.getD k undef:=by
      cases hds:d.o.dst with
      |none=>rfl
      |some e=>
       simp only[Act.put];have hlt2:e<a.tmps.size:=by rw[i3];exact c3 i d e hd hds
       rw[XS _ _ _ _ hlt2,x0 (λh=>hk (by rw[hds,h]))]
     rw[hput];refine VR.mono hsub _ _ (i2 k u hu λj hwj=>(hw j hwj).resolve_right λe=>?_);obtain⟨dj,hdj,hkj⟩:=hwj;rw[e,hd]at hdj;cases hdj;exact hk hkj
 refine wpIn_region_any hm (key ops.size _ φ0 _ a0 (List.range ops.size) (by simp) (by simp) (λi hi _=>by simpa using hi) ⟨λi _ _ h=>absurd h (hno i)⟩ ⟨?_,λk v hv hw=>ht0 k v (htm k v hv λi d hd hk=>hno i (hw i ⟨d,hd,hk⟩)),hsz0,rfl⟩)
 have hX0:X9 (LD (xj ops.size false))=s:=x0 (hno c);rw[hX0];exact Step.below r0 (Below.refl _ X).drew
def zx7(hm:P.follows .mixedOrders=true)(hG:wG E.globs w00)(hS:SelfOk P w00 S){Y:Nat}{ops:Array Oper}{a0 c0:DOper}{r0:zo}{I:Phi}{a:Act}{Q:Exit->Act->World->Prop}
  (hl:Ji P nt ops=some (a0::c0::r0)) (htw:DG a0 c0 r0=true) (he:qG E S c0.o.op tm' s=some (v,s')) (h1:J1 tm' c0.o.dst (some (v,s'))=true) (h2:gP E tm' s (a0::r0)=true) (h3:gP E tm' s' (a0::r0)=true) (ho:∀k,k∉Xp (a0.o::c0.o::kI r0)->tm'.get k=A.get k)
  (r:Rel P w00 I s.get w) (hwf:Wf s) (hf:Fresh I s s') (ht:TmRel I A a.tmps) (hsz:a.tmps.size=nt) (hF:Wide F)
  (hQ:∀I' a' w',Step P w00 I s w I' s' w'->KA I' nt tm' a a'->Q .normal a' w'):(Code.region Y ops true).wpIn F n P Q a w:=by
 unfold DG at htw;simp only[zP]at htw;obtain⟨⟨⟨⟨⟨_,g1⟩,_⟩,g2⟩,g3⟩,g4⟩:=htw;have gall:(a0::r0).all (rtL bF)=true:=by simp only[List.all_cons,zP];exact⟨g2,g3⟩
 have hgn:∀d:DOper,∀k,rtL k d=true->d.o.guard=none:=λd k h=>by
  unfold rtL at h;rw[zP]at h;cases hg:d.o.guard with
  |none=>rfl
  |some _=>rw[hg]at h;cases h.2
 obtain⟨v',t',hvt,k0,hk0,hk1⟩:=Ao h1;cases hvt;have c2:=U0 (S:=S) gall h2;have c3:=U0 (S:=S) gall h3;have hx:=gq hS.ext he;refine zx6 (c:=1) hm hG hS hl (by simp) (λd hd=>?_) (λi j di dj k hi hj hk hn=>?_) (λi d hi X9 hX1 hX2=>?_) (λk v hv hk=>?_) r hwf (hx.wf hwf) hx.next hf ht hsz hF hQ
 .rcases List.mem_cons.1 hd with rfl|hd
  .exact hgn _ _ g2
  .rcases List.mem_cons.1 hd with rfl|hd
   .exact hgn _ _ g1
   .exact hgn _ _ (List.all_eq_true.1 g3 d hd)
 .unfold zyA at g4;have hil:=(List.getElem?_eq_some_iff.1 hi).1;have hjl:=(List.getElem?_eq_some_iff.1 hj).1;have:=List.all_eq_true.1 (List.all_eq_true.1 g4 i (List.mem_range.2 hil)) j (List.mem_range.2 hjl);rw[hi,hj]at this;simp only[hk]at this;have hc:di.o.names.contains k=true:=by simpa using hn
  rw[hc]at this
  simpa using this
 .by_cases hi1:i=1
  .subst hi1;obtain rfl:=hX1 rfl;simp only[xw,xr,x7]at hi;subst hi;exact⟨v,by rw[wc rfl];exact he,λk hk=>by rw[hk0]at hk;cases hk;exact hk1⟩
  .have hm:d∈a0::r0:=by
    rcases i with _|_|i
    .simp only[xr,x7]at hi;subst hi;exact List.mem_cons_self
    .exact absurd rfl hi1
    .simp only[xw]at hi;exact xA _ (xJ hi)
   rw[x0 hi1];rcases hX2 with rfl|rfl
   .obtain⟨v1,e1,k,e2,e3⟩:=c2 d hm;exact⟨v1,e1,λk' hk'=>by rw[e2]at hk';cases hk';exact e3⟩
   .obtain⟨v1,e1,k,e2,e3⟩:=c3 d hm;exact⟨v1,e1,λk' hk'=>by rw[e2]at hk';cases hk';exact e3⟩
 .have hno:k∉Xp (a0.o::c0.o::kI r0):=λhmem=>by
   obtain⟨o,ho1,ho2⟩:=bI hmem;rw[Hp]at ho1;have:o∈(a0::c0::r0).map (·.o):=by simpa using ho1
   obtain⟨d,hd,rfl⟩:=List.mem_map.1 this;obtain⟨i,hi,hid⟩:=List.getElem_of_mem hd;exact hk i d (by rw[yU hi,hid]) ho2
  rw[<-ho k hno];exact hv
def aI(hm:P.follows .mixedOrders=true)(hG:wG E.globs X)(S:Self)(hS:SelfOk P X S):DrawOk P X E S:=by
 refine⟨?_,λhl htw he h1 h2 h3 ho r hwf hf ht hsz hF hQ=>zx7 hm hG hS hl htw he h1 h2 h3 ho r hwf hf ht hsz hF hQ⟩;intro Y nt ops ds A tm' s s' I w a F n Q hc hon he r hwf hf ht hsz hF hQ;obtain⟨R,t1,t2,t3,t4,t5⟩:=zvx he;have ok:R.Ok:=⟨t1,by rw[t3];exact hon,by rw[t3];exact hwf⟩
 obtain⟨c1,c2,c3,c4⟩:=Ul hc;have hno:∀i,¬LD (xj ops.size false) i:=λi h=>by
  unfold LD at h;rw[xe,xE]at h;split at h<;>simp at h
 have hcur:∀{Y o},R.cur (LD (xj ops.size false)) Y o->s.get Y=some o:=λ{Y o} h=>by
  obtain⟨h0,m,hm,h1,_,h3⟩:=h;have hk:=R.keepN hS.ext ok (Y:=Y) (i:=0) (j:=m) (yh _) hm (λk _ hk hw=>hno k (h1 k hk hw));rw[h3,t3]at hk;have hlt:=hwf.lt Y o hk.symm;rw[t3]at h0;rw[kq,h0 hlt];exact hk.symm
 have hcurA:∀{Y o m},R.curA (LD (xj ops.size false)) Y o m->s.get Y=some o:=λ{Y o m} h=>hcur (R.cur_of_A h);have hfin:∀I' w' a',Inv R P X I w nt a (λi=>i<zM ds) I' w' a'->Q .normal a' w':=λI' w' a' inv=>by
  have hcf:∀{Y o},s'.get Y=some o->R.cur (λi=>i<zM ds) Y o:=λ{Y o} h=>by
   obtain⟨f1,f2,f3,_⟩:=R.facts hS.ext ok (zM ds) (zS _);refine⟨λ_=>?_,zM ds,zS _,λj hj _=>hj,λj h1 h2 _ _=>J,by rw[t5];exact wZ h⟩
   rw[<-uw f3 (f1.trans ok.only.symm),t5];exact vl h
  have hext:=(R.facts hS.ext ok (zM ds) (zS _)).2.2.2.2;rw[t3,t5]at hext;have hcfA:∀{Y o},s'.get Y=some o->R.curA (λi=>i<zM ds) Y o (zM ds):=λ{Y o} h=>by
   obtain⟨h0,m,hm,h1,h2,h3⟩:=hcf h;exact⟨h0,zS _,λj hj _=>hj,λj h1 h2 _ _=>J,by rw[t5];exact wZ h⟩
  refine hQ I' a' w' ⟨hext,⟨inv.base,λY o h=>(let ⟨B,hB,ht⟩:=inv.obj Y o (zM ds) (hcfA h);⟨B,hB,ht.keep (Phi.cut_sub I' _) rfl⟩),inv.rng,λY o B h=>inv.old Y o B (hcf h),λY id' o o' B B' h h'=>inv.inj Y id' o o' B B' (hcf h) (hcf h'),inv.frz,λY o B h=>inv.sep Y o B (hcf h)⟩,?_,inv.grow,?_,?_,inv.zsub,?_⟩ ⟨?_,inv.size,inv.df⟩
  .have:=inv.out;rw[t3,t5]at this;exact this
  .have:=inv.frame;rw[t3,t5]at this;exact this
  .have:=inv.own;rw[t3,t5]at this;exact this
  .have:=inv.zown;rw[t3,t5]at this;exact this
  .intro k v hv;exact VR.mono (Phi.cut_sub I' _) _ _ (inv.tmp k v (zM ds) (zS _) (λj hj _=>hj) (λj h1 h2 _ _=>J) (by rw[t4];exact hv))
 refine wpIn_region_any hm (FB hS hG hc ok hF hfin ops.size _ I _ a (List.range ops.size) (by simp) (by simp) (λi hi _=>by simpa using hi) ⟨λi _ _ h=>absurd h (hno i)⟩ ?_)
 have r':Rel P X I s.get {w with drawn:=w.drawn+1}:=Rel.congr (w:=w) rfl rfl rfl rfl r
 have htight:∀m,m<=zM ds->Sub I (I.cut (R.W m).next):=λm hm=>(Sub.refl I).to_cut λY hid=>hf Y (by
  have:=R.next_le hS.ext ok (i:=0) (j:=m) (yh _) hm;rw[t3]at this;omega)
 refine⟨r'.base,λY o m h=>(let ⟨B,hB,ht⟩:=r'.obj Y o (hcurA h);⟨B,hB,ht.keep (htight m h.2.1) rfl⟩),r'.rng,λY o B h=>r'.old Y o B (hcur h),λY id' o o' B B' h h'=>r'.inj Y id' o o' B B' (hcur h) (hcur h'),λ_ _=>rfl,λi hi _ Y h1 h2=>?_,λk v m hmN h1 _ hv=>?_,hsz,rfl,zS _,λY B h1 h2 hB=>?_,λb _ _=>rfl,r'.frz,λY o B h=>r'.sep Y o B (hcur h),λ_ _ _ h=>h,λ_ _ _ h=>.inl h⟩
 .refine hf Y ?_;have:=R.next_le hS.ext ok (i:=0) (j:=i) (yh _) (xg hi);rw[t3]at this;omega
 .have key:∀q,q<=m->(R.T q).get k=(R.T 0).get k:=by
   intro q
   induction q with
   |zero=>intro _;rfl
   |succ q ih=>
    intro hq;obtain⟨dq,hdq⟩:=uX (ds:=ds) (i:=q) J;rw[R.T_other hdq (λe=>hno q (h1 q J ⟨dq,hdq,e⟩))];exact ih J
  rw[key m (zS _),t2]at hv;exact VR.mono (htight m hmN) _ _ (ht k v hv)
 .rw[t3]at h1;rw[hf Y h1]at hB;cases hB
def TOk(Q:Nat->IFunc->Prop):Nat->Nat->Trie IFunc->Prop
 |_,_,.leaf=>True
 |a,b,.node v l r=>(match v with|some F=>Q b F|none=>True)/\TOk Q (2*a) (a+b) l/\TOk Q (2*a) (2*a+b) r
def TOk.get{Q:Nat->IFunc->Prop}:∀{t:Trie IFunc} {a b n:Nat} {F:IFunc},TOk Q a b t->t.get n=some F->Q (a*n+b) F
 |.leaf,_,_,_,_,_,h=>by simp[Trie.get]at h
 | .node v l r,a,b,n,F,⟨h1,h2,h3⟩,h=>by
  match n with
  |0=>
   simp only[Trie.get]at h;subst h
   simpa using h1
  | m+1=>
   simp only[Trie.get]at h;by_cases e:(m+1)%2=1
   .have e1:zD (Nat.mod (m+1) 2) 1=true:=by show zD ((m+1)%2) 1=true;rw[e];rfl
    rw[e1]at h;have:=h2.get (n:=(m+1)/2) h;have e2:2*a*((m+1)/2)+(a+b)=a*(m+1)+b:=by
     have:m+1=2*((m+1)/2)+1:=J;generalize (m+1)/2=k at this|-;rw[this,Nat.mul_add,Nat.mul_one,yL 2 a,Nat.mul_assoc,Nat.add_assoc]
    rw[e2]at this;exact this
   .have e1:zD (Nat.mod (m+1) 2) 1=false:=by
     show zD ((m+1)%2) 1=false;have:(m+1)%2=0:=J;rw[this];rfl
    rw[e1]at h;have:=h3.get (n:=zW ((m+1)/2)) h;have e2:2*a*(zW ((m+1)/2))+(2*a+b)=a*(m+1)+b:=by
     have:m+1=2*(zW ((m+1)/2))+2:=by simp only[Nat.pred_eq_sub_one];omega
     generalize zW ((m+1)/2)=k at this|-;rw[this,Nat.mul_add,yL 2 a,Nat.mul_assoc,<-Nat.add_assoc]
    rw[e2]at this;exact this
def Q(P:Program)(k:Nat)(F:IFunc):Prop:=∃fn,P.funcs[k]? =some fn/\cN P fn=some F
def envOk_of{P:Program}{E:Env}(h:TOk (Q P) 1 0 E.funs):lL P E:=λf F hf=>by
 have:=h.get hf;rw[Nat.one_mul,Nat.add_zero]at this;exact this
abbrev Orc:=Nat->Option (zt->U->zb)
variable {O:Orc}
def Kw(O:Orc):Prop:=∀f g,O f=some g->∀args s v s',g args s=some (v,s')->Ext s s'
def YT(E:Env)(O:Orc)(S:Self)(f:Nat)(args:zt)(s:U):zb:=
 match O f with
 |some g=>g args s
 |none=>kY E S f args s
def evT(E:Env)(O:Orc):Nat->Self
 |0=>⟨λ_ _ _=>none,λ_ _ _ _=>none,λ_ _ _=>none⟩
 |n+1=>⟨λf args s=>YT E O (evT E O n) f args s,λrd b fr s=>evC E (evT E O n) rd (.loop b) fr s,λl args s=>kw E (evT E O n) l args s⟩
def Un{args:zt}(h:YT E O S f args s=some (v,s')):
  (∃g,O f=some g/\g args s=some (v,s'))\/(O f=none/\kY E S f args s=some (v,s')):=by
 unfold YT at h;split at h
 .rename_i g hg;exact .inl ⟨g,hg,h⟩
 .rename_i hg;exact .inr ⟨hg,h⟩
def lw(E:Env){O:Orc}(hx:Kw O):∀n,Mono (evT E O n)
 |0=>⟨λ_ _ _ _ _ h=>by simp[evT]at h,λ_ _ _ _ _ _ _ h=>by simp[evT]at h,λ_ _ _ _ _ h=>by simp[evT]at h⟩
 | n+1=>⟨λf args s v s' h=>by
   rcases Un h with ⟨g,hg,h⟩|⟨_,h⟩
   .exact(hx f g hg _ _ _ _ h).next
   .exact mq (lw E hx n) h,
  λ_ _ _ _ _ _ _ h=>vR (lw E hx n) h,λ_ _ _ _ _ h=>fV (lw E hx n) h⟩
def Zg(E:Env){O:Orc}(hx:Kw O):∀n,ExtS (evT E O n)
 |0=>⟨λ_ _ _ _ _ h=>by simp[evT]at h,λ_ _ _ _ _ _ _ h=>by simp[evT]at h,λ_ _ _ _ _ h=>by simp[evT]at h⟩
 | n+1=>⟨λf args s v s' h=>by
   rcases Un h with ⟨g,hg,h⟩|⟨_,h⟩
   .exact hx f g hg _ _ _ _ h
   .exact AY (Zg E hx n) h,
  λ_ _ _ _ _ _ _ h=>lh (Zg E hx n) h,λ_ _ _ _ _ h=>rj (Zg E hx n) h⟩
def SC(P:Program)(X:World)(f:Nat)(args:zt)(s:U)(v:Z)(s':U):Prop:=
 (∃fn,P.funcs[f]? =some fn/\fn.body.isSome=true/\(fn.name== "runtime.NumGoroutine")=false)/\
 ∀(I:Phi) (w:World) (xs:zy),Rel P X I s.get w->Wf s->Fresh I s s'->VRL I args xs->∀F n,Wide F->CallsIn F n P f xs.toArray w (KB P X I s w v s')
def vA(P:Program)(X:World)(f:Nat)(g:zt->U->zb):Prop:=
 ∀args s v s',g args s=some (v,s')->SC P X f args s v s'
def Gs{P:Program}{X:World}{E:Env}{O:Orc}(hx:Kw O)(hm:P.follows .mixedOrders=true)(hG:wG E.globs X)(hE:lL P E)(hO:∀f g,O f=some g->vA P X f g):∀n,SelfOk P X (evT E O n)
 |0=>⟨lw E hx 0,Zg E hx 0,λh=>by simp[evT]at h,λh=>by simp[evT]at h,λh=>by simp[evT]at h⟩
 | n+1=>
  have ih:=Gs hx hm hG hE hO n;have hD:DrawOk P X E (evT E O n):=aI hm hG _ ih
  ⟨lw E hx (n+1),Zg E hx (n+1),λ{f args s v s'} h=>by
   rcases Un h with ⟨g,hg,hv⟩|⟨_,h⟩
   .obtain⟨h1,h2⟩:=hO f g hg args s v s' hv;exact⟨h1,λ{I w xs} r hwf hf hx F k hF=>h2 I w xs r hwf hf hx F k hF⟩
   .exact Jk ih hG hE hD h,
  λh _ _ _ _ r hwf hf ha hB=>bE ih hG hD h r hwf hf ha hB,λh _ _ _ _ _ hb r hwf hf hfr F k hF hrd=>oe ih hG hD h hb r hwf hf hfr F k hF hrd⟩
def eqN:zr->zr->Bool
 |[],[]=>true
 |a::x,b::y=>zD a b&&eqN x y
 |_,_=>false
def FQ:∀{a b:zr},eqN a b=true->a=b
 |[],[],_=>rfl
 |[],_::_,h=>by simp[eqN]at h
 |_::_,[],h=>by simp[eqN]at h
 |a::x,b::y,h=>by
  simp only[eqN,zP,wH]at h;rw[h.1,FQ h.2]
mutual
def eqA:Z->Z->Bool
 |.bool a,.bool b=>a==b
 |.int k n,.int k' m=>jJ k k'&&eqI n m
 |.str a,.str b=>eqN a b
 |.nils,.nils=>true
 |.nilp,.nilp=>true
 |.agg a,.agg b=>dV a b
 |.tup a,.tup b=>dV a b
 |.lst n e a,.lst m f b=>zD n m&&(e==f)&&dV a b
 |_,_=>false
def dV:zt->zt->Bool
 |[],[]=>true
 |a::x,b::y=>eqA a b&&dV x y
 |_,_=>false
end
mutual
theorem FP:∀{a b:Z},eqA a b=true->a=b
 |.bool a,b,h=>by cases b<;>simp[eqA]at h;rw[h]
 |.int k n,b,h=>by
  cases b<;>simp only[eqA,zP,pl,uL,jm,beq_iff_eq]at h<;>first|(cases h;done)|skip
  rw[h.1,h.2]
 |.str a,b,h=>by
  cases b<;>simp only[eqA]at h<;>first|(cases h;done)|skip
  rw[FQ h]
 |.nils,b,h=>by cases b<;>simp[eqA]at h;rfl
 |.nilp,b,h=>by cases b<;>simp[eqA]at h;rfl
 |.agg a,b,h=>by
  cases b<;>simp only[eqA]at h<;>first|(cases h;done)|skip
  rw[Ka h]
 |.lst n e a,b,h=>by
  cases b<;>simp only[eqA,zP,wH,beq_iff_eq]at h<;>first|(cases h;done)|skip
  rw[h.1.1,h.1.2,Ka h.2]
 |.ptr _ _,b,h=>by cases b<;>simp[eqA]at h
 |.gptr _ _,b,h=>by cases b<;>simp[eqA]at h
 |.sl _ _ _ _,b,h=>by cases b<;>simp[eqA]at h
 |.sl0,b,h=>by cases b<;>simp[eqA]at h
 |.map _,b,h=>by cases b<;>simp[eqA]at h
 |.nilm,b,h=>by cases b<;>simp[eqA]at h
 |.fn _ _ _,b,h=>by cases b<;>simp[eqA]at h
 |.nilf,b,h=>by cases b<;>simp[eqA]at h
 |.yld _,b,h=>by cases b<;>simp[eqA]at h
 |.ifc _ _,b,h=>by cases b<;>simp[eqA]at h
 |.nili,b,h=>by cases b<;>simp[eqA]at h
 |.tup a,b,h=>by
  cases b<;>simp only[eqA]at h<;>first|(cases h;done)|skip
  rw[Ka h]
 |.gr _ _ _ _,b,h=>by cases b<;>simp[eqA]at h
 |.vp _,b,h=>by cases b<;>simp[eqA]at h
theorem Ka:∀{a b:zt},dV a b=true->a=b
 |[],[],_=>rfl
 |[],_::_,h=>by simp[dV]at h
 |_::_,[],h=>by simp[dV]at h
 |a::x,b::y,h=>by
  simp only[dV,zP]at h;rw[FP h.1,Ka h.2]
end
def s00(m:Nat)(b:Bool):U:={objs:=.leaf,next:=0,wm:=m,hide:=[],only:=none,md:=b}
def WN(m:Nat)(b:Bool)(Y:Nat):(s00 m b).get Y=none:=by
 cases h:(s00 m b).get Y with
 |none=>rfl
 |some o=>have:=wZ h;simp[s00,Trie.get]at this
def SC.up{args:zt}{b:Bool}{s1:U}(h:SC P X f args (s00 0 b) v s1)(hp1:wo args=true)(hp2:wC v=true)(s:U):SC P X f args s v s:=by
 refine⟨h.1,λI w xs r hwf hf hx F k hF=>?_⟩;have r0:Rel P X ⟨λ_=>none,I.z⟩ (s00 0 b).get w:=by
  refine⟨r.base,λY o h=>?_,(λY B h=>by cases h),(λY _ _ _ h=>by cases h),λY _ _ _ _ _ h=>?_,r.frz,λ_ _ _ _ h=>by cases h⟩
  .rw[WN]at h;cases h
  .rw[WN]at h;cases h
 have hcall:=h.2 _ w xs r0 ⟨(λY o h=>by simp[s00,Trie.get]at h),λp hp=>by simp[s00]at hp⟩ (λ_ _=>rfl) (VRL.pure (I:=I) (I':=⟨λ_=>none,I.z⟩) (λ_ _ _ h=>h) _ _ hp1 hx) F k hF
 refine CallsIn.mono hcall ?_
 rintro e w1 ⟨φ1,x,rfl,k1,k2⟩
 have hold:∀b,b<w.heap.size->w1.heap[b]? =w.heap[b]? :=λb hb=>k1.frame b hb λY o B ho=>by rw[WN]at ho;cases ho
 have hz:∀b i u,φ1.z b i=some u->I.z b i=some u\/w.heap.size<=b:=λb i u hu=>by
  rcases k1.zown b i u hu with h1|h1|⟨id0,o0,B0,q1,_⟩
  .exact .inl h1
  .exact .inr h1
  .rw[WN]at q1;cases q1
 refine⟨I.zset φ1.z,x,rfl,⟨Ext.refl _,⟨k1.rel.base,λY o ho=>?_,λY B hB=>?_,r.old,r.inj,k1.rel.frz,λY o B ho hB=>?_⟩,λ_ _=>rfl,k1.size,λb hlt _=>hold b hlt,(λY _ h1 h2=>absurd h2 J),k1.zsub,λb i u hu=>?_⟩,VR.pure (I:=φ1) (I':=I.zset φ1.z) (λ_ _ _ h=>h) _ _ hp2 k2⟩
 .obtain⟨B,hB,t⟩:=r.obj Y o ho;exact⟨B,hB,t.keep (I:=I) (I':=I.zset φ1.z) ⟨λ_ _ h=>h,k1.zsub⟩ (hold _ (r.rng Y B hB))⟩
 .have hB':I Y=some B:=hB;have h1:=r.rng Y B hB';have h2:=k1.size;omega
 .refine(r.sep Y o B ho hB).congr λi=>?_;have hB':I Y=some B:=hB;show φ1.z B.b i=I.z B.b i;cases h1:φ1.z B.b i with
  |none=>
   cases h2:I.z B.b i with
   |none=>rfl
   |some u=>have:=k1.zsub B.b i u h2;rw[h1]at this;cases this
  |some u=>
   rcases hz _ _ _ h1 with h2|h2
   .exact h2.symm
   .have:=r.rng Y B hB';omega
 .rcases hz b i u hu with h1|h1
  .exact .inl h1
  .exact .inr (.inl h1)
structure LeS(S S':Self):Prop where
 call:∀f a s r,S.call f a s=some r->S'.call f a s=some r
 loop:∀rd b fr s r,S.loop rd b fr s=some r->S'.loop rd b fr s=some r
 round:∀l a s r,S.round l a s=some r->S'.round l a s=some r
structure LimS(T:Nat->Self)(L:Self):Prop where
 call:∀f a s r,L.call f a s=some r->∃n,(T n).call f a s=some r
 loop:∀rd b fr s r,L.loop rd b fr s=some r->∃n,(T n).loop rd b fr s=some r
 round:∀l a s r,L.round l a s=some r->∃n,(T n).round l a s=some r
def LeS.refl(S:Self):LeS S S:=⟨λ_ _ _ _ h=>h,λ_ _ _ _ _ h=>h,λ_ _ _ _ h=>h⟩
def LeS.trans{S' S'':Self}(h:LeS S S')(h':LeS S' S''):LeS S S'':=
 ⟨λ_ _ _ _ t=>h'.call _ _ _ _ (h.call _ _ _ _ t),λ_ _ _ _ _ t=>h'.loop _ _ _ _ _ (h.loop _ _ _ _ _ t),λ_ _ _ _ t=>h'.round _ _ _ _ (h.round _ _ _ _ t)⟩
def LeS.chain{T:Nat->Self}(h:∀n,LeS (T n) (T (n+1))):∀{n m:Nat},n<=m->LeS (T n) (T m)
 |n,0,hle=>by (have:n=0:=by omega);subst this;exact LeS.refl _
 |n,m+1,hle=>by
  by_cases e:n=m+1
  .subst e;exact LeS.refl _
  .exact(LeS.chain h (n:=n) (m:=m) J).trans (h m)
structure Ct{α:Type}(X9:Self->Option α):Prop where
 up:∀S S',LeS S S'->∀r,X9 S=some r->X9 S'=some r
 fin:∀(T:Nat->Self) (L:Self),(∀n,LeS (T n) (T (n+1)))->LimS T L->∀r,X9 L=some r->∃n,X9 (T n)=some r
def Ct.const{α:Type}(x:Option α):Ct λ_=>x:=⟨λ_ _ _ _ h=>h,λ_ _ _ _ _ h=>⟨0,h⟩⟩
def Ct.call(f:Nat)(a:zt)(s:U):Ct λS=>S.call f a s:=⟨λ_ _ h _ t=>h.call _ _ _ _ t,λ_ _ _ h _ t=>h.call _ _ _ _ t⟩
def Ct.loop(rd:zw)(b:ICode)(fr:Fr)(s:U):Ct λS=>S.loop rd b fr s:=⟨λ_ _ h _ t=>h.loop _ _ _ _ _ t,λ_ _ _ h _ t=>h.loop _ _ _ _ _ t⟩
def Ct.round(l:Nat)(a:zt)(s:U):Ct λS=>S.round l a s:=⟨λ_ _ h _ t=>h.round _ _ _ _ t,λ_ _ _ h _ t=>h.round _ _ _ _ t⟩
def Ct.bind{α β:Type}{X9:Self->Option α}{k:Self->Option α->Option β}(hX:Ct X9)(h0:∀S,k S none=none)(hk:∀x,Ct λS=>k S (some x)):Ct λS=>k S (X9 S) where
 up:=λS S' hS r h=>by
  cases hx:X9 S with
  |none=>rw[hx,h0]at h;cases h
  |some x=>rw[hx]at h;rw[hX.up S S' hS x hx];exact(hk x).up S S' hS r h
 fin:=λT L hT hL r h=>by
  cases hx:X9 L with
  |none=>rw[hx,h0]at h;cases h
  |some x=>
   rw[hx]at h;obtain⟨n,hn⟩:=hX.fin T L hT hL x hx;obtain⟨m,hm⟩:=(hk x).fin T L hT hL r h;refine⟨n+m,?_⟩;rw[hX.up _ _ (LeS.chain hT J) x hn];exact(hk x).up _ _ (LeS.chain hT J) r hm
def Ct.map{α β:Type}{X9:Self->Option α}(g:Option α->Option β)(hX:Ct X9)(h0:g none=none):Ct λS=>g (X9 S):=
 Ct.bind (k:=λ_ x=>g x) hX (λ_=>h0) λx=>Ct.const (g (some x))
def aB(E:Env)(op:IOp)(A:zu)(s:U):Ct λS=>qG E S op A s:=by
 cases op
 case call f args=>
  show Ct λS=>dX S f (evL A args) s;cases evL A args with
  |none=>exact Ct.const none
  |some vs=>exact Ct.call f vs s
 case cv x args=>
  show Ct λS=>aL S (x.ev A) (evL A args) s;cases evL A args with
  |none=>exact Ct.const none
  | some vs=>
   cases x.ev A with
   |none=>exact Ct.const none
   |some u=>
    cases u
    case fn f a c=>exact Ct.call f (a++vs++c) s
    case yld l=>exact Ct.round l vs s
    all_goals exact Ct.const none
 all_goals exact Ct.const _
def Ft(E:Env)(o:SOper)(A:zu)(s:U):Ct λS=>pU E S o A s:=by
 unfold pU;cases lS o.guard A with
 |none=>exact Ct.const none
 |some b=>
  cases b with
  |true=>exact(aB E o.op A s).map (stS A o.dst) rfl
  |false=>exact Ct.const _
def mJ(E:Env):∀(l:List SOper) (A:zu) (s:U),Ct λS=>evS E S l A s
 |[],_,_=>Ct.const _
 |o::r,A,s=>Ct.bind (k:=λS x=>match x with|some p=>evS E S r p.1 p.2|none=>none) (Ft E o A s) (λ_=>rfl) λp=>mJ E r p.1 p.2
def Fs(E:Env)(o:DOper)(i:Nat)(log:List LogE)(A:zu)(s:U):Ct λS=>Z9 E S o i log A s:=by
 unfold Z9;cases lS o.o.guard A with
 |none=>exact Ct.const none
 |some b=>
  cases b with
  |true=>exact(aB E o.o.op A _).map (HW o i log A s) rfl
  |false=>exact Ct.const _
def Fq(E:Env):∀(l:zo) (i:Nat) (log:List LogE) (A:zu) (s:U),Ct λS=>evD E S l i log A s
 |[],_,_,_,_=>Ct.const _
 |o::r,i,log,A,s=>Ct.bind (k:=λS x=>match x with|some p=>evD E S r (Nat.succ i) p.1 p.2.1 p.2.2|none=>none) (Fs E o i log A s) (λ_=>rfl) λp=>Fq E r _ _ _ _
def dD{X9:Self->zh}{k:Self->Fr->U->zh}(hX:Ct X9)(hk:∀fr s,Ct λS=>k S fr s):Ct λS=>ko (k S) (X9 S):=
 Ct.bind (k:=λS x=>ko (k S) x) hX (λ_=>rfl) λp=>by
  obtain⟨r,fr,s⟩:=p;cases r with
  |norm=>exact hk fr s
  |exit i=>exact Ct.const _
  |ret=>exact Ct.const _
def lH(E:Env)(rd:zw):∀(c:ICode) (fr:Fr) (s:U),Ct λS=>evC E S rd c fr s
 |.skip,_,_=>Ct.const _
 |.reg ops,fr,s=>(mJ E ops fr.A s).map (j5 fr.df) rfl
 |.regd ops,fr,s=>by
  show Ct λS=>JJ E S ops fr s;unfold JJ;cases s.only with
  |none=>exact(Fq E ops 0 [] fr.A s).map (j5 fr.df) rfl
  |some _=>exact Ct.const none
 |.regt a c r,fr,s=>Ct.bind (k:=λS x=>rtS E S (a::r) c.o fr.df s x) (mJ E (a.o::c.o::kI r) fr.A s) (λ_=>rfl) λp=>(aB E c.o.op p.1 s).map (rtE E (a::r) c.o.dst p.1 fr.df s) rfl
 |.seq a b,fr,s=>dD (lH E rd a fr s) (lH E rd b)
 | .cond c a b,fr,s=>by
  show Ct λS=>Jx (c.ev fr.A) (evC E S rd a) (evC E S rd b) fr s;cases c.ev fr.A with
  |none=>exact Ct.const none
  | some v=>
   cases v
   case bool x=>cases x with
    |true=>exact lH E rd a fr s
    |false=>exact lH E rd b fr s
   all_goals exact Ct.const none
 |.block Y b,fr,s=>(lH E rd b fr s).map (gS Y) rfl
 |.loop b,fr,s=>dD (lH E rd b fr s) (λfr s=>Ct.loop rd b fr s)
 |.exit _,_,_=>Ct.const _
 |.ret,_,_=>Ct.const _
 | .rf g ps asg body,fr,s=>by
  show Ct λS=>rfR S rd (g.ev fr.A) ps asg body fr s;unfold rfR;cases rd with
  |some _=>exact Ct.const none
  | none=>
   simp only;cases g.ev fr.A with
   |none=>exact Ct.const none
   |some v=>
    cases v
    case fn f a c=>exact(Ct.call f _ _).map (Zt fr (Nat.succ s.next) s.next) rfl
    all_goals exact Ct.const none
 |.stk,_,_=>Ct.const _
theorem dC(E:Env)(F:IFunc)(args:zt)(s:U):Ct λS=>Xh E S F args s:=
 (lH E none F.body _ s).map (qv E.globs F.res) rfl
theorem Fp(E:Env)(f:Nat)(args:zt)(s:U):Ct λS=>kY E S f args s:=by
 unfold kY;cases E.funs.get f with
 |none=>exact Ct.const none
 | some F=>
  simp only;cases zH (qQ args) F.ntmps with
  |false=>exact Ct.const none
  |true=>
   simp only[x6];cases E.pure f with
   |true=>exact(dC E F args _).map (Xd s) rfl
   |false=>exact(dC E F args _).map (mdR s.md) rfl
def K8(E:Env)(O:Orc)(f:Nat)(args:zt)(s:U):Ct λS=>YT E O S f args s:=by
 unfold YT;cases O f with
 |none=>exact Fp E f args s
 |some g=>exact Ct.const _
def Us (E:Env)(l:Nat)(args:zt)(s:U):Ct λS=>kw E S l args s:=by
 unfold kw;cases s.get l with
 |none=>exact Ct.const none
 | some o=>
  cases o
  case loop st pend A ps asg body d=>
   simp only;cases Zv A ps args with
   |none=>exact Ct.const none
   | some tm1=>
    simp only;refine Ct.bind (k:=λS x=>ua E S l body x) (lH E (some l) asg _ s) (λ_=>rfl) λp=>?_;unfold ua;obtain⟨r,fr,s1⟩:=p;cases r with
    |exit i=>exact Ct.const none
    |ret=>exact Ct.const none
    | norm=>
     simp only;cases s1.get l with
     |none=>exact Ct.const none
     | some o=>
      cases o
      case loop st pend A ps asg body d=>
       cases st with
       |ready=>exact(lH E (some l) _ fr _).map (jA l) rfl
       |busy=>exact Ct.const none
       |done=>exact Ct.const none
       |exhausted=>exact Ct.const none
      all_goals exact Ct.const none
  all_goals exact Ct.const none
def kp(E:Env)(O:Orc):∀n,LeS (evT E O n) (evT E O (n+1))
 |0=>⟨λ_ _ _ _ h=>by simp[evT]at h,λ_ _ _ _ _ h=>by simp[evT]at h,λ_ _ _ _ h=>by simp[evT]at h⟩
 |n+1=>
  have ih:=kp E O n
  ⟨λf a s r h=>(K8 E O f a s).up _ _ ih r h,λrd b fr s r h=>(lH E rd (.loop b) fr s).up _ _ ih r h,λl a s r h=>(Us E l a s).up _ _ ih r h⟩
noncomputable section
open Classical in
def nZ{α:Type}(X9:Nat->Option α):Option α:=if h:∃r n,X9 n=some r then some (Classical.choose h)else none
def uq{α:Type}{X9:Nat->Option α}{r:α}(h:nZ X9=some r):∃n,X9 n=some r:=by
 unfold nZ at h;split at h
 .rename_i hx
  cases h;exact xG hx
 .cases h
def kH{α:Type}{X9:Nat->Option α}(hm:∀n r,X9 n=some r->X9 (n+1)=some r){n:Nat}{r:α}(h:X9 n=some r):nZ X9=some r:=by
 have up:∀k m r,X9 m=some r->X9 (m+k)=some r:=λk=>by
  induction k with
  |zero=>intro m r h;exact h
  |succ k ih=>intro m r h;exact hm _ _ (ih m r h)
 unfold nZ;have hx:∃r n,X9 n=some r:=⟨r,n,h⟩;rw[dif_pos hx];obtain⟨m,hm'⟩:=xG hx;have h1:=up m n r h;have h2:=up n m _ hm';rw[Nat.add_comm,h1]at h2;exact h2.symm
def evW(E:Env)(O:Orc):Self:=
 ⟨λf a s=>nZ λn=>(evT E O n).call f a s,λrd b fr s=>nZ λn=>(evT E O n).loop rd b fr s,λl a s=>nZ λn=>(evT E O n).round l a s⟩
end
def aM(E:Env)(O:Orc):LimS (evT E O) (evW E O):=⟨λ_ _ _ _ h=>uq h,λ_ _ _ _ _ h=>uq h,λ_ _ _ _ h=>uq h⟩
def Il{a:zt}{r:Z×U}(h:YT E O (evW E O) f a s=some r):(evW E O).call f a s=some r:=by
 obtain⟨n,hn⟩:=(K8 E O f a s).fin _ _ (kp E O) (aM E O) r h;exact kH (n:=n+1) (λn r h=>(kp E O n).call _ _ _ _ h) hn
def Im{rd:zw}{b:ICode}{fr:Fr}{r:Res×Fr×U}(h:evC E (evW E O) rd (.loop b) fr s=some r):(evW E O).loop rd b fr s=some r:=by
 obtain⟨n,hn⟩:=(lH E rd (.loop b) fr s).fin _ _ (kp E O) (aM E O) r h;exact kH (n:=n+1) (λn r h=>(kp E O n).loop _ _ _ _ _ h) hn
def Cc{l:Nat}{a:zt}{r:Z×U}(h:kw E (evW E O) l a s=some r):(evW E O).round l a s=some r:=by
 obtain⟨n,hn⟩:=(Us E l a s).fin _ _ (kp E O) (aM E O) r h;exact kH (n:=n+1) (λn r h=>(kp E O n).round _ _ _ _ h) hn
def laid_ints{H:Type}{enc:TypeId×Value->H}{base:Nat}{spare:Nat->Bool}{held:Bool}{fuel:Nat}{t e:TypeId}{k:IntKind}{cs:zy}{vs:zq}{p:List MemPlace}(ht:P.underlying t=some (.array n e))(he:P.underlying e=some (.int k))(hc:P.cellsOf e=1)(hct:P.cellsOf t=n)
  (h:DataW.trod enc P w base spare held fuel t cs=some (.agg (vs.map λv=>.lit (.int k v)),p)):cs=vs.map (.int k ·):=by
 obtain⟨xs,m,rfl,hx,hlen,hn,hel⟩:=DataW.trod_array ht h;simp only[wF,DataW.agg.injEq]at hx;have hl:zM vs=n:=by
  have:=congrArg zM hx.1;simp at this;omega
 rw[hct]at hlen;apply List.ext_getElem?;intro i;by_cases hi:i<n
 .have h1:=hel i hi;rw[hc,Nat.mul_one]at h1;rw[yU J]at h1;obtain⟨z,z1,z2,_⟩:=DataW.trod_int he h1;have hz:xs[i].1=.lit (.int k z):=by rw[z2]
  have hv:(vs.map λv=>(DataW.lit (.int k v):DataW H))[i]? =(xs.map (·.1))[i]? :=by rw[hx.1]
  rw[xz,xz,yU J,yU J]at hv;simp only[yA,x7]at hv;rw[hz]at hv;have hvz:vs[i]=z:=by simpa using hv
  have hcs:cs[i]? =some (.int k z):=by
   have:=congrArg (λl=>l[0]?) z1
   simpa using this
  rw[hcs,xz,yU J,yA,hvz]
 .rw[yF J,yF (by simp;omega)]
def cB(I:Phi)(k:IntKind):∀vs:zq,VRL I (vs.map (Z.int k ·)) (vs.map (Value.int k ·))
 |[]=>VRL.nil I
 |v::vs=>VRL.cons (by simp only[VR]) (cB I k vs)
def glob_of{name:String}{g:Nat}{cs:zn}{k:IntKind}{vs:zq}(hg:P.globalNamed name=some g)(hv:w.var? P name=some cs)(hcs:cs.toList=vs.map (Value.int k ·)):
  g<w.heap.size/\∃c e fr,w.heap[g]? =some (.cells c e fr)/\(vs.map (Z.int k ·)).length<=c.size/\∀I,VRL I (vs.map (Z.int k ·)) (c.toList.take (vs.map (Z.int k ·)).length):=by
 unfold World.var? at hv;rw[hg]at hv;simp only[Option.bind_some]at hv;cases hh:w.heap[g]? with
 |none=>rw[hh]at hv;cases hv
 |some o=>
  rw[hh]at hv;cases o<;>simp only at hv<;>first|(cases hv;done)|skip
  rename_i c e fr
  have hcc:c=cs:=by simpa using hv
  subst hcc;refine⟨(Array.getElem?_eq_some_iff.1 hh).1,c,e,fr,rfl,?_,λI=>?_⟩
  .have:=congrArg zM hcs;simp at this|-;omega
  .rw[hcs,List.take_of_length_le (by simp)];exact cB I k vs
def laid_pairs{H:Type}{enc:TypeId×Value->H}{base:Nat}{spare:Nat->Bool}{held:Bool}{fuel:Nat}{t e u:TypeId}{k:IntKind}{f0 f1:Field}{cs:zy}{vs:zm}{p:List MemPlace}(ht:P.underlying t=some (.array n e))(he:P.underlying e=some (.struct #[f0,f1]))
  (h0:f0.type=u/\f0.offset=0) (h1:f1.type=u/\f1.offset=1) (hu:P.underlying u=some (.int k)) (hcu:P.cellsOf u=1) (hc:P.cellsOf e=2) (hct:P.cellsOf t=n*2)
  (h:DataW.trod enc P w base spare held fuel t cs=some (.agg (vs.map λv=>.agg [.lit (.int k v.1),.lit (.int k v.2)]),p)):cs=(vs.flatMap λv=>[v.1,v.2]).map (.int k ·):=by
 obtain⟨xs,m,rfl,hx,hlen,hn,hel⟩:=DataW.trod_array ht h;simp only[wF,DataW.agg.injEq]at hx;have hl:zM vs=n:=by
  have:=congrArg zM hx.1;simp at this;omega
 rw[hct]at hlen;have key:∀i (hi:i<List.length vs),cs[2*i]? =some (.int k vs[i].1)/\cs[2*i+1]? =some (.int k vs[i].2):=by
  intro i hi;have g:=hel i J;rw[hc,yU J]at g;obtain⟨y0,y1,m',e1,e2,e3,e4⟩:=Go.ChangeShapes.trod_struct2 he g;rw[h0.1,h0.2,hcu]at e3;rw[h1.1,h1.2,hcu]at e4;obtain⟨z0,a0,b0,_⟩:=DataW.trod_int hu e3;obtain⟨z1,a1,b1,_⟩:=DataW.trod_int hu e4;have hv:(vs.map λv=>(DataW.agg [.lit (.int k v.1),.lit (.int k v.2)]:DataW H))[i]? =(xs.map (·.1))[i]? :=by rw[hx.1]
  rw[xz,xz,yU J,yU J]at hv;simp only[yA,x7]at hv;rw[e1,b0,b1]at hv;simp at hv;rw[hv.1,hv.2];have c0:=congrArg (λl=>l[0]?) a0;have c1:=congrArg (λl=>l[0]?) a1;simp[List.getElem?_take]at c0 c1;rw[show 2*i=i*2 from yL _ _];exact⟨c0,c1⟩
 apply List.ext_getElem?;intro j;have hfl:∀(l:zm) (q:Nat),((l.flatMap λv=>[v.1,v.2]).map (Value.int k ·))[q]? =if q%2=0 then (l[q/2]?).map (λv=>Value.int k v.1)else (l[q/2]?).map (λv=>Value.int k v.2):=by
  intro l
  induction l with
  |nil=>intro q;simp
  | cons v r ih=>
   intro q
   match q with
   |0=>simp
   |1=>simp
   |q+2=>
    have:=ih q;simp only[List.flatMap_cons,List.cons_append,List.nil_append,List.map_cons,xw];rw[this,show (q+2)%2=q%2 by omega,show (q+2)/2=q/2+1 by omega,xw]
 rw[hfl];by_cases hj:j/2<zM vs
 .obtain⟨k1,k2⟩:=key (j/2) hj;rw[yU hj];split
  .rw[show 2*(j/2)=j by omega]at k1;rw[k1];simp
  .rw[show 2*(j/2)+1=j by omega]at k2;rw[k2];simp
 .rw[yF J,yF (l:=vs) J];simp
def GlobAt(w:World)(g:Nat)(l:zt):Prop:=g<w.heap.size/\∃c e fr,w.heap[g]? =some (.cells c e fr)/\zM l<=c.size/\∀I,VRL I l (c.toList.take (zM l))
def globRel_of{G:List zt}(h:∀i cs,G[i]? =some cs->cs≠[]->GlobAt w i cs):wG G w:=h
open Go.RowKit (Below)
def okV(v:Z):zb->Bool
 |some p=>eqA v p.1
 |none=>false
def Ni{r:zb}(h:okV v r=true):∃s,r=some (v,s):=by
 cases r with
 |none=>simp[okV]at h
 |some p=>exact⟨p.2,by rw[FP h]⟩
def noO:Orc:=λ_=>none
def withG(f:Nat)(g:zt->U->zb)(O:Orc):Orc:=λk=>bif zD f k then some g else O k
structure OrcOk(P:Program)(X:World)(O:Orc):Prop where
 ext:Kw O
 ok:∀f g,O f=some g->vA P X f g
def jb(P:Program)(X:World):OrcOk P X noO:=⟨λ_ _ h=>by (cases h),λ_ _ h=>by (cases h)⟩
def OrcOk.withG{g:zt->U->zb}(hO:OrcOk P X O)(he:∀args s v s',g args s=some (v,s')->Ext s s')(hk:vA P X f g):OrcOk P X (withG f g O):=by
 refine⟨λk h hk'=>?_,λk h hk'=>?_⟩<;>unfold Ev.withG at hk'
 .cases hb:zD f k with
  |true=>rw[hb]at hk';simp only[x6,x7]at hk';subst hk';exact he
  |false=>rw[hb]at hk';simp only[wh]at hk';exact hO.ext k h hk'
 .cases hb:zD f k with
  |true=>
   rw[hb]at hk';simp only[x6,x7]at hk';subst hk';rw[wH]at hb;subst hb;exact hk
  |false=>rw[hb]at hk';simp only[wh]at hk';exact hO.ok k h hk'
end Go.Proofs.YtbdfljdgapkbcaaGreatDoor.Ev

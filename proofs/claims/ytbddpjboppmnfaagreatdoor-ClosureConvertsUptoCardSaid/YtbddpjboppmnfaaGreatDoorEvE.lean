/- A part of the evaluator and of its soundness: what it answers, the model's run answers. No conditions. -/
import Derived.Test.YtbddpjboppmnfaaGreatDoorEvD
import Derived.OpenShut
import Derived.ChangeSame
set_option linter.unusedSimpArgs false
set_option linter.unusedVariables false
set_option linter.defProp false
noncomputable section
open List renaming length → zR, getElem?_eq_getElem → xj, getElem?_cons_zero → xM, getElem?_eq_none → yS, getElem?_map → xO, getElem?_cons_succ → xQ, getD_eq_getElem?_getD → xR, getElem?_append_left → xb, contains_iff_mem → xT
open Bool renaming and_eq_true → zU, or_eq_true → zV
open Nat renaming le_refl → zX, lt_of_not_le → xN, beq → zI, le_of_lt → xH, le_of_not_lt → xP, le_trans → yb, testBit_or → xF, zero_le → yz, mul_comm → yY, zero_add → xB, ble → zM, pred → yc
open Array renaming getD_eq_getD_getElem? → xG, getElem?_eq_getElem → yx, replicate → xJ, getElem?_toList → yd
open Option renaming map_some → yN
open Classical renaming choose_spec → xS
namespace Go.Proofs.YtbddpjboppmnfaaGreatDoor.Ev
variable {i n k j f m nt:Nat}{P:Program}{E:Env}{o:AObj}{s s' t:U}{v:Z}{S:Self}{X w:World}{l:zy}
def PK(i:Nat)(d:DOper)(T:zB)(W t:U):LogE:={idx:=i,lo:=W.next,hi:=t.next,tch:=vN d.o.op T,wm:=vn t.wm W.next}
structure Tr(E:Env)(S:Self)(ds:zt) where
 L:Nat->List LogE
 T:Nat->zB
 W:Nat->U
 V9:Nat->zc
 skip:∀i d,ds[i]? =some d->V9 i=none->pI d.o.guard (T i)=some false/\L (i+1)=L i/\T (i+1)=uB (T i) d.o.dst vJ/\W (i+1)=W i
 run:∀i d v t,ds[i]? =some d->V9 i=some (v,t)->pI d.o.guard (T i)=some true/\vU E S d.o.op (T i) (jj d (L i) (T i) (W i))=some (v,t)/\
  kJ d.deps (vN d.o.op (T i)) (vn t.wm (W i).next) (L i)=true/\L (i+1)=PK i d (T i) (W i) t::L i/\T (i+1)=uB (T i) d.o.dst v/\
  W (i+1)={t with hide:=(W i).hide,only:=(W i).only,wm:=Nat.lor (W i).wm t.wm}
def aG {E:Env}{S:Self}:∀{ds:zt} {k:Nat} {log:List LogE} {A tm':zB} {s s':U},evD E S ds k log A s=some (tm',s')->
  ∃ (L:Nat->List LogE) (T:Nat->zB) (W:Nat->U) (V9:Nat->zc),L 0=log/\T 0=A/\W 0=s/\T (zR ds)=tm'/\W (zR ds)=s'/\
   (∀i d,ds[i]? =some d->V9 i=none->pI d.o.guard (T i)=some false/\L (i+1)=L i/\T (i+1)=uB (T i) d.o.dst vJ/\W (i+1)=W i)/\
   (∀i d v t,ds[i]? =some d->V9 i=some (v,t)->pI d.o.guard (T i)=some true/\vU E S d.o.op (T i) (jj d (L i) (T i) (W i))=some (v,t)/\
    kJ d.deps (vN d.o.op (T i)) (vn t.wm (W i).next) (L i)=true/\L (i+1)=PK (k+i) d (T i) (W i) t::L i/\T (i+1)=uB (T i) d.o.dst v/\
    W (i+1)={t with hide:=(W i).hide,only:=(W i).only,wm:=Nat.lor (W i).wm t.wm})
 |[],k,log,A,tm',s,s',h=>by
  simp only[evD,wB,qj]at h;obtain⟨rfl,rfl⟩:=h;exact⟨λ_=>log,λ_=>A,λ_=>s,λ_=>none,rfl,rfl,rfl,rfl,rfl,(λi d h=>by simp at h),(λi d v t h=>by simp at h)⟩
 | o ::r,k,log,A,tm',s,s',h=>by
  simp only[evD]at h;split at h
  .rename_i p hp
   obtain⟨L,T,W,V9,h1,h2,h3,h4,h5,h6,h7⟩:=aG h
   have hV:∃V0:zc,(V0=none->pI o.o.guard A=some false/\p.1=log/\p.2.1=uB A o.o.dst vJ/\p.2.2=s)/\
     (∀v t,V0=some (v,t)->pI o.o.guard A=some true/\vU E S o.o.op A (jj o log A s)=some (v,t)/\
      kJ o.deps (vN o.o.op A) (vn t.wm s.next) log=true/\p.1=PK k o A s t::log/\p.2.1=uB A o.o.dst v/\p.2.2={t with hide:=s.hide,only:=s.only,wm:=Nat.lor s.wm t.wm}):=by
    unfold YD at hp;split at hp
    .rename_i hw
     cases he:vU E S o.o.op A (jj o log A s)with
     |none=>rw[he]at hp;simp[Lg]at hp
     | some q=>
      rw[he]at hp;simp only[Lg]at hp;cases hb:kJ o.deps (vN o.o.op A) (vn q.2.wm s.next) log with
      |false=>rw[hb]at hp;simp at hp
      |true=>
       rw[hb]at hp;simp only[wy,wB]at hp;refine⟨some q,(λh=>by cases h),λv t hvt=>?_⟩
       cases hvt;subst hp;exact⟨hw,rfl,hb,rfl,rfl,rfl⟩
    .rename_i hw
     simp only[wB]at hp;subst hp;exact⟨none,λ_=>⟨hw,rfl,rfl,rfl⟩,(λv t h=>by cases h)⟩
    .cases hp
   obtain⟨V0,hV1,hV2⟩:=hV;refine⟨λi=>match i with|0=>log|i+1=>L i,λi=>match i with|0=>A|i+1=>T i,λi=>match i with|0=>s|i+1=>W i,λi=>match i with|0=>V0|i+1=>V9 i,rfl,rfl,rfl,h4,h5,?_,?_⟩
   .intro i d hd hv;cases i with
    |zero=>
     simp only[xM,wB]at hd;subst hd;obtain⟨g1,g2,g3,g4⟩:=hV1 hv;exact⟨g1,h1.trans g2,h2.trans g3,h3.trans g4⟩
    |succ i=>exact h6 i d (by simpa using hd) hv
   .intro i d v t hd hv;cases i with
    |zero=>
     simp only[xM,wB]at hd;subst hd;obtain⟨g1,g2,g3,g4,g5,g6⟩:=hV2 v t hv;exact⟨g1,g2,g3,h1.trans g4,h2.trans g5,h3.trans g6⟩
    |succ i=>
     have:=h7 i d v t (by simpa using hd) hv
     rw[show k+1+i=k+(i+1) by omega]at this
     exact this
  .cases h
def zvt{E:Env}{S:Self}{ds:zt}{A tm':zB}(h:evD E S ds 0 [] A s=some (tm',s')):
  ∃R:Tr E S ds,R.L 0=[]/\R.T 0=A/\R.W 0=s/\R.T (zR ds)=tm'/\R.W (zR ds)=s':=by
 obtain⟨L,T,W,V9,h1,h2,h3,h4,h5,h6,h7⟩:=aG h;exact⟨⟨L,T,W,V9,h6,λi d v t hd hv=>by have:=h7 i d v t hd hv;rw[xB]at this;exact this⟩,h1,h2,h3,h4,h5⟩
section
variable {E:Env}{S:Self}{ds:zt}(R:Tr E S ds)
def Tr.wr(i Y:Nat):Prop:=∃v t,R.V9 i=some (v,t)/\((R.W i).next<=Y/\Y<t.next\/Y<(R.W i).next/\t.wm.testBit Y=true)
structure Tr.Ok:Prop where
 l0:R.L 0=[]
 only:(R.W 0).only=none
 wf:Wf (R.W 0)
variable {R}
def kz(h:i<zR ds):∃d,ds[i]? =some d:=⟨ds[i],by simp[h]⟩
def Tr.facts(hS:ExtS S)(ok:R.Ok):∀i,i<=zR ds->(R.W i).only=none/\Wf (R.W i)/\(R.W i).hide=(R.W 0).hide/\(∀e∈R.L i,e.hi<=(R.W i).next)/\Ext (R.W 0) (R.W i)
 |0,_=>⟨ok.only,ok.wf,rfl,by rw[ok.l0];simp,Ext.refl _⟩
 | i+1,hi=>by
  obtain⟨h1,h2,h3,h4,h5⟩:=Tr.facts hS ok i J;obtain⟨d,hd⟩:=kz (ds:=ds) (i:=i) J;cases hv:R.V9 i with
  |none=>
   obtain⟨_,g2,_,g4⟩:=R.skip i d hd hv;rw[g2,g4];exact⟨h1,h2,h3,h4,h5⟩
  |some p=>
   obtain⟨_,g2,_,g4,_,g6⟩:=R.run i d p.1 p.2 hd hv;have hx:=GB h1 h4 (Zl hS g2);rw[<-g6]at hx;refine⟨hx.only.trans h1,hx.wf h2,hx.hide.trans h3,λe he=>?_,h5.trans hx⟩;rw[g4]at he;rcases List.mem_cons.1 he with rfl|he
   .rw[g6];exact zX _
   .exact yb (h4 e he) hx.next
def Tr.ext(hS:ExtS S)(ok:R.Ok)(hi:i<List.length ds):Ext (R.W i) (R.W (i+1)):=by
 obtain⟨h1,h2,h3,h4,h5⟩:=R.facts hS ok i J;obtain⟨d,hd⟩:=kz (ds:=ds) hi;cases hv:R.V9 i with
 |none=>obtain⟨_,g2,_,g4⟩:=R.skip i d hd hv;rw[g4];exact Ext.refl _
 |some p=>
  obtain⟨_,g2,_,g4,_,g6⟩:=R.run i d p.1 p.2 hd hv;rw[g6];exact GB h1 h4 (Zl hS g2)
def Tr.next_le(hS:ExtS S)(ok:R.Ok):∀{i j:Nat},i<=j->j<=zR ds->(R.W i).next<=(R.W j).next
 |i,0,h,_=>by (have:i=0:=by omega);subst this;exact Nat.le_refl _
 |i,j+1,h,hj=>by
  by_cases e:i=j+1
  .subst e;exact zX _
  .exact yb (Tr.next_le hS ok (i:=i) (j:=j) J J) (R.ext hS ok (i:=j) J).next
def Tr.keep1(hS:ExtS S)(ok:R.Ok){Y:Nat}(hi:i<List.length ds)(hw:¬R.wr i Y):(R.W (i+1)).objs.get Y=(R.W i).objs.get Y:=by
 obtain⟨h1,h2,h3,h4,h5⟩:=R.facts hS ok i J;obtain⟨g1,g2',_⟩:=R.facts hS ok (i+1) J;obtain⟨d,hd⟩:=kz (ds:=ds) hi;cases hv:R.V9 i with
 |none=>obtain⟨_,_,_,g4⟩:=R.skip i d hd hv;rw[g4]
 | some p=>
  obtain⟨_,g2,_,g4,_,g6⟩:=R.run i d p.1 p.2 hd hv;have hx:=Zl hS g2;by_cases hlt:Y<(R.W i).next
  .have hb:p.2.wm.testBit Y=false:=by
    cases hb:p.2.wm.testBit Y with
    |false=>rfl
    |true=>exact absurd ⟨p.1,p.2,hv,.inr ⟨hlt,hb⟩⟩ hw
   rw[g6];exact hx.keep Y hlt hb
  .have hge:¬Y<p.2.next:=λh=>hw ⟨p.1,p.2,hv,.inl ⟨J,h⟩⟩
   have e1:(R.W i).objs.get Y=none:=by
    cases he:(R.W i).objs.get Y with
    |none=>rfl
    |some o=>exact absurd (h2.lt Y o he) hlt
   have e2:(R.W (i+1)).objs.get Y=none:=by
    cases he:(R.W (i+1)).objs.get Y with
    |none=>rfl
    |some o=>have:=g2'.lt Y o he;rw[g6]at this;exact absurd this hge
   rw[e1,e2]
def Tr.keepN(hS:ExtS S)(ok:R.Ok){Y:Nat}:∀{i j:Nat},i<=j->j<=zR ds->(∀k,i<=k->k<j->¬R.wr k Y)->(R.W j).objs.get Y=(R.W i).objs.get Y
 |i,0,h,_,_=>by (have:i=0:=by omega);subst this;rfl
 |i,j+1,h,hj,hw=>by
  by_cases e:i=j+1
  .subst e;rfl
  .exact(R.keep1 hS ok J (hw j J J)).trans (Tr.keepN hS ok (i:=i) (j:=j) J J λk h1 h2=>hw k h1 J)
def Tr.logged(hS:ExtS S)(ok:R.Ok){j:Nat}{d:DOper}{v:Z}{t:U}(hd:ds[j]? =some d)(hv:R.V9 j=some (v,t)):∀{i:Nat},j<i->i<=zR ds->PK j d (R.T j) (R.W j) t∈R.L i
 |0,h,_=>by omega
 | i+1,h,hi=>by
  obtain⟨di,hdi⟩:=kz (ds:=ds) (i:=i) J;by_cases e:j=i
  .subst e;rw[hd]at hdi;cases hdi;obtain⟨_,_,_,g4,_⟩:=R.run j d v t hd hv;rw[g4];simp
  .have ih:=Tr.logged hS ok hd hv (i:=i) J J;cases hvi:R.V9 i with
   |none=>obtain⟨_,g2,_⟩:=R.skip i di hdi hvi;rw[g2];exact ih
   |some p=>obtain⟨_,_,_,g4,_⟩:=R.run i di p.1 p.2 hdi hvi;rw[g4];exact List.mem_cons_of_mem _ ih
end
def Ze{deps wm:Nat}{tch:Option zy}:∀{log:List LogE},kJ deps tch wm log=true->∀e∈log,deps.testBit e.idx=false->(wm=0\/offMask wm e.tch=true)/\(e.wm=0\/offMask e.wm tch=true)
 |[],_,e,he,_=>by simp at he
 | x::r,h,e,he,hb=>by
  simp only[kJ]at h;cases hd:deps.testBit x.idx with
  |true=>
   rw[hd]at h;simp only[wy]at h;rcases List.mem_cons.1 he with rfl|he
   .rw[hd]at hb;cases hb
   .exact Ze h e he hb
  | false=>
   rw[hd]at h;simp only[wK]at h;cases hc:((zI wm 0||offMask wm x.tch)&&(zI x.wm 0||offMask x.wm tch))with
   |false=>rw[hc]at h;simp at h
   |true=>
    rw[hc]at h;simp only[wy]at h;rcases List.mem_cons.1 he with rfl|he
    .rw[zU,zV,zV,ql,ql]at hc;exact hc
    .exact Ze h e he hb
def Vh{deps:Nat}{h:zi}{Y:Nat}:∀{log:List LogE},∀e∈log,deps.testBit e.idx=false->e.lo<=Y->Y<e.hi->hid (ue deps log h) Y=true
 |[],e,he,_,_,_=>by simp at he
 | x::r,e,he,hb,h1,h2=>by
  simp only[ue];rcases List.mem_cons.1 he with rfl|he
  .have:(zI e.lo e.hi||deps.testBit e.idx)=false:=by
    rw[hb,Bool.or_false,Bool.eq_false_iff,ne_eq,ql];omega
   rw[this];simp only[wK,hid];rw[show zM e.lo Y=true from qd.2 h1,show Nat.blt Y e.hi=true from qA.2 h2];rfl
  .have ih:=Vh (h:=h) e he hb h1 h2;cases hc:(zI x.lo x.hi||deps.testBit x.idx)with
   |true=>simp only[wy];exact ih
   |false=>
    simp only[wK,hid];cases zM x.lo Y<;>cases Nat.blt Y x.hi<;>simp[ih]
def Ww{a:Nat}(h:offMask m (some l)=true)(ha:a∈l):m.testBit a=false:=by
 simp only[offMask]at h
 induction l with
 |nil=>simp at ha
 | cons x r ih=>
  simp only[offMask.go]at h;cases hx:m.testBit x with
  |true=>rw[hx]at h;simp at h
  |false=>
   rw[hx]at h;simp only[wK]at h;rcases List.mem_cons.1 ha with rfl|ha
   .exact hx
   .exact ih h ha
def ZT(m n i:Nat):(vn m n).testBit i=(decide (i<n)&&m.testBit i):=by
 show (m%2^n).testBit i=_;rw[Nat.testBit_mod_two_pow]
open Go.RowKit (Below)
section
variable {E:Env}{S:Self}{ds:zt}(R:Tr E S ds)
def wt(ds:zt)(j t:Nat):Prop:=∃d,ds[j]? =some d/\d.o.dst=some t
def Tr.cur(D:Nat->Prop)(Y:Nat)(o:AObj):Prop:=
 (Y<(R.W 0).next->seen (R.W 0) Y=true)/\∃m,m<=zR ds/\(∀j,j<m->R.wr j Y->D j)/\(∀j,m<=j->j<zR ds->R.wr j Y->¬D j)/\(R.W m).objs.get Y=some o
def Tr.curA(D:Nat->Prop)(Y:Nat)(o:AObj)(m:Nat):Prop:=
 (Y<(R.W 0).next->seen (R.W 0) Y=true)/\m<=zR ds/\(∀j,j<m->R.wr j Y->D j)/\(∀j,m<=j->j<zR ds->R.wr j Y->¬D j)/\(R.W m).objs.get Y=some o
structure Inv(P:Program)(X:World)(φ0:Phi)(w00:World)(nt:Nat)(a0:Act)(D:Nat->Prop)(I:Phi)(w:World)(a:Act):Prop where
 base:Below X.heap.size X w
 obj:∀Y o m,R.curA D Y o m->∃B,I Y=some B/\ObjRel P (I.cut (R.W m).next) w o B
 rng:∀Y B,I Y=some B->B.b<w.heap.size
 old:∀Y o B,R.cur D Y o->I Y=some B->B.b<X.heap.size->uE o=true
 inj:∀Y id' o o' B B',R.cur D Y o->R.cur D id' o'->I Y=some B->I id'=some B'->B.b=B'.b->Y=id'\/B.b<X.heap.size
 out:∀Y,(Y<(R.W 0).next\/(R.W (zR ds)).next<=Y)->I Y=φ0 Y
 fresh:∀i,i<zR ds->¬D i->∀Y,(R.W i).next<=Y->Y<(R.W (i+1)).next->I Y=none
 tmp:∀t v m,m<=zR ds->(∀j,j<m->wt ds j t->D j)->(∀j,m<=j->j<zR ds->wt ds j t->¬D j)->(R.T m).get t=some v->VR (I.cut (R.W m).next) v (a.tmps.getD t undef)
 size:a.tmps.size=nt
 df:a.defers=a0.defers
 grow:w00.heap.size<=w.heap.size
 own:∀Y B,(R.W 0).next<=Y->Y<(R.W (zR ds)).next->I Y=some B->w00.heap.size<=B.b\/∃id0 o0 B0,(R.W 0).get id0=some o0/\φ0 id0=some B0/\B0.b=B.b/\(R.W (zR ds)).wm.testBit id0=true
 frame:∀b,b<w00.heap.size->(∀Y o B,(R.W 0).get Y=some o->φ0 Y=some B->B.b=b->(R.W (zR ds)).wm.testBit Y=false)->w.heap[b]? =w00.heap[b]?
 frz:∀b o v,I.z b o=some v->∃c e fr,w.heap[b]? =some (.cells c e fr)/\c[o]? =some v
 sep:∀Y o B,R.cur D Y o->I Y=some B->SepOf o B I.z
 zsub:∀b o v,φ0.z b o=some v->I.z b o=some v
 zown:∀b o v,I.z b o=some v->φ0.z b o=some v\/w00.heap.size<=b\/∃id0 o0 B0,(R.W 0).get id0=some o0/\φ0 id0=some B0/\B0.b=b/\(R.W (zR ds)).wm.testBit id0=true
def more(D:Nat->Prop)(i:Nat):Nat->Prop:=λj=>D j\/j=i
structure Ready(D:Nat->Prop)(i:Nat):Prop where
 lt:i<zR ds
 new:¬D i
 deps:∀d j,ds[i]? =some d->d.deps.testBit j=true->j<zR ds->D j
structure Closed(ds:zt)(D:Nat->Prop):Prop where
 dep:∀i d j,D i->ds[i]? =some d->d.deps.testBit j=true->j<zR ds->D j
variable {R}
def Tr.cur_of_A{D:Nat->Prop}{Y:Nat}(h:R.curA D Y o m):R.cur D Y o:=⟨h.1,m,h.2⟩
def Tr.A_of_cur{D:Nat->Prop}{Y:Nat}(h:R.cur D Y o):∃m,R.curA D Y o m:=let ⟨h0,m,h1⟩:=h;⟨m,h0,h1⟩
def Tr.wr_lt(hS:ExtS S)(_ok:R.Ok){Y:Nat}(hi:i<List.length ds)(h:R.wr i Y):Y<(R.W (i+1)).next:=by
 obtain⟨v,t,hv,h1⟩:=h;obtain⟨d,hd⟩:=kz (ds:=ds) hi;obtain⟨_,g2,_,_,_,g6⟩:=R.run i d v t hd hv;have hx:=(Zl hS g2).next
 have:(R.W (i+1)).next=t.next:=by rw[g6]
 have hx':(R.W i).next<=t.next:=hx
 rw[this];rcases h1 with h1|h1<;>omega
def Tr.wm_le(hS:ExtS S)(ok:R.Ok):∀{i j:Nat},i<=j->j<=zR ds->∀Y,(R.W i).wm.testBit Y=true->(R.W j).wm.testBit Y=true
 |i,0,h,_,Y,hb=>by
  have:i=0:=J;subst this;exact hb
 |i,j+1,h,hj,Y,hb=>by
  by_cases e:i=j+1
  .subst e;exact hb
  .exact(R.ext hS ok (i:=j) J).wm Y (Tr.wm_le hS ok (i:=i) (j:=j) J J Y hb)
def Tr.wm_run(hS:ExtS S)(ok:R.Ok)(hi:i<List.length ds)(hv:R.V9 i=some (v,t)){Y:Nat}(hb:t.wm.testBit Y=true):(R.W (List.length ds)).wm.testBit Y=true:=by
 obtain⟨d,hd⟩:=kz (ds:=ds) hi;obtain⟨_,_,_,_,_,g6⟩:=R.run i d v t hd hv;refine Tr.wm_le hS ok (i:=i+1) J (zX _) Y ?_;rw[g6];show ((R.W i).wm|||t.wm).testBit Y=true
 rw[xF,hb,Bool.or_true]
def Tr.sees(hS:ExtS S)(ok:R.Ok){D:Nat->Prop}(hcl:Closed ds D)(hr:Ready (ds:=ds) D i){d:DOper}(hd:ds[i]? =some d)(hv:R.V9 i=some (v,t)){Y:Nat}(hsee:seen (jj d (R.L i) (R.T i) (R.W i)) Y=true)(hlt:Y<(R.W i).next):
  (Y<(R.W 0).next->seen (R.W 0) Y=true)/\(∀j,j<i->R.wr j Y->D j)/\(∀j,i<=j->j<zR ds->R.wr j Y->¬D j):=by
 obtain⟨f1,f2,f3,f4,f5⟩:=R.facts hS ok i (by have:=hr.lt;omega)
 have hs1:=ao f1 hsee;have htch:∀l,vN d.o.op (R.T i)=some l->Y∈l:=by
  intro l hl;unfold seen at hsee;simp only[jj,hl,yN,zU,zV]at hsee;rcases hsee.2 with h1|h1
  .rw[qd]at h1;omega
  .rw[ZR,xT]at h1;exact h1
 have hnh:hid (ue d.deps (R.L i) (R.W i).hide) Y=false:=by
  cases hh:hid (ue d.deps (R.L i) (R.W i).hide) Y with
  |false=>rfl
  |true=>
   exfalso
   unfold seen at hsee;simp only[jj]at hsee;split at hsee
   .rw[hh]at hsee;cases hsee
   .rw[hh]at hsee;cases hsee
 obtain⟨_,g2,g3,_,_,_⟩:=R.run i d v t hd hv;refine⟨λ_=>by rw[<-je f3 (f1.trans ok.only.symm)];exact hs1,λj hj hw=>?_,λj hj hjn hw hD=>?_⟩
 .obtain⟨vj,tj,hvj,hwj⟩:=hw;obtain⟨dj,hdj⟩:=kz (ds:=ds) (i:=j) (by have:=hr.lt;omega)
  have hmem:=R.logged hS ok hdj hvj (i:=i) hj (by have:=hr.lt;omega)
  cases hb:d.deps.testBit j with
  |true=>exact hr.deps d j hd hb (by have:=hr.lt;omega)
  | false=>
   exfalso
   rcases hwj with ⟨h1,h2⟩|⟨h1,h2⟩
   .have:=Vh (deps:=d.deps) (h:=(R.W i).hide) (Y:=Y) _ hmem hb h1 h2;rw[hnh]at this;cases this
   .obtain⟨_,hc⟩:=Ze g3 _ hmem hb;have hbit:(PK j dj (R.T j) (R.W j) tj).wm.testBit Y=true:=by
     show (vn tj.wm (R.W j).next).testBit Y=true
     rw[ZT,h2];simp[h1]
    rcases hc with hc|hc
    .rw[hc]at hbit;simp at hbit
    .cases ht:vN d.o.op (R.T i)with
     |none=>rw[ht]at hc;simp[offMask]at hc
     |some l=>rw[ht]at hc;rw[Ww hc (htch l ht)]at hbit;cases hbit
 .have hne:j≠i:=λe=>hr.new (e▸hD);obtain⟨vj,tj,hvj,hwj⟩:=hw;obtain⟨dj,hdj⟩:=kz (ds:=ds) hjn;obtain⟨_,_,k3,_⟩:=R.run j dj vj tj hdj hvj;have hb:dj.deps.testBit i=false:=by
   cases hb:dj.deps.testBit i with
   |false=>rfl
   |true=>exact absurd (hcl.dep j dj i hD hdj hb hr.lt) hr.new
  have hmem:=R.logged hS ok hd hv (i:=j) J J;have hle:=R.next_le hS ok (i:=i) (j:=j) J J;rcases hwj with ⟨h1,h2⟩|⟨h1,h2⟩
  .omega
  .obtain⟨hc,_⟩:=Ze k3 _ hmem hb;have hbit:(vn tj.wm (R.W j).next).testBit Y=true:=by rw[ZT,h2];simp[h1]
   rcases hc with hc|hc
   .rw[hc]at hbit;simp at hbit
   .have hc':offMask (vn tj.wm (R.W j).next) (vN d.o.op (R.T i))=true:=hc
    cases ht:vN d.o.op (R.T i)with
    |none=>rw[ht]at hc';simp[offMask]at hc'
    |some l=>rw[ht]at hc';rw[Ww hc' (htch l ht)]at hbit;cases hbit
end
theorem Mr:∀{h:zi} {n Y:Nat},(∀p∈h,p.2<=n)->n<=Y->hid h Y=false
 |[],_,_,_,_=>rfl
 |p::r,n,Y,hp,hle=>by
  have h1:=hp p (by simp)
  simp only[hid];rw[show Nat.blt Y p.2=false from Bu J,Mr (λq hq=>hp q (by simp[hq])) hle]
  cases zM p.1 Y<;>rfl
def U6{deps n:Nat}{h:zi}:∀{log:List LogE},(∀p∈h,p.2<=n)->(∀e∈log,e.hi<=n)->∀p∈ue deps log h,p.2<=n
 |[],hh,_,p,hp=>hh p hp
 | e::r,hh,hl,p,hp=>by
  simp only[ue]at hp;cases hb:(zI e.lo e.hi||deps.testBit e.idx)with
  |true=>rw[hb]at hp;simp only[wy]at hp;exact U6 hh (λe' he'=>hl e' (by simp[he'])) p hp
  |false=>
   rw[hb]at hp;simp only[wK,List.mem_cons]at hp;rcases hp with rfl|hp
   .exact hl e (by simp)
   .exact U6 hh (λe' he'=>hl e' (by simp[he'])) p hp
section
variable {E:Env}{S:Self}{ds:zt}{R:Tr E S ds}
def Tr.begWf(hS:ExtS S)(ok:R.Ok)(hi:i<List.length ds)(d:DOper):Wf (jj d (R.L i) (R.T i) (R.W i)):=by
 obtain⟨f1,f2,f3,f4,f5⟩:=R.facts hS ok i J;exact⟨f2.lt,λp hp=>U6 f2.hd f4 p hp⟩
def Tr.wr_seen(hS:ExtS S)(ok:R.Ok){Y:Nat}(hi:i<List.length ds){d:DOper}(hd:ds[i]? =some d)(h:R.wr i Y):seen (jj d (R.L i) (R.T i) (R.W i)) Y=true:=by
 obtain⟨v,t,hv,h1⟩:=h;obtain⟨_,g2,_,_,_,g6⟩:=R.run i d v t hd hv;have hx:=Zl hS g2;rcases h1 with ⟨h1,h2⟩|⟨h1,h2⟩
 .have hh:=Mr (R.begWf hS ok hi d).hd (Y:=Y) h1;unfold seen;cases ht:vN d.o.op (R.T i)with
  |none=>simp only[jj,ht,Option.map_none];simp only[jj]at hh;rw[hh];rfl
  |some l=>
   simp only[jj,ht,yN];simp only[jj]at hh;rw[hh];rw[show zM (R.W i).next Y=true from qd.2 h1];rfl
 .rcases hx.wv Y h1 h2 with h3|h3
  .simp[jj]at h3
  .exact h3
def Tr.wr_order(hS:ExtS S)(ok:R.Ok){Y:Nat}(hik:i<k)(hk:k<List.length ds){dk:DOper}(hdk:ds[k]? =some dk)(h1:R.wr i Y)(h2:R.wr k Y):dk.deps.testBit i=true:=by
 cases hb:dk.deps.testBit i with
 |true=>rfl
 | false=>
  exfalso
  have hsee:=R.wr_seen hS ok hk hdk h2;have hlt1:=R.wr_lt hS ok J h1;have hle:=R.next_le hS ok (i:=i+1) (j:=k) J J;obtain⟨di,hdi⟩:=kz (ds:=ds) (i:=i) J;obtain⟨vi,ti,hvi,hwi⟩:=h1;obtain⟨vk,tk,hvk,hwk⟩:=h2;obtain⟨_,_,k3,_⟩:=R.run k dk vk tk hdk hvk;have hmem:=R.logged hS ok hdi hvi (i:=k) hik J;rcases hwi with ⟨q1,q2⟩|⟨q1,q2⟩
  .have:=Vh (deps:=dk.deps) (h:=(R.W k).hide) (Y:=Y) _ hmem hb q1 q2;unfold seen at hsee;simp only[jj]at hsee;split at hsee
   .rw[this]at hsee;cases hsee
   .rw[this]at hsee;cases hsee
  .obtain⟨_,hc⟩:=Ze k3 _ hmem hb;have hbit:(PK i di (R.T i) (R.W i) ti).wm.testBit Y=true:=by
    show (vn ti.wm (R.W i).next).testBit Y=true
    rw[ZT,q2];simp[q1]
   rcases hc with hc|hc
   .rw[hc]at hbit;simp at hbit
   .cases ht:vN dk.o.op (R.T k)with
    |none=>rw[ht]at hc;simp[offMask]at hc
    | some l=>
     rw[ht]at hc;have hin:Y∈l:=by
      unfold seen at hsee;simp only[jj,ht,yN,zU,zV]at hsee;rcases hsee.2 with h3|h3
      .rw[qd]at h3;omega
      .rw[ZR,xT]at h3;exact h3
     rw[Ww hc hin]at hbit;cases hbit
def Tr.curA_split(hS:ExtS S)(ok:R.Ok){D:Nat->Prop}(hcl:Closed ds D)(hr:Ready (ds:=ds) D i){Y:Nat}(h:R.curA (more D i) Y o m):
  (R.wr i Y/\i<m/\(R.W (i+1)).objs.get Y=some o)\/(¬R.wr i Y/\R.curA D Y o m):=by
 obtain⟨h0,hm,h1,h2,h3⟩:=h;by_cases hw:R.wr i Y
 .left
  have him:i<m:=by
   apply xN;intro hle;exact h2 i hle hr.lt hw (.inr rfl)
  refine⟨hw,him,?_⟩;rw[<-h3];refine(R.keepN hS ok (i:=i+1) (j:=m) J hm λk hk1 hk2 hwk=>?_).symm;have hDk:D k:=(h1 k hk2 hwk).resolve_right J;obtain⟨dk,hdk⟩:=kz (ds:=ds) (i:=k) J;exact hr.new (hcl.dep k dk i hDk hdk (R.wr_order hS ok J J hdk hw hwk) hr.lt)
 .right
  exact⟨hw,h0,hm,λj hj hwj=>(h1 j hj hwj).resolve_right (λe=>hw (e▸hwj)),λj hj hjn hwj hD=>h2 j hj hjn hwj (.inl hD),h3⟩
def Tr.cur_split(hS:ExtS S)(ok:R.Ok){D:Nat->Prop}(hcl:Closed ds D)(hr:Ready (ds:=ds) D i){Y:Nat}(h:R.cur (more D i) Y o):
  (R.wr i Y/\(R.W (i+1)).objs.get Y=some o)\/(¬R.wr i Y/\R.cur D Y o):=by
 obtain⟨m,hA⟩:=R.A_of_cur h;rcases R.curA_split hS ok hcl hr hA with ⟨h1,_,h2⟩|⟨h1,h2⟩
 .exact .inl ⟨h1,h2⟩
 .exact .inr ⟨h1,R.cur_of_A h2⟩
end
section
variable {E:Env}{S:Self}{ds:zt}{R:Tr E S ds}
variable {P:Program}{X:World}{φ0:Phi}{w00:World}{nt:Nat}{a0:Act}{D:Nat->Prop}{I I':Phi}{w w':World}{a:Act}{i:Nat}{d:DOper}{v:Z}{t:U}{x:Value}
def VB(ds:zt):Prop:=∀(j k:Nat) (dj dk:DOper),j<k->ds[j]? =some dj->ds[k]? =some dk->JK dj.o dk.o=true->dk.deps.testBit j=true
def sD(ds:zt)(nt:Nat):Prop:=∀(j:Nat) (dj:DOper) (t:Nat),ds[j]? =some dj->dj.o.dst=some t->t<nt
def Inv.curA_of(hS:ExtS S)(ok:R.Ok)(hcl:Closed ds D)(hr:Ready (ds:=ds) D i)(hd:ds[i]? =some d)(hv:R.V9 i=some (v,t)){Y:Nat}(hg:(jj d (R.L i) (R.T i) (R.W i)).get Y=some o):R.curA D Y o i:=by
 have h1:(jj d (R.L i) (R.T i) (R.W i)).objs.get Y=some o:=qr hg;obtain⟨f1,f2,_⟩:=R.facts hS ok i (by have:=hr.lt;omega)
 obtain⟨k1,k2,k3⟩:=R.sees hS ok hcl hr hd hv (vX hg) (f2.lt Y o h1);exact⟨k1,xH hr.lt,k2,k3,h1⟩
def Inv.cur_of(hS:ExtS S)(ok:R.Ok)(hcl:Closed ds D)(hr:Ready (ds:=ds) D i)(hd:ds[i]? =some d)(hv:R.V9 i=some (v,t)){Y:Nat}(hg:(jj d (R.L i) (R.T i) (R.W i)).get Y=some o):R.cur D Y o:=
 R.cur_of_A (Inv.curA_of hS ok hcl hr hd hv hg)
def Inv.rel(hS:ExtS S)(ok:R.Ok)(hcl:Closed ds D)(hr:Ready (ds:=ds) D i)(hd:ds[i]? =some d)(hv:R.V9 i=some (v,t))(inv:Inv R P X φ0 w00 nt a0 D I w a):Rel P X (I.cut (R.W i).next) (jj d (R.L i) (R.T i) (R.W i)).get w:=by
 obtain⟨_,f2,_⟩:=R.facts hS ok i (by have:=hr.lt;omega)
 have hlt:∀{Y o},(jj d (R.L i) (R.T i) (R.W i)).get Y=some o->Y<(R.W i).next:=λ{Y o} hg=>f2.lt Y o (qr (s:=jj d (R.L i) (R.T i) (R.W i)) hg)
 refine⟨inv.base,λY o h=>?_,λY B hB=>inv.rng Y B (Phi.cut_some hB).2,λY o B h hB=>inv.old Y o B (Inv.cur_of hS ok hcl hr hd hv h) (Phi.cut_some hB).2,λY id' o o' B B' h h' hB hB'=>inv.inj Y id' o o' B B' (Inv.cur_of hS ok hcl hr hd hv h) (Inv.cur_of hS ok hcl hr hd hv h') (Phi.cut_some hB).2 (Phi.cut_some hB').2,inv.frz,λY o B h hB=>inv.sep Y o B (Inv.cur_of hS ok hcl hr hd hv h) (Phi.cut_some hB).2⟩;obtain⟨B,hB,ht⟩:=inv.obj Y o i (Inv.curA_of hS ok hcl hr hd hv h);exact⟨B,(Phi.cut_lt I (hlt h)).trans hB,ht⟩
def VQ{p q:SOper}(h:p.dst=some k)(hq:k∈q.names\/q.dst=some k):JK p q=true:=by
 have mem:∀{n:Nat} {l:zy},n∈l->Vk n l=true:=by
  intro n l
  induction l with
  |nil=>intro h;simp at h
  |cons m r ih=>
   intro h;simp only[Vk,zV];rcases List.mem_cons.1 h with rfl|h
   .exact .inl (ql.2 rfl)
   .exact .inr (ih h)
 unfold JK;rw[h];rcases hq with hq|hq
 .simp[mem hq]
 .simp[hq]
def Gl{p q:SOper}(h:q.dst=some k)(hp:k∈p.names):JK p q=true:=by
 have mem:∀{n:Nat} {l:zy},n∈l->Vk n l=true:=by
  intro n l
  induction l with
  |nil=>intro h;simp at h
  |cons m r ih=>
   intro h;simp only[Vk,zV];rcases List.mem_cons.1 h with rfl|h
   .exact .inl (ql.2 rfl)
   .exact .inr (ih h)
 unfold JK;rw[h];simp[mem hp]
def Inv.names(hck:VB ds)(hcl:Closed ds D)(hr:Ready (ds:=ds) D i)(hd:ds[i]? =some d)(inv:Inv R P X φ0 w00 nt a0 D I w a):TmOn (I.cut (R.W i).next) d.o.names (R.T i) a:=by
 intro k hk u hu;refine inv.tmp k u i (by have:=hr.lt;omega) (λj hj hw=>?_) (λj hj hjn hw hD=>?_) hu
 .obtain⟨dj,hdj,hdst⟩:=hw;exact hr.deps d j hd (hck j i dj d hj hdj hd (VQ hdst (.inl hk))) (by have:=hr.lt;omega)
 .obtain⟨dj,hdj,hdst⟩:=hw;have hne:j≠i:=λe=>hr.new (e▸hD);exact hr.new (hcl.dep j dj i hD hdj (hck i j d dj J hd hdj (Gl hdst hk)) hr.lt)
def Inv.tmp_step(hck:VB ds)(hdo:sD ds nt)(hcl:Closed ds D)(hr:Ready (ds:=ds) D i)(hd:ds[i]? =some d)(inv:Inv R P X φ0 w00 nt a0 D I w a)(hS:ExtS S)(ok:R.Ok)(hsub:Sub I I')(hT:R.T (i+1)=uB (R.T i) d.o.dst v)(hTn:∀j dj,ds[j]? =some dj->∀k,dj.o.dst≠some k->(R.T (j+1)).get k=(R.T j).get k)(hx:VR (I'.cut (R.W (i+1)).next) v x):
  ∀k u m,m<=zR ds->(∀j,j<m->wt ds j k->more D i j)->(∀j,m<=j->j<zR ds->wt ds j k->¬more D i j)->(R.T m).get k=some u->VR (I'.cut (R.W m).next) u ((a.put d.o.dst x).tmps.getD k undef):=by
 intro k u m hm h1 h2 hu;by_cases hk:d.o.dst=some k
 .have hwi:wt ds i k:=⟨d,hd,hk⟩;have him:i<m:=by
   apply xN;intro hle;exact h2 i hle hr.lt hwi (.inr rfl)
  have key:∀q,i+1<=q->q<=m->(R.T q).get k=(R.T (i+1)).get k:=by
   intro q
   induction q with
   |zero=>intro h;omega
   | succ q ih=>
    intro hq1 hq2;by_cases e:q=i
    .subst e;rfl
    .obtain⟨dq,hdq⟩:=kz (ds:=ds) (i:=q) J;rw[hTn q dq hdq k (λhdst=>?_)]
     .exact ih J J
     .have hDq:D q:=(h1 q J ⟨dq,hdq,hdst⟩).resolve_right e;exact hr.new (hcl.dep q dq i hDq hdq (hck i q d dq J hd hdq (VQ hk (.inr hdst))) hr.lt)
  rw[key m J (zX _),hT,hk]at hu;simp only[uB,Trie.get_set_same,wB]at hu;subst hu;rw[hk];have hlt:k<a.tmps.size:=by rw[inv.size];exact hdo i d k hd hk
  simp only[Act.put];rw[GZ _ _ _ _ hlt,wH rfl];exact VR.mono (Sub.cut (Sub.refl _) (R.next_le hS ok him hm)) _ _ hx
 .have hput:(a.put d.o.dst x).tmps.getD k undef=a.tmps.getD k undef:=by
   cases hdst:d.o.dst with
   |none=>rfl
   |some e=>
    simp only[Act.put];have hlt:e<a.tmps.size:=by rw[inv.size];exact hdo i d e hd hdst
    rw[GZ _ _ _ _ hlt,wx (λh=>hk (by rw[hdst,h]))]
  rw[hput];have hni:¬wt ds i k:=λ⟨d',hd',hk'⟩=>by rw[hd]at hd';cases hd';exact hk hk'
  exact VR.mono (hsub.cut (zX _)) _ _ (inv.tmp k u m hm (λj hj hw=>(h1 j hj hw).resolve_right (λe=>hni (e▸hw))) (λj hj hjn hw hD=>h2 j hj hjn hw (.inl hD)) hu)
def Tr.T_other{dj:DOper}(hdj:ds[j]? =some dj)(hk:dj.o.dst≠some k):(R.T (j+1)).get k=(R.T j).get k:=by
 have:∀u,(uB (R.T j) dj.o.dst u).get k=(R.T j).get k:=λu=>by
  cases hdst:dj.o.dst with
  |none=>rfl
  |some e=>simp only[uB];exact Trie.get_set_ne _ _ (λh=>hk (by rw[hdst,h]))
 cases hv:R.V9 j with
 |none=>obtain⟨_,_,g3,_⟩:=R.skip j dj hdj hv;rw[g3];exact this _
 |some p=>obtain⟨_,_,_,_,g5,_⟩:=R.run j dj p.1 p.2 hdj hv;rw[g5];exact this _
end
section
variable {E:Env}{S:Self}{ds:zt}{R:Tr E S ds}
variable {P:Program}{X:World}{φ0:Phi}{w00:World}{nt:Nat}{a0:Act}{D:Nat->Prop}{I I':Phi}{w w':World}{a:Act}{i:Nat}{d:DOper}{v:Z}{t:U}{x:Value}
def Qn(dst:zD):(a.put dst x).tmps.size=a.tmps.size/\(a.put dst x).defers=a.defers:=by
 cases dst<;>simp[Act.put]
def Inv.skip(hS:ExtS S)(ok:R.Ok)(hck:VB ds)(hdo:sD ds nt)(hcl:Closed ds D)(hr:Ready (ds:=ds) D i)(hd:ds[i]? =some d)(hv:R.V9 i=none)(inv:Inv R P X φ0 w00 nt a0 D I w a):
  Inv R P X φ0 w00 nt a0 (more D i) I w (a.put d.o.dst undef):=by
 have hnw:∀Y,¬R.wr i Y:=λY ⟨_,_,h,_⟩=>by rw[hv]at h;cases h
 have hcur:∀{Y o},R.cur (more D i) Y o->R.cur D Y o:=λ{Y o} h=>by
  rcases R.cur_split hS ok hcl hr h with ⟨h1,_⟩|⟨_,h1⟩
  .exact absurd h1 (hnw Y)
  .exact h1
 have hcurA:∀{Y o m},R.curA (more D i) Y o m->R.curA D Y o m:=λ{Y o m} h=>by
  rcases R.curA_split hS ok hcl hr h with ⟨h1,_⟩|⟨_,h1⟩
  .exact absurd h1 (hnw Y)
  .exact h1
 obtain⟨_,_,g3,_⟩:=R.skip i d hd hv
 exact⟨inv.base,λY o m h=>inv.obj Y o m (hcurA h),inv.rng,λY o B h=>inv.old Y o B (hcur h),λY id' o o' B B' h h'=>inv.inj Y id' o o' B B' (hcur h) (hcur h'),inv.out,λj hj hD=>inv.fresh j hj (λh=>hD (.inl h)),
  inv.tmp_step hck hdo hcl hr hd hS ok (Sub.refl _) g3 (λj dj hdj k hk=>R.T_other hdj hk) (Qt _),(Qn _).1.trans inv.size,(Qn _).2.trans inv.df,inv.grow,inv.own,inv.frame,inv.frz,λY o B h=>inv.sep Y o B (hcur h),inv.zsub,inv.zown⟩
def Inv.run(hS:ExtS S)(ok:R.Ok)(hck:VB ds)(hdo:sD ds nt)(hcl:Closed ds D)(hr:Ready (ds:=ds) D i)(hd:ds[i]? =some d)(hv:R.V9 i=some (v,t))(inv:Inv R P X φ0 w00 nt a0 D I w a)
  {ψ:Phi} (st:Step P X (I.cut (R.W i).next) (jj d (R.L i) (R.T i) (R.W i)) w ψ t w') (hx:VR ψ v x):Inv R P X φ0 w00 nt a0 (more D i) (I.merge (R.W i).next (R.W (i+1)).next ψ) w' (a.put d.o.dst x):=by
 obtain⟨_,g2,_,_,g5,g6⟩:=R.run i d v t hd hv;obtain⟨f1,f2,f3,f4,f5⟩:=R.facts hS ok i (xH hr.lt);have hnx:(R.W (i+1)).next=t.next:=by rw[g6]
 have hob:(R.W (i+1)).objs=t.objs:=by rw[g6]
 have hn0:=R.next_le hS ok (i:=0) (j:=i) (yz _) (xH hr.lt);have hn1:=R.next_le hS ok (i:=i) (j:=i+1) (Nat.le_succ _) hr.lt;have hnN:=R.next_le hS ok (i:=i+1) (j:=zR ds) hr.lt (zX _);have hniN:=R.next_le hS ok (i:=i) (j:=zR ds) (xH hr.lt) (zX _);obtain⟨I',hφ'⟩:∃I',I'=I.merge (R.W i).next (R.W (i+1)).next ψ:=⟨_,rfl⟩
 have hlow:∀{Y},Y<(R.W i).next->ψ Y=I Y:=λ{Y} h=>(st.same Y (.inl h)).trans (Phi.cut_lt I h)
 have hhigh:∀{Y},(R.W (i+1)).next<=Y->ψ Y=none:=λ{Y} h=>(st.same Y (.inr (hnx▸h))).trans (Phi.cut_ge I J)
 have hin:∀{Y},Y<(R.W (i+1)).next->I' Y=ψ Y:=λ{Y} h=>by
  rw[hφ'];by_cases h1:Y<(R.W i).next
  .rw[Phi.merge_out _ _ (.inl h1)];exact(hlow h1).symm
  .exact Phi.merge_in _ _ ⟨J,h⟩
 have hout:∀{Y},(Y<(R.W i).next\/(R.W (i+1)).next<=Y)->I' Y=I Y:=λ{Y} h=>by rw[hφ'];exact Phi.merge_out _ _ h
 have hz':I'.z=ψ.z:=by rw[hφ'];rfl
 have hsub:Sub I I':=⟨λY B hB=>by
  by_cases h:(R.W i).next<=Y/\Y<(R.W (i+1)).next
  .rw[inv.fresh i hr.lt hr.new Y h.1 h.2]at hB;cases hB
  .rw[hout J];exact hB,λb o v hzv=>by rw[hz'];exact st.zsub b o v hzv⟩
 have hsubψ:Sub ψ I':=⟨λY B hB=>by
  have hlt:Y<(R.W (i+1)).next:=by apply xN;intro hle;rw[hhigh hle]at hB;cases hB
  rw[hin hlt];exact hB,λb o v hzv=>by rw[hz'];exact hzv⟩
 have hψc:∀{m},i+1<=m->m<=zR ds->Sub ψ (I'.cut (R.W m).next):=λ{m} h1 h2=>hsubψ.to_cut λY hid=>hhigh (yb (R.next_le hS ok h1 h2) hid)
 have hget:∀{Y o},R.wr i Y->(R.W (i+1)).objs.get Y=some o->t.get Y=some o:=λ{Y o} hw ho=>by
  rw[gh,je st.ext.hide st.ext.only,R.wr_seen hS ok hr.lt hd hw,<-hob];exact ho
 have hsame:∀{Y},¬R.wr i Y->I' Y=I Y:=λ{Y} hw=>by
  apply hout;by_cases h1:Y<(R.W i).next
  .exact .inl h1
  .right;apply xP;intro h2;exact hw ⟨v,t,hv,.inl ⟨J,J⟩⟩
 have hold:∀{Y o},R.wr i Y->t.objs.get Y=some o->Y<(R.W i).next->∃o',R.cur D Y o'/\I' Y=I Y:=λ{Y o} hw ho hlt=>by
  obtain⟨o',ho'⟩:=st.ext.vis Y o hlt ho;have hg:(jj d (R.L i) (R.T i) (R.W i)).get Y=some o':=by rw[gh,R.wr_seen hS ok hr.lt hd hw];exact ho'
  exact⟨o',Inv.cur_of hS ok hcl hr hd hv hg,hout (.inl hlt)⟩
 have hbits:∀{Y o},(jj d (R.L i) (R.T i) (R.W i)).get Y=some o->t.wm.testBit Y=true->R.wr i Y:=λ{Y o} hg hb=>⟨v,t,hv,.inr ⟨f2.lt Y o (qr (s:=jj d (R.L i) (R.T i) (R.W i)) hg),hb⟩⟩;have hwlt:∀{Y},R.wr i Y->Y<(R.W (i+1)).next:=λ{Y} hw=>R.wr_lt hS ok hr.lt hw
 have hmix:∀{Y id' o o' B B'},R.wr i Y->(R.W (i+1)).objs.get Y=some o->¬R.wr i id'->R.cur D id' o'->I' Y=some B->I' id'=some B'->B.b=B'.b->Y=id'\/B.b<X.heap.size:=λ{Y id' o o' B B'} hw ho hw' hc' hB hB' e=>by
  rw[hsame hw']at hB';by_cases hlt:Y<(R.W i).next
  .obtain⟨o1,hc,hp⟩:=hold hw (by rw[<-hob];exact ho) hlt
   exact inv.inj Y id' o1 o' B B' hc hc' (hp▸hB) hB' e
  .have hlt2:=hwlt hw;rw[hin hlt2]at hB;rcases st.own Y B (xP hlt) (hnx▸hlt2) hB with h1|⟨id0,o0,B0,q1,q2,q3,q4⟩
   .have:=(inv.rng id' B' hB');omega
   .have hc0:=Inv.cur_of hS ok hcl hr hd hv q1;rcases inv.inj id0 id' o0 o' B0 B' hc0 hc' (Phi.cut_some q2).2 hB' (q3.trans e)with he|he
    .subst he;exact absurd (hbits q1 q4) hw'
    .exact .inr (q3▸he)
 rw[<-hφ'];refine⟨st.rel.base,?_,?_,?_,?_,?_,?_,inv.tmp_step hck hdo hcl hr hd hS ok hsub g5 (λj dj hdj k hk=>R.T_other hdj hk) (VR.mono (hψc (zX _) hr.lt) _ _ hx),(Qn _).1.trans inv.size,(Qn _).2.trans inv.df,yb inv.grow st.size,?_,?_,?_,?_,?_,?_⟩
 .intro Y o m h;rcases R.curA_split hS ok hcl hr h with ⟨hw,him,ho⟩|⟨hw,hc⟩
  .obtain⟨B,hB,ht⟩:=st.rel.obj Y o (hget hw ho);exact⟨B,hsubψ.of _ _ hB,ht.keep (hψc him h.2.1) rfl⟩
  .obtain⟨B,hB,ht⟩:=inv.obj Y o m hc;refine⟨B,hsub.of _ _ hB,ht.keep (hsub.cut (zX _)) (st.frame B.b (inv.rng Y B hB) λid2 o2 B2 q1 q2 q3=>?_)⟩;cases hb:t.wm.testBit id2 with
   |false=>rfl
   |true=>
    have q2':=(Phi.cut_some q2).2;rcases inv.inj id2 Y o2 o B2 B (Inv.cur_of hS ok hcl hr hd hv q1) (R.cur_of_A hc) q2' hB q3 with he|he
    .subst he;exact absurd (hbits q1 hb) hw
    .have hgo:=qr (s:=jj d (R.L i) (R.T i) (R.W i)) q1;have:=st.ext.giv id2 o2 (f2.lt id2 o2 hgo) hgo (inv.old id2 o2 B2 (Inv.cur_of hS ok hcl hr hd hv q1) q2' he) hb;simp[jj]at this
 .intro Y B hB;by_cases h:Y<(R.W (i+1)).next
  .rw[hin h]at hB;exact st.rel.rng Y B hB
  .rw[hout J]at hB;have:=inv.rng Y B hB;have:=st.size;omega
 .intro Y o B h hB hlt;rcases R.cur_split hS ok hcl hr h with ⟨hw,ho⟩|⟨hw,hc⟩
  .exact st.rel.old Y o B (hget hw ho) (hin (hwlt hw)▸hB) hlt
  .exact inv.old Y o B hc (hsame hw▸hB) hlt
 .intro Y id' o o' B B' h h' hB hB' e;rcases R.cur_split hS ok hcl hr h with ⟨hw,ho⟩|⟨hw,hc⟩<;>rcases R.cur_split hS ok hcl hr h' with ⟨hw',ho'⟩|⟨hw',hc'⟩
  .exact st.rel.inj Y id' o o' B B' (hget hw ho) (hget hw' ho') (hin (hwlt hw)▸hB) (hin (hwlt hw')▸hB') e
  .exact hmix hw ho hw' hc' hB hB' e
  .exact(hmix hw' ho' hw hc hB' hB e.symm).elim (λh=>.inl h.symm) (λh=>.inr J)
  .exact inv.inj Y id' o o' B B' hc hc' (hsame hw▸hB) (hsame hw'▸hB') e
 .intro Y h;rw[hout (by
   rcases h with h|h
   .left;omega
   .right;omega)]
  exact inv.out Y h
 .intro j hj hD Y h1 h2;have hji:j≠i:=λe=>hD (.inr e);have hDj:¬D j:=λh=>hD (.inl h);rw[hout ?_]
  .exact inv.fresh j hj hDj Y h1 h2
  .by_cases hlt:j<i
   .left
    have:=R.next_le hS ok (i:=j+1) (j:=i) hlt (xH hr.lt);omega
   .right
    have:=R.next_le hS ok (i:=i+1) (j:=j) J (xH hj);omega
 .intro Y B h1 h2 hB;by_cases hrange:(R.W i).next<=Y/\Y<(R.W (i+1)).next
  .rw[hin hrange.2]at hB;rcases st.own Y B hrange.1 (hnx▸hrange.2) hB with h3|⟨id0,o0,B0,q1,q2,q3,q4⟩
   .exact .inl (yb inv.grow h3)
   .have q2':=(Phi.cut_some q2).2;have hlt0:id0<(R.W i).next:=f2.lt id0 o0 (qr (s:=jj d (R.L i) (R.T i) (R.W i)) q1)
    by_cases hl:id0<(R.W 0).next
    .obtain⟨o1,ho1⟩:=f5.vis id0 o0 hl (qr (s:=jj d (R.L i) (R.T i) (R.W i)) q1);have hs:=(Inv.cur_of hS ok hcl hr hd hv q1).1 hl;refine .inr ⟨id0,o1,B0,by rw[gh,hs];exact ho1,?_,q3,R.wm_run hS ok hr.lt hv q4⟩
     rw[<-inv.out id0 (.inl hl)];exact q2'
    .rcases inv.own id0 B0 (xP hl) J q2' with h4|⟨id1,o1,B1,r1,r2,r3,r4⟩
     .exact .inl (q3▸h4)
     .exact .inr ⟨id1,o1,B1,r1,r2,r3.trans q3,r4⟩
  .rw[hout J]at hB;exact inv.own Y B h1 h2 hB
 .intro b hb H;refine(st.frame b (Nat.lt_of_lt_of_le hb inv.grow) λY o B q1 q2 q3=>?_).trans (inv.frame b hb H);have q2':=(Phi.cut_some q2).2;cases hbit:t.wm.testBit Y with
  |false=>rfl
  | true=>
   exfalso
   have hwN:=R.wm_run hS ok hr.lt hv hbit;have hlt0:Y<(R.W i).next:=f2.lt Y o (qr (s:=jj d (R.L i) (R.T i) (R.W i)) q1)
   by_cases hl:Y<(R.W 0).next
   .obtain⟨o1,ho1⟩:=f5.vis Y o hl (qr (s:=jj d (R.L i) (R.T i) (R.W i)) q1);have hs:=(Inv.cur_of hS ok hcl hr hd hv q1).1 hl;have:=H Y o1 B (by rw[gh,hs];exact ho1) (by rw[<-inv.out Y (.inl hl)];exact q2') q3
    rw[hwN]at this;cases this
   .rcases inv.own Y B (xP hl) J q2' with h4|⟨id1,o1,B1,r1,r2,r3,r4⟩
    .omega
    .have:=H id1 o1 B1 r1 r2 (r3.trans q3);rw[r4]at this;cases this
 .intro b o u hu;rw[hz']at hu;exact st.rel.frz b o u hu
 .intro Y o B h hB;rw[hz'];rcases R.cur_split hS ok hcl hr h with ⟨hw,ho⟩|⟨hw,hc⟩
  .exact st.rel.sep Y o B (hget hw ho) (hin (hwlt hw)▸hB)
  .rw [hsame hw]at hB;have h0:=inv.sep Y o B hc hB;cases hgv:uE o with
   |true=>cases o<;>first|trivial|(cases hgv;done)
   | false=>
    refine h0.congr λk=>?_;cases hk:ψ.z B.b k with
    |none=>
     cases hk2:I.z B.b k with
     |none=>rfl
     |some u=>have h9:=st.zsub B.b k u hk2;rw[hk]at h9;cases h9
    | some u=>
     rcases st.zown B.b k u hk with h1|h1|⟨id0,o0,B0,q1,q2,q3,q4⟩
     .exact h1.symm
     .have:=inv.rng Y B hB;omega
     .exfalso
      rcases inv.inj id0 Y o0 o B0 B (Inv.cur_of hS ok hcl hr hd hv q1) hc (Phi.cut_some q2).2 hB q3 with he|he
      .subst he;exact hw (hbits q1 q4)
      .rw[inv.old Y o B hc hB J]at hgv;cases hgv
 .intro b o u hu;rw[hz'];exact st.zsub b o u (inv.zsub b o u hu)
 .intro b o u hu;rw[hz']at hu;rcases st.zown b o u hu with h1|h1|⟨id0,o0,B0,q1,q2,q3,q4⟩
  .exact inv.zown b o u h1
  .exact .inr (.inl (yb inv.grow h1))
  .have q2':=(Phi.cut_some q2).2;have hlt0:id0<(R.W i).next:=f2.lt id0 o0 (qr (s:=jj d (R.L i) (R.T i) (R.W i)) q1)
   by_cases hl:id0<(R.W 0).next
   .obtain⟨o1,ho1⟩:=f5.vis id0 o0 hl (qr (s:=jj d (R.L i) (R.T i) (R.W i)) q1);have hs:=(Inv.cur_of hS ok hcl hr hd hv q1).1 hl;refine .inr (.inr ⟨id0,o1,B0,by rw[gh,hs];exact ho1,?_,q3,R.wm_run hS ok hr.lt hv q4⟩)
    rw[<-inv.out id0 (.inl hl)];exact q2'
   .rcases inv.own id0 B0 (xP hl) J q2' with h4|⟨id1,o1,B1,r1,r2,r3,r4⟩
    .exact .inr (.inl (q3▸h4))
    .exact .inr (.inr ⟨id1,o1,B1,r1,r2,r3.trans q3,r4⟩)
end
def PX:∀{l:zy} {i k d:Nat},Je i l=true->l[k]? =some d->∀j,d.testBit j=true->j<i+k
 |[],_,k,d,_,h,_,_=>by simp at h
 |x::r,i,0,d,h,hd,j,hb=>by
  simp only[Je,zU,qA]at h;simp only[xM,wB]at hd;subst hd;apply xN;intro hle;have h1:x<2^j:=Nat.lt_of_lt_of_le h.1 (Nat.pow_le_pow_right J J);rw[Nat.testBit_lt_two_pow h1]at hb;cases hb
 |x::r,i,k+1,d,h,hd,j,hb=>by
  simp only[Je,zU]at h;have:=PX (k:=k) h.2 (by simpa using hd) j hb
  omega
def JX{i:Nat}{p:SOper}:∀{l:List SOper} {ds:zy} {k:Nat} {q:SOper} {d:Nat},Qm i p l ds=true->l[k]? =some q->ds[k]? =some d->JK p q=true->d.testBit i=true
 |[],_,k,q,d,_,h,_,_=>by simp at h
 |b::r,[],k,q,d,h,_,_,_=>by simp[Qm]at h
 |b::r,x::xs,0,q,d,h,hq,hd,hc=>by
  simp only[xM,wB]at hq hd;subst hq;subst hd;simp only[Qm,zU,zV,Bool.not_eq_true']at h;rcases h.1 with h1|h1
  .rw[hc]at h1;cases h1
  .exact h1
 |b::r,x::xs,k+1,q,d,h,hq,hd,hc=>by
  simp only[Qm,zU]at h;exact JX (k:=k) h.2 (by simpa using hq) (by simpa using hd) hc
def PW:∀{l:List SOper} {ds:zy} {i j k:Nat} {p q:SOper} {d:Nat},Hr i l ds=true->j<k->l[j]? =some p->l[k]? =some q->ds[k]? =some d->JK p q=true->d.testBit (i+j)=true
 |[],_,i,j,k,p,q,d,_,_,h,_,_,_=>by simp at h
 |a::r,[],i,j,k,p,q,d,h,_,_,_,_,_=>by simp[Hr]at h
 |a::r,x::xs,i,j,0,p,q,d,h,hjk,hp,hq,hd,hc=>by omega
 |a::r,x::xs,i,0,k+1,p,q,d,h,hjk,hp,hq,hd,hc=>by
  simp only[xM,wB]at hp;subst hp;simp only[Hr,zU]at h;exact JX (k:=k) h.1 (by simpa using hq) (by simpa using hd) hc
 |a::r,x::xs,i,j+1,k+1,p,q,d,h,hjk,hp,hq,hd,hc=>by
  simp only[Hr,zU]at h;have:=PW (j:=j) (k:=k) h.2 J (by simpa using hp) (by simpa using hq) (by simpa using hd) hc
  rw[show i+(j+1)=i+1+j by omega];exact this
def Ql:∀{l:List SOper} {ds:zy} {i:Nat} {d:DOper},(mkD l ds)[i]? =some d↔l[i]? =some d.o/\ds[i]? =some d.deps
 |[],ds,i,d=>by simp[mkD]
 |a::r,[],i,d=>by simp[mkD]
 |a::r,x::xs,0,d=>by
  simp only[mkD,xM,wB];constructor
  .rintro rfl;exact⟨rfl,rfl⟩
  .rintro⟨rfl,rfl⟩;rfl
 |a::r,x::xs,i+1,d=>by simp only[mkD,xQ];exact Ql
def Hi:∀{l:List SOper} {ds:zy},zR l=zR ds->(mkD l ds).length=zR l
 |[],ds,_=>by simp[mkD]
 |a::r,[],h=>by simp at h
 |a::r,x::xs,h=>by simp only[mkD,List.length_cons];rw[Hi (by simpa using h)]
def sJ{P:Program}{nt:Nat}{ops:Array Oper}:∀{rs:List Oper} {l:List SOper},cSs P nt ops rs=some l->zR l=zR rs/\∀(i:Nat) (o:Oper),rs[i]? =some o->∃so,l[i]? =some so/\cS P nt ops o=some so
 |[],l,h=>by simp[cSs]at h;subst h;exact⟨rfl,(λi o h=>by simp at h)⟩
 | r::rs,l,h=>by
  simp only[cSs]at h;split at h
  .rename_i a l' h1 h2
   simp only[wB]at h;subst h;obtain⟨k1,k2⟩:=sJ h2;refine⟨by simp[k1],λi o ho=>?_⟩
   cases i with
   |zero=>simp only[xM,wB]at ho;subst ho;exact⟨a,by simp,h1⟩
   |succ i=>obtain⟨so,k3,k4⟩:=k2 i o (by simpa using ho);exact⟨so,by simpa using k3,k4⟩
  .cases h
def LZ{acc:zy}{j:Nat}:∀{es:List Edge} {s0:Nat},(es.foldl (λs e=>bif Region.binds .any e then s|||2^e.on|||acc.getD e.on 0 else s) s0).testBit j=true->s0.testBit j=true\/∃e∈es,Region.binds .any e=true/\(j=e.on\/(acc.getD e.on 0).testBit j=true)
 |[],s0,h=>.inl h
 | e::r,s0,h=>by
  rw[List.foldl_cons]at h;rcases LZ h with h1|⟨e',he',h2⟩
  .cases hb:Region.binds .any e with
   |false=>rw[hb]at h1;exact .inl h1
   |true=>
    rw[hb]at h1;simp only[wy,xF,zV]at h1;rcases h1 with (h1|h1)|h1
    .exact .inl h1
    .rw[Nat.testBit_two_pow]at h1;exact .inr ⟨e,by simp,hb,.inl (by simpa using (of_decide_eq_true h1).symm)⟩
    .exact .inr ⟨e,by simp,hb,.inr h1⟩
  .exact .inr ⟨e',by simp[he'],h2⟩
def L6{acc:zy}:∀{es:List Edge} {s0:Nat},(∀j,s0.testBit j=true->(es.foldl (λs e=>bif Region.binds .any e then s|||2^e.on|||acc.getD e.on 0 else s) s0).testBit j=true)/\∀e∈es,Region.binds .any e=true->(es.foldl (λs e=>bif Region.binds .any e then s|||2^e.on|||acc.getD e.on 0 else s) s0).testBit e.on=true
 |[],s0=>⟨λj h=>h,λe he=>by simp at he⟩
 | x::r,s0=>by
  simp only[List.foldl_cons];obtain⟨h1,h2⟩:=L6 (acc:=acc) (es:=r) (s0:=bif Region.binds .any x then s0|||2^x.on|||acc.getD x.on 0 else s0)
  refine⟨λj hj=>h1 j ?_,λe he hb=>?_⟩
  .cases Region.binds .any x with
   |false=>exact hj
   |true=>simp only[wy,xF,hj,Bool.true_or]
  .rcases List.mem_cons.1 he with rfl|he
   .apply h1;rw[hb];simp only[wy,xF,Nat.testBit_two_pow_self,Bool.or_true,Bool.true_or]
   .exact h2 e he hb
def Gr:∀{l:List Oper} {acc:zy},(py l acc).length=zR acc+zR l/\(∀k,k<zR acc->(py l acc)[k]? =acc[k]?)/\
  ∀(i:Nat) (o:Oper),l[i]? =some o->∃acc':zy,(py l acc)[zR acc+i]? =some (FT acc' o.after.toList)/\zR acc'=zR acc+i/\∀k,k<zR acc'->acc'[k]? =(py l acc)[k]?
 |[],acc=>⟨by simp[py],λk _=>rfl,λi o h=>by simp at h⟩
 | x::r,acc=>by
  simp only[py];obtain⟨h1,h2,h3⟩:=Gr (l:=r) (acc:=acc++[FT acc x.after.toList]);refine⟨by rw[h1];simp;omega,λk hk=>?_,λi o ho=>?_⟩
  .rw[h2 k (by simp;omega),xb hk]
  .cases i with
   |zero=>
    simp only[xM,wB]at ho;subst ho;refine⟨acc,?_,by simp,λk hk=>?_⟩
    .rw[h2 _ (by simp)];simp
    .rw[h2 k (by simp;omega),xb hk]
   |succ i=>
    obtain⟨acc',k1,k2,k3⟩:=h3 i o (by simpa using ho)
    refine⟨acc',?_,by rw[k2];simp;omega,k3⟩
    rw[<-k1];congr 1;simp;omega
def LN {ops:Array Oper}{ds:zt}(h:dO P nt ops=some ds):
  (zR ds)=ops.size/\VB ds/\sD ds nt/\(∀(i:Nat) (d:DOper),ds[i]? =some d->∃o,ops[i]? =some o/\cS P nt ops o=some d.o/\(∀j,d.deps.testBit j=true->j<i)/\(∀e∈o.after,Region.binds .any e=true->e.on<i)/\
   ∀j,d.deps.testBit j=true->∃e∈o.after,Region.binds .any e=true/\(j=e.on\/∃d',ds[e.on]? =some d'/\d'.deps.testBit j=true)):=by
 unfold dO at h;split at h
 .rename_i l hl
  simp only at h;cases hb:(Hr 0 l (py ops.toList [])&&Je 0 (py ops.toList []))with
  |false=>rw[hb]at h;simp at h
  | true=>
   rw[hb]at h;simp only[wy,wB]at h;subst h;rw[zU]at hb;obtain⟨k1,k2⟩:=sJ hl;obtain⟨d1,_,d3⟩:=Gr (l:=ops.toList) (acc:=[]);simp only[List.length_nil,xB]at d1 d3;have hlen:zR l=(py ops.toList []).length:=by rw[k1,d1]
   have hget:∀(i:Nat) (d:DOper),(mkD l (py ops.toList []))[i]? =some d->∃o,ops[i]? =some o/\cS P nt ops o=some d.o:=λi d hd=>by
    obtain⟨q1,q2⟩:=Ql.1 hd;have hlt:i<zR l:=by
     apply xN;intro hle;rw[yS hle]at q1;cases q1
    have ho:ops.toList[i]? =some ops.toList[i]:=by rw[xj]
    obtain⟨so,k3,k4⟩:=k2 i _ ho;rw[q1]at k3;cases k3;exact⟨_,by rw[<-yd];exact ho,k4⟩
   refine⟨by rw[Hi hlen,k1];simp,?_,?_,?_⟩
   .intro j k dj dk hjk hj hk hc;obtain⟨q1,q2⟩:=Ql.1 hj;obtain⟨q3,q4⟩:=Ql.1 hk;have:=PW hb.1 hjk q1 q3 q4 hc;rw[xB]at this;exact this
   .intro j dj t hj ht;obtain⟨o,_,ho⟩:=hget j dj hj;obtain⟨_,_,h3,h4⟩:=a9 ho;exact h4 t (by rw[<-h3];exact ht)
   .intro i d hd;obtain⟨o,ho,hcs⟩:=hget i d hd;obtain⟨q1,q2⟩:=Ql.1 hd;have hback:∀j,d.deps.testBit j=true->j<i:=λj hj=>by
     have:=PX hb.2 q2 j hj;omega
    obtain⟨acc',r1,r2,r3⟩:=d3 i o (by rw[yd];exact ho)
    rw[q2]at r1;simp only[wB]at r1;refine⟨o,ho,hcs,hback,λe he hbd=>hback _ (by rw[r1];exact L6.2 e (by simpa using he) hbd),λj hj=>?_⟩
    rw[r1]at hj;rcases LZ hj with h0|⟨e,he,hbd,hor⟩
    .simp at h0
    .refine⟨e,by simpa using he,hbd,?_⟩
     rcases hor with h1|h1
     .exact .inl h1
     .right
      have hlt:e.on<zR acc':=by
       apply xN;intro hle;rw[xR,yS hle]at h1;simp at h1
      have hlt2:e.on<zR l:=by
       have hi:i<zR l:=by apply xN;intro hle;rw[yS hle]at q1;cases q1
       omega
      refine⟨⟨l[e.on],acc'[e.on]⟩,Ql.2 ⟨xj hlt2,?_⟩,?_⟩
      .rw[<-r3 _ hlt,xj hlt]
      .rw[xR,xj hlt]at h1;simpa using h1
 .cases h
def LD(listed:Array Bool)(i:Nat):Prop:=listed.getD i false=true
def zyA{listed:Array Bool}(h:i<listed.size):LD (listed.setIfInBounds i true)=more (LD listed) i:=by
 funext j
 unfold LD more;simp only[xG,Array.getElem?_setIfInBounds];by_cases e:i=j
 .subst e;simp[h]
 .rw[wx e];simp[Ne.symm e]
def FV(hS:SelfOk P X S)(hG:qm E.globs X){ops:Array Oper}{ds:zt}(hc:dO P nt ops=some ds){R:Tr E S ds}(ok:R.Ok){φ0:Phi}{w00:World}{a0:Act}{F:Fence}(hF:Wide F){Q:Exit->Act->World->Prop}
  (hQ:∀I w a,Inv R P X φ0 w00 nt a0 (λi=>i<zR ds) I w a->Q .normal a w):
  ∀(fuel:Nat) (listed:Array Bool) (I:Phi) (w:World) (a:Act) (u:zy),listed.size=ops.size->zR u<=fuel->(∀i,i<ops.size->¬LD listed i->i∈u)->Closed ds (LD listed)->Inv R P X φ0 w00 nt a0 (LD listed) I w a->wpAnyIn F n P .any ops Q fuel listed a w:=by
 obtain⟨c1,c2,c3,c4⟩:=LN hc;have hdone:∀{listed I w a},listed.size=ops.size->(∀i,i<ops.size->LD listed i)->Inv R P X φ0 w00 nt a0 (LD listed) I w a->Q .normal a w:=λ{listed I w a} hsz hall inv=>by
  have e:LD listed=λi=>i<zR ds:=by
   funext i
   apply propext;constructor
   .intro h;rw[c1];apply xN;intro hle;unfold LD at h;rw[xG,Array.getElem?_eq_none J]at h;simp at h
   .intro h;exact hall i J
  exact hQ I w a (e▸inv)
 have hready:∀{listed:Array Bool},listed.size=ops.size->Region.ready .any ops listed=[]->∀i,i<ops.size->LD listed i:=λ{listed} hsz hnil i=>by
  induction i using Nat.strongRecOn with
  | _ i ih=>
   intro hi;by_cases hl:LD listed i
   .exact hl
   .exfalso
    obtain⟨d,hd⟩:=kz (ds:=ds) (i:=i) J;obtain⟨o,ho,_,_,hed,_⟩:=c4 i d hd;have:i∈Region.ready .any ops listed:=mem_ready.2 ⟨by
     unfold LD at hl;rw[xG,yx J]at hl|-
     simpa using hl,o,ho,λe he hb=>ih e.on (hed e he hb) (by have:=hed e he hb;omega)⟩
    rw[hnil]at this;simp at this
 intro fuel
 induction fuel with
 | zero=>
  intro listed I w a u hsz hu hin hcl inv;have hu0:u=[]:=List.eq_nil_of_length_eq_zero J;subst hu0;have hall:∀i,i<ops.size->LD listed i:=λi hi=>by
   by_cases h:LD listed i
   .exact h
   .have:=hin i hi h;simp at this
  refine⟨?_,hdone hsz hall inv⟩;rw[List.eq_nil_iff_forall_not_mem];intro i hi;obtain⟨h1,o,ho,_⟩:=mem_ready.1 hi;have hlt:i<ops.size:=(Array.getElem?_eq_some_iff.1 ho).1;have:=hall i hlt;unfold LD at this;rw[xG,yx J]at this h1;simp at this h1;rw[this]at h1;cases h1
 | succ fuel ih=>
  intro listed I w a u hsz hu hin hcl inv;refine⟨λhnil=>hdone hsz (hready hsz hnil) inv,λi hi=>?_⟩;obtain⟨h1,o,ho,hed⟩:=mem_ready.1 hi;have hlt:i<ops.size:=(Array.getElem?_eq_some_iff.1 ho).1;have hnew:¬LD listed i:=by
   unfold LD;rw[xG,yx J]at h1|-
   simpa using h1
  obtain⟨d,hd⟩:=kz (ds:=ds) (i:=i) J;obtain⟨o',ho',hcs,hback,_,hdep⟩:=c4 i d hd;rw[ho]at ho';cases ho';have hr:Ready (ds:=ds) (LD listed) i:=by
   refine⟨J,hnew,λd' j hd' hb hj=>?_⟩;rw[hd]at hd';cases hd';obtain⟨e,he,hbd,hor⟩:=hdep j hb;have hL:LD listed e.on:=hed e he hbd;rcases hor with rfl|⟨d'',hd'',hb''⟩
   .exact hL
   .exact hcl.dep e.on d'' j hL hd'' hb'' hj
  have hnext:∀I' w' a',Inv R P X φ0 w00 nt a0 (more (LD listed) i) I' w' a'->wpAnyIn F n P .any ops Q fuel (listed.setIfInBounds i true) a' w':=λI' w' a' inv'=>by
   have hset:=zyA (listed:=listed) (i:=i) J;refine ih _ I' w' a' (u.erase i) (by simp[hsz]) ?_ ?_ ?_ (hset▸inv')
   .rw[List.length_erase_of_mem (hin i hlt hnew)];omega
   .intro j hj hn;rw[hset]at hn;have hji:j≠i:=λe=>hn (.inr e);exact(List.mem_erase_of_ne hji).2 (hin j hj (λh=>hn (.inl h)))
   .rw[hset];refine⟨λk dk j hk hdk hb hj=>?_⟩;rcases hk with hk|rfl
    .exact .inl (hcl.dep k dk j hk hdk hb hj)
    .exact .inl (hr.deps dk j hdk hb hj)
  unfold wpOpIn;rw[ho];simp only;obtain⟨hg,hop,hdst,hdlt⟩:=a9 hcs;have hnm:=inv.names c2 hcl hr hd;rw[MO]at hnm;cases hv:R.V9 i with
  |none=>
   obtain⟨g1,_,_,_⟩:=R.skip i d hd hv;rw[pp hg g1 (hnm.sub (by intro t h;simp[h]))]
   simp only[Bool.false_eq_true,if_false];refine⟨λf _=>hF.fn f,hnext I w _ ?_⟩;rw[<-hdst];exact inv.skip hS.ext ok c2 c3 hcl hr hd hv
  |some p=>
   obtain⟨v,t⟩:=p;obtain⟨g1,g2,_,_,_,g6⟩:=R.run i d v t hd hv;rw[pp hg g1 (hnm.sub (by intro t h;simp[h])),wH rfl]
   rw[hop]at g2;obtain⟨op,hc1,hc2⟩:=LL g2;rw[hc2]at g2;have hfr:Fresh (I.cut (R.W i).next) (jj d (R.L i) (R.T i) (R.W i)) t:=λY h1=>Phi.cut_ge I h1
   refine GG hS hG hc1 g2 (inv.rel hS.ext ok hcl hr hd hv) (R.begWf hS.ext ok J d) hfr (hnm.sub (by intro t h;rw[hop,hc2];simp[h])) hF λψ x w' k1 k2=>hnext (I.merge (R.W i).next (R.W (i+1)).next ψ) w' _ ?_
   rw[<-hdst];exact inv.run hS.ext ok c2 c3 hcl hr hd hv k1 k2
def Kw(hm:P.follows .mixedOrders=true)(hG:qm E.globs X)(S:Self)(hS:SelfOk P X S):DrawOk P X E S:=by
 refine⟨?_⟩;intro Y nt ops ds A tm' s s' I w a F n Q hc hon he r hwf hf ht hsz hF hQ;obtain⟨R,t1,t2,t3,t4,t5⟩:=zvt he;have ok:R.Ok:=⟨t1,by rw[t3];exact hon,by rw[t3];exact hwf⟩
 obtain⟨c1,c2,c3,c4⟩:=LN hc;have hno:∀i,¬LD (xJ ops.size false) i:=λi h=>by
  unfold LD at h;rw[xG,Array.getElem?_replicate]at h;split at h<;>simp at h
 have hcur:∀{Y o},R.cur (LD (xJ ops.size false)) Y o->s.get Y=some o:=λ{Y o} h=>by
  obtain⟨h0,m,hm,h1,_,h3⟩:=h;have hk:=R.keepN hS.ext ok (Y:=Y) (i:=0) (j:=m) (yz _) hm (λk _ hk hw=>hno k (h1 k hk hw));rw[h3,t3]at hk;have hlt:=hwf.lt Y o hk.symm;rw[t3]at h0;rw[gh,h0 hlt];exact hk.symm
 have hcurA:∀{Y o m},R.curA (LD (xJ ops.size false)) Y o m->s.get Y=some o:=λ{Y o m} h=>hcur (R.cur_of_A h);have hfin:∀I' w' a',Inv R P X I w nt a (λi=>i<zR ds) I' w' a'->Q .normal a' w':=λI' w' a' inv=>by
  have hcf:∀{Y o},s'.get Y=some o->R.cur (λi=>i<zR ds) Y o:=λ{Y o} h=>by
   obtain⟨f1,f2,f3,_⟩:=R.facts hS.ext ok (zR ds) (zX _);refine⟨λ_=>?_,zR ds,zX _,λj hj _=>hj,λj h1 h2 _ _=>J,by rw[t5];exact qr h⟩
   rw[<-je f3 (f1.trans ok.only.symm),t5];exact vX h
  have hext:=(R.facts hS.ext ok (zR ds) (zX _)).2.2.2.2;rw[t3,t5]at hext;have hcfA:∀{Y o},s'.get Y=some o->R.curA (λi=>i<zR ds) Y o (zR ds):=λ{Y o} h=>by
   obtain⟨h0,m,hm,h1,h2,h3⟩:=hcf h;exact⟨h0,zX _,λj hj _=>hj,λj h1 h2 _ _=>J,by rw[t5];exact qr h⟩
  refine hQ I' a' w' ⟨hext,⟨inv.base,λY o h=>(let ⟨B,hB,ht⟩:=inv.obj Y o (zR ds) (hcfA h);⟨B,hB,ht.keep (Phi.cut_sub I' _) rfl⟩),inv.rng,λY o B h=>inv.old Y o B (hcf h),λY id' o o' B B' h h'=>inv.inj Y id' o o' B B' (hcf h) (hcf h'),inv.frz,λY o B h=>inv.sep Y o B (hcf h)⟩,?_,inv.grow,?_,?_,inv.zsub,?_⟩ ⟨?_,inv.size,inv.df⟩
  .have:=inv.out;rw[t3,t5]at this;exact this
  .have:=inv.frame;rw[t3,t5]at this;exact this
  .have:=inv.own;rw[t3,t5]at this;exact this
  .have:=inv.zown;rw[t3,t5]at this;exact this
  .intro k v hv;exact VR.mono (Phi.cut_sub I' _) _ _ (inv.tmp k v (zR ds) (zX _) (λj hj _=>hj) (λj h1 h2 _ _=>J) (by rw[t4];exact hv))
 refine wpIn_region_any hm (FV hS hG hc ok hF hfin ops.size _ I _ a (List.range ops.size) (by simp) (by simp) (λi hi _=>by simpa using hi) ⟨λi _ _ h=>absurd h (hno i)⟩ ?_)
 have r':Rel P X I s.get {w with drawn:=w.drawn+1}:=Rel.congr (w:=w) rfl rfl rfl rfl r
 have htight:∀m,m<=zR ds->Sub I (I.cut (R.W m).next):=λm hm=>(Sub.refl I).to_cut λY hid=>hf Y (by
  have:=R.next_le hS.ext ok (i:=0) (j:=m) (yz _) hm;rw[t3]at this;omega)
 refine⟨r'.base,λY o m h=>(let ⟨B,hB,ht⟩:=r'.obj Y o (hcurA h);⟨B,hB,ht.keep (htight m h.2.1) rfl⟩),r'.rng,λY o B h=>r'.old Y o B (hcur h),λY id' o o' B B' h h'=>r'.inj Y id' o o' B B' (hcur h) (hcur h'),λ_ _=>rfl,λi hi _ Y h1 h2=>?_,λk v m hmN h1 _ hv=>?_,hsz,rfl,zX _,λY B h1 h2 hB=>?_,λb _ _=>rfl,r'.frz,λY o B h=>r'.sep Y o B (hcur h),λ_ _ _ h=>h,λ_ _ _ h=>.inl h⟩
 .refine hf Y ?_;have:=R.next_le hS.ext ok (i:=0) (j:=i) (yz _) (xH hi);rw[t3]at this;omega
 .have key:∀q,q<=m->(R.T q).get k=(R.T 0).get k:=by
   intro q
   induction q with
   |zero=>intro _;rfl
   |succ q ih=>
    intro hq;obtain⟨dq,hdq⟩:=kz (ds:=ds) (i:=q) J;rw[R.T_other hdq (λe=>hno q (h1 q J ⟨dq,hdq,e⟩))];exact ih J
  rw[key m (zX _),t2]at hv;exact VR.mono (htight m hmN) _ _ (ht k v hv)
 .rw[t3]at h1;rw[hf Y h1]at hB;cases hB
def TOk(Q:Nat->IFunc->Prop):Nat->Nat->Trie IFunc->Prop
 |_,_,.leaf=>True
 |a,b,.node v l r=>(match v with|some F=>Q b F|none=>True)/\TOk Q (2*a) (a+b) l/\TOk Q (2*a) (2*a+b) r
def TOk.get{Q:Nat->IFunc->Prop}:∀{t:Trie IFunc} {a b n:Nat} {F:IFunc},TOk Q a b t->t.get n=some F->Q (a*n+b) F
 |.leaf,_,_,_,_,_,h=>by simp[Trie.get]at h
 | .node v l r,a,b,n,F,⟨h1,h2,h3⟩,h=>by
  match n with
  |0=>
   simp only[Trie.get]at h;subst h
   simpa using h1
  | m+1=>
   simp only[Trie.get]at h;by_cases e:(m+1)%2=1
   .have e1:zI (Nat.mod (m+1) 2) 1=true:=by show zI ((m+1)%2) 1=true;rw[e];rfl
    rw[e1]at h;have:=h2.get (n:=(m+1)/2) h;have e2:2*a*((m+1)/2)+(a+b)=a*(m+1)+b:=by
     have:m+1=2*((m+1)/2)+1:=J;generalize (m+1)/2=k at this|-;rw[this,Nat.mul_add,Nat.mul_one,yY 2 a,Nat.mul_assoc,Nat.add_assoc]
    rw[e2]at this;exact this
   .have e1:zI (Nat.mod (m+1) 2) 1=false:=by
     show zI ((m+1)%2) 1=false;have:(m+1)%2=0:=J;rw[this];rfl
    rw[e1]at h;have:=h3.get (n:=yc ((m+1)/2)) h;have e2:2*a*(yc ((m+1)/2))+(2*a+b)=a*(m+1)+b:=by
     have:m+1=2*(yc ((m+1)/2))+2:=by simp only[Nat.pred_eq_sub_one];omega
     generalize yc ((m+1)/2)=k at this|-;rw[this,Nat.mul_add,yY 2 a,Nat.mul_assoc,<-Nat.add_assoc]
    rw[e2]at this;exact this
def Q(P:Program)(k:Nat)(F:IFunc):Prop:=∃fn,P.funcs[k]? =some fn/\dN P fn=some F
def envOk_of{P:Program}{E:Env}(h:TOk (Q P) 1 0 E.funs):pf P E:=λf F hf=>by
 have:=h.get hf;rw[Nat.one_mul,Nat.add_zero]at this;exact this
abbrev Orc:=Nat->Option (zA->U->zc)
variable {O:Orc}
def KQ(O:Orc):Prop:=∀f g,O f=some g->∀args s v s',g args s=some (v,s')->Ext s s'
def Xw(E:Env)(O:Orc)(S:Self)(f:Nat)(args:zA)(s:U):zc:=
 match O f with
 |some g=>g args s
 |none=>jp E S f args s
def evT(E:Env)(O:Orc):Nat->Self
 |0=>⟨λ_ _ _=>none,λ_ _ _ _=>none,λ_ _ _=>none⟩
 |n+1=>⟨λf args s=>Xw E O (evT E O n) f args s,λrd b fr s=>evC E (evT E O n) rd (.loop b) fr s,λl args s=>gu E (evT E O n) l args s⟩
def UL{args:zA}(h:Xw E O S f args s=some (v,s')):
  (∃g,O f=some g/\g args s=some (v,s'))\/(O f=none/\jp E S f args s=some (v,s')):=by
 unfold Xw at h;split at h
 .rename_i g hg;exact .inl ⟨g,hg,h⟩
 .rename_i hg;exact .inr ⟨hg,h⟩
def pi(E:Env){O:Orc}(hx:KQ O):∀n,Mono (evT E O n)
 |0=>⟨λ_ _ _ _ _ h=>by simp[evT]at h,λ_ _ _ _ _ _ _ h=>by simp[evT]at h,λ_ _ _ _ _ h=>by simp[evT]at h⟩
 | n+1=>⟨λf args s v s' h=>by
   rcases UL h with ⟨g,hg,h⟩|⟨_,h⟩
   .exact(hx f g hg _ _ _ _ h).next
   .exact np (pi E hx n) h,
  λ_ _ _ _ _ _ _ h=>uI (pi E hx n) h,λ_ _ _ _ _ h=>iM (pi E hx n) h⟩
def ZK(E:Env){O:Orc}(hx:KQ O):∀n,ExtS (evT E O n)
 |0=>⟨λ_ _ _ _ _ h=>by simp[evT]at h,λ_ _ _ _ _ _ _ h=>by simp[evT]at h,λ_ _ _ _ _ h=>by simp[evT]at h⟩
 | n+1=>⟨λf args s v s' h=>by
   rcases UL h with ⟨g,hg,h⟩|⟨_,h⟩
   .exact hx f g hg _ _ _ _ h
   .exact By (ZK E hx n) h,
  λ_ _ _ _ _ _ _ h=>l8 (ZK E hx n) h,λ_ _ _ _ _ h=>rV (ZK E hx n) h⟩
def SC(P:Program)(X:World)(f:Nat)(args:zA)(s:U)(v:Z)(s':U):Prop:=
 (∃fn,P.funcs[f]? =some fn/\fn.body.isSome=true/\(fn.name== "runtime.NumGoroutine")=false)/\
 ∀(I:Phi) (w:World) (xs:zE),Rel P X I s.get w->Wf s->Fresh I s s'->VRL I args xs->∀F n,Wide F->CallsIn F n P f xs.toArray w (KV P X I s w v s')
def vW(P:Program)(X:World)(f:Nat)(g:zA->U->zc):Prop:=
 ∀args s v s',g args s=some (v,s')->SC P X f args s v s'
def GJ{P:Program}{X:World}{E:Env}{O:Orc}(hx:KQ O)(hm:P.follows .mixedOrders=true)(hG:qm E.globs X)(hE:pf P E)(hO:∀f g,O f=some g->vW P X f g):∀n,SelfOk P X (evT E O n)
 |0=>⟨pi E hx 0,ZK E hx 0,λh=>by simp[evT]at h,λh=>by simp[evT]at h,λh=>by simp[evT]at h⟩
 | n+1=>
  have ih:=GJ hx hm hG hE hO n;have hD:DrawOk P X E (evT E O n):=Kw hm hG _ ih
  ⟨pi E hx (n+1),ZK E hx (n+1),λ{f args s v s'} h=>by
   rcases UL h with ⟨g,hg,hv⟩|⟨_,h⟩
   .obtain⟨h1,h2⟩:=hO f g hg args s v s' hv;exact⟨h1,λ{I w xs} r hwf hf hx F k hF=>h2 I w xs r hwf hf hx F k hF⟩
   .exact XW ih hG hE hD h,
  λh _ _ _ _ r hwf hf ha hB=>cM ih hG hD h r hwf hf ha hB,λh _ _ _ _ _ hb r hwf hf hfr F k hF hrd=>oY ih hG hD h hb r hwf hf hfr F k hF hrd⟩
def eqN:zy->zy->Bool
 |[],[]=>true
 |a::x,b::y=>zI a b&&eqN x y
 |_,_=>false
def F8:∀{a b:zy},eqN a b=true->a=b
 |[],[],_=>rfl
 |[],_::_,h=>by simp[eqN]at h
 |_::_,[],h=>by simp[eqN]at h
 |a::x,b::y,h=>by
  simp only[eqN,zU,ql]at h;rw[h.1,F8 h.2]
mutual
def eqA:Z->Z->Bool
 |.bool a,.bool b=>a==b
 |.int k n,.int k' m=>j8 k k'&&eqI n m
 |.str a,.str b=>eqN a b
 |.nils,.nils=>true
 |.nilp,.nilp=>true
 |.agg a,.agg b=>eQ a b
 |.tup a,.tup b=>eQ a b
 |.lst n e a,.lst m f b=>zI n m&&(e==f)&&eQ a b
 |_,_=>false
def eQ:zA->zA->Bool
 |[],[]=>true
 |a::x,b::y=>eqA a b&&eQ x y
 |_,_=>false
end
mutual
theorem F7:∀{a b:Z},eqA a b=true->a=b
 |.bool a,b,h=>by cases b<;>simp[eqA]at h;rw[h]
 |.int k n,b,h=>by
  cases b<;>simp only[eqA,zU,Qh,j6,hZ,beq_iff_eq]at h<;>first|(cases h;done)|skip
  rw[h.1,h.2]
 |.str a,b,h=>by
  cases b<;>simp only[eqA]at h<;>first|(cases h;done)|skip
  rw[F8 h]
 |.nils,b,h=>by cases b<;>simp[eqA]at h;rfl
 |.nilp,b,h=>by cases b<;>simp[eqA]at h;rfl
 |.agg a,b,h=>by
  cases b<;>simp only[eqA]at h<;>first|(cases h;done)|skip
  rw[Kx h]
 |.lst n e a,b,h=>by
  cases b<;>simp only[eqA,zU,ql,beq_iff_eq]at h<;>first|(cases h;done)|skip
  rw[h.1.1,h.1.2,Kx h.2]
 |.ptr _ _,b,h=>by cases b<;>simp[eqA]at h
 |.gptr _ _,b,h=>by cases b<;>simp[eqA]at h
 |.sl _ _ _ _,b,h=>by cases b<;>simp[eqA]at h
 |.sl0,b,h=>by cases b<;>simp[eqA]at h
 |.map _,b,h=>by cases b<;>simp[eqA]at h
 |.nilm,b,h=>by cases b<;>simp[eqA]at h
 |.fn _ _ _,b,h=>by cases b<;>simp[eqA]at h
 |.nilf,b,h=>by cases b<;>simp[eqA]at h
 |.yld _,b,h=>by cases b<;>simp[eqA]at h
 |.ifc _ _,b,h=>by cases b<;>simp[eqA]at h
 |.nili,b,h=>by cases b<;>simp[eqA]at h
 |.tup a,b,h=>by
  cases b<;>simp only[eqA]at h<;>first|(cases h;done)|skip
  rw[Kx h]
 |.gr _ _ _ _,b,h=>by cases b<;>simp[eqA]at h
 |.vp _,b,h=>by cases b<;>simp[eqA]at h
theorem Kx:∀{a b:zA},eQ a b=true->a=b
 |[],[],_=>rfl
 |[],_::_,h=>by simp[eQ]at h
 |_::_,[],h=>by simp[eQ]at h
 |a::x,b::y,h=>by
  simp only[eQ,zU]at h;rw[F7 h.1,Kx h.2]
end
def s00(m:Nat)(b:Bool):U:={objs:=.leaf,next:=0,wm:=m,hide:=[],only:=none,md:=b}
def Qo(m:Nat)(b:Bool)(Y:Nat):(s00 m b).get Y=none:=by
 cases h:(s00 m b).get Y with
 |none=>rfl
 |some o=>have:=qr h;simp[s00,Trie.get]at this
def SC.up{args:zA}{b:Bool}{s1:U}(h:SC P X f args (s00 0 b) v s1)(hp1:wL args=true)(hp2:qg v=true)(s:U):SC P X f args s v s:=by
 refine⟨h.1,λI w xs r hwf hf hx F k hF=>?_⟩;have r0:Rel P X ⟨λ_=>none,I.z⟩ (s00 0 b).get w:=by
  refine⟨r.base,λY o h=>?_,(λY B h=>by cases h),(λY _ _ _ h=>by cases h),λY _ _ _ _ _ h=>?_,r.frz,λ_ _ _ _ h=>by cases h⟩
  .rw[Qo]at h;cases h
  .rw[Qo]at h;cases h
 have hcall:=h.2 _ w xs r0 ⟨(λY o h=>by simp[s00,Trie.get]at h),λp hp=>by simp[s00]at hp⟩ (λ_ _=>rfl) (VRL.pure (I:=I) (I':=⟨λ_=>none,I.z⟩) (λ_ _ _ h=>h) _ _ hp1 hx) F k hF
 refine CallsIn.mono hcall ?_
 rintro e w1 ⟨φ1,x,rfl,k1,k2⟩
 have hold:∀b,b<w.heap.size->w1.heap[b]? =w.heap[b]? :=λb hb=>k1.frame b hb λY o B ho=>by rw[Qo]at ho;cases ho
 have hz:∀b i u,φ1.z b i=some u->I.z b i=some u\/w.heap.size<=b:=λb i u hu=>by
  rcases k1.zown b i u hu with h1|h1|⟨id0,o0,B0,q1,_⟩
  .exact .inl h1
  .exact .inr h1
  .rw[Qo]at q1;cases q1
 refine⟨I.zset φ1.z,x,rfl,⟨Ext.refl _,⟨k1.rel.base,λY o ho=>?_,λY B hB=>?_,r.old,r.inj,k1.rel.frz,λY o B ho hB=>?_⟩,λ_ _=>rfl,k1.size,λb hlt _=>hold b hlt,(λY _ h1 h2=>absurd h2 J),k1.zsub,λb i u hu=>?_⟩,VR.pure (I:=φ1) (I':=I.zset φ1.z) (λ_ _ _ h=>h) _ _ hp2 k2⟩
 .obtain⟨B,hB,t⟩:=r.obj Y o ho;exact⟨B,hB,t.keep (I:=I) (I':=I.zset φ1.z) ⟨λ_ _ h=>h,k1.zsub⟩ (hold _ (r.rng Y B hB))⟩
 .have hB':I Y=some B:=hB;have h1:=r.rng Y B hB';have h2:=k1.size;omega
 .refine(r.sep Y o B ho hB).congr λi=>?_;have hB':I Y=some B:=hB;show φ1.z B.b i=I.z B.b i;cases h1:φ1.z B.b i with
  |none=>
   cases h2:I.z B.b i with
   |none=>rfl
   |some u=>have:=k1.zsub B.b i u h2;rw[h1]at this;cases this
  |some u=>
   rcases hz _ _ _ h1 with h2|h2
   .exact h2.symm
   .have:=r.rng Y B hB';omega
 .rcases hz b i u hu with h1|h1
  .exact .inl h1
  .exact .inr (.inl h1)
structure LeS(S S':Self):Prop where
 call:∀f a s r,S.call f a s=some r->S'.call f a s=some r
 loop:∀rd b fr s r,S.loop rd b fr s=some r->S'.loop rd b fr s=some r
 round:∀l a s r,S.round l a s=some r->S'.round l a s=some r
structure LimS(T:Nat->Self)(L:Self):Prop where
 call:∀f a s r,L.call f a s=some r->∃n,(T n).call f a s=some r
 loop:∀rd b fr s r,L.loop rd b fr s=some r->∃n,(T n).loop rd b fr s=some r
 round:∀l a s r,L.round l a s=some r->∃n,(T n).round l a s=some r
def LeS.refl(S:Self):LeS S S:=⟨λ_ _ _ _ h=>h,λ_ _ _ _ _ h=>h,λ_ _ _ _ h=>h⟩
def LeS.trans{S' S'':Self}(h:LeS S S')(h':LeS S' S''):LeS S S'':=
 ⟨λ_ _ _ _ t=>h'.call _ _ _ _ (h.call _ _ _ _ t),λ_ _ _ _ _ t=>h'.loop _ _ _ _ _ (h.loop _ _ _ _ _ t),λ_ _ _ _ t=>h'.round _ _ _ _ (h.round _ _ _ _ t)⟩
def LeS.chain{T:Nat->Self}(h:∀n,LeS (T n) (T (n+1))):∀{n m:Nat},n<=m->LeS (T n) (T m)
 |n,0,hle=>by (have:n=0:=by omega);subst this;exact LeS.refl _
 |n,m+1,hle=>by
  by_cases e:n=m+1
  .subst e;exact LeS.refl _
  .exact(LeS.chain h (n:=n) (m:=m) J).trans (h m)
structure Ct{α:Type}(X9:Self->Option α):Prop where
 up:∀S S',LeS S S'->∀r,X9 S=some r->X9 S'=some r
 fin:∀(T:Nat->Self) (L:Self),(∀n,LeS (T n) (T (n+1)))->LimS T L->∀r,X9 L=some r->∃n,X9 (T n)=some r
def Ct.const{α:Type}(x:Option α):Ct λ_=>x:=⟨λ_ _ _ _ h=>h,λ_ _ _ _ _ h=>⟨0,h⟩⟩
def Ct.call(f:Nat)(a:zA)(s:U):Ct λS=>S.call f a s:=⟨λ_ _ h _ t=>h.call _ _ _ _ t,λ_ _ _ h _ t=>h.call _ _ _ _ t⟩
def Ct.loop(rd:zD)(b:ICode)(fr:Fr)(s:U):Ct λS=>S.loop rd b fr s:=⟨λ_ _ h _ t=>h.loop _ _ _ _ _ t,λ_ _ _ h _ t=>h.loop _ _ _ _ _ t⟩
def Ct.round(l:Nat)(a:zA)(s:U):Ct λS=>S.round l a s:=⟨λ_ _ h _ t=>h.round _ _ _ _ t,λ_ _ _ h _ t=>h.round _ _ _ _ t⟩
def Ct.bind{α β:Type}{X9:Self->Option α}{k:Self->Option α->Option β}(hX:Ct X9)(h0:∀S,k S none=none)(hk:∀x,Ct λS=>k S (some x)):Ct λS=>k S (X9 S) where
 up:=λS S' hS r h=>by
  cases hx:X9 S with
  |none=>rw[hx,h0]at h;cases h
  |some x=>rw[hx]at h;rw[hX.up S S' hS x hx];exact(hk x).up S S' hS r h
 fin:=λT L hT hL r h=>by
  cases hx:X9 L with
  |none=>rw[hx,h0]at h;cases h
  |some x=>
   rw[hx]at h;obtain⟨n,hn⟩:=hX.fin T L hT hL x hx;obtain⟨m,hm⟩:=(hk x).fin T L hT hL r h;refine⟨n+m,?_⟩;rw[hX.up _ _ (LeS.chain hT J) x hn];exact(hk x).up _ _ (LeS.chain hT J) r hm
def Ct.map{α β:Type}{X9:Self->Option α}(g:Option α->Option β)(hX:Ct X9)(h0:g none=none):Ct λS=>g (X9 S):=
 Ct.bind (k:=λ_ x=>g x) hX (λ_=>h0) λx=>Ct.const (g (some x))
def sR(E:Env)(op:IOp)(A:zB)(s:U):Ct λS=>vU E S op A s:=by
 cases op
 case call f args=>
  show Ct λS=>eT S f (evL A args) s;cases evL A args with
  |none=>exact Ct.const none
  |some vs=>exact Ct.call f vs s
 case cv x args=>
  show Ct λS=>bB S (x.ev A) (evL A args) s;cases evL A args with
  |none=>exact Ct.const none
  | some vs=>
   cases x.ev A with
   |none=>exact Ct.const none
   |some u=>
    cases u
    case fn f a c=>exact Ct.call f (a++vs++c) s
    case yld l=>exact Ct.round l vs s
    all_goals exact Ct.const none
 all_goals exact Ct.const _
def FJ(E:Env)(o:SOper)(A:zB)(s:U):Ct λS=>Zv E S o A s:=by
 unfold Zv;cases pI o.guard A with
 |none=>exact Ct.const none
 |some b=>
  cases b with
  |true=>exact(sR E o.op A s).map (stS A o.dst) rfl
  |false=>exact Ct.const _
def FH(E:Env):∀(l:List SOper) (A:zB) (s:U),Ct λS=>evS E S l A s
 |[],_,_=>Ct.const _
 |o::r,A,s=>Ct.bind (k:=λS x=>match x with|some p=>evS E S r p.1 p.2|none=>none) (FJ E o A s) (λ_=>rfl) λp=>FH E r p.1 p.2
def FI(E:Env)(o:DOper)(i:Nat)(log:List LogE)(A:zB)(s:U):Ct λS=>YD E S o i log A s:=by
 unfold YD;cases pI o.o.guard A with
 |none=>exact Ct.const none
 |some b=>
  cases b with
  |true=>exact(sR E o.o.op A _).map (Lg o i log A s) rfl
  |false=>exact Ct.const _
def FG(E:Env):∀(l:zt) (i:Nat) (log:List LogE) (A:zB) (s:U),Ct λS=>evD E S l i log A s
 |[],_,_,_,_=>Ct.const _
 |o::r,i,log,A,s=>Ct.bind (k:=λS x=>match x with|some p=>evD E S r (Nat.succ i) p.1 p.2.1 p.2.2|none=>none) (FI E o i log A s) (λ_=>rfl) λp=>FG E r _ _ _ _
def eA{X9:Self->zj}{k:Self->Fr->U->zj}(hX:Ct X9)(hk:∀fr s,Ct λS=>k S fr s):Ct λS=>ge (k S) (X9 S):=
 Ct.bind (k:=λS x=>ge (k S) x) hX (λ_=>rfl) λp=>by
  obtain⟨r,fr,s⟩:=p;cases r with
  |norm=>exact hk fr s
  |exit i=>exact Ct.const _
  |ret=>exact Ct.const _
def pw(E:Env)(rd:zD):∀(c:ICode) (fr:Fr) (s:U),Ct λS=>evC E S rd c fr s
 |.skip,_,_=>Ct.const _
 |.reg ops,fr,s=>(FH E ops fr.A s).map (kN fr.df) rfl
 |.regd ops,fr,s=>by
  show Ct λS=>JY E S ops fr s;unfold JY;cases s.only with
  |none=>exact(FG E ops 0 [] fr.A s).map (kN fr.df) rfl
  |some _=>exact Ct.const none
 |.seq a b,fr,s=>eA (pw E rd a fr s) (pw E rd b)
 | .cond c a b,fr,s=>by
  show Ct λS=>JN (c.ev fr.A) (evC E S rd a) (evC E S rd b) fr s;cases c.ev fr.A with
  |none=>exact Ct.const none
  | some v=>
   cases v
   case bool x=>cases x with
    |true=>exact pw E rd a fr s
    |false=>exact pw E rd b fr s
   all_goals exact Ct.const none
 |.block Y b,fr,s=>(pw E rd b fr s).map (lP Y) rfl
 |.loop b,fr,s=>eA (pw E rd b fr s) (λfr s=>Ct.loop rd b fr s)
 |.exit _,_,_=>Ct.const _
 |.ret,_,_=>Ct.const _
 | .rf g ps asg body,fr,s=>by
  show Ct λS=>rfR S rd (g.ev fr.A) ps asg body fr s;unfold rfR;cases rd with
  |some _=>exact Ct.const none
  | none=>
   simp only;cases g.ev fr.A with
   |none=>exact Ct.const none
   |some v=>
    cases v
    case fn f a c=>exact(Ct.call f _ _).map (ZV fr (Nat.succ s.next) s.next) rfl
    all_goals exact Ct.const none
 |.stk,_,_=>Ct.const _
theorem ez(E:Env)(F:IFunc)(args:zA)(s:U):Ct λS=>XU E S F args s:=
 (pw E none F.body _ s).map (qJ E.globs F.res) rfl
theorem FF(E:Env)(f:Nat)(args:zA)(s:U):Ct λS=>jp E S f args s:=by
 unfold jp;cases E.funs.get f with
 |none=>exact Ct.const none
 | some F=>
  simp only;cases zM (vC args) F.ntmps with
  |false=>exact Ct.const none
  |true=>
   simp only[wy];cases E.pure f with
   |true=>exact(ez E F args _).map (Yu s) rfl
   |false=>exact(ez E F args _).map (mdR s.md) rfl
def Gm(E:Env)(O:Orc)(f:Nat)(args:zA)(s:U):Ct λS=>Xw E O S f args s:=by
 unfold Xw;cases O f with
 |none=>exact FF E f args s
 |some g=>exact Ct.const _
def UR (E:Env)(l:Nat)(args:zA)(s:U):Ct λS=>gu E S l args s:=by
 unfold gu;cases s.get l with
 |none=>exact Ct.const none
 | some o=>
  cases o
  case loop st pend A ps asg body d=>
   simp only;cases ZX A ps args with
   |none=>exact Ct.const none
   | some tm1=>
    simp only;refine Ct.bind (k:=λS x=>uR E S l body x) (pw E (some l) asg _ s) (λ_=>rfl) λp=>?_;unfold uR;obtain⟨r,fr,s1⟩:=p;cases r with
    |exit i=>exact Ct.const none
    |ret=>exact Ct.const none
    | norm=>
     simp only;cases s1.get l with
     |none=>exact Ct.const none
     | some o=>
      cases o
      case loop st pend A ps asg body d=>
       cases st with
       |ready=>exact(pw E (some l) _ fr _).map (kl l) rfl
       |busy=>exact Ct.const none
       |done=>exact Ct.const none
       |exhausted=>exact Ct.const none
      all_goals exact Ct.const none
  all_goals exact Ct.const none
def gg(E:Env)(O:Orc):∀n,LeS (evT E O n) (evT E O (n+1))
 |0=>⟨λ_ _ _ _ h=>by simp[evT]at h,λ_ _ _ _ _ h=>by simp[evT]at h,λ_ _ _ _ h=>by simp[evT]at h⟩
 |n+1=>
  have ih:=gg E O n
  ⟨λf a s r h=>(Gm E O f a s).up _ _ ih r h,λrd b fr s r h=>(pw E rd (.loop b) fr s).up _ _ ih r h,λl a s r h=>(UR E l a s).up _ _ ih r h⟩
noncomputable section
open Classical in
def oX{α:Type}(X9:Nat->Option α):Option α:=if h:∃r n,X9 n=some r then some (Classical.choose h)else none
def jc{α:Type}{X9:Nat->Option α}{r:α}(h:oX X9=some r):∃n,X9 n=some r:=by
 unfold oX at h;split at h
 .rename_i hx
  cases h;exact xS hx
 .cases h
def gI{α:Type}{X9:Nat->Option α}(hm:∀n r,X9 n=some r->X9 (n+1)=some r){n:Nat}{r:α}(h:X9 n=some r):oX X9=some r:=by
 have up:∀k m r,X9 m=some r->X9 (m+k)=some r:=λk=>by
  induction k with
  |zero=>intro m r h;exact h
  |succ k ih=>intro m r h;exact hm _ _ (ih m r h)
 unfold oX;have hx:∃r n,X9 n=some r:=⟨r,n,h⟩;rw[dif_pos hx];obtain⟨m,hm'⟩:=xS hx;have h1:=up m n r h;have h2:=up n m _ hm';rw[Nat.add_comm,h1]at h2;exact h2.symm
def evW(E:Env)(O:Orc):Self:=
 ⟨λf a s=>oX λn=>(evT E O n).call f a s,λrd b fr s=>oX λn=>(evT E O n).loop rd b fr s,λl a s=>oX λn=>(evT E O n).round l a s⟩
end
def bC(E:Env)(O:Orc):LimS (evT E O) (evW E O):=⟨λ_ _ _ _ h=>jc h,λ_ _ _ _ _ h=>jc h,λ_ _ _ _ h=>jc h⟩
def IG{a:zA}{r:Z×U}(h:Xw E O (evW E O) f a s=some r):(evW E O).call f a s=some r:=by
 obtain⟨n,hn⟩:=(Gm E O f a s).fin _ _ (gg E O) (bC E O) r h;exact gI (n:=n+1) (λn r h=>(gg E O n).call _ _ _ _ h) hn
def IH{rd:zD}{b:ICode}{fr:Fr}{r:Res×Fr×U}(h:evC E (evW E O) rd (.loop b) fr s=some r):(evW E O).loop rd b fr s=some r:=by
 obtain⟨n,hn⟩:=(pw E rd (.loop b) fr s).fin _ _ (gg E O) (bC E O) r h;exact gI (n:=n+1) (λn r h=>(gg E O n).loop _ _ _ _ _ h) hn
def CG{l:Nat}{a:zA}{r:Z×U}(h:gu E (evW E O) l a s=some r):(evW E O).round l a s=some r:=by
 obtain⟨n,hn⟩:=(UR E l a s).fin _ _ (gg E O) (bC E O) r h;exact gI (n:=n+1) (λn r h=>(gg E O n).round _ _ _ _ h) hn
def laid_ints{H:Type}{enc:TypeId×Value->H}{base:Nat}{spare:Nat->Bool}{held:Bool}{fuel:Nat}{t e:TypeId}{k:IntKind}{cs:zE}{vs:zw}{p:List MemPlace}(ht:P.underlying t=some (.array n e))(he:P.underlying e=some (.int k))(hc:P.cellsOf e=1)(hct:P.cellsOf t=n)
  (h:DataW.trod enc P w base spare held fuel t cs=some (.agg (vs.map λv=>.lit (.int k v)),p)):cs=vs.map (.int k ·):=by
 obtain⟨xs,m,rfl,hx,hlen,hn,hel⟩:=DataW.trod_array ht h;simp only[qj,DataW.agg.injEq]at hx;have hl:zR vs=n:=by
  have:=congrArg zR hx.1;simp at this;omega
 rw[hct]at hlen;apply List.ext_getElem?;intro i;by_cases hi:i<n
 .have h1:=hel i hi;rw[hc,Nat.mul_one]at h1;rw[xj J]at h1;obtain⟨z,z1,z2,_⟩:=DataW.trod_int he h1;have hz:xs[i].1=.lit (.int k z):=by rw[z2]
  have hv:(vs.map λv=>(DataW.lit (.int k v):DataW H))[i]? =(xs.map (·.1))[i]? :=by rw[hx.1]
  rw[xO,xO,xj J,xj J]at hv;simp only[yN,wB]at hv;rw[hz]at hv;have hvz:vs[i]=z:=by simpa using hv
  have hcs:cs[i]? =some (.int k z):=by
   have:=congrArg (λl=>l[0]?) z1
   simpa using this
  rw[hcs,xO,xj J,yN,hvz]
 .rw[yS J,yS (by simp;omega)]
def dz(I:Phi)(k:IntKind):∀vs:zw,VRL I (vs.map (Z.int k ·)) (vs.map (Value.int k ·))
 |[]=>VRL.nil I
 |v::vs=>VRL.cons (by simp only[VR]) (dz I k vs)
def glob_of{name:String}{g:Nat}{cs:zr}{k:IntKind}{vs:zw}(hg:P.globalNamed name=some g)(hv:w.var? P name=some cs)(hcs:cs.toList=vs.map (Value.int k ·)):
  g<w.heap.size/\∃c e fr,w.heap[g]? =some (.cells c e fr)/\(vs.map (Z.int k ·)).length<=c.size/\∀I,VRL I (vs.map (Z.int k ·)) (c.toList.take (vs.map (Z.int k ·)).length):=by
 unfold World.var? at hv;rw[hg]at hv;simp only[Option.bind_some]at hv;cases hh:w.heap[g]? with
 |none=>rw[hh]at hv;cases hv
 |some o=>
  rw[hh]at hv;cases o<;>simp only at hv<;>first|(cases hv;done)|skip
  rename_i c e fr
  have hcc:c=cs:=by simpa using hv
  subst hcc;refine⟨(Array.getElem?_eq_some_iff.1 hh).1,c,e,fr,rfl,?_,λI=>?_⟩
  .have:=congrArg zR hcs;simp at this|-;omega
  .rw[hcs,List.take_of_length_le (by simp)];exact dz I k vs
def laid_pairs{H:Type}{enc:TypeId×Value->H}{base:Nat}{spare:Nat->Bool}{held:Bool}{fuel:Nat}{t e u:TypeId}{k:IntKind}{f0 f1:Field}{cs:zE}{vs:zq}{p:List MemPlace}(ht:P.underlying t=some (.array n e))(he:P.underlying e=some (.struct #[f0,f1]))
  (h0:f0.type=u/\f0.offset=0) (h1:f1.type=u/\f1.offset=1) (hu:P.underlying u=some (.int k)) (hcu:P.cellsOf u=1) (hc:P.cellsOf e=2) (hct:P.cellsOf t=n*2)
  (h:DataW.trod enc P w base spare held fuel t cs=some (.agg (vs.map λv=>.agg [.lit (.int k v.1),.lit (.int k v.2)]),p)):cs=(vs.flatMap λv=>[v.1,v.2]).map (.int k ·):=by
 obtain⟨xs,m,rfl,hx,hlen,hn,hel⟩:=DataW.trod_array ht h;simp only[qj,DataW.agg.injEq]at hx;have hl:zR vs=n:=by
  have:=congrArg zR hx.1;simp at this;omega
 rw[hct]at hlen;have key:∀i (hi:i<List.length vs),cs[2*i]? =some (.int k vs[i].1)/\cs[2*i+1]? =some (.int k vs[i].2):=by
  intro i hi;have g:=hel i J;rw[hc,xj J]at g;obtain⟨y0,y1,m',e1,e2,e3,e4⟩:=Go.ChangeShapes.trod_struct2 he g;rw[h0.1,h0.2,hcu]at e3;rw[h1.1,h1.2,hcu]at e4;obtain⟨z0,a0,b0,_⟩:=DataW.trod_int hu e3;obtain⟨z1,a1,b1,_⟩:=DataW.trod_int hu e4;have hv:(vs.map λv=>(DataW.agg [.lit (.int k v.1),.lit (.int k v.2)]:DataW H))[i]? =(xs.map (·.1))[i]? :=by rw[hx.1]
  rw[xO,xO,xj J,xj J]at hv;simp only[yN,wB]at hv;rw[e1,b0,b1]at hv;simp at hv;rw[hv.1,hv.2];have c0:=congrArg (λl=>l[0]?) a0;have c1:=congrArg (λl=>l[0]?) a1;simp[List.getElem?_take]at c0 c1;rw[show 2*i=i*2 from yY _ _];exact⟨c0,c1⟩
 apply List.ext_getElem?;intro j;have hfl:∀(l:zq) (q:Nat),((l.flatMap λv=>[v.1,v.2]).map (Value.int k ·))[q]? =if q%2=0 then (l[q/2]?).map (λv=>Value.int k v.1)else (l[q/2]?).map (λv=>Value.int k v.2):=by
  intro l
  induction l with
  |nil=>intro q;simp
  | cons v r ih=>
   intro q
   match q with
   |0=>simp
   |1=>simp
   |q+2=>
    have:=ih q;simp only[List.flatMap_cons,List.cons_append,List.nil_append,List.map_cons,xQ];rw[this,show (q+2)%2=q%2 by omega,show (q+2)/2=q/2+1 by omega,xQ]
 rw[hfl];by_cases hj:j/2<zR vs
 .obtain⟨k1,k2⟩:=key (j/2) hj;rw[xj hj];split
  .rw[show 2*(j/2)=j by omega]at k1;rw[k1];simp
  .rw[show 2*(j/2)+1=j by omega]at k2;rw[k2];simp
 .rw[yS J,yS (l:=vs) J];simp
def GlobAt(w:World)(g:Nat)(l:zA):Prop:=g<w.heap.size/\∃c e fr,w.heap[g]? =some (.cells c e fr)/\zR l<=c.size/\∀I,VRL I l (c.toList.take (zR l))
def globRel_of{G:List zA}(h:∀i cs,G[i]? =some cs->cs≠[]->GlobAt w i cs):qm G w:=h
open Go.RowKit (Below)
def okV(v:Z):zc->Bool
 |some p=>eqA v p.1
 |none=>false
def M6{r:zc}(h:okV v r=true):∃s,r=some (v,s):=by
 cases r with
 |none=>simp[okV]at h
 |some p=>exact⟨p.2,by rw[F7 h]⟩
def noO:Orc:=λ_=>none
def withG(f:Nat)(g:zA->U->zc)(O:Orc):Orc:=λk=>bif zI f k then some g else O k
structure OrcOk(P:Program)(X:World)(O:Orc):Prop where
 ext:KQ O
 ok:∀f g,O f=some g->vW P X f g
def jO(P:Program)(X:World):OrcOk P X noO:=⟨λ_ _ h=>by (cases h),λ_ _ h=>by (cases h)⟩
def OrcOk.withG{g:zA->U->zc}(hO:OrcOk P X O)(he:∀args s v s',g args s=some (v,s')->Ext s s')(hk:vW P X f g):OrcOk P X (withG f g O):=by
 refine⟨λk h hk'=>?_,λk h hk'=>?_⟩<;>unfold Ev.withG at hk'
 .cases hb:zI f k with
  |true=>rw[hb]at hk';simp only[wy,wB]at hk';subst hk';exact he
  |false=>rw[hb]at hk';simp only[wK]at hk';exact hO.ext k h hk'
 .cases hb:zI f k with
  |true=>
   rw[hb]at hk';simp only[wy,wB]at hk';subst hk';rw[ql]at hb;subst hb;exact hk
  |false=>rw[hb]at hk';simp only[wK]at hk';exact hO.ok k h hk'
end Go.Proofs.YtbddpjboppmnfaaGreatDoor.Ev

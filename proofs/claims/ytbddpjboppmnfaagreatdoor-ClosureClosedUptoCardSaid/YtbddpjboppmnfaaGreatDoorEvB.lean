/- Part of a verified evaluator of the model's code, generic over the program: a run of the evaluator that answers shows what the model's run answers. No conditions of its own. -/
import Derived.Test.YtbddpjboppmnfaaGreatDoorEvA
import Derived.WalkKit
import Derived.Laws.IdiomCopy
import Derived.Laws.Externs
set_option linter.unusedSimpArgs false
set_option linter.unusedVariables false
set_option linter.defProp false
open Bool renaming eq_false_iff → zw, and_eq_true → zq, false_eq_true → zJ
open Nat renaming beq → zb, blt → zg, le_refl → zu, ble → ze, add_assoc → zN, beq_eq → zt, zero_le → zQ, blt_eq → zT, lt_succ_self → yc, mul_comm → yy, sub_self → yz, mul → zc
open Array renaming getElem?_toList → zC, getElem?_modify → zL, getElem?_eq_getElem → zO, toArray_toList → zS, range → zV, toList_setIfInBounds → zX, eraseIdxIfInBounds → zY, getElem?_push_lt → yh, toList_modify → yu, forIn_toList → yx
open List renaming map_cons → zD, getElem?_drop → zE, getElem?_take → zF, map_append → zH, take_of_length_le → zK, cons_append → zM, take_succ_eq_append_getElem → zR, mem_singleton → zW, length_cons → yb, eraseIdx_cons_succ → yd, foldl_cons → ye, sublist_cons_self → yi, drop_drop → yj, drop_zero → yl, getElem?_eq_none → ym, modify_succ_cons → yq, set_append_right → yr, drop_set_of_lt → yw
open Int renaming ofNat → zG, toNat_natCast → zI, natCast_nonneg → zP, negSucc_eq → zU
open List.Sublist renaming append_left → zZ
open Option renaming map_some → yg
namespace Go.Proofs.YtbddpjboppmnfaaGreatDoor.Ev
variable {P:Program}{w0 w:World}{s s':St}{φ:Phi}{v:AV}{tm:Trie AV}{id n esz:Nat}{o:AObj}{t:TypeId}
open Go.RowKit (Below)
mutual
theorem WK(φ:Phi):∀(n:Nat) (v:Value) (a:AV),cValF n v=some a→VR φ a v
 |0,_,_,h=>by simp[cValF]at h
 | n+1,v,a,h=>by
  unfold cValF at h;split at h
  ·cases h;simp[VR]
  ·cases h;simp[VR]
  ·cases h;simp only[VR];exact⟨_,rfl,rfl⟩
  ·cases h;simp[VR]
  ·cases h;simp[VR]
  ·cases h;simp[VR]
  ·rename_i f first cap
   cases hb:(first.isEmpty&&cap.isEmpty)with
   |false=>rw[hb]at h;simp at h
   |true=>
    rw[hb]at h;simp at h;subst h;simp only[zq,Array.isEmpty_iff]at hb;obtain⟨rfl,rfl⟩:=hb;simp only[VR];exact⟨[],[],rfl,VRL.nil φ,VRL.nil φ⟩
  ·cases h;simp[VR]
  ·cases h;simp[VR]
  ·rename_i cs
   cases hg:cValF.go n cs.toList with
   |none=>rw[hg]at h;simp at h
   |some l=>rw[hg]at h;simp at h;subst h;simp only[VR];exact⟨cs.toList,by simp,V9 φ n cs.toList l hg⟩
  ·rename_i cs
   cases hg:cValF.go n cs.toList with
   |none=>rw[hg]at h;simp at h
   |some l=>rw[hg]at h;simp at h;subst h;simp only[VR];exact⟨cs.toList,by simp,V9 φ n cs.toList l hg⟩
  ·cases h
theorem V9(φ:Phi):∀(n:Nat) (vs:List Value) (l:List AV),cValF.go n vs=some l→VRL φ l vs
 |n,[],l,h=>by simp[cValF.go]at h;subst h;exact VRL.nil φ
 | n,v::r,l,h=>by
  unfold cValF.go at h;cases h1:cValF n v with
  |none=>rw[h1]at h;simp at h
  | some a=>
   cases h2:cValF.go n r with
   |none=>rw[h1,h2]at h;simp at h
   |some m=>
    rw[h1,h2]at h;simp at h;subst h;exact VRL.cons (WK φ n v a h1) (V9 φ n r m h2)
end
theorem Vf(φ:Phi){v:Value}{a:AV}(h:zoQ v=some a):VR φ a v:=WK φ 4 v a h
def TmOn(φ:Phi)(ts:List Nat)(tm:Trie AV)(a:Act):Prop:=∀t∈ts,∀v,tm.get t=some v→VR φ v (a.tmps.getD t undef)
theorem TmOn.of{ts:List Nat}{a:Act}(h:TmRel φ tm a.tmps):TmOn φ ts tm a:=fun t _ v hv=>h t v hv
theorem TmOn.sub{ts us:List Nat}{a:Act}(h:TmOn φ ts tm a)(hs:∀t∈us,t∈ts):TmOn φ us tm a:=fun t ht=>h t (hs t ht)
theorem xV{x:Operand}{y:Opd}{a:Act}(hc:qr x=some y)(he:y.ev tm=some v)(ht:TmOn φ y.tmp tm a):VR φ v (a.eval x):=by
 cases x with
 |tmp t=>
  simp[qr]at hc;subst hc;exact ht t (by simp[Opd.tmp]) v he
 |const c=>
  simp only[qr]at hc;cases h:zoQ c with
  |none=>rw[h]at hc;simp at hc
  |some u=>rw[h]at hc;simp at hc;subst hc;simp[Opd.ev]at he;subst he;exact Vf φ h
 |global g=>simp[qr]at hc;subst hc;simp[Opd.ev]at he;subst he;simp[VR,Act.eval]
 |func f=>simp[qr]at hc;subst hc;simp[Opd.ev]at he;subst he;simp only[VR,Act.eval];exact⟨[],[],rfl,VRL.nil φ,VRL.nil φ⟩
theorem ju{φ:Phi}{tm:Trie AV}{a:Act}:∀{xs:List Operand} {ys:List Opd} {vs:List AV},lA xs=some ys→evL tm ys=some vs→TmOn φ (Opd.tmps ys) tm a→VRL φ vs (xs.map a.eval)
 |[],ys,vs,hc,he,_=>by simp[lA]at hc;subst hc;simp[evL]at he;subst he;exact VRL.nil φ
 | x ::xs,ys,vs,hc,he,ht=>by
  unfold lA at hc;cases h1:qr x with
  |none=>rw[h1]at hc;simp at hc
  | some y=>
   cases h2:lA xs with
   |none=>rw[h1,h2]at hc;simp at hc
   | some l=>
    rw[h1,h2]at hc;simp at hc;subst hc;unfold evL at he;cases e1:y.ev tm with
    |none=>rw[e1]at he;simp at he
    | some v=>
     cases e2:evL tm l with
     |none=>rw[e1,e2]at he;simp at he
     |some us=>
      rw[e1,e2]at he;simp at he;subst he;refine VRL.cons (xV h1 e1 (ht.sub ?_)) (ju h2 e2 (ht.sub ?_))
      ·intro t h;simp[Opd.tmps];exact .inl h
      ·intro t h;simp[Opd.tmps]at h⊢;exact .inr h
def OR(φ:Phi):Option AV→Option Value→Prop
 |none,y=>y=none
 |some v,y=>∃x,y=some x∧VR φ v x
theorem gC{x:Option Operand}{y:Option Opd}{a:Act}{v:Option AV}(hc:Ve x=some y)(he:evO tm y=some v)(ht:TmOn φ (Opd.tmps y.toList) tm a):OR φ v (x.map a.eval):=by
 cases x with
 |none=>simp[Ve]at hc;subst hc;simp[evO]at he;subst he;simp[OR]
 | some x=>
  simp only[Ve]at hc;cases h1:qr x with
  |none=>rw[h1]at hc;simp at hc
  | some y'=>
   rw[h1]at hc;simp at hc;subst hc;simp only[evO]at he;cases e1:y'.ev tm with
   |none=>rw[e1]at he;simp at he
   |some v'=>
    rw[e1]at he;simp at he;subst he;exact⟨_,rfl,xV h1 e1 (ht.sub (by intro t h;simp[Opd.tmps];exact h))⟩
theorem js{b i:Nat}{c:Array Value}{e:TypeId}{fr:Nat×Nat}(h:w.heap[b]? =some (.cells c e fr)):w.cell? ⟨b,i,none⟩=c[i]? :=by simp[World.cell?,h]
theorem pg{b i:Nat}{c:Array Value}{e:TypeId}{fr:Nat×Nat}(h:w.heap[b]? =some (.cells c e fr)):w.frozen? ⟨b,i,none⟩=(decide (fr.1≤i)&&decide (i<fr.2)):=by simp[World.frozen?,h]
theorem qX(b o n:Nat):Addr.add ⟨b,o,none⟩ n=⟨b,o+n,none⟩:=by unfold Addr.add;split<;>simp_all
theorem Qw{b o:Nat}{v:Value}{c:Array Value}{e:TypeId}{fr:Nat×Nat}(h:w.heap[b]? =some (.cells c e fr)):
  (w.setCell ⟨b,o,none⟩ v).heap[b]? =some (.cells (c.setIfInBounds o v) e fr):=by
 simp[World.setCell,zL,h]
theorem We{b o k:Nat}{v:Value}(h:k≠b):(w.setCell ⟨b,o,none⟩ v).heap[k]? =w.heap[k]? :=by
 simp[World.setCell,zL,Ne.symm h]
theorem jJ:∀(vs:List Value) (w:World) (b o:Nat),(w.setCells b o vs).heap.size=w.heap.size∧(w.setCells b o vs).os=w.os∧(w.setCells b o vs).tape=w.tape∧(w.setCells b o vs).output=w.output∧
  ∀k,k≠b→(w.setCells b o vs).heap[k]? =w.heap[k]?
 |[],w,b,o=>⟨rfl,rfl,rfl,rfl,fun _ _=>rfl⟩
 |v::r,w,b,o=>by
  obtain⟨h1,h2,h3,h4,h5⟩:=jJ r (w.setCell ⟨b,o,none⟩ v) b (o+1);exact⟨h1.trans (by simp),h2,h3,h4,fun k hk=>(h5 k hk).trans (We hk)⟩
theorem g9:∀(vs:List Value) (w:World) (b o:Nat) (c:Array Value) (e:TypeId) (fr:Nat×Nat),w.heap[b]? =some (.cells c e fr)→o+vs.length≤c.size→
  ∃c':Array Value,(w.setCells b o vs).heap[b]? =some (.cells c' e fr)∧c'.toList=c.toList.take o++vs++c.toList.drop (o+vs.length)
 |[],w,b,o,c,e,fr,h,_=>⟨c,h,by simp⟩
 | v::r,w,b,o,c,e,fr,h,hl=>by
  have hl':o+(r.length+1)≤c.size:=hl;obtain⟨c',h1,h2⟩:=g9 r (w.setCell ⟨b,o,none⟩ v) b (o+1) (c.setIfInBounds o v) e fr (Qw h) (by simp;omega)
  refine⟨c',h1,h2.trans ?_⟩;have hlt:o<c.toList.length:=by simp;omega
  rw[zX];have e1:(c.toList.set o v).take (o+1)=c.toList.take o++[v]:=by
   have hm:(c.toList.take o).length=o:=by rw[List.length_take];omega
   rw[List.take_set,zR hlt,yr _ _ oM,hm];simp
  have e2:(c.toList.set o v).drop (o+1+r.length)=c.toList.drop (o+(r.length+1)):=by
   rw[yw oM];congr 1;omega
  rw[e1,e2];simp
def x8(G:List (List AV))(w0:World):Prop:=
 ∀g cs,G[g]? =some cs→cs≠[]→g<w0.heap.size∧∃c e fr,w0.heap[g]? =some (.cells c e fr)∧cs.length≤c.size∧∀φ,VRL φ cs (c.toList.take cs.length)
theorem vE{G:List (List AV)}(r:Rel P w0 φ s.get w)(hG:x8 G w0){p:AV}{cs:List AV}{x:Value}
  (h:vG G s p n=some cs) (hv:VR φ p x):∃(a:Addr) (xs:List Value),x=.pointer (some a)∧xs.length=n∧VRL φ cs xs∧∀j v,xs[j]? =some v→w.cell? (a.add j)=some v:=by
 unfold vG at h;split at h
 ·rename_i id off
  split at h
  ·rename_i e cells ext fz hg
   simp only[VR]at hv;obtain⟨B,hB,rfl⟩:=hv;obtain⟨B',hB',c,fr,h1,h2,h3,h4,h5,h6⟩:=r.obj id _ hg;rw[hB]at hB';cases hB';obtain⟨hl,hb,rfl⟩:=cut_some h;refine⟨_,(((c.toList.drop B.o).take cells.length).drop off).take n,rfl,?_,h5.cut h,?_⟩
   ·have:=VRL.length h5;rcases hb with hb|hb
    ·simp at this⊢;omega
    ·subst hb;simp
   ·intro j v hj;rw[qX,js h1];rw[zF]at hj;split at hj
    ·rename_i hlt
     rw[zE,zF]at hj;split at hj
     ·rw[zE]at hj;rw[show B.o+off+j=B.o+(off+j) by omega,←zC];exact hj
     ·cases hj
    ·cases hj
  ·rename_i cells hg
   simp only[VR]at hv;obtain⟨B,hB,rfl⟩:=hv;obtain⟨B',hB',c,e,fr,h1,h2,h5⟩:=r.obj id _ hg;rw[hB]at hB';cases hB';obtain⟨hl,hb,rfl⟩:=cut_some h;refine⟨_,(((c.toList.drop B.o).take cells.length).drop off).take n,rfl,?_,h5.cut h,?_⟩
   ·have:=VRL.length h5;rcases hb with hb|hb
    ·simp at this⊢;omega
    ·subst hb;simp
   ·intro j v hj;rw[qX,js h1];rw[zF]at hj;split at hj
    ·rename_i hlt
     rw[zE,zF]at hj;split at hj
     ·rw[zE]at hj;rw[show B.o+off+j=B.o+(off+j) by omega,←zC];exact hj
     ·cases hj
    ·cases hj
  ·cases h
 ·rename_i g off
  split at h
  ·rename_i cells hg
   simp only[VR]at hv;subst hv;by_cases hne:cells=[]
   ·subst hne;obtain⟨hl,hb,he⟩:=cut_some h;have h0:n=0:=by
     rcases hb with hb|hb
     ·simp at hb;omega
     ·exact hb
    subst h0;exact⟨_,[],rfl,rfl,by rw[he];simpa using VRL.nil φ,fun j v hj=>by simp at hj⟩
   obtain⟨hlt,c,e,fr,h1,h2,h3⟩:=hG g cells hg hne;have hw:w.heap[g]? =some (.cells c e fr):=(r.base.block g hlt).trans h1;obtain⟨hl,hb,rfl⟩:=cut_some h;refine⟨_,((c.toList.take cells.length).drop off).take n,rfl,?_,(h3 φ).cut h,?_⟩
   ·rcases hb with hb|hb
    ·simp;omega
    ·subst hb;simp
   ·intro j v hj;rw[qX,js hw];rw[zF]at hj;split at hj
    ·rw[zE,zF]at hj;split at hj
     ·rw[←zC];exact hj
     ·cases hj
    ·cases hj
  ·cases h
 ·rename_i cells
  simp only[VR]at hv;obtain⟨_,b,o,ys,rfl,hz,hy⟩:=hv;obtain⟨r',e,hl⟩:=j8 h;subst e;refine⟨_,ys.take n,rfl,?_,?_,fun j v hj=>?_⟩
  ·have:=hy.length;simp at this⊢;omega
  ·have:=hy.take n;rw[←hl]at this⊢;simpa using this
  ·rw[zF]at hj;split at hj
   ·obtain⟨c,e,fr,h1,h2⟩:=r.frz _ _ _ (hz.at hj);rw[qX,js h1];exact h2
   ·cases hj
 ·cases h
theorem Hz{x:Value}(h:VR φ v x)(hs:ua v=true):x.oneCell'=true:=by
 cases v<;>simp[ua]at hs<;>simp only[VR]at h<;>
  first
   |(obtain⟨_,⟨_,_,rfl⟩|⟨b,o,k,ys,rfl,_⟩⟩:=h<;>rfl)
   |(obtain⟨_,_,_,_,B,ys,_,rfl,_⟩:=h;rfl)
   |(obtain⟨_,b,o,ys,rfl,_⟩:=h;rfl)
   |(subst h;rfl)
   |(obtain⟨_,rfl,_⟩:=h;rfl)
   |(obtain⟨_,_,rfl⟩:=h;rfl)
   |(obtain⟨_,_,_,rfl,_⟩:=h;rfl)
   |(obtain⟨_,_,rfl,_⟩:=h;rfl)
theorem jm{φ:Phi}:∀{vs:List AV} {xs:List Value},VRL φ vs xs→wd vs=true→∀x∈xs,x.oneCell'=true
 |[],_,h,_,x,hx=>by simp only[VRL]at h;subst h;simp at hx
 | v::vs,_,h,hs,x,hx=>by
  simp only[VRL]at h;obtain⟨y,ys,rfl,h1,h2⟩:=h;unfold wd at hs;cases hb:ua v with
  |false=>rw[hb]at hs;simp at hs
  |true=>
   rw[hb]at hs;simp at hs;rcases List.mem_cons.1 hx with rfl|hx
   ·exact Hz h1 hb
   ·exact jm h2 hs x hx
theorem zu6(r:Rel P w0 φ s.get w){off:Nat}{B:Blk}{e:Nat}{cells cells' vs:List AV}{xs:List Value}{ext fz:Bool}
  (hg:s.get id=some (.row e cells ext fz)) (hB:φ id=some B) (hfz:fz=false) (hs:wd vs=true) (hp:ur cells off vs=some cells') (hx:VRL φ vs xs):
  ∃w',(storeCells ⟨B.b,B.o+off,none⟩ xs).run P w=.ok () w'∧Step P w0 φ s w φ (s.put id (.row e cells' ext fz)) w':=by
 obtain⟨B',hB',c,fr,h1,h2,h3,h4,h5,h6⟩:=r.obj id _ hg;rw[hB]at hB';cases hB';obtain⟨hb,rfl⟩:=YP hp;have hxl:=VRL.length hx;have hcl:=VRL.length h5;by_cases h0:vs=[]
 ·subst h0;simp only[List.length_nil]at hxl;have:xs=[]:=List.eq_nil_of_length_eq_zero hxl.symm;subst this;refine⟨w,rfl,Step.put r hg hB (fun _ _=>rfl) rfl rfl rfl rfl ?_⟩;exact⟨c,fr,h1,h2,by simpa using h3,by simpa using h4,by simpa using h5,h6⟩
 ·have hb':off+vs.length≤cells.length:=hb.resolve_right h0
  have hrun:=run_storeCells_cells (P:=P) B.b (B.o+off) xs 0 w
   (fun j hj=>by rw[js h1];simp;omega)
   (fun j hj=>by
    rw[pg h1];have:=h6.2 hfz (B.o+off+0+j) oM;simp at this⊢;exact this)
   (jm hx hs)
  refine⟨_,hrun,?_⟩;obtain⟨f1,f2,f3,f4,f5⟩:=jJ xs w B.b (B.o+off+0);obtain⟨c',g1,g2⟩:=g9 xs w B.b (B.o+off+0) c e fr h1 oM;refine Step.put r hg hB f5 f1 f2 f3 f4 ?_;have hsz:c'.size=c.size:=by rw[←Array.length_toList,g2];simp;omega
  have hlen:(cells.take off++vs++cells.drop (off+vs.length)).length=cells.length:=by simp;omega
  refine⟨c',fr,g1,hsz.trans h2,by rw[hlen];exact h3,by rw[hlen];exact h4,?_,h6.1,fun hz=>by rw[hsz];exact h6.2 hz⟩
  rw[hlen,g2]
  have key:(List.drop B.o (c.toList.take (B.o+off+0)++xs++c.toList.drop (B.o+off+0+xs.length))).take cells.length
    =((c.toList.drop B.o).take cells.length).take off++xs++((c.toList.drop B.o).take cells.length).drop (off+vs.length):=by
   rw[List.append_assoc,List.drop_append_of_le_length (by simp;omega),List.drop_take]
   have a1:B.o+off+0-B.o=off:=oM;rw[a1,List.take_append];have a2:((c.toList.drop B.o).take off).length=off:=by simp;omega
   rw[a2,List.take_append];rw[List.take_take,List.take_take,Nat.min_comm];rw[List.append_assoc];have a3:(List.take (cells.length-off) xs)=xs:=zK oM;rw[a3]
   congr 1
   congr 1
   rw[List.drop_take,yj];have a4:cells.length-off-xs.length=cells.length-(off+vs.length):=oM;have a5:B.o+off+0+xs.length=B.o+(off+vs.length):=oM;rw[a4,a5]
  rw[key];exact VRL.append (VRL.append (h5.take off) hx) (h5.drop (off+vs.length))
theorem pu(r:Rel P w0 φ s.get w){p:AV}{vs:List AV}{x:Value}{xs:List Value}
  (h:jc s p vs=some s') (hv:VR φ p x) (hx:VRL φ vs xs):∃(a:Addr) (w':World),x=.pointer (some a)∧(storeCells a xs).run P w=.ok () w'∧Step P w0 φ s w φ s' w':=by
 unfold jc at h;split at h
 ·rename_i id off
  split at h
  ·rename_i e cells ext fz hg
   cases hb:(fz|| !wd vs)with
   |true=>rw[hb]at h;simp at h
   | false=>
    rw[hb]at h;simp only[cond_false]at h;cases hp:ur cells off vs with
    |none=>rw[hp]at h;simp at h
    |some cells'=>
     rw[hp]at h;simp only[Option.some.injEq]at h;subst h;simp only[VR]at hv;obtain⟨B,hB,rfl⟩:=hv;simp at hb;obtain⟨w',h1,h2⟩:=zu6 r hg hB hb.1 hb.2 hp hx;exact⟨_,w',rfl,h1,h2⟩
  ·cases h
 ·cases h
theorem wK{a b:Nat}:zg a b=true↔a<b:=by rw[zT]
theorem zvm{a b:Nat}(h:¬a<b):Nat.blt a b=false:=by rw[Bool.eq_false_iff,ne_eq,Nat.blt_eq];exact h
theorem x9{a b:Nat}:ze a b=true↔a≤b:=by rw[Nat.ble_eq]
theorem we{a b:Nat}:zb a b=true↔a=b:=by rw[zt]
section tables
variable {P:Program}{w:World}
theorem WZ(h:vT P t=some n):∃i,P.info? t=some i∧i.size=n:=by
 unfold vT at h;cases hi:P.info? t with
 |none=>rw[hi]at h;simp at h
 |some i=>rw[hi]at h;simp at h;exact⟨i,rfl,h⟩
theorem jk{i:TypeInfo}(h:P.info? t=some i):(typeInfo t).run P w=.ok i w:=by simp[typeInfo,h]
theorem xM{d:TypeDesc}(h:P.underlying t=some d):(underlying t).run P w=.ok d w:=by simp[underlying,h]
theorem wO(h:vT P t=some n):(sizeOf t).run P w=.ok n w:=by
 obtain⟨i,hi,rfl⟩:=WZ h;simp[sizeOf,jk hi]
theorem YS(h:Vb P t=some n):∃i,P.info? t=some i∧i.bytes=n:=by
 unfold Vb at h;cases hi:P.info? t with
 |none=>rw[hi]at h;simp at h
 |some i=>rw[hi]at h;simp at h;exact⟨i,rfl,h⟩
theorem qL{z:AV}(h:jL P t=some z):∃x,(∀w,(zeroValue t).run P w=.ok x w)∧∀φ,VR φ z x:=by
 unfold jL at h;cases hi:P.info? t with
 |none=>rw[hi]at h;simp at h
 | some i=>
  rw[hi]at h;simp only[Option.bind_some]at h;cases hz:i.zero with
  |none=>rw[hz]at h;simp at h
  |some x=>
   rw[hz]at h;simp only[Option.bind_some]at h;exact⟨x,fun w=>by simp[zeroValue,jk hi,hz],fun φ=>Vf φ h⟩
theorem pp{b:Bool}(h:U6 P t=some b):(isAgg t).run P w=.ok b w:=by
 unfold U6 at h;split at h
 ·rename_i hu;cases h;simp[isAgg,xM hu]
 ·rename_i hu;cases h;simp[isAgg,xM hu]
 ·rename_i d hn1 hn2 hu;cases h
  simp only[isAgg,Sem.run_bind,xM hu,Result.andThen_ok];cases d<;>simp_all
 ·cases h
end tables
theorem ll:∀a b:Int,ltI a b=decide (a<b)
 |.ofNat a,.ofNat b=>by
  show zg a b=_;by_cases h:a<b
  ·rw[show zg a b=true from wK.2 h];exact(decide_eq_true (Int.ofNat_lt.2 h)).symm
  ·rw[show zg a b=false from by rw[zw,ne_eq,zT];exact h];exact(decide_eq_false (fun h'=>h (Int.ofNat_lt.1 h'))).symm
 |.ofNat a,.negSucc b=>by simp only[ltI];symm;apply decide_eq_false;have:=Int.negSucc_lt_zero b;have:(0:Int)≤zG a:=zP a;omega
 |.negSucc a,.ofNat b=>by simp only[ltI];symm;apply decide_eq_true;have:=Int.negSucc_lt_zero a;have:(0:Int)≤zG b:=zP b;omega
 |.negSucc a,.negSucc b=>by
  show zg b a=_;by_cases h:b<a
  ·rw[show zg b a=true from wK.2 h];symm;apply decide_eq_true;rw[zU,zU];omega
  ·rw[show zg b a=false from by rw[zw,ne_eq,zT];exact h];symm;apply decide_eq_false;rw[zU,zU];omega
theorem v8:∀a b:Int,eqI a b=(a==b)
 | .ofNat a,.ofNat b=>by
  show zb a b=_;by_cases h:a=b
  ·subst h;simp
  ·rw[show zb a b=false from by rw[zw,ne_eq,zt];exact h]
   symm;rw[beq_eq_false_iff_ne];intro e;exact h (Int.ofNat.inj e)
 |.ofNat a,.negSucc b=>by simp[eqI]
 |.negSucc a,.ofNat b=>by simp[eqI]
 | .negSucc a,.negSucc b=>by
  show zb a b=_;by_cases h:a=b
  ·subst h;simp
  ·rw[show zb a b=false from by rw[zw,ne_eq,zt];exact h]
   symm;rw[beq_eq_false_iff_ne];intro e;exact h (Int.negSucc.inj e)
theorem ZW(k k':IntKind):uG k k'=decide (k=k'):=by cases k<;>cases k'<;>rfl
theorem py(k:IntKind)(a:Nat)(h:a<Jr k):k.wrap (Int.ofNat a)=Int.ofNat a:=by
 have h1:(zG a)=(a:Int):=rfl;rw[h1];cases k<;>simp only[Jr]at h<;>simp only[IntKind.wrap,IntKind.bits,IntKind.signed]<;>simp<;>omega
theorem ky(k:IntKind)(n:Int):vW k n=k.wrap n:=by
 cases n with
 |ofNat a=>
  show (bif zg a (Jr k)then zG a else k.wrap (.ofNat a))=_;cases h:zg a (Jr k)with
  |false=>rfl
  |true=>exact(py k a (wK.1 h)).symm
 |negSucc a=>rfl
theorem KC(a b:Int):decide (a≤b)= !decide (b<a):=by
 by_cases h:b<a
 ·rw[decide_eq_true h,decide_eq_false oM];rfl
 ·rw[decide_eq_false h,decide_eq_true oM];rfl
theorem zzT{op:BinOp}{k k':IntKind}{a b:Int}(φ:Phi)(h:ub op k a k' b=some v):
  ∃x,(binOp op t (.int k a) (.int k' b)).run P w=.ok x w∧VR φ v x:=by
 unfold ub at h;split at h
 · --shl
  cases hb:ltI b 0 with
  |true=>rw[hb]at h;simp at h
  |false=>
   rw[hb]at h;simp only[cond_false,Option.some.injEq]at h;subst h;rw[ll]at hb;simp at hb;exact⟨_,by simp[binOp,Op.shift];rw[if_neg oM],by simp[VR,ky]⟩
 ·cases hb:ltI b 0 with
  |true=>rw[hb]at h;simp at h
  |false=>
   rw[hb]at h;simp only[cond_false,Option.some.injEq]at h;subst h;rw[ll]at hb;simp at hb;exact⟨_,by simp[binOp,Op.shift];rw[if_neg oM],by simp[VR]⟩
 ·rename_i hn1 hn2
  cases hk:uG k k' with
  |false=>rw[hk]at h;simp at h
  | true=>
   rw[hk]at h;simp only[cond_true]at h;rw[ZW]at hk;simp at hk;subst hk;split at h
   ·cases h;exact⟨_,by simp[binOp,Op.intArith];rfl,by simp only[VR,ky];rfl⟩
   ·cases h;exact⟨_,by simp[binOp,Op.intArith];rfl,by simp only[VR,ky];rfl⟩
   ·cases h;exact⟨_,by simp[binOp,Op.intArith];rfl,by simp only[VR,ky];rfl⟩
   ·cases hb:eqI b 0 with
    |true=>rw[hb]at h;simp at h
    |false=>
     rw[hb]at h;simp only[cond_false,Option.some.injEq]at h;subst h;rw[v8]at hb;simp at hb;exact⟨_,by simp[binOp,Op.intDiv];rw[if_neg hb],by simp[VR,ky]⟩
   ·cases hb:eqI b 0 with
    |true=>rw[hb]at h;simp at h
    |false=>
     rw[hb]at h;simp only[cond_false,Option.some.injEq]at h;subst h;rw[v8]at hb;simp at hb;exact⟨_,by simp[binOp,Op.intDiv];rw[if_neg hb],by simp[VR]⟩
   ·cases h;exact⟨_,by simp[binOp,Op.intCmp];rfl,by simp[VR,v8]⟩
   ·cases h;exact⟨_,by simp[binOp,Op.intCmp];rfl,by simp[VR,v8,bne]⟩
   ·cases h;exact⟨_,by simp[binOp,Op.intCmp];rfl,by simp[VR,ll]⟩
   ·cases h;exact⟨_,by simp[binOp,Op.intCmp];rfl,by simp only[VR,ll,KC]⟩
   ·cases h;exact⟨_,by simp[binOp,Op.intCmp];rfl,by simp[VR,ll]⟩
   ·cases h;exact⟨_,by simp[binOp,Op.intCmp];rfl,by simp only[VR,ll,KC]⟩
   ·rename_i hbits
    cases hb:bits op k a b with
    |none=>rw[hb]at h;simp at h
    |some r=>
     rw[hb]at h;simp only[Option.some.injEq]at h;subst h;refine⟨.int k r,?_,by simp[VR]⟩
     cases op<;>simp only[bits,Option.some.injEq]at hb<;>first|(cases hb;done)|(subst hb;simp only[binOp,Op.intBits];simp)
theorem LU(op:BinOp)(t:TypeId)(x y:Operand)(k:IntKind)(n:Int)(v:Value):(eqGuard op t x y (.int k n) v).run P w=.ok () w:=by rw[eqGuard_at_int];rfl
theorem VN(op:BinOp)(t:TypeId)(x y:Operand)(s:ByteArray)(v:Value):(eqGuard op t x y (.string s) v).run P w=.ok () w:=by rw[eqGuard_at_string];rfl
theorem qp(s:ByteArray):(vo s).length=s.size:=by simp[vo]
theorem Yh:∀{a b:List UInt8},a.map (·.toNat)=b.map (·.toNat)→a=b
 |[],[],_=>rfl
 |[],_::_,h=>by simp at h
 |_::_,[],h=>by simp at h
 |x::a,y::b,h=>by
  simp only[zD,List.cons.injEq]at h;rw[UInt8.toNat_inj.1 h.1,Yh h.2]
theorem X7:∀a b:List Nat,eqS a b=(a==b)
 |[],[]=>rfl
 |[],_::_=>rfl
 |_::_,[]=>rfl
 | x::a,y::b=>by
  show (bif zb x y then eqS a b else false)=_;rw[List.cons_beq_cons,X7 a b];have:zb x y=(x==y):=by
   by_cases h:x=y
   ·subst h;simp
   ·rw[beq_eq_false_iff_ne.2 h,zw,ne_eq,zt];exact h
  rw[this];cases (x==y)<;>simp
theorem Q8(s t:ByteArray):(s.toList==t.toList)=(vo s==vo t):=by
 rw[ByteArray.toList_eq,ByteArray.toList_eq];by_cases h:s.data.toList=t.data.toList
 ·have:vo s=vo t:=by unfold vo;rw[h]
  rw[h,this];simp
 ·have h':vo s≠vo t:=fun e=>h (Yh e);rw[beq_eq_false_iff_ne.2 h,beq_eq_false_iff_ne.2 h']
theorem zqu:∀a b:List UInt8,ltS (a.map (·.toNat)) (b.map (·.toNat))=Op.bytesLess a b
 |[],[]=>rfl
 |_::_,[]=>rfl
 |[],_::_=>rfl
 | x::a,y::b=>by
  show (bif zg x.toNat y.toNat then true else bif zb x.toNat y.toNat then ltS (a.map (·.toNat)) (b.map (·.toNat))else false)=(decide (x<y)||(x==y&&Op.bytesLess a b))
  rw[zqu a b];have h1:zg x.toNat y.toNat=decide (x<y):=by
   by_cases h:x<y
   ·rw[decide_eq_true h];exact wK.2 (UInt8.lt_iff_toNat_lt.1 h)
   ·rw[decide_eq_false h,zw,ne_eq,zT];exact fun e=>h (UInt8.lt_iff_toNat_lt.2 e)
  have h2:zb x.toNat y.toNat=(x==y):=by
   by_cases h:x=y
   ·subst h;simp
   ·rw[beq_eq_false_iff_ne.2 h,zw,ne_eq,zt];exact fun e=>h (UInt8.toNat_inj.1 e)
  rw[h1,h2];cases decide (x<y)<;>cases (x==y)<;>simp
theorem PE(s t:ByteArray):vo (s++t)=vo s++vo t:=by simp[vo]
theorem zzU{op:BinOp}{s u:ByteArray}(φ:Phi)(h:zvl op (vo s) (vo u)=some v):
  ∃x,(binOp op t (.string s) (.string u)).run P w=.ok x w∧VR φ v x:=by
 have e1:eqS (vo s) (vo u)=(s.toList==u.toList):=by rw[X7,Q8]
 have e2:ltS (vo s) (vo u)=Op.bytesLess s.toList u.toList:=by rw[ByteArray.toList_eq,ByteArray.toList_eq];exact zqu _ _
 cases op<;>simp only[zvl]at h
 case add=>
  cases hb:zg (Nat.add (qg (vo s)) (qg (vo u))) 9223372036854775808 with
  |false=>rw[hb]at h;simp at h
  |true=>
   rw[hb]at h;simp only[cond_true,Option.some.injEq]at h;subst h;rw[zT,wV,wV,qp,qp]at hb;have hb':s.size+u.size<9223372036854775808:=hb;refine⟨.string (s++u),?_,by simp only[VR];exact⟨_,rfl,PE s u⟩⟩
   simp only[binOp,Op.stringOp];rw[if_neg]
   ·rfl
   ·simp[IntKind.max,IntKind.signed,IntKind.bits];omega
 all_goals first
  |(cases h;done)
  |(cases h;exact⟨_,by simp[binOp,Op.stringOp];rfl,by simp[VR,e1,e2]⟩)
theorem zxB{op:BinOp}{x y:AV}{x' y':Value}{ox oy:Operand}(h:ztD op x y=some v)(hx:VR φ x x')(hy:VR φ y y'):
  ∃z,(do eqGuard op t ox oy x' y';binOp op t x' y':Sem Value).run P w=.ok z w∧VR φ v z:=by
 unfold ztD at h;split at h
 ·rename_i k a
  split at h
  ·simp only[VR]at hx hy;subst hx;subst hy;obtain⟨z,h1,h2⟩:=zzT (P:=P) (w:=w) (t:=t) φ h;exact⟨z,by rw[Sem.run_bind,LU];exact h1,h2⟩
  ·cases h
 ·rename_i a
  split at h
  ·simp only[VR]at hx hy;obtain⟨s,rfl,rfl⟩:=hx;obtain⟨u,rfl,rfl⟩:=hy;obtain⟨z,h1,h2⟩:=zzU (P:=P) (w:=w) (t:=t) φ h;exact⟨z,by rw[Sem.run_bind,VN];exact h1,h2⟩
  ·cases h
 ·cases h
theorem ztI{op:UnOp}{x:AV}{x':Value}(h:vUn op x=some v)(hx:VR φ x x'):∃z,(Op.unary op x').run P w=.ok z w∧VR φ v z:=by
 unfold vUn at h;split at h
 ·split at h
  ·cases h;simp only[VR]at hx;subst hx;exact⟨_,by simp only[Op.unary,Op.intArith];rfl,by simp only[VR,ky];rfl⟩
  ·cases h
 ·split at h
  ·cases h;simp only[VR]at hx;subst hx;exact⟨_,by simp[Op.unary];rfl,by simp[VR]⟩
  ·cases h
 ·split at h
  ·rename_i k n
   simp only[VR]at hx;subst hx;cases hb:bits .xor k (bif k.signed then -1 else k.max) n with
   |none=>rw[hb]at h;simp at h
   |some r=>
    rw[hb]at h;simp only[Option.some.injEq]at h;subst h;simp only[bits,Option.some.injEq]at hb;subst hb;refine⟨_,by simp only[Op.unary,Op.intBits];rfl,?_⟩
    simp only[VR];cases k.signed<;>simp
  ·cases h
 ·cases h
theorem zv4{f:FK}{a b:AV}{x y:Value}{r:Bool}(ht:fkT P t=some f)(d:Nat)(h:eq1 f a b=some r)(hx:VR φ a x)(hy:VR φ b y):
  (Op.equalIn (d+1) t x y).run P w=.ok r w:=by
 unfold fkT at ht;split at ht
 ·rename_i k0 hu;cases ht
  simp only[eq1]at h;split at h
  ·rename_i k m k' n
   cases hkk:uG k k' with
   |false=>rw[hkk]at h;simp at h
   |true=>
    rw[hkk]at h;simp only[cond_true,Option.some.injEq]at h;subst h;rw[ZW]at hkk;simp at hkk;subst hkk;simp only[VR]at hx hy;subst hx;subst hy;rw[run_equalIn_int w d t k k0 m n hu,v8]
  ·cases h
 ·rename_i hu;cases ht
  simp only[eq1]at h;split at h
  ·cases h;simp only[VR]at hx hy;obtain⟨s,rfl,rfl⟩:=hx;obtain⟨u,rfl,rfl⟩:=hy;rw[run_equalIn_string w d t s u hu,X7,Q8]
  ·cases h
 ·rename_i hu;cases ht
  simp only[eq1]at h;split at h
  ·cases h;simp only[VR]at hx hy;subst hx;subst hy;exact run_equalIn_bool' w d t _ _ hu
  ·cases h
 ·cases ht
theorem zqe{f:FK}(ht:fkT P t=some f):(isAgg t).run P w=.ok false w:=by
 unfold fkT at ht;split at ht
 ·rename_i hu;simp[isAgg,xM hu]
 ·rename_i hu;simp[isAgg,xM hu]
 ·rename_i hu;simp[isAgg,xM hu]
 ·cases ht
theorem zwR{f:FK}{xs:Array Value}{i:Nat}{x:Value}(ht:fkT P t=some f)(h:xs[i]? =some x):(part t xs i).run P w=.ok x w:=by
 simp[part,zqe ht,h]
theorem Xn{P:Program}{w:World}{φ:Phi}(d:Nat){xs ys:Array Value}:∀{fs:List Field} {i:Nat} {ks:List FK} {a b:List AV} {r:Bool},jZ P fs i=some ks→lh ks a b=some r→
  VRL φ a (xs.toList.drop i)→VRL φ b (ys.toList.drop i)→(Op.eqFields (d+1) xs ys fs).run P w=.ok r w
 |[],i,ks,a,b,r,hf,he,ha,hb=>by
  simp[jZ]at hf;subst hf;cases a<;>cases b<;>simp[lh]at he
  subst he;simp[Op.eqFields]
 | f :: fs,i,ks,a,b,r,hf,he,ha,hb=>by
  simp only[jZ]at hf;cases hc:(f.offset==i&&f.name != "_")with
  |false=>rw[hc]at hf;simp at hf
  | true =>
   rw[hc]at hf;simp only[cond_true]at hf;simp at hc;obtain⟨ho,hn⟩:=hc;cases h1:fkT P f.type with
   |none=>rw[h1]at hf;simp at hf
   | some k=>
    cases h2:jZ P fs (i+1)with
    |none=>rw[h1,h2]at hf;simp at hf
    | some l=>
     rw[h1,h2]at hf;simp at hf;subst hf;cases a with
     |nil=>simp[lh]at he
     | cons u a=>
      cases b with
      |nil=>simp[lh]at he
      | cons v b=>
       simp only[VRL]at ha hb;obtain⟨x,xs',ex,hx,ha⟩:=ha;obtain⟨y,ys',ey,hy,hb⟩:=hb;have gx:xs[i]? =some x:=by
        have:=congrArg (·[0]?) ex;simp at this;exact this
       have gy:ys[i]? =some y:=by
        have:=congrArg (·[0]?) ey;simp at this;exact this
       have dx:xs.toList.drop (i+1)=xs':=by rw[←yj,ex];rfl
       have dy:ys.toList.drop (i+1)=ys':=by rw[←yj,ey];rfl
       simp only[lh]at he;have hp:f.name≠ "_":=hn;simp only[Op.eqFields,hp,ne_eq,not_false_eq_true,if_true,Sem.run_bind,ho,zwR h1 gx,zwR h1 gy,Result.andThen_ok];cases he1:eq1 k u v with
       |none=>rw[he1]at he;simp at he
       | some r1=>
        rw[he1]at he;rw[zv4 h1 d he1 hx hy];cases r1 with
        |true=>
         simp only[]at he;simp only[Result.andThen_ok,Bool.not_true,zJ,if_false];exact Xn d h2 he (dx▸ha) (dy▸hb)
        |false=>
         simp only[]at he;cases he2:lh l a b with
         |none=>rw[he2]at he;simp at he
         |some r2=>rw[he2]at he;simp at he;subst he;simp
theorem wW{x y:Value}{r neg:Bool}(hx:(∀k n,x≠.int k n)∧(∀s,x≠.string s)∧(∀k n,x≠.float k n)∧(∀k n m,x≠.complex k n m))
  (h:(Op.equalIn (9999+1) t x y).run P w=.ok r w):(binOp (bif neg then .neq else .eql) t x y).run P w=.ok (.bool (bif neg then !r else r)) w:=by
 have he:(Op.equal t x y).run P w=.ok r w:=h;obtain⟨h1,h2,h3,h4⟩:=hx;cases neg<;>cases x<;>simp_all [binOp]
section eqIn
variable {P:Program}{w:World}{t:TypeId}(d:Nat)
theorem X6{e:TypeId}(hu:P.underlying t=some (.pointer e))(b:Option Addr):(Op.equalIn (d+1) t (.pointer none) (.pointer b)).run P w=.ok b.isNone w:=by simp[Op.equalIn,xM hu]
theorem J6{e:TypeId}(hu:P.underlying t=some (.pointer e))(a:Addr):(Op.equalIn (d+1) t (.pointer (some a)) (.pointer none)).run P w=.ok false w:=by simp[Op.equalIn,xM hu]
theorem zna{e:TypeId}(hu:P.underlying t=some (.pointer e))(hs:(sizeOf e).run P w=.ok (n+1) w)(b o o':Nat):
  (Op.equalIn (d+1) t (.pointer (some ⟨b,o,none⟩)) (.pointer (some ⟨b,o',none⟩))).run P w=.ok (decide ((⟨b,o,none⟩:Addr)=⟨b,o',none⟩)) w:=by
 have hne:¬(n+1=0):=oM;simp only[Op.equalIn,Sem.run_bind,xM hu,Result.andThen_ok,hs,Sem.run_ite,ne_eq,hne,not_false_eq_true,if_true,sameAddr,beq_self_eq_true,Sem.run_pure];rfl
theorem lC{e:TypeId}(hu:P.underlying t=some (.slice e))(b:Option Addr)(n m k l:Nat):(Op.equalIn (d+1) t (.slice none n m) (.slice b k l)).run P w=.ok b.isNone w:=by simp[Op.equalIn,xM hu]
theorem ZR{e:TypeId}(hu:P.underlying t=some (.slice e))(a:Addr)(n m k l:Nat):(Op.equalIn (d+1) t (.slice (some a) n m) (.slice none k l)).run P w=.ok false w:=by simp[Op.equalIn,xM hu]
theorem J5{k e:TypeId}(hu:P.underlying t=some (.map k e))(b:Option Nat):(Op.equalIn (d+1) t (.map none) (.map b)).run P w=.ok b.isNone w:=by simp[Op.equalIn,xM hu]
theorem zv6{k e:TypeId}(hu:P.underlying t=some (.map k e))(a:Nat):(Op.equalIn (d+1) t (.map (some a)) (.map none)).run P w=.ok false w:=by simp[Op.equalIn,xM hu]
theorem zv7{a b:Array TypeId}{v:Bool}(hu:P.underlying t=some (.func a b v)):(Op.equalIn (d+1) t .nilFunc .nilFunc).run P w=.ok true w:=by simp[Op.equalIn,xM hu]
theorem zyD{a b:Array TypeId}{v:Bool}(hu:P.underlying t=some (.func a b v))(f:Fn)(x y:Array Value):(Op.equalIn (d+1) t .nilFunc (.func f x y)).run P w=.ok false w:=by simp[Op.equalIn,xM hu]
theorem zv5{a b:Array TypeId}{v:Bool}(hu:P.underlying t=some (.func a b v))(f:Fn)(x y:Array Value):(Op.equalIn (d+1) t (.func f x y) .nilFunc).run P w=.ok false w:=by simp[Op.equalIn,xM hu]
theorem zv8{ms:Array (String×TypeId)}(hu:P.underlying t=some (.interface ms)):(Op.equalIn (d+1) t .nilIface .nilIface).run P w=.ok true w:=by simp[Op.equalIn,xM hu]
theorem VO{ms:Array (String×TypeId)}(hu:P.underlying t=some (.interface ms))(u:TypeId)(x:Value):(Op.equalIn (d+1) t .nilIface (.iface u x)).run P w=.ok false w:=by simp[Op.equalIn,xM hu]
theorem J4{ms:Array (String×TypeId)}(hu:P.underlying t=some (.interface ms))(u:TypeId)(x:Value):(Op.equalIn (d+1) t (.iface u x) .nilIface).run P w=.ok false w:=by simp[Op.equalIn,xM hu]
end eqIn
theorem Xx{x:Operand}(h:Region.isConst x=true):∃c,x=.const c:=by
 cases x with
 |const c=>exact⟨c,rfl⟩
 |tmp _=>cases h
 |global _=>cases h
 |func _=>cases h
theorem J7{_w0:World}{ox oy:Operand}{k0:EqK}{a b:AV}{x y:Value}{r neg:Bool}
  (hk:zyE P t=some k0) (h:eqV (jn k0 ox oy) a b=some r) (hx:VR φ a x) (hy:VR φ b y):
  (do eqGuard (bif neg then .neq else .eql) t ox oy x y;binOp (bif neg then .neq else .eql) t x y:Sem Value).run P w=.ok (.bool (bif neg then !r else r)) w:=by
 unfold zyE at hk;split at hk
 ·cases hk;simp[jn,eqV]at h
 ·cases hk;simp[jn,eqV]at h
 · --bool
  rename_i hu;cases hk;simp only[jn,eqV]at h
  split at h
  ·cases h;simp only[VR]at hx hy;subst hx;subst hy;rw[Sem.run_bind,eqGuard_at_bool];exact wW (by simp) (run_equalIn_bool' w _ t _ _ hu)
  ·cases h
 · -- pointers
  rename_i e hu
  split at hk
  ·rename_i n hsz;cases hk;simp only[jn,eqV]at h
   have hs0:(sizeOf e).run P w=.ok (n+1) w:=wO hsz;split at h
   ·cases h;simp only[VR]at hx hy;subst hx;subst hy;rw[Sem.run_bind,eqGuard_at_pointer];exact wW (by simp) (X6 9999 hu none)
   ·cases h;simp only[VR]at hx hy;obtain⟨B,hB,rfl⟩:=hy;subst hx;rw[Sem.run_bind,eqGuard_at_pointer];exact wW (by simp) (X6 9999 hu (some _))
   ·cases h;simp only[VR]at hx hy;obtain⟨B,hB,rfl⟩:=hx;subst hy;rw[Sem.run_bind,eqGuard_at_pointer];exact wW (by simp) (J6 9999 hu _)
   ·cases h;simp only[VR]at hx hy;obtain⟨_,b,o,ys,rfl,_⟩:=hy;subst hx;rw[Sem.run_bind,eqGuard_at_pointer];exact wW (by simp) (X6 9999 hu (some _))
   ·cases h;simp only[VR]at hx hy;obtain⟨_,b,o,ys,rfl,_⟩:=hx;subst hy;rw[Sem.run_bind,eqGuard_at_pointer];exact wW (by simp) (J6 9999 hu _)
   ·rename_i i o i' o'
    cases hb:zb i i' with
    |false=>rw[hb]at h;simp at h
    | true=>
     rw[hb]at h;simp only[cond_true,Option.some.injEq]at h;subst h;rw[we]at hb;subst hb;simp only[VR]at hx hy;obtain⟨B,hB,rfl⟩:=hx;obtain⟨B',hB',rfl⟩:=hy;rw[hB]at hB';cases hB';rw[Sem.run_bind,eqGuard_at_pointer];have e1:zb o o'=decide ((⟨B.b,B.o+o,none⟩:Addr)=⟨B.b,B.o+o',none⟩):=by
      by_cases e:o=o'
      ·subst e;simp
      ·have e':¬((⟨B.b,B.o+o,none⟩:Addr)=⟨B.b,B.o+o',none⟩):=fun h=>e (by have:=congrArg Addr.off h;simp only at this;omega)
       rw[decide_eq_false e',zw,ne_eq,zt];exact e
     rw[e1];exact wW (by simp) (zna 9999 hu hs0 _ _ _)
   ·cases h
  ·cases hk
 · --slices
  rename_i hu;cases hk;simp only[jn,eqV]at h
  split at h
  ·cases h;simp only[VR]at hx hy;subst hx;subst hy;rw[Sem.run_bind,eqGuard_at_slice];exact wW (by simp) (lC 9999 hu none _ _ _ _)
  ·cases h;simp only[VR]at hx hy;subst hx;obtain⟨B,k,hB,rfl,_⟩:=hy;rw[Sem.run_bind,eqGuard_at_slice];exact wW (by simp) (lC 9999 hu (some _) _ _ _ _)
  ·cases h;simp only[VR]at hx hy;subst hy;obtain⟨B,k,hB,rfl,_⟩:=hx;rw[Sem.run_bind,eqGuard_at_slice];exact wW (by simp) (ZR 9999 hu _ _ _ _ _)
  ·cases h;simp only[VR]at hx hy;subst hx;obtain⟨a,k,rfl⟩:=hy;rw[Sem.run_bind,eqGuard_at_slice];exact wW (by simp) (lC 9999 hu (some _) _ _ _ _)
  ·cases h;simp only[VR]at hx hy;subst hy;obtain⟨a,k,rfl⟩:=hx;rw[Sem.run_bind,eqGuard_at_slice];exact wW (by simp) (ZR 9999 hu _ _ _ _ _)
  ·rename_i n ex cs
   cases hb:zb n 0 with
   |true=>rw[hb]at h;simp at h
   |false=>
    rw[hb]at h;simp only[cond_false,Option.some.injEq]at h;subst h;simp only[VR]at hx hy;subst hx;obtain⟨_,⟨rfl,_⟩|⟨b,o,k,ys,rfl,_⟩⟩:=hy
    ·simp at hb
    ·rw[Sem.run_bind,eqGuard_at_slice];exact wW (by simp) (lC 9999 hu (some _) _ _ _ _)
  ·rename_i n ex cs
   cases hb:zb n 0 with
   |true=>rw[hb]at h;simp at h
   |false=>
    rw[hb]at h;simp only[cond_false,Option.some.injEq]at h;subst h;simp only[VR]at hx hy;subst hy;obtain⟨_,⟨rfl,_⟩|⟨b,o,k,ys,rfl,_⟩⟩:=hx
    ·simp at hb
    ·rw[Sem.run_bind,eqGuard_at_slice];exact wW (by simp) (ZR 9999 hu _ _ _ _ _)
  ·cases h;simp only[VR]at hx hy;subst hx;obtain⟨_,_,_,_,B,ys,_,rfl,_⟩:=hy;rw[Sem.run_bind,eqGuard_at_slice];exact wW (by simp) (lC 9999 hu (some _) _ _ _ _)
  ·cases h;simp only[VR]at hx hy;subst hy;obtain⟨_,_,_,_,B,ys,_,rfl,_⟩:=hx;rw[Sem.run_bind,eqGuard_at_slice];exact wW (by simp) (ZR 9999 hu _ _ _ _ _)
  ·cases h
 · --maps
  rename_i hu;cases hk;simp only[jn,eqV]at h
  split at h
  ·cases h;simp only[VR]at hx hy;subst hx;subst hy;rw[Sem.run_bind,eqGuard_at_map];exact wW (by simp) (J5 9999 hu none)
  ·cases h;simp only[VR]at hx hy;subst hx;obtain⟨B,hB,rfl⟩:=hy;rw[Sem.run_bind,eqGuard_at_map];exact wW (by simp) (J5 9999 hu (some _))
  ·cases h;simp only[VR]at hx hy;subst hy;obtain⟨B,hB,rfl⟩:=hx;rw[Sem.run_bind,eqGuard_at_map];exact wW (by simp) (zv6 9999 hu _)
  ·cases h
 · --functions
  rename_i hu;cases hk;simp only[jn,eqV]at h
  split at h
  ·cases h;simp only[VR]at hx hy;subst hx;subst hy;rw[Sem.run_bind,eqGuard_at_nilFunc];exact wW (by simp) (zv7 9999 hu)
  ·cases h;simp only[VR]at hx hy;subst hx;obtain⟨u,v,rfl,_⟩:=hy;rw[Sem.run_bind,eqGuard_at_nilFunc];exact wW (by simp) (zyD 9999 hu _ _ _)
  ·cases h;simp only[VR]at hx hy;subst hy;obtain⟨u,v,rfl,_⟩:=hx;rw[Sem.run_bind,eqGuard_at_func];exact wW (by simp) (zv5 9999 hu _ _ _)
  ·cases h
 · -- interfaces
  rename_i hu;cases hk;simp only[jn]at h
  cases hc:(Region.isConst ox||Region.isConst oy)with
  |false=>
   rw[hc]at h;simp only[cond_false,eqV]at h;split at h
   ·cases h;simp only[VR]at hx hy;subst hx;obtain⟨u,rfl,_⟩:=hy;rw[Sem.run_bind,eqGuard_nil_iface];exact wW (by simp) (VO 9999 hu _ _)
   ·cases h;simp only[VR]at hx hy;subst hy;obtain⟨u,rfl,_⟩:=hx;rw[Sem.run_bind,eqGuard_at_iface];exact wW (by simp) (J4 9999 hu _ _)
   ·cases h
  | true=>
   rw[hc]at h;simp only[cond_true,eqV]at h;split at h
   ·cases h;simp only[VR]at hx hy;subst hx;subst hy;have hg:(eqGuard (bif neg then .neq else .eql) t ox oy .nilIface .nilIface).run P w=.ok () w:=by
     rw[Bool.or_eq_true]at hc;rcases hc with hc|hc
     ·obtain⟨c,rfl⟩:=Xx hc;rw[eqGuard_nil_constL];rfl
     ·obtain⟨c,rfl⟩:=Xx hc;rw[eqGuard_nil_constR];rfl
    rw[Sem.run_bind,hg];exact wW (by simp) (zv8 9999 hu)
   ·cases h;simp only[VR]at hx hy;subst hx;obtain⟨u,rfl,_⟩:=hy;rw[Sem.run_bind,eqGuard_nil_iface];exact wW (by simp) (VO 9999 hu _ _)
   ·cases h;simp only[VR]at hx hy;subst hy;obtain⟨u,rfl,_⟩:=hx;rw[Sem.run_bind,eqGuard_at_iface];exact wW (by simp) (J4 9999 hu _ _)
   ·cases h
 · -- structs
  rename_i fs hu
  split at hk
  ·rename_i ks hks
   cases hc:(!P.eqGuardType P.depth t&& !P.stoodInHeld t)with
   |false=>rw[hc]at hk;simp at hk
   | true=>
    rw[hc]at hk;simp only[cond_true,Option.some.injEq]at hk;subst hk;simp at hc;simp only[jn,eqV]at h;split at h
    ·simp only[VR]at hx hy;obtain⟨xs,rfl,hx⟩:=hx;obtain⟨ys,rfl,hy⟩:=hy;have hf:P.fieldsOf t=fs:=by simp[Program.fieldsOf,hu]
     have hrun:(Op.equalIn (9999+1) t (.agg xs.toArray) (.agg ys.toArray)).run P w=.ok r w:=by
      rw[run_equalIn_struct w 9999 t _ _ (by rw[hf];exact hu) hc.2,hf]
      exact Xn (P:=P) (w:=w) (φ:=φ) 9998 hks h (by simpa using hx) (by simpa using hy)
     rw[Sem.run_bind,run_eqGuard_agg w _ t ox oy _ _ hc.1];exact wW (by simp) hrun
    ·cases h
  ·cases hk
 ·cases hk
theorem QD{s d:TypeId}{u:TypeDesc}{k:IntKind}{x:AV}{x':Value}(hs:P.underlying s=some u)(hd:P.underlying d=some (.int k))(h:vCi k x=some v)(hx:VR φ x x'):
  ∃z,(convert s d x').run P w=.ok z w∧VR φ v z:=by
 unfold vCi at h;split at h
 ·cases h;simp only[VR]at hx;subst hx;refine⟨_,?_,by simp only[VR];rfl⟩
  rw[ky];simp only[convert,Sem.run_bind,xM hs,xM hd,Result.andThen_ok];cases u<;>rfl
 ·cases h
theorem Xh(a b:Nat):ze a b=decide (a≤b):=by
 cases h:ze a b with
 |true=>exact(decide_eq_true (x9.1 h)).symm
 |false=>exact(decide_eq_false (fun h'=>by rw[x9.2 h']at h;cases h)).symm
theorem Xi(a b:Nat):zg a b=decide (a<b):=by
 cases h:zg a b with
 |true=>exact(decide_eq_true (wK.1 h)).symm
 |false=>exact(decide_eq_false (fun h'=>by rw[wK.2 h']at h;cases h)).symm
theorem ztJ(c:Nat):Utf8.valid (zG c)=qT c:=by
 unfold Utf8.valid qT;rw[Int.ofNat_eq_natCast,Xi,Xh,Xh];have e0:decide ((0:Int)≤(c:Int))=true:=decide_eq_true oM;have e1:decide ((c:Int)<0xD800)=decide (c<55296):=decide_eq_decide.2 oM;have e2:decide ((0xE000:Int)≤(c:Int))=decide (57344≤c):=decide_eq_decide.2 oM;have e3:decide ((c:Int)≤0x10FFFF)=decide (c≤1114111):=decide_eq_decide.2 oM;rw[e0,e1,e2,e3,Bool.true_and];cases decide (c<55296)with
 |true=>rw[Bool.true_or,cond_true]
 |false=>rw[Bool.false_or,cond_false]
theorem GD{α:Type}{a b:Nat}{x y:α}:(bif zg a b then x else y)=if a<b then x else y:=by
 cases h:zg a b with
 |true=>rw[if_pos (wK.1 h)];rfl
 |false=>rw[if_neg (fun h'=>by rw[wK.2 h']at h;cases h)];rfl
theorem lW{φ:Phi}:∀(l:List UInt8),VRL φ (ww (l.map (·.toNat))) (l.map fun b=>Value.int .u8 (b.toNat:Int))
 |[]=>VRL.nil φ
 |b::r=>VRL.cons (by simp only[VR];rfl) (lW r)
theorem kc:∀l:List Nat,(ww l).length=l.length
 |[]=>rfl
 |_::r=>by simp[ww,kc r]
theorem lv{φ:Phi}:∀{l:List AV} {b:List Nat} {xs:List Value},uT l=some b→VRL φ l xs→∃us:List UInt8,b=us.map (·.toNat)∧xs=us.map fun u=>Value.int .u8 (u.toNat:Int)
 |[],b,xs,h,hx=>by simp[uT]at h;subst h;simp only[VRL]at hx;subst hx;exact⟨[],rfl,rfl⟩
 | v ::r,b,xs,h,hx=>by
  simp only[uT]at h;split at h
  ·rename_i n
   cases hb:zg n 256 with
   |false=>rw[hb]at h;simp at h
   | true=>
    rw[hb]at h;simp only[cond_true]at h;cases hr:uT r with
    |none=>rw[hr]at h;simp at h
    |some l=>
     rw[hr]at h;simp at h;subst h;simp only[VRL]at hx;obtain⟨y,ys,rfl,h1,h2⟩:=hx;obtain⟨us,rfl,rfl⟩:=lv hr h2;simp only[VR]at h1;subst h1;have hlt:=wK.1 hb;have e:(UInt8.ofNat n).toNat=n:=by simp;omega
     exact⟨UInt8.ofNat n::us,by simp only[zD,e],by simp only[zD,e];rfl⟩
  ·cases h
theorem Wt(s:ByteArray):∀us:List UInt8,(us.foldl (fun(s:ByteArray) u=>s.push u) s).data.toList=s.data.toList++us
 |[]=>by simp
 |u::us=>by rw[ye,Wt];simp[ByteArray.push]
theorem lq{P:Program}{w:World}(g:Value→ByteArray→Sem (ForInStep ByteArray))(hg:∀n r,g (.int .u8 n) r=pure (ForInStep.yield (r.push (UInt8.ofNat n.toNat)))):∀(us:List UInt8) (s:ByteArray),
  (forIn (us.map fun u=>Value.int .u8 (u.toNat:Int)) s g).run P w=.ok (us.foldl (fun(s:ByteArray) u=>s.push u) s) w
 |[],s=>by simp
 |u::us,s=>by
  simp only[zD,List.forIn_cons,ye,hg,Sem.run_bind,Sem.run_pure,Result.andThen_ok];have:UInt8.ofNat ((u.toNat:Int)).toNat=u:=by simp
  rw[this];exact lq g hg us (s.push u)
theorem zvu{st:St}(r:Rel P w0 φ st.get w){s d e:TypeId}{x:AV}{x':Value}(hs:P.underlying s=some (.slice e))(hd:P.underlying d=some .string)(he:P.underlying e=some (.int .u8))
  (h:ztF st x=some v) (hx:VR φ x x'):∃z,(convert s d x').run P w=.ok z w∧VR φ v z:=by
 have core:∀(n k:Nat) (cs:List AV) (b o:Nat),XV (uf (wj n cs))=some v→VR φ (.vp cs) (.pointer (some ⟨b,o,none⟩))→∃z,(convert s d (.slice (some ⟨b,o,none⟩) n k)).run P w=.ok z w∧VR φ v z:=by
  intro n k cs b o h hv;have hl:∃l b,wj n cs=some l∧uT l=some b∧v=.str b:=by
   cases hc:wj n cs with
   |none=>rw[hc]at h;simp[uf,XV]at h
   |some l=>
    rw[hc]at h;simp only[uf]at h;cases hu:uT l with
    |none=>rw[hu]at h;simp[XV]at h
    |some b=>rw[hu]at h;simp[XV]at h;exact⟨l,b,rfl,hu,h.symm⟩
  obtain⟨l,b',hc,hu,rfl⟩:=hl;have hld:vG [] st (.vp cs) n=some l:=hc;obtain⟨a,xs,ea,hlen,hxs,hcell⟩:=vE r (G:=[]) (fun g cs h=>by simp at h) hld hv
  cases ea;obtain⟨us,rfl,rfl⟩:=lv hu hxs;have hrun:=run_loadCells_list (P:=P) w ⟨b,o,none⟩ _ hcell;rw[hlen]at hrun;refine⟨.string (us.foldl (fun(s:ByteArray) u=>s.push u) .empty),?_,by simp only[VR];exact⟨_,rfl,by unfold vo;rw[Wt];rfl⟩⟩
  simp only[convert,Sem.run_bind,xM hs,xM hd,xM he,Result.andThen_ok,Conv.bytesToString,hrun];rw[←yx,lq _ (fun n r=>rfl) us ByteArray.empty];simp
 unfold ztF at h;split at h
 ·cases h;simp only[VR]at hx;subst hx;exact⟨.string .empty,by simp[convert,xM hs,xM hd,xM he,Conv.bytesToString],by simp only[VR];exact⟨_,rfl,rfl⟩⟩
 ·cases h;simp only[VR]at hx;obtain⟨a,k,rfl⟩:=hx;refine⟨.string .empty,?_,by simp only[VR];exact⟨_,rfl,rfl⟩⟩
  simp[convert,xM hs,xM hd,xM he,Conv.bytesToString,loadCells,loadCellsFrom]
 ·rename_i id off n c
  have key:∀cells,(∀l,cut cells off n=some l→vG [] st (.ptr id off) n=some l)→XV (uf (cut cells off n))=some v→∃z,(convert s d x').run P w=.ok z w∧VR φ v z:=by
   intro cells hlc h;have hl:∃l b,cut cells off n=some l∧uT l=some b∧v=.str b:=by
    cases hc:cut cells off n with
    |none=>rw[hc]at h;simp[uf,XV]at h
    |some l=>
     rw[hc]at h;simp only[uf]at h;cases hu:uT l with
     |none=>rw[hu]at h;simp[XV]at h
     |some b=>rw[hu]at h;simp[XV]at h;exact⟨l,b,rfl,hu,h.symm⟩
   obtain⟨l,b,hc,hu,rfl⟩:=hl;simp only[VR]at hx;obtain⟨B,k,hB,rfl,_⟩:=hx;have hld:vG [] st (.ptr id off) n=some l:=hlc l hc;obtain⟨a,xs,ea,hlen,hxs,hcell⟩:=vE r (G:=[]) (fun g cs h=>by simp at h) hld (x:=.pointer (some ⟨B.b,B.o+off,none⟩)) (by simp only[VR];exact⟨B,hB,rfl⟩)
   cases ea;obtain⟨us,rfl,rfl⟩:=lv hu hxs;have hrun:=run_loadCells_list (P:=P) w ⟨B.b,B.o+off,none⟩ _ hcell;rw[hlen]at hrun;refine⟨.string (us.foldl (fun(s:ByteArray) u=>s.push u) .empty),?_,by simp only[VR];exact⟨_,rfl,by unfold vo;rw[Wt];rfl⟩⟩
   simp only[convert,Sem.run_bind,xM hs,xM hd,xM he,Result.andThen_ok,Conv.bytesToString,hrun];rw[←yx,lq _ (fun n r=>rfl) us ByteArray.empty];simp
  split at h
  ·rename_i t cells ext fz hg
   exact key cells (fun l hc=>by simp only[vG,hg];exact hc) h
  ·rename_i cells hg
   exact key cells (fun l hc=>by simp only[vG,hg];exact hc) h
  ·cases h
 ·rename_i n ex cs
  simp only[VR]at hx;obtain⟨hp,⟨rfl,a,rfl⟩|⟨b,o,k,ys,rfl,_,_,hz,hy⟩⟩:=hx
  ·simp only[wj,uf,uT,XV,Option.some.injEq]at h;subst h;refine⟨.string .empty,?_,by simp only[VR];exact⟨_,rfl,rfl⟩⟩
   cases a<;>simp[convert,xM hs,xM hd,xM he,Conv.bytesToString,loadCells,loadCellsFrom]
  ·exact core n k cs b o h (by simp only[VR];exact⟨hp,b,o,ys,rfl,hz,hy⟩)
 ·rename_i id e' n cs
  simp only[VR]at hx;obtain⟨hp,_,_,_,B,ys,_,rfl,_,hz,hy⟩:=hx;exact core n _ cs B.b B.o h (by simp only[VR];exact⟨hp,B.b,B.o,ys,rfl,hz,hy⟩)
 ·cases h
theorem ly{d k:Nat}{i:Option AV}{i':Option Value}(h:bnd d i n=some k)(hi:OR φ i i'):
  (i'=none∧i=none∧k=d)∨∃x,i'=some x∧i≠none∧k≤n∧∀code,(Instr.sliceBound x n code).run P w=.ok k w:=by
 unfold bnd at h;split at h
 ·cases h;simp only[OR]at hi;exact .inl ⟨hi,rfl,rfl⟩
 ·rename_i kk a
  cases hb:ze a n with
  |false=>rw[hb]at h;simp at h
  |true=>
   rw[hb]at h;simp only[cond_true,Option.some.injEq]at h;subst h;simp only[OR]at hi;obtain⟨x,rfl,hx⟩:=hi;simp only[VR]at hx;subst hx;have hle:=x9.1 hb;refine .inr ⟨_,rfl,by simp,hle,fun code=>?_⟩
   have h1:(0:Int)≤zG a∧zG a≤(n:Int):=⟨zP a,Int.ofNat_le.2 hle⟩;simp only[Instr.sliceBound,Sem.run_bind,asIntOf,Sem.run_pure,Result.andThen_ok];rw[if_pos h1];rfl
 ·cases h
theorem qJ{isSlice:Bool}{len cap m h l:Nat}{lo hi mx:Option AV}{lo' hi' mx':Option Value}
  (hm:bnd cap mx cap=some m) (hh:bnd len hi m=some h) (hl:bnd 0 lo h=some l) (rl:OR φ lo lo') (rh:OR φ hi hi') (rm:OR φ mx mx') (hmh:mx=none∨hi≠none):
  (Instr.sliceBounds isSlice len cap lo' hi' mx').run P w=.ok (l,h,m) w:=by
 rcases ly (P:=P) (w:=w) hm rm with ⟨rfl,rfl,rfl⟩|⟨xm,rfl,nm,_,em⟩
 ·rcases ly (P:=P) (w:=w) hh rh with ⟨rfl,rfl,rfl⟩|⟨xh,rfl,nh,_,eh⟩<;>
   rcases ly (P:=P) (w:=w) hl rl with ⟨rfl,rfl,rfl⟩|⟨xl,rfl,nl,_,el⟩<;>simp[Instr.sliceBounds, *]
 ·rcases ly (P:=P) (w:=w) hh rh with ⟨rfl,rfl,rfl⟩|⟨xh,rfl,nh,_,eh⟩
  ·rcases hmh with e|e
   ·exact absurd e nm
   ·exact absurd rfl e
  ·rcases ly (P:=P) (w:=w) hl rl with ⟨rfl,rfl,rfl⟩|⟨xl,rfl,nl,_,el⟩<;>simp[Instr.sliceBounds, *]
theorem kz{d k:Nat}{i:Option AV}(h:bnd d i n=some k)(hd:d≤n):k≤n:=by
 unfold bnd at h;split at h
 ·cases h;exact hd
 ·rename_i kk a
  cases hb:ze a n with
  |false=>rw[hb]at h;simp at h
  |true=>rw[hb]at h;simp only[cond_true,Option.some.injEq]at h;subst h;exact x9.1 hb
 ·cases h
theorem lS:∀(n:Nat) (l:List Nat),UN n l=l.take n
 |0,l=>by simp[UN]
 |n+1,[]=>by simp[UN]
 |n+1,v::r=>by simp[UN,lS n r]
theorem gg:∀(n:Nat) (l:List Nat),JT n l=l.drop n
 |0,l=>rfl
 |n+1,[]=>by simp[JT]
 |n+1,v::r=>by simp[JT,gg n r]
theorem zwd:∀(l:List Nat) (n:Nat),zuy l n=l[n]?
 |[],_=>rfl
 |v::_,0=>rfl
 |_::r,n+1=>by simp[zuy,zwd r n]
theorem Hl(s:ByteArray)(l h:Nat):vo (s.extract l h)=((vo s).drop l).take (h-l):=by
 simp[vo,List.map_drop,List.map_take]
theorem PF(s:ByteArray)(i:Nat):(vo s)[i]? =(s[i]?).map (·.toNat):=by
 unfold vo;rw[List.getElem?_map];by_cases h:i<s.size
 ·rw[ByteArray.getElem?_lt' s i h];have:s.data.toList[i]? =some s[i]:=by rw[zC];exact zO h
  rw[this]
 ·rw[ByteArray.getElem?_ge' s i h];have:s.data.toList[i]? =none:=by rw[zC];exact Array.getElem?_eq_none (by have:s.data.size=s.size:=rfl;omega)
  rw[this]
theorem pQ{d n' k:Nat}{i:Option AV}(h:bnd d i n=some k)(hn:n≤n'):bnd d i n'=some k:=by
 unfold bnd at h⊢;split at h
 ·exact h
 ·rename_i kk a
  cases hb:ze a n with
  |false=>rw[hb]at h;simp at h
  |true=>rw[hb]at h;rw[x9.2 (Nat.le_trans (x9.1 hb) hn)];exact h
 ·cases h
theorem uK(d:Nat)(v:AV)(n:Nat):bnd d (some v) n=bnd 0 (some v) n:=by
 unfold bnd;split<;>simp_all
theorem zta{x:AV}{x':Value}{lo hi:Option AV}{lo' hi':Option Value}(hu:P.underlying t=some .string)(h:zzA x lo hi=some v)(hx:VR φ x x')(rl:OR φ lo lo')(rh:OR φ hi hi'):
  ∃z,(Instr.sliceAt t x' lo' hi' none).run P w=.ok z w∧VR φ v z:=by
 unfold zzA at h;split at h
 ·rename_i l0
  simp only[VR]at hx;obtain⟨s,rfl,rfl⟩:=hx;rw[wV,qp]at h;cases hh:bnd s.size hi s.size with
  |none=>rw[hh]at h;simp at h
  | some h1=>
   rw[hh]at h;simp only at h;cases hl:bnd 0 lo h1 with
   |none=>rw[hl]at h;simp at h
   |some l1=>
    rw[hl]at h;simp only[Option.some.injEq]at h;subst h;have hb:=qJ (P:=P) (w:=w) (φ:=φ) (isSlice:=false) (len:=s.size) (cap:=s.size) (mx:=none) (mx':=none) (m:=s.size) rfl hh hl rl rh rfl (.inl rfl);refine⟨.string (s.extract l1 h1),?_,?_⟩
    ·simp[Instr.sliceAt,Instr.slice,xM hu,hb]
    ·simp only[VR];exact⟨_,rfl,by rw[Hl,lS,gg];rfl⟩
 ·cases h
theorem zvN{t off e l:Nat}(_he:0<e)(hl:l≤(t-off)/e):(t-(off+l*e))/e=(t-off)/e-l∧(off≤t→off+l*e≤t):=by
 have h1:l*e≤t-off:=Nat.le_trans (Nat.mul_le_mul_right e hl) (Nat.div_mul_le_self _ _);refine⟨?_,fun h=>oM⟩;rw[Nat.sub_add_eq];have:=Nat.sub_mul_div (t-off) e l;rw[yy]at this;exact this
theorem U0{off m len h1 l1:Nat}{lo hi:Option AV}{B:Blk}(hB:φ id=some B)(h:ztG id off esz m len lo hi=some v)(hh:bnd len hi m=some h1)(hl:bnd 0 lo h1=some l1):
  VR φ v (.slice (some (if m=l1 then (⟨B.b,B.o+off,none⟩:Addr)else ⟨B.b,B.o+off+l1*esz,none⟩)) (h1-l1) (m-l1)):=by
 unfold ztG at h;rw[hh]at h;simp only at h;rw[hl]at h;simp only[Option.some.injEq]at h;subst h;simp only[VR];refine⟨B,m-l1,hB,?_,rfl⟩;by_cases e:m=l1
 ·subst e;simp
 ·rw[if_neg e];have:zb m l1=false:=by rw[zw,ne_eq,zt];exact e
  rw[this];show _=Value.slice (some ⟨B.b,B.o+(off+l1*esz),none⟩) (h1-l1) (m-l1);rw[zN]
theorem Gs{off m len:Nat}{lo hi:Option AV}(h:ztG id off esz m len lo hi=some v):∃h1 l1,bnd len hi m=some h1∧bnd 0 lo h1=some l1:=by
 unfold ztG at h;cases hh:bnd len hi m with
 |none=>rw[hh]at h;simp at h
 |some h1=>
  rw[hh]at h;simp only at h;cases hl:bnd 0 lo h1 with
  |none=>rw[hl]at h;simp at h
  |some l1=>exact⟨h1,l1,rfl,hl⟩
theorem qw{e:TypeId}{a:Option Addr}{len cap l h m:Nat}{lo' hi' mx':Option Value}(hu:P.underlying t=some (.slice e))(hs:vT P e=some n)
  (hb:(Instr.sliceBounds true len cap lo' hi' mx').run P w=.ok (l,h,m) w):
  (Instr.sliceAt t (.slice a len cap) lo' hi' mx').run P w=.ok (.slice (if m=l then a else a.map (·.add (l*n))) (h-l) (m-l)) w:=by
 simp[Instr.sliceAt,Instr.slice,xM hu,hb,wO hs]
theorem zzf{cs:List AV}{b o l h m:Nat}{ex:Bool}{ys:List Value}(hp:xY cs=true)(hz:ZC φ b o ys)(hy:VRL φ cs ys)(hl:l≤h)(hm:h≤m)(hx:ex=true→m=h):
  VR φ (.lst (Nat.sub h l) ex (tkN (zc (Nat.sub h l) esz) (wH (zc l esz) cs))) (.slice (if m=l then some ⟨b,o,none⟩else (some (⟨b,o,none⟩:Addr)).map (·.add (l*esz))) (h-l) (m-l)):=by
 rw[US,wY];simp only[VR];refine⟨pl _ (gD _ hp),.inr ?_⟩;by_cases e:m=l
 ·have:h=l:=oM;subst this;refine⟨b,o,m-h,[],by rw[if_pos e];rfl,fun h'=>?_,?_,trivial,?_⟩
  ·show m-h=h-h;have:=hx h';omega
  ·show h-h≤m-h;omega
  ·have e0:zc (Nat.sub h h) esz=0:=by show (h-h)*esz=0;rw[yz,Nat.zero_mul]
   rw[e0,List.take_zero];exact VRL.nil φ
 ·refine⟨b,o+l*esz,m-l,(ys.drop (l*esz)).take ((h-l)*esz),by rw[if_neg e,yg,qX];rfl,fun h'=>?_,?_,(hz.drop _).take _,(hy.drop _).take _⟩
  ·show m-l=h-l;have:=hx h';omega
  ·show h-l≤m-l;omega
theorem Gi{e:TypeId}{ex:Bool}{cs:List AV}{x':Value}{lo hi mx:Option AV}{lo' hi' mx':Option Value}(hu:P.underlying t=some (.slice e))(hs:vT P e=some esz)
  (h:zxC esz n ex cs lo hi mx=some v) (hx:VR φ (.lst n ex cs) x') (rl:OR φ lo lo') (rh:OR φ hi hi') (rm:OR φ mx mx') (hmh:mx=none∨hi≠none):
  ∃z,(Instr.sliceAt t x' lo' hi' mx').run P w=.ok z w∧VR φ v z:=by
 unfold zxC at h;simp only[VR]at hx;obtain⟨hp,hx⟩:=hx;split at h
 ·simp only[OR]at rm;subst rm;cases hh:bnd n hi n with
  |none=>rw[hh]at h;simp at h
  | some h1=>
   rw[hh]at h;simp only at h;cases hl:bnd 0 lo h1 with
   |none=>rw[hl]at h;simp at h
   |some l1=>
    rw[hl]at h;simp only[Option.some.injEq]at h;subst h;have h1le:=kz hh (zu _);have l1le:=kz hl (zQ _);rcases hx with ⟨rfl,a,rfl⟩|⟨b,o,k,ys,rfl,hex,hnk,hz,hy⟩
    ·obtain rfl:h1=0:=oM;obtain rfl:l1=0:=oM;have hb:=qJ (P:=P) (w:=w) (φ:=φ) (isSlice:=true) (len:=0) (cap:=0) (mx:=none) (mx':=none) (m:=0) rfl hh hl rl rh rfl (.inl rfl);refine⟨_,qw hu hs hb,?_⟩;simp only[VR];refine⟨?_,.inl ⟨trivial,_,rfl⟩⟩;rw[US,wY];exact pl _ (gD _ hp)
    ·have hb:=qJ (P:=P) (w:=w) (φ:=φ) (isSlice:=true) (len:=n) (cap:=k) (mx:=none) (mx':=none) (m:=k) rfl (pQ hh hnk) hl rl rh rfl (.inl rfl);refine⟨_,qw hu hs hb,zzf hp hz hy l1le oM fun he=>?_⟩;rw[zq,we]at he;have:=hex he.1;omega
 ·rename_i m0
  cases hm:bnd n (some m0) n with
  |none=>rw[hm]at h;simp at h
  | some m=>
   rw[hm]at h;simp only at h;cases hh:bnd n hi m with
   |none=>rw[hh]at h;simp at h
   | some h1=>
    rw[hh]at h;simp only at h;cases hl:bnd 0 lo h1 with
    |none=>rw[hl]at h;simp at h
    | some l1=>
     rw [hl]at h;simp only[Option.some.injEq]at h;subst h;have mle:=kz hm (zu _);have l1le:=kz hl (zQ _);have h1le:h1≤m:=by
      rcases hmh with e|e
      ·cases e
      ·cases hi with
       |none=>exact absurd rfl e
       |some hv=>
        have e1:=(uK 0 hv m).trans ((uK n hv m).symm.trans hh);exact kz e1 (zQ _)
     rcases hx with ⟨rfl,a,rfl⟩|⟨b,o,k,ys,rfl,hex,hnk,hz,hy⟩
     ·obtain rfl:m=0:=oM;obtain rfl:h1=0:=oM;obtain rfl:l1=0:=oM;have hb:=qJ (P:=P) (w:=w) (φ:=φ) (isSlice:=true) (len:=0) (cap:=0) hm hh hl rl rh rm hmh;refine⟨_,qw hu hs hb,?_⟩;simp only[VR];refine⟨?_,.inl ⟨trivial,_,rfl⟩⟩;rw[US,wY];exact pl _ (gD _ hp)
     ·have hm':bnd k (some m0) k=some m:=(uK k m0 k).trans ((uK n m0 k).symm.trans (pQ hm hnk));have hb:=qJ (P:=P) (w:=w) (φ:=φ) (isSlice:=true) (len:=n) (cap:=k) hm' hh hl rl rh rm hmh;refine⟨_,qw hu hs hb,zzf hp hz hy l1le h1le fun he=>?_⟩;rw[we]at he;omega
theorem ztc{e:TypeId}{x:AV}{x':Value}{lo hi mx:Option AV}{lo' hi' mx':Option Value}(hu:P.underlying t=some (.slice e))(hs:vT P e=some n)
  (h:QG n x lo hi mx=some v) (hx:VR φ x x') (rl:OR φ lo lo') (rh:OR φ hi hi') (rm:OR φ mx mx') (hmh:mx=none∨hi≠none):
  ∃z,(Instr.sliceAt t x' lo' hi' mx').run P w=.ok z w∧VR φ v z:=by
 unfold QG at h;split at h
 · -- nil
  simp only[VR]at hx;subst hx;cases hm:bnd 0 mx 0 with
  |none=>rw[hm]at h;simp at h
  | some m=>
   rw[hm]at h;simp only at h;cases hh:bnd 0 hi 0 with
   |none=>rw[hh]at h;simp at h
   | some h1=>
    rw[hh]at h;simp only at h;cases hl:bnd 0 lo 0 with
    |none=>rw[hl]at h;simp at h
    |some l1=>
     rw[hl]at h;simp only[Option.some.injEq]at h;subst h;have m0:=kz hm (zu _);have h0:=kz hh (zu _);have l0:=kz hl (zu _);obtain rfl:m=0:=oM;obtain rfl:h1=0:=oM;obtain rfl:l1=0:=oM;have hb:=qJ (P:=P) (w:=w) (φ:=φ) (isSlice:=true) (len:=0) (cap:=0) hm hh hl rl rh rm hmh;exact⟨_,qw hu hs hb,by simp[VR]⟩
 · -- empty
  simp only[VR]at hx;obtain⟨a,k,rfl⟩:=hx;split at h
  ·simp only[OR]at rm;subst rm;cases hh:bnd 0 hi 0 with
   |none=>rw[hh]at h;simp at h
   | some h1=>
    rw[hh]at h;simp only at h;cases hl:bnd 0 lo 0 with
    |none=>rw[hl]at h;simp at h
    |some l1=>
     rw[hl]at h;simp only[Option.some.injEq]at h;subst h;have h0:=kz hh (zu _);have l0:=kz hl (zu _);obtain rfl:h1=0:=oM;obtain rfl:l1=0:=oM;have hb:=qJ (P:=P) (w:=w) (φ:=φ) (isSlice:=true) (len:=0) (cap:=k) (mx:=none) (mx':=none) (m:=k) rfl (pQ hh (zQ _)) hl rl rh rfl (.inl rfl);refine⟨_,qw hu hs hb,?_⟩;simp only[VR];refine⟨a,k,?_⟩;by_cases e0:k=0
     ·simp[e0]
     ·simp[e0,Addr.add]
  ·cases h
 ·rename_i id off len c
  split at h
  · --a fixed capacity
   rename_i cp
   simp only[VR]at hx;obtain⟨B,k,hB,rfl,rfl⟩:=hx;cases hm:bnd k mx k with
   |none=>rw[hm]at h;simp at h
   |some m=>
    rw[hm]at h;simp only at h;obtain⟨h1,l1,hh,hl⟩:=Gs h;have hb:=qJ (P:=P) (w:=w) (φ:=φ) (isSlice:=true) (len:=len) (cap:=k) hm hh hl rl rh rm hmh;refine⟨_,qw hu hs hb,?_⟩;have:=U0 hB h hh hl;by_cases e0:m=l1
    ·rw[if_pos e0]at this⊢;exact this
    ·rw[if_neg e0]at this⊢;simpa [qX]using this
  · -- an open one
   rename_i e'
   cases he:zb e' n with
   |false=>rw[he]at h;simp at h
   | true =>
    rw[he]at h;simp only[cond_true]at h;rw[we]at he;subst he;simp only[VR]at hx;obtain⟨B,k,hB,rfl,hpos,hk,hlen,hoff⟩:=hx;split at h
    · -- without max
     simp only[OR]at rm;subst rm;cases hh:bnd len hi len with
     |none=>rw[hh]at h;simp at h
     | some h1=>
      rw[hh]at h;simp only at h;cases hl:bnd 0 lo h1 with
      |none=>rw[hl]at h;simp at h
      | some l1=>
       rw[hl]at h;simp only at h;have h1le:=kz hh (zu _);have l1le:=kz hl (zQ _);have hb:=qJ (P:=P) (w:=w) (φ:=φ) (isSlice:=true) (len:=len) (cap:=k) (mx:=none) (mx':=none) (m:=k) rfl (pQ hh hlen) hl rl rh rfl (.inl rfl);refine⟨_,qw hu hs hb,?_⟩;cases hb0:zb l1 0 with
       |true=>
        rw[hb0]at h;simp only[cond_true,Option.some.injEq]at h;subst h;rw[we]at hb0;subst hb0;simp only[VR];refine⟨B,k,hB,?_,hpos,hk,oM,hoff⟩;by_cases e0:k=0
        ·simp[e0]
        ·simp[e0,qX]
       | false=>
        rw[hb0]at h;simp only[cond_false]at h;cases hb1:zg l1 len with
        |true=>
         rw[hb1]at h;simp only[cond_true,Option.some.injEq]at h;subst h;have hlt:=wK.1 hb1;obtain⟨ar1,ar2⟩:=zvN (t:=B.tot) (off:=off) (l:=l1) hpos oM;simp only[VR];refine⟨B,k-l1,hB,?_,hpos,?_,?_,?_⟩
         ·rw[if_neg oM];simp only[yg,qX];show Value.slice (some ⟨B.b,B.o+off+l1*e',none⟩) (h1-l1) (k-l1)=.slice (some ⟨B.b,B.o+(off+l1*e'),none⟩) (h1-l1) (k-l1);rw[zN]
         ·show k-l1=(B.tot-(off+l1*e'))/e';rw[ar1,hk]
         ·show h1-l1≤k-l1;omega
         ·exact ar2 hoff
        | false=>
         rw[hb1]at h;simp only[cond_false]at h;cases hb2:zb h1 l1 with
         |false=>rw[hb2]at h;simp at h
         |true=>
          rw[hb2]at h;simp only[cond_true,Option.some.injEq]at h;subst h;rw[we]at hb2;subst hb2;simp only[VR];by_cases e0:k=h1
          ·exact⟨⟨B.b,B.o+off,none⟩,k-h1,by rw[if_pos e0,yz]⟩
          ·exact⟨(⟨B.b,B.o+off,none⟩:Addr).add (h1*e'),k-h1,by rw[if_neg e0,yz];rfl⟩
    · --with max
     rename_i mxv
     cases hm:bnd len (some mxv) len with
     |none=>rw[hm]at h;simp at h
     |some m=>
      rw[hm]at h;simp only at h;obtain⟨h1,l1,hh,hl⟩:=Gs h;have hm':bnd k (some mxv) k=some m:=(uK k mxv k).trans ((uK len mxv k).symm.trans (pQ hm hlen));have hb:=qJ (P:=P) (w:=w) (φ:=φ) (isSlice:=true) (len:=len) (cap:=k) hm' hh hl rl rh rm hmh;refine⟨_,qw hu hs hb,?_⟩;have:=U0 hB h hh hl;by_cases e0:m=l1
      ·rw[if_pos e0]at this⊢;exact this
      ·rw[if_neg e0]at this⊢;simpa [qX]using this
 ·exact Gi hu hs h hx rl rh rm hmh
 ·rename_i id e' n' cs
  cases he:zb e' n with
  |false=>rw[he]at h;simp at h
  |true=>rw[he]at h;simp only[cond_true]at h;exact Gi hu hs h hx.gr_lst rl rh rm hmh
 ·cases h
theorem zry{s:TypeId}{fs:Array Field}{f:Nat}{fl:Field}{x:AV}{x':Value}(hu:P.underlying s=some (.struct fs))(hf:fs[f]? =some fl)(hs:vT P fl.type=some (n+1))
  (h:vFa fl.offset x=some v) (hx:VR φ x x'):∃z,(Instr.fieldAt s x' f).run P w=.ok z w∧VR φ v z:=by
 have hp:∀a:Addr,(fieldPlace a fl).run P w=.ok (a.add fl.offset) w:=fun a=>by
  simp[fieldPlace,wO hs]
 unfold vFa at h;split at h
 ·cases h;simp only[VR]at hx;obtain⟨B,hB,rfl⟩:=hx;refine⟨_,by simp[Instr.fieldAt,xM hu,hf,Instr.sureAddr,hp];rfl,?_⟩
  simp only[VR];exact⟨B,hB,by rw[qX,zN];rfl⟩
 ·cases h;simp only[VR]at hx;subst hx;refine⟨_,by simp[Instr.fieldAt,xM hu,hf,Instr.sureAddr,hp];rfl,?_⟩
  simp only[VR];rw[qX];rfl
 ·rename_i cs
  cases h;simp only[VR]at hx;obtain⟨hp',b,o,ys,rfl,hz,hy⟩:=hx;exact⟨_,by simp[Instr.fieldAt,xM hu,hf,Instr.sureAddr,hp];rfl,by rw[qX];exact VR.vp_drop hp' hz hy _⟩
 ·cases h
theorem YG{l:List AV}(h:Zi l=some v):l[0]? =some v:=by cases l<;>simp[Zi]at h⊢;exact h
theorem zpl{off:Nat}{cs l:List AV}{xs:List Value}(ha:U6 P t=some true)(hs:vT P t=some n)(hc:cut cs off n=some l)(hx:VRL φ cs xs):
  ∃z,(part t xs.toArray off).run P w=.ok z w∧VR φ (.agg l) z:=by
 obtain⟨h1,h2,rfl⟩:=cut_some hc;refine⟨.agg (xs.toArray.extract off (off+n)),by simp only[part,Sem.run_bind,pp ha,Result.andThen_ok,if_true,wO hs,Sem.run_pure],?_⟩
 simp only[VR];refine⟨(xs.drop off).take n,?_,(hx.drop off).take n⟩
 congr 1
 apply Array.ext';simp
theorem zpm{off:Nat}{cs:List AV}{xs:List Value}(ha:U6 P t=some false)(hc:Zi (wH off cs)=some v)(hx:VRL φ cs xs):
  ∃z,(part t xs.toArray off).run P w=.ok z w∧VR φ v z:=by
 have h0:=YG hc;rw[wY,zE]at h0;obtain⟨y,h1,h2⟩:=hx.get h0;have h1':xs[off]? =some y:=by simpa using h1
 exact⟨y,by simp[part,pp ha,h1'],h2⟩
theorem zjD{fs:Array Field}{f:Nat}{fl:Field}{x:AV}{x':Value}{no:Option Nat}(hu:P.underlying t=some (.struct fs))(hf:fs[f]? =some fl)
  (hn:match no with|some n=>U6 P fl.type=some true∧vT P fl.type=some n|none=>U6 P fl.type=some false)
  (h:vFd fl.offset no x=some v) (hx:VR φ x x'):∃z,(Instr.field t x' f).run P w=.ok z w∧VR φ v z:=by
 unfold vFd at h;split at h
 ·rename_i cs
  simp only[VR]at hx;obtain⟨xs,rfl,hx⟩:=hx;cases no with
  |none=>
   simp only at h hn;obtain⟨z,h1,h2⟩:=zpm (P:=P) (w:=w) hn h hx;exact⟨z,by simp only[Instr.field,Sem.run_bind,xM hu,Result.andThen_ok,hf,asAgg,Sem.run_pure];exact h1,h2⟩
  | some n=>
   simp only at h hn;cases hc:cut cs fl.offset n with
   |none=>rw[hc]at h;simp[Y5]at h
   |some l=>
    rw[hc]at h;simp[Y5]at h;subst h;obtain⟨z,h1,h2⟩:=zpl (P:=P) (w:=w) hn.1 hn.2 hc hx;exact⟨z,by simp only[Instr.field,Sem.run_bind,xM hu,Result.andThen_ok,hf,asAgg,Sem.run_pure];exact h1,h2⟩
 ·cases h
theorem lF{i:AV}{i':Value}{k:Nat}(h:idx i n=some k)(hi:VR φ i i'):∃kk,i'=.int kk (k:Int)∧k<n:=by
 unfold idx at h;split at h
 ·rename_i kk a
  cases hb:zg a n with
  |false=>rw[hb]at h;simp at h
  |true=>
   rw[hb]at h;simp only[cond_true,Option.some.injEq]at h;subst h;simp only[VR]at hi;subst hi;exact⟨kk,rfl,wK.1 hb⟩
 ·cases h
theorem zqc{e:TypeId}{x i:AV}{x' i':Value}(hu:P.underlying t=some (.slice e))(hs:vT P e=some n)
  (h:vIa n x i=some v) (hx:VR φ x x') (hi:VR φ i i'):∃z,(Instr.indexAt t x' i').run P w=.ok z w∧VR φ v z:=by
 have core:∀(len:Nat) (ex:Bool) (cs:List AV),(match idx i len with|some k=>some (AV.vp (wH (zc k n) cs))|none=>none)=some v→VR φ (.lst len ex cs) x'→∃z,(Instr.indexAt t x' i').run P w=.ok z w∧VR φ v z:=by
  intro len ex cs h hx;cases hk:idx i len with
  |none=>rw[hk]at h;simp at h
  |some k=>
   rw[hk]at h;simp only[Option.some.injEq]at h;subst h;obtain⟨kk,rfl,hlt⟩:=lF hk hi;simp only[VR]at hx;obtain⟨hp,⟨rfl,_⟩|⟨b,o,cp,ys,rfl,_,_,hz,hy⟩⟩:=hx
   ·omega
   ·have hlt':(0:Int)≤(k:Int)∧(k:Int)<(len:Int):=⟨oM,oM⟩;refine⟨_,?_,VR.vp_drop hp hz hy (k*n)⟩;simp only[Instr.indexAt,Sem.run_bind,asIntOf,Sem.run_pure,Result.andThen_ok,xM hu];rw[if_pos hlt'];simp only[Sem.run_bind,wO hs,Result.andThen_ok,Sem.run_pure,qX,zI]
 unfold vIa at h;split at h
 ·rename_i id off len c
  cases hk:idx i len with
  |none=>rw[hk]at h;simp at h
  |some k=>
   rw[hk]at h;simp only[Option.some.injEq]at h;subst h;obtain⟨kk,rfl,hlt⟩:=lF hk hi;simp only[VR]at hx;obtain⟨B,cp,hB,rfl,_⟩:=hx;have hlt':(0:Int)≤(k:Int)∧(k:Int)<(len:Int):=⟨oM,oM⟩;refine⟨_,?_,by simp only[VR];exact⟨B,hB,rfl⟩⟩
   simp only[Instr.indexAt,Sem.run_bind,asIntOf,Sem.run_pure,Result.andThen_ok,xM hu];rw[if_pos hlt'];simp only[Sem.run_bind,wO hs,Result.andThen_ok,Sem.run_pure,qX,zI];show Result.ok (Value.pointer (some ⟨B.b,B.o+off+k*n,none⟩)) w=.ok (.pointer (some ⟨B.b,B.o+(off+k*n),none⟩)) w;rw[zN]
 ·rename_i len ex cs
  exact core len ex cs h hx
 ·rename_i id e' len cs
  cases he:zb e' n with
  |false=>rw[he]at h;simp at h
  |true=>rw[he]at h;simp only[cond_true]at h;exact core len false cs h hx.gr_lst
 ·cases h
theorem zuA{e:TypeId}{N:Nat}{x i:AV}{x' i':Value}(hu:P.underlying t=some (.array N e))(hs:vT P e=some n)
  (h:zzy N n x i=some v) (hx:VR φ x x') (hi:VR φ i i'):∃z,(Instr.indexAt t x' i').run P w=.ok z w∧VR φ v z:=by
 unfold zzy at h;split at h
 ·rename_i id off
  cases hk:idx i N with
  |none=>rw[hk]at h;simp at h
  |some k=>
   rw[hk]at h;simp only[Option.some.injEq]at h;subst h;obtain⟨kk,rfl,hlt⟩:=lF hk hi;simp only[VR]at hx;obtain⟨B,hB,rfl⟩:=hx;have hlt':(0:Int)≤(k:Int)∧(k:Int)<(N:Int):=⟨oM,oM⟩;refine⟨_,?_,by simp only[VR];exact⟨B,hB,rfl⟩⟩
   simp only[Instr.indexAt,Sem.run_bind,asIntOf,Sem.run_pure,Result.andThen_ok,xM hu,Instr.sureAddr];rw[if_pos hlt'];simp only[Sem.run_bind,wO hs,Result.andThen_ok,Sem.run_pure,qX,zI];show Result.ok (Value.pointer (some ⟨B.b,B.o+off+k*n,none⟩)) w=.ok (.pointer (some ⟨B.b,B.o+(off+k*n),none⟩)) w;rw[zN]
 ·rename_i g off
  cases hk:idx i N with
  |none=>rw[hk]at h;simp at h
  |some k=>
   rw[hk]at h;simp only[Option.some.injEq]at h;subst h;obtain⟨kk,rfl,hlt⟩:=lF hk hi;simp only[VR]at hx;subst hx;have hlt':(0:Int)≤(k:Int)∧(k:Int)<(N:Int):=⟨oM,oM⟩;refine⟨_,?_,by simp only[VR];rfl⟩
   simp only[Instr.indexAt,Sem.run_bind,asIntOf,Sem.run_pure,Result.andThen_ok,xM hu,Instr.sureAddr];rw[if_pos hlt'];simp only[Sem.run_bind,wO hs,Result.andThen_ok,Sem.run_pure,qX,zI];rfl
 ·rename_i cs
  cases hk:idx i N with
  |none=>rw[hk]at h;simp at h
  |some k=>
   rw[hk]at h;simp only[Option.some.injEq]at h;subst h;obtain⟨kk,rfl,hlt⟩:=lF hk hi;simp only[VR]at hx;obtain⟨hp,b,o,ys,rfl,hz,hy⟩:=hx;have hlt':(0:Int)≤(k:Int)∧(k:Int)<(N:Int):=⟨oM,oM⟩;refine⟨_,?_,VR.vp_drop hp hz hy (k*n)⟩;simp only[Instr.indexAt,Sem.run_bind,asIntOf,Sem.run_pure,Result.andThen_ok,xM hu,Instr.sureAddr];rw[if_pos hlt'];simp only[Sem.run_bind,wO hs,Result.andThen_ok,Sem.run_pure,qX,zI]
 ·cases h
theorem zuD{x i:AV}{x' i':Value}(hu:P.underlying t=some .string)(h:zoq x i=some v)(hx:VR φ x x')(hi:VR φ i i'):
  ∃z,(Instr.index t x' i').run P w=.ok z w∧VR φ v z:=by
 unfold zoq at h;split at h
 ·split at h
  ·rename_i k n
   simp only[VR]at hx hi;obtain⟨s,rfl,rfl⟩:=hx;subst hi;rw[zwd,PF]at h;cases hg:s[n]? with
   |none=>rw[hg]at h;simp[H3]at h
   |some b=>
    rw[hg]at h;simp[H3]at h;subst h;refine⟨_,?_,by simp only[VR];rfl⟩
    have h0:(0:Int)≤zG n:=zP n;simp only[Instr.index,Sem.run_bind,asIntOf,Sem.run_pure,Result.andThen_ok,xM hu];rw[if_pos h0];have:s[(zG n).toNat]? =some b:=hg;rw[this];rfl
  ·cases h
 ·cases h
theorem zrx{i:Nat}{x:AV}{x':Value}(h:vEx x i=some v)(hx:VR φ x x'):∃z,(Instr.extract x' i).run P w=.ok z w∧VR φ v z:=by
 unfold vEx at h;split at h
 ·simp only[VR]at hx;obtain⟨xs,rfl,hx⟩:=hx;have h0:=YG h;rw[wY,zE]at h0;obtain⟨y,h1,h2⟩:=hx.get h0;have h1':xs[i]? =some y:=by simpa using h1
  exact⟨y,by simp[Instr.extract,h1'],h2⟩
 ·cases h
theorem qh{b:Nat}{o:Obj}(h:w.heap[b]? =some o)(hc:∀c e f,o≠.cells c e f):(getObj b).run P w=.ok o w:=by
 simp only[getObj,Sem.run,h]
theorem qZ{b:Nat}{o:Obj}(o':Obj)(h:w.heap[b]? =some o)(hc:∀c e f,o≠.cells c e f):(setObj b o').run P w=.ok () {w with heap:=w.heap.setIfInBounds b o'}:=by
 simp only[setObj,Sem.run,h]
theorem gE{b:Nat}{o o':Obj}(h:w.heap[b]? =some o):(w.heap.setIfInBounds b o')[b]? =some o':=by
 have:b<w.heap.size:=(Array.getElem?_eq_some_iff.1 h).1;simp[this]
theorem zk5{b k:Nat}{o':Obj}(h:k≠b):(w.heap.setIfInBounds b o')[k]? =w.heap[k]? :=by
 rw[Array.getElem?_setIfInBounds_ne (Ne.symm h)]
theorem Step.setObj(r:Rel P w0 φ s.get w){o':AObj}{B:Blk}{x x':Obj}(hg:s.get id=some o)(hB:φ id=some B)(_hx:w.heap[B.b]? =some x)
  (ho:ObjRel P φ {w with heap:=w.heap.setIfInBounds B.b x'} o' B) (hng:qO o=false:=by rfl) (hna:Ky o=false:=by rfl):Step P w0 φ s w φ (s.put id o') {w with heap:=w.heap.setIfInBounds B.b x'}:=
 Step.put r hg hB (fun b hb=>zk5 hb) (by simp) rfl rfl rfl ho hng hna
def FK.desc(f:FK)(d:TypeDesc):Prop:=
 match f with
 |.i=>∃k,d=.int k
 |.s=>d=.string
 |.b=>d=.bool
theorem Xr{f:FK}(h:fkT P t=some f):∃d,P.underlying t=some d∧f.desc d:=by
 unfold fkT at h;split at h
 ·rename_i k hu;cases h;exact⟨_,hu,k,rfl⟩
 ·rename_i hu;cases h;exact⟨_,hu,rfl⟩
 ·rename_i hu;cases h;exact⟨_,hu,rfl⟩
 ·cases h
theorem zxX{f:FK}{d:TypeDesc}{a b:AV}{x y:Value}{r:Bool}(hd:f.desc d)(h:eq1 f a b=some r)(hx:VR φ a x)(hy:VR φ b y):
  Instr.sameNow d x y=some r∧(r=true→∀n,Instr.sameBits n y x=true):=by
 cases f with
 | i=>
  obtain⟨k0,rfl⟩:=hd;simp only[eq1]at h;split at h
  ·rename_i k m k' n
   cases hkk:uG k k' with
   |false=>rw[hkk]at h;simp at h
   |true=>
    rw[hkk]at h;simp only[cond_true,Option.some.injEq]at h;subst h;rw[ZW]at hkk;simp at hkk;subst hkk;simp only[VR]at hx hy;subst hx;subst hy;rw[v8];refine⟨by simp[Instr.sameNow],fun hr n=>?_⟩
    rw[beq_iff_eq]at hr;subst hr;cases n<;>simp[Instr.sameBits]
  ·cases h
 | s=>
  simp only[FK.desc]at hd;subst hd;simp only[eq1]at h;split at h
  ·cases h;simp only[VR]at hx hy;obtain⟨s,rfl,rfl⟩:=hx;obtain⟨u,rfl,rfl⟩:=hy;rw[X7,←Q8,←beq_toListBytes];refine⟨by simp[Instr.sameNow],fun hr n=>?_⟩
   have hr':(u==s)=true:=by
    rw[beq_toListBytes]at hr⊢;rw[beq_iff_eq]at hr⊢;exact hr.symm
   cases n<;>simp[Instr.sameBits,hr']
  ·cases h
 | b=>
  simp only[FK.desc]at hd;subst hd;simp only[eq1]at h;split at h
  ·cases h;simp only[VR]at hx hy;subst hx;subst hy;refine⟨by simp[Instr.sameNow],fun hr n=>?_⟩
   rw[beq_iff_eq]at hr;subst hr;cases n<;>simp[Instr.sameBits]
  ·cases h
theorem EntRel.length{φ:Phi}:∀{l:List (AV×AV×Nat)} {es:List MapEntry},EntRel φ l es→l.length=es.length
 |[],_,h=>by simp only[EntRel]at h;subst h;rfl
 |_::r,_,h=>by obtain⟨e,es',rfl,_,_,_,h4⟩:=h;simp[EntRel.length h4]
theorem EntRel.append{φ:Phi}:∀{l:List (AV×AV×Nat)} {es:List MapEntry} {l':List (AV×AV×Nat)} {es':List MapEntry},EntRel φ l es→EntRel φ l' es'→EntRel φ (l++l') (es++es')
 |[],_,_,_,h,h'=>by simp only[EntRel]at h;subst h;exact h'
 |_::r,_,_,_,h,h'=>by obtain⟨e,es',rfl,h1,h2,h3,h4⟩:=h;exact⟨e,_,rfl,h1,h2,h3,EntRel.append h4 h'⟩
theorem WV{φ:Phi}{f:FK}{d:TypeDesc}{k:AV}{k':Value}(hd:f.desc d)(hk:VR φ k k'):∀{l:List (AV×AV×Nat)} {es:List MapEntry} {i:Nat} {r:Option (Nat×AV)},EntRel φ l es→jO f k l i=some r→
  (r=none∧Instr.findNow d k' es i=some none)∨∃j v v' e,r=some (i+j,v)∧Instr.findNow d k' es i=some (some (i+j,v'))∧VR φ v v'∧es[j]? =some e∧v'=e.val∧(∀n,Instr.sameBits n e.key k'=true)∧j<l.length
 |[],es,i,r,h,hf=>by simp only[EntRel]at h;subst h;simp[jO]at hf;subst hf;exact .inl ⟨rfl,rfl⟩
 | p ::l,es,i,r,h,hf=>by
  obtain⟨e,es',rfl,h1,h2,h3,h4⟩:=h;simp only[jO]at hf;cases he:eq1 f k p.1 with
  |none=>rw[he]at hf;simp at hf
  | some b=>
   rw[he]at hf;obtain⟨hn,hs⟩:=zxX hd he hk h1;cases b with
   |true=>
    simp only[Option.some.injEq]at hf;subst hf;exact .inr ⟨0,p.2.1,e.val,e,rfl,by simp[Instr.findNow,hn],h2,rfl,rfl,hs rfl,by simp⟩
   | false=>
    simp only at hf;rcases WV hd hk h4 hf with ⟨rfl,h5⟩|⟨j,v,v',e',rfl,h5,h6,h7,h8,h9,h10⟩
    ·exact .inl ⟨rfl,by simp only[Instr.findNow,hn];exact h5⟩
    ·refine .inr ⟨j+1,v,v',e',by simp only[Nat.succ_eq_add_one];congr 2;omega,?_,h6,by simpa using h7,h8,h9,by simp;omega⟩
     simp only[Instr.findNow,hn];rw[h5];simp only[Nat.succ_eq_add_one,Option.some.injEq,Prod.mk.injEq,and_true];omega
theorem Zz{f:FK}{k:AV}{k':Value}{l:List (AV×AV×Nat)}{es:List MapEntry}{r:Option (Nat×AV)}(ht:fkT P t=some f)(hk:VR φ k k')(h:EntRel φ l es)(hf:jO f k l 0=some r):
  (r=none∧(Instr.findKey t k' es).run P w=.ok none w)∨∃j v v' e,r=some (j,v)∧(Instr.findKey t k' es).run P w=.ok (some (j,v')) w∧VR φ v v'∧es[j]? =some e∧v'=e.val∧(∀n,Instr.sameBits n e.key k'=true)∧j<l.length:=by
 obtain⟨d,hu,hd⟩:=Xr ht;rcases WV hd hk h hf with ⟨rfl,h5⟩|⟨j,v,v',e',rfl,h5,h6,h7,h8,h9,h10⟩
 ·exact .inl ⟨rfl,by simp[Instr.findKey,xM hu,h5]⟩
 ·refine .inr ⟨j,v,v',e',by simp,?_,h6,h7,h8,h9,h10⟩
  rw[Nat.zero_add]at h5;simp[Instr.findKey,xM hu,h5]
theorem po{f:FK}(ht:fkT P t=some f)(b:Bool)(n:Nat)(v:Value):(Instr.checkKey b (n+1) t v).run P w=.ok () w:=by
 obtain⟨d,hu,hd⟩:=Xr ht;cases f with
 |i=>obtain⟨k,rfl⟩:=hd;simp[Instr.checkKey,xM hu]
 |s=>simp only[FK.desc]at hd;subst hd;simp[Instr.checkKey,xM hu]
 |b=>simp only[FK.desc]at hd;subst hd;simp[Instr.checkKey,xM hu]
theorem kr{_z:AV}{ok:Bool}{_u:AV}{_zx x:Value}(b:Bool)(hv:VR φ v x):VR φ (bif ok then .tup [v,.bool b]else v) (if ok then .tuple #[x,.bool b]else x):=by
 cases ok with
 |false=>exact hv
 |true=>
  simp only[cond_true,if_true,VR];exact⟨[x,.bool b],rfl,VRL.cons hv (VRL.cons (by simp[VR]) (VRL.nil φ))⟩
theorem Zo(r:Rel P w0 φ s.get w){es:List (AV×AV×Nat)}{clock:Nat}{B:Blk}(hg:s.get id=some (.map es clock))(hB:φ id=some B):
  ∃ents,w.heap[B.b]? =some (.map ents clock)∧EntRel φ es ents.toList:=by
 obtain⟨B',hB',h⟩:=r.obj id _ hg;rw[hB]at hB';cases hB';exact h
section
variable {φ:Phi}
theorem URel.length:∀{l:List (Int×AV)} {es:List MapEntry},URel φ l es→l.length=es.length
 |[],_,h=>by simp only[URel]at h;subst h;rfl
 |_::r,_,h=>by obtain⟨e,es',rfl,_,_,h4⟩:=h;simp[URel.length h4]
theorem URel.append:∀{l:List (Int×AV)} {es:List MapEntry} {l':List (Int×AV)} {es':List MapEntry},URel φ l es→URel φ l' es'→URel φ (l++l') (es++es')
 |[],_,_,_,h,h'=>by simp only[URel]at h;subst h;exact h'
 |_::r,_,_,_,h,h'=>by obtain⟨e,es',rfl,h1,h2,h4⟩:=h;exact⟨e,_,rfl,h1,h2,URel.append h4 h'⟩
theorem URel.keys:∀{l:List (Int×AV)} {es:List MapEntry},URel φ l es→es.map (·.key)=l.map fun p=>.int .i64 p.1
 |[],_,h=>by simp only[URel]at h;subst h;rfl
 |_::r,_,h=>by obtain⟨e,es',rfl,h1,h2,h4⟩:=h;simp[h1,URel.keys h4]
theorem ZT{n:Int}{u:AV}:∀{es:List (Int×AV)},gH n es=none→(∀p∈es,p.1≠n)∧pq n u es=es++[(n,u)]∧Xj n es=es
 |[],_=>⟨by simp,rfl,rfl⟩
 | p::r,h=>by
  simp only[gH,v8]at h;by_cases hp:p.1=n
  ·simp[hp]at h
  ·have hb:(p.1==n)=false:=by simp[hp]
   rw[hb,cond_false]at h;obtain⟨h1,h2,h3⟩:=ZT (u:=u) h;refine⟨fun q hq=>?_,?_,?_⟩
   ·rcases List.mem_cons.1 hq with rfl|hq
    ·exact hp
    ·exact h1 q hq
   ·simp only[pq,v8,hb,cond_false,h2,zM]
   ·simp only[Xj,v8,hb,cond_false,h3]
theorem Wb{n:Int}{v u:AV}:∀{es:List (Int×AV)} {l:List MapEntry},gH n es=some v→URel φ es l→∃es1 es2 l1 e l2,es=es1++(n,v)::es2∧l=l1++e::l2∧URel φ es1 l1∧URel φ es2 l2∧e.key=.int .i64 n∧VR φ v e.val∧pq n u es=es1++(n,u)::es2∧Xj n es=es1++es2
 |[],_,h,_=>by simp[gH]at h
 | p::r,l,h,hr=>by
  obtain⟨e,l',rfl,h1,h2,h3⟩:=hr;simp only[gH,v8]at h;by_cases hp:p.1=n
  ·have hb:(p.1==n)=true:=by simp[hp]
   rw[hb,cond_true,Option.some.injEq]at h;subst h;subst hp;exact⟨[],r,[],e,l',rfl,rfl,rfl,h3,h1,h2,by simp only[pq,v8,hb,cond_true,List.nil_append],by simp only[Xj,v8,hb,cond_true,List.nil_append]⟩
  ·have hb:(p.1==n)=false:=by simp[hp]
   rw[hb,cond_false]at h;obtain⟨es1,es2,l1,e2,l2,rfl,rfl,q1,q2,q3,q4,q5,q6⟩:=Wb (u:=u) h h3;exact⟨p::es1,es2,e::l1,e2,l2,rfl,rfl,⟨e,l1,rfl,h1,h2,q1⟩,q2,q3,q4,by simp only[pq,v8,hb,cond_false,q5,zM],by simp only[Xj,v8,hb,cond_false,q6,zM]⟩
theorem ZA{d:TypeDesc}(hd:FK.i.desc d)(a b:Int):Instr.sameNow d (.int .i64 a) (.int .i64 b)=some (a==b):=by
 rw[←v8];exact(zxX (φ:=⟨fun _=>none,fun _ _=>none⟩) (a:=.int .i64 a) (b:=.int .i64 b) (r:=eqI a b) hd rfl (by simp[VR]) (by simp[VR])).1
theorem Xp{d:TypeDesc}(hd:FK.i.desc d)(n:Int):∀(L:List MapEntry) (i:Nat),(∀e∈L,∃m,e.key=.int .i64 m∧m≠n)→Instr.findNow d (.int .i64 n) L i=some none
 |[],_,_=>rfl
 |e::L,i,h=>by
  obtain⟨m,h1,h2⟩:=h e (by simp)
  simp only[Instr.findNow,h1,ZA hd];rw[show (n==m)=false by simp[Ne.symm h2]]
  exact Xp hd n L (i+1) fun e he=>h e (by simp[he])
theorem Xq{d:TypeDesc}(hd:FK.i.desc d)(n:Int)(e0:MapEntry)(hk:e0.key=.int .i64 n):∀(L:List MapEntry) (i:Nat),(∀e∈L,∃m,e.key=.int .i64 m)→e0∈L→(∀e∈L,e.key=e0.key→e=e0)→∃a b,L=a++e0::b∧Instr.findNow d (.int .i64 n) L i=some (some (i+a.length,e0.val))
 |[],_,_,h,_=>by simp at h
 | e::L,i,h,hm,hu=>by
  obtain⟨m,h1⟩:=h e (by simp)
  by_cases hmn:m=n
  ·subst hmn;obtain rfl:=hu e (by simp) (h1.trans hk.symm)
   refine⟨[],L,rfl,?_⟩;simp only[Instr.findNow,hk,ZA hd];simp
  ·have he:e≠e0:=by rintro rfl;rw[hk]at h1;cases h1;exact hmn rfl
   obtain⟨a,b,rfl,hf⟩:=Xq hd n e0 hk L (i+1) (fun e he=>h e (by simp[he])) (by rcases List.mem_cons.1 hm with h|h;exact absurd h.symm he;exact h) (fun e he=>hu e (by simp[he]))
   refine⟨e::a,b,rfl,?_⟩;simp only[Instr.findNow,h1,ZA hd];rw[show (n==m)=false by simp[Ne.symm hmn]]
   simp only[hf,yb]
   congr 3;omega
theorem zuL{L:List MapEntry}(h:(L.map (·.key)).Nodup):∀e∈L,∀e'∈L,e.key=e'.key→e=e':=by
 induction L with
 |nil=>simp
 |cons a L ih=>
  simp only[zD,List.nodup_cons,List.mem_map,not_exists,not_and]at h;intro e he e' he' hk;rcases List.mem_cons.1 he with e1|he<;>rcases List.mem_cons.1 he' with e2|he'
  ·rw[e1,e2]
  ·exact absurd (hk.symm.trans (by rw[e1])) (h.1 e' he')
  ·exact absurd (hk.trans (by rw[e2])) (h.1 e he)
  ·exact ih h.2 e he e' he' hk
theorem UMap.keys{es:List (Int×AV)}{ents:Array MapEntry}{clk:Nat}(h:UMap φ es ents clk):(∀e∈ents.toList,∃m,e.key=.int .i64 m)∧∀e∈ents.toList,∀e'∈ents.toList,e.key=e'.key→e=e':=by
 obtain⟨l,h1,h2,h3,_⟩:=h;have hk:=h2.keys;refine⟨fun e he=>?_,fun e he e' he'=>?_⟩
 ·have:e.key∈l.map (·.key):=List.mem_map.2 ⟨e,h1.mem_iff.2 he,rfl⟩;rw[hk]at this;obtain⟨p,_,hp⟩:=List.mem_map.1 this;exact⟨p.1,hp.symm⟩
 ·refine zuL (L:=l) ?_ e (h1.mem_iff.2 he) e' (h1.mem_iff.2 he');rw[hk,show (es.map fun p=>Value.int .i64 p.1)=(es.map (·.1)).map (Value.int .i64) by simp]
  exact h3.map (f:=Value.int .i64) fun a b hab he=>by cases he;exact hab rfl
theorem UMap.find{es:List (Int×AV)}{ents:Array MapEntry}{clk:Nat}(h:UMap φ es ents clk)(ht:fkT P t=some .i)(n:Int):
  (gH n es=none∧(Instr.findKey t (.int .i64 n) ents.toList).run P w=.ok none w)∨∃v a e b,gH n es=some v∧ents.toList=a++e::b∧e.key=.int .i64 n∧VR φ v e.val∧(Instr.findKey t (.int .i64 n) ents.toList).run P w=.ok (some (a.length,e.val)) w:=by
 obtain⟨d,hu,hd⟩:=Xr ht;have hk:=h.keys;obtain⟨l,h1,h2,h3,_⟩:=h;cases hg:gH n es with
 | none=>
  refine .inl ⟨rfl,?_⟩;have hn:=(ZT (u:=.nils) hg).1;have hf:=Xp hd n ents.toList 0 fun e he=>by
   have:e.key∈l.map (·.key):=List.mem_map.2 ⟨e,h1.mem_iff.2 he,rfl⟩;rw[h2.keys]at this;obtain⟨p,hp,hpe⟩:=List.mem_map.1 this;exact⟨p.1,hpe.symm,hn p hp⟩
  simp[Instr.findKey,xM hu,hf]
 |some v=>
  obtain⟨es1,es2,l1,e,l2,rfl,rfl,q1,q2,q3,q4,_⟩:=Wb (u:=.nils) hg h2;have he:e∈ents.toList:=h1.mem_iff.1 (by simp)
  obtain⟨a,b,hab,hf⟩:=Xq hd n e q3 ents.toList 0 hk.1 he fun e' he'=>hk.2 e' he' e he;refine .inr ⟨v,a,e,b,rfl,hab,q3,q4,?_⟩;rw[Nat.zero_add]at hf;simp[Instr.findKey,xM hu,hf]
theorem UMap.put_new{es:List (Int×AV)}{ents:Array MapEntry}{clk:Nat}(h:UMap φ es ents clk){n:Int}{v':Value}(hg:gH n es=none)(hv:VR φ v v'):UMap φ (pq n v es) (ents.push {key:=.int .i64 n,val:=v',born:=clk}) (clk+1):=by
 obtain⟨l,h1,h2,h3,h4,h5⟩:=h;obtain⟨hn,hs,_⟩:=ZT (u:=v) hg;refine⟨l++[{key:=.int .i64 n,val:=v',born:=clk}],?_,?_,?_,?_,fun e he=>?_⟩
 ·rw[Array.toList_push];exact h1.append_right _
 ·rw[hs];exact h2.append ⟨_,[],rfl,rfl,hv,rfl⟩
 ·rw[hs,zH,List.nodup_append];refine⟨h3,by simp,fun a ha b hb=>?_⟩
  obtain⟨p,hp,rfl⟩:=List.mem_map.1 ha;simp only[zD,List.map_nil,zW]at hb;rw[hb];exact hn p hp
 ·rw[zH,List.nodup_append];refine⟨h4,by simp,fun a ha b hb=>?_⟩
  obtain⟨p,hp,rfl⟩:=List.mem_map.1 ha;simp only[zD,List.map_nil,zW]at hb;have:=h5 p hp;omega
 ·rcases List.mem_append.1 he with he|he
  ·have:=h5 e he;omega
  ·simp only[zW]at he;subst he;exact yc _
theorem zxn{l1 l2 a b:List MapEntry}{e:MapEntry}(h:(l1++e::l2).Perm (a++e::b)):(l1++l2).Perm (a++b):=
 List.Perm.cons_inv (List.perm_middle.symm.trans (h.trans List.perm_middle))
theorem Up(f:MapEntry→MapEntry)(e:MapEntry)(b:List MapEntry):∀a:List MapEntry,(a++e::b).modify a.length f=a++f e::b
 |[]=>by simp
 |x::a=>by simp only[zM,yb,yq,Up f e b a]
theorem J8(e:MapEntry)(b:List MapEntry):∀a:List MapEntry,(a++e::b).eraseIdx a.length=a++b
 |[]=>by simp
 |x::a=>by simp only[zM,yb,yd,J8 e b a]
theorem UMap.split{es:List (Int×AV)}{ents:Array MapEntry}{clk:Nat}(h:UMap φ es ents clk){n:Int}(u:AV)(hg:gH n es=some v){a b:List MapEntry}{e:MapEntry}(hab:ents.toList=a++e::b)(hk:e.key=.int .i64 n):
  ∃es1 es2 l1 l2,es=es1++(n,v)::es2∧(l1++l2).Perm (a++b)∧URel φ es1 l1∧URel φ es2 l2∧(es.map (·.1)).Nodup∧((l1++e::l2).map (·.born)).Nodup∧(∀x∈l1++e::l2,x.born<clk)∧pq n u es=es1++(n,u)::es2∧Xj n es=es1++es2:=by
 have hkk:=h.keys;obtain⟨l,h1,h2,h3,h4,h5⟩:=h;obtain⟨es1,es2,l1,e2,l2,rfl,rfl,q1,q2,q3,q4,q5,q6⟩:=Wb (u:=u) hg h2;have he:e2=e:=hkk.2 e2 (h1.mem_iff.1 (by simp)) e (by rw[hab];simp) (q3.trans hk.symm)
 subst he;exact⟨es1,es2,l1,l2,rfl,zxn (hab▸h1),q1,q2,h3,h4,h5,q5,q6⟩
theorem UMap.put_old{es:List (Int×AV)}{ents:Array MapEntry}{clk:Nat}(h:UMap φ es ents clk){n:Int}{u:AV}{u':Value}(hg:gH n es=some v){a b:List MapEntry}{e:MapEntry}(hab:ents.toList=a++e::b)(hk:e.key=.int .i64 n)(hv:VR φ u u'):UMap φ (pq n u es) (ents.modify a.length fun e=>{e with key:=.int .i64 n,val:=u'}) clk:=by
 obtain⟨es1,es2,l1,l2,rfl,q0,q1,q2,h3,h4,h5,q5,_⟩:=h.split u hg hab hk;refine⟨l1++{e with key:=.int .i64 n,val:=u'}::l2,?_,?_,?_,?_,fun x hx=>?_⟩
 ·rw[yu,hab,Up];exact List.perm_middle.trans ((q0.cons _).trans List.perm_middle.symm)
 ·rw[q5];exact q1.append ⟨_,l2,rfl,rfl,hv,q2⟩
 ·rw[q5];simpa using h3
 ·simpa using h4
 ·rcases List.mem_append.1 hx with hx|hx
  ·exact h5 x (by simp[hx])
  ·rcases List.mem_cons.1 hx with rfl|hx
   ·exact h5 e (by simp)
   ·exact h5 x (by simp[hx])
theorem UMap.del{es:List (Int×AV)}{ents:Array MapEntry}{clk:Nat}(h:UMap φ es ents clk){n:Int}(hg:gH n es=some v){a b:List MapEntry}{e:MapEntry}(hab:ents.toList=a++e::b)(hk:e.key=.int .i64 n):UMap φ (Xj n es) (ents.eraseIdxIfInBounds a.length) clk:=by
 obtain⟨es1,es2,l1,l2,rfl,q0,q1,q2,h3,h4,h5,_,q6⟩:=h.split .nils hg hab hk;have hj:a.length<ents.size:=by
  have:=congrArg List.length hab;simp at this;omega
 have e1:(ents.eraseIdxIfInBounds a.length).toList=ents.toList.eraseIdx a.length:=by simp[zY,hj]
 refine⟨l1++l2,?_,?_,?_,?_,fun x hx=>?_⟩
 ·rw[e1,hab,J8];exact q0
 ·rw[q6];exact q1.append q2
 ·rw[q6];rw[zH,zD]at h3;rw[zH];exact h3.sublist (zZ (yi _ _) _)
 ·rw[zH,zD]at h4;rw[zH];exact h4.sublist (zZ (yi _ _) _)
 ·rcases List.mem_append.1 hx with hx|hx
  ·exact h5 x (by simp[hx])
  ·exact h5 x (by simp[hx])
end
theorem QU(r:Rel P w0 φ s.get w){es:List (Int×AV)}{B:Blk}(hg:s.get id=some (.umap es))(hB:φ id=some B):
  ∃ents clk,w.heap[B.b]? =some (.map ents clk)∧UMap φ es ents clk:=by
 obtain⟨B',hB',h⟩:=r.obj id _ hg;rw[hB]at hB';cases hB';exact h
theorem zqp(r:Rel P w0 φ s.get w){kt e:TypeId}{f:FK}{z m k:AV}{ok:Bool}{m' k':Value}(hu:P.underlying t=some (.map kt e))(hf:fkT P kt=some f)(hz:jL P e=some z)
  (h:vLk s f z ok m k=some v) (hm:VR φ m m') (hk:VR φ k k'):∃x,(Instr.lookup t m' k' ok).run P w=.ok x w∧VR φ v x:=by
 obtain⟨zx,hzr,hzv⟩:=qL hz;have hck:∀b,(Instr.checkKey b 10000 kt k').run P w=.ok () w:=fun b=>po hf b 9999 k';unfold vLk at h;split at h
 ·simp only[VR]at hm;subst hm;simp only[XA,Option.some.injEq]at h;subst h;refine⟨_,?_,kr (_z:=z) (_u:=z) (_zx:=zx) (ok:=ok) false (hzv φ)⟩;have hfk:(Instr.findKey kt k' []).run P w=.ok none w:=by
   obtain⟨d,hu',_⟩:=Xr hf;simp[Instr.findKey,xM hu',Instr.findNow]
  simp only[Instr.lookup,Sem.run_bind,xM hu,Result.andThen_ok,Sem.run_pure,hck];simp only[hfk,Result.andThen_ok,Sem.run_bind,hzr,Sem.run_pure]
 ·rename_i id
  simp only[VR]at hm;obtain⟨B,hB,rfl⟩:=hm;split at h
  ·rename_i es clock hg
   obtain⟨ents,hb,hent⟩:=Zo r hg hB;have hgo:=qh (P:=P) hb (by simp)
   cases hfi:jO f k es 0 with
   |none=>rw[hfi]at h;simp[XA]at h
   |some res=>
    rw[hfi]at h;rcases Zz (P:=P) (w:=w) hf hk hent hfi with ⟨rfl,h5⟩|⟨j,v1,v',e',rfl,h5,h6,_⟩
    ·simp only[XA,Option.some.injEq]at h;subst h;refine⟨_,?_,kr (_z:=z) (_u:=z) (_zx:=zx) (ok:=ok) false (hzv φ)⟩;simp only[Instr.lookup,Sem.run_bind,xM hu,Result.andThen_ok,Sem.run_pure,hck,hgo,h5,hzr]
    ·simp only[XA,Option.some.injEq]at h;subst h;refine⟨_,?_,kr (_z:=z) (_u:=z) (_zx:=zx) (ok:=ok) true h6⟩;simp only[Instr.lookup,Sem.run_bind,xM hu,Result.andThen_ok,Sem.run_pure,hck,hgo,h5]
  ·rename_i es hg
   split at h
   ·split at h
    ·rename_i n
     simp only[VR]at hk;subst hk;obtain⟨ents,clk,hb,hent⟩:=QU r hg hB;have hgo:=qh (P:=P) hb (by simp)
     rcases hent.find (P:=P) (w:=w) hf n with ⟨e1,h5⟩|⟨v1,a,e',b,e1,hab,he,h6,h5⟩
     ·rw[e1]at h;simp only[lkU,Option.some.injEq]at h;subst h;refine⟨_,?_,kr (_z:=z) (_u:=z) (_zx:=zx) (ok:=ok) false (hzv φ)⟩;simp only[Instr.lookup,Sem.run_bind,xM hu,Result.andThen_ok,Sem.run_pure,hck,hgo,h5,hzr]
     ·rw[e1]at h;simp only[lkU,Option.some.injEq]at h;subst h;refine⟨_,?_,kr (_z:=z) (_u:=z) (_zx:=zx) (ok:=ok) true h6⟩;simp only[Instr.lookup,Sem.run_bind,xM hu,Result.andThen_ok,Sem.run_pure,hck,hgo,h5]
    ·cases h
   ·cases h
  ·cases h
 ·cases h
theorem P8{φ:Phi}{v k:AV}{v' k':Value}(hv:VR φ v v')(hk:VR φ k k'):∀{l:List (AV×AV×Nat)} {es:List MapEntry} (j:Nat),EntRel φ l es→EntRel φ (zxk v k l j) (es.modify j fun e=>{e with key:=k',val:=v'})
 |[],es,j,h=>by simp only[EntRel]at h;subst h;cases j<;>simp[zxk,EntRel]
 |p::l,es,0,h=>by
  obtain⟨e,es',rfl,h1,h2,h3,h4⟩:=h;simp only[zxk,List.modify_zero_cons];exact⟨_,es',rfl,hk,hv,h3,h4⟩
 |p::l,es,j+1,h=>by
  obtain⟨e,es',rfl,h1,h2,h3,h4⟩:=h;simp only[zxk,yq];exact⟨e,_,rfl,h1,h2,h3,P8 hv hk j h4⟩
theorem LF{φ:Phi}:∀{l:List (AV×AV×Nat)} {es:List MapEntry} (j:Nat),EntRel φ l es→EntRel φ (zyi l j) (es.eraseIdx j)
 |[],es,j,h=>by simp only[EntRel]at h;subst h;simp[zyi,EntRel]
 |p::l,es,0,h=>by
  obtain⟨e,es',rfl,h1,h2,h3,h4⟩:=h
  simpa [zyi]using h4
 |p::l,es,j+1,h=>by
  obtain⟨e,es',rfl,h1,h2,h3,h4⟩:=h;simp only[zyi,yd];exact⟨e,_,rfl,h1,h2,h3,LF j h4⟩
theorem XL{old new:Value}(h:∀n,Instr.sameBits n old new=true):(Instr.keyThatStays old new).run P w=.ok new w:=by
 simp[Instr.keyThatStays,h]
theorem zr3{es:Array MapEntry}{j:Nat}{e:MapEntry}(h:es.toList[j]? =some e)(k:Value):((es[j]?).map (·.key)).getD k=e.key:=by
 have:es[j]? =some e:=by rw[←zC];exact h
 rw[this];rfl
theorem Pz(r:Rel P w0 φ s.get w){kt e:TypeId}{f:FK}{m k u:AV}{m' k' v':Value}(hu:P.underlying t=some (.map kt e))(hf:fkT P kt=some f)
  (h:oMu s f m k v=some (u,s')) (hm:VR φ m m') (hk:VR φ k k') (hv:VR φ v v'):u=qk∧∃w',(Instr.mapUpdate t m' k' v').run P w=.ok () w'∧Step P w0 φ s w φ s' w':=by
 have hck:∀b,(Instr.checkKey b 10000 kt k').run P w=.ok () w:=fun b=>po hf b 9999 k';unfold oMu at h;split at h
 ·rename_i id
  simp only[VR]at hm;obtain⟨B,hB,rfl⟩:=hm;split at h
  ·rename_i es clock hg
   obtain⟨ents,hb,hent⟩:=Zo r hg hB;have hgo:=qh (P:=P) hb (by simp)
   cases hfi:jO f k es 0 with
   |none=>rw[hfi]at h;simp at h
   | some res=>
    rw[hfi]at h;rcases Zz (P:=P) (w:=w) hf hk hent hfi with ⟨rfl,h5⟩|⟨j,v1,v2,e',rfl,h5,h6,h7,h8,h9,h10⟩
    ·simp only[Option.some.injEq,Prod.mk.injEq]at h;obtain⟨rfl,rfl⟩:=h;refine⟨rfl,_,?_,Step.setObj r hg hB hb (x':=.map (ents.push {key:=k',val:=v',born:=clock}) (clock+1)) ⟨_,gE hb,?_⟩⟩
     ·simp only[Instr.mapUpdate,Sem.run_bind,xM hu,Result.andThen_ok,hgo,hck,h5];exact qZ _ hb (by simp)
     ·rw[Array.toList_push];exact EntRel.append hent ⟨_,[],rfl,hk,hv,rfl,rfl⟩
    ·simp only[Option.some.injEq,Prod.mk.injEq]at h;obtain⟨rfl,rfl⟩:=h;refine⟨rfl,_,?_,Step.setObj r hg hB hb (x':=.map (ents.modify j fun e=>{e with key:=k',val:=v'}) clock) ⟨_,gE hb,?_⟩⟩
     ·simp only[Instr.mapUpdate,Sem.run_bind,xM hu,Result.andThen_ok,hgo,hck,h5,zr3 h7,XL h9];exact qZ _ hb (by simp)
     ·rw[yu];exact P8 hv hk j hent
  ·rename_i es hg
   split at h
   ·split at h
    ·rename_i n
     simp only[VR]at hk;subst hk;obtain⟨ents,clk,hb,hent⟩:=QU r hg hB;have hgo:=qh (P:=P) hb (by simp)
     simp only[Option.some.injEq,Prod.mk.injEq]at h;obtain⟨rfl,rfl⟩:=h;rcases hent.find (P:=P) (w:=w) hf n with ⟨e1,h5⟩|⟨v1,a,e',b,e1,hab,he,h6,h5⟩
     ·refine⟨rfl,_,?_,Step.setObj r hg hB hb (x':=.map (ents.push {key:=.int .i64 n,val:=v',born:=clk}) (clk+1)) ⟨_,_,gE hb,hent.put_new e1 hv⟩⟩;simp only[Instr.mapUpdate,Sem.run_bind,xM hu,Result.andThen_ok,hgo,hck,h5];exact qZ _ hb (by simp)
     ·refine⟨rfl,_,?_,Step.setObj r hg hB hb (x':=.map (ents.modify a.length fun e=>{e with key:=.int .i64 n,val:=v'}) clk) ⟨_,_,gE hb,hent.put_old e1 hab he hv⟩⟩
      have h7:ents.toList[a.length]? =some e':=by rw[hab];simp
      simp only[Instr.mapUpdate,Sem.run_bind,xM hu,Result.andThen_ok,hgo,hck,h5,zr3 h7,XL (old:=e'.key) (new:=.int .i64 n) (fun n=>by rw[he];cases n<;>simp[Instr.sameBits])]
      exact qZ _ hb (by simp)
    ·cases h
   ·cases h
  ·cases h
 ·cases h
theorem zqz(r:Rel P w0 φ s.get w){ts:Array TypeId}{ty kt e:TypeId}{f:FK}{m k u:AV}{m' k':Value}(hts:ts[0]? =some t)(hu:P.underlying t=some (.map kt e))(hf:fkT P kt=some f)
  (h:oMd s f m k=some (u,s')) (hm:VR φ m m') (hk:VR φ k k'):u=qk∧∃w',(Builtin.delete_ ts ty #[m',k']).run P w=.ok undef w'∧Step P w0 φ s w φ s' w':=by
 have hck:∀b,(Instr.checkKey b 10000 kt k').run P w=.ok () w:=fun b=>po hf b 9999 k';unfold oMd at h;split at h
 ·simp only[VR]at hm;subst hm;simp only[Option.some.injEq,Prod.mk.injEq]at h;obtain⟨rfl,rfl⟩:=h;refine⟨rfl,w,?_,Step.refl r⟩;simp[Builtin.delete_,hts,xM hu,hck,undef]
 ·rename_i id
  simp only[VR]at hm;obtain⟨B,hB,rfl⟩:=hm;split at h
  ·rename_i es clock hg
   obtain⟨ents,hb,hent⟩:=Zo r hg hB;have hgo:=qh (P:=P) hb (by simp)
   cases hfi:jO f k es 0 with
   |none=>rw[hfi]at h;simp at h
   | some res=>
    rw[hfi]at h;rcases Zz (P:=P) (w:=w) hf hk hent hfi with ⟨rfl,h5⟩|⟨j,v1,v2,e',rfl,h5,h6,h7,h8,h9,h10⟩
    ·simp only[Option.some.injEq,Prod.mk.injEq]at h;obtain⟨rfl,rfl⟩:=h;refine⟨rfl,_,?_,Step.setObj r hg hB hb (x':=.map ents clock) ⟨_,gE hb,hent⟩⟩;simp[Builtin.delete_,hts,xM hu,hck,undef,hgo,h5,qZ _ hb (by simp)]
    ·simp only[Option.some.injEq,Prod.mk.injEq]at h;obtain⟨rfl,rfl⟩:=h;refine⟨rfl,_,?_,Step.setObj r hg hB hb (x':=.map (ents.eraseIdxIfInBounds j) clock) ⟨_,gE hb,?_⟩⟩
     ·simp[Builtin.delete_,hts,xM hu,hck,undef,hgo,h5,qZ _ hb (by simp)]
     ·have hj:j<ents.size:=by have:=EntRel.length hent;simp at this;omega
      have e1:(ents.eraseIdxIfInBounds j).toList=ents.toList.eraseIdx j:=by simp[zY,hj]
      rw[e1];exact LF j hent
  ·rename_i es hg
   split at h
   ·split at h
    ·rename_i n
     simp only[VR]at hk;subst hk;obtain⟨ents,clk,hb,hent⟩:=QU r hg hB;have hgo:=qh (P:=P) hb (by simp)
     simp only[Option.some.injEq,Prod.mk.injEq]at h;obtain⟨rfl,rfl⟩:=h;rcases hent.find (P:=P) (w:=w) hf n with ⟨e1,h5⟩|⟨v1,a,e',b,e1,hab,he,h6,h5⟩
     ·refine⟨rfl,_,?_,Step.setObj r hg hB hb (x':=.map ents clk) ⟨_,_,gE hb,by rw[(ZT (u:=.nils) e1).2.2];exact hent⟩⟩
      simp[Builtin.delete_,hts,xM hu,hck,undef,hgo,h5,qZ _ hb (by simp)]
     ·refine⟨rfl,_,?_,Step.setObj r hg hB hb (x':=.map (ents.eraseIdxIfInBounds a.length) clk) ⟨_,_,gE hb,hent.del e1 hab he⟩⟩;simp[Builtin.delete_,hts,xM hu,hck,undef,hgo,h5,qZ _ hb (by simp)]
    ·cases h
   ·cases h
  ·cases h
 ·cases h
theorem zis{a b:AV}{x y:Value}(h:VR φ a x)(h':VR φ b y):VR φ (.tup [a,b]) (.tuple #[x,y]):=by
 simp only[VR];exact⟨[x,y],rfl,VRL.cons h (VRL.cons h' (VRL.nil φ))⟩
theorem vD(o:Obj):({w with heap:=w.heap.push o}:World).heap[w.heap.size]? =some o:=by simp
theorem Gy{cs:List AV}{xs:List Value}(h:VRL φ cs xs):VRL φ cs ((xs.toArray.toList.drop 0).take cs.length):=by
 simp only[yl];rw[zK (by rw[VRL.length h];simp)]
 exact h
theorem gW(r:Rel P w0 φ s.get w)(hwf:Wf s)(hf:φ s.next=none)(e:TypeId){cs:List AV}{xs:List Value}(hx:VRL φ cs xs):
  Step P w0 φ s w (φ.set s.next ⟨w.heap.size,0,cs.length⟩) (s.alloc (.row e cs false false)) {w with heap:=w.heap.push (.cells xs.toArray e)}:=by
 refine Step.alloc r hwf hf rfl rfl rfl rfl ?_;refine⟨xs.toArray,(0,0),vD _,by simp[VRL.length hx],zu _,fun _=>⟨rfl,rfl⟩,?_,zu _,fun _ i _=>by simp⟩
 exact Gy (VRL.mono (Phi.set_sub hf) _ _ hx)
theorem j5(e:TypeId)(xs:Array Value):(newRow e xs).run P w=.ok ⟨w.heap.size,0,none⟩ {w with heap:=w.heap.push (.cells xs e)}:=by simp[newRow]
theorem XJ{tot:Nat}:VR (φ.set s.next ⟨w.heap.size,0,tot⟩) (.ptr s.next 0) (.pointer (some ⟨w.heap.size,0,none⟩)):=by
 simp only[VR];exact⟨⟨w.heap.size,0,tot⟩,by simp[Phi.set],by simp⟩
theorem HT(r:Rel P w0 φ s.get w)(hwf:Wf s)(hf:φ s.next=none){z:AV}(hz:jL P t=some z)(h:Zs s t z.cells=some (v,s')):
  ∃φ' x w',(Instr.alloc t true (.tuple #[])).run P w=.ok x w'∧Step P w0 φ s w φ' s' w'∧VR φ' v x:=by
 obtain⟨zx,hzr,hzv⟩:=qL hz;unfold Zs at h;cases h;refine⟨_,_,_,?_,gW r hwf hf t (hzv φ).cells,XJ⟩;simp only[Instr.alloc,Sem.run_bind,hzr,Result.andThen_ok,newVar,j5,Sem.run_pure]
theorem zvn(r:Rel P w0 φ s.get w)(hwf:Wf s)(hf:φ s.next=none){x:AV}{x':Value}(h:PJ s t x=some (v,s'))(hx:VR φ x x'):
  ∃φ' y w',(Instr.box t x').run P w=.ok y w'∧Step P w0 φ s w φ' s' w'∧VR φ' v y:=by
 unfold PJ at h;cases h;refine⟨_,_,_,?_,gW r hwf hf t hx.cells,XJ⟩;simp only[Instr.box,newVar,Sem.run_bind,j5,Result.andThen_ok,Sem.run_pure]
theorem Qi(off:Nat):∀(vs:List Value) (j:Nat) (cs:Array Value),off+j+vs.length≤cs.size→
  ((vs.zipIdx j).foldl (fun(cs:Array Value) (p:Value×Nat)=>cs.setIfInBounds (off+p.2) p.1) cs).toList=cs.toList.take (off+j)++vs++cs.toList.drop (off+j+vs.length)
 |[],j,cs,h=>by simp
 | v::vs,j,cs,h=>by
  have h':off+j+(vs.length+1)≤cs.size:=h;rw[List.zipIdx_cons,ye,Qi off vs (j+1) _ (by simp;omega)]
  have hlt:off+j<cs.toList.length:=by simp;omega
  have hm:(cs.toList.take (off+j)).length=off+j:=by rw[List.length_take];omega
  rw[zX];have e1:(cs.toList.set (off+j) v).take (off+(j+1))=cs.toList.take (off+j)++[v]:=by
   rw[←zN,List.take_set,zR hlt,yr _ _ oM,hm];simp
  have e2:(cs.toList.set (off+j) v).drop (off+(j+1)+vs.length)=cs.toList.drop (off+j+(vs.length+1)):=by
   rw[yw oM];congr 1;omega
  rw[e1,e2];simp
theorem pf{φ:Phi}{place:Nat→Option (Nat×Nat)}{tm:Trie AV}{a:Act}:∀{ps:List (Nat×Operand)} {qs:List (Nat×Nat×Opd)} {zs cs:List AV} {xs:Array Value},kU place ps=some qs→jF zs tm qs=some cs→
  TmOn φ (Opd.tmps (qs.map (·.2.2))) tm a→VRL φ zs xs.toList→∃ys,Instr.fill place xs (ps.map fun(i,x)=>(i,a.eval x))=some ys∧VRL φ cs ys.toList
 |[],qs,zs,cs,xs,hc,hf,_,hz=>by simp[kU]at hc;subst hc;simp[jF]at hf;subst hf;exact⟨xs,rfl,hz⟩
 | (i, x)::ps,qs,zs,cs,xs,hc,hf,ht,hz=>by
  simp only[kU]at hc;cases hp:place i with
  |none=>rw[hp]at hc;simp at hc
  | some os=>
   obtain⟨o,sz⟩:=os;cases hx:qr x with
   |none=>rw[hp,hx]at hc;simp at hc
   | some y=>
    cases hr:kU place ps with
    |none=>rw[hp,hx,hr]at hc;simp at hc
    | some l=>
     rw[hp,hx,hr]at hc;simp only[Option.some.injEq]at hc;subst hc;simp only[jF]at hf;cases hy:y.ev tm with
     |none=>rw[hy]at hf;simp at hf
     | some v=>
      rw[hy]at hf;simp only at hf;cases hb:(zb (qg v.cells) sz&&ze 1 sz)with
      |false=>rw[hb]at hf;simp at hf
      | true=>
       rw[hb]at hf;simp only[cond_true]at hf;cases hpa:ur zs o v.cells with
       |none=>rw[hpa]at hf;simp at hf
       | some zs'=>
        rw[hpa]at hf;simp only at hf;have hv:=xV (φ:=φ) (a:=a) hx hy (ht.sub (by intro t h;simp[Opd.tmps];exact .inl h))
        have hvc:=hv.cells;have hlen:=VRL.length hvc;rw[zq,we,x9,wV]at hb;obtain⟨hb,hb1⟩:=hb;obtain⟨hbound,rfl⟩:=YP hpa;have hzl:=VRL.length hz;simp only[zD,Instr.fill,hp];have hsz:(a.eval x).cells.size=sz:=by rw[←hb,hlen];simp
        have hoff:o+(a.eval x).cells.size≤xs.size:=by
         have hbd:=hbound.resolve_right (fun e=>by rw[e]at hb;simp at hb;omega)
         simp at hzl hlen;omega
        have hif:((a.eval x).cells.size≠sz||o+(a.eval x).cells.size>xs.size)=false:=by
         simp[hsz];omega
        rw[hif];simp only[zJ,if_false];refine pf hr hf (ht.sub (by intro t h;simp[Opd.tmps]at h⊢;exact .inr h)) ?_
        have hfold:((a.eval x).cells.zipIdx.foldl (fun(cs:Array Value) (p:Value×Nat)=>cs.setIfInBounds (o+p.2) p.1) xs).toList=xs.toList.take o++(a.eval x).cells.toList++xs.toList.drop (o+(a.eval x).cells.toList.length):=by
         have:=Qi o (a.eval x).cells.toList 0 xs (by simp;omega)
         rw[←Array.foldl_toList,Array.toList_zipIdx]
         simpa using this
        rw[hfold];have:v.cells.length=(a.eval x).cells.toList.length:=hlen;rw[this];exact VRL.append (VRL.append (hz.take o) hvc) (hz.drop _)
theorem zpJ{G:List (List AV)}(r:Rel P w0 φ s.get w)(hG:x8 G w0){p:AV}{x:Value}(ha:U6 P t=some false)(h:vLd G s p=some v)(hx:VR φ p x):
  ∃z,(Instr.loadAt t x).run P w=.ok z w∧VR φ v z:=by
 unfold vLd at h;cases hl:vG G s p 1 with
 |none=>rw[hl]at h;simp at h
 |some l=>
  rw[hl]at h;simp only at h;obtain⟨a,xs,rfl,hlen,hxs,hc⟩:=vE r hG hl hx;obtain⟨y,hy,hv⟩:=hxs.get (YG h);have hcell:=hc 0 y hy;have:a.add 0=a:=by simp[Addr.add]
  rw[this]at hcell;exact⟨y,by simp[Instr.loadAt,Instr.sureAddr,loadVar,pp ha,hcell],hv⟩
theorem zwU{G:List (List AV)}(r:Rel P w0 φ s.get w)(hG:x8 G w0){p:AV}{x:Value}(ha:U6 P t=some true)(hs:vT P t=some n)(h:ZH G s n p=some v)(hx:VR φ p x):
  ∃z,(Instr.loadAt t x).run P w=.ok z w∧VR φ v z:=by
 unfold ZH at h;cases hl:vG G s p n with
 |none=>rw[hl]at h;simp at h
 |some l=>
  rw[hl]at h;simp only[Option.some.injEq]at h;subst h;obtain⟨a,xs,rfl,hlen,hxs,hc⟩:=vE r hG hl hx;have hrun:=run_loadCells_list (P:=P) w a xs hc;rw[hlen]at hrun;exact⟨.agg xs.toArray,by simp only[Instr.loadAt,Instr.sureAddr,loadVar,Sem.run_bind,Sem.run_pure,Result.andThen_ok,pp ha,if_true,wO hs,hrun],by simp only[VR];exact⟨xs,rfl,hxs⟩⟩
theorem zk3(r:Rel P w0 φ s.get w){p y:AV}{x z:Value}(hs:vT P t=some n)(h:oSt s n p y=some (v,s'))(hx:VR φ p x)(hy:VR φ y z):
  v=qk∧∃w',(Instr.storeAt t x z).run P w=.ok () w'∧Step P w0 φ s w φ s' w':=by
 unfold oSt at h;cases hb:zb (qg y.cells) n with
 |false=>rw[hb]at h;simp at h
 | true=>
  rw[hb]at h;simp only[cond_true]at h;cases hst:jc s p y.cells with
  |none=>rw[hst]at h;simp at h
  |some s1=>
   rw[hst]at h;simp only[Option.some.injEq,Prod.mk.injEq]at h;obtain⟨rfl,rfl⟩:=h;obtain⟨a,w',rfl,h1,h2⟩:=pu r hst hx hy.cells;refine⟨rfl,w',?_,h2⟩;rw[we,wV,VRL.length hy.cells]at hb;have hsz:z.cells.size=n:=by simpa using hb
   simp only[Instr.storeAt,Instr.sureAddr,storeVar,Sem.run_bind,Sem.run_pure,Result.andThen_ok,wO hs];simp only[hsz,ne_eq,not_true_eq_false,if_false];exact h1
theorem zk8{tot len:Nat}:VR (φ.set s.next ⟨w.heap.size,0,tot⟩) (.sl s.next 0 len (.fix len)) (.slice (some ⟨w.heap.size,0,none⟩) len len):=by
 simp only[VR];exact⟨⟨w.heap.size,0,tot⟩,len,by simp[Phi.set],by simp,rfl⟩
theorem zmQ{tot len c:Nat}:VR (φ.set s.next ⟨w.heap.size,0,tot⟩) (.sl s.next 0 len (.fix c)) (.slice (some ⟨w.heap.size,0,none⟩) len c):=by
 simp only[VR];exact⟨⟨w.heap.size,0,tot⟩,c,by simp[Phi.set],by simp,rfl⟩
theorem Wk(z:List Value)(n:Nat)(_h:0<z.length):((zV (n*z.length)).map fun i=>(z.toArray)[i%z.toArray.size]!).toList=(List.replicate n z).flatten:=by
 induction n with
 |zero=>simp
 | succ n ih=>
  rw[List.replicate_succ',List.flatten_append,←ih];simp only[Array.toList_map,Array.toList_range,Nat.succ_mul];rw[List.range_add,zH]
  congr 1
  simp only[List.flatten_cons,List.flatten_nil,List.append_nil,List.map_map];apply List.ext_getElem?;intro i;by_cases hi:i<z.length
  ·rw[List.getElem?_map,List.getElem?_range hi];have e1:(n*z.length+i)%z.length=i:=by rw[yy,Nat.mul_add_mod];exact Nat.mod_eq_of_lt hi
   simp only[yg,Function.comp_apply,List.size_toArray,e1];rw[List.getElem?_eq_getElem hi];simp[hi]
  ·rw[ym (by simp;omega),ym oM]
theorem Yk{P:Program}{w:World}{α β:Type}(f:α→Sem β)(g:α→β):∀(xs:List α),(∀x∈xs,(f x).run P w=.ok (g x) w)→(xs.mapM f).run P w=.ok (xs.map g) w
 |[],_=>by simp
 |x::xs,h=>by
  rw[List.mapM_cons];simp only[Sem.run_bind,h x (by simp),Result.andThen_ok,Yk f g xs (fun y hy=>h y (by simp[hy])),Sem.run_pure,zD]
theorem UI{α β:Type}(f:α→Sem β)(g:α→β)(xs:Array α)(h:∀x∈xs.toList,(f x).run P w=.ok (g x) w):(xs.mapM f).run P w=.ok (xs.map g) w:=by
 rw[Array.mapM_eq_mapM_toList];simp only[Sem.run_map,Yk f g xs.toList h,Result.andThen_ok]
 congr 1
 apply Array.ext';simp
theorem zyK{p q:Nat→Option (Nat×Nat)}(h:∀i,p i=q i)(cells:Array Value)(l:List (Nat×Value)):Instr.fill p cells l=Instr.fill q cells l:=by
 have:p=q:=funext h;rw[this]
theorem GE{fs:Array Field}{z:AV}{ps:Array (Nat×Operand)}{qs:List (Nat×Nat×Opd)}{cs:List AV}{a:Act}
  (hu:P.underlying t=some (.struct fs)) (hz:jL P t=some z) (hall:fs.toList.all (fun f=>(vT P f.type).isSome)=true) (hc:kU (Hu P fs) ps.toList=some qs) (hf:jF z.cells tm qs=some cs) (ht:TmOn φ (Opd.tmps (qs.map (·.2.2))) tm a):
  ∃y,(Instr.build t (ps.map fun(i,x)=>(i,a.eval x))).run P w=.ok y w∧VR φ (.agg cs) y:=by
 obtain⟨zx,hzr,hzv⟩:=qL hz;obtain⟨ys,h1,h2⟩:=pf (a:=a) hc hf ht (hzv φ).cells;have hm:(fs.mapM fun f=>(do pure (f.offset,←sizeOf f.type):Sem (Nat×Nat))).run P w=.ok (fs.map fun f=>(f.offset,(vT P f.type).getD 0)) w:=by
  refine UI _ _ _ fun f hf=>?_;have:=List.all_eq_true.1 hall f hf;obtain⟨n,hn⟩:=Option.isSome_iff_exists.1 this;simp[wO hn,hn]
 refine⟨.agg ys,?_,by simp only[VR];exact⟨ys.toList,by simp,h2⟩⟩
 simp only[Instr.build,Sem.run_bind,hzr,Result.andThen_ok,xM hu,hm];rw[zyK (q:=Hu P fs)]
 ·have:(ps.map fun(i,x)=>(i,a.eval x)).toList=ps.toList.map fun(i,x)=>(i,a.eval x):=by simp
  rw[this,h1];rfl
 ·intro i;unfold Hu;rw[Array.getElem?_map];cases hi:fs[i]? with
  |none=>rfl
  | some f=>
   have hmem:f∈fs.toList:=by
    have:fs.toList[i]? =some f:=by rw[zC];exact hi
    exact List.mem_of_getElem? this
   have:=List.all_eq_true.1 hall f hmem;obtain⟨n,hn⟩:=Option.isSome_iff_exists.1 this;simp[hn]
theorem H2{e:TypeId}{N:Nat}{z:AV}{ps:Array (Nat×Operand)}{qs:List (Nat×Nat×Opd)}{cs:List AV}{a:Act}
  (hu:P.underlying t=some (.array N e)) (hz:jL P t=some z) (hs:vT P e=some n) (hc:kU (fun i=>some (i*n,n)) ps.toList=some qs) (hf:jF z.cells tm qs=some cs) (ht:TmOn φ (Opd.tmps (qs.map (·.2.2))) tm a):
  ∃y,(Instr.build t (ps.map fun(i,x)=>(i,a.eval x))).run P w=.ok y w∧VR φ (.agg cs) y:=by
 obtain⟨zx,hzr,hzv⟩:=qL hz;obtain⟨ys,h1,h2⟩:=pf (a:=a) hc hf ht (hzv φ).cells;refine⟨.agg ys,?_,by simp only[VR];exact⟨ys.toList,by simp,h2⟩⟩
 simp only[Instr.build,Sem.run_bind,hzr,Result.andThen_ok,xM hu,wO hs];have:(ps.map fun(i,x)=>(i,a.eval x)).toList=ps.toList.map fun(i,x)=>(i,a.eval x):=by simp
 rw[this,h1];rfl
theorem zvo(r:Rel P w0 φ s.get w)(hwf:Wf s)(hf0:s.next<s'.next→φ s.next=none){e:TypeId}{len:Nat}{z:AV}{ps:Array (Nat×Operand)}{qs:List (Nat×Nat×Opd)}{a:Act}
  (hu:P.underlying t=some (.slice e)) (hs:vT P e=some n) (hz:jL P e=some z) (hb:(ze (len*n) 16777216&&zb (qg z.cells) n&&ze 1 n)=true)
  (hc:kU (fun i=>some (i*n,n)) ps.toList=some qs) (h:XE s e len (jF (reps len z.cells) tm qs)=some (v,s')) (ht:TmOn φ (Opd.tmps (qs.map (·.2.2))) tm a):
  ∃φ' y w',(Instr.buildSlice t len (ps.map fun(i,x)=>(i,a.eval x))).run P w=.ok y w'∧Step P w0 φ s w φ' s' w'∧VR φ' v y:=by
 obtain⟨zx,hzr,hzv⟩:=qL hz;simp only[zq,we,x9]at hb;obtain⟨⟨hb1,hb2⟩,hb3⟩:=hb;rw[wV,VRL.length (hzv φ).cells]at hb2;have hzl:zx.cells.toList.length=n:=hb2;cases hfc:jF (reps len z.cells) tm qs with
 |none=>rw[hfc]at h;simp[XE]at h
 | some cs=>
  rw[hfc]at h;simp only[XE]at h;have hmade:=Wk zx.cells.toList len oM;rw[hzl]at hmade;simp only[zS]at hmade;have hzz:VRL φ (reps len z.cells) ((zV (len*n)).map (fun i=>zx.cells[i%zx.cells.size]!)).toList:=by
   rw[hmade];exact VRL.reps (hzv φ).cells len
  obtain⟨ys,h1,h2⟩:=pf (a:=a) hc hfc ht hzz;have hrun:(Instr.buildSlice t len (ps.map fun(i,x)=>(i,a.eval x))).run P w=.ok (.slice (some ⟨w.heap.size,0,none⟩) len len) {w with heap:=w.heap.push (.cells ys e)}:=?_
  ·cases hm:(s.md&&xY cs)with
   |true=>
    rw[hm]at h;simp only[cond_true,Option.some.injEq,Prod.mk.injEq]at h;obtain⟨rfl,rfl⟩:=h;rw[zq]at hm;have st:=Step.frozen (w':={w with heap:=w.heap.push (.cells ys e)}) r (c:=ys) (e:=e) (fr:=(0,0)) (fun b hb=>by show (w.heap.push _)[b]? =_;rw[yh hb,zO hb]) (by simp) (by simp) rfl rfl rfl
    refine⟨_,_,_,hrun,st,VR.frozen (φ:=φ) (m:=ys.size) rfl hm.2 st.zsub (zu _) (fun _=>rfl) ?_⟩;rw[zK (by simp)];exact h2
   |false=>
    rw[hm]at h;simp only[cond_false,Option.some.injEq,Prod.mk.injEq]at h;obtain⟨rfl,rfl⟩:=h;have hst:=gW r hwf (hf0 (yc _)) e h2;rw[zS]at hst;exact⟨_,_,_,hrun,hst,zk8⟩
  have hpl:(ps.map fun(i,x)=>(i,a.eval x)).toList=ps.toList.map fun(i,x)=>(i,a.eval x):=by simp
  simp only[Instr.buildSlice,Sem.run_bind,xM hu,Result.andThen_ok,wO hs];rw[if_neg oM];by_cases h0:len*n=0
  ·rw[if_pos h0];have hl0:len=0:=by rcases Nat.mul_eq_zero.1 h0 with h|h<;>omega
   subst hl0;have e1:(zV (0*n)).map (fun i=>(#[]:Array Value)[i%(#[]:Array Value).size]!)=(zV (0*n)).map (fun i=>zx.cells[i%zx.cells.size]!):=by simp
   simp only[Sem.run_bind,Sem.run_pure,Result.andThen_ok];rw[e1,hpl,h1];simp only[Sem.run_bind,j5,Result.andThen_ok,Sem.run_pure]
  ·rw[if_neg h0];simp only[Sem.run_bind,hzr,Result.andThen_ok,Sem.run_pure];rw[hpl,h1];simp only[Sem.run_bind,j5,Result.andThen_ok,Sem.run_pure]
theorem Uo(r:Rel P w0 φ s.get w)(hwf:Wf s)(hf:φ s.next=none){um:Bool}(h:XF um s=some (v,s')):
  ∃φ',Step P w0 φ s w φ' s' {w with heap:=w.heap.push (.map #[] 0)}∧VR φ' v (.map (some w.heap.size)):=by
 unfold XF at h;cases h;refine⟨φ.set s.next ⟨w.heap.size,0,0⟩,Step.alloc r hwf hf rfl rfl rfl rfl (by cases um;exact⟨#[],vD _,by simp[EntRel]⟩;exact⟨#[],0,vD _,[],by simp,rfl,by simp,by simp,by simp⟩),?_⟩
 simp only[VR];exact⟨⟨w.heap.size,0,0⟩,by simp[Phi.set],rfl⟩
theorem zuJ(r:Rel P w0 φ s.get w)(hwf:Wf s)(hf0:φ s.next=none){e:TypeId}{b:Nat}{z l c:AV}{l' c':Value}
  (hu:P.underlying t=some (.slice e)) (hs:vT P e=some n) (hby:Vb P e=some b) (hz:jL P e=some z) (hb:(zb (qg z.cells) n&&ze 1 n)=true)
  (h:Jn s e b z.cells l c=some (v,s')) (hl:VR φ l l') (hc:VR φ c c'):∃φ' y w',(Instr.makeSlice t l' c').run P w=.ok y w'∧Step P w0 φ s w φ' s' w'∧VR φ' v y:=by
 obtain⟨zx,hzr,hzv⟩:=qL hz;obtain⟨i,hi,hib⟩:=YS hby;simp only[zq,we,x9]at hb;rw[wV,VRL.length (hzv φ).cells]at hb;have hzl:zx.cells.toList.length=n:=hb.1;unfold Jn at h;split at h
 ·rename_i ln
  split at h
  ·rename_i cn
   cases hbb:(ze ln cn&&ze (zc cn b) 281474976710656&&zg cn 9223372036854775808)with
   |false=>rw[hbb]at h;simp at h
   | true=>
    rw[hbb]at h;simp only[cond_true,Option.some.injEq,Prod.mk.injEq]at h;obtain⟨rfl,rfl⟩:=h;simp only[zq,x9,wK]at hbb;obtain⟨⟨h1,h2⟩,h3⟩:=hbb;have h2':cn*b≤281474976710656:=h2;simp only[VR]at hl hc;subst hl;subst hc;have hmade:=Wk zx.cells.toList cn oM;rw[hzl]at hmade;simp only[zS]at hmade;have hzz:VRL φ (reps cn z.cells) ((zV (cn*n)).map (fun i=>zx.cells[i%zx.cells.size]!)).toList:=by
     rw[hmade];exact VRL.reps (hzv φ).cells cn
    refine⟨_,_,_,?_,gW r hwf hf0 e hzz,zmQ⟩;have w1:IntKind.i64.wrap (zG ln)=(ln:Int):=py .i64 ln (by simp only[Jr];omega)
    have w2:IntKind.i64.wrap (zG cn)=(cn:Int):=py .i64 cn (by simp only[Jr];omega)
    simp only[Instr.makeSlice,Sem.run_bind,xM hu,Result.andThen_ok,asInt,asIntOf,Sem.run_pure,jk hi,hib,w1,w2];have hmul:¬((b:Int)*(cn:Int)>2^48):=by
     have e1:(b:Int)*(cn:Int)=((cn*b:Nat):Int):=by rw[yy];simp
     have e2:(2:Int)^48=281474976710656:=by decide
     rw[e1,e2];omega
    have hcond:¬((decide ((cn:Int)<0)||decide ((b:Int)*(cn:Int)>2^48)||decide ((ln:Int)<0)||decide ((ln:Int)>(cn:Int)))=true):=by
     rw[decide_eq_false (show ¬(cn:Int)<0 by omega),decide_eq_false hmul,decide_eq_false (show ¬(ln:Int)<0 by omega),decide_eq_false (show ¬(ln:Int)>(cn:Int) by omega)]
     simp
    rw[if_neg hcond];simp only[Sem.run_bind,run_askRoom,Result.andThen_ok,wO hs,zI,Sem.run_ite,Sem.run_pure,hzr,j5];by_cases h0:cn*n=0
    ·rw[if_pos h0,h0];simp[Array.range_zero']
    ·rw[if_neg h0]
  ·cases h
 ·cases h
theorem zyM{a:Addr}{k:Nat}(h:k≠a.block):(w.freeze a n).heap[k]? =w.heap[k]? :=by
 unfold World.freeze;split
 ·rfl
 ·simp[zL,Ne.symm h]
theorem GZ{a:Addr}:(w.freeze a n).heap.size=w.heap.size∧(w.freeze a n).os=w.os∧(w.freeze a n).tape=w.tape∧(w.freeze a n).output=w.output:=by
 unfold World.freeze;split
 ·exact⟨rfl,rfl,rfl,rfl⟩
 ·exact⟨by simp,rfl,rfl,rfl⟩
theorem zur{a:Addr}{c:Array Value}{e:TypeId}{fr:Nat×Nat}(hn:n≠0)(h:w.heap[a.block]? =some (.cells c e fr)):
  (w.freeze a n).heap[a.block]? =some (.cells c e (if fr.1==fr.2 then (a.off,a.off+n)else (min fr.1 a.off,max fr.2 (a.off+n)))):=by
 unfold World.freeze;rw[if_neg hn];simp[zL,h]
theorem zqv{fr:Nat×Nat}(hle:fr.1≤fr.2)(h:∀i,i<n→¬(fr.1≤i∧i<fr.2)):
  ∀i,i<n→¬((if fr.1==fr.2 then (n,n+1)else (min fr.1 n,max fr.2 (n+1))).1≤i∧i<(if fr.1==fr.2 then (n,n+1)else (min fr.1 n,max fr.2 (n+1))).2):=by
 intro i hi;by_cases e:fr.1=fr.2
 ·rw[show (fr.1==fr.2)=true from by simpa using e];simp;omega
 ·rw[show (fr.1==fr.2)=false from by simpa using e]
  simp only[zJ,if_false];intro ⟨h1,h2⟩;have hlt:fr.1<fr.2:=oM;by_cases h3:fr.1<n
  ·exact h fr.1 h3 ⟨zu _,hlt⟩
  ·simp only[Nat.min_def]at h1;split at h1<;>omega
theorem zmh{a:Nat}{fr:Nat×Nat}(hle:fr.1≤fr.2):(if fr.1==fr.2 then (a,a+n)else (min fr.1 a,max fr.2 (a+n))).1≤(if fr.1==fr.2 then (a,a+n)else (min fr.1 a,max fr.2 (a+n))).2:=by
 by_cases e:fr.1=fr.2
 ·rw[show (fr.1==fr.2)=true from by simpa using e];simp
 ·rw[show (fr.1==fr.2)=false from by simpa using e]
  simp only[zJ,if_false];omega
theorem Zv:∀l:List Nat,xY (ww l)=true
 |[]=>rfl
 |b::r=>by simp[ww,xY,wq,Zv r]
theorem zvL{st st':St}(r:Rel P w0 φ st.get w)(hwf:Wf st)(hff:st.next<st'.next→φ st.next=none){s d e:TypeId}{x:AV}{x':Value}(hs:P.underlying s=some .string)(hd:P.underlying d=some (.slice e))(he:P.underlying e=some (.int .u8))
  (h:Qz st e x=some (v,st')) (hx:VR φ x x'):∃φ' y w',(convert s d x').run P w=.ok y w'∧Step P w0 φ st w φ' st' w'∧VR φ' v y:=by
 unfold Qz at h;split at h
 ·rename_i t
  simp only[VR]at hx;obtain⟨bs,rfl,rfl⟩:=hx;cases hb:zg (qg (vo bs)) 9223372036854775808 with
  |false=>rw[hb]at h;simp at h
  | true=>
   rw[hb]at h;simp only[cond_true]at h;rw[wK]at hb;simp only[wV,qp]at hb h⊢;obtain⟨q,hq⟩:∃q,q=Question.appendCap bs.size 0 e:=⟨_,rfl⟩;obtain⟨cp,hcp⟩:∃cp,cp=q.cut (w.tape w.drawn q):=⟨_,rfl⟩;have hge:bs.size≤cp:=by rw[hcp,hq];simp[Question.cut]
   obtain⟨row,hrow⟩:∃row:Array Value,row=(bs.data.map fun b=>Value.int .u8 (b.toNat:Int))++Array.replicate (cp-bs.size) (.int .u8 0):=⟨_,rfl⟩;have hrs:row.size=cp:=by rw[hrow];simp;have:bs.data.size=bs.size:=rfl;omega
   obtain⟨w1,hw1⟩:∃w1:World,w1={w with heap:=w.heap.push (.cells row e),drawn:=w.drawn+1}:=⟨_,rfl⟩
   have hh1:w1.heap=w.heap.push (.cells row e):=by rw[hw1]
   have hnew:w1.heap[w.heap.size]? =some (.cells row e (0,0)):=by rw[hh1];simp
   have hsh:w1.shape? w.heap.size=some (e,row.size):=by simp[World.shape?,hnew]
   obtain⟨w2,hw2⟩:∃w2,w2=w1.freeze {block:=w.heap.size,off:=row.size} 1:=⟨_,rfl⟩;have hm:(markStringish ⟨w.heap.size,0,none⟩).run P w1=.ok () w2:=by rw[hw2];simp[markStringish,hsh]
   have hrun:(convert s d (.string bs)).run P w=.ok (.slice (some ⟨w.heap.size,0,none⟩) bs.size cp) w2:=by
    have hforced:q.forced=false:=by rw[hq];rfl
    simp only[convert,Sem.run_bind,xM hs,xM hd,xM he,Result.andThen_ok,Conv.stringToBytes,run_choose];rw[←hq,hforced];simp only[zJ,if_false,Result.andThen_ok,←hcp];have hnr:(newRow e ((bs.data.map fun b=>Value.int .u8 (b.toNat:Int))++Array.replicate (cp-bs.size) (.int .u8 0))).run P {w with drawn:=w.drawn+1}=.ok ⟨w.heap.size,0,none⟩ w1:=by
     rw[j5,hw1,hrow]
    rw[hnr];simp only[Result.andThen_ok,hm,Sem.run_pure]
   obtain⟨f1,f2,f3,f4⟩:=GZ (w:=w1) (a:={block:=w.heap.size,off:=row.size}) (n:=1);have hin:=zur (w:=w1) (a:={block:=w.heap.size,off:=row.size}) (n:=1) oM hnew;have hout:∀b,b≠w.heap.size→(w1.freeze {block:=w.heap.size,off:=row.size} 1).heap[b]? =w1.heap[b]? :=fun b hb=>zyM hb;rw[←hw2]at f1 f2 f3 f4 hin hout;have hcells:(row.toList.drop 0).take bs.size=bs.data.toList.map fun b=>Value.int .u8 (b.toNat:Int):=by
    rw[hrow];simp only[yl,Array.toList_append,Array.toList_map];rw[List.take_append_of_le_length (by simp)]
    rw[zK (by simp)]
   cases hmd:st.md with
   |true=>
    rw[hmd]at h;simp only[cond_true,Option.some.injEq,Prod.mk.injEq]at h;obtain⟨rfl,rfl⟩:=h;have st':=Step.frozen (w':=w2) r (fun b hb=>(hout b oM).trans (by rw[hh1,yh hb,zO hb])) (by rw[f1,hh1];simp) hin (f2.trans (by rw[hw1])) (f3.trans (by rw[hw1])) (f4.trans (by rw[hw1]))
    refine⟨_,_,_,hrun,st',VR.frozen (φ:=φ) (m:=bs.size) rfl (Zv _) st'.zsub hge (fun h=>by cases h) ?_⟩
    rw[yl]at hcells;rw[hcells];exact lW _
   |false=>
   rw[hmd]at h;simp only[cond_false,Option.some.injEq,Prod.mk.injEq]at h;obtain⟨rfl,rfl⟩:=h;have hf:=hff (yc _);have hsub:=Phi.set_sub (B:=⟨w.heap.size,0,cp⟩) hf;have hst:Step P w0 φ st w (φ.set st.next ⟨w.heap.size,0,cp⟩) (st.alloc (.row e (ww (vo bs)) true false)) w1:=by
    refine Step.alloc r hwf hf hh1 (by rw[hw1]) (by rw[hw1]) (by rw[hw1]) ?_
    refine⟨row,(0,0),hnew,by rw[hrs];simp,by rw[kc,qp];exact hge,(fun h=>by cases h),?_,zu _,fun _ i _=>by simp⟩
    have e1:(row.toList.drop 0).take (ww (vo bs)).length=bs.data.toList.map fun b=>Value.int .u8 (b.toNat:Int):=by
     rw[kc,qp,hcells]
    rw[e1];exact lW _
   have hstep2:Step P w0 φ st w (φ.set st.next ⟨w.heap.size,0,cp⟩) (st.alloc (.row e (ww (vo bs)) true false)) w2:=by
    refine⟨hst.ext,⟨⟨f2.trans hst.rel.base.os,f3.trans hst.rel.base.tape,f4.trans hst.rel.base.output,by rw[f1];exact hst.rel.base.size,fun k hk=>(hout k (by have:=r.base.size;omega)).trans (hst.rel.base.block k hk)⟩,?_,?_,hst.rel.old,hst.rel.inj,?_,hst.rel.sep⟩,hst.same,by rw[f1];exact hst.size,?_,hst.own,hst.zsub,hst.zown⟩
    ·intro id o hg;obtain⟨B,hB,t⟩:=hst.rel.obj id o hg;refine⟨B,hB,?_⟩;by_cases e2:B.b=w.heap.size
     · --it is the new row
      have hid:id=st.next:=by
       by_cases e3:id=st.next
       ·exact e3
       ·exfalso
        rw[show (φ.set st.next _) id=φ id from if_neg e3]at hB
        have:=(r.rng id B hB);omega
      subst hid;have ho:o=.row e (ww (vo bs)) true false:=by
       have:=wl hg;rw[show (st.alloc _).objs=st.objs.set st.next _ from rfl,Trie.get_set_same]at this
       exact(Option.some.inj this).symm
      subst ho;obtain⟨c,fr,g1,g2,g3,g4,g5,g6,g7⟩:=t;rw[e2]at g1;rw[hnew]at g1;cases g1;refine⟨row,_,by rw[e2];exact hin,g2,g3,g4,g5,zmh g6,fun hz=>zqv g6 (g7 hz)⟩
     ·exact t.keep (Sub.refl _) (hout _ e2)
    ·intro id B hB;rw[f1];exact hst.rel.rng id B hB
    ·intro b i v hv;have hlt:=r.zlt (b:=b) (o:=i) (v:=v) hv;obtain⟨c,e',fr,g1,g2⟩:=hst.rel.frz b i v hv;exact⟨c,e',fr,(hout b oM).trans g1,g2⟩
    ·intro b hb H;exact(hout b oM).trans (hst.frame b hb H)
   refine⟨_,_,w2,hrun,hstep2,?_⟩
   ·simp only[VR];refine⟨⟨w.heap.size,0,cp⟩,cp,by simp[Phi.set],by simp,oM,by simp,hge,zQ _⟩
 ·cases h
end Go.Proofs.YtbddpjboppmnfaaGreatDoor.Ev

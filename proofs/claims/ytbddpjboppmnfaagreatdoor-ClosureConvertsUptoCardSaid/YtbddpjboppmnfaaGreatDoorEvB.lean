/- A part of the evaluator and of its soundness: what it answers, the model's run answers. No conditions. -/
import Derived.Test.YtbddpjboppmnfaaGreatDoorEvA
import Derived.WalkKit
import Derived.Laws.IdiomCopy
import Derived.Laws.Externs
set_option linter.unusedSimpArgs false
set_option linter.unusedVariables false
set_option linter.defProp false
open List renaming length → zR, map_cons → ye, getElem?_drop → yg, getElem?_take → yh, map_append → yj, take_of_length_le → yq, cons_append → yu, take_succ_eq_append_getElem → yA, mem_singleton → yF, length_cons → yJ, eraseIdx_cons_succ → yL, foldl_cons → yM, sublist_cons_self → yP, drop_drop → yQ, drop_zero → yR, getElem?_eq_none → yS, modify_succ_cons → yT, set_append_right → yU, drop_set_of_lt → yW
open Bool renaming eq_false_iff → zY, and_eq_true → zU, false_eq_true → ym
open Nat renaming beq → zI, blt → zL, le_refl → zX, ble → zM, add_assoc → yw, beq_eq → zW, zero_le → yz, blt_eq → yC, lt_succ_self → yK, mul_comm → yY, sub_self → yZ, mul → zK
open Array renaming getElem?_toList → yd, getElem?_modify → yr, getElem?_eq_getElem → yx, toArray_toList → yB, range → yE, toList_setIfInBounds → yG, eraseIdxIfInBounds → yH, getElem?_push_lt → yO, toList_modify → yV, forIn_toList → yX
open Int renaming ofNat → yi, toNat_natCast → yl, natCast_nonneg → yy, negSucc_eq → yD
open List.Sublist renaming append_left → yI
open Option renaming map_some → yN
namespace Go.Proofs.YtbddpjboppmnfaaGreatDoor.Ev
variable {w X:World}{I:Phi}{P:Program}{t e kt:TypeId}{v x p u:Z}{n b k clk i off m esz d h o:Nat}{s s':U}{x' k' y i' m' v':Value}{cs vs:zA}{A:zB}{a:Act}{xs:zE}{l:zh}{B:Blk}{r:Bool}
open Go.RowKit (Below)
mutual
theorem JD(I:Phi):∀(n:Nat) (v:Value) (a:Z),cValF n v=some a->VR I a v
 |0,_,_,h=>by simp[cValF]at h
 | n+1,v,a,h=>by
  unfold cValF at h;split at h
  .cases h;simp[VR]
  .cases h;simp[VR]
  .cases h;simp only[VR];exact⟨_,rfl,rfl⟩
  .cases h;simp[VR]
  .cases h;simp[VR]
  .cases h;simp[VR]
  .rename_i f first cap
   cases hb:(first.isEmpty&&cap.isEmpty)with
   |false=>rw[hb]at h;simp at h
   |true=>
    rw[hb]at h;simp at h;subst h;simp only[zU,Array.isEmpty_iff]at hb;obtain⟨rfl,rfl⟩:=hb;simp only[VR];exact⟨[],[],rfl,VRL.nil I,VRL.nil I⟩
  .cases h;simp[VR]
  .cases h;simp[VR]
  .rename_i cs
   cases hg:cValF.go n cs.toList with
   |none=>rw[hg]at h;simp at h
   |some l=>rw[hg]at h;simp at h;subst h;simp only[VR];exact⟨cs.toList,by simp,G2 I n cs.toList l hg⟩
  .rename_i cs
   cases hg:cValF.go n cs.toList with
   |none=>rw[hg]at h;simp at h
   |some l=>rw[hg]at h;simp at h;subst h;simp only[VR];exact⟨cs.toList,by simp,G2 I n cs.toList l hg⟩
  .cases h
theorem G2(I:Phi):∀(n:Nat) (vs:zE) (l:zA),cValF.go n vs=some l->VRL I l vs
 |n,[],l,h=>by simp[cValF.go]at h;subst h;exact VRL.nil I
 | n,v::r,l,h=>by
  unfold cValF.go at h;cases h1:cValF n v with
  |none=>rw[h1]at h;simp at h
  | some a=>
   cases h2:cValF.go n r with
   |none=>rw[h1,h2]at h;simp at h
   |some m=>
    rw[h1,h2]at h;simp at h;subst h;exact VRL.cons (JD I n v a h1) (G2 I n r m h2)
end
def Ga(I:Phi){v:Value}{a:Z}(h:RP v=some a):VR I a v:=JD I 4 v a h
def TmOn(I:Phi)(ts:zy)(A:zB)(a:Act):Prop:=∀t∈ts,∀v,A.get t=some v->VR I v (a.tmps.getD t undef)
def TmOn.of{ts:zy}(h:TmRel I A a.tmps):TmOn I ts A a:=λt _ v hv=>h t v hv
def TmOn.sub{ts us:zy}(h:TmOn I ts A a)(hs:∀t∈us,t∈ts):TmOn I us A a:=λt ht=>h t (hs t ht)
def wM{x:Operand}{y:Opd}(hc:vP x=some y)(he:y.ev A=some v)(ht:TmOn I y.tmp A a):VR I v (a.eval x):=by
 cases x with
 |tmp t=>
  simp[vP]at hc;subst hc;exact ht t (by simp[Opd.tmp]) v he
 |const c=>
  simp only[vP]at hc;cases h:RP c with
  |none=>rw[h]at hc;simp at hc
  |some u=>rw[h]at hc;simp at hc;subst hc;simp[Opd.ev]at he;subst he;exact Ga I h
 |global g=>simp[vP]at hc;subst hc;simp[Opd.ev]at he;subst he;simp[VR,Act.eval]
 |func f=>simp[vP]at hc;subst hc;simp[Opd.ev]at he;subst he;simp only[VR,Act.eval];exact⟨[],[],rfl,VRL.nil I,VRL.nil I⟩
def gO{I:Phi}{A:zB}{a:Act}:∀{xs:List Operand} {ys:List Opd} {vs:zA},Yj xs=some ys->evL A ys=some vs->TmOn I (Opd.tmps ys) A a->VRL I vs (xs.map a.eval)
 |[],ys,vs,hc,he,_=>by simp[Yj]at hc;subst hc;simp[evL]at he;subst he;exact VRL.nil I
 | x ::xs,ys,vs,hc,he,ht=>by
  unfold Yj at hc;cases h1:vP x with
  |none=>rw[h1]at hc;simp at hc
  | some y=>
   cases h2:Yj xs with
   |none=>rw[h1,h2]at hc;simp at hc
   | some l=>
    rw[h1,h2]at hc;simp at hc;subst hc;unfold evL at he;cases e1:y.ev A with
    |none=>rw[e1]at he;simp at he
    | some v=>
     cases e2:evL A l with
     |none=>rw[e1,e2]at he;simp at he
     |some us=>
      rw[e1,e2]at he;simp at he;subst he;refine VRL.cons (wM h1 e1 (ht.sub ?_)) (gO h2 e2 (ht.sub ?_))
      .intro t h;simp[Opd.tmps];exact .inl h
      .intro t h;simp[Opd.tmps]at h|-;exact .inr h
def OR(I:Phi):zC->Option Value->Prop
 |none,y=>y=none
 |some v,y=>∃x,y=some x/\VR I v x
def Zq{x:Option Operand}{y:Option Opd}{v:zC}(hc:K9 x=some y)(he:evO A y=some v)(ht:TmOn I (Opd.tmps y.toList) A a):OR I v (x.map a.eval):=by
 cases x with
 |none=>simp[K9]at hc;subst hc;simp[evO]at he;subst he;simp[OR]
 | some x=>
  simp only[K9]at hc;cases h1:vP x with
  |none=>rw[h1]at hc;simp at hc
  | some y'=>
   rw[h1]at hc;simp at hc;subst hc;simp only[evO]at he;cases e1:y'.ev A with
   |none=>rw[e1]at he;simp at he
   |some v'=>
    rw[e1]at he;simp at he;subst he;exact⟨_,rfl,wM h1 e1 (ht.sub (by intro t h;simp[Opd.tmps];exact h))⟩
def gK{c:zr}{fr:Nat×Nat}(h:w.heap[b]? =some (.cells c e fr)):w.cell? ⟨b,i,none⟩=c[i]? :=by simp[World.cell?,h]
def Xc{c:zr}{fr:Nat×Nat}(h:w.heap[b]? =some (.cells c e fr)):w.frozen? ⟨b,i,none⟩=(decide (fr.1<=i)&&decide (i<fr.2)):=by simp[World.frozen?,h]
def uJ(b o n:Nat):Addr.add ⟨b,o,none⟩ n=⟨b,o+n,none⟩:=by unfold Addr.add;split<;>simp_all
def Ka{v:Value}{c:zr}{fr:Nat×Nat}(h:w.heap[b]? =some (.cells c e fr)):
  (w.setCell ⟨b,o,none⟩ v).heap[b]? =some (.cells (c.setIfInBounds o v) e fr):=by
 simp[World.setCell,yr,h]
def U5{v:Value}(h:k≠b):(w.setCell ⟨b,o,none⟩ v).heap[k]? =w.heap[k]? :=by
 simp[World.setCell,yr,Ne.symm h]
def lD:∀(vs:zE) (w:World) (b o:Nat),(w.setCells b o vs).heap.size=w.heap.size/\(w.setCells b o vs).os=w.os/\(w.setCells b o vs).tape=w.tape/\(w.setCells b o vs).output=w.output/\
  ∀k,k≠b->(w.setCells b o vs).heap[k]? =w.heap[k]?
 |[],w,b,o=>⟨rfl,rfl,rfl,rfl,λ_ _=>rfl⟩
 |v::r,w,b,o=>by
  obtain⟨h1,h2,h3,h4,h5⟩:=lD r (w.setCell ⟨b,o,none⟩ v) b (o+1);exact⟨h1.trans (by simp),h2,h3,h4,λk hk=>(h5 k hk).trans (U5 hk)⟩
def ZW:∀(vs:zE) (w:World) (b o:Nat) (c:zr) (e:TypeId) (fr:Nat×Nat),w.heap[b]? =some (.cells c e fr)->o+zR vs<=c.size->
  ∃c':zr,(w.setCells b o vs).heap[b]? =some (.cells c' e fr)/\c'.toList=c.toList.take o++vs++c.toList.drop (o+zR vs)
 |[],w,b,o,c,e,fr,h,_=>⟨c,h,by simp⟩
 | v::r,w,b,o,c,e,fr,h,hl=>by
  have hl':o+(r.length+1)<=c.size:=hl;obtain⟨c',h1,h2⟩:=ZW r (w.setCell ⟨b,o,none⟩ v) b (o+1) (c.setIfInBounds o v) e fr (Ka h) (by simp;omega)
  refine⟨c',h1,h2.trans ?_⟩;have hlt:o<zR c.toList:=by simp;omega
  rw[yG];have e1:(c.toList.set o v).take (o+1)=c.toList.take o++[v]:=by
   have hm:(c.toList.take o).length=o:=by rw[List.length_take];omega
   rw[List.take_set,yA hlt,yU _ _ J,hm];simp
  have e2:(c.toList.set o v).drop (o+1+r.length)=c.toList.drop (o+(r.length+1)):=by
   rw[yW J];congr 1;omega
  rw[e1,e2];simp
def qm(G:List zA)(X:World):Prop:=
 ∀g cs,G[g]? =some cs->cs≠[]->g<X.heap.size/\∃c e fr,X.heap[g]? =some (.cells c e fr)/\zR cs<=c.size/\∀I,VRL I cs (c.toList.take (zR cs))
def jv{G:List zA}(r:Rel P X I s.get w)(hG:qm G X){x:Value}
  (h:jE G s p n=some cs) (hv:VR I p x):∃(a:Addr) (xs:zE),x=.pointer (some a)/\List.length xs=n/\VRL I cs xs/\∀j v,xs[j]? =some v->w.cell? (a.add j)=some v:=by
 unfold jE at h;split at h
 .rename_i Y off
  split at h
  .rename_i e cells ext fz hg
   simp only[VR]at hv;obtain⟨B,hB,rfl⟩:=hv;obtain⟨B',hB',c,fr,h1,h2,h3,h4,h5,h6⟩:=r.obj Y _ hg;rw[hB]at hB';cases hB';obtain⟨hl,hb,rfl⟩:=cut_some h;refine⟨_,(((c.toList.drop B.o).take (zR cells)).drop off).take n,rfl,?_,h5.cut h,?_⟩
   .have:=VRL.length h5;rcases hb with hb|hb
    .simp at this|-;omega
    .subst hb;simp
   .intro j v hj;rw[uJ,gK h1];rw[yh]at hj;split at hj
    .rename_i hlt
     rw[yg,yh]at hj;split at hj
     .rw[yg]at hj;rw[show B.o+off+j=B.o+(off+j) by omega,<-yd];exact hj
     .cases hj
    .cases hj
  .rename_i cells hg
   simp only[VR]at hv;obtain⟨B,hB,rfl⟩:=hv;obtain⟨B',hB',c,e,fr,h1,h2,h5⟩:=r.obj Y _ hg;rw[hB]at hB';cases hB';obtain⟨hl,hb,rfl⟩:=cut_some h;refine⟨_,(((c.toList.drop B.o).take (zR cells)).drop off).take n,rfl,?_,h5.cut h,?_⟩
   .have:=VRL.length h5;rcases hb with hb|hb
    .simp at this|-;omega
    .subst hb;simp
   .intro j v hj;rw[uJ,gK h1];rw[yh]at hj;split at hj
    .rename_i hlt
     rw[yg,yh]at hj;split at hj
     .rw[yg]at hj;rw[show B.o+off+j=B.o+(off+j) by omega,<-yd];exact hj
     .cases hj
    .cases hj
  .cases h
 .rename_i g off
  split at h
  .rename_i cells hg
   simp only[VR]at hv;subst hv;by_cases hne:cells=[]
   .subst hne;obtain⟨hl,hb,he⟩:=cut_some h;have h0:n=0:=by
     rcases hb with hb|hb
     .simp at hb;omega
     .exact hb
    subst h0;exact⟨_,[],rfl,rfl,by rw[he];simpa using VRL.nil I,λj v hj=>by simp at hj⟩
   obtain⟨hlt,c,e,fr,h1,h2,h3⟩:=hG g cells hg hne;have hw:w.heap[g]? =some (.cells c e fr):=(r.base.block g hlt).trans h1;obtain⟨hl,hb,rfl⟩:=cut_some h;refine⟨_,((c.toList.take (zR cells)).drop off).take n,rfl,?_,(h3 I).cut h,?_⟩
   .rcases hb with hb|hb
    .simp;omega
    .subst hb;simp
   .intro j v hj;rw[uJ,gK hw];rw[yh]at hj;split at hj
    .rw[yg,yh]at hj;split at hj
     .rw[<-yd];exact hj
     .cases hj
    .cases hj
  .cases h
 .rename_i cells
  simp only[VR]at hv;obtain⟨_,b,o,ys,rfl,hz,hy⟩:=hv;obtain⟨r',e,hl⟩:=lZ h;subst e;refine⟨_,ys.take n,rfl,?_,?_,λj v hj=>?_⟩
  .have:=hy.length;simp at this|-;omega
  .have:=hy.take n;rw[<-hl]at this|-;simpa using this
  .rw[yh]at hj;split at hj
   .obtain⟨c,e,fr,h1,h2⟩:=r.frz _ _ _ (hz.at hj);rw[uJ,gK h1];exact h2
   .cases hj
 .cases h
def cO{x:Value}(h:VR I v x)(hs:vF v=true):x.oneCell'=true:=by
 cases v<;>simp[vF]at hs<;>simp only[VR]at h<;>
  first
   |(obtain⟨_,⟨_,_,rfl⟩|⟨b,o,k,ys,rfl,_⟩⟩:=h<;>rfl)
   |(obtain⟨_,_,_,_,B,ys,_,rfl,_⟩:=h;rfl)
   |(obtain⟨_,b,o,ys,rfl,_⟩:=h;rfl)
   |(subst h;rfl)
   |(obtain⟨_,rfl,_⟩:=h;rfl)
   |(obtain⟨_,_,rfl⟩:=h;rfl)
   |(obtain⟨_,_,_,rfl,_⟩:=h;rfl)
   |(obtain⟨_,_,rfl,_⟩:=h;rfl)
def gG{I:Phi}:∀{vs:zA} {xs:zE},VRL I vs xs->w8 vs=true->∀x∈xs,x.oneCell'=true
 |[],_,h,_,x,hx=>by simp only[VRL]at h;subst h;simp at hx
 | v::vs,_,h,hs,x,hx=>by
  simp only[VRL]at h;obtain⟨y,ys,rfl,h1,h2⟩:=h;unfold w8 at hs;cases hb:vF v with
  |false=>rw[hb]at hs;simp at hs
  |true=>
   rw[hb]at hs;simp at hs;rcases List.mem_cons.1 hx with rfl|hx
   .exact cO h1 hb
   .exact gG h2 hs x hx
def DX(r:Rel P X I s.get w){Y:Nat}{e:Nat}{cells cells':zA}{ext fz:Bool}
  (hg:s.get Y=some (.row e cells ext fz)) (hB:I Y=some B) (hfz:fz=false) (hs:w8 vs=true) (hp:ki cells off vs=some cells') (hx:VRL I vs xs):
  ∃w',(storeCells ⟨B.b,B.o+off,none⟩ xs).run P w=.ok () w'/\Step P X I s w I (s.put Y (.row e cells' ext fz)) w':=by
 obtain⟨B',hB',c,fr,h1,h2,h3,h4,h5,h6⟩:=r.obj Y _ hg;rw[hB]at hB';cases hB';obtain⟨hb,rfl⟩:=Vp hp;have hxl:=VRL.length hx;have hcl:=VRL.length h5;by_cases h0:vs=[]
 .subst h0;simp only[List.length_nil]at hxl;have:xs=[]:=List.eq_nil_of_length_eq_zero hxl.symm;subst this;refine⟨w,rfl,Step.put r hg hB (λ_ _=>rfl) rfl rfl rfl rfl ?_⟩;exact⟨c,fr,h1,h2,by simpa using h3,by simpa using h4,by simpa using h5,h6⟩
 .have hb':off+zR vs<=zR cells:=hb.resolve_right h0
  have hrun:=run_storeCells_cells (P:=P) B.b (B.o+off) xs 0 w
   (λj hj=>by rw[gK h1];simp;omega)
   (λj hj=>by
    rw[Xc h1];have:=h6.2 hfz (B.o+off+0+j) J;simp at this|-;exact this)
   (gG hx hs)
  refine⟨_,hrun,?_⟩;obtain⟨f1,f2,f3,f4,f5⟩:=lD xs w B.b (B.o+off+0);obtain⟨c',g1,g2⟩:=ZW xs w B.b (B.o+off+0) c e fr h1 J;refine Step.put r hg hB f5 f1 f2 f3 f4 ?_;have hsz:c'.size=c.size:=by rw[<-Array.length_toList,g2];simp;omega
  have hlen:(cells.take off++vs++cells.drop (off+zR vs)).length=zR cells:=by simp;omega
  refine⟨c',fr,g1,hsz.trans h2,by rw[hlen];exact h3,by rw[hlen];exact h4,?_,h6.1,λhz=>by rw[hsz];exact h6.2 hz⟩
  rw[hlen,g2]
  have key:(List.drop B.o (c.toList.take (B.o+off+0)++xs++c.toList.drop (B.o+off+0+zR xs))).take (zR cells)
    =((c.toList.drop B.o).take (zR cells)).take off++xs++((c.toList.drop B.o).take (zR cells)).drop (off+zR vs):=by
   rw[List.append_assoc,List.drop_append_of_le_length (by simp;omega),List.drop_take]
   have a1:B.o+off+0-B.o=off:=J;rw[a1,List.take_append];have a2:((c.toList.drop B.o).take off).length=off:=by simp;omega
   rw[a2,List.take_append];rw[List.take_take,List.take_take,Nat.min_comm];rw[List.append_assoc];have a3:(List.take (zR cells-off) xs)=xs:=yq J;rw[a3]
   congr 1
   congr 1
   rw[List.drop_take,yQ];have a4:zR cells-off-zR xs=zR cells-(off+zR vs):=J;have a5:B.o+off+0+zR xs=B.o+(off+zR vs):=J;rw[a4,a5]
  rw[key];exact VRL.append (VRL.append (h5.take off) hx) (h5.drop (off+zR vs))
def Xt(r:Rel P X I s.get w){x:Value}
  (h:gB s p vs=some s') (hv:VR I p x) (hx:VRL I vs xs):∃(a:Addr) (w':World),x=.pointer (some a)/\(storeCells a xs).run P w=.ok () w'/\Step P X I s w I s' w':=by
 unfold gB at h;split at h
 .rename_i Y off
  split at h
  .rename_i e cells ext fz hg
   cases hb:(fz|| !w8 vs)with
   |true=>rw[hb]at h;simp at h
   | false=>
    rw[hb]at h;simp only[wK]at h;cases hp:ki cells off vs with
    |none=>rw[hp]at h;simp at h
    |some cells'=>
     rw[hp]at h;simp only[wB]at h;subst h;simp only[VR]at hv;obtain⟨B,hB,rfl⟩:=hv;simp at hb;obtain⟨w',h1,h2⟩:=DX r hg hB hb.1 hb.2 hp hx;exact⟨_,w',rfl,h1,h2⟩
  .cases h
 .cases h
def qA{a:Nat}:zL a b=true↔a<b:=by rw[yC]
def Bu{a:Nat}(h:¬a<b):Nat.blt a b=false:=by rw[Bool.eq_false_iff,ne_eq,Nat.blt_eq];exact h
def qd{a:Nat}:zM a b=true↔a<=b:=by rw[Nat.ble_eq]
def ql{a:Nat}:zI a b=true↔a=b:=by rw[zW]
section tables
variable {P:Program}{w:World}
def JT(h:jU P t=some n):∃i,P.info? t=some i/\i.size=n:=by
 unfold jU at h;cases hi:P.info? t with
 |none=>rw[hi]at h;simp at h
 |some i=>rw[hi]at h;simp at h;exact⟨i,rfl,h⟩
def gF{i:TypeInfo}(h:P.info? t=some i):(typeInfo t).run P w=.ok i w:=by simp[typeInfo,h]
def wl{d:TypeDesc}(h:P.underlying t=some d):(underlying t).run P w=.ok d w:=by simp[underlying,h]
def qI(h:jU P t=some n):(sizeOf t).run P w=.ok n w:=by
 obtain⟨i,hi,rfl⟩:=JT h;simp[sizeOf,gF hi]
def Vt(h:K7 P t=some n):∃i,P.info? t=some i/\i.bytes=n:=by
 unfold K7 at h;cases hi:P.info? t with
 |none=>rw[hi]at h;simp at h
 |some i=>rw[hi]at h;simp at h;exact⟨i,rfl,h⟩
def uA{z:Z}(h:lH P t=some z):∃x,(∀w,(zeroValue t).run P w=.ok x w)/\∀I,VR I z x:=by
 unfold lH at h;cases hi:P.info? t with
 |none=>rw[hi]at h;simp at h
 | some i=>
  rw[hi]at h;simp only[Option.bind_some]at h;cases hz:i.zero with
  |none=>rw[hz]at h;simp at h
  |some x=>
   rw[hz]at h;simp only[Option.bind_some]at h;exact⟨x,λw=>by simp[zeroValue,gF hi,hz],λI=>Ga I h⟩
def Xq{b:Bool}(h:H7 P t=some b):(isAgg t).run P w=.ok b w:=by
 unfold H7 at h;split at h
 .rename_i hu;cases h;simp[isAgg,wl hu]
 .rename_i hu;cases h;simp[isAgg,wl hu]
 .rename_i d hn1 hn2 hu;cases h
  simp only[isAgg,Sem.run_bind,wl hu,Result.andThen_ok];cases d<;>simp_all
 .cases h
end tables
def pB:∀a b:Int,ltI a b=decide (a<b)
 |.ofNat a,.ofNat b=>by
  show zL a b=_;by_cases h:a<b
  .rw[show zL a b=true from qA.2 h];exact(qL (Int.ofNat_lt.2 h)).symm
  .rw[show zL a b=false from by rw[zY,ne_eq,yC];exact h];exact(qy (λh'=>h (Int.ofNat_lt.1 h'))).symm
 |.ofNat a,.negSucc b=>by simp only[ltI];symm;apply qy;have:=Int.negSucc_lt_zero b;have:(0:Int)<=yi a:=yy a;omega
 |.negSucc a,.ofNat b=>by simp only[ltI];symm;apply qL;have:=Int.negSucc_lt_zero a;have:(0:Int)<=yi b:=yy b;omega
 |.negSucc a,.negSucc b=>by
  show zL b a=_;by_cases h:b<a
  .rw[show zL b a=true from qA.2 h];symm;apply qL;rw[yD,yD];omega
  .rw[show zL b a=false from by rw[zY,ne_eq,yC];exact h];symm;apply qy;rw[yD,yD];omega
def j6:∀a b:Int,eqI a b=(a==b)
 | .ofNat a,.ofNat b=>by
  show zI a b=_;by_cases h:a=b
  .subst h;simp
  .rw[show zI a b=false from by rw[zY,ne_eq,zW];exact h]
   symm;rw[beq_eq_false_iff_ne];intro e;exact h (Int.ofNat.inj e)
 |.ofNat a,.negSucc b=>by simp[eqI]
 |.negSucc a,.ofNat b=>by simp[eqI]
 | .negSucc a,.negSucc b=>by
  show zI a b=_;by_cases h:a=b
  .subst h;simp
  .rw[show zI a b=false from by rw[zY,ne_eq,zW];exact h]
   symm;rw[beq_eq_false_iff_ne];intro e;exact h (Int.negSucc.inj e)
theorem Qh(k k':IntKind):j8 k k'=decide (k=k'):=by cases k<;>cases k'<;>rfl
def Xv(k:IntKind)(a:Nat)(h:a<Lt k):k.wrap (Int.ofNat a)=Int.ofNat a:=by
 have h1:(yi a)=(a:Int):=rfl;rw[h1];cases k<;>simp only[Lt]at h<;>simp only[IntKind.wrap,IntKind.bits,IntKind.signed]<;>simp<;>omega
theorem pq(k:IntKind)(n:Int):ji k n=k.wrap n:=by
 cases n with
 |ofNat a=>
  show (bif zL a (Lt k)then yi a else k.wrap (.ofNat a))=_;cases h:zL a (Lt k)with
  |false=>rfl
  |true=>exact(Xv k a (qA.1 h)).symm
 |negSucc a=>rfl
theorem PG(a b:Int):decide (a<=b)= !decide (b<a):=by
 by_cases h:b<a
 .rw[qL h,qy J];rfl
 .rw[qy h,qL J];rfl
def mW{op:BinOp}{k k':IntKind}{a b:Int}(I:Phi)(h:jl op k a k' b=some v):
  ∃x,(binOp op t (.int k a) (.int k' b)).run P w=.ok x w/\VR I v x:=by
 unfold jl at h;split at h
 · --shl
  cases hb:ltI b 0 with
  |true=>rw[hb]at h;simp at h
  |false=>
   rw[hb]at h;simp only[wK,wB]at h;subst h;rw[pB]at hb;simp at hb;exact⟨_,by simp[binOp,Op.shift];rw[wx J],by simp[VR,pq]⟩
 .cases hb:ltI b 0 with
  |true=>rw[hb]at h;simp at h
  |false=>
   rw[hb]at h;simp only[wK,wB]at h;subst h;rw[pB]at hb;simp at hb;exact⟨_,by simp[binOp,Op.shift];rw[wx J],by simp[VR]⟩
 .rename_i hn1 hn2
  cases hk:j8 k k' with
  |false=>rw[hk]at h;simp at h
  | true=>
   rw[hk]at h;simp only[wy]at h;rw[Qh]at hk;simp at hk;subst hk;split at h
   .cases h;exact⟨_,by simp[binOp,Op.intArith];rfl,by simp only[VR,pq];rfl⟩
   .cases h;exact⟨_,by simp[binOp,Op.intArith];rfl,by simp only[VR,pq];rfl⟩
   .cases h;exact⟨_,by simp[binOp,Op.intArith];rfl,by simp only[VR,pq];rfl⟩
   .cases hb:eqI b 0 with
    |true=>rw[hb]at h;simp at h
    |false=>
     rw[hb]at h;simp only[wK,wB]at h;subst h;rw[j6]at hb;simp at hb;exact⟨_,by simp[binOp,Op.intDiv];rw[wx hb],by simp[VR,pq]⟩
   .cases hb:eqI b 0 with
    |true=>rw[hb]at h;simp at h
    |false=>
     rw[hb]at h;simp only[wK,wB]at h;subst h;rw[j6]at hb;simp at hb;exact⟨_,by simp[binOp,Op.intDiv];rw[wx hb],by simp[VR]⟩
   .cases h;exact⟨_,by simp[binOp,Op.intCmp];rfl,by simp[VR,j6]⟩
   .cases h;exact⟨_,by simp[binOp,Op.intCmp];rfl,by simp[VR,j6,bne]⟩
   .cases h;exact⟨_,by simp[binOp,Op.intCmp];rfl,by simp[VR,pB]⟩
   .cases h;exact⟨_,by simp[binOp,Op.intCmp];rfl,by simp only[VR,pB,PG]⟩
   .cases h;exact⟨_,by simp[binOp,Op.intCmp];rfl,by simp[VR,pB]⟩
   .cases h;exact⟨_,by simp[binOp,Op.intCmp];rfl,by simp only[VR,pB,PG]⟩
   .rename_i hbits
    cases hb:bits op k a b with
    |none=>rw[hb]at h;simp at h
    |some r=>
     rw[hb]at h;simp only[wB]at h;subst h;refine⟨.int k r,?_,by simp[VR]⟩
     cases op<;>simp only[bits,wB]at hb<;>first|(cases hb;done)|(subst hb;simp only[binOp,Op.intBits];simp)
theorem eR(op:BinOp)(t:TypeId)(x y:Operand)(k:IntKind)(n:Int)(v:Value):(eqGuard op t x y (.int k n) v).run P w=.ok () w:=by rw[eqGuard_at_int];rfl
theorem GD(op:BinOp)(t:TypeId)(x y:Operand)(s:ByteArray)(v:Value):(eqGuard op t x y (.string s) v).run P w=.ok () w:=by rw[eqGuard_at_string];rfl
def vO(s:ByteArray):(jk s).length=s.size:=by simp[jk]
def QN:∀{a b:List UInt8},a.map (·.toNat)=b.map (·.toNat)->a=b
 |[],[],_=>rfl
 |[],_::_,h=>by simp at h
 |_::_,[],h=>by simp at h
 |x::a,y::b,h=>by
  simp only[ye,vc]at h;rw[UInt8.toNat_inj.1 h.1,QN h.2]
def UY:∀a b:zy,eqS a b=(a==b)
 |[],[]=>rfl
 |[],_::_=>rfl
 |_::_,[]=>rfl
 | x::a,y::b=>by
  show (bif zI x y then eqS a b else false)=_;rw[List.cons_beq_cons,UY a b];have:zI x y=(x==y):=by
   by_cases h:x=y
   .subst h;simp
   .rw[beq_eq_false_iff_ne.2 h,zY,ne_eq,zW];exact h
  rw[this];cases (x==y)<;>simp
def K4(s t:ByteArray):(s.toList==t.toList)=(jk s==jk t):=by
 rw[ByteArray.toList_eq,ByteArray.toList_eq];by_cases h:s.data.toList=t.data.toList
 .have:jk s=jk t:=by unfold jk;rw[h]
  rw[h,this];simp
 .have h':jk s≠jk t:=λe=>h (QN e);rw[beq_eq_false_iff_ne.2 h,beq_eq_false_iff_ne.2 h']
def MH:∀a b:List UInt8,ltS (a.map (·.toNat)) (b.map (·.toNat))=Op.bytesLess a b
 |[],[]=>rfl
 |_::_,[]=>rfl
 |[],_::_=>rfl
 | x::a,y::b=>by
  show (bif zL x.toNat y.toNat then true else bif zI x.toNat y.toNat then ltS (a.map (·.toNat)) (b.map (·.toNat))else false)=(decide (x<y)||(x==y&&Op.bytesLess a b))
  rw[MH a b];have h1:zL x.toNat y.toNat=decide (x<y):=by
   by_cases h:x<y
   .rw[qL h];exact qA.2 (UInt8.lt_iff_toNat_lt.1 h)
   .rw[qy h,zY,ne_eq,yC];exact λe=>h (UInt8.lt_iff_toNat_lt.2 e)
  have h2:zI x.toNat y.toNat=(x==y):=by
   by_cases h:x=y
   .subst h;simp
   .rw[beq_eq_false_iff_ne.2 h,zY,ne_eq,zW];exact λe=>h (UInt8.toNat_inj.1 e)
  rw[h1,h2];cases decide (x<y)<;>cases (x==y)<;>simp
def f6(s t:ByteArray):jk (s++t)=jk s++jk t:=by simp[jk]
def mX{op:BinOp}{s u:ByteArray}(I:Phi)(h:Bt op (jk s) (jk u)=some v):
  ∃x,(binOp op t (.string s) (.string u)).run P w=.ok x w/\VR I v x:=by
 have e1:eqS (jk s) (jk u)=(s.toList==u.toList):=by rw[UY,K4]
 have e2:ltS (jk s) (jk u)=Op.bytesLess s.toList u.toList:=by rw[ByteArray.toList_eq,ByteArray.toList_eq];exact MH _ _
 cases op<;>simp only[Bt]at h
 case add=>
  cases hb:zL (Nat.add (vC (jk s)) (vC (jk u))) 9223372036854775808 with
  |false=>rw[hb]at h;simp at h
  |true=>
   rw[hb]at h;simp only[wy,wB]at h;subst h;rw[yC,qT,qT,vO,vO]at hb;have hb':s.size+u.size<9223372036854775808:=hb;refine⟨.string (s++u),?_,by simp only[VR];exact⟨_,rfl,f6 s u⟩⟩
   simp only[binOp,Op.stringOp];rw[wx]
   .rfl
   .simp[IntKind.max,IntKind.signed,IntKind.bits];omega
 all_goals first
  |(cases h;done)
  |(cases h;exact⟨_,by simp[binOp,Op.stringOp];rfl,by simp[VR,e1,e2]⟩)
def sC{op:BinOp}{y:Z}{y':Value}{ox oy:Operand}(h:EF op x y=some v)(hx:VR I x x')(hy:VR I y y'):
  ∃z,(do eqGuard op t ox oy x' y';binOp op t x' y':Sem Value).run P w=.ok z w/\VR I v z:=by
 unfold EF at h;split at h
 .rename_i k a
  split at h
  .simp only[VR]at hx hy;subst hx;subst hy;obtain⟨z,h1,h2⟩:=mW (P:=P) (w:=w) (t:=t) I h;exact⟨z,by rw[Sem.run_bind,eR];exact h1,h2⟩
  .cases h
 .rename_i a
  split at h
  .simp only[VR]at hx hy;obtain⟨s,rfl,rfl⟩:=hx;obtain⟨u,rfl,rfl⟩:=hy;obtain⟨z,h1,h2⟩:=mX (P:=P) (w:=w) (t:=t) I h;exact⟨z,by rw[Sem.run_bind,GD];exact h1,h2⟩
  .cases h
 .cases h
def EK{op:UnOp}(h:vUn op x=some v)(hx:VR I x x'):∃z,(Op.unary op x').run P w=.ok z w/\VR I v z:=by
 unfold vUn at h;split at h
 .split at h
  .cases h;simp only[VR]at hx;subst hx;exact⟨_,by simp only[Op.unary,Op.intArith];rfl,by simp only[VR,pq];rfl⟩
  .cases h
 .split at h
  .cases h;simp only[VR]at hx;subst hx;exact⟨_,by simp[Op.unary];rfl,by simp[VR]⟩
  .cases h
 .split at h
  .rename_i k n
   simp only[VR]at hx;subst hx;cases hb:bits .xor k (bif k.signed then -1 else k.max) n with
   |none=>rw[hb]at h;simp at h
   |some r=>
    rw[hb]at h;simp only[wB]at h;subst h;simp only[bits,wB]at hb;subst hb;refine⟨_,by simp only[Op.unary,Op.intBits];rfl,?_⟩
    simp only[VR];cases k.signed<;>simp
  .cases h
 .cases h
def Cm{f:FK}{a b:Z}{x:Value}(ht:fkT P t=some f)(d:Nat)(h:eq1 f a b=some r)(hx:VR I a x)(hy:VR I b y):
  (Op.equalIn (d+1) t x y).run P w=.ok r w:=by
 unfold fkT at ht;split at ht
 .rename_i k0 hu;cases ht
  simp only[eq1]at h;split at h
  .rename_i k m k' n
   cases hkk:j8 k k' with
   |false=>rw[hkk]at h;simp at h
   |true=>
    rw[hkk]at h;simp only[wy,wB]at h;subst h;rw[Qh]at hkk;simp at hkk;subst hkk;simp only[VR]at hx hy;subst hx;subst hy;rw[run_equalIn_int w d t k k0 m n hu,j6]
  .cases h
 .rename_i hu;cases ht
  simp only[eq1]at h;split at h
  .cases h;simp only[VR]at hx hy;obtain⟨s,rfl,rfl⟩:=hx;obtain⟨u,rfl,rfl⟩:=hy;rw[run_equalIn_string w d t s u hu,UY,K4]
  .cases h
 .rename_i hu;cases ht
  simp only[eq1]at h;split at h
  .cases h;simp only[VR]at hx hy;subst hx;subst hy;exact run_equalIn_bool' w d t _ _ hu
  .cases h
 .cases ht
def Mv{f:FK}(ht:fkT P t=some f):(isAgg t).run P w=.ok false w:=by
 unfold fkT at ht;split at ht
 .rename_i hu;simp[isAgg,wl hu]
 .rename_i hu;simp[isAgg,wl hu]
 .rename_i hu;simp[isAgg,wl hu]
 .cases ht
def AI{f:FK}{xs:zr}{x:Value}(ht:fkT P t=some f)(h:xs[i]? =some x):(part t xs i).run P w=.ok x w:=by
 simp[part,Mv ht,h]
def V2 {P:Program}{w:World}{I:Phi}(d:Nat){xs ys:zr}:∀{fs:List Field} {i:Nat} {ks:List FK} {a b:zA} {r:Bool},lS P fs i=some ks->Zk ks a b=some r->
  VRL I a (xs.toList.drop i)->VRL I b (ys.toList.drop i)->(Op.eqFields (d+1) xs ys fs).run P w=.ok r w
 |[],i,ks,a,b,r,hf,he,ha,hb=>by
  simp[lS]at hf;subst hf;cases a<;>cases b<;>simp[Zk]at he
  subst he;simp[Op.eqFields]
 | f :: fs,i,ks,a,b,r,hf,he,ha,hb=>by
  simp only[lS]at hf;cases hc:(f.offset==i&&f.name != "_")with
  |false=>rw[hc]at hf;simp at hf
  | true =>
   rw[hc]at hf;simp only[wy]at hf;simp at hc;obtain⟨ho,hn⟩:=hc;cases h1:fkT P f.type with
   |none=>rw[h1]at hf;simp at hf
   | some k=>
    cases h2:lS P fs (i+1)with
    |none=>rw[h1,h2]at hf;simp at hf
    | some l=>
     rw[h1,h2]at hf;simp at hf;subst hf;cases a with
     |nil=>simp[Zk]at he
     | cons u a=>
      cases b with
      |nil=>simp[Zk]at he
      | cons v b=>
       simp only[VRL]at ha hb;obtain⟨x,xs',ex,hx,ha⟩:=ha;obtain⟨y,ys',ey,hy,hb⟩:=hb;have gx:xs[i]? =some x:=by
        have:=congrArg (·[0]?) ex;simp at this;exact this
       have gy:ys[i]? =some y:=by
        have:=congrArg (·[0]?) ey;simp at this;exact this
       have dx:xs.toList.drop (i+1)=xs':=by rw[<-yQ,ex];rfl
       have dy:ys.toList.drop (i+1)=ys':=by rw[<-yQ,ey];rfl
       simp only[Zk]at he;have hp:f.name≠ "_":=hn;simp only[Op.eqFields,hp,ne_eq,not_false_eq_true,if_true,Sem.run_bind,ho,AI h1 gx,AI h1 gy,Result.andThen_ok];cases he1:eq1 k u v with
       |none=>rw[he1]at he;simp at he
       | some r1=>
        rw[he1]at he;rw[Cm h1 d he1 hx hy];cases r1 with
        |true=>
         simp only[]at he;simp only[Result.andThen_ok,Bool.not_true,ym,if_false];exact V2 d h2 he (dx▸ha) (dy▸hb)
        |false=>
         simp only[]at he;cases he2:Zk l a b with
         |none=>rw[he2]at he;simp at he
         |some r2=>rw[he2]at he;simp at he;subst he;simp
def qW{x:Value}{neg:Bool}(hx:(∀k n,x≠.int k n)/\(∀s,x≠.string s)/\(∀k n,x≠.float k n)/\(∀k n m,x≠.complex k n m))
  (h:(Op.equalIn (9999+1) t x y).run P w=.ok r w):(binOp (bif neg then .neq else .eql) t x y).run P w=.ok (.bool (bif neg then !r else r)) w:=by
 have he:(Op.equal t x y).run P w=.ok r w:=h;obtain⟨h1,h2,h3,h4⟩:=hx;cases neg<;>cases x<;>simp_all [binOp]
section eqIn
variable {P:Program}{w:World}{t:TypeId}(d:Nat)
def UX(hu:P.underlying t=some (.pointer e))(b:Option Addr):(Op.equalIn (d+1) t (.pointer none) (.pointer b)).run P w=.ok b.isNone w:=by simp[Op.equalIn,wl hu]
def Pk(hu:P.underlying t=some (.pointer e))(a:Addr):(Op.equalIn (d+1) t (.pointer (some a)) (.pointer none)).run P w=.ok false w:=by simp[Op.equalIn,wl hu]
theorem Sl(hu:P.underlying t=some (.pointer e))(hs:(sizeOf e).run P w=.ok (n+1) w)(b o o':Nat):
  (Op.equalIn (d+1) t (.pointer (some ⟨b,o,none⟩)) (.pointer (some ⟨b,o',none⟩))).run P w=.ok (decide ((⟨b,o,none⟩:Addr)=⟨b,o',none⟩)) w:=by
 have hne:¬(n+1=0):=J;simp only[Op.equalIn,Sem.run_bind,wl hu,Result.andThen_ok,hs,Sem.run_ite,ne_eq,hne,not_false_eq_true,if_true,sameAddr,beq_self_eq_true,Sem.run_pure];rfl
def Ym(hu:P.underlying t=some (.slice e))(b:Option Addr)(n m k l:Nat):(Op.equalIn (d+1) t (.slice none n m) (.slice b k l)).run P w=.ok b.isNone w:=by simp[Op.equalIn,wl hu]
def Qa(hu:P.underlying t=some (.slice e))(a:Addr)(n m k l:Nat):(Op.equalIn (d+1) t (.slice (some a) n m) (.slice none k l)).run P w=.ok false w:=by simp[Op.equalIn,wl hu]
def Pj{k:TypeId}(hu:P.underlying t=some (.map k e))(b:zD):(Op.equalIn (d+1) t (.map none) (.map b)).run P w=.ok b.isNone w:=by simp[Op.equalIn,wl hu]
def Co{k:TypeId}(hu:P.underlying t=some (.map k e))(a:Nat):(Op.equalIn (d+1) t (.map (some a)) (.map none)).run P w=.ok false w:=by simp[Op.equalIn,wl hu]
def Cp{a b:Array TypeId}{v:Bool}(hu:P.underlying t=some (.func a b v)):(Op.equalIn (d+1) t .nilFunc .nilFunc).run P w=.ok true w:=by simp[Op.equalIn,wl hu]
def og{a b:Array TypeId}{v:Bool}(hu:P.underlying t=some (.func a b v))(f:Fn)(x y:zr):(Op.equalIn (d+1) t .nilFunc (.func f x y)).run P w=.ok false w:=by simp[Op.equalIn,wl hu]
def Cn{a b:Array TypeId}{v:Bool}(hu:P.underlying t=some (.func a b v))(f:Fn)(x y:zr):(Op.equalIn (d+1) t (.func f x y) .nilFunc).run P w=.ok false w:=by simp[Op.equalIn,wl hu]
def Cq{ms:Array (String×TypeId)}(hu:P.underlying t=some (.interface ms)):(Op.equalIn (d+1) t .nilIface .nilIface).run P w=.ok true w:=by simp[Op.equalIn,wl hu]
def GE{ms:Array (String×TypeId)}(hu:P.underlying t=some (.interface ms))(u:TypeId)(x:Value):(Op.equalIn (d+1) t .nilIface (.iface u x)).run P w=.ok false w:=by simp[Op.equalIn,wl hu]
def Pi{ms:Array (String×TypeId)}(hu:P.underlying t=some (.interface ms))(u:TypeId)(x:Value):(Op.equalIn (d+1) t (.iface u x) .nilIface).run P w=.ok false w:=by simp[Op.equalIn,wl hu]
end eqIn
def Ug{x:Operand}(h:Region.isConst x=true):∃c,x=.const c:=by
 cases x with
 |const c=>exact⟨c,rfl⟩
 |tmp _=>cases h
 |global _=>cases h
 |func _=>cases h
def Pl {_w0:World}{ox oy:Operand}{k0:EqK}{a b:Z}{x:Value}{neg:Bool}
  (hk:oh P t=some k0) (h:eqV (gH k0 ox oy) a b=some r) (hx:VR I a x) (hy:VR I b y):
  (do eqGuard (bif neg then .neq else .eql) t ox oy x y;binOp (bif neg then .neq else .eql) t x y:Sem Value).run P w=.ok (.bool (bif neg then !r else r)) w:=by
 unfold oh at hk;split at hk
 .cases hk;simp[gH,eqV]at h
 .cases hk;simp[gH,eqV]at h
 · --bool
  rename_i hu;cases hk;simp only[gH,eqV]at h
  split at h
  .cases h;simp only[VR]at hx hy;subst hx;subst hy;rw[Sem.run_bind,eqGuard_at_bool];exact qW (by simp) (run_equalIn_bool' w _ t _ _ hu)
  .cases h
 · -- pointers
  rename_i e hu
  split at hk
  .rename_i n hsz;cases hk;simp only[gH,eqV]at h
   have hs0:(sizeOf e).run P w=.ok (n+1) w:=qI hsz;split at h
   .cases h;simp only[VR]at hx hy;subst hx;subst hy;rw[Sem.run_bind,eqGuard_at_pointer];exact qW (by simp) (UX 9999 hu none)
   .cases h;simp only[VR]at hx hy;obtain⟨B,hB,rfl⟩:=hy;subst hx;rw[Sem.run_bind,eqGuard_at_pointer];exact qW (by simp) (UX 9999 hu (some _))
   .cases h;simp only[VR]at hx hy;obtain⟨B,hB,rfl⟩:=hx;subst hy;rw[Sem.run_bind,eqGuard_at_pointer];exact qW (by simp) (Pk 9999 hu _)
   .cases h;simp only[VR]at hx hy;obtain⟨_,b,o,ys,rfl,_⟩:=hy;subst hx;rw[Sem.run_bind,eqGuard_at_pointer];exact qW (by simp) (UX 9999 hu (some _))
   .cases h;simp only[VR]at hx hy;obtain⟨_,b,o,ys,rfl,_⟩:=hx;subst hy;rw[Sem.run_bind,eqGuard_at_pointer];exact qW (by simp) (Pk 9999 hu _)
   .rename_i i o i' o'
    cases hb:zI i i' with
    |false=>rw[hb]at h;simp at h
    | true=>
     rw[hb]at h;simp only[wy,wB]at h;subst h;rw[ql]at hb;subst hb;simp only[VR]at hx hy;obtain⟨B,hB,rfl⟩:=hx;obtain⟨B',hB',rfl⟩:=hy;rw[hB]at hB';cases hB';rw[Sem.run_bind,eqGuard_at_pointer];have e1:zI o o'=decide ((⟨B.b,B.o+o,none⟩:Addr)=⟨B.b,B.o+o',none⟩):=by
      by_cases e:o=o'
      .subst e;simp
      .have e':¬((⟨B.b,B.o+o,none⟩:Addr)=⟨B.b,B.o+o',none⟩):=λh=>e (by have:=congrArg Addr.off h;simp only at this;omega)
       rw[qy e',zY,ne_eq,zW];exact e
     rw[e1];exact qW (by simp) (Sl 9999 hu hs0 _ _ _)
   .cases h
  .cases hk
 · --slices
  rename_i hu;cases hk;simp only[gH,eqV]at h
  split at h
  .cases h;simp only[VR]at hx hy;subst hx;subst hy;rw[Sem.run_bind,eqGuard_at_slice];exact qW (by simp) (Ym 9999 hu none _ _ _ _)
  .cases h;simp only[VR]at hx hy;subst hx;obtain⟨B,k,hB,rfl,_⟩:=hy;rw[Sem.run_bind,eqGuard_at_slice];exact qW (by simp) (Ym 9999 hu (some _) _ _ _ _)
  .cases h;simp only[VR]at hx hy;subst hy;obtain⟨B,k,hB,rfl,_⟩:=hx;rw[Sem.run_bind,eqGuard_at_slice];exact qW (by simp) (Qa 9999 hu _ _ _ _ _)
  .cases h;simp only[VR]at hx hy;subst hx;obtain⟨a,k,rfl⟩:=hy;rw[Sem.run_bind,eqGuard_at_slice];exact qW (by simp) (Ym 9999 hu (some _) _ _ _ _)
  .cases h;simp only[VR]at hx hy;subst hy;obtain⟨a,k,rfl⟩:=hx;rw[Sem.run_bind,eqGuard_at_slice];exact qW (by simp) (Qa 9999 hu _ _ _ _ _)
  .rename_i n ex cs
   cases hb:zI n 0 with
   |true=>rw[hb]at h;simp at h
   |false=>
    rw[hb]at h;simp only[wK,wB]at h;subst h;simp only[VR]at hx hy;subst hx;obtain⟨_,⟨rfl,_⟩|⟨b,o,k,ys,rfl,_⟩⟩:=hy
    .simp at hb
    .rw[Sem.run_bind,eqGuard_at_slice];exact qW (by simp) (Ym 9999 hu (some _) _ _ _ _)
  .rename_i n ex cs
   cases hb:zI n 0 with
   |true=>rw[hb]at h;simp at h
   |false=>
    rw[hb]at h;simp only[wK,wB]at h;subst h;simp only[VR]at hx hy;subst hy;obtain⟨_,⟨rfl,_⟩|⟨b,o,k,ys,rfl,_⟩⟩:=hx
    .simp at hb
    .rw[Sem.run_bind,eqGuard_at_slice];exact qW (by simp) (Qa 9999 hu _ _ _ _ _)
  .cases h;simp only[VR]at hx hy;subst hx;obtain⟨_,_,_,_,B,ys,_,rfl,_⟩:=hy;rw[Sem.run_bind,eqGuard_at_slice];exact qW (by simp) (Ym 9999 hu (some _) _ _ _ _)
  .cases h;simp only[VR]at hx hy;subst hy;obtain⟨_,_,_,_,B,ys,_,rfl,_⟩:=hx;rw[Sem.run_bind,eqGuard_at_slice];exact qW (by simp) (Qa 9999 hu _ _ _ _ _)
  .cases h
 · --maps
  rename_i hu;cases hk;simp only[gH,eqV]at h
  split at h
  .cases h;simp only[VR]at hx hy;subst hx;subst hy;rw[Sem.run_bind,eqGuard_at_map];exact qW (by simp) (Pj 9999 hu none)
  .cases h;simp only[VR]at hx hy;subst hx;obtain⟨B,hB,rfl⟩:=hy;rw[Sem.run_bind,eqGuard_at_map];exact qW (by simp) (Pj 9999 hu (some _))
  .cases h;simp only[VR]at hx hy;subst hy;obtain⟨B,hB,rfl⟩:=hx;rw[Sem.run_bind,eqGuard_at_map];exact qW (by simp) (Co 9999 hu _)
  .cases h
 · --functions
  rename_i hu;cases hk;simp only[gH,eqV]at h
  split at h
  .cases h;simp only[VR]at hx hy;subst hx;subst hy;rw[Sem.run_bind,eqGuard_at_nilFunc];exact qW (by simp) (Cp 9999 hu)
  .cases h;simp only[VR]at hx hy;subst hx;obtain⟨u,v,rfl,_⟩:=hy;rw[Sem.run_bind,eqGuard_at_nilFunc];exact qW (by simp) (og 9999 hu _ _ _)
  .cases h;simp only[VR]at hx hy;subst hy;obtain⟨u,v,rfl,_⟩:=hx;rw[Sem.run_bind,eqGuard_at_func];exact qW (by simp) (Cn 9999 hu _ _ _)
  .cases h
 · -- interfaces
  rename_i hu;cases hk;simp only[gH]at h
  cases hc:(Region.isConst ox||Region.isConst oy)with
  |false=>
   rw[hc]at h;simp only[wK,eqV]at h;split at h
   .cases h;simp only[VR]at hx hy;subst hx;obtain⟨u,rfl,_⟩:=hy;rw[Sem.run_bind,eqGuard_nil_iface];exact qW (by simp) (GE 9999 hu _ _)
   .cases h;simp only[VR]at hx hy;subst hy;obtain⟨u,rfl,_⟩:=hx;rw[Sem.run_bind,eqGuard_at_iface];exact qW (by simp) (Pi 9999 hu _ _)
   .cases h
  | true=>
   rw[hc]at h;simp only[wy,eqV]at h;split at h
   .cases h;simp only[VR]at hx hy;subst hx;subst hy;have hg:(eqGuard (bif neg then .neq else .eql) t ox oy .nilIface .nilIface).run P w=.ok () w:=by
     rw[Bool.or_eq_true]at hc;rcases hc with hc|hc
     .obtain⟨c,rfl⟩:=Ug hc;rw[eqGuard_nil_constL];rfl
     .obtain⟨c,rfl⟩:=Ug hc;rw[eqGuard_nil_constR];rfl
    rw[Sem.run_bind,hg];exact qW (by simp) (Cq 9999 hu)
   .cases h;simp only[VR]at hx hy;subst hx;obtain⟨u,rfl,_⟩:=hy;rw[Sem.run_bind,eqGuard_nil_iface];exact qW (by simp) (GE 9999 hu _ _)
   .cases h;simp only[VR]at hx hy;subst hy;obtain⟨u,rfl,_⟩:=hx;rw[Sem.run_bind,eqGuard_at_iface];exact qW (by simp) (Pi 9999 hu _ _)
   .cases h
 · -- structs
  rename_i fs hu
  split at hk
  .rename_i ks hks
   cases hc:(!P.eqGuardType P.depth t&& !P.stoodInHeld t)with
   |false=>rw[hc]at hk;simp at hk
   | true=>
    rw[hc]at hk;simp only[wy,wB]at hk;subst hk;simp at hc;simp only[gH,eqV]at h;split at h
    .simp only[VR]at hx hy;obtain⟨xs,rfl,hx⟩:=hx;obtain⟨ys,rfl,hy⟩:=hy;have hf:P.fieldsOf t=fs:=by simp[Program.fieldsOf,hu]
     have hrun:(Op.equalIn (9999+1) t (.agg xs.toArray) (.agg ys.toArray)).run P w=.ok r w:=by
      rw[run_equalIn_struct w 9999 t _ _ (by rw[hf];exact hu) hc.2,hf]
      exact V2 (P:=P) (w:=w) (I:=I) 9998 hks h (by simpa using hx) (by simpa using hy)
     rw[Sem.run_bind,run_eqGuard_agg w _ t ox oy _ _ hc.1];exact qW (by simp) hrun
    .cases h
  .cases hk
 .cases hk
def Kl{s d:TypeId}{u:TypeDesc}{k:IntKind}(hs:P.underlying s=some u)(hd:P.underlying d=some (.int k))(h:vCi k x=some v)(hx:VR I x x'):
  ∃z,(convert s d x').run P w=.ok z w/\VR I v z:=by
 unfold vCi at h;split at h
 .cases h;simp only[VR]at hx;subst hx;refine⟨_,?_,by simp only[VR];rfl⟩
  rw[pq];simp only[convert,Sem.run_bind,wl hs,wl hd,Result.andThen_ok];cases u<;>rfl
 .cases h
def VT(a b:Nat):zM a b=decide (a<=b):=by
 cases h:zM a b with
 |true=>exact(qL (qd.1 h)).symm
 |false=>exact(qy (λh'=>by rw[qd.2 h']at h;cases h)).symm
def VU(a b:Nat):zL a b=decide (a<b):=by
 cases h:zL a b with
 |true=>exact(qL (qA.1 h)).symm
 |false=>exact(qy (λh'=>by rw[qA.2 h']at h;cases h)).symm
def EL(c:Nat):Utf8.valid (yi c)=vz c:=by
 unfold Utf8.valid vz;rw[Int.ofNat_eq_natCast,VU,VT,VT];have e0:decide ((0:Int)<=(c:Int))=true:=qL J;have e1:decide ((c:Int)<0xD800)=decide (c<55296):=decide_eq_decide.2 J;have e2:decide ((0xE000:Int)<=(c:Int))=decide (57344<=c):=decide_eq_decide.2 J;have e3:decide ((c:Int)<=0x10FFFF)=decide (c<=1114111):=decide_eq_decide.2 J;rw[e0,e1,e2,e3,Bool.true_and];cases decide (c<55296)with
 |true=>rw[Bool.true_or,wy]
 |false=>rw[Bool.false_or,wK]
theorem WR{α:Type}{a:Nat}{x y:α}:(bif zL a b then x else y)=if a<b then x else y:=by
 cases h:zL a b with
 |true=>rw[wH (qA.1 h)];rfl
 |false=>rw[wx (λh'=>by rw[qA.2 h']at h;cases h)];rfl
def YJ{I:Phi}:∀(l:List UInt8),VRL I (qo (l.map (·.toNat))) (l.map λb=>Value.int .u8 (b.toNat:Int))
 |[]=>VRL.nil I
 |b::r=>VRL.cons (by simp only[VR];rfl) (YJ r)
def l7:∀l:zy,(qo l).length=zR l
 |[]=>rfl
 |_::r=>by simp[qo,l7 r]
def Yc{I:Phi}:∀{l:zA} {b:zy} {xs:zE},kW l=some b->VRL I l xs->∃us:List UInt8,b=us.map (·.toNat)/\xs=us.map λu=>Value.int .u8 (u.toNat:Int)
 |[],b,xs,h,hx=>by simp[kW]at h;subst h;simp only[VRL]at hx;subst hx;exact⟨[],rfl,rfl⟩
 | v ::r,b,xs,h,hx=>by
  simp only[kW]at h;split at h
  .rename_i n
   cases hb:zL n 256 with
   |false=>rw[hb]at h;simp at h
   | true=>
    rw[hb]at h;simp only[wy]at h;cases hr:kW r with
    |none=>rw[hr]at h;simp at h
    |some l=>
     rw[hr]at h;simp at h;subst h;simp only[VRL]at hx;obtain⟨y,ys,rfl,h1,h2⟩:=hx;obtain⟨us,rfl,rfl⟩:=Yc hr h2;simp only[VR]at h1;subst h1;have hlt:=qA.1 hb;have e:(UInt8.ofNat n).toNat=n:=by simp;omega
     exact⟨UInt8.ofNat n::us,by simp only[ye,e],by simp only[ye,e];rfl⟩
  .cases h
def Jl(s:ByteArray):∀us:List UInt8,(us.foldl (λ(s:ByteArray) u=>s.push u) s).data.toList=s.data.toList++us
 |[]=>by simp
 |u::us=>by rw[yM,Jl];simp[ByteArray.push]
def Ya{P:Program}{w:World}(g:Value->ByteArray->Sem (ForInStep ByteArray))(hg:∀n r,g (.int .u8 n) r=pure (ForInStep.yield (r.push (UInt8.ofNat n.toNat)))):∀(us:List UInt8) (s:ByteArray),
  (forIn (us.map λu=>Value.int .u8 (u.toNat:Int)) s g).run P w=.ok (us.foldl (λ(s:ByteArray) u=>s.push u) s) w
 |[],s=>by simp
 |u::us,s=>by
  simp only[ye,List.forIn_cons,yM,hg,Sem.run_bind,Sem.run_pure,Result.andThen_ok];have:UInt8.ofNat ((u.toNat:Int)).toNat=u:=by simp
  rw[this];exact Ya g hg us (s.push u)
def BC{st:U}(r:Rel P X I st.get w){s d:TypeId}(hs:P.underlying s=some (.slice e))(hd:P.underlying d=some .string)(he:P.underlying e=some (.int .u8))
  (h:EH st x=some v) (hx:VR I x x'):∃z,(convert s d x').run P w=.ok z w/\VR I v z:=by
 have core:∀(n k:Nat) (cs:zA) (b o:Nat),UH (km (qf n cs))=some v->VR I (.vp cs) (.pointer (some ⟨b,o,none⟩))->∃z,(convert s d (.slice (some ⟨b,o,none⟩) n k)).run P w=.ok z w/\VR I v z:=by
  intro n k cs b o h hv;have hl:∃l b,qf n cs=some l/\kW l=some b/\v=.str b:=by
   cases hc:qf n cs with
   |none=>rw[hc]at h;simp[km,UH]at h
   |some l=>
    rw[hc]at h;simp only[km]at h;cases hu:kW l with
    |none=>rw[hu]at h;simp[UH]at h
    |some b=>rw[hu]at h;simp[UH]at h;exact⟨l,b,rfl,hu,h.symm⟩
  obtain⟨l,b',hc,hu,rfl⟩:=hl;have hld:jE [] st (.vp cs) n=some l:=hc;obtain⟨a,xs,ea,hlen,hxs,hcell⟩:=jv r (G:=[]) (λg cs h=>by simp at h) hld hv
  cases ea;obtain⟨us,rfl,rfl⟩:=Yc hu hxs;have hrun:=run_loadCells_list (P:=P) w ⟨b,o,none⟩ _ hcell;rw[hlen]at hrun;refine⟨.string (us.foldl (λ(s:ByteArray) u=>s.push u) .empty),?_,by simp only[VR];exact⟨_,rfl,by unfold jk;rw[Jl];rfl⟩⟩
  simp only[convert,Sem.run_bind,wl hs,wl hd,wl he,Result.andThen_ok,Conv.bytesToString,hrun];rw[<-yX,Ya _ (λn r=>rfl) us ByteArray.empty];simp
 unfold EH at h;split at h
 .cases h;simp only[VR]at hx;subst hx;exact⟨.string .empty,by simp[convert,wl hs,wl hd,wl he,Conv.bytesToString],by simp only[VR];exact⟨_,rfl,rfl⟩⟩
 .cases h;simp only[VR]at hx;obtain⟨a,k,rfl⟩:=hx;refine⟨.string .empty,?_,by simp only[VR];exact⟨_,rfl,rfl⟩⟩
  simp[convert,wl hs,wl hd,wl he,Conv.bytesToString,loadCells,loadCellsFrom]
 .rename_i Y off n c
  have key:∀cells,(∀l,cut cells off n=some l->jE [] st (.ptr Y off) n=some l)->UH (km (cut cells off n))=some v->∃z,(convert s d x').run P w=.ok z w/\VR I v z:=by
   intro cells hlc h;have hl:∃l b,cut cells off n=some l/\kW l=some b/\v=.str b:=by
    cases hc:cut cells off n with
    |none=>rw[hc]at h;simp[km,UH]at h
    |some l=>
     rw[hc]at h;simp only[km]at h;cases hu:kW l with
     |none=>rw[hu]at h;simp[UH]at h
     |some b=>rw[hu]at h;simp[UH]at h;exact⟨l,b,rfl,hu,h.symm⟩
   obtain⟨l,b,hc,hu,rfl⟩:=hl;simp only[VR]at hx;obtain⟨B,k,hB,rfl,_⟩:=hx;have hld:jE [] st (.ptr Y off) n=some l:=hlc l hc;obtain⟨a,xs,ea,hlen,hxs,hcell⟩:=jv r (G:=[]) (λg cs h=>by simp at h) hld (x:=.pointer (some ⟨B.b,B.o+off,none⟩)) (by simp only[VR];exact⟨B,hB,rfl⟩)
   cases ea;obtain⟨us,rfl,rfl⟩:=Yc hu hxs;have hrun:=run_loadCells_list (P:=P) w ⟨B.b,B.o+off,none⟩ _ hcell;rw[hlen]at hrun;refine⟨.string (us.foldl (λ(s:ByteArray) u=>s.push u) .empty),?_,by simp only[VR];exact⟨_,rfl,by unfold jk;rw[Jl];rfl⟩⟩
   simp only[convert,Sem.run_bind,wl hs,wl hd,wl he,Result.andThen_ok,Conv.bytesToString,hrun];rw[<-yX,Ya _ (λn r=>rfl) us ByteArray.empty];simp
  split at h
  .rename_i t cells ext fz hg
   exact key cells (λl hc=>by simp only[jE,hg];exact hc) h
  .rename_i cells hg
   exact key cells (λl hc=>by simp only[jE,hg];exact hc) h
  .cases h
 .rename_i n ex cs
  simp only[VR]at hx;obtain⟨hp,⟨rfl,a,rfl⟩|⟨b,o,k,ys,rfl,_,_,hz,hy⟩⟩:=hx
  .simp only[qf,km,kW,UH,wB]at h;subst h;refine⟨.string .empty,?_,by simp only[VR];exact⟨_,rfl,rfl⟩⟩
   cases a<;>simp[convert,wl hs,wl hd,wl he,Conv.bytesToString,loadCells,loadCellsFrom]
  .exact core n k cs b o h (by simp only[VR];exact⟨hp,b,o,ys,rfl,hz,hy⟩)
 .rename_i Y e' n cs
  simp only[VR]at hx;obtain⟨hp,_,_,_,B,ys,_,rfl,_,hz,hy⟩:=hx;exact core n _ cs B.b B.o h (by simp only[VR];exact⟨hp,B.b,B.o,ys,rfl,hz,hy⟩)
 .cases h
def Yi{i:zC}{i':Option Value}(h:bnd d i n=some k)(hi:OR I i i'):
  (i'=none/\i=none/\k=d)\/∃x,i'=some x/\i≠none/\k<=n/\∀code,(Instr.sliceBound x n code).run P w=.ok k w:=by
 unfold bnd at h;split at h
 .cases h;simp only[OR]at hi;exact .inl ⟨hi,rfl,rfl⟩
 .rename_i kk a
  cases hb:zM a n with
  |false=>rw[hb]at h;simp at h
  |true=>
   rw[hb]at h;simp only[wy,wB]at h;subst h;simp only[OR]at hi;obtain⟨x,rfl,hx⟩:=hi;simp only[VR]at hx;subst hx;have hle:=qd.1 hb;refine .inr ⟨_,rfl,by simp,hle,λcode=>?_⟩
   have h1:(0:Int)<=yi a/\yi a<=(n:Int):=⟨yy a,Int.ofNat_le.2 hle⟩;simp only[Instr.sliceBound,Sem.run_bind,asIntOf,Sem.run_pure,Result.andThen_ok];rw[wH h1];rfl
 .cases h
def uw{isSlice:Bool}{len cap l:Nat}{lo hi mx:zC}{lo' hi' mx':Option Value}
  (hm:bnd cap mx cap=some m) (hh:bnd len hi m=some h) (hl:bnd 0 lo h=some l) (rl:OR I lo lo') (rh:OR I hi hi') (rm:OR I mx mx') (hmh:mx=none\/hi≠none):
  (Instr.sliceBounds isSlice len cap lo' hi' mx').run P w=.ok (l,h,m) w:=by
 rcases Yi (P:=P) (w:=w) hm rm with ⟨rfl,rfl,rfl⟩|⟨xm,rfl,nm,_,em⟩
 .rcases Yi (P:=P) (w:=w) hh rh with ⟨rfl,rfl,rfl⟩|⟨xh,rfl,nh,_,eh⟩<;>
   rcases Yi (P:=P) (w:=w) hl rl with ⟨rfl,rfl,rfl⟩|⟨xl,rfl,nl,_,el⟩<;>simp[Instr.sliceBounds, *]
 .rcases Yi (P:=P) (w:=w) hh rh with ⟨rfl,rfl,rfl⟩|⟨xh,rfl,nh,_,eh⟩
  .rcases hmh with e|e
   .exact absurd e nm
   .exact absurd rfl e
  .rcases Yi (P:=P) (w:=w) hl rl with ⟨rfl,rfl,rfl⟩|⟨xl,rfl,nl,_,el⟩<;>simp[Instr.sliceBounds, *]
def pu{i:zC}(h:bnd d i n=some k)(hd:d<=n):k<=n:=by
 unfold bnd at h;split at h
 .cases h;exact hd
 .rename_i kk a
  cases hb:zM a n with
  |false=>rw[hb]at h;simp at h
  |true=>rw[hb]at h;simp only[wy,wB]at h;subst h;exact qd.1 hb
 .cases h
def YE:∀(n:Nat) (l:zy),HQ n l=l.take n
 |0,l=>by simp[HQ]
 |n+1,[]=>by simp[HQ]
 |n+1,v::r=>by simp[HQ,YE n r]
def Zf:∀(n:Nat) (l:zy),L8 n l=l.drop n
 |0,l=>rfl
 |n+1,[]=>by simp[L8]
 |n+1,v::r=>by simp[L8,Zf n r]
def KA:∀(l:zy) (n:Nat),fF l n=l[n]?
 |[],_=>rfl
 |v::_,0=>rfl
 |_::r,n+1=>by simp[fF,KA r n]
def cj(s:ByteArray)(l h:Nat):jk (s.extract l h)=((jk s).drop l).take (h-l):=by
 simp[jk,List.map_drop,List.map_take]
def ie(s:ByteArray)(i:Nat):(jk s)[i]? =(s[i]?).map (·.toNat):=by
 unfold jk;rw[List.getElem?_map];by_cases h:i<s.size
 .rw[ByteArray.getElem?_lt' s i h];have:s.data.toList[i]? =some s[i]:=by rw[yd];exact yx h
  rw[this]
 .rw[ByteArray.getElem?_ge' s i h];have:s.data.toList[i]? =none:=by rw[yd];exact Array.getElem?_eq_none (by have:s.data.size=s.size:=rfl;omega)
  rw[this]
def XT{n':Nat}{i:zC}(h:bnd d i n=some k)(hn:n<=n'):bnd d i n'=some k:=by
 unfold bnd at h|-;split at h
 .exact h
 .rename_i kk a
  cases hb:zM a n with
  |false=>rw[hb]at h;simp at h
  |true=>rw[hb]at h;rw[qd.2 (Nat.le_trans (qd.1 hb) hn)];exact h
 .cases h
def kP(d:Nat)(v:Z)(n:Nat):bnd d (some v) n=bnd 0 (some v) n:=by
 unfold bnd;split<;>simp_all
def Ea{lo hi:zC}{lo' hi':Option Value}(hu:P.underlying t=some .string)(h:mE x lo hi=some v)(hx:VR I x x')(rl:OR I lo lo')(rh:OR I hi hi'):
  ∃z,(Instr.sliceAt t x' lo' hi' none).run P w=.ok z w/\VR I v z:=by
 unfold mE at h;split at h
 .rename_i l0
  simp only[VR]at hx;obtain⟨s,rfl,rfl⟩:=hx;rw[qT,vO]at h;cases hh:bnd s.size hi s.size with
  |none=>rw[hh]at h;simp at h
  | some h1=>
   rw[hh]at h;simp only at h;cases hl:bnd 0 lo h1 with
   |none=>rw[hl]at h;simp at h
   |some l1=>
    rw[hl]at h;simp only[wB]at h;subst h;have hb:=uw (P:=P) (w:=w) (I:=I) (isSlice:=false) (len:=s.size) (cap:=s.size) (mx:=none) (mx':=none) (m:=s.size) rfl hh hl rl rh rfl (.inl rfl);refine⟨.string (s.extract l1 h1),?_,?_⟩
    .simp[Instr.sliceAt,Instr.slice,wl hu,hb]
    .simp only[VR];exact⟨_,rfl,by rw[cj,YE,Zf];rfl⟩
 .cases h
def BS{t e l:Nat}(_he:0<e)(hl:l<=(t-off)/e):(t-(off+l*e))/e=(t-off)/e-l/\(off<=t->off+l*e<=t):=by
 have h1:l*e<=t-off:=Nat.le_trans (Nat.mul_le_mul_right e hl) (Nat.div_mul_le_self _ _);refine⟨?_,λh=>J⟩;rw[Nat.sub_add_eq];have:=Nat.sub_mul_div (t-off) e l;rw[yY]at this;exact this
def H1{Y len h1 l1:Nat}{lo hi:zC}(hB:I Y=some B)(h:EI Y off esz m len lo hi=some v)(hh:bnd len hi m=some h1)(hl:bnd 0 lo h1=some l1):
  VR I v (.slice (some (if m=l1 then (⟨B.b,B.o+off,none⟩:Addr)else ⟨B.b,B.o+off+l1*esz,none⟩)) (h1-l1) (m-l1)):=by
 unfold EI at h;rw[hh]at h;simp only at h;rw[hl]at h;simp only[wB]at h;subst h;simp only[VR];refine⟨B,m-l1,hB,?_,rfl⟩;by_cases e:m=l1
 .subst e;simp
 .rw[wx e];have:zI m l1=false:=by rw[zY,ne_eq,zW];exact e
  rw[this];show _=Value.slice (some ⟨B.b,B.o+(off+l1*esz),none⟩) (h1-l1) (m-l1);rw[yw]
def aJ{Y len:Nat}{lo hi:zC}(h:EI Y off esz m len lo hi=some v):∃h1 l1,bnd len hi m=some h1/\bnd 0 lo h1=some l1:=by
 unfold EI at h;cases hh:bnd len hi m with
 |none=>rw[hh]at h;simp at h
 |some h1=>
  rw[hh]at h;simp only at h;cases hl:bnd 0 lo h1 with
  |none=>rw[hl]at h;simp at h
  |some l1=>exact⟨h1,l1,rfl,hl⟩
def vS{a:Option Addr}{len cap l:Nat}{lo' hi' mx':Option Value}(hu:P.underlying t=some (.slice e))(hs:jU P e=some n)
  (hb:(Instr.sliceBounds true len cap lo' hi' mx').run P w=.ok (l,h,m) w):
  (Instr.sliceAt t (.slice a len cap) lo' hi' mx').run P w=.ok (.slice (if m=l then a else a.map (·.add (l*n))) (h-l) (m-l)) w:=by
 simp[Instr.sliceAt,Instr.slice,wl hu,hb,qI hs]
def i5{l:Nat}{ex:Bool}{ys:zE}(hp:wL cs=true)(hz:ZC I b o ys)(hy:VRL I cs ys)(hl:l<=h)(hm:h<=m)(hx:ex=true->m=h):
  VR I (.lst (Nat.sub h l) ex (tkN (zK (Nat.sub h l) esz) (qv (zK l esz) cs))) (.slice (if m=l then some ⟨b,o,none⟩else (some (⟨b,o,none⟩:Addr)).map (·.add (l*esz))) (h-l) (m-l)):=by
 rw[pD,qH];simp only[VR];refine⟨Xl _ (Zs _ hp),.inr ?_⟩;by_cases e:m=l
 .have:h=l:=J;subst this;refine⟨b,o,m-h,[],by rw[wH e];rfl,λh'=>?_,?_,trivial,?_⟩
  .show m-h=h-h;have:=hx h';omega
  .show h-h<=m-h;omega
  .have e0:zK (Nat.sub h h) esz=0:=by show (h-h)*esz=0;rw[yZ,Nat.zero_mul]
   rw[e0,List.take_zero];exact VRL.nil I
 .refine⟨b,o+l*esz,m-l,(ys.drop (l*esz)).take ((h-l)*esz),by rw[wx e,yN,uJ];rfl,λh'=>?_,?_,(hz.drop _).take _,(hy.drop _).take _⟩
  .show m-l=h-l;have:=hx h';omega
  .show h-l<=m-l;omega
def aA {ex:Bool}{lo hi mx:zC}{lo' hi' mx':Option Value}(hu:P.underlying t=some (.slice e))(hs:jU P e=some esz)
  (h:dm esz n ex cs lo hi mx=some v) (hx:VR I (.lst n ex cs) x') (rl:OR I lo lo') (rh:OR I hi hi') (rm:OR I mx mx') (hmh:mx=none\/hi≠none):
  ∃z,(Instr.sliceAt t x' lo' hi' mx').run P w=.ok z w/\VR I v z:=by
 unfold dm at h;simp only[VR]at hx;obtain⟨hp,hx⟩:=hx;split at h
 .simp only[OR]at rm;subst rm;cases hh:bnd n hi n with
  |none=>rw[hh]at h;simp at h
  | some h1=>
   rw[hh]at h;simp only at h;cases hl:bnd 0 lo h1 with
   |none=>rw[hl]at h;simp at h
   |some l1=>
    rw[hl]at h;simp only[wB]at h;subst h;have h1le:=pu hh (zX _);have l1le:=pu hl (yz _);rcases hx with ⟨rfl,a,rfl⟩|⟨b,o,k,ys,rfl,hex,hnk,hz,hy⟩
    .obtain rfl:h1=0:=J;obtain rfl:l1=0:=J;have hb:=uw (P:=P) (w:=w) (I:=I) (isSlice:=true) (len:=0) (cap:=0) (mx:=none) (mx':=none) (m:=0) rfl hh hl rl rh rfl (.inl rfl);refine⟨_,vS hu hs hb,?_⟩;simp only[VR];refine⟨?_,.inl ⟨trivial,_,rfl⟩⟩;rw[pD,qH];exact Xl _ (Zs _ hp)
    .have hb:=uw (P:=P) (w:=w) (I:=I) (isSlice:=true) (len:=n) (cap:=k) (mx:=none) (mx':=none) (m:=k) rfl (XT hh hnk) hl rl rh rfl (.inl rfl);refine⟨_,vS hu hs hb,i5 hp hz hy l1le J λhe=>?_⟩;rw[zU,ql]at he;have:=hex he.1;omega
 .rename_i m0
  cases hm:bnd n (some m0) n with
  |none=>rw[hm]at h;simp at h
  | some m=>
   rw[hm]at h;simp only at h;cases hh:bnd n hi m with
   |none=>rw[hh]at h;simp at h
   | some h1=>
    rw[hh]at h;simp only at h;cases hl:bnd 0 lo h1 with
    |none=>rw[hl]at h;simp at h
    | some l1=>
     rw [hl]at h;simp only[wB]at h;subst h;have mle:=pu hm (zX _);have l1le:=pu hl (yz _);have h1le:h1<=m:=by
      rcases hmh with e|e
      .cases e
      .cases hi with
       |none=>exact absurd rfl e
       |some hv=>
        have e1:=(kP 0 hv m).trans ((kP n hv m).symm.trans hh);exact pu e1 (yz _)
     rcases hx with ⟨rfl,a,rfl⟩|⟨b,o,k,ys,rfl,hex,hnk,hz,hy⟩
     .obtain rfl:m=0:=J;obtain rfl:h1=0:=J;obtain rfl:l1=0:=J;have hb:=uw (P:=P) (w:=w) (I:=I) (isSlice:=true) (len:=0) (cap:=0) hm hh hl rl rh rm hmh;refine⟨_,vS hu hs hb,?_⟩;simp only[VR];refine⟨?_,.inl ⟨trivial,_,rfl⟩⟩;rw[pD,qH];exact Xl _ (Zs _ hp)
     .have hm':bnd k (some m0) k=some m:=(kP k m0 k).trans ((kP n m0 k).symm.trans (XT hm hnk));have hb:=uw (P:=P) (w:=w) (I:=I) (isSlice:=true) (len:=n) (cap:=k) hm' hh hl rl rh rm hmh;refine⟨_,vS hu hs hb,i5 hp hz hy l1le h1le λhe=>?_⟩;rw[ql]at he;omega
def Ec {lo hi mx:zC}{lo' hi' mx':Option Value}(hu:P.underlying t=some (.slice e))(hs:jU P e=some n)
  (h:QE n x lo hi mx=some v) (hx:VR I x x') (rl:OR I lo lo') (rh:OR I hi hi') (rm:OR I mx mx') (hmh:mx=none\/hi≠none):
  ∃z,(Instr.sliceAt t x' lo' hi' mx').run P w=.ok z w/\VR I v z:=by
 unfold QE at h;split at h
 · -- nil
  simp only[VR]at hx;subst hx;cases hm:bnd 0 mx 0 with
  |none=>rw[hm]at h;simp at h
  | some m=>
   rw[hm]at h;simp only at h;cases hh:bnd 0 hi 0 with
   |none=>rw[hh]at h;simp at h
   | some h1=>
    rw[hh]at h;simp only at h;cases hl:bnd 0 lo 0 with
    |none=>rw[hl]at h;simp at h
    |some l1=>
     rw[hl]at h;simp only[wB]at h;subst h;have m0:=pu hm (zX _);have h0:=pu hh (zX _);have l0:=pu hl (zX _);obtain rfl:m=0:=J;obtain rfl:h1=0:=J;obtain rfl:l1=0:=J;have hb:=uw (P:=P) (w:=w) (I:=I) (isSlice:=true) (len:=0) (cap:=0) hm hh hl rl rh rm hmh;exact⟨_,vS hu hs hb,by simp[VR]⟩
 · -- empty
  simp only[VR]at hx;obtain⟨a,k,rfl⟩:=hx;split at h
  .simp only[OR]at rm;subst rm;cases hh:bnd 0 hi 0 with
   |none=>rw[hh]at h;simp at h
   | some h1=>
    rw[hh]at h;simp only at h;cases hl:bnd 0 lo 0 with
    |none=>rw[hl]at h;simp at h
    |some l1=>
     rw[hl]at h;simp only[wB]at h;subst h;have h0:=pu hh (zX _);have l0:=pu hl (zX _);obtain rfl:h1=0:=J;obtain rfl:l1=0:=J;have hb:=uw (P:=P) (w:=w) (I:=I) (isSlice:=true) (len:=0) (cap:=k) (mx:=none) (mx':=none) (m:=k) rfl (XT hh (yz _)) hl rl rh rfl (.inl rfl);refine⟨_,vS hu hs hb,?_⟩;simp only[VR];refine⟨a,k,?_⟩;by_cases e0:k=0
     .simp[e0]
     .simp[e0,Addr.add]
  .cases h
 .rename_i Y off len c
  split at h
  · --a fixed capacity
   rename_i cp
   simp only[VR]at hx;obtain⟨B,k,hB,rfl,rfl⟩:=hx;cases hm:bnd k mx k with
   |none=>rw[hm]at h;simp at h
   |some m=>
    rw[hm]at h;simp only at h;obtain⟨h1,l1,hh,hl⟩:=aJ h;have hb:=uw (P:=P) (w:=w) (I:=I) (isSlice:=true) (len:=len) (cap:=k) hm hh hl rl rh rm hmh;refine⟨_,vS hu hs hb,?_⟩;have:=H1 hB h hh hl;by_cases e0:m=l1
    .rw[wH e0]at this|-;exact this
    .rw[wx e0]at this|-;simpa [uJ]using this
  · -- an open one
   rename_i e'
   cases he:zI e' n with
   |false=>rw[he]at h;simp at h
   | true =>
    rw[he]at h;simp only[wy]at h;rw[ql]at he;subst he;simp only[VR]at hx;obtain⟨B,k,hB,rfl,hpos,hk,hlen,hoff⟩:=hx;split at h
    · -- without max
     simp only[OR]at rm;subst rm;cases hh:bnd len hi len with
     |none=>rw[hh]at h;simp at h
     | some h1=>
      rw[hh]at h;simp only at h;cases hl:bnd 0 lo h1 with
      |none=>rw[hl]at h;simp at h
      | some l1=>
       rw[hl]at h;simp only at h;have h1le:=pu hh (zX _);have l1le:=pu hl (yz _);have hb:=uw (P:=P) (w:=w) (I:=I) (isSlice:=true) (len:=len) (cap:=k) (mx:=none) (mx':=none) (m:=k) rfl (XT hh hlen) hl rl rh rfl (.inl rfl);refine⟨_,vS hu hs hb,?_⟩;cases hb0:zI l1 0 with
       |true=>
        rw[hb0]at h;simp only[wy,wB]at h;subst h;rw[ql]at hb0;subst hb0;simp only[VR];refine⟨B,k,hB,?_,hpos,hk,J,hoff⟩;by_cases e0:k=0
        .simp[e0]
        .simp[e0,uJ]
       | false=>
        rw[hb0]at h;simp only[wK]at h;cases hb1:zL l1 len with
        |true=>
         rw[hb1]at h;simp only[wy,wB]at h;subst h;have hlt:=qA.1 hb1;obtain⟨ar1,ar2⟩:=BS (t:=B.tot) (off:=off) (l:=l1) hpos J;simp only[VR];refine⟨B,k-l1,hB,?_,hpos,?_,?_,?_⟩
         .rw[wx J];simp only[yN,uJ];show Value.slice (some ⟨B.b,B.o+off+l1*e',none⟩) (h1-l1) (k-l1)=.slice (some ⟨B.b,B.o+(off+l1*e'),none⟩) (h1-l1) (k-l1);rw[yw]
         .show k-l1=(B.tot-(off+l1*e'))/e';rw[ar1,hk]
         .show h1-l1<=k-l1;omega
         .exact ar2 hoff
        | false=>
         rw[hb1]at h;simp only[wK]at h;cases hb2:zI h1 l1 with
         |false=>rw[hb2]at h;simp at h
         |true=>
          rw[hb2]at h;simp only[wy,wB]at h;subst h;rw[ql]at hb2;subst hb2;simp only[VR];by_cases e0:k=h1
          .exact⟨⟨B.b,B.o+off,none⟩,k-h1,by rw[wH e0,yZ]⟩
          .exact⟨(⟨B.b,B.o+off,none⟩:Addr).add (h1*e'),k-h1,by rw[wx e0,yZ];rfl⟩
    · --with max
     rename_i mxv
     cases hm:bnd len (some mxv) len with
     |none=>rw[hm]at h;simp at h
     |some m=>
      rw[hm]at h;simp only at h;obtain⟨h1,l1,hh,hl⟩:=aJ h;have hm':bnd k (some mxv) k=some m:=(kP k mxv k).trans ((kP len mxv k).symm.trans (XT hm hlen));have hb:=uw (P:=P) (w:=w) (I:=I) (isSlice:=true) (len:=len) (cap:=k) hm' hh hl rl rh rm hmh;refine⟨_,vS hu hs hb,?_⟩;have:=H1 hB h hh hl;by_cases e0:m=l1
      .rw[wH e0]at this|-;exact this
      .rw[wx e0]at this|-;simpa [uJ]using this
 .exact aA hu hs h hx rl rh rm hmh
 .rename_i Y e' n' cs
  cases he:zI e' n with
  |false=>rw[he]at h;simp at h
  |true=>rw[he]at h;simp only[wy]at h;exact aA hu hs h hx.gr_lst rl rh rm hmh
 .cases h
def IK{s:TypeId}{fs:Array Field}{f:Nat}{fl:Field}(hu:P.underlying s=some (.struct fs))(hf:fs[f]? =some fl)(hs:jU P fl.type=some (n+1))
  (h:vFa fl.offset x=some v) (hx:VR I x x'):∃z,(Instr.fieldAt s x' f).run P w=.ok z w/\VR I v z:=by
 have hp:∀a:Addr,(fieldPlace a fl).run P w=.ok (a.add fl.offset) w:=λa=>by
  simp[fieldPlace,qI hs]
 unfold vFa at h;split at h
 .cases h;simp only[VR]at hx;obtain⟨B,hB,rfl⟩:=hx;refine⟨_,by simp[Instr.fieldAt,wl hu,hf,Instr.sureAddr,hp];rfl,?_⟩
  simp only[VR];exact⟨B,hB,by rw[uJ,yw];rfl⟩
 .cases h;simp only[VR]at hx;subst hx;refine⟨_,by simp[Instr.fieldAt,wl hu,hf,Instr.sureAddr,hp];rfl,?_⟩
  simp only[VR];rw[uJ];rfl
 .rename_i cs
  cases h;simp only[VR]at hx;obtain⟨hp',b,o,ys,rfl,hz,hy⟩:=hx;exact⟨_,by simp[Instr.fieldAt,wl hu,hf,Instr.sureAddr,hp];rfl,by rw[uJ];exact VR.vp_drop hp' hz hy _⟩
 .cases h
def Vg{l:zA}(h:Wj l=some v):l[0]? =some v:=by cases l<;>simp[Wj]at h|-;exact h
def Nz{l:zA}(ha:H7 P t=some true)(hs:jU P t=some n)(hc:cut cs off n=some l)(hx:VRL I cs xs):
  ∃z,(part t xs.toArray off).run P w=.ok z w/\VR I (.agg l) z:=by
 obtain⟨h1,h2,rfl⟩:=cut_some hc;refine⟨.agg (xs.toArray.extract off (off+n)),by simp only[part,Sem.run_bind,Xq ha,Result.andThen_ok,if_true,qI hs,Sem.run_pure],?_⟩
 simp only[VR];refine⟨(xs.drop off).take n,?_,(hx.drop off).take n⟩
 congr 1
 apply Array.ext';simp
def NA(ha:H7 P t=some false)(hc:Wj (qv off cs)=some v)(hx:VRL I cs xs):
  ∃z,(part t xs.toArray off).run P w=.ok z w/\VR I v z:=by
 have h0:=Vg hc;rw[qH,yg]at h0;obtain⟨y,h1,h2⟩:=hx.get h0;have h1':xs[off]? =some y:=by simpa using h1
 exact⟨y,by simp[part,Xq ha,h1'],h2⟩
def zwF{fs:Array Field}{f:Nat}{fl:Field}{no:zD}(hu:P.underlying t=some (.struct fs))(hf:fs[f]? =some fl)
  (hn:match no with|some n=>H7 P fl.type=some true/\jU P fl.type=some n|none=>H7 P fl.type=some false)
  (h:vFd fl.offset no x=some v) (hx:VR I x x'):∃z,(Instr.field t x' f).run P w=.ok z w/\VR I v z:=by
 unfold vFd at h;split at h
 .rename_i cs
  simp only[VR]at hx;obtain⟨xs,rfl,hx⟩:=hx;cases no with
  |none=>
   simp only at h hn;obtain⟨z,h1,h2⟩:=NA (P:=P) (w:=w) hn h hx;exact⟨z,by simp only[Instr.field,Sem.run_bind,wl hu,Result.andThen_ok,hf,asAgg,Sem.run_pure];exact h1,h2⟩
  | some n=>
   simp only at h hn;cases hc:cut cs fl.offset n with
   |none=>rw[hc]at h;simp[VJ]at h
   |some l=>
    rw[hc]at h;simp[VJ]at h;subst h;obtain⟨z,h1,h2⟩:=Nz (P:=P) (w:=w) hn.1 hn.2 hc hx;exact⟨z,by simp only[Instr.field,Sem.run_bind,wl hu,Result.andThen_ok,hf,asAgg,Sem.run_pure];exact h1,h2⟩
 .cases h
def Yn{i:Z}(h:idx i n=some k)(hi:VR I i i'):∃kk,i'=.int kk (k:Int)/\k<n:=by
 unfold idx at h;split at h
 .rename_i kk a
  cases hb:zL a n with
  |false=>rw[hb]at h;simp at h
  |true=>
   rw[hb]at h;simp only[wy,wB]at h;subst h;simp only[VR]at hi;subst hi;exact⟨kk,rfl,qA.1 hb⟩
 .cases h
def Ms{i:Z}(hu:P.underlying t=some (.slice e))(hs:jU P e=some n)
  (h:vIa n x i=some v) (hx:VR I x x') (hi:VR I i i'):∃z,(Instr.indexAt t x' i').run P w=.ok z w/\VR I v z:=by
 have core:∀(len:Nat) (ex:Bool) (cs:zA),(match idx i len with|some k=>some (Z.vp (qv (zK k n) cs))|none=>none)=some v->VR I (.lst len ex cs) x'->∃z,(Instr.indexAt t x' i').run P w=.ok z w/\VR I v z:=by
  intro len ex cs h hx;cases hk:idx i len with
  |none=>rw[hk]at h;simp at h
  |some k=>
   rw[hk]at h;simp only[wB]at h;subst h;obtain⟨kk,rfl,hlt⟩:=Yn hk hi;simp only[VR]at hx;obtain⟨hp,⟨rfl,_⟩|⟨b,o,cp,ys,rfl,_,_,hz,hy⟩⟩:=hx
   .omega
   .have hlt':(0:Int)<=(k:Int)/\(k:Int)<(len:Int):=⟨J,J⟩;refine⟨_,?_,VR.vp_drop hp hz hy (k*n)⟩;simp only[Instr.indexAt,Sem.run_bind,asIntOf,Sem.run_pure,Result.andThen_ok,wl hu];rw[wH hlt'];simp only[Sem.run_bind,qI hs,Result.andThen_ok,Sem.run_pure,uJ,yl]
 unfold vIa at h;split at h
 .rename_i Y off len c
  cases hk:idx i len with
  |none=>rw[hk]at h;simp at h
  |some k=>
   rw[hk]at h;simp only[wB]at h;subst h;obtain⟨kk,rfl,hlt⟩:=Yn hk hi;simp only[VR]at hx;obtain⟨B,cp,hB,rfl,_⟩:=hx;have hlt':(0:Int)<=(k:Int)/\(k:Int)<(len:Int):=⟨J,J⟩;refine⟨_,?_,by simp only[VR];exact⟨B,hB,rfl⟩⟩
   simp only[Instr.indexAt,Sem.run_bind,asIntOf,Sem.run_pure,Result.andThen_ok,wl hu];rw[wH hlt'];simp only[Sem.run_bind,qI hs,Result.andThen_ok,Sem.run_pure,uJ,yl];show Result.ok (Value.pointer (some ⟨B.b,B.o+off+k*n,none⟩)) w=.ok (.pointer (some ⟨B.b,B.o+(off+k*n),none⟩)) w;rw[yw]
 .rename_i len ex cs
  exact core len ex cs h hx
 .rename_i Y e' len cs
  cases he:zI e' n with
  |false=>rw[he]at h;simp at h
  |true=>rw[he]at h;simp only[wy]at h;exact core len false cs h hx.gr_lst
 .cases h
def Dc{N:Nat}{i:Z}(hu:P.underlying t=some (.array N e))(hs:jU P e=some n)
  (h:mC N n x i=some v) (hx:VR I x x') (hi:VR I i i'):∃z,(Instr.indexAt t x' i').run P w=.ok z w/\VR I v z:=by
 unfold mC at h;split at h
 .rename_i Y off
  cases hk:idx i N with
  |none=>rw[hk]at h;simp at h
  |some k=>
   rw[hk]at h;simp only[wB]at h;subst h;obtain⟨kk,rfl,hlt⟩:=Yn hk hi;simp only[VR]at hx;obtain⟨B,hB,rfl⟩:=hx;have hlt':(0:Int)<=(k:Int)/\(k:Int)<(N:Int):=⟨J,J⟩;refine⟨_,?_,by simp only[VR];exact⟨B,hB,rfl⟩⟩
   simp only[Instr.indexAt,Sem.run_bind,asIntOf,Sem.run_pure,Result.andThen_ok,wl hu,Instr.sureAddr];rw[wH hlt'];simp only[Sem.run_bind,qI hs,Result.andThen_ok,Sem.run_pure,uJ,yl];show Result.ok (Value.pointer (some ⟨B.b,B.o+off+k*n,none⟩)) w=.ok (.pointer (some ⟨B.b,B.o+(off+k*n),none⟩)) w;rw[yw]
 .rename_i g off
  cases hk:idx i N with
  |none=>rw[hk]at h;simp at h
  |some k=>
   rw[hk]at h;simp only[wB]at h;subst h;obtain⟨kk,rfl,hlt⟩:=Yn hk hi;simp only[VR]at hx;subst hx;have hlt':(0:Int)<=(k:Int)/\(k:Int)<(N:Int):=⟨J,J⟩;refine⟨_,?_,by simp only[VR];rfl⟩
   simp only[Instr.indexAt,Sem.run_bind,asIntOf,Sem.run_pure,Result.andThen_ok,wl hu,Instr.sureAddr];rw[wH hlt'];simp only[Sem.run_bind,qI hs,Result.andThen_ok,Sem.run_pure,uJ,yl];rfl
 .rename_i cs
  cases hk:idx i N with
  |none=>rw[hk]at h;simp at h
  |some k=>
   rw[hk]at h;simp only[wB]at h;subst h;obtain⟨kk,rfl,hlt⟩:=Yn hk hi;simp only[VR]at hx;obtain⟨hp,b,o,ys,rfl,hz,hy⟩:=hx;have hlt':(0:Int)<=(k:Int)/\(k:Int)<(N:Int):=⟨J,J⟩;refine⟨_,?_,VR.vp_drop hp hz hy (k*n)⟩;simp only[Instr.indexAt,Sem.run_bind,asIntOf,Sem.run_pure,Result.andThen_ok,wl hu,Instr.sureAddr];rw[wH hlt'];simp only[Sem.run_bind,qI hs,Result.andThen_ok,Sem.run_pure,uJ,yl]
 .cases h
def Df{i:Z}(hu:P.underlying t=some .string)(h:Ri x i=some v)(hx:VR I x x')(hi:VR I i i'):
  ∃z,(Instr.index t x' i').run P w=.ok z w/\VR I v z:=by
 unfold Ri at h;split at h
 .split at h
  .rename_i k n
   simp only[VR]at hx hi;obtain⟨s,rfl,rfl⟩:=hx;subst hi;rw[KA,ie]at h;cases hg:s[n]? with
   |none=>rw[hg]at h;simp[dJ]at h
   |some b=>
    rw[hg]at h;simp[dJ]at h;subst h;refine⟨_,?_,by simp only[VR];rfl⟩
    have h0:(0:Int)<=yi n:=yy n;simp only[Instr.index,Sem.run_bind,asIntOf,Sem.run_pure,Result.andThen_ok,wl hu];rw[wH h0];have:s[(yi n).toNat]? =some b:=hg;rw[this];rfl
  .cases h
 .cases h
def IJ(h:vEx x i=some v)(hx:VR I x x'):∃z,(Instr.extract x' i).run P w=.ok z w/\VR I v z:=by
 unfold vEx at h;split at h
 .simp only[VR]at hx;obtain⟨xs,rfl,hx⟩:=hx;have h0:=Vg h;rw[qH,yg]at h0;obtain⟨y,h1,h2⟩:=hx.get h0;have h1':xs[i]? =some y:=by simpa using h1
  exact⟨y,by simp[Instr.extract,h1'],h2⟩
 .cases h
def vE{o:Obj}(h:w.heap[b]? =some o)(hc:∀c e f,o≠.cells c e f):(getObj b).run P w=.ok o w:=by
 simp only[getObj,Sem.run,h]
def uO{o:Obj}(o':Obj)(h:w.heap[b]? =some o)(hc:∀c e f,o≠.cells c e f):(setObj b o').run P w=.ok () {w with heap:=w.heap.setIfInBounds b o'}:=by
 simp only[setObj,Sem.run,h]
def Zu{o o':Obj}(h:w.heap[b]? =some o):(w.heap.setIfInBounds b o')[b]? =some o':=by
 have:b<w.heap.size:=(Array.getElem?_eq_some_iff.1 h).1;simp[this]
def zx3{o':Obj}(h:k≠b):(w.heap.setIfInBounds b o')[k]? =w.heap[k]? :=by
 rw[Array.getElem?_setIfInBounds_ne (Ne.symm h)]
def Step.setObj(r:Rel P X I s.get w){Y:Nat}{o o':AObj}{x x':Obj}(hg:s.get Y=some o)(hB:I Y=some B)(_hx:w.heap[B.b]? =some x)
  (ho:ObjRel P I {w with heap:=w.heap.setIfInBounds B.b x'} o' B) (hng:uE o=false:=by rfl) (hna:PB o=false:=by rfl):Step P X I s w I (s.put Y o') {w with heap:=w.heap.setIfInBounds B.b x'}:=
 Step.put r hg hB (λb hb=>zx3 hb) (by simp) rfl rfl rfl ho hng hna
def FK.desc(f:FK)(d:TypeDesc):Prop:=
 match f with
 |.i=>∃k,d=.int k
 |.s=>d=.string
 |.b=>d=.bool
def V7{f:FK}(h:fkT P t=some f):∃d,P.underlying t=some d/\f.desc d:=by
 unfold fkT at h;split at h
 .rename_i k hu;cases h;exact⟨_,hu,k,rfl⟩
 .rename_i hu;cases h;exact⟨_,hu,rfl⟩
 .rename_i hu;cases h;exact⟨_,hu,rfl⟩
 .cases h
def sY{f:FK}{d:TypeDesc}{a b:Z}{x:Value}(hd:f.desc d)(h:eq1 f a b=some r)(hx:VR I a x)(hy:VR I b y):
  Instr.sameNow d x y=some r/\(r=true->∀n,Instr.sameBits n y x=true):=by
 cases f with
 | i=>
  obtain⟨k0,rfl⟩:=hd;simp only[eq1]at h;split at h
  .rename_i k m k' n
   cases hkk:j8 k k' with
   |false=>rw[hkk]at h;simp at h
   |true=>
    rw[hkk]at h;simp only[wy,wB]at h;subst h;rw[Qh]at hkk;simp at hkk;subst hkk;simp only[VR]at hx hy;subst hx;subst hy;rw[j6];refine⟨by simp[Instr.sameNow],λhr n=>?_⟩
    rw[beq_iff_eq]at hr;subst hr;cases n<;>simp[Instr.sameBits]
  .cases h
 | s=>
  simp only[FK.desc]at hd;subst hd;simp only[eq1]at h;split at h
  .cases h;simp only[VR]at hx hy;obtain⟨s,rfl,rfl⟩:=hx;obtain⟨u,rfl,rfl⟩:=hy;rw[UY,<-K4,<-beq_toListBytes];refine⟨by simp[Instr.sameNow],λhr n=>?_⟩
   have hr':(u==s)=true:=by
    rw[beq_toListBytes]at hr|-;rw[beq_iff_eq]at hr|-;exact hr.symm
   cases n<;>simp[Instr.sameBits,hr']
  .cases h
 | b=>
  simp only[FK.desc]at hd;subst hd;simp only[eq1]at h;split at h
  .cases h;simp only[VR]at hx hy;subst hx;subst hy;refine⟨by simp[Instr.sameNow],λhr n=>?_⟩
   rw[beq_iff_eq]at hr;subst hr;cases n<;>simp[Instr.sameBits]
  .cases h
def EntRel.length{I:Phi}:∀{l:zh} {es:zF},EntRel I l es->zR l=zR es
 |[],_,h=>by simp only[EntRel]at h;subst h;rfl
 |_::r,_,h=>by obtain⟨e,es',rfl,_,_,_,h4⟩:=h;simp[EntRel.length h4]
def EntRel.append{I:Phi}:∀{l:zh} {es:zF} {l':zh} {es':zF},EntRel I l es->EntRel I l' es'->EntRel I (l++l') (es++es')
 |[],_,_,_,h,h'=>by simp only[EntRel]at h;subst h;exact h'
 |_::r,_,_,_,h,h'=>by obtain⟨e,es',rfl,h1,h2,h3,h4⟩:=h;exact⟨e,_,rfl,h1,h2,h3,EntRel.append h4 h'⟩
def JP{I:Phi}{f:FK}{d:TypeDesc}{k:Z}{k':Value}(hd:f.desc d)(hk:VR I k k'):∀{l:zh} {es:zF} {i:Nat} {r:Option (Nat×Z)},EntRel I l es->lJ f k l i=some r->
  (r=none/\Instr.findNow d k' es i=some none)\/∃j v v' e,r=some (i+j,v)/\Instr.findNow d k' es i=some (some (i+j,v'))/\VR I v v'/\es[j]? =some e/\v'=e.val/\(∀n,Instr.sameBits n e.key k'=true)/\j<zR l
 |[],es,i,r,h,hf=>by simp only[EntRel]at h;subst h;simp[lJ]at hf;subst hf;exact .inl ⟨rfl,rfl⟩
 | p ::l,es,i,r,h,hf=>by
  obtain⟨e,es',rfl,h1,h2,h3,h4⟩:=h;simp only[lJ]at hf;cases he:eq1 f k p.1 with
  |none=>rw[he]at hf;simp at hf
  | some b=>
   rw[he]at hf;obtain⟨hn,hs⟩:=sY hd he hk h1;cases b with
   |true=>
    simp only[wB]at hf;subst hf;exact .inr ⟨0,p.2.1,e.val,e,rfl,by simp[Instr.findNow,hn],h2,rfl,rfl,hs rfl,by simp⟩
   | false=>
    simp only at hf;rcases JP hd hk h4 hf with ⟨rfl,h5⟩|⟨j,v,v',e',rfl,h5,h6,h7,h8,h9,h10⟩
    .exact .inl ⟨rfl,by simp only[Instr.findNow,hn];exact h5⟩
    .refine .inr ⟨j+1,v,v',e',by simp only[Nat.succ_eq_add_one];congr 2;omega,?_,h6,by simpa using h7,h8,h9,by simp;omega⟩
     simp only[Instr.findNow,hn];rw[h5];simp only[Nat.succ_eq_add_one,wB,qj,and_true];omega
def WF{f:FK}{k:Z}{es:zF}{r:Option (Nat×Z)}(ht:fkT P t=some f)(hk:VR I k k')(h:EntRel I l es)(hf:lJ f k l 0=some r):
  (r=none/\(Instr.findKey t k' es).run P w=.ok none w)\/∃j v v' e,r=some (j,v)/\(Instr.findKey t k' es).run P w=.ok (some (j,v')) w/\VR I v v'/\es[j]? =some e/\v'=e.val/\(∀n,Instr.sameBits n e.key k'=true)/\j<zR l:=by
 obtain⟨d,hu,hd⟩:=V7 ht;rcases JP hd hk h hf with ⟨rfl,h5⟩|⟨j,v,v',e',rfl,h5,h6,h7,h8,h9,h10⟩
 .exact .inl ⟨rfl,by simp[Instr.findKey,wl hu,h5]⟩
 .refine .inr ⟨j,v,v',e',by simp,?_,h6,h7,h8,h9,h10⟩
  rw[Nat.zero_add]at h5;simp[Instr.findKey,wl hu,h5]
def Xp{f:FK}(ht:fkT P t=some f)(b:Bool)(n:Nat)(v:Value):(Instr.checkKey b (n+1) t v).run P w=.ok () w:=by
 obtain⟨d,hu,hd⟩:=V7 ht;cases f with
 |i=>obtain⟨k,rfl⟩:=hd;simp[Instr.checkKey,wl hu]
 |s=>simp only[FK.desc]at hd;subst hd;simp[Instr.checkKey,wl hu]
 |b=>simp only[FK.desc]at hd;subst hd;simp[Instr.checkKey,wl hu]
def pl{_z:Z}{ok:Bool}{_u:Z}{_zx x:Value}(b:Bool)(hv:VR I v x):VR I (bif ok then .tup [v,.bool b]else v) (if ok then .tuple #[x,.bool b]else x):=by
 cases ok with
 |false=>exact hv
 |true=>
  simp only[wy,if_true,VR];exact⟨[x,.bool b],rfl,VRL.cons hv (VRL.cons (by simp[VR]) (VRL.nil I))⟩
def Wq(r:Rel P X I s.get w){Y:Nat}{es:zh}{clock:Nat}(hg:s.get Y=some (.map es clock))(hB:I Y=some B):
  ∃ents,w.heap[B.b]? =some (.map ents clock)/\EntRel I es ents.toList:=by
 obtain⟨B',hB',h⟩:=r.obj Y _ hg;rw[hB]at hB';cases hB';exact h
section
variable {I:Phi}
def URel.length:∀{l:zp} {es:zF},URel I l es->zR l=zR es
 |[],_,h=>by simp only[URel]at h;subst h;rfl
 |_::r,_,h=>by obtain⟨e,es',rfl,_,_,h4⟩:=h;simp[URel.length h4]
def URel.append:∀{l:zp} {es:zF} {l':zp} {es':zF},URel I l es->URel I l' es'->URel I (l++l') (es++es')
 |[],_,_,_,h,h'=>by simp only[URel]at h;subst h;exact h'
 |_::r,_,_,_,h,h'=>by obtain⟨e,es',rfl,h1,h2,h4⟩:=h;exact⟨e,_,rfl,h1,h2,URel.append h4 h'⟩
def URel.keys:∀{l:zp} {es:zF},URel I l es->es.map (·.key)=l.map λp=>.int .i64 p.1
 |[],_,h=>by simp only[URel]at h;subst h;rfl
 |_::r,_,h=>by obtain⟨e,es',rfl,h1,h2,h4⟩:=h;simp[h1,URel.keys h4]
def Qf{n:Int}{u:Z}:∀{es:zp},ZA n es=none->(∀p∈es,p.1≠n)/\Xr n u es=es++[(n,u)]/\VV n es=es
 |[],_=>⟨by simp,rfl,rfl⟩
 | p::r,h=>by
  simp only[ZA,j6]at h;by_cases hp:p.1=n
  .simp[hp]at h
  .have hb:(p.1==n)=false:=by simp[hp]
   rw[hb,wK]at h;obtain⟨h1,h2,h3⟩:=Qf (u:=u) h;refine⟨λq hq=>?_,?_,?_⟩
   .rcases List.mem_cons.1 hq with rfl|hq
    .exact hp
    .exact h1 q hq
   .simp only[Xr,j6,hb,wK,h2,yu]
   .simp only[VV,j6,hb,wK,h3]
def U2{n:Int}{v u:Z}:∀{es:zp} {l:zF},ZA n es=some v->URel I es l->∃es1 es2 l1 e l2,es=es1++(n,v)::es2/\l=l1++e::l2/\URel I es1 l1/\URel I es2 l2/\e.key=.int .i64 n/\VR I v e.val/\Xr n u es=es1++(n,u)::es2/\VV n es=es1++es2
 |[],_,h,_=>by simp[ZA]at h
 | p::r,l,h,hr=>by
  obtain⟨e,l',rfl,h1,h2,h3⟩:=hr;simp only[ZA,j6]at h;by_cases hp:p.1=n
  .have hb:(p.1==n)=true:=by simp[hp]
   rw[hb,wy,wB]at h;subst h;subst hp;exact⟨[],r,[],e,l',rfl,rfl,rfl,h3,h1,h2,by simp only[Xr,j6,hb,wy,List.nil_append],by simp only[VV,j6,hb,wy,List.nil_append]⟩
  .have hb:(p.1==n)=false:=by simp[hp]
   rw[hb,wK]at h;obtain⟨es1,es2,l1,e2,l2,rfl,rfl,q1,q2,q3,q4,q5,q6⟩:=U2 (u:=u) h h3;exact⟨p::es1,es2,e::l1,e2,l2,rfl,rfl,⟨e,l1,rfl,h1,h2,q1⟩,q2,q3,q4,by simp only[Xr,j6,hb,wK,q5,yu],by simp only[VV,j6,hb,wK,q6,yu]⟩
def WG{d:TypeDesc}(hd:FK.i.desc d)(a b:Int):Instr.sameNow d (.int .i64 a) (.int .i64 b)=some (a==b):=by
 rw[<-j6];exact(sY (I:=⟨λ_=>none,λ_ _=>none⟩) (a:=.int .i64 a) (b:=.int .i64 b) (r:=eqI a b) hd rfl (by simp[VR]) (by simp[VR])).1
def V5{d:TypeDesc}(hd:FK.i.desc d)(n:Int):∀(L:zF) (i:Nat),(∀e∈L,∃m,e.key=.int .i64 m/\m≠n)->Instr.findNow d (.int .i64 n) L i=some none
 |[],_,_=>rfl
 |e::L,i,h=>by
  obtain⟨m,h1,h2⟩:=h e (by simp)
  simp only[Instr.findNow,h1,WG hd];rw[show (n==m)=false by simp[Ne.symm h2]]
  exact V5 hd n L (i+1) λe he=>h e (by simp[he])
def V6{d:TypeDesc}(hd:FK.i.desc d)(n:Int)(e0:MapEntry)(hk:e0.key=.int .i64 n):∀(L:zF) (i:Nat),(∀e∈L,∃m,e.key=.int .i64 m)->e0∈L->(∀e∈L,e.key=e0.key->e=e0)->∃a b,L=a++e0::b/\Instr.findNow d (.int .i64 n) L i=some (some (i+zR a,e0.val))
 |[],_,_,h,_=>by simp at h
 | e::L,i,h,hm,hu=>by
  obtain⟨m,h1⟩:=h e (by simp)
  by_cases hmn:m=n
  .subst hmn;obtain rfl:=hu e (by simp) (h1.trans hk.symm)
   refine⟨[],L,rfl,?_⟩;simp only[Instr.findNow,hk,WG hd];simp
  .have he:e≠e0:=by rintro rfl;rw[hk]at h1;cases h1;exact hmn rfl
   obtain⟨a,b,rfl,hf⟩:=V6 hd n e0 hk L (i+1) (λe he=>h e (by simp[he])) (by rcases List.mem_cons.1 hm with h|h;exact absurd h.symm he;exact h) (λe he=>hu e (by simp[he]))
   refine⟨e::a,b,rfl,?_⟩;simp only[Instr.findNow,h1,WG hd];rw[show (n==m)=false by simp[Ne.symm hmn]]
   simp only[hf,yJ]
   congr 3;omega
def Dn{L:zF}(h:(L.map (·.key)).Nodup):∀e∈L,∀e'∈L,e.key=e'.key->e=e':=by
 induction L with
 |nil=>simp
 |cons a L ih=>
  simp only[ye,List.nodup_cons,List.mem_map,not_exists,not_and]at h;intro e he e' he' hk;rcases List.mem_cons.1 he with e1|he<;>rcases List.mem_cons.1 he' with e2|he'
  .rw[e1,e2]
  .exact absurd (hk.symm.trans (by rw[e1])) (h.1 e' he')
  .exact absurd (hk.trans (by rw[e2])) (h.1 e he)
  .exact ih h.2 e he e' he' hk
theorem UMap.keys{es:zp}{ents:Array MapEntry}(h:UMap I es ents clk):(∀e∈ents.toList,∃m,e.key=.int .i64 m)/\∀e∈ents.toList,∀e'∈ents.toList,e.key=e'.key->e=e':=by
 obtain⟨l,h1,h2,h3,_⟩:=h;have hk:=h2.keys;refine⟨λe he=>?_,λe he e' he'=>?_⟩
 .have:e.key∈l.map (·.key):=List.mem_map.2 ⟨e,h1.mem_iff.2 he,rfl⟩;rw[hk]at this;obtain⟨p,_,hp⟩:=List.mem_map.1 this;exact⟨p.1,hp.symm⟩
 .refine Dn (L:=l) ?_ e (h1.mem_iff.2 he) e' (h1.mem_iff.2 he');rw[hk,show (es.map λp=>Value.int .i64 p.1)=(es.map (·.1)).map (Value.int .i64) by simp]
  exact h3.map (f:=Value.int .i64) λa b hab he=>by cases he;exact hab rfl
def UMap.find{es:zp}{ents:Array MapEntry}(h:UMap I es ents clk)(ht:fkT P t=some .i)(n:Int):
  (ZA n es=none/\(Instr.findKey t (.int .i64 n) ents.toList).run P w=.ok none w)\/∃v a e b,ZA n es=some v/\ents.toList=a++e::b/\e.key=.int .i64 n/\VR I v e.val/\(Instr.findKey t (.int .i64 n) ents.toList).run P w=.ok (some (zR a,e.val)) w:=by
 obtain⟨d,hu,hd⟩:=V7 ht;have hk:=h.keys;obtain⟨l,h1,h2,h3,_⟩:=h;cases hg:ZA n es with
 | none=>
  refine .inl ⟨rfl,?_⟩;have hn:=(Qf (u:=.nils) hg).1;have hf:=V5 hd n ents.toList 0 λe he=>by
   have:e.key∈l.map (·.key):=List.mem_map.2 ⟨e,h1.mem_iff.2 he,rfl⟩;rw[h2.keys]at this;obtain⟨p,hp,hpe⟩:=List.mem_map.1 this;exact⟨p.1,hpe.symm,hn p hp⟩
  simp[Instr.findKey,wl hu,hf]
 |some v=>
  obtain⟨es1,es2,l1,e,l2,rfl,rfl,q1,q2,q3,q4,_⟩:=U2 (u:=.nils) hg h2;have he:e∈ents.toList:=h1.mem_iff.1 (by simp)
  obtain⟨a,b,hab,hf⟩:=V6 hd n e q3 ents.toList 0 hk.1 he λe' he'=>hk.2 e' he' e he;refine .inr ⟨v,a,e,b,rfl,hab,q3,q4,?_⟩;rw[Nat.zero_add]at hf;simp[Instr.findKey,wl hu,hf]
def UMap.put_new{es:zp}{ents:Array MapEntry}(h:UMap I es ents clk){n:Int}(hg:ZA n es=none)(hv:VR I v v'):UMap I (Xr n v es) (ents.push {key:=.int .i64 n,val:=v',born:=clk}) (clk+1):=by
 obtain⟨l,h1,h2,h3,h4,h5⟩:=h;obtain⟨hn,hs,_⟩:=Qf (u:=v) hg;refine⟨l++[{key:=.int .i64 n,val:=v',born:=clk}],?_,?_,?_,?_,λe he=>?_⟩
 .rw[Array.toList_push];exact h1.append_right _
 .rw[hs];exact h2.append ⟨_,[],rfl,rfl,hv,rfl⟩
 .rw[hs,yj,List.nodup_append];refine⟨h3,by simp,λa ha b hb=>?_⟩
  obtain⟨p,hp,rfl⟩:=List.mem_map.1 ha;simp only[ye,List.map_nil,yF]at hb;rw[hb];exact hn p hp
 .rw[yj,List.nodup_append];refine⟨h4,by simp,λa ha b hb=>?_⟩
  obtain⟨p,hp,rfl⟩:=List.mem_map.1 ha;simp only[ye,List.map_nil,yF]at hb;have:=h5 p hp;omega
 .rcases List.mem_append.1 he with he|he
  .have:=h5 e he;omega
  .simp only[yF]at he;subst he;exact yK _
def sf{l1 l2 a b:zF}{e:MapEntry}(h:(l1++e::l2).Perm (a++e::b)):(l1++l2).Perm (a++b):=
 List.Perm.cons_inv (List.perm_middle.symm.trans (h.trans List.perm_middle))
def Hl(f:MapEntry->MapEntry)(e:MapEntry)(b:zF):∀a:zF,(a++e::b).modify (zR a) f=a++f e::b
 |[]=>by simp
 |x::a=>by simp only[yu,yJ,yT,Hl f e b a]
def Pm(e:MapEntry)(b:zF):∀a:zF,(a++e::b).eraseIdx (zR a)=a++b
 |[]=>by simp
 |x::a=>by simp only[yu,yJ,yL,Pm e b a]
def UMap.split{es:zp}{ents:Array MapEntry}(h:UMap I es ents clk){n:Int}(u:Z)(hg:ZA n es=some v){a b:zF}{e:MapEntry}(hab:ents.toList=a++e::b)(hk:e.key=.int .i64 n):
  ∃es1 es2 l1 l2,es=es1++(n,v)::es2/\(l1++l2).Perm (a++b)/\URel I es1 l1/\URel I es2 l2/\(es.map (·.1)).Nodup/\((l1++e::l2).map (·.born)).Nodup/\(∀x∈l1++e::l2,x.born<clk)/\Xr n u es=es1++(n,u)::es2/\VV n es=es1++es2:=by
 have hkk:=h.keys;obtain⟨l,h1,h2,h3,h4,h5⟩:=h;obtain⟨es1,es2,l1,e2,l2,rfl,rfl,q1,q2,q3,q4,q5,q6⟩:=U2 (u:=u) hg h2;have he:e2=e:=hkk.2 e2 (h1.mem_iff.1 (by simp)) e (by rw[hab];simp) (q3.trans hk.symm)
 subst he;exact⟨es1,es2,l1,l2,rfl,sf (hab▸h1),q1,q2,h3,h4,h5,q5,q6⟩
def UMap.put_old{es:zp}{ents:Array MapEntry}(h:UMap I es ents clk){n:Int}{u':Value}(hg:ZA n es=some v){a b:zF}{e:MapEntry}(hab:ents.toList=a++e::b)(hk:e.key=.int .i64 n)(hv:VR I u u'):UMap I (Xr n u es) (ents.modify (List.length a) λe=>{e with key:=.int .i64 n,val:=u'}) clk:=by
 obtain⟨es1,es2,l1,l2,rfl,q0,q1,q2,h3,h4,h5,q5,_⟩:=h.split u hg hab hk;refine⟨l1++{e with key:=.int .i64 n,val:=u'}::l2,?_,?_,?_,?_,λx hx=>?_⟩
 .rw[yV,hab,Hl];exact List.perm_middle.trans ((q0.cons _).trans List.perm_middle.symm)
 .rw[q5];exact q1.append ⟨_,l2,rfl,rfl,hv,q2⟩
 .rw[q5];simpa using h3
 .simpa using h4
 .rcases List.mem_append.1 hx with hx|hx
  .exact h5 x (by simp[hx])
  .rcases List.mem_cons.1 hx with rfl|hx
   .exact h5 e (by simp)
   .exact h5 x (by simp[hx])
def UMap.del{es:zp}{ents:Array MapEntry}(h:UMap I es ents clk){n:Int}(hg:ZA n es=some v){a b:zF}{e:MapEntry}(hab:ents.toList=a++e::b)(hk:e.key=.int .i64 n):UMap I (VV n es) (ents.eraseIdxIfInBounds (List.length a)) clk:=by
 obtain⟨es1,es2,l1,l2,rfl,q0,q1,q2,h3,h4,h5,_,q6⟩:=h.split .nils hg hab hk;have hj:zR a<ents.size:=by
  have:=congrArg zR hab;simp at this;omega
 have e1:(ents.eraseIdxIfInBounds (zR a)).toList=ents.toList.eraseIdx (zR a):=by simp[yH,hj]
 refine⟨l1++l2,?_,?_,?_,?_,λx hx=>?_⟩
 .rw[e1,hab,Pm];exact q0
 .rw[q6];exact q1.append q2
 .rw[q6];rw[yj,ye]at h3;rw[yj];exact h3.sublist (yI (yP _ _) _)
 .rw[yj,ye]at h4;rw[yj];exact h4.sublist (yI (yP _ _) _)
 .rcases List.mem_append.1 hx with hx|hx
  .exact h5 x (by simp[hx])
  .exact h5 x (by simp[hx])
end
def KJ(r:Rel P X I s.get w){Y:Nat}{es:zp}(hg:s.get Y=some (.umap es))(hB:I Y=some B):
  ∃ents clk,w.heap[B.b]? =some (.map ents clk)/\UMap I es ents clk:=by
 obtain⟨B',hB',h⟩:=r.obj Y _ hg;rw[hB]at hB';cases hB';exact h
def MD(r:Rel P X I s.get w){f:FK}{z m k:Z}{ok:Bool}(hu:P.underlying t=some (.map kt e))(hf:fkT P kt=some f)(hz:lH P e=some z)
  (h:vLk s f z ok m k=some v) (hm:VR I m m') (hk:VR I k k'):∃x,(Instr.lookup t m' k' ok).run P w=.ok x w/\VR I v x:=by
 obtain⟨zx,hzr,hzv⟩:=uA hz;have hck:∀b,(Instr.checkKey b 10000 kt k').run P w=.ok () w:=λb=>Xp hf b 9999 k';unfold vLk at h;split at h
 .simp only[VR]at hm;subst hm;simp only[Ul,wB]at h;subst h;refine⟨_,?_,pl (_z:=z) (_u:=z) (_zx:=zx) (ok:=ok) false (hzv I)⟩;have hfk:(Instr.findKey kt k' []).run P w=.ok none w:=by
   obtain⟨d,hu',_⟩:=V7 hf;simp[Instr.findKey,wl hu',Instr.findNow]
  simp only[Instr.lookup,Sem.run_bind,wl hu,Result.andThen_ok,Sem.run_pure,hck];simp only[hfk,Result.andThen_ok,Sem.run_bind,hzr,Sem.run_pure]
 .rename_i Y
  simp only[VR]at hm;obtain⟨B,hB,rfl⟩:=hm;split at h
  .rename_i es clock hg
   obtain⟨ents,hb,hent⟩:=Wq r hg hB;have hgo:=vE (P:=P) hb (by simp)
   cases hfi:lJ f k es 0 with
   |none=>rw[hfi]at h;simp[Ul]at h
   |some res=>
    rw[hfi]at h;rcases WF (P:=P) (w:=w) hf hk hent hfi with ⟨rfl,h5⟩|⟨j,v1,v',e',rfl,h5,h6,_⟩
    .simp only[Ul,wB]at h;subst h;refine⟨_,?_,pl (_z:=z) (_u:=z) (_zx:=zx) (ok:=ok) false (hzv I)⟩;simp only[Instr.lookup,Sem.run_bind,wl hu,Result.andThen_ok,Sem.run_pure,hck,hgo,h5,hzr]
    .simp only[Ul,wB]at h;subst h;refine⟨_,?_,pl (_z:=z) (_u:=z) (_zx:=zx) (ok:=ok) true h6⟩;simp only[Instr.lookup,Sem.run_bind,wl hu,Result.andThen_ok,Sem.run_pure,hck,hgo,h5]
  .rename_i es hg
   split at h
   .split at h
    .rename_i n
     simp only[VR]at hk;subst hk;obtain⟨ents,clk,hb,hent⟩:=KJ r hg hB;have hgo:=vE (P:=P) hb (by simp)
     rcases hent.find (P:=P) (w:=w) hf n with ⟨e1,h5⟩|⟨v1,a,e',b,e1,hab,he,h6,h5⟩
     .rw[e1]at h;simp only[lkU,wB]at h;subst h;refine⟨_,?_,pl (_z:=z) (_u:=z) (_zx:=zx) (ok:=ok) false (hzv I)⟩;simp only[Instr.lookup,Sem.run_bind,wl hu,Result.andThen_ok,Sem.run_pure,hck,hgo,h5,hzr]
     .rw[e1]at h;simp only[lkU,wB]at h;subst h;refine⟨_,?_,pl (_z:=z) (_u:=z) (_zx:=zx) (ok:=ok) true h6⟩;simp only[Instr.lookup,Sem.run_bind,wl hu,Result.andThen_ok,Sem.run_pure,hck,hgo,h5]
    .cases h
   .cases h
  .cases h
 .cases h
def iT{I:Phi}{v k:Z}{v' k':Value}(hv:VR I v v')(hk:VR I k k'):∀{l:zh} {es:zF} (j:Nat),EntRel I l es->EntRel I (sa v k l j) (es.modify j λe=>{e with key:=k',val:=v'})
 |[],es,j,h=>by simp only[EntRel]at h;subst h;cases j<;>simp[sa,EntRel]
 |p::l,es,0,h=>by
  obtain⟨e,es',rfl,h1,h2,h3,h4⟩:=h;simp only[sa,List.modify_zero_cons];exact⟨_,es',rfl,hk,hv,h3,h4⟩
 |p::l,es,j+1,h=>by
  obtain⟨e,es',rfl,h1,h2,h3,h4⟩:=h;simp only[sa,yT];exact⟨e,_,rfl,h1,h2,h3,iT hv hk j h4⟩
def eC{I:Phi}:∀{l:zh} {es:zF} (j:Nat),EntRel I l es->EntRel I (nA l j) (es.eraseIdx j)
 |[],es,j,h=>by simp only[EntRel]at h;subst h;simp[nA,EntRel]
 |p::l,es,0,h=>by
  obtain⟨e,es',rfl,h1,h2,h3,h4⟩:=h
  simpa [nA]using h4
 |p::l,es,j+1,h=>by
  obtain⟨e,es',rfl,h1,h2,h3,h4⟩:=h;simp only[nA,yL];exact⟨e,_,rfl,h1,h2,h3,eC j h4⟩
def Ux{old new:Value}(h:∀n,Instr.sameBits n old new=true):(Instr.keyThatStays old new).run P w=.ok new w:=by
 simp[Instr.keyThatStays,h]
theorem Mi{es:Array MapEntry}{j:Nat}{e:MapEntry}(h:es.toList[j]? =some e)(k:Value):((es[j]?).map (·.key)).getD k=e.key:=by
 have:es[j]? =some e:=by rw[<-yd];exact h
 rw[this];rfl
def fY(r:Rel P X I s.get w){f:FK}{m k:Z}(hu:P.underlying t=some (.map kt e))(hf:fkT P kt=some f)
  (h:oMu s f m k v=some (u,s')) (hm:VR I m m') (hk:VR I k k') (hv:VR I v v'):u=vJ/\∃w',(Instr.mapUpdate t m' k' v').run P w=.ok () w'/\Step P X I s w I s' w':=by
 have hck:∀b,(Instr.checkKey b 10000 kt k').run P w=.ok () w:=λb=>Xp hf b 9999 k';unfold oMu at h;split at h
 .rename_i Y
  simp only[VR]at hm;obtain⟨B,hB,rfl⟩:=hm;split at h
  .rename_i es clock hg
   obtain⟨ents,hb,hent⟩:=Wq r hg hB;have hgo:=vE (P:=P) hb (by simp)
   cases hfi:lJ f k es 0 with
   |none=>rw[hfi]at h;simp at h
   | some res=>
    rw[hfi]at h;rcases WF (P:=P) (w:=w) hf hk hent hfi with ⟨rfl,h5⟩|⟨j,v1,v2,e',rfl,h5,h6,h7,h8,h9,h10⟩
    .simp only[wB,qj]at h;obtain⟨rfl,rfl⟩:=h;refine⟨rfl,_,?_,Step.setObj r hg hB hb (x':=.map (ents.push {key:=k',val:=v',born:=clock}) (clock+1)) ⟨_,Zu hb,?_⟩⟩
     .simp only[Instr.mapUpdate,Sem.run_bind,wl hu,Result.andThen_ok,hgo,hck,h5];exact uO _ hb (by simp)
     .rw[Array.toList_push];exact EntRel.append hent ⟨_,[],rfl,hk,hv,rfl,rfl⟩
    .simp only[wB,qj]at h;obtain⟨rfl,rfl⟩:=h;refine⟨rfl,_,?_,Step.setObj r hg hB hb (x':=.map (ents.modify j λe=>{e with key:=k',val:=v'}) clock) ⟨_,Zu hb,?_⟩⟩
     .simp only[Instr.mapUpdate,Sem.run_bind,wl hu,Result.andThen_ok,hgo,hck,h5,Mi h7,Ux h9];exact uO _ hb (by simp)
     .rw[yV];exact iT hv hk j hent
  .rename_i es hg
   split at h
   .split at h
    .rename_i n
     simp only[VR]at hk;subst hk;obtain⟨ents,clk,hb,hent⟩:=KJ r hg hB;have hgo:=vE (P:=P) hb (by simp)
     simp only[wB,qj]at h;obtain⟨rfl,rfl⟩:=h;rcases hent.find (P:=P) (w:=w) hf n with ⟨e1,h5⟩|⟨v1,a,e',b,e1,hab,he,h6,h5⟩
     .refine⟨rfl,_,?_,Step.setObj r hg hB hb (x':=.map (ents.push {key:=.int .i64 n,val:=v',born:=clk}) (clk+1)) ⟨_,_,Zu hb,hent.put_new e1 hv⟩⟩;simp only[Instr.mapUpdate,Sem.run_bind,wl hu,Result.andThen_ok,hgo,hck,h5];exact uO _ hb (by simp)
     .refine⟨rfl,_,?_,Step.setObj r hg hB hb (x':=.map (ents.modify (zR a) λe=>{e with key:=.int .i64 n,val:=v'}) clk) ⟨_,_,Zu hb,hent.put_old e1 hab he hv⟩⟩
      have h7:ents.toList[zR a]? =some e':=by rw[hab];simp
      simp only[Instr.mapUpdate,Sem.run_bind,wl hu,Result.andThen_ok,hgo,hck,h5,Mi h7,Ux (old:=e'.key) (new:=.int .i64 n) (λn=>by rw[he];cases n<;>simp[Instr.sameBits])]
      exact uO _ hb (by simp)
    .cases h
   .cases h
  .cases h
 .cases h
def ML(r:Rel P X I s.get w){ts:Array TypeId}{ty:TypeId}{f:FK}{m k:Z}(hts:ts[0]? =some t)(hu:P.underlying t=some (.map kt e))(hf:fkT P kt=some f)
  (h:oMd s f m k=some (u,s')) (hm:VR I m m') (hk:VR I k k'):u=vJ/\∃w',(Builtin.delete_ ts ty #[m',k']).run P w=.ok undef w'/\Step P X I s w I s' w':=by
 have hck:∀b,(Instr.checkKey b 10000 kt k').run P w=.ok () w:=λb=>Xp hf b 9999 k';unfold oMd at h;split at h
 .simp only[VR]at hm;subst hm;simp only[wB,qj]at h;obtain⟨rfl,rfl⟩:=h;refine⟨rfl,w,?_,Step.refl r⟩;simp[Builtin.delete_,hts,wl hu,hck,undef]
 .rename_i Y
  simp only[VR]at hm;obtain⟨B,hB,rfl⟩:=hm;split at h
  .rename_i es clock hg
   obtain⟨ents,hb,hent⟩:=Wq r hg hB;have hgo:=vE (P:=P) hb (by simp)
   cases hfi:lJ f k es 0 with
   |none=>rw[hfi]at h;simp at h
   | some res=>
    rw[hfi]at h;rcases WF (P:=P) (w:=w) hf hk hent hfi with ⟨rfl,h5⟩|⟨j,v1,v2,e',rfl,h5,h6,h7,h8,h9,h10⟩
    .simp only[wB,qj]at h;obtain⟨rfl,rfl⟩:=h;refine⟨rfl,_,?_,Step.setObj r hg hB hb (x':=.map ents clock) ⟨_,Zu hb,hent⟩⟩;simp[Builtin.delete_,hts,wl hu,hck,undef,hgo,h5,uO _ hb (by simp)]
    .simp only[wB,qj]at h;obtain⟨rfl,rfl⟩:=h;refine⟨rfl,_,?_,Step.setObj r hg hB hb (x':=.map (ents.eraseIdxIfInBounds j) clock) ⟨_,Zu hb,?_⟩⟩
     .simp[Builtin.delete_,hts,wl hu,hck,undef,hgo,h5,uO _ hb (by simp)]
     .have hj:j<ents.size:=by have:=EntRel.length hent;simp at this;omega
      have e1:(ents.eraseIdxIfInBounds j).toList=ents.toList.eraseIdx j:=by simp[yH,hj]
      rw[e1];exact eC j hent
  .rename_i es hg
   split at h
   .split at h
    .rename_i n
     simp only[VR]at hk;subst hk;obtain⟨ents,clk,hb,hent⟩:=KJ r hg hB;have hgo:=vE (P:=P) hb (by simp)
     simp only[wB,qj]at h;obtain⟨rfl,rfl⟩:=h;rcases hent.find (P:=P) (w:=w) hf n with ⟨e1,h5⟩|⟨v1,a,e',b,e1,hab,he,h6,h5⟩
     .refine⟨rfl,_,?_,Step.setObj r hg hB hb (x':=.map ents clk) ⟨_,_,Zu hb,by rw[(Qf (u:=.nils) e1).2.2];exact hent⟩⟩
      simp[Builtin.delete_,hts,wl hu,hck,undef,hgo,h5,uO _ hb (by simp)]
     .refine⟨rfl,_,?_,Step.setObj r hg hB hb (x':=.map (ents.eraseIdxIfInBounds (zR a)) clk) ⟨_,_,Zu hb,hent.del e1 hab he⟩⟩;simp[Builtin.delete_,hts,wl hu,hck,undef,hgo,h5,uO _ hb (by simp)]
    .cases h
   .cases h
  .cases h
 .cases h
def zvM{a b:Z}{x:Value}(h:VR I a x)(h':VR I b y):VR I (.tup [a,b]) (.tuple #[x,y]):=by
 simp only[VR];exact⟨[x,y],rfl,VRL.cons h (VRL.cons h' (VRL.nil I))⟩
def ju(o:Obj):({w with heap:=w.heap.push o}:World).heap[w.heap.size]? =some o:=by simp
def aQ(h:VRL I cs xs):VRL I cs ((xs.toArray.toList.drop 0).take (List.length cs)):=by
 simp only[yR];rw[yq (by rw[VRL.length h];simp)]
 exact h
def ZS(r:Rel P X I s.get w)(hwf:Wf s)(hf:I s.next=none)(e:TypeId)(hx:VRL I cs xs):
  Step P X I s w (I.set s.next ⟨w.heap.size,0,zR cs⟩) (s.alloc (.row e cs false false)) {w with heap:=w.heap.push (.cells xs.toArray e)}:=by
 refine Step.alloc r hwf hf rfl rfl rfl rfl ?_;refine⟨xs.toArray,(0,0),ju _,by simp[VRL.length hx],zX _,λ_=>⟨rfl,rfl⟩,?_,zX _,λ_ i _=>by simp⟩
 exact aQ (VRL.mono (Phi.set_sub hf) _ _ hx)
def lX(e:TypeId)(xs:zr):(newRow e xs).run P w=.ok ⟨w.heap.size,0,none⟩ {w with heap:=w.heap.push (.cells xs e)}:=by simp[newRow]
def Us{tot:Nat}:VR (I.set s.next ⟨w.heap.size,0,tot⟩) (.ptr s.next 0) (.pointer (some ⟨w.heap.size,0,none⟩)):=by
 simp only[VR];exact⟨⟨w.heap.size,0,tot⟩,by simp[Phi.set],by simp⟩
def dC(r:Rel P X I s.get w)(hwf:Wf s)(hf:I s.next=none){z:Z}(hz:lH P t=some z)(h:Wv s t z.cells=some (v,s')):
  ∃I' x w',(Instr.alloc t true (.tuple #[])).run P w=.ok x w'/\Step P X I s w I' s' w'/\VR I' v x:=by
 obtain⟨zx,hzr,hzv⟩:=uA hz;unfold Wv at h;cases h;refine⟨_,_,_,?_,ZS r hwf hf t (hzv I).cells,Us⟩;simp only[Instr.alloc,Sem.run_bind,hzr,Result.andThen_ok,newVar,lX,Sem.run_pure]
def Bv(r:Rel P X I s.get w)(hwf:Wf s)(hf:I s.next=none)(h:ij s t x=some (v,s'))(hx:VR I x x'):
  ∃I' y w',(Instr.box t x').run P w=.ok y w'/\Step P X I s w I' s' w'/\VR I' v y:=by
 unfold ij at h;cases h;refine⟨_,_,_,?_,ZS r hwf hf t hx.cells,Us⟩;simp only[Instr.box,newVar,Sem.run_bind,lX,Result.andThen_ok,Sem.run_pure]
def J1(off:Nat):∀(vs:zE) (j:Nat) (cs:zr),off+j+zR vs<=cs.size->
  ((vs.zipIdx j).foldl (λ(cs:zr) (p:Value×Nat)=>cs.setIfInBounds (off+p.2) p.1) cs).toList=cs.toList.take (off+j)++vs++cs.toList.drop (off+j+zR vs)
 |[],j,cs,h=>by simp
 | v::vs,j,cs,h=>by
  have h':off+j+(zR vs+1)<=cs.size:=h;rw[List.zipIdx_cons,yM,J1 off vs (j+1) _ (by simp;omega)]
  have hlt:off+j<zR cs.toList:=by simp;omega
  have hm:(cs.toList.take (off+j)).length=off+j:=by rw[List.length_take];omega
  rw[yG];have e1:(cs.toList.set (off+j) v).take (off+(j+1))=cs.toList.take (off+j)++[v]:=by
   rw[<-yw,List.take_set,yA hlt,yU _ _ J,hm];simp
  have e2:(cs.toList.set (off+j) v).drop (off+(j+1)+zR vs)=cs.toList.drop (off+j+(zR vs+1)):=by
   rw[yW J];congr 1;omega
  rw[e1,e2];simp
def YZ {I:Phi}{place:Nat->Option (Nat×Nat)}{A:zB}{a:Act}:∀{ps:List (Nat×Operand)} {qs:zu} {zs cs:zA} {xs:zr},p8 place ps=some qs->lx zs A qs=some cs->
  TmOn I (Opd.tmps (qs.map (·.2.2))) A a->VRL I zs xs.toList->∃ys,Instr.fill place xs (ps.map λ(i,x)=>(i,a.eval x))=some ys/\VRL I cs ys.toList
 |[],qs,zs,cs,xs,hc,hf,_,hz=>by simp[p8]at hc;subst hc;simp[lx]at hf;subst hf;exact⟨xs,rfl,hz⟩
 | (i, x)::ps,qs,zs,cs,xs,hc,hf,ht,hz=>by
  simp only[p8]at hc;cases hp:place i with
  |none=>rw[hp]at hc;simp at hc
  | some os=>
   obtain⟨o,sz⟩:=os;cases hx:vP x with
   |none=>rw[hp,hx]at hc;simp at hc
   | some y=>
    cases hr:p8 place ps with
    |none=>rw[hp,hx,hr]at hc;simp at hc
    | some l=>
     rw[hp,hx,hr]at hc;simp only[wB]at hc;subst hc;simp only[lx]at hf;cases hy:y.ev A with
     |none=>rw[hy]at hf;simp at hf
     | some v=>
      rw[hy]at hf;simp only at hf;cases hb:(zI (vC v.cells) sz&&zM 1 sz)with
      |false=>rw[hb]at hf;simp at hf
      | true=>
       rw[hb]at hf;simp only[wy]at hf;cases hpa:ki zs o v.cells with
       |none=>rw[hpa]at hf;simp at hf
       | some zs'=>
        rw[hpa]at hf;simp only at hf;have hv:=wM (I:=I) (a:=a) hx hy (ht.sub (by intro t h;simp[Opd.tmps];exact .inl h))
        have hvc:=hv.cells;have hlen:=VRL.length hvc;rw[zU,ql,qd,qT]at hb;obtain⟨hb,hb1⟩:=hb;obtain⟨hbound,rfl⟩:=Vp hpa;have hzl:=VRL.length hz;simp only[ye,Instr.fill,hp];have hsz:(a.eval x).cells.size=sz:=by rw[<-hb,hlen];simp
        have hoff:o+(a.eval x).cells.size<=xs.size:=by
         have hbd:=hbound.resolve_right (λe=>by rw[e]at hb;simp at hb;omega)
         simp at hzl hlen;omega
        have hif:((a.eval x).cells.size≠sz||o+(a.eval x).cells.size>xs.size)=false:=by
         simp[hsz];omega
        rw[hif];simp only[ym,if_false];refine YZ hr hf (ht.sub (by intro t h;simp[Opd.tmps]at h|-;exact .inr h)) ?_
        have hfold:((a.eval x).cells.zipIdx.foldl (λ(cs:zr) (p:Value×Nat)=>cs.setIfInBounds (o+p.2) p.1) xs).toList=xs.toList.take o++(a.eval x).cells.toList++xs.toList.drop (o+(a.eval x).cells.toList.length):=by
         have:=J1 o (a.eval x).cells.toList 0 xs (by simp;omega)
         rw[<-Array.foldl_toList,Array.toList_zipIdx]
         simpa using this
        rw[hfold];have:zR v.cells=(a.eval x).cells.toList.length:=hlen;rw[this];exact VRL.append (VRL.append (hz.take o) hvc) (hz.drop _)
def Ot{G:List zA}(r:Rel P X I s.get w)(hG:qm G X){x:Value}(ha:H7 P t=some false)(h:vLd G s p=some v)(hx:VR I p x):
  ∃z,(Instr.loadAt t x).run P w=.ok z w/\VR I v z:=by
 unfold vLd at h;cases hl:jE G s p 1 with
 |none=>rw[hl]at h;simp at h
 |some l=>
  rw[hl]at h;simp only at h;obtain⟨a,xs,rfl,hlen,hxs,hc⟩:=jv r hG hl hx;obtain⟨y,hy,hv⟩:=hxs.get (Vg h);have hcell:=hc 0 y hy;have:a.add 0=a:=by simp[Addr.add]
  rw[this]at hcell;exact⟨y,by simp[Instr.loadAt,Instr.sureAddr,loadVar,Xq ha,hcell],hv⟩
def AT{G:List zA}(r:Rel P X I s.get w)(hG:qm G X){x:Value}(ha:H7 P t=some true)(hs:jU P t=some n)(h:WN G s n p=some v)(hx:VR I p x):
  ∃z,(Instr.loadAt t x).run P w=.ok z w/\VR I v z:=by
 unfold WN at h;cases hl:jE G s p n with
 |none=>rw[hl]at h;simp at h
 |some l=>
  rw[hl]at h;simp only[wB]at h;subst h;obtain⟨a,xs,rfl,hlen,hxs,hc⟩:=jv r hG hl hx;have hrun:=run_loadCells_list (P:=P) w a xs hc;rw[hlen]at hrun;exact⟨.agg xs.toArray,by simp only[Instr.loadAt,Instr.sureAddr,loadVar,Sem.run_bind,Sem.run_pure,Result.andThen_ok,Xq ha,if_true,qI hs,hrun],by simp only[VR];exact⟨xs,rfl,hxs⟩⟩
def zx1(r:Rel P X I s.get w){y:Z}{x z:Value}(hs:jU P t=some n)(h:oSt s n p y=some (v,s'))(hx:VR I p x)(hy:VR I y z):
  v=vJ/\∃w',(Instr.storeAt t x z).run P w=.ok () w'/\Step P X I s w I s' w':=by
 unfold oSt at h;cases hb:zI (vC y.cells) n with
 |false=>rw[hb]at h;simp at h
 | true=>
  rw[hb]at h;simp only[wy]at h;cases hst:gB s p y.cells with
  |none=>rw[hst]at h;simp at h
  |some s1=>
   rw[hst]at h;simp only[wB,qj]at h;obtain⟨rfl,rfl⟩:=h;obtain⟨a,w',rfl,h1,h2⟩:=Xt r hst hx hy.cells;refine⟨rfl,w',?_,h2⟩;rw[ql,qT,VRL.length hy.cells]at hb;have hsz:z.cells.size=n:=by simpa using hb
   simp only[Instr.storeAt,Instr.sureAddr,storeVar,Sem.run_bind,Sem.run_pure,Result.andThen_ok,qI hs];simp only[hsz,ne_eq,not_true_eq_false,if_false];exact h1
def zx6{tot len:Nat}:VR (I.set s.next ⟨w.heap.size,0,tot⟩) (.sl s.next 0 len (.fix len)) (.slice (some ⟨w.heap.size,0,none⟩) len len):=by
 simp only[VR];exact⟨⟨w.heap.size,0,tot⟩,len,by simp[Phi.set],by simp,rfl⟩
def zzp{tot len c:Nat}:VR (I.set s.next ⟨w.heap.size,0,tot⟩) (.sl s.next 0 len (.fix c)) (.slice (some ⟨w.heap.size,0,none⟩) len c):=by
 simp only[VR];exact⟨⟨w.heap.size,0,tot⟩,c,by simp[Phi.set],by simp,rfl⟩
def Jc(z:zE)(n:Nat)(_h:0<zR z):((yE (n*zR z)).map λi=>(z.toArray)[i%z.toArray.size]!).toList=(List.replicate n z).flatten:=by
 induction n with
 |zero=>simp
 | succ n ih=>
  rw[List.replicate_succ',List.flatten_append,<-ih];simp only[Array.toList_map,Array.toList_range,Nat.succ_mul];rw[List.range_add,yj]
  congr 1
  simp only[List.flatten_cons,List.flatten_nil,List.append_nil,List.map_map];apply List.ext_getElem?;intro i;by_cases hi:i<zR z
  .rw[List.getElem?_map,List.getElem?_range hi];have e1:(n*zR z+i)%(zR z)=i:=by rw[yY,Nat.mul_add_mod];exact Nat.mod_eq_of_lt hi
   simp only[yN,Function.comp_apply,List.size_toArray,e1];rw[List.getElem?_eq_getElem hi];simp[hi]
  .rw[yS (by simp;omega),yS J]
def QQ{P:Program}{w:World}{α β:Type}(f:α->Sem β)(g:α->β):∀(xs:List α),(∀x∈xs,(f x).run P w=.ok (g x) w)->(xs.mapM f).run P w=.ok (xs.map g) w
 |[],_=>by simp
 |x::xs,h=>by
  rw[List.mapM_cons];simp only[Sem.run_bind,h x (by simp),Result.andThen_ok,QQ f g xs (λy hy=>h y (by simp[hy])),Sem.run_pure,ye]
def HI{α β:Type}(f:α->Sem β)(g:α->β)(xs:Array α)(h:∀x∈xs.toList,(f x).run P w=.ok (g x) w):(xs.mapM f).run P w=.ok (xs.map g) w:=by
 rw[Array.mapM_eq_mapM_toList];simp only[Sem.run_map,QQ f g xs.toList h,Result.andThen_ok]
 congr 1
 apply Array.ext';simp
def oz{p q:Nat->Option (Nat×Nat)}(h:∀i,p i=q i)(cells:zr)(l:List (Nat×Value)):Instr.fill p cells l=Instr.fill q cells l:=by
 have:p=q:=funext h;rw[this]
def aY{fs:Array Field}{z:Z}{ps:Array (Nat×Operand)}{qs:zu}
  (hu:P.underlying t=some (.struct fs)) (hz:lH P t=some z) (hall:fs.toList.all (λf=>(jU P f.type).isSome)=true) (hc:p8 (cH P fs) ps.toList=some qs) (hf:lx z.cells A qs=some cs) (ht:TmOn I (Opd.tmps (qs.map (·.2.2))) A a):
  ∃y,(Instr.build t (ps.map λ(i,x)=>(i,a.eval x))).run P w=.ok y w/\VR I (.agg cs) y:=by
 obtain⟨zx,hzr,hzv⟩:=uA hz;obtain⟨ys,h1,h2⟩:=YZ (a:=a) hc hf ht (hzv I).cells;have hm:(fs.mapM λf=>(do pure (f.offset,<-sizeOf f.type):Sem (Nat×Nat))).run P w=.ok (fs.map λf=>(f.offset,(jU P f.type).getD 0)) w:=by
  refine HI _ _ _ λf hf=>?_;have:=List.all_eq_true.1 hall f hf;obtain⟨n,hn⟩:=Option.isSome_iff_exists.1 this;simp[qI hn,hn]
 refine⟨.agg ys,?_,by simp only[VR];exact⟨ys.toList,by simp,h2⟩⟩
 simp only[Instr.build,Sem.run_bind,hzr,Result.andThen_ok,wl hu,hm];rw[oz (q:=cH P fs)]
 .have:(ps.map λ(i,x)=>(i,a.eval x)).toList=ps.toList.map λ(i,x)=>(i,a.eval x):=by simp
  rw[this,h1];rfl
 .intro i;unfold cH;rw[Array.getElem?_map];cases hi:fs[i]? with
  |none=>rfl
  | some f=>
   have hmem:f∈fs.toList:=by
    have:fs.toList[i]? =some f:=by rw[yd];exact hi
    exact List.mem_of_getElem? this
   have:=List.all_eq_true.1 hall f hmem;obtain⟨n,hn⟩:=Option.isSome_iff_exists.1 this;simp[hn]
theorem dI{N:Nat}{z:Z}{ps:Array (Nat×Operand)}{qs:zu}
  (hu:P.underlying t=some (.array N e)) (hz:lH P t=some z) (hs:jU P e=some n) (hc:p8 (λi=>some (i*n,n)) ps.toList=some qs) (hf:lx z.cells A qs=some cs) (ht:TmOn I (Opd.tmps (qs.map (·.2.2))) A a):
  ∃y,(Instr.build t (ps.map λ(i,x)=>(i,a.eval x))).run P w=.ok y w/\VR I (.agg cs) y:=by
 obtain⟨zx,hzr,hzv⟩:=uA hz;obtain⟨ys,h1,h2⟩:=YZ (a:=a) hc hf ht (hzv I).cells;refine⟨.agg ys,?_,by simp only[VR];exact⟨ys.toList,by simp,h2⟩⟩
 simp only[Instr.build,Sem.run_bind,hzr,Result.andThen_ok,wl hu,qI hs];have:(ps.map λ(i,x)=>(i,a.eval x)).toList=ps.toList.map λ(i,x)=>(i,a.eval x):=by simp
 rw[this,h1];rfl
def Bw(r:Rel P X I s.get w)(hwf:Wf s)(hf0:s.next<s'.next->I s.next=none){len:Nat}{z:Z}{ps:Array (Nat×Operand)}{qs:zu}
  (hu:P.underlying t=some (.slice e)) (hs:jU P e=some n) (hz:lH P e=some z) (hb:(zM (len*n) 16777216&&zI (vC z.cells) n&&zM 1 n)=true)
  (hc:p8 (λi=>some (i*n,n)) ps.toList=some qs) (h:Uo s e len (lx (reps len z.cells) A qs)=some (v,s')) (ht:TmOn I (Opd.tmps (qs.map (·.2.2))) A a):
  ∃I' y w',(Instr.buildSlice t len (ps.map λ(i,x)=>(i,a.eval x))).run P w=.ok y w'/\Step P X I s w I' s' w'/\VR I' v y:=by
 obtain⟨zx,hzr,hzv⟩:=uA hz;simp only[zU,ql,qd]at hb;obtain⟨⟨hb1,hb2⟩,hb3⟩:=hb;rw[qT,VRL.length (hzv I).cells]at hb2;have hzl:zR zx.cells.toList=n:=hb2;cases hfc:lx (reps len z.cells) A qs with
 |none=>rw[hfc]at h;simp[Uo]at h
 | some cs=>
  rw[hfc]at h;simp only[Uo]at h;have hmade:=Jc zx.cells.toList len J;rw[hzl]at hmade;simp only[yB]at hmade;have hzz:VRL I (reps len z.cells) ((yE (len*n)).map (λi=>zx.cells[i%zx.cells.size]!)).toList:=by
   rw[hmade];exact VRL.reps (hzv I).cells len
  obtain⟨ys,h1,h2⟩:=YZ (a:=a) hc hfc ht hzz;have hrun:(Instr.buildSlice t len (ps.map λ(i,x)=>(i,a.eval x))).run P w=.ok (.slice (some ⟨w.heap.size,0,none⟩) len len) {w with heap:=w.heap.push (.cells ys e)}:=?_
  .cases hm:(s.md&&wL cs)with
   |true=>
    rw[hm]at h;simp only[wy,wB,qj]at h;obtain⟨rfl,rfl⟩:=h;rw[zU]at hm;have st:=Step.frozen (w':={w with heap:=w.heap.push (.cells ys e)}) r (c:=ys) (e:=e) (fr:=(0,0)) (λb hb=>by show (w.heap.push _)[b]? =_;rw[yO hb,yx hb]) (by simp) (by simp) rfl rfl rfl
    refine⟨_,_,_,hrun,st,VR.frozen (I:=I) (m:=ys.size) rfl hm.2 st.zsub (zX _) (λ_=>rfl) ?_⟩;rw[yq (by simp)];exact h2
   |false=>
    rw[hm]at h;simp only[wK,wB,qj]at h;obtain⟨rfl,rfl⟩:=h;have hst:=ZS r hwf (hf0 (yK _)) e h2;rw[yB]at hst;exact⟨_,_,_,hrun,hst,zx6⟩
  have hpl:(ps.map λ(i,x)=>(i,a.eval x)).toList=ps.toList.map λ(i,x)=>(i,a.eval x):=by simp
  simp only[Instr.buildSlice,Sem.run_bind,wl hu,Result.andThen_ok,qI hs];rw[wx J];by_cases h0:len*n=0
  .rw[wH h0];have hl0:len=0:=by rcases Nat.mul_eq_zero.1 h0 with h|h<;>omega
   subst hl0;have e1:(yE (0*n)).map (λi=>(#[]:zr)[i%(#[]:zr).size]!)=(yE (0*n)).map (λi=>zx.cells[i%zx.cells.size]!):=by simp
   simp only[Sem.run_bind,Sem.run_pure,Result.andThen_ok];rw[e1,hpl,h1];simp only[Sem.run_bind,lX,Result.andThen_ok,Sem.run_pure]
  .rw[wx h0];simp only[Sem.run_bind,hzr,Result.andThen_ok,Sem.run_pure];rw[hpl,h1];simp only[Sem.run_bind,lX,Result.andThen_ok,Sem.run_pure]
def Hj(r:Rel P X I s.get w)(hwf:Wf s)(hf:I s.next=none){um:Bool}(h:Up um s=some (v,s')):
  ∃I',Step P X I s w I' s' {w with heap:=w.heap.push (.map #[] 0)}/\VR I' v (.map (some w.heap.size)):=by
 unfold Up at h;cases h;refine⟨I.set s.next ⟨w.heap.size,0,0⟩,Step.alloc r hwf hf rfl rfl rfl rfl (by cases um;exact⟨#[],ju _,by simp[EntRel]⟩;exact⟨#[],0,ju _,[],by simp,rfl,by simp,by simp,by simp⟩),?_⟩
 simp only[VR];exact⟨⟨w.heap.size,0,0⟩,by simp[Phi.set],rfl⟩
def Dl(r:Rel P X I s.get w)(hwf:Wf s)(hf0:I s.next=none){z l c:Z}{l' c':Value}
  (hu:P.underlying t=some (.slice e)) (hs:jU P e=some n) (hby:K7 P e=some b) (hz:lH P e=some z) (hb:(zI (vC z.cells) n&&zM 1 n)=true)
  (h:Lo s e b z.cells l c=some (v,s')) (hl:VR I l l') (hc:VR I c c'):∃I' y w',(Instr.makeSlice t l' c').run P w=.ok y w'/\Step P X I s w I' s' w'/\VR I' v y:=by
 obtain⟨zx,hzr,hzv⟩:=uA hz;obtain⟨i,hi,hib⟩:=Vt hby;simp only[zU,ql,qd]at hb;rw[qT,VRL.length (hzv I).cells]at hb;have hzl:zR zx.cells.toList=n:=hb.1;unfold Lo at h;split at h
 .rename_i ln
  split at h
  .rename_i cn
   cases hbb:(zM ln cn&&zM (zK cn b) 281474976710656&&zL cn 9223372036854775808)with
   |false=>rw[hbb]at h;simp at h
   | true=>
    rw[hbb]at h;simp only[wy,wB,qj]at h;obtain⟨rfl,rfl⟩:=h;simp only[zU,qd,qA]at hbb;obtain⟨⟨h1,h2⟩,h3⟩:=hbb;have h2':cn*b<=281474976710656:=h2;simp only[VR]at hl hc;subst hl;subst hc;have hmade:=Jc zx.cells.toList cn J;rw[hzl]at hmade;simp only[yB]at hmade;have hzz:VRL I (reps cn z.cells) ((yE (cn*n)).map (λi=>zx.cells[i%zx.cells.size]!)).toList:=by
     rw[hmade];exact VRL.reps (hzv I).cells cn
    refine⟨_,_,_,?_,ZS r hwf hf0 e hzz,zzp⟩;have w1:IntKind.i64.wrap (yi ln)=(ln:Int):=Xv .i64 ln (by simp only[Lt];omega)
    have w2:IntKind.i64.wrap (yi cn)=(cn:Int):=Xv .i64 cn (by simp only[Lt];omega)
    simp only[Instr.makeSlice,Sem.run_bind,wl hu,Result.andThen_ok,asInt,asIntOf,Sem.run_pure,gF hi,hib,w1,w2];have hmul:¬((b:Int)*(cn:Int)>2^48):=by
     have e1:(b:Int)*(cn:Int)=((cn*b:Nat):Int):=by rw[yY];simp
     have e2:(2:Int)^48=281474976710656:=by decide
     rw[e1,e2];omega
    have hcond:¬((decide ((cn:Int)<0)||decide ((b:Int)*(cn:Int)>2^48)||decide ((ln:Int)<0)||decide ((ln:Int)>(cn:Int)))=true):=by
     rw[qy (show ¬(cn:Int)<0 by omega),qy hmul,qy (show ¬(ln:Int)<0 by omega),qy (show ¬(ln:Int)>(cn:Int) by omega)]
     simp
    rw[wx hcond];simp only[Sem.run_bind,run_askRoom,Result.andThen_ok,qI hs,yl,Sem.run_ite,Sem.run_pure,hzr,lX];by_cases h0:cn*n=0
    .rw[wH h0,h0];simp[Array.range_zero']
    .rw[wx h0]
  .cases h
 .cases h
def oI{a:Addr}(h:k≠a.block):(w.freeze a n).heap[k]? =w.heap[k]? :=by
 unfold World.freeze;split
 .rfl
 .simp[yr,Ne.symm h]
def bG{a:Addr}:(w.freeze a n).heap.size=w.heap.size/\(w.freeze a n).os=w.os/\(w.freeze a n).tape=w.tape/\(w.freeze a n).output=w.output:=by
 unfold World.freeze;split
 .exact⟨rfl,rfl,rfl,rfl⟩
 .exact⟨by simp,rfl,rfl,rfl⟩
def CQ{a:Addr}{c:zr}{fr:Nat×Nat}(hn:n≠0)(h:w.heap[a.block]? =some (.cells c e fr)):
  (w.freeze a n).heap[a.block]? =some (.cells c e (if fr.1==fr.2 then (a.off,a.off+n)else (min fr.1 a.off,max fr.2 (a.off+n)))):=by
 unfold World.freeze;rw[wx hn];simp[yr,h]
def MI{fr:Nat×Nat}(hle:fr.1<=fr.2)(h:∀i,i<n->¬(fr.1<=i/\i<fr.2)):
  ∀i,i<n->¬((if fr.1==fr.2 then (n,n+1)else (min fr.1 n,max fr.2 (n+1))).1<=i/\i<(if fr.1==fr.2 then (n,n+1)else (min fr.1 n,max fr.2 (n+1))).2):=by
 intro i hi;by_cases e:fr.1=fr.2
 .rw[show (fr.1==fr.2)=true from by simpa using e];simp;omega
 .rw[show (fr.1==fr.2)=false from by simpa using e]
  simp only[ym,if_false];intro ⟨h1,h2⟩;have hlt:fr.1<fr.2:=J;by_cases h3:fr.1<n
  .exact h fr.1 h3 ⟨zX _,hlt⟩
  .simp only[Nat.min_def]at h1;split at h1<;>omega
def TF{a:Nat}{fr:Nat×Nat}(hle:fr.1<=fr.2):(if fr.1==fr.2 then (a,a+n)else (min fr.1 a,max fr.2 (a+n))).1<=(if fr.1==fr.2 then (a,a+n)else (min fr.1 a,max fr.2 (a+n))).2:=by
 by_cases e:fr.1=fr.2
 .rw[show (fr.1==fr.2)=true from by simpa using e];simp
 .rw[show (fr.1==fr.2)=false from by simpa using e]
  simp only[ym,if_false];omega
def Wy:∀l:zy,wL (qo l)=true
 |[]=>rfl
 |b::r=>by simp[qo,wL,qg,Wy r]
def BQ {st st':U}(r:Rel P X I st.get w)(hwf:Wf st)(hff:st.next<st'.next->I st.next=none){s d:TypeId}(hs:P.underlying s=some .string)(hd:P.underlying d=some (.slice e))(he:P.underlying e=some (.int .u8))
  (h:Kh st e x=some (v,st')) (hx:VR I x x'):∃I' y w',(convert s d x').run P w=.ok y w'/\Step P X I st w I' st' w'/\VR I' v y:=by
 unfold Kh at h;split at h
 .rename_i t
  simp only[VR]at hx;obtain⟨bs,rfl,rfl⟩:=hx;cases hb:zL (vC (jk bs)) 9223372036854775808 with
  |false=>rw[hb]at h;simp at h
  | true=>
   rw[hb]at h;simp only[wy]at h;rw[qA]at hb;simp only[qT,vO]at hb h|-;obtain⟨q,hq⟩:∃q,q=Question.appendCap bs.size 0 e:=⟨_,rfl⟩;obtain⟨cp,hcp⟩:∃cp,cp=q.cut (w.tape w.drawn q):=⟨_,rfl⟩;have hge:bs.size<=cp:=by rw[hcp,hq];simp[Question.cut]
   obtain⟨row,hrow⟩:∃row:zr,row=(bs.data.map λb=>Value.int .u8 (b.toNat:Int))++Array.replicate (cp-bs.size) (.int .u8 0):=⟨_,rfl⟩;have hrs:row.size=cp:=by rw[hrow];simp;have:bs.data.size=bs.size:=rfl;omega
   obtain⟨w1,hw1⟩:∃w1:World,w1={w with heap:=w.heap.push (.cells row e),drawn:=w.drawn+1}:=⟨_,rfl⟩
   have hh1:w1.heap=w.heap.push (.cells row e):=by rw[hw1]
   have hnew:w1.heap[w.heap.size]? =some (.cells row e (0,0)):=by rw[hh1];simp
   have hsh:w1.shape? w.heap.size=some (e,row.size):=by simp[World.shape?,hnew]
   obtain⟨w2,hw2⟩:∃w2,w2=w1.freeze {block:=w.heap.size,off:=row.size} 1:=⟨_,rfl⟩;have hm:(markStringish ⟨w.heap.size,0,none⟩).run P w1=.ok () w2:=by rw[hw2];simp[markStringish,hsh]
   have hrun:(convert s d (.string bs)).run P w=.ok (.slice (some ⟨w.heap.size,0,none⟩) bs.size cp) w2:=by
    have hforced:q.forced=false:=by rw[hq];rfl
    simp only[convert,Sem.run_bind,wl hs,wl hd,wl he,Result.andThen_ok,Conv.stringToBytes,run_choose];rw[<-hq,hforced];simp only[ym,if_false,Result.andThen_ok,<-hcp];have hnr:(newRow e ((bs.data.map λb=>Value.int .u8 (b.toNat:Int))++Array.replicate (cp-bs.size) (.int .u8 0))).run P {w with drawn:=w.drawn+1}=.ok ⟨w.heap.size,0,none⟩ w1:=by
     rw[lX,hw1,hrow]
    rw[hnr];simp only[Result.andThen_ok,hm,Sem.run_pure]
   obtain⟨f1,f2,f3,f4⟩:=bG (w:=w1) (a:={block:=w.heap.size,off:=row.size}) (n:=1);have hin:=CQ (w:=w1) (a:={block:=w.heap.size,off:=row.size}) (n:=1) J hnew;have hout:∀b,b≠w.heap.size->(w1.freeze {block:=w.heap.size,off:=row.size} 1).heap[b]? =w1.heap[b]? :=λb hb=>oI hb;rw[<-hw2]at f1 f2 f3 f4 hin hout;have hcells:(row.toList.drop 0).take bs.size=bs.data.toList.map λb=>Value.int .u8 (b.toNat:Int):=by
    rw[hrow];simp only[yR,Array.toList_append,Array.toList_map];rw[List.take_append_of_le_length (by simp)]
    rw[yq (by simp)]
   cases hmd:st.md with
   |true=>
    rw[hmd]at h;simp only[wy,wB,qj]at h;obtain⟨rfl,rfl⟩:=h;have st':=Step.frozen (w':=w2) r (λb hb=>(hout b J).trans (by rw[hh1,yO hb,yx hb])) (by rw[f1,hh1];simp) hin (f2.trans (by rw[hw1])) (f3.trans (by rw[hw1])) (f4.trans (by rw[hw1]))
    refine⟨_,_,_,hrun,st',VR.frozen (I:=I) (m:=bs.size) rfl (Wy _) st'.zsub hge (λh=>by cases h) ?_⟩
    rw[yR]at hcells;rw[hcells];exact YJ _
   |false=>
   rw[hmd]at h;simp only[wK,wB,qj]at h;obtain⟨rfl,rfl⟩:=h;have hf:=hff (yK _);have hsub:=Phi.set_sub (B:=⟨w.heap.size,0,cp⟩) hf;have hst:Step P X I st w (I.set st.next ⟨w.heap.size,0,cp⟩) (st.alloc (.row e (qo (jk bs)) true false)) w1:=by
    refine Step.alloc r hwf hf hh1 (by rw[hw1]) (by rw[hw1]) (by rw[hw1]) ?_
    refine⟨row,(0,0),hnew,by rw[hrs];simp,by rw[l7,vO];exact hge,(λh=>by cases h),?_,zX _,λ_ i _=>by simp⟩
    have e1:(row.toList.drop 0).take (qo (jk bs)).length=bs.data.toList.map λb=>Value.int .u8 (b.toNat:Int):=by
     rw[l7,vO,hcells]
    rw[e1];exact YJ _
   have hstep2:Step P X I st w (I.set st.next ⟨w.heap.size,0,cp⟩) (st.alloc (.row e (qo (jk bs)) true false)) w2:=by
    refine⟨hst.ext,⟨⟨f2.trans hst.rel.base.os,f3.trans hst.rel.base.tape,f4.trans hst.rel.base.output,by rw[f1];exact hst.rel.base.size,λk hk=>(hout k (by have:=r.base.size;omega)).trans (hst.rel.base.block k hk)⟩,?_,?_,hst.rel.old,hst.rel.inj,?_,hst.rel.sep⟩,hst.same,by rw[f1];exact hst.size,?_,hst.own,hst.zsub,hst.zown⟩
    .intro Y o hg;obtain⟨B,hB,t⟩:=hst.rel.obj Y o hg;refine⟨B,hB,?_⟩;by_cases e2:B.b=w.heap.size
     · --it is the new row
      have hid:Y=st.next:=by
       by_cases e3:Y=st.next
       .exact e3
       .exfalso
        rw[show (I.set st.next _) Y=I Y from wx e3]at hB
        have:=(r.rng Y B hB);omega
      subst hid;have ho:o=.row e (qo (jk bs)) true false:=by
       have:=qr hg;rw[show (st.alloc _).objs=st.objs.set st.next _ from rfl,Trie.get_set_same]at this
       exact(Option.some.inj this).symm
      subst ho;obtain⟨c,fr,g1,g2,g3,g4,g5,g6,g7⟩:=t;rw[e2]at g1;rw[hnew]at g1;cases g1;refine⟨row,_,by rw[e2];exact hin,g2,g3,g4,g5,TF g6,λhz=>MI g6 (g7 hz)⟩
     .exact t.keep (Sub.refl _) (hout _ e2)
    .intro Y B hB;rw[f1];exact hst.rel.rng Y B hB
    .intro b i v hv;have hlt:=r.zlt (b:=b) (o:=i) (v:=v) hv;obtain⟨c,e',fr,g1,g2⟩:=hst.rel.frz b i v hv;exact⟨c,e',fr,(hout b J).trans g1,g2⟩
    .intro b hb H;exact(hout b J).trans (hst.frame b hb H)
   refine⟨_,_,w2,hrun,hstep2,?_⟩
   .simp only[VR];refine⟨⟨w.heap.size,0,cp⟩,cp,by simp[Phi.set],by simp,J,by simp,hge,yz _⟩
 .cases h
end Go.Proofs.YtbddpjboppmnfaaGreatDoor.Ev

/- A part of the evaluator and of its soundness: what it answers, the model's run answers. No conditions. -/
import Derived.Test.YtbddpjboppmnfaaGreatDoorEvE
set_option linter.unusedSimpArgs false
set_option linter.unusedVariables false
set_option linter.defProp false
noncomputable section
open List renaming length → zR, mem_of_getElem? → xU, getElem?_cons_succ → xQ, getElem?_eq_none → yS, getElem?_cons_zero → xM
open Bool renaming and_eq_true → zU
open Nat renaming blt → zL, zero_add → xB, beq → zI
namespace Go.Proofs.YtbddpjboppmnfaaGreatDoor.Ev
variable {P:Program}{I:Phi}{w:World}{s:U}{nt i:Nat}{o:AObj}
open Go.RowKit (Below)
def GK{X:World}{E:Env}{O:Orc}(hx:KQ O)(hm:P.follows .mixedOrders=true)(hG:qm E.globs X)(hE:pf P E)(hO:∀f g,O f=some g->vW P X f g):SelfOk P X (evW E O) where
 mono:=⟨λf a s v s' h=>by obtain⟨n,hn⟩:=jc h;exact(pi E hx n).call _ _ _ _ _ hn,λrd b fr s res fr' s' h=>by obtain⟨n,hn⟩:=jc h;exact(pi E hx n).loop _ _ _ _ _ _ _ hn,λl a s v s' h=>by obtain⟨n,hn⟩:=jc h;exact(pi E hx n).round _ _ _ _ _ hn⟩
 ext:=⟨λf a s v s' h=>by obtain⟨n,hn⟩:=jc h;exact(ZK E hx n).call _ _ _ _ _ hn,λrd b fr s res fr' s' h=>by obtain⟨n,hn⟩:=jc h;exact(ZK E hx n).loop _ _ _ _ _ _ _ hn,λl a s v s' h=>by obtain⟨n,hn⟩:=jc h;exact(ZK E hx n).round _ _ _ _ _ hn⟩
 call:=λh=>by obtain⟨n,hn⟩:=jc h;exact(GJ hx hm hG hE hO n).call hn
 round:=λh=>by obtain⟨n,hn⟩:=jc h;exact(GJ hx hm hG hE hO n).round hn
 loop:=λh=>by obtain⟨n,hn⟩:=jc h;exact(GJ hx hm hG hE hO n).loop hn
structure Cx where
 P:Program
 X:World
 E:Env
 O:Orc
 nt:Nat
 rd:zD
 I:Phi
 s:U
 w:World
 /--the blocks that were there at the start,and may be written -/
 M:Nat
structure CxOk(C:Cx):Prop where
 ox:OrcOk C.P C.X C.O
 mixed:C.P.follows .mixedOrders=true
 glob:qm C.E.globs C.X
 env:pf C.P C.E
 rel:Rel C.P C.X C.I C.s.get C.w
 wf:Wf C.s
 fresh:∀Y,C.s.next<=Y->C.I Y=none
 hide:C.s.hide=[]
 only:C.s.only=none
 wm:∀i,C.s.wm.testBit i=true->C.M.testBit i=true
 mask:∀i,C.M.testBit i=true->i<C.s.next/\∃o,C.s.objs.get i=some o/\uE o=false
structure At(C:Cx)(I:Phi)(s:U)(w:World):Prop where
 st:Step C.P C.X C.I C.s C.w I s w
 fresh:∀Y,s.next<=Y->I Y=none
def dw(C:Cx)(Q:Res->Fr->U->Prop)(e:Exit)(a:Act)(w:World):Prop:=
 ∃res fr s I,e=res.ex/\At C I s w/\FrRel I C.nt fr a/\Q res fr s
def Tri(C:Cx)(ic:ICode)(fr:Fr)(s:U)(Q:Res->Fr->U->Prop):Prop:=
 ∀c,cC C.P C.nt c=some ic->∀I w a,At C I s w->FrRel I C.nt fr a->∀F n,Wide F->(C.rd=none->F.round=none)->c.wpIn F n C.P (dw C Q) a w
def H6(C:Cx)(ic:ICode)(fr:Fr)(s:U)(Q:Res->Fr->U->Prop):Prop:=
 ∀c,cC C.P C.nt c=some ic->∀I w a,At C I s w->FrRel I C.nt fr a->∀F n,Wide F->(C.rd=none->F.round=none)->LoopIn F n C.P c (dw C Q) a w
def Gc(C:Cx)(fr:Fr)(s:U)(fr1:Fr)(s1:U):Prop:=
 ∀I w a,At C I s w->FrRel I C.nt fr a->∃φ1,At C φ1 s1 w/\FrRel φ1 C.nt fr1 a
section
variable {C:Cx}{ic ia ib:ICode}{fr fr' fr1:Fr}{s s' s1:U}{Q Q':Res->Fr->U->Prop}{res:Res}
def At.wf(ok:CxOk C)(h:At C I s w):Wf s:=h.st.ext.wf ok.wf
def At.step(ok:CxOk C){I':Phi}{w':World}(h:At C I s w)(k:Step C.P C.X I s w I' s' w'):At C I' s' w':=
 ⟨Step.trans ok.wf h.st k,λY hid=>by
  have:=k.ext.next
  rw[k.same Y (.inr hid)];exact h.fresh Y J⟩
def CxOk.self(ok:CxOk C):SelfOk C.P C.X (evW C.E C.O):=GK ok.ox.ext ok.mixed ok.glob ok.env ok.ox.ok
def Tri.mono(h:Tri C ic fr s Q)(hq:∀r f t,Q r f t->Q' r f t):Tri C ic fr s Q':=λc hc I w a ha hf F n hF hrd=>
 wpIn_mono (h c hc I w a ha hf F n hF hrd) λ_ _ _ ⟨r,f,t,p,e1,e2,e3,e4⟩=>⟨r,f,t,p,e1,e2,e3,hq _ _ _ e4⟩
def mr(ok:CxOk C)(h:evC C.E (evW C.E C.O) C.rd ic fr s=some (res,fr',s'))(q:Q res fr' s'):Tri C ic fr s Q:=by
 intro c hc I w a ha hf F n hF hrd;refine wpIn_mono (jK ok.self ok.glob (Kw ok.mixed ok.glob _ ok.self) hF hrd c hc h ha.st.rel (ha.wf ok) ha.fresh hf) ?_
 rintro e a' w' ⟨I',rfl,k1,k2⟩
 exact⟨res,fr',s',I',rfl,ha.step ok k1,k2,q⟩
def cY(h:Gc C fr s fr1 s1)(t:Tri C ic fr1 s1 Q):Tri C ic fr s Q:=by
 intro c hc I w a ha hf F n hF hrd;obtain⟨φ1,h1,h2⟩:=h I w a ha hf;exact t c hc φ1 w a h1 h2 F n hF hrd
def Bb(h:Gc C fr s fr1 s1)(t:H6 C ic fr1 s1 Q):H6 C ic fr s Q:=by
 intro c hc I w a ha hf F n hF hrd;obtain⟨φ1,h1,h2⟩:=h I w a ha hf;exact t c hc φ1 w a h1 h2 F n hF hrd
def qa(K:Fr->U->Prop)(Q:Res->Fr->U->Prop):Res->Fr->U->Prop
 |.norm,fr,s=>K fr s
 |r,fr,s=>Q r fr s
def Jz{K:Fr->U->Prop}{KK:Act->World->Prop}(hK:∀I f t a w,K f t->At C I t w->FrRel I C.nt f a->KK a w):∀e a w,dw C (qa K Q) e a w->Exit.then KK (dw C Q) e a w:=by
 rintro e a w ⟨r,f,t,p,rfl,e2,e3,e4⟩
 cases r with
 |norm=>exact hK p f t a w e4 e2 e3
 |exit Y=>exact⟨.exit Y,f,t,p,rfl,e2,e3,e4⟩
 |ret=>exact⟨.ret,f,t,p,rfl,e2,e3,e4⟩
def zyN{c:Code}(h:cC P nt c=some (.seq ia ib)):∃x y,c=.seq x y/\cC P nt x=some ia/\cC P nt y=some ib:=by
 cases c with
 |region Y ops any=>
  cases any<;>simp only[cC]at h<;>obtain⟨_,_,he⟩:=Option.map_eq_some_iff.1 h<;>cases he
 | seq a b=>
  simp only[cC]at h;split at h
  .rename_i x y hx hy
   simp only[wB]at h;cases h;exact⟨a,b,rfl,hx,hy⟩
  .cases h
 |cond a b c=>
  simp only[cC]at h;split at h<;>cases h
 |block a b=>
  simp only[cC]at h;obtain⟨_,_,he⟩:=Option.map_eq_some_iff.1 h;cases he
 |loop b=>
  simp only[cC]at h;obtain⟨_,_,he⟩:=Option.map_eq_some_iff.1 h;cases he
 | rangeFunc a b c d=>
  simp only[cC]at h;split at h
  .cases hq:b.toList.all (zL · nt)with
   |true=>rw[hq]at h;cases h
   |false=>rw[hq]at h;cases h
  .cases h
 |_=>simp[cC]at h
def RM{c:Code}{x:Opd}(h:cC P nt c=some (.cond x ia ib)):∃x' a b,c=.cond x' a b/\vP x'=some x/\cC P nt a=some ia/\cC P nt b=some ib:=by
 cases c with
 |region Y ops any=>
  cases any<;>simp only[cC]at h<;>obtain⟨_,_,he⟩:=Option.map_eq_some_iff.1 h<;>cases he
 |seq a b=>
  simp only[cC]at h;split at h
  .simp only[wB]at h;cases h
  .cases h
 | cond x' a b=>
  simp only[cC]at h;split at h
  .rename_i h1 h2 h3
   cases h;exact⟨x',a,b,rfl,h1,h2,h3⟩
  .cases h
 |block a b=>
  simp only[cC]at h;obtain⟨_,_,he⟩:=Option.map_eq_some_iff.1 h;cases he
 |loop b=>
  simp only[cC]at h;obtain⟨_,_,he⟩:=Option.map_eq_some_iff.1 h;cases he
 | rangeFunc a b c d=>
  simp only[cC]at h;split at h
  .cases hq:b.toList.all (zL · nt)with
   |true=>rw[hq]at h;cases h
   |false=>rw[hq]at h;cases h
  .cases h
 |_=>simp[cC]at h
def Fo{c:Code}{Y:Nat}(h:cC P nt c=some (.block Y ib)):∃b,c=.block Y b/\cC P nt b=some ib:=by
 cases c with
 |region Y ops any=>
  cases any<;>simp only[cC]at h<;>obtain⟨_,_,he⟩:=Option.map_eq_some_iff.1 h<;>cases he
 |seq a b=>
  simp only[cC]at h;split at h
  .simp only[wB]at h;cases h
  .cases h
 |cond a b c=>
  simp only[cC]at h;split at h<;>cases h
 |block a b=>
  simp only[cC]at h;obtain⟨_,hb,he⟩:=Option.map_eq_some_iff.1 h;cases he;exact⟨b,rfl,hb⟩
 |loop b=>
  simp only[cC]at h;obtain⟨_,_,he⟩:=Option.map_eq_some_iff.1 h;cases he
 | rangeFunc a b c d=>
  simp only[cC]at h;split at h
  .cases hq:b.toList.all (zL · nt)with
   |true=>rw[hq]at h;cases h
   |false=>rw[hq]at h;cases h
  .cases h
 |_=>simp[cC]at h
def RN{c:Code}(h:cC P nt c=some (.loop ib)):∃b,c=.loop b/\cC P nt b=some ib:=by
 cases c with
 |region Y ops any=>
  cases any<;>simp only[cC]at h<;>obtain⟨_,_,he⟩:=Option.map_eq_some_iff.1 h<;>cases he
 |seq a b=>
  simp only[cC]at h;split at h
  .simp only[wB]at h;cases h
  .cases h
 |cond a b c=>
  simp only[cC]at h;split at h<;>cases h
 |block a b=>
  simp only[cC]at h;obtain⟨_,_,he⟩:=Option.map_eq_some_iff.1 h;cases he
 |loop b=>
  simp only[cC]at h;obtain⟨_,hb,he⟩:=Option.map_eq_some_iff.1 h;cases he;exact⟨b,rfl,hb⟩
 | rangeFunc a b c d=>
  simp only[cC]at h;split at h
  .cases hq:b.toList.all (zL · nt)with
   |true=>rw[hq]at h;cases h
   |false=>rw[hq]at h;cases h
  .cases h
 |_=>simp[cC]at h
def qN(h:Tri C ia fr s (qa (λf t=>Tri C ib f t Q) Q)):Tri C (.seq ia ib) fr s Q:=by
 intro c hc I w a ha hf F n hF hrd;obtain⟨x,y,rfl,hx,hy⟩:=zyN hc;refine wpIn_seq (wpIn_mono (h x hx I w a ha hf F n hF hrd) (Jz λφ1 f t a1 w1 k k1 k2=>?_));exact k y hy φ1 w1 a1 k1 k2 F n hF hrd
def O9{x:Opd}{b:Bool}(hx:x.ev fr.A=some (.bool b))(h:Tri C (bif b then ia else ib) fr s Q):Tri C (.cond x ia ib) fr s Q:=by
 intro c hc I w a ha hf F n hF hrd;obtain⟨x',u,v,rfl,h1,h2,h3⟩:=RM hc;have hv:=wM (I:=I) (a:=a) h1 hx (TmOn.of hf.A);simp only[VR]at hv;cases b with
 |true=>exact wpIn_cond_true hv (h u h2 I w a ha hf F n hF hrd)
 |false=>exact wpIn_cond_false hv (h v h3 I w a ha hf F n hF hrd)
def uU(Y:Nat)(Q:Res->Fr->U->Prop):Res->Fr->U->Prop
 |.norm,fr,s=>Q .norm fr s
 |.ret,fr,s=>Q .ret fr s
 |.exit i,fr,s=>Q (if i=Y then .norm else .exit i) fr s
def qV{Y:Nat}(h:Tri C ib fr s (uU Y Q)):Tri C (.block Y ib) fr s Q:=by
 intro c hc I w a ha hf F n hF hrd;obtain⟨b,rfl,hb⟩:=Fo hc;refine wpIn_block (wpIn_mono (h b hb I w a ha hf F n hF hrd) ?_)
 rintro e a1 w1 ⟨r,f,t,p,rfl,e2,e3,e4⟩
 cases r with
 |norm=>exact⟨.norm,f,t,p,rfl,e2,e3,e4⟩
 |ret=>exact⟨.ret,f,t,p,rfl,e2,e3,e4⟩
 |exit i=>
  simp only[uU]at e4;simp only[Res.ex,Exit.inBlock];by_cases hii:i=Y
  .rw[wH hii]at e4|-;exact⟨.norm,f,t,p,rfl,e2,e3,e4⟩
  .rw[wx hii]at e4|-;exact⟨.exit i,f,t,p,rfl,e2,e3,e4⟩
def vR(h:H6 C ib fr s Q):Tri C (.loop ib) fr s Q:=by
 intro c hc I w a ha hf F n hF hrd;obtain⟨b,rfl,hb⟩:=RN hc;exact WO (h b hb I w a ha hf F n hF hrd)
def uu(h:Tri C ib fr s (qa (λf t=>H6 C ib f t Q) Q)):H6 C ib fr s Q:=by
 intro c hc I w a ha hf F n hF hrd;refine Wo (wpIn_mono (h c hc I w a ha hf F n hF hrd) (Jz λφ1 f t a1 w1 k k1 k2=>?_));exact k c hc φ1 w1 a1 k1 k2 F n hF hrd
end
mutual
def wkV:Z->Z
 |.nils=>.lst 0 false []
 |.sl0=>.sl0
 |.lst n _ cs=>.lst n false (wkL cs)
 |.vp cs=>.vp (wkL cs)
 |.agg cs=>.agg (wkL cs)
 |.tup cs=>.tup (wkL cs)
 |.ifc t v=>.ifc t (wkV v)
 |.gr _ _ n cs=>.lst n false cs
 |.bool b=>.bool b
 |.int k n=>.int k n
 |.str s=>.str s
 |.ptr i o=>.ptr i o
 |.nilp=>.nilp
 |.gptr g o=>.gptr g o
 |.sl i o n c=>.sl i o n c
 |.map i=>.map i
 |.nilm=>.nilm
 |.fn f a c=>.fn f a c
 |.nilf=>.nilf
 |.yld l=>.yld l
 |.nili=>.nili
def wkL:zA->zA
 |[]=>[]
 |v::r=>wkV v::wkL r
end
mutual
theorem iE:∀{v:Z},qg v=true->qg (wkV v)=true
 |.nils,_=>rfl
 |.sl0,_=>rfl
 |.lst _ _ _,_=>rfl
 |.vp _,_=>rfl
 |.agg cs,h=>by simp only[qg]at h;simp only[wkV,qg];exact Yx h
 |.tup cs,h=>by simp only[qg]at h;simp only[wkV,qg];exact Yx h
 |.ifc t v,h=>by simp only[qg]at h;simp only[wkV,qg];exact iE h
 |.gr _ _ _ _,h=>by simp[qg]at h
 |.bool _,_=>rfl
 |.int _ _,_=>rfl
 |.str _,_=>rfl
 |.ptr _ _,h=>by simp[qg]at h
 |.nilp,_=>rfl
 |.gptr _ _,_=>rfl
 |.sl _ _ _ _,h=>by simp[qg]at h
 |.map _,h=>by simp[qg]at h
 |.nilm,_=>rfl
 |.fn _ _ _,h=>h
 |.nilf,_=>rfl
 |.yld _,h=>by simp[qg]at h
 |.nili,_=>rfl
theorem Yx:∀{l:zA},wL l=true->wL (wkL l)=true
 |[],_=>rfl
 |v::r,h=>by
  simp only[wL,zU]at h;simp only[wkL,wL,iE h.1,Yx h.2,Bool.and_self]
end
mutual
theorem vm{I:Phi}:∀{v:Z} {x:Value},VR I v x->VR I (wkV v) x
 |.nils,x,h=>by simp only[VR]at h;simp only[wkV,VR];exact⟨by simp[wL],.inl ⟨trivial,_,h⟩⟩
 |.lst n e cs,x,h=>by
  simp only[VR]at h;simp only[wkV,VR];obtain⟨hp,h1|⟨b,o,k,ys,e1,e2,e3,e4,e5⟩⟩:=h
  .exact⟨Yx hp,.inl h1⟩
  .exact⟨Yx hp,.inr ⟨b,o,k,ys,e1,(by simp),e3,e4,l6 e5⟩⟩
 |.vp cs,x,h=>by
  simp only[VR]at h;simp only[wkV,VR];obtain⟨hp,b,o,ys,e1,e2,e3⟩:=h;exact⟨Yx hp,b,o,ys,e1,e2,l6 e3⟩
 |.agg cs,x,h=>by
  simp only[VR]at h;simp only[wkV,VR];obtain⟨xs,e,h1⟩:=h;exact⟨xs,e,l6 h1⟩
 |.tup cs,x,h=>by
  simp only[VR]at h;simp only[wkV,VR];obtain⟨xs,e,h1⟩:=h;exact⟨xs,e,l6 h1⟩
 |.ifc t v,x,h=>by
  simp only[VR]at h;simp only[wkV,VR];obtain⟨y,e,h1⟩:=h;exact⟨y,e,vm h1⟩
 |.sl0,x,h=>h
 |.gr _ _ _ _,x,h=>by simp only[wkV];exact h.gr_lst
 |.bool _,x,h=>h
 |.int _ _,x,h=>h
 |.str _,x,h=>h
 |.ptr _ _,x,h=>h
 |.nilp,x,h=>h
 |.gptr _ _,x,h=>h
 |.sl _ _ _ _,x,h=>h
 |.map _,x,h=>h
 |.nilm,x,h=>h
 |.fn _ _ _,x,h=>h
 |.nilf,x,h=>h
 |.yld _,x,h=>h
 |.nili,x,h=>h
theorem l6{I:Phi}:∀{l:zA} {xs:zE},VRL I l xs->VRL I (wkL l) xs
 |[],xs,h=>h
 |v::r,xs,h=>by
  simp only[VRL]at h;obtain⟨y,ys,rfl,h1,h2⟩:=h;exact VRL.cons (vm h1) (l6 h2)
end
def KN:∀l:zA,(wkL l).length=zR l
 |[]=>rfl
 |v::r=>by simp[wkL,KN r]
def wkO:Bool->AObj->AObj
 |true,.row e cs x fz=>.row e (wkL cs) x fz
 |_,o=>o
def EM(b:Bool)(o:AObj):uE (wkO b o)=uE o/\(∀B z,SepOf o B z->SepOf (wkO b o) B z):=by
 cases b with
 |false=>exact⟨by cases o<;>rfl,λB z t=>by cases o<;>exact t⟩
 |true=>cases o<;>exact⟨rfl,λ_ _ t=>t⟩
def EN(b:Bool){B:Blk}(t:ObjRel P I w o B):ObjRel P I w (wkO b o) B:=by
 cases b with
 |false=>cases o<;>exact t
 |true=>
  cases o<;>first|exact t|skip
  simp only[ObjRel,wkO]at t|-;obtain⟨c,fr,h1,h2,h3,h4,h5,h6⟩:=t;exact⟨c,fr,h1,h2,by rw[KN];exact h3,by rw[KN];exact h4,by rw[KN];exact l6 h5,h6⟩
def PA:zy->Nat->Nat->zD
 |[],_,_=>none
 |k::r,Y,j=>bif zI k Y then some j else PA r Y (j+1)
def rho(n0:Nat)(keep:zy)(Y:Nat):zD:=bif zL Y n0 then some Y else PA keep Y n0
mutual
def jG(ρ:Nat->zD):Z->zC
 |.ptr Y off=>match ρ Y with
  |some j=>some (.ptr j off)
  |none=>none
 |.sl Y off len c=>match ρ Y with
  |some j=>some (.sl j off len c)
  |none=>none
 |.map Y=>match ρ Y with
  |some j=>some (.map j)
  |none=>none
 |.yld Y=>match ρ Y with
  |some j=>some (.yld j)
  |none=>none
 |.gr Y e n cs=>match ρ Y with
  |some j=>some (.gr j e n cs)
  |none=>none
 |.fn f a c=>match WB ρ (wL a) a,WB ρ (wL c) c with
  |some a,some c=>some (.fn f a c)
  |_,_=>none
 |.ifc t v=>match jG ρ v with
  |some v=>some (.ifc t v)
  |none=>none
 |.agg cs=>match WB ρ (wL cs) cs with
  |some cs=>some (.agg cs)
  |none=>none
 |.tup cs=>match WB ρ (wL cs) cs with
  |some cs=>some (.tup cs)
  |none=>none
 |v=>some v
def WB(ρ:Nat->zD)(p:Bool)(l:zA):Option zA:=bif p then some l else iJ ρ l
def iJ(ρ:Nat->zD):zA->Option zA
 |[]=>some []
 |v::r=>match jG ρ v,iJ ρ r with
  |some v,some r=>some (v::r)
  |_,_=>none
end
def P3:zh->Bool
 |[]=>true
 |p::r=>qg p.1&&qg p.2.1&&P3 r
def QO:zp->Bool
 |[]=>true
 |p::r=>qg p.2&&QO r
def Lq(ρ:Nat->zD):AObj->zm
 |.row e cells x fz=>match WB ρ (wL cells) cells with
  |some cs=>some (.row e cs x fz)
  |none=>none
 |.map es clock=>bif P3 es then some (.map es clock)else none
 |.umap es=>bif QO es then some (.umap es)else none
 |.siter s pos=>some (.siter s pos)
 | .miter m since seen stepped=>match m with
  |none=>some (.miter none since seen stepped)
  |some Y=>match ρ Y with
   |some j=>some (.miter (some j) since seen stepped)
   |none=>none
 |.loop _ _ _ _ _ _ _=>none
 |.dfd=>some .dfd
 |.dfd0=>some .dfd0
 |.giv cells=>match WB ρ (wL cells) cells with
  |some cs=>some (.giv cs)
  |none=>none
 |.app e cells=>bif wL cells then some (.app e cells)else none
section
variable {I φ1:Phi}{ρ:Nat->zD}
structure RenOk(I φ1:Phi)(ρ:Nat->zD):Prop where
 m:∀Y j,ρ Y=some j->φ1 j=I Y
 z:φ1.z=I.z
mutual
theorem Vr(h:RenOk I φ1 ρ):∀{v v1:Z} {x:Value},jG ρ v=some v1->VR I v x->VR φ1 v1 x
 |.ptr Y off,v1,x,hr,hv=>by
  simp only[jG]at hr;split at hr
  .rename_i j hj;cases hr;simp only[VR]at hv|-;rw[h.m Y j hj];exact hv
  .cases hr
 |.sl Y off len c,v1,x,hr,hv=>by
  simp only[jG]at hr;split at hr
  .rename_i j hj;cases hr;simp only[VR]at hv|-;rw[h.m Y j hj];exact hv
  .cases hr
 |.map Y,v1,x,hr,hv=>by
  simp only[jG]at hr;split at hr
  .rename_i j hj;cases hr;simp only[VR]at hv|-;rw[h.m Y j hj];exact hv
  .cases hr
 |.yld Y,v1,x,hr,hv=>by
  simp only[jG]at hr;split at hr
  .rename_i j hj;cases hr;simp only[VR]at hv|-;rw[h.m Y j hj];exact hv
  .cases hr
 | .gr Y e n cs,v1,x,hr,hv=>by
  simp only[jG]at hr;split at hr
  .rename_i j hj
   cases hr;simp only[VR]at hv|-;rw[h.m Y j hj];obtain⟨h1,h2,h3,h4,B,ys,h5,h6,h7,h8,h9⟩:=hv;exact⟨h1,h2,h3,h4,B,ys,h5,h6,h7,h8.mono (λ_ _ _ t=>by rw[h.z];exact t),VRL.pure (λ_ _ _ t=>by rw[h.z];exact t) _ _ h1 h9⟩
  .cases hr
 | .fn f a c,v1,x,hr,hv=>by
  simp only[jG]at hr;split at hr
  .rename_i a' c' ha hc
   cases hr;simp only[VR]at hv|-;obtain⟨xs,ys,e,h1,h2⟩:=hv;exact⟨xs,ys,e,lW h ha h1,lW h hc h2⟩
  .cases hr
 | .ifc t v,v1,x,hr,hv=>by
  simp only[jG]at hr;split at hr
  .rename_i v' hv'
   cases hr;simp only[VR]at hv|-;obtain⟨y,e,h1⟩:=hv;exact⟨y,e,Vr h hv' h1⟩
  .cases hr
 | .agg cs,v1,x,hr,hv=>by
  simp only[jG]at hr;split at hr
  .rename_i c' hc
   cases hr;simp only[VR]at hv|-;obtain⟨xs,e,h1⟩:=hv;exact⟨xs,e,lW h hc h1⟩
  .cases hr
 | .tup cs,v1,x,hr,hv=>by
  simp only[jG]at hr;split at hr
  .rename_i c' hc
   cases hr;simp only[VR]at hv|-;obtain⟨xs,e,h1⟩:=hv;exact⟨xs,e,lW h hc h1⟩
  .cases hr
 |.bool _,v1,x,hr,hv=>by simp only[jG,wB]at hr;subst hr;simpa [VR]using hv
 |.int _ _,v1,x,hr,hv=>by simp only[jG,wB]at hr;subst hr;simpa [VR]using hv
 |.str _,v1,x,hr,hv=>by simp only[jG,wB]at hr;subst hr;simpa [VR]using hv
 |.nilp,v1,x,hr,hv=>by simp only[jG,wB]at hr;subst hr;simpa [VR]using hv
 |.gptr _ _,v1,x,hr,hv=>by simp only[jG,wB]at hr;subst hr;simpa [VR]using hv
 |.sl0,v1,x,hr,hv=>by simp only[jG,wB]at hr;subst hr;simpa [VR]using hv
 |.nils,v1,x,hr,hv=>by simp only[jG,wB]at hr;subst hr;simpa [VR]using hv
 |.nilm,v1,x,hr,hv=>by simp only[jG,wB]at hr;subst hr;simpa [VR]using hv
 |.nilf,v1,x,hr,hv=>by simp only[jG,wB]at hr;subst hr;simpa [VR]using hv
 |.nili,v1,x,hr,hv=>by simp only[jG,wB]at hr;subst hr;simpa [VR]using hv
 |.lst n ex cs,v1,x,hr,hv=>by
  simp only[jG,wB]at hr;subst hr;exact VR.pure (λ_ _ _ t=>by rw[h.z];exact t) _ _ rfl hv
 |.vp cs,v1,x,hr,hv=>by
  simp only[jG,wB]at hr;subst hr;exact VR.pure (λ_ _ _ t=>by rw[h.z];exact t) _ _ rfl hv
theorem lW(h:RenOk I φ1 ρ):∀{l l1:zA} {xs:zE},WB ρ (wL l) l=some l1->VRL I l xs->VRL φ1 l1 xs:=λ{l l1 xs} hr hv=>by
  unfold WB at hr;cases hp:wL l with
  |true=>
   rw[hp]at hr;simp only[wy,wB]at hr;subst hr;exact VRL.pure (λ_ _ _ t=>by rw[h.z];exact t) _ _ hp hv
  |false=>rw[hp]at hr;simp only[wK]at hr;exact HE h hr hv
theorem HE(h:RenOk I φ1 ρ):∀{l l1:zA} {xs:zE},iJ ρ l=some l1->VRL I l xs->VRL φ1 l1 xs
 |[],l1,xs,hr,hv=>by simp only[iJ,wB]at hr;subst hr;simpa [VRL]using hv
 | v::r,l1,xs,hr,hv=>by
  simp only[iJ]at hr;split at hr
  .rename_i v' r' h1 h2
   cases hr;simp only[VRL]at hv;obtain⟨y,ys,rfl,h3,h4⟩:=hv;exact VRL.cons (Vr h h1 h3) (HE h h2 h4)
  .cases hr
end
def iK{ρ:Nat->zD}:∀{l l1:zA},iJ ρ l=some l1->zR l1=zR l
 |[],l1,h=>by simp only[iJ,wB]at h;subst h;rfl
 |v::r,l1,h=>by
  simp only[iJ]at h;split at h
  .rename_i h1 h2;cases h;simp[iK h2]
  .cases h
def iI{ρ:Nat->zD}{p:Bool}{l l1:zA}(h:WB ρ p l=some l1):List.length l1=List.length l:=by
 cases p with
 |true=>simp only[WB,wy,wB]at h;rw[h]
 |false=>simp only[WB,wK]at h;exact iK h
def EntRel.pure(h:∀b o v,I.z b o=some v->φ1.z b o=some v):∀{es:zh} {l:zF},P3 es=true->EntRel I es l->EntRel φ1 es l
 |[],_,_,t=>t
 |p::r,_,hp,t=>by
  simp only[P3,zU]at hp;obtain⟨e,es',rfl,h1,h2,h3,h4⟩:=t;exact⟨e,es',rfl,VR.pure h _ _ hp.1.1 h1,VR.pure h _ _ hp.1.2 h2,h3,h4.pure h hp.2⟩
def URel.pure(h:∀b o v,I.z b o=some v->φ1.z b o=some v):∀{es:zp} {l:zF},QO es=true->URel I es l->URel φ1 es l
 |[],_,_,t=>t
 |p::r,_,hp,t=>by
  simp only[QO,zU]at hp;obtain⟨e,es',rfl,h1,h2,h4⟩:=t;exact⟨e,es',rfl,h1,VR.pure h _ _ hp.1 h2,h4.pure h hp.2⟩
def UMap.pure(h:∀b o v,I.z b o=some v->φ1.z b o=some v){es:zp}{ents:Array MapEntry}{clk:Nat}(hp:QO es=true)(t:UMap I es ents clk):UMap φ1 es ents clk:=
 let ⟨l,h1,h2,h3⟩:=t;⟨l,h1,h2.pure h hp,h3⟩
def HF{ρ:Nat->zD}{o1:AObj}(h:Lq ρ o=some o1):uE o1=uE o/\(∀B z,SepOf o B z->SepOf o1 B z):=by
 cases o<;>simp only[Lq]at h
 case row e cells x fz=>
  split at h
  .cases h;exact⟨rfl,λ_ _ t=>t⟩
  .cases h
 case map es clock=>
  cases hp:P3 es<;>rw[hp]at h<;>simp at h
  subst h;exact⟨rfl,λ_ _ t=>t⟩
 case umap es=>
  cases hp:QO es<;>rw[hp]at h<;>simp at h
  subst h;exact⟨rfl,λ_ _ t=>t⟩
 case siter=>cases h;exact⟨rfl,λ_ _ t=>t⟩
 case miter m since seen stepped=>
  cases m with
  |none=>cases h;exact⟨rfl,λ_ _ t=>t⟩
  |some Y=>
   simp only at h;split at h
   .cases h;exact⟨rfl,λ_ _ t=>t⟩
   .cases h
 case loop=>cases h
 case dfd=>cases h;exact⟨rfl,λ_ _ t=>t⟩
 case dfd0=>cases h;exact⟨rfl,λ_ _ t=>t⟩
 case giv cells=>
  split at h
  .cases h;exact⟨rfl,λ_ _ t=>t⟩
  .cases h
 case app e cells=>
  cases hp:wL cells<;>rw[hp]at h<;>simp at h
  subst h;exact⟨rfl,λ_ _ t=>t⟩
def HG(h:RenOk I φ1 ρ){o1:AObj}{B:Blk}(hr:Lq ρ o=some o1)(t:ObjRel P I w o B):ObjRel P φ1 w o1 B:=by
 have hz:∀b o v,I.z b o=some v->φ1.z b o=some v:=λ_ _ _ t=>by rw[h.z];exact t
 cases o<;>simp only[Lq]at hr
 case row e cells x fz=>
  split at hr
  .rename_i cs hc
   cases hr;have hl:=iI hc;simp only[ObjRel]at t|-;obtain⟨c,fr,h1,h2,h3,h4,h5,h6⟩:=t;exact⟨c,fr,h1,h2,by rw[hl];exact h3,by rw[hl];exact h4,by rw[hl];exact lW h hc h5,h6⟩
  .cases hr
 case map es clock=>
  cases hp:P3 es<;>rw[hp]at hr<;>simp at hr
  subst hr;obtain⟨ents,h1,h2⟩:=t;exact⟨ents,h1,h2.pure hz hp⟩
 case umap es=>
  cases hp:QO es<;>rw[hp]at hr<;>simp at hr
  subst hr;obtain⟨ents,clk,h1,h2⟩:=t;exact⟨ents,clk,h1,h2.pure hz hp⟩
 case siter=>cases hr;exact t
 case miter m since seen stepped=>
  simp only[ObjRel]at t;obtain⟨h0,m',h1,h2⟩:=t;cases m with
  |none=>cases hr;exact⟨h0,m',h1,h2⟩
  | some Y=>
   simp only at hr;split at hr
   .rename_i j hj
    cases hr;obtain⟨B',hB,e⟩:=h2;exact⟨h0,m',h1,B',(h.m Y j hj).trans hB,e⟩
   .cases hr
 case loop=>cases hr
 case dfd=>cases hr;exact t
 case dfd0=>cases hr;exact t
 case giv cells=>
  split at hr
  .rename_i cs hc
   cases hr;have hl:=iI hc;simp only[ObjRel]at t|-;obtain⟨c,e,fr,h1,h2,h3⟩:=t;exact⟨c,e,fr,h1,by rw[hl];exact h2,by rw[hl];exact lW h hc h3⟩
  .cases hr
 case app e cells=>
  cases hp:wL cells<;>rw[hp]at hr<;>simp at hr
  subst hr;obtain⟨c,fr,h1,h2,h3,h4,h5⟩:=t;exact⟨c,fr,h1,h2,h3,VRL.pure hz _ _ hp h4,h5⟩
end
def tmL:List (Nat×Z)->zB
 |[]=>.leaf
 |p::r=>(tmL r).set p.1 p.2
def osT:Nat->zl->Trie AObj
 |_,[]=>.leaf
 |n,o::r=>match o with
  |some o=>(osT (n+1) r).set n o
  |none=>osT (n+1) r
def H(os:zl)(m:Nat)(b:Bool):U:={objs:=osT 0 os,next:=zR os,wm:=m,hide:=[],only:=none,md:=b}
def lc:zl->Nat->zm
 |[],_=>none
 |o::r,i=>if i=0 then o else lc r (i-1)
def AG:∀(l:zl) (n i:Nat),(osT n l).get i=if n<=i then lc l (i-n)else none
 |[],n,i=>by simp[osT,Trie.get,lc]
 | o::r,n,i=>by
  have ih:=AG r (n+1) i;have key:(if n<=i then lc (o::r) (i-n)else none)=if i=n then o else (if n+1<=i then lc r (i-(n+1))else none):=by
   by_cases h1:i=n
   .subst h1;simp[lc]
   .by_cases h2:n+1<=i
    .rw[wx h1,wH h2,wH J];simp only[lc];rw[wx J,show i-n-1=i-(n+1) by omega]
    .rw[wx h1,wx h2,wx J]
  rw[key];cases o with
  |none=>
   simp only[osT];rw[ih];by_cases h1:i=n
   .rw[wH h1,wx J]
   .rw[wx h1]
  |some o=>
   simp only[osT];rw[Trie.get_set];by_cases h1:i=n
   .rw[wH h1,wH h1]
   .rw[wx h1,wx h1,ih]
def KP(os:zl)(m:Nat)(b:Bool)(i:Nat):(H os m b).objs.get i=lc os i:=by
 show (osT 0 os).get i=_;rw[AG,wH (Nat.zero_le _),Nat.sub_zero]
def zz6(os:zl)(m:Nat)(b:Bool)(i:Nat):(H os m b).get i=lc os i:=by
 rw[<-KP os m b i];simp[U.get,H,hid]
def Uf:∀(l:zl) (i:Nat),lc l i=(l[i]?).getD none
 |[],i=>by simp[lc]
 |o::r,i=>by
  cases i with
  |zero=>simp[lc]
  |succ i=>simp[lc,Uf r i]
def tN{l:zl}(h:lc l i=some o):i<List.length l:=by
 rw[Uf]at h;by_cases hl:i<zR l
 .exact hl
 .rw[yS J]at h;simp at h
def zwq(os:zl)(m:Nat)(b:Bool):Wf (H os m b):=⟨λY o h=>by rw[KP]at h;exact tN h,λp hp=>by cases hp⟩
def CZ(ρ:Nat->zD)(A:zB):zy->Option (List (Nat×Z))
 |[]=>some []
 | i::r=>match A.get i with
  | some v=>match jG ρ v with
   |some v=>match CZ ρ A r with
    |some l=>some ((i,v)::l)
    |none=>none
   |none=>none
  |none=>none
def CY(ρ:Nat->zD):zy->Option zy
 |[]=>some []
 |d::r=>match ρ d,CY ρ r with
  |some d,some r=>some (d::r)
  |_,_=>none
def Me(wk:Bool)(b s:U)(M:Nat)(ρ:Nat->zD)(i:Nat):Option zm:=
 bif M.testBit i then match s.get i with
  |some o=>match Lq ρ o with
   |some o=>some (some (wkO wk o))
   |none=>none
  |none=>some none
 else some (b.get i)
def gcB(wk:Bool)(b s:U)(M:Nat)(ρ:Nat->zD):Nat->Nat->Option zl
 |_,0=>some []
 |i,k+1=>match Me wk b s M ρ i,gcB wk b s M ρ (i+1) k with
  |some o,some l=>some (o::l)
  |_,_=>none
def gcK(s:U)(ρ:Nat->zD):zy->Option zl
 |[]=>some []
 | Y::r=>match s.get Y with
  |some o=>match Lq ρ o,gcK s ρ r with
   |some o,some l=>some (some o::l)
   |_,_=>none
  |none=>none
def Jf(n0:Nat):zy->Bool
 |[]=>true
 |k::r=>Nat.ble n0 k&& !Xi k r&&Jf n0 r
def gcF(wk:Bool)(b:U)(M:Nat)(keep live:zy)(md:Bool)(fr:Fr)(s:U):Option (Fr×U):=
 bif Jf b.next keep&&zI (Nat.lor (vn s.wm b.next) M) M then
  match CZ (rho b.next keep) fr.A live,CY (rho b.next keep) fr.df,gcB wk b s M (rho b.next keep) 0 b.next,gcK s (rho b.next keep) keep with
  |some l,some d,some o1,some o2=>some ({A:=tmL l,df:=d},H (o1++o2) M md)
  |_,_,_,_=>none
 else none
def G5:∀{l:zy} {Y j k:Nat},PA l Y j=some k->j<=k/\l[k-j]? =some Y
 |[],_,_,_,h=>by simp[PA]at h
 | a::r,Y,j,k,h=>by
  simp only[PA]at h;cases hb:zI a Y with
  |true=>
   rw[hb]at h;simp only[wy,wB]at h;subst h;rw[ql]at hb;subst hb;exact⟨Nat.le_refl _,by simp⟩
  |false=>
   rw[hb]at h;simp only[wK]at h;obtain⟨h1,h2⟩:=G5 h;refine⟨J,?_⟩;rw[show k-j=(k-(j+1))+1 by omega];simpa using h2
def Ws{n:Nat}:∀{l:zy},Xi n l=true↔n∈l
 |[]=>by simp[Xi]
 | m::r=>by
  simp only[Xi];cases hb:zI n m with
  |true=>rw[ql]at hb;subst hb;simp
  |false=>
   have:n≠m:=λe=>by rw[ql.2 e]at hb;cases hb
   simp[Ws (l:=r),this]
def PY{n0:Nat}:∀{l:zy},Jf n0 l=true->(∀k∈l,n0<=k)/\l.Nodup
 |[],_=>⟨λ_ h=>(by cases h),List.nodup_nil⟩
 | k::r,h=>by
  simp only[Jf,zU,qd,Bool.not_eq_true']at h;obtain⟨h1,h2⟩:=PY h.2;refine⟨λj hj=>?_,List.nodup_cons.2 ⟨λhm=>?_,h2⟩⟩
  .rcases List.mem_cons.1 hj with rfl|hj
   .exact h.1.1
   .exact h1 j hj
  .have h9:=h.1.2;rw[Ws.2 hm]at h9;cases h9
def tL{wk:Bool}{b s:U}{M:Nat}{ρ:Nat->zD}:∀{k i:Nat} {l:zl},gcB wk b s M ρ i k=some l->zR l=k/\∀j,j<k->Me wk b s M ρ (i+j)=some (lc l j)
 |0,i,l,h=>by simp only[gcB,wB]at h;subst h;exact⟨rfl,λj hj=>J⟩
 | k+1,i,l,h=>by
  simp only[gcB]at h;split at h
  .rename_i o l' h1 h2
   cases h;obtain⟨h3,h4⟩:=tL h2;refine⟨by simp[h3],λj hj=>?_⟩
   cases j with
   |zero=>simpa [lc]using h1
   |succ j=>rw[show i+(j+1)=i+1+j by omega,h4 j J];simp[lc]
  .cases h
def tM{s:U}{ρ:Nat->zD}:∀{l:zy} {os:zl},gcK s ρ l=some os->zR os=zR l/\∀j o,lc os j=some o->∃Y o',l[j]? =some Y/\s.get Y=some o'/\Lq ρ o'=some o
 |[],os,h=>by simp only[gcK,wB]at h;subst h;exact⟨rfl,λj o h=>by simp[lc]at h⟩
 | Y ::r,os,h=>by
  simp only[gcK]at h;split at h
  .rename_i o hg
   split at h
   .rename_i o1 l1 h1 h2
    cases h;obtain⟨h3,h4⟩:=tM h2;refine⟨by simp[h3],λj x hx=>?_⟩
    cases j with
    |zero=>simp only[lc,if_true,wB]at hx;subst hx;exact⟨Y,o,rfl,hg,h1⟩
    |succ j=>
     simp only[lc,Nat.add_one_sub_one]at hx;rw[wx J]at hx;obtain⟨id',o',q1,q2,q3⟩:=h4 j x hx;exact⟨id',o',by simpa using q1,q2,q3⟩
   .cases h
  .cases h
def Wh(l m:zl)(i:Nat):lc (l++m) i=if i<(zR l)then lc l i else lc m (i-zR l):=by
 rw[Uf,Uf,Uf];by_cases h:i<zR l
 .rw[wH h,List.getElem?_append_left h]
 .rw[wx h,List.getElem?_append_right J]
def UC(i:Nat)(v:Z)(l:List (Nat×Z))(j:Nat):(tmL ((i,v)::l)).get j=if j=i then some v else (tmL l).get j:=by
 show ((tmL l).set i v).get j=_;rw[Trie.get_set]
theorem mm(j:Nat):(tmL []).get j=none:=rfl
def fD{ρ:Nat->zD}{A:zB}:∀{L:zy} {l:List (Nat×Z)},CZ ρ A L=some l->∀i v,(tmL l).get i=some v->∃v0,A.get i=some v0/\jG ρ v0=some v
 |[],l,h,i,v,hv=>by simp only[CZ,wB]at h;subst h;rw[mm]at hv;cases hv
 | k ::r,l,h,i,v,hv=>by
  simp only[CZ]at h;split at h
  .rename_i v0 hv0
   split at h
   .rename_i v1 hv1
    split at h
    .rename_i l1 hl1
     cases h;rw[UC]at hv;by_cases e:i=k
     .rw[wH e]at hv;cases hv;subst e;exact⟨v0,hv0,hv1⟩
     .rw[wx e]at hv;exact fD hl1 i v hv
    .cases h
   .cases h
  .cases h
def fC{I φ1:Phi}{ρ:Nat->zD}(h:RenOk I φ1 ρ):∀{l l1:zy} {ds:List Deferred},CY ρ l=some l1->DfRel I l ds->DfRel φ1 l1 ds
 |[],l1,ds,hr,t=>by simp only[CY,wB]at hr;subst hr;exact t
 | d::r,l1,ds,hr,t=>by
  simp only[CY]at hr;split at hr
  .rename_i d1 r1 h1 h2
   cases hr;obtain⟨B,ds',hB,rfl,hd⟩:=t;exact⟨B,ds',(h.m d d1 h1).trans hB,rfl,fC h h2 hd⟩
  .cases hr
def PS:∀{l:zy} (_:l.Nodup) {i j x:Nat} (_:l[i]? =some x) (_:l[j]? =some x),i=j
 |[],_,i,j,x,hi,_=>by simp at hi
 | a::r,h,i,j,x,hi,hj=>by
  obtain⟨h1,h2⟩:=List.nodup_cons.1 h;cases i with
  | zero=>cases j with
   |zero=>rfl
   |succ j=>
    simp only[xM,wB,xQ]at hi hj;subst hi;exact absurd (xU hj) h1
  | succ i=>cases j with
   |zero=>
    simp only[xM,wB,xQ]at hi hj;subst hj;exact absurd (xU hi) h1
   |succ j=>
    simp only[xQ]at hi hj;rw[PS h2 hi hj]
def Pz{C:Cx}(ok:CxOk C){wk:Bool}{keep live:zy}{md:Bool}{fr fr1:Fr}{s1:U}(h:gcF wk C.s C.M keep live md fr s=some (fr1,s1)){a:Act}(ha:At C I s w)(hfr:FrRel I C.nt fr a):∃φ1,At C φ1 s1 w/\FrRel φ1 C.nt fr1 a/\φ1.z=I.z:=by
 unfold gcF at h;cases hb:Jf C.s.next keep&&zI (Nat.lor (vn s.wm C.s.next) C.M) C.M with
 |false=>rw[hb]at h;simp at h
 |true=>
 rw[hb]at h;simp only[wy]at h;rw[zU,ql]at hb;obtain⟨hk,hm⟩:=hb;obtain⟨hk1,hk2⟩:=PY hk;split at h
 case h_2=>cases h
 rename_i l d o1 o2 hl hd h1 h2
 cases h;obtain⟨b1,b2⟩:=tL h1;obtain⟨c1,c2⟩:=tM h2;obtain⟨n0,hn0⟩:∃n0,n0=C.s.next:=⟨_,rfl⟩
 rw[<-hn0]at hk1 h1 h2 hl hd b1 b2 c2;have hle:n0<=s.next:=by rw[hn0];exact ha.st.ext.next
 have hwfC:=ok.wf;have hwfs:=ha.wf ok;have hsh:s.hide=[]:=ha.st.ext.hide.trans ok.hide;have hso:s.only=none:=ha.st.ext.only.trans ok.only;have hget:∀Y,s.get Y=s.objs.get Y:=λY=>by unfold U.get;rw[hso,hsh];rfl
 have hgetC:∀Y,C.s.get Y=C.s.objs.get Y:=λY=>by unfold U.get;rw[ok.only,ok.hide];rfl
 have hbits:∀i,i<n0->s.wm.testBit i=true->C.M.testBit i=true:=λi hi hb=>by
  have:(Nat.lor (vn s.wm C.s.next) C.M).testBit i=true:=by
   show (vn s.wm C.s.next|||C.M).testBit i=true
   rw[Nat.testBit_or,ZT,hb];simp[<-hn0,hi]
  rw[hm]at this;exact this
 have hunb:∀i,i<n0->C.M.testBit i=false->s.wm.testBit i=false:=λi hi hb=>by
  cases hx:s.wm.testBit i with
  |false=>rfl
  |true=>rw[hbits i hi hx]at hb;cases hb
 obtain⟨φ1,hφ1⟩:∃φ1:Phi,φ1=⟨λj=>if j<n0 then I j else match keep[j-n0]? with|some Y=>I Y|none=>none,I.z⟩:=⟨_,rfl⟩
 have p1:∀j,j<n0->φ1 j=I j:=λj hj=>by rw[hφ1];exact wH hj
 have p2:∀j,n0<=j->φ1 j=match keep[j-n0]? with|some Y=>I Y|none=>none:=λj hj=>by rw[hφ1];exact wx J
 have pz:φ1.z=I.z:=by rw[hφ1]
 have hren:RenOk I φ1 (rho n0 keep):=⟨λY j hj=>by
  unfold rho at hj;cases hlt:zL Y n0 with
  |true=>rw[hlt]at hj;simp only[wy,wB]at hj;subst hj;exact p1 Y (qA.1 hlt)
  |false=>
   rw[hlt]at hj;simp only[wK]at hj;obtain⟨q1,q2⟩:=G5 hj;rw[p2 j q1,q2],pz⟩
 have hlen:(o1++o2).length=n0+zR keep:=by rw[List.length_append,b1,c1]
 have src:∀Y o,(H (o1++o2) C.M md).get Y=some o->∃id' o',s.get id'=some o'/\φ1 Y=I id'/\uE o=uE o'/\(∀B z,SepOf o' B z->SepOf o B z)/\((Y<n0/\id'=Y)\/(n0<=Y/\keep[Y-n0]? =some id'))/\(∀B,I id'=some B->ObjRel C.P I w o' B->ObjRel C.P φ1 w o B):=by
  intro Y o ho;rw[zz6,Wh,b1]at ho;by_cases hid:Y<n0
  .rw [wH hid]at ho;have hb1:=b2 Y hid;rw[xB]at hb1;unfold Me at hb1;cases hM:C.M.testBit Y with
   | true=>
    rw[hM]at hb1;simp only[wy]at hb1;split at hb1
    .rename_i o' ho'
     split at hb1
     .rename_i o'' ho''
      rw[ho]at hb1;cases hb1;obtain⟨g1,g2⟩:=HF ho'';obtain⟨g3,g4⟩:=EM wk o'';exact⟨Y,o',ho',p1 Y hid,g3.trans g1,λB z t=>g4 B z (g2 B z t),.inl ⟨hid,rfl⟩,λB _ t=>EN wk (HG hren ho'' t)⟩
     .cases hb1
    .rw[ho]at hb1;cases hb1
   | false=>
    rw[hM]at hb1;simp only[wK,wB]at hb1;rw[ho]at hb1;have hs:s.get Y=some o:=by
     rw[hget,ha.st.ext.keep Y J (hunb Y hid hM),<-hgetC];exact hb1
    refine⟨Y,o,hs,p1 Y hid,rfl,λ_ _ t=>t,.inl ⟨hid,rfl⟩,λB hB t=>?_⟩;obtain⟨B',hB',t'⟩:=ok.rel.obj Y o hb1;have hsm:I Y=C.I Y:=ha.st.same Y (.inl J);have:B=B':=by rw[hsm,hB']at hB;cases hB;rfl
    subst this;have hsub:Sub C.I φ1:=⟨λi Bi hi=>by
     have hlt:i<n0:=by
      apply Nat.lt_of_not_le;intro hle;rw[ok.fresh i J]at hi;cases hi
     rw[p1 i hlt,ha.st.same i (.inl J)];exact hi,λb i v hv=>by rw[pz];exact ha.st.zsub b i v hv⟩
    refine t'.keep hsub (ha.st.frame _ (ok.rel.rng Y B hB') λid2 o2 B2 q1 q2 q3=>?_);rcases ok.rel.inj id2 Y o2 o B2 B q1 hb1 q2 hB' q3 with e|e
    .rw[e];exact hunb Y hid hM
    .have hid2:id2<n0:=by rw[hn0];exact hwfC.lt id2 o2 (qr q1)
     have hgv:=ok.rel.old id2 o2 B2 q1 q2 e;cases hM2:C.M.testBit id2 with
     |false=>exact hunb id2 hid2 hM2
     |true=>
      obtain⟨_,o3,q5,q6⟩:=ok.mask id2 hM2;rw[<-hgetC,q1]at q5;cases q5;rw[hgv]at q6;cases q6
  .rw[wx hid]at ho;obtain⟨id',o',q1,q2,q3⟩:=c2 _ _ ho;obtain⟨g1,g2⟩:=HF q3;exact⟨id',o',q2,by rw[p2 Y J,q1],g1,g2,.inr ⟨J,q1⟩,λB _ t=>HG hren q3 t⟩
 refine⟨φ1,⟨⟨⟨?_,ok.wm,ok.hide.symm,ok.only.symm,?_,?_,λ_=>zwq _ _ _,?_,?_⟩,⟨ha.st.rel.base,?_,?_,?_,?_,?_,?_⟩,?_,ha.st.size,?_,?_,?_,?_⟩,?_⟩,⟨?_,hfr.size,fC hren hd hfr.df⟩,pz⟩
 .show C.s.next<=(o1++o2).length
  omega
 .intro Y hid hb;have hid':Y<n0:=J;have hb':C.M.testBit Y=false:=hb;rw[KP,Wh,b1,wH hid'];have hb1:=b2 Y hid';rw[xB]at hb1;unfold Me at hb1;rw[hb']at hb1;simp only[wK,wB]at hb1;rw[<-hb1,hgetC]
 .intro Y o hid ho;have hid':Y<n0:=J;cases hM:C.M.testBit Y with
  |true=>obtain⟨_,o',h3,_⟩:=ok.mask Y hM;exact⟨o',h3⟩
  |false=>
   rw[KP,Wh,b1,wH hid']at ho;have hb1:=b2 Y hid';rw[xB]at hb1;unfold Me at hb1;rw[hM]at hb1;simp only[wK,wB]at hb1;exact⟨o,by rw[<-hgetC,hb1];exact ho⟩
 .intro Y hid hb
  right
  unfold seen;rw[ok.only,ok.hide];rfl
 .intro Y o hid ho hg hb;obtain⟨_,o',h3,h4⟩:=ok.mask Y hb;rw[ho]at h3;cases h3;rw[hg]at h4;cases h4
 .intro Y o ho;obtain⟨id',o',q1,q2,_,_,_,q5⟩:=src Y o ho;obtain⟨B,hB,t⟩:=ha.st.rel.obj id' o' q1;exact⟨B,q2.trans hB,q5 B hB t⟩
 .intro Y B hB;by_cases hid:Y<n0
  .rw[p1 Y hid]at hB;exact ha.st.rel.rng Y B hB
  .rw[p2 Y J]at hB;split at hB
   .rename_i k _;exact ha.st.rel.rng k B hB
   .cases hB
 .intro Y o B ho hB hlt;obtain⟨id',o',q1,q2,q3,_,_,_⟩:=src Y o ho;rw[q3];exact ha.st.rel.old id' o' B q1 (by rw[<-q2];exact hB) hlt
 .intro i j oi oj Bi Bj hi hj hBi hBj e;obtain⟨i',oi',q1,q2,_,_,q4,_⟩:=src i oi hi;obtain⟨j',oj',r1,r2,_,_,r4,_⟩:=src j oj hj;rcases ha.st.rel.inj i' j' oi' oj' Bi Bj q1 r1 (by rw[<-q2];exact hBi) (by rw[<-r2];exact hBj) e with e'|e'
  .left
   rcases q4 with ⟨q4,q5⟩|⟨q4,q5⟩<;>rcases r4 with ⟨r4,r5⟩|⟨r4,r5⟩
   .omega
   .have:=hk1 j' (xU r5);omega
   .have:=hk1 i' (xU q5);omega
   .subst e';have:=PS hk2 q5 r5;omega
  .exact .inr e'
 .intro b i v hv;rw[pz]at hv;exact ha.st.rel.frz b i v hv
 .intro Y o B ho hB;obtain⟨id',o',q1,q2,_,q3,_,_⟩:=src Y o ho;rw[pz];exact q3 B _ (ha.st.rel.sep id' o' B q1 (by rw[<-q2];exact hB))
 .intro Y hid;have hid':Y<n0\/(o1++o2).length<=Y:=by rw[hn0];exact hid
  rcases hid' with hid'|hid'
  .rw[p1 Y hid',ha.st.same Y (.inl J)]
  .rw[p2 Y J,yS J];exact(ok.fresh Y J).symm
 .intro b hb H;refine ha.st.frame b hb λY o B q1 q2 q3=>?_;have hid:Y<n0:=by rw[hn0];exact hwfC.lt Y o (qr q1)
  exact hunb Y hid (H Y o B q1 q2 q3)
 .intro Y B h3 h4 hB;rw[p2 Y J]at hB;split at hB
  .rename_i k hk
   have hkn:=hk1 k (xU hk);have hks:k<s.next:=by
    apply Nat.lt_of_not_le;intro hle;rw[ha.fresh k hle]at hB;cases hB
   rcases ha.st.own k B J hks hB with h5|⟨id0,o0,B0,g0,p0,e0,m0⟩
   .exact .inl h5
   .exact .inr ⟨id0,o0,B0,g0,p0,e0,hbits id0 (by rw[hn0];exact hwfC.lt id0 o0 (qr g0)) m0⟩
  .cases hB
 .intro b i v hv;rw[pz];exact ha.st.zsub b i v hv
 .intro b i v hv;rw[pz]at hv;rcases ha.st.zown b i v hv with h5|h5|⟨id0,o0,B0,g0,p0,e0,m0⟩
  .exact .inl h5
  .exact .inr (.inl h5)
  .exact .inr (.inr ⟨id0,o0,B0,g0,p0,e0,hbits id0 (by rw[hn0];exact hwfC.lt id0 o0 (qr g0)) m0⟩)
 .intro Y hid;have hid':(o1++o2).length<=Y:=hid;rw[p2 Y J,yS J]
 .intro i v hv;obtain⟨v0,h3,h4⟩:=fD hl i v hv;exact Vr hren h4 (hfr.A i v0 h3)
def Mf{C:Cx}(ok:CxOk C){wk:Bool}{keep live:zy}{md:Bool}{fr fr1:Fr}{s1:U}(h:gcF wk C.s C.M keep live md fr s=some (fr1,s1)):Gc C fr s fr1 s1:=λ_ _ _ ha hfr=>by
 obtain⟨φ1,h1,h2,_⟩:=Pz ok h ha hfr;exact⟨φ1,h1,h2⟩
def Fin(E:Env)(c:U)(M:Nat)(res:List RV)(v:Z)(c':U)(r:Res)(fr:Fr)(s:U):Prop:=
 (r=.norm\/r=.ret)/\∃s2 vs v0 fr1,vB s fr.df=some s2/\lC E.globs fr.A s2 res=some vs/\XP c.next (jP vs)=some v0/\v=wkV v0/\gcF true c M [] [] c.md {A:=.leaf,df:=[]} s2=some (fr1,c')
def PM{C:Cx}(ok:CxOk C){F:Fence}{n:Nat}{fn:Func}{tmps:zr}{R:Ending->World->Prop}:∀{df:zy} {ds:List Deferred} {I:Phi} {s s':U} {w:World},vB s df=some s'->DfRel I df ds->At C I s w->
  (∀w',At C I s' w'->LeavesIn F n C.P fn tmps R [] .returning w')->LeavesInM F n C.P fn tmps R ds .returning w:=λ{df ds I s s' w} h hd ha hk=>
 Wr (X:=C.X) h hd ha.st.rel (ha.wf ok) λw' k=>hk w' (ha.step ok k)
def r9{X:World}{E:Env}{O:Orc}(hO:OrcOk P X O)(hm:P.follows .mixedOrders=true)(hG:qm E.globs X)(hE:pf P E){f:Nat}{F:IFunc}{args:zA}{c:U}{v:Z}{c':U}(M:Nat)
  (hF:E.funs.get f=some F) (hle:zR args<=F.ntmps) (hh:c.hide=[]) (ho:c.only=none) (hw:c.wm=0) (hM:∀i,M.testBit i=true->i<c.next/\∃o,c.objs.get i=some o/\uE o=false)
  (H:∀C:Cx,CxOk C->C.E=E->C.O=O->C.rd=none->C.s=c->C.M=M->Tri C F.body {A:=qG .leaf 0 args,df:=[]} c (Fin E c M F.res v c')):SC P X f args c v c':=by
 obtain⟨fn,hfn,hcf⟩:=hE f F hF;unfold dN at hcf;split at hcf
 .cases hcf
 .rename_i cd hbody
  split at hcf
  .rename_i ib rs hb hrs
   cases hnm:(fn.name != "runtime.NumGoroutine")with
   |false=>rw[hnm]at hcf;simp at hcf
   | true=>
    rw[hnm]at hcf;simp only[wy,wB]at hcf;subst hcf;have hnm':(fn.name== "runtime.NumGoroutine")=false:=by simpa [bne]using hnm
    refine⟨⟨fn,hfn,by rw[hbody];rfl,hnm'⟩,?_⟩
    intro I w xs r hwf hf hx Fe n hFe;have ok:CxOk ⟨P,X,E,O,fn.ntmps,none,I,c,w,M⟩:=
     ⟨hO,hm,hG,hE,r,hwf,hf,hh,ho,λi hi=>by rw[show (⟨P,X,E,O,fn.ntmps,none,I,c,w,M⟩:Cx).s.wm=0 from hw]at hi;simp at hi,hM⟩
    have hat:At ⟨P,X,E,O,fn.ntmps,none,I,c,w,M⟩ I c w:=⟨Step.refl r,hf⟩;have hxl:zR xs<=fn.ntmps:=by rw[<-VRL.length hx];exact hle
    have hfr:FrRel I fn.ntmps {A:=qG .leaf 0 args,df:=[]} {tmps:=xs.toArray++Array.replicate (fn.ntmps-xs.toArray.size) undef,defers:=[]}:=
     ⟨WI hx _,by simp;omega,rfl⟩
    have hFp:Wide Fe.plain:=⟨hFe.fn,hFe.depth,hFe.alive⟩;have ht:=H _ ok rfl rfl rfl rfl rfl;have key:CallsIn Fe.plain n P f xs.toArray w (KV P X I c w v c'):=by
     refine callsIn_of_wp_marks hfn hbody (hFe.fn f) (wpIn_mono (ht cd hb I w _ hat hfr Fe.plain n hFp (λ_=>rfl)) ?_)
     rintro e a' w' ⟨res,fr',s1,φ1,rfl,k1,k2,hor,s2,vs,v0,fr1,q1,q2,q3,hvv,q4⟩
     have hleave:LeavesInM Fe.plain n P fn a'.tmps (KV P X I c w v c') a'.defers .returning w':=by
      refine PM ok q1 k2.df k1 λw2 k3=>?_;have hre:Vs E.globs fr'.A s2 rs=some (jP vs,s2):=by unfold Vs;rw[q2]
      have hrel:Rel P X φ1 s2.get w2:=k3.st.rel;obtain⟨_,x,k4,k5⟩:=Z9 hG hrel k2.A hrs hre;obtain⟨φ2,g1,_,gz⟩:=Pz ok (fr:={A:=.leaf,df:=[]}) q4 k3 (a:={tmps:=a'.tmps,defers:=[]}) ⟨λi v hv=>by simp[Trie.get]at hv,k2.size,rfl⟩
      refine⟨x,k4,φ2,x,rfl,g1.st,?_⟩;refine hvv▸vm (GS (I:=φ1) (φ2:=φ2) (λb o u hu=>by rw[gz];exact hu) (λY hid=>?_) q3 k5)
      exact(g1.st.same Y (.inl hid)).trans (k3.st.same Y (.inl hid)).symm
     rcases hor with rfl|rfl
     .exact hleave
     .exact hleave
    exact key
  .cases hcf
end Go.Proofs.YtbddpjboppmnfaaGreatDoor.Ev

/- Part of a verified evaluator of the model's code, generic over the program: a run of the evaluator that answers shows what the model's run answers. No conditions of its own. -/
import Derived.Test.YtbdfljdgapkbcaaGreatDoorEvE
set_option linter.unusedSimpArgs false
set_option linter.unusedVariables false
set_option linter.defProp false
open List renaming mem_of_getElem? → y7, getElem?_cons_succ → yP, getElem?_eq_none → yb, getElem?_cons_zero → yN
open Bool renaming and_eq_true → zl
open Nat renaming blt → ze, zero_add → yC, beq → za
namespace Go.Proofs.YtbdfljdgapkbcaaGreatDoor.Ev
variable {P:Program}{w0 w w':World}{E:Env}{O:Orc}{s:St}{φ φ':Phi}{v:AV}{id n:Nat}{o:AObj}
open Go.RowKit (Below)
theorem zyg(hx:Q0 O)(hm:P.follows .mixedOrders=true)(hG:xS E.globs w0)(hE:kj P E)(hO:∀f g,O f=some g→qv P w0 f g):SelfOk P w0 (evW E O) where
 mono:=⟨fun f a s v s' h=>by obtain⟨n,hn⟩:=qV h;exact(jW E hx n).call _ _ _ _ _ hn,fun rd b fr s res fr' s' h=>by obtain⟨n,hn⟩:=qV h;exact(jW E hx n).loop _ _ _ _ _ _ _ hn,fun l a s v s' h=>by obtain⟨n,hn⟩:=qV h;exact(jW E hx n).round _ _ _ _ _ hn⟩
 ext:=⟨fun f a s v s' h=>by obtain⟨n,hn⟩:=qV h;exact(gH E hx n).call _ _ _ _ _ hn,fun rd b fr s res fr' s' h=>by obtain⟨n,hn⟩:=qV h;exact(gH E hx n).loop _ _ _ _ _ _ _ hn,fun l a s v s' h=>by obtain⟨n,hn⟩:=qV h;exact(gH E hx n).round _ _ _ _ _ hn⟩
 call:=fun h=>by obtain⟨n,hn⟩:=qV h;exact(V6 hx hm hG hE hO n).call hn
 round:=fun h=>by obtain⟨n,hn⟩:=qV h;exact(V6 hx hm hG hE hO n).round hn
 loop:=fun h=>by obtain⟨n,hn⟩:=qV h;exact(V6 hx hm hG hE hO n).loop hn
structure Cx where
 P:Program
 w0:World
 E:Env
 O:Orc
 nt:Nat
 rd:Option Nat
 φ:Phi
 s:St
 w:World
 /--the blocks that were there at the start,and may be written -/
 M:Nat
structure CxOk(C:Cx):Prop where
 ox:OrcOk C.P C.w0 C.O
 mixed:C.P.follows .mixedOrders=true
 glob:xS C.E.globs C.w0
 env:kj C.P C.E
 rel:Rel C.P C.w0 C.φ C.s.get C.w
 wf:Wf C.s
 fresh:∀id,C.s.next≤id→C.φ id=none
 hide:C.s.hide=[]
 only:C.s.only=none
 wm:∀i,C.s.wm.testBit i=true→C.M.testBit i=true
 mask:∀i,C.M.testBit i=true→i<C.s.next∧∃o,C.s.objs.get i=some o∧qG o=false
structure At(C:Cx)(φ:Phi)(s:St)(w:World):Prop where
 st:Step C.P C.w0 C.φ C.s C.w φ s w
 fresh:∀id,s.next≤id→φ id=none
def Hr(C:Cx)(Q:Res→Fr→St→Prop)(e:Exit)(a:Act)(w:World):Prop:=
 ∃res fr s φ,e=res.ex∧At C φ s w∧FrRel φ C.nt fr a∧Q res fr s
def Tri(C:Cx)(ic:ICode)(fr:Fr)(s:St)(Q:Res→Fr→St→Prop):Prop:=
 ∀c,cC C.P C.nt c=some ic→∀φ w a,At C φ s w→FrRel φ C.nt fr a→∀F n,Wide F→(C.rd=none→F.round=none)→c.wpIn F n C.P (Hr C Q) a w
def U5(C:Cx)(ic:ICode)(fr:Fr)(s:St)(Q:Res→Fr→St→Prop):Prop:=
 ∀c,cC C.P C.nt c=some ic→∀φ w a,At C φ s w→FrRel φ C.nt fr a→∀F n,Wide F→(C.rd=none→F.round=none)→LoopIn F n C.P c (Hr C Q) a w
def Gc(C:Cx)(fr:Fr)(s:St)(fr1:Fr)(s1:St):Prop:=
 ∀φ w a,At C φ s w→FrRel φ C.nt fr a→∃φ1,At C φ1 s1 w∧FrRel φ1 C.nt fr1 a
section
variable {C:Cx}{ic ia ib:ICode}{fr fr' fr1:Fr}{s s' s1:St}{Q Q':Res→Fr→St→Prop}{res:Res}
theorem At.wf(ok:CxOk C)(h:At C φ s w):Wf s:=h.st.ext.wf ok.wf
theorem At.step(ok:CxOk C)(h:At C φ s w)(k:Step C.P C.w0 φ s w φ' s' w'):At C φ' s' w':=
 ⟨Step.trans ok.wf h.st k,fun id hid=>by
  have:=k.ext.next
  rw[k.same id (.inr hid)];exact h.fresh id oM⟩
theorem CxOk.self(ok:CxOk C):SelfOk C.P C.w0 (evW C.E C.O):=zyg ok.ox.ext ok.mixed ok.glob ok.env ok.ox.ok
theorem Tri.mono(h:Tri C ic fr s Q)(hq:∀r f t,Q r f t→Q' r f t):Tri C ic fr s Q':=fun c hc φ w a ha hf F n hF hrd=>
 wpIn_mono (h c hc φ w a ha hf F n hF hrd) fun _ _ _ ⟨r,f,t,p,e1,e2,e3,e4⟩=>⟨r,f,t,p,e1,e2,e3,hq _ _ _ e4⟩
theorem P3(ok:CxOk C)(h:evC C.E (evW C.E C.O) C.rd ic fr s=some (res,fr',s'))(q:Q res fr' s'):Tri C ic fr s Q:=by
 intro c hc φ w a ha hf F n hF hrd;refine wpIn_mono (vx ok.self ok.glob (GE ok.mixed ok.glob _ ok.self) hF hrd c hc h ha.st.rel (ha.wf ok) ha.fresh hf) ?_
 rintro e a' w' ⟨φ',rfl,k1,k2⟩
 exact⟨res,fr',s',φ',rfl,ha.step ok k1,k2,q⟩
theorem zxd(h:Gc C fr s fr1 s1)(t:Tri C ic fr1 s1 Q):Tri C ic fr s Q:=by
 intro c hc φ w a ha hf F n hF hrd;obtain⟨φ1,h1,h2⟩:=h φ w a ha hf;exact t c hc φ1 w a h1 h2 F n hF hrd
theorem zwB(h:Gc C fr s fr1 s1)(t:U5 C ic fr1 s1 Q):U5 C ic fr s Q:=by
 intro c hc φ w a ha hf F n hF hrd;obtain⟨φ1,h1,h2⟩:=h φ w a ha hf;exact t c hc φ1 w a h1 h2 F n hF hrd
def wH(K:Fr→St→Prop)(Q:Res→Fr→St→Prop):Res→Fr→St→Prop
 |.norm,fr,s=>K fr s
 |r,fr,s=>Q r fr s
theorem WG{K:Fr→St→Prop}{KK:Act→World→Prop}(hK:∀φ f t a w,K f t→At C φ t w→FrRel φ C.nt f a→KK a w):∀e a w,Hr C (wH K Q) e a w→Exit.then KK (Hr C Q) e a w:=by
 rintro e a w ⟨r,f,t,p,rfl,e2,e3,e4⟩
 cases r with
 |norm=>exact hK p f t a w e4 e2 e3
 |exit id=>exact⟨.exit id,f,t,p,rfl,e2,e3,e4⟩
 |ret=>exact⟨.ret,f,t,p,rfl,e2,e3,e4⟩
theorem zlN{nt:Nat}{c:Code}(h:cC P nt c=some (.seq ia ib)):∃x y,c=.seq x y∧cC P nt x=some ia∧cC P nt y=some ib:=by
 cases c with
 |region id ops any=>
  cases any<;>simp only[cC]at h<;>obtain⟨_,_,he⟩:=Option.map_eq_some_iff.1 h<;>first|exact(UO he (fun _=>nofun) (fun _ _ _=>nofun)).elim|cases he
 | seq a b=>
  simp only[cC]at h;split at h
  ·rename_i x y hx hy
   simp only[Option.some.injEq]at h;cases h;exact⟨a,b,rfl,hx,hy⟩
  ·cases h
 |cond a b c=>
  simp only[cC]at h;split at h<;>cases h
 |block a b=>
  simp only[cC]at h;obtain⟨_,_,he⟩:=Option.map_eq_some_iff.1 h;cases he
 |loop b=>
  simp only[cC]at h;obtain⟨_,_,he⟩:=Option.map_eq_some_iff.1 h;cases he
 | rangeFunc a b c d=>
  simp only[cC]at h;split at h
  ·cases hq:b.toList.all (ze · nt)with
   |true=>rw[hq]at h;cases h
   |false=>rw[hq]at h;cases h
  ·cases h
 |_=>simp[cC]at h
theorem zot{nt:Nat}{c:Code}{x:Opd}(h:cC P nt c=some (.cond x ia ib)):∃x' a b,c=.cond x' a b∧qh x'=some x∧cC P nt a=some ia∧cC P nt b=some ib:=by
 cases c with
 |region id ops any=>
  cases any<;>simp only[cC]at h<;>obtain⟨_,_,he⟩:=Option.map_eq_some_iff.1 h<;>first|exact(UO he (fun _=>nofun) (fun _ _ _=>nofun)).elim|cases he
 |seq a b=>
  simp only[cC]at h;split at h
  ·simp only[Option.some.injEq]at h;cases h
  ·cases h
 | cond x' a b=>
  simp only[cC]at h;split at h
  ·rename_i h1 h2 h3
   cases h;exact⟨x',a,b,rfl,h1,h2,h3⟩
  ·cases h
 |block a b=>
  simp only[cC]at h;obtain⟨_,_,he⟩:=Option.map_eq_some_iff.1 h;cases he
 |loop b=>
  simp only[cC]at h;obtain⟨_,_,he⟩:=Option.map_eq_some_iff.1 h;cases he
 | rangeFunc a b c d=>
  simp only[cC]at h;split at h
  ·cases hq:b.toList.all (ze · nt)with
   |true=>rw[hq]at h;cases h
   |false=>rw[hq]at h;cases h
  ·cases h
 |_=>simp[cC]at h
theorem zt1{nt:Nat}{c:Code}(h:cC P nt c=some (.block id ib)):∃b,c=.block id b∧cC P nt b=some ib:=by
 cases c with
 |region id ops any=>
  cases any<;>simp only[cC]at h<;>obtain⟨_,_,he⟩:=Option.map_eq_some_iff.1 h<;>first|exact(UO he (fun _=>nofun) (fun _ _ _=>nofun)).elim|cases he
 |seq a b=>
  simp only[cC]at h;split at h
  ·simp only[Option.some.injEq]at h;cases h
  ·cases h
 |cond a b c=>
  simp only[cC]at h;split at h<;>cases h
 |block a b=>
  simp only[cC]at h;obtain⟨_,hb,he⟩:=Option.map_eq_some_iff.1 h;cases he;exact⟨b,rfl,hb⟩
 |loop b=>
  simp only[cC]at h;obtain⟨_,_,he⟩:=Option.map_eq_some_iff.1 h;cases he
 | rangeFunc a b c d=>
  simp only[cC]at h;split at h
  ·cases hq:b.toList.all (ze · nt)with
   |true=>rw[hq]at h;cases h
   |false=>rw[hq]at h;cases h
  ·cases h
 |_=>simp[cC]at h
theorem zou{nt:Nat}{c:Code}(h:cC P nt c=some (.loop ib)):∃b,c=.loop b∧cC P nt b=some ib:=by
 cases c with
 |region id ops any=>
  cases any<;>simp only[cC]at h<;>obtain⟨_,_,he⟩:=Option.map_eq_some_iff.1 h<;>first|exact(UO he (fun _=>nofun) (fun _ _ _=>nofun)).elim|cases he
 |seq a b=>
  simp only[cC]at h;split at h
  ·simp only[Option.some.injEq]at h;cases h
  ·cases h
 |cond a b c=>
  simp only[cC]at h;split at h<;>cases h
 |block a b=>
  simp only[cC]at h;obtain⟨_,_,he⟩:=Option.map_eq_some_iff.1 h;cases he
 |loop b=>
  simp only[cC]at h;obtain⟨_,hb,he⟩:=Option.map_eq_some_iff.1 h;cases he;exact⟨b,rfl,hb⟩
 | rangeFunc a b c d=>
  simp only[cC]at h;split at h
  ·cases hq:b.toList.all (ze · nt)with
   |true=>rw[hq]at h;cases h
   |false=>rw[hq]at h;cases h
  ·cases h
 |_=>simp[cC]at h
theorem qg(h:Tri C ia fr s (wH (fun f t=>Tri C ib f t Q) Q)):Tri C (.seq ia ib) fr s Q:=by
 intro c hc φ w a ha hf F n hF hrd;obtain⟨x,y,rfl,hx,hy⟩:=zlN hc;refine wpIn_seq (wpIn_mono (h x hx φ w a ha hf F n hF hrd) (WG fun φ1 f t a1 w1 k k1 k2=>?_));exact k y hy φ1 w1 a1 k1 k2 F n hF hrd
theorem zpW{x:Opd}{b:Bool}(hx:x.ev fr.tm=some (.bool b))(h:Tri C (bif b then ia else ib) fr s Q):Tri C (.cond x ia ib) fr s Q:=by
 intro c hc φ w a ha hf F n hF hrd;obtain⟨x',u,v,rfl,h1,h2,h3⟩:=zot hc;have hv:=xJ (φ:=φ) (a:=a) h1 hx (TmOn.of hf.tm);simp only[VR]at hv;cases b with
 |true=>exact wpIn_cond_true hv (h u h2 φ w a ha hf F n hF hrd)
 |false=>exact wpIn_cond_false hv (h v h3 φ w a ha hf F n hF hrd)
def kl(id:Nat)(Q:Res→Fr→St→Prop):Res→Fr→St→Prop
 |.norm,fr,s=>Q .norm fr s
 |.ret,fr,s=>Q .ret fr s
 |.exit i,fr,s=>Q (if i=id then .norm else .exit i) fr s
theorem vf(h:Tri C ib fr s (kl id Q)):Tri C (.block id ib) fr s Q:=by
 intro c hc φ w a ha hf F n hF hrd;obtain⟨b,rfl,hb⟩:=zt1 hc;refine wpIn_block (wpIn_mono (h b hb φ w a ha hf F n hF hrd) ?_)
 rintro e a1 w1 ⟨r,f,t,p,rfl,e2,e3,e4⟩
 cases r with
 |norm=>exact⟨.norm,f,t,p,rfl,e2,e3,e4⟩
 |ret=>exact⟨.ret,f,t,p,rfl,e2,e3,e4⟩
 |exit i=>
  simp only[kl]at e4;simp only[Res.ex,Exit.inBlock];by_cases hii:i=id
  ·rw[if_pos hii]at e4⊢;exact⟨.norm,f,t,p,rfl,e2,e3,e4⟩
  ·rw[if_neg hii]at e4⊢;exact⟨.exit i,f,t,p,rfl,e2,e3,e4⟩
theorem jn(h:U5 C ib fr s Q):Tri C (.loop ib) fr s Q:=by
 intro c hc φ w a ha hf F n hF hrd;obtain⟨b,rfl,hb⟩:=zou hc;exact Zx (h b hb φ w a ha hf F n hF hrd)
theorem ZU(h:Tri C ib fr s (wH (fun f t=>U5 C ib f t Q) Q)):U5 C ib fr s Q:=by
 intro c hc φ w a ha hf F n hF hrd;refine Ze (wpIn_mono (h c hc φ w a ha hf F n hF hrd) (WG fun φ1 f t a1 w1 k k1 k2=>?_));exact k c hc φ1 w1 a1 k1 k2 F n hF hrd
end
mutual
def wkV:AV→AV
 |.nils=>.lst 0 false []
 |.sl0=>.sl0
 |.lst n _ cs=>.lst n false (wkL cs)
 |.vp cs=>.vp (wkL cs)
 |.agg cs=>.agg (wkL cs)
 |.tup cs=>.tup (wkL cs)
 |.ifc t v=>.ifc t (wkV v)
 |.gr id e n cs=>.gr id e n cs
 |.bool b=>.bool b
 |.int k n=>.int k n
 |.str s=>.str s
 |.ptr i o=>.ptr i o
 |.nilp=>.nilp
 |.gptr g o=>.gptr g o
 |.sl i o n c=>.sl i o n c
 |.map i=>.map i
 |.nilm=>.nilm
 |.fn f a c=>.fn f a c
 |.nilf=>.nilf
 |.yld l=>.yld l
 |.nili=>.nili
def wkL:List AV→List AV
 |[]=>[]
 |v::r=>wkV v::wkL r
end
mutual
theorem Pu:∀{v:AV},x8 v=true→x8 (wkV v)=true
 |.nils,_=>rfl
 |.sl0,_=>rfl
 |.lst _ _ _,_=>rfl
 |.vp _,_=>rfl
 |.agg cs,h=>by simp only[x8]at h;simp only[wkV,x8];exact lB h
 |.tup cs,h=>by simp only[x8]at h;simp only[wkV,x8];exact lB h
 |.ifc t v,h=>by simp only[x8]at h;simp only[wkV,x8];exact Pu h
 |.gr _ _ _ _,h=>by simp[x8]at h
 |.bool _,_=>rfl
 |.int _ _,_=>rfl
 |.str _,_=>rfl
 |.ptr _ _,h=>by simp[x8]at h
 |.nilp,_=>rfl
 |.gptr _ _,_=>rfl
 |.sl _ _ _ _,h=>by simp[x8]at h
 |.map _,h=>by simp[x8]at h
 |.nilm,_=>rfl
 |.fn _ _ _,h=>h
 |.nilf,_=>rfl
 |.yld _,h=>by simp[x8]at h
 |.nili,_=>rfl
theorem lB:∀{l:List AV},xN l=true→xN (wkL l)=true
 |[],_=>rfl
 |v::r,h=>by
  simp only[xN,zl]at h;simp only[wkL,xN,Pu h.1,lB h.2,Bool.and_self]
end
mutual
theorem wO{φ:Phi}:∀{v:AV} {x:Value},VR φ v x→VR φ (wkV v) x
 |.nils,x,h=>by simp only[VR]at h;simp only[wkV,VR];exact⟨by simp[xN],.inl ⟨trivial,_,h⟩⟩
 |.lst n e cs,x,h=>by
  simp only[VR]at h;simp only[wkV,VR];obtain⟨hp,h1|⟨b,o,k,ys,e1,e2,e3,e4,e5⟩⟩:=h
  ·exact⟨lB hp,.inl h1⟩
  ·exact⟨lB hp,.inr ⟨b,o,k,ys,e1,(by simp),e3,e4,jL e5⟩⟩
 |.vp cs,x,h=>by
  simp only[VR]at h;simp only[wkV,VR];obtain⟨hp,b,o,ys,e1,e2,e3⟩:=h;exact⟨lB hp,b,o,ys,e1,e2,jL e3⟩
 |.agg cs,x,h=>by
  simp only[VR]at h;simp only[wkV,VR];obtain⟨xs,e,h1⟩:=h;exact⟨xs,e,jL h1⟩
 |.tup cs,x,h=>by
  simp only[VR]at h;simp only[wkV,VR];obtain⟨xs,e,h1⟩:=h;exact⟨xs,e,jL h1⟩
 |.ifc t v,x,h=>by
  simp only[VR]at h;simp only[wkV,VR];obtain⟨y,e,h1⟩:=h;exact⟨y,e,wO h1⟩
 |.sl0,x,h=>h
 |.gr _ _ _ _,x,h=>h
 |.bool _,x,h=>h
 |.int _ _,x,h=>h
 |.str _,x,h=>h
 |.ptr _ _,x,h=>h
 |.nilp,x,h=>h
 |.gptr _ _,x,h=>h
 |.sl _ _ _ _,x,h=>h
 |.map _,x,h=>h
 |.nilm,x,h=>h
 |.fn _ _ _,x,h=>h
 |.nilf,x,h=>h
 |.yld _,x,h=>h
 |.nili,x,h=>h
theorem jL{φ:Phi}:∀{l:List AV} {xs:List Value},VRL φ l xs→VRL φ (wkL l) xs
 |[],xs,h=>h
 |v::r,xs,h=>by
  simp only[VRL]at h;obtain⟨y,ys,rfl,h1,h2⟩:=h;exact VRL.cons (wO h1) (jL h2)
end
theorem QX:∀l:List AV,(wkL l).length=l.length
 |[]=>rfl
 |v::r=>by simp[wkL,QX r]
def wkO:Bool→AObj→AObj
 |true,.row e cs x fz=>.row e (wkL cs) x fz
 |_,o=>o
theorem ztq(b:Bool)(o:AObj):qG (wkO b o)=qG o∧(∀B z,SepOf o B z→SepOf (wkO b o) B z):=by
 cases b with
 |false=>exact⟨by cases o<;>rfl,fun B z t=>by cases o<;>exact t⟩
 |true=>cases o<;>exact⟨rfl,fun _ _ t=>t⟩
theorem ztr(b:Bool){B:Blk}(t:ObjRel P φ w o B):ObjRel P φ w (wkO b o) B:=by
 cases b with
 |false=>cases o<;>exact t
 |true=>
  cases o<;>first|exact t|skip
  simp only[ObjRel,wkO]at t⊢;obtain⟨c,fr,h1,h2,h3,h4,h5,h6⟩:=t;exact⟨c,fr,h1,h2,by rw[QX];exact h3,by rw[QX];exact h4,by rw[QX];exact jL h5,h6⟩
def Kj:List Nat→Nat→Nat→Option Nat
 |[],_,_=>none
 |k::r,id,j=>bif za k id then some j else Kj r id (j+1)
def rho(n0:Nat)(keep:List Nat)(id:Nat):Option Nat:=bif ze id n0 then some id else Kj keep id n0
mutual
def vt(ρ:Nat→Option Nat):AV→Option AV
 |.ptr id off=>match ρ id with
  |some j=>some (.ptr j off)
  |none=>none
 |.sl id off len c=>match ρ id with
  |some j=>some (.sl j off len c)
  |none=>none
 |.map id=>match ρ id with
  |some j=>some (.map j)
  |none=>none
 |.yld id=>match ρ id with
  |some j=>some (.yld j)
  |none=>none
 |.gr id e n cs=>match ρ id with
  |some j=>some (.gr j e n cs)
  |none=>none
 |.fn f a c=>match Zl ρ (xN a) a,Zl ρ (xN c) c with
  |some a,some c=>some (.fn f a c)
  |_,_=>none
 |.ifc t v=>match vt ρ v with
  |some v=>some (.ifc t v)
  |none=>none
 |.agg cs=>match Zl ρ (xN cs) cs with
  |some cs=>some (.agg cs)
  |none=>none
 |.tup cs=>match Zl ρ (xN cs) cs with
  |some cs=>some (.tup cs)
  |none=>none
 |v=>some v
def Zl(ρ:Nat→Option Nat)(p:Bool)(l:List AV):Option (List AV):=bif p then some l else PA ρ l
def PA(ρ:Nat→Option Nat):List AV→Option (List AV)
 |[]=>some []
 |v::r=>match vt ρ v,PA ρ r with
  |some v,some r=>some (v::r)
  |_,_=>none
end
def KP:List (AV×AV×Nat)→Bool
 |[]=>true
 |p::r=>x8 p.1&&x8 p.2.1&&KP r
def Z9:List (Int×AV)→Bool
 |[]=>true
 |p::r=>x8 p.2&&Z9 r
def Jn(ρ:Nat→Option Nat):AObj→Option AObj
 |.row e cells x fz=>match Zl ρ (xN cells) cells with
  |some cs=>some (.row e cs x fz)
  |none=>none
 |.map es clock=>bif KP es then some (.map es clock)else none
 |.umap es=>bif Z9 es then some (.umap es)else none
 |.siter s pos=>some (.siter s pos)
 | .miter m since seen stepped=>match m with
  |none=>some (.miter none since seen stepped)
  |some id=>match ρ id with
   |some j=>some (.miter (some j) since seen stepped)
   |none=>none
 |.loop _ _ _ _ _ _ _=>none
 |.dfd=>some .dfd
 |.dfd0=>some .dfd0
 |.giv cells=>match Zl ρ (xN cells) cells with
  |some cs=>some (.giv cs)
  |none=>none
 |.app e cells=>bif xN cells then some (.app e cells)else none
section
variable {φ φ1:Phi}{ρ:Nat→Option Nat}
structure RenOk(φ φ1:Phi)(ρ:Nat→Option Nat):Prop where
 m:∀id j,ρ id=some j→φ1 j=φ id
 z:φ1.z=φ.z
mutual
theorem YD(h:RenOk φ φ1 ρ):∀{v v1:AV} {x:Value},vt ρ v=some v1→VR φ v x→VR φ1 v1 x
 |.ptr id off,v1,x,hr,hv=>by
  simp only[vt]at hr;split at hr
  ·rename_i j hj;cases hr;simp only[VR]at hv⊢;rw[h.m id j hj];exact hv
  ·cases hr
 |.sl id off len c,v1,x,hr,hv=>by
  simp only[vt]at hr;split at hr
  ·rename_i j hj;cases hr;simp only[VR]at hv⊢;rw[h.m id j hj];exact hv
  ·cases hr
 |.map id,v1,x,hr,hv=>by
  simp only[vt]at hr;split at hr
  ·rename_i j hj;cases hr;simp only[VR]at hv⊢;rw[h.m id j hj];exact hv
  ·cases hr
 |.yld id,v1,x,hr,hv=>by
  simp only[vt]at hr;split at hr
  ·rename_i j hj;cases hr;simp only[VR]at hv⊢;rw[h.m id j hj];exact hv
  ·cases hr
 | .gr id e n cs,v1,x,hr,hv=>by
  simp only[vt]at hr;split at hr
  ·rename_i j hj
   cases hr;simp only[VR]at hv⊢;rw[h.m id j hj];obtain⟨h1,h2,h3,h4,B,ys,h5,h6,h7,h8,h9⟩:=hv;exact⟨h1,h2,h3,h4,B,ys,h5,h6,h7,h8.mono (fun _ _ _ t=>by rw[h.z];exact t),VRL.pure (fun _ _ _ t=>by rw[h.z];exact t) _ _ h1 h9⟩
  ·cases hr
 | .fn f a c,v1,x,hr,hv=>by
  simp only[vt]at hr;split at hr
  ·rename_i a' c' ha hc
   cases hr;simp only[VR]at hv⊢;obtain⟨xs,ys,e,h1,h2⟩:=hv;exact⟨xs,ys,e,jF h ha h1,jF h hc h2⟩
  ·cases hr
 | .ifc t v,v1,x,hr,hv=>by
  simp only[vt]at hr;split at hr
  ·rename_i v' hv'
   cases hr;simp only[VR]at hv⊢;obtain⟨y,e,h1⟩:=hv;exact⟨y,e,YD h hv' h1⟩
  ·cases hr
 | .agg cs,v1,x,hr,hv=>by
  simp only[vt]at hr;split at hr
  ·rename_i c' hc
   cases hr;simp only[VR]at hv⊢;obtain⟨xs,e,h1⟩:=hv;exact⟨xs,e,jF h hc h1⟩
  ·cases hr
 | .tup cs,v1,x,hr,hv=>by
  simp only[vt]at hr;split at hr
  ·rename_i c' hc
   cases hr;simp only[VR]at hv⊢;obtain⟨xs,e,h1⟩:=hv;exact⟨xs,e,jF h hc h1⟩
  ·cases hr
 |.bool _,v1,x,hr,hv=>by simp only[vt,Option.some.injEq]at hr;subst hr;simpa [VR]using hv
 |.int _ _,v1,x,hr,hv=>by simp only[vt,Option.some.injEq]at hr;subst hr;simpa [VR]using hv
 |.str _,v1,x,hr,hv=>by simp only[vt,Option.some.injEq]at hr;subst hr;simpa [VR]using hv
 |.nilp,v1,x,hr,hv=>by simp only[vt,Option.some.injEq]at hr;subst hr;simpa [VR]using hv
 |.gptr _ _,v1,x,hr,hv=>by simp only[vt,Option.some.injEq]at hr;subst hr;simpa [VR]using hv
 |.sl0,v1,x,hr,hv=>by simp only[vt,Option.some.injEq]at hr;subst hr;simpa [VR]using hv
 |.nils,v1,x,hr,hv=>by simp only[vt,Option.some.injEq]at hr;subst hr;simpa [VR]using hv
 |.nilm,v1,x,hr,hv=>by simp only[vt,Option.some.injEq]at hr;subst hr;simpa [VR]using hv
 |.nilf,v1,x,hr,hv=>by simp only[vt,Option.some.injEq]at hr;subst hr;simpa [VR]using hv
 |.nili,v1,x,hr,hv=>by simp only[vt,Option.some.injEq]at hr;subst hr;simpa [VR]using hv
 |.lst n ex cs,v1,x,hr,hv=>by
  simp only[vt,Option.some.injEq]at hr;subst hr;exact VR.pure (fun _ _ _ t=>by rw[h.z];exact t) _ _ rfl hv
 |.vp cs,v1,x,hr,hv=>by
  simp only[vt,Option.some.injEq]at hr;subst hr;exact VR.pure (fun _ _ _ t=>by rw[h.z];exact t) _ _ rfl hv
theorem jF(h:RenOk φ φ1 ρ):∀{l l1:List AV} {xs:List Value},Zl ρ (xN l) l=some l1→VRL φ l xs→VRL φ1 l1 xs:=fun{l l1 xs} hr hv=>by
  unfold Zl at hr;cases hp:xN l with
  |true=>
   rw[hp]at hr;simp only[cond_true,Option.some.injEq]at hr;subst hr;exact VRL.pure (fun _ _ _ t=>by rw[h.z];exact t) _ _ hp hv
  |false=>rw[hp]at hr;simp only[cond_false]at hr;exact UH h hr hv
theorem UH(h:RenOk φ φ1 ρ):∀{l l1:List AV} {xs:List Value},PA ρ l=some l1→VRL φ l xs→VRL φ1 l1 xs
 |[],l1,xs,hr,hv=>by simp only[PA,Option.some.injEq]at hr;subst hr;simpa [VRL]using hv
 | v::r,l1,xs,hr,hv=>by
  simp only[PA]at hr;split at hr
  ·rename_i v' r' h1 h2
   cases hr;simp only[VRL]at hv;obtain⟨y,ys,rfl,h3,h4⟩:=hv;exact VRL.cons (YD h h1 h3) (UH h h2 h4)
  ·cases hr
end
theorem PB{ρ:Nat→Option Nat}:∀{l l1:List AV},PA ρ l=some l1→l1.length=l.length
 |[],l1,h=>by simp only[PA,Option.some.injEq]at h;subst h;rfl
 |v::r,l1,h=>by
  simp only[PA]at h;split at h
  ·rename_i h1 h2;cases h;simp[PB h2]
  ·cases h
theorem Pz{ρ:Nat→Option Nat}{p:Bool}{l l1:List AV}(h:Zl ρ p l=some l1):l1.length=l.length:=by
 cases p with
 |true=>simp only[Zl,cond_true,Option.some.injEq]at h;rw[h]
 |false=>simp only[Zl,cond_false]at h;exact PB h
theorem EntRel.pure(h:∀b o v,φ.z b o=some v→φ1.z b o=some v):∀{es:List (AV×AV×Nat)} {l:List MapEntry},KP es=true→EntRel φ es l→EntRel φ1 es l
 |[],_,_,t=>t
 |p::r,_,hp,t=>by
  simp only[KP,zl]at hp;obtain⟨e,es',rfl,h1,h2,h3,h4⟩:=t;exact⟨e,es',rfl,VR.pure h _ _ hp.1.1 h1,VR.pure h _ _ hp.1.2 h2,h3,h4.pure h hp.2⟩
theorem URel.pure(h:∀b o v,φ.z b o=some v→φ1.z b o=some v):∀{es:List (Int×AV)} {l:List MapEntry},Z9 es=true→URel φ es l→URel φ1 es l
 |[],_,_,t=>t
 |p::r,_,hp,t=>by
  simp only[Z9,zl]at hp;obtain⟨e,es',rfl,h1,h2,h4⟩:=t;exact⟨e,es',rfl,h1,VR.pure h _ _ hp.1 h2,h4.pure h hp.2⟩
theorem UMap.pure(h:∀b o v,φ.z b o=some v→φ1.z b o=some v){es:List (Int×AV)}{ents:Array MapEntry}{clk:Nat}(hp:Z9 es=true)(t:UMap φ es ents clk):UMap φ1 es ents clk:=
 let ⟨l,h1,h2,h3⟩:=t;⟨l,h1,h2.pure h hp,h3⟩
theorem UI{ρ:Nat→Option Nat}{o1:AObj}(h:Jn ρ o=some o1):qG o1=qG o∧(∀B z,SepOf o B z→SepOf o1 B z):=by
 cases o<;>simp only[Jn]at h
 case row e cells x fz=>
  split at h
  ·cases h;exact⟨rfl,fun _ _ t=>t⟩
  ·cases h
 case map es clock=>
  cases hp:KP es<;>rw[hp]at h<;>simp at h
  subst h;exact⟨rfl,fun _ _ t=>t⟩
 case umap es=>
  cases hp:Z9 es<;>rw[hp]at h<;>simp at h
  subst h;exact⟨rfl,fun _ _ t=>t⟩
 case siter=>cases h;exact⟨rfl,fun _ _ t=>t⟩
 case miter m since seen stepped=>
  cases m with
  |none=>cases h;exact⟨rfl,fun _ _ t=>t⟩
  |some id=>
   simp only at h;split at h
   ·cases h;exact⟨rfl,fun _ _ t=>t⟩
   ·cases h
 case loop=>cases h
 case dfd=>cases h;exact⟨rfl,fun _ _ t=>t⟩
 case dfd0=>cases h;exact⟨rfl,fun _ _ t=>t⟩
 case giv cells=>
  split at h
  ·cases h;exact⟨rfl,fun _ _ t=>t⟩
  ·cases h
 case app e cells=>
  cases hp:xN cells<;>rw[hp]at h<;>simp at h
  subst h;exact⟨rfl,fun _ _ t=>t⟩
theorem UJ(h:RenOk φ φ1 ρ){o1:AObj}{B:Blk}(hr:Jn ρ o=some o1)(t:ObjRel P φ w o B):ObjRel P φ1 w o1 B:=by
 have hz:∀b o v,φ.z b o=some v→φ1.z b o=some v:=fun _ _ _ t=>by rw[h.z];exact t
 cases o<;>simp only[Jn]at hr
 case row e cells x fz=>
  split at hr
  ·rename_i cs hc
   cases hr;have hl:=Pz hc;simp only[ObjRel]at t⊢;obtain⟨c,fr,h1,h2,h3,h4,h5,h6⟩:=t;exact⟨c,fr,h1,h2,by rw[hl];exact h3,by rw[hl];exact h4,by rw[hl];exact jF h hc h5,h6⟩
  ·cases hr
 case map es clock=>
  cases hp:KP es<;>rw[hp]at hr<;>simp at hr
  subst hr;obtain⟨ents,h1,h2⟩:=t;exact⟨ents,h1,h2.pure hz hp⟩
 case umap es=>
  cases hp:Z9 es<;>rw[hp]at hr<;>simp at hr
  subst hr;obtain⟨ents,clk,h1,h2⟩:=t;exact⟨ents,clk,h1,h2.pure hz hp⟩
 case siter=>cases hr;exact t
 case miter m since seen stepped=>
  simp only[ObjRel]at t;obtain⟨h0,m',h1,h2⟩:=t;cases m with
  |none=>cases hr;exact⟨h0,m',h1,h2⟩
  | some id=>
   simp only at hr;split at hr
   ·rename_i j hj
    cases hr;obtain⟨B',hB,e⟩:=h2;exact⟨h0,m',h1,B',(h.m id j hj).trans hB,e⟩
   ·cases hr
 case loop=>cases hr
 case dfd=>cases hr;exact t
 case dfd0=>cases hr;exact t
 case giv cells=>
  split at hr
  ·rename_i cs hc
   cases hr;have hl:=Pz hc;simp only[ObjRel]at t⊢;obtain⟨c,e,fr,h1,h2,h3⟩:=t;exact⟨c,e,fr,h1,by rw[hl];exact h2,by rw[hl];exact jF h hc h3⟩
  ·cases hr
 case app e cells=>
  cases hp:xN cells<;>rw[hp]at hr<;>simp at hr
  subst hr;obtain⟨c,fr,h1,h2,h3,h4,h5⟩:=t;exact⟨c,fr,h1,h2,h3,VRL.pure hz _ _ hp h4,h5⟩
end
noncomputable def tmL:List (Nat×AV)→Trie AV
 |[]=>.leaf
 |p::r=>(tmL r).set p.1 p.2
noncomputable def osT:Nat→List (Option AObj)→Trie AObj
 |_,[]=>.leaf
 |n,o::r=>match o with
  |some o=>(osT (n+1) r).set n o
  |none=>osT (n+1) r
noncomputable def H(os:List (Option AObj))(m:Nat)(b:Bool):St:={objs:=osT 0 os,next:=os.length,wm:=m,hide:=[],only:=none,md:=b}
def jb:List (Option AObj)→Nat→Option AObj
 |[],_=>none
 |o::r,i=>if i=0 then o else jb r (i-1)
theorem zwf:∀(l:List (Option AObj)) (n i:Nat),(osT n l).get i=if n≤i then jb l (i-n)else none
 |[],n,i=>by simp[osT,Trie.get,jb]
 | o::r,n,i=>by
  have ih:=zwf r (n+1) i;have key:(if n≤i then jb (o::r) (i-n)else none)=if i=n then o else (if n+1≤i then jb r (i-(n+1))else none):=by
   by_cases h1:i=n
   ·subst h1;simp[jb]
   ·by_cases h2:n+1≤i
    ·rw[if_neg h1,if_pos h2,if_pos oM];simp only[jb];rw[if_neg oM,show i-n-1=i-(n+1) by omega]
    ·rw[if_neg h1,if_neg h2,if_neg oM]
  rw[key];cases o with
  |none=>
   simp only[osT];rw[ih];by_cases h1:i=n
   ·rw[if_pos h1,if_neg oM]
   ·rw[if_neg h1]
  |some o=>
   simp only[osT];rw[Trie.get_set];by_cases h1:i=n
   ·rw[if_pos h1,if_pos h1]
   ·rw[if_neg h1,if_neg h1,ih]
theorem QY(os:List (Option AObj))(m:Nat)(b:Bool)(i:Nat):(H os m b).objs.get i=jb os i:=by
 show (osT 0 os).get i=_;rw[zwf,if_pos (Nat.zero_le _),Nat.sub_zero]
theorem zld(os:List (Option AObj))(m:Nat)(b:Bool)(i:Nat):(H os m b).get i=jb os i:=by
 rw[←QY os m b i];simp[St.get,H,hid]
theorem Xg:∀(l:List (Option AObj)) (i:Nat),jb l i=(l[i]?).getD none
 |[],i=>by simp[jb]
 |o::r,i=>by
  cases i with
  |zero=>simp[jb]
  |succ i=>simp[jb,Xg r i]
theorem zxI{l:List (Option AObj)}{i:Nat}(h:jb l i=some o):i<l.length:=by
 rw[Xg]at h;by_cases hl:i<l.length
 ·exact hl
 ·rw[yb oM]at h;simp at h
theorem zjk(os:List (Option AObj))(m:Nat)(b:Bool):Wf (H os m b):=⟨fun id o h=>by rw[QY]at h;exact zxI h,fun p hp=>by cases hp⟩
noncomputable def zvZ(ρ:Nat→Option Nat)(tm:Trie AV):List Nat→Option (List (Nat×AV))
 |[]=>some []
 | i::r=>match tm.get i with
  | some v=>match vt ρ v with
   |some v=>match zvZ ρ tm r with
    |some l=>some ((i,v)::l)
    |none=>none
   |none=>none
  |none=>none
def zvY(ρ:Nat→Option Nat):List Nat→Option (List Nat)
 |[]=>some []
 |d::r=>match ρ d,zvY ρ r with
  |some d,some r=>some (d::r)
  |_,_=>none
noncomputable def zrE(wk:Bool)(b s:St)(M:Nat)(ρ:Nat→Option Nat)(i:Nat):Option (Option AObj):=
 bif M.testBit i then match s.get i with
  |some o=>match Jn ρ o with
   |some o=>some (some (wkO wk o))
   |none=>none
  |none=>some none
 else some (b.get i)
noncomputable def gcB(wk:Bool)(b s:St)(M:Nat)(ρ:Nat→Option Nat):Nat→Nat→Option (List (Option AObj))
 |_,0=>some []
 |i,k+1=>match zrE wk b s M ρ i,gcB wk b s M ρ (i+1) k with
  |some o,some l=>some (o::l)
  |_,_=>none
noncomputable def gcK(s:St)(ρ:Nat→Option Nat):List Nat→Option (List (Option AObj))
 |[]=>some []
 | id::r=>match s.get id with
  |some o=>match Jn ρ o,gcK s ρ r with
   |some o,some l=>some (some o::l)
   |_,_=>none
  |none=>none
def Wj(n0:Nat):List Nat→Bool
 |[]=>true
 |k::r=>Nat.ble n0 k&& !pI k r&&Wj n0 r
noncomputable def gcF(wk:Bool)(b:St)(M:Nat)(keep live:List Nat)(md:Bool)(fr:Fr)(s:St):Option (Fr×St):=
 bif Wj b.next keep&&za (Nat.lor (wQ s.wm b.next) M) M then
  match zvZ (rho b.next keep) fr.tm live,zvY (rho b.next keep) fr.df,gcB wk b s M (rho b.next keep) 0 b.next,gcK s (rho b.next keep) keep with
  |some l,some d,some o1,some o2=>some ({tm:=tmL l,df:=d},H (o1++o2) M md)
  |_,_,_,_=>none
 else none
theorem Up:∀{l:List Nat} {id j k:Nat},Kj l id j=some k→j≤k∧l[k-j]? =some id
 |[],_,_,_,h=>by simp[Kj]at h
 | a::r,id,j,k,h=>by
  simp only[Kj]at h;cases hb:za a id with
  |true=>
   rw[hb]at h;simp only[cond_true,Option.some.injEq]at h;subst h;rw[xT]at hb;subst hb;exact⟨Nat.le_refl _,by simp⟩
  |false=>
   rw[hb]at h;simp only[cond_false]at h;obtain⟨h1,h2⟩:=Up h;refine⟨oM,?_⟩;rw[show k-j=(k-(j+1))+1 by omega];simpa using h2
theorem Xq{n:Nat}:∀{l:List Nat},pI n l=true↔n∈l
 |[]=>by simp[pI]
 | m::r=>by
  simp only[pI];cases hb:za n m with
  |true=>rw[xT]at hb;subst hb;simp
  |false=>
   have:n≠m:=fun e=>by rw[xT.2 e]at hb;cases hb
   simp[Xq (l:=r),this]
theorem KH{n0:Nat}:∀{l:List Nat},Wj n0 l=true→(∀k∈l,n0≤k)∧l.Nodup
 |[],_=>⟨fun _ h=>(by cases h),List.nodup_nil⟩
 | k::r,h=>by
  simp only[Wj,zl,xR,Bool.not_eq_true']at h;obtain⟨h1,h2⟩:=KH h.2;refine⟨fun j hj=>?_,List.nodup_cons.2 ⟨fun hm=>?_,h2⟩⟩
  ·rcases List.mem_cons.1 hj with rfl|hj
   ·exact h.1.1
   ·exact h1 j hj
  ·have h9:=h.1.2;rw[Xq.2 hm]at h9;cases h9
theorem zxF{wk:Bool}{b s:St}{M:Nat}{ρ:Nat→Option Nat}:∀{k i:Nat} {l:List (Option AObj)},gcB wk b s M ρ i k=some l→l.length=k∧∀j,j<k→zrE wk b s M ρ (i+j)=some (jb l j)
 |0,i,l,h=>by simp only[gcB,Option.some.injEq]at h;subst h;exact⟨rfl,fun j hj=>oM⟩
 | k+1,i,l,h=>by
  simp only[gcB]at h;split at h
  ·rename_i o l' h1 h2
   cases h;obtain⟨h3,h4⟩:=zxF h2;refine⟨by simp[h3],fun j hj=>?_⟩
   cases j with
   |zero=>simpa [jb]using h1
   |succ j=>rw[show i+(j+1)=i+1+j by omega,h4 j oM];simp[jb]
  ·cases h
theorem zxG{s:St}{ρ:Nat→Option Nat}:∀{l:List Nat} {os:List (Option AObj)},gcK s ρ l=some os→os.length=l.length∧∀j o,jb os j=some o→∃id o',l[j]? =some id∧s.get id=some o'∧Jn ρ o'=some o
 |[],os,h=>by simp only[gcK,Option.some.injEq]at h;subst h;exact⟨rfl,fun j o h=>by simp[jb]at h⟩
 | id::r,os,h=>by
  simp only[gcK]at h;split at h
  ·rename_i o hg
   split at h
   ·rename_i o1 l1 h1 h2
    cases h;obtain⟨h3,h4⟩:=zxG h2;refine⟨by simp[h3],fun j x hx=>?_⟩
    cases j with
    |zero=>simp only[jb,if_true,Option.some.injEq]at hx;subst hx;exact⟨id,o,rfl,hg,h1⟩
    |succ j=>
     simp only[jb,Nat.add_one_sub_one]at hx;rw[if_neg oM]at hx;obtain⟨id',o',q1,q2,q3⟩:=h4 j x hx;exact⟨id',o',by simpa using q1,q2,q3⟩
   ·cases h
  ·cases h
theorem p9(l m:List (Option AObj))(i:Nat):jb (l++m) i=if i<l.length then jb l i else jb m (i-l.length):=by
 rw[Xg,Xg,Xg];by_cases h:i<l.length
 ·rw[if_pos h,List.getElem?_append_left h]
 ·rw[if_neg h,List.getElem?_append_right oM]
theorem XD(i:Nat)(v:AV)(l:List (Nat×AV))(j:Nat):(tmL ((i,v)::l)).get j=if j=i then some v else (tmL l).get j:=by
 show ((tmL l).set i v).get j=_;rw[Trie.get_set]
theorem PY(j:Nat):(tmL []).get j=none:=rfl
theorem LJ{ρ:Nat→Option Nat}{tm:Trie AV}:∀{L:List Nat} {l:List (Nat×AV)},zvZ ρ tm L=some l→∀i v,(tmL l).get i=some v→∃v0,tm.get i=some v0∧vt ρ v0=some v
 |[],l,h,i,v,hv=>by simp only[zvZ,Option.some.injEq]at h;subst h;rw[PY]at hv;cases hv
 | k ::r,l,h,i,v,hv=>by
  simp only[zvZ]at h;split at h
  ·rename_i v0 hv0
   split at h
   ·rename_i v1 hv1
    split at h
    ·rename_i l1 hl1
     cases h;rw[XD]at hv;by_cases e:i=k
     ·rw[if_pos e]at hv;cases hv;subst e;exact⟨v0,hv0,hv1⟩
     ·rw[if_neg e]at hv;exact LJ hl1 i v hv
    ·cases h
   ·cases h
  ·cases h
theorem LI{φ φ1:Phi}{ρ:Nat→Option Nat}(h:RenOk φ φ1 ρ):∀{l l1:List Nat} {ds:List Deferred},zvY ρ l=some l1→DfRel φ l ds→DfRel φ1 l1 ds
 |[],l1,ds,hr,t=>by simp only[zvY,Option.some.injEq]at hr;subst hr;exact t
 | d::r,l1,ds,hr,t=>by
  simp only[zvY]at hr;split at hr
  ·rename_i d1 r1 h1 h2
   cases hr;obtain⟨B,ds',hB,rfl,hd⟩:=t;exact⟨B,ds',(h.m d d1 h1).trans hB,rfl,LI h h2 hd⟩
  ·cases hr
theorem KC:∀{l:List Nat} (_:l.Nodup) {i j x:Nat} (_:l[i]? =some x) (_:l[j]? =some x),i=j
 |[],_,i,j,x,hi,_=>by simp at hi
 | a::r,h,i,j,x,hi,hj=>by
  obtain⟨h1,h2⟩:=List.nodup_cons.1 h;cases i with
  | zero=>cases j with
   |zero=>rfl
   |succ j=>
    simp only[yN,Option.some.injEq,yP]at hi hj;subst hi;exact absurd (y7 hj) h1
  | succ i=>cases j with
   |zero=>
    simp only[yN,Option.some.injEq,yP]at hi hj;subst hj;exact absurd (y7 hi) h1
   |succ j=>
    simp only[yP]at hi hj;rw[KC h2 hi hj]
theorem Kh{C:Cx}(ok:CxOk C){wk:Bool}{keep live:List Nat}{md:Bool}{fr fr1:Fr}{s1:St}(h:gcF wk C.s C.M keep live md fr s=some (fr1,s1)){a:Act}(ha:At C φ s w)(hfr:FrRel φ C.nt fr a):∃φ1,At C φ1 s1 w∧FrRel φ1 C.nt fr1 a∧φ1.z=φ.z:=by
 unfold gcF at h;cases hb:Wj C.s.next keep&&za (Nat.lor (wQ s.wm C.s.next) C.M) C.M with
 |false=>rw[hb]at h;simp at h
 |true=>
 rw[hb]at h;simp only[cond_true]at h;rw[zl,xT]at hb;obtain⟨hk,hm⟩:=hb;obtain⟨hk1,hk2⟩:=KH hk;split at h
 case h_2=>cases h
 rename_i l d o1 o2 hl hd h1 h2
 cases h;obtain⟨b1,b2⟩:=zxF h1;obtain⟨c1,c2⟩:=zxG h2;obtain⟨n0,hn0⟩:∃n0,n0=C.s.next:=⟨_,rfl⟩
 rw[←hn0]at hk1 h1 h2 hl hd b1 b2 c2;have hle:n0≤s.next:=by rw[hn0];exact ha.st.ext.next
 have hwfC:=ok.wf;have hwfs:=ha.wf ok;have hsh:s.hide=[]:=ha.st.ext.hide.trans ok.hide;have hso:s.only=none:=ha.st.ext.only.trans ok.only;have hget:∀id,s.get id=s.objs.get id:=fun id=>by unfold St.get;rw[hso,hsh];rfl
 have hgetC:∀id,C.s.get id=C.s.objs.get id:=fun id=>by unfold St.get;rw[ok.only,ok.hide];rfl
 have hbits:∀i,i<n0→s.wm.testBit i=true→C.M.testBit i=true:=fun i hi hb=>by
  have:(Nat.lor (wQ s.wm C.s.next) C.M).testBit i=true:=by
   show (wQ s.wm C.s.next|||C.M).testBit i=true
   rw[Nat.testBit_or,gP,hb];simp[←hn0,hi]
  rw[hm]at this;exact this
 have hunb:∀i,i<n0→C.M.testBit i=false→s.wm.testBit i=false:=fun i hi hb=>by
  cases hx:s.wm.testBit i with
  |false=>rfl
  |true=>rw[hbits i hi hx]at hb;cases hb
 obtain⟨φ1,hφ1⟩:∃φ1:Phi,φ1=⟨fun j=>if j<n0 then φ j else match keep[j-n0]? with|some id=>φ id|none=>none,φ.z⟩:=⟨_,rfl⟩
 have p1:∀j,j<n0→φ1 j=φ j:=fun j hj=>by rw[hφ1];exact if_pos hj
 have p2:∀j,n0≤j→φ1 j=match keep[j-n0]? with|some id=>φ id|none=>none:=fun j hj=>by rw[hφ1];exact if_neg oM
 have pz:φ1.z=φ.z:=by rw[hφ1]
 have hren:RenOk φ φ1 (rho n0 keep):=⟨fun id j hj=>by
  unfold rho at hj;cases hlt:ze id n0 with
  |true=>rw[hlt]at hj;simp only[cond_true,Option.some.injEq]at hj;subst hj;exact p1 id (wi.1 hlt)
  |false=>
   rw[hlt]at hj;simp only[cond_false]at hj;obtain⟨q1,q2⟩:=Up hj;rw[p2 j q1,q2],pz⟩
 have hlen:(o1++o2).length=n0+keep.length:=by rw[List.length_append,b1,c1]
 have src:∀id o,(H (o1++o2) C.M md).get id=some o→∃id' o',s.get id'=some o'∧φ1 id=φ id'∧qG o=qG o'∧(∀B z,SepOf o' B z→SepOf o B z)∧((id<n0∧id'=id)∨(n0≤id∧keep[id-n0]? =some id'))∧(∀B,φ id'=some B→ObjRel C.P φ w o' B→ObjRel C.P φ1 w o B):=by
  intro id o ho;rw[zld,p9,b1]at ho;by_cases hid:id<n0
  ·rw [if_pos hid]at ho;have hb1:=b2 id hid;rw[yC]at hb1;unfold zrE at hb1;cases hM:C.M.testBit id with
   | true=>
    rw[hM]at hb1;simp only[cond_true]at hb1;split at hb1
    ·rename_i o' ho'
     split at hb1
     ·rename_i o'' ho''
      rw[ho]at hb1;cases hb1;obtain⟨g1,g2⟩:=UI ho'';obtain⟨g3,g4⟩:=ztq wk o'';exact⟨id,o',ho',p1 id hid,g3.trans g1,fun B z t=>g4 B z (g2 B z t),.inl ⟨hid,rfl⟩,fun B _ t=>ztr wk (UJ hren ho'' t)⟩
     ·cases hb1
    ·rw[ho]at hb1;cases hb1
   | false=>
    rw[hM]at hb1;simp only[cond_false,Option.some.injEq]at hb1;rw[ho]at hb1;have hs:s.get id=some o:=by
     rw[hget,ha.st.ext.keep id oM (hunb id hid hM),←hgetC];exact hb1
    refine⟨id,o,hs,p1 id hid,rfl,fun _ _ t=>t,.inl ⟨hid,rfl⟩,fun B hB t=>?_⟩;obtain⟨B',hB',t'⟩:=ok.rel.obj id o hb1;have hsm:φ id=C.φ id:=ha.st.same id (.inl oM);have:B=B':=by rw[hsm,hB']at hB;cases hB;rfl
    subst this;have hsub:Sub C.φ φ1:=⟨fun i Bi hi=>by
     have hlt:i<n0:=by
      apply Nat.lt_of_not_le;intro hle;rw[ok.fresh i oM]at hi;cases hi
     rw[p1 i hlt,ha.st.same i (.inl oM)];exact hi,fun b i v hv=>by rw[pz];exact ha.st.zsub b i v hv⟩
    refine t'.keep hsub (ha.st.frame _ (ok.rel.rng id B hB') fun id2 o2 B2 q1 q2 q3=>?_);rcases ok.rel.inj id2 id o2 o B2 B q1 hb1 q2 hB' q3 with e|e
    ·rw[e];exact hunb id hid hM
    ·have hid2:id2<n0:=by rw[hn0];exact hwfC.lt id2 o2 (wa q1)
     have hgv:=ok.rel.old id2 o2 B2 q1 q2 e;cases hM2:C.M.testBit id2 with
     |false=>exact hunb id2 hid2 hM2
     |true=>
      obtain⟨_,o3,q5,q6⟩:=ok.mask id2 hM2;rw[←hgetC,q1]at q5;cases q5;rw[hgv]at q6;cases q6
  ·rw[if_neg hid]at ho;obtain⟨id',o',q1,q2,q3⟩:=c2 _ _ ho;obtain⟨g1,g2⟩:=UI q3;exact⟨id',o',q2,by rw[p2 id oM,q1],g1,g2,.inr ⟨oM,q1⟩,fun B _ t=>UJ hren q3 t⟩
 refine⟨φ1,⟨⟨⟨?_,ok.wm,ok.hide.symm,ok.only.symm,?_,?_,fun _=>zjk _ _ _,?_,?_⟩,⟨ha.st.rel.base,?_,?_,?_,?_,?_,?_⟩,?_,ha.st.size,?_,?_,?_,?_⟩,?_⟩,⟨?_,hfr.size,LI hren hd hfr.df⟩,pz⟩
 ·show C.s.next≤(o1++o2).length
  omega
 ·intro id hid hb;have hid':id<n0:=oM;have hb':C.M.testBit id=false:=hb;rw[QY,p9,b1,if_pos hid'];have hb1:=b2 id hid';rw[yC]at hb1;unfold zrE at hb1;rw[hb']at hb1;simp only[cond_false,Option.some.injEq]at hb1;rw[←hb1,hgetC]
 ·intro id o hid ho;have hid':id<n0:=oM;cases hM:C.M.testBit id with
  |true=>obtain⟨_,o',h3,_⟩:=ok.mask id hM;exact⟨o',h3⟩
  |false=>
   rw[QY,p9,b1,if_pos hid']at ho;have hb1:=b2 id hid';rw[yC]at hb1;unfold zrE at hb1;rw[hM]at hb1;simp only[cond_false,Option.some.injEq]at hb1;exact⟨o,by rw[←hgetC,hb1];exact ho⟩
 ·intro id hid hb
  right
  unfold seen;rw[ok.only,ok.hide];rfl
 ·intro id o hid ho hg hb;obtain⟨_,o',h3,h4⟩:=ok.mask id hb;rw[ho]at h3;cases h3;rw[hg]at h4;cases h4
 ·intro id o ho;obtain⟨id',o',q1,q2,_,_,_,q5⟩:=src id o ho;obtain⟨B,hB,t⟩:=ha.st.rel.obj id' o' q1;exact⟨B,q2.trans hB,q5 B hB t⟩
 ·intro id B hB;by_cases hid:id<n0
  ·rw[p1 id hid]at hB;exact ha.st.rel.rng id B hB
  ·rw[p2 id oM]at hB;split at hB
   ·rename_i k _;exact ha.st.rel.rng k B hB
   ·cases hB
 ·intro id o B ho hB hlt;obtain⟨id',o',q1,q2,q3,_,_,_⟩:=src id o ho;rw[q3];exact ha.st.rel.old id' o' B q1 (by rw[←q2];exact hB) hlt
 ·intro i j oi oj Bi Bj hi hj hBi hBj e;obtain⟨i',oi',q1,q2,_,_,q4,_⟩:=src i oi hi;obtain⟨j',oj',r1,r2,_,_,r4,_⟩:=src j oj hj;rcases ha.st.rel.inj i' j' oi' oj' Bi Bj q1 r1 (by rw[←q2];exact hBi) (by rw[←r2];exact hBj) e with e'|e'
  ·left
   rcases q4 with ⟨q4,q5⟩|⟨q4,q5⟩<;>rcases r4 with ⟨r4,r5⟩|⟨r4,r5⟩
   ·omega
   ·have:=hk1 j' (y7 r5);omega
   ·have:=hk1 i' (y7 q5);omega
   ·subst e';have:=KC hk2 q5 r5;omega
  ·exact .inr e'
 ·intro b i v hv;rw[pz]at hv;exact ha.st.rel.frz b i v hv
 ·intro id o B ho hB;obtain⟨id',o',q1,q2,_,q3,_,_⟩:=src id o ho;rw[pz];exact q3 B _ (ha.st.rel.sep id' o' B q1 (by rw[←q2];exact hB))
 ·intro id hid;have hid':id<n0∨(o1++o2).length≤id:=by rw[hn0];exact hid
  rcases hid' with hid'|hid'
  ·rw[p1 id hid',ha.st.same id (.inl oM)]
  ·rw[p2 id oM,yb oM];exact(ok.fresh id oM).symm
 ·intro b hb H;refine ha.st.frame b hb fun id o B q1 q2 q3=>?_;have hid:id<n0:=by rw[hn0];exact hwfC.lt id o (wa q1)
  exact hunb id hid (H id o B q1 q2 q3)
 ·intro id B h3 h4 hB;rw[p2 id oM]at hB;split at hB
  ·rename_i k hk
   have hkn:=hk1 k (y7 hk);have hks:k<s.next:=by
    apply Nat.lt_of_not_le;intro hle;rw[ha.fresh k hle]at hB;cases hB
   rcases ha.st.own k B oM hks hB with h5|⟨id0,o0,B0,g0,p0,e0,m0⟩
   ·exact .inl h5
   ·exact .inr ⟨id0,o0,B0,g0,p0,e0,hbits id0 (by rw[hn0];exact hwfC.lt id0 o0 (wa g0)) m0⟩
  ·cases hB
 ·intro b i v hv;rw[pz];exact ha.st.zsub b i v hv
 ·intro b i v hv;rw[pz]at hv;rcases ha.st.zown b i v hv with h5|h5|⟨id0,o0,B0,g0,p0,e0,m0⟩
  ·exact .inl h5
  ·exact .inr (.inl h5)
  ·exact .inr (.inr ⟨id0,o0,B0,g0,p0,e0,hbits id0 (by rw[hn0];exact hwfC.lt id0 o0 (wa g0)) m0⟩)
 ·intro id hid;have hid':(o1++o2).length≤id:=hid;rw[p2 id oM,yb oM]
 ·intro i v hv;obtain⟨v0,h3,h4⟩:=LJ hl i v hv;exact YD hren h4 (hfr.tm i v0 h3)
theorem zrF{C:Cx}(ok:CxOk C){wk:Bool}{keep live:List Nat}{md:Bool}{fr fr1:Fr}{s1:St}(h:gcF wk C.s C.M keep live md fr s=some (fr1,s1)):Gc C fr s fr1 s1:=fun _ _ _ ha hfr=>by
 obtain⟨φ1,h1,h2,_⟩:=Kh ok h ha hfr;exact⟨φ1,h1,h2⟩
def Fin(E:Env)(c:St)(M:Nat)(res:List RV)(v:AV)(c':St)(r:Res)(fr:Fr)(s:St):Prop:=
 (r=.norm∨r=.ret)∧∃s2 vs v0 fr1,wZ s fr.df=some s2∧jk E.globs fr.tm s2 res=some vs∧ZZ c.next (vB vs)=some v0∧v=wkV v0∧gcF true c M [] [] c.md {tm:=.leaf,df:=[]} s2=some (fr1,c')
theorem Kx{C:Cx}(ok:CxOk C){F:Fence}{fn:Func}{tmps:Array Value}{R:Ending→World→Prop}:∀{df:List Nat} {ds:List Deferred} {φ:Phi} {s s':St} {w:World},wZ s df=some s'→DfRel φ df ds→At C φ s w→
  (∀w',At C φ s' w'→LeavesIn F n C.P fn tmps R [] .returning w')→LeavesInM F n C.P fn tmps R ds .returning w:=fun{df ds φ s s' w} h hd ha hk=>
 Zg (w0:=C.w0) h hd ha.st.rel (ha.wf ok) fun w' k=>hk w' (ha.step ok k)
theorem zy0(hO:OrcOk P w0 O)(hm:P.follows .mixedOrders=true)(hG:xS E.globs w0)(hE:kj P E){f:Nat}{F:IFunc}{args:List AV}{c:St}{c':St}(M:Nat)
  (hF:E.funs.get f=some F) (hle:args.length≤F.ntmps) (hh:c.hide=[]) (ho:c.only=none) (hw:c.wm=0) (hM:∀i,M.testBit i=true→i<c.next∧∃o,c.objs.get i=some o∧qG o=false)
  (H:∀C:Cx,CxOk C→C.E=E→C.O=O→C.rd=none→C.s=c→C.M=M→Tri C F.body {tm:=wq .leaf 0 args,df:=[]} c (Fin E c M F.res v c')):SC P w0 f args c v c':=by
 obtain⟨fn,hfn,hcf⟩:=hE f F hF;unfold HE at hcf;split at hcf
 ·cases hcf
 ·rename_i cd hbody
  split at hcf
  ·rename_i ib rs hb hrs
   cases hnm:(fn.name != "runtime.NumGoroutine")with
   |false=>rw[hnm]at hcf;simp at hcf
   | true=>
    rw[hnm]at hcf;simp only[cond_true,Option.some.injEq]at hcf;subst hcf;have hnm':(fn.name== "runtime.NumGoroutine")=false:=by simpa [bne]using hnm
    refine⟨⟨fn,hfn,by rw[hbody];rfl,hnm'⟩,?_⟩
    intro φ w xs r hwf hf hx Fe n hFe;have ok:CxOk ⟨P,w0,E,O,fn.ntmps,none,φ,c,w,M⟩:=
     ⟨hO,hm,hG,hE,r,hwf,hf,hh,ho,fun i hi=>by rw[show (⟨P,w0,E,O,fn.ntmps,none,φ,c,w,M⟩:Cx).s.wm=0 from hw]at hi;simp at hi,hM⟩
    have hat:At ⟨P,w0,E,O,fn.ntmps,none,φ,c,w,M⟩ φ c w:=⟨Step.refl r,hf⟩;have hxl:xs.length≤fn.ntmps:=by rw[←VRL.length hx];exact hle
    have hfr:FrRel φ fn.ntmps {tm:=wq .leaf 0 args,df:=[]} {tmps:=xs.toArray++Array.replicate (fn.ntmps-xs.toArray.size) undef,defers:=[]}:=
     ⟨Zr hx _,by simp;omega,rfl⟩
    have hFp:Wide Fe.plain:=⟨hFe.fn,hFe.depth,hFe.alive⟩;have ht:=H _ ok rfl rfl rfl rfl rfl;have key:CallsIn Fe.plain n P f xs.toArray w (Q2 P w0 φ c w v c'):=by
     refine callsIn_of_wp_marks hfn hbody (hFe.fn f) (wpIn_mono (ht cd hb φ w _ hat hfr Fe.plain n hFp (fun _=>rfl)) ?_)
     rintro e a' w' ⟨res,fr',s1,φ1,rfl,k1,k2,hor,s2,vs,v0,fr1,q1,q2,q3,hvv,q4⟩
     have hleave:LeavesInM Fe.plain n P fn a'.tmps (Q2 P w0 φ c w v c') a'.defers .returning w':=by
      refine Kx ok q1 k2.df k1 fun w2 k3=>?_;have hre:YE E.globs fr'.tm s2 rs=some (vB vs,s2):=by unfold YE;rw[q2]
      have hrel:Rel P w0 φ1 s2.get w2:=k3.st.rel;obtain⟨_,x,k4,k5⟩:=hJ hG hrel k2.tm hrs hre;obtain⟨φ2,g1,_,gz⟩:=Kh ok (fr:={tm:=.leaf,df:=[]}) q4 k3 (a:={tmps:=a'.tmps,defers:=[]}) ⟨fun i v hv=>by simp[Trie.get]at hv,k2.size,rfl⟩
      refine⟨x,k4,φ2,x,rfl,g1.st,?_⟩;refine hvv▸wO (Ue (φ:=φ1) (φ2:=φ2) (fun b o u hu=>by rw[gz];exact hu) (fun id hid=>?_) q3 k5)
      exact(g1.st.same id (.inl hid)).trans (k3.st.same id (.inl hid)).symm
     rcases hor with rfl|rfl
     ·exact hleave
     ·exact hleave
    exact key
  ·cases hcf
end Go.Proofs.YtbdfljdgapkbcaaGreatDoor.Ev

/- A part of the evaluator and of its soundness: what it answers, the model's run answers. No conditions. -/
import Derived.Test.YtbddpjboppmnfaaGreatDoorEvC
import Derived.RangeFuncRecord
import Derived.RangeFuncLeaves
import Derived.OrdersIn
set_option linter.unusedSimpArgs false
set_option linter.unusedVariables false
set_option linter.defProp false
open Nat renaming le_refl → zX, beq → zI, testBit_or → xF, blt → zL, ble → zM, le_of_lt → xH, le_trans → yb, lor → xI, mul → zK, add → zJ
open List renaming length → zR, mapM_cons → xK
open Array renaming getD_eq_getD_getElem? → xG, replicate → xJ, ext' → xi
open Bool renaming or_eq_true → zV, or_eq_false_iff → xL
namespace Go.Proofs.YtbddpjboppmnfaaGreatDoor.Ev
variable {s s' s1:U}{v x k m p y v':Z}{I φ1 φ2:Phi}{A tm':zB}{E:Env}{S:Self}{w w1 w':World}{n nt bytes esz f i t e n0:Nat}{F:Fence}{fr' fr:Fr}{xs:zE}{a:Act}{b c:Bool}{P:Program}{o:AObj}{vs:zA}
theorem Yr(s:U)(Y:Nat)(o:AObj):(s.put Y o).next=s.next:=rfl
theorem ig(s:U)(Y:Nat):(s.del Y).next=s.next:=rfl
theorem j9(s:U)(o:AObj):(s.alloc o).next=s.next+1:=rfl
def WJ(h:gB s p vs=some s'):s'.next=s.next:=by
 unfold gB at h;split at h
 .split at h
  .rename_i t cs e fz hg
   cases hb:(fz|| !w8 vs)with
   |true=>rw[hb]at h;simp at h
   |false=>
    rw[hb]at h;simp only[wK]at h;split at h
    .cases h;rfl
    .cases h
  .cases h
 .cases h
def LB(h:EU s x=some (v,s')):s'=s:=by
 unfold EU at h;split at h
 .cases h;rfl
 .cases h;rfl
 .rename_i Y off len c
  split at h
  .rename_i k
   cases hb:zM len k with
   |true=>rw[hb]at h;simp at h;exact h.2.symm
   |false=>rw[hb]at h;simp at h
  .cases h;rfl
 .cases h;rfl
 .cases h;rfl
 .cases h
def LC {new:zA}(h:ZZ s t esz bytes x n new=some (v,s')):s.next<=s'.next:=by
 unfold ZZ at h;split at h
 .cases hm:(s.md&&wL new)with
  |true=>rw[hm]at h;simp only[wy]at h;have:=lV h;omega
  |false=>rw[hm]at h;simp only[wK]at h;have:=pW h;omega
 .rename_i k ex cs
  cases ex with
  |false=>simp at h
  |true=>
   simp only[wy]at h;split at h
   .have:=lV h;omega
   .cases h
 .rename_i Y esz' k cs
  split at h
  .rename_i t0 cells hg
   cases hb:(zI esz esz'&&zI t0 t&&zI (vC cells) (vC cs)&&w8 new)with
   |false=>rw[hb]at h;simp at h
   |true=>rw[hb]at h;simp only[wy]at h;have:=lV h;rw[ig]at this;omega
  .cases h
 .rename_i Y off len c
  split at h
  .rename_i t0 cs e fz hg
   split at h
   .rename_i k
    cases hb:zM (zJ len n) k with
    | true=>
     rw[hb]at h;simp only[wy]at h;split at h
     .rename_i s1 hs
      cases h;have:=WJ hs;omega
     .cases h
    |false=>
     rw[hb]at h;simp only[wK]at h;split at h
     .have:=pW h;omega
     .cases h
   .rename_i e'
    cases hb:(zI esz e'&&e&& !fz)with
    |false=>rw[hb]at h;simp at h
    | true=>
     rw[hb]at h;simp only[wy]at h;cases hb2:zM (zJ off (zK (zJ len n) esz)) (vC cs)with
     | true=>
      rw[hb2]at h;simp only[wy]at h;split at h
      .rename_i s1 hs
       cases h;have:=WJ hs;omega
      .cases h
     | false=>
      rw[hb2]at h;simp only[wK]at h;cases hb3:(w8 new&&zI t0 t)with
      |false=>rw[hb3]at h;simp at h
      |true=>
       rw[hb3]at h;simp only[wy]at h;split at h
       .have:=pW h;rw[ig]at this;omega
       .cases h
  .cases h
 .cases h
def Bl(h:jo s t esz bytes x y=some (v,s')):s.next<=s'.next:=by
 unfold jo at h;split at h
 .cases h
 .rw[LB h];exact zX _
 .split at h
  .cases h
  .exact LC h
def mP{zs:zA}(h:QG s t esz bytes zs x y=some (v,s')):s.next<=s'.next:=by
 unfold QG at h;split at h
 .cases h
 .rename_i n
  cases hb:(zM (zK (Nat.succ n) bytes) 281474976710656&&zL n 9223372036854775807)with
  |false=>rw[hb]at h;simp at h
  |true=>rw[hb]at h;simp only[wy]at h;exact LC h
 .cases h
def M5{w:Z}(h:oSt s n p w=some (v,s')):s'.next=s.next:=by
 unfold oSt at h;cases hb:zI (vC w.cells) n with
 |false=>rw[hb]at h;simp at h
 |true=>
  rw[hb]at h;simp only[wy]at h;split at h
  .rename_i s1 hs;cases h;exact WJ hs
  .cases h
def M1{f:FK}(h:oMu s f m k x=some (v,s')):s'.next=s.next:=by
 unfold oMu at h;split at h
 .split at h
  .split at h
   .cases h;rfl
   .cases h;rfl
   .cases h
  .split at h
   .split at h
    .cases h;rfl
    .cases h
   .cases h
  .cases h
 .cases h
def MY{f:FK}(h:oMd s f m k=some (v,s')):s'.next=s.next:=by
 unfold oMd at h;split at h
 .cases h;rfl
 .split at h
  .split at h
   .cases h;rfl
   .cases h;rfl
   .cases h
  .split at h
   .split at h
    .cases h;rfl
    .cases h
   .cases h
  .cases h
 .cases h
def M3(h:oNs s x=some (v,s')):s'.next=s.next:=by
 unfold oNs at h;split at h
 .split at h
  .split at h
   .cases h;rfl
   .cases h;rfl
  .cases h
 .cases h
def o8{Y m since clock:Nat}{seen:zy}:∀{l:zh},Xy s Y m since seen clock l=some (v,s')->s'.next=s.next
 |[],h=>by simp only[Xy,wB,qj]at h;rw[<-h.2]
 |[e],h=>by
  simp only[Xy]at h;cases hb:zL e.2.2 since with
  |false=>rw[hb]at h;simp at h
  |true=>rw[hb]at h;simp only[wy,wB,qj]at h;rw[<-h.2];rfl
 |_::_::_,h=>by simp[Xy]at h
def M2(h:oNm s x=some (v,s')):s'.next=s.next:=by
 unfold oNm at h;split at h
 .split at h
  .cases h;rfl
  .rename_i m since seen last _
   split at h
   .rename_i es clock _
    cases hb:fG seen last es with
    |true=>rw[hb]at h;simp at h
    |false=>rw[hb]at h;simp only[wK]at h;exact o8 h
   .cases h
  .cases h
 .cases h
def Nr{op:IOp}(h:opv E op A s=some (v,s')):s.next<=s'.next:=by
 have e:∀{a b:U},a=b->b.next<=a.next:=λh=>by rw[h];exact zX _
 have e2:s'.next=s.next->s.next<=s'.next:=λh=>J
 cases op<;>simp only[opv]at h<;>try (cases h;done)
 case mv=>obtain⟨_,_,_,h3⟩:=qS h;exact e h3
 case pick=>exact e (kj h).2
 case alloc=>simp only[Wv,wB,qj]at h;exact xH (jN h.2)
 case box=>obtain⟨_,_,h⟩:=ky h;simp only[ij,wB,qj]at h;exact xH (jN h.2)
 case build=>exact e (kj h).2
 case bsl=>exact Dr h
 case ld=>obtain⟨_,_,_,h3⟩:=qS h;exact e h3
 case ldn=>obtain⟨_,_,_,h3⟩:=qS h;exact e h3
 case st=>obtain⟨_,_,_,_,h⟩:=gq h;exact e2 (M5 h)
 case nck=>obtain⟨_,_,_,h3⟩:=qS h;exact e h3
 case bin=>obtain⟨_,_,_,_,_,h3⟩:=jm h;exact e h3
 case eqk=>obtain⟨_,_,_,_,_,h3⟩:=jm h;exact e h3
 case un=>obtain⟨_,_,_,h3⟩:=qS h;exact e h3
 case ci=>obtain⟨_,_,_,h3⟩:=qS h;exact e h3
 case csb=>obtain⟨_,_,h⟩:=ky h;exact Ds h
 case cbs=>obtain⟨_,_,_,h3⟩:=qS h;exact e h3
 case mif=>obtain⟨_,_,_,h3⟩:=qS h;exact e h3
 case mfn=>obtain⟨_,_,_,_,_,h3⟩:=dl h;exact e h3
 case mmap=>simp only[Yt,Up,wB,qj]at h;exact xH (jN h.2)
 case msl=>obtain⟨_,_,_,_,h⟩:=gq h;exact xH (PV h)
 case sls=>obtain⟨_,_,_,_,_,_,_,h3⟩:=KM h;exact e h3
 case slv=>obtain⟨_,_,_,_,_,_,_,_,_,h3⟩:=dr h;exact e h3
 case fa=>obtain⟨_,_,_,h3⟩:=qS h;exact e h3
 case ia=>obtain⟨_,_,_,_,_,h3⟩:=jm h;exact e h3
 case iaa=>obtain⟨_,_,_,_,_,h3⟩:=jm h;exact e h3
 case ixs=>obtain⟨_,_,_,_,_,h3⟩:=jm h;exact e h3
 case lk=>obtain⟨_,_,_,_,_,h3⟩:=jm h;exact e h3
 case mu=>obtain⟨_,_,_,_,_,_,h⟩:=co h;exact e2 (M1 h)
 case md=>obtain⟨_,_,_,_,h⟩:=gq h;exact e2 (MY h)
 case rs=>obtain⟨_,_,h⟩:=ky h;exact xH (im h)
 case ns=>obtain⟨_,_,h⟩:=ky h;exact e2 (M3 h)
 case rm=>obtain⟨_,_,h⟩:=ky h;exact xH (il h)
 case nm=>obtain⟨_,_,h⟩:=ky h;exact e2 (M2 h)
 case en=>obtain⟨_,_,_,h3⟩:=qS h;exact e h3
 case ex=>obtain⟨_,_,_,h3⟩:=qS h;exact e h3
 case len=>obtain⟨_,_,_,h3⟩:=qS h;exact e h3
 case cap=>obtain⟨_,_,_,h3⟩:=qS h;exact e h3
 case app=>obtain⟨_,_,_,_,h⟩:=gq h;exact Bl h
 case nes=>obtain⟨_,_,_,h3⟩:=qS h;exact e h3
 case ibs=>obtain⟨_,_,_,_,_,h3⟩:=jm h;exact e h3
 case appz=>obtain⟨_,_,_,_,h⟩:=gq h;exact mP h
structure Mono(S:Self):Prop where
 call:∀f args s v s',S.call f args s=some (v,s')->s.next<=s'.next
 loop:∀rd b fr s res fr' s',S.loop rd b fr s=some (res,fr',s')->s.next<=s'.next
 round:∀l args s v s',S.round l args s=some (v,s')->s.next<=s'.next
def Pn(hS:Mono S){op:IOp}(h:vU E S op A s=some (v,s')):s.next<=s'.next:=by
 rw[Zm]at h;split at h
 .unfold eT at h;split at h
  .exact hS.call _ _ _ _ _ h
  .cases h
 .unfold bB at h;split at h
  .split at h
   .exact hS.call _ _ _ _ _ h
   .exact hS.round _ _ _ _ _ h
   .cases h
  .cases h
 .exact Nr h
def HM(hS:Mono S){o:SOper}(h:Zv E S o A s=some (tm',s')):s.next<=s'.next:=by
 unfold Zv at h;split at h
 .cases he:vU E S o.op A s with
  |none=>rw[he]at h;simp[stS]at h
  |some p=>rw[he]at h;simp only[stS,wB,qj]at h;rw[<-h.2];exact Pn hS (v:=p.1) (s':=p.2) he
 .simp only[wB,qj]at h;rw[<-h.2];exact zX _
 .cases h
def GH{E:Env}{S:Self}(hS:Mono S):∀{l:List SOper} {A tm':zB} {s s':U},evS E S l A s=some (tm',s')->s.next<=s'.next
 |[],A,tm',s,s',h=>by simp only[evS,wB,qj]at h;rw[<-h.2];exact zX _
 | o::r,A,tm',s,s',h=>by
  simp only[evS]at h;split at h
  .rename_i p hp
   exact yb (HM hS (tm':=p.1) (s':=p.2) hp) (GH hS h)
  .cases h
def sg(hS:Mono S){o:DOper}{log:List LogE}{p:List LogE×zB×U}(h:YD E S o i log A s=some p):s.next<=p.2.2.next:=by
 unfold YD at h;split at h
 .cases he:vU E S o.o.op A (jj o log A s)with
  |none=>rw[he]at h;simp[Lg]at h
  |some q=>
   rw[he]at h;simp only[Lg]at h;have:=Pn hS (v:=q.1) (s':=q.2) he;cases hb:kJ o.deps (vN o.o.op A) (vn q.2.wm s.next) log with
   |false=>rw[hb]at h;simp at h
   |true=>rw[hb]at h;simp only[wy,wB]at h;subst h;exact this
 .simp only[wB]at h;subst h;exact zX _
 .cases h
def eU{E:Env}{S:Self}(hS:Mono S):∀{l:zt} {i:Nat} {log:List LogE} {A tm':zB} {s s':U},evD E S l i log A s=some (tm',s')->s.next<=s'.next
 |[],i,log,A,tm',s,s',h=>by simp only[evD,wB,qj]at h;rw[<-h.2];exact zX _
 | o::r,i,log,A,tm',s,s',h=>by
  simp only[evD]at h;split at h
  .rename_i p hp
   exact yb (sg hS hp) (eU hS h)
  .cases h
def Zx{k:Fr->U->zj}{x:zj}{res:Res}{fr':Fr}{s':U}(hx:∀p,x=some p->n<=p.2.2.next)(hk:∀fr s res fr' s',k fr s=some (res,fr',s')->s.next<=s'.next)(h:ge k x=some (res,fr',s')):n<=s'.next:=by
 cases x with
 |none=>simp[ge]at h
 |some p=>
  simp only[ge]at h;have:=hx p rfl;split at h
  .exact yb this (hk _ _ _ _ _ h)
  .cases h;exact this
def uI{E:Env}{S:Self}(hS:Mono S){rd:zD}:∀{c:ICode} {fr fr':Fr} {s s':U} {res:Res},evC E S rd c fr s=some (res,fr',s')->s.next<=s'.next
 |.skip,fr,fr',s,s',res,h=>by simp only[evC]at h;cases h;exact zX _
 |.reg ops,fr,fr',s,s',res,h=>by
  simp only[evC]at h;cases he:evS E S ops fr.A s with
  |none=>rw[he]at h;simp[kN]at h
  |some p=>rw[he]at h;simp only[kN]at h;cases h;exact GH hS (tm':=p.1) he
 |.regd ops,fr,fr',s,s',res,h=>by
  simp only[evC,JY]at h;split at h
  case h_2=>cases h
  cases he:evD E S ops 0 [] fr.A s with
  |none=>rw[he]at h;simp[kN]at h
  |some p=>rw[he]at h;simp only[kN]at h;cases h;exact eU hS (tm':=p.1) he
 |.seq a b,fr,fr',s,s',res,h=>by
  simp only[evC]at h;exact Zx (λp hp=>uI hS (res:=p.1) (fr':=p.2.1) hp) (λfr s res fr' s' h=>uI hS h) h
 |.cond c a b,fr,fr',s,s',res,h=>by
  simp only[evC,JN]at h;split at h
  .exact uI hS h
  .exact uI hS h
  .cases h
 | .block Y b,fr,fr',s,s',res,h=>by
  simp only[evC]at h;cases he:evC E S rd b fr s with
  |none=>rw[he]at h;simp[lP]at h
  | some p=>
   have:=uI hS (res:=p.1) (fr':=p.2.1) (s':=p.2.2) he;rw[he]at h;simp only[lP]at h;split at h
   .rename_i i _
    cases hb:zI i Y with
    |true=>rw[hb]at h;simp only[wy,wB,qj]at h;rw[h.2]at this;exact this
    |false=>rw[hb]at h;simp only[wK]at h;cases h;exact this
   .cases h;exact this
 |.loop b,fr,fr',s,s',res,h=>by
  simp only[evC]at h;exact Zx (λp hp=>uI hS (res:=p.1) (fr':=p.2.1) hp) (λfr s res fr' s' h=>hS.loop _ _ _ _ _ _ _ h) h
 |.exit Y,fr,fr',s,s',res,h=>by simp only[evC]at h;cases h;exact zX _
 |.ret,fr,fr',s,s',res,h=>by simp only[evC]at h;cases h;exact zX _
 | .rf g ps asg body,fr,fr',s,s',res,h=>by
  simp only[evC,rfR]at h;split at h
  .split at h
   .rename_i f a c _
    cases he:S.call f (a++ .yld (Nat.succ s.next)::c) ((s.alloc .dfd).alloc (.loop .ready none fr.A ps asg body s.next))with
    |none=>rw[he]at h;simp[ZV]at h
    | some p=>
     have:=hS.call _ _ _ p.1 p.2 he;rw[j9,j9]at this;rw[he]at h;simp only[ZV]at h;split at h
     .split at h
      .cases h
      .cases h;rw[Yr];omega
     .cases h
   .cases h
  .cases h
 |.stk,fr,fr',s,s',res,h=>by simp[evC]at h
def WK:∀{l:zy} {s s':U},vB s l=some s'->s'.next=s.next
 |[],s,s',h=>by simp only[vB,wB]at h;rw[h]
 |d::r,s,s',h=>by
  simp only[vB]at h;split at h
  .rw[WK h];rfl
  .cases h
def K6(hS:Mono S){F:IFunc}{args:zA}(h:XU E S F args s=some (v,s')):s.next<=s'.next:=by
 unfold XU at h;cases he:evC E S none F.body {A:=qG .leaf 0 args,df:=[]} s with
 |none=>rw[he]at h;simp[qJ]at h
 | some p=>
  have:=uI hS (res:=p.1) (fr':=p.2.1) (s':=p.2.2) he;rw[he]at h;simp only[qJ]at h;split at h
  .cases h
  .split at h
   .rename_i s1 hm
    have:=WK hm;unfold Vs at h;split at h
    .cases h;omega
    .cases h
   .cases h
def ND{x:zc}(h:Yu s x=some (v,s')):
  ∃u t,x=some (u,t)/\((vn t.wm s.next=0/\XP s.next u=some v/\s'=s)\/(v=agW u/\s'={t with wm:=xI s.wm t.wm,md:=s.md})):=by
 cases x with
 |none=>simp[Yu]at h
 | some p=>
  refine⟨p.1,p.2,rfl,?_⟩;simp only[Yu]at h;split at h
  .rename_i u hu
   cases hb:zI (vn p.2.wm s.next) 0 with
   |false=>rw[hb]at hu;simp at hu
   |true=>
    rw[hb]at hu;simp only[wy]at hu;simp only[wB,qj]at h;obtain⟨rfl,rfl⟩:=h;exact .inl ⟨ql.1 hb,hu,rfl⟩
  .simp only[wB,qj]at h;exact .inr ⟨h.1.symm,h.2.symm⟩
def TG{x:zc}(h:mdR b x=some (v,s')):∃t,x=some (v,t)/\s'={t with md:=b}:=by
 cases x with
 |none=>simp[mdR]at h
 |some p=>
  simp only[mdR,wB,qj]at h;obtain⟨rfl,rfl⟩:=h;exact⟨p.2,rfl,rfl⟩
def UK{f:Nat}{args:zA}(h:jp E S f args s=some (v,s')):
  ∃F,E.funs.get f=some F/\zR args<=F.ntmps/\((∃u t,XU E S F args {s with wm:=0,md:=true}=some (u,t)/\((vn t.wm s.next=0/\XP s.next u=some v/\s'=s)\/(v=agW u/\s'={t with wm:=xI s.wm t.wm,md:=s.md})))\/
   ∃t,XU E S F args {s with md:=false}=some (v,t)/\s'={t with md:=s.md}):=by
 unfold jp at h;split at h
 .rename_i F hF
  cases hb:zM (vC args) F.ntmps with
  |false=>rw[hb]at h;simp at h
  |true=>
   rw[hb]at h;simp only[wy]at h;refine⟨F,hF,by rw[<-qT];exact qd.1 hb,?_⟩
   cases hp:E.pure f with
   |true=>rw[hp]at h;simp only[wy]at h;exact .inl (ND h)
   |false=>rw[hp]at h;simp only[wK]at h;exact .inr (TG h)
 .cases h
def np(hS:Mono S){args:zA}(h:jp E S f args s=some (v,s')):s.next<=s'.next:=by
 obtain⟨F,_,_,⟨u,t,hb,⟨_,_,rfl⟩|⟨rfl,rfl⟩⟩|⟨t,hb,rfl⟩⟩:=UK h
 .exact zX _
 .have h1:=K6 hS hb;exact h1
 .have h1:=K6 hS hb;exact h1
def iM (hS:Mono S){l:Nat}{args:zA}(h:gu E S l args s=some (v,s')):s.next<=s'.next:=by
 unfold gu at h;split at h
 .rename_i A ps asg bd d _
  split at h
  .rename_i tm1 _
   cases he:evC E S (some l) asg {A:=tm1,df:=[]} s with
   |none=>rw[he]at h;simp[uR]at h
   | some p=>
    have h1:=uI hS (res:=p.1) (fr':=p.2.1) (s':=p.2.2) he;rw[he]at h;simp only[uR]at h;split at h
    .split at h
     .rename_i pend A ps asg body d _
      cases he2:evC E S (some l) bd p.2.1 (p.2.2.put l (.loop .busy pend A ps asg body d))with
      |none=>rw[he2]at h;simp[kl]at h
      | some q=>
       have h2:=uI hS (res:=q.1) (fr':=q.2.1) (s':=q.2.2) he2;rw[Yr]at h2;rw[he2]at h;simp only[kl]at h;split at h
       .split at h
        .cases h;rw[Yr];omega
        .cases h;rw[Yr];omega
       .cases h
     .cases h
    .cases h
  .cases h
 .cases h
def ja{Y:Nat}{o':AObj}(h:s.get Y=some o)(hng:uE o=false:=by rfl):Ext s (s.put Y o'):=td s Y o o' (qr h) (vX h) hng
def eX{Y:Nat}(h:s.get Y=some o)(hng:uE o=false:=by rfl):Ext s (s.del Y):=bE s Y (qr h) (vX h) hng
def l9(h:s.alloc o=s'):Ext s s':=h▸pT s o
def vH(h:s'=s):Ext s s':=by rw[h];exact Ext.refl s
def Vu(h:gB s p vs=some s'):Ext s s':=by
 unfold gB at h;split at h
 .split at h
  .rename_i t cs e fz hg
   cases hb:(fz|| !w8 vs)with
   |true=>rw[hb]at h;simp at h
   |false=>
    rw[hb]at h;simp only[wK]at h;split at h
    .cases h;exact ja hg
    .cases h
  .cases h
 .cases h
def G3{need:Nat}{cs:zA}(h:grow s e esz bytes cs need=some (v,s')):Ext s s':=by
 unfold grow at h;cases hb:(zM (zK (zK 2 need) bytes) 281474976710656&&zM 1 esz&&zL need 9223372036854775808)with
 |false=>rw[hb]at h;simp at h
 |true=>rw[hb]at h;simp only[wy,wB,qj]at h;exact l9 h.2
def U3{need:Nat}{cs:zA}(h:Zo s e esz bytes cs need=some (v,s')):Ext s s':=by
 obtain⟨_,_,_,_,_,rfl⟩:=U4 h;exact pT _ _
def dD {new:zA}(h:ZZ s t esz bytes x n new=some (v,s')):Ext s s':=by
 unfold ZZ at h;split at h
 .cases hm:(s.md&&wL new)with
  |true=>rw[hm]at h;simp only[wy]at h;exact U3 h
  |false=>rw[hm]at h;simp only[wK]at h;exact G3 h
 .rename_i k ex cs
  cases ex with
  |false=>simp at h
  |true=>
   simp only[wy]at h;split at h
   .exact U3 h
   .cases h
 .rename_i Y esz' k cs
  split at h
  .rename_i t0 cells hg
   cases hb:(zI esz esz'&&zI t0 t&&zI (vC cells) (vC cs)&&w8 new)with
   |false=>rw[hb]at h;simp at h
   |true=>rw[hb]at h;simp only[wy]at h;exact(eX hg).trans (U3 h)
  .cases h
 .rename_i Y off len c
  split at h
  .rename_i t0 cs e fz hg
   split at h
   .rename_i k
    cases hb:zM (zJ len n) k with
    | true=>
     rw[hb]at h;simp only[wy]at h;split at h
     .rename_i s1 hs
      cases h;exact Vu hs
     .cases h
    |false=>
     rw[hb]at h;simp only[wK]at h;split at h
     .exact G3 h
     .cases h
   .rename_i e'
    cases hb:(zI esz e'&&e&& !fz)with
    |false=>rw[hb]at h;simp at h
    | true=>
     rw[hb]at h;simp only[wy]at h;cases hb2:zM (zJ off (zK (zJ len n) esz)) (vC cs)with
     | true=>
      rw[hb2]at h;simp only[wy]at h;split at h
      .rename_i s1 hs
       cases h;exact Vu hs
      .cases h
     | false=>
      rw[hb2]at h;simp only[wK]at h;cases hb3:(w8 new&&zI t0 t)with
      |false=>rw[hb3]at h;simp at h
      |true=>
       rw[hb3]at h;simp only[wy]at h;split at h
       .exact(eX hg).trans (G3 h)
       .cases h
  .cases h
 .cases h
def EV(h:jo s t esz bytes x y=some (v,s')):Ext s s':=by
 unfold jo at h;split at h
 .cases h
 .exact vH (LB h)
 .split at h
  .cases h
  .exact dD h
def Bo{zs:zA}(h:QG s t esz bytes zs x y=some (v,s')):Ext s s':=by
 unfold QG at h;split at h
 .cases h
 .rename_i n
  cases hb:(zM (zK (Nat.succ n) bytes) 281474976710656&&zL n 9223372036854775807)with
  |false=>rw[hb]at h;simp at h
  |true=>rw[hb]at h;simp only[wy]at h;exact dD h
 .cases h
def TU{w:Z}(h:oSt s n p w=some (v,s')):Ext s s':=by
 unfold oSt at h;cases hb:zI (vC w.cells) n with
 |false=>rw[hb]at h;simp at h
 |true=>
  rw[hb]at h;simp only[wy]at h;split at h
  .rename_i s1 hs;cases h;exact Vu hs
  .cases h
def TP{f:FK}(h:oMu s f m k x=some (v,s')):Ext s s':=by
 unfold oMu at h;split at h
 .split at h
  .rename_i hg
   split at h
   .cases h;exact ja hg
   .cases h;exact ja hg
   .cases h
  .rename_i hg
   split at h
   .split at h
    .cases h;exact ja hg
    .cases h
   .cases h
  .cases h
 .cases h
def TM{f:FK}(h:oMd s f m k=some (v,s')):Ext s s':=by
 unfold oMd at h;split at h
 .cases h;exact Ext.refl _
 .split at h
  .rename_i hg
   split at h
   .cases h;exact ja hg
   .cases h;exact ja hg
   .cases h
  .rename_i hg
   split at h
   .split at h
    .cases h;exact ja hg
    .cases h
   .cases h
  .cases h
 .cases h
def TR(h:oNs s x=some (v,s')):Ext s s':=by
 unfold oNs at h;split at h
 .split at h
  .rename_i hg
   split at h
   .cases h;exact ja hg
   .cases h;exact Ext.refl _
  .cases h
 .cases h
def Dm{Y m since clock:Nat}{seen:zy}(hg:s.get Y=some o)(hng:uE o=false:=by rfl):∀{l:zh},Xy s Y m since seen clock l=some (v,s')->Ext s s'
 |[],h=>by simp only[Xy,wB,qj]at h;exact vH h.2.symm
 |[e],h=>by
  simp only[Xy]at h;cases hb:zL e.2.2 since with
  |false=>rw[hb]at h;simp at h
  |true=>rw[hb]at h;simp only[wy,wB,qj]at h;rw[<-h.2];exact ja hg hng
 |_::_::_,h=>by simp[Xy]at h
def TQ(h:oNm s x=some (v,s')):Ext s s':=by
 unfold oNm at h;split at h
 .split at h
  .cases h;exact Ext.refl _
  .rename_i m since seen last hg
   split at h
   .rename_i es clock _
    cases hb:fG seen last es with
    |true=>rw[hb]at h;simp at h
    |false=>rw[hb]at h;simp only[wK]at h;exact Dm hg rfl h
   .cases h
  .cases h
 .cases h
def MV{len:Nat}{x:Option zA}(h:Uo s e len x=some (v,s')):Ext s s':=by
 cases x with
 |none=>simp[Uo]at h
 |some l=>
  simp only[Uo]at h;cases hb:(s.md&&wL l)with
  |true=>rw[hb]at h;simp only[wy,wB,qj]at h;exact vH h.2.symm
  |false=>rw[hb]at h;simp only[wK,wB,qj]at h;exact l9 h.2
def MZ{b:Nat}{z:zA}{l c:Z}(h:Lo s e b z l c=some (v,s')):Ext s s':=by
 unfold Lo at h;split at h
 .rename_i l
  split at h
  .rename_i c
   cases hb:(zM l c&&zM (zK c b) 281474976710656&&zL c 9223372036854775808)with
   |false=>rw[hb]at h;simp at h
   |true=>rw[hb]at h;simp only[wy,wB,qj]at h;exact l9 h.2
  .cases h
 .cases h
def MW(h:Kh s e x=some (v,s')):Ext s s':=by
 unfold Kh at h;split at h
 .rename_i t
  cases hb:zL (vC t) 9223372036854775808 with
  |false=>rw[hb]at h;simp at h
  |true=>
   rw[hb]at h;simp only[wy]at h;cases hm:s.md with
   |true=>rw[hm]at h;simp only[wy,wB,qj]at h;exact vH h.2.symm
   |false=>rw[hm]at h;simp only[wK,wB,qj]at h;exact l9 h.2
 .cases h
def TT(h:oRs s x=some (v,s')):Ext s s':=by
 unfold oRs at h;split at h
 .simp only[wB,qj]at h;exact l9 h.2
 .cases h
def TS(h:oRm s x=some (v,s')):Ext s s':=by
 unfold oRm at h;split at h
 .simp only[wB,qj]at h;exact l9 h.2
 .split at h
  .simp only[wB,qj]at h;exact l9 h.2
  .cases h
 .cases h
def TZ{op:IOp}(h:opv E op A s=some (v,s')):Ext s s':=by
 cases op<;>simp only[opv]at h<;>try (cases h;done)
 case mv=>obtain⟨_,_,_,h3⟩:=qS h;exact vH h3
 case pick=>exact vH (kj h).2
 case alloc=>simp only[Wv,wB,qj]at h;exact l9 h.2
 case box=>obtain⟨_,_,h⟩:=ky h;simp only[ij,wB,qj]at h;exact l9 h.2
 case build=>exact vH (kj h).2
 case bsl=>exact MV h
 case ld=>obtain⟨_,_,_,h3⟩:=qS h;exact vH h3
 case ldn=>obtain⟨_,_,_,h3⟩:=qS h;exact vH h3
 case st=>obtain⟨_,_,_,_,h⟩:=gq h;exact TU h
 case nck=>obtain⟨_,_,_,h3⟩:=qS h;exact vH h3
 case bin=>obtain⟨_,_,_,_,_,h3⟩:=jm h;exact vH h3
 case eqk=>obtain⟨_,_,_,_,_,h3⟩:=jm h;exact vH h3
 case un=>obtain⟨_,_,_,h3⟩:=qS h;exact vH h3
 case ci=>obtain⟨_,_,_,h3⟩:=qS h;exact vH h3
 case csb=>obtain⟨_,_,h⟩:=ky h;exact MW h
 case cbs=>obtain⟨_,_,_,h3⟩:=qS h;exact vH h3
 case mif=>obtain⟨_,_,_,h3⟩:=qS h;exact vH h3
 case mfn=>obtain⟨_,_,_,_,_,h3⟩:=dl h;exact vH h3
 case mmap=>simp only[Yt,Up,wB,qj]at h;exact l9 h.2
 case msl=>obtain⟨_,_,_,_,h⟩:=gq h;exact MZ h
 case sls=>obtain⟨_,_,_,_,_,_,_,h3⟩:=KM h;exact vH h3
 case slv=>obtain⟨_,_,_,_,_,_,_,_,_,h3⟩:=dr h;exact vH h3
 case fa=>obtain⟨_,_,_,h3⟩:=qS h;exact vH h3
 case ia=>obtain⟨_,_,_,_,_,h3⟩:=jm h;exact vH h3
 case iaa=>obtain⟨_,_,_,_,_,h3⟩:=jm h;exact vH h3
 case ixs=>obtain⟨_,_,_,_,_,h3⟩:=jm h;exact vH h3
 case lk=>obtain⟨_,_,_,_,_,h3⟩:=jm h;exact vH h3
 case mu=>obtain⟨_,_,_,_,_,_,h⟩:=co h;exact TP h
 case md=>obtain⟨_,_,_,_,h⟩:=gq h;exact TM h
 case rs=>obtain⟨_,_,h⟩:=ky h;exact TT h
 case ns=>obtain⟨_,_,h⟩:=ky h;exact TR h
 case rm=>obtain⟨_,_,h⟩:=ky h;exact TS h
 case nm=>obtain⟨_,_,h⟩:=ky h;exact TQ h
 case en=>obtain⟨_,_,_,h3⟩:=qS h;exact vH h3
 case ex=>obtain⟨_,_,_,h3⟩:=qS h;exact vH h3
 case len=>obtain⟨_,_,_,h3⟩:=qS h;exact vH h3
 case cap=>obtain⟨_,_,_,h3⟩:=qS h;exact vH h3
 case app=>obtain⟨_,_,_,_,h⟩:=gq h;exact EV h
 case nes=>obtain⟨_,_,_,h3⟩:=qS h;exact vH h3
 case ibs=>obtain⟨_,_,_,_,_,h3⟩:=jm h;exact vH h3
 case appz=>obtain⟨_,_,_,_,h⟩:=gq h;exact Bo h
structure ExtS(S:Self):Prop where
 call:∀f args s v s',S.call f args s=some (v,s')->Ext s s'
 loop:∀rd b fr s res fr' s',S.loop rd b fr s=some (res,fr',s')->Ext s s'
 round:∀l args s v s',S.round l args s=some (v,s')->Ext s s'
def Zl(hS:ExtS S){op:IOp}(h:vU E S op A s=some (v,s')):Ext s s':=by
 rw[Zm]at h;split at h
 .unfold eT at h;split at h
  .exact hS.call _ _ _ _ _ h
  .cases h
 .unfold bB at h;split at h
  .split at h
   .exact hS.call _ _ _ _ _ h
   .exact hS.round _ _ _ _ _ h
   .cases h
  .cases h
 .exact TZ h
def Ee(hS:ExtS S){o:SOper}(h:Zv E S o A s=some (tm',s')):Ext s s':=by
 unfold Zv at h;split at h
 .cases he:vU E S o.op A s with
  |none=>rw[he]at h;simp[stS]at h
  |some p=>rw[he]at h;simp only[stS,wB,qj]at h;rw[<-h.2];exact Zl hS (v:=p.1) (s':=p.2) he
 .simp only[wB,qj]at h;exact vH h.2.symm
 .cases h
def ta{E:Env}{S:Self}(hS:ExtS S):∀{l:List SOper} {A tm':zB} {s s':U},evS E S l A s=some (tm',s')->Ext s s'
 |[],A,tm',s,s',h=>by simp only[evS,wB,qj]at h;exact vH h.2.symm
 | o::r,A,tm',s,s',h=>by
  simp only[evS]at h;split at h
  .rename_i p hp
   exact(Ee hS (tm':=p.1) (s':=p.2) hp).trans (ta hS h)
  .cases h
def Wk(deps:Nat)(h:zi)(Y:Nat):∀(log:List LogE),hid h Y=true->hid (ue deps log h) Y=true
 |[],hh=>hh
 | e::r,hh=>by
  simp only[ue];cases hb:(zI e.lo e.hi||deps.testBit e.idx)with
  |true=>simp only[wy];exact Wk deps h Y r hh
  |false=>
   simp only[wK,hid];have:=Wk deps h Y r hh;cases zM e.lo Y<;>cases zL Y e.hi<;>simp[this]
def ao{o:DOper}{log:List LogE}(hon:s.only=none){Y:Nat}(h:seen (jj o log A s) Y=true):seen s Y=true:=by
 unfold seen at h|-;rw[hon];cases hh:hid s.hide Y with
 |false=>rfl
 |true=>
  have:=Wk o.deps s.hide Y log hh
  exfalso
  simp only[jj]at h;split at h
  .rw[this]at h;cases h
  .rw[this]at h;cases h
def GB{o:DOper}{log:List LogE}{t:U}(hon:s.only=none)(hlog:∀e∈log,e.hi<=s.next)(h:Ext (jj o log A s) t):Ext s {t with hide:=s.hide,only:=s.only,wm:=Nat.lor s.wm t.wm}:=by
 refine⟨h.next,λi hi=>?_,rfl,rfl,λY hid hw=>?_,h.vis,λhwf=>⟨?_,λp hp=>yb (hwf.hd p hp) h.next⟩,λY hid hw=>?_,λY o' hid ho hgo hw=>?_⟩
 rotate_right
 .have:(s.wm|||t.wm).testBit Y=true:=hw
  rw[xF,zV]at this;rcases this with h1|h1
  .exact h1
  .have:=h.giv Y o' hid ho hgo h1;simp[jj]at this
 .show (s.wm|||t.wm).testBit i=true
  rw[xF,hi];rfl
 .have:(s.wm|||t.wm).testBit Y=false:=hw
  rw[xF,xL]at this;exact h.keep Y hid this.2
 .have hb:Wf (jj o log A s):=⟨hwf.lt,λp hp=>by
   have key:∀(l:List LogE),(∀e∈l,e.hi<=s.next)->p∈ue o.deps l s.hide->p.2<=s.next:=by
    intro l
    induction l with
    |nil=>intro _ hp;exact hwf.hd p hp
    | cons e r ih=>
     intro hl hp;simp only[ue]at hp;cases hb:(zI e.lo e.hi||o.deps.testBit e.idx)with
     |true=>rw[hb]at hp;simp only[wy]at hp;exact ih (λe' he'=>hl e' (by simp[he'])) hp
     |false=>
      rw[hb]at hp;simp only[wK,List.mem_cons]at hp;rcases hp with rfl|hp
      .exact hl e (by simp)
      .exact ih (λe' he'=>hl e' (by simp[he'])) hp
   exact key log hlog hp⟩
  exact(h.wf hb).lt
 .have:(s.wm|||t.wm).testBit Y=true:=hw
  rw[xF,zV]at this;rcases this with h1|h1
  .exact .inl h1
  .rcases h.wv Y hid h1 with h2|h2
   .simp[jj]at h2
   .exact .inr (ao hon h2)
def Ed(hS:ExtS S){o:DOper}{log:List LogE}{p:List LogE×zB×U}(hon:s.only=none)(hlog:∀e∈log,e.hi<=s.next)(h:YD E S o i log A s=some p):Ext s p.2.2/\∀e∈p.1,e.hi<=p.2.2.next:=by
 unfold YD at h;split at h
 .cases he:vU E S o.o.op A (jj o log A s)with
  |none=>rw[he]at h;simp[Lg]at h
  | some q=>
   rw[he]at h;simp only[Lg]at h;have:=GB hon hlog (Zl hS (v:=q.1) (s':=q.2) he);cases hb:kJ o.deps (vN o.o.op A) (vn q.2.wm s.next) log with
   |false=>rw[hb]at h;simp at h
   |true=>
    rw[hb]at h;simp only[wy,wB]at h;subst h;refine⟨this,λe he=>?_⟩;rcases List.mem_cons.1 he with rfl|he
    .exact zX _
    .exact yb (hlog e he) this.next
 .simp only[wB]at h;subst h;exact⟨Ext.refl s,hlog⟩
 .cases h
def s9{E:Env}{S:Self}(hS:ExtS S):∀{l:zt} {i:Nat} {log:List LogE} {A tm':zB} {s s':U},s.only=none->(∀e∈log,e.hi<=s.next)->evD E S l i log A s=some (tm',s')->Ext s s'
 |[],i,log,A,tm',s,s',_,_,h=>by simp only[evD,wB,qj]at h;exact vH h.2.symm
 | o::r,i,log,A,tm',s,s',hon,hlog,h=>by
  simp only[evD]at h;split at h
  .rename_i p hp
   obtain⟨h1,h2⟩:=Ed hS hon hlog hp;exact h1.trans (s9 hS (h1.only.trans hon) h2 h)
  .cases h
def aF{k:Fr->U->zj}{x:zj}{s:U}{res:Res}{fr':Fr}{s':U}(hx:∀p,x=some p->Ext s p.2.2)(hk:∀fr s res fr' s',k fr s=some (res,fr',s')->Ext s s')(h:ge k x=some (res,fr',s')):Ext s s':=by
 cases x with
 |none=>simp[ge]at h
 |some p=>
  simp only[ge]at h;have:=hx p rfl;split at h
  .exact this.trans (hk _ _ _ _ _ h)
  .cases h;exact this
def l8{E:Env}{S:Self}(hS:ExtS S){rd:zD}:∀{c:ICode} {fr fr':Fr} {s s':U} {res:Res},evC E S rd c fr s=some (res,fr',s')->Ext s s'
 |.skip,fr,fr',s,s',res,h=>by simp only[evC]at h;cases h;exact Ext.refl _
 |.reg ops,fr,fr',s,s',res,h=>by
  simp only[evC]at h;cases he:evS E S ops fr.A s with
  |none=>rw[he]at h;simp[kN]at h
  |some p=>rw[he]at h;simp only[kN]at h;cases h;exact ta hS (tm':=p.1) he
 |.regd ops,fr,fr',s,s',res,h=>by
  simp only[evC,JY]at h;split at h
  case h_2=>cases h
  rename_i hon
  cases he:evD E S ops 0 [] fr.A s with
  |none=>rw[he]at h;simp[kN]at h
  |some p=>rw[he]at h;simp only[kN]at h;cases h;exact s9 hS hon (λe he=>by simp at he) (tm':=p.1) he
 |.seq a b,fr,fr',s,s',res,h=>by
  simp only[evC]at h;exact aF (λp hp=>l8 hS (res:=p.1) (fr':=p.2.1) hp) (λfr s res fr' s' h=>l8 hS h) h
 |.cond c a b,fr,fr',s,s',res,h=>by
  simp only[evC,JN]at h;split at h
  .exact l8 hS h
  .exact l8 hS h
  .cases h
 | .block Y b,fr,fr',s,s',res,h=>by
  simp only[evC]at h;cases he:evC E S rd b fr s with
  |none=>rw[he]at h;simp[lP]at h
  | some p=>
   have:=l8 hS (res:=p.1) (fr':=p.2.1) (s':=p.2.2) he;rw[he]at h;simp only[lP]at h;split at h
   .rename_i i _
    cases hb:zI i Y with
    |true=>rw[hb]at h;simp only[wy,wB,qj]at h;rw[h.2]at this;exact this
    |false=>rw[hb]at h;simp only[wK]at h;cases h;exact this
   .cases h;exact this
 |.loop b,fr,fr',s,s',res,h=>by
  simp only[evC]at h;exact aF (λp hp=>l8 hS (res:=p.1) (fr':=p.2.1) hp) (λfr s res fr' s' h=>hS.loop _ _ _ _ _ _ _ h) h
 |.exit Y,fr,fr',s,s',res,h=>by simp only[evC]at h;cases h;exact Ext.refl _
 |.ret,fr,fr',s,s',res,h=>by simp only[evC]at h;cases h;exact Ext.refl _
 | .rf g ps asg body,fr,fr',s,s',res,h=>by
  simp only[evC,rfR]at h;split at h
  .split at h
   .rename_i f a c _
    cases he:S.call f (a++ .yld (Nat.succ s.next)::c) ((s.alloc .dfd).alloc (.loop .ready none fr.A ps asg body s.next))with
    |none=>rw[he]at h;simp[ZV]at h
    | some p=>
     have:=((pT s .dfd).trans (pT (s.alloc .dfd) (.loop .ready none fr.A ps asg body s.next))).trans (hS.call _ _ _ p.1 p.2 he)
     rw[he]at h;simp only[ZV]at h;split at h
     .rename_i hg
      split at h
      .cases h
      .cases h;exact this.trans (ja hg)
     .cases h
   .cases h
  .cases h
 |.stk,fr,fr',s,s',res,h=>by simp[evC]at h
def QR:∀{l:zy} {s s':U},vB s l=some s'->Ext s s'
 |[],s,s',h=>by simp only[vB,wB]at h;exact vH h.symm
 |d::r,s,s',h=>by
  simp only[vB]at h;split at h
  .rename_i hg;exact(ja hg).trans (QR h)
  .cases h
def LJ(hS:ExtS S){F:IFunc}{args:zA}(h:XU E S F args s=some (v,s')):Ext s s':=by
 unfold XU at h;cases he:evC E S none F.body {A:=qG .leaf 0 args,df:=[]} s with
 |none=>rw[he]at h;simp[qJ]at h
 | some p=>
  have:=l8 hS (res:=p.1) (fr':=p.2.1) (s':=p.2.2) he;rw[he]at h;simp only[qJ]at h;split at h
  .cases h
  .split at h
   .rename_i s1 hm
    have h2:=this.trans (QR hm);unfold Vs at h;split at h
    .cases h;exact h2
    .cases h
   .cases h
def Ext.sub{t:U}(h:Ext {s with wm:=0,md:=b} t):Ext s {t with wm:=xI s.wm t.wm,md:=c} where
 next:=h.next
 wm:=λi hi=>by show (s.wm|||t.wm).testBit i=true;rw[xF,hi];rfl
 hide:=h.hide
 only:=h.only
 keep:=λY hid hw=>h.keep Y hid (by
  have:(s.wm|||t.wm).testBit Y=false:=hw
  rw[xF,xL]at this;exact this.2)
 vis:=h.vis
 wf:=λhw=>let w:=h.wf ⟨hw.lt,hw.hd⟩;⟨w.lt,w.hd⟩
 wv:=λY hid hw=>by
  have:(s.wm|||t.wm).testBit Y=true:=hw
  rw[xF,zV]at this;rcases this with h1|h1
  .exact .inl h1
  .rcases h.wv Y hid h1 with h2|h2
   .have h2':(0:Nat).testBit Y=true:=h2;simp at h2'
   .exact .inr h2
 giv:=λY o hid ho hg hw=>by
  have:(s.wm|||t.wm).testBit Y=true:=hw
  rw[xF,zV]at this;rcases this with h1|h1
  .exact h1
  .have h2':(0:Nat).testBit Y=true:=h.giv Y o hid ho hg h1;simp at h2'
def Ext.remd{t:U}(h:Ext {s with md:=b} t):Ext s {t with md:=c}:=
 ⟨h.next,h.wm,h.hide,h.only,h.keep,h.vis,λhw=>let w:=h.wf ⟨hw.lt,hw.hd⟩;⟨w.lt,w.hd⟩,h.wv,h.giv⟩
def By(hS:ExtS S){args:zA}(h:jp E S f args s=some (v,s')):Ext s s':=by
 obtain⟨F,_,_,⟨u,t,hb,⟨_,_,rfl⟩|⟨rfl,rfl⟩⟩|⟨t,hb,rfl⟩⟩:=UK h
 .exact Ext.refl s'
 .exact(LJ hS hb).sub
 .exact(LJ hS hb).remd
def rV (hS:ExtS S){l:Nat}{args:zA}(h:gu E S l args s=some (v,s')):Ext s s':=by
 unfold gu at h;split at h
 .rename_i A ps asg bd d _
  split at h
  .rename_i tm1 _
   cases he:evC E S (some l) asg {A:=tm1,df:=[]} s with
   |none=>rw[he]at h;simp[uR]at h
   | some p=>
    have h1:=l8 hS (res:=p.1) (fr':=p.2.1) (s':=p.2.2) he;rw[he]at h;simp only[uR]at h;split at h
    .split at h
     .rename_i pend A ps asg body d hg
      cases he2:evC E S (some l) bd p.2.1 (p.2.2.put l (.loop .busy pend A ps asg body d))with
      |none=>rw[he2]at h;simp[kl]at h
      | some q=>
       have h2:=(h1.trans (ja (o':=.loop .busy pend A ps asg body d) hg)).trans (l8 hS (res:=q.1) (fr':=q.2.1) (s':=q.2.2) he2);rw[he2]at h;simp only[kl]at h;split at h
       .rename_i hg2
        split at h
        .cases h;exact h2.trans (ja hg2)
        .cases h;exact h2.trans (ja hg2)
       .cases h
     .cases h
    .cases h
  .cases h
 .cases h
structure Wide(F:Fence):Prop where
 fn:∀f,F.fn f
 depth:F.depth=none
 alive:F.alive=false
def Fresh(I:Phi)(s _s':U):Prop:=∀Y,s.next<=Y->I Y=none
def Fresh.left(h:Fresh I s s')(_h1:s1.next<=s'.next):Fresh I s s1:=h
def Fresh.right(h:Fresh I s s')(h0:s.next<=s1.next)(hs:∀Y,(Y<s.next\/s1.next<=Y)->φ1 Y=I Y):Fresh φ1 s1 s':=
 λY a=>by rw[hs Y (.inr a)];exact h Y J
def KV(P:Program)(X:World)(I:Phi)(s:U)(w:World)(v:Z)(s':U)(e:Ending)(w':World):Prop:=
 ∃I' x,e=.returned x/\Step P X I s w I' s' w'/\VR I' v x
def Res.ex:Res->Exit
 |.norm=>.normal
 |.exit Y=>.exit Y
 |.ret=>.ret
def DfRel(I:Phi):zy->List Deferred->Prop
 |[],ds=>ds=[]
 |d::r,ds=>∃B ds',I d=some B/\ds={target:=.collected B.b,args:=#[]}::ds'/\DfRel I r ds'
def DfRel.mono{I':Phi}(h:Sub I I'):∀{l:zy} {ds:List Deferred},DfRel I l ds->DfRel I' l ds
 |[],_,t=>t
 |d::r,_,t=>by obtain⟨B,ds',h1,h2,h3⟩:=t;exact⟨B,ds',h _ _ h1,h2,h3.mono h⟩
structure FrRel(I:Phi)(nt:Nat)(fr:Fr)(a:Act):Prop where
 A:TmRel I fr.A a.tmps
 size:a.tmps.size=nt
 df:DfRel I fr.df a.defers
def Jv(P:Program)(X:World)(I:Phi)(nt:Nat)(s:U)(w:World)(res:Res)(fr':Fr)(s':U)(e:Exit)(a':Act)(w':World):Prop:=
 ∃I',e=res.ex/\Step P X I s w I' s' w'/\FrRel I' nt fr' a'
def LoopIn(F:Fence)(n:Nat)(P:Program)(c:Code)(Q:Exit->Act->World->Prop)(a:Act)(w:World):Prop:=
 ∀(b:Frame) (k:List Item) (cs:List Frame),b.roundOf=F.round->F.fn b.fn->F.room (zR cs+1+n)->
  ∃e a' w',Q e a' w'/\ArrivesIn (Machine.fenced P F) P (lone (b.atR a (.code c::.inLoop c::k)) cs w) b k cs e a' w'
def Wo{c:Code}{Q:Exit->Act->World->Prop}(h:c.wpIn F n P (Exit.then (LoopIn F n P c Q) Q) a w):LoopIn F n P c Q a w:=by
 intro b k cs hro hb hr;obtain⟨e,a₁,w₁,hq,harr⟩:=h b (.inLoop c::k) cs hro hb hr;cases e with
 |normal=>
  obtain⟨e₂,a₂,w₂,hq₂,harr₂⟩:=hq b k cs hro hb hr;exact⟨e₂,a₂,w₂,hq₂,.of_steps (StepsIn.trans harr (.one (fenced_calm hb hr rfl) stepR_inLoop)) harr₂⟩
 |exit Y=>exact⟨_,a₁,w₁,hq,.pass (x:=.inLoop c) rfl (λ_ _=>.inl (by simp)) harr⟩
 |goto l=>exact⟨_,a₁,w₁,hq,.pass (x:=.inLoop c) rfl (λ_ _=>.inl (by simp)) harr⟩
 |ret=>exact⟨_,a₁,w₁,hq,.pass (x:=.inLoop c) rfl (λ_ _=>.inl (by simp)) harr⟩
 |panic ch=>exact⟨_,a₁,w₁,hq,.pass (x:=.inLoop c) rfl (λ_ _=>.inl (by simp)) harr⟩
 |outgrown=>exact⟨_,a₁,w₁,hq,.pass (x:=.inLoop c) rfl (λ_ _=>.inl (by simp)) harr⟩
def WO{c:Code}{Q:Exit->Act->World->Prop}(h:LoopIn F n P c Q a w):(Code.loop c).wpIn F n P Q a w:=by
 intro b k cs hro hb hr;obtain⟨e,a',w',hq,harr⟩:=h b k cs hro hb hr;exact⟨e,a',w',hq,.of_steps (.one (fenced_calm hb hr rfl) stepR_loop) harr⟩
def LoopIn.mono{c:Code}{Q Q':Exit->Act->World->Prop}{a:Act}{w:World}(h:LoopIn F n P c Q a w)(hq:∀e a w,Q e a w->Q' e a w):LoopIn F n P c Q' a w:=
 λb k cs hro hb hr=>let ⟨e,a',w',q,r⟩:=h b k cs hro hb hr;⟨e,a',w',hq _ _ _ q,r⟩
structure SelfOk(P:Program)(X:World)(S:Self):Prop where
 mono:Mono S
 ext:ExtS S
 call:∀{f args s v s'},S.call f args s=some (v,s')->(∃fn,P.funcs[f]? =some fn/\fn.body.isSome=true/\(fn.name== "runtime.NumGoroutine")=false)/\
  ∀{I w xs},Rel P X I s.get w->Wf s->Fresh I s s'->VRL I args xs->∀F n,Wide F->CallsIn F n P f xs.toArray w (KV P X I s w v s')
 round:∀{l args s v s'},S.round l args s=some (v,s')->∀{I w xs B},Rel P X I s.get w->Wf s->Fresh I s s'->VRL I args xs->I l=some B->
  ∃L,w.heap[B.b]? =some (.loop L)/\zR xs=L.params.size/\∀F n,Wide F->RoundIn F n P B.b L.fn ((L.params.zip xs.toArray).foldl (λt (p,v)=>t.setIfInBounds p v) L.tmps) L.assign L.body w (KV P X I s w v s')
 loop:∀{rd b fr s res fr' s'},S.loop rd b fr s=some (res,fr',s')->∀{nt c I w a},cC P nt c=some b->Rel P X I s.get w->Wf s->Fresh I s s'->FrRel I nt fr a->
  ∀F n,Wide F->(rd=none->F.round=none)->LoopIn F n P c (Jv P X I nt s w res fr' s') a w
section
variable {P:Program}{X:World}{I:Phi}{s s':U}{w:World}{A:zB}{a:Act}{o:Oper}{v:Z}{E:Env}{S:Self}
def Vi{x:Option IOp}{op:IOp}(h:JU x=some op):x=some op/\Jd op=true:=by
 cases x with
 |none=>simp[JU]at h
 |some i=>
  simp only[JU]at h;cases hb:Jd i with
  |true=>rw[hb]at h;simp at h;subst h;exact⟨rfl,hb⟩
  |false=>rw[hb]at h;simp at h
def LM{x:Op}{op:IOp}(h:cOp P x=some op):
  (vv P x=some op/\Jd op=true)\/∃c,x=.call c/\
   ((∃f l,c.callee=.value (.func f)/\op=.call f l/\Yj c.args.toList=some l)\/∃y y' l,c.callee=.value y/\op=.cv y' l/\vP y=some y'/\Yj c.args.toList=some l):=by
 by_cases hx:∃c,x=.call c
 .obtain⟨c,rfl⟩:=hx;simp only[cOp,zya]at h;split at h
  .rename_i f hcal
   split at h
   .cases h
   .rename_i fn _
    cases hb:fn.body.isSome with
    |true=>
     rw[hb]at h;simp only[wy]at h;obtain⟨y,hy,he⟩:=Option.map_eq_some_iff.1 h;exact .inr ⟨c,rfl,.inl ⟨f,y,hcal,he.symm,hy⟩⟩
    |false=>rw[hb]at h;simp only[wK]at h;exact .inl (Vi h)
  .rename_i y _ hcal
   split at h
   .rename_i y' l q1 q2
    simp only[wB]at h;exact .inr ⟨c,rfl,.inr ⟨y,y',l,hcal,h.symm,q1,q2⟩⟩
   .cases h
  .exact .inl (Vi h)
 .have:cOp P x=JU (vv P x):=by
   cases x<;>first|rfl|exact absurd ⟨_,rfl⟩ hx
  rw[this]at h;exact .inl (Vi h)
def PT{op:IOp}(hc:cOp P o.op=some op):∀c,o.op≠.defer c:=λc h=>by rw[h]at hc;simp[cOp,JU,vv]at hc
def Xo{f:Nat}{fn:Func}{xs:zr}(h:P.funcs[f]? =some fn)(hb:fn.body.isSome=true)(hn:(fn.name== "runtime.NumGoroutine")=false):(callFunc f xs).run P w=.ok (.enter f xs) w:=by
 have hb':fn.body.isNone=false:=by cases hh:fn.body<;>simp[hh]at hb|-
 simp only[callFunc,Sem.run_bind,run_program,Result.andThen_ok,h,hn,hb',Bool.false_eq_true,if_false,Sem.run_pure]
def fL(l:Array Operand)(f:Operand->Value):(l.toList.map f).toArray=l.map f:=by apply xi;simp
def GG(hS:SelfOk P X S)(hG:qm E.globs X){op:IOp}(hc:cOp P o.op=some op)(h:vU E S op A s=some (v,s'))
  (r:Rel P X I s.get w) (hwf:Wf s) (hf:Fresh I s s') (ht:TmOn I (Opd.tmps op.opds) A a) (hF:Wide F) {next:Act->World->Prop} {Q:Exit->Act->World->Prop}
  (hn:∀I' x w',Step P X I s w I' s' w'->VR I' v x->next (a.put o.dst x) w'):o.wpIn F n P a w next Q:=by
 have hvac:F.depth.isSome=true->1<=n:=λh=>by rw[hF.depth]at h;cases h
 refine⟨λf _=>hF.fn f,?_⟩;rw[Oper.semAt_eq _ _ _ (PT hc)];have hcall:∀{f args xs},S.call f args s=some (v,s')->VRL I args xs->(∀fn,P.funcs[f]? =some fn->fn.body.isSome=true->(fn.name== "runtime.NumGoroutine")=false->(execOp a.eval o).run P w=.ok (.enter f xs.toArray) w)->o.uponIn F n P a next Q ((execOp a.eval o).run P w):=λ{f args xs} h1 h2 h3=>by
  obtain⟨⟨fn,g1,g2,g3⟩,g4⟩:=hS.call h1;rw[h3 fn g1 g2 g3,Oper.uponIn_enter];refine⟨hvac,CallsIn.mono (g4 r hwf hf h2 F (n-1) hF) ?_⟩
  rintro e w' ⟨I',x,rfl,k2,k3⟩
  exact hn I' x w' k2 k3
 rcases LM hc with ⟨hv,hnc⟩|⟨c,hop,⟨f,l,hcal,rfl,hl⟩|⟨y,y',l,hcal,rfl,hy,hl⟩⟩
 .have hv2:opv E op A s=some (v,s'):=by
   rw[Zm]at h;split at h
   .simp[Jd]at hnc
   .simp[Jd]at hnc
   .exact h
  obtain⟨I',x,w',h1,h2,h3⟩:=Dv hG hv hv2 r hwf (λhlt=>hf _ (zX _)) ht;rcases h1 with h1|⟨h1,rfl⟩
  .rw[h1,Oper.uponIn_value];exact hn I' x w' h2 h3
  .rw[h1,Oper.uponIn_skip];exact hn I' _ w' h2 h3
 .simp only[Zm,eT]at h;split at h
  .rename_i vs hvs
   refine hcall h (gO hl hvs (WL ht (by simp[IOp.opds]))) λfn g1 g2 g3=>?_
   rw[fL];unfold execOp;rw[hop];simp[resolve,hcal,Act.eval,Deferred.ofValue,invoke,Xo g1 g2 g3]
  .cases h
 .simp only[Zm,bB]at h;split at h
  .rename_i vs hvs
   have hargs:=gO (I:=I) (a:=a) hl hvs (WL ht (by simp[IOp.opds];intro x hx;exact .inr hx))
   split at h
   .rename_i f u k hfn
    have hfv:=wM (I:=I) (a:=a) hy hfn (qO ht (by simp[IOp.opds]))
    simp only[VR]at hfv;obtain⟨xs,ys,e1,e2,e3⟩:=hfv;refine hcall h (VRL.append (VRL.append e2 hargs) e3) λfn g1 g2 g3=>?_;have:(xs++c.args.toList.map a.eval++ys).toArray=xs.toArray++c.args.map a.eval++ys.toArray:=by apply xi;simp
    rw[this];unfold execOp;rw[hop];simp only[resolve,hcal,e1,Deferred.ofValue,invoke,Sem.run_bind,Sem.run_pure,Result.andThen_ok];exact Xo g1 g2 g3
   .rename_i lid hfn
    have hfv:=wM (I:=I) (a:=a) hy hfn (qO ht (by simp[IOp.opds]))
    simp only[VR]at hfv;obtain⟨B,hB,e1⟩:=hfv;obtain⟨L,g1,g2,g3⟩:=hS.round h r hwf hf hargs hB;have hrun:(execOp a.eval o).run P w=.ok (.round B.b L.fn ((L.params.zip (c.args.map a.eval)).foldl (λt (p,v)=>t.setIfInBounds p v) L.tmps) L.assign L.body) w:=by
     unfold execOp;rw[hop];simp only[resolve,hcal,e1,Deferred.ofValue,invoke,Sem.run_bind,Sem.run_pure,Result.andThen_ok,Array.empty_append];exact run_yield g1 (by rw[<-g2];simp)
    rw[hrun,Oper.uponIn_round];refine⟨hvac,?_⟩;have:=g3 F (n-1) hF;rw[fL]at this;refine RoundIn.mono this ?_
    rintro e w' ⟨I',x,rfl,k2,k3⟩
    exact hn I' x w' k2 k3
   .cases h
  .cases h
end
def GZ(t:zr)(d i:Nat)(x:Value)(hd:d<t.size):(t.setIfInBounds d x).getD i undef=if i=d then x else t.getD i undef:=by
 simp only[xG,Array.getElem?_setIfInBounds];by_cases h:d=i
 .subst h;simp[hd]
 .rw[wx h,wx (Ne.symm h)]
def TmRel.set{t:zr}(h:TmRel I A t){d:Nat}(hd:d<t.size){x:Value}(hv:VR I v x):TmRel I (A.set d v) (t.setIfInBounds d x):=by
 intro i u hu;rw[Trie.get_set]at hu;rw[GZ _ _ _ _ hd];by_cases e:i=d
 .rw[wH e]at hu|-;cases hu;exact hv
 .rw[wx e]at hu|-;exact h i u hu
def zzZ(h:VR I v (.bool b)):v=.bool b:=by
 cases v<;>simp only[VR]at h<;>first
  |(cases h;rfl)
  |(obtain⟨_,⟨_,_,h⟩|⟨_,_,_,_,h,_⟩⟩:=h<;>(cases h;done))
  |(obtain⟨_,_,_,_,_,_,_,h,_⟩:=h;cases h;done)
  |(obtain⟨_,_,_,_,h,_⟩:=h;cases h;done)
  |(cases h;done)
  |(obtain⟨_,h,_⟩:=h;cases h;done)
  |(obtain⟨_,_,h⟩:=h;cases h;done)
  |(obtain⟨_,_,_,h,_⟩:=h;cases h;done)
  |(obtain⟨_,_,h,_⟩:=h;cases h;done)
section
variable {P:Program}{X:World}{I:Phi}{s s':U}{w:World}{A tm':zB}{a:Act}{o:Oper}{v:Z}{E:Env}{S:Self}
def G4:Option (Nat×Bool)->zy
 |some (d,_)=>[d]
 |none=>[]
theorem MO(o:SOper):o.names=Opd.tmps o.op.opds++G4 o.guard:=by
 unfold SOper.names G4;cases o.guard<;>rfl
def pp {ops:Array Oper}{g:Option (Nat×Bool)}(hg:K8 ops o.guard=some g)(h:pI g A=some b)(ht:TmOn I (G4 g) A a):Region.wanted o (yielded ops a.tmps)=b:=by
 unfold Region.wanted;cases hog:o.guard with
 |none=>rw[hog]at hg;simp[K8]at hg;subst hg;simp[pI]at h;simp[h]
 | some p=>
  obtain⟨j,wt⟩:=p;rw[hog]at hg;simp only[K8]at hg;split at hg
  .rename_i o' ho'
   split at hg
   .rename_i d hd
    simp only[wB]at hg;subst hg;simp only[pI]at h;have hy:yielded ops a.tmps j=(match a.tmps[d]? with|some (.bool b)=>some b|_=>none):=by unfold yielded;rw[ho'];simp only[Option.bind_some,hd];rfl
    simp only[hy];have hgd:a.tmps.getD d undef=(a.tmps[d]?).getD undef:=by simp[xG]
    split at h
    .rename_i b' hb'
     simp only[wB]at h;have:=ht d (by simp[G4]) _ hb'
     simp only[VR]at this;rw[hgd]at this;cases ht2:a.tmps[d]? with
     |none=>rw[ht2]at this;simp[undef]at this
     |some x=>rw[ht2]at this;simp at this;subst this;simp only;rw[<-h];cases b'<;>cases wt<;>rfl
    .rename_i u hnb hu
     simp only[wB]at h;subst h;have:=ht d (by simp[G4]) _ hu
     rw[hgd]at this;cases ht2:a.tmps[d]? with
     |none=>rfl
     | some x=>
      rw[ht2]at this;simp only[Option.getD_some]at this
      cases x<;>first
       |rfl
       |(exact absurd (zzZ this) (λe=>hnb _ e))
    .cases h
   .cases hg
  .cases hg
def a9{ops:Array Oper}{so:SOper}(h:cS P nt ops o=some so):K8 ops o.guard=some so.guard/\so.op=nj P o.op/\so.dst=o.dst/\∀d,o.dst=some d->d<nt:=by
 unfold cS at h;split at h
 .rename_i op g hop hg
  split at h
  .rename_i d hd
   cases hb:zL d nt with
   |false=>rw[hb]at h;simp at h
   |true=>rw[hb]at h;simp only[wy,wB]at h;subst h;exact⟨hg,rfl,hd.symm,λd' h'=>by rw[hd]at h';cases h';exact qA.1 hb⟩
  .rename_i hd
   simp only[wB]at h;subst h;exact⟨hg,rfl,hd.symm,λd' h'=>by rw[hd]at h';cases h'⟩
 .cases h
def LL{x:Op}{p:Z×U}(h:vU E S (nj P x) A s=some p):∃op,cOp P x=some op/\nj P x=op:=by
 unfold nj at h|-;cases hc:cOp P x with
 |none=>rw[hc]at h;simp[vU,opv]at h
 |some op=>exact⟨op,rfl,by simp⟩
def sG(I':Phi)(nt:Nat)(tm':zB)(a a':Act):Prop:=TmRel I' tm' a'.tmps/\a'.tmps.size=nt/\a'.defers=a.defers
def rL{I':Phi}{dst:zD}{x:Value}(ht:TmRel I' A a.tmps)(hsz:a.tmps.size=nt)(hd:∀d,dst=some d->d<nt)(hv:VR I' v x):sG I' nt (uB A dst v) a (a.put dst x):=by
 cases dst with
 |none=>exact⟨ht,hsz,rfl⟩
 |some d=>exact⟨ht.set (by rw[hsz];exact hd d rfl) hv,by simp[Act.put,hsz],rfl⟩
def i9(hS:SelfOk P X S)(hG:qm E.globs X){ops:Array Oper}{so:SOper}(hc:cS P nt ops o=some so)(h:Zv E S so A s=some (tm',s'))
  (r:Rel P X I s.get w) (hwf:Wf s) (hf:Fresh I s s') (ht:TmRel I A a.tmps) (hsz:a.tmps.size=nt) (hF:Wide F) {next:Act->World->Prop} {Q:Exit->Act->World->Prop}
  (hn:∀I' a' w',Step P X I s w I' s' w'->sG I' nt tm' a a'->next a' w'):
  if Region.wanted o (yielded ops a.tmps)then o.wpIn F n P a w next Q else (∀f,o.about P w a.eval=some f->F.fn f)/\next (a.put o.dst undef) w:=by
 obtain⟨hg,hop,hdst,hlt⟩:=a9 hc;unfold Zv at h;split at h
 .rename_i hw
  rw[pp hg hw (TmOn.of ht),wH rfl];cases he:vU E S so.op A s with
  |none=>rw[he]at h;simp[stS]at h
  |some p=>
   rw[he]at h;simp only[stS,wB,qj]at h;obtain⟨h1,h2⟩:=h;rw[hop]at he;obtain⟨op,hc1,hc2⟩:=LL he;rw[hc2]at he;subst h2;refine GG hS hG hc1 (v:=p.1) (s':=p.2) he r hwf hf (TmOn.of ht) hF λI' x w' k1 k2=>hn I' _ w' k1 ?_;rw[<-h1,hdst];exact rL (ht.mono (k1.sub hf)) hsz hlt k2
 .rename_i hw
  rw[pp hg hw (TmOn.of ht)];simp only[Bool.false_eq_true,if_false];simp only[wB,qj]at h;obtain⟨h1,h2⟩:=h;subst h2;refine⟨λf _=>hF.fn f,hn I _ w (Step.refl r) ?_⟩;rw[<-h1,hdst];exact rL ht hsz hlt (Qt I)
 .cases h
def UZ(hS:SelfOk P X S)(hG:qm E.globs X){nt:Nat}{ops:Array Oper}{F:Fence}(hF:Wide F){n:Nat}{Q:Exit->Act->World->Prop}:
  ∀(rest:List Oper) (k:Nat) {l:List SOper} {A tm':zB} {s s':U} {I:Phi} {w:World} {a:Act},ops.toList.drop k=rest->cSs P nt ops rest=some l->evS E S l A s=some (tm',s')->Rel P X I s.get w->Wf s->Fresh I s s'->TmRel I A a.tmps->a.tmps.size=nt->
  (∀I' a' w',Step P X I s w I' s' w'->sG I' nt tm' a a'->Q .normal a' w')->wpOpsIn F n P ops Q (List.range' k (zR rest)) a w
 |[],k,l,A,tm',s,s',I,w,a,hd,hc,h,r,hwf,hf,ht,hsz,hQ=>by
  simp[cSs]at hc;subst hc;simp only[evS,wB,qj]at h;obtain⟨rfl,rfl⟩:=h;simp only[List.length_nil,List.range'_zero,wpOpsIn];exact hQ I a w (Step.refl r) ⟨ht,hsz,rfl⟩
 | o::rest,k,l,A,tm',s,s',I,w,a,hd,hc,h,r,hwf,hf,ht,hsz,hQ=>by
  simp only[cSs]at hc;split at hc
  .rename_i so l' hso hl'
   simp only[wB]at hc;subst hc;simp only[evS]at h;split at h
   .rename_i p hp
    have hk:ops[k]? =some o:=by rw[<-Array.getElem?_toList];have:=congrArg (λl=>l[0]?) hd;simpa using this
    have hd':ops.toList.drop (k+1)=rest:=by rw[<-List.drop_drop,hd];rfl
    simp only[List.length_cons,List.range'_succ,wpOpsIn,hk];have hn1:=HM hS.mono (tm':=p.1) (s':=p.2) hp;have hn2:=GH hS.mono h;refine i9 hS hG hso (tm':=p.1) (s':=p.2) hp r hwf (hf.left hn2) ht hsz hF λφ1 a1 w1 k1 k2=>?_;refine UZ hS hG hF rest (k+1) hd' hl' h k1.rel (k1.ext.wf hwf) (hf.right hn1 k1.same) k2.1 k2.2.1 λφ2 a2 w2 k3 k4=>?_;exact hQ φ2 a2 w2 (Step.trans hwf k1 k3) ⟨k4.1,k4.2.1,k4.2.2.trans k2.2.2⟩
   .cases h
  .cases hc
end
open Go.RowKit (Below)
structure DrawOk(P:Program)(X:World)(E:Env)(S:Self):Prop where
 ord:∀{Y nt:Nat} {ops:Array Oper} {ds:zt} {A tm':zB} {s s':U} {I:Phi} {w:World} {a:Act} {F:Fence} {n:Nat} {Q:Exit->Act->World->Prop},dO P nt ops=some ds->s.only=none->evD E S ds 0 [] A s=some (tm',s')->Rel P X I s.get w->Wf s->Fresh I s s'->TmRel I A a.tmps->a.tmps.size=nt->Wide F->
  (∀I' a' w',Step P X I s w I' s' w'->sG I' nt tm' a a'->Q .normal a' w')->(Code.region Y ops true).wpIn F n P Q a w
def Uy{d:zD}(h:∀k,d=some k->i≠k):(uB A d v).get i=A.get i:=by
 cases d with
 |none=>rfl
 |some k=>exact Trie.get_set_ne _ _ (h k rfl)
def i7{o:SOper}(h:Zv E S o A s=some (tm',s'))(hi:∀k,o.dst=some k->i≠k):tm'.get i=A.get i:=by
 unfold Zv at h;split at h
 .cases he:vU E S o.op A s with
  |none=>rw[he]at h;simp[stS]at h
  |some p=>rw[he]at h;simp only[stS,wB,qj]at h;rw[<-h.1];exact Uy hi
 .simp only[wB,qj]at h;rw[<-h.1];exact Uy hi
 .cases h
def CF{E:Env}{S:Self}:∀{l:List SOper} {A tm':zB} {s s':U},evS E S l A s=some (tm',s')->∀i,i∉eH l->tm'.get i=A.get i
 |[],A,tm',s,s',h,i,_=>by simp only[evS,wB,qj]at h;rw[h.1]
 | o ::r,A,tm',s,s',h,i,hi=>by
  simp only[evS]at h;split at h
  .rename_i p hp
   have h1:i∉eH r/\∀k,o.dst=some k->i≠k:=by
    simp only[eH]at hi;split at hi
    .rename_i k hk
     refine⟨λhh=>hi (List.mem_cons_of_mem _ hh),λk' hk'=>?_⟩;rw[hk]at hk';cases hk';intro e;exact hi (by rw[e];exact List.mem_cons_self)
    .rename_i hk
     exact⟨hi,λk' hk'=>by rw[hk]at hk';cases hk'⟩
   rw[CF h i h1.1];exact i7 (s':=p.2) (tm':=p.1) hp h1.2
  .cases h
def Rel.below{X:World}{G:Nat->zm}(r:Rel P X I G w)(hb:Below w.heap.size w w'):Rel P X I G w':=by
 have hs:=r.base.size;refine⟨⟨hb.os.trans r.base.os,hb.tape.trans r.base.tape,hb.output.trans r.base.output,yb hs hb.size,λk hk=>(hb.block k J).trans (r.base.block k hk)⟩,λY o h=>?_,λY B h=>Nat.lt_of_lt_of_le (r.rng Y B h) hb.size,r.old,r.inj,λb o v hz=>?_,r.sep⟩
 .obtain⟨B,hB,t⟩:=r.obj Y o h;exact⟨B,hB,t.keep (Sub.refl _) (hb.block _ (r.rng Y B hB))⟩
 .obtain⟨c,e,fr,h1,h2⟩:=r.frz b o v hz;exact⟨c,e,fr,(hb.block b (r.zlt hz)).trans h1,h2⟩
def Step.below{X:World}(r:Rel P X I s.get w)(hb:Below w.heap.size w w'):Step P X I s w I s w':=
 ⟨Ext.refl s,r.below hb,λ_ _=>rfl,hb.size,λb hlt _=>hb.block b hlt,λY _ h1 h2=>absurd h2 J,λ_ _ _ h=>h,λ_ _ _ h=>.inl h⟩
section
variable {P:Program}{X:World}{E:Env}{S:Self}
def N1{Q:Exit->Act->World->Prop}(r:Res)(h:Q r.ex a w):r.code.wpIn F n P Q a w:=by
 cases r with
 |norm=>exact wpIn_skip h
 |exit Y=>exact wpIn_exit h
 |ret=>exact wpIn_ret h
def XZ{s2:U}{res:Res}{e:Exit}{a':Act}(hwf:Wf s)(h1:Step P X I s w φ1 s1 w1)(h2:Jv P X φ1 nt s1 w1 res fr' s2 e a' w'):Jv P X I nt s w res fr' s2 e a' w':=by
 obtain⟨I',e1,k1,k2⟩:=h2;exact⟨I',e1,Step.trans hwf h1 k1,k2⟩
def Vw{res1 res:Res}{fr1:Fr}{k:Fr->U->zj}{K:Act->World->Prop}(_hwf:Wf s)(hf:Fresh I s s')(hs1:s.next<=s1.next)(h:ge k (some (res1,fr1,s1))=some (res,fr',s'))
  (hK:∀φ1 a1 w1,k fr1 s1=some (res,fr',s')->Step P X I s w φ1 s1 w1->FrRel φ1 nt fr1 a1->Fresh φ1 s1 s'->K a1 w1):
  ∀e a1 w1,Jv P X I nt s w res1 fr1 s1 e a1 w1->Exit.then K (Jv P X I nt s w res fr' s') e a1 w1:=by
 rintro e a1 w1 ⟨φ1,rfl,k1,k2⟩
 simp only[ge]at h;cases res1 with
 |norm=>
  simp only at h;exact hK φ1 a1 w1 h k1 k2 (hf.right hs1 k1.same)
 |exit Y=>simp only[wB,qj]at h;obtain⟨rfl,rfl,rfl⟩:=h;exact⟨φ1,rfl,k1,k2⟩
 |ret=>simp only[wB,qj]at h;obtain⟨rfl,rfl,rfl⟩:=h;exact⟨φ1,rfl,k1,k2⟩
def zyF{ps:Array Nat}(h:ps.toList.all (Nat.blt · nt)=true):∀q∈ps.toList,q<nt:=by
 intro q hq;rw[List.all_eq_true]at h;exact qA.1 (h q hq)
def N2 (hS:SelfOk P X S)(hF:Wide F){g:Operand}{g':Opd}{ps:Array Tmp}{asg body:Code}{ia ib:ICode}{rd:zD}{res:Res}
  (hg:vP g=some g') (ha:cC P nt asg=some ia) (hb:cC P nt body=some ib) (hps:ps.toList.all (zL · nt)=true) (h:rfR S rd (g'.ev fr.A) ps.toList ia ib fr s=some (res,fr',s'))
  (r:Rel P X I s.get w) (hwf:Wf s) (hf:Fresh I s s') (hfr:FrRel I nt fr a) (hrd:rd=none->F.round=none):(Code.rangeFunc g ps asg body).wpIn F n P (Jv P X I nt s w res fr' s') a w:=by
 unfold rfR at h;split at h
 .have hro:=hrd rfl;split at h
  .rename_i f u k hfn
   cases he:S.call f (u++ .yld (Nat.succ s.next)::k) ((s.alloc .dfd).alloc (.loop .ready none fr.A ps.toList ia ib s.next))with
   |none=>rw[he]at h;simp[ZV]at h
   | some p=>
    have hnx:=hS.mono.call _ _ _ p.1 p.2 he;rw[j9,j9]at hnx;have hs':p.2.next=s'.next:=by
     rw[he]at h;simp only[ZV]at h;split at h
     .split at h
      .cases h
      .cases h;rfl
     .cases h
    have hfv:=wM (I:=I) (a:=a) hg hfn (TmOn.of hfr.A);simp only[VR]at hfv;obtain⟨xs,ys,e1,e2,e3⟩:=hfv;have hf1:I s.next=none:=hf _ (zX _)
    have hf2:I (s.next+1)=none:=hf _ J
    refine wpIn_rangeFunc λfn _=>?_;rw[hro];obtain⟨L,hL⟩:∃L:Loop,L={state:=.ready,pending:=none,fn:=fn,tmps:=a.tmps,params:=ps,assign:=asg,body:=body,defers:=w.heap.size}:=⟨_,rfl⟩;obtain⟨W1,hW1⟩:∃W1,W1=w.alloc (.deferred (some [])):=⟨_,rfl⟩;obtain⟨W2,hW2⟩:∃W2,W2=W1.alloc (.loop L):=⟨_,rfl⟩;have hsz1:W1.heap.size=w.heap.size+1:=by rw[hW1];simp
    have st1:Step P X I s w (I.set s.next ⟨w.heap.size,0,0⟩) (s.alloc .dfd) W1:=Step.alloc r hwf hf1 (by rw[hW1];rfl) (by rw[hW1];rfl) (by rw[hW1];rfl) (by rw[hW1];rfl) (by simp only[ObjRel];rw[hW1];exact World.alloc_heap_new _ _)
    have hf2':(I.set s.next ⟨w.heap.size,0,0⟩) (s.alloc .dfd).next=none:=by
     exact(wx (by rw[j9];omega)).trans hf2
    have hsub1:=Phi.set_sub (B:=⟨w.heap.size,0,0⟩) hf1;have hsub2:=Phi.set_sub (B:=⟨W1.heap.size,0,0⟩) hf2';have st2:Step P X (I.set s.next ⟨w.heap.size,0,0⟩) (s.alloc .dfd) W1 ((I.set s.next ⟨w.heap.size,0,0⟩).set (s.alloc .dfd).next ⟨W1.heap.size,0,0⟩) ((s.alloc .dfd).alloc (.loop .ready none fr.A ps.toList ia ib s.next)) W2:=by
     refine Step.alloc st1.rel (st1.ext.wf hwf) hf2' (by rw[hW2];rfl) (by rw[hW2];rfl) (by rw[hW2];rfl) (by rw[hW2];rfl) ⟨L,by rw[hW2];exact World.alloc_heap_new _ _,?_⟩
     rw[hL];refine⟨rfl,rfl,by simp,by simp only;rw[hfr.size];exact ha,by simp only;rw[hfr.size];exact hb,hfr.A.mono (hsub1.trans hsub2),⟨⟨w.heap.size,0,0⟩,hsub2 _ _ (by simp[Phi.set]),rfl⟩,?_⟩
     intro q hq;simp only;rw[hfr.size];exact zyF hps q hq
    have st:=Step.trans hwf st1 st2;obtain⟨⟨fd,g1,g2,g3⟩,g4⟩:=hS.call he;obtain⟨φ2,hφ2⟩:∃φ2,φ2=(I.set s.next ⟨w.heap.size,0,0⟩).set (s.alloc .dfd).next ⟨W1.heap.size,0,0⟩:=⟨_,rfl⟩
    rw[<-hφ2]at st;have hyl:φ2 (Nat.succ s.next)=some ⟨W1.heap.size,0,0⟩:=by rw[hφ2];simp[Phi.set,j9]
    have hdl:φ2 s.next=some ⟨w.heap.size,0,0⟩:=by rw[hφ2];simp[Phi.set,j9]
    have hfr2:Fresh φ2 ((s.alloc .dfd).alloc (.loop .ready none fr.A ps.toList ia ib s.next)) p.2:=hf.right (s1:=(s.alloc .dfd).alloc (.loop .ready none fr.A ps.toList ia ib s.next)) (by rw[j9,j9];omega) st.same
    have hsub:Sub I φ2:=st.sub hf;have hargs:VRL φ2 (u++ .yld (Nat.succ s.next)::k) (xs++(.func (.yield W1.heap.size) #[] #[])::ys):=VRL.append (VRL.mono hsub _ _ e2) (VRL.cons (by simp only[VR];exact⟨_,hyl,rfl⟩) (VRL.mono hsub _ _ e3))
    refine⟨W1.heap.size,[{target:=.collected w.heap.size,args:=#[]}],W2,{target:=.fn (.func f) ys.toArray,args:=xs.toArray++#[.func (.yield W1.heap.size) #[] #[]]},W2,f,(xs++(.func (.yield W1.heap.size) #[] #[])::ys).toArray,W2,?_,?_,λf' _=>hF.fn f',?_,λh=>(by rw[hF.depth]at h;cases h),?_⟩
    .rw[run_enterLoop_outer,hW2,hW1,hL];simp
    .simp only[resolve,e1,Deferred.ofValue,Sem.run_pure,List.map_toArray,List.map_cons,List.map_nil];rfl
    .simp only[invoke];have:xs.toArray++#[.func (.yield W1.heap.size) #[] #[]]++ys.toArray=(xs++(.func (.yield W1.heap.size) #[] #[])::ys).toArray:=by apply xi;simp
     rw[this];exact Xo g1 g2 g3
    .refine CallsIn.mono (g4 st.rel (st.ext.wf hwf) hfr2 hargs F (n-1) hF) ?_
     rintro e w3 ⟨φ3,x,rfl,k1,k2⟩
     rw[he]at h;simp only[ZV]at h;split at h
     .rename_i lst pend ltm lps lasg lbody ldd hgl
      have hsub3:=k1.sub hfr2;obtain⟨B3,hB3,L3,hh3,hl3⟩:=k1.rel.obj _ _ hgl;rw[hsub3 _ _ hyl]at hB3;cases hB3;simp only at hh3;have hnb:L3.state≠.busy:=by
       rw[hl3.state];intro hbz;cases lst<;>simp[LSt.conc]at hbz
       simp at h
      have hend:=run_endLoop (P:=P) hh3 hnb;have hres:(res,fr',s')=(iC pend,{fr with df:=s.next::fr.df},p.2.put (Nat.succ s.next) (.loop .exhausted pend ltm lps lasg lbody ldd)):=by
       cases lst<;>simp only[wB]at h<;>first|exact h.symm|(cases h;done)
      simp only[qj]at hres;obtain⟨hr1,hr2,hr3⟩:=hres;subst hr1;subst hr2;subst hr3;have st3:Step P X φ3 p.2 w3 φ3 (p.2.put (Nat.succ s.next) (.loop .exhausted pend ltm lps lasg lbody ldd)) (w3.putObj W1.heap.size (.loop {L3 with state:=.exhausted})):=
       Step.setObj k1.rel hgl (hsub3 _ _ hyl) hh3 (x':=.loop {L3 with state:=.exhausted}) ⟨_,Zu hh3,⟨rfl,hl3.pend,hl3.params,hl3.asg,hl3.body,hl3.A,hl3.df,hl3.ps⟩⟩
      have stF:=Step.trans hwf (Step.trans hwf st k1) st3;have hsubF:Sub I φ3:=hsub.trans hsub3;have hfrF:FrRel φ3 nt {fr with df:=s.next::fr.df} {a with defers:=[{target:=.collected w.heap.size,args:=#[]}]++a.defers}:=
       ⟨hfr.A.mono hsubF,hfr.size,⟨⟨w.heap.size,0,0⟩,a.defers,hsub3 _ _ hdl,rfl,hfr.df.mono hsubF⟩⟩
      refine⟨L3.pending,_,hend,?_⟩;have hpend:=hl3.pend;generalize L3.pending=q at hpend stF|-;subst hpend;cases pend with
      |none=>exact⟨φ3,rfl,stF,hfrF⟩
      |some r0=>exact N1 r0 ⟨φ3,rfl,stF,hfrF⟩
     .cases h
  .cases h
 .cases h
def jK(hS:SelfOk P X S)(hG:qm E.globs X)(hD:DrawOk P X E S){F:Fence}{n nt:Nat}(hF:Wide F){rd:zD}(hrd:rd=none->F.round=none):
  ∀(c:Code) {ic:ICode} {fr fr':Fr} {s s':U} {res:Res} {I:Phi} {w:World} {a:Act},cC P nt c=some ic->evC E S rd ic fr s=some (res,fr',s')->Rel P X I s.get w->Wf s->Fresh I s s'->FrRel I nt fr a->
   c.wpIn F n P (Jv P X I nt s w res fr' s') a w
 |.skip,ic,fr,fr',s,s',res,I,w,a,hc,h,r,hwf,hf,hfr=>by
  simp only[cC,wB]at hc;subst hc;simp only[evC,wB,qj]at h;obtain⟨rfl,rfl,rfl⟩:=h;exact wpIn_skip ⟨I,rfl,Step.refl r,hfr⟩
 |.exit Y,ic,fr,fr',s,s',res,I,w,a,hc,h,r,hwf,hf,hfr=>by
  simp only[cC,wB]at hc;subst hc;simp only[evC,wB,qj]at h;obtain⟨rfl,rfl,rfl⟩:=h;exact wpIn_exit ⟨I,rfl,Step.refl r,hfr⟩
 |.ret,ic,fr,fr',s,s',res,I,w,a,hc,h,r,hwf,hf,hfr=>by
  simp only[cC,wB]at hc;subst hc;simp only[evC,wB,qj]at h;obtain⟨rfl,rfl,rfl⟩:=h;exact wpIn_ret ⟨I,rfl,Step.refl r,hfr⟩
 | .region Y ops false,ic,fr,fr',s,s',res,I,w,a,hc,h,r,hwf,hf,hfr=>by
  simp only[cC]at hc;obtain⟨l,hl,rfl⟩:=Option.map_eq_some_iff.1 hc;simp only[evC]at h;cases he:evS E S l fr.A s with
  |none=>rw[he]at h;simp[kN]at h
  | some p=>
   rw[he]at h;simp only[kN,wB,qj]at h;obtain⟨rfl,rfl,rfl⟩:=h;apply wpIn_region;rw[List.range_eq_range',<-Array.length_toList];exact UZ hS hG hF ops.toList 0 (by simp) hl (tm':=p.1) (s':=p.2) he r hwf hf hfr.A hfr.size λI' a' w' k1 k2=>
    ⟨I',rfl,k1,⟨k2.1,k2.2.1,by rw[k2.2.2];exact hfr.df.mono (k1.sub hf)⟩⟩
 | .region Y ops true,ic,fr,fr',s,s',res,I,w,a,hc,h,r,hwf,hf,hfr=>by
  simp only[cC]at hc;obtain⟨l,hl,rfl⟩:=Option.map_eq_some_iff.1 hc;simp only[evC,JY]at h;split at h
  case h_2=>cases h
  rename_i hon
  cases he:evD E S l 0 [] fr.A s with
  |none=>rw[he]at h;simp[kN]at h
  | some p=>
   rw[he]at h;simp only[kN,wB,qj]at h;obtain⟨rfl,rfl,rfl⟩:=h;exact hD.ord hl hon (tm':=p.1) (s':=p.2) he r hwf hf hfr.A hfr.size hF λI' a' w' k1 k2=>
    ⟨I',rfl,k1,⟨k2.1,k2.2.1,by rw[k2.2.2];exact hfr.df.mono (k1.sub hf)⟩⟩
 | .seq x y,ic,fr,fr',s,s',res,I,w,a,hc,h,r,hwf,hf,hfr=>by
  simp only[cC]at hc;split at hc
  .rename_i ix iy hx hy
   simp only[wB]at hc;subst hc;simp only[evC]at h;cases he:evC E S rd ix fr s with
   |none=>rw[he]at h;simp[ge]at h
   |some p=>
    obtain⟨res1,fr1,s1⟩:=p;rw[he]at h;have hn1:=uI hS.mono he;have hn2:s1.next<=s'.next:=Zx (x:=some (res1,fr1,s1)) (λp hp=>by cases hp;exact zX _) (λ_ _ _ _ _ h=>uI hS.mono h) h
    refine wpIn_seq (wpIn_mono (jK hS hG hD hF hrd x hx he r hwf (hf.left hn2) hfr) (Vw hwf hf hn1 h λφ1 a1 w1 hk k1 k2 k3=>?_));exact wpIn_mono (jK hS hG hD hF hrd y hy hk k1.rel (k1.ext.wf hwf) k3 k2) λe a2 w2 q=>XZ hwf k1 q
  .cases hc
 | .cond b x y,ic,fr,fr',s,s',res,I,w,a,hc,h,r,hwf,hf,hfr=>by
  simp only[cC]at hc;split at hc
  .rename_i ib ix iy hb hx hy
   simp only[wB]at hc;subst hc;simp only[evC,JN]at h;split at h
   .rename_i hbv
    have:=wM (I:=I) (a:=a) hb hbv (TmOn.of hfr.A);simp only[VR]at this;exact wpIn_cond_true this (jK hS hG hD hF hrd x hx h r hwf hf hfr)
   .rename_i hbv
    have:=wM (I:=I) (a:=a) hb hbv (TmOn.of hfr.A);simp only[VR]at this;exact wpIn_cond_false this (jK hS hG hD hF hrd y hy h r hwf hf hfr)
   .cases h
  .cases hc
 | .block Y b,ic,fr,fr',s,s',res,I,w,a,hc,h,r,hwf,hf,hfr=>by
  simp only[cC]at hc;obtain⟨ib,hb,rfl⟩:=Option.map_eq_some_iff.1 hc;simp only[evC]at h;cases he:evC E S rd ib fr s with
  |none=>rw[he]at h;simp[lP]at h
  | some p=>
   obtain⟨res1,fr1,s1⟩:=p;rw[he]at h;simp only[lP]at h;have hsame:s1=s'/\fr1=fr'/\(∀i,res1=.exit i->if i=Y then res=.norm else res=.exit i)/\((∀i,res1≠.exit i)->res=res1):=by
    cases res1 with
    |norm=>simp only[wB,qj]at h;obtain⟨rfl,rfl,rfl⟩:=h;exact⟨rfl,rfl,(λi hi=>by cases hi),λ_=>rfl⟩
    |ret=>simp only[wB,qj]at h;obtain⟨rfl,rfl,rfl⟩:=h;exact⟨rfl,rfl,(λi hi=>by cases hi),λ_=>rfl⟩
    | exit i=>
     simp only at h;cases hb2:zI i Y with
     |true=>
      rw[hb2]at h;simp only[wy,wB,qj]at h;obtain⟨rfl,rfl,rfl⟩:=h;refine⟨rfl,rfl,λj hj=>?_,λhne=>absurd rfl (hne i)⟩;cases hj;rw[wH (ql.1 hb2)]
     |false=>
      rw[hb2]at h;simp only[wK,wB,qj]at h;obtain⟨rfl,rfl,rfl⟩:=h;refine⟨rfl,rfl,λj hj=>?_,λ_=>rfl⟩;cases hj;rw[wx (λe=>by rw[ql.2 e]at hb2;cases hb2)]
   obtain⟨rfl,rfl,h1,h2⟩:=hsame;refine wpIn_block (wpIn_mono (jK hS hG hD hF hrd b hb he r hwf hf hfr) ?_)
   rintro e a1 w1 ⟨φ1,rfl,k1,k2⟩
   cases res1 with
   |norm=>exact⟨φ1,by rw[h2 (by intro i hi;cases hi)],k1,k2⟩
   |ret=>exact⟨φ1,by rw[h2 (by intro i hi;cases hi)],k1,k2⟩
   |exit i=>
    have:=h1 i rfl;simp only[Res.ex,Exit.inBlock];by_cases hii:i=Y
    .rw[wH hii]at this|-;exact⟨φ1,by rw[this];rfl,k1,k2⟩
    .rw[wx hii]at this|-;exact⟨φ1,by rw[this];rfl,k1,k2⟩
 | .loop b,ic,fr,fr',s,s',res,I,w,a,hc,h,r,hwf,hf,hfr=>by
  simp only[cC]at hc;obtain⟨ib,hb,rfl⟩:=Option.map_eq_some_iff.1 hc;simp only[evC]at h;cases he:evC E S rd ib fr s with
  |none=>rw[he]at h;simp[ge]at h
  |some p=>
   obtain⟨res1,fr1,s1⟩:=p;rw[he]at h;have hn1:=uI hS.mono he;have hn2:s1.next<=s'.next:=Zx (x:=some (res1,fr1,s1)) (λp hp=>by cases hp;exact zX _) (λ_ _ _ _ _ h=>hS.mono.loop _ _ _ _ _ _ _ h) h
   refine WO (Wo (wpIn_mono (jK hS hG hD hF hrd b hb he r hwf (hf.left hn2) hfr) (Vw hwf hf hn1 h λφ1 a1 w1 hk k1 k2 k3=>?_)));exact LoopIn.mono (hS.loop hk hb k1.rel (k1.ext.wf hwf) k3 k2 F n hF hrd) λe a2 w2 q=>XZ hwf k1 q
 | .rangeFunc g ps x y,ic,fr,fr',s,s',res,I,w,a,hc,h,r,hwf,hf,hfr=>by
  simp only[cC]at hc;split at hc
  .rename_i g' ia ib hg ha hb
   cases hps:ps.toList.all (zL · nt)with
   |false=>rw[hps]at hc;simp at hc
   |true=>
    rw[hps]at hc;simp only[wy,wB]at hc;subst hc;simp only[evC]at h;exact N2 hS hF hg ha hb hps h r hwf hf hfr hrd
  .cases hc
 |.scope b,ic,fr,fr',s,s',res,I,w,a,hc,h,r,hwf,hf,hfr=>by simp only[cC,wB]at hc;subst hc;simp[evC]at h
 |.label l,ic,fr,fr',s,s',res,I,w,a,hc,h,r,hwf,hf,hfr=>by simp only[cC,wB]at hc;subst hc;simp[evC]at h
 |.goto l,ic,fr,fr',s,s',res,I,w,a,hc,h,r,hwf,hf,hfr=>by simp only[cC,wB]at hc;subst hc;simp[evC]at h
 |.refuse l,ic,fr,fr',s,s',res,I,w,a,hc,h,r,hwf,hf,hfr=>by simp only[cC,wB]at hc;subst hc;simp[evC]at h
end
def pf(P:Program)(E:Env):Prop:=∀f F,E.funs.get f=some F->∃fn,P.funcs[f]? =some fn/\dN P fn=some F
def J0:∀(l:zA) (A:zB) (i j:Nat) (v:Z),(qG A i l).get j=some v->(i<=j/\l[j-i]? =some v)\/(A.get j=some v/\(j<i\/i+zR l<=j))
 |[],A,i,j,v,h=>by simp only[qG]at h;exact .inr ⟨h,by simp;omega⟩
 | u::r,A,i,j,v,h=>by
  simp only[qG]at h;rcases J0 r _ _ j v h with ⟨h1,h2⟩|⟨h1,h2⟩
  .left
   have h1':i+1<=j:=h1;refine⟨J,?_⟩;have:j-i=(j-(i+1))+1:=J;rw[this,List.getElem?_cons_succ];exact h2
  .rw[Trie.get_set]at h1;by_cases e:j=i
   .rw[wH e]at h1;cases h1;left;subst e;exact⟨zX _,by simp⟩
   .rw[wx e]at h1;have h2':j<i+1\/i+1+r.length<=j:=h2
    right;exact⟨h1,by simp;omega⟩
def WI{args:zA}(h:VRL I args xs)(k:Nat):TmRel I (qG .leaf 0 args) (xs.toArray++Array.replicate k undef):=by
 intro j v hv;rcases J0 args .leaf 0 j v hv with ⟨_,h1⟩|⟨h1,_⟩
 .obtain⟨y,hy,hvr⟩:=h.get h1;simp only[Nat.sub_zero]at hy;have hlt:j<zR xs:=by
   by_cases hl:j<zR xs
   .exact hl
   .rw[List.getElem?_eq_none J]at hy;cases hy
  have:(xs.toArray++xJ k undef).getD j undef=y:=by
   rw[xG,Array.getElem?_append_left (by simpa using hlt)]
   simp[hy]
  rw[this];exact hvr
 .simp[Trie.get]at h1
section
variable {P:Program}{X:World}{E:Env}{S:Self}
def Xn(hG:qm E.globs X){I:Phi}{s:U}{w:World}(r:Rel P X I s.get w){A:zB}{tmps:zr}(ht:TmRel I A tmps){f:ResultVar->Sem Value}(f1:∀t,f (.tmp t)=pure (tmps.getD t undef))(f2:∀a t ad,tmps.getD a undef=.pointer (some ad)->f (.cell a t)=loadVar t ad):
  ∀{rs:List ResultVar} {l:List RV} {vs:zA},a8 P rs=some l->lC E.globs A s l=some vs->∃ys,(rs.mapM f).run P w=.ok ys w/\VRL I vs ys
 |[],l,vs,hc,h=>by simp[a8]at hc;subst hc;simp[lC]at h;subst h;exact⟨[],by simp,VRL.nil I⟩
 | .tmp t::rs,l,vs,hc,h=>by
  simp only[a8]at hc;obtain⟨l',hl',rfl⟩:=Option.map_eq_some_iff.1 hc;simp only[lC]at h;split at h
  .rename_i v vs' h1 h2
   simp only[wB]at h;subst h;obtain⟨ys,k1,k2⟩:=Xn hG r ht f1 f2 hl' h2;exact⟨tmps.getD t undef::ys,by simp only[xK,f1,Sem.run_bind,Sem.run_pure,Result.andThen_ok,k1],VRL.cons (ht t v h1) k2⟩
  .cases h
 | .cell a t::rs,l,vs,hc,h=>by
  simp only[a8]at hc;split at hc
  .rename_i n l' q1 q2 q3
   simp only[wB]at hc;subst hc;simp only[lC]at h;split at h
   .rename_i v vs' h1 h2
    simp only[wB]at h;subst h;obtain⟨ys,k1,k2⟩:=Xn hG r ht f1 f2 q3 h2;split at h1
    .rename_i p hp
     split at h1
     .rename_i cs hcs
      simp only[wB]at h1;subst h1;obtain⟨z,z1,z2⟩:=AT (P:=P) (t:=t) r hG q1 q2 (p:=p) (v:=.agg cs) (by simp only[WN,hcs]) (ht a p hp)
      obtain⟨ad,xs,e1,e2,e3,e4⟩:=jv r hG hcs (ht a p hp);have hz:(loadVar t ad).run P w=.ok z w:=by simpa [Instr.loadAt,Instr.sureAddr,e1]using z1
      exact⟨z::ys,by simp only[xK,f2 a t ad e1,Sem.run_bind,Sem.run_pure,Result.andThen_ok,hz,k1],VRL.cons z2 k2⟩
     .cases h1
    .cases h1
   .cases h
  .rename_i l' q1 q3
   simp only[wB]at hc;subst hc;simp only[lC]at h;split at h
   .rename_i v vs' h1 h2
    simp only[wB]at h;subst h;obtain⟨ys,k1,k2⟩:=Xn hG r ht f1 f2 q3 h2;split at h1
    .rename_i p hp
     split at h1
     .rename_i v0 tl hcs
      simp only[wB]at h1;subst h1;obtain⟨z,z1,z2⟩:=Ot (P:=P) (t:=t) r hG q1 (p:=p) (v:=v0) (by simp only[vLd,hcs,Wj]) (ht a p hp)
      obtain⟨ad,xs,e1,e2,e3,e4⟩:=jv r hG hcs (ht a p hp);have hz:(loadVar t ad).run P w=.ok z w:=by simpa [Instr.loadAt,Instr.sureAddr,e1]using z1
      exact⟨z::ys,by simp only[xK,f2 a t ad e1,Sem.run_bind,Sem.run_pure,Result.andThen_ok,hz,k1],VRL.cons z2 k2⟩
     .cases h1
    .cases h1
   .cases h
  .cases hc
def Z9(hG:qm E.globs X)(r:Rel P X I s.get w){tmps:zr}(ht:TmRel I A tmps){fn:Func}{l:List RV}(hc:a8 P fn.results.toList=some l)(h:Vs E.globs A s l=some (v,s')):
  s'=s/\∃x,(results fn tmps).run P w=.ok x w/\VR I v x:=by
 unfold Vs at h;split at h
 .rename_i vs hvs
  simp only[wB,qj]at h;obtain⟨rfl,rfl⟩:=h;refine⟨rfl,?_⟩;have key:∀f:ResultVar->Sem Value,(∀t,f (.tmp t)=pure (tmps.getD t undef))->(∀a t ad,tmps.getD a undef=.pointer (some ad)->f (.cell a t)=loadVar t ad)->∃x,(do let vs <-fn.results.mapM f;pure (if h:vs.size=1 then vs[0]else .tuple vs):Sem Value).run P w=.ok x w/\VR I (jP vs) x:=λf f1 f2=>by
   obtain⟨ys,k1,k2⟩:=Xn hG r ht f1 f2 hc hvs;refine⟨if h:ys.toArray.size=1 then ys.toArray[0]else .tuple ys.toArray,?_,?_⟩
   .rw[Sem.run_bind,Array.mapM_eq_mapM_toList,Sem.run_map,k1];rfl
   .cases vs with
    |nil=>
     simp only[VRL]at k2;subst k2;simp only[jP,VR];exact⟨[],rfl,VRL.nil I⟩
    | cons v0 vs=>
     simp only[VRL]at k2;obtain⟨y,ys',rfl,k3,k4⟩:=k2;cases vs with
     |nil=>simp only[VRL]at k4;subst k4;exact k3
     |cons v1 vs'=>
      simp only[VRL]at k4;obtain⟨y1,ys1,rfl,k5,k6⟩:=k4;simp only[jP];rw[dif_neg (by simp)]
      simp only[VR];exact⟨_,rfl,VRL.cons k3 (VRL.cons k5 k6)⟩
  unfold results;refine key _ ?_ ?_
  .intro t;rfl
  .intro a t ad h;simp only[h];rfl
 .cases h
def Wr{F:Fence}{n:Nat}{fn:Func}{tmps:zr}{R:Ending->World->Prop}:∀{df:zy} {ds:List Deferred} {I:Phi} {s s':U} {w:World},vB s df=some s'->DfRel I df ds->Rel P X I s.get w->Wf s->
  (∀w',Step P X I s w I s' w'->LeavesIn F n P fn tmps R [] .returning w')->LeavesInM F n P fn tmps R ds .returning w
 |[],ds,I,s,s',w,h,hd,r,hwf,hk=>by
  simp only[DfRel]at hd;subst hd;simp only[vB,wB]at h;subst h;exact hk w (Step.refl r)
 | d::df,ds,I,s,s',w,h,hd,r,hwf,hk=>by
  obtain⟨B,ds',hB,rfl,hd'⟩:=hd;simp only[vB]at h;split at h
  .rename_i hg
   obtain⟨B',hB',hh⟩:=r.obj d _ hg;rw[hB]at hB';cases hB';have st:Step P X I s w I (s.put d .dfd0) (w.putObj B.b (.deferred none)):=Step.setObj r hg hB hh (x':=.deferred none) (Zu hh);refine⟨by simp,.inl ⟨B.b,_,rfl,run_takeDeferred hh,?_⟩⟩
   exact Wr h hd' st.rel (st.ext.wf hwf) λw' k=>hk w' (Step.trans hwf st k)
  .cases h
def JC(hS:SelfOk P X S)(hG:qm E.globs X)(hD:DrawOk P X E S){f:Nat}{fn:Func}{c:Code}{ib:ICode}{rs:List RV}{args:zA}(hfn:P.funcs[f]? =some fn)(hbody:fn.body=some c)(hb:cC P fn.ntmps c=some ib)(hrs:a8 P fn.results.toList=some rs)
  (hle0:zR args<=fn.ntmps) (h:XU E S ⟨fn.ntmps,rs,ib⟩ args s=some (v,s')) (r:Rel P X I s.get w) (hwf:Wf s) (hf:Fresh I s s') (hargs:VRL I args xs) (hF:Wide F):
  CallsIn F n P f xs.toArray w (KV P X I s w v s'):=by
 have hle:zR xs<=fn.ntmps:=by rw[<-VRL.length hargs];exact hle0
 unfold XU at h;simp only at h;cases he:evC E S none ib {A:=qG .leaf 0 args,df:=[]} s with
 |none=>rw[he]at h;simp[qJ]at h
 | some p=>
  obtain⟨res,fr',s1⟩:=p;rw[he]at h;simp only[qJ]at h;have hres:∃s2,vB s1 fr'.df=some s2/\Vs E.globs fr'.A s2 rs=some (v,s')/\(res=.norm\/res=.ret):=by
   cases res with
   |exit i=>simp at h
   |norm=>
    simp only at h;split at h
    .rename_i s2 hs2;exact⟨s2,hs2,h,.inl rfl⟩
    .cases h
   |ret=>
    simp only at h;split at h
    .rename_i s2 hs2;exact⟨s2,hs2,h,.inr rfl⟩
    .cases h
  obtain⟨s2,hm,hr,hor⟩:=hres;have hs2:s'=s2:=by
   unfold Vs at hr;split at hr
   .cases hr;rfl
   .cases hr
  have hfr:FrRel I fn.ntmps {A:=qG .leaf 0 args,df:=[]} {tmps:=xs.toArray++xJ (fn.ntmps-xs.toArray.size) undef,defers:=[]}:=
   ⟨WI hargs _,by simp;omega,rfl⟩
  have hFp:Wide F.plain:=⟨hF.fn,hF.depth,hF.alive⟩;have key:CallsIn F.plain n P f xs.toArray w (KV P X I s w v s'):=by
   refine callsIn_of_wp_marks hfn hbody (hF.fn f) (wpIn_mono (jK hS hG hD hFp (λ_=>rfl) c hb he r hwf hf hfr) ?_)
   rintro e a' w' ⟨φ1,rfl,k1,k2⟩
   have hleave:LeavesInM F.plain n P fn a'.tmps (KV P X I s w v s') a'.defers .returning w':=by
    refine Wr hm k2.df k1.rel (k1.ext.wf hwf) λw2 k3=>?_;obtain⟨_,x,k4,k5⟩:=Z9 hG k3.rel k2.A hrs hr;exact⟨x,k4,φ1,x,rfl,hs2▸Step.trans hwf k1 k3,k5⟩
   rcases hor with rfl|rfl
   .exact hleave
   .exact hleave
  exact key
def GQ(hz:∀b o v,I.z b o=some v->φ2.z b o=some v)(hm:∀Y,Y<n0->φ2 Y=I Y){v:Z}{x:Value}(h:XO n0 v=some v')(hx:VR I v x):VR φ2 v' x:=by
 unfold XO at h;split at h
 .rename_i Y e n cs
  cases hb:zM n0 Y with
  |true=>
   rw[hb]at h;simp only[wy,wB]at h;subst h;exact VR.pure hz _ _ rfl hx.gr_lst
  |false=>
   rw[hb]at h;simp only[wK,wB]at h;subst h;have hlt:Y<n0:=by apply Nat.lt_of_not_le;intro hh;rw[qd.2 hh]at hb;cases hb
   simp only[VR]at hx|-;obtain⟨h1,h2,h3,h4,B,ys,h5,h6,h7,h8,h9⟩:=hx;exact⟨h1,h2,h3,h4,B,ys,(hm Y hlt).trans h5,h6,h7,h8.mono hz,VRL.pure hz _ _ h1 h9⟩
 .rename_i Y off
  cases hb:zL Y n0 with
  |false=>rw[hb]at h;simp at h
  |true=>
   rw[hb]at h;simp only[wy,wB]at h;subst h;simp only[VR]at hx|-;obtain⟨B,hB,e⟩:=hx;exact⟨B,(hm Y (qA.1 hb)).trans hB,e⟩
 .rename_i Y off len c
  cases hb:zL Y n0 with
  |false=>rw[hb]at h;simp at h
  |true=>
   rw[hb]at h;simp only[wy,wB]at h;subst h;simp only[VR]at hx|-;obtain⟨B,k,hB,e⟩:=hx;exact⟨B,k,(hm Y (qA.1 hb)).trans hB,e⟩
 .rename_i Y
  cases hb:zL Y n0 with
  |false=>rw[hb]at h;simp at h
  |true=>
   rw[hb]at h;simp only[wy,wB]at h;subst h;simp only[VR]at hx|-;obtain⟨B,hB,e⟩:=hx;exact⟨B,(hm Y (qA.1 hb)).trans hB,e⟩
 .cases hb:qg v with
  |false=>rw[hb]at h;simp at h
  |true=>
   rw[hb]at h;simp only[wy,wB]at h;subst h;exact VR.pure hz _ _ hb hx
def GT{I φ2:Phi}{n0:Nat}(hz:∀b o v,I.z b o=some v->φ2.z b o=some v)(hm:∀Y,Y<n0->φ2 Y=I Y):∀{l l':zA} {xs:zE},V9 n0 l=some l'->VRL I l xs->VRL φ2 l' xs
 |[],l',xs,h,hx=>by simp only[V9,wB]at h;subst h;simp only[VRL]at hx;subst hx;exact VRL.nil φ2
 | v::r,l',xs,h,hx=>by
  simp only[V9]at h;simp only[VRL]at hx;obtain⟨y,ys,rfl,h1,h2⟩:=hx;split at h
  .rename_i v' hv
   split at h
   .rename_i r' hr
    simp only[wB]at h;subst h;exact VRL.cons (GQ hz hm hv h1) (GT hz hm hr h2)
   .cases h
  .cases h
def GR(hz:∀b o v,I.z b o=some v->φ2.z b o=some v)(hm:∀Y,Y<n0->φ2 Y=I Y){v:Z}{x:Value}(h:J9 n0 v=some v')(hx:VR I v x):VR φ2 v' x:=by
 unfold J9 at h;split at h
 .split at h
  .rename_i l hl
   simp only[wB]at h;subst h;simp only[VR]at hx|-;obtain⟨xs,e,h1⟩:=hx;exact⟨xs,e,GT hz hm hl h1⟩
  .cases h
 .exact GQ hz hm h hx
def GU{I φ2:Phi}{n0:Nat}(hz:∀b o v,I.z b o=some v->φ2.z b o=some v)(hm:∀Y,Y<n0->φ2 Y=I Y):∀{l l':zA} {xs:zE},Ua n0 l=some l'->VRL I l xs->VRL φ2 l' xs
 |[],l',xs,h,hx=>by simp only[Ua,wB]at h;subst h;simp only[VRL]at hx;subst hx;exact VRL.nil φ2
 | v::r,l',xs,h,hx=>by
  simp only[Ua]at h;simp only[VRL]at hx;obtain⟨y,ys,rfl,h1,h2⟩:=hx;split at h
  .rename_i v' hv
   split at h
   .rename_i r' hr
    simp only[wB]at h;subst h;exact VRL.cons (GR hz hm hv h1) (GU hz hm hr h2)
   .cases h
  .cases h
def GS(hz:∀b o v,I.z b o=some v->φ2.z b o=some v)(hm:∀Y,Y<n0->φ2 Y=I Y){v:Z}{x:Value}(h:XP n0 v=some v')(hx:VR I v x):VR φ2 v' x:=by
 unfold XP at h;split at h
 .split at h
  .rename_i l hl
   simp only[wB]at h;subst h;simp only[VR]at hx|-;obtain⟨xs,e,h1⟩:=hx;exact⟨xs,e,GU hz hm hl h1⟩
  .cases h
 .exact GR hz hm h hx
def cA{m:Nat}(h:vn m n=0){Y:Nat}(hid:Y<n):m.testBit Y=false:=by
 have h1:(vn m n).testBit Y=false:=by rw[h];exact Nat.zero_testBit Y
 have h2:(m%2^n).testBit Y=false:=h1;rw[Nat.testBit_mod_two_pow]at h2
 simpa [hid]using h2
def Step.pop{t:U}(r:Rel P X I s.get w)(hwf:Wf s)(st:Step P X I {s with wm:=0,md:=true} w φ1 t w1)(hm:vn t.wm s.next=0):
  Step P X I s w (I.zset φ1.z) s w1:=by
 have hbit:∀Y,Y<s.next->t.wm.testBit Y=false:=λY hid=>cA hm hid
 have hold:∀b,b<w.heap.size->w1.heap[b]? =w.heap[b]? :=λb hb=>st.frame b hb λY o B ho _ _=>hbit Y (hwf.lt Y o (qr ho));have hsub:Sub I (I.zset φ1.z):=⟨λ_ _ h=>h,st.zsub⟩;have hkeep:∀Y o,s.get Y=some o->t.get Y=some o:=λY o ho=>by
  have hlt:=hwf.lt Y o (qr ho);have h1:t.objs.get Y=s.objs.get Y:=st.ext.keep Y hlt (hbit Y hlt);have h2:seen t Y=seen s Y:=je st.ext.hide st.ext.only Y;rw[gh,h2,vX ho,h1];exact qr ho
 have hmm:∀Y o,s.get Y=some o->φ1 Y=I Y:=λY o ho=>st.same Y (.inl (hwf.lt Y o (qr ho)));refine⟨Ext.refl s,⟨st.rel.base,?_,?_,r.old,r.inj,st.rel.frz,?_⟩,λ_ _=>rfl,st.size,λb hb _=>hold b hb,λY _ h1 h2=>absurd h2 J,st.zsub,?_⟩
 .intro Y o ho;obtain⟨B,hB,tt⟩:=r.obj Y o ho;exact⟨B,hB,tt.keep hsub (hold _ (r.rng Y B hB))⟩
 .intro Y B hB;have:B.b<w.heap.size:=r.rng Y B hB;have:=st.size;omega
 .intro Y o B ho hB;exact st.rel.sep Y o B (hkeep Y o ho) ((hmm Y o ho).trans hB)
 .intro b i v hv;rcases st.zown b i v hv with h1|h1|⟨id0,o0,B0,g0,p0,e0,m0⟩
  .exact .inl h1
  .exact .inr (.inl h1)
  .rw[hbit id0 (hwf.lt id0 o0 (qr g0))]at m0;cases m0
def Step.unsub{t:U}(st:Step P X I {s with wm:=0,md:=b} w φ1 t w1):Step P X I s w φ1 {t with wm:=xI s.wm t.wm,md:=c} w1:=by
 have hb:∀{Y:Nat},t.wm.testBit Y=true->(xI s.wm t.wm).testBit Y=true:=λ{Y} h=>by
  show (s.wm|||t.wm).testBit Y=true
  rw[xF,h,Bool.or_true]
 refine⟨st.ext.sub,st.rel,st.same,st.size,λb hb' H=>st.frame b hb' λY o B ho hB e=>?_,λY B h1 h2 hB=>?_,st.zsub,λb i v hv=>?_⟩
 .cases hx:t.wm.testBit Y with
  |false=>rfl
  |true=>have h9:=H Y o B ho hB e;have h8:(xI s.wm t.wm).testBit Y=false:=h9;rw[hb hx]at h8;cases h8
 .rcases st.own Y B h1 h2 hB with h3|⟨id0,o0,B0,g0,p0,e0,m0⟩
  .exact .inl h3
  .exact .inr ⟨id0,o0,B0,g0,p0,e0,hb m0⟩
 .rcases st.zown b i v hv with h1|h1|⟨id0,o0,B0,g0,p0,e0,m0⟩
  .exact .inl h1
  .exact .inr (.inl h1)
  .exact .inr (.inr ⟨id0,o0,B0,g0,p0,e0,hb m0⟩)
def Step.unmd{t:U}(st:Step P X I {s with md:=b} w φ1 t w1):Step P X I s w φ1 {t with md:=c} w1:=
 ⟨st.ext.remd,st.rel,st.same,st.size,st.frame,st.own,st.zsub,st.zown⟩
def Db{x:Value}(h:VR I v x):VR I (grW v) x:=by
 cases v<;>first|exact h|exact VR.gr_lst h
def Ve{I:Phi}:∀{l:zA} {xs:zE},VRL I l xs->VRL I (Tl l) xs
 |[],_,h=>h
 |v::r,_,h=>by
  simp only[VRL]at h;obtain⟨y,ys,rfl,h1,h2⟩:=h;exact VRL.cons (Db h1) (Ve h2)
def mM{x:Value}(h:VR I v x):VR I (zyD v) x:=by
 cases v<;>first|exact h|skip
 simp only[VR,zyD]at h|-;obtain⟨xs,rfl,h⟩:=h;exact⟨xs,rfl,Ve h⟩
def KZ{I:Phi}:∀{l:zA} {xs:zE},VRL I l xs->VRL I (zyE l) xs
 |[],_,h=>h
 |v::r,_,h=>by
  simp only[VRL]at h;obtain⟨y,ys,rfl,h1,h2⟩:=h;exact VRL.cons (mM h1) (KZ h2)
def Bf{x:Value}(h:VR I v x):VR I (agW v) x:=by
 cases v<;>first|exact h|skip
 .simp only[VR,agW]at h|-;obtain⟨xs,rfl,h⟩:=h;exact⟨xs,rfl,Ve h⟩
 .simp only[VR,agW]at h|-;obtain⟨xs,rfl,h⟩:=h;exact⟨xs,rfl,KZ h⟩
def XW(hS:SelfOk P X S)(hG:qm E.globs X)(hE:pf P E)(hD:DrawOk P X E S){f:Nat}{args:zA}(h:jp E S f args s=some (v,s')):
  (∃fn,P.funcs[f]? =some fn/\fn.body.isSome=true/\(fn.name== "runtime.NumGoroutine")=false)/\
  ∀{I:Phi} {w:World} {xs:zE},Rel P X I s.get w->Wf s->Fresh I s s'->VRL I args xs->∀F n,Wide F->CallsIn F n P f xs.toArray w (KV P X I s w v s'):=by
 obtain⟨IF,hIF,hle,hway⟩:=UK h;obtain⟨fn,hfn,hcf⟩:=hE f IF hIF;unfold dN at hcf;split at hcf
 .cases hcf
 .rename_i c hbody
  split at hcf
  .rename_i ib rs hb hrs
   cases hnm:(fn.name != "runtime.NumGoroutine")with
   |false=>rw[hnm]at hcf;simp at hcf
   | true=>
    rw[hnm]at hcf;simp only[wy,wB]at hcf;subst hcf;have hnm':(fn.name== "runtime.NumGoroutine")=false:=by simpa [bne]using hnm
    refine⟨⟨fn,hfn,by rw[hbody];rfl,hnm'⟩,?_⟩
    intro I w xs r hwf hf hargs F n hF;rcases hway with ⟨u,t,hbd,hway⟩|⟨t,hbd,rfl⟩
    .have hc:=JC (P:=P) (s':=t) hS hG hD hfn hbody hb hrs hle hbd r ⟨hwf.lt,hwf.hd⟩ hf hargs (n:=n) hF;refine CallsIn.mono hc ?_
     rintro e w1 ⟨φ1,x,rfl,k1,k2⟩
     rcases hway with ⟨hm,hfz,rfl⟩|⟨rfl,rfl⟩
     .exact⟨I.zset φ1.z,x,rfl,Step.pop r hwf k1 hm,GS (I:=φ1) (φ2:=I.zset φ1.z) (λ_ _ _ h=>h) (λY hid=>(k1.same Y (.inl hid)).symm) hfz k2⟩
     .exact⟨φ1,x,rfl,Step.unsub k1,Bf k2⟩
    .have hc:=JC (P:=P) (s':=t) hS hG hD hfn hbody hb hrs hle hbd r ⟨hwf.lt,hwf.hd⟩ hf hargs (n:=n) hF;refine CallsIn.mono hc ?_
     rintro e w1 ⟨φ1,x,rfl,k1,k2⟩
     exact⟨φ1,x,rfl,Step.unmd k1,k2⟩
  .cases hcf
def aq{I:Phi}:∀{ps:zy} {args:zA} {xs:zE} {A tm1:zB} {t:zr},ZX A ps args=some tm1->VRL I args xs->TmRel I A t->(∀p∈ps,p<t.size)->
  (zR xs)=zR ps/\TmRel I tm1 ((ps.zip xs).foldl (λt p=>t.setIfInBounds p.1 p.2) t)/\((ps.zip xs).foldl (λt p=>t.setIfInBounds p.1 p.2) t).size=t.size
 |[],[],xs,A,tm1,t,h,hx,ht,hp=>by
  simp only[VRL]at hx;subst hx;simp only[ZX,wB]at h;subst h;exact⟨rfl,ht,rfl⟩
 |p::ps,v::vs,xs,A,tm1,t,h,hx,ht,hp=>by
  simp only[VRL]at hx;obtain⟨y,ys,rfl,h1,h2⟩:=hx;simp only[ZX]at h;obtain⟨k1,k2,k3⟩:=aq h h2 (ht.set (hp p (by simp)) h1) (λq hq=>by simp;exact hp q (by simp[hq]))
  refine⟨by simp[k1],k2,?_⟩
  simp only[List.zip_cons_cons,List.foldl_cons];rw[k3];simp
 |[],_::_,xs,A,tm1,t,h,hx,ht,hp=>by simp[ZX]at h
 |_::_,[],xs,A,tm1,t,h,hx,ht,hp=>by simp[ZX]at h
def IQ(t:zr)(ps:zy)(xs:zE):((ps.toArray.zip xs.toArray).foldl (λt (p,v)=>t.setIfInBounds p v) t)=(ps.zip xs).foldl (λt p=>t.setIfInBounds p.1 p.2) t:=by
 rw[<-Array.foldl_toList];simp
def cM (hS:SelfOk P X S)(hG:qm E.globs X)(hD:DrawOk P X E S){l:Nat}{args:zA}(h:gu E S l args s=some (v,s')){B:Blk}(r:Rel P X I s.get w)(hwf:Wf s)(hf:Fresh I s s')(hargs:VRL I args xs)(hB:I l=some B):
  ∃L,w.heap[B.b]? =some (.loop L)/\zR xs=L.params.size/\∀F n,Wide F->RoundIn F n P B.b L.fn ((L.params.zip xs.toArray).foldl (λt (p,v)=>t.setIfInBounds p v) L.tmps) L.assign L.body w (KV P X I s w v s'):=by
 unfold gu at h;split at h
 .rename_i st0 pend0 tm0 ps0 asg bd d0 hg
  obtain⟨B',hB',L,hh,hl⟩:=r.obj l _ hg;rw[hB]at hB';cases hB';split at h
  .rename_i tm1 hps
   obtain⟨k1,k2,k3⟩:=aq hps hargs hl.A hl.ps;refine⟨L,hh,by rw[hl.params,k1];simp,?_⟩
   intro F n hF;rw[hl.params,IQ];cases he:evC E S (some l) asg {A:=tm1,df:=[]} s with
   |none=>rw[he]at h;simp[uR]at h
   | some p=>
    obtain⟨res1,fr1,s1⟩:=p;rw[he]at h;simp only[uR]at h;have hn1:=uI hS.mono he;split at h
    .split at h
     .rename_i pend1 tmL psL asgL bodyL dL hg1
      cases he2:evC E S (some l) bd fr1 (s1.put l (.loop .busy pend1 tmL psL asgL bodyL dL))with
      |none=>rw[he2]at h;simp[kl]at h
      | some q=>
       obtain⟨res2,fr2,s2⟩:=q;rw[he2]at h;simp only[kl]at h;have hn2:=uI hS.mono he2;rw[Yr]at hn2;split at h
       .rename_i st2 pend2 tm2 ps2 asg2 body2 d2 hg2
        have hs':s'.next=s2.next:=by
         cases res2<;>simp only[wB,qj]at h<;>rw[<-h.2]<;>rfl
        have hFr:Wide (F.inRound B.b):=⟨hF.fn,hF.depth,hF.alive⟩;have hfr:FrRel I L.tmps.size {A:=tm1,df:=[]} {tmps:=(ps0.zip xs).foldl (λt p=>t.setIfInBounds p.1 p.2) L.tmps,defers:=[]}:=⟨k2,k3,rfl⟩;refine roundIn_of_wpIn (hF.fn _) (wpIn_mono (jK hS hG hD hFr (λh=>by cases h) L.assign hl.asg he r hwf (hf.left J) hfr) ?_)
        rintro e a1 w1 ⟨φ1,rfl,g1,g2⟩
        have hsub1:=g1.sub (hf.left (s1:=s1) J);have hB1:=hsub1 _ _ hB;obtain⟨B',hB',L1,hh1,hl1⟩:=g1.rel.obj l _ hg1;rw[hB1]at hB';cases hB';have hbr:=run_beginRound (P:=P) hh1 (by rw[hl1.state];rfl)
        have st1:Step P X φ1 s1 w1 φ1 (s1.put l (.loop .busy pend1 tmL psL asgL bodyL dL)) (w1.putObj B.b (.loop {L1 with state:=.busy})):=
         Step.setObj g1.rel hg1 hB1 hh1 (x':=.loop {L1 with state:=.busy}) ⟨_,Zu hh1,⟨rfl,hl1.pend,hl1.params,hl1.asg,hl1.body,hl1.A,hl1.df,hl1.ps⟩⟩
        have hwf1:=g1.ext.wf hwf;have hf1:Fresh φ1 s1 s2:=(hf.right hn1 g1.same).left J;refine⟨_,hbr,wpIn_mono (jK hS hG hD hFr (λh=>by cases h) L.body hl.body he2 st1.rel (st1.ext.wf hwf1) hf1 g2) ?_⟩
        rintro e a2 w2 ⟨φ2,rfl,g3,g4⟩
        have hsub2:=g3.sub hf1;have hB2:=hsub2 _ _ hB1;obtain⟨B',hB',L2,hh2,hl2⟩:=g3.rel.obj l _ hg2;rw[hB2]at hB';cases hB';have stA:=Step.trans hwf (Step.trans hwf g1 st1) g3;have fin:∀(j:Option Res),s'=s2.put l (.loop (if j.isNone then .ready else .done) j tm2 ps2 asg2 body2 d2)->v=.bool j.isNone->∃x w',(Instr.endRound B.b (j.map Res.code)).run P w2=.ok x w'/\KV P X I s w v s' (.returned x) w':=by
         intro j e1 e2;have hend:=run_endRound (P:=P) (j.map Res.code) hh2;refine⟨_,_,hend,φ2,_,rfl,?_,?_⟩
         .rw[e1];refine Step.trans hwf stA (Step.setObj g3.rel hg2 hB2 hh2 (x':=.loop {L2 with state:=if (j.map Res.code).isNone then .ready else .done,pending:=j.map Res.code}) ⟨_,Zu hh2,⟨?_,rfl,hl2.params,hl2.asg,hl2.body,hl2.A,hl2.df,hl2.ps⟩⟩)
          cases j<;>rfl
         .rw[e2];simp only[VR];cases j<;>rfl
        cases res2 with
        |norm=>
         simp only[wB,qj]at h;exact fin none h.2.symm h.1.symm
        |exit Y=>
         simp only[wB,qj]at h;exact fin (some (.exit Y)) h.2.symm h.1.symm
        |ret=>
         simp only[wB,qj]at h;exact fin (some .ret) h.2.symm h.1.symm
       .cases h
     .cases h
    .cases h
  .cases h
 .cases h
def oY(hS:SelfOk P X S)(hG:qm E.globs X)(hD:DrawOk P X E S){rd:zD}{b:ICode}{res:Res}(h:evC E S rd (.loop b) fr s=some (res,fr',s')){c:Code}(hb:cC P nt c=some b)(r:Rel P X I s.get w)(hwf:Wf s)(hf:Fresh I s s')(hfr:FrRel I nt fr a)(F:Fence)(n:Nat)(hF:Wide F)(hrd:rd=none->F.round=none):LoopIn F n P c (Jv P X I nt s w res fr' s') a w:=by
 simp only[evC]at h;cases he:evC E S rd b fr s with
 |none=>rw[he]at h;simp[ge]at h
 |some p=>
  obtain⟨res1,fr1,s1⟩:=p;rw[he]at h;have hn1:=uI hS.mono he;have hn2:s1.next<=s'.next:=Zx (x:=some (res1,fr1,s1)) (λp hp=>by cases hp;exact zX _) (λ_ _ _ _ _ h=>hS.mono.loop _ _ _ _ _ _ _ h) h
  refine Wo (wpIn_mono (jK hS hG hD hF hrd c hb he r hwf (hf.left hn2) hfr) (Vw hwf hf hn1 h λφ1 a1 w1 hk k1 k2 k3=>?_));exact LoopIn.mono (hS.loop hk hb k1.rel (k1.ext.wf hwf) k3 k2 F n hF hrd) λe a2 w2 q=>XZ hwf k1 q
end
end Go.Proofs.YtbddpjboppmnfaaGreatDoor.Ev

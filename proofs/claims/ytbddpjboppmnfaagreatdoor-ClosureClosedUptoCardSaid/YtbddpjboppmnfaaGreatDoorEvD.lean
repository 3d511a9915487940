/- Part of a verified evaluator of the model's code, generic over the program: a run of the evaluator that answers shows what the model's run answers. No conditions of its own. -/
import Derived.Test.YtbddpjboppmnfaaGreatDoorEvC
import Derived.RangeFuncRecord
import Derived.RangeFuncLeaves
import Derived.OrdersIn
set_option linter.unusedSimpArgs false
set_option linter.unusedVariables false
set_option linter.defProp false
open Nat renaming le_refl → zu, beq → zb, testBit_or → yS, blt → zg, ble → ze, le_of_lt → yU, le_trans → zA, lor → yV, mul → zc, add → zd
open Array renaming getD_eq_getD_getElem? → yT, replicate → yW, ext' → yG
open Bool renaming or_eq_true → zr, or_eq_false_iff → yY
open List renaming mapM_cons → yX
namespace Go.Proofs.YtbddpjboppmnfaaGreatDoor.Ev
variable {P:Program}{w0 w w':World}{E:Env}{S:Self}{s s':St}{φ φ':Phi}{v:AV}{tm:Trie AV}{id n esz bytes:Nat}{o:AObj}{op:IOp}
theorem lH(s:St)(id:Nat)(o:AObj):(s.put id o).next=s.next:=rfl
theorem PG(s:St)(id:Nat):(s.del id).next=s.next:=rfl
theorem v9(s:St)(o:AObj):(s.alloc o).next=s.next+1:=rfl
theorem ZD{p:AV}{vs:List AV}(h:jc s p vs=some s'):s'.next=s.next:=by
 unfold jc at h;split at h
 ·split at h
  ·rename_i t cs e fz hg
   cases hb:(fz|| !wd vs)with
   |true=>rw[hb]at h;simp at h
   |false=>
    rw[hb]at h;simp only[cond_false]at h;split at h
    ·cases h;rfl
    ·cases h
  ·cases h
 ·cases h
theorem Jw{x:AV}(h:ztT s x=some (v,s')):s'=s:=by
 unfold ztT at h;split at h
 ·cases h;rfl
 ·cases h;rfl
 ·rename_i id off len c
  split at h
  ·rename_i k
   cases hb:ze len k with
   |true=>rw[hb]at h;simp at h;exact h.2.symm
   |false=>rw[hb]at h;simp at h
  ·cases h;rfl
 ·cases h;rfl
 ·cases h;rfl
 ·cases h
theorem Jx{t:Nat}{x:AV}{new:List AV}(h:pM s t esz bytes x n new=some (v,s')):s.next≤s'.next:=by
 unfold pM at h;split at h
 ·cases hm:(s.md&&xY new)with
  |true=>rw[hm]at h;simp only[cond_true]at h;have:=j2 h;omega
  |false=>rw[hm]at h;simp only[cond_false]at h;have:=kS h;omega
 ·rename_i k ex cs
  cases ex with
  |false=>simp at h
  |true=>
   simp only[cond_true]at h;split at h
   ·have:=j2 h;omega
   ·cases h
 ·rename_i id esz' k cs
  split at h
  ·rename_i t0 cells hg
   cases hb:(zb esz esz'&&zb t0 t&&zb (qg cells) (qg cs)&&wd new)with
   |false=>rw[hb]at h;simp at h
   |true=>rw[hb]at h;simp only[cond_true]at h;have:=j2 h;rw[PG]at this;omega
  ·cases h
 ·rename_i id off len c
  split at h
  ·rename_i t0 cs e fz hg
   split at h
   ·rename_i k
    cases hb:ze (zd len n) k with
    | true=>
     rw[hb]at h;simp only[cond_true]at h;split at h
     ·rename_i s1 hs
      cases h;have:=ZD hs;omega
     ·cases h
    |false=>
     rw[hb]at h;simp only[cond_false]at h;split at h
     ·have:=kS h;omega
     ·cases h
   ·rename_i e'
    cases hb:(zb esz e'&&e&& !fz)with
    |false=>rw[hb]at h;simp at h
    | true=>
     rw[hb]at h;simp only[cond_true]at h;cases hb2:ze (zd off (zc (zd len n) esz)) (qg cs)with
     | true=>
      rw[hb2]at h;simp only[cond_true]at h;split at h
      ·rename_i s1 hs
       cases h;have:=ZD hs;omega
      ·cases h
     | false=>
      rw[hb2]at h;simp only[cond_false]at h;cases hb3:(wd new&&zb t0 t)with
      |false=>rw[hb3]at h;simp at h
      |true=>
       rw[hb3]at h;simp only[cond_true]at h;split at h
       ·have:=kS h;rw[PG]at this;omega
       ·cases h
  ·cases h
 ·cases h
theorem zve{t:Nat}{x y:AV}(h:jg s t esz bytes x y=some (v,s')):s.next≤s'.next:=by
 unfold jg at h;split at h
 ·cases h
 ·rw[Jw h];exact zu _
 ·split at h
  ·cases h
  ·exact Jx h
theorem zzM{t:Nat}{zs:List AV}{x y:AV}(h:Yb s t esz bytes zs x y=some (v,s')):s.next≤s'.next:=by
 unfold Yb at h;split at h
 ·cases h
 ·rename_i n
  cases hb:(ze (zc (Nat.succ n) bytes) 281474976710656&&zg n 9223372036854775807)with
  |false=>rw[hb]at h;simp at h
  |true=>rw[hb]at h;simp only[cond_true]at h;exact Jx h
 ·cases h
theorem zqU{p w:AV}(h:oSt s n p w=some (v,s')):s'.next=s.next:=by
 unfold oSt at h;cases hb:zb (qg w.cells) n with
 |false=>rw[hb]at h;simp at h
 |true=>
  rw[hb]at h;simp only[cond_true]at h;split at h
  ·rename_i s1 hs;cases h;exact ZD hs
  ·cases h
theorem zqQ{f:FK}{m k x:AV}(h:oMu s f m k x=some (v,s')):s'.next=s.next:=by
 unfold oMu at h;split at h
 ·split at h
  ·split at h
   ·cases h;rfl
   ·cases h;rfl
   ·cases h
  ·split at h
   ·split at h
    ·cases h;rfl
    ·cases h
   ·cases h
  ·cases h
 ·cases h
theorem zqO{f:FK}{m k:AV}(h:oMd s f m k=some (v,s')):s'.next=s.next:=by
 unfold oMd at h;split at h
 ·cases h;rfl
 ·split at h
  ·split at h
   ·cases h;rfl
   ·cases h;rfl
   ·cases h
  ·split at h
   ·split at h
    ·cases h;rfl
    ·cases h
   ·cases h
  ·cases h
 ·cases h
theorem zqS{x:AV}(h:oNs s x=some (v,s')):s'.next=s.next:=by
 unfold oNs at h;split at h
 ·split at h
  ·split at h
   ·cases h;rfl
   ·cases h;rfl
  ·cases h
 ·cases h
theorem zyY{m since clock:Nat}{seen:List Nat}:∀{l:List (AV×AV×Nat)},pD s id m since seen clock l=some (v,s')→s'.next=s.next
 |[],h=>by simp only[pD,Option.some.injEq,Prod.mk.injEq]at h;rw[←h.2]
 |[e],h=>by
  simp only[pD]at h;cases hb:zg e.2.2 since with
  |false=>rw[hb]at h;simp at h
  |true=>rw[hb]at h;simp only[cond_true,Option.some.injEq,Prod.mk.injEq]at h;rw[←h.2];rfl
 |_::_::_,h=>by simp[pD]at h
theorem zqR{x:AV}(h:oNm s x=some (v,s')):s'.next=s.next:=by
 unfold oNm at h;split at h
 ·split at h
  ·cases h;rfl
  ·rename_i m since seen last _
   split at h
   ·rename_i es clock _
    cases hb:Pp seen last es with
    |true=>rw[hb]at h;simp at h
    |false=>rw[hb]at h;simp only[cond_false]at h;exact zyY h
   ·cases h
  ·cases h
 ·cases h
theorem zpd(h:opv E op tm s=some (v,s')):s.next≤s'.next:=by
 have e:∀{a b:St},a=b→b.next≤a.next:=fun h=>by rw[h];exact zu _
 have e2:s'.next=s.next→s.next≤s'.next:=fun h=>oM
 cases op<;>simp only[opv]at h<;>try (cases h;done)
 case mv=>obtain⟨_,_,_,h3⟩:=wU h;exact e h3
 case pick=>exact e (uJ h).2
 case alloc=>simp only[Zs,Option.some.injEq,Prod.mk.injEq]at h;exact yU (vR h.2)
 case box=>obtain⟨_,_,h⟩:=uo h;simp only[PJ,Option.some.injEq,Prod.mk.injEq]at h;exact yU (vR h.2)
 case build=>exact e (uJ h).2
 case bsl=>exact zuP h
 case ld=>obtain⟨_,_,_,h3⟩:=wU h;exact e h3
 case ldn=>obtain⟨_,_,_,h3⟩:=wU h;exact e h3
 case st=>obtain⟨_,_,_,_,h⟩:=u9 h;exact e2 (zqU h)
 case nck=>obtain⟨_,_,_,h3⟩:=wU h;exact e h3
 case bin=>obtain⟨_,_,_,_,_,h3⟩:=vt h;exact e h3
 case eqk=>obtain⟨_,_,_,_,_,h3⟩:=vt h;exact e h3
 case un=>obtain⟨_,_,_,h3⟩:=wU h;exact e h3
 case ci=>obtain⟨_,_,_,h3⟩:=wU h;exact e h3
 case csb=>obtain⟨_,_,h⟩:=uo h;exact zuQ h
 case cbs=>obtain⟨_,_,_,h3⟩:=wU h;exact e h3
 case mif=>obtain⟨_,_,_,h3⟩:=wU h;exact e h3
 case mfn=>obtain⟨_,_,_,_,_,h3⟩:=HM h;exact e h3
 case mmap=>simp only[lI,XF,Option.some.injEq,Prod.mk.injEq]at h;exact yU (vR h.2)
 case msl=>obtain⟨_,_,_,_,h⟩:=u9 h;exact yU (KV h)
 case sls=>obtain⟨_,_,_,_,_,_,_,h3⟩:=QV h;exact e h3
 case slv=>obtain⟨_,_,_,_,_,_,_,_,_,h3⟩:=HN h;exact e h3
 case fa=>obtain⟨_,_,_,h3⟩:=wU h;exact e h3
 case ia=>obtain⟨_,_,_,_,_,h3⟩:=vt h;exact e h3
 case iaa=>obtain⟨_,_,_,_,_,h3⟩:=vt h;exact e h3
 case ixs=>obtain⟨_,_,_,_,_,h3⟩:=vt h;exact e h3
 case lk=>obtain⟨_,_,_,_,_,h3⟩:=vt h;exact e h3
 case mu=>obtain⟨_,_,_,_,_,_,h⟩:=Hn h;exact e2 (zqQ h)
 case md=>obtain⟨_,_,_,_,h⟩:=u9 h;exact e2 (zqO h)
 case rs=>obtain⟨_,_,h⟩:=uo h;exact yU (PL h)
 case ns=>obtain⟨_,_,h⟩:=uo h;exact e2 (zqS h)
 case rm=>obtain⟨_,_,h⟩:=uo h;exact yU (PK h)
 case nm=>obtain⟨_,_,h⟩:=uo h;exact e2 (zqR h)
 case en=>obtain⟨_,_,_,h3⟩:=wU h;exact e h3
 case ex=>obtain⟨_,_,_,h3⟩:=wU h;exact e h3
 case len=>obtain⟨_,_,_,h3⟩:=wU h;exact e h3
 case cap=>obtain⟨_,_,_,h3⟩:=wU h;exact e h3
 case app=>obtain⟨_,_,_,_,h⟩:=u9 h;exact zve h
 case nes=>obtain⟨_,_,_,h3⟩:=wU h;exact e h3
 case ibs=>obtain⟨_,_,_,_,_,h3⟩:=vt h;exact e h3
 case appz=>obtain⟨_,_,_,_,h⟩:=u9 h;exact zzM h
structure Mono(S:Self):Prop where
 call:∀f args s v s',S.call f args s=some (v,s')→s.next≤s'.next
 loop:∀rd b fr s res fr' s',S.loop rd b fr s=some (res,fr',s')→s.next≤s'.next
 round:∀l args s v s',S.round l args s=some (v,s')→s.next≤s'.next
theorem J9(hS:Mono S)(h:qA E S op tm s=some (v,s')):s.next≤s'.next:=by
 rw[gu]at h;split at h
 ·unfold LV at h;split at h
  ·exact hS.call _ _ _ _ _ h
  ·cases h
 ·unfold GT at h;split at h
  ·split at h
   ·exact hS.call _ _ _ _ _ h
   ·exact hS.round _ _ _ _ _ h
   ·cases h
  ·cases h
 ·exact zpd h
theorem UK(hS:Mono S){o:SOper}{tm':Trie AV}(h:lR E S o tm s=some (tm',s')):s.next≤s'.next:=by
 unfold lR at h;split at h
 ·cases he:qA E S o.op tm s with
  |none=>rw[he]at h;simp[stS]at h
  |some p=>rw[he]at h;simp only[stS,Option.some.injEq,Prod.mk.injEq]at h;rw[←h.2];exact J9 hS (v:=p.1) (s':=p.2) he
 ·simp only[Option.some.injEq,Prod.mk.injEq]at h;rw[←h.2];exact zu _
 ·cases h
theorem VS{E:Env}{S:Self}(hS:Mono S):∀{l:List SOper} {tm tm':Trie AV} {s s':St},evS E S l tm s=some (tm',s')→s.next≤s'.next
 |[],tm,tm',s,s',h=>by simp only[evS,Option.some.injEq,Prod.mk.injEq]at h;rw[←h.2];exact zu _
 | o::r,tm,tm',s,s',h=>by
  simp only[evS]at h;split at h
  ·rename_i p hp
   exact zA (UK hS (tm':=p.1) (s':=p.2) hp) (VS hS h)
  ·cases h
theorem zxo(hS:Mono S){o:DOper}{i:Nat}{log:List LogE}{p:List LogE×Trie AV×St}(h:lQ E S o i log tm s=some p):s.next≤p.2.2.next:=by
 unfold lQ at h;split at h
 ·cases he:qA E S o.o.op tm (vm o log tm s)with
  |none=>rw[he]at h;simp[Jg]at h
  |some q=>
   rw[he]at h;simp only[Jg]at h;have:=J9 hS (v:=q.1) (s':=q.2) he;cases hb:uA o.deps (qn o.o.op tm) (qa q.2.wm s.next) log with
   |false=>rw[hb]at h;simp at h
   |true=>rw[hb]at h;simp only[cond_true,Option.some.injEq]at h;subst h;exact this
 ·simp only[Option.some.injEq]at h;subst h;exact zu _
 ·cases h
theorem LW{E:Env}{S:Self}(hS:Mono S):∀{l:List DOper} {i:Nat} {log:List LogE} {tm tm':Trie AV} {s s':St},evD E S l i log tm s=some (tm',s')→s.next≤s'.next
 |[],i,log,tm,tm',s,s',h=>by simp only[evD,Option.some.injEq,Prod.mk.injEq]at h;rw[←h.2];exact zu _
 | o::r,i,log,tm,tm',s,s',h=>by
  simp only[evD]at h;split at h
  ·rename_i p hp
   exact zA (zxo hS hp) (LW hS h)
  ·cases h
theorem gG{k:Fr→St→Option (Res×Fr×St)}{x:Option (Res×Fr×St)}{res:Res}{fr':Fr}{s':St}(hx:∀p,x=some p→n≤p.2.2.next)(hk:∀fr s res fr' s',k fr s=some (res,fr',s')→s.next≤s'.next)(h:uV k x=some (res,fr',s')):n≤s'.next:=by
 cases x with
 |none=>simp[uV]at h
 |some p=>
  simp only[uV]at h;have:=hx p rfl;split at h
  ·exact zA this (hk _ _ _ _ _ h)
  ·cases h;exact this
theorem qV{E:Env}{S:Self}(hS:Mono S){rd:Option Nat}:∀{c:ICode} {fr fr':Fr} {s s':St} {res:Res},evC E S rd c fr s=some (res,fr',s')→s.next≤s'.next
 |.skip,fr,fr',s,s',res,h=>by simp only[evC]at h;cases h;exact zu _
 |.reg ops,fr,fr',s,s',res,h=>by
  simp only[evC]at h;cases he:evS E S ops fr.tm s with
  |none=>rw[he]at h;simp[uI]at h
  |some p=>rw[he]at h;simp only[uI]at h;cases h;exact VS hS (tm':=p.1) he
 |.regd ops,fr,fr',s,s',res,h=>by
  simp only[evC,Qg]at h;split at h
  case h_2=>cases h
  cases he:evD E S ops 0 [] fr.tm s with
  |none=>rw[he]at h;simp[uI]at h
  |some p=>rw[he]at h;simp only[uI]at h;cases h;exact LW hS (tm':=p.1) he
 |.seq a b,fr,fr',s,s',res,h=>by
  simp only[evC]at h;exact gG (fun p hp=>qV hS (res:=p.1) (fr':=p.2.1) hp) (fun fr s res fr' s' h=>qV hS h) h
 |.cond c a b,fr,fr',s,s',res,h=>by
  simp only[evC,WR]at h;split at h
  ·exact qV hS h
  ·exact qV hS h
  ·cases h
 | .block id b,fr,fr',s,s',res,h=>by
  simp only[evC]at h;cases he:evC E S rd b fr s with
  |none=>rw[he]at h;simp[jR]at h
  | some p=>
   have:=qV hS (res:=p.1) (fr':=p.2.1) (s':=p.2.2) he;rw[he]at h;simp only[jR]at h;split at h
   ·rename_i i _
    cases hb:zb i id with
    |true=>rw[hb]at h;simp only[cond_true,Option.some.injEq,Prod.mk.injEq]at h;rw[h.2]at this;exact this
    |false=>rw[hb]at h;simp only[cond_false]at h;cases h;exact this
   ·cases h;exact this
 |.loop b,fr,fr',s,s',res,h=>by
  simp only[evC]at h;exact gG (fun p hp=>qV hS (res:=p.1) (fr':=p.2.1) hp) (fun fr s res fr' s' h=>hS.loop _ _ _ _ _ _ _ h) h
 |.exit id,fr,fr',s,s',res,h=>by simp only[evC]at h;cases h;exact zu _
 |.ret,fr,fr',s,s',res,h=>by simp only[evC]at h;cases h;exact zu _
 | .rf g ps asg body,fr,fr',s,s',res,h=>by
  simp only[evC,rfR]at h;split at h
  ·split at h
   ·rename_i f a c _
    cases he:S.call f (a++ .yld (Nat.succ s.next)::c) ((s.alloc .dfd).alloc (.loop .ready none fr.tm ps asg body s.next))with
    |none=>rw[he]at h;simp[gZ]at h
    | some p=>
     have:=hS.call _ _ _ p.1 p.2 he;rw[v9,v9]at this;rw[he]at h;simp only[gZ]at h;split at h
     ·split at h
      ·cases h
      ·cases h;rw[lH];omega
     ·cases h
   ·cases h
  ·cases h
 |.stk,fr,fr',s,s',res,h=>by simp[evC]at h
theorem ZF:∀{l:List Nat} {s s':St},qf s l=some s'→s'.next=s.next
 |[],s,s',h=>by simp only[qf,Option.some.injEq]at h;rw[h]
 |d::r,s,s',h=>by
  simp only[qf]at h;split at h
  ·rw[ZF h];rfl
  ·cases h
theorem Va(hS:Mono S){F:IFunc}{args:List AV}(h:pR E S F args s=some (v,s')):s.next≤s'.next:=by
 unfold pR at h;cases he:evC E S none F.body {tm:=wL .leaf 0 args,df:=[]} s with
 |none=>rw[he]at h;simp[wT]at h
 | some p=>
  have:=qV hS (res:=p.1) (fr':=p.2.1) (s':=p.2.2) he;rw[he]at h;simp only[wT]at h;split at h
  ·cases h
  ·split at h
   ·rename_i s1 hm
    have:=ZF hm;unfold YR at h;split at h
    ·cases h;omega
    ·cases h
   ·cases h
theorem zpp{x:Option (AV×St)}(h:pK s x=some (v,s')):
  ∃u t,x=some (u,t)∧((qa t.wm s.next=0∧Zf s.next u=some v∧s'=s)∨(v=agW u∧s'={t with wm:=yV s.wm t.wm,md:=s.md})):=by
 cases x with
 |none=>simp[pK]at h
 | some p=>
  refine⟨p.1,p.2,rfl,?_⟩;simp only[pK]at h;split at h
  ·rename_i u hu
   cases hb:zb (qa p.2.wm s.next) 0 with
   |false=>rw[hb]at hu;simp at hu
   |true=>
    rw[hb]at hu;simp only[cond_true]at hu;simp only[Option.some.injEq,Prod.mk.injEq]at h;obtain⟨rfl,rfl⟩:=h;exact .inl ⟨we.1 hb,hu,rfl⟩
  ·simp only[Option.some.injEq,Prod.mk.injEq]at h;exact .inr ⟨h.1.symm,h.2.symm⟩
theorem zmi{b:Bool}{x:Option (AV×St)}(h:mdR b x=some (v,s')):∃t,x=some (v,t)∧s'={t with md:=b}:=by
 cases x with
 |none=>simp[mdR]at h
 |some p=>
  simp only[mdR,Option.some.injEq,Prod.mk.injEq]at h;obtain⟨rfl,rfl⟩:=h;exact⟨p.2,rfl,rfl⟩
theorem XY{f:Nat}{args:List AV}(h:vz E S f args s=some (v,s')):
  ∃F,E.funs.get f=some F∧args.length≤F.ntmps∧((∃u t,pR E S F args {s with wm:=0,md:=true}=some (u,t)∧((qa t.wm s.next=0∧Zf s.next u=some v∧s'=s)∨(v=agW u∧s'={t with wm:=yV s.wm t.wm,md:=s.md})))∨
   ∃t,pR E S F args {s with md:=false}=some (v,t)∧s'={t with md:=s.md}):=by
 unfold vz at h;split at h
 ·rename_i F hF
  cases hb:ze (qg args) F.ntmps with
  |false=>rw[hb]at h;simp at h
  |true=>
   rw[hb]at h;simp only[cond_true]at h;refine⟨F,hF,by rw[←wV];exact x9.1 hb,?_⟩
   cases hp:E.pure f with
   |true=>rw[hp]at h;simp only[cond_true]at h;exact .inl (zpp h)
   |false=>rw[hp]at h;simp only[cond_false]at h;exact .inr (zmi h)
 ·cases h
theorem zz2(hS:Mono S){f:Nat}{args:List AV}(h:vz E S f args s=some (v,s')):s.next≤s'.next:=by
 obtain⟨F,_,_,⟨u,t,hb,⟨_,_,rfl⟩|⟨rfl,rfl⟩⟩|⟨t,hb,rfl⟩⟩:=XY h
 ·exact zu _
 ·have h1:=Va hS hb;exact h1
 ·have h1:=Va hS hb;exact h1
theorem P3(hS:Mono S){l:Nat}{args:List AV}(h:ja E S l args s=some (v,s')):s.next≤s'.next:=by
 unfold ja at h;split at h
 ·rename_i tm ps asg bd d _
  split at h
  ·rename_i tm1 _
   cases he:evC E S (some l) asg {tm:=tm1,df:=[]} s with
   |none=>rw[he]at h;simp[vc]at h
   | some p=>
    have h1:=qV hS (res:=p.1) (fr':=p.2.1) (s':=p.2.2) he;rw[he]at h;simp only[vc]at h;split at h
    ·split at h
     ·rename_i pend tm ps asg body d _
      cases he2:evC E S (some l) bd p.2.1 (p.2.2.put l (.loop .busy pend tm ps asg body d))with
      |none=>rw[he2]at h;simp[ue]at h
      | some q=>
       have h2:=qV hS (res:=q.1) (fr':=q.2.1) (s':=q.2.2) he2;rw[lH]at h2;rw[he2]at h;simp only[ue]at h;split at h
       ·split at h
        ·cases h;rw[lH];omega
        ·cases h;rw[lH];omega
       ·cases h
     ·cases h
    ·cases h
  ·cases h
 ·cases h
theorem vf{o':AObj}(h:s.get id=some o)(hng:qO o=false:=by rfl):Ext s (s.put id o'):=zx1 s id o o' (wl h) (qB h) hng
theorem L6(h:s.get id=some o)(hng:qO o=false:=by rfl):Ext s (s.del id):=GW s id (wl h) (qB h) hng
theorem kg(h:s.alloc o=s'):Ext s s':=h▸kR s o
theorem qj(h:s'=s):Ext s s':=by rw[h];exact Ext.refl s
theorem YT{p:AV}{vs:List AV}(h:jc s p vs=some s'):Ext s s':=by
 unfold jc at h;split at h
 ·split at h
  ·rename_i t cs e fz hg
   cases hb:(fz|| !wd vs)with
   |true=>rw[hb]at h;simp at h
   |false=>
    rw[hb]at h;simp only[cond_false]at h;split at h
    ·cases h;exact vf hg
    ·cases h
  ·cases h
 ·cases h
theorem Ub{e need:Nat}{cs:List AV}(h:grow s e esz bytes cs need=some (v,s')):Ext s s':=by
 unfold grow at h;cases hb:(ze (zc (zc 2 need) bytes) 281474976710656&&ze 1 esz&&zg need 9223372036854775808)with
 |false=>rw[hb]at h;simp at h
 |true=>rw[hb]at h;simp only[cond_true,Option.some.injEq,Prod.mk.injEq]at h;exact kg h.2
theorem Wc{e need:Nat}{cs:List AV}(h:lE s e esz bytes cs need=some (v,s')):Ext s s':=by
 obtain⟨_,_,_,_,_,rfl⟩:=Wd h;exact kR _ _
theorem HU{t:Nat}{x:AV}{new:List AV}(h:pM s t esz bytes x n new=some (v,s')):Ext s s':=by
 unfold pM at h;split at h
 ·cases hm:(s.md&&xY new)with
  |true=>rw[hm]at h;simp only[cond_true]at h;exact Wc h
  |false=>rw[hm]at h;simp only[cond_false]at h;exact Ub h
 ·rename_i k ex cs
  cases ex with
  |false=>simp at h
  |true=>
   simp only[cond_true]at h;split at h
   ·exact Wc h
   ·cases h
 ·rename_i id esz' k cs
  split at h
  ·rename_i t0 cells hg
   cases hb:(zb esz esz'&&zb t0 t&&zb (qg cells) (qg cs)&&wd new)with
   |false=>rw[hb]at h;simp at h
   |true=>rw[hb]at h;simp only[cond_true]at h;exact(L6 hg).trans (Wc h)
  ·cases h
 ·rename_i id off len c
  split at h
  ·rename_i t0 cs e fz hg
   split at h
   ·rename_i k
    cases hb:ze (zd len n) k with
    | true=>
     rw[hb]at h;simp only[cond_true]at h;split at h
     ·rename_i s1 hs
      cases h;exact YT hs
     ·cases h
    |false=>
     rw[hb]at h;simp only[cond_false]at h;split at h
     ·exact Ub h
     ·cases h
   ·rename_i e'
    cases hb:(zb esz e'&&e&& !fz)with
    |false=>rw[hb]at h;simp at h
    | true=>
     rw[hb]at h;simp only[cond_true]at h;cases hb2:ze (zd off (zc (zd len n) esz)) (qg cs)with
     | true=>
      rw[hb2]at h;simp only[cond_true]at h;split at h
      ·rename_i s1 hs
       cases h;exact YT hs
      ·cases h
     | false=>
      rw[hb2]at h;simp only[cond_false]at h;cases hb3:(wd new&&zb t0 t)with
      |false=>rw[hb3]at h;simp at h
      |true=>
       rw[hb3]at h;simp only[cond_true]at h;split at h
       ·exact(L6 hg).trans (Ub h)
       ·cases h
  ·cases h
 ·cases h
theorem ztU{t:Nat}{x y:AV}(h:jg s t esz bytes x y=some (v,s')):Ext s s':=by
 unfold jg at h;split at h
 ·cases h
 ·exact qj (Jw h)
 ·split at h
  ·cases h
  ·exact HU h
theorem zvf{t:Nat}{zs:List AV}{x y:AV}(h:Yb s t esz bytes zs x y=some (v,s')):Ext s s':=by
 unfold Yb at h;split at h
 ·cases h
 ·rename_i n
  cases hb:(ze (zc (Nat.succ n) bytes) 281474976710656&&zg n 9223372036854775807)with
  |false=>rw[hb]at h;simp at h
  |true=>rw[hb]at h;simp only[cond_true]at h;exact HU h
 ·cases h
theorem zmw{p w:AV}(h:oSt s n p w=some (v,s')):Ext s s':=by
 unfold oSt at h;cases hb:zb (qg w.cells) n with
 |false=>rw[hb]at h;simp at h
 |true=>
  rw[hb]at h;simp only[cond_true]at h;split at h
  ·rename_i s1 hs;cases h;exact YT hs
  ·cases h
theorem zmr{f:FK}{m k x:AV}(h:oMu s f m k x=some (v,s')):Ext s s':=by
 unfold oMu at h;split at h
 ·split at h
  ·rename_i hg
   split at h
   ·cases h;exact vf hg
   ·cases h;exact vf hg
   ·cases h
  ·rename_i hg
   split at h
   ·split at h
    ·cases h;exact vf hg
    ·cases h
   ·cases h
  ·cases h
 ·cases h
theorem zmo{f:FK}{m k:AV}(h:oMd s f m k=some (v,s')):Ext s s':=by
 unfold oMd at h;split at h
 ·cases h;exact Ext.refl _
 ·split at h
  ·rename_i hg
   split at h
   ·cases h;exact vf hg
   ·cases h;exact vf hg
   ·cases h
  ·rename_i hg
   split at h
   ·split at h
    ·cases h;exact vf hg
    ·cases h
   ·cases h
  ·cases h
 ·cases h
theorem zmt{x:AV}(h:oNs s x=some (v,s')):Ext s s':=by
 unfold oNs at h;split at h
 ·split at h
  ·rename_i hg
   split at h
   ·cases h;exact vf hg
   ·cases h;exact Ext.refl _
  ·cases h
 ·cases h
theorem zuK{m since clock:Nat}{seen:List Nat}(hg:s.get id=some o)(hng:qO o=false:=by rfl):∀{l:List (AV×AV×Nat)},pD s id m since seen clock l=some (v,s')→Ext s s'
 |[],h=>by simp only[pD,Option.some.injEq,Prod.mk.injEq]at h;exact qj h.2.symm
 |[e],h=>by
  simp only[pD]at h;cases hb:zg e.2.2 since with
  |false=>rw[hb]at h;simp at h
  |true=>rw[hb]at h;simp only[cond_true,Option.some.injEq,Prod.mk.injEq]at h;rw[←h.2];exact vf hg hng
 |_::_::_,h=>by simp[pD]at h
theorem zms{x:AV}(h:oNm s x=some (v,s')):Ext s s':=by
 unfold oNm at h;split at h
 ·split at h
  ·cases h;exact Ext.refl _
  ·rename_i m since seen last hg
   split at h
   ·rename_i es clock _
    cases hb:Pp seen last es with
    |true=>rw[hb]at h;simp at h
    |false=>rw[hb]at h;simp only[cond_false]at h;exact zuK hg rfl h
   ·cases h
  ·cases h
 ·cases h
theorem zqL{e len:Nat}{x:Option (List AV)}(h:XE s e len x=some (v,s')):Ext s s':=by
 cases x with
 |none=>simp[XE]at h
 |some l=>
  simp only[XE]at h;cases hb:(s.md&&xY l)with
  |true=>rw[hb]at h;simp only[cond_true,Option.some.injEq,Prod.mk.injEq]at h;exact qj h.2.symm
  |false=>rw[hb]at h;simp only[cond_false,Option.some.injEq,Prod.mk.injEq]at h;exact kg h.2
theorem zqP{e b:Nat}{z:List AV}{l c:AV}(h:Jn s e b z l c=some (v,s')):Ext s s':=by
 unfold Jn at h;split at h
 ·rename_i l
  split at h
  ·rename_i c
   cases hb:(ze l c&&ze (zc c b) 281474976710656&&zg c 9223372036854775808)with
   |false=>rw[hb]at h;simp at h
   |true=>rw[hb]at h;simp only[cond_true,Option.some.injEq,Prod.mk.injEq]at h;exact kg h.2
  ·cases h
 ·cases h
theorem zqM{e:Nat}{x:AV}(h:Qz s e x=some (v,s')):Ext s s':=by
 unfold Qz at h;split at h
 ·rename_i t
  cases hb:zg (qg t) 9223372036854775808 with
  |false=>rw[hb]at h;simp at h
  |true=>
   rw[hb]at h;simp only[cond_true]at h;cases hm:s.md with
   |true=>rw[hm]at h;simp only[cond_true,Option.some.injEq,Prod.mk.injEq]at h;exact qj h.2.symm
   |false=>rw[hm]at h;simp only[cond_false,Option.some.injEq,Prod.mk.injEq]at h;exact kg h.2
 ·cases h
theorem zmv{x:AV}(h:oRs s x=some (v,s')):Ext s s':=by
 unfold oRs at h;split at h
 ·simp only[Option.some.injEq,Prod.mk.injEq]at h;exact kg h.2
 ·cases h
theorem zmu{x:AV}(h:oRm s x=some (v,s')):Ext s s':=by
 unfold oRm at h;split at h
 ·simp only[Option.some.injEq,Prod.mk.injEq]at h;exact kg h.2
 ·split at h
  ·simp only[Option.some.injEq,Prod.mk.injEq]at h;exact kg h.2
  ·cases h
 ·cases h
theorem zmA(h:opv E op tm s=some (v,s')):Ext s s':=by
 cases op<;>simp only[opv]at h<;>try (cases h;done)
 case mv=>obtain⟨_,_,_,h3⟩:=wU h;exact qj h3
 case pick=>exact qj (uJ h).2
 case alloc=>simp only[Zs,Option.some.injEq,Prod.mk.injEq]at h;exact kg h.2
 case box=>obtain⟨_,_,h⟩:=uo h;simp only[PJ,Option.some.injEq,Prod.mk.injEq]at h;exact kg h.2
 case build=>exact qj (uJ h).2
 case bsl=>exact zqL h
 case ld=>obtain⟨_,_,_,h3⟩:=wU h;exact qj h3
 case ldn=>obtain⟨_,_,_,h3⟩:=wU h;exact qj h3
 case st=>obtain⟨_,_,_,_,h⟩:=u9 h;exact zmw h
 case nck=>obtain⟨_,_,_,h3⟩:=wU h;exact qj h3
 case bin=>obtain⟨_,_,_,_,_,h3⟩:=vt h;exact qj h3
 case eqk=>obtain⟨_,_,_,_,_,h3⟩:=vt h;exact qj h3
 case un=>obtain⟨_,_,_,h3⟩:=wU h;exact qj h3
 case ci=>obtain⟨_,_,_,h3⟩:=wU h;exact qj h3
 case csb=>obtain⟨_,_,h⟩:=uo h;exact zqM h
 case cbs=>obtain⟨_,_,_,h3⟩:=wU h;exact qj h3
 case mif=>obtain⟨_,_,_,h3⟩:=wU h;exact qj h3
 case mfn=>obtain⟨_,_,_,_,_,h3⟩:=HM h;exact qj h3
 case mmap=>simp only[lI,XF,Option.some.injEq,Prod.mk.injEq]at h;exact kg h.2
 case msl=>obtain⟨_,_,_,_,h⟩:=u9 h;exact zqP h
 case sls=>obtain⟨_,_,_,_,_,_,_,h3⟩:=QV h;exact qj h3
 case slv=>obtain⟨_,_,_,_,_,_,_,_,_,h3⟩:=HN h;exact qj h3
 case fa=>obtain⟨_,_,_,h3⟩:=wU h;exact qj h3
 case ia=>obtain⟨_,_,_,_,_,h3⟩:=vt h;exact qj h3
 case iaa=>obtain⟨_,_,_,_,_,h3⟩:=vt h;exact qj h3
 case ixs=>obtain⟨_,_,_,_,_,h3⟩:=vt h;exact qj h3
 case lk=>obtain⟨_,_,_,_,_,h3⟩:=vt h;exact qj h3
 case mu=>obtain⟨_,_,_,_,_,_,h⟩:=Hn h;exact zmr h
 case md=>obtain⟨_,_,_,_,h⟩:=u9 h;exact zmo h
 case rs=>obtain⟨_,_,h⟩:=uo h;exact zmv h
 case ns=>obtain⟨_,_,h⟩:=uo h;exact zmt h
 case rm=>obtain⟨_,_,h⟩:=uo h;exact zmu h
 case nm=>obtain⟨_,_,h⟩:=uo h;exact zms h
 case en=>obtain⟨_,_,_,h3⟩:=wU h;exact qj h3
 case ex=>obtain⟨_,_,_,h3⟩:=wU h;exact qj h3
 case len=>obtain⟨_,_,_,h3⟩:=wU h;exact qj h3
 case cap=>obtain⟨_,_,_,h3⟩:=wU h;exact qj h3
 case app=>obtain⟨_,_,_,_,h⟩:=u9 h;exact ztU h
 case nes=>obtain⟨_,_,_,h3⟩:=wU h;exact qj h3
 case ibs=>obtain⟨_,_,_,_,_,h3⟩:=vt h;exact qj h3
 case appz=>obtain⟨_,_,_,_,h⟩:=u9 h;exact zvf h
structure ExtS(S:Self):Prop where
 call:∀f args s v s',S.call f args s=some (v,s')→Ext s s'
 loop:∀rd b fr s res fr' s',S.loop rd b fr s=some (res,fr',s')→Ext s s'
 round:∀l args s v s',S.round l args s=some (v,s')→Ext s s'
theorem gq(hS:ExtS S)(h:qA E S op tm s=some (v,s')):Ext s s':=by
 rw[gu]at h;split at h
 ·unfold LV at h;split at h
  ·exact hS.call _ _ _ _ _ h
  ·cases h
 ·unfold GT at h;split at h
  ·split at h
   ·exact hS.call _ _ _ _ _ h
   ·exact hS.round _ _ _ _ _ h
   ·cases h
  ·cases h
 ·exact zmA h
theorem zte(hS:ExtS S){o:SOper}{tm':Trie AV}(h:lR E S o tm s=some (tm',s')):Ext s s':=by
 unfold lR at h;split at h
 ·cases he:qA E S o.op tm s with
  |none=>rw[he]at h;simp[stS]at h
  |some p=>rw[he]at h;simp only[stS,Option.some.injEq,Prod.mk.injEq]at h;rw[←h.2];exact gq hS (v:=p.1) (s':=p.2) he
 ·simp only[Option.some.injEq,Prod.mk.injEq]at h;exact qj h.2.symm
 ·cases h
theorem zxZ{E:Env}{S:Self}(hS:ExtS S):∀{l:List SOper} {tm tm':Trie AV} {s s':St},evS E S l tm s=some (tm',s')→Ext s s'
 |[],tm,tm',s,s',h=>by simp only[evS,Option.some.injEq,Prod.mk.injEq]at h;exact qj h.2.symm
 | o::r,tm,tm',s,s',h=>by
  simp only[evS]at h;split at h
  ·rename_i p hp
   exact(zte hS (tm':=p.1) (s':=p.2) hp).trans (zxZ hS h)
  ·cases h
theorem Zj(deps:Nat)(h:List (Nat×Nat))(id:Nat):∀(log:List LogE),hid h id=true→hid (qG deps log h) id=true
 |[],hh=>hh
 | e::r,hh=>by
  simp only[qG];cases hb:(zb e.lo e.hi||deps.testBit e.idx)with
  |true=>simp only[cond_true];exact Zj deps h id r hh
  |false=>
   simp only[cond_false,hid];have:=Zj deps h id r hh;cases ze e.lo id<;>cases zg id e.hi<;>simp[this]
theorem Gb{o:DOper}{log:List LogE}(hon:s.only=none)(h:seen (vm o log tm s) id=true):seen s id=true:=by
 unfold seen at h⊢;rw[hon];cases hh:hid s.hide id with
 |false=>rfl
 |true=>
  have:=Zj o.deps s.hide id log hh
  exfalso
  simp only[vm]at h;split at h
  ·rw[this]at h;cases h
  ·rw[this]at h;cases h
theorem VM{o:DOper}{log:List LogE}{t:St}(hon:s.only=none)(hlog:∀e∈log,e.hi≤s.next)(h:Ext (vm o log tm s) t):Ext s {t with hide:=s.hide,only:=s.only,wm:=Nat.lor s.wm t.wm}:=by
 refine⟨h.next,fun i hi=>?_,rfl,rfl,fun id hid hw=>?_,h.vis,fun hwf=>⟨?_,fun p hp=>zA (hwf.hd p hp) h.next⟩,fun id hid hw=>?_,fun id o' hid ho hgo hw=>?_⟩
 rotate_right
 ·have:(s.wm|||t.wm).testBit id=true:=hw
  rw[yS,zr]at this;rcases this with h1|h1
  ·exact h1
  ·have:=h.giv id o' hid ho hgo h1;simp[vm]at this
 ·show (s.wm|||t.wm).testBit i=true
  rw[yS,hi];rfl
 ·have:(s.wm|||t.wm).testBit id=false:=hw
  rw[yS,yY]at this;exact h.keep id hid this.2
 ·have hb:Wf (vm o log tm s):=⟨hwf.lt,fun p hp=>by
   have key:∀(l:List LogE),(∀e∈l,e.hi≤s.next)→p∈qG o.deps l s.hide→p.2≤s.next:=by
    intro l
    induction l with
    |nil=>intro _ hp;exact hwf.hd p hp
    | cons e r ih=>
     intro hl hp;simp only[qG]at hp;cases hb:(zb e.lo e.hi||o.deps.testBit e.idx)with
     |true=>rw[hb]at hp;simp only[cond_true]at hp;exact ih (fun e' he'=>hl e' (by simp[he'])) hp
     |false=>
      rw[hb]at hp;simp only[cond_false,List.mem_cons]at hp;rcases hp with rfl|hp
      ·exact hl e (by simp)
      ·exact ih (fun e' he'=>hl e' (by simp[he'])) hp
   exact key log hlog hp⟩
  exact(h.wf hb).lt
 ·have:(s.wm|||t.wm).testBit id=true:=hw
  rw[yS,zr]at this;rcases this with h1|h1
  ·exact .inl h1
  ·rcases h.wv id hid h1 with h2|h2
   ·simp[vm]at h2
   ·exact .inr (Gb hon h2)
theorem ztd(hS:ExtS S){o:DOper}{i:Nat}{log:List LogE}{p:List LogE×Trie AV×St}(hon:s.only=none)(hlog:∀e∈log,e.hi≤s.next)(h:lQ E S o i log tm s=some p):Ext s p.2.2∧∀e∈p.1,e.hi≤p.2.2.next:=by
 unfold lQ at h;split at h
 ·cases he:qA E S o.o.op tm (vm o log tm s)with
  |none=>rw[he]at h;simp[Jg]at h
  | some q=>
   rw[he]at h;simp only[Jg]at h;have:=VM hon hlog (gq hS (v:=q.1) (s':=q.2) he);cases hb:uA o.deps (qn o.o.op tm) (qa q.2.wm s.next) log with
   |false=>rw[hb]at h;simp at h
   |true=>
    rw[hb]at h;simp only[cond_true,Option.some.injEq]at h;subst h;refine⟨this,fun e he=>?_⟩;rcases List.mem_cons.1 he with rfl|he
    ·exact zu _
    ·exact zA (hlog e he) this.next
 ·simp only[Option.some.injEq]at h;subst h;exact⟨Ext.refl s,hlog⟩
 ·cases h
theorem zxY{E:Env}{S:Self}(hS:ExtS S):∀{l:List DOper} {i:Nat} {log:List LogE} {tm tm':Trie AV} {s s':St},s.only=none→(∀e∈log,e.hi≤s.next)→evD E S l i log tm s=some (tm',s')→Ext s s'
 |[],i,log,tm,tm',s,s',_,_,h=>by simp only[evD,Option.some.injEq,Prod.mk.injEq]at h;exact qj h.2.symm
 | o::r,i,log,tm,tm',s,s',hon,hlog,h=>by
  simp only[evD]at h;split at h
  ·rename_i p hp
   obtain⟨h1,h2⟩:=ztd hS hon hlog hp;exact h1.trans (zxY hS (h1.only.trans hon) h2 h)
  ·cases h
theorem Gn{k:Fr→St→Option (Res×Fr×St)}{x:Option (Res×Fr×St)}{s:St}{res:Res}{fr':Fr}{s':St}(hx:∀p,x=some p→Ext s p.2.2)(hk:∀fr s res fr' s',k fr s=some (res,fr',s')→Ext s s')(h:uV k x=some (res,fr',s')):Ext s s':=by
 cases x with
 |none=>simp[uV]at h
 |some p=>
  simp only[uV]at h;have:=hx p rfl;split at h
  ·exact this.trans (hk _ _ _ _ _ h)
  ·cases h;exact this
theorem kf{E:Env}{S:Self}(hS:ExtS S){rd:Option Nat}:∀{c:ICode} {fr fr':Fr} {s s':St} {res:Res},evC E S rd c fr s=some (res,fr',s')→Ext s s'
 |.skip,fr,fr',s,s',res,h=>by simp only[evC]at h;cases h;exact Ext.refl _
 |.reg ops,fr,fr',s,s',res,h=>by
  simp only[evC]at h;cases he:evS E S ops fr.tm s with
  |none=>rw[he]at h;simp[uI]at h
  |some p=>rw[he]at h;simp only[uI]at h;cases h;exact zxZ hS (tm':=p.1) he
 |.regd ops,fr,fr',s,s',res,h=>by
  simp only[evC,Qg]at h;split at h
  case h_2=>cases h
  rename_i hon
  cases he:evD E S ops 0 [] fr.tm s with
  |none=>rw[he]at h;simp[uI]at h
  |some p=>rw[he]at h;simp only[uI]at h;cases h;exact zxY hS hon (fun e he=>by simp at he) (tm':=p.1) he
 |.seq a b,fr,fr',s,s',res,h=>by
  simp only[evC]at h;exact Gn (fun p hp=>kf hS (res:=p.1) (fr':=p.2.1) hp) (fun fr s res fr' s' h=>kf hS h) h
 |.cond c a b,fr,fr',s,s',res,h=>by
  simp only[evC,WR]at h;split at h
  ·exact kf hS h
  ·exact kf hS h
  ·cases h
 | .block id b,fr,fr',s,s',res,h=>by
  simp only[evC]at h;cases he:evC E S rd b fr s with
  |none=>rw[he]at h;simp[jR]at h
  | some p=>
   have:=kf hS (res:=p.1) (fr':=p.2.1) (s':=p.2.2) he;rw[he]at h;simp only[jR]at h;split at h
   ·rename_i i _
    cases hb:zb i id with
    |true=>rw[hb]at h;simp only[cond_true,Option.some.injEq,Prod.mk.injEq]at h;rw[h.2]at this;exact this
    |false=>rw[hb]at h;simp only[cond_false]at h;cases h;exact this
   ·cases h;exact this
 |.loop b,fr,fr',s,s',res,h=>by
  simp only[evC]at h;exact Gn (fun p hp=>kf hS (res:=p.1) (fr':=p.2.1) hp) (fun fr s res fr' s' h=>hS.loop _ _ _ _ _ _ _ h) h
 |.exit id,fr,fr',s,s',res,h=>by simp only[evC]at h;cases h;exact Ext.refl _
 |.ret,fr,fr',s,s',res,h=>by simp only[evC]at h;cases h;exact Ext.refl _
 | .rf g ps asg body,fr,fr',s,s',res,h=>by
  simp only[evC,rfR]at h;split at h
  ·split at h
   ·rename_i f a c _
    cases he:S.call f (a++ .yld (Nat.succ s.next)::c) ((s.alloc .dfd).alloc (.loop .ready none fr.tm ps asg body s.next))with
    |none=>rw[he]at h;simp[gZ]at h
    | some p=>
     have:=((kR s .dfd).trans (kR (s.alloc .dfd) (.loop .ready none fr.tm ps asg body s.next))).trans (hS.call _ _ _ p.1 p.2 he)
     rw[he]at h;simp only[gZ]at h;split at h
     ·rename_i hg
      split at h
      ·cases h
      ·cases h;exact this.trans (vf hg)
     ·cases h
   ·cases h
  ·cases h
 |.stk,fr,fr',s,s',res,h=>by simp[evC]at h
theorem Yl:∀{l:List Nat} {s s':St},qf s l=some s'→Ext s s'
 |[],s,s',h=>by simp only[qf,Option.some.injEq]at h;exact qj h.symm
 |d::r,s,s',h=>by
  simp only[qf]at h;split at h
  ·rename_i hg;exact(vf hg).trans (Yl h)
  ·cases h
theorem JD(hS:ExtS S){F:IFunc}{args:List AV}(h:pR E S F args s=some (v,s')):Ext s s':=by
 unfold pR at h;cases he:evC E S none F.body {tm:=wL .leaf 0 args,df:=[]} s with
 |none=>rw[he]at h;simp[wT]at h
 | some p=>
  have:=kf hS (res:=p.1) (fr':=p.2.1) (s':=p.2.2) he;rw[he]at h;simp only[wT]at h;split at h
  ·cases h
  ·split at h
   ·rename_i s1 hm
    have h2:=this.trans (Yl hm);unfold YR at h;split at h
    ·cases h;exact h2
    ·cases h
   ·cases h
theorem Ext.sub{t:St}{b c:Bool}(h:Ext {s with wm:=0,md:=b} t):Ext s {t with wm:=yV s.wm t.wm,md:=c} where
 next:=h.next
 wm:=fun i hi=>by show (s.wm|||t.wm).testBit i=true;rw[yS,hi];rfl
 hide:=h.hide
 only:=h.only
 keep:=fun id hid hw=>h.keep id hid (by
  have:(s.wm|||t.wm).testBit id=false:=hw
  rw[yS,yY]at this;exact this.2)
 vis:=h.vis
 wf:=fun hw=>let w:=h.wf ⟨hw.lt,hw.hd⟩;⟨w.lt,w.hd⟩
 wv:=fun id hid hw=>by
  have:(s.wm|||t.wm).testBit id=true:=hw
  rw[yS,zr]at this;rcases this with h1|h1
  ·exact .inl h1
  ·rcases h.wv id hid h1 with h2|h2
   ·have h2':(0:Nat).testBit id=true:=h2;simp at h2'
   ·exact .inr h2
 giv:=fun id o hid ho hg hw=>by
  have:(s.wm|||t.wm).testBit id=true:=hw
  rw[yS,zr]at this;rcases this with h1|h1
  ·exact h1
  ·have h2':(0:Nat).testBit id=true:=h.giv id o hid ho hg h1;simp at h2'
theorem Ext.remd{t:St}{b c:Bool}(h:Ext {s with md:=b} t):Ext s {t with md:=c}:=
 ⟨h.next,h.wm,h.hide,h.only,h.keep,h.vis,fun hw=>let w:=h.wf ⟨hw.lt,hw.hd⟩;⟨w.lt,w.hd⟩,h.wv,h.giv⟩
theorem zvp(hS:ExtS S){f:Nat}{args:List AV}(h:vz E S f args s=some (v,s')):Ext s s':=by
 obtain⟨F,_,_,⟨u,t,hb,⟨_,_,rfl⟩|⟨rfl,rfl⟩⟩|⟨t,hb,rfl⟩⟩:=XY h
 ·exact Ext.refl s'
 ·exact(JD hS hb).sub
 ·exact(JD hS hb).remd
theorem zxi(hS:ExtS S){l:Nat}{args:List AV}(h:ja E S l args s=some (v,s')):Ext s s':=by
 unfold ja at h;split at h
 ·rename_i tm ps asg bd d _
  split at h
  ·rename_i tm1 _
   cases he:evC E S (some l) asg {tm:=tm1,df:=[]} s with
   |none=>rw[he]at h;simp[vc]at h
   | some p=>
    have h1:=kf hS (res:=p.1) (fr':=p.2.1) (s':=p.2.2) he;rw[he]at h;simp only[vc]at h;split at h
    ·split at h
     ·rename_i pend tm ps asg body d hg
      cases he2:evC E S (some l) bd p.2.1 (p.2.2.put l (.loop .busy pend tm ps asg body d))with
      |none=>rw[he2]at h;simp[ue]at h
      | some q=>
       have h2:=(h1.trans (vf (o':=.loop .busy pend tm ps asg body d) hg)).trans (kf hS (res:=q.1) (fr':=q.2.1) (s':=q.2.2) he2);rw[he2]at h;simp only[ue]at h;split at h
       ·rename_i hg2
        split at h
        ·cases h;exact h2.trans (vf hg2)
        ·cases h;exact h2.trans (vf hg2)
       ·cases h
     ·cases h
    ·cases h
  ·cases h
 ·cases h
structure Wide(F:Fence):Prop where
 fn:∀f,F.fn f
 depth:F.depth=none
 alive:F.alive=false
def Fresh(φ:Phi)(s _s':St):Prop:=∀id,s.next≤id→φ id=none
theorem Fresh.left{s1:St}(h:Fresh φ s s')(_h1:s1.next≤s'.next):Fresh φ s s1:=h
theorem Fresh.right{φ1:Phi}{s1:St}(h:Fresh φ s s')(h0:s.next≤s1.next)(hs:∀id,(id<s.next∨s1.next≤id)→φ1 id=φ id):Fresh φ1 s1 s':=
 fun id a=>by rw[hs id (.inr a)];exact h id oM
def QZ(P:Program)(w0:World)(φ:Phi)(s:St)(w:World)(v:AV)(s':St)(e:Ending)(w':World):Prop:=
 ∃φ' x,e=.returned x∧Step P w0 φ s w φ' s' w'∧VR φ' v x
def Res.ex:Res→Exit
 |.norm=>.normal
 |.exit id=>.exit id
 |.ret=>.ret
def DfRel(φ:Phi):List Nat→List Deferred→Prop
 |[],ds=>ds=[]
 |d::r,ds=>∃B ds',φ d=some B∧ds={target:=.collected B.b,args:=#[]}::ds'∧DfRel φ r ds'
theorem DfRel.mono(h:Sub φ φ'):∀{l:List Nat} {ds:List Deferred},DfRel φ l ds→DfRel φ' l ds
 |[],_,t=>t
 |d::r,_,t=>by obtain⟨B,ds',h1,h2,h3⟩:=t;exact⟨B,ds',h _ _ h1,h2,h3.mono h⟩
structure FrRel(φ:Phi)(nt:Nat)(fr:Fr)(a:Act):Prop where
 tm:TmRel φ fr.tm a.tmps
 size:a.tmps.size=nt
 df:DfRel φ fr.df a.defers
def WC(P:Program)(w0:World)(φ:Phi)(nt:Nat)(s:St)(w:World)(res:Res)(fr':Fr)(s':St)(e:Exit)(a':Act)(w':World):Prop:=
 ∃φ',e=res.ex∧Step P w0 φ s w φ' s' w'∧FrRel φ' nt fr' a'
def LoopIn(F:Fence)(n:Nat)(P:Program)(c:Code)(Q:Exit→Act→World→Prop)(a:Act)(w:World):Prop:=
 ∀(b:Frame) (k:List Item) (cs:List Frame),b.roundOf=F.round→F.fn b.fn→F.room (cs.length+1+n)→
  ∃e a' w',Q e a' w'∧ArrivesIn (Machine.fenced P F) P (lone (b.atR a (.code c::.inLoop c::k)) cs w) b k cs e a' w'
theorem Zm{F:Fence}{c:Code}{Q:Exit→Act→World→Prop}{a:Act}(h:c.wpIn F n P (Exit.then (LoopIn F n P c Q) Q) a w):LoopIn F n P c Q a w:=by
 intro b k cs hro hb hr;obtain⟨e,a₁,w₁,hq,harr⟩:=h b (.inLoop c::k) cs hro hb hr;cases e with
 |normal=>
  obtain⟨e₂,a₂,w₂,hq₂,harr₂⟩:=hq b k cs hro hb hr;exact⟨e₂,a₂,w₂,hq₂,.of_steps (StepsIn.trans harr (.one (fenced_calm hb hr rfl) stepR_inLoop)) harr₂⟩
 |exit id=>exact⟨_,a₁,w₁,hq,.pass (x:=.inLoop c) rfl (fun _ _=>.inl (by simp)) harr⟩
 |goto l=>exact⟨_,a₁,w₁,hq,.pass (x:=.inLoop c) rfl (fun _ _=>.inl (by simp)) harr⟩
 |ret=>exact⟨_,a₁,w₁,hq,.pass (x:=.inLoop c) rfl (fun _ _=>.inl (by simp)) harr⟩
 |panic ch=>exact⟨_,a₁,w₁,hq,.pass (x:=.inLoop c) rfl (fun _ _=>.inl (by simp)) harr⟩
 |outgrown=>exact⟨_,a₁,w₁,hq,.pass (x:=.inLoop c) rfl (fun _ _=>.inl (by simp)) harr⟩
theorem ZI{F:Fence}{c:Code}{Q:Exit→Act→World→Prop}{a:Act}(h:LoopIn F n P c Q a w):(Code.loop c).wpIn F n P Q a w:=by
 intro b k cs hro hb hr;obtain⟨e,a',w',hq,harr⟩:=h b k cs hro hb hr;exact⟨e,a',w',hq,.of_steps (.one (fenced_calm hb hr rfl) stepR_loop) harr⟩
theorem LoopIn.mono{F:Fence}{c:Code}{Q Q':Exit→Act→World→Prop}{a:Act}{w:World}(h:LoopIn F n P c Q a w)(hq:∀e a w,Q e a w→Q' e a w):LoopIn F n P c Q' a w:=
 fun b k cs hro hb hr=>let ⟨e,a',w',q,r⟩:=h b k cs hro hb hr;⟨e,a',w',hq _ _ _ q,r⟩
structure SelfOk(P:Program)(w0:World)(S:Self):Prop where
 mono:Mono S
 ext:ExtS S
 call:∀{f args s v s'},S.call f args s=some (v,s')→(∃fn,P.funcs[f]? =some fn∧fn.body.isSome=true∧(fn.name== "runtime.NumGoroutine")=false)∧
  ∀{φ w xs},Rel P w0 φ s.get w→Wf s→Fresh φ s s'→VRL φ args xs→∀F n,Wide F→CallsIn F n P f xs.toArray w (QZ P w0 φ s w v s')
 round:∀{l args s v s'},S.round l args s=some (v,s')→∀{φ w xs B},Rel P w0 φ s.get w→Wf s→Fresh φ s s'→VRL φ args xs→φ l=some B→
  ∃L,w.heap[B.b]? =some (.loop L)∧xs.length=L.params.size∧∀F n,Wide F→RoundIn F n P B.b L.fn ((L.params.zip xs.toArray).foldl (fun t (p,v)=>t.setIfInBounds p v) L.tmps) L.assign L.body w (QZ P w0 φ s w v s')
 loop:∀{rd b fr s res fr' s'},S.loop rd b fr s=some (res,fr',s')→∀{nt c φ w a},cC P nt c=some b→Rel P w0 φ s.get w→Wf s→Fresh φ s s'→FrRel φ nt fr a→
  ∀F n,Wide F→(rd=none→F.round=none)→LoopIn F n P c (WC P w0 φ nt s w res fr' s') a w
section
variable {P:Program}{w0:World}{φ:Phi}{s s':St}{w:World}{tm:Trie AV}{a:Act}{o:Oper}{v:AV}{E:Env}{S:Self}
theorem YI{x:Option IOp}(h:Qa x=some op):x=some op∧Wm op=true:=by
 cases x with
 |none=>simp[Qa]at h
 |some i=>
  simp only[Qa]at h;cases hb:Wm i with
  |true=>rw[hb]at h;simp at h;subst h;exact⟨rfl,hb⟩
  |false=>rw[hb]at h;simp at h
theorem JF{x:Op}{op:IOp}(h:cOp P x=some op):
  (qc P x=some op∧Wm op=true)∨∃c,x=.call c∧
   ((∃f l,c.callee=.value (.func f)∧op=.call f l∧lA c.args.toList=some l)∨∃y y' l,c.callee=.value y∧op=.cv y' l∧qr y=some y'∧lA c.args.toList=some l):=by
 by_cases hx:∃c,x=.call c
 ·obtain⟨c,rfl⟩:=hx;simp only[cOp,zlx]at h;split at h
  ·rename_i f hcal
   split at h
   ·cases h
   ·rename_i fn _
    cases hb:fn.body.isSome with
    |true=>
     rw[hb]at h;simp only[cond_true]at h;obtain⟨y,hy,he⟩:=Option.map_eq_some_iff.1 h;exact .inr ⟨c,rfl,.inl ⟨f,y,hcal,he.symm,hy⟩⟩
    |false=>rw[hb]at h;simp only[cond_false]at h;exact .inl (YI h)
  ·rename_i y _ hcal
   split at h
   ·rename_i y' l q1 q2
    simp only[Option.some.injEq]at h;exact .inr ⟨c,rfl,.inr ⟨y,y',l,hcal,h.symm,q1,q2⟩⟩
   ·cases h
  ·exact .inl (YI h)
 ·have:cOp P x=Qa (qc P x):=by
   cases x<;>first|rfl|exact absurd ⟨_,rfl⟩ hx
  rw[this]at h;exact .inl (YI h)
theorem KU(hc:cOp P o.op=some op):∀c,o.op≠.defer c:=fun c h=>by rw[h]at hc;simp[cOp,Qa,qc]at hc
theorem pn{f:Nat}{fn:Func}{xs:Array Value}(h:P.funcs[f]? =some fn)(hb:fn.body.isSome=true)(hn:(fn.name== "runtime.NumGoroutine")=false):(callFunc f xs).run P w=.ok (.enter f xs) w:=by
 have hb':fn.body.isNone=false:=by cases hh:fn.body<;>simp[hh]at hb⊢
 simp only[callFunc,Sem.run_bind,run_program,Result.andThen_ok,h,hn,hb',Bool.false_eq_true,if_false,Sem.run_pure]
theorem Pt(l:Array Operand)(f:Operand→Value):(l.toList.map f).toArray=l.map f:=by apply yG;simp
theorem VQ(hS:SelfOk P w0 S)(hG:x8 E.globs w0)(hc:cOp P o.op=some op)(h:qA E S op tm s=some (v,s'))
  (r:Rel P w0 φ s.get w) (hwf:Wf s) (hf:Fresh φ s s') (ht:TmOn φ (Opd.tmps op.opds) tm a) {F:Fence} (hF:Wide F) {next:Act→World→Prop} {Q:Exit→Act→World→Prop}
  (hn:∀φ' x w',Step P w0 φ s w φ' s' w'→VR φ' v x→next (a.put o.dst x) w'):o.wpIn F n P a w next Q:=by
 have hvac:F.depth.isSome=true→1≤n:=fun h=>by rw[hF.depth]at h;cases h
 refine⟨fun f _=>hF.fn f,?_⟩;rw[Oper.semAt_eq _ _ _ (KU hc)];have hcall:∀{f args xs},S.call f args s=some (v,s')→VRL φ args xs→(∀fn,P.funcs[f]? =some fn→fn.body.isSome=true→(fn.name== "runtime.NumGoroutine")=false→(execOp a.eval o).run P w=.ok (.enter f xs.toArray) w)→o.uponIn F n P a next Q ((execOp a.eval o).run P w):=fun{f args xs} h1 h2 h3=>by
  obtain⟨⟨fn,g1,g2,g3⟩,g4⟩:=hS.call h1;rw[h3 fn g1 g2 g3,Oper.uponIn_enter];refine⟨hvac,CallsIn.mono (g4 r hwf hf h2 F (n-1) hF) ?_⟩
  rintro e w' ⟨φ',x,rfl,k2,k3⟩
  exact hn φ' x w' k2 k3
 rcases JF hc with ⟨hv,hnc⟩|⟨c,hop,⟨f,l,hcal,rfl,hl⟩|⟨y,y',l,hcal,rfl,hy,hl⟩⟩
 ·have hv2:opv E op tm s=some (v,s'):=by
   rw[gu]at h;split at h
   ·simp[Wm]at hnc
   ·simp[Wm]at hnc
   ·exact h
  obtain⟨φ',x,w',h1,h2,h3⟩:=zuT hG hv hv2 r hwf (fun hlt=>hf _ (zu _)) ht;rcases h1 with h1|⟨h1,rfl⟩
  ·rw[h1,Oper.uponIn_value];exact hn φ' x w' h2 h3
  ·rw[h1,Oper.uponIn_skip];exact hn φ' _ w' h2 h3
 ·simp only[gu,LV]at h;split at h
  ·rename_i vs hvs
   refine hcall h (ju hl hvs (ZG ht (by simp[IOp.opds]))) fun fn g1 g2 g3=>?_
   rw[Pt];unfold execOp;rw[hop];simp[resolve,hcal,Act.eval,Deferred.ofValue,invoke,pn g1 g2 g3]
  ·cases h
 ·simp only[gu,GT]at h;split at h
  ·rename_i vs hvs
   have hargs:=ju (φ:=φ) (a:=a) hl hvs (ZG ht (by simp[IOp.opds];intro x hx;exact .inr hx))
   split at h
   ·rename_i f u k hfn
    have hfv:=xV (φ:=φ) (a:=a) hy hfn (wS ht (by simp[IOp.opds]))
    simp only[VR]at hfv;obtain⟨xs,ys,e1,e2,e3⟩:=hfv;refine hcall h (VRL.append (VRL.append e2 hargs) e3) fun fn g1 g2 g3=>?_;have:(xs++c.args.toList.map a.eval++ys).toArray=xs.toArray++c.args.map a.eval++ys.toArray:=by apply yG;simp
    rw[this];unfold execOp;rw[hop];simp only[resolve,hcal,e1,Deferred.ofValue,invoke,Sem.run_bind,Sem.run_pure,Result.andThen_ok];exact pn g1 g2 g3
   ·rename_i lid hfn
    have hfv:=xV (φ:=φ) (a:=a) hy hfn (wS ht (by simp[IOp.opds]))
    simp only[VR]at hfv;obtain⟨B,hB,e1⟩:=hfv;obtain⟨L,g1,g2,g3⟩:=hS.round h r hwf hf hargs hB;have hrun:(execOp a.eval o).run P w=.ok (.round B.b L.fn ((L.params.zip (c.args.map a.eval)).foldl (fun t (p,v)=>t.setIfInBounds p v) L.tmps) L.assign L.body) w:=by
     unfold execOp;rw[hop];simp only[resolve,hcal,e1,Deferred.ofValue,invoke,Sem.run_bind,Sem.run_pure,Result.andThen_ok,Array.empty_append];exact run_yield g1 (by rw[←g2];simp)
    rw[hrun,Oper.uponIn_round];refine⟨hvac,?_⟩;have:=g3 F (n-1) hF;rw[Pt]at this;refine RoundIn.mono this ?_
    rintro e w' ⟨φ',x,rfl,k2,k3⟩
    exact hn φ' x w' k2 k3
   ·cases h
  ·cases h
end
theorem V8(t:Array Value)(d i:Nat)(x:Value)(hd:d<t.size):(t.setIfInBounds d x).getD i undef=if i=d then x else t.getD i undef:=by
 simp only[yT,Array.getElem?_setIfInBounds];by_cases h:d=i
 ·subst h;simp[hd]
 ·rw[if_neg h,if_neg (Ne.symm h)]
theorem TmRel.set{t:Array Value}(h:TmRel φ tm t){d:Nat}(hd:d<t.size){x:Value}(hv:VR φ v x):TmRel φ (tm.set d v) (t.setIfInBounds d x):=by
 intro i u hu;rw[Trie.get_set]at hu;rw[V8 _ _ _ _ hd];by_cases e:i=d
 ·rw[if_pos e]at hu⊢;cases hu;exact hv
 ·rw[if_neg e]at hu⊢;exact h i u hu
theorem zll{b:Bool}(h:VR φ v (.bool b)):v=.bool b:=by
 cases v<;>simp only[VR]at h<;>first
  |(cases h;rfl)
  |(obtain⟨_,⟨_,_,h⟩|⟨_,_,_,_,h,_⟩⟩:=h<;>(cases h;done))
  |(obtain⟨_,_,_,_,_,_,_,h,_⟩:=h;cases h;done)
  |(obtain⟨_,_,_,_,h,_⟩:=h;cases h;done)
  |(cases h;done)
  |(obtain⟨_,h,_⟩:=h;cases h;done)
  |(obtain⟨_,_,h⟩:=h;cases h;done)
  |(obtain⟨_,_,_,h,_⟩:=h;cases h;done)
  |(obtain⟨_,_,h,_⟩:=h;cases h;done)
section
variable {P:Program}{w0:World}{φ:Phi}{s s':St}{w:World}{tm tm':Trie AV}{a:Act}{o:Oper}{v:AV}{E:Env}{S:Self}
def Uc:Option (Nat×Bool)→List Nat
 |some (d,_)=>[d]
 |none=>[]
theorem zqC(o:SOper):o.names=Opd.tmps o.op.opds++Uc o.guard:=by
 unfold SOper.names Uc;cases o.guard<;>rfl
theorem kx{ops:Array Oper}{g:Option (Nat×Bool)}{b:Bool}(hg:Vd ops o.guard=some g)(h:kF g tm=some b)(ht:TmOn φ (Uc g) tm a):Region.wanted o (yielded ops a.tmps)=b:=by
 unfold Region.wanted;cases hog:o.guard with
 |none=>rw[hog]at hg;simp[Vd]at hg;subst hg;simp[kF]at h;simp[h]
 | some p=>
  obtain⟨j,wt⟩:=p;rw[hog]at hg;simp only[Vd]at hg;split at hg
  ·rename_i o' ho'
   split at hg
   ·rename_i d hd
    simp only[Option.some.injEq]at hg;subst hg;simp only[kF]at h;have hy:yielded ops a.tmps j=(match a.tmps[d]? with|some (.bool b)=>some b|_=>none):=by unfold yielded;rw[ho'];simp only[Option.bind_some,hd];rfl
    simp only[hy];have hgd:a.tmps.getD d undef=(a.tmps[d]?).getD undef:=by simp[yT]
    split at h
    ·rename_i b' hb'
     simp only[Option.some.injEq]at h;have:=ht d (by simp[Uc]) _ hb'
     simp only[VR]at this;rw[hgd]at this;cases ht2:a.tmps[d]? with
     |none=>rw[ht2]at this;simp[undef]at this
     |some x=>rw[ht2]at this;simp at this;subst this;simp only;rw[←h];cases b'<;>cases wt<;>rfl
    ·rename_i u hnb hu
     simp only[Option.some.injEq]at h;subst h;have:=ht d (by simp[Uc]) _ hu
     rw[hgd]at this;cases ht2:a.tmps[d]? with
     |none=>rfl
     | some x=>
      rw[ht2]at this;simp only[Option.getD_some]at this
      cases x<;>first
       |rfl
       |(exact absurd (zll this) (fun e=>hnb _ e))
    ·cases h
   ·cases hg
  ·cases hg
theorem GH{nt:Nat}{ops:Array Oper}{so:SOper}(h:cS P nt ops o=some so):Vd ops o.guard=some so.guard∧so.op=zz1 P o.op∧so.dst=o.dst∧∀d,o.dst=some d→d<nt:=by
 unfold cS at h;split at h
 ·rename_i op g hop hg
  split at h
  ·rename_i d hd
   cases hb:zg d nt with
   |false=>rw[hb]at h;simp at h
   |true=>rw[hb]at h;simp only[cond_true,Option.some.injEq]at h;subst h;exact⟨hg,rfl,hd.symm,fun d' h'=>by rw[hd]at h';cases h';exact wK.1 hb⟩
  ·rename_i hd
   simp only[Option.some.injEq]at h;subst h;exact⟨hg,rfl,hd.symm,fun d' h'=>by rw[hd]at h';cases h'⟩
 ·cases h
theorem JE{x:Op}{p:AV×St}(h:qA E S (zz1 P x) tm s=some p):∃op,cOp P x=some op∧zz1 P x=op:=by
 unfold zz1 at h⊢;cases hc:cOp P x with
 |none=>rw[hc]at h;simp[qA,opv]at h
 |some op=>exact⟨op,rfl,by simp⟩
def zxF(φ':Phi)(nt:Nat)(tm':Trie AV)(a a':Act):Prop:=TmRel φ' tm' a'.tmps∧a'.tmps.size=nt∧a'.defers=a.defers
theorem zxg{nt:Nat}{dst:Option Nat}{x:Value}(ht:TmRel φ' tm a.tmps)(hsz:a.tmps.size=nt)(hd:∀d,dst=some d→d<nt)(hv:VR φ' v x):zxF φ' nt (qS tm dst v) a (a.put dst x):=by
 cases dst with
 |none=>exact⟨ht,hsz,rfl⟩
 |some d=>exact⟨ht.set (by rw[hsz];exact hd d rfl) hv,by simp[Act.put,hsz],rfl⟩
theorem zzh(hS:SelfOk P w0 S)(hG:x8 E.globs w0){nt:Nat}{ops:Array Oper}{so:SOper}(hc:cS P nt ops o=some so)(h:lR E S so tm s=some (tm',s'))
  (r:Rel P w0 φ s.get w) (hwf:Wf s) (hf:Fresh φ s s') (ht:TmRel φ tm a.tmps) (hsz:a.tmps.size=nt) {F:Fence} (hF:Wide F) {next:Act→World→Prop} {Q:Exit→Act→World→Prop}
  (hn:∀φ' a' w',Step P w0 φ s w φ' s' w'→zxF φ' nt tm' a a'→next a' w'):
  if Region.wanted o (yielded ops a.tmps)then o.wpIn F n P a w next Q else (∀f,o.about P w a.eval=some f→F.fn f)∧next (a.put o.dst undef) w:=by
 obtain⟨hg,hop,hdst,hlt⟩:=GH hc;unfold lR at h;split at h
 ·rename_i hw
  rw[kx hg hw (TmOn.of ht),if_pos rfl];cases he:qA E S so.op tm s with
  |none=>rw[he]at h;simp[stS]at h
  |some p=>
   rw[he]at h;simp only[stS,Option.some.injEq,Prod.mk.injEq]at h;obtain⟨h1,h2⟩:=h;rw[hop]at he;obtain⟨op,hc1,hc2⟩:=JE he;rw[hc2]at he;subst h2;refine VQ hS hG hc1 (v:=p.1) (s':=p.2) he r hwf hf (TmOn.of ht) hF fun φ' x w' k1 k2=>hn φ' _ w' k1 ?_;rw[←h1,hdst];exact zxg (ht.mono (k1.sub hf)) hsz hlt k2
 ·rename_i hw
  rw[kx hg hw (TmOn.of ht)];simp only[Bool.false_eq_true,if_false];simp only[Option.some.injEq,Prod.mk.injEq]at h;obtain⟨h1,h2⟩:=h;subst h2;refine⟨fun f _=>hF.fn f,hn φ _ w (Step.refl r) ?_⟩;rw[←h1,hdst];exact zxg ht hsz hlt (Z7 φ)
 ·cases h
theorem X8(hS:SelfOk P w0 S)(hG:x8 E.globs w0){nt:Nat}{ops:Array Oper}{F:Fence}(hF:Wide F){n:Nat}{Q:Exit→Act→World→Prop}:
  ∀(rest:List Oper) (k:Nat) {l:List SOper} {tm tm':Trie AV} {s s':St} {φ:Phi} {w:World} {a:Act},ops.toList.drop k=rest→cSs P nt ops rest=some l→evS E S l tm s=some (tm',s')→Rel P w0 φ s.get w→Wf s→Fresh φ s s'→TmRel φ tm a.tmps→a.tmps.size=nt→
  (∀φ' a' w',Step P w0 φ s w φ' s' w'→zxF φ' nt tm' a a'→Q .normal a' w')→wpOpsIn F n P ops Q (List.range' k rest.length) a w
 |[],k,l,tm,tm',s,s',φ,w,a,hd,hc,h,r,hwf,hf,ht,hsz,hQ=>by
  simp[cSs]at hc;subst hc;simp only[evS,Option.some.injEq,Prod.mk.injEq]at h;obtain⟨rfl,rfl⟩:=h;simp only[List.length_nil,List.range'_zero,wpOpsIn];exact hQ φ a w (Step.refl r) ⟨ht,hsz,rfl⟩
 | o::rest,k,l,tm,tm',s,s',φ,w,a,hd,hc,h,r,hwf,hf,ht,hsz,hQ=>by
  simp only[cSs]at hc;split at hc
  ·rename_i so l' hso hl'
   simp only[Option.some.injEq]at hc;subst hc;simp only[evS]at h;split at h
   ·rename_i p hp
    have hk:ops[k]? =some o:=by rw[←Array.getElem?_toList];have:=congrArg (fun l=>l[0]?) hd;simpa using this
    have hd':ops.toList.drop (k+1)=rest:=by rw[←List.drop_drop,hd];rfl
    simp only[List.length_cons,List.range'_succ,wpOpsIn,hk];have hn1:=UK hS.mono (tm':=p.1) (s':=p.2) hp;have hn2:=VS hS.mono h;refine zzh hS hG hso (tm':=p.1) (s':=p.2) hp r hwf (hf.left hn2) ht hsz hF fun φ1 a1 w1 k1 k2=>?_;refine X8 hS hG hF rest (k+1) hd' hl' h k1.rel (k1.ext.wf hwf) (hf.right hn1 k1.same) k2.1 k2.2.1 fun φ2 a2 w2 k3 k4=>?_;exact hQ φ2 a2 w2 (Step.trans hwf k1 k3) ⟨k4.1,k4.2.1,k4.2.2.trans k2.2.2⟩
   ·cases h
  ·cases hc
end
open Go.RowKit (Below)
structure DrawOk(P:Program)(w0:World)(E:Env)(S:Self):Prop where
 ord:∀{id nt:Nat} {ops:Array Oper} {ds:List DOper} {tm tm':Trie AV} {s s':St} {φ:Phi} {w:World} {a:Act} {F:Fence} {n:Nat} {Q:Exit→Act→World→Prop},H7 P nt ops=some ds→s.only=none→evD E S ds 0 [] tm s=some (tm',s')→Rel P w0 φ s.get w→Wf s→Fresh φ s s'→TmRel φ tm a.tmps→a.tmps.size=nt→Wide F→
  (∀φ' a' w',Step P w0 φ s w φ' s' w'→zxF φ' nt tm' a a'→Q .normal a' w')→(Code.region id ops true).wpIn F n P Q a w
theorem Rel.below{G:Nat→Option AObj}(r:Rel P w0 φ G w)(hb:Below w.heap.size w w'):Rel P w0 φ G w':=by
 have hs:=r.base.size;refine⟨⟨hb.os.trans r.base.os,hb.tape.trans r.base.tape,hb.output.trans r.base.output,zA hs hb.size,fun k hk=>(hb.block k oM).trans (r.base.block k hk)⟩,fun id o h=>?_,fun id B h=>Nat.lt_of_lt_of_le (r.rng id B h) hb.size,r.old,r.inj,fun b o v hz=>?_,r.sep⟩
 ·obtain⟨B,hB,t⟩:=r.obj id o h;exact⟨B,hB,t.keep (Sub.refl _) (hb.block _ (r.rng id B hB))⟩
 ·obtain⟨c,e,fr,h1,h2⟩:=r.frz b o v hz;exact⟨c,e,fr,(hb.block b (r.zlt hz)).trans h1,h2⟩
theorem Step.below(r:Rel P w0 φ s.get w)(hb:Below w.heap.size w w'):Step P w0 φ s w φ s w':=
 ⟨Ext.refl s,r.below hb,fun _ _=>rfl,hb.size,fun b hlt _=>hb.block b hlt,fun id _ h1 h2=>absurd h2 oM,fun _ _ _ h=>h,fun _ _ _ h=>.inl h⟩
section
variable {P:Program}{w0:World}{E:Env}{S:Self}
theorem zpC{F:Fence}{Q:Exit→Act→World→Prop}{a:Act}(r:Res)(h:Q r.ex a w):r.code.wpIn F n P Q a w:=by
 cases r with
 |norm=>exact wpIn_skip h
 |exit id=>exact wpIn_exit h
 |ret=>exact wpIn_ret h
theorem pY{φ1:Phi}{nt:Nat}{s1 s2:St}{w1:World}{res:Res}{fr':Fr}{e:Exit}{a':Act}(hwf:Wf s)(h1:Step P w0 φ s w φ1 s1 w1)(h2:WC P w0 φ1 nt s1 w1 res fr' s2 e a' w'):WC P w0 φ nt s w res fr' s2 e a' w':=by
 obtain⟨φ',e1,k1,k2⟩:=h2;exact⟨φ',e1,Step.trans hwf h1 k1,k2⟩
theorem YW{nt:Nat}{s1:St}{res1 res:Res}{fr1 fr':Fr}{k:Fr→St→Option (Res×Fr×St)}{K:Act→World→Prop}(_hwf:Wf s)(hf:Fresh φ s s')(hs1:s.next≤s1.next)(h:uV k (some (res1,fr1,s1))=some (res,fr',s'))
  (hK:∀φ1 a1 w1,k fr1 s1=some (res,fr',s')→Step P w0 φ s w φ1 s1 w1→FrRel φ1 nt fr1 a1→Fresh φ1 s1 s'→K a1 w1):
  ∀e a1 w1,WC P w0 φ nt s w res1 fr1 s1 e a1 w1→Exit.then K (WC P w0 φ nt s w res fr' s') e a1 w1:=by
 rintro e a1 w1 ⟨φ1,rfl,k1,k2⟩
 simp only[uV]at h;cases res1 with
 |norm=>
  simp only at h;exact hK φ1 a1 w1 h k1 k2 (hf.right hs1 k1.same)
 |exit id=>simp only[Option.some.injEq,Prod.mk.injEq]at h;obtain⟨rfl,rfl,rfl⟩:=h;exact⟨φ1,rfl,k1,k2⟩
 |ret=>simp only[Option.some.injEq,Prod.mk.injEq]at h;obtain⟨rfl,rfl,rfl⟩:=h;exact⟨φ1,rfl,k1,k2⟩
theorem zlU{ps:Array Nat}{nt:Nat}(h:ps.all (Nat.blt · nt)=true):∀q∈ps.toList,q<nt:=by
 intro q hq;rw[←Array.all_toList,List.all_eq_true]at h;exact wK.1 (h q hq)
theorem zpD(hS:SelfOk P w0 S){F:Fence}{nt:Nat}(hF:Wide F){g:Operand}{g':Opd}{ps:Array Tmp}{asg body:Code}{ia ib:ICode}{rd:Option Nat}{fr fr':Fr}{res:Res}{a:Act}
  (hg:qr g=some g') (ha:cC P nt asg=some ia) (hb:cC P nt body=some ib) (hps:ps.all (zg · nt)=true) (h:rfR S rd (g'.ev fr.tm) ps.toList ia ib fr s=some (res,fr',s'))
  (r:Rel P w0 φ s.get w) (hwf:Wf s) (hf:Fresh φ s s') (hfr:FrRel φ nt fr a) (hrd:rd=none→F.round=none):(Code.rangeFunc g ps asg body).wpIn F n P (WC P w0 φ nt s w res fr' s') a w:=by
 unfold rfR at h;split at h
 ·have hro:=hrd rfl;split at h
  ·rename_i f u k hfn
   cases he:S.call f (u++ .yld (Nat.succ s.next)::k) ((s.alloc .dfd).alloc (.loop .ready none fr.tm ps.toList ia ib s.next))with
   |none=>rw[he]at h;simp[gZ]at h
   | some p=>
    have hnx:=hS.mono.call _ _ _ p.1 p.2 he;rw[v9,v9]at hnx;have hs':p.2.next=s'.next:=by
     rw[he]at h;simp only[gZ]at h;split at h
     ·split at h
      ·cases h
      ·cases h;rfl
     ·cases h
    have hfv:=xV (φ:=φ) (a:=a) hg hfn (TmOn.of hfr.tm);simp only[VR]at hfv;obtain⟨xs,ys,e1,e2,e3⟩:=hfv;have hf1:φ s.next=none:=hf _ (zu _)
    have hf2:φ (s.next+1)=none:=hf _ oM
    refine wpIn_rangeFunc fun fn _=>?_;rw[hro];obtain⟨L,hL⟩:∃L:Loop,L={state:=.ready,pending:=none,fn:=fn,tmps:=a.tmps,params:=ps,assign:=asg,body:=body,defers:=w.heap.size}:=⟨_,rfl⟩;obtain⟨W1,hW1⟩:∃W1,W1=w.alloc (.deferred (some [])):=⟨_,rfl⟩;obtain⟨W2,hW2⟩:∃W2,W2=W1.alloc (.loop L):=⟨_,rfl⟩;have hsz1:W1.heap.size=w.heap.size+1:=by rw[hW1];simp
    have st1:Step P w0 φ s w (φ.set s.next ⟨w.heap.size,0,0⟩) (s.alloc .dfd) W1:=Step.alloc r hwf hf1 (by rw[hW1];rfl) (by rw[hW1];rfl) (by rw[hW1];rfl) (by rw[hW1];rfl) (by simp only[ObjRel];rw[hW1];exact World.alloc_heap_new _ _)
    have hf2':(φ.set s.next ⟨w.heap.size,0,0⟩) (s.alloc .dfd).next=none:=by
     exact(if_neg (by rw[v9];omega)).trans hf2
    have hsub1:=Phi.set_sub (B:=⟨w.heap.size,0,0⟩) hf1;have hsub2:=Phi.set_sub (B:=⟨W1.heap.size,0,0⟩) hf2';have st2:Step P w0 (φ.set s.next ⟨w.heap.size,0,0⟩) (s.alloc .dfd) W1 ((φ.set s.next ⟨w.heap.size,0,0⟩).set (s.alloc .dfd).next ⟨W1.heap.size,0,0⟩) ((s.alloc .dfd).alloc (.loop .ready none fr.tm ps.toList ia ib s.next)) W2:=by
     refine Step.alloc st1.rel (st1.ext.wf hwf) hf2' (by rw[hW2];rfl) (by rw[hW2];rfl) (by rw[hW2];rfl) (by rw[hW2];rfl) ⟨L,by rw[hW2];exact World.alloc_heap_new _ _,?_⟩
     rw[hL];refine⟨rfl,rfl,by simp,by simp only;rw[hfr.size];exact ha,by simp only;rw[hfr.size];exact hb,hfr.tm.mono (hsub1.trans hsub2),⟨⟨w.heap.size,0,0⟩,hsub2 _ _ (by simp[Phi.set]),rfl⟩,?_⟩
     intro q hq;simp only;rw[hfr.size];exact zlU hps q hq
    have st:=Step.trans hwf st1 st2;obtain⟨⟨fd,g1,g2,g3⟩,g4⟩:=hS.call he;obtain⟨φ2,hφ2⟩:∃φ2,φ2=(φ.set s.next ⟨w.heap.size,0,0⟩).set (s.alloc .dfd).next ⟨W1.heap.size,0,0⟩:=⟨_,rfl⟩
    rw[←hφ2]at st;have hyl:φ2 (Nat.succ s.next)=some ⟨W1.heap.size,0,0⟩:=by rw[hφ2];simp[Phi.set,v9]
    have hdl:φ2 s.next=some ⟨w.heap.size,0,0⟩:=by rw[hφ2];simp[Phi.set,v9]
    have hfr2:Fresh φ2 ((s.alloc .dfd).alloc (.loop .ready none fr.tm ps.toList ia ib s.next)) p.2:=hf.right (s1:=(s.alloc .dfd).alloc (.loop .ready none fr.tm ps.toList ia ib s.next)) (by rw[v9,v9];omega) st.same
    have hsub:Sub φ φ2:=st.sub hf;have hargs:VRL φ2 (u++ .yld (Nat.succ s.next)::k) (xs++(.func (.yield W1.heap.size) #[] #[])::ys):=VRL.append (VRL.mono hsub _ _ e2) (VRL.cons (by simp only[VR];exact⟨_,hyl,rfl⟩) (VRL.mono hsub _ _ e3))
    refine⟨W1.heap.size,[{target:=.collected w.heap.size,args:=#[]}],W2,{target:=.fn (.func f) ys.toArray,args:=xs.toArray++#[.func (.yield W1.heap.size) #[] #[]]},W2,f,(xs++(.func (.yield W1.heap.size) #[] #[])::ys).toArray,W2,?_,?_,fun f' _=>hF.fn f',?_,fun h=>(by rw[hF.depth]at h;cases h),?_⟩
    ·rw[run_enterLoop_outer,hW2,hW1,hL];simp
    ·simp only[resolve,e1,Deferred.ofValue,Sem.run_pure,List.map_toArray,List.map_cons,List.map_nil];rfl
    ·simp only[invoke];have:xs.toArray++#[.func (.yield W1.heap.size) #[] #[]]++ys.toArray=(xs++(.func (.yield W1.heap.size) #[] #[])::ys).toArray:=by apply yG;simp
     rw[this];exact pn g1 g2 g3
    ·refine CallsIn.mono (g4 st.rel (st.ext.wf hwf) hfr2 hargs F (n-1) hF) ?_
     rintro e w3 ⟨φ3,x,rfl,k1,k2⟩
     rw[he]at h;simp only[gZ]at h;split at h
     ·rename_i lst pend ltm lps lasg lbody ldd hgl
      have hsub3:=k1.sub hfr2;obtain⟨B3,hB3,L3,hh3,hl3⟩:=k1.rel.obj _ _ hgl;rw[hsub3 _ _ hyl]at hB3;cases hB3;simp only at hh3;have hnb:L3.state≠.busy:=by
       rw[hl3.state];intro hbz;cases lst<;>simp[LSt.conc]at hbz
       simp at h
      have hend:=run_endLoop (P:=P) hh3 hnb;have hres:(res,fr',s')=(PT pend,{fr with df:=s.next::fr.df},p.2.put (Nat.succ s.next) (.loop .exhausted pend ltm lps lasg lbody ldd)):=by
       cases lst<;>simp only[Option.some.injEq]at h<;>first|exact h.symm|(cases h;done)
      simp only[Prod.mk.injEq]at hres;obtain⟨hr1,hr2,hr3⟩:=hres;subst hr1;subst hr2;subst hr3;have st3:Step P w0 φ3 p.2 w3 φ3 (p.2.put (Nat.succ s.next) (.loop .exhausted pend ltm lps lasg lbody ldd)) (w3.putObj W1.heap.size (.loop {L3 with state:=.exhausted})):=
       Step.setObj k1.rel hgl (hsub3 _ _ hyl) hh3 (x':=.loop {L3 with state:=.exhausted}) ⟨_,gE hh3,⟨rfl,hl3.pend,hl3.params,hl3.asg,hl3.body,hl3.tm,hl3.df,hl3.ps⟩⟩
      have stF:=Step.trans hwf (Step.trans hwf st k1) st3;have hsubF:Sub φ φ3:=hsub.trans hsub3;have hfrF:FrRel φ3 nt {fr with df:=s.next::fr.df} {a with defers:=[{target:=.collected w.heap.size,args:=#[]}]++a.defers}:=
       ⟨hfr.tm.mono hsubF,hfr.size,⟨⟨w.heap.size,0,0⟩,a.defers,hsub3 _ _ hdl,rfl,hfr.df.mono hsubF⟩⟩
      refine⟨L3.pending,_,hend,?_⟩;have hpend:=hl3.pend;generalize L3.pending=q at hpend stF⊢;subst hpend;cases pend with
      |none=>exact⟨φ3,rfl,stF,hfrF⟩
      |some r0=>exact zpC r0 ⟨φ3,rfl,stF,hfrF⟩
     ·cases h
  ·cases h
 ·cases h
theorem vL(hS:SelfOk P w0 S)(hG:x8 E.globs w0)(hD:DrawOk P w0 E S){F:Fence}{n nt:Nat}(hF:Wide F){rd:Option Nat}(hrd:rd=none→F.round=none):
  ∀(c:Code) {ic:ICode} {fr fr':Fr} {s s':St} {res:Res} {φ:Phi} {w:World} {a:Act},cC P nt c=some ic→evC E S rd ic fr s=some (res,fr',s')→Rel P w0 φ s.get w→Wf s→Fresh φ s s'→FrRel φ nt fr a→
   c.wpIn F n P (WC P w0 φ nt s w res fr' s') a w
 |.skip,ic,fr,fr',s,s',res,φ,w,a,hc,h,r,hwf,hf,hfr=>by
  simp only[cC,Option.some.injEq]at hc;subst hc;simp only[evC,Option.some.injEq,Prod.mk.injEq]at h;obtain⟨rfl,rfl,rfl⟩:=h;exact wpIn_skip ⟨φ,rfl,Step.refl r,hfr⟩
 |.exit id,ic,fr,fr',s,s',res,φ,w,a,hc,h,r,hwf,hf,hfr=>by
  simp only[cC,Option.some.injEq]at hc;subst hc;simp only[evC,Option.some.injEq,Prod.mk.injEq]at h;obtain⟨rfl,rfl,rfl⟩:=h;exact wpIn_exit ⟨φ,rfl,Step.refl r,hfr⟩
 |.ret,ic,fr,fr',s,s',res,φ,w,a,hc,h,r,hwf,hf,hfr=>by
  simp only[cC,Option.some.injEq]at hc;subst hc;simp only[evC,Option.some.injEq,Prod.mk.injEq]at h;obtain⟨rfl,rfl,rfl⟩:=h;exact wpIn_ret ⟨φ,rfl,Step.refl r,hfr⟩
 | .region id ops false,ic,fr,fr',s,s',res,φ,w,a,hc,h,r,hwf,hf,hfr=>by
  simp only[cC]at hc;obtain⟨l,hl,rfl⟩:=Option.map_eq_some_iff.1 hc;simp only[evC]at h;cases he:evS E S l fr.tm s with
  |none=>rw[he]at h;simp[uI]at h
  | some p=>
   rw[he]at h;simp only[uI,Option.some.injEq,Prod.mk.injEq]at h;obtain⟨rfl,rfl,rfl⟩:=h;refine wpIn_region ?_;rw[List.range_eq_range',←Array.length_toList];exact X8 hS hG hF ops.toList 0 (by simp) hl (tm':=p.1) (s':=p.2) he r hwf hf hfr.tm hfr.size fun φ' a' w' k1 k2=>
    ⟨φ',rfl,k1,⟨k2.1,k2.2.1,by rw[k2.2.2];exact hfr.df.mono (k1.sub hf)⟩⟩
 | .region id ops true,ic,fr,fr',s,s',res,φ,w,a,hc,h,r,hwf,hf,hfr=>by
  simp only[cC]at hc;obtain⟨l,hl,rfl⟩:=Option.map_eq_some_iff.1 hc;simp only[evC,Qg]at h;split at h
  case h_2=>cases h
  rename_i hon
  cases he:evD E S l 0 [] fr.tm s with
  |none=>rw[he]at h;simp[uI]at h
  | some p=>
   rw[he]at h;simp only[uI,Option.some.injEq,Prod.mk.injEq]at h;obtain⟨rfl,rfl,rfl⟩:=h;exact hD.ord hl hon (tm':=p.1) (s':=p.2) he r hwf hf hfr.tm hfr.size hF fun φ' a' w' k1 k2=>
    ⟨φ',rfl,k1,⟨k2.1,k2.2.1,by rw[k2.2.2];exact hfr.df.mono (k1.sub hf)⟩⟩
 | .seq x y,ic,fr,fr',s,s',res,φ,w,a,hc,h,r,hwf,hf,hfr=>by
  simp only[cC]at hc;split at hc
  ·rename_i ix iy hx hy
   simp only[Option.some.injEq]at hc;subst hc;simp only[evC]at h;cases he:evC E S rd ix fr s with
   |none=>rw[he]at h;simp[uV]at h
   |some p=>
    obtain⟨res1,fr1,s1⟩:=p;rw[he]at h;have hn1:=qV hS.mono he;have hn2:s1.next≤s'.next:=gG (x:=some (res1,fr1,s1)) (fun p hp=>by cases hp;exact zu _) (fun _ _ _ _ _ h=>qV hS.mono h) h
    refine wpIn_seq (wpIn_mono (vL hS hG hD hF hrd x hx he r hwf (hf.left hn2) hfr) (YW hwf hf hn1 h fun φ1 a1 w1 hk k1 k2 k3=>?_));exact wpIn_mono (vL hS hG hD hF hrd y hy hk k1.rel (k1.ext.wf hwf) k3 k2) fun e a2 w2 q=>pY hwf k1 q
  ·cases hc
 | .cond b x y,ic,fr,fr',s,s',res,φ,w,a,hc,h,r,hwf,hf,hfr=>by
  simp only[cC]at hc;split at hc
  ·rename_i ib ix iy hb hx hy
   simp only[Option.some.injEq]at hc;subst hc;simp only[evC,WR]at h;split at h
   ·rename_i hbv
    have:=xV (φ:=φ) (a:=a) hb hbv (TmOn.of hfr.tm);simp only[VR]at this;exact wpIn_cond_true this (vL hS hG hD hF hrd x hx h r hwf hf hfr)
   ·rename_i hbv
    have:=xV (φ:=φ) (a:=a) hb hbv (TmOn.of hfr.tm);simp only[VR]at this;exact wpIn_cond_false this (vL hS hG hD hF hrd y hy h r hwf hf hfr)
   ·cases h
  ·cases hc
 | .block id b,ic,fr,fr',s,s',res,φ,w,a,hc,h,r,hwf,hf,hfr=>by
  simp only[cC]at hc;obtain⟨ib,hb,rfl⟩:=Option.map_eq_some_iff.1 hc;simp only[evC]at h;cases he:evC E S rd ib fr s with
  |none=>rw[he]at h;simp[jR]at h
  | some p=>
   obtain⟨res1,fr1,s1⟩:=p;rw[he]at h;simp only[jR]at h;have hsame:s1=s'∧fr1=fr'∧(∀i,res1=.exit i→if i=id then res=.norm else res=.exit i)∧((∀i,res1≠.exit i)→res=res1):=by
    cases res1 with
    |norm=>simp only[Option.some.injEq,Prod.mk.injEq]at h;obtain⟨rfl,rfl,rfl⟩:=h;exact⟨rfl,rfl,(fun i hi=>by cases hi),fun _=>rfl⟩
    |ret=>simp only[Option.some.injEq,Prod.mk.injEq]at h;obtain⟨rfl,rfl,rfl⟩:=h;exact⟨rfl,rfl,(fun i hi=>by cases hi),fun _=>rfl⟩
    | exit i=>
     simp only at h;cases hb2:zb i id with
     |true=>
      rw[hb2]at h;simp only[cond_true,Option.some.injEq,Prod.mk.injEq]at h;obtain⟨rfl,rfl,rfl⟩:=h;refine⟨rfl,rfl,fun j hj=>?_,fun hne=>absurd rfl (hne i)⟩;cases hj;rw[if_pos (we.1 hb2)]
     |false=>
      rw[hb2]at h;simp only[cond_false,Option.some.injEq,Prod.mk.injEq]at h;obtain⟨rfl,rfl,rfl⟩:=h;refine⟨rfl,rfl,fun j hj=>?_,fun _=>rfl⟩;cases hj;rw[if_neg (fun e=>by rw[we.2 e]at hb2;cases hb2)]
   obtain⟨rfl,rfl,h1,h2⟩:=hsame;refine wpIn_block (wpIn_mono (vL hS hG hD hF hrd b hb he r hwf hf hfr) ?_)
   rintro e a1 w1 ⟨φ1,rfl,k1,k2⟩
   cases res1 with
   |norm=>exact⟨φ1,by rw[h2 (by intro i hi;cases hi)],k1,k2⟩
   |ret=>exact⟨φ1,by rw[h2 (by intro i hi;cases hi)],k1,k2⟩
   |exit i=>
    have:=h1 i rfl;simp only[Res.ex,Exit.inBlock];by_cases hii:i=id
    ·rw[if_pos hii]at this⊢;exact⟨φ1,by rw[this];rfl,k1,k2⟩
    ·rw[if_neg hii]at this⊢;exact⟨φ1,by rw[this];rfl,k1,k2⟩
 | .loop b,ic,fr,fr',s,s',res,φ,w,a,hc,h,r,hwf,hf,hfr=>by
  simp only[cC]at hc;obtain⟨ib,hb,rfl⟩:=Option.map_eq_some_iff.1 hc;simp only[evC]at h;cases he:evC E S rd ib fr s with
  |none=>rw[he]at h;simp[uV]at h
  |some p=>
   obtain⟨res1,fr1,s1⟩:=p;rw[he]at h;have hn1:=qV hS.mono he;have hn2:s1.next≤s'.next:=gG (x:=some (res1,fr1,s1)) (fun p hp=>by cases hp;exact zu _) (fun _ _ _ _ _ h=>hS.mono.loop _ _ _ _ _ _ _ h) h
   refine ZI (Zm (wpIn_mono (vL hS hG hD hF hrd b hb he r hwf (hf.left hn2) hfr) (YW hwf hf hn1 h fun φ1 a1 w1 hk k1 k2 k3=>?_)));exact LoopIn.mono (hS.loop hk hb k1.rel (k1.ext.wf hwf) k3 k2 F n hF hrd) fun e a2 w2 q=>pY hwf k1 q
 | .rangeFunc g ps x y,ic,fr,fr',s,s',res,φ,w,a,hc,h,r,hwf,hf,hfr=>by
  simp only[cC]at hc;split at hc
  ·rename_i g' ia ib hg ha hb
   cases hps:ps.all (zg · nt)with
   |false=>rw[hps]at hc;simp at hc
   |true=>
    rw[hps]at hc;simp only[cond_true,Option.some.injEq]at hc;subst hc;simp only[evC]at h;exact zpD hS hF hg ha hb hps h r hwf hf hfr hrd
  ·cases hc
 |.scope b,ic,fr,fr',s,s',res,φ,w,a,hc,h,r,hwf,hf,hfr=>by simp only[cC,Option.some.injEq]at hc;subst hc;simp[evC]at h
 |.label l,ic,fr,fr',s,s',res,φ,w,a,hc,h,r,hwf,hf,hfr=>by simp only[cC,Option.some.injEq]at hc;subst hc;simp[evC]at h
 |.goto l,ic,fr,fr',s,s',res,φ,w,a,hc,h,r,hwf,hf,hfr=>by simp only[cC,Option.some.injEq]at hc;subst hc;simp[evC]at h
 |.refuse l,ic,fr,fr',s,s',res,φ,w,a,hc,h,r,hwf,hf,hfr=>by simp only[cC,Option.some.injEq]at hc;subst hc;simp[evC]at h
end
def ki(P:Program)(E:Env):Prop:=∀f F,E.funs.get f=some F→∃fn,P.funcs[f]? =some fn∧H6 P fn=some F
theorem Qh:∀(l:List AV) (tm:Trie AV) (i j:Nat) (v:AV),(wL tm i l).get j=some v→(i≤j∧l[j-i]? =some v)∨(tm.get j=some v∧(j<i∨i+l.length≤j))
 |[],tm,i,j,v,h=>by simp only[wL]at h;exact .inr ⟨h,by simp;omega⟩
 | u::r,tm,i,j,v,h=>by
  simp only[wL]at h;rcases Qh r _ _ j v h with ⟨h1,h2⟩|⟨h1,h2⟩
  ·left
   have h1':i+1≤j:=h1;refine⟨oM,?_⟩;have:j-i=(j-(i+1))+1:=oM;rw[this,List.getElem?_cons_succ];exact h2
  ·rw[Trie.get_set]at h1;by_cases e:j=i
   ·rw[if_pos e]at h1;cases h1;left;subst e;exact⟨zu _,by simp⟩
   ·rw[if_neg e]at h1;have h2':j<i+1∨i+1+r.length≤j:=h2
    right;exact⟨h1,by simp;omega⟩
theorem ZB{args:List AV}{xs:List Value}(h:VRL φ args xs)(k:Nat):TmRel φ (wL .leaf 0 args) (xs.toArray++Array.replicate k undef):=by
 intro j v hv;rcases Qh args .leaf 0 j v hv with ⟨_,h1⟩|⟨h1,_⟩
 ·obtain⟨y,hy,hvr⟩:=h.get h1;simp only[Nat.sub_zero]at hy;have hlt:j<xs.length:=by
   by_cases hl:j<xs.length
   ·exact hl
   ·rw[List.getElem?_eq_none oM]at hy;cases hy
  have:(xs.toArray++yW k undef).getD j undef=y:=by
   rw[yT,Array.getElem?_append_left (by simpa using hlt)]
   simp[hy]
  rw[this];exact hvr
 ·simp[Trie.get]at h1
section
variable {P:Program}{w0:World}{E:Env}{S:Self}
theorem pm(hG:x8 E.globs w0){φ:Phi}{s:St}{w:World}(r:Rel P w0 φ s.get w){tm:Trie AV}{tmps:Array Value}(ht:TmRel φ tm tmps){f:ResultVar→Sem Value}(f1:∀t,f (.tmp t)=pure (tmps.getD t undef))(f2:∀a t ad,tmps.getD a undef=.pointer (some ad)→f (.cell a t)=loadVar t ad):
  ∀{rs:List ResultVar} {l:List RV} {vs:List AV},GG P rs=some l→jI E.globs tm s l=some vs→∃ys,(rs.mapM f).run P w=.ok ys w∧VRL φ vs ys
 |[],l,vs,hc,h=>by simp[GG]at hc;subst hc;simp[jI]at h;subst h;exact⟨[],by simp,VRL.nil φ⟩
 | .tmp t::rs,l,vs,hc,h=>by
  simp only[GG]at hc;obtain⟨l',hl',rfl⟩:=Option.map_eq_some_iff.1 hc;simp only[jI]at h;split at h
  ·rename_i v vs' h1 h2
   simp only[Option.some.injEq]at h;subst h;obtain⟨ys,k1,k2⟩:=pm hG r ht f1 f2 hl' h2;exact⟨tmps.getD t undef::ys,by simp only[yX,f1,Sem.run_bind,Sem.run_pure,Result.andThen_ok,k1],VRL.cons (ht t v h1) k2⟩
  ·cases h
 | .cell a t::rs,l,vs,hc,h=>by
  simp only[GG]at hc;split at hc
  ·rename_i n l' q1 q2 q3
   simp only[Option.some.injEq]at hc;subst hc;simp only[jI]at h;split at h
   ·rename_i v vs' h1 h2
    simp only[Option.some.injEq]at h;subst h;obtain⟨ys,k1,k2⟩:=pm hG r ht f1 f2 q3 h2;split at h1
    ·rename_i p hp
     split at h1
     ·rename_i cs hcs
      simp only[Option.some.injEq]at h1;subst h1;obtain⟨z,z1,z2⟩:=zwU (P:=P) (t:=t) r hG q1 q2 (p:=p) (v:=.agg cs) (by simp only[ZH,hcs]) (ht a p hp)
      obtain⟨ad,xs,e1,e2,e3,e4⟩:=vE r hG hcs (ht a p hp);have hz:(loadVar t ad).run P w=.ok z w:=by simpa [Instr.loadAt,Instr.sureAddr,e1]using z1
      exact⟨z::ys,by simp only[yX,f2 a t ad e1,Sem.run_bind,Sem.run_pure,Result.andThen_ok,hz,k1],VRL.cons z2 k2⟩
     ·cases h1
    ·cases h1
   ·cases h
  ·rename_i l' q1 q3
   simp only[Option.some.injEq]at hc;subst hc;simp only[jI]at h;split at h
   ·rename_i v vs' h1 h2
    simp only[Option.some.injEq]at h;subst h;obtain⟨ys,k1,k2⟩:=pm hG r ht f1 f2 q3 h2;split at h1
    ·rename_i p hp
     split at h1
     ·rename_i v0 tl hcs
      simp only[Option.some.injEq]at h1;subst h1;obtain⟨z,z1,z2⟩:=zpJ (P:=P) (t:=t) r hG q1 (p:=p) (v:=v0) (by simp only[vLd,hcs,Zi]) (ht a p hp)
      obtain⟨ad,xs,e1,e2,e3,e4⟩:=vE r hG hcs (ht a p hp);have hz:(loadVar t ad).run P w=.ok z w:=by simpa [Instr.loadAt,Instr.sureAddr,e1]using z1
      exact⟨z::ys,by simp only[yX,f2 a t ad e1,Sem.run_bind,Sem.run_pure,Result.andThen_ok,hz,k1],VRL.cons z2 k2⟩
     ·cases h1
    ·cases h1
   ·cases h
  ·cases hc
theorem lp(hG:x8 E.globs w0)(r:Rel P w0 φ s.get w){tmps:Array Value}(ht:TmRel φ tm tmps){fn:Func}{l:List RV}(hc:GG P fn.results.toList=some l)(h:YR E.globs tm s l=some (v,s')):
  s'=s∧∃x,(results fn tmps).run P w=.ok x w∧VR φ v x:=by
 unfold YR at h;split at h
 ·rename_i vs hvs
  simp only[Option.some.injEq,Prod.mk.injEq]at h;obtain⟨rfl,rfl⟩:=h;refine⟨rfl,?_⟩;have key:∀f:ResultVar→Sem Value,(∀t,f (.tmp t)=pure (tmps.getD t undef))→(∀a t ad,tmps.getD a undef=.pointer (some ad)→f (.cell a t)=loadVar t ad)→∃x,(do let vs ←fn.results.mapM f;pure (if h:vs.size=1 then vs[0]else .tuple vs):Sem Value).run P w=.ok x w∧VR φ (vS vs) x:=fun f f1 f2=>by
   obtain⟨ys,k1,k2⟩:=pm hG r ht f1 f2 hc hvs;refine⟨if h:ys.toArray.size=1 then ys.toArray[0]else .tuple ys.toArray,?_,?_⟩
   ·rw[Sem.run_bind,Array.mapM_eq_mapM_toList,Sem.run_map,k1];rfl
   ·cases vs with
    |nil=>
     simp only[VRL]at k2;subst k2;simp only[vS,VR];exact⟨[],rfl,VRL.nil φ⟩
    | cons v0 vs=>
     simp only[VRL]at k2;obtain⟨y,ys',rfl,k3,k4⟩:=k2;cases vs with
     |nil=>simp only[VRL]at k4;subst k4;exact k3
     |cons v1 vs'=>
      simp only[VRL]at k4;obtain⟨y1,ys1,rfl,k5,k6⟩:=k4;simp only[vS];rw[dif_neg (by simp)]
      simp only[VR];exact⟨_,rfl,VRL.cons k3 (VRL.cons k5 k6)⟩
  unfold results;refine key _ ?_ ?_
  ·intro t;rfl
  ·intro a t ad h;simp only[h];rfl
 ·cases h
theorem Zp{F:Fence}{n:Nat}{fn:Func}{tmps:Array Value}{R:Ending→World→Prop}:∀{df:List Nat} {ds:List Deferred} {φ:Phi} {s s':St} {w:World},qf s df=some s'→DfRel φ df ds→Rel P w0 φ s.get w→Wf s→
  (∀w',Step P w0 φ s w φ s' w'→LeavesIn F n P fn tmps R [] .returning w')→LeavesInM F n P fn tmps R ds .returning w
 |[],ds,φ,s,s',w,h,hd,r,hwf,hk=>by
  simp only[DfRel]at hd;subst hd;simp only[qf,Option.some.injEq]at h;subst h;exact hk w (Step.refl r)
 | d::df,ds,φ,s,s',w,h,hd,r,hwf,hk=>by
  obtain⟨B,ds',hB,rfl,hd'⟩:=hd;simp only[qf]at h;split at h
  ·rename_i hg
   obtain⟨B',hB',hh⟩:=r.obj d _ hg;rw[hB]at hB';cases hB';have st:Step P w0 φ s w φ (s.put d .dfd0) (w.putObj B.b (.deferred none)):=Step.setObj r hg hB hh (x':=.deferred none) (gE hh);refine⟨by simp,.inl ⟨B.b,_,rfl,run_takeDeferred hh,?_⟩⟩
   exact Zp h hd' st.rel (st.ext.wf hwf) fun w' k=>hk w' (Step.trans hwf st k)
  ·cases h
theorem WJ(hS:SelfOk P w0 S)(hG:x8 E.globs w0)(hD:DrawOk P w0 E S){f:Nat}{fn:Func}{c:Code}{ib:ICode}{rs:List RV}{args:List AV}(hfn:P.funcs[f]? =some fn)(hbody:fn.body=some c)(hb:cC P fn.ntmps c=some ib)(hrs:GG P fn.results.toList=some rs)
  (hle0:args.length≤fn.ntmps) (h:pR E S ⟨fn.ntmps,rs,ib⟩ args s=some (v,s')) {xs:List Value} (r:Rel P w0 φ s.get w) (hwf:Wf s) (hf:Fresh φ s s') (hargs:VRL φ args xs) {F:Fence} (hF:Wide F):
  CallsIn F n P f xs.toArray w (QZ P w0 φ s w v s'):=by
 have hle:xs.length≤fn.ntmps:=by rw[←VRL.length hargs];exact hle0
 unfold pR at h;simp only at h;cases he:evC E S none ib {tm:=wL .leaf 0 args,df:=[]} s with
 |none=>rw[he]at h;simp[wT]at h
 | some p=>
  obtain⟨res,fr',s1⟩:=p;rw[he]at h;simp only[wT]at h;have hres:∃s2,qf s1 fr'.df=some s2∧YR E.globs fr'.tm s2 rs=some (v,s')∧(res=.norm∨res=.ret):=by
   cases res with
   |exit i=>simp at h
   |norm=>
    simp only at h;split at h
    ·rename_i s2 hs2;exact⟨s2,hs2,h,.inl rfl⟩
    ·cases h
   |ret=>
    simp only at h;split at h
    ·rename_i s2 hs2;exact⟨s2,hs2,h,.inr rfl⟩
    ·cases h
  obtain⟨s2,hm,hr,hor⟩:=hres;have hs2:s'=s2:=by
   unfold YR at hr;split at hr
   ·cases hr;rfl
   ·cases hr
  have hfr:FrRel φ fn.ntmps {tm:=wL .leaf 0 args,df:=[]} {tmps:=xs.toArray++yW (fn.ntmps-xs.toArray.size) undef,defers:=[]}:=
   ⟨ZB hargs _,by simp;omega,rfl⟩
  have hFp:Wide F.plain:=⟨hF.fn,hF.depth,hF.alive⟩;have key:CallsIn F.plain n P f xs.toArray w (QZ P w0 φ s w v s'):=by
   refine callsIn_of_wp_marks hfn hbody (hF.fn f) (wpIn_mono (vL hS hG hD hFp (fun _=>rfl) c hb he r hwf hf hfr) ?_)
   rintro e a' w' ⟨φ1,rfl,k1,k2⟩
   have hleave:LeavesInM F.plain n P fn a'.tmps (QZ P w0 φ s w v s') a'.defers .returning w':=by
    refine Zp hm k2.df k1.rel (k1.ext.wf hwf) fun w2 k3=>?_;obtain⟨_,x,k4,k5⟩:=lp hG k3.rel k2.tm hrs hr;exact⟨x,k4,φ1,x,rfl,hs2▸Step.trans hwf k1 k3,k5⟩
   rcases hor with rfl|rfl
   ·exact hleave
   ·exact hleave
  exact key
theorem VX{φ2:Phi}{n0:Nat}(hz:∀b o v,φ.z b o=some v→φ2.z b o=some v)(hm:∀id,id<n0→φ2 id=φ id){v v':AV}{x:Value}(h:Ze n0 v=some v')(hx:VR φ v x):VR φ2 v' x:=by
 unfold Ze at h;split at h
 ·rename_i id e n cs
  cases hb:ze n0 id with
  |true=>
   rw[hb]at h;simp only[cond_true,Option.some.injEq]at h;subst h;exact VR.pure hz _ _ rfl hx.gr_lst
  |false=>
   rw[hb]at h;simp only[cond_false,Option.some.injEq]at h;subst h;have hlt:id<n0:=by apply Nat.lt_of_not_le;intro hh;rw[x9.2 hh]at hb;cases hb
   simp only[VR]at hx⊢;obtain⟨h1,h2,h3,h4,B,ys,h5,h6,h7,h8,h9⟩:=hx;exact⟨h1,h2,h3,h4,B,ys,(hm id hlt).trans h5,h6,h7,h8.mono hz,VRL.pure hz _ _ h1 h9⟩
 ·rename_i id off
  cases hb:zg id n0 with
  |false=>rw[hb]at h;simp at h
  |true=>
   rw[hb]at h;simp only[cond_true,Option.some.injEq]at h;subst h;simp only[VR]at hx⊢;obtain⟨B,hB,e⟩:=hx;exact⟨B,(hm id (wK.1 hb)).trans hB,e⟩
 ·rename_i id off len c
  cases hb:zg id n0 with
  |false=>rw[hb]at h;simp at h
  |true=>
   rw[hb]at h;simp only[cond_true,Option.some.injEq]at h;subst h;simp only[VR]at hx⊢;obtain⟨B,k,hB,e⟩:=hx;exact⟨B,k,(hm id (wK.1 hb)).trans hB,e⟩
 ·rename_i id
  cases hb:zg id n0 with
  |false=>rw[hb]at h;simp at h
  |true=>
   rw[hb]at h;simp only[cond_true,Option.some.injEq]at h;subst h;simp only[VR]at hx⊢;obtain⟨B,hB,e⟩:=hx;exact⟨B,(hm id (wK.1 hb)).trans hB,e⟩
 ·cases hb:wq v with
  |false=>rw[hb]at h;simp at h
  |true=>
   rw[hb]at h;simp only[cond_true,Option.some.injEq]at h;subst h;exact VR.pure hz _ _ hb hx
theorem V1{φ φ2:Phi}{n0:Nat}(hz:∀b o v,φ.z b o=some v→φ2.z b o=some v)(hm:∀id,id<n0→φ2 id=φ id):∀{l l':List AV} {xs:List Value},Xt n0 l=some l'→VRL φ l xs→VRL φ2 l' xs
 |[],l',xs,h,hx=>by simp only[Xt,Option.some.injEq]at h;subst h;simp only[VRL]at hx;subst hx;exact VRL.nil φ2
 | v::r,l',xs,h,hx=>by
  simp only[Xt]at h;simp only[VRL]at hx;obtain⟨y,ys,rfl,h1,h2⟩:=hx;split at h
  ·rename_i v' hv
   split at h
   ·rename_i r' hr
    simp only[Option.some.injEq]at h;subst h;exact VRL.cons (VX hz hm hv h1) (V1 hz hm hr h2)
   ·cases h
  ·cases h
theorem VY{φ2:Phi}{n0:Nat}(hz:∀b o v,φ.z b o=some v→φ2.z b o=some v)(hm:∀id,id<n0→φ2 id=φ id){v v':AV}{x:Value}(h:Qu n0 v=some v')(hx:VR φ v x):VR φ2 v' x:=by
 unfold Qu at h;split at h
 ·split at h
  ·rename_i l hl
   simp only[Option.some.injEq]at h;subst h;simp only[VR]at hx⊢;obtain⟨xs,e,h1⟩:=hx;exact⟨xs,e,V1 hz hm hl h1⟩
  ·cases h
 ·exact VX hz hm h hx
theorem V2{φ φ2:Phi}{n0:Nat}(hz:∀b o v,φ.z b o=some v→φ2.z b o=some v)(hm:∀id,id<n0→φ2 id=φ id):∀{l l':List AV} {xs:List Value},Xu n0 l=some l'→VRL φ l xs→VRL φ2 l' xs
 |[],l',xs,h,hx=>by simp only[Xu,Option.some.injEq]at h;subst h;simp only[VRL]at hx;subst hx;exact VRL.nil φ2
 | v::r,l',xs,h,hx=>by
  simp only[Xu]at h;simp only[VRL]at hx;obtain⟨y,ys,rfl,h1,h2⟩:=hx;split at h
  ·rename_i v' hv
   split at h
   ·rename_i r' hr
    simp only[Option.some.injEq]at h;subst h;exact VRL.cons (VY hz hm hv h1) (V2 hz hm hr h2)
   ·cases h
  ·cases h
theorem VZ{φ2:Phi}{n0:Nat}(hz:∀b o v,φ.z b o=some v→φ2.z b o=some v)(hm:∀id,id<n0→φ2 id=φ id){v v':AV}{x:Value}(h:Zf n0 v=some v')(hx:VR φ v x):VR φ2 v' x:=by
 unfold Zf at h;split at h
 ·split at h
  ·rename_i l hl
   simp only[Option.some.injEq]at h;subst h;simp only[VR]at hx⊢;obtain⟨xs,e,h1⟩:=hx;exact⟨xs,e,V2 hz hm hl h1⟩
  ·cases h
 ·exact VY hz hm h hx
theorem Hr{m:Nat}(h:qa m n=0)(hid:id<n):m.testBit id=false:=by
 have h1:(qa m n).testBit id=false:=by rw[h];exact Nat.zero_testBit id
 have h2:(m%2^n).testBit id=false:=h1;rw[Nat.testBit_mod_two_pow]at h2
 simpa [hid]using h2
theorem Step.pop{φ1:Phi}{t:St}{w1:World}(r:Rel P w0 φ s.get w)(hwf:Wf s)(st:Step P w0 φ {s with wm:=0,md:=true} w φ1 t w1)(hm:qa t.wm s.next=0):
  Step P w0 φ s w (φ.zset φ1.z) s w1:=by
 have hbit:∀id,id<s.next→t.wm.testBit id=false:=fun id hid=>Hr hm hid
 have hold:∀b,b<w.heap.size→w1.heap[b]? =w.heap[b]? :=fun b hb=>st.frame b hb fun id o B ho _ _=>hbit id (hwf.lt id o (wl ho));have hsub:Sub φ (φ.zset φ1.z):=⟨fun _ _ h=>h,st.zsub⟩;have hkeep:∀id o,s.get id=some o→t.get id=some o:=fun id o ho=>by
  have hlt:=hwf.lt id o (wl ho);have h1:t.objs.get id=s.objs.get id:=st.ext.keep id hlt (hbit id hlt);have h2:seen t id=seen s id:=vh st.ext.hide st.ext.only id;rw[uZ,h2,qB ho,h1];exact wl ho
 have hmm:∀id o,s.get id=some o→φ1 id=φ id:=fun id o ho=>st.same id (.inl (hwf.lt id o (wl ho)));refine⟨Ext.refl s,⟨st.rel.base,?_,?_,r.old,r.inj,st.rel.frz,?_⟩,fun _ _=>rfl,st.size,fun b hb _=>hold b hb,fun id _ h1 h2=>absurd h2 oM,st.zsub,?_⟩
 ·intro id o ho;obtain⟨B,hB,tt⟩:=r.obj id o ho;exact⟨B,hB,tt.keep hsub (hold _ (r.rng id B hB))⟩
 ·intro id B hB;have:B.b<w.heap.size:=r.rng id B hB;have:=st.size;omega
 ·intro id o B ho hB;exact st.rel.sep id o B (hkeep id o ho) ((hmm id o ho).trans hB)
 ·intro b i v hv;rcases st.zown b i v hv with h1|h1|⟨id0,o0,B0,g0,p0,e0,m0⟩
  ·exact .inl h1
  ·exact .inr (.inl h1)
  ·rw[hbit id0 (hwf.lt id0 o0 (wl g0))]at m0;cases m0
theorem Step.unsub{φ1:Phi}{t:St}{w1:World}{b c:Bool}(st:Step P w0 φ {s with wm:=0,md:=b} w φ1 t w1):Step P w0 φ s w φ1 {t with wm:=yV s.wm t.wm,md:=c} w1:=by
 have hb:∀{id:Nat},t.wm.testBit id=true→(yV s.wm t.wm).testBit id=true:=fun{id} h=>by
  show (s.wm|||t.wm).testBit id=true
  rw[yS,h,Bool.or_true]
 refine⟨st.ext.sub,st.rel,st.same,st.size,fun b hb' H=>st.frame b hb' fun id o B ho hB e=>?_,fun id B h1 h2 hB=>?_,st.zsub,fun b i v hv=>?_⟩
 ·cases hx:t.wm.testBit id with
  |false=>rfl
  |true=>have h9:=H id o B ho hB e;have h8:(yV s.wm t.wm).testBit id=false:=h9;rw[hb hx]at h8;cases h8
 ·rcases st.own id B h1 h2 hB with h3|⟨id0,o0,B0,g0,p0,e0,m0⟩
  ·exact .inl h3
  ·exact .inr ⟨id0,o0,B0,g0,p0,e0,hb m0⟩
 ·rcases st.zown b i v hv with h1|h1|⟨id0,o0,B0,g0,p0,e0,m0⟩
  ·exact .inl h1
  ·exact .inr (.inl h1)
  ·exact .inr (.inr ⟨id0,o0,B0,g0,p0,e0,hb m0⟩)
theorem Step.unmd{φ1:Phi}{t:St}{w1:World}{b c:Bool}(st:Step P w0 φ {s with md:=b} w φ1 t w1):Step P w0 φ s w φ1 {t with md:=c} w1:=
 ⟨st.ext.remd,st.rel,st.same,st.size,st.frame,st.own,st.zsub,st.zown⟩
theorem zuz{x:Value}(h:VR φ v x):VR φ (grW v) x:=by
 cases v<;>first|exact h|exact VR.gr_lst h
theorem YE{φ:Phi}:∀{l:List AV} {xs:List Value},VRL φ l xs→VRL φ (zn0 l) xs
 |[],_,h=>h
 |v::r,_,h=>by
  simp only[VRL]at h;obtain⟨y,ys,rfl,h1,h2⟩:=h;exact VRL.cons (zuz h1) (YE h2)
theorem zzJ{x:Value}(h:VR φ v x):VR φ (zlS v) x:=by
 cases v<;>first|exact h|skip
 simp only[VR,zlS]at h⊢;obtain⟨xs,rfl,h⟩:=h;exact⟨xs,rfl,YE h⟩
theorem Q2{φ:Phi}:∀{l:List AV} {xs:List Value},VRL φ l xs→VRL φ (zlT l) xs
 |[],_,h=>h
 |v::r,_,h=>by
  simp only[VRL]at h;obtain⟨y,ys,rfl,h1,h2⟩:=h;exact VRL.cons (zzJ h1) (Q2 h2)
theorem zvb{x:Value}(h:VR φ v x):VR φ (agW v) x:=by
 cases v<;>first|exact h|skip
 ·simp only[VR,agW]at h⊢;obtain⟨xs,rfl,h⟩:=h;exact⟨xs,rfl,YE h⟩
 ·simp only[VR,agW]at h⊢;obtain⟨xs,rfl,h⟩:=h;exact⟨xs,rfl,Q2 h⟩
theorem pT(hS:SelfOk P w0 S)(hG:x8 E.globs w0)(hE:ki P E)(hD:DrawOk P w0 E S){f:Nat}{args:List AV}(h:vz E S f args s=some (v,s')):
  (∃fn,P.funcs[f]? =some fn∧fn.body.isSome=true∧(fn.name== "runtime.NumGoroutine")=false)∧
  ∀{φ:Phi} {w:World} {xs:List Value},Rel P w0 φ s.get w→Wf s→Fresh φ s s'→VRL φ args xs→∀F n,Wide F→CallsIn F n P f xs.toArray w (QZ P w0 φ s w v s'):=by
 obtain⟨IF,hIF,hle,hway⟩:=XY h;obtain⟨fn,hfn,hcf⟩:=hE f IF hIF;unfold H6 at hcf;split at hcf
 ·cases hcf
 ·rename_i c hbody
  split at hcf
  ·rename_i ib rs hb hrs
   cases hnm:(fn.name != "runtime.NumGoroutine")with
   |false=>rw[hnm]at hcf;simp at hcf
   | true=>
    rw[hnm]at hcf;simp only[cond_true,Option.some.injEq]at hcf;subst hcf;have hnm':(fn.name== "runtime.NumGoroutine")=false:=by simpa [bne]using hnm
    refine⟨⟨fn,hfn,by rw[hbody];rfl,hnm'⟩,?_⟩
    intro φ w xs r hwf hf hargs F n hF;rcases hway with ⟨u,t,hbd,hway⟩|⟨t,hbd,rfl⟩
    ·have hc:=WJ (P:=P) (s':=t) hS hG hD hfn hbody hb hrs hle hbd r ⟨hwf.lt,hwf.hd⟩ hf hargs (n:=n) hF;refine CallsIn.mono hc ?_
     rintro e w1 ⟨φ1,x,rfl,k1,k2⟩
     rcases hway with ⟨hm,hfz,rfl⟩|⟨rfl,rfl⟩
     ·exact⟨φ.zset φ1.z,x,rfl,Step.pop r hwf k1 hm,VZ (φ:=φ1) (φ2:=φ.zset φ1.z) (fun _ _ _ h=>h) (fun id hid=>(k1.same id (.inl hid)).symm) hfz k2⟩
     ·exact⟨φ1,x,rfl,Step.unsub k1,zvb k2⟩
    ·have hc:=WJ (P:=P) (s':=t) hS hG hD hfn hbody hb hrs hle hbd r ⟨hwf.lt,hwf.hd⟩ hf hargs (n:=n) hF;refine CallsIn.mono hc ?_
     rintro e w1 ⟨φ1,x,rfl,k1,k2⟩
     exact⟨φ1,x,rfl,Step.unmd k1,k2⟩
  ·cases hcf
theorem Gd{φ:Phi}:∀{ps:List Nat} {args:List AV} {xs:List Value} {tm tm1:Trie AV} {t:Array Value},hU tm ps args=some tm1→VRL φ args xs→TmRel φ tm t→(∀p∈ps,p<t.size)→
  xs.length=ps.length∧TmRel φ tm1 ((ps.zip xs).foldl (fun t p=>t.setIfInBounds p.1 p.2) t)∧((ps.zip xs).foldl (fun t p=>t.setIfInBounds p.1 p.2) t).size=t.size
 |[],[],xs,tm,tm1,t,h,hx,ht,hp=>by
  simp only[VRL]at hx;subst hx;simp only[hU,Option.some.injEq]at h;subst h;exact⟨rfl,ht,rfl⟩
 |p::ps,v::vs,xs,tm,tm1,t,h,hx,ht,hp=>by
  simp only[VRL]at hx;obtain⟨y,ys,rfl,h1,h2⟩:=hx;simp only[hU]at h;obtain⟨k1,k2,k3⟩:=Gd h h2 (ht.set (hp p (by simp)) h1) (fun q hq=>by simp;exact hp q (by simp[hq]))
  refine⟨by simp[k1],k2,?_⟩
  simp only[List.zip_cons_cons,List.foldl_cons];rw[k3];simp
 |[],_::_,xs,tm,tm1,t,h,hx,ht,hp=>by simp[hU]at h
 |_::_,[],xs,tm,tm1,t,h,hx,ht,hp=>by simp[hU]at h
theorem zrE(t:Array Value)(ps:List Nat)(xs:List Value):((ps.toArray.zip xs.toArray).foldl (fun t (p,v)=>t.setIfInBounds p v) t)=(ps.zip xs).foldl (fun t p=>t.setIfInBounds p.1 p.2) t:=by
 rw[←Array.foldl_toList];simp
theorem Hx(hS:SelfOk P w0 S)(hG:x8 E.globs w0)(hD:DrawOk P w0 E S){l:Nat}{args:List AV}(h:ja E S l args s=some (v,s')){xs:List Value}{B:Blk}(r:Rel P w0 φ s.get w)(hwf:Wf s)(hf:Fresh φ s s')(hargs:VRL φ args xs)(hB:φ l=some B):
  ∃L,w.heap[B.b]? =some (.loop L)∧xs.length=L.params.size∧∀F n,Wide F→RoundIn F n P B.b L.fn ((L.params.zip xs.toArray).foldl (fun t (p,v)=>t.setIfInBounds p v) L.tmps) L.assign L.body w (QZ P w0 φ s w v s'):=by
 unfold ja at h;split at h
 ·rename_i st0 pend0 tm0 ps0 asg bd d0 hg
  obtain⟨B',hB',L,hh,hl⟩:=r.obj l _ hg;rw[hB]at hB';cases hB';split at h
  ·rename_i tm1 hps
   obtain⟨k1,k2,k3⟩:=Gd hps hargs hl.tm hl.ps;refine⟨L,hh,by rw[hl.params,k1];simp,?_⟩
   intro F n hF;rw[hl.params,zrE];cases he:evC E S (some l) asg {tm:=tm1,df:=[]} s with
   |none=>rw[he]at h;simp[vc]at h
   | some p=>
    obtain⟨res1,fr1,s1⟩:=p;rw[he]at h;simp only[vc]at h;have hn1:=qV hS.mono he;split at h
    ·split at h
     ·rename_i pend1 tmL psL asgL bodyL dL hg1
      cases he2:evC E S (some l) bd fr1 (s1.put l (.loop .busy pend1 tmL psL asgL bodyL dL))with
      |none=>rw[he2]at h;simp[ue]at h
      | some q=>
       obtain⟨res2,fr2,s2⟩:=q;rw[he2]at h;simp only[ue]at h;have hn2:=qV hS.mono he2;rw[lH]at hn2;split at h
       ·rename_i st2 pend2 tm2 ps2 asg2 body2 d2 hg2
        have hs':s'.next=s2.next:=by
         cases res2<;>simp only[Option.some.injEq,Prod.mk.injEq]at h<;>rw[←h.2]<;>rfl
        have hFr:Wide (F.inRound B.b):=⟨hF.fn,hF.depth,hF.alive⟩;have hfr:FrRel φ L.tmps.size {tm:=tm1,df:=[]} {tmps:=(ps0.zip xs).foldl (fun t p=>t.setIfInBounds p.1 p.2) L.tmps,defers:=[]}:=⟨k2,k3,rfl⟩;refine roundIn_of_wpIn (hF.fn _) (wpIn_mono (vL hS hG hD hFr (fun h=>by cases h) L.assign hl.asg he r hwf (hf.left oM) hfr) ?_)
        rintro e a1 w1 ⟨φ1,rfl,g1,g2⟩
        have hsub1:=g1.sub (hf.left (s1:=s1) oM);have hB1:=hsub1 _ _ hB;obtain⟨B',hB',L1,hh1,hl1⟩:=g1.rel.obj l _ hg1;rw[hB1]at hB';cases hB';have hbr:=run_beginRound (P:=P) hh1 (by rw[hl1.state];rfl)
        have st1:Step P w0 φ1 s1 w1 φ1 (s1.put l (.loop .busy pend1 tmL psL asgL bodyL dL)) (w1.putObj B.b (.loop {L1 with state:=.busy})):=
         Step.setObj g1.rel hg1 hB1 hh1 (x':=.loop {L1 with state:=.busy}) ⟨_,gE hh1,⟨rfl,hl1.pend,hl1.params,hl1.asg,hl1.body,hl1.tm,hl1.df,hl1.ps⟩⟩
        have hwf1:=g1.ext.wf hwf;have hf1:Fresh φ1 s1 s2:=(hf.right hn1 g1.same).left oM;refine⟨_,hbr,wpIn_mono (vL hS hG hD hFr (fun h=>by cases h) L.body hl.body he2 st1.rel (st1.ext.wf hwf1) hf1 g2) ?_⟩
        rintro e a2 w2 ⟨φ2,rfl,g3,g4⟩
        have hsub2:=g3.sub hf1;have hB2:=hsub2 _ _ hB1;obtain⟨B',hB',L2,hh2,hl2⟩:=g3.rel.obj l _ hg2;rw[hB2]at hB';cases hB';have stA:=Step.trans hwf (Step.trans hwf g1 st1) g3;have fin:∀(j:Option Res),s'=s2.put l (.loop (if j.isNone then .ready else .done) j tm2 ps2 asg2 body2 d2)→v=.bool j.isNone→∃x w',(Instr.endRound B.b (j.map Res.code)).run P w2=.ok x w'∧QZ P w0 φ s w v s' (.returned x) w':=by
         intro j e1 e2;have hend:=run_endRound (P:=P) (j.map Res.code) hh2;refine⟨_,_,hend,φ2,_,rfl,?_,?_⟩
         ·rw[e1];refine Step.trans hwf stA (Step.setObj g3.rel hg2 hB2 hh2 (x':=.loop {L2 with state:=if (j.map Res.code).isNone then .ready else .done,pending:=j.map Res.code}) ⟨_,gE hh2,⟨?_,rfl,hl2.params,hl2.asg,hl2.body,hl2.tm,hl2.df,hl2.ps⟩⟩)
          cases j<;>rfl
         ·rw[e2];simp only[VR];cases j<;>rfl
        cases res2 with
        |norm=>
         simp only[Option.some.injEq,Prod.mk.injEq]at h;exact fin none h.2.symm h.1.symm
        |exit id=>
         simp only[Option.some.injEq,Prod.mk.injEq]at h;exact fin (some (.exit id)) h.2.symm h.1.symm
        |ret=>
         simp only[Option.some.injEq,Prod.mk.injEq]at h;exact fin (some .ret) h.2.symm h.1.symm
       ·cases h
     ·cases h
    ·cases h
  ·cases h
 ·cases h
theorem zyX(hS:SelfOk P w0 S)(hG:x8 E.globs w0)(hD:DrawOk P w0 E S){rd:Option Nat}{b:ICode}{fr fr':Fr}{res:Res}(h:evC E S rd (.loop b) fr s=some (res,fr',s')){nt:Nat}{c:Code}{a:Act}(hb:cC P nt c=some b)(r:Rel P w0 φ s.get w)(hwf:Wf s)(hf:Fresh φ s s')(hfr:FrRel φ nt fr a)(F:Fence)(n:Nat)(hF:Wide F)(hrd:rd=none→F.round=none):LoopIn F n P c (WC P w0 φ nt s w res fr' s') a w:=by
 simp only[evC]at h;cases he:evC E S rd b fr s with
 |none=>rw[he]at h;simp[uV]at h
 |some p=>
  obtain⟨res1,fr1,s1⟩:=p;rw[he]at h;have hn1:=qV hS.mono he;have hn2:s1.next≤s'.next:=gG (x:=some (res1,fr1,s1)) (fun p hp=>by cases hp;exact zu _) (fun _ _ _ _ _ h=>hS.mono.loop _ _ _ _ _ _ _ h) h
  refine Zm (wpIn_mono (vL hS hG hD hF hrd c hb he r hwf (hf.left hn2) hfr) (YW hwf hf hn1 h fun φ1 a1 w1 hk k1 k2 k3=>?_));exact LoopIn.mono (hS.loop hk hb k1.rel (k1.ext.wf hwf) k3 k2 F n hF hrd) fun e a2 w2 q=>pY hwf k1 q
end
end Go.Proofs.YtbddpjboppmnfaaGreatDoor.Ev

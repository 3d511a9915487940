/- Part of a verified evaluator of the model's code, generic over the program: a run of the evaluator that answers shows what the model's run answers. No conditions of its own. -/
import Derived.Test.YtbdfljdgapkbcaaGreatDoorEvC
import Derived.RangeFuncRecord
import Derived.RangeFuncLeaves
import Derived.OrdersIn
set_option linter.unusedSimpArgs false
set_option linter.unusedVariables false
set_option linter.defProp false
open Nat renaming le_refl → zo, beq → za, testBit_or → yG, blt → ze, ble → zd, le_of_lt → yI, le_trans → zr, lor → yJ, mul → zb, add → zc
open Array renaming getD_eq_getD_getElem? → yH, replicate → yK, ext' → yu
open Bool renaming or_eq_true → zm, or_eq_false_iff → yM
open List renaming mapM_cons → yL
namespace Go.Proofs.YtbdfljdgapkbcaaGreatDoor.Ev
variable {P:Program}{w0 w w':World}{E:Env}{S:Self}{s s':St}{φ φ':Phi}{v:AV}{tm:Trie AV}{id n esz bytes:Nat}{o:AObj}{op:IOp}
theorem lv(s:St)(id:Nat)(o:AObj):(s.put id o).next=s.next:=rfl
theorem Pf(s:St)(id:Nat):(s.del id).next=s.next:=rfl
theorem vH(s:St)(o:AObj):(s.alloc o).next=s.next+1:=rfl
theorem Zs{p:AV}{vs:List AV}(h:ur s p vs=some s'):s'.next=s.next:=by
 unfold ur at h;split at h
 ·split at h
  ·rename_i t cs e fz hg
   cases hb:(fz|| !xZ vs)with
   |true=>rw[hb]at h;simp at h
   |false=>
    rw[hb]at h;simp only[cond_false]at h;split at h
    ·cases h;rfl
    ·cases h
  ·cases h
 ·cases h
theorem Jw{x:AV}(h:ztC s x=some (v,s')):s'=s:=by
 unfold ztC at h;split at h
 ·cases h;rfl
 ·cases h;rfl
 ·rename_i id off len c
  split at h
  ·rename_i k
   cases hb:zd len k with
   |true=>rw[hb]at h;simp at h;exact h.2.symm
   |false=>rw[hb]at h;simp at h
  ·cases h;rfl
 ·cases h;rfl
 ·cases h;rfl
 ·cases h
theorem Jx{t:Nat}{x:AV}{new:List AV}(h:lL s t esz bytes x n new=some (v,s')):s.next≤s'.next:=by
 unfold lL at h;split at h
 ·cases hm:(s.md&&xN new)with
  |true=>rw[hm]at h;simp only[cond_true]at h;have:=jC h;omega
  |false=>rw[hm]at h;simp only[cond_false]at h;have:=kE h;omega
 ·rename_i k ex cs
  cases ex with
  |false=>simp at h
  |true=>
   simp only[cond_true]at h;split at h
   ·have:=jC h;omega
   ·cases h
 ·rename_i id esz' k cs
  split at h
  ·rename_i t0 cells hg
   cases hb:(za esz esz'&&za t0 t&&za (wY cells) (wY cs)&&xZ new)with
   |false=>rw[hb]at h;simp at h
   |true=>rw[hb]at h;simp only[cond_true]at h;have:=jC h;rw[Pf]at this;omega
  ·cases h
 ·rename_i id off len c
  split at h
  ·rename_i t0 cs e fz hg
   split at h
   ·rename_i k
    cases hb:zd (zc len n) k with
    | true=>
     rw[hb]at h;simp only[cond_true]at h;split at h
     ·rename_i s1 hs
      cases h;have:=Zs hs;omega
     ·cases h
    |false=>
     rw[hb]at h;simp only[cond_false]at h;split at h
     ·have:=kE h;omega
     ·cases h
   ·rename_i e'
    cases hb:(za esz e'&&e&& !fz)with
    |false=>rw[hb]at h;simp at h
    | true=>
     rw[hb]at h;simp only[cond_true]at h;cases hb2:zd (zc off (zb (zc len n) esz)) (wY cs)with
     | true=>
      rw[hb2]at h;simp only[cond_true]at h;split at h
      ·rename_i s1 hs
       cases h;have:=Zs hs;omega
      ·cases h
     | false=>
      rw[hb2]at h;simp only[cond_false]at h;cases hb3:(xZ new&&za t0 t)with
      |false=>rw[hb3]at h;simp at h
      |true=>
       rw[hb3]at h;simp only[cond_true]at h;split at h
       ·have:=kE h;rw[Pf]at this;omega
       ·cases h
  ·cases h
 ·cases h
theorem zwH{t:Nat}{x y:AV}(h:vC s t esz bytes x y=some (v,s')):s.next≤s'.next:=by
 unfold vC at h;split at h
 ·cases h
 ·rw[Jw h];exact zo _
 ·split at h
  ·cases h
  ·exact Jx h
theorem zzk{t:Nat}{zs:List AV}{x y:AV}(h:Z3 s t esz bytes zs x y=some (v,s')):s.next≤s'.next:=by
 unfold Z3 at h;split at h
 ·cases h
 ·rename_i n
  cases hb:(zd (zb (Nat.succ n) bytes) 281474976710656&&ze n 9223372036854775807)with
  |false=>rw[hb]at h;simp at h
  |true=>rw[hb]at h;simp only[cond_true]at h;exact Jx h
 ·cases h
theorem zqv{p w:AV}(h:oSt s n p w=some (v,s')):s'.next=s.next:=by
 unfold oSt at h;cases hb:za (wY w.cells) n with
 |false=>rw[hb]at h;simp at h
 |true=>
  rw[hb]at h;simp only[cond_true]at h;split at h
  ·rename_i s1 hs;cases h;exact Zs hs
  ·cases h
theorem zqr{f:FK}{m k x:AV}(h:oMu s f m k x=some (v,s')):s'.next=s.next:=by
 unfold oMu at h;split at h
 ·split at h
  ·split at h
   ·cases h;rfl
   ·cases h;rfl
   ·cases h
  ·split at h
   ·split at h
    ·cases h;rfl
    ·cases h
   ·cases h
  ·cases h
 ·cases h
theorem zqp{f:FK}{m k:AV}(h:oMd s f m k=some (v,s')):s'.next=s.next:=by
 unfold oMd at h;split at h
 ·cases h;rfl
 ·split at h
  ·split at h
   ·cases h;rfl
   ·cases h;rfl
   ·cases h
  ·split at h
   ·split at h
    ·cases h;rfl
    ·cases h
   ·cases h
  ·cases h
 ·cases h
theorem zqt{x:AV}(h:oNs s x=some (v,s')):s'.next=s.next:=by
 unfold oNs at h;split at h
 ·split at h
  ·split at h
   ·cases h;rfl
   ·cases h;rfl
  ·cases h
 ·cases h
theorem zyA{m since clock:Nat}{seen:List Nat}:∀{l:List (AV×AV×Nat)},pE s id m since seen clock l=some (v,s')→s'.next=s.next
 |[],h=>by simp only[pE,Option.some.injEq,Prod.mk.injEq]at h;rw[←h.2]
 |[e],h=>by
  simp only[pE]at h;cases hb:ze e.2.2 since with
  |false=>rw[hb]at h;simp at h
  |true=>rw[hb]at h;simp only[cond_true,Option.some.injEq,Prod.mk.injEq]at h;rw[←h.2];rfl
 |_::_::_,h=>by simp[pE]at h
theorem zqs{x:AV}(h:oNm s x=some (v,s')):s'.next=s.next:=by
 unfold oNm at h;split at h
 ·split at h
  ·cases h;rfl
  ·rename_i m since seen last _
   split at h
   ·rename_i es clock _
    cases hb:LL seen last es with
    |true=>rw[hb]at h;simp at h
    |false=>rw[hb]at h;simp only[cond_false]at h;exact zyA h
   ·cases h
  ·cases h
 ·cases h
theorem zqK(h:opv E op tm s=some (v,s')):s.next≤s'.next:=by
 have e:∀{a b:St},a=b→b.next≤a.next:=fun h=>by rw[h];exact zo _
 have e2:s'.next=s.next→s.next≤s'.next:=fun h=>oM
 cases op<;>simp only[opv]at h<;>try (cases h;done)
 case mv=>obtain⟨_,_,_,h3⟩:=wA h;exact e h3
 case pick=>exact e (vO h).2
 case alloc=>simp only[Zi,Option.some.injEq,Prod.mk.injEq]at h;exact yI (vA h.2)
 case box=>obtain⟨_,_,h⟩:=vV h;simp only[Ph,Option.some.injEq,Prod.mk.injEq]at h;exact yI (vA h.2)
 case build=>exact e (vO h).2
 case bsl=>exact zui h
 case ld=>obtain⟨_,_,_,h3⟩:=wA h;exact e h3
 case ldn=>obtain⟨_,_,_,h3⟩:=wA h;exact e h3
 case st=>obtain⟨_,_,_,_,h⟩:=uH h;exact e2 (zqv h)
 case nck=>obtain⟨_,_,_,h3⟩:=wA h;exact e h3
 case bin=>obtain⟨_,_,_,_,_,h3⟩:=vc h;exact e h3
 case eqk=>obtain⟨_,_,_,_,_,h3⟩:=vc h;exact e h3
 case un=>obtain⟨_,_,_,h3⟩:=wA h;exact e h3
 case ci=>obtain⟨_,_,_,h3⟩:=wA h;exact e h3
 case csb=>obtain⟨_,_,h⟩:=vV h;exact zuj h
 case cbs=>obtain⟨_,_,_,h3⟩:=wA h;exact e h3
 case mif=>obtain⟨_,_,_,h3⟩:=wA h;exact e h3
 case mfn=>obtain⟨_,_,_,_,_,h3⟩:=Hl h;exact e h3
 case mmap=>simp only[lw,Xs,Option.some.injEq,Prod.mk.injEq]at h;exact yI (vA h.2)
 case msl=>obtain⟨_,_,_,_,h⟩:=uH h;exact yI (KE h)
 case sls=>obtain⟨_,_,_,_,_,_,_,h3⟩:=QW h;exact e h3
 case slv=>obtain⟨_,_,_,_,_,_,_,_,_,h3⟩:=Hn h;exact e h3
 case fa=>obtain⟨_,_,_,h3⟩:=wA h;exact e h3
 case ia=>obtain⟨_,_,_,_,_,h3⟩:=vc h;exact e h3
 case iaa=>obtain⟨_,_,_,_,_,h3⟩:=vc h;exact e h3
 case ixs=>obtain⟨_,_,_,_,_,h3⟩:=vc h;exact e h3
 case lk=>obtain⟨_,_,_,_,_,h3⟩:=vc h;exact e h3
 case mu=>obtain⟨_,_,_,_,_,_,h⟩:=GY h;exact e2 (zqr h)
 case md=>obtain⟨_,_,_,_,h⟩:=uH h;exact e2 (zqp h)
 case rs=>obtain⟨_,_,h⟩:=vV h;exact yI (Pj h)
 case ns=>obtain⟨_,_,h⟩:=vV h;exact e2 (zqt h)
 case rm=>obtain⟨_,_,h⟩:=vV h;exact yI (Pi h)
 case nm=>obtain⟨_,_,h⟩:=vV h;exact e2 (zqs h)
 case en=>obtain⟨_,_,_,h3⟩:=wA h;exact e h3
 case ex=>obtain⟨_,_,_,h3⟩:=wA h;exact e h3
 case len=>obtain⟨_,_,_,h3⟩:=wA h;exact e h3
 case cap=>obtain⟨_,_,_,h3⟩:=wA h;exact e h3
 case app=>obtain⟨_,_,_,_,h⟩:=uH h;exact zwH h
 case mn=>obtain⟨_,_,_,h3⟩:=WB h;exact e h3
 case mx=>obtain⟨_,_,_,h3⟩:=WB h;exact e h3
 case nes=>obtain⟨_,_,_,h3⟩:=wA h;exact e h3
 case ibs=>obtain⟨_,_,_,_,_,h3⟩:=vc h;exact e h3
 case appz=>obtain⟨_,_,_,_,h⟩:=uH h;exact zzk h
structure Mono(S:Self):Prop where
 call:∀f args s v s',S.call f args s=some (v,s')→s.next≤s'.next
 loop:∀rd b fr s res fr' s',S.loop rd b fr s=some (res,fr',s')→s.next≤s'.next
 round:∀l args s v s',S.round l args s=some (v,s')→s.next≤s'.next
theorem XX(hS:Mono S)(h:wP E S op tm s=some (v,s')):s.next≤s'.next:=by
 rw[kS]at h;split at h
 ·unfold Lp at h;split at h
  ·exact hS.call _ _ _ _ _ h
  ·cases h
 ·unfold GG at h;split at h
  ·split at h
   ·exact hS.call _ _ _ _ _ h
   ·exact hS.round _ _ _ _ _ h
   ·cases h
  ·cases h
 ·exact zqK h
theorem US(hS:Mono S){o:SOper}{tm':Trie AV}(h:gg E S o tm s=some (tm',s')):s.next≤s'.next:=by
 unfold gg at h;split at h
 ·cases he:wP E S o.op tm s with
  |none=>rw[he]at h;simp[stS]at h
  |some p=>rw[he]at h;simp only[stS,Option.some.injEq,Prod.mk.injEq]at h;rw[←h.2];exact XX hS (v:=p.1) (s':=p.2) he
 ·simp only[Option.some.injEq,Prod.mk.injEq]at h;rw[←h.2];exact zo _
 ·cases h
theorem V5{E:Env}{S:Self}(hS:Mono S):∀{l:List SOper} {tm tm':Trie AV} {s s':St},evS E S l tm s=some (tm',s')→s.next≤s'.next
 |[],tm,tm',s,s',h=>by simp only[evS,Option.some.injEq,Prod.mk.injEq]at h;rw[←h.2];exact zo _
 | o::r,tm,tm',s,s',h=>by
  simp only[evS]at h;split at h
  ·rename_i p hp
   exact zr (US hS (tm':=p.1) (s':=p.2) hp) (V5 hS h)
  ·cases h
theorem zy5(hS:Mono S){o:DOper}{i:Nat}{log:List LogE}{p:List LogE×Trie AV×St}(h:lE E S o i log tm s=some p):s.next≤p.2.2.next:=by
 unfold lE at h;split at h
 ·cases he:wP E S o.o.op tm (qZ o log tm s)with
  |none=>rw[he]at h;simp[Jf]at h
  |some q=>
   rw[he]at h;simp only[Jf]at h;have:=XX hS (v:=q.1) (s':=q.2) he;cases hb:ud o.deps (qo o.o.op tm) (wQ q.2.wm s.next) log with
   |false=>rw[hb]at h;simp at h
   |true=>rw[hb]at h;simp only[cond_true,Option.some.injEq]at h;subst h;exact this
 ·simp only[Option.some.injEq]at h;subst h;exact zo _
 ·cases h
theorem Lq{E:Env}{S:Self}(hS:Mono S):∀{l:List DOper} {i:Nat} {log:List LogE} {tm tm':Trie AV} {s s':St},evD E S l i log tm s=some (tm',s')→s.next≤s'.next
 |[],i,log,tm,tm',s,s',h=>by simp only[evD,Option.some.injEq,Prod.mk.injEq]at h;rw[←h.2];exact zo _
 | o::r,i,log,tm,tm',s,s',h=>by
  simp only[evD]at h;split at h
  ·rename_i p hp
   exact zr (zy5 hS hp) (Lq hS h)
  ·cases h
theorem gp{k:Fr→St→Option (Res×Fr×St)}{x:Option (Res×Fr×St)}{res:Res}{fr':Fr}{s':St}(hx:∀p,x=some p→n≤p.2.2.next)(hk:∀fr s res fr' s',k fr s=some (res,fr',s')→s.next≤s'.next)(h:uC k x=some (res,fr',s')):n≤s'.next:=by
 cases x with
 |none=>simp[uC]at h
 |some p=>
  simp only[uC]at h;have:=hx p rfl;split at h
  ·exact zr this (hk _ _ _ _ _ h)
  ·cases h;exact this
theorem G8{G:Env}{l:List DOper}{o:SOper}{df:List Nat}{x:Option (Trie AV×St)}{res:Res}{fr':Fr}(h:rtS G S l o df s x=some (res,fr',s')):
  ∃tm v t,wP G S o.op tm s=some (v,s')∧res=.norm∧x=some (tm,t)∧fr'={tm:=tm,df:=df}∧QA tm o.dst (some (v,s'))=true∧ju G tm s l=true∧ju G tm s' l=true:=by
 cases x with
 |none=>simp[rtS]at h
 | some p=>
  simp only[rtS]at h;cases he:wP G S o.op p.1 s with
  |none=>rw[he]at h;simp[rtE]at h
  | some q=>
   rw[he]at h;simp only[rtE]at h;cases h1:QA p.1 o.dst (some q)with
   |false=>rw[h1]at h;cases h
   | true=>
    cases h2:ju G p.1 s l with
    |false=>rw[h1,h2]at h;cases h
    | true=>
     cases h3:ju G p.1 q.2 l with
     |false=>rw[h1,h2,h3]at h;cases h
     |true=>
      rw[h1,h2,h3]at h;simp only[cond_true,Option.some.injEq,Prod.mk.injEq]at h;obtain⟨e1,e2,e3⟩:=h;subst e3;exact⟨p.1,q.1,p.2,he,e1.symm,rfl,e2.symm,h1,h2,h3⟩
theorem qL{E:Env}{S:Self}(hS:Mono S){rd:Option Nat}:∀{c:ICode} {fr fr':Fr} {s s':St} {res:Res},evC E S rd c fr s=some (res,fr',s')→s.next≤s'.next
 |.skip,fr,fr',s,s',res,h=>by simp only[evC]at h;cases h;exact zo _
 |.reg ops,fr,fr',s,s',res,h=>by
  simp only[evC]at h;cases he:evS E S ops fr.tm s with
  |none=>rw[he]at h;simp[uo]at h
  |some p=>rw[he]at h;simp only[uo]at h;cases h;exact V5 hS (tm':=p.1) he
 |.regd ops,fr,fr',s,s',res,h=>by
  simp only[evC,Qg]at h;split at h
  case h_2=>cases h
  cases he:evD E S ops 0 [] fr.tm s with
  |none=>rw[he]at h;simp[uo]at h
  |some p=>rw[he]at h;simp only[uo]at h;cases h;exact Lq hS (tm':=p.1) he
 |.regt a c r,fr,fr',s,s',res,h=>by
  simp only[evC]at h;obtain⟨tm,v,_,he,rfl,_⟩:=G8 h;exact XX hS he
 |.seq a b,fr,fr',s,s',res,h=>by
  simp only[evC]at h;exact gp (fun p hp=>qL hS (res:=p.1) (fr':=p.2.1) hp) (fun fr s res fr' s' h=>qL hS h) h
 |.cond c a b,fr,fr',s,s',res,h=>by
  simp only[evC,WV]at h;split at h
  ·exact qL hS h
  ·exact qL hS h
  ·cases h
 | .block id b,fr,fr',s,s',res,h=>by
  simp only[evC]at h;cases he:evC E S rd b fr s with
  |none=>rw[he]at h;simp[jv]at h
  | some p=>
   have:=qL hS (res:=p.1) (fr':=p.2.1) (s':=p.2.2) he;rw[he]at h;simp only[jv]at h;split at h
   ·rename_i i _
    cases hb:za i id with
    |true=>rw[hb]at h;simp only[cond_true,Option.some.injEq,Prod.mk.injEq]at h;rw[h.2]at this;exact this
    |false=>rw[hb]at h;simp only[cond_false]at h;cases h;exact this
   ·cases h;exact this
 |.loop b,fr,fr',s,s',res,h=>by
  simp only[evC]at h;exact gp (fun p hp=>qL hS (res:=p.1) (fr':=p.2.1) hp) (fun fr s res fr' s' h=>hS.loop _ _ _ _ _ _ _ h) h
 |.exit id,fr,fr',s,s',res,h=>by simp only[evC]at h;cases h;exact zo _
 |.ret,fr,fr',s,s',res,h=>by simp only[evC]at h;cases h;exact zo _
 | .rf g ps asg body,fr,fr',s,s',res,h=>by
  simp only[evC,rfR]at h;split at h
  ·split at h
   ·rename_i f a c _
    cases he:S.call f (a++ .yld (Nat.succ s.next)::c) ((s.alloc .dfd).alloc (.loop .ready none fr.tm ps asg body s.next))with
    |none=>rw[he]at h;simp[gQ]at h
    | some p=>
     have:=hS.call _ _ _ p.1 p.2 he;rw[vH,vH]at this;rw[he]at h;simp only[gQ]at h;split at h
     ·split at h
      ·cases h
      ·cases h;rw[lv];omega
     ·cases h
   ·cases h
  ·cases h
 |.stk,fr,fr',s,s',res,h=>by simp[evC]at h
theorem Zt:∀{l:List Nat} {s s':St},wZ s l=some s'→s'.next=s.next
 |[],s,s',h=>by simp only[wZ,Option.some.injEq]at h;rw[h]
 |d::r,s,s',h=>by
  simp only[wZ]at h;split at h
  ·rw[Zt h];rfl
  ·cases h
theorem Vg(hS:Mono S){F:IFunc}{args:List AV}(h:pM E S F args s=some (v,s')):s.next≤s'.next:=by
 unfold pM at h;cases he:evC E S none F.body {tm:=wq .leaf 0 args,df:=[]} s with
 |none=>rw[he]at h;simp[wL]at h
 | some p=>
  have:=qL hS (res:=p.1) (fr':=p.2.1) (s':=p.2.2) he;rw[he]at h;simp only[wL]at h;split at h
  ·cases h
  ·split at h
   ·rename_i s1 hm
    have:=Zt hm;unfold YE at h;split at h
    ·cases h;omega
    ·cases h
   ·cases h
theorem zqY{x:Option (AV×St)}(h:Z2 s x=some (v,s')):
  ∃u t,x=some (u,t)∧((wQ t.wm s.next=0∧ZZ s.next u=some v∧s'=s)∨(v=agW u∧s'={t with wm:=yJ s.wm t.wm,md:=s.md})):=by
 cases x with
 |none=>simp[Z2]at h
 | some p=>
  refine⟨p.1,p.2,rfl,?_⟩;simp only[Z2]at h;split at h
  ·rename_i u hu
   cases hb:za (wQ p.2.wm s.next) 0 with
   |false=>rw[hb]at hu;simp at hu
   |true=>
    rw[hb]at hu;simp only[cond_true]at hu;simp only[Option.some.injEq,Prod.mk.injEq]at h;obtain⟨rfl,rfl⟩:=h;exact .inl ⟨xT.1 hb,hu,rfl⟩
  ·simp only[Option.some.injEq,Prod.mk.injEq]at h;exact .inr ⟨h.1.symm,h.2.symm⟩
theorem zn3{b:Bool}{x:Option (AV×St)}(h:mdR b x=some (v,s')):∃t,x=some (v,t)∧s'={t with md:=b}:=by
 cases x with
 |none=>simp[mdR]at h
 |some p=>
  simp only[mdR,Option.some.injEq,Prod.mk.injEq]at h;obtain⟨rfl,rfl⟩:=h;exact⟨p.2,rfl,rfl⟩
theorem XN{f:Nat}{args:List AV}(h:jc E S f args s=some (v,s')):
  ∃F,E.funs.get f=some F∧args.length≤F.ntmps∧((∃u t,pM E S F args {s with wm:=0,md:=true}=some (u,t)∧((wQ t.wm s.next=0∧ZZ s.next u=some v∧s'=s)∨(v=agW u∧s'={t with wm:=yJ s.wm t.wm,md:=s.md})))∨
   ∃t,pM E S F args {s with md:=false}=some (v,t)∧s'={t with md:=s.md}):=by
 unfold jc at h;split at h
 ·rename_i F hF
  cases hb:zd (wY args) F.ntmps with
  |false=>rw[hb]at h;simp at h
  |true=>
   rw[hb]at h;simp only[cond_true]at h;refine⟨F,hF,by rw[←wE];exact xR.1 hb,?_⟩
   cases hp:E.pure f with
   |true=>rw[hp]at h;simp only[cond_true]at h;exact .inl (zqY h)
   |false=>rw[hp]at h;simp only[cond_false]at h;exact .inr (zn3 h)
 ·cases h
theorem zzx(hS:Mono S){f:Nat}{args:List AV}(h:jc E S f args s=some (v,s')):s.next≤s'.next:=by
 obtain⟨F,_,_,⟨u,t,hb,⟨_,_,rfl⟩|⟨rfl,rfl⟩⟩|⟨t,hb,rfl⟩⟩:=XN h
 ·exact zo _
 ·have h1:=Vg hS hb;exact h1
 ·have h1:=Vg hS hb;exact h1
theorem PC(hS:Mono S){l:Nat}{args:List AV}(h:uI E S l args s=some (v,s')):s.next≤s'.next:=by
 unfold uI at h;split at h
 ·rename_i tm ps asg bd d _
  split at h
  ·rename_i tm1 _
   cases he:evC E S (some l) asg {tm:=tm1,df:=[]} s with
   |none=>rw[he]at h;simp[qR]at h
   | some p=>
    have h1:=qL hS (res:=p.1) (fr':=p.2.1) (s':=p.2.2) he;rw[he]at h;simp only[qR]at h;split at h
    ·split at h
     ·rename_i pend tm ps asg body d _
      cases he2:evC E S (some l) bd p.2.1 (p.2.2.put l (.loop .busy pend tm ps asg body d))with
      |none=>rw[he2]at h;simp[vP]at h
      | some q=>
       have h2:=qL hS (res:=q.1) (fr':=q.2.1) (s':=q.2.2) he2;rw[lv]at h2;rw[he2]at h;simp only[vP]at h;split at h
       ·split at h
        ·cases h;rw[lv];omega
        ·cases h;rw[lv];omega
       ·cases h
     ·cases h
    ·cases h
  ·cases h
 ·cases h
theorem qU{o':AObj}(h:s.get id=some o)(hng:qG o=false:=by rfl):Ext s (s.put id o'):=zxv s id o o' (wa h) (qm h) hng
theorem Lt(h:s.get id=some o)(hng:qG o=false:=by rfl):Ext s (s.del id):=GJ s id (wa h) (qm h) hng
theorem jP(h:s.alloc o=s'):Ext s s':=h▸kC s o
theorem wX(h:s'=s):Ext s s':=by rw[h];exact Ext.refl s
theorem YG{p:AV}{vs:List AV}(h:ur s p vs=some s'):Ext s s':=by
 unfold ur at h;split at h
 ·split at h
  ·rename_i t cs e fz hg
   cases hb:(fz|| !xZ vs)with
   |true=>rw[hb]at h;simp at h
   |false=>
    rw[hb]at h;simp only[cond_false]at h;split at h
    ·cases h;exact qU hg
    ·cases h
  ·cases h
 ·cases h
theorem Un{e need:Nat}{cs:List AV}(h:grow s e esz bytes cs need=some (v,s')):Ext s s':=by
 unfold grow at h;cases hb:(zd (zb (zb 2 need) bytes) 281474976710656&&zd 1 esz&&ze need 9223372036854775808)with
 |false=>rw[hb]at h;simp at h
 |true=>rw[hb]at h;simp only[cond_true,Option.some.injEq,Prod.mk.injEq]at h;exact jP h.2
theorem X4{e need:Nat}{cs:List AV}(h:lq s e esz bytes cs need=some (v,s')):Ext s s':=by
 obtain⟨_,_,_,_,_,rfl⟩:=X5 h;exact kC _ _
theorem Hv{t:Nat}{x:AV}{new:List AV}(h:lL s t esz bytes x n new=some (v,s')):Ext s s':=by
 unfold lL at h;split at h
 ·cases hm:(s.md&&xN new)with
  |true=>rw[hm]at h;simp only[cond_true]at h;exact X4 h
  |false=>rw[hm]at h;simp only[cond_false]at h;exact Un h
 ·rename_i k ex cs
  cases ex with
  |false=>simp at h
  |true=>
   simp only[cond_true]at h;split at h
   ·exact X4 h
   ·cases h
 ·rename_i id esz' k cs
  split at h
  ·rename_i t0 cells hg
   cases hb:(za esz esz'&&za t0 t&&za (wY cells) (wY cs)&&xZ new)with
   |false=>rw[hb]at h;simp at h
   |true=>rw[hb]at h;simp only[cond_true]at h;exact(Lt hg).trans (X4 h)
  ·cases h
 ·rename_i id off len c
  split at h
  ·rename_i t0 cs e fz hg
   split at h
   ·rename_i k
    cases hb:zd (zc len n) k with
    | true=>
     rw[hb]at h;simp only[cond_true]at h;split at h
     ·rename_i s1 hs
      cases h;exact YG hs
     ·cases h
    |false=>
     rw[hb]at h;simp only[cond_false]at h;split at h
     ·exact Un h
     ·cases h
   ·rename_i e'
    cases hb:(za esz e'&&e&& !fz)with
    |false=>rw[hb]at h;simp at h
    | true=>
     rw[hb]at h;simp only[cond_true]at h;cases hb2:zd (zc off (zb (zc len n) esz)) (wY cs)with
     | true=>
      rw[hb2]at h;simp only[cond_true]at h;split at h
      ·rename_i s1 hs
       cases h;exact YG hs
      ·cases h
     | false=>
      rw[hb2]at h;simp only[cond_false]at h;cases hb3:(xZ new&&za t0 t)with
      |false=>rw[hb3]at h;simp at h
      |true=>
       rw[hb3]at h;simp only[cond_true]at h;split at h
       ·exact(Lt hg).trans (Un h)
       ·cases h
  ·cases h
 ·cases h
theorem ztD{t:Nat}{x y:AV}(h:vC s t esz bytes x y=some (v,s')):Ext s s':=by
 unfold vC at h;split at h
 ·cases h
 ·exact wX (Jw h)
 ·split at h
  ·cases h
  ·exact Hv h
theorem zwJ{t:Nat}{zs:List AV}{x y:AV}(h:Z3 s t esz bytes zs x y=some (v,s')):Ext s s':=by
 unfold Z3 at h;split at h
 ·cases h
 ·rename_i n
  cases hb:(zd (zb (Nat.succ n) bytes) 281474976710656&&ze n 9223372036854775807)with
  |false=>rw[hb]at h;simp at h
  |true=>rw[hb]at h;simp only[cond_true]at h;exact Hv h
 ·cases h
theorem zmh{p w:AV}(h:oSt s n p w=some (v,s')):Ext s s':=by
 unfold oSt at h;cases hb:za (wY w.cells) n with
 |false=>rw[hb]at h;simp at h
 |true=>
  rw[hb]at h;simp only[cond_true]at h;split at h
  ·rename_i s1 hs;cases h;exact YG hs
  ·cases h
theorem zmc{f:FK}{m k x:AV}(h:oMu s f m k x=some (v,s')):Ext s s':=by
 unfold oMu at h;split at h
 ·split at h
  ·rename_i hg
   split at h
   ·cases h;exact qU hg
   ·cases h;exact qU hg
   ·cases h
  ·rename_i hg
   split at h
   ·split at h
    ·cases h;exact qU hg
    ·cases h
   ·cases h
  ·cases h
 ·cases h
theorem zn9{f:FK}{m k:AV}(h:oMd s f m k=some (v,s')):Ext s s':=by
 unfold oMd at h;split at h
 ·cases h;exact Ext.refl _
 ·split at h
  ·rename_i hg
   split at h
   ·cases h;exact qU hg
   ·cases h;exact qU hg
   ·cases h
  ·rename_i hg
   split at h
   ·split at h
    ·cases h;exact qU hg
    ·cases h
   ·cases h
  ·cases h
 ·cases h
theorem zme{x:AV}(h:oNs s x=some (v,s')):Ext s s':=by
 unfold oNs at h;split at h
 ·split at h
  ·rename_i hg
   split at h
   ·cases h;exact qU hg
   ·cases h;exact Ext.refl _
  ·cases h
 ·cases h
theorem zud{m since clock:Nat}{seen:List Nat}(hg:s.get id=some o)(hng:qG o=false:=by rfl):∀{l:List (AV×AV×Nat)},pE s id m since seen clock l=some (v,s')→Ext s s'
 |[],h=>by simp only[pE,Option.some.injEq,Prod.mk.injEq]at h;exact wX h.2.symm
 |[e],h=>by
  simp only[pE]at h;cases hb:ze e.2.2 since with
  |false=>rw[hb]at h;simp at h
  |true=>rw[hb]at h;simp only[cond_true,Option.some.injEq,Prod.mk.injEq]at h;rw[←h.2];exact qU hg hng
 |_::_::_,h=>by simp[pE]at h
theorem zmd{x:AV}(h:oNm s x=some (v,s')):Ext s s':=by
 unfold oNm at h;split at h
 ·split at h
  ·cases h;exact Ext.refl _
  ·rename_i m since seen last hg
   split at h
   ·rename_i es clock _
    cases hb:LL seen last es with
    |true=>rw[hb]at h;simp at h
    |false=>rw[hb]at h;simp only[cond_false]at h;exact zud hg rfl h
   ·cases h
  ·cases h
 ·cases h
theorem zqm{e len:Nat}{x:Option (List AV)}(h:Xr s e len x=some (v,s')):Ext s s':=by
 cases x with
 |none=>simp[Xr]at h
 |some l=>
  simp only[Xr]at h;cases hb:(s.md&&xN l)with
  |true=>rw[hb]at h;simp only[cond_true,Option.some.injEq,Prod.mk.injEq]at h;exact wX h.2.symm
  |false=>rw[hb]at h;simp only[cond_false,Option.some.injEq,Prod.mk.injEq]at h;exact jP h.2
theorem zqq{e b:Nat}{z:List AV}{l c:AV}(h:Jm s e b z l c=some (v,s')):Ext s s':=by
 unfold Jm at h;split at h
 ·rename_i l
  split at h
  ·rename_i c
   cases hb:(zd l c&&zd (zb c b) 281474976710656&&ze c 9223372036854775808)with
   |false=>rw[hb]at h;simp at h
   |true=>rw[hb]at h;simp only[cond_true,Option.some.injEq,Prod.mk.injEq]at h;exact jP h.2
  ·cases h
 ·cases h
theorem zqn{e:Nat}{x:AV}(h:Qw s e x=some (v,s')):Ext s s':=by
 unfold Qw at h;split at h
 ·rename_i t
  cases hb:ze (wY t) 9223372036854775808 with
  |false=>rw[hb]at h;simp at h
  |true=>
   rw[hb]at h;simp only[cond_true]at h;cases hm:s.md with
   |true=>rw[hm]at h;simp only[cond_true,Option.some.injEq,Prod.mk.injEq]at h;exact wX h.2.symm
   |false=>rw[hm]at h;simp only[cond_false,Option.some.injEq,Prod.mk.injEq]at h;exact jP h.2
 ·cases h
theorem zmg{x:AV}(h:oRs s x=some (v,s')):Ext s s':=by
 unfold oRs at h;split at h
 ·simp only[Option.some.injEq,Prod.mk.injEq]at h;exact jP h.2
 ·cases h
theorem zmf{x:AV}(h:oRm s x=some (v,s')):Ext s s':=by
 unfold oRm at h;split at h
 ·simp only[Option.some.injEq,Prod.mk.injEq]at h;exact jP h.2
 ·split at h
  ·simp only[Option.some.injEq,Prod.mk.injEq]at h;exact jP h.2
  ·cases h
 ·cases h
theorem zml(h:opv E op tm s=some (v,s')):Ext s s':=by
 cases op<;>simp only[opv]at h<;>try (cases h;done)
 case mv=>obtain⟨_,_,_,h3⟩:=wA h;exact wX h3
 case pick=>exact wX (vO h).2
 case alloc=>simp only[Zi,Option.some.injEq,Prod.mk.injEq]at h;exact jP h.2
 case box=>obtain⟨_,_,h⟩:=vV h;simp only[Ph,Option.some.injEq,Prod.mk.injEq]at h;exact jP h.2
 case build=>exact wX (vO h).2
 case bsl=>exact zqm h
 case ld=>obtain⟨_,_,_,h3⟩:=wA h;exact wX h3
 case ldn=>obtain⟨_,_,_,h3⟩:=wA h;exact wX h3
 case st=>obtain⟨_,_,_,_,h⟩:=uH h;exact zmh h
 case nck=>obtain⟨_,_,_,h3⟩:=wA h;exact wX h3
 case bin=>obtain⟨_,_,_,_,_,h3⟩:=vc h;exact wX h3
 case eqk=>obtain⟨_,_,_,_,_,h3⟩:=vc h;exact wX h3
 case un=>obtain⟨_,_,_,h3⟩:=wA h;exact wX h3
 case ci=>obtain⟨_,_,_,h3⟩:=wA h;exact wX h3
 case csb=>obtain⟨_,_,h⟩:=vV h;exact zqn h
 case cbs=>obtain⟨_,_,_,h3⟩:=wA h;exact wX h3
 case mif=>obtain⟨_,_,_,h3⟩:=wA h;exact wX h3
 case mfn=>obtain⟨_,_,_,_,_,h3⟩:=Hl h;exact wX h3
 case mmap=>simp only[lw,Xs,Option.some.injEq,Prod.mk.injEq]at h;exact jP h.2
 case msl=>obtain⟨_,_,_,_,h⟩:=uH h;exact zqq h
 case sls=>obtain⟨_,_,_,_,_,_,_,h3⟩:=QW h;exact wX h3
 case slv=>obtain⟨_,_,_,_,_,_,_,_,_,h3⟩:=Hn h;exact wX h3
 case fa=>obtain⟨_,_,_,h3⟩:=wA h;exact wX h3
 case ia=>obtain⟨_,_,_,_,_,h3⟩:=vc h;exact wX h3
 case iaa=>obtain⟨_,_,_,_,_,h3⟩:=vc h;exact wX h3
 case ixs=>obtain⟨_,_,_,_,_,h3⟩:=vc h;exact wX h3
 case lk=>obtain⟨_,_,_,_,_,h3⟩:=vc h;exact wX h3
 case mu=>obtain⟨_,_,_,_,_,_,h⟩:=GY h;exact zmc h
 case md=>obtain⟨_,_,_,_,h⟩:=uH h;exact zn9 h
 case rs=>obtain⟨_,_,h⟩:=vV h;exact zmg h
 case ns=>obtain⟨_,_,h⟩:=vV h;exact zme h
 case rm=>obtain⟨_,_,h⟩:=vV h;exact zmf h
 case nm=>obtain⟨_,_,h⟩:=vV h;exact zmd h
 case en=>obtain⟨_,_,_,h3⟩:=wA h;exact wX h3
 case ex=>obtain⟨_,_,_,h3⟩:=wA h;exact wX h3
 case len=>obtain⟨_,_,_,h3⟩:=wA h;exact wX h3
 case cap=>obtain⟨_,_,_,h3⟩:=wA h;exact wX h3
 case app=>obtain⟨_,_,_,_,h⟩:=uH h;exact ztD h
 case mn=>obtain⟨_,_,_,h3⟩:=WB h;exact wX h3
 case mx=>obtain⟨_,_,_,h3⟩:=WB h;exact wX h3
 case nes=>obtain⟨_,_,_,h3⟩:=wA h;exact wX h3
 case ibs=>obtain⟨_,_,_,_,_,h3⟩:=vc h;exact wX h3
 case appz=>obtain⟨_,_,_,_,h⟩:=uH h;exact zwJ h
structure ExtS(S:Self):Prop where
 call:∀f args s v s',S.call f args s=some (v,s')→Ext s s'
 loop:∀rd b fr s res fr' s',S.loop rd b fr s=some (res,fr',s')→Ext s s'
 round:∀l args s v s',S.round l args s=some (v,s')→Ext s s'
theorem jf(hS:ExtS S)(h:wP E S op tm s=some (v,s')):Ext s s':=by
 rw[kS]at h;split at h
 ·unfold Lp at h;split at h
  ·exact hS.call _ _ _ _ _ h
  ·cases h
 ·unfold GG at h;split at h
  ·split at h
   ·exact hS.call _ _ _ _ _ h
   ·exact hS.round _ _ _ _ _ h
   ·cases h
  ·cases h
 ·exact zml h
theorem zuU(hS:ExtS S){o:SOper}{tm':Trie AV}(h:gg E S o tm s=some (tm',s')):Ext s s':=by
 unfold gg at h;split at h
 ·cases he:wP E S o.op tm s with
  |none=>rw[he]at h;simp[stS]at h
  |some p=>rw[he]at h;simp only[stS,Option.some.injEq,Prod.mk.injEq]at h;rw[←h.2];exact jf hS (v:=p.1) (s':=p.2) he
 ·simp only[Option.some.injEq,Prod.mk.injEq]at h;exact wX h.2.symm
 ·cases h
theorem zxt{E:Env}{S:Self}(hS:ExtS S):∀{l:List SOper} {tm tm':Trie AV} {s s':St},evS E S l tm s=some (tm',s')→Ext s s'
 |[],tm,tm',s,s',h=>by simp only[evS,Option.some.injEq,Prod.mk.injEq]at h;exact wX h.2.symm
 | o::r,tm,tm',s,s',h=>by
  simp only[evS]at h;split at h
  ·rename_i p hp
   exact(zuU hS (tm':=p.1) (s':=p.2) hp).trans (zxt hS h)
  ·cases h
theorem Zb(deps:Nat)(h:List (Nat×Nat))(id:Nat):∀(log:List LogE),hid h id=true→hid (qr deps log h) id=true
 |[],hh=>hh
 | e::r,hh=>by
  simp only[qr];cases hb:(za e.lo e.hi||deps.testBit e.idx)with
  |true=>simp only[cond_true];exact Zb deps h id r hh
  |false=>
   simp only[cond_false,hid];have:=Zb deps h id r hh;cases zd e.lo id<;>cases ze id e.hi<;>simp[this]
theorem KV{o:DOper}{log:List LogE}(hon:s.only=none)(h:seen (qZ o log tm s) id=true):seen s id=true:=by
 unfold seen at h⊢;rw[hon];cases hh:hid s.hide id with
 |false=>rfl
 |true=>
  have:=Zb o.deps s.hide id log hh
  exfalso
  simp only[qZ]at h;split at h
  ·rw[this]at h;cases h
  ·rw[this]at h;cases h
theorem V1{o:DOper}{log:List LogE}{t:St}(hon:s.only=none)(hlog:∀e∈log,e.hi≤s.next)(h:Ext (qZ o log tm s) t):Ext s {t with hide:=s.hide,only:=s.only,wm:=Nat.lor s.wm t.wm}:=by
 refine⟨h.next,fun i hi=>?_,rfl,rfl,fun id hid hw=>?_,h.vis,fun hwf=>⟨?_,fun p hp=>zr (hwf.hd p hp) h.next⟩,fun id hid hw=>?_,fun id o' hid ho hgo hw=>?_⟩
 rotate_right
 ·have:(s.wm|||t.wm).testBit id=true:=hw
  rw[yG,zm]at this;rcases this with h1|h1
  ·exact h1
  ·have:=h.giv id o' hid ho hgo h1;simp[qZ]at this
 ·show (s.wm|||t.wm).testBit i=true
  rw[yG,hi];rfl
 ·have:(s.wm|||t.wm).testBit id=false:=hw
  rw[yG,yM]at this;exact h.keep id hid this.2
 ·have hb:Wf (qZ o log tm s):=⟨hwf.lt,fun p hp=>by
   have key:∀(l:List LogE),(∀e∈l,e.hi≤s.next)→p∈qr o.deps l s.hide→p.2≤s.next:=by
    intro l
    induction l with
    |nil=>intro _ hp;exact hwf.hd p hp
    | cons e r ih=>
     intro hl hp;simp only[qr]at hp;cases hb:(za e.lo e.hi||o.deps.testBit e.idx)with
     |true=>rw[hb]at hp;simp only[cond_true]at hp;exact ih (fun e' he'=>hl e' (by simp[he'])) hp
     |false=>
      rw[hb]at hp;simp only[cond_false,List.mem_cons]at hp;rcases hp with rfl|hp
      ·exact hl e (by simp)
      ·exact ih (fun e' he'=>hl e' (by simp[he'])) hp
   exact key log hlog hp⟩
  exact(h.wf hb).lt
 ·have:(s.wm|||t.wm).testBit id=true:=hw
  rw[yG,zm]at this;rcases this with h1|h1
  ·exact .inl h1
  ·rcases h.wv id hid h1 with h2|h2
   ·simp[qZ]at h2
   ·exact .inr (KV hon h2)
theorem zuT(hS:ExtS S){o:DOper}{i:Nat}{log:List LogE}{p:List LogE×Trie AV×St}(hon:s.only=none)(hlog:∀e∈log,e.hi≤s.next)(h:lE E S o i log tm s=some p):Ext s p.2.2∧∀e∈p.1,e.hi≤p.2.2.next:=by
 unfold lE at h;split at h
 ·cases he:wP E S o.o.op tm (qZ o log tm s)with
  |none=>rw[he]at h;simp[Jf]at h
  | some q=>
   rw[he]at h;simp only[Jf]at h;have:=V1 hon hlog (jf hS (v:=q.1) (s':=q.2) he);cases hb:ud o.deps (qo o.o.op tm) (wQ q.2.wm s.next) log with
   |false=>rw[hb]at h;simp at h
   |true=>
    rw[hb]at h;simp only[cond_true,Option.some.injEq]at h;subst h;refine⟨this,fun e he=>?_⟩;rcases List.mem_cons.1 he with rfl|he
    ·exact zo _
    ·exact zr (hlog e he) this.next
 ·simp only[Option.some.injEq]at h;subst h;exact⟨Ext.refl s,hlog⟩
 ·cases h
theorem zxs{E:Env}{S:Self}(hS:ExtS S):∀{l:List DOper} {i:Nat} {log:List LogE} {tm tm':Trie AV} {s s':St},s.only=none→(∀e∈log,e.hi≤s.next)→evD E S l i log tm s=some (tm',s')→Ext s s'
 |[],i,log,tm,tm',s,s',_,_,h=>by simp only[evD,Option.some.injEq,Prod.mk.injEq]at h;exact wX h.2.symm
 | o::r,i,log,tm,tm',s,s',hon,hlog,h=>by
  simp only[evD]at h;split at h
  ·rename_i p hp
   obtain⟨h1,h2⟩:=zuT hS hon hlog hp;exact h1.trans (zxs hS (h1.only.trans hon) h2 h)
  ·cases h
theorem K2{k:Fr→St→Option (Res×Fr×St)}{x:Option (Res×Fr×St)}{s:St}{res:Res}{fr':Fr}{s':St}(hx:∀p,x=some p→Ext s p.2.2)(hk:∀fr s res fr' s',k fr s=some (res,fr',s')→Ext s s')(h:uC k x=some (res,fr',s')):Ext s s':=by
 cases x with
 |none=>simp[uC]at h
 |some p=>
  simp only[uC]at h;have:=hx p rfl;split at h
  ·exact this.trans (hk _ _ _ _ _ h)
  ·cases h;exact this
theorem jO{E:Env}{S:Self}(hS:ExtS S){rd:Option Nat}:∀{c:ICode} {fr fr':Fr} {s s':St} {res:Res},evC E S rd c fr s=some (res,fr',s')→Ext s s'
 |.skip,fr,fr',s,s',res,h=>by simp only[evC]at h;cases h;exact Ext.refl _
 |.reg ops,fr,fr',s,s',res,h=>by
  simp only[evC]at h;cases he:evS E S ops fr.tm s with
  |none=>rw[he]at h;simp[uo]at h
  |some p=>rw[he]at h;simp only[uo]at h;cases h;exact zxt hS (tm':=p.1) he
 |.regd ops,fr,fr',s,s',res,h=>by
  simp only[evC,Qg]at h;split at h
  case h_2=>cases h
  rename_i hon
  cases he:evD E S ops 0 [] fr.tm s with
  |none=>rw[he]at h;simp[uo]at h
  |some p=>rw[he]at h;simp only[uo]at h;cases h;exact zxs hS hon (fun e he=>by simp at he) (tm':=p.1) he
 |.regt a c r,fr,fr',s,s',res,h=>by
  simp only[evC]at h;obtain⟨tm,v,_,he,rfl,_⟩:=G8 h;exact jf hS he
 |.seq a b,fr,fr',s,s',res,h=>by
  simp only[evC]at h;exact K2 (fun p hp=>jO hS (res:=p.1) (fr':=p.2.1) hp) (fun fr s res fr' s' h=>jO hS h) h
 |.cond c a b,fr,fr',s,s',res,h=>by
  simp only[evC,WV]at h;split at h
  ·exact jO hS h
  ·exact jO hS h
  ·cases h
 | .block id b,fr,fr',s,s',res,h=>by
  simp only[evC]at h;cases he:evC E S rd b fr s with
  |none=>rw[he]at h;simp[jv]at h
  | some p=>
   have:=jO hS (res:=p.1) (fr':=p.2.1) (s':=p.2.2) he;rw[he]at h;simp only[jv]at h;split at h
   ·rename_i i _
    cases hb:za i id with
    |true=>rw[hb]at h;simp only[cond_true,Option.some.injEq,Prod.mk.injEq]at h;rw[h.2]at this;exact this
    |false=>rw[hb]at h;simp only[cond_false]at h;cases h;exact this
   ·cases h;exact this
 |.loop b,fr,fr',s,s',res,h=>by
  simp only[evC]at h;exact K2 (fun p hp=>jO hS (res:=p.1) (fr':=p.2.1) hp) (fun fr s res fr' s' h=>hS.loop _ _ _ _ _ _ _ h) h
 |.exit id,fr,fr',s,s',res,h=>by simp only[evC]at h;cases h;exact Ext.refl _
 |.ret,fr,fr',s,s',res,h=>by simp only[evC]at h;cases h;exact Ext.refl _
 | .rf g ps asg body,fr,fr',s,s',res,h=>by
  simp only[evC,rfR]at h;split at h
  ·split at h
   ·rename_i f a c _
    cases he:S.call f (a++ .yld (Nat.succ s.next)::c) ((s.alloc .dfd).alloc (.loop .ready none fr.tm ps asg body s.next))with
    |none=>rw[he]at h;simp[gQ]at h
    | some p=>
     have:=((kC s .dfd).trans (kC (s.alloc .dfd) (.loop .ready none fr.tm ps asg body s.next))).trans (hS.call _ _ _ p.1 p.2 he)
     rw[he]at h;simp only[gQ]at h;split at h
     ·rename_i hg
      split at h
      ·cases h
      ·cases h;exact this.trans (qU hg)
     ·cases h
   ·cases h
  ·cases h
 |.stk,fr,fr',s,s',res,h=>by simp[evC]at h
theorem Yc:∀{l:List Nat} {s s':St},wZ s l=some s'→Ext s s'
 |[],s,s',h=>by simp only[wZ,Option.some.injEq]at h;exact wX h.symm
 |d::r,s,s',h=>by
  simp only[wZ]at h;split at h
  ·rename_i hg;exact(qU hg).trans (Yc h)
  ·cases h
theorem JB(hS:ExtS S){F:IFunc}{args:List AV}(h:pM E S F args s=some (v,s')):Ext s s':=by
 unfold pM at h;cases he:evC E S none F.body {tm:=wq .leaf 0 args,df:=[]} s with
 |none=>rw[he]at h;simp[wL]at h
 | some p=>
  have:=jO hS (res:=p.1) (fr':=p.2.1) (s':=p.2.2) he;rw[he]at h;simp only[wL]at h;split at h
  ·cases h
  ·split at h
   ·rename_i s1 hm
    have h2:=this.trans (Yc hm);unfold YE at h;split at h
    ·cases h;exact h2
    ·cases h
   ·cases h
theorem Ext.sub{t:St}{b c:Bool}(h:Ext {s with wm:=0,md:=b} t):Ext s {t with wm:=yJ s.wm t.wm,md:=c} where
 next:=h.next
 wm:=fun i hi=>by show (s.wm|||t.wm).testBit i=true;rw[yG,hi];rfl
 hide:=h.hide
 only:=h.only
 keep:=fun id hid hw=>h.keep id hid (by
  have:(s.wm|||t.wm).testBit id=false:=hw
  rw[yG,yM]at this;exact this.2)
 vis:=h.vis
 wf:=fun hw=>let w:=h.wf ⟨hw.lt,hw.hd⟩;⟨w.lt,w.hd⟩
 wv:=fun id hid hw=>by
  have:(s.wm|||t.wm).testBit id=true:=hw
  rw[yG,zm]at this;rcases this with h1|h1
  ·exact .inl h1
  ·rcases h.wv id hid h1 with h2|h2
   ·have h2':(0:Nat).testBit id=true:=h2;simp at h2'
   ·exact .inr h2
 giv:=fun id o hid ho hg hw=>by
  have:(s.wm|||t.wm).testBit id=true:=hw
  rw[yG,zm]at this;rcases this with h1|h1
  ·exact h1
  ·have h2':(0:Nat).testBit id=true:=h.giv id o hid ho hg h1;simp at h2'
theorem Ext.remd{t:St}{b c:Bool}(h:Ext {s with md:=b} t):Ext s {t with md:=c}:=
 ⟨h.next,h.wm,h.hide,h.only,h.keep,h.vis,fun hw=>let w:=h.wf ⟨hw.lt,hw.hd⟩;⟨w.lt,w.hd⟩,h.wv,h.giv⟩
theorem zwR(hS:ExtS S){f:Nat}{args:List AV}(h:jc E S f args s=some (v,s')):Ext s s':=by
 obtain⟨F,_,_,⟨u,t,hb,⟨_,_,rfl⟩|⟨rfl,rfl⟩⟩|⟨t,hb,rfl⟩⟩:=XN h
 ·exact Ext.refl s'
 ·exact(JB hS hb).sub
 ·exact(JB hS hb).remd
theorem zyY(hS:ExtS S){l:Nat}{args:List AV}(h:uI E S l args s=some (v,s')):Ext s s':=by
 unfold uI at h;split at h
 ·rename_i tm ps asg bd d _
  split at h
  ·rename_i tm1 _
   cases he:evC E S (some l) asg {tm:=tm1,df:=[]} s with
   |none=>rw[he]at h;simp[qR]at h
   | some p=>
    have h1:=jO hS (res:=p.1) (fr':=p.2.1) (s':=p.2.2) he;rw[he]at h;simp only[qR]at h;split at h
    ·split at h
     ·rename_i pend tm ps asg body d hg
      cases he2:evC E S (some l) bd p.2.1 (p.2.2.put l (.loop .busy pend tm ps asg body d))with
      |none=>rw[he2]at h;simp[vP]at h
      | some q=>
       have h2:=(h1.trans (qU (o':=.loop .busy pend tm ps asg body d) hg)).trans (jO hS (res:=q.1) (fr':=q.2.1) (s':=q.2.2) he2);rw[he2]at h;simp only[vP]at h;split at h
       ·rename_i hg2
        split at h
        ·cases h;exact h2.trans (qU hg2)
        ·cases h;exact h2.trans (qU hg2)
       ·cases h
     ·cases h
    ·cases h
  ·cases h
 ·cases h
structure Wide(F:Fence):Prop where
 fn:∀f,F.fn f
 depth:F.depth=none
 alive:F.alive=false
def Fresh(φ:Phi)(s _s':St):Prop:=∀id,s.next≤id→φ id=none
theorem Fresh.left{s1:St}(h:Fresh φ s s')(_h1:s1.next≤s'.next):Fresh φ s s1:=h
theorem Fresh.right{φ1:Phi}{s1:St}(h:Fresh φ s s')(h0:s.next≤s1.next)(hs:∀id,(id<s.next∨s1.next≤id)→φ1 id=φ id):Fresh φ1 s1 s':=
 fun id a=>by rw[hs id (.inr a)];exact h id oM
def Q2(P:Program)(w0:World)(φ:Phi)(s:St)(w:World)(v:AV)(s':St)(e:Ending)(w':World):Prop:=
 ∃φ' x,e=.returned x∧Step P w0 φ s w φ' s' w'∧VR φ' v x
def Res.ex:Res→Exit
 |.norm=>.normal
 |.exit id=>.exit id
 |.ret=>.ret
def DfRel(φ:Phi):List Nat→List Deferred→Prop
 |[],ds=>ds=[]
 |d::r,ds=>∃B ds',φ d=some B∧ds={target:=.collected B.b,args:=#[]}::ds'∧DfRel φ r ds'
theorem DfRel.mono(h:Sub φ φ'):∀{l:List Nat} {ds:List Deferred},DfRel φ l ds→DfRel φ' l ds
 |[],_,t=>t
 |d::r,_,t=>by obtain⟨B,ds',h1,h2,h3⟩:=t;exact⟨B,ds',h _ _ h1,h2,h3.mono h⟩
structure FrRel(φ:Phi)(nt:Nat)(fr:Fr)(a:Act):Prop where
 tm:TmRel φ fr.tm a.tmps
 size:a.tmps.size=nt
 df:DfRel φ fr.df a.defers
def WD(P:Program)(w0:World)(φ:Phi)(nt:Nat)(s:St)(w:World)(res:Res)(fr':Fr)(s':St)(e:Exit)(a':Act)(w':World):Prop:=
 ∃φ',e=res.ex∧Step P w0 φ s w φ' s' w'∧FrRel φ' nt fr' a'
def LoopIn(F:Fence)(n:Nat)(P:Program)(c:Code)(Q:Exit→Act→World→Prop)(a:Act)(w:World):Prop:=
 ∀(b:Frame) (k:List Item) (cs:List Frame),b.roundOf=F.round→F.fn b.fn→F.room (cs.length+1+n)→
  ∃e a' w',Q e a' w'∧ArrivesIn (Machine.fenced P F) P (lone (b.atR a (.code c::.inLoop c::k)) cs w) b k cs e a' w'
theorem Ze{F:Fence}{c:Code}{Q:Exit→Act→World→Prop}{a:Act}(h:c.wpIn F n P (Exit.then (LoopIn F n P c Q) Q) a w):LoopIn F n P c Q a w:=by
 intro b k cs hro hb hr;obtain⟨e,a₁,w₁,hq,harr⟩:=h b (.inLoop c::k) cs hro hb hr;cases e with
 |normal=>
  obtain⟨e₂,a₂,w₂,hq₂,harr₂⟩:=hq b k cs hro hb hr;exact⟨e₂,a₂,w₂,hq₂,.of_steps (StepsIn.trans harr (.one (fenced_calm hb hr rfl) stepR_inLoop)) harr₂⟩
 |exit id=>exact⟨_,a₁,w₁,hq,.pass (x:=.inLoop c) rfl (fun _ _=>.inl (by simp)) harr⟩
 |goto l=>exact⟨_,a₁,w₁,hq,.pass (x:=.inLoop c) rfl (fun _ _=>.inl (by simp)) harr⟩
 |ret=>exact⟨_,a₁,w₁,hq,.pass (x:=.inLoop c) rfl (fun _ _=>.inl (by simp)) harr⟩
 |panic ch=>exact⟨_,a₁,w₁,hq,.pass (x:=.inLoop c) rfl (fun _ _=>.inl (by simp)) harr⟩
 |outgrown=>exact⟨_,a₁,w₁,hq,.pass (x:=.inLoop c) rfl (fun _ _=>.inl (by simp)) harr⟩
theorem Zx{F:Fence}{c:Code}{Q:Exit→Act→World→Prop}{a:Act}(h:LoopIn F n P c Q a w):(Code.loop c).wpIn F n P Q a w:=by
 intro b k cs hro hb hr;obtain⟨e,a',w',hq,harr⟩:=h b k cs hro hb hr;exact⟨e,a',w',hq,.of_steps (.one (fenced_calm hb hr rfl) stepR_loop) harr⟩
theorem LoopIn.mono{F:Fence}{c:Code}{Q Q':Exit→Act→World→Prop}{a:Act}{w:World}(h:LoopIn F n P c Q a w)(hq:∀e a w,Q e a w→Q' e a w):LoopIn F n P c Q' a w:=
 fun b k cs hro hb hr=>let ⟨e,a',w',q,r⟩:=h b k cs hro hb hr;⟨e,a',w',hq _ _ _ q,r⟩
structure SelfOk(P:Program)(w0:World)(S:Self):Prop where
 mono:Mono S
 ext:ExtS S
 call:∀{f args s v s'},S.call f args s=some (v,s')→(∃fn,P.funcs[f]? =some fn∧fn.body.isSome=true∧(fn.name== "runtime.NumGoroutine")=false)∧
  ∀{φ w xs},Rel P w0 φ s.get w→Wf s→Fresh φ s s'→VRL φ args xs→∀F n,Wide F→CallsIn F n P f xs.toArray w (Q2 P w0 φ s w v s')
 round:∀{l args s v s'},S.round l args s=some (v,s')→∀{φ w xs B},Rel P w0 φ s.get w→Wf s→Fresh φ s s'→VRL φ args xs→φ l=some B→
  ∃L,w.heap[B.b]? =some (.loop L)∧xs.length=L.params.size∧∀F n,Wide F→RoundIn F n P B.b L.fn ((L.params.zip xs.toArray).foldl (fun t (p,v)=>t.setIfInBounds p v) L.tmps) L.assign L.body w (Q2 P w0 φ s w v s')
 loop:∀{rd b fr s res fr' s'},S.loop rd b fr s=some (res,fr',s')→∀{nt c φ w a},cC P nt c=some b→Rel P w0 φ s.get w→Wf s→Fresh φ s s'→FrRel φ nt fr a→
  ∀F n,Wide F→(rd=none→F.round=none)→LoopIn F n P c (WD P w0 φ nt s w res fr' s') a w
section
variable {P:Program}{w0:World}{φ:Phi}{s s':St}{w:World}{tm:Trie AV}{a:Act}{o:Oper}{v:AV}{E:Env}{S:Self}
theorem Yv{x:Option IOp}(h:Qb x=some op):x=some op∧Wh op=true:=by
 cases x with
 |none=>simp[Qb]at h
 |some i=>
  simp only[Qb]at h;cases hb:Wh i with
  |true=>rw[hb]at h;simp at h;subst h;exact⟨rfl,hb⟩
  |false=>rw[hb]at h;simp at h
theorem JC{x:Op}{op:IOp}(h:cOp P x=some op):
  (wT P x=some op∧Wh op=true)∨∃c,x=.call c∧
   ((∃f l,c.callee=.value (.func f)∧op=.call f l∧kI c.args.toList=some l)∨∃y y' l,c.callee=.value y∧op=.cv y' l∧qh y=some y'∧kI c.args.toList=some l):=by
 by_cases hx:∃c,x=.call c
 ·obtain⟨c,rfl⟩:=hx;simp only[cOp,zlf]at h;split at h
  ·rename_i f hcal
   split at h
   ·cases h
   ·rename_i fn _
    cases hb:fn.body.isSome with
    |true=>
     rw[hb]at h;simp only[cond_true]at h;obtain⟨y,hy,he⟩:=Option.map_eq_some_iff.1 h;exact .inr ⟨c,rfl,.inl ⟨f,y,hcal,he.symm,hy⟩⟩
    |false=>rw[hb]at h;simp only[cond_false]at h;exact .inl (Yv h)
  ·rename_i y _ hcal
   split at h
   ·rename_i y' l q1 q2
    simp only[Option.some.injEq]at h;exact .inr ⟨c,rfl,.inr ⟨y,y',l,hcal,h.symm,q1,q2⟩⟩
   ·cases h
  ·exact .inl (Yv h)
 ·have:cOp P x=Qb (wT P x):=by
   cases x<;>first|rfl|exact absurd ⟨_,rfl⟩ hx
  rw[this]at h;exact .inl (Yv h)
theorem KD(hc:cOp P o.op=some op):∀c,o.op≠.defer c:=fun c h=>by rw[h]at hc;simp[cOp,Qb,wT]at hc
theorem po{f:Nat}{fn:Func}{xs:Array Value}(h:P.funcs[f]? =some fn)(hb:fn.body.isSome=true)(hn:(fn.name== "runtime.NumGoroutine")=false):(callFunc f xs).run P w=.ok (.enter f xs) w:=by
 have hb':fn.body.isNone=false:=by cases hh:fn.body<;>simp[hh]at hb⊢
 simp only[callFunc,Sem.run_bind,run_program,Result.andThen_ok,h,hn,hb',Bool.false_eq_true,if_false,Sem.run_pure]
theorem LU(l:Array Operand)(f:Operand→Value):(l.toList.map f).toArray=l.map f:=by apply yu;simp
theorem Yn(hS:SelfOk P w0 S)(hG:xS E.globs w0)(hc:cOp P o.op=some op)(h:wP E S op tm s=some (v,s'))
  (r:Rel P w0 φ s.get w) (hwf:Wf s) (hf:Fresh φ s s') (ht:TmOn φ (Opd.tmps op.opds) tm a) {F:Fence} (hF:Wide F) {next:Act→World→Prop} {Q:Exit→Act→World→Prop}
  (hn:∀φ' x w',Step P w0 φ s w φ' s' w'→VR φ' v x→next (a.put o.dst x) w'):o.wpIn F n P a w next Q:=by
 have hvac:F.depth.isSome=true→1≤n:=fun h=>by rw[hF.depth]at h;cases h
 refine⟨fun f _=>hF.fn f,?_⟩;rw[Oper.semAt_eq _ _ _ (KD hc)];have hcall:∀{f args xs},S.call f args s=some (v,s')→VRL φ args xs→(∀fn,P.funcs[f]? =some fn→fn.body.isSome=true→(fn.name== "runtime.NumGoroutine")=false→(execOp a.eval o).run P w=.ok (.enter f xs.toArray) w)→o.uponIn F n P a next Q ((execOp a.eval o).run P w):=fun{f args xs} h1 h2 h3=>by
  obtain⟨⟨fn,g1,g2,g3⟩,g4⟩:=hS.call h1;rw[h3 fn g1 g2 g3,Oper.uponIn_enter];refine⟨hvac,CallsIn.mono (g4 r hwf hf h2 F (n-1) hF) ?_⟩
  rintro e w' ⟨φ',x,rfl,k2,k3⟩
  exact hn φ' x w' k2 k3
 rcases JC hc with ⟨hv,hnc⟩|⟨c,hop,⟨f,l,hcal,rfl,hl⟩|⟨y,y',l,hcal,rfl,hy,hl⟩⟩
 ·have hv2:opv E op tm s=some (v,s'):=by
   rw[kS]at h;split at h
   ·simp[Wh]at hnc
   ·simp[Wh]at hnc
   ·exact h
  obtain⟨φ',x,w',h1,h2,h3⟩:=zul hG hv hv2 r hwf (fun hlt=>hf _ (zo _)) ht;rcases h1 with h1|⟨h1,rfl⟩
  ·rw[h1,Oper.uponIn_value];exact hn φ' x w' h2 h3
  ·rw[h1,Oper.uponIn_skip];exact hn φ' _ w' h2 h3
 ·simp only[kS,Lp]at h;split at h
  ·rename_i vs hvs
   refine hcall h (vI hl hvs (lH ht (by simp[IOp.opds]))) fun fn g1 g2 g3=>?_
   rw[LU];unfold execOp;rw[hop];simp[resolve,hcal,Act.eval,Deferred.ofValue,invoke,po g1 g2 g3]
  ·cases h
 ·simp only[kS,GG]at h;split at h
  ·rename_i vs hvs
   have hargs:=vI (φ:=φ) (a:=a) hl hvs (lH ht (by simp[IOp.opds];intro x hx;exact .inr hx))
   split at h
   ·rename_i f u k hfn
    have hfv:=xJ (φ:=φ) (a:=a) hy hfn (wu ht (by simp[IOp.opds]))
    simp only[VR]at hfv;obtain⟨xs,ys,e1,e2,e3⟩:=hfv;refine hcall h (VRL.append (VRL.append e2 hargs) e3) fun fn g1 g2 g3=>?_;have:(xs++c.args.toList.map a.eval++ys).toArray=xs.toArray++c.args.map a.eval++ys.toArray:=by apply yu;simp
    rw[this];unfold execOp;rw[hop];simp only[resolve,hcal,e1,Deferred.ofValue,invoke,Sem.run_bind,Sem.run_pure,Result.andThen_ok];exact po g1 g2 g3
   ·rename_i lid hfn
    have hfv:=xJ (φ:=φ) (a:=a) hy hfn (wu ht (by simp[IOp.opds]))
    simp only[VR]at hfv;obtain⟨B,hB,e1⟩:=hfv;obtain⟨L,g1,g2,g3⟩:=hS.round h r hwf hf hargs hB;have hrun:(execOp a.eval o).run P w=.ok (.round B.b L.fn ((L.params.zip (c.args.map a.eval)).foldl (fun t (p,v)=>t.setIfInBounds p v) L.tmps) L.assign L.body) w:=by
     unfold execOp;rw[hop];simp only[resolve,hcal,e1,Deferred.ofValue,invoke,Sem.run_bind,Sem.run_pure,Result.andThen_ok,Array.empty_append];exact run_yield g1 (by rw[←g2];simp)
    rw[hrun,Oper.uponIn_round];refine⟨hvac,?_⟩;have:=g3 F (n-1) hF;rw[LU]at this;refine RoundIn.mono this ?_
    rintro e w' ⟨φ',x,rfl,k2,k3⟩
    exact hn φ' x w' k2 k3
   ·cases h
  ·cases h
end
theorem p8(t:Array Value)(d i:Nat)(x:Value)(hd:d<t.size):(t.setIfInBounds d x).getD i undef=if i=d then x else t.getD i undef:=by
 simp only[yH,Array.getElem?_setIfInBounds];by_cases h:d=i
 ·subst h;simp[hd]
 ·rw[if_neg h,if_neg (Ne.symm h)]
theorem TmRel.set{t:Array Value}(h:TmRel φ tm t){d:Nat}(hd:d<t.size){x:Value}(hv:VR φ v x):TmRel φ (tm.set d v) (t.setIfInBounds d x):=by
 intro i u hu;rw[Trie.get_set]at hu;rw[p8 _ _ _ _ hd];by_cases e:i=d
 ·rw[if_pos e]at hu⊢;cases hu;exact hv
 ·rw[if_neg e]at hu⊢;exact h i u hu
theorem zm5{b:Bool}(h:VR φ v (.bool b)):v=.bool b:=by
 cases v<;>simp only[VR]at h<;>first
  |(cases h;rfl)
  |(obtain⟨_,⟨_,_,h⟩|⟨_,_,_,_,h,_⟩⟩:=h<;>(cases h;done))
  |(obtain⟨_,_,_,_,_,_,_,h,_⟩:=h;cases h;done)
  |(obtain⟨_,_,_,_,h,_⟩:=h;cases h;done)
  |(cases h;done)
  |(obtain⟨_,h,_⟩:=h;cases h;done)
  |(obtain⟨_,_,h⟩:=h;cases h;done)
  |(obtain⟨_,_,_,h,_⟩:=h;cases h;done)
  |(obtain⟨_,_,h,_⟩:=h;cases h;done)
section
variable {P:Program}{w0:World}{φ:Phi}{s s':St}{w:World}{tm tm':Trie AV}{a:Act}{o:Oper}{v:AV}{E:Env}{S:Self}
def Uo:Option (Nat×Bool)→List Nat
 |some (d,_)=>[d]
 |none=>[]
theorem Pc(o:SOper):o.names=Opd.tmps o.op.opds++Uo o.guard:=by
 unfold SOper.names Uo;cases o.guard<;>rfl
theorem ja{ops:Array Oper}{g:Option (Nat×Bool)}{b:Bool}(hg:Vj ops o.guard=some g)(h:kq g tm=some b)(ht:TmOn φ (Uo g) tm a):Region.wanted o (yielded ops a.tmps)=b:=by
 unfold Region.wanted;cases hog:o.guard with
 |none=>rw[hog]at hg;simp[Vj]at hg;subst hg;simp[kq]at h;simp[h]
 | some p=>
  obtain⟨j,wt⟩:=p;rw[hog]at hg;simp only[Vj]at hg;split at hg
  ·rename_i o' ho'
   split at hg
   ·rename_i d hd
    simp only[Option.some.injEq]at hg;subst hg;simp only[kq]at h;have hy:yielded ops a.tmps j=(match a.tmps[d]? with|some (.bool b)=>some b|_=>none):=by unfold yielded;rw[ho'];simp only[Option.bind_some,hd];rfl
    simp only[hy];have hgd:a.tmps.getD d undef=(a.tmps[d]?).getD undef:=by simp[yH]
    split at h
    ·rename_i b' hb'
     simp only[Option.some.injEq]at h;have:=ht d (by simp[Uo]) _ hb'
     simp only[VR]at this;rw[hgd]at this;cases ht2:a.tmps[d]? with
     |none=>rw[ht2]at this;simp[undef]at this
     |some x=>rw[ht2]at this;simp at this;subst this;simp only;rw[←h];cases b'<;>cases wt<;>rfl
    ·rename_i u hnb hu
     simp only[Option.some.injEq]at h;subst h;have:=ht d (by simp[Uo]) _ hu
     rw[hgd]at this;cases ht2:a.tmps[d]? with
     |none=>rfl
     | some x=>
      rw[ht2]at this;simp only[Option.getD_some]at this
      cases x<;>first
       |rfl
       |(exact absurd (zm5 this) (fun e=>hnb _ e))
    ·cases h
   ·cases hg
  ·cases hg
theorem Vm{nt:Nat}{ops:Array Oper}{so:SOper}(h:cS P nt ops o=some so):Vj ops o.guard=some so.guard∧so.op=zzw P o.op∧so.dst=o.dst∧∀d,o.dst=some d→d<nt:=by
 unfold cS at h;split at h
 ·rename_i op g hop hg
  split at h
  ·rename_i d hd
   cases hb:ze d nt with
   |false=>rw[hb]at h;simp at h
   |true=>rw[hb]at h;simp only[cond_true,Option.some.injEq]at h;subst h;exact⟨hg,rfl,hd.symm,fun d' h'=>by rw[hd]at h';cases h';exact wi.1 hb⟩
  ·rename_i hd
   simp only[Option.some.injEq]at h;subst h;exact⟨hg,rfl,hd.symm,fun d' h'=>by rw[hd]at h';cases h'⟩
 ·cases h
theorem XL{x:Op}{p:AV×St}(h:wP E S (zzw P x) tm s=some p):∃op,cOp P x=some op∧zzw P x=op:=by
 unfold zzw at h⊢;cases hc:cOp P x with
 |none=>rw[hc]at h;simp[wP,opv]at h
 |some op=>exact⟨op,rfl,by simp⟩
def Q1(φ':Phi)(nt:Nat)(tm':Trie AV)(a a':Act):Prop:=TmRel φ' tm' a'.tmps∧a'.tmps.size=nt∧a'.defers=a.defers
theorem zyU{nt:Nat}{dst:Option Nat}{x:Value}(ht:TmRel φ' tm a.tmps)(hsz:a.tmps.size=nt)(hd:∀d,dst=some d→d<nt)(hv:VR φ' v x):Q1 φ' nt (qC tm dst v) a (a.put dst x):=by
 cases dst with
 |none=>exact⟨ht,hsz,rfl⟩
 |some d=>exact⟨ht.set (by rw[hsz];exact hd d rfl) hv,by simp[Act.put,hsz],rfl⟩
theorem PS(hS:SelfOk P w0 S)(hG:xS E.globs w0){nt:Nat}{ops:Array Oper}{so:SOper}(hc:cS P nt ops o=some so)(h:gg E S so tm s=some (tm',s'))
  (r:Rel P w0 φ s.get w) (hwf:Wf s) (hf:Fresh φ s s') (ht:TmRel φ tm a.tmps) (hsz:a.tmps.size=nt) {F:Fence} (hF:Wide F) {next:Act→World→Prop} {Q:Exit→Act→World→Prop}
  (hn:∀φ' a' w',Step P w0 φ s w φ' s' w'→Q1 φ' nt tm' a a'→next a' w'):
  if Region.wanted o (yielded ops a.tmps)then o.wpIn F n P a w next Q else (∀f,o.about P w a.eval=some f→F.fn f)∧next (a.put o.dst undef) w:=by
 obtain⟨hg,hop,hdst,hlt⟩:=Vm hc;unfold gg at h;split at h
 ·rename_i hw
  rw[ja hg hw (TmOn.of ht),if_pos rfl];cases he:wP E S so.op tm s with
  |none=>rw[he]at h;simp[stS]at h
  |some p=>
   rw[he]at h;simp only[stS,Option.some.injEq,Prod.mk.injEq]at h;obtain⟨h1,h2⟩:=h;rw[hop]at he;obtain⟨op,hc1,hc2⟩:=XL he;rw[hc2]at he;subst h2;refine Yn hS hG hc1 (v:=p.1) (s':=p.2) he r hwf hf (TmOn.of ht) hF fun φ' x w' k1 k2=>hn φ' _ w' k1 ?_;rw[←h1,hdst];exact zyU (ht.mono (k1.sub hf)) hsz hlt k2
 ·rename_i hw
  rw[ja hg hw (TmOn.of ht)];simp only[Bool.false_eq_true,if_false];simp only[Option.some.injEq,Prod.mk.injEq]at h;obtain⟨h1,h2⟩:=h;subst h2;refine⟨fun f _=>hF.fn f,hn φ _ w (Step.refl r) ?_⟩;rw[←h1,hdst];exact zyU ht hsz hlt (ZV φ)
 ·cases h
theorem XY(hS:SelfOk P w0 S)(hG:xS E.globs w0){nt:Nat}{ops:Array Oper}{F:Fence}(hF:Wide F){n:Nat}{Q:Exit→Act→World→Prop}:
  ∀(rest:List Oper) (k:Nat) {l:List SOper} {tm tm':Trie AV} {s s':St} {φ:Phi} {w:World} {a:Act},ops.toList.drop k=rest→cSs P nt ops rest=some l→evS E S l tm s=some (tm',s')→Rel P w0 φ s.get w→Wf s→Fresh φ s s'→TmRel φ tm a.tmps→a.tmps.size=nt→
  (∀φ' a' w',Step P w0 φ s w φ' s' w'→Q1 φ' nt tm' a a'→Q .normal a' w')→wpOpsIn F n P ops Q (List.range' k rest.length) a w
 |[],k,l,tm,tm',s,s',φ,w,a,hd,hc,h,r,hwf,hf,ht,hsz,hQ=>by
  simp[cSs]at hc;subst hc;simp only[evS,Option.some.injEq,Prod.mk.injEq]at h;obtain⟨rfl,rfl⟩:=h;simp only[List.length_nil,List.range'_zero,wpOpsIn];exact hQ φ a w (Step.refl r) ⟨ht,hsz,rfl⟩
 | o::rest,k,l,tm,tm',s,s',φ,w,a,hd,hc,h,r,hwf,hf,ht,hsz,hQ=>by
  simp only[cSs]at hc;split at hc
  ·rename_i so l' hso hl'
   simp only[Option.some.injEq]at hc;subst hc;simp only[evS]at h;split at h
   ·rename_i p hp
    have hk:ops[k]? =some o:=by rw[←Array.getElem?_toList];have:=congrArg (fun l=>l[0]?) hd;simpa using this
    have hd':ops.toList.drop (k+1)=rest:=by rw[←List.drop_drop,hd];rfl
    simp only[List.length_cons,List.range'_succ,wpOpsIn,hk];have hn1:=US hS.mono (tm':=p.1) (s':=p.2) hp;have hn2:=V5 hS.mono h;refine PS hS hG hso (tm':=p.1) (s':=p.2) hp r hwf (hf.left hn2) ht hsz hF fun φ1 a1 w1 k1 k2=>?_;refine XY hS hG hF rest (k+1) hd' hl' h k1.rel (k1.ext.wf hwf) (hf.right hn1 k1.same) k2.1 k2.2.1 fun φ2 a2 w2 k3 k4=>?_;exact hQ φ2 a2 w2 (Step.trans hwf k1 k3) ⟨k4.1,k4.2.1,k4.2.2.trans k2.2.2⟩
   ·cases h
  ·cases hc
end
open Go.RowKit (Below)
structure DrawOk(P:Program)(w0:World)(E:Env)(S:Self):Prop where
 ord:∀{id nt:Nat} {ops:Array Oper} {ds:List DOper} {tm tm':Trie AV} {s s':St} {φ:Phi} {w:World} {a:Act} {F:Fence} {n:Nat} {Q:Exit→Act→World→Prop},WJ P nt ops=some ds→s.only=none→evD E S ds 0 [] tm s=some (tm',s')→Rel P w0 φ s.get w→Wf s→Fresh φ s s'→TmRel φ tm a.tmps→a.tmps.size=nt→Wide F→
  (∀φ' a' w',Step P w0 φ s w φ' s' w'→Q1 φ' nt tm' a a'→Q .normal a' w')→(Code.region id ops true).wpIn F n P Q a w
 two:∀{id nt:Nat} {ops:Array Oper} {a0 c0:DOper} {r0:List DOper} {tm tm':Trie AV} {s s':St} {v:AV} {φ:Phi} {w:World} {a:Act} {F:Fence} {n:Nat} {Q:Exit→Act→World→Prop},WJ P nt ops=some (a0::c0::r0)→zuI a0 c0 r0=true→wP E S c0.o.op tm' s=some (v,s')→QA tm' c0.o.dst (some (v,s'))=true→ju E tm' s (a0::r0)=true→ju E tm' s' (a0::r0)=true→(∀k,k∉pU (a0.o::c0.o::uW r0)→tm'.get k=tm.get k)→Rel P w0 φ s.get w→Wf s→Fresh φ s s'→TmRel φ tm a.tmps→a.tmps.size=nt→Wide F→
  (∀φ' a' w',Step P w0 φ s w φ' s' w'→Q1 φ' nt tm' a a'→Q .normal a' w')→(Code.region id ops true).wpIn F n P Q a w
theorem XA{d:Option Nat}{i:Nat}(h:∀k,d=some k→i≠k):(qC tm d v).get i=tm.get i:=by
 cases d with
 |none=>rfl
 |some k=>exact Trie.get_set_ne _ _ (h k rfl)
theorem PR{o:SOper}{tm':Trie AV}(h:gg E S o tm s=some (tm',s')){i:Nat}(hi:∀k,o.dst=some k→i≠k):tm'.get i=tm.get i:=by
 unfold gg at h;split at h
 ·cases he:wP E S o.op tm s with
  |none=>rw[he]at h;simp[stS]at h
  |some p=>rw[he]at h;simp only[stS,Option.some.injEq,Prod.mk.injEq]at h;rw[←h.1];exact XA hi
 ·simp only[Option.some.injEq,Prod.mk.injEq]at h;rw[←h.1];exact XA hi
 ·cases h
theorem J7{E:Env}{S:Self}:∀{l:List SOper} {tm tm':Trie AV} {s s':St},evS E S l tm s=some (tm',s')→∀i,i∉pU l→tm'.get i=tm.get i
 |[],tm,tm',s,s',h,i,_=>by simp only[evS,Option.some.injEq,Prod.mk.injEq]at h;rw[h.1]
 | o ::r,tm,tm',s,s',h,i,hi=>by
  simp only[evS]at h;split at h
  ·rename_i p hp
   have h1:i∉pU r∧∀k,o.dst=some k→i≠k:=by
    simp only[pU]at hi;split at hi
    ·rename_i k hk
     refine⟨fun hh=>hi (List.mem_cons_of_mem _ hh),fun k' hk'=>?_⟩;rw[hk]at hk';cases hk';intro e;exact hi (by rw[e];exact List.mem_cons_self)
    ·rename_i hk
     exact⟨hi,fun k' hk'=>by rw[hk]at hk';cases hk'⟩
   rw[J7 h i h1.1];exact PR (s':=p.2) (tm':=p.1) hp h1.2
  ·cases h
theorem Rel.below{G:Nat→Option AObj}(r:Rel P w0 φ G w)(hb:Below w.heap.size w w'):Rel P w0 φ G w':=by
 have hs:=r.base.size;refine⟨⟨hb.os.trans r.base.os,hb.tape.trans r.base.tape,hb.output.trans r.base.output,zr hs hb.size,fun k hk=>(hb.block k oM).trans (r.base.block k hk)⟩,fun id o h=>?_,fun id B h=>Nat.lt_of_lt_of_le (r.rng id B h) hb.size,r.old,r.inj,fun b o v hz=>?_,r.sep⟩
 ·obtain⟨B,hB,t⟩:=r.obj id o h;exact⟨B,hB,t.keep (Sub.refl _) (hb.block _ (r.rng id B hB))⟩
 ·obtain⟨c,e,fr,h1,h2⟩:=r.frz b o v hz;exact⟨c,e,fr,(hb.block b (r.zlt hz)).trans h1,h2⟩
theorem Step.below(r:Rel P w0 φ s.get w)(hb:Below w.heap.size w w'):Step P w0 φ s w φ s w':=
 ⟨Ext.refl s,r.below hb,fun _ _=>rfl,hb.size,fun b hlt _=>hb.block b hlt,fun id _ h1 h2=>absurd h2 oM,fun _ _ _ h=>h,fun _ _ _ h=>.inl h⟩
section
variable {P:Program}{w0:World}{E:Env}{S:Self}
theorem zpe{F:Fence}{Q:Exit→Act→World→Prop}{a:Act}(r:Res)(h:Q r.ex a w):r.code.wpIn F n P Q a w:=by
 cases r with
 |norm=>exact wpIn_skip h
 |exit id=>exact wpIn_exit h
 |ret=>exact wpIn_ret h
theorem pS{φ1:Phi}{nt:Nat}{s1 s2:St}{w1:World}{res:Res}{fr':Fr}{e:Exit}{a':Act}(hwf:Wf s)(h1:Step P w0 φ s w φ1 s1 w1)(h2:WD P w0 φ1 nt s1 w1 res fr' s2 e a' w'):WD P w0 φ nt s w res fr' s2 e a' w':=by
 obtain⟨φ',e1,k1,k2⟩:=h2;exact⟨φ',e1,Step.trans hwf h1 k1,k2⟩
theorem YI{nt:Nat}{s1:St}{res1 res:Res}{fr1 fr':Fr}{k:Fr→St→Option (Res×Fr×St)}{K:Act→World→Prop}(_hwf:Wf s)(hf:Fresh φ s s')(hs1:s.next≤s1.next)(h:uC k (some (res1,fr1,s1))=some (res,fr',s'))
  (hK:∀φ1 a1 w1,k fr1 s1=some (res,fr',s')→Step P w0 φ s w φ1 s1 w1→FrRel φ1 nt fr1 a1→Fresh φ1 s1 s'→K a1 w1):
  ∀e a1 w1,WD P w0 φ nt s w res1 fr1 s1 e a1 w1→Exit.then K (WD P w0 φ nt s w res fr' s') e a1 w1:=by
 rintro e a1 w1 ⟨φ1,rfl,k1,k2⟩
 simp only[uC]at h;cases res1 with
 |norm=>
  simp only at h;exact hK φ1 a1 w1 h k1 k2 (hf.right hs1 k1.same)
 |exit id=>simp only[Option.some.injEq,Prod.mk.injEq]at h;obtain⟨rfl,rfl,rfl⟩:=h;exact⟨φ1,rfl,k1,k2⟩
 |ret=>simp only[Option.some.injEq,Prod.mk.injEq]at h;obtain⟨rfl,rfl,rfl⟩:=h;exact⟨φ1,rfl,k1,k2⟩
theorem zlF{ps:Array Nat}{nt:Nat}(h:ps.toList.all (Nat.blt · nt)=true):∀q∈ps.toList,q<nt:=by
 intro q hq;rw[List.all_eq_true]at h;exact wi.1 (h q hq)
theorem zpf(hS:SelfOk P w0 S){F:Fence}{nt:Nat}(hF:Wide F){g:Operand}{g':Opd}{ps:Array Tmp}{asg body:Code}{ia ib:ICode}{rd:Option Nat}{fr fr':Fr}{res:Res}{a:Act}
  (hg:qh g=some g') (ha:cC P nt asg=some ia) (hb:cC P nt body=some ib) (hps:ps.toList.all (ze · nt)=true) (h:rfR S rd (g'.ev fr.tm) ps.toList ia ib fr s=some (res,fr',s'))
  (r:Rel P w0 φ s.get w) (hwf:Wf s) (hf:Fresh φ s s') (hfr:FrRel φ nt fr a) (hrd:rd=none→F.round=none):(Code.rangeFunc g ps asg body).wpIn F n P (WD P w0 φ nt s w res fr' s') a w:=by
 unfold rfR at h;split at h
 ·have hro:=hrd rfl;split at h
  ·rename_i f u k hfn
   cases he:S.call f (u++ .yld (Nat.succ s.next)::k) ((s.alloc .dfd).alloc (.loop .ready none fr.tm ps.toList ia ib s.next))with
   |none=>rw[he]at h;simp[gQ]at h
   | some p=>
    have hnx:=hS.mono.call _ _ _ p.1 p.2 he;rw[vH,vH]at hnx;have hs':p.2.next=s'.next:=by
     rw[he]at h;simp only[gQ]at h;split at h
     ·split at h
      ·cases h
      ·cases h;rfl
     ·cases h
    have hfv:=xJ (φ:=φ) (a:=a) hg hfn (TmOn.of hfr.tm);simp only[VR]at hfv;obtain⟨xs,ys,e1,e2,e3⟩:=hfv;have hf1:φ s.next=none:=hf _ (zo _)
    have hf2:φ (s.next+1)=none:=hf _ oM
    refine wpIn_rangeFunc fun fn _=>?_;rw[hro];obtain⟨L,hL⟩:∃L:Loop,L={state:=.ready,pending:=none,fn:=fn,tmps:=a.tmps,params:=ps,assign:=asg,body:=body,defers:=w.heap.size}:=⟨_,rfl⟩;obtain⟨W1,hW1⟩:∃W1,W1=w.alloc (.deferred (some [])):=⟨_,rfl⟩;obtain⟨W2,hW2⟩:∃W2,W2=W1.alloc (.loop L):=⟨_,rfl⟩;have hsz1:W1.heap.size=w.heap.size+1:=by rw[hW1];simp
    have st1:Step P w0 φ s w (φ.set s.next ⟨w.heap.size,0,0⟩) (s.alloc .dfd) W1:=Step.alloc r hwf hf1 (by rw[hW1];rfl) (by rw[hW1];rfl) (by rw[hW1];rfl) (by rw[hW1];rfl) (by simp only[ObjRel];rw[hW1];exact World.alloc_heap_new _ _)
    have hf2':(φ.set s.next ⟨w.heap.size,0,0⟩) (s.alloc .dfd).next=none:=by
     exact(if_neg (by rw[vH];omega)).trans hf2
    have hsub1:=Phi.set_sub (B:=⟨w.heap.size,0,0⟩) hf1;have hsub2:=Phi.set_sub (B:=⟨W1.heap.size,0,0⟩) hf2';have st2:Step P w0 (φ.set s.next ⟨w.heap.size,0,0⟩) (s.alloc .dfd) W1 ((φ.set s.next ⟨w.heap.size,0,0⟩).set (s.alloc .dfd).next ⟨W1.heap.size,0,0⟩) ((s.alloc .dfd).alloc (.loop .ready none fr.tm ps.toList ia ib s.next)) W2:=by
     refine Step.alloc st1.rel (st1.ext.wf hwf) hf2' (by rw[hW2];rfl) (by rw[hW2];rfl) (by rw[hW2];rfl) (by rw[hW2];rfl) ⟨L,by rw[hW2];exact World.alloc_heap_new _ _,?_⟩
     rw[hL];refine⟨rfl,rfl,by simp,by simp only;rw[hfr.size];exact ha,by simp only;rw[hfr.size];exact hb,hfr.tm.mono (hsub1.trans hsub2),⟨⟨w.heap.size,0,0⟩,hsub2 _ _ (by simp[Phi.set]),rfl⟩,?_⟩
     intro q hq;simp only;rw[hfr.size];exact zlF hps q hq
    have st:=Step.trans hwf st1 st2;obtain⟨⟨fd,g1,g2,g3⟩,g4⟩:=hS.call he;obtain⟨φ2,hφ2⟩:∃φ2,φ2=(φ.set s.next ⟨w.heap.size,0,0⟩).set (s.alloc .dfd).next ⟨W1.heap.size,0,0⟩:=⟨_,rfl⟩
    rw[←hφ2]at st;have hyl:φ2 (Nat.succ s.next)=some ⟨W1.heap.size,0,0⟩:=by rw[hφ2];simp[Phi.set,vH]
    have hdl:φ2 s.next=some ⟨w.heap.size,0,0⟩:=by rw[hφ2];simp[Phi.set,vH]
    have hfr2:Fresh φ2 ((s.alloc .dfd).alloc (.loop .ready none fr.tm ps.toList ia ib s.next)) p.2:=hf.right (s1:=(s.alloc .dfd).alloc (.loop .ready none fr.tm ps.toList ia ib s.next)) (by rw[vH,vH];omega) st.same
    have hsub:Sub φ φ2:=st.sub hf;have hargs:VRL φ2 (u++ .yld (Nat.succ s.next)::k) (xs++(.func (.yield W1.heap.size) #[] #[])::ys):=VRL.append (VRL.mono hsub _ _ e2) (VRL.cons (by simp only[VR];exact⟨_,hyl,rfl⟩) (VRL.mono hsub _ _ e3))
    refine⟨W1.heap.size,[{target:=.collected w.heap.size,args:=#[]}],W2,{target:=.fn (.func f) ys.toArray,args:=xs.toArray++#[.func (.yield W1.heap.size) #[] #[]]},W2,f,(xs++(.func (.yield W1.heap.size) #[] #[])::ys).toArray,W2,?_,?_,fun f' _=>hF.fn f',?_,fun h=>(by rw[hF.depth]at h;cases h),?_⟩
    ·rw[run_enterLoop_outer,hW2,hW1,hL];simp
    ·simp only[resolve,e1,Deferred.ofValue,Sem.run_pure,List.map_toArray,List.map_cons,List.map_nil];rfl
    ·simp only[invoke];have:xs.toArray++#[.func (.yield W1.heap.size) #[] #[]]++ys.toArray=(xs++(.func (.yield W1.heap.size) #[] #[])::ys).toArray:=by apply yu;simp
     rw[this];exact po g1 g2 g3
    ·refine CallsIn.mono (g4 st.rel (st.ext.wf hwf) hfr2 hargs F (n-1) hF) ?_
     rintro e w3 ⟨φ3,x,rfl,k1,k2⟩
     rw[he]at h;simp only[gQ]at h;split at h
     ·rename_i lst pend ltm lps lasg lbody ldd hgl
      have hsub3:=k1.sub hfr2;obtain⟨B3,hB3,L3,hh3,hl3⟩:=k1.rel.obj _ _ hgl;rw[hsub3 _ _ hyl]at hB3;cases hB3;simp only at hh3;have hnb:L3.state≠.busy:=by
       rw[hl3.state];intro hbz;cases lst<;>simp[LSt.conc]at hbz
       simp at h
      have hend:=run_endLoop (P:=P) hh3 hnb;have hres:(res,fr',s')=(Pq pend,{fr with df:=s.next::fr.df},p.2.put (Nat.succ s.next) (.loop .exhausted pend ltm lps lasg lbody ldd)):=by
       cases lst<;>simp only[Option.some.injEq]at h<;>first|exact h.symm|(cases h;done)
      simp only[Prod.mk.injEq]at hres;obtain⟨hr1,hr2,hr3⟩:=hres;subst hr1;subst hr2;subst hr3;have st3:Step P w0 φ3 p.2 w3 φ3 (p.2.put (Nat.succ s.next) (.loop .exhausted pend ltm lps lasg lbody ldd)) (w3.putObj W1.heap.size (.loop {L3 with state:=.exhausted})):=
       Step.setObj k1.rel hgl (hsub3 _ _ hyl) hh3 (x':=.loop {L3 with state:=.exhausted}) ⟨_,kZ hh3,⟨rfl,hl3.pend,hl3.params,hl3.asg,hl3.body,hl3.tm,hl3.df,hl3.ps⟩⟩
      have stF:=Step.trans hwf (Step.trans hwf st k1) st3;have hsubF:Sub φ φ3:=hsub.trans hsub3;have hfrF:FrRel φ3 nt {fr with df:=s.next::fr.df} {a with defers:=[{target:=.collected w.heap.size,args:=#[]}]++a.defers}:=
       ⟨hfr.tm.mono hsubF,hfr.size,⟨⟨w.heap.size,0,0⟩,a.defers,hsub3 _ _ hdl,rfl,hfr.df.mono hsubF⟩⟩
      refine⟨L3.pending,_,hend,?_⟩;have hpend:=hl3.pend;generalize L3.pending=q at hpend stF⊢;subst hpend;cases pend with
      |none=>exact⟨φ3,rfl,stF,hfrF⟩
      |some r0=>exact zpe r0 ⟨φ3,rfl,stF,hfrF⟩
     ·cases h
  ·cases h
 ·cases h
theorem vx(hS:SelfOk P w0 S)(hG:xS E.globs w0)(hD:DrawOk P w0 E S){F:Fence}{n nt:Nat}(hF:Wide F){rd:Option Nat}(hrd:rd=none→F.round=none):
  ∀(c:Code) {ic:ICode} {fr fr':Fr} {s s':St} {res:Res} {φ:Phi} {w:World} {a:Act},cC P nt c=some ic→evC E S rd ic fr s=some (res,fr',s')→Rel P w0 φ s.get w→Wf s→Fresh φ s s'→FrRel φ nt fr a→
   c.wpIn F n P (WD P w0 φ nt s w res fr' s') a w
 |.skip,ic,fr,fr',s,s',res,φ,w,a,hc,h,r,hwf,hf,hfr=>by
  simp only[cC,Option.some.injEq]at hc;subst hc;simp only[evC,Option.some.injEq,Prod.mk.injEq]at h;obtain⟨rfl,rfl,rfl⟩:=h;exact wpIn_skip ⟨φ,rfl,Step.refl r,hfr⟩
 |.exit id,ic,fr,fr',s,s',res,φ,w,a,hc,h,r,hwf,hf,hfr=>by
  simp only[cC,Option.some.injEq]at hc;subst hc;simp only[evC,Option.some.injEq,Prod.mk.injEq]at h;obtain⟨rfl,rfl,rfl⟩:=h;exact wpIn_exit ⟨φ,rfl,Step.refl r,hfr⟩
 |.ret,ic,fr,fr',s,s',res,φ,w,a,hc,h,r,hwf,hf,hfr=>by
  simp only[cC,Option.some.injEq]at hc;subst hc;simp only[evC,Option.some.injEq,Prod.mk.injEq]at h;obtain⟨rfl,rfl,rfl⟩:=h;exact wpIn_ret ⟨φ,rfl,Step.refl r,hfr⟩
 | .region id ops false,ic,fr,fr',s,s',res,φ,w,a,hc,h,r,hwf,hf,hfr=>by
  simp only[cC]at hc;obtain⟨l,hl,rfl⟩:=Option.map_eq_some_iff.1 hc;simp only[evC]at h;cases he:evS E S l fr.tm s with
  |none=>rw[he]at h;simp[uo]at h
  | some p=>
   rw[he]at h;simp only[uo,Option.some.injEq,Prod.mk.injEq]at h;obtain⟨rfl,rfl,rfl⟩:=h;refine wpIn_region ?_;rw[List.range_eq_range',←Array.length_toList];exact XY hS hG hF ops.toList 0 (by simp) hl (tm':=p.1) (s':=p.2) he r hwf hf hfr.tm hfr.size fun φ' a' w' k1 k2=>
    ⟨φ',rfl,k1,⟨k2.1,k2.2.1,by rw[k2.2.2];exact hfr.df.mono (k1.sub hf)⟩⟩
 | .region id ops true,ic,fr,fr',s,s',res,φ,w,a,hc,h,r,hwf,hf,hfr=>by
  simp only[cC]at hc;obtain⟨l,hl,hreg⟩:=Option.map_eq_some_iff.1 hc;rcases zwn hreg with rfl|⟨a0,c0,r0,rfl,htw,rfl⟩
  case inr=>
   simp only[evC]at h;obtain⟨tm',v,t,he,rfl,hx,rfl,h1,h2,h3⟩:=G8 h;exact hD.two hl htw he h1 h2 h3 (fun k hk=>J7 (tm':=tm') (s':=t) hx k hk) r hwf hf hfr.tm hfr.size hF fun φ' a' w' k1 k2=>
    ⟨φ',rfl,k1,⟨k2.1,k2.2.1,by rw[k2.2.2];exact hfr.df.mono (k1.sub hf)⟩⟩
  simp only[evC,Qg]at h;split at h
  case h_2=>cases h
  rename_i hon
  cases he:evD E S l 0 [] fr.tm s with
  |none=>rw[he]at h;simp[uo]at h
  | some p=>
   rw[he]at h;simp only[uo,Option.some.injEq,Prod.mk.injEq]at h;obtain⟨rfl,rfl,rfl⟩:=h;exact hD.ord hl hon (tm':=p.1) (s':=p.2) he r hwf hf hfr.tm hfr.size hF fun φ' a' w' k1 k2=>
    ⟨φ',rfl,k1,⟨k2.1,k2.2.1,by rw[k2.2.2];exact hfr.df.mono (k1.sub hf)⟩⟩
 | .seq x y,ic,fr,fr',s,s',res,φ,w,a,hc,h,r,hwf,hf,hfr=>by
  simp only[cC]at hc;split at hc
  ·rename_i ix iy hx hy
   simp only[Option.some.injEq]at hc;subst hc;simp only[evC]at h;cases he:evC E S rd ix fr s with
   |none=>rw[he]at h;simp[uC]at h
   |some p=>
    obtain⟨res1,fr1,s1⟩:=p;rw[he]at h;have hn1:=qL hS.mono he;have hn2:s1.next≤s'.next:=gp (x:=some (res1,fr1,s1)) (fun p hp=>by cases hp;exact zo _) (fun _ _ _ _ _ h=>qL hS.mono h) h
    refine wpIn_seq (wpIn_mono (vx hS hG hD hF hrd x hx he r hwf (hf.left hn2) hfr) (YI hwf hf hn1 h fun φ1 a1 w1 hk k1 k2 k3=>?_));exact wpIn_mono (vx hS hG hD hF hrd y hy hk k1.rel (k1.ext.wf hwf) k3 k2) fun e a2 w2 q=>pS hwf k1 q
  ·cases hc
 | .cond b x y,ic,fr,fr',s,s',res,φ,w,a,hc,h,r,hwf,hf,hfr=>by
  simp only[cC]at hc;split at hc
  ·rename_i ib ix iy hb hx hy
   simp only[Option.some.injEq]at hc;subst hc;simp only[evC,WV]at h;split at h
   ·rename_i hbv
    have:=xJ (φ:=φ) (a:=a) hb hbv (TmOn.of hfr.tm);simp only[VR]at this;exact wpIn_cond_true this (vx hS hG hD hF hrd x hx h r hwf hf hfr)
   ·rename_i hbv
    have:=xJ (φ:=φ) (a:=a) hb hbv (TmOn.of hfr.tm);simp only[VR]at this;exact wpIn_cond_false this (vx hS hG hD hF hrd y hy h r hwf hf hfr)
   ·cases h
  ·cases hc
 | .block id b,ic,fr,fr',s,s',res,φ,w,a,hc,h,r,hwf,hf,hfr=>by
  simp only[cC]at hc;obtain⟨ib,hb,rfl⟩:=Option.map_eq_some_iff.1 hc;simp only[evC]at h;cases he:evC E S rd ib fr s with
  |none=>rw[he]at h;simp[jv]at h
  | some p=>
   obtain⟨res1,fr1,s1⟩:=p;rw[he]at h;simp only[jv]at h;have hsame:s1=s'∧fr1=fr'∧(∀i,res1=.exit i→if i=id then res=.norm else res=.exit i)∧((∀i,res1≠.exit i)→res=res1):=by
    cases res1 with
    |norm=>simp only[Option.some.injEq,Prod.mk.injEq]at h;obtain⟨rfl,rfl,rfl⟩:=h;exact⟨rfl,rfl,(fun i hi=>by cases hi),fun _=>rfl⟩
    |ret=>simp only[Option.some.injEq,Prod.mk.injEq]at h;obtain⟨rfl,rfl,rfl⟩:=h;exact⟨rfl,rfl,(fun i hi=>by cases hi),fun _=>rfl⟩
    | exit i=>
     simp only at h;cases hb2:za i id with
     |true=>
      rw[hb2]at h;simp only[cond_true,Option.some.injEq,Prod.mk.injEq]at h;obtain⟨rfl,rfl,rfl⟩:=h;refine⟨rfl,rfl,fun j hj=>?_,fun hne=>absurd rfl (hne i)⟩;cases hj;rw[if_pos (xT.1 hb2)]
     |false=>
      rw[hb2]at h;simp only[cond_false,Option.some.injEq,Prod.mk.injEq]at h;obtain⟨rfl,rfl,rfl⟩:=h;refine⟨rfl,rfl,fun j hj=>?_,fun _=>rfl⟩;cases hj;rw[if_neg (fun e=>by rw[xT.2 e]at hb2;cases hb2)]
   obtain⟨rfl,rfl,h1,h2⟩:=hsame;refine wpIn_block (wpIn_mono (vx hS hG hD hF hrd b hb he r hwf hf hfr) ?_)
   rintro e a1 w1 ⟨φ1,rfl,k1,k2⟩
   cases res1 with
   |norm=>exact⟨φ1,by rw[h2 (by intro i hi;cases hi)],k1,k2⟩
   |ret=>exact⟨φ1,by rw[h2 (by intro i hi;cases hi)],k1,k2⟩
   |exit i=>
    have:=h1 i rfl;simp only[Res.ex,Exit.inBlock];by_cases hii:i=id
    ·rw[if_pos hii]at this⊢;exact⟨φ1,by rw[this];rfl,k1,k2⟩
    ·rw[if_neg hii]at this⊢;exact⟨φ1,by rw[this];rfl,k1,k2⟩
 | .loop b,ic,fr,fr',s,s',res,φ,w,a,hc,h,r,hwf,hf,hfr=>by
  simp only[cC]at hc;obtain⟨ib,hb,rfl⟩:=Option.map_eq_some_iff.1 hc;simp only[evC]at h;cases he:evC E S rd ib fr s with
  |none=>rw[he]at h;simp[uC]at h
  |some p=>
   obtain⟨res1,fr1,s1⟩:=p;rw[he]at h;have hn1:=qL hS.mono he;have hn2:s1.next≤s'.next:=gp (x:=some (res1,fr1,s1)) (fun p hp=>by cases hp;exact zo _) (fun _ _ _ _ _ h=>hS.mono.loop _ _ _ _ _ _ _ h) h
   refine Zx (Ze (wpIn_mono (vx hS hG hD hF hrd b hb he r hwf (hf.left hn2) hfr) (YI hwf hf hn1 h fun φ1 a1 w1 hk k1 k2 k3=>?_)));exact LoopIn.mono (hS.loop hk hb k1.rel (k1.ext.wf hwf) k3 k2 F n hF hrd) fun e a2 w2 q=>pS hwf k1 q
 | .rangeFunc g ps x y,ic,fr,fr',s,s',res,φ,w,a,hc,h,r,hwf,hf,hfr=>by
  simp only[cC]at hc;split at hc
  ·rename_i g' ia ib hg ha hb
   cases hps:ps.toList.all (ze · nt)with
   |false=>rw[hps]at hc;simp at hc
   |true=>
    rw[hps]at hc;simp only[cond_true,Option.some.injEq]at hc;subst hc;simp only[evC]at h;exact zpf hS hF hg ha hb hps h r hwf hf hfr hrd
  ·cases hc
 |.scope b,ic,fr,fr',s,s',res,φ,w,a,hc,h,r,hwf,hf,hfr=>by simp only[cC,Option.some.injEq]at hc;subst hc;simp[evC]at h
 |.label l,ic,fr,fr',s,s',res,φ,w,a,hc,h,r,hwf,hf,hfr=>by simp only[cC,Option.some.injEq]at hc;subst hc;simp[evC]at h
 |.goto l,ic,fr,fr',s,s',res,φ,w,a,hc,h,r,hwf,hf,hfr=>by simp only[cC,Option.some.injEq]at hc;subst hc;simp[evC]at h
 |.refuse l,ic,fr,fr',s,s',res,φ,w,a,hc,h,r,hwf,hf,hfr=>by simp only[cC,Option.some.injEq]at hc;subst hc;simp[evC]at h
end
def kj(P:Program)(E:Env):Prop:=∀f F,E.funs.get f=some F→∃fn,P.funcs[f]? =some fn∧HE P fn=some F
theorem Qh:∀(l:List AV) (tm:Trie AV) (i j:Nat) (v:AV),(wq tm i l).get j=some v→(i≤j∧l[j-i]? =some v)∨(tm.get j=some v∧(j<i∨i+l.length≤j))
 |[],tm,i,j,v,h=>by simp only[wq]at h;exact .inr ⟨h,by simp;omega⟩
 | u::r,tm,i,j,v,h=>by
  simp only[wq]at h;rcases Qh r _ _ j v h with ⟨h1,h2⟩|⟨h1,h2⟩
  ·left
   have h1':i+1≤j:=h1;refine⟨oM,?_⟩;have:j-i=(j-(i+1))+1:=oM;rw[this,List.getElem?_cons_succ];exact h2
  ·rw[Trie.get_set]at h1;by_cases e:j=i
   ·rw[if_pos e]at h1;cases h1;left;subst e;exact⟨zo _,by simp⟩
   ·rw[if_neg e]at h1;have h2':j<i+1∨i+1+r.length≤j:=h2
    right;exact⟨h1,by simp;omega⟩
theorem Zr{args:List AV}{xs:List Value}(h:VRL φ args xs)(k:Nat):TmRel φ (wq .leaf 0 args) (xs.toArray++Array.replicate k undef):=by
 intro j v hv;rcases Qh args .leaf 0 j v hv with ⟨_,h1⟩|⟨h1,_⟩
 ·obtain⟨y,hy,hvr⟩:=h.get h1;simp only[Nat.sub_zero]at hy;have hlt:j<xs.length:=by
   by_cases hl:j<xs.length
   ·exact hl
   ·rw[List.getElem?_eq_none oM]at hy;cases hy
  have:(xs.toArray++yK k undef).getD j undef=y:=by
   rw[yH,Array.getElem?_append_left (by simpa using hlt)]
   simp[hy]
  rw[this];exact hvr
 ·simp[Trie.get]at h1
section
variable {P:Program}{w0:World}{E:Env}{S:Self}
theorem pm(hG:xS E.globs w0){φ:Phi}{s:St}{w:World}(r:Rel P w0 φ s.get w){tm:Trie AV}{tmps:Array Value}(ht:TmRel φ tm tmps){f:ResultVar→Sem Value}(f1:∀t,f (.tmp t)=pure (tmps.getD t undef))(f2:∀a t ad,tmps.getD a undef=.pointer (some ad)→f (.cell a t)=loadVar t ad):
  ∀{rs:List ResultVar} {l:List RV} {vs:List AV},Gm P rs=some l→jk E.globs tm s l=some vs→∃ys,(rs.mapM f).run P w=.ok ys w∧VRL φ vs ys
 |[],l,vs,hc,h=>by simp[Gm]at hc;subst hc;simp[jk]at h;subst h;exact⟨[],by simp,VRL.nil φ⟩
 | .tmp t::rs,l,vs,hc,h=>by
  simp only[Gm]at hc;obtain⟨l',hl',rfl⟩:=Option.map_eq_some_iff.1 hc;simp only[jk]at h;split at h
  ·rename_i v vs' h1 h2
   simp only[Option.some.injEq]at h;subst h;obtain⟨ys,k1,k2⟩:=pm hG r ht f1 f2 hl' h2;exact⟨tmps.getD t undef::ys,by simp only[yL,f1,Sem.run_bind,Sem.run_pure,Result.andThen_ok,k1],VRL.cons (ht t v h1) k2⟩
  ·cases h
 | .cell a t::rs,l,vs,hc,h=>by
  simp only[Gm]at hc;split at hc
  ·rename_i n l' q1 q2 q3
   simp only[Option.some.injEq]at hc;subst hc;simp only[jk]at h;split at h
   ·rename_i v vs' h1 h2
    simp only[Option.some.injEq]at h;subst h;obtain⟨ys,k1,k2⟩:=pm hG r ht f1 f2 q3 h2;split at h1
    ·rename_i p hp
     split at h1
     ·rename_i cs hcs
      simp only[Option.some.injEq]at h1;subst h1;obtain⟨z,z1,z2⟩:=zwo (P:=P) (t:=t) r hG q1 q2 (p:=p) (v:=.agg cs) (by simp only[Zw,hcs]) (ht a p hp)
      obtain⟨ad,xs,e1,e2,e3,e4⟩:=vl r hG hcs (ht a p hp);have hz:(loadVar t ad).run P w=.ok z w:=by simpa [Instr.loadAt,Instr.sureAddr,e1]using z1
      exact⟨z::ys,by simp only[yL,f2 a t ad e1,Sem.run_bind,Sem.run_pure,Result.andThen_ok,hz,k1],VRL.cons z2 k2⟩
     ·cases h1
    ·cases h1
   ·cases h
  ·rename_i l' q1 q3
   simp only[Option.some.injEq]at hc;subst hc;simp only[jk]at h;split at h
   ·rename_i v vs' h1 h2
    simp only[Option.some.injEq]at h;subst h;obtain⟨ys,k1,k2⟩:=pm hG r ht f1 f2 q3 h2;split at h1
    ·rename_i p hp
     split at h1
     ·rename_i v0 tl hcs
      simp only[Option.some.injEq]at h1;subst h1;obtain⟨z,z1,z2⟩:=zpn (P:=P) (t:=t) r hG q1 (p:=p) (v:=v0) (by simp only[vLd,hcs,Za]) (ht a p hp)
      obtain⟨ad,xs,e1,e2,e3,e4⟩:=vl r hG hcs (ht a p hp);have hz:(loadVar t ad).run P w=.ok z w:=by simpa [Instr.loadAt,Instr.sureAddr,e1]using z1
      exact⟨z::ys,by simp only[yL,f2 a t ad e1,Sem.run_bind,Sem.run_pure,Result.andThen_ok,hz,k1],VRL.cons z2 k2⟩
     ·cases h1
    ·cases h1
   ·cases h
  ·cases hc
theorem hJ(hG:xS E.globs w0)(r:Rel P w0 φ s.get w){tmps:Array Value}(ht:TmRel φ tm tmps){fn:Func}{l:List RV}(hc:Gm P fn.results.toList=some l)(h:YE E.globs tm s l=some (v,s')):
  s'=s∧∃x,(results fn tmps).run P w=.ok x w∧VR φ v x:=by
 unfold YE at h;split at h
 ·rename_i vs hvs
  simp only[Option.some.injEq,Prod.mk.injEq]at h;obtain⟨rfl,rfl⟩:=h;refine⟨rfl,?_⟩;have key:∀f:ResultVar→Sem Value,(∀t,f (.tmp t)=pure (tmps.getD t undef))→(∀a t ad,tmps.getD a undef=.pointer (some ad)→f (.cell a t)=loadVar t ad)→∃x,(do let vs ←fn.results.mapM f;pure (if h:vs.size=1 then vs[0]else .tuple vs):Sem Value).run P w=.ok x w∧VR φ (vB vs) x:=fun f f1 f2=>by
   obtain⟨ys,k1,k2⟩:=pm hG r ht f1 f2 hc hvs;refine⟨if h:ys.toArray.size=1 then ys.toArray[0]else .tuple ys.toArray,?_,?_⟩
   ·rw[Sem.run_bind,Array.mapM_eq_mapM_toList,Sem.run_map,k1];rfl
   ·cases vs with
    |nil=>
     simp only[VRL]at k2;subst k2;simp only[vB,VR];exact⟨[],rfl,VRL.nil φ⟩
    | cons v0 vs=>
     simp only[VRL]at k2;obtain⟨y,ys',rfl,k3,k4⟩:=k2;cases vs with
     |nil=>simp only[VRL]at k4;subst k4;exact k3
     |cons v1 vs'=>
      simp only[VRL]at k4;obtain⟨y1,ys1,rfl,k5,k6⟩:=k4;simp only[vB];rw[dif_neg (by simp)]
      simp only[VR];exact⟨_,rfl,VRL.cons k3 (VRL.cons k5 k6)⟩
  unfold results;refine key _ ?_ ?_
  ·intro t;rfl
  ·intro a t ad h;simp only[h];rfl
 ·cases h
theorem Zg{F:Fence}{n:Nat}{fn:Func}{tmps:Array Value}{R:Ending→World→Prop}:∀{df:List Nat} {ds:List Deferred} {φ:Phi} {s s':St} {w:World},wZ s df=some s'→DfRel φ df ds→Rel P w0 φ s.get w→Wf s→
  (∀w',Step P w0 φ s w φ s' w'→LeavesIn F n P fn tmps R [] .returning w')→LeavesInM F n P fn tmps R ds .returning w
 |[],ds,φ,s,s',w,h,hd,r,hwf,hk=>by
  simp only[DfRel]at hd;subst hd;simp only[wZ,Option.some.injEq]at h;subst h;exact hk w (Step.refl r)
 | d::df,ds,φ,s,s',w,h,hd,r,hwf,hk=>by
  obtain⟨B,ds',hB,rfl,hd'⟩:=hd;simp only[wZ]at h;split at h
  ·rename_i hg
   obtain⟨B',hB',hh⟩:=r.obj d _ hg;rw[hB]at hB';cases hB';have st:Step P w0 φ s w φ (s.put d .dfd0) (w.putObj B.b (.deferred none)):=Step.setObj r hg hB hh (x':=.deferred none) (kZ hh);refine⟨by simp,.inl ⟨B.b,_,rfl,run_takeDeferred hh,?_⟩⟩
   exact Zg h hd' st.rel (st.ext.wf hwf) fun w' k=>hk w' (Step.trans hwf st k)
  ·cases h
theorem WI(hS:SelfOk P w0 S)(hG:xS E.globs w0)(hD:DrawOk P w0 E S){f:Nat}{fn:Func}{c:Code}{ib:ICode}{rs:List RV}{args:List AV}(hfn:P.funcs[f]? =some fn)(hbody:fn.body=some c)(hb:cC P fn.ntmps c=some ib)(hrs:Gm P fn.results.toList=some rs)
  (hle0:args.length≤fn.ntmps) (h:pM E S ⟨fn.ntmps,rs,ib⟩ args s=some (v,s')) {xs:List Value} (r:Rel P w0 φ s.get w) (hwf:Wf s) (hf:Fresh φ s s') (hargs:VRL φ args xs) {F:Fence} (hF:Wide F):
  CallsIn F n P f xs.toArray w (Q2 P w0 φ s w v s'):=by
 have hle:xs.length≤fn.ntmps:=by rw[←VRL.length hargs];exact hle0
 unfold pM at h;simp only at h;cases he:evC E S none ib {tm:=wq .leaf 0 args,df:=[]} s with
 |none=>rw[he]at h;simp[wL]at h
 | some p=>
  obtain⟨res,fr',s1⟩:=p;rw[he]at h;simp only[wL]at h;have hres:∃s2,wZ s1 fr'.df=some s2∧YE E.globs fr'.tm s2 rs=some (v,s')∧(res=.norm∨res=.ret):=by
   cases res with
   |exit i=>simp at h
   |norm=>
    simp only at h;split at h
    ·rename_i s2 hs2;exact⟨s2,hs2,h,.inl rfl⟩
    ·cases h
   |ret=>
    simp only at h;split at h
    ·rename_i s2 hs2;exact⟨s2,hs2,h,.inr rfl⟩
    ·cases h
  obtain⟨s2,hm,hr,hor⟩:=hres;have hs2:s'=s2:=by
   unfold YE at hr;split at hr
   ·cases hr;rfl
   ·cases hr
  have hfr:FrRel φ fn.ntmps {tm:=wq .leaf 0 args,df:=[]} {tmps:=xs.toArray++yK (fn.ntmps-xs.toArray.size) undef,defers:=[]}:=
   ⟨Zr hargs _,by simp;omega,rfl⟩
  have hFp:Wide F.plain:=⟨hF.fn,hF.depth,hF.alive⟩;have key:CallsIn F.plain n P f xs.toArray w (Q2 P w0 φ s w v s'):=by
   refine callsIn_of_wp_marks hfn hbody (hF.fn f) (wpIn_mono (vx hS hG hD hFp (fun _=>rfl) c hb he r hwf hf hfr) ?_)
   rintro e a' w' ⟨φ1,rfl,k1,k2⟩
   have hleave:LeavesInM F.plain n P fn a'.tmps (Q2 P w0 φ s w v s') a'.defers .returning w':=by
    refine Zg hm k2.df k1.rel (k1.ext.wf hwf) fun w2 k3=>?_;obtain⟨_,x,k4,k5⟩:=hJ hG k3.rel k2.tm hrs hr;exact⟨x,k4,φ1,x,rfl,hs2▸Step.trans hwf k1 k3,k5⟩
   rcases hor with rfl|rfl
   ·exact hleave
   ·exact hleave
  exact key
theorem Uc{φ2:Phi}{n0:Nat}(hz:∀b o v,φ.z b o=some v→φ2.z b o=some v)(hm:∀id,id<n0→φ2 id=φ id){v v':AV}{x:Value}(h:pH n0 v=some v')(hx:VR φ v x):VR φ2 v' x:=by
 unfold pH at h;split at h
 ·rename_i id e n cs
  cases hb:zd n0 id with
  |true=>
   rw[hb]at h;simp only[cond_true,Option.some.injEq]at h;subst h;exact VR.pure hz _ _ rfl hx.gr_lst
  |false=>
   rw[hb]at h;simp only[cond_false,Option.some.injEq]at h;subst h;have hlt:id<n0:=by apply Nat.lt_of_not_le;intro hh;rw[xR.2 hh]at hb;cases hb
   simp only[VR]at hx⊢;obtain⟨h1,h2,h3,h4,B,ys,h5,h6,h7,h8,h9⟩:=hx;exact⟨h1,h2,h3,h4,B,ys,(hm id hlt).trans h5,h6,h7,h8.mono hz,VRL.pure hz _ _ h1 h9⟩
 ·rename_i id off
  cases hb:ze id n0 with
  |false=>rw[hb]at h;simp at h
  |true=>
   rw[hb]at h;simp only[cond_true,Option.some.injEq]at h;subst h;simp only[VR]at hx⊢;obtain⟨B,hB,e⟩:=hx;exact⟨B,(hm id (wi.1 hb)).trans hB,e⟩
 ·rename_i id off len c
  cases hb:ze id n0 with
  |false=>rw[hb]at h;simp at h
  |true=>
   rw[hb]at h;simp only[cond_true,Option.some.injEq]at h;subst h;simp only[VR]at hx⊢;obtain⟨B,k,hB,e⟩:=hx;exact⟨B,k,(hm id (wi.1 hb)).trans hB,e⟩
 ·rename_i id
  cases hb:ze id n0 with
  |false=>rw[hb]at h;simp at h
  |true=>
   rw[hb]at h;simp only[cond_true,Option.some.injEq]at h;subst h;simp only[VR]at hx⊢;obtain⟨B,hB,e⟩:=hx;exact⟨B,(hm id (wi.1 hb)).trans hB,e⟩
 ·cases hb:x8 v with
  |false=>rw[hb]at h;simp at h
  |true=>
   rw[hb]at h;simp only[cond_true,Option.some.injEq]at h;subst h;exact VR.pure hz _ _ hb hx
theorem Uf{φ φ2:Phi}{n0:Nat}(hz:∀b o v,φ.z b o=some v→φ2.z b o=some v)(hm:∀id,id<n0→φ2 id=φ id):∀{l l':List AV} {xs:List Value},X0 n0 l=some l'→VRL φ l xs→VRL φ2 l' xs
 |[],l',xs,h,hx=>by simp only[X0,Option.some.injEq]at h;subst h;simp only[VRL]at hx;subst hx;exact VRL.nil φ2
 | v::r,l',xs,h,hx=>by
  simp only[X0]at h;simp only[VRL]at hx;obtain⟨y,ys,rfl,h1,h2⟩:=hx;split at h
  ·rename_i v' hv
   split at h
   ·rename_i r' hr
    simp only[Option.some.injEq]at h;subst h;exact VRL.cons (Uc hz hm hv h1) (Uf hz hm hr h2)
   ·cases h
  ·cases h
theorem Ud{φ2:Phi}{n0:Nat}(hz:∀b o v,φ.z b o=some v→φ2.z b o=some v)(hm:∀id,id<n0→φ2 id=φ id){v v':AV}{x:Value}(h:Xe n0 v=some v')(hx:VR φ v x):VR φ2 v' x:=by
 unfold Xe at h;split at h
 ·split at h
  ·rename_i l hl
   simp only[Option.some.injEq]at h;subst h;simp only[VR]at hx⊢;obtain⟨xs,e,h1⟩:=hx;exact⟨xs,e,Uf hz hm hl h1⟩
  ·cases h
 ·exact Uc hz hm h hx
theorem Ug{φ φ2:Phi}{n0:Nat}(hz:∀b o v,φ.z b o=some v→φ2.z b o=some v)(hm:∀id,id<n0→φ2 id=φ id):∀{l l':List AV} {xs:List Value},Xf n0 l=some l'→VRL φ l xs→VRL φ2 l' xs
 |[],l',xs,h,hx=>by simp only[Xf,Option.some.injEq]at h;subst h;simp only[VRL]at hx;subst hx;exact VRL.nil φ2
 | v::r,l',xs,h,hx=>by
  simp only[Xf]at h;simp only[VRL]at hx;obtain⟨y,ys,rfl,h1,h2⟩:=hx;split at h
  ·rename_i v' hv
   split at h
   ·rename_i r' hr
    simp only[Option.some.injEq]at h;subst h;exact VRL.cons (Ud hz hm hv h1) (Ug hz hm hr h2)
   ·cases h
  ·cases h
theorem Ue{φ2:Phi}{n0:Nat}(hz:∀b o v,φ.z b o=some v→φ2.z b o=some v)(hm:∀id,id<n0→φ2 id=φ id){v v':AV}{x:Value}(h:ZZ n0 v=some v')(hx:VR φ v x):VR φ2 v' x:=by
 unfold ZZ at h;split at h
 ·split at h
  ·rename_i l hl
   simp only[Option.some.injEq]at h;subst h;simp only[VR]at hx⊢;obtain⟨xs,e,h1⟩:=hx;exact⟨xs,e,Ug hz hm hl h1⟩
  ·cases h
 ·exact Ud hz hm h hx
theorem G2{m:Nat}(h:wQ m n=0)(hid:id<n):m.testBit id=false:=by
 have h1:(wQ m n).testBit id=false:=by rw[h];exact Nat.zero_testBit id
 have h2:(m%2^n).testBit id=false:=h1;rw[Nat.testBit_mod_two_pow]at h2
 simpa [hid]using h2
theorem Step.pop{φ1:Phi}{t:St}{w1:World}(r:Rel P w0 φ s.get w)(hwf:Wf s)(st:Step P w0 φ {s with wm:=0,md:=true} w φ1 t w1)(hm:wQ t.wm s.next=0):
  Step P w0 φ s w (φ.zset φ1.z) s w1:=by
 have hbit:∀id,id<s.next→t.wm.testBit id=false:=fun id hid=>G2 hm hid
 have hold:∀b,b<w.heap.size→w1.heap[b]? =w.heap[b]? :=fun b hb=>st.frame b hb fun id o B ho _ _=>hbit id (hwf.lt id o (wa ho));have hsub:Sub φ (φ.zset φ1.z):=⟨fun _ _ h=>h,st.zsub⟩;have hkeep:∀id o,s.get id=some o→t.get id=some o:=fun id o ho=>by
  have hlt:=hwf.lt id o (wa ho);have h1:t.objs.get id=s.objs.get id:=st.ext.keep id hlt (hbit id hlt);have h2:seen t id=seen s id:=qY st.ext.hide st.ext.only id;rw[uF,h2,qm ho,h1];exact wa ho
 have hmm:∀id o,s.get id=some o→φ1 id=φ id:=fun id o ho=>st.same id (.inl (hwf.lt id o (wa ho)));refine⟨Ext.refl s,⟨st.rel.base,?_,?_,r.old,r.inj,st.rel.frz,?_⟩,fun _ _=>rfl,st.size,fun b hb _=>hold b hb,fun id _ h1 h2=>absurd h2 oM,st.zsub,?_⟩
 ·intro id o ho;obtain⟨B,hB,tt⟩:=r.obj id o ho;exact⟨B,hB,tt.keep hsub (hold _ (r.rng id B hB))⟩
 ·intro id B hB;have:B.b<w.heap.size:=r.rng id B hB;have:=st.size;omega
 ·intro id o B ho hB;exact st.rel.sep id o B (hkeep id o ho) ((hmm id o ho).trans hB)
 ·intro b i v hv;rcases st.zown b i v hv with h1|h1|⟨id0,o0,B0,g0,p0,e0,m0⟩
  ·exact .inl h1
  ·exact .inr (.inl h1)
  ·rw[hbit id0 (hwf.lt id0 o0 (wa g0))]at m0;cases m0
theorem Step.unsub{φ1:Phi}{t:St}{w1:World}{b c:Bool}(st:Step P w0 φ {s with wm:=0,md:=b} w φ1 t w1):Step P w0 φ s w φ1 {t with wm:=yJ s.wm t.wm,md:=c} w1:=by
 have hb:∀{id:Nat},t.wm.testBit id=true→(yJ s.wm t.wm).testBit id=true:=fun{id} h=>by
  show (s.wm|||t.wm).testBit id=true
  rw[yG,h,Bool.or_true]
 refine⟨st.ext.sub,st.rel,st.same,st.size,fun b hb' H=>st.frame b hb' fun id o B ho hB e=>?_,fun id B h1 h2 hB=>?_,st.zsub,fun b i v hv=>?_⟩
 ·cases hx:t.wm.testBit id with
  |false=>rfl
  |true=>have h9:=H id o B ho hB e;have h8:(yJ s.wm t.wm).testBit id=false:=h9;rw[hb hx]at h8;cases h8
 ·rcases st.own id B h1 h2 hB with h3|⟨id0,o0,B0,g0,p0,e0,m0⟩
  ·exact .inl h3
  ·exact .inr ⟨id0,o0,B0,g0,p0,e0,hb m0⟩
 ·rcases st.zown b i v hv with h1|h1|⟨id0,o0,B0,g0,p0,e0,m0⟩
  ·exact .inl h1
  ·exact .inr (.inl h1)
  ·exact .inr (.inr ⟨id0,o0,B0,g0,p0,e0,hb m0⟩)
theorem Step.unmd{φ1:Phi}{t:St}{w1:World}{b c:Bool}(st:Step P w0 φ {s with md:=b} w φ1 t w1):Step P w0 φ s w φ1 {t with md:=c} w1:=
 ⟨st.ext.remd,st.rel,st.same,st.size,st.frame,st.own,st.zsub,st.zown⟩
theorem zv1{x:Value}(h:VR φ v x):VR φ (grW v) x:=by
 cases v<;>first|exact h|exact VR.gr_lst h
theorem Yr{φ:Phi}:∀{l:List AV} {xs:List Value},VRL φ l xs→VRL φ (znH l) xs
 |[],_,h=>h
 |v::r,_,h=>by
  simp only[VRL]at h;obtain⟨y,ys,rfl,h1,h2⟩:=h;exact VRL.cons (zv1 h1) (Yr h2)
theorem zzh{x:Value}(h:VR φ v x):VR φ (zlD v) x:=by
 cases v<;>first|exact h|skip
 simp only[VR,zlD]at h⊢;obtain⟨xs,rfl,h⟩:=h;exact⟨xs,rfl,Yr h⟩
theorem Q8{φ:Phi}:∀{l:List AV} {xs:List Value},VRL φ l xs→VRL φ (zlE l) xs
 |[],_,h=>h
 |v::r,_,h=>by
  simp only[VRL]at h;obtain⟨y,ys,rfl,h1,h2⟩:=h;exact VRL.cons (zzh h1) (Q8 h2)
theorem zwE{x:Value}(h:VR φ v x):VR φ (agW v) x:=by
 cases v<;>first|exact h|skip
 ·simp only[VR,agW]at h⊢;obtain⟨xs,rfl,h⟩:=h;exact⟨xs,rfl,Yr h⟩
 ·simp only[VR,agW]at h⊢;obtain⟨xs,rfl,h⟩:=h;exact⟨xs,rfl,Q8 h⟩
theorem WL(hS:SelfOk P w0 S)(hG:xS E.globs w0)(hE:kj P E)(hD:DrawOk P w0 E S){f:Nat}{args:List AV}(h:jc E S f args s=some (v,s')):
  (∃fn,P.funcs[f]? =some fn∧fn.body.isSome=true∧(fn.name== "runtime.NumGoroutine")=false)∧
  ∀{φ:Phi} {w:World} {xs:List Value},Rel P w0 φ s.get w→Wf s→Fresh φ s s'→VRL φ args xs→∀F n,Wide F→CallsIn F n P f xs.toArray w (Q2 P w0 φ s w v s'):=by
 obtain⟨IF,hIF,hle,hway⟩:=XN h;obtain⟨fn,hfn,hcf⟩:=hE f IF hIF;unfold HE at hcf;split at hcf
 ·cases hcf
 ·rename_i c hbody
  split at hcf
  ·rename_i ib rs hb hrs
   cases hnm:(fn.name != "runtime.NumGoroutine")with
   |false=>rw[hnm]at hcf;simp at hcf
   | true=>
    rw[hnm]at hcf;simp only[cond_true,Option.some.injEq]at hcf;subst hcf;have hnm':(fn.name== "runtime.NumGoroutine")=false:=by simpa [bne]using hnm
    refine⟨⟨fn,hfn,by rw[hbody];rfl,hnm'⟩,?_⟩
    intro φ w xs r hwf hf hargs F n hF;rcases hway with ⟨u,t,hbd,hway⟩|⟨t,hbd,rfl⟩
    ·have hc:=WI (P:=P) (s':=t) hS hG hD hfn hbody hb hrs hle hbd r ⟨hwf.lt,hwf.hd⟩ hf hargs (n:=n) hF;refine CallsIn.mono hc ?_
     rintro e w1 ⟨φ1,x,rfl,k1,k2⟩
     rcases hway with ⟨hm,hfz,rfl⟩|⟨rfl,rfl⟩
     ·exact⟨φ.zset φ1.z,x,rfl,Step.pop r hwf k1 hm,Ue (φ:=φ1) (φ2:=φ.zset φ1.z) (fun _ _ _ h=>h) (fun id hid=>(k1.same id (.inl hid)).symm) hfz k2⟩
     ·exact⟨φ1,x,rfl,Step.unsub k1,zwE k2⟩
    ·have hc:=WI (P:=P) (s':=t) hS hG hD hfn hbody hb hrs hle hbd r ⟨hwf.lt,hwf.hd⟩ hf hargs (n:=n) hF;refine CallsIn.mono hc ?_
     rintro e w1 ⟨φ1,x,rfl,k1,k2⟩
     exact⟨φ1,x,rfl,Step.unmd k1,k2⟩
  ·cases hcf
theorem KX{φ:Phi}:∀{ps:List Nat} {args:List AV} {xs:List Value} {tm tm1:Trie AV} {t:Array Value},gS tm ps args=some tm1→VRL φ args xs→TmRel φ tm t→(∀p∈ps,p<t.size)→
  xs.length=ps.length∧TmRel φ tm1 ((ps.zip xs).foldl (fun t p=>t.setIfInBounds p.1 p.2) t)∧((ps.zip xs).foldl (fun t p=>t.setIfInBounds p.1 p.2) t).size=t.size
 |[],[],xs,tm,tm1,t,h,hx,ht,hp=>by
  simp only[VRL]at hx;subst hx;simp only[gS,Option.some.injEq]at h;subst h;exact⟨rfl,ht,rfl⟩
 |p::ps,v::vs,xs,tm,tm1,t,h,hx,ht,hp=>by
  simp only[VRL]at hx;obtain⟨y,ys,rfl,h1,h2⟩:=hx;simp only[gS]at h;obtain⟨k1,k2,k3⟩:=KX h h2 (ht.set (hp p (by simp)) h1) (fun q hq=>by simp;exact hp q (by simp[hq]))
  refine⟨by simp[k1],k2,?_⟩
  simp only[List.zip_cons_cons,List.foldl_cons];rw[k3];simp
 |[],_::_,xs,tm,tm1,t,h,hx,ht,hp=>by simp[gS]at h
 |_::_,[],xs,tm,tm1,t,h,hx,ht,hp=>by simp[gS]at h
theorem zrl(t:Array Value)(ps:List Nat)(xs:List Value):((ps.toArray.zip xs.toArray).foldl (fun t (p,v)=>t.setIfInBounds p v) t)=(ps.zip xs).foldl (fun t p=>t.setIfInBounds p.1 p.2) t:=by
 rw[←Array.foldl_toList];simp
theorem G5(hS:SelfOk P w0 S)(hG:xS E.globs w0)(hD:DrawOk P w0 E S){l:Nat}{args:List AV}(h:uI E S l args s=some (v,s')){xs:List Value}{B:Blk}(r:Rel P w0 φ s.get w)(hwf:Wf s)(hf:Fresh φ s s')(hargs:VRL φ args xs)(hB:φ l=some B):
  ∃L,w.heap[B.b]? =some (.loop L)∧xs.length=L.params.size∧∀F n,Wide F→RoundIn F n P B.b L.fn ((L.params.zip xs.toArray).foldl (fun t (p,v)=>t.setIfInBounds p v) L.tmps) L.assign L.body w (Q2 P w0 φ s w v s'):=by
 unfold uI at h;split at h
 ·rename_i st0 pend0 tm0 ps0 asg bd d0 hg
  obtain⟨B',hB',L,hh,hl⟩:=r.obj l _ hg;rw[hB]at hB';cases hB';split at h
  ·rename_i tm1 hps
   obtain⟨k1,k2,k3⟩:=KX hps hargs hl.tm hl.ps;refine⟨L,hh,by rw[hl.params,k1];simp,?_⟩
   intro F n hF;rw[hl.params,zrl];cases he:evC E S (some l) asg {tm:=tm1,df:=[]} s with
   |none=>rw[he]at h;simp[qR]at h
   | some p=>
    obtain⟨res1,fr1,s1⟩:=p;rw[he]at h;simp only[qR]at h;have hn1:=qL hS.mono he;split at h
    ·split at h
     ·rename_i pend1 tmL psL asgL bodyL dL hg1
      cases he2:evC E S (some l) bd fr1 (s1.put l (.loop .busy pend1 tmL psL asgL bodyL dL))with
      |none=>rw[he2]at h;simp[vP]at h
      | some q=>
       obtain⟨res2,fr2,s2⟩:=q;rw[he2]at h;simp only[vP]at h;have hn2:=qL hS.mono he2;rw[lv]at hn2;split at h
       ·rename_i st2 pend2 tm2 ps2 asg2 body2 d2 hg2
        have hs':s'.next=s2.next:=by
         cases res2<;>simp only[Option.some.injEq,Prod.mk.injEq]at h<;>rw[←h.2]<;>rfl
        have hFr:Wide (F.inRound B.b):=⟨hF.fn,hF.depth,hF.alive⟩;have hfr:FrRel φ L.tmps.size {tm:=tm1,df:=[]} {tmps:=(ps0.zip xs).foldl (fun t p=>t.setIfInBounds p.1 p.2) L.tmps,defers:=[]}:=⟨k2,k3,rfl⟩;refine roundIn_of_wpIn (hF.fn _) (wpIn_mono (vx hS hG hD hFr (fun h=>by cases h) L.assign hl.asg he r hwf (hf.left oM) hfr) ?_)
        rintro e a1 w1 ⟨φ1,rfl,g1,g2⟩
        have hsub1:=g1.sub (hf.left (s1:=s1) oM);have hB1:=hsub1 _ _ hB;obtain⟨B',hB',L1,hh1,hl1⟩:=g1.rel.obj l _ hg1;rw[hB1]at hB';cases hB';have hbr:=run_beginRound (P:=P) hh1 (by rw[hl1.state];rfl)
        have st1:Step P w0 φ1 s1 w1 φ1 (s1.put l (.loop .busy pend1 tmL psL asgL bodyL dL)) (w1.putObj B.b (.loop {L1 with state:=.busy})):=
         Step.setObj g1.rel hg1 hB1 hh1 (x':=.loop {L1 with state:=.busy}) ⟨_,kZ hh1,⟨rfl,hl1.pend,hl1.params,hl1.asg,hl1.body,hl1.tm,hl1.df,hl1.ps⟩⟩
        have hwf1:=g1.ext.wf hwf;have hf1:Fresh φ1 s1 s2:=(hf.right hn1 g1.same).left oM;refine⟨_,hbr,wpIn_mono (vx hS hG hD hFr (fun h=>by cases h) L.body hl.body he2 st1.rel (st1.ext.wf hwf1) hf1 g2) ?_⟩
        rintro e a2 w2 ⟨φ2,rfl,g3,g4⟩
        have hsub2:=g3.sub hf1;have hB2:=hsub2 _ _ hB1;obtain⟨B',hB',L2,hh2,hl2⟩:=g3.rel.obj l _ hg2;rw[hB2]at hB';cases hB';have stA:=Step.trans hwf (Step.trans hwf g1 st1) g3;have fin:∀(j:Option Res),s'=s2.put l (.loop (if j.isNone then .ready else .done) j tm2 ps2 asg2 body2 d2)→v=.bool j.isNone→∃x w',(Instr.endRound B.b (j.map Res.code)).run P w2=.ok x w'∧Q2 P w0 φ s w v s' (.returned x) w':=by
         intro j e1 e2;have hend:=run_endRound (P:=P) (j.map Res.code) hh2;refine⟨_,_,hend,φ2,_,rfl,?_,?_⟩
         ·rw[e1];refine Step.trans hwf stA (Step.setObj g3.rel hg2 hB2 hh2 (x':=.loop {L2 with state:=if (j.map Res.code).isNone then .ready else .done,pending:=j.map Res.code}) ⟨_,kZ hh2,⟨?_,rfl,hl2.params,hl2.asg,hl2.body,hl2.tm,hl2.df,hl2.ps⟩⟩)
          cases j<;>rfl
         ·rw[e2];simp only[VR];cases j<;>rfl
        cases res2 with
        |norm=>
         simp only[Option.some.injEq,Prod.mk.injEq]at h;exact fin none h.2.symm h.1.symm
        |exit id=>
         simp only[Option.some.injEq,Prod.mk.injEq]at h;exact fin (some (.exit id)) h.2.symm h.1.symm
        |ret=>
         simp only[Option.some.injEq,Prod.mk.injEq]at h;exact fin (some .ret) h.2.symm h.1.symm
       ·cases h
     ·cases h
    ·cases h
  ·cases h
 ·cases h
theorem zyz(hS:SelfOk P w0 S)(hG:xS E.globs w0)(hD:DrawOk P w0 E S){rd:Option Nat}{b:ICode}{fr fr':Fr}{res:Res}(h:evC E S rd (.loop b) fr s=some (res,fr',s')){nt:Nat}{c:Code}{a:Act}(hb:cC P nt c=some b)(r:Rel P w0 φ s.get w)(hwf:Wf s)(hf:Fresh φ s s')(hfr:FrRel φ nt fr a)(F:Fence)(n:Nat)(hF:Wide F)(hrd:rd=none→F.round=none):LoopIn F n P c (WD P w0 φ nt s w res fr' s') a w:=by
 simp only[evC]at h;cases he:evC E S rd b fr s with
 |none=>rw[he]at h;simp[uC]at h
 |some p=>
  obtain⟨res1,fr1,s1⟩:=p;rw[he]at h;have hn1:=qL hS.mono he;have hn2:s1.next≤s'.next:=gp (x:=some (res1,fr1,s1)) (fun p hp=>by cases hp;exact zo _) (fun _ _ _ _ _ h=>hS.mono.loop _ _ _ _ _ _ _ h) h
  refine Ze (wpIn_mono (vx hS hG hD hF hrd c hb he r hwf (hf.left hn2) hfr) (YI hwf hf hn1 h fun φ1 a1 w1 hk k1 k2 k3=>?_));exact LoopIn.mono (hS.loop hk hb k1.rel (k1.ext.wf hwf) k3 k2 F n hF hrd) fun e a2 w2 q=>pS hwf k1 q
end
end Go.Proofs.YtbdfljdgapkbcaaGreatDoor.Ev

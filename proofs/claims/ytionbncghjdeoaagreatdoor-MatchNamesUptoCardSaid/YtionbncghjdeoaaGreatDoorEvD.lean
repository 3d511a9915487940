/- Part of a verified evaluator of the model's code, generic over the program: a run of the evaluator that answers shows what the model's run answers. No conditions of its own. -/
import Derived.Test.YtionbncghjdeoaaGreatDoorEvC
import Derived.RangeFuncRecord
import Derived.RangeFuncLeaves
import Derived.OrdersIn
set_option linter.unusedSimpArgs false
set_option linter.unusedVariables false
set_option linter.defProp false
open Option.some renaming injEq → zv
open Prod.mk renaming injEq → zw
open Nat renaming le_refl → zp, beq → za, blt → zd, testBit_or → yv, ble → ze, le_trans → zt, lor → zi, mul → zb, le_of_lt → yG, add → zc
open List renaming mem_cons_of_mem → yD, mem_cons_self → yF, mapM_cons → yI
open Array renaming getD_eq_getD_getElem? → yE, replicate → yH, ext' → yj
open Bool renaming or_eq_true → zn, or_eq_false_iff → yo
namespace Go.Proofs.YtionbncghjdeoaaGreatDoor.Ev
variable {P : Program} {w0 w w' : World} {E : Env} {S : Self} {s s' : St} {φ φ' : Phi} {v : AV} {tm : Trie AV} {id n esz bytes : Nat} {o : AObj} {op : IOp}
theorem pR (s : St) (id : Nat) (o : AObj) : (s.put id o).next = s.next := rfl
theorem HD (s : St) (id : Nat) : (s.del id).next = s.next := rfl
theorem vZ (s : St) (o : AObj) : (s.alloc o).next = s.next + 1 := rfl
theorem pZ {p : AV} {vs : List AV} (h : uQ s p vs = some s') : s'.next = s.next := by
 unfold uQ at h; split at h
 ·split at h
  ·rename_i t cs e fz hg
   cases hb : (fz || !xT vs) with
   | true => rw [hb] at h; simp at h
   | false =>
    rw [hb] at h; simp only [cond_false] at h; split at h
    ·cases h; rfl
    ·cases h
  ·cases h
 ·cases h
theorem UM {x : AV} (h : zvr s x = some (v, s')) : s' = s := by
 unfold zvr at h; split at h
 ·cases h; rfl
 ·cases h; rfl
 ·rename_i id off len c
  split at h
  ·rename_i k
   cases hb : ze len k with
   | true => rw [hb] at h; simp at h; exact h.2.symm
   | false => rw [hb] at h; simp at h
  ·cases h; rfl
 ·cases h; rfl
 ·cases h; rfl
 ·cases h
theorem UN {t : Nat} {x : AV} {new : List AV} (h : ZW s t esz bytes x n new = some (v, s')) : s.next ≤ s'.next := by
 unfold ZW at h; split at h
 ·cases hm : (s.md && xK new) with
  | true => rw [hm] at h; simp only [cond_true] at h; have := jB h; omega
  | false => rw [hm] at h; simp only [cond_false] at h; have := kw h; omega
 ·rename_i k ex cs
  cases ex with
  | false => simp at h
  | true =>
   simp only [cond_true] at h; split at h
   ·have := jB h; omega
   ·cases h
 ·rename_i id esz' k cs
  split at h
  ·rename_i t0 cells hg
   cases hb : (za esz esz' && za t0 t && za (wZ cells) (wZ cs) && xT new) with
   | false => rw [hb] at h; simp at h
   | true => rw [hb] at h; simp only [cond_true] at h; have := jB h; rw [HD] at this; omega
  ·cases h
 ·rename_i id off len c
  split at h
  ·rename_i t0 cs e fz hg
   split at h
   ·rename_i k
    cases hb : ze (zc len n) k with
    | true =>
     rw [hb] at h; simp only [cond_true] at h; split at h
     ·rename_i s1 hs
      cases h; have := pZ hs; omega
     ·cases h
    | false =>
     rw [hb] at h; simp only [cond_false] at h; split at h
     ·have := kw h; omega
     ·cases h
   ·rename_i e'
    cases hb : (za esz e' && e && !fz) with
    | false => rw [hb] at h; simp at h
    | true =>
     rw [hb] at h; simp only [cond_true] at h; cases hb2 : ze (zc off (zb (zc len n) esz)) (wZ cs) with
     | true =>
      rw [hb2] at h; simp only [cond_true] at h; split at h
      ·rename_i s1 hs
       cases h; have := pZ hs; omega
      ·cases h
     | false =>
      rw [hb2] at h; simp only [cond_false] at h; cases hb3 : (xT new && za t0 t) with
      | false => rw [hb3] at h; simp at h
      | true =>
       rw [hb3] at h; simp only [cond_true] at h; split at h
       ·have := kw h; rw [HD] at this; omega
       ·cases h
  ·cases h
 ·cases h
theorem zyI {t : Nat} {x y : AV} (h : jg s t esz bytes x y = some (v, s')) : s.next ≤ s'.next := by
 unfold jg at h; split at h
 ·cases h
 ·rw [UM h]; exact zp _
 ·split at h
  ·cases h
  ·exact UN h
theorem zpQ {t : Nat} {zs : List AV} {x y : AV} (h : UQ s t esz bytes zs x y = some (v, s')) : s.next ≤ s'.next := by
 unfold UQ at h; split at h
 ·cases h
 ·rename_i n
  cases hb : (ze (zb (Nat.succ n) bytes) 281474976710656 && zd n 9223372036854775807) with
  | false => rw [hb] at h; simp at h
  | true => rw [hb] at h; simp only [cond_true] at h; exact UN h
 ·cases h
theorem ztE {p w : AV} (h : oSt s n p w = some (v, s')) : s'.next = s.next := by
 unfold oSt at h; cases hb : za (wZ w.cells) n with
 | false => rw [hb] at h; simp at h
 | true =>
  rw [hb] at h; simp only [cond_true] at h; split at h
  ·rename_i s1 hs; cases h; exact pZ hs
  ·cases h
theorem zwg {x : AV} (h : PM s x = some (v, s')) : s'.next = s.next := by
 unfold PM at h; split at h
 ·split at h
  ·cases h; rfl
  ·cases h
 ·cases h
theorem znI {f : FK} {m k x : AV} (h : oMu s f m k x = some (v, s')) : s'.next = s.next := by
 unfold oMu at h; split at h
 ·split at h
  ·split at h
   ·cases h; rfl
   ·cases h; rfl
   ·cases h
  ·cases h
 ·cases h
theorem znG {f : FK} {m k : AV} (h : oMd s f m k = some (v, s')) : s'.next = s.next := by
 unfold oMd at h; split at h
 ·cases h; rfl
 ·split at h
  ·split at h
   ·cases h; rfl
   ·cases h; rfl
   ·cases h
  ·cases h
 ·cases h
theorem znH {f : FK} {z m k : AV} (h : oMe s f z m k = some (v, s')) : s'.next = s.next := by
 unfold oMe at h; split at h
 ·split at h
  ·split at h
   ·cases h; rfl
   ·cases h; rfl
   ·cases h
  ·cases h
 ·cases h
theorem znE {m t x : AV} (h : oEs s m t x = some (v, s')) : s'.next = s.next := by
 unfold oEs at h; split at h
 ·split at h
  ·split at h
   ·split at h
    ·cases h; rfl
    ·cases h
   ·cases h
  ·cases h
 ·cases h
theorem ztD {x : AV} (h : oNs s x = some (v, s')) : s'.next = s.next := by
 unfold oNs at h; split at h
 ·split at h
  ·split at h
   ·cases h; rfl
   ·cases h; rfl
  ·cases h
 ·cases h
theorem PJ {m since clock : Nat} {seen : List Nat} : ∀ {l : List (AV × AV × Nat)}, pa s id m since seen clock l = some (v, s') → s'.next = s.next
 | [], h => by simp only [pa, zv, zw] at h; rw [← h.2]
 | [e], h => by
  simp only [pa] at h; cases hb : zd e.2.2 since with
  | false => rw [hb] at h; simp at h
  | true => rw [hb] at h; simp only [cond_true, zv, zw] at h; rw [← h.2]; rfl
 | _ :: _ :: _, h => by simp [pa] at h
theorem znJ {x : AV} (h : oNm s x = some (v, s')) : s'.next = s.next := by
 unfold oNm at h; split at h
 ·split at h
  ·cases h; rfl
  ·rename_i m since seen last _
   split at h
   ·rename_i es clock _
    cases hb : Hc seen last es with
    | true => rw [hb] at h; simp at h
    | false => rw [hb] at h; simp only [cond_false] at h; exact PJ h
   ·cases h
  ·cases h
 ·cases h
theorem zwi {e : Nat} {x n : AV} (h : PN s e x n = some (v, s')) : s.next ≤ s'.next := by
 unfold PN at h; split at h
 ·split at h
  ·split at h
   ·simp only [zv, zw] at h; rw [← h.2]; exact zp _
   ·simp only [zv, zw] at h; rw [← h.2]; exact zp _
   ·cases h
  ·rename_i m
   split at h
   ·split at h
    ·rename_i t cs ext _ _
     cases hb : (za t e && zd m 9223372036854775807) with
     | false => rw [hb] at h; simp at h
     | true =>
      rw [hb] at h; simp only [cond_true] at h; split at h
      ·simp only [zv, zw] at h; rw [← h.2]; exact zp _
      ·cases h
    ·cases h
   ·cases h
 ·cases h
theorem ztO (h : opv E op tm s = some (v, s')) : s.next ≤ s'.next := by
 have e : ∀ {a b : St}, a = b → b.next ≤ a.next := fun h => by rw [h]; exact zp _
 have e2 : s'.next = s.next → s.next ≤ s'.next := fun h => oM
 cases op <;> simp only [opv] at h <;> try (cases h; done)
 case mv => obtain ⟨_, _, _, h3⟩ := wh h; exact e h3
 case pick => exact e (ub h).2
 case alloc => simp only [pS, zv, zw] at h; exact yG (uS h.2)
 case box => obtain ⟨_, _, h⟩ := u5 h; simp only [HE, zv, zw] at h; exact yG (uS h.2)
 case build => exact e (ub h).2
 case bsl => exact zwf h
 case ld => obtain ⟨_, _, _, h3⟩ := wh h; exact e h3
 case ldn => obtain ⟨_, _, _, h3⟩ := wh h; exact e h3
 case st => obtain ⟨_, _, _, _, h⟩ := jD h; exact e2 (ztE h)
 case nck => obtain ⟨_, _, _, h3⟩ := wh h; exact e h3
 case bin => obtain ⟨_, _, _, _, _, h3⟩ := v7 h; exact e h3
 case eqk => obtain ⟨_, _, _, _, _, h3⟩ := v7 h; exact e h3
 case un => obtain ⟨_, _, _, h3⟩ := wh h; exact e h3
 case ci => obtain ⟨_, _, _, h3⟩ := wh h; exact e h3
 case csb => obtain ⟨_, _, h⟩ := u5 h; exact zwh h
 case cbb => obtain ⟨_, _, h⟩ := u5 h; exact e2 (zwg h)
 case cbs => obtain ⟨_, _, _, h3⟩ := wh h; exact e h3
 case cis => obtain ⟨_, _, _, h3⟩ := wh h; exact e h3
 case mif => obtain ⟨_, _, _, h3⟩ := wh h; exact e h3
 case mfn => obtain ⟨_, _, _, _, _, h3⟩ := Gh h; exact e h3
 case msl => obtain ⟨_, _, _, _, h⟩ := jD h; exact yG (Jy h)
 case sls => obtain ⟨_, _, _, _, _, _, _, h3⟩ := Qp h; exact e h3
 case slv => obtain ⟨_, _, _, _, _, _, _, _, _, h3⟩ := Zz h; exact e h3
 case sla => obtain ⟨_, _, _, _, _, _, _, _, _, h3⟩ := Zz h; exact e h3
 case fa => obtain ⟨_, _, _, h3⟩ := wh h; exact e h3
 case ia => obtain ⟨_, _, _, _, _, h3⟩ := v7 h; exact e h3
 case iaa => obtain ⟨_, _, _, _, _, h3⟩ := v7 h; exact e h3
 case ixs => obtain ⟨_, _, _, _, _, h3⟩ := v7 h; exact e h3
 case rs => obtain ⟨_, _, h⟩ := u5 h; exact yG (HF h)
 case ns => obtain ⟨_, _, h⟩ := u5 h; exact e2 (ztD h)
 case ex => obtain ⟨_, _, _, h3⟩ := wh h; exact e h3
 case len => obtain ⟨_, _, _, h3⟩ := wh h; exact e h3
 case app => obtain ⟨_, _, _, _, h⟩ := jD h; exact zyI h
 case mn => obtain ⟨_, _, _, h3⟩ := zzn h; exact e h3
 case cup => obtain ⟨_, _, _, h3⟩ := wh h; exact e h3
 case cpu => obtain ⟨_, _, _, h3⟩ := wh h; exact e h3
 case usd => obtain ⟨_, _, _, h3⟩ := wh h; exact e h3
 case nes => obtain ⟨_, _, _, h3⟩ := wh h; exact e h3
 case ibs => obtain ⟨_, _, _, _, _, h3⟩ := v7 h; exact e h3
 case ust => obtain ⟨_, _, _, _, h⟩ := jD h; exact zwi h
structure Mono (S : Self) : Prop where
 call : ∀ f args s v s', S.call f args s = some (v, s') → s.next ≤ s'.next
 loop : ∀ rd b fr s res fr' s', S.loop rd b fr s = some (res, fr', s') → s.next ≤ s'.next
 round : ∀ l args s v s', S.round l args s = some (v, s') → s.next ≤ s'.next
theorem Jc (hS : Mono S) (h : ql E S op tm s = some (v, s')) : s.next ≤ s'.next := by
 rw [ux] at h; split at h
 ·unfold GX at h; split at h
  ·exact hS.call _ _ _ _ _ h
  ·cases h
 ·unfold Uv at h; split at h
  ·split at h
   ·exact hS.call _ _ _ _ _ h
   ·exact hS.round _ _ _ _ _ h
   ·cases h
  ·cases h
 ·exact ztO h
theorem Ua (hS : Mono S) {o : SOper} {tm' : Trie AV} (h : gg E S o tm s = some (tm', s')) : s.next ≤ s'.next := by
 unfold gg at h; split at h
 ·cases he : ql E S o.op tm s with
  | none => rw [he] at h; simp [stS] at h
  | some p => rw [he] at h; simp only [stS, zv, zw] at h; rw [← h.2]; exact Jc hS (v := p.1) (s' := p.2) he
 ·simp only [zv, zw] at h; rw [← h.2]; exact zp _
 ·cases h
theorem Vj {E : Env} {S : Self} (hS : Mono S) : ∀ {l : List SOper} {tm tm' : Trie AV} {s s' : St}, evS E S l tm s = some (tm', s') → s.next ≤ s'.next
 | [], tm, tm', s, s', h => by simp only [evS, zv, zw] at h; rw [← h.2]; exact zp _
 | o :: r, tm, tm', s, s', h => by
  simp only [evS] at h; split at h
  ·rename_i p hp
   exact zt (Ua hS (tm' := p.1) (s' := p.2) hp) (Vj hS h)
  ·cases h
theorem zzc (hS : Mono S) {o : DOper} {i : Nat} {log : List LogE} {p : List LogE × Trie AV × St} (h : ge E S o i log tm s = some p) : s.next ≤ p.2.2.next := by
 unfold ge at h; split at h
 ·cases he : ql E S o.o.op tm (vh o log tm s) with
  | none => rw [he] at h; simp [WZ] at h
  | some q =>
   rw [he] at h; simp only [WZ] at h; have := Jc hS (v := q.1) (s' := q.2) he; cases hb : uj o.deps (qg o.o.op tm) (wq q.2.wm s.next) log with
   | false => rw [hb] at h; simp at h
   | true => rw [hb] at h; simp only [cond_true, zv] at h; subst h; exact this
 ·simp only [zv] at h; subst h; exact zp _
 ·cases h
theorem GY {E : Env} {S : Self} (hS : Mono S) : ∀ {l : List DOper} {i : Nat} {log : List LogE} {tm tm' : Trie AV} {s s' : St}, evD E S l i log tm s = some (tm', s') → s.next ≤ s'.next
 | [], i, log, tm, tm', s, s', h => by simp only [evD, zv, zw] at h; rw [← h.2]; exact zp _
 | o :: r, i, log, tm, tm', s, s', h => by
  simp only [evD] at h; split at h
  ·rename_i p hp
   exact zt (zzc hS hp) (GY hS h)
  ·cases h
theorem gh {k : Fr → St → Option (Res × Fr × St)} {x : Option (Res × Fr × St)} {res : Res} {fr' : Fr} {s' : St} (hx : ∀ p, x = some p → n ≤ p.2.2.next) (hk : ∀ fr s res fr' s', k fr s = some (res, fr', s') → s.next ≤ s'.next) (h : vS k x = some (res, fr', s')) : n ≤ s'.next := by
 cases x with
 | none => simp [vS] at h
 | some p =>
  simp only [vS] at h; have := hx p rfl; split at h
  ·exact zt this (hk _ _ _ _ _ h)
  ·cases h; exact this
theorem qM {E : Env} {S : Self} (hS : Mono S) {rd : Option Nat} : ∀ {c : ICode} {fr fr' : Fr} {s s' : St} {res : Res}, evC E S rd c fr s = some (res, fr', s') → s.next ≤ s'.next
 | .skip, fr, fr', s, s', res, h => by simp only [evC] at h; cases h; exact zp _
 | .reg ops, fr, fr', s, s', res, h => by
  simp only [evC] at h; cases he : evS E S ops fr.tm s with
  | none => rw [he] at h; simp [vP] at h
  | some p => rw [he] at h; simp only [vP] at h; cases h; exact Vj hS (tm' := p.1) he
 | .regd ops, fr, fr', s, s', res, h => by
  simp only [evC, Xl] at h; split at h
  case h_2 => cases h
  cases he : evD E S ops 0 [] fr.tm s with
  | none => rw [he] at h; simp [vP] at h
  | some p => rw [he] at h; simp only [vP] at h; cases h; exact GY hS (tm' := p.1) he
 | .seq a b, fr, fr', s, s', res, h => by
  simp only [evC] at h; exact gh (fun p hp => qM hS (res := p.1) (fr' := p.2.1) hp) (fun fr s res fr' s' h => qM hS h) h
 | .cond c a b, fr, fr', s, s', res, h => by
  simp only [evC, ZH] at h; split at h
  ·exact qM hS h
  ·exact qM hS h
  ·cases h
 | .block id b, fr, fr', s, s', res, h => by
  simp only [evC] at h; cases he : evC E S rd b fr s with
  | none => rw [he] at h; simp [jt] at h
  | some p =>
   have := qM hS (res := p.1) (fr' := p.2.1) (s' := p.2.2) he; rw [he] at h; simp only [jt] at h; split at h
   ·rename_i i _
    cases hb : za i id with
    | true => rw [hb] at h; simp only [cond_true, zv, zw] at h; rw [h.2] at this; exact this
    | false => rw [hb] at h; simp only [cond_false] at h; cases h; exact this
   ·cases h; exact this
 | .loop b, fr, fr', s, s', res, h => by
  simp only [evC] at h; exact gh (fun p hp => qM hS (res := p.1) (fr' := p.2.1) hp) (fun fr s res fr' s' h => hS.loop _ _ _ _ _ _ _ h) h
 | .exit id, fr, fr', s, s', res, h => by simp only [evC] at h; cases h; exact zp _
 | .ret, fr, fr', s, s', res, h => by simp only [evC] at h; cases h; exact zp _
 | .rf g ps asg body, fr, fr', s, s', res, h => by
  simp only [evC, rfR] at h; split at h
  ·split at h
   ·rename_i f a c _
    cases he : S.call f (a ++ .yld (Nat.succ s.next) :: c) ((s.alloc .dfd).alloc (.loop .ready none fr.tm ps asg body s.next)) with
    | none => rw [he] at h; simp [gI] at h
    | some p =>
     have := hS.call _ _ _ p.1 p.2 he; rw [vZ, vZ] at this; rw [he] at h; simp only [gI] at h; split at h
     ·split at h
      ·cases h
      ·cases h; rw [pR]; omega
     ·cases h
   ·cases h
  ·cases h
 | .stk, fr, fr', s, s', res, h => by simp [evC] at h
 | .both t d a b, fr, fr', s, s', res, h => by
  simp only [evC] at h; obtain ⟨_, _, _, fA, sA, fB, sB, hx, _, hj⟩ := XC h; rw [Px hj]; have := qM hS hx; exact this
theorem p5 : ∀ {l : List Nat} {s s' : St}, w5 s l = some s' → s'.next = s.next
 | [], s, s', h => by simp only [w5, zv] at h; rw [h]
 | d :: r, s, s', h => by
  simp only [w5] at h; split at h
  ·rw [p5 h]; rfl
  ·cases h
theorem QI (hS : Mono S) {F : IFunc} {args : List AV} (h : pl E S F args s = some (v, s')) : s.next ≤ s'.next := by
 unfold pl at h; cases he : evC E S none F.body { tm := wN .leaf 0 args, df := [] } s with
 | none => rw [he] at h; simp [wR] at h
 | some p =>
  have := qM hS (res := p.1) (fr' := p.2.1) (s' := p.2.2) he; rw [he] at h; simp only [wR] at h; split at h
  ·cases h
  ·split at h
   ·rename_i s1 hm
    have := p5 hm; unfold Xm at h; split at h
    ·cases h; omega
    ·cases h
   ·cases h
theorem ztX {x : Option (AV × St)} (h : lQ s x = some (v, s')) :
  ∃ u t, x = some (u, t) ∧ ((wq t.wm s.next = 0 ∧ lH s.next u = some v ∧ s' = s) ∨ (v = agW u ∧ s' = { t with wm := zi s.wm t.wm, md := s.md })) := by
 cases x with
 | none => simp [lQ] at h
 | some p =>
  refine ⟨p.1, p.2, rfl, ?_⟩; simp only [lQ] at h; split at h
  ·rename_i u hu
   cases hb : za (wq p.2.wm s.next) 0 with
   | false => rw [hb] at hu; simp at hu
   | true =>
    rw [hb] at hu; simp only [cond_true] at hu; simp only [zv, zw] at h; obtain ⟨rfl, rfl⟩ := h; exact .inl ⟨xG.1 hb, hu, rfl⟩
  ·simp only [zv, zw] at h; exact .inr ⟨h.1.symm, h.2.symm⟩
theorem zqv {b : Bool} {x : Option (AV × St)} (h : mdR b x = some (v, s')) : ∃ t, x = some (v, t) ∧ s' = { t with md := b } := by
 cases x with
 | none => simp [mdR] at h
 | some p =>
  simp only [mdR, zv, zw] at h; obtain ⟨rfl, rfl⟩ := h; exact ⟨p.2, rfl, rfl⟩
theorem XE {f : Nat} {args : List AV} (h : jj E S f args s = some (v, s')) :
  ∃ F, E.funs.get f = some F ∧ args.length ≤ F.ntmps ∧ ((∃ u t, pl E S F args { s with wm := 0, md := true } = some (u, t) ∧ ((wq t.wm s.next = 0 ∧ lH s.next u = some v ∧ s' = s) ∨ (v = agW u ∧ s' = { t with wm := zi s.wm t.wm, md := s.md }))) ∨
   ∃ t, pl E S F args { s with md := false } = some (v, t) ∧ s' = { t with md := s.md }) := by
 unfold jj at h; split at h
 ·rename_i F hF
  cases hb : ze (wZ args) F.ntmps with
  | false => rw [hb] at h; simp at h
  | true =>
   rw [hb] at h; simp only [cond_true] at h; refine ⟨F, hF, by rw [← wV]; exact xN.1 hb, ?_⟩
   cases hp : E.pure f with
   | true => rw [hp] at h; simp only [cond_true] at h; exact .inl (ztX h)
   | false => rw [hp] at h; simp only [cond_false] at h; exact .inr (zqv h)
 ·cases h
theorem LE (hS : Mono S) {f : Nat} {args : List AV} (h : jj E S f args s = some (v, s')) : s.next ≤ s'.next := by
 obtain ⟨F, _, _, ⟨u, t, hb, ⟨_, _, rfl⟩ | ⟨rfl, rfl⟩⟩ | ⟨t, hb, rfl⟩⟩ := XE h
 ·exact zp _
 ·have h1 := QI hS hb; exact h1
 ·have h1 := QI hS hb; exact h1
theorem HU (hS : Mono S) {l : Nat} {args : List AV} (h : uN E S l args s = some (v, s')) : s.next ≤ s'.next := by
 unfold uN at h; split at h
 ·rename_i tm ps asg bd d _
  split at h
  ·rename_i tm1 _
   cases he : evC E S (some l) asg { tm := tm1, df := [] } s with
   | none => rw [he] at h; simp [vg] at h
   | some p =>
    have h1 := qM hS (res := p.1) (fr' := p.2.1) (s' := p.2.2) he; rw [he] at h; simp only [vg] at h; split at h
    ·split at h
     ·rename_i pend tm ps asg body d _
      cases he2 : evC E S (some l) bd p.2.1 (p.2.2.put l (.loop .busy pend tm ps asg body d)) with
      | none => rw [he2] at h; simp [uc] at h
      | some q =>
       have h2 := qM hS (res := q.1) (fr' := q.2.1) (s' := q.2.2) he2; rw [pR] at h2; rw [he2] at h; simp only [uc] at h; split at h
       ·split at h
        ·cases h; rw [pR]; omega
        ·cases h; rw [pR]; omega
       ·cases h
     ·cases h
    ·cases h
  ·cases h
 ·cases h
theorem qN {o' : AObj} (h : s.get id = some o) (hng : vB o = false := by rfl) : Ext s (s.put id o') := zzN s id o o' (xW h) (wX h) hng
theorem G0 (h : s.get id = some o) (hng : vB o = false := by rfl) : Ext s (s.del id) := KG s id (xW h) (wX h) hng
theorem kj (h : s.alloc o = s') : Ext s s' := h ▸ kv s o
theorem wM (h : s' = s) : Ext s s' := by rw [h]; exact Ext.refl s
theorem Ym {p : AV} {vs : List AV} (h : uQ s p vs = some s') : Ext s s' := by
 unfold uQ at h; split at h
 ·split at h
  ·rename_i t cs e fz hg
   cases hb : (fz || !xT vs) with
   | true => rw [hb] at h; simp at h
   | false =>
    rw [hb] at h; simp only [cond_false] at h; split at h
    ·cases h; exact qN hg
    ·cases h
  ·cases h
 ·cases h
theorem Vx {e need : Nat} {cs : List AV} (h : grow s e esz bytes cs need = some (v, s')) : Ext s s' := by
 unfold grow at h; cases hb : (ze (zb (zb 2 need) bytes) 281474976710656 && ze 1 esz && zd need 9223372036854775808) with
 | false => rw [hb] at h; simp at h
 | true => rw [hb] at h; simp only [cond_true, zv, zw] at h; exact kj h.2
theorem XV {e need : Nat} {cs : List AV} (h : hW s e esz bytes cs need = some (v, s')) : Ext s s' := by
 obtain ⟨_, _, _, _, _, rfl⟩ := XW h; exact kv _ _
theorem Gp {t : Nat} {x : AV} {new : List AV} (h : ZW s t esz bytes x n new = some (v, s')) : Ext s s' := by
 unfold ZW at h; split at h
 ·cases hm : (s.md && xK new) with
  | true => rw [hm] at h; simp only [cond_true] at h; exact XV h
  | false => rw [hm] at h; simp only [cond_false] at h; exact Vx h
 ·rename_i k ex cs
  cases ex with
  | false => simp at h
  | true =>
   simp only [cond_true] at h; split at h
   ·exact XV h
   ·cases h
 ·rename_i id esz' k cs
  split at h
  ·rename_i t0 cells hg
   cases hb : (za esz esz' && za t0 t && za (wZ cells) (wZ cs) && xT new) with
   | false => rw [hb] at h; simp at h
   | true => rw [hb] at h; simp only [cond_true] at h; exact (G0 hg).trans (XV h)
  ·cases h
 ·rename_i id off len c
  split at h
  ·rename_i t0 cs e fz hg
   split at h
   ·rename_i k
    cases hb : ze (zc len n) k with
    | true =>
     rw [hb] at h; simp only [cond_true] at h; split at h
     ·rename_i s1 hs
      cases h; exact Ym hs
     ·cases h
    | false =>
     rw [hb] at h; simp only [cond_false] at h; split at h
     ·exact Vx h
     ·cases h
   ·rename_i e'
    cases hb : (za esz e' && e && !fz) with
    | false => rw [hb] at h; simp at h
    | true =>
     rw [hb] at h; simp only [cond_true] at h; cases hb2 : ze (zc off (zb (zc len n) esz)) (wZ cs) with
     | true =>
      rw [hb2] at h; simp only [cond_true] at h; split at h
      ·rename_i s1 hs
       cases h; exact Ym hs
      ·cases h
     | false =>
      rw [hb2] at h; simp only [cond_false] at h; cases hb3 : (xT new && za t0 t) with
      | false => rw [hb3] at h; simp at h
      | true =>
       rw [hb3] at h; simp only [cond_true] at h; split at h
       ·exact (G0 hg).trans (Vx h)
       ·cases h
  ·cases h
 ·cases h
theorem zvs {t : Nat} {x y : AV} (h : jg s t esz bytes x y = some (v, s')) : Ext s s' := by
 unfold jg at h; split at h
 ·cases h
 ·exact wM (UM h)
 ·split at h
  ·cases h
  ·exact Gp h
theorem zo8 {t : Nat} {zs : List AV} {x y : AV} (h : UQ s t esz bytes zs x y = some (v, s')) : Ext s s' := by
 unfold UQ at h; split at h
 ·cases h
 ·rename_i n
  cases hb : (ze (zb (Nat.succ n) bytes) 281474976710656 && zd n 9223372036854775807) with
  | false => rw [hb] at h; simp at h
  | true => rw [hb] at h; simp only [cond_true] at h; exact Gp h
 ·cases h
theorem zqB {p w : AV} (h : oSt s n p w = some (v, s')) : Ext s s' := by
 unfold oSt at h; cases hb : za (wZ w.cells) n with
 | false => rw [hb] at h; simp at h
 | true =>
  rw [hb] at h; simp only [cond_true] at h; split at h
  ·rename_i s1 hs; cases h; exact Ym hs
  ·cases h
theorem ztA {x : AV} (h : PM s x = some (v, s')) : Ext s s' := by
 unfold PM at h; split at h
 ·split at h
  ·rename_i hg; cases h; exact qN hg
  ·cases h
 ·cases h
theorem zn6 {f : FK} {m k x : AV} (h : oMu s f m k x = some (v, s')) : Ext s s' := by
 unfold oMu at h; split at h
 ·split at h
  ·rename_i hg
   split at h
   ·cases h; exact qN hg
   ·cases h; exact qN hg
   ·cases h
  ·cases h
 ·cases h
theorem zn4 {f : FK} {m k : AV} (h : oMd s f m k = some (v, s')) : Ext s s' := by
 unfold oMd at h; split at h
 ·cases h; exact Ext.refl _
 ·split at h
  ·rename_i hg
   split at h
   ·cases h; exact qN hg
   ·cases h; exact qN hg
   ·cases h
  ·cases h
 ·cases h
theorem zn5 {f : FK} {z m k : AV} (h : oMe s f z m k = some (v, s')) : Ext s s' := by
 unfold oMe at h; split at h
 ·split at h
  ·rename_i hg
   split at h
   ·cases h; exact qN hg
   ·cases h; exact qN hg
   ·cases h
  ·cases h
 ·cases h
theorem zn3 {m t x : AV} (h : oEs s m t x = some (v, s')) : Ext s s' := by
 unfold oEs at h; split at h
 ·split at h
  ·split at h
   ·rename_i hg
    split at h
    ·cases h; exact qN hg
    ·cases h
   ·cases h
  ·cases h
 ·cases h
theorem zqz {x : AV} (h : oNs s x = some (v, s')) : Ext s s' := by
 unfold oNs at h; split at h
 ·split at h
  ·rename_i hg
   split at h
   ·cases h; exact qN hg
   ·cases h; exact Ext.refl _
  ·cases h
 ·cases h
theorem zwa {m since clock : Nat} {seen : List Nat} (hg : s.get id = some o) (hng : vB o = false := by rfl) : ∀ {l : List (AV × AV × Nat)}, pa s id m since seen clock l = some (v, s') → Ext s s'
 | [], h => by simp only [pa, zv, zw] at h; exact wM h.2.symm
 | [e], h => by
  simp only [pa] at h; cases hb : zd e.2.2 since with
  | false => rw [hb] at h; simp at h
  | true => rw [hb] at h; simp only [cond_true, zv, zw] at h; rw [← h.2]; exact qN hg hng
 | _ :: _ :: _, h => by simp [pa] at h
theorem zn7 {x : AV} (h : oNm s x = some (v, s')) : Ext s s' := by
 unfold oNm at h; split at h
 ·split at h
  ·cases h; exact Ext.refl _
  ·rename_i m since seen last hg
   split at h
   ·rename_i es clock _
    cases hb : Hc seen last es with
    | true => rw [hb] at h; simp at h
    | false => rw [hb] at h; simp only [cond_false] at h; exact zwa hg rfl h
   ·cases h
  ·cases h
 ·cases h
theorem ztz {e len : Nat} {x : Option (List AV)} (h : Xg s e len x = some (v, s')) : Ext s s' := by
 cases x with
 | none => simp [Xg] at h
 | some l =>
  simp only [Xg] at h; cases hb : (s.md && xK l) with
  | true => rw [hb] at h; simp only [cond_true, zv, zw] at h; exact wM h.2.symm
  | false => rw [hb] at h; simp only [cond_false, zv, zw] at h; exact kj h.2
theorem ztC {e b : Nat} {z : List AV} {l c : AV} (h : UD s e b z l c = some (v, s')) : Ext s s' := by
 unfold UD at h; split at h
 ·rename_i l
  split at h
  ·rename_i c
   cases hb : (ze l c && ze (zb c b) 281474976710656 && zd c 9223372036854775808) with
   | false => rw [hb] at h; simp at h
   | true => rw [hb] at h; simp only [cond_true, zv, zw] at h; exact kj h.2
  ·cases h
 ·cases h
theorem ztB {e : Nat} {x : AV} (h : UC s e x = some (v, s')) : Ext s s' := by
 unfold UC at h; split at h
 ·rename_i t
  cases hb : zd (wZ t) 9223372036854775808 with
  | false => rw [hb] at h; simp at h
  | true =>
   rw [hb] at h; simp only [cond_true] at h; cases hm : s.md with
   | true => rw [hm] at h; simp only [cond_true, zv, zw] at h; exact wM h.2.symm
   | false => rw [hm] at h; simp only [cond_false, zv, zw] at h; exact kj h.2
 ·cases h
theorem zqA {x : AV} (h : oRs s x = some (v, s')) : Ext s s' := by
 unfold oRs at h; split at h
 ·simp only [zv, zw] at h; exact kj h.2
 ·cases h
theorem zn8 {x : AV} (h : oRm s x = some (v, s')) : Ext s s' := by
 unfold oRm at h; split at h
 ·simp only [zv, zw] at h; exact kj h.2
 ·split at h
  ·simp only [zv, zw] at h; exact kj h.2
  ·cases h
 ·cases h
theorem ztF {e : Nat} {x n : AV} (h : PN s e x n = some (v, s')) : Ext s s' := by
 unfold PN at h; split at h
 ·split at h
  ·split at h
   ·simp only [zv, zw] at h; exact wM h.2.symm
   ·simp only [zv, zw] at h; exact wM h.2.symm
   ·cases h
  ·rename_i m
   split at h
   ·split at h
    ·rename_i t cs ext _ hg
     cases hb : (za t e && zd m 9223372036854775807) with
     | false => rw [hb] at h; simp at h
     | true =>
      rw [hb] at h; simp only [cond_true] at h; split at h
      ·simp only [zv, zw] at h; rw [← h.2]; exact qN hg
      ·cases h
    ·cases h
   ·cases h
 ·cases h
theorem zqD (h : opv E op tm s = some (v, s')) : Ext s s' := by
 cases op <;> simp only [opv] at h <;> try (cases h; done)
 case mv => obtain ⟨_, _, _, h3⟩ := wh h; exact wM h3
 case pick => exact wM (ub h).2
 case alloc => simp only [pS, zv, zw] at h; exact kj h.2
 case box => obtain ⟨_, _, h⟩ := u5 h; simp only [HE, zv, zw] at h; exact kj h.2
 case build => exact wM (ub h).2
 case bsl => exact ztz h
 case ld => obtain ⟨_, _, _, h3⟩ := wh h; exact wM h3
 case ldn => obtain ⟨_, _, _, h3⟩ := wh h; exact wM h3
 case st => obtain ⟨_, _, _, _, h⟩ := jD h; exact zqB h
 case nck => obtain ⟨_, _, _, h3⟩ := wh h; exact wM h3
 case bin => obtain ⟨_, _, _, _, _, h3⟩ := v7 h; exact wM h3
 case eqk => obtain ⟨_, _, _, _, _, h3⟩ := v7 h; exact wM h3
 case un => obtain ⟨_, _, _, h3⟩ := wh h; exact wM h3
 case ci => obtain ⟨_, _, _, h3⟩ := wh h; exact wM h3
 case csb => obtain ⟨_, _, h⟩ := u5 h; exact ztB h
 case cbb => obtain ⟨_, _, h⟩ := u5 h; exact ztA h
 case cbs => obtain ⟨_, _, _, h3⟩ := wh h; exact wM h3
 case cis => obtain ⟨_, _, _, h3⟩ := wh h; exact wM h3
 case mif => obtain ⟨_, _, _, h3⟩ := wh h; exact wM h3
 case mfn => obtain ⟨_, _, _, _, _, h3⟩ := Gh h; exact wM h3
 case msl => obtain ⟨_, _, _, _, h⟩ := jD h; exact ztC h
 case sls => obtain ⟨_, _, _, _, _, _, _, h3⟩ := Qp h; exact wM h3
 case slv => obtain ⟨_, _, _, _, _, _, _, _, _, h3⟩ := Zz h; exact wM h3
 case sla => obtain ⟨_, _, _, _, _, _, _, _, _, h3⟩ := Zz h; exact wM h3
 case fa => obtain ⟨_, _, _, h3⟩ := wh h; exact wM h3
 case ia => obtain ⟨_, _, _, _, _, h3⟩ := v7 h; exact wM h3
 case iaa => obtain ⟨_, _, _, _, _, h3⟩ := v7 h; exact wM h3
 case ixs => obtain ⟨_, _, _, _, _, h3⟩ := v7 h; exact wM h3
 case rs => obtain ⟨_, _, h⟩ := u5 h; exact zqA h
 case ns => obtain ⟨_, _, h⟩ := u5 h; exact zqz h
 case ex => obtain ⟨_, _, _, h3⟩ := wh h; exact wM h3
 case len => obtain ⟨_, _, _, h3⟩ := wh h; exact wM h3
 case app => obtain ⟨_, _, _, _, h⟩ := jD h; exact zvs h
 case mn => obtain ⟨_, _, _, h3⟩ := zzn h; exact wM h3
 case cup => obtain ⟨_, _, _, h3⟩ := wh h; exact wM h3
 case cpu => obtain ⟨_, _, _, h3⟩ := wh h; exact wM h3
 case usd => obtain ⟨_, _, _, h3⟩ := wh h; exact wM h3
 case nes => obtain ⟨_, _, _, h3⟩ := wh h; exact wM h3
 case ibs => obtain ⟨_, _, _, _, _, h3⟩ := v7 h; exact wM h3
 case ust => obtain ⟨_, _, _, _, h⟩ := jD h; exact ztF h
structure ExtS (S : Self) : Prop where
 call : ∀ f args s v s', S.call f args s = some (v, s') → Ext s s'
 loop : ∀ rd b fr s res fr' s', S.loop rd b fr s = some (res, fr', s') → Ext s s'
 round : ∀ l args s v s', S.round l args s = some (v, s') → Ext s s'
theorem kO (hS : ExtS S) (h : ql E S op tm s = some (v, s')) : Ext s s' := by
 rw [ux] at h; split at h
 ·unfold GX at h; split at h
  ·exact hS.call _ _ _ _ _ h
  ·cases h
 ·unfold Uv at h; split at h
  ·split at h
   ·exact hS.call _ _ _ _ _ h
   ·exact hS.round _ _ _ _ _ h
   ·cases h
  ·cases h
 ·exact zqD h
theorem zwM (hS : ExtS S) {o : SOper} {tm' : Trie AV} (h : gg E S o tm s = some (tm', s')) : Ext s s' := by
 unfold gg at h; split at h
 ·cases he : ql E S o.op tm s with
  | none => rw [he] at h; simp [stS] at h
  | some p => rw [he] at h; simp only [stS, zv, zw] at h; rw [← h.2]; exact kO hS (v := p.1) (s' := p.2) he
 ·simp only [zv, zw] at h; exact wM h.2.symm
 ·cases h
theorem zzM {E : Env} {S : Self} (hS : ExtS S) : ∀ {l : List SOper} {tm tm' : Trie AV} {s s' : St}, evS E S l tm s = some (tm', s') → Ext s s'
 | [], tm, tm', s, s', h => by simp only [evS, zv, zw] at h; exact wM h.2.symm
 | o :: r, tm, tm', s, s', h => by
  simp only [evS] at h; split at h
  ·rename_i p hp
   exact (zwM hS (tm' := p.1) (s' := p.2) hp).trans (zzM hS h)
  ·cases h
theorem pJ (deps : Nat) (h : List (Nat × Nat)) (id : Nat) : ∀ (log : List LogE), hid h id = true → hid (qv deps log h) id = true
 | [], hh => hh
 | e :: r, hh => by
  simp only [qv]; cases hb : (za e.lo e.hi || deps.testBit e.idx) with
  | true => simp only [cond_true]; exact pJ deps h id r hh
  | false =>
   simp only [cond_false, hid]; have := pJ deps h id r hh; cases ze e.lo id <;> cases zd id e.hi <;> simp [this]
theorem JJ {o : DOper} {log : List LogE} (hon : s.only = none) (h : seen (vh o log tm s) id = true) : seen s id = true := by
 unfold seen at h ⊢; rw [hon]; cases hh : hid s.hide id with
 | false => rfl
 | true =>
  have := pJ o.deps s.hide id log hh
  exfalso
  simp only [vh] at h; split at h
  ·rw [this] at h; cases h
  ·rw [this] at h; cases h
theorem Vc {o : DOper} {log : List LogE} {t : St} (hon : s.only = none) (hlog : ∀ e ∈ log, e.hi ≤ s.next) (h : Ext (vh o log tm s) t) : Ext s { t with hide := s.hide, only := s.only, wm := Nat.lor s.wm t.wm } := by
 refine ⟨h.next, fun i hi => ?_, rfl, rfl, fun id hid hw => ?_, h.vis, fun hwf => ⟨?_, fun p hp => zt (hwf.hd p hp) h.next⟩, fun id hid hw => ?_, fun id o' hid ho hgo hw => ?_⟩
 rotate_right
 ·have : (s.wm ||| t.wm).testBit id = true := hw
  rw [yv, zn] at this; rcases this with h1 | h1
  ·exact h1
  ·have := h.giv id o' hid ho hgo h1; simp [vh] at this
 ·show (s.wm ||| t.wm).testBit i = true
  rw [yv, hi]; rfl
 ·have : (s.wm ||| t.wm).testBit id = false := hw
  rw [yv, yo] at this; exact h.keep id hid this.2
 ·have hb : Wf (vh o log tm s) := ⟨hwf.lt, fun p hp => by
   have key : ∀ (l : List LogE), (∀ e ∈ l, e.hi ≤ s.next) → p ∈ qv o.deps l s.hide → p.2 ≤ s.next := by
    intro l
    induction l with
    | nil => intro _ hp; exact hwf.hd p hp
    | cons e r ih =>
     intro hl hp; simp only [qv] at hp; cases hb : (za e.lo e.hi || o.deps.testBit e.idx) with
     | true => rw [hb] at hp; simp only [cond_true] at hp; exact ih (fun e' he' => hl e' (by simp [he'])) hp
     | false =>
      rw [hb] at hp; simp only [cond_false, List.mem_cons] at hp; rcases hp with rfl | hp
      ·exact hl e (by simp)
      ·exact ih (fun e' he' => hl e' (by simp [he'])) hp
   exact key log hlog hp⟩
  exact (h.wf hb).lt
 ·have : (s.wm ||| t.wm).testBit id = true := hw
  rw [yv, zn] at this; rcases this with h1 | h1
  ·exact .inl h1
  ·rcases h.wv id hid h1 with h2 | h2
   ·simp [vh] at h2
   ·exact .inr (JJ hon h2)
theorem zwL (hS : ExtS S) {o : DOper} {i : Nat} {log : List LogE} {p : List LogE × Trie AV × St} (hon : s.only = none) (hlog : ∀ e ∈ log, e.hi ≤ s.next) (h : ge E S o i log tm s = some p) : Ext s p.2.2 ∧ ∀ e ∈ p.1, e.hi ≤ p.2.2.next := by
 unfold ge at h; split at h
 ·cases he : ql E S o.o.op tm (vh o log tm s) with
  | none => rw [he] at h; simp [WZ] at h
  | some q =>
   rw [he] at h; simp only [WZ] at h; have := Vc hon hlog (kO hS (v := q.1) (s' := q.2) he); cases hb : uj o.deps (qg o.o.op tm) (wq q.2.wm s.next) log with
   | false => rw [hb] at h; simp at h
   | true =>
    rw [hb] at h; simp only [cond_true, zv] at h; subst h; refine ⟨this, fun e he => ?_⟩; rcases List.mem_cons.1 he with rfl | he
    ·exact zp _
    ·exact zt (hlog e he) this.next
 ·simp only [zv] at h; subst h; exact ⟨Ext.refl s, hlog⟩
 ·cases h
theorem zzL {E : Env} {S : Self} (hS : ExtS S) : ∀ {l : List DOper} {i : Nat} {log : List LogE} {tm tm' : Trie AV} {s s' : St}, s.only = none → (∀ e ∈ log, e.hi ≤ s.next) → evD E S l i log tm s = some (tm', s') → Ext s s'
 | [], i, log, tm, tm', s, s', _, _, h => by simp only [evD, zv, zw] at h; exact wM h.2.symm
 | o :: r, i, log, tm, tm', s, s', hon, hlog, h => by
  simp only [evD] at h; split at h
  ·rename_i p hp
   obtain ⟨h1, h2⟩ := zwL hS hon hlog hp; exact h1.trans (zzL hS (h1.only.trans hon) h2 h)
  ·cases h
theorem JS {k : Fr → St → Option (Res × Fr × St)} {x : Option (Res × Fr × St)} {s : St} {res : Res} {fr' : Fr} {s' : St} (hx : ∀ p, x = some p → Ext s p.2.2) (hk : ∀ fr s res fr' s', k fr s = some (res, fr', s') → Ext s s') (h : vS k x = some (res, fr', s')) : Ext s s' := by
 cases x with
 | none => simp [vS] at h
 | some p =>
  simp only [vS] at h; have := hx p rfl; split at h
  ·exact this.trans (hk _ _ _ _ _ h)
  ·cases h; exact this
theorem uq {E : Env} {S : Self} (hS : ExtS S) {rd : Option Nat} : ∀ {c : ICode} {fr fr' : Fr} {s s' : St} {res : Res}, evC E S rd c fr s = some (res, fr', s') → Ext s s'
 | .skip, fr, fr', s, s', res, h => by simp only [evC] at h; cases h; exact Ext.refl _
 | .reg ops, fr, fr', s, s', res, h => by
  simp only [evC] at h; cases he : evS E S ops fr.tm s with
  | none => rw [he] at h; simp [vP] at h
  | some p => rw [he] at h; simp only [vP] at h; cases h; exact zzM hS (tm' := p.1) he
 | .regd ops, fr, fr', s, s', res, h => by
  simp only [evC, Xl] at h; split at h
  case h_2 => cases h
  rename_i hon
  cases he : evD E S ops 0 [] fr.tm s with
  | none => rw [he] at h; simp [vP] at h
  | some p => rw [he] at h; simp only [vP] at h; cases h; exact zzL hS hon (fun e he => by simp at he) (tm' := p.1) he
 | .seq a b, fr, fr', s, s', res, h => by
  simp only [evC] at h; exact JS (fun p hp => uq hS (res := p.1) (fr' := p.2.1) hp) (fun fr s res fr' s' h => uq hS h) h
 | .cond c a b, fr, fr', s, s', res, h => by
  simp only [evC, ZH] at h; split at h
  ·exact uq hS h
  ·exact uq hS h
  ·cases h
 | .block id b, fr, fr', s, s', res, h => by
  simp only [evC] at h; cases he : evC E S rd b fr s with
  | none => rw [he] at h; simp [jt] at h
  | some p =>
   have := uq hS (res := p.1) (fr' := p.2.1) (s' := p.2.2) he; rw [he] at h; simp only [jt] at h; split at h
   ·rename_i i _
    cases hb : za i id with
    | true => rw [hb] at h; simp only [cond_true, zv, zw] at h; rw [h.2] at this; exact this
    | false => rw [hb] at h; simp only [cond_false] at h; cases h; exact this
   ·cases h; exact this
 | .loop b, fr, fr', s, s', res, h => by
  simp only [evC] at h; exact JS (fun p hp => uq hS (res := p.1) (fr' := p.2.1) hp) (fun fr s res fr' s' h => hS.loop _ _ _ _ _ _ _ h) h
 | .exit id, fr, fr', s, s', res, h => by simp only [evC] at h; cases h; exact Ext.refl _
 | .ret, fr, fr', s, s', res, h => by simp only [evC] at h; cases h; exact Ext.refl _
 | .rf g ps asg body, fr, fr', s, s', res, h => by
  simp only [evC, rfR] at h; split at h
  ·split at h
   ·rename_i f a c _
    cases he : S.call f (a ++ .yld (Nat.succ s.next) :: c) ((s.alloc .dfd).alloc (.loop .ready none fr.tm ps asg body s.next)) with
    | none => rw [he] at h; simp [gI] at h
    | some p =>
     have := ((kv s .dfd).trans (kv (s.alloc .dfd) (.loop .ready none fr.tm ps asg body s.next))).trans (hS.call _ _ _ p.1 p.2 he)
     rw [he] at h; simp only [gI] at h; split at h
     ·rename_i hg
      split at h
      ·cases h
      ·cases h; exact this.trans (qN hg)
     ·cases h
   ·cases h
  ·cases h
 | .stk, fr, fr', s, s', res, h => by simp [evC] at h
 | .both t d a b, fr, fr', s, s', res, h => by
  simp only [evC] at h; obtain ⟨_, _, _, fA, sA, fB, sB, hx, hy, hj⟩ := XC h; have eA := uq hS hx; have eB := uq hS hy; exact (Hj hj eA eB).ext eA eB
theorem ZS : ∀ {l : List Nat} {s s' : St}, w5 s l = some s' → Ext s s'
 | [], s, s', h => by simp only [w5, zv] at h; exact wM h.symm
 | d :: r, s, s', h => by
  simp only [w5] at h; split at h
  ·rename_i hg; exact (qN hg).trans (ZS h)
  ·cases h
theorem UT (hS : ExtS S) {F : IFunc} {args : List AV} (h : pl E S F args s = some (v, s')) : Ext s s' := by
 unfold pl at h; cases he : evC E S none F.body { tm := wN .leaf 0 args, df := [] } s with
 | none => rw [he] at h; simp [wR] at h
 | some p =>
  have := uq hS (res := p.1) (fr' := p.2.1) (s' := p.2.2) he; rw [he] at h; simp only [wR] at h; split at h
  ·cases h
  ·split at h
   ·rename_i s1 hm
    have h2 := this.trans (ZS hm); unfold Xm at h; split at h
    ·cases h; exact h2
    ·cases h
   ·cases h
theorem Ext.sub {t : St} {b c : Bool} (h : Ext { s with wm := 0, md := b } t) : Ext s { t with wm := zi s.wm t.wm, md := c } where
 next := h.next
 wm := fun i hi => by show (s.wm ||| t.wm).testBit i = true; rw [yv, hi]; rfl
 hide := h.hide
 only := h.only
 keep := fun id hid hw => h.keep id hid (by
  have : (s.wm ||| t.wm).testBit id = false := hw
  rw [yv, yo] at this; exact this.2)
 vis := h.vis
 wf := fun hw => let w := h.wf ⟨hw.lt, hw.hd⟩; ⟨w.lt, w.hd⟩
 wv := fun id hid hw => by
  have : (s.wm ||| t.wm).testBit id = true := hw
  rw [yv, zn] at this; rcases this with h1 | h1
  ·exact .inl h1
  ·rcases h.wv id hid h1 with h2 | h2
   ·have h2' : (0 : Nat).testBit id = true := h2; simp at h2'
   ·exact .inr h2
 giv := fun id o hid ho hg hw => by
  have : (s.wm ||| t.wm).testBit id = true := hw
  rw [yv, zn] at this; rcases this with h1 | h1
  ·exact h1
  ·have h2' : (0 : Nat).testBit id = true := h.giv id o hid ho hg h1; simp at h2'
theorem Ext.remd {t : St} {b c : Bool} (h : Ext { s with md := b } t) : Ext s { t with md := c } :=
 ⟨h.next, h.wm, h.hide, h.only, h.keep, h.vis, fun hw => let w := h.wf ⟨hw.lt, hw.hd⟩; ⟨w.lt, w.hd⟩, h.wv, h.giv⟩
theorem zyR (hS : ExtS S) {f : Nat} {args : List AV} (h : jj E S f args s = some (v, s')) : Ext s s' := by
 obtain ⟨F, _, _, ⟨u, t, hb, ⟨_, _, rfl⟩ | ⟨rfl, rfl⟩⟩ | ⟨t, hb, rfl⟩⟩ := XE h
 ·exact Ext.refl s'
 ·exact (UT hS hb).sub
 ·exact (UT hS hb).remd
theorem P4 (hS : ExtS S) {l : Nat} {args : List AV} (h : uN E S l args s = some (v, s')) : Ext s s' := by
 unfold uN at h; split at h
 ·rename_i tm ps asg bd d _
  split at h
  ·rename_i tm1 _
   cases he : evC E S (some l) asg { tm := tm1, df := [] } s with
   | none => rw [he] at h; simp [vg] at h
   | some p =>
    have h1 := uq hS (res := p.1) (fr' := p.2.1) (s' := p.2.2) he; rw [he] at h; simp only [vg] at h; split at h
    ·split at h
     ·rename_i pend tm ps asg body d hg
      cases he2 : evC E S (some l) bd p.2.1 (p.2.2.put l (.loop .busy pend tm ps asg body d)) with
      | none => rw [he2] at h; simp [uc] at h
      | some q =>
       have h2 := (h1.trans (qN (o' := .loop .busy pend tm ps asg body d) hg)).trans (uq hS (res := q.1) (fr' := q.2.1) (s' := q.2.2) he2); rw [he2] at h; simp only [uc] at h; split at h
       ·rename_i hg2
        split at h
        ·cases h; exact h2.trans (qN hg2)
        ·cases h; exact h2.trans (qN hg2)
       ·cases h
     ·cases h
    ·cases h
  ·cases h
 ·cases h
structure Wide (F : Fence) : Prop where
 fn : ∀ f, F.fn f
 depth : F.depth = none
 alive : F.alive = false
def Fresh (φ : Phi) (s _s' : St) : Prop := ∀ id, s.next ≤ id → φ id = none
theorem Fresh.left {s1 : St} (h : Fresh φ s s') (_h1 : s1.next ≤ s'.next) : Fresh φ s s1 := h
theorem Fresh.right {φ1 : Phi} {s1 : St} (h : Fresh φ s s') (h0 : s.next ≤ s1.next) (hs : ∀ id, (id < s.next ∨ s1.next ≤ id) → φ1 id = φ id) : Fresh φ1 s1 s' :=
 fun id a => by rw [hs id (.inr a)]; exact h id oM
def Qw (P : Program) (w0 : World) (φ : Phi) (s : St) (w : World) (v : AV) (s' : St) (e : Ending) (w' : World) : Prop :=
 ∃ φ' x, e = .returned x ∧ Step P w0 φ s w φ' s' w' ∧ VR φ' v x
def Res.ex : Res → Exit
 | .norm => .normal
 | .exit id => .exit id
 | .ret => .ret
def DfRel (φ : Phi) : List Nat → List Deferred → Prop
 | [], ds => ds = []
 | d :: r, ds => ∃ B ds', φ d = some B ∧ ds = { target := .collected B.b, args := #[] } :: ds' ∧ DfRel φ r ds'
theorem DfRel.mono (h : Sub φ φ') : ∀ {l : List Nat} {ds : List Deferred}, DfRel φ l ds → DfRel φ' l ds
 | [], _, t => t
 | d :: r, _, t => by obtain ⟨B, ds', h1, h2, h3⟩ := t; exact ⟨B, ds', h _ _ h1, h2, h3.mono h⟩
structure FrRel (φ : Phi) (nt : Nat) (fr : Fr) (a : Act) : Prop where
 tm : TmRel φ fr.tm a.tmps
 size : a.tmps.size = nt
 df : DfRel φ fr.df a.defers
def We (P : Program) (w0 : World) (φ : Phi) (nt : Nat) (s : St) (w : World) (res : Res) (fr' : Fr) (s' : St) (e : Exit) (a' : Act) (w' : World) : Prop :=
 ∃ φ', e = res.ex ∧ Step P w0 φ s w φ' s' w' ∧ FrRel φ' nt fr' a'
def LoopIn (F : Fence) (n : Nat) (P : Program) (c : Code) (Q : Exit → Act → World → Prop) (a : Act) (w : World) : Prop :=
 ∀ (b : Frame) (k : List Item) (cs : List Frame), b.roundOf = F.round → F.fn b.fn → F.room (cs.length + 1 + n) →
  ∃ e a' w', Q e a' w' ∧ ArrivesIn (Machine.fenced P F) P (lone (b.atR a (.code c :: .inLoop c :: k)) cs w) b k cs e a' w'
theorem pP {F : Fence} {c : Code} {Q : Exit → Act → World → Prop} {a : Act} (h : c.wpIn F n P (Exit.then (LoopIn F n P c Q) Q) a w) : LoopIn F n P c Q a w := by
 intro b k cs hro hb hr; obtain ⟨e, a₁, w₁, hq, harr⟩ := h b (.inLoop c :: k) cs hro hb hr; cases e with
 | normal =>
  obtain ⟨e₂, a₂, w₂, hq₂, harr₂⟩ := hq b k cs hro hb hr; exact ⟨e₂, a₂, w₂, hq₂, .of_steps (StepsIn.trans harr (.one (fenced_calm hb hr rfl) stepR_inLoop)) harr₂⟩
 | exit id => exact ⟨_, a₁, w₁, hq, .pass (x := .inLoop c) rfl (fun _ _ => .inl (by simp)) harr⟩
 | goto l => exact ⟨_, a₁, w₁, hq, .pass (x := .inLoop c) rfl (fun _ _ => .inl (by simp)) harr⟩
 | ret => exact ⟨_, a₁, w₁, hq, .pass (x := .inLoop c) rfl (fun _ _ => .inl (by simp)) harr⟩
 | panic ch => exact ⟨_, a₁, w₁, hq, .pass (x := .inLoop c) rfl (fun _ _ => .inl (by simp)) harr⟩
 | outgrown => exact ⟨_, a₁, w₁, hq, .pass (x := .inLoop c) rfl (fun _ _ => .inl (by simp)) harr⟩
theorem Zc {F : Fence} {c : Code} {Q : Exit → Act → World → Prop} {a : Act} (h : LoopIn F n P c Q a w) : (Code.loop c).wpIn F n P Q a w := by
 intro b k cs hro hb hr; obtain ⟨e, a', w', hq, harr⟩ := h b k cs hro hb hr; exact ⟨e, a', w', hq, .of_steps (.one (fenced_calm hb hr rfl) stepR_loop) harr⟩
theorem LoopIn.mono {F : Fence} {c : Code} {Q Q' : Exit → Act → World → Prop} {a : Act} {w : World} (h : LoopIn F n P c Q a w) (hq : ∀ e a w, Q e a w → Q' e a w) : LoopIn F n P c Q' a w :=
 fun b k cs hro hb hr => let ⟨e, a', w', q, r⟩ := h b k cs hro hb hr; ⟨e, a', w', hq _ _ _ q, r⟩
structure SelfOk (P : Program) (w0 : World) (S : Self) : Prop where
 mono : Mono S
 ext : ExtS S
 call : ∀ {f args s v s'}, S.call f args s = some (v, s') → (∃ fn, P.funcs[f]? = some fn ∧ fn.body.isSome = true ∧ (fn.name == "runtime.NumGoroutine") = false) ∧
  ∀ {φ w xs}, Rel P w0 φ s.get w → Wf s → Fresh φ s s' → VRL φ args xs → ∀ F n, Wide F → CallsIn F n P f xs.toArray w (Qw P w0 φ s w v s')
 round : ∀ {l args s v s'}, S.round l args s = some (v, s') → ∀ {φ w xs B}, Rel P w0 φ s.get w → Wf s → Fresh φ s s' → VRL φ args xs → φ l = some B →
  ∃ L, w.heap[B.b]? = some (.loop L) ∧ xs.length = L.params.size ∧ ∀ F n, Wide F → RoundIn F n P B.b L.fn ((L.params.zip xs.toArray).foldl (fun t (p, v) => t.setIfInBounds p v) L.tmps) L.assign L.body w (Qw P w0 φ s w v s')
 loop : ∀ {rd b fr s res fr' s'}, S.loop rd b fr s = some (res, fr', s') → ∀ {nt c φ w a}, cC P nt c = some b → Rel P w0 φ s.get w → Wf s → Fresh φ s s' → FrRel φ nt fr a →
  ∀ F n, Wide F → (rd = none → F.round = none) → LoopIn F n P c (We P w0 φ nt s w res fr' s') a w
section
variable {P : Program} {w0 : World} {φ : Phi} {s s' : St} {w : World} {tm : Trie AV} {a : Act} {o : Oper} {v : AV} {E : Env} {S : Self}
theorem Yb {x : Option IOp} (h : WD x = some op) : x = some op ∧ X3 op = true := by
 cases x with
 | none => simp [WD] at h
 | some i =>
  simp only [WD] at h; cases hb : X3 i with
  | true => rw [hb] at h; simp at h; subst h; exact ⟨rfl, hb⟩
  | false => rw [hb] at h; simp at h
theorem zyQ {x : Op} {op : IOp} (h : cOp P x = some op) :
  (qy P x = some op ∧ X3 op = true) ∨ ∃ c, x = .call c ∧
   ((∃ f l, c.callee = .value (.func f) ∧ op = .call f l ∧ gt c.args.toList = some l) ∨ ∃ y y' l, c.callee = .value y ∧ op = .cv y' l ∧ qP y = some y' ∧ gt c.args.toList = some l) := by
 by_cases hx : ∃ c, x = .call c
 ·obtain ⟨c, rfl⟩ := hx; simp only [cOp, zpu] at h; split at h
  ·rename_i f hcal
   split at h
   ·cases h
   ·rename_i fn _
    cases hb : fn.body.isSome with
    | true =>
     rw [hb] at h; simp only [cond_true] at h; obtain ⟨y, hy, he⟩ := Option.map_eq_some_iff.1 h; exact .inr ⟨c, rfl, .inl ⟨f, y, hcal, he.symm, hy⟩⟩
    | false => rw [hb] at h; simp only [cond_false] at h; exact .inl (Yb h)
  ·rename_i y _ hcal
   split at h
   ·rename_i y' l q1 q2
    simp only [zv] at h; exact .inr ⟨c, rfl, .inr ⟨y, y', l, hcal, h.symm, q1, q2⟩⟩
   ·cases h
  ·exact .inl (Yb h)
 ·have : cOp P x = WD (qy P x) := by
   cases x <;> first | rfl | exact absurd ⟨_, rfl⟩ hx
  rw [this] at h; exact .inl (Yb h)
theorem zwb (hc : cOp P o.op = some op) : ∀ c, o.op ≠ .defer c := fun c h => by rw [h] at hc; simp [cOp, WD, qy] at hc
theorem lU {f : Nat} {fn : Func} {xs : Array Value} (h : P.funcs[f]? = some fn) (hb : fn.body.isSome = true) (hn : (fn.name == "runtime.NumGoroutine") = false) : (callFunc f xs).run P w = .ok (.enter f xs) w := by
 have hb' : fn.body.isNone = false := by cases hh : fn.body <;> simp [hh] at hb ⊢
 simp only [callFunc, Sem.run_bind, run_program, Result.andThen_ok, h, hn, hb', Bool.false_eq_true, if_false, Sem.run_pure]
theorem Hn (l : Array Operand) (f : Operand → Value) : (l.toList.map f).toArray = l.map f := by apply yj; simp
theorem Z3 (hS : SelfOk P w0 S) (hG : xV E.globs w0) (hc : cOp P o.op = some op) (h : ql E S op tm s = some (v, s'))
  (r : Rel P w0 φ s.get w) (hwf : Wf s) (hf : Fresh φ s s') (ht : TmOn φ (Opd.tmps op.opds) tm a) {F : Fence} (hF : Wide F) {next : Act → World → Prop} {Q : Exit → Act → World → Prop}
  (hn : ∀ φ' x w', Step P w0 φ s w φ' s' w' → VR φ' v x → next (a.put o.dst x) w') : o.wpIn F n P a w next Q := by
 have hvac : F.depth.isSome = true → 1 ≤ n := fun h => by rw [hF.depth] at h; cases h
 refine ⟨fun f _ => hF.fn f, ?_⟩; rw [Oper.semAt_eq _ _ _ (zwb hc)]; have hcall : ∀ {f args xs}, S.call f args s = some (v, s') → VRL φ args xs → (∀ fn, P.funcs[f]? = some fn → fn.body.isSome = true → (fn.name == "runtime.NumGoroutine") = false → (execOp a.eval o).run P w = .ok (.enter f xs.toArray) w) → o.uponIn F n P a next Q ((execOp a.eval o).run P w) := fun {f args xs} h1 h2 h3 => by
  obtain ⟨⟨fn, g1, g2, g3⟩, g4⟩ := hS.call h1; rw [h3 fn g1 g2 g3, Oper.uponIn_enter]; refine ⟨hvac, CallsIn.mono (g4 r hwf hf h2 F (n - 1) hF) ?_⟩
  rintro e w' ⟨φ', x, rfl, k2, k3⟩
  exact hn φ' x w' k2 k3
 rcases zyQ hc with ⟨hv, hnc⟩ | ⟨c, hop, ⟨f, l, hcal, rfl, hl⟩ | ⟨y, y', l, hcal, rfl, hy, hl⟩⟩
 ·have hv2 : opv E op tm s = some (v, s') := by
   rw [ux] at h; split at h
   ·simp [X3] at hnc
   ·simp [X3] at hnc
   ·exact h
  obtain ⟨φ', x, w', h1, h2, h3⟩ := zwl hG hv hv2 r hwf (fun hlt => hf _ (zp _)) ht; rcases h1 with h1 | ⟨h1, rfl⟩
  ·rw [h1, Oper.uponIn_value]; exact hn φ' x w' h2 h3
  ·rw [h1, Oper.uponIn_skip]; exact hn φ' _ w' h2 h3
 ·simp only [ux, GX] at h; split at h
  ·rename_i vs hvs
   refine hcall h (uD hl hvs (gi ht (by simp [IOp.opds]))) fun fn g1 g2 g3 => ?_
   rw [Hn]; unfold execOp; rw [hop]; simp [resolve, hcal, Act.eval, Deferred.ofValue, invoke, lU g1 g2 g3]
  ·cases h
 ·simp only [ux, Uv] at h; split at h
  ·rename_i vs hvs
   have hargs := uD (φ := φ) (a := a) hl hvs (gi ht (by simp [IOp.opds]; intro x hx; exact .inr hx))
   split at h
   ·rename_i f u k hfn
    have hfv := xD (φ := φ) (a := a) hy hfn (wJ ht (by simp [IOp.opds]))
    simp only [VR] at hfv; obtain ⟨xs, ys, e1, e2, e3⟩ := hfv; refine hcall h (VRL.append (VRL.append e2 hargs) e3) fun fn g1 g2 g3 => ?_; have : (xs ++ c.args.toList.map a.eval ++ ys).toArray = xs.toArray ++ c.args.map a.eval ++ ys.toArray := by apply yj; simp
    rw [this]; unfold execOp; rw [hop]; simp only [resolve, hcal, e1, Deferred.ofValue, invoke, Sem.run_bind, Sem.run_pure, Result.andThen_ok]; exact lU g1 g2 g3
   ·rename_i lid hfn
    have hfv := xD (φ := φ) (a := a) hy hfn (wJ ht (by simp [IOp.opds]))
    simp only [VR] at hfv; obtain ⟨B, hB, e1⟩ := hfv; obtain ⟨L, g1, g2, g3⟩ := hS.round h r hwf hf hargs hB; have hrun : (execOp a.eval o).run P w = .ok (.round B.b L.fn ((L.params.zip (c.args.map a.eval)).foldl (fun t (p, v) => t.setIfInBounds p v) L.tmps) L.assign L.body) w := by
     unfold execOp; rw [hop]; simp only [resolve, hcal, e1, Deferred.ofValue, invoke, Sem.run_bind, Sem.run_pure, Result.andThen_ok, Array.empty_append]; exact run_yield g1 (by rw [← g2]; simp)
    rw [hrun, Oper.uponIn_round]; refine ⟨hvac, ?_⟩; have := g3 F (n - 1) hF; rw [Hn] at this; refine RoundIn.mono this ?_
    rintro e w' ⟨φ', x, rfl, k2, k3⟩
    exact hn φ' x w' k2 k3
   ·cases h
  ·cases h
end
theorem Y7 (t : Array Value) (d i : Nat) (x : Value) (hd : d < t.size) : (t.setIfInBounds d x).getD i undef = if i = d then x else t.getD i undef := by
 simp only [yE, Array.getElem?_setIfInBounds]; by_cases h : d = i
 ·subst h; simp [hd]
 ·rw [if_neg h, if_neg (Ne.symm h)]
theorem TmRel.set {t : Array Value} (h : TmRel φ tm t) {d : Nat} (hd : d < t.size) {x : Value} (hv : VR φ v x) : TmRel φ (tm.set d v) (t.setIfInBounds d x) := by
 intro i u hu; rw [Trie.get_set] at hu; rw [Y7 _ _ _ _ hd]; by_cases e : i = d
 ·rw [if_pos e] at hu ⊢; cases hu; exact hv
 ·rw [if_neg e] at hu ⊢; exact h i u hu
theorem zpj {b : Bool} (h : VR φ v (.bool b)) : v = .bool b := by
 cases v <;> simp only [VR] at h <;> first
  | (cases h; rfl)
  | (obtain ⟨_, ⟨_, _, h⟩ | ⟨_, _, _, _, h, _⟩⟩ := h <;> (cases h; done))
  | (obtain ⟨_, _, _, _, _, _, _, h, _⟩ := h; cases h; done)
  | (obtain ⟨_, _, _, _, h, _⟩ := h; cases h; done)
  | (cases h; done)
  | (obtain ⟨_, h, _⟩ := h; cases h; done)
  | (obtain ⟨_, _, h⟩ := h; cases h; done)
  | (obtain ⟨_, _, _, h, _⟩ := h; cases h; done)
  | (obtain ⟨_, _, h, _⟩ := h; cases h; done)
section
variable {P : Program} {w0 : World} {φ : Phi} {s s' : St} {w : World} {tm tm' : Trie AV} {a : Act} {o : Oper} {v : AV} {E : Env} {S : Self}
def XX : Option (Nat × Bool) → List Nat
 | some (d, _) => [d]
 | none => []
theorem ztu (o : SOper) : o.names = Opd.tmps o.op.opds ++ XX o.guard := by
 unfold SOper.names XX; cases o.guard <;> rfl
theorem j2 {ops : Array Oper} {g : Option (Nat × Bool)} {b : Bool} (hg : QK ops o.guard = some g) (h : kg g tm = some b) (ht : TmOn φ (XX g) tm a) : Region.wanted o (yielded ops a.tmps) = b := by
 unfold Region.wanted; cases hog : o.guard with
 | none => rw [hog] at hg; simp [QK] at hg; subst hg; simp [kg] at h; simp [h]
 | some p =>
  obtain ⟨j, wt⟩ := p; rw [hog] at hg; simp only [QK] at hg; split at hg
  ·rename_i o' ho'
   split at hg
   ·rename_i d hd
    simp only [zv] at hg; subst hg; simp only [kg] at h; have hy : yielded ops a.tmps j = (match a.tmps[d]? with | some (.bool b) => some b | _ => none) := by unfold yielded; rw [ho']; simp only [Option.bind_some, hd]; rfl
    simp only [hy]; have hgd : a.tmps.getD d undef = (a.tmps[d]?).getD undef := by simp [yE]
    split at h
    ·rename_i b' hb'
     simp only [zv] at h; have := ht d (by simp [XX]) _ hb'
     simp only [VR] at this; rw [hgd] at this; cases ht2 : a.tmps[d]? with
     | none => rw [ht2] at this; simp [undef] at this
     | some x => rw [ht2] at this; simp at this; subst this; simp only; rw [← h]; cases b' <;> cases wt <;> rfl
    ·rename_i u hnb hu
     simp only [zv] at h; subst h; have := ht d (by simp [XX]) _ hu
     rw [hgd] at this; cases ht2 : a.tmps[d]? with
     | none => rfl
     | some x =>
      rw [ht2] at this; simp only [Option.getD_some] at this
      cases x <;> first
       | rfl
       | (exact absurd (zpj this) (fun e => hnb _ e))
    ·cases h
   ·cases hg
  ·cases hg
theorem J7 {nt : Nat} {ops : Array Oper} {so : SOper} (h : cS P nt ops o = some so) : QK ops o.guard = some so.guard ∧ so.op = zvP P o.op ∧ so.dst = o.dst ∧ ∀ d, o.dst = some d → d < nt := by
 unfold cS at h; split at h
 ·rename_i op g hop hg
  split at h
  ·rename_i d hd
   cases hb : zd d nt with
   | false => rw [hb] at h; simp at h
   | true => rw [hb] at h; simp only [cond_true, zv] at h; subst h; exact ⟨hg, rfl, hd.symm, fun d' h' => by rw [hd] at h'; cases h'; exact wb.1 hb⟩
  ·rename_i hd
   simp only [zv] at h; subst h; exact ⟨hg, rfl, hd.symm, fun d' h' => by rw [hd] at h'; cases h'⟩
 ·cases h
theorem XD {x : Op} {p : AV × St} (h : ql E S (zvP P x) tm s = some p) : ∃ op, cOp P x = some op ∧ zvP P x = op := by
 unfold zvP at h ⊢; cases hc : cOp P x with
 | none => rw [hc] at h; simp [ql, opv] at h
 | some op => exact ⟨op, rfl, by simp⟩
def zzt (φ' : Phi) (nt : Nat) (tm' : Trie AV) (a a' : Act) : Prop := TmRel φ' tm' a'.tmps ∧ a'.tmps.size = nt ∧ a'.defers = a.defers
theorem zt0 {nt : Nat} {dst : Option Nat} {x : Value} (ht : TmRel φ' tm a.tmps) (hsz : a.tmps.size = nt) (hd : ∀ d, dst = some d → d < nt) (hv : VR φ' v x) : zzt φ' nt (qH tm dst v) a (a.put dst x) := by
 cases dst with
 | none => exact ⟨ht, hsz, rfl⟩
 | some d => exact ⟨ht.set (by rw [hsz]; exact hd d rfl) hv, by simp [Act.put, hsz], rfl⟩
theorem Lc (hS : SelfOk P w0 S) (hG : xV E.globs w0) {nt : Nat} {ops : Array Oper} {so : SOper} (hc : cS P nt ops o = some so) (h : gg E S so tm s = some (tm', s'))
  (r : Rel P w0 φ s.get w) (hwf : Wf s) (hf : Fresh φ s s') (ht : TmRel φ tm a.tmps) (hsz : a.tmps.size = nt) {F : Fence} (hF : Wide F) {next : Act → World → Prop} {Q : Exit → Act → World → Prop}
  (hn : ∀ φ' a' w', Step P w0 φ s w φ' s' w' → zzt φ' nt tm' a a' → next a' w') :
  if Region.wanted o (yielded ops a.tmps) then o.wpIn F n P a w next Q else (∀ f, o.about P w a.eval = some f → F.fn f) ∧ next (a.put o.dst undef) w := by
 obtain ⟨hg, hop, hdst, hlt⟩ := J7 hc; unfold gg at h; split at h
 ·rename_i hw
  rw [j2 hg hw (TmOn.of ht), if_pos rfl]; cases he : ql E S so.op tm s with
  | none => rw [he] at h; simp [stS] at h
  | some p =>
   rw [he] at h; simp only [stS, zv, zw] at h; obtain ⟨h1, h2⟩ := h; rw [hop] at he; obtain ⟨op, hc1, hc2⟩ := XD he; rw [hc2] at he; subst h2; refine Z3 hS hG hc1 (v := p.1) (s' := p.2) he r hwf hf (TmOn.of ht) hF fun φ' x w' k1 k2 => hn φ' _ w' k1 ?_; rw [← h1, hdst]; exact zt0 (ht.mono (k1.sub hf)) hsz hlt k2
 ·rename_i hw
  rw [j2 hg hw (TmOn.of ht)]; simp only [Bool.false_eq_true, if_false]; simp only [zv, zw] at h; obtain ⟨h1, h2⟩ := h; subst h2; refine ⟨fun f _ => hF.fn f, hn φ _ w (Step.refl r) ?_⟩; rw [← h1, hdst]; exact zt0 ht hsz hlt (Wb φ)
 ·cases h
theorem Je (hS : SelfOk P w0 S) (hG : xV E.globs w0) {nt : Nat} {ops : Array Oper} {F : Fence} (hF : Wide F) {n : Nat} {Q : Exit → Act → World → Prop} :
  ∀ (rest : List Oper) (k : Nat) {l : List SOper} {tm tm' : Trie AV} {s s' : St} {φ : Phi} {w : World} {a : Act}, ops.toList.drop k = rest → cSs P nt ops rest = some l → evS E S l tm s = some (tm', s') → Rel P w0 φ s.get w → Wf s → Fresh φ s s' → TmRel φ tm a.tmps → a.tmps.size = nt →
  (∀ φ' a' w', Step P w0 φ s w φ' s' w' → zzt φ' nt tm' a a' → Q .normal a' w') → wpOpsIn F n P ops Q (List.range' k rest.length) a w
 | [], k, l, tm, tm', s, s', φ, w, a, hd, hc, h, r, hwf, hf, ht, hsz, hQ => by
  simp [cSs] at hc; subst hc; simp only [evS, zv, zw] at h; obtain ⟨rfl, rfl⟩ := h; simp only [List.length_nil, List.range'_zero, wpOpsIn]; exact hQ φ a w (Step.refl r) ⟨ht, hsz, rfl⟩
 | o :: rest, k, l, tm, tm', s, s', φ, w, a, hd, hc, h, r, hwf, hf, ht, hsz, hQ => by
  simp only [cSs] at hc; split at hc
  ·rename_i so l' hso hl'
   simp only [zv] at hc; subst hc; simp only [evS] at h; split at h
   ·rename_i p hp
    have hk : ops[k]? = some o := by rw [← Array.getElem?_toList]; have := congrArg (fun l => l[0]?) hd; simpa using this
    have hd' : ops.toList.drop (k + 1) = rest := by rw [← List.drop_drop, hd]; rfl
    simp only [List.length_cons, List.range'_succ, wpOpsIn, hk]; have hn1 := Ua hS.mono (tm' := p.1) (s' := p.2) hp; have hn2 := Vj hS.mono h; refine Lc hS hG hso (tm' := p.1) (s' := p.2) hp r hwf (hf.left hn2) ht hsz hF fun φ1 a1 w1 k1 k2 => ?_; refine Je hS hG hF rest (k + 1) hd' hl' h k1.rel (k1.ext.wf hwf) (hf.right hn1 k1.same) k2.1 k2.2.1 fun φ2 a2 w2 k3 k4 => ?_; exact hQ φ2 a2 w2 (Step.trans hwf k1 k3) ⟨k4.1, k4.2.1, k4.2.2.trans k2.2.2⟩
   ·cases h
  ·cases hc
end
open Go.RowKit (Below)
def zpG (P : Program) (w0 : World) : Prop :=
 ∀ {id nt t d e : Nat} {ops : Array Oper} {ds : List DOper} {s : St} {φ : Phi} {w : World} {a : Act} {F : Fence} {n : Nat} {Q : Exit → Act → World → Prop}, YF P nt ops = some ds → Zk ds = some (t, d, e) → s.only = none → (∀ i, i < s.next → s.wm.testBit i = false) → Rel P w0 φ s.get w → Wf s → Fresh φ s s → a.tmps.size = nt → Wide F →
  (∀ a' w1 v, a'.tmps.size = nt → a'.defers = a.defers → (∀ i, i ≠ t → i ≠ d → a'.tmps.getD i undef = a.tmps.getD i undef) → a'.tmps.getD d undef = .bool v → Below w.heap.size w w1 → Q .normal a' w1) → (Code.region id ops true).wpIn F n P Q a w
structure DrawOk (P : Program) (w0 : World) (E : Env) (S : Self) : Prop where
 ord : ∀ {id nt : Nat} {ops : Array Oper} {ds : List DOper} {tm tm' : Trie AV} {s s' : St} {φ : Phi} {w : World} {a : Act} {F : Fence} {n : Nat} {Q : Exit → Act → World → Prop}, YF P nt ops = some ds → s.only = none → evD E S ds 0 [] tm s = some (tm', s') → Rel P w0 φ s.get w → Wf s → Fresh φ s s' → TmRel φ tm a.tmps → a.tmps.size = nt → Wide F →
  (∀ φ' a' w', Step P w0 φ s w φ' s' w' → zzt φ' nt tm' a a' → Q .normal a' w') → (Code.region id ops true).wpIn F n P Q a w
 bool : zpG P w0
theorem kq {d : Option Nat} {i : Nat} (h : ∀ k, d = some k → i ≠ k) : (qH tm d v).get i = tm.get i := by
 cases d with
 | none => rfl
 | some k => exact Trie.get_set_ne _ _ (h k rfl)
theorem La {o : SOper} {tm' : Trie AV} (h : gg E S o tm s = some (tm', s')) {i : Nat} (hi : ∀ k, o.dst = some k → i ≠ k) : tm'.get i = tm.get i := by
 unfold gg at h; split at h
 ·cases he : ql E S o.op tm s with
  | none => rw [he] at h; simp [stS] at h
  | some p => rw [he] at h; simp only [stS, zv, zw] at h; rw [← h.1]; exact kq hi
 ·simp only [zv, zw] at h; rw [← h.1]; exact kq hi
 ·cases h
theorem Jd {E : Env} {S : Self} : ∀ {l : List SOper} {tm tm' : Trie AV} {s s' : St}, evS E S l tm s = some (tm', s') → ∀ i, i ∉ U2 l → tm'.get i = tm.get i
 | [], tm, tm', s, s', h, i, _ => by simp only [evS, zv, zw] at h; rw [h.1]
 | o :: r, tm, tm', s, s', h, i, hi => by
  simp only [evS] at h; split at h
  ·rename_i p hp
   have h1 : i ∉ U2 r ∧ ∀ k, o.dst = some k → i ≠ k := by
    simp only [U2] at hi; split at hi
    ·rename_i k hk
     refine ⟨fun hh => hi (yD _ hh), fun k' hk' => ?_⟩; rw [hk] at hk'; cases hk'; intro e; exact hi (by rw [e]; exact yF)
    ·rename_i hk
     exact ⟨hi, fun k' hk' => by rw [hk] at hk'; cases hk'⟩
   rw [Jd h i h1.1]; exact La (s' := p.2) (tm' := p.1) hp h1.2
  ·cases h
theorem H9 {o : DOper} {k : Nat} {log : List LogE} {p : List LogE × Trie AV × St} (h : ge E S o k log tm s = some p) {i : Nat} (hi : ∀ k, o.o.dst = some k → i ≠ k) : p.2.1.get i = tm.get i := by
 unfold ge at h; split at h
 ·cases he : ql E S o.o.op tm (vh o log tm s) with
  | none => rw [he] at h; simp [WZ] at h
  | some q =>
   rw [he] at h; unfold WZ at h; simp only at h
   ·cases hb : uj o.deps (qg o.o.op tm) (wq q.2.wm s.next) log with
    | false => rw [hb] at h; simp at h
    | true => rw [hb] at h; simp only [cond_true, zv] at h; rw [← h]; exact kq hi
 ·simp only [zv] at h; rw [← h]; exact kq hi
 ·cases h
theorem Jb {E : Env} {S : Self} : ∀ {l : List DOper} {k : Nat} {log : List LogE} {tm tm' : Trie AV} {s s' : St}, evD E S l k log tm s = some (tm', s') → ∀ i, i ∉ U1 l → tm'.get i = tm.get i
 | [], k, log, tm, tm', s, s', h, i, _ => by simp only [evD, zv, zw] at h; rw [h.1]
 | o :: r, k, log, tm, tm', s, s', h, i, hi => by
  simp only [evD] at h; split at h
  ·rename_i p hp
   have h1 : i ∉ U1 r ∧ ∀ k, o.o.dst = some k → i ≠ k := by
    simp only [U1] at hi; split at hi
    ·rename_i k hk
     refine ⟨fun hh => hi (yD _ hh), fun k' hk' => ?_⟩; rw [hk] at hk'; cases hk'; intro e; exact hi (by rw [e]; exact yF)
    ·rename_i hk
     exact ⟨hi, fun k' hk' => by rw [hk] at hk'; cases hk'⟩
   rw [Jb h i h1.1]; exact H9 hp h1.2
  ·cases h
theorem YZ {E : Env} {S : Self} {rd : Option Nat} : ∀ {c : ICode} {fr fr' : Fr} {s s' : St} {res : Res}, flat c = true → evC E S rd c fr s = some (res, fr', s') → fr'.df = fr.df ∧ ∀ i, i ∉ uo c → fr'.tm.get i = fr.tm.get i
 | .skip, fr, fr', s, s', res, _, h => by
  simp only [evC, zv, zw] at h; rw [h.2.1]; exact ⟨rfl, fun _ _ => rfl⟩
 | .reg ops, fr, fr', s, s', res, _, h => by
  simp only [evC] at h; cases he : evS E S ops fr.tm s with
  | none => rw [he] at h; simp [vP] at h
  | some p =>
   rw [he] at h; simp only [vP, zv, zw] at h; obtain ⟨_, rfl, _⟩ := h; exact ⟨rfl, fun i hi => Jd (tm' := p.1) (s' := p.2) he i hi⟩
 | .regd ops, fr, fr', s, s', res, _, h => by
  simp only [evC, Xl] at h; split at h
  case h_2 => cases h
  cases he : evD E S ops 0 [] fr.tm s with
  | none => rw [he] at h; simp [vP] at h
  | some p =>
   rw [he] at h; simp only [vP, zv, zw] at h; obtain ⟨_, rfl, _⟩ := h; exact ⟨rfl, fun i hi => Jb (tm' := p.1) (s' := p.2) he i hi⟩
 | .seq a b, fr, fr', s, s', res, hf, h => by
  simp only [flat, Bool.and_eq_true] at hf; simp only [evC] at h; cases he : evC E S rd a fr s with
  | none => rw [he] at h; simp [vS] at h
  | some p =>
   obtain ⟨res1, fr1, s1⟩ := p; rw [he] at h; obtain ⟨h1, h2⟩ := YZ hf.1 he; simp only [vS] at h; split at h
   ·obtain ⟨h3, h4⟩ := YZ hf.2 h; exact ⟨h3.trans h1, fun i hi => by
     simp only [uo, List.mem_append, not_or] at hi; rw [h4 i hi.2, h2 i hi.1]⟩
   ·simp only [zv, zw] at h; obtain ⟨_, rfl, _⟩ := h; exact ⟨h1, fun i hi => by
     simp only [uo, List.mem_append, not_or] at hi; exact h2 i hi.1⟩
 | .cond _ _ _, _, _, _, _, _, hf, _ => by simp [flat] at hf
 | .block _ _, _, _, _, _, _, hf, _ => by simp [flat] at hf
 | .loop _, _, _, _, _, _, hf, _ => by simp [flat] at hf
 | .exit _, _, _, _, _, _, hf, _ => by simp [flat] at hf
 | .ret, _, _, _, _, _, hf, _ => by simp [flat] at hf
 | .rf _ _ _ _, _, _, _, _, _, hf, _ => by simp [flat] at hf
 | .stk, _, _, _, _, _, hf, _ => by simp [flat] at hf
 | .both _ _ _ _, _, _, _, _, _, hf, _ => by simp [flat] at hf
theorem zsZ {nt : Nat} {c : Code} {l : List DOper} (h : cC P nt c = some (.regd l)) : ∃ id ops, c = .region id ops true ∧ YF P nt ops = some l := by
 cases c with
 | region id ops any =>
  cases any with
  | true =>
   simp only [cC] at h; obtain ⟨l', hl, he⟩ := Option.map_eq_some_iff.1 h; cases he; exact ⟨id, ops, rfl, hl⟩
  | false =>
   simp only [cC] at h; obtain ⟨l', hl, he⟩ := Option.map_eq_some_iff.1 h; cases he
 | seq a b =>
  simp only [cC] at h; split at h
  ·simp only [zv] at h; rcases pY h with h1 | ⟨_, _, _, _, _, _, _, _, _, _, _, h1⟩ <;> cases h1
  ·cases h
 | cond a b c =>
  simp only [cC] at h; split at h <;> cases h
 | block a b =>
  simp only [cC] at h; obtain ⟨l', hl, he⟩ := Option.map_eq_some_iff.1 h; cases he
 | loop b =>
  simp only [cC] at h; obtain ⟨l', hl, he⟩ := Option.map_eq_some_iff.1 h; cases he
 | rangeFunc a b c d =>
  simp only [cC] at h; split at h
  ·cases hq : b.all (zd · nt) with
   | true => rw [hq] at h; cases h
   | false => rw [hq] at h; cases h
  ·cases h
 | _ => simp [cC] at h
theorem Rel.below {G : Nat → Option AObj} (r : Rel P w0 φ G w) (hb : Below w.heap.size w w') : Rel P w0 φ G w' := by
 have hs := r.base.size; refine ⟨⟨hb.os.trans r.base.os, hb.tape.trans r.base.tape, hb.output.trans r.base.output, zt hs hb.size, fun k hk => (hb.block k oM).trans (r.base.block k hk)⟩, fun id o h => ?_, fun id B h => Nat.lt_of_lt_of_le (r.rng id B h) hb.size, r.old, r.inj, fun b o v hz => ?_, r.sep⟩
 ·obtain ⟨B, hB, t⟩ := r.obj id o h; exact ⟨B, hB, t.keep (Sub.refl _) (hb.block _ (r.rng id B hB))⟩
 ·obtain ⟨c, e, fr, h1, h2⟩ := r.frz b o v hz; exact ⟨c, e, fr, (hb.block b (r.zlt hz)).trans h1, h2⟩
theorem Step.below (r : Rel P w0 φ s.get w) (hb : Below w.heap.size w w') : Step P w0 φ s w φ s w' :=
 ⟨Ext.refl s, r.below hb, fun _ _ => rfl, hb.size, fun b hlt _ => hb.block b hlt, fun id _ h1 h2 => absurd h2 oM, fun _ _ _ h => h, fun _ _ _ h => .inl h⟩
section
variable {P : Program} {w0 : World} {E : Env} {S : Self}
theorem zt9 {F : Fence} {Q : Exit → Act → World → Prop} {a : Act} (r : Res) (h : Q r.ex a w) : r.code.wpIn F n P Q a w := by
 cases r with
 | norm => exact wpIn_skip h
 | exit id => exact wpIn_exit h
 | ret => exact wpIn_ret h
theorem pu {φ1 : Phi} {nt : Nat} {s1 s2 : St} {w1 : World} {res : Res} {fr' : Fr} {e : Exit} {a' : Act} (hwf : Wf s) (h1 : Step P w0 φ s w φ1 s1 w1) (h2 : We P w0 φ1 nt s1 w1 res fr' s2 e a' w') : We P w0 φ nt s w res fr' s2 e a' w' := by
 obtain ⟨φ', e1, k1, k2⟩ := h2; exact ⟨φ', e1, Step.trans hwf h1 k1, k2⟩
theorem Yo {nt : Nat} {s1 : St} {res1 res : Res} {fr1 fr' : Fr} {k : Fr → St → Option (Res × Fr × St)} {K : Act → World → Prop} (_hwf : Wf s) (hf : Fresh φ s s') (hs1 : s.next ≤ s1.next) (h : vS k (some (res1, fr1, s1)) = some (res, fr', s'))
  (hK : ∀ φ1 a1 w1, k fr1 s1 = some (res, fr', s') → Step P w0 φ s w φ1 s1 w1 → FrRel φ1 nt fr1 a1 → Fresh φ1 s1 s' → K a1 w1) :
  ∀ e a1 w1, We P w0 φ nt s w res1 fr1 s1 e a1 w1 → Exit.then K (We P w0 φ nt s w res fr' s') e a1 w1 := by
 rintro e a1 w1 ⟨φ1, rfl, k1, k2⟩
 simp only [vS] at h; cases res1 with
 | norm =>
  simp only at h; exact hK φ1 a1 w1 h k1 k2 (hf.right hs1 k1.same)
 | exit id => simp only [zv, zw] at h; obtain ⟨rfl, rfl, rfl⟩ := h; exact ⟨φ1, rfl, k1, k2⟩
 | ret => simp only [zv, zw] at h; obtain ⟨rfl, rfl, rfl⟩ := h; exact ⟨φ1, rfl, k1, k2⟩
theorem zpN {ps : Array Nat} {nt : Nat} (h : ps.all (Nat.blt · nt) = true) : ∀ q ∈ ps.toList, q < nt := by
 intro q hq; rw [← Array.all_toList, List.all_eq_true] at h; exact wb.1 (h q hq)
theorem zsa (hS : SelfOk P w0 S) {F : Fence} {nt : Nat} (hF : Wide F) {g : Operand} {g' : Opd} {ps : Array Tmp} {asg body : Code} {ia ib : ICode} {rd : Option Nat} {fr fr' : Fr} {res : Res} {a : Act}
  (hg : qP g = some g') (ha : cC P nt asg = some ia) (hb : cC P nt body = some ib) (hps : ps.all (zd · nt) = true) (h : rfR S rd (g'.ev fr.tm) ps.toList ia ib fr s = some (res, fr', s'))
  (r : Rel P w0 φ s.get w) (hwf : Wf s) (hf : Fresh φ s s') (hfr : FrRel φ nt fr a) (hrd : rd = none → F.round = none) : (Code.rangeFunc g ps asg body).wpIn F n P (We P w0 φ nt s w res fr' s') a w := by
 unfold rfR at h; split at h
 ·have hro := hrd rfl; split at h
  ·rename_i f u k hfn
   cases he : S.call f (u ++ .yld (Nat.succ s.next) :: k) ((s.alloc .dfd).alloc (.loop .ready none fr.tm ps.toList ia ib s.next)) with
   | none => rw [he] at h; simp [gI] at h
   | some p =>
    have hnx := hS.mono.call _ _ _ p.1 p.2 he; rw [vZ, vZ] at hnx; have hs' : p.2.next = s'.next := by
     rw [he] at h; simp only [gI] at h; split at h
     ·split at h
      ·cases h
      ·cases h; rfl
     ·cases h
    have hfv := xD (φ := φ) (a := a) hg hfn (TmOn.of hfr.tm); simp only [VR] at hfv; obtain ⟨xs, ys, e1, e2, e3⟩ := hfv; have hf1 : φ s.next = none := hf _ (zp _)
    have hf2 : φ (s.next + 1) = none := hf _ oM
    refine wpIn_rangeFunc fun fn _ => ?_; rw [hro]; obtain ⟨L, hL⟩ : ∃ L : Loop, L = { state := .ready, pending := none, fn := fn, tmps := a.tmps, params := ps, assign := asg, body := body, defers := w.heap.size } := ⟨_, rfl⟩; obtain ⟨W1, hW1⟩ : ∃ W1, W1 = w.alloc (.deferred (some [])) := ⟨_, rfl⟩; obtain ⟨W2, hW2⟩ : ∃ W2, W2 = W1.alloc (.loop L) := ⟨_, rfl⟩; have hsz1 : W1.heap.size = w.heap.size + 1 := by rw [hW1]; simp
    have st1 : Step P w0 φ s w (φ.set s.next ⟨w.heap.size, 0, 0⟩) (s.alloc .dfd) W1 := Step.alloc r hwf hf1 (by rw [hW1]; rfl) (by rw [hW1]; rfl) (by rw [hW1]; rfl) (by rw [hW1]; rfl) (by simp only [ObjRel]; rw [hW1]; exact World.alloc_heap_new _ _)
    have hf2' : (φ.set s.next ⟨w.heap.size, 0, 0⟩) (s.alloc .dfd).next = none := by
     exact (if_neg (by rw [vZ]; omega)).trans hf2
    have hsub1 := Phi.set_sub (B := ⟨w.heap.size, 0, 0⟩) hf1; have hsub2 := Phi.set_sub (B := ⟨W1.heap.size, 0, 0⟩) hf2'; have st2 : Step P w0 (φ.set s.next ⟨w.heap.size, 0, 0⟩) (s.alloc .dfd) W1 ((φ.set s.next ⟨w.heap.size, 0, 0⟩).set (s.alloc .dfd).next ⟨W1.heap.size, 0, 0⟩) ((s.alloc .dfd).alloc (.loop .ready none fr.tm ps.toList ia ib s.next)) W2 := by
     refine Step.alloc st1.rel (st1.ext.wf hwf) hf2' (by rw [hW2]; rfl) (by rw [hW2]; rfl) (by rw [hW2]; rfl) (by rw [hW2]; rfl) ⟨L, by rw [hW2]; exact World.alloc_heap_new _ _, ?_⟩
     rw [hL]; refine ⟨rfl, rfl, by simp, by simp only; rw [hfr.size]; exact ha, by simp only; rw [hfr.size]; exact hb, hfr.tm.mono (hsub1.trans hsub2), ⟨⟨w.heap.size, 0, 0⟩, hsub2 _ _ (by simp [Phi.set]), rfl⟩, ?_⟩
     intro q hq; simp only; rw [hfr.size]; exact zpN hps q hq
    have st := Step.trans hwf st1 st2; obtain ⟨⟨fd, g1, g2, g3⟩, g4⟩ := hS.call he; obtain ⟨φ2, hφ2⟩ : ∃ φ2, φ2 = (φ.set s.next ⟨w.heap.size, 0, 0⟩).set (s.alloc .dfd).next ⟨W1.heap.size, 0, 0⟩ := ⟨_, rfl⟩
    rw [← hφ2] at st; have hyl : φ2 (Nat.succ s.next) = some ⟨W1.heap.size, 0, 0⟩ := by rw [hφ2]; simp [Phi.set, vZ]
    have hdl : φ2 s.next = some ⟨w.heap.size, 0, 0⟩ := by rw [hφ2]; simp [Phi.set, vZ]
    have hfr2 : Fresh φ2 ((s.alloc .dfd).alloc (.loop .ready none fr.tm ps.toList ia ib s.next)) p.2 := hf.right (s1 := (s.alloc .dfd).alloc (.loop .ready none fr.tm ps.toList ia ib s.next)) (by rw [vZ, vZ]; omega) st.same
    have hsub : Sub φ φ2 := st.sub hf; have hargs : VRL φ2 (u ++ .yld (Nat.succ s.next) :: k) (xs ++ (.func (.yield W1.heap.size) #[] #[]) :: ys) := VRL.append (VRL.mono hsub _ _ e2) (VRL.cons (by simp only [VR]; exact ⟨_, hyl, rfl⟩) (VRL.mono hsub _ _ e3))
    refine ⟨W1.heap.size, [{ target := .collected w.heap.size, args := #[] }], W2, { target := .fn (.func f) ys.toArray, args := xs.toArray ++ #[.func (.yield W1.heap.size) #[] #[]] }, W2, f, (xs ++ (.func (.yield W1.heap.size) #[] #[]) :: ys).toArray, W2, ?_, ?_, fun f' _ => hF.fn f', ?_, fun h => (by rw [hF.depth] at h; cases h), ?_⟩
    ·rw [run_enterLoop_outer, hW2, hW1, hL]; simp
    ·simp only [resolve, e1, Deferred.ofValue, Sem.run_pure, List.map_toArray, List.map_cons, List.map_nil]; rfl
    ·simp only [invoke]; have : xs.toArray ++ #[.func (.yield W1.heap.size) #[] #[]] ++ ys.toArray = (xs ++ (.func (.yield W1.heap.size) #[] #[]) :: ys).toArray := by apply yj; simp
     rw [this]; exact lU g1 g2 g3
    ·refine CallsIn.mono (g4 st.rel (st.ext.wf hwf) hfr2 hargs F (n - 1) hF) ?_
     rintro e w3 ⟨φ3, x, rfl, k1, k2⟩
     rw [he] at h; simp only [gI] at h; split at h
     ·rename_i lst pend ltm lps lasg lbody ldd hgl
      have hsub3 := k1.sub hfr2; obtain ⟨B3, hB3, L3, hh3, hl3⟩ := k1.rel.obj _ _ hgl; rw [hsub3 _ _ hyl] at hB3; cases hB3; simp only at hh3; have hnb : L3.state ≠ .busy := by
       rw [hl3.state]; intro hbz; cases lst <;> simp [LSt.conc] at hbz
       simp at h
      have hend := run_endLoop (P := P) hh3 hnb; have hres : (res, fr', s') = (HN pend, { fr with df := s.next :: fr.df }, p.2.put (Nat.succ s.next) (.loop .exhausted pend ltm lps lasg lbody ldd)) := by
       cases lst <;> simp only [zv] at h <;> first | exact h.symm | (cases h; done)
      simp only [zw] at hres; obtain ⟨hr1, hr2, hr3⟩ := hres; subst hr1; subst hr2; subst hr3; have st3 : Step P w0 φ3 p.2 w3 φ3 (p.2.put (Nat.succ s.next) (.loop .exhausted pend ltm lps lasg lbody ldd)) (w3.putObj W1.heap.size (.loop { L3 with state := .exhausted })) :=
       Step.setObj k1.rel hgl (hsub3 _ _ hyl) hh3 (x' := .loop { L3 with state := .exhausted }) ⟨_, li hh3, ⟨rfl, hl3.pend, hl3.params, hl3.asg, hl3.body, hl3.tm, hl3.df, hl3.ps⟩⟩
      have stF := Step.trans hwf (Step.trans hwf st k1) st3; have hsubF : Sub φ φ3 := hsub.trans hsub3; have hfrF : FrRel φ3 nt { fr with df := s.next :: fr.df } { a with defers := [{ target := .collected w.heap.size, args := #[] }] ++ a.defers } :=
       ⟨hfr.tm.mono hsubF, hfr.size, ⟨⟨w.heap.size, 0, 0⟩, a.defers, hsub3 _ _ hdl, rfl, hfr.df.mono hsubF⟩⟩
      refine ⟨L3.pending, _, hend, ?_⟩; have hpend := hl3.pend; generalize L3.pending = q at hpend stF ⊢; subst hpend; cases pend with
      | none => exact ⟨φ3, rfl, stF, hfrF⟩
      | some r0 => exact zt9 r0 ⟨φ3, rfl, stF, hfrF⟩
     ·cases h
  ·cases h
 ·cases h
theorem ve (hS : SelfOk P w0 S) (hG : xV E.globs w0) (hD : DrawOk P w0 E S) {F : Fence} {n nt : Nat} (hF : Wide F) {rd : Option Nat} (hrd : rd = none → F.round = none) :
  ∀ (c : Code) {ic : ICode} {fr fr' : Fr} {s s' : St} {res : Res} {φ : Phi} {w : World} {a : Act}, cC P nt c = some ic → evC E S rd ic fr s = some (res, fr', s') → Rel P w0 φ s.get w → Wf s → Fresh φ s s' → FrRel φ nt fr a →
   c.wpIn F n P (We P w0 φ nt s w res fr' s') a w
 | .skip, ic, fr, fr', s, s', res, φ, w, a, hc, h, r, hwf, hf, hfr => by
  simp only [cC, zv] at hc; subst hc; simp only [evC, zv, zw] at h; obtain ⟨rfl, rfl, rfl⟩ := h; exact wpIn_skip ⟨φ, rfl, Step.refl r, hfr⟩
 | .exit id, ic, fr, fr', s, s', res, φ, w, a, hc, h, r, hwf, hf, hfr => by
  simp only [cC, zv] at hc; subst hc; simp only [evC, zv, zw] at h; obtain ⟨rfl, rfl, rfl⟩ := h; exact wpIn_exit ⟨φ, rfl, Step.refl r, hfr⟩
 | .ret, ic, fr, fr', s, s', res, φ, w, a, hc, h, r, hwf, hf, hfr => by
  simp only [cC, zv] at hc; subst hc; simp only [evC, zv, zw] at h; obtain ⟨rfl, rfl, rfl⟩ := h; exact wpIn_ret ⟨φ, rfl, Step.refl r, hfr⟩
 | .region id ops false, ic, fr, fr', s, s', res, φ, w, a, hc, h, r, hwf, hf, hfr => by
  simp only [cC] at hc; obtain ⟨l, hl, rfl⟩ := Option.map_eq_some_iff.1 hc; simp only [evC] at h; cases he : evS E S l fr.tm s with
  | none => rw [he] at h; simp [vP] at h
  | some p =>
   rw [he] at h; simp only [vP, zv, zw] at h; obtain ⟨rfl, rfl, rfl⟩ := h; refine wpIn_region ?_; rw [List.range_eq_range', ← Array.length_toList]; exact Je hS hG hF ops.toList 0 (by simp) hl (tm' := p.1) (s' := p.2) he r hwf hf hfr.tm hfr.size fun φ' a' w' k1 k2 =>
    ⟨φ', rfl, k1, ⟨k2.1, k2.2.1, by rw [k2.2.2]; exact hfr.df.mono (k1.sub hf)⟩⟩
 | .region id ops true, ic, fr, fr', s, s', res, φ, w, a, hc, h, r, hwf, hf, hfr => by
  simp only [cC] at hc; obtain ⟨l, hl, rfl⟩ := Option.map_eq_some_iff.1 hc; simp only [evC, Xl] at h; split at h
  case h_2 => cases h
  rename_i hon
  cases he : evD E S l 0 [] fr.tm s with
  | none => rw [he] at h; simp [vP] at h
  | some p =>
   rw [he] at h; simp only [vP, zv, zw] at h; obtain ⟨rfl, rfl, rfl⟩ := h; exact hD.ord hl hon (tm' := p.1) (s' := p.2) he r hwf hf hfr.tm hfr.size hF fun φ' a' w' k1 k2 =>
    ⟨φ', rfl, k1, ⟨k2.1, k2.2.1, by rw [k2.2.2]; exact hfr.df.mono (k1.sub hf)⟩⟩
 | .seq x y, ic, fr, fr', s, s', res, φ, w, a, hc, h, r, hwf, hf, hfr => by
  simp only [cC] at hc; split at hc
  ·rename_i ix iy hx hy
   simp only [zv] at hc; rcases pY hc with rfl | ⟨l, t, d, e, cx, cy, rfl, rfl, hp, hfx, hfy, rfl⟩
   case inr =>
    simp only [evC] at h; obtain ⟨hon, rfl, rfl, fA, sA, fB, sB, hA, hB, hj⟩ := XC h; have eA := uq hS.ext hA; have eB := uq hS.ext hB; have j := Hj hj eA eB; obtain ⟨id, ops, hxe, hl⟩ := zsZ hx; have hwf0 : Wf ({ s with wm := 0 } : St) := ⟨hwf.lt, hwf.hd⟩
    have hstart : ∀ (v : Bool) (a1 : Act), a1.tmps.size = nt → a1.defers = a.defers → (∀ i, i ≠ t → i ≠ d → a1.tmps.getD i undef = a.tmps.getD i undef) → a1.tmps.getD d undef = .bool v → FrRel φ nt { tm := (fr.tm.del t).set d (.bool v), df := fr.df } a1 := fun v a1 q1 q2 q3 q4 =>
     ⟨fun i u hu => by
      have hu' : ((fr.tm.del t).set d (.bool v)).get i = some u := hu; rw [Trie.get_set, Trie.get_del] at hu'; by_cases hid : i = d
      ·rw [if_pos hid] at hu'; cases hu'; rw [hid, q4]; simp only [VR]
      ·rw [if_neg hid] at hu'; by_cases hit : i = t
       ·rw [if_pos hit] at hu'; cases hu'
       ·rw [if_neg hit] at hu'; rw [q3 i hit hid]; exact hfr.tm i u hu', q1, by rw [q2]; exact hfr.df⟩
    have hend : ∀ {φ2 : Phi} {fX : Fr} {a2 : Act} {v : Bool} {cz : ICode}, FrRel φ2 nt fX a2 → fX.df = fr.df → (∀ i, i ∉ uo cz → fX.tm.get i = ((fr.tm.del t).set d (.bool v)).get i) → (∀ i, i ∈ uo cz → i ∈ uo cx ++ uo cy) → FrRel φ2 nt { tm := LO (t :: d :: (uo cx ++ uo cy)) fr.tm, df := fr.df } a2 := fun {φ2 fX a2 v cz} k2 q1 q2 q3 =>
     ⟨fun i u hu => by
      obtain ⟨h1, h2⟩ := GN hu; have hit : i ≠ t := fun e => h1 (by rw [e]; exact yF)
      have hid : i ≠ d := fun e => h1 (by rw [e]; exact yD _ yF)
      have hin : i ∉ uo cz := fun e => h1 (yD _ (yD _ (q3 i e))); refine k2.tm i u ?_; rw [q2 i hin, Trie.get_set, if_neg hid, Trie.get_del, if_neg hit]; exact h2, k2.size, by have := k2.df; rw [q1] at this; exact this⟩
    rw [hxe]; refine wpIn_seq (hD.bool hl hp (s := { s with wm := 0 }) hon (fun i _ => by simp) r hwf0 hf hfr.size hF fun a1 w1 v q1 q2 q3 q4 hb => ?_)
    have st0 : Step P w0 φ s w φ s w1 := Step.below r hb; have r1 : Rel P w0 φ ({ s with wm := 0 } : St).get w1 := st0.rel
    cases v with
    | true =>
     have hh : evC E S rd (.cond (.t d) cx cy) { tm := (fr.tm.del t).set d (.bool true), df := fr.df } { s with wm := 0 } = some (.norm, fA, sA) := by
      simp only [evC, ZH, Opd.ev, Trie.get_set_same]; exact hA
     refine wpIn_mono (ve hS hG hD hF hrd y hy hh r1 hwf0 hf (hstart true a1 q1 q2 q3 q4)) ?_
     rintro ex a2 w2 ⟨φ2, rfl, k1, k2⟩
     obtain ⟨f1, f2⟩ := YZ hfx hA; exact ⟨φ2, rfl, Step.trans hwf st0 (k1.join eB j), hend k2 f1 f2 fun i hi => List.mem_append_left _ hi⟩
    | false =>
     have hh : evC E S rd (.cond (.t d) cx cy) { tm := (fr.tm.del t).set d (.bool false), df := fr.df } { s with wm := 0 } = some (.norm, fB, sB) := by
      simp only [evC, ZH, Opd.ev, Trie.get_set_same]; exact hB
     refine wpIn_mono (ve hS hG hD hF hrd y hy hh r1 hwf0 hf (hstart false a1 q1 q2 q3 q4)) ?_
     rintro ex a2 w2 ⟨φ2, rfl, k1, k2⟩
     obtain ⟨f1, f2⟩ := YZ hfy hB; exact ⟨φ2, rfl, Step.trans hwf st0 (k1.join eA (j.symm hwf)), hend k2 f1 f2 fun i hi => List.mem_append_right _ hi⟩
   simp only [evC] at h; cases he : evC E S rd ix fr s with
   | none => rw [he] at h; simp [vS] at h
   | some p =>
    obtain ⟨res1, fr1, s1⟩ := p; rw [he] at h; have hn1 := qM hS.mono he; have hn2 : s1.next ≤ s'.next := gh (x := some (res1, fr1, s1)) (fun p hp => by cases hp; exact zp _) (fun _ _ _ _ _ h => qM hS.mono h) h
    refine wpIn_seq (wpIn_mono (ve hS hG hD hF hrd x hx he r hwf (hf.left hn2) hfr) (Yo hwf hf hn1 h fun φ1 a1 w1 hk k1 k2 k3 => ?_)); exact wpIn_mono (ve hS hG hD hF hrd y hy hk k1.rel (k1.ext.wf hwf) k3 k2) fun e a2 w2 q => pu hwf k1 q
  ·cases hc
 | .cond b x y, ic, fr, fr', s, s', res, φ, w, a, hc, h, r, hwf, hf, hfr => by
  simp only [cC] at hc; split at hc
  ·rename_i ib ix iy hb hx hy
   simp only [zv] at hc; subst hc; simp only [evC, ZH] at h; split at h
   ·rename_i hbv
    have := xD (φ := φ) (a := a) hb hbv (TmOn.of hfr.tm); simp only [VR] at this; exact wpIn_cond_true this (ve hS hG hD hF hrd x hx h r hwf hf hfr)
   ·rename_i hbv
    have := xD (φ := φ) (a := a) hb hbv (TmOn.of hfr.tm); simp only [VR] at this; exact wpIn_cond_false this (ve hS hG hD hF hrd y hy h r hwf hf hfr)
   ·cases h
  ·cases hc
 | .block id b, ic, fr, fr', s, s', res, φ, w, a, hc, h, r, hwf, hf, hfr => by
  simp only [cC] at hc; obtain ⟨ib, hb, rfl⟩ := Option.map_eq_some_iff.1 hc; simp only [evC] at h; cases he : evC E S rd ib fr s with
  | none => rw [he] at h; simp [jt] at h
  | some p =>
   obtain ⟨res1, fr1, s1⟩ := p; rw [he] at h; simp only [jt] at h; have hsame : s1 = s' ∧ fr1 = fr' ∧ (∀ i, res1 = .exit i → if i = id then res = .norm else res = .exit i) ∧ ((∀ i, res1 ≠ .exit i) → res = res1) := by
    cases res1 with
    | norm => simp only [zv, zw] at h; obtain ⟨rfl, rfl, rfl⟩ := h; exact ⟨rfl, rfl, (fun i hi => by cases hi), fun _ => rfl⟩
    | ret => simp only [zv, zw] at h; obtain ⟨rfl, rfl, rfl⟩ := h; exact ⟨rfl, rfl, (fun i hi => by cases hi), fun _ => rfl⟩
    | exit i =>
     simp only at h; cases hb2 : za i id with
     | true =>
      rw [hb2] at h; simp only [cond_true, zv, zw] at h; obtain ⟨rfl, rfl, rfl⟩ := h; refine ⟨rfl, rfl, fun j hj => ?_, fun hne => absurd rfl (hne i)⟩; cases hj; rw [if_pos (xG.1 hb2)]
     | false =>
      rw [hb2] at h; simp only [cond_false, zv, zw] at h; obtain ⟨rfl, rfl, rfl⟩ := h; refine ⟨rfl, rfl, fun j hj => ?_, fun _ => rfl⟩; cases hj; rw [if_neg (fun e => by rw [xG.2 e] at hb2; cases hb2)]
   obtain ⟨rfl, rfl, h1, h2⟩ := hsame; refine wpIn_block (wpIn_mono (ve hS hG hD hF hrd b hb he r hwf hf hfr) ?_)
   rintro e a1 w1 ⟨φ1, rfl, k1, k2⟩
   cases res1 with
   | norm => exact ⟨φ1, by rw [h2 (by intro i hi; cases hi)], k1, k2⟩
   | ret => exact ⟨φ1, by rw [h2 (by intro i hi; cases hi)], k1, k2⟩
   | exit i =>
    have := h1 i rfl; simp only [Res.ex, Exit.inBlock]; by_cases hii : i = id
    ·rw [if_pos hii] at this ⊢; exact ⟨φ1, by rw [this]; rfl, k1, k2⟩
    ·rw [if_neg hii] at this ⊢; exact ⟨φ1, by rw [this]; rfl, k1, k2⟩
 | .loop b, ic, fr, fr', s, s', res, φ, w, a, hc, h, r, hwf, hf, hfr => by
  simp only [cC] at hc; obtain ⟨ib, hb, rfl⟩ := Option.map_eq_some_iff.1 hc; simp only [evC] at h; cases he : evC E S rd ib fr s with
  | none => rw [he] at h; simp [vS] at h
  | some p =>
   obtain ⟨res1, fr1, s1⟩ := p; rw [he] at h; have hn1 := qM hS.mono he; have hn2 : s1.next ≤ s'.next := gh (x := some (res1, fr1, s1)) (fun p hp => by cases hp; exact zp _) (fun _ _ _ _ _ h => hS.mono.loop _ _ _ _ _ _ _ h) h
   refine Zc (pP (wpIn_mono (ve hS hG hD hF hrd b hb he r hwf (hf.left hn2) hfr) (Yo hwf hf hn1 h fun φ1 a1 w1 hk k1 k2 k3 => ?_))); exact LoopIn.mono (hS.loop hk hb k1.rel (k1.ext.wf hwf) k3 k2 F n hF hrd) fun e a2 w2 q => pu hwf k1 q
 | .rangeFunc g ps x y, ic, fr, fr', s, s', res, φ, w, a, hc, h, r, hwf, hf, hfr => by
  simp only [cC] at hc; split at hc
  ·rename_i g' ia ib hg ha hb
   cases hps : ps.all (zd · nt) with
   | false => rw [hps] at hc; simp at hc
   | true =>
    rw [hps] at hc; simp only [cond_true, zv] at hc; subst hc; simp only [evC] at h; exact zsa hS hF hg ha hb hps h r hwf hf hfr hrd
  ·cases hc
 | .scope b, ic, fr, fr', s, s', res, φ, w, a, hc, h, r, hwf, hf, hfr => by simp only [cC, zv] at hc; subst hc; simp [evC] at h
 | .label l, ic, fr, fr', s, s', res, φ, w, a, hc, h, r, hwf, hf, hfr => by simp only [cC, zv] at hc; subst hc; simp [evC] at h
 | .goto l, ic, fr, fr', s, s', res, φ, w, a, hc, h, r, hwf, hf, hfr => by simp only [cC, zv] at hc; subst hc; simp [evC] at h
 | .refuse l, ic, fr, fr', s, s', res, φ, w, a, hc, h, r, hwf, hf, hfr => by simp only [cC, zv] at hc; subst hc; simp [evC] at h
end
def gm (P : Program) (E : Env) : Prop := ∀ f F, E.funs.get f = some F → ∃ fn, P.funcs[f]? = some fn ∧ zzx P fn = some F
theorem WN : ∀ (l : List AV) (tm : Trie AV) (i j : Nat) (v : AV), (wN tm i l).get j = some v → (i ≤ j ∧ l[j - i]? = some v) ∨ (tm.get j = some v ∧ (j < i ∨ i + l.length ≤ j))
 | [], tm, i, j, v, h => by simp only [wN] at h; exact .inr ⟨h, by simp; omega⟩
 | u :: r, tm, i, j, v, h => by
  simp only [wN] at h; rcases WN r _ _ j v h with ⟨h1, h2⟩ | ⟨h1, h2⟩
  ·left
   have h1' : i + 1 ≤ j := h1; refine ⟨oM, ?_⟩; have : j - i = (j - (i + 1)) + 1 := oM; rw [this, List.getElem?_cons_succ]; exact h2
  ·rw [Trie.get_set] at h1; by_cases e : j = i
   ·rw [if_pos e] at h1; cases h1; left; subst e; exact ⟨zp _, by simp⟩
   ·rw [if_neg e] at h1; have h2' : j < i + 1 ∨ i + 1 + r.length ≤ j := h2
    right; exact ⟨h1, by simp; omega⟩
theorem WO {args : List AV} {xs : List Value} (h : VRL φ args xs) (k : Nat) : TmRel φ (wN .leaf 0 args) (xs.toArray ++ Array.replicate k undef) := by
 intro j v hv; rcases WN args .leaf 0 j v hv with ⟨_, h1⟩ | ⟨h1, _⟩
 ·obtain ⟨y, hy, hvr⟩ := h.get h1; simp only [Nat.sub_zero] at hy; have hlt : j < xs.length := by
   by_cases hl : j < xs.length
   ·exact hl
   ·rw [List.getElem?_eq_none oM] at hy; cases hy
  have : (xs.toArray ++ yH k undef).getD j undef = y := by
   rw [yE, Array.getElem?_append_left (by simpa using hlt)]
   simp [hy]
  rw [this]; exact hvr
 ·simp [Trie.get] at h1
section
variable {P : Program} {w0 : World} {E : Env} {S : Self}
theorem lT (hG : xV E.globs w0) {φ : Phi} {s : St} {w : World} (r : Rel P w0 φ s.get w) {tm : Trie AV} {tmps : Array Value} (ht : TmRel φ tm tmps) {f : ResultVar → Sem Value} (f1 : ∀ t, f (.tmp t) = pure (tmps.getD t undef)) (f2 : ∀ a t ad, tmps.getD a undef = .pointer (some ad) → f (.cell a t) = loadVar t ad) :
  ∀ {rs : List ResultVar} {l : List RV} {vs : List AV}, J6 P rs = some l → gb E.globs tm s l = some vs → ∃ ys, (rs.mapM f).run P w = .ok ys w ∧ VRL φ vs ys
 | [], l, vs, hc, h => by simp [J6] at hc; subst hc; simp [gb] at h; subst h; exact ⟨[], by simp, VRL.nil φ⟩
 | .tmp t :: rs, l, vs, hc, h => by
  simp only [J6] at hc; obtain ⟨l', hl', rfl⟩ := Option.map_eq_some_iff.1 hc; simp only [gb] at h; split at h
  ·rename_i v vs' h1 h2
   simp only [zv] at h; subst h; obtain ⟨ys, k1, k2⟩ := lT hG r ht f1 f2 hl' h2; exact ⟨tmps.getD t undef :: ys, by simp only [yI, f1, Sem.run_bind, Sem.run_pure, Result.andThen_ok, k1], VRL.cons (ht t v h1) k2⟩
  ·cases h
 | .cell a t :: rs, l, vs, hc, h => by
  simp only [J6] at hc; split at hc
  ·rename_i n l' q1 q2 q3
   simp only [zv] at hc; subst hc; simp only [gb] at h; split at h
   ·rename_i v vs' h1 h2
    simp only [zv] at h; subst h; obtain ⟨ys, k1, k2⟩ := lT hG r ht f1 f2 q3 h2; split at h1
    ·rename_i p hp
     split at h1
     ·rename_i cs hcs
      simp only [zv] at h1; subst h1; obtain ⟨z, z1, z2⟩ := zyv (P := P) (t := t) r hG q1 q2 (p := p) (v := .agg cs) (by simp only [Ys, hcs]) (ht a p hp)
      obtain ⟨ad, xs, e1, e2, e3, e4⟩ := vC r hG hcs (ht a p hp); have hz : (loadVar t ad).run P w = .ok z w := by simpa [Instr.loadAt, Instr.sureAddr, e1] using z1
      exact ⟨z :: ys, by simp only [yI, f2 a t ad e1, Sem.run_bind, Sem.run_pure, Result.andThen_ok, hz, k1], VRL.cons z2 k2⟩
     ·cases h1
    ·cases h1
   ·cases h
  ·rename_i l' q1 q3
   simp only [zv] at hc; subst hc; simp only [gb] at h; split at h
   ·rename_i v vs' h1 h2
    simp only [zv] at h; subst h; obtain ⟨ys, k1, k2⟩ := lT hG r ht f1 f2 q3 h2; split at h1
    ·rename_i p hp
     split at h1
     ·rename_i v0 tl hcs
      simp only [zv] at h1; subst h1; obtain ⟨z, z1, z2⟩ := zsf (P := P) (t := t) r hG q1 (p := p) (v := v0) (by simp only [vLd, hcs, hY]) (ht a p hp)
      obtain ⟨ad, xs, e1, e2, e3, e4⟩ := vC r hG hcs (ht a p hp); have hz : (loadVar t ad).run P w = .ok z w := by simpa [Instr.loadAt, Instr.sureAddr, e1] using z1
      exact ⟨z :: ys, by simp only [yI, f2 a t ad e1, Sem.run_bind, Sem.run_pure, Result.andThen_ok, hz, k1], VRL.cons z2 k2⟩
     ·cases h1
    ·cases h1
   ·cases h
  ·cases hc
theorem ZQ (hG : xV E.globs w0) (r : Rel P w0 φ s.get w) {tmps : Array Value} (ht : TmRel φ tm tmps) {fn : Func} {l : List RV} (hc : J6 P fn.results.toList = some l) (h : Xm E.globs tm s l = some (v, s')) :
  s' = s ∧ ∃ x, (results fn tmps).run P w = .ok x w ∧ VR φ v x := by
 unfold Xm at h; split at h
 ·rename_i vs hvs
  simp only [zv, zw] at h; obtain ⟨rfl, rfl⟩ := h; refine ⟨rfl, ?_⟩; have key : ∀ f : ResultVar → Sem Value, (∀ t, f (.tmp t) = pure (tmps.getD t undef)) → (∀ a t ad, tmps.getD a undef = .pointer (some ad) → f (.cell a t) = loadVar t ad) → ∃ x, (do let vs ← fn.results.mapM f; pure (if h : vs.size = 1 then vs[0] else .tuple vs) : Sem Value).run P w = .ok x w ∧ VR φ (vQ vs) x := fun f f1 f2 => by
   obtain ⟨ys, k1, k2⟩ := lT hG r ht f1 f2 hc hvs; refine ⟨if h : ys.toArray.size = 1 then ys.toArray[0] else .tuple ys.toArray, ?_, ?_⟩
   ·rw [Sem.run_bind, Array.mapM_eq_mapM_toList, Sem.run_map, k1]; rfl
   ·cases vs with
    | nil =>
     simp only [VRL] at k2; subst k2; simp only [vQ, VR]; exact ⟨[], rfl, VRL.nil φ⟩
    | cons v0 vs =>
     simp only [VRL] at k2; obtain ⟨y, ys', rfl, k3, k4⟩ := k2; cases vs with
     | nil => simp only [VRL] at k4; subst k4; exact k3
     | cons v1 vs' =>
      simp only [VRL] at k4; obtain ⟨y1, ys1, rfl, k5, k6⟩ := k4; simp only [vQ]; rw [dif_neg (by simp)]
      simp only [VR]; exact ⟨_, rfl, VRL.cons k3 (VRL.cons k5 k6)⟩
  unfold results; refine key _ ?_ ?_
  ·intro t; rfl
  ·intro a t ad h; simp only [h]; rfl
 ·cases h
theorem pQ {F : Fence} {n : Nat} {fn : Func} {tmps : Array Value} {R : Ending → World → Prop} : ∀ {df : List Nat} {ds : List Deferred} {φ : Phi} {s s' : St} {w : World}, w5 s df = some s' → DfRel φ df ds → Rel P w0 φ s.get w → Wf s →
  (∀ w', Step P w0 φ s w φ s' w' → LeavesIn F n P fn tmps R [] .returning w') → LeavesInM F n P fn tmps R ds .returning w
 | [], ds, φ, s, s', w, h, hd, r, hwf, hk => by
  simp only [DfRel] at hd; subst hd; simp only [w5, zv] at h; subst h; exact hk w (Step.refl r)
 | d :: df, ds, φ, s, s', w, h, hd, r, hwf, hk => by
  obtain ⟨B, ds', hB, rfl, hd'⟩ := hd; simp only [w5] at h; split at h
  ·rename_i hg
   obtain ⟨B', hB', hh⟩ := r.obj d _ hg; rw [hB] at hB'; cases hB'; have st : Step P w0 φ s w φ (s.put d .dfd0) (w.putObj B.b (.deferred none)) := Step.setObj r hg hB hh (x' := .deferred none) (li hh); refine ⟨by simp, .inl ⟨B.b, _, rfl, run_takeDeferred hh, ?_⟩⟩
   exact pQ h hd' st.rel (st.ext.wf hwf) fun w' k => hk w' (Step.trans hwf st k)
  ·cases h
theorem Wj (hS : SelfOk P w0 S) (hG : xV E.globs w0) (hD : DrawOk P w0 E S) {f : Nat} {fn : Func} {c : Code} {ib : ICode} {rs : List RV} {args : List AV} (hfn : P.funcs[f]? = some fn) (hbody : fn.body = some c) (hb : cC P fn.ntmps c = some ib) (hrs : J6 P fn.results.toList = some rs)
  (hle0 : args.length ≤ fn.ntmps) (h : pl E S ⟨fn.ntmps, rs, ib⟩ args s = some (v, s')) {xs : List Value} (r : Rel P w0 φ s.get w) (hwf : Wf s) (hf : Fresh φ s s') (hargs : VRL φ args xs) {F : Fence} (hF : Wide F) :
  CallsIn F n P f xs.toArray w (Qw P w0 φ s w v s') := by
 have hle : xs.length ≤ fn.ntmps := by rw [← VRL.length hargs]; exact hle0
 unfold pl at h; simp only at h; cases he : evC E S none ib { tm := wN .leaf 0 args, df := [] } s with
 | none => rw [he] at h; simp [wR] at h
 | some p =>
  obtain ⟨res, fr', s1⟩ := p; rw [he] at h; simp only [wR] at h; have hres : ∃ s2, w5 s1 fr'.df = some s2 ∧ Xm E.globs fr'.tm s2 rs = some (v, s') ∧ (res = .norm ∨ res = .ret) := by
   cases res with
   | exit i => simp at h
   | norm =>
    simp only at h; split at h
    ·rename_i s2 hs2; exact ⟨s2, hs2, h, .inl rfl⟩
    ·cases h
   | ret =>
    simp only at h; split at h
    ·rename_i s2 hs2; exact ⟨s2, hs2, h, .inr rfl⟩
    ·cases h
  obtain ⟨s2, hm, hr, hor⟩ := hres; have hs2 : s' = s2 := by
   unfold Xm at hr; split at hr
   ·cases hr; rfl
   ·cases hr
  have hfr : FrRel φ fn.ntmps { tm := wN .leaf 0 args, df := [] } { tmps := xs.toArray ++ yH (fn.ntmps - xs.toArray.size) undef, defers := [] } :=
   ⟨WO hargs _, by simp; omega, rfl⟩
  have hFp : Wide F.plain := ⟨hF.fn, hF.depth, hF.alive⟩; have key : CallsIn F.plain n P f xs.toArray w (Qw P w0 φ s w v s') := by
   refine callsIn_of_wp_marks hfn hbody (hF.fn f) (wpIn_mono (ve hS hG hD hFp (fun _ => rfl) c hb he r hwf hf hfr) ?_)
   rintro e a' w' ⟨φ1, rfl, k1, k2⟩
   have hleave : LeavesInM F.plain n P fn a'.tmps (Qw P w0 φ s w v s') a'.defers .returning w' := by
    refine pQ hm k2.df k1.rel (k1.ext.wf hwf) fun w2 k3 => ?_; obtain ⟨_, x, k4, k5⟩ := ZQ hG k3.rel k2.tm hrs hr; exact ⟨x, k4, φ1, x, rfl, hs2 ▸ Step.trans hwf k1 k3, k5⟩
   rcases hor with rfl | rfl
   ·exact hleave
   ·exact hleave
  exact key
theorem Vq {φ2 : Phi} {n0 : Nat} (hz : ∀ b o v, φ.z b o = some v → φ2.z b o = some v) (hm : ∀ id, id < n0 → φ2 id = φ id) {v v' : AV} {x : Value} (h : lG n0 v = some v') (hx : VR φ v x) : VR φ2 v' x := by
 unfold lG at h; split at h
 ·rename_i id e n cs
  cases hb : ze n0 id with
  | true =>
   rw [hb] at h; simp only [cond_true, zv] at h; subst h; exact VR.pure hz _ _ rfl hx.gr_lst
  | false =>
   rw [hb] at h; simp only [cond_false, zv] at h; subst h; have hlt : id < n0 := by apply Nat.lt_of_not_le; intro hh; rw [xN.2 hh] at hb; cases hb
   simp only [VR] at hx ⊢; obtain ⟨h1, h2, h3, h4, B, ys, h5, h6, h7, h8, h9⟩ := hx; exact ⟨h1, h2, h3, h4, B, ys, (hm id hlt).trans h5, h6, h7, h8.mono hz, VRL.pure hz _ _ h1 h9⟩
 ·rename_i id off
  cases hb : zd id n0 with
  | false => rw [hb] at h; simp at h
  | true =>
   rw [hb] at h; simp only [cond_true, zv] at h; subst h; simp only [VR] at hx ⊢; obtain ⟨B, hB, e⟩ := hx; exact ⟨B, (hm id (wb.1 hb)).trans hB, e⟩
 ·rename_i id off len c
  cases hb : zd id n0 with
  | false => rw [hb] at h; simp at h
  | true =>
   rw [hb] at h; simp only [cond_true, zv] at h; subst h; simp only [VR] at hx ⊢; obtain ⟨B, k, hB, e⟩ := hx; exact ⟨B, k, (hm id (wb.1 hb)).trans hB, e⟩
 ·rename_i id
  cases hb : zd id n0 with
  | false => rw [hb] at h; simp at h
  | true =>
   rw [hb] at h; simp only [cond_true, zv] at h; subst h; simp only [VR] at hx ⊢; obtain ⟨B, hB, e⟩ := hx; exact ⟨B, (hm id (wb.1 hb)).trans hB, e⟩
 ·cases hb : x0 v with
  | false => rw [hb] at h; simp at h
  | true =>
   rw [hb] at h; simp only [cond_true, zv] at h; subst h; exact VR.pure hz _ _ hb hx
theorem Vt {φ φ2 : Phi} {n0 : Nat} (hz : ∀ b o v, φ.z b o = some v → φ2.z b o = some v) (hm : ∀ id, id < n0 → φ2 id = φ id) : ∀ {l l' : List AV} {xs : List Value}, XU n0 l = some l' → VRL φ l xs → VRL φ2 l' xs
 | [], l', xs, h, hx => by simp only [XU, zv] at h; subst h; simp only [VRL] at hx; subst hx; exact VRL.nil φ2
 | v :: r, l', xs, h, hx => by
  simp only [XU] at h; simp only [VRL] at hx; obtain ⟨y, ys, rfl, h1, h2⟩ := hx; split at h
  ·rename_i v' hv
   split at h
   ·rename_i r' hr
    simp only [zv] at h; subst h; exact VRL.cons (Vq hz hm hv h1) (Vt hz hm hr h2)
   ·cases h
  ·cases h
theorem Vr {φ2 : Phi} {n0 : Nat} (hz : ∀ b o v, φ.z b o = some v → φ2.z b o = some v) (hm : ∀ id, id < n0 → φ2 id = φ id) {v v' : AV} {x : Value} (h : Y4 n0 v = some v') (hx : VR φ v x) : VR φ2 v' x := by
 unfold Y4 at h; split at h
 ·split at h
  ·rename_i l hl
   simp only [zv] at h; subst h; simp only [VR] at hx ⊢; obtain ⟨xs, e, h1⟩ := hx; exact ⟨xs, e, Vt hz hm hl h1⟩
  ·cases h
 ·exact Vq hz hm h hx
theorem Vu {φ φ2 : Phi} {n0 : Nat} (hz : ∀ b o v, φ.z b o = some v → φ2.z b o = some v) (hm : ∀ id, id < n0 → φ2 id = φ id) : ∀ {l l' : List AV} {xs : List Value}, pg n0 l = some l' → VRL φ l xs → VRL φ2 l' xs
 | [], l', xs, h, hx => by simp only [pg, zv] at h; subst h; simp only [VRL] at hx; subst hx; exact VRL.nil φ2
 | v :: r, l', xs, h, hx => by
  simp only [pg] at h; simp only [VRL] at hx; obtain ⟨y, ys, rfl, h1, h2⟩ := hx; split at h
  ·rename_i v' hv
   split at h
   ·rename_i r' hr
    simp only [zv] at h; subst h; exact VRL.cons (Vr hz hm hv h1) (Vu hz hm hr h2)
   ·cases h
  ·cases h
theorem Vs {φ2 : Phi} {n0 : Nat} (hz : ∀ b o v, φ.z b o = some v → φ2.z b o = some v) (hm : ∀ id, id < n0 → φ2 id = φ id) {v v' : AV} {x : Value} (h : lH n0 v = some v') (hx : VR φ v x) : VR φ2 v' x := by
 unfold lH at h; split at h
 ·split at h
  ·rename_i l hl
   simp only [zv] at h; subst h; simp only [VR] at hx ⊢; obtain ⟨xs, e, h1⟩ := hx; exact ⟨xs, e, Vu hz hm hl h1⟩
  ·cases h
 ·exact Vr hz hm h hx
theorem K4 {m : Nat} (h : wq m n = 0) (hid : id < n) : m.testBit id = false := by
 have h1 : (wq m n).testBit id = false := by rw [h]; exact Nat.zero_testBit id
 have h2 : (m % 2 ^ n).testBit id = false := h1; rw [Nat.testBit_mod_two_pow] at h2
 simpa [hid] using h2
theorem Step.pop {φ1 : Phi} {t : St} {w1 : World} (r : Rel P w0 φ s.get w) (hwf : Wf s) (st : Step P w0 φ { s with wm := 0, md := true } w φ1 t w1) (hm : wq t.wm s.next = 0) :
  Step P w0 φ s w (φ.zset φ1.z) s w1 := by
 have hbit : ∀ id, id < s.next → t.wm.testBit id = false := fun id hid => K4 hm hid
 have hold : ∀ b, b < w.heap.size → w1.heap[b]? = w.heap[b]? := fun b hb => st.frame b hb fun id o B ho _ _ => hbit id (hwf.lt id o (xW ho)); have hsub : Sub φ (φ.zset φ1.z) := ⟨fun _ _ h => h, st.zsub⟩; have hkeep : ∀ id o, s.get id = some o → t.get id = some o := fun id o ho => by
  have hlt := hwf.lt id o (xW ho); have h1 : t.objs.get id = s.objs.get id := st.ext.keep id hlt (hbit id hlt); have h2 : seen t id = seen s id := qG st.ext.hide st.ext.only id; rw [uM, h2, wX ho, h1]; exact xW ho
 have hmm : ∀ id o, s.get id = some o → φ1 id = φ id := fun id o ho => st.same id (.inl (hwf.lt id o (xW ho))); refine ⟨Ext.refl s, ⟨st.rel.base, ?_, ?_, r.old, r.inj, st.rel.frz, ?_⟩, fun _ _ => rfl, st.size, fun b hb _ => hold b hb, fun id _ h1 h2 => absurd h2 oM, st.zsub, ?_⟩
 ·intro id o ho; obtain ⟨B, hB, tt⟩ := r.obj id o ho; exact ⟨B, hB, tt.keep hsub (hold _ (r.rng id B hB))⟩
 ·intro id B hB; have : B.b < w.heap.size := r.rng id B hB; have := st.size; omega
 ·intro id o B ho hB; exact st.rel.sep id o B (hkeep id o ho) ((hmm id o ho).trans hB)
 ·intro b i v hv; rcases st.zown b i v hv with h1 | h1 | ⟨id0, o0, B0, g0, p0, e0, m0⟩
  ·exact .inl h1
  ·exact .inr (.inl h1)
  ·rw [hbit id0 (hwf.lt id0 o0 (xW g0))] at m0; cases m0
theorem Step.unsub {φ1 : Phi} {t : St} {w1 : World} {b c : Bool} (st : Step P w0 φ { s with wm := 0, md := b } w φ1 t w1) : Step P w0 φ s w φ1 { t with wm := zi s.wm t.wm, md := c } w1 := by
 have hb : ∀ {id : Nat}, t.wm.testBit id = true → (zi s.wm t.wm).testBit id = true := fun {id} h => by
  show (s.wm ||| t.wm).testBit id = true
  rw [yv, h, Bool.or_true]
 refine ⟨st.ext.sub, st.rel, st.same, st.size, fun b hb' H => st.frame b hb' fun id o B ho hB e => ?_, fun id B h1 h2 hB => ?_, st.zsub, fun b i v hv => ?_⟩
 ·cases hx : t.wm.testBit id with
  | false => rfl
  | true => have h9 := H id o B ho hB e; have h8 : (zi s.wm t.wm).testBit id = false := h9; rw [hb hx] at h8; cases h8
 ·rcases st.own id B h1 h2 hB with h3 | ⟨id0, o0, B0, g0, p0, e0, m0⟩
  ·exact .inl h3
  ·exact .inr ⟨id0, o0, B0, g0, p0, e0, hb m0⟩
 ·rcases st.zown b i v hv with h1 | h1 | ⟨id0, o0, B0, g0, p0, e0, m0⟩
  ·exact .inl h1
  ·exact .inr (.inl h1)
  ·exact .inr (.inr ⟨id0, o0, B0, g0, p0, e0, hb m0⟩)
theorem Step.unmd {φ1 : Phi} {t : St} {w1 : World} {b c : Bool} (st : Step P w0 φ { s with md := b } w φ1 t w1) : Step P w0 φ s w φ1 { t with md := c } w1 :=
 ⟨st.ext.remd, st.rel, st.same, st.size, st.frame, st.own, st.zsub, st.zown⟩
theorem zxV {x : Value} (h : VR φ v x) : VR φ (grW v) x := by
 cases v <;> first | exact h | exact VR.gr_lst h
theorem Z6 {φ : Phi} : ∀ {l : List AV} {xs : List Value}, VRL φ l xs → VRL φ (zqf l) xs
 | [], _, h => h
 | v :: r, _, h => by
  simp only [VRL] at h; obtain ⟨y, ys, rfl, h1, h2⟩ := h; exact VRL.cons (zxV h1) (Z6 h2)
theorem Lo {x : Value} (h : VR φ v x) : VR φ (zpL v) x := by
 cases v <;> first | exact h | skip
 simp only [VR, zpL] at h ⊢; obtain ⟨xs, rfl, h⟩ := h; exact ⟨xs, rfl, Z6 h⟩
theorem QB {φ : Phi} : ∀ {l : List AV} {xs : List Value}, VRL φ l xs → VRL φ (zpM l) xs
 | [], _, h => h
 | v :: r, _, h => by
  simp only [VRL] at h; obtain ⟨y, ys, rfl, h1, h2⟩ := h; exact VRL.cons (Lo h1) (QB h2)
theorem zyG {x : Value} (h : VR φ v x) : VR φ (agW v) x := by
 cases v <;> first | exact h | skip
 ·simp only [VR, agW] at h ⊢; obtain ⟨xs, rfl, h⟩ := h; exact ⟨xs, rfl, Z6 h⟩
 ·simp only [VR, agW] at h ⊢; obtain ⟨xs, rfl, h⟩ := h; exact ⟨xs, rfl, QB h⟩
theorem Wl (hS : SelfOk P w0 S) (hG : xV E.globs w0) (hE : gm P E) (hD : DrawOk P w0 E S) {f : Nat} {args : List AV} (h : jj E S f args s = some (v, s')) :
  (∃ fn, P.funcs[f]? = some fn ∧ fn.body.isSome = true ∧ (fn.name == "runtime.NumGoroutine") = false) ∧
  ∀ {φ : Phi} {w : World} {xs : List Value}, Rel P w0 φ s.get w → Wf s → Fresh φ s s' → VRL φ args xs → ∀ F n, Wide F → CallsIn F n P f xs.toArray w (Qw P w0 φ s w v s') := by
 obtain ⟨IF, hIF, hle, hway⟩ := XE h; obtain ⟨fn, hfn, hcf⟩ := hE f IF hIF; unfold zzx at hcf; split at hcf
 ·cases hcf
 ·rename_i c hbody
  split at hcf
  ·rename_i ib rs hb hrs
   cases hnm : (fn.name != "runtime.NumGoroutine") with
   | false => rw [hnm] at hcf; simp at hcf
   | true =>
    rw [hnm] at hcf; simp only [cond_true, zv] at hcf; subst hcf; have hnm' : (fn.name == "runtime.NumGoroutine") = false := by simpa [bne] using hnm
    refine ⟨⟨fn, hfn, by rw [hbody]; rfl, hnm'⟩, ?_⟩
    intro φ w xs r hwf hf hargs F n hF; rcases hway with ⟨u, t, hbd, hway⟩ | ⟨t, hbd, rfl⟩
    ·have hc := Wj (P := P) (s' := t) hS hG hD hfn hbody hb hrs hle hbd r ⟨hwf.lt, hwf.hd⟩ hf hargs (n := n) hF; refine CallsIn.mono hc ?_
     rintro e w1 ⟨φ1, x, rfl, k1, k2⟩
     rcases hway with ⟨hm, hfz, rfl⟩ | ⟨rfl, rfl⟩
     ·exact ⟨φ.zset φ1.z, x, rfl, Step.pop r hwf k1 hm, Vs (φ := φ1) (φ2 := φ.zset φ1.z) (fun _ _ _ h => h) (fun id hid => (k1.same id (.inl hid)).symm) hfz k2⟩
     ·exact ⟨φ1, x, rfl, Step.unsub k1, zyG k2⟩
    ·have hc := Wj (P := P) (s' := t) hS hG hD hfn hbody hb hrs hle hbd r ⟨hwf.lt, hwf.hd⟩ hf hargs (n := n) hF; refine CallsIn.mono hc ?_
     rintro e w1 ⟨φ1, x, rfl, k1, k2⟩
     exact ⟨φ1, x, rfl, Step.unmd k1, k2⟩
  ·cases hcf
theorem JK {φ : Phi} : ∀ {ps : List Nat} {args : List AV} {xs : List Value} {tm tm1 : Trie AV} {t : Array Value}, lj tm ps args = some tm1 → VRL φ args xs → TmRel φ tm t → (∀ p ∈ ps, p < t.size) →
  xs.length = ps.length ∧ TmRel φ tm1 ((ps.zip xs).foldl (fun t p => t.setIfInBounds p.1 p.2) t) ∧ ((ps.zip xs).foldl (fun t p => t.setIfInBounds p.1 p.2) t).size = t.size
 | [], [], xs, tm, tm1, t, h, hx, ht, hp => by
  simp only [VRL] at hx; subst hx; simp only [lj, zv] at h; subst h; exact ⟨rfl, ht, rfl⟩
 | p :: ps, v :: vs, xs, tm, tm1, t, h, hx, ht, hp => by
  simp only [VRL] at hx; obtain ⟨y, ys, rfl, h1, h2⟩ := hx; simp only [lj] at h; obtain ⟨k1, k2, k3⟩ := JK h h2 (ht.set (hp p (by simp)) h1) (fun q hq => by simp; exact hp q (by simp [hq]))
  refine ⟨by simp [k1], k2, ?_⟩
  simp only [List.zip_cons_cons, List.foldl_cons]; rw [k3]; simp
 | [], _ :: _, xs, tm, tm1, t, h, hx, ht, hp => by simp [lj] at h
 | _ :: _, [], xs, tm, tm1, t, h, hx, ht, hp => by simp [lj] at h
theorem zuO (t : Array Value) (ps : List Nat) (xs : List Value) : ((ps.toArray.zip xs.toArray).foldl (fun t (p, v) => t.setIfInBounds p v) t) = (ps.zip xs).foldl (fun t p => t.setIfInBounds p.1 p.2) t := by
 rw [← Array.foldl_toList]; simp
theorem K8 (hS : SelfOk P w0 S) (hG : xV E.globs w0) (hD : DrawOk P w0 E S) {l : Nat} {args : List AV} (h : uN E S l args s = some (v, s')) {xs : List Value} {B : Blk} (r : Rel P w0 φ s.get w) (hwf : Wf s) (hf : Fresh φ s s') (hargs : VRL φ args xs) (hB : φ l = some B) :
  ∃ L, w.heap[B.b]? = some (.loop L) ∧ xs.length = L.params.size ∧ ∀ F n, Wide F → RoundIn F n P B.b L.fn ((L.params.zip xs.toArray).foldl (fun t (p, v) => t.setIfInBounds p v) L.tmps) L.assign L.body w (Qw P w0 φ s w v s') := by
 unfold uN at h; split at h
 ·rename_i st0 pend0 tm0 ps0 asg bd d0 hg
  obtain ⟨B', hB', L, hh, hl⟩ := r.obj l _ hg; rw [hB] at hB'; cases hB'; split at h
  ·rename_i tm1 hps
   obtain ⟨k1, k2, k3⟩ := JK hps hargs hl.tm hl.ps; refine ⟨L, hh, by rw [hl.params, k1]; simp, ?_⟩
   intro F n hF; rw [hl.params, zuO]; cases he : evC E S (some l) asg { tm := tm1, df := [] } s with
   | none => rw [he] at h; simp [vg] at h
   | some p =>
    obtain ⟨res1, fr1, s1⟩ := p; rw [he] at h; simp only [vg] at h; have hn1 := qM hS.mono he; split at h
    ·split at h
     ·rename_i pend1 tmL psL asgL bodyL dL hg1
      cases he2 : evC E S (some l) bd fr1 (s1.put l (.loop .busy pend1 tmL psL asgL bodyL dL)) with
      | none => rw [he2] at h; simp [uc] at h
      | some q =>
       obtain ⟨res2, fr2, s2⟩ := q; rw [he2] at h; simp only [uc] at h; have hn2 := qM hS.mono he2; rw [pR] at hn2; split at h
       ·rename_i st2 pend2 tm2 ps2 asg2 body2 d2 hg2
        have hs' : s'.next = s2.next := by
         cases res2 <;> simp only [zv, zw] at h <;> rw [← h.2] <;> rfl
        have hFr : Wide (F.inRound B.b) := ⟨hF.fn, hF.depth, hF.alive⟩; have hfr : FrRel φ L.tmps.size { tm := tm1, df := [] } { tmps := (ps0.zip xs).foldl (fun t p => t.setIfInBounds p.1 p.2) L.tmps, defers := [] } := ⟨k2, k3, rfl⟩; refine roundIn_of_wpIn (hF.fn _) (wpIn_mono (ve hS hG hD hFr (fun h => by cases h) L.assign hl.asg he r hwf (hf.left oM) hfr) ?_)
        rintro e a1 w1 ⟨φ1, rfl, g1, g2⟩
        have hsub1 := g1.sub (hf.left (s1 := s1) oM); have hB1 := hsub1 _ _ hB; obtain ⟨B', hB', L1, hh1, hl1⟩ := g1.rel.obj l _ hg1; rw [hB1] at hB'; cases hB'; have hbr := run_beginRound (P := P) hh1 (by rw [hl1.state]; rfl)
        have st1 : Step P w0 φ1 s1 w1 φ1 (s1.put l (.loop .busy pend1 tmL psL asgL bodyL dL)) (w1.putObj B.b (.loop { L1 with state := .busy })) :=
         Step.setObj g1.rel hg1 hB1 hh1 (x' := .loop { L1 with state := .busy }) ⟨_, li hh1, ⟨rfl, hl1.pend, hl1.params, hl1.asg, hl1.body, hl1.tm, hl1.df, hl1.ps⟩⟩
        have hwf1 := g1.ext.wf hwf; have hf1 : Fresh φ1 s1 s2 := (hf.right hn1 g1.same).left oM; refine ⟨_, hbr, wpIn_mono (ve hS hG hD hFr (fun h => by cases h) L.body hl.body he2 st1.rel (st1.ext.wf hwf1) hf1 g2) ?_⟩
        rintro e a2 w2 ⟨φ2, rfl, g3, g4⟩
        have hsub2 := g3.sub hf1; have hB2 := hsub2 _ _ hB1; obtain ⟨B', hB', L2, hh2, hl2⟩ := g3.rel.obj l _ hg2; rw [hB2] at hB'; cases hB'; have stA := Step.trans hwf (Step.trans hwf g1 st1) g3; have fin : ∀ (j : Option Res), s' = s2.put l (.loop (if j.isNone then .ready else .done) j tm2 ps2 asg2 body2 d2) → v = .bool j.isNone → ∃ x w', (Instr.endRound B.b (j.map Res.code)).run P w2 = .ok x w' ∧ Qw P w0 φ s w v s' (.returned x) w' := by
         intro j e1 e2; have hend := run_endRound (P := P) (j.map Res.code) hh2; refine ⟨_, _, hend, φ2, _, rfl, ?_, ?_⟩
         ·rw [e1]; refine Step.trans hwf stA (Step.setObj g3.rel hg2 hB2 hh2 (x' := .loop { L2 with state := if (j.map Res.code).isNone then .ready else .done, pending := j.map Res.code }) ⟨_, li hh2, ⟨?_, rfl, hl2.params, hl2.asg, hl2.body, hl2.tm, hl2.df, hl2.ps⟩⟩)
          cases j <;> rfl
         ·rw [e2]; simp only [VR]; cases j <;> rfl
        cases res2 with
        | norm =>
         simp only [zv, zw] at h; exact fin none h.2.symm h.1.symm
        | exit id =>
         simp only [zv, zw] at h; exact fin (some (.exit id)) h.2.symm h.1.symm
        | ret =>
         simp only [zv, zw] at h; exact fin (some .ret) h.2.symm h.1.symm
       ·cases h
     ·cases h
    ·cases h
  ·cases h
 ·cases h
theorem PB (hS : SelfOk P w0 S) (hG : xV E.globs w0) (hD : DrawOk P w0 E S) {rd : Option Nat} {b : ICode} {fr fr' : Fr} {res : Res} (h : evC E S rd (.loop b) fr s = some (res, fr', s')) {nt : Nat} {c : Code} {a : Act} (hb : cC P nt c = some b) (r : Rel P w0 φ s.get w) (hwf : Wf s) (hf : Fresh φ s s') (hfr : FrRel φ nt fr a) (F : Fence) (n : Nat) (hF : Wide F) (hrd : rd = none → F.round = none) : LoopIn F n P c (We P w0 φ nt s w res fr' s') a w := by
 simp only [evC] at h; cases he : evC E S rd b fr s with
 | none => rw [he] at h; simp [vS] at h
 | some p =>
  obtain ⟨res1, fr1, s1⟩ := p; rw [he] at h; have hn1 := qM hS.mono he; have hn2 : s1.next ≤ s'.next := gh (x := some (res1, fr1, s1)) (fun p hp => by cases hp; exact zp _) (fun _ _ _ _ _ h => hS.mono.loop _ _ _ _ _ _ _ h) h
  refine pP (wpIn_mono (ve hS hG hD hF hrd c hb he r hwf (hf.left hn2) hfr) (Yo hwf hf hn1 h fun φ1 a1 w1 hk k1 k2 k3 => ?_)); exact LoopIn.mono (hS.loop hk hb k1.rel (k1.ext.wf hwf) k3 k2 F n hF hrd) fun e a2 w2 q => pu hwf k1 q
end
end Go.Proofs.YtionbncghjdeoaaGreatDoor.Ev

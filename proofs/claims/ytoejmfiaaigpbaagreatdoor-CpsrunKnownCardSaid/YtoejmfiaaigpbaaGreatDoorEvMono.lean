/- Part of a verified evaluator of the model's code, generic over the program: a run of the evaluator that answers shows what the model's run answers. No conditions of its own. -/
import Derived.Test.YtoejmfiaaigpbaaGreatDoorEvOpsF2
namespace Go.Proofs.YtoejmfiaaigpbaaGreatDoor.Ev

/-! ### The count of blocks never falls -/
theorem next_put (s : St) (id : Nat) (o : AObj) : (s.put id o).next = s.next := rfl
theorem next_del (s : St) (id : Nat) : (s.del id).next = s.next := rfl
theorem next_alloc (s : St) (o : AObj) : (s.alloc o).next = s.next + 1 := rfl

theorem storeC_next {s s' : St} {p : AV} {vs : List AV} (h : storeC s p vs = some s') : s'.next = s.next := by
  unfold storeC at h
  split at h
  · split at h
    · rename_i t cs e fz hg
      cases hb : (fz || !allScal vs) with
      | true => rw [hb] at h; simp at h
      | false =>
        rw [hb] at h; simp only [cond_false] at h
        split at h
        · cases h; rfl
        · cases h
    · cases h
  · cases h
theorem grow_nextE {s s' : St} {e esz bytes need : Nat} {cs : List AV} {v : AV} (h : grow s e esz bytes cs need = some (v, s')) : s'.next = s.next + 1 := grow_next h
theorem app0_next {s s' : St} {x v : AV} (h : app0 s x = some (v, s')) : s' = s := by
  unfold app0 at h
  split at h
  · cases h; rfl
  · cases h; rfl
  · rename_i id off len c
    split at h
    · rename_i k
      cases hb : Nat.ble len k with
      | true => rw [hb] at h; simp at h; exact h.2.symm
      | false => rw [hb] at h; simp at h
    · cases h; rfl
  · cases h
theorem appW_next {s s' : St} {t esz bytes n : Nat} {x v : AV} {new : List AV} (h : appW s t esz bytes x n new = some (v, s')) : s.next ≤ s'.next := by
  unfold appW at h
  split at h
  · have := grow_next h; omega
  · rename_i id off len c
    split at h
    · rename_i t0 cs e fz hg
      split at h
      · rename_i k
        cases hb : Nat.ble (Nat.add len n) k with
        | true =>
          rw [hb] at h; simp only [cond_true] at h
          split at h
          · rename_i s1 hs
            cases h; have := storeC_next hs; omega
          · cases h
        | false =>
          rw [hb] at h; simp only [cond_false] at h
          split at h
          · have := grow_next h; omega
          · cases h
      · rename_i e'
        cases hb : (Nat.beq esz e' && e && !fz) with
        | false => rw [hb] at h; simp at h
        | true =>
          rw [hb] at h; simp only [cond_true] at h
          cases hb2 : Nat.ble (Nat.add off (Nat.mul (Nat.add len n) esz)) (lenN cs) with
          | true =>
            rw [hb2] at h; simp only [cond_true] at h
            split at h
            · rename_i s1 hs
              cases h; have := storeC_next hs; omega
            · cases h
          | false =>
            rw [hb2] at h; simp only [cond_false] at h
            cases hb3 : (allScal new && Nat.beq t0 t) with
            | false => rw [hb3] at h; simp at h
            | true =>
              rw [hb3] at h; simp only [cond_true] at h
              split at h
              · have := grow_next h; rw [next_del] at this; omega
              · cases h
    · cases h
  · cases h
theorem appV_next {s s' : St} {t esz bytes : Nat} {x y v : AV} (h : appV s t esz bytes x y = some (v, s')) : s.next ≤ s'.next := by
  unfold appV at h
  split at h
  · cases h
  · rw [app0_next h]; exact Nat.le_refl _
  · split at h
    · cases h
    · exact appW_next h
theorem appzV_next {s s' : St} {t esz bytes : Nat} {zs : List AV} {x y v : AV} (h : appzV s t esz bytes zs x y = some (v, s')) : s.next ≤ s'.next := by
  unfold appzV at h
  split at h
  · cases h
  · rename_i n
    cases hb : (Nat.ble (Nat.mul (Nat.succ n) bytes) 281474976710656 && Nat.blt n 9223372036854775807) with
    | false => rw [hb] at h; simp at h
    | true => rw [hb] at h; simp only [cond_true] at h; exact appW_next h
  · cases h
theorem oSt_next {s s' : St} {n : Nat} {p w v : AV} (h : oSt s n p w = some (v, s')) : s'.next = s.next := by
  unfold oSt at h
  cases hb : Nat.beq (lenN w.cells) n with
  | false => rw [hb] at h; simp at h
  | true =>
    rw [hb] at h; simp only [cond_true] at h
    split at h
    · rename_i s1 hs; cases h; exact storeC_next hs
    · cases h
theorem oCbb_next {s s' : St} {x v : AV} (h : oCbb s x = some (v, s')) : s'.next = s.next := by
  unfold oCbb at h
  split at h
  · split at h
    · cases h; rfl
    · cases h
  · cases h
theorem oMu_next {s s' : St} {f : FK} {m k x v : AV} (h : oMu s f m k x = some (v, s')) : s'.next = s.next := by
  unfold oMu at h
  split at h
  · split at h
    · split at h
      · cases h; rfl
      · cases h; rfl
      · cases h
    · cases h
  · cases h
theorem oMd_next {s s' : St} {f : FK} {m k v : AV} (h : oMd s f m k = some (v, s')) : s'.next = s.next := by
  unfold oMd at h
  split at h
  · cases h; rfl
  · split at h
    · split at h
      · cases h; rfl
      · cases h; rfl
      · cases h
    · cases h
  · cases h
theorem oMe_next {s s' : St} {f : FK} {z m k v : AV} (h : oMe s f z m k = some (v, s')) : s'.next = s.next := by
  unfold oMe at h
  split at h
  · split at h
    · split at h
      · cases h; rfl
      · cases h; rfl
      · cases h
    · cases h
  · cases h
theorem oEs_next {s s' : St} {m t x v : AV} (h : oEs s m t x = some (v, s')) : s'.next = s.next := by
  unfold oEs at h
  split at h
  · split at h
    · split at h
      · split at h
        · cases h; rfl
        · cases h
      · cases h
    · cases h
  · cases h
theorem oNs_next {s s' : St} {x v : AV} (h : oNs s x = some (v, s')) : s'.next = s.next := by
  unfold oNs at h
  split at h
  · split at h
    · split at h
      · rename_i b _
        cases hb : Nat.blt b 128 with
        | false => rw [hb] at h; simp at h
        | true => rw [hb] at h; simp only [cond_true, Option.some.injEq, Prod.mk.injEq] at h; rw [← h.2]; rfl
      · cases h; rfl
    · cases h
  · cases h
theorem nmRes_next {s s' : St} {id m since clock : Nat} {seen : List Nat} {v : AV} : ∀ {l : List (AV × AV × Nat)}, nmRes s id m since seen clock l = some (v, s') → s'.next = s.next
  | [], h => by simp only [nmRes, Option.some.injEq, Prod.mk.injEq] at h; rw [← h.2]
  | [e], h => by
    simp only [nmRes] at h
    cases hb : Nat.blt e.2.2 since with
    | false => rw [hb] at h; simp at h
    | true => rw [hb] at h; simp only [cond_true, Option.some.injEq, Prod.mk.injEq] at h; rw [← h.2]; rfl
  | _ :: _ :: _, h => by simp [nmRes] at h
theorem oNm_next {s s' : St} {x v : AV} (h : oNm s x = some (v, s')) : s'.next = s.next := by
  unfold oNm at h
  split at h
  · split at h
    · cases h; rfl
    · rename_i m since seen last _
      split at h
      · rename_i es clock _
        cases hb : goneK seen last es with
        | true => rw [hb] at h; simp at h
        | false => rw [hb] at h; simp only [cond_false] at h; exact nmRes_next h
      · cases h
    · cases h
  · cases h

theorem oUst_next {s s' : St} {e : Nat} {x n v : AV} (h : oUst s e x n = some (v, s')) : s.next ≤ s'.next := by
  unfold oUst at h
  split at h
  · split at h
    · split at h
      · simp only [Option.some.injEq, Prod.mk.injEq] at h; rw [← h.2]; exact Nat.le_refl _
      · simp only [Option.some.injEq, Prod.mk.injEq] at h; rw [← h.2]; exact Nat.le_refl _
      · cases h
    · rename_i m
      split at h
      · split at h
        · rename_i t cs ext _ _
          cases hb : (Nat.beq t e && Nat.blt m 9223372036854775807) with
          | false => rw [hb] at h; simp at h
          | true =>
            rw [hb] at h; simp only [cond_true] at h
            split at h
            · simp only [Option.some.injEq, Prod.mk.injEq] at h; rw [← h.2]; exact Nat.le_refl _
            · cases h
        · cases h
      · cases h
  · cases h
theorem opv_next {E : Env} {op : IOp} {tm : Trie AV} {s s' : St} {v : AV} (h : opv E op tm s = some (v, s')) : s.next ≤ s'.next := by
  have e : ∀ {a b : St}, a = b → b.next ≤ a.next := fun h => by rw [h]; exact Nat.le_refl _
  have e2 : s'.next = s.next → s.next ≤ s'.next := fun h => by omega
  cases op <;> simp only [opv] at h <;> try (cases h; done)
  case mv => obtain ⟨_, _, _, h3⟩ := v1_inv h; exact e h3
  case pick => exact e (ret1_inv h).2
  case alloc => simp only [oAlloc, Option.some.injEq, Prod.mk.injEq] at h; exact Nat.le_of_lt (next_row h.2)
  case box => obtain ⟨_, _, h⟩ := o1_inv h; simp only [oBox, Option.some.injEq, Prod.mk.injEq] at h; exact Nat.le_of_lt (next_row h.2)
  case build => exact e (ret1_inv h).2
  case bsl => exact Nat.le_of_lt (oBsl_next h)
  case ld => obtain ⟨_, _, _, h3⟩ := v1_inv h; exact e h3
  case ldn => obtain ⟨_, _, _, h3⟩ := v1_inv h; exact e h3
  case st => obtain ⟨_, _, _, _, h⟩ := o2_inv h; exact e2 (oSt_next h)
  case nck => obtain ⟨_, _, _, h3⟩ := v1_inv h; exact e h3
  case bin => obtain ⟨_, _, _, _, _, h3⟩ := v2_inv h; exact e h3
  case eqk => obtain ⟨_, _, _, _, _, h3⟩ := v2_inv h; exact e h3
  case un => obtain ⟨_, _, _, h3⟩ := v1_inv h; exact e h3
  case ci => obtain ⟨_, _, _, h3⟩ := v1_inv h; exact e h3
  case css => obtain ⟨_, _, _, h3⟩ := v1_inv h; exact e h3
  case csb => obtain ⟨_, _, h⟩ := o1_inv h; exact Nat.le_of_lt (oCsb_next h)
  case cbb => obtain ⟨_, _, h⟩ := o1_inv h; exact e2 (oCbb_next h)
  case cbs => obtain ⟨_, _, _, h3⟩ := v1_inv h; exact e h3
  case cis => obtain ⟨_, _, _, h3⟩ := v1_inv h; exact e h3
  case mif => obtain ⟨_, _, _, h3⟩ := v1_inv h; exact e h3
  case mfn => obtain ⟨_, _, _, _, _, h3⟩ := vLL_inv h; exact e h3
  case mmap => simp only [oMmap, Option.some.injEq, Prod.mk.injEq] at h; exact Nat.le_of_lt (next_row h.2)
  case msl => obtain ⟨_, _, _, _, h⟩ := o2_inv h; exact Nat.le_of_lt (oMsl_next h)
  case sls => obtain ⟨_, _, _, _, _, _, _, h3⟩ := vs3_inv h; exact e h3
  case slv => obtain ⟨_, _, _, _, _, _, _, _, _, h3⟩ := vs4_inv h; exact e h3
  case sla => obtain ⟨_, _, _, _, _, _, _, _, _, h3⟩ := vs4_inv h; exact e h3
  case fa => obtain ⟨_, _, _, h3⟩ := v1_inv h; exact e h3
  case fd => obtain ⟨_, _, _, h3⟩ := v1_inv h; exact e h3
  case ia => obtain ⟨_, _, _, _, _, h3⟩ := v2_inv h; exact e h3
  case iaa => obtain ⟨_, _, _, _, _, h3⟩ := v2_inv h; exact e h3
  case ixs => obtain ⟨_, _, _, _, _, h3⟩ := v2_inv h; exact e h3
  case ixa => obtain ⟨_, _, _, _, _, h3⟩ := v2_inv h; exact e h3
  case lk => obtain ⟨_, _, _, _, _, h3⟩ := v2_inv h; exact e h3
  case mu => obtain ⟨_, _, _, _, _, _, h⟩ := o3_inv h; exact e2 (oMu_next h)
  case md => obtain ⟨_, _, _, _, h⟩ := o2_inv h; exact e2 (oMd_next h)
  case me => obtain ⟨_, _, _, _, h⟩ := o2_inv h; exact e2 (oMe_next h)
  case es => obtain ⟨_, _, _, _, _, _, h⟩ := o3_inv h; exact e2 (oEs_next h)
  case rs => obtain ⟨_, _, h⟩ := o1_inv h; exact Nat.le_of_lt (oRs_next h)
  case ns => obtain ⟨_, _, h⟩ := o1_inv h; exact e2 (oNs_next h)
  case rm => obtain ⟨_, _, h⟩ := o1_inv h; exact Nat.le_of_lt (oRm_next h)
  case nm => obtain ⟨_, _, h⟩ := o1_inv h; exact e2 (oNm_next h)
  case en => obtain ⟨_, _, _, h3⟩ := v1_inv h; exact e h3
  case ex => obtain ⟨_, _, _, h3⟩ := v1_inv h; exact e h3
  case len => obtain ⟨_, _, _, h3⟩ := v1_inv h; exact e h3
  case lenc => simp only [Option.some.injEq, Prod.mk.injEq] at h; exact e h.2.symm
  case cap => obtain ⟨_, _, _, h3⟩ := v1_inv h; exact e h3
  case app => obtain ⟨_, _, _, _, h⟩ := o2_inv h; exact appV_next h
  case mn => obtain ⟨_, _, _, h3⟩ := vL_inv h; exact e h3
  case mx => obtain ⟨_, _, _, h3⟩ := vL_inv h; exact e h3
  case cup => obtain ⟨_, _, _, h3⟩ := v1_inv h; exact e h3
  case cpu => obtain ⟨_, _, _, h3⟩ := v1_inv h; exact e h3
  case usd => obtain ⟨_, _, _, h3⟩ := v1_inv h; exact e h3
  case nes => obtain ⟨_, _, _, h3⟩ := v1_inv h; exact e h3
  case ibs => obtain ⟨_, _, _, _, _, h3⟩ := v2_inv h; exact e h3
  case ust => obtain ⟨_, _, _, _, h⟩ := o2_inv h; exact oUst_next h
  case appz => obtain ⟨_, _, _, _, h⟩ := o2_inv h; exact appzV_next h

/-! ### Control -/
structure Mono (S : Self) : Prop where
  call : ∀ f args s v s', S.call f args s = some (v, s') → s.next ≤ s'.next
  loop : ∀ rd b fr s res fr' s', S.loop rd b fr s = some (res, fr', s') → s.next ≤ s'.next
  round : ∀ l args s v s', S.round l args s = some (v, s') → s.next ≤ s'.next

theorem evOp_next {E : Env} {S : Self} (hS : Mono S) {op : IOp} {tm : Trie AV} {s s' : St} {v : AV} (h : evOp E S op tm s = some (v, s')) : s.next ≤ s'.next := by
  unfold evOp at h
  split at h
  · unfold evCl at h
    split at h
    · exact hS.call _ _ _ _ _ h
    · cases h
  · unfold evCv at h
    split at h
    · split at h
      · exact hS.call _ _ _ _ _ h
      · exact hS.round _ _ _ _ _ h
      · cases h
    · cases h
  · exact opv_next h

theorem stepS_next {E : Env} {S : Self} (hS : Mono S) {o : SOper} {tm tm' : Trie AV} {s s' : St} (h : stepS E S o tm s = some (tm', s')) : s.next ≤ s'.next := by
  unfold stepS at h
  split at h
  · cases he : evOp E S o.op tm s with
    | none => rw [he] at h; simp [stS] at h
    | some p => rw [he] at h; simp only [stS, Option.some.injEq, Prod.mk.injEq] at h; rw [← h.2]; exact evOp_next hS (v := p.1) (s' := p.2) he
  · simp only [Option.some.injEq, Prod.mk.injEq] at h; rw [← h.2]; exact Nat.le_refl _
  · cases h
theorem evS_next {E : Env} {S : Self} (hS : Mono S) : ∀ {l : List SOper} {tm tm' : Trie AV} {s s' : St}, evS E S l tm s = some (tm', s') → s.next ≤ s'.next
  | [], tm, tm', s, s', h => by simp only [evS, Option.some.injEq, Prod.mk.injEq] at h; rw [← h.2]; exact Nat.le_refl _
  | o :: r, tm, tm', s, s', h => by
    simp only [evS] at h
    split at h
    · rename_i p hp
      exact Nat.le_trans (stepS_next hS (tm' := p.1) (s' := p.2) hp) (evS_next hS h)
    · cases h
theorem stepD_next {E : Env} {S : Self} (hS : Mono S) {o : DOper} {i : Nat} {log : List LogE} {tm : Trie AV} {s : St} {p : List LogE × Trie AV × St} (h : stepD E S o i log tm s = some p) : s.next ≤ p.2.2.next := by
  unfold stepD at h
  split at h
  · cases he : evOp E S o.o.op tm (begD o log tm s) with
    | none => rw [he] at h; simp [endD] at h
    | some q =>
      rw [he] at h; simp only [endD] at h
      have := evOp_next hS (v := q.1) (s' := q.2) he
      cases hb : compat o.deps (touch o.o.op tm) (oldMask q.2.wm s.next) log with
      | false => rw [hb] at h; simp at h
      | true => rw [hb] at h; simp only [cond_true, Option.some.injEq] at h; subst h; exact this
  · simp only [Option.some.injEq] at h; subst h; exact Nat.le_refl _
  · cases h
theorem evD_next {E : Env} {S : Self} (hS : Mono S) : ∀ {l : List DOper} {i : Nat} {log : List LogE} {tm tm' : Trie AV} {s s' : St}, evD E S l i log tm s = some (tm', s') → s.next ≤ s'.next
  | [], i, log, tm, tm', s, s', h => by simp only [evD, Option.some.injEq, Prod.mk.injEq] at h; rw [← h.2]; exact Nat.le_refl _
  | o :: r, i, log, tm, tm', s, s', h => by
    simp only [evD] at h
    split at h
    · rename_i p hp
      exact Nat.le_trans (stepD_next hS hp) (evD_next hS h)
    · cases h

theorem thenR_next {k : Fr → St → Option (Res × Fr × St)} {x : Option (Res × Fr × St)} {n : Nat} {res : Res} {fr' : Fr} {s' : St} (hx : ∀ p, x = some p → n ≤ p.2.2.next) (hk : ∀ fr s res fr' s', k fr s = some (res, fr', s') → s.next ≤ s'.next) (h : thenR k x = some (res, fr', s')) : n ≤ s'.next := by
  cases x with
  | none => simp [thenR] at h
  | some p =>
    simp only [thenR] at h
    have := hx p rfl
    split at h
    · exact Nat.le_trans this (hk _ _ _ _ _ h)
    · cases h; exact this

theorem evC_next {E : Env} {S : Self} (hS : Mono S) {rd : Option Nat} : ∀ {c : ICode} {fr fr' : Fr} {s s' : St} {res : Res}, evC E S rd c fr s = some (res, fr', s') → s.next ≤ s'.next
  | .skip, fr, fr', s, s', res, h => by simp only [evC] at h; cases h; exact Nat.le_refl _
  | .reg ops, fr, fr', s, s', res, h => by
    simp only [evC] at h
    cases he : evS E S ops fr.tm s with
    | none => rw [he] at h; simp [normR] at h
    | some p => rw [he] at h; simp only [normR] at h; cases h; exact evS_next hS (tm' := p.1) he
  | .regd ops, fr, fr', s, s', res, h => by
    simp only [evC, regdR] at h
    split at h
    case h_2 => cases h
    cases he : evD E S ops 0 [] fr.tm s with
    | none => rw [he] at h; simp [normR] at h
    | some p => rw [he] at h; simp only [normR] at h; cases h; exact evD_next hS (tm' := p.1) he
  | .seq a b, fr, fr', s, s', res, h => by
    simp only [evC] at h
    exact thenR_next (fun p hp => evC_next hS (res := p.1) (fr' := p.2.1) hp) (fun fr s res fr' s' h => evC_next hS h) h
  | .cond c a b, fr, fr', s, s', res, h => by
    simp only [evC, condR] at h
    split at h
    · exact evC_next hS h
    · exact evC_next hS h
    · cases h
  | .block id b, fr, fr', s, s', res, h => by
    simp only [evC] at h
    cases he : evC E S rd b fr s with
    | none => rw [he] at h; simp [blockR] at h
    | some p =>
      have := evC_next hS (res := p.1) (fr' := p.2.1) (s' := p.2.2) he
      rw [he] at h; simp only [blockR] at h
      split at h
      · rename_i i _
        cases hb : Nat.beq i id with
        | true => rw [hb] at h; simp only [cond_true, Option.some.injEq, Prod.mk.injEq] at h; rw [h.2] at this; exact this
        | false => rw [hb] at h; simp only [cond_false] at h; cases h; exact this
      · cases h; exact this
  | .loop b, fr, fr', s, s', res, h => by
    simp only [evC] at h
    exact thenR_next (fun p hp => evC_next hS (res := p.1) (fr' := p.2.1) hp) (fun fr s res fr' s' h => hS.loop _ _ _ _ _ _ _ h) h
  | .exit id, fr, fr', s, s', res, h => by simp only [evC] at h; cases h; exact Nat.le_refl _
  | .ret, fr, fr', s, s', res, h => by simp only [evC] at h; cases h; exact Nat.le_refl _
  | .rf g ps asg body, fr, fr', s, s', res, h => by
    simp only [evC, rfR] at h
    split at h
    · split at h
      · rename_i f a c _
        cases he : S.call f (a ++ .yld (Nat.succ s.next) :: c) ((s.alloc .dfd).alloc (.loop .ready none fr.tm ps asg body s.next)) with
        | none => rw [he] at h; simp [rfEnd] at h
        | some p =>
          have := hS.call _ _ _ p.1 p.2 he
          rw [next_alloc, next_alloc] at this
          rw [he] at h; simp only [rfEnd] at h
          split at h
          · split at h
            · cases h
            · cases h; rw [next_put]; omega
          · cases h
      · cases h
    · cases h
  | .stk, fr, fr', s, s', res, h => by simp [evC] at h

theorem takeMarks_next : ∀ {l : List Nat} {s s' : St}, takeMarks s l = some s' → s'.next = s.next
  | [], s, s', h => by simp only [takeMarks, Option.some.injEq] at h; rw [h]
  | d :: r, s, s', h => by
    simp only [takeMarks] at h
    split at h
    · rw [takeMarks_next h]; rfl
    · cases h

theorem callF_next {E : Env} {S : Self} (hS : Mono S) {f : Nat} {args : List AV} {s s' : St} {v : AV} (h : callF E S f args s = some (v, s')) : s.next ≤ s'.next := by
  unfold callF at h
  split at h
  · rename_i F _
    cases hb : Nat.ble (lenN args) F.ntmps with
    | false => rw [hb] at h; simp at h
    | true =>
    rw [hb] at h; simp only [cond_true] at h
    cases he : evC E S none F.body { tm := setArgs .leaf 0 args, df := [] } s with
    | none => rw [he] at h; simp [callEnd] at h
    | some p =>
      have := evC_next hS (res := p.1) (fr' := p.2.1) (s' := p.2.2) he
      rw [he] at h; simp only [callEnd] at h
      split at h
      · cases h
      · split at h
        · rename_i s1 hm
          have := takeMarks_next hm
          unfold resE at h
          split at h
          · cases h; omega
          · cases h
        · cases h
  · cases h
theorem roundF_next {E : Env} {S : Self} (hS : Mono S) {l : Nat} {args : List AV} {s s' : St} {v : AV} (h : roundF E S l args s = some (v, s')) : s.next ≤ s'.next := by
  unfold roundF at h
  split at h
  · rename_i tm ps asg bd d _
    split at h
    · rename_i tm1 _
      cases he : evC E S (some l) asg { tm := tm1, df := [] } s with
      | none => rw [he] at h; simp [roundBody] at h
      | some p =>
        have h1 := evC_next hS (res := p.1) (fr' := p.2.1) (s' := p.2.2) he
        rw [he] at h; simp only [roundBody] at h
        split at h
        · split at h
          · rename_i pend tm ps asg body d _
            cases he2 : evC E S (some l) bd p.2.1 (p.2.2.put l (.loop .busy pend tm ps asg body d)) with
            | none => rw [he2] at h; simp [roundEnd] at h
            | some q =>
              have h2 := evC_next hS (res := q.1) (fr' := q.2.1) (s' := q.2.2) he2
              rw [next_put] at h2
              rw [he2] at h; simp only [roundEnd] at h
              split at h
              · split at h
                · cases h; rw [next_put]; omega
                · cases h; rw [next_put]; omega
              · cases h
          · cases h
        · cases h
    · cases h
  · cases h

theorem ev_mono (E : Env) : ∀ n, Mono (ev E n)
  | 0 => ⟨fun _ _ _ _ _ h => by simp [ev] at h, fun _ _ _ _ _ _ _ h => by simp [ev] at h, fun _ _ _ _ _ h => by simp [ev] at h⟩
  | n + 1 => ⟨fun _ _ _ _ _ h => callF_next (ev_mono E n) h, fun _ _ _ _ _ _ _ h => evC_next (ev_mono E n) h, fun _ _ _ _ _ h => roundF_next (ev_mono E n) h⟩

end Go.Proofs.YtoejmfiaaigpbaaGreatDoor.Ev

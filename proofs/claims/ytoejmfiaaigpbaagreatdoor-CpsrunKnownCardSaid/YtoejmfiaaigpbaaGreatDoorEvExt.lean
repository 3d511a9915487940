/- Part of a verified evaluator of the model's code, generic over the program: a run of the evaluator that answers shows what the model's run answers. No conditions of its own. -/
import Derived.Test.YtoejmfiaaigpbaaGreatDoorEvMono
namespace Go.Proofs.YtoejmfiaaigpbaaGreatDoor.Ev

/-! ### What an evaluation does to the state: a step 'Ext' -/
theorem ext_putg {s : St} {id : Nat} {o o' : AObj} (h : s.get id = some o) (hng : isGiv o = false := by rfl) : Ext s (s.put id o') := ext_put s id o o' (get_some h) (seen_of_get h) hng
theorem ext_delg {s : St} {id : Nat} {o : AObj} (h : s.get id = some o) (hng : isGiv o = false := by rfl) : Ext s (s.del id) := ext_del s id (get_some h) (seen_of_get h) hng
theorem ext_row {s s' : St} {o : AObj} (h : s.alloc o = s') : Ext s s' := h ▸ ext_alloc s o
theorem ext_eq {s s' : St} (h : s' = s) : Ext s s' := by rw [h]; exact Ext.refl s

theorem storeC_ext {s s' : St} {p : AV} {vs : List AV} (h : storeC s p vs = some s') : Ext s s' := by
  unfold storeC at h
  split at h
  · split at h
    · rename_i t cs e fz hg
      cases hb : (fz || !allScal vs) with
      | true => rw [hb] at h; simp at h
      | false =>
        rw [hb] at h; simp only [cond_false] at h
        split at h
        · cases h; exact ext_putg hg
        · cases h
    · cases h
  · cases h
theorem grow_ext {s s' : St} {e esz bytes need : Nat} {cs : List AV} {v : AV} (h : grow s e esz bytes cs need = some (v, s')) : Ext s s' := by
  unfold grow at h
  cases hb : (Nat.ble (Nat.mul (Nat.mul 2 need) bytes) 281474976710656 && Nat.ble 1 esz && Nat.blt need 9223372036854775808) with
  | false => rw [hb] at h; simp at h
  | true => rw [hb] at h; simp only [cond_true, Option.some.injEq, Prod.mk.injEq] at h; exact ext_row h.2
theorem appW_ext {s s' : St} {t esz bytes n : Nat} {x v : AV} {new : List AV} (h : appW s t esz bytes x n new = some (v, s')) : Ext s s' := by
  unfold appW at h
  split at h
  · exact grow_ext h
  · rename_i id off len c
    split at h
    · rename_i t0 cs e fz hg
      split at h
      · rename_i k
        cases hb : Nat.ble (Nat.add len n) k with
        | true =>
          rw [hb] at h; simp only [cond_true] at h
          split at h
          · rename_i s1 hs
            cases h; exact storeC_ext hs
          · cases h
        | false =>
          rw [hb] at h; simp only [cond_false] at h
          split at h
          · exact grow_ext h
          · cases h
      · rename_i e'
        cases hb : (Nat.beq esz e' && e && !fz) with
        | false => rw [hb] at h; simp at h
        | true =>
          rw [hb] at h; simp only [cond_true] at h
          cases hb2 : Nat.ble (Nat.add off (Nat.mul (Nat.add len n) esz)) (lenN cs) with
          | true =>
            rw [hb2] at h; simp only [cond_true] at h
            split at h
            · rename_i s1 hs
              cases h; exact storeC_ext hs
            · cases h
          | false =>
            rw [hb2] at h; simp only [cond_false] at h
            cases hb3 : (allScal new && Nat.beq t0 t) with
            | false => rw [hb3] at h; simp at h
            | true =>
              rw [hb3] at h; simp only [cond_true] at h
              split at h
              · exact (ext_delg hg).trans (grow_ext h)
              · cases h
    · cases h
  · cases h
theorem appV_ext {s s' : St} {t esz bytes : Nat} {x y v : AV} (h : appV s t esz bytes x y = some (v, s')) : Ext s s' := by
  unfold appV at h
  split at h
  · cases h
  · exact ext_eq (app0_next h)
  · split at h
    · cases h
    · exact appW_ext h
theorem appzV_ext {s s' : St} {t esz bytes : Nat} {zs : List AV} {x y v : AV} (h : appzV s t esz bytes zs x y = some (v, s')) : Ext s s' := by
  unfold appzV at h
  split at h
  · cases h
  · rename_i n
    cases hb : (Nat.ble (Nat.mul (Nat.succ n) bytes) 281474976710656 && Nat.blt n 9223372036854775807) with
    | false => rw [hb] at h; simp at h
    | true => rw [hb] at h; simp only [cond_true] at h; exact appW_ext h
  · cases h
theorem oSt_ext {s s' : St} {n : Nat} {p w v : AV} (h : oSt s n p w = some (v, s')) : Ext s s' := by
  unfold oSt at h
  cases hb : Nat.beq (lenN w.cells) n with
  | false => rw [hb] at h; simp at h
  | true =>
    rw [hb] at h; simp only [cond_true] at h
    split at h
    · rename_i s1 hs; cases h; exact storeC_ext hs
    · cases h
theorem oCbb_ext {s s' : St} {x v : AV} (h : oCbb s x = some (v, s')) : Ext s s' := by
  unfold oCbb at h
  split at h
  · split at h
    · rename_i hg; cases h; exact ext_putg hg
    · cases h
  · cases h
theorem oMu_ext {s s' : St} {f : FK} {m k x v : AV} (h : oMu s f m k x = some (v, s')) : Ext s s' := by
  unfold oMu at h
  split at h
  · split at h
    · rename_i hg
      split at h
      · cases h; exact ext_putg hg
      · cases h; exact ext_putg hg
      · cases h
    · cases h
  · cases h
theorem oMd_ext {s s' : St} {f : FK} {m k v : AV} (h : oMd s f m k = some (v, s')) : Ext s s' := by
  unfold oMd at h
  split at h
  · cases h; exact Ext.refl _
  · split at h
    · rename_i hg
      split at h
      · cases h; exact ext_putg hg
      · cases h; exact ext_putg hg
      · cases h
    · cases h
  · cases h
theorem oMe_ext {s s' : St} {f : FK} {z m k v : AV} (h : oMe s f z m k = some (v, s')) : Ext s s' := by
  unfold oMe at h
  split at h
  · split at h
    · rename_i hg
      split at h
      · cases h; exact ext_putg hg
      · cases h; exact ext_putg hg
      · cases h
    · cases h
  · cases h
theorem oEs_ext {s s' : St} {m t x v : AV} (h : oEs s m t x = some (v, s')) : Ext s s' := by
  unfold oEs at h
  split at h
  · split at h
    · split at h
      · rename_i hg
        split at h
        · cases h; exact ext_putg hg
        · cases h
      · cases h
    · cases h
  · cases h
theorem oNs_ext {s s' : St} {x v : AV} (h : oNs s x = some (v, s')) : Ext s s' := by
  unfold oNs at h
  split at h
  · split at h
    · rename_i hg
      split at h
      · rename_i b _
        cases hb : Nat.blt b 128 with
        | false => rw [hb] at h; simp at h
        | true => rw [hb] at h; simp only [cond_true, Option.some.injEq, Prod.mk.injEq] at h; rw [← h.2]; exact ext_putg hg
      · cases h; exact Ext.refl _
    · cases h
  · cases h
theorem nmRes_ext {s s' : St} {id m since clock : Nat} {seen : List Nat} {v : AV} {o : AObj} (hg : s.get id = some o) (hng : isGiv o = false := by rfl) : ∀ {l : List (AV × AV × Nat)}, nmRes s id m since seen clock l = some (v, s') → Ext s s'
  | [], h => by simp only [nmRes, Option.some.injEq, Prod.mk.injEq] at h; exact ext_eq h.2.symm
  | [e], h => by
    simp only [nmRes] at h
    cases hb : Nat.blt e.2.2 since with
    | false => rw [hb] at h; simp at h
    | true => rw [hb] at h; simp only [cond_true, Option.some.injEq, Prod.mk.injEq] at h; rw [← h.2]; exact ext_putg hg hng
  | _ :: _ :: _, h => by simp [nmRes] at h
theorem oNm_ext {s s' : St} {x v : AV} (h : oNm s x = some (v, s')) : Ext s s' := by
  unfold oNm at h
  split at h
  · split at h
    · cases h; exact Ext.refl _
    · rename_i m since seen last hg
      split at h
      · rename_i es clock _
        cases hb : goneK seen last es with
        | true => rw [hb] at h; simp at h
        | false => rw [hb] at h; simp only [cond_false] at h; exact nmRes_ext hg rfl h
      · cases h
    · cases h
  · cases h
theorem oBsl_ext {s s' : St} {e len : Nat} {x : Option (List AV)} {v : AV} (h : oBsl s e len x = some (v, s')) : Ext s s' := by
  cases x with
  | none => simp [oBsl] at h
  | some l => simp only [oBsl, Option.some.injEq, Prod.mk.injEq] at h; exact ext_row h.2
theorem oMsl_ext {s s' : St} {e b : Nat} {z : List AV} {l c v : AV} (h : oMsl s e b z l c = some (v, s')) : Ext s s' := by
  unfold oMsl at h
  split at h
  · rename_i l
    split at h
    · rename_i c
      cases hb : (Nat.ble l c && Nat.ble (Nat.mul c b) 281474976710656 && Nat.blt c 9223372036854775808) with
      | false => rw [hb] at h; simp at h
      | true => rw [hb] at h; simp only [cond_true, Option.some.injEq, Prod.mk.injEq] at h; exact ext_row h.2
    · cases h
  · cases h
theorem oCsb_ext {s s' : St} {e : Nat} {x v : AV} (h : oCsb s e x = some (v, s')) : Ext s s' := by
  unfold oCsb at h
  split at h
  · rename_i t
    cases hb : Nat.blt (lenN t) 9223372036854775808 with
    | false => rw [hb] at h; simp at h
    | true => rw [hb] at h; simp only [cond_true, Option.some.injEq, Prod.mk.injEq] at h; exact ext_row h.2
  · cases h
theorem oRs_ext {s s' : St} {x v : AV} (h : oRs s x = some (v, s')) : Ext s s' := by
  unfold oRs at h
  split at h
  · simp only [Option.some.injEq, Prod.mk.injEq] at h; exact ext_row h.2
  · cases h
theorem oRm_ext {s s' : St} {x v : AV} (h : oRm s x = some (v, s')) : Ext s s' := by
  unfold oRm at h
  split at h
  · simp only [Option.some.injEq, Prod.mk.injEq] at h; exact ext_row h.2
  · split at h
    · simp only [Option.some.injEq, Prod.mk.injEq] at h; exact ext_row h.2
    · cases h
  · cases h

theorem oUst_ext {s s' : St} {e : Nat} {x n v : AV} (h : oUst s e x n = some (v, s')) : Ext s s' := by
  unfold oUst at h
  split at h
  · split at h
    · split at h
      · simp only [Option.some.injEq, Prod.mk.injEq] at h; exact ext_eq h.2.symm
      · simp only [Option.some.injEq, Prod.mk.injEq] at h; exact ext_eq h.2.symm
      · cases h
    · rename_i m
      split at h
      · split at h
        · rename_i t cs ext _ hg
          cases hb : (Nat.beq t e && Nat.blt m 9223372036854775807) with
          | false => rw [hb] at h; simp at h
          | true =>
            rw [hb] at h; simp only [cond_true] at h
            split at h
            · simp only [Option.some.injEq, Prod.mk.injEq] at h; rw [← h.2]; exact ext_putg hg
            · cases h
        · cases h
      · cases h
  · cases h
theorem opv_ext {E : Env} {op : IOp} {tm : Trie AV} {s s' : St} {v : AV} (h : opv E op tm s = some (v, s')) : Ext s s' := by
  cases op <;> simp only [opv] at h <;> try (cases h; done)
  case mv => obtain ⟨_, _, _, h3⟩ := v1_inv h; exact ext_eq h3
  case pick => exact ext_eq (ret1_inv h).2
  case alloc => simp only [oAlloc, Option.some.injEq, Prod.mk.injEq] at h; exact ext_row h.2
  case box => obtain ⟨_, _, h⟩ := o1_inv h; simp only [oBox, Option.some.injEq, Prod.mk.injEq] at h; exact ext_row h.2
  case build => exact ext_eq (ret1_inv h).2
  case bsl => exact oBsl_ext h
  case ld => obtain ⟨_, _, _, h3⟩ := v1_inv h; exact ext_eq h3
  case ldn => obtain ⟨_, _, _, h3⟩ := v1_inv h; exact ext_eq h3
  case st => obtain ⟨_, _, _, _, h⟩ := o2_inv h; exact oSt_ext h
  case nck => obtain ⟨_, _, _, h3⟩ := v1_inv h; exact ext_eq h3
  case bin => obtain ⟨_, _, _, _, _, h3⟩ := v2_inv h; exact ext_eq h3
  case eqk => obtain ⟨_, _, _, _, _, h3⟩ := v2_inv h; exact ext_eq h3
  case un => obtain ⟨_, _, _, h3⟩ := v1_inv h; exact ext_eq h3
  case ci => obtain ⟨_, _, _, h3⟩ := v1_inv h; exact ext_eq h3
  case css => obtain ⟨_, _, _, h3⟩ := v1_inv h; exact ext_eq h3
  case csb => obtain ⟨_, _, h⟩ := o1_inv h; exact oCsb_ext h
  case cbb => obtain ⟨_, _, h⟩ := o1_inv h; exact oCbb_ext h
  case cbs => obtain ⟨_, _, _, h3⟩ := v1_inv h; exact ext_eq h3
  case cis => obtain ⟨_, _, _, h3⟩ := v1_inv h; exact ext_eq h3
  case mif => obtain ⟨_, _, _, h3⟩ := v1_inv h; exact ext_eq h3
  case mfn => obtain ⟨_, _, _, _, _, h3⟩ := vLL_inv h; exact ext_eq h3
  case mmap => simp only [oMmap, Option.some.injEq, Prod.mk.injEq] at h; exact ext_row h.2
  case msl => obtain ⟨_, _, _, _, h⟩ := o2_inv h; exact oMsl_ext h
  case sls => obtain ⟨_, _, _, _, _, _, _, h3⟩ := vs3_inv h; exact ext_eq h3
  case slv => obtain ⟨_, _, _, _, _, _, _, _, _, h3⟩ := vs4_inv h; exact ext_eq h3
  case sla => obtain ⟨_, _, _, _, _, _, _, _, _, h3⟩ := vs4_inv h; exact ext_eq h3
  case fa => obtain ⟨_, _, _, h3⟩ := v1_inv h; exact ext_eq h3
  case fd => obtain ⟨_, _, _, h3⟩ := v1_inv h; exact ext_eq h3
  case ia => obtain ⟨_, _, _, _, _, h3⟩ := v2_inv h; exact ext_eq h3
  case iaa => obtain ⟨_, _, _, _, _, h3⟩ := v2_inv h; exact ext_eq h3
  case ixs => obtain ⟨_, _, _, _, _, h3⟩ := v2_inv h; exact ext_eq h3
  case ixa => obtain ⟨_, _, _, _, _, h3⟩ := v2_inv h; exact ext_eq h3
  case lk => obtain ⟨_, _, _, _, _, h3⟩ := v2_inv h; exact ext_eq h3
  case mu => obtain ⟨_, _, _, _, _, _, h⟩ := o3_inv h; exact oMu_ext h
  case md => obtain ⟨_, _, _, _, h⟩ := o2_inv h; exact oMd_ext h
  case me => obtain ⟨_, _, _, _, h⟩ := o2_inv h; exact oMe_ext h
  case es => obtain ⟨_, _, _, _, _, _, h⟩ := o3_inv h; exact oEs_ext h
  case rs => obtain ⟨_, _, h⟩ := o1_inv h; exact oRs_ext h
  case ns => obtain ⟨_, _, h⟩ := o1_inv h; exact oNs_ext h
  case rm => obtain ⟨_, _, h⟩ := o1_inv h; exact oRm_ext h
  case nm => obtain ⟨_, _, h⟩ := o1_inv h; exact oNm_ext h
  case en => obtain ⟨_, _, _, h3⟩ := v1_inv h; exact ext_eq h3
  case ex => obtain ⟨_, _, _, h3⟩ := v1_inv h; exact ext_eq h3
  case len => obtain ⟨_, _, _, h3⟩ := v1_inv h; exact ext_eq h3
  case lenc => simp only [Option.some.injEq, Prod.mk.injEq] at h; exact ext_eq h.2.symm
  case cap => obtain ⟨_, _, _, h3⟩ := v1_inv h; exact ext_eq h3
  case app => obtain ⟨_, _, _, _, h⟩ := o2_inv h; exact appV_ext h
  case mn => obtain ⟨_, _, _, h3⟩ := vL_inv h; exact ext_eq h3
  case mx => obtain ⟨_, _, _, h3⟩ := vL_inv h; exact ext_eq h3
  case cup => obtain ⟨_, _, _, h3⟩ := v1_inv h; exact ext_eq h3
  case cpu => obtain ⟨_, _, _, h3⟩ := v1_inv h; exact ext_eq h3
  case usd => obtain ⟨_, _, _, h3⟩ := v1_inv h; exact ext_eq h3
  case nes => obtain ⟨_, _, _, h3⟩ := v1_inv h; exact ext_eq h3
  case ibs => obtain ⟨_, _, _, _, _, h3⟩ := v2_inv h; exact ext_eq h3
  case ust => obtain ⟨_, _, _, _, h⟩ := o2_inv h; exact oUst_ext h
  case appz => obtain ⟨_, _, _, _, h⟩ := o2_inv h; exact appzV_ext h

/-! ### Control -/
structure ExtS (S : Self) : Prop where
  call : ∀ f args s v s', S.call f args s = some (v, s') → Ext s s'
  loop : ∀ rd b fr s res fr' s', S.loop rd b fr s = some (res, fr', s') → Ext s s'
  round : ∀ l args s v s', S.round l args s = some (v, s') → Ext s s'

theorem evOp_ext {E : Env} {S : Self} (hS : ExtS S) {op : IOp} {tm : Trie AV} {s s' : St} {v : AV} (h : evOp E S op tm s = some (v, s')) : Ext s s' := by
  unfold evOp at h
  split at h
  · unfold evCl at h
    split at h
    · exact hS.call _ _ _ _ _ h
    · cases h
  · unfold evCv at h
    split at h
    · split at h
      · exact hS.call _ _ _ _ _ h
      · exact hS.round _ _ _ _ _ h
      · cases h
    · cases h
  · exact opv_ext h

theorem stepS_ext {E : Env} {S : Self} (hS : ExtS S) {o : SOper} {tm tm' : Trie AV} {s s' : St} (h : stepS E S o tm s = some (tm', s')) : Ext s s' := by
  unfold stepS at h
  split at h
  · cases he : evOp E S o.op tm s with
    | none => rw [he] at h; simp [stS] at h
    | some p => rw [he] at h; simp only [stS, Option.some.injEq, Prod.mk.injEq] at h; rw [← h.2]; exact evOp_ext hS (v := p.1) (s' := p.2) he
  · simp only [Option.some.injEq, Prod.mk.injEq] at h; exact ext_eq h.2.symm
  · cases h
theorem evS_ext {E : Env} {S : Self} (hS : ExtS S) : ∀ {l : List SOper} {tm tm' : Trie AV} {s s' : St}, evS E S l tm s = some (tm', s') → Ext s s'
  | [], tm, tm', s, s', h => by simp only [evS, Option.some.injEq, Prod.mk.injEq] at h; exact ext_eq h.2.symm
  | o :: r, tm, tm', s, s', h => by
    simp only [evS] at h
    split at h
    · rename_i p hp
      exact (stepS_ext hS (tm' := p.1) (s' := p.2) hp).trans (evS_ext hS h)
    · cases h

theorem hidden_more (deps : Nat) (h : List (Nat × Nat)) (id : Nat) : ∀ (log : List LogE), hid h id = true → hid (hiddenOf deps log h) id = true
  | [], hh => hh
  | e :: r, hh => by
    simp only [hiddenOf]
    cases hb : (Nat.beq e.lo e.hi || deps.testBit e.idx) with
    | true => simp only [cond_true]; exact hidden_more deps h id r hh
    | false =>
      simp only [cond_false, hid]
      have := hidden_more deps h id r hh
      cases Nat.ble e.lo id <;> cases Nat.blt id e.hi <;> simp [this]
theorem seen_begD {o : DOper} {log : List LogE} {tm : Trie AV} {s : St} (hon : s.only = none) {id : Nat} (h : seen (begD o log tm s) id = true) : seen s id = true := by
  unfold seen at h ⊢
  rw [hon]
  cases hh : hid s.hide id with
  | false => rfl
  | true =>
    have := hidden_more o.deps s.hide id log hh
    exfalso
    simp only [begD] at h
    split at h
    · rw [this] at h; cases h
    · rw [this] at h; cases h

/-- the state behind an operation of a region that draws its order -/
theorem endD_ext {o : DOper} {log : List LogE} {tm : Trie AV} {s t : St} (hon : s.only = none) (hlog : ∀ e ∈ log, e.hi ≤ s.next) (h : Ext (begD o log tm s) t) : Ext s { t with hide := s.hide, only := s.only, wm := Nat.lor s.wm t.wm } := by
  refine ⟨h.next, fun i hi => ?_, rfl, rfl, fun id hid hw => ?_, h.vis, fun hwf => ⟨?_, fun p hp => Nat.le_trans (hwf.hd p hp) h.next⟩, fun id hid hw => ?_, fun id o' hid ho hgo hw => ?_⟩
  rotate_right
  · have : (s.wm ||| t.wm).testBit id = true := hw
    rw [Nat.testBit_or, Bool.or_eq_true] at this
    rcases this with h1 | h1
    · exact h1
    · have := h.giv id o' hid ho hgo h1
      simp [begD] at this
  · show (s.wm ||| t.wm).testBit i = true
    rw [Nat.testBit_or, hi]; rfl
  · have : (s.wm ||| t.wm).testBit id = false := hw
    rw [Nat.testBit_or, Bool.or_eq_false_iff] at this
    exact h.keep id hid this.2
  · have hb : Wf (begD o log tm s) := ⟨hwf.lt, fun p hp => by
      have key : ∀ (l : List LogE), (∀ e ∈ l, e.hi ≤ s.next) → p ∈ hiddenOf o.deps l s.hide → p.2 ≤ s.next := by
        intro l
        induction l with
        | nil => intro _ hp; exact hwf.hd p hp
        | cons e r ih =>
          intro hl hp
          simp only [hiddenOf] at hp
          cases hb : (Nat.beq e.lo e.hi || o.deps.testBit e.idx) with
          | true => rw [hb] at hp; simp only [cond_true] at hp; exact ih (fun e' he' => hl e' (by simp [he'])) hp
          | false =>
            rw [hb] at hp; simp only [cond_false, List.mem_cons] at hp
            rcases hp with rfl | hp
            · exact hl e (by simp)
            · exact ih (fun e' he' => hl e' (by simp [he'])) hp
      exact key log hlog hp⟩
    exact (h.wf hb).lt
  · have : (s.wm ||| t.wm).testBit id = true := hw
    rw [Nat.testBit_or, Bool.or_eq_true] at this
    rcases this with h1 | h1
    · exact .inl h1
    · rcases h.wv id hid h1 with h2 | h2
      · simp [begD] at h2
      · exact .inr (seen_begD hon h2)

theorem stepD_ext {E : Env} {S : Self} (hS : ExtS S) {o : DOper} {i : Nat} {log : List LogE} {tm : Trie AV} {s : St} {p : List LogE × Trie AV × St} (hon : s.only = none) (hlog : ∀ e ∈ log, e.hi ≤ s.next) (h : stepD E S o i log tm s = some p) : Ext s p.2.2 ∧ ∀ e ∈ p.1, e.hi ≤ p.2.2.next := by
  unfold stepD at h
  split at h
  · cases he : evOp E S o.o.op tm (begD o log tm s) with
    | none => rw [he] at h; simp [endD] at h
    | some q =>
      rw [he] at h; simp only [endD] at h
      have := endD_ext hon hlog (evOp_ext hS (v := q.1) (s' := q.2) he)
      cases hb : compat o.deps (touch o.o.op tm) (oldMask q.2.wm s.next) log with
      | false => rw [hb] at h; simp at h
      | true =>
        rw [hb] at h; simp only [cond_true, Option.some.injEq] at h; subst h
        refine ⟨this, fun e he => ?_⟩
        rcases List.mem_cons.1 he with rfl | he
        · exact Nat.le_refl _
        · exact Nat.le_trans (hlog e he) this.next
  · simp only [Option.some.injEq] at h; subst h; exact ⟨Ext.refl s, hlog⟩
  · cases h
theorem evD_ext {E : Env} {S : Self} (hS : ExtS S) : ∀ {l : List DOper} {i : Nat} {log : List LogE} {tm tm' : Trie AV} {s s' : St}, s.only = none → (∀ e ∈ log, e.hi ≤ s.next) → evD E S l i log tm s = some (tm', s') → Ext s s'
  | [], i, log, tm, tm', s, s', _, _, h => by simp only [evD, Option.some.injEq, Prod.mk.injEq] at h; exact ext_eq h.2.symm
  | o :: r, i, log, tm, tm', s, s', hon, hlog, h => by
    simp only [evD] at h
    split at h
    · rename_i p hp
      obtain ⟨h1, h2⟩ := stepD_ext hS hon hlog hp
      exact h1.trans (evD_ext hS (h1.only.trans hon) h2 h)
    · cases h

theorem thenR_ext {k : Fr → St → Option (Res × Fr × St)} {x : Option (Res × Fr × St)} {s : St} {res : Res} {fr' : Fr} {s' : St} (hx : ∀ p, x = some p → Ext s p.2.2) (hk : ∀ fr s res fr' s', k fr s = some (res, fr', s') → Ext s s') (h : thenR k x = some (res, fr', s')) : Ext s s' := by
  cases x with
  | none => simp [thenR] at h
  | some p =>
    simp only [thenR] at h
    have := hx p rfl
    split at h
    · exact this.trans (hk _ _ _ _ _ h)
    · cases h; exact this

theorem evC_ext {E : Env} {S : Self} (hS : ExtS S) {rd : Option Nat} : ∀ {c : ICode} {fr fr' : Fr} {s s' : St} {res : Res}, evC E S rd c fr s = some (res, fr', s') → Ext s s'
  | .skip, fr, fr', s, s', res, h => by simp only [evC] at h; cases h; exact Ext.refl _
  | .reg ops, fr, fr', s, s', res, h => by
    simp only [evC] at h
    cases he : evS E S ops fr.tm s with
    | none => rw [he] at h; simp [normR] at h
    | some p => rw [he] at h; simp only [normR] at h; cases h; exact evS_ext hS (tm' := p.1) he
  | .regd ops, fr, fr', s, s', res, h => by
    simp only [evC, regdR] at h
    split at h
    case h_2 => cases h
    rename_i hon
    cases he : evD E S ops 0 [] fr.tm s with
    | none => rw [he] at h; simp [normR] at h
    | some p => rw [he] at h; simp only [normR] at h; cases h; exact evD_ext hS hon (fun e he => by simp at he) (tm' := p.1) he
  | .seq a b, fr, fr', s, s', res, h => by
    simp only [evC] at h
    exact thenR_ext (fun p hp => evC_ext hS (res := p.1) (fr' := p.2.1) hp) (fun fr s res fr' s' h => evC_ext hS h) h
  | .cond c a b, fr, fr', s, s', res, h => by
    simp only [evC, condR] at h
    split at h
    · exact evC_ext hS h
    · exact evC_ext hS h
    · cases h
  | .block id b, fr, fr', s, s', res, h => by
    simp only [evC] at h
    cases he : evC E S rd b fr s with
    | none => rw [he] at h; simp [blockR] at h
    | some p =>
      have := evC_ext hS (res := p.1) (fr' := p.2.1) (s' := p.2.2) he
      rw [he] at h; simp only [blockR] at h
      split at h
      · rename_i i _
        cases hb : Nat.beq i id with
        | true => rw [hb] at h; simp only [cond_true, Option.some.injEq, Prod.mk.injEq] at h; rw [h.2] at this; exact this
        | false => rw [hb] at h; simp only [cond_false] at h; cases h; exact this
      · cases h; exact this
  | .loop b, fr, fr', s, s', res, h => by
    simp only [evC] at h
    exact thenR_ext (fun p hp => evC_ext hS (res := p.1) (fr' := p.2.1) hp) (fun fr s res fr' s' h => hS.loop _ _ _ _ _ _ _ h) h
  | .exit id, fr, fr', s, s', res, h => by simp only [evC] at h; cases h; exact Ext.refl _
  | .ret, fr, fr', s, s', res, h => by simp only [evC] at h; cases h; exact Ext.refl _
  | .rf g ps asg body, fr, fr', s, s', res, h => by
    simp only [evC, rfR] at h
    split at h
    · split at h
      · rename_i f a c _
        cases he : S.call f (a ++ .yld (Nat.succ s.next) :: c) ((s.alloc .dfd).alloc (.loop .ready none fr.tm ps asg body s.next)) with
        | none => rw [he] at h; simp [rfEnd] at h
        | some p =>
          have := ((ext_alloc s .dfd).trans (ext_alloc (s.alloc .dfd) (.loop .ready none fr.tm ps asg body s.next))).trans (hS.call _ _ _ p.1 p.2 he)
          rw [he] at h; simp only [rfEnd] at h
          split at h
          · rename_i hg
            split at h
            · cases h
            · cases h; exact this.trans (ext_putg hg)
          · cases h
      · cases h
    · cases h
  | .stk, fr, fr', s, s', res, h => by simp [evC] at h

theorem takeMarks_ext : ∀ {l : List Nat} {s s' : St}, takeMarks s l = some s' → Ext s s'
  | [], s, s', h => by simp only [takeMarks, Option.some.injEq] at h; exact ext_eq h.symm
  | d :: r, s, s', h => by
    simp only [takeMarks] at h
    split at h
    · rename_i hg; exact (ext_putg hg).trans (takeMarks_ext h)
    · cases h

theorem callF_ext {E : Env} {S : Self} (hS : ExtS S) {f : Nat} {args : List AV} {s s' : St} {v : AV} (h : callF E S f args s = some (v, s')) : Ext s s' := by
  unfold callF at h
  split at h
  · rename_i F _
    cases hb : Nat.ble (lenN args) F.ntmps with
    | false => rw [hb] at h; simp at h
    | true =>
    rw [hb] at h; simp only [cond_true] at h
    cases he : evC E S none F.body { tm := setArgs .leaf 0 args, df := [] } s with
    | none => rw [he] at h; simp [callEnd] at h
    | some p =>
      have := evC_ext hS (res := p.1) (fr' := p.2.1) (s' := p.2.2) he
      rw [he] at h; simp only [callEnd] at h
      split at h
      · cases h
      · split at h
        · rename_i s1 hm
          have h2 := this.trans (takeMarks_ext hm)
          unfold resE at h
          split at h
          · cases h; exact h2
          · cases h
        · cases h
  · cases h
theorem roundF_ext {E : Env} {S : Self} (hS : ExtS S) {l : Nat} {args : List AV} {s s' : St} {v : AV} (h : roundF E S l args s = some (v, s')) : Ext s s' := by
  unfold roundF at h
  split at h
  · rename_i tm ps asg bd d _
    split at h
    · rename_i tm1 _
      cases he : evC E S (some l) asg { tm := tm1, df := [] } s with
      | none => rw [he] at h; simp [roundBody] at h
      | some p =>
        have h1 := evC_ext hS (res := p.1) (fr' := p.2.1) (s' := p.2.2) he
        rw [he] at h; simp only [roundBody] at h
        split at h
        · split at h
          · rename_i pend tm ps asg body d hg
            cases he2 : evC E S (some l) bd p.2.1 (p.2.2.put l (.loop .busy pend tm ps asg body d)) with
            | none => rw [he2] at h; simp [roundEnd] at h
            | some q =>
              have h2 := (h1.trans (ext_putg (o' := .loop .busy pend tm ps asg body d) hg)).trans (evC_ext hS (res := q.1) (fr' := q.2.1) (s' := q.2.2) he2)
              rw [he2] at h; simp only [roundEnd] at h
              split at h
              · rename_i hg2
                split at h
                · cases h; exact h2.trans (ext_putg hg2)
                · cases h; exact h2.trans (ext_putg hg2)
              · cases h
          · cases h
        · cases h
    · cases h
  · cases h

theorem ev_ext (E : Env) : ∀ n, ExtS (ev E n)
  | 0 => ⟨fun _ _ _ _ _ h => by simp [ev] at h, fun _ _ _ _ _ _ _ h => by simp [ev] at h, fun _ _ _ _ _ h => by simp [ev] at h⟩
  | n + 1 => ⟨fun _ _ _ _ _ h => callF_ext (ev_ext E n) h, fun _ _ _ _ _ _ _ h => evC_ext (ev_ext E n) h, fun _ _ _ _ _ h => roundF_ext (ev_ext E n) h⟩

end Go.Proofs.YtoejmfiaaigpbaaGreatDoor.Ev

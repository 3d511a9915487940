/- Part of a verified evaluator of the model's code, generic over the program: a run of the evaluator that answers shows what the model's run answers. No conditions of its own. -/
import Derived.Test.YtoejmfiaaigpbaaGreatDoorEvSeq
namespace Go.Proofs.YtoejmfiaaigpbaaGreatDoor.Ev

/-- the regions that draw their order (EvDraw) -/
def DrawOk (P : Program) (w0 : World) (E : Env) (S : Self) : Prop :=
  ∀ {id nt : Nat} {ops : Array Oper} {ds : List DOper} {tm tm' : Trie AV} {s s' : St} {φ : Phi} {w : World} {a : Act} {F : Fence} {n : Nat} {Q : Exit → Act → World → Prop}, cRegD P nt ops = some ds → s.only = none → evD E S ds 0 [] tm s = some (tm', s') → Rel P w0 φ s.get w → Wf s → Fresh φ s s' → TmRel φ tm a.tmps → a.tmps.size = nt → Wide F →
    (∀ φ' a' w', Step P w0 φ s w φ' s' w' → PutOk φ' nt tm' a a' → Q .normal a' w') → (Code.region id ops true).wpIn F n P Q a w

section
variable {P : Program} {w0 : World} {E : Env} {S : Self}

theorem res_code {F : Fence} {n : Nat} {Q : Exit → Act → World → Prop} {a : Act} {w : World} (r : Res) (h : Q r.ex a w) : r.code.wpIn F n P Q a w := by
  cases r with
  | norm => exact wpIn_skip h
  | exit id => exact wpIn_exit h
  | ret => exact wpIn_ret h

theorem codeQ_trans {φ φ1 : Phi} {nt : Nat} {s s1 s2 : St} {w w1 : World} {res : Res} {fr' : Fr} {e : Exit} {a' : Act} {w' : World} (hwf : Wf s) (h1 : Step P w0 φ s w φ1 s1 w1) (h2 : CodeQ P w0 φ1 nt s1 w1 res fr' s2 e a' w') : CodeQ P w0 φ nt s w res fr' s2 e a' w' := by
  obtain ⟨φ', e1, k1, k2⟩ := h2
  exact ⟨φ', e1, Step.trans hwf h1 k1, k2⟩

/-- behind the first of two -/
theorem then_sound {nt : Nat} {φ : Phi} {s s' s1 : St} {w : World} {res1 res : Res} {fr1 fr' : Fr} {k : Fr → St → Option (Res × Fr × St)} {K : Act → World → Prop} (hwf : Wf s) (hf : Fresh φ s s') (hs1 : s.next ≤ s1.next) (h : thenR k (some (res1, fr1, s1)) = some (res, fr', s'))
    (hK : ∀ φ1 a1 w1, k fr1 s1 = some (res, fr', s') → Step P w0 φ s w φ1 s1 w1 → FrRel φ1 nt fr1 a1 → Fresh φ1 s1 s' → K a1 w1) :
    ∀ e a1 w1, CodeQ P w0 φ nt s w res1 fr1 s1 e a1 w1 → Exit.then K (CodeQ P w0 φ nt s w res fr' s') e a1 w1 := by
  rintro e a1 w1 ⟨φ1, rfl, k1, k2⟩
  simp only [thenR] at h
  cases res1 with
  | norm =>
    simp only at h
    exact hK φ1 a1 w1 h k1 k2 (hf.right hs1 k1.same)
  | exit id => simp only [Option.some.injEq, Prod.mk.injEq] at h; obtain ⟨rfl, rfl, rfl⟩ := h; exact ⟨φ1, rfl, k1, k2⟩
  | ret => simp only [Option.some.injEq, Prod.mk.injEq] at h; obtain ⟨rfl, rfl, rfl⟩ := h; exact ⟨φ1, rfl, k1, k2⟩

theorem all_lt {ps : Array Nat} {nt : Nat} (h : ps.all (Nat.blt · nt) = true) : ∀ q ∈ ps.toList, q < nt := by
  intro q hq
  rw [← Array.all_toList, List.all_eq_true] at h
  exact blt_iff.1 (h q hq)

theorem rf_sound (hS : SelfOk P w0 S) {F : Fence} {n nt : Nat} (hF : Wide F) {g : Operand} {g' : Opd} {ps : Array Tmp} {asg body : Code} {ia ib : ICode} {rd : Option Nat} {fr fr' : Fr} {s s' : St} {res : Res} {φ : Phi} {w : World} {a : Act}
    (hg : cOpd g = some g') (ha : cC P nt asg = some ia) (hb : cC P nt body = some ib) (hps : ps.all (Nat.blt · nt) = true) (h : rfR S rd (g'.ev fr.tm) ps.toList ia ib fr s = some (res, fr', s'))
    (r : Rel P w0 φ s.get w) (hwf : Wf s) (hf : Fresh φ s s') (hfr : FrRel φ nt fr a) (hrd : rd = none → F.round = none) : (Code.rangeFunc g ps asg body).wpIn F n P (CodeQ P w0 φ nt s w res fr' s') a w := by
  unfold rfR at h
  split at h
  · have hro := hrd rfl
    split at h
    · rename_i f u k hfn
      cases he : S.call f (u ++ .yld (Nat.succ s.next) :: k) ((s.alloc .dfd).alloc (.loop .ready none fr.tm ps.toList ia ib s.next)) with
      | none => rw [he] at h; simp [rfEnd] at h
      | some p =>
        have hnx := hS.mono.call _ _ _ p.1 p.2 he
        rw [next_alloc, next_alloc] at hnx
        have hs' : p.2.next = s'.next := by
          rw [he] at h; simp only [rfEnd] at h
          split at h
          · split at h
            · cases h
            · cases h; rfl
          · cases h
        have hfv := opd_sound (φ := φ) (a := a) hg hfn (TmOn.of hfr.tm)
        simp only [VR] at hfv
        obtain ⟨xs, ys, e1, e2, e3⟩ := hfv
        have hf1 : φ s.next = none := hf _ (Nat.le_refl _) (by omega)
        have hf2 : φ (s.next + 1) = none := hf _ (by omega) (by omega)
        refine wpIn_rangeFunc fun fn _ => ?_
        rw [hro]
        obtain ⟨L, hL⟩ : ∃ L : Loop, L = { state := .ready, pending := none, fn := fn, tmps := a.tmps, params := ps, assign := asg, body := body, defers := w.heap.size } := ⟨_, rfl⟩
        obtain ⟨W1, hW1⟩ : ∃ W1, W1 = w.alloc (.deferred (some [])) := ⟨_, rfl⟩
        obtain ⟨W2, hW2⟩ : ∃ W2, W2 = W1.alloc (.loop L) := ⟨_, rfl⟩
        have hsz1 : W1.heap.size = w.heap.size + 1 := by rw [hW1]; simp
        have st1 : Step P w0 φ s w (φ.set s.next ⟨w.heap.size, 0, 0⟩) (s.alloc .dfd) W1 := Step.alloc r hwf hf1 (by rw [hW1]; rfl) (by rw [hW1]; rfl) (by rw [hW1]; rfl) (by rw [hW1]; rfl) (by simp only [ObjRel]; rw [hW1]; exact World.alloc_heap_new _ _)
        have hf2' : (φ.set s.next ⟨w.heap.size, 0, 0⟩) (s.alloc .dfd).next = none := by
          rw [next_alloc]; unfold Phi.set; rw [if_neg (by omega)]; exact hf2
        have hsub1 := Phi.set_sub (B := ⟨w.heap.size, 0, 0⟩) hf1
        have hsub2 := Phi.set_sub (B := ⟨W1.heap.size, 0, 0⟩) hf2'
        have st2 : Step P w0 (φ.set s.next ⟨w.heap.size, 0, 0⟩) (s.alloc .dfd) W1 ((φ.set s.next ⟨w.heap.size, 0, 0⟩).set (s.alloc .dfd).next ⟨W1.heap.size, 0, 0⟩) ((s.alloc .dfd).alloc (.loop .ready none fr.tm ps.toList ia ib s.next)) W2 := by
          refine Step.alloc st1.rel (st1.ext.wf hwf) hf2' (by rw [hW2]; rfl) (by rw [hW2]; rfl) (by rw [hW2]; rfl) (by rw [hW2]; rfl) ⟨L, by rw [hW2]; exact World.alloc_heap_new _ _, ?_⟩
          rw [hL]
          refine ⟨rfl, rfl, by simp, by simp only; rw [hfr.size]; exact ha, by simp only; rw [hfr.size]; exact hb, hfr.tm.mono (fun id B h => hsub2 _ _ (hsub1 _ _ h)), ⟨⟨w.heap.size, 0, 0⟩, hsub2 _ _ (by simp [Phi.set]), rfl⟩, ?_⟩
          intro q hq
          simp only; rw [hfr.size]
          exact all_lt hps q hq
        have st := Step.trans hwf st1 st2
        obtain ⟨⟨fd, g1, g2, g3⟩, g4⟩ := hS.call he
        obtain ⟨φ2, hφ2⟩ : ∃ φ2, φ2 = (φ.set s.next ⟨w.heap.size, 0, 0⟩).set (s.alloc .dfd).next ⟨W1.heap.size, 0, 0⟩ := ⟨_, rfl⟩
        rw [← hφ2] at st
        have hyl : φ2 (Nat.succ s.next) = some ⟨W1.heap.size, 0, 0⟩ := by rw [hφ2]; simp [Phi.set, next_alloc]
        have hdl : φ2 s.next = some ⟨w.heap.size, 0, 0⟩ := by rw [hφ2]; simp [Phi.set, next_alloc]
        have hfr2 : Fresh φ2 ((s.alloc .dfd).alloc (.loop .ready none fr.tm ps.toList ia ib s.next)) p.2 := hf.right (s1 := (s.alloc .dfd).alloc (.loop .ready none fr.tm ps.toList ia ib s.next)) (by rw [next_alloc, next_alloc]; omega) st.same |>.left (by omega)
        have hsub : Sub φ φ2 := st.sub (hf.left (by rw [next_alloc, next_alloc]; omega))
        have hargs : VRL φ2 (u ++ .yld (Nat.succ s.next) :: k) (xs ++ (.func (.yield W1.heap.size) #[] #[]) :: ys) := VRL.append (VRL.mono hsub _ _ e2) (VRL.cons (by simp only [VR]; exact ⟨_, hyl, rfl⟩) (VRL.mono hsub _ _ e3))
        refine ⟨W1.heap.size, [{ target := .collected w.heap.size, args := #[] }], W2, { target := .fn (.func f) ys.toArray, args := xs.toArray ++ #[.func (.yield W1.heap.size) #[] #[]] }, W2, f, (xs ++ (.func (.yield W1.heap.size) #[] #[]) :: ys).toArray, W2, ?_, ?_, fun f' _ => hF.fn f', ?_, fun h => (by rw [hF.depth] at h; cases h), ?_⟩
        · rw [run_enterLoop_outer, hW2, hW1, hL]; simp
        · simp only [resolve, e1, Deferred.ofValue, Sem.run_pure, List.map_toArray, List.map_cons, List.map_nil]
          rfl
        · simp only [invoke]
          have : xs.toArray ++ #[.func (.yield W1.heap.size) #[] #[]] ++ ys.toArray = (xs ++ (.func (.yield W1.heap.size) #[] #[]) :: ys).toArray := by apply Array.ext'; simp
          rw [this]
          exact run_callFunc g1 g2 g3
        · refine CallsIn.mono (g4 st.rel (st.ext.wf hwf) hfr2 hargs F (n - 1) hF) ?_
          rintro e w3 ⟨φ3, x, rfl, k1, k2⟩
          rw [he] at h; simp only [rfEnd] at h
          split at h
          · rename_i lst pend ltm lps lasg lbody ldd hgl
            have hsub3 := k1.sub hfr2
            obtain ⟨B3, hB3, L3, hh3, hl3⟩ := k1.rel.obj _ _ hgl
            rw [hsub3 _ _ hyl] at hB3; cases hB3
            simp only at hh3
            have hnb : L3.state ≠ .busy := by
              rw [hl3.state]
              intro hbz
              cases lst <;> simp [LSt.conc] at hbz
              simp at h
            have hend := run_endLoop (P := P) hh3 hnb
            have hres : (res, fr', s') = (pendR pend, { fr with df := s.next :: fr.df }, p.2.put (Nat.succ s.next) (.loop .exhausted pend ltm lps lasg lbody ldd)) := by
              cases lst <;> simp only [Option.some.injEq] at h <;> first | exact h.symm | (cases h; done)
            simp only [Prod.mk.injEq] at hres
            obtain ⟨hr1, hr2, hr3⟩ := hres
            subst hr1; subst hr2; subst hr3
            have st3 : Step P w0 φ3 p.2 w3 φ3 (p.2.put (Nat.succ s.next) (.loop .exhausted pend ltm lps lasg lbody ldd)) (w3.putObj W1.heap.size (.loop { L3 with state := .exhausted })) :=
              Step.setObj k1.rel hgl (hsub3 _ _ hyl) hh3 (x' := .loop { L3 with state := .exhausted }) ⟨_, setIn hh3, ⟨rfl, hl3.pend, hl3.params, hl3.asg, hl3.body, hl3.tm, hl3.df, hl3.ps⟩⟩
            have stF := Step.trans hwf (Step.trans hwf st k1) st3
            have hsubF : Sub φ φ3 := fun id B h => hsub3 _ _ (hsub _ _ h)
            have hfrF : FrRel φ3 nt { fr with df := s.next :: fr.df } { a with defers := [{ target := .collected w.heap.size, args := #[] }] ++ a.defers } :=
              ⟨hfr.tm.mono hsubF, hfr.size, ⟨⟨w.heap.size, 0, 0⟩, a.defers, hsub3 _ _ hdl, rfl, hfr.df.mono hsubF⟩⟩
            refine ⟨L3.pending, _, hend, ?_⟩
            have hpend := hl3.pend
            generalize L3.pending = q at hpend stF ⊢
            subst hpend
            cases pend with
            | none => exact ⟨φ3, rfl, stF, hfrF⟩
            | some r0 => exact res_code r0 ⟨φ3, rfl, stF, hfrF⟩
          · cases h
    · cases h
  · cases h

/-- CODE. -/
theorem evC_sound (hS : SelfOk P w0 S) (hG : GlobRel E.globs w0) (hD : DrawOk P w0 E S) {F : Fence} {n nt : Nat} (hF : Wide F) {rd : Option Nat} (hrd : rd = none → F.round = none) :
    ∀ (c : Code) {ic : ICode} {fr fr' : Fr} {s s' : St} {res : Res} {φ : Phi} {w : World} {a : Act}, cC P nt c = some ic → evC E S rd ic fr s = some (res, fr', s') → Rel P w0 φ s.get w → Wf s → Fresh φ s s' → FrRel φ nt fr a →
      c.wpIn F n P (CodeQ P w0 φ nt s w res fr' s') a w
  | .skip, ic, fr, fr', s, s', res, φ, w, a, hc, h, r, hwf, hf, hfr => by
    simp only [cC, Option.some.injEq] at hc; subst hc
    simp only [evC, Option.some.injEq, Prod.mk.injEq] at h; obtain ⟨rfl, rfl, rfl⟩ := h
    exact wpIn_skip ⟨φ, rfl, Step.refl r, hfr⟩
  | .exit id, ic, fr, fr', s, s', res, φ, w, a, hc, h, r, hwf, hf, hfr => by
    simp only [cC, Option.some.injEq] at hc; subst hc
    simp only [evC, Option.some.injEq, Prod.mk.injEq] at h; obtain ⟨rfl, rfl, rfl⟩ := h
    exact wpIn_exit ⟨φ, rfl, Step.refl r, hfr⟩
  | .ret, ic, fr, fr', s, s', res, φ, w, a, hc, h, r, hwf, hf, hfr => by
    simp only [cC, Option.some.injEq] at hc; subst hc
    simp only [evC, Option.some.injEq, Prod.mk.injEq] at h; obtain ⟨rfl, rfl, rfl⟩ := h
    exact wpIn_ret ⟨φ, rfl, Step.refl r, hfr⟩
  | .region id ops false, ic, fr, fr', s, s', res, φ, w, a, hc, h, r, hwf, hf, hfr => by
    simp only [cC] at hc
    obtain ⟨l, hl, rfl⟩ := Option.map_eq_some_iff.1 hc
    simp only [evC] at h
    cases he : evS E S l fr.tm s with
    | none => rw [he] at h; simp [normR] at h
    | some p =>
      rw [he] at h; simp only [normR, Option.some.injEq, Prod.mk.injEq] at h; obtain ⟨rfl, rfl, rfl⟩ := h
      refine wpIn_region ?_
      rw [List.range_eq_range', ← Array.length_toList]
      exact evS_sound hS hG hF ops.toList 0 (by simp) hl (tm' := p.1) (s' := p.2) he r hwf hf hfr.tm hfr.size fun φ' a' w' k1 k2 =>
        ⟨φ', rfl, k1, ⟨k2.1, k2.2.1, by rw [k2.2.2]; exact hfr.df.mono (k1.sub hf)⟩⟩
  | .region id ops true, ic, fr, fr', s, s', res, φ, w, a, hc, h, r, hwf, hf, hfr => by
    simp only [cC] at hc
    obtain ⟨l, hl, rfl⟩ := Option.map_eq_some_iff.1 hc
    simp only [evC, regdR] at h
    split at h
    case h_2 => cases h
    rename_i hon
    cases he : evD E S l 0 [] fr.tm s with
    | none => rw [he] at h; simp [normR] at h
    | some p =>
      rw [he] at h; simp only [normR, Option.some.injEq, Prod.mk.injEq] at h; obtain ⟨rfl, rfl, rfl⟩ := h
      exact hD hl hon (tm' := p.1) (s' := p.2) he r hwf hf hfr.tm hfr.size hF fun φ' a' w' k1 k2 =>
        ⟨φ', rfl, k1, ⟨k2.1, k2.2.1, by rw [k2.2.2]; exact hfr.df.mono (k1.sub hf)⟩⟩
  | .seq x y, ic, fr, fr', s, s', res, φ, w, a, hc, h, r, hwf, hf, hfr => by
    simp only [cC] at hc
    split at hc
    · rename_i ix iy hx hy
      simp only [Option.some.injEq] at hc; subst hc
      simp only [evC] at h
      cases he : evC E S rd ix fr s with
      | none => rw [he] at h; simp [thenR] at h
      | some p =>
        obtain ⟨res1, fr1, s1⟩ := p
        rw [he] at h
        have hn1 := evC_next hS.mono he
        have hn2 : s1.next ≤ s'.next := thenR_next (x := some (res1, fr1, s1)) (fun p hp => by cases hp; exact Nat.le_refl _) (fun _ _ _ _ _ h => evC_next hS.mono h) h
        refine wpIn_seq (wpIn_mono (evC_sound hS hG hD hF hrd x hx he r hwf (hf.left hn2) hfr) (then_sound hwf hf hn1 h fun φ1 a1 w1 hk k1 k2 k3 => ?_))
        exact wpIn_mono (evC_sound hS hG hD hF hrd y hy hk k1.rel (k1.ext.wf hwf) k3 k2) fun e a2 w2 q => codeQ_trans hwf k1 q
    · cases hc
  | .cond b x y, ic, fr, fr', s, s', res, φ, w, a, hc, h, r, hwf, hf, hfr => by
    simp only [cC] at hc
    split at hc
    · rename_i ib ix iy hb hx hy
      simp only [Option.some.injEq] at hc; subst hc
      simp only [evC, condR] at h
      split at h
      · rename_i hbv
        have := opd_sound (φ := φ) (a := a) hb hbv (TmOn.of hfr.tm)
        simp only [VR] at this
        exact wpIn_cond_true this (evC_sound hS hG hD hF hrd x hx h r hwf hf hfr)
      · rename_i hbv
        have := opd_sound (φ := φ) (a := a) hb hbv (TmOn.of hfr.tm)
        simp only [VR] at this
        exact wpIn_cond_false this (evC_sound hS hG hD hF hrd y hy h r hwf hf hfr)
      · cases h
    · cases hc
  | .block id b, ic, fr, fr', s, s', res, φ, w, a, hc, h, r, hwf, hf, hfr => by
    simp only [cC] at hc
    obtain ⟨ib, hb, rfl⟩ := Option.map_eq_some_iff.1 hc
    simp only [evC] at h
    cases he : evC E S rd ib fr s with
    | none => rw [he] at h; simp [blockR] at h
    | some p =>
      obtain ⟨res1, fr1, s1⟩ := p
      rw [he] at h; simp only [blockR] at h
      have hsame : s1 = s' ∧ fr1 = fr' ∧ (∀ i, res1 = .exit i → if i = id then res = .norm else res = .exit i) ∧ ((∀ i, res1 ≠ .exit i) → res = res1) := by
        cases res1 with
        | norm => simp only [Option.some.injEq, Prod.mk.injEq] at h; obtain ⟨rfl, rfl, rfl⟩ := h; exact ⟨rfl, rfl, (fun i hi => by cases hi), fun _ => rfl⟩
        | ret => simp only [Option.some.injEq, Prod.mk.injEq] at h; obtain ⟨rfl, rfl, rfl⟩ := h; exact ⟨rfl, rfl, (fun i hi => by cases hi), fun _ => rfl⟩
        | exit i =>
          simp only at h
          cases hb2 : Nat.beq i id with
          | true =>
            rw [hb2] at h; simp only [cond_true, Option.some.injEq, Prod.mk.injEq] at h
            obtain ⟨rfl, rfl, rfl⟩ := h
            refine ⟨rfl, rfl, fun j hj => ?_, fun hne => absurd rfl (hne i)⟩
            cases hj
            rw [if_pos (beq_iff.1 hb2)]
          | false =>
            rw [hb2] at h; simp only [cond_false, Option.some.injEq, Prod.mk.injEq] at h
            obtain ⟨rfl, rfl, rfl⟩ := h
            refine ⟨rfl, rfl, fun j hj => ?_, fun _ => rfl⟩
            cases hj
            rw [if_neg (fun e => by rw [beq_iff.2 e] at hb2; cases hb2)]
      obtain ⟨rfl, rfl, h1, h2⟩ := hsame
      refine wpIn_block (wpIn_mono (evC_sound hS hG hD hF hrd b hb he r hwf hf hfr) ?_)
      rintro e a1 w1 ⟨φ1, rfl, k1, k2⟩
      cases res1 with
      | norm => exact ⟨φ1, by rw [h2 (by intro i hi; cases hi)], k1, k2⟩
      | ret => exact ⟨φ1, by rw [h2 (by intro i hi; cases hi)], k1, k2⟩
      | exit i =>
        have := h1 i rfl
        simp only [Res.ex, Exit.inBlock]
        by_cases hii : i = id
        · rw [if_pos hii] at this ⊢; exact ⟨φ1, by rw [this]; rfl, k1, k2⟩
        · rw [if_neg hii] at this ⊢; exact ⟨φ1, by rw [this]; rfl, k1, k2⟩
  | .loop b, ic, fr, fr', s, s', res, φ, w, a, hc, h, r, hwf, hf, hfr => by
    simp only [cC] at hc
    obtain ⟨ib, hb, rfl⟩ := Option.map_eq_some_iff.1 hc
    simp only [evC] at h
    cases he : evC E S rd ib fr s with
    | none => rw [he] at h; simp [thenR] at h
    | some p =>
      obtain ⟨res1, fr1, s1⟩ := p
      rw [he] at h
      have hn1 := evC_next hS.mono he
      have hn2 : s1.next ≤ s'.next := thenR_next (x := some (res1, fr1, s1)) (fun p hp => by cases hp; exact Nat.le_refl _) (fun _ _ _ _ _ h => hS.mono.loop _ _ _ _ _ _ _ h) h
      refine wpIn_of_loopIn (loopIn_once (wpIn_mono (evC_sound hS hG hD hF hrd b hb he r hwf (hf.left hn2) hfr) (then_sound hwf hf hn1 h fun φ1 a1 w1 hk k1 k2 k3 => ?_)))
      exact LoopIn.mono (hS.loop hk hb k1.rel (k1.ext.wf hwf) k3 k2 F n hF hrd) fun e a2 w2 q => codeQ_trans hwf k1 q
  | .rangeFunc g ps x y, ic, fr, fr', s, s', res, φ, w, a, hc, h, r, hwf, hf, hfr => by
    simp only [cC] at hc
    split at hc
    · rename_i g' ia ib hg ha hb
      cases hps : ps.all (Nat.blt · nt) with
      | false => rw [hps] at hc; simp at hc
      | true =>
        rw [hps] at hc; simp only [cond_true, Option.some.injEq] at hc; subst hc
        simp only [evC] at h
        exact rf_sound hS hF hg ha hb hps h r hwf hf hfr hrd
    · cases hc
  | .scope b, ic, fr, fr', s, s', res, φ, w, a, hc, h, r, hwf, hf, hfr => by simp only [cC, Option.some.injEq] at hc; subst hc; simp [evC] at h
  | .label l, ic, fr, fr', s, s', res, φ, w, a, hc, h, r, hwf, hf, hfr => by simp only [cC, Option.some.injEq] at hc; subst hc; simp [evC] at h
  | .goto l, ic, fr, fr', s, s', res, φ, w, a, hc, h, r, hwf, hf, hfr => by simp only [cC, Option.some.injEq] at hc; subst hc; simp [evC] at h
  | .refuse l, ic, fr, fr', s, s', res, φ, w, a, hc, h, r, hwf, hf, hfr => by simp only [cC, Option.some.injEq] at hc; subst hc; simp [evC] at h

end
end Go.Proofs.YtoejmfiaaigpbaaGreatDoor.Ev

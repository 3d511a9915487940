/- Part of a verified evaluator of the model's code, generic over the program: a run of the evaluator that answers shows what the model's run answers. No conditions of its own. -/
import Derived.Test.YtoejmfiaaigpbaaGreatDoorEvCode
namespace Go.Proofs.YtoejmfiaaigpbaaGreatDoor.Ev

def EnvOk (P : Program) (E : Env) : Prop := ∀ f F, E.funs.get f = some F → ∃ fn, P.funcs[f]? = some fn ∧ cFunc P fn = some F

theorem setArgs_get : ∀ (l : List AV) (tm : Trie AV) (i j : Nat) (v : AV), (setArgs tm i l).get j = some v → (i ≤ j ∧ l[j - i]? = some v) ∨ (tm.get j = some v ∧ (j < i ∨ i + l.length ≤ j))
  | [], tm, i, j, v, h => by simp only [setArgs] at h; exact .inr ⟨h, by simp; omega⟩
  | u :: r, tm, i, j, v, h => by
    simp only [setArgs] at h
    rcases setArgs_get r _ _ j v h with ⟨h1, h2⟩ | ⟨h1, h2⟩
    · left
      have h1' : i + 1 ≤ j := h1
      refine ⟨by omega, ?_⟩
      have : j - i = (j - (i + 1)) + 1 := by omega
      rw [this, List.getElem?_cons_succ]; exact h2
    · rw [Trie.get_set] at h1
      by_cases e : j = i
      · rw [if_pos e] at h1; cases h1; left; subst e; exact ⟨Nat.le_refl _, by simp⟩
      · rw [if_neg e] at h1
        have h2' : j < i + 1 ∨ i + 1 + r.length ≤ j := h2
        right; exact ⟨h1, by simp; omega⟩

theorem setArgs_rel {φ : Phi} {args : List AV} {xs : List Value} (h : VRL φ args xs) (k : Nat) : TmRel φ (setArgs .leaf 0 args) (xs.toArray ++ Array.replicate k undef) := by
  intro j v hv
  rcases setArgs_get args .leaf 0 j v hv with ⟨_, h1⟩ | ⟨h1, _⟩
  · obtain ⟨y, hy, hvr⟩ := h.get h1
    simp only [Nat.sub_zero] at hy
    have hlt : j < xs.length := by
      by_cases hl : j < xs.length
      · exact hl
      · rw [List.getElem?_eq_none (by omega)] at hy; cases hy
    have : (xs.toArray ++ Array.replicate k undef).getD j undef = y := by
      rw [Array.getD_eq_getD_getElem?, Array.getElem?_append_left (by simpa using hlt)]
      simp [hy]
    rw [this]; exact hvr
  · simp [Trie.get] at h1

section
variable {P : Program} {w0 : World} {E : Env} {S : Self}

/-! ### The results -/
theorem resV_sound (hG : GlobRel E.globs w0) {φ : Phi} {s : St} {w : World} (r : Rel P w0 φ s.get w) {tm : Trie AV} {tmps : Array Value} (ht : TmRel φ tm tmps) {f : ResultVar → Sem Value} (f1 : ∀ t, f (.tmp t) = pure (tmps.getD t undef)) (f2 : ∀ a t ad, tmps.getD a undef = .pointer (some ad) → f (.cell a t) = loadVar t ad) :
    ∀ {rs : List ResultVar} {l : List RV} {vs : List AV}, cRes P rs = some l → resV E.globs tm s l = some vs → ∃ ys, (rs.mapM f).run P w = .ok ys w ∧ VRL φ vs ys
  | [], l, vs, hc, h => by simp [cRes] at hc; subst hc; simp [resV] at h; subst h; exact ⟨[], by simp, VRL.nil φ⟩
  | .tmp t :: rs, l, vs, hc, h => by
    simp only [cRes] at hc
    obtain ⟨l', hl', rfl⟩ := Option.map_eq_some_iff.1 hc
    simp only [resV] at h
    split at h
    · rename_i v vs' h1 h2
      simp only [Option.some.injEq] at h; subst h
      obtain ⟨ys, k1, k2⟩ := resV_sound hG r ht f1 f2 hl' h2
      exact ⟨tmps.getD t undef :: ys, by simp only [List.mapM_cons, f1, Sem.run_bind, Sem.run_pure, Result.andThen_ok, k1], VRL.cons (ht t v h1) k2⟩
    · cases h
  | .cell a t :: rs, l, vs, hc, h => by
    simp only [cRes] at hc
    split at hc
    · rename_i n l' q1 q2 q3
      simp only [Option.some.injEq] at hc; subst hc
      simp only [resV] at h
      split at h
      · rename_i v vs' h1 h2
        simp only [Option.some.injEq] at h; subst h
        obtain ⟨ys, k1, k2⟩ := resV_sound hG r ht f1 f2 q3 h2
        split at h1
        · rename_i p hp
          split at h1
          · rename_i cs hcs
            simp only [Option.some.injEq] at h1; subst h1
            obtain ⟨z, z1, z2⟩ := run_ldn (P := P) (t := t) r hG q1 q2 (p := p) (v := .agg cs) (by simp only [vLdn, hcs]) (ht a p hp)
            obtain ⟨ad, xs, e1, e2, e3, e4⟩ := loadC_sound r hG hcs (ht a p hp)
            have hz : (loadVar t ad).run P w = .ok z w := by simpa [Instr.loadAt, Instr.sureAddr, e1] using z1
            exact ⟨z :: ys, by simp only [List.mapM_cons, f2 a t ad e1, Sem.run_bind, Sem.run_pure, Result.andThen_ok, hz, k1], VRL.cons z2 k2⟩
          · cases h1
        · cases h1
      · cases h
    · rename_i l' q1 q3
      simp only [Option.some.injEq] at hc; subst hc
      simp only [resV] at h
      split at h
      · rename_i v vs' h1 h2
        simp only [Option.some.injEq] at h; subst h
        obtain ⟨ys, k1, k2⟩ := resV_sound hG r ht f1 f2 q3 h2
        split at h1
        · rename_i p hp
          split at h1
          · rename_i v0 tl hcs
            simp only [Option.some.injEq] at h1; subst h1
            obtain ⟨z, z1, z2⟩ := run_ld (P := P) (t := t) r hG q1 (p := p) (v := v0) (by simp only [vLd, hcs, headV]) (ht a p hp)
            obtain ⟨ad, xs, e1, e2, e3, e4⟩ := loadC_sound r hG hcs (ht a p hp)
            have hz : (loadVar t ad).run P w = .ok z w := by simpa [Instr.loadAt, Instr.sureAddr, e1] using z1
            exact ⟨z :: ys, by simp only [List.mapM_cons, f2 a t ad e1, Sem.run_bind, Sem.run_pure, Result.andThen_ok, hz, k1], VRL.cons z2 k2⟩
          · cases h1
        · cases h1
      · cases h
    · cases hc

theorem results_sound (hG : GlobRel E.globs w0) {φ : Phi} {s s' : St} {w : World} (r : Rel P w0 φ s.get w) {tm : Trie AV} {tmps : Array Value} (ht : TmRel φ tm tmps) {fn : Func} {l : List RV} {v : AV} (hc : cRes P fn.results.toList = some l) (h : resE E.globs tm s l = some (v, s')) :
    s' = s ∧ ∃ x, (results fn tmps).run P w = .ok x w ∧ VR φ v x := by
  unfold resE at h
  split at h
  · rename_i vs hvs
    simp only [Option.some.injEq, Prod.mk.injEq] at h
    obtain ⟨rfl, rfl⟩ := h
    refine ⟨rfl, ?_⟩
    have key : ∀ f : ResultVar → Sem Value, (∀ t, f (.tmp t) = pure (tmps.getD t undef)) → (∀ a t ad, tmps.getD a undef = .pointer (some ad) → f (.cell a t) = loadVar t ad) → ∃ x, (do let vs ← fn.results.mapM f; pure (if h : vs.size = 1 then vs[0] else .tuple vs) : Sem Value).run P w = .ok x w ∧ VR φ (oneOrTup vs) x := fun f f1 f2 => by
      obtain ⟨ys, k1, k2⟩ := resV_sound hG r ht f1 f2 hc hvs
      refine ⟨if h : ys.toArray.size = 1 then ys.toArray[0] else .tuple ys.toArray, ?_, ?_⟩
      · rw [Sem.run_bind, Array.mapM_eq_mapM_toList, Sem.run_map, k1]; rfl
      · cases vs with
        | nil =>
          simp only [VRL] at k2; subst k2
          simp only [oneOrTup, VR]; exact ⟨[], rfl, VRL.nil φ⟩
        | cons v0 vs =>
          simp only [VRL] at k2
          obtain ⟨y, ys', rfl, k3, k4⟩ := k2
          cases vs with
          | nil => simp only [VRL] at k4; subst k4; exact k3
          | cons v1 vs' =>
            simp only [VRL] at k4
            obtain ⟨y1, ys1, rfl, k5, k6⟩ := k4
            simp only [oneOrTup]
            rw [dif_neg (by simp)]
            simp only [VR]; exact ⟨_, rfl, VRL.cons k3 (VRL.cons k5 k6)⟩
    unfold results
    refine key _ ?_ ?_
    · intro t; rfl
    · intro a t ad h; simp only [h]; rfl
  · cases h

/-- the marks are come to -/
theorem marks_sound {F : Fence} {n : Nat} {fn : Func} {tmps : Array Value} {R : Ending → World → Prop} : ∀ {df : List Nat} {ds : List Deferred} {φ : Phi} {s s' : St} {w : World}, takeMarks s df = some s' → DfRel φ df ds → Rel P w0 φ s.get w → Wf s →
    (∀ w', Step P w0 φ s w φ s' w' → LeavesIn F n P fn tmps R [] .returning w') → LeavesInM F n P fn tmps R ds .returning w
  | [], ds, φ, s, s', w, h, hd, r, hwf, hk => by
    simp only [DfRel] at hd; subst hd
    simp only [takeMarks, Option.some.injEq] at h; subst h
    exact hk w (Step.refl r)
  | d :: df, ds, φ, s, s', w, h, hd, r, hwf, hk => by
    obtain ⟨B, ds', hB, rfl, hd'⟩ := hd
    simp only [takeMarks] at h
    split at h
    · rename_i hg
      obtain ⟨B', hB', hh⟩ := r.obj d _ hg
      rw [hB] at hB'; cases hB'
      have st : Step P w0 φ s w φ (s.put d .dfd0) (w.putObj B.b (.deferred none)) := Step.setObj r hg hB hh (x' := .deferred none) (setIn hh)
      refine ⟨by simp, .inl ⟨B.b, _, rfl, run_takeDeferred hh, ?_⟩⟩
      exact marks_sound h hd' st.rel (st.ext.wf hwf) fun w' k => hk w' (Step.trans hwf st k)
    · cases h

theorem callF_sound (hS : SelfOk P w0 S) (hG : GlobRel E.globs w0) (hE : EnvOk P E) (hD : DrawOk P w0 E S) {f : Nat} {args : List AV} {s s' : St} {v : AV} (h : callF E S f args s = some (v, s')) :
    (∃ fn, P.funcs[f]? = some fn ∧ fn.body.isSome = true ∧ (fn.name == "runtime.NumGoroutine") = false) ∧
    ∀ {φ : Phi} {w : World} {xs : List Value}, Rel P w0 φ s.get w → Wf s → Fresh φ s s' → VRL φ args xs → ∀ F n, Wide F → CallsIn F n P f xs.toArray w (RetQ P w0 φ s w v s') := by
  unfold callF at h
  split at h
  · rename_i IF hIF
    obtain ⟨fn, hfn, hcf⟩ := hE f IF hIF
    unfold cFunc at hcf
    split at hcf
    · cases hcf
    · rename_i c hbody
      split at hcf
      · rename_i ib rs hb hrs
        cases hnm : (fn.name != "runtime.NumGoroutine") with
        | false => rw [hnm] at hcf; simp at hcf
        | true =>
          rw [hnm] at hcf; simp only [cond_true, Option.some.injEq] at hcf; subst hcf
          have hnm' : (fn.name == "runtime.NumGoroutine") = false := by simpa [bne] using hnm
          refine ⟨⟨fn, hfn, by rw [hbody]; rfl, hnm'⟩, ?_⟩
          intro φ w xs r hwf hf hargs F n hF
          simp only at h
          cases hle : Nat.ble (lenN args) fn.ntmps with
          | false => rw [hle] at h; simp at h
          | true =>
            rw [hle] at h; simp only [cond_true] at h
            rw [ble_iff, lenN_eq, VRL.length hargs] at hle
            cases he : evC E S none ib { tm := setArgs .leaf 0 args, df := [] } s with
            | none => rw [he] at h; simp [callEnd] at h
            | some p =>
              obtain ⟨res, fr', s1⟩ := p
              rw [he] at h; simp only [callEnd] at h
              have hres : ∃ s2, takeMarks s1 fr'.df = some s2 ∧ resE E.globs fr'.tm s2 rs = some (v, s') ∧ (res = .norm ∨ res = .ret) := by
                cases res with
                | exit i => simp at h
                | norm =>
                  simp only at h
                  split at h
                  · rename_i s2 hs2; exact ⟨s2, hs2, h, .inl rfl⟩
                  · cases h
                | ret =>
                  simp only at h
                  split at h
                  · rename_i s2 hs2; exact ⟨s2, hs2, h, .inr rfl⟩
                  · cases h
              obtain ⟨s2, hm, hr, hor⟩ := hres
              have hs2 : s' = s2 := by
                unfold resE at hr
                split at hr
                · cases hr; rfl
                · cases hr
              have hn2 := takeMarks_next hm
              have hfr : FrRel φ fn.ntmps { tm := setArgs .leaf 0 args, df := [] } { tmps := xs.toArray ++ Array.replicate (fn.ntmps - xs.toArray.size) undef, defers := [] } :=
                ⟨setArgs_rel hargs _, by simp; omega, rfl⟩
              have hFp : Wide F.plain := ⟨hF.fn, hF.depth⟩
              have key : CallsIn F.plain n P f xs.toArray w (RetQ P w0 φ s w v s') := by
                refine callsIn_of_wp_marks hfn hbody (hF.fn f) (wpIn_mono (evC_sound hS hG hD hFp (fun _ => rfl) c hb he r hwf (hf.left (by rw [hs2]; omega)) hfr) ?_)
                rintro e a' w' ⟨φ1, rfl, k1, k2⟩
                have hleave : LeavesInM F.plain n P fn a'.tmps (RetQ P w0 φ s w v s') a'.defers .returning w' := by
                  refine marks_sound hm k2.df k1.rel (k1.ext.wf hwf) fun w2 k3 => ?_
                  obtain ⟨_, x, k4, k5⟩ := results_sound hG k3.rel k2.tm hrs hr
                  exact ⟨x, k4, φ1, x, rfl, hs2 ▸ Step.trans hwf k1 k3, k5⟩
                rcases hor with rfl | rfl
                · exact hleave
                · exact hleave
              exact key
      · cases hcf
  · cases h

theorem setPs_rel {φ : Phi} : ∀ {ps : List Nat} {args : List AV} {xs : List Value} {tm tm1 : Trie AV} {t : Array Value}, setPs tm ps args = some tm1 → VRL φ args xs → TmRel φ tm t → (∀ p ∈ ps, p < t.size) →
    xs.length = ps.length ∧ TmRel φ tm1 ((ps.zip xs).foldl (fun t p => t.setIfInBounds p.1 p.2) t) ∧ ((ps.zip xs).foldl (fun t p => t.setIfInBounds p.1 p.2) t).size = t.size
  | [], [], xs, tm, tm1, t, h, hx, ht, hp => by
    simp only [VRL] at hx; subst hx
    simp only [setPs, Option.some.injEq] at h; subst h
    exact ⟨rfl, ht, rfl⟩
  | p :: ps, v :: vs, xs, tm, tm1, t, h, hx, ht, hp => by
    simp only [VRL] at hx
    obtain ⟨y, ys, rfl, h1, h2⟩ := hx
    simp only [setPs] at h
    obtain ⟨k1, k2, k3⟩ := setPs_rel h h2 (ht.set (hp p (by simp)) h1) (fun q hq => by simp; exact hp q (by simp [hq]))
    refine ⟨by simp [k1], k2, ?_⟩
    simp only [List.zip_cons_cons, List.foldl_cons]
    rw [k3]; simp
  | [], _ :: _, xs, tm, tm1, t, h, hx, ht, hp => by simp [setPs] at h
  | _ :: _, [], xs, tm, tm1, t, h, hx, ht, hp => by simp [setPs] at h

theorem fold_zip (t : Array Value) (ps : List Nat) (xs : List Value) : ((ps.toArray.zip xs.toArray).foldl (fun t (p, v) => t.setIfInBounds p v) t) = (ps.zip xs).foldl (fun t p => t.setIfInBounds p.1 p.2) t := by
  rw [← Array.foldl_toList]; simp

theorem roundF_sound (hS : SelfOk P w0 S) (hG : GlobRel E.globs w0) (hD : DrawOk P w0 E S) {l : Nat} {args : List AV} {s s' : St} {v : AV} (h : roundF E S l args s = some (v, s')) {φ : Phi} {w : World} {xs : List Value} {B : Blk} (r : Rel P w0 φ s.get w) (hwf : Wf s) (hf : Fresh φ s s') (hargs : VRL φ args xs) (hB : φ l = some B) :
    ∃ L, w.heap[B.b]? = some (.loop L) ∧ xs.length = L.params.size ∧ ∀ F n, Wide F → RoundIn F n P B.b L.fn ((L.params.zip xs.toArray).foldl (fun t (p, v) => t.setIfInBounds p v) L.tmps) L.assign L.body w (RetQ P w0 φ s w v s') := by
  unfold roundF at h
  split at h
  · rename_i st0 pend0 tm0 ps0 asg bd d0 hg
    obtain ⟨B', hB', L, hh, hl⟩ := r.obj l _ hg
    rw [hB] at hB'; cases hB'
    split at h
    · rename_i tm1 hps
      obtain ⟨k1, k2, k3⟩ := setPs_rel hps hargs hl.tm hl.ps
      refine ⟨L, hh, by rw [hl.params, k1]; simp, ?_⟩
      intro F n hF
      rw [hl.params, fold_zip]
      cases he : evC E S (some l) asg { tm := tm1, df := [] } s with
      | none => rw [he] at h; simp [roundBody] at h
      | some p =>
        obtain ⟨res1, fr1, s1⟩ := p
        rw [he] at h; simp only [roundBody] at h
        have hn1 := evC_next hS.mono he
        split at h
        · split at h
          · rename_i pend1 tmL psL asgL bodyL dL hg1
            cases he2 : evC E S (some l) bd fr1 (s1.put l (.loop .busy pend1 tmL psL asgL bodyL dL)) with
            | none => rw [he2] at h; simp [roundEnd] at h
            | some q =>
              obtain ⟨res2, fr2, s2⟩ := q
              rw [he2] at h; simp only [roundEnd] at h
              have hn2 := evC_next hS.mono he2
              rw [next_put] at hn2
              split at h
              · rename_i st2 pend2 tm2 ps2 asg2 body2 d2 hg2
                have hs' : s'.next = s2.next := by
                  cases res2 <;> simp only [Option.some.injEq, Prod.mk.injEq] at h <;> rw [← h.2] <;> rfl
                have hFr : Wide (F.inRound B.b) := ⟨hF.fn, hF.depth⟩
                have hfr : FrRel φ L.tmps.size { tm := tm1, df := [] } { tmps := (ps0.zip xs).foldl (fun t p => t.setIfInBounds p.1 p.2) L.tmps, defers := [] } := ⟨k2, k3, rfl⟩
                refine roundIn_of_wpIn (hF.fn _) (wpIn_mono (evC_sound hS hG hD hFr (fun h => by cases h) L.assign hl.asg he r hwf (hf.left (by omega)) hfr) ?_)
                rintro e a1 w1 ⟨φ1, rfl, g1, g2⟩
                have hsub1 := g1.sub (hf.left (s1 := s1) (by omega))
                have hB1 := hsub1 _ _ hB
                obtain ⟨B', hB', L1, hh1, hl1⟩ := g1.rel.obj l _ hg1
                rw [hB1] at hB'; cases hB'
                have hbr := run_beginRound (P := P) hh1 (by rw [hl1.state]; rfl)
                have st1 : Step P w0 φ1 s1 w1 φ1 (s1.put l (.loop .busy pend1 tmL psL asgL bodyL dL)) (w1.putObj B.b (.loop { L1 with state := .busy })) :=
                  Step.setObj g1.rel hg1 hB1 hh1 (x' := .loop { L1 with state := .busy }) ⟨_, setIn hh1, ⟨rfl, hl1.pend, hl1.params, hl1.asg, hl1.body, hl1.tm, hl1.df, hl1.ps⟩⟩
                have hwf1 := g1.ext.wf hwf
                have hf1 : Fresh φ1 s1 s2 := (hf.right hn1 g1.same).left (by omega)
                refine ⟨_, hbr, wpIn_mono (evC_sound hS hG hD hFr (fun h => by cases h) L.body hl.body he2 st1.rel (st1.ext.wf hwf1) hf1 g2) ?_⟩
                rintro e a2 w2 ⟨φ2, rfl, g3, g4⟩
                have hsub2 := g3.sub hf1
                have hB2 := hsub2 _ _ hB1
                obtain ⟨B', hB', L2, hh2, hl2⟩ := g3.rel.obj l _ hg2
                rw [hB2] at hB'; cases hB'
                have stA := Step.trans hwf (Step.trans hwf g1 st1) g3
                have fin : ∀ (j : Option Res), s' = s2.put l (.loop (if j.isNone then .ready else .done) j tm2 ps2 asg2 body2 d2) → v = .bool j.isNone → ∃ x w', (Instr.endRound B.b (j.map Res.code)).run P w2 = .ok x w' ∧ RetQ P w0 φ s w v s' (.returned x) w' := by
                  intro j e1 e2
                  have hend := run_endRound (P := P) (j.map Res.code) hh2
                  refine ⟨_, _, hend, φ2, _, rfl, ?_, ?_⟩
                  · rw [e1]
                    refine Step.trans hwf stA (Step.setObj g3.rel hg2 hB2 hh2 (x' := .loop { L2 with state := if (j.map Res.code).isNone then .ready else .done, pending := j.map Res.code }) ⟨_, setIn hh2, ⟨?_, rfl, hl2.params, hl2.asg, hl2.body, hl2.tm, hl2.df, hl2.ps⟩⟩)
                    cases j <;> rfl
                  · rw [e2]; simp only [VR]; cases j <;> rfl
                cases res2 with
                | norm =>
                  simp only [Option.some.injEq, Prod.mk.injEq] at h
                  exact fin none h.2.symm h.1.symm
                | exit id =>
                  simp only [Option.some.injEq, Prod.mk.injEq] at h
                  exact fin (some (.exit id)) h.2.symm h.1.symm
                | ret =>
                  simp only [Option.some.injEq, Prod.mk.injEq] at h
                  exact fin (some .ret) h.2.symm h.1.symm
              · cases h
          · cases h
        · cases h
    · cases h
  · cases h

theorem loop_sound (hS : SelfOk P w0 S) (hG : GlobRel E.globs w0) (hD : DrawOk P w0 E S) {rd : Option Nat} {b : ICode} {fr fr' : Fr} {s s' : St} {res : Res} (h : evC E S rd (.loop b) fr s = some (res, fr', s')) {nt : Nat} {c : Code} {φ : Phi} {w : World} {a : Act} (hb : cC P nt c = some b) (r : Rel P w0 φ s.get w) (hwf : Wf s) (hf : Fresh φ s s') (hfr : FrRel φ nt fr a) (F : Fence) (n : Nat) (hF : Wide F) (hrd : rd = none → F.round = none) : LoopIn F n P c (CodeQ P w0 φ nt s w res fr' s') a w := by
  simp only [evC] at h
  cases he : evC E S rd b fr s with
  | none => rw [he] at h; simp [thenR] at h
  | some p =>
    obtain ⟨res1, fr1, s1⟩ := p
    rw [he] at h
    have hn1 := evC_next hS.mono he
    have hn2 : s1.next ≤ s'.next := thenR_next (x := some (res1, fr1, s1)) (fun p hp => by cases hp; exact Nat.le_refl _) (fun _ _ _ _ _ h => hS.mono.loop _ _ _ _ _ _ _ h) h
    refine loopIn_once (wpIn_mono (evC_sound hS hG hD hF hrd c hb he r hwf (hf.left hn2) hfr) (then_sound hwf hf hn1 h fun φ1 a1 w1 hk k1 k2 k3 => ?_))
    exact LoopIn.mono (hS.loop hk hb k1.rel (k1.ext.wf hwf) k3 k2 F n hF hrd) fun e a2 w2 q => codeQ_trans hwf k1 q

theorem ev_ok (hG : GlobRel E.globs w0) (hE : EnvOk P E) (hD : ∀ S, SelfOk P w0 S → DrawOk P w0 E S) : ∀ n, SelfOk P w0 (ev E n)
  | 0 => ⟨ev_mono E 0, ev_ext E 0, fun h => by simp [ev] at h, fun h => by simp [ev] at h, fun h => by simp [ev] at h⟩
  | n + 1 =>
    have ih := ev_ok hG hE hD n
    ⟨ev_mono E (n + 1), ev_ext E (n + 1), fun h => callF_sound ih hG hE (hD _ ih) h, fun h _ _ _ _ r hwf hf ha hB => roundF_sound ih hG (hD _ ih) h r hwf hf ha hB, fun h _ _ _ _ _ hb r hwf hf hfr F k hF hrd => loop_sound ih hG (hD _ ih) h hb r hwf hf hfr F k hF hrd⟩

theorem rel_s0 (w : World) : Rel P w (fun _ => none) s0.get w := by
  refine ⟨Go.RowKit.Below.refl _ _, fun id o h => ?_, (fun id B h => by cases h), (fun id _ _ _ h => by cases h), fun id _ _ _ _ _ h => ?_⟩
  · have := get_some h; simp [s0, Trie.get] at this
  · have := get_some h; simp [s0, Trie.get] at this

/-- THE WALK, BY EVALUATION. -/
theorem calls_true {w : World} (hG : GlobRel E.globs w) (hE : EnvOk P E) (hD : ∀ S, SelfOk P w S → DrawOk P w E S) {n f : Nat} {s' : St} (h : (ev E n).call f [] s0 = some (.bool true, s')) :
    Calls P f #[] w fun e w' => e = .returned (.bool true) ∧ Go.RowKit.Below w.heap.size w w' := by
  have := (ev_ok (w0 := w) hG hE hD n).call h
  have hc := this.2 (rel_s0 w) ⟨(fun id o h => by simp [s0, Trie.get] at h), fun p hp => by simp [s0] at hp⟩ (fun _ _ _ => rfl) (VRL.nil _) Fence.wide 0 ⟨fun _ => trivial, rfl⟩
  refine callsIn_wide.1 (CallsIn.mono hc ?_)
  rintro e w' ⟨φ', x, rfl, k1, k2⟩
  simp only [VR] at k2
  exact ⟨by rw [k2], k1.rel.base⟩

end
end Go.Proofs.YtoejmfiaaigpbaaGreatDoor.Ev

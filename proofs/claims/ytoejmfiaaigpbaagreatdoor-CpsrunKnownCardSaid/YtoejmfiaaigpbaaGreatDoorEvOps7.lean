/- Part of a verified evaluator of the model's code, generic over the program: a run of the evaluator that answers shows what the model's run answers. No conditions of its own. -/
import Derived.Test.YtoejmfiaaigpbaaGreatDoorEvOps6
namespace Go.Proofs.YtoejmfiaaigpbaaGreatDoor.Ev

/-! ### Maps -/
theorem run_getObj' {P : Program} {w : World} {b : Nat} {o : Obj} (h : w.heap[b]? = some o) (hc : ∀ c e f, o ≠ .cells c e f) : (getObj b).run P w = .ok o w := by
  simp only [getObj, Sem.run, h]
theorem run_setObj' {P : Program} {w : World} {b : Nat} {o : Obj} (o' : Obj) (h : w.heap[b]? = some o) (hc : ∀ c e f, o ≠ .cells c e f) : (setObj b o').run P w = .ok () { w with heap := w.heap.setIfInBounds b o' } := by
  simp only [setObj, Sem.run, h]

theorem setIn {w : World} {b : Nat} {o o' : Obj} (h : w.heap[b]? = some o) : (w.heap.setIfInBounds b o')[b]? = some o' := by
  have : b < w.heap.size := (Array.getElem?_eq_some_iff.1 h).1
  simp [this]
theorem setOut {w : World} {b k : Nat} {o' : Obj} (h : k ≠ b) : (w.heap.setIfInBounds b o')[k]? = w.heap[k]? := by
  rw [Array.getElem?_setIfInBounds_ne (Ne.symm h)]

/-- a step that turns one block by 'setObj' -/
theorem Step.setObj {P : Program} {w0 : World} {φ : Phi} {s : St} {w : World} (r : Rel P w0 φ s.get w) {id : Nat} {o o' : AObj} {B : Blk} {x x' : Obj} (hg : s.get id = some o) (hB : φ id = some B) (hx : w.heap[B.b]? = some x)
    (ho : ObjRel P φ { w with heap := w.heap.setIfInBounds B.b x' } o' B) (hng : isGiv o = false := by rfl) : Step P w0 φ s w φ (s.put id o') { w with heap := w.heap.setIfInBounds B.b x' } :=
  Step.put r hg hB (fun b hb => setOut hb) (by simp) rfl rfl rfl ho hng

/-- what a key's kind is in the model -/
def FK.desc (f : FK) (d : TypeDesc) : Prop :=
  match f with
  | .i => ∃ k, d = .int k
  | .s => d = .string
  | .b => d = .bool
theorem fkT_desc {P : Program} {t : TypeId} {f : FK} (h : fkT P t = some f) : ∃ d, P.underlying t = some d ∧ f.desc d := by
  unfold fkT at h
  split at h
  · rename_i k hu; cases h; exact ⟨_, hu, k, rfl⟩
  · rename_i hu; cases h; exact ⟨_, hu, rfl⟩
  · rename_i hu; cases h; exact ⟨_, hu, rfl⟩
  · cases h

theorem eq1_now {φ : Phi} {f : FK} {d : TypeDesc} {a b : AV} {x y : Value} {r : Bool} (hd : f.desc d) (h : eq1 f a b = some r) (hx : VR φ a x) (hy : VR φ b y) :
    Instr.sameNow d x y = some r ∧ (r = true → ∀ n, Instr.sameBits n y x = true) := by
  cases f with
  | i =>
    obtain ⟨k0, rfl⟩ := hd
    simp only [eq1] at h
    split at h
    · rename_i k m k' n
      cases hkk : kindEq k k' with
      | false => rw [hkk] at h; simp at h
      | true =>
        rw [hkk] at h; simp only [cond_true, Option.some.injEq] at h; subst h
        rw [kindEq_eq] at hkk; simp at hkk; subst hkk
        simp only [VR] at hx hy; subst hx; subst hy
        rw [eqI_eq]
        refine ⟨by simp [Instr.sameNow], fun hr n => ?_⟩
        rw [beq_iff_eq] at hr; subst hr
        cases n <;> simp [Instr.sameBits]
    · cases h
  | s =>
    simp only [FK.desc] at hd; subst hd
    simp only [eq1] at h
    split at h
    · cases h
      simp only [VR] at hx hy
      obtain ⟨s, rfl, rfl⟩ := hx
      obtain ⟨u, rfl, rfl⟩ := hy
      rw [eqS_eq, ← beq_nats, ← beq_toListBytes]
      refine ⟨by simp [Instr.sameNow], fun hr n => ?_⟩
      have hr' : (u == s) = true := by
        rw [beq_toListBytes] at hr ⊢
        rw [beq_iff_eq] at hr ⊢; exact hr.symm
      cases n <;> simp [Instr.sameBits, hr']
    · cases h
  | b =>
    simp only [FK.desc] at hd; subst hd
    simp only [eq1] at h
    split at h
    · cases h
      simp only [VR] at hx hy; subst hx; subst hy
      refine ⟨by simp [Instr.sameNow], fun hr n => ?_⟩
      rw [beq_iff_eq] at hr; subst hr
      cases n <;> simp [Instr.sameBits]
    · cases h

theorem EntRel.length {φ : Phi} : ∀ {l : List (AV × AV × Nat)} {es : List MapEntry}, EntRel φ l es → l.length = es.length
  | [], _, h => by simp only [EntRel] at h; subst h; rfl
  | _ :: r, _, h => by obtain ⟨e, es', rfl, _, _, _, h4⟩ := h; simp [EntRel.length h4]
theorem EntRel.append {φ : Phi} : ∀ {l : List (AV × AV × Nat)} {es : List MapEntry} {l' : List (AV × AV × Nat)} {es' : List MapEntry}, EntRel φ l es → EntRel φ l' es' → EntRel φ (l ++ l') (es ++ es')
  | [], _, _, _, h, h' => by simp only [EntRel] at h; subst h; exact h'
  | _ :: r, _, _, _, h, h' => by obtain ⟨e, es', rfl, h1, h2, h3, h4⟩ := h; exact ⟨e, _, rfl, h1, h2, h3, EntRel.append h4 h'⟩

theorem findK_sound {φ : Phi} {f : FK} {d : TypeDesc} {k : AV} {k' : Value} (hd : f.desc d) (hk : VR φ k k') : ∀ {l : List (AV × AV × Nat)} {es : List MapEntry} {i : Nat} {r : Option (Nat × AV)}, EntRel φ l es → findK f k l i = some r →
    (r = none ∧ Instr.findNow d k' es i = some none) ∨ ∃ j v v' e, r = some (i + j, v) ∧ Instr.findNow d k' es i = some (some (i + j, v')) ∧ VR φ v v' ∧ es[j]? = some e ∧ v' = e.val ∧ (∀ n, Instr.sameBits n e.key k' = true) ∧ j < l.length
  | [], es, i, r, h, hf => by simp only [EntRel] at h; subst h; simp [findK] at hf; subst hf; exact .inl ⟨rfl, rfl⟩
  | p :: l, es, i, r, h, hf => by
    obtain ⟨e, es', rfl, h1, h2, h3, h4⟩ := h
    simp only [findK] at hf
    cases he : eq1 f k p.1 with
    | none => rw [he] at hf; simp at hf
    | some b =>
      rw [he] at hf
      obtain ⟨hn, hs⟩ := eq1_now hd he hk h1
      cases b with
      | true =>
        simp only [Option.some.injEq] at hf; subst hf
        exact .inr ⟨0, p.2.1, e.val, e, rfl, by simp [Instr.findNow, hn], h2, rfl, rfl, hs rfl, by simp⟩
      | false =>
        simp only at hf
        rcases findK_sound hd hk h4 hf with ⟨rfl, h5⟩ | ⟨j, v, v', e', rfl, h5, h6, h7, h8, h9, h10⟩
        · exact .inl ⟨rfl, by simp only [Instr.findNow, hn]; exact h5⟩
        · refine .inr ⟨j + 1, v, v', e', by simp only [Nat.succ_eq_add_one]; congr 2; omega, ?_, h6, by simpa using h7, h8, h9, by simp; omega⟩
          simp only [Instr.findNow, hn]
          rw [h5]; simp only [Nat.succ_eq_add_one, Option.some.injEq, Prod.mk.injEq, and_true]; omega

theorem run_findKey {P : Program} {w : World} {φ : Phi} {t : TypeId} {f : FK} {k : AV} {k' : Value} {l : List (AV × AV × Nat)} {es : List MapEntry} {r : Option (Nat × AV)} (ht : fkT P t = some f) (hk : VR φ k k') (h : EntRel φ l es) (hf : findK f k l 0 = some r) :
    (r = none ∧ (Instr.findKey t k' es).run P w = .ok none w) ∨ ∃ j v v' e, r = some (j, v) ∧ (Instr.findKey t k' es).run P w = .ok (some (j, v')) w ∧ VR φ v v' ∧ es[j]? = some e ∧ v' = e.val ∧ (∀ n, Instr.sameBits n e.key k' = true) ∧ j < l.length := by
  obtain ⟨d, hu, hd⟩ := fkT_desc ht
  rcases findK_sound hd hk h hf with ⟨rfl, h5⟩ | ⟨j, v, v', e', rfl, h5, h6, h7, h8, h9, h10⟩
  · exact .inl ⟨rfl, by simp [Instr.findKey, run_underlying' hu, h5]⟩
  · refine .inr ⟨j, v, v', e', by simp, ?_, h6, h7, h8, h9, h10⟩
    rw [Nat.zero_add] at h5
    simp [Instr.findKey, run_underlying' hu, h5]

theorem run_checkKey {P : Program} {w : World} {t : TypeId} {f : FK} (ht : fkT P t = some f) (b : Bool) (n : Nat) (v : Value) : (Instr.checkKey b (n + 1) t v).run P w = .ok () w := by
  obtain ⟨d, hu, hd⟩ := fkT_desc ht
  cases f with
  | i => obtain ⟨k, rfl⟩ := hd; simp [Instr.checkKey, run_underlying' hu]
  | s => simp only [FK.desc] at hd; subst hd; simp [Instr.checkKey, run_underlying' hu]
  | b => simp only [FK.desc] at hd; subst hd; simp [Instr.checkKey, run_underlying' hu]

theorem lkRes_sound {φ : Phi} {z : AV} {ok : Bool} {v u : AV} {zx x : Value} (b : Bool) (hv : VR φ v x) : VR φ (bif ok then .tup [v, .bool b] else v) (if ok then .tuple #[x, .bool b] else x) := by
  cases ok with
  | false => exact hv
  | true =>
    simp only [cond_true, if_true, VR]
    exact ⟨[x, .bool b], rfl, VRL.cons hv (VRL.cons (by simp [VR]) (VRL.nil φ))⟩

theorem mapObj {P : Program} {w0 : World} {φ : Phi} {s : St} {w : World} (r : Rel P w0 φ s.get w) {id : Nat} {es : List (AV × AV × Nat)} {clock : Nat} {B : Blk} (hg : s.get id = some (.map es clock)) (hB : φ id = some B) :
    ∃ ents, w.heap[B.b]? = some (.map ents clock) ∧ EntRel φ es ents.toList := by
  obtain ⟨B', hB', h⟩ := r.obj id _ hg
  rw [hB] at hB'; cases hB'; exact h

theorem lk_sound {P : Program} {w0 : World} {φ : Phi} {s : St} {w : World} (r : Rel P w0 φ s.get w) {t kt e : TypeId} {f : FK} {z m k v : AV} {ok : Bool} {m' k' : Value} (hu : P.underlying t = some (.map kt e)) (hf : fkT P kt = some f) (hz : zeroT P e = some z)
    (h : vLk s f z ok m k = some v) (hm : VR φ m m') (hk : VR φ k k') : ∃ x, (Instr.lookup t m' k' ok).run P w = .ok x w ∧ VR φ v x := by
  obtain ⟨zx, hzr, hzv⟩ := run_zeroValue' hz
  have hck : ∀ b, (Instr.checkKey b 10000 kt k').run P w = .ok () w := fun b => run_checkKey hf b 9999 k'
  unfold vLk at h
  split at h
  · simp only [VR] at hm; subst hm
    simp only [lkRes, Option.some.injEq] at h; subst h
    refine ⟨_, ?_, lkRes_sound (z := z) (u := z) (zx := zx) (ok := ok) false (hzv φ)⟩
    have hfk : (Instr.findKey kt k' []).run P w = .ok none w := by
      obtain ⟨d, hu', _⟩ := fkT_desc hf
      simp [Instr.findKey, run_underlying' hu', Instr.findNow]
    simp only [Instr.lookup, Sem.run_bind, run_underlying' hu, Result.andThen_ok, Sem.run_pure, hck]
    simp only [hfk, Result.andThen_ok, Sem.run_bind, hzr, Sem.run_pure]
  · rename_i id
    simp only [VR] at hm; obtain ⟨B, hB, rfl⟩ := hm
    split at h
    · rename_i es clock hg
      obtain ⟨ents, hb, hent⟩ := mapObj r hg hB
      have hgo := run_getObj' (P := P) hb (by simp)
      cases hfi : findK f k es 0 with
      | none => rw [hfi] at h; simp [lkRes] at h
      | some res =>
        rw [hfi] at h
        rcases run_findKey (P := P) (w := w) hf hk hent hfi with ⟨rfl, h5⟩ | ⟨j, v1, v', e', rfl, h5, h6, _⟩
        · simp only [lkRes, Option.some.injEq] at h; subst h
          refine ⟨_, ?_, lkRes_sound (z := z) (u := z) (zx := zx) (ok := ok) false (hzv φ)⟩
          simp only [Instr.lookup, Sem.run_bind, run_underlying' hu, Result.andThen_ok, Sem.run_pure, hck, hgo, h5, hzr]
        · simp only [lkRes, Option.some.injEq] at h; subst h
          refine ⟨_, ?_, lkRes_sound (z := z) (u := z) (zx := zx) (ok := ok) true h6⟩
          simp only [Instr.lookup, Sem.run_bind, run_underlying' hu, Result.andThen_ok, Sem.run_pure, hck, hgo, h5]
    · cases h
  · cases h

theorem setK_ent {φ : Phi} {v k : AV} {v' k' : Value} (hv : VR φ v v') (hk : VR φ k k') : ∀ {l : List (AV × AV × Nat)} {es : List MapEntry} (j : Nat), EntRel φ l es → EntRel φ (setK v k l j) (es.modify j fun e => { e with key := k', val := v' })
  | [], es, j, h => by simp only [EntRel] at h; subst h; cases j <;> simp [setK, EntRel]
  | p :: l, es, 0, h => by
    obtain ⟨e, es', rfl, h1, h2, h3, h4⟩ := h
    simp only [setK, List.modify_zero_cons]
    exact ⟨_, es', rfl, hk, hv, h3, h4⟩
  | p :: l, es, j + 1, h => by
    obtain ⟨e, es', rfl, h1, h2, h3, h4⟩ := h
    simp only [setK, List.modify_succ_cons]
    exact ⟨e, _, rfl, h1, h2, h3, setK_ent hv hk j h4⟩
theorem delK_ent {φ : Phi} : ∀ {l : List (AV × AV × Nat)} {es : List MapEntry} (j : Nat), EntRel φ l es → EntRel φ (delK l j) (es.eraseIdx j)
  | [], es, j, h => by simp only [EntRel] at h; subst h; simp [delK, EntRel]
  | p :: l, es, 0, h => by
    obtain ⟨e, es', rfl, h1, h2, h3, h4⟩ := h
    simpa [delK] using h4
  | p :: l, es, j + 1, h => by
    obtain ⟨e, es', rfl, h1, h2, h3, h4⟩ := h
    simp only [delK, List.eraseIdx_cons_succ]
    exact ⟨e, _, rfl, h1, h2, h3, delK_ent j h4⟩

theorem run_keyStays {P : Program} {w : World} {old new : Value} (h : ∀ n, Instr.sameBits n old new = true) : (Instr.keyThatStays old new).run P w = .ok new w := by
  simp [Instr.keyThatStays, h]

theorem getKey {es : Array MapEntry} {j : Nat} {e : MapEntry} (h : es.toList[j]? = some e) (k : Value) : ((es[j]?).map (·.key)).getD k = e.key := by
  have : es[j]? = some e := by rw [← Array.getElem?_toList]; exact h
  rw [this]; rfl

theorem mu_sound {P : Program} {w0 : World} {φ : Phi} {s s' : St} {w : World} (r : Rel P w0 φ s.get w) {t kt e : TypeId} {f : FK} {m k v u : AV} {m' k' v' : Value} (hu : P.underlying t = some (.map kt e)) (hf : fkT P kt = some f)
    (h : oMu s f m k v = some (u, s')) (hm : VR φ m m') (hk : VR φ k k') (hv : VR φ v v') : u = undefV ∧ ∃ w', (Instr.mapUpdate t m' k' v').run P w = .ok () w' ∧ Step P w0 φ s w φ s' w' := by
  have hck : ∀ b, (Instr.checkKey b 10000 kt k').run P w = .ok () w := fun b => run_checkKey hf b 9999 k'
  unfold oMu at h
  split at h
  · rename_i id
    simp only [VR] at hm; obtain ⟨B, hB, rfl⟩ := hm
    split at h
    · rename_i es clock hg
      obtain ⟨ents, hb, hent⟩ := mapObj r hg hB
      have hgo := run_getObj' (P := P) hb (by simp)
      cases hfi : findK f k es 0 with
      | none => rw [hfi] at h; simp at h
      | some res =>
        rw [hfi] at h
        rcases run_findKey (P := P) (w := w) hf hk hent hfi with ⟨rfl, h5⟩ | ⟨j, v1, v2, e', rfl, h5, h6, h7, h8, h9, h10⟩
        · simp only [Option.some.injEq, Prod.mk.injEq] at h
          obtain ⟨rfl, rfl⟩ := h
          refine ⟨rfl, _, ?_, Step.setObj r hg hB hb (x' := .map (ents.push { key := k', val := v', born := clock }) (clock + 1)) ⟨_, setIn hb, ?_⟩⟩
          · simp only [Instr.mapUpdate, Sem.run_bind, run_underlying' hu, Result.andThen_ok, hgo, hck, h5]
            exact run_setObj' _ hb (by simp)
          · rw [Array.toList_push]
            exact EntRel.append hent ⟨_, [], rfl, hk, hv, rfl, rfl⟩
        · simp only [Option.some.injEq, Prod.mk.injEq] at h
          obtain ⟨rfl, rfl⟩ := h
          refine ⟨rfl, _, ?_, Step.setObj r hg hB hb (x' := .map (ents.modify j fun e => { e with key := k', val := v' }) clock) ⟨_, setIn hb, ?_⟩⟩
          · simp only [Instr.mapUpdate, Sem.run_bind, run_underlying' hu, Result.andThen_ok, hgo, hck, h5, getKey h7, run_keyStays h9]
            exact run_setObj' _ hb (by simp)
          · rw [Array.toList_modify]
            exact setK_ent hv hk j hent
    · cases h
  · cases h

theorem md_sound {P : Program} {w0 : World} {φ : Phi} {s s' : St} {w : World} (r : Rel P w0 φ s.get w) {ts : Array TypeId} {ty t kt e : TypeId} {f : FK} {m k u : AV} {m' k' : Value} (hts : ts[0]? = some t) (hu : P.underlying t = some (.map kt e)) (hf : fkT P kt = some f)
    (h : oMd s f m k = some (u, s')) (hm : VR φ m m') (hk : VR φ k k') : u = undefV ∧ ∃ w', (Builtin.delete_ ts ty #[m', k']).run P w = .ok undef w' ∧ Step P w0 φ s w φ s' w' := by
  have hck : ∀ b, (Instr.checkKey b 10000 kt k').run P w = .ok () w := fun b => run_checkKey hf b 9999 k'
  unfold oMd at h
  split at h
  · simp only [VR] at hm; subst hm
    simp only [Option.some.injEq, Prod.mk.injEq] at h
    obtain ⟨rfl, rfl⟩ := h
    refine ⟨rfl, w, ?_, Step.refl r⟩
    simp [Builtin.delete_, hts, run_underlying' hu, hck, undef]
  · rename_i id
    simp only [VR] at hm; obtain ⟨B, hB, rfl⟩ := hm
    split at h
    · rename_i es clock hg
      obtain ⟨ents, hb, hent⟩ := mapObj r hg hB
      have hgo := run_getObj' (P := P) hb (by simp)
      cases hfi : findK f k es 0 with
      | none => rw [hfi] at h; simp at h
      | some res =>
        rw [hfi] at h
        rcases run_findKey (P := P) (w := w) hf hk hent hfi with ⟨rfl, h5⟩ | ⟨j, v1, v2, e', rfl, h5, h6, h7, h8, h9, h10⟩
        · simp only [Option.some.injEq, Prod.mk.injEq] at h
          obtain ⟨rfl, rfl⟩ := h
          refine ⟨rfl, _, ?_, Step.setObj r hg hB hb (x' := .map ents clock) ⟨_, setIn hb, hent⟩⟩
          simp [Builtin.delete_, hts, run_underlying' hu, hck, undef, hgo, h5, run_setObj' _ hb (by simp)]
        · simp only [Option.some.injEq, Prod.mk.injEq] at h
          obtain ⟨rfl, rfl⟩ := h
          refine ⟨rfl, _, ?_, Step.setObj r hg hB hb (x' := .map (ents.eraseIdxIfInBounds j) clock) ⟨_, setIn hb, ?_⟩⟩
          · simp [Builtin.delete_, hts, run_underlying' hu, hck, undef, hgo, h5, run_setObj' _ hb (by simp)]
          · have hj : j < ents.size := by have := EntRel.length hent; simp at this; omega
            have e1 : (ents.eraseIdxIfInBounds j).toList = ents.toList.eraseIdx j := by simp [Array.eraseIdxIfInBounds, hj]
            rw [e1]
            exact delK_ent j hent
    · cases h
  · cases h

end Go.Proofs.YtoejmfiaaigpbaaGreatDoor.Ev

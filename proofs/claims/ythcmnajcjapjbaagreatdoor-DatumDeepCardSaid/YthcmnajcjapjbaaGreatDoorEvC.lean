/- Part of a verified evaluator of the model's code, generic over the program: a run of the evaluator that answers shows what the model's run answers. No conditions of its own. -/
import Derived.Test.YthcmnajcjapjbaaGreatDoorEvB
import Derived.Laws.Append
set_option linter.unusedSimpArgs false
set_option linter.unusedVariables false
set_option linter.defProp false
namespace Go.Proofs.YthcmnajcjapjbaaGreatDoor.Ev
theorem setK_key {φ : Phi} {v k : AV} {k' : Value} (hk : VR φ k k') : ∀ {l : List (AV × AV × Nat)} {es : List MapEntry} (j : Nat) {e : MapEntry}, EntRel φ l es → es[j]? = some e → VR φ v e.val → EntRel φ (setK v k l j) (es.modify j fun e => { e with key := k' })
  | [], es, j, e, h, he, _ => by simp only [EntRel] at h; subst h; simp at he
  | p :: l, es, 0, e0, h, he, hv => by
    obtain ⟨e, es', rfl, h1, h2, h3, h4⟩ := h
    simp at he; subst he
    simp only [setK, List.modify_zero_cons]
    exact ⟨_, es', rfl, hk, hv, h3, h4⟩
  | p :: l, es, j + 1, e0, h, he, hv => by
    obtain ⟨e, es', rfl, h1, h2, h3, h4⟩ := h
    simp only [setK, List.modify_succ_cons]
    exact ⟨e, _, rfl, h1, h2, h3, setK_key hk j h4 (by simpa using he) hv⟩
theorem bornK_eq {φ : Phi} : ∀ {l : List (AV × AV × Nat)} {es : List MapEntry} (j : Nat) {e : MapEntry}, EntRel φ l es → es[j]? = some e → bornK l j = e.born
  | [], es, j, e, h, he => by simp only [EntRel] at h; subst h; simp at he
  | p :: l, es, 0, e0, h, he => by
    obtain ⟨e, es', rfl, h1, h2, h3, h4⟩ := h
    simp at he; subst he; exact h3.symm
  | p :: l, es, j + 1, e0, h, he => by
    obtain ⟨e, es', rfl, h1, h2, h3, h4⟩ := h
    exact bornK_eq j h4 (by simpa using he)
theorem tup2 {φ : Phi} {a b : AV} {x y : Value} (h : VR φ a x) (h' : VR φ b y) : VR φ (.tup [a, b]) (.tuple #[x, y]) := by
  simp only [VR]; exact ⟨[x, y], rfl, VRL.cons h (VRL.cons h' (VRL.nil φ))⟩
theorem me_sound {P : Program} {w0 : World} {φ : Phi} {s s' : St} {w : World} (r : Rel P w0 φ s.get w) {t kt e : TypeId} {f : FK} {z m k u : AV} {m' k' : Value} (hu : P.underlying t = some (.map kt e)) (hf : fkT P kt = some f) (hz : zeroT P e = some z)
    (h : oMe s f z m k = some (u, s')) (hm : VR φ m m') (hk : VR φ k k') : ∃ x w', (Instr.mapEntry t m' k').run P w = .ok x w' ∧ Step P w0 φ s w φ s' w' ∧ VR φ u x := by
  obtain ⟨zx, hzr, hzv⟩ := run_zeroValue' hz
  have hck : ∀ b, (Instr.checkKey b 10000 kt k').run P w = .ok () w := fun b => run_checkKey hf b 9999 k'
  unfold oMe at h
  split at h
  · rename_i id
    simp only [VR] at hm; obtain ⟨B, hB, rfl⟩ := hm
    split at h
    · rename_i es clock hg
      obtain ⟨ents, hb, hent⟩ := mapObj r hg hB
      have hgo := run_getObj' (P := P) hb (by simp)
      cases hfi : findK f k es 0 with
      | none => rw [hfi] at h; simp at h
      | some res =>
        rw [hfi] at h
        rcases run_findKey (P := P) (w := w) hf hk hent hfi with ⟨rfl, h5⟩ | ⟨j, v1, v2, e', rfl, h5, h6, h7, h8, h9, h10⟩
        · simp only [Option.some.injEq, Prod.mk.injEq] at h
          obtain ⟨rfl, rfl⟩ := h
          refine ⟨.tuple #[zx, goInt clock], _, ?_, Step.setObj r hg hB hb (x' := .map (ents.push { key := k', val := zx, born := clock }) (clock + 1)) ⟨_, setIn hb, ?_⟩, tup2 (hzv φ) (by simp only [VR]; rfl)⟩
          · simp only [Instr.mapEntry, Sem.run_bind, run_underlying' hu, Result.andThen_ok, hgo, hck, h5, hzr, run_setObj' _ hb (by simp), Sem.run_pure]
          · rw [Array.toList_push]
            exact EntRel.append hent ⟨_, [], rfl, hk, hzv φ, rfl, rfl⟩
        · simp only [Option.some.injEq, Prod.mk.injEq] at h
          obtain ⟨rfl, rfl⟩ := h
          have hent' : ents[j]? = some e' := by rw [← Array.getElem?_toList]; exact h7
          refine ⟨.tuple #[v2, goInt (((ents[j]?).map (·.born)).getD 0)], _, ?_, Step.setObj r hg hB hb (x' := .map (ents.modify j fun e => { e with key := k' }) clock) ⟨_, setIn hb, ?_⟩, tup2 h6 ?_⟩
          · simp only [Instr.mapEntry, Sem.run_bind, run_underlying' hu, Result.andThen_ok, hgo, hck, h5, getKey h7, run_keyStays h9, run_setObj' _ hb (by simp), Sem.run_pure]
          · rw [Array.toList_modify]
            exact setK_key hk j hent h7 (h8 ▸ h6)
          · simp only [VR]; rw [hent', bornK_eq j hent h7]; rfl
    · cases h
  · cases h
theorem setB_ent {φ : Phi} {b : Nat} {v : AV} {v' : Value} (hv : VR φ v v') : ∀ {l l' : List (AV × AV × Nat)} {es : List MapEntry}, EntRel φ l es → setB b v l = some l' →
    ∃ j, es.findIdx? (fun e => (e.born : Int) == (b : Int)) = some j ∧ EntRel φ l' (es.modify j fun e => { e with val := v' })
  | [], l', es, h, hs => by simp [setB] at hs
  | p :: l, l', es, h, hs => by
    obtain ⟨e, es', rfl, h1, h2, h3, h4⟩ := h
    simp only [setB] at hs
    cases hb : Nat.beq p.2.2 b with
    | true =>
      rw [hb] at hs; simp only [cond_true, Option.some.injEq] at hs; subst hs
      rw [beq_iff] at hb
      refine ⟨0, ?_, ?_⟩
      · have : ((e.born : Int) == (b : Int)) = true := by rw [beq_iff_eq]; omega
        simp [List.findIdx?_cons, this]
      · simp only [List.modify_zero_cons]
        exact ⟨_, es', rfl, h1, hv, h3, h4⟩
    | false =>
      rw [hb] at hs; simp only [cond_false] at hs
      cases hr : setB b v l with
      | none => rw [hr] at hs; simp at hs
      | some l2 =>
        rw [hr] at hs; simp only [Option.some.injEq] at hs; subst hs
        obtain ⟨j, h5, h6⟩ := setB_ent hv h4 hr
        have hne : ¬ p.2.2 = b := fun e => by rw [beq_iff.2 e] at hb; cases hb
        have : ((e.born : Int) == (b : Int)) = false := by rw [beq_eq_false_iff_ne]; omega
        refine ⟨j + 1, by simp [List.findIdx?_cons, this, h5], ?_⟩
        simp only [List.modify_succ_cons]
        exact ⟨e, _, rfl, h1, h2, h3, h6⟩
theorem findIdx_list {α : Type} (a : Array α) (p : α → Bool) : a.findIdx? p = a.toList.findIdx? p := by cases a; simp
theorem es_sound {P : Program} {w0 : World} {φ : Phi} {s s' : St} {w : World} (r : Rel P w0 φ s.get w) {mt : TypeId} {m t v u : AV} {m' t' v' : Value} (h : oEs s m t v = some (u, s')) (hm : VR φ m m') (ht : VR φ t t') (hv : VR φ v v') :
    u = undefV ∧ ∃ w', (Instr.entryStore mt m' t' v').run P w = .ok () w' ∧ Step P w0 φ s w φ s' w' := by
  unfold oEs at h
  split at h
  · rename_i id
    simp only [VR] at hm; obtain ⟨B, hB, rfl⟩ := hm
    split at h
    · rename_i k b
      simp only [VR] at ht; subst ht
      split at h
      · rename_i es clock hg
        obtain ⟨ents, hb, hent⟩ := mapObj r hg hB
        have hgo := run_getObj' (P := P) hb (by simp)
        cases hs : setB b v es with
        | none => rw [hs] at h; simp at h
        | some es' =>
          rw [hs] at h; simp only [Option.some.injEq, Prod.mk.injEq] at h
          obtain ⟨rfl, rfl⟩ := h
          obtain ⟨j, h5, h6⟩ := setB_ent hv hent hs
          have h5' : ents.findIdx? (fun e => (e.born : Int) == Int.ofNat b) = some j := by rw [findIdx_list]; exact h5
          refine ⟨rfl, _, ?_, Step.setObj r hg hB hb (x' := .map (ents.modify j fun e => { e with val := v' }) clock) ⟨_, setIn hb, ?_⟩⟩
          · simp only [Instr.entryStore, Sem.run_bind, hgo, Result.andThen_ok, asInt, asIntOf, Sem.run_pure, h5']
            exact run_setObj' _ hb (by simp)
          · rw [Array.toList_modify]; exact h6
      · cases h
    · cases h
  · cases h
theorem getObj_alloc {w : World} (o : Obj) : ({ w with heap := w.heap.push o } : World).heap[w.heap.size]? = some o := by simp
theorem VRL_take_all {φ : Phi} {cs : List AV} {xs : List Value} (h : VRL φ cs xs) : VRL φ cs ((xs.toArray.toList.drop 0).take cs.length) := by
  simp only [List.drop_zero]
  rw [List.take_of_length_le (by rw [VRL.length h]; simp)]
  exact h
theorem newRow_step {P : Program} {w0 : World} {φ : Phi} {s : St} {w : World} (r : Rel P w0 φ s.get w) (hwf : Wf s) (hf : φ s.next = none) (e : TypeId) {cs : List AV} {xs : List Value} (hx : VRL φ cs xs) :
    Step P w0 φ s w (φ.set s.next ⟨w.heap.size, 0, cs.length⟩) (s.alloc (.row e cs false false)) { w with heap := w.heap.push (.cells xs.toArray e) } := by
  refine Step.alloc r hwf hf rfl rfl rfl rfl ?_
  refine ⟨xs.toArray, (0, 0), getObj_alloc _, by simp [VRL.length hx], Nat.le_refl _, fun _ => ⟨rfl, rfl⟩, ?_, Nat.le_refl _, fun _ i _ => by simp⟩
  exact VRL_take_all (VRL.mono (Phi.set_sub hf) _ _ hx)
theorem run_newRow {P : Program} {w : World} (e : TypeId) (xs : Array Value) : (newRow e xs).run P w = .ok ⟨w.heap.size, 0, none⟩ { w with heap := w.heap.push (.cells xs e) } := by simp [newRow]
theorem ptr_new {φ : Phi} {s : St} {w : World} {tot : Nat} : VR (φ.set s.next ⟨w.heap.size, 0, tot⟩) (.ptr s.next 0) (.pointer (some ⟨w.heap.size, 0, none⟩)) := by
  simp only [VR]; exact ⟨⟨w.heap.size, 0, tot⟩, by simp [Phi.set], by simp⟩
theorem alloc_sound {P : Program} {w0 : World} {φ : Phi} {s s' : St} {w : World} (r : Rel P w0 φ s.get w) (hwf : Wf s) (hf : φ s.next = none) {t : TypeId} {z v : AV} (hz : zeroT P t = some z) (h : oAlloc s t z.cells = some (v, s')) :
    ∃ φ' x w', (Instr.alloc t true (.tuple #[])).run P w = .ok x w' ∧ Step P w0 φ s w φ' s' w' ∧ VR φ' v x := by
  obtain ⟨zx, hzr, hzv⟩ := run_zeroValue' hz
  unfold oAlloc at h; cases h
  refine ⟨_, _, _, ?_, newRow_step r hwf hf t (hzv φ).cells, ptr_new⟩
  simp only [Instr.alloc, Sem.run_bind, hzr, Result.andThen_ok, newVar, run_newRow, Sem.run_pure]
theorem box_sound {P : Program} {w0 : World} {φ : Phi} {s s' : St} {w : World} (r : Rel P w0 φ s.get w) (hwf : Wf s) (hf : φ s.next = none) {t : TypeId} {x v : AV} {x' : Value} (h : oBox s t x = some (v, s')) (hx : VR φ x x') :
    ∃ φ' y w', (Instr.box t x').run P w = .ok y w' ∧ Step P w0 φ s w φ' s' w' ∧ VR φ' v y := by
  unfold oBox at h; cases h
  refine ⟨_, _, _, ?_, newRow_step r hwf hf t hx.cells, ptr_new⟩
  simp only [Instr.box, newVar, Sem.run_bind, run_newRow, Result.andThen_ok, Sem.run_pure]
theorem setIdx_fold (off : Nat) : ∀ (vs : List Value) (j : Nat) (cs : Array Value), off + j + vs.length ≤ cs.size →
    ((vs.zipIdx j).foldl (fun (cs : Array Value) (p : Value × Nat) => cs.setIfInBounds (off + p.2) p.1) cs).toList = cs.toList.take (off + j) ++ vs ++ cs.toList.drop (off + j + vs.length)
  | [], j, cs, h => by simp
  | v :: vs, j, cs, h => by
    have h' : off + j + (vs.length + 1) ≤ cs.size := h
    rw [List.zipIdx_cons, List.foldl_cons, setIdx_fold off vs (j + 1) _ (by simp; omega)]
    have hlt : off + j < cs.toList.length := by simp; omega
    have hm : (cs.toList.take (off + j)).length = off + j := by rw [List.length_take]; omega
    rw [Array.toList_setIfInBounds]
    have e1 : (cs.toList.set (off + j) v).take (off + (j + 1)) = cs.toList.take (off + j) ++ [v] := by
      rw [← Nat.add_assoc, List.take_set, List.take_succ_eq_append_getElem hlt, List.set_append_right _ _ (by omega), hm]; simp
    have e2 : (cs.toList.set (off + j) v).drop (off + (j + 1) + vs.length) = cs.toList.drop (off + j + (vs.length + 1)) := by
      rw [List.drop_set_of_lt (by omega)]; congr 1; omega
    rw [e1, e2]; simp
theorem fill_sound {φ : Phi} {place : Nat → Option (Nat × Nat)} {tm : Trie AV} {a : Act} : ∀ {ps : List (Nat × Operand)} {qs : List (Nat × Nat × Opd)} {zs cs : List AV} {xs : Array Value}, cParts place ps = some qs → fillC zs tm qs = some cs →
    TmOn φ (Opd.tmps (qs.map (·.2.2))) tm a → VRL φ zs xs.toList → ∃ ys, Instr.fill place xs (ps.map fun (i, x) => (i, a.eval x)) = some ys ∧ VRL φ cs ys.toList
  | [], qs, zs, cs, xs, hc, hf, _, hz => by simp [cParts] at hc; subst hc; simp [fillC] at hf; subst hf; exact ⟨xs, rfl, hz⟩
  | (i, x) :: ps, qs, zs, cs, xs, hc, hf, ht, hz => by
    simp only [cParts] at hc
    cases hp : place i with
    | none => rw [hp] at hc; simp at hc
    | some os =>
      obtain ⟨o, sz⟩ := os
      cases hx : cOpd x with
      | none => rw [hp, hx] at hc; simp at hc
      | some y =>
        cases hr : cParts place ps with
        | none => rw [hp, hx, hr] at hc; simp at hc
        | some l =>
          rw [hp, hx, hr] at hc; simp only [Option.some.injEq] at hc; subst hc
          simp only [fillC] at hf
          cases hy : y.ev tm with
          | none => rw [hy] at hf; simp at hf
          | some v =>
            rw [hy] at hf; simp only at hf
            cases hb : (Nat.beq (lenN v.cells) sz && Nat.ble 1 sz) with
            | false => rw [hb] at hf; simp at hf
            | true =>
              rw [hb] at hf; simp only [cond_true] at hf
              cases hpa : paste zs o v.cells with
              | none => rw [hpa] at hf; simp at hf
              | some zs' =>
                rw [hpa] at hf; simp only at hf
                have hv := opd_sound (φ := φ) (a := a) hx hy (ht.sub (by intro t h; simp [Opd.tmps]; exact .inl h))
                have hvc := hv.cells
                have hlen := VRL.length hvc
                rw [Bool.and_eq_true, beq_iff, ble_iff, lenN_eq] at hb
                obtain ⟨hb, hb1⟩ := hb
                obtain ⟨hbound, rfl⟩ := paste_some hpa
                have hzl := VRL.length hz
                simp only [List.map_cons, Instr.fill, hp]
                have hsz : (a.eval x).cells.size = sz := by rw [← hb, hlen]; simp
                have hoff : o + (a.eval x).cells.size ≤ xs.size := by
                  have hbd := hbound.resolve_right (fun e => by rw [e] at hb; simp at hb; omega)
                  simp at hzl hlen; omega
                have hif : ((a.eval x).cells.size ≠ sz || o + (a.eval x).cells.size > xs.size) = false := by
                  simp [hsz]; omega
                rw [hif]
                simp only [Bool.false_eq_true, if_false]
                refine fill_sound hr hf (ht.sub (by intro t h; simp [Opd.tmps] at h ⊢; exact .inr h)) ?_
                have hfold : ((a.eval x).cells.zipIdx.foldl (fun (cs : Array Value) (p : Value × Nat) => cs.setIfInBounds (o + p.2) p.1) xs).toList = xs.toList.take o ++ (a.eval x).cells.toList ++ xs.toList.drop (o + (a.eval x).cells.toList.length) := by
                  have := setIdx_fold o (a.eval x).cells.toList 0 xs (by simp; omega)
                  rw [← Array.foldl_toList, Array.toList_zipIdx]
                  simpa using this
                rw [hfold]
                have : v.cells.length = (a.eval x).cells.toList.length := hlen
                rw [this]
                exact VRL.append (VRL.append (hz.take o) hvc) (hz.drop _)
theorem run_ld {P : Program} {w0 : World} {φ : Phi} {s : St} {w : World} {G : List (List AV)} (r : Rel P w0 φ s.get w) (hG : GlobRel G w0) {t : TypeId} {p v : AV} {x : Value} (ha : aggT P t = some false) (h : vLd G s p = some v) (hx : VR φ p x) :
    ∃ z, (Instr.loadAt t x).run P w = .ok z w ∧ VR φ v z := by
  unfold vLd at h
  cases hl : loadC G s p 1 with
  | none => rw [hl] at h; simp at h
  | some l =>
    rw [hl] at h; simp only at h
    obtain ⟨a, xs, rfl, hlen, hxs, hc⟩ := loadC_sound r hG hl hx
    obtain ⟨y, hy, hv⟩ := hxs.get (headV_some h)
    have hcell := hc 0 y hy
    have : a.add 0 = a := by simp [Addr.add]
    rw [this] at hcell
    exact ⟨y, by simp [Instr.loadAt, Instr.sureAddr, loadVar, run_isAgg' ha, hcell], hv⟩
theorem run_ldn {P : Program} {w0 : World} {φ : Phi} {s : St} {w : World} {G : List (List AV)} (r : Rel P w0 φ s.get w) (hG : GlobRel G w0) {t : TypeId} {n : Nat} {p v : AV} {x : Value} (ha : aggT P t = some true) (hs : sizT P t = some n) (h : vLdn G s n p = some v) (hx : VR φ p x) :
    ∃ z, (Instr.loadAt t x).run P w = .ok z w ∧ VR φ v z := by
  unfold vLdn at h
  cases hl : loadC G s p n with
  | none => rw [hl] at h; simp at h
  | some l =>
    rw [hl] at h; simp only [Option.some.injEq] at h; subst h
    obtain ⟨a, xs, rfl, hlen, hxs, hc⟩ := loadC_sound r hG hl hx
    have hrun := run_loadCells_list (P := P) w a xs hc
    rw [hlen] at hrun
    exact ⟨.agg xs.toArray, by simp only [Instr.loadAt, Instr.sureAddr, loadVar, Sem.run_bind, Sem.run_pure, Result.andThen_ok, run_isAgg' ha, if_true, run_sizeOf' hs, hrun], by simp only [VR]; exact ⟨xs, rfl, hxs⟩⟩
theorem run_st {P : Program} {w0 : World} {φ : Phi} {s s' : St} {w : World} (r : Rel P w0 φ s.get w) {t : TypeId} {n : Nat} {p y v : AV} {x z : Value} (hs : sizT P t = some n) (h : oSt s n p y = some (v, s')) (hx : VR φ p x) (hy : VR φ y z) :
    v = undefV ∧ ∃ w', (Instr.storeAt t x z).run P w = .ok () w' ∧ Step P w0 φ s w φ s' w' := by
  unfold oSt at h
  cases hb : Nat.beq (lenN y.cells) n with
  | false => rw [hb] at h; simp at h
  | true =>
    rw [hb] at h; simp only [cond_true] at h
    cases hst : storeC s p y.cells with
    | none => rw [hst] at h; simp at h
    | some s1 =>
      rw [hst] at h; simp only [Option.some.injEq, Prod.mk.injEq] at h
      obtain ⟨rfl, rfl⟩ := h
      obtain ⟨a, w', rfl, h1, h2⟩ := storeC_sound r hst hx hy.cells
      refine ⟨rfl, w', ?_, h2⟩
      rw [beq_iff, lenN_eq, VRL.length hy.cells] at hb
      have hsz : z.cells.size = n := by simpa using hb
      simp only [Instr.storeAt, Instr.sureAddr, storeVar, Sem.run_bind, Sem.run_pure, Result.andThen_ok, run_sizeOf' hs]
      simp only [hsz, ne_eq, not_true_eq_false, if_false]
      exact h1
theorem nck_sound {φ : Phi} {x v : AV} {x' : Value} (h : vNck x = some v) (hx : VR φ x x') : v = x ∧ (∀ name a c, x' ≠ .func (.method name) a c) ∧ x' ≠ .pointer none ∧ x' ≠ .nilIface ∧ x' ≠ .nilFunc := by
  unfold vNck at h
  split at h
  · cases h; simp only [VR] at hx; obtain ⟨B, hB, rfl⟩ := hx; exact ⟨rfl, by simp, by simp, by simp, by simp⟩
  · cases h; simp only [VR] at hx; subst hx; exact ⟨rfl, by simp, by simp, by simp, by simp⟩
  · cases h; simp only [VR] at hx; obtain ⟨u, w, rfl, _⟩ := hx; exact ⟨rfl, by simp, by simp, by simp, by simp⟩
  · cases h; simp only [VR] at hx; obtain ⟨B, hB, rfl⟩ := hx; exact ⟨rfl, by simp, by simp, by simp, by simp⟩
  · cases h; simp only [VR] at hx; obtain ⟨B, hB, rfl⟩ := hx; exact ⟨rfl, by simp, by simp, by simp, by simp⟩
  · cases h; simp only [VR] at hx; obtain ⟨_, b, o, ys, rfl, _⟩ := hx; exact ⟨rfl, by simp, by simp, by simp, by simp⟩
  · cases h
theorem sl_new {φ : Phi} {s : St} {w : World} {tot len : Nat} : VR (φ.set s.next ⟨w.heap.size, 0, tot⟩) (.sl s.next 0 len (.fix len)) (.slice (some ⟨w.heap.size, 0, none⟩) len len) := by
  simp only [VR]; exact ⟨⟨w.heap.size, 0, tot⟩, len, by simp [Phi.set], by simp, rfl⟩
theorem sl_newc {φ : Phi} {s : St} {w : World} {tot len c : Nat} : VR (φ.set s.next ⟨w.heap.size, 0, tot⟩) (.sl s.next 0 len (.fix c)) (.slice (some ⟨w.heap.size, 0, none⟩) len c) := by
  simp only [VR]; exact ⟨⟨w.heap.size, 0, tot⟩, c, by simp [Phi.set], by simp, rfl⟩
theorem made_list (z : List Value) (n : Nat) (_h : 0 < z.length) : ((Array.range (n * z.length)).map fun i => (z.toArray)[i % z.toArray.size]!).toList = (List.replicate n z).flatten := by
  induction n with
  | zero => simp
  | succ n ih =>
    rw [List.replicate_succ', List.flatten_append, ← ih]
    simp only [Array.toList_map, Array.toList_range, Nat.succ_mul]
    rw [List.range_add, List.map_append]
    congr 1
    simp only [List.flatten_cons, List.flatten_nil, List.append_nil, List.map_map]
    apply List.ext_getElem?
    intro i
    by_cases hi : i < z.length
    · rw [List.getElem?_map, List.getElem?_range hi]
      have e1 : (n * z.length + i) % z.length = i := by rw [Nat.mul_comm, Nat.mul_add_mod]; exact Nat.mod_eq_of_lt hi
      simp only [Option.map_some, Function.comp_apply, List.size_toArray, e1]
      rw [List.getElem?_eq_getElem hi]
      simp [hi]
    · rw [List.getElem?_eq_none (by simp; omega), List.getElem?_eq_none (by omega)]
theorem run_mapM_list {P : Program} {w : World} {α β : Type} (f : α → Sem β) (g : α → β) : ∀ (xs : List α), (∀ x ∈ xs, (f x).run P w = .ok (g x) w) → (xs.mapM f).run P w = .ok (xs.map g) w
  | [], _ => by simp
  | x :: xs, h => by
    rw [List.mapM_cons]
    simp only [Sem.run_bind, h x (by simp), Result.andThen_ok, run_mapM_list f g xs (fun y hy => h y (by simp [hy])), Sem.run_pure, List.map_cons]
theorem run_mapM_array {P : Program} {w : World} {α β : Type} (f : α → Sem β) (g : α → β) (xs : Array α) (h : ∀ x ∈ xs.toList, (f x).run P w = .ok (g x) w) : (xs.mapM f).run P w = .ok (xs.map g) w := by
  rw [Array.mapM_eq_mapM_toList]
  simp only [Sem.run_map, run_mapM_list f g xs.toList h, Result.andThen_ok]
  congr 1
  apply Array.ext'
  simp
theorem fill_congr {p q : Nat → Option (Nat × Nat)} (h : ∀ i, p i = q i) (cells : Array Value) (l : List (Nat × Value)) : Instr.fill p cells l = Instr.fill q cells l := by
  have : p = q := funext h
  rw [this]
theorem build_struct {P : Program} {w : World} {φ : Phi} {t : TypeId} {fs : Array Field} {z : AV} {ps : Array (Nat × Operand)} {qs : List (Nat × Nat × Opd)} {cs : List AV} {tm : Trie AV} {a : Act}
    (hu : P.underlying t = some (.struct fs)) (hz : zeroT P t = some z) (hall : fs.toList.all (fun f => (sizT P f.type).isSome) = true) (hc : cParts (placeS P fs) ps.toList = some qs) (hf : fillC z.cells tm qs = some cs) (ht : TmOn φ (Opd.tmps (qs.map (·.2.2))) tm a) :
    ∃ y, (Instr.build t (ps.map fun (i, x) => (i, a.eval x))).run P w = .ok y w ∧ VR φ (.agg cs) y := by
  obtain ⟨zx, hzr, hzv⟩ := run_zeroValue' hz
  obtain ⟨ys, h1, h2⟩ := fill_sound (a := a) hc hf ht (hzv φ).cells
  have hm : (fs.mapM fun f => (do pure (f.offset, ← sizeOf f.type) : Sem (Nat × Nat))).run P w = .ok (fs.map fun f => (f.offset, (sizT P f.type).getD 0)) w := by
    refine run_mapM_array _ _ _ fun f hf => ?_
    have := List.all_eq_true.1 hall f hf
    obtain ⟨n, hn⟩ := Option.isSome_iff_exists.1 this
    simp [run_sizeOf' hn, hn]
  refine ⟨.agg ys, ?_, by simp only [VR]; exact ⟨ys.toList, by simp, h2⟩⟩
  simp only [Instr.build, Sem.run_bind, hzr, Result.andThen_ok, run_underlying' hu, hm]
  rw [fill_congr (q := placeS P fs)]
  · have : (ps.map fun (i, x) => (i, a.eval x)).toList = ps.toList.map fun (i, x) => (i, a.eval x) := by simp
    rw [this, h1]; rfl
  · intro i
    unfold placeS
    rw [Array.getElem?_map]
    cases hi : fs[i]? with
    | none => rfl
    | some f =>
      have hmem : f ∈ fs.toList := by
        have : fs.toList[i]? = some f := by rw [Array.getElem?_toList]; exact hi
        exact List.mem_of_getElem? this
      have := List.all_eq_true.1 hall f hmem
      obtain ⟨n, hn⟩ := Option.isSome_iff_exists.1 this
      simp [hn]
theorem build_array {P : Program} {w : World} {φ : Phi} {t e : TypeId} {N n : Nat} {z : AV} {ps : Array (Nat × Operand)} {qs : List (Nat × Nat × Opd)} {cs : List AV} {tm : Trie AV} {a : Act}
    (hu : P.underlying t = some (.array N e)) (hz : zeroT P t = some z) (hs : sizT P e = some n) (hc : cParts (fun i => some (i * n, n)) ps.toList = some qs) (hf : fillC z.cells tm qs = some cs) (ht : TmOn φ (Opd.tmps (qs.map (·.2.2))) tm a) :
    ∃ y, (Instr.build t (ps.map fun (i, x) => (i, a.eval x))).run P w = .ok y w ∧ VR φ (.agg cs) y := by
  obtain ⟨zx, hzr, hzv⟩ := run_zeroValue' hz
  obtain ⟨ys, h1, h2⟩ := fill_sound (a := a) hc hf ht (hzv φ).cells
  refine ⟨.agg ys, ?_, by simp only [VR]; exact ⟨ys.toList, by simp, h2⟩⟩
  simp only [Instr.build, Sem.run_bind, hzr, Result.andThen_ok, run_underlying' hu, run_sizeOf' hs]
  have : (ps.map fun (i, x) => (i, a.eval x)).toList = ps.toList.map fun (i, x) => (i, a.eval x) := by simp
  rw [this, h1]; rfl
theorem bsl_sound {P : Program} {w0 : World} {φ : Phi} {s s' : St} {w : World} (r : Rel P w0 φ s.get w) (hwf : Wf s) (hf0 : s.next < s'.next → φ s.next = none) {t e : TypeId} {n len : Nat} {z v : AV} {ps : Array (Nat × Operand)} {qs : List (Nat × Nat × Opd)} {tm : Trie AV} {a : Act}
    (hu : P.underlying t = some (.slice e)) (hs : sizT P e = some n) (hz : zeroT P e = some z) (hb : (Nat.ble (len * n) 16777216 && Nat.beq (lenN z.cells) n && Nat.ble 1 n) = true)
    (hc : cParts (fun i => some (i * n, n)) ps.toList = some qs) (h : oBsl s e len (fillC (reps len z.cells) tm qs) = some (v, s')) (ht : TmOn φ (Opd.tmps (qs.map (·.2.2))) tm a) :
    ∃ φ' y w', (Instr.buildSlice t len (ps.map fun (i, x) => (i, a.eval x))).run P w = .ok y w' ∧ Step P w0 φ s w φ' s' w' ∧ VR φ' v y := by
  obtain ⟨zx, hzr, hzv⟩ := run_zeroValue' hz
  simp only [Bool.and_eq_true, beq_iff, ble_iff] at hb
  obtain ⟨⟨hb1, hb2⟩, hb3⟩ := hb
  rw [lenN_eq, VRL.length (hzv φ).cells] at hb2
  have hzl : zx.cells.toList.length = n := hb2
  cases hfc : fillC (reps len z.cells) tm qs with
  | none => rw [hfc] at h; simp [oBsl] at h
  | some cs =>
    rw [hfc] at h; simp only [oBsl] at h
    have hmade := made_list zx.cells.toList len (by omega)
    rw [hzl] at hmade
    simp only [Array.toArray_toList] at hmade
    have hzz : VRL φ (reps len z.cells) ((Array.range (len * n)).map (fun i => zx.cells[i % zx.cells.size]!)).toList := by
      rw [hmade]; exact VRL.reps (hzv φ).cells len
    obtain ⟨ys, h1, h2⟩ := fill_sound (a := a) hc hfc ht hzz
    have hrun : (Instr.buildSlice t len (ps.map fun (i, x) => (i, a.eval x))).run P w = .ok (.slice (some ⟨w.heap.size, 0, none⟩) len len) { w with heap := w.heap.push (.cells ys e) } := ?_
    · cases hm : (s.md && pureL cs) with
      | true =>
        rw [hm] at h; simp only [cond_true, Option.some.injEq, Prod.mk.injEq] at h
        obtain ⟨rfl, rfl⟩ := h
        rw [Bool.and_eq_true] at hm
        have st := Step.frozen (w' := { w with heap := w.heap.push (.cells ys e) }) r (c := ys) (e := e) (fr := (0, 0)) (fun b hb => by show (w.heap.push _)[b]? = _; rw [Array.getElem?_push_lt hb, Array.getElem?_eq_getElem hb]) (by simp) (by simp) rfl rfl rfl
        refine ⟨_, _, _, hrun, st, VR.frozen (φ := φ) (m := ys.size) rfl hm.2 st.zsub (Nat.le_refl _) (fun _ => rfl) ?_⟩
        rw [List.take_of_length_le (by simp)]; exact h2
      | false =>
        rw [hm] at h; simp only [cond_false, Option.some.injEq, Prod.mk.injEq] at h
        obtain ⟨rfl, rfl⟩ := h
        have hst := newRow_step r hwf (hf0 (Nat.lt_succ_self _)) e h2
        rw [Array.toArray_toList] at hst
        exact ⟨_, _, _, hrun, hst, sl_new⟩
    have hpl : (ps.map fun (i, x) => (i, a.eval x)).toList = ps.toList.map fun (i, x) => (i, a.eval x) := by simp
    simp only [Instr.buildSlice, Sem.run_bind, run_underlying' hu, Result.andThen_ok, run_sizeOf' hs]
    rw [if_neg (by omega)]
    by_cases h0 : len * n = 0
    · rw [if_pos h0]
      have hl0 : len = 0 := by rcases Nat.mul_eq_zero.1 h0 with h | h <;> omega
      subst hl0
      have e1 : (Array.range (0 * n)).map (fun i => (#[] : Array Value)[i % (#[] : Array Value).size]!) = (Array.range (0 * n)).map (fun i => zx.cells[i % zx.cells.size]!) := by simp
      simp only [Sem.run_bind, Sem.run_pure, Result.andThen_ok]
      rw [e1, hpl, h1]
      simp only [Sem.run_bind, run_newRow, Result.andThen_ok, Sem.run_pure]
    · rw [if_neg h0]
      simp only [Sem.run_bind, hzr, Result.andThen_ok, Sem.run_pure]
      rw [hpl, h1]
      simp only [Sem.run_bind, run_newRow, Result.andThen_ok, Sem.run_pure]
theorem mmap_sound {P : Program} {w0 : World} {φ : Phi} {s s' : St} {w : World} (r : Rel P w0 φ s.get w) (hwf : Wf s) (hf : φ s.next = none) {v : AV} (h : oMmap s = some (v, s')) :
    ∃ φ', Step P w0 φ s w φ' s' { w with heap := w.heap.push (.map #[] 0) } ∧ VR φ' v (.map (some w.heap.size)) := by
  unfold oMmap at h; cases h
  refine ⟨φ.set s.next ⟨w.heap.size, 0, 0⟩, Step.alloc r hwf hf rfl rfl rfl rfl ⟨#[], getObj_alloc _, by simp [EntRel]⟩, ?_⟩
  simp only [VR]; exact ⟨⟨w.heap.size, 0, 0⟩, by simp [Phi.set], rfl⟩
theorem msl_sound {P : Program} {w0 : World} {φ : Phi} {s s' : St} {w : World} (r : Rel P w0 φ s.get w) (hwf : Wf s) (hf0 : φ s.next = none) {t e : TypeId} {n b : Nat} {z l c v : AV} {l' c' : Value}
    (hu : P.underlying t = some (.slice e)) (hs : sizT P e = some n) (hby : bytT P e = some b) (hz : zeroT P e = some z) (hb : (Nat.beq (lenN z.cells) n && Nat.ble 1 n) = true)
    (h : oMsl s e b z.cells l c = some (v, s')) (hl : VR φ l l') (hc : VR φ c c') : ∃ φ' y w', (Instr.makeSlice t l' c').run P w = .ok y w' ∧ Step P w0 φ s w φ' s' w' ∧ VR φ' v y := by
  obtain ⟨zx, hzr, hzv⟩ := run_zeroValue' hz
  obtain ⟨i, hi, hib⟩ := run_bytes' hby
  simp only [Bool.and_eq_true, beq_iff, ble_iff] at hb
  rw [lenN_eq, VRL.length (hzv φ).cells] at hb
  have hzl : zx.cells.toList.length = n := hb.1
  unfold oMsl at h
  split at h
  · rename_i ln
    split at h
    · rename_i cn
      cases hbb : (Nat.ble ln cn && Nat.ble (Nat.mul cn b) 281474976710656 && Nat.blt cn 9223372036854775808) with
      | false => rw [hbb] at h; simp at h
      | true =>
        rw [hbb] at h; simp only [cond_true, Option.some.injEq, Prod.mk.injEq] at h
        obtain ⟨rfl, rfl⟩ := h
        simp only [Bool.and_eq_true, ble_iff, blt_iff] at hbb
        obtain ⟨⟨h1, h2⟩, h3⟩ := hbb
        have h2' : cn * b ≤ 281474976710656 := h2
        simp only [VR] at hl hc; subst hl; subst hc
        have hmade := made_list zx.cells.toList cn (by omega)
        rw [hzl] at hmade
        simp only [Array.toArray_toList] at hmade
        have hzz : VRL φ (reps cn z.cells) ((Array.range (cn * n)).map (fun i => zx.cells[i % zx.cells.size]!)).toList := by
          rw [hmade]; exact VRL.reps (hzv φ).cells cn
        refine ⟨_, _, _, ?_, newRow_step r hwf hf0 e hzz, sl_newc⟩
        have w1 : IntKind.i64.wrap (Int.ofNat ln) = (ln : Int) := wrap_small .i64 ln (by simp only [topN]; omega)
        have w2 : IntKind.i64.wrap (Int.ofNat cn) = (cn : Int) := wrap_small .i64 cn (by simp only [topN]; omega)
        simp only [Instr.makeSlice, Sem.run_bind, run_underlying' hu, Result.andThen_ok, asInt, asIntOf, Sem.run_pure, run_typeInfo' hi, hib, w1, w2]
        have hmul : ¬ ((b : Int) * (cn : Int) > 2 ^ 48) := by
          have e1 : (b : Int) * (cn : Int) = ((cn * b : Nat) : Int) := by rw [Nat.mul_comm]; simp
          have e2 : (2 : Int) ^ 48 = 281474976710656 := by decide
          rw [e1, e2]; omega
        have hcond : ¬ ((decide ((cn : Int) < 0) || decide ((b : Int) * (cn : Int) > 2 ^ 48) || decide ((ln : Int) < 0) || decide ((ln : Int) > (cn : Int))) = true) := by
          rw [decide_eq_false (show ¬ (cn : Int) < 0 by omega), decide_eq_false hmul, decide_eq_false (show ¬ (ln : Int) < 0 by omega), decide_eq_false (show ¬ (ln : Int) > (cn : Int) by omega)]
          simp
        rw [if_neg hcond]
        simp only [Sem.run_bind, run_askRoom, Result.andThen_ok, run_sizeOf' hs, Int.toNat_natCast, Sem.run_ite, Sem.run_pure, hzr, run_newRow]
        by_cases h0 : cn * n = 0
        · rw [if_pos h0, h0]; simp [Array.range_zero']
        · rw [if_neg h0]
    · cases h
  · cases h
theorem freeze_out {w : World} {a : Addr} {n k : Nat} (h : k ≠ a.block) : (w.freeze a n).heap[k]? = w.heap[k]? := by
  unfold World.freeze
  split
  · rfl
  · simp [Array.getElem?_modify, Ne.symm h]
theorem freeze_facts {w : World} {a : Addr} {n : Nat} : (w.freeze a n).heap.size = w.heap.size ∧ (w.freeze a n).os = w.os ∧ (w.freeze a n).tape = w.tape ∧ (w.freeze a n).output = w.output := by
  unfold World.freeze
  split
  · exact ⟨rfl, rfl, rfl, rfl⟩
  · exact ⟨by simp, rfl, rfl, rfl⟩
theorem freeze_in {w : World} {a : Addr} {n : Nat} {c : Array Value} {e : TypeId} {fr : Nat × Nat} (hn : n ≠ 0) (h : w.heap[a.block]? = some (.cells c e fr)) :
    (w.freeze a n).heap[a.block]? = some (.cells c e (if fr.1 == fr.2 then (a.off, a.off + n) else (min fr.1 a.off, max fr.2 (a.off + n)))) := by
  unfold World.freeze
  rw [if_neg hn]
  simp [Array.getElem?_modify, h]
theorem mark_end {n : Nat} {fr : Nat × Nat} (hle : fr.1 ≤ fr.2) (h : ∀ i, i < n → ¬ (fr.1 ≤ i ∧ i < fr.2)) :
    ∀ i, i < n → ¬ ((if fr.1 == fr.2 then (n, n + 1) else (min fr.1 n, max fr.2 (n + 1))).1 ≤ i ∧ i < (if fr.1 == fr.2 then (n, n + 1) else (min fr.1 n, max fr.2 (n + 1))).2) := by
  intro i hi
  by_cases e : fr.1 = fr.2
  · rw [show (fr.1 == fr.2) = true from by simpa using e]; simp; omega
  · rw [show (fr.1 == fr.2) = false from by simpa using e]
    simp only [Bool.false_eq_true, if_false]
    intro ⟨h1, h2⟩
    have hlt : fr.1 < fr.2 := by omega
    by_cases h3 : fr.1 < n
    · exact h fr.1 h3 ⟨Nat.le_refl _, hlt⟩
    · simp only [Nat.min_def] at h1
      split at h1 <;> omega
theorem mark_le {a n : Nat} {fr : Nat × Nat} (hle : fr.1 ≤ fr.2) : (if fr.1 == fr.2 then (a, a + n) else (min fr.1 a, max fr.2 (a + n))).1 ≤ (if fr.1 == fr.2 then (a, a + n) else (min fr.1 a, max fr.2 (a + n))).2 := by
  by_cases e : fr.1 = fr.2
  · rw [show (fr.1 == fr.2) = true from by simpa using e]; simp
  · rw [show (fr.1 == fr.2) = false from by simpa using e]
    simp only [Bool.false_eq_true, if_false]
    omega
theorem run_markStringish {P : Program} {w0 : World} {φ : Phi} {s : St} {w : World} (r : Rel P w0 φ s.get w) {id : Nat} {B : Blk} {e : Nat} {cells : List AV} {ext fz : Bool} (hg : s.get id = some (.row e cells ext fz)) (hB : φ id = some B) (off : Nat) :
    ∃ w', (markStringish ⟨B.b, off, none⟩).run P w = .ok () w' ∧ Step P w0 φ s w φ (s.put id (.row e cells ext fz)) w' := by
  obtain ⟨B', hB', c, fr, h1, h2, h3, h4, h5, h6, h7⟩ := r.obj id _ hg
  rw [hB] at hB'; cases hB'
  have hsh : w.shape? B.b = some (e, c.size) := by simp [World.shape?, h1]
  refine ⟨w.freeze { block := B.b, off := c.size } 1, by simp [markStringish, hsh], ?_⟩
  obtain ⟨f1, f2, f3, f4⟩ := freeze_facts (w := w) (a := { block := B.b, off := c.size }) (n := 1)
  refine Step.put r hg hB (fun b hb => freeze_out hb) f1 f2 f3 f4 ?_
  have hin := freeze_in (w := w) (a := { block := B.b, off := c.size }) (n := 1) (by omega) h1
  exact ⟨c, _, hin, h2, h3, h4, h5, mark_le h6, fun hz => mark_end h6 (h7 hz)⟩
theorem cbb_sound {P : Program} {w0 : World} {φ : Phi} {st st' : St} {w : World} (r : Rel P w0 φ st.get w) {s e _e' : TypeId} {x v : AV} {x' : Value} (hs : P.underlying s = some (.slice e)) (he : P.underlying e = some (.int .u8))
    (h : oCbb st x = some (v, st')) (hx : VR φ x x') : ∃ w', (convert s s x').run P w = .ok x' w' ∧ Step P w0 φ st w φ st' w' ∧ VR φ v x' := by
  unfold oCbb at h
  split at h
  · rename_i id off len c
    split at h
    · rename_i t cells ext fz hg
      simp only [Option.some.injEq, Prod.mk.injEq] at h
      obtain ⟨rfl, rfl⟩ := h
      have hx' := hx
      simp only [VR] at hx
      obtain ⟨B, k, hB, rfl, _⟩ := hx
      obtain ⟨w', h1, h2⟩ := run_markStringish r hg hB (B.o + off)
      refine ⟨w', ?_, h2, hx'⟩
      simp [convert, run_underlying' hs, run_underlying' he, h1]
    · cases h
  · cases h
theorem pureL_bytes : ∀ l : List Nat, pureL (bytesV l) = true
  | [] => rfl
  | b :: r => by simp [bytesV, pureL, pureA, pureL_bytes r]
theorem pushed_row {w : World} {x : Obj} : (w.heap.push x).size = w.heap.size + 1 := by simp
theorem csb_sound {P : Program} {w0 : World} {φ : Phi} {st st' : St} {w : World} (r : Rel P w0 φ st.get w) (hwf : Wf st) (hff : st.next < st'.next → φ st.next = none) {s d e : TypeId} {x v : AV} {x' : Value} (hs : P.underlying s = some .string) (hd : P.underlying d = some (.slice e)) (he : P.underlying e = some (.int .u8))
    (h : oCsb st e x = some (v, st')) (hx : VR φ x x') : ∃ φ' y w', (convert s d x').run P w = .ok y w' ∧ Step P w0 φ st w φ' st' w' ∧ VR φ' v y := by
  unfold oCsb at h
  split at h
  · rename_i t
    simp only [VR] at hx
    obtain ⟨bs, rfl, rfl⟩ := hx
    cases hb : Nat.blt (lenN (nats bs)) 9223372036854775808 with
    | false => rw [hb] at h; simp at h
    | true =>
      rw [hb] at h; simp only [cond_true] at h
      rw [blt_iff] at hb
      simp only [lenN_eq, nats_length] at hb h ⊢
      obtain ⟨q, hq⟩ : ∃ q, q = Question.appendCap bs.size 0 e := ⟨_, rfl⟩
      obtain ⟨cp, hcp⟩ : ∃ cp, cp = q.cut (w.tape w.drawn q) := ⟨_, rfl⟩
      have hge : bs.size ≤ cp := by rw [hcp, hq]; simp [Question.cut]
      obtain ⟨row, hrow⟩ : ∃ row : Array Value, row = (bs.data.map fun b => Value.int .u8 (b.toNat : Int)) ++ Array.replicate (cp - bs.size) (.int .u8 0) := ⟨_, rfl⟩
      have hrs : row.size = cp := by rw [hrow]; simp; have : bs.data.size = bs.size := rfl; omega
      obtain ⟨w1, hw1⟩ : ∃ w1 : World, w1 = { w with heap := w.heap.push (.cells row e), drawn := w.drawn + 1 } := ⟨_, rfl⟩
      have hh1 : w1.heap = w.heap.push (.cells row e) := by rw [hw1]
      have hnew : w1.heap[w.heap.size]? = some (.cells row e (0, 0)) := by rw [hh1]; simp
      have hsh : w1.shape? w.heap.size = some (e, row.size) := by simp [World.shape?, hnew]
      obtain ⟨w2, hw2⟩ : ∃ w2, w2 = w1.freeze { block := w.heap.size, off := row.size } 1 := ⟨_, rfl⟩
      have hm : (markStringish ⟨w.heap.size, 0, none⟩).run P w1 = .ok () w2 := by rw [hw2]; simp [markStringish, hsh]
      have hrun : (convert s d (.string bs)).run P w = .ok (.slice (some ⟨w.heap.size, 0, none⟩) bs.size cp) w2 := by
        have hforced : q.forced = false := by rw [hq]; rfl
        simp only [convert, Sem.run_bind, run_underlying' hs, run_underlying' hd, run_underlying' he, Result.andThen_ok, Conv.stringToBytes, run_choose]
        rw [← hq, hforced]
        simp only [Bool.false_eq_true, if_false, Result.andThen_ok, ← hcp]
        have hnr : (newRow e ((bs.data.map fun b => Value.int .u8 (b.toNat : Int)) ++ Array.replicate (cp - bs.size) (.int .u8 0))).run P { w with drawn := w.drawn + 1 } = .ok ⟨w.heap.size, 0, none⟩ w1 := by
          rw [run_newRow, hw1, hrow]
        rw [hnr]
        simp only [Result.andThen_ok, hm, Sem.run_pure]
      obtain ⟨f1, f2, f3, f4⟩ := freeze_facts (w := w1) (a := { block := w.heap.size, off := row.size }) (n := 1)
      have hin := freeze_in (w := w1) (a := { block := w.heap.size, off := row.size }) (n := 1) (by omega) hnew
      have hout : ∀ b, b ≠ w.heap.size → (w1.freeze { block := w.heap.size, off := row.size } 1).heap[b]? = w1.heap[b]? := fun b hb => freeze_out hb
      rw [← hw2] at f1 f2 f3 f4 hin hout
      have hcells : (row.toList.drop 0).take bs.size = bs.data.toList.map fun b => Value.int .u8 (b.toNat : Int) := by
        rw [hrow]
        simp only [List.drop_zero, Array.toList_append, Array.toList_map]
        rw [List.take_append_of_le_length (by simp)]
        rw [List.take_of_length_le (by simp)]
      cases hmd : st.md with
      | true =>
        rw [hmd] at h; simp only [cond_true, Option.some.injEq, Prod.mk.injEq] at h
        obtain ⟨rfl, rfl⟩ := h
        have st' := Step.frozen (w' := w2) r (fun b hb => (hout b (by omega)).trans (by rw [hh1, Array.getElem?_push_lt hb, Array.getElem?_eq_getElem hb])) (by rw [f1, hh1]; simp) hin (f2.trans (by rw [hw1])) (f3.trans (by rw [hw1])) (f4.trans (by rw [hw1]))
        refine ⟨_, _, _, hrun, st', VR.frozen (φ := φ) (m := bs.size) rfl (pureL_bytes _) st'.zsub hge (fun h => by cases h) ?_⟩
        rw [List.drop_zero] at hcells
        rw [hcells]; exact bytesV_vrl _
      | false =>
      rw [hmd] at h; simp only [cond_false, Option.some.injEq, Prod.mk.injEq] at h
      obtain ⟨rfl, rfl⟩ := h
      have hf := hff (Nat.lt_succ_self _)
      have hsub := Phi.set_sub (B := ⟨w.heap.size, 0, cp⟩) hf
      have hst : Step P w0 φ st w (φ.set st.next ⟨w.heap.size, 0, cp⟩) (st.alloc (.row e (bytesV (nats bs)) true false)) w1 := by
        refine Step.alloc r hwf hf hh1 (by rw [hw1]) (by rw [hw1]) (by rw [hw1]) ?_
        refine ⟨row, (0, 0), hnew, by rw [hrs]; simp, by rw [bytesV_length, nats_length]; exact hge, (fun h => by cases h), ?_, Nat.le_refl _, fun _ i _ => by simp⟩
        have e1 : (row.toList.drop 0).take (bytesV (nats bs)).length = bs.data.toList.map fun b => Value.int .u8 (b.toNat : Int) := by
          rw [bytesV_length, nats_length, hcells]
        rw [e1]
        exact bytesV_vrl _
      have hstep2 : Step P w0 φ st w (φ.set st.next ⟨w.heap.size, 0, cp⟩) (st.alloc (.row e (bytesV (nats bs)) true false)) w2 := by
        refine ⟨hst.ext, ⟨⟨f2.trans hst.rel.base.os, f3.trans hst.rel.base.tape, f4.trans hst.rel.base.output, by rw [f1]; exact hst.rel.base.size, fun k hk => (hout k (by have := r.base.size; omega)).trans (hst.rel.base.block k hk)⟩, ?_, ?_, hst.rel.old, hst.rel.inj, ?_, hst.rel.sep⟩, hst.same, by rw [f1]; exact hst.size, ?_, hst.own, hst.zsub, hst.zown⟩
        · intro id o hg
          obtain ⟨B, hB, t⟩ := hst.rel.obj id o hg
          refine ⟨B, hB, ?_⟩
          by_cases e2 : B.b = w.heap.size
          · -- it is the new row
            have hid : id = st.next := by
              by_cases e3 : id = st.next
              · exact e3
              · exfalso
                rw [show (φ.set st.next _) id = φ id from if_neg e3] at hB
                have := (r.rng id B hB); omega
            subst hid
            have ho : o = .row e (bytesV (nats bs)) true false := by
              have := get_some hg
              rw [show (st.alloc _).objs = st.objs.set st.next _ from rfl, Trie.get_set_same] at this
              exact (Option.some.inj this).symm
            subst ho
            obtain ⟨c, fr, g1, g2, g3, g4, g5, g6, g7⟩ := t
            rw [e2] at g1
            rw [hnew] at g1
            cases g1
            refine ⟨row, _, by rw [e2]; exact hin, g2, g3, g4, g5, mark_le g6, fun hz => mark_end g6 (g7 hz)⟩
          · exact t.keep (Sub.refl _) (hout _ e2)
        · intro id B hB; rw [f1]; exact hst.rel.rng id B hB
        · intro b i v hv
          have hlt := r.zlt (b := b) (o := i) (v := v) hv
          obtain ⟨c, e', fr, g1, g2⟩ := hst.rel.frz b i v hv
          exact ⟨c, e', fr, (hout b (by omega)).trans g1, g2⟩
        · intro b hb H
          exact (hout b (by omega)).trans (hst.frame b hb H)
      refine ⟨_, _, w2, hrun, hstep2, ?_⟩
      · simp only [VR]
        refine ⟨⟨w.heap.size, 0, cp⟩, cp, by simp [Phi.set], by simp, by omega, by simp, hge, Nat.zero_le _⟩
  · cases h
theorem rs_sound {P : Program} {w0 : World} {φ : Phi} {s s' : St} {w : World} (r : Rel P w0 φ s.get w) (hwf : Wf s) (hf : φ s.next = none) {t : TypeId} {x v : AV} {x' : Value} (hu : P.underlying t = some .string) (h : oRs s x = some (v, s')) (hx : VR φ x x') :
    ∃ φ' y w', (Instr.range t x').run P w = .ok y w' ∧ Step P w0 φ s w φ' s' w' ∧ VR φ' v y := by
  unfold oRs at h
  split at h
  · cases h
    simp only [VR] at hx
    obtain ⟨bs, rfl, rfl⟩ := hx
    refine ⟨_, _, _, ?_, Step.alloc r hwf hf (w' := { w with heap := w.heap.push (.stringIter bs 0) }) (tot := 0) rfl rfl rfl rfl ⟨rfl, bs, getObj_alloc _, rfl⟩, ptr_new⟩
    simp [Instr.range, run_underlying' hu]
  · cases h
theorem decode_ascii {s : ByteArray} {i b : Nat} (h : (nats s)[i]? = some b) (hb : b < 128) : Utf8.decode s i = (b, 1) ∧ i < s.size := by
  rw [nats_get] at h
  have hi : i < s.size := by
    by_cases hi : i < s.size
    · exact hi
    · rw [ByteArray.getElem?_ge' s i hi] at h; cases h
  rw [ByteArray.getElem?_lt' s i hi] at h
  simp only [Option.map_some, Option.some.injEq] at h
  have hg : (s.get! (i + 0)).toNat = b := by
    have : s.get! (i + 0) = s[i] := by
      rw [Nat.add_zero]
      show s.data[i]! = s.data[i]
      exact getElem!_pos s.data i hi
    rw [this]; exact h
  refine ⟨?_, hi⟩
  unfold Utf8.decode
  simp only [hg]
  rw [if_pos hb]
theorem ns_sound {P : Program} {w0 : World} {φ : Phi} {s s' : St} {w : World} (r : Rel P w0 φ s.get w) {ty : TypeId} {x v : AV} {x' : Value} (h : oNs s x = some (v, s')) (hx : VR φ x x') :
    ∃ y w', (Instr.next x' true ty).run P w = .ok y w' ∧ Step P w0 φ s w φ s' w' ∧ VR φ v y := by
  unfold oNs at h
  split at h
  · rename_i id
    simp only [VR] at hx
    obtain ⟨B, hB, rfl⟩ := hx
    split at h
    · rename_i t pos hg
      obtain ⟨B', hB', h0, bs, hb, rfl⟩ := r.obj id _ hg
      rw [hB] at hB'; cases hB'
      have hgo := run_getObj' (P := P) hb (by simp)
      rw [getS_eq] at h
      cases hp : (nats bs)[pos]? with
      | none =>
        rw [hp] at h; simp only [Option.some.injEq, Prod.mk.injEq] at h
        obtain ⟨rfl, rfl⟩ := h
        have hge : ¬ pos < bs.size := by
          intro hlt
          rw [nats_get, ByteArray.getElem?_lt' bs pos hlt] at hp; cases hp
        refine ⟨.tuple #[.bool false], w, ?_, Step.refl r, by simp only [VR]; exact ⟨[.bool false], rfl, VRL.cons (by simp [VR]) (VRL.nil φ)⟩⟩
        simp [Instr.next, h0, hgo, hge]
      | some b =>
        rw [hp] at h; simp only at h
        cases hlt : Nat.blt b 128 with
        | false => rw [hlt] at h; simp at h
        | true =>
          rw [hlt] at h; simp only [cond_true, Option.some.injEq, Prod.mk.injEq] at h
          obtain ⟨rfl, rfl⟩ := h
          obtain ⟨hd, hpos⟩ := decode_ascii hp (blt_iff.1 hlt)
          refine ⟨.tuple #[.bool true, goInt pos, .int .i32 (b : Int)], _, ?_, Step.setObj r hg hB hb (x' := .stringIter bs (pos + 1)) ⟨h0, bs, setIn hb, rfl⟩, ?_⟩
          · simp [Instr.next, h0, hgo, hpos, hd, run_setObj' _ hb (by simp)]
          · simp only [VR]
            exact ⟨[.bool true, goInt pos, .int .i32 (b : Int)], rfl, VRL.cons (by simp [VR]) (VRL.cons (by simp only [VR]; rfl) (VRL.cons (by simp only [VR]; rfl) (VRL.nil φ)))⟩
    · cases h
  · cases h
theorem rm_sound {P : Program} {w0 : World} {φ : Phi} {s s' : St} {w : World} (r : Rel P w0 φ s.get w) (hwf : Wf s) (hf : φ s.next = none) {t kt e : TypeId} {x v : AV} {x' : Value} (hu : P.underlying t = some (.map kt e)) (h : oRm s x = some (v, s')) (hx : VR φ x x') :
    ∃ φ' y w', (Instr.range t x').run P w = .ok y w' ∧ Step P w0 φ s w φ' s' w' ∧ VR φ' v y := by
  unfold oRm at h
  split at h
  · cases h
    simp only [VR] at hx; subst hx
    refine ⟨_, _, _, ?_, Step.alloc r hwf hf (w' := { w with heap := w.heap.push (.mapIter none 0 #[] 0) }) (tot := 0) rfl rfl rfl rfl ⟨rfl, none, getObj_alloc _, rfl⟩, ptr_new⟩
    simp [Instr.range, run_underlying' hu]
  · rename_i id
    simp only [VR] at hx; obtain ⟨B, hB, rfl⟩ := hx
    split at h
    · rename_i es clock hg
      cases h
      obtain ⟨ents, hb, hent⟩ := mapObj r hg hB
      have hgo := run_getObj' (P := P) hb (by simp)
      refine ⟨_, _, _, ?_, Step.alloc r hwf hf (w' := { w with heap := w.heap.push (.mapIter (some B.b) clock #[] clock) }) (tot := 0) rfl rfl rfl rfl ⟨rfl, some B.b, getObj_alloc _, B, ?_, rfl⟩, ptr_new⟩
      · simp [Instr.range, run_underlying' hu, hgo]
      · exact Phi.set_sub hf _ _ hB
    · cases h
  · cases h
theorem memN_eq (n : Nat) : ∀ l : List Nat, memN n l = l.contains n
  | [] => rfl
  | m :: r => by
    show (bif Nat.beq n m then true else memN n r) = _
    rw [memN_eq n r, List.contains_cons]
    have : Nat.beq n m = (n == m) := by
      by_cases h : n = m
      · subst h; simp
      · rw [beq_eq_false_iff_ne.2 h, Bool.eq_false_iff, ne_eq, Nat.beq_eq]; exact h
    rw [this]; cases (n == m) <;> simp
theorem leftK_ent {φ : Phi} (seen : List Nat) : ∀ {l : List (AV × AV × Nat)} {es : List MapEntry}, EntRel φ l es → EntRel φ (leftK seen l) (es.filter fun e => !seen.contains e.born)
  | [], _, h => by simp only [EntRel] at h; subst h; simp [leftK, EntRel]
  | p :: l, _, h => by
    obtain ⟨e, es', rfl, h1, h2, h3, h4⟩ := h
    simp only [leftK, memN_eq, ← h3]
    cases hc : seen.contains e.born with
    | true => simp only [cond_true, List.filter_cons, hc]; exact leftK_ent seen h4
    | false => simp only [cond_false, List.filter_cons, hc]; exact ⟨e, _, rfl, h1, h2, h3, leftK_ent seen h4⟩
theorem allNew_ent {φ : Phi} (last : Nat) : ∀ {l : List (AV × AV × Nat)} {es : List MapEntry}, EntRel φ l es → es.all (fun e => decide (e.born ≥ last)) = allNew last l
  | [], _, h => by simp only [EntRel] at h; subst h; rfl
  | p :: l, _, h => by
    obtain ⟨e, es', rfl, h1, h2, h3, h4⟩ := h
    simp only [allNew, List.all_cons, allNew_ent last h4, ← h3]
    by_cases hc : last ≤ e.born
    · rw [show Nat.ble last e.born = true from ble_iff.2 hc]; simp [hc]
    · rw [show Nat.ble last e.born = false from by rw [Bool.eq_false_iff, ne_eq, ble_iff]; exact hc]; simp [hc]
theorem nm_sound {P : Program} {w0 : World} {φ : Phi} {s s' : St} {w : World} (r : Rel P w0 φ s.get w) {ty : TypeId} {x v : AV} {x' : Value} (h : oNm s x = some (v, s')) (hx : VR φ x x') :
    ∃ y w', (Instr.next x' false ty).run P w = .ok y w' ∧ Step P w0 φ s w φ s' w' ∧ VR φ v y := by
  have hover : VR φ (.tup [.bool false]) (.tuple #[.bool false]) := by simp only [VR]; exact ⟨[.bool false], rfl, VRL.cons (by simp [VR]) (VRL.nil φ)⟩
  unfold oNm at h
  split at h
  · rename_i id
    simp only [VR] at hx
    obtain ⟨B, hB, rfl⟩ := hx
    split at h
    · rename_i since seen last hg
      obtain ⟨B', hB', h0, m', hb, rfl⟩ := r.obj id _ hg
      rw [hB] at hB'; cases hB'
      have hgo := run_getObj' (P := P) hb (by simp)
      simp only [Option.some.injEq, Prod.mk.injEq] at h
      obtain ⟨rfl, rfl⟩ := h
      exact ⟨.tuple #[.bool false], w, by simp [Instr.next, h0, hgo], Step.refl r, hover⟩
    · rename_i m since seen last hg
      obtain ⟨B', hB', h0, m', hb, Bm, hBm, rfl⟩ := r.obj id _ hg
      rw [hB] at hB'; cases hB'
      have hgo := run_getObj' (P := P) hb (by simp)
      split at h
      · rename_i es clock hgm
        obtain ⟨ents, hbm, hent⟩ := mapObj r hgm hBm
        have hgom := run_getObj' (P := P) hbm (by simp)
        cases hgone : goneK seen last es with
        | true => rw [hgone] at h; simp at h
        | false =>
          rw [hgone] at h; simp only [cond_false] at h
          have hnogone : ¬ ((!(seen.toArray).isEmpty && !ents.isEmpty && ents.all (·.born ≥ last)) = true) := by
            have e1 : ents.all (fun e => decide (e.born ≥ last)) = allNew last es := by rw [← Array.all_toList, allNew_ent last hent]
            unfold goneK at hgone
            intro hh
            simp only [Bool.and_eq_true, Bool.not_eq_true'] at hh
            obtain ⟨⟨a1, a2⟩, a3⟩ := hh
            rw [e1] at a3
            cases seen with
            | nil => simp at a1
            | cons _ _ =>
              cases es with
              | nil =>
                have := EntRel.length hent
                simp at this
                have : ents.isEmpty = true := by simpa [Array.isEmpty] using this.symm
                rw [this] at a2; cases a2
              | cons _ _ => simp only at hgone; rw [a3] at hgone; cases hgone
          have hleft := leftK_ent seen hent
          have hfl : (ents.filter fun e => !seen.toArray.contains e.born).toList = ents.toList.filter fun e => !seen.contains e.born := by simp
          cases hl : leftK seen es with
          | nil =>
            rw [hl] at h hleft; simp only [nmRes, Option.some.injEq, Prod.mk.injEq] at h
            obtain ⟨rfl, rfl⟩ := h
            simp only [EntRel] at hleft
            have hempty : (ents.filter fun e => !seen.toArray.contains e.born) = #[] := by apply Array.ext'; rw [hfl, hleft]
            refine ⟨.tuple #[.bool false], w, ?_, Step.refl r, hover⟩
            simp only [Instr.next, h0, Nat.add_zero, Sem.run_bind, hgo, Result.andThen_ok, hgom]
            rw [if_neg hnogone, hempty]
            simp [Question.forced]
          | cons p rest =>
            rw [hl] at h hleft
            cases rest with
            | cons _ _ => simp [nmRes] at h
            | nil =>
              simp only [nmRes] at h
              cases hlt : Nat.blt p.2.2 since with
              | false => rw [hlt] at h; simp at h
              | true =>
                rw [hlt] at h; simp only [cond_true, Option.some.injEq, Prod.mk.injEq] at h
                obtain ⟨rfl, rfl⟩ := h
                obtain ⟨e, es', heq, h1, h2, h3, h4⟩ := hleft
                simp only [EntRel] at h4; subst h4
                have hone : (ents.filter fun e => !seen.toArray.contains e.born) = #[e] := by apply Array.ext'; rw [hfl, heq]
                have hborn : e.born < since := by rw [h3]; exact blt_iff.1 hlt
                have hnge : ¬ since ≤ e.born := by omega
                refine ⟨.tuple #[.bool true, e.key, e.val], _, ?_, Step.setObj r hg hB hb (x' := .mapIter (some Bm.b) since (seen.toArray.push e.born) clock) ⟨h0, some Bm.b, ?_, Bm, hBm, rfl⟩, ?_⟩
                · simp only [Instr.next, h0, Nat.add_zero, Sem.run_bind, hgo, Result.andThen_ok, hgom]
                  rw [if_neg hnogone, hone]
                  simp [Question.forced, hborn, hnge, run_setObj' _ hb (by simp)]
                · rw [setIn hb]; simp [h3]
                · simp only [VR]
                  exact ⟨[.bool true, e.key, e.val], rfl, VRL.cons (by simp [VR]) (VRL.cons h1 (VRL.cons h2 (VRL.nil φ)))⟩
      · cases h
    · cases h
  · cases h
theorem lastN_eq : ∀ {l : List Nat} {b : Nat}, lastN l = some b → l.toArray.back? = some b
  | [], _, h => by simp [lastN] at h
  | [n], _, h => by simp [lastN] at h; subst h; rfl
  | n :: m :: r, b, h => by
    simp only [lastN] at h
    have := lastN_eq (l := m :: r) h
    simp only [List.back?_toArray] at this ⊢
    simpa using this
theorem findB_ent {φ : Phi} {b : Nat} : ∀ {l : List (AV × AV × Nat)} {es : List MapEntry} {p : AV × AV}, EntRel φ l es → findB b l = some p → ∃ e, es.find? (·.born == b) = some e ∧ VR φ p.1 e.key ∧ VR φ p.2 e.val
  | [], _, _, _, h => by simp [findB] at h
  | q :: l, _, p, h, hf => by
    obtain ⟨e, es', rfl, h1, h2, h3, h4⟩ := h
    simp only [findB, ← h3] at hf
    cases hb : Nat.beq e.born b with
    | true =>
      rw [hb] at hf; simp only [cond_true, Option.some.injEq] at hf; subst hf
      exact ⟨e, by simp [beq_iff.1 hb], h1, h2⟩
    | false =>
      rw [hb] at hf; simp only [cond_false] at hf
      obtain ⟨e', g1, g2⟩ := findB_ent h4 hf
      refine ⟨e', ?_, g2⟩
      have : (e.born == b) = false := by
        rw [beq_eq_false_iff_ne]; intro he; rw [beq_iff.2 he] at hb; cases hb
      rw [List.find?_cons, this]; exact g1
theorem en_sound {P : Program} {w0 : World} {φ : Phi} {s : St} {w : World} (r : Rel P w0 φ s.get w) {x v : AV} {x' : Value} (h : vEn s x = some v) (hx : VR φ x x') : ∃ y, (Instr.entry x').run P w = .ok y w ∧ VR φ v y := by
  unfold vEn at h
  split at h
  · rename_i id
    simp only [VR] at hx
    obtain ⟨B, hB, rfl⟩ := hx
    split at h
    · rename_i m since seen stepped hg
      obtain ⟨B', hB', h0, m', hb, Bm, hBm, rfl⟩ := r.obj id _ hg
      rw [hB] at hB'; cases hB'
      have hgo := run_getObj' (P := P) hb (by simp)
      cases hl : lastN seen with
      | none => rw [hl] at h; simp at h
      | some b =>
        rw [hl] at h; simp only at h
        split at h
        · rename_i es clock hgm
          obtain ⟨ents, hbm, hent⟩ := mapObj r hgm hBm
          have hgom := run_getObj' (P := P) hbm (by simp)
          cases hc : Nat.beq clock stepped with
          | false => rw [hc] at h; simp at h
          | true =>
            rw [hc] at h; simp only [cond_true] at h
            rw [beq_iff] at hc; subst hc
            cases hf : findB b es with
            | none => rw [hf] at h; simp [pairO] at h
            | some p =>
              rw [hf] at h; simp only [pairO, Option.some.injEq] at h; subst h
              obtain ⟨e, g1, g2, g3⟩ := findB_ent hent hf
              have g1' : ents.find? (·.born == b) = some e := by rw [← Array.find?_toList]; exact g1
              refine ⟨.tuple #[e.key, e.val], ?_, tup2 g2 g3⟩
              simp [Instr.entry, h0, hgo, lastN_eq hl, hgom, g1']
        · cases h
    · cases h
  · cases h
theorem len_sound {P : Program} {w0 : World} {φ : Phi} {s : St} {w : World} (r : Rel P w0 φ s.get w) {ts : Array TypeId} {ty t : TypeId} {k : LK} {x v : AV} {x' : Value} (hts : ts[0]? = some t)
    (hu : match k with | .s => P.underlying t = some .string | .v => ∃ e, P.underlying t = some (.slice e) | .m => ∃ k e, P.underlying t = some (.map k e))
    (h : vLen s k x = some v) (hx : VR φ x x') : ∃ y, (Builtin.len_ ts ty #[x']).run P w = .ok y w ∧ VR φ v y := by
  unfold vLen at h
  cases k with
  | s =>
    simp only at h hu
    split at h
    · cases h; simp only [VR] at hx; obtain ⟨b, rfl, rfl⟩ := hx
      exact ⟨_, by simp [Builtin.len_, hts, run_underlying' hu]; rfl, by simp only [VR, lenN_eq, nats_length]; rfl⟩
    · cases h
  | v =>
    simp only at h hu
    obtain ⟨e, hd⟩ := hu
    split at h
    · cases h; simp only [VR] at hx; subst hx
      exact ⟨_, by simp [Builtin.len_, hts, run_underlying' hd]; rfl, by simp only [VR]; rfl⟩
    · cases h; simp only [VR] at hx; obtain ⟨a, k, rfl⟩ := hx
      exact ⟨_, by simp [Builtin.len_, hts, run_underlying' hd]; rfl, by simp only [VR]; rfl⟩
    · cases h; simp only [VR] at hx; obtain ⟨B, k, hB, rfl, _⟩ := hx
      exact ⟨_, by simp [Builtin.len_, hts, run_underlying' hd]; rfl, by simp only [VR]; rfl⟩
    · cases h; simp only [VR] at hx; obtain ⟨_, ⟨rfl, rfl⟩ | ⟨b, o, k, ys, rfl, _⟩⟩ := hx
      · exact ⟨_, by simp [Builtin.len_, hts, run_underlying' hd]; rfl, by simp only [VR]; rfl⟩
      · exact ⟨_, by simp [Builtin.len_, hts, run_underlying' hd]; rfl, by simp only [VR]; rfl⟩
    · cases h; simp only [VR] at hx; obtain ⟨_, _, _, _, B, ys, _, rfl, _⟩ := hx
      exact ⟨_, by simp [Builtin.len_, hts, run_underlying' hd]; rfl, by simp only [VR]; rfl⟩
    · cases h
  | m =>
    simp only at h hu
    obtain ⟨kt, e, hd⟩ := hu
    split at h
    · cases h; simp only [VR] at hx; subst hx
      exact ⟨_, by simp [Builtin.len_, hts, run_underlying' hd]; rfl, by simp only [VR]; rfl⟩
    · rename_i id
      simp only [VR] at hx; obtain ⟨B, hB, rfl⟩ := hx
      split at h
      · rename_i es clock hg
        cases h
        obtain ⟨ents, hb, hent⟩ := mapObj r hg hB
        have hgo := run_getObj' (P := P) hb (by simp)
        refine ⟨goInt ents.size, by simp [Builtin.len_, hts, run_underlying' hd, hgo], ?_⟩
        simp only [VR, lenN_eq, EntRel.length hent]; rfl
      · cases h
    · cases h
theorem Step.del {P : Program} {w0 : World} {φ : Phi} {s : St} {w : World} (r : Rel P w0 φ s.get w) (id : Nat) {o : AObj} (hgd : s.get id = some o) (hng : isGiv o = false := by rfl) : Step P w0 φ s w φ (s.del id) w := by
  have hget : ∀ i o, (s.del id).get i = some o → s.get i = some o := fun i o h => by
    have h1 := get_some h
    have h2 := seen_of_get h
    rw [seen_congr (s := s) (s' := s.del id) rfl rfl] at h2
    rw [show (s.del id).objs = s.objs.del id from rfl, Trie.get_del] at h1
    by_cases e : i = id
    · rw [if_pos e] at h1; cases h1
    · rw [if_neg e] at h1; rw [get_eq, h2]; exact h1
  exact ⟨ext_del s id (get_some hgd) (seen_of_get hgd) hng, r.sub hget, fun _ _ => rfl, Nat.le_refl _, fun _ _ _ => rfl, fun i B h1 h2 => absurd (show i < s.next from h2) (by omega), fun _ _ _ h => h, fun _ _ _ h => .inl h⟩
theorem Step.moveZ {P : Program} {w0 : World} {φ : Phi} {s : St} {w w' : World} (r : Rel P w0 φ s.get w) (hf : φ s.next = none) {id : Nat} {o o' : AObj} {B B' : Blk} {z : Nat → Nat → Option Value} (hg : s.get id = some o) (hB : φ id = some B) (hbb : B'.b = B.b)
    (hother : ∀ b, b ≠ B.b → w'.heap[b]? = w.heap[b]?) (hsz : w'.heap.size = w.heap.size) (hos : w'.os = w.os) (ht : w'.tape = w.tape) (hu : w'.output = w.output)
    (hz1 : ∀ b, b ≠ B.b → ∀ i, z b i = φ.z b i) (hz0 : ∀ i v, φ.z B.b i = some v → z B.b i = some v) (hz2 : ∀ i v, z B.b i = some v → ∃ c e fr, w'.heap[B.b]? = some (.cells c e fr) ∧ c[i]? = some v) (hsep : SepOf o' B' z)
    (ho : ObjRel P ((φ.set s.next B').zset z) w' o' B') (hng : isGiv o = false) : Step P w0 φ s w ((φ.set s.next B').zset z) ((s.del id).alloc o') w' := by
  have hzs : ∀ b i v, φ.z b i = some v → z b i = some v := fun b i v h => by
    by_cases e : b = B.b
    · subst e; exact hz0 i v h
    · rw [hz1 b e]; exact h
  have hsub : Sub φ ((φ.set s.next B').zset z) := ⟨(Phi.set_sub (B := B') hf).of, hzs⟩
  have hnew := r.new hg hB hng
  have hext := (ext_del s id (get_some hg) (seen_of_get hg) hng).trans (ext_alloc (s.del id) o')
  have hget : ∀ i x, ((s.del id).alloc o').get i = some x → (i = s.next ∧ x = o') ∨ (i ≠ s.next ∧ i ≠ id ∧ s.get i = some x) := fun i x hx => by
    have h1 := get_some hx
    have h2 := seen_of_get hx
    rw [seen_congr (s := s) (s' := (s.del id).alloc o') rfl rfl] at h2
    rw [show ((s.del id).alloc o').objs = (s.objs.del id).set s.next o' from rfl, Trie.get_set] at h1
    by_cases e : i = s.next
    · rw [if_pos e] at h1; exact .inl ⟨e, by cases h1; rfl⟩
    · rw [if_neg e, Trie.get_del] at h1
      by_cases e2 : i = id
      · rw [if_pos e2] at h1; cases h1
      · rw [if_neg e2] at h1
        exact .inr ⟨e, e2, by rw [get_eq, h2]; exact h1⟩
  have hne : id ≠ s.next := fun e => by rw [e, hf] at hB; cases hB
  have hmk : ((s.del id).alloc o').wm.testBit id = true := by show (mark s.wm id).testBit id = true; rw [testBit_mark]; simp
  refine ⟨hext, ⟨?_, ?_, ?_, ?_, ?_, ?_, ?_⟩, ?_, by omega, ?_, ?_, hzs, ?_⟩
  · refine ⟨hos.trans r.base.os, ht.trans r.base.tape, hu.trans r.base.output, by have := r.base.size; omega, fun k hk => ?_⟩
    exact (hother k (by omega)).trans (r.base.block k hk)
  · intro i x hx
    rcases hget i x hx with ⟨rfl, rfl⟩ | ⟨e, e2, hg'⟩
    · exact ⟨B', if_pos rfl, ho⟩
    · obtain ⟨B1, hB1, t⟩ := r.obj i x hg'
      exact ⟨B1, hsub _ _ hB1, t.keep hsub (hother _ (fun e' => (r.inj i id x o B1 B hg' hg hB1 hB e').elim e2 (fun h => by omega)))⟩
  · intro i B1 hB1
    have hB1' : (if i = s.next then some B' else φ i) = some B1 := hB1
    by_cases e : i = s.next
    · rw [if_pos e] at hB1'; cases hB1'; rw [hbb, hsz]; exact r.rng id B hB
    · rw [if_neg e] at hB1'; rw [hsz]; exact r.rng i B1 hB1'
  · intro i x B1 hx hB1 hlt
    rcases hget i x hx with ⟨rfl, rfl⟩ | ⟨e, e2, hg'⟩
    · rw [show ((φ.set s.next _).zset z) s.next = some B' from if_pos rfl] at hB1; cases hB1; omega
    · rw [show ((φ.set s.next _).zset z) i = φ i from if_neg e] at hB1
      exact r.old i x B1 hg' hB1 hlt
  · intro i i' x x' B1 B2 h1 h2 hB1 hB2 e
    rcases hget i x h1 with ⟨rfl, rfl⟩ | ⟨n1, m1, g1⟩ <;> rcases hget i' x' h2 with ⟨rfl, rfl⟩ | ⟨n2, m2, g2⟩
    · exact .inl rfl
    · rw [show ((φ.set s.next _).zset z) s.next = some B' from if_pos rfl] at hB1; cases hB1
      rw [show ((φ.set s.next _).zset z) i' = φ i' from if_neg n2] at hB2
      exact (r.inj i' id x' o B2 B g2 hg hB2 hB (e.symm.trans hbb)).elim (fun h => absurd h m2) (fun h => by omega)
    · rw [show ((φ.set s.next _).zset z) s.next = some B' from if_pos rfl] at hB2; cases hB2
      rw [show ((φ.set s.next _).zset z) i = φ i from if_neg n1] at hB1
      exact (r.inj i id x o B1 B g1 hg hB1 hB (e.trans hbb)).elim (fun h => absurd h m1) (fun h => .inr h)
    · rw [show ((φ.set s.next _).zset z) i' = φ i' from if_neg n2] at hB2
      rw [show ((φ.set s.next _).zset z) i = φ i from if_neg n1] at hB1
      exact r.inj i i' x x' B1 B2 g1 g2 hB1 hB2 e
  · intro b i v hv
    have hv' : z b i = some v := hv
    by_cases e : b = B.b
    · subst e; exact hz2 i v hv'
    · rw [hz1 b e] at hv'
      obtain ⟨c, e1, fr, h1, h2⟩ := r.frz b i v hv'
      exact ⟨c, e1, fr, (hother b e).trans h1, h2⟩
  · intro i x B1 hx hB1
    rcases hget i x hx with ⟨rfl, rfl⟩ | ⟨e, e2, hg'⟩
    · rw [show ((φ.set s.next _).zset z) s.next = some B' from if_pos rfl] at hB1; cases hB1
      exact hsep
    · rw [show ((φ.set s.next _).zset z) i = φ i from if_neg e] at hB1
      have hs := r.sep i x B1 hg' hB1
      by_cases eb : B1.b = B.b
      · rcases r.inj i id x o B1 B hg' hg hB1 hB eb with h | h
        · exact absurd h e2
        · have := r.new hg hB hng; omega
      · exact hs.congr (fun j => hz1 B1.b eb j)
  · intro i hi
    have hi' : i < s.next ∨ s.next + 1 ≤ i := hi
    exact if_neg (by omega)
  · intro b hb H
    apply hother
    intro e
    have := H id o B hg hB e.symm
    rw [hmk] at this; cases this
  · intro i B1 h1 h2 hB1
    have h2' : i < s.next + 1 := h2
    have e : i = s.next := by omega
    subst e
    rw [show ((φ.set s.next _).zset z) s.next = some B' from if_pos rfl] at hB1; cases hB1
    exact .inr ⟨id, o, B, hg, hB, hbb.symm, hmk⟩
  · intro b i v hv
    have hv' : z b i = some v := hv
    by_cases e : b = B.b
    · exact .inr (.inr ⟨id, o, B, hg, hB, e.symm, hmk⟩)
    · rw [hz1 b e] at hv'; exact .inl hv'
theorem Step.move {P : Program} {w0 : World} {φ : Phi} {s : St} {w w' : World} (r : Rel P w0 φ s.get w) (hf : φ s.next = none) {id : Nat} {o o' : AObj} {B B' : Blk} (hg : s.get id = some o) (hB : φ id = some B) (hbb : B'.b = B.b)
    (hother : ∀ b, b ≠ B.b → w'.heap[b]? = w.heap[b]?) (hsz : w'.heap.size = w.heap.size) (hos : w'.os = w.os) (ht : w'.tape = w.tape) (hu : w'.output = w.output)
    (ho : ObjRel P (φ.set s.next B') w' o' B') (hng : isGiv o = false := by rfl) (hna : isApp o = false := by rfl) : Step P w0 φ s w (φ.set s.next B') ((s.del id).alloc o') w' := by
  have hzn := (r.sep id o B hg hB).all hng hna
  exact Step.moveZ (z := φ.z) r hf hg hB hbb hother hsz hos ht hu (fun _ _ _ => rfl) (fun _ _ h => h) (fun i v h => by rw [hzn i] at h; cases h) (SepOf.of_all (by rw [hbb]; exact hzn)) ho hng
structure Src (P : Program) (w : World) (ts : Array TypeId) (e : TypeId) (size : Nat) (x : Value) (n : Nat) (new : List Value) : Prop where
  stay : ∀ (t ty : TypeId) (base : Option Addr) (sLen sCap : Nat), ts[0]? = some t → P.underlying t = some (.slice e) → sLen + n ≤ sCap →
    (Builtin.append_ ts ty #[.slice base sLen sCap, x]).run P w = (match base with
      | none => .ok (.slice none (sLen + n) sCap) w
      | some a => ((storeCells (a.add (sLen * size)) new).run P w).andThen fun _ w' => .ok (.slice (some a) (sLen + n) sCap) w')
  grow : ∀ (t ty : TypeId) (i : TypeInfo) (z : Value) (base : Option Addr) (sLen sCap : Nat) (old : Array Value), ts[0]? = some t → P.underlying t = some (.slice e) → P.info? e = some i → i.size = size → (zeroValue e).run P w.drew = .ok z w.drew → sCap < sLen + n → (sLen + n : Nat) < 9223372036854775808 →
    Builtin.nextslicecap (sLen + n) sCap * i.bytes ≤ 281474976710656 → (Builtin.firstCells size sLen (.slice base sLen sCap)).run P w.drew = .ok old w.drew →
    (Builtin.append_ ts ty #[.slice base sLen sCap, x]).run P w =
      .ok (.slice (some ⟨w.heap.size, 0, none⟩) (sLen + n) (grownCap w (sLen + n) sCap e)) (w.drew.alloc (.cells (old ++ new.toArray ++ Builtin.zeroCells z.cells (grownCap w (sLen + n) sCap e - (sLen + n))) e))
theorem src_of {P : Program} {w : World} {ts : Array TypeId} {u e : TypeId} {d : TypeDesc} {size n : Nat} {x : Value} {new : List Value} (h1 : ts[1]? = some u) (hu : P.underlying u = some d) (hd : d = .string ∨ ∃ c, d = .slice c) (hsz : sizT P e = some size)
    (hl : (Builtin.lenOf x) = pure n) (hw : (Builtin.firstCells size n x).run P w = .ok new.toArray w) (hwd : (Builtin.firstCells size n x).run P w.drew = .ok new.toArray w.drew) : Src P w ts e size x n new := by
  constructor
  · intro t ty base sLen sCap h0 ht hle
    rcases hd with rfl | ⟨c, rfl⟩
    · cases base <;> simp [Builtin.append_, h0, h1, run_underlying' ht, run_underlying' hu, run_sizeOf' hsz, hl, hle, hw]
    · cases base <;> simp [Builtin.append_, h0, h1, run_underlying' ht, run_underlying' hu, run_sizeOf' hsz, hl, hle, hw]
  · intro t ty i z base sLen sCap old h0 ht hi his hzv hlt h63 hfit hold
    have hn : ¬ (sLen + n ≤ sCap) := by omega
    have h63' : ¬ (9223372036854775807 < ((sLen : Int) + (n : Int))) := by omega
    have h48' : ¬ (281474976710656 < Builtin.nextslicecap (sLen + n) sCap * i.bytes) := by omega
    have hti := fun w' => run_typeInfo' (P := P) (w := w') hi
    rcases hd with rfl | ⟨c, rfl⟩
    · simp [Builtin.append_, h0, h1, run_underlying' ht, run_underlying' hu, run_sizeOf' hsz, hl, hn, h63', h48', hti, Question.forced, hold, hwd, hzv, newRow, grownCap]
    · simp [Builtin.append_, h0, h1, run_underlying' ht, run_underlying' hu, run_sizeOf' hsz, hl, hn, h63', h48', hti, Question.forced, hold, hwd, hzv, newRow, grownCap]
theorem srcz_of {P : Program} {w : World} {ts : Array TypeId} {u e : TypeId} {k : IntKind} {size b n : Nat} {z : Value} (h1 : ts[1]? = some u) (hu : P.underlying u = some (.int k)) (hsz : sizT P e = some size) (hby : bytT P e = some b)
    (hz : ∀ w, (zeroValue e).run P w = .ok z w) (hzl : z.cells.size = size) (hs1 : 1 ≤ size) (hn0 : 0 < n) (hn : n < 9223372036854775808) (hb : n * b ≤ 281474976710656) : Src P w ts e size (.int .i64 (n : Int)) n (List.replicate n z.cells.toList).flatten := by
  obtain ⟨i, hi, hib⟩ := run_bytes' hby
  have hti := fun w' => run_typeInfo' (P := P) (w := w') hi
  have w1 : IntKind.i64.wrap (n : Int) = (n : Int) := wrap_small .i64 n (by simp only [topN]; omega)
  have hneg : ¬ ((n : Int) < 0) := by omega
  have hmul : ¬ (281474976710656 < (n : Int) * (i.bytes : Int)) := by
    have e1 : (n : Int) * (i.bytes : Int) = ((n * i.bytes : Nat) : Int) := by simp
    rw [e1, hib]; omega
  have hns : ¬ (n * size = 0) := by
    intro h; rcases Nat.mul_eq_zero.1 h with h | h <;> omega
  have hmade : Builtin.zeroCells z.cells n = ((List.replicate n z.cells.toList).flatten).toArray := by
    apply Array.ext'
    have := made_list z.cells.toList n (by simp; omega)
    simpa [Builtin.zeroCells] using this
  constructor
  · intro t ty base sLen sCap h0 ht hle
    cases base <;> simp [Builtin.append_, h0, h1, run_underlying' ht, run_underlying' hu, run_sizeOf' hsz, asInt, asIntOf, w1, hneg, hti, hmul, hle, hns, hz, hmade]
  · intro t ty i' z' base sLen sCap old h0 ht hi' his hzv hlt h63 hfit hold
    rw [hi] at hi'; cases hi'
    have hz' : z' = z := by rw [hz] at hzv; cases hzv; rfl
    subst hz'
    have hle : ¬ (sLen + n ≤ sCap) := by omega
    have h63' : ¬ (9223372036854775807 < ((sLen : Int) + (n : Int))) := by omega
    have h48' : ¬ (281474976710656 < Builtin.nextslicecap (sLen + n) sCap * i.bytes) := by omega
    simp [Builtin.append_, h0, h1, run_underlying' ht, run_underlying' hu, run_sizeOf' hsz, asInt, asIntOf, w1, hneg, hti, hmul, hle, h63', h48', hns, hz, hmade, Question.forced, hold, newRow, grownCap]
theorem grownCap_ge (w : World) (need old : Nat) (e : TypeId) : need ≤ grownCap w need old e := by simp [grownCap, Question.cut]
theorem zeroCells_size (z : Array Value) (n : Nat) : (Builtin.zeroCells z n).size = n * z.size := by simp [Builtin.zeroCells]
theorem grow_sound {P : Program} {w0 : World} {φ : Phi} {s s' : St} {w : World} (r : Rel P w0 φ s.get w) (hwf : Wf s) (hf : φ s.next = none) {e esz bytes need cap : Nat} {cs : List AV} {xs : Array Value} {z : Array Value} {v : AV}
    (h : grow s e esz bytes cs need = some (v, s')) (hx : VRL φ cs xs.toList) (hl : cs.length = need * esz) (hz : z.size = esz) (hc : need ≤ cap) :
    ∃ φ', Step P w0 φ s w φ' s' (w.drew.alloc (.cells (xs ++ Builtin.zeroCells z (cap - need)) e)) ∧ VR φ' v (.slice (some ⟨w.heap.size, 0, none⟩) need cap) ∧ 2 * need * bytes ≤ 281474976710656 ∧ need < 9223372036854775808 := by
  unfold grow at h
  cases hb : (Nat.ble (Nat.mul (Nat.mul 2 need) bytes) 281474976710656 && Nat.ble 1 esz && Nat.blt need 9223372036854775808) with
  | false => rw [hb] at h; simp at h
  | true =>
    rw [hb] at h; simp only [cond_true, Option.some.injEq, Prod.mk.injEq] at h
    obtain ⟨rfl, rfl⟩ := h
    simp only [Bool.and_eq_true, ble_iff, blt_iff] at hb
    obtain ⟨⟨hb1, hb2⟩, hb3⟩ := hb
    have hxl := VRL.length hx
    have hxs : xs.size = need * esz := by rw [← Array.length_toList, ← hxl, hl]
    have hmul : need * esz + (cap - need) * esz = cap * esz := by rw [← Nat.add_mul]; congr 1; omega
    refine ⟨φ.set s.next ⟨w.heap.size, 0, cap * esz⟩, Step.alloc r hwf hf rfl rfl rfl rfl ?_, ?_, hb1, hb3⟩
    · refine ⟨xs ++ Builtin.zeroCells z (cap - need), (0, 0), getObj_alloc _, ?_, ?_, (fun h => by cases h), ?_, Nat.le_refl _, fun _ i _ => by simp⟩
      · rw [Array.size_append, zeroCells_size, hxs, hz]; simp only; omega
      · simp only [hl]; exact Nat.mul_le_mul_right _ hc
      · have e1 : (((xs ++ Builtin.zeroCells z (cap - need)).toList.drop 0).take cs.length) = xs.toList := by
          rw [List.drop_zero, Array.toList_append, List.take_append_of_le_length (by rw [hxl]; exact Nat.le_refl _), hxl, List.take_length]
        simp only
        rw [e1]
        exact VRL.mono (Phi.set_sub hf) _ _ hx
    · simp only [VR]
      refine ⟨⟨w.heap.size, 0, cap * esz⟩, cap, by simp [Phi.set], by simp, hb2, ?_, hc, Nat.zero_le _⟩
      simp only [Nat.sub_zero]
      exact (Nat.mul_div_cancel _ (by omega)).symm
theorem growP_next {s s' : St} {e esz bytes need : Nat} {cs : List AV} {v : AV} (h : growP s e esz bytes cs need = some (v, s')) : s'.next = s.next + 1 := by
  unfold growP at h
  cases hb : (Nat.ble (Nat.mul (Nat.mul 2 need) bytes) 281474976710656 && Nat.ble 1 esz && Nat.blt need 9223372036854775808 && pureL cs) with
  | false => rw [hb] at h; simp at h
  | true =>
    rw [hb] at h; simp only [cond_true, Option.some.injEq, Prod.mk.injEq] at h
    obtain ⟨_, rfl⟩ := h; rfl
theorem growP_inv {s s' : St} {e esz bytes need : Nat} {cs : List AV} {v : AV} (h : growP s e esz bytes cs need = some (v, s')) :
    2 * need * bytes ≤ 281474976710656 ∧ 1 ≤ esz ∧ need < 9223372036854775808 ∧ pureL cs = true ∧ v = .gr s.next esz need cs ∧ s' = s.alloc (.app e cs) := by
  unfold growP at h
  cases hb : (Nat.ble (Nat.mul (Nat.mul 2 need) bytes) 281474976710656 && Nat.ble 1 esz && Nat.blt need 9223372036854775808 && pureL cs) with
  | false => rw [hb] at h; simp at h
  | true =>
    rw [hb] at h; simp only [cond_true, Option.some.injEq, Prod.mk.injEq] at h
    simp only [Bool.and_eq_true, ble_iff, blt_iff] at hb
    obtain ⟨⟨⟨hb1, hb2⟩, hb3⟩, hb4⟩ := hb
    exact ⟨hb1, hb2, hb3, hb4, h.1.symm, h.2.symm⟩
def Phi.znewT (φ : Phi) (b m : Nat) (c : Array Value) : Nat → Nat → Option Value := fun b' i => if b' = b then (if i < m then c[i]? else none) else φ.z b' i
theorem growP_sound {P : Program} {w0 : World} {φ : Phi} {s s' : St} {w : World} (r : Rel P w0 φ s.get w) (hwf : Wf s) (hf : φ s.next = none) {e esz bytes need cap : Nat} {cs : List AV} {xs : Array Value} {z : Array Value} {v : AV}
    (h : growP s e esz bytes cs need = some (v, s')) (hn0 : 0 < need) (hx : VRL φ cs xs.toList) (hl : cs.length = need * esz) (hz : z.size = esz) (hc : need ≤ cap) :
    ∃ φ', Step P w0 φ s w φ' s' (w.drew.alloc (.cells (xs ++ Builtin.zeroCells z (cap - need)) e)) ∧ VR φ' v (.slice (some ⟨w.heap.size, 0, none⟩) need cap) ∧ 2 * need * bytes ≤ 281474976710656 ∧ need < 9223372036854775808 := by
  obtain ⟨hb1, hb2, hb3, hp, rfl, rfl⟩ := growP_inv h
  have hxl := VRL.length hx
  have hxs : xs.size = need * esz := by rw [← Array.length_toList, ← hxl, hl]
  have hmul : need * esz + (cap - need) * esz = cap * esz := by rw [← Nat.add_mul]; congr 1; omega
  obtain ⟨c, hcd⟩ : ∃ c, c = xs ++ Builtin.zeroCells z (cap - need) := ⟨_, rfl⟩
  have hcl : (c.toList.drop 0).take cs.length = xs.toList := by
    rw [hcd, List.drop_zero, Array.toList_append, List.take_append_of_le_length (by rw [hxl]; exact Nat.le_refl _), hxl, List.take_length]
  have hsub : Sub φ ((φ.set s.next ⟨w.heap.size, 0, cap * esz⟩).zset (φ.znewT w.heap.size cs.length c)) := ⟨(Phi.set_sub hf).of, fun b i v hv => by
    have := r.zlt hv
    show (if b = w.heap.size then _ else φ.z b i) = some v
    rw [if_neg (by omega)]; exact hv⟩
  have hzc : ZC ((φ.set s.next ⟨w.heap.size, 0, cap * esz⟩).zset (φ.znewT w.heap.size cs.length c)) w.heap.size 0 xs.toList := ZC.of fun i y hi => by
    have hlt : i < xs.toList.length := (List.getElem?_eq_some_iff.1 hi).1
    show (if w.heap.size = w.heap.size then (if 0 + i < cs.length then c[0 + i]? else none) else φ.z w.heap.size (0 + i)) = some y
    rw [if_pos rfl, if_pos (by omega), Nat.zero_add, ← Array.getElem?_toList]
    have : ((c.toList.drop 0).take cs.length)[i]? = some y := by rw [hcl]; exact hi
    rw [List.drop_zero, List.getElem?_take, if_pos (by omega)] at this
    exact this
  rw [← hcd]
  refine ⟨(φ.set s.next ⟨w.heap.size, 0, cap * esz⟩).zset (φ.znewT w.heap.size cs.length c), Step.allocZ r hwf hf rfl rfl rfl rfl ?_ ?_ ?_ ?_, ?_, hb1, hb3⟩
  · intro b hb i
    show (if b = w.heap.size then _ else φ.z b i) = φ.z b i
    rw [if_neg hb]
  · intro i v hv
    have hv' : (if w.heap.size = w.heap.size then (if i < cs.length then c[i]? else none) else φ.z w.heap.size i) = some v := hv
    rw [if_pos rfl] at hv'
    by_cases hi : i < cs.length
    · rw [if_pos hi] at hv'; exact ⟨c, e, (0, 0), rfl, hv'⟩
    · rw [if_neg hi] at hv'; cases hv'
  · intro i hi
    show (if w.heap.size = w.heap.size then (if i < cs.length then c[i]? else none) else φ.z w.heap.size i) = none
    have hi' : 0 + cs.length ≤ i := hi
    rw [if_pos rfl, if_neg (by omega)]
  · refine ⟨c, (0, 0), getObj_alloc _, ?_, ?_, ?_, Nat.le_refl _, Nat.zero_le _⟩
    · rw [hcd, Array.size_append, zeroCells_size, hxs, hz]; simp only; omega
    · simp only [hl]; exact Nat.mul_le_mul_right _ hc
    · simp only
      rw [hcl]; exact VRL.mono hsub _ _ hx
  · simp only [VR]
    have hdiv : cap * esz / esz = cap := Nat.mul_div_cancel _ (by omega)
    exact ⟨hp, hl, hn0, by omega, ⟨w.heap.size, 0, cap * esz⟩, xs.toList, if_pos rfl, by rw [hdiv], by rw [hdiv]; exact hc, hzc, VRL.mono hsub _ _ hx⟩
theorem app0_sound {P : Program} {w0 : World} {φ : Phi} {s s' : St} {w : World} (_r : Rel P w0 φ s.get w) {ts : Array TypeId} {t ty e : TypeId} {esz : Nat} {x v : AV} {x' y' : Value} (h0 : ts[0]? = some t) (ht : P.underlying t = some (.slice e)) (src : Src P w ts e esz y' 0 [])
    (h : app0 s x = some (v, s')) (hx : VR φ x x') : s' = s ∧ (Builtin.append_ ts ty #[x', y']).run P w = .ok x' w ∧ VR φ v x' := by
  have hst : ∀ (a : Addr), (storeCells (a.add 0) []).run P w = .ok () w := fun a => rfl
  unfold app0 at h
  split at h
  · cases h
    have hx' := hx
    simp only [VR] at hx; subst hx
    exact ⟨rfl, by rw [src.stay t ty none 0 0 h0 ht (by omega)], hx'⟩
  · cases h
    have hx' := hx
    simp only [VR] at hx; obtain ⟨a, k, rfl⟩ := hx
    exact ⟨rfl, by rw [src.stay t ty (some a) 0 k h0 ht (by omega)]; rfl, hx'⟩
  · rename_i id off len c
    have hx' := hx
    simp only [VR] at hx; obtain ⟨B, k, hB, rfl, hk⟩ := hx
    split at h
    · rename_i k'
      simp only at hk; subst hk
      cases hb : Nat.ble len k with
      | false => rw [hb] at h; simp at h
      | true =>
        rw [hb] at h; simp only [cond_true, Option.some.injEq, Prod.mk.injEq] at h
        obtain ⟨rfl, rfl⟩ := h
        exact ⟨rfl, by rw [src.stay t ty (some _) len k h0 ht (by have := ble_iff.1 hb; omega)]; rfl, hx'⟩
    · rename_i e'
      simp only [Option.some.injEq, Prod.mk.injEq] at h
      obtain ⟨rfl, rfl⟩ := h
      simp only at hk
      exact ⟨rfl, by rw [src.stay t ty (some _) len k h0 ht (by omega)]; rfl, hx'⟩
  · cases h
    have hx' := hx
    simp only [VR] at hx; obtain ⟨_, ⟨rfl, rfl⟩ | ⟨b, o, k, ys, rfl, _, hk, _⟩⟩ := hx
    · exact ⟨rfl, by rw [src.stay t ty none 0 0 h0 ht (by omega)], hx'⟩
    · exact ⟨rfl, by rw [src.stay t ty (some _) _ k h0 ht (by omega)]; rfl, hx'⟩
  · cases h
    have hx' := hx
    simp only [VR] at hx; obtain ⟨_, _, _, _, B, ys, _, rfl, hk, _⟩ := hx
    exact ⟨rfl, by rw [src.stay t ty (some _) _ _ h0 ht (by omega)]; rfl, hx'⟩
  · cases h
theorem first_soundV {P : Program} {w0 : World} {φ : Phi} {s : St} {w : World} (r : Rel P w0 φ s.get w) {b o esz n len k : Nat} {cs l : List AV} (hv : VR φ (.vp cs) (.pointer (some ⟨b, o, none⟩))) (hc : takeN (n * esz) cs = some l) :
    ∃ xs : List Value, VRL φ l xs ∧ (Builtin.firstCells esz n (.slice (some ⟨b, o, none⟩) len k)).run P w = .ok xs.toArray w ∧ (Builtin.firstCells esz n (.slice (some ⟨b, o, none⟩) len k)).run P w.drew = .ok xs.toArray w.drew := by
  obtain ⟨a, xs, ea, hlen, hxs, hcell⟩ := loadC_sound r (G := []) (fun g cs h => by simp at h) (show loadC [] s (.vp cs) (n * esz) = some l from hc) hv
  cases ea
  exact ⟨xs, hxs, run_firstCells_some w esz n _ len k xs hlen hcell, run_firstCells_some w.drew esz n _ len k xs hlen (by simpa using hcell)⟩
theorem first_soundL {P : Program} {w0 : World} {φ : Phi} {s : St} {w : World} (r : Rel P w0 φ s.get w) {id off esz n len k : Nat} {B : Blk} {l : List AV} (hB : φ id = some B) (hld : loadC [] s (.ptr id off) (n * esz) = some l) :
    ∃ xs : List Value, VRL φ l xs ∧ (Builtin.firstCells esz n (.slice (some ⟨B.b, B.o + off, none⟩) len k)).run P w = .ok xs.toArray w ∧ (Builtin.firstCells esz n (.slice (some ⟨B.b, B.o + off, none⟩) len k)).run P w.drew = .ok xs.toArray w.drew := by
  obtain ⟨a, xs, ea, hlen, hxs, hcell⟩ := loadC_sound r (G := []) (fun g cs h => by simp at h) hld (x := .pointer (some ⟨B.b, B.o + off, none⟩)) (by simp only [VR]; exact ⟨B, hB, rfl⟩)
  cases ea
  exact ⟨xs, hxs, run_firstCells_some w esz n _ len k xs hlen hcell, run_firstCells_some w.drew esz n _ len k xs hlen (by simpa using hcell)⟩
theorem first_sound {P : Program} {w0 : World} {φ : Phi} {s : St} {w : World} (r : Rel P w0 φ s.get w) {id off esz n len k : Nat} {B : Blk} {t : Nat} {cs l : List AV} {e fz : Bool} (hg : s.get id = some (.row t cs e fz)) (hB : φ id = some B) (hc : cut cs off (n * esz) = some l) :
    ∃ xs : List Value, VRL φ l xs ∧ (Builtin.firstCells esz n (.slice (some ⟨B.b, B.o + off, none⟩) len k)).run P w = .ok xs.toArray w ∧ (Builtin.firstCells esz n (.slice (some ⟨B.b, B.o + off, none⟩) len k)).run P w.drew = .ok xs.toArray w.drew := by
  have hld : loadC [] s (.ptr id off) (n * esz) = some l := by simp only [loadC, hg]; exact hc
  obtain ⟨a, xs, ea, hlen, hxs, hcell⟩ := loadC_sound r (G := []) (fun g cs h => by simp at h) hld (x := .pointer (some ⟨B.b, B.o + off, none⟩)) (by simp only [VR]; exact ⟨B, hB, rfl⟩)
  cases ea
  exact ⟨xs, hxs, run_firstCells_some w esz n _ len k xs hlen hcell, run_firstCells_some w.drew esz n _ len k xs hlen (by simpa using hcell)⟩
theorem sure_fits {need old bytes : Nat} (h : old < need) (hb : 2 * need * bytes ≤ 281474976710656) : Builtin.nextslicecap need old * bytes ≤ 281474976710656 :=
  Nat.le_trans (Nat.mul_le_mul_right _ (nextslicecap_le h)) hb
theorem grow_next {s s' : St} {e esz bytes need : Nat} {cs : List AV} {v : AV} (h : grow s e esz bytes cs need = some (v, s')) : s'.next = s.next + 1 := by
  unfold grow at h
  cases hb : (Nat.ble (Nat.mul (Nat.mul 2 need) bytes) 281474976710656 && Nat.ble 1 esz && Nat.blt need 9223372036854775808) with
  | false => rw [hb] at h; simp at h
  | true =>
    rw [hb] at h; simp only [cond_true, Option.some.injEq, Prod.mk.injEq] at h
    obtain ⟨_, rfl⟩ := h; rfl
theorem takeN_eq : ∀ (n : Nat) (l : List AV), n ≤ l.length → takeN n l = some (l.take n)
  | 0, l, _ => by simp [takeN]
  | n + 1, [], h => by simp at h
  | n + 1, v :: l, h => by
    simp only [takeN, takeN_eq n l (by simpa using h)]
    simp
theorem appW_sound {P : Program} {w0 : World} {φ : Phi} {s s' : St} {w : World} (r : Rel P w0 φ s.get w) (hwf : Wf s) (hf1 : s.next < s'.next → φ s.next = none) {ts : Array TypeId} {t ty e : TypeId} {esz bytes n : Nat} {x v z : AV} {x' y' : Value} {new : List AV} {new' : List Value}
    (h0 : ts[0]? = some t) (ht : P.underlying t = some (.slice e)) (hs : sizT P e = some esz) (hby : bytT P e = some bytes) (hz : zeroT P e = some z) (hzl : z.cells.length = esz) (src : Src P w ts e esz y' n new')
    (hn : 0 < n) (hnew : VRL φ new new') (hnl : new.length = n * esz) (h : appW s e esz bytes x n new = some (v, s')) (hx : VR φ x x') :
    ∃ φ' u w', (Builtin.append_ ts ty #[x', y']).run P w = .ok u w' ∧ Step P w0 φ s w φ' s' w' ∧ VR φ' v u := by
  obtain ⟨zx, hzr, hzv⟩ := run_zeroValue' hz
  have hzs : zx.cells.size = esz := by rw [← hzl, VRL.length (hzv φ).cells]; simp
  obtain ⟨i, hi, his⟩ := info_of_siz hs
  obtain ⟨i', hi', hib⟩ := run_bytes' hby
  rw [hi] at hi'; cases hi'
  unfold appW at h
  split at h
  · simp only [VR] at hx; subst hx
    cases hmd : (s.md && pureL new) with
    | true =>
      rw [hmd] at h; simp only [cond_true] at h
      have hf := hf1 (by rw [growP_next h]; omega)
      obtain ⟨φ', h1, h2, h3, h4⟩ := growP_sound (w := w) (xs := new'.toArray) (cap := grownCap w n 0 e) (z := zx.cells) r hwf hf h hn (by simpa using hnew) hnl hzs (grownCap_ge _ _ _ _)
      refine ⟨φ', _, _, ?_, h1, h2⟩
      have hg := src.grow t ty i zx none 0 0 #[] h0 ht hi his (hzr _) (by omega) (by omega) (by rw [Nat.zero_add]; exact sure_fits (by omega) (by rw [hib]; exact h3)) (run_firstCells_none _ _ _ _ _)
      rw [hg]; simp
    | false =>
    rw [hmd] at h; simp only [cond_false] at h
    have hf := hf1 (by rw [grow_next h]; omega)
    obtain ⟨φ', h1, h2, h3, h4⟩ := grow_sound (w := w) (xs := new'.toArray) (cap := grownCap w n 0 e) (z := zx.cells) r hwf hf h (by simpa using hnew) hnl hzs (grownCap_ge _ _ _ _)
    refine ⟨φ', _, _, ?_, h1, h2⟩
    have hg := src.grow t ty i zx none 0 0 #[] h0 ht hi his (hzr _) (by omega) (by omega) (by rw [Nat.zero_add]; exact sure_fits (by omega) (by rw [hib]; exact h3)) (run_firstCells_none _ _ _ _ _)
    rw [hg]; simp
  · -- a frozen slice whose capacity is its length
    rename_i k ex cs
    cases ex with
    | false => simp at h
    | true =>
      simp only [cond_true] at h
      cases hc : takeN (Nat.mul k esz) cs with
      | none => rw [hc] at h; simp at h
      | some old =>
        rw [hc] at h; simp only at h
        have hf := hf1 (by rw [growP_next h]; omega)
        obtain ⟨r0, _, hol⟩ := takeN_some hc
        have hol' : old.length = k * esz := hol
        have hlen : (old ++ new).length = (k + n) * esz := by rw [List.length_append, hol', hnl, Nat.add_mul]
        simp only [VR] at hx
        obtain ⟨hp, ⟨rfl, rfl⟩ | ⟨b, o, k', ys, rfl, hk, _, hz1, hy1⟩⟩ := hx
        · obtain rfl : old = [] := List.eq_nil_of_length_eq_zero (by rw [hol']; simp)
          obtain ⟨φ', h1, h2, h3, h4⟩ := growP_sound (w := w) (xs := new'.toArray) (cap := grownCap w (0 + n) 0 e) (z := zx.cells) r hwf hf h (by show 0 < 0 + n; omega) (by simpa using hnew) hlen hzs (grownCap_ge _ _ _ _)
          refine ⟨φ', _, _, ?_, h1, h2⟩
          have hg := src.grow t ty i zx none 0 0 #[] h0 ht hi his (hzr _) (by omega) (by omega) (sure_fits (by omega) (by rw [hib]; exact h3)) (run_firstCells_none _ _ _ _ _)
          rw [hg]; simp
        · obtain rfl := hk trivial
          obtain ⟨xs, hxs, _, hfd⟩ := first_soundV (P := P) (len := k') (k := k') r (by simp only [VR]; exact ⟨hp, b, o, ys, rfl, hz1, hy1⟩) hc
          obtain ⟨φ', h1, h2, h3, h4⟩ := growP_sound (w := w) (xs := xs.toArray ++ new'.toArray) (cap := grownCap w (k' + n) k' e) (z := zx.cells) r hwf hf h (by show 0 < k' + n; omega) (by simpa using VRL.append hxs hnew) hlen hzs (grownCap_ge _ _ _ _)
          refine ⟨φ', _, _, ?_, h1, h2⟩
          exact src.grow t ty i zx (some _) k' k' xs.toArray h0 ht hi his (hzr _) (by omega) h4 (sure_fits (by omega) (by rw [hib]; exact h3)) hfd
  · -- one that may grow
    rename_i id esz' k cs
    split at h
    · rename_i t0 cells hg
      cases hb : (Nat.beq esz esz' && Nat.beq t0 e && Nat.beq (lenN cells) (lenN cs) && allScal new) with
      | false => rw [hb] at h; simp at h
      | true =>
        rw [hb] at h; simp only [cond_true] at h
        simp only [Bool.and_eq_true, beq_iff, lenN_eq] at hb
        obtain ⟨⟨⟨rfl, rfl⟩, hcl⟩, hsc⟩ := hb
        have hf := hf1 (by rw [growP_next h]; exact Nat.lt_succ_self _)
        simp only [VR] at hx
        obtain ⟨hp, hcn, hk0, he, B, ys, hB, rfl, hkK, hz1, hy1⟩ := hx
        obtain ⟨B', hB', c, fr, g1, g2, g3, g4, g5, g6⟩ := r.obj id _ hg
        rw [hB] at hB'; cases hB'
        have hsep := r.sep id _ B hg hB
        simp only [SepOf] at hsep
        have hyl := hy1.length
        have hlen : (cs ++ new).length = (k + n) * esz := by rw [List.length_append, hcn, hnl, Nat.add_mul]
        have hxl := VRL.length hnew
        have hmul : (k + n) * esz = k * esz + n * esz := Nat.add_mul _ _ _
        by_cases hle : k + n ≤ B.tot / esz
        · -- it stays
          obtain ⟨hb1, hb2, hb3, hpp, rfl, rfl⟩ := growP_inv h
          have hfit : (k + n) * esz ≤ B.tot := by rw [Nat.le_div_iff_mul_le he] at hle; exact hle
          have hrun := run_storeCells_cells (P := P) B.b (B.o + k * esz) new' 0 w
            (fun j hj => by rw [cell_block g1]; simp; omega)
            (fun j hj => by
              rw [frozen_block g1]
              have : ¬ (B.o + k * esz + 0 + j < fr.2) := by omega
              rw [decide_eq_false this, Bool.and_false])
            (allScal_oneCell hnew hsc)
          obtain ⟨f1, f2, f3, f4, f5⟩ := setCells_facts new' w B.b (B.o + k * esz + 0)
          obtain ⟨c', k1, k2⟩ := setCells_in new' w B.b (B.o + k * esz + 0) c t0 fr g1 (by omega)
          have hsz : c'.size = c.size := by rw [← Array.length_toList, k2]; simp; omega
          have hlow : ∀ i, i < B.o + k * esz → c'[i]? = c[i]? := fun i hi => by
            rw [← Array.getElem?_toList, k2, List.getElem?_append_left (by simp; omega), List.getElem?_append_left (by simp; omega), List.getElem?_take, if_pos (by omega), Array.getElem?_toList]
          obtain ⟨zz, hzz⟩ : ∃ zz : Nat → Nat → Option Value, zz = fun b i => if b = B.b ∧ B.o + k * esz ≤ i ∧ i < B.o + (k + n) * esz then c'[i]? else φ.z b i := ⟨_, rfl⟩
          have hz0 : ∀ i v, φ.z B.b i = some v → i < B.o + k * esz := fun i v hv => by
            apply Nat.lt_of_not_le; intro hge
            rw [hsep i (by omega)] at hv; cases hv
          have hzin : ∀ b i v, φ.z b i = some v → zz b i = some v := fun b i v hv => by
            rw [hzz]; simp only
            by_cases eb : b = B.b
            · subst eb
              have := hz0 i v hv
              rw [if_neg (by omega)]; exact hv
            · rw [if_neg (fun h => eb h.1)]; exact hv
          have hsub : Sub φ ((φ.set s.next B).zset zz) := ⟨(Phi.set_sub (B := B) hf).of, hzin⟩
          have hys : ∀ i y, ys[i]? = some y → c[B.o + i]? = some y := fun i y hi => by
            obtain ⟨c2, e2, fr2, q1, q2⟩ := r.frz _ _ _ (hz1.at hi)
            rw [g1] at q1; cases q1; exact q2
          have hcnew : ∀ i y, new'[i]? = some y → c'[B.o + k * esz + i]? = some y := fun i y hi => by
            have hlt := (List.getElem?_eq_some_iff.1 hi).1
            rw [← Array.getElem?_toList, k2, Nat.add_zero, List.getElem?_append_left (by simp; omega), List.getElem?_append_right (by simp; omega)]
            have : (c.toList.take (B.o + k * esz)).length = B.o + k * esz := by rw [List.length_take, Array.length_toList]; omega
            rw [this, Nat.add_sub_cancel_left]; exact hi
          have hcell : ∀ i y, (ys ++ new')[i]? = some y → c'[B.o + i]? = some y := fun i y hi => by
            by_cases hl : i < ys.length
            · rw [List.getElem?_append_left hl] at hi
              rw [hlow _ (by omega)]; exact hys i y hi
            · rw [List.getElem?_append_right (by omega)] at hi
              have := hcnew _ _ hi
              rw [show B.o + k * esz + (i - ys.length) = B.o + i by omega] at this; exact this
          have hzc : ZC ((φ.set s.next B).zset zz) B.b B.o (ys ++ new') := ZC.of fun i y hi => by
            have hlt := (List.getElem?_eq_some_iff.1 hi).1
            rw [List.length_append] at hlt
            show zz B.b (B.o + i) = some y
            by_cases hl : i < ys.length
            · rw [List.getElem?_append_left hl] at hi
              exact hzin _ _ _ (hz1.at hi)
            · rw [hzz]; simp only
              rw [if_pos ⟨trivial, by omega, by omega⟩]; exact hcell i y hi
          have hall : VRL ((φ.set s.next B).zset zz) (cs ++ new) (ys ++ new') := VRL.mono hsub _ _ (VRL.append hy1 hnew)
          refine ⟨(φ.set s.next B).zset zz, .slice (some ⟨B.b, B.o, none⟩) (k + n) (B.tot / esz), _, ?_, Step.moveZ r hf (B' := B) hg hB rfl f5 f1 f2 f3 f4 ?_ ?_ ?_ ?_ ?_ rfl, ?_⟩
          · rw [src.stay t ty (some _) k _ h0 ht hle]
            simp only [add_lit, hrun, Result.andThen_ok]
          · intro b hb i; rw [hzz]; simp only; rw [if_neg (fun h => hb h.1)]
          · exact fun i v hv => hzin _ i v hv
          · intro i v hv
            rw [hzz] at hv; simp only at hv
            refine ⟨c', t0, fr, k1, ?_⟩
            by_cases hc : True ∧ B.o + k * esz ≤ i ∧ i < B.o + (k + n) * esz
            · rw [if_pos hc] at hv; exact hv
            · rw [if_neg hc] at hv
              obtain ⟨c2, e2, fr2, q1, q2⟩ := r.frz _ _ _ hv
              rw [g1] at q1; cases q1
              rw [hlow i (hz0 i v hv)]; exact q2
          · intro i hi
            have hi' : B.o + (cs ++ new).length ≤ i := hi
            rw [hlen] at hi'
            rw [hzz]; simp only
            rw [if_neg (by omega)]; exact hsep i (by omega)
          · refine ⟨c', fr, k1, by rw [hsz]; exact g2, by simp only [hlen]; exact hfit, ?_, g5, by simp only [hlen]; omega⟩
            have key : (c'.toList.drop B.o).take (cs ++ new).length = ys ++ new' := by
              apply List.ext_getElem?
              intro i
              rw [List.getElem?_take]
              by_cases hl : i < (cs ++ new).length
              · rw [if_pos hl, List.getElem?_drop, Array.getElem?_toList]
                have hl2 : i < (ys ++ new').length := by rw [List.length_append] at hl ⊢; omega
                rw [hcell i _ (List.getElem?_eq_getElem hl2), List.getElem?_eq_getElem hl2]
              · rw [if_neg hl, List.getElem?_eq_none (by rw [List.length_append] at hl ⊢; omega)]
            rw [key]; exact hall
          · simp only [VR]
            exact ⟨hpp, hlen, by show 0 < k + n; omega, he, B, ys ++ new', if_pos rfl, rfl, hle, hzc, hall⟩
        · have hlt : B.tot / esz < k + n := by omega
          have hd := Step.del r id hg
          obtain ⟨xs, hxs, _, hfd⟩ := first_soundV (P := P) (n := k) (esz := esz) (len := k) (k := B.tot / esz) (l := cs) r (by simp only [VR]; exact ⟨hp, B.b, B.o, ys, rfl, hz1, hy1⟩) (by rw [takeN_eq _ _ (by omega), List.take_of_length_le (by omega)])
          obtain ⟨φ', h1, h2, h3, h4⟩ := growP_sound (w := w) (xs := xs.toArray ++ new'.toArray) (cap := grownCap w (k + n) (B.tot / esz) t0) (z := zx.cells) hd.rel (hd.ext.wf hwf) hf h (by show 0 < k + n; omega) (by simpa using VRL.append hxs hnew) hlen hzs (grownCap_ge _ _ _ _)
          refine ⟨φ', _, _, ?_, Step.trans hwf hd h1, h2⟩
          exact src.grow t ty i zx (some _) k _ xs.toArray h0 ht hi his (hzr _) hlt h4 (sure_fits hlt (by rw [hib]; exact h3)) hfd
    · cases h
  · rename_i id off len c
    split at h
    · rename_i t0 cs ex fz hg
      simp only [VR] at hx
      obtain ⟨B, k, hB, rfl, hk⟩ := hx
      have hptr : VR φ (.ptr id (Nat.add off (Nat.mul len esz))) (.pointer (some ⟨B.b, B.o + (off + len * esz), none⟩)) := by simp only [VR]; exact ⟨B, hB, rfl⟩
      have hadd : Addr.add ⟨B.b, B.o + off, none⟩ (len * esz) = ⟨B.b, B.o + (off + len * esz), none⟩ := by rw [add_lit]; congr 1; omega
      split at h
      · rename_i k'
        simp only at hk; subst hk
        cases hb : Nat.ble (Nat.add len n) k with
        | true =>
          rw [hb] at h; simp only [cond_true] at h
          cases hst : storeC s (.ptr id (Nat.add off (Nat.mul len esz))) new with
          | none => rw [hst] at h; simp at h
          | some s1 =>
            rw [hst] at h; simp only [Option.some.injEq, Prod.mk.injEq] at h
            obtain ⟨rfl, rfl⟩ := h
            obtain ⟨a, w', ea, h1, h2⟩ := storeC_sound (P := P) r hst hptr hnew
            cases ea
            refine ⟨φ, .slice (some ⟨B.b, B.o + off, none⟩) (len + n) k, w', ?_, h2, ?_⟩
            · rw [src.stay t ty (some _) len k h0 ht (ble_iff.1 hb)]
              simp only [hadd, h1, Result.andThen_ok]
            · simp only [VR]; exact ⟨B, k, hB, rfl, rfl⟩
        | false =>
          rw [hb] at h; simp only [cond_false] at h
          have hlt : k < len + n := by
            apply Nat.lt_of_not_le; intro hh; rw [show Nat.ble (Nat.add len n) k = true from ble_iff.2 hh] at hb; cases hb
          cases hc : cut cs off (Nat.mul len esz) with
          | none => rw [hc] at h; simp at h
          | some old =>
            rw [hc] at h; simp only at h
            have hf := hf1 (by rw [grow_next h]; omega)
            obtain ⟨xs, hxs, _, hfd⟩ := first_sound (len := len) (k := k) r hg hB hc
            have hol := (cut_some hc).1
            obtain ⟨φ', h1, h2, h3, h4⟩ := grow_sound (w := w) (xs := xs.toArray ++ new'.toArray) (cap := grownCap w (len + n) k e) (z := zx.cells) r hwf hf h (by simpa using VRL.append hxs hnew) (by rw [List.length_append, hol, hnl]; show len * esz + n * esz = (len + n) * esz; rw [Nat.add_mul]) hzs (grownCap_ge _ _ _ _)
            refine ⟨φ', _, _, ?_, h1, h2⟩
            exact src.grow t ty i zx (some _) len k xs.toArray h0 ht hi his (hzr _) hlt h4 (sure_fits hlt (by rw [hib]; exact h3)) hfd
      · rename_i esz'
        simp only at hk
        obtain ⟨he, hk, hlk, hot⟩ := hk
        cases hb : (Nat.beq esz esz' && ex && !fz) with
        | false => rw [hb] at h; simp at h
        | true =>
          rw [hb] at h; simp only [cond_true] at h
          simp only [Bool.and_eq_true, beq_iff, Bool.not_eq_true'] at hb
          obtain ⟨⟨rfl, rfl⟩, rfl⟩ := hb
          obtain ⟨B', hB', c, fr, g1, g2, g3, g4, g5, g6, g7⟩ := r.obj id _ hg
          rw [hB] at hB'; cases hB'
          cases hb2 : Nat.ble (Nat.add off (Nat.mul (Nat.add len n) esz)) (lenN cs) with
          | true =>
            rw [hb2] at h; simp only [cond_true] at h
            rw [ble_iff, lenN_eq] at hb2
            have hb2' : off + (len + n) * esz ≤ cs.length := hb2
            have hle : len + n ≤ k := by rw [hk, Nat.le_div_iff_mul_le he]; omega
            cases hst : storeC s (.ptr id (Nat.add off (Nat.mul len esz))) new with
            | none => rw [hst] at h; simp at h
            | some s1 =>
              rw [hst] at h; simp only [Option.some.injEq, Prod.mk.injEq] at h
              obtain ⟨rfl, rfl⟩ := h
              obtain ⟨a, w', ea, h1, h2⟩ := storeC_sound (P := P) r hst hptr hnew
              cases ea
              refine ⟨φ, .slice (some ⟨B.b, B.o + off, none⟩) (len + n) k, w', ?_, h2, ?_⟩
              · rw [src.stay t ty (some _) len k h0 ht hle]
                simp only [hadd, h1, Result.andThen_ok]
              · simp only [VR]; exact ⟨B, k, hB, rfl, he, hk, hle, hot⟩
          | false =>
            rw [hb2] at h; simp only [cond_false] at h
            cases hb3 : (allScal new && Nat.beq t0 e) with
            | false => rw [hb3] at h; simp at h
            | true =>
              rw [hb3] at h; simp only [cond_true] at h
              simp only [Bool.and_eq_true, beq_iff] at hb3
              obtain ⟨hsc, rfl⟩ := hb3
              cases hc : cut cs off (Nat.mul len esz) with
              | none => rw [hc] at h; simp at h
              | some old =>
                rw [hc] at h; simp only at h
                have hf := hf1 (by rw [grow_next h]; exact Nat.lt_succ_self _)
                obtain ⟨xs, hxs, _, hfd⟩ := first_sound (len := len) (k := k) r hg hB hc
                obtain ⟨hol, hcb, hold⟩ := cut_some hc
                have hol' : old.length = len * esz := hol
                have hlen : (old ++ new).length = (len + n) * esz := by rw [List.length_append, hol', hnl, Nat.add_mul]
                by_cases hle : len + n ≤ k
                · -- it stays
                  have hxl := VRL.length hnew
                  have hfit : (len + n) * esz ≤ B.tot - off := by rw [hk, Nat.le_div_iff_mul_le he] at hle; exact hle
                  have hmul : (len + n) * esz = len * esz + n * esz := Nat.add_mul _ _ _
                  have hrun := run_storeCells_cells (P := P) B.b (B.o + (off + len * esz)) new' 0 w
                    (fun j hj => by rw [cell_block g1]; simp; omega)
                    (fun j hj => by
                      rw [frozen_block g1]
                      have := g7 rfl (B.o + (off + len * esz) + 0 + j) (by omega)
                      simp at this ⊢; exact this)
                    (allScal_oneCell hnew hsc)
                  obtain ⟨f1, f2, f3, f4, f5⟩ := setCells_facts new' w B.b (B.o + (off + len * esz) + 0)
                  obtain ⟨c', k1, k2⟩ := setCells_in new' w B.b (B.o + (off + len * esz) + 0) c t0 fr g1 (by omega)
                  have hsz : c'.size = c.size := by rw [← Array.length_toList, k2]; simp; omega
                  unfold grow at h
                  cases hb4 : (Nat.ble (Nat.mul (Nat.mul 2 (Nat.add len n)) bytes) 281474976710656 && Nat.ble 1 esz && Nat.blt (Nat.add len n) 9223372036854775808) with
                  | false => rw [hb4] at h; simp at h
                  | true =>
                    rw [hb4] at h; simp only [cond_true, Option.some.injEq, Prod.mk.injEq] at h
                    obtain ⟨rfl, rfl⟩ := h
                    have hsub := Phi.set_sub (B := ⟨B.b, B.o + off, B.tot - off⟩) hf
                    refine ⟨_, .slice (some ⟨B.b, B.o + off, none⟩) (len + n) k, _, ?_, Step.move r hf (B' := ⟨B.b, B.o + off, B.tot - off⟩) hg hB rfl f5 f1 f2 f3 f4 ?_, ?_⟩
                    · rw [src.stay t ty (some _) len k h0 ht hle]
                      simp only [hadd, hrun, Result.andThen_ok]
                    · refine ⟨c', fr, k1, by simp only; omega, by simp only; rw [hlen]; exact hfit, (fun h => by cases h), ?_, g6, fun _ => by rw [hsz]; exact g7 rfl⟩
                      simp only
                      have key : (c'.toList.drop (B.o + off)).take (old ++ new).length = (((c.toList.drop B.o).take cs.length).drop off).take (len * esz) ++ new' := by
                        rw [k2, hlen, hmul]
                        have hp : B.o + (off + len * esz) + 0 = B.o + off + len * esz := by omega
                        rw [hp, List.append_assoc, List.drop_append_of_le_length (by simp; omega), List.drop_take]
                        have a1 : B.o + off + len * esz - (B.o + off) = len * esz := by omega
                        rw [a1, List.take_append]
                        have a2 : ((c.toList.drop (B.o + off)).take (len * esz)).length = len * esz := by simp; omega
                        rw [a2, List.take_append]
                        have a3 : len * esz + n * esz - len * esz = n * esz := by omega
                        have a4 : n * esz - new'.length = 0 := by omega
                        rw [a3, a4, List.take_zero, List.append_nil]
                        congr 1
                        · rw [List.take_take, Nat.min_eq_right (by omega), List.drop_take, List.drop_drop, List.take_take]
                          congr 1
                          have hcb' : off + len * esz ≤ cs.length ∨ len * esz = 0 := hcb
                          omega
                        · exact List.take_of_length_le (by omega)
                      rw [key]
                      have hco := VRL.cut g5 hc
                      exact VRL.append (VRL.mono hsub _ _ hco) (VRL.mono hsub _ _ hnew)
                    · simp only [VR]
                      exact ⟨⟨B.b, B.o + off, B.tot - off⟩, k, by simp [Phi.set, St.del], by simp, he, by simpa using hk, hle, Nat.zero_le _⟩
                · have hlt : k < len + n := by omega
                  have hd := Step.del r id hg
                  obtain ⟨φ', h1, h2, h3, h4⟩ := grow_sound (w := w) (xs := xs.toArray ++ new'.toArray) (cap := grownCap w (len + n) k t0) (z := zx.cells) hd.rel (hd.ext.wf hwf) hf h (by simpa using VRL.append hxs hnew) hlen hzs (grownCap_ge _ _ _ _)
                  refine ⟨φ', _, _, ?_, Step.trans hwf hd h1, h2⟩
                  exact src.grow t ty i zx (some _) len k xs.toArray h0 ht hi his (hzr _) hlt h4 (sure_fits hlt (by rw [hib]; exact h3)) hfd
    · cases h
  · cases h
theorem firstCells_string {P : Program} {w : World} (z : Nat) (s : ByteArray) : (Builtin.firstCells z s.size (.string s)).run P w = .ok (s.data.toList.map fun b => Value.int .u8 (b.toNat : Int)).toArray w := by
  have e : (s.extract 0 s.size).data = s.data := by
    apply Array.ext'
    simp
  simp only [Builtin.firstCells, e, Sem.run_pure]
  congr 1
  apply Array.ext'; simp
theorem app_sound {P : Program} {w0 : World} {φ : Phi} {s s' : St} {w : World} (r : Rel P w0 φ s.get w) (hwf : Wf s) (hf1 : s.next < s'.next → φ s.next = none) {ts : Array TypeId} {t ty e u : TypeId} {d : TypeDesc} {esz bytes : Nat} {x y v z : AV} {x' y' : Value}
    (h0 : ts[0]? = some t) (ht : P.underlying t = some (.slice e)) (h1 : ts[1]? = some u) (hu : P.underlying u = some d) (hd' : d = .string ∨ ∃ c, d = .slice c) (hs : sizT P e = some esz) (hby : bytT P e = some bytes) (hz : zeroT P e = some z) (hzl : lenN z.cells = esz)
    (h : appV s e esz bytes x y = some (v, s')) (hx : VR φ x x') (hy : VR φ y y') :
    ∃ φ' a w', (Builtin.append_ ts ty #[x', y']).run P w = .ok a w' ∧ Step P w0 φ s w φ' s' w' ∧ VR φ' v a := by
  rw [lenN_eq] at hzl
  unfold appV at h
  have key : ∀ (n : Nat) (new : List AV), srcLen y = some n → srcCells s esz n y = some new → ∃ new', Src P w ts e esz y' n new' ∧ VRL φ new new' ∧ new.length = n * esz := by
    intro n new hn hc
    unfold srcLen at hn
    unfold srcCells at hc
    split at hn
    · cases hn; simp only [Option.some.injEq] at hc; subst hc
      simp only [VR] at hy; subst hy
      exact ⟨[], src_of h1 hu hd' hs rfl (run_firstCells_none _ _ _ _ _) (run_firstCells_none _ _ _ _ _), VRL.nil φ, by simp⟩
    · cases hn; simp only [Option.some.injEq] at hc; subst hc
      simp only [VR] at hy; obtain ⟨a, k, rfl⟩ := hy
      exact ⟨[], src_of h1 hu hd' hs rfl (run_firstCells_some w esz 0 a 0 k [] (by simp) (by simp)) (run_firstCells_some w.drew esz 0 a 0 k [] (by simp) (by simp)), VRL.nil φ, by simp⟩
    · rename_i id off len c
      simp only [Option.some.injEq] at hn; subst hn
      simp only at hc
      split at hc
      · rename_i t0 cs ex fz hg
        simp only [VR] at hy; obtain ⟨B, k, hB, rfl, _⟩ := hy
        obtain ⟨xs, hxs, g1, g2⟩ := first_sound (P := P) (len := len) (k := k) r hg hB hc
        exact ⟨xs, src_of h1 hu hd' hs rfl g1 g2, hxs, (cut_some hc).1⟩
      · rename_i cs hg
        simp only [VR] at hy; obtain ⟨B, k, hB, rfl, _⟩ := hy
        obtain ⟨xs, hxs, g1, g2⟩ := first_soundL (P := P) (len := len) (k := k) r hB (show loadC [] s (.ptr id off) (len * esz) = some new by simp only [loadC, hg]; exact hc)
        exact ⟨xs, src_of h1 hu hd' hs rfl g1 g2, hxs, (cut_some hc).1⟩
      · cases hc
    · rename_i l
      simp only [Option.some.injEq] at hn; subst hn
      cases hb : Nat.beq esz 1 with
      | false => simp only [hb, cond_false] at hc; cases hc
      | true =>
        simp only [hb, cond_true, Option.some.injEq] at hc; subst hc
        rw [beq_iff] at hb; subst hb
        simp only [VR] at hy; obtain ⟨bs, rfl, rfl⟩ := hy
        have hl : lenN (nats bs) = bs.size := by rw [lenN_eq, nats_length]
        rw [hl]
        refine ⟨bs.data.toList.map fun b => Value.int .u8 (b.toNat : Int), src_of h1 hu hd' hs rfl (firstCells_string _ bs) (firstCells_string _ bs), ?_, ?_⟩
        · rw [takeS_eq, List.take_of_length_le (by rw [nats_length]; exact Nat.le_refl _)]
          exact bytesV_vrl _
        · rw [takeS_eq, List.take_of_length_le (by rw [nats_length]; exact Nat.le_refl _), bytesV_length, nats_length]; omega
    · rename_i m ex cs
      simp only [Option.some.injEq] at hn; subst hn
      simp only at hc
      obtain ⟨_, _, hcl⟩ := takeN_some hc
      simp only [VR] at hy; obtain ⟨hp, ⟨rfl, rfl⟩ | ⟨b, o, k, ys, rfl, _, _, hz1, hy1⟩⟩ := hy
      · obtain rfl : new = [] := List.eq_nil_of_length_eq_zero (by rw [hcl]; show 0 * esz = 0; simp)
        exact ⟨[], src_of h1 hu hd' hs rfl (run_firstCells_none _ _ _ _ _) (run_firstCells_none _ _ _ _ _), VRL.nil φ, by simp⟩
      · obtain ⟨xs, hxs, g1, g2⟩ := first_soundV (P := P) (len := m) (k := k) r (by simp only [VR]; exact ⟨hp, b, o, ys, rfl, hz1, hy1⟩) hc
        exact ⟨xs, src_of h1 hu hd' hs rfl g1 g2, hxs, hcl⟩
    · rename_i id e' m cs
      simp only [Option.some.injEq] at hn; subst hn
      simp only at hc
      obtain ⟨_, _, hcl⟩ := takeN_some hc
      simp only [VR] at hy; obtain ⟨hp, _, _, _, B, ys, _, rfl, _, hz1, hy1⟩ := hy
      obtain ⟨xs, hxs, g1, g2⟩ := first_soundV (P := P) (len := m) (k := B.tot / e') r (by simp only [VR]; exact ⟨hp, B.b, B.o, ys, rfl, hz1, hy1⟩) hc
      exact ⟨xs, src_of h1 hu hd' hs rfl g1 g2, hxs, hcl⟩
    · cases hn
  cases hn : srcLen y with
  | none => rw [hn] at h; simp at h
  | some n =>
    rw [hn] at h
    cases n with
    | zero =>
      simp only at h
      have hsrc : Src P w ts e esz y' 0 [] := by
        unfold srcLen at hn
        split at hn
        · simp only [VR] at hy; subst hy
          exact src_of h1 hu hd' hs rfl (run_firstCells_none _ _ _ _ _) (run_firstCells_none _ _ _ _ _)
        · simp only [VR] at hy; obtain ⟨a, k, rfl⟩ := hy
          exact src_of h1 hu hd' hs rfl (run_firstCells_some w esz 0 a 0 k [] (by simp) (by simp)) (run_firstCells_some w.drew esz 0 a 0 k [] (by simp) (by simp))
        · simp only [Option.some.injEq] at hn; subst hn
          simp only [VR] at hy; obtain ⟨B, k, hB, rfl, _⟩ := hy
          exact src_of h1 hu hd' hs rfl (run_firstCells_some w esz 0 _ 0 k [] (by simp) (by simp)) (run_firstCells_some w.drew esz 0 _ 0 k [] (by simp) (by simp))
        · simp only [VR] at hy; obtain ⟨bs, rfl, rfl⟩ := hy
          simp only [Option.some.injEq, lenN_eq, nats_length] at hn
          have hl : bs.data.toList = [] := by
            apply List.eq_nil_of_length_eq_zero
            have : bs.data.size = bs.size := rfl
            simp [this, hn]
          have e1 := fun w => firstCells_string (P := P) (w := w) esz bs
          rw [hl, hn] at e1
          exact src_of h1 hu hd' hs (by simp [Builtin.lenOf, hn]) (e1 w) (e1 w.drew)
        · simp only [Option.some.injEq] at hn; subst hn
          simp only [VR] at hy; obtain ⟨hp, ⟨_, rfl⟩ | ⟨b, o, k, ys, rfl, _⟩⟩ := hy
          · exact src_of h1 hu hd' hs rfl (run_firstCells_none _ _ _ _ _) (run_firstCells_none _ _ _ _ _)
          · exact src_of h1 hu hd' hs rfl (run_firstCells_some w esz 0 _ 0 k [] (by simp) (by simp)) (run_firstCells_some w.drew esz 0 _ 0 k [] (by simp) (by simp))
        · simp only [Option.some.injEq] at hn; subst hn
          simp only [VR] at hy; obtain ⟨_, _, h0', _⟩ := hy; omega
        · cases hn
      obtain ⟨rfl, g1, g2⟩ := app0_sound (ty := ty) r h0 ht hsrc h hx
      exact ⟨φ, x', w, g1, Step.refl r, g2⟩
    | succ n =>
      simp only at h
      cases hc : srcCells s esz (Nat.succ n) y with
      | none => rw [hc] at h; simp at h
      | some new =>
        rw [hc] at h; simp only at h
        obtain ⟨new', src, g2, g3⟩ := key _ _ hn hc
        exact appW_sound r hwf hf1 h0 ht hs hby hz hzl src (by omega) g2 g3 h hx
theorem appz_sound {P : Program} {w0 : World} {φ : Phi} {s s' : St} {w : World} (r : Rel P w0 φ s.get w) (hwf : Wf s) (hf1 : s.next < s'.next → φ s.next = none) {ts : Array TypeId} {t ty e u : TypeId} {k : IntKind} {esz bytes : Nat} {x y v z : AV} {x' y' : Value}
    (h0 : ts[0]? = some t) (ht : P.underlying t = some (.slice e)) (h1 : ts[1]? = some u) (hu : P.underlying u = some (.int k)) (hs : sizT P e = some esz) (hby : bytT P e = some bytes) (hz : zeroT P e = some z) (hzl : lenN z.cells = esz) (he : 1 ≤ esz)
    (h : appzV s e esz bytes z.cells x y = some (v, s')) (hx : VR φ x x') (hy : VR φ y y') :
    ∃ φ' a w', (Builtin.append_ ts ty #[x', y']).run P w = .ok a w' ∧ Step P w0 φ s w φ' s' w' ∧ VR φ' v a := by
  obtain ⟨zx, hzr, hzv⟩ := run_zeroValue' hz
  rw [lenN_eq] at hzl
  have hzs : zx.cells.size = esz := by rw [← hzl, VRL.length (hzv φ).cells]; simp
  unfold appzV at h
  split at h
  · cases h
  · rename_i n
    simp only [VR] at hy; subst hy
    cases hb : (Nat.ble (Nat.mul (Nat.succ n) bytes) 281474976710656 && Nat.blt n 9223372036854775807) with
    | false => rw [hb] at h; simp at h
    | true =>
      rw [hb] at h; simp only [cond_true] at h
      simp only [Bool.and_eq_true, ble_iff, blt_iff] at hb
      have src := srcz_of (P := P) (w := w) (n := n + 1) h1 hu hs hby hzr hzs he (by omega) (by omega) hb.1
      refine appW_sound r hwf hf1 h0 ht hs hby hz hzl src (by omega) (VRL.reps (hzv φ).cells _) ?_ h hx
      rw [reps_length, hzl]
  · cases h
theorem cap_sound {P : Program} {w : World} {φ : Phi} {ts : Array TypeId} {ty t e : TypeId} {x v : AV} {x' : Value} (h0 : ts[0]? = some t) (ht : P.underlying t = some (.slice e)) (h : vCap x = some v) (hx : VR φ x x') :
    ∃ y, (Builtin.cap_ ts ty #[x']).run P w = .ok y w ∧ VR φ v y := by
  unfold vCap at h
  split at h
  · cases h; simp only [VR] at hx; subst hx
    exact ⟨goInt 0, by simp [Builtin.cap_, h0, run_underlying' ht], by simp only [VR]; rfl⟩
  · rename_i id off len n
    cases h; simp only [VR] at hx; obtain ⟨B, k, hB, rfl, rfl⟩ := hx
    exact ⟨goInt k, by simp [Builtin.cap_, h0, run_underlying' ht], by simp only [VR]; rfl⟩
  · cases h
end Go.Proofs.YthcmnajcjapjbaaGreatDoor.Ev

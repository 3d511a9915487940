/- Part of a verified evaluator of the model's code, generic over the program: a run of the evaluator that answers shows what the model's run answers. No conditions of its own. -/
import Derived.Test.YtoejmfiaaigpbaaGreatDoorEvOps7
namespace Go.Proofs.YtoejmfiaaigpbaaGreatDoor.Ev

theorem setK_key {φ : Phi} {v k : AV} {k' : Value} (hk : VR φ k k') : ∀ {l : List (AV × AV × Nat)} {es : List MapEntry} (j : Nat) {e : MapEntry}, EntRel φ l es → es[j]? = some e → VR φ v e.val → EntRel φ (setK v k l j) (es.modify j fun e => { e with key := k' })
  | [], es, j, e, h, he, _ => by simp only [EntRel] at h; subst h; simp at he
  | p :: l, es, 0, e0, h, he, hv => by
    obtain ⟨e, es', rfl, h1, h2, h3, h4⟩ := h
    simp at he; subst he
    simp only [setK, List.modify_zero_cons]
    exact ⟨_, es', rfl, hk, hv, h3, h4⟩
  | p :: l, es, j + 1, e0, h, he, hv => by
    obtain ⟨e, es', rfl, h1, h2, h3, h4⟩ := h
    simp only [setK, List.modify_succ_cons]
    exact ⟨e, _, rfl, h1, h2, h3, setK_key hk j h4 (by simpa using he) hv⟩
theorem bornK_eq {φ : Phi} : ∀ {l : List (AV × AV × Nat)} {es : List MapEntry} (j : Nat) {e : MapEntry}, EntRel φ l es → es[j]? = some e → bornK l j = e.born
  | [], es, j, e, h, he => by simp only [EntRel] at h; subst h; simp at he
  | p :: l, es, 0, e0, h, he => by
    obtain ⟨e, es', rfl, h1, h2, h3, h4⟩ := h
    simp at he; subst he; exact h3.symm
  | p :: l, es, j + 1, e0, h, he => by
    obtain ⟨e, es', rfl, h1, h2, h3, h4⟩ := h
    exact bornK_eq j h4 (by simpa using he)

theorem tup2 {φ : Phi} {a b : AV} {x y : Value} (h : VR φ a x) (h' : VR φ b y) : VR φ (.tup [a, b]) (.tuple #[x, y]) := by
  simp only [VR]; exact ⟨[x, y], rfl, VRL.cons h (VRL.cons h' (VRL.nil φ))⟩

theorem me_sound {P : Program} {w0 : World} {φ : Phi} {s s' : St} {w : World} (r : Rel P w0 φ s.get w) {t kt e : TypeId} {f : FK} {z m k u : AV} {m' k' : Value} (hu : P.underlying t = some (.map kt e)) (hf : fkT P kt = some f) (hz : zeroT P e = some z)
    (h : oMe s f z m k = some (u, s')) (hm : VR φ m m') (hk : VR φ k k') : ∃ x w', (Instr.mapEntry t m' k').run P w = .ok x w' ∧ Step P w0 φ s w φ s' w' ∧ VR φ u x := by
  obtain ⟨zx, hzr, hzv⟩ := run_zeroValue' hz
  have hck : ∀ b, (Instr.checkKey b 10000 kt k').run P w = .ok () w := fun b => run_checkKey hf b 9999 k'
  unfold oMe at h
  split at h
  · rename_i id
    simp only [VR] at hm; obtain ⟨B, hB, rfl⟩ := hm
    split at h
    · rename_i es clock hg
      obtain ⟨ents, hb, hent⟩ := mapObj r hg hB
      have hgo := run_getObj' (P := P) hb (by simp)
      cases hfi : findK f k es 0 with
      | none => rw [hfi] at h; simp at h
      | some res =>
        rw [hfi] at h
        rcases run_findKey (P := P) (w := w) hf hk hent hfi with ⟨rfl, h5⟩ | ⟨j, v1, v2, e', rfl, h5, h6, h7, h8, h9, h10⟩
        · simp only [Option.some.injEq, Prod.mk.injEq] at h
          obtain ⟨rfl, rfl⟩ := h
          refine ⟨.tuple #[zx, goInt clock], _, ?_, Step.setObj r hg hB hb (x' := .map (ents.push { key := k', val := zx, born := clock }) (clock + 1)) ⟨_, setIn hb, ?_⟩, tup2 (hzv φ) (by simp only [VR]; rfl)⟩
          · simp only [Instr.mapEntry, Sem.run_bind, run_underlying' hu, Result.andThen_ok, hgo, hck, h5, hzr, run_setObj' _ hb (by simp), Sem.run_pure]
          · rw [Array.toList_push]
            exact EntRel.append hent ⟨_, [], rfl, hk, hzv φ, rfl, rfl⟩
        · simp only [Option.some.injEq, Prod.mk.injEq] at h
          obtain ⟨rfl, rfl⟩ := h
          have hent' : ents[j]? = some e' := by rw [← Array.getElem?_toList]; exact h7
          refine ⟨.tuple #[v2, goInt (((ents[j]?).map (·.born)).getD 0)], _, ?_, Step.setObj r hg hB hb (x' := .map (ents.modify j fun e => { e with key := k' }) clock) ⟨_, setIn hb, ?_⟩, tup2 h6 ?_⟩
          · simp only [Instr.mapEntry, Sem.run_bind, run_underlying' hu, Result.andThen_ok, hgo, hck, h5, getKey h7, run_keyStays h9, run_setObj' _ hb (by simp), Sem.run_pure]
          · rw [Array.toList_modify]
            exact setK_key hk j hent h7 (h8 ▸ h6)
          · simp only [VR]; rw [hent', bornK_eq j hent h7]; rfl
    · cases h
  · cases h

theorem setB_ent {φ : Phi} {b : Nat} {v : AV} {v' : Value} (hv : VR φ v v') : ∀ {l l' : List (AV × AV × Nat)} {es : List MapEntry}, EntRel φ l es → setB b v l = some l' →
    ∃ j, es.findIdx? (fun e => (e.born : Int) == (b : Int)) = some j ∧ EntRel φ l' (es.modify j fun e => { e with val := v' })
  | [], l', es, h, hs => by simp [setB] at hs
  | p :: l, l', es, h, hs => by
    obtain ⟨e, es', rfl, h1, h2, h3, h4⟩ := h
    simp only [setB] at hs
    cases hb : Nat.beq p.2.2 b with
    | true =>
      rw [hb] at hs; simp only [cond_true, Option.some.injEq] at hs; subst hs
      rw [beq_iff] at hb
      refine ⟨0, ?_, ?_⟩
      · have : ((e.born : Int) == (b : Int)) = true := by rw [beq_iff_eq]; omega
        simp [List.findIdx?_cons, this]
      · simp only [List.modify_zero_cons]
        exact ⟨_, es', rfl, h1, hv, h3, h4⟩
    | false =>
      rw [hb] at hs; simp only [cond_false] at hs
      cases hr : setB b v l with
      | none => rw [hr] at hs; simp at hs
      | some l2 =>
        rw [hr] at hs; simp only [Option.some.injEq] at hs; subst hs
        obtain ⟨j, h5, h6⟩ := setB_ent hv h4 hr
        have hne : ¬ p.2.2 = b := fun e => by rw [beq_iff.2 e] at hb; cases hb
        have : ((e.born : Int) == (b : Int)) = false := by rw [beq_eq_false_iff_ne]; omega
        refine ⟨j + 1, by simp [List.findIdx?_cons, this, h5], ?_⟩
        simp only [List.modify_succ_cons]
        exact ⟨e, _, rfl, h1, h2, h3, h6⟩

theorem findIdx_list {α : Type} (a : Array α) (p : α → Bool) : a.findIdx? p = a.toList.findIdx? p := by cases a; simp

theorem es_sound {P : Program} {w0 : World} {φ : Phi} {s s' : St} {w : World} (r : Rel P w0 φ s.get w) {mt : TypeId} {m t v u : AV} {m' t' v' : Value} (h : oEs s m t v = some (u, s')) (hm : VR φ m m') (ht : VR φ t t') (hv : VR φ v v') :
    u = undefV ∧ ∃ w', (Instr.entryStore mt m' t' v').run P w = .ok () w' ∧ Step P w0 φ s w φ s' w' := by
  unfold oEs at h
  split at h
  · rename_i id
    simp only [VR] at hm; obtain ⟨B, hB, rfl⟩ := hm
    split at h
    · rename_i k b
      simp only [VR] at ht; subst ht
      split at h
      · rename_i es clock hg
        obtain ⟨ents, hb, hent⟩ := mapObj r hg hB
        have hgo := run_getObj' (P := P) hb (by simp)
        cases hs : setB b v es with
        | none => rw [hs] at h; simp at h
        | some es' =>
          rw [hs] at h; simp only [Option.some.injEq, Prod.mk.injEq] at h
          obtain ⟨rfl, rfl⟩ := h
          obtain ⟨j, h5, h6⟩ := setB_ent hv hent hs
          have h5' : ents.findIdx? (fun e => (e.born : Int) == Int.ofNat b) = some j := by rw [findIdx_list]; exact h5
          refine ⟨rfl, _, ?_, Step.setObj r hg hB hb (x' := .map (ents.modify j fun e => { e with val := v' }) clock) ⟨_, setIn hb, ?_⟩⟩
          · simp only [Instr.entryStore, Sem.run_bind, hgo, Result.andThen_ok, asInt, asIntOf, Sem.run_pure, h5']
            exact run_setObj' _ hb (by simp)
          · rw [Array.toList_modify]; exact h6
      · cases h
    · cases h
  · cases h

/-! ### New blocks -/
theorem getObj_alloc {w : World} (o : Obj) : ({ w with heap := w.heap.push o } : World).heap[w.heap.size]? = some o := by simp

theorem VRL_take_all {φ : Phi} {cs : List AV} {xs : List Value} (h : VRL φ cs xs) : VRL φ cs ((xs.toArray.toList.drop 0).take cs.length) := by
  simp only [List.drop_zero]
  rw [List.take_of_length_le (by rw [VRL.length h]; simp)]
  exact h

/-- A NEW ROW. -/
theorem newRow_step {P : Program} {w0 : World} {φ : Phi} {s : St} {w : World} (r : Rel P w0 φ s.get w) (hwf : Wf s) (hf : φ s.next = none) (e : TypeId) {cs : List AV} {xs : List Value} (hx : VRL φ cs xs) :
    Step P w0 φ s w (φ.set s.next ⟨w.heap.size, 0, cs.length⟩) (s.alloc (.row e cs false false)) { w with heap := w.heap.push (.cells xs.toArray e) } := by
  refine Step.alloc r hwf hf rfl rfl rfl rfl ?_
  refine ⟨xs.toArray, (0, 0), getObj_alloc _, by simp [VRL.length hx], Nat.le_refl _, fun _ => ⟨rfl, rfl⟩, ?_, Nat.le_refl _, fun _ i _ => by simp⟩
  exact VRL_take_all (VRL.mono (Phi.set_sub hf) _ _ hx)

theorem run_newRow {P : Program} {w : World} (e : TypeId) (xs : Array Value) : (newRow e xs).run P w = .ok ⟨w.heap.size, 0, none⟩ { w with heap := w.heap.push (.cells xs e) } := by simp [newRow]

theorem ptr_new {φ : Phi} {s : St} {w : World} {tot : Nat} : VR (φ.set s.next ⟨w.heap.size, 0, tot⟩) (.ptr s.next 0) (.pointer (some ⟨w.heap.size, 0, none⟩)) := by
  simp only [VR]; exact ⟨⟨w.heap.size, 0, tot⟩, by simp [Phi.set], by simp⟩

theorem alloc_sound {P : Program} {w0 : World} {φ : Phi} {s s' : St} {w : World} (r : Rel P w0 φ s.get w) (hwf : Wf s) (hf : φ s.next = none) {t : TypeId} {z v : AV} (hz : zeroT P t = some z) (h : oAlloc s t z.cells = some (v, s')) :
    ∃ φ' x w', (Instr.alloc t true (.tuple #[])).run P w = .ok x w' ∧ Step P w0 φ s w φ' s' w' ∧ VR φ' v x := by
  obtain ⟨zx, hzr, hzv⟩ := run_zeroValue' hz
  unfold oAlloc at h; cases h
  refine ⟨_, _, _, ?_, newRow_step r hwf hf t (hzv φ).cells, ptr_new⟩
  simp only [Instr.alloc, Sem.run_bind, hzr, Result.andThen_ok, newVar, run_newRow, Sem.run_pure]

theorem box_sound {P : Program} {w0 : World} {φ : Phi} {s s' : St} {w : World} (r : Rel P w0 φ s.get w) (hwf : Wf s) (hf : φ s.next = none) {t : TypeId} {x v : AV} {x' : Value} (h : oBox s t x = some (v, s')) (hx : VR φ x x') :
    ∃ φ' y w', (Instr.box t x').run P w = .ok y w' ∧ Step P w0 φ s w φ' s' w' ∧ VR φ' v y := by
  unfold oBox at h; cases h
  refine ⟨_, _, _, ?_, newRow_step r hwf hf t hx.cells, ptr_new⟩
  simp only [Instr.box, newVar, Sem.run_bind, run_newRow, Result.andThen_ok, Sem.run_pure]

/-! ### Build -/
theorem setIdx_fold (off : Nat) : ∀ (vs : List Value) (j : Nat) (cs : Array Value), off + j + vs.length ≤ cs.size →
    ((vs.zipIdx j).foldl (fun (cs : Array Value) (p : Value × Nat) => cs.setIfInBounds (off + p.2) p.1) cs).toList = cs.toList.take (off + j) ++ vs ++ cs.toList.drop (off + j + vs.length)
  | [], j, cs, h => by simp
  | v :: vs, j, cs, h => by
    have h' : off + j + (vs.length + 1) ≤ cs.size := h
    rw [List.zipIdx_cons, List.foldl_cons, setIdx_fold off vs (j + 1) _ (by simp; omega)]
    have hlt : off + j < cs.toList.length := by simp; omega
    have hm : (cs.toList.take (off + j)).length = off + j := by rw [List.length_take]; omega
    rw [Array.toList_setIfInBounds]
    have e1 : (cs.toList.set (off + j) v).take (off + (j + 1)) = cs.toList.take (off + j) ++ [v] := by
      rw [← Nat.add_assoc, List.take_set, List.take_succ_eq_append_getElem hlt, List.set_append_right _ _ (by omega), hm]; simp
    have e2 : (cs.toList.set (off + j) v).drop (off + (j + 1) + vs.length) = cs.toList.drop (off + j + (vs.length + 1)) := by
      rw [List.drop_set_of_lt (by omega)]; congr 1; omega
    rw [e1, e2]; simp

theorem fill_sound {φ : Phi} {place : Nat → Option (Nat × Nat)} {tm : Trie AV} {a : Act} : ∀ {ps : List (Nat × Operand)} {qs : List (Nat × Nat × Opd)} {zs cs : List AV} {xs : Array Value}, cParts place ps = some qs → fillC zs tm qs = some cs →
    TmOn φ (Opd.tmps (qs.map (·.2.2))) tm a → VRL φ zs xs.toList → ∃ ys, Instr.fill place xs (ps.map fun (i, x) => (i, a.eval x)) = some ys ∧ VRL φ cs ys.toList
  | [], qs, zs, cs, xs, hc, hf, _, hz => by simp [cParts] at hc; subst hc; simp [fillC] at hf; subst hf; exact ⟨xs, rfl, hz⟩
  | (i, x) :: ps, qs, zs, cs, xs, hc, hf, ht, hz => by
    simp only [cParts] at hc
    cases hp : place i with
    | none => rw [hp] at hc; simp at hc
    | some os =>
      obtain ⟨o, sz⟩ := os
      cases hx : cOpd x with
      | none => rw [hp, hx] at hc; simp at hc
      | some y =>
        cases hr : cParts place ps with
        | none => rw [hp, hx, hr] at hc; simp at hc
        | some l =>
          rw [hp, hx, hr] at hc; simp only [Option.some.injEq] at hc; subst hc
          simp only [fillC] at hf
          cases hy : y.ev tm with
          | none => rw [hy] at hf; simp at hf
          | some v =>
            rw [hy] at hf; simp only at hf
            cases hb : (Nat.beq (lenN v.cells) sz && Nat.ble 1 sz) with
            | false => rw [hb] at hf; simp at hf
            | true =>
              rw [hb] at hf; simp only [cond_true] at hf
              cases hpa : paste zs o v.cells with
              | none => rw [hpa] at hf; simp at hf
              | some zs' =>
                rw [hpa] at hf; simp only at hf
                have hv := opd_sound (φ := φ) (a := a) hx hy (ht.sub (by intro t h; simp [Opd.tmps]; exact .inl h))
                have hvc := hv.cells
                have hlen := VRL.length hvc
                rw [Bool.and_eq_true, beq_iff, ble_iff, lenN_eq] at hb
                obtain ⟨hb, hb1⟩ := hb
                obtain ⟨hbound, rfl⟩ := paste_some hpa
                have hzl := VRL.length hz
                simp only [List.map_cons, Instr.fill, hp]
                have hsz : (a.eval x).cells.size = sz := by rw [← hb, hlen]; simp
                have hoff : o + (a.eval x).cells.size ≤ xs.size := by
                  have hbd := hbound.resolve_right (fun e => by rw [e] at hb; simp at hb; omega)
                  simp at hzl hlen; omega
                have hif : ((a.eval x).cells.size ≠ sz || o + (a.eval x).cells.size > xs.size) = false := by
                  simp [hsz]; omega
                rw [hif]
                simp only [Bool.false_eq_true, if_false]
                refine fill_sound hr hf (ht.sub (by intro t h; simp [Opd.tmps] at h ⊢; exact .inr h)) ?_
                have hfold : ((a.eval x).cells.zipIdx.foldl (fun (cs : Array Value) (p : Value × Nat) => cs.setIfInBounds (o + p.2) p.1) xs).toList = xs.toList.take o ++ (a.eval x).cells.toList ++ xs.toList.drop (o + (a.eval x).cells.toList.length) := by
                  have := setIdx_fold o (a.eval x).cells.toList 0 xs (by simp; omega)
                  rw [← Array.foldl_toList, Array.toList_zipIdx]
                  simpa using this
                rw [hfold]
                have : v.cells.length = (a.eval x).cells.toList.length := hlen
                rw [this]
                exact VRL.append (VRL.append (hz.take o) hvc) (hz.drop _)

end Go.Proofs.YtoejmfiaaigpbaaGreatDoor.Ev

/- Part of a verified evaluator of the model's code, generic over the program: a run of the evaluator that answers shows what the model's run answers. No conditions of its own. -/
import Derived.Test.YtoejmfiaaigpbaaGreatDoorEvOpsA
namespace Go.Proofs.YtoejmfiaaigpbaaGreatDoor.Ev

/-! ### Iterators -/
theorem rs_sound {P : Program} {w0 : World} {φ : Phi} {s s' : St} {w : World} (r : Rel P w0 φ s.get w) (hwf : Wf s) (hf : φ s.next = none) {t : TypeId} {x v : AV} {x' : Value} (hu : P.underlying t = some .string) (h : oRs s x = some (v, s')) (hx : VR φ x x') :
    ∃ φ' y w', (Instr.range t x').run P w = .ok y w' ∧ Step P w0 φ s w φ' s' w' ∧ VR φ' v y := by
  unfold oRs at h
  split at h
  · cases h
    simp only [VR] at hx
    obtain ⟨bs, rfl, rfl⟩ := hx
    refine ⟨_, _, _, ?_, Step.alloc r hwf hf (w' := { w with heap := w.heap.push (.stringIter bs 0) }) (tot := 0) rfl rfl rfl rfl ⟨rfl, bs, getObj_alloc _, rfl⟩, ptr_new⟩
    simp [Instr.range, run_underlying' hu]
  · cases h

theorem decode_ascii {s : ByteArray} {i b : Nat} (h : (nats s)[i]? = some b) (hb : b < 128) : Utf8.decode s i = (b, 1) ∧ i < s.size := by
  rw [nats_get] at h
  have hi : i < s.size := by
    by_cases hi : i < s.size
    · exact hi
    · rw [ByteArray.getElem?_ge' s i hi] at h; cases h
  rw [ByteArray.getElem?_lt' s i hi] at h
  simp only [Option.map_some, Option.some.injEq] at h
  have hg : (s.get! (i + 0)).toNat = b := by
    have : s.get! (i + 0) = s[i] := by
      rw [Nat.add_zero]
      show s.data[i]! = s.data[i]
      exact getElem!_pos s.data i hi
    rw [this]; exact h
  refine ⟨?_, hi⟩
  unfold Utf8.decode
  simp only [hg]
  rw [if_pos hb]

theorem ns_sound {P : Program} {w0 : World} {φ : Phi} {s s' : St} {w : World} (r : Rel P w0 φ s.get w) {ty : TypeId} {x v : AV} {x' : Value} (h : oNs s x = some (v, s')) (hx : VR φ x x') :
    ∃ y w', (Instr.next x' true ty).run P w = .ok y w' ∧ Step P w0 φ s w φ s' w' ∧ VR φ v y := by
  unfold oNs at h
  split at h
  · rename_i id
    simp only [VR] at hx
    obtain ⟨B, hB, rfl⟩ := hx
    split at h
    · rename_i t pos hg
      obtain ⟨B', hB', h0, bs, hb, rfl⟩ := r.obj id _ hg
      rw [hB] at hB'; cases hB'
      have hgo := run_getObj' (P := P) hb (by simp)
      rw [getS_eq] at h
      cases hp : (nats bs)[pos]? with
      | none =>
        rw [hp] at h; simp only [Option.some.injEq, Prod.mk.injEq] at h
        obtain ⟨rfl, rfl⟩ := h
        have hge : ¬ pos < bs.size := by
          intro hlt
          rw [nats_get, ByteArray.getElem?_lt' bs pos hlt] at hp; cases hp
        refine ⟨.tuple #[.bool false], w, ?_, Step.refl r, by simp only [VR]; exact ⟨[.bool false], rfl, VRL.cons (by simp [VR]) (VRL.nil φ)⟩⟩
        simp [Instr.next, h0, hgo, hge]
      | some b =>
        rw [hp] at h; simp only at h
        cases hlt : Nat.blt b 128 with
        | false => rw [hlt] at h; simp at h
        | true =>
          rw [hlt] at h; simp only [cond_true, Option.some.injEq, Prod.mk.injEq] at h
          obtain ⟨rfl, rfl⟩ := h
          obtain ⟨hd, hpos⟩ := decode_ascii hp (blt_iff.1 hlt)
          refine ⟨.tuple #[.bool true, goInt pos, .int .i32 (b : Int)], _, ?_, Step.setObj r hg hB hb (x' := .stringIter bs (pos + 1)) ⟨h0, bs, setIn hb, rfl⟩, ?_⟩
          · simp [Instr.next, h0, hgo, hpos, hd, run_setObj' _ hb (by simp)]
          · simp only [VR]
            exact ⟨[.bool true, goInt pos, .int .i32 (b : Int)], rfl, VRL.cons (by simp [VR]) (VRL.cons (by simp only [VR]; rfl) (VRL.cons (by simp only [VR]; rfl) (VRL.nil φ)))⟩
    · cases h
  · cases h

theorem rm_sound {P : Program} {w0 : World} {φ : Phi} {s s' : St} {w : World} (r : Rel P w0 φ s.get w) (hwf : Wf s) (hf : φ s.next = none) {t kt e : TypeId} {x v : AV} {x' : Value} (hu : P.underlying t = some (.map kt e)) (h : oRm s x = some (v, s')) (hx : VR φ x x') :
    ∃ φ' y w', (Instr.range t x').run P w = .ok y w' ∧ Step P w0 φ s w φ' s' w' ∧ VR φ' v y := by
  unfold oRm at h
  split at h
  · cases h
    simp only [VR] at hx; subst hx
    refine ⟨_, _, _, ?_, Step.alloc r hwf hf (w' := { w with heap := w.heap.push (.mapIter none 0 #[] 0) }) (tot := 0) rfl rfl rfl rfl ⟨rfl, none, getObj_alloc _, rfl⟩, ptr_new⟩
    simp [Instr.range, run_underlying' hu]
  · rename_i id
    simp only [VR] at hx; obtain ⟨B, hB, rfl⟩ := hx
    split at h
    · rename_i es clock hg
      cases h
      obtain ⟨ents, hb, hent⟩ := mapObj r hg hB
      have hgo := run_getObj' (P := P) hb (by simp)
      refine ⟨_, _, _, ?_, Step.alloc r hwf hf (w' := { w with heap := w.heap.push (.mapIter (some B.b) clock #[] clock) }) (tot := 0) rfl rfl rfl rfl ⟨rfl, some B.b, getObj_alloc _, B, ?_, rfl⟩, ptr_new⟩
      · simp [Instr.range, run_underlying' hu, hgo]
      · exact Phi.set_sub hf _ _ hB
    · cases h
  · cases h

theorem memN_eq (n : Nat) : ∀ l : List Nat, memN n l = l.contains n
  | [] => rfl
  | m :: r => by
    show (bif Nat.beq n m then true else memN n r) = _
    rw [memN_eq n r, List.contains_cons]
    have : Nat.beq n m = (n == m) := by
      by_cases h : n = m
      · subst h; simp
      · rw [beq_eq_false_iff_ne.2 h, Bool.eq_false_iff, ne_eq, Nat.beq_eq]; exact h
    rw [this]; cases (n == m) <;> simp

theorem leftK_ent {φ : Phi} (seen : List Nat) : ∀ {l : List (AV × AV × Nat)} {es : List MapEntry}, EntRel φ l es → EntRel φ (leftK seen l) (es.filter fun e => !seen.contains e.born)
  | [], _, h => by simp only [EntRel] at h; subst h; simp [leftK, EntRel]
  | p :: l, _, h => by
    obtain ⟨e, es', rfl, h1, h2, h3, h4⟩ := h
    simp only [leftK, memN_eq, ← h3]
    cases hc : seen.contains e.born with
    | true => simp only [cond_true, List.filter_cons, hc]; exact leftK_ent seen h4
    | false => simp only [cond_false, List.filter_cons, hc]; exact ⟨e, _, rfl, h1, h2, h3, leftK_ent seen h4⟩
theorem allNew_ent {φ : Phi} (last : Nat) : ∀ {l : List (AV × AV × Nat)} {es : List MapEntry}, EntRel φ l es → es.all (fun e => decide (e.born ≥ last)) = allNew last l
  | [], _, h => by simp only [EntRel] at h; subst h; rfl
  | p :: l, _, h => by
    obtain ⟨e, es', rfl, h1, h2, h3, h4⟩ := h
    simp only [allNew, List.all_cons, allNew_ent last h4, ← h3]
    by_cases hc : last ≤ e.born
    · rw [show Nat.ble last e.born = true from ble_iff.2 hc]; simp [hc]
    · rw [show Nat.ble last e.born = false from by rw [Bool.eq_false_iff, ne_eq, ble_iff]; exact hc]; simp [hc]

theorem nm_sound {P : Program} {w0 : World} {φ : Phi} {s s' : St} {w : World} (r : Rel P w0 φ s.get w) {ty : TypeId} {x v : AV} {x' : Value} (h : oNm s x = some (v, s')) (hx : VR φ x x') :
    ∃ y w', (Instr.next x' false ty).run P w = .ok y w' ∧ Step P w0 φ s w φ s' w' ∧ VR φ v y := by
  have hover : VR φ (.tup [.bool false]) (.tuple #[.bool false]) := by simp only [VR]; exact ⟨[.bool false], rfl, VRL.cons (by simp [VR]) (VRL.nil φ)⟩
  unfold oNm at h
  split at h
  · rename_i id
    simp only [VR] at hx
    obtain ⟨B, hB, rfl⟩ := hx
    split at h
    · rename_i since seen last hg
      obtain ⟨B', hB', h0, m', hb, rfl⟩ := r.obj id _ hg
      rw [hB] at hB'; cases hB'
      have hgo := run_getObj' (P := P) hb (by simp)
      simp only [Option.some.injEq, Prod.mk.injEq] at h
      obtain ⟨rfl, rfl⟩ := h
      exact ⟨.tuple #[.bool false], w, by simp [Instr.next, h0, hgo], Step.refl r, hover⟩
    · rename_i m since seen last hg
      obtain ⟨B', hB', h0, m', hb, Bm, hBm, rfl⟩ := r.obj id _ hg
      rw [hB] at hB'; cases hB'
      have hgo := run_getObj' (P := P) hb (by simp)
      split at h
      · rename_i es clock hgm
        obtain ⟨ents, hbm, hent⟩ := mapObj r hgm hBm
        have hgom := run_getObj' (P := P) hbm (by simp)
        cases hgone : goneK seen last es with
        | true => rw [hgone] at h; simp at h
        | false =>
          rw [hgone] at h; simp only [cond_false] at h
          have hnogone : ¬ ((!(seen.toArray).isEmpty && !ents.isEmpty && ents.all (·.born ≥ last)) = true) := by
            have e1 : ents.all (fun e => decide (e.born ≥ last)) = allNew last es := by rw [← Array.all_toList, allNew_ent last hent]
            unfold goneK at hgone
            intro hh
            simp only [Bool.and_eq_true, Bool.not_eq_true'] at hh
            obtain ⟨⟨a1, a2⟩, a3⟩ := hh
            rw [e1] at a3
            cases seen with
            | nil => simp at a1
            | cons _ _ =>
              cases es with
              | nil =>
                have := EntRel.length hent
                simp at this
                have : ents.isEmpty = true := by simpa [Array.isEmpty] using this.symm
                rw [this] at a2; cases a2
              | cons _ _ => simp only at hgone; rw [a3] at hgone; cases hgone
          have hleft := leftK_ent seen hent
          have hfl : (ents.filter fun e => !seen.toArray.contains e.born).toList = ents.toList.filter fun e => !seen.contains e.born := by simp
          cases hl : leftK seen es with
          | nil =>
            rw [hl] at h hleft; simp only [nmRes, Option.some.injEq, Prod.mk.injEq] at h
            obtain ⟨rfl, rfl⟩ := h
            simp only [EntRel] at hleft
            have hempty : (ents.filter fun e => !seen.toArray.contains e.born) = #[] := by apply Array.ext'; rw [hfl, hleft]
            refine ⟨.tuple #[.bool false], w, ?_, Step.refl r, hover⟩
            simp only [Instr.next, h0, Nat.add_zero, Sem.run_bind, hgo, Result.andThen_ok, hgom]
            rw [if_neg hnogone, hempty]
            simp [Question.forced]
          | cons p rest =>
            rw [hl] at h hleft
            cases rest with
            | cons _ _ => simp [nmRes] at h
            | nil =>
              simp only [nmRes] at h
              cases hlt : Nat.blt p.2.2 since with
              | false => rw [hlt] at h; simp at h
              | true =>
                rw [hlt] at h; simp only [cond_true, Option.some.injEq, Prod.mk.injEq] at h
                obtain ⟨rfl, rfl⟩ := h
                obtain ⟨e, es', heq, h1, h2, h3, h4⟩ := hleft
                simp only [EntRel] at h4; subst h4
                have hone : (ents.filter fun e => !seen.toArray.contains e.born) = #[e] := by apply Array.ext'; rw [hfl, heq]
                have hborn : e.born < since := by rw [h3]; exact blt_iff.1 hlt
                have hnge : ¬ since ≤ e.born := by omega
                refine ⟨.tuple #[.bool true, e.key, e.val], _, ?_, Step.setObj r hg hB hb (x' := .mapIter (some Bm.b) since (seen.toArray.push e.born) clock) ⟨h0, some Bm.b, ?_, Bm, hBm, rfl⟩, ?_⟩
                · simp only [Instr.next, h0, Nat.add_zero, Sem.run_bind, hgo, Result.andThen_ok, hgom]
                  rw [if_neg hnogone, hone]
                  simp [Question.forced, hborn, hnge, run_setObj' _ hb (by simp)]
                · rw [setIn hb]; simp [h3]
                · simp only [VR]
                  exact ⟨[.bool true, e.key, e.val], rfl, VRL.cons (by simp [VR]) (VRL.cons h1 (VRL.cons h2 (VRL.nil φ)))⟩
      · cases h
    · cases h
  · cases h

theorem lastN_eq : ∀ {l : List Nat} {b : Nat}, lastN l = some b → l.toArray.back? = some b
  | [], _, h => by simp [lastN] at h
  | [n], _, h => by simp [lastN] at h; subst h; rfl
  | n :: m :: r, b, h => by
    simp only [lastN] at h
    have := lastN_eq (l := m :: r) h
    simp only [List.back?_toArray] at this ⊢
    simpa using this

theorem findB_ent {φ : Phi} {b : Nat} : ∀ {l : List (AV × AV × Nat)} {es : List MapEntry} {p : AV × AV}, EntRel φ l es → findB b l = some p → ∃ e, es.find? (·.born == b) = some e ∧ VR φ p.1 e.key ∧ VR φ p.2 e.val
  | [], _, _, _, h => by simp [findB] at h
  | q :: l, _, p, h, hf => by
    obtain ⟨e, es', rfl, h1, h2, h3, h4⟩ := h
    simp only [findB, ← h3] at hf
    cases hb : Nat.beq e.born b with
    | true =>
      rw [hb] at hf; simp only [cond_true, Option.some.injEq] at hf; subst hf
      exact ⟨e, by simp [beq_iff.1 hb], h1, h2⟩
    | false =>
      rw [hb] at hf; simp only [cond_false] at hf
      obtain ⟨e', g1, g2⟩ := findB_ent h4 hf
      refine ⟨e', ?_, g2⟩
      have : (e.born == b) = false := by
        rw [beq_eq_false_iff_ne]; intro he; rw [beq_iff.2 he] at hb; cases hb
      rw [List.find?_cons, this]; exact g1

theorem en_sound {P : Program} {w0 : World} {φ : Phi} {s : St} {w : World} (r : Rel P w0 φ s.get w) {x v : AV} {x' : Value} (h : vEn s x = some v) (hx : VR φ x x') : ∃ y, (Instr.entry x').run P w = .ok y w ∧ VR φ v y := by
  unfold vEn at h
  split at h
  · rename_i id
    simp only [VR] at hx
    obtain ⟨B, hB, rfl⟩ := hx
    split at h
    · rename_i m since seen stepped hg
      obtain ⟨B', hB', h0, m', hb, Bm, hBm, rfl⟩ := r.obj id _ hg
      rw [hB] at hB'; cases hB'
      have hgo := run_getObj' (P := P) hb (by simp)
      cases hl : lastN seen with
      | none => rw [hl] at h; simp at h
      | some b =>
        rw [hl] at h; simp only at h
        split at h
        · rename_i es clock hgm
          obtain ⟨ents, hbm, hent⟩ := mapObj r hgm hBm
          have hgom := run_getObj' (P := P) hbm (by simp)
          cases hc : Nat.beq clock stepped with
          | false => rw [hc] at h; simp at h
          | true =>
            rw [hc] at h; simp only [cond_true] at h
            rw [beq_iff] at hc; subst hc
            cases hf : findB b es with
            | none => rw [hf] at h; simp [pairO] at h
            | some p =>
              rw [hf] at h; simp only [pairO, Option.some.injEq] at h; subst h
              obtain ⟨e, g1, g2, g3⟩ := findB_ent hent hf
              have g1' : ents.find? (·.born == b) = some e := by rw [← Array.find?_toList]; exact g1
              refine ⟨.tuple #[e.key, e.val], ?_, tup2 g2 g3⟩
              simp [Instr.entry, h0, hgo, lastN_eq hl, hgom, g1']
        · cases h
    · cases h
  · cases h

/-! ### len, cap, min, max -/
theorem len_sound {P : Program} {w0 : World} {φ : Phi} {s : St} {w : World} (r : Rel P w0 φ s.get w) {ts : Array TypeId} {ty t : TypeId} {k : LK} {x v : AV} {x' : Value} (hts : ts[0]? = some t)
    (hu : match k with | .s => P.underlying t = some .string | .v => ∃ e, P.underlying t = some (.slice e) | .m => ∃ k e, P.underlying t = some (.map k e))
    (h : vLen s k x = some v) (hx : VR φ x x') : ∃ y, (Builtin.len_ ts ty #[x']).run P w = .ok y w ∧ VR φ v y := by
  unfold vLen at h
  cases k with
  | s =>
    simp only at h hu
    split at h
    · cases h; simp only [VR] at hx; obtain ⟨b, rfl, rfl⟩ := hx
      exact ⟨_, by simp [Builtin.len_, hts, run_underlying' hu]; rfl, by simp only [VR, lenN_eq, nats_length]; rfl⟩
    · cases h
  | v =>
    simp only at h hu
    obtain ⟨e, hd⟩ := hu
    split at h
    · cases h; simp only [VR] at hx; subst hx
      exact ⟨_, by simp [Builtin.len_, hts, run_underlying' hd]; rfl, by simp only [VR]; rfl⟩
    · cases h; simp only [VR] at hx; obtain ⟨a, k, rfl⟩ := hx
      exact ⟨_, by simp [Builtin.len_, hts, run_underlying' hd]; rfl, by simp only [VR]; rfl⟩
    · cases h; simp only [VR] at hx; obtain ⟨B, k, hB, rfl, _⟩ := hx
      exact ⟨_, by simp [Builtin.len_, hts, run_underlying' hd]; rfl, by simp only [VR]; rfl⟩
    · cases h
  | m =>
    simp only at h hu
    obtain ⟨kt, e, hd⟩ := hu
    split at h
    · cases h; simp only [VR] at hx; subst hx
      exact ⟨_, by simp [Builtin.len_, hts, run_underlying' hd]; rfl, by simp only [VR]; rfl⟩
    · rename_i id
      simp only [VR] at hx; obtain ⟨B, hB, rfl⟩ := hx
      split at h
      · rename_i es clock hg
        cases h
        obtain ⟨ents, hb, hent⟩ := mapObj r hg hB
        have hgo := run_getObj' (P := P) hb (by simp)
        refine ⟨goInt ents.size, by simp [Builtin.len_, hts, run_underlying' hd, hgo], ?_⟩
        simp only [VR, lenN_eq, EntRel.length hent]; rfl
      · cases h
    · cases h

end Go.Proofs.YtoejmfiaaigpbaaGreatDoor.Ev

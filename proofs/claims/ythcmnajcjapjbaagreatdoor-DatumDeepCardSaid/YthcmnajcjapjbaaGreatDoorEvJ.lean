/- Part of a verified evaluator of the model's code, generic over the program: a run of the evaluator that answers shows what the model's run answers. No conditions of its own. -/
import Derived.Test.YthcmnajcjapjbaaGreatDoorEvH
import Derived.Test.YthcmnajcjapjbaaGreatDoorEvI
set_option linter.unusedSimpArgs false
set_option linter.unusedVariables false
set_option linter.defProp false
namespace Go.Proofs.YthcmnajcjapjbaaGreatDoor.Ev
open Go.RowKit (Below)
section
variable {φ φ1 : Phi} {ρ : Nat → Option Nat}
mutual
theorem renV_back (h : RenOk φ φ1 ρ) : ∀ {v v1 : AV} {x : Value}, renV ρ v = some v1 → VR φ1 v1 x → VR φ v x
  | .ptr id off, v1, x, hr, hv => by
    simp only [renV] at hr
    split at hr
    · rename_i j hj; cases hr; simp only [VR] at hv ⊢; rw [← h.m id j hj]; exact hv
    · cases hr
  | .sl id off len c, v1, x, hr, hv => by
    simp only [renV] at hr
    split at hr
    · rename_i j hj; cases hr; simp only [VR] at hv ⊢; rw [← h.m id j hj]; exact hv
    · cases hr
  | .map id, v1, x, hr, hv => by
    simp only [renV] at hr
    split at hr
    · rename_i j hj; cases hr; simp only [VR] at hv ⊢; rw [← h.m id j hj]; exact hv
    · cases hr
  | .yld id, v1, x, hr, hv => by
    simp only [renV] at hr
    split at hr
    · rename_i j hj; cases hr; simp only [VR] at hv ⊢; rw [← h.m id j hj]; exact hv
    · cases hr
  | .gr id e n cs, v1, x, hr, hv => by
    simp only [renV] at hr
    split at hr
    · rename_i j hj
      cases hr; simp only [VR] at hv ⊢; rw [← h.m id j hj]
      obtain ⟨h1, h2, h3, h4, B, ys, h5, h6, h7, h8, h9⟩ := hv
      exact ⟨h1, h2, h3, h4, B, ys, h5, h6, h7, h8.mono (fun _ _ _ t => by rw [← h.z]; exact t), VRL.pure (fun _ _ _ t => by rw [← h.z]; exact t) _ _ h1 h9⟩
    · cases hr
  | .fn f a c, v1, x, hr, hv => by
    simp only [renV] at hr
    split at hr
    · rename_i a' c' ha hc
      cases hr; simp only [VR] at hv ⊢
      obtain ⟨xs, ys, e, h1, h2⟩ := hv
      exact ⟨xs, ys, e, renC_back h ha h1, renC_back h hc h2⟩
    · cases hr
  | .ifc t v, v1, x, hr, hv => by
    simp only [renV] at hr
    split at hr
    · rename_i v' hv'
      cases hr; simp only [VR] at hv ⊢
      obtain ⟨y, e, h1⟩ := hv
      exact ⟨y, e, renV_back h hv' h1⟩
    · cases hr
  | .agg cs, v1, x, hr, hv => by
    simp only [renV] at hr
    split at hr
    · rename_i c' hc
      cases hr; simp only [VR] at hv ⊢
      obtain ⟨xs, e, h1⟩ := hv
      exact ⟨xs, e, renC_back h hc h1⟩
    · cases hr
  | .tup cs, v1, x, hr, hv => by
    simp only [renV] at hr
    split at hr
    · rename_i c' hc
      cases hr; simp only [VR] at hv ⊢
      obtain ⟨xs, e, h1⟩ := hv
      exact ⟨xs, e, renC_back h hc h1⟩
    · cases hr
  | .bool _, v1, x, hr, hv => by simp only [renV, Option.some.injEq] at hr; subst hr; simpa [VR] using hv
  | .int _ _, v1, x, hr, hv => by simp only [renV, Option.some.injEq] at hr; subst hr; simpa [VR] using hv
  | .str _, v1, x, hr, hv => by simp only [renV, Option.some.injEq] at hr; subst hr; simpa [VR] using hv
  | .nilp, v1, x, hr, hv => by simp only [renV, Option.some.injEq] at hr; subst hr; simpa [VR] using hv
  | .gptr _ _, v1, x, hr, hv => by simp only [renV, Option.some.injEq] at hr; subst hr; simpa [VR] using hv
  | .sl0, v1, x, hr, hv => by simp only [renV, Option.some.injEq] at hr; subst hr; simpa [VR] using hv
  | .nils, v1, x, hr, hv => by simp only [renV, Option.some.injEq] at hr; subst hr; simpa [VR] using hv
  | .nilm, v1, x, hr, hv => by simp only [renV, Option.some.injEq] at hr; subst hr; simpa [VR] using hv
  | .nilf, v1, x, hr, hv => by simp only [renV, Option.some.injEq] at hr; subst hr; simpa [VR] using hv
  | .nili, v1, x, hr, hv => by simp only [renV, Option.some.injEq] at hr; subst hr; simpa [VR] using hv
  | .lst n ex cs, v1, x, hr, hv => by
    simp only [renV, Option.some.injEq] at hr; subst hr
    exact VR.pure (fun _ _ _ t => by rw [← h.z]; exact t) _ _ rfl hv
  | .vp cs, v1, x, hr, hv => by
    simp only [renV, Option.some.injEq] at hr; subst hr
    exact VR.pure (fun _ _ _ t => by rw [← h.z]; exact t) _ _ rfl hv
theorem renC_back (h : RenOk φ φ1 ρ) : ∀ {l l1 : List AV} {xs : List Value}, renC ρ (pureL l) l = some l1 → VRL φ1 l1 xs → VRL φ l xs := fun {l l1 xs} hr hv => by
    unfold renC at hr
    cases hp : pureL l with
    | true =>
      rw [hp] at hr; simp only [cond_true, Option.some.injEq] at hr; subst hr
      exact VRL.pure (fun _ _ _ t => by rw [← h.z]; exact t) _ _ hp hv
    | false => rw [hp] at hr; simp only [cond_false] at hr; exact renL_back h hr hv
theorem renL_back (h : RenOk φ φ1 ρ) : ∀ {l l1 : List AV} {xs : List Value}, renL ρ l = some l1 → VRL φ1 l1 xs → VRL φ l xs
  | [], l1, xs, hr, hv => by simp only [renL, Option.some.injEq] at hr; subst hr; simpa [VRL] using hv
  | v :: r, l1, xs, hr, hv => by
    simp only [renL] at hr
    split at hr
    · rename_i v' r' h1 h2
      cases hr
      simp only [VRL] at hv
      obtain ⟨y, ys, rfl, h3, h4⟩ := hv
      exact VRL.cons (renV_back h h1 h3) (renL_back h h2 h4)
    · cases hr
end
theorem renO_shape' {ρ : Nat → Option Nat} {o o1 : AObj} (h : renO ρ o = some o1) : isApp o1 = isApp o ∧ (∀ B z, SepOf o1 B z → SepOf o B z) := by
  cases o <;> simp only [renO] at h
  case row e cells x fz =>
    split at h
    · cases h; exact ⟨rfl, fun _ _ t => t⟩
    · cases h
  case map es clock =>
    cases hp : pureE es <;> rw [hp] at h <;> simp at h
    subst h; exact ⟨rfl, fun _ _ t => t⟩
  case siter => cases h; exact ⟨rfl, fun _ _ t => t⟩
  case miter m since seen stepped =>
    cases m with
    | none => cases h; exact ⟨rfl, fun _ _ t => t⟩
    | some id =>
      simp only at h
      split at h
      · cases h; exact ⟨rfl, fun _ _ t => t⟩
      · cases h
  case loop => cases h
  case dfd => cases h; exact ⟨rfl, fun _ _ t => t⟩
  case dfd0 => cases h; exact ⟨rfl, fun _ _ t => t⟩
  case giv cells =>
    split at h
    · cases h; exact ⟨rfl, fun _ _ t => t⟩
    · cases h
  case app e cells =>
    cases hp : pureL cells <;> rw [hp] at h <;> simp at h
    subst h; exact ⟨rfl, fun _ _ t => t⟩
theorem renO_back {P : Program} (h : RenOk φ φ1 ρ) {w : World} {o o1 : AObj} {B : Blk} (hr : renO ρ o = some o1) (t : ObjRel P φ1 w o1 B) : ObjRel P φ w o B := by
  have hz : ∀ b o v, φ1.z b o = some v → φ.z b o = some v := fun _ _ _ t => by rw [← h.z]; exact t
  cases o <;> simp only [renO] at hr
  case row e cells x fz =>
    split at hr
    · rename_i cs hc
      cases hr
      have hl := renC_len hc
      simp only [ObjRel] at t ⊢
      obtain ⟨c, fr, h1, h2, h3, h4, h5, h6⟩ := t
      rw [hl] at h3 h4 h5
      exact ⟨c, fr, h1, h2, h3, h4, renC_back h hc h5, h6⟩
    · cases hr
  case map es clock =>
    cases hp : pureE es <;> rw [hp] at hr <;> simp at hr
    subst hr
    obtain ⟨ents, h1, h2⟩ := t
    exact ⟨ents, h1, h2.pure hz hp⟩
  case siter => cases hr; exact t
  case miter m since seen stepped =>
    cases m with
    | none => cases hr; exact t
    | some id =>
      simp only at hr
      split at hr
      · rename_i j hj
        cases hr
        simp only [ObjRel] at t ⊢
        obtain ⟨h0, m', h1, B', hB, e⟩ := t
        exact ⟨h0, m', h1, B', (h.m id j hj).symm.trans hB, e⟩
      · cases hr
  case loop => cases hr
  case dfd => cases hr; exact t
  case dfd0 => cases hr; exact t
  case giv cells =>
    split at hr
    · rename_i cs hc
      cases hr
      have hl := renC_len hc
      simp only [ObjRel] at t ⊢
      obtain ⟨c, e, fr, h1, h2, h3⟩ := t
      rw [hl] at h2 h3
      exact ⟨c, e, fr, h1, h2, renC_back h hc h3⟩
    · cases hr
  case app e cells =>
    cases hp : pureL cells <;> rw [hp] at hr <;> simp at hr
    subst hr
    obtain ⟨c, fr, h1, h2, h3, h4, h5⟩ := t
    exact ⟨c, fr, h1, h2, h3, VRL.pure hz _ _ hp h4, h5⟩
end
def iot (ids : List Nat) (i : Nat) : Option Nat := ids[i]?
def iot' (ids : List Nat) (n k : Nat) (i : Nat) : Option Nat := if i < ids.length then ids[i]? else if i < k then some (n + (i - ids.length)) else none
structure Emb (s s' : St) (ids : List Nat) (os : List (Option AObj)) (M : Nat) : Prop where
  ext : Ext s s'
  len : ids.length ≤ os.length
  next : s'.next = s.next + (os.length - ids.length)
  old : ∀ id, id < s.next → (∀ i, ids[i]? = some id → M.testBit i = false) → ∀ o, s'.get id = some o ↔ s.get id = some o
  own : ∀ i id, ids[i]? = some id → M.testBit i = true → ∀ o1, s'.get id = some o1 → ∃ o, getO os i = some o ∧ renO (iot' ids s.next os.length) o = some o1
  new : ∀ j, ids.length ≤ j → j < os.length → ∀ o1, s'.get (s.next + (j - ids.length)) = some o1 → ∃ o, getO os j = some o ∧ renO (iot' ids s.next os.length) o = some o1
  bit : ∀ i id, ids[i]? = some id → M.testBit i = true → s'.wm.testBit id = true
theorem SC.emb {P : Program} {w0 : World} {f : Nat} {args args' : List AV} {v v' : AV} {os os' : List (Option AObj)} {b b' : Bool} {M : Nat} {s s' : St} {ids : List Nat} (h : SC P w0 f args (H os 0 b) v (H os' M b'))
    (hl : ids.length = os.length) (hnd : ids.Nodup) (hos : ∀ i id, ids[i]? = some id → ∃ o o1, getO os i = some o ∧ renO (iot ids) o = some o1 ∧ s.get id = some o1)
    (ha : renL (iot ids) args = some args') (hv : renV (iot' ids s.next os'.length) v = some v') (he : Emb s s' ids os' M) : SC P w0 f args' s v' s' := by
  refine ⟨h.1, fun φ w xs rl hwf hf hx F k hF => ?_⟩
  obtain ⟨φc, hφc⟩ : ∃ φc : Phi, φc = ⟨fun i => match ids[i]? with | some k => φ k | none => none, φ.z⟩ := ⟨_, rfl⟩
  have pc : ∀ i id, ids[i]? = some id → φc i = φ id := fun i id hi => by rw [hφc]; show (match ids[i]? with | some k => φ k | none => none) = _; rw [hi]
  have pn : ∀ i, ids[i]? = none → φc i = none := fun i hi => by rw [hφc]; show (match ids[i]? with | some k => φ k | none => none) = _; rw [hi]
  have pz : φc.z = φ.z := by rw [hφc]
  have hren : RenOk φc φ (iot ids) := ⟨fun i id hi => (pc i id hi).symm, pz.symm⟩
  have idlt : ∀ i id, ids[i]? = some id → id < s.next := fun i id hi => by
    obtain ⟨o, o1, _, _, hg⟩ := hos i id hi
    exact hwf.lt id o1 (get_some hg)
  have src0 : ∀ i o, (H os 0 b).get i = some o → ∃ id o1, ids[i]? = some id ∧ renO (iot ids) o = some o1 ∧ s.get id = some o1 := fun i o ho => by
    rw [H_get] at ho
    have hlt := getO_lt ho
    have hi : ids[i]? = some (ids[i]'(by omega)) := List.getElem?_eq_getElem (by omega)
    obtain ⟨o', o1, q1, q2, q3⟩ := hos i _ hi
    rw [ho] at q1; cases q1
    exact ⟨_, o1, hi, q2, q3⟩
  have r0 : Rel P w0 φc (H os 0 b).get w := by
    refine ⟨rl.base, fun i o ho => ?_, fun i B hB => ?_, fun i o B ho hB hlt => ?_, fun i j o o' B1 B2 h1 h2 q1 q2 q3 => ?_, fun b' i u hu => ?_, fun i o B ho hB => ?_⟩
    · obtain ⟨id, o1, h1, h2, h3⟩ := src0 i o ho
      obtain ⟨B, hB, t⟩ := rl.obj id o1 h3
      exact ⟨B, (pc i id h1).trans hB, renO_back hren h2 t⟩
    · cases hi : ids[i]? with
      | none => rw [pn i hi] at hB; cases hB
      | some id => rw [pc i id hi] at hB; exact rl.rng id B hB
    · obtain ⟨id, o1, h1, h2, h3⟩ := src0 i o ho
      rw [← (renO_shape h2).1]; exact rl.old id o1 B h3 (by rw [← pc i id h1]; exact hB) hlt
    · obtain ⟨id, o1, g1, _, g3⟩ := src0 i o h1
      obtain ⟨id', o1', g1', _, g3'⟩ := src0 j o' h2
      rcases rl.inj id id' o1 o1' B1 B2 g3 g3' (by rw [← pc i id g1]; exact q1) (by rw [← pc j id' g1']; exact q2) q3 with e | e
      · subst e; exact .inl (nodup_inj hnd g1 g1')
      · exact .inr e
    · rw [pz] at hu; exact rl.frz b' i u hu
    · obtain ⟨id, o1, h1, h2, h3⟩ := src0 i o ho
      rw [pz]; exact (renO_shape' h2).2 B _ (rl.sep id o1 B h3 (by rw [← pc i id h1]; exact hB))
  have hf0 : ∀ i, os.length ≤ i → φc i = none := fun i hi => pn i (List.getElem?_eq_none (by omega))
  have hcall := h.2 φc w xs r0 (H_wf _ _ _) (fun i hi => hf0 i hi) (renL_back hren ha hx) F k hF
  refine CallsIn.mono hcall ?_
  rintro e1 w1 ⟨φ1, x, rfl, k1, k2⟩
  obtain ⟨φ', hφ'⟩ : ∃ φ' : Phi, φ' = ⟨fun id => if id < s.next then φ id else if id < s'.next then φ1 (ids.length + (id - s.next)) else none, φ1.z⟩ := ⟨_, rfl⟩
  have d1 : ∀ id, id < s.next → φ' id = φ id := fun id hid => by rw [hφ']; exact if_pos hid
  have d2 : ∀ id, s.next ≤ id → id < s'.next → φ' id = φ1 (ids.length + (id - s.next)) := fun id h1 h2 => by rw [hφ']; show (if id < s.next then φ id else _) = _; rw [if_neg (by omega), if_pos h2]
  have d3 : ∀ id, s'.next ≤ id → φ' id = none := fun id h1 => by
    have := he.next
    rw [hφ']; show (if id < s.next then φ id else _) = _; rw [if_neg (by omega), if_neg (by omega)]
  have dz : φ'.z = φ1.z := by rw [hφ']
  have sm : ∀ i id, ids[i]? = some id → φ1 i = φ id := fun i id hi => by
    have hlt : i < os.length := by
      have := (List.getElem?_eq_some_iff.1 hi).1; omega
    exact (k1.same i (.inl hlt)).trans (pc i id hi)
  have hn := he.next
  have hln := he.len
  have ren1 : RenOk φ1 φ' (iot' ids s.next os'.length) := ⟨fun i id hi => by
    unfold iot' at hi
    by_cases h1 : i < ids.length
    · rw [if_pos h1] at hi
      rw [d1 id (idlt i id hi), sm i id hi]
    · rw [if_neg h1] at hi
      by_cases h2 : i < os'.length
      · rw [if_pos h2] at hi; cases hi
        rw [d2 _ (by omega) (by omega)]
        congr 1; omega
      · rw [if_neg h2] at hi; exact absurd hi (by simp), dz⟩
  have hfrm : ∀ b', b' < w.heap.size → (∀ i id B, ids[i]? = some id → M.testBit i = true → φ id = some B → B.b ≠ b') → w1.heap[b']? = w.heap[b']? := fun b' hb' hq => k1.frame b' hb' fun i o B ho hB hbe => by
    obtain ⟨id, o1, g1, _, _⟩ := src0 i o ho
    cases hM : M.testBit i with
    | false => exact hM
    | true => exact absurd hbe (hq i id B g1 hM (by rw [← pc i id g1]; exact hB))
  have hz : ∀ b' i u, φ1.z b' i = some u → φ.z b' i = some u ∨ w.heap.size ≤ b' ∨ ∃ j id o B, ids[j]? = some id ∧ s.get id = some o ∧ φ id = some B ∧ B.b = b' ∧ M.testBit j = true := fun b' i u hu => by
    rcases k1.zown b' i u hu with h1 | h1 | ⟨j, o0, B0, q1, q2, q3, q4⟩
    · rw [pz] at h1; exact .inl h1
    · exact .inr (.inl h1)
    · obtain ⟨id, o1, g1, _, g3⟩ := src0 j o0 q1
      exact .inr (.inr ⟨j, id, o1, B0, g1, g3, by rw [← pc j id g1]; exact q2, q3, q4⟩)
  have hzs : ∀ b' i u, φ.z b' i = some u → φ1.z b' i = some u := fun b' i u hu => k1.zsub b' i u (by rw [pz]; exact hu)
  have apart : ∀ id o B, s.get id = some o → φ id = some B → (∀ i, ids[i]? = some id → M.testBit i = false) → ∀ i id' B', ids[i]? = some id' → M.testBit i = true → φ id' = some B' → B'.b ≠ B.b := fun id o B hg hB hq i id' B' hi hM hB' heq => by
    obtain ⟨o', o1, g1, g2, g3⟩ := hos i id' hi
    rcases rl.inj id' id o1 o B' B g3 hg hB' hB heq with e | e
    · subst e; rw [hq i hi] at hM; cases hM
    · have hgv := rl.old id' o1 B' g3 hB' e
      rw [(renO_shape g2).1] at hgv
      have h9 := k1.ext.giv i o' (by show i < os.length; exact getO_lt g1) (by rw [H_objs]; exact g1) hgv hM
      have : (0 : Nat).testBit i = true := h9
      simp at this
  have hsub : Sub φ φ' := ⟨fun id B hB => by
    have hlt : id < s.next := by
      apply Nat.lt_of_not_le; intro hle; rw [hf id hle] at hB; cases hB
    rw [d1 id hlt]; exact hB, fun b' i u hu => by rw [dz]; exact hzs b' i u hu⟩
  have hwf' := he.ext.wf hwf
  have src : ∀ id o, s'.get id = some o → (id < s.next ∧ s.get id = some o ∧ (∀ i, ids[i]? = some id → M.testBit i = false)) ∨ (∃ j o0, getO os' j = some o0 ∧ renO (iot' ids s.next os'.length) o0 = some o ∧ φ' id = φ1 j ∧ ((id < s.next ∧ ids[j]? = some id ∧ M.testBit j = true) ∨ (s.next ≤ id ∧ ids.length ≤ j ∧ id = s.next + (j - ids.length)))) := fun id o ho => by
    by_cases hid : id < s.next
    · by_cases hex : ∃ i, ids[i]? = some id ∧ M.testBit i = true
      · obtain ⟨i, h1, h2⟩ := hex
        obtain ⟨o0, g1, g2⟩ := he.own i id h1 h2 o ho
        exact .inr ⟨i, o0, g1, g2, by rw [d1 id hid, sm i id h1], .inl ⟨hid, h1, h2⟩⟩
      · have hq : ∀ i, ids[i]? = some id → M.testBit i = false := fun i hi => by
          cases hM : M.testBit i with
          | false => rfl
          | true => exact absurd ⟨i, hi, hM⟩ hex
        exact .inl ⟨hid, (he.old id hid hq o).1 ho, hq⟩
    · have hlt := hwf'.lt id o (get_some ho)
      have e1 : id = s.next + ((ids.length + (id - s.next)) - ids.length) := by omega
      obtain ⟨o0, g1, g2⟩ := he.new (ids.length + (id - s.next)) (by omega) (by omega) o (by rw [← e1]; exact ho)
      exact .inr ⟨_, o0, g1, g2, d2 id (by omega) hlt, .inr ⟨by omega, by omega, e1⟩⟩
  have zsame : ∀ id o B, s.get id = some o → φ id = some B → (∀ i, ids[i]? = some id → M.testBit i = false) → ∀ i, φ'.z B.b i = φ.z B.b i := fun id o B hg hB hq i => by
    rw [dz]
    cases h1 : φ1.z B.b i with
    | none =>
      cases h2 : φ.z B.b i with
      | none => rfl
      | some u => rw [hzs _ _ _ h2] at h1; cases h1
    | some u =>
      rcases hz _ _ _ h1 with h2 | h2 | ⟨j, id', o', B', g1, g2, g3, g4, g5⟩
      · exact h2.symm
      · have := rl.rng id B hB; omega
      · exact absurd g4 (apart id o B hg hB hq j id' B' g1 g5 g3)
  have gc' : ∀ j o0, getO os' j = some o0 → (H os' M b').get j = some o0 := fun j o0 hj => by rw [H_get]; exact hj
  have mix : ∀ i (oi : AObj) Bi j (oj : AObj) Bj c, (i < s.next ∧ s.get i = some oi ∧ ∀ k, ids[k]? = some i → M.testBit k = false) → φ' i = some Bi → φ' j = φ1 c → ((j < s.next ∧ ids[c]? = some j ∧ M.testBit c = true) ∨ (s.next ≤ j ∧ ids.length ≤ c ∧ j = s.next + (c - ids.length))) → φ' j = some Bj → Bi.b = Bj.b → False := by
    rintro i oi Bi j oj Bj c ⟨h1, h2, h3⟩ hBi g3 g4 hBj heq
    rw [d1 i h1] at hBi
    rw [g3] at hBj
    rcases g4 with ⟨g5, g6, g7⟩ | ⟨g5, g6, g7⟩
    · rw [sm c j g6] at hBj
      exact apart i oi Bi h2 hBi h3 c j Bj g6 g7 hBj heq.symm
    · have hc2 : c < (H os' M b').next := by
        apply Nat.lt_of_not_le; intro hle
        have : φ1 c = none := (k1.same c (.inr hle)).trans (hf0 c (by have : os'.length ≤ c := hle; omega))
        rw [this] at hBj; cases hBj
      rcases k1.own c Bj (by show os.length ≤ c; omega) hc2 hBj with e | ⟨m, o0, B0, q1, q2, q3, q4⟩
      · have := rl.rng i Bi hBi; omega
      · obtain ⟨id', o1, f1, _, f3⟩ := src0 m o0 q1
        exact apart i oi Bi h2 hBi h3 m id' B0 f1 q4 (by rw [← pc m id' f1]; exact q2) (q3.trans heq.symm)
  refine ⟨φ', x, rfl, ⟨he.ext, ⟨k1.rel.base, ?_, ?_, ?_, ?_, ?_, ?_⟩, ?_, k1.size, ?_, ?_, ?_, ?_⟩, renV_sound ren1 hv k2⟩
  · intro id o ho
    rcases src id o ho with ⟨h1, h2, h3⟩ | ⟨j, o0, h1, h2, h3, _⟩
    · obtain ⟨B, hB, t⟩ := rl.obj id o h2
      exact ⟨B, (d1 id h1).trans hB, t.keep hsub (hfrm _ (rl.rng id B hB) fun i id' B' q1 q2 q3 => apart id o B h2 hB h3 i id' B' q1 q2 q3)⟩
    · obtain ⟨B, hB, t⟩ := k1.rel.obj j o0 (gc' j o0 h1)
      exact ⟨B, h3.trans hB, renO_sound ren1 h2 t⟩
  · intro id B hB
    by_cases h1 : id < s.next
    · rw [d1 id h1] at hB; have := rl.rng id B hB; have := k1.size; omega
    · by_cases h2 : id < s'.next
      · rw [d2 id (by omega) h2] at hB; exact k1.rel.rng _ B hB
      · rw [d3 id (by omega)] at hB; cases hB
  · intro id o B ho hB hlt
    rcases src id o ho with ⟨h1, h2, h3⟩ | ⟨j, o0, h1, h2, h3, _⟩
    · exact rl.old id o B h2 (by rw [← d1 id h1]; exact hB) hlt
    · rw [(renO_shape h2).1]; exact k1.rel.old j o0 B (gc' j o0 h1) (by rw [← h3]; exact hB) hlt
  · intro i j oi oj Bi Bj hi hj hBi hBj heq
    rcases src i oi hi with ⟨h1, h2, h3⟩ | ⟨a, o0, h1, h2, h3, h4⟩ <;> rcases src j oj hj with ⟨g1, g2, g3⟩ | ⟨c, o0', g1, g2, g3, g4⟩
    · exact rl.inj i j oi oj Bi Bj h2 g2 (by rw [← d1 i h1]; exact hBi) (by rw [← d1 j g1]; exact hBj) heq
    · exact (mix i oi Bi j oj Bj c ⟨h1, h2, h3⟩ hBi g3 g4 hBj heq).elim
    · exact (mix j oj Bj i oi Bi a ⟨g1, g2, g3⟩ hBj h3 h4 hBi heq.symm).elim
    · rcases k1.rel.inj a c o0 o0' Bi Bj (gc' a o0 h1) (gc' c o0' g1) (by rw [← h3]; exact hBi) (by rw [← g3]; exact hBj) heq with e | e
      · subst e
        left
        rcases h4 with ⟨q1, q2, _⟩ | ⟨q1, q2, q3⟩ <;> rcases g4 with ⟨r1, r2, _⟩ | ⟨r1, r2, r3⟩
        · rw [q2] at r2; cases r2; rfl
        · have := (List.getElem?_eq_some_iff.1 q2).1; omega
        · have := (List.getElem?_eq_some_iff.1 r2).1; omega
        · omega
      · exact .inr e
  · intro b' i u hu
    rw [dz] at hu; exact k1.rel.frz b' i u hu
  · intro id o B ho hB
    rcases src id o ho with ⟨h1, h2, h3⟩ | ⟨j, o0, h1, h2, h3, _⟩
    · have hB' : φ id = some B := by rw [← d1 id h1]; exact hB
      exact (rl.sep id o B h2 hB').congr (zsame id o B h2 hB' h3)
    · rw [dz]; exact (renO_shape h2).2 B _ (k1.rel.sep j o0 B (gc' j o0 h1) (by rw [← h3]; exact hB))
  · intro id hid
    rcases hid with hid | hid
    · exact d1 id hid
    · rw [d3 id hid]; exact (hf id (by have := he.ext.next; omega)).symm
  · intro b' hb' hq
    refine hfrm b' hb' fun i id B q1 q2 q3 q4 => ?_
    obtain ⟨o, o1, _, _, g3⟩ := hos i id q1
    have h9 := hq id o1 B g3 q3 q4
    rw [he.bit i id q1 q2] at h9; cases h9
  · intro id B h1 h2 hB
    rw [d2 id h1 h2] at hB
    rcases k1.own (ids.length + (id - s.next)) B (by show os.length ≤ _; omega) (by show _ < os'.length; omega) hB with h3 | ⟨j, o0, B0, q1, q2, q3, q4⟩
    · exact .inl h3
    · obtain ⟨id', o1, g1, _, g3⟩ := src0 j o0 q1
      exact .inr ⟨id', o1, B0, g3, by rw [← pc j id' g1]; exact q2, q3, he.bit j id' g1 q4⟩
  · intro b' i u hu; rw [dz]; exact hzs b' i u hu
  · intro b' i u hu
    rw [dz] at hu
    rcases hz b' i u hu with h1 | h1 | ⟨j, id, o, B, g1, g2, g3, g4, g5⟩
    · exact .inl h1
    · exact .inr (.inl h1)
    · exact .inr (.inr ⟨id, o, B, g2, g3, g4, he.bit j id g1 g5⟩)
open Go.RowKit (Below)
def FinK (E : Env) (c : St) (M : Nat) (keep : List Nat) (res : List RV) (v : AV) (c' : St) (r : Res) (fr : Fr) (s : St) : Prop :=
  (r = .norm ∨ r = .ret) ∧ ∃ s2 vs v0 fr1, takeMarks s fr.df = some s2 ∧ resV E.globs fr.tm s2 res = some vs ∧ frzA c.next (oneOrTup vs) = some v0 ∧ v = wkV v0 ∧ gcF true c M keep [] c.md { tm := .leaf, df := [] } s2 = some (fr1, c')
theorem sc_of_bodyK {P : Program} {w0 : World} {E : Env} {O : Orc} (hO : OrcOk P w0 O) (hm : P.follows .mixedOrders = true) (hG : GlobRel E.globs w0) (hE : EnvOk P E) {f : Nat} {F : IFunc} {args : List AV} {c : St} {v : AV} {c' : St} (M : Nat)
    (hF : E.funs.get f = some F) (hle : args.length ≤ F.ntmps) (hh : c.hide = []) (ho : c.only = none) (hw : c.wm = 0) (hM : ∀ i, M.testBit i = true → i < c.next ∧ ∃ o, c.objs.get i = some o ∧ isGiv o = false)
    (H : ∀ C : Cx, CxOk C → C.E = E → C.O = O → C.rd = none → C.s = c → C.M = M → Tri C F.body { tm := setArgs .leaf 0 args, df := [] } c (fun r fr s => ∃ keep, FinK E c M keep F.res v c' r fr s)) : SC P w0 f args c v c' := by
  obtain ⟨fn, hfn, hcf⟩ := hE f F hF
  unfold cFunc at hcf
  split at hcf
  · cases hcf
  · rename_i cd hbody
    split at hcf
    · rename_i ib rs hb hrs
      cases hnm : (fn.name != "runtime.NumGoroutine") with
      | false => rw [hnm] at hcf; simp at hcf
      | true =>
        rw [hnm] at hcf; simp only [cond_true, Option.some.injEq] at hcf; subst hcf
        have hnm' : (fn.name == "runtime.NumGoroutine") = false := by simpa [bne] using hnm
        refine ⟨⟨fn, hfn, by rw [hbody]; rfl, hnm'⟩, ?_⟩
        intro φ w xs r hwf hf hx Fe n hFe
        have ok : CxOk ⟨P, w0, E, O, fn.ntmps, none, φ, c, w, M⟩ :=
          ⟨hO, hm, hG, hE, r, hwf, hf, hh, ho, fun i hi => by rw [show (⟨P, w0, E, O, fn.ntmps, none, φ, c, w, M⟩ : Cx).s.wm = 0 from hw] at hi; simp at hi, hM⟩
        have hat : At ⟨P, w0, E, O, fn.ntmps, none, φ, c, w, M⟩ φ c w := ⟨Step.refl r, hf⟩
        have hxl : xs.length ≤ fn.ntmps := by rw [← VRL.length hx]; exact hle
        have hfr : FrRel φ fn.ntmps { tm := setArgs .leaf 0 args, df := [] } { tmps := xs.toArray ++ Array.replicate (fn.ntmps - xs.toArray.size) undef, defers := [] } :=
          ⟨setArgs_rel hx _, by simp; omega, rfl⟩
        have hFp : Wide Fe.plain := ⟨hFe.fn, hFe.depth⟩
        have ht := H _ ok rfl rfl rfl rfl rfl
        have key : CallsIn Fe.plain n P f xs.toArray w (RetQ P w0 φ c w v c') := by
          refine callsIn_of_wp_marks hfn hbody (hFe.fn f) (wpIn_mono (ht cd hb φ w _ hat hfr Fe.plain n hFp (fun _ => rfl)) ?_)
          rintro e a' w' ⟨res, fr', s1, φ1, rfl, k1, k2, keep, hor, s2, vs, v0, fr1, q1, q2, q3, hvv, q4⟩
          have hleave : LeavesInM Fe.plain n P fn a'.tmps (RetQ P w0 φ c w v c') a'.defers .returning w' := by
            refine marks_tri ok q1 k2.df k1 fun w2 k3 => ?_
            have hre : resE E.globs fr'.tm s2 rs = some (oneOrTup vs, s2) := by unfold resE; rw [q2]
            have hrel : Rel P w0 φ1 s2.get w2 := k3.st.rel
            obtain ⟨_, x, k4, k5⟩ := results_sound hG hrel k2.tm hrs hre
            obtain ⟨φ2, g1, _, gz⟩ := gc_sound' ok (fr := { tm := .leaf, df := [] }) q4 k3 (a := { tmps := a'.tmps, defers := [] }) ⟨fun i v hv => by simp [Trie.get] at hv, k2.size, rfl⟩
            refine ⟨x, k4, φ2, x, rfl, g1.st, ?_⟩
            refine hvv ▸ wkV_sound (frzA_sound (φ := φ1) (φ2 := φ2) (fun b o u hu => by rw [gz]; exact hu) (fun id hid => ?_) q3 k5)
            exact (g1.st.same id (.inl hid)).trans (k3.st.same id (.inl hid)).symm
          rcases hor with rfl | rfl
          · exact hleave
          · exact hleave
        exact key
    · cases hcf
theorem Is.scK {P : Program} {w0 : World} {E : Env} {O : Orc} (hO : OrcOk P w0 O) (hm : P.follows .mixedOrders = true) (hG : GlobRel E.globs w0) (hE : EnvOk P E) {f : Nat} {F : IFunc} {args : List AV} {os : List (Option AObj)} {b : Bool} {v : AV} {c' : St} (M : Nat)
    (hF : E.funs.get f = some F) (hle : args.length ≤ F.ntmps) (hM : ∀ i, M.testBit i = true → ∃ o, getO os i = some o ∧ isGiv o = false)
    (h : ∀ C : Cx, Is C E O (H os 0 b) M → Tri C F.body { tm := setArgs (tmL []) 0 args, df := [] } (H os 0 b) (fun r fr s => ∃ keep, FinK E (H os 0 b) M keep F.res v c' r fr s)) : SC P w0 f args (H os 0 b) v c' :=
  sc_of_bodyK hO hm hG hE M hF hle rfl rfl rfl (fun i hi => by
    obtain ⟨o, h1, h2⟩ := hM i hi
    exact ⟨getO_lt h1, o, by rw [H_objs]; exact h1, h2⟩) fun C ok h1 h2 h3 h4 h5 => h C ⟨ok, h1, h2, h3, h4, h5⟩
theorem finK_of {E : Env} {c : St} {M : Nat} {res : List RV} {v : AV} {c' : St} {r : Res} {fr : Fr} {s s2 : St} {vs : List AV} {v0 : AV} (keep : List Nat) (h0 : r = .norm ∨ r = .ret) (h1 : takeMarks s fr.df = some s2) (h2 : resV E.globs fr.tm s2 res = some vs) (h3 : frzA c.next (oneOrTup vs) = some v0) (h4 : wkV v0 = v) (h5 : gcF true c M keep [] c.md { tm := tmL [], df := [] } s2 = some ({ tm := tmL [], df := [] }, c')) : ∃ keep, FinK E c M keep res v c' r fr s :=
  ⟨keep, h0, s2, vs, v0, _, h1, h2, h3, h4.symm, h5⟩
mutual
theorem renV_pure (ρ : Nat → Option Nat) : ∀ {v : AV}, pureA v = true → renV ρ v = some v
  | .ifc t v, h => by simp only [pureA] at h; simp only [renV, renV_pure ρ h]
  | .fn f a c, h => by
    simp only [pureA, Bool.and_eq_true] at h
    simp only [renV, renC, h.1, h.2, cond_true]
  | .agg cs, h => by simp only [pureA] at h; simp only [renV, renC, h, cond_true]
  | .tup cs, h => by simp only [pureA] at h; simp only [renV, renC, h, cond_true]
  | .ptr _ _, h | .sl _ _ _ _, h | .map _, h | .yld _, h | .gr _ _ _ _, h => by simp [pureA] at h
  | .bool _, _ | .int _ _, _ | .str _, _ | .nilp, _ | .gptr _ _, _ | .sl0, _ | .nils, _ | .nilm, _ | .nilf, _ | .nili, _ | .lst _ _ _, _ | .vp .., _ => by simp only [renV]
end
theorem renL_pure (ρ : Nat → Option Nat) : ∀ {l : List AV}, pureL l = true → renL ρ l = some l
  | [], _ => by simp only [renL]
  | v :: r, h => by
    simp only [pureL_cons, Bool.and_eq_true] at h
    simp only [renL, renV_pure ρ h.1, renL_pure ρ h.2]
def wrow (tw id j n : Nat) (disp : Bool) : AObj := .row tw [.ptr id 0, .sl j 0 n (.opn 1), .bool disp] false false
def brow (tb : Nat) (out : List Nat) : AObj := .row tb (bytesV out) true false
noncomputable def newW (tw tb : Nat) (s : St) (id j : Nat) (out : List Nat) (disp : Bool) : St := ((s.put id (wrow tw id s.next out.length disp)).del j).alloc (brow tb out)
structure IsW {α : Type} (tw tb : Nat) (enc : α → List AV) (Pre : α → List Nat → Bool → Prop) (args : List AV) (s : St) (id j : Nat) (x : α) (out : List Nat) (disp : Bool) : Prop where
  a : ∃ r, args = .ptr id 0 :: r ∧ enc x = wkL r
  ne : id ≠ j
  hi : id < s.next
  hj : j < s.next
  w : s.get id = some (wrow tw id j out.length disp)
  b : s.get j = some (brow tb out)
  p : Pre x out disp
open Classical in
noncomputable def orcW {α : Type} (tw tb : Nat) (enc : α → List AV) (Pre : α → List Nat → Bool → Prop) (F : α → Bool → List Nat) (args : List AV) (s : St) : Option (AV × St) :=
  if h : ∃ q : Nat × Nat × α × List Nat × Bool, IsW tw tb enc Pre args s q.1 q.2.1 q.2.2.1 q.2.2.2.1 q.2.2.2.2 then
    some (.tup [], newW tw tb s (Classical.choose h).1 (Classical.choose h).2.1 ((Classical.choose h).2.2.2.1 ++ F (Classical.choose h).2.2.1 (Classical.choose h).2.2.2.2) (Classical.choose h).2.2.2.2)
  else none
section
variable {α : Type} {tw tb : Nat} {enc : α → List AV} {Pre : α → List Nat → Bool → Prop} {F : α → Bool → List Nat}
theorem IsW.uniq (inj : ∀ x y, enc x = enc y → x = y) {args : List AV} {s : St} {id j id' j' : Nat} {x x' : α} {out out' : List Nat} {disp disp' : Bool} (h : IsW tw tb enc Pre args s id j x out disp) (h' : IsW tw tb enc Pre args s id' j' x' out' disp') : id' = id ∧ j' = j ∧ x' = x ∧ out' = out ∧ disp' = disp := by
  obtain ⟨r, ha, he⟩ := h.a
  obtain ⟨r', ha', he'⟩ := h'.a
  rw [ha] at ha'
  simp only [List.cons.injEq, AV.ptr.injEq, and_true] at ha'
  obtain ⟨rfl, rfl⟩ := ha'
  have hw := h.w.symm.trans h'.w
  simp only [wrow, Option.some.injEq, AObj.row.injEq, List.cons.injEq, AV.sl.injEq, AV.bool.injEq, and_true, true_and] at hw
  obtain ⟨⟨rfl, _⟩, rfl⟩ := hw
  have hb := h.b.symm.trans h'.b
  simp only [brow, Option.some.injEq, AObj.row.injEq, and_true, true_and] at hb
  exact ⟨rfl, rfl, inj _ _ (he'.trans he.symm), (bytesV_inj hb).symm, rfl⟩
theorem orcW_eq (inj : ∀ x y, enc x = enc y → x = y) {args : List AV} {s : St} {id j : Nat} {x : α} {out : List Nat} {disp : Bool} (h : IsW tw tb enc Pre args s id j x out disp) : orcW tw tb enc Pre F args s = some (.tup [], newW tw tb s id j (out ++ F x disp) disp) := by
  have hx : ∃ q : Nat × Nat × α × List Nat × Bool, IsW tw tb enc Pre args s q.1 q.2.1 q.2.2.1 q.2.2.2.1 q.2.2.2.2 := ⟨(id, j, x, out, disp), h⟩
  unfold orcW
  rw [dif_pos hx]
  obtain ⟨e1, e2, e3, e4, e5⟩ := h.uniq inj (Classical.choose_spec hx)
  rw [e1, e2, e3, e4, e5]
theorem put_get_ne {s : St} {id j : Nat} {o o' : AObj} (hne : id ≠ j) (h : s.get j = some o) : (s.put id o').get j = some o := by
  rw [get_eq, seen_congr (s := s) (s' := s.put id o') rfl rfl, seen_of_get h, if_pos rfl]
  exact (Trie.get_set_ne _ _ (Ne.symm hne)).trans (get_some h)
theorem newW_ext {s : St} {id j : Nat} {out out' : List Nat} {disp : Bool} (hne : id ≠ j) (hw : s.get id = some (wrow tw id j out.length disp)) (hb : s.get j = some (brow tb out)) : Ext s (newW tw tb s id j out' disp) :=
  ((ext_putg hw).trans (ext_delg (put_get_ne hne hb))).trans (ext_alloc _ _)
theorem newW_get {s : St} {id j : Nat} {out' : List Nat} {disp : Bool} (i : Nat) : (newW tw tb s id j out' disp).get i = if seen s i then (if i = s.next then some (brow tb out') else if i = j then none else if i = id then some (wrow tw id s.next out'.length disp) else s.objs.get i) else none := by
  rw [get_eq, seen_congr (s := s) (s' := newW tw tb s id j out' disp) rfl rfl]
  congr 1
  show (((s.objs.set id _).del j).set s.next _).get i = _
  rw [Trie.get_set, Trie.get_del, Trie.get_set]
theorem wrow_ren {ρ : Nat → Option Nat} {tw id j n a b : Nat} {disp : Bool} (h1 : ρ id = some a) (h2 : ρ j = some b) : renO ρ (wrow tw id j n disp) = some (wrow tw a b n disp) := by
  have hp : pureL [AV.ptr id 0, .sl j 0 n (.opn 1), .bool disp] = false := rfl
  simp only [renO, wrow, hp, renC, cond_false, renL, renV, h1, h2]
theorem brow_ren {ρ : Nat → Option Nat} {tb : Nat} {out : List Nat} : renO ρ (brow tb out) = some (brow tb out) := by
  simp only [renO, brow, renC, pureL_bytes, cond_true]
theorem orcW_ext (args : List AV) (s : St) (v : AV) (s' : St) (h : orcW tw tb enc Pre F args s = some (v, s')) : Ext s s' := by
  unfold orcW at h
  split at h
  · rename_i hx
    cases h
    have hs := Classical.choose_spec hx
    exact newW_ext hs.ne hs.w hs.b
  · cases h
theorem knownW {P : Program} {w0 : World} {f : Nat} {b : Bool} (hpure : ∀ x, pureL (enc x) = true) (h : ∀ x out disp, Pre x out disp → SC P w0 f (.ptr 0 0 :: enc x) (H [some (wrow tw 0 1 out.length disp), some (brow tb out)] 0 b) (.tup []) (H [some (wrow tw 0 2 (out ++ F x disp).length disp), none, some (brow tb (out ++ F x disp))] 3 b)) : KnownCall P w0 f (orcW tw tb enc Pre F) := by
  intro args s v s' hg
  unfold orcW at hg
  split at hg
  · rename_i hx
    simp only [Option.some.injEq, Prod.mk.injEq] at hg
    obtain ⟨rfl, rfl⟩ := hg
    have hs := Classical.choose_spec hx
    revert hs
    generalize Classical.choose hx = q
    obtain ⟨id, j, x, out, disp⟩ := q
    simp only
    intro hs
    obtain ⟨r, rfl, he⟩ := hs.a
    have g0 : iot [id, j] 0 = some id := rfl
    have g1 : iot [id, j] 1 = some j := rfl
    have k0 : iot' [id, j] s.next 3 0 = some id := rfl
    have k2 : iot' [id, j] s.next 3 2 = some s.next := rfl
    refine SC.args (args' := .ptr id 0 :: enc x) (SC.emb (h x out disp hs.p) (ids := [id, j]) rfl (by simp [hs.ne]) (fun i k hk => ?_) (by simp only [renL, renV, g0, renL_pure _ (hpure x)]) (by simp only [renV, renC, pureL_nil, cond_true]) ?_) fun φ xs hv => ?_
    · match i, hk with
      | 0, hk => cases hk; exact ⟨_, _, rfl, wrow_ren g0 g1, hs.w⟩
      | 1, hk => cases hk; exact ⟨_, _, rfl, brow_ren, hs.b⟩
      | i + 2, hk => simp at hk
    · refine ⟨newW_ext hs.ne hs.w hs.b, by simp, rfl, fun i hi hn o => ?_, fun i k hk hM o1 ho => ?_, fun i h1 h2 o1 ho => ?_, fun i k hk hM => ?_⟩
      · have n1 : i ≠ s.next := by omega
        have n2 : i ≠ j := fun e => absurd (hn 1 (by rw [e]; rfl)) (by decide)
        have n3 : i ≠ id := fun e => absurd (hn 0 (by rw [e]; rfl)) (by decide)
        rw [newW_get, if_neg n1, if_neg n2, if_neg n3, ← get_eq]
      · match i, hk with
        | 0, hk =>
          cases hk
          rw [newW_get, seen_of_get hs.w, if_pos rfl, if_neg (by have := hs.hi; omega), if_neg hs.ne, if_pos rfl] at ho
          cases ho
          exact ⟨_, rfl, wrow_ren k0 k2⟩
        | 1, hk =>
          cases hk
          rw [newW_get, seen_of_get hs.b, if_pos rfl, if_neg (by have := hs.hj; omega), if_pos rfl] at ho
          cases ho
        | i + 2, hk => simp at hk
      · simp only [List.length_cons, List.length_nil] at h1 h2
        have : i = 2 := by omega
        subst this
        rw [newW_get] at ho
        simp only [List.length_cons, List.length_nil] at ho
        split at ho
        · rw [if_pos (by omega)] at ho
          cases ho
          exact ⟨_, rfl, brow_ren⟩
        · cases ho
      · match i, hk with
        | 0, hk =>
          cases hk
          show (mark (mark s.wm id) j).testBit id = true
          simp only [mark]
          show ((s.wm ||| 1 <<< id) ||| 1 <<< j).testBit id = true
          simp [Nat.testBit_or, Nat.testBit_shiftLeft]
        | 1, hk =>
          cases hk
          show ((s.wm ||| 1 <<< id) ||| 1 <<< j).testBit j = true
          simp [Nat.testBit_or, Nat.testBit_shiftLeft]
        | i + 2, hk => simp at hk
    · simp only [VRL] at hv ⊢
      obtain ⟨y, ys, rfl, q1, q2⟩ := hv
      exact ⟨y, ys, rfl, q1, by rw [he]; exact wkL_sound q2⟩
  · cases hg
theorem callW {E : Env} {O : Orc} {f : Nat} (hO : O f = some (orcW tw tb enc Pre F)) (inj : ∀ x y, enc x = enc y → x = y) (x : α) (out : List Nat) (disp : Bool) (hp : Pre x out disp) (l : List (Nat × Option AObj)) (n m : Nat) (md : Bool) (id j : Nat) (r : List AV) (hr : enc x = wkL r) (ne : id ≠ j) (hi : id < n) (hj : j < n)
    (hw : getA l id = some (.row tw [.ptr id 0, .sl j 0 out.length (.opn 1), .bool disp] false false)) (hb : getA l j = some (.row tb (bytesV out) true false)) :
    (evW E O).call f (.ptr id 0 :: r) (KL l n m md [] none) = some (.tup [], KL ((n, some (.row tb (bytesV (out ++ F x disp)) true false)) :: (j, none) :: (id, some (.row tw [.ptr id 0, .sl n 0 (out ++ F x disp).length (.opn 1), .bool disp] false false)) :: l) (n + 1) (mark (mark m id) j) md [] none) := by
  rw [call_known hO, orcW_eq inj (x := x) (out := out) (disp := disp) (id := id) (j := j) ⟨⟨r, rfl, hr⟩, ne, hi, hj, by rw [KL_get0]; exact hw, by rw [KL_get0]; exact hb, hp⟩]
  rfl
end
theorem eqk_pn (a o : Nat) : vEqk .ptr false (.ptr a o) .nilp = some (.bool false) := rfl
theorem eqk_nn : vEqk .ptr false .nilp .nilp = some (.bool true) := rfl
theorem eqk_pp (a o : Nat) : vEqk .ptr true (.ptr a o) (.ptr a o) = some (.bool false) := by
  simp only [vEqk, eqV, beq_iff.2 (rfl : a = a), beq_iff.2 (rfl : o = o), cond_true, Bool.not_true]
theorem bytesV_ap : ∀ a b : List Nat, bytesV (a ++ b) = bytesV a ++ bytesV b
  | [], _ => rfl
  | x :: a, b => by simp only [List.cons_append, bytesV, bytesV_ap a b]
theorem bytesV_ln (a : List Nat) : (bytesV a).length = a.length := bytesV_len a
theorem growB {s : St} {t : Nat} {new : List Nat} (hb : new.length < 1000000000) (h0 : new ≠ []) : grow s t 1 1 (bytesV new) new.length = some (.sl s.next 0 new.length (.opn 1), s.alloc (.row t (bytesV new) true false)) := by
  simp only [grow]
  rw [show Nat.ble (Nat.mul (Nat.mul 2 new.length) 1) 281474976710656 = true from ble_iff.2 (by show 2 * new.length * 1 ≤ _; omega), show Nat.ble 1 1 = true from rfl, show Nat.blt new.length 9223372036854775808 = true from blt_iff.2 (by omega)]
  rfl
theorem app_nil {l : List (Nat × Option AObj)} {n m t : Nat} {y : AV} {new : List Nat} (hl : srcLen y = some new.length) (h0 : new ≠ []) (hc : srcCells (KL l n m false [] none) 1 new.length y = some (bytesV new)) (hb : new.length < 1000000000) :
    appV (KL l n m false [] none) t 1 1 .nils y = some (.sl n 0 new.length (.opn 1), KL ((n, some (.row t (bytesV new) true false)) :: l) (n + 1) m false [] none) := by
  obtain ⟨q, hq⟩ : ∃ q, new.length = q + 1 := by
    cases new with
    | nil => exact absurd rfl h0
    | cons a r => exact ⟨r.length, rfl⟩
  rw [hq] at hc hl
  simp only [appV, hl, hc, appW, KL_md, Bool.false_and, cond_false]
  have := growB (s := KL l n m false [] none) (t := t) hb h0
  rw [hq] at this ⊢
  exact this
theorem cut_bytes (out : List Nat) : cut (bytesV out) 0 (Nat.mul out.length 1) = some (bytesV out) := by
  have : Nat.mul out.length 1 = (bytesV out).length := by rw [bytesV_ln]; exact Nat.mul_one _
  rw [cut_eq', this]
  exact takeN_all rfl
theorem app_opn {l : List (Nat × Option AObj)} {n m t j : Nat} {b : Bool} {y : AV} {out new : List Nat} (hg : getA l j = some (.row t (bytesV out) true false)) (hl : srcLen y = some new.length) (h0 : new ≠ []) (hc : srcCells (KL l n m b [] none) 1 new.length y = some (bytesV new)) (hb : (out ++ new).length < 1000000000) :
    appV (KL l n m b [] none) t 1 1 (.sl j 0 out.length (.opn 1)) y = some (.sl n 0 (out ++ new).length (.opn 1), KL ((n, some (.row t (bytesV (out ++ new)) true false)) :: (j, none) :: l) (n + 1) (mark m j) b [] none) := by
  obtain ⟨q, hq⟩ : ∃ q, new.length = q + 1 := by
    cases new with
    | nil => exact absurd rfl h0
    | cons a r => exact ⟨r.length, rfl⟩
  have hq' := hq
  rw [hq] at hc hl
  have h1 : Nat.ble (Nat.add 0 (Nat.mul (Nat.add out.length (Nat.succ q)) 1)) (lenN (bytesV out)) = false := by
    rw [lenN_eq, bytesV_ln]
    cases h : Nat.ble (Nat.add 0 (Nat.mul (Nat.add out.length (Nat.succ q)) 1)) out.length with
    | false => rfl
    | true =>
      have h2 := ble_iff.1 h
      have h3 : 0 + (out.length + (q + 1)) * 1 ≤ out.length := h2
      omega
  simp only [appV, hl, hc, appW, KL_get0, hg, beq_iff.2 (rfl : (1 : Nat) = 1), beq_iff.2 (rfl : t = t), Bool.not_false, Bool.and_true, Bool.and_self, cond_true, h1, cond_false, allScal_bytes, cut_bytes, KL_del]
  have := growB (s := KL ((j, none) :: l) n (mark m j) b [] none) (t := t) (new := out ++ new) hb (by simp [h0])
  rw [bytesV_ap, List.length_append, hq] at this
  rw [bytesV_ap, List.length_append, hq]
  exact this
theorem gr_lst {φ : Phi} {id e n : Nat} {cs : List AV} {x : Value} (h : VR φ (.gr id e n cs) x) : VR φ (.lst n false cs) x := by
  simp only [VR] at h ⊢
  obtain ⟨h1, h2, h3, h4, B, ys, h5, h6, h7, h8, h9⟩ := h
  exact ⟨h1, .inr ⟨B.b, B.o, _, ys, h6, by simp, h7, h8, h9⟩⟩
theorem Is.grl {C : Cx} {E : Env} {O : Orc} {c : St} {M : Nat} (_ : Is C E O c M) {i id e n : Nat} {cs : List AV} {r : List (Nat × AV)} {df : List Nat} {s : St} : Gc C ⟨tmL ((i, .gr id e n cs) :: r), df⟩ s ⟨tmL ((i, .lst n false cs) :: r), df⟩ s := fun φ w a ha hf => ⟨φ, ha, ⟨fun j v hv => by
  by_cases hj : j = i
  · subst hj
    have h1 : (tmL ((j, .gr id e n cs) :: r)).get j = some (.gr id e n cs) := by rw [tmL_get_cons]; simp
    have h2 : v = .lst n false cs := by rw [tmL_get_cons] at hv; simpa using hv.symm
    subst h2
    exact gr_lst (hf.tm _ _ h1)
  · refine hf.tm j v ?_
    rw [tmL_get_cons] at hv ⊢
    simpa [hj] using hv, hf.size, hf.df⟩⟩
theorem app_grB {l : List (Nat × Option AObj)} {n m t id k : Nat} {b e : Bool} {old new : List Nat} (hg : getA l id = some (.app t (bytesV old))) (hk : k = old.length) (h0 : new ≠ []) (hb : (old ++ new).length < 1000000000) :
    appV (KL l n m b [] none) t 1 1 (.gr id 1 k (bytesV old)) (.lst new.length e (bytesV new)) = some (.gr n 1 (k + new.length) (bytesV (old ++ new)), KL ((n, some (.app t (bytesV (old ++ new)))) :: (id, none) :: l) (n + 1) (mark m id) b [] none) := by
  subst hk
  obtain ⟨q, hq⟩ : ∃ q, new.length = q + 1 := by
    cases new with
    | nil => exact absurd rfl h0
    | cons a r => exact ⟨r.length, rfl⟩
  have h2 : takeN (Nat.mul (Nat.succ q) 1) (bytesV new) = some (bytesV new) := takeN_all (by rw [bytesV_len, hq]; exact (Nat.mul_one _).symm)
  simp only [List.length_append] at hb
  rw [hq] at hb ⊢
  simp only [appV, srcLen_lst, srcCells, h2, appW, KL_get0, hg, beq_iff.2 (rfl : (1 : Nat) = 1), beq_iff.2 (rfl : t = t), beq_iff.2 (rfl : lenN (bytesV old) = lenN (bytesV old)), allScal_bytes, Bool.and_self, cond_true, growP, pureL_append, pureL_bytes]
  rw [show Nat.ble (Nat.mul (Nat.mul 2 (Nat.add old.length (Nat.succ q))) 1) 281474976710656 = true from ble_iff.2 (by show 2 * (old.length + (q + 1)) * 1 ≤ _; omega), show Nat.ble 1 1 = true from rfl, show Nat.blt (Nat.add old.length (Nat.succ q)) 9223372036854775808 = true from blt_iff.2 (by show old.length + (q + 1) < _; omega), bytesV_ap]
  rfl
end Go.Proofs.YthcmnajcjapjbaaGreatDoor.Ev

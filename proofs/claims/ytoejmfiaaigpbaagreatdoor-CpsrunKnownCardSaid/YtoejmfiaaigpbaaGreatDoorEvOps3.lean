/- Part of a verified evaluator of the model's code, generic over the program: a run of the evaluator that answers shows what the model's run answers. No conditions of its own. -/
import Derived.Test.YtoejmfiaaigpbaaGreatDoorEvOps2
namespace Go.Proofs.YtoejmfiaaigpbaaGreatDoor.Ev

/-! ### == -/
theorem eq1_sound {P : Program} {w : World} {φ : Phi} {t : TypeId} {f : FK} {a b : AV} {x y : Value} {r : Bool} (ht : fkT P t = some f) (d : Nat) (h : eq1 f a b = some r) (hx : VR φ a x) (hy : VR φ b y) :
    (Op.equalIn (d + 1) t x y).run P w = .ok r w := by
  unfold fkT at ht
  split at ht
  · rename_i k0 hu; cases ht
    simp only [eq1] at h
    split at h
    · rename_i k m k' n
      cases hkk : kindEq k k' with
      | false => rw [hkk] at h; simp at h
      | true =>
        rw [hkk] at h; simp only [cond_true, Option.some.injEq] at h; subst h
        rw [kindEq_eq] at hkk; simp at hkk; subst hkk
        simp only [VR] at hx hy; subst hx; subst hy
        rw [run_equalIn_int w d t k k0 m n hu, eqI_eq]
    · cases h
  · rename_i hu; cases ht
    simp only [eq1] at h
    split at h
    · cases h
      simp only [VR] at hx hy
      obtain ⟨s, rfl, rfl⟩ := hx
      obtain ⟨u, rfl, rfl⟩ := hy
      rw [run_equalIn_string w d t s u hu, eqS_eq, beq_nats]
    · cases h
  · rename_i hu; cases ht
    simp only [eq1] at h
    split at h
    · cases h
      simp only [VR] at hx hy; subst hx; subst hy
      exact run_equalIn_bool' w d t _ _ hu
    · cases h
  · cases ht

theorem isAgg_fk {P : Program} {w : World} {t : TypeId} {f : FK} (ht : fkT P t = some f) : (isAgg t).run P w = .ok false w := by
  unfold fkT at ht
  split at ht
  · rename_i hu; simp [isAgg, run_underlying' hu]
  · rename_i hu; simp [isAgg, run_underlying' hu]
  · rename_i hu; simp [isAgg, run_underlying' hu]
  · cases ht
theorem part_fk {P : Program} {w : World} {t : TypeId} {f : FK} {xs : Array Value} {i : Nat} {x : Value} (ht : fkT P t = some f) (h : xs[i]? = some x) : (part t xs i).run P w = .ok x w := by
  simp [part, isAgg_fk ht, h]

theorem eqFlat_sound {P : Program} {w : World} {φ : Phi} (d : Nat) {xs ys : Array Value} : ∀ {fs : List Field} {i : Nat} {ks : List FK} {a b : List AV} {r : Bool}, flatFields P fs i = some ks → eqFlat ks a b = some r →
    VRL φ a (xs.toList.drop i) → VRL φ b (ys.toList.drop i) → (Op.eqFields (d + 1) xs ys fs).run P w = .ok r w
  | [], i, ks, a, b, r, hf, he, ha, hb => by
    simp [flatFields] at hf; subst hf
    cases a <;> cases b <;> simp [eqFlat] at he
    subst he; simp [Op.eqFields]
  | f :: fs, i, ks, a, b, r, hf, he, ha, hb => by
    simp only [flatFields] at hf
    cases hc : (f.offset == i && f.name != "_") with
    | false => rw [hc] at hf; simp at hf
    | true =>
      rw [hc] at hf; simp only [cond_true] at hf
      simp at hc
      obtain ⟨ho, hn⟩ := hc
      cases h1 : fkT P f.type with
      | none => rw [h1] at hf; simp at hf
      | some k =>
        cases h2 : flatFields P fs (i + 1) with
        | none => rw [h1, h2] at hf; simp at hf
        | some l =>
          rw [h1, h2] at hf; simp at hf; subst hf
          cases a with
          | nil => simp [eqFlat] at he
          | cons u a =>
            cases b with
            | nil => simp [eqFlat] at he
            | cons v b =>
              simp only [VRL] at ha hb
              obtain ⟨x, xs', ex, hx, ha⟩ := ha
              obtain ⟨y, ys', ey, hy, hb⟩ := hb
              have gx : xs[i]? = some x := by
                have := congrArg (·[0]?) ex; simp at this; exact this
              have gy : ys[i]? = some y := by
                have := congrArg (·[0]?) ey; simp at this; exact this
              have dx : xs.toList.drop (i + 1) = xs' := by rw [← List.drop_drop, ex]; rfl
              have dy : ys.toList.drop (i + 1) = ys' := by rw [← List.drop_drop, ey]; rfl
              simp only [eqFlat] at he
              have hp : f.name ≠ "_" := hn
              simp only [Op.eqFields, hp, ne_eq, not_false_eq_true, if_true, Sem.run_bind, ho, part_fk h1 gx, part_fk h1 gy, Result.andThen_ok]
              cases he1 : eq1 k u v with
              | none => rw [he1] at he; simp at he
              | some r1 =>
                rw [he1] at he
                rw [eq1_sound h1 d he1 hx hy]
                cases r1 with
                | true =>
                  simp only [] at he
                  simp only [Result.andThen_ok, Bool.not_true, Bool.false_eq_true, if_false]
                  exact eqFlat_sound d h2 he (dx ▸ ha) (dy ▸ hb)
                | false =>
                  simp only [] at he
                  cases he2 : eqFlat l a b with
                  | none => rw [he2] at he; simp at he
                  | some r2 => rw [he2] at he; simp at he; subst he; simp

theorem binOp_eq {P : Program} {w : World} {t : TypeId} {x y : Value} {r neg : Bool} (hx : (∀ k n, x ≠ .int k n) ∧ (∀ s, x ≠ .string s) ∧ (∀ k n, x ≠ .float k n) ∧ (∀ k n m, x ≠ .complex k n m))
    (h : (Op.equalIn (9999 + 1) t x y).run P w = .ok r w) : (binOp (bif neg then .neq else .eql) t x y).run P w = .ok (.bool (bif neg then !r else r)) w := by
  have he : (Op.equal t x y).run P w = .ok r w := h
  obtain ⟨h1, h2, h3, h4⟩ := hx
  cases neg <;> cases x <;> simp_all [binOp]

end Go.Proofs.YtoejmfiaaigpbaaGreatDoor.Ev

/- Part of a verified evaluator of the model's code, generic over the program: a run of the evaluator that answers shows what the model's run answers. No conditions of its own. -/
import Derived.Test.YtoejmfiaaigpbaaGreatDoorEvOps3
namespace Go.Proofs.YtoejmfiaaigpbaaGreatDoor.Ev

section eqIn
variable {P : Program} {w : World} {t : TypeId} (d : Nat)
theorem eqIn_nilp {e : TypeId} (hu : P.underlying t = some (.pointer e)) (b : Option Addr) : (Op.equalIn (d + 1) t (.pointer none) (.pointer b)).run P w = .ok b.isNone w := by simp [Op.equalIn, run_underlying' hu]
theorem eqIn_pnil {e : TypeId} (hu : P.underlying t = some (.pointer e)) (a : Addr) : (Op.equalIn (d + 1) t (.pointer (some a)) (.pointer none)).run P w = .ok false w := by simp [Op.equalIn, run_underlying' hu]
theorem eqIn_pp {e : TypeId} {n : Nat} (hu : P.underlying t = some (.pointer e)) (hs : (sizeOf e).run P w = .ok (n + 1) w) (b o o' : Nat) :
    (Op.equalIn (d + 1) t (.pointer (some ⟨b, o, none⟩)) (.pointer (some ⟨b, o', none⟩))).run P w = .ok (decide ((⟨b, o, none⟩ : Addr) = ⟨b, o', none⟩)) w := by
  have hne : ¬ (n + 1 = 0) := by omega
  simp only [Op.equalIn, Sem.run_bind, run_underlying' hu, Result.andThen_ok, hs, Sem.run_ite, ne_eq, hne, not_false_eq_true, if_true, sameAddr, beq_self_eq_true, Sem.run_pure]
  rfl
theorem eqIn_nils {e : TypeId} (hu : P.underlying t = some (.slice e)) (b : Option Addr) (n m k l : Nat) : (Op.equalIn (d + 1) t (.slice none n m) (.slice b k l)).run P w = .ok b.isNone w := by simp [Op.equalIn, run_underlying' hu]
theorem eqIn_snil {e : TypeId} (hu : P.underlying t = some (.slice e)) (a : Addr) (n m k l : Nat) : (Op.equalIn (d + 1) t (.slice (some a) n m) (.slice none k l)).run P w = .ok false w := by simp [Op.equalIn, run_underlying' hu]
theorem eqIn_nilm {k e : TypeId} (hu : P.underlying t = some (.map k e)) (b : Option Nat) : (Op.equalIn (d + 1) t (.map none) (.map b)).run P w = .ok b.isNone w := by simp [Op.equalIn, run_underlying' hu]
theorem eqIn_mnil {k e : TypeId} (hu : P.underlying t = some (.map k e)) (a : Nat) : (Op.equalIn (d + 1) t (.map (some a)) (.map none)).run P w = .ok false w := by simp [Op.equalIn, run_underlying' hu]
theorem eqIn_nilf {a b : Array TypeId} {v : Bool} (hu : P.underlying t = some (.func a b v)) : (Op.equalIn (d + 1) t .nilFunc .nilFunc).run P w = .ok true w := by simp [Op.equalIn, run_underlying' hu]
theorem eqIn_nilff {a b : Array TypeId} {v : Bool} (hu : P.underlying t = some (.func a b v)) (f : Fn) (x y : Array Value) : (Op.equalIn (d + 1) t .nilFunc (.func f x y)).run P w = .ok false w := by simp [Op.equalIn, run_underlying' hu]
theorem eqIn_fnil {a b : Array TypeId} {v : Bool} (hu : P.underlying t = some (.func a b v)) (f : Fn) (x y : Array Value) : (Op.equalIn (d + 1) t (.func f x y) .nilFunc).run P w = .ok false w := by simp [Op.equalIn, run_underlying' hu]
theorem eqIn_nili {ms : Array (String × TypeId)} (hu : P.underlying t = some (.interface ms)) : (Op.equalIn (d + 1) t .nilIface .nilIface).run P w = .ok true w := by simp [Op.equalIn, run_underlying' hu]
theorem eqIn_nilii {ms : Array (String × TypeId)} (hu : P.underlying t = some (.interface ms)) (u : TypeId) (x : Value) : (Op.equalIn (d + 1) t .nilIface (.iface u x)).run P w = .ok false w := by simp [Op.equalIn, run_underlying' hu]
theorem eqIn_inil {ms : Array (String × TypeId)} (hu : P.underlying t = some (.interface ms)) (u : TypeId) (x : Value) : (Op.equalIn (d + 1) t (.iface u x) .nilIface).run P w = .ok false w := by simp [Op.equalIn, run_underlying' hu]
end eqIn

theorem isConst_some {x : Operand} (h : Region.isConst x = true) : ∃ c, x = .const c := by
  cases x with
  | const c => exact ⟨c, rfl⟩
  | tmp _ => cases h
  | global _ => cases h
  | func _ => cases h

theorem eqV_sound {P : Program} {w0 w : World} {φ : Phi} {t : TypeId} {ox oy : Operand} {k0 : EqK} {a b : AV} {x y : Value} {r neg : Bool}
    (hk : eqKind P t = some k0) (h : eqV (eqConst k0 ox oy) a b = some r) (hx : VR φ a x) (hy : VR φ b y) :
    (do eqGuard (bif neg then .neq else .eql) t ox oy x y; binOp (bif neg then .neq else .eql) t x y : Sem Value).run P w = .ok (.bool (bif neg then !r else r)) w := by
  unfold eqKind at hk
  split at hk
  · cases hk; simp [eqConst, eqV] at h
  · cases hk; simp [eqConst, eqV] at h
  · -- bool
    rename_i hu; cases hk; simp only [eqConst, eqV] at h
    split at h
    · cases h; simp only [VR] at hx hy; subst hx; subst hy
      rw [Sem.run_bind, eqGuard_at_bool]
      exact binOp_eq (by simp) (run_equalIn_bool' w _ t _ _ hu)
    · cases h
  · -- pointers
    rename_i e hu
    split at hk
    · rename_i n hsz; cases hk; simp only [eqConst, eqV] at h
      have hs0 : (sizeOf e).run P w = .ok (n + 1) w := run_sizeOf' hsz
      split at h
      · cases h; simp only [VR] at hx hy; subst hx; subst hy
        rw [Sem.run_bind, eqGuard_at_pointer]
        exact binOp_eq (by simp) (eqIn_nilp 9999 hu none)
      · cases h; simp only [VR] at hx hy; obtain ⟨B, hB, rfl⟩ := hy; subst hx
        rw [Sem.run_bind, eqGuard_at_pointer]
        exact binOp_eq (by simp) (eqIn_nilp 9999 hu (some _))
      · cases h; simp only [VR] at hx hy; obtain ⟨B, hB, rfl⟩ := hx; subst hy
        rw [Sem.run_bind, eqGuard_at_pointer]
        exact binOp_eq (by simp) (eqIn_pnil 9999 hu _)
      · rename_i i o i' o'
        cases hb : Nat.beq i i' with
        | false => rw [hb] at h; simp at h
        | true =>
          rw [hb] at h; simp only [cond_true, Option.some.injEq] at h; subst h
          rw [beq_iff] at hb; subst hb
          simp only [VR] at hx hy; obtain ⟨B, hB, rfl⟩ := hx; obtain ⟨B', hB', rfl⟩ := hy
          rw [hB] at hB'; cases hB'
          rw [Sem.run_bind, eqGuard_at_pointer]
          have e1 : Nat.beq o o' = decide ((⟨B.b, B.o + o, none⟩ : Addr) = ⟨B.b, B.o + o', none⟩) := by
            by_cases e : o = o'
            · subst e; simp
            · have e' : ¬ ((⟨B.b, B.o + o, none⟩ : Addr) = ⟨B.b, B.o + o', none⟩) := fun h => e (by have := congrArg Addr.off h; simp only at this; omega)
              rw [decide_eq_false e', Bool.eq_false_iff, ne_eq, Nat.beq_eq]; exact e
          rw [e1]
          exact binOp_eq (by simp) (eqIn_pp 9999 hu hs0 _ _ _)
      · cases h
    · cases hk
  · -- slices
    rename_i hu; cases hk; simp only [eqConst, eqV] at h
    split at h
    · cases h; simp only [VR] at hx hy; subst hx; subst hy
      rw [Sem.run_bind, eqGuard_at_slice]
      exact binOp_eq (by simp) (eqIn_nils 9999 hu none _ _ _ _)
    · cases h; simp only [VR] at hx hy; subst hx; obtain ⟨B, k, hB, rfl, _⟩ := hy
      rw [Sem.run_bind, eqGuard_at_slice]
      exact binOp_eq (by simp) (eqIn_nils 9999 hu (some _) _ _ _ _)
    · cases h; simp only [VR] at hx hy; subst hy; obtain ⟨B, k, hB, rfl, _⟩ := hx
      rw [Sem.run_bind, eqGuard_at_slice]
      exact binOp_eq (by simp) (eqIn_snil 9999 hu _ _ _ _ _)
    · cases h; simp only [VR] at hx hy; subst hx; obtain ⟨a, k, rfl⟩ := hy
      rw [Sem.run_bind, eqGuard_at_slice]
      exact binOp_eq (by simp) (eqIn_nils 9999 hu (some _) _ _ _ _)
    · cases h; simp only [VR] at hx hy; subst hy; obtain ⟨a, k, rfl⟩ := hx
      rw [Sem.run_bind, eqGuard_at_slice]
      exact binOp_eq (by simp) (eqIn_snil 9999 hu _ _ _ _ _)
    · cases h
  · -- maps
    rename_i hu; cases hk; simp only [eqConst, eqV] at h
    split at h
    · cases h; simp only [VR] at hx hy; subst hx; subst hy
      rw [Sem.run_bind, eqGuard_at_map]
      exact binOp_eq (by simp) (eqIn_nilm 9999 hu none)
    · cases h; simp only [VR] at hx hy; subst hx; obtain ⟨B, hB, rfl⟩ := hy
      rw [Sem.run_bind, eqGuard_at_map]
      exact binOp_eq (by simp) (eqIn_nilm 9999 hu (some _))
    · cases h; simp only [VR] at hx hy; subst hy; obtain ⟨B, hB, rfl⟩ := hx
      rw [Sem.run_bind, eqGuard_at_map]
      exact binOp_eq (by simp) (eqIn_mnil 9999 hu _)
    · cases h
  · -- functions
    rename_i hu; cases hk; simp only [eqConst, eqV] at h
    split at h
    · cases h; simp only [VR] at hx hy; subst hx; subst hy
      rw [Sem.run_bind, eqGuard_at_nilFunc]
      exact binOp_eq (by simp) (eqIn_nilf 9999 hu)
    · cases h; simp only [VR] at hx hy; subst hx; obtain ⟨u, v, rfl, _⟩ := hy
      rw [Sem.run_bind, eqGuard_at_nilFunc]
      exact binOp_eq (by simp) (eqIn_nilff 9999 hu _ _ _)
    · cases h; simp only [VR] at hx hy; subst hy; obtain ⟨u, v, rfl, _⟩ := hx
      rw [Sem.run_bind, eqGuard_at_func]
      exact binOp_eq (by simp) (eqIn_fnil 9999 hu _ _ _)
    · cases h
  · -- interfaces
    rename_i hu; cases hk; simp only [eqConst] at h
    cases hc : (Region.isConst ox || Region.isConst oy) with
    | false =>
      rw [hc] at h; simp only [cond_false, eqV] at h
      split at h
      · cases h; simp only [VR] at hx hy; subst hx; obtain ⟨u, rfl, _⟩ := hy
        rw [Sem.run_bind, eqGuard_nil_iface]
        exact binOp_eq (by simp) (eqIn_nilii 9999 hu _ _)
      · cases h; simp only [VR] at hx hy; subst hy; obtain ⟨u, rfl, _⟩ := hx
        rw [Sem.run_bind, eqGuard_at_iface]
        exact binOp_eq (by simp) (eqIn_inil 9999 hu _ _)
      · cases h
    | true =>
      rw [hc] at h; simp only [cond_true, eqV] at h
      split at h
      · cases h; simp only [VR] at hx hy; subst hx; subst hy
        have hg : (eqGuard (bif neg then .neq else .eql) t ox oy .nilIface .nilIface).run P w = .ok () w := by
          rw [Bool.or_eq_true] at hc
          rcases hc with hc | hc
          · obtain ⟨c, rfl⟩ := isConst_some hc; rw [eqGuard_nil_constL]; rfl
          · obtain ⟨c, rfl⟩ := isConst_some hc; rw [eqGuard_nil_constR]; rfl
        rw [Sem.run_bind, hg]
        exact binOp_eq (by simp) (eqIn_nili 9999 hu)
      · cases h; simp only [VR] at hx hy; subst hx; obtain ⟨u, rfl, _⟩ := hy
        rw [Sem.run_bind, eqGuard_nil_iface]
        exact binOp_eq (by simp) (eqIn_nilii 9999 hu _ _)
      · cases h; simp only [VR] at hx hy; subst hy; obtain ⟨u, rfl, _⟩ := hx
        rw [Sem.run_bind, eqGuard_at_iface]
        exact binOp_eq (by simp) (eqIn_inil 9999 hu _ _)
      · cases h
  · -- structs
    rename_i fs hu
    split at hk
    · rename_i ks hks
      cases hc : (!P.eqGuardType P.depth t && !P.stoodInHeld t) with
      | false => rw [hc] at hk; simp at hk
      | true =>
        rw [hc] at hk; simp only [cond_true, Option.some.injEq] at hk; subst hk
        simp at hc
        simp only [eqConst, eqV] at h
        split at h
        · simp only [VR] at hx hy
          obtain ⟨xs, rfl, hx⟩ := hx
          obtain ⟨ys, rfl, hy⟩ := hy
          have hf : P.fieldsOf t = fs := by simp [Program.fieldsOf, hu]
          have hrun : (Op.equalIn (9999 + 1) t (.agg xs.toArray) (.agg ys.toArray)).run P w = .ok r w := by
            rw [run_equalIn_struct w 9999 t _ _ (by rw [hf]; exact hu) hc.2, hf]
            exact eqFlat_sound (P := P) (w := w) (φ := φ) 9998 hks h (by simpa using hx) (by simpa using hy)
          rw [Sem.run_bind, run_eqGuard_agg w _ t ox oy _ _ hc.1]
          exact binOp_eq (by simp) hrun
        · cases h
    · cases hk
  · cases hk

end Go.Proofs.YtoejmfiaaigpbaaGreatDoor.Ev

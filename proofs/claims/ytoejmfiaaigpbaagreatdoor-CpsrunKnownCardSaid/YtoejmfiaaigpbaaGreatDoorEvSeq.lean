/- Part of a verified evaluator of the model's code, generic over the program: a run of the evaluator that answers shows what the model's run answers. No conditions of its own. -/
import Derived.Test.YtoejmfiaaigpbaaGreatDoorEvReg
namespace Go.Proofs.YtoejmfiaaigpbaaGreatDoor.Ev

theorem getD_set (t : Array Value) (d i : Nat) (x : Value) (hd : d < t.size) : (t.setIfInBounds d x).getD i undef = if i = d then x else t.getD i undef := by
  simp only [Array.getD_eq_getD_getElem?, Array.getElem?_setIfInBounds]
  by_cases h : d = i
  · subst h; simp [hd]
  · rw [if_neg h, if_neg (Ne.symm h)]

theorem TmRel.set {φ : Phi} {tm : Trie AV} {t : Array Value} (h : TmRel φ tm t) {d : Nat} (hd : d < t.size) {v : AV} {x : Value} (hv : VR φ v x) : TmRel φ (tm.set d v) (t.setIfInBounds d x) := by
  intro i u hu
  rw [Trie.get_set] at hu
  rw [getD_set _ _ _ _ hd]
  by_cases e : i = d
  · rw [if_pos e] at hu ⊢; cases hu; exact hv
  · rw [if_neg e] at hu ⊢; exact h i u hu

theorem vr_bool {φ : Phi} {v : AV} {b : Bool} (h : VR φ v (.bool b)) : v = .bool b := by
  cases v <;> simp only [VR] at h <;> first
    | (cases h; rfl)
    | (cases h; done)
    | (obtain ⟨_, h, _⟩ := h; cases h; done)
    | (obtain ⟨_, _, h⟩ := h; cases h; done)
    | (obtain ⟨_, _, _, h, _⟩ := h; cases h; done)
    | (obtain ⟨_, _, h, _⟩ := h; cases h; done)

section
variable {P : Program} {w0 : World} {φ : Phi} {s s' : St} {w : World} {tm tm' : Trie AV} {a : Act} {o : Oper} {v : AV} {E : Env} {S : Self}

def guardT : Option (Nat × Bool) → List Nat
  | some (d, _) => [d]
  | none => []
theorem names_eq (o : SOper) : o.names = Opd.tmps o.op.opds ++ guardT o.guard := by
  unfold SOper.names guardT
  cases o.guard <;> rfl

theorem wants_sound {ops : Array Oper} {g : Option (Nat × Bool)} {b : Bool} (hg : cGuard ops o.guard = some g) (h : wants g tm = some b) (ht : TmOn φ (guardT g) tm a) : Region.wanted o (yielded ops a.tmps) = b := by
  unfold Region.wanted
  cases hog : o.guard with
  | none => rw [hog] at hg; simp [cGuard] at hg; subst hg; simp [wants] at h; simp [h]
  | some p =>
    obtain ⟨j, wt⟩ := p
    rw [hog] at hg; simp only [cGuard] at hg
    split at hg
    · rename_i o' ho'
      split at hg
      · rename_i d hd
        simp only [Option.some.injEq] at hg; subst hg
        simp only [wants] at h
        have hy : yielded ops a.tmps j = (match a.tmps[d]? with | some (.bool b) => some b | _ => none) := by unfold yielded; rw [ho']; simp only [Option.bind_some, hd]; rfl
        simp only [hy]
        have hgd : a.tmps.getD d undef = (a.tmps[d]?).getD undef := by simp [Array.getD_eq_getD_getElem?]
        split at h
        · rename_i b' hb'
          simp only [Option.some.injEq] at h
          have := ht d (by simp [guardT]) _ hb'
          simp only [VR] at this
          rw [hgd] at this
          cases ht2 : a.tmps[d]? with
          | none => rw [ht2] at this; simp [undef] at this
          | some x => rw [ht2] at this; simp at this; subst this; simp only; rw [← h]; cases b' <;> cases wt <;> rfl
        · rename_i u hnb hu
          simp only [Option.some.injEq] at h; subst h
          have := ht d (by simp [guardT]) _ hu
          rw [hgd] at this
          cases ht2 : a.tmps[d]? with
          | none => rfl
          | some x =>
            rw [ht2] at this; simp only [Option.getD_some] at this
            cases x <;> first
              | rfl
              | (exact absurd (vr_bool this) (fun e => hnb _ e))
        · cases h
      · cases hg
    · cases hg

theorem cS_inv {nt : Nat} {ops : Array Oper} {so : SOper} (h : cS P nt ops o = some so) : cGuard ops o.guard = some so.guard ∧ so.op = cOpT P o.op ∧ so.dst = o.dst ∧ ∀ d, o.dst = some d → d < nt := by
  unfold cS at h
  split at h
  · rename_i op g hop hg
    split at h
    · rename_i d hd
      cases hb : Nat.blt d nt with
      | false => rw [hb] at h; simp at h
      | true => rw [hb] at h; simp only [cond_true, Option.some.injEq] at h; subst h; exact ⟨hg, rfl, hd.symm, fun d' h' => by rw [hd] at h'; cases h'; exact blt_iff.1 hb⟩
    · rename_i hd
      simp only [Option.some.injEq] at h; subst h; exact ⟨hg, rfl, hd.symm, fun d' h' => by rw [hd] at h'; cases h'⟩
  · cases h

theorem cOpT_some {x : Op} {tm : Trie AV} {s : St} {p : AV × St} (h : evOp E S (cOpT P x) tm s = some p) : ∃ op, cOp P x = some op ∧ cOpT P x = op := by
  unfold cOpT at h ⊢
  cases hc : cOp P x with
  | none => rw [hc] at h; simp [evOp, opv] at h
  | some op => exact ⟨op, rfl, by simp⟩

/-- what comes behind an operation -/
def PutOk (φ' : Phi) (nt : Nat) (tm' : Trie AV) (a a' : Act) : Prop := TmRel φ' tm' a'.tmps ∧ a'.tmps.size = nt ∧ a'.defers = a.defers

theorem put_ok {φ' : Phi} {nt : Nat} {dst : Option Nat} {x : Value} (ht : TmRel φ' tm a.tmps) (hsz : a.tmps.size = nt) (hd : ∀ d, dst = some d → d < nt) (hv : VR φ' v x) : PutOk φ' nt (setDst tm dst v) a (a.put dst x) := by
  cases dst with
  | none => exact ⟨ht, hsz, rfl⟩
  | some d => exact ⟨ht.set (by rw [hsz]; exact hd d rfl) hv, by simp [Act.put, hsz], rfl⟩

theorem stepS_sound (hS : SelfOk P w0 S) (hG : GlobRel E.globs w0) {nt : Nat} {ops : Array Oper} {so : SOper} (hc : cS P nt ops o = some so) (h : stepS E S so tm s = some (tm', s'))
    (r : Rel P w0 φ s.get w) (hwf : Wf s) (hf : Fresh φ s s') (ht : TmRel φ tm a.tmps) (hsz : a.tmps.size = nt) {F : Fence} (hF : Wide F) {n : Nat} {next : Act → World → Prop} {Q : Exit → Act → World → Prop}
    (hn : ∀ φ' a' w', Step P w0 φ s w φ' s' w' → PutOk φ' nt tm' a a' → next a' w') :
    if Region.wanted o (yielded ops a.tmps) then o.wpIn F n P a w next Q else (∀ f, o.about P w a.eval = some f → F.fn f) ∧ next (a.put o.dst undef) w := by
  obtain ⟨hg, hop, hdst, hlt⟩ := cS_inv hc
  unfold stepS at h
  split at h
  · rename_i hw
    rw [wants_sound hg hw (TmOn.of ht), if_pos rfl]
    cases he : evOp E S so.op tm s with
    | none => rw [he] at h; simp [stS] at h
    | some p =>
      rw [he] at h; simp only [stS, Option.some.injEq, Prod.mk.injEq] at h
      obtain ⟨h1, h2⟩ := h
      rw [hop] at he
      obtain ⟨op, hc1, hc2⟩ := cOpT_some he
      rw [hc2] at he
      subst h2
      refine evOp_sound hS hG hc1 (v := p.1) (s' := p.2) he r hwf hf (TmOn.of ht) hF fun φ' x w' k1 k2 => hn φ' _ w' k1 ?_
      rw [← h1, hdst]
      exact put_ok (ht.mono (k1.sub hf)) hsz hlt k2
  · rename_i hw
    rw [wants_sound hg hw (TmOn.of ht)]
    simp only [Bool.false_eq_true, if_false]
    simp only [Option.some.injEq, Prod.mk.injEq] at h
    obtain ⟨h1, h2⟩ := h
    subst h2
    refine ⟨fun f _ => hF.fn f, hn φ _ w (Step.refl r) ?_⟩
    rw [← h1, hdst]
    exact put_ok ht hsz hlt (undef_rel φ)
  · cases h

theorem evS_sound (hS : SelfOk P w0 S) (hG : GlobRel E.globs w0) {nt : Nat} {ops : Array Oper} {F : Fence} (hF : Wide F) {n : Nat} {Q : Exit → Act → World → Prop} :
    ∀ (rest : List Oper) (k : Nat) {l : List SOper} {tm tm' : Trie AV} {s s' : St} {φ : Phi} {w : World} {a : Act}, ops.toList.drop k = rest → cSs P nt ops rest = some l → evS E S l tm s = some (tm', s') → Rel P w0 φ s.get w → Wf s → Fresh φ s s' → TmRel φ tm a.tmps → a.tmps.size = nt →
    (∀ φ' a' w', Step P w0 φ s w φ' s' w' → PutOk φ' nt tm' a a' → Q .normal a' w') → wpOpsIn F n P ops Q (List.range' k rest.length) a w
  | [], k, l, tm, tm', s, s', φ, w, a, hd, hc, h, r, hwf, hf, ht, hsz, hQ => by
    simp [cSs] at hc; subst hc
    simp only [evS, Option.some.injEq, Prod.mk.injEq] at h
    obtain ⟨rfl, rfl⟩ := h
    simp only [List.length_nil, List.range'_zero, wpOpsIn]
    exact hQ φ a w (Step.refl r) ⟨ht, hsz, rfl⟩
  | o :: rest, k, l, tm, tm', s, s', φ, w, a, hd, hc, h, r, hwf, hf, ht, hsz, hQ => by
    simp only [cSs] at hc
    split at hc
    · rename_i so l' hso hl'
      simp only [Option.some.injEq] at hc; subst hc
      simp only [evS] at h
      split at h
      · rename_i p hp
        have hk : ops[k]? = some o := by rw [← Array.getElem?_toList]; have := congrArg (fun l => l[0]?) hd; simpa using this
        have hd' : ops.toList.drop (k + 1) = rest := by rw [← List.drop_drop, hd]; rfl
        simp only [List.length_cons, List.range'_succ, wpOpsIn, hk]
        have hn1 := stepS_next hS.mono (tm' := p.1) (s' := p.2) hp
        have hn2 := evS_next hS.mono h
        refine stepS_sound hS hG hso (tm' := p.1) (s' := p.2) hp r hwf (hf.left hn2) ht hsz hF fun φ1 a1 w1 k1 k2 => ?_
        refine evS_sound hS hG hF rest (k + 1) hd' hl' h k1.rel (k1.ext.wf hwf) (hf.right hn1 k1.same) k2.1 k2.2.1 fun φ2 a2 w2 k3 k4 => ?_
        exact hQ φ2 a2 w2 (Step.trans hwf k1 k3) ⟨k4.1, k4.2.1, k4.2.2.trans k2.2.2⟩
      · cases h
    · cases hc

end
end Go.Proofs.YtoejmfiaaigpbaaGreatDoor.Ev

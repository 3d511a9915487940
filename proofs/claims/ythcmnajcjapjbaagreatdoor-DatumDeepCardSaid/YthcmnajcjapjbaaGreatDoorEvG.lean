/- Part of a verified evaluator of the model's code, generic over the program: a run of the evaluator that answers shows what the model's run answers. No conditions of its own. -/
import Derived.Test.YthcmnajcjapjbaaGreatDoorEvF
set_option linter.unusedSimpArgs false
set_option linter.unusedVariables false
set_option linter.defProp false
namespace Go.Proofs.YthcmnajcjapjbaaGreatDoor.Ev
open Go.RowKit (Below)
def TOk (Q : Nat → IFunc → Prop) : Nat → Nat → Trie IFunc → Prop
  | _, _, .leaf => True
  | a, b, .node v l r => (match v with | some F => Q b F | none => True) ∧ TOk Q (2 * a) (a + b) l ∧ TOk Q (2 * a) (2 * a + b) r
theorem TOk.get {Q : Nat → IFunc → Prop} : ∀ {t : Trie IFunc} {a b n : Nat} {F : IFunc}, TOk Q a b t → t.get n = some F → Q (a * n + b) F
  | .leaf, _, _, _, _, _, h => by simp [Trie.get] at h
  | .node v l r, a, b, n, F, ⟨h1, h2, h3⟩, h => by
    match n with
    | 0 =>
      simp only [Trie.get] at h
      subst h
      simpa using h1
    | m + 1 =>
      simp only [Trie.get] at h
      by_cases e : (m + 1) % 2 = 1
      · have e1 : Nat.beq (Nat.mod (m + 1) 2) 1 = true := by show Nat.beq ((m + 1) % 2) 1 = true; rw [e]; rfl
        rw [e1] at h
        have := h2.get (n := (m + 1) / 2) h
        have e2 : 2 * a * ((m + 1) / 2) + (a + b) = a * (m + 1) + b := by
          have : m + 1 = 2 * ((m + 1) / 2) + 1 := by omega
          generalize (m + 1) / 2 = k at this ⊢
          rw [this, Nat.mul_add, Nat.mul_one, Nat.mul_comm 2 a, Nat.mul_assoc, Nat.add_assoc]
        rw [e2] at this; exact this
      · have e1 : Nat.beq (Nat.mod (m + 1) 2) 1 = false := by
          show Nat.beq ((m + 1) % 2) 1 = false
          have : (m + 1) % 2 = 0 := by omega
          rw [this]; rfl
        rw [e1] at h
        have := h3.get (n := Nat.pred ((m + 1) / 2)) h
        have e2 : 2 * a * (Nat.pred ((m + 1) / 2)) + (2 * a + b) = a * (m + 1) + b := by
          have : m + 1 = 2 * (Nat.pred ((m + 1) / 2)) + 2 := by simp only [Nat.pred_eq_sub_one]; omega
          generalize Nat.pred ((m + 1) / 2) = k at this ⊢
          rw [this, Nat.mul_add, Nat.mul_comm 2 a, Nat.mul_assoc, ← Nat.add_assoc]
        rw [e2] at this; exact this
def Q (P : Program) (k : Nat) (F : IFunc) : Prop := ∃ fn, P.funcs[k]? = some fn ∧ cFunc P fn = some F
theorem envOk_of {P : Program} {E : Env} (h : TOk (Q P) 1 0 E.funs) : EnvOk P E := fun f F hf => by
  have := h.get hf
  rw [Nat.one_mul, Nat.add_zero] at this; exact this
def okB : Option (AV × St) → Bool
  | some (.bool true, _) => true
  | _ => false
theorem okB_some {r : Option (AV × St)} (h : okB r = true) : ∃ s, r = some (.bool true, s) := by
  match r, h with
  | some (.bool true, s), _ => exact ⟨s, rfl⟩
theorem globRel_nil (w : World) : GlobRel [] w := fun g cs h _ => by simp at h
theorem walk_of {P : Program} {E : Env} {w : World} (hm : P.follows .mixedOrders = true) (hg : E.globs = []) (hE : TOk (Q P) 1 0 E.funs) {n f : Nat} (h : okB ((ev E n).call f [] s0) = true) :
    Calls P f #[] w fun e w' => e = .returned (.bool true) ∧ Below w.heap.size w w' := by
  obtain ⟨s, hs⟩ := okB_some h
  exact walk_true hm (by rw [hg]; exact globRel_nil w) (envOk_of hE) hs
open Go.RowKit (Below)
abbrev Orc := Nat → Option (List AV → St → Option (AV × St))
noncomputable def pureG (g : List AV → Option AV) (args : List AV) (s : St) : Option (AV × St) :=
  match g args with
  | some v => some (v, s)
  | none => none
def OrcExt (O : Orc) : Prop := ∀ f g, O f = some g → ∀ args s v s', g args s = some (v, s') → Ext s s'
noncomputable def callO (E : Env) (O : Orc) (S : Self) (f : Nat) (args : List AV) (s : St) : Option (AV × St) :=
  match O f with
  | some g => g args s
  | none => callF E S f args s
noncomputable def evT (E : Env) (O : Orc) : Nat → Self
  | 0 => ⟨fun _ _ _ => none, fun _ _ _ _ => none, fun _ _ _ => none⟩
  | n + 1 => ⟨fun f args s => callO E O (evT E O n) f args s, fun rd b fr s => evC E (evT E O n) rd (.loop b) fr s, fun l args s => roundF E (evT E O n) l args s⟩
theorem pureG_some {g : List AV → Option AV} {args : List AV} {s s' : St} {v : AV} (h : pureG g args s = some (v, s')) : g args = some v ∧ s' = s := by
  unfold pureG at h
  split at h
  · rename_i u hu; simp only [Option.some.injEq, Prod.mk.injEq] at h; exact ⟨by rw [hu, h.1], h.2.symm⟩
  · cases h
theorem callO_inv {E : Env} {O : Orc} {S : Self} {f : Nat} {args : List AV} {s s' : St} {v : AV} (h : callO E O S f args s = some (v, s')) :
    (∃ g, O f = some g ∧ g args s = some (v, s')) ∨ (O f = none ∧ callF E S f args s = some (v, s')) := by
  unfold callO at h
  split at h
  · rename_i g hg; exact .inl ⟨g, hg, h⟩
  · rename_i hg; exact .inr ⟨hg, h⟩
theorem evT_mono (E : Env) {O : Orc} (hx : OrcExt O) : ∀ n, Mono (evT E O n)
  | 0 => ⟨fun _ _ _ _ _ h => by simp [evT] at h, fun _ _ _ _ _ _ _ h => by simp [evT] at h, fun _ _ _ _ _ h => by simp [evT] at h⟩
  | n + 1 => ⟨fun f args s v s' h => by
      rcases callO_inv h with ⟨g, hg, h⟩ | ⟨_, h⟩
      · exact (hx f g hg _ _ _ _ h).next
      · exact callF_next (evT_mono E hx n) h,
    fun _ _ _ _ _ _ _ h => evC_next (evT_mono E hx n) h, fun _ _ _ _ _ h => roundF_next (evT_mono E hx n) h⟩
theorem evT_ext (E : Env) {O : Orc} (hx : OrcExt O) : ∀ n, ExtS (evT E O n)
  | 0 => ⟨fun _ _ _ _ _ h => by simp [evT] at h, fun _ _ _ _ _ _ _ h => by simp [evT] at h, fun _ _ _ _ _ h => by simp [evT] at h⟩
  | n + 1 => ⟨fun f args s v s' h => by
      rcases callO_inv h with ⟨g, hg, h⟩ | ⟨_, h⟩
      · exact hx f g hg _ _ _ _ h
      · exact callF_ext (evT_ext E hx n) h,
    fun _ _ _ _ _ _ _ h => evC_ext (evT_ext E hx n) h, fun _ _ _ _ _ h => roundF_ext (evT_ext E hx n) h⟩
def SC (P : Program) (w0 : World) (f : Nat) (args : List AV) (s : St) (v : AV) (s' : St) : Prop :=
  (∃ fn, P.funcs[f]? = some fn ∧ fn.body.isSome = true ∧ (fn.name == "runtime.NumGoroutine") = false) ∧
  ∀ (φ : Phi) (w : World) (xs : List Value), Rel P w0 φ s.get w → Wf s → Fresh φ s s' → VRL φ args xs → ∀ F n, Wide F → CallsIn F n P f xs.toArray w (RetQ P w0 φ s w v s')
def KnownCall (P : Program) (w0 : World) (f : Nat) (g : List AV → St → Option (AV × St)) : Prop :=
  ∀ args s v s', g args s = some (v, s') → SC P w0 f args s v s'
theorem GlobRel.up {G : List (List AV)} {w0 w : World} (h : GlobRel G w0) (hb : Below w0.heap.size w0 w) : GlobRel G w := fun g cs hg hne => by
  obtain ⟨h1, c, e, fr, h2, h3, h4⟩ := h g cs hg hne
  exact ⟨Nat.lt_of_lt_of_le h1 hb.size, c, e, fr, (hb.block g h1).trans h2, h3, h4⟩
theorem evT_ok {P : Program} {w0 : World} {E : Env} {O : Orc} (hx : OrcExt O) (hm : P.follows .mixedOrders = true) (hG : GlobRel E.globs w0) (hE : EnvOk P E) (hO : ∀ f g, O f = some g → KnownCall P w0 f g) : ∀ n, SelfOk P w0 (evT E O n)
  | 0 => ⟨evT_mono E hx 0, evT_ext E hx 0, fun h => by simp [evT] at h, fun h => by simp [evT] at h, fun h => by simp [evT] at h⟩
  | n + 1 =>
    have ih := evT_ok hx hm hG hE hO n
    have hD : DrawOk P w0 E (evT E O n) := draw_ok hm hG _ ih
    ⟨evT_mono E hx (n + 1), evT_ext E hx (n + 1), fun {f args s v s'} h => by
      rcases callO_inv h with ⟨g, hg, hv⟩ | ⟨_, h⟩
      · obtain ⟨h1, h2⟩ := hO f g hg args s v s' hv
        exact ⟨h1, fun {φ w xs} r hwf hf hx F k hF => h2 φ w xs r hwf hf hx F k hF⟩
      · exact callF_sound ih hG hE hD h,
    fun h _ _ _ _ r hwf hf ha hB => roundF_sound ih hG hD h r hwf hf ha hB, fun h _ _ _ _ _ hb r hwf hf hfr F k hF hrd => loop_sound ih hG hD h hb r hwf hf hfr F k hF hrd⟩
theorem walk_gen {P : Program} {w : World} {E : Env} {O : Orc} (hx : OrcExt O) (hm : P.follows .mixedOrders = true) (hG : GlobRel E.globs w) (hE : EnvOk P E) (hO : ∀ f g, O f = some g → KnownCall P w f g)
    {n f : Nat} {args : List AV} {s s' : St} {v : AV} (h : (evT E O n).call f args s = some (v, s')) {φ : Phi} {xs : List Value} (r : Rel P w φ s.get w) (hwf : Wf s) (hf : ∀ id, s.next ≤ id → φ id = none) (hxs : VRL φ args xs) :
    Calls P f xs.toArray w fun e w' => ∃ φ' x, e = .returned x ∧ VR φ' v x ∧ Below w.heap.size w w' := by
  have := ((evT_ok hx hm hG hE hO n).call h).2 r hwf hf hxs Fence.wide 0 ⟨fun _ => trivial, rfl⟩
  refine callsIn_wide.1 (CallsIn.mono this ?_)
  rintro e w' ⟨φ', x, rfl, k1, k2⟩
  exact ⟨φ', x, rfl, k2, k1.rel.base⟩
def eqN : List Nat → List Nat → Bool
  | [], [] => true
  | a :: x, b :: y => Nat.beq a b && eqN x y
  | _, _ => false
theorem eqN_eq : ∀ {a b : List Nat}, eqN a b = true → a = b
  | [], [], _ => rfl
  | [], _ :: _, h => by simp [eqN] at h
  | _ :: _, [], h => by simp [eqN] at h
  | a :: x, b :: y, h => by
    simp only [eqN, Bool.and_eq_true, beq_iff] at h
    rw [h.1, eqN_eq h.2]
mutual
def eqA : AV → AV → Bool
  | .bool a, .bool b => a == b
  | .int k n, .int k' m => kindEq k k' && eqI n m
  | .str a, .str b => eqN a b
  | .nils, .nils => true
  | .nilp, .nilp => true
  | .agg a, .agg b => eqAL a b
  | .tup a, .tup b => eqAL a b
  | .lst n e a, .lst m f b => Nat.beq n m && (e == f) && eqAL a b
  | _, _ => false
def eqAL : List AV → List AV → Bool
  | [], [] => true
  | a :: x, b :: y => eqA a b && eqAL x y
  | _, _ => false
end
mutual
theorem eqA_eq : ∀ {a b : AV}, eqA a b = true → a = b
  | .bool a, b, h => by cases b <;> simp [eqA] at h; rw [h]
  | .int k n, b, h => by
    cases b <;> simp only [eqA, Bool.and_eq_true, kindEq_eq, eqI_eq, decide_eq_true_eq, beq_iff_eq] at h <;> first | (cases h; done) | skip
    rw [h.1, h.2]
  | .str a, b, h => by
    cases b <;> simp only [eqA] at h <;> first | (cases h; done) | skip
    rw [eqN_eq h]
  | .nils, b, h => by cases b <;> simp [eqA] at h; rfl
  | .nilp, b, h => by cases b <;> simp [eqA] at h; rfl
  | .agg a, b, h => by
    cases b <;> simp only [eqA] at h <;> first | (cases h; done) | skip
    rw [eqAL_eq h]
  | .lst n e a, b, h => by
    cases b <;> simp only [eqA, Bool.and_eq_true, beq_iff, beq_iff_eq] at h <;> first | (cases h; done) | skip
    rw [h.1.1, h.1.2, eqAL_eq h.2]
  | .ptr _ _, b, h => by cases b <;> simp [eqA] at h
  | .gptr _ _, b, h => by cases b <;> simp [eqA] at h
  | .sl _ _ _ _, b, h => by cases b <;> simp [eqA] at h
  | .sl0, b, h => by cases b <;> simp [eqA] at h
  | .map _, b, h => by cases b <;> simp [eqA] at h
  | .nilm, b, h => by cases b <;> simp [eqA] at h
  | .fn _ _ _, b, h => by cases b <;> simp [eqA] at h
  | .nilf, b, h => by cases b <;> simp [eqA] at h
  | .yld _, b, h => by cases b <;> simp [eqA] at h
  | .ifc _ _, b, h => by cases b <;> simp [eqA] at h
  | .nili, b, h => by cases b <;> simp [eqA] at h
  | .tup a, b, h => by
    cases b <;> simp only [eqA] at h <;> first | (cases h; done) | skip
    rw [eqAL_eq h]
  | .gr _ _ _ _, b, h => by cases b <;> simp [eqA] at h
  | .vp _, b, h => by cases b <;> simp [eqA] at h
theorem eqAL_eq : ∀ {a b : List AV}, eqAL a b = true → a = b
  | [], [], _ => rfl
  | [], _ :: _, h => by simp [eqAL] at h
  | _ :: _, [], h => by simp [eqAL] at h
  | a :: x, b :: y, h => by
    simp only [eqAL, Bool.and_eq_true] at h
    rw [eqA_eq h.1, eqAL_eq h.2]
end
def gList : List (List AV × AV) → List AV → Option AV
  | [], _ => none
  | p :: r, args => bif eqAL p.1 args then some p.2 else gList r args
def s00 (m : Nat) (b : Bool) : St := { objs := .leaf, next := 0, wm := m, hide := [], only := none, md := b }
theorem s00_get (m : Nat) (b : Bool) (id : Nat) : (s00 m b).get id = none := by
  cases h : (s00 m b).get id with
  | none => rfl
  | some o => have := get_some h; simp [s00, Trie.get] at this
theorem SC.up {P : Program} {w0 : World} {f : Nat} {args : List AV} {v : AV} {b : Bool} {s1 : St} (h : SC P w0 f args (s00 0 b) v s1) (hp1 : pureL args = true) (hp2 : pureA v = true) (s : St) : SC P w0 f args s v s := by
  refine ⟨h.1, fun φ w xs r hwf hf hx F k hF => ?_⟩
  have r0 : Rel P w0 ⟨fun _ => none, φ.z⟩ (s00 0 b).get w := by
    refine ⟨r.base, fun id o h => ?_, (fun id B h => by cases h), (fun id _ _ _ h => by cases h), fun id _ _ _ _ _ h => ?_, r.frz, fun _ _ _ _ h => by cases h⟩
    · rw [s00_get] at h; cases h
    · rw [s00_get] at h; cases h
  have hcall := h.2 _ w xs r0 ⟨(fun id o h => by simp [s00, Trie.get] at h), fun p hp => by simp [s00] at hp⟩ (fun _ _ => rfl) (VRL.pure (φ := φ) (φ' := ⟨fun _ => none, φ.z⟩) (fun _ _ _ h => h) _ _ hp1 hx) F k hF
  refine CallsIn.mono hcall ?_
  rintro e w1 ⟨φ1, x, rfl, k1, k2⟩
  have hold : ∀ b, b < w.heap.size → w1.heap[b]? = w.heap[b]? := fun b hb => k1.frame b hb fun id o B ho => by rw [s00_get] at ho; cases ho
  have hz : ∀ b i u, φ1.z b i = some u → φ.z b i = some u ∨ w.heap.size ≤ b := fun b i u hu => by
    rcases k1.zown b i u hu with h1 | h1 | ⟨id0, o0, B0, q1, _⟩
    · exact .inl h1
    · exact .inr h1
    · rw [s00_get] at q1; cases q1
  refine ⟨φ.zset φ1.z, x, rfl, ⟨Ext.refl _, ⟨k1.rel.base, fun id o ho => ?_, fun id B hB => ?_, r.old, r.inj, k1.rel.frz, fun id o B ho hB => ?_⟩, fun _ _ => rfl, k1.size, fun b hlt _ => hold b hlt, (fun id _ h1 h2 => absurd h2 (by omega)), k1.zsub, fun b i u hu => ?_⟩, VR.pure (φ := φ1) (φ' := φ.zset φ1.z) (fun _ _ _ h => h) _ _ hp2 k2⟩
  · obtain ⟨B, hB, t⟩ := r.obj id o ho
    exact ⟨B, hB, t.keep (φ := φ) (φ' := φ.zset φ1.z) ⟨fun _ _ h => h, k1.zsub⟩ (hold _ (r.rng id B hB))⟩
  · have hB' : φ id = some B := hB
    have h1 := r.rng id B hB'
    have h2 := k1.size
    omega
  · refine (r.sep id o B ho hB).congr fun i => ?_
    have hB' : φ id = some B := hB
    show φ1.z B.b i = φ.z B.b i
    cases h1 : φ1.z B.b i with
    | none =>
      cases h2 : φ.z B.b i with
      | none => rfl
      | some u => have := k1.zsub B.b i u h2; rw [h1] at this; cases this
    | some u =>
      rcases hz _ _ _ h1 with h2 | h2
      · exact h2.symm
      · have := r.rng id B hB'; omega
  · rcases hz b i u hu with h1 | h1
    · exact .inl h1
    · exact .inr (.inl h1)
theorem knownCall_of {P : Program} {w0 : World} {E : Env} {O : Orc} (hx : OrcExt O) (hm : P.follows .mixedOrders = true) (hG : GlobRel E.globs w0) (hE : EnvOk P E) (hO : ∀ f g, O f = some g → KnownCall P w0 f g) {f : Nat} {L : List (List AV × AV)}
    (h : ∀ p ∈ L, pureL p.1 = true ∧ pureA p.2 = true ∧ ∃ n s', (evT E O n).call f p.1 (s00 0 false) = some (p.2, s')) : KnownCall P w0 f (pureG (gList L)) := by
  intro args s v s' hg
  have hg0 := pureG_some hg
  clear hg
  obtain ⟨hg, rfl⟩ := hg0
  obtain ⟨p, hp, rfl, rfl⟩ : ∃ p ∈ L, p.1 = args ∧ p.2 = v := by
    clear h
    induction L with
    | nil => simp [gList] at hg
    | cons q r ih =>
      simp only [gList] at hg
      cases hb : eqAL q.1 args with
      | true => rw [hb] at hg; simp only [cond_true, Option.some.injEq] at hg; exact ⟨q, by simp, eqAL_eq hb, hg⟩
      | false =>
        rw [hb] at hg; simp only [cond_false] at hg
        obtain ⟨p, h1, h2⟩ := ih hg
        exact ⟨p, by simp [h1], h2⟩
  obtain ⟨hp1, hp2, n, s1, hc⟩ := h p hp
  have hs := (evT_ok (w0 := w0) hx hm hG hE hO n).call hc
  exact SC.up (b := false) (s1 := s1) ⟨hs.1, fun φ w xs r hwf hf hx F k hF => hs.2 r hwf hf hx F k hF⟩ hp1 hp2 s'
structure LeS (S S' : Self) : Prop where
  call : ∀ f a s r, S.call f a s = some r → S'.call f a s = some r
  loop : ∀ rd b fr s r, S.loop rd b fr s = some r → S'.loop rd b fr s = some r
  round : ∀ l a s r, S.round l a s = some r → S'.round l a s = some r
structure LimS (T : Nat → Self) (L : Self) : Prop where
  call : ∀ f a s r, L.call f a s = some r → ∃ n, (T n).call f a s = some r
  loop : ∀ rd b fr s r, L.loop rd b fr s = some r → ∃ n, (T n).loop rd b fr s = some r
  round : ∀ l a s r, L.round l a s = some r → ∃ n, (T n).round l a s = some r
theorem LeS.refl (S : Self) : LeS S S := ⟨fun _ _ _ _ h => h, fun _ _ _ _ _ h => h, fun _ _ _ _ h => h⟩
theorem LeS.trans {S S' S'' : Self} (h : LeS S S') (h' : LeS S' S'') : LeS S S'' :=
  ⟨fun _ _ _ _ t => h'.call _ _ _ _ (h.call _ _ _ _ t), fun _ _ _ _ _ t => h'.loop _ _ _ _ _ (h.loop _ _ _ _ _ t), fun _ _ _ _ t => h'.round _ _ _ _ (h.round _ _ _ _ t)⟩
theorem LeS.chain {T : Nat → Self} (h : ∀ n, LeS (T n) (T (n + 1))) : ∀ {n m : Nat}, n ≤ m → LeS (T n) (T m)
  | n, 0, hle => by have : n = 0 := by omega
                    subst this; exact LeS.refl _
  | n, m + 1, hle => by
    by_cases e : n = m + 1
    · subst e; exact LeS.refl _
    · exact (LeS.chain h (n := n) (m := m) (by omega)).trans (h m)
structure Ct {α : Type} (X : Self → Option α) : Prop where
  up : ∀ S S', LeS S S' → ∀ r, X S = some r → X S' = some r
  fin : ∀ (T : Nat → Self) (L : Self), (∀ n, LeS (T n) (T (n + 1))) → LimS T L → ∀ r, X L = some r → ∃ n, X (T n) = some r
theorem Ct.const {α : Type} (x : Option α) : Ct fun _ => x := ⟨fun _ _ _ _ h => h, fun _ _ _ _ _ h => ⟨0, h⟩⟩
theorem Ct.call (f : Nat) (a : List AV) (s : St) : Ct fun S => S.call f a s := ⟨fun _ _ h _ t => h.call _ _ _ _ t, fun _ _ _ h _ t => h.call _ _ _ _ t⟩
theorem Ct.loop (rd : Option Nat) (b : ICode) (fr : Fr) (s : St) : Ct fun S => S.loop rd b fr s := ⟨fun _ _ h _ t => h.loop _ _ _ _ _ t, fun _ _ _ h _ t => h.loop _ _ _ _ _ t⟩
theorem Ct.round (l : Nat) (a : List AV) (s : St) : Ct fun S => S.round l a s := ⟨fun _ _ h _ t => h.round _ _ _ _ t, fun _ _ _ h _ t => h.round _ _ _ _ t⟩
theorem Ct.bind {α β : Type} {X : Self → Option α} {k : Self → Option α → Option β} (hX : Ct X) (h0 : ∀ S, k S none = none) (hk : ∀ x, Ct fun S => k S (some x)) : Ct fun S => k S (X S) where
  up := fun S S' hS r h => by
    cases hx : X S with
    | none => rw [hx, h0] at h; cases h
    | some x => rw [hx] at h; rw [hX.up S S' hS x hx]; exact (hk x).up S S' hS r h
  fin := fun T L hT hL r h => by
    cases hx : X L with
    | none => rw [hx, h0] at h; cases h
    | some x =>
      rw [hx] at h
      obtain ⟨n, hn⟩ := hX.fin T L hT hL x hx
      obtain ⟨m, hm⟩ := (hk x).fin T L hT hL r h
      refine ⟨n + m, ?_⟩
      rw [hX.up _ _ (LeS.chain hT (by omega)) x hn]
      exact (hk x).up _ _ (LeS.chain hT (by omega)) r hm
theorem Ct.map {α β : Type} {X : Self → Option α} (g : Option α → Option β) (hX : Ct X) (h0 : g none = none) : Ct fun S => g (X S) :=
  Ct.bind (k := fun _ x => g x) hX (fun _ => h0) fun x => Ct.const (g (some x))
theorem ct_evOp (E : Env) (op : IOp) (tm : Trie AV) (s : St) : Ct fun S => evOp E S op tm s := by
  cases op
  case call f args =>
    show Ct fun S => evCl S f (evL tm args) s
    cases evL tm args with
    | none => exact Ct.const none
    | some vs => exact Ct.call f vs s
  case cv x args =>
    show Ct fun S => evCv S (x.ev tm) (evL tm args) s
    cases evL tm args with
    | none => exact Ct.const none
    | some vs =>
      cases x.ev tm with
      | none => exact Ct.const none
      | some u =>
        cases u
        case fn f a c => exact Ct.call f (a ++ vs ++ c) s
        case yld l => exact Ct.round l vs s
        all_goals exact Ct.const none
  all_goals exact Ct.const _
theorem ct_stepS (E : Env) (o : SOper) (tm : Trie AV) (s : St) : Ct fun S => stepS E S o tm s := by
  unfold stepS
  cases wants o.guard tm with
  | none => exact Ct.const none
  | some b =>
    cases b with
    | true => exact (ct_evOp E o.op tm s).map (stS tm o.dst) rfl
    | false => exact Ct.const _
theorem ct_evS (E : Env) : ∀ (l : List SOper) (tm : Trie AV) (s : St), Ct fun S => evS E S l tm s
  | [], _, _ => Ct.const _
  | o :: r, tm, s => Ct.bind (k := fun S x => match x with | some p => evS E S r p.1 p.2 | none => none) (ct_stepS E o tm s) (fun _ => rfl) fun p => ct_evS E r p.1 p.2
theorem ct_stepD (E : Env) (o : DOper) (i : Nat) (log : List LogE) (tm : Trie AV) (s : St) : Ct fun S => stepD E S o i log tm s := by
  unfold stepD
  cases wants o.o.guard tm with
  | none => exact Ct.const none
  | some b =>
    cases b with
    | true => exact (ct_evOp E o.o.op tm _).map (endD o i log tm s) rfl
    | false => exact Ct.const _
theorem ct_evD (E : Env) : ∀ (l : List DOper) (i : Nat) (log : List LogE) (tm : Trie AV) (s : St), Ct fun S => evD E S l i log tm s
  | [], _, _, _, _ => Ct.const _
  | o :: r, i, log, tm, s => Ct.bind (k := fun S x => match x with | some p => evD E S r (Nat.succ i) p.1 p.2.1 p.2.2 | none => none) (ct_stepD E o i log tm s) (fun _ => rfl) fun p => ct_evD E r _ _ _ _
theorem ct_thenR {X : Self → Option (Res × Fr × St)} {k : Self → Fr → St → Option (Res × Fr × St)} (hX : Ct X) (hk : ∀ fr s, Ct fun S => k S fr s) : Ct fun S => thenR (k S) (X S) :=
  Ct.bind (k := fun S x => thenR (k S) x) hX (fun _ => rfl) fun p => by
    obtain ⟨r, fr, s⟩ := p
    cases r with
    | norm => exact hk fr s
    | exit i => exact Ct.const _
    | ret => exact Ct.const _
theorem ct_evC (E : Env) (rd : Option Nat) : ∀ (c : ICode) (fr : Fr) (s : St), Ct fun S => evC E S rd c fr s
  | .skip, _, _ => Ct.const _
  | .reg ops, fr, s => (ct_evS E ops fr.tm s).map (normR fr.df) rfl
  | .regd ops, fr, s => by
    show Ct fun S => regdR E S ops fr s
    unfold regdR
    cases s.only with
    | none => exact (ct_evD E ops 0 [] fr.tm s).map (normR fr.df) rfl
    | some _ => exact Ct.const none
  | .seq a b, fr, s => ct_thenR (ct_evC E rd a fr s) (ct_evC E rd b)
  | .cond c a b, fr, s => by
    show Ct fun S => condR (c.ev fr.tm) (evC E S rd a) (evC E S rd b) fr s
    cases c.ev fr.tm with
    | none => exact Ct.const none
    | some v =>
      cases v
      case bool x => cases x with
        | true => exact ct_evC E rd a fr s
        | false => exact ct_evC E rd b fr s
      all_goals exact Ct.const none
  | .block id b, fr, s => (ct_evC E rd b fr s).map (blockR id) rfl
  | .loop b, fr, s => ct_thenR (ct_evC E rd b fr s) (fun fr s => Ct.loop rd b fr s)
  | .exit _, _, _ => Ct.const _
  | .ret, _, _ => Ct.const _
  | .rf g ps asg body, fr, s => by
    show Ct fun S => rfR S rd (g.ev fr.tm) ps asg body fr s
    unfold rfR
    cases rd with
    | some _ => exact Ct.const none
    | none =>
      simp only
      cases g.ev fr.tm with
      | none => exact Ct.const none
      | some v =>
        cases v
        case fn f a c => exact (Ct.call f _ _).map (rfEnd fr (Nat.succ s.next) s.next) rfl
        all_goals exact Ct.const none
  | .stk, _, _ => Ct.const _
  | .both t d a b, fr, s => by
    show Ct fun S => bothR (t :: d :: (dstsC a ++ dstsC b)) fr s (evC E S rd a { tm := (fr.tm.del t).set d (.bool true), df := fr.df } { s with wm := 0 }) (evC E S rd b { tm := (fr.tm.del t).set d (.bool false), df := fr.df } { s with wm := 0 })
    refine Ct.bind (k := fun S x => bothR (t :: d :: (dstsC a ++ dstsC b)) fr s x (evC E S rd b { tm := (fr.tm.del t).set d (.bool false), df := fr.df } { s with wm := 0 })) (ct_evC E rd a { tm := (fr.tm.del t).set d (.bool true), df := fr.df } { s with wm := 0 }) (fun S => ?_) fun p => ?_
    · unfold bothR; split <;> rfl
    · refine (ct_evC E rd b { tm := (fr.tm.del t).set d (.bool false), df := fr.df } { s with wm := 0 }).map (bothR (t :: d :: (dstsC a ++ dstsC b)) fr s (some p)) ?_
      unfold bothR; split <;> simp only
      split <;> rfl
theorem ct_bodyF (E : Env) (F : IFunc) (args : List AV) (s : St) : Ct fun S => bodyF E S F args s :=
  (ct_evC E none F.body _ s).map (callEnd E.globs F.res) rfl
theorem ct_callF (E : Env) (f : Nat) (args : List AV) (s : St) : Ct fun S => callF E S f args s := by
  unfold callF
  cases E.funs.get f with
  | none => exact Ct.const none
  | some F =>
    simp only
    cases Nat.ble (lenN args) F.ntmps with
    | false => exact Ct.const none
    | true =>
      simp only [cond_true]
      cases E.pure f with
      | true => exact (ct_bodyF E F args _).map (popR s) rfl
      | false => exact (ct_bodyF E F args _).map (mdR s.md) rfl
theorem ct_callO (E : Env) (O : Orc) (f : Nat) (args : List AV) (s : St) : Ct fun S => callO E O S f args s := by
  unfold callO
  cases O f with
  | none => exact ct_callF E f args s
  | some g => exact Ct.const _
theorem ct_roundF (E : Env) (l : Nat) (args : List AV) (s : St) : Ct fun S => roundF E S l args s := by
  unfold roundF
  cases s.get l with
  | none => exact Ct.const none
  | some o =>
    cases o
    case loop st pend tm ps asg body d =>
      simp only
      cases setPs tm ps args with
      | none => exact Ct.const none
      | some tm1 =>
        simp only
        refine Ct.bind (k := fun S x => roundBody E S l body x) (ct_evC E (some l) asg _ s) (fun _ => rfl) fun p => ?_
        unfold roundBody
        obtain ⟨r, fr, s1⟩ := p
        cases r with
        | exit i => exact Ct.const none
        | ret => exact Ct.const none
        | norm =>
          simp only
          cases s1.get l with
          | none => exact Ct.const none
          | some o =>
            cases o
            case loop st pend tm ps asg body d =>
              cases st with
              | ready => exact (ct_evC E (some l) _ fr _).map (roundEnd l) rfl
              | busy => exact Ct.const none
              | done => exact Ct.const none
              | exhausted => exact Ct.const none
            all_goals exact Ct.const none
    all_goals exact Ct.const none
theorem evT_le (E : Env) (O : Orc) : ∀ n, LeS (evT E O n) (evT E O (n + 1))
  | 0 => ⟨fun _ _ _ _ h => by simp [evT] at h, fun _ _ _ _ _ h => by simp [evT] at h, fun _ _ _ _ h => by simp [evT] at h⟩
  | n + 1 =>
    have ih := evT_le E O n
    ⟨fun f a s r h => (ct_callO E O f a s).up _ _ ih r h, fun rd b fr s r h => (ct_evC E rd (.loop b) fr s).up _ _ ih r h, fun l a s r h => (ct_roundF E l a s).up _ _ ih r h⟩
noncomputable section
open Classical in
def limO {α : Type} (X : Nat → Option α) : Option α := if h : ∃ r n, X n = some r then some (Classical.choose h) else none
theorem limO_fin {α : Type} {X : Nat → Option α} {r : α} (h : limO X = some r) : ∃ n, X n = some r := by
  unfold limO at h
  split at h
  · rename_i hx
    cases h; exact Classical.choose_spec hx
  · cases h
theorem limO_of {α : Type} {X : Nat → Option α} (hm : ∀ n r, X n = some r → X (n + 1) = some r) {n : Nat} {r : α} (h : X n = some r) : limO X = some r := by
  have up : ∀ k m r, X m = some r → X (m + k) = some r := fun k => by
    induction k with
    | zero => intro m r h; exact h
    | succ k ih => intro m r h; exact hm _ _ (ih m r h)
  unfold limO
  have hx : ∃ r n, X n = some r := ⟨r, n, h⟩
  rw [dif_pos hx]
  obtain ⟨m, hm'⟩ := Classical.choose_spec hx
  have h1 := up m n r h
  have h2 := up n m _ hm'
  rw [Nat.add_comm, h1] at h2
  exact h2.symm
def evW (E : Env) (O : Orc) : Self :=
  ⟨fun f a s => limO fun n => (evT E O n).call f a s, fun rd b fr s => limO fun n => (evT E O n).loop rd b fr s, fun l a s => limO fun n => (evT E O n).round l a s⟩
end
theorem evW_lim (E : Env) (O : Orc) : LimS (evT E O) (evW E O) := ⟨fun _ _ _ _ h => limO_fin h, fun _ _ _ _ _ h => limO_fin h, fun _ _ _ _ h => limO_fin h⟩
theorem evW_call {E : Env} {O : Orc} {f : Nat} {a : List AV} {s : St} {r : AV × St} (h : callO E O (evW E O) f a s = some r) : (evW E O).call f a s = some r := by
  obtain ⟨n, hn⟩ := (ct_callO E O f a s).fin _ _ (evT_le E O) (evW_lim E O) r h
  exact limO_of (n := n + 1) (fun n r h => (evT_le E O n).call _ _ _ _ h) hn
theorem evW_loop {E : Env} {O : Orc} {rd : Option Nat} {b : ICode} {fr : Fr} {s : St} {r : Res × Fr × St} (h : evC E (evW E O) rd (.loop b) fr s = some r) : (evW E O).loop rd b fr s = some r := by
  obtain ⟨n, hn⟩ := (ct_evC E rd (.loop b) fr s).fin _ _ (evT_le E O) (evW_lim E O) r h
  exact limO_of (n := n + 1) (fun n r h => (evT_le E O n).loop _ _ _ _ _ h) hn
theorem evW_round {E : Env} {O : Orc} {l : Nat} {a : List AV} {s : St} {r : AV × St} (h : roundF E (evW E O) l a s = some r) : (evW E O).round l a s = some r := by
  obtain ⟨n, hn⟩ := (ct_roundF E l a s).fin _ _ (evT_le E O) (evW_lim E O) r h
  exact limO_of (n := n + 1) (fun n r h => (evT_le E O n).round _ _ _ _ h) hn
theorem evW_fin {E : Env} {O : Orc} {f : Nat} {a : List AV} {s : St} {r : AV × St} (h : (evW E O).call f a s = some r) : ∃ n, (evT E O n).call f a s = some r := limO_fin h
open Go.RowKit (Below)
noncomputable def okV (v : AV) : Option (AV × St) → Bool
  | some p => eqA v p.1
  | none => false
theorem okV_some {v : AV} {r : Option (AV × St)} (h : okV v r = true) : ∃ s, r = some (v, s) := by
  cases r with
  | none => simp [okV] at h
  | some p => exact ⟨p.2, by rw [eqA_eq h]⟩
noncomputable def noO : Orc := fun _ => none
noncomputable def withG (f : Nat) (g : List AV → St → Option (AV × St)) (O : Orc) : Orc := fun k => bif Nat.beq f k then some g else O k
noncomputable def withO (f : Nat) (L : List (List AV × AV)) (O : Orc) : Orc := withG f (pureG (gList L)) O
structure OrcOk (P : Program) (w0 : World) (O : Orc) : Prop where
  ext : OrcExt O
  ok : ∀ f g, O f = some g → KnownCall P w0 f g
theorem noO_ok (P : Program) (w0 : World) : OrcOk P w0 noO := ⟨fun _ _ h => by (cases h), fun _ _ h => by (cases h)⟩
theorem OrcOk.withG {P : Program} {w0 : World} {O : Orc} {f : Nat} {g : List AV → St → Option (AV × St)} (hO : OrcOk P w0 O) (he : ∀ args s v s', g args s = some (v, s') → Ext s s') (hk : KnownCall P w0 f g) : OrcOk P w0 (withG f g O) := by
  refine ⟨fun k h hk' => ?_, fun k h hk' => ?_⟩ <;> unfold Ev.withG at hk'
  · cases hb : Nat.beq f k with
    | true => rw [hb] at hk'; simp only [cond_true, Option.some.injEq] at hk'; subst hk'; exact he
    | false => rw [hb] at hk'; simp only [cond_false] at hk'; exact hO.ext k h hk'
  · cases hb : Nat.beq f k with
    | true =>
      rw [hb] at hk'; simp only [cond_true, Option.some.injEq] at hk'; subst hk'
      rw [beq_iff] at hb; subst hb; exact hk
    | false => rw [hb] at hk'; simp only [cond_false] at hk'; exact hO.ok k h hk'
theorem pureG_ext {g : List AV → Option AV} (args : List AV) (s : St) (v : AV) (s' : St) (h : pureG g args s = some (v, s')) : Ext s s' := by
  obtain ⟨_, rfl⟩ := pureG_some h; exact Ext.refl _
theorem OrcOk.with {P : Program} {w0 : World} {E : Env} {O O' : Orc} {f : Nat} {L : List (List AV × AV)} (hm : P.follows .mixedOrders = true) (hG : GlobRel E.globs w0) (hE : EnvOk P E) (hO : OrcOk P w0 O) (hO' : OrcOk P w0 O')
    (h : ∀ p ∈ L, pureL p.1 = true ∧ pureA p.2 = true ∧ ∃ n, okV p.2 ((evT E O' n).call f p.1 s0) = true) : OrcOk P w0 (withO f L O) :=
  hO.withG pureG_ext (knownCall_of hO'.ext hm hG hE hO'.ok fun p hp => by
    obtain ⟨h1, h2, n, h3⟩ := h p hp
    obtain ⟨s, hs⟩ := okV_some h3
    exact ⟨h1, h2, n, s, hs⟩)
theorem walk_known {P : Program} {E : Env} {O : Orc} {w : World} (hm : P.follows .mixedOrders = true) (hG : GlobRel E.globs w) (hE : EnvOk P E) (hO : OrcOk P w O) {n f : Nat} (h : okV (.bool true) ((evT E O n).call f [] s0) = true) :
    Calls P f #[] w fun e w' => e = .returned (.bool true) ∧ Below w.heap.size w w' := by
  obtain ⟨s, hs⟩ := okV_some h
  refine Calls.mono (walk_gen hO.ext hm hG hE hO.ok hs (rel_s0 w) ⟨(fun id o h => by simp [s0, Trie.get] at h), fun p hp => by simp [s0] at hp⟩ (fun _ _ => rfl) (VRL.nil _)) ?_
  rintro e w' ⟨φ', x, rfl, h1, h2⟩
  simp only [VR] at h1
  exact ⟨by rw [h1], h2⟩
end Go.Proofs.YthcmnajcjapjbaaGreatDoor.Ev

/- Part of a verified evaluator of the model's code, generic over the program: a run of the evaluator that answers shows what the model's run answers. No conditions of its own. -/
import Derived.Test.YtidpamcogkonnaaGreatDoorEvF
import Derived.OpenShut
namespace Go.Proofs.YtidpamcogkonnaaGreatDoor.Ev
open Go.RowKit (Below)

/-- of each function in the table this is so -/
def TOk (Q : Nat → IFunc → Prop) : Nat → Nat → Trie IFunc → Prop
  | _, _, .leaf => True
  | a, b, .node v l r => (match v with | some F => Q b F | none => True) ∧ TOk Q (2 * a) (a + b) l ∧ TOk Q (2 * a) (2 * a + b) r

theorem TOk.get {Q : Nat → IFunc → Prop} : ∀ {t : Trie IFunc} {a b n : Nat} {F : IFunc}, TOk Q a b t → t.get n = some F → Q (a * n + b) F
  | .leaf, _, _, _, _, _, h => by simp [Trie.get] at h
  | .node v l r, a, b, n, F, ⟨h1, h2, h3⟩, h => by
    match n with
    | 0 =>
      simp only [Trie.get] at h
      subst h
      simpa using h1
    | m + 1 =>
      simp only [Trie.get] at h
      by_cases e : (m + 1) % 2 = 1
      · have e1 : Nat.beq (Nat.mod (m + 1) 2) 1 = true := by show Nat.beq ((m + 1) % 2) 1 = true; rw [e]; rfl
        rw [e1] at h
        have := h2.get (n := (m + 1) / 2) h
        have e2 : 2 * a * ((m + 1) / 2) + (a + b) = a * (m + 1) + b := by
          have : m + 1 = 2 * ((m + 1) / 2) + 1 := by omega
          generalize (m + 1) / 2 = k at this ⊢
          rw [this, Nat.mul_add, Nat.mul_one, Nat.mul_comm 2 a, Nat.mul_assoc, Nat.add_assoc]
        rw [e2] at this; exact this
      · have e1 : Nat.beq (Nat.mod (m + 1) 2) 1 = false := by
          show Nat.beq ((m + 1) % 2) 1 = false
          have : (m + 1) % 2 = 0 := by omega
          rw [this]; rfl
        rw [e1] at h
        have := h3.get (n := Nat.pred ((m + 1) / 2)) h
        have e2 : 2 * a * (Nat.pred ((m + 1) / 2)) + (2 * a + b) = a * (m + 1) + b := by
          have : m + 1 = 2 * (Nat.pred ((m + 1) / 2)) + 2 := by simp only [Nat.pred_eq_sub_one]; omega
          generalize Nat.pred ((m + 1) / 2) = k at this ⊢
          rw [this, Nat.mul_add, Nat.mul_comm 2 a, Nat.mul_assoc, ← Nat.add_assoc]
        rw [e2] at this; exact this

def Q (P : Program) (k : Nat) (F : IFunc) : Prop := ∃ fn, P.funcs[k]? = some fn ∧ cFunc P fn = some F

theorem envOk_of {P : Program} {E : Env} (h : TOk (Q P) 1 0 E.funs) : EnvOk P E := fun f F hf => by
  have := h.get hf
  rw [Nat.one_mul, Nat.add_zero] at this; exact this

def okB : Option (AV × St) → Bool
  | some (.bool true, _) => true
  | _ => false
theorem okB_some {r : Option (AV × St)} (h : okB r = true) : ∃ s, r = some (.bool true, s) := by
  match r, h with
  | some (.bool true, s), _ => exact ⟨s, rfl⟩

/-- no package-level variable is looked at -/
theorem globRel_nil (w : World) : GlobRel [] w := fun g cs h _ => by simp at h

theorem walk_of {P : Program} {E : Env} {w : World} (hm : P.follows .mixedOrders = true) (hg : E.globs = []) (hE : TOk (Q P) 1 0 E.funs) {n f : Nat} (h : okB ((ev E n).call f [] s0) = true) :
    Calls P f #[] w fun e w' => e = .returned (.bool true) ∧ Below w.heap.size w w' := by
  obtain ⟨s, hs⟩ := okB_some h
  exact walk_true hm (by rw [hg]; exact globRel_nil w) (envOk_of hE) hs

end Go.Proofs.YtidpamcogkonnaaGreatDoor.Ev
namespace Go.Proofs.YtidpamcogkonnaaGreatDoor.Ev
open Go.RowKit (Below)

/-! ### The evaluator with calls whose answers are known -/
abbrev Orc := Nat → Option (List AV → Option AV)
noncomputable def oAns (g : List AV → Option AV) (args : List AV) (s : St) : Option (AV × St) :=
  match g args with
  | some v => some (v, s)
  | none => none
noncomputable def callO (E : Env) (O : Orc) (S : Self) (f : Nat) (args : List AV) (s : St) : Option (AV × St) :=
  match O f with
  | some g => oAns g args s
  | none => callF E S f args s
noncomputable def evT (E : Env) (O : Orc) : Nat → Self
  | 0 => ⟨fun _ _ _ => none, fun _ _ _ _ => none, fun _ _ _ => none⟩
  | n + 1 => ⟨fun f args s => callO E O (evT E O n) f args s, fun rd b fr s => evC E (evT E O n) rd (.loop b) fr s, fun l args s => roundF E (evT E O n) l args s⟩

theorem oAns_some {g : List AV → Option AV} {args : List AV} {s s' : St} {v : AV} (h : oAns g args s = some (v, s')) : g args = some v ∧ s' = s := by
  unfold oAns at h
  split at h
  · rename_i u hu; simp only [Option.some.injEq, Prod.mk.injEq] at h; exact ⟨by rw [hu, h.1], h.2.symm⟩
  · cases h
theorem callO_inv {E : Env} {O : Orc} {S : Self} {f : Nat} {args : List AV} {s s' : St} {v : AV} (h : callO E O S f args s = some (v, s')) :
    (∃ g, O f = some g ∧ g args = some v ∧ s' = s) ∨ (O f = none ∧ callF E S f args s = some (v, s')) := by
  unfold callO at h
  split at h
  · rename_i g hg; exact .inl ⟨g, hg, oAns_some h⟩
  · rename_i hg; exact .inr ⟨hg, h⟩

theorem evT_mono (E : Env) (O : Orc) : ∀ n, Mono (evT E O n)
  | 0 => ⟨fun _ _ _ _ _ h => by simp [evT] at h, fun _ _ _ _ _ _ _ h => by simp [evT] at h, fun _ _ _ _ _ h => by simp [evT] at h⟩
  | n + 1 => ⟨fun f args s v s' h => by
      rcases callO_inv h with ⟨g, _, _, rfl⟩ | ⟨_, h⟩
      · exact Nat.le_refl _
      · exact callF_next (evT_mono E O n) h,
    fun _ _ _ _ _ _ _ h => evC_next (evT_mono E O n) h, fun _ _ _ _ _ h => roundF_next (evT_mono E O n) h⟩
theorem evT_ext (E : Env) (O : Orc) : ∀ n, ExtS (evT E O n)
  | 0 => ⟨fun _ _ _ _ _ h => by simp [evT] at h, fun _ _ _ _ _ _ _ h => by simp [evT] at h, fun _ _ _ _ _ h => by simp [evT] at h⟩
  | n + 1 => ⟨fun f args s v s' h => by
      rcases callO_inv h with ⟨g, _, _, rfl⟩ | ⟨_, h⟩
      · exact Ext.refl _
      · exact callF_ext (evT_ext E O n) h,
    fun _ _ _ _ _ _ _ h => evC_ext (evT_ext E O n) h, fun _ _ _ _ _ h => roundF_ext (evT_ext E O n) h⟩

/-- a call whose answer is known: it leaves nothing behind -/
def KnownCall (P : Program) (w0 : World) (f : Nat) (g : List AV → Option AV) : Prop :=
  ∀ args v, g args = some v → (∃ fn, P.funcs[f]? = some fn ∧ fn.body.isSome = true ∧ (fn.name == "runtime.NumGoroutine") = false) ∧
  ∀ (φ : Phi) (s : St) (w : World) (xs : List Value), Rel P w0 φ s.get w → Wf s → Fresh φ s s → VRL φ args xs → ∀ F n, Wide F → CallsIn F n P f xs.toArray w (RetQ P w0 φ s w v s)

theorem GlobRel.up {G : List (List AV)} {w0 w : World} (h : GlobRel G w0) (hb : Below w0.heap.size w0 w) : GlobRel G w := fun g cs hg hne => by
  obtain ⟨h1, c, e, fr, h2, h3, h4⟩ := h g cs hg hne
  exact ⟨Nat.lt_of_lt_of_le h1 hb.size, c, e, fr, (hb.block g h1).trans h2, h3, h4⟩

theorem evT_ok {P : Program} {w0 : World} {E : Env} {O : Orc} (hm : P.follows .mixedOrders = true) (hG : GlobRel E.globs w0) (hE : EnvOk P E) (hO : ∀ f g, O f = some g → KnownCall P w0 f g) : ∀ n, SelfOk P w0 (evT E O n)
  | 0 => ⟨evT_mono E O 0, evT_ext E O 0, fun h => by simp [evT] at h, fun h => by simp [evT] at h, fun h => by simp [evT] at h⟩
  | n + 1 =>
    have ih := evT_ok hm hG hE hO n
    have hD : DrawOk P w0 E (evT E O n) := draw_ok hm hG _ ih
    ⟨evT_mono E O (n + 1), evT_ext E O (n + 1), fun {f args s v s'} h => by
      rcases callO_inv h with ⟨g, hg, hv, rfl⟩ | ⟨_, h⟩
      · obtain ⟨h1, h2⟩ := hO f g hg args v hv
        exact ⟨h1, fun {φ w xs} r hwf hf hx F k hF => h2 φ _ w xs r hwf hf hx F k hF⟩
      · exact callF_sound ih hG hE hD h,
    fun h _ _ _ _ r hwf hf ha hB => roundF_sound ih hG hD h r hwf hf ha hB, fun h _ _ _ _ _ hb r hwf hf hfr F k hF hrd => loop_sound ih hG hD h hb r hwf hf hfr F k hF hrd⟩

/-- THE WALK OF A CALL WITH ARGUMENTS. -/
theorem walk_gen {P : Program} {w : World} {E : Env} {O : Orc} (hm : P.follows .mixedOrders = true) (hG : GlobRel E.globs w) (hE : EnvOk P E) (hO : ∀ f g, O f = some g → KnownCall P w f g)
    {n f : Nat} {args : List AV} {s s' : St} {v : AV} (h : (evT E O n).call f args s = some (v, s')) {φ : Phi} {xs : List Value} (r : Rel P w φ s.get w) (hwf : Wf s) (hf : ∀ id, s.next ≤ id → φ id = none) (hx : VRL φ args xs) :
    Calls P f xs.toArray w fun e w' => ∃ φ' x, e = .returned x ∧ VR φ' v x ∧ Below w.heap.size w w' := by
  have := ((evT_ok hm hG hE hO n).call h).2 r hwf hf hx Fence.wide 0 ⟨fun _ => trivial, rfl⟩
  refine callsIn_wide.1 (CallsIn.mono this ?_)
  rintro e w' ⟨φ', x, rfl, k1, k2⟩
  exact ⟨φ', x, rfl, k2, k1.rel.base⟩

/-! ### Calls of known arguments -/
def eqN : List Nat → List Nat → Bool
  | [], [] => true
  | a :: x, b :: y => Nat.beq a b && eqN x y
  | _, _ => false
theorem eqN_eq : ∀ {a b : List Nat}, eqN a b = true → a = b
  | [], [], _ => rfl
  | [], _ :: _, h => by simp [eqN] at h
  | _ :: _, [], h => by simp [eqN] at h
  | a :: x, b :: y, h => by
    simp only [eqN, Bool.and_eq_true, beq_iff] at h
    rw [h.1, eqN_eq h.2]
mutual
/-- are two values the same? (of those kinds that known arguments have) -/
def eqA : AV → AV → Bool
  | .bool a, .bool b => a == b
  | .int k n, .int k' m => kindEq k k' && eqI n m
  | .str a, .str b => eqN a b
  | .nils, .nils => true
  | .nilp, .nilp => true
  | .agg a, .agg b => eqAL a b
  | .lst n e a, .lst m f b => Nat.beq n m && (e == f) && eqAL a b
  | _, _ => false
def eqAL : List AV → List AV → Bool
  | [], [] => true
  | a :: x, b :: y => eqA a b && eqAL x y
  | _, _ => false
end
mutual
theorem eqA_eq : ∀ {a b : AV}, eqA a b = true → a = b
  | .bool a, b, h => by cases b <;> simp [eqA] at h; rw [h]
  | .int k n, b, h => by
    cases b <;> simp only [eqA, Bool.and_eq_true, kindEq_eq, eqI_eq, decide_eq_true_eq, beq_iff_eq] at h <;> first | (cases h; done) | skip
    rw [h.1, h.2]
  | .str a, b, h => by
    cases b <;> simp only [eqA] at h <;> first | (cases h; done) | skip
    rw [eqN_eq h]
  | .nils, b, h => by cases b <;> simp [eqA] at h; rfl
  | .nilp, b, h => by cases b <;> simp [eqA] at h; rfl
  | .agg a, b, h => by
    cases b <;> simp only [eqA] at h <;> first | (cases h; done) | skip
    rw [eqAL_eq h]
  | .lst n e a, b, h => by
    cases b <;> simp only [eqA, Bool.and_eq_true, beq_iff, beq_iff_eq] at h <;> first | (cases h; done) | skip
    rw [h.1.1, h.1.2, eqAL_eq h.2]
  | .ptr _ _, b, h => by cases b <;> simp [eqA] at h
  | .gptr _ _, b, h => by cases b <;> simp [eqA] at h
  | .sl _ _ _ _, b, h => by cases b <;> simp [eqA] at h
  | .sl0, b, h => by cases b <;> simp [eqA] at h
  | .map _, b, h => by cases b <;> simp [eqA] at h
  | .nilm, b, h => by cases b <;> simp [eqA] at h
  | .fn _ _ _, b, h => by cases b <;> simp [eqA] at h
  | .nilf, b, h => by cases b <;> simp [eqA] at h
  | .yld _, b, h => by cases b <;> simp [eqA] at h
  | .ifc _ _, b, h => by cases b <;> simp [eqA] at h
  | .nili, b, h => by cases b <;> simp [eqA] at h
  | .tup _, b, h => by cases b <;> simp [eqA] at h
  | .gr _ _ _ _, b, h => by cases b <;> simp [eqA] at h
  | .vp _, b, h => by cases b <;> simp [eqA] at h
theorem eqAL_eq : ∀ {a b : List AV}, eqAL a b = true → a = b
  | [], [], _ => rfl
  | [], _ :: _, h => by simp [eqAL] at h
  | _ :: _, [], h => by simp [eqAL] at h
  | a :: x, b :: y, h => by
    simp only [eqAL, Bool.and_eq_true] at h
    rw [eqA_eq h.1, eqAL_eq h.2]
end
/-- a list of known arguments and answers -/
def gList : List (List AV × AV) → List AV → Option AV
  | [], _ => none
  | p :: r, args => bif eqAL p.1 args then some p.2 else gList r args

/-- what an evaluation answers of known arguments, it answers whatever there is beside -/
theorem knownCall_of {P : Program} {w0 : World} {E : Env} {O : Orc} (hm : P.follows .mixedOrders = true) (hG : GlobRel E.globs w0) (hE : EnvOk P E) (hO : ∀ w, Below w0.heap.size w0 w → ∀ f g, O f = some g → KnownCall P w f g) {f : Nat} {L : List (List AV × AV)}
    (h : ∀ p ∈ L, pureL p.1 = true ∧ pureA p.2 = true ∧ ∃ n s', (evT E O n).call f p.1 s0 = some (p.2, s')) : KnownCall P w0 f (gList L) := by
  intro args v hg
  obtain ⟨p, hp, rfl, rfl⟩ : ∃ p ∈ L, p.1 = args ∧ p.2 = v := by
    clear h
    induction L with
    | nil => simp [gList] at hg
    | cons q r ih =>
      simp only [gList] at hg
      cases hb : eqAL q.1 args with
      | true => rw [hb] at hg; simp only [cond_true, Option.some.injEq] at hg; exact ⟨q, by simp, eqAL_eq hb, hg⟩
      | false =>
        rw [hb] at hg; simp only [cond_false] at hg
        obtain ⟨p, h1, h2⟩ := ih hg
        exact ⟨p, by simp [h1], h2⟩
  obtain ⟨hp1, hp2, n, s', hc⟩ := h p hp
  refine ⟨((evT_ok (w0 := w0) hm hG hE (hO w0 (Below.refl _ _)) n).call hc).1, fun φ s w xs r hwf hf hx F k hF => ?_⟩
  have hG' := hG.up r.base
  have r0 : Rel P w ⟨fun _ => none, φ.z⟩ s0.get w := by
    refine ⟨Below.refl _ _, fun id o h => ?_, (fun id B h => by cases h), (fun id _ _ _ h => by cases h), fun id _ _ _ _ _ h => ?_, r.frz, fun _ _ _ _ h => by cases h⟩
    · have := get_some h; simp [s0, Trie.get] at this
    · have := get_some h; simp [s0, Trie.get] at this
  have hcall := ((evT_ok (w0 := w) hm hG' hE (hO w r.base) n).call hc).2 r0 ⟨(fun id o h => by simp [s0, Trie.get] at h), fun p hp => by simp [s0] at hp⟩ (fun _ _ => rfl) (VRL.pure (φ := φ) (φ' := ⟨fun _ => none, φ.z⟩) (fun _ _ _ h => h) _ _ hp1 hx) F k hF
  refine CallsIn.mono hcall ?_
  rintro e w1 ⟨φ1, x, rfl, k1, k2⟩
  have hb := k1.rel.base
  have hz : ∀ b i u, φ1.z b i = some u → φ.z b i = some u ∨ w.heap.size ≤ b := fun b i u hu => by
    rcases k1.zown b i u hu with h1 | h1 | ⟨id0, o0, B0, q1, _⟩
    · exact .inl h1
    · exact .inr h1
    · have := get_some q1; simp [s0, Trie.get] at this
  refine ⟨φ.zset φ1.z, x, rfl, ⟨Ext.refl _, ⟨(r.below hb).base, fun id o ho => ?_, (r.below hb).rng, r.old, r.inj, k1.rel.frz, fun id o B ho hB => ?_⟩, fun _ _ => rfl, hb.size, fun b hlt _ => hb.block b hlt, (fun id _ h1 h2 => absurd h2 (by omega)), k1.zsub, fun b i u hu => ?_⟩, VR.pure (φ := φ1) (φ' := φ.zset φ1.z) (fun _ _ _ h => h) _ _ hp2 k2⟩
  · obtain ⟨B, hB, t⟩ := r.obj id o ho
    exact ⟨B, hB, t.keep (φ := φ) (φ' := φ.zset φ1.z) ⟨fun _ _ h => h, k1.zsub⟩ (hb.block _ (r.rng id B hB))⟩
  · refine (r.sep id o B ho hB).congr fun i => ?_
    have hB' : φ id = some B := hB
    show φ1.z B.b i = φ.z B.b i
    cases h1 : φ1.z B.b i with
    | none =>
      cases h2 : φ.z B.b i with
      | none => rfl
      | some u => have := k1.zsub B.b i u h2; rw [h1] at this; cases this
    | some u =>
      rcases hz _ _ _ h1 with h2 | h2
      · exact h2.symm
      · have := r.rng id B hB'; omega
  · rcases hz b i u hu with h1 | h1
    · exact .inl h1
    · exact .inr (.inl h1)
end Go.Proofs.YtidpamcogkonnaaGreatDoor.Ev
namespace Go.Proofs.YtidpamcogkonnaaGreatDoor.Ev

/-! ### What the listed package-level variables hold -/
theorem laid_ints {H : Type} {enc : TypeId × Value → H} {P : Program} {w : World} {base : Nat} {spare : Nat → Bool} {held : Bool} {fuel : Nat} {t e : TypeId} {n : Nat} {k : IntKind} {cs : List Value} {vs : List Int} {p : List MemPlace} (ht : P.underlying t = some (.array n e)) (he : P.underlying e = some (.int k)) (hc : P.cellsOf e = 1) (hct : P.cellsOf t = n)
    (h : DataW.trod enc P w base spare held fuel t cs = some (.agg (vs.map fun v => .lit (.int k v)), p)) : cs = vs.map (.int k ·) := by
  obtain ⟨xs, m, rfl, hx, hlen, hn, hel⟩ := DataW.trod_array ht h
  simp only [Prod.mk.injEq, DataW.agg.injEq] at hx
  have hl : vs.length = n := by
    have := congrArg List.length hx.1
    simp at this; omega
  rw [hct] at hlen
  apply List.ext_getElem?
  intro i
  by_cases hi : i < n
  · have h1 := hel i hi
    rw [hc, Nat.mul_one] at h1
    rw [List.getElem?_eq_getElem (by omega)] at h1
    obtain ⟨z, z1, z2, _⟩ := DataW.trod_int he h1
    have hz : xs[i].1 = .lit (.int k z) := by rw [z2]
    have hv : (vs.map fun v => (DataW.lit (.int k v) : DataW H))[i]? = (xs.map (·.1))[i]? := by rw [hx.1]
    rw [List.getElem?_map, List.getElem?_map, List.getElem?_eq_getElem (by omega), List.getElem?_eq_getElem (by omega)] at hv
    simp only [Option.map_some, Option.some.injEq] at hv
    rw [hz] at hv
    have hvz : vs[i] = z := by simpa using hv
    have hcs : cs[i]? = some (.int k z) := by
      have := congrArg (fun l => l[0]?) z1
      simpa using this
    rw [hcs, List.getElem?_map, List.getElem?_eq_getElem (by omega), Option.map_some, hvz]
  · rw [List.getElem?_eq_none (by omega), List.getElem?_eq_none (by simp; omega)]

theorem VRL_ints (φ : Phi) (k : IntKind) : ∀ vs : List Int, VRL φ (vs.map (AV.int k ·)) (vs.map (Value.int k ·))
  | [] => VRL.nil φ
  | v :: vs => VRL.cons (by simp only [VR]) (VRL_ints φ k vs)

/-- one variable, by its number -/
theorem glob_of {P : Program} {w : World} {name : String} {g : Nat} {cs : Array Value} {k : IntKind} {vs : List Int} (hg : P.globalNamed name = some g) (hv : w.var? P name = some cs) (hcs : cs.toList = vs.map (Value.int k ·)) :
    g < w.heap.size ∧ ∃ c e fr, w.heap[g]? = some (.cells c e fr) ∧ (vs.map (AV.int k ·)).length ≤ c.size ∧ ∀ φ, VRL φ (vs.map (AV.int k ·)) (c.toList.take (vs.map (AV.int k ·)).length) := by
  unfold World.var? at hv
  rw [hg] at hv
  simp only [Option.bind_some] at hv
  cases hh : w.heap[g]? with
  | none => rw [hh] at hv; cases hv
  | some o =>
    rw [hh] at hv
    cases o <;> simp only at hv <;> first | (cases hv; done) | skip
    rename_i c e fr
    have hcc : c = cs := by simpa using hv
    subst hcc
    refine ⟨(Array.getElem?_eq_some_iff.1 hh).1, c, e, fr, rfl, ?_, fun φ => ?_⟩
    · have := congrArg List.length hcs
      simp at this ⊢; omega
    · rw [hcs, List.take_of_length_le (by simp)]; exact VRL_ints φ k vs

/-- the list of what is known: variable g, and variable g' -/
theorem globRel_two {G : List (List AV)} {w : World} {g g' : Nat} {l l' : List AV} (h : g < w.heap.size ∧ ∃ c e fr, w.heap[g]? = some (.cells c e fr) ∧ l.length ≤ c.size ∧ ∀ φ, VRL φ l (c.toList.take l.length)) (h' : g' < w.heap.size ∧ ∃ c e fr, w.heap[g']? = some (.cells c e fr) ∧ l'.length ≤ c.size ∧ ∀ φ, VRL φ l' (c.toList.take l'.length))
    (hG : ∀ i cs, G[i]? = some cs → cs ≠ [] → (i = g ∧ cs = l) ∨ (i = g' ∧ cs = l')) : GlobRel G w := fun i cs hi hne => by
  rcases hG i cs hi hne with ⟨rfl, rfl⟩ | ⟨rfl, rfl⟩
  · exact h
  · exact h'

theorem walk_glob {P : Program} {E : Env} {w : World} (hm : P.follows .mixedOrders = true) (hg : GlobRel E.globs w) (hE : TOk (Q P) 1 0 E.funs) {n f : Nat} (h : okB ((ev E n).call f [] s0) = true) :
    Calls P f #[] w fun e w' => e = .returned (.bool true) ∧ Go.RowKit.Below w.heap.size w w' := by
  obtain ⟨s, hs⟩ := okB_some h
  exact walk_true hm hg (envOk_of hE) hs
end Go.Proofs.YtidpamcogkonnaaGreatDoor.Ev
namespace Go.Proofs.YtidpamcogkonnaaGreatDoor.Ev
open Go.RowKit (Below)

/-! ### A closed call, with known calls -/
noncomputable def okV (v : AV) : Option (AV × St) → Bool
  | some p => eqA v p.1
  | none => false
theorem okV_some {v : AV} {r : Option (AV × St)} (h : okV v r = true) : ∃ s, r = some (v, s) := by
  cases r with
  | none => simp [okV] at h
  | some p => exact ⟨p.2, by rw [eqA_eq h]⟩
noncomputable def noO : Orc := fun _ => none
/-- known calls, one function before the others -/
noncomputable def withO (f : Nat) (L : List (List AV × AV)) (O : Orc) : Orc := fun k => bif Nat.beq f k then some (gList L) else O k
def OrcOk (P : Program) (w0 : World) (O : Orc) : Prop := ∀ w, Below w0.heap.size w0 w → ∀ f g, O f = some g → KnownCall P w f g
theorem noO_ok (P : Program) (w0 : World) : OrcOk P w0 noO := fun _ _ _ _ h => by cases h
theorem OrcOk.with {P : Program} {w0 : World} {E : Env} {O O' : Orc} {f : Nat} {L : List (List AV × AV)} (hm : P.follows .mixedOrders = true) (hG : GlobRel E.globs w0) (hE : EnvOk P E) (hO : OrcOk P w0 O) (hO' : OrcOk P w0 O')
    (h : ∀ p ∈ L, pureL p.1 = true ∧ pureA p.2 = true ∧ ∃ n, okV p.2 ((evT E O' n).call f p.1 s0) = true) : OrcOk P w0 (withO f L O) := by
  intro w hb k g hk
  unfold withO at hk
  cases he : Nat.beq f k with
  | true =>
    rw [he] at hk; simp only [cond_true, Option.some.injEq] at hk; subst hk
    rw [beq_iff] at he; subst he
    refine knownCall_of (E := E) (O := O') hm (hG.up hb) hE (fun w' hb' => hO' w' ⟨hb'.os.trans hb.os, hb'.tape.trans hb.tape, hb'.output.trans hb.output, Nat.le_trans hb.size hb'.size, fun i hi => (hb'.block i (Nat.lt_of_lt_of_le hi hb.size)).trans (hb.block i hi)⟩) fun p hp => ?_
    obtain ⟨h1, h2, n, h3⟩ := h p hp
    obtain ⟨s, hs⟩ := okV_some h3
    exact ⟨h1, h2, n, s, hs⟩
  | false => rw [he] at hk; simp only [cond_false] at hk; exact hO w hb k g hk
theorem walk_known {P : Program} {E : Env} {O : Orc} {w : World} (hm : P.follows .mixedOrders = true) (hG : GlobRel E.globs w) (hE : EnvOk P E) (hO : OrcOk P w O) {n f : Nat} (h : okV (.bool true) ((evT E O n).call f [] s0) = true) :
    Calls P f #[] w fun e w' => e = .returned (.bool true) ∧ Below w.heap.size w w' := by
  obtain ⟨s, hs⟩ := okV_some h
  refine Calls.mono (walk_gen hm hG hE (hO w (Below.refl _ _)) hs (rel_s0 w) ⟨(fun id o h => by simp [s0, Trie.get] at h), fun p hp => by simp [s0] at hp⟩ (fun _ _ => rfl) (VRL.nil _)) ?_
  rintro e w' ⟨φ', x, rfl, h1, h2⟩
  simp only [VR] at h1
  exact ⟨by rw [h1], h2⟩
end Go.Proofs.YtidpamcogkonnaaGreatDoor.Ev

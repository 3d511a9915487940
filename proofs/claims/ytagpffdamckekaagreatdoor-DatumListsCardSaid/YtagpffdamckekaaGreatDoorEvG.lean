/- Part of a verified evaluator of the model's code, generic over the program: a run of the evaluator that answers shows what the model's run answers. No conditions of its own. -/
import Derived.Test.YtagpffdamckekaaGreatDoorEvF
import Derived.ChangeArms
import Derived.DataReads
namespace Go.Proofs.YtagpffdamckekaaGreatDoor.Ev
open Go.RowKit (Below)

/-- of each function in the table this is so -/
def TOk (Q : Nat → IFunc → Prop) : Nat → Nat → Trie IFunc → Prop
  | _, _, .leaf => True
  | a, b, .node v l r => (match v with | some F => Q b F | none => True) ∧ TOk Q (2 * a) (a + b) l ∧ TOk Q (2 * a) (2 * a + b) r

theorem TOk.get {Q : Nat → IFunc → Prop} : ∀ {t : Trie IFunc} {a b n : Nat} {F : IFunc}, TOk Q a b t → t.get n = some F → Q (a * n + b) F
  | .leaf, _, _, _, _, _, h => by simp [Trie.get] at h
  | .node v l r, a, b, n, F, ⟨h1, h2, h3⟩, h => by
    match n with
    | 0 =>
      simp only [Trie.get] at h
      subst h
      simpa using h1
    | m + 1 =>
      simp only [Trie.get] at h
      by_cases e : (m + 1) % 2 = 1
      · have e1 : Nat.beq (Nat.mod (m + 1) 2) 1 = true := by show Nat.beq ((m + 1) % 2) 1 = true; rw [e]; rfl
        rw [e1] at h
        have := h2.get (n := (m + 1) / 2) h
        have e2 : 2 * a * ((m + 1) / 2) + (a + b) = a * (m + 1) + b := by
          have : m + 1 = 2 * ((m + 1) / 2) + 1 := by omega
          generalize (m + 1) / 2 = k at this ⊢
          rw [this, Nat.mul_add, Nat.mul_one, Nat.mul_comm 2 a, Nat.mul_assoc, Nat.add_assoc]
        rw [e2] at this; exact this
      · have e1 : Nat.beq (Nat.mod (m + 1) 2) 1 = false := by
          show Nat.beq ((m + 1) % 2) 1 = false
          have : (m + 1) % 2 = 0 := by omega
          rw [this]; rfl
        rw [e1] at h
        have := h3.get (n := Nat.pred ((m + 1) / 2)) h
        have e2 : 2 * a * (Nat.pred ((m + 1) / 2)) + (2 * a + b) = a * (m + 1) + b := by
          have : m + 1 = 2 * (Nat.pred ((m + 1) / 2)) + 2 := by simp only [Nat.pred_eq_sub_one]; omega
          generalize Nat.pred ((m + 1) / 2) = k at this ⊢
          rw [this, Nat.mul_add, Nat.mul_comm 2 a, Nat.mul_assoc, ← Nat.add_assoc]
        rw [e2] at this; exact this

def Q (P : Program) (k : Nat) (F : IFunc) : Prop := ∃ fn, P.funcs[k]? = some fn ∧ cFunc P fn = some F

theorem envOk_of {P : Program} {E : Env} (h : TOk (Q P) 1 0 E.funs) : EnvOk P E := fun f F hf => by
  have := h.get hf
  rw [Nat.one_mul, Nat.add_zero] at this; exact this

def okB : Option (AV × St) → Bool
  | some (.bool true, _) => true
  | _ => false
theorem okB_some {r : Option (AV × St)} (h : okB r = true) : ∃ s, r = some (.bool true, s) := by
  match r, h with
  | some (.bool true, s), _ => exact ⟨s, rfl⟩

/-- no package-level variable is looked at -/
theorem globRel_nil (w : World) : GlobRel [] w := fun g cs h _ => by simp at h

theorem walk_of {P : Program} {E : Env} {w : World} (hm : P.follows .mixedOrders = true) (hg : E.globs = []) (hE : TOk (Q P) 1 0 E.funs) {n f : Nat} (h : okB ((ev E n).call f [] s0) = true) :
    Calls P f #[] w fun e w' => e = .returned (.bool true) ∧ Below w.heap.size w w' := by
  obtain ⟨s, hs⟩ := okB_some h
  exact walk_true hm (by rw [hg]; exact globRel_nil w) (envOk_of hE) hs

end Go.Proofs.YtagpffdamckekaaGreatDoor.Ev
namespace Go.Proofs.YtagpffdamckekaaGreatDoor.Ev
open Go.RowKit (Below)

/-! ### The evaluator with calls that are known to answer true -/
def oTrue (args : List AV) (s : St) : Option (AV × St) :=
  match args with
  | [] => some (.bool true, s)
  | _ :: _ => none
def evT (E : Env) (O : List Nat) : Nat → Self
  | 0 => ⟨fun _ _ _ => none, fun _ _ _ _ => none, fun _ _ _ => none⟩
  | n + 1 => ⟨fun f args s => bif memN f O then oTrue args s else callF E (evT E O n) f args s, fun rd b fr s => evC E (evT E O n) rd (.loop b) fr s, fun l args s => roundF E (evT E O n) l args s⟩

theorem oTrue_some {args : List AV} {s s' : St} {v : AV} (h : oTrue args s = some (v, s')) : args = [] ∧ v = .bool true ∧ s' = s := by
  cases args with
  | nil => simp only [oTrue, Option.some.injEq, Prod.mk.injEq] at h; exact ⟨rfl, h.1.symm, h.2.symm⟩
  | cons _ _ => simp [oTrue] at h

theorem evT_mono (E : Env) (O : List Nat) : ∀ n, Mono (evT E O n)
  | 0 => ⟨fun _ _ _ _ _ h => by simp [evT] at h, fun _ _ _ _ _ _ _ h => by simp [evT] at h, fun _ _ _ _ _ h => by simp [evT] at h⟩
  | n + 1 => ⟨fun f args s v s' h => by
      simp only [evT] at h
      cases hb : memN f O with
      | true => rw [hb] at h; simp only [cond_true] at h; obtain ⟨_, _, rfl⟩ := oTrue_some h; exact Nat.le_refl _
      | false => rw [hb] at h; simp only [cond_false] at h; exact callF_next (evT_mono E O n) h,
    fun _ _ _ _ _ _ _ h => evC_next (evT_mono E O n) h, fun _ _ _ _ _ h => roundF_next (evT_mono E O n) h⟩
theorem evT_ext (E : Env) (O : List Nat) : ∀ n, ExtS (evT E O n)
  | 0 => ⟨fun _ _ _ _ _ h => by simp [evT] at h, fun _ _ _ _ _ _ _ h => by simp [evT] at h, fun _ _ _ _ _ h => by simp [evT] at h⟩
  | n + 1 => ⟨fun f args s v s' h => by
      simp only [evT] at h
      cases hb : memN f O with
      | true => rw [hb] at h; simp only [cond_true] at h; obtain ⟨_, _, rfl⟩ := oTrue_some h; exact Ext.refl _
      | false => rw [hb] at h; simp only [cond_false] at h; exact callF_ext (evT_ext E O n) h,
    fun _ _ _ _ _ _ _ h => evC_ext (evT_ext E O n) h, fun _ _ _ _ _ h => roundF_ext (evT_ext E O n) h⟩

/-- a call without arguments that answers true and changes nothing that was there -/
def TrueCall (P : Program) (w0 : World) (f : Nat) : Prop :=
  (∃ fn, P.funcs[f]? = some fn ∧ fn.body.isSome = true ∧ (fn.name == "runtime.NumGoroutine") = false) ∧
  ∀ w, Below w0.heap.size w0 w → ∀ F n, Wide F → CallsIn F n P f #[] w (fun e w' => e = .returned (.bool true) ∧ Below w.heap.size w w')

theorem GlobRel.up {G : List (List AV)} {w0 w : World} (h : GlobRel G w0) (hb : Below w0.heap.size w0 w) : GlobRel G w := fun g cs hg hne => by
  obtain ⟨h1, c, e, fr, h2, h3, h4⟩ := h g cs hg hne
  exact ⟨Nat.lt_of_lt_of_le h1 hb.size, c, e, fr, (hb.block g h1).trans h2, h3, h4⟩

theorem trueCall_of {P : Program} {w0 : World} {E : Env} (hm : P.follows .mixedOrders = true) (hG : GlobRel E.globs w0) (hE : EnvOk P E) {n f : Nat} {s' : St} (h : (ev E n).call f [] s0 = some (.bool true, s')) : TrueCall P w0 f := by
  refine ⟨((ev_ok (w0 := w0) hG hE (fun S hS => draw_ok hm hG S hS) n).call h).1, fun w hb F k hF => ?_⟩
  have hG' := hG.up hb
  have := ((ev_ok (w0 := w) hG' hE (fun S hS => draw_ok hm hG' S hS) n).call h).2 (rel_s0 w) ⟨(fun id o h => by simp [s0, Trie.get] at h), fun p hp => by simp [s0] at hp⟩ (fun _ _ _ => rfl) (VRL.nil _) F k hF
  refine CallsIn.mono this ?_
  rintro e w' ⟨φ', x, rfl, k1, k2⟩
  simp only [VR] at k2
  exact ⟨by rw [k2], k1.rel.base⟩

theorem Rel.below {P : Program} {w0 : World} {φ : Phi} {G : Nat → Option AObj} {w w' : World} (r : Rel P w0 φ G w) (hb : Below w.heap.size w w') : Rel P w0 φ G w' := by
  have hs := r.base.size
  refine ⟨⟨hb.os.trans r.base.os, hb.tape.trans r.base.tape, hb.output.trans r.base.output, Nat.le_trans hs hb.size, fun k hk => (hb.block k (by omega)).trans (r.base.block k hk)⟩, fun id o h => ?_, fun id B h => Nat.lt_of_lt_of_le (r.rng id B h) hb.size, r.old, r.inj⟩
  obtain ⟨B, hB, t⟩ := r.obj id o h
  exact ⟨B, hB, t.keep (fun _ _ h => h) (hb.block _ (r.rng id B hB))⟩

theorem evT_ok {P : Program} {w0 : World} {E : Env} {O : List Nat} (hm : P.follows .mixedOrders = true) (hG : GlobRel E.globs w0) (hE : EnvOk P E) (hO : ∀ f, memN f O = true → TrueCall P w0 f) : ∀ n, SelfOk P w0 (evT E O n)
  | 0 => ⟨evT_mono E O 0, evT_ext E O 0, fun h => by simp [evT] at h, fun h => by simp [evT] at h, fun h => by simp [evT] at h⟩
  | n + 1 =>
    have ih := evT_ok hm hG hE hO n
    have hD : DrawOk P w0 E (evT E O n) := draw_ok hm hG _ ih
    ⟨evT_mono E O (n + 1), evT_ext E O (n + 1), fun {f args s v s'} h => by
      simp only [evT] at h
      cases hb : memN f O with
      | true =>
        rw [hb] at h; simp only [cond_true] at h
        obtain ⟨rfl, rfl, rfl⟩ := oTrue_some h
        refine ⟨(hO f hb).1, fun {φ w xs} r hwf hf hx F k hF => ?_⟩
        simp only [VRL] at hx; subst hx
        refine CallsIn.mono ((hO f hb).2 w r.base F k hF) ?_
        rintro e w' ⟨rfl, hb'⟩
        exact ⟨φ, _, rfl, ⟨Ext.refl _, r.below hb', fun _ _ => rfl, hb'.size, fun b hlt _ => hb'.block b hlt, fun id _ h1 h2 => absurd h2 (by omega)⟩, by simp only [VR]⟩
      | false => rw [hb] at h; simp only [cond_false] at h; exact callF_sound ih hG hE hD h,
    fun h _ _ _ _ r hwf hf ha hB => roundF_sound ih hG hD h r hwf hf ha hB, fun h _ _ _ _ _ hb r hwf hf hfr F k hF hrd => loop_sound ih hG hD h hb r hwf hf hfr F k hF hrd⟩

/-- THE WALK OF A CALL WITH ARGUMENTS. -/
theorem walk_gen {P : Program} {w : World} {E : Env} {O : List Nat} (hm : P.follows .mixedOrders = true) (hG : GlobRel E.globs w) (hE : EnvOk P E) (hO : ∀ f, memN f O = true → TrueCall P w f)
    {n f : Nat} {args : List AV} {s s' : St} {v : AV} (h : (evT E O n).call f args s = some (v, s')) {φ : Phi} {xs : List Value} (r : Rel P w φ s.get w) (hwf : Wf s) (hf : ∀ id, s.next ≤ id → φ id = none) (hx : VRL φ args xs) :
    Calls P f xs.toArray w fun e w' => ∃ φ' x, e = .returned x ∧ VR φ' v x ∧ Below w.heap.size w w' := by
  have := ((evT_ok hm hG hE hO n).call h).2 r hwf (fun id h1 _ => hf id h1) hx Fence.wide 0 ⟨fun _ => trivial, rfl⟩
  refine callsIn_wide.1 (CallsIn.mono this ?_)
  rintro e w' ⟨φ', x, rfl, k1, k2⟩
  exact ⟨φ', x, rfl, k2, k1.rel.base⟩

def Ret (x : Option (AV × St)) (R : AV → St → Prop) : Prop := ∃ v s', x = some (v, s') ∧ R v s'
theorem after_loop {E : Env} {S : Self} {G : List (List AV)} {res : List RV} {k : Fr → St → Option (Res × Fr × St)} {i : Nat} {b : ICode} {tm : Trie AV} {s : St} {P : Trie AV → St → Prop} {R : AV → St → Prop}
    (h : ∃ tm' s', evC E S none (.loop b) ⟨tm, []⟩ s = some (.exit i, ⟨tm', []⟩, s') ∧ P tm' s') (hk : ∀ tm' s', P tm' s' → Ret (callEnd G res (k ⟨tm', []⟩ s')) R) :
    Ret (callEnd G res (thenR k (blockR i (evC E S none (.loop b) ⟨tm, []⟩ s)))) R := by
  obtain ⟨tm', s', h1, h2⟩ := h
  have : blockR i (some (Res.exit i, (⟨tm', []⟩ : Fr), s')) = some (Res.norm, (⟨tm', []⟩ : Fr), s') := by
    show (bif Nat.beq i i then some (Res.norm, (⟨tm', []⟩ : Fr), s') else some (Res.exit i, (⟨tm', []⟩ : Fr), s')) = _
    rw [beq_iff.2 rfl]; rfl
  rw [h1, this]
  exact hk tm' s' h2
/-! ### Equations -/
theorem evT_call {E : Env} {O : List Nat} {f : Nat} {F : IFunc} (hO : memN f O = false) (hF : E.funs.get f = some F) (n : Nat) (args : List AV) (s : St) : (evT E O (n + 1)).call f args s = callF E (evT E O n) f args s := by
  simp only [evT, hO, cond_false]
theorem evT_true {E : Env} {O : List Nat} {f : Nat} (hO : memN f O = true) (n : Nat) (s : St) : (evT E O (n + 1)).call f [] s = some (.bool true, s) := by
  simp only [evT, hO, cond_true]; rfl
theorem evT_loop (E : Env) (O : List Nat) (n : Nat) (rd : Option Nat) (b : ICode) (fr : Fr) (s : St) : (evT E O (n + 1)).loop rd b fr s = evC E (evT E O n) rd (.loop b) fr s := rfl
theorem evT_round (E : Env) (O : List Nat) (n l : Nat) (args : List AV) (s : St) : (evT E O (n + 1)).round l args s = roundF E (evT E O n) l args s := rfl
end Go.Proofs.YtagpffdamckekaaGreatDoor.Ev
namespace Go.Proofs.YtagpffdamckekaaGreatDoor.Ev

/-! ### The evaluator, step by step: equations for reckoning with unknown values -/
def bindS (x : Option (Trie AV × St)) (k : Trie AV → St → Option (Trie AV × St)) : Option (Trie AV × St) :=
  match x with
  | some p => k p.1 p.2
  | none => none
theorem bindS_some (p : Trie AV × St) (k : Trie AV → St → Option (Trie AV × St)) : bindS (some p) k = k p.1 p.2 := rfl
theorem evS_nil (G : Env) (S : Self) (tm : Trie AV) (s : St) : evS G S [] tm s = some (tm, s) := rfl
theorem evS_cons (G : Env) (S : Self) (o : SOper) (r : List SOper) (tm : Trie AV) (s : St) : evS G S (o :: r) tm s = bindS (stepS G S o tm s) (evS G S r) := rfl
theorem stepS_n (G : Env) (S : Self) (d : Option Nat) (op : IOp) (tm : Trie AV) (s : St) : stepS G S ⟨d, op, none⟩ tm s = stS tm d (evOp G S op tm s) := rfl
def gstep (G : Env) (S : Self) (d : Option Nat) (op : IOp) (tm : Trie AV) (s : St) : Option Bool → Option (Trie AV × St)
  | some true => stS tm d (evOp G S op tm s)
  | some false => some (setDst tm d undefV, s)
  | none => none
def wantB (w : Bool) : Option AV → Option Bool
  | some (.bool b) => some (b == w)
  | some _ => some false
  | none => none
theorem stepS_g (G : Env) (S : Self) (d : Option Nat) (op : IOp) (i : Nat) (w : Bool) (tm : Trie AV) (s : St) : stepS G S ⟨d, op, some (i, w)⟩ tm s = gstep G S d op tm s (wantB w (tm.get i)) := by
  unfold stepS wants
  simp only
  generalize tm.get i = x
  cases x with
  | none => rfl
  | some v => cases v <;> first | rfl | (rename_i b; cases b <;> cases w <;> rfl)
theorem wantB_bool (w b : Bool) : wantB w (some (.bool b)) = some (b == w) := rfl
theorem wantB_t (b : Bool) : wantB true (some (.bool b)) = some b := by cases b <;> rfl
theorem wantB_f (b : Bool) : wantB false (some (.bool b)) = some (!b) := by cases b <;> rfl
theorem gstep_t (G : Env) (S : Self) (d : Option Nat) (op : IOp) (tm : Trie AV) (s : St) : gstep G S d op tm s (some true) = stS tm d (evOp G S op tm s) := rfl
theorem gstep_f (G : Env) (S : Self) (d : Option Nat) (op : IOp) (tm : Trie AV) (s : St) : gstep G S d op tm s (some false) = some (setDst tm d undefV, s) := rfl
theorem stS_some (tm : Trie AV) (d : Option Nat) (p : AV × St) : stS tm d (some p) = some (setDst tm d p.1, p.2) := rfl
theorem setDst_some (tm : Trie AV) (i : Nat) (v : AV) : setDst tm (some i) v = tm.set i v := rfl
theorem setDst_none (tm : Trie AV) (v : AV) : setDst tm none v = tm := rfl
theorem normR_some (df : List Nat) (p : Trie AV × St) : normR df (some p) = some (.norm, { tm := p.1, df := df }, p.2) := rfl
theorem thenR_norm (k : Fr → St → Option (Res × Fr × St)) (fr : Fr) (s : St) : thenR k (some (.norm, fr, s)) = k fr s := rfl
theorem thenR_exit (k : Fr → St → Option (Res × Fr × St)) (i : Nat) (fr : Fr) (s : St) : thenR k (some (.exit i, fr, s)) = some (.exit i, fr, s) := rfl
theorem thenR_ret (k : Fr → St → Option (Res × Fr × St)) (fr : Fr) (s : St) : thenR k (some (.ret, fr, s)) = some (.ret, fr, s) := rfl
theorem condR_t (a b : Fr → St → Option (Res × Fr × St)) (fr : Fr) (s : St) : condR (some (.bool true)) a b fr s = a fr s := rfl
theorem condR_f (a b : Fr → St → Option (Res × Fr × St)) (fr : Fr) (s : St) : condR (some (.bool false)) a b fr s = b fr s := rfl
theorem blockR_norm (id : Nat) (p : Fr × St) : blockR id (some (.norm, p)) = some (.norm, p) := rfl
theorem blockR_ret (id : Nat) (p : Fr × St) : blockR id (some (.ret, p)) = some (.ret, p) := rfl
theorem blockR_exit (id i : Nat) (p : Fr × St) : blockR id (some (.exit i, p)) = if i = id then some (.norm, p) else some (.exit i, p) := by
  show (bif Nat.beq i id then some (Res.norm, p) else some (Res.exit i, p)) = _
  by_cases h : i = id
  · rw [if_pos h, beq_iff.2 h]; rfl
  · rw [if_neg h]
    cases hb : Nat.beq i id with
    | true => exact absurd (beq_iff.1 hb) h
    | false => rfl
theorem evC_skip (G : Env) (S : Self) (rd : Option Nat) (fr : Fr) (s : St) : evC G S rd .skip fr s = some (.norm, fr, s) := rfl
theorem evC_reg (G : Env) (S : Self) (rd : Option Nat) (ops : List SOper) (fr : Fr) (s : St) : evC G S rd (.reg ops) fr s = normR fr.df (evS G S ops fr.tm s) := rfl
theorem evC_regd (G : Env) (S : Self) (rd : Option Nat) (ops : List DOper) (fr : Fr) (s : St) : evC G S rd (.regd ops) fr s = regdR G S ops fr s := rfl
theorem evC_seq (G : Env) (S : Self) (rd : Option Nat) (a b : ICode) (fr : Fr) (s : St) : evC G S rd (.seq a b) fr s = thenR (evC G S rd b) (evC G S rd a fr s) := rfl
theorem evC_cond (G : Env) (S : Self) (rd : Option Nat) (c : Opd) (a b : ICode) (fr : Fr) (s : St) : evC G S rd (.cond c a b) fr s = condR (c.ev fr.tm) (evC G S rd a) (evC G S rd b) fr s := rfl
theorem evC_block (G : Env) (S : Self) (rd : Option Nat) (id : Nat) (b : ICode) (fr : Fr) (s : St) : evC G S rd (.block id b) fr s = blockR id (evC G S rd b fr s) := rfl
theorem evC_exit (G : Env) (S : Self) (rd : Option Nat) (id : Nat) (fr : Fr) (s : St) : evC G S rd (.exit id) fr s = some (.exit id, fr, s) := rfl
theorem evC_ret (G : Env) (S : Self) (rd : Option Nat) (fr : Fr) (s : St) : evC G S rd .ret fr s = some (.ret, fr, s) := rfl
theorem evC_loop (G : Env) (S : Self) (rd : Option Nat) (b : ICode) (fr : Fr) (s : St) : evC G S rd (.loop b) fr s = thenR (S.loop rd b) (evC G S rd b fr s) := rfl
theorem evC_rf (G : Env) (S : Self) (rd : Option Nat) (g : Opd) (ps : List Nat) (asg body : ICode) (fr : Fr) (s : St) : evC G S rd (.rf g ps asg body) fr s = rfR S rd (g.ev fr.tm) ps asg body fr s := rfl
theorem ev_call (E : Env) (n f : Nat) (args : List AV) (s : St) : (ev E (n + 1)).call f args s = callF E (ev E n) f args s := rfl
theorem ev_loop (E : Env) (n : Nat) (rd : Option Nat) (b : ICode) (fr : Fr) (s : St) : (ev E (n + 1)).loop rd b fr s = evC E (ev E n) rd (.loop b) fr s := rfl
theorem ev_round (E : Env) (n l : Nat) (args : List AV) (s : St) : (ev E (n + 1)).round l args s = roundF E (ev E n) l args s := rfl
def callB (E : Env) (S : Self) (F : IFunc) (args : List AV) (s : St) : Option (AV × St) :=
  bif Nat.ble (lenN args) F.ntmps then callEnd E.globs F.res (evC E S none F.body { tm := setArgs .leaf 0 args, df := [] } s) else none
theorem callF_of {E : Env} {f : Nat} {F : IFunc} (h : E.funs.get f = some F) (S : Self) (args : List AV) (s : St) : callF E S f args s = callB E S F args s := by
  unfold callF callB; rw [h]
theorem opd_t (tm : Trie AV) (i : Nat) : (Opd.t i).ev tm = tm.get i := rfl
theorem opd_c (tm : Trie AV) (v : AV) : (Opd.c v).ev tm = some v := rfl
theorem evL_nil (tm : Trie AV) : evL tm [] = some [] := rfl
def consO (v : Option AV) (l : Option (List AV)) : Option (List AV) :=
  match v, l with
  | some v, some vs => some (v :: vs)
  | _, _ => none
theorem consO_some (v : AV) (vs : List AV) : consO (some v) (some vs) = some (v :: vs) := rfl
theorem evL_cons (tm : Trie AV) (x : Opd) (r : List Opd) : evL tm (x :: r) = consO (x.ev tm) (evL tm r) := rfl
theorem ret1_some (s : St) (v : AV) : ret1 s (some v) = some (v, s) := rfl
def b1 (f : AV → Option (AV × St)) : Option AV → Option (AV × St)
  | some v => f v
  | none => none
def b2 (f : AV → AV → Option (AV × St)) : Option AV → Option AV → Option (AV × St)
  | some v, some w => f v w
  | _, _ => none
theorem v1_eq (tm : Trie AV) (s : St) (x : Opd) (f : AV → Option AV) {v : AV} (h : x.ev tm = some v) : v1 tm s x f = ret1 s (f v) := by unfold v1; rw [h]
theorem v2_eq (tm : Trie AV) (s : St) (x y : Opd) (f : AV → AV → Option AV) {v w : AV} (h : x.ev tm = some v) (h' : y.ev tm = some w) : v2 tm s x y f = ret1 s (f v w) := by unfold v2; rw [h, h']
def k1 (s : St) (f : AV → Option AV) : Option AV → Option (AV × St)
  | some v => ret1 s (f v)
  | none => none
def k2 (s : St) (f : AV → AV → Option AV) : Option AV → Option AV → Option (AV × St)
  | some v, some w => ret1 s (f v w)
  | _, _ => none
theorem v1_k (tm : Trie AV) (s : St) (x : Opd) (f : AV → Option AV) : v1 tm s x f = k1 s f (x.ev tm) := by unfold v1 k1; cases x.ev tm <;> rfl
theorem v2_k (tm : Trie AV) (s : St) (x y : Opd) (f : AV → AV → Option AV) : v2 tm s x y f = k2 s f (x.ev tm) (y.ev tm) := by unfold v2 k2; cases x.ev tm <;> cases y.ev tm <;> rfl
theorem k1_some (s : St) (f : AV → Option AV) (v : AV) : k1 s f (some v) = ret1 s (f v) := rfl
theorem k2_some (s : St) (f : AV → AV → Option AV) (v w : AV) : k2 s f (some v) (some w) = ret1 s (f v w) := rfl
theorem o1_k (tm : Trie AV) (x : Opd) (f : AV → Option (AV × St)) : o1 tm x f = b1 f (x.ev tm) := by unfold o1 b1; cases x.ev tm <;> rfl
theorem o2_k (tm : Trie AV) (x y : Opd) (f : AV → AV → Option (AV × St)) : o2 tm x y f = b2 f (x.ev tm) (y.ev tm) := by unfold o2 b2; cases x.ev tm <;> cases y.ev tm <;> rfl
theorem b1_some (f : AV → Option (AV × St)) (v : AV) : b1 f (some v) = f v := rfl
theorem b2_some (f : AV → AV → Option (AV × St)) (v w : AV) : b2 f (some v) (some w) = f v w := rfl
theorem evCl_some (S : Self) (f : Nat) (vs : List AV) (s : St) : evCl S f (some vs) s = S.call f vs s := rfl
theorem vPick_t (a b : Option AV) : vPick (some (.bool true)) a b = a := rfl
theorem vPick_f (a b : Option AV) : vPick (some (.bool false)) a b = b := rfl
theorem vFa_ptr (off id o : Nat) : vFa off (.ptr id o) = some (.ptr id (o + off)) := rfl
theorem oBox_eq (s : St) (e : Nat) (v : AV) : oBox s e v = some (.ptr s.next 0, s.alloc (.row e v.cells false false)) := rfl
theorem oAlloc_eq (s : St) (e : Nat) (zs : List AV) : oAlloc s e zs = some (.ptr s.next 0, s.alloc (.row e zs false false)) := rfl
theorem cells_agg (cs : List AV) : (AV.agg cs).cells = cs := rfl
theorem vLen_str (s : St) (t : List Nat) : vLen s .s (.str t) = some (.int .i64 (t.length : Nat)) := by rw [← lenN_eq]; rfl
theorem vUn_not (b : Bool) : vUn .not (.bool b) = some (.bool (!b)) := rfl
theorem vBin_int (op : BinOp) (k k' : IntKind) (a b : Int) : vBin op (.int k a) (.int k' b) = binI op k a k' b := rfl
theorem vBin_str (op : BinOp) (a b : List Nat) : vBin op (.str a) (.str b) = binS op a b := rfl
theorem binI_eql (a b : Int) : binI .eql .i64 a .i64 b = some (.bool (decide (a = b))) := by
  show some (AV.bool (eqI a b)) = _
  rw [eqI_eq]; simp [BEq.beq]
theorem binI_neq (a b : Int) : binI .neq .i64 a .i64 b = some (.bool (!decide (a = b))) := by
  show some (AV.bool (!eqI a b)) = _
  rw [eqI_eq]; simp [BEq.beq]
theorem binI_lss (a b : Int) : binI .lss .i64 a .i64 b = some (.bool (decide (a < b))) := by
  show some (AV.bool (ltI a b)) = _
  rw [ltI_eq]
theorem binI_gtr (a b : Int) : binI .gtr .i64 a .i64 b = some (.bool (decide (b < a))) := by
  show some (AV.bool (ltI b a)) = _
  rw [ltI_eq]
theorem binI_leq (a b : Int) : binI .leq .i64 a .i64 b = some (.bool (!decide (b < a))) := by
  show some (AV.bool (!ltI b a)) = _
  rw [ltI_eq]
theorem binI_geq (a b : Int) : binI .geq .i64 a .i64 b = some (.bool (!decide (a < b))) := by
  show some (AV.bool (!ltI a b)) = _
  rw [ltI_eq]
theorem binI_add (a b : Int) : binI .add .i64 a .i64 b = some (.int .i64 (IntKind.wrap .i64 (a + b))) := by
  show some (AV.int .i64 (wrapI .i64 (Int.add a b))) = _
  rw [wrapI_eq]; rfl
theorem binI_sub (a b : Int) : binI .sub .i64 a .i64 b = some (.int .i64 (IntKind.wrap .i64 (a - b))) := by
  show some (AV.int .i64 (wrapI .i64 (Int.sub a b))) = _
  rw [wrapI_eq]; rfl
theorem binS_eql (a b : List Nat) : binS .eql a b = some (.bool (decide (a = b))) := by
  show some (AV.bool (eqS a b)) = _
  rw [eqS_eq]; by_cases h : a = b <;> simp [h]
theorem binS_neq (a b : List Nat) : binS .neq a b = some (.bool (!decide (a = b))) := by
  show some (AV.bool (!eqS a b)) = _
  rw [eqS_eq]; by_cases h : a = b <;> simp [h]
theorem headV_cons (v : AV) (l : List AV) : headV (v :: l) = some v := rfl
theorem vEx_tup (vs : List AV) (i : Nat) : vEx (.tup vs) i = headV (dropN i vs) := rfl
theorem evOp_mv (G : Env) (S : Self) (tm : Trie AV) (s : St) (x : Opd) : evOp G S (.mv x) tm s = v1 tm s x some := rfl
theorem evOp_pick (G : Env) (S : Self) (tm : Trie AV) (s : St) (c : Opd) (a : Opd) (b : Opd) : evOp G S (.pick c a b) tm s = ret1 s (vPick (c.ev tm) (a.ev tm) (b.ev tm)) := rfl
theorem evOp_alloc (G : Env) (S : Self) (tm : Trie AV) (s : St) (e : Nat) (zs : List AV) : evOp G S (.alloc e zs) tm s = oAlloc s e zs := rfl
theorem evOp_box (G : Env) (S : Self) (tm : Trie AV) (s : St) (e : Nat) (x : Opd) : evOp G S (.box e x) tm s = o1 tm x (oBox s e) := rfl
theorem evOp_build (G : Env) (S : Self) (tm : Trie AV) (s : St) (zs : List AV) (ps : List (Nat × Nat × Opd)) : evOp G S (.build zs ps) tm s = ret1 s (aggO (fillC zs tm ps)) := rfl
theorem evOp_bsl (G : Env) (S : Self) (tm : Trie AV) (s : St) (e : Nat) (zs : List AV) (len : Nat) (ps : List (Nat × Nat × Opd)) : evOp G S (.bsl e zs len ps) tm s = oBsl s e len (fillC zs tm ps) := rfl
theorem evOp_ld (G : Env) (S : Self) (tm : Trie AV) (s : St) (x : Opd) : evOp G S (.ld x) tm s = v1 tm s x (vLd G.globs s) := rfl
theorem evOp_ldn (G : Env) (S : Self) (tm : Trie AV) (s : St) (n : Nat) (x : Opd) : evOp G S (.ldn n x) tm s = v1 tm s x (vLdn G.globs s n) := rfl
theorem evOp_st (G : Env) (S : Self) (tm : Trie AV) (s : St) (n : Nat) (x : Opd) (v : Opd) : evOp G S (.st n x v) tm s = o2 tm x v (oSt s n) := rfl
theorem evOp_nck (G : Env) (S : Self) (tm : Trie AV) (s : St) (x : Opd) : evOp G S (.nck x) tm s = v1 tm s x vNck := rfl
theorem evOp_bin (G : Env) (S : Self) (tm : Trie AV) (s : St) (op : BinOp) (x : Opd) (y : Opd) : evOp G S (.bin op x y) tm s = v2 tm s x y (vBin op) := rfl
theorem evOp_eqk (G : Env) (S : Self) (tm : Trie AV) (s : St) (k : EqK) (neg : Bool) (x : Opd) (y : Opd) : evOp G S (.eqk k neg x y) tm s = v2 tm s x y (vEqk k neg) := rfl
theorem evOp_un (G : Env) (S : Self) (tm : Trie AV) (s : St) (op : UnOp) (x : Opd) : evOp G S (.un op x) tm s = v1 tm s x (vUn op) := rfl
theorem evOp_ci (G : Env) (S : Self) (tm : Trie AV) (s : St) (k : IntKind) (x : Opd) : evOp G S (.ci k x) tm s = v1 tm s x (vCi k) := rfl
theorem evOp_css (G : Env) (S : Self) (tm : Trie AV) (s : St) (x : Opd) : evOp G S (.css x) tm s = v1 tm s x vCss := rfl
theorem evOp_csb (G : Env) (S : Self) (tm : Trie AV) (s : St) (e : Nat) (x : Opd) : evOp G S (.csb e x) tm s = o1 tm x (oCsb s e) := rfl
theorem evOp_cbs (G : Env) (S : Self) (tm : Trie AV) (s : St) (x : Opd) : evOp G S (.cbs x) tm s = v1 tm s x (vCbs s) := rfl
theorem evOp_cis (G : Env) (S : Self) (tm : Trie AV) (s : St) (x : Opd) : evOp G S (.cis x) tm s = v1 tm s x vCis := rfl
theorem evOp_mif (G : Env) (S : Self) (tm : Trie AV) (s : St) (t : Nat) (x : Opd) : evOp G S (.mif t x) tm s = v1 tm s x (fun v => some (.ifc t v)) := rfl
theorem evOp_mfn (G : Env) (S : Self) (tm : Trie AV) (s : St) (f : Nat) (fst : List Opd) (cap : List Opd) : evOp G S (.mfn f fst cap) tm s = vLL tm s fst cap (fun us vs => some (.fn f us vs)) := rfl
theorem evOp_sls (G : Env) (S : Self) (tm : Trie AV) (s : St) (x : Opd) (lo : Option Opd) (hi : Option Opd) : evOp G S (.sls x lo hi) tm s = vs3 tm s x lo hi vSls := rfl
theorem evOp_slv (G : Env) (S : Self) (tm : Trie AV) (s : St) (esz : Nat) (x : Opd) (lo : Option Opd) (hi : Option Opd) (mx : Option Opd) : evOp G S (.slv esz x lo hi mx) tm s = vs4 tm s x lo hi mx (vSlv esz) := rfl
theorem evOp_fa (G : Env) (S : Self) (tm : Trie AV) (s : St) (off : Nat) (x : Opd) : evOp G S (.fa off x) tm s = v1 tm s x (vFa off) := rfl
theorem evOp_fd (G : Env) (S : Self) (tm : Trie AV) (s : St) (off : Nat) (n : Option Nat) (x : Opd) : evOp G S (.fd off n x) tm s = v1 tm s x (vFd off n) := rfl
theorem evOp_ia (G : Env) (S : Self) (tm : Trie AV) (s : St) (esz : Nat) (x : Opd) (i : Opd) : evOp G S (.ia esz x i) tm s = v2 tm s x i (vIa esz) := rfl
theorem evOp_ixs (G : Env) (S : Self) (tm : Trie AV) (s : St) (x : Opd) (i : Opd) : evOp G S (.ixs x i) tm s = v2 tm s x i vIxs := rfl
theorem evOp_ex (G : Env) (S : Self) (tm : Trie AV) (s : St) (x : Opd) (i : Nat) : evOp G S (.ex x i) tm s = v1 tm s x (fun v => vEx v i) := rfl
theorem evOp_len (G : Env) (S : Self) (tm : Trie AV) (s : St) (k : LK) (x : Opd) : evOp G S (.len k x) tm s = v1 tm s x (vLen s k) := rfl
theorem evOp_app (G : Env) (S : Self) (tm : Trie AV) (s : St) (e : Nat) (esz : Nat) (bytes : Nat) (x : Opd) (y : Opd) : evOp G S (.app e esz bytes x y) tm s = o2 tm x y (appV s e esz bytes) := rfl
theorem evOp_call (G : Env) (S : Self) (tm : Trie AV) (s : St) (f : Nat) (args : List Opd) : evOp G S (.call f args) tm s = evCl S f (evL tm args) s := rfl
theorem evOp_cv (G : Env) (S : Self) (tm : Trie AV) (s : St) (x : Opd) (args : List Opd) : evOp G S (.cv x args) tm s = evCv S (x.ev tm) (evL tm args) s := rfl

theorem ble_d (a b : Nat) : Nat.ble a b = decide (a ≤ b) := by
  cases h : Nat.ble a b with
  | true => exact (decide_eq_true (ble_iff.1 h)).symm
  | false => exact (decide_eq_false (fun e => by rw [ble_iff.2 e] at h; cases h)).symm
theorem blt_d (a b : Nat) : Nat.blt a b = decide (a < b) := by
  cases h : Nat.blt a b with
  | true => exact (decide_eq_true (blt_iff.1 h)).symm
  | false => exact (decide_eq_false (fun e => by rw [blt_iff.2 e] at h; cases h)).symm
theorem beq_d (a b : Nat) : Nat.beq a b = decide (a = b) := by
  cases h : Nat.beq a b with
  | true => exact (decide_eq_true (beq_iff.1 h)).symm
  | false => exact (decide_eq_false (fun e => by rw [beq_iff.2 e] at h; cases h)).symm
def aggK (s : St) (G : List (List AV)) (n : Nat) : Option AV → Option AV
  | some p => aggO (loadC G s p n)
  | none => none
theorem aggK_some (s : St) (G : List (List AV)) (n : Nat) (p : AV) : aggK s G n (some p) = aggO (loadC G s p n) := rfl
theorem aggO_some (l : List AV) : aggO (some l) = some (.agg l) := rfl
theorem callEnd_ret (G : List (List AV)) (res : List RV) (tm : Trie AV) (s : St) : callEnd G res (some (.ret, ⟨tm, []⟩, s)) = resE G tm s res := rfl
theorem callEnd_norm (G : List (List AV)) (res : List RV) (tm : Trie AV) (s : St) : callEnd G res (some (.norm, ⟨tm, []⟩, s)) = resE G tm s res := rfl
theorem resE_0 (G : List (List AV)) (tm : Trie AV) (s : St) : resE G tm s [] = some (.tup [], s) := rfl
theorem resE_t (G : List (List AV)) (tm : Trie AV) (s : St) (i : Nat) : resE G tm s [.t i] = k1 s some (tm.get i) := by
  simp only [resE, resV]; cases tm.get i <;> rfl
theorem resE_cn (G : List (List AV)) (tm : Trie AV) (s : St) (a n : Nat) : resE G tm s [.cn a n] = k1 s some (aggK s G n (tm.get a)) := by
  simp only [resE, resV]
  cases tm.get a with
  | none => rfl
  | some p => simp only [aggK]; cases loadC G s p n <;> rfl
theorem resE_tcn (G : List (List AV)) (tm : Trie AV) (s : St) (i a n : Nat) : resE G tm s [.t i, .cn a n] = k2 s (fun v w => some (.tup [v, w])) (tm.get i) (aggK s G n (tm.get a)) := by
  simp only [resE, resV]
  cases tm.get i with
  | none => cases tm.get a with
    | none => rfl
    | some p => simp only [aggK]; cases loadC G s p n <;> rfl
  | some v => cases tm.get a with
    | none => rfl
    | some p => simp only [aggK]; cases loadC G s p n <;> rfl
/-! ### The state -/
structure Ok (s : St) : Prop where
  only : s.only = none
  wf : Wf s
theorem Ok.alloc {s : St} (h : Ok s) (o : AObj) : Ok (s.alloc o) := ⟨h.only, (ext_alloc s o).wf h.wf⟩
theorem Ok.put {s : St} (h : Ok s) {id : Nat} {o : AObj} (hid : id < s.next) : Ok (s.put id o) :=
  ⟨h.only, ⟨fun i x hx => by
    show i < s.next
    rw [show (s.put id o).objs = s.objs.set id o from rfl, Trie.get_set] at hx
    by_cases e : i = id
    · omega
    · rw [if_neg e] at hx; exact h.wf.lt i x hx, h.wf.hd⟩⟩
theorem Ok.del {s : St} (h : Ok s) (id : Nat) : Ok (s.del id) :=
  ⟨h.only, ⟨fun i x hx => by
    show i < s.next
    rw [show (s.del id).objs = s.objs.del id from rfl, Trie.get_del] at hx
    by_cases e : i = id
    · rw [if_pos e] at hx; cases hx
    · rw [if_neg e] at hx; exact h.wf.lt i x hx, h.wf.hd⟩⟩
theorem Ok.lt {s : St} (h : Ok s) {id : Nat} {o : AObj} (hg : s.get id = some o) : id < s.next := h.wf.lt id o (get_some hg)
theorem hid_new {l : List (Nat × Nat)} {n : Nat} (h : ∀ p ∈ l, p.2 ≤ n) : hid l n = false := by
  induction l with
  | nil => rfl
  | cons p r ih =>
    have h1 := ih fun q hq => h q (by simp [hq])
    have h2 := h p (by simp)
    show (bif Nat.ble p.1 n then (bif Nat.blt n p.2 then true else hid r n) else hid r n) = false
    rw [h1]
    cases hb : Nat.blt n p.2 with
    | true => have := blt_iff.1 hb; omega
    | false => cases Nat.ble p.1 n <;> rfl
theorem get_ok {s : St} (h : s.only = none) (id : Nat) : s.get id = if hid s.hide id = false then s.objs.get id else none := by
  unfold St.get; rw [h]
  cases hid s.hide id <;> simp
theorem get_alloc_new {s : St} (h : Ok s) (o : AObj) : (s.alloc o).get s.next = some o := by
  rw [get_ok (s := s.alloc o) h.only, show (s.alloc o).hide = s.hide from rfl, if_pos (hid_new h.wf.hd)]
  exact Trie.get_set_same _ _ _
theorem get_alloc_at {s : St} (h : Ok s) (o : AObj) {id : Nat} (hid : id = s.next) : (s.alloc o).get id = some o := by rw [hid]; exact get_alloc_new h o
theorem get_alloc_old (s : St) (o : AObj) {id : Nat} (hid : id ≠ s.next) : (s.alloc o).get id = s.get id := by
  rw [get_eq, get_eq, seen_congr (s := s) (s' := s.alloc o) rfl rfl, show (s.alloc o).objs.get id = s.objs.get id from Trie.get_set_ne _ _ hid]
theorem get_put_old (s : St) (o : AObj) {id i : Nat} (hne : i ≠ id) : (s.put id o).get i = s.get i := by
  rw [get_eq, get_eq, seen_congr (s := s) (s' := s.put id o) rfl rfl, show (s.put id o).objs.get i = s.objs.get i from Trie.get_set_ne _ _ hne]
theorem get_put_new {s : St} {id : Nat} {o o' : AObj} (h : s.get id = some o) : (s.put id o').get id = some o' := by
  rw [get_eq, seen_congr (s := s) (s' := s.put id o') rfl rfl, seen_of_get h]
  exact Trie.get_set_same _ _ _
theorem get_del_old (s : St) {id i : Nat} (hne : i ≠ id) : (s.del id).get i = s.get i := by
  rw [get_eq, get_eq, seen_congr (s := s) (s' := s.del id) rfl rfl, show (s.del id).objs.get i = s.objs.get i from (by rw [show (s.del id).objs = s.objs.del id from rfl, Trie.get_del, if_neg hne])]

/-- what lies below a mark is left as it was -/
structure KeepB (b : Nat) (s s' : St) : Prop where
  next : s.next ≤ s'.next
  hide : s'.hide = s.hide
  only : s'.only = s.only
  old : ∀ id, id < b → s'.objs.get id = s.objs.get id
  wm : ∀ id, id < b → s'.wm.testBit id = s.wm.testBit id
abbrev Keep (s s' : St) : Prop := KeepB s.next s s'
theorem KeepB.refl (b : Nat) (s : St) : KeepB b s s := ⟨Nat.le_refl _, rfl, rfl, fun _ _ => rfl, fun _ _ => rfl⟩
theorem KeepB.trans {b : Nat} {s s' s'' : St} (h : KeepB b s s') (h' : KeepB b s' s'') : KeepB b s s'' :=
  ⟨Nat.le_trans h.next h'.next, h'.hide.trans h.hide, h'.only.trans h.only, fun id hid => (h'.old id hid).trans (h.old id hid), fun id hid => (h'.wm id hid).trans (h.wm id hid)⟩
theorem KeepB.weak {b b' : Nat} {s s' : St} (h : KeepB b s s') (hb : b' ≤ b) : KeepB b' s s' :=
  ⟨h.next, h.hide, h.only, fun id hid => h.old id (by omega), fun id hid => h.wm id (by omega)⟩
theorem KeepB.alloc {b : Nat} {s s' : St} (h : KeepB b s s') (o : AObj) (hb : b ≤ s'.next) : KeepB b s (s'.alloc o) :=
  h.trans ⟨Nat.le_succ _, rfl, rfl, fun id hid => Trie.get_set_ne _ _ (by omega), fun _ _ => rfl⟩
theorem KeepB.put {b : Nat} {s s' : St} (h : KeepB b s s') (id : Nat) (o : AObj) (hb : b ≤ id) : KeepB b s (s'.put id o) :=
  h.trans ⟨Nat.le_refl _, rfl, rfl, fun i hi => Trie.get_set_ne _ _ (by omega), fun i hi => by
    show (mark s'.wm id).testBit i = _
    rw [testBit_mark, decide_eq_false (by omega), Bool.or_false]⟩
theorem KeepB.del {b : Nat} {s s' : St} (h : KeepB b s s') (id : Nat) (hb : b ≤ id) : KeepB b s (s'.del id) :=
  h.trans ⟨Nat.le_refl _, rfl, rfl, fun i hi => by rw [show (s'.del id).objs = s'.objs.del id from rfl, Trie.get_del, if_neg (by omega)], fun i hi => by
    show (mark s'.wm id).testBit i = _
    rw [testBit_mark, decide_eq_false (by omega), Bool.or_false]⟩
theorem KeepB.get {b : Nat} {s s' : St} (h : KeepB b s s') {id : Nat} (hid : id < b) : s'.get id = s.get id := by
  rw [get_eq, get_eq, seen_congr h.hide h.only, h.old id hid]
theorem Keep.keeps {s s' : St} (h : Keep s s') (hok : Ok s) {id : Nat} {o : AObj} (hg : s.get id = some o) : s'.get id = some o := by
  rw [KeepB.get h (hok.lt hg)]; exact hg

/-! ### Loads and stores -/
theorem loadC_row {G : List (List AV)} {s : St} {id off n : Nat} {e : Nat} {cs : List AV} {x fz : Bool} (h : s.get id = some (.row e cs x fz)) : loadC G s (.ptr id off) n = cut cs off n := by
  simp only [loadC, h]
theorem loadC_giv {G : List (List AV)} {s : St} {id off n : Nat} {cs : List AV} (h : s.get id = some (.giv cs)) : loadC G s (.ptr id off) n = cut cs off n := by
  simp only [loadC, h]
theorem vLd_row {G : List (List AV)} {s : St} {id off : Nat} {e : Nat} {cs : List AV} {x fz : Bool} (h : s.get id = some (.row e cs x fz)) : vLd G s (.ptr id off) = (cut cs off 1).bind headV := by
  unfold vLd; rw [loadC_row h]; cases cut cs off 1 <;> rfl
theorem vLdn_row {G : List (List AV)} {s : St} {id off n : Nat} {e : Nat} {cs : List AV} {x fz : Bool} (h : s.get id = some (.row e cs x fz)) : vLdn G s n (.ptr id off) = (cut cs off n).map .agg := by
  unfold vLdn; rw [loadC_row h]; cases cut cs off n <;> rfl
theorem vLdn_of {G : List (List AV)} {s : St} {p : AV} {n : Nat} {cs : List AV} (h : loadC G s p n = some cs) : vLdn G s n p = some (.agg cs) := by unfold vLdn; rw [h]
theorem vLd_of {G : List (List AV)} {s : St} {p : AV} {v : AV} {cs : List AV} (h : loadC G s p 1 = some (v :: cs)) : vLd G s p = some v := by unfold vLd; rw [h]; rfl
theorem oSt_row {s : St} {id off n : Nat} {e : Nat} {cs cs' : List AV} {x : Bool} {w : AV} (h : s.get id = some (.row e cs x false)) (hl : w.cells.length = n) (ha : allScal w.cells = true) (hp : paste cs off w.cells = some cs') : oSt s n (.ptr id off) w = some (undefV, s.put id (.row e cs' x false)) := by
  unfold oSt
  rw [lenN_eq, beq_iff.2 hl]
  simp only [cond_true, storeC, h, ha, hp, Bool.false_or, Bool.not_true, cond_false]

theorem cut_cons (a : AV) (l : List AV) (off n : Nat) : cut (a :: l) off n = takeN n (dropN off (a :: l)) := rfl
def rowO : Option AObj → Option (List AV)
  | some (.row _ cs _ _) => some cs
  | some (.giv cs) => some cs
  | _ => none
theorem rowO_row (e : Nat) (cs : List AV) (x fz : Bool) : rowO (some (.row e cs x fz)) = some cs := rfl
theorem rowO_giv (cs : List AV) : rowO (some (.giv cs)) = some cs := rfl
def cutO (off n : Nat) : Option (List AV) → Option (List AV)
  | some cs => cut cs off n
  | none => none
theorem cutO_some (off n : Nat) (cs : List AV) : cutO off n (some cs) = cut cs off n := rfl
def headO : Option (List AV) → Option AV
  | some l => headV l
  | none => none
theorem headO_some (l : List AV) : headO (some l) = headV l := rfl
theorem loadC_get (G : List (List AV)) (s : St) (id off n : Nat) : loadC G s (.ptr id off) n = cutO off n (rowO (s.get id)) := by
  unfold loadC; simp only
  cases s.get id with
  | none => rfl
  | some o => cases o <;> rfl
theorem vLd_get (G : List (List AV)) (s : St) (id off : Nat) : vLd G s (.ptr id off) = headO (cutO off 1 (rowO (s.get id))) := by
  rw [← loadC_get G]; unfold vLd; cases loadC G s (.ptr id off) 1 <;> rfl
theorem vLdn_get (G : List (List AV)) (s : St) (n id off : Nat) : vLdn G s n (.ptr id off) = aggO (cutO off n (rowO (s.get id))) := by
  rw [← loadC_get G]; unfold vLdn; cases loadC G s (.ptr id off) n <;> rfl
def putO (s : St) (id e : Nat) (x : Bool) : Option (List AV) → Option (AV × St)
  | some cs => some (undefV, s.put id (.row e cs x false))
  | none => none
theorem putO_some (s : St) (id e : Nat) (x : Bool) (cs : List AV) : putO s id e x (some cs) = some (undefV, s.put id (.row e cs x false)) := rfl
def stO (s : St) (id off n : Nat) (w : AV) : Option AObj → Option (AV × St)
  | some (.row e cs x false) => bif (Nat.beq (lenN w.cells) n && allScal w.cells) then putO s id e x (paste cs off w.cells) else none
  | _ => none
theorem stO_row (s : St) (id off n : Nat) (w : AV) (e : Nat) (cs : List AV) (x : Bool) : stO s id off n w (some (.row e cs x false)) = (bif (Nat.beq (lenN w.cells) n && allScal w.cells) then putO s id e x (paste cs off w.cells) else none) := rfl
theorem oSt_get (s : St) (n id off : Nat) (w : AV) : oSt s n (.ptr id off) w = stO s id off n w (s.get id) := by
  unfold oSt storeC; simp only
  cases s.get id with
  | none => cases Nat.beq (lenN w.cells) n <;> rfl
  | some o =>
    cases o <;> first | (cases Nat.beq (lenN w.cells) n <;> rfl) | skip
    rename_i e cs x fz
    cases fz
    · simp only [stO]
      cases Nat.beq (lenN w.cells) n <;> cases allScal w.cells <;> simp only [Bool.false_or, Bool.not_true, Bool.not_false, cond_true, cond_false, Bool.and_true, Bool.and_false, Bool.true_and, Bool.false_and]
      cases paste cs off w.cells <;> rfl
    · cases Nat.beq (lenN w.cells) n <;> rfl
theorem wrap_id {n : Int} (h1 : -9223372036854775808 ≤ n) (h2 : n < 9223372036854775808) : IntKind.wrap .i64 n = n := by
  simp only [IntKind.wrap, IntKind.bits, IntKind.signed]; simp; omega
end Go.Proofs.YtagpffdamckekaaGreatDoor.Ev
namespace Go.Proofs.YtagpffdamckekaaGreatDoor.Ev

/-! ### Data: trees of (kind, number, text, kids, place) -/
inductive DT where
  | mk (k n : Int) (t : List Nat) (ks : List DT) (p : Int)

/-- a slice of n elements of five cells: its cells -/
structure SliceOf (G : Nat → Option AObj) (kv : AV) (n : Nat) (cells : List AV) : Prop where
  lt : n ≤ 9223372036854775807
  is : (n = 0 ∧ cells = [] ∧ (kv = .nils ∨ kv = .sl0)) ∨ ∃ id off c cs, kv = .sl id off n c ∧ rowO (G id) = some cs ∧ cut cs off (n * 5) = some cells

mutual
def Rep (G : Nat → Option AObj) : DT → List AV → Prop
  | .mk k n t ks p, cs => ∃ kv cells, cs = [.int .i64 k, .int .i64 n, .str t, kv, .int .i64 p] ∧ SliceOf G kv ks.length cells ∧ RepL G ks cells
def RepL (G : Nat → Option AObj) : List DT → List AV → Prop
  | [], cs => cs = []
  | d :: r, cs => ∃ a b, cs = a ++ b ∧ Rep G d a ∧ RepL G r b
end

def Le (G G' : Nat → Option AObj) : Prop := ∀ id cs, rowO (G id) = some cs → rowO (G' id) = some cs
theorem SliceOf.mono {G G' : Nat → Option AObj} (h : Le G G') {kv : AV} {n : Nat} {cells : List AV} (t : SliceOf G kv n cells) : SliceOf G' kv n cells := by
  refine ⟨t.lt, ?_⟩
  rcases t.is with h1 | ⟨id, off, c, cs, h1, h2, h3⟩
  · exact .inl h1
  · exact .inr ⟨id, off, c, cs, h1, h id cs h2, h3⟩
mutual
theorem Rep.mono {G G' : Nat → Option AObj} (h : Le G G') : ∀ (d : DT) (cs : List AV), Rep G d cs → Rep G' d cs
  | .mk k n t ks p, cs, hr => by
    simp only [Rep] at hr ⊢
    obtain ⟨kv, cells, h1, h2, h3⟩ := hr
    exact ⟨kv, cells, h1, h2.mono h, RepL.mono h ks cells h3⟩
theorem RepL.mono {G G' : Nat → Option AObj} (h : Le G G') : ∀ (l : List DT) (cs : List AV), RepL G l cs → RepL G' l cs
  | [], cs, hr => by simpa [RepL] using hr
  | d :: r, cs, hr => by
    simp only [RepL] at hr ⊢
    obtain ⟨a, b, h1, h2, h3⟩ := hr
    exact ⟨a, b, h1, Rep.mono h d a h2, RepL.mono h r b h3⟩
end
theorem rowO_some {o : Option AObj} {cs : List AV} (h : rowO o = some cs) : ∃ x, o = some x := by
  cases o with
  | none => cases h
  | some x => exact ⟨x, rfl⟩
theorem KeepB.le {s s' : St} (h : Keep s s') (hok : Ok s) : Le s.get s'.get := fun id cs hr => by
  obtain ⟨x, hx⟩ := rowO_some hr
  rw [KeepB.get h (hok.lt hx)]; exact hr

theorem takeN_eq : ∀ (n : Nat) (l : List AV), n ≤ l.length → takeN n l = some (l.take n)
  | 0, l, _ => by simp [takeN]
  | n + 1, [], h => by simp at h
  | n + 1, v :: l, h => by
    simp only [takeN, takeN_eq n l (by simpa using h)]
    simp
theorem cut_eq {l : List AV} {off n : Nat} (h : off + n ≤ l.length) : cut l off n = some ((l.drop off).take n) := by
  unfold cut; rw [dropN_eq, takeN_eq _ _ (by simp; omega)]
theorem Rep.length {G : Nat → Option AObj} {d : DT} {cs : List AV} (h : Rep G d cs) : cs.length = 5 := by
  cases d; simp only [Rep] at h; obtain ⟨kv, cells, rfl, _⟩ := h; rfl
theorem RepL.at {G : Nat → Option AObj} : ∀ {l : List DT} {cs : List AV} {i : Nat} (hi : i < l.length), RepL G l cs → Rep G l[i] ((cs.drop (i * 5)).take 5)
  | [], _, i, hi, _ => by simp at hi
  | d :: r, cs, i, hi, h => by
    simp only [RepL] at h
    obtain ⟨a, b, rfl, h1, h2⟩ := h
    have hl := h1.length
    cases i with
    | zero => simpa [hl, List.take_append] using h1
    | succ i =>
      have := RepL.at (i := i) (by simpa using hi) h2
      have e : (i + 1) * 5 = a.length + i * 5 := by omega
      rw [e, List.drop_append, List.drop_of_length_le (by omega), List.nil_append, Nat.add_sub_cancel_left]
      simpa using this
theorem RepL.length {G : Nat → Option AObj} : ∀ {l : List DT} {cs : List AV}, RepL G l cs → cs.length = l.length * 5
  | [], cs, h => by simp only [RepL] at h; subst h; rfl
  | d :: r, cs, h => by
    simp only [RepL] at h
    obtain ⟨a, b, rfl, h1, h2⟩ := h
    have := h1.length; have := RepL.length h2
    simp; omega
theorem SliceOf.len {G : Nat → Option AObj} {kv : AV} {n : Nat} {cells : List AV} (h : SliceOf G kv n cells) (s : St) : vLen s .v kv = some (.int .i64 (n : Nat)) := by
  rcases h.is with ⟨h1, _, h2 | h2⟩ | ⟨id, off, c, cs, h1, _⟩
  · subst h1; subst h2; rfl
  · subst h1; subst h2; rfl
  · subst h1; rfl
/-- an element: where it lies, and its cells -/
theorem SliceOf.at {G : Nat → Option AObj} {kv : AV} {ks : List DT} {cells : List AV} (h : SliceOf G kv ks.length cells) (hr : RepL G ks cells) {i : Nat} (hi : i < ks.length) :
    ∃ id off cs c5, vIa 5 kv (.int .i64 (i : Nat)) = some (.ptr id off) ∧ rowO (G id) = some cs ∧ cut cs off 5 = some c5 ∧ Rep G ks[i] c5 ∧ ∀ j, j < 5 → cut cs (off + j) 1 = some ((c5.drop j).take 1) := by
  rcases h.is with ⟨h1, _⟩ | ⟨id, off, c, cs, h1, h2, h3⟩
  · omega
  · obtain ⟨g1, g2, g3⟩ := cut_some h3
    have hl := RepL.length hr
    have g2' : off + ks.length * 5 ≤ cs.length := by
      rcases g2 with g | g
      · exact g
      · omega
    have hR := RepL.at hi hr
    have hb : off + i * 5 + 5 ≤ cs.length := by omega
    have e5 : (cells.drop (i * 5)).take 5 = (cs.drop (off + i * 5)).take 5 := by
      rw [g3, List.drop_take, List.drop_drop, List.take_take, Nat.min_eq_left (by omega)]
    refine ⟨id, off + i * 5, cs, _, ?_, h2, cut_eq hb, e5 ▸ hR, fun j hj => ?_⟩
    · subst h1
      have : Nat.blt i ks.length = true := blt_iff.2 hi
      show (match idx (.int .i64 (Int.ofNat i)) ks.length with | some k => some (AV.ptr id (Nat.add off (Nat.mul k 5))) | none => none) = _
      simp only [idx, this, cond_true]; rfl
    · rw [cut_eq (by omega), List.drop_take, List.take_take, List.drop_drop, Nat.min_eq_left (by omega)]

/-! ### What the plain functions answer -/
mutual
def DT.size : DT → Nat
  | .mk _ _ _ ks _ => 1 + sizeL ks
def sizeL : List DT → Nat
  | [] => 0
  | d :: r => d.size + sizeL r
end
mutual
def smallF : DT → Int → Int
  | .mk _ _ t ks _, left => if 300 < t.length then -1 else smallL ks (left - 1)
def smallL : List DT → Int → Int
  | [], left => left
  | d :: r, left => if 0 < left then smallL r (smallF d left) else left
end
mutual
theorem smallF_bd : ∀ (d : DT) (left : Int), 0 < left → -1 ≤ smallF d left ∧ smallF d left ≤ left
  | .mk _ _ t ks _, left, h => by
    simp only [smallF]
    split
    · omega
    · have := smallL_bd ks (left - 1) (by omega); omega
theorem smallL_bd : ∀ (l : List DT) (left : Int), -1 ≤ left → -1 ≤ smallL l left ∧ smallL l left ≤ left
  | [], left, h => by simp only [smallL]; omega
  | d :: r, left, h => by
    simp only [smallL]
    split
    · rename_i h0
      have h1 := smallF_bd d left h0
      have := smallL_bd r (smallF d left) h1.1; omega
    · omega
end
mutual
theorem smallF_size : ∀ (d : DT) (left : Int), 0 < smallF d left → (d.size : Int) + smallF d left ≤ left
  | .mk _ _ t ks _, left, h => by
    simp only [smallF, DT.size] at h ⊢
    split at h
    · omega
    · rename_i h1; rw [if_neg h1]
      have := smallL_size ks (left - 1) h; omega
theorem smallL_size : ∀ (l : List DT) (left : Int), 0 < smallL l left → (sizeL l : Int) + smallL l left ≤ left
  | [], left, h => by simp only [smallL, sizeL] at *; omega
  | d :: r, left, h => by
    simp only [smallL, sizeL] at h ⊢
    by_cases h0 : 0 < left
    · rw [if_pos h0] at h ⊢
      have h1 := smallL_size r _ h
      have h2 : 0 < smallF d left := by
        by_cases h3 : 0 < smallF d left
        · exact h3
        · exfalso
          have : smallL r (smallF d left) ≤ smallF d left := by
            cases r with
            | nil => simp [smallL]
            | cons a b => simp only [smallL]; rw [if_neg h3]; omega
          omega
      have := smallF_size d left h2; omega
    · rw [if_neg h0] at h; omega
end
end Go.Proofs.YtagpffdamckekaaGreatDoor.Ev
namespace Go.Proofs.YtagpffdamckekaaGreatDoor.Ev

/-! ### Regions that draw their order, reckoned with unknown values -/
def RD (G : Env) (S : Self) (ops : List DOper) (i : Nat) (log : List LogE) (tm : Trie AV) (s : St) (Q : Trie AV → St → Prop) : Prop :=
  ∃ tm' s', evD G S ops i log tm s = some (tm', s') ∧ Q tm' s'
/-- what was begun has written nothing that was there -/
structure Lg (b i : Nat) (log : List LogE) : Prop where
  wm : ∀ e ∈ log, e.wm = 0
  lo : ∀ e ∈ log, b ≤ e.lo
  idx : ∀ e ∈ log, e.idx < i
def Ln (log : List LogE) : Prop := ∀ e ∈ log, e.lo = e.hi

theorem compat_zero {deps : Nat} {t : Option (List Nat)} : ∀ {log : List LogE}, (∀ e ∈ log, e.wm = 0) → compat deps t 0 log = true
  | [], _ => rfl
  | e :: r, h => by
    have ih := compat_zero (deps := deps) (t := t) (log := r) fun x hx => h x (by simp [hx])
    have he : e.wm = 0 := h e (by simp)
    simp only [compat, he, ih]
    cases deps.testBit e.idx <;> rfl
theorem compat_deps {deps w : Nat} {t : Option (List Nat)} : ∀ {log : List LogE}, (∀ e ∈ log, deps.testBit e.idx = true) → compat deps t w log = true
  | [], _ => rfl
  | e :: r, h => by
    have ih := compat_deps (deps := deps) (w := w) (t := t) (log := r) fun x hx => h x (by simp [hx])
    simp only [compat, h e (by simp), cond_true, ih]
theorem hid_hidden {deps b : Nat} {h : List (Nat × Nat)} {id : Nat} (hid' : id < b) : ∀ {log : List LogE}, (∀ e ∈ log, b ≤ e.lo) → hid (hiddenOf deps log h) id = hid h id
  | [], _ => rfl
  | e :: r, hl => by
    have ih := hid_hidden (deps := deps) (h := h) hid' (log := r) fun x hx => hl x (by simp [hx])
    have hb := hl e (by simp)
    simp only [hiddenOf]
    cases hx : (Nat.beq e.lo e.hi || deps.testBit e.idx) with
    | true => simp only [cond_true]; exact ih
    | false =>
      simp only [cond_false, hid]
      have : Nat.ble e.lo id = false := by rw [ble_d]; exact decide_eq_false (by omega)
      rw [this]; simp only [cond_false]; exact ih
theorem hiddenOf_none {deps : Nat} {h : List (Nat × Nat)} : ∀ {log : List LogE}, Ln log → hiddenOf deps log h = h
  | [], _ => rfl
  | e :: r, hl => by
    have ih := hiddenOf_none (deps := deps) (h := h) (log := r) fun x hx => hl x (by simp [hx])
    simp only [hiddenOf, beq_iff.2 (hl e (by simp)), Bool.true_or, cond_true, ih]

theorem evD_cons_some {G : Env} {S : Self} {o : DOper} {r : List DOper} {i : Nat} {log log' : List LogE} {tm tm' : Trie AV} {s s' : St} (h : stepD G S o i log tm s = some (log', tm', s')) : evD G S (o :: r) i log tm s = evD G S r (i + 1) log' tm' s' := by
  simp only [evD, h]
theorem RD_step {G : Env} {S : Self} {o : DOper} {r : List DOper} {i : Nat} {log log' : List LogE} {tm tm' : Trie AV} {s s' : St} {Q : Trie AV → St → Prop} (h : stepD G S o i log tm s = some (log', tm', s')) (hk : RD G S r (i + 1) log' tm' s' Q) : RD G S (o :: r) i log tm s Q := by
  unfold RD; rw [evD_cons_some h]; exact hk
theorem RD_nil {G : Env} {S : Self} {i : Nat} {log : List LogE} {tm : Trie AV} {s : St} {Q : Trie AV → St → Prop} (h : Q tm s) : RD G S [] i log tm s Q := ⟨tm, s, rfl, h⟩
theorem Lg.nil (b i : Nat) : Lg b i [] := ⟨by simp, by simp, by simp⟩
theorem Ln.nil : Ln [] := by simp [Ln]

section
variable {G : Env} {S : Self} {r : List DOper} {i b deps : Nat} {log : List LogE} {tm : Trie AV} {s : St} {Q : Trie AV → St → Prop} {d : Option Nat} {op : IOp} {v : AV}

/-- an operation that looks, and makes nothing -/
theorem RD_val (v : AV) (hok : Ok s) (hl : Lg b i log) (hb : b ≤ s.next)
    (hv : ∀ s2 : St, (∀ id l, touch op tm = some l → id ∈ l → id < b → s2.get id = s.get id) → evOp G S op tm s2 = some (v, s2))
    (hk : ∀ log', Lg b (i + 1) log' → (Ln log → Ln log') → RD G S r (i + 1) log' (setDst tm d v) s Q) : RD G S (⟨⟨d, op, none⟩, deps⟩ :: r) i log tm s Q := by
  have hget : ∀ id l, touch op tm = some l → id ∈ l → id < b → (begD ⟨⟨d, op, none⟩, deps⟩ log tm s).get id = s.get id := by
    intro id l ht hm hlt
    rw [get_eq, get_eq]
    have hs : seen (begD ⟨⟨d, op, none⟩, deps⟩ log tm s) id = seen s id := by
      unfold seen
      simp only [begD, ht, Option.map_some, hok.only, hid_hidden hlt hl.lo]
      have : memN id l = true := by
        clear ht
        induction l with
        | nil => simp at hm
        | cons x l ih =>
          rcases List.mem_cons.1 hm with rfl | hm
          · simp only [memN, beq_iff.2, cond_true]
          · simp only [memN, ih hm]; cases Nat.beq id x <;> rfl
      rw [this]; simp
    rw [hs]; rfl
  have he := hv (begD ⟨⟨d, op, none⟩, deps⟩ log tm s) hget
  have hst : stepD G S ⟨⟨d, op, none⟩, deps⟩ i log tm s = some (⟨i, s.next, s.next, touch op tm, 0⟩ :: log, setDst tm d v, s) := by
    simp only [stepD, wants, he, endD]
    have h0 : oldMask (begD ⟨⟨d, op, none⟩, deps⟩ log tm s).wm s.next = 0 := Nat.zero_mod _
    rw [h0, compat_zero hl.wm]
    simp only [cond_true, Option.some.injEq, Prod.mk.injEq]
    refine ⟨by simp [begD], trivial, ?_⟩
    simp [begD]
  refine RD_step hst (hk _ ⟨?_, ?_, ?_⟩ ?_)
  · intro e he; rcases List.mem_cons.1 he with rfl | he
    · rfl
    · exact hl.wm e he
  · intro e he; rcases List.mem_cons.1 he with rfl | he
    · exact hb
    · exact hl.lo e he
  · intro e he; rcases List.mem_cons.1 he with rfl | he
    · exact Nat.lt_succ_self _
    · exact Nat.lt_succ_of_lt (hl.idx e he)
  · intro hn e he; rcases List.mem_cons.1 he with rfl | he
    · rfl
    · exact hn e he
/-- an operation that lays a new block -/
theorem RD_new (v : AV) (o : AObj) (hok : Ok s) (hl : Lg b i log) (hb : b ≤ s.next)
    (hv : ∀ s2 : St, s2.next = s.next → evOp G S op tm s2 = some (v, s2.alloc o))
    (hk : ∀ log', Lg b (i + 1) log' → RD G S r (i + 1) log' (setDst tm d v) (s.alloc o) Q) : RD G S (⟨⟨d, op, none⟩, deps⟩ :: r) i log tm s Q := by
  have he := hv (begD ⟨⟨d, op, none⟩, deps⟩ log tm s) rfl
  have hst : stepD G S ⟨⟨d, op, none⟩, deps⟩ i log tm s = some (⟨i, s.next, s.next + 1, touch op tm, 0⟩ :: log, setDst tm d v, s.alloc o) := by
    simp only [stepD, wants, he, endD]
    have h0 : oldMask ((begD ⟨⟨d, op, none⟩, deps⟩ log tm s).alloc o).wm s.next = 0 := Nat.zero_mod _
    rw [h0, compat_zero hl.wm]
    simp only [cond_true, Option.some.injEq, Prod.mk.injEq]
    refine ⟨by simp [begD, St.alloc], trivial, ?_⟩
    simp [begD, St.alloc]
  refine RD_step hst (hk _ ⟨?_, ?_, ?_⟩)
  · intro e he; rcases List.mem_cons.1 he with rfl | he
    · rfl
    · exact hl.wm e he
  · intro e he; rcases List.mem_cons.1 he with rfl | he
    · exact hb
    · exact hl.lo e he
  · intro e he; rcases List.mem_cons.1 he with rfl | he
    · exact Nat.lt_succ_self _
    · exact Nat.lt_succ_of_lt (hl.idx e he)
/-- a store into a block that was there, behind all else -/
theorem RD_st {n id off : Nat} {x y : Opd} {w : AV} {e : Nat} {cs cs' : List AV} {ex : Bool} (hok : Ok s) (hl : Lg b i log) (hx : x.ev tm = some (.ptr id off)) (hy : y.ev tm = some w) (hid : id < b) (hd : ∀ j, j < i → deps.testBit j = true)
    (hg : s.get id = some (.row e cs ex false)) (hw : w.cells.length = n) (ha : allScal w.cells = true) (hp : paste cs off w.cells = some cs')
    (hk : Q (setDst tm d undefV) (s.put id (.row e cs' ex false))) : RD G S [⟨⟨d, .st n x y, none⟩, deps⟩] i log tm s Q := by
  have hget : (begD ⟨⟨d, .st n x y, none⟩, deps⟩ log tm s).get id = some (.row e cs ex false) := by
    rw [← hg, get_eq, get_eq]
    have hs : seen (begD ⟨⟨d, .st n x y, none⟩, deps⟩ log tm s) id = seen s id := by
      unfold seen
      simp only [begD, touch, hx, tPtr, Option.map_some, hok.only, hid_hidden hid hl.lo]
      simp [memN]
    rw [hs]; rfl
  have he : evOp G S (.st n x y) tm (begD ⟨⟨d, .st n x y, none⟩, deps⟩ log tm s) = some (undefV, (begD ⟨⟨d, .st n x y, none⟩, deps⟩ log tm s).put id (.row e cs' ex false)) := by
    rw [evOp_st, o2_k, hx, hy, b2_some, oSt_row hget hw ha hp]
  have hst : ∃ L, stepD G S ⟨⟨d, .st n x y, none⟩, deps⟩ i log tm s = some (L, setDst tm d undefV, s.put id (.row e cs' ex false)) := by
    simp only [stepD, wants, he, endD]
    rw [compat_deps (fun e he => hd e.idx (hl.idx e he))]
    simp only [cond_true, Option.some.injEq, Prod.mk.injEq]
    refine ⟨_, rfl, trivial, ?_⟩
    simp [begD, St.put, mark]
  obtain ⟨L, hst⟩ := hst
  exact RD_step hst (RD_nil hk)
theorem RD_pure (v : AV) (hok : Ok s) (hl : Lg b i log) (hb : b ≤ s.next) (hv : ∀ s2 : St, evOp G S op tm s2 = some (v, s2))
    (hk : ∀ log', Lg b (i + 1) log' → (Ln log → Ln log') → RD G S r (i + 1) log' (setDst tm d v) s Q) : RD G S (⟨⟨d, op, none⟩, deps⟩ :: r) i log tm s Q :=
  RD_val v hok hl hb (fun s2 _ => hv s2) hk
theorem RD_ldn {n id off : Nat} {x : Opd} {cs c5 : List AV} (hok : Ok s) (hl : Lg b i log) (hb : b ≤ s.next) (hx : x.ev tm = some (.ptr id off)) (hid : id < b) (hr : rowO (s.get id) = some cs) (hc : cut cs off n = some c5)
    (hk : ∀ log', Lg b (i + 1) log' → (Ln log → Ln log') → RD G S r (i + 1) log' (setDst tm d (.agg c5)) s Q) : RD G S (⟨⟨d, .ldn n x, none⟩, deps⟩ :: r) i log tm s Q :=
  RD_val (.agg c5) hok hl hb (fun s2 hg => by
    have := hg id [id] (by simp only [touch, hx, tPtr]) (by simp) hid
    rw [evOp_ldn, v1_k, hx, k1_some, vLdn_get, this, hr, cutO_some, hc, aggO_some, ret1_some]) hk
theorem RD_ld {id off : Nat} {x : Opd} {cs l : List AV} {v : AV} (hok : Ok s) (hl : Lg b i log) (hb : b ≤ s.next) (hx : x.ev tm = some (.ptr id off)) (hid : id < b) (hr : rowO (s.get id) = some cs) (hc : cut cs off 1 = some (v :: l))
    (hk : ∀ log', Lg b (i + 1) log' → (Ln log → Ln log') → RD G S r (i + 1) log' (setDst tm d v) s Q) : RD G S (⟨⟨d, .ld x, none⟩, deps⟩ :: r) i log tm s Q :=
  RD_val v hok hl hb (fun s2 hg => by
    have := hg id [id] (by simp only [touch, hx, tPtr]) (by simp) hid
    rw [evOp_ld, v1_k, hx, k1_some, vLd_get, this, hr, cutO_some, hc, headO_some, headV_cons, ret1_some]) hk
theorem mod_zero {m n : Nat} (h : ∀ j, j < n → m.testBit j = false) : Nat.mod m (Nat.pow 2 n) = 0 := by
  apply Nat.eq_of_testBit_eq
  intro j
  show (m % 2 ^ n).testBit j = _
  rw [Nat.testBit_mod_two_pow]
  by_cases hj : j < n
  · simp [h j hj]
  · simp [hj]
/-- a call that makes new things alone -/
theorem RD_call {f : Nat} {args : List Opd} {vs : List AV} {C : AV → (Nat → Option AObj) → Prop} (hok : Ok s) (hl : Lg b i log) (hn : Ln log) (hb : b ≤ s.next) (ha : evL tm args = some vs)
    (hv : ∀ s2 : St, Ok s2 → s2.get = s.get → Ret (S.call f vs s2) fun v t => Ok t ∧ Keep s2 t ∧ C v t.get)
    (hk : ∀ v log' s', Lg b (i + 1) log' → Ok s' → Keep s s' → C v s'.get → RD G S r (i + 1) log' (setDst tm d v) s' Q) : RD G S (⟨⟨d, .call f args, none⟩, deps⟩ :: r) i log tm s Q := by
  have hbeg : begD ⟨⟨d, .call f args, none⟩, deps⟩ log tm s = { s with wm := 0 } := by
    simp only [begD, touch, Option.map_none, hiddenOf_none hn]
    cases s; simp only [St.mk.injEq, true_and]; exact hok.only.symm
  obtain ⟨v, t, he, h1, h2, h3⟩ := hv { s with wm := 0 } ⟨hok.only, hok.wf.lt, hok.wf.hd⟩ rfl
  have he' : evOp G S (.call f args) tm (begD ⟨⟨d, .call f args, none⟩, deps⟩ log tm s) = some (v, t) := by
    rw [evOp_call, ha, evCl_some, hbeg]; exact he
  have h0 : oldMask t.wm s.next = 0 := mod_zero fun j hj => by
    rw [h2.wm j hj]; exact Nat.zero_testBit j
  have hst : stepD G S ⟨⟨d, .call f args, none⟩, deps⟩ i log tm s = some (⟨i, s.next, t.next, none, 0⟩ :: log, setDst tm d v, { t with hide := s.hide, only := s.only, wm := Nat.lor s.wm t.wm }) := by
    simp only [stepD, wants, he', endD]
    rw [h0, compat_zero hl.wm]
    simp only [cond_true, Option.some.injEq, Prod.mk.injEq]
    trivial
  have hte : ({ t with hide := s.hide, only := s.only, wm := Nat.lor s.wm t.wm } : St).get = t.get := by
    funext id
    rw [get_eq, get_eq]
    have : seen ({ t with hide := s.hide, only := s.only, wm := Nat.lor s.wm t.wm } : St) id = seen t id := seen_congr h2.hide.symm h2.only.symm id
    rw [this]
  refine RD_step hst (hk v _ _ ⟨?_, ?_, ?_⟩ ⟨hok.only, ⟨h1.wf.lt, fun p hp => Nat.le_trans (hok.wf.hd p hp) h2.next⟩⟩ ⟨h2.next, rfl, rfl, h2.old, fun id hid => ?_⟩ (hte ▸ h3))
  · intro e he; rcases List.mem_cons.1 he with rfl | he
    · rfl
    · exact hl.wm e he
  · intro e he; rcases List.mem_cons.1 he with rfl | he
    · exact hb
    · exact hl.lo e he
  · intro e he; rcases List.mem_cons.1 he with rfl | he
    · exact Nat.lt_succ_self _
    · exact Nat.lt_succ_of_lt (hl.idx e he)
  · show (s.wm ||| t.wm).testBit id = _
    rw [Nat.testBit_or, h2.wm id hid]; simp
end
theorem regdR_of {G : Env} {S : Self} {ops : List DOper} {fr : Fr} {s : St} {Q : Trie AV → St → Prop} (hok : Ok s) (h : RD G S ops 0 [] fr.tm s Q) : ∃ tm' s', regdR G S ops fr s = some (.norm, ⟨tm', fr.df⟩, s') ∧ Q tm' s' := by
  obtain ⟨tm', s', h1, h2⟩ := h
  refine ⟨tm', s', ?_, h2⟩
  unfold regdR; rw [hok.only]; simp only [h1]; rfl
end Go.Proofs.YtagpffdamckekaaGreatDoor.Ev
namespace Go.Proofs.YtagpffdamckekaaGreatDoor.Ev
open Go.RowKit (Below)

/-! ### Arguments: what is read of the memory that was there, as given rows -/
abbrev Giv := List (Blk × List AV)
def phiL (L : Giv) : Phi := fun id => (L[id]?).map (·.1)
def getL (L : Giv) : Nat → Option AObj := fun id => (L[id]?).map fun p => .giv p.2
def LOk (W : World) (L : Giv) : Prop :=
  ∀ (id : Nat) (p : Blk × List AV), L[id]? = some p → ∃ (c : Array Value) (e : TypeId) (fr : Nat × Nat), W.heap[p.1.b]? = some (.cells c e fr) ∧ p.1.o + p.2.length ≤ c.size ∧ VRL (phiL L) p.2 ((c.toList.drop p.1.o).take p.2.length)
theorem get_app {α : Type} {L M : List α} {id : Nat} {p : α} (h : L[id]? = some p) : (L ++ M)[id]? = some p := by
  have hl : id < L.length := by
    rcases Nat.lt_or_ge id L.length with h1 | h1
    · exact h1
    · rw [List.getElem?_eq_none h1] at h; cases h
  rw [List.getElem?_append_left hl]; exact h
theorem phiL_sub (L M : Giv) : Sub (phiL L) (phiL (L ++ M)) := by
  intro id B h
  unfold phiL at *
  cases hx : L[id]? with
  | none => rw [hx] at h; cases h
  | some p => rw [hx] at h; rw [get_app hx]; exact h
theorem getL_le (L M : Giv) : Le (getL L) (getL (L ++ M)) := by
  intro id cs h
  unfold getL at *
  cases hx : L[id]? with
  | none => rw [hx] at h; cases h
  | some p => rw [hx] at h; rw [get_app hx]; exact h
theorem LOk.nil (W : World) : LOk W [] := fun id p h => by simp at h
theorem LOk.add {W : World} {L : Giv} (h : LOk W L) (p : Blk × List AV) (hp : ∃ c e fr, W.heap[p.1.b]? = some (.cells c e fr) ∧ p.1.o + p.2.length ≤ c.size ∧ VRL (phiL L) p.2 ((c.toList.drop p.1.o).take p.2.length)) : LOk W (L ++ [p]) := by
  intro id q hq
  by_cases hid : id < L.length
  · rw [List.getElem?_append_left hid] at hq
    obtain ⟨c, e, fr, h1, h2, h3⟩ := h id q hq
    exact ⟨c, e, fr, h1, h2, VRL.mono (phiL_sub L [p]) _ _ h3⟩
  · rw [List.getElem?_append_right (by omega)] at hq
    have : id - L.length = 0 := by
      rcases Nat.eq_zero_or_pos (id - L.length) with h0 | h0
      · exact h0
      · rw [List.getElem?_eq_none (by simp; omega)] at hq; cases hq
    rw [this] at hq; simp at hq; subst hq
    obtain ⟨c, e, fr, h1, h2, h3⟩ := hp
    exact ⟨c, e, fr, h1, h2, VRL.mono (phiL_sub L [p]) _ _ h3⟩

theorem RepL.snoc {G : Nat → Option AObj} : ∀ {l : List DT} {cs : List AV} {d : DT} {c : List AV}, RepL G l cs → Rep G d c → RepL G (l ++ [d]) (cs ++ c)
  | [], cs, d, c, h, hd => by
    simp only [RepL] at h; subst h
    simp only [List.nil_append, RepL]
    exact ⟨c, [], by simp, hd, rfl⟩
  | x :: r, cs, d, c, h, hd => by
    simp only [RepL] at h
    obtain ⟨a, b, rfl, h1, h2⟩ := h
    simp only [List.cons_append, RepL]
    exact ⟨a, b ++ c, by simp, h1, RepL.snoc h2 hd⟩

theorem cell_at {w : World} {a : Addr} {v : Value} (h : w.cell? a = some v) : ∃ c e fr, w.heap[a.block]? = some (.cells c e fr) ∧ a.spot = none ∧ c[a.off]? = some v := by
  unfold World.cell? at h
  cases hb : w.heap[a.block]? with
  | none => rw [hb] at h; cases h
  | some o =>
    rw [hb] at h
    cases o <;> simp only at h <;> first | cases h | skip
    rename_i c e fr
    refine ⟨c, e, fr, rfl, ?_⟩
    cases hs : a.spot with
    | none => rw [hs] at h; simp at h; exact ⟨rfl, h⟩
    | some s => rw [hs] at h; simp at h
theorem add_none {a : Addr} (h : a.spot = none) (n : Nat) : a.add n = ⟨a.block, a.off + n, none⟩ := by
  unfold Addr.add
  by_cases hn : n = 0
  · subst hn; simp; cases a; simp_all
  · rw [if_neg hn]
theorem cells_at {w : World} {a : Addr} {n : Nat} {cs : List Value} {c : Array Value} {e : TypeId} {fr : Nat × Nat} (hb : w.heap[a.block]? = some (.cells c e fr)) (hs : a.spot = none) (h : w.cells? 0 a n = some cs) :
    (cs = (c.toList.drop a.off).take n ∧ a.off + n ≤ c.size) ∨ n = 0 := by
  obtain ⟨_, hl, hc⟩ := World.cells?_some h
  by_cases hn : n = 0
  · exact .inr hn
  left
  have hget : ∀ i, i < n → c[a.off + i]? = cs[i]? := fun i hi => by
    have := hc i hi
    rw [add_none hs] at this
    rw [← this]; unfold World.cell?; simp only [hb]; rfl
  have hle : a.off + n ≤ c.size := by
    have := hget (n - 1) (by omega)
    rw [List.getElem?_eq_getElem (by omega)] at this
    have := (Array.getElem?_eq_some_iff.1 this).1
    omega
  refine ⟨?_, hle⟩
  apply List.ext_getElem?
  intro i
  by_cases hi : i < n
  · rw [← hget i hi, List.getElem?_take, if_pos hi, List.getElem?_drop]; simp
  · rw [List.getElem?_eq_none (by omega), List.getElem?_eq_none (by simp; omega)]

section
variable {H : Type} {enc : TypeId × Value → H} {P : Program} {W : World} {sp : Nat → Bool} {held : Bool} {tD tI tS tK : TypeId} {fs : Array Field}

structure DatumTy (P : Program) (tD tI tS tK : TypeId) (fs : Array Field) : Prop where
  d : P.underlying tD = some (.struct fs)
  fs : fs.toList.map (fun f => (f.type, f.offset)) = [(tI, 0), (tI, 1), (tS, 2), (tK, 3), (tI, 4)]
  i : P.underlying tI = some (.int .i64)
  s : P.underlying tS = some .string
  k : P.underlying tK = some (.slice tD)
  cd : P.cellsOf tD = 5
  ci : P.cellsOf tI = 1
  cs : P.cellsOf tS = 1
  ck : P.cellsOf tK = 1

def AbsOk (W : World) (L : Giv) (R : Giv → Prop) : Prop := ∃ M, LOk W (L ++ M) ∧ R (L ++ M)

theorem abs_elems {a : Addr} {n : Nat} {c : Array Value} {e : TypeId} {fr : Nat × Nat} (hb : W.heap[a.block]? = some (.cells c e fr)) (hs : a.spot = none)
    (ih : ∀ cs x, DataW.trod enc P W 0 sp held n tD cs = some x → ∀ L, LOk W L → AbsOk W L fun L' => ∃ d avs, VRL (phiL L') avs cs ∧ Rep (getL L') d avs) :
    ∀ (len : Nat), (∀ i, i < len → ∃ x, (W.cells? 0 (a.add (i * 5)) 5).bind (DataW.trod enc P W 0 sp held n tD) = some x) → ∀ L, LOk W L →
      AbsOk W L fun L' => ∃ ds avs, ds.length = len ∧ VRL (phiL L') avs ((c.toList.drop a.off).take (len * 5)) ∧ RepL (getL L') ds avs ∧ (len = 0 ∨ a.off + len * 5 ≤ c.size)
  | 0, _, L, hL => ⟨[], by simpa using hL, [], [], rfl, by simpa using VRL.nil _, by simp [RepL], .inl rfl⟩
  | len + 1, h, L, hL => by
    obtain ⟨M, hM, ds, avs, h1, h2, h3, _⟩ := abs_elems hb hs ih len (fun i hi => h i (by omega)) L hL
    obtain ⟨x, hx⟩ := h len (by omega)
    cases hc : W.cells? 0 (a.add (len * 5)) 5 with
    | none => rw [hc] at hx; cases hx
    | some cs =>
      rw [hc] at hx
      have hx' : DataW.trod enc P W 0 sp held n tD cs = some x := hx
      rw [add_none hs] at hc
      rcases cells_at (a := ⟨a.block, a.off + len * 5, none⟩) hb rfl hc with ⟨hcs, hle⟩ | h0
      · obtain ⟨M', hM', d, av, g1, g2⟩ := ih cs x hx' (L ++ M) hM
        refine ⟨M ++ M', by rw [← List.append_assoc]; exact hM', ds ++ [d], avs ++ av, by simp [h1], ?_, ?_, .inr (by simp only at hle; omega)⟩
        · rw [← List.append_assoc]
          have e : (c.toList.drop a.off).take ((len + 1) * 5) = (c.toList.drop a.off).take (len * 5) ++ cs := by
            rw [Nat.succ_mul, List.take_add, hcs, List.drop_drop]
          rw [e]
          exact VRL.append (VRL.mono (phiL_sub _ _) _ _ h2) g1
        · rw [← List.append_assoc]
          exact RepL.snoc (RepL.mono (getL_le _ _) _ _ h3) g2
      · omega

/-- a slice that came as an argument -/
inductive TopSl : AV → Prop
  | nils : TopSl .nils
  | sl0 : TopSl .sl0
  | sl (id off len cap : Nat) (h : len ≤ cap) : TopSl (.sl id off len (.fix cap))
theorem abs_slice (T : DatumTy P tD tI tS tK fs) {n : Nat}
    (ih : ∀ m, m < n → ∀ cs x, DataW.trod enc P W 0 sp held m tD cs = some x → ∀ L, LOk W L → AbsOk W L fun L' => ∃ d avs, VRL (phiL L') avs cs ∧ Rep (getL L') d avs)
    {cs : List Value} {x : DataW H × List MemPlace} (h : DataW.trod enc P W 0 sp held n tK cs = some x) {L : Giv} (hL : LOk W L) :
    AbsOk W L fun L' => ∃ ds kv cells v, cs = [v] ∧ VR (phiL L') kv v ∧ SliceOf (getL L') kv ds.length cells ∧ RepL (getL L') ds cells ∧ TopSl kv := by
  rcases DataW.trod_slice T.k h with ⟨rfl, _⟩ | ⟨a, len, cap, elems, rest, m, rfl, rfl, _, _, hlc, hcm, hel, hsl, _, _⟩
  · exact ⟨[], by simpa using hL, [], .nils, [], _, rfl, by simp [VR], ⟨by simp, .inl ⟨rfl, rfl, .inl rfl⟩⟩, by simp [RepL], .nils⟩
  · cases len with
    | zero => exact ⟨[], by simpa using hL, [], .sl0, [], _, rfl, by simp [VR], ⟨by simp, .inl ⟨rfl, rfl, .inr rfl⟩⟩, by simp [RepL], .sl0⟩
    | succ len =>
      rw [T.cd] at hsl
      have hsl' : ∀ i, i < len + 1 → ∃ x, (W.cells? 0 (a.add (i * 5)) 5).bind (DataW.trod enc P W 0 sp held m tD) = some x := fun i hi => by
        have := hsl i hi
        rw [List.getElem?_eq_getElem (by omega)] at this
        exact ⟨_, this⟩
      obtain ⟨x0, hx0⟩ := hsl' 0 (by omega)
      cases hc0 : W.cells? 0 (a.add (0 * 5)) 5 with
      | none => rw [hc0] at hx0; cases hx0
      | some cs0 =>
        obtain ⟨_, hl0, hg0⟩ := World.cells?_some hc0
        have h00 := hg0 0 (by omega)
        rw [List.getElem?_eq_getElem (by omega)] at h00
        have e0 : (a.add (0 * 5)).add 0 = a := by simp [Addr.add]
        rw [e0] at h00
        obtain ⟨c, e, fr, hb, hs, _⟩ := cell_at h00
        obtain ⟨M, hM, ds, avs, h1, h2, h3, h4⟩ := abs_elems hb hs (ih m (by omega)) (len + 1) hsl' L hL
        have h4' : a.off + (len + 1) * 5 ≤ c.size := by omega
        have hal := RepL.length h3
        have hadd := LOk.add hM (⟨a.block, a.off, 0⟩, avs) ⟨c, e, fr, hb, by simp only; rw [hal, h1]; omega, by simp only; rw [hal, h1]; exact h2⟩
        refine ⟨M ++ [(⟨a.block, a.off, 0⟩, avs)], by rw [← List.append_assoc]; exact hadd, ds, .sl (L ++ M).length 0 (len + 1) (.fix cap), avs, _, rfl, ?_, ?_, ?_, .sl _ _ _ _ hlc⟩
        · rw [← List.append_assoc]
          simp only [VR]
          refine ⟨⟨a.block, a.off, 0⟩, cap, ?_, ?_, rfl⟩
          · simp [phiL]
          · cases a; simp only at hs; subst hs; rfl
        · rw [← List.append_assoc]
          have hm : cap ≤ 9223372036854775807 := hcm
          refine ⟨by omega, .inr ⟨(L ++ M).length, 0, .fix cap, avs, by rw [h1], by simp [getL, rowO], ?_⟩⟩
          rw [cut_eq (by omega), List.drop_zero, ← hal, List.take_length]
        · rw [← List.append_assoc]
          exact RepL.mono (getL_le _ _) _ _ h3

theorem five {α : Type} {l : List α} (h : l.length = 5) : ∃ a b c d e, l = [a, b, c, d, e] := by
  match l, h with
  | [a, b, c, d, e], _ => exact ⟨a, b, c, d, e, rfl⟩

theorem abs_datum (T : DatumTy P tD tI tS tK fs) : ∀ (n : Nat) (cs : List Value) (x : DataW H × List MemPlace), DataW.trod enc P W 0 sp held n tD cs = some x → ∀ L, LOk W L →
    AbsOk W L fun L' => ∃ d avs, VRL (phiL L') avs cs ∧ Rep (getL L') d avs := by
  intro n
  induction n using Nat.strongRecOn with
  | ind n ih =>
  intro cs x h L hL
  obtain ⟨xs, m, rfl, _, hl, hlen, hf⟩ := DataW.trod_struct T.d h
  rw [T.cd] at hl
  obtain ⟨c0, c1, c2, c3, c4, rfl⟩ := five hl
  have hfs := T.fs
  obtain ⟨f0, f1, f2, f3, f4, hfe⟩ := five (l := fs.toList) (by have := congrArg List.length hfs; simpa using this)
  rw [hfe] at hfs
  simp only [List.map_cons, List.map_nil, List.cons.injEq, Prod.mk.injEq, and_true] at hfs
  obtain ⟨⟨a0, b0⟩, ⟨a1, b1⟩, ⟨a2, b2⟩, ⟨a3, b3⟩, ⟨a4, b4⟩⟩ := hfs
  have hat : ∀ (i : Nat) (f : Field), fs.toList[i]? = some f → ∃ y, DataW.trod enc P W 0 sp held m f.type (([c0, c1, c2, c3, c4].drop f.offset).take (P.cellsOf f.type)) = some y := fun i f hi => by
    have h1 := hf i f (by rw [← Array.getElem?_toList]; exact hi)
    have hlt : i < fs.toList.length := (List.getElem?_eq_some_iff.1 hi).1
    rw [List.getElem?_eq_getElem (by rw [hlen]; simpa using hlt)] at h1
    exact ⟨_, h1⟩
  obtain ⟨y0, g0⟩ := hat 0 f0 (by rw [hfe]; rfl)
  obtain ⟨y1, g1⟩ := hat 1 f1 (by rw [hfe]; rfl)
  obtain ⟨y2, g2⟩ := hat 2 f2 (by rw [hfe]; rfl)
  obtain ⟨y3, g3⟩ := hat 3 f3 (by rw [hfe]; rfl)
  obtain ⟨y4, g4⟩ := hat 4 f4 (by rw [hfe]; rfl)
  rw [a0, b0, T.ci] at g0
  rw [a1, b1, T.ci] at g1
  rw [a2, b2, T.cs] at g2
  rw [a3, b3, T.ck] at g3
  rw [a4, b4, T.ci] at g4
  obtain ⟨n0, e0, _⟩ := DataW.trod_int T.i g0
  obtain ⟨n1, e1, _⟩ := DataW.trod_int T.i g1
  obtain ⟨s2, e2, _⟩ := DataW.trod_string T.s g2
  obtain ⟨n4, e4, _⟩ := DataW.trod_int T.i g4
  simp at e0 e1 e2 e4
  subst e0; subst e1; subst e2; subst e4
  obtain ⟨M, hM, ds, kv, cells, v, q1, q2, q3, q4, _⟩ := abs_slice (n := m) T (fun k hk => ih k (by omega)) g3 hL
  simp at q1; subst q1
  refine ⟨M, hM, .mk n0 n1 (nats s2) ds n4, [.int .i64 n0, .int .i64 n1, .str (nats s2), kv, .int .i64 n4], ?_, ?_⟩
  · exact VRL.cons (by simp [VR]) (VRL.cons (by simp [VR]) (VRL.cons (by simp only [VR]; exact ⟨s2, rfl, rfl⟩) (VRL.cons q2 (VRL.cons (by simp [VR]) (VRL.nil _)))))
  · simp only [Rep]; exact ⟨kv, cells, rfl, q3, q4⟩
end

/-! ### The state of these -/
def objsL : Giv → Nat → Trie AObj → Trie AObj
  | [], _, t => t
  | p :: r, i, t => objsL r (i + 1) (t.set i (.giv p.2))
theorem objsL_get : ∀ (L : Giv) (i : Nat) (t : Trie AObj) (id : Nat), (objsL L i t).get id = if i ≤ id ∧ id < i + L.length then (L[id - i]?).map (fun p => .giv p.2) else t.get id
  | [], i, t, id => by
    simp only [objsL, List.length_nil, Nat.add_zero]
    rw [if_neg (by omega)]
  | p :: r, i, t, id => by
    simp only [objsL, objsL_get r (i + 1), List.length_cons]
    by_cases h1 : i + 1 ≤ id ∧ id < i + 1 + r.length
    · rw [if_pos h1, if_pos (by omega)]
      have : id - i = (id - (i + 1)) + 1 := by omega
      rw [this, List.getElem?_cons_succ]
    · rw [if_neg h1, Trie.get_set]
      by_cases h2 : id = i
      · subst h2; rw [if_pos rfl, if_pos (by omega)]; simp
      · rw [if_neg h2, if_neg (by omega)]
def stL (L : Giv) : St := ⟨objsL L 0 .leaf, L.length, 0, [], none⟩
theorem stL_objs (L : Giv) (id : Nat) : (stL L).objs.get id = getL L id := by
  show (objsL L 0 .leaf).get id = _
  rw [objsL_get]
  unfold getL
  by_cases h : id < L.length
  · rw [if_pos (by omega)]; simp
  · rw [if_neg (by omega), List.getElem?_eq_none (by omega)]; simp [Trie.get]
theorem stL_get (L : Giv) : (stL L).get = getL L := by
  funext id
  rw [get_ok (s := stL L) rfl, stL_objs]; exact if_pos rfl
theorem stL_ok (L : Giv) : Ok (stL L) := by
  refine ⟨rfl, fun id o h => ?_, fun p hp => by simp [stL] at hp⟩
  rw [stL_objs] at h
  unfold getL at h
  cases hx : L[id]? with
  | none => rw [hx] at h; cases h
  | some p => exact (List.getElem?_eq_some_iff.1 hx).1
theorem stL_rel {P : Program} {W : World} {L : Giv} (h : LOk W L) : Rel P W (phiL L) (stL L).get W := by
  have hob : ∀ id o, (stL L).get id = some o → ∃ p, L[id]? = some p ∧ o = .giv p.2 := fun id o ho => by
    rw [stL_get] at ho
    unfold getL at ho
    cases hx : L[id]? with
    | none => rw [hx] at ho; cases ho
    | some p => rw [hx] at ho; simp at ho; exact ⟨p, rfl, ho.symm⟩
  have hrng : ∀ id B, phiL L id = some B → B.b < W.heap.size := fun id B hB => by
    unfold phiL at hB
    cases hx : L[id]? with
    | none => rw [hx] at hB; cases hB
    | some p =>
      rw [hx] at hB; simp at hB; subst hB
      obtain ⟨c, e, fr, h1, _⟩ := h id p hx
      exact (Array.getElem?_eq_some_iff.1 h1).1
  refine ⟨Below.refl _ _, fun id o ho => ?_, hrng, fun id o B ho _ _ => ?_, fun id id' o o' B B' _ _ hB _ _ => .inr (hrng id B hB)⟩
  · obtain ⟨p, hp, rfl⟩ := hob id o ho
    refine ⟨p.1, by simp [phiL, hp], ?_⟩
    simp only [ObjRel]
    exact h id p hp
  · obtain ⟨p, _, rfl⟩ := hob id o ho; rfl
theorem phiL_none (L : Giv) (id : Nat) (h : (stL L).next ≤ id) : phiL L id = none := by
  unfold phiL; rw [List.getElem?_eq_none (by exact h)]; rfl
end Go.Proofs.YtagpffdamckekaaGreatDoor.Ev

/- Part of a verified evaluator of the model's code, generic over the program: a run of the evaluator that answers shows what the model's run answers. No conditions of its own. -/
import Derived.Test.YtoejmfiaaigpbaaGreatDoorEvOpsH
import Derived.Test.YtoejmfiaaigpbaaGreatDoorEvMono
import Derived.Test.YtoejmfiaaigpbaaGreatDoorEvExt
import Derived.RangeFuncRecord
import Derived.RangeFuncLeaves
import Derived.OrdersIn
namespace Go.Proofs.YtoejmfiaaigpbaaGreatDoor.Ev

/-- a fence that lets all in -/
structure Wide (F : Fence) : Prop where
  fn : ∀ f, F.fn f
  depth : F.depth = none

def Fresh (φ : Phi) (s s' : St) : Prop := ∀ id, s.next ≤ id → id < s'.next → φ id = none
theorem Fresh.left {φ : Phi} {s s1 s' : St} (h : Fresh φ s s') (h1 : s1.next ≤ s'.next) : Fresh φ s s1 := fun id a b => h id a (by omega)
theorem Fresh.right {φ φ1 : Phi} {s s1 s' : St} (h : Fresh φ s s') (h0 : s.next ≤ s1.next) (hs : ∀ id, (id < s.next ∨ s1.next ≤ id) → φ1 id = φ id) : Fresh φ1 s1 s' :=
  fun id a b => by rw [hs id (.inr a)]; exact h id (by omega) b

def RetQ (P : Program) (w0 : World) (φ : Phi) (s : St) (w : World) (v : AV) (s' : St) (e : Ending) (w' : World) : Prop :=
  ∃ φ' x, e = .returned x ∧ Step P w0 φ s w φ' s' w' ∧ VR φ' v x

def Res.ex : Res → Exit
  | .norm => .normal
  | .exit id => .exit id
  | .ret => .ret

def DfRel (φ : Phi) : List Nat → List Deferred → Prop
  | [], ds => ds = []
  | d :: r, ds => ∃ B ds', φ d = some B ∧ ds = { target := .collected B.b, args := #[] } :: ds' ∧ DfRel φ r ds'
theorem DfRel.mono {φ φ' : Phi} (h : Sub φ φ') : ∀ {l : List Nat} {ds : List Deferred}, DfRel φ l ds → DfRel φ' l ds
  | [], _, t => t
  | d :: r, _, t => by obtain ⟨B, ds', h1, h2, h3⟩ := t; exact ⟨B, ds', h _ _ h1, h2, h3.mono h⟩

/-- the frame, abstract and of the machine -/
structure FrRel (φ : Phi) (nt : Nat) (fr : Fr) (a : Act) : Prop where
  tm : TmRel φ fr.tm a.tmps
  size : a.tmps.size = nt
  df : DfRel φ fr.df a.defers
theorem FrRel.mono {φ φ' : Phi} (h : Sub φ φ') {nt : Nat} {fr : Fr} {a : Act} (t : FrRel φ nt fr a) : FrRel φ' nt fr a := ⟨t.tm.mono h, t.size, t.df.mono h⟩

def CodeQ (P : Program) (w0 : World) (φ : Phi) (nt : Nat) (s : St) (w : World) (res : Res) (fr' : Fr) (s' : St) (e : Exit) (a' : Act) (w' : World) : Prop :=
  ∃ φ', e = res.ex ∧ Step P w0 φ s w φ' s' w' ∧ FrRel φ' nt fr' a'

/-- a loop, from its body on -/
def LoopIn (F : Fence) (n : Nat) (P : Program) (c : Code) (Q : Exit → Act → World → Prop) (a : Act) (w : World) : Prop :=
  ∀ (b : Frame) (k : List Item) (cs : List Frame), b.roundOf = F.round → F.fn b.fn → F.room (cs.length + 1 + n) →
    ∃ e a' w', Q e a' w' ∧ ArrivesIn (Machine.fenced P F) P (lone (b.atR a (.code c :: .inLoop c :: k)) cs w) b k cs e a' w'
theorem loopIn_once {F : Fence} {n : Nat} {P : Program} {c : Code} {Q : Exit → Act → World → Prop} {a : Act} {w : World} (h : c.wpIn F n P (Exit.then (LoopIn F n P c Q) Q) a w) : LoopIn F n P c Q a w := by
  intro b k cs hro hb hr
  obtain ⟨e, a₁, w₁, hq, harr⟩ := h b (.inLoop c :: k) cs hro hb hr
  cases e with
  | normal =>
    obtain ⟨e₂, a₂, w₂, hq₂, harr₂⟩ := hq b k cs hro hb hr
    exact ⟨e₂, a₂, w₂, hq₂, .of_steps (StepsIn.trans harr (.one (fenced_calm hb hr rfl) stepR_inLoop)) harr₂⟩
  | exit id => exact ⟨_, a₁, w₁, hq, .pass (x := .inLoop c) rfl (fun _ _ => .inl (by simp)) harr⟩
  | goto l => exact ⟨_, a₁, w₁, hq, .pass (x := .inLoop c) rfl (fun _ _ => .inl (by simp)) harr⟩
  | ret => exact ⟨_, a₁, w₁, hq, .pass (x := .inLoop c) rfl (fun _ _ => .inl (by simp)) harr⟩
  | panic ch => exact ⟨_, a₁, w₁, hq, .pass (x := .inLoop c) rfl (fun _ _ => .inl (by simp)) harr⟩
  | outgrown => exact ⟨_, a₁, w₁, hq, .pass (x := .inLoop c) rfl (fun _ _ => .inl (by simp)) harr⟩
theorem wpIn_of_loopIn {F : Fence} {n : Nat} {P : Program} {c : Code} {Q : Exit → Act → World → Prop} {a : Act} {w : World} (h : LoopIn F n P c Q a w) : (Code.loop c).wpIn F n P Q a w := by
  intro b k cs hro hb hr
  obtain ⟨e, a', w', hq, harr⟩ := h b k cs hro hb hr
  exact ⟨e, a', w', hq, .of_steps (.one (fenced_calm hb hr rfl) stepR_loop) harr⟩
theorem LoopIn.mono {F : Fence} {n : Nat} {P : Program} {c : Code} {Q Q' : Exit → Act → World → Prop} {a : Act} {w : World} (h : LoopIn F n P c Q a w) (hq : ∀ e a w, Q e a w → Q' e a w) : LoopIn F n P c Q' a w :=
  fun b k cs hro hb hr => let ⟨e, a', w', q, r⟩ := h b k cs hro hb hr; ⟨e, a', w', hq _ _ _ q, r⟩

structure SelfOk (P : Program) (w0 : World) (S : Self) : Prop where
  mono : Mono S
  ext : ExtS S
  call : ∀ {f args s v s'}, S.call f args s = some (v, s') → (∃ fn, P.funcs[f]? = some fn ∧ fn.body.isSome = true ∧ (fn.name == "runtime.NumGoroutine") = false) ∧
    ∀ {φ w xs}, Rel P w0 φ s.get w → Wf s → Fresh φ s s' → VRL φ args xs → ∀ F n, Wide F → CallsIn F n P f xs.toArray w (RetQ P w0 φ s w v s')
  round : ∀ {l args s v s'}, S.round l args s = some (v, s') → ∀ {φ w xs B}, Rel P w0 φ s.get w → Wf s → Fresh φ s s' → VRL φ args xs → φ l = some B →
    ∃ L, w.heap[B.b]? = some (.loop L) ∧ xs.length = L.params.size ∧ ∀ F n, Wide F → RoundIn F n P B.b L.fn ((L.params.zip xs.toArray).foldl (fun t (p, v) => t.setIfInBounds p v) L.tmps) L.assign L.body w (RetQ P w0 φ s w v s')
  loop : ∀ {rd b fr s res fr' s'}, S.loop rd b fr s = some (res, fr', s') → ∀ {nt c φ w a}, cC P nt c = some b → Rel P w0 φ s.get w → Wf s → Fresh φ s s' → FrRel φ nt fr a →
    ∀ F n, Wide F → (rd = none → F.round = none) → LoopIn F n P c (CodeQ P w0 φ nt s w res fr' s') a w

section
variable {P : Program} {w0 : World} {φ : Phi} {s s' : St} {w : World} {tm : Trie AV} {a : Act} {o : Oper} {v : AV} {E : Env} {S : Self}

theorem keepO_some {x : Option IOp} {op : IOp} (h : keepO x = some op) : x = some op ∧ noCall op = true := by
  cases x with
  | none => simp [keepO] at h
  | some i =>
    simp only [keepO] at h
    cases hb : noCall i with
    | true => rw [hb] at h; simp at h; subst h; exact ⟨rfl, hb⟩
    | false => rw [hb] at h; simp at h

/-- what an operation is compiled to -/
theorem cOp_cases {x : Op} {op : IOp} (h : cOp P x = some op) :
    (cOpv P x = some op ∧ noCall op = true) ∨ ∃ c, x = .call c ∧
      ((∃ f l, c.callee = .value (.func f) ∧ op = .call f l ∧ cOpds c.args.toList = some l) ∨ ∃ y y' l, c.callee = .value y ∧ op = .cv y' l ∧ cOpd y = some y' ∧ cOpds c.args.toList = some l) := by
  by_cases hx : ∃ c, x = .call c
  · obtain ⟨c, rfl⟩ := hx
    simp only [cOp, cCall] at h
    split at h
    · rename_i f hcal
      split at h
      · cases h
      · rename_i fn _
        cases hb : fn.body.isSome with
        | true =>
          rw [hb] at h; simp only [cond_true] at h
          obtain ⟨y, hy, he⟩ := Option.map_eq_some_iff.1 h
          exact .inr ⟨c, rfl, .inl ⟨f, y, hcal, he.symm, hy⟩⟩
        | false => rw [hb] at h; simp only [cond_false] at h; exact .inl (keepO_some h)
    · rename_i y _ hcal
      split at h
      · rename_i y' l q1 q2
        simp only [Option.some.injEq] at h
        exact .inr ⟨c, rfl, .inr ⟨y, y', l, hcal, h.symm, q1, q2⟩⟩
      · cases h
    · exact .inl (keepO_some h)
  · have : cOp P x = keepO (cOpv P x) := by
      cases x <;> first | rfl | exact absurd ⟨_, rfl⟩ hx
    rw [this] at h
    exact .inl (keepO_some h)

theorem not_defer {op : IOp} (hc : cOp P o.op = some op) : ∀ c, o.op ≠ .defer c := fun c h => by rw [h] at hc; simp [cOp, keepO, cOpv] at hc

theorem run_callFunc {f : Nat} {fn : Func} {xs : Array Value} (h : P.funcs[f]? = some fn) (hb : fn.body.isSome = true) (hn : (fn.name == "runtime.NumGoroutine") = false) : (callFunc f xs).run P w = .ok (.enter f xs) w := by
  have hb' : fn.body.isNone = false := by cases hh : fn.body <;> simp [hh] at hb ⊢
  simp only [callFunc, Sem.run_bind, run_program, Result.andThen_ok, h, hn, hb', Bool.false_eq_true, if_false, Sem.run_pure]

theorem list_arr (l : Array Operand) (f : Operand → Value) : (l.toList.map f).toArray = l.map f := by apply Array.ext'; simp

theorem evOp_sound (hS : SelfOk P w0 S) (hG : GlobRel E.globs w0) {op : IOp} (hc : cOp P o.op = some op) (h : evOp E S op tm s = some (v, s'))
    (r : Rel P w0 φ s.get w) (hwf : Wf s) (hf : Fresh φ s s') (ht : TmOn φ (Opd.tmps op.opds) tm a) {F : Fence} (hF : Wide F) {n : Nat} {next : Act → World → Prop} {Q : Exit → Act → World → Prop}
    (hn : ∀ φ' x w', Step P w0 φ s w φ' s' w' → VR φ' v x → next (a.put o.dst x) w') : o.wpIn F n P a w next Q := by
  have hvac : F.depth.isSome = true → 1 ≤ n := fun h => by rw [hF.depth] at h; cases h
  refine ⟨fun f _ => hF.fn f, ?_⟩
  rw [Oper.semAt_eq _ _ _ (not_defer hc)]
  have hcall : ∀ {f args xs}, S.call f args s = some (v, s') → VRL φ args xs → (∀ fn, P.funcs[f]? = some fn → fn.body.isSome = true → (fn.name == "runtime.NumGoroutine") = false → (execOp a.eval o).run P w = .ok (.enter f xs.toArray) w) → o.uponIn F n P a next Q ((execOp a.eval o).run P w) := fun {f args xs} h1 h2 h3 => by
    obtain ⟨⟨fn, g1, g2, g3⟩, g4⟩ := hS.call h1
    rw [h3 fn g1 g2 g3, Oper.uponIn_enter]
    refine ⟨hvac, CallsIn.mono (g4 r hwf hf h2 F (n - 1) hF) ?_⟩
    rintro e w' ⟨φ', x, rfl, k2, k3⟩
    exact hn φ' x w' k2 k3
  rcases cOp_cases hc with ⟨hv, hnc⟩ | ⟨c, hop, ⟨f, l, hcal, rfl, hl⟩ | ⟨y, y', l, hcal, rfl, hy, hl⟩⟩
  · have hv2 : opv E op tm s = some (v, s') := by
      unfold evOp at h
      split at h
      · simp [noCall] at hnc
      · simp [noCall] at hnc
      · exact h
    obtain ⟨φ', x, w', h1, h2, h3⟩ := opv_sound hG hv hv2 r hwf (fun hlt => hf _ (Nat.le_refl _) hlt) ht
    rcases h1 with h1 | ⟨h1, rfl⟩
    · rw [h1, Oper.uponIn_value]; exact hn φ' x w' h2 h3
    · rw [h1, Oper.uponIn_skip]; exact hn φ' _ w' h2 h3
  · simp only [evOp, evCl] at h
    split at h
    · rename_i vs hvs
      refine hcall h (opds_sound hl hvs (tmonL ht (by simp [IOp.opds]))) fun fn g1 g2 g3 => ?_
      rw [list_arr]
      unfold execOp; rw [hop]
      simp [resolve, hcal, Act.eval, Deferred.ofValue, invoke, run_callFunc g1 g2 g3]
    · cases h
  · simp only [evOp, evCv] at h
    split at h
    · rename_i vs hvs
      have hargs := opds_sound (φ := φ) (a := a) hl hvs (tmonL ht (by simp [IOp.opds]; intro x hx; exact .inr hx))
      split at h
      · rename_i f u k hfn
        have hfv := opd_sound (φ := φ) (a := a) hy hfn (tmon1 ht (by simp [IOp.opds]))
        simp only [VR] at hfv
        obtain ⟨xs, ys, e1, e2, e3⟩ := hfv
        refine hcall h (VRL.append (VRL.append e2 hargs) e3) fun fn g1 g2 g3 => ?_
        have : (xs ++ c.args.toList.map a.eval ++ ys).toArray = xs.toArray ++ c.args.map a.eval ++ ys.toArray := by apply Array.ext'; simp
        rw [this]
        unfold execOp; rw [hop]
        simp only [resolve, hcal, e1, Deferred.ofValue, invoke, Sem.run_bind, Sem.run_pure, Result.andThen_ok]
        exact run_callFunc g1 g2 g3
      · rename_i lid hfn
        have hfv := opd_sound (φ := φ) (a := a) hy hfn (tmon1 ht (by simp [IOp.opds]))
        simp only [VR] at hfv
        obtain ⟨B, hB, e1⟩ := hfv
        obtain ⟨L, g1, g2, g3⟩ := hS.round h r hwf hf hargs hB
        have hrun : (execOp a.eval o).run P w = .ok (.round B.b L.fn ((L.params.zip (c.args.map a.eval)).foldl (fun t (p, v) => t.setIfInBounds p v) L.tmps) L.assign L.body) w := by
          unfold execOp; rw [hop]
          simp only [resolve, hcal, e1, Deferred.ofValue, invoke, Sem.run_bind, Sem.run_pure, Result.andThen_ok, Array.empty_append]
          exact run_yield g1 (by rw [← g2]; simp)
        rw [hrun, Oper.uponIn_round]
        refine ⟨hvac, ?_⟩
        have := g3 F (n - 1) hF
        rw [list_arr] at this
        refine RoundIn.mono this ?_
        rintro e w' ⟨φ', x, rfl, k2, k3⟩
        exact hn φ' x w' k2 k3
      · cases h
    · cases h

end
end Go.Proofs.YtoejmfiaaigpbaaGreatDoor.Ev

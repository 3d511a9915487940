/- Part of a verified evaluator of the model's code, generic over the program: a run of the evaluator that answers shows what the model's run answers. No conditions of its own. -/
import Derived.Test.YtoejmfiaaigpbaaGreatDoorEvSelf
namespace Go.Proofs.YtoejmfiaaigpbaaGreatDoor.Ev

/-! ### A region that draws its order: what its evaluation in the text's order was -/
def logOf (i : Nat) (d : DOper) (T : Trie AV) (W t : St) : LogE := { idx := i, lo := W.next, hi := t.next, tch := touch d.o.op T, wm := oldMask t.wm W.next }

structure Tr (E : Env) (S : Self) (ds : List DOper) where
  L : Nat → List LogE
  T : Nat → Trie AV
  W : Nat → St
  V : Nat → Option (AV × St)
  skip : ∀ i d, ds[i]? = some d → V i = none → wants d.o.guard (T i) = some false ∧ L (i + 1) = L i ∧ T (i + 1) = setDst (T i) d.o.dst undefV ∧ W (i + 1) = W i
  run : ∀ i d v t, ds[i]? = some d → V i = some (v, t) → wants d.o.guard (T i) = some true ∧ evOp E S d.o.op (T i) (begD d (L i) (T i) (W i)) = some (v, t) ∧
    compat d.deps (touch d.o.op (T i)) (oldMask t.wm (W i).next) (L i) = true ∧ L (i + 1) = logOf i d (T i) (W i) t :: L i ∧ T (i + 1) = setDst (T i) d.o.dst v ∧
    W (i + 1) = { t with hide := (W i).hide, only := (W i).only, wm := Nat.lor (W i).wm t.wm }

theorem trace_aux {E : Env} {S : Self} : ∀ {ds : List DOper} {k : Nat} {log : List LogE} {tm tm' : Trie AV} {s s' : St}, evD E S ds k log tm s = some (tm', s') →
    ∃ (L : Nat → List LogE) (T : Nat → Trie AV) (W : Nat → St) (V : Nat → Option (AV × St)), L 0 = log ∧ T 0 = tm ∧ W 0 = s ∧ T ds.length = tm' ∧ W ds.length = s' ∧
      (∀ i d, ds[i]? = some d → V i = none → wants d.o.guard (T i) = some false ∧ L (i + 1) = L i ∧ T (i + 1) = setDst (T i) d.o.dst undefV ∧ W (i + 1) = W i) ∧
      (∀ i d v t, ds[i]? = some d → V i = some (v, t) → wants d.o.guard (T i) = some true ∧ evOp E S d.o.op (T i) (begD d (L i) (T i) (W i)) = some (v, t) ∧
        compat d.deps (touch d.o.op (T i)) (oldMask t.wm (W i).next) (L i) = true ∧ L (i + 1) = logOf (k + i) d (T i) (W i) t :: L i ∧ T (i + 1) = setDst (T i) d.o.dst v ∧
        W (i + 1) = { t with hide := (W i).hide, only := (W i).only, wm := Nat.lor (W i).wm t.wm })
  | [], k, log, tm, tm', s, s', h => by
    simp only [evD, Option.some.injEq, Prod.mk.injEq] at h
    obtain ⟨rfl, rfl⟩ := h
    exact ⟨fun _ => log, fun _ => tm, fun _ => s, fun _ => none, rfl, rfl, rfl, rfl, rfl, (fun i d h => by simp at h), (fun i d v t h => by simp at h)⟩
  | o :: r, k, log, tm, tm', s, s', h => by
    simp only [evD] at h
    split at h
    · rename_i p hp
      obtain ⟨L, T, W, V, h1, h2, h3, h4, h5, h6, h7⟩ := trace_aux h
      have hV : ∃ V0 : Option (AV × St), (V0 = none → wants o.o.guard tm = some false ∧ p.1 = log ∧ p.2.1 = setDst tm o.o.dst undefV ∧ p.2.2 = s) ∧
          (∀ v t, V0 = some (v, t) → wants o.o.guard tm = some true ∧ evOp E S o.o.op tm (begD o log tm s) = some (v, t) ∧
            compat o.deps (touch o.o.op tm) (oldMask t.wm s.next) log = true ∧ p.1 = logOf k o tm s t :: log ∧ p.2.1 = setDst tm o.o.dst v ∧ p.2.2 = { t with hide := s.hide, only := s.only, wm := Nat.lor s.wm t.wm }) := by
        unfold stepD at hp
        split at hp
        · rename_i hw
          cases he : evOp E S o.o.op tm (begD o log tm s) with
          | none => rw [he] at hp; simp [endD] at hp
          | some q =>
            rw [he] at hp; simp only [endD] at hp
            cases hb : compat o.deps (touch o.o.op tm) (oldMask q.2.wm s.next) log with
            | false => rw [hb] at hp; simp at hp
            | true =>
              rw [hb] at hp; simp only [cond_true, Option.some.injEq] at hp
              refine ⟨some q, (fun h => by cases h), fun v t hvt => ?_⟩
              cases hvt
              subst hp
              exact ⟨hw, rfl, hb, rfl, rfl, rfl⟩
        · rename_i hw
          simp only [Option.some.injEq] at hp
          subst hp
          exact ⟨none, fun _ => ⟨hw, rfl, rfl, rfl⟩, (fun v t h => by cases h)⟩
        · cases hp
      obtain ⟨V0, hV1, hV2⟩ := hV
      refine ⟨fun i => match i with | 0 => log | i + 1 => L i, fun i => match i with | 0 => tm | i + 1 => T i, fun i => match i with | 0 => s | i + 1 => W i, fun i => match i with | 0 => V0 | i + 1 => V i, rfl, rfl, rfl, h4, h5, ?_, ?_⟩
      · intro i d hd hv
        cases i with
        | zero =>
          simp only [List.getElem?_cons_zero, Option.some.injEq] at hd; subst hd
          obtain ⟨g1, g2, g3, g4⟩ := hV1 hv
          exact ⟨g1, h1.trans g2, h2.trans g3, h3.trans g4⟩
        | succ i => exact h6 i d (by simpa using hd) hv
      · intro i d v t hd hv
        cases i with
        | zero =>
          simp only [List.getElem?_cons_zero, Option.some.injEq] at hd; subst hd
          obtain ⟨g1, g2, g3, g4, g5, g6⟩ := hV2 v t hv
          exact ⟨g1, g2, g3, h1.trans g4, h2.trans g5, h3.trans g6⟩
        | succ i =>
          have := h7 i d v t (by simpa using hd) hv
          rw [show k + 1 + i = k + (i + 1) by omega] at this
          exact this
    · cases h

theorem trace {E : Env} {S : Self} {ds : List DOper} {tm tm' : Trie AV} {s s' : St} (h : evD E S ds 0 [] tm s = some (tm', s')) :
    ∃ R : Tr E S ds, R.L 0 = [] ∧ R.T 0 = tm ∧ R.W 0 = s ∧ R.T ds.length = tm' ∧ R.W ds.length = s' := by
  obtain ⟨L, T, W, V, h1, h2, h3, h4, h5, h6, h7⟩ := trace_aux h
  exact ⟨⟨L, T, W, V, h6, fun i d v t hd hv => by have := h7 i d v t hd hv; rw [Nat.zero_add] at this; exact this⟩, h1, h2, h3, h4, h5⟩

section
variable {E : Env} {S : Self} {ds : List DOper} (R : Tr E S ds)

/-- operation i writes or lays block id -/
def Tr.wr (i id : Nat) : Prop := ∃ v t, R.V i = some (v, t) ∧ ((R.W i).next ≤ id ∧ id < t.next ∨ id < (R.W i).next ∧ t.wm.testBit id = true)

structure Tr.Ok : Prop where
  l0 : R.L 0 = []
  only : (R.W 0).only = none
  wf : Wf (R.W 0)

variable {R}
theorem getSome {i : Nat} (h : i < ds.length) : ∃ d, ds[i]? = some d := ⟨ds[i], by simp [h]⟩

theorem Tr.facts (hS : ExtS S) (ok : R.Ok) : ∀ i, i ≤ ds.length → (R.W i).only = none ∧ Wf (R.W i) ∧ (R.W i).hide = (R.W 0).hide ∧ (∀ e ∈ R.L i, e.hi ≤ (R.W i).next) ∧ Ext (R.W 0) (R.W i)
  | 0, _ => ⟨ok.only, ok.wf, rfl, by rw [ok.l0]; simp, Ext.refl _⟩
  | i + 1, hi => by
    obtain ⟨h1, h2, h3, h4, h5⟩ := Tr.facts hS ok i (by omega)
    obtain ⟨d, hd⟩ := getSome (ds := ds) (i := i) (by omega)
    cases hv : R.V i with
    | none =>
      obtain ⟨_, g2, _, g4⟩ := R.skip i d hd hv
      rw [g2, g4]; exact ⟨h1, h2, h3, h4, h5⟩
    | some p =>
      obtain ⟨_, g2, _, g4, _, g6⟩ := R.run i d p.1 p.2 hd hv
      have hx := endD_ext h1 h4 (evOp_ext hS g2)
      rw [← g6] at hx
      refine ⟨hx.only.trans h1, hx.wf h2, hx.hide.trans h3, fun e he => ?_, h5.trans hx⟩
      rw [g4] at he
      rcases List.mem_cons.1 he with rfl | he
      · rw [g6]; exact Nat.le_refl _
      · exact Nat.le_trans (h4 e he) hx.next

theorem Tr.ext (hS : ExtS S) (ok : R.Ok) {i : Nat} (hi : i < ds.length) : Ext (R.W i) (R.W (i + 1)) := by
  obtain ⟨h1, h2, h3, h4, h5⟩ := R.facts hS ok i (by omega)
  obtain ⟨d, hd⟩ := getSome (ds := ds) hi
  cases hv : R.V i with
  | none => obtain ⟨_, g2, _, g4⟩ := R.skip i d hd hv; rw [g4]; exact Ext.refl _
  | some p =>
    obtain ⟨_, g2, _, g4, _, g6⟩ := R.run i d p.1 p.2 hd hv
    rw [g6]; exact endD_ext h1 h4 (evOp_ext hS g2)

theorem Tr.next_le (hS : ExtS S) (ok : R.Ok) : ∀ {i j : Nat}, i ≤ j → j ≤ ds.length → (R.W i).next ≤ (R.W j).next
  | i, 0, h, _ => by have : i = 0 := by omega
                     subst this; exact Nat.le_refl _
  | i, j + 1, h, hj => by
    by_cases e : i = j + 1
    · subst e; exact Nat.le_refl _
    · exact Nat.le_trans (Tr.next_le hS ok (i := i) (j := j) (by omega) (by omega)) (R.ext hS ok (i := j) (by omega)).next

/-- what no operation between writes, stays -/
theorem Tr.keep1 (hS : ExtS S) (ok : R.Ok) {i id : Nat} (hi : i < ds.length) (hw : ¬ R.wr i id) : (R.W (i + 1)).objs.get id = (R.W i).objs.get id := by
  obtain ⟨h1, h2, h3, h4, h5⟩ := R.facts hS ok i (by omega)
  obtain ⟨g1, g2', _⟩ := R.facts hS ok (i + 1) (by omega)
  obtain ⟨d, hd⟩ := getSome (ds := ds) hi
  cases hv : R.V i with
  | none => obtain ⟨_, _, _, g4⟩ := R.skip i d hd hv; rw [g4]
  | some p =>
    obtain ⟨_, g2, _, g4, _, g6⟩ := R.run i d p.1 p.2 hd hv
    have hx := evOp_ext hS g2
    by_cases hlt : id < (R.W i).next
    · have hb : p.2.wm.testBit id = false := by
        cases hb : p.2.wm.testBit id with
        | false => rfl
        | true => exact absurd ⟨p.1, p.2, hv, .inr ⟨hlt, hb⟩⟩ hw
      rw [g6]; exact hx.keep id hlt hb
    · have hge : ¬ id < p.2.next := fun h => hw ⟨p.1, p.2, hv, .inl ⟨by omega, h⟩⟩
      have e1 : (R.W i).objs.get id = none := by
        cases he : (R.W i).objs.get id with
        | none => rfl
        | some o => exact absurd (h2.lt id o he) hlt
      have e2 : (R.W (i + 1)).objs.get id = none := by
        cases he : (R.W (i + 1)).objs.get id with
        | none => rfl
        | some o => have := g2'.lt id o he; rw [g6] at this; exact absurd this hge
      rw [e1, e2]

theorem Tr.keepN (hS : ExtS S) (ok : R.Ok) {id : Nat} : ∀ {i j : Nat}, i ≤ j → j ≤ ds.length → (∀ k, i ≤ k → k < j → ¬ R.wr k id) → (R.W j).objs.get id = (R.W i).objs.get id
  | i, 0, h, _, _ => by have : i = 0 := by omega
                        subst this; rfl
  | i, j + 1, h, hj, hw => by
    by_cases e : i = j + 1
    · subst e; rfl
    · exact (R.keep1 hS ok (by omega) (hw j (by omega) (by omega))).trans (Tr.keepN hS ok (i := i) (j := j) (by omega) (by omega) fun k h1 h2 => hw k h1 (by omega))

/-- the log has every operation that ran before -/
theorem Tr.logged (hS : ExtS S) (ok : R.Ok) {j : Nat} {d : DOper} {v : AV} {t : St} (hd : ds[j]? = some d) (hv : R.V j = some (v, t)) : ∀ {i : Nat}, j < i → i ≤ ds.length → logOf j d (R.T j) (R.W j) t ∈ R.L i
  | 0, h, _ => by omega
  | i + 1, h, hi => by
    obtain ⟨di, hdi⟩ := getSome (ds := ds) (i := i) (by omega)
    by_cases e : j = i
    · subst e
      rw [hd] at hdi; cases hdi
      obtain ⟨_, _, _, g4, _⟩ := R.run j d v t hd hv
      rw [g4]; simp
    · have ih := Tr.logged hS ok hd hv (i := i) (by omega) (by omega)
      cases hvi : R.V i with
      | none => obtain ⟨_, g2, _⟩ := R.skip i di hdi hvi; rw [g2]; exact ih
      | some p => obtain ⟨_, _, _, g4, _⟩ := R.run i di p.1 p.2 hdi hvi; rw [g4]; exact List.mem_cons_of_mem _ ih

end

theorem compat_mem {deps wm : Nat} {tch : Option (List Nat)} : ∀ {log : List LogE}, compat deps tch wm log = true → ∀ e ∈ log, deps.testBit e.idx = false → (wm = 0 ∨ offMask wm e.tch = true) ∧ (e.wm = 0 ∨ offMask e.wm tch = true)
  | [], _, e, he, _ => by simp at he
  | x :: r, h, e, he, hb => by
    simp only [compat] at h
    cases hd : deps.testBit x.idx with
    | true =>
      rw [hd] at h; simp only [cond_true] at h
      rcases List.mem_cons.1 he with rfl | he
      · rw [hd] at hb; cases hb
      · exact compat_mem h e he hb
    | false =>
      rw [hd] at h; simp only [cond_false] at h
      cases hc : ((Nat.beq wm 0 || offMask wm x.tch) && (Nat.beq x.wm 0 || offMask x.wm tch)) with
      | false => rw [hc] at h; simp at h
      | true =>
        rw [hc] at h; simp only [cond_true] at h
        rcases List.mem_cons.1 he with rfl | he
        · rw [Bool.and_eq_true, Bool.or_eq_true, Bool.or_eq_true, beq_iff, beq_iff] at hc; exact hc
        · exact compat_mem h e he hb

theorem hidden_mem {deps : Nat} {h : List (Nat × Nat)} {id : Nat} : ∀ {log : List LogE}, ∀ e ∈ log, deps.testBit e.idx = false → e.lo ≤ id → id < e.hi → hid (hiddenOf deps log h) id = true
  | [], e, he, _, _, _ => by simp at he
  | x :: r, e, he, hb, h1, h2 => by
    simp only [hiddenOf]
    rcases List.mem_cons.1 he with rfl | he
    · have : (Nat.beq e.lo e.hi || deps.testBit e.idx) = false := by
        rw [hb, Bool.or_false, Bool.eq_false_iff, ne_eq, beq_iff]; omega
      rw [this]
      simp only [cond_false, hid]
      rw [show Nat.ble e.lo id = true from ble_iff.2 h1, show Nat.blt id e.hi = true from blt_iff.2 h2]; rfl
    · have ih := hidden_mem (h := h) e he hb h1 h2
      cases hc : (Nat.beq x.lo x.hi || deps.testBit x.idx) with
      | true => simp only [cond_true]; exact ih
      | false =>
        simp only [cond_false, hid]
        cases Nat.ble x.lo id <;> cases Nat.blt id x.hi <;> simp [ih]

theorem offMask_mem {m : Nat} {l : List Nat} {a : Nat} (h : offMask m (some l) = true) (ha : a ∈ l) : m.testBit a = false := by
  simp only [offMask] at h
  induction l with
  | nil => simp at ha
  | cons x r ih =>
    simp only [offMask.go] at h
    cases hx : m.testBit x with
    | true => rw [hx] at h; simp at h
    | false =>
      rw [hx] at h; simp only [cond_false] at h
      rcases List.mem_cons.1 ha with rfl | ha
      · exact hx
      · exact ih h ha
theorem oldMask_bit (m n i : Nat) : (oldMask m n).testBit i = (decide (i < n) && m.testBit i) := by
  show (m % 2 ^ n).testBit i = _
  rw [Nat.testBit_mod_two_pow]

end Go.Proofs.YtoejmfiaaigpbaaGreatDoor.Ev

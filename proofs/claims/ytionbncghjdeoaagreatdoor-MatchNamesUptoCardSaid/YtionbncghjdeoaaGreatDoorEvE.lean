/- Part of a verified evaluator of the model's code, generic over the program: a run of the evaluator that answers shows what the model's run answers. No conditions of its own. -/
import Derived.Test.YtionbncghjdeoaaGreatDoorEvD
import Derived.OpenShut
import Derived.ChangeSame
set_option linter.unusedSimpArgs false
set_option linter.unusedVariables false
set_option linter.defProp false
open Option.some renaming injEq → zv
open List renaming getElem?_eq_getElem → yl, getElem?_cons_zero → yJ, getElem?_eq_none → z5, getElem?_map → yL, getElem?_cons_succ → yN, eq_nil_iff_forall_not_mem → yO, eq_nil_of_length_eq_zero → yi, getD_eq_getElem?_getD → yP, getElem?_append_left → ye, length_erase_of_mem → yR, contains_iff_mem → yU, mem_erase_of_ne → yV, length → yC
open Bool renaming and_eq_true → zl, or_eq_true → zn, or_false → yW
open Array renaming getD_eq_getD_getElem? → yE, getElem?_eq_getElem → zJ, replicate → yH, getElem?_replicate → yQ, getElem?_toList → zy
open Nat renaming le_refl → zp, lt_of_not_le → yK, beq → za, le_of_lt → yG, le_of_not_lt → yM, le_trans → zt, testBit_or → yv, testBit → yS, zero_le → zL, mul_comm → z9, zero_add → yy, ble → ze, pred → zu
open Option renaming map_some → zX
open Prod.mk renaming injEq → zw
open Classical renaming choose_spec → yT
namespace Go.Proofs.YtionbncghjdeoaaGreatDoor.Ev
variable {P : Program} {w0 w : World} {E : Env} {S : Self} {s s' : St} {φ : Phi} {v : AV} {tm : Trie AV} {id n : Nat} {o : AObj} {t : TypeId}
noncomputable def Ju (i : Nat) (d : DOper) (T : Trie AV) (W t : St) : LogE := { idx := i, lo := W.next, hi := t.next, tch := qg d.o.op T, wm := wq t.wm W.next }
structure Tr (E : Env) (S : Self) (ds : List DOper) where
 L : Nat → List LogE
 T : Nat → Trie AV
 W : Nat → St
 V : Nat → Option (AV × St)
 skip : ∀ i d, ds[i]? = some d → V i = none → kg d.o.guard (T i) = some false ∧ L (i + 1) = L i ∧ T (i + 1) = qH (T i) d.o.dst qz ∧ W (i + 1) = W i
 run : ∀ i d v t, ds[i]? = some d → V i = some (v, t) → kg d.o.guard (T i) = some true ∧ ql E S d.o.op (T i) (vh d (L i) (T i) (W i)) = some (v, t) ∧
  uj d.deps (qg d.o.op (T i)) (wq t.wm (W i).next) (L i) = true ∧ L (i + 1) = Ju i d (T i) (W i) t :: L i ∧ T (i + 1) = qH (T i) d.o.dst v ∧
  W (i + 1) = { t with hide := (W i).hide, only := (W i).only, wm := Nat.lor (W i).wm t.wm }
theorem JT {E : Env} {S : Self} : ∀ {ds : List DOper} {k : Nat} {log : List LogE} {tm tm' : Trie AV} {s s' : St}, evD E S ds k log tm s = some (tm', s') →
  ∃ (L : Nat → List LogE) (T : Nat → Trie AV) (W : Nat → St) (V : Nat → Option (AV × St)), L 0 = log ∧ T 0 = tm ∧ W 0 = s ∧ T ds.length = tm' ∧ W ds.length = s' ∧
   (∀ i d, ds[i]? = some d → V i = none → kg d.o.guard (T i) = some false ∧ L (i + 1) = L i ∧ T (i + 1) = qH (T i) d.o.dst qz ∧ W (i + 1) = W i) ∧
   (∀ i d v t, ds[i]? = some d → V i = some (v, t) → kg d.o.guard (T i) = some true ∧ ql E S d.o.op (T i) (vh d (L i) (T i) (W i)) = some (v, t) ∧
    uj d.deps (qg d.o.op (T i)) (wq t.wm (W i).next) (L i) = true ∧ L (i + 1) = Ju (k + i) d (T i) (W i) t :: L i ∧ T (i + 1) = qH (T i) d.o.dst v ∧
    W (i + 1) = { t with hide := (W i).hide, only := (W i).only, wm := Nat.lor (W i).wm t.wm })
 | [], k, log, tm, tm', s, s', h => by
  simp only [evD, zv, zw] at h; obtain ⟨rfl, rfl⟩ := h; exact ⟨fun _ => log, fun _ => tm, fun _ => s, fun _ => none, rfl, rfl, rfl, rfl, rfl, (fun i d h => by simp at h), (fun i d v t h => by simp at h)⟩
 | o :: r, k, log, tm, tm', s, s', h => by
  simp only [evD] at h; split at h
  ·rename_i p hp
   obtain ⟨L, T, W, V, h1, h2, h3, h4, h5, h6, h7⟩ := JT h
   have hV : ∃ V0 : Option (AV × St), (V0 = none → kg o.o.guard tm = some false ∧ p.1 = log ∧ p.2.1 = qH tm o.o.dst qz ∧ p.2.2 = s) ∧
     (∀ v t, V0 = some (v, t) → kg o.o.guard tm = some true ∧ ql E S o.o.op tm (vh o log tm s) = some (v, t) ∧
      uj o.deps (qg o.o.op tm) (wq t.wm s.next) log = true ∧ p.1 = Ju k o tm s t :: log ∧ p.2.1 = qH tm o.o.dst v ∧ p.2.2 = { t with hide := s.hide, only := s.only, wm := Nat.lor s.wm t.wm }) := by
    unfold ge at hp; split at hp
    ·rename_i hw
     cases he : ql E S o.o.op tm (vh o log tm s) with
     | none => rw [he] at hp; simp [WZ] at hp
     | some q =>
      rw [he] at hp; simp only [WZ] at hp; cases hb : uj o.deps (qg o.o.op tm) (wq q.2.wm s.next) log with
      | false => rw [hb] at hp; simp at hp
      | true =>
       rw [hb] at hp; simp only [cond_true, zv] at hp; refine ⟨some q, (fun h => by cases h), fun v t hvt => ?_⟩
       cases hvt; subst hp; exact ⟨hw, rfl, hb, rfl, rfl, rfl⟩
    ·rename_i hw
     simp only [zv] at hp; subst hp; exact ⟨none, fun _ => ⟨hw, rfl, rfl, rfl⟩, (fun v t h => by cases h)⟩
    ·cases hp
   obtain ⟨V0, hV1, hV2⟩ := hV; refine ⟨fun i => match i with | 0 => log | i + 1 => L i, fun i => match i with | 0 => tm | i + 1 => T i, fun i => match i with | 0 => s | i + 1 => W i, fun i => match i with | 0 => V0 | i + 1 => V i, rfl, rfl, rfl, h4, h5, ?_, ?_⟩
   ·intro i d hd hv; cases i with
    | zero =>
     simp only [yJ, zv] at hd; subst hd; obtain ⟨g1, g2, g3, g4⟩ := hV1 hv; exact ⟨g1, h1.trans g2, h2.trans g3, h3.trans g4⟩
    | succ i => exact h6 i d (by simpa using hd) hv
   ·intro i d v t hd hv; cases i with
    | zero =>
     simp only [yJ, zv] at hd; subst hd; obtain ⟨g1, g2, g3, g4, g5, g6⟩ := hV2 v t hv; exact ⟨g1, g2, g3, h1.trans g4, h2.trans g5, h3.trans g6⟩
    | succ i =>
     have := h7 i d v t (by simpa using hd) hv
     rw [show k + 1 + i = k + (i + 1) by omega] at this
     exact this
  ·cases h
theorem znU {E : Env} {S : Self} {ds : List DOper} {tm' : Trie AV} (h : evD E S ds 0 [] tm s = some (tm', s')) :
  ∃ R : Tr E S ds, R.L 0 = [] ∧ R.T 0 = tm ∧ R.W 0 = s ∧ R.T ds.length = tm' ∧ R.W ds.length = s' := by
 obtain ⟨L, T, W, V, h1, h2, h3, h4, h5, h6, h7⟩ := JT h; exact ⟨⟨L, T, W, V, h6, fun i d v t hd hv => by have := h7 i d v t hd hv; rw [yy] at this; exact this⟩, h1, h2, h3, h4, h5⟩
section
variable {E : Env} {S : Self} {ds : List DOper} (R : Tr E S ds)
def Tr.wr (i id : Nat) : Prop := ∃ v t, R.V i = some (v, t) ∧ ((R.W i).next ≤ id ∧ id < t.next ∨ id < (R.W i).next ∧ t.wm.testBit id = true)
structure Tr.Ok : Prop where
 l0 : R.L 0 = []
 only : (R.W 0).only = none
 wf : Wf (R.W 0)
variable {R}
theorem vK {i : Nat} (h : i < ds.length) : ∃ d, ds[i]? = some d := ⟨ds[i], by simp [h]⟩
theorem Tr.facts (hS : ExtS S) (ok : R.Ok) : ∀ i, i ≤ ds.length → (R.W i).only = none ∧ Wf (R.W i) ∧ (R.W i).hide = (R.W 0).hide ∧ (∀ e ∈ R.L i, e.hi ≤ (R.W i).next) ∧ Ext (R.W 0) (R.W i)
 | 0, _ => ⟨ok.only, ok.wf, rfl, by rw [ok.l0]; simp, Ext.refl _⟩
 | i + 1, hi => by
  obtain ⟨h1, h2, h3, h4, h5⟩ := Tr.facts hS ok i oM; obtain ⟨d, hd⟩ := vK (ds := ds) (i := i) oM; cases hv : R.V i with
  | none =>
   obtain ⟨_, g2, _, g4⟩ := R.skip i d hd hv; rw [g2, g4]; exact ⟨h1, h2, h3, h4, h5⟩
  | some p =>
   obtain ⟨_, g2, _, g4, _, g6⟩ := R.run i d p.1 p.2 hd hv; have hx := Vc h1 h4 (kO hS g2); rw [← g6] at hx; refine ⟨hx.only.trans h1, hx.wf h2, hx.hide.trans h3, fun e he => ?_, h5.trans hx⟩; rw [g4] at he; rcases List.mem_cons.1 he with rfl | he
   ·rw [g6]; exact zp _
   ·exact zt (h4 e he) hx.next
theorem Tr.ext (hS : ExtS S) (ok : R.Ok) {i : Nat} (hi : i < ds.length) : Ext (R.W i) (R.W (i + 1)) := by
 obtain ⟨h1, h2, h3, h4, h5⟩ := R.facts hS ok i oM; obtain ⟨d, hd⟩ := vK (ds := ds) hi; cases hv : R.V i with
 | none => obtain ⟨_, g2, _, g4⟩ := R.skip i d hd hv; rw [g4]; exact Ext.refl _
 | some p =>
  obtain ⟨_, g2, _, g4, _, g6⟩ := R.run i d p.1 p.2 hd hv; rw [g6]; exact Vc h1 h4 (kO hS g2)
theorem Tr.next_le (hS : ExtS S) (ok : R.Ok) : ∀ {i j : Nat}, i ≤ j → j ≤ ds.length → (R.W i).next ≤ (R.W j).next
 | i, 0, h, _ => by (have : i = 0 := by omega); subst this; exact Nat.le_refl _
 | i, j + 1, h, hj => by
  by_cases e : i = j + 1
  ·subst e; exact zp _
  ·exact zt (Tr.next_le hS ok (i := i) (j := j) oM oM) (R.ext hS ok (i := j) oM).next
theorem Tr.keep1 (hS : ExtS S) (ok : R.Ok) {i : Nat} (hi : i < ds.length) (hw : ¬ R.wr i id) : (R.W (i + 1)).objs.get id = (R.W i).objs.get id := by
 obtain ⟨h1, h2, h3, h4, h5⟩ := R.facts hS ok i oM; obtain ⟨g1, g2', _⟩ := R.facts hS ok (i + 1) oM; obtain ⟨d, hd⟩ := vK (ds := ds) hi; cases hv : R.V i with
 | none => obtain ⟨_, _, _, g4⟩ := R.skip i d hd hv; rw [g4]
 | some p =>
  obtain ⟨_, g2, _, g4, _, g6⟩ := R.run i d p.1 p.2 hd hv; have hx := kO hS g2; by_cases hlt : id < (R.W i).next
  ·have hb : p.2.wm.testBit id = false := by
    cases hb : p.2.wm.testBit id with
    | false => rfl
    | true => exact absurd ⟨p.1, p.2, hv, .inr ⟨hlt, hb⟩⟩ hw
   rw [g6]; exact hx.keep id hlt hb
  ·have hge : ¬ id < p.2.next := fun h => hw ⟨p.1, p.2, hv, .inl ⟨oM, h⟩⟩
   have e1 : (R.W i).objs.get id = none := by
    cases he : (R.W i).objs.get id with
    | none => rfl
    | some o => exact absurd (h2.lt id o he) hlt
   have e2 : (R.W (i + 1)).objs.get id = none := by
    cases he : (R.W (i + 1)).objs.get id with
    | none => rfl
    | some o => have := g2'.lt id o he; rw [g6] at this; exact absurd this hge
   rw [e1, e2]
theorem Tr.keepN (hS : ExtS S) (ok : R.Ok) {id : Nat} : ∀ {i j : Nat}, i ≤ j → j ≤ ds.length → (∀ k, i ≤ k → k < j → ¬ R.wr k id) → (R.W j).objs.get id = (R.W i).objs.get id
 | i, 0, h, _, _ => by (have : i = 0 := by omega); subst this; rfl
 | i, j + 1, h, hj, hw => by
  by_cases e : i = j + 1
  ·subst e; rfl
  ·exact (R.keep1 hS ok oM (hw j oM oM)).trans (Tr.keepN hS ok (i := i) (j := j) oM oM fun k h1 h2 => hw k h1 oM)
theorem Tr.logged (hS : ExtS S) (ok : R.Ok) {j : Nat} {d : DOper} {v : AV} {t : St} (hd : ds[j]? = some d) (hv : R.V j = some (v, t)) : ∀ {i : Nat}, j < i → i ≤ ds.length → Ju j d (R.T j) (R.W j) t ∈ R.L i
 | 0, h, _ => by omega
 | i + 1, h, hi => by
  obtain ⟨di, hdi⟩ := vK (ds := ds) (i := i) oM; by_cases e : j = i
  ·subst e; rw [hd] at hdi; cases hdi; obtain ⟨_, _, _, g4, _⟩ := R.run j d v t hd hv; rw [g4]; simp
  ·have ih := Tr.logged hS ok hd hv (i := i) oM oM; cases hvi : R.V i with
   | none => obtain ⟨_, g2, _⟩ := R.skip i di hdi hvi; rw [g2]; exact ih
   | some p => obtain ⟨_, _, _, g4, _⟩ := R.run i di p.1 p.2 hdi hvi; rw [g4]; exact List.mem_cons_of_mem _ ih
end
theorem kI {deps wm : Nat} {tch : Option (List Nat)} : ∀ {log : List LogE}, uj deps tch wm log = true → ∀ e ∈ log, deps.testBit e.idx = false → (wm = 0 ∨ offMask wm e.tch = true) ∧ (e.wm = 0 ∨ offMask e.wm tch = true)
 | [], _, e, he, _ => by simp at he
 | x :: r, h, e, he, hb => by
  simp only [uj] at h; cases hd : deps.testBit x.idx with
  | true =>
   rw [hd] at h; simp only [cond_true] at h; rcases List.mem_cons.1 he with rfl | he
   ·rw [hd] at hb; cases hb
   ·exact kI h e he hb
  | false =>
   rw [hd] at h; simp only [cond_false] at h; cases hc : ((za wm 0 || offMask wm x.tch) && (za x.wm 0 || offMask x.wm tch)) with
   | false => rw [hc] at h; simp at h
   | true =>
    rw [hc] at h; simp only [cond_true] at h; rcases List.mem_cons.1 he with rfl | he
    ·rw [zl, zn, zn, xG, xG] at hc; exact hc
    ·exact kI h e he hb
theorem Z9 {deps : Nat} {h : List (Nat × Nat)} {id : Nat} : ∀ {log : List LogE}, ∀ e ∈ log, deps.testBit e.idx = false → e.lo ≤ id → id < e.hi → hid (qv deps log h) id = true
 | [], e, he, _, _, _ => by simp at he
 | x :: r, e, he, hb, h1, h2 => by
  simp only [qv]; rcases List.mem_cons.1 he with rfl | he
  ·have : (za e.lo e.hi || deps.testBit e.idx) = false := by
    rw [hb, yW, Bool.eq_false_iff, ne_eq, xG]; omega
   rw [this]; simp only [cond_false, hid]; rw [show ze e.lo id = true from xN.2 h1, show Nat.blt id e.hi = true from wb.2 h2]; rfl
  ·have ih := Z9 (h := h) e he hb h1 h2; cases hc : (za x.lo x.hi || deps.testBit x.idx) with
   | true => simp only [cond_true]; exact ih
   | false =>
    simp only [cond_false, hid]; cases ze x.lo id <;> cases Nat.blt id x.hi <;> simp [ih]
theorem pT {m : Nat} {l : List Nat} {a : Nat} (h : offMask m (some l) = true) (ha : a ∈ l) : m.testBit a = false := by
 simp only [offMask] at h
 induction l with
 | nil => simp at ha
 | cons x r ih =>
  simp only [offMask.go] at h; cases hx : m.testBit x with
  | true => rw [hx] at h; simp at h
  | false =>
   rw [hx] at h; simp only [cond_false] at h; rcases List.mem_cons.1 ha with rfl | ha
   ·exact hx
   ·exact ih h ha
theorem jX (m n i : Nat) : (wq m n).testBit i = (decide (i < n) && m.testBit i) := by
 show (m % 2 ^ n).testBit i = _; rw [Nat.testBit_mod_two_pow]
open Go.RowKit (Below)
section
variable {E : Env} {S : Self} {ds : List DOper} (R : Tr E S ds)
def wt (ds : List DOper) (j t : Nat) : Prop := ∃ d, ds[j]? = some d ∧ d.o.dst = some t
def Tr.cur (D : Nat → Prop) (id : Nat) (o : AObj) : Prop :=
 (id < (R.W 0).next → seen (R.W 0) id = true) ∧ ∃ m, m ≤ ds.length ∧ (∀ j, j < m → R.wr j id → D j) ∧ (∀ j, m ≤ j → j < ds.length → R.wr j id → ¬ D j) ∧ (R.W m).objs.get id = some o
def Tr.curA (D : Nat → Prop) (id : Nat) (o : AObj) (m : Nat) : Prop :=
 (id < (R.W 0).next → seen (R.W 0) id = true) ∧ m ≤ ds.length ∧ (∀ j, j < m → R.wr j id → D j) ∧ (∀ j, m ≤ j → j < ds.length → R.wr j id → ¬ D j) ∧ (R.W m).objs.get id = some o
structure Inv (P : Program) (w0 : World) (φ0 : Phi) (w00 : World) (nt : Nat) (a0 : Act) (D : Nat → Prop) (φ : Phi) (w : World) (a : Act) : Prop where
 base : Below w0.heap.size w0 w
 obj : ∀ id o m, R.curA D id o m → ∃ B, φ id = some B ∧ ObjRel P (φ.cut (R.W m).next) w o B
 rng : ∀ id B, φ id = some B → B.b < w.heap.size
 old : ∀ id o B, R.cur D id o → φ id = some B → B.b < w0.heap.size → vB o = true
 inj : ∀ id id' o o' B B', R.cur D id o → R.cur D id' o' → φ id = some B → φ id' = some B' → B.b = B'.b → id = id' ∨ B.b < w0.heap.size
 out : ∀ id, (id < (R.W 0).next ∨ (R.W ds.length).next ≤ id) → φ id = φ0 id
 fresh : ∀ i, i < ds.length → ¬ D i → ∀ id, (R.W i).next ≤ id → id < (R.W (i + 1)).next → φ id = none
 tmp : ∀ t v m, m ≤ ds.length → (∀ j, j < m → wt ds j t → D j) → (∀ j, m ≤ j → j < ds.length → wt ds j t → ¬ D j) → (R.T m).get t = some v → VR (φ.cut (R.W m).next) v (a.tmps.getD t undef)
 size : a.tmps.size = nt
 df : a.defers = a0.defers
 grow : w00.heap.size ≤ w.heap.size
 own : ∀ id B, (R.W 0).next ≤ id → id < (R.W ds.length).next → φ id = some B → w00.heap.size ≤ B.b ∨ ∃ id0 o0 B0, (R.W 0).get id0 = some o0 ∧ φ0 id0 = some B0 ∧ B0.b = B.b ∧ (R.W ds.length).wm.testBit id0 = true
 frame : ∀ b, b < w00.heap.size → (∀ id o B, (R.W 0).get id = some o → φ0 id = some B → B.b = b → (R.W ds.length).wm.testBit id = false) → w.heap[b]? = w00.heap[b]?
 frz : ∀ b o v, φ.z b o = some v → ∃ c e fr, w.heap[b]? = some (.cells c e fr) ∧ c[o]? = some v
 sep : ∀ id o B, R.cur D id o → φ id = some B → SepOf o B φ.z
 zsub : ∀ b o v, φ0.z b o = some v → φ.z b o = some v
 zown : ∀ b o v, φ.z b o = some v → φ0.z b o = some v ∨ w00.heap.size ≤ b ∨ ∃ id0 o0 B0, (R.W 0).get id0 = some o0 ∧ φ0 id0 = some B0 ∧ B0.b = b ∧ (R.W ds.length).wm.testBit id0 = true
def more (D : Nat → Prop) (i : Nat) : Nat → Prop := fun j => D j ∨ j = i
structure Ready (D : Nat → Prop) (i : Nat) : Prop where
 lt : i < ds.length
 new : ¬ D i
 deps : ∀ d j, ds[i]? = some d → d.deps.testBit j = true → j < ds.length → D j
structure Closed (ds : List DOper) (D : Nat → Prop) : Prop where
 dep : ∀ i d j, D i → ds[i]? = some d → d.deps.testBit j = true → j < ds.length → D j
variable {R}
theorem Tr.cur_of_A {D : Nat → Prop} {m : Nat} (h : R.curA D id o m) : R.cur D id o := ⟨h.1, m, h.2⟩
theorem Tr.A_of_cur {D : Nat → Prop} (h : R.cur D id o) : ∃ m, R.curA D id o m := let ⟨h0, m, h1⟩ := h; ⟨m, h0, h1⟩
theorem Tr.wr_lt (hS : ExtS S) (_ok : R.Ok) {i : Nat} (hi : i < ds.length) (h : R.wr i id) : id < (R.W (i + 1)).next := by
 obtain ⟨v, t, hv, h1⟩ := h; obtain ⟨d, hd⟩ := vK (ds := ds) hi; obtain ⟨_, g2, _, _, _, g6⟩ := R.run i d v t hd hv; have hx := (kO hS g2).next
 have : (R.W (i + 1)).next = t.next := by rw [g6]
 have hx' : (R.W i).next ≤ t.next := hx
 rw [this]; rcases h1 with h1 | h1 <;> omega
theorem Tr.wm_le (hS : ExtS S) (ok : R.Ok) : ∀ {i j : Nat}, i ≤ j → j ≤ ds.length → ∀ id, (R.W i).wm.testBit id = true → (R.W j).wm.testBit id = true
 | i, 0, h, _, id, hb => by
  have : i = 0 := oM; subst this; exact hb
 | i, j + 1, h, hj, id, hb => by
  by_cases e : i = j + 1
  ·subst e; exact hb
  ·exact (R.ext hS ok (i := j) oM).wm id (Tr.wm_le hS ok (i := i) (j := j) oM oM id hb)
theorem Tr.wm_run (hS : ExtS S) (ok : R.Ok) {i : Nat} (hi : i < ds.length) {t : St} (hv : R.V i = some (v, t)) (hb : t.wm.testBit id = true) : (R.W ds.length).wm.testBit id = true := by
 obtain ⟨d, hd⟩ := vK (ds := ds) hi; obtain ⟨_, _, _, _, _, g6⟩ := R.run i d v t hd hv; refine Tr.wm_le hS ok (i := i + 1) oM (zp _) id ?_; rw [g6]; show ((R.W i).wm ||| t.wm).testBit id = true
 rw [yv, hb, Bool.or_true]
theorem Tr.sees (hS : ExtS S) (ok : R.Ok) {D : Nat → Prop} (hcl : Closed ds D) {i : Nat} (hr : Ready (ds := ds) D i) {d : DOper} (hd : ds[i]? = some d) {t : St} (hv : R.V i = some (v, t)) (hsee : seen (vh d (R.L i) (R.T i) (R.W i)) id = true) (hlt : id < (R.W i).next) :
  (id < (R.W 0).next → seen (R.W 0) id = true) ∧ (∀ j, j < i → R.wr j id → D j) ∧ (∀ j, i ≤ j → j < ds.length → R.wr j id → ¬ D j) := by
 obtain ⟨f1, f2, f3, f4, f5⟩ := R.facts hS ok i (by have := hr.lt; omega)
 have hs1 := JJ f1 hsee; have htch : ∀ l, qg d.o.op (R.T i) = some l → id ∈ l := by
  intro l hl; unfold seen at hsee; simp only [vh, hl, zX, zl, zn] at hsee; rcases hsee.2 with h1 | h1
  ·rw [xN] at h1; omega
  ·rw [Qn, yU] at h1; exact h1
 have hnh : hid (qv d.deps (R.L i) (R.W i).hide) id = false := by
  cases hh : hid (qv d.deps (R.L i) (R.W i).hide) id with
  | false => rfl
  | true =>
   exfalso
   unfold seen at hsee; simp only [vh] at hsee; split at hsee
   ·rw [hh] at hsee; cases hsee
   ·rw [hh] at hsee; cases hsee
 obtain ⟨_, g2, g3, _, _, _⟩ := R.run i d v t hd hv; refine ⟨fun _ => by rw [← qG f3 (f1.trans ok.only.symm)]; exact hs1, fun j hj hw => ?_, fun j hj hjn hw hD => ?_⟩
 ·obtain ⟨vj, tj, hvj, hwj⟩ := hw; obtain ⟨dj, hdj⟩ := vK (ds := ds) (i := j) (by have := hr.lt; omega)
  have hmem := R.logged hS ok hdj hvj (i := i) hj (by have := hr.lt; omega)
  cases hb : d.deps.testBit j with
  | true => exact hr.deps d j hd hb (by have := hr.lt; omega)
  | false =>
   exfalso
   rcases hwj with ⟨h1, h2⟩ | ⟨h1, h2⟩
   ·have := Z9 (deps := d.deps) (h := (R.W i).hide) (id := id) _ hmem hb h1 h2; rw [hnh] at this; cases this
   ·obtain ⟨_, hc⟩ := kI g3 _ hmem hb; have hbit : (Ju j dj (R.T j) (R.W j) tj).wm.testBit id = true := by
     show (wq tj.wm (R.W j).next).testBit id = true
     rw [jX, h2]; simp [h1]
    rcases hc with hc | hc
    ·rw [hc] at hbit; simp at hbit
    ·cases ht : qg d.o.op (R.T i) with
     | none => rw [ht] at hc; simp [offMask] at hc
     | some l => rw [ht] at hc; rw [pT hc (htch l ht)] at hbit; cases hbit
 ·have hne : j ≠ i := fun e => hr.new (e ▸ hD); obtain ⟨vj, tj, hvj, hwj⟩ := hw; obtain ⟨dj, hdj⟩ := vK (ds := ds) hjn; obtain ⟨_, _, k3, _⟩ := R.run j dj vj tj hdj hvj; have hb : dj.deps.testBit i = false := by
   cases hb : dj.deps.testBit i with
   | false => rfl
   | true => exact absurd (hcl.dep j dj i hD hdj hb hr.lt) hr.new
  have hmem := R.logged hS ok hd hv (i := j) oM oM; have hle := R.next_le hS ok (i := i) (j := j) oM oM; rcases hwj with ⟨h1, h2⟩ | ⟨h1, h2⟩
  ·omega
  ·obtain ⟨hc, _⟩ := kI k3 _ hmem hb; have hbit : (wq tj.wm (R.W j).next).testBit id = true := by rw [jX, h2]; simp [h1]
   rcases hc with hc | hc
   ·rw [hc] at hbit; simp at hbit
   ·have hc' : offMask (wq tj.wm (R.W j).next) (qg d.o.op (R.T i)) = true := hc
    cases ht : qg d.o.op (R.T i) with
    | none => rw [ht] at hc'; simp [offMask] at hc'
    | some l => rw [ht] at hc'; rw [pT hc' (htch l ht)] at hbit; cases hbit
end
theorem Pv : ∀ {h : List (Nat × Nat)} {n id : Nat}, (∀ p ∈ h, p.2 ≤ n) → n ≤ id → hid h id = false
 | [], _, _, _, _ => rfl
 | p :: r, n, id, hp, hle => by
  have h1 := hp p (by simp)
  simp only [hid]; rw [show Nat.blt id p.2 = false from zyN oM, Pv (fun q hq => hp q (by simp [hq])) hle]
  cases ze p.1 id <;> rfl
theorem XZ {deps n : Nat} {h : List (Nat × Nat)} : ∀ {log : List LogE}, (∀ p ∈ h, p.2 ≤ n) → (∀ e ∈ log, e.hi ≤ n) → ∀ p ∈ qv deps log h, p.2 ≤ n
 | [], hh, _, p, hp => hh p hp
 | e :: r, hh, hl, p, hp => by
  simp only [qv] at hp; cases hb : (za e.lo e.hi || deps.testBit e.idx) with
  | true => rw [hb] at hp; simp only [cond_true] at hp; exact XZ hh (fun e' he' => hl e' (by simp [he'])) p hp
  | false =>
   rw [hb] at hp; simp only [cond_false, List.mem_cons] at hp; rcases hp with rfl | hp
   ·exact hl e (by simp)
   ·exact XZ hh (fun e' he' => hl e' (by simp [he'])) p hp
section
variable {E : Env} {S : Self} {ds : List DOper} {R : Tr E S ds}
theorem Tr.begWf (hS : ExtS S) (ok : R.Ok) {i : Nat} (hi : i < ds.length) (d : DOper) : Wf (vh d (R.L i) (R.T i) (R.W i)) := by
 obtain ⟨f1, f2, f3, f4, f5⟩ := R.facts hS ok i oM; exact ⟨f2.lt, fun p hp => XZ f2.hd f4 p hp⟩
theorem Tr.wr_seen (hS : ExtS S) (ok : R.Ok) {i : Nat} (hi : i < ds.length) {d : DOper} (hd : ds[i]? = some d) (h : R.wr i id) : seen (vh d (R.L i) (R.T i) (R.W i)) id = true := by
 obtain ⟨v, t, hv, h1⟩ := h; obtain ⟨_, g2, _, _, _, g6⟩ := R.run i d v t hd hv; have hx := kO hS g2; rcases h1 with ⟨h1, h2⟩ | ⟨h1, h2⟩
 ·have hh := Pv (R.begWf hS ok hi d).hd (id := id) h1; unfold seen; cases ht : qg d.o.op (R.T i) with
  | none => simp only [vh, ht, Option.map_none]; simp only [vh] at hh; rw [hh]; rfl
  | some l =>
   simp only [vh, ht, zX]; simp only [vh] at hh; rw [hh]; rw [show ze (R.W i).next id = true from xN.2 h1]; rfl
 ·rcases hx.wv id h1 h2 with h3 | h3
  ·simp [vh] at h3
  ·exact h3
theorem Tr.wr_order (hS : ExtS S) (ok : R.Ok) {i k : Nat} (hik : i < k) (hk : k < ds.length) {dk : DOper} (hdk : ds[k]? = some dk) (h1 : R.wr i id) (h2 : R.wr k id) : dk.deps.testBit i = true := by
 cases hb : dk.deps.testBit i with
 | true => rfl
 | false =>
  exfalso
  have hsee := R.wr_seen hS ok hk hdk h2; have hlt1 := R.wr_lt hS ok oM h1; have hle := R.next_le hS ok (i := i + 1) (j := k) oM oM; obtain ⟨di, hdi⟩ := vK (ds := ds) (i := i) oM; obtain ⟨vi, ti, hvi, hwi⟩ := h1; obtain ⟨vk, tk, hvk, hwk⟩ := h2; obtain ⟨_, _, k3, _⟩ := R.run k dk vk tk hdk hvk; have hmem := R.logged hS ok hdi hvi (i := k) hik oM; rcases hwi with ⟨q1, q2⟩ | ⟨q1, q2⟩
  ·have := Z9 (deps := dk.deps) (h := (R.W k).hide) (id := id) _ hmem hb q1 q2; unfold seen at hsee; simp only [vh] at hsee; split at hsee
   ·rw [this] at hsee; cases hsee
   ·rw [this] at hsee; cases hsee
  ·obtain ⟨_, hc⟩ := kI k3 _ hmem hb; have hbit : (Ju i di (R.T i) (R.W i) ti).wm.testBit id = true := by
    show (wq ti.wm (R.W i).next).testBit id = true
    rw [jX, q2]; simp [q1]
   rcases hc with hc | hc
   ·rw [hc] at hbit; simp at hbit
   ·cases ht : qg dk.o.op (R.T k) with
    | none => rw [ht] at hc; simp [offMask] at hc
    | some l =>
     rw [ht] at hc; have hin : id ∈ l := by
      unfold seen at hsee; simp only [vh, ht, zX, zl, zn] at hsee; rcases hsee.2 with h3 | h3
      ·rw [xN] at h3; omega
      ·rw [Qn, yU] at h3; exact h3
     rw [pT hc hin] at hbit; cases hbit
theorem Tr.curA_split (hS : ExtS S) (ok : R.Ok) {D : Nat → Prop} (hcl : Closed ds D) {i : Nat} (hr : Ready (ds := ds) D i) {m : Nat} (h : R.curA (more D i) id o m) :
  (R.wr i id ∧ i < m ∧ (R.W (i + 1)).objs.get id = some o) ∨ (¬ R.wr i id ∧ R.curA D id o m) := by
 obtain ⟨h0, hm, h1, h2, h3⟩ := h; by_cases hw : R.wr i id
 ·left
  have him : i < m := by
   apply yK; intro hle; exact h2 i hle hr.lt hw (.inr rfl)
  refine ⟨hw, him, ?_⟩; rw [← h3]; refine (R.keepN hS ok (i := i + 1) (j := m) oM hm fun k hk1 hk2 hwk => ?_).symm; have hDk : D k := (h1 k hk2 hwk).resolve_right oM; obtain ⟨dk, hdk⟩ := vK (ds := ds) (i := k) oM; exact hr.new (hcl.dep k dk i hDk hdk (R.wr_order hS ok oM oM hdk hw hwk) hr.lt)
 ·right
  exact ⟨hw, h0, hm, fun j hj hwj => (h1 j hj hwj).resolve_right (fun e => hw (e ▸ hwj)), fun j hj hjn hwj hD => h2 j hj hjn hwj (.inl hD), h3⟩
theorem Tr.cur_split (hS : ExtS S) (ok : R.Ok) {D : Nat → Prop} (hcl : Closed ds D) {i : Nat} (hr : Ready (ds := ds) D i) (h : R.cur (more D i) id o) :
  (R.wr i id ∧ (R.W (i + 1)).objs.get id = some o) ∨ (¬ R.wr i id ∧ R.cur D id o) := by
 obtain ⟨m, hA⟩ := R.A_of_cur h; rcases R.curA_split hS ok hcl hr hA with ⟨h1, _, h2⟩ | ⟨h1, h2⟩
 ·exact .inl ⟨h1, h2⟩
 ·exact .inr ⟨h1, R.cur_of_A h2⟩
end
section
variable {E : Env} {S : Self} {ds : List DOper} {R : Tr E S ds}
variable {P : Program} {w0 : World} {φ0 : Phi} {w00 : World} {nt : Nat} {a0 : Act} {D : Nat → Prop} {φ φ' : Phi} {w w' : World} {a : Act} {i : Nat} {d : DOper} {v : AV} {t : St} {x : Value}
def Yx (ds : List DOper) : Prop := ∀ (j k : Nat) (dj dk : DOper), j < k → ds[j]? = some dj → ds[k]? = some dk → Wq dj.o dk.o = true → dk.deps.testBit j = true
def zzp (ds : List DOper) (nt : Nat) : Prop := ∀ (j : Nat) (dj : DOper) (t : Nat), ds[j]? = some dj → dj.o.dst = some t → t < nt
theorem Inv.curA_of (hS : ExtS S) (ok : R.Ok) (hcl : Closed ds D) (hr : Ready (ds := ds) D i) (hd : ds[i]? = some d) (hv : R.V i = some (v, t)) (hg : (vh d (R.L i) (R.T i) (R.W i)).get id = some o) : R.curA D id o i := by
 have h1 : (vh d (R.L i) (R.T i) (R.W i)).objs.get id = some o := xW hg; obtain ⟨f1, f2, _⟩ := R.facts hS ok i (by have := hr.lt; omega)
 obtain ⟨k1, k2, k3⟩ := R.sees hS ok hcl hr hd hv (wX hg) (f2.lt id o h1); exact ⟨k1, yG hr.lt, k2, k3, h1⟩
theorem Inv.cur_of (hS : ExtS S) (ok : R.Ok) (hcl : Closed ds D) (hr : Ready (ds := ds) D i) (hd : ds[i]? = some d) (hv : R.V i = some (v, t)) (hg : (vh d (R.L i) (R.T i) (R.W i)).get id = some o) : R.cur D id o :=
 R.cur_of_A (Inv.curA_of hS ok hcl hr hd hv hg)
theorem Inv.rel (hS : ExtS S) (ok : R.Ok) (hcl : Closed ds D) (hr : Ready (ds := ds) D i) (hd : ds[i]? = some d) (hv : R.V i = some (v, t)) (inv : Inv R P w0 φ0 w00 nt a0 D φ w a) : Rel P w0 (φ.cut (R.W i).next) (vh d (R.L i) (R.T i) (R.W i)).get w := by
 obtain ⟨_, f2, _⟩ := R.facts hS ok i (by have := hr.lt; omega)
 have hlt : ∀ {id o}, (vh d (R.L i) (R.T i) (R.W i)).get id = some o → id < (R.W i).next := fun {id o} hg => f2.lt id o (xW (s := vh d (R.L i) (R.T i) (R.W i)) hg)
 refine ⟨inv.base, fun id o h => ?_, fun id B hB => inv.rng id B (Phi.cut_some hB).2, fun id o B h hB => inv.old id o B (Inv.cur_of hS ok hcl hr hd hv h) (Phi.cut_some hB).2, fun id id' o o' B B' h h' hB hB' => inv.inj id id' o o' B B' (Inv.cur_of hS ok hcl hr hd hv h) (Inv.cur_of hS ok hcl hr hd hv h') (Phi.cut_some hB).2 (Phi.cut_some hB').2, inv.frz, fun id o B h hB => inv.sep id o B (Inv.cur_of hS ok hcl hr hd hv h) (Phi.cut_some hB).2⟩; obtain ⟨B, hB, ht⟩ := inv.obj id o i (Inv.curA_of hS ok hcl hr hd hv h); exact ⟨B, (Phi.cut_lt φ (hlt h)).trans hB, ht⟩
theorem YH {p q : SOper} {k : Nat} (h : p.dst = some k) (hq : k ∈ q.names ∨ q.dst = some k) : Wq p q = true := by
 have mem : ∀ {n : Nat} {l : List Nat}, n ∈ l → Yg n l = true := by
  intro n l
  induction l with
  | nil => intro h; simp at h
  | cons m r ih =>
   intro h; simp only [Yg, zn]; rcases List.mem_cons.1 h with rfl | h
   ·exact .inl (xG.2 rfl)
   ·exact .inr (ih h)
 unfold Wq; rw [h]; rcases hq with hq | hq
 ·simp [mem hq]
 ·simp [hq]
theorem QV {p q : SOper} {k : Nat} (h : q.dst = some k) (hp : k ∈ p.names) : Wq p q = true := by
 have mem : ∀ {n : Nat} {l : List Nat}, n ∈ l → Yg n l = true := by
  intro n l
  induction l with
  | nil => intro h; simp at h
  | cons m r ih =>
   intro h; simp only [Yg, zn]; rcases List.mem_cons.1 h with rfl | h
   ·exact .inl (xG.2 rfl)
   ·exact .inr (ih h)
 unfold Wq; rw [h]; simp [mem hp]
theorem Inv.names (hck : Yx ds) (hcl : Closed ds D) (hr : Ready (ds := ds) D i) (hd : ds[i]? = some d) (inv : Inv R P w0 φ0 w00 nt a0 D φ w a) : TmOn (φ.cut (R.W i).next) d.o.names (R.T i) a := by
 intro k hk u hu; refine inv.tmp k u i (by have := hr.lt; omega) (fun j hj hw => ?_) (fun j hj hjn hw hD => ?_) hu
 ·obtain ⟨dj, hdj, hdst⟩ := hw; exact hr.deps d j hd (hck j i dj d hj hdj hd (YH hdst (.inl hk))) (by have := hr.lt; omega)
 ·obtain ⟨dj, hdj, hdst⟩ := hw; have hne : j ≠ i := fun e => hr.new (e ▸ hD); exact hr.new (hcl.dep j dj i hD hdj (hck i j d dj oM hd hdj (QV hdst hk)) hr.lt)
theorem Inv.tmp_step (hck : Yx ds) (hdo : zzp ds nt) (hcl : Closed ds D) (hr : Ready (ds := ds) D i) (hd : ds[i]? = some d) (inv : Inv R P w0 φ0 w00 nt a0 D φ w a) (hS : ExtS S) (ok : R.Ok) (hsub : Sub φ φ') (hT : R.T (i + 1) = qH (R.T i) d.o.dst v) (hTn : ∀ j dj, ds[j]? = some dj → ∀ k, dj.o.dst ≠ some k → (R.T (j + 1)).get k = (R.T j).get k) (hx : VR (φ'.cut (R.W (i + 1)).next) v x) :
  ∀ k u m, m ≤ ds.length → (∀ j, j < m → wt ds j k → more D i j) → (∀ j, m ≤ j → j < ds.length → wt ds j k → ¬ more D i j) → (R.T m).get k = some u → VR (φ'.cut (R.W m).next) u ((a.put d.o.dst x).tmps.getD k undef) := by
 intro k u m hm h1 h2 hu; by_cases hk : d.o.dst = some k
 ·have hwi : wt ds i k := ⟨d, hd, hk⟩; have him : i < m := by
   apply yK; intro hle; exact h2 i hle hr.lt hwi (.inr rfl)
  have key : ∀ q, i + 1 ≤ q → q ≤ m → (R.T q).get k = (R.T (i + 1)).get k := by
   intro q
   induction q with
   | zero => intro h; omega
   | succ q ih =>
    intro hq1 hq2; by_cases e : q = i
    ·subst e; rfl
    ·obtain ⟨dq, hdq⟩ := vK (ds := ds) (i := q) oM; rw [hTn q dq hdq k (fun hdst => ?_)]
     ·exact ih oM oM
     ·have hDq : D q := (h1 q oM ⟨dq, hdq, hdst⟩).resolve_right e; exact hr.new (hcl.dep q dq i hDq hdq (hck i q d dq oM hd hdq (YH hk (.inr hdst))) hr.lt)
  rw [key m oM (zp _), hT, hk] at hu; simp only [qH, Trie.get_set_same, zv] at hu; subst hu; rw [hk]; have hlt : k < a.tmps.size := by rw [inv.size]; exact hdo i d k hd hk
  simp only [Act.put]; rw [Y7 _ _ _ _ hlt, if_pos rfl]; exact VR.mono (Sub.cut (Sub.refl _) (R.next_le hS ok him hm)) _ _ hx
 ·have hput : (a.put d.o.dst x).tmps.getD k undef = a.tmps.getD k undef := by
   cases hdst : d.o.dst with
   | none => rfl
   | some e =>
    simp only [Act.put]; have hlt : e < a.tmps.size := by rw [inv.size]; exact hdo i d e hd hdst
    rw [Y7 _ _ _ _ hlt, if_neg (fun h => hk (by rw [hdst, h]))]
  rw [hput]; have hni : ¬ wt ds i k := fun ⟨d', hd', hk'⟩ => by rw [hd] at hd'; cases hd'; exact hk hk'
  exact VR.mono (hsub.cut (zp _)) _ _ (inv.tmp k u m hm (fun j hj hw => (h1 j hj hw).resolve_right (fun e => hni (e ▸ hw))) (fun j hj hjn hw hD => h2 j hj hjn hw (.inl hD)) hu)
theorem Tr.T_other {j : Nat} {dj : DOper} (hdj : ds[j]? = some dj) {k : Nat} (hk : dj.o.dst ≠ some k) : (R.T (j + 1)).get k = (R.T j).get k := by
 have : ∀ u, (qH (R.T j) dj.o.dst u).get k = (R.T j).get k := fun u => by
  cases hdst : dj.o.dst with
  | none => rfl
  | some e => simp only [qH]; exact Trie.get_set_ne _ _ (fun h => hk (by rw [hdst, h]))
 cases hv : R.V j with
 | none => obtain ⟨_, _, g3, _⟩ := R.skip j dj hdj hv; rw [g3]; exact this _
 | some p => obtain ⟨_, _, _, _, g5, _⟩ := R.run j dj p.1 p.2 hdj hv; rw [g5]; exact this _
end
section
variable {E : Env} {S : Self} {ds : List DOper} {R : Tr E S ds}
variable {P : Program} {w0 : World} {φ0 : Phi} {w00 : World} {nt : Nat} {a0 : Act} {D : Nat → Prop} {φ φ' : Phi} {w w' : World} {a : Act} {i : Nat} {d : DOper} {v : AV} {t : St} {x : Value}
theorem Zu (dst : Option Nat) : (a.put dst x).tmps.size = a.tmps.size ∧ (a.put dst x).defers = a.defers := by
 cases dst <;> simp [Act.put]
theorem Inv.skip (hS : ExtS S) (ok : R.Ok) (hck : Yx ds) (hdo : zzp ds nt) (hcl : Closed ds D) (hr : Ready (ds := ds) D i) (hd : ds[i]? = some d) (hv : R.V i = none) (inv : Inv R P w0 φ0 w00 nt a0 D φ w a) :
  Inv R P w0 φ0 w00 nt a0 (more D i) φ w (a.put d.o.dst undef) := by
 have hnw : ∀ id, ¬ R.wr i id := fun id ⟨_, _, h, _⟩ => by rw [hv] at h; cases h
 have hcur : ∀ {id o}, R.cur (more D i) id o → R.cur D id o := fun {id o} h => by
  rcases R.cur_split hS ok hcl hr h with ⟨h1, _⟩ | ⟨_, h1⟩
  ·exact absurd h1 (hnw id)
  ·exact h1
 have hcurA : ∀ {id o m}, R.curA (more D i) id o m → R.curA D id o m := fun {id o m} h => by
  rcases R.curA_split hS ok hcl hr h with ⟨h1, _⟩ | ⟨_, h1⟩
  ·exact absurd h1 (hnw id)
  ·exact h1
 obtain ⟨_, _, g3, _⟩ := R.skip i d hd hv
 exact ⟨inv.base, fun id o m h => inv.obj id o m (hcurA h), inv.rng, fun id o B h => inv.old id o B (hcur h), fun id id' o o' B B' h h' => inv.inj id id' o o' B B' (hcur h) (hcur h'), inv.out, fun j hj hD => inv.fresh j hj (fun h => hD (.inl h)),
  inv.tmp_step hck hdo hcl hr hd hS ok (Sub.refl _) g3 (fun j dj hdj k hk => R.T_other hdj hk) (Wb _), (Zu _).1.trans inv.size, (Zu _).2.trans inv.df, inv.grow, inv.own, inv.frame, inv.frz, fun id o B h => inv.sep id o B (hcur h), inv.zsub, inv.zown⟩
theorem Inv.run (hS : ExtS S) (ok : R.Ok) (hck : Yx ds) (hdo : zzp ds nt) (hcl : Closed ds D) (hr : Ready (ds := ds) D i) (hd : ds[i]? = some d) (hv : R.V i = some (v, t)) (inv : Inv R P w0 φ0 w00 nt a0 D φ w a)
  {ψ : Phi} (st : Step P w0 (φ.cut (R.W i).next) (vh d (R.L i) (R.T i) (R.W i)) w ψ t w') (hx : VR ψ v x) : Inv R P w0 φ0 w00 nt a0 (more D i) (φ.merge (R.W i).next (R.W (i + 1)).next ψ) w' (a.put d.o.dst x) := by
 obtain ⟨_, g2, _, _, g5, g6⟩ := R.run i d v t hd hv; obtain ⟨f1, f2, f3, f4, f5⟩ := R.facts hS ok i (yG hr.lt); have hnx : (R.W (i + 1)).next = t.next := by rw [g6]
 have hob : (R.W (i + 1)).objs = t.objs := by rw [g6]
 have hn0 := R.next_le hS ok (i := 0) (j := i) (zL _) (yG hr.lt); have hn1 := R.next_le hS ok (i := i) (j := i + 1) (Nat.le_succ _) hr.lt; have hnN := R.next_le hS ok (i := i + 1) (j := ds.length) hr.lt (zp _); have hniN := R.next_le hS ok (i := i) (j := ds.length) (yG hr.lt) (zp _); obtain ⟨φ', hφ'⟩ : ∃ φ', φ' = φ.merge (R.W i).next (R.W (i + 1)).next ψ := ⟨_, rfl⟩
 have hlow : ∀ {id}, id < (R.W i).next → ψ id = φ id := fun {id} h => (st.same id (.inl h)).trans (Phi.cut_lt φ h)
 have hhigh : ∀ {id}, (R.W (i + 1)).next ≤ id → ψ id = none := fun {id} h => (st.same id (.inr (hnx ▸ h))).trans (Phi.cut_ge φ oM)
 have hin : ∀ {id}, id < (R.W (i + 1)).next → φ' id = ψ id := fun {id} h => by
  rw [hφ']; by_cases h1 : id < (R.W i).next
  ·rw [Phi.merge_out _ _ (.inl h1)]; exact (hlow h1).symm
  ·exact Phi.merge_in _ _ ⟨oM, h⟩
 have hout : ∀ {id}, (id < (R.W i).next ∨ (R.W (i + 1)).next ≤ id) → φ' id = φ id := fun {id} h => by rw [hφ']; exact Phi.merge_out _ _ h
 have hz' : φ'.z = ψ.z := by rw [hφ']; rfl
 have hsub : Sub φ φ' := ⟨fun id B hB => by
  by_cases h : (R.W i).next ≤ id ∧ id < (R.W (i + 1)).next
  ·rw [inv.fresh i hr.lt hr.new id h.1 h.2] at hB; cases hB
  ·rw [hout oM]; exact hB, fun b o v hzv => by rw [hz']; exact st.zsub b o v hzv⟩
 have hsubψ : Sub ψ φ' := ⟨fun id B hB => by
  have hlt : id < (R.W (i + 1)).next := by apply yK; intro hle; rw [hhigh hle] at hB; cases hB
  rw [hin hlt]; exact hB, fun b o v hzv => by rw [hz']; exact hzv⟩
 have hψc : ∀ {m}, i + 1 ≤ m → m ≤ ds.length → Sub ψ (φ'.cut (R.W m).next) := fun {m} h1 h2 => hsubψ.to_cut fun id hid => hhigh (zt (R.next_le hS ok h1 h2) hid)
 have hget : ∀ {id o}, R.wr i id → (R.W (i + 1)).objs.get id = some o → t.get id = some o := fun {id o} hw ho => by
  rw [uM, qG st.ext.hide st.ext.only, R.wr_seen hS ok hr.lt hd hw, ← hob]; exact ho
 have hsame : ∀ {id}, ¬ R.wr i id → φ' id = φ id := fun {id} hw => by
  apply hout; by_cases h1 : id < (R.W i).next
  ·exact .inl h1
  ·right; apply yM; intro h2; exact hw ⟨v, t, hv, .inl ⟨oM, oM⟩⟩
 have hold : ∀ {id o}, R.wr i id → t.objs.get id = some o → id < (R.W i).next → ∃ o', R.cur D id o' ∧ φ' id = φ id := fun {id o} hw ho hlt => by
  obtain ⟨o', ho'⟩ := st.ext.vis id o hlt ho; have hg : (vh d (R.L i) (R.T i) (R.W i)).get id = some o' := by rw [uM, R.wr_seen hS ok hr.lt hd hw]; exact ho'
  exact ⟨o', Inv.cur_of hS ok hcl hr hd hv hg, hout (.inl hlt)⟩
 have hbits : ∀ {id o}, (vh d (R.L i) (R.T i) (R.W i)).get id = some o → t.wm.testBit id = true → R.wr i id := fun {id o} hg hb => ⟨v, t, hv, .inr ⟨f2.lt id o (xW (s := vh d (R.L i) (R.T i) (R.W i)) hg), hb⟩⟩; have hwlt : ∀ {id}, R.wr i id → id < (R.W (i + 1)).next := fun {id} hw => R.wr_lt hS ok hr.lt hw
 have hmix : ∀ {id id' o o' B B'}, R.wr i id → (R.W (i + 1)).objs.get id = some o → ¬ R.wr i id' → R.cur D id' o' → φ' id = some B → φ' id' = some B' → B.b = B'.b → id = id' ∨ B.b < w0.heap.size := fun {id id' o o' B B'} hw ho hw' hc' hB hB' e => by
  rw [hsame hw'] at hB'; by_cases hlt : id < (R.W i).next
  ·obtain ⟨o1, hc, hp⟩ := hold hw (by rw [← hob]; exact ho) hlt
   exact inv.inj id id' o1 o' B B' hc hc' (hp ▸ hB) hB' e
  ·have hlt2 := hwlt hw; rw [hin hlt2] at hB; rcases st.own id B (yM hlt) (hnx ▸ hlt2) hB with h1 | ⟨id0, o0, B0, q1, q2, q3, q4⟩
   ·have := (inv.rng id' B' hB'); omega
   ·have hc0 := Inv.cur_of hS ok hcl hr hd hv q1; rcases inv.inj id0 id' o0 o' B0 B' hc0 hc' (Phi.cut_some q2).2 hB' (q3.trans e) with he | he
    ·subst he; exact absurd (hbits q1 q4) hw'
    ·exact .inr (q3 ▸ he)
 rw [← hφ']; refine ⟨st.rel.base, ?_, ?_, ?_, ?_, ?_, ?_, inv.tmp_step hck hdo hcl hr hd hS ok hsub g5 (fun j dj hdj k hk => R.T_other hdj hk) (VR.mono (hψc (zp _) hr.lt) _ _ hx), (Zu _).1.trans inv.size, (Zu _).2.trans inv.df, zt inv.grow st.size, ?_, ?_, ?_, ?_, ?_, ?_⟩
 ·intro id o m h; rcases R.curA_split hS ok hcl hr h with ⟨hw, him, ho⟩ | ⟨hw, hc⟩
  ·obtain ⟨B, hB, ht⟩ := st.rel.obj id o (hget hw ho); exact ⟨B, hsubψ.of _ _ hB, ht.keep (hψc him h.2.1) rfl⟩
  ·obtain ⟨B, hB, ht⟩ := inv.obj id o m hc; refine ⟨B, hsub.of _ _ hB, ht.keep (hsub.cut (zp _)) (st.frame B.b (inv.rng id B hB) fun id2 o2 B2 q1 q2 q3 => ?_)⟩; cases hb : t.wm.testBit id2 with
   | false => rfl
   | true =>
    have q2' := (Phi.cut_some q2).2; rcases inv.inj id2 id o2 o B2 B (Inv.cur_of hS ok hcl hr hd hv q1) (R.cur_of_A hc) q2' hB q3 with he | he
    ·subst he; exact absurd (hbits q1 hb) hw
    ·have hgo := xW (s := vh d (R.L i) (R.T i) (R.W i)) q1; have := st.ext.giv id2 o2 (f2.lt id2 o2 hgo) hgo (inv.old id2 o2 B2 (Inv.cur_of hS ok hcl hr hd hv q1) q2' he) hb; simp [vh] at this
 ·intro id B hB; by_cases h : id < (R.W (i + 1)).next
  ·rw [hin h] at hB; exact st.rel.rng id B hB
  ·rw [hout oM] at hB; have := inv.rng id B hB; have := st.size; omega
 ·intro id o B h hB hlt; rcases R.cur_split hS ok hcl hr h with ⟨hw, ho⟩ | ⟨hw, hc⟩
  ·exact st.rel.old id o B (hget hw ho) (hin (hwlt hw) ▸ hB) hlt
  ·exact inv.old id o B hc (hsame hw ▸ hB) hlt
 ·intro id id' o o' B B' h h' hB hB' e; rcases R.cur_split hS ok hcl hr h with ⟨hw, ho⟩ | ⟨hw, hc⟩ <;> rcases R.cur_split hS ok hcl hr h' with ⟨hw', ho'⟩ | ⟨hw', hc'⟩
  ·exact st.rel.inj id id' o o' B B' (hget hw ho) (hget hw' ho') (hin (hwlt hw) ▸ hB) (hin (hwlt hw') ▸ hB') e
  ·exact hmix hw ho hw' hc' hB hB' e
  ·exact (hmix hw' ho' hw hc hB' hB e.symm).elim (fun h => .inl h.symm) (fun h => .inr oM)
  ·exact inv.inj id id' o o' B B' hc hc' (hsame hw ▸ hB) (hsame hw' ▸ hB') e
 ·intro id h; rw [hout (by
   rcases h with h | h
   ·left; omega
   ·right; omega)]
  exact inv.out id h
 ·intro j hj hD id h1 h2; have hji : j ≠ i := fun e => hD (.inr e); have hDj : ¬ D j := fun h => hD (.inl h); rw [hout ?_]
  ·exact inv.fresh j hj hDj id h1 h2
  ·by_cases hlt : j < i
   ·left
    have := R.next_le hS ok (i := j + 1) (j := i) hlt (yG hr.lt); omega
   ·right
    have := R.next_le hS ok (i := i + 1) (j := j) oM (yG hj); omega
 ·intro id B h1 h2 hB; by_cases hrange : (R.W i).next ≤ id ∧ id < (R.W (i + 1)).next
  ·rw [hin hrange.2] at hB; rcases st.own id B hrange.1 (hnx ▸ hrange.2) hB with h3 | ⟨id0, o0, B0, q1, q2, q3, q4⟩
   ·exact .inl (zt inv.grow h3)
   ·have q2' := (Phi.cut_some q2).2; have hlt0 : id0 < (R.W i).next := f2.lt id0 o0 (xW (s := vh d (R.L i) (R.T i) (R.W i)) q1)
    by_cases hl : id0 < (R.W 0).next
    ·obtain ⟨o1, ho1⟩ := f5.vis id0 o0 hl (xW (s := vh d (R.L i) (R.T i) (R.W i)) q1); have hs := (Inv.cur_of hS ok hcl hr hd hv q1).1 hl; refine .inr ⟨id0, o1, B0, by rw [uM, hs]; exact ho1, ?_, q3, R.wm_run hS ok hr.lt hv q4⟩
     rw [← inv.out id0 (.inl hl)]; exact q2'
    ·rcases inv.own id0 B0 (yM hl) oM q2' with h4 | ⟨id1, o1, B1, r1, r2, r3, r4⟩
     ·exact .inl (q3 ▸ h4)
     ·exact .inr ⟨id1, o1, B1, r1, r2, r3.trans q3, r4⟩
  ·rw [hout oM] at hB; exact inv.own id B h1 h2 hB
 ·intro b hb H; refine (st.frame b (Nat.lt_of_lt_of_le hb inv.grow) fun id o B q1 q2 q3 => ?_).trans (inv.frame b hb H); have q2' := (Phi.cut_some q2).2; cases hbit : t.wm.testBit id with
  | false => rfl
  | true =>
   exfalso
   have hwN := R.wm_run hS ok hr.lt hv hbit; have hlt0 : id < (R.W i).next := f2.lt id o (xW (s := vh d (R.L i) (R.T i) (R.W i)) q1)
   by_cases hl : id < (R.W 0).next
   ·obtain ⟨o1, ho1⟩ := f5.vis id o hl (xW (s := vh d (R.L i) (R.T i) (R.W i)) q1); have hs := (Inv.cur_of hS ok hcl hr hd hv q1).1 hl; have := H id o1 B (by rw [uM, hs]; exact ho1) (by rw [← inv.out id (.inl hl)]; exact q2') q3
    rw [hwN] at this; cases this
   ·rcases inv.own id B (yM hl) oM q2' with h4 | ⟨id1, o1, B1, r1, r2, r3, r4⟩
    ·omega
    ·have := H id1 o1 B1 r1 r2 (r3.trans q3); rw [r4] at this; cases this
 ·intro b o u hu; rw [hz'] at hu; exact st.rel.frz b o u hu
 ·intro id o B h hB; rw [hz']; rcases R.cur_split hS ok hcl hr h with ⟨hw, ho⟩ | ⟨hw, hc⟩
  ·exact st.rel.sep id o B (hget hw ho) (hin (hwlt hw) ▸ hB)
  ·rw [hsame hw] at hB; have h0 := inv.sep id o B hc hB; cases hgv : vB o with
   | true => cases o <;> first | trivial | (cases hgv; done)
   | false =>
    refine h0.congr fun k => ?_; cases hk : ψ.z B.b k with
    | none =>
     cases hk2 : φ.z B.b k with
     | none => rfl
     | some u => have h9 := st.zsub B.b k u hk2; rw [hk] at h9; cases h9
    | some u =>
     rcases st.zown B.b k u hk with h1 | h1 | ⟨id0, o0, B0, q1, q2, q3, q4⟩
     ·exact h1.symm
     ·have := inv.rng id B hB; omega
     ·exfalso
      rcases inv.inj id0 id o0 o B0 B (Inv.cur_of hS ok hcl hr hd hv q1) hc (Phi.cut_some q2).2 hB q3 with he | he
      ·subst he; exact hw (hbits q1 q4)
      ·rw [inv.old id o B hc hB oM] at hgv; cases hgv
 ·intro b o u hu; rw [hz']; exact st.zsub b o u (inv.zsub b o u hu)
 ·intro b o u hu; rw [hz'] at hu; rcases st.zown b o u hu with h1 | h1 | ⟨id0, o0, B0, q1, q2, q3, q4⟩
  ·exact inv.zown b o u h1
  ·exact .inr (.inl (zt inv.grow h1))
  ·have q2' := (Phi.cut_some q2).2; have hlt0 : id0 < (R.W i).next := f2.lt id0 o0 (xW (s := vh d (R.L i) (R.T i) (R.W i)) q1)
   by_cases hl : id0 < (R.W 0).next
   ·obtain ⟨o1, ho1⟩ := f5.vis id0 o0 hl (xW (s := vh d (R.L i) (R.T i) (R.W i)) q1); have hs := (Inv.cur_of hS ok hcl hr hd hv q1).1 hl; refine .inr (.inr ⟨id0, o1, B0, by rw [uM, hs]; exact ho1, ?_, q3, R.wm_run hS ok hr.lt hv q4⟩)
    rw [← inv.out id0 (.inl hl)]; exact q2'
   ·rcases inv.own id0 B0 (yM hl) oM q2' with h4 | ⟨id1, o1, B1, r1, r2, r3, r4⟩
    ·exact .inr (.inl (q3 ▸ h4))
    ·exact .inr (.inr ⟨id1, o1, B1, r1, r2, r3.trans q3, r4⟩)
end
theorem JA : ∀ {l : List Nat} {i k d : Nat}, X4 i l = true → l[k]? = some d → ∀ j, d.testBit j = true → j < i + k
 | [], _, k, d, _, h, _, _ => by simp at h
 | x :: r, i, 0, d, h, hd, j, hb => by
  simp only [X4, zl, wb] at h; simp only [yJ, zv] at hd; subst hd; apply yK; intro hle; have h1 : x < 2 ^ j := Nat.lt_of_lt_of_le h.1 (Nat.pow_le_pow_right oM oM); rw [Nat.testBit_lt_two_pow h1] at hb; cases hb
 | x :: r, i, k + 1, d, h, hd, j, hb => by
  simp only [X4, zl] at h; have := JA (k := k) h.2 (by simpa using hd) j hb
  omega
theorem WI {i : Nat} {p : SOper} : ∀ {l : List SOper} {ds : List Nat} {k : Nat} {q : SOper} {d : Nat}, Zt i p l ds = true → l[k]? = some q → ds[k]? = some d → Wq p q = true → d.testBit i = true
 | [], _, k, q, d, _, h, _, _ => by simp at h
 | b :: r, [], k, q, d, h, _, _, _ => by simp [Zt] at h
 | b :: r, x :: xs, 0, q, d, h, hq, hd, hc => by
  simp only [yJ, zv] at hq hd; subst hq; subst hd; simp only [Zt, zl, zn, Bool.not_eq_true'] at h; rcases h.1 with h1 | h1
  ·rw [hc] at h1; cases h1
  ·exact h1
 | b :: r, x :: xs, k + 1, q, d, h, hq, hd, hc => by
  simp only [Zt, zl] at h; exact WI (k := k) h.2 (by simpa using hq) (by simpa using hd) hc
theorem Jz : ∀ {l : List SOper} {ds : List Nat} {i j k : Nat} {p q : SOper} {d : Nat}, VQ i l ds = true → j < k → l[j]? = some p → l[k]? = some q → ds[k]? = some d → Wq p q = true → d.testBit (i + j) = true
 | [], _, i, j, k, p, q, d, _, _, h, _, _, _ => by simp at h
 | a :: r, [], i, j, k, p, q, d, h, _, _, _, _, _ => by simp [VQ] at h
 | a :: r, x :: xs, i, j, 0, p, q, d, h, hjk, hp, hq, hd, hc => by omega
 | a :: r, x :: xs, i, 0, k + 1, p, q, d, h, hjk, hp, hq, hd, hc => by
  simp only [yJ, zv] at hp; subst hp; simp only [VQ, zl] at h; exact WI (k := k) h.1 (by simpa using hq) (by simpa using hd) hc
 | a :: r, x :: xs, i, j + 1, k + 1, p, q, d, h, hjk, hp, hq, hd, hc => by
  simp only [VQ, zl] at h; have := Jz (j := j) (k := k) h.2 oM (by simpa using hp) (by simpa using hq) (by simpa using hd) hc
  rw [show i + (j + 1) = i + 1 + j by omega]; exact this
theorem Zs : ∀ {l : List SOper} {ds : List Nat} {i : Nat} {d : DOper}, (mkD l ds)[i]? = some d ↔ l[i]? = some d.o ∧ ds[i]? = some d.deps
 | [], ds, i, d => by simp [mkD]
 | a :: r, [], i, d => by simp [mkD]
 | a :: r, x :: xs, 0, d => by
  simp only [mkD, yJ, zv]; constructor
  ·rintro rfl; exact ⟨rfl, rfl⟩
  ·rintro ⟨rfl, rfl⟩; rfl
 | a :: r, x :: xs, i + 1, d => by simp only [mkD, yN]; exact Zs
theorem VN : ∀ {l : List SOper} {ds : List Nat}, l.length = ds.length → (mkD l ds).length = l.length
 | [], ds, _ => by simp [mkD]
 | a :: r, [], h => by simp at h
 | a :: r, x :: xs, h => by simp only [mkD, List.length_cons]; rw [VN (by simpa using h)]
theorem zzz {P : Program} {nt : Nat} {ops : Array Oper} : ∀ {rs : List Oper} {l : List SOper}, cSs P nt ops rs = some l → l.length = rs.length ∧ ∀ (i : Nat) (o : Oper), rs[i]? = some o → ∃ so, l[i]? = some so ∧ cS P nt ops o = some so
 | [], l, h => by simp [cSs] at h; subst h; exact ⟨rfl, (fun i o h => by simp at h)⟩
 | r :: rs, l, h => by
  simp only [cSs] at h; split at h
  ·rename_i a l' h1 h2
   simp only [zv] at h; subst h; obtain ⟨k1, k2⟩ := zzz h2; refine ⟨by simp [k1], fun i o ho => ?_⟩
   cases i with
   | zero => simp only [yJ, zv] at ho; subst ho; exact ⟨a, by simp, h1⟩
   | succ i => obtain ⟨so, k3, k4⟩ := k2 i o (by simpa using ho); exact ⟨so, by simpa using k3, k4⟩
  ·cases h
theorem UX {acc : List Nat} {j : Nat} : ∀ {es : List Edge} {s0 : Nat}, (es.foldl (fun s e => bif Region.binds .any e then s ||| 2 ^ e.on ||| acc.getD e.on 0 else s) s0).testBit j = true → s0.testBit j = true ∨ ∃ e ∈ es, Region.binds .any e = true ∧ (j = e.on ∨ (acc.getD e.on 0).testBit j = true)
 | [], s0, h => .inl h
 | e :: r, s0, h => by
  rw [List.foldl_cons] at h; rcases UX h with h1 | ⟨e', he', h2⟩
  ·cases hb : Region.binds .any e with
   | false => rw [hb] at h1; exact .inl h1
   | true =>
    rw [hb] at h1; simp only [cond_true, yv, zn] at h1; rcases h1 with (h1 | h1) | h1
    ·exact .inl h1
    ·rw [Nat.testBit_two_pow] at h1; exact .inr ⟨e, by simp, hb, .inl (by simpa using (of_decide_eq_true h1).symm)⟩
    ·exact .inr ⟨e, by simp, hb, .inr h1⟩
  ·exact .inr ⟨e', by simp [he'], h2⟩
theorem UY {acc : List Nat} : ∀ {es : List Edge} {s0 : Nat}, (∀ j, s0.testBit j = true → (es.foldl (fun s e => bif Region.binds .any e then s ||| 2 ^ e.on ||| acc.getD e.on 0 else s) s0).testBit j = true) ∧ ∀ e ∈ es, Region.binds .any e = true → (es.foldl (fun s e => bif Region.binds .any e then s ||| 2 ^ e.on ||| acc.getD e.on 0 else s) s0).testBit e.on = true
 | [], s0 => ⟨fun j h => h, fun e he => by simp at he⟩
 | x :: r, s0 => by
  simp only [List.foldl_cons]; obtain ⟨h1, h2⟩ := UY (acc := acc) (es := r) (s0 := bif Region.binds .any x then s0 ||| 2 ^ x.on ||| acc.getD x.on 0 else s0)
  refine ⟨fun j hj => h1 j ?_, fun e he hb => ?_⟩
  ·cases Region.binds .any x with
   | false => exact hj
   | true => simp only [cond_true, yv, hj, Bool.true_or]
  ·rcases List.mem_cons.1 he with rfl | he
   ·apply h1; rw [hb]; simp only [cond_true, yv, Nat.testBit_two_pow_self, Bool.or_true, Bool.true_or]
   ·exact h2 e he hb
theorem QZ : ∀ {l : List Oper} {acc : List Nat}, (j6 l acc).length = acc.length + l.length ∧ (∀ k, k < acc.length → (j6 l acc)[k]? = acc[k]?) ∧
  ∀ (i : Nat) (o : Oper), l[i]? = some o → ∃ acc' : List Nat, (j6 l acc)[acc.length + i]? = some (zv0 acc' o.after.toList) ∧ acc'.length = acc.length + i ∧ ∀ k, k < acc'.length → acc'[k]? = (j6 l acc)[k]?
 | [], acc => ⟨by simp [j6], fun k _ => rfl, fun i o h => by simp at h⟩
 | x :: r, acc => by
  simp only [j6]; obtain ⟨h1, h2, h3⟩ := QZ (l := r) (acc := acc ++ [zv0 acc x.after.toList]); refine ⟨by rw [h1]; simp; omega, fun k hk => ?_, fun i o ho => ?_⟩
  ·rw [h2 k (by simp; omega), ye hk]
  ·cases i with
   | zero =>
    simp only [yJ, zv] at ho; subst ho; refine ⟨acc, ?_, by simp, fun k hk => ?_⟩
    ·rw [h2 _ (by simp)]; simp
    ·rw [h2 k (by simp; omega), ye hk]
   | succ i =>
    obtain ⟨acc', k1, k2, k3⟩ := h3 i o (by simpa using ho)
    refine ⟨acc', ?_, by rw [k2]; simp; omega, k3⟩
    rw [← k1]; congr 1; simp; omega
theorem Zg {nt : Nat} {ops : Array Oper} {ds : List DOper} (h : YF P nt ops = some ds) :
  ds.length = ops.size ∧ Yx ds ∧ zzp ds nt ∧ (∀ (i : Nat) (d : DOper), ds[i]? = some d → ∃ o, ops[i]? = some o ∧ cS P nt ops o = some d.o ∧ (∀ j, d.deps.testBit j = true → j < i) ∧ (∀ e ∈ o.after, Region.binds .any e = true → e.on < i) ∧
   ∀ j, d.deps.testBit j = true → ∃ e ∈ o.after, Region.binds .any e = true ∧ (j = e.on ∨ ∃ d', ds[e.on]? = some d' ∧ d'.deps.testBit j = true)) := by
 unfold YF at h; split at h
 ·rename_i l hl
  simp only at h; cases hb : (VQ 0 l (j6 ops.toList []) && X4 0 (j6 ops.toList [])) with
  | false => rw [hb] at h; simp at h
  | true =>
   rw [hb] at h; simp only [cond_true, zv] at h; subst h; rw [zl] at hb; obtain ⟨k1, k2⟩ := zzz hl; obtain ⟨d1, _, d3⟩ := QZ (l := ops.toList) (acc := []); simp only [List.length_nil, yy] at d1 d3; have hlen : l.length = (j6 ops.toList []).length := by rw [k1, d1]
   have hget : ∀ (i : Nat) (d : DOper), (mkD l (j6 ops.toList []))[i]? = some d → ∃ o, ops[i]? = some o ∧ cS P nt ops o = some d.o := fun i d hd => by
    obtain ⟨q1, q2⟩ := Zs.1 hd; have hlt : i < l.length := by
     apply yK; intro hle; rw [z5 hle] at q1; cases q1
    have ho : ops.toList[i]? = some ops.toList[i] := by rw [yl]
    obtain ⟨so, k3, k4⟩ := k2 i _ ho; rw [q1] at k3; cases k3; exact ⟨_, by rw [← zy]; exact ho, k4⟩
   refine ⟨by rw [VN hlen, k1]; simp, ?_, ?_, ?_⟩
   ·intro j k dj dk hjk hj hk hc; obtain ⟨q1, q2⟩ := Zs.1 hj; obtain ⟨q3, q4⟩ := Zs.1 hk; have := Jz hb.1 hjk q1 q3 q4 hc; rw [yy] at this; exact this
   ·intro j dj t hj ht; obtain ⟨o, _, ho⟩ := hget j dj hj; obtain ⟨_, _, h3, h4⟩ := J7 ho; exact h4 t (by rw [← h3]; exact ht)
   ·intro i d hd; obtain ⟨o, ho, hcs⟩ := hget i d hd; obtain ⟨q1, q2⟩ := Zs.1 hd; have hback : ∀ j, d.deps.testBit j = true → j < i := fun j hj => by
     have := JA hb.2 q2 j hj; omega
    obtain ⟨acc', r1, r2, r3⟩ := d3 i o (by rw [zy]; exact ho)
    rw [q2] at r1; simp only [zv] at r1; refine ⟨o, ho, hcs, hback, fun e he hbd => hback _ (by rw [r1]; exact UY.2 e (by simpa using he) hbd), fun j hj => ?_⟩
    rw [r1] at hj; rcases UX hj with h0 | ⟨e, he, hbd, hor⟩
    ·simp at h0
    ·refine ⟨e, by simpa using he, hbd, ?_⟩
     rcases hor with h1 | h1
     ·exact .inl h1
     ·right
      have hlt : e.on < acc'.length := by
       apply yK; intro hle; rw [yP, z5 hle] at h1; simp at h1
      have hlt2 : e.on < l.length := by
       have hi : i < l.length := by apply yK; intro hle; rw [z5 hle] at q1; cases q1
       omega
      refine ⟨⟨l[e.on], acc'[e.on]⟩, Zs.2 ⟨yl hlt2, ?_⟩, ?_⟩
      ·rw [← r3 _ hlt, yl hlt]
      ·rw [yP, yl hlt] at h1; simpa using h1
 ·cases h
def LD (listed : Array Bool) (i : Nat) : Prop := listed.getD i false = true
theorem zvl {listed : Array Bool} {i : Nat} (h : i < listed.size) : LD (listed.setIfInBounds i true) = more (LD listed) i := by
 funext j
 unfold LD more; simp only [yE, Array.getElem?_setIfInBounds]; by_cases e : i = j
 ·subst e; simp [h]
 ·rw [if_neg e]; simp [Ne.symm e]
theorem zv2 (hS : SelfOk P w0 S) (hG : xV E.globs w0) {ops : Array Oper} {ds : List DOper} {nt : Nat} (hc : YF P nt ops = some ds) {R : Tr E S ds} (ok : R.Ok) {φ0 : Phi} {w00 : World} {a0 : Act} {F : Fence} (hF : Wide F) {Q : Exit → Act → World → Prop}
  (hQ : ∀ φ w a, Inv R P w0 φ0 w00 nt a0 (fun i => i < ds.length) φ w a → Q .normal a w) :
  ∀ (fuel : Nat) (listed : Array Bool) (φ : Phi) (w : World) (a : Act) (u : List Nat), listed.size = ops.size → u.length ≤ fuel → (∀ i, i < ops.size → ¬ LD listed i → i ∈ u) → Closed ds (LD listed) → Inv R P w0 φ0 w00 nt a0 (LD listed) φ w a → wpAnyIn F n P .any ops Q fuel listed a w := by
 obtain ⟨c1, c2, c3, c4⟩ := Zg hc; have hdone : ∀ {listed φ w a}, listed.size = ops.size → (∀ i, i < ops.size → LD listed i) → Inv R P w0 φ0 w00 nt a0 (LD listed) φ w a → Q .normal a w := fun {listed φ w a} hsz hall inv => by
  have e : LD listed = fun i => i < ds.length := by
   funext i
   apply propext; constructor
   ·intro h; rw [c1]; apply yK; intro hle; unfold LD at h; rw [yE, Array.getElem?_eq_none oM] at h; simp at h
   ·intro h; exact hall i oM
  exact hQ φ w a (e ▸ inv)
 have hready : ∀ {listed : Array Bool}, listed.size = ops.size → Region.ready .any ops listed = [] → ∀ i, i < ops.size → LD listed i := fun {listed} hsz hnil i => by
  induction i using Nat.strongRecOn with
  | _ i ih =>
   intro hi; by_cases hl : LD listed i
   ·exact hl
   ·exfalso
    obtain ⟨d, hd⟩ := vK (ds := ds) (i := i) oM; obtain ⟨o, ho, _, _, hed, _⟩ := c4 i d hd; have : i ∈ Region.ready .any ops listed := mem_ready.2 ⟨by
     unfold LD at hl; rw [yE, zJ oM] at hl ⊢
     simpa using hl, o, ho, fun e he hb => ih e.on (hed e he hb) (by have := hed e he hb; omega)⟩
    rw [hnil] at this; simp at this
 intro fuel
 induction fuel with
 | zero =>
  intro listed φ w a u hsz hu hin hcl inv; have hu0 : u = [] := yi oM; subst hu0; have hall : ∀ i, i < ops.size → LD listed i := fun i hi => by
   by_cases h : LD listed i
   ·exact h
   ·have := hin i hi h; simp at this
  refine ⟨?_, hdone hsz hall inv⟩; rw [yO]; intro i hi; obtain ⟨h1, o, ho, _⟩ := mem_ready.1 hi; have hlt : i < ops.size := (Array.getElem?_eq_some_iff.1 ho).1; have := hall i hlt; unfold LD at this; rw [yE, zJ oM] at this h1; simp at this h1; rw [this] at h1; cases h1
 | succ fuel ih =>
  intro listed φ w a u hsz hu hin hcl inv; refine ⟨fun hnil => hdone hsz (hready hsz hnil) inv, fun i hi => ?_⟩; obtain ⟨h1, o, ho, hed⟩ := mem_ready.1 hi; have hlt : i < ops.size := (Array.getElem?_eq_some_iff.1 ho).1; have hnew : ¬ LD listed i := by
   unfold LD; rw [yE, zJ oM] at h1 ⊢
   simpa using h1
  obtain ⟨d, hd⟩ := vK (ds := ds) (i := i) oM; obtain ⟨o', ho', hcs, hback, _, hdep⟩ := c4 i d hd; rw [ho] at ho'; cases ho'; have hr : Ready (ds := ds) (LD listed) i := by
   refine ⟨oM, hnew, fun d' j hd' hb hj => ?_⟩; rw [hd] at hd'; cases hd'; obtain ⟨e, he, hbd, hor⟩ := hdep j hb; have hL : LD listed e.on := hed e he hbd; rcases hor with rfl | ⟨d'', hd'', hb''⟩
   ·exact hL
   ·exact hcl.dep e.on d'' j hL hd'' hb'' hj
  have hnext : ∀ φ' w' a', Inv R P w0 φ0 w00 nt a0 (more (LD listed) i) φ' w' a' → wpAnyIn F n P .any ops Q fuel (listed.setIfInBounds i true) a' w' := fun φ' w' a' inv' => by
   have hset := zvl (listed := listed) (i := i) oM; refine ih _ φ' w' a' (u.erase i) (by simp [hsz]) ?_ ?_ ?_ (hset ▸ inv')
   ·rw [yR (hin i hlt hnew)]; omega
   ·intro j hj hn; rw [hset] at hn; have hji : j ≠ i := fun e => hn (.inr e); exact (yV hji).2 (hin j hj (fun h => hn (.inl h)))
   ·rw [hset]; refine ⟨fun k dk j hk hdk hb hj => ?_⟩; rcases hk with hk | rfl
    ·exact .inl (hcl.dep k dk j hk hdk hb hj)
    ·exact .inl (hr.deps dk j hdk hb hj)
  unfold wpOpIn; rw [ho]; simp only; obtain ⟨hg, hop, hdst, hdlt⟩ := J7 hcs; have hnm := inv.names c2 hcl hr hd; rw [ztu] at hnm; cases hv : R.V i with
  | none =>
   obtain ⟨g1, _, _, _⟩ := R.skip i d hd hv; rw [j2 hg g1 (hnm.sub (by intro t h; simp [h]))]
   simp only [Bool.false_eq_true, if_false]; refine ⟨fun f _ => hF.fn f, hnext φ w _ ?_⟩; rw [← hdst]; exact inv.skip hS.ext ok c2 c3 hcl hr hd hv
  | some p =>
   obtain ⟨v, t⟩ := p; obtain ⟨g1, g2, _, _, _, g6⟩ := R.run i d v t hd hv; rw [j2 hg g1 (hnm.sub (by intro t h; simp [h])), if_pos rfl]
   rw [hop] at g2; obtain ⟨op, hc1, hc2⟩ := XD g2; rw [hc2] at g2; have hfr : Fresh (φ.cut (R.W i).next) (vh d (R.L i) (R.T i) (R.W i)) t := fun id h1 => Phi.cut_ge φ h1
   refine Z3 hS hG hc1 g2 (inv.rel hS.ext ok hcl hr hd hv) (R.begWf hS.ext ok oM d) hfr (hnm.sub (by intro t h; rw [hop, hc2]; simp [h])) hF fun ψ x w' k1 k2 => hnext (φ.merge (R.W i).next (R.W (i + 1)).next ψ) w' _ ?_
   rw [← hdst]; exact inv.run hS.ext ok c2 c3 hcl hr hd hv k1 k2
theorem GQ {l : List DOper} {t d e : Nat} (h : Zk l = some (t, d, e)) : t ≠ d ∧ l = [⟨⟨some t, .alloc e [.bool false], none⟩, 0⟩, ⟨⟨none, .st 1 (.t t) (.c (.bool true)), none⟩, 1⟩, ⟨⟨none, .st 1 (.t t) (.c (.bool false)), none⟩, 1⟩, ⟨⟨some d, .ld (.t t), none⟩, 7⟩] := by
 unfold Zk at h; split at h
 ·rename_i t' e' t1 t2 d' t3
  cases hb : (za t1 t' && za t2 t' && za t3 t' && !(za t' d')) with
  | false => rw [hb] at h; simp at h
  | true =>
   rw [hb] at h; simp only [cond_true, zv, zw] at h; obtain ⟨rfl, rfl, rfl⟩ := h; rw [zl, zl, zl] at hb; obtain ⟨⟨⟨h1, h2⟩, h3⟩, hne⟩ := hb; obtain rfl := xG.1 h1; obtain rfl := xG.1 h2; obtain rfl := xG.1 h3; refine ⟨fun e => ?_, rfl⟩; rw [xG.2 e] at hne; cases hne
 ·cases h
theorem zpz {nt : Nat} {ops : Array Oper} {ds : List DOper} (hc : YF P nt ops = some ds) {listed : Array Bool} (hcl : Closed ds (LD listed)) {i : Nat} (hi : i ∈ Region.ready .any ops listed) :
  ∃ d o, ds[i]? = some d ∧ ops[i]? = some o ∧ cS P nt ops o = some d.o ∧ ¬ LD listed i ∧ i < ops.size ∧ ∀ j, d.deps.testBit j = true → j < ds.length → LD listed j := by
 obtain ⟨c1, _, _, c4⟩ := Zg hc; obtain ⟨h1, o, ho, hed⟩ := mem_ready.1 hi; have hlt : i < ops.size := (Array.getElem?_eq_some_iff.1 ho).1; obtain ⟨d, hd⟩ := vK (ds := ds) (i := i) oM; obtain ⟨o', ho', hcs, _, _, hdep⟩ := c4 i d hd; rw [ho] at ho'; cases ho'; refine ⟨d, o, hd, ho, hcs, ?_, hlt, fun j hj hjl => ?_⟩
 ·unfold LD; rw [yE]; rw [yE] at h1; intro h; cases hx : listed[i]? with
  | none => rw [hx] at h; simp at h
  | some b => rw [hx] at h h1; simp at h h1; rw [h1] at h; cases h
 ·obtain ⟨e, he, hbd, hor⟩ := hdep j hj; have hL : LD listed e.on := hed e he hbd; rcases hor with rfl | ⟨d'', hd'', hb''⟩
  ·exact hL
  ·exact hcl.dep e.on d'' j hL hd'' hb'' hjl
theorem zqe (hon : s.only = none) (hwf : Wf s) (o : AObj) : (s.alloc o).get s.next = some o := by
 rw [uM]; have : seen (s.alloc o) s.next = true := by
  rw [qG (s := s) (s' := s.alloc o) rfl rfl]; unfold seen; rw [hon]; simp only; rw [Pv hwf.hd (zp _)]; rfl
 rw [this]; exact Trie.get_set_same _ _ _
theorem zzU {o' : AObj} (h : s.get id = some o) : (s.put id o').get id = some o' := by
 rw [uM, qG (s := s) (s' := s.put id o') rfl rfl, wX h]; exact Trie.get_set_same _ _ _
structure BInv (P : Program) (w0 : World) (φ0 : Phi) (s : St) (w00 : World) (nt t d e : Nat) (a0 : Act) (D : Nat → Prop) (φ : Phi) (s1 : St) (w : World) (a : Act) : Prop where
 st : Step P w0 φ0 s w00 φ s1 w
 size : a.tmps.size = nt
 df : a.defers = a0.defers
 other : ∀ i, i ≠ t → i ≠ d → a.tmps.getD i undef = a0.tmps.getD i undef
 new : ¬ D 0 → s1 = s
 cell : D 0 → s1.next = s.next + 1 ∧ (∃ b, s1.get s.next = some (.row e [.bool b] false false)) ∧ VR φ (.ptr s.next 0) (a.tmps.getD t undef)
 wm : ∀ id, id < s.next → s1.wm.testBit id = s.wm.testBit id
 val : D 3 → ∃ b, a.tmps.getD d undef = .bool b
theorem HQ {a : Act} {k i : Nat} {x : Value} (h : k < a.tmps.size) : (a.put (some k) x).tmps.getD i undef = if i = k then x else a.tmps.getD i undef := by
 simp only [Act.put]; exact Y7 _ _ _ _ h
section
variable {P : Program} {w0 : World} {E : Env} {S : Self} {nt t d e : Nat} {ops : Array Oper} {ds : List DOper}
theorem Qs (hS : SelfOk P w0 S) (hG : xV E.globs w0) {i : Nat} {o : Oper} {so : SOper} {a : Act} {F : Fence} (hF : Wide F) {Q : Exit → Act → World → Prop} {K : Act → World → Prop}
  (ho : ops[i]? = some o) (hcs : cS P nt ops o = some so) (hg : so.guard = none) (h : ql E S so.op tm s = some (v, s')) (r : Rel P w0 φ s.get w) (hwf : Wf s) (hf : Fresh φ s s') (ht : TmOn φ (Opd.tmps so.op.opds) tm a)
  (hK : ∀ φ' x w', Step P w0 φ s w φ' s' w' → VR φ' v x → K (a.put so.dst x) w') : wpOpIn F n P ops Q i K a w := by
 obtain ⟨g1, g2, g3, _⟩ := J7 hcs; unfold wpOpIn; rw [ho]; simp only; rw [j2 (tm := tm) (φ := φ) (b := true) g1 (by rw [hg]; rfl) (by rw [hg]; intro t ht; simp [XX] at ht), if_pos rfl]
 rw [g2] at h ht; obtain ⟨op, hc1, hc2⟩ := XD h; rw [hc2] at h ht; rw [g3] at hK; exact Z3 hS hG hc1 h r hwf hf ht hF hK
theorem zvK (hm : P.follows .mixedOrders = true) (hS : SelfOk P w0 S) (hG : xV E.globs w0) (hc : YF P nt ops = some ds) (hp : Zk ds = some (t, d, e)) {φ0 : Phi} {w00 : World} {a0 : Act} {F : Fence} {Q : Exit → Act → World → Prop}
  (hon : s.only = none) (hz : ∀ i, i < s.next → s.wm.testBit i = false) (r : Rel P w0 φ0 s.get w00) (hwf : Wf s) (hfr : Fresh φ0 s s) (hsz : a0.tmps.size = nt) (hF : Wide F)
  (hQ : ∀ a' w1 v, a'.tmps.size = nt → a'.defers = a0.defers → (∀ i, i ≠ t → i ≠ d → a'.tmps.getD i undef = a0.tmps.getD i undef) → a'.tmps.getD d undef = .bool v → Below w00.heap.size w00 w1 → Q .normal a' w1) :
  (Code.region id ops true).wpIn F n P Q a0 w00 := by
 obtain ⟨htd, hds⟩ := GQ hp; obtain ⟨c1, _, c3, c4⟩ := Zg hc; have hlen : ops.size = 4 := by rw [← c1, hds]; rfl
 have ht : t < nt := c3 0 _ t (by rw [hds]; rfl) rfl
 have hd : d < nt := c3 3 _ d (by rw [hds]; rfl) rfl
 have hdone : ∀ {D φ s1 w a}, D 0 → D 3 → BInv P w0 φ0 s w00 nt t d e a0 D φ s1 w a → Q .normal a w := fun {D φ s1 w a} h0 h3 inv => by
  obtain ⟨v, hv⟩ := inv.val h3; refine hQ a w v inv.size inv.df inv.other hv ⟨?_, ?_, ?_, inv.st.size, fun k hk => inv.st.frame k hk fun id o B ho _ _ => ?_⟩
  ·exact inv.st.rel.base.os.trans r.base.os.symm
  ·exact inv.st.rel.base.tape.trans r.base.tape.symm
  ·exact inv.st.rel.base.output.trans r.base.output.symm
  ·have hlt := hwf.lt id o (xW ho); rw [inv.wm id hlt]; exact hz id hlt
 have hready : ∀ {listed : Array Bool}, listed.size = ops.size → Region.ready .any ops listed = [] → ∀ i, i < ops.size → LD listed i := fun {listed} hsz hnil i => by
  induction i using Nat.strongRecOn with
  | _ i ih =>
   intro hi; by_cases hl : LD listed i
   ·exact hl
   ·exfalso
    obtain ⟨dd, hdd⟩ := vK (ds := ds) (i := i) (by rw [c1]; exact hi)
    obtain ⟨o, ho, _, _, hed, _⟩ := c4 i dd hdd; have : i ∈ Region.ready .any ops listed := mem_ready.2 ⟨by
     unfold LD at hl; rw [yE, zJ oM] at hl ⊢
     simpa using hl, o, ho, fun e he hb => ih e.on (hed e he hb) (by have := hed e he hb; omega)⟩
    rw [hnil] at this; simp at this
 have main : ∀ (fuel : Nat) (listed : Array Bool) (φ : Phi) (s1 : St) (w : World) (a : Act) (u : List Nat), listed.size = ops.size → u.length ≤ fuel → (∀ i, i < ops.size → ¬ LD listed i → i ∈ u) → Closed ds (LD listed) → BInv P w0 φ0 s w00 nt t d e a0 (LD listed) φ s1 w a → wpAnyIn F n P .any ops Q fuel listed a w := by
  intro fuel
  induction fuel with
  | zero =>
   intro listed φ s1 w a u hsz hu hin hcl inv; have hu0 : u = [] := yi oM; subst hu0; have hall : ∀ i, i < ops.size → LD listed i := fun i hi => by
    by_cases h : LD listed i
    ·exact h
    ·have := hin i hi h; simp at this
   refine ⟨?_, hdone (hall 0 oM) (hall 3 oM) inv⟩; rw [yO]; intro i hi; obtain ⟨_, _, _, _, _, h1, h2, _⟩ := zpz hc hcl hi; exact h1 (hall i h2)
  | succ fuel ih =>
   intro listed φ s1 w a u hsz hu hin hcl inv; refine ⟨fun hnil => hdone (hready hsz hnil 0 oM) (hready hsz hnil 3 oM) inv, fun i hi => ?_⟩; obtain ⟨di, o, hdi, ho, hcs, hnew, hlt, hdeps⟩ := zpz hc hcl hi; have hset := zvl (listed := listed) (i := i) oM; have hnext : ∀ φ' s' w' a', BInv P w0 φ0 s w00 nt t d e a0 (more (LD listed) i) φ' s' w' a' → wpAnyIn F n P .any ops Q fuel (listed.setIfInBounds i true) a' w' := fun φ' s' w' a' inv' => by
    refine ih _ φ' s' w' a' (u.erase i) (by simp [hsz]) ?_ ?_ ?_ (hset ▸ inv')
    ·rw [yR (hin i hlt hnew)]; omega
    ·intro j hj hn; rw [hset] at hn; have hji : j ≠ i := fun e => hn (.inr e); exact (yV hji).2 (hin j hj (fun h => hn (.inl h)))
    ·rw [hset]; refine ⟨fun k dk j hk hdk hb hj => ?_⟩; rcases hk with hk | rfl
     ·exact .inl (hcl.dep k dk j hk hdk hb hj)
     ·rw [hdi] at hdk; cases hdk; exact .inl (hdeps j hb hj)
   have hwf1 : Wf s1 := inv.st.ext.wf hwf; have hfr1 : Fresh φ s1 s1 := fun id hid => by
    have := inv.st.ext.next
    rw [inv.st.same id (.inr hid)]; exact hfr id oM
   have hsz1 : a.tmps.size = nt := inv.size; have htm : LD listed 0 → ∀ l, TmOn φ l (Trie.leaf.set t (.ptr s.next 0)) a := fun h0 l k _ v hv => by
    rw [Trie.get_set] at hv; by_cases ek : k = t
    ·rw [if_pos ek] at hv; cases hv; rw [ek]; exact (inv.cell h0).2.2
    ·rw [if_neg ek] at hv; simp [Trie.get] at hv
   have hi4 : i < 4 := oM; rw [hds] at hdi; have hdl : ds.length = 4 := by rw [hds]; rfl
   match i, hi4, hdi, ho, hnew, hnext, hdeps with
   | 0, _, hdi, ho, hnew, hnext, _ =>
    cases hdi; obtain rfl := inv.new hnew; refine Qs (E := E) (tm := .leaf) (v := .ptr s1.next 0) (s' := s1.alloc (.row e [.bool false] false false)) hS hG hF ho hcs rfl rfl inv.st.rel hwf1 hfr1 (fun k hk => by simp [IOp.opds, Opd.tmps] at hk) fun φ' x w' k1 k2 => hnext φ' (s1.alloc (.row e [.bool false] false false)) w' _ ?_
    have hp := fun i => HQ (a := a) (k := t) (i := i) (x := x) oM; refine ⟨Step.trans hwf inv.st k1, by simpa [Act.put] using hsz1, inv.df, fun i h1 h2 => ?_, fun h => absurd (.inr rfl) h, fun _ => ⟨rfl, ⟨false, zqe hon hwf1 _⟩, ?_⟩, fun id hid => inv.wm id hid, fun h => ?_⟩
    ·rw [hp i, if_neg h1]; exact inv.other i h1 h2
    ·rw [hp t, if_pos rfl]; exact k2
    ·rcases h with h | h
     ·exact absurd (hcl.dep 3 _ 0 h (by rw [hds]; rfl) (show yS 7 0 = true by decide) oM) hnew
     ·cases h
   | 1, _, hdi, ho, hnew, hnext, hdeps =>
    cases hdi; have h0 := hdeps 0 (show yS 1 0 = true by decide) oM
    obtain ⟨hn1, ⟨b, hg⟩, hv⟩ := inv.cell h0; have hev : ql E S (.st 1 (.t t) (.c (.bool true))) (Trie.leaf.set t (.ptr s.next 0)) s1 = some (qz, s1.put s.next (.row e [.bool true] false false)) := by
     rw [ux]; simp only [opv, K5, o2, Opd.ev, Trie.get_set_same, oSt, AV.cells, wZ, uQ, hg, xT, scal, vr, Qe]; rfl
    refine Qs (E := E) hS hG hF ho hcs rfl hev inv.st.rel hwf1 hfr1 (htm h0 _) fun φ' x w' k1 k2 => hnext φ' (s1.put s.next (.row e [.bool true] false false)) w' _ ?_
    refine ⟨Step.trans hwf inv.st k1, hsz1, inv.df, inv.other, fun h => absurd (.inl h0) h, fun _ => ⟨hn1, ⟨true, zzU hg⟩, ?_⟩, fun id hid => ?_, fun h => ?_⟩
    ·exact VR.mono (k1.sub hfr1) _ _ hv
    ·show (jW s1.wm s.next).testBit id = _
     rw [qf, inv.wm id hid, decide_eq_false oM, yW]
    ·rcases h with h | h
     ·exact inv.val h
     ·cases h
   | 2, _, hdi, ho, hnew, hnext, hdeps =>
    cases hdi; have h0 := hdeps 0 (show yS 1 0 = true by decide) oM
    obtain ⟨hn1, ⟨b, hg⟩, hv⟩ := inv.cell h0; have hev : ql E S (.st 1 (.t t) (.c (.bool false))) (Trie.leaf.set t (.ptr s.next 0)) s1 = some (qz, s1.put s.next (.row e [.bool false] false false)) := by
     rw [ux]; simp only [opv, K5, o2, Opd.ev, Trie.get_set_same, oSt, AV.cells, wZ, uQ, hg, xT, scal, vr, Qe]; rfl
    refine Qs (E := E) hS hG hF ho hcs rfl hev inv.st.rel hwf1 hfr1 (htm h0 _) fun φ' x w' k1 k2 => hnext φ' (s1.put s.next (.row e [.bool false] false false)) w' _ ?_
    refine ⟨Step.trans hwf inv.st k1, hsz1, inv.df, inv.other, fun h => absurd (.inl h0) h, fun _ => ⟨hn1, ⟨false, zzU hg⟩, ?_⟩, fun id hid => ?_, fun h => ?_⟩
    ·exact VR.mono (k1.sub hfr1) _ _ hv
    ·show (jW s1.wm s.next).testBit id = _
     rw [qf, inv.wm id hid, decide_eq_false oM, yW]
    ·rcases h with h | h
     ·exact inv.val h
     ·cases h
   | 3, _, hdi, ho, hnew, hnext, hdeps =>
    cases hdi; have h0 := hdeps 0 (show yS 7 0 = true by decide) oM
    obtain ⟨hn1, ⟨b, hg⟩, hv⟩ := inv.cell h0; have hev : ql E S (.ld (.t t)) (Trie.leaf.set t (.ptr s.next 0)) s1 = some (.bool b, s1) := by
     rw [ux]; simp only [opv, PS, v1, Opd.ev, Trie.get_set_same, vLd, vH, hg, cut, wP, wC, hY, ko]
    refine Qs (E := E) hS hG hF ho hcs rfl hev inv.st.rel hwf1 hfr1 (htm h0 _) fun φ' x w' k1 k2 => hnext φ' s1 w' _ ?_; have hp := fun i => HQ (a := a) (k := d) (i := i) (x := x) oM; refine ⟨Step.trans hwf inv.st k1, by simpa [Act.put] using hsz1, inv.df, fun i h1 h2 => ?_, fun h => absurd (.inl h0) h, fun _ => ⟨hn1, ⟨b, hg⟩, ?_⟩, inv.wm, fun _ => ⟨b, ?_⟩⟩
    ·rw [hp i, if_neg h2]; exact inv.other i h1 h2
    ·rw [hp t, if_neg htd]; exact VR.mono (k1.sub hfr1) _ _ hv
    ·rw [hp d, if_pos rfl]; simpa [VR] using k2
 have hno : ∀ i, ¬ LD (yH ops.size false) i := fun i h => by
  unfold LD at h; rw [yE, yQ] at h; split at h <;> simp at h
 refine wpIn_region_any hm (main ops.size _ φ0 s _ a0 (List.range ops.size) (by simp) (by simp) (fun i hi _ => by simpa using hi) ⟨fun i _ _ h => absurd h (hno i)⟩ ?_)
 have st0 : Step P w0 φ0 s w00 φ0 s { w00 with drawn := w00.drawn + 1 } := Step.drawn (w' := w00) (Step.refl r) rfl rfl rfl rfl
 exact ⟨st0, hsz, rfl, fun _ _ _ => rfl, fun _ => rfl, fun h => absurd h (hno 0), fun _ _ => rfl, fun h => absurd h (hno 3)⟩
end
theorem Kz (hm : P.follows .mixedOrders = true) (hG : xV E.globs w0) (S : Self) (hS : SelfOk P w0 S) : DrawOk P w0 E S := by
 refine ⟨?_, fun hc hp hon hz r hwf hf hsz hF hQ => zvK hm hS hG hc hp hon hz r hwf hf hsz hF hQ⟩; intro id nt ops ds tm tm' s s' φ w a F n Q hc hon he r hwf hf ht hsz hF hQ; obtain ⟨R, t1, t2, t3, t4, t5⟩ := znU he; have ok : R.Ok := ⟨t1, by rw [t3]; exact hon, by rw [t3]; exact hwf⟩
 obtain ⟨c1, c2, c3, c4⟩ := Zg hc; have hno : ∀ i, ¬ LD (yH ops.size false) i := fun i h => by
  unfold LD at h; rw [yE, yQ] at h; split at h <;> simp at h
 have hcur : ∀ {id o}, R.cur (LD (yH ops.size false)) id o → s.get id = some o := fun {id o} h => by
  obtain ⟨h0, m, hm, h1, _, h3⟩ := h; have hk := R.keepN hS.ext ok (id := id) (i := 0) (j := m) (zL _) hm (fun k _ hk hw => hno k (h1 k hk hw)); rw [h3, t3] at hk; have hlt := hwf.lt id o hk.symm; rw [t3] at h0; rw [uM, h0 hlt]; exact hk.symm
 have hcurA : ∀ {id o m}, R.curA (LD (yH ops.size false)) id o m → s.get id = some o := fun {id o m} h => hcur (R.cur_of_A h); have hfin : ∀ φ' w' a', Inv R P w0 φ w nt a (fun i => i < ds.length) φ' w' a' → Q .normal a' w' := fun φ' w' a' inv => by
  have hcf : ∀ {id o}, s'.get id = some o → R.cur (fun i => i < ds.length) id o := fun {id o} h => by
   obtain ⟨f1, f2, f3, _⟩ := R.facts hS.ext ok ds.length (zp _); refine ⟨fun _ => ?_, ds.length, zp _, fun j hj _ => hj, fun j h1 h2 _ _ => oM, by rw [t5]; exact xW h⟩
   rw [← qG f3 (f1.trans ok.only.symm), t5]; exact wX h
  have hext := (R.facts hS.ext ok ds.length (zp _)).2.2.2.2; rw [t3, t5] at hext; have hcfA : ∀ {id o}, s'.get id = some o → R.curA (fun i => i < ds.length) id o ds.length := fun {id o} h => by
   obtain ⟨h0, m, hm, h1, h2, h3⟩ := hcf h; exact ⟨h0, zp _, fun j hj _ => hj, fun j h1 h2 _ _ => oM, by rw [t5]; exact xW h⟩
  refine hQ φ' a' w' ⟨hext, ⟨inv.base, fun id o h => (let ⟨B, hB, ht⟩ := inv.obj id o ds.length (hcfA h); ⟨B, hB, ht.keep (Phi.cut_sub φ' _) rfl⟩), inv.rng, fun id o B h => inv.old id o B (hcf h), fun id id' o o' B B' h h' => inv.inj id id' o o' B B' (hcf h) (hcf h'), inv.frz, fun id o B h => inv.sep id o B (hcf h)⟩, ?_, inv.grow, ?_, ?_, inv.zsub, ?_⟩ ⟨?_, inv.size, inv.df⟩
  ·have := inv.out; rw [t3, t5] at this; exact this
  ·have := inv.frame; rw [t3, t5] at this; exact this
  ·have := inv.own; rw [t3, t5] at this; exact this
  ·have := inv.zown; rw [t3, t5] at this; exact this
  ·intro k v hv; exact VR.mono (Phi.cut_sub φ' _) _ _ (inv.tmp k v ds.length (zp _) (fun j hj _ => hj) (fun j h1 h2 _ _ => oM) (by rw [t4]; exact hv))
 refine wpIn_region_any hm (zv2 hS hG hc ok hF hfin ops.size _ φ _ a (List.range ops.size) (by simp) (by simp) (fun i hi _ => by simpa using hi) ⟨fun i _ _ h => absurd h (hno i)⟩ ?_)
 have r' : Rel P w0 φ s.get { w with drawn := w.drawn + 1 } := Rel.congr (w := w) rfl rfl rfl rfl r
 have htight : ∀ m, m ≤ ds.length → Sub φ (φ.cut (R.W m).next) := fun m hm => (Sub.refl φ).to_cut fun id hid => hf id (by
  have := R.next_le hS.ext ok (i := 0) (j := m) (zL _) hm; rw [t3] at this; omega)
 refine ⟨r'.base, fun id o m h => (let ⟨B, hB, ht⟩ := r'.obj id o (hcurA h); ⟨B, hB, ht.keep (htight m h.2.1) rfl⟩), r'.rng, fun id o B h => r'.old id o B (hcur h), fun id id' o o' B B' h h' => r'.inj id id' o o' B B' (hcur h) (hcur h'), fun _ _ => rfl, fun i hi _ id h1 h2 => ?_, fun k v m hmN h1 _ hv => ?_, hsz, rfl, zp _, fun id B h1 h2 hB => ?_, fun b _ _ => rfl, r'.frz, fun id o B h => r'.sep id o B (hcur h), fun _ _ _ h => h, fun _ _ _ h => .inl h⟩
 ·refine hf id ?_; have := R.next_le hS.ext ok (i := 0) (j := i) (zL _) (yG hi); rw [t3] at this; omega
 ·have key : ∀ q, q ≤ m → (R.T q).get k = (R.T 0).get k := by
   intro q
   induction q with
   | zero => intro _; rfl
   | succ q ih =>
    intro hq; obtain ⟨dq, hdq⟩ := vK (ds := ds) (i := q) oM; rw [R.T_other hdq (fun e => hno q (h1 q oM ⟨dq, hdq, e⟩))]; exact ih oM
  rw [key m (zp _), t2] at hv; exact VR.mono (htight m hmN) _ _ (ht k v hv)
 ·rw [t3] at h1; rw [hf id h1] at hB; cases hB
def TOk (Q : Nat → IFunc → Prop) : Nat → Nat → Trie IFunc → Prop
 | _, _, .leaf => True
 | a, b, .node v l r => (match v with | some F => Q b F | none => True) ∧ TOk Q (2 * a) (a + b) l ∧ TOk Q (2 * a) (2 * a + b) r
theorem TOk.get {Q : Nat → IFunc → Prop} : ∀ {t : Trie IFunc} {a b n : Nat} {F : IFunc}, TOk Q a b t → t.get n = some F → Q (a * n + b) F
 | .leaf, _, _, _, _, _, h => by simp [Trie.get] at h
 | .node v l r, a, b, n, F, ⟨h1, h2, h3⟩, h => by
  match n with
  | 0 =>
   simp only [Trie.get] at h; subst h
   simpa using h1
  | m + 1 =>
   simp only [Trie.get] at h; by_cases e : (m + 1) % 2 = 1
   ·have e1 : za (Nat.mod (m + 1) 2) 1 = true := by show za ((m + 1) % 2) 1 = true; rw [e]; rfl
    rw [e1] at h; have := h2.get (n := (m + 1) / 2) h; have e2 : 2 * a * ((m + 1) / 2) + (a + b) = a * (m + 1) + b := by
     have : m + 1 = 2 * ((m + 1) / 2) + 1 := oM; generalize (m + 1) / 2 = k at this ⊢; rw [this, Nat.mul_add, Nat.mul_one, z9 2 a, Nat.mul_assoc, Nat.add_assoc]
    rw [e2] at this; exact this
   ·have e1 : za (Nat.mod (m + 1) 2) 1 = false := by
     show za ((m + 1) % 2) 1 = false; have : (m + 1) % 2 = 0 := oM; rw [this]; rfl
    rw [e1] at h; have := h3.get (n := zu ((m + 1) / 2)) h; have e2 : 2 * a * (zu ((m + 1) / 2)) + (2 * a + b) = a * (m + 1) + b := by
     have : m + 1 = 2 * (zu ((m + 1) / 2)) + 2 := by simp only [Nat.pred_eq_sub_one]; omega
     generalize zu ((m + 1) / 2) = k at this ⊢; rw [this, Nat.mul_add, z9 2 a, Nat.mul_assoc, ← Nat.add_assoc]
    rw [e2] at this; exact this
def Q (P : Program) (k : Nat) (F : IFunc) : Prop := ∃ fn, P.funcs[k]? = some fn ∧ zzx P fn = some F
theorem envOk_of {P : Program} {E : Env} (h : TOk (Q P) 1 0 E.funs) : gm P E := fun f F hf => by
 have := h.get hf; rw [Nat.one_mul, Nat.add_zero] at this; exact this
abbrev Orc := Nat → Option (List AV → St → Option (AV × St))
variable {O : Orc}
def Qv (O : Orc) : Prop := ∀ f g, O f = some g → ∀ args s v s', g args s = some (v, s') → Ext s s'
noncomputable def l8 (E : Env) (O : Orc) (S : Self) (f : Nat) (args : List AV) (s : St) : Option (AV × St) :=
 match O f with
 | some g => g args s
 | none => jj E S f args s
noncomputable def evT (E : Env) (O : Orc) : Nat → Self
 | 0 => ⟨fun _ _ _ => none, fun _ _ _ _ => none, fun _ _ _ => none⟩
 | n + 1 => ⟨fun f args s => l8 E O (evT E O n) f args s, fun rd b fr s => evC E (evT E O n) rd (.loop b) fr s, fun l args s => uN E (evT E O n) l args s⟩
theorem XF {f : Nat} {args : List AV} (h : l8 E O S f args s = some (v, s')) :
  (∃ g, O f = some g ∧ g args s = some (v, s')) ∨ (O f = none ∧ jj E S f args s = some (v, s')) := by
 unfold l8 at h; split at h
 ·rename_i g hg; exact .inl ⟨g, hg, h⟩
 ·rename_i hg; exact .inr ⟨hg, h⟩
theorem jR (E : Env) {O : Orc} (hx : Qv O) : ∀ n, Mono (evT E O n)
 | 0 => ⟨fun _ _ _ _ _ h => by simp [evT] at h, fun _ _ _ _ _ _ _ h => by simp [evT] at h, fun _ _ _ _ _ h => by simp [evT] at h⟩
 | n + 1 => ⟨fun f args s v s' h => by
   rcases XF h with ⟨g, hg, h⟩ | ⟨_, h⟩
   ·exact (hx f g hg _ _ _ _ h).next
   ·exact LE (jR E hx n) h,
  fun _ _ _ _ _ _ _ h => qM (jR E hx n) h, fun _ _ _ _ _ h => HU (jR E hx n) h⟩
theorem gA (E : Env) {O : Orc} (hx : Qv O) : ∀ n, ExtS (evT E O n)
 | 0 => ⟨fun _ _ _ _ _ h => by simp [evT] at h, fun _ _ _ _ _ _ _ h => by simp [evT] at h, fun _ _ _ _ _ h => by simp [evT] at h⟩
 | n + 1 => ⟨fun f args s v s' h => by
   rcases XF h with ⟨g, hg, h⟩ | ⟨_, h⟩
   ·exact hx f g hg _ _ _ _ h
   ·exact zyR (gA E hx n) h,
  fun _ _ _ _ _ _ _ h => uq (gA E hx n) h, fun _ _ _ _ _ h => P4 (gA E hx n) h⟩
def SC (P : Program) (w0 : World) (f : Nat) (args : List AV) (s : St) (v : AV) (s' : St) : Prop :=
 (∃ fn, P.funcs[f]? = some fn ∧ fn.body.isSome = true ∧ (fn.name == "runtime.NumGoroutine") = false) ∧
 ∀ (φ : Phi) (w : World) (xs : List Value), Rel P w0 φ s.get w → Wf s → Fresh φ s s' → VRL φ args xs → ∀ F n, Wide F → CallsIn F n P f xs.toArray w (Qw P w0 φ s w v s')
def gX (P : Program) (w0 : World) (f : Nat) (g : List AV → St → Option (AV × St)) : Prop :=
 ∀ args s v s', g args s = some (v, s') → SC P w0 f args s v s'
theorem Vk {P : Program} {w0 : World} {E : Env} {O : Orc} (hx : Qv O) (hm : P.follows .mixedOrders = true) (hG : xV E.globs w0) (hE : gm P E) (hO : ∀ f g, O f = some g → gX P w0 f g) : ∀ n, SelfOk P w0 (evT E O n)
 | 0 => ⟨jR E hx 0, gA E hx 0, fun h => by simp [evT] at h, fun h => by simp [evT] at h, fun h => by simp [evT] at h⟩
 | n + 1 =>
  have ih := Vk hx hm hG hE hO n; have hD : DrawOk P w0 E (evT E O n) := Kz hm hG _ ih
  ⟨jR E hx (n + 1), gA E hx (n + 1), fun {f args s v s'} h => by
   rcases XF h with ⟨g, hg, hv⟩ | ⟨_, h⟩
   ·obtain ⟨h1, h2⟩ := hO f g hg args s v s' hv; exact ⟨h1, fun {φ w xs} r hwf hf hx F k hF => h2 φ w xs r hwf hf hx F k hF⟩
   ·exact Wl ih hG hE hD h,
  fun h _ _ _ _ r hwf hf ha hB => K8 ih hG hD h r hwf hf ha hB, fun h _ _ _ _ _ hb r hwf hf hfr F k hF hrd => PB ih hG hD h hb r hwf hf hfr F k hF hrd⟩
def eqN : List Nat → List Nat → Bool
 | [], [] => true
 | a :: x, b :: y => za a b && eqN x y
 | _, _ => false
theorem zue : ∀ {a b : List Nat}, eqN a b = true → a = b
 | [], [], _ => rfl
 | [], _ :: _, h => by simp [eqN] at h
 | _ :: _, [], h => by simp [eqN] at h
 | a :: x, b :: y, h => by
  simp only [eqN, zl, xG] at h; rw [h.1, zue h.2]
mutual
def eqA : AV → AV → Bool
 | .bool a, .bool b => a == b
 | .int k n, .int k' m => vX k k' && eqI n m
 | .str a, .str b => eqN a b
 | .nils, .nils => true
 | .nilp, .nilp => true
 | .agg a, .agg b => GV a b
 | .tup a, .tup b => GV a b
 | .lst n e a, .lst m f b => za n m && (e == f) && GV a b
 | _, _ => false
def GV : List AV → List AV → Bool
 | [], [] => true
 | a :: x, b :: y => eqA a b && GV x y
 | _, _ => false
end
mutual
theorem zud : ∀ {a b : AV}, eqA a b = true → a = b
 | .bool a, b, h => by cases b <;> simp [eqA] at h; rw [h]
 | .int k n, b, h => by
  cases b <;> simp only [eqA, zl, hZ, kK, decide_eq_true_eq, beq_iff_eq] at h <;> first | (cases h; done) | skip
  rw [h.1, h.2]
 | .str a, b, h => by
  cases b <;> simp only [eqA] at h <;> first | (cases h; done) | skip
  rw [zue h]
 | .nils, b, h => by cases b <;> simp [eqA] at h; rfl
 | .nilp, b, h => by cases b <;> simp [eqA] at h; rfl
 | .agg a, b, h => by
  cases b <;> simp only [eqA] at h <;> first | (cases h; done) | skip
  rw [Ql h]
 | .lst n e a, b, h => by
  cases b <;> simp only [eqA, zl, xG, beq_iff_eq] at h <;> first | (cases h; done) | skip
  rw [h.1.1, h.1.2, Ql h.2]
 | .ptr _ _, b, h => by cases b <;> simp [eqA] at h
 | .gptr _ _, b, h => by cases b <;> simp [eqA] at h
 | .sl _ _ _ _, b, h => by cases b <;> simp [eqA] at h
 | .sl0, b, h => by cases b <;> simp [eqA] at h
 | .map _, b, h => by cases b <;> simp [eqA] at h
 | .nilm, b, h => by cases b <;> simp [eqA] at h
 | .fn _ _ _, b, h => by cases b <;> simp [eqA] at h
 | .nilf, b, h => by cases b <;> simp [eqA] at h
 | .yld _, b, h => by cases b <;> simp [eqA] at h
 | .ifc _ _, b, h => by cases b <;> simp [eqA] at h
 | .nili, b, h => by cases b <;> simp [eqA] at h
 | .tup a, b, h => by
  cases b <;> simp only [eqA] at h <;> first | (cases h; done) | skip
  rw [Ql h]
 | .gr _ _ _ _, b, h => by cases b <;> simp [eqA] at h
 | .vp _, b, h => by cases b <;> simp [eqA] at h
theorem Ql : ∀ {a b : List AV}, GV a b = true → a = b
 | [], [], _ => rfl
 | [], _ :: _, h => by simp [GV] at h
 | _ :: _, [], h => by simp [GV] at h
 | a :: x, b :: y, h => by
  simp only [GV, zl] at h; rw [zud h.1, Ql h.2]
end
def s00 (m : Nat) (b : Bool) : St := { objs := .leaf, next := 0, wm := m, hide := [], only := none, md := b }
theorem Zv (m : Nat) (b : Bool) (id : Nat) : (s00 m b).get id = none := by
 cases h : (s00 m b).get id with
 | none => rfl
 | some o => have := xW h; simp [s00, Trie.get] at this
theorem SC.up {f : Nat} {args : List AV} {b : Bool} {s1 : St} (h : SC P w0 f args (s00 0 b) v s1) (hp1 : xK args = true) (hp2 : x0 v = true) (s : St) : SC P w0 f args s v s := by
 refine ⟨h.1, fun φ w xs r hwf hf hx F k hF => ?_⟩; have r0 : Rel P w0 ⟨fun _ => none, φ.z⟩ (s00 0 b).get w := by
  refine ⟨r.base, fun id o h => ?_, (fun id B h => by cases h), (fun id _ _ _ h => by cases h), fun id _ _ _ _ _ h => ?_, r.frz, fun _ _ _ _ h => by cases h⟩
  ·rw [Zv] at h; cases h
  ·rw [Zv] at h; cases h
 have hcall := h.2 _ w xs r0 ⟨(fun id o h => by simp [s00, Trie.get] at h), fun p hp => by simp [s00] at hp⟩ (fun _ _ => rfl) (VRL.pure (φ := φ) (φ' := ⟨fun _ => none, φ.z⟩) (fun _ _ _ h => h) _ _ hp1 hx) F k hF
 refine CallsIn.mono hcall ?_
 rintro e w1 ⟨φ1, x, rfl, k1, k2⟩
 have hold : ∀ b, b < w.heap.size → w1.heap[b]? = w.heap[b]? := fun b hb => k1.frame b hb fun id o B ho => by rw [Zv] at ho; cases ho
 have hz : ∀ b i u, φ1.z b i = some u → φ.z b i = some u ∨ w.heap.size ≤ b := fun b i u hu => by
  rcases k1.zown b i u hu with h1 | h1 | ⟨id0, o0, B0, q1, _⟩
  ·exact .inl h1
  ·exact .inr h1
  ·rw [Zv] at q1; cases q1
 refine ⟨φ.zset φ1.z, x, rfl, ⟨Ext.refl _, ⟨k1.rel.base, fun id o ho => ?_, fun id B hB => ?_, r.old, r.inj, k1.rel.frz, fun id o B ho hB => ?_⟩, fun _ _ => rfl, k1.size, fun b hlt _ => hold b hlt, (fun id _ h1 h2 => absurd h2 oM), k1.zsub, fun b i u hu => ?_⟩, VR.pure (φ := φ1) (φ' := φ.zset φ1.z) (fun _ _ _ h => h) _ _ hp2 k2⟩
 ·obtain ⟨B, hB, t⟩ := r.obj id o ho; exact ⟨B, hB, t.keep (φ := φ) (φ' := φ.zset φ1.z) ⟨fun _ _ h => h, k1.zsub⟩ (hold _ (r.rng id B hB))⟩
 ·have hB' : φ id = some B := hB; have h1 := r.rng id B hB'; have h2 := k1.size; omega
 ·refine (r.sep id o B ho hB).congr fun i => ?_; have hB' : φ id = some B := hB; show φ1.z B.b i = φ.z B.b i; cases h1 : φ1.z B.b i with
  | none =>
   cases h2 : φ.z B.b i with
   | none => rfl
   | some u => have := k1.zsub B.b i u h2; rw [h1] at this; cases this
  | some u =>
   rcases hz _ _ _ h1 with h2 | h2
   ·exact h2.symm
   ·have := r.rng id B hB'; omega
 ·rcases hz b i u hu with h1 | h1
  ·exact .inl h1
  ·exact .inr (.inl h1)
structure LeS (S S' : Self) : Prop where
 call : ∀ f a s r, S.call f a s = some r → S'.call f a s = some r
 loop : ∀ rd b fr s r, S.loop rd b fr s = some r → S'.loop rd b fr s = some r
 round : ∀ l a s r, S.round l a s = some r → S'.round l a s = some r
structure LimS (T : Nat → Self) (L : Self) : Prop where
 call : ∀ f a s r, L.call f a s = some r → ∃ n, (T n).call f a s = some r
 loop : ∀ rd b fr s r, L.loop rd b fr s = some r → ∃ n, (T n).loop rd b fr s = some r
 round : ∀ l a s r, L.round l a s = some r → ∃ n, (T n).round l a s = some r
theorem LeS.refl (S : Self) : LeS S S := ⟨fun _ _ _ _ h => h, fun _ _ _ _ _ h => h, fun _ _ _ _ h => h⟩
theorem LeS.trans {S' S'' : Self} (h : LeS S S') (h' : LeS S' S'') : LeS S S'' :=
 ⟨fun _ _ _ _ t => h'.call _ _ _ _ (h.call _ _ _ _ t), fun _ _ _ _ _ t => h'.loop _ _ _ _ _ (h.loop _ _ _ _ _ t), fun _ _ _ _ t => h'.round _ _ _ _ (h.round _ _ _ _ t)⟩
theorem LeS.chain {T : Nat → Self} (h : ∀ n, LeS (T n) (T (n + 1))) : ∀ {n m : Nat}, n ≤ m → LeS (T n) (T m)
 | n, 0, hle => by (have : n = 0 := by omega); subst this; exact LeS.refl _
 | n, m + 1, hle => by
  by_cases e : n = m + 1
  ·subst e; exact LeS.refl _
  ·exact (LeS.chain h (n := n) (m := m) oM).trans (h m)
structure Ct {α : Type} (X : Self → Option α) : Prop where
 up : ∀ S S', LeS S S' → ∀ r, X S = some r → X S' = some r
 fin : ∀ (T : Nat → Self) (L : Self), (∀ n, LeS (T n) (T (n + 1))) → LimS T L → ∀ r, X L = some r → ∃ n, X (T n) = some r
theorem Ct.const {α : Type} (x : Option α) : Ct fun _ => x := ⟨fun _ _ _ _ h => h, fun _ _ _ _ _ h => ⟨0, h⟩⟩
theorem Ct.call (f : Nat) (a : List AV) (s : St) : Ct fun S => S.call f a s := ⟨fun _ _ h _ t => h.call _ _ _ _ t, fun _ _ _ h _ t => h.call _ _ _ _ t⟩
theorem Ct.loop (rd : Option Nat) (b : ICode) (fr : Fr) (s : St) : Ct fun S => S.loop rd b fr s := ⟨fun _ _ h _ t => h.loop _ _ _ _ _ t, fun _ _ _ h _ t => h.loop _ _ _ _ _ t⟩
theorem Ct.round (l : Nat) (a : List AV) (s : St) : Ct fun S => S.round l a s := ⟨fun _ _ h _ t => h.round _ _ _ _ t, fun _ _ _ h _ t => h.round _ _ _ _ t⟩
theorem Ct.bind {α β : Type} {X : Self → Option α} {k : Self → Option α → Option β} (hX : Ct X) (h0 : ∀ S, k S none = none) (hk : ∀ x, Ct fun S => k S (some x)) : Ct fun S => k S (X S) where
 up := fun S S' hS r h => by
  cases hx : X S with
  | none => rw [hx, h0] at h; cases h
  | some x => rw [hx] at h; rw [hX.up S S' hS x hx]; exact (hk x).up S S' hS r h
 fin := fun T L hT hL r h => by
  cases hx : X L with
  | none => rw [hx, h0] at h; cases h
  | some x =>
   rw [hx] at h; obtain ⟨n, hn⟩ := hX.fin T L hT hL x hx; obtain ⟨m, hm⟩ := (hk x).fin T L hT hL r h; refine ⟨n + m, ?_⟩; rw [hX.up _ _ (LeS.chain hT oM) x hn]; exact (hk x).up _ _ (LeS.chain hT oM) r hm
theorem Ct.map {α β : Type} {X : Self → Option α} (g : Option α → Option β) (hX : Ct X) (h0 : g none = none) : Ct fun S => g (X S) :=
 Ct.bind (k := fun _ x => g x) hX (fun _ => h0) fun x => Ct.const (g (some x))
theorem zzI (E : Env) (op : IOp) (tm : Trie AV) (s : St) : Ct fun S => ql E S op tm s := by
 cases op
 case call f args =>
  show Ct fun S => GX S f (evL tm args) s; cases evL tm args with
  | none => exact Ct.const none
  | some vs => exact Ct.call f vs s
 case cv x args =>
  show Ct fun S => Uv S (x.ev tm) (evL tm args) s; cases evL tm args with
  | none => exact Ct.const none
  | some vs =>
   cases x.ev tm with
   | none => exact Ct.const none
   | some u =>
    cases u
    case fn f a c => exact Ct.call f (a ++ vs ++ c) s
    case yld l => exact Ct.round l vs s
    all_goals exact Ct.const none
 all_goals exact Ct.const _
theorem zvZ (E : Env) (o : SOper) (tm : Trie AV) (s : St) : Ct fun S => gg E S o tm s := by
 unfold gg; cases kg o.guard tm with
 | none => exact Ct.const none
 | some b =>
  cases b with
  | true => exact (zzI E o.op tm s).map (stS tm o.dst) rfl
  | false => exact Ct.const _
theorem zvX (E : Env) : ∀ (l : List SOper) (tm : Trie AV) (s : St), Ct fun S => evS E S l tm s
 | [], _, _ => Ct.const _
 | o :: r, tm, s => Ct.bind (k := fun S x => match x with | some p => evS E S r p.1 p.2 | none => none) (zvZ E o tm s) (fun _ => rfl) fun p => zvX E r p.1 p.2
theorem zvY (E : Env) (o : DOper) (i : Nat) (log : List LogE) (tm : Trie AV) (s : St) : Ct fun S => ge E S o i log tm s := by
 unfold ge; cases kg o.o.guard tm with
 | none => exact Ct.const none
 | some b =>
  cases b with
  | true => exact (zzI E o.o.op tm _).map (WZ o i log tm s) rfl
  | false => exact Ct.const _
theorem zvW (E : Env) : ∀ (l : List DOper) (i : Nat) (log : List LogE) (tm : Trie AV) (s : St), Ct fun S => evD E S l i log tm s
 | [], _, _, _, _ => Ct.const _
 | o :: r, i, log, tm, s => Ct.bind (k := fun S x => match x with | some p => evD E S r (Nat.succ i) p.1 p.2.1 p.2.2 | none => none) (zvY E o i log tm s) (fun _ => rfl) fun p => zvW E r _ _ _ _
theorem GK {X : Self → Option (Res × Fr × St)} {k : Self → Fr → St → Option (Res × Fr × St)} (hX : Ct X) (hk : ∀ fr s, Ct fun S => k S fr s) : Ct fun S => vS (k S) (X S) :=
 Ct.bind (k := fun S x => vS (k S) x) hX (fun _ => rfl) fun p => by
  obtain ⟨r, fr, s⟩ := p; cases r with
  | norm => exact hk fr s
  | exit i => exact Ct.const _
  | ret => exact Ct.const _
theorem jm (E : Env) (rd : Option Nat) : ∀ (c : ICode) (fr : Fr) (s : St), Ct fun S => evC E S rd c fr s
 | .skip, _, _ => Ct.const _
 | .reg ops, fr, s => (zvX E ops fr.tm s).map (vP fr.df) rfl
 | .regd ops, fr, s => by
  show Ct fun S => Xl E S ops fr s; unfold Xl; cases s.only with
  | none => exact (zvW E ops 0 [] fr.tm s).map (vP fr.df) rfl
  | some _ => exact Ct.const none
 | .seq a b, fr, s => GK (jm E rd a fr s) (jm E rd b)
 | .cond c a b, fr, s => by
  show Ct fun S => ZH (c.ev fr.tm) (evC E S rd a) (evC E S rd b) fr s; cases c.ev fr.tm with
  | none => exact Ct.const none
  | some v =>
   cases v
   case bool x => cases x with
    | true => exact jm E rd a fr s
    | false => exact jm E rd b fr s
   all_goals exact Ct.const none
 | .block id b, fr, s => (jm E rd b fr s).map (jt id) rfl
 | .loop b, fr, s => GK (jm E rd b fr s) (fun fr s => Ct.loop rd b fr s)
 | .exit _, _, _ => Ct.const _
 | .ret, _, _ => Ct.const _
 | .rf g ps asg body, fr, s => by
  show Ct fun S => rfR S rd (g.ev fr.tm) ps asg body fr s; unfold rfR; cases rd with
  | some _ => exact Ct.const none
  | none =>
   simp only; cases g.ev fr.tm with
   | none => exact Ct.const none
   | some v =>
    cases v
    case fn f a c => exact (Ct.call f _ _).map (gI fr (Nat.succ s.next) s.next) rfl
    all_goals exact Ct.const none
 | .stk, _, _ => Ct.const _
 | .both t d a b, fr, s => by
  show Ct fun S => ZE (t :: d :: (uo a ++ uo b)) fr s (evC E S rd a { tm := (fr.tm.del t).set d (.bool true), df := fr.df } { s with wm := 0 }) (evC E S rd b { tm := (fr.tm.del t).set d (.bool false), df := fr.df } { s with wm := 0 })
  refine Ct.bind (k := fun S x => ZE (t :: d :: (uo a ++ uo b)) fr s x (evC E S rd b { tm := (fr.tm.del t).set d (.bool false), df := fr.df } { s with wm := 0 })) (jm E rd a { tm := (fr.tm.del t).set d (.bool true), df := fr.df } { s with wm := 0 }) (fun S => ?_) fun p => ?_
  ·unfold ZE; split <;> rfl
  ·refine (jm E rd b { tm := (fr.tm.del t).set d (.bool false), df := fr.df } { s with wm := 0 }).map (ZE (t :: d :: (uo a ++ uo b)) fr s (some p)) ?_
   unfold ZE; split <;> simp only
   split <;> rfl
theorem GJ (E : Env) (F : IFunc) (args : List AV) (s : St) : Ct fun S => pl E S F args s :=
 (jm E none F.body _ s).map (wR E.globs F.res) rfl
theorem zvV (E : Env) (f : Nat) (args : List AV) (s : St) : Ct fun S => jj E S f args s := by
 unfold jj; cases E.funs.get f with
 | none => exact Ct.const none
 | some F =>
  simp only; cases ze (wZ args) F.ntmps with
  | false => exact Ct.const none
  | true =>
   simp only [cond_true]; cases E.pure f with
   | true => exact (GJ E F args _).map (lQ s) rfl
   | false => exact (GJ E F args _).map (mdR s.md) rfl
theorem QX (E : Env) (O : Orc) (f : Nat) (args : List AV) (s : St) : Ct fun S => l8 E O S f args s := by
 unfold l8; cases O f with
 | none => exact zvV E f args s
 | some g => exact Ct.const _
theorem XJ (E : Env) (l : Nat) (args : List AV) (s : St) : Ct fun S => uN E S l args s := by
 unfold uN; cases s.get l with
 | none => exact Ct.const none
 | some o =>
  cases o
  case loop st pend tm ps asg body d =>
   simp only; cases lj tm ps args with
   | none => exact Ct.const none
   | some tm1 =>
    simp only; refine Ct.bind (k := fun S x => vg E S l body x) (jm E (some l) asg _ s) (fun _ => rfl) fun p => ?_; unfold vg; obtain ⟨r, fr, s1⟩ := p; cases r with
    | exit i => exact Ct.const none
    | ret => exact Ct.const none
    | norm =>
     simp only; cases s1.get l with
     | none => exact Ct.const none
     | some o =>
      cases o
      case loop st pend tm ps asg body d =>
       cases st with
       | ready => exact (jm E (some l) _ fr _).map (uc l) rfl
       | busy => exact Ct.const none
       | done => exact Ct.const none
       | exhausted => exact Ct.const none
      all_goals exact Ct.const none
  all_goals exact Ct.const none
theorem uL (E : Env) (O : Orc) : ∀ n, LeS (evT E O n) (evT E O (n + 1))
 | 0 => ⟨fun _ _ _ _ h => by simp [evT] at h, fun _ _ _ _ _ h => by simp [evT] at h, fun _ _ _ _ h => by simp [evT] at h⟩
 | n + 1 =>
  have ih := uL E O n
  ⟨fun f a s r h => (QX E O f a s).up _ _ ih r h, fun rd b fr s r h => (jm E rd (.loop b) fr s).up _ _ ih r h, fun l a s r h => (XJ E l a s).up _ _ ih r h⟩
noncomputable section
open Classical in
def PA {α : Type} (X : Nat → Option α) : Option α := if h : ∃ r n, X n = some r then some (Classical.choose h) else none
theorem vo {α : Type} {X : Nat → Option α} {r : α} (h : PA X = some r) : ∃ n, X n = some r := by
 unfold PA at h; split at h
 ·rename_i hx
  cases h; exact yT hx
 ·cases h
theorem uZ {α : Type} {X : Nat → Option α} (hm : ∀ n r, X n = some r → X (n + 1) = some r) {n : Nat} {r : α} (h : X n = some r) : PA X = some r := by
 have up : ∀ k m r, X m = some r → X (m + k) = some r := fun k => by
  induction k with
  | zero => intro m r h; exact h
  | succ k ih => intro m r h; exact hm _ _ (ih m r h)
 unfold PA; have hx : ∃ r n, X n = some r := ⟨r, n, h⟩; rw [dif_pos hx]; obtain ⟨m, hm'⟩ := yT hx; have h1 := up m n r h; have h2 := up n m _ hm'; rw [Nat.add_comm, h1] at h2; exact h2.symm
def evW (E : Env) (O : Orc) : Self :=
 ⟨fun f a s => PA fun n => (evT E O n).call f a s, fun rd b fr s => PA fun n => (evT E O n).loop rd b fr s, fun l a s => PA fun n => (evT E O n).round l a s⟩
end
theorem KB (E : Env) (O : Orc) : LimS (evT E O) (evW E O) := ⟨fun _ _ _ _ h => vo h, fun _ _ _ _ _ h => vo h, fun _ _ _ _ h => vo h⟩
theorem zuG {f : Nat} {a : List AV} {r : AV × St} (h : l8 E O (evW E O) f a s = some r) : (evW E O).call f a s = some r := by
 obtain ⟨n, hn⟩ := (QX E O f a s).fin _ _ (uL E O) (KB E O) r h; exact uZ (n := n + 1) (fun n r h => (uL E O n).call _ _ _ _ h) hn
theorem zuH {rd : Option Nat} {b : ICode} {fr : Fr} {r : Res × Fr × St} (h : evC E (evW E O) rd (.loop b) fr s = some r) : (evW E O).loop rd b fr s = some r := by
 obtain ⟨n, hn⟩ := (jm E rd (.loop b) fr s).fin _ _ (uL E O) (KB E O) r h; exact uZ (n := n + 1) (fun n r h => (uL E O n).loop _ _ _ _ _ h) hn
theorem zxG {l : Nat} {a : List AV} {r : AV × St} (h : uN E (evW E O) l a s = some r) : (evW E O).round l a s = some r := by
 obtain ⟨n, hn⟩ := (XJ E l a s).fin _ _ (uL E O) (KB E O) r h; exact uZ (n := n + 1) (fun n r h => (uL E O n).round _ _ _ _ h) hn
theorem laid_ints {H : Type} {enc : TypeId × Value → H} {base : Nat} {spare : Nat → Bool} {held : Bool} {fuel : Nat} {e : TypeId} {k : IntKind} {cs : List Value} {vs : List Int} {p : List MemPlace} (ht : P.underlying t = some (.array n e)) (he : P.underlying e = some (.int k)) (hc : P.cellsOf e = 1) (hct : P.cellsOf t = n)
  (h : DataW.trod enc P w base spare held fuel t cs = some (.agg (vs.map fun v => .lit (.int k v)), p)) : cs = vs.map (.int k ·) := by
 obtain ⟨xs, m, rfl, hx, hlen, hn, hel⟩ := DataW.trod_array ht h; simp only [zw, DataW.agg.injEq] at hx; have hl : vs.length = n := by
  have := congrArg yC hx.1; simp at this; omega
 rw [hct] at hlen; apply List.ext_getElem?; intro i; by_cases hi : i < n
 ·have h1 := hel i hi; rw [hc, Nat.mul_one] at h1; rw [yl oM] at h1; obtain ⟨z, z1, z2, _⟩ := DataW.trod_int he h1; have hz : xs[i].1 = .lit (.int k z) := by rw [z2]
  have hv : (vs.map fun v => (DataW.lit (.int k v) : DataW H))[i]? = (xs.map (·.1))[i]? := by rw [hx.1]
  rw [yL, yL, yl oM, yl oM] at hv; simp only [zX, zv] at hv; rw [hz] at hv; have hvz : vs[i] = z := by simpa using hv
  have hcs : cs[i]? = some (.int k z) := by
   have := congrArg (fun l => l[0]?) z1
   simpa using this
  rw [hcs, yL, yl oM, zX, hvz]
 ·rw [z5 oM, z5 (by simp; omega)]
theorem Gj (φ : Phi) (k : IntKind) : ∀ vs : List Int, VRL φ (vs.map (AV.int k ·)) (vs.map (Value.int k ·))
 | [] => VRL.nil φ
 | v :: vs => VRL.cons (by simp only [VR]) (Gj φ k vs)
theorem glob_of {name : String} {g : Nat} {cs : Array Value} {k : IntKind} {vs : List Int} (hg : P.globalNamed name = some g) (hv : w.var? P name = some cs) (hcs : cs.toList = vs.map (Value.int k ·)) :
  g < w.heap.size ∧ ∃ c e fr, w.heap[g]? = some (.cells c e fr) ∧ (vs.map (AV.int k ·)).length ≤ c.size ∧ ∀ φ, VRL φ (vs.map (AV.int k ·)) (c.toList.take (vs.map (AV.int k ·)).length) := by
 unfold World.var? at hv; rw [hg] at hv; simp only [Option.bind_some] at hv; cases hh : w.heap[g]? with
 | none => rw [hh] at hv; cases hv
 | some o =>
  rw [hh] at hv; cases o <;> simp only at hv <;> first | (cases hv; done) | skip
  rename_i c e fr
  have hcc : c = cs := by simpa using hv
  subst hcc; refine ⟨(Array.getElem?_eq_some_iff.1 hh).1, c, e, fr, rfl, ?_, fun φ => ?_⟩
  ·have := congrArg yC hcs; simp at this ⊢; omega
  ·rw [hcs, List.take_of_length_le (by simp)]; exact Gj φ k vs
theorem laid_pairs {H : Type} {enc : TypeId × Value → H} {base : Nat} {spare : Nat → Bool} {held : Bool} {fuel : Nat} {e u : TypeId} {k : IntKind} {f0 f1 : Field} {cs : List Value} {vs : List (Int × Int)} {p : List MemPlace} (ht : P.underlying t = some (.array n e)) (he : P.underlying e = some (.struct #[f0, f1]))
  (h0 : f0.type = u ∧ f0.offset = 0) (h1 : f1.type = u ∧ f1.offset = 1) (hu : P.underlying u = some (.int k)) (hcu : P.cellsOf u = 1) (hc : P.cellsOf e = 2) (hct : P.cellsOf t = n * 2)
  (h : DataW.trod enc P w base spare held fuel t cs = some (.agg (vs.map fun v => .agg [.lit (.int k v.1), .lit (.int k v.2)]), p)) : cs = (vs.flatMap fun v => [v.1, v.2]).map (.int k ·) := by
 obtain ⟨xs, m, rfl, hx, hlen, hn, hel⟩ := DataW.trod_array ht h; simp only [zw, DataW.agg.injEq] at hx; have hl : vs.length = n := by
  have := congrArg yC hx.1; simp at this; omega
 rw [hct] at hlen; have key : ∀ i (hi : i < vs.length), cs[2 * i]? = some (.int k vs[i].1) ∧ cs[2 * i + 1]? = some (.int k vs[i].2) := by
  intro i hi; have g := hel i oM; rw [hc, yl oM] at g; obtain ⟨y0, y1, m', e1, e2, e3, e4⟩ := Go.ChangeShapes.trod_struct2 he g; rw [h0.1, h0.2, hcu] at e3; rw [h1.1, h1.2, hcu] at e4; obtain ⟨z0, a0, b0, _⟩ := DataW.trod_int hu e3; obtain ⟨z1, a1, b1, _⟩ := DataW.trod_int hu e4; have hv : (vs.map fun v => (DataW.agg [.lit (.int k v.1), .lit (.int k v.2)] : DataW H))[i]? = (xs.map (·.1))[i]? := by rw [hx.1]
  rw [yL, yL, yl oM, yl oM] at hv; simp only [zX, zv] at hv; rw [e1, b0, b1] at hv; simp at hv; rw [hv.1, hv.2]; have c0 := congrArg (fun l => l[0]?) a0; have c1 := congrArg (fun l => l[0]?) a1; simp [List.getElem?_take] at c0 c1; rw [show 2 * i = i * 2 from z9 _ _]; exact ⟨c0, c1⟩
 apply List.ext_getElem?; intro j; have hfl : ∀ (l : List (Int × Int)) (q : Nat), ((l.flatMap fun v => [v.1, v.2]).map (Value.int k ·))[q]? = if q % 2 = 0 then (l[q / 2]?).map (fun v => Value.int k v.1) else (l[q / 2]?).map (fun v => Value.int k v.2) := by
  intro l
  induction l with
  | nil => intro q; simp
  | cons v r ih =>
   intro q
   match q with
   | 0 => simp
   | 1 => simp
   | q + 2 =>
    have := ih q; simp only [List.flatMap_cons, List.cons_append, List.nil_append, List.map_cons, yN]; rw [this, show (q + 2) % 2 = q % 2 by omega, show (q + 2) / 2 = q / 2 + 1 by omega, yN]
 rw [hfl]; by_cases hj : j / 2 < vs.length
 ·obtain ⟨k1, k2⟩ := key (j / 2) hj; rw [yl hj]; split
  ·rw [show 2 * (j / 2) = j by omega] at k1; rw [k1]; simp
  ·rw [show 2 * (j / 2) + 1 = j by omega] at k2; rw [k2]; simp
 ·rw [z5 oM, z5 (l := vs) oM]; simp
def GlobAt (w : World) (g : Nat) (l : List AV) : Prop := g < w.heap.size ∧ ∃ c e fr, w.heap[g]? = some (.cells c e fr) ∧ l.length ≤ c.size ∧ ∀ φ, VRL φ l (c.toList.take l.length)
theorem globRel_of {G : List (List AV)} (h : ∀ i cs, G[i]? = some cs → cs ≠ [] → GlobAt w i cs) : xV G w := h
open Go.RowKit (Below)
noncomputable def okV (v : AV) : Option (AV × St) → Bool
 | some p => eqA v p.1
 | none => false
theorem ztG {r : Option (AV × St)} (h : okV v r = true) : ∃ s, r = some (v, s) := by
 cases r with
 | none => simp [okV] at h
 | some p => exact ⟨p.2, by rw [zud h]⟩
noncomputable def noO : Orc := fun _ => none
noncomputable def withG (f : Nat) (g : List AV → St → Option (AV × St)) (O : Orc) : Orc := fun k => bif za f k then some g else O k
structure OrcOk (P : Program) (w0 : World) (O : Orc) : Prop where
 ext : Qv O
 ok : ∀ f g, O f = some g → gX P w0 f g
theorem KY (P : Program) (w0 : World) : OrcOk P w0 noO := ⟨fun _ _ h => by (cases h), fun _ _ h => by (cases h)⟩
theorem OrcOk.withG {f : Nat} {g : List AV → St → Option (AV × St)} (hO : OrcOk P w0 O) (he : ∀ args s v s', g args s = some (v, s') → Ext s s') (hk : gX P w0 f g) : OrcOk P w0 (withG f g O) := by
 refine ⟨fun k h hk' => ?_, fun k h hk' => ?_⟩ <;> unfold Ev.withG at hk'
 ·cases hb : za f k with
  | true => rw [hb] at hk'; simp only [cond_true, zv] at hk'; subst hk'; exact he
  | false => rw [hb] at hk'; simp only [cond_false] at hk'; exact hO.ext k h hk'
 ·cases hb : za f k with
  | true =>
   rw [hb] at hk'; simp only [cond_true, zv] at hk'; subst hk'; rw [xG] at hb; subst hb; exact hk
  | false => rw [hb] at hk'; simp only [cond_false] at hk'; exact hO.ok k h hk'
end Go.Proofs.YtionbncghjdeoaaGreatDoor.Ev

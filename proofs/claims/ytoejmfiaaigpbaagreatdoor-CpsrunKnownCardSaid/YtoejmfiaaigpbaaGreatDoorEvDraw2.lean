/- Part of a verified evaluator of the model's code, generic over the program: a run of the evaluator that answers shows what the model's run answers. No conditions of its own. -/
import Derived.Test.YtoejmfiaaigpbaaGreatDoorEvDraw1
namespace Go.Proofs.YtoejmfiaaigpbaaGreatDoor.Ev
open Go.RowKit (Below)

section
variable {E : Env} {S : Self} {ds : List DOper} (R : Tr E S ds)

def wt (ds : List DOper) (j t : Nat) : Prop := ∃ d, ds[j]? = some d ∧ d.o.dst = some t

/-- the object of a block, as the operations of D have left it -/
def Tr.cur (D : Nat → Prop) (id : Nat) (o : AObj) : Prop :=
  (id < (R.W 0).next → seen (R.W 0) id = true) ∧ ∃ m, m ≤ ds.length ∧ (∀ j, j < m → R.wr j id → D j) ∧ (∀ j, m ≤ j → j < ds.length → R.wr j id → ¬ D j) ∧ (R.W m).objs.get id = some o

structure Inv (P : Program) (w0 : World) (φ0 : Phi) (w00 : World) (nt : Nat) (a0 : Act) (D : Nat → Prop) (φ : Phi) (w : World) (a : Act) : Prop where
  base : Below w0.heap.size w0 w
  obj : ∀ id o, R.cur D id o → ∃ B, φ id = some B ∧ ObjRel P φ w o B
  rng : ∀ id B, φ id = some B → B.b < w.heap.size
  old : ∀ id o B, R.cur D id o → φ id = some B → B.b < w0.heap.size → isGiv o = true
  inj : ∀ id id' o o' B B', R.cur D id o → R.cur D id' o' → φ id = some B → φ id' = some B' → B.b = B'.b → id = id' ∨ B.b < w0.heap.size
  out : ∀ id, (id < (R.W 0).next ∨ (R.W ds.length).next ≤ id) → φ id = φ0 id
  fresh : ∀ i, i < ds.length → ¬ D i → ∀ id, (R.W i).next ≤ id → id < (R.W (i + 1)).next → φ id = none
  tmp : ∀ t v m, m ≤ ds.length → (∀ j, j < m → wt ds j t → D j) → (∀ j, m ≤ j → j < ds.length → wt ds j t → ¬ D j) → (R.T m).get t = some v → VR φ v (a.tmps.getD t undef)
  size : a.tmps.size = nt
  df : a.defers = a0.defers
  grow : w00.heap.size ≤ w.heap.size
  own : ∀ id B, (R.W 0).next ≤ id → id < (R.W ds.length).next → φ id = some B → w00.heap.size ≤ B.b ∨ ∃ id0 o0 B0, (R.W 0).get id0 = some o0 ∧ φ0 id0 = some B0 ∧ B0.b = B.b ∧ (R.W ds.length).wm.testBit id0 = true
  frame : ∀ b, b < w00.heap.size → (∀ id o B, (R.W 0).get id = some o → φ0 id = some B → B.b = b → (R.W ds.length).wm.testBit id = false) → w.heap[b]? = w00.heap[b]?

/-- D, and i too -/
def more (D : Nat → Prop) (i : Nat) : Nat → Prop := fun j => D j ∨ j = i

structure Ready (D : Nat → Prop) (i : Nat) : Prop where
  lt : i < ds.length
  new : ¬ D i
  deps : ∀ d j, ds[i]? = some d → d.deps.testBit j = true → j < ds.length → D j

structure Closed (ds : List DOper) (D : Nat → Prop) : Prop where
  dep : ∀ i d j, D i → ds[i]? = some d → d.deps.testBit j = true → j < ds.length → D j

variable {R}

theorem Tr.wr_lt (hS : ExtS S) (ok : R.Ok) {i id : Nat} (hi : i < ds.length) (h : R.wr i id) : id < (R.W (i + 1)).next := by
  obtain ⟨v, t, hv, h1⟩ := h
  obtain ⟨d, hd⟩ := getSome (ds := ds) hi
  obtain ⟨_, g2, _, _, _, g6⟩ := R.run i d v t hd hv
  have hx := (evOp_ext hS g2).next
  have : (R.W (i + 1)).next = t.next := by rw [g6]
  have hx' : (R.W i).next ≤ t.next := hx
  rw [this]
  rcases h1 with h1 | h1 <;> omega

theorem Tr.wm_le (hS : ExtS S) (ok : R.Ok) : ∀ {i j : Nat}, i ≤ j → j ≤ ds.length → ∀ id, (R.W i).wm.testBit id = true → (R.W j).wm.testBit id = true
  | i, 0, h, _, id, hb => by
    have : i = 0 := by omega
    subst this; exact hb
  | i, j + 1, h, hj, id, hb => by
    by_cases e : i = j + 1
    · subst e; exact hb
    · exact (R.ext hS ok (i := j) (by omega)).wm id (Tr.wm_le hS ok (i := i) (j := j) (by omega) (by omega) id hb)
theorem Tr.wm_run (hS : ExtS S) (ok : R.Ok) {i : Nat} (hi : i < ds.length) {v : AV} {t : St} (hv : R.V i = some (v, t)) {id : Nat} (hb : t.wm.testBit id = true) : (R.W ds.length).wm.testBit id = true := by
  obtain ⟨d, hd⟩ := getSome (ds := ds) hi
  obtain ⟨_, _, _, _, _, g6⟩ := R.run i d v t hd hv
  refine Tr.wm_le hS ok (i := i + 1) (by omega) (Nat.le_refl _) id ?_
  rw [g6]
  show ((R.W i).wm ||| t.wm).testBit id = true
  rw [Nat.testBit_or, hb, Bool.or_true]

/-- what a ready operation sees is what lies there -/
theorem Tr.sees (hS : ExtS S) (ok : R.Ok) {D : Nat → Prop} (hcl : Closed ds D) {i : Nat} (hr : Ready (ds := ds) D i) {d : DOper} (hd : ds[i]? = some d) {v : AV} {t : St} (hv : R.V i = some (v, t)) {id : Nat} (hsee : seen (begD d (R.L i) (R.T i) (R.W i)) id = true) (hlt : id < (R.W i).next) :
    (id < (R.W 0).next → seen (R.W 0) id = true) ∧ (∀ j, j < i → R.wr j id → D j) ∧ (∀ j, i ≤ j → j < ds.length → R.wr j id → ¬ D j) := by
  obtain ⟨f1, f2, f3, f4, f5⟩ := R.facts hS ok i (by have := hr.lt; omega)
  have hs1 := seen_begD f1 hsee
  -- a block that is no new one lies among those that the operation touches
  have htch : ∀ l, touch d.o.op (R.T i) = some l → id ∈ l := by
    intro l hl
    unfold seen at hsee
    simp only [begD, hl, Option.map_some, Bool.and_eq_true, Bool.or_eq_true] at hsee
    rcases hsee.2 with h1 | h1
    · rw [ble_iff] at h1; omega
    · rw [memN_eq, List.contains_iff_mem] at h1; exact h1
  have hnh : hid (hiddenOf d.deps (R.L i) (R.W i).hide) id = false := by
    cases hh : hid (hiddenOf d.deps (R.L i) (R.W i).hide) id with
    | false => rfl
    | true =>
      exfalso
      unfold seen at hsee
      simp only [begD] at hsee
      split at hsee
      · rw [hh] at hsee; cases hsee
      · rw [hh] at hsee; cases hsee
  obtain ⟨_, g2, g3, _, _, _⟩ := R.run i d v t hd hv
  refine ⟨fun _ => by rw [← seen_congr f3 (f1.trans ok.only.symm)]; exact hs1, fun j hj hw => ?_, fun j hj hjn hw hD => ?_⟩
  · obtain ⟨vj, tj, hvj, hwj⟩ := hw
    obtain ⟨dj, hdj⟩ := getSome (ds := ds) (i := j) (by have := hr.lt; omega)
    have hmem := R.logged hS ok hdj hvj (i := i) hj (by have := hr.lt; omega)
    cases hb : d.deps.testBit j with
    | true => exact hr.deps d j hd hb (by have := hr.lt; omega)
    | false =>
      exfalso
      rcases hwj with ⟨h1, h2⟩ | ⟨h1, h2⟩
      · have := hidden_mem (deps := d.deps) (h := (R.W i).hide) (id := id) _ hmem hb h1 h2
        rw [hnh] at this; cases this
      · obtain ⟨_, hc⟩ := compat_mem g3 _ hmem hb
        have hbit : (logOf j dj (R.T j) (R.W j) tj).wm.testBit id = true := by
          show (oldMask tj.wm (R.W j).next).testBit id = true
          rw [oldMask_bit, h2]; simp [h1]
        rcases hc with hc | hc
        · rw [hc] at hbit; simp at hbit
        · cases ht : touch d.o.op (R.T i) with
          | none => rw [ht] at hc; simp [offMask] at hc
          | some l => rw [ht] at hc; rw [offMask_mem hc (htch l ht)] at hbit; cases hbit
  · have hne : j ≠ i := fun e => hr.new (e ▸ hD)
    obtain ⟨vj, tj, hvj, hwj⟩ := hw
    obtain ⟨dj, hdj⟩ := getSome (ds := ds) hjn
    obtain ⟨_, _, k3, _⟩ := R.run j dj vj tj hdj hvj
    have hb : dj.deps.testBit i = false := by
      cases hb : dj.deps.testBit i with
      | false => rfl
      | true => exact absurd (hcl.dep j dj i hD hdj hb hr.lt) hr.new
    have hmem := R.logged hS ok hd hv (i := j) (by omega) (by omega)
    have hle := R.next_le hS ok (i := i) (j := j) (by omega) (by omega)
    rcases hwj with ⟨h1, h2⟩ | ⟨h1, h2⟩
    · omega
    · obtain ⟨hc, _⟩ := compat_mem k3 _ hmem hb
      have hbit : (oldMask tj.wm (R.W j).next).testBit id = true := by rw [oldMask_bit, h2]; simp [h1]
      rcases hc with hc | hc
      · rw [hc] at hbit; simp at hbit
      · have hc' : offMask (oldMask tj.wm (R.W j).next) (touch d.o.op (R.T i)) = true := hc
        cases ht : touch d.o.op (R.T i) with
        | none => rw [ht] at hc'; simp [offMask] at hc'
        | some l => rw [ht] at hc'; rw [offMask_mem hc' (htch l ht)] at hbit; cases hbit

end
end Go.Proofs.YtoejmfiaaigpbaaGreatDoor.Ev

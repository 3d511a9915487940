/- Part of a verified evaluator of the model's code, generic over the program: a run of the evaluator that answers shows what the model's run answers. No conditions of its own. -/
import Derived.Test.YtoejmfiaaigpbaaGreatDoorEvDraw3
namespace Go.Proofs.YtoejmfiaaigpbaaGreatDoor.Ev
open Go.RowKit (Below)

section
variable {E : Env} {S : Self} {ds : List DOper} {R : Tr E S ds}
variable {P : Program} {w0 : World} {φ0 : Phi} {w00 : World} {nt : Nat} {a0 : Act} {D : Nat → Prop} {φ φ' : Phi} {w w' : World} {a : Act} {i : Nat} {d : DOper} {v : AV} {t : St} {x : Value}

/-- clashing operations are ordered -/
def ClashOk (ds : List DOper) : Prop := ∀ (j k : Nat) (dj dk : DOper), j < k → ds[j]? = some dj → ds[k]? = some dk → clash dj.o dk.o = true → dk.deps.testBit j = true
def DstOk (ds : List DOper) (nt : Nat) : Prop := ∀ (j : Nat) (dj : DOper) (t : Nat), ds[j]? = some dj → dj.o.dst = some t → t < nt

theorem Inv.cur_of (hS : ExtS S) (ok : R.Ok) (hcl : Closed ds D) (hr : Ready (ds := ds) D i) (hd : ds[i]? = some d) (hv : R.V i = some (v, t)) {id : Nat} {o : AObj} (hg : (begD d (R.L i) (R.T i) (R.W i)).get id = some o) : R.cur D id o := by
  have h1 : (begD d (R.L i) (R.T i) (R.W i)).objs.get id = some o := get_some hg
  obtain ⟨f1, f2, _⟩ := R.facts hS ok i (by have := hr.lt; omega)
  obtain ⟨k1, k2, k3⟩ := R.sees hS ok hcl hr hd hv (seen_of_get hg) (f2.lt id o h1)
  exact ⟨k1, i, Nat.le_of_lt hr.lt, k2, k3, h1⟩

theorem Inv.rel (hS : ExtS S) (ok : R.Ok) (hcl : Closed ds D) (hr : Ready (ds := ds) D i) (hd : ds[i]? = some d) (hv : R.V i = some (v, t)) (inv : Inv R P w0 φ0 w00 nt a0 D φ w a) : Rel P w0 φ (begD d (R.L i) (R.T i) (R.W i)).get w :=
  ⟨inv.base, fun id o h => inv.obj id o (Inv.cur_of hS ok hcl hr hd hv h), inv.rng, fun id o B h => inv.old id o B (Inv.cur_of hS ok hcl hr hd hv h), fun id id' o o' B B' h h' => inv.inj id id' o o' B B' (Inv.cur_of hS ok hcl hr hd hv h) (Inv.cur_of hS ok hcl hr hd hv h')⟩

theorem clash_of_dst {p q : SOper} {k : Nat} (h : p.dst = some k) (hq : k ∈ q.names ∨ q.dst = some k) : clash p q = true := by
  have mem : ∀ {n : Nat} {l : List Nat}, n ∈ l → memNat n l = true := by
    intro n l
    induction l with
    | nil => intro h; simp at h
    | cons m r ih =>
      intro h
      simp only [memNat, Bool.or_eq_true]
      rcases List.mem_cons.1 h with rfl | h
      · exact .inl (beq_iff.2 rfl)
      · exact .inr (ih h)
  unfold clash
  rw [h]
  rcases hq with hq | hq
  · simp [mem hq]
  · simp [hq]
theorem clash_of_names {p q : SOper} {k : Nat} (h : q.dst = some k) (hp : k ∈ p.names) : clash p q = true := by
  have mem : ∀ {n : Nat} {l : List Nat}, n ∈ l → memNat n l = true := by
    intro n l
    induction l with
    | nil => intro h; simp at h
    | cons m r ih =>
      intro h
      simp only [memNat, Bool.or_eq_true]
      rcases List.mem_cons.1 h with rfl | h
      · exact .inl (beq_iff.2 rfl)
      · exact .inr (ih h)
  unfold clash
  rw [h]
  simp [mem hp]

/-- the temporaries that a ready operation names -/
theorem Inv.names (hck : ClashOk ds) (hcl : Closed ds D) (hr : Ready (ds := ds) D i) (hd : ds[i]? = some d) (inv : Inv R P w0 φ0 w00 nt a0 D φ w a) : TmOn φ d.o.names (R.T i) a := by
  intro k hk u hu
  refine inv.tmp k u i (by have := hr.lt; omega) (fun j hj hw => ?_) (fun j hj hjn hw hD => ?_) hu
  · obtain ⟨dj, hdj, hdst⟩ := hw
    exact hr.deps d j hd (hck j i dj d hj hdj hd (clash_of_dst hdst (.inl hk))) (by have := hr.lt; omega)
  · obtain ⟨dj, hdj, hdst⟩ := hw
    have hne : j ≠ i := fun e => hr.new (e ▸ hD)
    exact hr.new (hcl.dep j dj i hD hdj (hck i j d dj (by omega) hd hdj (clash_of_names hdst hk)) hr.lt)

/-- the temporaries behind an operation -/
theorem Inv.tmp_step (hck : ClashOk ds) (hdo : DstOk ds nt) (hcl : Closed ds D) (hr : Ready (ds := ds) D i) (hd : ds[i]? = some d) (inv : Inv R P w0 φ0 w00 nt a0 D φ w a) (hsub : Sub φ φ') (hT : R.T (i + 1) = setDst (R.T i) d.o.dst v) (hTn : ∀ j dj, ds[j]? = some dj → ∀ k, dj.o.dst ≠ some k → (R.T (j + 1)).get k = (R.T j).get k) (hx : VR φ' v x) :
    ∀ k u m, m ≤ ds.length → (∀ j, j < m → wt ds j k → more D i j) → (∀ j, m ≤ j → j < ds.length → wt ds j k → ¬ more D i j) → (R.T m).get k = some u → VR φ' u ((a.put d.o.dst x).tmps.getD k undef) := by
  intro k u m hm h1 h2 hu
  by_cases hk : d.o.dst = some k
  · have hwi : wt ds i k := ⟨d, hd, hk⟩
    have him : i < m := by
      apply Nat.lt_of_not_le
      intro hle
      exact h2 i hle hr.lt hwi (.inr rfl)
    have key : ∀ q, i + 1 ≤ q → q ≤ m → (R.T q).get k = (R.T (i + 1)).get k := by
      intro q
      induction q with
      | zero => intro h; omega
      | succ q ih =>
        intro hq1 hq2
        by_cases e : q = i
        · subst e; rfl
        · obtain ⟨dq, hdq⟩ := getSome (ds := ds) (i := q) (by omega)
          rw [hTn q dq hdq k (fun hdst => ?_)]
          · exact ih (by omega) (by omega)
          · have hDq : D q := (h1 q (by omega) ⟨dq, hdq, hdst⟩).resolve_right e
            exact hr.new (hcl.dep q dq i hDq hdq (hck i q d dq (by omega) hd hdq (clash_of_dst hk (.inr hdst))) hr.lt)
    rw [key m (by omega) (Nat.le_refl _), hT, hk] at hu
    simp only [setDst, Trie.get_set_same, Option.some.injEq] at hu
    subst hu
    rw [hk]
    have hlt : k < a.tmps.size := by rw [inv.size]; exact hdo i d k hd hk
    simp only [Act.put]
    rw [getD_set _ _ _ _ hlt, if_pos rfl]; exact hx
  · have hput : (a.put d.o.dst x).tmps.getD k undef = a.tmps.getD k undef := by
      cases hdst : d.o.dst with
      | none => rfl
      | some e =>
        simp only [Act.put]
        have hlt : e < a.tmps.size := by rw [inv.size]; exact hdo i d e hd hdst
        rw [getD_set _ _ _ _ hlt, if_neg (fun h => hk (by rw [hdst, h]))]
    rw [hput]
    have hni : ¬ wt ds i k := fun ⟨d', hd', hk'⟩ => by rw [hd] at hd'; cases hd'; exact hk hk'
    exact VR.mono hsub _ _ (inv.tmp k u m hm (fun j hj hw => (h1 j hj hw).resolve_right (fun e => hni (e ▸ hw))) (fun j hj hjn hw hD => h2 j hj hjn hw (.inl hD)) hu)

theorem Tr.T_other {j : Nat} {dj : DOper} (hdj : ds[j]? = some dj) {k : Nat} (hk : dj.o.dst ≠ some k) : (R.T (j + 1)).get k = (R.T j).get k := by
  have : ∀ u, (setDst (R.T j) dj.o.dst u).get k = (R.T j).get k := fun u => by
    cases hdst : dj.o.dst with
    | none => rfl
    | some e => simp only [setDst]; exact Trie.get_set_ne _ _ (fun h => hk (by rw [hdst, h]))
  cases hv : R.V j with
  | none => obtain ⟨_, _, g3, _⟩ := R.skip j dj hdj hv; rw [g3]; exact this _
  | some p => obtain ⟨_, _, _, _, g5, _⟩ := R.run j dj p.1 p.2 hdj hv; rw [g5]; exact this _

end
end Go.Proofs.YtoejmfiaaigpbaaGreatDoor.Ev

/- Part of a verified evaluator of the model's code, generic over the program: a run of the evaluator that answers shows what the model's run answers. No conditions of its own. -/
import Derived.Test.YtoejmfiaaigpbaaGreatDoorEvDraw4
namespace Go.Proofs.YtoejmfiaaigpbaaGreatDoor.Ev
open Go.RowKit (Below)

section
variable {E : Env} {S : Self} {ds : List DOper} {R : Tr E S ds}
variable {P : Program} {w0 : World} {φ0 : Phi} {w00 : World} {nt : Nat} {a0 : Act} {D : Nat → Prop} {φ φ' : Phi} {w w' : World} {a : Act} {i : Nat} {d : DOper} {v : AV} {t : St} {x : Value}

theorem put_facts (dst : Option Nat) : (a.put dst x).tmps.size = a.tmps.size ∧ (a.put dst x).defers = a.defers := by
  cases dst <;> simp [Act.put]

theorem Inv.skip (hS : ExtS S) (ok : R.Ok) (hck : ClashOk ds) (hdo : DstOk ds nt) (hcl : Closed ds D) (hr : Ready (ds := ds) D i) (hd : ds[i]? = some d) (hv : R.V i = none) (inv : Inv R P w0 φ0 w00 nt a0 D φ w a) :
    Inv R P w0 φ0 w00 nt a0 (more D i) φ w (a.put d.o.dst undef) := by
  have hnw : ∀ id, ¬ R.wr i id := fun id ⟨_, _, h, _⟩ => by rw [hv] at h; cases h
  have hcur : ∀ {id o}, R.cur (more D i) id o → R.cur D id o := fun {id o} h => by
    rcases R.cur_split hS ok hcl hr h with ⟨h1, _⟩ | ⟨_, h1⟩
    · exact absurd h1 (hnw id)
    · exact h1
  obtain ⟨_, _, g3, _⟩ := R.skip i d hd hv
  exact ⟨inv.base, fun id o h => inv.obj id o (hcur h), inv.rng, fun id o B h => inv.old id o B (hcur h), fun id id' o o' B B' h h' => inv.inj id id' o o' B B' (hcur h) (hcur h'), inv.out, fun j hj hD => inv.fresh j hj (fun h => hD (.inl h)),
    inv.tmp_step hck hdo hcl hr hd (fun _ _ h => h) g3 (fun j dj hdj k hk => R.T_other hdj hk) (undef_rel φ), (put_facts _).1.trans inv.size, (put_facts _).2.trans inv.df, inv.grow, inv.own, inv.frame⟩

theorem Inv.run (hS : ExtS S) (ok : R.Ok) (hck : ClashOk ds) (hdo : DstOk ds nt) (hcl : Closed ds D) (hr : Ready (ds := ds) D i) (hd : ds[i]? = some d) (hv : R.V i = some (v, t)) (inv : Inv R P w0 φ0 w00 nt a0 D φ w a)
    (st : Step P w0 φ (begD d (R.L i) (R.T i) (R.W i)) w φ' t w') (hx : VR φ' v x) : Inv R P w0 φ0 w00 nt a0 (more D i) φ' w' (a.put d.o.dst x) := by
  obtain ⟨_, g2, _, _, g5, g6⟩ := R.run i d v t hd hv
  obtain ⟨f1, f2, f3, f4, f5⟩ := R.facts hS ok i (Nat.le_of_lt hr.lt)
  have hnx : (R.W (i + 1)).next = t.next := by rw [g6]
  have hob : (R.W (i + 1)).objs = t.objs := by rw [g6]
  have hfr : Fresh φ (begD d (R.L i) (R.T i) (R.W i)) t := fun id h1 h2 => inv.fresh i hr.lt hr.new id h1 (by rw [hnx]; exact h2)
  have hsub := st.sub hfr
  have hn0 := R.next_le hS ok (i := 0) (j := i) (Nat.zero_le _) (Nat.le_of_lt hr.lt)
  have hnN := R.next_le hS ok (i := i + 1) (j := ds.length) hr.lt (Nat.le_refl _)
  have hniN := R.next_le hS ok (i := i) (j := ds.length) (Nat.le_of_lt hr.lt) (Nat.le_refl _)
  -- what i lays or writes lies in t, and can be seen there
  have hget : ∀ {id o}, R.wr i id → (R.W (i + 1)).objs.get id = some o → t.get id = some o := fun {id o} hw ho => by
    rw [get_eq, seen_congr st.ext.hide st.ext.only, R.wr_seen hS ok hr.lt hd hw, ← hob]; exact ho
  -- the rest is as it was
  have hsame : ∀ {id}, ¬ R.wr i id → φ' id = φ id := fun {id} hw => by
    apply st.same
    by_cases h1 : id < (R.W i).next
    · exact .inl h1
    · right; apply Nat.le_of_not_lt; intro h2; exact hw ⟨v, t, hv, .inl ⟨by omega, h2⟩⟩
  -- an old block that i writes was there before
  have hold : ∀ {id o}, R.wr i id → t.objs.get id = some o → id < (R.W i).next → ∃ o', R.cur D id o' ∧ φ' id = φ id := fun {id o} hw ho hlt => by
    obtain ⟨o', ho'⟩ := st.ext.vis id o hlt ho
    have hg : (begD d (R.L i) (R.T i) (R.W i)).get id = some o' := by rw [get_eq, R.wr_seen hS ok hr.lt hd hw]; exact ho'
    exact ⟨o', Inv.cur_of hS ok hcl hr hd hv hg, st.same id (.inl hlt)⟩
  have hbits : ∀ {id o}, (begD d (R.L i) (R.T i) (R.W i)).get id = some o → t.wm.testBit id = true → R.wr i id := fun {id o} hg hb => ⟨v, t, hv, .inr ⟨f2.lt id o (get_some (s := begD d (R.L i) (R.T i) (R.W i)) hg), hb⟩⟩
  -- of a block that i turns and one that it does not
  have hmix : ∀ {id id' o o' B B'}, R.wr i id → (R.W (i + 1)).objs.get id = some o → ¬ R.wr i id' → R.cur D id' o' → φ' id = some B → φ' id' = some B' → B.b = B'.b → id = id' ∨ B.b < w0.heap.size := fun {id id' o o' B B'} hw ho hw' hc' hB hB' e => by
    rw [hsame hw'] at hB'
    by_cases hlt : id < (R.W i).next
    · obtain ⟨o1, hc, hp⟩ := hold hw (by rw [← hob]; exact ho) hlt
      exact inv.inj id id' o1 o' B B' hc hc' (hp ▸ hB) hB' e
    · have hlt2 : id < t.next := by rw [← hnx]; exact R.wr_lt hS ok hr.lt hw
      rcases st.own id B (Nat.le_of_not_lt hlt) hlt2 hB with h1 | ⟨id0, o0, B0, q1, q2, q3, q4⟩
      · have := (inv.rng id' B' hB'); omega
      · have hc0 := Inv.cur_of hS ok hcl hr hd hv q1
        rcases inv.inj id0 id' o0 o' B0 B' hc0 hc' q2 hB' (q3.trans e) with he | he
        · subst he
          exact absurd (hbits q1 q4) hw'
        · exact .inr (q3 ▸ he)
  refine ⟨st.rel.base, ?_, st.rel.rng, ?_, ?_, ?_, ?_, inv.tmp_step hck hdo hcl hr hd hsub g5 (fun j dj hdj k hk => R.T_other hdj hk) hx, (put_facts _).1.trans inv.size, (put_facts _).2.trans inv.df, Nat.le_trans inv.grow st.size, ?_, ?_⟩
  · intro id o h
    rcases R.cur_split hS ok hcl hr h with ⟨hw, ho⟩ | ⟨hw, hc⟩
    · exact st.rel.obj id o (hget hw ho)
    · obtain ⟨B, hB, ht⟩ := inv.obj id o hc
      refine ⟨B, hsub _ _ hB, ht.keep hsub (st.frame B.b (inv.rng id B hB) fun id2 o2 B2 q1 q2 q3 => ?_)⟩
      cases hb : t.wm.testBit id2 with
      | false => rfl
      | true =>
        rcases inv.inj id2 id o2 o B2 B (Inv.cur_of hS ok hcl hr hd hv q1) hc q2 hB q3 with he | he
        · subst he
          exact absurd (hbits q1 hb) hw
        · have hgo := get_some (s := begD d (R.L i) (R.T i) (R.W i)) q1
          have := st.ext.giv id2 o2 (f2.lt id2 o2 hgo) hgo (inv.old id2 o2 B2 (Inv.cur_of hS ok hcl hr hd hv q1) q2 he) hb
          simp [begD] at this
  · intro id o B h hB hlt
    rcases R.cur_split hS ok hcl hr h with ⟨hw, ho⟩ | ⟨hw, hc⟩
    · exact st.rel.old id o B (hget hw ho) hB hlt
    · exact inv.old id o B hc (hsame hw ▸ hB) hlt
  · intro id id' o o' B B' h h' hB hB' e
    rcases R.cur_split hS ok hcl hr h with ⟨hw, ho⟩ | ⟨hw, hc⟩ <;> rcases R.cur_split hS ok hcl hr h' with ⟨hw', ho'⟩ | ⟨hw', hc'⟩
    · exact st.rel.inj id id' o o' B B' (hget hw ho) (hget hw' ho') hB hB' e
    · exact hmix hw ho hw' hc' hB hB' e
    · exact (hmix hw' ho' hw hc hB' hB e.symm).elim (fun h => .inl h.symm) (fun h => .inr (by omega))
    · exact inv.inj id id' o o' B B' hc hc' (hsame hw ▸ hB) (hsame hw' ▸ hB') e
  · intro id h
    rw [st.same id (by
      rcases h with h | h
      · left; show id < (R.W i).next; omega
      · right; omega)]
    exact inv.out id h
  · intro j hj hD id h1 h2
    have hji : j ≠ i := fun e => hD (.inr e)
    have hDj : ¬ D j := fun h => hD (.inl h)
    rw [st.same id ?_]
    · exact inv.fresh j hj hDj id h1 h2
    · by_cases hlt : j < i
      · left
        have := R.next_le hS ok (i := j + 1) (j := i) hlt (Nat.le_of_lt hr.lt)
        show id < (R.W i).next; omega
      · right
        have := R.next_le hS ok (i := i + 1) (j := j) (by omega) (Nat.le_of_lt hj)
        omega
  · intro id B h1 h2 hB
    by_cases hin : (R.W i).next ≤ id ∧ id < t.next
    · rcases st.own id B hin.1 hin.2 hB with h3 | ⟨id0, o0, B0, q1, q2, q3, q4⟩
      · exact .inl (Nat.le_trans inv.grow h3)
      · have hlt0 : id0 < (R.W i).next := f2.lt id0 o0 (get_some (s := begD d (R.L i) (R.T i) (R.W i)) q1)
        by_cases hl : id0 < (R.W 0).next
        · obtain ⟨o1, ho1⟩ := f5.vis id0 o0 hl (get_some (s := begD d (R.L i) (R.T i) (R.W i)) q1)
          have hs := (Inv.cur_of hS ok hcl hr hd hv q1).1 hl
          refine .inr ⟨id0, o1, B0, by rw [get_eq, hs]; exact ho1, ?_, q3, R.wm_run hS ok hr.lt hv q4⟩
          rw [← inv.out id0 (.inl hl)]; exact q2
        · rcases inv.own id0 B0 (Nat.le_of_not_lt hl) (by omega) q2 with h4 | ⟨id1, o1, B1, r1, r2, r3, r4⟩
          · exact .inl (q3 ▸ h4)
          · exact .inr ⟨id1, o1, B1, r1, r2, r3.trans q3, r4⟩
    · rw [st.same id (by
        by_cases hl : id < (R.W i).next
        · exact .inl hl
        · right; apply Nat.le_of_not_lt; intro h3; exact hin ⟨Nat.le_of_not_lt hl, h3⟩)] at hB
      exact inv.own id B h1 h2 hB
  · intro b hb H
    refine (st.frame b (Nat.lt_of_lt_of_le hb inv.grow) fun id o B q1 q2 q3 => ?_).trans (inv.frame b hb H)
    cases hbit : t.wm.testBit id with
    | false => rfl
    | true =>
      exfalso
      have hwN := R.wm_run hS ok hr.lt hv hbit
      have hlt0 : id < (R.W i).next := f2.lt id o (get_some (s := begD d (R.L i) (R.T i) (R.W i)) q1)
      by_cases hl : id < (R.W 0).next
      · obtain ⟨o1, ho1⟩ := f5.vis id o hl (get_some (s := begD d (R.L i) (R.T i) (R.W i)) q1)
        have hs := (Inv.cur_of hS ok hcl hr hd hv q1).1 hl
        have := H id o1 B (by rw [get_eq, hs]; exact ho1) (by rw [← inv.out id (.inl hl)]; exact q2) q3
        rw [hwN] at this; cases this
      · rcases inv.own id B (Nat.le_of_not_lt hl) (by omega) q2 with h4 | ⟨id1, o1, B1, r1, r2, r3, r4⟩
        · omega
        · have := H id1 o1 B1 r1 r2 (r3.trans q3)
          rw [r4] at this; cases this

end
end Go.Proofs.YtoejmfiaaigpbaaGreatDoor.Ev

/- Part of a verified evaluator of the model's code, generic over the program: a run of the evaluator that answers shows what the model's run answers. No conditions of its own. -/
import Derived.Test.YtoejmfiaaigpbaaGreatDoorEvDraw7
namespace Go.Proofs.YtoejmfiaaigpbaaGreatDoor.Ev
open Go.RowKit (Below)

theorem cRegD_inv {P : Program} {nt : Nat} {ops : Array Oper} {ds : List DOper} (h : cRegD P nt ops = some ds) :
    ds.length = ops.size ∧ ClashOk ds ∧ DstOk ds nt ∧ (∀ (i : Nat) (d : DOper), ds[i]? = some d → ∃ o, ops[i]? = some o ∧ cS P nt ops o = some d.o ∧ (∀ j, d.deps.testBit j = true → j < i) ∧ (∀ e ∈ o.after, Region.binds .any e = true → e.on < i) ∧
      ∀ j, d.deps.testBit j = true → ∃ e ∈ o.after, Region.binds .any e = true ∧ (j = e.on ∨ ∃ d', ds[e.on]? = some d' ∧ d'.deps.testBit j = true)) := by
  unfold cRegD at h
  split at h
  · rename_i l hl
    simp only at h
    cases hb : (okAll 0 l (depsOf ops.toList []) && okBack 0 (depsOf ops.toList [])) with
    | false => rw [hb] at h; simp at h
    | true =>
      rw [hb] at h; simp only [cond_true, Option.some.injEq] at h; subst h
      rw [Bool.and_eq_true] at hb
      obtain ⟨k1, k2⟩ := cSs_get hl
      obtain ⟨d1, _, d3⟩ := depsOf_get (l := ops.toList) (acc := [])
      simp only [List.length_nil, Nat.zero_add] at d1 d3
      have hlen : l.length = (depsOf ops.toList []).length := by rw [k1, d1]
      have hget : ∀ (i : Nat) (d : DOper), (mkD l (depsOf ops.toList []))[i]? = some d → ∃ o, ops[i]? = some o ∧ cS P nt ops o = some d.o := fun i d hd => by
        obtain ⟨q1, q2⟩ := mkD_get.1 hd
        have hlt : i < l.length := by
          apply Nat.lt_of_not_le; intro hle; rw [List.getElem?_eq_none hle] at q1; cases q1
        have ho : ops.toList[i]? = some ops.toList[i] := by rw [List.getElem?_eq_getElem]
        obtain ⟨so, k3, k4⟩ := k2 i _ ho
        rw [q1] at k3; cases k3
        exact ⟨_, by rw [← Array.getElem?_toList]; exact ho, k4⟩
      refine ⟨by rw [mkD_length hlen, k1]; simp, ?_, ?_, ?_⟩
      · intro j k dj dk hjk hj hk hc
        obtain ⟨q1, q2⟩ := mkD_get.1 hj
        obtain ⟨q3, q4⟩ := mkD_get.1 hk
        have := okAll_bit hb.1 hjk q1 q3 q4 hc
        rw [Nat.zero_add] at this; exact this
      · intro j dj t hj ht
        obtain ⟨o, _, ho⟩ := hget j dj hj
        obtain ⟨_, _, h3, h4⟩ := cS_inv ho
        exact h4 t (by rw [← h3]; exact ht)
      · intro i d hd
        obtain ⟨o, ho, hcs⟩ := hget i d hd
        obtain ⟨q1, q2⟩ := mkD_get.1 hd
        have hback : ∀ j, d.deps.testBit j = true → j < i := fun j hj => by
          have := okBack_lt hb.2 q2 j hj; omega
        obtain ⟨acc', r1, r2, r3⟩ := d3 i o (by rw [Array.getElem?_toList]; exact ho)
        rw [q2] at r1
        simp only [Option.some.injEq] at r1
        refine ⟨o, ho, hcs, hback, fun e he hbd => hback _ (by rw [r1]; exact depOf_has.2 e (by simpa using he) hbd), fun j hj => ?_⟩
        rw [r1] at hj
        rcases depOf_bit hj with h0 | ⟨e, he, hbd, hor⟩
        · simp at h0
        · refine ⟨e, by simpa using he, hbd, ?_⟩
          rcases hor with h1 | h1
          · exact .inl h1
          · right
            have hlt : e.on < acc'.length := by
              apply Nat.lt_of_not_le; intro hle
              rw [List.getD_eq_getElem?_getD, List.getElem?_eq_none hle] at h1; simp at h1
            have hlt2 : e.on < l.length := by
              have hi : i < l.length := by apply Nat.lt_of_not_le; intro hle; rw [List.getElem?_eq_none hle] at q1; cases q1
              omega
            refine ⟨⟨l[e.on], acc'[e.on]⟩, mkD_get.2 ⟨List.getElem?_eq_getElem hlt2, ?_⟩, ?_⟩
            · rw [← r3 _ hlt, List.getElem?_eq_getElem hlt]
            · rw [List.getD_eq_getElem?_getD, List.getElem?_eq_getElem hlt] at h1; simpa using h1
  · cases h

end Go.Proofs.YtoejmfiaaigpbaaGreatDoor.Ev

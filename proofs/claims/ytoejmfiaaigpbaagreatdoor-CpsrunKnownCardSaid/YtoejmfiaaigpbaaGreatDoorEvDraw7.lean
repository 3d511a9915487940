/- Part of a verified evaluator of the model's code, generic over the program: a run of the evaluator that answers shows what the model's run answers. No conditions of its own. -/
import Derived.Test.YtoejmfiaaigpbaaGreatDoorEvDraw6
namespace Go.Proofs.YtoejmfiaaigpbaaGreatDoor.Ev
open Go.RowKit (Below)

theorem depOf_bit {acc : List Nat} {j : Nat} : ∀ {es : List Edge} {s0 : Nat}, (es.foldl (fun s e => bif Region.binds .any e then s ||| 2 ^ e.on ||| acc.getD e.on 0 else s) s0).testBit j = true → s0.testBit j = true ∨ ∃ e ∈ es, Region.binds .any e = true ∧ (j = e.on ∨ (acc.getD e.on 0).testBit j = true)
  | [], s0, h => .inl h
  | e :: r, s0, h => by
    rw [List.foldl_cons] at h
    rcases depOf_bit h with h1 | ⟨e', he', h2⟩
    · cases hb : Region.binds .any e with
      | false => rw [hb] at h1; exact .inl h1
      | true =>
        rw [hb] at h1; simp only [cond_true, Nat.testBit_or, Bool.or_eq_true] at h1
        rcases h1 with (h1 | h1) | h1
        · exact .inl h1
        · rw [Nat.testBit_two_pow] at h1
          exact .inr ⟨e, by simp, hb, .inl (by simpa using (of_decide_eq_true h1).symm)⟩
        · exact .inr ⟨e, by simp, hb, .inr h1⟩
    · exact .inr ⟨e', by simp [he'], h2⟩

theorem depOf_has {acc : List Nat} : ∀ {es : List Edge} {s0 : Nat}, (∀ j, s0.testBit j = true → (es.foldl (fun s e => bif Region.binds .any e then s ||| 2 ^ e.on ||| acc.getD e.on 0 else s) s0).testBit j = true) ∧ ∀ e ∈ es, Region.binds .any e = true → (es.foldl (fun s e => bif Region.binds .any e then s ||| 2 ^ e.on ||| acc.getD e.on 0 else s) s0).testBit e.on = true
  | [], s0 => ⟨fun j h => h, fun e he => by simp at he⟩
  | x :: r, s0 => by
    simp only [List.foldl_cons]
    obtain ⟨h1, h2⟩ := depOf_has (acc := acc) (es := r) (s0 := bif Region.binds .any x then s0 ||| 2 ^ x.on ||| acc.getD x.on 0 else s0)
    refine ⟨fun j hj => h1 j ?_, fun e he hb => ?_⟩
    · cases Region.binds .any x with
      | false => exact hj
      | true => simp only [cond_true, Nat.testBit_or, hj, Bool.true_or]
    · rcases List.mem_cons.1 he with rfl | he
      · apply h1
        rw [hb]; simp only [cond_true, Nat.testBit_or, Nat.testBit_two_pow_self, Bool.or_true, Bool.true_or]
      · exact h2 e he hb

theorem depsOf_get : ∀ {l : List Oper} {acc : List Nat}, (depsOf l acc).length = acc.length + l.length ∧ (∀ k, k < acc.length → (depsOf l acc)[k]? = acc[k]?) ∧
    ∀ (i : Nat) (o : Oper), l[i]? = some o → ∃ acc' : List Nat, (depsOf l acc)[acc.length + i]? = some (depOf acc' o.after.toList) ∧ acc'.length = acc.length + i ∧ ∀ k, k < acc'.length → acc'[k]? = (depsOf l acc)[k]?
  | [], acc => ⟨by simp [depsOf], fun k _ => rfl, fun i o h => by simp at h⟩
  | x :: r, acc => by
    simp only [depsOf]
    obtain ⟨h1, h2, h3⟩ := depsOf_get (l := r) (acc := acc ++ [depOf acc x.after.toList])
    refine ⟨by rw [h1]; simp; omega, fun k hk => ?_, fun i o ho => ?_⟩
    · rw [h2 k (by simp; omega), List.getElem?_append_left hk]
    · cases i with
      | zero =>
        simp only [List.getElem?_cons_zero, Option.some.injEq] at ho; subst ho
        refine ⟨acc, ?_, by simp, fun k hk => ?_⟩
        · rw [h2 _ (by simp)]; simp
        · rw [h2 k (by simp; omega), List.getElem?_append_left hk]
      | succ i =>
        obtain ⟨acc', k1, k2, k3⟩ := h3 i o (by simpa using ho)
        refine ⟨acc', ?_, by rw [k2]; simp; omega, k3⟩
        rw [← k1]; congr 1; simp; omega

end Go.Proofs.YtoejmfiaaigpbaaGreatDoor.Ev

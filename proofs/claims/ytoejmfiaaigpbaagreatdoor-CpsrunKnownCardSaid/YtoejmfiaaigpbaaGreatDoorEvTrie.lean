/- Part of a verified evaluator of the model's code, generic over the program: a run of the evaluator that answers shows what the model's run answers. No conditions of its own. -/
import Derived.Test.YtoejmfiaaigpbaaGreatDoorEvDefs
namespace Go.Proofs.YtoejmfiaaigpbaaGreatDoor.Ev

theorem Trie.get_leaf {α : Type} (n : Nat) : (Trie.leaf : Trie α).get n = none := rfl
theorem Trie.get_zero {α : Type} (v : Option α) (l r : Trie α) : (Trie.node v l r).get 0 = v := rfl
theorem Trie.get_odd {α : Type} (v : Option α) (l r : Trie α) (n : Nat) (h : n % 2 = 1) : (Trie.node v l r).get n = l.get (n / 2) := by
  cases n with
  | zero => simp at h
  | succ n =>
    have hb : Nat.beq (Nat.mod (n + 1) 2) 1 = true := by rw [Nat.beq_eq]; exact h
    show (bif Nat.beq (Nat.mod (n + 1) 2) 1 then l.get (Nat.div (n + 1) 2) else r.get (Nat.pred (Nat.div (n + 1) 2))) = _
    rw [hb]; rfl
theorem Trie.get_even {α : Type} (v : Option α) (l r : Trie α) (n : Nat) (h : n % 2 = 0) (h0 : n ≠ 0) : (Trie.node v l r).get n = r.get (n / 2 - 1) := by
  cases n with
  | zero => exact absurd rfl h0
  | succ n =>
    have hb : Nat.beq (Nat.mod (n + 1) 2) 1 = false := by
      rw [Bool.eq_false_iff, ne_eq, Nat.beq_eq]; show ¬ ((n + 1) % 2 = 1); omega
    show (bif Nat.beq (Nat.mod (n + 1) 2) 1 then l.get (Nat.div (n + 1) 2) else r.get (Nat.pred (Nat.div (n + 1) 2))) = _
    rw [hb]; rfl

theorem Trie.setF_leaf_zero {α : Type} (f : Nat) (v : Option α) : Trie.setF (f + 1) .leaf 0 v = .node v .leaf .leaf := rfl
theorem Trie.setF_node_zero {α : Type} (f : Nat) (w v : Option α) (l r : Trie α) : Trie.setF (f + 1) (.node w l r) 0 v = .node v l r := rfl
theorem Trie.setF_leaf_odd {α : Type} (f : Nat) (v : Option α) (n : Nat) (h : n % 2 = 1) : Trie.setF (f + 1) .leaf n v = .node none (Trie.setF f .leaf (n / 2) v) .leaf := by
  cases n with
  | zero => simp at h
  | succ n =>
    have hb : Nat.beq (Nat.mod (n + 1) 2) 1 = true := by rw [Nat.beq_eq]; exact h
    show (bif Nat.beq (Nat.mod (n + 1) 2) 1 then Trie.node none (Trie.setF f .leaf (Nat.div (n + 1) 2) v) .leaf else .node none .leaf (Trie.setF f .leaf (Nat.pred (Nat.div (n + 1) 2)) v)) = _
    rw [hb]; rfl
theorem Trie.setF_leaf_even {α : Type} (f : Nat) (v : Option α) (n : Nat) (h : n % 2 = 0) (h0 : n ≠ 0) : Trie.setF (f + 1) .leaf n v = .node none .leaf (Trie.setF f .leaf (n / 2 - 1) v) := by
  cases n with
  | zero => exact absurd rfl h0
  | succ n =>
    have hb : Nat.beq (Nat.mod (n + 1) 2) 1 = false := by
      rw [Bool.eq_false_iff, ne_eq, Nat.beq_eq]; show ¬ ((n + 1) % 2 = 1); omega
    show (bif Nat.beq (Nat.mod (n + 1) 2) 1 then Trie.node none (Trie.setF f .leaf (Nat.div (n + 1) 2) v) .leaf else .node none .leaf (Trie.setF f .leaf (Nat.pred (Nat.div (n + 1) 2)) v)) = _
    rw [hb]; rfl
theorem Trie.setF_node_odd {α : Type} (f : Nat) (w v : Option α) (l r : Trie α) (n : Nat) (h : n % 2 = 1) : Trie.setF (f + 1) (.node w l r) n v = .node w (Trie.setF f l (n / 2) v) r := by
  cases n with
  | zero => simp at h
  | succ n =>
    have hb : Nat.beq (Nat.mod (n + 1) 2) 1 = true := by rw [Nat.beq_eq]; exact h
    show (bif Nat.beq (Nat.mod (n + 1) 2) 1 then Trie.node w (Trie.setF f l (Nat.div (n + 1) 2) v) r else .node w l (Trie.setF f r (Nat.pred (Nat.div (n + 1) 2)) v)) = _
    rw [hb]; rfl
theorem Trie.setF_node_even {α : Type} (f : Nat) (w v : Option α) (l r : Trie α) (n : Nat) (h : n % 2 = 0) (h0 : n ≠ 0) : Trie.setF (f + 1) (.node w l r) n v = .node w l (Trie.setF f r (n / 2 - 1) v) := by
  cases n with
  | zero => exact absurd rfl h0
  | succ n =>
    have hb : Nat.beq (Nat.mod (n + 1) 2) 1 = false := by
      rw [Bool.eq_false_iff, ne_eq, Nat.beq_eq]; show ¬ ((n + 1) % 2 = 1); omega
    show (bif Nat.beq (Nat.mod (n + 1) 2) 1 then Trie.node w (Trie.setF f l (Nat.div (n + 1) 2) v) r else .node w l (Trie.setF f r (Nat.pred (Nat.div (n + 1) 2)) v)) = _
    rw [hb]; rfl

theorem Trie.get_setF {α : Type} : ∀ (f : Nat) (t : Trie α) (n : Nat) (v : Option α) (m : Nat), n < f → (Trie.setF f t n v).get m = if m = n then v else t.get m
  | 0, _, _, _, _, h => absurd h (Nat.not_lt_zero _)
  | f + 1, t, n, v, m, h => by
    have ih := fun (t : Trie α) (k j : Nat) (hk : k < f) => Trie.get_setF f t k v j hk
    by_cases h0 : n = 0
    · subst h0
      by_cases hm : m = 0
      · subst hm; cases t <;> simp [Trie.setF_leaf_zero, Trie.setF_node_zero, Trie.get_zero]
      · rcases Nat.mod_two_eq_zero_or_one m with e | e
        · cases t <;> simp [Trie.setF_leaf_zero, Trie.setF_node_zero, Trie.get_even _ _ _ m e hm, Trie.get_leaf, hm]
        · cases t <;> simp [Trie.setF_leaf_zero, Trie.setF_node_zero, Trie.get_odd _ _ _ m e, Trie.get_leaf, hm]
    · rcases Nat.mod_two_eq_zero_or_one n with en | en
      · cases t with
        | leaf =>
          rw [Trie.setF_leaf_even f v n en h0]
          by_cases hm : m = 0
          · subst hm; simp [Trie.get_zero, Trie.get_leaf, Ne.symm h0]
          · rcases Nat.mod_two_eq_zero_or_one m with e | e
            · rw [Trie.get_even _ _ _ m e hm, ih _ _ _ (by omega), Trie.get_leaf, Trie.get_leaf]
              by_cases hh : m = n
              · simp [hh]
              · rw [if_neg hh, if_neg (by omega)]
            · rw [Trie.get_odd _ _ _ m e, Trie.get_leaf, Trie.get_leaf, if_neg (by omega)]
        | node w l r =>
          rw [Trie.setF_node_even f w v l r n en h0]
          by_cases hm : m = 0
          · subst hm; simp [Trie.get_zero, Ne.symm h0]
          · rcases Nat.mod_two_eq_zero_or_one m with e | e
            · rw [Trie.get_even _ _ _ m e hm, ih _ _ _ (by omega), Trie.get_even _ _ _ m e hm]
              by_cases hh : m = n
              · simp [hh]
              · rw [if_neg hh, if_neg (by omega)]
            · rw [Trie.get_odd _ _ _ m e, Trie.get_odd _ _ _ m e, if_neg (by omega)]
      · cases t with
        | leaf =>
          rw [Trie.setF_leaf_odd f v n en]
          by_cases hm : m = 0
          · subst hm; simp [Trie.get_zero, Trie.get_leaf, Ne.symm h0]
          · rcases Nat.mod_two_eq_zero_or_one m with e | e
            · rw [Trie.get_even _ _ _ m e hm, Trie.get_leaf, Trie.get_leaf, if_neg (by omega)]
            · rw [Trie.get_odd _ _ _ m e, ih _ _ _ (by omega), Trie.get_leaf, Trie.get_leaf]
              by_cases hh : m = n
              · simp [hh]
              · rw [if_neg hh, if_neg (by omega)]
        | node w l r =>
          rw [Trie.setF_node_odd f w v l r n en]
          by_cases hm : m = 0
          · subst hm; simp [Trie.get_zero, Ne.symm h0]
          · rcases Nat.mod_two_eq_zero_or_one m with e | e
            · rw [Trie.get_even _ _ _ m e hm, Trie.get_even _ _ _ m e hm, if_neg (by omega)]
            · rw [Trie.get_odd _ _ _ m e, ih _ _ _ (by omega), Trie.get_odd _ _ _ m e]
              by_cases hh : m = n
              · simp [hh]
              · rw [if_neg hh, if_neg (by omega)]

theorem Trie.get_set {α : Type} (t : Trie α) (n : Nat) (v : α) (m : Nat) : (t.set n v).get m = if m = n then some v else t.get m :=
  Trie.get_setF (n + 1) t n (some v) m (Nat.lt_succ_self n)
theorem Trie.get_del {α : Type} (t : Trie α) (n : Nat) (m : Nat) : (t.del n).get m = if m = n then none else t.get m :=
  Trie.get_setF (n + 1) t n none m (Nat.lt_succ_self n)
theorem Trie.get_set_same {α : Type} (t : Trie α) (n : Nat) (v : α) : (t.set n v).get n = some v := by rw [Trie.get_set, if_pos rfl]
theorem Trie.get_set_ne {α : Type} (t : Trie α) {n m : Nat} (v : α) (h : m ≠ n) : (t.set n v).get m = t.get m := by rw [Trie.get_set, if_neg h]

end Go.Proofs.YtoejmfiaaigpbaaGreatDoor.Ev

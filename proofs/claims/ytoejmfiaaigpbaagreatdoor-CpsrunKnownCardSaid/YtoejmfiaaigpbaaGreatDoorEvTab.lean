/- Part of a verified evaluator of the model's code, generic over the program: a run of the evaluator that answers shows what the model's run answers. No conditions of its own. -/
import Derived.Test.YtoejmfiaaigpbaaGreatDoorEvDrawA
namespace Go.Proofs.YtoejmfiaaigpbaaGreatDoor.Ev
open Go.RowKit (Below)

/-- of each function in the table this is so -/
def TOk (Q : Nat → IFunc → Prop) : Nat → Nat → Trie IFunc → Prop
  | _, _, .leaf => True
  | a, b, .node v l r => (match v with | some F => Q b F | none => True) ∧ TOk Q (2 * a) (a + b) l ∧ TOk Q (2 * a) (2 * a + b) r

theorem TOk.get {Q : Nat → IFunc → Prop} : ∀ {t : Trie IFunc} {a b n : Nat} {F : IFunc}, TOk Q a b t → t.get n = some F → Q (a * n + b) F
  | .leaf, _, _, _, _, _, h => by simp [Trie.get] at h
  | .node v l r, a, b, n, F, ⟨h1, h2, h3⟩, h => by
    match n with
    | 0 =>
      simp only [Trie.get] at h
      subst h
      simpa using h1
    | m + 1 =>
      simp only [Trie.get] at h
      by_cases e : (m + 1) % 2 = 1
      · have e1 : Nat.beq (Nat.mod (m + 1) 2) 1 = true := by show Nat.beq ((m + 1) % 2) 1 = true; rw [e]; rfl
        rw [e1] at h
        have := h2.get (n := (m + 1) / 2) h
        have e2 : 2 * a * ((m + 1) / 2) + (a + b) = a * (m + 1) + b := by
          have : m + 1 = 2 * ((m + 1) / 2) + 1 := by omega
          generalize (m + 1) / 2 = k at this ⊢
          rw [this, Nat.mul_add, Nat.mul_one, Nat.mul_comm 2 a, Nat.mul_assoc, Nat.add_assoc]
        rw [e2] at this; exact this
      · have e1 : Nat.beq (Nat.mod (m + 1) 2) 1 = false := by
          show Nat.beq ((m + 1) % 2) 1 = false
          have : (m + 1) % 2 = 0 := by omega
          rw [this]; rfl
        rw [e1] at h
        have := h3.get (n := Nat.pred ((m + 1) / 2)) h
        have e2 : 2 * a * (Nat.pred ((m + 1) / 2)) + (2 * a + b) = a * (m + 1) + b := by
          have : m + 1 = 2 * (Nat.pred ((m + 1) / 2)) + 2 := by simp only [Nat.pred_eq_sub_one]; omega
          generalize Nat.pred ((m + 1) / 2) = k at this ⊢
          rw [this, Nat.mul_add, Nat.mul_comm 2 a, Nat.mul_assoc, ← Nat.add_assoc]
        rw [e2] at this; exact this

def Q (P : Program) (k : Nat) (F : IFunc) : Prop := ∃ fn, P.funcs[k]? = some fn ∧ cFunc P fn = some F

theorem envOk_of {P : Program} {E : Env} (h : TOk (Q P) 1 0 E.funs) : EnvOk P E := fun f F hf => by
  have := h.get hf
  rw [Nat.one_mul, Nat.add_zero] at this; exact this

def okB : Option (AV × St) → Bool
  | some (.bool true, _) => true
  | _ => false
theorem okB_some {r : Option (AV × St)} (h : okB r = true) : ∃ s, r = some (.bool true, s) := by
  match r, h with
  | some (.bool true, s), _ => exact ⟨s, rfl⟩

/-- no package-level variable is looked at -/
theorem globRel_nil (w : World) : GlobRel [] w := fun g cs h _ => by simp at h

theorem walk_of {P : Program} {E : Env} {w : World} (hm : P.follows .mixedOrders = true) (hg : E.globs = []) (hE : TOk (Q P) 1 0 E.funs) {n f : Nat} (h : okB ((ev E n).call f [] s0) = true) :
    Calls P f #[] w fun e w' => e = .returned (.bool true) ∧ Below w.heap.size w w' := by
  obtain ⟨s, hs⟩ := okB_some h
  exact walk_true hm (by rw [hg]; exact globRel_nil w) (envOk_of hE) hs

end Go.Proofs.YtoejmfiaaigpbaaGreatDoor.Ev

/- Part of a verified evaluator of the model's code, generic over the program: a run of the evaluator that answers shows what the model's run answers. No conditions of its own. -/
import Derived.Test.YtoejmfiaaigpbaaGreatDoorEvDraw5
namespace Go.Proofs.YtoejmfiaaigpbaaGreatDoor.Ev
open Go.RowKit (Below)

/-! ### What the compiler looked at -/
theorem okBack_lt : ∀ {l : List Nat} {i k d : Nat}, okBack i l = true → l[k]? = some d → ∀ j, d.testBit j = true → j < i + k
  | [], _, k, d, _, h, _, _ => by simp at h
  | x :: r, i, 0, d, h, hd, j, hb => by
    simp only [okBack, Bool.and_eq_true, blt_iff] at h
    simp only [List.getElem?_cons_zero, Option.some.injEq] at hd; subst hd
    apply Nat.lt_of_not_le
    intro hle
    have h1 : x < 2 ^ j := Nat.lt_of_lt_of_le h.1 (Nat.pow_le_pow_right (by omega) (by omega))
    rw [Nat.testBit_lt_two_pow h1] at hb; cases hb
  | x :: r, i, k + 1, d, h, hd, j, hb => by
    simp only [okBack, Bool.and_eq_true] at h
    have := okBack_lt (k := k) h.2 (by simpa using hd) j hb
    omega

theorem okPairs_bit {i : Nat} {p : SOper} : ∀ {l : List SOper} {ds : List Nat} {k : Nat} {q : SOper} {d : Nat}, okPairs i p l ds = true → l[k]? = some q → ds[k]? = some d → clash p q = true → d.testBit i = true
  | [], _, k, q, d, _, h, _, _ => by simp at h
  | b :: r, [], k, q, d, h, _, _, _ => by simp [okPairs] at h
  | b :: r, x :: xs, 0, q, d, h, hq, hd, hc => by
    simp only [List.getElem?_cons_zero, Option.some.injEq] at hq hd; subst hq; subst hd
    simp only [okPairs, Bool.and_eq_true, Bool.or_eq_true, Bool.not_eq_true'] at h
    rcases h.1 with h1 | h1
    · rw [hc] at h1; cases h1
    · exact h1
  | b :: r, x :: xs, k + 1, q, d, h, hq, hd, hc => by
    simp only [okPairs, Bool.and_eq_true] at h
    exact okPairs_bit (k := k) h.2 (by simpa using hq) (by simpa using hd) hc
theorem okAll_bit : ∀ {l : List SOper} {ds : List Nat} {i j k : Nat} {p q : SOper} {d : Nat}, okAll i l ds = true → j < k → l[j]? = some p → l[k]? = some q → ds[k]? = some d → clash p q = true → d.testBit (i + j) = true
  | [], _, i, j, k, p, q, d, _, _, h, _, _, _ => by simp at h
  | a :: r, [], i, j, k, p, q, d, h, _, _, _, _, _ => by simp [okAll] at h
  | a :: r, x :: xs, i, j, 0, p, q, d, h, hjk, hp, hq, hd, hc => by omega
  | a :: r, x :: xs, i, 0, k + 1, p, q, d, h, hjk, hp, hq, hd, hc => by
    simp only [List.getElem?_cons_zero, Option.some.injEq] at hp; subst hp
    simp only [okAll, Bool.and_eq_true] at h
    exact okPairs_bit (k := k) h.1 (by simpa using hq) (by simpa using hd) hc
  | a :: r, x :: xs, i, j + 1, k + 1, p, q, d, h, hjk, hp, hq, hd, hc => by
    simp only [okAll, Bool.and_eq_true] at h
    have := okAll_bit (j := j) (k := k) h.2 (by omega) (by simpa using hp) (by simpa using hq) (by simpa using hd) hc
    rw [show i + (j + 1) = i + 1 + j by omega]; exact this

theorem mkD_get : ∀ {l : List SOper} {ds : List Nat} {i : Nat} {d : DOper}, (mkD l ds)[i]? = some d ↔ l[i]? = some d.o ∧ ds[i]? = some d.deps
  | [], ds, i, d => by simp [mkD]
  | a :: r, [], i, d => by simp [mkD]
  | a :: r, x :: xs, 0, d => by
    simp only [mkD, List.getElem?_cons_zero, Option.some.injEq]
    constructor
    · rintro rfl; exact ⟨rfl, rfl⟩
    · rintro ⟨rfl, rfl⟩; rfl
  | a :: r, x :: xs, i + 1, d => by simp only [mkD, List.getElem?_cons_succ]; exact mkD_get
theorem mkD_length : ∀ {l : List SOper} {ds : List Nat}, l.length = ds.length → (mkD l ds).length = l.length
  | [], ds, _ => by simp [mkD]
  | a :: r, [], h => by simp at h
  | a :: r, x :: xs, h => by simp only [mkD, List.length_cons]; rw [mkD_length (by simpa using h)]

theorem cSs_get {P : Program} {nt : Nat} {ops : Array Oper} : ∀ {rs : List Oper} {l : List SOper}, cSs P nt ops rs = some l → l.length = rs.length ∧ ∀ (i : Nat) (o : Oper), rs[i]? = some o → ∃ so, l[i]? = some so ∧ cS P nt ops o = some so
  | [], l, h => by simp [cSs] at h; subst h; exact ⟨rfl, (fun i o h => by simp at h)⟩
  | r :: rs, l, h => by
    simp only [cSs] at h
    split at h
    · rename_i a l' h1 h2
      simp only [Option.some.injEq] at h; subst h
      obtain ⟨k1, k2⟩ := cSs_get h2
      refine ⟨by simp [k1], fun i o ho => ?_⟩
      cases i with
      | zero => simp only [List.getElem?_cons_zero, Option.some.injEq] at ho; subst ho; exact ⟨a, by simp, h1⟩
      | succ i => obtain ⟨so, k3, k4⟩ := k2 i o (by simpa using ho); exact ⟨so, by simpa using k3, k4⟩
    · cases h

end Go.Proofs.YtoejmfiaaigpbaaGreatDoor.Ev

/- Part of a verified evaluator of the model's code, generic over the program: a run of the evaluator that answers shows what the model's run answers. No conditions of its own. -/
import Derived.Test.YtoejmfiaaigpbaaGreatDoorEvTrie
import Derived.Test.YtoejmfiaaigpbaaGreatDoorEvComp
import Derived.Below
namespace Go.Proofs.YtoejmfiaaigpbaaGreatDoor.Ev
open Go.RowKit (Below)

structure Blk where
  b : Nat
  o : Nat
  tot : Nat

abbrev Phi := Nat → Option Blk

def nats (s : ByteArray) : List Nat := s.data.toList.map (·.toNat)

mutual
/-- an abstract value, and a value of the model -/
def VR (φ : Phi) : AV → Value → Prop
  | .bool b, x => x = .bool b
  | .int k n, x => x = .int k n
  | .str l, x => ∃ s, x = .string s ∧ nats s = l
  | .ptr id off, x => ∃ B, φ id = some B ∧ x = .pointer (some ⟨B.b, B.o + off, none⟩)
  | .nilp, x => x = .pointer none
  | .gptr g off, x => x = .pointer (some ⟨g, off, none⟩)
  | .sl id off len c, x => ∃ B k, φ id = some B ∧ x = .slice (some ⟨B.b, B.o + off, none⟩) len k ∧ (match c with
      | .fix n => k = n
      | .opn e => 0 < e ∧ k = (B.tot - off) / e ∧ len ≤ k ∧ off ≤ B.tot)
  | .sl0, x => ∃ a k, x = .slice (some a) 0 k
  | .nils, x => x = .slice none 0 0
  | .map id, x => ∃ B, φ id = some B ∧ x = .map (some B.b)
  | .nilm, x => x = .map none
  | .fn f a c, x => ∃ xs ys, x = .func (.func f) (List.toArray xs) (List.toArray ys) ∧ VRL φ a xs ∧ VRL φ c ys
  | .nilf, x => x = .nilFunc
  | .yld l, x => ∃ B, φ l = some B ∧ x = .func (.yield B.b) #[] #[]
  | .ifc t v, x => ∃ y, x = .iface t y ∧ VR φ v y
  | .nili, x => x = .nilIface
  | .agg cs, x => ∃ xs, x = .agg (List.toArray xs) ∧ VRL φ cs xs
  | .tup vs, x => ∃ xs, x = .tuple (List.toArray xs) ∧ VRL φ vs xs
def VRL (φ : Phi) : List AV → List Value → Prop
  | [], ys => ys = []
  | v :: vs, ys => ∃ y ys', ys = y :: ys' ∧ VR φ v y ∧ VRL φ vs ys'
end

/-- φ' says what φ says, and more -/
def Sub (φ φ' : Phi) : Prop := ∀ id B, φ id = some B → φ' id = some B

mutual
theorem VR.mono {φ φ' : Phi} (h : Sub φ φ') : ∀ (v : AV) (x : Value), VR φ v x → VR φ' v x
  | .bool _, _, hv => by simpa [VR] using hv
  | .int _ _, _, hv => by simpa [VR] using hv
  | .str _, _, hv => by simpa [VR] using hv
  | .ptr _ _, _, hv => by simp only [VR] at *; obtain ⟨B, hB, e⟩ := hv; exact ⟨B, h _ _ hB, e⟩
  | .nilp, _, hv => by simpa [VR] using hv
  | .gptr _ _, _, hv => by simpa [VR] using hv
  | .sl _ _ _ _, _, hv => by simp only [VR] at *; obtain ⟨B, k, hB, e⟩ := hv; exact ⟨B, k, h _ _ hB, e⟩
  | .sl0, _, hv => by simpa [VR] using hv
  | .nils, _, hv => by simpa [VR] using hv
  | .map _, _, hv => by simp only [VR] at *; obtain ⟨B, hB, e⟩ := hv; exact ⟨B, h _ _ hB, e⟩
  | .nilm, _, hv => by simpa [VR] using hv
  | .fn _ a c, _, hv => by
    simp only [VR] at *; obtain ⟨xs, ys, e, h1, h2⟩ := hv
    exact ⟨xs, ys, e, VRL.mono h a xs h1, VRL.mono h c ys h2⟩
  | .nilf, _, hv => by simpa [VR] using hv
  | .yld _, _, hv => by simp only [VR] at *; obtain ⟨B, hB, e⟩ := hv; exact ⟨B, h _ _ hB, e⟩
  | .ifc _ v, _, hv => by simp only [VR] at *; obtain ⟨y, e, h1⟩ := hv; exact ⟨y, e, VR.mono h v y h1⟩
  | .nili, _, hv => by simpa [VR] using hv
  | .agg cs, _, hv => by simp only [VR] at *; obtain ⟨xs, e, h1⟩ := hv; exact ⟨xs, e, VRL.mono h cs xs h1⟩
  | .tup cs, _, hv => by simp only [VR] at *; obtain ⟨xs, e, h1⟩ := hv; exact ⟨xs, e, VRL.mono h cs xs h1⟩
theorem VRL.mono {φ φ' : Phi} (h : Sub φ φ') : ∀ (l : List AV) (ys : List Value), VRL φ l ys → VRL φ' l ys
  | [], _, hv => by simpa [VRL] using hv
  | v :: vs, _, hv => by
    simp only [VRL] at *
    obtain ⟨y, ys', e, h1, h2⟩ := hv
    exact ⟨y, ys', e, VR.mono h v y h1, VRL.mono h vs ys' h2⟩
end

theorem VRL.nil (φ : Phi) : VRL φ [] [] := by simp [VRL]
theorem VRL.cons {φ : Phi} {v : AV} {y : Value} {vs : List AV} {ys : List Value} (h : VR φ v y) (t : VRL φ vs ys) : VRL φ (v :: vs) (y :: ys) := by
  simp only [VRL]; exact ⟨y, ys, rfl, h, t⟩
theorem VRL.length {φ : Phi} : ∀ {vs : List AV} {ys : List Value}, VRL φ vs ys → vs.length = ys.length
  | [], _, h => by simp only [VRL] at h; subst h; rfl
  | _ :: vs, _, h => by
    simp only [VRL] at h; obtain ⟨y, ys', rfl, _, h2⟩ := h
    simp [VRL.length h2]
theorem VRL.append {φ : Phi} : ∀ {vs : List AV} {ys : List Value} {us : List AV} {zs : List Value}, VRL φ vs ys → VRL φ us zs → VRL φ (vs ++ us) (ys ++ zs)
  | [], _, _, _, h, h' => by simp only [VRL] at h; subst h; exact h'
  | _ :: vs, _, _, _, h, h' => by
    simp only [VRL] at h; obtain ⟨y, ys', rfl, h1, h2⟩ := h
    exact VRL.cons h1 (VRL.append h2 h')
theorem VRL.split {φ : Phi} : ∀ {vs us : List AV} {ys : List Value}, VRL φ (vs ++ us) ys → ∃ y1 y2, ys = y1 ++ y2 ∧ VRL φ vs y1 ∧ VRL φ us y2
  | [], us, ys, h => ⟨[], ys, rfl, VRL.nil φ, h⟩
  | v :: vs, us, ys, h => by
    rw [List.cons_append] at h; simp only [VRL] at h
    obtain ⟨y, ys', rfl, h1, h2⟩ := h
    obtain ⟨y1, y2, rfl, h3, h4⟩ := VRL.split h2
    exact ⟨y :: y1, y2, rfl, VRL.cons h1 h3, h4⟩

/-! ### takeN, dropN, cut, over, paste, lenN -/
theorem lenN_eq {α : Type} : ∀ l : List α, lenN l = l.length
  | [] => rfl
  | _ :: r => by show Nat.succ (lenN r) = _; rw [lenN_eq r]; rfl
theorem takeN_some : ∀ {n : Nat} {l m : List AV}, takeN n l = some m → ∃ r, l = m ++ r ∧ m.length = n
  | 0, l, m, h => by simp [takeN] at h; subst h; exact ⟨l, rfl, rfl⟩
  | n + 1, [], m, h => by simp [takeN] at h
  | n + 1, v :: l, m, h => by
    simp only [takeN] at h
    cases ht : takeN n l with
    | none => rw [ht] at h; simp at h
    | some k =>
      rw [ht] at h; simp at h; subst h
      obtain ⟨r, e, hl⟩ := takeN_some ht
      exact ⟨r, by rw [e]; rfl, by simp [hl]⟩
theorem dropN_eq : ∀ (n : Nat) (l : List AV), dropN n l = l.drop n
  | 0, l => rfl
  | n + 1, [] => rfl
  | n + 1, _ :: l => by show dropN n l = _; rw [dropN_eq n l]; rfl
theorem cut_some {l m : List AV} {off n : Nat} (h : cut l off n = some m) : m.length = n ∧ ((off + n ≤ l.length ∨ n = 0) ∧ m = (l.drop off).take n) := by
  unfold cut at h
  obtain ⟨r, e, hl⟩ := takeN_some h
  rw [dropN_eq] at e
  refine ⟨hl, ?_, ?_⟩
  · by_cases h0 : n = 0
    · exact .inr h0
    · left
      have := congrArg List.length e
      simp at this
      omega
  · rw [e, ← hl]; simp
theorem over_some : ∀ {l vs r : List AV}, over l vs = some r → vs.length ≤ l.length ∧ r = vs ++ l.drop vs.length
  | l, [], r, h => by cases l <;> simp [over] at h <;> subst h <;> simp
  | [], _ :: _, r, h => by simp [over] at h
  | _ :: l, v :: vs, r, h => by
    simp only [over] at h
    cases ht : over l vs with
    | none => rw [ht] at h; simp at h
    | some k =>
      rw [ht] at h; simp at h; subst h
      obtain ⟨h1, rfl⟩ := over_some ht
      exact ⟨by simp; exact h1, by simp⟩
theorem paste_some : ∀ {l : List AV} {off : Nat} {vs r : List AV}, paste l off vs = some r → (off + vs.length ≤ l.length ∨ vs = []) ∧ r = l.take off ++ vs ++ l.drop (off + vs.length)
  | l, 0, vs, r, h => by
    cases l <;> simp only [paste] at h <;> obtain ⟨h1, rfl⟩ := over_some h <;> exact ⟨.inl (by simpa using h1), by simp⟩
  | [], n + 1, vs, r, h => by
    cases vs with
    | nil => simp [paste] at h; subst h; exact ⟨.inr rfl, by simp⟩
    | cons _ _ => simp [paste] at h
  | v :: l, n + 1, vs, r, h => by
    simp only [paste] at h
    cases ht : paste l n vs with
    | none => rw [ht] at h; simp at h
    | some k =>
      rw [ht] at h; simp at h; subst h
      obtain ⟨h1, rfl⟩ := paste_some ht
      refine ⟨?_, ?_⟩
      · rcases h1 with h1 | h1
        · left; simp; omega
        · exact .inr h1
      · have : n + 1 + vs.length = (n + vs.length) + 1 := by omega
        rw [this]; simp
theorem reps_length (z : List AV) : ∀ n, (reps n z).length = n * z.length
  | 0 => by simp [reps]
  | n + 1 => by simp [reps, reps_length z n, Nat.succ_mul, Nat.add_comm]

theorem VRL.take {φ : Phi} {vs : List AV} {ys : List Value} (h : VRL φ vs ys) (n : Nat) : VRL φ (vs.take n) (ys.take n) := by
  induction n generalizing vs ys with
  | zero => simpa using VRL.nil φ
  | succ n ih =>
    cases vs with
    | nil => simp only [VRL] at h; subst h; simpa using VRL.nil φ
    | cons v vs => simp only [VRL] at h; obtain ⟨y, ys', rfl, h1, h2⟩ := h; simpa using VRL.cons h1 (ih h2)
theorem VRL.drop {φ : Phi} {vs : List AV} {ys : List Value} (h : VRL φ vs ys) (n : Nat) : VRL φ (vs.drop n) (ys.drop n) := by
  induction n generalizing vs ys with
  | zero => simpa using h
  | succ n ih =>
    cases vs with
    | nil => simp only [VRL] at h; subst h; simpa using VRL.nil φ
    | cons v vs => simp only [VRL] at h; obtain ⟨y, ys', rfl, h1, h2⟩ := h; simpa using ih h2
theorem VRL.cut {φ : Phi} {vs m : List AV} {ys : List Value} {off n : Nat} (h : VRL φ vs ys) (hc : Ev.cut vs off n = some m) : VRL φ m ((ys.drop off).take n) := by
  obtain ⟨_, _, rfl⟩ := cut_some hc
  exact (h.drop off).take n
theorem VRL.get {φ : Phi} : ∀ {vs : List AV} {ys : List Value} {i : Nat} {v : AV}, VRL φ vs ys → vs[i]? = some v → ∃ y, ys[i]? = some y ∧ VR φ v y
  | [], _, _, _, _, hi => by simp at hi
  | u :: vs, _, i, v, h, hi => by
    simp only [VRL] at h; obtain ⟨y, ys', rfl, h1, h2⟩ := h
    cases i with
    | zero => simp at hi; subst hi; exact ⟨y, rfl, h1⟩
    | succ i => simp at hi; simpa using VRL.get h2 hi
theorem VRL.reps {φ : Phi} {z : List AV} {zs : List Value} (h : VRL φ z zs) : ∀ n, VRL φ (Ev.reps n z) (List.replicate n zs).flatten
  | 0 => by simpa [Ev.reps] using VRL.nil φ
  | n + 1 => by rw [List.replicate_succ, List.flatten_cons]; exact VRL.append h (VRL.reps h n)

theorem VR.cells {φ : Phi} {v : AV} {x : Value} (h : VR φ v x) : VRL φ v.cells x.cells.toList := by
  cases v <;> simp only [VR] at h <;>
    first
      | (obtain ⟨xs, rfl, h⟩ := h; simpa [AV.cells, Value.cells] using h)
      | (subst h; exact VRL.cons (by simp [VR]) (VRL.nil φ))
      | skip
  case str l => obtain ⟨s, rfl, h⟩ := h; exact VRL.cons (by simp only [VR]; exact ⟨s, rfl, h⟩) (VRL.nil φ)
  case ptr id off => obtain ⟨B, hB, rfl⟩ := h; exact VRL.cons (by simp only [VR]; exact ⟨B, hB, rfl⟩) (VRL.nil φ)
  case sl id off len c => obtain ⟨B, k, hB, rfl, h⟩ := h; exact VRL.cons (by simp only [VR]; exact ⟨B, k, hB, rfl, h⟩) (VRL.nil φ)
  case sl0 => obtain ⟨a, k, rfl⟩ := h; exact VRL.cons (by simp only [VR]; exact ⟨a, k, rfl⟩) (VRL.nil φ)
  case map id => obtain ⟨B, hB, rfl⟩ := h; exact VRL.cons (by simp only [VR]; exact ⟨B, hB, rfl⟩) (VRL.nil φ)
  case fn f a c => obtain ⟨xs, ys, rfl, h1, h2⟩ := h; exact VRL.cons (by simp only [VR]; exact ⟨xs, ys, rfl, h1, h2⟩) (VRL.nil φ)
  case yld l => obtain ⟨B, hB, rfl⟩ := h; exact VRL.cons (by simp only [VR]; exact ⟨B, hB, rfl⟩) (VRL.nil φ)
  case ifc t v => obtain ⟨y, rfl, h⟩ := h; exact VRL.cons (by simp only [VR]; exact ⟨y, rfl, h⟩) (VRL.nil φ)
  case tup vs => obtain ⟨xs, rfl, h⟩ := h; exact VRL.cons (by simp only [VR]; exact ⟨xs, rfl, h⟩) (VRL.nil φ)

end Go.Proofs.YtoejmfiaaigpbaaGreatDoor.Ev

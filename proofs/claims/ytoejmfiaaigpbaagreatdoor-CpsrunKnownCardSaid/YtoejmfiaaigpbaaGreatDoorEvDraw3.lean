/- Part of a verified evaluator of the model's code, generic over the program: a run of the evaluator that answers shows what the model's run answers. No conditions of its own. -/
import Derived.Test.YtoejmfiaaigpbaaGreatDoorEvDraw2
namespace Go.Proofs.YtoejmfiaaigpbaaGreatDoor.Ev
open Go.RowKit (Below)

theorem hid_ge : ∀ {h : List (Nat × Nat)} {n id : Nat}, (∀ p ∈ h, p.2 ≤ n) → n ≤ id → hid h id = false
  | [], _, _, _, _ => rfl
  | p :: r, n, id, hp, hle => by
    have h1 := hp p (by simp)
    simp only [hid]
    rw [show Nat.blt id p.2 = false from blt_false (by omega), hid_ge (fun q hq => hp q (by simp [hq])) hle]
    cases Nat.ble p.1 id <;> rfl

theorem hidden_wf {deps n : Nat} {h : List (Nat × Nat)} : ∀ {log : List LogE}, (∀ p ∈ h, p.2 ≤ n) → (∀ e ∈ log, e.hi ≤ n) → ∀ p ∈ hiddenOf deps log h, p.2 ≤ n
  | [], hh, _, p, hp => hh p hp
  | e :: r, hh, hl, p, hp => by
    simp only [hiddenOf] at hp
    cases hb : (Nat.beq e.lo e.hi || deps.testBit e.idx) with
    | true => rw [hb] at hp; simp only [cond_true] at hp; exact hidden_wf hh (fun e' he' => hl e' (by simp [he'])) p hp
    | false =>
      rw [hb] at hp; simp only [cond_false, List.mem_cons] at hp
      rcases hp with rfl | hp
      · exact hl e (by simp)
      · exact hidden_wf hh (fun e' he' => hl e' (by simp [he'])) p hp

section
variable {E : Env} {S : Self} {ds : List DOper} {R : Tr E S ds}

theorem Tr.begWf (hS : ExtS S) (ok : R.Ok) {i : Nat} (hi : i < ds.length) (d : DOper) : Wf (begD d (R.L i) (R.T i) (R.W i)) := by
  obtain ⟨f1, f2, f3, f4, f5⟩ := R.facts hS ok i (by omega)
  exact ⟨f2.lt, fun p hp => hidden_wf f2.hd f4 p hp⟩

/-- what an operation lays or writes, it sees -/
theorem Tr.wr_seen (hS : ExtS S) (ok : R.Ok) {i id : Nat} (hi : i < ds.length) {d : DOper} (hd : ds[i]? = some d) (h : R.wr i id) : seen (begD d (R.L i) (R.T i) (R.W i)) id = true := by
  obtain ⟨v, t, hv, h1⟩ := h
  obtain ⟨_, g2, _, _, _, g6⟩ := R.run i d v t hd hv
  have hx := evOp_ext hS g2
  rcases h1 with ⟨h1, h2⟩ | ⟨h1, h2⟩
  · have hh := hid_ge (R.begWf hS ok hi d).hd (id := id) h1
    unfold seen
    cases ht : touch d.o.op (R.T i) with
    | none => simp only [begD, ht, Option.map_none]; simp only [begD] at hh; rw [hh]; rfl
    | some l =>
      simp only [begD, ht, Option.map_some]; simp only [begD] at hh; rw [hh]
      rw [show Nat.ble (R.W i).next id = true from ble_iff.2 h1]; rfl
  · rcases hx.wv id h1 h2 with h3 | h3
    · simp [begD] at h3
    · exact h3

/-- two that write one block are ordered -/
theorem Tr.wr_order (hS : ExtS S) (ok : R.Ok) {i k id : Nat} (hik : i < k) (hk : k < ds.length) {dk : DOper} (hdk : ds[k]? = some dk) (h1 : R.wr i id) (h2 : R.wr k id) : dk.deps.testBit i = true := by
  cases hb : dk.deps.testBit i with
  | true => rfl
  | false =>
    exfalso
    have hsee := R.wr_seen hS ok hk hdk h2
    have hlt1 := R.wr_lt hS ok (by omega) h1
    have hle := R.next_le hS ok (i := i + 1) (j := k) (by omega) (by omega)
    obtain ⟨di, hdi⟩ := getSome (ds := ds) (i := i) (by omega)
    obtain ⟨vi, ti, hvi, hwi⟩ := h1
    obtain ⟨vk, tk, hvk, hwk⟩ := h2
    obtain ⟨_, _, k3, _⟩ := R.run k dk vk tk hdk hvk
    have hmem := R.logged hS ok hdi hvi (i := k) hik (by omega)
    rcases hwi with ⟨q1, q2⟩ | ⟨q1, q2⟩
    · have := hidden_mem (deps := dk.deps) (h := (R.W k).hide) (id := id) _ hmem hb q1 q2
      unfold seen at hsee
      simp only [begD] at hsee
      split at hsee
      · rw [this] at hsee; cases hsee
      · rw [this] at hsee; cases hsee
    · obtain ⟨_, hc⟩ := compat_mem k3 _ hmem hb
      have hbit : (logOf i di (R.T i) (R.W i) ti).wm.testBit id = true := by
        show (oldMask ti.wm (R.W i).next).testBit id = true
        rw [oldMask_bit, q2]; simp [q1]
      rcases hc with hc | hc
      · rw [hc] at hbit; simp at hbit
      · cases ht : touch dk.o.op (R.T k) with
        | none => rw [ht] at hc; simp [offMask] at hc
        | some l =>
          rw [ht] at hc
          have hin : id ∈ l := by
            unfold seen at hsee
            simp only [begD, ht, Option.map_some, Bool.and_eq_true, Bool.or_eq_true] at hsee
            rcases hsee.2 with h3 | h3
            · rw [ble_iff] at h3; omega
            · rw [memN_eq, List.contains_iff_mem] at h3; exact h3
          rw [offMask_mem hc hin] at hbit; cases hbit

theorem Tr.cur_split (hS : ExtS S) (ok : R.Ok) {D : Nat → Prop} (hcl : Closed ds D) {i : Nat} (hr : Ready (ds := ds) D i) {id : Nat} {o : AObj} (h : R.cur (more D i) id o) :
    (R.wr i id ∧ (R.W (i + 1)).objs.get id = some o) ∨ (¬ R.wr i id ∧ R.cur D id o) := by
  obtain ⟨h0, m, hm, h1, h2, h3⟩ := h
  by_cases hw : R.wr i id
  · left
    refine ⟨hw, ?_⟩
    have him : i < m := by
      apply Nat.lt_of_not_le
      intro hle
      exact h2 i hle hr.lt hw (.inr rfl)
    rw [← h3]
    refine (R.keepN hS ok (i := i + 1) (j := m) (by omega) hm fun k hk1 hk2 hwk => ?_).symm
    have hDk : D k := (h1 k hk2 hwk).resolve_right (by omega)
    obtain ⟨dk, hdk⟩ := getSome (ds := ds) (i := k) (by omega)
    exact hr.new (hcl.dep k dk i hDk hdk (R.wr_order hS ok (by omega) (by omega) hdk hw hwk) hr.lt)
  · right
    refine ⟨hw, h0, m, hm, fun j hj hwj => (h1 j hj hwj).resolve_right (fun e => hw (e ▸ hwj)), fun j hj hjn hwj hD => h2 j hj hjn hwj (.inl hD), h3⟩

end
end Go.Proofs.YtoejmfiaaigpbaaGreatDoor.Ev

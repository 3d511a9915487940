/- Part of a verified evaluator of the model's code, generic over the program: a run of the evaluator that answers shows what the model's run answers. No conditions of its own. -/
import Derived.Test.YtoejmfiaaigpbaaGreatDoorEvDraw9
namespace Go.Proofs.YtoejmfiaaigpbaaGreatDoor.Ev
open Go.RowKit (Below)

/-- THE REGIONS THAT DRAW THEIR ORDER. -/
theorem draw_ok {P : Program} {w0 : World} {E : Env} (hm : P.follows .mixedOrders = true) (hG : GlobRel E.globs w0) (S : Self) (hS : SelfOk P w0 S) : DrawOk P w0 E S := by
  intro id nt ops ds tm tm' s s' φ w a F n Q hc hon he r hwf hf ht hsz hF hQ
  obtain ⟨R, t1, t2, t3, t4, t5⟩ := trace he
  have ok : R.Ok := ⟨t1, by rw [t3]; exact hon, by rw [t3]; exact hwf⟩
  obtain ⟨c1, c2, c3, c4⟩ := cRegD_inv hc
  have hno : ∀ i, ¬ LD (Array.replicate ops.size false) i := fun i h => by
    unfold LD at h
    rw [Array.getD_eq_getD_getElem?, Array.getElem?_replicate] at h
    split at h <;> simp at h
  have hcur : ∀ {id o}, R.cur (LD (Array.replicate ops.size false)) id o → s.get id = some o := fun {id o} h => by
    obtain ⟨h0, m, hm, h1, _, h3⟩ := h
    have hk := R.keepN hS.ext ok (id := id) (i := 0) (j := m) (Nat.zero_le _) hm (fun k _ hk hw => hno k (h1 k hk hw))
    rw [h3, t3] at hk
    have hlt := hwf.lt id o hk.symm
    rw [t3] at h0
    rw [get_eq, h0 hlt]; exact hk.symm
  have hfin : ∀ φ' w' a', Inv R P w0 φ w nt a (fun i => i < ds.length) φ' w' a' → Q .normal a' w' := fun φ' w' a' inv => by
    have hcf : ∀ {id o}, s'.get id = some o → R.cur (fun i => i < ds.length) id o := fun {id o} h => by
      obtain ⟨f1, f2, f3, _⟩ := R.facts hS.ext ok ds.length (Nat.le_refl _)
      refine ⟨fun _ => ?_, ds.length, Nat.le_refl _, fun j hj _ => hj, fun j h1 h2 _ _ => by omega, by rw [t5]; exact get_some h⟩
      rw [← seen_congr f3 (f1.trans ok.only.symm), t5]; exact seen_of_get h
    have hext := (R.facts hS.ext ok ds.length (Nat.le_refl _)).2.2.2.2
    rw [t3, t5] at hext
    refine hQ φ' a' w' ⟨hext, ⟨inv.base, fun id o h => inv.obj id o (hcf h), inv.rng, fun id o B h => inv.old id o B (hcf h), fun id id' o o' B B' h h' => inv.inj id id' o o' B B' (hcf h) (hcf h')⟩, ?_, inv.grow, ?_, ?_⟩ ⟨?_, inv.size, inv.df⟩
    · have := inv.out; rw [t3, t5] at this; exact this
    · have := inv.frame; rw [t3, t5] at this; exact this
    · have := inv.own; rw [t3, t5] at this; exact this
    · intro k v hv
      exact inv.tmp k v ds.length (Nat.le_refl _) (fun j hj _ => hj) (fun j h1 h2 _ _ => by omega) (by rw [t4]; exact hv)
  refine wpIn_region_any hm (draw_all hS hG hc ok hF hfin ops.size _ φ _ a (List.range ops.size) (by simp) (by simp) (fun i hi _ => by simpa using hi) ⟨fun i _ _ h => absurd h (hno i)⟩ ?_)
  have r' : Rel P w0 φ s.get { w with drawn := w.drawn + 1 } := Rel.congr (w := w) rfl rfl rfl rfl r
  refine ⟨r'.base, fun id o h => r'.obj id o (hcur h), r'.rng, fun id o B h => r'.old id o B (hcur h), fun id id' o o' B B' h h' => r'.inj id id' o o' B B' (hcur h) (hcur h'), fun _ _ => rfl, fun i hi _ id h1 h2 => ?_, fun k v m hmN h1 _ hv => ?_, hsz, rfl, Nat.le_refl _, fun id B h1 h2 hB => ?_, fun b _ _ => rfl⟩
  · refine hf id ?_ ?_
    · have := R.next_le hS.ext ok (i := 0) (j := i) (Nat.zero_le _) (Nat.le_of_lt hi); rw [t3] at this; omega
    · have := R.next_le hS.ext ok (i := i + 1) (j := ds.length) hi (Nat.le_refl _); rw [t5] at this; omega
  · have key : ∀ q, q ≤ m → (R.T q).get k = (R.T 0).get k := by
      intro q
      induction q with
      | zero => intro _; rfl
      | succ q ih =>
        intro hq
        obtain ⟨dq, hdq⟩ := getSome (ds := ds) (i := q) (by omega)
        rw [R.T_other hdq (fun e => hno q (h1 q (by omega) ⟨dq, hdq, e⟩))]
        exact ih (by omega)
    rw [key m (Nat.le_refl _), t2] at hv
    exact ht k v hv
  · rw [t3] at h1; rw [t5] at h2
    rw [hf id h1 h2] at hB; cases hB

/-- THE WALK, BY EVALUATION. -/
theorem walk_true {P : Program} {E : Env} {w : World} (hm : P.follows .mixedOrders = true) (hG : GlobRel E.globs w) (hE : EnvOk P E) {n f : Nat} {s' : St} (h : (ev E n).call f [] s0 = some (.bool true, s')) :
    Calls P f #[] w fun e w' => e = .returned (.bool true) ∧ Below w.heap.size w w' :=
  calls_true hG hE (fun S hS => draw_ok hm hG S hS) h

end Go.Proofs.YtoejmfiaaigpbaaGreatDoor.Ev

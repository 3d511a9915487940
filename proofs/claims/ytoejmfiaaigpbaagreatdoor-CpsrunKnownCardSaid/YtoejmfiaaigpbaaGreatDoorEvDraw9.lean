/- Part of a verified evaluator of the model's code, generic over the program: a run of the evaluator that answers shows what the model's run answers. No conditions of its own. -/
import Derived.Test.YtoejmfiaaigpbaaGreatDoorEvDraw8
namespace Go.Proofs.YtoejmfiaaigpbaaGreatDoor.Ev
open Go.RowKit (Below)

def LD (listed : Array Bool) (i : Nat) : Prop := listed.getD i false = true
theorem LD_set {listed : Array Bool} {i : Nat} (h : i < listed.size) : LD (listed.setIfInBounds i true) = more (LD listed) i := by
  funext j
  unfold LD more
  simp only [Array.getD_eq_getD_getElem?, Array.getElem?_setIfInBounds]
  by_cases e : i = j
  · subst e; simp [h]
  · rw [if_neg e]; simp [Ne.symm e]

theorem draw_all {P : Program} {w0 : World} {E : Env} {S : Self} (hS : SelfOk P w0 S) (hG : GlobRel E.globs w0) {ops : Array Oper} {ds : List DOper} {nt : Nat} (hc : cRegD P nt ops = some ds) {R : Tr E S ds} (ok : R.Ok) {φ0 : Phi} {w00 : World} {a0 : Act} {F : Fence} (hF : Wide F) {n : Nat} {Q : Exit → Act → World → Prop}
    (hQ : ∀ φ w a, Inv R P w0 φ0 w00 nt a0 (fun i => i < ds.length) φ w a → Q .normal a w) :
    ∀ (fuel : Nat) (listed : Array Bool) (φ : Phi) (w : World) (a : Act) (u : List Nat), listed.size = ops.size → u.length ≤ fuel → (∀ i, i < ops.size → ¬ LD listed i → i ∈ u) → Closed ds (LD listed) → Inv R P w0 φ0 w00 nt a0 (LD listed) φ w a → wpAnyIn F n P .any ops Q fuel listed a w := by
  obtain ⟨c1, c2, c3, c4⟩ := cRegD_inv hc
  have hdone : ∀ {listed φ w a}, listed.size = ops.size → (∀ i, i < ops.size → LD listed i) → Inv R P w0 φ0 w00 nt a0 (LD listed) φ w a → Q .normal a w := fun {listed φ w a} hsz hall inv => by
    have e : LD listed = fun i => i < ds.length := by
      funext i
      apply propext
      constructor
      · intro h
        rw [c1]
        apply Nat.lt_of_not_le; intro hle
        unfold LD at h
        rw [Array.getD_eq_getD_getElem?, Array.getElem?_eq_none (by omega)] at h; simp at h
      · intro h; exact hall i (by omega)
    exact hQ φ w a (e ▸ inv)
  have hready : ∀ {listed : Array Bool}, listed.size = ops.size → Region.ready .any ops listed = [] → ∀ i, i < ops.size → LD listed i := fun {listed} hsz hnil i => by
    induction i using Nat.strongRecOn with
    | _ i ih =>
      intro hi
      by_cases hl : LD listed i
      · exact hl
      · exfalso
        obtain ⟨d, hd⟩ := getSome (ds := ds) (i := i) (by omega)
        obtain ⟨o, ho, _, _, hed, _⟩ := c4 i d hd
        have : i ∈ Region.ready .any ops listed := mem_ready.2 ⟨by
          unfold LD at hl
          rw [Array.getD_eq_getD_getElem?, Array.getElem?_eq_getElem (by omega)] at hl ⊢
          simpa using hl, o, ho, fun e he hb => ih e.on (hed e he hb) (by have := hed e he hb; omega)⟩
        rw [hnil] at this; simp at this
  intro fuel
  induction fuel with
  | zero =>
    intro listed φ w a u hsz hu hin hcl inv
    have hu0 : u = [] := List.eq_nil_of_length_eq_zero (by omega)
    subst hu0
    have hall : ∀ i, i < ops.size → LD listed i := fun i hi => by
      by_cases h : LD listed i
      · exact h
      · have := hin i hi h; simp at this
    refine ⟨?_, hdone hsz hall inv⟩
    rw [List.eq_nil_iff_forall_not_mem]
    intro i hi
    obtain ⟨h1, o, ho, _⟩ := mem_ready.1 hi
    have hlt : i < ops.size := (Array.getElem?_eq_some_iff.1 ho).1
    have := hall i hlt
    unfold LD at this
    rw [Array.getD_eq_getD_getElem?, Array.getElem?_eq_getElem (by omega)] at this h1
    simp at this h1
    rw [this] at h1; cases h1
  | succ fuel ih =>
    intro listed φ w a u hsz hu hin hcl inv
    refine ⟨fun hnil => hdone hsz (hready hsz hnil) inv, fun i hi => ?_⟩
    obtain ⟨h1, o, ho, hed⟩ := mem_ready.1 hi
    have hlt : i < ops.size := (Array.getElem?_eq_some_iff.1 ho).1
    have hnew : ¬ LD listed i := by
      unfold LD
      rw [Array.getD_eq_getD_getElem?, Array.getElem?_eq_getElem (by omega)] at h1 ⊢
      simpa using h1
    obtain ⟨d, hd⟩ := getSome (ds := ds) (i := i) (by omega)
    obtain ⟨o', ho', hcs, hback, _, hdep⟩ := c4 i d hd
    rw [ho] at ho'; cases ho'
    have hr : Ready (ds := ds) (LD listed) i := by
      refine ⟨by omega, hnew, fun d' j hd' hb hj => ?_⟩
      rw [hd] at hd'; cases hd'
      obtain ⟨e, he, hbd, hor⟩ := hdep j hb
      have hL : LD listed e.on := hed e he hbd
      rcases hor with rfl | ⟨d'', hd'', hb''⟩
      · exact hL
      · exact hcl.dep e.on d'' j hL hd'' hb'' hj
    have hnext : ∀ φ' w' a', Inv R P w0 φ0 w00 nt a0 (more (LD listed) i) φ' w' a' → wpAnyIn F n P .any ops Q fuel (listed.setIfInBounds i true) a' w' := fun φ' w' a' inv' => by
      have hset := LD_set (listed := listed) (i := i) (by omega)
      refine ih _ φ' w' a' (u.erase i) (by simp [hsz]) ?_ ?_ ?_ (hset ▸ inv')
      · rw [List.length_erase_of_mem (hin i hlt hnew)]; omega
      · intro j hj hn
        rw [hset] at hn
        have hji : j ≠ i := fun e => hn (.inr e)
        exact (List.mem_erase_of_ne hji).2 (hin j hj (fun h => hn (.inl h)))
      · rw [hset]
        refine ⟨fun k dk j hk hdk hb hj => ?_⟩
        rcases hk with hk | rfl
        · exact .inl (hcl.dep k dk j hk hdk hb hj)
        · exact .inl (hr.deps dk j hdk hb hj)
    unfold wpOpIn
    rw [ho]
    simp only
    obtain ⟨hg, hop, hdst, hdlt⟩ := cS_inv hcs
    have hnm := inv.names c2 hcl hr hd
    rw [names_eq] at hnm
    cases hv : R.V i with
    | none =>
      obtain ⟨g1, _, _, _⟩ := R.skip i d hd hv
      rw [wants_sound hg g1 (hnm.sub (by intro t h; simp [h]))]
      simp only [Bool.false_eq_true, if_false]
      refine ⟨fun f _ => hF.fn f, hnext φ w _ ?_⟩
      rw [← hdst]
      exact inv.skip hS.ext ok c2 c3 hcl hr hd hv
    | some p =>
      obtain ⟨v, t⟩ := p
      obtain ⟨g1, g2, _, _, _, g6⟩ := R.run i d v t hd hv
      rw [wants_sound hg g1 (hnm.sub (by intro t h; simp [h])), if_pos rfl]
      rw [hop] at g2
      obtain ⟨op, hc1, hc2⟩ := cOpT_some g2
      rw [hc2] at g2
      have hfr : Fresh φ (begD d (R.L i) (R.T i) (R.W i)) t := fun id h1 h2 => inv.fresh i (by omega) hnew id h1 (by rw [g6]; exact h2)
      refine evOp_sound hS hG hc1 g2 (inv.rel hS.ext ok hcl hr hd hv) (R.begWf hS.ext ok (by omega) d) hfr (hnm.sub (by intro t h; rw [hop, hc2]; simp [h])) hF fun φ' x w' k1 k2 => hnext φ' w' _ ?_
      rw [← hdst]
      exact inv.run hS.ext ok c2 c3 hcl hr hd hv k1 k2

end Go.Proofs.YtoejmfiaaigpbaaGreatDoor.Ev

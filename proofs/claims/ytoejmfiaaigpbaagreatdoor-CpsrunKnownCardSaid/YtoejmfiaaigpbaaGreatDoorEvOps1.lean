/- Part of a verified evaluator of the model's code, generic over the program: a run of the evaluator that answers shows what the model's run answers. No conditions of its own. -/
import Derived.Test.YtoejmfiaaigpbaaGreatDoorEvHeap
import Derived.WalkKit
import Derived.Laws.IdiomCopy
namespace Go.Proofs.YtoejmfiaaigpbaaGreatDoor.Ev
open Go.RowKit (Below)

/-! ### Constants and operands -/
mutual
theorem cValF_sound (φ : Phi) : ∀ (n : Nat) (v : Value) (a : AV), cValF n v = some a → VR φ a v
  | 0, _, _, h => by simp [cValF] at h
  | n + 1, v, a, h => by
    unfold cValF at h
    split at h
    · cases h; simp [VR]
    · cases h; simp [VR]
    · cases h; simp only [VR]; exact ⟨_, rfl, rfl⟩
    · cases h; simp [VR]
    · cases h; simp [VR]
    · cases h; simp [VR]
    · rename_i f first cap
      cases hb : (first.isEmpty && cap.isEmpty) with
      | false => rw [hb] at h; simp at h
      | true =>
        rw [hb] at h; simp at h; subst h
        simp only [Bool.and_eq_true, Array.isEmpty_iff] at hb
        obtain ⟨rfl, rfl⟩ := hb
        simp only [VR]; exact ⟨[], [], rfl, VRL.nil φ, VRL.nil φ⟩
    · cases h; simp [VR]
    · cases h; simp [VR]
    · rename_i cs
      cases hg : cValF.go n cs.toList with
      | none => rw [hg] at h; simp at h
      | some l => rw [hg] at h; simp at h; subst h; simp only [VR]; exact ⟨cs.toList, by simp, go_sound φ n cs.toList l hg⟩
    · rename_i cs
      cases hg : cValF.go n cs.toList with
      | none => rw [hg] at h; simp at h
      | some l => rw [hg] at h; simp at h; subst h; simp only [VR]; exact ⟨cs.toList, by simp, go_sound φ n cs.toList l hg⟩
    · cases h
theorem go_sound (φ : Phi) : ∀ (n : Nat) (vs : List Value) (l : List AV), cValF.go n vs = some l → VRL φ l vs
  | n, [], l, h => by simp [cValF.go] at h; subst h; exact VRL.nil φ
  | n, v :: r, l, h => by
    unfold cValF.go at h
    cases h1 : cValF n v with
    | none => rw [h1] at h; simp at h
    | some a =>
      cases h2 : cValF.go n r with
      | none => rw [h1, h2] at h; simp at h
      | some m =>
        rw [h1, h2] at h; simp at h; subst h
        exact VRL.cons (cValF_sound φ n v a h1) (go_sound φ n r m h2)
end

theorem cVal_sound (φ : Phi) {v : Value} {a : AV} (h : cVal v = some a) : VR φ a v := cValF_sound φ 4 v a h

/-- the temporaries that are named hold what the frame says -/
def TmOn (φ : Phi) (ts : List Nat) (tm : Trie AV) (a : Act) : Prop := ∀ t ∈ ts, ∀ v, tm.get t = some v → VR φ v (a.tmps.getD t undef)

theorem TmOn.of {φ : Phi} {ts : List Nat} {tm : Trie AV} {a : Act} (h : TmRel φ tm a.tmps) : TmOn φ ts tm a := fun t _ v hv => h t v hv
theorem TmOn.sub {φ : Phi} {ts us : List Nat} {tm : Trie AV} {a : Act} (h : TmOn φ ts tm a) (hs : ∀ t ∈ us, t ∈ ts) : TmOn φ us tm a := fun t ht => h t (hs t ht)

theorem opd_sound {φ : Phi} {x : Operand} {y : Opd} {tm : Trie AV} {a : Act} {v : AV} (hc : cOpd x = some y) (he : y.ev tm = some v) (ht : TmOn φ y.tmp tm a) : VR φ v (a.eval x) := by
  cases x with
  | tmp t =>
    simp [cOpd] at hc; subst hc
    exact ht t (by simp [Opd.tmp]) v he
  | const c =>
    simp only [cOpd] at hc
    cases h : cVal c with
    | none => rw [h] at hc; simp at hc
    | some u => rw [h] at hc; simp at hc; subst hc; simp [Opd.ev] at he; subst he; exact cVal_sound φ h
  | global g => simp [cOpd] at hc; subst hc; simp [Opd.ev] at he; subst he; simp [VR, Act.eval]
  | func f => simp [cOpd] at hc; subst hc; simp [Opd.ev] at he; subst he; simp only [VR, Act.eval]; exact ⟨[], [], rfl, VRL.nil φ, VRL.nil φ⟩

theorem opds_sound {φ : Phi} {tm : Trie AV} {a : Act} : ∀ {xs : List Operand} {ys : List Opd} {vs : List AV}, cOpds xs = some ys → evL tm ys = some vs → TmOn φ (Opd.tmps ys) tm a → VRL φ vs (xs.map a.eval)
  | [], ys, vs, hc, he, _ => by simp [cOpds] at hc; subst hc; simp [evL] at he; subst he; exact VRL.nil φ
  | x :: xs, ys, vs, hc, he, ht => by
    unfold cOpds at hc
    cases h1 : cOpd x with
    | none => rw [h1] at hc; simp at hc
    | some y =>
      cases h2 : cOpds xs with
      | none => rw [h1, h2] at hc; simp at hc
      | some l =>
        rw [h1, h2] at hc; simp at hc; subst hc
        unfold evL at he
        cases e1 : y.ev tm with
        | none => rw [e1] at he; simp at he
        | some v =>
          cases e2 : evL tm l with
          | none => rw [e1, e2] at he; simp at he
          | some us =>
            rw [e1, e2] at he; simp at he; subst he
            refine VRL.cons (opd_sound h1 e1 (ht.sub ?_)) (opds_sound h2 e2 (ht.sub ?_))
            · intro t h; simp [Opd.tmps]; exact .inl h
            · intro t h; simp [Opd.tmps] at h ⊢; exact .inr h

/-- an optional operand -/
def OR (φ : Phi) : Option AV → Option Value → Prop
  | none, y => y = none
  | some v, y => ∃ x, y = some x ∧ VR φ v x
theorem opdO_sound {φ : Phi} {x : Option Operand} {y : Option Opd} {tm : Trie AV} {a : Act} {v : Option AV} (hc : cOpdO x = some y) (he : evO tm y = some v) (ht : TmOn φ (Opd.tmps y.toList) tm a) : OR φ v (x.map a.eval) := by
  cases x with
  | none => simp [cOpdO] at hc; subst hc; simp [evO] at he; subst he; simp [OR]
  | some x =>
    simp only [cOpdO] at hc
    cases h1 : cOpd x with
    | none => rw [h1] at hc; simp at hc
    | some y' =>
      rw [h1] at hc; simp at hc; subst hc
      simp only [evO] at he
      cases e1 : y'.ev tm with
      | none => rw [e1] at he; simp at he
      | some v' =>
        rw [e1] at he; simp at he; subst he
        exact ⟨_, rfl, opd_sound h1 e1 (ht.sub (by intro t h; simp [Opd.tmps]; exact h))⟩

/-! ### Blocks -/
theorem cell_block {w : World} {b i : Nat} {c : Array Value} {e : TypeId} {fr : Nat × Nat} (h : w.heap[b]? = some (.cells c e fr)) : w.cell? ⟨b, i, none⟩ = c[i]? := by simp [World.cell?, h]
theorem frozen_block {w : World} {b i : Nat} {c : Array Value} {e : TypeId} {fr : Nat × Nat} (h : w.heap[b]? = some (.cells c e fr)) : w.frozen? ⟨b, i, none⟩ = (decide (fr.1 ≤ i) && decide (i < fr.2)) := by simp [World.frozen?, h]
theorem add_lit (b o n : Nat) : Addr.add ⟨b, o, none⟩ n = ⟨b, o + n, none⟩ := by unfold Addr.add; split <;> simp_all

theorem heap_setCell_in {w : World} {b o : Nat} {v : Value} {c : Array Value} {e : TypeId} {fr : Nat × Nat} (h : w.heap[b]? = some (.cells c e fr)) :
    (w.setCell ⟨b, o, none⟩ v).heap[b]? = some (.cells (c.setIfInBounds o v) e fr) := by
  simp [World.setCell, Array.getElem?_modify, h]
theorem heap_setCell_out {w : World} {b o k : Nat} {v : Value} (h : k ≠ b) : (w.setCell ⟨b, o, none⟩ v).heap[k]? = w.heap[k]? := by
  simp [World.setCell, Array.getElem?_modify, Ne.symm h]

theorem setCells_facts : ∀ (vs : List Value) (w : World) (b o : Nat), (w.setCells b o vs).heap.size = w.heap.size ∧ (w.setCells b o vs).os = w.os ∧ (w.setCells b o vs).tape = w.tape ∧ (w.setCells b o vs).output = w.output ∧
    ∀ k, k ≠ b → (w.setCells b o vs).heap[k]? = w.heap[k]?
  | [], w, b, o => ⟨rfl, rfl, rfl, rfl, fun _ _ => rfl⟩
  | v :: r, w, b, o => by
    obtain ⟨h1, h2, h3, h4, h5⟩ := setCells_facts r (w.setCell ⟨b, o, none⟩ v) b (o + 1)
    exact ⟨h1.trans (by simp), h2, h3, h4, fun k hk => (h5 k hk).trans (heap_setCell_out hk)⟩
theorem setCells_in : ∀ (vs : List Value) (w : World) (b o : Nat) (c : Array Value) (e : TypeId) (fr : Nat × Nat), w.heap[b]? = some (.cells c e fr) → o + vs.length ≤ c.size →
    ∃ c' : Array Value, (w.setCells b o vs).heap[b]? = some (.cells c' e fr) ∧ c'.toList = c.toList.take o ++ vs ++ c.toList.drop (o + vs.length)
  | [], w, b, o, c, e, fr, h, _ => ⟨c, h, by simp⟩
  | v :: r, w, b, o, c, e, fr, h, hl => by
    have hl' : o + (r.length + 1) ≤ c.size := hl
    obtain ⟨c', h1, h2⟩ := setCells_in r (w.setCell ⟨b, o, none⟩ v) b (o + 1) (c.setIfInBounds o v) e fr (heap_setCell_in h) (by simp; omega)
    refine ⟨c', h1, h2.trans ?_⟩
    have hlt : o < c.toList.length := by simp; omega
    rw [Array.toList_setIfInBounds]
    have e1 : (c.toList.set o v).take (o + 1) = c.toList.take o ++ [v] := by
      have hm : (c.toList.take o).length = o := by rw [List.length_take]; omega
      rw [List.take_set, List.take_succ_eq_append_getElem hlt, List.set_append_right _ _ (by omega), hm]
      simp
    have e2 : (c.toList.set o v).drop (o + 1 + r.length) = c.toList.drop (o + (r.length + 1)) := by
      rw [List.drop_set_of_lt (by omega)]; congr 1; omega
    rw [e1, e2]; simp

/-! ### Loads -/
def GlobRel (G : List (List AV)) (w0 : World) : Prop :=
  ∀ g cs, G[g]? = some cs → cs ≠ [] → g < w0.heap.size ∧ ∃ c e fr, w0.heap[g]? = some (.cells c e fr) ∧ cs.length ≤ c.size ∧ ∀ φ, VRL φ cs (c.toList.take cs.length)

theorem loadC_sound {P : Program} {w0 : World} {φ : Phi} {s : St} {w : World} {G : List (List AV)} (r : Rel P w0 φ s.get w) (hG : GlobRel G w0) {p : AV} {n : Nat} {cs : List AV} {x : Value}
    (h : loadC G s p n = some cs) (hv : VR φ p x) : ∃ (a : Addr) (xs : List Value), x = .pointer (some a) ∧ xs.length = n ∧ VRL φ cs xs ∧ ∀ j v, xs[j]? = some v → w.cell? (a.add j) = some v := by
  unfold loadC at h
  split at h
  · rename_i id off
    split at h
    · rename_i e cells ext fz hg
      simp only [VR] at hv
      obtain ⟨B, hB, rfl⟩ := hv
      obtain ⟨B', hB', c, fr, h1, h2, h3, h4, h5, h6⟩ := r.obj id _ hg
      rw [hB] at hB'; cases hB'
      obtain ⟨hl, hb, rfl⟩ := cut_some h
      refine ⟨_, (((c.toList.drop B.o).take cells.length).drop off).take n, rfl, ?_, h5.cut h, ?_⟩
      · have := VRL.length h5
        rcases hb with hb | hb
        · simp at this ⊢; omega
        · subst hb; simp
      · intro j v hj
        rw [add_lit, cell_block h1]
        rw [List.getElem?_take] at hj
        split at hj
        · rename_i hlt
          rw [List.getElem?_drop, List.getElem?_take] at hj
          split at hj
          · rw [List.getElem?_drop] at hj
            rw [show B.o + off + j = B.o + (off + j) by omega, ← Array.getElem?_toList]; exact hj
          · cases hj
        · cases hj
    · rename_i cells hg
      simp only [VR] at hv
      obtain ⟨B, hB, rfl⟩ := hv
      obtain ⟨B', hB', c, e, fr, h1, h2, h5⟩ := r.obj id _ hg
      rw [hB] at hB'; cases hB'
      obtain ⟨hl, hb, rfl⟩ := cut_some h
      refine ⟨_, (((c.toList.drop B.o).take cells.length).drop off).take n, rfl, ?_, h5.cut h, ?_⟩
      · have := VRL.length h5
        rcases hb with hb | hb
        · simp at this ⊢; omega
        · subst hb; simp
      · intro j v hj
        rw [add_lit, cell_block h1]
        rw [List.getElem?_take] at hj
        split at hj
        · rename_i hlt
          rw [List.getElem?_drop, List.getElem?_take] at hj
          split at hj
          · rw [List.getElem?_drop] at hj
            rw [show B.o + off + j = B.o + (off + j) by omega, ← Array.getElem?_toList]; exact hj
          · cases hj
        · cases hj
    · cases h
  · rename_i g off
    split at h
    · rename_i cells hg
      simp only [VR] at hv; subst hv
      by_cases hne : cells = []
      · subst hne
        obtain ⟨hl, hb, he⟩ := cut_some h
        have h0 : n = 0 := by
          rcases hb with hb | hb
          · simp at hb; omega
          · exact hb
        subst h0
        exact ⟨_, [], rfl, rfl, by rw [he]; simpa using VRL.nil φ, fun j v hj => by simp at hj⟩
      obtain ⟨hlt, c, e, fr, h1, h2, h3⟩ := hG g cells hg hne
      have hw : w.heap[g]? = some (.cells c e fr) := (r.base.block g hlt).trans h1
      obtain ⟨hl, hb, rfl⟩ := cut_some h
      refine ⟨_, ((c.toList.take cells.length).drop off).take n, rfl, ?_, (h3 φ).cut h, ?_⟩
      · rcases hb with hb | hb
        · simp; omega
        · subst hb; simp
      · intro j v hj
        rw [add_lit, cell_block hw]
        rw [List.getElem?_take] at hj
        split at hj
        · rw [List.getElem?_drop, List.getElem?_take] at hj
          split at hj
          · rw [← Array.getElem?_toList]; exact hj
          · cases hj
        · cases hj
    · cases h
  · cases h

theorem scal_oneCell {φ : Phi} {v : AV} {x : Value} (h : VR φ v x) (hs : scal v = true) : x.oneCell' = true := by
  cases v <;> simp [scal] at hs <;> simp only [VR] at h <;>
    first
      | (subst h; rfl)
      | (obtain ⟨_, rfl, _⟩ := h; rfl)
      | (obtain ⟨_, _, rfl⟩ := h; rfl)
      | (obtain ⟨_, _, _, rfl, _⟩ := h; rfl)
      | (obtain ⟨_, _, rfl, _⟩ := h; rfl)
theorem allScal_oneCell {φ : Phi} : ∀ {vs : List AV} {xs : List Value}, VRL φ vs xs → allScal vs = true → ∀ x ∈ xs, x.oneCell' = true
  | [], _, h, _, x, hx => by simp only [VRL] at h; subst h; simp at hx
  | v :: vs, _, h, hs, x, hx => by
    simp only [VRL] at h; obtain ⟨y, ys, rfl, h1, h2⟩ := h
    unfold allScal at hs
    cases hb : scal v with
    | false => rw [hb] at hs; simp at hs
    | true =>
      rw [hb] at hs; simp at hs
      rcases List.mem_cons.1 hx with rfl | hx
      · exact scal_oneCell h1 hb
      · exact allScal_oneCell h2 hs x hx

/-- a store's effect on a row, abstract and in the block -/
theorem row_paste {P : Program} {w0 : World} {φ : Phi} {s : St} {w : World} (r : Rel P w0 φ s.get w) {id off : Nat} {B : Blk} {e : Nat} {cells cells' vs : List AV} {xs : List Value} {ext fz : Bool}
    (hg : s.get id = some (.row e cells ext fz)) (hB : φ id = some B) (hfz : fz = false) (hs : allScal vs = true) (hp : paste cells off vs = some cells') (hx : VRL φ vs xs) :
    ∃ w', (storeCells ⟨B.b, B.o + off, none⟩ xs).run P w = .ok () w' ∧ Step P w0 φ s w φ (s.put id (.row e cells' ext fz)) w' := by
  obtain ⟨B', hB', c, fr, h1, h2, h3, h4, h5, h6⟩ := r.obj id _ hg
  rw [hB] at hB'; cases hB'
  obtain ⟨hb, rfl⟩ := paste_some hp
  have hxl := VRL.length hx
  have hcl := VRL.length h5
  by_cases h0 : vs = []
  · subst h0
    simp only [List.length_nil] at hxl
    have : xs = [] := List.eq_nil_of_length_eq_zero hxl.symm
    subst this
    refine ⟨w, rfl, Step.put r hg hB (fun _ _ => rfl) rfl rfl rfl rfl ?_⟩
    exact ⟨c, fr, h1, h2, by simpa using h3, by simpa using h4, by simpa using h5, h6⟩
  · have hb' : off + vs.length ≤ cells.length := hb.resolve_right h0
    have hrun := run_storeCells_cells (P := P) B.b (B.o + off) xs 0 w
      (fun j hj => by rw [cell_block h1]; simp; omega)
      (fun j hj => by
        rw [frozen_block h1]
        have := h6.2 hfz (B.o + off + 0 + j) (by omega)
        simp at this ⊢; exact this)
      (allScal_oneCell hx hs)
    refine ⟨_, hrun, ?_⟩
    obtain ⟨f1, f2, f3, f4, f5⟩ := setCells_facts xs w B.b (B.o + off + 0)
    obtain ⟨c', g1, g2⟩ := setCells_in xs w B.b (B.o + off + 0) c e fr h1 (by omega)
    refine Step.put r hg hB f5 f1 f2 f3 f4 ?_
    have hsz : c'.size = c.size := by rw [← Array.length_toList, g2]; simp; omega
    have hlen : (cells.take off ++ vs ++ cells.drop (off + vs.length)).length = cells.length := by simp; omega
    refine ⟨c', fr, g1, hsz.trans h2, by rw [hlen]; exact h3, by rw [hlen]; exact h4, ?_, h6.1, fun hz => by rw [hsz]; exact h6.2 hz⟩
    rw [hlen, g2]
    have key : (List.drop B.o (c.toList.take (B.o + off + 0) ++ xs ++ c.toList.drop (B.o + off + 0 + xs.length))).take cells.length
        = ((c.toList.drop B.o).take cells.length).take off ++ xs ++ ((c.toList.drop B.o).take cells.length).drop (off + vs.length) := by
      rw [List.append_assoc, List.drop_append_of_le_length (by simp; omega), List.drop_take]
      have a1 : B.o + off + 0 - B.o = off := by omega
      rw [a1, List.take_append]
      have a2 : ((c.toList.drop B.o).take off).length = off := by simp; omega
      rw [a2, List.take_append]
      rw [List.take_take, List.take_take, Nat.min_comm]
      rw [List.append_assoc]
      have a3 : (List.take (cells.length - off) xs) = xs := List.take_of_length_le (by omega)
      rw [a3]
      congr 1
      congr 1
      rw [List.drop_take, List.drop_drop]
      have a4 : cells.length - off - xs.length = cells.length - (off + vs.length) := by omega
      have a5 : B.o + off + 0 + xs.length = B.o + (off + vs.length) := by omega
      rw [a4, a5]
    rw [key]
    exact VRL.append (VRL.append (h5.take off) hx) (h5.drop (off + vs.length))

theorem storeC_sound {P : Program} {w0 : World} {φ : Phi} {s : St} {w : World} (r : Rel P w0 φ s.get w) {p : AV} {vs : List AV} {s' : St} {x : Value} {xs : List Value}
    (h : storeC s p vs = some s') (hv : VR φ p x) (hx : VRL φ vs xs) : ∃ (a : Addr) (w' : World), x = .pointer (some a) ∧ (storeCells a xs).run P w = .ok () w' ∧ Step P w0 φ s w φ s' w' := by
  unfold storeC at h
  split at h
  · rename_i id off
    split at h
    · rename_i e cells ext fz hg
      cases hb : (fz || !allScal vs) with
      | true => rw [hb] at h; simp at h
      | false =>
        rw [hb] at h; simp only [cond_false] at h
        cases hp : paste cells off vs with
        | none => rw [hp] at h; simp at h
        | some cells' =>
          rw [hp] at h; simp only [Option.some.injEq] at h; subst h
          simp only [VR] at hv
          obtain ⟨B, hB, rfl⟩ := hv
          simp at hb
          obtain ⟨w', h1, h2⟩ := row_paste r hg hB hb.1 hb.2 hp hx
          exact ⟨_, w', rfl, h1, h2⟩
    · cases h
  · cases h

end Go.Proofs.YtoejmfiaaigpbaaGreatDoor.Ev

/- Part of a verified evaluator of the model's code, generic over the program: a run of the evaluator that answers shows what the model's run answers. No conditions of its own. -/
import Derived.Test.YtionbncghjdeoaaGreatDoorEvA
import Derived.WalkKit
import Derived.Laws.IdiomCopy
import Derived.Laws.Externs
set_option linter.unusedSimpArgs false
set_option linter.unusedVariables false
set_option linter.defProp false
open Option.some renaming injEq → zv
open Prod.mk renaming injEq → zw
open Bool renaming eq_false_iff → zq, and_eq_true → zl, false_eq_true → zB
open Array renaming getElem?_toList → zy, getElem?_modify → zH, getElem?_eq_getElem → zJ, toArray_toList → zP, toList_modify → zR, range → zT, toList_setIfInBounds → zU, getElem?_push_lt → zY, forIn_toList → z8
open Nat renaming beq → za, blt → zd, le_refl → zp, ble → ze, add_assoc → zI, beq_eq → zo, zero_le → zL, blt_eq → zQ, mul → zb, mul_comm → z9, sub_self → yb
open List renaming map_cons → zA, getElem?_drop → zD, getElem?_take → zE, take_of_length_le → zG, take_succ_eq_append_getElem → zM, modify_succ_cons → zN, modify_zero_cons → zO, map_nil → zV, foldl_cons → zW, drop_drop → zZ, drop_zero → z4, getElem?_eq_none → z5, set_append_right → z6, drop_set_of_lt → z7
open Int renaming ofNat → zC, toNat_natCast → zF, natCast_nonneg → zK, negSucc_eq → zS, negSucc → yc
open Option renaming map_some → zX
namespace Go.Proofs.YtionbncghjdeoaaGreatDoor.Ev
variable {P : Program} {w0 w : World} {s s' : St} {φ : Phi} {v : AV} {tm : Trie AV} {id n esz : Nat} {o : AObj} {t : TypeId}
open Go.RowKit (Below)
mutual
theorem Wk (φ : Phi) : ∀ (n : Nat) (v : Value) (a : AV), cValF n v = some a → VR φ a v
 | 0, _, _, h => by simp [cValF] at h
 | n + 1, v, a, h => by
  unfold cValF at h; split at h
  ·cases h; simp [VR]
  ·cases h; simp [VR]
  ·cases h; simp only [VR]; exact ⟨_, rfl, rfl⟩
  ·cases h; simp [VR]
  ·cases h; simp [VR]
  ·cases h; simp [VR]
  ·rename_i f first cap
   cases hb : (first.isEmpty && cap.isEmpty) with
   | false => rw [hb] at h; simp at h
   | true =>
    rw [hb] at h; simp at h; subst h; simp only [zl, Array.isEmpty_iff] at hb; obtain ⟨rfl, rfl⟩ := hb; simp only [VR]; exact ⟨[], [], rfl, VRL.nil φ, VRL.nil φ⟩
  ·cases h; simp [VR]
  ·cases h; simp [VR]
  ·rename_i cs
   cases hg : cValF.go n cs.toList with
   | none => rw [hg] at h; simp at h
   | some l => rw [hg] at h; simp at h; subst h; simp only [VR]; exact ⟨cs.toList, by simp, Vw φ n cs.toList l hg⟩
  ·rename_i cs
   cases hg : cValF.go n cs.toList with
   | none => rw [hg] at h; simp at h
   | some l => rw [hg] at h; simp at h; subst h; simp only [VR]; exact ⟨cs.toList, by simp, Vw φ n cs.toList l hg⟩
  ·cases h
theorem Vw (φ : Phi) : ∀ (n : Nat) (vs : List Value) (l : List AV), cValF.go n vs = some l → VRL φ l vs
 | n, [], l, h => by simp [cValF.go] at h; subst h; exact VRL.nil φ
 | n, v :: r, l, h => by
  unfold cValF.go at h; cases h1 : cValF n v with
  | none => rw [h1] at h; simp at h
  | some a =>
   cases h2 : cValF.go n r with
   | none => rw [h1, h2] at h; simp at h
   | some m =>
    rw [h1, h2] at h; simp at h; subst h; exact VRL.cons (Wk φ n v a h1) (Vw φ n r m h2)
end
theorem QN (φ : Phi) {v : Value} {a : AV} (h : zs2 v = some a) : VR φ a v := Wk φ 4 v a h
def TmOn (φ : Phi) (ts : List Nat) (tm : Trie AV) (a : Act) : Prop := ∀ t ∈ ts, ∀ v, tm.get t = some v → VR φ v (a.tmps.getD t undef)
theorem TmOn.of {ts : List Nat} {a : Act} (h : TmRel φ tm a.tmps) : TmOn φ ts tm a := fun t _ v hv => h t v hv
theorem TmOn.sub {ts us : List Nat} {a : Act} (h : TmOn φ ts tm a) (hs : ∀ t ∈ us, t ∈ ts) : TmOn φ us tm a := fun t ht => h t (hs t ht)
theorem xD {x : Operand} {y : Opd} {a : Act} (hc : qP x = some y) (he : y.ev tm = some v) (ht : TmOn φ y.tmp tm a) : VR φ v (a.eval x) := by
 cases x with
 | tmp t =>
  simp [qP] at hc; subst hc; exact ht t (by simp [Opd.tmp]) v he
 | const c =>
  simp only [qP] at hc; cases h : zs2 c with
  | none => rw [h] at hc; simp at hc
  | some u => rw [h] at hc; simp at hc; subst hc; simp [Opd.ev] at he; subst he; exact QN φ h
 | global g => simp [qP] at hc; subst hc; simp [Opd.ev] at he; subst he; simp [VR, Act.eval]
 | func f => simp [qP] at hc; subst hc; simp [Opd.ev] at he; subst he; simp only [VR, Act.eval]; exact ⟨[], [], rfl, VRL.nil φ, VRL.nil φ⟩
theorem uD {φ : Phi} {tm : Trie AV} {a : Act} : ∀ {xs : List Operand} {ys : List Opd} {vs : List AV}, gt xs = some ys → evL tm ys = some vs → TmOn φ (Opd.tmps ys) tm a → VRL φ vs (xs.map a.eval)
 | [], ys, vs, hc, he, _ => by simp [gt] at hc; subst hc; simp [evL] at he; subst he; exact VRL.nil φ
 | x :: xs, ys, vs, hc, he, ht => by
  unfold gt at hc; cases h1 : qP x with
  | none => rw [h1] at hc; simp at hc
  | some y =>
   cases h2 : gt xs with
   | none => rw [h1, h2] at hc; simp at hc
   | some l =>
    rw [h1, h2] at hc; simp at hc; subst hc; unfold evL at he; cases e1 : y.ev tm with
    | none => rw [e1] at he; simp at he
    | some v =>
     cases e2 : evL tm l with
     | none => rw [e1, e2] at he; simp at he
     | some us =>
      rw [e1, e2] at he; simp at he; subst he; refine VRL.cons (xD h1 e1 (ht.sub ?_)) (uD h2 e2 (ht.sub ?_))
      ·intro t h; simp [Opd.tmps]; exact .inl h
      ·intro t h; simp [Opd.tmps] at h ⊢; exact .inr h
def OR (φ : Phi) : Option AV → Option Value → Prop
 | none, y => y = none
 | some v, y => ∃ x, y = some x ∧ VR φ v x
theorem uC {x : Option Operand} {y : Option Opd} {a : Act} {v : Option AV} (hc : QM x = some y) (he : evO tm y = some v) (ht : TmOn φ (Opd.tmps y.toList) tm a) : OR φ v (x.map a.eval) := by
 cases x with
 | none => simp [QM] at hc; subst hc; simp [evO] at he; subst he; simp [OR]
 | some x =>
  simp only [QM] at hc; cases h1 : qP x with
  | none => rw [h1] at hc; simp at hc
  | some y' =>
   rw [h1] at hc; simp at hc; subst hc; simp only [evO] at he; cases e1 : y'.ev tm with
   | none => rw [e1] at he; simp at he
   | some v' =>
    rw [e1] at he; simp at he; subst he; exact ⟨_, rfl, xD h1 e1 (ht.sub (by intro t h; simp [Opd.tmps]; exact h))⟩
theorem uv {b i : Nat} {c : Array Value} {e : TypeId} {fr : Nat × Nat} (h : w.heap[b]? = some (.cells c e fr)) : w.cell? ⟨b, i, none⟩ = c[i]? := by simp [World.cell?, h]
theorem lF {b i : Nat} {c : Array Value} {e : TypeId} {fr : Nat × Nat} (h : w.heap[b]? = some (.cells c e fr)) : w.frozen? ⟨b, i, none⟩ = (decide (fr.1 ≤ i) && decide (i < fr.2)) := by simp [World.frozen?, h]
theorem qJ (b o n : Nat) : Addr.add ⟨b, o, none⟩ n = ⟨b, o + n, none⟩ := by unfold Addr.add; split <;> simp_all
theorem Qc {b o : Nat} {v : Value} {c : Array Value} {e : TypeId} {fr : Nat × Nat} (h : w.heap[b]? = some (.cells c e fr)) :
  (w.setCell ⟨b, o, none⟩ v).heap[b]? = some (.cells (c.setIfInBounds o v) e fr) := by
 simp [World.setCell, zH, h]
theorem XY {b o k : Nat} {v : Value} (h : k ≠ b) : (w.setCell ⟨b, o, none⟩ v).heap[k]? = w.heap[k]? := by
 simp [World.setCell, zH, Ne.symm h]
theorem jr : ∀ (vs : List Value) (w : World) (b o : Nat), (w.setCells b o vs).heap.size = w.heap.size ∧ (w.setCells b o vs).os = w.os ∧ (w.setCells b o vs).tape = w.tape ∧ (w.setCells b o vs).output = w.output ∧
  ∀ k, k ≠ b → (w.setCells b o vs).heap[k]? = w.heap[k]?
 | [], w, b, o => ⟨rfl, rfl, rfl, rfl, fun _ _ => rfl⟩
 | v :: r, w, b, o => by
  obtain ⟨h1, h2, h3, h4, h5⟩ := jr r (w.setCell ⟨b, o, none⟩ v) b (o + 1); exact ⟨h1.trans (by simp), h2, h3, h4, fun k hk => (h5 k hk).trans (XY hk)⟩
theorem gK : ∀ (vs : List Value) (w : World) (b o : Nat) (c : Array Value) (e : TypeId) (fr : Nat × Nat), w.heap[b]? = some (.cells c e fr) → o + vs.length ≤ c.size →
  ∃ c' : Array Value, (w.setCells b o vs).heap[b]? = some (.cells c' e fr) ∧ c'.toList = c.toList.take o ++ vs ++ c.toList.drop (o + vs.length)
 | [], w, b, o, c, e, fr, h, _ => ⟨c, h, by simp⟩
 | v :: r, w, b, o, c, e, fr, h, hl => by
  have hl' : o + (r.length + 1) ≤ c.size := hl; obtain ⟨c', h1, h2⟩ := gK r (w.setCell ⟨b, o, none⟩ v) b (o + 1) (c.setIfInBounds o v) e fr (Qc h) (by simp; omega)
  refine ⟨c', h1, h2.trans ?_⟩; have hlt : o < c.toList.length := by simp; omega
  rw [zU]; have e1 : (c.toList.set o v).take (o + 1) = c.toList.take o ++ [v] := by
   have hm : (c.toList.take o).length = o := by rw [List.length_take]; omega
   rw [List.take_set, zM hlt, z6 _ _ oM, hm]; simp
  have e2 : (c.toList.set o v).drop (o + 1 + r.length) = c.toList.drop (o + (r.length + 1)) := by
   rw [z7 oM]; congr 1; omega
  rw [e1, e2]; simp
def xV (G : List (List AV)) (w0 : World) : Prop :=
 ∀ g cs, G[g]? = some cs → cs ≠ [] → g < w0.heap.size ∧ ∃ c e fr, w0.heap[g]? = some (.cells c e fr) ∧ cs.length ≤ c.size ∧ ∀ φ, VRL φ cs (c.toList.take cs.length)
theorem vC {G : List (List AV)} (r : Rel P w0 φ s.get w) (hG : xV G w0) {p : AV} {cs : List AV} {x : Value}
  (h : vH G s p n = some cs) (hv : VR φ p x) : ∃ (a : Addr) (xs : List Value), x = .pointer (some a) ∧ xs.length = n ∧ VRL φ cs xs ∧ ∀ j v, xs[j]? = some v → w.cell? (a.add j) = some v := by
 unfold vH at h; split at h
 ·rename_i id off
  split at h
  ·rename_i e cells ext fz hg
   simp only [VR] at hv; obtain ⟨B, hB, rfl⟩ := hv; obtain ⟨B', hB', c, fr, h1, h2, h3, h4, h5, h6⟩ := r.obj id _ hg; rw [hB] at hB'; cases hB'; obtain ⟨hl, hb, rfl⟩ := cut_some h; refine ⟨_, (((c.toList.drop B.o).take cells.length).drop off).take n, rfl, ?_, h5.cut h, ?_⟩
   ·have := VRL.length h5; rcases hb with hb | hb
    ·simp at this ⊢; omega
    ·subst hb; simp
   ·intro j v hj; rw [qJ, uv h1]; rw [zE] at hj; split at hj
    ·rename_i hlt
     rw [zD, zE] at hj; split at hj
     ·rw [zD] at hj; rw [show B.o + off + j = B.o + (off + j) by omega, ← zy]; exact hj
     ·cases hj
    ·cases hj
  ·rename_i cells hg
   simp only [VR] at hv; obtain ⟨B, hB, rfl⟩ := hv; obtain ⟨B', hB', c, e, fr, h1, h2, h5⟩ := r.obj id _ hg; rw [hB] at hB'; cases hB'; obtain ⟨hl, hb, rfl⟩ := cut_some h; refine ⟨_, (((c.toList.drop B.o).take cells.length).drop off).take n, rfl, ?_, h5.cut h, ?_⟩
   ·have := VRL.length h5; rcases hb with hb | hb
    ·simp at this ⊢; omega
    ·subst hb; simp
   ·intro j v hj; rw [qJ, uv h1]; rw [zE] at hj; split at hj
    ·rename_i hlt
     rw [zD, zE] at hj; split at hj
     ·rw [zD] at hj; rw [show B.o + off + j = B.o + (off + j) by omega, ← zy]; exact hj
     ·cases hj
    ·cases hj
  ·cases h
 ·rename_i g off
  split at h
  ·rename_i cells hg
   simp only [VR] at hv; subst hv; by_cases hne : cells = []
   ·subst hne; obtain ⟨hl, hb, he⟩ := cut_some h; have h0 : n = 0 := by
     rcases hb with hb | hb
     ·simp at hb; omega
     ·exact hb
    subst h0; exact ⟨_, [], rfl, rfl, by rw [he]; simpa using VRL.nil φ, fun j v hj => by simp at hj⟩
   obtain ⟨hlt, c, e, fr, h1, h2, h3⟩ := hG g cells hg hne; have hw : w.heap[g]? = some (.cells c e fr) := (r.base.block g hlt).trans h1; obtain ⟨hl, hb, rfl⟩ := cut_some h; refine ⟨_, ((c.toList.take cells.length).drop off).take n, rfl, ?_, (h3 φ).cut h, ?_⟩
   ·rcases hb with hb | hb
    ·simp; omega
    ·subst hb; simp
   ·intro j v hj; rw [qJ, uv hw]; rw [zE] at hj; split at hj
    ·rw [zD, zE] at hj; split at hj
     ·rw [← zy]; exact hj
     ·cases hj
    ·cases hj
  ·cases h
 ·rename_i cells
  simp only [VR] at hv; obtain ⟨_, b, o, ys, rfl, hz, hy⟩ := hv; obtain ⟨r', e, hl⟩ := jI h; subst e; refine ⟨_, ys.take n, rfl, ?_, ?_, fun j v hj => ?_⟩
  ·have := hy.length; simp at this ⊢; omega
  ·have := hy.take n; rw [← hl] at this ⊢; simpa using this
  ·rw [zE] at hj; split at hj
   ·obtain ⟨c, e, fr, h1, h2⟩ := r.frz _ _ _ (hz.at hj); rw [qJ, uv h1]; exact h2
   ·cases hj
 ·cases h
theorem Gb {x : Value} (h : VR φ v x) (hs : scal v = true) : x.oneCell' = true := by
 cases v <;> simp [scal] at hs <;> simp only [VR] at h <;>
  first
   | (obtain ⟨_, ⟨_, _, rfl⟩ | ⟨b, o, k, ys, rfl, _⟩⟩ := h <;> rfl)
   | (obtain ⟨_, _, _, _, B, ys, _, rfl, _⟩ := h; rfl)
   | (obtain ⟨_, b, o, ys, rfl, _⟩ := h; rfl)
   | (subst h; rfl)
   | (obtain ⟨_, rfl, _⟩ := h; rfl)
   | (obtain ⟨_, _, rfl⟩ := h; rfl)
   | (obtain ⟨_, _, _, rfl, _⟩ := h; rfl)
   | (obtain ⟨_, _, rfl, _⟩ := h; rfl)
theorem uW {φ : Phi} : ∀ {vs : List AV} {xs : List Value}, VRL φ vs xs → xT vs = true → ∀ x ∈ xs, x.oneCell' = true
 | [], _, h, _, x, hx => by simp only [VRL] at h; subst h; simp at hx
 | v :: vs, _, h, hs, x, hx => by
  simp only [VRL] at h; obtain ⟨y, ys, rfl, h1, h2⟩ := h; unfold xT at hs; cases hb : scal v with
  | false => rw [hb] at hs; simp at hs
  | true =>
   rw [hb] at hs; simp at hs; rcases List.mem_cons.1 hx with rfl | hx
   ·exact Gb h1 hb
   ·exact uW h2 hs x hx
theorem zwE (r : Rel P w0 φ s.get w) {off : Nat} {B : Blk} {e : Nat} {cells cells' vs : List AV} {xs : List Value} {ext fz : Bool}
  (hg : s.get id = some (.row e cells ext fz)) (hB : φ id = some B) (hfz : fz = false) (hs : xT vs = true) (hp : vr cells off vs = some cells') (hx : VRL φ vs xs) :
  ∃ w', (storeCells ⟨B.b, B.o + off, none⟩ xs).run P w = .ok () w' ∧ Step P w0 φ s w φ (s.put id (.row e cells' ext fz)) w' := by
 obtain ⟨B', hB', c, fr, h1, h2, h3, h4, h5, h6⟩ := r.obj id _ hg; rw [hB] at hB'; cases hB'; obtain ⟨hb, rfl⟩ := Yi hp; have hxl := VRL.length hx; have hcl := VRL.length h5; by_cases h0 : vs = []
 ·subst h0; simp only [List.length_nil] at hxl; have : xs = [] := List.eq_nil_of_length_eq_zero hxl.symm; subst this; refine ⟨w, rfl, Step.put r hg hB (fun _ _ => rfl) rfl rfl rfl rfl ?_⟩; exact ⟨c, fr, h1, h2, by simpa using h3, by simpa using h4, by simpa using h5, h6⟩
 ·have hb' : off + vs.length ≤ cells.length := hb.resolve_right h0
  have hrun := run_storeCells_cells (P := P) B.b (B.o + off) xs 0 w
   (fun j hj => by rw [uv h1]; simp; omega)
   (fun j hj => by
    rw [lF h1]; have := h6.2 hfz (B.o + off + 0 + j) oM; simp at this ⊢; exact this)
   (uW hx hs)
  refine ⟨_, hrun, ?_⟩; obtain ⟨f1, f2, f3, f4, f5⟩ := jr xs w B.b (B.o + off + 0); obtain ⟨c', g1, g2⟩ := gK xs w B.b (B.o + off + 0) c e fr h1 oM; refine Step.put r hg hB f5 f1 f2 f3 f4 ?_; have hsz : c'.size = c.size := by rw [← Array.length_toList, g2]; simp; omega
  have hlen : (cells.take off ++ vs ++ cells.drop (off + vs.length)).length = cells.length := by simp; omega
  refine ⟨c', fr, g1, hsz.trans h2, by rw [hlen]; exact h3, by rw [hlen]; exact h4, ?_, h6.1, fun hz => by rw [hsz]; exact h6.2 hz⟩
  rw [hlen, g2]
  have key : (List.drop B.o (c.toList.take (B.o + off + 0) ++ xs ++ c.toList.drop (B.o + off + 0 + xs.length))).take cells.length
    = ((c.toList.drop B.o).take cells.length).take off ++ xs ++ ((c.toList.drop B.o).take cells.length).drop (off + vs.length) := by
   rw [List.append_assoc, List.drop_append_of_le_length (by simp; omega), List.drop_take]
   have a1 : B.o + off + 0 - B.o = off := oM; rw [a1, List.take_append]; have a2 : ((c.toList.drop B.o).take off).length = off := by simp; omega
   rw [a2, List.take_append]; rw [List.take_take, List.take_take, Nat.min_comm]; rw [List.append_assoc]; have a3 : (List.take (cells.length - off) xs) = xs := zG oM; rw [a3]
   congr 1
   congr 1
   rw [List.drop_take, zZ]; have a4 : cells.length - off - xs.length = cells.length - (off + vs.length) := oM; have a5 : B.o + off + 0 + xs.length = B.o + (off + vs.length) := oM; rw [a4, a5]
  rw [key]; exact VRL.append (VRL.append (h5.take off) hx) (h5.drop (off + vs.length))
theorem lX (r : Rel P w0 φ s.get w) {p : AV} {vs : List AV} {x : Value} {xs : List Value}
  (h : uQ s p vs = some s') (hv : VR φ p x) (hx : VRL φ vs xs) : ∃ (a : Addr) (w' : World), x = .pointer (some a) ∧ (storeCells a xs).run P w = .ok () w' ∧ Step P w0 φ s w φ s' w' := by
 unfold uQ at h; split at h
 ·rename_i id off
  split at h
  ·rename_i e cells ext fz hg
   cases hb : (fz || !xT vs) with
   | true => rw [hb] at h; simp at h
   | false =>
    rw [hb] at h; simp only [cond_false] at h; cases hp : vr cells off vs with
    | none => rw [hp] at h; simp at h
    | some cells' =>
     rw [hp] at h; simp only [zv] at h; subst h; simp only [VR] at hv; obtain ⟨B, hB, rfl⟩ := hv; simp at hb; obtain ⟨w', h1, h2⟩ := zwE r hg hB hb.1 hb.2 hp hx; exact ⟨_, w', rfl, h1, h2⟩
  ·cases h
 ·cases h
theorem wb {a b : Nat} : zd a b = true ↔ a < b := by rw [zQ]
theorem zyN {a b : Nat} (h : ¬ a < b) : Nat.blt a b = false := by rw [Bool.eq_false_iff, ne_eq, Nat.blt_eq]; exact h
theorem xN {a b : Nat} : ze a b = true ↔ a ≤ b := by rw [Nat.ble_eq]
theorem xG {a b : Nat} : za a b = true ↔ a = b := by rw [zo]
section tables
variable {P : Program} {w : World}
theorem WC (h : qU P t = some n) : ∃ i, P.info? t = some i ∧ i.size = n := by
 unfold qU at h; cases hi : P.info? t with
 | none => rw [hi] at h; simp at h
 | some i => rw [hi] at h; simp at h; exact ⟨i, rfl, h⟩
theorem uT {i : TypeInfo} (h : P.info? t = some i) : (typeInfo t).run P w = .ok i w := by simp [typeInfo, h]
theorem xj {d : TypeDesc} (h : P.underlying t = some d) : (underlying t).run P w = .ok d w := by simp [underlying, h]
theorem x5 (h : qU P t = some n) : (sizeOf t).run P w = .ok n w := by
 obtain ⟨i, hi, rfl⟩ := WC h; simp [sizeOf, uT hi]
theorem Yk (h : Uq P t = some n) : ∃ i, P.info? t = some i ∧ i.bytes = n := by
 unfold Uq at h; cases hi : P.info? t with
 | none => rw [hi] at h; simp at h
 | some i => rw [hi] at h; simp at h; exact ⟨i, rfl, h⟩
theorem qw {z : AV} (h : js P t = some z) : ∃ x, (∀ w, (zeroValue t).run P w = .ok x w) ∧ ∀ φ, VR φ z x := by
 unfold js at h; cases hi : P.info? t with
 | none => rw [hi] at h; simp at h
 | some i =>
  rw [hi] at h; simp only [Option.bind_some] at h; cases hz : i.zero with
  | none => rw [hz] at h; simp at h
  | some x =>
   rw [hz] at h; simp only [Option.bind_some] at h; exact ⟨x, fun w => by simp [zeroValue, uT hi, hz], fun φ => QN φ h⟩
theorem lV {b : Bool} (h : QC P t = some b) : (isAgg t).run P w = .ok b w := by
 unfold QC at h; split at h
 ·rename_i hu; cases h; simp [isAgg, xj hu]
 ·rename_i hu; cases h; simp [isAgg, xj hu]
 ·rename_i d hn1 hn2 hu; cases h
  simp only [isAgg, Sem.run_bind, xj hu, Result.andThen_ok]; cases d <;> simp_all
 ·cases h
end tables
theorem j8 : ∀ a b : Int, ltI a b = decide (a < b)
 | .ofNat a, .ofNat b => by
  show zd a b = _; by_cases h : a < b
  ·rw [show zd a b = true from wb.2 h]; exact (decide_eq_true (Int.ofNat_lt.2 h)).symm
  ·rw [show zd a b = false from by rw [zq, ne_eq, zQ]; exact h]; exact (decide_eq_false (fun h' => h (Int.ofNat_lt.1 h'))).symm
 | .ofNat a, .negSucc b => by simp only [ltI]; symm; apply decide_eq_false; have := Int.negSucc_lt_zero b; have : (0 : Int) ≤ zC a := zK a; omega
 | .negSucc a, .ofNat b => by simp only [ltI]; symm; apply decide_eq_true; have := Int.negSucc_lt_zero a; have : (0 : Int) ≤ zC b := zK b; omega
 | .negSucc a, .negSucc b => by
  show zd b a = _; by_cases h : b < a
  ·rw [show zd b a = true from wb.2 h]; symm; apply decide_eq_true; rw [zS, zS]; omega
  ·rw [show zd b a = false from by rw [zq, ne_eq, zQ]; exact h]; symm; apply decide_eq_false; rw [zS, zS]; omega
theorem kK : ∀ a b : Int, eqI a b = (a == b)
 | .ofNat a, .ofNat b => by
  show za a b = _; by_cases h : a = b
  ·subst h; simp
  ·rw [show za a b = false from by rw [zq, ne_eq, zo]; exact h]
   symm; rw [beq_eq_false_iff_ne]; intro e; exact h (Int.ofNat.inj e)
 | .ofNat a, .negSucc b => by simp [eqI]
 | .negSucc a, .ofNat b => by simp [eqI]
 | .negSucc a, .negSucc b => by
  show za a b = _; by_cases h : a = b
  ·subst h; simp
  ·rw [show za a b = false from by rw [zq, ne_eq, zo]; exact h]
   symm; rw [beq_eq_false_iff_ne]; intro e; exact h (Int.negSucc.inj e)
theorem hZ (k k' : IntKind) : vX k k' = decide (k = k') := by cases k <;> cases k' <;> rfl
theorem l7 (k : IntKind) (a : Nat) (h : a < Uk k) : k.wrap (Int.ofNat a) = Int.ofNat a := by
 have h1 : (zC a) = (a : Int) := rfl; rw [h1]; cases k <;> simp only [Uk] at h <;> simp only [IntKind.wrap, IntKind.bits, IntKind.signed] <;> simp <;> omega
theorem gj (k : IntKind) (n : Int) : qV k n = k.wrap n := by
 cases n with
 | ofNat a =>
  show (bif zd a (Uk k) then zC a else k.wrap (.ofNat a)) = _; cases h : zd a (Uk k) with
  | false => rfl
  | true => exact (l7 k a (wb.1 h)).symm
 | negSucc a => rfl
theorem Jq (a b : Int) : decide (a ≤ b) = !decide (b < a) := by
 by_cases h : b < a
 ·rw [decide_eq_true h, decide_eq_false oM]; rfl
 ·rw [decide_eq_false h, decide_eq_true oM]; rfl
theorem Lu {op : BinOp} {k k' : IntKind} {a b : Int} (φ : Phi) (h : ji op k a k' b = some v) :
  ∃ x, (binOp op t (.int k a) (.int k' b)).run P w = .ok x w ∧ VR φ v x := by
 unfold ji at h; split at h
 · -- shl
  cases hb : ltI b 0 with
  | true => rw [hb] at h; simp at h
  | false =>
   rw [hb] at h; simp only [cond_false, zv] at h; subst h; rw [j8] at hb; simp at hb; exact ⟨_, by simp [binOp, Op.shift]; rw [if_neg oM], by simp [VR, gj]⟩
 ·cases hb : ltI b 0 with
  | true => rw [hb] at h; simp at h
  | false =>
   rw [hb] at h; simp only [cond_false, zv] at h; subst h; rw [j8] at hb; simp at hb; exact ⟨_, by simp [binOp, Op.shift]; rw [if_neg oM], by simp [VR]⟩
 ·rename_i hn1 hn2
  cases hk : vX k k' with
  | false => rw [hk] at h; simp at h
  | true =>
   rw [hk] at h; simp only [cond_true] at h; rw [hZ] at hk; simp at hk; subst hk; split at h
   ·cases h; exact ⟨_, by simp [binOp, Op.intArith]; rfl, by simp only [VR, gj]; rfl⟩
   ·cases h; exact ⟨_, by simp [binOp, Op.intArith]; rfl, by simp only [VR, gj]; rfl⟩
   ·cases h; exact ⟨_, by simp [binOp, Op.intArith]; rfl, by simp only [VR, gj]; rfl⟩
   ·cases hb : eqI b 0 with
    | true => rw [hb] at h; simp at h
    | false =>
     rw [hb] at h; simp only [cond_false, zv] at h; subst h; rw [kK] at hb; simp at hb; exact ⟨_, by simp [binOp, Op.intDiv]; rw [if_neg hb], by simp [VR, gj]⟩
   ·cases hb : eqI b 0 with
    | true => rw [hb] at h; simp at h
    | false =>
     rw [hb] at h; simp only [cond_false, zv] at h; subst h; rw [kK] at hb; simp at hb; exact ⟨_, by simp [binOp, Op.intDiv]; rw [if_neg hb], by simp [VR]⟩
   ·cases h; exact ⟨_, by simp [binOp, Op.intCmp]; rfl, by simp [VR, kK]⟩
   ·cases h; exact ⟨_, by simp [binOp, Op.intCmp]; rfl, by simp [VR, kK, bne]⟩
   ·cases h; exact ⟨_, by simp [binOp, Op.intCmp]; rfl, by simp [VR, j8]⟩
   ·cases h; exact ⟨_, by simp [binOp, Op.intCmp]; rfl, by simp only [VR, j8, Jq]⟩
   ·cases h; exact ⟨_, by simp [binOp, Op.intCmp]; rfl, by simp [VR, j8]⟩
   ·cases h; exact ⟨_, by simp [binOp, Op.intCmp]; rfl, by simp only [VR, j8, Jq]⟩
   ·rename_i hbits
    cases hb : bits op k a b with
    | none => rw [hb] at h; simp at h
    | some r =>
     rw [hb] at h; simp only [zv] at h; subst h; refine ⟨.int k r, ?_, by simp [VR]⟩
     cases op <;> simp only [bits, zv] at hb <;> first | (cases hb; done) | (subst hb; simp only [binOp, Op.intBits]; simp)
theorem GW (op : BinOp) (t : TypeId) (x y : Operand) (k : IntKind) (n : Int) (v : Value) : (eqGuard op t x y (.int k n) v).run P w = .ok () w := by rw [eqGuard_at_int]; rfl
theorem Vd (op : BinOp) (t : TypeId) (x y : Operand) (s : ByteArray) (v : Value) : (eqGuard op t x y (.string s) v).run P w = .ok () w := by rw [eqGuard_at_string]; rfl
theorem w9 (s : ByteArray) : (qK s).length = s.size := by simp [qK]
theorem ZO : ∀ {a b : List UInt8}, a.map (·.toNat) = b.map (·.toNat) → a = b
 | [], [], _ => rfl
 | [], _ :: _, h => by simp at h
 | _ :: _, [], h => by simp at h
 | x :: a, y :: b, h => by
  simp only [zA, List.cons.injEq] at h; rw [UInt8.toNat_inj.1 h.1, ZO h.2]
theorem Z2 : ∀ a b : List Nat, eqS a b = (a == b)
 | [], [] => rfl
 | [], _ :: _ => rfl
 | _ :: _, [] => rfl
 | x :: a, y :: b => by
  show (bif za x y then eqS a b else false) = _; rw [List.cons_beq_cons, Z2 a b]; have : za x y = (x == y) := by
   by_cases h : x = y
   ·subst h; simp
   ·rw [beq_eq_false_iff_ne.2 h, zq, ne_eq, zo]; exact h
  rw [this]; cases (x == y) <;> simp
theorem QH (s t : ByteArray) : (s.toList == t.toList) = (qK s == qK t) := by
 rw [ByteArray.toList_eq, ByteArray.toList_eq]; by_cases h : s.data.toList = t.data.toList
 ·have : qK s = qK t := by unfold qK; rw [h]
  rw [h, this]; simp
 ·have h' : qK s ≠ qK t := fun e => h (ZO e); rw [beq_eq_false_iff_ne.2 h, beq_eq_false_iff_ne.2 h']
theorem zto : ∀ a b : List UInt8, ltS (a.map (·.toNat)) (b.map (·.toNat)) = Op.bytesLess a b
 | [], [] => rfl
 | _ :: _, [] => rfl
 | [], _ :: _ => rfl
 | x :: a, y :: b => by
  show (bif zd x.toNat y.toNat then true else bif za x.toNat y.toNat then ltS (a.map (·.toNat)) (b.map (·.toNat)) else false) = (decide (x < y) || (x == y && Op.bytesLess a b))
  rw [zto a b]; have h1 : zd x.toNat y.toNat = decide (x < y) := by
   by_cases h : x < y
   ·rw [decide_eq_true h]; exact wb.2 (UInt8.lt_iff_toNat_lt.1 h)
   ·rw [decide_eq_false h, zq, ne_eq, zQ]; exact fun e => h (UInt8.lt_iff_toNat_lt.2 e)
  have h2 : za x.toNat y.toNat = (x == y) := by
   by_cases h : x = y
   ·subst h; simp
   ·rw [beq_eq_false_iff_ne.2 h, zq, ne_eq, zo]; exact fun e => h (UInt8.toNat_inj.1 e)
  rw [h1, h2]; cases decide (x < y) <;> cases (x == y) <;> simp
theorem HA (s t : ByteArray) : qK (s ++ t) = qK s ++ qK t := by simp [qK]
theorem Lv {op : BinOp} {s u : ByteArray} (φ : Phi) (h : zyM op (qK s) (qK u) = some v) :
  ∃ x, (binOp op t (.string s) (.string u)).run P w = .ok x w ∧ VR φ v x := by
 have e1 : eqS (qK s) (qK u) = (s.toList == u.toList) := by rw [Z2, QH]
 have e2 : ltS (qK s) (qK u) = Op.bytesLess s.toList u.toList := by rw [ByteArray.toList_eq, ByteArray.toList_eq]; exact zto _ _
 cases op <;> simp only [zyM] at h
 case add =>
  cases hb : zd (Nat.add (wZ (qK s)) (wZ (qK u))) 9223372036854775808 with
  | false => rw [hb] at h; simp at h
  | true =>
   rw [hb] at h; simp only [cond_true, zv] at h; subst h; rw [zQ, wV, wV, w9, w9] at hb; have hb' : s.size + u.size < 9223372036854775808 := hb; refine ⟨.string (s ++ u), ?_, by simp only [VR]; exact ⟨_, rfl, HA s u⟩⟩
   simp only [binOp, Op.stringOp]; rw [if_neg]
   ·rfl
   ·simp [IntKind.max, IntKind.signed, IntKind.bits]; omega
 all_goals first
  | (cases h; done)
  | (cases h; exact ⟨_, by simp [binOp, Op.stringOp]; rfl, by simp [VR, e1, e2]⟩)
theorem zzk {op : BinOp} {x y : AV} {x' y' : Value} {ox oy : Operand} (h : zw7 op x y = some v) (hx : VR φ x x') (hy : VR φ y y') :
  ∃ z, (do eqGuard op t ox oy x' y'; binOp op t x' y' : Sem Value).run P w = .ok z w ∧ VR φ v z := by
 unfold zw7 at h; split at h
 ·rename_i k a
  split at h
  ·simp only [VR] at hx hy; subst hx; subst hy; obtain ⟨z, h1, h2⟩ := Lu (P := P) (w := w) (t := t) φ h; exact ⟨z, by rw [Sem.run_bind, GW]; exact h1, h2⟩
  ·cases h
 ·rename_i a
  split at h
  ·simp only [VR] at hx hy; obtain ⟨s, rfl, rfl⟩ := hx; obtain ⟨u, rfl, rfl⟩ := hy; obtain ⟨z, h1, h2⟩ := Lv (P := P) (w := w) (t := t) φ h; exact ⟨z, by rw [Sem.run_bind, Vd]; exact h1, h2⟩
  ·cases h
 ·cases h
theorem zvb {op : UnOp} {x : AV} {x' : Value} (h : vUn op x = some v) (hx : VR φ x x') : ∃ z, (Op.unary op x').run P w = .ok z w ∧ VR φ v z := by
 unfold vUn at h; split at h
 ·split at h
  ·cases h; simp only [VR] at hx; subst hx; exact ⟨_, by simp only [Op.unary, Op.intArith]; rfl, by simp only [VR, gj]; rfl⟩
  ·cases h
 ·split at h
  ·cases h; simp only [VR] at hx; subst hx; exact ⟨_, by simp [Op.unary]; rfl, by simp [VR]⟩
  ·cases h
 ·split at h
  ·rename_i k n
   simp only [VR] at hx; subst hx; cases hb : bits .xor k (bif k.signed then -1 else k.max) n with
   | none => rw [hb] at h; simp at h
   | some r =>
    rw [hb] at h; simp only [zv] at h; subst h; simp only [bits, zv] at hb; subst hb; refine ⟨_, by simp only [Op.unary, Op.intBits]; rfl, ?_⟩
    simp only [VR]; cases k.signed <;> simp
  ·cases h
 ·cases h
theorem zxt {f : FK} {a b : AV} {x y : Value} {r : Bool} (ht : fkT P t = some f) (d : Nat) (h : eq1 f a b = some r) (hx : VR φ a x) (hy : VR φ b y) :
  (Op.equalIn (d + 1) t x y).run P w = .ok r w := by
 unfold fkT at ht; split at ht
 ·rename_i k0 hu; cases ht
  simp only [eq1] at h; split at h
  ·rename_i k m k' n
   cases hkk : vX k k' with
   | false => rw [hkk] at h; simp at h
   | true =>
    rw [hkk] at h; simp only [cond_true, zv] at h; subst h; rw [hZ] at hkk; simp at hkk; subst hkk; simp only [VR] at hx hy; subst hx; subst hy; rw [run_equalIn_int w d t k k0 m n hu, kK]
  ·cases h
 ·rename_i hu; cases ht
  simp only [eq1] at h; split at h
  ·cases h; simp only [VR] at hx hy; obtain ⟨s, rfl, rfl⟩ := hx; obtain ⟨u, rfl, rfl⟩ := hy; rw [run_equalIn_string w d t s u hu, Z2, QH]
  ·cases h
 ·rename_i hu; cases ht
  simp only [eq1] at h; split at h
  ·cases h; simp only [VR] at hx hy; subst hx; subst hy; exact run_equalIn_bool' w d t _ _ hu
  ·cases h
 ·cases ht
theorem ztf {f : FK} (ht : fkT P t = some f) : (isAgg t).run P w = .ok false w := by
 unfold fkT at ht; split at ht
 ·rename_i hu; simp [isAgg, xj hu]
 ·rename_i hu; simp [isAgg, xj hu]
 ·rename_i hu; simp [isAgg, xj hu]
 ·cases ht
theorem zyt {f : FK} {xs : Array Value} {i : Nat} {x : Value} (ht : fkT P t = some f) (h : xs[i]? = some x) : (part t xs i).run P w = .ok x w := by
 simp [part, ztf ht, h]
theorem YX {P : Program} {w : World} {φ : Phi} (d : Nat) {xs ys : Array Value} : ∀ {fs : List Field} {i : Nat} {ks : List FK} {a b : List AV} {r : Bool}, jA P fs i = some ks → gQ ks a b = some r →
  VRL φ a (xs.toList.drop i) → VRL φ b (ys.toList.drop i) → (Op.eqFields (d + 1) xs ys fs).run P w = .ok r w
 | [], i, ks, a, b, r, hf, he, ha, hb => by
  simp [jA] at hf; subst hf; cases a <;> cases b <;> simp [gQ] at he
  subst he; simp [Op.eqFields]
 | f :: fs, i, ks, a, b, r, hf, he, ha, hb => by
  simp only [jA] at hf; cases hc : (f.offset == i && f.name != "_") with
  | false => rw [hc] at hf; simp at hf
  | true =>
   rw [hc] at hf; simp only [cond_true] at hf; simp at hc; obtain ⟨ho, hn⟩ := hc; cases h1 : fkT P f.type with
   | none => rw [h1] at hf; simp at hf
   | some k =>
    cases h2 : jA P fs (i + 1) with
    | none => rw [h1, h2] at hf; simp at hf
    | some l =>
     rw [h1, h2] at hf; simp at hf; subst hf; cases a with
     | nil => simp [gQ] at he
     | cons u a =>
      cases b with
      | nil => simp [gQ] at he
      | cons v b =>
       simp only [VRL] at ha hb; obtain ⟨x, xs', ex, hx, ha⟩ := ha; obtain ⟨y, ys', ey, hy, hb⟩ := hb; have gx : xs[i]? = some x := by
        have := congrArg (·[0]?) ex; simp at this; exact this
       have gy : ys[i]? = some y := by
        have := congrArg (·[0]?) ey; simp at this; exact this
       have dx : xs.toList.drop (i + 1) = xs' := by rw [← zZ, ex]; rfl
       have dy : ys.toList.drop (i + 1) = ys' := by rw [← zZ, ey]; rfl
       simp only [gQ] at he; have hp : f.name ≠ "_" := hn; simp only [Op.eqFields, hp, ne_eq, not_false_eq_true, if_true, Sem.run_bind, ho, zyt h1 gx, zyt h1 gy, Result.andThen_ok]; cases he1 : eq1 k u v with
       | none => rw [he1] at he; simp at he
       | some r1 =>
        rw [he1] at he; rw [zxt h1 d he1 hx hy]; cases r1 with
        | true =>
         simp only [] at he; simp only [Result.andThen_ok, Bool.not_true, zB, if_false]; exact YX d h2 he (dx ▸ ha) (dy ▸ hb)
        | false =>
         simp only [] at he; cases he2 : gQ l a b with
         | none => rw [he2] at he; simp at he
         | some r2 => rw [he2] at he; simp at he; subst he; simp
theorem wA {x y : Value} {r neg : Bool} (hx : (∀ k n, x ≠ .int k n) ∧ (∀ s, x ≠ .string s) ∧ (∀ k n, x ≠ .float k n) ∧ (∀ k n m, x ≠ .complex k n m))
  (h : (Op.equalIn (9999 + 1) t x y).run P w = .ok r w) : (binOp (bif neg then .neq else .eql) t x y).run P w = .ok (.bool (bif neg then !r else r)) w := by
 have he : (Op.equal t x y).run P w = .ok r w := h; obtain ⟨h1, h2, h3, h4⟩ := hx; cases neg <;> cases x <;> simp_all [binOp]
section eqIn
variable {P : Program} {w : World} {t : TypeId} (d : Nat)
theorem XO {e : TypeId} (hu : P.underlying t = some (.pointer e)) (b : Option Addr) : (Op.equalIn (d + 1) t (.pointer none) (.pointer b)).run P w = .ok b.isNone w := by simp [Op.equalIn, xj hu]
theorem U9 {e : TypeId} (hu : P.underlying t = some (.pointer e)) (a : Addr) : (Op.equalIn (d + 1) t (.pointer (some a)) (.pointer none)).run P w = .ok false w := by simp [Op.equalIn, xj hu]
theorem zrg {e : TypeId} (hu : P.underlying t = some (.pointer e)) (hs : (sizeOf e).run P w = .ok (n + 1) w) (b o o' : Nat) :
  (Op.equalIn (d + 1) t (.pointer (some ⟨b, o, none⟩)) (.pointer (some ⟨b, o', none⟩))).run P w = .ok (decide ((⟨b, o, none⟩ : Addr) = ⟨b, o', none⟩)) w := by
 have hne : ¬ (n + 1 = 0) := oM; simp only [Op.equalIn, Sem.run_bind, xj hu, Result.andThen_ok, hs, Sem.run_ite, ne_eq, hne, not_false_eq_true, if_true, sameAddr, beq_self_eq_true, Sem.run_pure]; rfl
theorem g9 {e : TypeId} (hu : P.underlying t = some (.slice e)) (b : Option Addr) (n m k l : Nat) : (Op.equalIn (d + 1) t (.slice none n m) (.slice b k l)).run P w = .ok b.isNone w := by simp [Op.equalIn, xj hu]
theorem Zn {e : TypeId} (hu : P.underlying t = some (.slice e)) (a : Addr) (n m k l : Nat) : (Op.equalIn (d + 1) t (.slice (some a) n m) (.slice none k l)).run P w = .ok false w := by simp [Op.equalIn, xj hu]
theorem U8 {k e : TypeId} (hu : P.underlying t = some (.map k e)) (b : Option Nat) : (Op.equalIn (d + 1) t (.map none) (.map b)).run P w = .ok b.isNone w := by simp [Op.equalIn, xj hu]
theorem zxv {k e : TypeId} (hu : P.underlying t = some (.map k e)) (a : Nat) : (Op.equalIn (d + 1) t (.map (some a)) (.map none)).run P w = .ok false w := by simp [Op.equalIn, xj hu]
theorem zxw {a b : Array TypeId} {v : Bool} (hu : P.underlying t = some (.func a b v)) : (Op.equalIn (d + 1) t .nilFunc .nilFunc).run P w = .ok true w := by simp [Op.equalIn, xj hu]
theorem Pf {a b : Array TypeId} {v : Bool} (hu : P.underlying t = some (.func a b v)) (f : Fn) (x y : Array Value) : (Op.equalIn (d + 1) t .nilFunc (.func f x y)).run P w = .ok false w := by simp [Op.equalIn, xj hu]
theorem zxu {a b : Array TypeId} {v : Bool} (hu : P.underlying t = some (.func a b v)) (f : Fn) (x y : Array Value) : (Op.equalIn (d + 1) t (.func f x y) .nilFunc).run P w = .ok false w := by simp [Op.equalIn, xj hu]
theorem zxx {ms : Array (String × TypeId)} (hu : P.underlying t = some (.interface ms)) : (Op.equalIn (d + 1) t .nilIface .nilIface).run P w = .ok true w := by simp [Op.equalIn, xj hu]
theorem Vf {ms : Array (String × TypeId)} (hu : P.underlying t = some (.interface ms)) (u : TypeId) (x : Value) : (Op.equalIn (d + 1) t .nilIface (.iface u x)).run P w = .ok false w := by simp [Op.equalIn, xj hu]
theorem U7 {ms : Array (String × TypeId)} (hu : P.underlying t = some (.interface ms)) (u : TypeId) (x : Value) : (Op.equalIn (d + 1) t (.iface u x) .nilIface).run P w = .ok false w := by simp [Op.equalIn, xj hu]
end eqIn
theorem Xa {x : Operand} (h : Region.isConst x = true) : ∃ c, x = .const c := by
 cases x with
 | const c => exact ⟨c, rfl⟩
 | tmp _ => cases h
 | global _ => cases h
 | func _ => cases h
theorem Ja {_w0 : World} {ox oy : Operand} {k0 : EqK} {a b : AV} {x y : Value} {r neg : Bool}
  (hk : Pg P t = some k0) (h : eqV (uY k0 ox oy) a b = some r) (hx : VR φ a x) (hy : VR φ b y) :
  (do eqGuard (bif neg then .neq else .eql) t ox oy x y; binOp (bif neg then .neq else .eql) t x y : Sem Value).run P w = .ok (.bool (bif neg then !r else r)) w := by
 unfold Pg at hk; split at hk
 ·cases hk; simp [uY, eqV] at h
 ·cases hk; simp [uY, eqV] at h
 · -- bool
  rename_i hu; cases hk; simp only [uY, eqV] at h
  split at h
  ·cases h; simp only [VR] at hx hy; subst hx; subst hy; rw [Sem.run_bind, eqGuard_at_bool]; exact wA (by simp) (run_equalIn_bool' w _ t _ _ hu)
  ·cases h
 · -- pointers
  rename_i e hu
  split at hk
  ·rename_i n hsz; cases hk; simp only [uY, eqV] at h
   have hs0 : (sizeOf e).run P w = .ok (n + 1) w := x5 hsz; split at h
   ·cases h; simp only [VR] at hx hy; subst hx; subst hy; rw [Sem.run_bind, eqGuard_at_pointer]; exact wA (by simp) (XO 9999 hu none)
   ·cases h; simp only [VR] at hx hy; obtain ⟨B, hB, rfl⟩ := hy; subst hx; rw [Sem.run_bind, eqGuard_at_pointer]; exact wA (by simp) (XO 9999 hu (some _))
   ·cases h; simp only [VR] at hx hy; obtain ⟨B, hB, rfl⟩ := hx; subst hy; rw [Sem.run_bind, eqGuard_at_pointer]; exact wA (by simp) (U9 9999 hu _)
   ·cases h; simp only [VR] at hx hy; obtain ⟨_, b, o, ys, rfl, _⟩ := hy; subst hx; rw [Sem.run_bind, eqGuard_at_pointer]; exact wA (by simp) (XO 9999 hu (some _))
   ·cases h; simp only [VR] at hx hy; obtain ⟨_, b, o, ys, rfl, _⟩ := hx; subst hy; rw [Sem.run_bind, eqGuard_at_pointer]; exact wA (by simp) (U9 9999 hu _)
   ·rename_i i o i' o'
    cases hb : za i i' with
    | false => rw [hb] at h; simp at h
    | true =>
     rw [hb] at h; simp only [cond_true, zv] at h; subst h; rw [xG] at hb; subst hb; simp only [VR] at hx hy; obtain ⟨B, hB, rfl⟩ := hx; obtain ⟨B', hB', rfl⟩ := hy; rw [hB] at hB'; cases hB'; rw [Sem.run_bind, eqGuard_at_pointer]; have e1 : za o o' = decide ((⟨B.b, B.o + o, none⟩ : Addr) = ⟨B.b, B.o + o', none⟩) := by
      by_cases e : o = o'
      ·subst e; simp
      ·have e' : ¬ ((⟨B.b, B.o + o, none⟩ : Addr) = ⟨B.b, B.o + o', none⟩) := fun h => e (by have := congrArg Addr.off h; simp only at this; omega)
       rw [decide_eq_false e', zq, ne_eq, zo]; exact e
     rw [e1]; exact wA (by simp) (zrg 9999 hu hs0 _ _ _)
   ·cases h
  ·cases hk
 · -- slices
  rename_i hu; cases hk; simp only [uY, eqV] at h
  split at h
  ·cases h; simp only [VR] at hx hy; subst hx; subst hy; rw [Sem.run_bind, eqGuard_at_slice]; exact wA (by simp) (g9 9999 hu none _ _ _ _)
  ·cases h; simp only [VR] at hx hy; subst hx; obtain ⟨B, k, hB, rfl, _⟩ := hy; rw [Sem.run_bind, eqGuard_at_slice]; exact wA (by simp) (g9 9999 hu (some _) _ _ _ _)
  ·cases h; simp only [VR] at hx hy; subst hy; obtain ⟨B, k, hB, rfl, _⟩ := hx; rw [Sem.run_bind, eqGuard_at_slice]; exact wA (by simp) (Zn 9999 hu _ _ _ _ _)
  ·cases h; simp only [VR] at hx hy; subst hx; obtain ⟨a, k, rfl⟩ := hy; rw [Sem.run_bind, eqGuard_at_slice]; exact wA (by simp) (g9 9999 hu (some _) _ _ _ _)
  ·cases h; simp only [VR] at hx hy; subst hy; obtain ⟨a, k, rfl⟩ := hx; rw [Sem.run_bind, eqGuard_at_slice]; exact wA (by simp) (Zn 9999 hu _ _ _ _ _)
  ·rename_i n ex cs
   cases hb : za n 0 with
   | true => rw [hb] at h; simp at h
   | false =>
    rw [hb] at h; simp only [cond_false, zv] at h; subst h; simp only [VR] at hx hy; subst hx; obtain ⟨_, ⟨rfl, _⟩ | ⟨b, o, k, ys, rfl, _⟩⟩ := hy
    ·simp at hb
    ·rw [Sem.run_bind, eqGuard_at_slice]; exact wA (by simp) (g9 9999 hu (some _) _ _ _ _)
  ·rename_i n ex cs
   cases hb : za n 0 with
   | true => rw [hb] at h; simp at h
   | false =>
    rw [hb] at h; simp only [cond_false, zv] at h; subst h; simp only [VR] at hx hy; subst hy; obtain ⟨_, ⟨rfl, _⟩ | ⟨b, o, k, ys, rfl, _⟩⟩ := hx
    ·simp at hb
    ·rw [Sem.run_bind, eqGuard_at_slice]; exact wA (by simp) (Zn 9999 hu _ _ _ _ _)
  ·cases h; simp only [VR] at hx hy; subst hx; obtain ⟨_, _, _, _, B, ys, _, rfl, _⟩ := hy; rw [Sem.run_bind, eqGuard_at_slice]; exact wA (by simp) (g9 9999 hu (some _) _ _ _ _)
  ·cases h; simp only [VR] at hx hy; subst hy; obtain ⟨_, _, _, _, B, ys, _, rfl, _⟩ := hx; rw [Sem.run_bind, eqGuard_at_slice]; exact wA (by simp) (Zn 9999 hu _ _ _ _ _)
  ·cases h
 · -- maps
  rename_i hu; cases hk; simp only [uY, eqV] at h
  split at h
  ·cases h; simp only [VR] at hx hy; subst hx; subst hy; rw [Sem.run_bind, eqGuard_at_map]; exact wA (by simp) (U8 9999 hu none)
  ·cases h; simp only [VR] at hx hy; subst hx; obtain ⟨B, hB, rfl⟩ := hy; rw [Sem.run_bind, eqGuard_at_map]; exact wA (by simp) (U8 9999 hu (some _))
  ·cases h; simp only [VR] at hx hy; subst hy; obtain ⟨B, hB, rfl⟩ := hx; rw [Sem.run_bind, eqGuard_at_map]; exact wA (by simp) (zxv 9999 hu _)
  ·cases h
 · -- functions
  rename_i hu; cases hk; simp only [uY, eqV] at h
  split at h
  ·cases h; simp only [VR] at hx hy; subst hx; subst hy; rw [Sem.run_bind, eqGuard_at_nilFunc]; exact wA (by simp) (zxw 9999 hu)
  ·cases h; simp only [VR] at hx hy; subst hx; obtain ⟨u, v, rfl, _⟩ := hy; rw [Sem.run_bind, eqGuard_at_nilFunc]; exact wA (by simp) (Pf 9999 hu _ _ _)
  ·cases h; simp only [VR] at hx hy; subst hy; obtain ⟨u, v, rfl, _⟩ := hx; rw [Sem.run_bind, eqGuard_at_func]; exact wA (by simp) (zxu 9999 hu _ _ _)
  ·cases h
 · -- interfaces
  rename_i hu; cases hk; simp only [uY] at h
  cases hc : (Region.isConst ox || Region.isConst oy) with
  | false =>
   rw [hc] at h; simp only [cond_false, eqV] at h; split at h
   ·cases h; simp only [VR] at hx hy; subst hx; obtain ⟨u, rfl, _⟩ := hy; rw [Sem.run_bind, eqGuard_nil_iface]; exact wA (by simp) (Vf 9999 hu _ _)
   ·cases h; simp only [VR] at hx hy; subst hy; obtain ⟨u, rfl, _⟩ := hx; rw [Sem.run_bind, eqGuard_at_iface]; exact wA (by simp) (U7 9999 hu _ _)
   ·cases h
  | true =>
   rw [hc] at h; simp only [cond_true, eqV] at h; split at h
   ·cases h; simp only [VR] at hx hy; subst hx; subst hy; have hg : (eqGuard (bif neg then .neq else .eql) t ox oy .nilIface .nilIface).run P w = .ok () w := by
     rw [Bool.or_eq_true] at hc; rcases hc with hc | hc
     ·obtain ⟨c, rfl⟩ := Xa hc; rw [eqGuard_nil_constL]; rfl
     ·obtain ⟨c, rfl⟩ := Xa hc; rw [eqGuard_nil_constR]; rfl
    rw [Sem.run_bind, hg]; exact wA (by simp) (zxx 9999 hu)
   ·cases h; simp only [VR] at hx hy; subst hx; obtain ⟨u, rfl, _⟩ := hy; rw [Sem.run_bind, eqGuard_nil_iface]; exact wA (by simp) (Vf 9999 hu _ _)
   ·cases h; simp only [VR] at hx hy; subst hy; obtain ⟨u, rfl, _⟩ := hx; rw [Sem.run_bind, eqGuard_at_iface]; exact wA (by simp) (U7 9999 hu _ _)
   ·cases h
 · -- structs
  rename_i fs hu
  split at hk
  ·rename_i ks hks
   cases hc : (!P.eqGuardType P.depth t && !P.stoodInHeld t) with
   | false => rw [hc] at hk; simp at hk
   | true =>
    rw [hc] at hk; simp only [cond_true, zv] at hk; subst hk; simp at hc; simp only [uY, eqV] at h; split at h
    ·simp only [VR] at hx hy; obtain ⟨xs, rfl, hx⟩ := hx; obtain ⟨ys, rfl, hy⟩ := hy; have hf : P.fieldsOf t = fs := by simp [Program.fieldsOf, hu]
     have hrun : (Op.equalIn (9999 + 1) t (.agg xs.toArray) (.agg ys.toArray)).run P w = .ok r w := by
      rw [run_equalIn_struct w 9999 t _ _ (by rw [hf]; exact hu) hc.2, hf]
      exact YX (P := P) (w := w) (φ := φ) 9998 hks h (by simpa using hx) (by simpa using hy)
     rw [Sem.run_bind, run_eqGuard_agg w _ t ox oy _ _ hc.1]; exact wA (by simp) hrun
    ·cases h
  ·cases hk
 ·cases hk
theorem Qg {s d : TypeId} {u : TypeDesc} {k : IntKind} {x : AV} {x' : Value} (hs : P.underlying s = some u) (hd : P.underlying d = some (.int k)) (h : vCi k x = some v) (hx : VR φ x x') :
  ∃ z, (convert s d x').run P w = .ok z w ∧ VR φ v z := by
 unfold vCi at h; split at h
 ·cases h; simp only [VR] at hx; subst hx; refine ⟨_, ?_, by simp only [VR]; rfl⟩
  rw [gj]; simp only [convert, Sem.run_bind, xj hs, xj hd, Result.andThen_ok]; cases u <;> rfl
 ·cases h
theorem zse {s d : TypeId} {x : AV} {x' : Value} (hs : P.underlying s = some .string) (hd : P.underlying d = some .string) (h : znW x = some v) (hx : VR φ x x') :
  ∃ z, (convert s d x').run P w = .ok z w ∧ VR φ v z := by
 unfold znW at h; split at h
 ·cases h; have hx' := hx; simp only [VR] at hx; obtain ⟨t, rfl, _⟩ := hx
  exact ⟨_, by simp [convert, xj hs, xj hd], hx'⟩
 ·cases h
theorem YM (a b : Nat) : ze a b = decide (a ≤ b) := by
 cases h : ze a b with
 | true => exact (decide_eq_true (xN.1 h)).symm
 | false => exact (decide_eq_false (fun h' => by rw [xN.2 h'] at h; cases h)).symm
theorem YN (a b : Nat) : zd a b = decide (a < b) := by
 cases h : zd a b with
 | true => exact (decide_eq_true (wb.1 h)).symm
 | false => exact (decide_eq_false (fun h' => by rw [wb.2 h'] at h; cases h)).symm
theorem JV (c : Nat) : Utf8.valid (zC c) = wH c := by
 unfold Utf8.valid wH; rw [Int.ofNat_eq_natCast, YN, YM, YM]; have e0 : decide ((0 : Int) ≤ (c : Int)) = true := decide_eq_true oM; have e1 : decide ((c : Int) < 0xD800) = decide (c < 55296) := decide_eq_decide.2 oM; have e2 : decide ((0xE000 : Int) ≤ (c : Int)) = decide (57344 ≤ c) := decide_eq_decide.2 oM; have e3 : decide ((c : Int) ≤ 0x10FFFF) = decide (c ≤ 1114111) := decide_eq_decide.2 oM; rw [e0, e1, e2, e3, Bool.true_and]; cases decide (c < 55296) with
 | true => rw [Bool.true_or, cond_true]
 | false => rw [Bool.false_or, cond_false]
theorem kh {α : Type} {a b : Nat} {x y : α} : (bif zd a b then x else y) = if a < b then x else y := by
 cases h : zd a b with
 | true => rw [if_pos (wb.1 h)]; rfl
 | false => rw [if_neg (fun h' => by rw [wb.2 h'] at h; cases h)]; rfl
theorem VO {c : Nat} (h : c ≤ 1114111) : qK (if c < 0x80 then ⟨#[UInt8.ofNat c]⟩
 else if c < 0x800 then ⟨#[UInt8.ofNat (0xC0 + c / 64), UInt8.ofNat (0x80 + c % 64)]⟩
 else if c < 0x10000 then ⟨#[UInt8.ofNat (0xE0 + c / 4096), UInt8.ofNat (0x80 + c / 64 % 64), UInt8.ofNat (0x80 + c % 64)]⟩
 else ⟨#[UInt8.ofNat (0xF0 + c / 262144), UInt8.ofNat (0x80 + c / 4096 % 64), UInt8.ofNat (0x80 + c / 64 % 64), UInt8.ofNat (0x80 + c % 64)]⟩) = pA c := by
 unfold pA; rw [kh, kh, kh]; have e : ∀ n, n < 256 → (UInt8.ofNat n).toNat = n := fun n hn => by simp; omega
 by_cases h1 : c < 128
 ·rw [if_pos h1, if_pos h1]; simp only [qK, zA, zV, e c oM]
 ·rw [if_neg h1, if_neg h1]; by_cases h2 : c < 2048
  ·rw [if_pos h2, if_pos h2]; simp only [qK, zA, zV]; rw [e _ oM, e _ oM]; rfl
  ·rw [if_neg h2, if_neg h2]; by_cases h3 : c < 65536
   ·rw [if_pos h3, if_pos h3]; simp only [qK, zA, zV]; rw [e _ oM, e _ oM, e _ oM]; rfl
   ·rw [if_neg h3, if_neg h3]; simp only [qK, zA, zV]; rw [e _ oM, e _ oM, e _ oM, e _ oM]; rfl
theorem HB (n : Int) : qK (Utf8.encode n) = zrc n := by
 cases n with
 | ofNat c =>
  have hE : zrc (.ofNat c) = pA (bif wH c then c else 65533) := rfl; rw [hE]; unfold Utf8.encode; rw [JV]; cases hv : wH c with
  | false =>
   simp only [zB, if_false, cond_false]; exact VO (c := 65533) oM
  | true =>
   simp only [if_true, cond_true]; refine VO (c := c) ?_; unfold wH at hv; rw [kh] at hv; by_cases h1 : c < 55296
   ·omega
   ·rw [if_neg h1, zl] at hv; exact xN.1 hv.2
 | negSucc k =>
  have hv : Utf8.valid (yc k) = false := by
   unfold Utf8.valid; have e1 : decide ((0 : Int) ≤ yc k) = false := decide_eq_false oM; have e2 : decide ((0xE000 : Int) ≤ yc k) = false := decide_eq_false oM; rw [e1, e2]; rfl
  have hE : zrc (.negSucc k) = pA 65533 := rfl; rw [hE]; unfold Utf8.encode; rw [hv]; simp only [zB, if_false]; exact VO (c := 65533) oM
theorem V2 {s d : TypeId} {k0 : IntKind} {x : AV} {x' : Value} (hs : P.underlying s = some (.int k0)) (hd : P.underlying d = some .string) (h : zoX x = some v) (hx : VR φ x x') :
  ∃ z, (convert s d x').run P w = .ok z w ∧ VR φ v z := by
 unfold zoX at h; split at h
 ·rename_i k n
  simp only [zv] at h; subst h; simp only [VR] at hx; subst hx; exact ⟨_, by simp [convert, xj hs, xj hd, Conv.intToString]; rfl, by simp only [VR]; exact ⟨_, rfl, HB n⟩⟩
 ·cases h
theorem lu {φ : Phi} : ∀ (l : List UInt8), VRL φ (x6 (l.map (·.toNat))) (l.map fun b => Value.int .u8 (b.toNat : Int))
 | [] => VRL.nil φ
 | b :: r => VRL.cons (by simp only [VR]; rfl) (lu r)
theorem jL : ∀ l : List Nat, (x6 l).length = l.length
 | [] => rfl
 | _ :: r => by simp [x6, jL r]
theorem jO {φ : Phi} : ∀ {l : List AV} {b : List Nat} {xs : List Value}, ur l = some b → VRL φ l xs → ∃ us : List UInt8, b = us.map (·.toNat) ∧ xs = us.map fun u => Value.int .u8 (u.toNat : Int)
 | [], b, xs, h, hx => by simp [ur] at h; subst h; simp only [VRL] at hx; subst hx; exact ⟨[], rfl, rfl⟩
 | v :: r, b, xs, h, hx => by
  simp only [ur] at h; split at h
  ·rename_i n
   cases hb : zd n 256 with
   | false => rw [hb] at h; simp at h
   | true =>
    rw [hb] at h; simp only [cond_true] at h; cases hr : ur r with
    | none => rw [hr] at h; simp at h
    | some l =>
     rw [hr] at h; simp at h; subst h; simp only [VRL] at hx; obtain ⟨y, ys, rfl, h1, h2⟩ := hx; obtain ⟨us, rfl, rfl⟩ := jO hr h2; simp only [VR] at h1; subst h1; have hlt := wb.1 hb; have e : (UInt8.ofNat n).toNat = n := by simp; omega
     exact ⟨UInt8.ofNat n :: us, by simp only [zA, e], by simp only [zA, e]; rfl⟩
  ·cases h
theorem X7 (s : ByteArray) : ∀ us : List UInt8, (us.foldl (fun (s : ByteArray) u => s.push u) s).data.toList = s.data.toList ++ us
 | [] => by simp
 | u :: us => by rw [zW, X7]; simp [ByteArray.push]
theorem gU {P : Program} {w : World} (g : Value → ByteArray → Sem (ForInStep ByteArray)) (hg : ∀ n r, g (.int .u8 n) r = pure (ForInStep.yield (r.push (UInt8.ofNat n.toNat)))) : ∀ (us : List UInt8) (s : ByteArray),
  (forIn (us.map fun u => Value.int .u8 (u.toNat : Int)) s g).run P w = .ok (us.foldl (fun (s : ByteArray) u => s.push u) s) w
 | [], s => by simp
 | u :: us, s => by
  simp only [zA, List.forIn_cons, zW, hg, Sem.run_bind, Sem.run_pure, Result.andThen_ok]; have : UInt8.ofNat ((u.toNat : Int)).toNat = u := by simp
  rw [this]; exact gU g hg us (s.push u)
theorem zyU {st : St} (r : Rel P w0 φ st.get w) {s d e : TypeId} {x : AV} {x' : Value} (hs : P.underlying s = some (.slice e)) (hd : P.underlying d = some .string) (he : P.underlying e = some (.int .u8))
  (h : zw8 st x = some v) (hx : VR φ x x') : ∃ z, (convert s d x').run P w = .ok z w ∧ VR φ v z := by
 have core : ∀ (n k : Nat) (cs : List AV) (b o : Nat), Xx (vF (wC n cs)) = some v → VR φ (.vp cs) (.pointer (some ⟨b, o, none⟩)) → ∃ z, (convert s d (.slice (some ⟨b, o, none⟩) n k)).run P w = .ok z w ∧ VR φ v z := by
  intro n k cs b o h hv; have hl : ∃ l b, wC n cs = some l ∧ ur l = some b ∧ v = .str b := by
   cases hc : wC n cs with
   | none => rw [hc] at h; simp [vF, Xx] at h
   | some l =>
    rw [hc] at h; simp only [vF] at h; cases hu : ur l with
    | none => rw [hu] at h; simp [Xx] at h
    | some b => rw [hu] at h; simp [Xx] at h; exact ⟨l, b, rfl, hu, h.symm⟩
  obtain ⟨l, b', hc, hu, rfl⟩ := hl; have hld : vH [] st (.vp cs) n = some l := hc; obtain ⟨a, xs, ea, hlen, hxs, hcell⟩ := vC r (G := []) (fun g cs h => by simp at h) hld hv
  cases ea; obtain ⟨us, rfl, rfl⟩ := jO hu hxs; have hrun := run_loadCells_list (P := P) w ⟨b, o, none⟩ _ hcell; rw [hlen] at hrun; refine ⟨.string (us.foldl (fun (s : ByteArray) u => s.push u) .empty), ?_, by simp only [VR]; exact ⟨_, rfl, by unfold qK; rw [X7]; rfl⟩⟩
  simp only [convert, Sem.run_bind, xj hs, xj hd, xj he, Result.andThen_ok, Conv.bytesToString, hrun]; rw [← z8, gU _ (fun n r => rfl) us ByteArray.empty]; simp
 unfold zw8 at h; split at h
 ·cases h; simp only [VR] at hx; subst hx; exact ⟨.string .empty, by simp [convert, xj hs, xj hd, xj he, Conv.bytesToString], by simp only [VR]; exact ⟨_, rfl, rfl⟩⟩
 ·cases h; simp only [VR] at hx; obtain ⟨a, k, rfl⟩ := hx; refine ⟨.string .empty, ?_, by simp only [VR]; exact ⟨_, rfl, rfl⟩⟩
  simp [convert, xj hs, xj hd, xj he, Conv.bytesToString, loadCells, loadCellsFrom]
 ·rename_i id off n c
  have key : ∀ cells, (∀ l, cut cells off n = some l → vH [] st (.ptr id off) n = some l) → Xx (vF (cut cells off n)) = some v → ∃ z, (convert s d x').run P w = .ok z w ∧ VR φ v z := by
   intro cells hlc h; have hl : ∃ l b, cut cells off n = some l ∧ ur l = some b ∧ v = .str b := by
    cases hc : cut cells off n with
    | none => rw [hc] at h; simp [vF, Xx] at h
    | some l =>
     rw [hc] at h; simp only [vF] at h; cases hu : ur l with
     | none => rw [hu] at h; simp [Xx] at h
     | some b => rw [hu] at h; simp [Xx] at h; exact ⟨l, b, rfl, hu, h.symm⟩
   obtain ⟨l, b, hc, hu, rfl⟩ := hl; simp only [VR] at hx; obtain ⟨B, k, hB, rfl, _⟩ := hx; have hld : vH [] st (.ptr id off) n = some l := hlc l hc; obtain ⟨a, xs, ea, hlen, hxs, hcell⟩ := vC r (G := []) (fun g cs h => by simp at h) hld (x := .pointer (some ⟨B.b, B.o + off, none⟩)) (by simp only [VR]; exact ⟨B, hB, rfl⟩)
   cases ea; obtain ⟨us, rfl, rfl⟩ := jO hu hxs; have hrun := run_loadCells_list (P := P) w ⟨B.b, B.o + off, none⟩ _ hcell; rw [hlen] at hrun; refine ⟨.string (us.foldl (fun (s : ByteArray) u => s.push u) .empty), ?_, by simp only [VR]; exact ⟨_, rfl, by unfold qK; rw [X7]; rfl⟩⟩
   simp only [convert, Sem.run_bind, xj hs, xj hd, xj he, Result.andThen_ok, Conv.bytesToString, hrun]; rw [← z8, gU _ (fun n r => rfl) us ByteArray.empty]; simp
  split at h
  ·rename_i t cells ext fz hg
   exact key cells (fun l hc => by simp only [vH, hg]; exact hc) h
  ·rename_i cells hg
   exact key cells (fun l hc => by simp only [vH, hg]; exact hc) h
  ·cases h
 ·rename_i n ex cs
  simp only [VR] at hx; obtain ⟨hp, ⟨rfl, a, rfl⟩ | ⟨b, o, k, ys, rfl, _, _, hz, hy⟩⟩ := hx
  ·simp only [wC, vF, ur, Xx, zv] at h; subst h; refine ⟨.string .empty, ?_, by simp only [VR]; exact ⟨_, rfl, rfl⟩⟩
   cases a <;> simp [convert, xj hs, xj hd, xj he, Conv.bytesToString, loadCells, loadCellsFrom]
  ·exact core n k cs b o h (by simp only [VR]; exact ⟨hp, b, o, ys, rfl, hz, hy⟩)
 ·rename_i id e' n cs
  simp only [VR] at hx; obtain ⟨hp, _, _, _, B, ys, _, rfl, _, hz, hy⟩ := hx; exact core n _ cs B.b B.o h (by simp only [VR]; exact ⟨hp, B.b, B.o, ys, rfl, hz, hy⟩)
 ·cases h
theorem gY {d k : Nat} {i : Option AV} {i' : Option Value} (h : bnd d i n = some k) (hi : OR φ i i') :
  (i' = none ∧ i = none ∧ k = d) ∨ ∃ x, i' = some x ∧ i ≠ none ∧ k ≤ n ∧ ∀ code, (Instr.sliceBound x n code).run P w = .ok k w := by
 unfold bnd at h; split at h
 ·cases h; simp only [OR] at hi; exact .inl ⟨hi, rfl, rfl⟩
 ·rename_i kk a
  cases hb : ze a n with
  | false => rw [hb] at h; simp at h
  | true =>
   rw [hb] at h; simp only [cond_true, zv] at h; subst h; simp only [OR] at hi; obtain ⟨x, rfl, hx⟩ := hi; simp only [VR] at hx; subst hx; have hle := xN.1 hb; refine .inr ⟨_, rfl, by simp, hle, fun code => ?_⟩
   have h1 : (0 : Int) ≤ zC a ∧ zC a ≤ (n : Int) := ⟨zK a, Int.ofNat_le.2 hle⟩; simp only [Instr.sliceBound, Sem.run_bind, asIntOf, Sem.run_pure, Result.andThen_ok]; rw [if_pos h1]; rfl
 ·cases h
theorem qq {isSlice : Bool} {len cap m h l : Nat} {lo hi mx : Option AV} {lo' hi' mx' : Option Value}
  (hm : bnd cap mx cap = some m) (hh : bnd len hi m = some h) (hl : bnd 0 lo h = some l) (rl : OR φ lo lo') (rh : OR φ hi hi') (rm : OR φ mx mx') (hmh : mx = none ∨ hi ≠ none) :
  (Instr.sliceBounds isSlice len cap lo' hi' mx').run P w = .ok (l, h, m) w := by
 rcases gY (P := P) (w := w) hm rm with ⟨rfl, rfl, rfl⟩ | ⟨xm, rfl, nm, _, em⟩
 ·rcases gY (P := P) (w := w) hh rh with ⟨rfl, rfl, rfl⟩ | ⟨xh, rfl, nh, _, eh⟩ <;>
   rcases gY (P := P) (w := w) hl rl with ⟨rfl, rfl, rfl⟩ | ⟨xl, rfl, nl, _, el⟩ <;> simp [Instr.sliceBounds, *]
 ·rcases gY (P := P) (w := w) hh rh with ⟨rfl, rfl, rfl⟩ | ⟨xh, rfl, nh, _, eh⟩
  ·rcases hmh with e | e
   ·exact absurd e nm
   ·exact absurd rfl e
  ·rcases gY (P := P) (w := w) hl rl with ⟨rfl, rfl, rfl⟩ | ⟨xl, rfl, nl, _, el⟩ <;> simp [Instr.sliceBounds, *]
theorem j3 {d k : Nat} {i : Option AV} (h : bnd d i n = some k) (hd : d ≤ n) : k ≤ n := by
 unfold bnd at h; split at h
 ·cases h; exact hd
 ·rename_i kk a
  cases hb : ze a n with
  | false => rw [hb] at h; simp at h
  | true => rw [hb] at h; simp only [cond_true, zv] at h; subst h; exact xN.1 hb
 ·cases h
theorem p6 : ∀ (n : Nat) (l : List Nat), Ug n l = l.take n
 | 0, l => by simp [Ug]
 | n + 1, [] => by simp [Ug]
 | n + 1, v :: r => by simp [Ug, p6 n r]
theorem YQ : ∀ (n : Nat) (l : List Nat), U0 n l = l.drop n
 | 0, l => rfl
 | n + 1, [] => by simp [U0]
 | n + 1, v :: r => by simp [U0, YQ n r]
theorem KQ : ∀ (l : List Nat) (n : Nat), Pt l n = l[n]?
 | [], _ => rfl
 | v :: _, 0 => rfl
 | _ :: r, n + 1 => by simp [Pt, KQ r n]
theorem KX (s : ByteArray) (l h : Nat) : qK (s.extract l h) = ((qK s).drop l).take (h - l) := by
 simp [qK, List.map_drop, List.map_take]
theorem HC (s : ByteArray) (i : Nat) : (qK s)[i]? = (s[i]?).map (·.toNat) := by
 unfold qK; rw [List.getElem?_map]; by_cases h : i < s.size
 ·rw [ByteArray.getElem?_lt' s i h]; have : s.data.toList[i]? = some s[i] := by rw [zy]; exact zJ h
  rw [this]
 ·rw [ByteArray.getElem?_ge' s i h]; have : s.data.toList[i]? = none := by rw [zy]; exact Array.getElem?_eq_none (by have : s.data.size = s.size := rfl; omega)
  rw [this]
theorem pj {d n' k : Nat} {i : Option AV} (h : bnd d i n = some k) (hn : n ≤ n') : bnd d i n' = some k := by
 unfold bnd at h ⊢; split at h
 ·exact h
 ·rename_i kk a
  cases hb : ze a n with
  | false => rw [hb] at h; simp at h
  | true => rw [hb] at h; rw [xN.2 (Nat.le_trans (xN.1 hb) hn)]; exact h
 ·cases h
theorem uG (d : Nat) (v : AV) (n : Nat) : bnd d (some v) n = bnd 0 (some v) n := by
 unfold bnd; split <;> simp_all
theorem zwI {x : AV} {x' : Value} {lo hi : Option AV} {lo' hi' : Option Value} (hu : P.underlying t = some .string) (h : zva x lo hi = some v) (hx : VR φ x x') (rl : OR φ lo lo') (rh : OR φ hi hi') :
  ∃ z, (Instr.sliceAt t x' lo' hi' none).run P w = .ok z w ∧ VR φ v z := by
 unfold zva at h; split at h
 ·rename_i l0
  simp only [VR] at hx; obtain ⟨s, rfl, rfl⟩ := hx; rw [wV, w9] at h; cases hh : bnd s.size hi s.size with
  | none => rw [hh] at h; simp at h
  | some h1 =>
   rw [hh] at h; simp only at h; cases hl : bnd 0 lo h1 with
   | none => rw [hl] at h; simp at h
   | some l1 =>
    rw [hl] at h; simp only [zv] at h; subst h; have hb := qq (P := P) (w := w) (φ := φ) (isSlice := false) (len := s.size) (cap := s.size) (mx := none) (mx' := none) (m := s.size) rfl hh hl rl rh rfl (.inl rfl); refine ⟨.string (s.extract l1 h1), ?_, ?_⟩
    ·simp [Instr.sliceAt, Instr.slice, xj hu, hb]
    ·simp only [VR]; exact ⟨_, rfl, by rw [KX, p6, YQ]; rfl⟩
 ·cases h
theorem zxa {t off e l : Nat} (_he : 0 < e) (hl : l ≤ (t - off) / e) : (t - (off + l * e)) / e = (t - off) / e - l ∧ (off ≤ t → off + l * e ≤ t) := by
 have h1 : l * e ≤ t - off := Nat.le_trans (Nat.mul_le_mul_right e hl) (Nat.div_mul_le_self _ _); refine ⟨?_, fun h => oM⟩; rw [Nat.sub_add_eq]; have := Nat.sub_mul_div (t - off) e l; rw [z9] at this; exact this
theorem Yr {off m len h1 l1 : Nat} {lo hi : Option AV} {B : Blk} (hB : φ id = some B) (h : zzl id off esz m len lo hi = some v) (hh : bnd len hi m = some h1) (hl : bnd 0 lo h1 = some l1) :
  VR φ v (.slice (some (if m = l1 then (⟨B.b, B.o + off, none⟩ : Addr) else ⟨B.b, B.o + off + l1 * esz, none⟩)) (h1 - l1) (m - l1)) := by
 unfold zzl at h; rw [hh] at h; simp only at h; rw [hl] at h; simp only [zv] at h; subst h; simp only [VR]; refine ⟨B, m - l1, hB, ?_, rfl⟩; by_cases e : m = l1
 ·subst e; simp
 ·rw [if_neg e]; have : za m l1 = false := by rw [zq, ne_eq, zo]; exact e
  rw [this]; show _ = Value.slice (some ⟨B.b, B.o + (off + l1 * esz), none⟩) (h1 - l1) (m - l1); rw [zI]
theorem Wc {off m len : Nat} {lo hi : Option AV} (h : zzl id off esz m len lo hi = some v) : ∃ h1 l1, bnd len hi m = some h1 ∧ bnd 0 lo h1 = some l1 := by
 unfold zzl at h; cases hh : bnd len hi m with
 | none => rw [hh] at h; simp at h
 | some h1 =>
  rw [hh] at h; simp only at h; cases hl : bnd 0 lo h1 with
  | none => rw [hl] at h; simp at h
  | some l1 => exact ⟨h1, l1, rfl, hl⟩
theorem qe {e : TypeId} {a : Option Addr} {len cap l h m : Nat} {lo' hi' mx' : Option Value} (hu : P.underlying t = some (.slice e)) (hs : qU P e = some n)
  (hb : (Instr.sliceBounds true len cap lo' hi' mx').run P w = .ok (l, h, m) w) :
  (Instr.sliceAt t (.slice a len cap) lo' hi' mx').run P w = .ok (.slice (if m = l then a else a.map (·.add (l * n))) (h - l) (m - l)) w := by
 simp [Instr.sliceAt, Instr.slice, xj hu, hb, x5 hs]
theorem H7 {cs : List AV} {b o l h m : Nat} {ex : Bool} {ys : List Value} (hp : xK cs = true) (hz : ZC φ b o ys) (hy : VRL φ cs ys) (hl : l ≤ h) (hm : h ≤ m) (hx : ex = true → m = h) :
  VR φ (.lst (Nat.sub h l) ex (tkN (zb (Nat.sub h l) esz) (wP (zb l esz) cs))) (.slice (if m = l then some ⟨b, o, none⟩ else (some (⟨b, o, none⟩ : Addr)).map (·.add (l * esz))) (h - l) (m - l)) := by
 rw [p7, vl]; simp only [VR]; refine ⟨lR _ (kZ _ hp), .inr ?_⟩; by_cases e : m = l
 ·have : h = l := oM; subst this; refine ⟨b, o, m - h, [], by rw [if_pos e]; rfl, fun h' => ?_, ?_, trivial, ?_⟩
  ·show m - h = h - h; have := hx h'; omega
  ·show h - h ≤ m - h; omega
  ·have e0 : zb (Nat.sub h h) esz = 0 := by show (h - h) * esz = 0; rw [yb, Nat.zero_mul]
   rw [e0, List.take_zero]; exact VRL.nil φ
 ·refine ⟨b, o + l * esz, m - l, (ys.drop (l * esz)).take ((h - l) * esz), by rw [if_neg e, zX, qJ]; rfl, fun h' => ?_, ?_, (hz.drop _).take _, (hy.drop _).take _⟩
  ·show m - l = h - l; have := hx h'; omega
  ·show h - l ≤ m - l; omega
theorem JL {e : TypeId} {ex : Bool} {cs : List AV} {x' : Value} {lo hi mx : Option AV} {lo' hi' mx' : Option Value} (hu : P.underlying t = some (.slice e)) (hs : qU P e = some esz)
  (h : zzo esz n ex cs lo hi mx = some v) (hx : VR φ (.lst n ex cs) x') (rl : OR φ lo lo') (rh : OR φ hi hi') (rm : OR φ mx mx') (hmh : mx = none ∨ hi ≠ none) :
  ∃ z, (Instr.sliceAt t x' lo' hi' mx').run P w = .ok z w ∧ VR φ v z := by
 unfold zzo at h; simp only [VR] at hx; obtain ⟨hp, hx⟩ := hx; split at h
 ·simp only [OR] at rm; subst rm; cases hh : bnd n hi n with
  | none => rw [hh] at h; simp at h
  | some h1 =>
   rw [hh] at h; simp only at h; cases hl : bnd 0 lo h1 with
   | none => rw [hl] at h; simp at h
   | some l1 =>
    rw [hl] at h; simp only [zv] at h; subst h; have h1le := j3 hh (zp _); have l1le := j3 hl (zL _); rcases hx with ⟨rfl, a, rfl⟩ | ⟨b, o, k, ys, rfl, hex, hnk, hz, hy⟩
    ·obtain rfl : h1 = 0 := oM; obtain rfl : l1 = 0 := oM; have hb := qq (P := P) (w := w) (φ := φ) (isSlice := true) (len := 0) (cap := 0) (mx := none) (mx' := none) (m := 0) rfl hh hl rl rh rfl (.inl rfl); refine ⟨_, qe hu hs hb, ?_⟩; simp only [VR]; refine ⟨?_, .inl ⟨trivial, _, rfl⟩⟩; rw [p7, vl]; exact lR _ (kZ _ hp)
    ·have hb := qq (P := P) (w := w) (φ := φ) (isSlice := true) (len := n) (cap := k) (mx := none) (mx' := none) (m := k) rfl (pj hh hnk) hl rl rh rfl (.inl rfl); refine ⟨_, qe hu hs hb, H7 hp hz hy l1le oM fun he => ?_⟩; rw [zl, xG] at he; have := hex he.1; omega
 ·rename_i m0
  cases hm : bnd n (some m0) n with
  | none => rw [hm] at h; simp at h
  | some m =>
   rw [hm] at h; simp only at h; cases hh : bnd n hi m with
   | none => rw [hh] at h; simp at h
   | some h1 =>
    rw [hh] at h; simp only at h; cases hl : bnd 0 lo h1 with
    | none => rw [hl] at h; simp at h
    | some l1 =>
     rw [hl] at h; simp only [zv] at h; subst h; have mle := j3 hm (zp _); have l1le := j3 hl (zL _); have h1le : h1 ≤ m := by
      rcases hmh with e | e
      ·cases e
      ·cases hi with
       | none => exact absurd rfl e
       | some hv =>
        have e1 := (uG 0 hv m).trans ((uG n hv m).symm.trans hh); exact j3 e1 (zL _)
     rcases hx with ⟨rfl, a, rfl⟩ | ⟨b, o, k, ys, rfl, hex, hnk, hz, hy⟩
     ·obtain rfl : m = 0 := oM; obtain rfl : h1 = 0 := oM; obtain rfl : l1 = 0 := oM; have hb := qq (P := P) (w := w) (φ := φ) (isSlice := true) (len := 0) (cap := 0) hm hh hl rl rh rm hmh; refine ⟨_, qe hu hs hb, ?_⟩; simp only [VR]; refine ⟨?_, .inl ⟨trivial, _, rfl⟩⟩; rw [p7, vl]; exact lR _ (kZ _ hp)
     ·have hm' : bnd k (some m0) k = some m := (uG k m0 k).trans ((uG n m0 k).symm.trans (pj hm hnk)); have hb := qq (P := P) (w := w) (φ := φ) (isSlice := true) (len := n) (cap := k) hm' hh hl rl rh rm hmh; refine ⟨_, qe hu hs hb, H7 hp hz hy l1le h1le fun he => ?_⟩; rw [xG] at he; omega
theorem zwK {e : TypeId} {x : AV} {x' : Value} {lo hi mx : Option AV} {lo' hi' mx' : Option Value} (hu : P.underlying t = some (.slice e)) (hs : qU P e = some n)
  (h : UK n x lo hi mx = some v) (hx : VR φ x x') (rl : OR φ lo lo') (rh : OR φ hi hi') (rm : OR φ mx mx') (hmh : mx = none ∨ hi ≠ none) :
  ∃ z, (Instr.sliceAt t x' lo' hi' mx').run P w = .ok z w ∧ VR φ v z := by
 unfold UK at h; split at h
 · -- nil
  simp only [VR] at hx; subst hx; cases hm : bnd 0 mx 0 with
  | none => rw [hm] at h; simp at h
  | some m =>
   rw [hm] at h; simp only at h; cases hh : bnd 0 hi 0 with
   | none => rw [hh] at h; simp at h
   | some h1 =>
    rw [hh] at h; simp only at h; cases hl : bnd 0 lo 0 with
    | none => rw [hl] at h; simp at h
    | some l1 =>
     rw [hl] at h; simp only [zv] at h; subst h; have m0 := j3 hm (zp _); have h0 := j3 hh (zp _); have l0 := j3 hl (zp _); obtain rfl : m = 0 := oM; obtain rfl : h1 = 0 := oM; obtain rfl : l1 = 0 := oM; have hb := qq (P := P) (w := w) (φ := φ) (isSlice := true) (len := 0) (cap := 0) hm hh hl rl rh rm hmh; exact ⟨_, qe hu hs hb, by simp [VR]⟩
 · -- empty
  simp only [VR] at hx; obtain ⟨a, k, rfl⟩ := hx; split at h
  ·simp only [OR] at rm; subst rm; cases hh : bnd 0 hi 0 with
   | none => rw [hh] at h; simp at h
   | some h1 =>
    rw [hh] at h; simp only at h; cases hl : bnd 0 lo 0 with
    | none => rw [hl] at h; simp at h
    | some l1 =>
     rw [hl] at h; simp only [zv] at h; subst h; have h0 := j3 hh (zp _); have l0 := j3 hl (zp _); obtain rfl : h1 = 0 := oM; obtain rfl : l1 = 0 := oM; have hb := qq (P := P) (w := w) (φ := φ) (isSlice := true) (len := 0) (cap := k) (mx := none) (mx' := none) (m := k) rfl (pj hh (zL _)) hl rl rh rfl (.inl rfl); refine ⟨_, qe hu hs hb, ?_⟩; simp only [VR]; refine ⟨a, k, ?_⟩; by_cases e0 : k = 0
     ·simp [e0]
     ·simp [e0, Addr.add]
  ·cases h
 ·rename_i id off len c
  split at h
  · -- a fixed capacity
   rename_i cp
   simp only [VR] at hx; obtain ⟨B, k, hB, rfl, rfl⟩ := hx; cases hm : bnd k mx k with
   | none => rw [hm] at h; simp at h
   | some m =>
    rw [hm] at h; simp only at h; obtain ⟨h1, l1, hh, hl⟩ := Wc h; have hb := qq (P := P) (w := w) (φ := φ) (isSlice := true) (len := len) (cap := k) hm hh hl rl rh rm hmh; refine ⟨_, qe hu hs hb, ?_⟩; have := Yr hB h hh hl; by_cases e0 : m = l1
    ·rw [if_pos e0] at this ⊢; exact this
    ·rw [if_neg e0] at this ⊢; simpa [qJ] using this
  · -- an open one
   rename_i e'
   cases he : za e' n with
   | false => rw [he] at h; simp at h
   | true =>
    rw [he] at h; simp only [cond_true] at h; rw [xG] at he; subst he; simp only [VR] at hx; obtain ⟨B, k, hB, rfl, hpos, hk, hlen, hoff⟩ := hx; split at h
    · -- without max
     simp only [OR] at rm; subst rm; cases hh : bnd len hi len with
     | none => rw [hh] at h; simp at h
     | some h1 =>
      rw [hh] at h; simp only at h; cases hl : bnd 0 lo h1 with
      | none => rw [hl] at h; simp at h
      | some l1 =>
       rw [hl] at h; simp only at h; have h1le := j3 hh (zp _); have l1le := j3 hl (zL _); have hb := qq (P := P) (w := w) (φ := φ) (isSlice := true) (len := len) (cap := k) (mx := none) (mx' := none) (m := k) rfl (pj hh hlen) hl rl rh rfl (.inl rfl); refine ⟨_, qe hu hs hb, ?_⟩; cases hb0 : za l1 0 with
       | true =>
        rw [hb0] at h; simp only [cond_true, zv] at h; subst h; rw [xG] at hb0; subst hb0; simp only [VR]; refine ⟨B, k, hB, ?_, hpos, hk, oM, hoff⟩; by_cases e0 : k = 0
        ·simp [e0]
        ·simp [e0, qJ]
       | false =>
        rw [hb0] at h; simp only [cond_false] at h; cases hb1 : zd l1 len with
        | true =>
         rw [hb1] at h; simp only [cond_true, zv] at h; subst h; have hlt := wb.1 hb1; obtain ⟨ar1, ar2⟩ := zxa (t := B.tot) (off := off) (l := l1) hpos oM; simp only [VR]; refine ⟨B, k - l1, hB, ?_, hpos, ?_, ?_, ?_⟩
         ·rw [if_neg oM]; simp only [zX, qJ]; show Value.slice (some ⟨B.b, B.o + off + l1 * e', none⟩) (h1 - l1) (k - l1) = .slice (some ⟨B.b, B.o + (off + l1 * e'), none⟩) (h1 - l1) (k - l1); rw [zI]
         ·show k - l1 = (B.tot - (off + l1 * e')) / e'; rw [ar1, hk]
         ·show h1 - l1 ≤ k - l1; omega
         ·exact ar2 hoff
        | false =>
         rw [hb1] at h; simp only [cond_false] at h; cases hb2 : za h1 l1 with
         | false => rw [hb2] at h; simp at h
         | true =>
          rw [hb2] at h; simp only [cond_true, zv] at h; subst h; rw [xG] at hb2; subst hb2; simp only [VR]; by_cases e0 : k = h1
          ·exact ⟨⟨B.b, B.o + off, none⟩, k - h1, by rw [if_pos e0, yb]⟩
          ·exact ⟨(⟨B.b, B.o + off, none⟩ : Addr).add (h1 * e'), k - h1, by rw [if_neg e0, yb]; rfl⟩
    · -- with max
     rename_i mxv
     cases hm : bnd len (some mxv) len with
     | none => rw [hm] at h; simp at h
     | some m =>
      rw [hm] at h; simp only at h; obtain ⟨h1, l1, hh, hl⟩ := Wc h; have hm' : bnd k (some mxv) k = some m := (uG k mxv k).trans ((uG len mxv k).symm.trans (pj hm hlen)); have hb := qq (P := P) (w := w) (φ := φ) (isSlice := true) (len := len) (cap := k) hm' hh hl rl rh rm hmh; refine ⟨_, qe hu hs hb, ?_⟩; have := Yr hB h hh hl; by_cases e0 : m = l1
      ·rw [if_pos e0] at this ⊢; exact this
      ·rw [if_neg e0] at this ⊢; simpa [qJ] using this
 ·exact JL hu hs h hx rl rh rm hmh
 ·rename_i id e' n' cs
  cases he : za e' n with
  | false => rw [he] at h; simp at h
  | true => rw [he] at h; simp only [cond_true] at h; exact JL hu hs h hx.gr_lst rl rh rm hmh
 ·cases h
theorem zwH {e : TypeId} {N : Nat} {x : AV} {x' : Value} {lo hi mx : Option AV} {lo' hi' mx' : Option Value} (hu : P.underlying t = some (.array N e)) (hs : qU P e = some n)
  (h : zo3 N n x lo hi mx = some v) (hx : VR φ x x') (rl : OR φ lo lo') (rh : OR φ hi hi') (rm : OR φ mx mx') (hmh : mx = none ∨ hi ≠ none) :
  ∃ z, (Instr.sliceAt t x' lo' hi' mx').run P w = .ok z w ∧ VR φ v z := by
 unfold zo3 at h; split at h
 ·rename_i id off
  simp only [VR] at hx; obtain ⟨B, hB, rfl⟩ := hx; cases hm : bnd N mx N with
  | none => rw [hm] at h; simp at h
  | some m =>
   rw [hm] at h; simp only at h; obtain ⟨h1, l1, hh, hl⟩ := Wc h; have hb := qq (P := P) (w := w) (φ := φ) (isSlice := false) (len := N) (cap := N) hm hh hl rl rh rm hmh; refine ⟨_, ?_, Yr hB h hh hl⟩; simp only [Instr.sliceAt, Sem.run_bind, xj hu, Result.andThen_ok, Instr.sureAddr, Sem.run_pure, hb, x5 hs, qJ]
 ·cases h
theorem zuJ {s : TypeId} {fs : Array Field} {f : Nat} {fl : Field} {x : AV} {x' : Value} (hu : P.underlying s = some (.struct fs)) (hf : fs[f]? = some fl) (hs : qU P fl.type = some (n + 1))
  (h : vFa fl.offset x = some v) (hx : VR φ x x') : ∃ z, (Instr.fieldAt s x' f).run P w = .ok z w ∧ VR φ v z := by
 have hp : ∀ a : Addr, (fieldPlace a fl).run P w = .ok (a.add fl.offset) w := fun a => by
  simp [fieldPlace, x5 hs]
 unfold vFa at h; split at h
 ·cases h; simp only [VR] at hx; obtain ⟨B, hB, rfl⟩ := hx; refine ⟨_, by simp [Instr.fieldAt, xj hu, hf, Instr.sureAddr, hp]; rfl, ?_⟩
  simp only [VR]; exact ⟨B, hB, by rw [qJ, zI]; rfl⟩
 ·cases h; simp only [VR] at hx; subst hx; refine ⟨_, by simp [Instr.fieldAt, xj hu, hf, Instr.sureAddr, hp]; rfl, ?_⟩
  simp only [VR]; rw [qJ]; rfl
 ·rename_i cs
  cases h; simp only [VR] at hx; obtain ⟨hp', b, o, ys, rfl, hz, hy⟩ := hx; exact ⟨_, by simp [Instr.fieldAt, xj hu, hf, Instr.sureAddr, hp]; rfl, by rw [qJ]; exact VR.vp_drop hp' hz hy _⟩
 ·cases h
theorem Z8 {l : List AV} (h : hY l = some v) : l[0]? = some v := by cases l <;> simp [hY] at h ⊢; exact h
theorem HK {off : Nat} {cs l : List AV} {xs : List Value} (ha : QC P t = some true) (hs : qU P t = some n) (hc : cut cs off n = some l) (hx : VRL φ cs xs) :
  ∃ z, (part t xs.toArray off).run P w = .ok z w ∧ VR φ (.agg l) z := by
 obtain ⟨h1, h2, rfl⟩ := cut_some hc; refine ⟨.agg (xs.toArray.extract off (off + n)), by simp only [part, Sem.run_bind, lV ha, Result.andThen_ok, if_true, x5 hs, Sem.run_pure], ?_⟩
 simp only [VR]; refine ⟨(xs.drop off).take n, ?_, (hx.drop off).take n⟩
 congr 1
 apply Array.ext'; simp
theorem HL {off : Nat} {cs : List AV} {xs : List Value} (ha : QC P t = some false) (hc : hY (wP off cs) = some v) (hx : VRL φ cs xs) :
  ∃ z, (part t xs.toArray off).run P w = .ok z w ∧ VR φ v z := by
 have h0 := Z8 hc; rw [vl, zD] at h0; obtain ⟨y, h1, h2⟩ := hx.get h0; have h1' : xs[off]? = some y := by simpa using h1
 exact ⟨y, by simp [part, lV ha, h1'], h2⟩
theorem znn {fs : Array Field} {f : Nat} {fl : Field} {x : AV} {x' : Value} {no : Option Nat} (hu : P.underlying t = some (.struct fs)) (hf : fs[f]? = some fl)
  (hn : match no with | some n => QC P fl.type = some true ∧ qU P fl.type = some n | none => QC P fl.type = some false)
  (h : vFd fl.offset no x = some v) (hx : VR φ x x') : ∃ z, (Instr.field t x' f).run P w = .ok z w ∧ VR φ v z := by
 unfold vFd at h; split at h
 ·rename_i cs
  simp only [VR] at hx; obtain ⟨xs, rfl, hx⟩ := hx; cases no with
  | none =>
   simp only at h hn; obtain ⟨z, h1, h2⟩ := HL (P := P) (w := w) hn h hx; exact ⟨z, by simp only [Instr.field, Sem.run_bind, xj hu, Result.andThen_ok, hf, asAgg, Sem.run_pure]; exact h1, h2⟩
  | some n =>
   simp only at h hn; cases hc : cut cs fl.offset n with
   | none => rw [hc] at h; simp [ZB] at h
   | some l =>
    rw [hc] at h; simp [ZB] at h; subst h; obtain ⟨z, h1, h2⟩ := HK (P := P) (w := w) hn.1 hn.2 hc hx; exact ⟨z, by simp only [Instr.field, Sem.run_bind, xj hu, Result.andThen_ok, hf, asAgg, Sem.run_pure]; exact h1, h2⟩
 ·cases h
theorem ky {i : AV} {i' : Value} {k : Nat} (h : idx i n = some k) (hi : VR φ i i') : ∃ kk, i' = .int kk (k : Int) ∧ k < n := by
 unfold idx at h; split at h
 ·rename_i kk a
  cases hb : zd a n with
  | false => rw [hb] at h; simp at h
  | true =>
   rw [hb] at h; simp only [cond_true, zv] at h; subst h; simp only [VR] at hi; subst hi; exact ⟨kk, rfl, wb.1 hb⟩
 ·cases h
theorem ztd {e : TypeId} {x i : AV} {x' i' : Value} (hu : P.underlying t = some (.slice e)) (hs : qU P e = some n)
  (h : vIa n x i = some v) (hx : VR φ x x') (hi : VR φ i i') : ∃ z, (Instr.indexAt t x' i').run P w = .ok z w ∧ VR φ v z := by
 have core : ∀ (len : Nat) (ex : Bool) (cs : List AV), (match idx i len with | some k => some (AV.vp (wP (zb k n) cs)) | none => none) = some v → VR φ (.lst len ex cs) x' → ∃ z, (Instr.indexAt t x' i').run P w = .ok z w ∧ VR φ v z := by
  intro len ex cs h hx; cases hk : idx i len with
  | none => rw [hk] at h; simp at h
  | some k =>
   rw [hk] at h; simp only [zv] at h; subst h; obtain ⟨kk, rfl, hlt⟩ := ky hk hi; simp only [VR] at hx; obtain ⟨hp, ⟨rfl, _⟩ | ⟨b, o, cp, ys, rfl, _, _, hz, hy⟩⟩ := hx
   ·omega
   ·have hlt' : (0 : Int) ≤ (k : Int) ∧ (k : Int) < (len : Int) := ⟨oM, oM⟩; refine ⟨_, ?_, VR.vp_drop hp hz hy (k * n)⟩; simp only [Instr.indexAt, Sem.run_bind, asIntOf, Sem.run_pure, Result.andThen_ok, xj hu]; rw [if_pos hlt']; simp only [Sem.run_bind, x5 hs, Result.andThen_ok, Sem.run_pure, qJ, zF]
 unfold vIa at h; split at h
 ·rename_i id off len c
  cases hk : idx i len with
  | none => rw [hk] at h; simp at h
  | some k =>
   rw [hk] at h; simp only [zv] at h; subst h; obtain ⟨kk, rfl, hlt⟩ := ky hk hi; simp only [VR] at hx; obtain ⟨B, cp, hB, rfl, _⟩ := hx; have hlt' : (0 : Int) ≤ (k : Int) ∧ (k : Int) < (len : Int) := ⟨oM, oM⟩; refine ⟨_, ?_, by simp only [VR]; exact ⟨B, hB, rfl⟩⟩
   simp only [Instr.indexAt, Sem.run_bind, asIntOf, Sem.run_pure, Result.andThen_ok, xj hu]; rw [if_pos hlt']; simp only [Sem.run_bind, x5 hs, Result.andThen_ok, Sem.run_pure, qJ, zF]; show Result.ok (Value.pointer (some ⟨B.b, B.o + off + k * n, none⟩)) w = .ok (.pointer (some ⟨B.b, B.o + (off + k * n), none⟩)) w; rw [zI]
 ·rename_i len ex cs
  exact core len ex cs h hx
 ·rename_i id e' len cs
  cases he : za e' n with
  | false => rw [he] at h; simp at h
  | true => rw [he] at h; simp only [cond_true] at h; exact core len false cs h hx.gr_lst
 ·cases h
theorem zxW {e : TypeId} {N : Nat} {x i : AV} {x' i' : Value} (hu : P.underlying t = some (.array N e)) (hs : qU P e = some n)
  (h : zpb N n x i = some v) (hx : VR φ x x') (hi : VR φ i i') : ∃ z, (Instr.indexAt t x' i').run P w = .ok z w ∧ VR φ v z := by
 unfold zpb at h; split at h
 ·rename_i id off
  cases hk : idx i N with
  | none => rw [hk] at h; simp at h
  | some k =>
   rw [hk] at h; simp only [zv] at h; subst h; obtain ⟨kk, rfl, hlt⟩ := ky hk hi; simp only [VR] at hx; obtain ⟨B, hB, rfl⟩ := hx; have hlt' : (0 : Int) ≤ (k : Int) ∧ (k : Int) < (N : Int) := ⟨oM, oM⟩; refine ⟨_, ?_, by simp only [VR]; exact ⟨B, hB, rfl⟩⟩
   simp only [Instr.indexAt, Sem.run_bind, asIntOf, Sem.run_pure, Result.andThen_ok, xj hu, Instr.sureAddr]; rw [if_pos hlt']; simp only [Sem.run_bind, x5 hs, Result.andThen_ok, Sem.run_pure, qJ, zF]; show Result.ok (Value.pointer (some ⟨B.b, B.o + off + k * n, none⟩)) w = .ok (.pointer (some ⟨B.b, B.o + (off + k * n), none⟩)) w; rw [zI]
 ·rename_i g off
  cases hk : idx i N with
  | none => rw [hk] at h; simp at h
  | some k =>
   rw [hk] at h; simp only [zv] at h; subst h; obtain ⟨kk, rfl, hlt⟩ := ky hk hi; simp only [VR] at hx; subst hx; have hlt' : (0 : Int) ≤ (k : Int) ∧ (k : Int) < (N : Int) := ⟨oM, oM⟩; refine ⟨_, ?_, by simp only [VR]; rfl⟩
   simp only [Instr.indexAt, Sem.run_bind, asIntOf, Sem.run_pure, Result.andThen_ok, xj hu, Instr.sureAddr]; rw [if_pos hlt']; simp only [Sem.run_bind, x5 hs, Result.andThen_ok, Sem.run_pure, qJ, zF]; rfl
 ·rename_i cs
  cases hk : idx i N with
  | none => rw [hk] at h; simp at h
  | some k =>
   rw [hk] at h; simp only [zv] at h; subst h; obtain ⟨kk, rfl, hlt⟩ := ky hk hi; simp only [VR] at hx; obtain ⟨hp, b, o, ys, rfl, hz, hy⟩ := hx; have hlt' : (0 : Int) ≤ (k : Int) ∧ (k : Int) < (N : Int) := ⟨oM, oM⟩; refine ⟨_, ?_, VR.vp_drop hp hz hy (k * n)⟩; simp only [Instr.indexAt, Sem.run_bind, asIntOf, Sem.run_pure, Result.andThen_ok, xj hu, Instr.sureAddr]; rw [if_pos hlt']; simp only [Sem.run_bind, x5 hs, Result.andThen_ok, Sem.run_pure, qJ, zF]
 ·cases h
theorem zx2 {x i : AV} {x' i' : Value} (hu : P.underlying t = some .string) (h : zsG x i = some v) (hx : VR φ x x') (hi : VR φ i i') :
  ∃ z, (Instr.index t x' i').run P w = .ok z w ∧ VR φ v z := by
 unfold zsG at h; split at h
 ·split at h
  ·rename_i k n
   simp only [VR] at hx hi; obtain ⟨s, rfl, rfl⟩ := hx; subst hi; rw [KQ, HC] at h; cases hg : s[n]? with
   | none => rw [hg] at h; simp [Gv] at h
   | some b =>
    rw [hg] at h; simp [Gv] at h; subst h; refine ⟨_, ?_, by simp only [VR]; rfl⟩
    have h0 : (0 : Int) ≤ zC n := zK n; simp only [Instr.index, Sem.run_bind, asIntOf, Sem.run_pure, Result.andThen_ok, xj hu]; rw [if_pos h0]; have : s[(zC n).toNat]? = some b := hg; rw [this]; rfl
  ·cases h
 ·cases h
theorem zna {e : TypeId} {N : Nat} {ag : Bool} {x i : AV} {x' i' : Value} (hu : P.underlying t = some (.array N e)) (hs : qU P e = some n) (ha : QC P e = some ag)
  (h : znX N n ag x i = some v) (hx : VR φ x x') (hi : VR φ i i') : ∃ z, (Instr.index t x' i').run P w = .ok z w ∧ VR φ v z := by
 unfold znX at h; split at h
 ·rename_i cs
  cases hk : idx i N with
  | none => rw [hk] at h; simp at h
  | some k =>
   rw [hk] at h; simp only at h; obtain ⟨kk, rfl, hlt⟩ := ky hk hi; simp only [VR] at hx; obtain ⟨xs, rfl, hx⟩ := hx; have hlt' : (0 : Int) ≤ (k : Int) ∧ (k : Int) < (N : Int) := ⟨oM, oM⟩; have hrun : ∀ z, (part e xs.toArray (k * n)).run P w = .ok z w → (Instr.index t (.agg xs.toArray) (.int kk (k : Int))).run P w = .ok z w := fun z hz => by
    simp only [Instr.index, Sem.run_bind, asIntOf, Sem.run_pure, Result.andThen_ok, xj hu]; rw [if_pos hlt']; simp only [Sem.run_bind, x5 hs, Result.andThen_ok, zF]; exact hz
   cases ag with
   | true =>
    simp only [cond_true] at h; cases hc : cut cs (zb k n) n with
    | none => rw [hc] at h; simp [ZB] at h
    | some l =>
     rw [hc] at h; simp [ZB] at h; subst h; obtain ⟨z, h1, h2⟩ := HK (P := P) (w := w) ha hs hc hx; exact ⟨z, hrun z h1, h2⟩
   | false =>
    simp only [cond_false] at h; obtain ⟨z, h1, h2⟩ := HL (P := P) (w := w) ha h hx; exact ⟨z, hrun z h1, h2⟩
 ·cases h
theorem zuI {i : Nat} {x : AV} {x' : Value} (h : vEx x i = some v) (hx : VR φ x x') : ∃ z, (Instr.extract x' i).run P w = .ok z w ∧ VR φ v z := by
 unfold vEx at h; split at h
 ·simp only [VR] at hx; obtain ⟨xs, rfl, hx⟩ := hx; have h0 := Z8 h; rw [vl, zD] at h0; obtain ⟨y, h1, h2⟩ := hx.get h0; have h1' : xs[i]? = some y := by simpa using h1
  exact ⟨y, by simp [Instr.extract, h1'], h2⟩
 ·cases h
theorem qj {b : Nat} {o : Obj} (h : w.heap[b]? = some o) (hc : ∀ c e f, o ≠ .cells c e f) : (getObj b).run P w = .ok o w := by
 simp only [getObj, Sem.run, h]
theorem vE {b : Nat} {o : Obj} (o' : Obj) (h : w.heap[b]? = some o) (hc : ∀ c e f, o ≠ .cells c e f) : (setObj b o').run P w = .ok () { w with heap := w.heap.setIfInBounds b o' } := by
 simp only [setObj, Sem.run, h]
theorem li {b : Nat} {o o' : Obj} (h : w.heap[b]? = some o) : (w.heap.setIfInBounds b o')[b]? = some o' := by
 have : b < w.heap.size := (Array.getElem?_eq_some_iff.1 h).1; simp [this]
theorem zoQ {b k : Nat} {o' : Obj} (h : k ≠ b) : (w.heap.setIfInBounds b o')[k]? = w.heap[k]? := by
 rw [Array.getElem?_setIfInBounds_ne (Ne.symm h)]
theorem Step.setObj (r : Rel P w0 φ s.get w) {o' : AObj} {B : Blk} {x x' : Obj} (hg : s.get id = some o) (hB : φ id = some B) (_hx : w.heap[B.b]? = some x)
  (ho : ObjRel P φ { w with heap := w.heap.setIfInBounds B.b x' } o' B) (hng : vB o = false := by rfl) (hna : zzW o = false := by rfl) : Step P w0 φ s w φ (s.put id o') { w with heap := w.heap.setIfInBounds B.b x' } :=
 Step.put r hg hB (fun b hb => zoQ hb) (by simp) rfl rfl rfl ho hng hna
def FK.desc (f : FK) (d : TypeDesc) : Prop :=
 match f with
 | .i => ∃ k, d = .int k
 | .s => d = .string
 | .b => d = .bool
theorem Vo {f : FK} (h : fkT P t = some f) : ∃ d, P.underlying t = some d ∧ f.desc d := by
 unfold fkT at h; split at h
 ·rename_i k hu; cases h; exact ⟨_, hu, k, rfl⟩
 ·rename_i hu; cases h; exact ⟨_, hu, rfl⟩
 ·rename_i hu; cases h; exact ⟨_, hu, rfl⟩
 ·cases h
theorem zre {f : FK} {d : TypeDesc} {a b : AV} {x y : Value} {r : Bool} (hd : f.desc d) (h : eq1 f a b = some r) (hx : VR φ a x) (hy : VR φ b y) :
  Instr.sameNow d x y = some r ∧ (r = true → ∀ n, Instr.sameBits n y x = true) := by
 cases f with
 | i =>
  obtain ⟨k0, rfl⟩ := hd; simp only [eq1] at h; split at h
  ·rename_i k m k' n
   cases hkk : vX k k' with
   | false => rw [hkk] at h; simp at h
   | true =>
    rw [hkk] at h; simp only [cond_true, zv] at h; subst h; rw [hZ] at hkk; simp at hkk; subst hkk; simp only [VR] at hx hy; subst hx; subst hy; rw [kK]; refine ⟨by simp [Instr.sameNow], fun hr n => ?_⟩
    rw [beq_iff_eq] at hr; subst hr; cases n <;> simp [Instr.sameBits]
  ·cases h
 | s =>
  simp only [FK.desc] at hd; subst hd; simp only [eq1] at h; split at h
  ·cases h; simp only [VR] at hx hy; obtain ⟨s, rfl, rfl⟩ := hx; obtain ⟨u, rfl, rfl⟩ := hy; rw [Z2, ← QH, ← beq_toListBytes]; refine ⟨by simp [Instr.sameNow], fun hr n => ?_⟩
   have hr' : (u == s) = true := by
    rw [beq_toListBytes] at hr ⊢; rw [beq_iff_eq] at hr ⊢; exact hr.symm
   cases n <;> simp [Instr.sameBits, hr']
  ·cases h
 | b =>
  simp only [FK.desc] at hd; subst hd; simp only [eq1] at h; split at h
  ·cases h; simp only [VR] at hx hy; subst hx; subst hy; refine ⟨by simp [Instr.sameNow], fun hr n => ?_⟩
   rw [beq_iff_eq] at hr; subst hr; cases n <;> simp [Instr.sameBits]
  ·cases h
theorem EntRel.length {φ : Phi} : ∀ {l : List (AV × AV × Nat)} {es : List MapEntry}, EntRel φ l es → l.length = es.length
 | [], _, h => by simp only [EntRel] at h; subst h; rfl
 | _ :: r, _, h => by obtain ⟨e, es', rfl, _, _, _, h4⟩ := h; simp [EntRel.length h4]
theorem EntRel.append {φ : Phi} : ∀ {l : List (AV × AV × Nat)} {es : List MapEntry} {l' : List (AV × AV × Nat)} {es' : List MapEntry}, EntRel φ l es → EntRel φ l' es' → EntRel φ (l ++ l') (es ++ es')
 | [], _, _, _, h, h' => by simp only [EntRel] at h; subst h; exact h'
 | _ :: r, _, _, _, h, h' => by obtain ⟨e, es', rfl, h1, h2, h3, h4⟩ := h; exact ⟨e, _, rfl, h1, h2, h3, EntRel.append h4 h'⟩
theorem Wz {φ : Phi} {f : FK} {d : TypeDesc} {k : AV} {k' : Value} (hd : f.desc d) (hk : VR φ k k') : ∀ {l : List (AV × AV × Nat)} {es : List MapEntry} {i : Nat} {r : Option (Nat × AV)}, EntRel φ l es → hH f k l i = some r →
  (r = none ∧ Instr.findNow d k' es i = some none) ∨ ∃ j v v' e, r = some (i + j, v) ∧ Instr.findNow d k' es i = some (some (i + j, v')) ∧ VR φ v v' ∧ es[j]? = some e ∧ v' = e.val ∧ (∀ n, Instr.sameBits n e.key k' = true) ∧ j < l.length
 | [], es, i, r, h, hf => by simp only [EntRel] at h; subst h; simp [hH] at hf; subst hf; exact .inl ⟨rfl, rfl⟩
 | p :: l, es, i, r, h, hf => by
  obtain ⟨e, es', rfl, h1, h2, h3, h4⟩ := h; simp only [hH] at hf; cases he : eq1 f k p.1 with
  | none => rw [he] at hf; simp at hf
  | some b =>
   rw [he] at hf; obtain ⟨hn, hs⟩ := zre hd he hk h1; cases b with
   | true =>
    simp only [zv] at hf; subst hf; exact .inr ⟨0, p.2.1, e.val, e, rfl, by simp [Instr.findNow, hn], h2, rfl, rfl, hs rfl, by simp⟩
   | false =>
    simp only at hf; rcases Wz hd hk h4 hf with ⟨rfl, h5⟩ | ⟨j, v, v', e', rfl, h5, h6, h7, h8, h9, h10⟩
    ·exact .inl ⟨rfl, by simp only [Instr.findNow, hn]; exact h5⟩
    ·refine .inr ⟨j + 1, v, v', e', by simp only [Nat.succ_eq_add_one]; congr 2; omega, ?_, h6, by simpa using h7, h8, h9, by simp; omega⟩
     simp only [Instr.findNow, hn]; rw [h5]; simp only [Nat.succ_eq_add_one, zv, zw, and_true]; omega
theorem gJ {f : FK} {k : AV} {k' : Value} {l : List (AV × AV × Nat)} {es : List MapEntry} {r : Option (Nat × AV)} (ht : fkT P t = some f) (hk : VR φ k k') (h : EntRel φ l es) (hf : hH f k l 0 = some r) :
  (r = none ∧ (Instr.findKey t k' es).run P w = .ok none w) ∨ ∃ j v v' e, r = some (j, v) ∧ (Instr.findKey t k' es).run P w = .ok (some (j, v')) w ∧ VR φ v v' ∧ es[j]? = some e ∧ v' = e.val ∧ (∀ n, Instr.sameBits n e.key k' = true) ∧ j < l.length := by
 obtain ⟨d, hu, hd⟩ := Vo ht; rcases Wz hd hk h hf with ⟨rfl, h5⟩ | ⟨j, v, v', e', rfl, h5, h6, h7, h8, h9, h10⟩
 ·exact .inl ⟨rfl, by simp [Instr.findKey, xj hu, h5]⟩
 ·refine .inr ⟨j, v, v', e', by simp, ?_, h6, h7, h8, h9, h10⟩
  rw [Nat.zero_add] at h5; simp [Instr.findKey, xj hu, h5]
theorem kp {f : FK} (ht : fkT P t = some f) (b : Bool) (n : Nat) (v : Value) : (Instr.checkKey b (n + 1) t v).run P w = .ok () w := by
 obtain ⟨d, hu, hd⟩ := Vo ht; cases f with
 | i => obtain ⟨k, rfl⟩ := hd; simp [Instr.checkKey, xj hu]
 | s => simp only [FK.desc] at hd; subst hd; simp [Instr.checkKey, xj hu]
 | b => simp only [FK.desc] at hd; subst hd; simp [Instr.checkKey, xj hu]
theorem pO {_z : AV} {ok : Bool} {_u : AV} {_zx x : Value} (b : Bool) (hv : VR φ v x) : VR φ (bif ok then .tup [v, .bool b] else v) (if ok then .tuple #[x, .bool b] else x) := by
 cases ok with
 | false => exact hv
 | true =>
  simp only [cond_true, if_true, VR]; exact ⟨[x, .bool b], rfl, VRL.cons hv (VRL.cons (by simp [VR]) (VRL.nil φ))⟩
theorem lO (r : Rel P w0 φ s.get w) {es : List (AV × AV × Nat)} {clock : Nat} {B : Blk} (hg : s.get id = some (.map es clock)) (hB : φ id = some B) :
  ∃ ents, w.heap[B.b]? = some (.map ents clock) ∧ EntRel φ es ents.toList := by
 obtain ⟨B', hB', h⟩ := r.obj id _ hg; rw [hB] at hB'; cases hB'; exact h
theorem znt (r : Rel P w0 φ s.get w) {kt e : TypeId} {f : FK} {z m k : AV} {ok : Bool} {m' k' : Value} (hu : P.underlying t = some (.map kt e)) (hf : fkT P kt = some f) (hz : js P e = some z)
  (h : vLk s f z ok m k = some v) (hm : VR φ m m') (hk : VR φ k k') : ∃ x, (Instr.lookup t m' k' ok).run P w = .ok x w ∧ VR φ v x := by
 obtain ⟨zx, hzr, hzv⟩ := qw hz; have hck : ∀ b, (Instr.checkKey b 10000 kt k').run P w = .ok () w := fun b => kp hf b 9999 k'; unfold vLk at h; split at h
 ·simp only [VR] at hm; subst hm; simp only [Js, zv] at h; subst h; refine ⟨_, ?_, pO (_z := z) (_u := z) (_zx := zx) (ok := ok) false (hzv φ)⟩; have hfk : (Instr.findKey kt k' []).run P w = .ok none w := by
   obtain ⟨d, hu', _⟩ := Vo hf; simp [Instr.findKey, xj hu', Instr.findNow]
  simp only [Instr.lookup, Sem.run_bind, xj hu, Result.andThen_ok, Sem.run_pure, hck]; simp only [hfk, Result.andThen_ok, Sem.run_bind, hzr, Sem.run_pure]
 ·rename_i id
  simp only [VR] at hm; obtain ⟨B, hB, rfl⟩ := hm; split at h
  ·rename_i es clock hg
   obtain ⟨ents, hb, hent⟩ := lO r hg hB; have hgo := qj (P := P) hb (by simp)
   cases hfi : hH f k es 0 with
   | none => rw [hfi] at h; simp [Js] at h
   | some res =>
    rw [hfi] at h; rcases gJ (P := P) (w := w) hf hk hent hfi with ⟨rfl, h5⟩ | ⟨j, v1, v', e', rfl, h5, h6, _⟩
    ·simp only [Js, zv] at h; subst h; refine ⟨_, ?_, pO (_z := z) (_u := z) (_zx := zx) (ok := ok) false (hzv φ)⟩; simp only [Instr.lookup, Sem.run_bind, xj hu, Result.andThen_ok, Sem.run_pure, hck, hgo, h5, hzr]
    ·simp only [Js, zv] at h; subst h; refine ⟨_, ?_, pO (_z := z) (_u := z) (_zx := zx) (ok := ok) true h6⟩; simp only [Instr.lookup, Sem.run_bind, xj hu, Result.andThen_ok, Sem.run_pure, hck, hgo, h5]
  ·cases h
 ·cases h
theorem H4 {φ : Phi} {v k : AV} {v' k' : Value} (hv : VR φ v v') (hk : VR φ k k') : ∀ {l : List (AV × AV × Nat)} {es : List MapEntry} (j : Nat), EntRel φ l es → EntRel φ (UI v k l j) (es.modify j fun e => { e with key := k', val := v' })
 | [], es, j, h => by simp only [EntRel] at h; subst h; cases j <;> simp [UI, EntRel]
 | p :: l, es, 0, h => by
  obtain ⟨e, es', rfl, h1, h2, h3, h4⟩ := h; simp only [UI, zO]; exact ⟨_, es', rfl, hk, hv, h3, h4⟩
 | p :: l, es, j + 1, h => by
  obtain ⟨e, es', rfl, h1, h2, h3, h4⟩ := h; simp only [UI, zN]; exact ⟨e, _, rfl, h1, h2, h3, H4 hv hk j h4⟩
theorem GM {φ : Phi} : ∀ {l : List (AV × AV × Nat)} {es : List MapEntry} (j : Nat), EntRel φ l es → EntRel φ (zxc l j) (es.eraseIdx j)
 | [], es, j, h => by simp only [EntRel] at h; subst h; simp [zxc, EntRel]
 | p :: l, es, 0, h => by
  obtain ⟨e, es', rfl, h1, h2, h3, h4⟩ := h
  simpa [zxc] using h4
 | p :: l, es, j + 1, h => by
  obtain ⟨e, es', rfl, h1, h2, h3, h4⟩ := h; simp only [zxc, List.eraseIdx_cons_succ]; exact ⟨e, _, rfl, h1, h2, h3, GM j h4⟩
theorem Xn {old new : Value} (h : ∀ n, Instr.sameBits n old new = true) : (Instr.keyThatStays old new).run P w = .ok new w := by
 simp [Instr.keyThatStays, h]
theorem zu6 {es : Array MapEntry} {j : Nat} {e : MapEntry} (h : es.toList[j]? = some e) (k : Value) : ((es[j]?).map (·.key)).getD k = e.key := by
 have : es[j]? = some e := by rw [← zy]; exact h
 rw [this]; rfl
theorem znz (r : Rel P w0 φ s.get w) {kt e : TypeId} {f : FK} {m k u : AV} {m' k' v' : Value} (hu : P.underlying t = some (.map kt e)) (hf : fkT P kt = some f)
  (h : oMu s f m k v = some (u, s')) (hm : VR φ m m') (hk : VR φ k k') (hv : VR φ v v') : u = qz ∧ ∃ w', (Instr.mapUpdate t m' k' v').run P w = .ok () w' ∧ Step P w0 φ s w φ s' w' := by
 have hck : ∀ b, (Instr.checkKey b 10000 kt k').run P w = .ok () w := fun b => kp hf b 9999 k'; unfold oMu at h; split at h
 ·rename_i id
  simp only [VR] at hm; obtain ⟨B, hB, rfl⟩ := hm; split at h
  ·rename_i es clock hg
   obtain ⟨ents, hb, hent⟩ := lO r hg hB; have hgo := qj (P := P) hb (by simp)
   cases hfi : hH f k es 0 with
   | none => rw [hfi] at h; simp at h
   | some res =>
    rw [hfi] at h; rcases gJ (P := P) (w := w) hf hk hent hfi with ⟨rfl, h5⟩ | ⟨j, v1, v2, e', rfl, h5, h6, h7, h8, h9, h10⟩
    ·simp only [zv, zw] at h; obtain ⟨rfl, rfl⟩ := h; refine ⟨rfl, _, ?_, Step.setObj r hg hB hb (x' := .map (ents.push { key := k', val := v', born := clock }) (clock + 1)) ⟨_, li hb, ?_⟩⟩
     ·simp only [Instr.mapUpdate, Sem.run_bind, xj hu, Result.andThen_ok, hgo, hck, h5]; exact vE _ hb (by simp)
     ·rw [Array.toList_push]; exact EntRel.append hent ⟨_, [], rfl, hk, hv, rfl, rfl⟩
    ·simp only [zv, zw] at h; obtain ⟨rfl, rfl⟩ := h; refine ⟨rfl, _, ?_, Step.setObj r hg hB hb (x' := .map (ents.modify j fun e => { e with key := k', val := v' }) clock) ⟨_, li hb, ?_⟩⟩
     ·simp only [Instr.mapUpdate, Sem.run_bind, xj hu, Result.andThen_ok, hgo, hck, h5, zu6 h7, Xn h9]; exact vE _ hb (by simp)
     ·rw [zR]; exact H4 hv hk j hent
  ·cases h
 ·cases h
theorem znx (r : Rel P w0 φ s.get w) {ts : Array TypeId} {ty kt e : TypeId} {f : FK} {m k u : AV} {m' k' : Value} (hts : ts[0]? = some t) (hu : P.underlying t = some (.map kt e)) (hf : fkT P kt = some f)
  (h : oMd s f m k = some (u, s')) (hm : VR φ m m') (hk : VR φ k k') : u = qz ∧ ∃ w', (Builtin.delete_ ts ty #[m', k']).run P w = .ok undef w' ∧ Step P w0 φ s w φ s' w' := by
 have hck : ∀ b, (Instr.checkKey b 10000 kt k').run P w = .ok () w := fun b => kp hf b 9999 k'; unfold oMd at h; split at h
 ·simp only [VR] at hm; subst hm; simp only [zv, zw] at h; obtain ⟨rfl, rfl⟩ := h; refine ⟨rfl, w, ?_, Step.refl r⟩; simp [Builtin.delete_, hts, xj hu, hck, undef]
 ·rename_i id
  simp only [VR] at hm; obtain ⟨B, hB, rfl⟩ := hm; split at h
  ·rename_i es clock hg
   obtain ⟨ents, hb, hent⟩ := lO r hg hB; have hgo := qj (P := P) hb (by simp)
   cases hfi : hH f k es 0 with
   | none => rw [hfi] at h; simp at h
   | some res =>
    rw [hfi] at h; rcases gJ (P := P) (w := w) hf hk hent hfi with ⟨rfl, h5⟩ | ⟨j, v1, v2, e', rfl, h5, h6, h7, h8, h9, h10⟩
    ·simp only [zv, zw] at h; obtain ⟨rfl, rfl⟩ := h; refine ⟨rfl, _, ?_, Step.setObj r hg hB hb (x' := .map ents clock) ⟨_, li hb, hent⟩⟩; simp [Builtin.delete_, hts, xj hu, hck, undef, hgo, h5, vE _ hb (by simp)]
    ·simp only [zv, zw] at h; obtain ⟨rfl, rfl⟩ := h; refine ⟨rfl, _, ?_, Step.setObj r hg hB hb (x' := .map (ents.eraseIdxIfInBounds j) clock) ⟨_, li hb, ?_⟩⟩
     ·simp [Builtin.delete_, hts, xj hu, hck, undef, hgo, h5, vE _ hb (by simp)]
     ·have hj : j < ents.size := by have := EntRel.length hent; simp at this; omega
      have e1 : (ents.eraseIdxIfInBounds j).toList = ents.toList.eraseIdx j := by simp [Array.eraseIdxIfInBounds, hj]
      rw [e1]; exact GM j hent
  ·cases h
 ·cases h
theorem H5 {φ : Phi} {v k : AV} {k' : Value} (hk : VR φ k k') : ∀ {l : List (AV × AV × Nat)} {es : List MapEntry} (j : Nat) {e : MapEntry}, EntRel φ l es → es[j]? = some e → VR φ v e.val → EntRel φ (UI v k l j) (es.modify j fun e => { e with key := k' })
 | [], es, j, e, h, he, _ => by simp only [EntRel] at h; subst h; simp at he
 | p :: l, es, 0, e0, h, he, hv => by
  obtain ⟨e, es', rfl, h1, h2, h3, h4⟩ := h; simp at he; subst he; simp only [UI, zO]; exact ⟨_, es', rfl, hk, hv, h3, h4⟩
 | p :: l, es, j + 1, e0, h, he, hv => by
  obtain ⟨e, es', rfl, h1, h2, h3, h4⟩ := h; simp only [UI, zN]; exact ⟨e, _, rfl, h1, h2, h3, H5 hk j h4 (by simpa using he) hv⟩
theorem Gt {φ : Phi} : ∀ {l : List (AV × AV × Nat)} {es : List MapEntry} (j : Nat) {e : MapEntry}, EntRel φ l es → es[j]? = some e → zvL l j = e.born
 | [], es, j, e, h, he => by simp only [EntRel] at h; subst h; simp at he
 | p :: l, es, 0, e0, h, he => by
  obtain ⟨e, es', rfl, h1, h2, h3, h4⟩ := h; simp at he; subst he; exact h3.symm
 | p :: l, es, j + 1, e0, h, he => by
  obtain ⟨e, es', rfl, h1, h2, h3, h4⟩ := h; exact Gt j h4 (by simpa using he)
theorem zoV {a b : AV} {x y : Value} (h : VR φ a x) (h' : VR φ b y) : VR φ (.tup [a, b]) (.tuple #[x, y]) := by
 simp only [VR]; exact ⟨[x, y], rfl, VRL.cons h (VRL.cons h' (VRL.nil φ))⟩
theorem zny (r : Rel P w0 φ s.get w) {kt e : TypeId} {f : FK} {z m k u : AV} {m' k' : Value} (hu : P.underlying t = some (.map kt e)) (hf : fkT P kt = some f) (hz : js P e = some z)
  (h : oMe s f z m k = some (u, s')) (hm : VR φ m m') (hk : VR φ k k') : ∃ x w', (Instr.mapEntry t m' k').run P w = .ok x w' ∧ Step P w0 φ s w φ s' w' ∧ VR φ u x := by
 obtain ⟨zx, hzr, hzv⟩ := qw hz; have hck : ∀ b, (Instr.checkKey b 10000 kt k').run P w = .ok () w := fun b => kp hf b 9999 k'; unfold oMe at h; split at h
 ·rename_i id
  simp only [VR] at hm; obtain ⟨B, hB, rfl⟩ := hm; split at h
  ·rename_i es clock hg
   obtain ⟨ents, hb, hent⟩ := lO r hg hB; have hgo := qj (P := P) hb (by simp)
   cases hfi : hH f k es 0 with
   | none => rw [hfi] at h; simp at h
   | some res =>
    rw [hfi] at h; rcases gJ (P := P) (w := w) hf hk hent hfi with ⟨rfl, h5⟩ | ⟨j, v1, v2, e', rfl, h5, h6, h7, h8, h9, h10⟩
    ·simp only [zv, zw] at h; obtain ⟨rfl, rfl⟩ := h; refine ⟨.tuple #[zx, goInt clock], _, ?_, Step.setObj r hg hB hb (x' := .map (ents.push { key := k', val := zx, born := clock }) (clock + 1)) ⟨_, li hb, ?_⟩, zoV (hzv φ) (by simp only [VR]; rfl)⟩
     ·simp only [Instr.mapEntry, Sem.run_bind, xj hu, Result.andThen_ok, hgo, hck, h5, hzr, vE _ hb (by simp), Sem.run_pure]
     ·rw [Array.toList_push]; exact EntRel.append hent ⟨_, [], rfl, hk, hzv φ, rfl, rfl⟩
    ·simp only [zv, zw] at h; obtain ⟨rfl, rfl⟩ := h; have hent' : ents[j]? = some e' := by rw [← zy]; exact h7
     refine ⟨.tuple #[v2, goInt (((ents[j]?).map (·.born)).getD 0)], _, ?_, Step.setObj r hg hB hb (x' := .map (ents.modify j fun e => { e with key := k' }) clock) ⟨_, li hb, ?_⟩, zoV h6 ?_⟩
     ·simp only [Instr.mapEntry, Sem.run_bind, xj hu, Result.andThen_ok, hgo, hck, h5, zu6 h7, Xn h9, vE _ hb (by simp), Sem.run_pure]
     ·rw [zR]; exact H5 hk j hent h7 (h8 ▸ h6)
     ·simp only [VR]; rw [hent', Gt j hent h7]; rfl
  ·cases h
 ·cases h
theorem H1 {φ : Phi} {b : Nat} {v : AV} {v' : Value} (hv : VR φ v v') : ∀ {l l' : List (AV × AV × Nat)} {es : List MapEntry}, EntRel φ l es → P9 b v l = some l' →
  ∃ j, es.findIdx? (fun e => (e.born : Int) == (b : Int)) = some j ∧ EntRel φ l' (es.modify j fun e => { e with val := v' })
 | [], l', es, h, hs => by simp [P9] at hs
 | p :: l, l', es, h, hs => by
  obtain ⟨e, es', rfl, h1, h2, h3, h4⟩ := h; simp only [P9] at hs; cases hb : za p.2.2 b with
  | true =>
   rw [hb] at hs; simp only [cond_true, zv] at hs; subst hs; rw [xG] at hb; refine ⟨0, ?_, ?_⟩
   ·have : ((e.born : Int) == (b : Int)) = true := by rw [beq_iff_eq]; omega
    simp [List.findIdx?_cons, this]
   ·simp only [zO]; exact ⟨_, es', rfl, h1, hv, h3, h4⟩
  | false =>
   rw [hb] at hs; simp only [cond_false] at hs; cases hr : P9 b v l with
   | none => rw [hr] at hs; simp at hs
   | some l2 =>
    rw [hr] at hs; simp only [zv] at hs; subst hs; obtain ⟨j, h5, h6⟩ := H1 hv h4 hr; have hne : ¬ p.2.2 = b := fun e => by rw [xG.2 e] at hb; cases hb
    have : ((e.born : Int) == (b : Int)) = false := by rw [beq_eq_false_iff_ne]; omega
    refine ⟨j + 1, by simp [List.findIdx?_cons, this, h5], ?_⟩
    simp only [zN]; exact ⟨e, _, rfl, h1, h2, h3, h6⟩
theorem KI {α : Type} (a : Array α) (p : α → Bool) : a.findIdx? p = a.toList.findIdx? p := by cases a; simp
theorem znk (r : Rel P w0 φ s.get w) {mt : TypeId} {m t u : AV} {m' t' v' : Value} (h : oEs s m t v = some (u, s')) (hm : VR φ m m') (ht : VR φ t t') (hv : VR φ v v') :
  u = qz ∧ ∃ w', (Instr.entryStore mt m' t' v').run P w = .ok () w' ∧ Step P w0 φ s w φ s' w' := by
 unfold oEs at h; split at h
 ·rename_i id
  simp only [VR] at hm; obtain ⟨B, hB, rfl⟩ := hm; split at h
  ·rename_i k b
   simp only [VR] at ht; subst ht; split at h
   ·rename_i es clock hg
    obtain ⟨ents, hb, hent⟩ := lO r hg hB; have hgo := qj (P := P) hb (by simp)
    cases hs : P9 b v es with
    | none => rw [hs] at h; simp at h
    | some es' =>
     rw [hs] at h; simp only [zv, zw] at h; obtain ⟨rfl, rfl⟩ := h; obtain ⟨j, h5, h6⟩ := H1 hv hent hs; have h5' : ents.findIdx? (fun e => (e.born : Int) == zC b) = some j := by rw [KI]; exact h5
     refine ⟨rfl, _, ?_, Step.setObj r hg hB hb (x' := .map (ents.modify j fun e => { e with val := v' }) clock) ⟨_, li hb, ?_⟩⟩
     ·simp only [Instr.entryStore, Sem.run_bind, hgo, Result.andThen_ok, asInt, asIntOf, Sem.run_pure, h5']; exact vE _ hb (by simp)
     ·rw [zR]; exact h6
   ·cases h
  ·cases h
 ·cases h
theorem vW (o : Obj) : ({ w with heap := w.heap.push o } : World).heap[w.heap.size]? = some o := by simp
theorem JY {cs : List AV} {xs : List Value} (h : VRL φ cs xs) : VRL φ cs ((xs.toArray.toList.drop 0).take cs.length) := by
 simp only [z4]; rw [zG (by rw [VRL.length h]; simp)]
 exact h
theorem gG (r : Rel P w0 φ s.get w) (hwf : Wf s) (hf : φ s.next = none) (e : TypeId) {cs : List AV} {xs : List Value} (hx : VRL φ cs xs) :
  Step P w0 φ s w (φ.set s.next ⟨w.heap.size, 0, cs.length⟩) (s.alloc (.row e cs false false)) { w with heap := w.heap.push (.cells xs.toArray e) } := by
 refine Step.alloc r hwf hf rfl rfl rfl rfl ?_; refine ⟨xs.toArray, (0, 0), vW _, by simp [VRL.length hx], zp _, fun _ => ⟨rfl, rfl⟩, ?_, zp _, fun _ i _ => by simp⟩
 exact JY (VRL.mono (Phi.set_sub hf) _ _ hx)
theorem jF (e : TypeId) (xs : Array Value) : (newRow e xs).run P w = .ok ⟨w.heap.size, 0, none⟩ { w with heap := w.heap.push (.cells xs e) } := by simp [newRow]
theorem Xj {tot : Nat} : VR (φ.set s.next ⟨w.heap.size, 0, tot⟩) (.ptr s.next 0) (.pointer (some ⟨w.heap.size, 0, none⟩)) := by
 simp only [VR]; exact ⟨⟨w.heap.size, 0, tot⟩, by simp [Phi.set], by simp⟩
theorem Gn (r : Rel P w0 φ s.get w) (hwf : Wf s) (hf : φ s.next = none) {z : AV} (hz : js P t = some z) (h : pS s t z.cells = some (v, s')) :
  ∃ φ' x w', (Instr.alloc t true (.tuple #[])).run P w = .ok x w' ∧ Step P w0 φ s w φ' s' w' ∧ VR φ' v x := by
 obtain ⟨zx, hzr, hzv⟩ := qw hz; unfold pS at h; cases h; refine ⟨_, _, _, ?_, gG r hwf hf t (hzv φ).cells, Xj⟩; simp only [Instr.alloc, Sem.run_bind, hzr, Result.andThen_ok, newVar, jF, Sem.run_pure]
theorem zyO (r : Rel P w0 φ s.get w) (hwf : Wf s) (hf : φ s.next = none) {x : AV} {x' : Value} (h : HE s t x = some (v, s')) (hx : VR φ x x') :
  ∃ φ' y w', (Instr.box t x').run P w = .ok y w' ∧ Step P w0 φ s w φ' s' w' ∧ VR φ' v y := by
 unfold HE at h; cases h; refine ⟨_, _, _, ?_, gG r hwf hf t hx.cells, Xj⟩; simp only [Instr.box, newVar, Sem.run_bind, jF, Result.andThen_ok, Sem.run_pure]
theorem WP (off : Nat) : ∀ (vs : List Value) (j : Nat) (cs : Array Value), off + j + vs.length ≤ cs.size →
  ((vs.zipIdx j).foldl (fun (cs : Array Value) (p : Value × Nat) => cs.setIfInBounds (off + p.2) p.1) cs).toList = cs.toList.take (off + j) ++ vs ++ cs.toList.drop (off + j + vs.length)
 | [], j, cs, h => by simp
 | v :: vs, j, cs, h => by
  have h' : off + j + (vs.length + 1) ≤ cs.size := h; rw [List.zipIdx_cons, zW, WP off vs (j + 1) _ (by simp; omega)]
  have hlt : off + j < cs.toList.length := by simp; omega
  have hm : (cs.toList.take (off + j)).length = off + j := by rw [List.length_take]; omega
  rw [zU]; have e1 : (cs.toList.set (off + j) v).take (off + (j + 1)) = cs.toList.take (off + j) ++ [v] := by
   rw [← zI, List.take_set, zM hlt, z6 _ _ oM, hm]; simp
  have e2 : (cs.toList.set (off + j) v).drop (off + (j + 1) + vs.length) = cs.toList.drop (off + j + (vs.length + 1)) := by
   rw [z7 oM]; congr 1; omega
  rw [e1, e2]; simp
theorem lC {φ : Phi} {place : Nat → Option (Nat × Nat)} {tm : Trie AV} {a : Act} : ∀ {ps : List (Nat × Operand)} {qs : List (Nat × Nat × Opd)} {zs cs : List AV} {xs : Array Value}, kE place ps = some qs → jo zs tm qs = some cs →
  TmOn φ (Opd.tmps (qs.map (·.2.2))) tm a → VRL φ zs xs.toList → ∃ ys, Instr.fill place xs (ps.map fun (i, x) => (i, a.eval x)) = some ys ∧ VRL φ cs ys.toList
 | [], qs, zs, cs, xs, hc, hf, _, hz => by simp [kE] at hc; subst hc; simp [jo] at hf; subst hf; exact ⟨xs, rfl, hz⟩
 | (i, x) :: ps, qs, zs, cs, xs, hc, hf, ht, hz => by
  simp only [kE] at hc; cases hp : place i with
  | none => rw [hp] at hc; simp at hc
  | some os =>
   obtain ⟨o, sz⟩ := os; cases hx : qP x with
   | none => rw [hp, hx] at hc; simp at hc
   | some y =>
    cases hr : kE place ps with
    | none => rw [hp, hx, hr] at hc; simp at hc
    | some l =>
     rw [hp, hx, hr] at hc; simp only [zv] at hc; subst hc; simp only [jo] at hf; cases hy : y.ev tm with
     | none => rw [hy] at hf; simp at hf
     | some v =>
      rw [hy] at hf; simp only at hf; cases hb : (za (wZ v.cells) sz && ze 1 sz) with
      | false => rw [hb] at hf; simp at hf
      | true =>
       rw [hb] at hf; simp only [cond_true] at hf; cases hpa : vr zs o v.cells with
       | none => rw [hpa] at hf; simp at hf
       | some zs' =>
        rw [hpa] at hf; simp only at hf; have hv := xD (φ := φ) (a := a) hx hy (ht.sub (by intro t h; simp [Opd.tmps]; exact .inl h))
        have hvc := hv.cells; have hlen := VRL.length hvc; rw [zl, xG, xN, wV] at hb; obtain ⟨hb, hb1⟩ := hb; obtain ⟨hbound, rfl⟩ := Yi hpa; have hzl := VRL.length hz; simp only [zA, Instr.fill, hp]; have hsz : (a.eval x).cells.size = sz := by rw [← hb, hlen]; simp
        have hoff : o + (a.eval x).cells.size ≤ xs.size := by
         have hbd := hbound.resolve_right (fun e => by rw [e] at hb; simp at hb; omega)
         simp at hzl hlen; omega
        have hif : ((a.eval x).cells.size ≠ sz || o + (a.eval x).cells.size > xs.size) = false := by
         simp [hsz]; omega
        rw [hif]; simp only [zB, if_false]; refine lC hr hf (ht.sub (by intro t h; simp [Opd.tmps] at h ⊢; exact .inr h)) ?_
        have hfold : ((a.eval x).cells.zipIdx.foldl (fun (cs : Array Value) (p : Value × Nat) => cs.setIfInBounds (o + p.2) p.1) xs).toList = xs.toList.take o ++ (a.eval x).cells.toList ++ xs.toList.drop (o + (a.eval x).cells.toList.length) := by
         have := WP o (a.eval x).cells.toList 0 xs (by simp; omega)
         rw [← Array.foldl_toList, Array.toList_zipIdx]
         simpa using this
        rw [hfold]; have : v.cells.length = (a.eval x).cells.toList.length := hlen; rw [this]; exact VRL.append (VRL.append (hz.take o) hvc) (hz.drop _)
theorem zsf {G : List (List AV)} (r : Rel P w0 φ s.get w) (hG : xV G w0) {p : AV} {x : Value} (ha : QC P t = some false) (h : vLd G s p = some v) (hx : VR φ p x) :
  ∃ z, (Instr.loadAt t x).run P w = .ok z w ∧ VR φ v z := by
 unfold vLd at h; cases hl : vH G s p 1 with
 | none => rw [hl] at h; simp at h
 | some l =>
  rw [hl] at h; simp only at h; obtain ⟨a, xs, rfl, hlen, hxs, hc⟩ := vC r hG hl hx; obtain ⟨y, hy, hv⟩ := hxs.get (Z8 h); have hcell := hc 0 y hy; have : a.add 0 = a := by simp [Addr.add]
  rw [this] at hcell; exact ⟨y, by simp [Instr.loadAt, Instr.sureAddr, loadVar, lV ha, hcell], hv⟩
theorem zyv {G : List (List AV)} (r : Rel P w0 φ s.get w) (hG : xV G w0) {p : AV} {x : Value} (ha : QC P t = some true) (hs : qU P t = some n) (h : Ys G s n p = some v) (hx : VR φ p x) :
  ∃ z, (Instr.loadAt t x).run P w = .ok z w ∧ VR φ v z := by
 unfold Ys at h; cases hl : vH G s p n with
 | none => rw [hl] at h; simp at h
 | some l =>
  rw [hl] at h; simp only [zv] at h; subst h; obtain ⟨a, xs, rfl, hlen, hxs, hc⟩ := vC r hG hl hx; have hrun := run_loadCells_list (P := P) w a xs hc; rw [hlen] at hrun; exact ⟨.agg xs.toArray, by simp only [Instr.loadAt, Instr.sureAddr, loadVar, Sem.run_bind, Sem.run_pure, Result.andThen_ok, lV ha, if_true, x5 hs, hrun], by simp only [VR]; exact ⟨xs, rfl, hxs⟩⟩
theorem zoN (r : Rel P w0 φ s.get w) {p y : AV} {x z : Value} (hs : qU P t = some n) (h : oSt s n p y = some (v, s')) (hx : VR φ p x) (hy : VR φ y z) :
  v = qz ∧ ∃ w', (Instr.storeAt t x z).run P w = .ok () w' ∧ Step P w0 φ s w φ s' w' := by
 unfold oSt at h; cases hb : za (wZ y.cells) n with
 | false => rw [hb] at h; simp at h
 | true =>
  rw [hb] at h; simp only [cond_true] at h; cases hst : uQ s p y.cells with
  | none => rw [hst] at h; simp at h
  | some s1 =>
   rw [hst] at h; simp only [zv, zw] at h; obtain ⟨rfl, rfl⟩ := h; obtain ⟨a, w', rfl, h1, h2⟩ := lX r hst hx hy.cells; refine ⟨rfl, w', ?_, h2⟩; rw [xG, wV, VRL.length hy.cells] at hb; have hsz : z.cells.size = n := by simpa using hb
   simp only [Instr.storeAt, Instr.sureAddr, storeVar, Sem.run_bind, Sem.run_pure, Result.andThen_ok, x5 hs]; simp only [hsz, ne_eq, not_true_eq_false, if_false]; exact h1
theorem zoR {tot len : Nat} : VR (φ.set s.next ⟨w.heap.size, 0, tot⟩) (.sl s.next 0 len (.fix len)) (.slice (some ⟨w.heap.size, 0, none⟩) len len) := by
 simp only [VR]; exact ⟨⟨w.heap.size, 0, tot⟩, len, by simp [Phi.set], by simp, rfl⟩
theorem zqT {tot len c : Nat} : VR (φ.set s.next ⟨w.heap.size, 0, tot⟩) (.sl s.next 0 len (.fix c)) (.slice (some ⟨w.heap.size, 0, none⟩) len c) := by
 simp only [VR]; exact ⟨⟨w.heap.size, 0, tot⟩, c, by simp [Phi.set], by simp, rfl⟩
theorem X2 (z : List Value) (n : Nat) (_h : 0 < z.length) : ((zT (n * z.length)).map fun i => (z.toArray)[i % z.toArray.size]!).toList = (List.replicate n z).flatten := by
 induction n with
 | zero => simp
 | succ n ih =>
  rw [List.replicate_succ', List.flatten_append, ← ih]; simp only [Array.toList_map, Array.toList_range, Nat.succ_mul]; rw [List.range_add, List.map_append]
  congr 1
  simp only [List.flatten_cons, List.flatten_nil, List.append_nil, List.map_map]; apply List.ext_getElem?; intro i; by_cases hi : i < z.length
  ·rw [List.getElem?_map, List.getElem?_range hi]; have e1 : (n * z.length + i) % z.length = i := by rw [z9, Nat.mul_add_mod]; exact Nat.mod_eq_of_lt hi
   simp only [zX, Function.comp_apply, List.size_toArray, e1]; rw [List.getElem?_eq_getElem hi]; simp [hi]
  ·rw [z5 (by simp; omega), z5 oM]
theorem ZR {P : Program} {w : World} {α β : Type} (f : α → Sem β) (g : α → β) : ∀ (xs : List α), (∀ x ∈ xs, (f x).run P w = .ok (g x) w) → (xs.mapM f).run P w = .ok (xs.map g) w
 | [], _ => by simp
 | x :: xs, h => by
  rw [List.mapM_cons]; simp only [Sem.run_bind, h x (by simp), Result.andThen_ok, ZR f g xs (fun y hy => h y (by simp [hy])), Sem.run_pure, zA]
theorem V4 {α β : Type} (f : α → Sem β) (g : α → β) (xs : Array α) (h : ∀ x ∈ xs.toList, (f x).run P w = .ok (g x) w) : (xs.mapM f).run P w = .ok (xs.map g) w := by
 rw [Array.mapM_eq_mapM_toList]; simp only [Sem.run_map, ZR f g xs.toList h, Result.andThen_ok]
 congr 1
 apply Array.ext'; simp
theorem Pm {p q : Nat → Option (Nat × Nat)} (h : ∀ i, p i = q i) (cells : Array Value) (l : List (Nat × Value)) : Instr.fill p cells l = Instr.fill q cells l := by
 have : p = q := funext h; rw [this]
theorem J4 {fs : Array Field} {z : AV} {ps : Array (Nat × Operand)} {qs : List (Nat × Nat × Opd)} {cs : List AV} {a : Act}
  (hu : P.underlying t = some (.struct fs)) (hz : js P t = some z) (hall : fs.toList.all (fun f => (qU P f.type).isSome) = true) (hc : kE (K6 P fs) ps.toList = some qs) (hf : jo z.cells tm qs = some cs) (ht : TmOn φ (Opd.tmps (qs.map (·.2.2))) tm a) :
  ∃ y, (Instr.build t (ps.map fun (i, x) => (i, a.eval x))).run P w = .ok y w ∧ VR φ (.agg cs) y := by
 obtain ⟨zx, hzr, hzv⟩ := qw hz; obtain ⟨ys, h1, h2⟩ := lC (a := a) hc hf ht (hzv φ).cells; have hm : (fs.mapM fun f => (do pure (f.offset, ← sizeOf f.type) : Sem (Nat × Nat))).run P w = .ok (fs.map fun f => (f.offset, (qU P f.type).getD 0)) w := by
  refine V4 _ _ _ fun f hf => ?_; have := List.all_eq_true.1 hall f hf; obtain ⟨n, hn⟩ := Option.isSome_iff_exists.1 this; simp [x5 hn, hn]
 refine ⟨.agg ys, ?_, by simp only [VR]; exact ⟨ys.toList, by simp, h2⟩⟩
 simp only [Instr.build, Sem.run_bind, hzr, Result.andThen_ok, xj hu, hm]; rw [Pm (q := K6 P fs)]
 ·have : (ps.map fun (i, x) => (i, a.eval x)).toList = ps.toList.map fun (i, x) => (i, a.eval x) := by simp
  rw [this, h1]; rfl
 ·intro i; unfold K6; rw [Array.getElem?_map]; cases hi : fs[i]? with
  | none => rfl
  | some f =>
   have hmem : f ∈ fs.toList := by
    have : fs.toList[i]? = some f := by rw [zy]; exact hi
    exact List.mem_of_getElem? this
   have := List.all_eq_true.1 hall f hmem; obtain ⟨n, hn⟩ := Option.isSome_iff_exists.1 this; simp [hn]
theorem Gu {e : TypeId} {N : Nat} {z : AV} {ps : Array (Nat × Operand)} {qs : List (Nat × Nat × Opd)} {cs : List AV} {a : Act}
  (hu : P.underlying t = some (.array N e)) (hz : js P t = some z) (hs : qU P e = some n) (hc : kE (fun i => some (i * n, n)) ps.toList = some qs) (hf : jo z.cells tm qs = some cs) (ht : TmOn φ (Opd.tmps (qs.map (·.2.2))) tm a) :
  ∃ y, (Instr.build t (ps.map fun (i, x) => (i, a.eval x))).run P w = .ok y w ∧ VR φ (.agg cs) y := by
 obtain ⟨zx, hzr, hzv⟩ := qw hz; obtain ⟨ys, h1, h2⟩ := lC (a := a) hc hf ht (hzv φ).cells; refine ⟨.agg ys, ?_, by simp only [VR]; exact ⟨ys.toList, by simp, h2⟩⟩
 simp only [Instr.build, Sem.run_bind, hzr, Result.andThen_ok, xj hu, x5 hs]; have : (ps.map fun (i, x) => (i, a.eval x)).toList = ps.toList.map fun (i, x) => (i, a.eval x) := by simp
 rw [this, h1]; rfl
theorem zyP (r : Rel P w0 φ s.get w) (hwf : Wf s) (hf0 : s.next < s'.next → φ s.next = none) {e : TypeId} {len : Nat} {z : AV} {ps : Array (Nat × Operand)} {qs : List (Nat × Nat × Opd)} {a : Act}
  (hu : P.underlying t = some (.slice e)) (hs : qU P e = some n) (hz : js P e = some z) (hb : (ze (len * n) 16777216 && za (wZ z.cells) n && ze 1 n) = true)
  (hc : kE (fun i => some (i * n, n)) ps.toList = some qs) (h : Xg s e len (jo (reps len z.cells) tm qs) = some (v, s')) (ht : TmOn φ (Opd.tmps (qs.map (·.2.2))) tm a) :
  ∃ φ' y w', (Instr.buildSlice t len (ps.map fun (i, x) => (i, a.eval x))).run P w = .ok y w' ∧ Step P w0 φ s w φ' s' w' ∧ VR φ' v y := by
 obtain ⟨zx, hzr, hzv⟩ := qw hz; simp only [zl, xG, xN] at hb; obtain ⟨⟨hb1, hb2⟩, hb3⟩ := hb; rw [wV, VRL.length (hzv φ).cells] at hb2; have hzl : zx.cells.toList.length = n := hb2; cases hfc : jo (reps len z.cells) tm qs with
 | none => rw [hfc] at h; simp [Xg] at h
 | some cs =>
  rw [hfc] at h; simp only [Xg] at h; have hmade := X2 zx.cells.toList len oM; rw [hzl] at hmade; simp only [zP] at hmade; have hzz : VRL φ (reps len z.cells) ((zT (len * n)).map (fun i => zx.cells[i % zx.cells.size]!)).toList := by
   rw [hmade]; exact VRL.reps (hzv φ).cells len
  obtain ⟨ys, h1, h2⟩ := lC (a := a) hc hfc ht hzz; have hrun : (Instr.buildSlice t len (ps.map fun (i, x) => (i, a.eval x))).run P w = .ok (.slice (some ⟨w.heap.size, 0, none⟩) len len) { w with heap := w.heap.push (.cells ys e) } := ?_
  ·cases hm : (s.md && xK cs) with
   | true =>
    rw [hm] at h; simp only [cond_true, zv, zw] at h; obtain ⟨rfl, rfl⟩ := h; rw [zl] at hm; have st := Step.frozen (w' := { w with heap := w.heap.push (.cells ys e) }) r (c := ys) (e := e) (fr := (0, 0)) (fun b hb => by show (w.heap.push _)[b]? = _; rw [zY hb, zJ hb]) (by simp) (by simp) rfl rfl rfl
    refine ⟨_, _, _, hrun, st, VR.frozen (φ := φ) (m := ys.size) rfl hm.2 st.zsub (zp _) (fun _ => rfl) ?_⟩; rw [zG (by simp)]; exact h2
   | false =>
    rw [hm] at h; simp only [cond_false, zv, zw] at h; obtain ⟨rfl, rfl⟩ := h; have hst := gG r hwf (hf0 (Nat.lt_succ_self _)) e h2; rw [zP] at hst; exact ⟨_, _, _, hrun, hst, zoR⟩
  have hpl : (ps.map fun (i, x) => (i, a.eval x)).toList = ps.toList.map fun (i, x) => (i, a.eval x) := by simp
  simp only [Instr.buildSlice, Sem.run_bind, xj hu, Result.andThen_ok, x5 hs]; rw [if_neg oM]; by_cases h0 : len * n = 0
  ·rw [if_pos h0]; have hl0 : len = 0 := by rcases Nat.mul_eq_zero.1 h0 with h | h <;> omega
   subst hl0; have e1 : (zT (0 * n)).map (fun i => (#[] : Array Value)[i % (#[] : Array Value).size]!) = (zT (0 * n)).map (fun i => zx.cells[i % zx.cells.size]!) := by simp
   simp only [Sem.run_bind, Sem.run_pure, Result.andThen_ok]; rw [e1, hpl, h1]; simp only [Sem.run_bind, jF, Result.andThen_ok, Sem.run_pure]
  ·rw [if_neg h0]; simp only [Sem.run_bind, hzr, Result.andThen_ok, Sem.run_pure]; rw [hpl, h1]; simp only [Sem.run_bind, jF, Result.andThen_ok, Sem.run_pure]
theorem zoz (r : Rel P w0 φ s.get w) (hwf : Wf s) (hf : φ s.next = none) (h : zpC s = some (v, s')) :
  ∃ φ', Step P w0 φ s w φ' s' { w with heap := w.heap.push (.map #[] 0) } ∧ VR φ' v (.map (some w.heap.size)) := by
 unfold zpC at h; cases h; refine ⟨φ.set s.next ⟨w.heap.size, 0, 0⟩, Step.alloc r hwf hf rfl rfl rfl rfl ⟨#[], vW _, by simp [EntRel]⟩, ?_⟩
 simp only [VR]; exact ⟨⟨w.heap.size, 0, 0⟩, by simp [Phi.set], rfl⟩
theorem zx9 (r : Rel P w0 φ s.get w) (hwf : Wf s) (hf0 : φ s.next = none) {e : TypeId} {b : Nat} {z l c : AV} {l' c' : Value}
  (hu : P.underlying t = some (.slice e)) (hs : qU P e = some n) (hby : Uq P e = some b) (hz : js P e = some z) (hb : (za (wZ z.cells) n && ze 1 n) = true)
  (h : UD s e b z.cells l c = some (v, s')) (hl : VR φ l l') (hc : VR φ c c') : ∃ φ' y w', (Instr.makeSlice t l' c').run P w = .ok y w' ∧ Step P w0 φ s w φ' s' w' ∧ VR φ' v y := by
 obtain ⟨zx, hzr, hzv⟩ := qw hz; obtain ⟨i, hi, hib⟩ := Yk hby; simp only [zl, xG, xN] at hb; rw [wV, VRL.length (hzv φ).cells] at hb; have hzl : zx.cells.toList.length = n := hb.1; unfold UD at h; split at h
 ·rename_i ln
  split at h
  ·rename_i cn
   cases hbb : (ze ln cn && ze (zb cn b) 281474976710656 && zd cn 9223372036854775808) with
   | false => rw [hbb] at h; simp at h
   | true =>
    rw [hbb] at h; simp only [cond_true, zv, zw] at h; obtain ⟨rfl, rfl⟩ := h; simp only [zl, xN, wb] at hbb; obtain ⟨⟨h1, h2⟩, h3⟩ := hbb; have h2' : cn * b ≤ 281474976710656 := h2; simp only [VR] at hl hc; subst hl; subst hc; have hmade := X2 zx.cells.toList cn oM; rw [hzl] at hmade; simp only [zP] at hmade; have hzz : VRL φ (reps cn z.cells) ((zT (cn * n)).map (fun i => zx.cells[i % zx.cells.size]!)).toList := by
     rw [hmade]; exact VRL.reps (hzv φ).cells cn
    refine ⟨_, _, _, ?_, gG r hwf hf0 e hzz, zqT⟩; have w1 : IntKind.i64.wrap (zC ln) = (ln : Int) := l7 .i64 ln (by simp only [Uk]; omega)
    have w2 : IntKind.i64.wrap (zC cn) = (cn : Int) := l7 .i64 cn (by simp only [Uk]; omega)
    simp only [Instr.makeSlice, Sem.run_bind, xj hu, Result.andThen_ok, asInt, asIntOf, Sem.run_pure, uT hi, hib, w1, w2]; have hmul : ¬ ((b : Int) * (cn : Int) > 2 ^ 48) := by
     have e1 : (b : Int) * (cn : Int) = ((cn * b : Nat) : Int) := by rw [z9]; simp
     have e2 : (2 : Int) ^ 48 = 281474976710656 := by decide
     rw [e1, e2]; omega
    have hcond : ¬ ((decide ((cn : Int) < 0) || decide ((b : Int) * (cn : Int) > 2 ^ 48) || decide ((ln : Int) < 0) || decide ((ln : Int) > (cn : Int))) = true) := by
     rw [decide_eq_false (show ¬ (cn : Int) < 0 by omega), decide_eq_false hmul, decide_eq_false (show ¬ (ln : Int) < 0 by omega), decide_eq_false (show ¬ (ln : Int) > (cn : Int) by omega)]
     simp
    rw [if_neg hcond]; simp only [Sem.run_bind, run_askRoom, Result.andThen_ok, x5 hs, zF, Sem.run_ite, Sem.run_pure, hzr, jF]; by_cases h0 : cn * n = 0
    ·rw [if_pos h0, h0]; simp [Array.range_zero']
    ·rw [if_neg h0]
  ·cases h
 ·cases h
theorem Z4 {a : Addr} {k : Nat} (h : k ≠ a.block) : (w.freeze a n).heap[k]? = w.heap[k]? := by
 unfold World.freeze; split
 ·rfl
 ·simp [zH, Ne.symm h]
theorem lE {a : Addr} : (w.freeze a n).heap.size = w.heap.size ∧ (w.freeze a n).os = w.os ∧ (w.freeze a n).tape = w.tape ∧ (w.freeze a n).output = w.output := by
 unfold World.freeze; split
 ·exact ⟨rfl, rfl, rfl, rfl⟩
 ·exact ⟨by simp, rfl, rfl, rfl⟩
theorem XT {a : Addr} {c : Array Value} {e : TypeId} {fr : Nat × Nat} (hn : n ≠ 0) (h : w.heap[a.block]? = some (.cells c e fr)) :
  (w.freeze a n).heap[a.block]? = some (.cells c e (if fr.1 == fr.2 then (a.off, a.off + n) else (min fr.1 a.off, max fr.2 (a.off + n)))) := by
 unfold World.freeze; rw [if_neg hn]; simp [zH, h]
theorem Hu {fr : Nat × Nat} (hle : fr.1 ≤ fr.2) (h : ∀ i, i < n → ¬ (fr.1 ≤ i ∧ i < fr.2)) :
  ∀ i, i < n → ¬ ((if fr.1 == fr.2 then (n, n + 1) else (min fr.1 n, max fr.2 (n + 1))).1 ≤ i ∧ i < (if fr.1 == fr.2 then (n, n + 1) else (min fr.1 n, max fr.2 (n + 1))).2) := by
 intro i hi; by_cases e : fr.1 = fr.2
 ·rw [show (fr.1 == fr.2) = true from by simpa using e]; simp; omega
 ·rw [show (fr.1 == fr.2) = false from by simpa using e]
  simp only [zB, if_false]; intro ⟨h1, h2⟩; have hlt : fr.1 < fr.2 := oM; by_cases h3 : fr.1 < n
  ·exact h fr.1 h3 ⟨zp _, hlt⟩
  ·simp only [Nat.min_def] at h1; split at h1 <;> omega
theorem zzY {a : Nat} {fr : Nat × Nat} (hle : fr.1 ≤ fr.2) : (if fr.1 == fr.2 then (a, a + n) else (min fr.1 a, max fr.2 (a + n))).1 ≤ (if fr.1 == fr.2 then (a, a + n) else (min fr.1 a, max fr.2 (a + n))).2 := by
 by_cases e : fr.1 = fr.2
 ·rw [show (fr.1 == fr.2) = true from by simpa using e]; simp
 ·rw [show (fr.1 == fr.2) = false from by simpa using e]
  simp only [zB, if_false]; omega
theorem Xo (r : Rel P w0 φ s.get w) {B : Blk} {e : Nat} {cells : List AV} {ext fz : Bool} (hg : s.get id = some (.row e cells ext fz)) (hB : φ id = some B) (off : Nat) :
  ∃ w', (markStringish ⟨B.b, off, none⟩).run P w = .ok () w' ∧ Step P w0 φ s w φ (s.put id (.row e cells ext fz)) w' := by
 obtain ⟨B', hB', c, fr, h1, h2, h3, h4, h5, h6, h7⟩ := r.obj id _ hg; rw [hB] at hB'; cases hB'; have hsh : w.shape? B.b = some (e, c.size) := by simp [World.shape?, h1]
 refine ⟨w.freeze { block := B.b, off := c.size } 1, by simp [markStringish, hsh], ?_⟩
 obtain ⟨f1, f2, f3, f4⟩ := lE (w := w) (a := { block := B.b, off := c.size }) (n := 1); refine Step.put r hg hB (fun b hb => Z4 hb) f1 f2 f3 f4 ?_; have hin := XT (w := w) (a := { block := B.b, off := c.size }) (n := 1) oM h1; exact ⟨c, _, hin, h2, h3, h4, h5, zzY h6, fun hz => Hu h6 (h7 hz)⟩
theorem zyS {st st' : St} (r : Rel P w0 φ st.get w) {s e _e' : TypeId} {x : AV} {x' : Value} (hs : P.underlying s = some (.slice e)) (he : P.underlying e = some (.int .u8))
  (h : PM st x = some (v, st')) (hx : VR φ x x') : ∃ w', (convert s s x').run P w = .ok x' w' ∧ Step P w0 φ st w φ st' w' ∧ VR φ v x' := by
 unfold PM at h; split at h
 ·rename_i id off len c
  split at h
  ·rename_i t cells ext fz hg
   simp only [zv, zw] at h; obtain ⟨rfl, rfl⟩ := h; have hx' := hx; simp only [VR] at hx; obtain ⟨B, k, hB, rfl, _⟩ := hx; obtain ⟨w', h1, h2⟩ := Xo r hg hB (B.o + off); refine ⟨w', ?_, h2, hx'⟩; simp [convert, xj hs, xj he, h1]
  ·cases h
 ·cases h
theorem pU : ∀ l : List Nat, xK (x6 l) = true
 | [] => rfl
 | b :: r => by simp [x6, xK, x0, pU r]
theorem zy8 {st st' : St} (r : Rel P w0 φ st.get w) (hwf : Wf st) (hff : st.next < st'.next → φ st.next = none) {s d e : TypeId} {x : AV} {x' : Value} (hs : P.underlying s = some .string) (hd : P.underlying d = some (.slice e)) (he : P.underlying e = some (.int .u8))
  (h : UC st e x = some (v, st')) (hx : VR φ x x') : ∃ φ' y w', (convert s d x').run P w = .ok y w' ∧ Step P w0 φ st w φ' st' w' ∧ VR φ' v y := by
 unfold UC at h; split at h
 ·rename_i t
  simp only [VR] at hx; obtain ⟨bs, rfl, rfl⟩ := hx; cases hb : zd (wZ (qK bs)) 9223372036854775808 with
  | false => rw [hb] at h; simp at h
  | true =>
   rw [hb] at h; simp only [cond_true] at h; rw [wb] at hb; simp only [wV, w9] at hb h ⊢; obtain ⟨q, hq⟩ : ∃ q, q = Question.appendCap bs.size 0 e := ⟨_, rfl⟩; obtain ⟨cp, hcp⟩ : ∃ cp, cp = q.cut (w.tape w.drawn q) := ⟨_, rfl⟩; have hge : bs.size ≤ cp := by rw [hcp, hq]; simp [Question.cut]
   obtain ⟨row, hrow⟩ : ∃ row : Array Value, row = (bs.data.map fun b => Value.int .u8 (b.toNat : Int)) ++ Array.replicate (cp - bs.size) (.int .u8 0) := ⟨_, rfl⟩; have hrs : row.size = cp := by rw [hrow]; simp; have : bs.data.size = bs.size := rfl; omega
   obtain ⟨w1, hw1⟩ : ∃ w1 : World, w1 = { w with heap := w.heap.push (.cells row e), drawn := w.drawn + 1 } := ⟨_, rfl⟩
   have hh1 : w1.heap = w.heap.push (.cells row e) := by rw [hw1]
   have hnew : w1.heap[w.heap.size]? = some (.cells row e (0, 0)) := by rw [hh1]; simp
   have hsh : w1.shape? w.heap.size = some (e, row.size) := by simp [World.shape?, hnew]
   obtain ⟨w2, hw2⟩ : ∃ w2, w2 = w1.freeze { block := w.heap.size, off := row.size } 1 := ⟨_, rfl⟩; have hm : (markStringish ⟨w.heap.size, 0, none⟩).run P w1 = .ok () w2 := by rw [hw2]; simp [markStringish, hsh]
   have hrun : (convert s d (.string bs)).run P w = .ok (.slice (some ⟨w.heap.size, 0, none⟩) bs.size cp) w2 := by
    have hforced : q.forced = false := by rw [hq]; rfl
    simp only [convert, Sem.run_bind, xj hs, xj hd, xj he, Result.andThen_ok, Conv.stringToBytes, run_choose]; rw [← hq, hforced]; simp only [zB, if_false, Result.andThen_ok, ← hcp]; have hnr : (newRow e ((bs.data.map fun b => Value.int .u8 (b.toNat : Int)) ++ Array.replicate (cp - bs.size) (.int .u8 0))).run P { w with drawn := w.drawn + 1 } = .ok ⟨w.heap.size, 0, none⟩ w1 := by
     rw [jF, hw1, hrow]
    rw [hnr]; simp only [Result.andThen_ok, hm, Sem.run_pure]
   obtain ⟨f1, f2, f3, f4⟩ := lE (w := w1) (a := { block := w.heap.size, off := row.size }) (n := 1); have hin := XT (w := w1) (a := { block := w.heap.size, off := row.size }) (n := 1) oM hnew; have hout : ∀ b, b ≠ w.heap.size → (w1.freeze { block := w.heap.size, off := row.size } 1).heap[b]? = w1.heap[b]? := fun b hb => Z4 hb; rw [← hw2] at f1 f2 f3 f4 hin hout; have hcells : (row.toList.drop 0).take bs.size = bs.data.toList.map fun b => Value.int .u8 (b.toNat : Int) := by
    rw [hrow]; simp only [z4, Array.toList_append, Array.toList_map]; rw [List.take_append_of_le_length (by simp)]
    rw [zG (by simp)]
   cases hmd : st.md with
   | true =>
    rw [hmd] at h; simp only [cond_true, zv, zw] at h; obtain ⟨rfl, rfl⟩ := h; have st' := Step.frozen (w' := w2) r (fun b hb => (hout b oM).trans (by rw [hh1, zY hb, zJ hb])) (by rw [f1, hh1]; simp) hin (f2.trans (by rw [hw1])) (f3.trans (by rw [hw1])) (f4.trans (by rw [hw1]))
    refine ⟨_, _, _, hrun, st', VR.frozen (φ := φ) (m := bs.size) rfl (pU _) st'.zsub hge (fun h => by cases h) ?_⟩
    rw [z4] at hcells; rw [hcells]; exact lu _
   | false =>
   rw [hmd] at h; simp only [cond_false, zv, zw] at h; obtain ⟨rfl, rfl⟩ := h; have hf := hff (Nat.lt_succ_self _); have hsub := Phi.set_sub (B := ⟨w.heap.size, 0, cp⟩) hf; have hst : Step P w0 φ st w (φ.set st.next ⟨w.heap.size, 0, cp⟩) (st.alloc (.row e (x6 (qK bs)) true false)) w1 := by
    refine Step.alloc r hwf hf hh1 (by rw [hw1]) (by rw [hw1]) (by rw [hw1]) ?_
    refine ⟨row, (0, 0), hnew, by rw [hrs]; simp, by rw [jL, w9]; exact hge, (fun h => by cases h), ?_, zp _, fun _ i _ => by simp⟩
    have e1 : (row.toList.drop 0).take (x6 (qK bs)).length = bs.data.toList.map fun b => Value.int .u8 (b.toNat : Int) := by
     rw [jL, w9, hcells]
    rw [e1]; exact lu _
   have hstep2 : Step P w0 φ st w (φ.set st.next ⟨w.heap.size, 0, cp⟩) (st.alloc (.row e (x6 (qK bs)) true false)) w2 := by
    refine ⟨hst.ext, ⟨⟨f2.trans hst.rel.base.os, f3.trans hst.rel.base.tape, f4.trans hst.rel.base.output, by rw [f1]; exact hst.rel.base.size, fun k hk => (hout k (by have := r.base.size; omega)).trans (hst.rel.base.block k hk)⟩, ?_, ?_, hst.rel.old, hst.rel.inj, ?_, hst.rel.sep⟩, hst.same, by rw [f1]; exact hst.size, ?_, hst.own, hst.zsub, hst.zown⟩
    ·intro id o hg; obtain ⟨B, hB, t⟩ := hst.rel.obj id o hg; refine ⟨B, hB, ?_⟩; by_cases e2 : B.b = w.heap.size
     · -- it is the new row
      have hid : id = st.next := by
       by_cases e3 : id = st.next
       ·exact e3
       ·exfalso
        rw [show (φ.set st.next _) id = φ id from if_neg e3] at hB
        have := (r.rng id B hB); omega
      subst hid; have ho : o = .row e (x6 (qK bs)) true false := by
       have := xW hg; rw [show (st.alloc _).objs = st.objs.set st.next _ from rfl, Trie.get_set_same] at this
       exact (Option.some.inj this).symm
      subst ho; obtain ⟨c, fr, g1, g2, g3, g4, g5, g6, g7⟩ := t; rw [e2] at g1; rw [hnew] at g1; cases g1; refine ⟨row, _, by rw [e2]; exact hin, g2, g3, g4, g5, zzY g6, fun hz => Hu g6 (g7 hz)⟩
     ·exact t.keep (Sub.refl _) (hout _ e2)
    ·intro id B hB; rw [f1]; exact hst.rel.rng id B hB
    ·intro b i v hv; have hlt := r.zlt (b := b) (o := i) (v := v) hv; obtain ⟨c, e', fr, g1, g2⟩ := hst.rel.frz b i v hv; exact ⟨c, e', fr, (hout b oM).trans g1, g2⟩
    ·intro b hb H; exact (hout b oM).trans (hst.frame b hb H)
   refine ⟨_, _, w2, hrun, hstep2, ?_⟩
   ·simp only [VR]; refine ⟨⟨w.heap.size, 0, cp⟩, cp, by simp [Phi.set], by simp, oM, by simp, hge, zL _⟩
 ·cases h
end Go.Proofs.YtionbncghjdeoaaGreatDoor.Ev

/- Part of a verified evaluator of the model's code, generic over the program: a run of the evaluator that answers shows what the model's run answers. No conditions of its own. -/
import Derived.Test.YtionbncghjdeoaaGreatDoorEvG
set_option linter.unusedSimpArgs false
set_option linter.unusedVariables false
set_option linter.defProp false
open List renaming length_cons → y8, cons_append → y9
open Nat renaming ble → ze, mul → zb, not_lt_zero → zms, lt_succ_self → yx, testBit_mod_two_pow → zmt, le_refl → zp, add → zc, testBit_shiftLeft → zmu
open Int renaming reduceNegSucc → yZ, reduceOfNat → y6
open Bool renaming and_self → xb
namespace Go.Proofs.YtionbncghjdeoaaGreatDoor.Ev
variable {P : Program} {w0 : World} {E : Env} {O : Orc} {s : St} {v : AV} {tm : Trie AV} {id n esz bytes : Nat}
open Go.RowKit (Below)
def Ev (X : Option (Res × Fr × St)) (Q : Res → Fr → St → Prop) : Prop := ∃ r fr s, X = some (r, fr, s) ∧ Q r fr s
def Cv (X : Option (AV × St)) (R : AV → St → Prop) : Prop := ∃ v s, X = some (v, s) ∧ R v s
section
variable {E : Env} {O : Orc} {rd : Option Nat} {ia ib ic : ICode} {fr fr' : Fr} {s s' : St} {Q Q' : Res → Fr → St → Prop} {X Y : Option (Res × Fr × St)} {U V : Option (AV × St)} {R R' : AV → St → Prop}
theorem jN {r : Res} (h : Q r fr s) : Ev (some (r, fr, s)) Q := ⟨r, fr, s, rfl, h⟩
theorem zs7 (h : R v s) : Cv (some (v, s)) R := ⟨v, s, rfl, h⟩
theorem Ev.mono (h : Ev X Q) (hq : ∀ r f t, Q r f t → Q' r f t) : Ev X Q' := by
 obtain ⟨r, f, t, e, q⟩ := h; exact ⟨r, f, t, e, hq _ _ _ q⟩
theorem Cv.mono (h : Cv U R) (hq : ∀ v t, R v t → R' v t) : Cv U R' := by
 obtain ⟨v, t, e, q⟩ := h; exact ⟨v, t, e, hq _ _ q⟩
theorem zpy (h : U = V) (q : Cv V R) : Cv U R := h ▸ q
theorem KD {k : Fr → St → Option (Res × Fr × St)} (h : Ev X (wo (fun f t => Ev (k f t) Q) Q)) : Ev (vS k X) Q := by
 obtain ⟨r, f, t, rfl, q⟩ := h; cases r with
 | norm => exact q
 | exit i => exact ⟨_, _, _, rfl, q⟩
 | ret => exact ⟨_, _, _, rfl, q⟩
theorem xJ (h : Ev (evC E (evW E O) rd ia fr s) (wo (fun f t => Ev (evC E (evW E O) rd ib f t) Q) Q)) : Ev (evC E (evW E O) rd (.seq ia ib) fr s) Q := KD h
theorem zxH (h : Ev X (uK id Q)) : Ev (jt id X) Q := by
 obtain ⟨r, f, t, rfl, q⟩ := h; cases r with
 | norm => exact ⟨_, _, _, rfl, q⟩
 | ret => exact ⟨_, _, _, rfl, q⟩
 | exit i =>
  refine ⟨if i = id then .norm else .exit i, f, t, ?_, q⟩; rw [Wi]; split <;> rfl
theorem xQ (h : Ev (evC E (evW E O) rd ib fr s) (uK id Q)) : Ev (evC E (evW E O) rd (.block id ib) fr s) Q := zxH h
theorem wS {α : Type} (m : α → Nat) (I : α → Fr → St → Prop) (h : ∀ x fr s, I x fr s → Ev (evC E (evW E O) rd ib fr s) (wo (fun f t => ∃ y, I y f t ∧ m y < m x) Q)) (x : α) (hx : I x fr s) : Ev (evC E (evW E O) rd (.loop ib) fr s) Q := by
 have key : ∀ n x fr s, I x fr s → m x < n → Ev (evC E (evW E O) rd (.loop ib) fr s) Q := by
  intro n
  induction n with
  | zero => intro x fr s _ h; omega
  | succ n ih =>
   intro x fr s hx hn; rw [zuh]; refine KD ((h x fr s hx).mono fun r f t => ?_); cases r with
   | norm => exact fun ⟨y, hy, hm⟩ => ih y f t hy oM
   | exit i => exact fun h => h
   | ret => exact fun h => h
 exact key _ x fr s hx (yx _)
theorem wL {df : List Nat} {ops : List SOper} {d : Option Nat} (hc : Cv U R) (h : ∀ v t, R v t → Ev (vP df (evS E (evW E O) ops (qH tm d v) t)) Q) : Ev (vP df (zvI (stS tm d U) (evS E (evW E O) ops))) Q := by
 obtain ⟨v, t, rfl, q⟩ := hc; exact h v t q
theorem Vl {df : List Nat} {ops : List DOper} {j : Nat} {d : Option Nat} {deps i : Nat} {log : List LogE} {m : Nat} {hd : List (Nat × Nat)} {on : Option (Nat × List Nat)} {tch : Option (List Nat)} (hc : Cv U R) (h : ∀ v t, R v t → Ev (vP df (zzw (opD.endS2 d deps i log tm n m hd on tch (some (v, t))) (evD E (evW E O) ops j))) Q) : Ev (vP df (zzw (opD.endS2 d deps i log tm n m hd on tch U) (evD E (evW E O) ops j))) Q := by
 obtain ⟨v, t, rfl, q⟩ := hc; exact h v t q
theorem YI {f : Nat} {F : IFunc} (h : O f = none) (hF : E.funs.get f = some F) (hp : E.pure f = true) {a : List AV} {l : List (Nat × Option AObj)} {m : Nat} {b : Bool} {hd : List (Nat × Nat)} {on : Option (Nat × List Nat)} (ha : a.length ≤ F.ntmps)
  (hB : Ev (evC E (evW E O) none F.body ⟨wN (tmL []) 0 a, []⟩ (KL l n 0 true hd on)) fun r fr t => Cv (lQ (KL l n m b hd on) (wR E.globs F.res (some (r, fr, t)))) R) : Cv ((evW E O).call f a (KL l n m b hd on)) R := by
 obtain ⟨r, fr, t, e, q⟩ := hB; rw [Qj h hF hp _ _ _ _ _ _ _ ha, e]; exact q
theorem qA {f : Nat} {F : IFunc} (h : O f = none) (hF : E.funs.get f = some F) (hp : E.pure f = false) {a : List AV} {l : List (Nat × Option AObj)} {m : Nat} {b : Bool} {hd : List (Nat × Nat)} {on : Option (Nat × List Nat)} (ha : a.length ≤ F.ntmps)
  (hB : Ev (evC E (evW E O) none F.body ⟨wN (tmL []) 0 a, []⟩ (KL l n m false hd on)) fun r fr t => Cv (mdR b (wR E.globs F.res (some (r, fr, t)))) R) : Cv ((evW E O).call f a (KL l n m b hd on)) R := by
 obtain ⟨r, fr, t, e, q⟩ := hB; rw [Gy h hF hp _ _ _ _ _ _ _ ha, e]; exact q
end
section
variable {E : Env} {O : Orc} {ia ib ic : ICode} {fr fr' : Fr} {s s' : St} {Q : Res → Fr → St → Prop} {X Y : Option (Res × Fr × St)} {U V : Option (AV × St)} {R : AV → St → Prop} {r : Res}
theorem cvF {f : Nat} {F : IFunc} (hF : E.funs.get f = some F) (hp : E.pure f = true) {a : List AV} {b : Bool} (ha : a.length ≤ F.ntmps)
  (hB : Ev (evC E (evW E O) none F.body ⟨wN (tmL []) 0 a, []⟩ (KL [] 0 0 true [] none)) fun r fr t => Cv (lQ (KL [] 0 0 b [] none) (wR E.globs F.res (some (r, fr, t)))) R) : Cv (jj E (evW E O) f a (s00 0 b)) R := by
 obtain ⟨r, fr, t, e, q⟩ := hB; have : jj E (evW E O) f a (s00 0 b) = lQ (KL [] 0 0 b [] none) (wR E.globs F.res (evC E (evW E O) none F.body ⟨wN (tmL []) 0 a, []⟩ (KL [] 0 0 true [] none))) := by
  unfold jj; rw [hF]; simp only [wV, xN.2 ha, cond_true, hp]; rfl
 rw [this, e]; exact q
theorem znh {f : Nat} {F : IFunc} (hF : E.funs.get f = some F) (hp : E.pure f = false) {a : List AV} {b : Bool} (ha : a.length ≤ F.ntmps)
  (hB : Ev (evC E (evW E O) none F.body ⟨wN (tmL []) 0 a, []⟩ (KL [] 0 0 false [] none)) fun r fr t => Cv (mdR b (wR E.globs F.res (some (r, fr, t)))) R) : Cv (jj E (evW E O) f a (s00 0 b)) R := by
 obtain ⟨r, fr, t, e, q⟩ := hB; have : jj E (evW E O) f a (s00 0 b) = mdR b (wR E.globs F.res (evC E (evW E O) none F.body ⟨wN (tmL []) 0 a, []⟩ (KL [] 0 0 false [] none))) := by
  unfold jj; rw [hF]; simp only [wV, xN.2 ha, cond_true, hp, cond_false]; rfl
 rw [this, e]; exact q
theorem xB {Z : Prop} (q : Z) (h : X = some (r, fr', s') := by (simp (disch := first | exact dis | fail) only [go_sem, seval, -Int.reduceOfNat, -Int.reduceNegSucc, *]; exact rfl)) (h2 : Q r fr' s' = Z := by (try simp only [wo, uK, if_true, ↓reduceIte]); first | done | exact rfl) : Ev X Q := by
 subst h2; subst h; exact jN q
theorem uy (q : Ev Y Q) (h : X = Y := by (simp (disch := first | exact dis | fail) only [go_sem, seval, -Int.reduceOfNat, -Int.reduceNegSucc, *]; exact rfl)) : Ev X Q := h ▸ q
theorem xw {Z : Prop} (q : Z) (h : evC E (evW E O) none ia fr s = some (r, fr', s') := by (simp (disch := first | exact dis | fail) only [go_sem, seval, -Int.reduceOfNat, -Int.reduceNegSucc, *]; exact rfl)) (h2 : wo (fun f t => Ev (evC E (evW E O) none ib f t) Q) Q r fr' s' = Z := by (try simp only [wo, uK, if_true, ↓reduceIte]); first | done | exact rfl) : Ev (evC E (evW E O) none (.seq ia ib) fr s) Q :=
 xJ (by rw [h]; exact jN (h2 ▸ q))
theorem x7 {Z : Prop} (q : Z) (h : U = some (v, s) := by (simp (disch := first | exact dis | fail) only [go_sem, seval, -Int.reduceOfNat, -Int.reduceNegSucc, Nat.mod_one, *]; exact rfl)) (h2 : R v s = Z := by exact rfl) : Cv U R := by
 subst h2; subst h; exact zs7 q
end
def zpo (n : Nat) : Cap → Prop
 | .fix m => n ≤ m
 | .opn _ => True
mutual
def Fz (s : St) : AV → AV → Prop
 | v, .lst n ex cs => xK cs = true ∧ (wkV v = .lst n ex cs ∨ (ex = false ∧ ∃ id off c e cells x f us, v = .sl id off n c ∧ zpo n c ∧ s.get id = some (.row e cells x f) ∧ cut cells off cs.length = some us ∧ FzL s us cs))
 | v, .agg cs => ∃ us, v = .agg us ∧ FzL s us cs
 | v, .tup cs => ∃ us, v = .tup us ∧ FzL s us cs
 | v, w => wkV v = w
def FzL (s : St) : List AV → List AV → Prop
 | us, [] => us = []
 | us, w :: ws => ∃ u us', us = u :: us' ∧ Fz s u w ∧ FzL s us' ws
end
theorem FzL.len {s : St} : ∀ {us ws : List AV}, FzL s us ws → us.length = ws.length
 | _, [], h => by simp only [FzL] at h; rw [h]
 | _, w :: ws, h => by
  simp only [FzL] at h; obtain ⟨u, us', rfl, _, h2⟩ := h; simp [FzL.len h2]
theorem FzL.append {s : St} : ∀ {us ws us' ws' : List AV}, FzL s us ws → FzL s us' ws' → FzL s (us ++ us') (ws ++ ws')
 | _, [], _, _, h, h' => by simp only [FzL] at h; rw [h]; exact h'
 | _, w :: ws, us', ws', h, h' => by
  simp only [FzL] at h; obtain ⟨u, us1, rfl, h1, h2⟩ := h; simp only [y9, FzL]; exact ⟨u, us1 ++ us', rfl, h1, FzL.append h2 h'⟩
noncomputable def Phi.full (φ : Phi) (k : Nat) (w : World) : Phi := ⟨φ.m, fun b o => if k ≤ b then (match w.heap[b]? with
 | some (.cells c _ _) => c[o]?
 | _ => none) else φ.z b o⟩
section
variable {P : Program} {w0 w w' : World} {φ φ' : Phi} {s : St}
theorem zuX (r : Rel P w0 φ' s.get w') (k : Nat) : ∀ b o v, φ'.z b o = some v → (φ'.full k w').z b o = some v := fun b o v h => by
 obtain ⟨c, e, fr, h1, h2⟩ := r.frz b o v h; show (if k ≤ b then _ else _) = _; split
 ·rw [h1]; exact h2
 ·exact h
theorem qu (r : Rel P w0 φ' s.get w') (k : Nat) : Sub φ' (φ'.full k w') := ⟨fun _ _ h => h, zuX r k⟩
mutual
theorem G4 {k : Nat} (r : Rel P w0 φ' s.get w') (hn : ∀ id B, φ' id = some B → (∃ o, s.get id = some o) → k ≤ B.b) : ∀ {v w : AV} {x : Value}, Fz s v w → VR φ' v x → VR (φ'.full k w') w x
 | v, .lst n ex cs, x, h, hv => by
  simp only [Fz] at h; obtain ⟨hp, h | ⟨rfl, id, off, c, e, cells, xt, f, us, rfl, hco, hg, hc, hf⟩⟩ := h
  ·rw [← h]; exact VR.mono (qu r k) _ _ (wK hv)
  ·simp only [VR] at hv; obtain ⟨B, kk, hB, rfl, hcap⟩ := hv; obtain ⟨B', hB', t⟩ := r.obj id _ hg; rw [hB] at hB'; cases hB'; have hk := hn id B hB ⟨_, hg⟩; simp only [ObjRel] at t; obtain ⟨cc, fr, t1, t2, t3, t4, t5, _⟩ := t; simp only [VR]; obtain ⟨c1, c2, c3⟩ := cut_some hc; have hus : VRL φ' us ((((cc.toList.drop B.o).take cells.length).drop off).take cs.length) := by rw [c3]; exact (t5.drop off).take _
   refine ⟨hp, .inr ⟨B.b, B.o + off, kk, (((cc.toList.drop B.o).take cells.length).drop off).take cs.length, rfl, (by simp), ?_, ?_, Zo r hn hf hus⟩⟩
   ·cases c with
    | fix m => simp only at hcap; subst hcap; exact hco
    | opn m => simp only at hcap; exact hcap.2.2.1
   ·refine ZC.of fun i y hi => ?_; show (if k ≤ B.b then _ else _) = _; rw [if_pos hk, t1]; show cc[B.o + off + i]? = _; simp only [List.getElem?_take, List.getElem?_drop] at hi; split at hi
    ·split at hi
     ·rw [← Array.getElem?_toList, Nat.add_assoc]; exact hi
     ·cases hi
    ·cases hi
 | v, .agg cs, x, h, hv => by
  simp only [Fz] at h; obtain ⟨us, rfl, h⟩ := h; simp only [VR] at hv ⊢; obtain ⟨xs, rfl, hv⟩ := hv; exact ⟨xs, rfl, Zo r hn h hv⟩
 | v, .tup cs, x, h, hv => by
  simp only [Fz] at h; obtain ⟨us, rfl, h⟩ := h; simp only [VR] at hv ⊢; obtain ⟨xs, rfl, hv⟩ := hv; exact ⟨xs, rfl, Zo r hn h hv⟩
 | v, .bool _, x, h, hv => by simp only [Fz] at h; rw [← h]; exact VR.mono (qu r k) _ _ (wK hv)
 | v, .int _ _, x, h, hv => by simp only [Fz] at h; rw [← h]; exact VR.mono (qu r k) _ _ (wK hv)
 | v, .str _, x, h, hv => by simp only [Fz] at h; rw [← h]; exact VR.mono (qu r k) _ _ (wK hv)
 | v, .ptr _ _, x, h, hv => by simp only [Fz] at h; rw [← h]; exact VR.mono (qu r k) _ _ (wK hv)
 | v, .nilp, x, h, hv => by simp only [Fz] at h; rw [← h]; exact VR.mono (qu r k) _ _ (wK hv)
 | v, .gptr _ _, x, h, hv => by simp only [Fz] at h; rw [← h]; exact VR.mono (qu r k) _ _ (wK hv)
 | v, .sl _ _ _ _, x, h, hv => by simp only [Fz] at h; rw [← h]; exact VR.mono (qu r k) _ _ (wK hv)
 | v, .sl0, x, h, hv => by simp only [Fz] at h; rw [← h]; exact VR.mono (qu r k) _ _ (wK hv)
 | v, .nils, x, h, hv => by simp only [Fz] at h; rw [← h]; exact VR.mono (qu r k) _ _ (wK hv)
 | v, .map _, x, h, hv => by simp only [Fz] at h; rw [← h]; exact VR.mono (qu r k) _ _ (wK hv)
 | v, .nilm, x, h, hv => by simp only [Fz] at h; rw [← h]; exact VR.mono (qu r k) _ _ (wK hv)
 | v, .fn _ _ _, x, h, hv => by simp only [Fz] at h; rw [← h]; exact VR.mono (qu r k) _ _ (wK hv)
 | v, .nilf, x, h, hv => by simp only [Fz] at h; rw [← h]; exact VR.mono (qu r k) _ _ (wK hv)
 | v, .yld _, x, h, hv => by simp only [Fz] at h; rw [← h]; exact VR.mono (qu r k) _ _ (wK hv)
 | v, .ifc _ _, x, h, hv => by simp only [Fz] at h; rw [← h]; exact VR.mono (qu r k) _ _ (wK hv)
 | v, .nili, x, h, hv => by simp only [Fz] at h; rw [← h]; exact VR.mono (qu r k) _ _ (wK hv)
 | v, .gr _ _ _ _, x, h, hv => by simp only [Fz] at h; rw [← h]; exact VR.mono (qu r k) _ _ (wK hv)
 | v, .vp _, x, h, hv => by simp only [Fz] at h; rw [← h]; exact VR.mono (qu r k) _ _ (wK hv)
theorem Zo {k : Nat} (r : Rel P w0 φ' s.get w') (hn : ∀ id B, φ' id = some B → (∃ o, s.get id = some o) → k ≤ B.b) : ∀ {us ws : List AV} {xs : List Value}, FzL s us ws → VRL φ' us xs → VRL (φ'.full k w') ws xs
 | us, [], xs, h, hv => by simp only [FzL] at h; subst h; simpa only [VRL] using hv
 | us, w :: ws, xs, h, hv => by
  simp only [FzL] at h; obtain ⟨u, us', rfl, h1, h2⟩ := h; simp only [VRL] at hv ⊢; obtain ⟨y, ys, rfl, h3, h4⟩ := hv; exact ⟨y, ys, rfl, G4 r hn h1 h3, Zo r hn h2 h4⟩
end
end
theorem V6 (hO : OrcOk P w0 O) (hm : P.follows .mixedOrders = true) (hG : xV E.globs w0) (hE : gm P E) {f : Nat} {args : List AV} {b : Bool} (h : Cv (jj E (evW E O) f args (s00 0 b)) fun v0 s1 => Fz s1 v0 v) : ∃ s1, SC P w0 f args (s00 0 b) v s1 := by
 obtain ⟨v0, s1, e, hz⟩ := h; obtain ⟨h1, h2⟩ := Wl (Pj hO.ext hm hG hE hO.ok) hG hE (Kz hm hG _ (Pj hO.ext hm hG hE hO.ok)) e; refine ⟨{ s00 0 b with next := s1.next, wm := s1.wm }, h1, fun φ w xs r hwf hf hx F n hF => (h2 r hwf (fun id hid => hf id hid) hx F n hF).mono ?_⟩
 rintro e' w' ⟨φ', x, rfl, k1, k2⟩
 have hnew : ∀ id B, φ' id = some B → (∃ o, s1.get id = some o) → w.heap.size ≤ B.b := fun id B hB ⟨o, ho⟩ => by
  have hlt : id < s1.next := by
   have := (k1.ext.wf hwf).lt id o (xW ho); exact this
  rcases k1.own id B (Nat.zero_le _) hlt hB with h | ⟨id0, o0, B0, q, _⟩
  ·exact h
  ·rw [Zv] at q; cases q
 have hgn : ∀ id o, ({ s00 0 b with next := s1.next, wm := s1.wm } : St).get id = some o → False := fun id o h => by
  have := xW h; simp [s00, Trie.get] at this
 have hz' : ∀ b o v, (φ'.full w.heap.size w').z b o = some v → φ.z b o = some v ∨ w.heap.size ≤ b := fun b o v h => by
  by_cases hb : w.heap.size ≤ b
  ·exact .inr hb
  ·have h' : φ'.z b o = some v := by
    have : (if w.heap.size ≤ b then _ else φ'.z b o) = some v := h
    rwa [if_neg hb] at this
   rcases k1.zown b o v h' with h | h | ⟨id0, o0, B0, q, _⟩
   ·exact .inl h
   ·exact .inr h
   ·rw [Zv] at q; cases q
 refine ⟨φ'.full w.heap.size w', x, rfl, ⟨⟨k1.ext.next, k1.ext.wm, rfl, rfl, fun id hid _ => absurd hid (zms _), fun id o hid _ => absurd hid (zms _), fun _ => ⟨fun id o h => ?_, fun p hp => absurd (show p ∈ ([] : List (Nat × Nat)) from hp) (by simp)⟩, fun id hid _ => absurd hid (zms _), fun id o hid _ _ _ => absurd hid (zms _)⟩, ⟨k1.rel.base, fun id o h => (hgn id o h).elim, k1.rel.rng, fun id o B h _ _ => (hgn id o h).elim, fun id id' o o' B B' h _ _ _ _ => (hgn id o h).elim, fun b o v h => ?_, fun id o B h _ => (hgn id o h).elim⟩, k1.same, k1.size, k1.frame, fun id B h1 h2 h3 => ?_, fun b o v h => zuX k1.rel _ _ _ _ (k1.zsub b o v h), fun b o v h => ?_⟩, G4 k1.rel hnew hz k2⟩
 ·simp [s00, Trie.get] at h
 ·have h' : (if w.heap.size ≤ b then (match w'.heap[b]? with
   | some (.cells c _ _) => c[o]?
   | _ => none) else φ'.z b o) = some v := h
  split at h'
  ·split at h'
   ·rename_i c e fr hw; exact ⟨c, e, fr, hw, h'⟩
   ·cases h'
  ·exact k1.rel.frz b o v h'
 ·exact k1.own id B h1 h2 h3
 ·rcases hz' b o v h with h | h
  ·exact .inl h
  ·exact .inr (.inl h)
theorem KR {t need : Nat} {cs : List AV} (he : 1 ≤ esz) (hb : 2 * need * bytes ≤ 281474976710656) (hn : need < 9223372036854775808) : grow s t esz bytes cs need = some (.sl s.next 0 need (.opn esz), s.alloc (.row t cs true false)) := by
 simp only [grow]; rw [show ze (zb (zb 2 need) bytes) 281474976710656 = true from xN.2 hb, show ze 1 esz = true from xN.2 he, show Nat.blt need 9223372036854775808 = true from wb.2 hn]; rfl
theorem gw {a b c : List AV} {off n : Nat} (h1 : a.length = off) (h2 : b.length = n) : wC n (wP off (a ++ (b ++ c))) = some b := by
 rw [vl, ← h1, List.drop_left]; exact jc h2
theorem ja {a b c v : List AV} {off : Nat} (h1 : a.length = off) (h2 : v.length = b.length) : vr (a ++ (b ++ c)) off v = some (a ++ (v ++ c)) := by
 subst h1
 induction a with
 | nil =>
  show vr (b ++ c) 0 v = some (v ++ c); have over_ok : ∀ (v b c : List AV), v.length = b.length → Qe (b ++ c) v = some (v ++ c) := by
   intro v
   induction v with
   | nil => intro b c h; cases b with
    | nil => cases c <;> rfl
    | cons _ _ => simp at h
   | cons x v ih => intro b c h; cases b with
    | nil => simp at h
    | cons y b => simp only [y9, Qe, ih b c (by simpa using h)]
  cases h : b ++ c with
  | nil => rw [← over_ok v b c h2, h]; rfl
  | cons x r => rw [← over_ok v b c h2, h]; rfl
 | cons x a ih => simp only [y9, y8, vr, ih]
section
variable {l : List (Nat × Option AObj)} {n m t esz bytes id k q : Nat} {b : Bool} {hd : List (Nat × Nat)} {on : Option (Nat × List Nat)} {y : AV} {old new : List AV}
theorem zzu (h1 : uO y = some (q + 1)) (h2 : w6 (KL l n m b hd on) esz (q + 1) y = some new) (hm : b = false ∨ xK new = false) (he : 1 ≤ esz) (hb : 2 * (q + 1) * bytes ≤ 281474976710656) (hn : q < 1000000000000) :
  jg (KL l n m b hd on) t esz bytes .nils y = some (.sl n 0 (q + 1) (.opn esz), KL ((n, some (.row t new true false)) :: l) (n + 1) m b hd on) := by
 have hz : (b && xK new) = false := by rcases hm with rfl | h <;> simp [*]
 simp only [jg, h1, h2, ZW, UL, hz, cond_false]; rw [KR he hb oM]; rfl
theorem UO (hg : (KL l n m b hd on).get id = some (.row t old true false)) (hk : old.length = k * esz) (h1 : uO y = some (q + 1)) (h2 : w6 (KL l n m b hd on) esz (q + 1) y = some new) (hs : xT new = true) (he : 1 ≤ esz) (hb : 2 * (k + (q + 1)) * bytes ≤ 281474976710656) (hn : k + q < 1000000000000) :
  jg (KL l n m b hd on) t esz bytes (.sl id 0 k (.opn esz)) y = some (.sl n 0 (k + (q + 1)) (.opn esz), KL ((n, some (.row t (old ++ new) true false)) :: (id, none) :: l) (n + 1) (jW m id) b hd on) := by
 have hle : ze (zc 0 (zb (zc k (Nat.succ q)) esz)) (wZ old) = false := by
  rw [wV, hk]; cases h : ze (zc 0 (zb (zc k (Nat.succ q)) esz)) (k * esz) with
  | false => rfl
  | true =>
   exfalso
   have h2 := xN.1 h; have h3 : 0 + (k + (q + 1)) * esz ≤ k * esz := h2; rw [Nat.add_mul] at h3; have : 1 ≤ (q + 1) * esz := Nat.mul_pos oM oM; omega
 have hc : cut old 0 (zb k esz) = some old := by
  rw [Kl, show zb k esz = old.length from hk.symm]; exact uh rfl
 simp only [jg, h1, h2, ZW, hg, xG.2 (rfl : esz = esz), xG.2 (rfl : t = t), Bool.not_false, Bool.and_true, xb, cond_true, hle, cond_false, hs, hc, zvj]; rw [show zc k (Nat.succ q) = k + (q + 1) from rfl, KR he hb oM]; rfl
end
theorem Yl {j e q : Nat} {c : Cap} {x f : Bool} {cs : List AV} (hg : s.get id = some (.row e cs x f)) (hl : cs.length = q * esz) : uO (.sl id 0 q c) = some q ∧ w6 s esz q (.sl id 0 q c) = some cs := by
 refine ⟨rfl, ?_⟩; simp only [w6, hg, Kl, show zb q esz = cs.length from hl.symm]; exact uh rfl
theorem QF {L : List (Nat × Option AObj)} {n m t e esz bytes : Nat} {cs : List AV} {x f : Bool} (hl : cs.length = esz) (he : 1 ≤ esz) (hb : 2 * bytes ≤ 281474976710656) :
  jg (KL ((n, some (.row e cs x f)) :: L) (n + 1) m false [] none) t esz bytes .nils (.sl n 0 1 (.fix 1)) = some (.sl (n + 1) 0 1 (.opn esz), KL ((n + 1, some (.row t cs true false)) :: (n, some (.row e cs x f)) :: L) (n + 1 + 1) m false [] none) := by
 have hg : (KL ((n, some (.row e cs x f)) :: L) (n + 1) m false [] none).get n = some (.row e cs x f) := by rw [qc, xi, if_pos rfl]
 exact zzu (q := 0) rfl (Yl (j := 0) hg oM).2 (.inl rfl) he oM oM
theorem J1 {L : List (Nat × Option AObj)} {n m t e esz bytes id k : Nat} {b : Bool} {old cs : List AV} {x f : Bool} (hid : id < n) (hg : xx L id = some (.row t old true false)) (hk : old.length = k * esz) (hl : cs.length = esz) (he : 1 ≤ esz) (hs : xT cs = true) (hb : 2 * (k + 1) * bytes ≤ 281474976710656) (hn : k < 1000000000000) :
  jg (KL ((n, some (.row e cs x f)) :: L) (n + 1) m b [] none) t esz bytes (.sl id 0 k (.opn esz)) (.sl n 0 1 (.fix 1)) = some (.sl (n + 1) 0 (k + 1) (.opn esz), KL ((n + 1, some (.row t (old ++ cs) true false)) :: (id, none) :: (n, some (.row e cs x f)) :: L) (n + 1 + 1) (jW m id) b [] none) := by
 have hg1 : (KL ((n, some (.row e cs x f)) :: L) (n + 1) m b [] none).get n = some (.row e cs x f) := by rw [qc, xi, if_pos rfl]
 have hg2 : (KL ((n, some (.row e cs x f)) :: L) (n + 1) m b [] none).get id = some (.row t old true false) := by rw [qc, xi, if_neg oM]; exact hg
 exact UO (q := 0) hg2 hk rfl (Yl (j := 0) hg1 oM).2 hs he oM oM
theorem zoB (l : List (Nat × Option AObj)) (n m : Nat) (hd : List (Nat × Nat)) (on : Option (Nat × List Nat)) (e len : Nat) (cs : List AV) : Xg (KL l n m false hd on) e len (some cs) = some (.sl n 0 len (.fix len), KL ((n, some (.row e cs false false)) :: l) (n + 1) m false hd on) := rfl
attribute [go_sem] zoB
theorem ltF {i j : Nat} (h : i < j) : (i = j) = False := eq_false oM
theorem gtF {i j : Nat} (h : j < i) : (i = j) = False := eq_false oM
theorem wz {m i n : Nat} (h : n ≤ i) : (m ||| 1 <<< i) % 2 ^ n = m % 2 ^ n := by
 apply Nat.eq_of_testBit_eq; intro j; simp only [zmt, Nat.testBit_or, zmu]; by_cases hj : j < n
 ·have : ¬ i ≤ j := oM; simp [hj, this]
 ·simp [hj]
theorem wg {i : Nat} (h : n ≤ i) : (1 <<< i) % 2 ^ n = 0 := by
 have := @wz 0 i n h
 simpa using this
def QA {α : Type} (f : α → List AV) (esz id : Nat) (vs : List α) : AV := match vs with
 | [] => .nils
 | _ :: _ => .gr id esz vs.length (xz f vs)
def zvg {α : Type} (t : Nat) (f : α → List AV) (L : List (Nat × Option AObj)) (n id : Nat) (vs : List α) : Prop := vs ≠ [] → id < n ∧ xx L id = some (.app t (xz f vs))
theorem Hd {t need : Nat} {cs : List AV} (he : 1 ≤ esz) (hb : 2 * need * bytes ≤ 281474976710656) (hn : need < 9223372036854775808) (hp : xK cs = true) : hW s t esz bytes cs need = some (.gr s.next esz need cs, s.alloc (.app t cs)) := by
 simp only [hW]; rw [show ze (zb (zb 2 need) bytes) 281474976710656 = true from xN.2 hb, show ze 1 esz = true from xN.2 he, show Nat.blt need 9223372036854775808 = true from wb.2 hn, hp]; rfl
theorem kP {α : Type} {f : α → List AV} (h : ∀ x, xT (f x) = true) : ∀ l : List α, xT (xz f l) = true
 | [] => rfl
 | x :: r => by
  have ap : ∀ a b : List AV, xT a = true → xT b = true → xT (a ++ b) = true := by
   intro a
   induction a with
   | nil => intro b _ h; exact h
   | cons v a ih =>
    intro b h1 h2; simp only [y9, kr, Bool.and_eq_true] at h1 ⊢; exact ⟨h1.1, ih b h1.2 h2⟩
  exact ap _ _ (h x) (kP h r)
theorem J3 {α : Type} {f : α → List AV} {t : Nat} (hl : ∀ x, (f x).length = esz) (hp : ∀ x, xK (f x) = true) (hs : ∀ x, xT (f x) = true) (he : 1 ≤ esz) {L : List (Nat × Option AObj)} {m : Nat} {vs ws : List α} {e : Bool} (h : zvg t f L n id vs) (hb : 2 * (vs.length + ws.length) * bytes ≤ 281474976710656) (hn : vs.length + ws.length < 1000000000000) :
  Cv (jg (KL L n m true [] none) t esz bytes (QA f esz id vs) (.lst ws.length e (xz f ws))) fun v s => ∃ id' L' n' m', v = QA f esz id' (vs ++ ws) ∧ s = KL L' n' m' true [] none ∧ zvg t f L' n' id' (vs ++ ws) ∧ n ≤ n' ∧ (id' = id ∨ n ≤ id') ∧ (∀ j, j < n → (vs ≠ [] → j ≠ id) → xx L' j = xx L j) := by
 cases ws with
 | nil =>
  refine ⟨QA f esz id vs, KL L n m true [] none, ?_, id, L, n, m, by rw [List.append_nil], rfl, by rw [List.append_nil]; exact h, zp _, .inl rfl, fun _ _ _ => rfl⟩
  cases vs <;> rfl
 | cons w ws =>
  have h2 : w6 (KL L n m true [] none) esz (ws.length + 1) (.lst (w :: ws).length e (xz f (w :: ws))) = some (xz f (w :: ws)) := by
   simp only [w6]; rw [show zb (ws.length + 1) esz = (xz f (w :: ws)).length from (qb hl (w :: ws)).symm]; exact uh rfl
  cases vs with
  | nil =>
   refine ⟨.gr n esz (ws.length + 1) (xz f (w :: ws)), KL ((n, some (.app t (xz f (w :: ws)))) :: L) (n + 1) m true [] none, ?_, n, _, _, _, rfl, rfl, fun _ => ⟨yx _, by rw [xi, if_pos rfl]; rfl⟩, Nat.le_succ _, .inr (zp _), fun j hj _ => by rw [xi, if_neg oM]⟩
   simp only [List.length_nil, y8] at hb hn; simp only [jg, QA, y8, lW]; simp only [y8] at h2; simp only [h2, ZW, UL, qr hp, xb, cond_true]; rw [Hd he (by simpa using hb) oM (qr hp _)]; rfl
  | cons u us =>
   obtain ⟨hid, hg⟩ := h (by simp)
   refine ⟨.gr n esz ((us.length + 1) + (ws.length + 1)) (xz f (u :: us) ++ xz f (w :: ws)), KL ((n, some (.app t (xz f (u :: us) ++ xz f (w :: ws)))) :: (id, none) :: L) (n + 1) (jW m id) true [] none, ?_, n, _, _, _, ?_, rfl, fun _ => ⟨yx _, by rw [xi, if_pos rfl, xY]⟩, Nat.le_succ _, .inr (zp _), fun j hj hne => by rw [xi, if_neg oM, xi, if_neg (hne (by simp))]⟩
   ·simp only [y8] at hb hn; simp only [jg, QA, y8, lW]; simp only [y8] at h2; simp only [h2, ZW, qc, hg, xG.2 (rfl : esz = esz), xG.2 (rfl : t = t), xG.2 (rfl : wZ (xz f (u :: us)) = wZ (xz f (u :: us))), kP hs, xb, cond_true, zvj]; rw [show zc (us.length + 1) (Nat.succ ws.length) = (us.length + 1) + (ws.length + 1) from rfl, Hd he hb oM (by rw [vD, qr hp, qr hp]; rfl)]; rfl
   ·simp only [QA, y9, List.length_append, y8]; rw [← y9, xY]
    congr 1; omega
theorem zr8 {α : Type} {f : α → List AV} (hp : ∀ x, xK (f x) = true) (hw : ∀ x, wkL (f x) = f x) (vs : List α) : ∃ v0, lH 0 (QA f esz id vs) = some v0 ∧ Fz s v0 (.lst vs.length false (xz f vs)) := by
 cases vs with
 | nil => exact ⟨.nils, rfl, by simp only [Fz, wkV, xz, xU, true_and, List.length_nil]; exact .inl trivial⟩
 | cons v vs =>
  refine ⟨.lst (v :: vs).length false (xz f (v :: vs)), ?_, ?_⟩
  ·simp only [QA, lH, Y4, lG, show ze 0 id = true from xN.2 (Nat.zero_le _), cond_true]
  ·simp only [Fz, wkV, hU hw, qr hp, true_and]; exact .inl trivial
section
variable {L : List (Nat × Option AObj)} {n m t e esz bytes id k : Nat} {b : Bool} {old cs : List AV} {x f : Bool}
theorem J0 (hl : cs.length = esz) (he : 1 ≤ esz) (hb : 2 * bytes ≤ 281474976710656) :
  jg (KL ((n, some (.row e cs x f)) :: L) (n + 1) m false [] (some (n + 1, [n]))) t esz bytes .nils (.sl n 0 1 (.fix 1)) = some (.sl (n + 1) 0 1 (.opn esz), KL ((n + 1, some (.row t cs true false)) :: (n, some (.row e cs x f)) :: L) (n + 1 + 1) m false [] (some (n + 1, [n]))) := by
 have hg : (KL ((n, some (.row e cs x f)) :: L) (n + 1) m false [] (some (n + 1, [n]))).get n = some (.row e cs x f) := by
  rw [Qi]; simp only [hid, cond_false, ph, xG.2 (rfl : n = n), cond_true, xi, if_true]; cases ze (n + 1) n <;> rfl
 exact zzu (q := 0) rfl (Yl (j := 0) hg oM).2 (.inl rfl) he oM oM
theorem J2 (hid' : id < n) (hg : xx L id = some (.row t old true false)) (hk : old.length = k * esz) (hl : cs.length = esz) (he : 1 ≤ esz) (hs : xT cs = true) (hb : 2 * (k + 1) * bytes ≤ 281474976710656) (hn : k < 1000000000000) :
  jg (KL ((n, some (.row e cs x f)) :: L) (n + 1) m b [] (some (n + 1, [id, n]))) t esz bytes (.sl id 0 k (.opn esz)) (.sl n 0 1 (.fix 1)) = some (.sl (n + 1) 0 (k + 1) (.opn esz), KL ((n + 1, some (.row t (old ++ cs) true false)) :: (id, none) :: (n, some (.row e cs x f)) :: L) (n + 1 + 1) (jW m id) b [] (some (n + 1, [id, n]))) := by
 have hm : ∀ j, j = id ∨ j = n → ph j [id, n] = true := fun j h => VL.2 (by rcases h with rfl | rfl <;> simp)
 have hg1 : (KL ((n, some (.row e cs x f)) :: L) (n + 1) m b [] (some (n + 1, [id, n]))).get n = some (.row e cs x f) := by
  rw [Qi]; simp only [hid, cond_false, hm n (.inr rfl), cond_true, xi, if_true]; cases ze (n + 1) n <;> rfl
 have hg2 : (KL ((n, some (.row e cs x f)) :: L) (n + 1) m b [] (some (n + 1, [id, n]))).get id = some (.row t old true false) := by
  rw [Qi]; simp only [hid, cond_false, hm id (.inl rfl), cond_true, xi, if_neg (show ¬ id = n by omega), hg]
  cases ze (n + 1) id <;> rfl
 exact UO (q := 0) hg2 hk rfl (Yl (j := 0) hg1 oM).2 hs he oM oM
end
theorem zoU {i j : Nat} : ((1 <<< i) % 2 ^ n).testBit j = (decide (j < n) && decide (i = j)) := by
 rw [zmt, zmu]; by_cases h : i = j
 ·subst h; simp
 ·by_cases h2 : i ≤ j
  ·have : j - i ≠ 0 := oM; have h3 : Nat.testBit 1 (j - i) = false := by
    cases hb : Nat.testBit 1 (j - i) with
    | false => rfl
    | true => rw [Nat.testBit_one_eq_true_iff_self_eq_zero] at hb; omega
   simp [h, h3]
  ·simp [h, h2]
mutual
theorem Fz.mono {s s' : St} (h : ∀ j o, s.get j = some o → s'.get j = some o) : ∀ {v w : AV}, Fz s v w → Fz s' v w
 | v, .lst n ex cs, hf => by
  simp only [Fz] at hf ⊢; obtain ⟨hp, hf | ⟨h1, id, off, c, e, cells, x, f, us, h2, h3, h4, h5, h6⟩⟩ := hf
  ·exact ⟨hp, .inl hf⟩
  ·exact ⟨hp, .inr ⟨h1, id, off, c, e, cells, x, f, us, h2, h3, h _ _ h4, h5, FzL.mono h h6⟩⟩
 | v, .agg cs, hf => by simp only [Fz] at hf ⊢; obtain ⟨us, h1, h2⟩ := hf; exact ⟨us, h1, FzL.mono h h2⟩
 | v, .tup cs, hf => by simp only [Fz] at hf ⊢; obtain ⟨us, h1, h2⟩ := hf; exact ⟨us, h1, FzL.mono h h2⟩
 | v, .bool _, hf => by simpa only [Fz] using hf
 | v, .int _ _, hf => by simpa only [Fz] using hf
 | v, .str _, hf => by simpa only [Fz] using hf
 | v, .ptr _ _, hf => by simpa only [Fz] using hf
 | v, .nilp, hf => by simpa only [Fz] using hf
 | v, .gptr _ _, hf => by simpa only [Fz] using hf
 | v, .sl _ _ _ _, hf => by simpa only [Fz] using hf
 | v, .sl0, hf => by simpa only [Fz] using hf
 | v, .nils, hf => by simpa only [Fz] using hf
 | v, .map _, hf => by simpa only [Fz] using hf
 | v, .nilm, hf => by simpa only [Fz] using hf
 | v, .fn _ _ _, hf => by simpa only [Fz] using hf
 | v, .nilf, hf => by simpa only [Fz] using hf
 | v, .yld _, hf => by simpa only [Fz] using hf
 | v, .ifc _ _, hf => by simpa only [Fz] using hf
 | v, .nili, hf => by simpa only [Fz] using hf
 | v, .gr _ _ _ _, hf => by simpa only [Fz] using hf
 | v, .vp _, hf => by simpa only [Fz] using hf
theorem FzL.mono {s s' : St} (h : ∀ j o, s.get j = some o → s'.get j = some o) : ∀ {us ws : List AV}, FzL s us ws → FzL s' us ws
 | us, [], hf => by simpa only [FzL] using hf
 | us, w :: ws, hf => by
  simp only [FzL] at hf ⊢; obtain ⟨u, us', h1, h2, h3⟩ := hf; exact ⟨u, us', h1, Fz.mono h h2, FzL.mono h h3⟩
end
theorem zqy {l : List (Nat × Option AObj)} {n m e bytes C : Nat} {b : Bool} {hd : List (Nat × Nat)} {on : Option (Nat × List Nat)} {zs : List AV} (h : C * bytes ≤ 281474976710656) (h2 : C < 9223372036854775808) : UD (KL l n m b hd on) e bytes zs (.int .i64 (.ofNat C)) (.int .i64 (.ofNat C)) = some (.sl n 0 C (.fix C), KL ((n, some (.row e (reps C zs) false false)) :: l) (n + 1) m b hd on) := by
 simp only [UD]; rw [show ze C C = true from xN.2 (zp _), show ze (zb C bytes) 281474976710656 = true from xN.2 h, show Nat.blt C 9223372036854775808 = true from wb.2 h2]; rfl
theorem ue {i j : Nat} (h : i < j ∨ j < i) : (1 <<< i) % 2 ^ n / 2 ^ j % 2 = 0 := by
 have h1 : ((1 <<< i) % 2 ^ n).testBit j = false := by
  rw [zoU]; have : i ≠ j := oM; simp [this]
 rw [WU] at h1; simp only [Bool.not_eq_false'] at h1; exact xG.1 h1
end Go.Proofs.YtionbncghjdeoaaGreatDoor.Ev

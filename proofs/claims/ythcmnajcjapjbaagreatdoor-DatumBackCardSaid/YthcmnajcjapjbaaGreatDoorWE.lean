/- Contracts of functions that DatumBack calls: what a call answers, for all data, by symbolic evaluation. No conditions of its own. -/
import Derived.Test.YthcmnajcjapjbaaGreatDoorWD
import Derived.Test.YthcmnajcjapjbaaGreatDoorWC
import Derived.Test.YthcmnajcjapjbaaGreatDoorWA
import Derived.Test.YthcmnajcjapjbaaGreatDoorWB
import Derived.Test.YthcmnajcjapjbaaGreatDoorEvG
import Derived.ChangeArms
import Derived.Lib.AtoiErrMem
set_option linter.unusedSimpArgs false
set_option linter.unusedVariables false
set_option linter.defProp false
set_option maxHeartbeats 4000000
open List renaming length_cons → yY, length_append → ye, nil_append → znO, length_map → zn0, length_nil → yX, append_nil → xi, append_assoc → znY, cons_append → y8, length → yB, drop_drop → z4, drop_left → zn8, mem_of_mem_drop → znS, map_drop → zn9
open List.cons renaming injEq → yZ
open Nat renaming zero_add → yx, zero_le → zN
namespace Go.Proofs.YthcmnajcjapjbaaGreatDoor.Ev
variable {P : Program} {w0 w : World} {E : Env} {O : Orc} {v : AV} {b : List Nat} {ts : List Tok} {d : DT} {n : Nat} {t : TypeId}
open T
set_option maxRecDepth 100000
theorem Wa {e e' : DT} (he : er e = er e') : ∀ {l l' : List DT}, erL l = erL l' → er (wP l e) = er (wP l' e')
 | [], [], _ => he
 | [], _ :: _, h => by simp [erL] at h
 | _ :: _, [], h => by simp [erL] at h
 | x :: l, y :: l', h => by
  simp only [erL, yZ] at h
  rw [q9, q9, kB, kB]
  simp only [er, erL, h.1, Wa he h.2]
theorem RdT.er {P : DT → Prop} (h : RdT P d) : er d = er (wP (xr d).1 (xr d).2) := by
 induction h with
 | @nil p => rw [w5 (by rfl)]; rfl
 | @cons x y p _ _ ih =>
  rw [wC (d := .mk (.ofNat 6) (.ofNat 0) [] [x, y] p) (x := x) (y := y) (uC _ _ _), q9, kB]
  simp only [Ev.er, erL, ih]
 | @dot e _ _ h3 => rw [Yc h3]; rfl
theorem ui {i : Nat} {k : Nat} {x : DT} {r : List (Nat × DT)} (h : (ts.drop i).map et = (k, x) :: r) : ∃ t, ts.drop i = t :: ts.drop (i + 1) ∧ t.kind = k ∧ er t.d = x ∧ (ts.drop (i + 1)).map et = r := by
 cases hd : ts.drop i with
 | nil => rw [hd] at h; cases h
 | cons t tr =>
  have h2 := wz hd
  rw [hd] at h
  simp only [List.map_cons, yZ, et, Prod.mk.injEq] at h
  exact ⟨t, by rw [h2], h.1.1, h.1.2, by rw [h2]; exact h.2⟩
theorem Uf (h : OkA d) (n : Nat) : ktN (n + 1) d = [lY d] := by
 obtain ⟨k, hk, h1, h2⟩ := h.kind
 show ktK (ktN n) d (xU d) = _
 rw [hk]
 unfold ktK
 rw [if_neg (fun e => by cases e; omega), if_neg (fun e => by cases e; omega), if_neg (fun e => by cases e; omega), if_neg (fun e => by cases e; omega)]
theorem Xs : ∀ {m n : Nat} {d : DT}, Rd m d → GoodD n d → ∃ k x r, ktN n d = (k, x) :: r ∧ k ≠ 2 ∧ k ≠ 6
 | m, 0, d, _, h => by
  have h1 := h.2.2
  have h2 := wh d
  unfold wtD at h1; omega
 | 0, n + 1, d, h, _ => ⟨7, er d, [], Uf h n, by decide, by decide⟩
 | m + 1, n + 1, d, h, _ => by
  rcases h with h | ⟨t, q, rfl, h⟩ | ⟨ks, q, rfl, h⟩ | ⟨h, hk⟩
  ·exact ⟨7, er d, [], Uf h n, by decide, by decide⟩
  ·exact ⟨5, d0, _, rfl, by decide, by decide⟩
  ·exact ⟨4, d0, _, rfl, by decide, by decide⟩
  ·rcases hk with hk | hk
   ·refine ⟨1, d0, [(2, d0)], ?_, by decide, by decide⟩
    show ktK (ktN n) d (xU d) = _
    rw [hk]; rfl
   ·refine ⟨1, d0, qm (ktN n) (xr d).1 ++ (endK (ktN n) (xr d).2 ++ [(2, d0)]), ?_, by decide, by decide⟩
    show ktK (ktN n) d (xU d) = _
    rw [hk]; rfl
def Xw (ts : List Tok) (rec : Rec) (d : DT) (ks : List (Nat × DT)) : Prop := ∀ (s : RS) (op : Nat) (rest : List (Nat × DT)), (ts.drop s.at_).map et = ks ++ rest → s.err = 0 → ∃ d', rec op s = (d', ⟨s.at_ + ks.length, 0, s.fp⟩) ∧ er d' = er d
theorem jM {ts : List Tok} {rec : Rec} {g : DT → List (Nat × DT)} (op : Nat) (dots : Bool) (ck : Nat) (x0 : DT) (hck : ck = 2 ∨ ck = 6 ∧ dots = true) : ∀ (l : List DT) (k : Nat) (acc : List DT) (s : RS) (rest : List (Nat × DT)), (∀ d ∈ l, Xw ts rec d (g d) ∧ ∃ k x r, g d = (k, x) :: r ∧ k ≠ 2 ∧ k ≠ 6) → (ck = 6 → acc ++ l ≠ []) →
  (ts.drop s.at_).map et = qm g l ++ (ck, x0) :: rest → s.err = 0 → l.length < k →
  ∃ l' t, xE rec ts op dots k acc s = (acc ++ l', t, ⟨s.at_ + (qm g l).length + 1, 0, s.fp⟩) ∧ erL l' = erL l ∧ t.kind = ck ∧ ts.drop (s.at_ + (qm g l).length) = t :: ts.drop (s.at_ + (qm g l).length + 1) ∧ (ts.drop (s.at_ + (qm g l).length + 1)).map et = rest
 | [], k, acc, s, rest, _, hne, h, he, hk => by
  cases k with
  | zero => omega
  | succ k =>
   obtain ⟨t, h1, h2, h3, h4⟩ := ui h
   refine ⟨[], t, ?_, rfl, h2, h1, h4⟩
   simp only [xE]
   rw [if_neg (by omega), h1]
   simp only
   rw [if_pos]
   ·simp only [RS.nx, he, xi]; rfl
   ·rcases hck with e | ⟨e, e2⟩
    ·exact .inl (h2.trans e)
    ·exact .inr ⟨h2.trans e, by simpa using hne e, e2⟩
 | d :: l, k, acc, s, rest, hl, hne, h, he, hk => by
  cases k with
  | zero => omega
  | succ k =>
   obtain ⟨hd, kk, xx, rr, hg, hg2, hg6⟩ := hl d (by simp)
   have h' : (ts.drop s.at_).map et = g d ++ (qm g l ++ (ck, x0) :: rest) := by rw [h]; simp only [qm, znY]
   obtain ⟨d', q1, q2⟩ := hd s op _ h' he
   have hnext : (ts.drop (s.at_ + (g d).length)).map et = qm g l ++ (ck, x0) :: rest := by
    rw [← z4, zn9, h', zn8]
   obtain ⟨l', t, g1, g2, g3, g4, g5⟩ := jM op dots ck x0 hck l k (acc ++ [d']) ⟨s.at_ + (g d).length, 0, s.fp⟩ rest (fun y hy => hl y (by simp [hy])) (fun _ => by simp) hnext rfl (by simp only [yY] at hk; omega)
   have hlen : s.at_ + (qm g (d :: l)).length = s.at_ + (g d).length + (qm g l).length := by simp only [qm, ye]; omega
   rw [hlen]
   refine ⟨d' :: l', t, ?_, by simp only [erL, q2, g2], g3, g4, g5⟩
   rw [hg] at h'
   obtain ⟨t1, h1, h2, _, _⟩ := ui h'
   simp only [xE]
   rw [if_neg (by omega), h1]
   simp only
   rw [if_neg (by rw [h2]; rintro (e | ⟨e, _⟩); exact hg2 e; exact hg6 e), q1]
   simp only
   rw [g1]
   simp
theorem zzB {t : Tok} {c : Nat} (hc : c < 256) (h : er t.d = er (gK c)) : pG t.d ∧ (qy (xV t.d)).1.toNat = c := by
 have key : ((List.range 256).all fun c => decide ((qy (v8 c)).2 = true) && decide ((qy (v8 c)).1 = .ofNat c)) = true := by decide +kernel
 have := List.all_eq_true.1 key c (List.mem_range.2 hc)
 simp only [Bool.and_eq_true, decide_eq_true_eq] at this
 have e1 : xU t.d = .ofNat 2 := by rw [← Zj, h]; rfl
 have e2 : xV t.d = v8 c := by rw [← Xk, h]; rfl
 refine ⟨⟨e1, by rw [e2]; exact this.1, ?_, ?_⟩, ?_⟩
 ·rw [e2, this.2]; exact Int.natCast_nonneg c
 ·rw [e2, this.2]; show (c : Int) ≤ 255; omega
 ·rw [e2, this.2]; rfl
theorem XL {ts : List Tok} (op : Nat) : ∀ (l : List Nat) (k : Nat) (out : List Nat) (s : RS) (rest : List (Nat × DT)), Byt l → (ts.drop s.at_).map et = (qD l).map lY ++ (2, d0) :: rest → s.err = 0 → l.length < k →
  qP ts op k out s = (.mk (.ofNat 8) (.ofNat 0) (out ++ l) [] (.ofNat op), ⟨s.at_ + l.length + 1, 0, s.fp⟩)
 | [], k, out, s, rest, _, h, he, hk => by
  cases k with
  | zero => omega
  | succ k =>
   obtain ⟨t, h1, h2, h3, h4⟩ := ui h
   simp only [qP]
   rw [h1]
   simp only
   rw [if_pos h2]
   simp only [RS.nx, he, xi]; rfl
 | c :: l, k, out, s, rest, hb, h, he, hk => by
  cases k with
  | zero => omega
  | succ k =>
   have hc : c < 256 := hb c (by simp)
   have h' : (ts.drop s.at_).map et = (7, er (gK c)) :: ((qD l).map lY ++ (2, d0) :: rest) := h
   obtain ⟨t, h1, h2, h3, h4⟩ := ui h'
   obtain ⟨b1, b2⟩ := zzB hc h3
   simp only [qP]
   rw [h1]
   simp only
   rw [if_neg (by omega), if_pos ⟨h2, b1⟩, b2]
   have e : s.nx.at_ = s.at_ + 1 := rfl
   rw [XL op l k (out ++ [c]) s.nx rest (fun x hx => hb x (by simp [hx])) (by rw [e]; exact h4) he (by simp only [yY] at hk; omega)]
   simp only [e, znY, y8, znO, yY]
   congr 2
   omega
theorem Zn {g : DT → List (Nat × DT)} : ∀ {l : List DT}, (∀ d ∈ l, ∃ k x r, g d = (k, x) :: r ∧ k ≠ 2 ∧ k ≠ 6) → l.length ≤ (qm g l).length
 | [], _ => Nat.le_refl _
 | d :: l, h => by
  obtain ⟨k, x, r, e, _⟩ := h d (by simp)
  have := Zn (l := l) fun y hy => h y (by simp [hy])
  simp only [qm, e, yY, ye]; omega
theorem UO {i : Nat} {l : List (Nat × DT)} (h : (ts.drop i).map et = l) : l.length ≤ ts.length := by
 have := congrArg yB h
 rw [zn0, List.length_drop] at this
 omega
theorem QN (h : OkA d) (n : Nat) (rec : Rec) (full : Bool) : Xw ts (datG rec full ts) d (ktN (n + 1) d) := fun s op rest hs he => by
 rw [Uf h n] at hs ⊢
 obtain ⟨t, h1, h2, h3, h4⟩ := ui (k := 7) (x := er d) hs
 refine ⟨t.d, ?_, h3⟩
 unfold datG
 rw [h1]
 simp only
 unfold wO
 rw [if_pos h2]
 simp only [RS.nx, he]; rfl
theorem gX (ts : List Tok) : ∀ (n m : Nat) (d : DT), Rd m d → GoodD n d → Xw ts (datF m ts) d (ktN n d)
 | 0, _, d, _, h => by
  have h1 := h.2.2
  have h2 := wh d
  unfold wtD at h1; omega
 | n + 1, 0, d, h, _ => QN h n _ _
 | n + 1, m + 1, d, h, hg => by
  rcases h with h | ⟨t, q, rfl, h⟩ | ⟨ks, q, rfl, h⟩ | ⟨h, hk⟩
  ·exact QN h n _ _
  ·intro s op rest hs he
   have e2 : ktN (n + 1) (.mk (.ofNat 8) (.ofNat 0) t [] q) = (5, d0) :: ((qD t).map lY ++ [(2, d0)]) := rfl
   rw [e2] at hs ⊢
   have hml := UO hs
   obtain ⟨t1, h1, h2, h3, h4⟩ := ui (k := 5) (x := d0) hs
   have e : s.nx.at_ = s.at_ + 1 := rfl
   have hln : (qD t).length = t.length := zn0 _
   simp only [ye, yY, zn0, hln] at hml
   have hby := XL (ts := ts) t1.pos t (ts.length + 1) [] s.nx rest h.1 (by rw [e]; rw [show List.drop (s.at_ + 1) ts = ts.drop (s.at_ + 1) from rfl, h4]; simp) he (by omega)
   refine ⟨.mk (.ofNat 8) (.ofNat 0) t [] (.ofNat t1.pos), ?_, rfl⟩
   show datG (datF m ts) false ts op s = _
   unfold datG
   rw [h1]
   simp only
   unfold wO
   rw [if_neg (by omega), if_neg (by omega), if_neg (by decide), if_neg (by omega), if_neg (by omega), if_neg (by omega)]
   unfold byF
   rw [hby]
   simp only [znO, e, yY, ye, zn0, hln, yX]
   congr 2
   omega
  ·intro s op rest hs he
   have e2 : ktN (n + 1) (.mk (.ofNat 7) (.ofNat 0) [] ks q) = (4, d0) :: (qm (ktN n) ks ++ [(2, d0)]) := rfl
   have hgk := hg.kids rfl
   have hall : ∀ x ∈ ks, Xw ts (datF m ts) x (ktN n x) ∧ ∃ k y r, ktN n x = (k, y) :: r ∧ k ≠ 2 ∧ k ≠ 6 := fun x hx => ⟨gX ts n m x (h x hx) (hgk x hx), Xs (h x hx) (hgk x hx)⟩
   have hfl := Zn fun x hx => (hall x hx).2
   rw [e2] at hs ⊢
   have hml := UO hs
   simp only [ye, yY] at hml
   obtain ⟨t1, h1, h2, h3, h4⟩ := ui (k := 4) (x := d0) hs
   have e : s.nx.at_ = s.at_ + 1 := rfl
   obtain ⟨l', t, g1, g2, g3, g4, g5⟩ := jM (ts := ts) (rec := datF m ts) t1.pos false 2 d0 (.inl rfl) ks (ts.length + 3) [] s.nx rest hall (fun e => by cases e) (by rw [e, h4]; simp) he (by omega)
   refine ⟨.mk (.ofNat 7) (.ofNat 0) [] l' (.ofNat t1.pos), ?_, by simp only [Ev.er, g2]⟩
   show datG (datF m ts) false ts op s = _
   unfold datG
   rw [h1]
   simp only
   unfold wO
   rw [if_neg (by omega), if_neg (by omega), if_neg (by decide), if_neg (by omega), if_neg (by omega), if_pos h2]
   unfold vecF itF
   rw [g1]
   simp only [znO, e, yY, ye, yX]
   congr 2
   omega
  ·have hdr := h.er
   rcases hk with hk | hk
   ·cases h with
    | @nil p =>
     intro s op rest hs he
     obtain ⟨t1, h1, h2, h3, h4⟩ := ui (k := 1) (x := d0) (r := (2, d0) :: rest) hs
     obtain ⟨t2, k1, k2, k3, k4⟩ := ui h4
     have e : s.nx.at_ = s.at_ + 1 := rfl
     obtain ⟨l', t, g1, g2, g3, g4, g5⟩ := jM (ts := ts) (rec := datF m ts) (g := ktN n) t1.pos true 2 d0 (.inl rfl) [] (ts.length + 3) [] s.nx rest (fun x hx => by cases hx) (fun e => by cases e) (by rw [e]; exact h4) he (by simp)
     have hl0 : l' = [] := by
      cases l' with
      | nil => rfl
      | cons x l' => simp [erL] at g2
     subst hl0
     refine ⟨atD (wP [] (vA (.ofNat t.pos))) (.ofNat t1.pos), ?_, by rw [Hz]; rfl⟩
     show datG (datF m ts) false ts op s = _
     unfold datG
     rw [h1]
     simp only
     unfold wO
     rw [if_neg (by omega), if_neg (by omega), if_neg (by decide), if_neg (by omega), if_pos h2]
     unfold itF
     rw [g1]
     unfold lf
     simp only
     rw [if_neg (by omega)]
     simp only [znO, e, qm, yX]
     rfl
    | cons _ _ => cases hk
    | dot _ h2 _ => exact absurd hk h2
   ·intro s op rest hs he
    obtain ⟨i1, i2, _, _⟩ := hg.items hk
    obtain ⟨r1, r2⟩ := h.items
    have e2 : ktN (n + 1) d = (1, d0) :: (qm (ktN n) (xr d).1 ++ (endK (ktN n) (xr d).2 ++ [(2, d0)])) := by
     show ktK (ktN n) d (xU d) = _
     rw [hk]; rfl
    have hall : ∀ x ∈ (xr d).1, Xw ts (datF m ts) x (ktN n x) ∧ ∃ k y r, ktN n x = (k, y) :: r ∧ k ≠ 2 ∧ k ≠ 6 := fun x hx => ⟨gX ts n m x (r1 x hx) (i1 x hx), Xs (r1 x hx) (i1 x hx)⟩
    have hfl := Zn fun x hx => (hall x hx).2
    rw [e2] at hs ⊢
    have hml := UO hs
    simp only [ye, yY] at hml
    obtain ⟨t1, h1, h2, h3, h4⟩ := ui (k := 1) (x := d0) hs
    have e : s.nx.at_ = s.at_ + 1 := rfl
    have hne : (xr d).1 ≠ [] := by
     cases h with
     | nil => cases hk
     | @cons x y p _ _ =>
      rw [wC (d := .mk (.ofNat 6) (.ofNat 0) [] [x, y] p) (x := x) (y := y) (uC _ _ _)]
      simp
     | dot _ _ h3 => exact absurd hk h3
    have go : ∀ x, datG (datF m ts) false ts op s = x ↔ lf (datF m ts) ts t1.pos (itF (datF m ts) ts t1.pos true s.nx) = x := fun x => by
     unfold datG
     rw [h1]
     simp only
     unfold wO
     rw [if_neg (by omega), if_neg (by omega), if_neg (by decide), if_neg (by omega), if_pos h2]
    by_cases hk0 : xU (xr d).2 = .ofNat 0
    ·have hend : endK (ktN n) (xr d).2 = [] := if_pos hk0
     obtain ⟨q, e3⟩ : ∃ q, (xr d).2 = .mk (.ofNat 0) (.ofNat 0) [] [] q := by
      rcases r2 with r2 | ⟨_, r2, _⟩
      ·exact r2
      ·exact absurd hk0 r2
     rw [hend, znO] at h4 ⊢
     obtain ⟨l', t, g1, g2, g3, g4, g5⟩ := jM (ts := ts) (rec := datF m ts) t1.pos true 2 d0 (.inl rfl) (xr d).1 (ts.length + 3) [] s.nx rest hall (fun e => by cases e) (by rw [e, h4]; simp) he (by omega)
     refine ⟨atD (wP l' (vA (.ofNat t.pos))) (.ofNat t1.pos), (go _).2 ?_, ?_⟩
     ·unfold itF
      rw [g1]
      unfold lf
      simp only
      rw [if_neg (by omega)]
      simp only [znO, e, yY, ye, yX]
      congr 2
      omega
     ·rw [Hz, hdr]
      exact Wa (by rw [e3]; rfl) g2
    ·have hend : endK (ktN n) (xr d).2 = (6, d0) :: ktN n (xr d).2 := if_neg hk0
     have r3 : Rd m (xr d).2 := by
      rcases r2 with ⟨q, e3⟩ | ⟨r2, _⟩
      ·exact absurd (by rw [e3]; rfl) hk0
      ·exact r2
     rw [hend] at h4 ⊢
     obtain ⟨l', t, g1, g2, g3, g4, g5⟩ := jM (ts := ts) (rec := datF m ts) t1.pos true 6 d0 (.inr ⟨rfl, rfl⟩) (xr d).1 (ts.length + 3) [] s.nx (ktN n (xr d).2 ++ (2, d0) :: rest) hall (fun _ => by simpa using hne) (by rw [e, h4]; simp) he (by omega)
     obtain ⟨e', f1, f2⟩ := gX ts n m _ r3 i2 ⟨s.nx.at_ + (qm (ktN n) (xr d).1).length + 1, 0, s.nx.fp⟩ t1.pos ((2, d0) :: rest) g5 rfl
     have hlast : (ts.drop (s.nx.at_ + (qm (ktN n) (xr d).1).length + 1 + (ktN n (xr d).2).length)).map et = (2, d0) :: rest := by
      rw [← z4, zn9, g5, zn8]
     obtain ⟨t3, j1, j2, _, _⟩ := ui hlast
     refine ⟨atD (wP l' e') (.ofNat t1.pos), (go _).2 ?_, ?_⟩
     ·unfold itF
      rw [g1]
      unfold lf
      simp only
      rw [if_pos g3, f1]
      simp only
      unfold vY
      simp only
      rw [j1]
      simp only
      rw [if_pos j2]
      simp only [znO, RS.nx, yY, ye, yX]
      congr 2
      omega
     ·rw [Hz, hdr]
      exact Wa f2 g2
theorem DelimR.nil : DelimR [] := .inl rfl
theorem zts (hr : Rd 200 d) (hg : GoodD n d) (hb : Byt (txN false n d)) (hl : (txN false n d).length < 100000) : ∃ d', v3 (txN false n d) = ([d'], (0, 0)) ∧ er d' = er d := by
 have hlx := Zt hb n 200 d 0 [] hr hg (by simp) DelimR.nil []
 obtain ⟨ts, h1, h2⟩ := hlx
 rw [yx, znO, Kx] at h2
 have e : lexS (txN false n d) = (ts, (0, 0)) := h2
 obtain ⟨k, x, r, hh, _⟩ := Xs hr hg
 have hne : 0 < ts.length := by
  have := congrArg yB h1
  rw [zn0, hh, yY] at this
  omega
 obtain ⟨d', g1, g2⟩ := gX ts n 200 d hr hg ⟨0, 0, 0⟩ 0 [] (by rw [xi]; exact h1) rfl
 have hlen : (ktN n d).length = ts.length := by rw [← h1, zn0]
 refine ⟨d', ?_, g2⟩
 unfold v3
 rw [e]
 simp only [if_true]
 unfold jQ
 rw [uF, if_pos hne, g1]
 simp only [if_true]
 rw [yx, hlen]
 cases hk : ts.length with
 | zero => omega
 | succ k =>
  simp only [uF]
  rw [if_neg (by rw [hk]; omega)]
  rfl
def vZ (f : DT → List Nat) : List DT → List Nat
 | [] => []
 | d :: r => f d ++ 32 :: vZ f r
theorem KA {b : List Nat} (hb : Byt b) {f : DT → List Nat} {g : DT → List (Nat × DT)} : ∀ (l : List DT) (p : Nat), (∀ x ∈ l, ∀ p r, b.drop p = f x ++ r → DelimR r → LexP b p (f x) (g x)) → b.drop p = vZ f l → LexP b p (vZ f l) (qm g l)
 | [], p, _, _ => LexP.nil b p
 | x :: l, p, hf, h => by
  have h1 : b.drop p = f x ++ (32 :: vZ f l) := h
  have h2 := qg h1
  have h3 := wz h2
  have k1 := hf x (by simp) p _ h1 (u9 _)
  have k2 := LexP.blank hb h2
  have k3 := KA hb l _ (fun y hy => hf y (by simp [hy])) h3
  exact LexP.app k1 (LexP.app (w := [32]) (ks := []) k2 k3)
theorem WM {ts : List Tok} {g : DT → List (Nat × DT)} : ∀ (l : List DT) (k : Nat) (acc : List DT) (s : RS), (∀ d ∈ l, Xw ts (datF 200 ts) d (g d) ∧ ∃ k x r, g d = (k, x) :: r ∧ k ≠ 2 ∧ k ≠ 6) → (ts.drop s.at_).map et = qm g l → s.err = 0 → s.at_ ≤ ts.length → l.length < k → ∃ l', uF ts k acc s = (acc ++ l', (0, 0)) ∧ erL l' = erL l
 | [], k, acc, s, _, h, he, hs, hk => by
  cases k with
  | zero => omega
  | succ k =>
   have h0 : ts.drop s.at_ = [] := List.map_eq_nil_iff.1 h
   have := u0 h0
   refine ⟨[], ?_, rfl⟩
   simp only [uF]
   rw [if_neg (by omega), xi]
 | d :: l, k, acc, s, hl, h, he, hs, hk => by
  cases k with
  | zero => omega
  | succ k =>
   obtain ⟨hd, kk, xx, rr, hg, _, _⟩ := hl d (by simp)
   have h' : (ts.drop s.at_).map et = g d ++ qm g l := h
   obtain ⟨d', q1, q2⟩ := hd s 0 _ h' he
   have hlt : s.at_ < ts.length := by
    rw [hg] at h'
    obtain ⟨t, h1, _⟩ := ui h'
    exact qE h1
   have hnext : (ts.drop (s.at_ + (g d).length)).map et = qm g l := by
    rw [← z4, zn9, h', zn8]
   have hle : s.at_ + (g d).length ≤ ts.length := by
    have := congrArg yB h'
    rw [zn0, List.length_drop, ye] at this
    omega
   obtain ⟨l', g1, g2⟩ := WM l k (acc ++ [d']) ⟨s.at_ + (g d).length, 0, s.fp⟩ (fun y hy => hl y (by simp [hy])) hnext rfl hle (by simp only [yY] at hk; omega)
   refine ⟨d' :: l', ?_, by simp only [erL, q2, g2]⟩
   simp only [uF]
   rw [if_pos hlt, q1]
   simp only [if_true]
   rw [g1]
   simp
theorem zxq {l : List DT} (hr : ∀ d ∈ l, Rd 200 d ∧ GoodD n d) (hb : Byt (vZ (txN false n) l)) (hl : (vZ (txN false n) l).length < 100000) : ∃ l', v3 (vZ (txN false n) l) = (l', (0, 0)) ∧ erL l' = erL l := by
 obtain ⟨ts, h1, h2⟩ := KA (b := vZ (txN false n) l) hb (g := ktN n) l 0 (fun x hx p r h h' => Zt hb n 200 x p r (hr x hx).1 (hr x hx).2 h h') (by simp) []
 rw [yx, znO, Kx] at h2
 have e : lexS (vZ (txN false n) l) = (ts, (0, 0)) := h2
 have hall : ∀ x ∈ l, Xw ts (datF 200 ts) x (ktN n x) ∧ ∃ k y r, ktN n x = (k, y) :: r ∧ k ≠ 2 ∧ k ≠ 6 := fun x hx => ⟨gX ts n 200 x (hr x hx).1 (hr x hx).2, Xs (hr x hx).1 (hr x hx).2⟩
 have hfl := Zn fun x hx => (hall x hx).2
 have hlen : (qm (ktN n) l).length = ts.length := by rw [← h1, zn0]
 obtain ⟨l', g1, g2⟩ := WM (ts := ts) l (ts.length + 1) [] ⟨0, 0, 0⟩ hall h1 rfl (zN _) (by omega)
 refine ⟨l', ?_, g2⟩
 unfold v3
 rw [e]
 simp only [if_true]
 unfold jQ
 rw [g1]
 simp
set_option maxRecDepth 1000000
theorem zpH (h : jG P E) (p : Nat → Bool) : jG P { E with pure := p } := h
def envP : Env := { env with pure := fun _ => false }
theorem zsN (h : jG P env) : jG P envP := zpH h (fun _ => false)
theorem zoD : okV (.bool true) ((evT envP noO 100000).call 8 [] s0) = true := by decide +kernel
noncomputable def gWks : List AV → St → Option (AV × St) := orc0 (fun _ : Unit => []) (fun _ => True) (fun _ => .bool true)
theorem zsi (h : O 8 = some gWks) (s : St) : (evW env O).call 8 [] s = some (.bool true, s) := by
 rw [xC h, gWks, we (fun _ _ _ => rfl) s () trivial rfl]
theorem zoE (B : Bx P w0) : ∃ s1, SC P w0 8 [] (s00 0 false) (.bool true) s1 :=
 WZ (E := envP) (n := 100000) (qu P w0) B.mixed B.glob (zsN B.env) zoD
theorem zwh (B : Bx P w0) (hO : OrcOk P w0 O) : OrcOk P w0 (withG 8 gWks O) :=
 hO.withG w9 (v5 false (fun _ => rfl) (fun _ => rfl) fun _ _ => zoE B)
theorem Gl {P : Program} {w0 : World} (B : Bx P w0) : ∀ (N : Nat), N ≤ 100000 → OrcOk P w0 (withG 13 (Wm N) noO)
 | 0, _ => addL (qu P w0) X1 (fun _ => rfl) fun x hx => absurd hx (Nat.not_lt_zero _)
 | N + 1, h => by
  have ih := Gl B N (by omega)
  have hi : OrcOk P w0 (withG 31 (gEqf N) (withG 13 (Wm N) noO)) := addL ih (Ho _) (fun _ => rfl) fun x hx => zpI B ih rfl (by omega) x.1 x.2 hx
  exact addL (qu P w0) X1 (fun _ => rfl) fun x hx => zqm B hi rfl rfl rfl x.1 x.2 hx
open Nat (reduceEqDiff reduceLeDiff reduceLT reduceAdd reduceMul reduceSub reduceMod reducePow reduceDiv reduceOr reduceShiftLeft reduceGT reduceSucc)
open List (length_cons length_nil length_take length_drop)
open Int renaming reduceOfNat → rO, reduceNegSucc → rN
theorem j5 {c : Nat} {a : List Nat} (hc : c < 256) (ha : Byt a) : Byt (c :: a) := fun x hx => by
 rcases List.mem_cons.1 hx with h | h
 ·omega
 ·exact ha x h
theorem bNil : Byt [] := fun x hx => by cases hx
theorem hexB {c : Nat} (h : uB c = true) : Byt (hexS c) := by
 have hc := Wv h
 have hd : ∀ n, n < 16 → hexD n < 256 := fun n hn => by unfold hexD; split <;> omega
 unfold hexS
 split
 ·exact j5 (hd _ (by omega)) bNil
 ·exact j5 (hd _ (by omega)) (j5 (hd _ (by omega)) bNil)
theorem zp9 {c : Nat} (h : xB c = true) : Byt (wN c) := by
 have he := gZ (xH.1 h).1
 unfold wN
 split
 ·intro x hx; simp at hx; omega
 ·split
  ·intro x hx; simp at hx; omega
  ·split
   ·intro x hx; simp at hx; omega
   ·split
    ·exact j5 (by omega) (hexB (by assumption))
    ·exact he
theorem zqe {c : Nat} (h : xB c = true) : Byt (wg c) := by
 have he := gZ (xH.1 h).1
 unfold wg
 split
 ·exact j5 (by omega) he
 ·split
  ·intro x hx; simp at hx; omega
  ·split
   ·intro x hx; simp at hx; omega
   ·split
    ·exact j5 (by omega) (j5 (by omega) ((hexB (by assumption)).append (j5 (by omega) bNil)))
    ·exact he
theorem qsB : ∀ {cs : List Nat}, (∀ c ∈ cs, xB c = true) → Byt (qs cs)
 | [], _ => bNil
 | c :: r, h => by
  rw [gq]
  exact (zqe (h c (by simp))).append (qsB fun d hd => h d (by simp [hd]))
theorem allB {f : DT → List Nat} : ∀ {l : List DT}, (∀ d ∈ l, Byt (f d)) → Byt (qF f l) ∧ Byt (allT f l)
 | [], _ => ⟨bNil, bNil⟩
 | d :: r, h => by
  have ih := (allB (l := r) fun x hx => h x (by simp [hx])).1
  have h1 := h d (by simp)
  exact ⟨j5 (by omega) (h1.append ih), h1.append ih⟩
theorem OkA.byt (h : OkA d) (n : Nat) : Byt (txN false (n + 1) d) := by
 obtain ⟨k, nn, t, ks, p⟩ := d
 simp only [OkA] at h
 obtain ⟨rfl, _, h⟩ := h
 rcases h with ⟨rfl, rfl, h | h⟩ | ⟨rfl, rfl, h⟩ | ⟨rfl, rfl, c, rfl, h⟩ | ⟨rfl, rfl, cs, h, rfl⟩ | ⟨rfl, rfl, h⟩
 ·subst h; show Byt [35, 102]; intro x hx; simp at hx; omega
 ·subst h; show Byt [35, 116]; intro x hx; simp at hx; omega
 ·exact h.sym.2.2.1
 ·show Byt (35 :: 92 :: wN c)
  exact j5 (by omega) (j5 (by omega) (zp9 h))
 ·show Byt (vl false (encs cs))
  unfold vl
  rw [if_neg (by decide), WP h]
  exact j5 (by omega) ((qsB h).append (j5 (by omega) bNil))
 ·exact fun x hx => by have := Zs (jp h.2.1 x hx); omega
theorem Rd.byt : ∀ (m n : Nat) (d : DT), Rd m d → GoodD n d → Byt (txN false n d)
 | _, 0, d, _, h => by
  have h1 := h.2.2
  have h2 := wh d
  unfold wtD at h1; omega
 | 0, n + 1, d, h, _ => OkA.byt h n
 | m + 1, n + 1, d, h, hg => by
  rcases h with h | ⟨t, p, rfl, h⟩ | ⟨ks, p, rfl, h⟩ | ⟨h, hk⟩
  ·exact h.byt n
  ·show Byt ([35, 117, 56, 40] ++ allT xV (qD t) ++ [41])
   refine Byt.append (Byt.append (fun x hx => by simp at hx; omega) (allB fun d hd => ?_).2) (fun x hx => by simp at hx; omega)
   obtain ⟨c, hc, rfl⟩ := List.mem_map.1 hd
   exact (Ka (h.1 c hc)).sym.2.2.1
  ·show Byt ([35, 40] ++ allT (txN false n) ks ++ [41])
   have hgk := hg.kids rfl
   exact Byt.append (Byt.append (fun x hx => by simp at hx; omega) (allB fun d hd => Rd.byt m n d (h d hd) (hgk d hd)).2) (fun x hx => by simp at hx; omega)
  ·rcases hk with hk | hk
   ·cases h with
    | nil => show Byt [40, 41]; intro x hx; simp at hx; omega
    | cons _ _ => cases hk
    | dot _ h2 _ => exact absurd hk h2
   ·obtain ⟨i1, i2, _, _⟩ := hg.items hk
    obtain ⟨r1, r2⟩ := h.items
    have e : txN false (n + 1) d = [40] ++ allT (txN false n) (xr d).1 ++ endT (txN false n) (xr d).2 ++ [41] := by
     show txK false (txN false n) d (xU d) = _
     rw [hk]; rfl
    rw [e]
    have hend : Byt (endT (txN false n) (xr d).2) := by
     unfold endT
     split
     ·exact bNil
     ·rename_i hk0
      rcases r2 with ⟨q, e3⟩ | ⟨r2, _⟩
      ·exact absurd (by rw [e3]; rfl) hk0
      ·exact Byt.append (fun x hx => by simp at hx; omega) (Rd.byt m n _ r2 i2)
    exact Byt.append (Byt.append (Byt.append (fun x hx => by simp at hx; omega) (allB fun x hx => Rd.byt m n x (r1 x hx) (i1 x hx)).2) hend) (fun x hx => by simp at hx; omega)
theorem Rd.ne {m : Nat} (h : Rd m d) (hg : GoodD n d) : txN false n d ≠ [] := by
 cases n with
 | zero =>
  have h1 := hg.2.2
  have h2 := wh d
  unfold wtD at h1; omega
 | succ n =>
  obtain ⟨kd, nn, tx, ks, p⟩ := d
  intro he
  rcases lN hg.1 with rfl | ⟨rfl, hcs⟩ | ⟨rfl, hcs⟩ | ⟨rfl, c, rfl, hv⟩ | ⟨rfl, hcs⟩ | ⟨rfl, hcs⟩ | ⟨rfl, hcs⟩ | ⟨rfl, hcs⟩ | rfl | rfl | rfl
  ·cases he
  ·rcases hcs with rfl | rfl
   ·cases he
   ·cases he
  ·exact absurd he hcs
  ·cases he
  ·have e : txN false (n + 1) (.mk (.ofNat 4) nn tx ks p) = vl false tx := rfl
   rw [e] at he; cases he
  ·exact absurd he hcs
  ·have e : txN false (n + 1) (.mk (.ofNat 6) nn tx ks p) = [40] ++ allT (txN false n) (xr (.mk (.ofNat 6) nn tx ks p)).1 ++ endT (txN false n) (xr (.mk (.ofNat 6) nn tx ks p)).2 ++ [41] := rfl
   rw [e] at he; simp at he
  ·have e : txN false (n + 1) (.mk (.ofNat 7) nn tx ks p) = [35, 40] ++ allT (txN false n) ks ++ [41] := rfl
   rw [e] at he; simp at he
  ·have e : txN false (n + 1) (.mk (.ofNat 8) nn tx ks p) = [35, 117, 56, 40] ++ allT xV (qD tx) ++ [41] := rfl
   rw [e] at he; simp at he
  ·cases he
  ·cases he
def zpz (n : Nat) (d : DT) (disp : Bool) : Prop := GoodD n d ∧ (txN disp n d).length < 1000000 ∧ txN disp n d ≠ []
noncomputable def Pu (n : Nat) : List AV → St → Option (AV × St) := Zw 54 5 qK (zpz n) (fun d disp => txN disp n d)
theorem zwd {n0 : Nat} (h : O 20 = some (Pu n0)) (hd : GoodD n0 d) (id : Nat) (disp : Bool) (o1 : List Nat) (h1 : o1 = txN disp n0 d) (ho : o1.length < 1000000) (h0 : o1 ≠ []) (l : List (Nat × Option AObj)) (n m : Nat) (b : Bool) (hi : id < n)
  (hw : getA l id = some (.row 54 [.nilp, .nils, .bool disp] false false)) :
  (evW env O).call 20 [.ptr id 0, .agg (xT d)] (KL l n m b [] none) = some (.tup [], KL ((n, some (.row 5 (xo o1) true false)) :: (id, some (.row 54 [.ptr id 0, .sl n 0 o1.length (.opn 1), .bool disp] false false)) :: l) (n + 1) (mark m id) b [] none) := by
 subst h1
 exact zwT (E := env) h YO d disp ⟨hd, ho, h0⟩ l n m b id [.agg (xT d)] (by simp only [qK, encD, wkL, wkV, vS]) hi hw
def l7 (d : DT) : List AV := [encD d, .bool false]
theorem zye : ∀ x y, l7 x = l7 y → x = y := fun a b h => by
 simp only [l7, yZ, and_true] at h; exact kD h
theorem Ht (x : DT) : xz (l7 x) = true := by simp only [l7, xw, uy, vP, xD, Bool.and_self]
def PreWb (d : DT) : Prop := Rd 200 d ∧ xL d < 16000 ∧ (txN false 40000 d).length < 100000
theorem PreWb.good (h : PreWb d) : GoodD 40000 d := h.1.good (by have := h.2.1; omega)
noncomputable def gWrb : List AV → St → Option (AV × St) := orc0 l7 PreWb (fun d => .str (txN false 40000 d))
theorem GQ (h : O 9 = some gWrb) (hd : PreWb d) (s : St) : (evW env O).call 9 [.agg (xT d), .bool false] s = some (.str (txN false 40000 d), s) := by
 rw [xC h, gWrb, we zye s d hd (by simp only [l7, encD, wkL, wkV, vS])]
attribute [local go_sem] l7 encD xq in
theorem zwm (B : Bx P w0) (hO : OrcOk P w0 O) (o21 : O 21 = none) (h20 : O 20 = some (Pu 40000)) (h11 : O 11 = some (gMay 20000)) (d : DT) (hp : PreWb d) :
  SC P w0 9 (l7 d) (H [] 0 true) (.str (txN false 40000 d)) (H [] 0 true) := by
 have hg := hp.good
 have hby := Rd.byt 200 40000 d hp.1 hg
 have h0 := hp.1.ne hg
 have hm := hg.1
 have hmay := Zu (f := 11) h11 hg.2.1 (by have := hp.2.1; omega)
 rw [hm] at hmay
 refine bs B hO f9 fun C k => ?_
 obtain ⟨T, hT⟩ : ∃ T, T = txN false 40000 d := ⟨_, rfl⟩
 have hl : T.length < 1000000 := by rw [hT]; have := hp.2.2; omega
 rw [← hT] at h0 hby ⊢
 have hl0 : T.length ≠ 0 := fun h => h0 (List.length_eq_zero_iff.1 h)
 have hu := GM 2 T.length hl0
 have hwd := zwd h20 hg 1 false T hT hl h0
 have cstr := ci f21 o21
 have hus := fun l nx m k0 hg => @K0 l nx m 2 k0 [2] true false T .i64 hg rfl h0 hby (by omega)
 obtain ⟨kd, nn, tx, ks, p⟩ := d
 simp only [xq] at hmay hwd
 unfold f9
 simp only [Ko, Km, Kr, opN]
 refine k.q ?_
 refine k.q ?_
 refine k.q ?_
 refine wu (k.eval (by simp (disch := first | exact dis | fail) only [go_sem, seval, -rO, -rN, hwd]; exact rfl) ?_)
 simp only [xA]
 refine k.eval (by simp (disch := first | exact dis | fail) only [go_sem, seval, -rO, -rN, cstr, f21, hu, hus]; exact rfl) ?_
 try simp only [xA, xX, Cut, if_true]
 exact fin
theorem Hp (c : Int) : xz (encI c) = true := rfl
theorem Hs (c : Nat) : xz (encN c) = true := rfl
noncomputable def PA : Orc := withG 51 gIs (withG 117 Wn (withG 116 gIx (withG 73 gFmt (withG 76 J0 (withG 19 gItm (withG 27 gItm noO))))))
theorem zoP (B : Bx P w0) : OrcOk P w0 PA := by
 have h0 := qu P w0
 have h1 := zyS B h0
 have h2 := HR B h1
 have h3 := zyE B h2
 have h4 : OrcOk P w0 (withG 116 gIx _) := addL h3 zyi (fun _ => rfl) fun x hx => zo5 B h0 rfl x hx.1 hx.2
 have h5 : OrcOk P w0 (withG 117 Wn _) := addL h4 kC kY fun x hx => by
  obtain ⟨b0, r, rfl, hb, h1, h2⟩ := hx
  exact zzl B h0 b0 r hb h1 h2
 exact addL h5 Hp (fun _ => rfl) fun x _ => zpo B h0 rfl x
noncomputable def PB : Orc := withG 100 gDr (withG 50 J1 (withG 37 Z5 (withG 75 gQuo (withG 42 Vp PA))))
theorem zq8 (B : Bx P w0) : OrcOk P w0 PB := by
 have h0 := zoP B
 have h1 : OrcOk P w0 (withG 42 Vp _) := addL h0 Z1 H3 fun x hx => zr1 B h0 rfl x hx.1 hx.2
 have h2 : OrcOk P w0 (withG 75 gQuo _) := addL h1 (fun _ => rfl) (fun _ => rfl) fun x hx => zoc B h0 rfl x hx
 have h3 : OrcOk P w0 (withG 37 Z5 _) := addL h2 Hs (fun _ => rfl) fun x hx => zuT B h0 rfl x hx
 have h4 : OrcOk P w0 (withG 50 J1 _) := addL h3 Z1 (fun _ => rfl) fun x hx => zzY B h0 rfl rfl rfl rfl rfl rfl x hx.1 hx.2
 exact addL h4 kC kY fun x hx => zpl B h0 rfl x hx.1 hx.2.1 hx.2.2
noncomputable def PC : Orc := withG 83 gAll PB
theorem zq9 (B : Bx P w0) : OrcOk P w0 PC :=
 addL (zq8 B) kC zzt fun x hx => zpB B (zq8 B) rfl rfl x hx.1 hx.2
noncomputable def PD : Orc := withG 52 UC PC
theorem zpa (B : Bx P w0) : OrcOk P w0 PD :=
 addL (zq9 B) Z1 JB fun x hx => zwZ B (zq9 B) rfl x hx.1 hx.2
noncomputable def PE : Orc := withG 26 Po PD
theorem QE (B : Bx P w0) : OrcOk P w0 PE :=
 addL (zpa B) qW (fun _ => rfl) fun x hx => zsz B (zpa B) rfl rfl rfl x hx
theorem Ub {P : Program} {w0 : World} (B : Bx P w0) : ∀ (N : Nat), N ≤ 100000 → OrcOk P w0 (withG 11 (gMay N) PE)
 | 0, _ => addL (QE B) qW (fun _ => rfl) fun x hx => absurd hx.2 (Nat.not_lt_zero _)
 | N + 1, h => by
  have ih := Ub B N (by omega)
  have hi : OrcOk P w0 (withG 49 (gIxm N) (withG 11 (gMay N) PE)) := addL ih Hr (fun _ => rfl) fun x hx => zp2 B ih rfl rfl (by omega) x hx.1 hx.2
  exact addL (QE B) qW (fun _ => rfl) fun x hx => zp6 B hi rfl rfl rfl rfl rfl x hx.1 hx.2
noncomputable def PF : Orc := withG 39 gTxt PE
theorem zoQ (B : Bx P w0) : OrcOk P w0 PF :=
 (QE B).withG kJ (UI (fun _ => rfl) fun x out disp hp => zqy B (QE B) rfl rfl rfl rfl x out disp hp)
noncomputable def PF0 : Orc := withG 39 zud PE
theorem zpx (B : Bx P w0) : OrcOk P w0 PF0 :=
 (QE B).withG VO (PJ (fun _ => rfl) fun x disp hp => ztX B (QE B) rfl rfl rfl rfl x disp hp)
theorem JQ (x : List DT) : xz (X3 x) = true := by simp only [X3, xw, wi, xD, Bool.and_self]
def KWdb (P : Program) (w0 : World) (n : Nat) : Prop := qO P w0 20 (gWd n)
theorem kwab (B : Bx P w0) (h : KWdb P w0 n) : qO P w0 40 (gWa n) :=
 UI JQ fun x out disp hp => zqZ B ((qu P w0).withG kJ h) rfl rfl rfl x out disp hp
theorem Kp {P : Program} {w0 : World} (B : Bx P w0) : ∀ (n : Nat), n ≤ 100000 → KWdb P w0 n
 | 0, _ => UI (b := true) qW fun x out disp hp => by
  have h1 := hp.1.2.2
  have h2 := wh x
  unfold wtD at h1; omega
 | n + 1, h => by
  have ih := Kp B n (by omega)
  have hD : OrcOk P w0 (withG 40 (gWa n) (withG 20 (gWd n) PF)) := ((zoQ B).withG kJ ih).withG kJ (kwab B ih)
  exact UI qW fun x out disp hp => zwe B hD rfl rfl rfl rfl rfl rfl rfl rfl rfl rfl rfl (by omega) rfl rfl x out disp hp.1 hp.2
theorem zo6 (B : Bx P w0) (hn : n ≤ 100000) : qO P w0 20 (Pu (n + 1)) := by
 have ih := Kp B n hn
 have hD : OrcOk P w0 (withG 40 (gWa n) (withG 20 (gWd n) PF0)) := ((zpx B).withG kJ ih).withG kJ (kwab B ih)
 exact PJ qW fun x disp hp => LJ B hD rfl rfl rfl rfl rfl rfl rfl rfl rfl rfl rfl hn rfl rfl x disp hp.1 hp.2.1 hp.2.2
theorem LP (B : Bx P w0) (d : DT) (hp : PreWb d) : SC P w0 9 (l7 d) (H [] 0 true) (.str (txN false 40000 d)) (H [] 0 true) := by
 have h1 := Ub B 20000 (by omega)
 have h2 : OrcOk P w0 (withG 20 (Pu 40000) (withG 11 (gMay 20000) PE)) := h1.withG VO (zo6 B (by omega))
 exact zwm B h2 rfl rfl rfl d hp
open Int (reduceOfNat reduceNegSucc)
theorem vMn2 (a b : Nat) : vMn false [.int .i64 (.ofNat a), .int .i64 (.ofNat b)] = some (.int .i64 (.ofNat (min a b))) := by
 show minV false (.int .i64 (.ofNat a)) [.int .i64 (.ofNat b)] = _
 simp only [minV, cond_false, ltI]
 cases h : Nat.blt b a with
 | true => have := xR.1 h; rw [Nat.min_eq_right (by omega)]; rfl
 | false =>
  have : ¬ b < a := fun e => by rw [xR.2 e] at h; cases h
  rw [Nat.min_eq_left (by omega)]; rfl
theorem VQ {ts : List Tok} : ∀ (k : Nat) (acc : List DT) (s : RS), (uF ts k acc s).2.1 ≠ 0 → (uF ts k acc s).1 = []
 | 0, acc, s, h => absurd rfl h
 | k + 1, acc, s, h => by
  simp only [uF] at h ⊢
  by_cases h1 : s.at_ < ts.length
  ·rw [if_pos h1] at h ⊢
   by_cases h2 : (datF 200 ts 0 s).2.err = 0
   ·rw [if_pos h2] at h ⊢
    exact VQ k _ _ h
   ·rw [if_neg h2]
  ·rw [if_neg h1] at h
   exact absurd rfl h
theorem ztr (h : (v3 b).2.1 ≠ 0) : (v3 b).1 = [] := by
 unfold v3 at h ⊢
 by_cases hl : (lexS b).2.1 = 0
 ·rw [if_pos hl] at h ⊢
  exact VQ _ _ _ h
 ·rw [if_neg hl]
theorem ztq (h : (v3 b).2.1 = 0) : (lexS b).2.1 = 0 := by
 by_cases e : (lexS b).2.1 = 0
 ·exact e
 ·unfold v3 at h
  rw [if_neg e] at h
  exact absurd h e
theorem VA {n : Nat} : ∀ {l : List DT}, (∀ d ∈ l, (txN false n d).length ≤ szD d) → (vZ (txN false n) l).length ≤ szL l
 | [], _ => Nat.le_refl _
 | d :: r, h => by
  have := h d (by simp)
  have := VA (l := r) fun x hx => h x (by simp [hx])
  simp only [vZ, szL, ye, yY]; omega
theorem Vz {n : Nat} : ∀ {l : List DT}, (∀ d ∈ l, Byt (txN false n d)) → Byt (vZ (txN false n) l)
 | [], _ => bNil
 | d :: r, h => (h d (by simp)).append (j5 (by omega) (Vz fun x hx => h x (by simp [hx])))
theorem zzm : ∀ {l : List DT} {d : DT}, d ∈ l → szD d ≤ szL l
 | [], d, h => by cases h
 | x :: r, d, h => by
  simp only [szL]
  rcases List.mem_cons.1 h with rfl | h
  ·omega
  ·have := zzm h; omega
theorem JU : ∀ {l m : List DT}, erL l = erL m → ∀ i, erL (l.drop i) = erL (m.drop i)
 | l, m, h, 0 => h
 | [], [], _, i + 1 => rfl
 | [], _ :: _, h, _ + 1 => by simp [erL] at h
 | _ :: _, [], h, _ + 1 => by simp [erL] at h
 | x :: l, y :: m, h, i + 1 => by
  simp only [erL, yZ] at h
  exact JU h.2 i
theorem Jn {x y : List Nat} (h : x.length + y.length < 9223372036854775808) : binS .add x y = some (.str (x ++ y)) := by
 simp only [binS, x7]
 rw [show Nat.blt (Nat.add x.length y.length) 9223372036854775808 = true from xR.2 h]; rfl
attribute [local go_sem] qJ xq Zi in
theorem zsy (B : Bx P w0) (hO : OrcOk P w0 O) (o16 : O 16 = none) (h8 : O 8 = some gWks) (h9 : O 9 = some gWrb) (h11 : O 11 = some (gMay 20000)) (h13 : O 13 = some (Wm 20000)) (h15 : O 15 = some Ps) (b : List Nat) (hb : Byt b) :
  SC P w0 4 [.lst b.length false (xo b)] (H [] 0 true) (.bool true) (H [] 0 true) := by
 refine bs B hO f4 fun C k => ?_
 have hok := zsi h8
 have ccut := ci f16 o16
 obtain ⟨n, hn⟩ : ∃ n, n = min b.length 3000 := ⟨_, rfl⟩
 obtain ⟨c, hc⟩ : ∃ c, c = b.take n := ⟨_, rfl⟩
 have hlen : c.length = n := by rw [hc, List.length_take]; omega
 have hpc : PreS c := ⟨by rw [hc]; exact hb.take n, by omega⟩
 have hslv := fun k => @U4 b false k n (by omega)
 have e1 : (false && Nat.beq n b.length) = false := rfl
 rw [e1, ← hc] at hslv
 have cread := fun e s => Ys h15 hpc e s
 have hnil := ztr (b := c)
 have hrd := UZ hpc
 have hnod := fun h => (Gf hpc (ztq h) h).2
 rw [hlen] at cread hrd hnod
 generalize v3 c = R at cread hnil hrd hnod
 obtain ⟨l, ⟨fe, fp⟩⟩ := R
 simp only at hnil hrd hnod
 simp only [Zz, flt] at cread
 unfold f4
 simp only [Ko, Kg, Kn, Kd, Ke, Ki, Kv, KF, KT, Km, Kr, opN]
 refine k.q ?_
 refine wu (k.eval (by simp (disch := first | exact dis | fail) only [go_sem, seval, -rO, -rN, ccut, f16, vMn2, ← hn, hslv, cread]; exact rfl) ?_)
 simp only [xA]
 by_cases hf : fe = 0
 case neg =>
  have := hnil hf
  subst this
  refine k.z ?_
  exact fin
 subst hf
 obtain ⟨r1, r2⟩ := hrd rfl
 have r3 := hnod rfl
 have hll := uu l
 have pre : ∀ d ∈ l, PreWb d := fun d hd => by
  have hm := qb hd
  have hs := zzm hd
  have hr := r1 d hd
  have hg : GoodD 40000 d := hr.good (by omega)
  have := Rd.tx 200 40000 d hr hg
  exact ⟨hr, by omega, by omega⟩
 have hby : ∀ d ∈ l, Byt (txN false 40000 d) := fun d hd => Rd.byt 200 40000 d (r1 d hd) (pre d hd).good
 have htot : ∀ m : List DT, (∀ d ∈ m, d ∈ l) → (vZ (txN false 40000) m).length ≤ szL m := fun m hm => VA fun d hd => Rd.tx 200 40000 d (r1 d (hm d hd)) (pre d (hm d hd)).good
 have htotl := htot l fun _ h => h
 refine k.q ?_
 refine k.q ?_
 refine ul ⟨tmL [(5, .str (vZ (txN false 40000) l)), (3, .lst l.length false (xv l))], []⟩ (H [] 0 true) ?_ ?_
 ·refine k.q ?_
  refine xS (x6 (k.gcL [] [6, 5, 3] true (fr1 := ⟨tmL [(6, .int .i64 (.ofNat 0)), (5, .str []), (3, .lst l.length false (xv l))], []⟩) (s1 := H [] 0 true) (by simp (disch := first | exact dis | fail) only [go_sem, seval, -rO, -rN]) ?_))
  refine wb (fun x : Nat × List Nat => l.length - x.1) (fun x => ⟨tmL [(6, .int .i64 (.ofNat x.1)), (5, .str x.2), (3, .lst l.length false (xv l))], []⟩) (fun x => H [] 0 true) (fun x => x.1 ≤ l.length ∧ x.2 ++ vZ (txN false 40000) (l.drop x.1) = vZ (txN false 40000) l) (fun x hx => ?_) (0, []) ⟨zN _, rfl⟩
  obtain ⟨i, s⟩ := x
  obtain ⟨g1, g2⟩ := hx
  simp only at g1 g2 ⊢
  rcases qA l i with ⟨hi, hd⟩ | ⟨u, hi, hd⟩
  ·have hlt : ¬ i < l.length := by omega
   rw [hd] at g2; simp only [vZ, xi] at g2
   rw [← g2]
   refine k.z ?_
   exact k.g [] [5, 3]
  ·have hu : u ∈ l := znS (by rw [hd]; exact List.mem_cons_self)
   have hpu := pre u hu
   have hwr := GQ h9 hpu
   have hbu := hby u hu
   obtain ⟨u', e1, e2⟩ := zts hpu.1 hpu.good hbu hpu.2.2
   have hps : PreS (txN false 40000 u) := ⟨hbu, hpu.2.2⟩
   have hr1 := fun e s => Ys h15 hps e s
   have hrd1 := UZ hps
   rw [e1] at hrd1 hr1
   have hpu' : PreWb u' := ⟨(hrd1 rfl).1 u' (by simp), by rw [← WJ, e2, WJ]; exact hpu.2.1, by rw [zzq e2]; exact hpu.2.2⟩
   have hwr' := GQ h9 hpu'
   rw [zzq e2] at hwr'
   have hsm := lS (f := 13) h13 (a := u') (b := u) (by have := hpu'.2.1; omega)
   rw [lu _ u' u (Nat.lt_succ_self _) e2] at hsm
   have hmy := Zu (f := 11) h11 (d := u) hpu.good.2.1 (by have := hpu.2.1; omega)
   rw [hpu.good.1] at hmy
   have hl9 : (txN false 40000 u).length < 100000 := hpu.2.2
   rw [hd] at g2
   simp only [vZ] at g2
   have hgl := congrArg yB g2
   rw [ye, ye, yY] at hgl
   generalize hT : txN false 40000 u = t at hwr hr1 hwr' hl9 g2 hgl
   have hdr : wK (i * 5) (xv l) = xT u ++ xv (l.drop (i + 1)) := by rw [qV, hd, xM]
   have hcs : ∀ l n m hd on e, oCsb (KL l n m true hd on) e (.str t) = some (.lst t.length false (xo t), KL l n m true hd on) := fun l n m hd on e => Ul (by omega) l n m hd on e
   have ha1 := Jn (x := s) (y := t) (by omega)
   have ha2 := Jn (x := s ++ t) (y := [32]) (by rw [ye]; simp only [yY, yX]; omega)
   simp only [Zz, flt, yY, yX, xM, xO, xi] at hr1
   obtain ⟨uk, un, ut, uks, up⟩ := u
   obtain ⟨vk, vn, vt, vks, vp⟩ := u'
   simp only [xq] at hwr hr1 hwr' hsm hmy
   refine k.z ?_
   refine ⟨(i + 1, s ++ t ++ [32]), ⟨hi, by simp only [znY, y8, znO]; exact g2⟩, by simp only; omega, ?_⟩
   exact k.g [] [6, 5, 3]
 have hlby : Byt (vZ (txN false 40000) l) := Vz hby
 obtain ⟨m, e1, e2⟩ := zxq (n := 40000) (l := l) (fun d hd => ⟨r1 d hd, (pre d hd).good⟩) hlby (by omega)
 have hps : PreS (vZ (txN false 40000) l) := ⟨hlby, by omega⟩
 have hr1 := fun e s => Ys h15 hps e s
 have hrd1 := UZ hps
 rw [e1] at hrd1 hr1
 have hml : m.length = l.length := by rw [← Ut, e2, Ut]
 have hmn : ∀ d ∈ m, xL d < 20000 := fun d hd => by
  have h1 := qb hd
  have h2 : x5 m = x5 l := by rw [← lP, e2, lP]
  omega
 have htl : (vZ (txN false 40000) l).length < 100000 := by omega
 generalize vZ (txN false 40000) l = t at hr1 htl
 have hcs : ∀ l n m hd on e, oCsb (KL l n m true hd on) e (.str t) = some (.lst t.length false (xo t), KL l n m true hd on) := fun l n m hd on e => Ul (by omega) l n m hd on e
 simp only [Zz, flt, hml] at hr1
 refine k.q ?_
 refine k.q ?_
 refine ul ⟨tmL [], []⟩ (H [] 0 true) ?_ ?_
 ·refine k.q ?_
  refine xS (x6 (k.gcL [] [12, 10, 3] true (fr1 := ⟨tmL [(12, .int .i64 (.ofNat 0)), (10, .lst l.length false (xv m)), (3, .lst l.length false (xv l))], []⟩) (s1 := H [] 0 true) (by simp (disch := first | exact dis | fail) only [go_sem, seval, -rO, -rN]) ?_))
  refine wb (fun i : Nat => l.length - i) (fun i => ⟨tmL [(12, .int .i64 (.ofNat i)), (10, .lst l.length false (xv m)), (3, .lst l.length false (xv l))], []⟩) (fun _ => H [] 0 true) (fun i => i ≤ l.length) (fun i hi0 => ?_) 0 (zN _)
  rcases qA l i with ⟨hi, hd⟩ | ⟨u, hi, hd⟩
  ·have hlt : ¬ i < l.length := by omega
   refine k.z ?_
   exact k.g [] []
  ·rcases qA m i with ⟨hi2, _⟩ | ⟨v, hi2, hd2⟩
   ·omega
   have he := JU e2 i
   rw [hd, hd2] at he
   simp only [erL, yZ] at he
   have hv : v ∈ m := znS (by rw [hd2]; exact List.mem_cons_self)
   have hsm := lS (f := 13) h13 (a := v) (b := u) (hmn v hv)
   rw [lu _ v u (Nat.lt_succ_self _) he.1] at hsm
   have hdr : wK (i * 5) (xv l) = xT u ++ xv (l.drop (i + 1)) := by rw [qV, hd, xM]
   have hdr2 : wK (i * 5) (xv m) = xT v ++ xv (m.drop (i + 1)) := by rw [qV, hd2, xM]
   obtain ⟨uk, un, ut, uks, up⟩ := u
   obtain ⟨vk, vn, vt, vks, vp⟩ := v
   simp only [xq] at hsm
   refine k.z ?_
   refine ⟨i + 1, hi, by omega, ?_⟩
   exact k.g [] [12, 10, 3]
 ·refine k.q ?_
  refine k.z ?_
  exact fin
open Go.RowKit (Below)
theorem zxB {f : Nat} {args : List AV} {xs : List Value} (h : SC P w f args (H [] 0 true) v (H [] 0 true)) (hx : VRL (phiW w) args xs) :
  Calls P f xs.toArray w fun e w' => ∃ φ' x, e = .returned x ∧ VR φ' v x ∧ Below w.heap.size w w' := by
 refine callsIn_wide.1 (CallsIn.mono (h.2 _ w xs (zxr P w true) (H_wf _ _ _) (fun _ _ => rfl) hx Fence.wide 0 ⟨fun _ => trivial, rfl, rfl⟩) ?_)
 rintro e w' ⟨φ', x, rfl, k1, k2⟩
 exact ⟨φ', x, rfl, k2, k1.rel.base⟩
def BOk := { n : Nat // n < 256 }
def zwW (n : BOk) : List AV := [.int .u8 (.ofNat n.1)]
theorem YT : ∀ l : List BOk, qw zwW l = xo (l.map (·.1))
 | [] => rfl
 | n :: r => by simp only [List.map_cons, qw, xo, YT r, zwW, y8, znO]
theorem abs_bytes {H0 : Type} {enc : TypeId × Value → H0} {W : World} {sp : Nat → Bool} {held : Bool} {tI tK : TypeId} (hI : P.underlying tI = some (.int .u8)) (hc : P.cellsOf tI = 1) (hK : P.underlying tK = some (.slice tI)) (hs : sp = fun _ => true) {cs : List Value} {x : DataW H0 × List MemPlace} (h : DataW.trod enc P W 0 sp held n tK cs = some x) :
  ∃ b v, cs = [v] ∧ Byt b ∧ VR (phiW W) (.lst b.length false (xo b)) v := by
 obtain ⟨ds, v, h1, h2, _⟩ := abs_slice (f := zwW) (k := 1) (by omega) hc hK (fun _ => rfl) (fun m _ cs x h => by
  obtain ⟨z, rfl, _, hw⟩ := DataW.trod_int hI h
  simp only [Lit.wf, Bool.and_eq_true, decide_eq_true_eq] at hw
  cases z with
  | negSucc k => exact absurd hw.1 (by show ¬ ((0 : Int) ≤ _); simp [Int.negSucc_lt_zero])
  | ofNat k =>
   have : (Int.ofNat k) ≤ 255 := hw.2
   have hk : k < 256 := by have : (k : Int) ≤ 255 := this; omega
   exact ⟨⟨k, hk⟩, VRL.cons (by simp only [VR]) (VRL.nil _)⟩) hs h
 refine ⟨ds.map (·.1), v, h1, fun y hy => ?_, ?_⟩
 ·obtain ⟨d, _, rfl⟩ := List.mem_map.1 hy
  exact d.2
 ·rw [YT] at h2; rw [zn0]; exact h2
theorem laid_iface {H0 : Type} {enc : TypeId × Value → H0} {base : Nat} {spare : Nat → Bool} {held : Bool} {fuel : Nat} {ms : Array (String × TypeId)} {cs : List Value} {name : String} {d : DataW H0} {p : List MemPlace} (ht : P.underlying t = some (.interface ms)) (h : DataW.trod enc P w base spare held fuel t cs = some (.iface name d, p)) : ∃ u v, cs = [.iface u v] := by
 cases fuel with
 | zero => simp [DataW.trod] at h
 | succ n =>
  unfold DataW.trod at h
  rw [ht] at h
  split at h <;> simp_all
theorem zsg {name : String} {cs : Array Value} (hb : Below w0.heap.size w0 w) (h : w0.var? P name = some cs) : w.var? P name = some cs := by
 unfold World.var? at h ⊢
 cases hg : P.globalNamed name with
 | none => rw [hg] at h; cases h
 | some g =>
  rw [hg] at h
  simp only [Option.bind_some] at h ⊢
  cases hh : w0.heap[g]? with
  | none => rw [hh] at h; cases h
  | some o =>
   rw [hh] at h
   rw [hb.block g (Array.getElem?_eq_some_iff.1 hh).1, hh]
   exact h
theorem atoiOk_of {tp tq : TypeId} {p q : Value} (fn : ∃ fn, P.funcs[86]? = some fn ∧ fn.body.isSome = true ∧ (fn.name == "runtime.NumGoroutine") = false)
  (hok : ∀ (s : ByteArray), s.size ≤ 9223372036854775806 → ∀ v, Lib.atoiAll s.data.toList = .ok v → ∀ w, Calls P 86 #[.string s] w fun e w' => e = .returned (.tuple #[.int .i64 v, .nilIface]) ∧ (w' = w ∨ ∃ t, w' = Lib.bytesWorld w 5 t))
  (hsy : ∀ (s : ByteArray), s.size ≤ 281474976710656 → (∀ v, Lib.atoiAll s.data.toList ≠ .ok v) → Lib.atoiAll s.data.toList ≠ .range → ∀ (tp : TypeId) (p : Value) (w : World), w.var? P "strconv.ErrSyntax" = some #[.iface tp p] → Calls P 86 #[.string s] w fun e w' => ∃ N, e = .returned (.tuple #[.int .i64 0, .iface 159 (.pointer (some ⟨N, 0, none⟩))]) ∧ w.heap.size ≤ N ∧ (∃ o, w'.heap[N]? = some o) ∧ Below w.heap.size w w')
  (hrg : ∀ (s : ByteArray), s.size ≤ 281474976710656 → Lib.atoiAll s.data.toList = .range → ∀ (tp : TypeId) (p : Value) (w : World), w.var? P "strconv.ErrRange" = some #[.iface tp p] → Calls P 86 #[.string s] w fun e w' => ∃ N, e = .returned (.tuple #[.int .i64 (Lib.atoiSat s.data.toList), .iface 159 (.pointer (some ⟨N, 0, none⟩))]) ∧ w.heap.size ≤ N ∧ (∃ o, w'.heap[N]? = some o) ∧ Below w.heap.size w w')
  (v1 : w0.var? P "strconv.ErrSyntax" = some #[.iface tp p]) (v2 : w0.var? P "strconv.ErrRange" = some #[.iface tq q]) : AtoiOk P w0 := by
 refine ⟨fn, fun s w hb hs hk => ?_, fun s w hb hs hk => ?_⟩
 ·simp only [qy, YG] at hk ⊢
  cases h : Lib.atoiAll s.data.toList with
  | ok v =>
   refine Calls.mono (hok s (by omega) v h w) ?_
   rintro e w' ⟨rfl, rfl | ⟨t, rfl⟩⟩
   ·exact ⟨Below.refl _ _, rfl⟩
   ·exact ⟨Lib.bytesWorld_below _ _ _, rfl⟩
  | _ => rw [h] at hk; cases hk
 ·simp only [qy, YG] at hk ⊢
  cases h : Lib.atoiAll s.data.toList with
  | ok v => rw [h] at hk; cases hk
  | range =>
   refine Calls.mono (hrg s hs h tq q w (zsg hb v2)) ?_
   rintro e w' ⟨N, rfl, h1, ⟨o, h2⟩, h3⟩
   exact ⟨h3, N, rfl, h1, (Array.getElem?_eq_some_iff.1 h2).1⟩
  | _ =>
   refine Calls.mono (hsy s hs (by rw [h]; intro v e; cases e) (by rw [h]; intro e; cases e) tp p w (zsg hb v1)) ?_
   rintro e w' ⟨N, rfl, h1, ⟨o, h2⟩, h3⟩
   exact ⟨h3, N, rfl, h1, (Array.getElem?_eq_some_iff.1 h2).1⟩
theorem zwy (B : Bx P w0) (A : AtoiOk P w0) (b : List Nat) (hb : Byt b) :
  SC P w0 4 [.lst b.length false (xo b)] (H [] 0 true) (.bool true) (H [] 0 true) := by
 have h1 := zwh B (qu P w0)
 have h2 := h1.withG w9 ((Gl B 20000 (by omega)).ok 13 _ rfl)
 have h3 := Li B A h2
 have h4 := h3.withG w9 ((Ub B 20000 (by omega)).ok 11 _ rfl)
 have h5 : OrcOk P w0 (withG 9 gWrb _) := addL h4 Ht (fun _ => rfl) fun d hd => LP B d hd
 exact zsy B h5 rfl rfl rfl rfl rfl rfl b hb
theorem back_calls (B : Bx P w) (A : AtoiOk P w) (hb : Byt b) {v : Value} (hv : VR (phiW w) (.lst b.length false (xo b)) v) :
  Calls P 4 #[v] w fun e w' => e = .returned (.bool true) ∧ Below w.heap.size w w' := by
 have := zxB (xs := [v]) (zwy B A b hb) (VRL.cons hv (VRL.nil _))
 refine Calls.mono this ?_
 rintro e w' ⟨φ', x, rfl, h1, h2⟩
 simp only [VR] at h1
 exact ⟨by rw [h1], h2⟩
end Go.Proofs.YthcmnajcjapjbaaGreatDoor.Ev

/- Contracts of functions that DatumBack calls: what a call answers, for all data, by symbolic evaluation. No conditions of its own. -/
import Derived.Test.YthcmnajcjapjbaaGreatDoorWC
import Derived.Test.YthcmnajcjapjbaaGreatDoorWB
set_option linter.unusedSimpArgs false
set_option linter.unusedVariables false
set_option linter.defProp false
set_option maxHeartbeats 4000000
open List renaming length_append → ye, length_cons → yY, length_nil → yX, append_assoc → znY, nil_append → znO, cons_append → y8, takeWhile_cons → znW, all_cons → znP, append_nil → xi, dropWhile_cons → zn3, mem_of_mem_drop → znS, drop_drop → z4, mem_cons_self → zn6, cons_ne_nil → zn7, length_drop → znK, contains_iff_mem → yR, length → yB
open Nat renaming le_of_ble_eq_true → znR, le_refl → zq, le_of_eq → zn5, zero_le → zN
open Option.some renaming injEq → zy
open Bool renaming and_eq_true → zm, and_self → y6, or_eq_true → zn
namespace Go.Proofs.YthcmnajcjapjbaaGreatDoor.Ev
variable {b : List Nat} {ts : List Tok} {d : DT} {n : Nat} {disp : Bool}
open T
set_option maxRecDepth 100000
def zwr (d : DT) : Prop := ∃ k n t p, d = .mk (.ofNat k) n t [] p ∧ 1 ≤ k ∧ k ≤ 5
def TD (t : Tok) : Prop := t.kind = 7 → zwr t.d ∧ posD t.d = .ofNat t.pos
theorem zsl (w : List Nat) (p : Nat) : TD (vo w p) := by
 unfold vo
 split
 ·intro h; cases h
 ·split
  ·exact fun _ => ⟨⟨2, _, _, _, rfl, by decide, by decide⟩, rfl⟩
  ·exact fun _ => ⟨⟨5, _, _, _, rfl, by decide, by decide⟩, rfl⟩
theorem zuL (b : List Nat) (p : Nat) : TD (qd b p).t := by
 unfold qd
 split
 ·intro h; cases h
 split
 ·unfold pb
  split <;> exact fun _ => ⟨⟨3, _, _, _, rfl, by decide, by decide⟩, rfl⟩
 ·unfold ve
  split
  ·exact fun _ => ⟨⟨1, _, _, _, rfl, by decide, by decide⟩, rfl⟩
  split
  ·intro h; cases h
  split <;> exact fun _ => ⟨⟨1, _, _, _, rfl, by decide, by decide⟩, rfl⟩
theorem zzh (c : Nat) : parK c ≠ 7 := by
 unfold parK
 split
 ·decide
 split <;> decide
theorem zqB (b : List Nat) (p c : Nat) : TD (tokB b p c).t := by
 unfold tokB
 split
 ·intro h; cases h
 split
 ·unfold gj
  split <;> (intro h; cases h)
 split
 ·intro h; cases h
 split
 ·exact fun h => absurd h (zzh c)
 split
 ·unfold kO
  split <;> exact fun _ => ⟨⟨4, _, _, _, rfl, by decide, by decide⟩, rfl⟩
 split
 ·exact zuL b p
 split
 ·exact zsl _ _
 ·intro h; cases h
theorem zqD (b : List Nat) (p : Nat) : TD (tokR b p).t := by
 unfold tokR
 rw [(pA b (tokB b p (ww b p)) (tokL b p (ww b p))).2.1]
 exact zqB b p _
mutual
def wW : DT → List DT
 | .mk k n t ks p => if k = .ofNat 6 ∧ ks.length = 2 ∨ k = .ofNat 7 then wX ks else if .ofNat 1 ≤ k ∧ k ≤ .ofNat 5 then [.mk k n t ks p] else []
def wX : List DT → List DT
 | [] => []
 | d :: r => wW d ++ wX r
end
theorem lc : ∀ a b : List DT, wX (a ++ b) = wX a ++ wX b
 | [], b => by simp only [znO, wX]
 | d :: a, b => by simp only [y8, wX, lc a b, znY]
theorem UK {x y : DT} (h : xQ d = some (x, y)) : wW d = wW x ++ wW y := by
 obtain ⟨k, n, t, ks, p⟩ := d
 obtain ⟨rfl, rfl⟩ := w6 h
 simp only [wW, wX]
 rw [if_pos (.inl ⟨trivial, rfl⟩), xi]
mutual
theorem Kt : ∀ d : DT, (wW d).length ≤ xL d
 | .mk k n t ks p => by
  have := YZ ks
  simp only [wW, xL]
  split
  ·omega
  split
  ·simp only [yY, yX]; omega
  ·simp
theorem YZ : ∀ l : List DT, (wX l).length ≤ x5 l
 | [] => zq _
 | d :: r => by
  have := Kt d
  have := YZ r
  simp only [wX, x5, ye]; omega
end
theorem pe : ∀ a b : List DT, x5 (a ++ b) = x5 a + x5 b
 | [], b => by simp only [znO, x5]; omega
 | d :: a, b => by simp only [y8, x5, pe a b]; omega
theorem YY (h : zwr d) : wW d = [d] := by
 obtain ⟨k, n, t, p, rfl, h1, h2⟩ := h
 simp only [wW]
 rw [if_neg, if_pos]
 ·exact ⟨Int.ofNat_le.2 h1, Int.ofNat_le.2 h2⟩
 ·rintro (⟨_, h⟩ | h)
  ·simp at h
  ·cases h; omega
theorem HT (h : zwr d) : xL d = 1 := by
 obtain ⟨k, n, t, p, rfl, h1, h2⟩ := h
 rfl
theorem lL (e : DT) : wP [] e = e := rfl
theorem q9 (x : DT) (l : List DT) (e : DT) : wP (x :: l) e = kB x (wP l e) := rfl
theorem kv (e : DT) : ∀ l : List DT, wW (wP l e) = wX l ++ wW e
 | [] => by simp only [lL, wX, znO]
 | x :: l => by
  rw [q9, UK (x := x) (y := wP l e) (by simp only [kB, xQ, if_true]), kv e l]
  simp only [wX, znY]
theorem kh (e : DT) : ∀ l : List DT, xL (wP l e) = x5 l + l.length + xL e
 | [] => by simp only [lL, x5, yX]; omega
 | x :: l => by
  rw [q9, kB]
  simp only [xL, x5, yY]
  rw [kh e l]; omega
theorem VH (d : DT) (p : Int) : xL (atD d p) = xL d := by cases d; rfl
theorem pI (p : Int) : wW (vA p) = [] := rfl
theorem Wy {l : List DT} (e : DT) (p : Int) (h : l ≠ [] ∨ wW e = [] ∧ xU e = .ofNat 0) : wW (atD (wP l e) p) = wX l ++ wW e := by
 cases l with
 | nil =>
  rcases h with h | ⟨h, h2⟩
  ·exact absurd rfl h
  ·obtain ⟨k, n, t, ks, q⟩ := e
   simp only [xU] at h2
   subst h2
   rw [h]
   rfl
 | cons x l =>
  rw [← kv, q9, kB]
  simp only [atD, wW]
  rw [if_pos (.inl ⟨trivial, rfl⟩), if_pos (.inl ⟨trivial, rfl⟩)]
def Ww (t : Tok) : List DT := if t.kind = 7 then [t.d] else if t.kind = 3 then [uU t.pos] else []
def stM (m : Nat) (t : Tok) : Nat := if t.kind = 5 then m + 1 else if t.kind = 2 then 0 else m
def tkvL : Nat → List Tok → List DT
 | _, [] => []
 | m, t :: r => (if stM m t = 0 then Ww t else []) ++ tkvL (stM m t) r
theorem lV {t : Tok} {r : List Tok} (h : t.kind ≠ 7) (h3 : t.kind ≠ 3) (h5 : t.kind ≠ 5) : tkvL 0 (t :: r) = tkvL 0 r := by
 have e : stM 0 t = 0 := by unfold stM; rw [if_neg h5]; split <;> rfl
 rw [tkvL, e, Ww, if_neg h, if_neg h3]; rfl
def LvR (ts : List Tok) (rec : Rec) : Prop := ∀ op s, s.at_ ≤ ts.length → (rec op s).2.err = 0 → tkvL 0 (ts.drop s.at_) = wW (rec op s).1 ++ tkvL 0 (ts.drop (rec op s).2.at_) ∧ xL (rec op s).1 + 5 * s.at_ + 1 ≤ 5 * (rec op s).2.at_
theorem wz {α : Type} {l : List α} {i : Nat} {x : α} {r : List α} (h : l.drop i = x :: r) : l.drop (i + 1) = r := by
 rw [← z4, h]; rfl
theorem jP {ts : List Tok} {dt : Rec} (hd : gD ts dt) (hl : LvR ts dt) (op : Nat) (dots : Bool) : ∀ (k : Nat) (acc : List DT) (s : RS), s.at_ ≤ ts.length → (ts.length + 1 < k + s.at_ ∨ s.err ≠ 0 ∧ 1 ≤ k) → (xE dt ts op dots k acc s).2.2.err = 0 →
  ∃ l, (xE dt ts op dots k acc s).1 = acc ++ l ∧ tkvL 0 (ts.drop s.at_) = wX l ++ tkvL 0 (ts.drop (xE dt ts op dots k acc s).2.2.at_) ∧ x5 l + l.length + 5 * s.at_ + 5 ≤ 5 * (xE dt ts op dots k acc s).2.2.at_ ∧
   ((xE dt ts op dots k acc s).2.1.kind = 2 ∨ (xE dt ts op dots k acc s).2.1.kind = 6 ∧ acc ++ l ≠ [])
 | 0, acc, s, h, hf, he => by omega
 | k + 1, acc, s, h, hf, he => by
  have h1 := hd op s h
  simp only [xE] at he ⊢
  by_cases he0 : s.err ≠ 0
  ·rw [if_pos he0] at he; exact absurd he he0
  rw [if_neg he0] at he ⊢
  have he0 : s.err = 0 := by omega
  cases hdr : ts.drop s.at_ with
  | nil =>
   rw [hdr] at he
   simp only at he ⊢
   have h4 := u0 hdr
   exfalso
   have h5 : (dt op s).2.err ≠ 0 := fun e => by have := h1.2.2.2.1 e; have := h1.2.1; omega
   have := (qj hd op dots k (acc ++ [(dt op s).1]) (dt op s).2 h1.2.1).2.2 h5
   omega
  | cons t r =>
   rw [hdr] at he
   simp only at he ⊢
   have hlt := qE hdr
   split at he
   ·rename_i hc
    rw [if_pos hc]
    have hk : tkvL 0 (t :: r) = tkvL 0 (ts.drop s.nx.at_) := by
     rw [show ts.drop s.nx.at_ = r from wz hdr]
     exact lV (by omega) (by omega) (by omega)
    refine ⟨[], by simp, by rw [hk]; rfl, ?_, ?_⟩
    ·simp only [x5, yX, RS.nx]; omega
    ·rcases hc with hc | ⟨h6, hn, _⟩
     ·exact .inl hc
     ·exact .inr ⟨h6, by simpa using hn⟩
   ·rename_i hc
    rw [if_neg hc]
    have h5 : (dt op s).2.err = 0 := by
     by_cases e : (dt op s).2.err = 0
     ·exact e
     ·have := (qj hd op dots k (acc ++ [(dt op s).1]) (dt op s).2 h1.2.1).2.2 e
      omega
    obtain ⟨l, g1, g2, g3, g4⟩ := jP hd hl op dots k (acc ++ [(dt op s).1]) (dt op s).2 h1.2.1 (.inl (by have := h1.2.2.2.1 h5; omega)) he
    obtain ⟨q1, q2⟩ := hl op s h h5
    refine ⟨(dt op s).1 :: l, by rw [g1]; simp, ?_, ?_, ?_⟩
    ·rw [← hdr, q1, g2]; simp only [wX, znY]
    ·simp only [x5, yY]; omega
    ·rcases g4 with g4 | ⟨g4, _⟩
     ·exact .inl g4
     ·exact .inr ⟨g4, by simp⟩
theorem Ls {t : Tok} {r : List Tok} (m : Nat) (h : t.kind = 7) : tkvL (m + 1) (t :: r) = tkvL (m + 1) r := by
 have e : stM (m + 1) t = m + 1 := by unfold stM; rw [h]; rfl
 rw [tkvL, e]; rfl
theorem lZ {ts : List Tok} (op : Nat) : ∀ (k : Nat) (out : List Nat) (s : RS), ts.length < k + s.at_ → s.at_ ≤ ts.length → s.err = 0 → (qP ts op k out s).2.err = 0 →
  tkvL 1 (ts.drop s.at_) = tkvL 0 (ts.drop (qP ts op k out s).2.at_) ∧ s.at_ < (qP ts op k out s).2.at_ ∧ wW (qP ts op k out s).1 = [] ∧ xL (qP ts op k out s).1 = 1
 | 0, _, s, h, h', _, _ => by omega
 | k + 1, out, s, h, h', h0, he => by
  simp only [qP] at he ⊢
  cases hdr : ts.drop s.at_ with
  | nil =>
   rw [hdr] at he
   exact absurd he (qY s op (by decide))
  | cons t r =>
   rw [hdr] at he
   simp only at he ⊢
   have hlt := qE hdr
   have hr : ts.drop (s.at_ + 1) = r := wz hdr
   by_cases h2 : t.kind = 2
   ·rw [if_pos h2]
    have e : stM 1 t = 0 := by unfold stM; rw [h2]; rfl
    have e2 : Ww t = [] := by unfold Ww; rw [h2]; rfl
    refine ⟨by rw [tkvL, e, e2]; simp only [RS.nx, hr]; rfl, Nat.lt_succ_self _, rfl, rfl⟩
   ·rw [if_neg h2] at he ⊢
    by_cases hc : t.kind = 7 ∧ pG t.d
    ·rw [if_pos hc] at he ⊢
     obtain ⟨g1, g2, g3, g4⟩ := lZ op k (out ++ [(qy (xV t.d)).1.toNat]) s.nx (by simp only [RS.nx]; omega) hlt h0 he
     refine ⟨by rw [Ls 0 hc.1, ← hr]; exact g1, ?_, g3, g4⟩
     have e : s.nx.at_ = s.at_ + 1 := rfl
     rw [e] at g2
     exact Nat.lt_of_succ_lt g2
    ·rw [if_neg hc] at he
     exact absurd he (qY s t.pos (by decide))
theorem UJ (op : Nat) (l : List DT) (e : DT) (s : RS) (h : s.at_ ≤ ts.length) (he : (vY ts op l e s).2.err = 0) (hl : l ≠ []) :
  tkvL 0 (ts.drop s.at_) = tkvL 0 (ts.drop (vY ts op l e s).2.at_) ∧ wW (vY ts op l e s).1 = wX l ++ wW e ∧ xL (vY ts op l e s).1 = x5 l + l.length + xL e ∧ (vY ts op l e s).2.at_ = s.at_ + 1 ∧ s.err = 0 := by
 unfold vY at he ⊢
 cases hdr : ts.drop s.at_ with
 | nil => rw [hdr] at he; exact absurd he (qY s op (by decide))
 | cons t r =>
  rw [hdr] at he
  simp only at he ⊢
  by_cases h2 : t.kind = 2
  ·rw [if_pos h2] at he ⊢
   refine ⟨?_, Wy e _ (.inl hl), by rw [VH, kh], rfl, he⟩
   simp only [RS.nx]
   rw [wz hdr]
   exact lV (by omega) (by omega) (by omega)
  ·rw [if_neg h2] at he; exact absurd he (qY s t.pos (by decide))
theorem Qz {ts : List Tok} {rec : Rec} {full : Bool} (hk : ∀ t ∈ ts, t.kind ≤ 7 ∧ TD t) (hd : full = false → gD ts rec ∧ LvR ts rec) {t : Tok} {r : List Tok} (s : RS) (hdr : ts.drop s.at_ = t :: r) (ht : t.kind ≠ 0) (he : (wO rec full ts t s.nx).2.err = 0) (h0 : s.err = 0) :
  tkvL 0 (t :: r) = wW (wO rec full ts t s.nx).1 ++ tkvL 0 (ts.drop (wO rec full ts t s.nx).2.at_) ∧ xL (wO rec full ts t s.nx).1 + 5 * s.at_ + 1 ≤ 5 * (wO rec full ts t s.nx).2.at_ := by
 have hlt := qE hdr
 have hr : ts.drop s.nx.at_ = r := wz hdr
 have hn : s.nx.at_ = s.at_ + 1 := rfl
 have hmem : t ∈ ts := znS (by rw [hdr]; exact zn6)
 obtain ⟨hk7, htd⟩ := hk t hmem
 unfold wO at he ⊢
 by_cases h7 : t.kind = 7
 ·rw [if_pos h7]
  obtain ⟨hlf, _⟩ := htd h7
  have e : stM 0 t = 0 := by unfold stM; rw [h7]; rfl
  simp only [YY hlf, HT hlf]
  refine ⟨by rw [tkvL, e, hr]; unfold Ww; rw [if_pos h7]; rfl, by omega⟩
 rw [if_neg h7] at he ⊢
 by_cases h26 : t.kind = 2 ∨ t.kind = 6
 ·rw [if_pos h26] at he; exact absurd he (qY s.nx t.pos (by decide))
 rw [if_neg h26] at he ⊢
 by_cases hf : full = true
 ·rw [if_pos hf] at he; exact absurd he (qY s.nx t.pos (by decide))
 rw [if_neg hf] at he ⊢
 obtain ⟨hfin, hlv⟩ := hd (by simpa using hf)
 by_cases h3 : t.kind = 3
 ·rw [if_pos h3] at he ⊢
  simp only [quoF] at he ⊢
  obtain ⟨q1, q2⟩ := hlv t.pos s.nx hlt he
  rw [hr] at q1
  have e : stM 0 t = 0 := by unfold stM; rw [h3]; rfl
  refine ⟨?_, ?_⟩
  ·rw [kv, tkvL, e, q1, pI]
   have e2 : Ww t = [uU t.pos] := by unfold Ww; rw [h3]; rfl
   have e3 : wW (uU t.pos) = [uU t.pos] := YY ⟨5, _, _, _, rfl, by decide, by decide⟩
   rw [e2]
   simp only [wX, e3, xi, if_true, znY]
  ·rw [kh]
   have e3 : xL (uU t.pos) = 1 := rfl
   have e4 : xL (vA (posD (rec t.pos s.nx).1)) = 1 := rfl
   simp only [x5, e3, e4, yY, yX]; omega
 rw [if_neg h3] at he ⊢
 have hfu : ts.length + 1 < (ts.length + 3) + s.nx.at_ := by omega
 by_cases h1 : t.kind = 1
 ·rw [if_pos h1] at he ⊢
  have hit := qj hfin t.pos true (ts.length + 3) [] s.nx hlt
  have hlv2 := jP hfin hlv t.pos true (ts.length + 3) [] s.nx hlt (.inl hfu)
  have e0 : tkvL 0 (t :: r) = tkvL 0 r := lV h7 h3 (by omega)
  rw [e0]
  unfold lf itF at he ⊢
  by_cases h6 : (xE rec ts t.pos true (ts.length + 3) [] s.nx).2.1.kind = 6
  ·rw [if_pos h6] at he ⊢
   have hft := hfin t.pos (xE rec ts t.pos true (ts.length + 3) [] s.nx).2.2 hit.2.1
   have hlv3 := hlv t.pos (xE rec ts t.pos true (ts.length + 3) [] s.nx).2.2 hit.2.1
   have hla := UJ t.pos (xE rec ts t.pos true (ts.length + 3) [] s.nx).1 (rec t.pos (xE rec ts t.pos true (ts.length + 3) [] s.nx).2.2).1 (rec t.pos (xE rec ts t.pos true (ts.length + 3) [] s.nx).2.2).2 hft.2.1 he
   have herr : (rec t.pos (xE rec ts t.pos true (ts.length + 3) [] s.nx).2.2).2.err = 0 := by
    have hx := Yf t.pos (xE rec ts t.pos true (ts.length + 3) [] s.nx).1 (rec t.pos (xE rec ts t.pos true (ts.length + 3) [] s.nx).2.2).1 (rec t.pos (xE rec ts t.pos true (ts.length + 3) [] s.nx).2.2).2 hft.2.1
    by_cases e : (rec t.pos (xE rec ts t.pos true (ts.length + 3) [] s.nx).2.2).2.err = 0
    ·exact e
    ·have := hx.2.2 e; omega
   have herr2 : (xE rec ts t.pos true (ts.length + 3) [] s.nx).2.2.err = 0 := by
    by_cases e : (xE rec ts t.pos true (ts.length + 3) [] s.nx).2.2.err = 0
    ·exact e
    ·have := hft.2.2.1 e; omega
   obtain ⟨l, g1, g2, g3, g4⟩ := hlv2 herr2
   obtain ⟨q1, q2⟩ := hlv3 herr
   have hne : (xE rec ts t.pos true (ts.length + 3) [] s.nx).1 ≠ [] := by
    rcases g4 with g4 | ⟨_, g4⟩
    ·omega
    ·rw [g1]; exact g4
   obtain ⟨p1, p2, p3, p4, _⟩ := hla hne
   rw [znO] at g1
   rw [hr] at g2
   refine ⟨?_, ?_⟩
   ·rw [g2, q1, p1, p2, g1, znY]
   ·rw [p3, p4, g1]; omega
  ·rw [if_neg h6] at he ⊢
   simp only at he ⊢
   obtain ⟨l, g1, g2, g3, g4⟩ := hlv2 he
   rw [znO] at g1
   rw [hr] at g2
   rw [g1]
   refine ⟨?_, ?_⟩
   ·rw [Wy _ _ (.inr ⟨pI _, rfl⟩), pI, xi, g2]
   ·rw [VH, kh]
    have e4 : ∀ p, xL (vA p) = 1 := fun _ => rfl
    rw [e4]; omega
 rw [if_neg h1] at he ⊢
 by_cases h4 : t.kind = 4
 ·rw [if_pos h4] at he ⊢
  have hlv2 := jP hfin hlv t.pos false (ts.length + 3) [] s.nx hlt (.inl hfu)
  have e0 : tkvL 0 (t :: r) = tkvL 0 r := lV h7 h3 (by omega)
  rw [e0]
  unfold vecF itF at he ⊢
  simp only at he ⊢
  obtain ⟨l, g1, g2, g3, g4⟩ := hlv2 he
  rw [znO] at g1
  rw [hr] at g2
  rw [g1]
  refine ⟨?_, ?_⟩
  ·simp only [wW]; rw [if_pos (.inr trivial), g2]
  ·simp only [xL]; omega
 rw [if_neg h4] at he ⊢
 have h5 : t.kind = 5 := by omega
 unfold byF at he ⊢
 obtain ⟨g1, g2, g3, g4⟩ := lZ t.pos (ts.length + 1) [] s.nx (by omega) hlt h0 he
 rw [hr] at g1
 have e : stM 0 t = 1 := by unfold stM; rw [h5]; rfl
 refine ⟨?_, by omega⟩
 rw [tkvL, e, g1, g3]; rfl
theorem YN {ts : List Tok} {rec : Rec} {full : Bool} (hk : ∀ t ∈ ts, t.kind ≤ 7 ∧ TD t) (hz : ∀ t ∈ ts, t.kind ≠ 0) (hd : full = false → gD ts rec ∧ LvR ts rec) : LvR ts (datG rec full ts) := fun op s h he => by
 have hs : s.err = 0 := by
  by_cases e : s.err = 0
  ·exact e
  ·have := (lD (rec := rec) (full := full) (fun e => (hd e).1) op s h).2.2.1 e
   omega
 unfold datG at he ⊢
 cases hdr : ts.drop s.at_ with
 | nil => rw [hdr] at he; exact absurd he (qY s op (by decide))
 | cons t r =>
  rw [hdr] at he
  simp only at he ⊢
  exact Qz hk hd s hdr (hz t (znS (by rw [hdr]; exact zn6))) he hs
theorem YM {ts : List Tok} (hk : ∀ t ∈ ts, t.kind ≤ 7 ∧ TD t) (hz : ∀ t ∈ ts, t.kind ≠ 0) : ∀ n, LvR ts (datF n ts)
 | 0 => YN hk hz (fun e => by cases e)
 | n + 1 => YN hk hz (fun _ => ⟨uw ts n, YM hk hz n⟩)
theorem Zy {ts : List Tok} (hk : ∀ t ∈ ts, t.kind ≤ 7 ∧ TD t) (hz : ∀ t ∈ ts, t.kind ≠ 0) : ∀ (k : Nat) (acc : List DT) (s : RS), s.at_ ≤ ts.length → ts.length < k + s.at_ → (uF ts k acc s).2.1 = 0 →
  wX (uF ts k acc s).1 = wX acc ++ tkvL 0 (ts.drop s.at_) ∧ x5 (uF ts k acc s).1 ≤ x5 acc + 5 * (ts.length - s.at_)
 | 0, acc, s, h, hf, _ => by omega
 | k + 1, acc, s, h, hf, he => by
  simp only [uF] at he ⊢
  by_cases hlt : s.at_ < ts.length
  ·rw [if_pos hlt] at he ⊢
   by_cases h0 : (datF 200 ts 0 s).2.err = 0
   ·rw [if_pos h0] at he ⊢
    have h1 := uw ts 200 0 s h
    have h3 := h1.2.2.2.1 h0
    obtain ⟨q1, q2⟩ := YM hk hz 200 0 s h h0
    obtain ⟨g1, g2⟩ := Zy hk hz k (acc ++ [(datF 200 ts 0 s).1]) (datF 200 ts 0 s).2 h1.2.1 (by omega) he
    refine ⟨?_, ?_⟩
    ·rw [g1, q1, lc]; simp only [wX, xi, znY]
    ·have e : x5 (acc ++ [(datF 200 ts 0 s).1]) = x5 acc + xL (datF 200 ts 0 s).1 := by
      rw [pe]; simp only [x5]; omega
     have := h1.2.1
     omega
   ·rw [if_neg h0] at he; exact absurd he h0
  ·rw [if_neg hlt]
   have e : ts.drop s.at_ = [] := List.drop_eq_nil_of_le (by omega)
   rw [e]
   exact ⟨by simp [tkvL], by simp⟩
theorem zq3 (w : List Nat) (p : Nat) : (vo w p).kind ≤ 7 := by
 unfold vo
 split
 ·exact znR rfl
 ·split <;> exact znR rfl
theorem zrW (b : List Nat) (p : Nat) : (qd b p).t.kind ≤ 7 := by
 unfold qd
 split
 ·exact znR rfl
 split
 ·unfold pb
  split <;> exact znR rfl
 ·unfold ve
  split
  ·exact znR rfl
  split
  ·exact znR rfl
  split <;> exact znR rfl
theorem zqc (c : Nat) : parK c ≤ 7 := by
 unfold parK
 split
 ·decide
 split <;> decide
theorem zoq (b : List Nat) (p c : Nat) : (tokB b p c).t.kind ≤ 7 := by
 unfold tokB
 split
 ·exact znR rfl
 split
 ·unfold gj
  split <;> exact znR rfl
 split
 ·exact znR rfl
 split
 ·exact zqc c
 split
 ·unfold kO
  split <;> exact znR rfl
 split
 ·exact zrW b p
 split
 ·exact zq3 _ _
 ·exact znR rfl
theorem zos (b : List Nat) (p : Nat) : (tokR b p).t.kind ≤ 7 := by
 unfold tokR
 rw [(pA b (tokB b p (ww b p)) (tokL b p (ww b p))).2.1]
 exact zoq b p _
theorem zuz {b : List Nat} (hb : PreS b) : ∀ t ∈ (lexS b).1, t.kind ≤ 7 ∧ TD t :=
 (le hb.1 hb.2 (fun t => t.kind ≤ 7 ∧ TD t) (fun p _ _ _ => ⟨zos b p, zqD b p⟩)).2
theorem PK {b : List Nat} (hb : PreS b) : ∀ t ∈ (lexS b).1, t.kind ≠ 0 :=
 (le hb.1 hb.2 (fun t => t.kind ≠ 0) (fun _ _ _ hk => hk)).2
theorem Gf (hb : PreS b) (hl : (lexS b).2.1 = 0) (he : (v3 b).2.1 = 0) : wX (v3 b).1 = tkvL 0 (lexS b).1 ∧ x5 (v3 b).1 ≤ 5 * b.length := by
 unfold v3 at he ⊢
 rw [if_pos hl] at he ⊢
 obtain ⟨g1, g2⟩ := Zy (zuz hb) (PK hb) ((lexS b).1.length + 1) [] ⟨0, 0, 0⟩ (zN _) (by simp only; omega) he
 have h3 : (lexS b).1.length ≤ b.length := (le hb.1 hb.2 (fun _ => True) (fun _ _ _ _ => trivial)).1
 refine ⟨by unfold jQ; rw [g1]; simp [wX], ?_⟩
 unfold jQ
 simp only [x5] at g2
 omega
mutual
def er : DT → DT
 | .mk k n t ks _ => .mk k n t (erL ks) (.ofNat 0)
def erL : List DT → List DT
 | [] => []
 | d :: r => er d :: erL r
end
theorem Ut : ∀ l : List DT, (erL l).length = l.length
 | [] => rfl
 | d :: r => by simp only [erL, yY, Ut r]
theorem Zj (d : DT) : xU (er d) = xU d := by cases d; rfl
theorem HA (d : DT) : numD (er d) = numD d := by cases d; rfl
theorem Xk (d : DT) : xV (er d) = xV d := by cases d; rfl
theorem Uu (d : DT) : qn (er d) = erL (qn d) := by cases d; rfl
theorem Hz (d : DT) (p : Int) : er (atD d p) = er d := by cases d; rfl
mutual
theorem WJ : ∀ d : DT, xL (er d) = xL d
 | .mk k n t ks p => by simp only [er, xL, lP ks]
theorem lP : ∀ l : List DT, x5 (erL l) = x5 l
 | [] => rfl
 | d :: r => by simp only [erL, x5, WJ d, lP r]
end
theorem Yd (d : DT) : xQ (er d) = (xQ d).map fun p => (er p.1, er p.2) := by
 obtain ⟨k, n, t, ks, p⟩ := d
 match ks with
 | [] => rfl
 | [x] => rfl
 | [x, y] =>
  simp only [er, erL, xQ]
  split <;> rfl
 | x :: y :: z :: r => rfl
theorem Vu : ∀ (k : Nat) (d : DT), xL d < k → (xr (er d)).1 = erL (xr d).1 ∧ (xr (er d)).2 = er (xr d).2
 | 0, d, h => by omega
 | k + 1, d, h => by
  have hk := Yd d
  cases hd : xQ d with
  | none => rw [hd] at hk; rw [w5 hd, w5 hk]; exact ⟨rfl, rfl⟩
  | some q =>
   obtain ⟨x, y⟩ := q
   rw [hd] at hk
   have hn := qC hd
   have := wh x
   obtain ⟨g1, g2⟩ := Vu k y (by omega)
   rw [wC hd, wC hk]
   exact ⟨by simp only [erL, g1], g2⟩
theorem LX {f : DT → List Nat} (h : ∀ x, f (er x) = f x) : ∀ l : List DT, qF f (erL l) = qF f l ∧ allT f (erL l) = allT f l
 | [] => ⟨rfl, rfl⟩
 | d :: r => by
  have ih := LX h r
  simp only [erL, qF, allT, h, ih.1, and_self]
theorem Ly (disp : Bool) : ∀ (n : Nat) (d : DT), txN disp n (er d) = txN disp n d
 | 0, _ => rfl
 | n + 1, d => by
  have ih := Ly disp n
  have hi := Vu _ d (Nat.lt_succ_self _)
  have e : endT (txN disp n) (er (xr d).2) = endT (txN disp n) (xr d).2 := by unfold endT; rw [Zj, ih]
  simp only [txN, txK, Zj, HA, Xk, Uu, (LX ih _).2, hi.1, hi.2, e]
theorem zzq {a b : DT} (h : er a = er b) : txN disp n a = txN disp n b := by rw [← Ly, h, Ly]
theorem XC : ∀ {l m : List DT}, erL l = erL m → (∀ x ∈ l, ∀ y, er x = er y → vh x y = true) → qf vh l m = true
 | [], [], _, _ => rfl
 | [], _ :: _, h, _ => by simp [erL] at h
 | _ :: _, [], h, _ => by simp [erL] at h
 | x :: l, y :: m, h, hs => by
  simp only [erL, List.cons.injEq] at h
  simp only [qf, hs x (by simp) y h.1, XC h.2 fun z hz => hs z (by simp [hz]), y6]
theorem lu : ∀ (k : Nat) (a b : DT), xL a < k → er a = er b → vh a b = true
 | 0, a, b, h, _ => by omega
 | k + 1, a, b, h, he => by
  have ha := Yd a
  have hb := Yd b
  rw [he] at ha
  cases hka : xQ a with
  | none =>
   have hkb : xQ b = none := by
    rw [hka] at ha
    rw [ha] at hb
    cases hq : xQ b with
    | none => rfl
    | some q => rw [hq] at hb; cases hb
   rw [WX (.inl hka)]
   have e1 := congrArg xU he
   have e2 := congrArg numD he
   have e3 := congrArg xV he
   have e4 := congrArg qn he
   rw [Zj, Zj] at e1
   rw [HA, HA] at e2
   rw [Xk, Xk] at e3
   rw [Uu, Uu] at e4
   have hn := vM a
   rw [e1, e2, e3, zvm, zvm, Zi, XC e4 fun x hx y hxy => lu k x y (by have := qb hx; omega) hxy]
   rfl
  | some p =>
   rw [hka] at ha
   rw [ha] at hb
   cases hq : xQ b with
   | none => rw [hq] at hb; cases hb
   | some q =>
    rw [hq] at hb
    simp only [Option.map_some, zy, Prod.mk.injEq] at hb
    have hn := qC (x := p.1) (y := p.2) hka
    have h1 := wh p.1
    have h2 := wh p.2
    rw [WY hka hq, lu k p.1 q.1 (by omega) hb.1, lu k p.2 q.2 (by omega) hb.2]
    rfl
theorem JG {c : Nat} (h : xB c = true) (r : List Nat) : decL (encC c ++ r) = (c, (encC c).length) := by
 have hv := xH.1 h
 rw [ug]
 by_cases h1 : c < 128
 ·rw [if_pos h1]
  exact kZ h1 r
 rw [if_neg h1]
 by_cases h2 : c < 2048
 ·rw [if_pos h2]
  have e : dec2 (192 + c / 64) (128 + c % 64) = c := by show (192 + c / 64) % 32 * 64 + (128 + c % 64) % 64 = c; omega
  have k1 : ¬ 192 + c / 64 < 128 := by omega
  have k2 : (192 + c / 64) / 32 = 6 ∧ (128 + c % 64) / 64 = 2 ∧ 128 ≤ dec2 (192 + c / 64) (128 + c % 64) := ⟨by omega, by omega, by rw [e]; omega⟩
  match r with
  | [] => exact (XU _ _).trans (by rw [if_neg k1, if_pos k2, e]; rfl)
  | [x] => exact (ZZ _ _ _).trans (by rw [if_neg k1, if_pos k2, e]; rfl)
  | x :: y :: r => exact (gY _ _ _ _ _).trans (by rw [if_neg k1, if_pos k2, e]; rfl)
 rw [if_neg h2]
 by_cases h3 : c < 65536
 ·rw [if_pos h3]
  have e : dec3 (224 + c / 4096) (128 + c / 64 % 64) (128 + c % 64) = c := by show (224 + c / 4096) % 16 * 4096 + (128 + c / 64 % 64) % 64 * 64 + (128 + c % 64) % 64 = c; omega
  have k1 : ¬ 224 + c / 4096 < 128 := by omega
  have k2 : ¬ ((224 + c / 4096) / 32 = 6 ∧ (128 + c / 64 % 64) / 64 = 2 ∧ 128 ≤ dec2 (224 + c / 4096) (128 + c / 64 % 64)) := fun h => by have := h.1; omega
  have k3 : (224 + c / 4096) / 16 = 14 ∧ (128 + c / 64 % 64) / 64 = 2 ∧ (128 + c % 64) / 64 = 2 ∧ 2048 ≤ dec3 (224 + c / 4096) (128 + c / 64 % 64) (128 + c % 64) ∧ xB (dec3 (224 + c / 4096) (128 + c / 64 % 64) (128 + c % 64)) = true := ⟨by omega, by omega, by omega, by rw [e]; omega, by rw [e]; exact h⟩
  match r with
  | [] => exact (ZZ _ _ _).trans (by rw [if_neg k1, if_neg k2, if_pos k3, e]; rfl)
  | x :: r => exact (gY _ _ _ _ _).trans (by rw [if_neg k1, if_neg k2, if_pos k3, e]; rfl)
 rw [if_neg h3]
 have e : dec4 (240 + c / 262144) (128 + c / 4096 % 64) (128 + c / 64 % 64) (128 + c % 64) = c := by show (240 + c / 262144) % 8 * 262144 + (128 + c / 4096 % 64) % 64 * 4096 + (128 + c / 64 % 64) % 64 * 64 + (128 + c % 64) % 64 = c; omega
 have k1 : ¬ 240 + c / 262144 < 128 := by omega
 have k2 : ¬ ((240 + c / 262144) / 32 = 6 ∧ (128 + c / 4096 % 64) / 64 = 2 ∧ 128 ≤ dec2 (240 + c / 262144) (128 + c / 4096 % 64)) := fun h => by have := h.1; omega
 have k3 : ¬ ((240 + c / 262144) / 16 = 14 ∧ (128 + c / 4096 % 64) / 64 = 2 ∧ (128 + c / 64 % 64) / 64 = 2 ∧ 2048 ≤ dec3 (240 + c / 262144) (128 + c / 4096 % 64) (128 + c / 64 % 64) ∧ xB (dec3 (240 + c / 262144) (128 + c / 4096 % 64) (128 + c / 64 % 64)) = true) := fun h => by have := h.1; omega
 have k4 : (240 + c / 262144) / 8 = 30 ∧ (128 + c / 4096 % 64) / 64 = 2 ∧ (128 + c / 64 % 64) / 64 = 2 ∧ (128 + c % 64) / 64 = 2 ∧ 65536 ≤ dec4 (240 + c / 262144) (128 + c / 4096 % 64) (128 + c / 64 % 64) (128 + c % 64) ∧ xB (dec4 (240 + c / 262144) (128 + c / 4096 % 64) (128 + c / 64 % 64) (128 + c % 64)) = true := ⟨by omega, by omega, by omega, by omega, by rw [e]; omega, by rw [e]; exact h⟩
 exact (gY _ _ _ _ _).trans (by rw [if_neg k1, if_neg k2, if_neg k3, if_pos k4, e]; rfl)
theorem p6 {c : Nat} (h : xB c = true) (r : List Nat) : decR (encC c ++ r) = some (c, (encC c).length) := by
 unfold decR
 rw [JG h]
 rw [if_neg]
 rintro ⟨h1, h2⟩
 simp only at h1 h2
 subst h1
 simp [ug] at h2
def encs : List Nat → List Nat
 | [] => []
 | c :: r => encC c ++ encs r
theorem YQ : ∀ a b : List Nat, encs (a ++ b) = encs a ++ encs b
 | [], b => rfl
 | c :: a, b => by simp only [y8, encs, YQ a b, znY]
theorem Q2 (c : Nat) : ∃ x r, encC c = x :: r := by
 have := (wS c).1
 cases h : encC c with
 | nil => rw [h] at this; simp at this
 | cons x r => exact ⟨x, r, rfl⟩
def IntT (t : List Nat) : Prop := t = [48] ∨ ∃ c d, (c :: d).all x8 = true ∧ c ≠ 48 ∧ (t = c :: d ∨ t = 45 :: c :: d)
def SymT (t : List Nat) : Prop := t ≠ [] ∧ t.all xY = true ∧ t ≠ [46] ∧ intR t = none
def OkA : DT → Prop
 | .mk k n t ks _ => ks = [] ∧ t.length < 1000000 ∧ ((k = .ofNat 1 ∧ t = [] ∧ (n = .ofNat 0 ∨ n = .ofNat 1)) ∨ (k = .ofNat 2 ∧ n = .ofNat 0 ∧ IntT t) ∨ (k = .ofNat 3 ∧ t = [] ∧ ∃ c, n = .ofNat c ∧ xB c = true) ∨ (k = .ofNat 4 ∧ n = .ofNat 0 ∧ ∃ cs, (∀ c ∈ cs, xB c = true) ∧ t = encs cs) ∨ (k = .ofNat 5 ∧ n = .ofNat 0 ∧ SymT t))
theorem zvc {p q : Nat → Bool} : ∀ {l : List Nat}, l.all q = true → (l.dropWhile p).all q = true
 | [], _ => rfl
 | c :: r, h => by
  simp only [znP, zm] at h
  rw [zn3]
  split
  ·exact zvc h.2
  ·simp only [znP, h.1, h.2, y6]
theorem Pi {p : Nat → Bool} : ∀ {l : List Nat} {c : Nat} {r : List Nat}, l.dropWhile p = c :: r → p c = false
 | [], _, _, h => by simp at h
 | x :: l, c, r, h => by
  rw [zn3] at h
  split at h
  ·exact Pi h
  ·rename_i hx
   cases h
   simpa using hx
theorem zp0 {run s : List Nat} (h : intR run = some s) : IntT s := by
 unfold intR at h
 split at h
 ·cases h
 ·rename_i hc
  simp only [zy] at h
  have hall : (digR run).all x8 = true := by
   cases hq : (digR run).all x8 with
   | true => rfl
   | false => exact absurd (.inr (by rw [hq]; simp)) hc
  subst h
  have h1 : (qM (digR run)).all x8 = true := zvc hall
  have h2 : ∀ c r, qM (digR run) = c :: r → c ≠ 48 := fun c r e => by
   have := Pi (p := fun x => x == 48) e
   simpa using this
  cases ht : qM (digR run) with
  | nil => exact .inl rfl
  | cons c d =>
   rw [ht] at h1
   refine .inr ⟨c, d, h1, h2 c d ht, ?_⟩
   unfold intS
   rw [if_neg (by simp)]
   split
   ·exact .inr rfl
   ·exact .inl rfl
theorem IntT.num {t : List Nat} (h : IntT t) : numS t = true := by
 rcases h with rfl | ⟨c, d, h1, h2, rfl | rfl⟩
 ·rfl
 ·have hc : c ≠ 45 := fun e => by subst e; simp [x8] at h1
  simp only [numS, Yk, if_neg hc, h1, decide_eq_true h2, Bool.true_or, y6]
 ·simp only [numS, Yk, if_true, h1, decide_eq_true h2, Bool.true_or, y6]
theorem hY {c : Nat} (h : x8 c = true) : 48 ≤ c ∧ c ≤ 57 := by simpa [x8] using h
theorem Pf {c : Nat} (h : x8 c = true) : xY c = true := by
 have := hY h
 simp only [xY, zn, zm, decide_eq_true_eq]
 exact .inl (.inr ⟨this.1, this.2⟩)
theorem jp {p : Nat → Bool} {l : List Nat} (h : l.all p = true) : ∀ x ∈ l, p x = true := List.all_eq_true.1 h
theorem IntT.sym {t : List Nat} (h : IntT t) : t.all xY = true ∧ t ≠ [] ∧ Byt t ∧ t ≠ [46] := by
 rcases h with rfl | ⟨c, d, h1, h2, rfl | rfl⟩
 ·exact ⟨rfl, by simp, fun x hx => by simp at hx; omega, by decide⟩
 ·refine ⟨List.all_eq_true.2 fun x hx => Pf (jp h1 x hx), by simp, fun x hx => by have := hY (jp h1 x hx); omega, fun e => ?_⟩
  cases e; exact absurd h1 (by decide)
 ·refine ⟨?_, by simp, fun x hx => ?_, fun e => by cases e⟩
  ·rw [znP, List.all_eq_true.2 fun x hx => Pf (jp h1 x hx)]; rfl
  ·rcases List.mem_cons.1 hx with rfl | hx
   ·decide
   ·have := hY (jp h1 x hx); omega
theorem IntT.intR {t : List Nat} (h : IntT t) : intR t = some t := by
 rcases h with rfl | ⟨c, d, h1, h2, rfl | rfl⟩
 ·rfl
 ·have hd : digR (c :: d) = c :: d := by
   simp only [digR]
   rw [if_neg]
   have := hY (jp h1 c (by simp)); omega
  have ht : qM (c :: d) = c :: d := by
   unfold qM trL
   rw [zn3, if_neg (by simpa using h2)]
  unfold Ev.intR
  rw [hd, if_neg (by rw [h1]; simp), ht]
  have hc : c ≠ 45 := by have := hY (jp h1 c (by simp)); omega
  show some (if c :: d = [] then [48] else if c = 45 then 45 :: c :: d else c :: d) = _
  rw [if_neg (by simp), if_neg hc]
 ·have hd : digR (45 :: c :: d) = c :: d := by rfl
  have ht : qM (c :: d) = c :: d := by
   unfold qM trL
   rw [zn3, if_neg (by simpa using h2)]
  unfold Ev.intR
  rw [hd, if_neg (by rw [h1]; simp), ht]
  show some (if c :: d = [] then [48] else if 45 = 45 then 45 :: c :: d else c :: d) = _
  rw [if_neg (by simp)]
  exact rfl
theorem Jg : ∀ (cs : List Nat) (b pre : List Nat) (k : Nat) (acc : List (Nat × Nat)), (∀ c ∈ cs, xB c = true) → b = pre ++ encs cs → cs.length < k → ∃ l, allF b k pre.length acc = .inl l
 | [], b, pre, k, acc, _, hb, hk => by
  cases k with
  | zero => omega
  | succ k =>
   refine ⟨acc, ?_⟩
   simp only [allF]
   rw [if_pos (by rw [hb]; simp [encs])]
 | c :: cs, b, pre, k, acc, hv, hb, hk => by
  cases k with
  | zero => omega
  | succ k =>
   have hc := hv c (by simp)
   have hl := wS c
   have hd : b.drop pre.length = encC c ++ encs cs := by rw [hb]; simp [encs]
   simp only [allF]
   rw [if_neg (by rw [hb]; simp only [encs, ye]; omega), hd, p6 hc]
   simp only
   have hb2 : b = (pre ++ encC c) ++ encs cs := by rw [hb]; simp [encs]
   have := Jg cs b (pre ++ encC c) k (acc ++ [(c, pre.length)]) (fun x hx => hv x (by simp [hx])) hb2 (by simp only [yY] at hk; omega)
   rw [ye] at this
   exact this
theorem Zg : ∀ cs : List Nat, cs.length ≤ (encs cs).length
 | [] => zq _
 | c :: r => by have := (wS c).1; have := Zg r; simp only [encs, ye, yY]; omega
theorem K2 {cs : List Nat} (h : ∀ c ∈ cs, xB c = true) : okC (encs cs) = true := by
 have hl := Zg cs
 obtain ⟨l, hl⟩ := Jg cs (encs cs) [] ((encs cs).length + 1) [] h rfl (by omega)
 unfold okC pq
 rw [show ([] : List Nat).length = 0 from rfl] at hl
 rw [hl]; rfl
theorem Gi : ∀ (cs : List Nat) (k : Nat), (∀ c ∈ cs, xB c = true) → cs.length ≤ k → rgF k (encs cs) = cs
 | [], k, _, _ => by cases k <;> rfl
 | c :: cs, k, h, hk => by
  cases k with
  | zero => simp at hk
  | succ k =>
   have hc := h c (by simp)
   obtain ⟨x, r, hx⟩ := Q2 c
   have e : encs (c :: cs) = x :: (r ++ encs cs) := by simp only [encs, hx, y8]
   have hd := JG hc (encs cs)
   have e2 : encs (c :: cs) = encC c ++ encs cs := rfl
   rw [e]
   simp only [rgF]
   rw [← e, e2, hd]
   simp only
   rw [List.drop_left, Gi cs k (fun x hx => h x (by simp [hx])) (by simp only [yY] at hk; omega)]
theorem WP {cs : List Nat} (h : ∀ c ∈ cs, xB c = true) : rgN (encs cs) = cs := Gi cs _ h (Zg cs)
theorem JS : ∀ {cs : List Nat}, (∀ c ∈ cs, xB c = true) → Byt (encs cs)
 | [], _ => fun x hx => by cases hx
 | c :: r, h => (gZ (xH.1 (h c (by simp))).1).append (JS fun x hx => h x (by simp [hx]))
theorem Zs {c : Nat} (h : xY c = true) : c < 128 := by
 simp only [xY, zn, zm, decide_eq_true_eq, yR] at h
 rcases h with ((h | h) | h) | h
 ·omega
 ·omega
 ·omega
 ·simp only [List.mem_cons, List.not_mem_nil, or_false] at h; omega
theorem X4 : ∀ {t : List Nat}, (∀ c ∈ t, c < 128) → encs t = t
 | [], _ => rfl
 | c :: r, h => by
  have hc := h c (by simp)
  have ih := X4 (t := r) fun x hx => h x (List.mem_cons_of_mem _ hx)
  simp only [encs, ug, if_pos hc, y8, znO, ih]
theorem zr8 {t : List Nat} (h : t.all xY = true) : okC t = true := by
 have h1 : ∀ c ∈ t, c < 128 := fun c hc => Zs (jp h c hc)
 have := K2 (cs := t) fun c hc => by
  have := h1 c hc
  exact xH.2 ⟨by omega, by omega⟩
 rw [X4 h1] at this
 exact this
theorem OkA.may (h : OkA d) : mayD d = true ∧ TxD d := by
 obtain ⟨k, n, t, ks, p⟩ := d
 simp only [OkA] at h
 obtain ⟨rfl, hl, h⟩ := h
 have hb : Byt t := by
  rcases h with ⟨_, rfl, _⟩ | ⟨_, _, h⟩ | ⟨_, rfl, _⟩ | ⟨_, _, cs, h, rfl⟩ | ⟨_, _, h⟩
  ·exact fun x hx => by cases hx
  ·exact h.sym.2.2.1
  ·exact fun x hx => by cases hx
  ·exact JS h
  ·exact fun x hx => by have := Zs (jp h.2.1 x hx); omega
 refine ⟨?_, by simp only [TxD, TxL]; exact ⟨hb, hl, trivial⟩⟩
 rw [lM rfl]
 rcases h with ⟨rfl, rfl, h | h⟩ | ⟨rfl, rfl, h⟩ | ⟨rfl, rfl, c, rfl, h⟩ | ⟨rfl, rfl, cs, h, rfl⟩ | ⟨rfl, rfl, h⟩
 ·subst h; rfl
 ·subst h; rfl
 ·rw [if_neg (by decide)]
  have e : j6 (.mk (.ofNat 2) (.ofNat 0) t [] p) = numS t := rfl
  rw [e, h.num]; rfl
 ·rw [if_neg (by decide)]
  have e : j6 (.mk (.ofNat 3) (.ofNat c) [] [] p) = xB c := rfl
  rw [e, h]; rfl
 ·rw [if_neg (by decide)]
  have e : j6 (.mk (.ofNat 4) (.ofNat 0) (encs cs) [] p) = okC (encs cs) := rfl
  rw [e, K2 h]; rfl
 ·rw [if_neg (by decide)]
  have e : j6 (.mk (.ofNat 5) (.ofNat 0) t [] p) = (okC t && !decide (t = [])) := rfl
  rw [e, zr8 h.2.1, decide_eq_false h.1]; rfl
theorem HB {p c : Nat} (h : (escR b p).1 = some c) : xB c = true := by
 unfold escR at h
 split at h
 ·rename_i hc
  simp only [zy] at h
  subst h
  rcases hc with hc | hc <;> rw [hc] <;> rfl
 split at h
 ·simp only [zy] at h; subst h; rfl
 split at h
 ·simp only [zy] at h; subst h; rfl
 split at h
 ·split at h
  ·split at h
   ·rename_i hn
    simp only [zy] at h; subst h; exact hn.2.1
   ·cases h
  ·cases h
 ·cases h
theorem ly (b : List Nat) (f : Nat) : ∀ (k p : Nat) (cs s : List Nat), (∀ c ∈ cs, xB c = true) → (qo b f k p (encs cs)).1 = .inl s → ∃ cs', (∀ c ∈ cs', xB c = true) ∧ s = encs cs'
 | 0, p, cs, s, _, h => by simp [qo] at h
 | k + 1, p, cs, s, hv, h => by
  have hap : ∀ c, xB c = true → (∀ x ∈ cs ++ [c], xB x = true) := fun c hc x hx => by
   rcases List.mem_append.1 hx with hx | hx
   ·exact hv x hx
   ·rw [List.mem_singleton.1 hx]; exact hc
  have hen : ∀ c, encs cs ++ encC c = encs (cs ++ [c]) := fun c => by rw [YQ]; simp [encs]
  simp only [qo] at h
  split at h
  ·cases h
  rename_i hne
  split at h
  ·cases h
  rename_i q hq
  have hqv := (qX hne hq).2.2
  split at h
  ·simp only [Sum.inl.injEq] at h; subst h; exact ⟨cs, hv, rfl⟩
  split at h
  ·split at h
   ·cases h
   ·split at h
    ·rename_i c hc
     rw [hen] at h
     exact ly b f k _ _ s (hap c (HB hc)) h
    ·cases h
  ·rw [hen] at h
   exact ly b f k _ _ s (hap q.1 hqv) h
def TA (t : Tok) : Prop := t.kind = 7 → OkA t.d
theorem HX {c : Nat} {run : List Nat} (hc : xB c = true) (h : litC c run = some n) : xB n = true := by
 unfold litC at h
 split at h
 ·cases h; exact hc
 split at h
 ·cases h; rfl
 split at h
 ·cases h; rfl
 split at h
 ·cases h; rfl
 split at h
 ·split at h
  ·rename_i h'; cases h; exact h'.2
  ·cases h
 ·cases h
theorem zox (b : List Nat) (p : Nat) : (twS b p).all xY = true := by
 unfold twS
 generalize b.drop p = l
 induction l with
 | nil => rfl
 | cons c r ih =>
  rw [znW]
  split
  ·rename_i h; rw [znP, h, ih]; rfl
  ·rfl
theorem zsk {w : List Nat} {p : Nat} (hl : w.length < 500000) (h0 : w ≠ []) (hw : w.all xY = true) : TA (vo w p) := by
 unfold vo
 split
 ·intro h; cases h
 ·rename_i h46
  split
  ·rename_i s hs
   have := Wu hs
   exact fun _ => ⟨rfl, by omega, .inr (.inl ⟨rfl, rfl, zp0 hs⟩)⟩
  ·rename_i hs
   exact fun _ => ⟨rfl, by omega, .inr (.inr (.inr (.inr ⟨rfl, rfl, h0, hw, h46, hs⟩)))⟩
theorem zuK (b : List Nat) (p : Nat) : TA (qd b p).t := by
 unfold qd
 split
 ·intro h; cases h
 split
 ·unfold pb
  split
  ·rename_i c hc
   have hv : xB c = true := by
    unfold litR at hc
    split at hc
    ·cases hc
    split at hc
    ·cases hc
    ·rename_i q hq
     by_cases hne : b.drop (p + 2) = []
     ·rw [hne] at hq; cases hq
     ·exact HX (qX hne hq).2.2 hc
   exact fun _ => ⟨rfl, by simp, .inr (.inr (.inl ⟨rfl, rfl, c, rfl, hv⟩))⟩
  ·exact fun _ => ⟨rfl, by simp, .inr (.inr (.inl ⟨rfl, rfl, 0, rfl, rfl⟩))⟩
 ·unfold ve
  split
  ·exact fun _ => ⟨rfl, by simp, .inl ⟨rfl, rfl, .inr rfl⟩⟩
  split
  ·intro h; cases h
  split <;> exact fun _ => ⟨rfl, by simp, .inl ⟨rfl, rfl, .inl rfl⟩⟩
theorem zqA {p c : Nat} {r : List Nat} (hl : b.length < 100000) (hd : b.drop p = c :: r) : TA (tokB b p c).t := by
 obtain ⟨h1, _⟩ := uf hd
 unfold tokB
 split
 ·intro h; cases h
 split
 ·unfold gj
  split <;> (intro h; cases h)
 split
 ·intro h; cases h
 split
 ·exact fun h => absurd h (zzh c)
 split
 ·have h2 := lT b p (b.length + 1) (p + 1) []
  have h3 := ly b p (b.length + 1) (p + 1) []
  unfold kO
  split
  ·rename_i s hs
   have := h2 s hs
   obtain ⟨cs, hv, rfl⟩ := h3 s (fun x hx => by cases hx) hs
   exact fun _ => ⟨rfl, by simp only [yX] at this; omega, .inr (.inr (.inr (.inl ⟨rfl, rfl, cs, hv, rfl⟩)))⟩
  ·exact fun _ => ⟨rfl, by simp, .inr (.inr (.inr (.inl ⟨rfl, rfl, [], fun x hx => (by cases hx), rfl⟩)))⟩
 split
 ·exact zuK b p
 split
 ·rename_i hs
  have := Qj b p (by omega)
  refine zsk (by omega) (fun e => ?_) (zox b p)
  unfold twS at e
  rw [hd, znW, if_pos hs] at e
  cases e
 ·intro h; cases h
theorem zrR {b : List Nat} (hb : PreS b) : ∀ t ∈ (lexS b).1, TA t :=
 (le hb.1 hb.2 TA (fun p hp _ _ => by
  unfold tokR
  rw [(pA b (tokB b p (ww b p)) (tokL b p (ww b p))).2.1]
  cases hd : b.drop p with
  | nil => have := vd hd (Nat.le_of_lt hp); omega
  | cons c r => rw [wJ hd]; exact zqA hb.2 hd)).2
inductive RdT (P : DT → Prop) : DT → Prop
 | nil {p : Int} : RdT P (.mk (.ofNat 0) (.ofNat 0) [] [] p)
 | cons {x y : DT} {p : Int} : P x → RdT P y → RdT P (.mk (.ofNat 6) (.ofNat 0) [] [x, y] p)
 | dot {e : DT} : P e → xU e ≠ .ofNat 0 → xU e ≠ .ofNat 6 → RdT P e
def Rd : Nat → DT → Prop
 | 0, d => OkA d
 | n + 1, d => OkA d ∨ (∃ t p, d = .mk (.ofNat 8) (.ofNat 0) t [] p ∧ Byt t ∧ t.length < 1000000) ∨ (∃ ks p, d = .mk (.ofNat 7) (.ofNat 0) [] ks p ∧ ∀ x ∈ ks, Rd n x) ∨ (RdT (Rd n) d ∧ (xU d = .ofNat 0 ∨ xU d = .ofNat 6))
theorem uC (x y : DT) (p : Int) : xQ (.mk (.ofNat 6) (.ofNat 0) [] [x, y] p) = some (x, y) := rfl
theorem Yc (h : xU d ≠ .ofNat 6) : xr d = ([], d) := by
 obtain ⟨k, n, t, ks, p⟩ := d
 exact w5 (lJ h)
theorem RdT.imp {P Q : DT → Prop} (h : ∀ x, P x → Q x) (t : RdT P d) : RdT Q d := by
 induction t with
 | nil => exact .nil
 | cons h1 _ ih => exact .cons (h _ h1) ih
 | dot h1 h2 h3 => exact .dot (h _ h1) h2 h3
theorem OkA.kind (h : OkA d) : ∃ k, xU d = .ofNat k ∧ 1 ≤ k ∧ k ≤ 5 := by
 obtain ⟨k, n, t, ks, p⟩ := d
 simp only [OkA] at h
 rcases h.2.2 with ⟨rfl, _⟩ | ⟨rfl, _⟩ | ⟨rfl, _⟩ | ⟨rfl, _⟩ | ⟨rfl, _⟩
 ·exact ⟨1, rfl, by omega, by omega⟩
 ·exact ⟨2, rfl, by omega, by omega⟩
 ·exact ⟨3, rfl, by omega, by omega⟩
 ·exact ⟨4, rfl, by omega, by omega⟩
 ·exact ⟨5, rfl, by omega, by omega⟩
theorem OkA.ne (h : OkA d) : xU d ≠ .ofNat 0 ∧ xU d ≠ .ofNat 6 := by
 obtain ⟨k, h1, h2, h3⟩ := h.kind
 rw [h1]
 exact ⟨fun e => by cases e; omega, fun e => by cases e; omega⟩
theorem Rd.up : ∀ (n : Nat) (d : DT), Rd n d → Rd (n + 1) d
 | 0, d, h => .inl h
 | n + 1, d, h => by
  rcases h with h | h | ⟨ks, p, e, h⟩ | ⟨h, hk⟩
  ·exact .inl h
  ·exact .inr (.inl h)
  ·exact .inr (.inr (.inl ⟨ks, p, e, fun x hx => Rd.up n x (h x hx)⟩))
  ·exact .inr (.inr (.inr ⟨h.imp fun x hx => Rd.up n x hx, hk⟩))
theorem Rd.atom (h : OkA d) : Rd n d := by cases n with
 | zero => exact h
 | succ n => exact .inl h
theorem Rd.tail (h : Rd n d) : RdT (Rd n) d := by
 cases n with
 | zero => exact .dot h (OkA.ne h).1 (OkA.ne h).2
 | succ n =>
  rcases h with h | ⟨t, p, rfl, h⟩ | ⟨ks, p, rfl, h⟩ | ⟨h, hk⟩
  ·exact .dot (.inl h) h.ne.1 h.ne.2
  ·exact .dot (.inr (.inl ⟨t, p, rfl, h⟩)) (by simp [xU]) (by simp [xU])
  ·exact .dot (.inr (.inr (.inl ⟨ks, p, rfl, h⟩))) (by simp [xU]) (by simp [xU])
  ·exact h.imp fun x hx => Rd.up n x hx
theorem RdT.list {P : DT → Prop} {e : DT} (he : RdT P e) : ∀ {l : List DT}, (∀ x ∈ l, P x) → RdT P (wP l e)
 | [], _ => he
 | x :: l, h => by
  rw [q9]
  exact .cons (h x (by simp)) (RdT.list he fun y hy => h y (by simp [hy]))
theorem RdT.at {P : DT → Prop} (h : RdT P d) (p : Int) (hk : xU d = .ofNat 0 ∨ xU d = .ofNat 6) : RdT P (atD d p) := by
 cases h with
 | nil => exact .nil
 | cons h1 h2 => exact .cons h1 h2
 | dot h1 h2 h3 => exact absurd hk (fun q => q.elim h2 h3)
theorem HS {l : List DT} (e : DT) (h : l ≠ []) : xU (wP l e) = .ofNat 6 := by
 cases l with
 | nil => exact absurd rfl h
 | cons x l => rfl
theorem Kl (d : DT) (p : Int) : xU (atD d p) = xU d := by cases d; rfl
theorem RdT.may {P : DT → Prop} (h : ∀ x, P x → mayD x = true ∧ TxD x) (t : RdT P d) : mayD d = true ∧ TxD d := by
 induction t with
 | nil => exact ⟨rfl, by simp only [TxD, TxL]; exact ⟨fun x hx => (by cases hx), by simp, trivial⟩⟩
 | cons h1 _ ih =>
  obtain ⟨g1, g2⟩ := h _ h1
  refine ⟨by rw [Yj (uC _ _ _), g1, ih.1]; rfl, ?_⟩
  simp only [TxD, TxL]
  exact ⟨fun x hx => (by cases hx), by simp, g2, ih.2, trivial⟩
 | dot h1 _ _ => exact h _ h1
theorem zwu : ∀ {l : List DT}, (∀ x ∈ l, TxD x) → TxL l
 | [], _ => by simp only [TxL]
 | x :: r, h => by simp only [TxL]; exact ⟨h x (by simp), zwu fun y hy => h y (by simp [hy])⟩
theorem Rd.may : ∀ (n : Nat) (d : DT), Rd n d → mayD d = true ∧ TxD d
 | 0, d, h => OkA.may h
 | n + 1, d, h => by
  rcases h with h | ⟨t, p, rfl, h⟩ | ⟨ks, p, rfl, h⟩ | ⟨h, hk⟩
  ·exact h.may
  ·exact ⟨rfl, by simp only [TxD, TxL]; exact ⟨h.1, h.2, trivial⟩⟩
  ·have ih := fun x hx => Rd.may n x (h x hx)
   refine ⟨?_, by simp only [TxD]; exact ⟨fun x hx => (by cases hx), by simp, zwu fun x hx => (ih x hx).2⟩⟩
   rw [lM (lJ (by decide)), if_pos rfl]
   exact List.all_eq_true.2 fun x hx => (ih x hx).1
  ·exact h.may (fun x hx => Rd.may n x hx)
theorem Rd.good {N : Nat} (h : Rd n d) (hN : 2 * xL d + 1 ≤ N) : GoodD N d := by
 obtain ⟨h1, h2⟩ := Rd.may n d h
 refine ⟨h1, h2, ?_⟩
 unfold wtD
 split <;> omega
theorem RdT.items {P : DT → Prop} {d : DT} (h : RdT P d) : (∀ x ∈ (xr d).1, P x) ∧ ((∃ p, (xr d).2 = .mk (.ofNat 0) (.ofNat 0) [] [] p) ∨ P (xr d).2 ∧ xU (xr d).2 ≠ .ofNat 0 ∧ xU (xr d).2 ≠ .ofNat 6) := by
 induction h with
 | @nil p => rw [w5 (by rfl)]; exact ⟨fun x hx => (by cases hx), .inl ⟨_, rfl⟩⟩
 | @cons x y p h1 _ ih =>
  rw [wC (d := .mk (.ofNat 6) (.ofNat 0) [] [x, y] p) (x := x) (y := y) (uC _ _ _)]
  refine ⟨fun z hz => ?_, ih.2⟩
  rcases List.mem_cons.1 hz with rfl | hz
  ·exact h1
  ·exact ih.1 z hz
 | @dot e h1 h2 h3 =>
  rw [Yc h3]
  exact ⟨fun x hx => (by cases hx), .inr ⟨h1, h2, h3⟩⟩
def GC : List DT → Nat
 | [_, y] => if xU y = .ofNat 0 ∨ xU y = .ofNat 6 then 0 else 4
 | _ => 0
mutual
def szD : DT → Nat
 | .mk k _ t ks _ => if k = .ofNat 6 then szL ks - 1 + GC ks else if k = .ofNat 7 then 3 + szL ks else if k = .ofNat 8 then 6 + 4 * t.length else if k = .ofNat 4 then 5 * t.length + 2 else if k = .ofNat 3 then 9 else if k = .ofNat 2 ∨ k = .ofNat 5 then t.length else 2
def szL : List DT → Nat
 | [] => 0
 | d :: r => szD d + 1 + szL r
end
theorem Qd (x y : DT) (p : Int) : szD (.mk (.ofNat 6) (.ofNat 0) [] [x, y] p) = szD x + szD y + 1 + GC [x, y] := by
 simp only [szD, szL, if_true]; omega
theorem U6 (p : Int) : szD (.mk (.ofNat 0) (.ofNat 0) [] [] p) = 2 := by
 simp only [szD]; rfl
theorem Qe : ∀ a b : List DT, szL (a ++ b) = szL a + szL b
 | [], b => by simp only [znO, szL]; omega
 | d :: a, b => by simp only [y8, szL, Qe a b]; omega
theorem ZH (x e : DT) : ∀ l : List DT, szD (wP (x :: l) e) = szL (x :: l) + szD e + (if xU e = .ofNat 0 ∨ xU e = .ofNat 6 then 0 else 4)
 | [] => by
  rw [q9, lL, kB, Qd]
  simp only [GC, szL]; omega
 | y :: l => by
  have ih := ZH y e l
  rw [q9, kB, Qd, ih]
  have hk : xU (wP (y :: l) e) = .ofNat 6 := rfl
  simp only [GC, hk, or_true, if_true, szL]; omega
theorem ztT (d : DT) (p : Int) : szD (atD d p) = szD d := by cases d; simp only [atD, szD]
theorem zzQ {c : Nat} : (zwY false (.ofNat c)).length ≤ 9 := by
 have := pN c
 show (35 :: 92 :: wN c).length ≤ 9
 simp only [yY]; omega
theorem OkA.tx (h : OkA d) (n : Nat) : (txN false (n + 1) d).length ≤ szD d := by
 obtain ⟨k, nn, t, ks, p⟩ := d
 simp only [OkA] at h
 obtain ⟨rfl, _, h⟩ := h
 rcases h with ⟨rfl, rfl, h | h⟩ | ⟨rfl, rfl, h⟩ | ⟨rfl, rfl, c, rfl, h⟩ | ⟨rfl, rfl, cs, h, rfl⟩ | ⟨rfl, rfl, h⟩
 ·subst h; exact zq 2
 ·subst h; exact zq 2
 ·exact zn5 rfl
 ·show (zwY false (.ofNat c)).length ≤ 9
  exact zzQ
 ·show (vl false (encs cs)).length ≤ 5 * (encs cs).length + 2
  unfold vl
  rw [if_neg (by decide)]
  have h1 : ∀ l : List Nat, (qs l).length ≤ 5 * l.length := fun l => by
   induction l with
   | nil => simp [qs]
   | cons c r ih =>
    have := lp c
    rw [gq, ye, yY]; omega
  have h2 := h1 (rgN (encs cs))
  have h3 : (rgN (encs cs)).length ≤ (encs cs).length := by rw [WP h]; exact Zg cs
  simp only [yY, ye, yX]; omega
 ·exact zn5 rfl
theorem KY : ∀ t : List Nat, (qF xV (qD t)).length ≤ 4 * t.length ∧ (allT xV (qD t)).length ≤ 4 * t.length
 | [] => ⟨zq _, zq _⟩
 | c :: r => by
  have ih := KY r
  have h2 := (Vv c).1
  have e : qD (c :: r) = gK c :: qD r := rfl
  have e2 : xV (gK c) = v8 c := rfl
  rw [e]
  simp only [qF, allT, e2, yY, ye]
  omega
theorem Ji {f : DT → List Nat} : ∀ {l : List DT}, (∀ d ∈ l, (f d).length ≤ szD d) → (qF f l).length ≤ szL l ∧ (allT f l).length ≤ szL l
 | [], _ => ⟨zq _, zq _⟩
 | d :: r, h => by
  have ih := (Ji (l := r) fun x hx => h x (by simp [hx])).1
  have h1 := h d (by simp)
  simp only [qF, allT, szL, yY, ye]
  omega
theorem RdT.tx {P : DT → Prop} {f : DT → List Nat} {d : DT} (t : RdT P d) (h : (∀ x ∈ (xr d).1, (f x).length ≤ szD x) ∧ (f (xr d).2).length ≤ szD (xr d).2 ∨ False) : (qF f (xr d).1).length + (endT f (xr d).2).length + 2 ≤ szD d + (if xU d = .ofNat 0 ∨ xU d = .ofNat 6 then 0 else 4) + 1 := by
 induction t with
 | @nil p =>
  rw [w5 (by rfl)]
  show 0 + 0 + 2 ≤ _
  rw [U6]; omega
 | @cons x y p h1 h2 ih =>
  have e := wC (d := .mk (.ofNat 6) (.ofNat 0) [] [x, y] p) (x := x) (y := y) (uC _ _ _)
  rw [e] at h ⊢
  have h := h.resolve_right id
  have ih := ih (.inl ⟨fun z hz => h.1 z (by simp [hz]), h.2⟩)
  have hx := h.1 x (by simp)
  rw [Qd]
  have e6 : xU (.mk (.ofNat 6) (.ofNat 0) [] [x, y] p) = .ofNat 6 := rfl
  rw [e6, if_pos (.inr rfl)]
  simp only [qF, yY, ye, GC]
  omega
 | @dot e h1 h2 h3 =>
  have hk : xr e = ([], e) := Yc h3
  rw [hk] at h ⊢
  have h := h.resolve_right id
  rw [if_neg (fun q => q.elim h2 h3)]
  simp only [qF, yX]
  unfold endT
  rw [if_neg h2]
  simp only [ye, yY, yX]
  have := h.2
  simp only at this
  omega
theorem Rd.tx : ∀ (m n : Nat) (d : DT), Rd m d → GoodD n d → (txN false n d).length ≤ szD d
 | _, 0, d, _, h => by
  have h1 := h.2.2
  have h2 := wh d
  unfold wtD at h1; omega
 | 0, n + 1, d, h, _ => OkA.tx h n
 | m + 1, n + 1, d, h, hg => by
  rcases h with h | ⟨t, p, rfl, h⟩ | ⟨ks, p, rfl, h⟩ | ⟨h, hk⟩
  ·exact h.tx n
  ·have e : txN false (n + 1) (.mk (.ofNat 8) (.ofNat 0) t [] p) = [35, 117, 56, 40] ++ allT xV (qD t) ++ [41] := rfl
   have := (KY t).2
   rw [e]
   have e2 : szD (.mk (.ofNat 8) (.ofNat 0) t [] p) = 6 + 4 * t.length := by simp only [szD]; rfl
   rw [e2]
   simp only [ye, yY, yX]; omega
  ·have e : txN false (n + 1) (.mk (.ofNat 7) (.ofNat 0) [] ks p) = [35, 40] ++ allT (txN false n) ks ++ [41] := rfl
   have hgk := hg.kids rfl
   have := (Ji (f := txN false n) fun x hx => Rd.tx m n x (h x hx) (hgk x hx)).2
   have e2 : szD (.mk (.ofNat 7) (.ofNat 0) [] ks p) = 3 + szL ks := by simp only [szD]; rfl
   rw [e, e2]
   simp only [ye, yY, yX]; omega
  ·rcases hk with hk | hk
   ·cases h with
    | nil => rw [U6]; exact zq 2
    | cons _ _ => cases hk
    | dot _ h2 _ => exact absurd hk h2
   ·obtain ⟨i1, i2, _, _⟩ := hg.items hk
    obtain ⟨r1, r2⟩ := h.items
    have e : txN false (n + 1) d = [40] ++ allT (txN false n) (xr d).1 ++ endT (txN false n) (xr d).2 ++ [41] := by
     show txK false (txN false n) d (xU d) = _
     rw [hk]; rfl
    have hend : (txN false n (xr d).2).length ≤ szD (xr d).2 := by
     rcases r2 with ⟨p, e2⟩ | ⟨r2, _⟩
     ·rw [e2] at i2 ⊢
      cases n with
      | zero =>
       have h1 := i2.2.2
       have h2 := wh (.mk (.ofNat 0) (.ofNat 0) [] [] p)
       unfold wtD at h1; omega
      | succ n => rw [U6]; exact zq 2
     ·exact Rd.tx m n _ r2 i2
    have ht := h.tx (f := txN false n) (.inl ⟨fun x hx => Rd.tx m n x (r1 x hx) (i1 x hx), hend⟩)
    rw [if_pos (.inr hk)] at ht
    rw [e]
    cases h with
    | nil => cases hk
    | @cons x y p h1 h2 =>
     have e3 := wC (d := .mk (.ofNat 6) (.ofNat 0) [] [x, y] p) (x := x) (y := y) (uC _ _ _)
     rw [e3] at ht ⊢
     simp only [qF, allT, yY, ye, yX] at ht ⊢
     omega
    | dot _ _ h3 => exact absurd hk h3
theorem pw {c : Nat} (h : c < 128) : (encC c).length = 1 := by rw [ug, if_pos h]; rfl
theorem Hn {c : Nat} (h : c < 2048) : (encC c).length ≤ 2 := by
 rw [ug]
 split
 ·simp
 ·simp
theorem zvd {c : Nat} (h : c < 65536) : (encC c).length ≤ 3 := by
 rw [ug]
 split
 ·simp
 split
 ·simp
 ·simp
theorem Hb : ∀ {l : List Nat}, l ≠ [] → ¬ ((decL l).1 = 65533 ∧ (decL l).2 ≤ 1) → (encC (decL l).1).length ≤ (decL l).2
 | [], h, _ => absurd rfl h
 | [a], _, h => by
  rw [Um] at h ⊢
  split at h
  ·rename_i h1; rw [if_pos h1]; exact zn5 (pw h1)
  ·exact absurd ⟨rfl, zq _⟩ h
 | [a, b], _, h => by
  rw [XU] at h ⊢
  split at h
  ·rename_i h1; rw [if_pos h1]; exact zn5 (pw h1)
  ·rename_i h1
   rw [if_neg h1]
   split at h
   ·rename_i h2; rw [if_pos h2]; exact Hn (by rw [ue]; omega)
   ·exact absurd ⟨rfl, zq _⟩ h
 | [a, b, c], _, h => by
  rw [ZZ] at h ⊢
  split at h
  ·rename_i h1; rw [if_pos h1]; exact zn5 (pw h1)
  ·rename_i h1
   rw [if_neg h1]
   split at h
   ·rename_i h2; rw [if_pos h2]; exact Hn (by rw [ue]; omega)
   ·rename_i h2
    rw [if_neg h2]
    split at h
    ·rename_i h3; rw [if_pos h3]; exact zvd (by show dec3 a b c < 65536; show a % 16 * 4096 + b % 64 * 64 + c % 64 < 65536; omega)
    ·exact absurd ⟨rfl, zq _⟩ h
 | a :: b :: c :: d :: r, _, h => by
  rw [gY] at h ⊢
  split at h
  ·rename_i h1; rw [if_pos h1]; exact zn5 (pw h1)
  ·rename_i h1
   rw [if_neg h1]
   split at h
   ·rename_i h2; rw [if_pos h2]; exact Hn (by rw [ue]; omega)
   ·rename_i h2
    rw [if_neg h2]
    split at h
    ·rename_i h3; rw [if_pos h3]; exact zvd (by show a % 16 * 4096 + b % 64 * 64 + c % 64 < 65536; omega)
    ·rename_i h3
     rw [if_neg h3]
     split at h
     ·rename_i h4; rw [if_pos h4]; exact (wS _).2
     ·exact absurd ⟨rfl, zq _⟩ h
theorem Hc {l : List Nat} (hl : l ≠ []) {q : Nat × Nat} (h : decR l = some q) : (encC q.1).length ≤ q.2 := by
 unfold decR at h
 split at h
 ·cases h
 ·rename_i hn
  cases h
  exact Hb hl hn
theorem HC {p c : Nat} (h : (escR b p).1 = some c) : p + (encC c).length ≤ (escR b p).2 + 1 := by
 unfold escR at h ⊢
 split at h
 ·rename_i hc
  rw [if_pos hc]
  simp only [zy] at h
  have : (encC c).length = 1 := pw (by omega)
  simp only; omega
 rename_i hc
 rw [if_neg hc]
 split at h
 ·rename_i hc
  rw [if_pos hc]
  simp only [zy] at h
  have : (encC c).length = 1 := pw (by omega)
  simp only; omega
 rename_i hc
 rw [if_neg hc]
 split at h
 ·rename_i hc
  rw [if_pos hc]
  simp only [zy] at h
  have : (encC c).length = 1 := pw (by omega)
  simp only; omega
 rename_i hc
 rw [if_neg hc]
 split at h
 ·rename_i hc
  rw [if_pos hc]
  split at h
  ·rename_i n hn
   split at h
   ·rename_i hx
    rw [if_pos hx]
    have h1 := (wS c).2
    have h2 : 1 ≤ (twS b (p + 1)).length := by
     cases hw : twS b (p + 1) with
     | nil => exact absurd hw hx.1
     | cons a r => simp
    simp only; omega
   ·cases h
  ·cases h
 ·cases h
theorem zsI {l : List Nat} (h : decR l = some (92, n)) : n = 1 := by
 unfold decR at h
 split at h
 ·cases h
 ·simp only [zy] at h
  match l with
  | [] => cases h
  | a :: r =>
   by_cases ha : a < 128
   ·rw [kZ ha] at h; cases h; rfl
   ·have := JF (y := a) (by omega) r
    rw [h] at this
    simp at this
theorem lz {b : List Nat} (f : Nat) : ∀ (k p : Nat) (out s : List Nat), (qo b f k p out).1 = .inl s → s.length + p ≤ out.length + (qo b f k p out).2
 | 0, p, out, s, h => by simp [qo] at h
 | k + 1, p, out, s, h => by
  simp only [qo] at h ⊢
  split at h
  ·cases h
  rename_i hne
  rw [if_neg hne]
  split at h
  ·cases h
  rename_i q hq
  have hw := Hc hne hq
  have hq1 := (qX hne hq).1
  split at h
  ·rename_i h34
   rw [if_pos h34]
   simp only [Sum.inl.injEq] at h
   subst h
   simp only; omega
  rename_i h34
  rw [if_neg h34]
  split at h
  ·rename_i h92
   rw [if_pos h92]
   split at h
   ·cases h
   ·rename_i hne2
    rw [if_neg hne2]
    split at h
    ·rename_i c hc
     have := lz f k _ _ s h
     have h3 := HC hc
     have h4 : q.2 = 1 := zsI (n := q.2) (by rw [hq]; congr; exact Prod.ext h92 rfl)
     rw [ye] at this
     omega
    ·cases h
  ·rename_i h92
   rw [if_neg h92]
   have := lz f k _ _ s h
   rw [ye] at this
   omega
theorem GP (w : List Nat) (p : Nat) : (xV (vo w p).d).length ≤ w.length + 1 := by
 unfold vo
 split
 ·simp [d0, xV]
 split
 ·rename_i s hs; exact Wu hs
 ·simp [xV]
theorem KM (b : List Nat) (p : Nat) : (xV (qd b p).t.d).length = 0 := by
 unfold qd
 split
 ·rfl
 split
 ·unfold pb; split <;> rfl
 ·unfold ve
  split
  ·rfl
  split
  ·rfl
  split <;> rfl
theorem Lt {p c : Nat} {r : List Nat} (hb : Byt b) (hd : b.drop p = c :: r) : (xV (tokB b p c).t.d).length + p ≤ (tokB b p c).q + 1 := by
 have hle := U8 hb hd
 have hp := (uf hd).1
 have h0 : ∀ t : Tok, (xV t.d).length = 0 → (xV t.d).length + p ≤ (tokB b p c).q + 1 := fun t ht => by have := hle.1; omega
 revert h0
 unfold tokB
 split
 ·exact fun h0 => h0 _ rfl
 split
 ·unfold gj
  split <;> exact fun h0 => h0 _ rfl
 split
 ·exact fun h0 => h0 _ rfl
 split
 ·exact fun h0 => h0 _ rfl
 split
 ·unfold kO
  split
  ·rename_i s hs
   have := lz p (b.length + 1) (p + 1) [] s hs
   intro _
   simp only [xV, yX] at this ⊢
   omega
  ·exact fun h0 => h0 _ rfl
 split
 ·exact fun h0 => h0 _ (KM b p)
 split
 ·intro _
  have := GP (twS b p) p
  simp only at this ⊢
  omega
 ·exact fun h0 => h0 _ rfl
def wts : List Tok → Nat
 | [] => 0
 | t :: r => (xV t.d).length + 1 + wts r
theorem Qq : ∀ a b : List Tok, wts (a ++ b) = wts a + wts b
 | [], b => by simp [wts]
 | t :: a, b => by simp only [y8, wts, Qq a b]; omega
theorem pJ {b : List Nat} (hb : Byt b) : ∀ (k p : Nat) (acc : List Tok), p ≤ b.length → wts (lexR b k p acc).1 ≤ wts acc + 3 * (b.length - p)
 | 0, p, acc, h => by simp only [lexR]; omega
 | k + 1, p, acc, h => by
  simp only [lexR]
  split
  ·rename_i hp
   have hle := ZL hb hp
   split
   ·rename_i hf
    have hq := hle.2.2 hf
    have hw : (xV (tokR b p).t.d).length + p ≤ (tokR b p).q + 1 := by
     unfold tokR
     rw [(pA b _ _).2.1, (pA b _ _).1]
     cases hd : b.drop p with
     | nil => have := vd hd (Nat.le_of_lt hp); omega
     | cons c r => rw [wJ hd]; exact Lt hb hd
    split
    ·have := pJ hb k _ acc hle.2.1
     omega
    ·have := pJ hb k _ (acc ++ [(tokR b p).t]) hle.2.1
     rw [Qq] at this
     simp only [wts] at this
     omega
   ·simp [wts]
  ·simp only; omega
theorem HU (hb : Byt b) : wts (lexS b).1 ≤ 3 * b.length := by
 have := pJ hb (b.length + 1) 0 [] (zN _)
 unfold lexS
 simp only [wts] at this
 omega
def RdR (n : Nat) (ts : List Tok) (rec : Rec) : Prop := ∀ op s, s.at_ ≤ ts.length → (rec op s).2.err = 0 → Rd n (rec op s).1 ∧ szD (rec op s).1 + 1 + 10 * wts (ts.drop (rec op s).2.at_) ≤ 10 * wts (ts.drop s.at_)
theorem ZS {i : Nat} {t : Tok} {r : List Tok} (h : ts.drop i = t :: r) : wts (ts.drop i) = (xV t.d).length + 1 + wts (ts.drop (i + 1)) := by
 rw [h, wz h]; rfl
theorem pQ {ts : List Tok} {dt : Rec} {n : Nat} (hd : gD ts dt) (hl : RdR n ts dt) (op : Nat) (dots : Bool) : ∀ (k : Nat) (acc : List DT) (s : RS), s.at_ ≤ ts.length → (ts.length + 1 < k + s.at_ ∨ s.err ≠ 0 ∧ 1 ≤ k) → (xE dt ts op dots k acc s).2.2.err = 0 →
  ∃ l, (xE dt ts op dots k acc s).1 = acc ++ l ∧ (∀ x ∈ l, Rd n x) ∧ szL l + 10 + 10 * wts (ts.drop (xE dt ts op dots k acc s).2.2.at_) ≤ 10 * wts (ts.drop s.at_) ∧
   ((xE dt ts op dots k acc s).2.1.kind = 2 ∨ (xE dt ts op dots k acc s).2.1.kind = 6 ∧ acc ++ l ≠ [])
 | 0, acc, s, h, hf, he => by omega
 | k + 1, acc, s, h, hf, he => by
  have h1 := hd op s h
  simp only [xE] at he ⊢
  by_cases he0 : s.err ≠ 0
  ·rw [if_pos he0] at he; exact absurd he he0
  rw [if_neg he0] at he ⊢
  have he0 : s.err = 0 := by omega
  cases hdr : ts.drop s.at_ with
  | nil =>
   rw [hdr] at he
   simp only at he ⊢
   have h4 := u0 hdr
   exfalso
   have h5 : (dt op s).2.err ≠ 0 := fun e => by have := h1.2.2.2.1 e; have := h1.2.1; omega
   have := (qj hd op dots k (acc ++ [(dt op s).1]) (dt op s).2 h1.2.1).2.2 h5
   omega
  | cons t r =>
   rw [hdr] at he
   simp only at he ⊢
   have hlt := qE hdr
   have hw := ZS hdr
   rw [hdr] at hw
   split at he
   ·rename_i hc
    rw [if_pos hc]
    refine ⟨[], by simp, fun x hx => (by cases hx), ?_, ?_⟩
    ·have e : s.nx.at_ = s.at_ + 1 := rfl
     rw [hw]
     simp only [szL, e]; omega
    ·rcases hc with hc | ⟨h6, hn, _⟩
     ·exact .inl hc
     ·exact .inr ⟨h6, by simpa using hn⟩
   ·rename_i hc
    rw [if_neg hc]
    have h5 : (dt op s).2.err = 0 := by
     by_cases e : (dt op s).2.err = 0
     ·exact e
     ·have := (qj hd op dots k (acc ++ [(dt op s).1]) (dt op s).2 h1.2.1).2.2 e
      omega
    obtain ⟨l, g1, g2, g3, g4⟩ := pQ hd hl op dots k (acc ++ [(dt op s).1]) (dt op s).2 h1.2.1 (.inl (by have := h1.2.2.2.1 h5; omega)) he
    obtain ⟨q1, q2⟩ := hl op s h h5
    rw [hdr] at q2
    refine ⟨(dt op s).1 :: l, by rw [g1]; simp, fun x hx => ?_, ?_, ?_⟩
    ·rcases List.mem_cons.1 hx with rfl | hx
     ·exact q1
     ·exact g2 x hx
    ·simp only [szL]; omega
    ·rcases g4 with g4 | ⟨g4, _⟩
     ·exact .inl g4
     ·exact .inr ⟨g4, by simp⟩
theorem QP {ts : List Tok} (op : Nat) : ∀ (k : Nat) (out : List Nat) (s : RS), ts.length < k + s.at_ → s.at_ ≤ ts.length → s.err = 0 → Byt out → (qP ts op k out s).2.err = 0 →
  ∃ t, (qP ts op k out s).1 = .mk (.ofNat 8) (.ofNat 0) t [] (.ofNat op) ∧ Byt t ∧ t.length + s.at_ ≤ out.length + ts.length ∧ 4 * t.length + 10 + 10 * wts (ts.drop (qP ts op k out s).2.at_) ≤ 4 * out.length + 10 * wts (ts.drop s.at_)
 | 0, _, s, h, h', _, _, _ => by omega
 | k + 1, out, s, h, h', h0, hb, he => by
  simp only [qP] at he ⊢
  cases hdr : ts.drop s.at_ with
  | nil =>
   rw [hdr] at he
   exact absurd he (qY s op (by decide))
  | cons t r =>
   rw [hdr] at he
   simp only at he ⊢
   have hlt := qE hdr
   have hw := ZS hdr
   rw [hdr] at hw
   have e : s.nx.at_ = s.at_ + 1 := rfl
   by_cases h2 : t.kind = 2
   ·rw [if_pos h2]
    refine ⟨out, rfl, hb, by omega, ?_⟩
    rw [hw]
    simp only [e]; omega
   ·rw [if_neg h2] at he ⊢
    by_cases hc : t.kind = 7 ∧ pG t.d
    ·rw [if_pos hc] at he ⊢
     have hv : (qy (xV t.d)).1.toNat < 256 := by have := hc.2.2.2.2; have := hc.2.2.2.1; omega
     obtain ⟨u, g1, g2, g3, g4⟩ := QP op k (out ++ [(qy (xV t.d)).1.toNat]) s.nx (by rw [e]; omega) hlt h0 (hb.append fun x hx => by simp at hx; omega) he
     rw [ye, e] at g3
     rw [ye, e] at g4
     simp only [yY, yX] at g3 g4
     exact ⟨u, g1, g2, by omega, by rw [hw]; omega⟩
    ·rw [if_neg hc] at he
     exact absurd he (qY s t.pos (by decide))
theorem zux (op : Nat) (l : List DT) (e : DT) (s : RS) (h : s.at_ ≤ ts.length) (he : (vY ts op l e s).2.err = 0) (hl : l ≠ []) (hr : ∀ x ∈ l, Rd n x) (hre : Rd n e) :
  Rd (n + 1) (vY ts op l e s).1 ∧ szD (vY ts op l e s).1 + 10 * wts (ts.drop (vY ts op l e s).2.at_) + 10 ≤ szL l + szD e + 4 + 10 * wts (ts.drop s.at_) := by
 unfold vY at he ⊢
 cases hdr : ts.drop s.at_ with
 | nil => rw [hdr] at he; exact absurd he (qY s op (by decide))
 | cons t r =>
  rw [hdr] at he
  simp only at he ⊢
  have hw := ZS hdr
  rw [hdr] at hw
  by_cases h2 : t.kind = 2
  ·rw [if_pos h2]
   have hk := HS e hl
   refine ⟨.inr (.inr (.inr ⟨(RdT.list hre.tail hr).at _ (.inr hk), .inr (by rw [Kl]; exact hk)⟩)), ?_⟩
   have e1 : s.nx.at_ = s.at_ + 1 := rfl
   rw [ztT, hw]
   cases l with
   | nil => exact absurd rfl hl
   | cons x l =>
    rw [ZH]
    simp only [e1]
    split <;> omega
  ·rw [if_neg h2] at he; exact absurd he (qY s t.pos (by decide))
theorem zxn {ts : List Tok} {rec : Rec} {full : Bool} (hlen : ts.length < 100000) (hk : ∀ t ∈ ts, (t.kind ≤ 7 ∧ t.kind ≠ 0) ∧ TA t) (hd : full = false → ∃ m, n = m + 1 ∧ gD ts rec ∧ RdR m ts rec) {t : Tok} {r : List Tok} (s : RS) (hdr : ts.drop s.at_ = t :: r) (he : (wO rec full ts t s.nx).2.err = 0) (h0 : s.err = 0) :
  Rd n (wO rec full ts t s.nx).1 ∧ szD (wO rec full ts t s.nx).1 + 1 + 10 * wts (ts.drop (wO rec full ts t s.nx).2.at_) ≤ 10 * wts (t :: r) := by
 have hlt := qE hdr
 have hw := ZS hdr
 rw [hdr] at hw
 have hn : s.nx.at_ = s.at_ + 1 := rfl
 have hmem : t ∈ ts := znS (by rw [hdr]; exact zn6)
 obtain ⟨hk7, hta⟩ := hk t hmem
 rw [hw, ← hn]
 unfold wO at he ⊢
 by_cases h7 : t.kind = 7
 ·rw [if_pos h7]
  have ho := hta h7
  refine ⟨Rd.atom ho, ?_⟩
  have hsz : szD t.d ≤ 5 * (xV t.d).length + 9 := by
   revert ho
   generalize t.d = dd
   intro ho
   obtain ⟨k, n, tx, ks, p⟩ := dd
   simp only [OkA] at ho
   obtain ⟨rfl, _, ho⟩ := ho
   rcases ho with ⟨rfl, rfl, _⟩ | ⟨rfl, rfl, _⟩ | ⟨rfl, rfl, _⟩ | ⟨rfl, rfl, _⟩ | ⟨rfl, rfl, _⟩
   ·show 2 ≤ _; omega
   ·show tx.length ≤ 5 * tx.length + 9; omega
   ·show 9 ≤ _; omega
   ·show 5 * tx.length + 2 ≤ 5 * tx.length + 9; omega
   ·show tx.length ≤ 5 * tx.length + 9; omega
  simp only; omega
 rw [if_neg h7] at he ⊢
 by_cases h26 : t.kind = 2 ∨ t.kind = 6
 ·rw [if_pos h26] at he; exact absurd he (qY s.nx t.pos (by decide))
 rw [if_neg h26] at he ⊢
 by_cases hf : full = true
 ·rw [if_pos hf] at he; exact absurd he (qY s.nx t.pos (by decide))
 rw [if_neg hf] at he ⊢
 obtain ⟨m, rfl, hfin, hlv⟩ := hd (by simpa using hf)
 by_cases h3 : t.kind = 3
 ·rw [if_pos h3] at he ⊢
  simp only [quoF] at he ⊢
  obtain ⟨q1, q2⟩ := hlv t.pos s.nx hlt he
  have hq : Rd m (uU t.pos) := Rd.atom ⟨rfl, by simp, .inr (.inr (.inr (.inr ⟨rfl, rfl, by simp, by decide, by decide, by decide⟩)))⟩
  refine ⟨.inr (.inr (.inr ⟨RdT.list .nil fun x hx => ?_, .inr rfl⟩)), ?_⟩
  ·rcases List.mem_cons.1 hx with rfl | hx
   ·exact hq
   ·rw [List.mem_singleton.1 hx]; exact q1
  ·rw [ZH]
   have e3 : szD (uU t.pos) = 5 := rfl
   have e4 : szD (vA (posD (rec t.pos s.nx).1)) = 2 := rfl
   have e5 : xU (vA (posD (rec t.pos s.nx).1)) = .ofNat 0 := rfl
   rw [e5, if_pos (.inl rfl)]
   simp only [szL, e3, e4]; omega
 rw [if_neg h3] at he ⊢
 have hfu : ts.length + 1 < (ts.length + 3) + s.nx.at_ := by omega
 by_cases h1 : t.kind = 1
 ·rw [if_pos h1] at he ⊢
  have hit := qj hfin t.pos true (ts.length + 3) [] s.nx hlt
  have hlv2 := pQ hfin hlv t.pos true (ts.length + 3) [] s.nx hlt (.inl hfu)
  unfold lf itF at he ⊢
  by_cases h6 : (xE rec ts t.pos true (ts.length + 3) [] s.nx).2.1.kind = 6
  ·rw [if_pos h6] at he ⊢
   have hft := hfin t.pos (xE rec ts t.pos true (ts.length + 3) [] s.nx).2.2 hit.2.1
   have hlv3 := hlv t.pos (xE rec ts t.pos true (ts.length + 3) [] s.nx).2.2 hit.2.1
   have hla := zux (n := m) t.pos (xE rec ts t.pos true (ts.length + 3) [] s.nx).1 (rec t.pos (xE rec ts t.pos true (ts.length + 3) [] s.nx).2.2).1 (rec t.pos (xE rec ts t.pos true (ts.length + 3) [] s.nx).2.2).2 hft.2.1 he
   have herr : (rec t.pos (xE rec ts t.pos true (ts.length + 3) [] s.nx).2.2).2.err = 0 := by
    have hx := Yf t.pos (xE rec ts t.pos true (ts.length + 3) [] s.nx).1 (rec t.pos (xE rec ts t.pos true (ts.length + 3) [] s.nx).2.2).1 (rec t.pos (xE rec ts t.pos true (ts.length + 3) [] s.nx).2.2).2 hft.2.1
    by_cases e : (rec t.pos (xE rec ts t.pos true (ts.length + 3) [] s.nx).2.2).2.err = 0
    ·exact e
    ·have := hx.2.2 e; omega
   have herr2 : (xE rec ts t.pos true (ts.length + 3) [] s.nx).2.2.err = 0 := by
    by_cases e : (xE rec ts t.pos true (ts.length + 3) [] s.nx).2.2.err = 0
    ·exact e
    ·have := hft.2.2.1 e; omega
   obtain ⟨l, g1, g2, g3, g4⟩ := hlv2 herr2
   obtain ⟨q1, q2⟩ := hlv3 herr
   have hne : (xE rec ts t.pos true (ts.length + 3) [] s.nx).1 ≠ [] := by
    rcases g4 with g4 | ⟨_, g4⟩
    ·omega
    ·rw [g1]; exact g4
   rw [znO] at g1
   obtain ⟨p1, p2⟩ := hla hne (by rw [g1]; exact g2) q1
   refine ⟨p1, ?_⟩
   have : szL (xE rec ts t.pos true (ts.length + 3) [] s.nx).1 = szL l := by rw [g1]
   omega
  ·rw [if_neg h6] at he ⊢
   simp only at he ⊢
   obtain ⟨l, g1, g2, g3, g4⟩ := hlv2 he
   rw [znO] at g1
   rw [g1]
   have hnil : RdT (Rd m) (vA (.ofNat (xE rec ts t.pos true (ts.length + 3) [] s.nx).2.1.pos)) := .nil
   have hkk : xU (wP l (vA (.ofNat (xE rec ts t.pos true (ts.length + 3) [] s.nx).2.1.pos))) = .ofNat 0 ∨ xU (wP l (vA (.ofNat (xE rec ts t.pos true (ts.length + 3) [] s.nx).2.1.pos))) = .ofNat 6 := by
    cases l with
    | nil => exact .inl rfl
    | cons x l => exact .inr rfl
   refine ⟨.inr (.inr (.inr ⟨(RdT.list hnil g2).at _ hkk, by rw [Kl]; exact hkk⟩)), ?_⟩
   rw [ztT]
   have e4 : ∀ p, szD (vA p) = 2 := fun _ => rfl
   cases l with
   | nil => rw [lL, e4]; omega
   | cons x l =>
    rw [ZH, e4]
    have e5 : ∀ p, xU (vA p) = .ofNat 0 := fun _ => rfl
    rw [e5, if_pos (.inl rfl)]
    omega
 rw [if_neg h1] at he ⊢
 by_cases h4 : t.kind = 4
 ·rw [if_pos h4] at he ⊢
  have hlv2 := pQ hfin hlv t.pos false (ts.length + 3) [] s.nx hlt (.inl hfu)
  unfold vecF itF at he ⊢
  simp only at he ⊢
  obtain ⟨l, g1, g2, g3, g4⟩ := hlv2 he
  rw [znO] at g1
  rw [g1]
  refine ⟨.inr (.inr (.inl ⟨l, _, rfl, g2⟩)), ?_⟩
  have e : szD (.mk (.ofNat 7) (.ofNat 0) [] l (.ofNat t.pos)) = 3 + szL l := rfl
  rw [e]; omega
 rw [if_neg h4] at he ⊢
 unfold byF at he ⊢
 obtain ⟨u, g1, g2, g3, g4⟩ := QP t.pos (ts.length + 1) [] s.nx (by omega) hlt h0 (fun x hx => by cases hx) he
 simp only [yX] at g3 g4
 rw [g1]
 refine ⟨.inr (.inl ⟨u, _, rfl, g2, by omega⟩), ?_⟩
 have e : szD (.mk (.ofNat 8) (.ofNat 0) u [] (.ofNat t.pos)) = 6 + 4 * u.length := rfl
 rw [e]; omega
theorem Pe {ts : List Tok} {rec : Rec} {full : Bool} (hlen : ts.length < 100000) (hk : ∀ t ∈ ts, (t.kind ≤ 7 ∧ t.kind ≠ 0) ∧ TA t) (hd : full = false → ∃ m, n = m + 1 ∧ gD ts rec ∧ RdR m ts rec) : RdR n ts (datG rec full ts) := fun op s h he => by
 have hs : s.err = 0 := by
  by_cases e : s.err = 0
  ·exact e
  ·have := (lD (rec := rec) (full := full) (fun e => (hd e).choose_spec.2.1) op s h).2.2.1 e
   omega
 unfold datG at he ⊢
 cases hdr : ts.drop s.at_ with
 | nil => rw [hdr] at he; exact absurd he (qY s op (by decide))
 | cons t r =>
  rw [hdr] at he
  simp only at he ⊢
  exact zxn hlen hk hd s hdr he hs
theorem Pd {ts : List Tok} (hlen : ts.length < 100000) (hk : ∀ t ∈ ts, (t.kind ≤ 7 ∧ t.kind ≠ 0) ∧ TA t) : ∀ n, RdR n ts (datF n ts)
 | 0 => Pe hlen hk (fun e => by cases e)
 | n + 1 => Pe hlen hk (fun _ => ⟨n, rfl, uw ts n, Pd hlen hk n⟩)
theorem Ge {ts : List Tok} (hlen : ts.length < 100000) (hk : ∀ t ∈ ts, (t.kind ≤ 7 ∧ t.kind ≠ 0) ∧ TA t) : ∀ (k : Nat) (acc : List DT) (s : RS), s.at_ ≤ ts.length → ts.length < k + s.at_ → (uF ts k acc s).2.1 = 0 → (∀ d ∈ acc, Rd 200 d) →
  (∀ d ∈ (uF ts k acc s).1, Rd 200 d) ∧ szL (uF ts k acc s).1 ≤ szL acc + 10 * wts (ts.drop s.at_)
 | 0, acc, s, h, hf, _, _ => by omega
 | k + 1, acc, s, h, hf, he, ha => by
  simp only [uF] at he ⊢
  by_cases hlt : s.at_ < ts.length
  ·rw [if_pos hlt] at he ⊢
   by_cases h0 : (datF 200 ts 0 s).2.err = 0
   ·rw [if_pos h0] at he ⊢
    have h1 := uw ts 200 0 s h
    have h3 := h1.2.2.2.1 h0
    obtain ⟨q1, q2⟩ := Pd hlen hk 200 0 s h h0
    obtain ⟨g1, g2⟩ := Ge hlen hk k (acc ++ [(datF 200 ts 0 s).1]) (datF 200 ts 0 s).2 h1.2.1 (by omega) he fun d hd => by
     rcases List.mem_append.1 hd with hd | hd
     ·exact ha d hd
     ·rw [List.mem_singleton.1 hd]; exact q1
    refine ⟨g1, ?_⟩
    rw [Qe] at g2
    simp only [szL] at g2
    omega
   ·rw [if_neg h0] at he; exact absurd he h0
  ·rw [if_neg hlt]
   exact ⟨ha, by simp only; omega⟩
theorem UZ {b : List Nat} (hb : PreS b) (he : (v3 b).2.1 = 0) : (∀ d ∈ (v3 b).1, Rd 200 d) ∧ szL (v3 b).1 ≤ 30 * b.length := by
 unfold v3 at he ⊢
 split at he
 ·rename_i hl
  rw [if_pos hl]
  have hts := PL hb
  have hk : ∀ t ∈ (lexS b).1, (t.kind ≤ 7 ∧ t.kind ≠ 0) ∧ TA t := fun t ht => ⟨⟨(zuz hb t ht).1, PK hb t ht⟩, zrR hb t ht⟩
  obtain ⟨g1, g2⟩ := Ge hts.1 hk ((lexS b).1.length + 1) [] ⟨0, 0, 0⟩ (zN _) (by simp only; omega) he (fun d hd => by cases hd)
  refine ⟨g1, ?_⟩
  have hw := HU hb.1
  unfold jQ
  simp only [szL, List.drop_zero] at g2
  omega
 ·rename_i hl
  exact absurd he hl
def lexE (b : List Nat) (p : Nat) (acc : List Tok) : List Tok × (Nat × Nat) := lexR b (b.length + 1) p acc
theorem Vy {b : List Nat} (hb : Byt b) : ∀ (k k' p : Nat) (acc : List Tok), p ≤ b.length → b.length < k + p → b.length < k' + p → lexR b k p acc = lexR b k' p acc
 | 0, _, p, acc, h, h1, h2 => by omega
 | _ + 1, 0, p, acc, h, h1, h2 => by omega
 | k + 1, k' + 1, p, acc, h, h1, h2 => by
  simp only [lexR]
  split
  ·rename_i hp
   have hle := ZL hb hp
   split
   ·rename_i hf
    have := hle.2.2 hf
    exact Vy hb k k' _ _ hle.2.1 (by omega) (by omega)
   ·rfl
  ·rfl
theorem Ky (hb : Byt b) {p q : Nat} {t : Tok} (hp : p < b.length) (ht : tokR b p = ⟨t, (0, 0), q⟩) (acc : List Tok) : lexE b p acc = lexE b q (if t.kind = 0 then acc else acc ++ [t]) := by
 have hle := ZL hb hp
 rw [ht] at hle
 simp only at hle
 unfold lexE
 rw [lexR, if_pos hp, ht]
 simp only [if_true]
 exact Vy hb _ _ _ _ hle.2.1 (by have := hle.2.2 trivial; omega) (by omega)
theorem Kx (b : List Nat) (acc : List Tok) : lexE b b.length acc = (acc, (0, 0)) := by
 unfold lexE
 rw [lexR, if_neg (Nat.lt_irrefl _)]
def DelimR (r : List Nat) : Prop := r = [] ∨ ∃ c r', r = c :: r' ∧ u3 c = true
theorem zzX : ∀ c, u3 c = true → xY c = false := fun c h => by
 have hc : c < 128 := by
  simp only [u3, vD, zn, zm, beq_iff_eq, decide_eq_true_eq, yR, List.mem_cons, List.not_mem_nil, or_false] at h
  omega
 have key : ((List.range 128).all fun c => !u3 c || !xY c) = true := by decide
 have := List.all_eq_true.1 key c (List.mem_range.2 hc)
 rw [h] at this
 simpa using this
theorem zxQ {c : Nat} (h : xY c = true) : vD c = false ∧ c ≠ 59 ∧ c ≠ 40 ∧ c ≠ 41 ∧ c ≠ 39 ∧ c ≠ 34 ∧ c ≠ 35 := by
 have hc := Zs h
 have key : ((List.range 128).all fun c => !xY c || (!vD c && c != 59 && c != 40 && c != 41 && c != 39 && c != 34 && c != 35)) = true := by decide
 have := List.all_eq_true.1 key c (List.mem_range.2 hc)
 rw [h] at this
 simp at this
 exact ⟨this.1.1.1.1.1.1, this.1.1.1.1.1.2, this.1.1.1.1.2, this.1.1.1.2, this.1.1.2, this.1.2, this.2⟩
theorem zpt {w r : List Nat} (hw : w.all xY = true) (hr : DelimR r) : (w ++ r).takeWhile xY = w := by
 induction w with
 | nil =>
  rcases hr with rfl | ⟨c, r', rfl, hc⟩
  ·rfl
  ·rw [znO, znW, if_neg (by rw [zzX c hc]; simp)]
 | cons c w ih =>
  simp only [znP, zm] at hw
  rw [y8, znW, if_pos hw.1, ih hw.2]
theorem qg {w r : List Nat} {p : Nat} (h : b.drop p = w ++ r) : b.drop (p + w.length) = r := by
 rw [← z4, h, List.drop_left]
theorem jx {w r : List Nat} {p : Nat} (h : b.drop p = w ++ r) (hw : w ≠ []) : p < b.length ∧ p + w.length + r.length = b.length := by
 have := congrArg yB h
 rw [znK, ye] at this
 have : 0 < w.length := List.length_pos_iff.2 hw
 omega
theorem Lx {w r : List Nat} {p : Nat} (h : b.drop p = w ++ r) (hw : w.all xY = true) (hr : DelimR r) : twS b p = w := by
 unfold twS; rw [h, zpt hw hr]
theorem kn {r : List Nat} {p c : Nat} (h : b.drop p = c :: r) : tokR b p = fin2 b (tokB b p c) (tokL b p c) := by
 unfold tokR; rw [wJ h]
theorem Zl (b : List Nat) (x : LR) : fin2 b x false = x := by
 unfold fin2
 rw [if_neg (fun h => by have := h.2.1; cases this)]
theorem py {r : List Nat} {x : LR} {l : Bool} (h : b.drop x.q = r) (hq : x.q ≤ b.length) (hr : DelimR r) : fin2 b x l = x := by
 unfold fin2
 rw [if_neg]
 rintro ⟨_, _, h1, h2⟩
 rcases hr with rfl | ⟨c, r', rfl, hc⟩
 ·have := congrArg yB h
  rw [znK] at this
  simp at this; omega
 ·rw [wJ h, hc] at h2; cases h2
theorem zwA {r : List Nat} {p c : Nat} (h : b.drop p = c :: r) (x y : Nat) (hc : c ≠ x) : bgR b p [x, y] = false := by
 unfold bgR
 rw [h]
 exact decide_eq_false fun e => by
  cases r with
  | nil => simp at e
  | cons d r => simp at e; exact hc e.1
theorem Ug {r : List Nat} {p c d : Nat} (h : b.drop p = c :: d :: r) (x y : Nat) (hc : d ≠ y) : bgR b p [x, y] = false := by
 unfold bgR
 rw [h]
 exact decide_eq_false fun e => by simp at e; exact hc e.2
theorem zwB {r : List Nat} {p x y : Nat} (h : b.drop p = x :: y :: r) : bgR b p [x, y] = true := by
 unfold bgR
 rw [h]
 exact decide_eq_true rfl
theorem zxU {r : List Nat} {p : Nat} (h : b.drop p = 32 :: r) : tokR b p = ⟨t0, (0, 0), p + 1⟩ := by
 rw [kn h]
 have e1 : tokB b p 32 = ⟨t0, (0, 0), p + 1⟩ := by unfold tokB; rw [if_pos (by decide)]
 have e2 : tokL b p 32 = false := by unfold tokL; rw [if_pos (by decide)]
 rw [e1, e2, Zl]
theorem zqE {r : List Nat} {p c : Nat} (h : b.drop p = c :: r) (hc : c = 40 ∨ c = 41) : tokR b p = ⟨⟨parK c, p, d0⟩, (0, 0), p + 1⟩ := by
 rw [kn h]
 have hb : vD c = false := by rcases hc with rfl | rfl <;> decide
 have h59 : c ≠ 59 := by omega
 have hbg := zwA h 35 124 (by omega)
 have e1 : tokB b p c = ⟨⟨parK c, p, d0⟩, (0, 0), p + 1⟩ := by
  unfold tokB
  rw [if_neg (by rw [hb]; simp), if_neg h59, if_neg (by rw [hbg]; simp), if_pos (by omega)]
 have e2 : tokL b p c = false := by
  unfold tokL
  rw [if_neg (by rw [hb]; simp), if_neg h59, if_neg (by rw [hbg]; simp), if_pos (by omega)]
 rw [e1, e2, Zl]
theorem km {r : List Nat} {p d : Nat} (h : b.drop p = 35 :: d :: r) (hd : d ≠ 124) : tokB b p 35 = qd b p ∧ tokL b p 35 = decide ((qd b p).t.kind = 7) := by
 have hbg := Ug h 35 124 hd
 have hb : vD 35 = false := by decide
 constructor
 ·unfold tokB
  rw [if_neg (by rw [hb]; simp), if_neg (by decide), if_neg (by rw [hbg]; simp), if_neg (by decide), if_neg (by decide), if_pos rfl]
 ·unfold tokL
  rw [if_neg (by rw [hb]; simp), if_neg (by decide), if_neg (by rw [hbg]; simp), if_neg (by decide), if_neg (by decide), if_pos rfl]
theorem zqG {r : List Nat} {p : Nat} (h : b.drop p = 35 :: 40 :: r) : tokR b p = ⟨⟨4, p, d0⟩, (0, 0), p + 2⟩ := by
 rw [kn h, (km h (by decide)).1, (km h (by decide)).2]
 have e : qd b p = ⟨⟨4, p, d0⟩, (0, 0), p + 2⟩ := by unfold qd; rw [if_pos (zwB h)]
 rw [e]
 exact Zl _ _
theorem VE {r w : List Nat} {p c : Nat} (h : b.drop p = 35 :: (c :: w ++ r)) (hc : c ≠ 40 ∧ c ≠ 92) (hw : (c :: w).all xY = true) (hr : (c :: w ++ r).takeWhile xY = c :: w) : qd b p = ve p (c :: w) (ww b (p + 1 + (c :: w).length)) (p + 1 + (c :: w).length) := by
 have h2 : b.drop p = 35 :: c :: (w ++ r) := h
 have h3 : b.drop (p + 1) = c :: w ++ r := wz h
 have e : twS b (p + 1) = c :: w := by unfold twS; rw [h3, hr]
 unfold qd
 rw [if_neg (by rw [Ug h2 35 40 hc.1]; simp), if_neg (by rw [Ug h2 35 92 hc.2]; simp), e]
theorem zou {r : List Nat} {p : Nat} (h : b.drop p = [35, 117, 56, 40] ++ r) : tokR b p = ⟨⟨5, p, d0⟩, (0, 0), p + 4⟩ := by
 have h1 : b.drop p = 35 :: (117 :: [56] ++ (40 :: r)) := h
 have h2 : b.drop p = 35 :: 117 :: (56 :: 40 :: r) := h
 rw [kn h2, (km h2 (by decide)).1, (km h2 (by decide)).2]
 have hm := VE (w := [56]) h1 (by decide) (by decide) rfl
 have h4 : b.drop (p + 1 + 2) = 40 :: r := by
  have : b.drop (p + 3) = 40 :: r := by rw [← z4, h]; rfl
  exact this
 rw [show p + 1 + (117 :: [56]).length = p + 1 + 2 from rfl, wJ h4] at hm
 have e : qd b p = ⟨⟨5, p, d0⟩, (0, 0), p + 4⟩ := by
  rw [hm]
  unfold ve
  rw [if_neg (by decide), if_pos ⟨rfl, rfl⟩]
 rw [e]
 exact Zl _ _
theorem GG {r : List Nat} {p c : Nat} (h : b.drop p = [35, c] ++ r) (hc : c = 116 ∨ c = 102) (hr : DelimR r) : tokR b p = ⟨bTok p (if c = 116 then 1 else 0), (0, 0), p + 2⟩ := by
 have h1 : b.drop p = 35 :: (c :: [] ++ r) := h
 have h2 : b.drop p = 35 :: c :: r := h
 have hs : xY c = true := by rcases hc with rfl | rfl <;> decide
 have hw : (c :: []).all xY = true := by rw [znP, hs]; rfl
 rw [kn h2, (km h2 (by omega)).1, (km h2 (by omega)).2]
 have hm := VE (w := []) h1 (by omega) hw (zpt hw hr)
 have e : qd b p = ⟨bTok p (if c = 116 then 1 else 0), (0, 0), p + 2⟩ := by
  rw [hm]
  unfold ve
  rcases hc with rfl | rfl
  ·rw [if_pos (.inl rfl)]; rfl
  ·rw [if_neg (by decide), if_neg (fun h => absurd h.1 (by decide)), if_neg (fun h => h.2 (by first | rfl | exact absurd rfl h.1))]; rfl
 rw [e]
 have hl := jx h (by simp)
 simp only [yY, yX] at hl
 exact py (r := r) (qg h) (by simp only; omega) hr
theorem ZM {r w : List Nat} {p : Nat} (h : b.drop p = w ++ r) (hw : w.all xY = true) (h0 : w ≠ []) (hr : DelimR r) : tokR b p = ⟨vo w p, (0, 0), p + w.length⟩ := by
 cases w with
 | nil => exact absurd rfl h0
 | cons c w =>
  have hs : xY c = true := by simp only [znP, zm] at hw; exact hw.1
  obtain ⟨f1, f2, f3, f4, f5, f6, f7⟩ := zxQ hs
  have h2 : b.drop p = c :: (w ++ r) := h
  have hbg := zwA h2 35 124 f7
  have ht := Lx h hw hr
  rw [kn h2]
  have e1 : tokB b p c = ⟨vo (c :: w) p, (0, 0), p + (c :: w).length⟩ := by
   unfold tokB
   rw [if_neg (by rw [f1]; simp), if_neg f2, if_neg (by rw [hbg]; simp), if_neg (by omega), if_neg f6, if_neg f7, if_pos hs, ht]
  rw [e1]
  have hl := jx h h0
  exact py (r := r) (qg h) (by simp only; omega) hr
theorem J7 {c : Nat} (h : uB c = true) : hexL 0 (hexS c) = some c ∧ (hexS c).all xY = true ∧ hexS c ≠ [] ∧ xB c = true := by
 have hc := Wv h
 have key : ((List.range 128).all fun c => !uB c || (decide (hexL 0 (hexS c) = some c) && (hexS c).all xY && decide (hexS c ≠ []) && xB c)) = true := by decide
 have := List.all_eq_true.1 key c (List.mem_range.2 hc)
 rw [h] at this
 simp only [Bool.not_true, Bool.false_or, zm, decide_eq_true_eq] at this
 exact ⟨this.1.1.1, this.1.1.2, this.1.2, this.2⟩
theorem pr {c : Nat} (h : c < 128) (r : List Nat) : decR (c :: r) = some (c, 1) := by
 have e := p6 (c := c) (xH.2 ⟨by omega, by omega⟩) r
 rw [ug, if_pos h] at e
 exact e
theorem zyM {c : Nat} (r : List Nat) (h : xY c = false) {w : List Nat} (hw : w.all xY = true) : (w ++ c :: r).takeWhile xY = w := by
 induction w with
 | nil => rw [znO, znW, if_neg (by rw [h]; simp)]
 | cons d w ih =>
  simp only [znP, zm] at hw
  rw [y8, znW, if_pos hw.1, ih hw.2]
theorem Qg {b : List Nat} (f : Nat) : ∀ (cs : List Nat) (k p : Nat) (out r : List Nat), (∀ c ∈ cs, xB c = true) → b.drop p = qs cs ++ 34 :: r → cs.length < k → qo b f k p out = (.inl (out ++ encs cs), p + (qs cs).length + 1)
 | [], k, p, out, r, _, h, hk => by
  cases k with
  | zero => omega
  | succ k =>
   have h2 : b.drop p = 34 :: r := h
   simp only [qo]
   rw [h2, pr (by decide), if_neg (by simp)]
   simp only [if_true, encs, xi]
   rfl
 | c :: cs, k, p, out, r, hv, h, hk => by
  cases k with
  | zero => omega
  | succ k =>
   have hc := hv c (by simp)
   have hv2 : ∀ x ∈ cs, xB x = true := fun x hx => hv x (by simp [hx])
   have hk2 : cs.length < k := by simp only [yY] at hk; omega
   rw [gq, znY] at h
   have ih := fun (p' : Nat) (out' : List Nat) (h' : b.drop p' = qs cs ++ 34 :: r) => Qg (b := b) f cs k p' out' r hv2 h' hk2
   have hend : b.drop (p + (wg c).length) = qs cs ++ 34 :: r := qg h
   have hlen : (qs (c :: cs)).length = (wg c).length + (qs cs).length := by rw [gq, ye]
   have hout : out ++ encC c ++ encs cs = out ++ encs (c :: cs) := by simp only [encs, znY]
   have ih2 := ih (p + (wg c).length) (out ++ encC c) hend
   rw [hout, Nat.add_assoc p, ← hlen] at ih2
   rw [← ih2]
   have hne : b.drop p ≠ [] := by
    rw [h]
    have := jO c
    simp [this]
   have hpl := (jx h (jO c)).2
   simp only [qo]
   rw [if_neg hne]
   have esc : ∀ w, wg c = 92 :: w → w ≠ [] → (escR b (p + 1) = (some c, p + 1 + w.length)) → (match decR (b.drop p) with
     | none => (.inr (4, p), p)
     | some q => if q.1 = 34 then (.inl out, p + q.2) else if q.1 = 92 then (if p + q.2 = b.length then (.inr (4, f), p + q.2) else match (escR b (p + q.2)).1 with
       | some c => qo b f k (escR b (p + q.2)).2 (out ++ encC c)
       | none => (.inr (4, p + q.2 - 1), (escR b (p + q.2)).2))
      else qo b f k (p + q.2) (out ++ encC q.1)) = qo b f k (p + (wg c).length) (out ++ encC c) := fun w hw h0 he => by
    have hl : (wg c).length = w.length + 1 := by rw [hw]; rfl
    have hw0 : 0 < w.length := List.length_pos_iff.2 h0
    have hd : decR (b.drop p) = some (92, 1) := by rw [h, hw]; exact pr (by decide) _
    rw [hd]
    simp only
    rw [if_neg (by decide), if_pos trivial, if_neg (by omega), he]
    simp only
    rw [show p + 1 + w.length = p + (wg c).length by omega]
   by_cases h1 : c = 34 ∨ c = 92
   ·have hq : wg c = 92 :: encC c := by unfold wg; rw [if_pos h1]
    have hc1 : encC c = [c] := by rw [ug, if_pos (by omega)]
    refine esc (encC c) hq (by rw [hc1]; simp) ?_
    rw [hq, hc1] at h
    have h3 : b.drop (p + 1) = c :: (qs cs ++ 34 :: r) := wz h
    unfold escR
    rw [wJ h3, if_pos h1, hc1]; rfl
   by_cases h2 : c = 10
   ·subst h2
    have hq : wg 10 = 92 :: [110] := rfl
    refine esc [110] hq (by simp) ?_
    rw [hq] at h
    have h3 : b.drop (p + 1) = 110 :: (qs cs ++ 34 :: r) := wz h
    unfold escR
    rw [wJ h3]; rfl
   by_cases h3 : c = 9
   ·subst h3
    have hq : wg 9 = 92 :: [116] := rfl
    refine esc [116] hq (by simp) ?_
    rw [hq] at h
    have h3 : b.drop (p + 1) = 116 :: (qs cs ++ 34 :: r) := wz h
    unfold escR
    rw [wJ h3]; rfl
   by_cases h4 : uB c = true
   ·have hq : wg c = 92 :: 120 :: (hexS c ++ [59]) := by unfold wg; rw [if_neg h1, if_neg h2, if_neg h3, if_pos h4]
    obtain ⟨x1, x2, x3, x4⟩ := J7 h4
    refine esc (120 :: (hexS c ++ [59])) hq (by simp) ?_
    rw [hq] at h
    have h5 : b.drop (p + 1) = 120 :: (hexS c ++ [59] ++ (qs cs ++ 34 :: r)) := wz h
    have h6 : b.drop (p + 1 + 1) = hexS c ++ 59 :: (qs cs ++ 34 :: r) := by rw [wz h5]; simp
    have h7 : twS b (p + 1 + 1) = hexS c := by unfold twS; rw [h6]; exact zyM _ (by decide) x2
    have h8 : ww b (p + 1 + 1 + (hexS c).length) = 59 := wJ (qg h6)
    unfold escR
    rw [wJ h5, if_neg (by decide), if_neg (by decide), if_neg (by decide), if_pos rfl, h7, x1]
    simp only
    rw [if_pos ⟨x3, x4, h8⟩]
    simp only [yY, ye, yX]
    congr 1
    omega
   ·have hq : wg c = encC c := by unfold wg; rw [if_neg h1, if_neg h2, if_neg h3, if_neg h4]
    rw [hq] at h ⊢
    rw [h, p6 hc]
    simp only
    rw [if_neg (by omega), if_neg (by omega)]
theorem zqF {r : List Nat} {p : Nat} {cs : List Nat} (hv : ∀ c ∈ cs, xB c = true) (h : b.drop p = 34 :: (qs cs ++ [34]) ++ r) : tokR b p = ⟨⟨7, p, .mk (.ofNat 4) (.ofNat 0) (encs cs) [] (.ofNat p)⟩, (0, 0), p + (34 :: (qs cs ++ [34])).length⟩ := by
 have h2 : b.drop p = 34 :: (qs cs ++ 34 :: r) := by rw [h]; simp
 have h3 : b.drop (p + 1) = qs cs ++ 34 :: r := wz h2
 have hl := congrArg yB h3
 rw [znK, ye, yY] at hl
 have hql : cs.length ≤ (qs cs).length := by
  clear h h2 h3 hl hv
  induction cs with
  | nil => exact zq _
  | cons c r ih =>
   have : 0 < (wg c).length := List.length_pos_iff.2 (jO c)
   rw [gq, ye, yY]; omega
 have hbg := zwA h2 35 124 (by decide)
 have ht := Qg p cs (b.length + 1) (p + 1) [] r hv h3 (by omega)
 rw [znO] at ht
 rw [kn h2]
 have e1 : tokB b p 34 = ⟨⟨7, p, .mk (.ofNat 4) (.ofNat 0) (encs cs) [] (.ofNat p)⟩, (0, 0), p + (34 :: (qs cs ++ [34])).length⟩ := by
  unfold tokB
  rw [if_neg (by decide), if_neg (by decide), if_neg (by rw [hbg]; simp), if_neg (by decide), if_pos rfl, ht]
  simp only [kO, yY, ye, yX]
  congr 1
  omega
 have e2 : tokL b p 34 = false := by
  unfold tokL
  rw [if_neg (by decide), if_neg (by decide), if_neg (by rw [hbg]; simp), if_neg (by decide), if_pos rfl]
 rw [e1, e2, Zl]
theorem zuD {r : List Nat} {p c : Nat} (hc : xB c = true) (h : b.drop (p + 2) = wN c ++ r) (hr : DelimR r) : litR b p = (some c, p + 2 + (wN c).length) := by
 have hn0 : wN c ≠ [] := by
  unfold wN
  obtain ⟨x, y, e⟩ := Q2 c
  split
  ·simp
  split
  ·simp
  split
  ·simp
  split
  ·simp
  ·rw [e]; simp
 have hl := (jx h hn0).1
 unfold litR
 rw [if_neg (by omega)]
 have go : ∀ (x : Nat) (w : List Nat), wN c = x :: w → x < 128 → w.all xY = true → litC x w = some c → (match decR (b.drop (p + 2)) with
   | none => (none, p + 2)
   | some q => (litC q.1 (twS b (p + 2 + q.2)), p + 2 + q.2 + (twS b (p + 2 + q.2)).length)) = (some c, p + 2 + (wN c).length) := fun x w hw hx hs hlit => by
  rw [hw] at h
  have hd : decR (b.drop (p + 2)) = some (x, 1) := by rw [h]; exact pr hx _
  have h3 : b.drop (p + 2 + 1) = w ++ r := wz h
  have ht := Lx h3 hs hr
  rw [hd]
  simp only
  rw [ht, hlit, hw, yY]
  congr 1
  omega
 by_cases h1 : c = 32
 ·subst h1; exact go 115 [112, 97, 99, 101] rfl (by decide) (by decide) (by decide)
 by_cases h2 : c = 10
 ·subst h2; exact go 110 [101, 119, 108, 105, 110, 101] rfl (by decide) (by decide) (by decide)
 by_cases h3 : c = 9
 ·subst h3; exact go 116 [97, 98] rfl (by decide) (by decide) (by decide)
 by_cases h4 : uB c = true
 ·obtain ⟨x1, x2, x3, x4⟩ := J7 h4
  refine go 120 (hexS c) (by unfold wN; rw [if_neg h1, if_neg h2, if_neg h3, if_pos h4]) (by decide) x2 ?_
  have e : encC 120 = [120] := rfl
  unfold litC
  rw [if_neg x3, e, if_neg (by simp [LI]), if_neg (by simp [Qo]), if_neg (by simp [wTab]), x1]
  simp only
  rw [if_pos ⟨trivial, x4⟩]
 ·have hq : wN c = encC c := by unfold wN; rw [if_neg h1, if_neg h2, if_neg h3, if_neg h4]
  rw [hq] at h ⊢
  have h5 : b.drop (p + 2 + (encC c).length) = [] ++ r := by rw [qg h]; rfl
  have ht := Lx h5 rfl hr
  rw [h, p6 hc]
  simp only
  rw [ht]
  rfl
theorem ztY {r : List Nat} {p c : Nat} (hc : xB c = true) (h : b.drop p = 35 :: 92 :: wN c ++ r) (hr : DelimR r) : tokR b p = ⟨cTok p c, (0, 0), p + (35 :: 92 :: wN c).length⟩ := by
 have h2 : b.drop p = 35 :: 92 :: (wN c ++ r) := h
 have h3 : b.drop (p + 2) = wN c ++ r := by rw [← z4, h2]; rfl
 have hlit := zuD hc h3 hr
 rw [kn h2, (km h2 (by decide)).1, (km h2 (by decide)).2]
 have e : qd b p = ⟨cTok p c, (0, 0), p + (35 :: 92 :: wN c).length⟩ := by
  unfold qd
  rw [if_neg (by rw [Ug h2 35 40 (by decide)]; simp), if_pos (zwB h2), hlit]
  simp only [pb, hlit, yY]
  congr 1
  omega
 rw [e]
 have hl := (jx h (by simp)).2
 exact py (r := r) (qg h) (by simp only; omega) hr
def et (t : Tok) : Nat × DT := (t.kind, er t.d)
def qm (f : DT → List (Nat × DT)) : List DT → List (Nat × DT)
 | [] => []
 | d :: r => f d ++ qm f r
def lY (d : DT) : Nat × DT := (7, er d)
def endK (f : DT → List (Nat × DT)) (e : DT) : List (Nat × DT) := if xU e = .ofNat 0 then [] else (6, d0) :: f e
noncomputable def ktK (f : DT → List (Nat × DT)) (d : DT) (k : Int) : List (Nat × DT) :=
 if k = .ofNat 0 then [(1, d0), (2, d0)]
 else if k = .ofNat 7 then (4, d0) :: (qm f (qn d) ++ [(2, d0)])
 else if k = .ofNat 8 then (5, d0) :: ((qD (xV d)).map lY ++ [(2, d0)])
 else if k = .ofNat 6 then (1, d0) :: (qm f (xr d).1 ++ (endK f (xr d).2 ++ [(2, d0)]))
 else [lY d]
noncomputable def ktN : Nat → DT → List (Nat × DT)
 | 0, _ => []
 | k + 1, d => ktK (ktN k) d (xU d)
def LexP (b : List Nat) (p : Nat) (w : List Nat) (ks : List (Nat × DT)) : Prop := ∀ acc, ∃ ts, ts.map et = ks ∧ lexE b p acc = lexE b (p + w.length) (acc ++ ts)
theorem LexP.nil (b : List Nat) (p : Nat) : LexP b p [] [] := fun acc => ⟨[], rfl, by simp⟩
theorem LexP.app {p : Nat} {w w' : List Nat} {ks ks' : List (Nat × DT)} (h : LexP b p w ks) (h' : LexP b (p + w.length) w' ks') : LexP b p (w ++ w') (ks ++ ks') := fun acc => by
 obtain ⟨ts, h1, h2⟩ := h acc
 obtain ⟨ts', h3, h4⟩ := h' (acc ++ ts)
 exact ⟨ts ++ ts', by rw [List.map_append, h1, h3], by rw [h2, h4, ye, znY, Nat.add_assoc]⟩
theorem LexP.one (hb : Byt b) {p : Nat} {w r : List Nat} {t : Tok} (h : b.drop p = w ++ r) (h0 : w ≠ []) (ht : tokR b p = ⟨t, (0, 0), p + w.length⟩) (hk : t.kind ≠ 0) : LexP b p w [et t] := fun acc => by
 refine ⟨[t], rfl, ?_⟩
 rw [Ky hb (jx h h0).1 ht, if_neg hk]
theorem LexP.blank (hb : Byt b) {p : Nat} {r : List Nat} (h : b.drop p = 32 :: r) : LexP b p [32] [] := fun acc => by
 refine ⟨[], rfl, ?_⟩
 rw [Ky hb (uf h).1 (zxU h)]
 exact congrArg (lexE b (p + 1)) (xi acc).symm
theorem LexP.par (hb : Byt b) {p c : Nat} {r : List Nat} (h : b.drop p = c :: r) (hc : c = 40 ∨ c = 41) : LexP b p [c] [(parK c, d0)] :=
 LexP.one (t := ⟨parK c, p, d0⟩) hb (w := [c]) h (by simp) (zqE h hc) (by rcases hc with rfl | rfl <;> simp [parK])
theorem u9 (r : List Nat) : DelimR (32 :: r) := .inr ⟨32, r, rfl, by decide⟩
theorem ka (r : List Nat) : DelimR (41 :: r) := .inr ⟨41, r, rfl, by decide⟩
theorem KB {b : List Nat} (hb : Byt b) {f : DT → List Nat} {g : DT → List (Nat × DT)} : ∀ (l : List DT) (p : Nat) (r : List Nat), (∀ x ∈ l, ∀ p r, b.drop p = f x ++ r → DelimR r → LexP b p (f x) (g x)) → b.drop p = qF f l ++ r → DelimR r → LexP b p (qF f l) (qm g l)
 | [], p, r, _, _, _ => LexP.nil b p
 | x :: l, p, r, hf, h, hr => by
  have h1 : b.drop p = 32 :: (f x ++ (qF f l ++ r)) := by rw [h]; simp [qF]
  have h2 : b.drop (p + 1) = f x ++ (qF f l ++ r) := wz h1
  have h3 : b.drop (p + 1 + (f x).length) = qF f l ++ r := qg h2
  have hd : DelimR (qF f l ++ r) := by
   cases l with
   | nil => exact hr
   | cons y l => exact u9 _
  have k1 := LexP.blank hb h1
  have k2 := hf x (by simp) (p + 1) _ h2 hd
  have k3 := KB hb l (p + 1 + (f x).length) r (fun y hy => hf y (by simp [hy])) h3 hr
  exact LexP.app (w := [32]) (ks := []) k1 (LexP.app k2 k3)
theorem UL (hb : Byt b) {f : DT → List Nat} {g : DT → List (Nat × DT)} (l : List DT) (p : Nat) (r : List Nat) (hf : ∀ x ∈ l, ∀ p r, b.drop p = f x ++ r → DelimR r → LexP b p (f x) (g x)) (h : b.drop p = allT f l ++ r) (hr : DelimR r) : LexP b p (allT f l) (qm g l) := by
 cases l with
 | nil => exact LexP.nil b p
 | cons x l =>
  have h1 : b.drop p = f x ++ (qF f l ++ r) := by rw [h]; simp [allT]
  have h3 : b.drop (p + (f x).length) = qF f l ++ r := qg h1
  have hd : DelimR (qF f l ++ r) := by
   cases l with
   | nil => exact hr
   | cons y l => exact u9 _
  exact LexP.app (hf x (by simp) p _ h1 hd) (KB hb l _ r (fun y hy => hf y (by simp [hy])) h3 hr)
theorem Ka {c : Nat} (h : c < 256) : IntT (v8 c) := by
 have hd : ∀ k, k < 10 → x8 (48 + k) = true := fun k hk => by simp [x8]; omega
 unfold v8
 split
 ·rename_i h1
  by_cases h0 : c = 0
  ·subst h0; exact .inl rfl
  ·exact .inr ⟨48 + c, [], by simp [hd c h1], by omega, .inl rfl⟩
 split
 ·rename_i h1 h2
  exact .inr ⟨48 + c / 10, [48 + c % 10], by simp [hd (c / 10) (by omega), hd (c % 10) (by omega)], by omega, .inl rfl⟩
 ·exact .inr ⟨48 + c / 100, [48 + c / 10 % 10, 48 + c % 10], by simp [hd (c / 100) (by omega), hd (c / 10 % 10) (by omega), hd (c % 10) (by omega)], by omega, .inl rfl⟩
theorem V9 {w : List Nat} {p : Nat} (h : IntT w) : vo w p = ⟨7, p, .mk (.ofNat 2) (.ofNat 0) w [] (.ofNat p)⟩ := by
 unfold vo
 rw [if_neg h.sym.2.2.2, h.intR]
theorem zwi {w : List Nat} {p : Nat} (h : SymT w) : vo w p = ⟨7, p, .mk (.ofNat 5) (.ofNat 0) w [] (.ofNat p)⟩ := by
 unfold vo
 rw [if_neg h.2.2.1, h.2.2.2]
theorem Kz (hb : Byt b) (h : OkA d) (n p : Nat) (r : List Nat) (hd : b.drop p = txN false (n + 1) d ++ r) (hr : DelimR r) : LexP b p (txN false (n + 1) d) (ktN (n + 1) d) := by
 obtain ⟨k, nn, t, ks, q⟩ := d
 simp only [OkA] at h
 obtain ⟨rfl, _, h⟩ := h
 rcases h with ⟨rfl, rfl, h⟩ | ⟨rfl, rfl, h⟩ | ⟨rfl, rfl, c, rfl, h⟩ | ⟨rfl, rfl, cs, h, rfl⟩ | ⟨rfl, rfl, h⟩
 ·rcases h with rfl | rfl
  ·have h1 : b.drop p = [35, 102] ++ r := hd
   exact LexP.one (t := bTok p 0) hb h1 (zn7 _ _) (GG h1 (.inr rfl) hr) (by simp [bTok])
  ·have h1 : b.drop p = [35, 116] ++ r := hd
   exact LexP.one (t := bTok p 1) hb h1 (zn7 _ _) (GG h1 (.inl rfl) hr) (by simp [bTok])
 ·have h1 : b.drop p = t ++ r := hd
  obtain ⟨s1, s2, _, _⟩ := h.sym
  have ht := ZM h1 s1 s2 hr
  rw [V9 h] at ht
  exact LexP.one (t := ⟨7, p, .mk (.ofNat 2) (.ofNat 0) t [] (.ofNat p)⟩) hb h1 s2 ht (by simp)
 ·have h1 : b.drop p = 35 :: 92 :: wN c ++ r := hd
  exact LexP.one (t := cTok p c) hb h1 (zn7 _ _) (ztY h h1 hr) (by simp [cTok])
 ·have e : txN false (n + 1) (.mk (.ofNat 4) (.ofNat 0) (encs cs) [] q) = 34 :: (qs cs ++ [34]) := by
   show vl false (encs cs) = _
   unfold vl
   rw [if_neg (by decide), WP h]
  rw [e] at hd ⊢
  exact LexP.one (t := ⟨7, p, .mk (.ofNat 4) (.ofNat 0) (encs cs) [] (.ofNat p)⟩) hb hd (by simp) (zqF h hd) (by simp)
 ·have h1 : b.drop p = t ++ r := hd
  have ht := ZM h1 h.2.1 h.1 hr
  rw [zwi h] at ht
  exact LexP.one (t := ⟨7, p, .mk (.ofNat 5) (.ofNat 0) t [] (.ofNat p)⟩) hb h1 h.1 ht (by simp)
theorem zrS (hb : Byt b) {c : Nat} (hc : c < 256) (p : Nat) (r : List Nat) (hd : b.drop p = xV (gK c) ++ r) (hr : DelimR r) : LexP b p (xV (gK c)) [lY (gK c)] := by
 have h1 : b.drop p = v8 c ++ r := hd
 have h := Ka hc
 obtain ⟨s1, s2, _, _⟩ := h.sym
 have ht := ZM h1 s1 s2 hr
 rw [V9 h] at ht
 exact LexP.one (t := ⟨7, p, .mk (.ofNat 2) (.ofNat 0) (v8 c) [] (.ofNat p)⟩) hb h1 s2 ht (by simp)
theorem Vi : ∀ l : List DT, qm (fun x => [lY x]) l = l.map lY
 | [] => rfl
 | x :: l => by simp only [qm, Vi l, List.map_cons, y8, znO]
theorem Zt {b : List Nat} (hb : Byt b) : ∀ (n m : Nat) (d : DT) (p : Nat) (r : List Nat), Rd m d → GoodD n d → b.drop p = txN false n d ++ r → DelimR r → LexP b p (txN false n d) (ktN n d)
 | 0, _, d, _, _, _, h, _, _ => by
  have h1 := h.2.2
  have h2 := wh d
  unfold wtD at h1; omega
 | n + 1, 0, d, p, r, h, _, hd, hr => Kz hb h n p r hd hr
 | n + 1, m + 1, d, p, r, h, hg, hd, hr => by
  rcases h with h | ⟨t, q, rfl, h⟩ | ⟨ks, q, rfl, h⟩ | ⟨h, hk⟩
  ·exact Kz hb h n p r hd hr
  ·have e : txN false (n + 1) (.mk (.ofNat 8) (.ofNat 0) t [] q) = [35, 117, 56, 40] ++ (allT xV (qD t) ++ [41]) := by
    rw [← znY]; rfl
   have e2 : ktN (n + 1) (.mk (.ofNat 8) (.ofNat 0) t [] q) = [(5, d0)] ++ (qm (fun x => [lY x]) (qD t) ++ [(2, d0)]) := by
    rw [Vi]; rfl
   rw [e] at hd ⊢
   rw [e2]
   have h1 : b.drop p = [35, 117, 56, 40] ++ (allT xV (qD t) ++ (41 :: r)) := by rw [hd]; simp
   have h2 := qg h1
   have h3 := qg h2
   refine LexP.app (LexP.one (t := ⟨5, p, d0⟩) hb h1 (by simp) (zou h1) (by simp)) (LexP.app (UL hb _ _ _ (fun x hx p' r' h' hr' => ?_) h2 (ka r)) (LexP.par hb h3 (.inr rfl)))
   obtain ⟨c, hc, rfl⟩ := List.mem_map.1 hx
   exact zrS hb (h.1 c hc) p' r' h' hr'
  ·have e : txN false (n + 1) (.mk (.ofNat 7) (.ofNat 0) [] ks q) = [35, 40] ++ (allT (txN false n) ks ++ [41]) := by
    rw [← znY]; rfl
   have e2 : ktN (n + 1) (.mk (.ofNat 7) (.ofNat 0) [] ks q) = [(4, d0)] ++ (qm (ktN n) ks ++ [(2, d0)]) := rfl
   have hgk := hg.kids rfl
   rw [e] at hd ⊢
   rw [e2]
   have h1 : b.drop p = [35, 40] ++ (allT (txN false n) ks ++ (41 :: r)) := by rw [hd]; simp
   have h2 := qg h1
   have h3 := qg h2
   exact LexP.app (LexP.one (t := ⟨4, p, d0⟩) hb h1 (by simp) (zqG h1) (by simp)) (LexP.app (UL hb _ _ _ (fun x hx p' r' h' hr' => Zt hb n m x p' r' (h x hx) (hgk x hx) h' hr') h2 (ka r)) (LexP.par hb h3 (.inr rfl)))
  ·rcases hk with hk | hk
   ·cases h with
    | nil =>
     have h1 : b.drop p = 40 :: 41 :: r := hd
     exact LexP.app (w := [40]) (w' := [41]) (ks := [(1, d0)]) (ks' := [(2, d0)]) (LexP.par hb h1 (.inl rfl)) (LexP.par hb (wz h1) (.inr rfl))
    | cons _ _ => cases hk
    | dot _ h2 _ => exact absurd hk h2
   ·obtain ⟨i1, i2, _, _⟩ := hg.items hk
    obtain ⟨r1, r2⟩ := h.items
    have e : txN false (n + 1) d = [40] ++ (allT (txN false n) (xr d).1 ++ (endT (txN false n) (xr d).2 ++ [41])) := by
     show txK false (txN false n) d (xU d) = _
     rw [hk, ← znY, ← znY]; rfl
    have e2 : ktN (n + 1) d = [(1, d0)] ++ (qm (ktN n) (xr d).1 ++ (endK (ktN n) (xr d).2 ++ [(2, d0)])) := by
     show ktK (ktN n) d (xU d) = _
     rw [hk]; rfl
    rw [e] at hd ⊢
    rw [e2]
    have h1 : b.drop p = [40] ++ (allT (txN false n) (xr d).1 ++ (endT (txN false n) (xr d).2 ++ (41 :: r))) := by rw [hd]; simp
    have h2 := qg h1
    have h3 := qg h2
    have h4 := qg h3
    have hde : DelimR (endT (txN false n) (xr d).2 ++ 41 :: r) := by
     unfold endT
     split
     ·exact ka r
     ·exact u9 _
    refine LexP.app (LexP.par hb h1 (.inl rfl)) (LexP.app (UL hb _ _ _ (fun x hx p' r' h' hr' => Zt hb n m x p' r' (r1 x hx) (i1 x hx) h' hr') h2 hde) (LexP.app ?_ (LexP.par hb h4 (.inr rfl))))
    revert h3
    unfold endT endK
    split
    ·exact fun _ => LexP.nil b _
    ·rename_i hk0
     intro h3
     rcases r2 with ⟨q, e3⟩ | ⟨r2, _⟩
     ·exact absurd (by rw [e3]; rfl) hk0
     ·have g1 : b.drop (p + [40].length + (allT (txN false n) (xr d).1).length) = 32 :: ([46] ++ (32 :: (txN false n (xr d).2 ++ 41 :: r))) := by rw [h3]; simp
      have g2 := wz g1
      have g3 := qg g2
      have g4 := wz g3
      have hdot := ZM g2 (by decide) (by simp) (u9 _)
      have k1 := LexP.blank hb g1
      have k2 := LexP.one (t := vo [46] (p + [40].length + (allT (txN false n) (xr d).1).length + 1)) hb g2 (by simp) hdot (Nat.succ_ne_zero 5)
      have k3 := LexP.blank hb g3
      have k4 := Zt hb n m _ _ _ r2 i2 g4 (ka r)
      exact LexP.app (w := [32]) (ks := []) k1 (LexP.app (w := [46]) (ks := [(6, d0)]) k2 (LexP.app (w := [32]) (ks := []) k3 k4))
end Go.Proofs.YthcmnajcjapjbaaGreatDoor.Ev

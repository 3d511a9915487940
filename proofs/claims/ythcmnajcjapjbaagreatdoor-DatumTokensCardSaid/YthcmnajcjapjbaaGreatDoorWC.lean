/- Contracts of functions that DatumTokens calls: what a call answers, for all data, by symbolic evaluation. No conditions of its own. -/
import Derived.Test.YthcmnajcjapjbaaGreatDoorWB
import Derived.Lib.AtoiAll
import Derived.Test.YthcmnajcjapjbaaGreatDoorEvG
import Derived.Test.YthcmnajcjapjbaaGreatDoorWA
set_option linter.unusedSimpArgs false
set_option linter.unusedVariables false
set_option linter.defProp false
namespace Go.Proofs.YthcmnajcjapjbaaGreatDoor.Ev
open Nat (reduceEqDiff reduceLeDiff reduceLT reduceAdd reduceMul reduceSub reduceMod reducePow reduceDiv reduceOr reduceShiftLeft reduceGT reduceSucc)
open List (length_cons length_nil length_take length_drop)
open Int (reduceOfNat reduceNegSucc)
open T
set_option maxRecDepth 100000
def wT : List Nat := [116]
def zwd : List Nat := [116, 114, 117, 101]
def wU8 : List Nat := [117, 56]
def wF : List Nat := [102]
def zvt : List Nat := [102, 97, 108, 115, 101]
def bTok (p n : Nat) : Tok := ⟨7, p, .mk (.ofNat 1) (.ofNat n) [] [] (.ofNat p)⟩
def cTok (p n : Nat) : Tok := ⟨7, p, .mk (.ofNat 3) (.ofNat n) [] [] (.ofNat p)⟩
structure LR where
 t : Tok
 f : Nat × Nat
 q : Nat
def wB (p : Nat) (w : List Nat) (c q : Nat) : LR :=
 if w = wT ∨ w = zwd then ⟨bTok p 1, (0, 0), q⟩ else if w = wU8 ∧ c = 40 then ⟨⟨5, p, d0⟩, (0, 0), q + 1⟩ else if w ≠ wF ∧ w ≠ zvt then ⟨bTok p 0, (4, p), q⟩ else ⟨bTok p 0, (0, 0), q⟩
def lU (b : List Nat) (p : Nat) : Option Nat → LR
 | some c => ⟨cTok p c, (0, 0), (litR b p).2⟩
 | none => ⟨cTok p 0, (4, p), (litR b p).2⟩
def x5 (b : List Nat) (p : Nat) : LR :=
 if bgR b p [35, 40] = true then ⟨⟨4, p, d0⟩, (0, 0), p + 2⟩
 else if bgR b p [35, 92] = true then lU b p (litR b p).1
 else wB p (twS b (p + 1)) (yo b (p + 1 + (twS b (p + 1)).length)) (p + 1 + (twS b (p + 1)).length)
def lrV (x : LR) : AV := .tup [.agg (xc x.t), flt x.f]
theorem XF (x : LR) : zD (lrV x) = true := by simp only [lrV, yF, zB, wA, qf, wL, zI, Bool.and_self]
def X3 (b : List Nat) (p : Nat) : AV × Nat := (lrV (x5 b p), (x5 b p).q)
def Pc (x : List Nat × Nat) : Prop := Byt x.1 ∧ x.1.length < 1000000 ∧ x.2 < x.1.length
theorem U5 {P : Program} {w0 : World} (B : Bx P w0) {O : Orc} (hO : OrcOk P w0 O) (o2 : O 35 = none) (o3 : O 70 = none)
  (h1 : O 62 = some gBg) (h2 : O 69 = some gRun) (h3 : O 90 = some gLit) (h4 : O 91 = some gPk) (b : List Nat) (p : Nat) (hp : Pc (b, p)) :
  SC P w0 66 [.ptr 0 0] (H [some (rdr b p)] 0 true) (X3 b p).1 (H [some (rdr b (X3 b p).2)] 1 true) := by
 obtain ⟨hb, hl, hi⟩ := hp
 simp only at hb hl hi
 refine Is.sc hO B.mixed B.glob B.env 1 (show env.funs.get 66 = some f66 from rfl) (Nat.le_of_ble_eq_true rfl) (qI rfl) fun C k => ?_
 have cn := @zQ env O _ _ o2 (show env.funs.get 35 = some f35 from rfl) rfl
 have cf := @zQ env O _ _ o3 (show env.funs.get 70 = some f70 from rfl) rfl
 have hc1 := fun (l : List (Nat × Option AObj)) n m md => u3 h1 (b := b) (p := p) (s := [35, 40]) (show pT ((b, p), [35, 40]) from ⟨⟨hb, hl, Nat.le_of_lt hi⟩, by simp, fun x hx => by simp at hx; omega⟩) false l n m md 0
 have hc2 := fun (l : List (Nat × Option AObj)) n m md => u3 h1 (b := b) (p := p) (s := [35, 92]) (show pT ((b, p), [35, 92]) from ⟨⟨hb, hl, Nat.le_of_lt hi⟩, by simp, fun x hx => by simp at hx; omega⟩) false l n m md 0
 simp only [X3]
 unfold f66
 simp only [Ko, Kg, Kn, Kd, Kf, Ki]
 refine zd (k.eval (by simp (disch := first | exact dis | fail) only [go_sem, seval, -reduceOfNat, -reduceNegSucc, rdr]; exact rfl) ?_)
 simp only [za]
 refine zd (k.eval (by simp (disch := first | exact dis | fail) only [go_sem, seval, -reduceOfNat, -reduceNegSucc]; exact rfl) ?_)
 simp only [za]
 refine zd (k.eval (by simp (disch := first | exact dis | fail) only [go_sem, seval, -reduceOfNat, -reduceNegSucc]; exact rfl) ?_)
 simp only [za]
 cases hA : bgR b p [35, 40] with
 | true =>
  have hM : x5 b p = ⟨⟨4, p, d0⟩, (0, 0), p + 2⟩ := by unfold x5; rw [if_pos hA]
  have hA2 := uV hA
  rw [hA] at hc1
  refine zd (k.eval (by simp (disch := first | exact dis | fail) only [go_sem, seval, -reduceOfNat, -reduceNegSucc, hc1, cn, f35]; exact rfl) ?_)
  simp only [za]
  apply ze (Or.inr rfl)
  iterate 5 (simp (disch := first | exact dis | fail) only [go_sem, seval, -reduceOfNat, -reduceNegSucc, rdr, lrV, hM, zi, d0, zg, flt] <;> exact rfl)
 | false =>
  rw [hA] at hc1
  cases hA' : bgR b p [35, 92] with
  | true =>
   have hM : x5 b p = lU b p (litR b p).1 := by unfold x5; rw [if_neg (by rw [hA]; simp), if_pos hA']
   have hA2 := uV hA'
   rw [hA'] at hc2
   have hli := fun (l : List (Nat × Option AObj)) n m md => xN h3 (b := b) (p := p) ⟨hb, hl, hA2⟩ false l n m md 0
   simp only [litF] at hli
   unfold lU at hM
   revert hli hM
   generalize litR b p = Q
   obtain ⟨o, q⟩ := Q
   intro hM hli
   cases o with
   | some c =>
    simp only [litV, flt] at hli
    simp only at hM
    rw [hM]
    refine k.eval (by simp (disch := first | exact dis | fail) only [go_sem, seval, -reduceOfNat, -reduceNegSucc, hc1, hc2, hli]; exact rfl) ?_
    try simp only [za]
    apply ze (Or.inr rfl)
    iterate 5 (simp (disch := first | exact dis | fail) only [go_sem, seval, -reduceOfNat, -reduceNegSucc, rdr, lrV, cTok, zi, zg, flt] <;> exact rfl)
   | none =>
    simp only [litV, flt] at hli
    simp only at hM
    rw [hM]
    refine k.eval (by simp (disch := first | exact dis | fail) only [go_sem, seval, -reduceOfNat, -reduceNegSucc, hc1, hc2, hli]; exact rfl) ?_
    try simp only [za]
    apply ze (Or.inr rfl)
    iterate 5 (simp (disch := first | exact dis | fail) only [go_sem, seval, -reduceOfNat, -reduceNegSucc, rdr, lrV, cTok, zi, zg, flt] <;> exact rfl)
  | false =>
   have hM : x5 b p = wB p (twS b (p + 1)) (yo b (p + 1 + (twS b (p + 1)).length)) (p + 1 + (twS b (p + 1)).length) := by unfold x5; rw [if_neg (by rw [hA]; simp), if_neg (by rw [hA']; simp)]
   rw [hA'] at hc2
   have hrun := fun (l : List (Nat × Option AObj)) n m md => xN h2 (b := b) (p := p + 1) (show PreR (b, p + 1) from ⟨hb, hl, by simp only; omega⟩) false l n m md 0
   simp only [runF] at hrun
   have e3 : (twS b (p + 1)).length ≤ b.length - (p + 1) := by have := pP yL (b.drop (p + 1)); rw [List.length_drop] at this; exact this
   change ∀ (l : List (Nat × Option AObj)) n m md, _ → _ = some (AV.str (twS b (p + 1)), KL ((0, some (.row 70 [_, .int .i64 (.ofNat (p + 1 + (twS b (p + 1)).length))] false false)) :: l) n (mark m 0) md [] none) at hrun
   have hpk := fun (l : List (Nat × Option AObj)) n m md => Y5 h4 (b := b) (p := p + 1 + (twS b (p + 1)).length) ⟨hb, hl, by simp only; omega⟩ false l n m md 0
   have hq : p + 1 + (twS b (p + 1)).length ≤ b.length := by omega
   have hlen : (twS b (p + 1)).length < 1000000 := by omega
   rw [hM]
   revert hrun hpk hlen hq
   generalize p + 1 + (twS b (p + 1)).length = q
   generalize twS b (p + 1) = w
   generalize yo b q = c
   intro hrun hpk hlen hq
   refine zd (k.eval (by simp (disch := first | exact dis | fail) only [go_sem, seval, -reduceOfNat, -reduceNegSucc, hc1, hc2]; exact rfl) ?_)
   simp only [za]
   refine zd (k.eval (by simp (disch := first | exact dis | fail) only [go_sem, seval, -reduceOfNat, -reduceNegSucc]; exact rfl) ?_)
   simp only [za]
   refine zd ?_
   refine zd (k.eval (by simp (disch := first | exact dis | fail) only [go_sem, seval, -reduceOfNat, -reduceNegSucc, hrun]; exact rfl) ?_)
   simp only [za]
   by_cases c1 : w = [116]
   ·have hW : wB p w c q = ⟨bTok p 1, (0, 0), q⟩ := if_pos (.inl c1)
    rw [hW]
    refine k.eval (by simp (disch := first | exact dis | fail) only [go_sem, seval, -reduceOfNat, -reduceNegSucc, c1]; exact rfl) ?_
    try simp only [za]
    refine k.eval (by simp (disch := first | exact dis | fail) only [go_sem, seval, -reduceOfNat, -reduceNegSucc, cn, f35]; exact rfl) ?_
    try simp only [za, zj, Cut, if_true]
    apply ze (Or.inr rfl)
    iterate 5 (simp (disch := first | exact dis | fail) only [go_sem, seval, -reduceOfNat, -reduceNegSucc, rdr, lrV, bTok, zi, zg, flt] <;> exact rfl)
   by_cases c2 : w = [116, 114, 117, 101]
   ·have hW : wB p w c q = ⟨bTok p 1, (0, 0), q⟩ := if_pos (.inr c2)
    rw [hW]
    refine k.eval (by simp (disch := first | exact dis | fail) only [go_sem, seval, -reduceOfNat, -reduceNegSucc, c2]; exact rfl) ?_
    try simp only [za]
    refine k.eval (by simp (disch := first | exact dis | fail) only [go_sem, seval, -reduceOfNat, -reduceNegSucc, cn, f35]; exact rfl) ?_
    try simp only [za, zj, Cut, if_true]
    apply ze (Or.inr rfl)
    iterate 5 (simp (disch := first | exact dis | fail) only [go_sem, seval, -reduceOfNat, -reduceNegSucc, rdr, lrV, bTok, zi, zg, flt] <;> exact rfl)
   have g1 : ¬ (w = wT ∨ w = zwd) := fun h => h.elim c1 c2
   by_cases c3 : w = [117, 56]
   ·by_cases c4 : c = 40
    ·have hW : wB p w c q = ⟨⟨5, p, d0⟩, (0, 0), q + 1⟩ := by unfold wB; rw [if_neg g1, if_pos ⟨c3, c4⟩]
     rw [hW]
     refine k.eval (by simp (disch := first | exact dis | fail) only [go_sem, seval, -reduceOfNat, -reduceNegSucc, c3, hpk, c4]; exact rfl) ?_
     try simp only [za]
     refine k.eval (by simp (disch := first | exact dis | fail) only [go_sem, seval, -reduceOfNat, -reduceNegSucc, cn, f35]; exact rfl) ?_
     try simp only [za, zj, Cut, if_true]
     apply ze (Or.inr rfl)
     iterate 5 (simp (disch := first | exact dis | fail) only [go_sem, seval, -reduceOfNat, -reduceNegSucc, rdr, lrV, d0, zi, zg, flt] <;> exact rfl)
    ·have hW : wB p w c q = ⟨bTok p 0, (4, p), q⟩ := by unfold wB; rw [if_neg g1, if_neg (fun h => c4 h.2), if_pos ⟨by rw [c3]; decide, by rw [c3]; decide⟩]
     rw [hW]
     refine k.eval (by simp (disch := first | exact dis | fail) only [go_sem, seval, -reduceOfNat, -reduceNegSucc, c3, hpk, c4, cf, f70]; exact rfl) ?_
     try simp only [za]
     apply ze (Or.inr rfl)
     iterate 5 (simp (disch := first | exact dis | fail) only [go_sem, seval, -reduceOfNat, -reduceNegSucc, rdr, lrV, bTok, zi, zg, flt] <;> exact rfl)
   by_cases c5 : w = [102]
   ·have hW : wB p w c q = ⟨bTok p 0, (0, 0), q⟩ := by unfold wB; rw [if_neg g1, if_neg (fun h => c3 h.1), if_neg (fun h => h.1 c5)]
    rw [hW]
    refine k.eval (by simp (disch := first | exact dis | fail) only [go_sem, seval, -reduceOfNat, -reduceNegSucc, c5]; exact rfl) ?_
    try simp only [za]
    refine k.eval (by simp (disch := first | exact dis | fail) only [go_sem, seval, -reduceOfNat, -reduceNegSucc, cn, f35]; exact rfl) ?_
    try simp only [za, zj, Cut, if_true]
    apply ze (Or.inr rfl)
    iterate 5 (simp (disch := first | exact dis | fail) only [go_sem, seval, -reduceOfNat, -reduceNegSucc, rdr, lrV, bTok, zi, zg, flt] <;> exact rfl)
   by_cases c6 : w = [102, 97, 108, 115, 101]
   ·have hW : wB p w c q = ⟨bTok p 0, (0, 0), q⟩ := by unfold wB; rw [if_neg g1, if_neg (fun h => c3 h.1), if_neg (fun h => h.2 c6)]
    rw [hW]
    refine k.eval (by simp (disch := first | exact dis | fail) only [go_sem, seval, -reduceOfNat, -reduceNegSucc, c6]; exact rfl) ?_
    try simp only [za]
    refine k.eval (by simp (disch := first | exact dis | fail) only [go_sem, seval, -reduceOfNat, -reduceNegSucc, cn, f35]; exact rfl) ?_
    try simp only [za, zj, Cut, if_true]
    apply ze (Or.inr rfl)
    iterate 5 (simp (disch := first | exact dis | fail) only [go_sem, seval, -reduceOfNat, -reduceNegSucc, rdr, lrV, bTok, zi, zg, flt] <;> exact rfl)
   ·have hW : wB p w c q = ⟨bTok p 0, (4, p), q⟩ := by unfold wB; rw [if_neg g1, if_neg (fun h => c3 h.1), if_pos ⟨c5, c6⟩]
    rw [hW]
    refine k.eval (by simp (disch := first | exact dis | fail) only [go_sem, seval, -reduceOfNat, -reduceNegSucc, c1, c2, c3, c5, c6, cf, f70]; exact rfl) ?_
    try simp only [za]
    apply ze (Or.inr rfl)
    iterate 5 (simp (disch := first | exact dis | fail) only [go_sem, seval, -reduceOfNat, -reduceNegSucc, rdr, lrV, bTok, zi, zg, flt] <;> exact rfl)
noncomputable def Ut : List AV → St → Option (AV × St) := gM Pc X3
theorem Y4 {P : Program} {w0 : World} (B : Bx P w0) {O : Orc} (hO : OrcOk P w0 O) (o2 : O 35 = none) (o3 : O 70 = none)
  (h1 : O 62 = some gBg) (h2 : O 69 = some gRun) (h3 : O 90 = some gLit) (h4 : O 91 = some gPk) : OrcOk P w0 (withG 66 Ut O) :=
 wN hO (fun b p _ => XF _) fun b p hx => U5 B hO o2 o3 h1 h2 h3 h4 b p hx
set_option maxRecDepth 100000
def t0 : Tok := ⟨0, 0, d0⟩
def uP (p q : Nat) : List Nat ⊕ (Nat × Nat) → LR
 | .inl s => ⟨⟨7, p, .mk (.ofNat 4) (.ofNat 0) s [] (.ofNat p)⟩, (0, 0), q⟩
 | .inr f => ⟨⟨7, p, .mk (.ofNat 4) (.ofNat 0) [] [] (.ofNat p)⟩, f, q⟩
def uK (q : Nat) : Option Nat → LR
 | none => ⟨t0, (0, 0), q⟩
 | some r => ⟨t0, (4, r), q⟩
def parK (c : Nat) : Nat := if c = 40 then 1 else if c = 41 then 2 else 3
def tokB (b : List Nat) (p c : Nat) : LR :=
 if qv c = true then ⟨t0, (0, 0), p + 1⟩
 else if c = 59 then uK (wC b (b.length + 1) p).2 (wC b (b.length + 1) p).1
 else if bgR b p [35, 124] = true then ⟨t0, (wy b p (b.length + 1) p 0).1, (wy b p (b.length + 1) p 0).2⟩
 else if c = 40 ∨ c = 41 ∨ c = 39 then ⟨⟨parK c, p, d0⟩, (0, 0), p + 1⟩
 else if c = 34 then uP p (wd b p (b.length + 1) (p + 1) []).2 (wd b p (b.length + 1) (p + 1) []).1
 else if c = 35 then x5 b p
 else if yL c = true then ⟨va (twS b p) p, (0, 0), p + (twS b p).length⟩
 else ⟨t0, (4, p), p⟩
def tokL (b : List Nat) (p c : Nat) : Bool :=
 if qv c = true then false else if c = 59 then false else if bgR b p [35, 124] = true then false else if c = 40 ∨ c = 41 ∨ c = 39 then false else if c = 34 then false
 else if c = 35 then decide ((x5 b p).t.kind = 7) else yL c
def fin2 (b : List Nat) (x : LR) (l : Bool) : LR := if x.f.1 = 0 ∧ l = true ∧ x.q < b.length ∧ ji (yo b x.q) = false then ⟨x.t, (4, x.q), x.q⟩ else x
def tokR (b : List Nat) (p : Nat) : LR := fin2 b (tokB b p (yo b p)) (tokL b p (yo b p))
def tokF (b : List Nat) (p : Nat) : AV × Nat := (lrV (tokR b p), (tokR b p).q)
def faR (f : Nat × Nat) : AObj := .row 34 [.int .i64 (.ofNat f.1), .int .i64 (.ofNat f.2)] false false
theorem qK {b : List Nat} {p c : Nat} {r : List Nat} (h : b.drop p = c :: r) : yo b p = c := by unfold yo; rw [h]; rfl
theorem ixo {c : Nat} (h : c = 40 ∨ c = 41 ∨ c = 39) : binI .add .i64 (.ofNat 1) .i64 (ixB Yy c) = some (.int .i64 (.ofNat (parK c))) := by
 rcases h with rfl | rfl | rfl <;> rfl
def tkK (t : Tok) (ks : AV) : AObj := match t with
 | ⟨k, p, .mk dk dn dt _ dp⟩ => .row 44 [.int .i64 (.ofNat k), .int .i64 (.ofNat p), .int .i64 dk, .int .i64 dn, .str dt, ks, .int .i64 dp] false false
def ksOk (t : Tok) (ks : AV) : Prop := match t with
 | ⟨_, _, .mk _ _ _ dks _⟩ => (ks = .nils ∧ dks = []) ∨ ks = .lst dks.length false (zm dks)
theorem zyU {P : Program} {w0 : World} (B : Bx P w0) {O : Orc} (hO : OrcOk P w0 O) (o1 : O 33 = none) (o3 : O 70 = none)
  (h1 : O 60 = some (qr qv)) (h2 : O 67 = some (qr yL)) (h3 : O 71 = some (qr ji)) (h4 : O 69 = some gRun) (h5 : O 62 = some gBg) (h6 : O 61 = some Uv) (h7 : O 63 = some Uy) (h8 : O 65 = some UB) (h9 : O 66 = some Ut) (hA : O 68 = some Yh) (hB : O 64 = some gIxB)
  (hq : ∀ b p c r, Byt b → b.length < 100000 → b.drop p = c :: r → (tokB b p c).q ≤ b.length) (b : List Nat) (p : Nat) (hp : kR (b, p)) :
  SC P w0 34 [.ptr 0 0] (H [some (rdr b p)] 0 true) (tokF b p).1 (H [some (rdr b (tokF b p).2)] 1 true) := by
 obtain ⟨hb, hl, hi⟩ := hp
 simp only at hb hl hi
 refine Is.sc hO B.mixed B.glob B.env 1 (show env.funs.get 34 = some f34 from rfl) (Nat.le_of_ble_eq_true rfl) (qI rfl) fun C k => ?_
 have cend := @zQ env O _ _ o1 (show env.funs.get 33 = some f33 from rfl) rfl
 have cf := @zQ env O _ _ o3 (show env.funs.get 70 = some f70 from rfl) rfl
 cases hd : b.drop p with
 | nil => have := wb hd (Nat.le_of_lt hi); omega
 | cons c r =>
 have hc : c < 256 := hb c (List.mem_of_mem_drop (by rw [hd]; simp))
 have hh := qK hd
 have hqq := hq b p c r hb hl hd
 have hT : tokR b p = fin2 b (tokB b p c) (tokL b p c) := by unfold tokR; rw [hh]
 simp only [tokF, hT]
 unfold f34
 simp only [Ko, Kn, Kd, Ke, Kf, Ki]
 refine zd (k.eval (by simp (disch := first | exact dis | fail) only [go_sem, seval, -reduceOfNat, -reduceNegSucc, rdr]; exact rfl) ?_)
 simp only [za]
 refine zd (k.eval (by simp (disch := first | exact dis | fail) only [go_sem, seval, -reduceOfNat, -reduceNegSucc, hd]; exact rfl) ?_)
 simp only [za]
 refine zd (k.eval (by simp (disch := first | exact dis | fail) only [go_sem, seval, -reduceOfNat, -reduceNegSucc]; exact rfl) ?_)
 simp only [za]
 refine wI (ksOk (tokB b p c).t) (fun _ => ⟨tmL [(6, .bool (tokL b p c)), (3, .ptr 2 0), (2, .ptr 1 0), (0, .ptr 0 0)], []⟩) (fun ks => H [some (rdr b (tokB b p c).q), some (tkK (tokB b p c).t ks), some (faR (tokB b p c).f)] 1 true) ?_ ?_
 ·have hbl := fun s => vR h1 hc (s := s)
  cases hB1 : qv c with
  | true =>
   have hX : tokB b p c = ⟨t0, (0, 0), p + 1⟩ := by unfold tokB; rw [if_pos hB1]
   have hL : tokL b p c = false := by unfold tokL; rw [if_pos hB1]
   rw [hX, hL]
   refine k.eval (by simp (disch := first | exact dis | fail) only [go_sem, seval, -reduceOfNat, -reduceNegSucc, hbl, hB1]; exact rfl) ?_
   try simp only [za]
   simp only [Gcx]
   refine ⟨.nils, .inl ⟨rfl, rfl⟩, ?_⟩
   refine k.gcs (keep := [1, 2]) (live := [6, 3, 2, 0]) (md := true) ?_
   simp (disch := first | exact dis | fail) only [go_sem, seval, -reduceOfNat, -reduceNegSucc, rdr, tkK, faR, t0, d0]
  | false =>
  have g1 : ¬ qv c = true := by rw [hB1]; simp
  by_cases h59 : c = 59
  ·subst h59
   have hX : tokB b p 59 = uK (wC b (b.length + 1) p).2 (wC b (b.length + 1) p).1 := by unfold tokB; rw [if_neg g1, if_pos rfl]
   have hL : tokL b p 59 = false := by unfold tokL; rw [if_neg g1, if_pos rfl]
   have hln := fun (l : List (Nat × Option AObj)) n m md => xN h6 (b := b) (p := p) (show PreR (b, p) from ⟨hb, by simp only; omega, by simp only; omega⟩) false l n m md 0
   simp only [gK] at hln
   rw [hX, hL]
   revert hln
   generalize wC b (b.length + 1) p = Q
   obtain ⟨o, q⟩ := Q
   intro hln
   cases o with
   | none =>
    simp only [flt] at hln
    refine k.eval (by simp (disch := first | exact dis | fail) only [go_sem, seval, -reduceOfNat, -reduceNegSucc, hbl, hB1, hln]; exact rfl) ?_
    try simp only [za]
    simp only [Gcx]
    refine ⟨.nils, .inl ⟨rfl, rfl⟩, ?_⟩
    refine k.gcs (keep := [1, 2]) (live := [6, 3, 2, 0]) (md := true) ?_
    simp (disch := first | exact dis | fail) only [go_sem, seval, -reduceOfNat, -reduceNegSucc, rdr, tkK, faR, uK, t0, d0]
   | some x =>
    simp only [flt] at hln
    refine k.eval (by simp (disch := first | exact dis | fail) only [go_sem, seval, -reduceOfNat, -reduceNegSucc, hbl, hB1, hln]; exact rfl) ?_
    try simp only [za]
    simp only [Gcx]
    refine ⟨.nils, .inl ⟨rfl, rfl⟩, ?_⟩
    refine k.gcs (keep := [1, 2]) (live := [6, 3, 2, 0]) (md := true) ?_
    simp (disch := first | exact dis | fail) only [go_sem, seval, -reduceOfNat, -reduceNegSucc, rdr, tkK, faR, uK, t0, d0]
  have hc1 := fun (l : List (Nat × Option AObj)) n m md => u3 h5 (b := b) (p := p) (s := [35, 124]) (show pT ((b, p), [35, 124]) from ⟨⟨hb, by simp only; omega, Nat.le_of_lt hi⟩, by simp, fun x hx => by simp at hx; omega⟩) false l n m md 0
  cases hA1 : bgR b p [35, 124] with
  | true =>
   have hX : tokB b p c = ⟨t0, (wy b p (b.length + 1) p 0).1, (wy b p (b.length + 1) p 0).2⟩ := by unfold tokB; rw [if_neg g1, if_neg h59, if_pos hA1]
   have hL : tokL b p c = false := by unfold tokL; rw [if_neg g1, if_neg h59, if_pos hA1]
   have hns := fun (l : List (Nat × Option AObj)) n m md => xN h7 (b := b) (p := p) (show PreN (b, p) from ⟨⟨hb, by simp only; omega, by simp only; omega⟩, hA1⟩) false l n m md 0
   simp only [hH] at hns
   rw [hX, hL]
   rw [hA1] at hc1
   revert hns
   generalize wy b p (b.length + 1) p 0 = Q
   obtain ⟨⟨e, ep⟩, q⟩ := Q
   intro hns
   simp only [flt] at hns
   refine k.eval (by simp (disch := first | exact dis | fail) only [go_sem, seval, -reduceOfNat, -reduceNegSucc, hbl, hB1, h59, hc1, hns]; exact rfl) ?_
   try simp only [za]
   simp only [Gcx]
   refine ⟨.nils, .inl ⟨rfl, rfl⟩, ?_⟩
   refine k.gcs (keep := [1, 2]) (live := [6, 3, 2, 0]) (md := true) ?_
   simp (disch := first | exact dis | fail) only [go_sem, seval, -reduceOfNat, -reduceNegSucc, rdr, tkK, faR, t0, d0]
  | false =>
  rw [hA1] at hc1
  have g3 : ¬ bgR b p [35, 124] = true := by rw [hA1]; simp
  by_cases hpar : c = 40 ∨ c = 41 ∨ c = 39
  ·have hX : tokB b p c = ⟨⟨parK c, p, d0⟩, (0, 0), p + 1⟩ := by unfold tokB; rw [if_neg g1, if_neg h59, if_neg g3, if_pos hpar]
   have hL : tokL b p c = false := by unfold tokL; rw [if_neg g1, if_neg h59, if_neg g3, if_pos hpar]
   have hix := fun st => Wg (O := O) hB (s := [40, 41, 39]) (c := c) (.inr rfl) hc st
   have hk := ixo hpar
   simp only [Yy] at hk
   rw [hX, hL]
   rcases hpar with rfl | rfl | rfl
   ·
    refine k.eval (by simp (disch := first | exact dis | fail) only [go_sem, seval, -reduceOfNat, -reduceNegSucc, hbl, hB1, hc1, hix, hk]; exact rfl) ?_
    try simp only [za]
    simp only [Gcx]
    refine ⟨.nils, .inl ⟨rfl, rfl⟩, ?_⟩
    refine k.gcs (keep := [1, 2]) (live := [6, 3, 2, 0]) (md := true) ?_
    simp (disch := first | exact dis | fail) only [go_sem, seval, -reduceOfNat, -reduceNegSucc, rdr, tkK, faR, d0]
   ·
    refine k.eval (by simp (disch := first | exact dis | fail) only [go_sem, seval, -reduceOfNat, -reduceNegSucc, hbl, hB1, hc1, hix, hk]; exact rfl) ?_
    try simp only [za]
    simp only [Gcx]
    refine ⟨.nils, .inl ⟨rfl, rfl⟩, ?_⟩
    refine k.gcs (keep := [1, 2]) (live := [6, 3, 2, 0]) (md := true) ?_
    simp (disch := first | exact dis | fail) only [go_sem, seval, -reduceOfNat, -reduceNegSucc, rdr, tkK, faR, d0]
   ·
    refine k.eval (by simp (disch := first | exact dis | fail) only [go_sem, seval, -reduceOfNat, -reduceNegSucc, hbl, hB1, hc1, hix, hk]; exact rfl) ?_
    try simp only [za]
    simp only [Gcx]
    refine ⟨.nils, .inl ⟨rfl, rfl⟩, ?_⟩
    refine k.gcs (keep := [1, 2]) (live := [6, 3, 2, 0]) (md := true) ?_
    simp (disch := first | exact dis | fail) only [go_sem, seval, -reduceOfNat, -reduceNegSucc, rdr, tkK, faR, d0]
  have h40 : ¬ c = 40 := fun h => hpar (.inl h)
  have h41 : ¬ c = 41 := fun h => hpar (.inr (.inl h))
  have h39 : ¬ c = 39 := fun h => hpar (.inr (.inr h))
  by_cases h34 : c = 34
  ·subst h34
   have hX : tokB b p 34 = uP p (wd b p (b.length + 1) (p + 1) []).2 (wd b p (b.length + 1) (p + 1) []).1 := by unfold tokB; rw [if_neg g1, if_neg h59, if_neg g3, if_neg hpar, if_pos rfl]
   have hL : tokL b p 34 = false := by unfold tokL; rw [if_neg g1, if_neg h59, if_neg g3, if_neg hpar, if_pos rfl]
   have htx := fun (l : List (Nat × Option AObj)) n m md => xN h8 (b := b) (p := p) (show kR (b, p) from ⟨hb, hl, hi⟩) false l n m md 0
   simp only [vU] at htx
   rw [hX, hL]
   revert htx
   generalize wd b p (b.length + 1) (p + 1) [] = Q
   obtain ⟨o, q⟩ := Q
   intro htx
   cases o with
   | inl s =>
    simp only [strR, flt] at htx
    refine k.eval (by simp (disch := first | exact dis | fail) only [go_sem, seval, -reduceOfNat, -reduceNegSucc, hbl, hB1, hc1, htx]; exact rfl) ?_
    try simp only [za]
    simp only [Gcx]
    refine ⟨.nils, .inl ⟨rfl, rfl⟩, ?_⟩
    refine k.gcs (keep := [1, 2]) (live := [6, 3, 2, 0]) (md := true) ?_
    simp (disch := first | exact dis | fail) only [go_sem, seval, -reduceOfNat, -reduceNegSucc, rdr, tkK, faR, uP]
   | inr f =>
    obtain ⟨e, ep⟩ := f
    simp only [strR, flt] at htx
    refine k.eval (by simp (disch := first | exact dis | fail) only [go_sem, seval, -reduceOfNat, -reduceNegSucc, hbl, hB1, hc1, htx]; exact rfl) ?_
    try simp only [za]
    simp only [Gcx]
    refine ⟨.nils, .inl ⟨rfl, rfl⟩, ?_⟩
    refine k.gcs (keep := [1, 2]) (live := [6, 3, 2, 0]) (md := true) ?_
    simp (disch := first | exact dis | fail) only [go_sem, seval, -reduceOfNat, -reduceNegSucc, rdr, tkK, faR, uP]
  by_cases h35 : c = 35
  ·subst h35
   have hX : tokB b p 35 = x5 b p := by unfold tokB; rw [if_neg g1, if_neg h59, if_neg g3, if_neg hpar, if_neg h34, if_pos rfl]
   have hL : tokL b p 35 = decide ((x5 b p).t.kind = 7) := by unfold tokL; rw [if_neg g1, if_neg h59, if_neg g3, if_neg hpar, if_neg h34, if_pos rfl]
   have hmk := fun (l : List (Nat × Option AObj)) n m md => xN h9 (b := b) (p := p) (show Pc (b, p) from ⟨hb, by simp only; omega, hi⟩) false l n m md 0
   simp only [X3] at hmk
   rw [hX, hL]
   revert hmk
   generalize x5 b p = X
   obtain ⟨⟨tk, tp, ⟨dk, dn, dt, dks, dp⟩⟩, ⟨e, ep⟩, q⟩ := X
   intro hmk
   simp only [lrV, flt, zi] at hmk
   have hdk : decide ((LR.mk ⟨tk, tp, .mk dk dn dt dks dp⟩ (e, ep) q).t.kind = 7) = decide (tk = 7) := rfl
   rw [hdk]
   refine k.eval (by simp (disch := first | exact dis | fail) only [go_sem, seval, -reduceOfNat, -reduceNegSucc, hbl, hB1, hc1, hmk]; exact rfl) ?_
   try simp only [za]
   simp only [Gcx]
   refine ⟨.lst dks.length false (zm dks), .inr rfl, ?_⟩
   refine k.gcs (keep := [1, 2]) (live := [6, 3, 2, 0]) (md := true) ?_
   simp (disch := first | exact dis | fail) only [go_sem, seval, -reduceOfNat, -reduceNegSucc, rdr, tkK, faR]
  have hsy := fun s => vR h2 hc (s := s)
  cases hS : yL c with
  | true =>
   have hX : tokB b p c = ⟨va (twS b p) p, (0, 0), p + (twS b p).length⟩ := by unfold tokB; rw [if_neg g1, if_neg h59, if_neg g3, if_neg hpar, if_neg h34, if_neg h35, if_pos hS]
   have hL : tokL b p c = true := by unfold tokL; rw [if_neg g1, if_neg h59, if_neg g3, if_neg hpar, if_neg h34, if_neg h35]; exact hS
   have hrun := fun (l : List (Nat × Option AObj)) n m md => xN h4 (b := b) (p := p) (show PreR (b, p) from ⟨hb, by simp only; omega, by simp only; omega⟩) false l n m md 0
   simp only [runF] at hrun
   have e3 : (twS b p).length ≤ b.length - p := by have := pP yL (b.drop p); rw [List.length_drop] at this; exact this
   change ∀ (l : List (Nat × Option AObj)) n m md, _ → _ = some (AV.str (twS b p), KL ((0, some (.row 70 [_, .int .i64 (.ofNat (p + (twS b p).length))] false false)) :: l) n (mark m 0) md [] none) at hrun
   have hw0 : ¬ twS b p = [] := by unfold twS; rw [hd, List.takeWhile_cons, hS]; simp
   have hwd := fun st => JH (O := O) hA p ((hb.drop p).tw yL) (show (twS b p).length < 1000000 by omega) hw0 st
   change ∀ st, (evW env O).call 68 [.str (twS b p), _] st = some (.agg (xc (va (twS b p) p)), st) at hwd
   rw [hX, hL]
   revert hrun hwd
   generalize p + (twS b p).length = q
   generalize twS b p = w
   generalize va w p = X
   obtain ⟨tk, tp, ⟨dk, dn, dt, dks, dp⟩⟩ := X
   intro hrun hwd
   simp only [zi] at hwd
   refine k.eval (by simp (disch := first | exact dis | fail) only [go_sem, seval, -reduceOfNat, -reduceNegSucc, hbl, hB1, h59, hc1, h40, h41, h39, h34, h35, hsy, hS, hrun, hwd]; exact rfl) ?_
   try simp only [za]
   simp only [Gcx]
   refine ⟨.lst dks.length false (zm dks), .inr rfl, ?_⟩
   refine k.gcs (keep := [1, 2]) (live := [6, 3, 2, 0]) (md := true) ?_
   simp (disch := first | exact dis | fail) only [go_sem, seval, -reduceOfNat, -reduceNegSucc, rdr, tkK, faR]
  | false =>
   have g7 : ¬ yL c = true := by rw [hS]; simp
   have hX : tokB b p c = ⟨t0, (4, p), p⟩ := by unfold tokB; rw [if_neg g1, if_neg h59, if_neg g3, if_neg hpar, if_neg h34, if_neg h35, if_neg g7]
   have hL : tokL b p c = false := by unfold tokL; rw [if_neg g1, if_neg h59, if_neg g3, if_neg hpar, if_neg h34, if_neg h35]; exact hS
   rw [hX, hL]
   refine k.eval (by simp (disch := first | exact dis | fail) only [go_sem, seval, -reduceOfNat, -reduceNegSucc, hbl, hB1, h59, hc1, h40, h41, h39, h34, h35, hsy, hS, cf, f70]; exact rfl) ?_
   try simp only [za]
   simp only [Gcx]
   refine ⟨.nils, .inl ⟨rfl, rfl⟩, ?_⟩
   refine k.gcs (keep := [1, 2]) (live := [6, 3, 2, 0]) (md := true) ?_
   simp (disch := first | exact dis | fail) only [go_sem, seval, -reduceOfNat, -reduceNegSucc, rdr, tkK, faR, t0, d0]
 ·intro ks hks
  revert hqq hks
  generalize tokB b p c = X
  generalize tokL b p c = l
  obtain ⟨⟨tk, tp, ⟨dk, dn, dt, dks, dp⟩⟩, ⟨e, ep⟩, q⟩ := X
  intro hqq hks
  simp only [ksOk] at hqq hks ⊢
  have k1 : scal ks = true := by rcases hks with ⟨h, _⟩ | h <;> rw [h] <;> simp only [scal]
  simp only [scal] at k1
  have k4 : ∀ n, frz1 n ks = some ks := fun n => by rcases hks with ⟨h, _⟩ | h <;> rw [h] <;> rfl
  have k2 : zD ks = true := by
   rcases hks with ⟨h, _⟩ | h <;> rw [h]
   ·rfl
   ·exact (yy _ _ _).trans (by first | rfl | exact zt _)
  have k3 : wkV ks = .lst dks.length false (zm dks) := by
   rcases hks with ⟨h, h'⟩ | h <;> rw [h]
   ·rw [h', zg]; rfl
   ·simp only [wkV, z7]
  by_cases he : e = 0
  ·cases l with
   | false =>
    have hF : fin2 b ⟨⟨tk, tp, .mk dk dn dt dks dp⟩, (e, ep), q⟩ false = ⟨⟨tk, tp, .mk dk dn dt dks dp⟩, (e, ep), q⟩ := if_neg (fun h => by cases h.2.1)
    rw [hF]
    refine zd (k.eval (by simp (disch := first | exact dis | fail) only [go_sem, seval, -reduceOfNat, -reduceNegSucc, rdr, tkK, faR, he]; exact rfl) ?_)
    simp only [za]
    refine k.eval (by simp (disch := first | exact dis | fail) only [go_sem, seval, -reduceOfNat, -reduceNegSucc, k1]; exact rfl) ?_
    try simp only [za, zj, Cut, if_true]
    apply ze (Or.inr rfl)
    iterate 5 (simp (disch := first | exact dis | fail) only [go_sem, seval, -reduceOfNat, -reduceNegSucc, rdr, lrV, flt, k3, k4, zi, he] <;> exact rfl)
   | true =>
    cases hq2 : b.drop q with
    | nil =>
     have hlt : ¬ q < b.length := by have := wb hq2 hqq; omega
     have hF : fin2 b ⟨⟨tk, tp, .mk dk dn dt dks dp⟩, (e, ep), q⟩ true = ⟨⟨tk, tp, .mk dk dn dt dks dp⟩, (e, ep), q⟩ := if_neg (fun h => hlt h.2.2.1)
     rw [hF]
     refine zd (k.eval (by simp (disch := first | exact dis | fail) only [go_sem, seval, -reduceOfNat, -reduceNegSucc, rdr, tkK, faR, he, cend, f33, hlt]; exact rfl) ?_)
     simp only [za]
     refine k.eval (by simp (disch := first | exact dis | fail) only [go_sem, seval, -reduceOfNat, -reduceNegSucc, k1]; exact rfl) ?_
     try simp only [za, zj, Cut, if_true]
     apply ze (Or.inr rfl)
     iterate 5 (simp (disch := first | exact dis | fail) only [go_sem, seval, -reduceOfNat, -reduceNegSucc, rdr, lrV, flt, k3, k4, zi, he] <;> exact rfl)
    | cons y s =>
     obtain ⟨hlt, _⟩ := qw hq2
     have hy : y < 256 := hb y (List.mem_of_mem_drop (by rw [hq2]; simp))
     have hde := fun st => vR h3 hy (s := st)
     have hhy := qK hq2
     cases hD : ji y with
     | true =>
      have hF : fin2 b ⟨⟨tk, tp, .mk dk dn dt dks dp⟩, (e, ep), q⟩ true = ⟨⟨tk, tp, .mk dk dn dt dks dp⟩, (e, ep), q⟩ := if_neg (fun h => by have := h.2.2.2; rw [hhy, hD] at this; cases this)
      rw [hF]
      refine zd (k.eval (by simp (disch := first | exact dis | fail) only [go_sem, seval, -reduceOfNat, -reduceNegSucc, rdr, tkK, faR, he, cend, f33, hlt, hq2, hde, hD]; exact rfl) ?_)
      simp only [za]
      refine k.eval (by simp (disch := first | exact dis | fail) only [go_sem, seval, -reduceOfNat, -reduceNegSucc, k1]; exact rfl) ?_
      try simp only [za, zj, Cut, if_true]
      apply ze (Or.inr rfl)
      iterate 5 (simp (disch := first | exact dis | fail) only [go_sem, seval, -reduceOfNat, -reduceNegSucc, rdr, lrV, flt, k3, k4, zi, he] <;> exact rfl)
     | false =>
      have hF : fin2 b ⟨⟨tk, tp, .mk dk dn dt dks dp⟩, (e, ep), q⟩ true = ⟨⟨tk, tp, .mk dk dn dt dks dp⟩, (4, q), q⟩ := if_pos ⟨he, rfl, hlt, by rw [hhy]; exact hD⟩
      rw [hF]
      refine zd (k.eval (by simp (disch := first | exact dis | fail) only [go_sem, seval, -reduceOfNat, -reduceNegSucc, rdr, tkK, faR, he, cend, f33, hlt, hq2, hde, hD, cf, f70]; exact rfl) ?_)
      simp only [za]
      refine k.eval (by simp (disch := first | exact dis | fail) only [go_sem, seval, -reduceOfNat, -reduceNegSucc, k1]; exact rfl) ?_
      try simp only [za, zj, Cut, if_true]
      apply ze (Or.inr rfl)
      iterate 5 (simp (disch := first | exact dis | fail) only [go_sem, seval, -reduceOfNat, -reduceNegSucc, rdr, lrV, flt, k3, k4, zi] <;> exact rfl)
  ·have hF : fin2 b ⟨⟨tk, tp, .mk dk dn dt dks dp⟩, (e, ep), q⟩ l = ⟨⟨tk, tp, .mk dk dn dt dks dp⟩, (e, ep), q⟩ := if_neg (fun h => he h.1)
   rw [hF]
   refine zd (k.eval (by simp (disch := first | exact dis | fail) only [go_sem, seval, -reduceOfNat, -reduceNegSucc, rdr, tkK, faR, he]; exact rfl) ?_)
   simp only [za]
   refine k.eval (by simp (disch := first | exact dis | fail) only [go_sem, seval, -reduceOfNat, -reduceNegSucc, k1]; exact rfl) ?_
   try simp only [za, zj, Cut, if_true]
   apply ze (Or.inr rfl)
   iterate 5 (simp (disch := first | exact dis | fail) only [go_sem, seval, -reduceOfNat, -reduceNegSucc, rdr, lrV, flt, k3, k4, zi] <;> exact rfl)
set_option maxRecDepth 100000
theorem ka {b : List Nat} {p : Nat} {q : Nat × Nat} (hp : b.drop p ≠ []) (h : decR (b.drop p) = some q) : 1 ≤ q.2 ∧ p + q.2 ≤ b.length := by
 have := wU hp h
 rw [List.length_drop] at this; omega
theorem pp (b : List Nat) : ∀ (k p : Nat), p ≤ b.length → p ≤ (wC b k p).2 ∧ (wC b k p).2 ≤ b.length
 | 0, p, h => by simp only [wC]; omega
 | k + 1, p, h => by
  simp only [wC]
  split
  ·simp only; omega
  ·rename_i c r hd
   split
   ·simp only; omega
   ·split
    ·simp only; omega
    ·rename_i q hq
     have := ka (by rw [hd]; simp) hq
     have := pp b k (p + q.2) (by omega)
     omega
theorem Hq {b : List Nat} {k p c : Nat} {r : List Nat} (hd : b.drop p = c :: r) (hc : c ≠ 10) (h : (wC b (k + 1) p).1 = none) : p < (wC b (k + 1) p).2 := by
 simp only [wC, hd, if_neg hc] at h ⊢
 cases hR : decR (c :: r) with
 | none => rw [hR] at h; simp at h
 | some q =>
  simp only
  have := ka (b := b) (p := p) (q := q) (by rw [hd]; simp) (by rw [hd]; exact hR)
  have := pp b k (p + q.2) (by omega)
  omega
theorem kA (b : List Nat) (f : Nat) : ∀ (k p d : Nat), p ≤ b.length → p ≤ (wy b f k p d).2 ∧ (wy b f k p d).2 ≤ b.length ∧ ((wy b f k p d).1.1 = 0 → p < (wy b f k p d).2)
 | 0, p, d, h => by simp only [wy]; exact ⟨Nat.le_refl _, h, by simp⟩
 | k + 1, p, d, h => by
  simp only [wy]
  split
  ·exact ⟨Nat.le_refl _, h, by simp⟩
  rename_i hd
  split
  ·rename_i hA
   have hA2 := uV hA
   split
   ·exact ⟨Nat.le_refl _, h, by simp⟩
   ·have := kA b f k (p + 2) (d + 1) hA2
    exact ⟨by omega, this.2.1, fun _ => by omega⟩
  split
  ·rename_i hA
   have hA2 := uV hA
   split
   ·exact ⟨by simp only; omega, hA2, fun _ => by simp only; omega⟩
   ·have := kA b f k (p + 2) (d - 1) hA2
    exact ⟨by omega, this.2.1, fun _ => by omega⟩
  split
  ·exact ⟨Nat.le_refl _, h, by simp⟩
  ·rename_i q hq
   have h1 := ka hd hq
   have := kA b f k (p + q.2) d h1.2
   exact ⟨by omega, this.2.1, fun _ => by omega⟩
theorem l7 {b : List Nat} (hb : Byt b) (f : Nat) : ∀ (k p : Nat) (out : List Nat), p ≤ b.length → p ≤ (wd b f k p out).2 ∧ (wd b f k p out).2 ≤ b.length
 | 0, p, out, h => by simp only [wd]; omega
 | k + 1, p, out, h => by
  simp only [wd]
  split
  ·simp only; omega
  rename_i hd
  split
  ·simp only; omega
  rename_i q hq
  have h1 := ka hd hq
  split
  ·simp only; omega
  split
  ·split
   ·simp only; omega
   ·have h2 := pZ hb (p := p + q.2) (by omega)
    split
    ·have := l7 hb f k (escR b (p + q.2)).2 (out ++ encC (by assumption)) (by omega)
     omega
    ·simp only; omega
  ·have := l7 hb f k (p + q.2) (out ++ encC q.1) (by omega)
   omega
theorem YV (b : List Nat) (p : Nat) : p ≤ b.length → p + (twS b p).length ≤ b.length := fun h => by
 have := pP yL (b.drop p)
 rw [List.length_drop] at this
 show p + ((b.drop p).takeWhile yL).length ≤ _
 omega
theorem zx8 {b : List Nat} {p : Nat} (h : p + 2 ≤ b.length) : p + 2 ≤ (litR b p).2 ∧ (litR b p).2 ≤ b.length := by
 unfold litR
 split
 ·simp only; omega
 ·split
  ·simp only; omega
  ·rename_i q hq
   have h1 := ka (fun e => by have := congrArg List.length e; rw [List.length_drop] at this; simp at this; omega) hq
   have := YV b (p + 2 + q.2) h1.2
   simp only; omega
theorem GM {p q c : Nat} {w : List Nat} (n : Nat) (h : q ≤ n) (h2 : c = 40 → q < n) : q ≤ (wB p w c q).q ∧ (wB p w c q).q ≤ n := by
 unfold wB
 split
 ·exact ⟨Nat.le_refl _, h⟩
 split
 ·rename_i hc; exact ⟨by simp only; omega, h2 hc.2⟩
 split
 ·exact ⟨Nat.le_refl _, h⟩
 ·exact ⟨Nat.le_refl _, h⟩
theorem H7 {b : List Nat} {p : Nat} (h : yo b p ≠ 0) : p < b.length := by
 apply Nat.lt_of_not_le
 intro hle
 unfold yo at h
 rw [List.drop_eq_nil_of_le hle] at h
 exact h rfl
theorem Ps {b : List Nat} {p : Nat} (h : p < b.length) : p < (x5 b p).q ∧ (x5 b p).q ≤ b.length := by
 unfold x5
 split
 ·rename_i hA
  have := uV hA
  simp only; omega
 split
 ·rename_i hA
  have := zx8 (uV hA)
  unfold lU
  split <;> simp only <;> omega
 ·have h1 := YV b (p + 1) (by omega)
  have := GM (p := p) (c := yo b (p + 1 + (twS b (p + 1)).length)) (w := twS b (p + 1)) b.length h1 (fun e => H7 (by omega))
  omega
theorem VZ {b : List Nat} {p c : Nat} {r : List Nat} (hb : Byt b) (hd : b.drop p = c :: r) : p ≤ (tokB b p c).q ∧ (tokB b p c).q ≤ b.length ∧ ((tokB b p c).f.1 = 0 → p < (tokB b p c).q) := by
 obtain ⟨h1, _⟩ := qw hd
 unfold tokB
 split
 ·exact ⟨by simp only; omega, h1, fun _ => by simp only; omega⟩
 split
 ·rename_i h59
  have h2 := pp b (b.length + 1) p (by omega)
  have h3 := fun h => Hq (b := b) (k := b.length) hd (by omega) h
  revert h2 h3
  generalize wC b (b.length + 1) p = Q
  intro h2 h3
  obtain ⟨o, q⟩ := Q
  cases o with
  | none => exact ⟨h2.1, h2.2, fun _ => h3 rfl⟩
  | some x => exact ⟨h2.1, h2.2, fun h => by simp [uK] at h⟩
 split
 ·exact kA b p (b.length + 1) p 0 (by omega)
 split
 ·exact ⟨by simp only; omega, h1, fun _ => by simp only; omega⟩
 split
 ·have h2 := l7 hb p (b.length + 1) (p + 1) [] h1
  revert h2
  generalize wd b p (b.length + 1) (p + 1) [] = Q
  intro h2
  obtain ⟨o, q⟩ := Q
  cases o with
  | inl s => exact ⟨by simp only [uP] at h2 ⊢; omega, h2.2, fun _ => by simp only [uP] at h2 ⊢; omega⟩
  | inr f => exact ⟨by simp only [uP] at h2 ⊢; omega, h2.2, fun _ => by simp only [uP] at h2 ⊢; omega⟩
 split
 ·have := Ps h1
  exact ⟨by omega, this.2, fun _ => this.1⟩
 split
 ·rename_i hS
  have h2 := YV b p (by omega)
  have h3 : 1 ≤ (twS b p).length := by
   unfold twS
   rw [hd, List.takeWhile_cons, hS]; simp
  exact ⟨by simp only; omega, h2, fun _ => by simp only; omega⟩
 ·exact ⟨Nat.le_refl _, by simp only; omega, fun h => by simp at h⟩
theorem Y8 (b : List Nat) (x : LR) (l : Bool) : (fin2 b x l).q = x.q ∧ (fin2 b x l).t = x.t ∧ ((fin2 b x l).f.1 = 0 → x.f.1 = 0) := by
 unfold fin2
 split
 ·exact ⟨rfl, rfl, fun h => by simp at h⟩
 ·exact ⟨rfl, rfl, fun h => h⟩
theorem VU {b : List Nat} {p : Nat} (hb : Byt b) (hp : p < b.length) : p ≤ (tokR b p).q ∧ (tokR b p).q ≤ b.length ∧ ((tokR b p).f.1 = 0 → p < (tokR b p).q) := by
 cases hd : b.drop p with
 | nil => have := wb hd (Nat.le_of_lt hp); omega
 | cons c r =>
  have h1 := VZ hb hd
  have h2 := Y8 b (tokB b p c) (tokL b p c)
  unfold tokR
  rw [qK hd, h2.1]
  exact ⟨h1.1, h1.2.1, fun h => h1.2.2 (h2.2.2 h)⟩
noncomputable def gTok : List AV → St → Option (AV × St) := gM kR tokF
theorem XJ {P : Program} {w0 : World} (B : Bx P w0) {O : Orc} (hO : OrcOk P w0 O) (o1 : O 33 = none) (o3 : O 70 = none)
  (h1 : O 60 = some (qr qv)) (h2 : O 67 = some (qr yL)) (h3 : O 71 = some (qr ji)) (h4 : O 69 = some gRun) (h5 : O 62 = some gBg) (h6 : O 61 = some Uv) (h7 : O 63 = some Uy) (h8 : O 65 = some UB) (h9 : O 66 = some Ut) (hA : O 68 = some Yh) (hB : O 64 = some gIxB) : OrcOk P w0 (withG 34 gTok O) :=
 wN hO (fun b p _ => XF _) fun b p hx => zyU B hO o1 o3 h1 h2 h3 h4 h5 h6 h7 h8 h9 hA hB (fun b p c r hb _ hd => (VZ hb hd).2.1) b p hx
def lexR (b : List Nat) : Nat → Nat → List Tok → List Tok × (Nat × Nat)
 | 0, _, acc => (acc, (0, 0))
 | k + 1, p, acc => if p < b.length then (if (tokR b p).f.1 = 0 then lexR b k (tokR b p).q (if (tokR b p).t.kind = 0 then acc else acc ++ [(tokR b p).t]) else ([], (tokR b p).f)) else (acc, (0, 0))
def lexS (b : List Nat) : List Tok × (Nat × Nat) := lexR b (b.length + 1) 0 []
def lexV (x : List Tok × (Nat × Nat)) : AV := .tup [.lst x.1.length false (yf x.1), flt x.2]
def accV (acc : List Tok) : AV := match acc with
 | [] => .nils
 | t :: r => .gr 2 7 (t :: r).length (yf (t :: r))
def accO (acc : List Tok) : List (Option AObj) := match acc with
 | [] => []
 | t :: r => [some (.app 44 (yf (t :: r)))]
theorem zwn {P : Program} {w0 : World} (B : Bx P w0) {O : Orc} (hO : OrcOk P w0 O) (o1 : O 33 = none) (o2 : O 35 = none) (h1' : O 34 = some gTok)
  (b : List Nat) (hb : Byt b) (hl : b.length < 100000) :
  SC P w0 17 [.lst b.length false (zh b)] (H [] 0 true) (lexV (lexS b)) (H [] 0 true) := by
 refine Is.sc hO B.mixed B.glob B.env 0 (show env.funs.get 17 = some f17 from rfl) (Nat.le_of_ble_eq_true rfl) xf fun C k => ?_
 have cend := @zQ env O _ _ o1 (show env.funs.get 33 = some f33 from rfl) rfl
 have cnone := @zQ env O _ _ o2 (show env.funs.get 35 = some f35 from rfl) rfl
 unfold f17
 simp only [Ko, Kn, Kd, Kf, Ki]
 refine zd (k.eval (by simp (disch := first | exact dis | fail) only [go_sem, seval, -reduceOfNat, -reduceNegSucc]; exact rfl) ?_)
 simp only [za]
 refine zd (k.eval (by simp (disch := first | exact dis | fail) only [go_sem, seval, -reduceOfNat, -reduceNegSucc]; exact rfl) ?_)
 simp only [za]
 refine zd (k.eval (by simp (disch := first | exact dis | fail) only [go_sem, seval, -reduceOfNat, -reduceNegSucc]; exact rfl) ?_)
 simp only [za]
 refine wI (fun x : List Tok × Nat => lexS b = (x.1, (0, 0))) (fun x => ⟨tmL [(2, accV x.1), (3, .ptr 0 0), (4, .ptr 1 0)], []⟩) (fun x => H ([some frow, some (rdr b x.2)] ++ accO x.1) 0 true) (zW (yb (k.gcL [0, 1] [2, 3, 4] true (fr1 := ⟨tmL [(2, accV []), (3, .ptr 0 0), (4, .ptr 1 0)], []⟩) (s1 := H ([some frow, some (rdr b 0)] ++ accO []) 0 true) (by simp (disch := first | exact dis | fail) only [go_sem, seval, -reduceOfNat, -reduceNegSucc, rdr, accV, accO, frow]) ?_))) ?_
 ·refine yh (fun x : Nat × Nat × List Tok => x.1) (fun x => ⟨tmL [(2, accV x.2.2), (3, .ptr 0 0), (4, .ptr 1 0)], []⟩) (fun x => H ([some frow, some (rdr b x.2.1)] ++ accO x.2.2) 0 true) (fun x => lexR b x.1 x.2.1 x.2.2 = lexS b ∧ b.length < x.1 + x.2.1 ∧ x.2.1 ≤ b.length ∧ x.2.2.length ≤ x.2.1) (fun x hx => ?_) (b.length + 1, 0, []) ⟨rfl, by simp only; omega, Nat.zero_le _, Nat.le_refl _⟩
  obtain ⟨kk, p, acc⟩ := x
  obtain ⟨g1, g2, g3, g4⟩ := hx
  simp only at g1 g2 g3 g4 ⊢
  cases kk with
  | zero => omega
  | succ kk =>
  rw [lexR] at g1
  by_cases hlt : p < b.length
  ·rw [if_pos hlt] at g1
   have htok := fun (l : List (Nat × Option AObj)) n m md => xN h1' (b := b) (p := p) (show kR (b, p) from ⟨hb, hl, hlt⟩) false l n m md 1
   have hle := VU hb hlt
   simp only [tokF, lrV] at htok
   revert g1 htok hle
   generalize tokR b p = X
   obtain ⟨⟨tk, tp, ⟨dk, dn, dt, dks, dp⟩⟩, ⟨e, ep⟩, q⟩ := X
   intro g1 htok hle
   simp only [flt, zi] at g1 htok hle
   by_cases he : e = 0
   ·subst he
    rw [if_pos rfl] at g1
    obtain ⟨_, h5, h6⟩ := hle
    have h6 := h6 rfl
    by_cases hk : tk = 0
    ·subst hk
     rw [if_pos rfl] at g1
     cases acc with
     | nil =>
      refine k.eval (by simp (disch := first | exact dis | fail) only [go_sem, seval, -reduceOfNat, -reduceNegSucc, accV, accO, frow, rdr, cend, f33, hlt, htok]; exact rfl) ?_
      try simp only [za]
      refine ⟨(kk, q, []), ⟨g1, by simp only; omega, h5, by simp only at g4 ⊢; omega⟩, Nat.lt_succ_self _, ?_⟩
      refine k.gcs (keep := [0, 1]) (live := [2, 3, 4]) (md := true) ?_
      simp (disch := first | exact dis | fail) only [go_sem, seval, -reduceOfNat, -reduceNegSucc, accV, accO, frow, rdr]
     | cons a0 ar =>
      have hp1 := x1 (a0 :: ar)
      refine k.eval (by simp (disch := first | exact dis | fail) only [go_sem, seval, -reduceOfNat, -reduceNegSucc, accV, accO, frow, rdr, cend, f33, hlt, htok]; exact rfl) ?_
      try simp only [za]
      refine ⟨(kk, q, a0 :: ar), ⟨g1, by simp only; omega, h5, by simp only at g4 ⊢; omega⟩, Nat.lt_succ_self _, ?_⟩
      refine k.gcs (keep := [0, 1, 2]) (live := [2, 3, 4]) (md := true) ?_
      simp (disch := first | exact dis | fail) only [go_sem, seval, -reduceOfNat, -reduceNegSucc, accV, accO, frow, rdr, hp1]
    ·rw [if_neg hk] at g1
     cases acc with
     | nil =>
      refine k.eval (by simp (disch := first | exact dis | fail) only [go_sem, seval, -reduceOfNat, -reduceNegSucc, accV, accO, frow, rdr, cend, f33, hlt, htok, hk]; exact rfl) ?_
      try simp only [za]
      refine ⟨(kk, q, [] ++ [⟨tk, tp, .mk dk dn dt dks dp⟩]), ⟨g1, by simp only; omega, h5, by simp only [List.length_append, List.length_cons, List.length_nil] at g4 ⊢; omega⟩, Nat.lt_succ_self _, ?_⟩
      refine k.gcs (keep := [0, 1, 4]) (live := [2, 3, 4]) (md := true) ?_
      simp only [List.cons_append, List.nil_append, accV, accO, zl, qj, List.append_nil, zi, List.length_cons, List.length_nil]
      simp (disch := first | exact dis | fail) only [go_sem, seval, -reduceOfNat, -reduceNegSucc, frow, rdr]
     | cons a0 ar =>
      simp only [List.length_cons] at g4
      have hp1 := x1 (a0 :: ar)
      refine k.eval (by simp (disch := first | exact dis | fail) only [go_sem, seval, -reduceOfNat, -reduceNegSucc, accV, accO, frow, rdr, cend, f33, hlt, htok, hk]; exact rfl) ?_
      try simp only [za]
      refine ⟨(kk, q, (a0 :: ar) ++ [⟨tk, tp, .mk dk dn dt dks dp⟩]), ⟨g1, by simp only; omega, h5, by simp only [List.length_append, List.length_cons, List.length_nil] at g4 ⊢; omega⟩, Nat.lt_succ_self _, ?_⟩
      refine k.gcs (keep := [0, 1, 5]) (live := [2, 3, 4]) (md := true) ?_
      simp only [List.cons_append, List.nil_append, accV, accO, zl, p7, qj, List.append_nil, zi, List.append_assoc, List.length_append, List.length_cons, List.length_nil]
      simp (disch := first | exact dis | fail) only [go_sem, seval, -reduceOfNat, -reduceNegSucc, frow, rdr, x1, qf]
   ·rw [if_neg he] at g1
    rw [← g1]
    cases acc with
    | nil =>
     refine k.eval (by simp (disch := first | exact dis | fail) only [go_sem, seval, -reduceOfNat, -reduceNegSucc, accV, accO, frow, rdr, cend, f33, hlt, htok, he]; exact rfl) ?_
     try simp only [za, zj]
     apply ze (Or.inr rfl)
     iterate 5 (simp (disch := first | exact dis | fail) only [go_sem, seval, -reduceOfNat, -reduceNegSucc, lexV, flt, qj] <;> exact rfl)
    | cons a0 ar =>
     have hp1 := x1 (a0 :: ar)
     refine k.eval (by simp (disch := first | exact dis | fail) only [go_sem, seval, -reduceOfNat, -reduceNegSucc, accV, accO, frow, rdr, cend, f33, hlt, htok, he]; exact rfl) ?_
     try simp only [za, zj]
     apply ze (Or.inr rfl)
     iterate 5 (simp (disch := first | exact dis | fail) only [go_sem, seval, -reduceOfNat, -reduceNegSucc, lexV, flt, qj] <;> exact rfl)
  ·rw [if_neg hlt] at g1
   cases acc with
   | nil =>
    refine k.eval (by simp (disch := first | exact dis | fail) only [go_sem, seval, -reduceOfNat, -reduceNegSucc, accV, accO, frow, rdr, cend, f33, hlt]; exact rfl) ?_
    try simp only [za, zj]
    simp only [Gcx]
    refine ⟨([], p), g1.symm, ?_⟩
    refine k.gcs (keep := [0, 1]) (live := [2, 3, 4]) (md := true) ?_
    simp (disch := first | exact dis | fail) only [go_sem, seval, -reduceOfNat, -reduceNegSucc, accV, accO, frow, rdr]
   | cons a0 ar =>
    have hp1 := x1 (a0 :: ar)
    refine k.eval (by simp (disch := first | exact dis | fail) only [go_sem, seval, -reduceOfNat, -reduceNegSucc, accV, accO, frow, rdr, cend, f33, hlt]; exact rfl) ?_
    try simp only [za, zj]
    simp only [Gcx]
    refine ⟨(a0 :: ar, p), g1.symm, ?_⟩
    refine k.gcs (keep := [0, 1, 2]) (live := [2, 3, 4]) (md := true) ?_
    simp (disch := first | exact dis | fail) only [go_sem, seval, -reduceOfNat, -reduceNegSucc, accV, accO, frow, rdr, hp1]
 ·intro x hx
  obtain ⟨acc, p⟩ := x
  simp only at hx ⊢
  rw [hx]
  cases acc with
  | nil =>
   refine zd (k.eval (by simp (disch := first | exact dis | fail) only [go_sem, seval, -reduceOfNat, -reduceNegSucc, accV, accO, frow, rdr, cnone, f35]; exact rfl) ?_)
   simp only [za]
   refine k.eval (by simp (disch := first | exact dis | fail) only [go_sem, seval, -reduceOfNat, -reduceNegSucc]; exact rfl) ?_
   try simp only [za, zj, Cut, if_true]
   apply ze (Or.inr rfl)
   iterate 5 (simp (disch := first | exact dis | fail) only [go_sem, seval, -reduceOfNat, -reduceNegSucc, lexV, flt, qj] <;> exact rfl)
  | cons a0 ar =>
   have hp1 := x1 (a0 :: ar)
   refine zd (k.eval (by simp (disch := first | exact dis | fail) only [go_sem, seval, -reduceOfNat, -reduceNegSucc, accV, accO, frow, rdr, cnone, f35]; exact rfl) ?_)
   simp only [za]
   refine k.eval (by simp (disch := first | exact dis | fail) only [go_sem, seval, -reduceOfNat, -reduceNegSucc]; exact rfl) ?_
   try simp only [za, zj, Cut, if_true]
   apply ze (Or.inr rfl)
   iterate 5 (simp (disch := first | exact dis | fail) only [go_sem, seval, -reduceOfNat, -reduceNegSucc, lexV, flt, zy] <;> exact rfl)
set_option maxRecDepth 100000
theorem addL {P : Program} {w0 : World} {O : Orc} {α : Type} {f : Nat} {enc : α → List AV} {Pre : α → Prop} {F : α → AV} (hO : OrcOk P w0 O) (hp1 : ∀ x, zu (enc x) = true) (hp2 : ∀ x, zD (F x) = true) (h : ∀ x, Pre x → SC P w0 f (enc x) (H [] 0 true) (F x) (H [] 0 true)) : OrcOk P w0 (withG f (orc0 enc Pre F) O) :=
 hO.withG yV (wP true hp1 hp2 fun x hx => ⟨_, h x hx⟩)
noncomputable def LA : Orc := withG 106 Yv (withG 100 gDr (withG 117 X2 (withG 51 gIs (withG 64 gIxB (withG 71 (qr ji) (withG 67 (qr yL) (withG 60 (qr qv) noO)))))))
theorem Vs (c : Int) : zu (encI c) = true := rfl
theorem zvx {P : Program} {w0 : World} (B : Bx P w0) : OrcOk P w0 LA := by
 have h0 := xr P w0
 have h1 := jC B h0 zzl
 have h2 := jC B h1 zwx
 have h3 := jC B h2 PN
 have h4 := Pj B h3
 have h5 : OrcOk P w0 (withG 51 gIs _) := addL h4 Vs (fun _ => rfl) fun x _ => zvI B h0 rfl x
 have h6 : OrcOk P w0 (withG 117 X2 _) := addL h5 Z6 lQ fun x hx => by
  obtain ⟨b0, r, rfl, hb, h1, h2⟩ := hx
  exact zyg B h0 b0 r hb h1 h2
 have h7 : OrcOk P w0 (withG 100 gDr _) := addL h6 Z6 lQ fun x hx => zvz B h6 rfl x hx.1 hx.2.1 hx.2.2
 exact Vc B h7 rfl rfl
noncomputable def LB : Orc := withG 108 lh (withG 91 gPk (withG 62 gBg (withG 69 gRun (withG 87 jz LA))))
theorem zvK {P : Program} {w0 : World} (B : Bx P w0) : OrcOk P w0 LB := by
 have h0 := zvx B
 have h1 := QD B h0 rfl rfl rfl
 have h2 := JW B h1 rfl rfl
 have h3 := G1 B h2
 have h4 := Vp B h3
 exact Vd B h4 rfl rfl
noncomputable def LC : Orc := withG 65 UB (withG 89 gEsc (withG 63 Uy (withG 61 Uv LB)))
theorem zvQ {P : Program} {w0 : World} (B : Bx P w0) : OrcOk P w0 LC := by
 have h0 := zvK B
 have h1 := Vm B h0 rfl rfl rfl
 have h2 := YF B h1 rfl rfl rfl rfl rfl
 have h3 := Xa B h2 rfl rfl rfl rfl rfl rfl
 exact Q7 B h3 rfl rfl rfl rfl rfl rfl rfl rfl rfl rfl
noncomputable def LE : Orc := withG 68 Yh (withG 93 gInt (withG 110 (gTr [48] wc) (withG 109 (gTr kH gl) (withG 66 Ut (withG 90 gLit LC)))))
theorem zvA {P : Program} {w0 : World} (B : Bx P w0) : OrcOk P w0 LE := by
 have h0 := zvQ B
 have h1 := Ze B h0 rfl rfl rfl rfl rfl rfl
 have h2 := Y4 B h1 rfl rfl rfl rfl rfl rfl
 have h3 := QV B h2
 have h4 := J6 B h3
 have h5 := U3 B h4 rfl rfl
 exact Vb B h5 rfl
theorem zyW {P : Program} {w0 : World} (B : Bx P w0) : OrcOk P w0 (withG 34 gTok LE) :=
 XJ B (zvA B) rfl rfl rfl rfl rfl rfl rfl rfl rfl rfl rfl rfl rfl
def ue (b : List Nat) : List AV := [.lst b.length false (zh b)]
def PreS (b : List Nat) : Prop := Byt b ∧ b.length < 100000
theorem Za : ∀ x y, ue x = ue y → x = y := fun b c h => by
 simp only [ue, List.cons.injEq, AV.lst.injEq, and_true, true_and] at h
 exact wW h.2
theorem li (b : List Nat) : zu (ue b) = true := by simp only [ue, zB, yy, zI, Bool.and_self]
theorem GI (x : List Tok × (Nat × Nat)) : zD (lexV x) = true := by simp only [lexV, yF, zB, yy, wL, zI, Bool.and_self]
noncomputable def gLex : List AV → St → Option (AV × St) := orc0 ue PreS (fun b => lexV (lexS b))
theorem Yu {P : Program} {w0 : World} (B : Bx P w0) {O : Orc} (hO : OrcOk P w0 O) : OrcOk P w0 (withG 17 gLex O) :=
 addL hO li (fun _ => GI _) fun b hb => zwn B (zyW B) rfl rfl rfl b hb.1 hb.2
theorem Wc {O : Orc} (h : O 17 = some gLex) {b : List Nat} (hb : PreS b) (e : Bool) (s : St) : (evW env O).call 17 [.lst b.length e (zh b)] s = some (lexV (lexS b), s) := by
 rw [zJ h, gLex, yM Za s b hb (by simp only [ue, wkL, wkV, x3])]
open Go.RowKit (Below)
set_option maxRecDepth 100000
def YK (t : List Nat) : List UInt8 := t.map UInt8.ofNat
theorem gL (s : ByteArray) : YK (nats s) = s.data.toList := by
 simp only [YK, nats, List.map_map]
 conv => rhs; rw [← List.map_id s.data.toList]
 apply List.map_congr_left
 intro u _
 simp [UInt8.ofNat_toNat]
def xx (t : List Nat) : Int × Bool := match Lib.atoiAll (YK t) with
 | .ok v => (v, true)
 | .range => (Lib.atoiSat (YK t), false)
 | _ => (0, false)
structure AtoiOk (P : Program) (w0 : World) : Prop where
 fn : ∃ fn, P.funcs[86]? = some fn ∧ fn.body.isSome = true ∧ (fn.name == "runtime.NumGoroutine") = false
 ok : ∀ (s : ByteArray) (w : World), Below w0.heap.size w0 w → s.size ≤ 281474976710656 → (xx (nats s)).2 = true → Calls P 86 #[.string s] w fun e w' => Below w.heap.size w w' ∧ e = .returned (.tuple #[.int .i64 (xx (nats s)).1, .nilIface])
 no : ∀ (s : ByteArray) (w : World), Below w0.heap.size w0 w → s.size ≤ 281474976710656 → (xx (nats s)).2 = false → Calls P 86 #[.string s] w fun e w' => Below w.heap.size w w' ∧ ∃ N, e = .returned (.tuple #[.int .i64 (xx (nats s)).1, .iface 159 (.pointer (some ⟨N, 0, none⟩))]) ∧ w.heap.size ≤ N ∧ N < w'.heap.size
theorem Wide.all {F : Fence} (hF : Wide F) (P : Program) (m : Machine) : m.fenced P F := fun g _ => ⟨(fun h => by rw [hF.alive] at h; cases h), .inl (hF.fn _), fun f _ => hF.fn f, (fun d hd => by rw [hF.depth] at hd; cases hd)⟩
theorem Zn {F : Fence} (hF : Wide F) {n : Nat} {P : Program} {f : FuncId} {args : Array Value} {w : World} {R : Ending → World → Prop} (h : Calls P f args w R) : CallsIn F n P f args w R :=
 ⟨hF.fn f, fun cs _ => by
  obtain ⟨e, w', fr, r, s, x⟩ := h cs
  refine ⟨e, w', fr, r, ?_, x⟩
  cases e with
  | returned v => exact (StepsIn.of_steps s).mono fun m _ => hF.all P m
  | panicked chain => exact (StepsIn.of_steps s).mono fun m _ => hF.all P m
  | outgrown => exact s⟩
def pY (s : St) : St := { s with next := s.next + 1 }
theorem Wz (s : St) : Ext s (pY s) := ⟨Nat.le_succ _, fun _ h => h, rfl, rfl, fun _ _ _ => rfl, fun _ o _ h => ⟨o, h⟩, fun h => ⟨fun id o ho => Nat.lt_succ_of_lt (h.lt id o ho), fun p hp => Nat.le_succ_of_le (h.hd p hp)⟩, fun _ _ h => .inl h, fun _ _ _ _ _ h => h⟩
theorem KW {P : Program} {w0 : World} {φ : Phi} {s : St} {w w' : World} (r : Rel P w0 φ s.get w) (hwf : Wf s) (hf : φ s.next = none) (hb : Below w.heap.size w w') {N : Nat} (h1 : w.heap.size ≤ N) (h2 : N < w'.heap.size) : Step P w0 φ s w (φ.set s.next ⟨N, 0, 0⟩) (pY s) w' := by
 have rb := r.below hb
 have hlt : ∀ id o, s.get id = some o → id ≠ s.next := fun id o h => by have := hwf.lt id o (zE h); omega
 have hset : ∀ id, id ≠ s.next → (φ.set s.next ⟨N, 0, 0⟩) id = φ id := fun id h => if_neg h
 have hg : (pY s).get = s.get := rfl
 refine ⟨Wz s, ?_, fun id h => hset id (by
  rcases h with h | h
  ·omega
  ·simp only [pY] at h; omega), hb.size, fun b hlt _ => hb.block b hlt, fun id B g1 g2 g3 => ?_, fun _ _ _ h => h, fun _ _ _ h => .inl h⟩
 ·rw [hg]
  refine ⟨rb.base, fun id o ho => ?_, fun id B hB => ?_, fun id o B ho hB => rb.old id o B ho (by rw [← hset id (hlt id o ho)]; exact hB), fun id id' o o' B B' k1 k2 k3 k4 => rb.inj id id' o o' B B' k1 k2 (by rw [← hset id (hlt id o k1)]; exact k3) (by rw [← hset id' (hlt id' o' k2)]; exact k4), rb.frz, fun id o B ho hB => rb.sep id o B ho (by rw [← hset id (hlt id o ho)]; exact hB)⟩
  ·obtain ⟨B, hB, t⟩ := rb.obj id o ho
   exact ⟨B, (hset id (hlt id o ho)).trans hB, t.keep (Phi.set_sub hf) rfl⟩
  ·by_cases e : id = s.next
   ·subst e
    have : (if s.next = s.next then some (⟨N, 0, 0⟩ : Blk) else φ s.next) = some B := hB
    rw [if_pos rfl] at this; cases this; exact h2
   ·rw [hset id e] at hB; exact rb.rng id B hB
 ·have e : id = s.next := by simp only [pY] at g2; omega
  subst e
  have : (if s.next = s.next then some (⟨N, 0, 0⟩ : Blk) else φ s.next) = some B := g3
  rw [if_pos rfl] at this; cases this; exact .inl h1
open Classical in
noncomputable def u9 (args : List AV) (s : St) : Option (AV × St) :=
 match args with
 | [.str t] => if t.length < 1000000 then (if (xx t).2 = true then some (.tup [.int .i64 (xx t).1, .nili], s) else some (.tup [.int .i64 (xx t).1, .ifc 159 (.ptr s.next 0)], pY s)) else none
 | _ => none
theorem Zu {args : List AV} {s : St} {v : AV} {s' : St} (h : u9 args s = some (v, s')) : ∃ t, args = [.str t] ∧ t.length < 1000000 ∧ ((xx t).2 = true ∧ v = .tup [.int .i64 (xx t).1, .nili] ∧ s' = s ∨ (xx t).2 = false ∧ v = .tup [.int .i64 (xx t).1, .ifc 159 (.ptr s.next 0)] ∧ s' = pY s) := by
 unfold u9 at h
 split at h
 ·rename_i t
  split at h
  ·rename_i hl
   split at h
   ·rename_i hk; cases h; exact ⟨t, rfl, hl, .inl ⟨hk, rfl, rfl⟩⟩
   ·rename_i hk; cases h; exact ⟨t, rfl, hl, .inr ⟨by simpa using hk, rfl, rfl⟩⟩
  ·cases h
 ·cases h
theorem KY (args : List AV) (s : St) (v : AV) (s' : St) (h : u9 args s = some (v, s')) : Ext s s' := by
 obtain ⟨t, _, _, ⟨_, _, rfl⟩ | ⟨_, _, rfl⟩⟩ := Zu h
 ·exact Ext.refl _
 ·exact Wz _
theorem VO {P : Program} {w0 : World} (A : AtoiOk P w0) {O : Orc} (hO : OrcOk P w0 O) : OrcOk P w0 (withG 86 u9 O) :=
 hO.withG KY fun args s v s' hg => by
  obtain ⟨t, rfl, hl, hv⟩ := Zu hg
  refine ⟨A.fn, fun φ w xs r hwf hf hx F n hF => ?_⟩
  simp only [VRL, VR] at hx
  obtain ⟨_, _, rfl, ⟨sb, rfl, rfl⟩, rfl⟩ := hx
  have hsz : sb.size ≤ 281474976710656 := by
   have : (nats sb).length = sb.size := by
    show (sb.data.toList.map (·.toNat)).length = sb.data.size
    rw [List.length_map, Array.length_toList]
   omega
  refine Zn hF ?_
  rcases hv with ⟨hk, rfl, rfl⟩ | ⟨hk, rfl, rfl⟩
  ·refine Calls.mono (A.ok sb w r.base hsz hk) ?_
   rintro e w' ⟨hb, rfl⟩
   exact ⟨φ, _, rfl, Step.below r hb, by simp only [VR, VRL]; exact ⟨_, rfl, _, _, rfl, rfl, _, _, rfl, rfl, rfl⟩⟩
  ·refine Calls.mono (A.no sb w r.base hsz hk) ?_
   rintro e w' ⟨hb, N, rfl, h1, h2⟩
   refine ⟨φ.set s.next ⟨N, 0, 0⟩, _, rfl, KW r hwf (hf s.next (Nat.le_refl _)) hb h1 h2, ?_⟩
   simp only [VR, VRL]
   exact ⟨_, rfl, _, _, rfl, rfl, _, _, rfl, ⟨_, rfl, ⟨N, 0, 0⟩, if_pos rfl, rfl⟩, rfl⟩
theorem UI {O : Orc} (h : O 86 = some u9) {t : List Nat} (hl : t.length < 1000000) (hk : (xx t).2 = true) (s : St) : (evW env O).call 86 [.str t] s = some (.tup [.int .i64 (xx t).1, .nili], s) := by
 rw [zJ h]; simp only [u9]; rw [if_pos hl, if_pos hk]
theorem zyF {O : Orc} (h : O 86 = some u9) {t : List Nat} (hl : t.length < 1000000) (hk : (xx t).2 = false) (l : List (Nat × Option AObj)) (n m : Nat) (b : Bool) : (evW env O).call 86 [.str t] (KL l n m b [] none) = some (.tup [.int .i64 (xx t).1, .ifc 159 (.ptr n 0)], KL l (n + 1) m b [] none) := by
 rw [zJ h]; simp only [u9]; rw [if_pos hl, if_neg (by rw [hk]; simp)]; rfl
set_option maxRecDepth 100000
def posD : DT → Int | .mk _ _ _ _ p => p
def ll (x e : DT) : DT := .mk (.ofNat 6) (.ofNat 0) [] [x, e] (posD x)
def xg (l : List DT) (e : DT) : DT := l.foldr ll e
def i3 : Nat → Int
 | 0 => .negSucc 0
 | k + 1 => .ofNat k
theorem zy5 : xG .i64 (.negSucc 0) = .negSucc 0 := rfl
theorem zwp : Int.sub (.ofNat 0) (.ofNat 1) = .negSucc 0 := rfl
structure DCell (e : DT) (ce : List AV) : Prop where
 wk : wkL ce = zT e
 pure : zu ce = true
 is : ∃ k n t m ex cs p, ce = [.int .i64 k, .int .i64 n, .str t, .lst m ex cs, .int .i64 p]
 sc : z5 ce = true
theorem DCell.of (e : DT) : DCell e (zT e) := ⟨wY e, yr e, by obtain ⟨k, n, t, ks, p⟩ := e; exact ⟨k, n, t, ks.length, false, zm ks, p, by simp only [zb]⟩, XU e⟩
theorem Q4 (a b : List AV) : wkL (a ++ b) = wkL a ++ wkL b := by
 induction a with
 | nil => rfl
 | cons v a ih => simp only [List.cons_append, wkL, ih]
theorem DCell.cons {x e : DT} {ce : List AV} (h : DCell e ce) : DCell (ll x e) [.int .i64 (.ofNat 6), .int .i64 (.ofNat 0), .str [], .lst 2 true (zT x ++ ce), .int .i64 (posD x)] :=
 ⟨by simp only [wkL, wkV, ll, zb, Q4, wY, h.wk, zF, zg, List.append_nil, List.length_cons, List.length_nil],
  by simp only [zB, zI, yu, yZ, yy, Bool.and_self],
  ⟨_, _, _, _, _, _, _, rfl⟩, by simp only [ZF, ZD, XH, Wp, WD, Bool.and_self]⟩
def B4 (w : Nat) : Prop := w.testBit 4 = true
def Idle (m : Nat) (l l' : List (Nat × Option AObj)) (nx nx' w w' : Nat) : Prop := m = 0 → l' = l ∧ nx' = nx ∧ w' = w
def gA : ICode := match f103.body with
 | .seq _ (.block _ (.loop b)) => b
 | _ => .skip
def lsRf : List Nat × ICode × ICode := match f56.body with
 | .seq _ (.seq (.seq _ (.block _ (.rf _ ps a b))) _) => (ps, a, b)
 | _ => ([], .skip, .skip)
theorem U7 {O : Orc} (n : Nat) (ex : Bool) (xs : List DT) (hn : xs.length = n) (hn2 : n < 1000000) (tF : List (Nat × AV)) (h3 : (tmL tF).get 3 = some (.ptr 0 0)) :
  ∀ (m : Nat), m ≤ n → ∀ (l : List (Nat × Option AObj)) (nx w : Nat) (e : DT) (ce : List AV) (T : List (Nat × AV)), DCell e ce → 5 ≤ nx → getA l 0 = some (.row 24 ce false false) → getA l 2 = some (.row 22 [.lst n ex (zm xs)] false false) → getA l 4 = some (.loop .ready none (tmL tF) lsRf.1 lsRf.2.1 lsRf.2.2 3) →
   (tmL T).get 0 = some (.yld 4) → (tmL T).get 1 = some (.ptr 2 0) → (tmL T).get 3 = some (.int .i64 (i3 m)) →
   ∃ l' nx' w' ce' T', evC env (evW env O) none (.loop gA) ⟨tmL T, []⟩ (KL l nx w true [] none) = some (.exit 0, ⟨tmL T', []⟩, KL l' nx' w' true [] none) ∧ DCell (xg (xs.take m) e) ce' ∧ 5 ≤ nx' ∧ getA l' 0 = some (.row 24 ce' false false) ∧ getA l' 4 = some (.loop .ready none (tmL tF) lsRf.1 lsRf.2.1 lsRf.2.2 3) ∧ getA l' 1 = getA l 1 ∧ getA l' 3 = getA l 3 ∧ (B4 w ∨ 0 < m → B4 w') ∧ Idle m l l' nx nx' w w' := by
 intro m
 induction m with
 | zero =>
  intro _ l nx w e ce T hc hnx g0 g2 g4 t0 t1 t3
  rw [XO]
  simp (disch := first | exact dis | fail) only [go_sem, seval, -reduceOfNat, -reduceNegSucc, gA, f103, t3, i3]
  exact ⟨_, _, _, ce, _, rfl, hc, hnx, g0, g4, rfl, rfl, fun h => h.elim id False.elim, fun _ => ⟨rfl, rfl, rfl⟩⟩
 | succ m ih =>
  intro hm l nx w e ce T hc hnx g0 g2 g4 t0 t1 t3
  have hlt : m < xs.length := by omega
  obtain ⟨x, r, hd⟩ : ∃ x r, xs.drop m = x :: r := by
   cases h : xs.drop m with
   | nil => have := congrArg List.length h; simp at this; omega
   | cons x r => exact ⟨x, r, rfl⟩
  obtain ⟨ek, en, et, vm, vx, vc, ep, rfl⟩ := hc.is
  obtain ⟨xk, xn, xt, xks, xp⟩ := x
  have q0 : ¬ 0 = nx := by omega
  have q1 : ¬ 1 = nx := by omega
  have q2 : ¬ 2 = nx := by omega
  have q3 : ¬ 3 = nx := by omega
  have q4 : ¬ 4 = nx := by omega
  have r0 : ¬ nx = 0 := by omega
  have r4 : ¬ nx = 4 := by omega
  have hev : zD (.lst vm vx vc) = true := by
   simp only [yy]
  have hp10 : zu [.int .i64 xk, .int .i64 xn, .str xt, .lst xks.length false (zm xks), .int .i64 xp, .int .i64 ek, .int .i64 en, .str et, .lst vm vx vc, .int .i64 ep] = true := by
   simp only [sxP, hev, Bool.and_self]
  have htk : xg (xs.take (m + 1)) e = xg (xs.take m) (ll (.mk xk xn xt xks xp) e) := by
   have h5 : xs.take (m + 1) = xs.take m ++ [.mk xk xn xt xks xp] := by
    rw [List.take_add, hd]; rfl
   rw [h5]; simp only [xg, List.foldr_append, List.foldr_cons, List.foldr_nil]
  have hcc := hc.cons (x := .mk xk xn xt xks xp)
  have fin : ∀ (l1 : List (Nat × Option AObj)) (w1 : Nat) (T1 : List (Nat × AV)), getA l1 0 = some (.row 24 [.int .i64 (.ofNat 6), .int .i64 (.ofNat 0), .str [], .lst 2 true (zT (.mk xk xn xt xks xp) ++ [.int .i64 ek, .int .i64 en, .str et, .lst vm vx vc, .int .i64 ep]), .int .i64 xp] false false) → getA l1 2 = some (.row 22 [.lst n ex (zm xs)] false false) → getA l1 4 = some (.loop .ready none (tmL tF) lsRf.1 lsRf.2.1 lsRf.2.2 3) → getA l1 1 = getA l 1 → getA l1 3 = getA l 3 →
    (tmL T1).get 0 = some (.yld 4) → (tmL T1).get 1 = some (.ptr 2 0) → (tmL T1).get 3 = some (.int .i64 (i3 m)) → B4 w1 →
    ∃ l' nx' w' ce' T', evC env (evW env O) none (.loop gA) ⟨tmL T1, []⟩ (KL l1 (nx + 1) w1 true [] none) = some (.exit 0, ⟨tmL T', []⟩, KL l' nx' w' true [] none) ∧ DCell (xg (xs.take (m + 1)) e) ce' ∧ 5 ≤ nx' ∧ getA l' 0 = some (.row 24 ce' false false) ∧ getA l' 4 = some (.loop .ready none (tmL tF) lsRf.1 lsRf.2.1 lsRf.2.2 3) ∧ getA l' 1 = getA l 1 ∧ getA l' 3 = getA l 3 ∧ (B4 w ∨ 0 < m + 1 → B4 w') ∧ Idle (m + 1) l l' nx nx' w w' := fun l1 w1 T1 a1 a2 a3 a4 a5 a6 a7 a8 a9 => by
   obtain ⟨l', nx', w', ce', T', k1, k2, k3, k4, k5, k6, k7, k8, k9⟩ := ih (by omega) l1 (nx + 1) w1 _ _ T1 hcc (by omega) a1 a2 a3 a6 a7 a8
   exact ⟨l', nx', w', ce', T', k1, by rw [htk]; exact k2, k3, k4, k5, k6.trans a4, k7.trans a5, fun _ => k8 (.inl a9), fun h => by omega⟩
  rw [XO]
  generalize hK : (fun f t => evC env (evW env O) none (.loop gA) f t) = K
  have i3s : i3 (m + 1) = .ofNat m := rfl
  have hsub : xG .i64 (Int.sub (.ofNat m) (.ofNat 1)) = i3 m := by
   cases m with
   | zero => rfl
   | succ k => rw [subI (by omega), VS (by omega)]; rfl
  simp (disch := first | exact dis | fail) only [go_sem, seval, -reduceOfNat, -reduceNegSucc, gA, f103, lsRf, f56, t0, t1, t3, i3s, hsub, g0, g2, g4, h3, yR, hd, zF, zb, q0, q4, r4]
  subst hK
  refine fin _ _ _ ?_ ?_ ?_ ?_ ?_ ?_ ?_ ?_ ?_
  ·simp (disch := first | exact dis | fail) only [go_sem, seval, -reduceOfNat, -reduceNegSucc, zb]
  ·simp (disch := first | exact dis | fail) only [go_sem, seval, -reduceOfNat, -reduceNegSucc, q2, g2]
  ·simp (disch := first | exact dis | fail) only [go_sem, seval, -reduceOfNat, -reduceNegSucc, lsRf, f56]
  ·simp (disch := first | exact dis | fail) only [go_sem, seval, -reduceOfNat, -reduceNegSucc, q1]
  ·simp (disch := first | exact dis | fail) only [go_sem, seval, -reduceOfNat, -reduceNegSucc, q3]
  ·simp (disch := first | exact dis | fail) only [go_sem, seval, -reduceOfNat, -reduceNegSucc, t0]
  ·simp (disch := first | exact dis | fail) only [go_sem, seval, -reduceOfNat, -reduceNegSucc, t1]
  ·simp (disch := first | exact dis | fail) only [go_sem, seval, -reduceOfNat, -reduceNegSucc]
  ·simp only [B4, Nat.testBit_or, Nat.testBit_shiftLeft]
   simp (decide := true)
set_option maxRecDepth 100000
theorem zxV {P : Program} {w0 : World} (B : Bx P w0) {O : Orc} (hO : OrcOk P w0 O) (o1 : O 85 = none) (o2 : O 103 = none)
  (l : List DT) (e : DT) (hl : l.length < 1000000) :
  SC P w0 56 [.lst l.length false (zm l), encD e] (H [] 0 true) (encD (xg l e)) (H [] 0 true) := by
 refine Is.sc hO B.mixed B.glob B.env 0 (show env.funs.get 56 = some f56 from rfl) (Nat.le_of_ble_eq_true rfl) xf fun C k => ?_
 have c1 := @zQ env O _ _ o1 (show env.funs.get 85 = some f85 from rfl) rfl
 have c2 := @zQ env O _ _ o2 (show env.funs.get 103 = some f103 from rfl) rfl
 unfold f56
 simp only [Ko, Kn, Ki]
 refine zd (k.eval (by simp (disch := first | exact dis | fail) only [go_sem, seval, -reduceOfNat, -reduceNegSucc, encD]; exact rfl) ?_)
 simp only [za]
 obtain ⟨l', nx', w', ce', T', k1, k2, k3, k4, k5, k6, k7, k8, k9⟩ := U7 (O := O) l.length false l rfl hl [(8, .fn 103 [] [.ptr 2 0]), (7, .lst l.length false (zm l)), (4, .ptr 1 0), (3, .ptr 0 0), (1, .agg (zT e)), (0, .lst l.length false (zm l))] (by simp (disch := first | exact dis | fail) only [go_sem, seval, -reduceOfNat, -reduceNegSucc]) l.length (Nat.le_refl _) [(4, some (.loop .ready none (tmL [(8, .fn 103 [] [.ptr 2 0]), (7, .lst l.length false (zm l)), (4, .ptr 1 0), (3, .ptr 0 0), (1, .agg (zT e)), (0, .lst l.length false (zm l))]) lsRf.1 lsRf.2.1 lsRf.2.2 3)), (3, some .dfd), (2, some (.row 22 [.lst l.length false (zm l)] false false)), (1, some (.row 24 [.int .i64 (.ofNat 0), .int .i64 (.ofNat 0), .str [], .nils, .int .i64 (.ofNat 0)] false false)), (0, some (.row 24 (zT e) false false))] 5 0 e (zT e) [(3, .int .i64 (i3 l.length)), (6, .int .i64 (i3 l.length)), (5, .int .i64 (.ofNat l.length)), (4, .lst l.length false (zm l)), (1, .ptr 2 0), (0, .yld 4)] (DCell.of e) (Nat.le_refl _) rfl rfl rfl (by simp (disch := first | exact dis | fail) only [go_sem, seval, -reduceOfNat, -reduceNegSucc]) (by simp (disch := first | exact dis | fail) only [go_sem, seval, -reduceOfNat, -reduceNegSucc]) (by simp (disch := first | exact dis | fail) only [go_sem, seval, -reduceOfNat, -reduceNegSucc])
 have hsub : xG .i64 (Int.sub (.ofNat l.length) (.ofNat 1)) = i3 l.length := by
  revert hl
  cases l.length with
  | zero => intro _; rfl
  | succ k => intro hl; rw [subI (by omega), VS (by omega)]; rfl
 simp only [gA, f103, lsRf, f56, Ko, Kn, Ki] at k1 k5
 by_cases hz : l.length = 0
 ·have hl0 : l = [] := List.length_eq_zero_iff.1 hz
  obtain ⟨rfl, rfl, rfl⟩ := k9 hz
  subst hl0
  simp only [List.length_nil, i3] at k1
  obtain ⟨ek, en, et, eks, ep⟩ := e
  refine zd (k.ev ?_)
  simp (disch := first | exact dis | fail) only [go_sem, seval, -reduceOfNat, -reduceNegSucc, c1, f85, c2, f103, zwp, zy5, k1]
  refine ⟨_, rfl, ?_⟩
  simp only [za, zb]
  refine k.eval (by simp (disch := first | exact dis | fail) only [go_sem, seval, -reduceOfNat, -reduceNegSucc]; exact rfl) ?_
  try simp only [za, zj, Cut, if_true]
  apply ze (Or.inr rfl)
  iterate 5 (simp (disch := first | exact dis | fail) only [go_sem, seval, -reduceOfNat, -reduceNegSucc, xg, List.foldr_nil, zb, z7, encD] <;> exact rfl)
 ·have hw : ¬ w' % 32 = 0 := fun h => by
   have h1 := k8 (.inr (by omega))
   have h2 : (w' % 2 ^ 5).testBit 4 = true := by rw [Nat.testBit_mod_two_pow]; simpa [B4] using h1
   rw [show (2 : Nat) ^ 5 = 32 from rfl, h] at h2; simp at h2
  rw [List.take_of_length_le (Nat.le_refl _)] at k2
  obtain ⟨ck, cn, ct, cm, cx, cs, cp, rfl⟩ := k2.is
  have hcv := k2.wk
  have hi : i3 l.length = .ofNat (l.length - 1) := by cases h : l.length with | zero => exact absurd h hz | succ n => rfl
  simp only [hi] at k1
  refine zd (k.ev ?_)
  simp (disch := first | exact dis | fail) only [go_sem, seval, -reduceOfNat, -reduceNegSucc, c1, f85, c2, f103, k1, k5, hw]
  refine ⟨_, rfl, ?_⟩
  simp only [za]
  refine k.eval (by simp (disch := first | exact dis | fail) only [go_sem, seval, -reduceOfNat, -reduceNegSucc, k4, k6]; exact rfl) ?_
  try simp only [za, zj, Cut, if_true]
  apply ze (Or.inr rfl)
  iterate 3 (simp (disch := first | exact dis | fail) only [go_sem, seval, -reduceOfNat, -reduceNegSucc, k7]; exact rfl)
  ·simp only [wkV, hcv, encD]
  ·simp (disch := first | exact dis | fail) only [go_sem, seval, -reduceOfNat, -reduceNegSucc, Nat.mod_one, Nat.or_self]
set_option maxRecDepth 100000
structure RS where
 at_ : Nat
 err : Nat
 fp : Nat
def RS.fell (s : RS) (e p : Nat) : RS := if s.err = 0 then ⟨s.at_, e, p⟩ else s
def RS.nx (s : RS) : RS := ⟨s.at_ + 1, s.err, s.fp⟩
def rowD (ts : List Tok) (s : RS) : List AV := [.lst ts.length false (yf ts), .int .i64 (.ofNat s.at_), .int .i64 (.ofNat s.err), .int .i64 (.ofNat s.fp)]
def rdD (ts : List Tok) (s : RS) : AObj := .row 66 (rowD ts s) false false
def xz (p : Nat) : DT := .mk (.ofNat 5) (.ofNat 0) [113, 117, 111, 116, 101] [] (.ofNat p)
def qP (p : Int) : DT := .mk (.ofNat 0) (.ofNat 0) [] [] p
def atD (d : DT) (p : Int) : DT := match d with | .mk k n t ks _ => .mk k n t ks p
abbrev Rec := Nat → RS → DT × RS
def zV (dt : Rec) (ts : List Tok) (op : Nat) (dots : Bool) : Nat → List DT → RS → List DT × Tok × RS
 | 0, acc, s => (acc, t0, s)
 | k + 1, acc, s => if s.err ≠ 0 then (acc, t0, s) else match ts.drop s.at_ with
  | [] => zV dt ts op dots k (acc ++ [(dt op s).1]) (dt op s).2
  | t :: _ => if t.kind = 2 ∨ t.kind = 6 ∧ acc ≠ [] ∧ dots = true then (acc, t, s.nx) else zV dt ts op dots k (acc ++ [(dt op s).1]) (dt op s).2
def itF (dt : Rec) (ts : List Tok) (op : Nat) (dots : Bool) (s : RS) : List DT × Tok × RS := zV dt ts op dots (ts.length + 3) [] s
def wR (ts : List Tok) (op : Nat) (l : List DT) (e : DT) (s : RS) : DT × RS := match ts.drop s.at_ with
 | [] => (d0, s.fell 7 op)
 | c :: _ => if c.kind = 2 then (atD (xg l e) (.ofNat op), s.nx) else (d0, s.fell 7 c.pos)
def pG (dt : Rec) (ts : List Tok) (op : Nat) (x : List DT × Tok × RS) : DT × RS :=
 if x.2.1.kind = 6 then wR ts op x.1 (dt op x.2.2).1 (dt op x.2.2).2 else (atD (xg x.1 (qP (.ofNat x.2.1.pos))) (.ofNat op), x.2.2)
def pM (d : DT) : Prop := jB d = .ofNat 2 ∧ (xx (y8 d)).2 = true ∧ 0 ≤ (xx (y8 d)).1 ∧ (xx (y8 d)).1 ≤ 255
instance (d : DT) : Decidable (pM d) := by unfold pM; infer_instance
def ws (ts : List Tok) (op : Nat) : Nat → List Nat → RS → DT × RS
 | 0, _, s => (d0, s)
 | k + 1, out, s => match ts.drop s.at_ with
  | [] => (d0, s.fell 7 op)
  | t :: _ => if t.kind = 2 then (.mk (.ofNat 8) (.ofNat 0) out [] (.ofNat op), s.nx) else if t.kind = 7 ∧ pM t.d then ws ts op k (out ++ [(xx (y8 t.d)).1.toNat]) s.nx else (d0, s.fell 7 t.pos)
def byF (ts : List Tok) (op : Nat) (s : RS) : DT × RS := ws ts op (ts.length + 1) [] s
def quoF (t : Tok) (x : DT × RS) : DT × RS := (xg [xz t.pos, x.1] (qP (posD x.1)), x.2)
def vecF (t : Tok) (x : List DT × Tok × RS) : DT × RS := (.mk (.ofNat 7) (.ofNat 0) [] x.1 (.ofNat t.pos), x.2.2)
def yX (rec : Rec) (full : Bool) (ts : List Tok) (t : Tok) (s : RS) : DT × RS :=
 if t.kind = 7 then (t.d, s)
 else if t.kind = 2 ∨ t.kind = 6 then (d0, s.fell 7 t.pos)
 else if full = true then (d0, s.fell 5 t.pos)
 else if t.kind = 3 then quoF t (rec t.pos s)
 else if t.kind = 1 then pG rec ts t.pos (itF rec ts t.pos true s)
 else if t.kind = 4 then vecF t (itF rec ts t.pos false s)
 else byF ts t.pos s
def datG (rec : Rec) (full : Bool) (ts : List Tok) (op : Nat) (s : RS) : DT × RS := match ts.drop s.at_ with
 | [] => (d0, s.fell 7 op)
 | t :: _ => yX rec full ts t s.nx
def datF : Nat → List Tok → Rec
 | 0, ts => datG (fun _ s => (d0, s)) true ts
 | n + 1, ts => datG (datF n ts) false ts
def Fine (ts : List Tok) (s : RS) (x : DT × RS) : Prop := s.at_ ≤ x.2.at_ ∧ x.2.at_ ≤ ts.length ∧ (s.err ≠ 0 → x.2.err = s.err ∧ x.2.fp = s.fp) ∧ (x.2.err = 0 → s.at_ < x.2.at_) ∧ (ts.drop s.at_ ≠ [] → s.at_ < x.2.at_)
def Fin2 (ts : List Tok) (s s' : RS) : Prop := s.at_ ≤ s'.at_ ∧ s'.at_ ≤ ts.length ∧ (s.err ≠ 0 → s'.err = s.err ∧ s'.fp = s.fp)
theorem ly (s : RS) (e p : Nat) : (s.fell e p).at_ = s.at_ := by unfold RS.fell; split <;> rfl
theorem vu (s : RS) {e : Nat} (p : Nat) (he : e ≠ 0) : (s.fell e p).err ≠ 0 := by unfold RS.fell; split <;> simp_all
theorem Yb (s : RS) (e p : Nat) (h : s.err ≠ 0) : s.fell e p = s := if_neg h
theorem Fin2.refl {ts : List Tok} {s : RS} (h : s.at_ ≤ ts.length) : Fin2 ts s s := ⟨Nat.le_refl _, h, fun _ => ⟨rfl, rfl⟩⟩
theorem Fin2.trans {ts : List Tok} {a b c : RS} (h : Fin2 ts a b) (h' : Fin2 ts b c) : Fin2 ts a c := ⟨Nat.le_trans h.1 h'.1, h'.2.1, fun e => by
 have := h.2.2 e
 have := h'.2.2 (by omega)
 omega⟩
theorem Fin2.fell {ts : List Tok} {s : RS} (h : s.at_ ≤ ts.length) (e p : Nat) : Fin2 ts s (s.fell e p) := ⟨by rw [ly]; exact Nat.le_refl _, by rw [ly]; exact h, fun e' => by rw [Yb _ _ _ e']; exact ⟨rfl, rfl⟩⟩
theorem Fin2.nx {ts : List Tok} {s : RS} (h : s.at_ < ts.length) : Fin2 ts s s.nx := ⟨Nat.le_succ _, h, fun _ => ⟨rfl, rfl⟩⟩
theorem Fine.fin {ts : List Tok} {s : RS} {x : DT × RS} (h : Fine ts s x) : Fin2 ts s x.2 := ⟨h.1, h.2.1, h.2.2.1⟩
theorem xX {ts : List Tok} {p : Nat} {t : Tok} {r : List Tok} (h : ts.drop p = t :: r) : p < ts.length := by
 apply Nat.lt_of_not_le; intro hle; rw [List.drop_eq_nil_of_le hle] at h; cases h
theorem vK {ts : List Tok} {p : Nat} (h : ts.drop p = []) : ts.length ≤ p := by
 have := congrArg List.length h; simp at this; omega
def kr (ts : List Tok) (dt : Rec) : Prop := ∀ op s, s.at_ ≤ ts.length → Fine ts s (dt op s)
theorem xv {ts : List Tok} {dt : Rec} (hd : kr ts dt) (op : Nat) (dots : Bool) : ∀ (k : Nat) (acc : List DT) (s : RS), s.at_ ≤ ts.length → Fin2 ts s (zV dt ts op dots k acc s).2.2
 | 0, acc, s, h => Fin2.refl h
 | k + 1, acc, s, h => by
  have h1 := hd op s h
  simp only [zV]
  split
  ·exact Fin2.refl h
  split
  ·exact h1.fin.trans (xv hd op dots k _ _ h1.2.1)
  ·rename_i hdr
   split
   ·exact Fin2.nx (xX hdr)
   ·exact h1.fin.trans (xv hd op dots k _ _ h1.2.1)
theorem pE {ts : List Tok} (op : Nat) : ∀ (k : Nat) (out : List Nat) (s : RS), s.at_ ≤ ts.length → Fin2 ts s (ws ts op k out s).2
 | 0, _, s, h => Fin2.refl h
 | k + 1, out, s, h => by
  simp only [ws]
  split
  ·exact Fin2.fell h _ _
  ·rename_i hdr
   have hlt := xX hdr
   split
   ·exact Fin2.nx hlt
   split
   ·exact (Fin2.nx hlt).trans (pE op k _ s.nx hlt)
   ·exact Fin2.fell h _ _
theorem ZX {ts : List Tok} (op : Nat) (l : List DT) (e : DT) (s : RS) (h : s.at_ ≤ ts.length) : Fin2 ts s (wR ts op l e s).2 := by
 unfold wR
 split
 ·exact Fin2.fell h _ _
 ·rename_i hdr
  split
  ·exact Fin2.nx (xX hdr)
  ·exact Fin2.fell h _ _
theorem Vq {ts : List Tok} {rec : Rec} {full : Bool} (hd : full = false → kr ts rec) (t : Tok) (s : RS) (h : s.at_ ≤ ts.length) : Fin2 ts s (yX rec full ts t s).2 := by
 unfold yX
 split
 ·exact Fin2.refl h
 split
 ·exact Fin2.fell h _ _
 split
 ·exact Fin2.fell h _ _
 rename_i hf
 have hd := hd (by simpa using hf)
 split
 ·exact (hd t.pos s h).fin
 split
 ·have h1 := xv hd t.pos true (ts.length + 3) [] s h
  unfold pG
  split
  ·have h2 := hd t.pos (itF rec ts t.pos true s).2.2 h1.2.1
   exact (h1.trans h2.fin).trans (ZX _ _ _ _ h2.2.1)
  ·exact h1
 split
 ·exact xv hd t.pos false (ts.length + 3) [] s h
 ·exact pE t.pos (ts.length + 1) [] s h
theorem kS {ts : List Tok} {rec : Rec} {full : Bool} (hd : full = false → kr ts rec) : kr ts (datG rec full ts) := fun op s h => by
 unfold datG
 split
 ·rename_i hdr
  exact ⟨by simp only [ly]; omega, by simp only [ly]; exact h, (fun e => by
   show (s.fell 7 op).err = _ ∧ (s.fell 7 op).fp = _
   rw [Yb _ _ _ e]; exact ⟨rfl, rfl⟩), fun e => absurd e (vu s op (by decide)), fun e => absurd hdr e⟩
 ·rename_i t r hdr
  have hlt := xX hdr
  have h1 := Vq (rec := rec) hd t s.nx hlt
  have h2 : s.nx.at_ = s.at_ + 1 := rfl
  exact ⟨by have := h1.1; omega, h1.2.1, fun e => h1.2.2 e, fun _ => by have := h1.1; omega, fun _ => by have := h1.1; omega⟩
theorem qD (ts : List Tok) : ∀ n, kr ts (datF n ts)
 | 0 => kS (fun e => by cases e)
 | n + 1 => kS (fun _ => qD ts n)
set_option maxRecDepth 100000
theorem pe {ts ts' : List Tok} {s s' : RS} (h : rowD ts s = rowD ts' s') : ts = ts' ∧ s = s' := by
 obtain ⟨a, b, c⟩ := s
 obtain ⟨a', b', c'⟩ := s'
 simp only [rowD, List.cons.injEq, AV.lst.injEq, AV.int.injEq, true_and, and_true] at h
 obtain ⟨⟨_, h1⟩, h2, h3, h4⟩ := h
 cases h2; cases h3; cases h4
 exact ⟨XB h1, rfl⟩
theorem qz (ts : List Tok) (s : RS) : zu (rowD ts s) = true := by simp only [rowD, zB, zI, yy, yu, Bool.and_self]
theorem Y0 (ts : List Tok) (s : RS) : wkL (rowD ts s) = rowD ts s := by simp only [rowD, wkL, wkV, zy]
def TsOk (ts : List Tok) : Prop := ts.length < 100000 ∧ ∀ t ∈ ts, (y8 t.d).length < 1000000
def accB (out : List Nat) : AV := match out with
 | [] => .nils
 | c :: r => .gr 2 1 (c :: r).length (zh (c :: r))
def xE (out : List Nat) : List (Option AObj) := match out with
 | [] => []
 | c :: r => [some (.app 5 (zh (c :: r)))]
theorem zvs (l : List (Nat × Option AObj)) (n m : Nat) (e : Bool) (c : Nat) : appV (KL l n m true [] none) 5 1 1 .nils (.lst 1 e [.int .u8 (.ofNat c)]) = some (.gr n 1 1 [.int .u8 (.ofNat c)], KL ((n, some (.app 5 [.int .u8 (.ofNat c)])) :: l) (n + 1) m true [] none) :=
 ZH l n m [] none 5 1 1 e [.int .u8 (.ofNat c)] rfl (Nat.le_refl _) (by decide) rfl
theorem gd : vEqk .ifacec true .nili .nili = some (.bool false) := rfl
theorem PH (t : Nat) (v : AV) : vEqk .ifacec true (.ifc t v) .nili = some (.bool true) := rfl
theorem zvS (s : St) : vCbs s .nils = some (.str []) := rfl
theorem zvy (s : St) (i : Nat) {c : Nat} {r : List Nat} (h : Byt (c :: r)) : vCbs s (.gr i 1 (r.length + 1) (.int .u8 (.ofNat c) :: zh r)) = some (.str (c :: r)) := by
 have h2 : yz (r.length + 1) (zh (c :: r)) = some (zh (c :: r)) := vO (by rw [ul]; rfl)
 show vStr (yJ (yz (r.length + 1) (zh (c :: r)))) = _
 rw [h2]
 show vStr (xo (zh (c :: r))) = _
 rw [qb h]; rfl
theorem LP {P : Program} {w0 : World} (B : Bx P w0) {O : Orc} (hO : OrcOk P w0 O) (o54 : O 54 = none) (o55 : O 55 = none) (h86 : O 86 = some u9) (ts : List Tok) (hts : TsOk ts) (op : Nat) (s : RS) (he : s.err = 0) (hs : s.at_ ≤ ts.length) :
  SC P w0 59 [.ptr 0 0, .int .i64 (.ofNat op)] (H [some (rdD ts s)] 0 true) (encD (byF ts op s).1) (H [some (rdD ts (byF ts op s).2)] 1 true) := by
 refine Is.sc hO B.mixed B.glob B.env 1 (show env.funs.get 59 = some f59 from rfl) (Nat.le_of_ble_eq_true rfl) (qI rfl) fun C k => ?_
 have cnext := @zQ env O _ _ o54 (show env.funs.get 54 = some f54 from rfl) rfl
 have cfell := @zQ env O _ _ o55 (show env.funs.get 55 = some f55 from rfl) rfl
 obtain ⟨a0, e0, f0⟩ := s
 simp only at he hs
 subst he
 obtain ⟨hlen, htx⟩ := hts
 unfold f59
 simp only [Ko, Kg, Kn, Ki]
 refine zd (k.eval (by simp (disch := first | exact dis | fail) only [go_sem, seval, -reduceOfNat, -reduceNegSucc, rdD, rowD]; exact rfl) ?_)
 simp only [za]
 refine zd (k.eval (by simp (disch := first | exact dis | fail) only [go_sem, seval, -reduceOfNat, -reduceNegSucc]; exact rfl) ?_)
 simp only [za]
 refine zW (yb (k.gcL [1] [5, 4, 1, 0] true (fr1 := ⟨tmL [(5, accB []), (4, .ptr 1 0), (1, .int .i64 (.ofNat op)), (0, .ptr 0 0)], []⟩) (s1 := H ([some (rdD ts ⟨a0, 0, f0⟩), some zY] ++ xE []) 1 true) (by simp (disch := first | exact dis | fail) only [go_sem, seval, -reduceOfNat, -reduceNegSucc, rdD, rowD, accB, xE, zY]) ?_))
 refine yh (fun x : Nat × List Nat × Nat => x.1) (fun x => ⟨tmL [(5, accB x.2.1), (4, .ptr 1 0), (1, .int .i64 (.ofNat op)), (0, .ptr 0 0)], []⟩) (fun x => H ([some (rdD ts ⟨x.2.2, 0, f0⟩), some zY] ++ xE x.2.1) 1 true) (fun x => ws ts op x.1 x.2.1 ⟨x.2.2, 0, f0⟩ = byF ts op ⟨a0, 0, f0⟩ ∧ ts.length < x.1 + x.2.2 ∧ x.2.2 ≤ ts.length ∧ x.2.1.length ≤ x.2.2 ∧ Byt x.2.1) (fun x hx => ?_) (ts.length + 1, [], a0) ⟨rfl, by simp only; omega, hs, Nat.zero_le _, fun x hx => by cases hx⟩
 obtain ⟨kk, out, at_⟩ := x
 obtain ⟨g1, g2, g3, g4, g5⟩ := hx
 simp only at g1 g2 g3 g4 g5 ⊢
 cases kk with
 | zero => omega
 | succ kk =>
 rw [ws] at g1
 simp only at g1
 cases hd : ts.drop at_ with
 | nil =>
  have h4 : at_ = ts.length := by have := vK hd; omega
  subst h4
  simp only [hd] at g1
  rw [← g1]
  cases out with
  | nil =>
   refine k.eval (by simp (disch := first | exact dis | fail) only [go_sem, seval, -reduceOfNat, -reduceNegSucc, accB, xE, zY, rdD, rowD, cnext, f54, cfell, f55]; exact rfl) ?_
   try simp only [za, zj]
   apply ze (Or.inr rfl)
   iterate 5 (simp (disch := first | exact dis | fail) only [go_sem, seval, -reduceOfNat, -reduceNegSucc, rdD, rowD, encD, d0, zb, zg, RS.fell, zy] <;> exact rfl)
  | cons c0 cr =>
   have hp1 := yq (c0 :: cr)
   refine k.eval (by simp (disch := first | exact dis | fail) only [go_sem, seval, -reduceOfNat, -reduceNegSucc, accB, xE, zY, rdD, rowD, cnext, f54, cfell, f55]; exact rfl) ?_
   try simp only [za, zj]
   apply ze (Or.inr rfl)
   iterate 5 (simp (disch := first | exact dis | fail) only [go_sem, seval, -reduceOfNat, -reduceNegSucc, rdD, rowD, encD, d0, zb, zg, RS.fell, zy] <;> exact rfl)
 | cons tk tr =>
  have hlt := xX hd
  have h4 : ¬ at_ = ts.length := by omega
  have htx := htx tk (List.mem_of_mem_drop (by rw [hd]; simp))
  simp only [hd] at g1
  obtain ⟨tk, tp, ⟨dk, dn, dt, dks, dp⟩⟩ := tk
  simp only [y8] at htx
  by_cases hk2 : tk = 2
  ·subst hk2
   rw [if_pos rfl] at g1
   rw [← g1]
   cases out with
   | nil =>
    refine k.eval (by simp (disch := first | exact dis | fail) only [go_sem, seval, -reduceOfNat, -reduceNegSucc, accB, xE, zY, rdD, rowD, cnext, f54, zvS, h4, hd, zn, zl, zi]; exact rfl) ?_
    try simp only [za, zj]
    apply ze (Or.inr rfl)
    iterate 5 (simp (disch := first | exact dis | fail) only [go_sem, seval, -reduceOfNat, -reduceNegSucc, rdD, rowD, encD, zb, zg, RS.nx, zy] <;> exact rfl)
   | cons c0 cr =>
    have hp1 := yq (c0 :: cr)
    refine k.eval (by simp (disch := first | exact dis | fail) only [go_sem, seval, -reduceOfNat, -reduceNegSucc, accB, xE, zY, rdD, rowD, cnext, f54, zvy _ _ g5, h4, hd, zn, zl, zi]; exact rfl) ?_
    try simp only [za, zj]
    apply ze (Or.inr rfl)
    iterate 5 (simp (disch := first | exact dis | fail) only [go_sem, seval, -reduceOfNat, -reduceNegSucc, rdD, rowD, encD, zb, zg, RS.nx, zy] <;> exact rfl)
  rw [if_neg hk2] at g1
  by_cases hgood : tk = 7 ∧ pM (.mk dk dn dt dks dp)
  ·rw [if_pos hgood] at g1
   obtain ⟨rfl, hb1, hb2, hb3, hb4⟩ := hgood
   simp only [jB, y8] at hb1 hb2 hb3 hb4 g1
   subst hb1
   obtain ⟨v, hv⟩ : ∃ v : Nat, (xx dt).1 = .ofNat v := ⟨(xx dt).1.toNat, (Int.toNat_of_nonneg hb3).symm⟩
   have hca := fun st => UI (O := O) h86 htx hb2 st
   rw [hv] at hca hb4 g1
   have hv2 : v < 256 := by have : (v : Int) ≤ 255 := hb4; omega
   have hv3 : ¬ 255 < v := by omega
   have g1 : ws ts op kk (out ++ [v]) ⟨at_ + 1, 0, f0⟩ = byF ts op ⟨a0, 0, f0⟩ := g1
   cases out with
   | nil =>
    refine k.eval (by simp (disch := first | exact dis | fail) only [go_sem, seval, -reduceOfNat, -reduceNegSucc, accB, xE, zY, rdD, rowD, cnext, f54, gd, hca, hv3, zvs, h4, hd, zn, zl, zi]; exact rfl) ?_
    try simp only [za]
    refine ⟨(kk, [] ++ [v], at_ + 1), ⟨g1, by simp only; omega, hlt, by simp only [List.length_append, List.length_cons, List.length_nil] at g4 ⊢; omega, fun x hx => by simp at hx; omega⟩, Nat.lt_succ_self _, ?_⟩
    refine k.gcs (keep := [1, 3]) (live := [5, 4, 1, 0]) (md := true) ?_
    simp only [List.nil_append, accB, xE]
    simp (disch := first | exact dis | fail) only [go_sem, seval, -reduceOfNat, -reduceNegSucc, zY, rdD, rowD]
   | cons c0 cr =>
    simp only [List.length_cons] at g4
    have hap := fun l nx m (e : Bool) hg => @zxJ l nx m 5 2 (cr.length + 1) true e (c0 :: cr) [v] hg rfl (by simp) (by simp only [List.length_append, List.length_cons, List.length_nil]; omega)
    simp only [List.length_cons, List.length_nil, Nat.zero_add, zh, List.cons_append, qA] at hap
    refine k.eval (by simp (disch := first | exact dis | fail) only [go_sem, seval, -reduceOfNat, -reduceNegSucc, accB, xE, zY, rdD, rowD, cnext, f54, gd, hca, hv3, hap, h4, hd, zn, zl, zi]; exact rfl) ?_
    try simp only [za]
    refine ⟨(kk, (c0 :: cr) ++ [v], at_ + 1), ⟨g1, by simp only; omega, hlt, by simp only [List.length_append, List.length_cons, List.length_nil] at g4 ⊢; omega, g5.append (fun x hx => by simp at hx; omega)⟩, Nat.lt_succ_self _, ?_⟩
    refine k.gcs (keep := [1, 4]) (live := [5, 4, 1, 0]) (md := true) ?_
    simp only [List.cons_append, accB, xE, zh, qA, List.length_append, List.length_cons, List.length_nil]
    simp (disch := first | exact dis | fail) only [go_sem, seval, -reduceOfNat, -reduceNegSucc, zY, rdD, rowD]
  rw [if_neg hgood] at g1
  rw [← g1]
  cases hk2' : (xx dt).2 with
  | false =>
   have hca := fun l n m b => zyF (O := O) h86 htx hk2' l n m b
   by_cases hk7 : tk = 7
   ·subst hk7
    by_cases hdk : dk = .ofNat 2
    ·subst hdk
     cases out with
     | nil =>
      refine k.eval (by simp (disch := first | exact dis | fail) only [go_sem, seval, -reduceOfNat, -reduceNegSucc, accB, xE, zY, rdD, rowD, cnext, f54, PH, h4, hd, zn, zl, zi, cfell, f55, hca]; exact rfl) ?_
      try simp only [za, zj]
      apply ze (Or.inr rfl)
      iterate 5 (simp (disch := first | exact dis | fail) only [go_sem, seval, -reduceOfNat, -reduceNegSucc, rdD, rowD, encD, d0, zb, zg, RS.fell, zy] <;> exact rfl)
     | cons c0 cr =>
      have hp1 := yq (c0 :: cr)
      refine k.eval (by simp (disch := first | exact dis | fail) only [go_sem, seval, -reduceOfNat, -reduceNegSucc, accB, xE, zY, rdD, rowD, cnext, f54, PH, h4, hd, zn, zl, zi, cfell, f55, hca]; exact rfl) ?_
      try simp only [za, zj]
      apply ze (Or.inr rfl)
      iterate 5 (simp (disch := first | exact dis | fail) only [go_sem, seval, -reduceOfNat, -reduceNegSucc, rdD, rowD, encD, d0, zb, zg, RS.fell, zy] <;> exact rfl)
    ·have hdk' : eqD dk (.ofNat 2) = false := jN hdk
     cases out with
     | nil =>
      refine k.eval (by simp (disch := first | exact dis | fail) only [go_sem, seval, -reduceOfNat, -reduceNegSucc, accB, xE, zY, rdD, rowD, cnext, f54, h4, hd, zn, zl, zi, cfell, f55, hca, hdk']; exact rfl) ?_
      try simp only [za, zj]
      apply ze (Or.inr rfl)
      iterate 5 (simp (disch := first | exact dis | fail) only [go_sem, seval, -reduceOfNat, -reduceNegSucc, rdD, rowD, encD, d0, zb, zg, RS.fell, zy] <;> exact rfl)
     | cons c0 cr =>
      have hp1 := yq (c0 :: cr)
      refine k.eval (by simp (disch := first | exact dis | fail) only [go_sem, seval, -reduceOfNat, -reduceNegSucc, accB, xE, zY, rdD, rowD, cnext, f54, h4, hd, zn, zl, zi, cfell, f55, hca, hdk']; exact rfl) ?_
      try simp only [za, zj]
      apply ze (Or.inr rfl)
      iterate 5 (simp (disch := first | exact dis | fail) only [go_sem, seval, -reduceOfNat, -reduceNegSucc, rdD, rowD, encD, d0, zb, zg, RS.fell, zy] <;> exact rfl)
   ·skip
    cases out with
    | nil =>
     refine k.eval (by simp (disch := first | exact dis | fail) only [go_sem, seval, -reduceOfNat, -reduceNegSucc, accB, xE, zY, rdD, rowD, cnext, f54, h4, hd, zn, zl, zi, cfell, f55, hca, hk2, hk7]; exact rfl) ?_
     try simp only [za, zj]
     apply ze (Or.inr rfl)
     iterate 5 (simp (disch := first | exact dis | fail) only [go_sem, seval, -reduceOfNat, -reduceNegSucc, rdD, rowD, encD, d0, zb, zg, RS.fell, zy] <;> exact rfl)
    | cons c0 cr =>
     have hp1 := yq (c0 :: cr)
     refine k.eval (by simp (disch := first | exact dis | fail) only [go_sem, seval, -reduceOfNat, -reduceNegSucc, accB, xE, zY, rdD, rowD, cnext, f54, h4, hd, zn, zl, zi, cfell, f55, hca, hk2, hk7]; exact rfl) ?_
     try simp only [za, zj]
     apply ze (Or.inr rfl)
     iterate 5 (simp (disch := first | exact dis | fail) only [go_sem, seval, -reduceOfNat, -reduceNegSucc, rdD, rowD, encD, d0, zb, zg, RS.fell, zy] <;> exact rfl)
  | true =>
   have hca := fun st => UI (O := O) h86 htx hk2' st
   by_cases hk7 : tk = 7
   ·subst hk7
    by_cases hdk : dk = .ofNat 2
    ·subst hdk
     cases hv : (xx dt).1 with
     | ofNat v =>
      rw [hv] at hca
      have hv3 : 255 < v := by
       apply Nat.lt_of_not_le
       intro hle
       exact hgood ⟨rfl, rfl, hk2', by simp only [y8]; rw [hv]; exact Int.natCast_nonneg v, by simp only [y8]; rw [hv]; show (v : Int) ≤ 255; omega⟩
      cases out with
      | nil =>
       refine k.eval (by simp (disch := first | exact dis | fail) only [go_sem, seval, -reduceOfNat, -reduceNegSucc, accB, xE, zY, rdD, rowD, cnext, f54, gd, h4, hd, zn, zl, zi, cfell, f55, hca, hv3]; exact rfl) ?_
       try simp only [za, zj]
       apply ze (Or.inr rfl)
       iterate 5 (simp (disch := first | exact dis | fail) only [go_sem, seval, -reduceOfNat, -reduceNegSucc, rdD, rowD, encD, d0, zb, zg, RS.fell, zy] <;> exact rfl)
      | cons c0 cr =>
       have hp1 := yq (c0 :: cr)
       refine k.eval (by simp (disch := first | exact dis | fail) only [go_sem, seval, -reduceOfNat, -reduceNegSucc, accB, xE, zY, rdD, rowD, cnext, f54, gd, h4, hd, zn, zl, zi, cfell, f55, hca, hv3]; exact rfl) ?_
       try simp only [za, zj]
       apply ze (Or.inr rfl)
       iterate 5 (simp (disch := first | exact dis | fail) only [go_sem, seval, -reduceOfNat, -reduceNegSucc, rdD, rowD, encD, d0, zb, zg, RS.fell, zy] <;> exact rfl)
     | negSucc v =>
      rw [hv] at hca
      cases out with
      | nil =>
       refine k.eval (by simp (disch := first | exact dis | fail) only [go_sem, seval, -reduceOfNat, -reduceNegSucc, accB, xE, zY, rdD, rowD, cnext, f54, gd, h4, hd, zn, zl, zi, cfell, f55, hca]; exact rfl) ?_
       try simp only [za, zj]
       apply ze (Or.inr rfl)
       iterate 5 (simp (disch := first | exact dis | fail) only [go_sem, seval, -reduceOfNat, -reduceNegSucc, rdD, rowD, encD, d0, zb, zg, RS.fell, zy] <;> exact rfl)
      | cons c0 cr =>
       have hp1 := yq (c0 :: cr)
       refine k.eval (by simp (disch := first | exact dis | fail) only [go_sem, seval, -reduceOfNat, -reduceNegSucc, accB, xE, zY, rdD, rowD, cnext, f54, gd, h4, hd, zn, zl, zi, cfell, f55, hca]; exact rfl) ?_
       try simp only [za, zj]
       apply ze (Or.inr rfl)
       iterate 5 (simp (disch := first | exact dis | fail) only [go_sem, seval, -reduceOfNat, -reduceNegSucc, rdD, rowD, encD, d0, zb, zg, RS.fell, zy] <;> exact rfl)
    ·have hdk' : eqD dk (.ofNat 2) = false := jN hdk
     cases out with
     | nil =>
      refine k.eval (by simp (disch := first | exact dis | fail) only [go_sem, seval, -reduceOfNat, -reduceNegSucc, accB, xE, zY, rdD, rowD, cnext, f54, h4, hd, zn, zl, zi, cfell, f55, hca, hdk']; exact rfl) ?_
      try simp only [za, zj]
      apply ze (Or.inr rfl)
      iterate 5 (simp (disch := first | exact dis | fail) only [go_sem, seval, -reduceOfNat, -reduceNegSucc, rdD, rowD, encD, d0, zb, zg, RS.fell, zy] <;> exact rfl)
     | cons c0 cr =>
      have hp1 := yq (c0 :: cr)
      refine k.eval (by simp (disch := first | exact dis | fail) only [go_sem, seval, -reduceOfNat, -reduceNegSucc, accB, xE, zY, rdD, rowD, cnext, f54, h4, hd, zn, zl, zi, cfell, f55, hca, hdk']; exact rfl) ?_
      try simp only [za, zj]
      apply ze (Or.inr rfl)
      iterate 5 (simp (disch := first | exact dis | fail) only [go_sem, seval, -reduceOfNat, -reduceNegSucc, rdD, rowD, encD, d0, zb, zg, RS.fell, zy] <;> exact rfl)
   ·skip
    cases out with
    | nil =>
     refine k.eval (by simp (disch := first | exact dis | fail) only [go_sem, seval, -reduceOfNat, -reduceNegSucc, accB, xE, zY, rdD, rowD, cnext, f54, h4, hd, zn, zl, zi, cfell, f55, hca, hk2, hk7]; exact rfl) ?_
     try simp only [za, zj]
     apply ze (Or.inr rfl)
     iterate 5 (simp (disch := first | exact dis | fail) only [go_sem, seval, -reduceOfNat, -reduceNegSucc, rdD, rowD, encD, d0, zb, zg, RS.fell, zy] <;> exact rfl)
    | cons c0 cr =>
     have hp1 := yq (c0 :: cr)
     refine k.eval (by simp (disch := first | exact dis | fail) only [go_sem, seval, -reduceOfNat, -reduceNegSucc, accB, xE, zY, rdD, rowD, cnext, f54, h4, hd, zn, zl, zi, cfell, f55, hca, hk2, hk7]; exact rfl) ?_
     try simp only [za, zj]
     apply ze (Or.inr rfl)
     iterate 5 (simp (disch := first | exact dis | fail) only [go_sem, seval, -reduceOfNat, -reduceNegSucc, rdD, rowD, encD, d0, zb, zg, RS.fell, zy] <;> exact rfl)
end Go.Proofs.YthcmnajcjapjbaaGreatDoor.Ev

/- Contracts of functions that DatumTokens calls: what a call answers, for all data, by symbolic evaluation. No conditions of its own. -/
import Derived.Test.YthcmnajcjapjbaaGreatDoorWA
import Derived.Test.YthcmnajcjapjbaaGreatDoorEvG
set_option linter.unusedSimpArgs false
set_option linter.unusedVariables false
set_option linter.defProp false
namespace Go.Proofs.YthcmnajcjapjbaaGreatDoor.Ev
open T
set_option maxRecDepth 100000
theorem Pw (j n : Nat) (h : n ≠ 0) : vUsd (.sl j 0 n (.opn 1)) = some (.ptr j 0) := by
 cases n with
 | zero => exact absurd rfl h
 | succ n => rfl
theorem pw {l : List Nat} (hb : Byt l) : yJ (some (zh l)) = some l := by rw [Zq]; exact qb hb
theorem Pp {l : List (Nat × Option AObj)} {n m j k0 : Nat} {ks : List Nat} {b fz : Bool} {out : List Nat} {ik : IntKind} (hg : getA l j = some (.row 5 (zh out) true fz)) (hk : memN j ks = true) (h0 : out ≠ []) (hb : Byt out) (hl : out.length < 1000000000) :
  oUst (KL l n m b [] (some (k0, ks))) 5 (.ptr j 0) (.int ik (.ofNat out.length)) = some (.str out, KL ((j, some (.row 5 (zh out) true true)) :: l) n (mark m j) b [] (some (k0, ks))) := by
 obtain ⟨q, hq⟩ : ∃ q, out.length = q + 1 := by
  cases out with
  | nil => exact absurd rfl h0
  | cons a r => exact ⟨r.length, rfl⟩
 have hc : cut (zh out) 0 (Nat.succ q) = some (zh out) := by
  have := gD out; rw [Nat.mul_eq, Nat.mul_one, hq] at this; exact this
 have hget : (KL l n m b [] (some (k0, ks))).get j = some (.row 5 (zh out) true fz) := by
  rw [V9, hk, hg]
  show (bif Nat.ble k0 j then _ else _) = _
  cases Nat.ble k0 j <;> rfl
 rw [hq]
 simp only [oUst, hget, zw.2 (rfl : (5 : Nat) = 5), zP.2 (show q < 9223372036854775807 by omega), Bool.and_self, cond_true, hc, pw hb]
 rfl
theorem Lp {l : List (Nat × Option AObj)} {n m : Nat} {b : Bool} {on : Option (Nat × List Nat)} {ik : IntKind} : oUst (KL l n m b [] on) 5 .nilp (.int ik (.ofNat 0)) = some (.str [], KL l n m b [] on) := rfl
theorem K5 : vUsd .nils = some .nilp := rfl
open Nat (reduceEqDiff reduceLeDiff reduceLT reduceAdd reduceMul reduceSub reduceMod reducePow reduceDiv reduceOr reduceShiftLeft reduceGT reduceSucc)
open List (length_cons length_nil length_take length_drop)
open Int (reduceOfNat reduceNegSucc)
set_option maxRecDepth 100000
def yL (c : Nat) : Bool := 97 ≤ c && c ≤ 122 || 65 ≤ c && c ≤ 90 || 48 ≤ c && c ≤ 57 || [33, 36, 37, 38, 42, 47, 58, 60, 61, 62, 63, 94, 95, 126, 43, 45, 46, 64].contains c
def qv (c : Nat) : Bool := c == 32 || 9 ≤ c && c ≤ 13 && c != 11
def ji (c : Nat) : Bool := qv c || [40, 41, 34, 59, 39].contains c
noncomputable def qr (p : Nat → Bool) : List AV → St → Option (AV × St) := orc0 (fun c : Nat => [.int .u8 (.ofNat c)]) (fun c => c < 256) (fun c => .bool (p c))
theorem Pn (p : Nat → Bool) {c : Nat} (h : c < 256) (s : St) : qr p [.int .u8 (.ofNat c)] s = some (.bool (p c), s) :=
 yM (fun x y hxy => by cases hxy; rfl) s c h rfl
theorem vR {O : Orc} {f : Nat} {p : Nat → Bool} (h : O f = some (qr p)) {c : Nat} (hc : c < 256) (s : St) : (evW env O).call f [.int .u8 (.ofNat c)] s = some (.bool (p c), s) := by
 rw [zJ h, Pn _ hc]
theorem jC {P : Program} {w0 : World} (B : Bx P w0) {O : Orc} (hO : OrcOk P w0 O) {f : Nat} {p : Nat → Bool} (h : (List.range 256).all (fun c => okV (.bool (p c)) ((evT env noO 1000).call f [.int .u8 (.ofNat c)] s0)) = true) : OrcOk P w0 (withG f (qr p) O) :=
 hO.withG yV (wP false (fun _ => rfl) (fun _ => rfl) fun c hc => WF (xr P w0) B.mixed B.glob B.env (List.all_eq_true.1 h c (List.mem_range.2 hc)))
theorem zzl : (List.range 256).all (fun c => okV (.bool (qv c)) ((evT env noO 1000).call 60 [.int .u8 (.ofNat c)] s0)) = true := by decide +kernel
theorem zwx : (List.range 256).all (fun c => okV (.bool (yL c)) ((evT env noO 1000).call 67 [.int .u8 (.ofNat c)] s0)) = true := by decide +kernel
theorem PN : (List.range 256).all (fun c => okV (.bool (ji c)) ((evT env noO 1000).call 71 [.int .u8 (.ofNat c)] s0)) = true := by decide +kernel
theorem qw {b : List Nat} {p c : Nat} {r : List Nat} (h : b.drop p = c :: r) : p < b.length ∧ b.drop (p + 1) = r := by
 have h1 : p < b.length := by
  apply Nat.lt_of_not_le; intro hle; rw [List.drop_eq_nil_of_le hle] at h; cases h
 refine ⟨h1, ?_⟩
 rw [← List.drop_drop, h]; rfl
theorem Hs {b : List Nat} {p c : Nat} {r : List Nat} (h : b.drop p = c :: r) : b.length = p + 1 + r.length := by
 have := congrArg List.length h; simp at this; have := (qw h).1; omega
theorem wb {b : List Nat} {p : Nat} (h : b.drop p = []) (hp : p ≤ b.length) : p = b.length := by
 have := congrArg List.length h; simp at this; omega
theorem kD (p : Nat → Bool) : ∀ l : List Nat, l.take (l.takeWhile p).length = l.takeWhile p
 | [] => rfl
 | x :: l => by
  rw [List.takeWhile_cons]
  cases p x with
  | true => simp [kD p l]
  | false => simp
theorem pP (p : Nat → Bool) (l : List Nat) : (l.takeWhile p).length ≤ l.length := by
 have := congrArg List.length (kD p l); simp at this; omega
theorem Byt.tw {l : List Nat} (h : Byt l) (p : Nat → Bool) : Byt (l.takeWhile p) := by rw [← kD]; exact h.take _
def rdr (b : List Nat) (p : Nat) : AObj := .row 70 [.lst b.length false (zh b), .int .i64 (.ofNat p)] false false
def rowR (b : List Nat) (p : Nat) : List AV := [.lst b.length false (zh b), .int .i64 (.ofNat p)]
theorem qE (b : List Nat) (p : Nat) : zu (rowR b p) = true := by simp only [rowR, zB, yy, yu, zI, Bool.and_self]
def PreR (x : List Nat × Nat) : Prop := Byt x.1 ∧ x.1.length < 1000000 ∧ x.2 ≤ x.1.length
def encM (x : (List Nat × Nat) × List Nat) : Nat × List AV × List AV := (70, rowR x.1.1 x.1.2, [.str x.2])
theorem LQ : ∀ x y, encM x = encM y → x = y := fun ⟨⟨b, p⟩, s⟩ ⟨⟨c, q⟩, t⟩ h => by
 simp only [encM, rowR, Prod.mk.injEq, List.cons.injEq, AV.lst.injEq, AV.int.injEq, AV.str.injEq, true_and, and_true] at h
 obtain ⟨⟨⟨_, h1⟩, h2⟩, h3⟩ := h
 rw [wW h1]; cases h2; cases h3; rfl
def ZI (x : List Nat × Nat) : Nat × List AV × List AV := (70, rowR x.1 x.2, [])
theorem Yr : ∀ x y, ZI x = ZI y → x = y := fun ⟨b, p⟩ ⟨c, q⟩ h => by
 simp only [ZI, rowR, Prod.mk.injEq, List.cons.injEq, AV.lst.injEq, AV.int.injEq, true_and, and_true] at h
 obtain ⟨⟨_, h1⟩, h2⟩ := h
 rw [wW h1]; cases h2; rfl
noncomputable def gM (Pre : List Nat × Nat → Prop) (f : List Nat → Nat → AV × Nat) : List AV → St → Option (AV × St) := orc1 ZI Pre fun x => ((f x.1 x.2).1, rowR x.1 (f x.1 x.2).2)
theorem xN {O : Orc} {F : Nat} {Pre : List Nat × Nat → Prop} {f : List Nat → Nat → AV × Nat} (h : O F = some (gM Pre f)) {b : List Nat} {p : Nat} (hp : Pre (b, p)) (e : Bool) (l : List (Nat × Option AObj)) (n m : Nat) (md : Bool) (id : Nat) (hg : getA l id = some (.row 70 [.lst b.length e (zh b), .int .i64 (.ofNat p)] false false)) :
  (evW env O).call F [.ptr id 0] (KL l n m md [] none) = some ((f b p).1, KL ((id, some (.row 70 [.lst b.length false (zh b), .int .i64 (.ofNat (f b p).2)] false false)) :: l) n (mark m id) md [] none) := by
 rw [zJ h, gM, qB, xj, hg, v6 Yr _ _ (b, p) hp (by simp only [ZI, rowR, wkL, wkV, x3])]
 rfl
theorem wN {P : Program} {w0 : World} {O : Orc} (hO : OrcOk P w0 O) {F : Nat} {Pre : List Nat × Nat → Prop} {f : List Nat → Nat → AV × Nat} (hp : ∀ b p, Pre (b, p) → zD (f b p).1 = true)
  (h : ∀ b p, Pre (b, p) → SC P w0 F [.ptr 0 0] (H [some (rdr b p)] 0 true) (f b p).1 (H [some (rdr b (f b p).2)] 1 true)) : OrcOk P w0 (withG F (gM Pre f) O) :=
 hO.withG vT (gs true (fun x hx => ⟨qE _ _, rfl, hp x.1 x.2 hx, qE _ _⟩) fun x hx => h x.1 x.2 hx)
noncomputable def gMs (Pre : (List Nat × Nat) × List Nat → Prop) (f : List Nat → Nat → List Nat → Bool) : List AV → St → Option (AV × St) := orc1 encM Pre fun x => (.bool (f x.1.1 x.1.2 x.2), rowR x.1.1 x.1.2)
theorem u3 {O : Orc} {F : Nat} {Pre : (List Nat × Nat) × List Nat → Prop} {f : List Nat → Nat → List Nat → Bool} (h : O F = some (gMs Pre f)) {b : List Nat} {p : Nat} {s : List Nat} (hp : Pre ((b, p), s)) (e : Bool) (l : List (Nat × Option AObj)) (n m : Nat) (md : Bool) (id : Nat) (hg : getA l id = some (.row 70 [.lst b.length e (zh b), .int .i64 (.ofNat p)] false false)) :
  (evW env O).call F [.ptr id 0, .str s] (KL l n m md [] none) = some (.bool (f b p s), KL ((id, some (.row 70 [.lst b.length false (zh b), .int .i64 (.ofNat p)] false false)) :: l) n (mark m id) md [] none) := by
 rw [zJ h, gMs, qB, xj, hg, v6 LQ _ _ ((b, p), s) hp (by simp only [encM, rowR, wkL, wkV, x3])]
 rfl
theorem J5 {P : Program} {w0 : World} {O : Orc} (hO : OrcOk P w0 O) {F : Nat} {Pre : (List Nat × Nat) × List Nat → Prop} {f : List Nat → Nat → List Nat → Bool}
  (h : ∀ b p s, Pre ((b, p), s) → SC P w0 F [.ptr 0 0, .str s] (H [some (rdr b p)] 0 true) (.bool (f b p s)) (H [some (rdr b p)] 1 true)) : OrcOk P w0 (withG F (gMs Pre f) O) :=
 hO.withG vT (gs true (fun x hx => ⟨qE _ _, by simp only [encM, zB, yZ, zI, Bool.and_self], rfl, qE _ _⟩) fun x hx => h x.1.1 x.1.2 x.2 hx)
def flt (x : Nat × Nat) : AV := .agg [.int .i64 (.ofNat x.1), .int .i64 (.ofNat x.2)]
theorem wL (x : Nat × Nat) : zD (flt x) = true := by simp only [flt, wA, zB, yu, zI, Bool.and_self]
def bgR (b : List Nat) (p : Nat) (s : List Nat) : Bool := decide ((b.drop p).take s.length = s)
def pT (x : (List Nat × Nat) × List Nat) : Prop := PreR x.1 ∧ x.2.length ≤ 2 ∧ Byt x.2
theorem JD {P : Program} {w0 : World} (B : Bx P w0) {O : Orc} (hO : OrcOk P w0 O) (b : List Nat) (p : Nat) (s : List Nat) (hp : pT ((b, p), s)) :
  SC P w0 62 [.ptr 0 0, .str s] (H [some (rdr b p)] 0 true) (.bool (bgR b p s)) (H [some (rdr b p)] 1 true) := by
 obtain ⟨⟨hb, hl, hpl⟩, hs, hsb⟩ := hp
 simp only at hb hl hpl hs hsb
 refine Is.sc hO B.mixed B.glob B.env 1 (show env.funs.get 62 = some f62 from rfl) (Nat.le_of_ble_eq_true rfl) (qI rfl) fun C k => ?_
 unfold f62
 simp only [Ko, Kd, Ke]
 refine zd (k.eval (by simp (disch := first | exact dis | fail) only [go_sem, seval, -reduceOfNat, -reduceNegSucc, rdr]; exact rfl) ?_)
 simp only [za]
 by_cases h : p + s.length ≤ b.length
 ·have e1 : p + s.length - p = s.length := by omega
  have e2 := (hb.drop p).take s.length
  have e3 : ((b.drop p).take s.length).length = s.length := by rw [List.length_take, List.length_drop]; omega
  refine zd (k.eval (by simp (disch := first | exact dis | fail) only [go_sem, seval, -reduceOfNat, -reduceNegSucc, e1]; exact rfl) ?_)
  simp only [za]
  refine k.eval (by simp (disch := first | exact dis | fail) only [go_sem, seval, -reduceOfNat, -reduceNegSucc]; exact rfl) ?_
  try simp only [za, zj, Cut, if_true]
  apply ze (Or.inr rfl)
  iterate 5 (simp (disch := first | exact dis | fail) only [go_sem, seval, -reduceOfNat, -reduceNegSucc, rdr, bgR] <;> exact rfl)
 ·have e4 : bgR b p s = false := by
   unfold bgR
   apply decide_eq_false
   intro he
   have := congrArg List.length he
   rw [List.length_take, List.length_drop] at this; omega
  refine zd (k.eval (by simp (disch := first | exact dis | fail) only [go_sem, seval, -reduceOfNat, -reduceNegSucc]; exact rfl) ?_)
  simp only [za]
  refine k.eval (by simp (disch := first | exact dis | fail) only [go_sem, seval, -reduceOfNat, -reduceNegSucc]; exact rfl) ?_
  try simp only [za, zj, Cut, if_true]
  rw [e4]
  apply ze (Or.inr rfl)
  iterate 5 (simp (disch := first | exact dis | fail) only [go_sem, seval, -reduceOfNat, -reduceNegSucc, rdr] <;> exact rfl)
noncomputable def gBg : List AV → St → Option (AV × St) := gMs pT bgR
theorem G1 {P : Program} {w0 : World} (B : Bx P w0) {O : Orc} (hO : OrcOk P w0 O) : OrcOk P w0 (withG 62 gBg O) :=
 J5 hO fun b p s h => JD B (xr P w0) b p s h
def yo (b : List Nat) (p : Nat) : Nat := (b.drop p).headD 0
set_option maxRecDepth 100000
def runF (b : List Nat) (p : Nat) : AV × Nat := (.str ((b.drop p).takeWhile yL), p + ((b.drop p).takeWhile yL).length)
theorem zvg {P : Program} {w0 : World} (B : Bx P w0) {O : Orc} (hO : OrcOk P w0 O) (h58 : O 33 = none) (hs0 : O 67 = some (qr yL))
  (b : List Nat) (at_ : Nat) (hp : PreR (b, at_)) :
  SC P w0 69 [.ptr 0 0] (H [some (rdr b at_)] 0 true) (runF b at_).1 (H [some (rdr b (runF b at_).2)] 1 true) := by
 obtain ⟨hb, hl, ha⟩ := hp
 simp only at hb hl ha
 simp only [runF]
 refine Is.sc hO B.mixed B.glob B.env 1 (show env.funs.get 69 = some f69 from rfl) (Nat.le_of_ble_eq_true rfl) (qI rfl) fun C k => ?_
 have cend := @zQ env O _ _ h58 (show env.funs.get 33 = some f33 from rfl) rfl
 have hsym := fun {c} hc s => @vR O _ _ hs0 c hc s
 have hW := pP yL (b.drop at_)
 rw [List.length_drop] at hW
 unfold f69
 simp only [Ko, Kn, Kd, Ke, Ki]
 refine zd (k.eval (by simp (disch := first | exact dis | fail) only [go_sem, seval, -reduceOfNat, -reduceNegSucc, rdr]; exact rfl) ?_)
 simp only [za]
 refine zd (k.eval (by simp (disch := first | exact dis | fail) only [go_sem, seval, -reduceOfNat, -reduceNegSucc]; exact rfl) ?_)
 simp only [za]
 refine xO ⟨tmL [(3, .int .i64 (.ofNat at_)), (0, .ptr 0 0)], []⟩ (H [some (rdr b (at_ + ((b.drop at_).takeWhile yL).length))] 1 true) (zW (yb (k.gcL [] [3, 0] true (fr1 := ⟨tmL [(3, .int .i64 (.ofNat at_)), (0, .ptr 0 0)], []⟩) (s1 := H [some (rdr b at_)] 1 true) (by simp (disch := first | exact dis | fail) only [go_sem, seval, -reduceOfNat, -reduceNegSucc, rdr]) ?_))) ?_
 ·refine yh (fun p => b.length - p) (fun _ => ⟨tmL [(3, .int .i64 (.ofNat at_)), (0, .ptr 0 0)], []⟩) (fun p => H [some (rdr b p)] 1 true) (fun p => at_ ≤ p ∧ p ≤ b.length ∧ p + ((b.drop p).takeWhile yL).length = at_ + ((b.drop at_).takeWhile yL).length) (fun p hp => ?_) at_ ⟨Nat.le_refl _, ha, rfl⟩
  obtain ⟨h1, h2, h3⟩ := hp
  cases hd : b.drop p with
  | nil =>
   have h4 : ¬ p < b.length := by have := wb hd h2; omega
   rw [hd] at h3
   refine k.eval (by simp (disch := first | exact dis | fail) only [go_sem, seval, -reduceOfNat, -reduceNegSucc, rdr, cend, f33, h4]; exact rfl) ?_
   try simp only [za, zj, Cut]
   refine k.gcs (keep := []) (live := [3, 0]) (md := true) ?_
   simp (disch := first | exact dis | fail) only [go_sem, seval, -reduceOfNat, -reduceNegSucc, rdr, ← h3]
   try simp
  | cons c r =>
   obtain ⟨h4, h5⟩ := qw hd
   have hc : c < 256 := hb c (List.mem_of_mem_drop (by rw [hd]; simp))
   have hsc := fun s => hsym hc s
   cases hs : yL c with
   | false =>
    rw [hd, List.takeWhile_cons, hs] at h3
    refine k.eval (by simp (disch := first | exact dis | fail) only [go_sem, seval, -reduceOfNat, -reduceNegSucc, rdr, cend, f33, h4, hd, hsc, hs]; exact rfl) ?_
    try simp only [za, zj, Cut]
    refine k.gcs (keep := []) (live := [3, 0]) (md := true) ?_
    simp (disch := first | exact dis | fail) only [go_sem, seval, -reduceOfNat, -reduceNegSucc, rdr, ← h3]
    try simp
   | true =>
    rw [hd, List.takeWhile_cons, hs] at h3
    refine k.eval (by simp (disch := first | exact dis | fail) only [go_sem, seval, -reduceOfNat, -reduceNegSucc, rdr, cend, f33, h4, hd, hsc, hs]; exact rfl) ?_
    try simp only [za]
    refine ⟨p + 1, ⟨by omega, by omega, ?_⟩, by omega, ?_⟩
    ·rw [h5]; simp at h3; omega
    ·
     refine k.gcs (keep := []) (live := [3, 0]) (md := true) ?_
     simp (disch := first | exact dis | fail) only [go_sem, seval, -reduceOfNat, -reduceNegSucc, rdr]
 ·have e1 : (b.drop at_).take ((b.drop at_).takeWhile yL).length = (b.drop at_).takeWhile yL := kD _ _
  have e2 := (hb.drop at_).tw yL
  refine zd (k.eval (by simp (disch := first | exact dis | fail) only [go_sem, seval, -reduceOfNat, -reduceNegSucc, rdr, e1]; exact rfl) ?_)
  simp only [za]
  refine k.eval (by simp (disch := first | exact dis | fail) only [go_sem, seval, -reduceOfNat, -reduceNegSucc]; exact rfl) ?_
  try simp only [za, zj, Cut, if_true]
  apply ze (Or.inr rfl)
  iterate 5 (simp (disch := first | exact dis | fail) only [go_sem, seval, -reduceOfNat, -reduceNegSucc, rdr] <;> exact rfl)
noncomputable def gRun : List AV → St → Option (AV × St) := gM PreR runF
theorem JW {P : Program} {w0 : World} (B : Bx P w0) {O : Orc} (hO : OrcOk P w0 O) (h58 : O 33 = none) (hs0 : O 67 = some (qr yL)) : OrcOk P w0 (withG 69 gRun O) :=
 wN hO (fun b p _ => rfl) fun b p hx => zvg B hO h58 hs0 b p hx
def jw (l : List Nat) : AV := match decR l with
 | some q => .tup [.int .i64 (.ofNat q.1), .int .i64 (.ofNat q.2), .int .i64 (.ofNat 0)]
 | none => .tup [.int .i64 (.ofNat 0), .int .i64 (.ofNat 0), .int .i64 (.ofNat 4)]
theorem Vu (l : List Nat) : zD (jw l) = true := by
 unfold jw; split <;> simp only [yF, zB, yu, zI, Bool.and_self]
theorem wU {l : List Nat} (hl : l ≠ []) {q : Nat × Nat} (h : decR l = some q) : 1 ≤ q.2 ∧ q.2 ≤ l.length ∧ zX q.1 = true := by
 unfold decR at h
 split at h
 ·cases h
 ·cases h; exact ZL hl
noncomputable def Yv : List AV → St → Option (AV × St) := orc0 uU zwt (fun x => jw (x.1.drop x.2))
theorem Ky {O : Orc} (h : O 106 = some Yv) {b : List Nat} {i : Nat} (h1 : Byt b) (h2 : i < b.length) (h3 : b.length < 1000000) (e : Bool) (s : St) : (evW env O).call 106 [.lst b.length e (zh b), .int .i64 (.ofNat i)] s = some (jw (b.drop i), s) := by
 rw [zJ h, Yv, yM Gz s (b, i) ⟨h1, h2, h3⟩ (by simp only [uU, wkL, wkV, x3])]
theorem zxs {P : Program} {w0 : World} (B : Bx P w0) {O : Orc} (hO : OrcOk P w0 O) (o101 : O 101 = none) (h100 : O 100 = some gDr) (b : List Nat) (i : Nat) (hb : Byt b) (hi : i < b.length) (hlb : b.length < 1000000) :
  SC P w0 106 (uU (b, i)) (H [] 0 true) (jw (b.drop i)) (H [] 0 true) := by
 refine Is.sc hO B.mixed B.glob B.env 0 (show env.funs.get 106 = some f106 from rfl) (Nat.le_of_ble_eq_true rfl) xf fun C k => ?_
 have cw := @zQ env O _ _ o101 (show env.funs.get 101 = some f101 from rfl) rfl
 have hne : b.drop i ≠ [] := fun e => by have := congrArg List.length e; rw [List.length_drop] at this; simp at this; omega
 have hdr := fun e s => zyQ (O := O) h100 (l := b.drop i) hne (hb.drop i) (by rw [List.length_drop]; omega) (n := b.length - i) (by rw [List.length_drop]) e s
 have hsz := ZL hne
 rw [List.length_drop] at hsz
 have hc1 := (zf.1 hsz.2.2).1
 simp only [zM] at hdr
 unfold f106
 simp only [Ko, Kg, Ki]
 cases hR : decR (b.drop i) with
 | none =>
  have hw : (decL (b.drop i)).1 = 65533 ∧ (decL (b.drop i)).2 ≤ 1 := by
   unfold decR at hR; split at hR
   ·assumption
   ·cases hR
  obtain ⟨w1, w2⟩ := hw
  rw [w1] at hdr
  refine zd (k.eval (by simp (disch := first | exact dis | fail) only [go_sem, seval, -reduceOfNat, -reduceNegSucc, uU]; exact rfl) ?_)
  simp only [za]
  refine zd (k.eval (by simp (disch := first | exact dis | fail) only [go_sem, seval, -reduceOfNat, -reduceNegSucc, hi]; exact rfl) ?_)
  simp only [za]
  refine zd (k.eval (by simp (disch := first | exact dis | fail) only [go_sem, seval, -reduceOfNat, -reduceNegSucc, hdr]; exact rfl) ?_)
  simp only [za]
  refine k.eval (by simp (disch := first | exact dis | fail) only [go_sem, seval, -reduceOfNat, -reduceNegSucc, cw, f101]; exact rfl) ?_
  try simp only [za, zj, Cut, if_true]
  apply ze (Or.inr rfl)
  iterate 5 (simp (disch := first | exact dis | fail) only [go_sem, seval, -reduceOfNat, -reduceNegSucc, jw, hR] <;> exact rfl)
 | some q =>
  obtain ⟨c, z⟩ := q
  have hw : decL (b.drop i) = (c, z) ∧ ¬ (c = 65533 ∧ z ≤ 1) := by
   unfold decR at hR; split at hR
   ·cases hR
   ·rename_i h
    have := Option.some.inj hR
    rw [this] at h; exact ⟨this, h⟩
  obtain ⟨w1, w2⟩ := hw
  rw [w1] at hdr hsz hc1
  simp only at hdr hsz hc1
  by_cases h3 : c = 65533
  ·subst h3
   have h4 : ¬ z ≤ 1 := fun h => w2 ⟨rfl, h⟩
   refine zd (k.eval (by simp (disch := first | exact dis | fail) only [go_sem, seval, -reduceOfNat, -reduceNegSucc, uU]; exact rfl) ?_)
   simp only [za]
   refine zd (k.eval (by simp (disch := first | exact dis | fail) only [go_sem, seval, -reduceOfNat, -reduceNegSucc, hi]; exact rfl) ?_)
   simp only [za]
   refine zd (k.eval (by simp (disch := first | exact dis | fail) only [go_sem, seval, -reduceOfNat, -reduceNegSucc, hdr]; exact rfl) ?_)
   simp only [za]
   refine k.eval (by simp (disch := first | exact dis | fail) only [go_sem, seval, -reduceOfNat, -reduceNegSucc, cw, f101]; exact rfl) ?_
   try simp only [za, zj, Cut, if_true]
   apply ze (Or.inr rfl)
   iterate 5 (simp (disch := first | exact dis | fail) only [go_sem, seval, -reduceOfNat, -reduceNegSucc, jw, hR] <;> exact rfl)
  ·
   refine zd (k.eval (by simp (disch := first | exact dis | fail) only [go_sem, seval, -reduceOfNat, -reduceNegSucc, uU]; exact rfl) ?_)
   simp only [za]
   refine zd (k.eval (by simp (disch := first | exact dis | fail) only [go_sem, seval, -reduceOfNat, -reduceNegSucc, hi]; exact rfl) ?_)
   simp only [za]
   refine zd (k.eval (by simp (disch := first | exact dis | fail) only [go_sem, seval, -reduceOfNat, -reduceNegSucc, hdr]; exact rfl) ?_)
   simp only [za]
   refine k.eval (by simp (disch := first | exact dis | fail) only [go_sem, seval, -reduceOfNat, -reduceNegSucc, cw, f101, h3]; exact rfl) ?_
   try simp only [za, zj, Cut, if_true]
   apply ze (Or.inr rfl)
   iterate 5 (simp (disch := first | exact dis | fail) only [go_sem, seval, -reduceOfNat, -reduceNegSucc, jw, hR] <;> exact rfl)
theorem Vc {P : Program} {w0 : World} (B : Bx P w0) {O : Orc} (hO : OrcOk P w0 O) (o101 : O 101 = none) (h100 : O 100 = some gDr) : OrcOk P w0 (withG 106 Yv O) :=
 hO.withG yV (wP true Vt (fun x => Vu _) fun x hx => ⟨_, zxs B hO o101 h100 x.1 x.2 hx.1 hx.2.1 hx.2.2⟩)
def u4 (b : List Nat) (p : Nat) : AV × Nat := match decR (b.drop p) with
 | some q => (.tup [.int .i32 (.ofNat q.1), flt (0, 0)], p + q.2)
 | none => (.tup [.int .i32 (.ofNat 0), flt (4, p)], p)
def PreC (x : List Nat × Nat) : Prop := Byt x.1 ∧ x.1.length < 1000000 ∧ x.2 < x.1.length
theorem QR (b : List Nat) (p : Nat) : zD (u4 b p).1 = true := by
 unfold u4; split <;> simp only [yF, zB, yu, zI, Bool.and_self, wL]
theorem zy3 {P : Program} {w0 : World} (B : Bx P w0) {O : Orc} (hO : OrcOk P w0 O) (o1 : O 70 = none) (o2 : O 35 = none) (h1 : O 106 = some Yv) (b : List Nat) (p : Nat) (hp : PreC (b, p)) :
  SC P w0 87 [.ptr 0 0] (H [some (rdr b p)] 0 true) (u4 b p).1 (H [some (rdr b (u4 b p).2)] 1 true) := by
 obtain ⟨hb, hl, hi⟩ := hp
 simp only at hb hl hi
 refine Is.sc hO B.mixed B.glob B.env 1 (show env.funs.get 87 = some f87 from rfl) (Nat.le_of_ble_eq_true rfl) (qI rfl) fun C k => ?_
 have cf := @zQ env O _ _ o1 (show env.funs.get 70 = some f70 from rfl) rfl
 have cn := @zQ env O _ _ o2 (show env.funs.get 35 = some f35 from rfl) rfl
 have hg := fun e s => Ky (O := O) h1 hb hi hl e s
 have hne : b.drop p ≠ [] := fun e => by have := congrArg List.length e; rw [List.length_drop] at this; simp at this; omega
 unfold f87
 simp only [Ko, Kn, Kd, Ki]
 cases hR : decR (b.drop p) with
 | none =>
  simp only [jw, hR] at hg
  refine zd (k.eval (by simp (disch := first | exact dis | fail) only [go_sem, seval, -reduceOfNat, -reduceNegSucc, rdr]; exact rfl) ?_)
  simp only [za]
  refine zd (k.eval (by simp (disch := first | exact dis | fail) only [go_sem, seval, -reduceOfNat, -reduceNegSucc, hg]; exact rfl) ?_)
  simp only [za]
  refine k.eval (by simp (disch := first | exact dis | fail) only [go_sem, seval, -reduceOfNat, -reduceNegSucc, cf, f70]; exact rfl) ?_
  try simp only [za, zj, Cut, if_true]
  apply ze (Or.inr rfl)
  iterate 5 (simp (disch := first | exact dis | fail) only [go_sem, seval, -reduceOfNat, -reduceNegSucc, rdr, u4, hR, flt] <;> exact rfl)
 | some q =>
  obtain ⟨c, z⟩ := q
  obtain ⟨f1, f2, f3⟩ := wU hne hR
  rw [List.length_drop] at f2
  simp only at f1 f2 f3
  have hc1 := (zf.1 f3).1
  simp only [jw, hR] at hg
  refine zd (k.eval (by simp (disch := first | exact dis | fail) only [go_sem, seval, -reduceOfNat, -reduceNegSucc, rdr]; exact rfl) ?_)
  simp only [za]
  refine zd (k.eval (by simp (disch := first | exact dis | fail) only [go_sem, seval, -reduceOfNat, -reduceNegSucc, hg]; exact rfl) ?_)
  simp only [za]
  refine zd (k.eval (by simp (disch := first | exact dis | fail) only [go_sem, seval, -reduceOfNat, -reduceNegSucc]; exact rfl) ?_)
  simp only [za]
  refine zd (k.eval (by simp (disch := first | exact dis | fail) only [go_sem, seval, -reduceOfNat, -reduceNegSucc]; exact rfl) ?_)
  simp only [za]
  refine k.eval (by simp (disch := first | exact dis | fail) only [go_sem, seval, -reduceOfNat, -reduceNegSucc, cn, f35]; exact rfl) ?_
  try simp only [za, zj, Cut, if_true]
  apply ze (Or.inr rfl)
  iterate 5 (simp (disch := first | exact dis | fail) only [go_sem, seval, -reduceOfNat, -reduceNegSucc, rdr, u4, hR, flt] <;> exact rfl)
noncomputable def jz : List AV → St → Option (AV × St) := gM PreC u4
theorem QD {P : Program} {w0 : World} (B : Bx P w0) {O : Orc} (hO : OrcOk P w0 O) (o1 : O 70 = none) (o2 : O 35 = none) (h1 : O 106 = some Yv) : OrcOk P w0 (withG 87 jz O) :=
 wN hO (fun b p _ => QR b p) fun b p hx => zy3 B hO o1 o2 h1 b p hx
set_option maxRecDepth 100000
def frow : AObj := .row 34 [.int .i64 (.ofNat 0), .int .i64 (.ofNat 0)] false false
theorem v7 {b : List Nat} {p : Nat} (h : decR (b.drop p) = none) : u4 b p = (.tup [.int .i32 (.ofNat 0), flt (4, p)], p) := by unfold u4; rw [h]
theorem ui {b : List Nat} {p : Nat} {q : Nat × Nat} (h : decR (b.drop p) = some q) : u4 b p = (.tup [.int .i32 (.ofNat q.1), flt (0, 0)], p + q.2) := by unfold u4; rw [h]
def wC (b : List Nat) : Nat → Nat → Option Nat × Nat
 | 0, p => (none, p)
 | k + 1, p => match b.drop p with
  | [] => (none, p)
  | c :: _ => if c = 10 then (none, p) else match decR (b.drop p) with
   | none => (some p, p)
   | some q => wC b k (p + q.2)
def gK (b : List Nat) (p : Nat) : AV × Nat := (match (wC b (b.length + 1) p).1 with
 | none => flt (0, 0)
 | some q => flt (4, q), (wC b (b.length + 1) p).2)
theorem QK (b : List Nat) (p : Nat) : zD (gK b p).1 = true := by
 unfold gK; split <;> exact wL _
theorem zye {P : Program} {w0 : World} (B : Bx P w0) {O : Orc} (hO : OrcOk P w0 O) (o1 : O 33 = none) (o2 : O 35 = none) (h1 : O 87 = some jz) (b : List Nat) (p0 : Nat) (hp : PreR (b, p0)) :
  SC P w0 61 [.ptr 0 0] (H [some (rdr b p0)] 0 true) (gK b p0).1 (H [some (rdr b (gK b p0).2)] 1 true) := by
 obtain ⟨hb, hl, hi⟩ := hp
 simp only at hb hl hi
 refine Is.sc hO B.mixed B.glob B.env 1 (show env.funs.get 61 = some f61 from rfl) (Nat.le_of_ble_eq_true rfl) (qI rfl) fun C k => ?_
 have cend := @zQ env O _ _ o1 (show env.funs.get 33 = some f33 from rfl) rfl
 have cn := @zQ env O _ _ o2 (show env.funs.get 35 = some f35 from rfl) rfl
 unfold f61
 simp only [Ko, Kn, Kd, Ke, Ki]
 refine zd (k.eval (by simp (disch := first | exact dis | fail) only [go_sem, seval, -reduceOfNat, -reduceNegSucc, rdr]; exact rfl) ?_)
 simp only [za]
 refine wI (fun q => wC b (b.length + 1) p0 = (none, q)) (fun _ => ⟨tmL [(2, .ptr 1 0), (0, .ptr 0 0)], []⟩) (fun q => H [some (rdr b q), some frow] 1 true) (zW (yb (k.gcL [1] [2, 0] true (fr1 := ⟨tmL [(2, .ptr 1 0), (0, .ptr 0 0)], []⟩) (s1 := H [some (rdr b p0), some frow] 1 true) (by simp (disch := first | exact dis | fail) only [go_sem, seval, -reduceOfNat, -reduceNegSucc, rdr, frow]) ?_))) ?_
 ·refine yh (fun x : Nat × Nat => x.1) (fun _ => ⟨tmL [(2, .ptr 1 0), (0, .ptr 0 0)], []⟩) (fun x => H [some (rdr b x.2), some frow] 1 true) (fun x => wC b x.1 x.2 = wC b (b.length + 1) p0 ∧ b.length < x.1 + x.2 ∧ x.2 ≤ b.length) (fun x hx => ?_) (b.length + 1, p0) ⟨rfl, by simp only; omega, hi⟩
  obtain ⟨kk, p⟩ := x
  obtain ⟨g1, g2, g3⟩ := hx
  simp only at g1 g2 g3 ⊢
  cases kk with
  | zero => omega
  | succ kk =>
  rw [wC] at g1
  cases hd : b.drop p with
  | nil =>
   have h4 : ¬ p < b.length := by have := wb hd g3; omega
   rw [hd] at g1
   refine k.eval (by simp (disch := first | exact dis | fail) only [go_sem, seval, -reduceOfNat, -reduceNegSucc, rdr, frow, cend, f33, h4]; exact rfl) ?_
   try simp only [za, zj]
   simp only [Gcx]
   refine ⟨p, g1.symm, ?_⟩
   refine k.gcs (keep := [1]) (live := [2, 0]) (md := true) ?_
   simp (disch := first | exact dis | fail) only [go_sem, seval, -reduceOfNat, -reduceNegSucc, rdr, frow]
  | cons c r =>
   obtain ⟨h4, h5⟩ := qw hd
   have hc : c < 256 := hb c (List.mem_of_mem_drop (by rw [hd]; simp))
   have hch := fun (l : List (Nat × Option AObj)) n m md => xN h1 (b := b) (p := p) (show PreC (b, p) from ⟨hb, hl, h4⟩) false l n m md 0
   simp only [hd] at g1
   by_cases h10 : c = 10
   ·subst h10
    rw [if_pos rfl] at g1
    refine k.eval (by simp (disch := first | exact dis | fail) only [go_sem, seval, -reduceOfNat, -reduceNegSucc, rdr, frow, cend, f33, h4, hd]; exact rfl) ?_
    try simp only [za, zj]
    simp only [Gcx]
    refine ⟨p, g1.symm, ?_⟩
    refine k.gcs (keep := [1]) (live := [2, 0]) (md := true) ?_
    simp (disch := first | exact dis | fail) only [go_sem, seval, -reduceOfNat, -reduceNegSucc, rdr, frow]
   ·rw [if_neg h10] at g1
    cases hR : decR (c :: r) with
    | none =>
     rw [hR] at g1
     have hcF := v7 (b := b) (p := p) (by rw [hd]; exact hR)
     simp only [hcF] at hch
     refine k.eval (by simp (disch := first | exact dis | fail) only [go_sem, seval, -reduceOfNat, -reduceNegSucc, rdr, frow, cend, f33, h4, hd, h10, hch, flt]; exact rfl) ?_
     try simp only [za, zj]
     apply ze (Or.inr rfl)
     iterate 5 (simp (disch := first | exact dis | fail) only [go_sem, seval, -reduceOfNat, -reduceNegSucc, rdr, gK, ← g1, flt] <;> exact rfl)
    | some q =>
     obtain ⟨f1, f2, f3⟩ := wU (by simp) hR
     have := Hs hd
     simp only [List.length_cons] at f2
     rw [hR] at g1
     have hcF := ui (b := b) (p := p) (by rw [hd]; exact hR)
     simp only [hcF] at hch
     refine k.eval (by simp (disch := first | exact dis | fail) only [go_sem, seval, -reduceOfNat, -reduceNegSucc, rdr, frow, cend, f33, h4, hd, h10, hch, flt]; exact rfl) ?_
     try simp only [za]
     refine ⟨(kk, p + q.2), ⟨g1, by simp only; omega, by simp only; omega⟩, Nat.lt_succ_self _, ?_⟩
     refine k.gcs (keep := [1]) (live := [2, 0]) (md := true) ?_
     simp (disch := first | exact dis | fail) only [go_sem, seval, -reduceOfNat, -reduceNegSucc, rdr, frow]
 ·intro q hq
  refine zd (k.eval (by simp (disch := first | exact dis | fail) only [go_sem, seval, -reduceOfNat, -reduceNegSucc, rdr, frow, cn, f35]; exact rfl) ?_)
  simp only [za]
  refine k.eval (by simp (disch := first | exact dis | fail) only [go_sem, seval, -reduceOfNat, -reduceNegSucc]; exact rfl) ?_
  try simp only [za, zj, Cut, if_true]
  apply ze (Or.inr rfl)
  iterate 5 (simp (disch := first | exact dis | fail) only [go_sem, seval, -reduceOfNat, -reduceNegSucc, rdr, gK, hq, flt] <;> exact rfl)
noncomputable def Uv : List AV → St → Option (AV × St) := gM PreR gK
theorem Vm {P : Program} {w0 : World} (B : Bx P w0) {O : Orc} (hO : OrcOk P w0 O) (o1 : O 33 = none) (o2 : O 35 = none) (h1 : O 87 = some jz) : OrcOk P w0 (withG 61 Uv O) :=
 wN hO (fun b p _ => QK b p) fun b p hx => zye B hO o1 o2 h1 b p hx
def wy (b : List Nat) (first : Nat) : Nat → Nat → Nat → (Nat × Nat) × Nat
 | 0, p, _ => ((4, first), p)
 | k + 1, p, d => if b.drop p = [] then ((4, first), p) else if bgR b p [35, 124] = true then (if d = 200 then ((5, p), p) else wy b first k (p + 2) (d + 1))
  else if bgR b p [124, 35] = true then (if d = 1 then ((0, 0), p + 2) else wy b first k (p + 2) (d - 1))
  else match decR (b.drop p) with
   | none => ((4, p), p)
   | some q => wy b first k (p + q.2) d
def hH (b : List Nat) (p : Nat) : AV × Nat := (flt (wy b p (b.length + 1) p 0).1, (wy b p (b.length + 1) p 0).2)
def PreN (x : List Nat × Nat) : Prop := PreR x ∧ bgR x.1 x.2 [35, 124] = true
theorem uV {b : List Nat} {p x y : Nat} (h : bgR b p [x, y] = true) : p + 2 ≤ b.length := by
 have := of_decide_eq_true h
 have := congrArg List.length this
 simp at this; omega
theorem KO {P : Program} {w0 : World} (B : Bx P w0) {O : Orc} (hO : OrcOk P w0 O) (o1 : O 33 = none) (o2 : O 35 = none) (o3 : O 70 = none) (h1 : O 87 = some jz) (h2 : O 62 = some gBg) (b : List Nat) (p0 : Nat) (hp : PreN (b, p0)) :
  SC P w0 63 [.ptr 0 0] (H [some (rdr b p0)] 0 true) (hH b p0).1 (H [some (rdr b (hH b p0).2)] 1 true) := by
 obtain ⟨⟨hb, hl, hi⟩, hbg0⟩ := hp
 simp only at hb hl hi hbg0
 refine Is.sc hO B.mixed B.glob B.env 1 (show env.funs.get 63 = some f63 from rfl) (Nat.le_of_ble_eq_true rfl) (qI rfl) fun C k => ?_
 have cend := @zQ env O _ _ o1 (show env.funs.get 33 = some f33 from rfl) rfl
 have cn := @zQ env O _ _ o2 (show env.funs.get 35 = some f35 from rfl) rfl
 have cf := @zQ env O _ _ o3 (show env.funs.get 70 = some f70 from rfl) rfl
 unfold f63
 simp only [Ko, Kn, Ki]
 refine zd (k.eval (by simp (disch := first | exact dis | fail) only [go_sem, seval, -reduceOfNat, -reduceNegSucc, rdr]; exact rfl) ?_)
 simp only [za]
 refine zd (k.eval (by simp (disch := first | exact dis | fail) only [go_sem, seval, -reduceOfNat, -reduceNegSucc]; exact rfl) ?_)
 simp only [za]
 refine wI (fun q => wy b p0 (b.length + 1) p0 0 = ((4, p0), q)) (fun _ => ⟨tmL [(3, .int .i64 (.ofNat p0)), (2, .ptr 1 0), (0, .ptr 0 0)], []⟩) (fun q => H [some (rdr b q), some frow] 1 true) (zW (yb (k.gcL [1] [4, 3, 2, 0] true (fr1 := ⟨tmL [(4, .int .i64 (.ofNat 0)), (3, .int .i64 (.ofNat p0)), (2, .ptr 1 0), (0, .ptr 0 0)], []⟩) (s1 := H [some (rdr b p0), some frow] 1 true) (by simp (disch := first | exact dis | fail) only [go_sem, seval, -reduceOfNat, -reduceNegSucc, rdr, frow]) ?_))) ?_
 ·refine yh (fun x : Nat × Nat × Nat => x.1) (fun x => ⟨tmL [(4, .int .i64 (.ofNat x.2.2)), (3, .int .i64 (.ofNat p0)), (2, .ptr 1 0), (0, .ptr 0 0)], []⟩) (fun x => H [some (rdr b x.2.1), some frow] 1 true) (fun x => wy b p0 x.1 x.2.1 x.2.2 = wy b p0 (b.length + 1) p0 0 ∧ b.length < x.1 + x.2.1 ∧ x.2.1 ≤ b.length ∧ (x.2.2 = 0 → bgR b x.2.1 [35, 124] = true) ∧ x.2.2 ≤ 200) (fun x hx => ?_) (b.length + 1, p0, 0) ⟨rfl, by simp only; omega, hi, fun _ => hbg0, Nat.zero_le _⟩
  obtain ⟨kk, p, d⟩ := x
  obtain ⟨g1, g2, g3, g4, g5⟩ := hx
  simp only at g1 g2 g3 g4 g5 ⊢
  cases kk with
  | zero => omega
  | succ kk =>
  rw [wy] at g1
  by_cases h4 : p < b.length
  ·have hne : b.drop p ≠ [] := fun e => by have := congrArg List.length e; rw [List.length_drop] at this; simp at this; omega
   rw [if_neg hne] at g1
   have hc1 := fun (l : List (Nat × Option AObj)) n m md => u3 h2 (b := b) (p := p) (s := [35, 124]) (show pT ((b, p), [35, 124]) from ⟨⟨hb, hl, g3⟩, by simp, fun x hx => by simp at hx; omega⟩) false l n m md 0
   have hc2 := fun (l : List (Nat × Option AObj)) n m md => u3 h2 (b := b) (p := p) (s := [124, 35]) (show pT ((b, p), [124, 35]) from ⟨⟨hb, hl, g3⟩, by simp, fun x hx => by simp at hx; omega⟩) false l n m md 0
   have hch := fun (l : List (Nat × Option AObj)) n m md => xN h1 (b := b) (p := p) (show PreC (b, p) from ⟨hb, hl, h4⟩) false l n m md 0
   cases hA : bgR b p [35, 124] with
   | true =>
    have hA2 := uV hA
    rw [if_pos hA] at g1
    rw [hA] at hc1
    by_cases h200 : d = 200
    ·subst h200
     rw [if_pos rfl] at g1
     refine k.eval (by simp (disch := first | exact dis | fail) only [go_sem, seval, -reduceOfNat, -reduceNegSucc, rdr, frow, cend, f33, h4, hc1]; exact rfl) ?_
     try simp only [za, zj]
     apply ze (Or.inr rfl)
     iterate 5 (simp (disch := first | exact dis | fail) only [go_sem, seval, -reduceOfNat, -reduceNegSucc, rdr, hH, ← g1, flt] <;> exact rfl)
    ·rw [if_neg h200] at g1
     refine k.eval (by simp (disch := first | exact dis | fail) only [go_sem, seval, -reduceOfNat, -reduceNegSucc, rdr, frow, cend, f33, h4, hc1, h200]; exact rfl) ?_
     try simp only [za]
     refine ⟨(kk, p + 2, d + 1), ⟨g1, by simp only; omega, by simp only; omega, fun e => by simp only at e; omega, by simp only; omega⟩, Nat.lt_succ_self _, ?_⟩
     refine k.gcs (keep := [1]) (live := [4, 3, 2, 0]) (md := true) ?_
     simp (disch := first | exact dis | fail) only [go_sem, seval, -reduceOfNat, -reduceNegSucc, rdr, frow]
   | false =>
    rw [if_neg (by rw [hA]; simp)] at g1
    rw [hA] at hc1
    have hd0 : d ≠ 0 := fun e => by have := g4 e; rw [hA] at this; cases this
    obtain ⟨d, rfl⟩ : ∃ d', d = d' + 1 := ⟨d - 1, by omega⟩
    cases hA' : bgR b p [124, 35] with
    | true =>
     have hA2 := uV hA'
     rw [if_pos hA'] at g1
     rw [hA'] at hc2
     cases d with
     | zero =>
      rw [if_pos rfl] at g1
      refine k.eval (by simp (disch := first | exact dis | fail) only [go_sem, seval, -reduceOfNat, -reduceNegSucc, rdr, frow, cend, f33, h4, hc1, hc2, cn, f35]; exact rfl) ?_
      try simp only [za, zj]
      apply ze (Or.inr rfl)
      iterate 5 (simp (disch := first | exact dis | fail) only [go_sem, seval, -reduceOfNat, -reduceNegSucc, rdr, hH, ← g1, flt] <;> exact rfl)
     | succ d =>
      rw [if_neg (by omega)] at g1
      have e1 : d + 1 + 1 - 1 = d + 1 := by omega
      rw [e1] at g1
      refine k.eval (by simp (disch := first | exact dis | fail) only [go_sem, seval, -reduceOfNat, -reduceNegSucc, rdr, frow, cend, f33, h4, hc1, hc2]; exact rfl) ?_
      try simp only [za]
      refine ⟨(kk, p + 2, d + 1), ⟨g1, by simp only; omega, by simp only; omega, fun e => by simp only at e; omega, by simp only; omega⟩, Nat.lt_succ_self _, ?_⟩
      refine k.gcs (keep := [1]) (live := [4, 3, 2, 0]) (md := true) ?_
      simp (disch := first | exact dis | fail) only [go_sem, seval, -reduceOfNat, -reduceNegSucc, rdr, frow]
    | false =>
     rw [if_neg (by rw [hA']; simp)] at g1
     rw [hA'] at hc2
     cases hR : decR (b.drop p) with
     | none =>
      rw [hR] at g1
      simp only [v7 hR] at hch
      refine k.eval (by simp (disch := first | exact dis | fail) only [go_sem, seval, -reduceOfNat, -reduceNegSucc, rdr, frow, cend, f33, h4, hc1, hc2, hch, flt]; exact rfl) ?_
      try simp only [za, zj]
      apply ze (Or.inr rfl)
      iterate 5 (simp (disch := first | exact dis | fail) only [go_sem, seval, -reduceOfNat, -reduceNegSucc, rdr, hH, ← g1, flt] <;> exact rfl)
     | some q =>
      obtain ⟨f1, f2, f3⟩ := wU hne hR
      rw [List.length_drop] at f2
      rw [hR] at g1
      simp only [ui hR] at hch
      refine k.eval (by simp (disch := first | exact dis | fail) only [go_sem, seval, -reduceOfNat, -reduceNegSucc, rdr, frow, cend, f33, h4, hc1, hc2, hch, flt]; exact rfl) ?_
      try simp only [za]
      refine ⟨(kk, p + q.2, d + 1), ⟨g1, by simp only; omega, by simp only; omega, fun e => by simp only at e; omega, g5⟩, Nat.lt_succ_self _, ?_⟩
      refine k.gcs (keep := [1]) (live := [4, 3, 2, 0]) (md := true) ?_
      simp (disch := first | exact dis | fail) only [go_sem, seval, -reduceOfNat, -reduceNegSucc, rdr, frow]
  ·have hnil : b.drop p = [] := List.drop_eq_nil_of_le (by omega)
   rw [if_pos hnil] at g1
   refine k.eval (by simp (disch := first | exact dis | fail) only [go_sem, seval, -reduceOfNat, -reduceNegSucc, rdr, frow, cend, f33, h4]; exact rfl) ?_
   try simp only [za, zj]
   simp only [Gcx]
   refine ⟨p, g1.symm, ?_⟩
   refine k.gcs (keep := [1]) (live := [3, 2, 0]) (md := true) ?_
   simp (disch := first | exact dis | fail) only [go_sem, seval, -reduceOfNat, -reduceNegSucc, rdr, frow]
 ·intro q hq
  refine zd (k.eval (by simp (disch := first | exact dis | fail) only [go_sem, seval, -reduceOfNat, -reduceNegSucc, rdr, frow, cf, f70]; exact rfl) ?_)
  simp only [za]
  refine k.eval (by simp (disch := first | exact dis | fail) only [go_sem, seval, -reduceOfNat, -reduceNegSucc]; exact rfl) ?_
  try simp only [za, zj, Cut, if_true]
  apply ze (Or.inr rfl)
  iterate 5 (simp (disch := first | exact dis | fail) only [go_sem, seval, -reduceOfNat, -reduceNegSucc, rdr, hH, hq, flt] <;> exact rfl)
noncomputable def Uy : List AV → St → Option (AV × St) := gM PreN hH
theorem YF {P : Program} {w0 : World} (B : Bx P w0) {O : Orc} (hO : OrcOk P w0 O) (o1 : O 33 = none) (o2 : O 35 = none) (o3 : O 70 = none) (h1 : O 87 = some jz) (h2 : O 62 = some gBg) : OrcOk P w0 (withG 63 Uy O) :=
 wN hO (fun b p _ => wL _) fun b p hx => KO B hO o1 o2 o3 h1 h2 b p hx
set_option maxRecDepth 100000
def idxN : List Nat → Nat → Nat → Option Nat
 | [], _, _ => none
 | x :: r, c, i => if x = c then some i else idxN r c (i + 1)
theorem UK : ∀ {s : List Nat} {c i k : Nat}, idxN s c i = some k → i ≤ k ∧ k < i + s.length
 | [], _, _, _, h => by cases h
 | x :: r, c, i, k, h => by
  rw [idxN] at h
  simp only [List.length_cons]
  split at h
  ·cases h; omega
  ·have := UK h; omega
def uj : List Nat := [48, 49, 50, 51, 52, 53, 54, 55, 56, 57, 97, 98, 99, 100, 101, 102]
def Yy : List Nat := [40, 41, 39]
def ixB (s : List Nat) (c : Nat) : Int := match idxN s c 0 with
 | some k => .ofNat k
 | none => .negSucc 0
def Ug (x : List Nat × Nat) : List AV := [.str x.1, .int .u8 (.ofNat x.2)]
theorem Gn : ∀ x y, Ug x = Ug y → x = y := fun ⟨a, b⟩ ⟨c, d⟩ h => by
 simp only [Ug, List.cons.injEq, AV.str.injEq, AV.int.injEq, true_and, and_true] at h
 obtain ⟨h1, h2⟩ := h; cases h1; cases h2; rfl
def zvW (x : List Nat × Nat) : Prop := (x.1 = uj ∨ x.1 = Yy) ∧ x.2 < 256
noncomputable def gIxB : List AV → St → Option (AV × St) := orc0 Ug zvW (fun x => .int .i64 (ixB x.1 x.2))
theorem Wg {O : Orc} (h : O 64 = some gIxB) {s : List Nat} {c : Nat} (hs : s = uj ∨ s = Yy) (hc : c < 256) (st : St) : (evW env O).call 64 [.str s, .int .u8 (.ofNat c)] st = some (.int .i64 (ixB s c), st) := by
 rw [zJ h, gIxB, yM Gn st (s, c) ⟨hs, hc⟩ rfl]
theorem zvf : (List.range 256).all (fun c => okV (.int .i64 (ixB uj c)) ((evT env noO 1000).call 64 [.str uj, .int .u8 (.ofNat c)] s0)) = true := by decide +kernel
theorem zwC : (List.range 256).all (fun c => okV (.int .i64 (ixB Yy c)) ((evT env noO 1000).call 64 [.str Yy, .int .u8 (.ofNat c)] s0)) = true := by decide +kernel
theorem Pj {P : Program} {w0 : World} (B : Bx P w0) {O : Orc} (hO : OrcOk P w0 O) : OrcOk P w0 (withG 64 gIxB O) :=
 hO.withG yV (wP false (fun _ => rfl) (fun _ => rfl) fun x hx => by
  obtain ⟨s, c⟩ := x
  obtain ⟨hs, hc⟩ := hx
  rcases hs with e | e
  ·simp only at e; subst e; exact WF (xr P w0) B.mixed B.glob B.env (List.all_eq_true.1 zvf c (List.mem_range.2 hc))
  ·simp only at e; subst e; exact WF (xr P w0) B.mixed B.glob B.env (List.all_eq_true.1 zwC c (List.mem_range.2 hc)))
theorem or32 {a : Nat} (h : a < 256) : binI .or .u8 (.ofNat a) .u8 (.ofNat 32) = some (.int .u8 (.ofNat (a ||| 32))) := by
 have : ∀ a, a < 256 → bits .or .u8 (.ofNat a) (.ofNat 32) = some (.ofNat (a ||| 32)) := by decide +kernel
 show (match bits .or .u8 (.ofNat a) (.ofNat 32) with | some n => some (AV.int .u8 n) | none => none) = _
 rw [this a h]
theorem zxd {a : Nat} (h : a < 256) : a ||| 32 < 256 := Nat.or_lt_two_pow (n := 8) h (by decide)
theorem zwF (a b : Nat) : vMn false [.int .i64 (.ofNat a), .int .i64 (.ofNat b)] = some (.int .i64 (.ofNat (min a b))) := by
 show (bif ltI (.ofNat b) (.ofNat a) then some (AV.int .i64 (.ofNat b)) else some (AV.int .i64 (.ofNat a))) = _
 have hlt : ltI (.ofNat b) (.ofNat a) = decide (b < a) := by
  show Nat.blt b a = _
  cases h : Nat.blt b a with
  | true => exact (decide_eq_true (zP.1 h)).symm
  | false => exact (decide_eq_false fun h' => by rw [zP.2 h'] at h; cases h).symm
 rw [hlt]
 by_cases h : b < a
 ·rw [decide_eq_true h, cond_true, Nat.min_eq_right (by omega)]
 ·rw [decide_eq_false h, cond_false, Nat.min_eq_left (by omega)]
def hexL : Nat → List Nat → Option Nat
 | n, [] => some n
 | n, c :: r => match idxN uj (c ||| 32) 0 with
  | none => none
  | some k => if c < 48 then none else hexL (min (16 * n + k) 16777216) r
def hexR (s : List Nat) : AV := match hexL 0 s with
 | none => .tup [.int .i32 (.ofNat 0), .bool false]
 | some n => .tup [.int .i32 (.ofNat n), .bool (decide (s ≠ []) && zX n)]
theorem JE (s : List Nat) : zD (hexR s) = true := by
 unfold hexR; split <;> simp only [yF, zB, yu, wX, zI, Bool.and_self]
theorem Xh : ∀ {s : List Nat} {n m : Nat}, n ≤ 16777216 → hexL n s = some m → m ≤ 16777216
 | [], n, m, h, e => by cases e; exact h
 | c :: r, n, m, h, e => by
  rw [hexL] at e
  split at e
  ·cases e
  ·split at e
   ·cases e
   ·exact Xh (Nat.min_le_right _ _) e
theorem zvl {P : Program} {w0 : World} (B : Bx P w0) {O : Orc} (hO : OrcOk P w0 O) (h1 : O 64 = some gIxB) (h2 : O 51 = some gIs) (s : List Nat) (hb : Byt s) (hl : s.length < 1000000) :
  SC P w0 108 [.str s] (H [] 0 true) (hexR s) (H [] 0 true) := by
 refine Is.sc hO B.mixed B.glob B.env 0 (show env.funs.get 108 = some f108 from rfl) (Nat.le_of_ble_eq_true rfl) xf fun C k => ?_
 have hix := fun {c} hc st => @Wg O h1 [48, 49, 50, 51, 52, 53, 54, 55, 56, 57, 97, 98, 99, 100, 101, 102] c (.inl rfl) hc st
 have his := fun c st => @zxg O _ h2 c st
 unfold f108
 simp only [Ko, Kg, Ki]
 refine zd (k.eval (by simp (disch := first | exact dis | fail) only [go_sem, seval, -reduceOfNat, -reduceNegSucc]; exact rfl) ?_)
 simp only [za]
 refine zd (k.eval (by simp (disch := first | exact dis | fail) only [go_sem, seval, -reduceOfNat, -reduceNegSucc]; exact rfl) ?_)
 simp only [za]
 refine wI (fun n => hexL 0 s = some n) (fun n => ⟨tmL [(4, .int .i64 (.ofNat n)), (0, .str s)], []⟩) (fun _ => H [] 0 true) ?_ ?_
 ·
  refine zd (k.eval (by simp (disch := first | exact dis | fail) only [go_sem, seval, -reduceOfNat, -reduceNegSucc, Le]; exact rfl) ?_)
  simp only [za]
  refine zW (yb (k.gcL [] [11, 10, 9, 4, 0] true (fr1 := ⟨tmL [(11, .int .i64 (.ofNat 0)), (10, .int .i64 (.ofNat s.length)), (9, .lst s.length false (zh s)), (4, .int .i64 (.ofNat 0)), (0, .str s)], []⟩) (s1 := H [] 0 true) (by simp (disch := first | exact dis | fail) only [go_sem, seval, -reduceOfNat, -reduceNegSucc]) ?_))
  refine yh (fun x : Nat × Nat => s.length - x.1) (fun x => ⟨tmL [(11, .int .i64 (.ofNat x.1)), (10, .int .i64 (.ofNat s.length)), (9, .lst s.length false (zh s)), (4, .int .i64 (.ofNat x.2)), (0, .str s)], []⟩) (fun _ => H [] 0 true) (fun x => hexL x.2 (s.drop x.1) = hexL 0 s ∧ x.1 ≤ s.length ∧ x.2 ≤ 16777216) (fun x hx => ?_) (0, 0) ⟨rfl, Nat.zero_le _, Nat.zero_le _⟩
  obtain ⟨i, n⟩ := x
  obtain ⟨g1, g2, g3⟩ := hx
  simp only at g1 g2 g3 ⊢
  cases hd : s.drop i with
  | nil =>
   have h4 : ¬ i < s.length := by have := wb hd g2; omega
   rw [hd, hexL] at g1
   refine k.eval (by simp (disch := first | exact dis | fail) only [go_sem, seval, -reduceOfNat, -reduceNegSucc, h4]; exact rfl) ?_
   try simp only [za, zj]
   simp only [Gcx]
   refine ⟨n, g1.symm, ?_⟩
   refine k.gcs (keep := []) (live := [4, 0]) (md := true) ?_
   simp (disch := first | exact dis | fail) only [go_sem, seval, -reduceOfNat, -reduceNegSucc]
  | cons c r =>
   obtain ⟨h4, h5⟩ := qw hd
   have hc : c < 256 := hb c (List.mem_of_mem_drop (by rw [hd]; simp))
   have ho := zxd hc
   have hix := fun st => hix ho st
   have hor := or32 hc
   rw [hd, hexL] at g1
   cases hI : idxN uj (c ||| 32) 0 with
   | none =>
    rw [hI] at g1
    have e1 : ixB [48, 49, 50, 51, 52, 53, 54, 55, 56, 57, 97, 98, 99, 100, 101, 102] (c ||| 32) = .negSucc 0 := by
     show (match idxN uj (c ||| 32) 0 with | some k => Int.ofNat k | none => .negSucc 0) = _
     rw [hI]
    simp only [e1] at hix
    refine k.eval (by simp (disch := first | exact dis | fail) only [go_sem, seval, -reduceOfNat, -reduceNegSucc, h4, hd, hor, hix]; exact rfl) ?_
    try simp only [za, zj]
    apply ze (Or.inr rfl)
    iterate 5 (simp (disch := first | exact dis | fail) only [go_sem, seval, -reduceOfNat, -reduceNegSucc, hexR, ← g1] <;> exact rfl)
   | some kk =>
    have hk := UK hI
    simp only [uj, List.length_cons, List.length_nil] at hk
    rw [hI] at g1
    simp only at g1
    have e1 : ixB [48, 49, 50, 51, 52, 53, 54, 55, 56, 57, 97, 98, 99, 100, 101, 102] (c ||| 32) = .ofNat kk := by
     show (match idxN uj (c ||| 32) 0 with | some k => Int.ofNat k | none => .negSucc 0) = _
     rw [hI]
    simp only [e1] at hix
    by_cases h48 : c < 48
    ·rw [if_pos h48] at g1
     refine k.eval (by simp (disch := first | exact dis | fail) only [go_sem, seval, -reduceOfNat, -reduceNegSucc, h4, hd, hor, hix, h48]; exact rfl) ?_
     try simp only [za, zj]
     apply ze (Or.inr rfl)
     iterate 5 (simp (disch := first | exact dis | fail) only [go_sem, seval, -reduceOfNat, -reduceNegSucc, hexR, ← g1] <;> exact rfl)
    ·rw [if_neg h48] at g1
     refine k.eval (by simp (disch := first | exact dis | fail) only [go_sem, seval, -reduceOfNat, -reduceNegSucc, h4, hd, hor, hix, h48, zwF]; exact rfl) ?_
     try simp only [za]
     refine ⟨(i + 1, min (16 * n + kk) 16777216), ⟨by rw [← g1]; simp only [h5], by simp only; omega, Nat.min_le_right _ _⟩, by simp only; omega, ?_⟩
     refine k.gcs (keep := []) (live := [11, 10, 9, 4, 0]) (md := true) ?_
     simp (disch := first | exact dis | fail) only [go_sem, seval, -reduceOfNat, -reduceNegSucc]
 ·intro n hn
  have hn2 := Xh (Nat.zero_le _) hn
  cases s with
  | nil =>
   refine k.eval (by simp (disch := first | exact dis | fail) only [go_sem, seval, -reduceOfNat, -reduceNegSucc]; exact rfl) ?_
   try simp only [za, zj, Cut, if_true]
   apply ze (Or.inr rfl)
   iterate 5 (simp (disch := first | exact dis | fail) only [go_sem, seval, -reduceOfNat, -reduceNegSucc, hexR, hn, ne_eq, not_true_eq_false, decide_false, Bool.false_and] <;> exact rfl)
  | cons c r =>
   have hisn := fun st => his (.ofNat n) st
   simp only [isCh] at hisn
   refine k.eval (by simp (disch := first | exact dis | fail) only [go_sem, seval, -reduceOfNat, -reduceNegSucc, hisn]; exact rfl) ?_
   try simp only [za, zj, Cut, if_true]
   apply ze (Or.inr rfl)
   iterate 5 (simp (disch := first | exact dis | fail) only [go_sem, seval, -reduceOfNat, -reduceNegSucc, hexR, hn, ne_eq, reduceCtorEq, not_false_eq_true, decide_true, Bool.true_and] <;> exact rfl)
def pO (s : List Nat) : List AV := [.str s]
theorem Z1 : ∀ x y, pO x = pO y → x = y := fun x y h => by
 simp only [pO, List.cons.injEq, AV.str.injEq, and_true] at h; exact h
noncomputable def lh : List AV → St → Option (AV × St) := orc0 pO PreB hexR
theorem Ye {O : Orc} (h : O 108 = some lh) {s : List Nat} (h1 : Byt s) (h2 : s.length < 1000000) (st : St) : (evW env O).call 108 [.str s] st = some (hexR s, st) := by
 rw [zJ h, lh, yM Z1 st s ⟨h1, h2⟩ rfl]
theorem Vd {P : Program} {w0 : World} (B : Bx P w0) {O : Orc} (hO : OrcOk P w0 O) (h1 : O 64 = some gIxB) (h2 : O 51 = some gIs) : OrcOk P w0 (withG 108 lh O) :=
 hO.withG yV (wP true (fun s => by simp only [pO, zB, yZ, zI, Bool.and_self]) JE fun s hs => ⟨_, zvl B hO h1 h2 s hs.1 hs.2⟩)
set_option maxRecDepth 100000
def encP (x : List Nat × Nat) : Nat × List AV × List AV := (70, rowR x.1 x.2, [.int .i64 (.ofNat 0)])
theorem GN : ∀ x y, encP x = encP y → x = y := fun ⟨b, p⟩ ⟨c, q⟩ h => Yr _ _ (by
 simp only [encP, Prod.mk.injEq, true_and, and_true] at h
 simp only [ZI, h])
noncomputable def gPk : List AV → St → Option (AV × St) := orc1 encP PreR fun x => (.int .u8 (.ofNat (yo x.1 x.2)), rowR x.1 x.2)
theorem Y5 {O : Orc} (h : O 91 = some gPk) {b : List Nat} {p : Nat} (hp : PreR (b, p)) (e : Bool) (l : List (Nat × Option AObj)) (n m : Nat) (md : Bool) (id : Nat) (hg : getA l id = some (.row 70 [.lst b.length e (zh b), .int .i64 (.ofNat p)] false false)) :
  (evW env O).call 91 [.ptr id 0, .int .i64 (.ofNat 0)] (KL l n m md [] none) = some (.int .u8 (.ofNat (yo b p)), KL ((id, some (.row 70 [.lst b.length false (zh b), .int .i64 (.ofNat p)] false false)) :: l) n (mark m id) md [] none) := by
 rw [zJ h, gPk, qB, xj, hg, v6 GN _ _ (b, p) hp (by simp only [encP, rowR, wkL, wkV, x3])]
 rfl
theorem zxM {P : Program} {w0 : World} (B : Bx P w0) {O : Orc} (hO : OrcOk P w0 O) (b : List Nat) (p : Nat) (hp : PreR (b, p)) :
  SC P w0 91 [.ptr 0 0, .int .i64 (.ofNat 0)] (H [some (rdr b p)] 0 true) (.int .u8 (.ofNat (yo b p))) (H [some (rdr b p)] 1 true) := by
 obtain ⟨hb, hl, hpl⟩ := hp
 simp only at hb hl hpl
 refine Is.sc hO B.mixed B.glob B.env 1 (show env.funs.get 91 = some f91 from rfl) (Nat.le_of_ble_eq_true rfl) (qI rfl) fun C k => ?_
 unfold f91
 simp only [Ko, Kd]
 cases hd : b.drop p with
 | nil =>
  have h4 : ¬ p < b.length := by have := wb hd hpl; omega
  have hh : yo b p = 0 := by unfold yo; rw [hd]; rfl
  rw [hh]
  refine zd (k.eval (by simp (disch := first | exact dis | fail) only [go_sem, seval, -reduceOfNat, -reduceNegSucc, rdr]; exact rfl) ?_)
  simp only [za]
  refine k.eval (by simp (disch := first | exact dis | fail) only [go_sem, seval, -reduceOfNat, -reduceNegSucc, h4]; exact rfl) ?_
  try simp only [za, zj, Cut, if_true]
  apply ze (Or.inr rfl)
  iterate 5 (simp (disch := first | exact dis | fail) only [go_sem, seval, -reduceOfNat, -reduceNegSucc, rdr] <;> exact rfl)
 | cons c r =>
  obtain ⟨h4, h5⟩ := qw hd
  have hh : yo b p = c := by unfold yo; rw [hd]; rfl
  rw [hh]
  refine zd (k.eval (by simp (disch := first | exact dis | fail) only [go_sem, seval, -reduceOfNat, -reduceNegSucc, rdr]; exact rfl) ?_)
  simp only [za]
  refine zd (k.eval (by simp (disch := first | exact dis | fail) only [go_sem, seval, -reduceOfNat, -reduceNegSucc, h4]; exact rfl) ?_)
  simp only [za]
  refine k.eval (by simp (disch := first | exact dis | fail) only [go_sem, seval, -reduceOfNat, -reduceNegSucc, hd]; exact rfl) ?_
  try simp only [za, zj, Cut, if_true]
  apply ze (Or.inr rfl)
  iterate 5 (simp (disch := first | exact dis | fail) only [go_sem, seval, -reduceOfNat, -reduceNegSucc, rdr] <;> exact rfl)
theorem Vp {P : Program} {w0 : World} (B : Bx P w0) {O : Orc} (hO : OrcOk P w0 O) : OrcOk P w0 (withG 91 gPk O) :=
 hO.withG vT (gs true (fun x hx => ⟨qE _ _, rfl, rfl, qE _ _⟩) fun x hx => zxM B (xr P w0) x.1 x.2 hx)
def twS (b : List Nat) (p : Nat) : List Nat := (b.drop p).takeWhile yL
def escR (b : List Nat) (p : Nat) : Option Nat × Nat :=
 if yo b p = 34 ∨ yo b p = 92 then (some (yo b p), p + 1) else if yo b p = 110 then (some 10, p + 1) else if yo b p = 116 then (some 9, p + 1)
 else if yo b p = 120 then match hexL 0 (twS b (p + 1)) with
  | some n => if twS b (p + 1) ≠ [] ∧ zX n = true ∧ yo b (p + 1 + (twS b (p + 1)).length) = 59 then (some n, p + 1 + (twS b (p + 1)).length + 1) else (none, p + 1 + (twS b (p + 1)).length)
  | none => (none, p + 1 + (twS b (p + 1)).length)
 else (none, p + 1)
def escF (b : List Nat) (p : Nat) : AV × Nat := (match (escR b p).1 with
 | some c => .tup [.int .i32 (.ofNat c), flt (0, 0)]
 | none => .tup [.int .i32 (.ofNat 0), flt (4, p - 1)], (escR b p).2)
theorem Jc (b : List Nat) (p : Nat) : zD (escF b p).1 = true := by
 unfold escF; split <;> simp only [yF, zB, yu, zI, Bool.and_self, wL]
def PreE (x : List Nat × Nat) : Prop := Byt x.1 ∧ x.1.length < 1000000 ∧ x.2 < x.1.length ∧ 1 ≤ x.2
theorem zzG : yL 59 = false := rfl
theorem Ja {P : Program} {w0 : World} (B : Bx P w0) {O : Orc} (hO : OrcOk P w0 O) (o1 : O 33 = none) (o2 : O 35 = none) (o3 : O 70 = none) (h1 : O 91 = some gPk) (h2 : O 67 = some (qr yL)) (h3 : O 108 = some lh) (b : List Nat) (p : Nat) (hp : PreE (b, p)) :
  SC P w0 89 [.ptr 0 0] (H [some (rdr b p)] 0 true) (escF b p).1 (H [some (rdr b (escF b p).2)] 1 true) := by
 obtain ⟨hb, hl, hi, hp1⟩ := hp
 simp only at hb hl hi hp1
 refine Is.sc hO B.mixed B.glob B.env 1 (show env.funs.get 89 = some f89 from rfl) (Nat.le_of_ble_eq_true rfl) (qI rfl) fun C k => ?_
 have cend := @zQ env O _ _ o1 (show env.funs.get 33 = some f33 from rfl) rfl
 have cn := @zQ env O _ _ o2 (show env.funs.get 35 = some f35 from rfl) rfl
 have cf := @zQ env O _ _ o3 (show env.funs.get 70 = some f70 from rfl) rfl
 have hsym := fun {c} hc s => @vR O _ _ h2 c hc s
 have hpk := fun (l : List (Nat × Option AObj)) n m md => Y5 h1 (b := b) (p := p) ⟨hb, hl, Nat.le_of_lt hi⟩ false l n m md 0
 have hhd : yo b p < 256 := by
  cases hd : b.drop p with
  | nil => have := wb hd (Nat.le_of_lt hi); omega
  | cons c r =>
   have hh : yo b p = c := by unfold yo; rw [hd]; rfl
   rw [hh]; exact hb c (List.mem_of_mem_drop (by rw [hd]; simp))
 unfold f89
 simp only [Ko, Kg, Kn, Kd, Ke, Ki]
 refine zd (k.eval (by simp (disch := first | exact dis | fail) only [go_sem, seval, -reduceOfNat, -reduceNegSucc, rdr]; exact rfl) ?_)
 simp only [za]
 refine zd (k.eval (by simp (disch := first | exact dis | fail) only [go_sem, seval, -reduceOfNat, -reduceNegSucc]; exact rfl) ?_)
 simp only [za]
 refine zd (k.eval (by simp (disch := first | exact dis | fail) only [go_sem, seval, -reduceOfNat, -reduceNegSucc, hpk]; exact rfl) ?_)
 simp only [za]
 refine zd (k.eval (by simp (disch := first | exact dis | fail) only [go_sem, seval, -reduceOfNat, -reduceNegSucc]; exact rfl) ?_)
 simp only [za]
 by_cases c34 : yo b p = 34
 ·have hE : escR b p = (some 34, p + 1) := by unfold escR; rw [if_pos (.inl c34), c34]
  refine zd (k.eval (by simp (disch := first | exact dis | fail) only [go_sem, seval, -reduceOfNat, -reduceNegSucc, c34, cn, f35]; exact rfl) ?_)
  simp only [za]
  apply ze (Or.inr rfl)
  iterate 5 (simp (disch := first | exact dis | fail) only [go_sem, seval, -reduceOfNat, -reduceNegSucc, rdr, escF, hE, flt] <;> exact rfl)
 by_cases c92 : yo b p = 92
 ·have hE : escR b p = (some 92, p + 1) := by unfold escR; rw [if_pos (.inr c92), c92]
  refine zd (k.eval (by simp (disch := first | exact dis | fail) only [go_sem, seval, -reduceOfNat, -reduceNegSucc, c92, cn, f35]; exact rfl) ?_)
  simp only [za]
  apply ze (Or.inr rfl)
  iterate 5 (simp (disch := first | exact dis | fail) only [go_sem, seval, -reduceOfNat, -reduceNegSucc, rdr, escF, hE, flt] <;> exact rfl)
 have cx : ¬ (yo b p = 34 ∨ yo b p = 92) := fun h => h.elim c34 c92
 by_cases c110 : yo b p = 110
 ·have hE : escR b p = (some 10, p + 1) := by unfold escR; rw [if_neg cx, if_pos c110]
  refine zd (k.eval (by simp (disch := first | exact dis | fail) only [go_sem, seval, -reduceOfNat, -reduceNegSucc, c110, cn, f35]; exact rfl) ?_)
  simp only [za]
  apply ze (Or.inr rfl)
  iterate 5 (simp (disch := first | exact dis | fail) only [go_sem, seval, -reduceOfNat, -reduceNegSucc, rdr, escF, hE, flt] <;> exact rfl)
 by_cases c116 : yo b p = 116
 ·have hE : escR b p = (some 9, p + 1) := by unfold escR; rw [if_neg cx, if_neg c110, if_pos c116]
  refine zd (k.eval (by simp (disch := first | exact dis | fail) only [go_sem, seval, -reduceOfNat, -reduceNegSucc, c116, cn, f35]; exact rfl) ?_)
  simp only [za]
  apply ze (Or.inr rfl)
  iterate 5 (simp (disch := first | exact dis | fail) only [go_sem, seval, -reduceOfNat, -reduceNegSucc, rdr, escF, hE, flt] <;> exact rfl)
 by_cases c120 : yo b p = 120
 ·have hE : escR b p = match hexL 0 (twS b (p + 1)) with
   | some n => if twS b (p + 1) ≠ [] ∧ zX n = true ∧ yo b (p + 1 + (twS b (p + 1)).length) = 59 then (some n, p + 1 + (twS b (p + 1)).length + 1) else (none, p + 1 + (twS b (p + 1)).length)
   | none => (none, p + 1 + (twS b (p + 1)).length) := by unfold escR; rw [if_neg cx, if_neg c110, if_neg c116, if_pos c120]
  rw [c120]
  have e1 : (b.drop (p + 1)).take (twS b (p + 1)).length = twS b (p + 1) := kD _ _
  have e2 : Byt (twS b (p + 1)) := (hb.drop _).tw yL
  have e3 : (twS b (p + 1)).length ≤ b.length - (p + 1) := by have := pP yL (b.drop (p + 1)); rw [List.length_drop] at this; exact this
  have hhx := fun st => Ye (O := O) h3 e2 (by omega) st
  have hpk2 := fun (l : List (Nat × Option AObj)) n m md => Y5 h1 (b := b) (p := p + 1 + (twS b (p + 1)).length) ⟨hb, hl, by simp only; omega⟩ false l n m md 0
  revert hE hhx hpk2
  generalize hw : twS b (p + 1) = w at *
  intro hE hhx hpk2
  refine zd ?_
  refine zd (k.eval (by simp (disch := first | exact dis | fail) only [go_sem, seval, -reduceOfNat, -reduceNegSucc]; exact rfl) ?_)
  simp only [za]
  refine zW ?_
  refine zd (k.eval (by simp (disch := first | exact dis | fail) only [go_sem, seval, -reduceOfNat, -reduceNegSucc]; exact rfl) ?_)
  simp only [za]
  refine vS (b := false) (by simp (disch := first | exact dis | fail) only [go_sem, seval, -reduceOfNat, -reduceNegSucc]) ?_
  simp only [cond_false]
  refine zd (k.eval (by simp (disch := first | exact dis | fail) only [go_sem, seval, -reduceOfNat, -reduceNegSucc]; exact rfl) ?_)
  simp only [za]
  refine vS (b := false) (by simp (disch := first | exact dis | fail) only [go_sem, seval, -reduceOfNat, -reduceNegSucc]) ?_
  simp only [cond_false]
  refine zd (k.eval (by simp (disch := first | exact dis | fail) only [go_sem, seval, -reduceOfNat, -reduceNegSucc]; exact rfl) ?_)
  simp only [za]
  refine vS (b := false) (by simp (disch := first | exact dis | fail) only [go_sem, seval, -reduceOfNat, -reduceNegSucc]) ?_
  simp only [cond_false]
  refine zd (k.eval (by simp (disch := first | exact dis | fail) only [go_sem, seval, -reduceOfNat, -reduceNegSucc]; exact rfl) ?_)
  simp only [za]
  refine vS (b := true) (by simp (disch := first | exact dis | fail) only [go_sem, seval, -reduceOfNat, -reduceNegSucc]) ?_
  simp only [cond_true]
  refine zd (k.eval (by simp (disch := first | exact dis | fail) only [go_sem, seval, -reduceOfNat, -reduceNegSucc]; exact rfl) ?_)
  simp only [za]
  refine xO ⟨tmL [(6, .int .i64 (.ofNat (p + 1))), (4, .int .i64 (.ofNat (p - 1))), (3, .ptr 1 0), (0, .ptr 0 0)], []⟩ (H [some (rdr b (p + 1 + w.length)), some frow] 1 true) (zW (yb (k.gcL [1] [6, 4, 3, 0] true (fr1 := ⟨tmL [(6, .int .i64 (.ofNat (p + 1))), (4, .int .i64 (.ofNat (p - 1))), (3, .ptr 1 0), (0, .ptr 0 0)], []⟩) (s1 := H [some (rdr b (p + 1)), some frow] 1 true) (by simp (disch := first | exact dis | fail) only [go_sem, seval, -reduceOfNat, -reduceNegSucc, rdr, frow]) ?_))) ?_
  ·refine yh (fun q => b.length - q) (fun _ => ⟨tmL [(6, .int .i64 (.ofNat (p + 1))), (4, .int .i64 (.ofNat (p - 1))), (3, .ptr 1 0), (0, .ptr 0 0)], []⟩) (fun q => H [some (rdr b q), some frow] 1 true) (fun q => p + 1 ≤ q ∧ q ≤ b.length ∧ q + (twS b q).length = p + 1 + w.length) (fun q hq => ?_) (p + 1) ⟨Nat.le_refl _, by omega, by rw [hw]⟩
   obtain ⟨g1, g2, g3⟩ := hq
   cases hd : b.drop q with
   | nil =>
    have h4 : ¬ q < b.length := by have := wb hd g2; omega
    unfold twS at g3
    rw [hd, List.takeWhile_nil, List.length_nil, Nat.add_zero] at g3
    refine k.eval (by simp (disch := first | exact dis | fail) only [go_sem, seval, -reduceOfNat, -reduceNegSucc, rdr, frow, cend, f33, h4]; exact rfl) ?_
    try simp only [za, zj, Cut]
    refine k.gcs (keep := [1]) (live := [6, 4, 3, 0]) (md := true) ?_
    simp (disch := first | exact dis | fail) only [go_sem, seval, -reduceOfNat, -reduceNegSucc, rdr, frow, ← g3]
   | cons c r =>
    obtain ⟨h4, h5⟩ := qw hd
    have hc : c < 256 := hb c (List.mem_of_mem_drop (by rw [hd]; simp))
    have hsc := fun s => hsym hc s
    cases hs : yL c with
    | false =>
     unfold twS at g3
     rw [hd, List.takeWhile_cons, hs] at g3
     have g3' : q = p + 1 + w.length := by simpa using g3
     by_cases h59 : c = 59
     ·subst h59
      refine k.eval (by simp (disch := first | exact dis | fail) only [go_sem, seval, -reduceOfNat, -reduceNegSucc, rdr, frow, cend, f33, h4, hd]; exact rfl) ?_
      try simp only [za, zj, Cut]
      refine k.gcs (keep := [1]) (live := [6, 4, 3, 0]) (md := true) ?_
      simp (disch := first | exact dis | fail) only [go_sem, seval, -reduceOfNat, -reduceNegSucc, rdr, frow, ← g3']
     ·
      refine k.eval (by simp (disch := first | exact dis | fail) only [go_sem, seval, -reduceOfNat, -reduceNegSucc, rdr, frow, cend, f33, h4, hd, h59, hsc, hs]; exact rfl) ?_
      try simp only [za, zj, Cut]
      refine k.gcs (keep := [1]) (live := [6, 4, 3, 0]) (md := true) ?_
      simp (disch := first | exact dis | fail) only [go_sem, seval, -reduceOfNat, -reduceNegSucc, rdr, frow, ← g3']
    | true =>
     have h59 : ¬ c = 59 := fun e => by rw [e, zzG] at hs; cases hs
     unfold twS at g3
     rw [hd, List.takeWhile_cons, hs] at g3
     refine k.eval (by simp (disch := first | exact dis | fail) only [go_sem, seval, -reduceOfNat, -reduceNegSucc, rdr, frow, cend, f33, h4, hd, h59, hsc, hs]; exact rfl) ?_
     try simp only [za]
     refine ⟨q + 1, ⟨by omega, by omega, ?_⟩, by omega, ?_⟩
     ·unfold twS; rw [h5]; simp at g3; omega
     ·
      refine k.gcs (keep := [1]) (live := [6, 4, 3, 0]) (md := true) ?_
      simp (disch := first | exact dis | fail) only [go_sem, seval, -reduceOfNat, -reduceNegSucc, rdr, frow]
  ·cases hx : hexL 0 w with
   | none =>
    rw [hx] at hE
    simp only [hexR, hx] at hhx
    refine zd (k.eval (by simp (disch := first | exact dis | fail) only [go_sem, seval, -reduceOfNat, -reduceNegSucc, rdr, frow, e1, hhx]; exact rfl) ?_)
    simp only [za]
    refine k.eval (by simp (disch := first | exact dis | fail) only [go_sem, seval, -reduceOfNat, -reduceNegSucc]; exact rfl) ?_
    try simp only [za, zj]
    refine k.eval (by simp (disch := first | exact dis | fail) only [go_sem, seval, -reduceOfNat, -reduceNegSucc, cf, f70]; exact rfl) ?_
    try simp only [za, zj, Cut, if_true]
    apply ze (Or.inr rfl)
    iterate 5 (simp (disch := first | exact dis | fail) only [go_sem, seval, -reduceOfNat, -reduceNegSucc, rdr, escF, hE, flt] <;> exact rfl)
   | some n =>
    rw [hx] at hE
    simp only [hexR, hx] at hhx
    by_cases hok : w ≠ [] ∧ zX n = true
    ·have hb2 : (decide (w ≠ []) && zX n) = true := by rw [decide_eq_true hok.1, hok.2]; rfl
     simp only [hb2] at hhx
     by_cases h59 : yo b (p + 1 + w.length) = 59
     ·simp only at hE
      rw [if_pos ⟨hok.1, hok.2, h59⟩] at hE
      rw [h59] at hpk2
      refine zd (k.eval (by simp (disch := first | exact dis | fail) only [go_sem, seval, -reduceOfNat, -reduceNegSucc, rdr, frow, e1, hhx]; exact rfl) ?_)
      simp only [za]
      refine k.eval (by simp (disch := first | exact dis | fail) only [go_sem, seval, -reduceOfNat, -reduceNegSucc, hpk2, cn, f35]; exact rfl) ?_
      try simp only [za, zj]
      apply ze (Or.inr rfl)
      iterate 5 (simp (disch := first | exact dis | fail) only [go_sem, seval, -reduceOfNat, -reduceNegSucc, rdr, escF, hE, flt] <;> exact rfl)
     ·simp only at hE
      rw [if_neg (fun h => h59 h.2.2)] at hE
      refine zd (k.eval (by simp (disch := first | exact dis | fail) only [go_sem, seval, -reduceOfNat, -reduceNegSucc, rdr, frow, e1, hhx]; exact rfl) ?_)
      simp only [za]
      refine k.eval (by simp (disch := first | exact dis | fail) only [go_sem, seval, -reduceOfNat, -reduceNegSucc, hpk2, h59]; exact rfl) ?_
      try simp only [za, zj]
      refine k.eval (by simp (disch := first | exact dis | fail) only [go_sem, seval, -reduceOfNat, -reduceNegSucc, cf, f70]; exact rfl) ?_
      try simp only [za, zj, Cut, if_true]
      apply ze (Or.inr rfl)
      iterate 5 (simp (disch := first | exact dis | fail) only [go_sem, seval, -reduceOfNat, -reduceNegSucc, rdr, escF, hE, flt] <;> exact rfl)
    ·have hb2 : (decide (w ≠ []) && zX n) = false := by
      cases hv : zX n with
      | false => simp
      | true => rw [decide_eq_false (fun h => hok ⟨h, hv⟩)]; rfl
     simp only [hb2] at hhx
     simp only at hE
     rw [if_neg (fun h => hok ⟨h.1, h.2.1⟩)] at hE
     refine zd (k.eval (by simp (disch := first | exact dis | fail) only [go_sem, seval, -reduceOfNat, -reduceNegSucc, rdr, frow, e1, hhx]; exact rfl) ?_)
     simp only [za]
     refine k.eval (by simp (disch := first | exact dis | fail) only [go_sem, seval, -reduceOfNat, -reduceNegSucc]; exact rfl) ?_
     try simp only [za, zj]
     refine k.eval (by simp (disch := first | exact dis | fail) only [go_sem, seval, -reduceOfNat, -reduceNegSucc, cf, f70]; exact rfl) ?_
     try simp only [za, zj, Cut, if_true]
     apply ze (Or.inr rfl)
     iterate 5 (simp (disch := first | exact dis | fail) only [go_sem, seval, -reduceOfNat, -reduceNegSucc, rdr, escF, hE, flt] <;> exact rfl)
 ·have hE : escR b p = (none, p + 1) := by unfold escR; rw [if_neg cx, if_neg c110, if_neg c116, if_neg c120]
  refine zd (k.eval (by simp (disch := first | exact dis | fail) only [go_sem, seval, -reduceOfNat, -reduceNegSucc, c34, c92, c110, c116, c120]; exact rfl) ?_)
  simp only [za]
  refine k.eval (by simp (disch := first | exact dis | fail) only [go_sem, seval, -reduceOfNat, -reduceNegSucc, cf, f70]; exact rfl) ?_
  try simp only [za, zj, Cut, if_true]
  apply ze (Or.inr rfl)
  iterate 5 (simp (disch := first | exact dis | fail) only [go_sem, seval, -reduceOfNat, -reduceNegSucc, rdr, escF, hE, flt] <;> exact rfl)
noncomputable def gEsc : List AV → St → Option (AV × St) := gM PreE escF
theorem Xa {P : Program} {w0 : World} (B : Bx P w0) {O : Orc} (hO : OrcOk P w0 O) (o1 : O 33 = none) (o2 : O 35 = none) (o3 : O 70 = none) (h1 : O 91 = some gPk) (h2 : O 67 = some (qr yL)) (h3 : O 108 = some lh) : OrcOk P w0 (withG 89 gEsc O) :=
 wN hO (fun b p _ => Jc b p) fun b p hx => Ja B hO o1 o2 o3 h1 h2 h3 b p hx
set_option maxRecDepth 100000
theorem zwG {l : List (Nat × Option AObj)} {n m id : Nat} {b fz : Bool} {c0 c1 : AV} (hg : getA l id = some (.row 52 [c0, c1] false fz)) : vCpu (KL l n m b [] none) [(51, 2), (52, 2), (53, 3), (54, 3)] (.ptr id 0) = some (.ptr id 0) := by
 simp only [vCpu, xj, hg, ye]; rfl
theorem Xq {O : Orc} (o38 : O 38 = none) (o72 : O 72 = none) (o74 : O 74 = none) (o96 : O 96 = none) (l : List (Nat × Option AObj)) (n m id j : Nat) (b : Bool) (out : List Nat) (c : Nat) (hv : zX c = true) (ho : out.length < 1000000) (ne : id ≠ j) (hi : id < n) (hj : j < n)
  (hw : getA l id = some (.row 52 [.ptr id 0, .sl j 0 out.length (.opn 1)] false false)) (hb : getA l j = some (.row 5 (zh out) true false)) :
  (evW env O).call 38 [.ptr id 0, .int .i32 (.ofNat c)] (KL l n m b [] none) = some (.tup [.int .i64 (.ofNat ((out ++ encC c).length - out.length)), .nili], KL ((id, some (.row 52 [.ptr id 0, .sl (n + 1) 0 (out ++ encC c).length (.opn 1)] false false)) :: (n + 1, some (.row 5 (zh (out ++ encC c)) true false)) :: (j, none) :: (n, some (.row 5 (zh (encC c)) false false)) :: l) (n + 2) (mark (mark m j) id) b [] none) := by
 have c38 := @vV env O _ _ o38 (show env.funs.get 38 = some f38 from rfl) rfl
 have c72 := @zQ env O _ _ o72 (show env.funs.get 72 = some f72 from rfl) rfl
 have ne' : ¬ j = id := fun e => ne e.symm
 have n1 : ¬ id = n := by omega
 have n2 : ¬ j = n := by omega
 have n3 : ¬ id = n + 1 := by omega
 have hl4 := (qk c).2
 have ar := zz9 o74 o96 l n m j out c hv ho hj hb
 have hle : out.length ≤ (out ++ encC c).length := by rw [List.length_append]; omega
 have hlt : (out ++ encC c).length < 2000000 := by rw [List.length_append]; omega
 revert ar hle hlt
 generalize out ++ encC c = o2
 intro ar hle hlt
 simp (disch := first | exact dis | fail) only [go_sem, seval, -reduceOfNat, -reduceNegSucc, c38, f38, c72, f72, hw, ne, n1, n3, zwr, zwU, ar, Nat.zero_mod, decide_true]
theorem ZS {O : Orc} (o38 : O 38 = none) (o72 : O 72 = none) (o74 : O 74 = none) (o96 : O 96 = none) (l : List (Nat × Option AObj)) (n m id : Nat) (b : Bool) (c : Nat) (hv : zX c = true) (hi : id < n)
  (hw : getA l id = some (.row 52 [.nilp, .nils] false false)) :
  (evW env O).call 38 [.ptr id 0, .int .i32 (.ofNat c)] (KL l n m b [] none) = some (.tup [.int .i64 (.ofNat (encC c).length), .nili], KL ((id, some (.row 52 [.ptr id 0, .sl (n + 1) 0 (encC c).length (.opn 1)] false false)) :: (n + 1, some (.row 5 (zh (encC c)) true false)) :: (n, some (.row 5 (zh (encC c)) false false)) :: (id, some (.row 52 [.ptr id 0, .nils] false false)) :: l) (n + 2) (mark (mark m id) id) b [] none) := by
 have c38 := @vV env O _ _ o38 (show env.funs.get 38 = some f38 from rfl) rfl
 have c72 := @zQ env O _ _ o72 (show env.funs.get 72 = some f72 from rfl) rfl
 have n1 : ¬ id = n := by omega
 have n3 : ¬ id = n + 1 := by omega
 have hm : ¬ (1 <<< id) % 2 ^ n = 0 := by
  rw [Nat.shiftLeft_eq, Nat.one_mul, Nat.mod_eq_of_lt (Nat.pow_lt_pow_right (by omega) hi)]
  exact Nat.ne_of_gt (Nat.two_pow_pos id)
 have q1 := fun m b => @zvc l n m id _ b _ _ _ _ hw
 have q2 := fun m b => @zwG l n m id b _ _ _ hw
 have hl4 := (qk c).2
 have ar := Hf o74 o96 ((id, some (.row 52 [.ptr id 0, .nils] false false)) :: l) n (m ||| 1 <<< id) c hv
 revert ar hl4
 generalize encC c = o2
 intro hl4 ar
 simp (disch := first | exact dis | fail) only [go_sem, seval, -reduceOfNat, -reduceNegSucc, c38, f38, c72, f72, hw, n1, n3, zwA, decide_true, q1, q2, ar, Nat.zero_or, hm]
def wd (b : List Nat) (first : Nat) : Nat → Nat → List Nat → (List Nat ⊕ (Nat × Nat)) × Nat
 | 0, p, _ => (.inr (4, first), p)
 | k + 1, p, out => if b.drop p = [] then (.inr (4, first), p) else match decR (b.drop p) with
  | none => (.inr (4, p), p)
  | some q => if q.1 = 34 then (.inl out, p + q.2) else if q.1 = 92 then (if p + q.2 = b.length then (.inr (4, first), p + q.2) else match (escR b (p + q.2)).1 with
    | some c => wd b first k (escR b (p + q.2)).2 (out ++ encC c)
    | none => (.inr (4, p + q.2 - 1), (escR b (p + q.2)).2))
   else wd b first k (p + q.2) (out ++ encC q.1)
def strR : List Nat ⊕ (Nat × Nat) → AV
 | .inl s => .tup [.str s, flt (0, 0)]
 | .inr f => .tup [.str [], flt f]
theorem Gb (x : List Nat ⊕ (Nat × Nat)) : zD (strR x) = true := by
 cases x <;> simp only [strR, yF, zB, yZ, zI, Bool.and_self, wL]
def vU (b : List Nat) (p : Nat) : AV × Nat := (strR (wd b p (b.length + 1) (p + 1) []).1, (wd b p (b.length + 1) (p + 1) []).2)
theorem Pg {b : List Nat} (hb : Byt b) (p : Nat) : yo b p < 256 := by
 unfold yo
 cases hd : b.drop p with
 | nil => show 0 < 256; omega
 | cons c r => exact hb c (List.mem_of_mem_drop (by rw [hd]; simp))
theorem pZ {b : List Nat} {p : Nat} (hb : Byt b) (hp : p < b.length) : p + 1 ≤ (escR b p).2 ∧ (escR b p).2 ≤ b.length ∧ ∀ c, (escR b p).1 = some c → zX c = true := by
 have e3 : (twS b (p + 1)).length ≤ b.length - (p + 1) := by have := pP yL (b.drop (p + 1)); rw [List.length_drop] at this; exact this
 have hh := Pg hb p
 unfold escR
 split
 ·exact ⟨Nat.le_refl _, hp, fun c hc => by cases hc; exact zf.2 (by omega)⟩
 split
 ·exact ⟨Nat.le_refl _, hp, fun c hc => by cases hc; rfl⟩
 split
 ·exact ⟨Nat.le_refl _, hp, fun c hc => by cases hc; rfl⟩
 split
 ·split
  ·split
   ·rename_i h
    have h59 : p + 1 + (twS b (p + 1)).length < b.length := by
     apply Nat.lt_of_not_le
     intro hle
     have := h.2.2
     unfold yo at this
     rw [List.drop_eq_nil_of_le hle] at this
     cases this
    exact ⟨by simp only; omega, by simp only; omega, fun c hc => by cases hc; exact h.2.1⟩
   ·exact ⟨by simp only; omega, by simp only; omega, fun c hc => by cases hc⟩
  ·exact ⟨by simp only; omega, by simp only; omega, fun c hc => by cases hc⟩
 ·exact ⟨Nat.le_refl _, hp, fun c hc => by cases hc⟩
def bldO (out : List Nat) : List (Option AObj) := if out = [] then [some (.row 52 [.nilp, .nils] false false)]
 else [some (.row 52 [.ptr 2 0, .sl 3 0 out.length (.opn 1)] false false), some (.row 5 (zh out) true false)]
theorem qg : bldO [] = [some (.row 52 [.nilp, .nils] false false)] := if_pos rfl
theorem wJ {out : List Nat} (h : out ≠ []) : bldO out = [some (.row 52 [.ptr 2 0, .sl 3 0 out.length (.opn 1)] false false), some (.row 5 (zh out) true false)] := if_neg h
theorem YS (c : Nat) : encC c ≠ [] := fun h => by
 have := (qk c).1
 rw [h] at this; simp at this
theorem P4 {c : Nat} {out : List Nat} : out ++ encC c ≠ [] := fun h => YS c (List.append_eq_nil_iff.1 h).2
def kR (x : List Nat × Nat) : Prop := Byt x.1 ∧ x.1.length < 100000 ∧ x.2 < x.1.length
theorem Hh {P : Program} {w0 : World} (B : Bx P w0) {O : Orc} (hO : OrcOk P w0 O) (o1 : O 33 = none) (o2 : O 35 = none) (o3 : O 70 = none) (o21 : O 21 = none)
  (o38 : O 38 = none) (o72 : O 72 = none) (o74 : O 74 = none) (o96 : O 96 = none)
  (h1 : O 87 = some jz) (h2 : O 89 = some gEsc) (b : List Nat) (p0 : Nat) (hp : kR (b, p0)) :
  SC P w0 65 [.ptr 0 0] (H [some (rdr b p0)] 0 true) (vU b p0).1 (H [some (rdr b (vU b p0).2)] 1 true) := by
 obtain ⟨hb, hl, hi⟩ := hp
 simp only at hb hl hi
 refine Is.sc hO B.mixed B.glob B.env 1 (show env.funs.get 65 = some f65 from rfl) (Nat.le_of_ble_eq_true rfl) (qI rfl) fun C k => ?_
 have cend := @zQ env O _ _ o1 (show env.funs.get 33 = some f33 from rfl) rfl
 have cn := @zQ env O _ _ o2 (show env.funs.get 35 = some f35 from rfl) rfl
 have cf := @zQ env O _ _ o3 (show env.funs.get 70 = some f70 from rfl) rfl
 have cstr := @zQ env O _ _ o21 (show env.funs.get 21 = some f21 from rfl) rfl
 unfold f65
 simp only [Ko, Kg, Kn, Kd, Kf, Ki]
 refine zd (k.eval (by simp (disch := first | exact dis | fail) only [go_sem, seval, -reduceOfNat, -reduceNegSucc, rdr]; exact rfl) ?_)
 simp only [za]
 refine zd (k.eval (by simp (disch := first | exact dis | fail) only [go_sem, seval, -reduceOfNat, -reduceNegSucc]; exact rfl) ?_)
 simp only [za]
 refine zd (k.eval (by simp (disch := first | exact dis | fail) only [go_sem, seval, -reduceOfNat, -reduceNegSucc]; exact rfl) ?_)
 simp only [za]
 refine zd (k.eval (by simp (disch := first | exact dis | fail) only [go_sem, seval, -reduceOfNat, -reduceNegSucc]; exact rfl) ?_)
 simp only [za]
 refine wI (fun x : Nat × List Nat => wd b p0 (b.length + 1) (p0 + 1) [] = (.inr (4, p0), x.1)) (fun x => ⟨tmL [(4, .int .i64 (.ofNat p0)), (3, .ptr 1 0), (0, .ptr 0 0)], []⟩) (fun x => H [some (rdr b x.1), some frow] 1 true) (zW (yb (k.gcL [1, 2] [5, 4, 3, 0] true (fr1 := ⟨tmL [(5, .ptr 2 0), (4, .int .i64 (.ofNat p0)), (3, .ptr 1 0), (0, .ptr 0 0)], []⟩) (s1 := H ([some (rdr b (p0 + 1)), some frow] ++ bldO []) 1 true) (by simp (disch := first | exact dis | fail) only [go_sem, seval, -reduceOfNat, -reduceNegSucc, rdr, frow, qg]) ?_))) ?_
 ·refine yh (fun x : Nat × Nat × List Nat => x.1) (fun x => ⟨tmL [(5, .ptr 2 0), (4, .int .i64 (.ofNat p0)), (3, .ptr 1 0), (0, .ptr 0 0)], []⟩) (fun x => H ([some (rdr b x.2.1), some frow] ++ bldO x.2.2) 1 true) (fun x => wd b p0 x.1 x.2.1 x.2.2 = wd b p0 (b.length + 1) (p0 + 1) [] ∧ b.length < x.1 + x.2.1 ∧ x.2.1 ≤ b.length ∧ x.2.2.length ≤ 4 * x.2.1 ∧ 1 ≤ x.2.1 ∧ Byt x.2.2) (fun x hx => ?_) (b.length + 1, p0 + 1, []) ⟨rfl, by simp only; omega, hi, by simp, by simp only; omega, fun x hx => by cases hx⟩
  obtain ⟨kk, p, out⟩ := x
  obtain ⟨g1, g2, g3, g4, g5, g6⟩ := hx
  simp only at g1 g2 g3 g4 g5 g6 ⊢
  cases kk with
  | zero => omega
  | succ kk =>
  rw [wd] at g1
  by_cases h4 : p < b.length
  ·have hne : b.drop p ≠ [] := fun e => by have := congrArg List.length e; rw [List.length_drop] at this; simp at this; omega
   rw [if_neg hne] at g1
   have hch := fun (l : List (Nat × Option AObj)) n m md => xN h1 (b := b) (p := p) (show PreC (b, p) from ⟨hb, by simp only; omega, h4⟩) false l n m md 0
   cases hR : decR (b.drop p) with
   | none =>
    rw [hR] at g1
    simp only [v7 hR] at hch
    by_cases ho : out = []
    ·subst ho
     refine k.eval (by simp (disch := first | exact dis | fail) only [go_sem, seval, -reduceOfNat, -reduceNegSucc, rdr, frow, qg, cend, f33, h4, hch, flt]; exact rfl) ?_
     try simp only [za, zj]
     apply ze (Or.inr rfl)
     iterate 5 (simp (disch := first | exact dis | fail) only [go_sem, seval, -reduceOfNat, -reduceNegSucc, rdr, vU, ← g1, strR, flt] <;> exact rfl)
    ·have ho' := wJ ho
     refine k.eval (by simp (disch := first | exact dis | fail) only [go_sem, seval, -reduceOfNat, -reduceNegSucc, rdr, frow, ho', cend, f33, h4, hch, flt]; exact rfl) ?_
     try simp only [za, zj]
     apply ze (Or.inr rfl)
     iterate 5 (simp (disch := first | exact dis | fail) only [go_sem, seval, -reduceOfNat, -reduceNegSucc, rdr, vU, ← g1, strR, flt] <;> exact rfl)
   | some q =>
    obtain ⟨c, z⟩ := q
    obtain ⟨f1, f2, f3⟩ := wU hne hR
    rw [List.length_drop] at f2
    simp only at f1 f2 f3
    rw [hR] at g1
    simp only at g1
    simp only [ui hR] at hch
    by_cases c34 : c = 34
    ·subst c34
     rw [if_pos rfl] at g1
     by_cases ho : out = []
     ·subst ho
      refine k.eval (by simp (disch := first | exact dis | fail) only [go_sem, seval, -reduceOfNat, -reduceNegSucc, rdr, frow, qg, cend, f33, h4, hch, flt, cstr, f21, K5, Lp, cn, f35]; exact rfl) ?_
      try simp only [za, zj]
      apply ze (Or.inr rfl)
      iterate 5 (simp (disch := first | exact dis | fail) only [go_sem, seval, -reduceOfNat, -reduceNegSucc, rdr, vU, ← g1, strR, flt] <;> exact rfl)
     ·have ho' := wJ ho
      have hu := Pw 3 out.length (fun h => ho (List.eq_nil_of_length_eq_zero h))
      have hus := fun l nx m k0 hg => @Pp l nx m 3 k0 [3] true false out .i64 hg rfl ho g6 (by omega)
      refine k.eval (by simp (disch := first | exact dis | fail) only [go_sem, seval, -reduceOfNat, -reduceNegSucc, rdr, frow, ho', cend, f33, h4, hch, flt, cstr, f21, hu, hus, cn, f35]; exact rfl) ?_
      try simp only [za, zj]
      apply ze (Or.inr rfl)
      iterate 5 (simp (disch := first | exact dis | fail) only [go_sem, seval, -reduceOfNat, -reduceNegSucc, rdr, vU, ← g1, strR, flt] <;> exact rfl)
    ·rw [if_neg c34] at g1
     by_cases c92 : c = 92
     ·subst c92
      rw [if_pos rfl] at g1
      by_cases hend : p + z = b.length
      ·rw [if_pos hend] at g1
       have h5 : ¬ p + z < b.length := by omega
       by_cases ho : out = []
       ·subst ho
        refine k.eval (by simp (disch := first | exact dis | fail) only [go_sem, seval, -reduceOfNat, -reduceNegSucc, rdr, frow, qg, cend, f33, h4, hch, flt, h5, cf, f70]; exact rfl) ?_
        try simp only [za, zj]
        apply ze (Or.inr rfl)
        iterate 5 (simp (disch := first | exact dis | fail) only [go_sem, seval, -reduceOfNat, -reduceNegSucc, rdr, vU, ← g1, strR, flt] <;> exact rfl)
       ·have ho' := wJ ho
        refine k.eval (by simp (disch := first | exact dis | fail) only [go_sem, seval, -reduceOfNat, -reduceNegSucc, rdr, frow, ho', cend, f33, h4, hch, flt, h5, cf, f70]; exact rfl) ?_
        try simp only [za, zj]
        apply ze (Or.inr rfl)
        iterate 5 (simp (disch := first | exact dis | fail) only [go_sem, seval, -reduceOfNat, -reduceNegSucc, rdr, vU, ← g1, strR, flt] <;> exact rfl)
      ·rw [if_neg hend] at g1
       have h5 : p + z < b.length := by omega
       have hes := fun (l : List (Nat × Option AObj)) n m md => xN h2 (b := b) (p := p + z) (show PreE (b, p + z) from ⟨hb, by simp only; omega, h5, by simp only; omega⟩) false l n m md 0
       obtain ⟨k1, k2, k3⟩ := pZ hb h5
       simp only [escF] at hes
       revert g1 hes k1 k2 k3
       generalize escR b (p + z) = E
       obtain ⟨ec, eq⟩ := E
       intro g1 hes k1 k2 k3
       simp only at g1 hes k1 k2 k3
       cases ec with
       | none =>
        simp only at g1 hes
        by_cases ho : out = []
        ·subst ho
         refine k.eval (by simp (disch := first | exact dis | fail) only [go_sem, seval, -reduceOfNat, -reduceNegSucc, rdr, frow, qg, cend, f33, h4, hch, flt, h5, hes]; exact rfl) ?_
         try simp only [za, zj]
         apply ze (Or.inr rfl)
         iterate 5 (simp (disch := first | exact dis | fail) only [go_sem, seval, -reduceOfNat, -reduceNegSucc, rdr, vU, ← g1, strR, flt] <;> exact rfl)
        ·have ho' := wJ ho
         refine k.eval (by simp (disch := first | exact dis | fail) only [go_sem, seval, -reduceOfNat, -reduceNegSucc, rdr, frow, ho', cend, f33, h4, hch, flt, h5, hes]; exact rfl) ?_
         try simp only [za, zj]
         apply ze (Or.inr rfl)
         iterate 5 (simp (disch := first | exact dis | fail) only [go_sem, seval, -reduceOfNat, -reduceNegSucc, rdr, vU, ← g1, strR, flt] <;> exact rfl)
       | some c' =>
        simp only at g1 hes
        have hv' := k3 c' rfl
        have hn4 := (qk c').2
        have hby := X7 (zf.1 hv').1
        by_cases ho : out = []
        ·subst ho
         have hw := fun l n m bb hi hg => @ZS O o38 o72 o74 o96 l n m 2 bb c' hv' hi hg
         refine k.eval (by simp (disch := first | exact dis | fail) only [go_sem, seval, -reduceOfNat, -reduceNegSucc, rdr, frow, qg, cend, f33, h4, hch, flt, h5, hes, hw]; exact rfl) ?_
         try simp only [za]
         refine ⟨(kk, eq, [] ++ encC c'), ⟨g1, by simp only; omega, k2, by simp only [List.nil_append]; omega, by simp only; omega, hby⟩, Nat.lt_succ_self _, ?_⟩
         simp only [List.nil_append, wJ (YS _)]
         refine k.gcs (keep := [1, 2, 5]) (live := [5, 4, 3, 0]) (md := true) ?_
         simp (disch := first | exact dis | fail) only [go_sem, seval, -reduceOfNat, -reduceNegSucc, rdr, frow]
        ·have ho' := wJ ho
         have hw := fun l n m bb ne hi hj hg hg2 => @Xq O o38 o72 o74 o96 l n m 2 3 bb out c' hv' (by omega) ne hi hj hg hg2
         refine k.eval (by simp (disch := first | exact dis | fail) only [go_sem, seval, -reduceOfNat, -reduceNegSucc, rdr, frow, ho', cend, f33, h4, hch, flt, h5, hes, hw]; exact rfl) ?_
         try simp only [za]
         refine ⟨(kk, eq, out ++ encC c'), ⟨g1, by simp only; omega, k2, by simp only [List.length_append]; omega, by simp only; omega, g6.append hby⟩, Nat.lt_succ_self _, ?_⟩
         simp only [wJ P4]
         refine k.gcs (keep := [1, 2, 6]) (live := [5, 4, 3, 0]) (md := true) ?_
         simp (disch := first | exact dis | fail) only [go_sem, seval, -reduceOfNat, -reduceNegSucc, rdr, frow]
     ·rw [if_neg c92] at g1
      have hn4 := (qk c).2
      have hby := X7 (zf.1 f3).1
      have hc1 := (zf.1 f3).1
      by_cases ho : out = []
      ·subst ho
       have hw := fun l n m bb hi hg => @ZS O o38 o72 o74 o96 l n m 2 bb c f3 hi hg
       refine k.eval (by simp (disch := first | exact dis | fail) only [go_sem, seval, -reduceOfNat, -reduceNegSucc, rdr, frow, qg, cend, f33, h4, hch, flt, c34, c92, hw]; exact rfl) ?_
       try simp only [za]
       refine ⟨(kk, p + z, [] ++ encC c), ⟨g1, by simp only; omega, by simp only; omega, by simp only [List.nil_append]; omega, by simp only; omega, hby⟩, Nat.lt_succ_self _, ?_⟩
       simp only [List.nil_append, wJ (YS _)]
       refine k.gcs (keep := [1, 2, 5]) (live := [5, 4, 3, 0]) (md := true) ?_
       simp (disch := first | exact dis | fail) only [go_sem, seval, -reduceOfNat, -reduceNegSucc, rdr, frow]
      ·have ho' := wJ ho
       have hw := fun l n m bb ne hi hj hg hg2 => @Xq O o38 o72 o74 o96 l n m 2 3 bb out c f3 (by omega) ne hi hj hg hg2
       refine k.eval (by simp (disch := first | exact dis | fail) only [go_sem, seval, -reduceOfNat, -reduceNegSucc, rdr, frow, ho', cend, f33, h4, hch, flt, c34, c92, hw]; exact rfl) ?_
       try simp only [za]
       refine ⟨(kk, p + z, out ++ encC c), ⟨g1, by simp only; omega, by simp only; omega, by simp only [List.length_append]; omega, by simp only; omega, g6.append hby⟩, Nat.lt_succ_self _, ?_⟩
       simp only [wJ P4]
       refine k.gcs (keep := [1, 2, 6]) (live := [5, 4, 3, 0]) (md := true) ?_
       simp (disch := first | exact dis | fail) only [go_sem, seval, -reduceOfNat, -reduceNegSucc, rdr, frow]
  ·have hnil : b.drop p = [] := List.drop_eq_nil_of_le (by omega)
   rw [if_pos hnil] at g1
   by_cases ho : out = []
   ·subst ho
    refine k.eval (by simp (disch := first | exact dis | fail) only [go_sem, seval, -reduceOfNat, -reduceNegSucc, rdr, frow, qg, cend, f33, h4]; exact rfl) ?_
    try simp only [za, zj]
    simp only [Gcx]
    refine ⟨(p, []), g1.symm, ?_⟩
    refine k.gcs (keep := [1]) (live := [4, 3, 0]) (md := true) ?_
    simp (disch := first | exact dis | fail) only [go_sem, seval, -reduceOfNat, -reduceNegSucc, rdr, frow]
   ·have ho' := wJ ho
    refine k.eval (by simp (disch := first | exact dis | fail) only [go_sem, seval, -reduceOfNat, -reduceNegSucc, rdr, frow, ho', cend, f33, h4]; exact rfl) ?_
    try simp only [za, zj]
    simp only [Gcx]
    refine ⟨(p, []), g1.symm, ?_⟩
    refine k.gcs (keep := [1]) (live := [4, 3, 0]) (md := true) ?_
    simp (disch := first | exact dis | fail) only [go_sem, seval, -reduceOfNat, -reduceNegSucc, rdr, frow]
 ·rintro ⟨q, o⟩ hq
  simp only at hq ⊢
  refine zd (k.eval (by simp (disch := first | exact dis | fail) only [go_sem, seval, -reduceOfNat, -reduceNegSucc, rdr, frow, cf, f70]; exact rfl) ?_)
  simp only [za]
  refine k.eval (by simp (disch := first | exact dis | fail) only [go_sem, seval, -reduceOfNat, -reduceNegSucc]; exact rfl) ?_
  try simp only [za, zj, Cut, if_true]
  apply ze (Or.inr rfl)
  iterate 5 (simp (disch := first | exact dis | fail) only [go_sem, seval, -reduceOfNat, -reduceNegSucc, rdr, vU, hq, strR, flt] <;> exact rfl)
noncomputable def UB : List AV → St → Option (AV × St) := gM kR vU
theorem Q7 {P : Program} {w0 : World} (B : Bx P w0) {O : Orc} (hO : OrcOk P w0 O) (o1 : O 33 = none) (o2 : O 35 = none) (o3 : O 70 = none) (o21 : O 21 = none)
  (o38 : O 38 = none) (o72 : O 72 = none) (o74 : O 74 = none) (o96 : O 96 = none)
  (h1 : O 87 = some jz) (h2 : O 89 = some gEsc) : OrcOk P w0 (withG 65 UB O) :=
 wN hO (fun b p _ => Gb _) fun b p hx => Hh B hO o1 o2 o3 o21 o38 o72 o74 o96 h1 h2 b p hx
set_option maxRecDepth 100000
def Hk : List Nat := [115, 112, 97, 99, 101]
def XS : List Nat := [110, 101, 119, 108, 105, 110, 101]
def wTab : List Nat := [116, 97, 98]
def litC (c : Nat) (run : List Nat) : Option Nat :=
 if run = [] then some c else if encC c ++ run = Hk then some 32 else if encC c ++ run = XS then some 10 else if encC c ++ run = wTab then some 9
 else match hexL 0 run with
  | some n => if c = 120 ∧ zX n = true then some n else none
  | none => none
def litR (b : List Nat) (p : Nat) : Option Nat × Nat := if p + 2 = b.length then (none, p + 2) else match decR (b.drop (p + 2)) with
 | none => (none, p + 2)
 | some q => (litC q.1 (twS b (p + 2 + q.2)), p + 2 + q.2 + (twS b (p + 2 + q.2)).length)
def litV (p : Nat) : Option Nat → AV
 | some c => .tup [.int .i64 (.ofNat c), flt (0, 0)]
 | none => .tup [.int .i64 (.ofNat 0), flt (4, p)]
theorem Je (p : Nat) (x : Option Nat) : zD (litV p x) = true := by
 cases x <;> simp only [litV, yF, zB, yu, zI, Bool.and_self, wL]
def litF (b : List Nat) (p : Nat) : AV × Nat := (litV p (litR b p).1, (litR b p).2)
def PreL (x : List Nat × Nat) : Prop := Byt x.1 ∧ x.1.length < 1000000 ∧ x.2 + 2 ≤ x.1.length
theorem VG {P : Program} {w0 : World} (B : Bx P w0) {O : Orc} (hO : OrcOk P w0 O) (o1 : O 33 = none) (o2 : O 35 = none) (o3 : O 70 = none)
  (h1 : O 87 = some jz) (h2 : O 69 = some gRun) (h3 : O 108 = some lh) (b : List Nat) (p : Nat) (hp : PreL (b, p)) :
  SC P w0 90 [.ptr 0 0] (H [some (rdr b p)] 0 true) (litF b p).1 (H [some (rdr b (litF b p).2)] 1 true) := by
 obtain ⟨hb, hl, hi⟩ := hp
 simp only at hb hl hi
 refine Is.sc hO B.mixed B.glob B.env 1 (show env.funs.get 90 = some f90 from rfl) (Nat.le_of_ble_eq_true rfl) (qI rfl) fun C k => ?_
 have cend := @zQ env O _ _ o1 (show env.funs.get 33 = some f33 from rfl) rfl
 have cn := @zQ env O _ _ o2 (show env.funs.get 35 = some f35 from rfl) rfl
 have cf := @zQ env O _ _ o3 (show env.funs.get 70 = some f70 from rfl) rfl
 unfold f90
 simp only [Ko, Kg, Kn, Ki]
 refine zd (k.eval (by simp (disch := first | exact dis | fail) only [go_sem, seval, -reduceOfNat, -reduceNegSucc, rdr]; exact rfl) ?_)
 simp only [za]
 refine zd (k.eval (by simp (disch := first | exact dis | fail) only [go_sem, seval, -reduceOfNat, -reduceNegSucc]; exact rfl) ?_)
 simp only [za]
 refine zd (k.eval (by simp (disch := first | exact dis | fail) only [go_sem, seval, -reduceOfNat, -reduceNegSucc]; exact rfl) ?_)
 simp only [za]
 by_cases hend : p + 2 = b.length
 ·have hL : litR b p = (none, p + 2) := by unfold litR; rw [if_pos hend]
  have h4 : ¬ p + 2 < b.length := by omega
  refine zd (k.eval (by simp (disch := first | exact dis | fail) only [go_sem, seval, -reduceOfNat, -reduceNegSucc, cend, f33, h4, cf, f70]; exact rfl) ?_)
  simp only [za]
  apply ze (Or.inr rfl)
  iterate 5 (simp (disch := first | exact dis | fail) only [go_sem, seval, -reduceOfNat, -reduceNegSucc, rdr, litF, hL, litV, flt] <;> exact rfl)
 have h4 : p + 2 < b.length := by omega
 have hne : b.drop (p + 2) ≠ [] := fun e => by have := congrArg List.length e; rw [List.length_drop] at this; simp at this; omega
 have hch := fun (l : List (Nat × Option AObj)) n m md => xN h1 (b := b) (p := p + 2) (show PreC (b, p + 2) from ⟨hb, hl, h4⟩) false l n m md 0
 cases hR : decR (b.drop (p + 2)) with
 | none =>
  have hL : litR b p = (none, p + 2) := by unfold litR; rw [if_neg hend, hR]
  simp only [v7 hR] at hch
  refine zd (k.eval (by simp (disch := first | exact dis | fail) only [go_sem, seval, -reduceOfNat, -reduceNegSucc, cend, f33, h4]; exact rfl) ?_)
  simp only [za]
  refine zd (k.eval (by simp (disch := first | exact dis | fail) only [go_sem, seval, -reduceOfNat, -reduceNegSucc, hch, flt]; exact rfl) ?_)
  simp only [za]
  refine zd (k.eval (by simp (disch := first | exact dis | fail) only [go_sem, seval, -reduceOfNat, -reduceNegSucc, cf, f70]; exact rfl) ?_)
  simp only [za]
  apply ze (Or.inr rfl)
  iterate 5 (simp (disch := first | exact dis | fail) only [go_sem, seval, -reduceOfNat, -reduceNegSucc, rdr, litF, hL, litV, flt] <;> exact rfl)
 | some q =>
  obtain ⟨c, z⟩ := q
  obtain ⟨f1, f2, f3⟩ := wU hne hR
  rw [List.length_drop] at f2
  simp only at f1 f2 f3
  have hc1 := (zf.1 f3).1
  have hcis : vCis (.int .i32 (.ofNat c)) = some (.str (encC c)) := by rw [zw0, f3]; rfl
  have hl4 := (qk c).2
  have hL : litR b p = (litC c (twS b (p + 2 + z)), p + 2 + z + (twS b (p + 2 + z)).length) := by unfold litR; rw [if_neg hend, hR]
  simp only [ui hR] at hch
  have hrun := fun (l : List (Nat × Option AObj)) n m md => xN h2 (b := b) (p := p + 2 + z) (show PreR (b, p + 2 + z) from ⟨hb, hl, by simp only; omega⟩) false l n m md 0
  simp only [runF] at hrun
  have e2 : Byt (twS b (p + 2 + z)) := (hb.drop _).tw yL
  have e3 : (twS b (p + 2 + z)).length ≤ b.length - (p + 2 + z) := by have := pP yL (b.drop (p + 2 + z)); rw [List.length_drop] at this; exact this
  have hhx := fun st => Ye (O := O) h3 e2 (by omega) st
  change ∀ (l : List (Nat × Option AObj)) n m md, _ → _ = some (AV.str (twS b (p + 2 + z)), KL ((0, some (.row 70 [_, .int .i64 (.ofNat (p + 2 + z + (twS b (p + 2 + z)).length))] false false)) :: l) n (mark m 0) md [] none) at hrun
  revert hL e3 e2 hhx hrun
  generalize twS b (p + 2 + z) = w
  intro hL e3 e2 hhx hrun
  refine zd (k.eval (by simp (disch := first | exact dis | fail) only [go_sem, seval, -reduceOfNat, -reduceNegSucc, cend, f33, h4]; exact rfl) ?_)
  simp only [za]
  refine zd (k.eval (by simp (disch := first | exact dis | fail) only [go_sem, seval, -reduceOfNat, -reduceNegSucc, hch, flt]; exact rfl) ?_)
  simp only [za]
  refine zd (k.eval (by simp (disch := first | exact dis | fail) only [go_sem, seval, -reduceOfNat, -reduceNegSucc]; exact rfl) ?_)
  simp only [za]
  refine zd (k.eval (by simp (disch := first | exact dis | fail) only [go_sem, seval, -reduceOfNat, -reduceNegSucc, hrun]; exact rfl) ?_)
  simp only [za]
  refine zd (k.eval (by simp (disch := first | exact dis | fail) only [go_sem, seval, -reduceOfNat, -reduceNegSucc, hcis]; exact rfl) ?_)
  simp only [za]
  by_cases c0 : w = []
  ·have hC : litC c w = some c := by unfold litC; rw [if_pos c0]
   subst c0
   refine zd (k.eval (by simp (disch := first | exact dis | fail) only [go_sem, seval, -reduceOfNat, -reduceNegSucc, cn, f35]; exact rfl) ?_)
   simp only [za]
   apply ze (Or.inr rfl)
   iterate 5 (simp (disch := first | exact dis | fail) only [go_sem, seval, -reduceOfNat, -reduceNegSucc, rdr, litF, hL, hC, litV, flt] <;> exact rfl)
  by_cases c1 : encC c ++ w = Hk
  ·have hC : litC c w = some 32 := by unfold litC; rw [if_neg c0, if_pos c1]
   have c1' : encC c ++ w = [115, 112, 97, 99, 101] := c1
   refine zd (k.eval (by simp (disch := first | exact dis | fail) only [go_sem, seval, -reduceOfNat, -reduceNegSucc, c0, c1', cn, f35]; exact rfl) ?_)
   simp only [za]
   apply ze (Or.inr rfl)
   iterate 5 (simp (disch := first | exact dis | fail) only [go_sem, seval, -reduceOfNat, -reduceNegSucc, rdr, litF, hL, hC, litV, flt] <;> exact rfl)
  by_cases c2 : encC c ++ w = XS
  ·have hC : litC c w = some 10 := by unfold litC; rw [if_neg c0, if_neg c1, if_pos c2]
   have c2' : encC c ++ w = [110, 101, 119, 108, 105, 110, 101] := c2
   refine zd (k.eval (by simp (disch := first | exact dis | fail) only [go_sem, seval, -reduceOfNat, -reduceNegSucc, c0, c2', cn, f35]; exact rfl) ?_)
   simp only [za]
   apply ze (Or.inr rfl)
   iterate 5 (simp (disch := first | exact dis | fail) only [go_sem, seval, -reduceOfNat, -reduceNegSucc, rdr, litF, hL, hC, litV, flt] <;> exact rfl)
  by_cases c3 : encC c ++ w = wTab
  ·have hC : litC c w = some 9 := by unfold litC; rw [if_neg c0, if_neg c1, if_neg c2, if_pos c3]
   have c3' : encC c ++ w = [116, 97, 98] := c3
   refine zd (k.eval (by simp (disch := first | exact dis | fail) only [go_sem, seval, -reduceOfNat, -reduceNegSucc, c0, c3', cn, f35]; exact rfl) ?_)
   simp only [za]
   apply ze (Or.inr rfl)
   iterate 5 (simp (disch := first | exact dis | fail) only [go_sem, seval, -reduceOfNat, -reduceNegSucc, rdr, litF, hL, hC, litV, flt] <;> exact rfl)
  have hC : litC c w = match hexL 0 w with
   | some n => if c = 120 ∧ zX n = true then some n else none
   | none => none := by unfold litC; rw [if_neg c0, if_neg c1, if_neg c2, if_neg c3]
  have c1' : ¬ encC c ++ w = [115, 112, 97, 99, 101] := c1
  have c2' : ¬ encC c ++ w = [110, 101, 119, 108, 105, 110, 101] := c2
  have c3' : ¬ encC c ++ w = [116, 97, 98] := c3
  refine zd (k.eval (by simp (disch := first | exact dis | fail) only [go_sem, seval, -reduceOfNat, -reduceNegSucc, c0, c1', c2', c3']; exact rfl) ?_)
  simp only [za]
  cases hx : hexL 0 w with
  | none =>
   rw [hx] at hC
   simp only at hC
   simp only [hexR, hx] at hhx
   by_cases h120 : c = 120
   ·subst h120
    refine zd (k.eval (by simp (disch := first | exact dis | fail) only [go_sem, seval, -reduceOfNat, -reduceNegSucc, hhx]; exact rfl) ?_)
    simp only [za]
    refine k.eval (by simp (disch := first | exact dis | fail) only [go_sem, seval, -reduceOfNat, -reduceNegSucc, cf, f70]; exact rfl) ?_
    try simp only [za, zj, Cut, if_true]
    apply ze (Or.inr rfl)
    iterate 5 (simp (disch := first | exact dis | fail) only [go_sem, seval, -reduceOfNat, -reduceNegSucc, rdr, litF, hL, hC, litV, flt] <;> exact rfl)
   ·
    refine zd (k.eval (by simp (disch := first | exact dis | fail) only [go_sem, seval, -reduceOfNat, -reduceNegSucc, hhx, h120]; exact rfl) ?_)
    simp only [za]
    refine k.eval (by simp (disch := first | exact dis | fail) only [go_sem, seval, -reduceOfNat, -reduceNegSucc, cf, f70]; exact rfl) ?_
    try simp only [za, zj, Cut, if_true]
    apply ze (Or.inr rfl)
    iterate 5 (simp (disch := first | exact dis | fail) only [go_sem, seval, -reduceOfNat, -reduceNegSucc, rdr, litF, hL, hC, litV, flt] <;> exact rfl)
  | some n =>
   rw [hx] at hC
   simp only at hC
   have hn := Xh (Nat.zero_le _) hx
   simp only [hexR, hx, decide_eq_true c0, Bool.true_and] at hhx
   by_cases h120 : c = 120
   ·subst h120
    cases hv : zX n with
    | true =>
     rw [if_pos ⟨rfl, hv⟩] at hC
     simp only [hv] at hhx
     refine zd (k.eval (by simp (disch := first | exact dis | fail) only [go_sem, seval, -reduceOfNat, -reduceNegSucc, hhx, cn, f35]; exact rfl) ?_)
     simp only [za]
     apply ze (Or.inr rfl)
     iterate 5 (simp (disch := first | exact dis | fail) only [go_sem, seval, -reduceOfNat, -reduceNegSucc, rdr, litF, hL, hC, litV, flt] <;> exact rfl)
    | false =>
     rw [if_neg (fun h => by rw [hv] at h; cases h.2)] at hC
     simp only [hv] at hhx
     refine zd (k.eval (by simp (disch := first | exact dis | fail) only [go_sem, seval, -reduceOfNat, -reduceNegSucc, hhx]; exact rfl) ?_)
     simp only [za]
     refine k.eval (by simp (disch := first | exact dis | fail) only [go_sem, seval, -reduceOfNat, -reduceNegSucc, cf, f70]; exact rfl) ?_
     try simp only [za, zj, Cut, if_true]
     apply ze (Or.inr rfl)
     iterate 5 (simp (disch := first | exact dis | fail) only [go_sem, seval, -reduceOfNat, -reduceNegSucc, rdr, litF, hL, hC, litV, flt] <;> exact rfl)
   ·rw [if_neg (fun h => h120 h.1)] at hC
    refine zd (k.eval (by simp (disch := first | exact dis | fail) only [go_sem, seval, -reduceOfNat, -reduceNegSucc, hhx, h120]; exact rfl) ?_)
    simp only [za]
    refine k.eval (by simp (disch := first | exact dis | fail) only [go_sem, seval, -reduceOfNat, -reduceNegSucc, cf, f70]; exact rfl) ?_
    try simp only [za, zj, Cut, if_true]
    apply ze (Or.inr rfl)
    iterate 5 (simp (disch := first | exact dis | fail) only [go_sem, seval, -reduceOfNat, -reduceNegSucc, rdr, litF, hL, hC, litV, flt] <;> exact rfl)
noncomputable def gLit : List AV → St → Option (AV × St) := gM PreL litF
theorem Ze {P : Program} {w0 : World} (B : Bx P w0) {O : Orc} (hO : OrcOk P w0 O) (o1 : O 33 = none) (o2 : O 35 = none) (o3 : O 70 = none)
  (h1 : O 87 = some jz) (h2 : O 69 = some gRun) (h3 : O 108 = some lh) : OrcOk P w0 (withG 90 gLit O) :=
 wN hO (fun b p _ => Je _ _) fun b p hx => VG B hO o1 o2 o3 h1 h2 h3 b p hx
set_option maxRecDepth 100000
def setC : List AV := (List.range 256).map fun c => .bool (yD c)
def yl : AObj := .row 164 setC false false
def kH : List Nat := [48, 49, 50, 51, 52, 53, 54, 55, 56, 57]
theorem kC : setC.length = 256 := by simp [setC]
theorem kY : zu setC = true := by decide +kernel
theorem zwW : okV (.tup [.agg setC, .bool true]) ((evT env noO 1000).call 125 [.str kH] s0) = true := by decide +kernel
noncomputable def gMk : List AV → St → Option (AV × St) := orc0 (fun _ : Unit => [.str kH]) (fun _ => True) (fun _ => .tup [.agg setC, .bool true])
theorem zzx {P : Program} {w0 : World} (B : Bx P w0) {O : Orc} (hO : OrcOk P w0 O) : OrcOk P w0 (withG 125 gMk O) :=
 hO.withG yV (wP false (fun _ => rfl) (fun _ => by simp only [yF, zB, wA, kY, wX, zI, Bool.and_self]) fun _ _ => WF (xr P w0) B.mixed B.glob B.env zwW)
theorem zz1 {O : Orc} (h : O 125 = some gMk) (st : St) : (evW env O).call 125 [.str [48, 49, 50, 51, 52, 53, 54, 55, 56, 57]] st = some (.tup [.agg setC, .bool true], st) := by
 rw [zJ h, gMk, yM (fun _ _ _ => rfl) st () trivial rfl]
open Classical in
noncomputable def gTrm (F : List Nat → List Nat) (args : List AV) (s : St) : Option (AV × St) :=
 match args with
 | [.str t, .ptr id 0] => if s.get id = some yl ∧ Byt t ∧ t.length < 1000000 then some (.str (F t), s) else none
 | _ => none
theorem X9 {F : List Nat → List Nat} {args : List AV} {s : St} {v : AV} {s' : St} (h : gTrm F args s = some (v, s')) : ∃ t id, args = [.str t, .ptr id 0] ∧ s.get id = some yl ∧ Byt t ∧ t.length < 1000000 ∧ v = .str (F t) ∧ s' = s := by
 unfold gTrm at h
 split at h
 ·rename_i t id
  split at h
  ·rename_i hh; cases h; exact ⟨t, id, rfl, hh.1, hh.2.1, hh.2.2, rfl, rfl⟩
  ·cases h
 ·cases h
theorem PU {F : List Nat → List Nat} (args : List AV) (s : St) (v : AV) (s' : St) (h : gTrm F args s = some (v, s')) : Ext s s' := by
 obtain ⟨_, _, _, _, _, _, _, rfl⟩ := X9 h; exact Ext.refl _
theorem ZV {P : Program} {w0 : World} {O : Orc} (hO : OrcOk P w0 O) {f : Nat} {F : List Nat → List Nat} (h : ∀ t, Byt t → t.length < 1000000 → SC P w0 f [.str t, .ptr 0 0] (H [some yl] 0 true) (.str (F t)) (H [some yl] 0 true)) : OrcOk P w0 (withG f (gTrm F) O) :=
 hO.withG PU fun args s v s' hg => by
  obtain ⟨t, id, rfl, hs, hb, hl, rfl, rfl⟩ := X9 hg
  refine SC.up1g (h t hb hl) kY rfl (fun φ B xs hB hx => ?_) hs
  simp only [VRL] at hx ⊢
  obtain ⟨y, ys, rfl, hy, z, zs, rfl, hz, rfl⟩ := hx
  refine ⟨y, _, rfl, ?_, z, _, rfl, ?_, rfl⟩
  ·simp only [VR] at hy ⊢; exact hy
  ·simp only [VR] at hz ⊢
   obtain ⟨B', hB', e'⟩ := hz
   rw [hB] at hB'; cases hB'
   exact ⟨B, Phi.one_0 φ B, e'⟩
theorem WE {O : Orc} {f : Nat} {F : List Nat → List Nat} (h : O f = some (gTrm F)) {t : List Nat} (hb : Byt t) (hl : t.length < 1000000) (l : List (Nat × Option AObj)) (n m : Nat) (md : Bool) (id : Nat) (hg : getA l id = some (.row 164 setC false false)) :
  (evW env O).call f [.str t, .ptr id 0] (KL l n m md [] none) = some (.str (F t), KL l n m md [] none) := by
 rw [zJ h]
 simp only [gTrm]
 rw [if_pos ⟨by rw [xj, hg]; rfl, hb, hl⟩]
theorem G6 {c : Nat} (hc : c < 256) : VT (yz 1 (yw c setC)) = some (.bool (yD c)) := by
 rw [xu, List.drop_eq_getElem_cons (by rw [kC]; exact hc)]
 show some (setC[c]'(by rw [kC]; exact hc)) = _
 simp only [setC, List.getElem_map, List.getElem_range]
theorem Wn : ∀ {l vs : List AV}, l.length = vs.length → over l vs = some vs
 | [], [], _ => rfl
 | [], _ :: _, h => by cases h
 | _ :: _, [], h => by cases h
 | x :: l, y :: vs, h => by
  have := Wn (l := l) (vs := vs) (by simpa using h)
  simp only [over, this]
theorem KC : lenN setC = 256 := by rw [ye, kC]
theorem Gw : z5 setC = true := by decide +kernel
def trL (p : Nat → Bool) (s : List Nat) : List Nat := s.dropWhile p
theorem Wl (p : Nat → Bool) (x : Nat) (r : List Nat) : trL p (x :: r) = if p x = true then trL p r else x :: r := by
 simp only [trL, List.dropWhile_cons]
theorem UR (p : Nat → Bool) (s : List Nat) : (trL p s).length ≤ s.length := (List.dropWhile_sublist p).length_le
theorem zw7 {P : Program} {w0 : World} (B : Bx P w0) {O : Orc} (hO : OrcOk P w0 O) (s : List Nat) (c : Nat) (hl : s.length < 1000000) :
  SC P w0 123 [.str s, .int .u8 (.ofNat c)] (H [] 0 true) (.str (trL (fun x => x == c) s)) (H [] 0 true) := by
 refine Is.sc hO B.mixed B.glob B.env 0 (show env.funs.get 123 = some f123 from rfl) (Nat.le_of_ble_eq_true rfl) xf fun C k => ?_
 unfold f123
 simp only [Ko, Kg, Ki]
 refine zd (k.eval (by simp (disch := first | exact dis | fail) only [go_sem, seval, -reduceOfNat, -reduceNegSucc]; exact rfl) ?_)
 simp only [za]
 refine xO ⟨tmL [(0, .str (trL (fun x => x == c) s))], []⟩ (H [] 0 true) (zW (yb (k.gcL [] [1, 0] true (fr1 := ⟨tmL [(1, .int .u8 (.ofNat c)), (0, .str s)], []⟩) (s1 := H [] 0 true) (by simp (disch := first | exact dis | fail) only [go_sem, seval, -reduceOfNat, -reduceNegSucc]) ?_))) ?_
 ·refine yh (fun t : List Nat => t.length) (fun t => ⟨tmL [(1, .int .u8 (.ofNat c)), (0, .str t)], []⟩) (fun _ => H [] 0 true) (fun t => trL (fun x => x == c) t = trL (fun x => x == c) s ∧ t.length < 1000000) (fun t ht => ?_) s ⟨rfl, hl⟩
  obtain ⟨g1, g2⟩ := ht
  cases t with
  | nil =>
   have g1' : trL (fun x => x == c) s = [] := g1.symm
   refine k.eval (by simp (disch := first | exact dis | fail) only [go_sem, seval, -reduceOfNat, -reduceNegSucc]; exact rfl) ?_
   try simp only [za, zj, Cut]
   refine k.gcs (keep := []) (live := [0]) (md := true) ?_
   simp (disch := first | exact dis | fail) only [go_sem, seval, -reduceOfNat, -reduceNegSucc, g1']
  | cons x r =>
   simp only [List.length_cons] at g2
   by_cases hx : x = c
   ·subst hx
    have g1' : trL (fun y => y == x) r = trL (fun y => y == x) s := by rw [← g1]; simp [trL]
    refine k.eval (by simp (disch := first | exact dis | fail) only [go_sem, seval, -reduceOfNat, -reduceNegSucc, vF, kF]; exact rfl) ?_
    try simp only [za]
    refine ⟨r, ⟨g1', by omega⟩, by simp, ?_⟩
    refine k.gcs (keep := []) (live := [1, 0]) (md := true) ?_
    simp (disch := first | exact dis | fail) only [go_sem, seval, -reduceOfNat, -reduceNegSucc]
   ·have g1' : trL (fun y => y == c) s = x :: r := by rw [← g1]; simp [trL, hx]
    refine k.eval (by simp (disch := first | exact dis | fail) only [go_sem, seval, -reduceOfNat, -reduceNegSucc, vF, hx]; exact rfl) ?_
    try simp only [za, zj, Cut]
    refine k.gcs (keep := []) (live := [0]) (md := true) ?_
    simp (disch := first | exact dis | fail) only [go_sem, seval, -reduceOfNat, -reduceNegSucc, g1']
 ·
  refine zd (k.eval (by simp (disch := first | exact dis | fail) only [go_sem, seval, -reduceOfNat, -reduceNegSucc]; exact rfl) ?_)
  simp only [za]
  refine k.eval (by simp (disch := first | exact dis | fail) only [go_sem, seval, -reduceOfNat, -reduceNegSucc]; exact rfl) ?_
  try simp only [za, zj, Cut, if_true]
  apply ze (Or.inr rfl)
  iterate 5 (simp (disch := first | exact dis | fail) only [go_sem, seval, -reduceOfNat, -reduceNegSucc] <;> exact rfl)
theorem zwM {P : Program} {w0 : World} (B : Bx P w0) {O : Orc} (hO : OrcOk P w0 O) (o1 : O 138 = none) (s : List Nat) (hb : Byt s) (hl : s.length < 1000000) :
  SC P w0 126 [.str s, .ptr 0 0] (H [some yl] 0 true) (.str (trL yD s)) (H [some yl] 0 true) := by
 refine Is.sc hO B.mixed B.glob B.env 0 (show env.funs.get 126 = some f126 from rfl) (Nat.le_of_ble_eq_true rfl) xf fun C k => ?_
 have cc := @zQ env O _ _ o1 (show env.funs.get 138 = some f138 from rfl) rfl
 unfold f126
 simp only [Ko, Ki]
 refine zd (k.eval (by simp (disch := first | exact dis | fail) only [go_sem, seval, -reduceOfNat, -reduceNegSucc]; exact rfl) ?_)
 simp only [za]
 refine xO ⟨tmL [(0, .str (trL yD s))], []⟩ (H [some yl] 0 true) (zW (yb (k.gcL [] [1, 0] true (fr1 := ⟨tmL [(1, .ptr 0 0), (0, .str s)], []⟩) (s1 := H [some yl] 0 true) (by simp (disch := first | exact dis | fail) only [go_sem, seval, -reduceOfNat, -reduceNegSucc, yl]) ?_))) ?_
 ·refine yh (fun t : List Nat => t.length) (fun t => ⟨tmL [(1, .ptr 0 0), (0, .str t)], []⟩) (fun _ => H [some yl] 0 true) (fun t => trL yD t = trL yD s ∧ t.length < 1000000 ∧ Byt t) (fun t ht => ?_) s ⟨rfl, hl, hb⟩
  obtain ⟨g1, g2, g3⟩ := ht
  cases t with
  | nil =>
   have g1' : trL yD s = [] := g1.symm
   refine k.eval (by simp (disch := first | exact dis | fail) only [go_sem, seval, -reduceOfNat, -reduceNegSucc, yl]; exact rfl) ?_
   try simp only [za, zj, Cut]
   refine k.gcs (keep := []) (live := [0]) (md := true) ?_
   simp (disch := first | exact dis | fail) only [go_sem, seval, -reduceOfNat, -reduceNegSucc, g1', yl]
  | cons x r =>
   simp only [List.length_cons] at g2
   have hx := g3.cons.1
   have hld := G6 hx
   rw [Wl] at g1
   cases hd : yD x with
   | true =>
    rw [if_pos hd] at g1
    refine k.eval (by simp (disch := first | exact dis | fail) only [go_sem, seval, -reduceOfNat, -reduceNegSucc, vF, kF, cc, f138, yl, hld, hd]; exact rfl) ?_
    try simp only [za]
    refine ⟨r, ⟨g1, by omega, g3.cons.2⟩, by simp, ?_⟩
    refine k.gcs (keep := []) (live := [1, 0]) (md := true) ?_
    simp (disch := first | exact dis | fail) only [go_sem, seval, -reduceOfNat, -reduceNegSucc, yl]
   | false =>
    rw [if_neg (by rw [hd]; simp)] at g1
    refine k.eval (by simp (disch := first | exact dis | fail) only [go_sem, seval, -reduceOfNat, -reduceNegSucc, vF, cc, f138, yl, hld, hd]; exact rfl) ?_
    try simp only [za, zj, Cut]
    refine k.gcs (keep := []) (live := [0]) (md := true) ?_
    simp (disch := first | exact dis | fail) only [go_sem, seval, -reduceOfNat, -reduceNegSucc, ← g1, yl]
 ·
  refine zd (k.eval (by simp (disch := first | exact dis | fail) only [go_sem, seval, -reduceOfNat, -reduceNegSucc]; exact rfl) ?_)
  simp only [za]
  refine k.eval (by simp (disch := first | exact dis | fail) only [go_sem, seval, -reduceOfNat, -reduceNegSucc]; exact rfl) ?_
  try simp only [za, zj, Cut, if_true]
  apply ze (Or.inr rfl)
  iterate 5 (simp (disch := first | exact dis | fail) only [go_sem, seval, -reduceOfNat, -reduceNegSucc, yl] <;> exact rfl)
theorem Pr (t : List Nat) : t = [] ∨ ∃ u x, t = u ++ [x] := by
 rcases List.eq_nil_or_concat t with h | ⟨u, x, h⟩
 ·exact .inl h
 ·exact .inr ⟨u, x, by rw [h, List.concat_eq_append]⟩
def trR (p : Nat → Bool) (s : List Nat) : List Nat := (s.reverse.dropWhile p).reverse
theorem zz6 (p : Nat → Bool) (u : List Nat) (x : Nat) : trR p (u ++ [x]) = if p x = true then trR p u else u ++ [x] := by
 simp only [trR, List.reverse_append, List.reverse_cons, List.reverse_nil, List.nil_append, List.singleton_append, List.dropWhile_cons]
 split
 ·rfl
 ·simp
theorem zy4 {p : Nat → Bool} {s : List Nat} (h : Byt s) : Byt (trR p s) := fun x hx => h x (List.mem_reverse.1 ((List.dropWhile_sublist p).mem (List.mem_reverse.1 hx)))
theorem zx5 (p : Nat → Bool) (s : List Nat) : (trR p s).length ≤ s.length := by
 simp only [trR, List.length_reverse]
 have := (List.dropWhile_sublist p (l := s.reverse)).length_le
 rwa [List.length_reverse] at this
theorem Ho (u : List Nat) (x : Nat) : getS (u ++ [x]) u.length = some x := by rw [Y9]; simp
theorem zyC (u : List Nat) (x : Nat) (k : IntKind) : vSls (.str (u ++ [x])) none (some (.int k (.ofNat u.length))) = some (.str u) := by
 simp only [vSls, bnd, ye, List.length_append, List.length_cons, List.length_nil, zL.2 (show u.length ≤ u.length + (0 + 1) by omega), cond_true, u7, vX, List.drop_zero]
 show some (AV.str ((u ++ [x]).take (u.length - 0))) = _
 simp
theorem zws {P : Program} {w0 : World} (B : Bx P w0) {O : Orc} (hO : OrcOk P w0 O) (o1 : O 138 = none) (s : List Nat) (hb : Byt s) (hl : s.length < 1000000) :
  SC P w0 127 [.str s, .ptr 0 0] (H [some yl] 0 true) (.str (trR yD s)) (H [some yl] 0 true) := by
 refine Is.sc hO B.mixed B.glob B.env 0 (show env.funs.get 127 = some f127 from rfl) (Nat.le_of_ble_eq_true rfl) xf fun C k => ?_
 have cc := @zQ env O _ _ o1 (show env.funs.get 138 = some f138 from rfl) rfl
 unfold f127
 simp only [Ko, Ki]
 refine zd (k.eval (by simp (disch := first | exact dis | fail) only [go_sem, seval, -reduceOfNat, -reduceNegSucc]; exact rfl) ?_)
 simp only [za]
 refine xO ⟨tmL [(0, .str (trR yD s))], []⟩ (H [some yl] 0 true) (zW (yb (k.gcL [] [1, 0] true (fr1 := ⟨tmL [(1, .ptr 0 0), (0, .str s)], []⟩) (s1 := H [some yl] 0 true) (by simp (disch := first | exact dis | fail) only [go_sem, seval, -reduceOfNat, -reduceNegSucc, yl]) ?_))) ?_
 ·refine yh (fun t : List Nat => t.length) (fun t => ⟨tmL [(1, .ptr 0 0), (0, .str t)], []⟩) (fun _ => H [some yl] 0 true) (fun t => trR yD t = trR yD s ∧ t.length < 1000000 ∧ Byt t) (fun t ht => ?_) s ⟨rfl, hl, hb⟩
  obtain ⟨g1, g2, g3⟩ := ht
  rcases Pr t with rfl | ⟨u, x, rfl⟩
  ·have g1' : trR yD s = [] := g1.symm
   refine k.eval (by simp (disch := first | exact dis | fail) only [go_sem, seval, -reduceOfNat, -reduceNegSucc, yl]; exact rfl) ?_
   try simp only [za, zj, Cut]
   refine k.gcs (keep := []) (live := [0]) (md := true) ?_
   simp (disch := first | exact dis | fail) only [go_sem, seval, -reduceOfNat, -reduceNegSucc, g1', yl]
  ·have hx : x < 256 := g3 x (by simp)
   have hu : Byt u := fun y hy => g3 y (by simp [hy])
   have e1 : (u ++ [x]).length = u.length + 1 := by simp
   have e2 : u.length + 1 - 1 = u.length := by omega
   rw [e1] at g2
   have hld := G6 hx
   have hg := Ho u x
   have hs := fun k => zyC u x k
   rw [zz6] at g1
   revert g1 e1 hg hs
   generalize u ++ [x] = t
   intro g1 e1 hg hs
   cases hd : yD x with
   | true =>
    rw [if_pos hd] at g1
    refine k.eval (by simp (disch := first | exact dis | fail) only [go_sem, seval, -reduceOfNat, -reduceNegSucc, hg, hs, e1, e2, cc, f138, yl, hld, hd]; exact rfl) ?_
    try simp only [za]
    refine ⟨u, ⟨g1, by omega, hu⟩, by omega, ?_⟩
    refine k.gcs (keep := []) (live := [1, 0]) (md := true) ?_
    simp (disch := first | exact dis | fail) only [go_sem, seval, -reduceOfNat, -reduceNegSucc, yl]
   | false =>
    rw [if_neg (by rw [hd]; simp)] at g1
    refine k.eval (by simp (disch := first | exact dis | fail) only [go_sem, seval, -reduceOfNat, -reduceNegSucc, hg, e1, e2, cc, f138, yl, hld, hd]; exact rfl) ?_
    try simp only [za, zj, Cut]
    refine k.gcs (keep := []) (live := [0]) (md := true) ?_
    simp (disch := first | exact dis | fail) only [go_sem, seval, -reduceOfNat, -reduceNegSucc, ← g1, yl]
 ·
  refine zd (k.eval (by simp (disch := first | exact dis | fail) only [go_sem, seval, -reduceOfNat, -reduceNegSucc]; exact rfl) ?_)
  simp only [za]
  refine k.eval (by simp (disch := first | exact dis | fail) only [go_sem, seval, -reduceOfNat, -reduceNegSucc]; exact rfl) ?_
  try simp only [za, zj, Cut, if_true]
  apply ze (Or.inr rfl)
  iterate 5 (simp (disch := first | exact dis | fail) only [go_sem, seval, -reduceOfNat, -reduceNegSucc, yl] <;> exact rfl)
set_option maxRecDepth 100000
theorem XG (s : List Nat) : trL yD (trR yD s) = [] ↔ s.all yD = true := by
 have h1 : ∀ l : List Nat, trL yD l = [] ↔ ∀ x ∈ l, yD x = true := by
  intro l
  induction l with
  | nil => simp [trL]
  | cons x r ih =>
   rw [Wl]
   cases hx : yD x with
   | true => rw [if_pos rfl, ih]; simp [hx]
   | false => simp [hx]
 rw [h1, List.all_eq_true]
 constructor
 ·intro h x hx
  rcases Bool.eq_false_or_eq_true (yD x) with h2 | h2
  ·exact h2
  ·have : ∀ l : List Nat, x ∈ l → yD x = false → x ∈ l.dropWhile yD := by
    intro l
    induction l with
    | nil => intro h; cases h
    | cons y r ih =>
     intro hm hf
     rw [List.dropWhile_cons]
     cases hy : yD y with
     | true =>
      rw [if_pos rfl]
      rcases List.mem_cons.1 hm with rfl | hm
      ·rw [hf] at hy; cases hy
      ·exact ih hm hf
     | false => rw [if_neg (by simp)]; exact hm
   exact h x (List.mem_reverse.2 (this s.reverse (List.mem_reverse.2 hx) h2))
 ·intro h x hx
  exact h x (List.mem_reverse.1 ((List.dropWhile_sublist yD).mem (List.mem_reverse.1 hx)))
theorem zy0 {P : Program} {w0 : World} (B : Bx P w0) {O : Orc} (hO : OrcOk P w0 O) (h125 : O 125 = some gMk) (h126 : O 126 = some (gTrm (trL yD))) (h127 : O 127 = some (gTrm (trR yD))) (s : List Nat) (hb : Byt s) (hl : s.length < 1000000) (h0 : ¬ s = []) :
  SC P w0 109 [.str s, .str kH] (H [] 0 true) (.str (trL yD (trR yD s))) (H [] 0 true) := by
 refine Is.sc hO B.mixed B.glob B.env 0 (show env.funs.get 109 = some f109 from rfl) (Nat.le_of_ble_eq_true rfl) xf fun C k => ?_
 have hmk := fun st => zz1 (O := O) h125 st
 have hb2 := zy4 (p := yD) hb
 have hl2 := Nat.lt_of_le_of_lt (zx5 yD s) hl
 have hR := fun l n m md => WE (O := O) h127 hb hl l n m md 0
 have hL := fun l n m md => WE (O := O) h126 hb2 hl2 l n m md 0
 have hov : ∀ l : List AV, l.length = 256 → over l setC = some setC := fun l h => Wn (by rw [h, kC])
 unfold f109
 simp only [Ko, Kg, Kn, Kd, Ki]
 refine zd (k.eval (by simp (disch := first | exact dis | fail) only [go_sem, seval, -reduceOfNat, -reduceNegSucc, kH]; exact rfl) ?_)
 simp only [za]
 refine zd (k.eval (by simp (disch := first | exact dis | fail) only [go_sem, seval, -reduceOfNat, -reduceNegSucc, h0]; exact rfl) ?_)
 simp only [za]
 refine zd (k.eval (by simp (disch := first | exact dis | fail) only [go_sem, seval, -reduceOfNat, -reduceNegSucc]; exact rfl) ?_)
 simp only [za]
 refine zd ?_
 refine zd (k.eval (by simp (disch := first | exact dis | fail) only [go_sem, seval, -reduceOfNat, -reduceNegSucc, hmk, hov, KC, Gw]; exact rfl) ?_)
 simp only [za]
 refine k.gc [0] [6, 5, 0] true (fr1 := ⟨tmL [(6, .bool true), (5, .ptr 0 0), (0, .str s)], []⟩) (s1 := H [some yl] 0 true) (by simp (disch := first | exact dis | fail) only [go_sem, seval, -reduceOfNat, -reduceNegSucc, yl, kY]) ?_
 refine k.eval (by simp (disch := first | exact dis | fail) only [go_sem, seval, -reduceOfNat, -reduceNegSucc, yl, hR, hL]; exact rfl) ?_
 try simp only [za]
 apply ze (Or.inr rfl)
 iterate 5 (simp (disch := first | exact dis | fail) only [go_sem, seval, -reduceOfNat, -reduceNegSucc] <;> exact rfl)
def WW (cs : List Nat) (s : List Nat) : List AV := [.str s, .str cs]
theorem K3 (cs : List Nat) : ∀ x y, WW cs x = WW cs y → x = y := fun x y h => by
 simp only [WW, List.cons.injEq, AV.str.injEq, and_true] at h; exact h
def Uz (s : List Nat) : Prop := Byt s ∧ s.length < 1000000 ∧ ¬ s = []
noncomputable def gTr (cs : List Nat) (F : List Nat → List Nat) : List AV → St → Option (AV × St) := orc0 (WW cs) Uz (fun s => .str (F s))
theorem UY {O : Orc} {f : Nat} {cs : List Nat} {F : List Nat → List Nat} (h : O f = some (gTr cs F)) {s : List Nat} (h1 : Byt s) (h2 : s.length < 1000000) (h3 : ¬ s = []) (st : St) : (evW env O).call f [.str s, .str cs] st = some (.str (F s), st) := by
 rw [zJ h, gTr, yM (K3 cs) st s ⟨h1, h2, h3⟩ rfl]
theorem WC {P : Program} {w0 : World} {O : Orc} (hO : OrcOk P w0 O) {f : Nat} {cs : List Nat} {F : List Nat → List Nat} (h : ∀ s, Uz s → SC P w0 f [.str s, .str cs] (H [] 0 true) (.str (F s)) (H [] 0 true)) : OrcOk P w0 (withG f (gTr cs F) O) :=
 hO.withG yV (wP true (fun s => by simp only [WW, zB, yZ, zI, Bool.and_self]) (fun _ => rfl) fun s hs => ⟨_, h s hs⟩)
def gl (s : List Nat) : List Nat := trL yD (trR yD s)
theorem QV {P : Program} {w0 : World} (B : Bx P w0) {O : Orc} (hO : OrcOk P w0 O) : OrcOk P w0 (withG 109 (gTr kH gl) O) := by
 have h1 : OrcOk P w0 (withG 126 (gTrm (trL yD)) noO) := ZV (xr P w0) fun t hb hl => zwM B (xr P w0) rfl t hb hl
 have h2 : OrcOk P w0 (withG 127 (gTrm (trR yD)) (withG 126 (gTrm (trL yD)) noO)) := ZV h1 fun t hb hl => zws B (xr P w0) rfl t hb hl
 have h3 := zzx B h2
 exact WC hO fun s hs => zy0 B h3 rfl rfl rfl s hs.1 hs.2.1 hs.2.2
def wc (s : List Nat) : List Nat := trL (fun x => x == 48) s
theorem zvk {P : Program} {w0 : World} (B : Bx P w0) {O : Orc} (hO : OrcOk P w0 O) (h123 : ∀ s : List Nat, s.length < 1000000 → ∀ st, (evW env O).call 123 [.str s, .int .u8 (.ofNat 48)] st = some (.str (wc s), st)) (s : List Nat) (hl : s.length < 1000000) (h0 : ¬ s = []) :
  SC P w0 110 [.str s, .str [48]] (H [] 0 true) (.str (wc s)) (H [] 0 true) := by
 refine Is.sc hO B.mixed B.glob B.env 0 (show env.funs.get 110 = some f110 from rfl) (Nat.le_of_ble_eq_true rfl) xf fun C k => ?_
 have h1 := h123 s hl
 unfold f110
 simp only [Ko, Kg, Kn, Ki]
 refine zd (k.eval (by simp (disch := first | exact dis | fail) only [go_sem, seval, -reduceOfNat, -reduceNegSucc]; exact rfl) ?_)
 simp only [za]
 refine zd (k.eval (by simp (disch := first | exact dis | fail) only [go_sem, seval, -reduceOfNat, -reduceNegSucc, h0]; exact rfl) ?_)
 simp only [za]
 refine k.eval (by simp (disch := first | exact dis | fail) only [go_sem, seval, -reduceOfNat, -reduceNegSucc, h1, vF]; exact rfl) ?_
 try simp only [za, zj, Cut, if_true]
 apply ze (Or.inr rfl)
 iterate 5 (simp (disch := first | exact dis | fail) only [go_sem, seval, -reduceOfNat, -reduceNegSucc] <;> exact rfl)
def Xt (s : List Nat) : List AV := [.str s, .int .u8 (.ofNat 48)]
theorem J2 : ∀ x y, Xt x = Xt y → x = y := fun x y h => by
 simp only [Xt, List.cons.injEq, AV.str.injEq, and_true] at h; exact h
noncomputable def gT0 : List AV → St → Option (AV × St) := orc0 Xt (fun s => s.length < 1000000) (fun s => .str (wc s))
theorem J6 {P : Program} {w0 : World} (B : Bx P w0) {O : Orc} (hO : OrcOk P w0 O) : OrcOk P w0 (withG 110 (gTr [48] wc) O) := by
 have h1 : OrcOk P w0 (withG 123 gT0 noO) := (xr P w0).withG yV (wP true (fun s => by simp only [Xt, zB, yZ, yu, zI, Bool.and_self]) (fun _ => rfl) fun s hs => ⟨_, zw7 B (xr P w0) s 48 hs⟩)
 exact WC hO fun s hs => zvk B h1 (fun t ht st => by rw [zJ rfl, gT0, yM J2 st t ht rfl]) s hs.2.1 hs.2.2
def digR : List Nat → List Nat
 | [] => []
 | c :: r => if c = 43 ∨ c = 45 then r else c :: r
def intS (c : Nat) (d : List Nat) : List Nat := if d = [] then [48] else if c = 45 then 45 :: d else d
def intR (run : List Nat) : Option (List Nat) := if digR run = [] ∨ ¬ (digR run).all yD = true then none else some (intS (run.headD 0) (wc (digR run)))
def lK (run : List Nat) : AV := match intR run with
 | some s => .tup [.str s, .bool true]
 | none => .tup [.str [], .bool false]
theorem Vi (run : List Nat) : zD (lK run) = true := by
 unfold lK; split <;> simp only [yF, zB, yZ, wX, zI, Bool.and_self]
theorem Vw {P : Program} {w0 : World} (B : Bx P w0) {O : Orc} (hO : OrcOk P w0 O) (h109 : O 109 = some (gTr kH gl)) (h110 : O 110 = some (gTr [48] wc)) (s : List Nat) (hb : Byt s) (hl : s.length < 1000000) (h0 : ¬ s = []) :
  SC P w0 93 [.str s] (H [] 0 true) (lK s) (H [] 0 true) := by
 refine Is.sc hO B.mixed B.glob B.env 0 (show env.funs.get 93 = some f93 from rfl) (Nat.le_of_ble_eq_true rfl) xf fun C k => ?_
 have ht := fun {t} h1 h2 h3 st => UY (O := O) h109 (s := t) h1 h2 h3 st
 have ht0 := fun {t} h1 h2 h3 st => UY (O := O) h110 (s := t) h1 h2 h3 st
 simp only [kH] at ht
 unfold f93
 simp only [Ko, Kg, Ki]
 cases s with
 | nil => exact absurd rfl h0
 | cons c r =>
 obtain ⟨hc, hr⟩ := hb.cons
 simp only [List.length_cons] at hl
 have hD : digR (c :: r) = if c = 43 ∨ c = 45 then r else c :: r := rfl
 refine zd (k.eval (by simp (disch := first | exact dis | fail) only [go_sem, seval, -reduceOfNat, -reduceNegSucc]; exact rfl) ?_)
 simp only [za]
 refine zd (k.eval (by simp (disch := first | exact dis | fail) only [go_sem, seval, -reduceOfNat, -reduceNegSucc]; exact rfl) ?_)
 simp only [za]
 refine xO ⟨tmL [(4, .str (digR (c :: r))), (0, .str (c :: r))], []⟩ (H [] 0 true) ?_ ?_
 ·by_cases h43 : c = 43
  ·subst h43
   rw [if_pos (.inl rfl)] at hD
   refine k.eval (by simp (disch := first | exact dis | fail) only [go_sem, seval, -reduceOfNat, -reduceNegSucc, vF, kF]; exact rfl) ?_
   try simp only [Cut]
   refine k.gcs (keep := []) (live := [4, 0]) (md := true) ?_
   simp (disch := first | exact dis | fail) only [go_sem, seval, -reduceOfNat, -reduceNegSucc, hD]
  ·by_cases h45 : c = 45
   ·subst h45
    rw [if_pos (.inr rfl)] at hD
    refine k.eval (by simp (disch := first | exact dis | fail) only [go_sem, seval, -reduceOfNat, -reduceNegSucc, vF, kF]; exact rfl) ?_
    try simp only [Cut]
    refine k.gcs (keep := []) (live := [4, 0]) (md := true) ?_
    simp (disch := first | exact dis | fail) only [go_sem, seval, -reduceOfNat, -reduceNegSucc, hD]
   ·rw [if_neg (fun h => h.elim h43 h45)] at hD
    refine k.eval (by simp (disch := first | exact dis | fail) only [go_sem, seval, -reduceOfNat, -reduceNegSucc, vF, h43, h45]; exact rfl) ?_
    try simp only [Cut]
    refine k.gcs (keep := []) (live := [4, 0]) (md := true) ?_
    simp (disch := first | exact dis | fail) only [go_sem, seval, -reduceOfNat, -reduceNegSucc, hD]
 have hDb : Byt (digR (c :: r)) := by
  rw [hD]; split
  ·exact hr
  ·exact hb
 have hDl : (digR (c :: r)).length < 1000000 := by
  rw [hD]; split
  ·omega
  ·simp only [List.length_cons]; omega
 have hI : lK (c :: r) = match intR (c :: r) with
  | some s => .tup [.str s, .bool true]
  | none => .tup [.str [], .bool false] := rfl
 have hR : intR (c :: r) = if digR (c :: r) = [] ∨ ¬ (digR (c :: r)).all yD = true then none else some (intS c (wc (digR (c :: r)))) := rfl
 revert hDb hDl hR
 generalize digR (c :: r) = D
 intro hDb hDl hR
 by_cases hn : D = []
 ·rw [if_pos (.inl hn)] at hR
  rw [hI, hR]
  simp only
  refine k.eval (by simp (disch := first | exact dis | fail) only [go_sem, seval, -reduceOfNat, -reduceNegSucc, hn]; exact rfl) ?_
  try simp only [za, zj, Cut, if_true]
  apply ze (Or.inr rfl)
  iterate 5 (simp (disch := first | exact dis | fail) only [go_sem, seval, -reduceOfNat, -reduceNegSucc] <;> exact rfl)
 have ht1 := fun st => ht hDb hDl hn st
 have ht2 := fun st => ht0 hDb hDl hn st
 by_cases hall : D.all yD = true
 ·rw [if_neg (fun h => h.elim hn (fun h => h hall))] at hR
  have e1 : gl D = [] := (XG D).2 hall
  rw [hI, hR]
  simp only
  refine zd (k.eval (by simp (disch := first | exact dis | fail) only [go_sem, seval, -reduceOfNat, -reduceNegSucc, hn, ht1, e1]; exact rfl) ?_)
  simp only [za]
  refine zd (k.eval (by simp (disch := first | exact dis | fail) only [go_sem, seval, -reduceOfNat, -reduceNegSucc, ht2]; exact rfl) ?_)
  simp only [za]
  have hTl : 1 + (wc D).length < 9223372036854775808 := by have := UR (fun x => x == 48) D; unfold wc; omega
  by_cases h00 : wc D = []
  ·have e2 : intS c (wc D) = [48] := by unfold intS; rw [if_pos h00]
   refine k.eval (by simp (disch := first | exact dis | fail) only [go_sem, seval, -reduceOfNat, -reduceNegSucc, h00]; exact rfl) ?_
   try simp only [za, zj, Cut, if_true]
   apply ze (Or.inr rfl)
   iterate 5 (simp (disch := first | exact dis | fail) only [go_sem, seval, -reduceOfNat, -reduceNegSucc, e2] <;> exact rfl)
  ·by_cases h45 : c = 45
   ·have e2 : intS c (wc D) = 45 :: wc D := by unfold intS; rw [if_neg h00, if_pos h45]
    have e3 : binS .add [45] (wc D) = some (.str (45 :: wc D)) := Qe (by simp only [List.length_cons, List.length_nil]; omega)
    refine k.eval (by simp (disch := first | exact dis | fail) only [go_sem, seval, -reduceOfNat, -reduceNegSucc, h00, vF, h45, e3]; exact rfl) ?_
    try simp only [za, zj, Cut, if_true]
    apply ze (Or.inr rfl)
    iterate 5 (simp (disch := first | exact dis | fail) only [go_sem, seval, -reduceOfNat, -reduceNegSucc, e2] <;> exact rfl)
   ·have e2 : intS c (wc D) = wc D := by unfold intS; rw [if_neg h00, if_neg h45]
    refine k.eval (by simp (disch := first | exact dis | fail) only [go_sem, seval, -reduceOfNat, -reduceNegSucc, h00, vF, h45]; exact rfl) ?_
    try simp only [za, zj, Cut, if_true]
    apply ze (Or.inr rfl)
    iterate 5 (simp (disch := first | exact dis | fail) only [go_sem, seval, -reduceOfNat, -reduceNegSucc, e2] <;> exact rfl)
 ·rw [if_pos (.inr hall)] at hR
  have e1 : ¬ gl D = [] := fun h => hall ((XG D).1 h)
  rw [hI, hR]
  simp only
  refine k.eval (by simp (disch := first | exact dis | fail) only [go_sem, seval, -reduceOfNat, -reduceNegSucc, hn, ht1, e1]; exact rfl) ?_
  try simp only [za, zj, Cut, if_true]
  apply ze (Or.inr rfl)
  iterate 5 (simp (disch := first | exact dis | fail) only [go_sem, seval, -reduceOfNat, -reduceNegSucc] <;> exact rfl)
noncomputable def gInt : List AV → St → Option (AV × St) := orc0 pO Uz lK
theorem PV {O : Orc} (h : O 93 = some gInt) {s : List Nat} (h1 : Byt s) (h2 : s.length < 1000000) (h3 : ¬ s = []) (st : St) : (evW env O).call 93 [.str s] st = some (lK s, st) := by
 rw [zJ h, gInt, yM Z1 st s ⟨h1, h2, h3⟩ rfl]
theorem U3 {P : Program} {w0 : World} (B : Bx P w0) {O : Orc} (hO : OrcOk P w0 O) (h109 : O 109 = some (gTr kH gl)) (h110 : O 110 = some (gTr [48] wc)) : OrcOk P w0 (withG 93 gInt O) :=
 hO.withG yV (wP true (fun s => by simp only [pO, zB, yZ, zI, Bool.and_self]) Vi fun s hs => ⟨_, Vw B hO h109 h110 s hs.1 hs.2.1 hs.2.2⟩)
theorem zi (k p : Nat) (dk dn : Int) (dt : List Nat) (dks : List DT) (dp : Int) : xc ⟨k, p, .mk dk dn dt dks dp⟩ = [.int .i64 (.ofNat k), .int .i64 (.ofNat p), .int .i64 dk, .int .i64 dn, .str dt, .lst dks.length false (zm dks), .int .i64 dp] := by simp only [xc, zb]
def d0 : DT := .mk (.ofNat 0) (.ofNat 0) [] [] (.ofNat 0)
def va (run : List Nat) (p : Nat) : Tok := if run = [46] then ⟨6, p, d0⟩ else match intR run with
 | some s => ⟨7, p, .mk (.ofNat 2) (.ofNat 0) s [] (.ofNat p)⟩
 | none => ⟨7, p, .mk (.ofNat 5) (.ofNat 0) run [] (.ofNat p)⟩
def Qj (x : List Nat × Nat) : List AV := [.str x.1, .int .i64 (.ofNat x.2)]
theorem GD : ∀ x y, Qj x = Qj y → x = y := fun ⟨s, p⟩ ⟨t, q⟩ h => by
 simp only [Qj, List.cons.injEq, AV.str.injEq, AV.int.injEq, true_and, and_true] at h
 obtain ⟨h1, h2⟩ := h
 cases h2; rw [h1]
def zvB (x : List Nat × Nat) : Prop := Uz x.1
theorem zyt {P : Program} {w0 : World} (B : Bx P w0) {O : Orc} (hO : OrcOk P w0 O) (h93 : O 93 = some gInt) (s : List Nat) (p : Nat) (hb : Byt s) (hl : s.length < 1000000) (h0 : ¬ s = []) :
  SC P w0 68 [.str s, .int .i64 (.ofNat p)] (H [] 0 true) (.agg (xc (va s p))) (H [] 0 true) := by
 refine Is.sc hO B.mixed B.glob B.env 0 (show env.funs.get 68 = some f68 from rfl) (Nat.le_of_ble_eq_true rfl) xf fun C k => ?_
 have hi := fun st => PV (O := O) h93 hb hl h0 st
 have hW : va s p = if s = [46] then ⟨6, p, d0⟩ else match intR s with
  | some s => ⟨7, p, .mk (.ofNat 2) (.ofNat 0) s [] (.ofNat p)⟩
  | none => ⟨7, p, .mk (.ofNat 5) (.ofNat 0) s [] (.ofNat p)⟩ := rfl
 unfold f68
 simp only [Ko, Kn, Ki]
 refine zd (k.eval (by simp (disch := first | exact dis | fail) only [go_sem, seval, -reduceOfNat, -reduceNegSucc]; exact rfl) ?_)
 simp only [za]
 by_cases h46 : s = [46]
 ·rw [if_pos h46] at hW
  rw [hW]
  refine k.eval (by simp (disch := first | exact dis | fail) only [go_sem, seval, -reduceOfNat, -reduceNegSucc, h46]; exact rfl) ?_
  try simp only [za, zj, Cut, if_true]
  apply ze (Or.inr rfl)
  iterate 5 (simp (disch := first | exact dis | fail) only [go_sem, seval, -reduceOfNat, -reduceNegSucc, zi, d0, zg] <;> exact rfl)
 rw [if_neg h46] at hW
 unfold lK at hi
 cases hR : intR s with
 | none =>
  simp only [hR] at hW hi
  rw [hW]
  refine zd (k.eval (by simp (disch := first | exact dis | fail) only [go_sem, seval, -reduceOfNat, -reduceNegSucc, h46]; exact rfl) ?_)
  simp only [za]
  refine zd (k.eval (by simp (disch := first | exact dis | fail) only [go_sem, seval, -reduceOfNat, -reduceNegSucc]; exact rfl) ?_)
  simp only [za]
  refine zd (k.eval (by simp (disch := first | exact dis | fail) only [go_sem, seval, -reduceOfNat, -reduceNegSucc, hi]; exact rfl) ?_)
  simp only [za]
  refine k.eval (by simp (disch := first | exact dis | fail) only [go_sem, seval, -reduceOfNat, -reduceNegSucc]; exact rfl) ?_
  try simp only [za, zj, Cut, if_true]
  apply ze (Or.inr rfl)
  iterate 5 (simp (disch := first | exact dis | fail) only [go_sem, seval, -reduceOfNat, -reduceNegSucc, zi, zg] <;> exact rfl)
 | some u =>
  simp only [hR] at hW hi
  rw [hW]
  refine zd (k.eval (by simp (disch := first | exact dis | fail) only [go_sem, seval, -reduceOfNat, -reduceNegSucc, h46]; exact rfl) ?_)
  simp only [za]
  refine zd (k.eval (by simp (disch := first | exact dis | fail) only [go_sem, seval, -reduceOfNat, -reduceNegSucc]; exact rfl) ?_)
  simp only [za]
  refine zd (k.eval (by simp (disch := first | exact dis | fail) only [go_sem, seval, -reduceOfNat, -reduceNegSucc, hi]; exact rfl) ?_)
  simp only [za]
  refine k.eval (by simp (disch := first | exact dis | fail) only [go_sem, seval, -reduceOfNat, -reduceNegSucc]; exact rfl) ?_
  try simp only [za, zj, Cut, if_true]
  apply ze (Or.inr rfl)
  iterate 5 (simp (disch := first | exact dis | fail) only [go_sem, seval, -reduceOfNat, -reduceNegSucc, zi, zg] <;> exact rfl)
noncomputable def Yh : List AV → St → Option (AV × St) := orc0 Qj zvB (fun x => .agg (xc (va x.1 x.2)))
theorem JH {O : Orc} (h : O 68 = some Yh) {s : List Nat} (p : Nat) (h1 : Byt s) (h2 : s.length < 1000000) (h3 : ¬ s = []) (st : St) : (evW env O).call 68 [.str s, .int .i64 (.ofNat p)] st = some (.agg (xc (va s p)), st) := by
 rw [zJ h, Yh, yM GD st (s, p) ⟨h1, h2, h3⟩ rfl]
theorem Vb {P : Program} {w0 : World} (B : Bx P w0) {O : Orc} (hO : OrcOk P w0 O) (h93 : O 93 = some gInt) : OrcOk P w0 (withG 68 Yh O) :=
 hO.withG yV (wP true (fun s => by simp only [Qj, zB, yZ, yu, zI, Bool.and_self]) (fun x => by simp only [wA, qf]) fun x hs => ⟨_, zyt B hO h93 x.1 x.2 hs.1 hs.2.1 hs.2.2⟩)
end Go.Proofs.YthcmnajcjapjbaaGreatDoor.Ev

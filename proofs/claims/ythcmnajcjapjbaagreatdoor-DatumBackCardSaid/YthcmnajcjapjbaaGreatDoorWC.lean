/- Contracts of functions that DatumBack calls: what a call answers, for all data, by symbolic evaluation. No conditions of its own. -/
import Derived.Test.YthcmnajcjapjbaaGreatDoorWB
import Derived.Test.YthcmnajcjapjbaaGreatDoorEvG
import Derived.Test.YthcmnajcjapjbaaGreatDoorWA
import Derived.Lib.AtoiAll
set_option linter.unusedSimpArgs false
set_option linter.unusedVariables false
set_option linter.defProp false
set_option maxHeartbeats 4000000
open List renaming length_cons → yY, length_nil → yX, length_append → ye, cons_append → y8, nil_append → znO, append_nil → xi, dropWhile_sublist → zn2, append_assoc → znY, length_drop → znK, mem_of_mem_drop → znS, dropWhile_cons → zn3, drop_eq_nil_of_le → znQ, length_reverse → zn4, takeWhile_cons → znW, length → yB
open Nat renaming lt_succ_self → yw, le_refl → zq, zero_le → zN, le_of_lt → yJ, lt_of_not_le → yL
open Bool renaming and_self → y6
open List.cons renaming injEq → yZ
open Prod.mk renaming injEq → zA
namespace Go.Proofs.YthcmnajcjapjbaaGreatDoor.Ev
variable {P : Program} {w0 w w' : World} {O : Orc} {s s' : St} {φ : Phi} {v : AV} {b : List Nat} {ts : List Tok} {n : Nat}
open Nat (reduceEqDiff reduceLeDiff reduceLT reduceAdd reduceMul reduceSub reduceMod reducePow reduceDiv reduceOr reduceShiftLeft reduceGT reduceSucc)
open List (length_cons length_nil length_take length_drop)
open Int renaming reduceOfNat → rO, reduceNegSucc → rN
open T
set_option maxRecDepth 100000
def setC : List AV := (List.range 256).map fun c => .bool (x8 c)
def qq : AObj := .row 164 setC false false
def Za : List Nat := [48, 49, 50, 51, 52, 53, 54, 55, 56, 57]
theorem ZE : setC.length = 256 := by simp [setC]
theorem Yv : xz setC = true := by decide +kernel
theorem zok : okV (.tup [.agg setC, .bool true]) ((evT env noO 1000).call 125 [.str Za] s0) = true := by decide +kernel
noncomputable def gMk : List AV → St → Option (AV × St) := orc0 (fun _ : Unit => [.str Za]) (fun _ => True) (fun _ => .tup [.agg setC, .bool true])
theorem zuR (B : Bx P w0) (hO : OrcOk P w0 O) : OrcOk P w0 (withG 125 gMk O) :=
 hO.withG w9 (v5 false (fun _ => rfl) (fun _ => by simp only [wE, xw, vU, Yv, vP, xD, y6]) fun _ _ => WZ (qu P w0) B.mixed B.glob B.env zok)
theorem zr0 (h : O 125 = some gMk) (st : St) : (evW env O).call 125 [.str [48, 49, 50, 51, 52, 53, 54, 55, 56, 57]] st = some (.tup [.agg setC, .bool true], st) := by
 rw [xC h, gMk, we (fun _ _ _ => rfl) st () trivial rfl]
open Classical in
noncomputable def gTrm (F : List Nat → List Nat) (args : List AV) (s : St) : Option (AV × St) :=
 match args with
 | [.str t, .ptr id 0] => if s.get id = some qq ∧ Byt t ∧ t.length < 1000000 then some (.str (F t), s) else none
 | _ => none
theorem J2 {F : List Nat → List Nat} {args : List AV} (h : gTrm F args s = some (v, s')) : ∃ t id, args = [.str t, .ptr id 0] ∧ s.get id = some qq ∧ Byt t ∧ t.length < 1000000 ∧ v = .str (F t) ∧ s' = s := by
 unfold gTrm at h
 split at h
 ·rename_i t id
  split at h
  ·rename_i hh; cases h; exact ⟨t, id, rfl, hh.1, hh.2.1, hh.2.2, rfl, rfl⟩
  ·cases h
 ·cases h
theorem zuc {F : List Nat → List Nat} (args : List AV) (s : St) (v : AV) (s' : St) (h : gTrm F args s = some (v, s')) : Ext s s' := by
 obtain ⟨_, _, _, _, _, _, _, rfl⟩ := J2 h; exact Ext.refl _
theorem V4 (hO : OrcOk P w0 O) {f : Nat} {F : List Nat → List Nat} (h : ∀ t, Byt t → t.length < 1000000 → SC P w0 f [.str t, .ptr 0 0] (H [some qq] 0 true) (.str (F t)) (H [some qq] 0 true)) : OrcOk P w0 (withG f (gTrm F) O) :=
 hO.withG zuc fun args s v s' hg => by
  obtain ⟨t, id, rfl, hs, hb, hl, rfl, rfl⟩ := J2 hg
  refine SC.up1g (h t hb hl) Yv rfl (fun φ B xs hB hx => ?_) hs
  simp only [VRL] at hx ⊢
  obtain ⟨y, ys, rfl, hy, z, zs, rfl, hz, rfl⟩ := hx
  refine ⟨y, _, rfl, ?_, z, _, rfl, ?_, rfl⟩
  ·simp only [VR] at hy ⊢; exact hy
  ·simp only [VR] at hz ⊢
   obtain ⟨B', hB', e'⟩ := hz
   rw [hB] at hB'; cases hB'
   exact ⟨B, Phi.one_0 φ B, e'⟩
theorem GL {f : Nat} {F : List Nat → List Nat} (h : O f = some (gTrm F)) {t : List Nat} (hb : Byt t) (hl : t.length < 1000000) (l : List (Nat × Option AObj)) (n m : Nat) (md : Bool) (id : Nat) (hg : getA l id = some (.row 164 setC false false)) :
  (evW env O).call f [.str t, .ptr id 0] (KL l n m md [] none) = some (.str (F t), KL l n m md [] none) := by
 rw [xC h]
 simp only [gTrm]
 rw [if_pos ⟨by rw [w8, hg]; rfl, hb, hl⟩]
theorem zuy {c : Nat} (hc : c < 256) : Px (wA 1 (wK c setC)) = some (.bool (x8 c)) := by
 rw [qQ, List.drop_eq_getElem_cons (by rw [ZE]; exact hc)]
 show some (setC[c]'(by rw [ZE]; exact hc)) = _
 simp only [setC, List.getElem_map, List.getElem_range]
theorem K7 : ∀ {l vs : List AV}, l.length = vs.length → over l vs = some vs
 | [], [], _ => rfl
 | [], _ :: _, h => by cases h
 | _ :: _, [], h => by cases h
 | x :: l, y :: vs, h => by
  have := K7 (l := l) (vs := vs) (by simpa using h)
  simp only [over, this]
theorem zxE : lenN setC = 256 := by rw [x7, ZE]
theorem zxF : wj setC = true := by decide +kernel
def trL (p : Nat → Bool) (s : List Nat) : List Nat := s.dropWhile p
theorem GI (p : Nat → Bool) (x : Nat) (r : List Nat) : trL p (x :: r) = if p x = true then trL p r else x :: r := by
 simp only [trL, zn3]
theorem zzn (p : Nat → Bool) (s : List Nat) : (trL p s).length ≤ s.length := (zn2 p).length_le
attribute [local go_sem] Z7 ZF in
theorem zop (B : Bx P w0) (hO : OrcOk P w0 O) (s : List Nat) (c : Nat) (hl : s.length < 1000000) :
  SC P w0 123 [.str s, .int .u8 (.ofNat c)] (H [] 0 true) (.str (trL (fun x => x == c) s)) (H [] 0 true) := by
 refine bs B hO f123 fun C k => ?_
 unfold f123
 simp only [Ko, Kg, Ki, KF, Km, Kr, opN]
 refine k.q ?_
 refine ul ⟨tmL [(0, .str (trL (fun x => x == c) s))], []⟩ (H [] 0 true) (xS (x6 (k.gcL [] [1, 0] true (fr1 := ⟨tmL [(1, .int .u8 (.ofNat c)), (0, .str s)], []⟩) (s1 := H [] 0 true) (by simp (disch := first | exact dis | fail) only [go_sem, seval, -rO, -rN]) ?_))) ?_
 ·refine wb (fun t : List Nat => t.length) (fun t => ⟨tmL [(1, .int .u8 (.ofNat c)), (0, .str t)], []⟩) (fun _ => H [] 0 true) (fun t => trL (fun x => x == c) t = trL (fun x => x == c) s ∧ t.length < 1000000) (fun t ht => ?_) s ⟨rfl, hl⟩
  obtain ⟨g1, g2⟩ := ht
  cases t with
  | nil =>
   have g1' : trL (fun x => x == c) s = [] := g1.symm
   refine k.z ?_
   exact k.g [] [0]
  | cons x r =>
   simp only [yY] at g2
   by_cases hx : x = c
   ·subst hx
    have g1' : trL (fun y => y == x) r = trL (fun y => y == x) s := by rw [← g1]; simp [trL]
    refine k.z ?_
    refine ⟨r, ⟨g1', by omega⟩, by simp, ?_⟩
    exact k.g [] [1, 0]
   ·have g1' : trL (fun y => y == c) s = x :: r := by rw [← g1]; simp [trL, hx]
    refine k.z ?_
    exact k.g [] [0]
 ·refine k.q ?_
  refine k.z ?_
  exact fin
attribute [local go_sem] qq Z7 ZF f138 in
theorem zoo (B : Bx P w0) (hO : OrcOk P w0 O) (o1 : O 138 = none) (s : List Nat) (hb : Byt s) (hl : s.length < 1000000) :
  SC P w0 126 [.str s, .ptr 0 0] (H [some qq] 0 true) (.str (trL x8 s)) (H [some qq] 0 true) := by
 refine bs B hO f126 fun C k => ?_
 have cc := ci f138 o1
 unfold f126
 simp only [Ko, Ki, Km, Kr, opN]
 refine k.q ?_
 refine ul ⟨tmL [(0, .str (trL x8 s))], []⟩ (H [some qq] 0 true) (xS (x6 (k.gcL [] [1, 0] true (fr1 := ⟨tmL [(1, .ptr 0 0), (0, .str s)], []⟩) (s1 := H [some qq] 0 true) (by simp (disch := first | exact dis | fail) only [go_sem, seval, -rO, -rN, qq]) ?_))) ?_
 ·refine wb (fun t : List Nat => t.length) (fun t => ⟨tmL [(1, .ptr 0 0), (0, .str t)], []⟩) (fun _ => H [some qq] 0 true) (fun t => trL x8 t = trL x8 s ∧ t.length < 1000000 ∧ Byt t) (fun t ht => ?_) s ⟨rfl, hl, hb⟩
  obtain ⟨g1, g2, g3⟩ := ht
  cases t with
  | nil =>
   have g1' : trL x8 s = [] := g1.symm
   refine k.z ?_
   exact k.g [] [0]
  | cons x r =>
   simp only [yY] at g2
   have hx := g3.cons.1
   have hld := zuy hx
   rw [GI] at g1
   cases hd : x8 x with
   | true =>
    rw [if_pos hd] at g1
    refine k.z ?_
    refine ⟨r, ⟨g1, by omega, g3.cons.2⟩, by simp, ?_⟩
    exact k.g [] [1, 0]
   | false =>
    rw [if_neg (by rw [hd]; simp)] at g1
    refine k.eval (by simp (disch := first | exact dis | fail) only [go_sem, seval, -rO, -rN, Z7, cc, f138, qq, hld, hd]; exact rfl) ?_
    try simp only [xA, xX, Cut]
    refine k.gcs (keep := []) (live := [0]) (md := true) ?_
    simp (disch := first | exact dis | fail) only [go_sem, seval, -rO, -rN, ← g1, qq]
 ·refine k.q ?_
  refine k.z ?_
  exact fin
theorem zwV (t : List Nat) : t = [] ∨ ∃ u x, t = u ++ [x] := by
 rcases List.eq_nil_or_concat t with h | ⟨u, x, h⟩
 ·exact .inl h
 ·exact .inr ⟨u, x, by rw [h, List.concat_eq_append]⟩
def trR (p : Nat → Bool) (s : List Nat) : List Nat := (s.reverse.dropWhile p).reverse
theorem zqI (p : Nat → Bool) (u : List Nat) (x : Nat) : trR p (u ++ [x]) = if p x = true then trR p u else u ++ [x] := by
 simp only [trR, List.reverse_append, List.reverse_cons, List.reverse_nil, znO, List.singleton_append, zn3]
 split
 ·rfl
 ·simp
theorem zqH {p : Nat → Bool} {s : List Nat} (h : Byt s) : Byt (trR p s) := fun x hx => h x (List.mem_reverse.1 ((zn2 p).mem (List.mem_reverse.1 hx)))
theorem zqJ (p : Nat → Bool) (s : List Nat) : (trR p s).length ≤ s.length := by
 simp only [trR, zn4]
 have := (zn2 p (l := s.reverse)).length_le
 rwa [zn4] at this
theorem zug (u : List Nat) (x : Nat) : getS (u ++ [x]) u.length = some x := by rw [Xn]; simp
theorem zqp (u : List Nat) (x : Nat) (k : IntKind) : vSls (.str (u ++ [x])) none (some (.int k (.ofNat u.length))) = some (.str u) := by
 simp only [vSls, bnd, x7, ye, yY, yX, xJ.2 (show u.length ≤ u.length + (0 + 1) by omega), cond_true, jb, jV, List.drop_zero]
 show some (AV.str ((u ++ [x]).take (u.length - 0))) = _
 simp
attribute [local go_sem] qq f138 in
theorem zov (B : Bx P w0) (hO : OrcOk P w0 O) (o1 : O 138 = none) (s : List Nat) (hb : Byt s) (hl : s.length < 1000000) :
  SC P w0 127 [.str s, .ptr 0 0] (H [some qq] 0 true) (.str (trR x8 s)) (H [some qq] 0 true) := by
 refine bs B hO f127 fun C k => ?_
 have cc := ci f138 o1
 unfold f127
 simp only [Ko, Ki, Km, Kr, opN]
 refine k.q ?_
 refine ul ⟨tmL [(0, .str (trR x8 s))], []⟩ (H [some qq] 0 true) (xS (x6 (k.gcL [] [1, 0] true (fr1 := ⟨tmL [(1, .ptr 0 0), (0, .str s)], []⟩) (s1 := H [some qq] 0 true) (by simp (disch := first | exact dis | fail) only [go_sem, seval, -rO, -rN, qq]) ?_))) ?_
 ·refine wb (fun t : List Nat => t.length) (fun t => ⟨tmL [(1, .ptr 0 0), (0, .str t)], []⟩) (fun _ => H [some qq] 0 true) (fun t => trR x8 t = trR x8 s ∧ t.length < 1000000 ∧ Byt t) (fun t ht => ?_) s ⟨rfl, hl, hb⟩
  obtain ⟨g1, g2, g3⟩ := ht
  rcases zwV t with rfl | ⟨u, x, rfl⟩
  ·have g1' : trR x8 s = [] := g1.symm
   refine k.z ?_
   exact k.g [] [0]
  ·have hx : x < 256 := g3 x (by simp)
   have hu : Byt u := fun y hy => g3 y (by simp [hy])
   have e1 : (u ++ [x]).length = u.length + 1 := by simp
   have e2 : u.length + 1 - 1 = u.length := by omega
   rw [e1] at g2
   have hld := zuy hx
   have hg := zug u x
   have hs := fun k => zqp u x k
   rw [zqI] at g1
   revert g1 e1 hg hs
   generalize u ++ [x] = t
   intro g1 e1 hg hs
   cases hd : x8 x with
   | true =>
    rw [if_pos hd] at g1
    refine k.z ?_
    refine ⟨u, ⟨g1, by omega, hu⟩, by omega, ?_⟩
    exact k.g [] [1, 0]
   | false =>
    rw [if_neg (by rw [hd]; simp)] at g1
    refine k.eval (by simp (disch := first | exact dis | fail) only [go_sem, seval, -rO, -rN, hg, e1, e2, cc, f138, qq, hld, hd]; exact rfl) ?_
    try simp only [xA, xX, Cut]
    refine k.gcs (keep := []) (live := [0]) (md := true) ?_
    simp (disch := first | exact dis | fail) only [go_sem, seval, -rO, -rN, ← g1, qq]
 ·refine k.q ?_
  refine k.z ?_
  exact fin
theorem GK (s : List Nat) : trL x8 (trR x8 s) = [] ↔ s.all x8 = true := by
 have h1 : ∀ l : List Nat, trL x8 l = [] ↔ ∀ x ∈ l, x8 x = true := by
  intro l
  induction l with
  | nil => simp [trL]
  | cons x r ih =>
   rw [GI]
   cases hx : x8 x with
   | true => rw [if_pos rfl, ih]; simp [hx]
   | false => simp [hx]
 rw [h1, List.all_eq_true]
 constructor
 ·intro h x hx
  rcases Bool.eq_false_or_eq_true (x8 x) with h2 | h2
  ·exact h2
  ·have : ∀ l : List Nat, x ∈ l → x8 x = false → x ∈ l.dropWhile x8 := by
    intro l
    induction l with
    | nil => intro h; cases h
    | cons y r ih =>
     intro hm hf
     rw [zn3]
     cases hy : x8 y with
     | true =>
      rw [if_pos rfl]
      rcases List.mem_cons.1 hm with rfl | hm
      ·rw [hf] at hy; cases hy
      ·exact ih hm hf
     | false => rw [if_neg (by simp)]; exact hm
   exact h x (List.mem_reverse.2 (this s.reverse (List.mem_reverse.2 hx) h2))
 ·intro h x hx
  exact h x (List.mem_reverse.1 ((zn2 x8).mem (List.mem_reverse.1 hx)))
attribute [local go_sem] Za zxE zxF qq in
theorem zqK (B : Bx P w0) (hO : OrcOk P w0 O) (h125 : O 125 = some gMk) (h126 : O 126 = some (gTrm (trL x8))) (h127 : O 127 = some (gTrm (trR x8))) (s : List Nat) (hb : Byt s) (hl : s.length < 1000000) (h0 : ¬ s = []) :
  SC P w0 109 [.str s, .str Za] (H [] 0 true) (.str (trL x8 (trR x8 s))) (H [] 0 true) := by
 refine bs B hO f109 fun C k => ?_
 have hmk := fun st => zr0 (O := O) h125 st
 have hb2 := zqH (p := x8) hb
 have hl2 := Nat.lt_of_le_of_lt (zqJ x8 s) hl
 have hR := fun l n m md => GL (O := O) h127 hb hl l n m md 0
 have hL := fun l n m md => GL (O := O) h126 hb2 hl2 l n m md 0
 have hov : ∀ l : List AV, l.length = 256 → over l setC = some setC := fun l h => K7 (by rw [h, ZE])
 unfold f109
 simp only [Ko, Kg, Kn, Kd, Ki, Kj, KF, KT, Km, Kr, opN]
 refine k.q ?_
 refine k.q ?_
 refine k.q ?_
 refine wu ?_
 refine k.q ?_
 refine k.gc [0] [6, 5, 0] true (fr1 := ⟨tmL [(6, .bool true), (5, .ptr 0 0), (0, .str s)], []⟩) (s1 := H [some qq] 0 true) (by simp (disch := first | exact dis | fail) only [go_sem, seval, -rO, -rN, qq, Yv]) ?_
 refine k.z ?_
 exact fin
def JP (cs : List Nat) (s : List Nat) : List AV := [.str s, .str cs]
theorem zyf (cs : List Nat) : ∀ x y, JP cs x = JP cs y → x = y := fun x y h => by
 simp only [JP, yZ, AV.str.injEq, and_true] at h; exact h
def LV (s : List Nat) : Prop := Byt s ∧ s.length < 1000000 ∧ ¬ s = []
noncomputable def gTr (cs : List Nat) (F : List Nat → List Nat) : List AV → St → Option (AV × St) := orc0 (JP cs) LV (fun s => .str (F s))
theorem zzo {f : Nat} {cs : List Nat} {F : List Nat → List Nat} (h : O f = some (gTr cs F)) {s : List Nat} (h1 : Byt s) (h2 : s.length < 1000000) (h3 : ¬ s = []) (st : St) : (evW env O).call f [.str s, .str cs] st = some (.str (F s), st) := by
 rw [xC h, gTr, we (zyf cs) st s ⟨h1, h2, h3⟩ rfl]
theorem GJ (hO : OrcOk P w0 O) {f : Nat} {cs : List Nat} {F : List Nat → List Nat} (h : ∀ s, LV s → SC P w0 f [.str s, .str cs] (H [] 0 true) (.str (F s)) (H [] 0 true)) : OrcOk P w0 (withG f (gTr cs F) O) :=
 hO.withG w9 (v5 true (fun s => by simp only [JP, xw, qc, xD, y6]) (fun _ => rfl) fun s hs => ⟨_, h s hs⟩)
def Yz (s : List Nat) : List Nat := trL x8 (trR x8 s)
theorem Lw (B : Bx P w0) (hO : OrcOk P w0 O) : OrcOk P w0 (withG 109 (gTr Za Yz) O) := by
 have h1 : OrcOk P w0 (withG 126 (gTrm (trL x8)) noO) := V4 (qu P w0) fun t hb hl => zoo B (qu P w0) rfl t hb hl
 have h2 : OrcOk P w0 (withG 127 (gTrm (trR x8)) (withG 126 (gTrm (trL x8)) noO)) := V4 h1 fun t hb hl => zov B (qu P w0) rfl t hb hl
 have h3 := zuR B h2
 exact GJ hO fun s hs => zqK B h3 rfl rfl rfl s hs.1 hs.2.1 hs.2.2
def qM (s : List Nat) : List Nat := trL (fun x => x == 48) s
attribute [local go_sem] Z7 in
theorem zow (B : Bx P w0) (hO : OrcOk P w0 O) (h123 : ∀ s : List Nat, s.length < 1000000 → ∀ st, (evW env O).call 123 [.str s, .int .u8 (.ofNat 48)] st = some (.str (qM s), st)) (s : List Nat) (hl : s.length < 1000000) (h0 : ¬ s = []) :
  SC P w0 110 [.str s, .str [48]] (H [] 0 true) (.str (qM s)) (H [] 0 true) := by
 refine bs B hO f110 fun C k => ?_
 have h1 := h123 s hl
 unfold f110
 simp only [Ko, Kg, Kn, Ki, Kj, KF, KT, Km, Kr, opN]
 refine k.q ?_
 refine k.q ?_
 refine k.z ?_
 exact fin
def JN (s : List Nat) : List AV := [.str s, .int .u8 (.ofNat 48)]
theorem zyd : ∀ x y, JN x = JN y → x = y := fun x y h => by
 simp only [JN, yZ, AV.str.injEq, and_true] at h; exact h
noncomputable def gT0 : List AV → St → Option (AV × St) := orc0 JN (fun s => s.length < 1000000) (fun s => .str (qM s))
theorem zx4 (B : Bx P w0) (hO : OrcOk P w0 O) : OrcOk P w0 (withG 110 (gTr [48] qM) O) := by
 have h1 : OrcOk P w0 (withG 123 gT0 noO) := (qu P w0).withG w9 (v5 true (fun s => by simp only [JN, xw, qc, wc, xD, y6]) (fun _ => rfl) fun s hs => ⟨_, zop B (qu P w0) s 48 hs⟩)
 exact GJ hO fun s hs => zow B h1 (fun t ht st => by rw [xC rfl, gT0, we zyd st t ht rfl]) s hs.2.1 hs.2.2
def digR : List Nat → List Nat
 | [] => []
 | c :: r => if c = 43 ∨ c = 45 then r else c :: r
def intS (c : Nat) (d : List Nat) : List Nat := if d = [] then [48] else if c = 45 then 45 :: d else d
def intR (run : List Nat) : Option (List Nat) := if digR run = [] ∨ ¬ (digR run).all x8 = true then none else some (intS (run.headD 0) (qM (digR run)))
def Wt (run : List Nat) : AV := match intR run with
 | some s => .tup [.str s, .bool true]
 | none => .tup [.str [], .bool false]
theorem HO (run : List Nat) : xG (Wt run) = true := by
 unfold Wt; split <;> simp only [wE, xw, qc, vP, xD, y6]
attribute [local go_sem] Z7 ZF in
theorem HP (B : Bx P w0) (hO : OrcOk P w0 O) (h109 : O 109 = some (gTr Za Yz)) (h110 : O 110 = some (gTr [48] qM)) (s : List Nat) (hb : Byt s) (hl : s.length < 1000000) (h0 : ¬ s = []) :
  SC P w0 93 [.str s] (H [] 0 true) (Wt s) (H [] 0 true) := by
 refine bs B hO f93 fun C k => ?_
 have ht := fun {t} h1 h2 h3 st => zzo (O := O) h109 (s := t) h1 h2 h3 st
 have ht0 := fun {t} h1 h2 h3 st => zzo (O := O) h110 (s := t) h1 h2 h3 st
 simp only [Za] at ht
 unfold f93
 simp only [Ko, Kg, Ki, Kj, KF, KT, Km, Kr, opN]
 cases s with
 | nil => exact absurd rfl h0
 | cons c r =>
 obtain ⟨hc, hr⟩ := hb.cons
 simp only [yY] at hl
 have hD : digR (c :: r) = if c = 43 ∨ c = 45 then r else c :: r := rfl
 refine k.q ?_
 refine k.q ?_
 refine ul ⟨tmL [(4, .str (digR (c :: r))), (0, .str (c :: r))], []⟩ (H [] 0 true) ?_ ?_
 ·by_cases h43 : c = 43
  ·subst h43
   rw [if_pos (.inl rfl)] at hD
   refine k.z ?_
   exact k.g [] [4, 0]
  ·by_cases h45 : c = 45
   ·subst h45
    rw [if_pos (.inr rfl)] at hD
    refine k.z ?_
    exact k.g [] [4, 0]
   ·rw [if_neg (fun h => h.elim h43 h45)] at hD
    refine k.z ?_
    exact k.g [] [4, 0]
 have hDb : Byt (digR (c :: r)) := by
  rw [hD]; split
  ·exact hr
  ·exact hb
 have hDl : (digR (c :: r)).length < 1000000 := by
  rw [hD]; split
  ·omega
  ·simp only [yY]; omega
 have hI : Wt (c :: r) = match intR (c :: r) with
  | some s => .tup [.str s, .bool true]
  | none => .tup [.str [], .bool false] := rfl
 have hR : intR (c :: r) = if digR (c :: r) = [] ∨ ¬ (digR (c :: r)).all x8 = true then none else some (intS c (qM (digR (c :: r)))) := rfl
 revert hDb hDl hR
 generalize digR (c :: r) = D
 intro hDb hDl hR
 by_cases hn : D = []
 ·rw [if_pos (.inl hn)] at hR
  rw [hI, hR]
  simp only
  refine k.z ?_
  exact fin
 have ht1 := fun st => ht hDb hDl hn st
 have ht2 := fun st => ht0 hDb hDl hn st
 by_cases hall : D.all x8 = true
 ·rw [if_neg (fun h => h.elim hn (fun h => h hall))] at hR
  have e1 : Yz D = [] := (GK D).2 hall
  rw [hI, hR]
  simp only
  refine k.q ?_
  refine k.q ?_
  have hTl : 1 + (qM D).length < 9223372036854775808 := by have := zzn (fun x => x == 48) D; unfold qM; omega
  by_cases h00 : qM D = []
  ·have e2 : intS c (qM D) = [48] := by unfold intS; rw [if_pos h00]
   refine k.z ?_
   exact fin
  ·by_cases h45 : c = 45
   ·have e2 : intS c (qM D) = 45 :: qM D := by unfold intS; rw [if_neg h00, if_pos h45]
    have e3 : binS .add [45] (qM D) = some (.str (45 :: qM D)) := Jm (by simp only [yY, yX]; omega)
    refine k.z ?_
    apply w7 (Or.inr rfl)
    iterate 5 (simp (disch := first | exact dis | fail) only [go_sem, seval, -rO, -rN, e2] <;> exact rfl)
   ·have e2 : intS c (qM D) = qM D := by unfold intS; rw [if_neg h00, if_neg h45]
    refine k.z ?_
    exact fin
 ·rw [if_pos (.inr hall)] at hR
  have e1 : ¬ Yz D = [] := fun h => hall ((GK D).1 h)
  rw [hI, hR]
  simp only
  refine k.z ?_
  exact fin
noncomputable def gInt : List AV → St → Option (AV × St) := orc0 XZ LV Wt
theorem zup (h : O 93 = some gInt) {s : List Nat} (h1 : Byt s) (h2 : s.length < 1000000) (h3 : ¬ s = []) (st : St) : (evW env O).call 93 [.str s] st = some (Wt s, st) := by
 rw [xC h, gInt, we Q3 st s ⟨h1, h2, h3⟩ rfl]
theorem zyQ (B : Bx P w0) (hO : OrcOk P w0 O) (h109 : O 109 = some (gTr Za Yz)) (h110 : O 110 = some (gTr [48] qM)) : OrcOk P w0 (withG 93 gInt O) :=
 hO.withG w9 (v5 true (fun s => by simp only [XZ, xw, qc, xD, y6]) HO fun s hs => ⟨_, HP B hO h109 h110 s hs.1 hs.2.1 hs.2.2⟩)
theorem ws (k p : Nat) (dk dn : Int) (dt : List Nat) (dks : List DT) (dp : Int) : qz ⟨k, p, .mk dk dn dt dks dp⟩ = [.int .i64 (.ofNat k), .int .i64 (.ofNat p), .int .i64 dk, .int .i64 dn, .str dt, .lst dks.length false (xv dks), .int .i64 dp] := by simp only [qz, xq]
theorem gB (t : Tok) (r : List AV) : wA 7 (qz t ++ r) = some (qz t) := VZ (pp t)
def d0 : DT := .mk (.ofNat 0) (.ofNat 0) [] [] (.ofNat 0)
def vo (run : List Nat) (p : Nat) : Tok := if run = [46] then ⟨6, p, d0⟩ else match intR run with
 | some s => ⟨7, p, .mk (.ofNat 2) (.ofNat 0) s [] (.ofNat p)⟩
 | none => ⟨7, p, .mk (.ofNat 5) (.ofNat 0) run [] (.ofNat p)⟩
def JR (x : List Nat × Nat) : List AV := [.str x.1, .int .i64 (.ofNat x.2)]
theorem zyh : ∀ x y, JR x = JR y → x = y := fun ⟨s, p⟩ ⟨t, q⟩ h => by
 simp only [JR, yZ, AV.str.injEq, AV.int.injEq, true_and, and_true] at h
 obtain ⟨h1, h2⟩ := h
 cases h2; rw [h1]
def zoT (x : List Nat × Nat) : Prop := LV x.1
attribute [local go_sem] ws d0 xO in
theorem zq5 (B : Bx P w0) (hO : OrcOk P w0 O) (h93 : O 93 = some gInt) (s : List Nat) (p : Nat) (hb : Byt s) (hl : s.length < 1000000) (h0 : ¬ s = []) :
  SC P w0 68 [.str s, .int .i64 (.ofNat p)] (H [] 0 true) (.agg (qz (vo s p))) (H [] 0 true) := by
 refine bs B hO f68 fun C k => ?_
 have hi := fun st => zup (O := O) h93 hb hl h0 st
 have hW : vo s p = if s = [46] then ⟨6, p, d0⟩ else match intR s with
  | some s => ⟨7, p, .mk (.ofNat 2) (.ofNat 0) s [] (.ofNat p)⟩
  | none => ⟨7, p, .mk (.ofNat 5) (.ofNat 0) s [] (.ofNat p)⟩ := rfl
 unfold f68
 simp only [Ko, Kn, Ki, Kv, Km, Kr, opN]
 refine k.q ?_
 by_cases h46 : s = [46]
 ·rw [if_pos h46] at hW
  rw [hW]
  refine k.z ?_
  exact fin
 rw [if_neg h46] at hW
 unfold Wt at hi
 cases hR : intR s with
 | none =>
  simp only [hR] at hW hi
  rw [hW]
  refine k.q ?_
  refine k.q ?_
  refine k.q ?_
  refine k.z ?_
  exact fin
 | some u =>
  simp only [hR] at hW hi
  rw [hW]
  refine k.q ?_
  refine k.q ?_
  refine k.q ?_
  refine k.z ?_
  exact fin
noncomputable def Vq : List AV → St → Option (AV × St) := orc0 JR zoT (fun x => .agg (qz (vo x.1 x.2)))
theorem zwj (h : O 68 = some Vq) {s : List Nat} (p : Nat) (h1 : Byt s) (h2 : s.length < 1000000) (h3 : ¬ s = []) (st : St) : (evW env O).call 68 [.str s, .int .i64 (.ofNat p)] st = some (.agg (qz (vo s p)), st) := by
 rw [xC h, Vq, we zyh st (s, p) ⟨h1, h2, h3⟩ rfl]
theorem LM (B : Bx P w0) (hO : OrcOk P w0 O) (h93 : O 93 = some gInt) : OrcOk P w0 (withG 68 Vq O) :=
 hO.withG w9 (v5 true (fun s => by simp only [JR, xw, qc, wc, xD, y6]) (fun x => by simp only [vU, u7]) fun x hs => ⟨_, zq5 B hO h93 x.1 x.2 hs.1 hs.2.1 hs.2.2⟩)
def wT : List Nat := [116]
def zpu : List Nat := [116, 114, 117, 101]
def wU8 : List Nat := [117, 56]
def wF : List Nat := [102]
def zoC : List Nat := [102, 97, 108, 115, 101]
def bTok (p n : Nat) : Tok := ⟨7, p, .mk (.ofNat 1) (.ofNat n) [] [] (.ofNat p)⟩
def cTok (p n : Nat) : Tok := ⟨7, p, .mk (.ofNat 3) (.ofNat n) [] [] (.ofNat p)⟩
structure LR where
 t : Tok
 f : Nat × Nat
 q : Nat
def ve (p : Nat) (w : List Nat) (c q : Nat) : LR :=
 if w = wT ∨ w = zpu then ⟨bTok p 1, (0, 0), q⟩ else if w = wU8 ∧ c = 40 then ⟨⟨5, p, d0⟩, (0, 0), q + 1⟩ else if w ≠ wF ∧ w ≠ zoC then ⟨bTok p 0, (4, p), q⟩ else ⟨bTok p 0, (0, 0), q⟩
def pb (b : List Nat) (p : Nat) : Option Nat → LR
 | some c => ⟨cTok p c, (0, 0), (litR b p).2⟩
 | none => ⟨cTok p 0, (4, p), (litR b p).2⟩
def qd (b : List Nat) (p : Nat) : LR :=
 if bgR b p [35, 40] = true then ⟨⟨4, p, d0⟩, (0, 0), p + 2⟩
 else if bgR b p [35, 92] = true then pb b p (litR b p).1
 else ve p (twS b (p + 1)) (ww b (p + 1 + (twS b (p + 1)).length)) (p + 1 + (twS b (p + 1)).length)
def lrV (x : LR) : AV := .tup [.agg (qz x.t), flt x.f]
theorem KI (x : LR) : xG (lrV x) = true := by simp only [lrV, wE, xw, vU, u7, uL, xD, y6]
def KJ (b : List Nat) (p : Nat) : AV × Nat := (lrV (qd b p), (qd b p).q)
def zwt (x : List Nat × Nat) : Prop := Byt x.1 ∧ x.1.length < 1000000 ∧ x.2 < x.1.length
attribute [local go_sem] rdr f35 lrV ws d0 xO flt cTok bTok f70 in
theorem zy1 (B : Bx P w0) (hO : OrcOk P w0 O) (o2 : O 35 = none) (o3 : O 70 = none)
  (h1 : O 62 = some gBg) (h2 : O 69 = some gRun) (h3 : O 90 = some gLit) (h4 : O 91 = some gPk) (b : List Nat) (p : Nat) (hp : zwt (b, p)) :
  SC P w0 66 [.ptr 0 0] (H [some (rdr b p)] 0 true) (KJ b p).1 (H [some (rdr b (KJ b p).2)] 1 true) := by
 obtain ⟨hb, hl, hi⟩ := hp
 simp only at hb hl hi
 refine bm B hO f66 fun C k => ?_
 have cn := ci f35 o2
 have cf := ci f70 o3
 have hc1 := fun (l : List (Nat × Option AObj)) n m md => hJ h1 (b := b) (p := p) (s := [35, 40]) (show Xz ((b, p), [35, 40]) from ⟨⟨hb, hl, yJ hi⟩, by simp, fun x hx => by simp at hx; omega⟩) false l n m md 0
 have hc2 := fun (l : List (Nat × Option AObj)) n m md => hJ h1 (b := b) (p := p) (s := [35, 92]) (show Xz ((b, p), [35, 92]) from ⟨⟨hb, hl, yJ hi⟩, by simp, fun x hx => by simp at hx; omega⟩) false l n m md 0
 simp only [KJ]
 unfold f66
 simp only [Ko, Kg, Kn, Kd, Kf, Ki, Kj, Kv, KF, Km, Kr, opN]
 refine k.q ?_
 refine k.q ?_
 refine k.q ?_
 cases hA : bgR b p [35, 40] with
 | true =>
  have hM : qd b p = ⟨⟨4, p, d0⟩, (0, 0), p + 2⟩ := by unfold qd; rw [if_pos hA]
  have hA2 := gQ hA
  rw [hA] at hc1
  refine k.q ?_
  exact fin
 | false =>
  rw [hA] at hc1
  cases hA' : bgR b p [35, 92] with
  | true =>
   have hM : qd b p = pb b p (litR b p).1 := by unfold qd; rw [if_neg (by rw [hA]; simp), if_pos hA']
   have hA2 := gQ hA'
   rw [hA'] at hc2
   have hli := fun (l : List (Nat × Option AObj)) n m md => vB h3 (b := b) (p := p) ⟨hb, hl, hA2⟩ false l n m md 0
   simp only [litF] at hli
   unfold pb at hM
   revert hli hM
   generalize litR b p = Q
   obtain ⟨o, q⟩ := Q
   intro hM hli
   cases o with
   | some c =>
    simp only [litV, flt] at hli
    simp only at hM
    rw [hM]
    refine k.z ?_
    exact fin
   | none =>
    simp only [litV, flt] at hli
    simp only at hM
    rw [hM]
    refine k.z ?_
    exact fin
  | false =>
   have hM : qd b p = ve p (twS b (p + 1)) (ww b (p + 1 + (twS b (p + 1)).length)) (p + 1 + (twS b (p + 1)).length) := by unfold qd; rw [if_neg (by rw [hA]; simp), if_neg (by rw [hA']; simp)]
   rw [hA'] at hc2
   have hrun := fun (l : List (Nat × Option AObj)) n m md => vB h2 (b := b) (p := p + 1) (show PreR (b, p + 1) from ⟨hb, hl, by simp only; omega⟩) false l n m md 0
   simp only [runF] at hrun
   have e3 : (twS b (p + 1)).length ≤ b.length - (p + 1) := by have := Qk xY (b.drop (p + 1)); rw [znK] at this; exact this
   change ∀ (l : List (Nat × Option AObj)) n m md, _ → _ = some (AV.str (twS b (p + 1)), KL ((0, some (.row 70 [_, .int .i64 (.ofNat (p + 1 + (twS b (p + 1)).length))] false false)) :: l) n (mark m 0) md [] none) at hrun
   have hpk := fun (l : List (Nat × Option AObj)) n m md => UX h4 (b := b) (p := p + 1 + (twS b (p + 1)).length) ⟨hb, hl, by simp only; omega⟩ false l n m md 0
   have hq : p + 1 + (twS b (p + 1)).length ≤ b.length := by omega
   have hlen : (twS b (p + 1)).length < 1000000 := by omega
   rw [hM]
   revert hrun hpk hlen hq
   generalize p + 1 + (twS b (p + 1)).length = q
   generalize twS b (p + 1) = w
   generalize ww b q = c
   intro hrun hpk hlen hq
   refine k.q ?_
   refine k.q ?_
   refine wu ?_
   refine k.q ?_
   by_cases c1 : w = [116]
   ·have hW : ve p w c q = ⟨bTok p 1, (0, 0), q⟩ := if_pos (.inl c1)
    rw [hW]
    refine k.z ?_
    refine k.z ?_
    exact fin
   by_cases c2 : w = [116, 114, 117, 101]
   ·have hW : ve p w c q = ⟨bTok p 1, (0, 0), q⟩ := if_pos (.inr c2)
    rw [hW]
    refine k.z ?_
    refine k.z ?_
    exact fin
   have g1 : ¬ (w = wT ∨ w = zpu) := fun h => h.elim c1 c2
   by_cases c3 : w = [117, 56]
   ·by_cases c4 : c = 40
    ·have hW : ve p w c q = ⟨⟨5, p, d0⟩, (0, 0), q + 1⟩ := by unfold ve; rw [if_neg g1, if_pos ⟨c3, c4⟩]
     rw [hW]
     refine k.z ?_
     refine k.z ?_
     exact fin
    ·have hW : ve p w c q = ⟨bTok p 0, (4, p), q⟩ := by unfold ve; rw [if_neg g1, if_neg (fun h => c4 h.2), if_pos ⟨by rw [c3]; decide, by rw [c3]; decide⟩]
     rw [hW]
     refine k.z ?_
     exact fin
   by_cases c5 : w = [102]
   ·have hW : ve p w c q = ⟨bTok p 0, (0, 0), q⟩ := by unfold ve; rw [if_neg g1, if_neg (fun h => c3 h.1), if_neg (fun h => h.1 c5)]
    rw [hW]
    refine k.z ?_
    refine k.z ?_
    exact fin
   by_cases c6 : w = [102, 97, 108, 115, 101]
   ·have hW : ve p w c q = ⟨bTok p 0, (0, 0), q⟩ := by unfold ve; rw [if_neg g1, if_neg (fun h => c3 h.1), if_neg (fun h => h.2 c6)]
    rw [hW]
    refine k.z ?_
    refine k.z ?_
    exact fin
   ·have hW : ve p w c q = ⟨bTok p 0, (4, p), q⟩ := by unfold ve; rw [if_neg g1, if_neg (fun h => c3 h.1), if_pos ⟨c5, c6⟩]
    rw [hW]
    refine k.z ?_
    exact fin
noncomputable def Pq : List AV → St → Option (AV × St) := gM zwt KJ
theorem UP (B : Bx P w0) (hO : OrcOk P w0 O) (o2 : O 35 = none) (o3 : O 70 = none)
  (h1 : O 62 = some gBg) (h2 : O 69 = some gRun) (h3 : O 90 = some gLit) (h4 : O 91 = some gPk) : OrcOk P w0 (withG 66 Pq O) :=
 uM hO (fun b p _ => KI _) fun b p hx => zy1 B hO o2 o3 h1 h2 h3 h4 b p hx
def t0 : Tok := ⟨0, 0, d0⟩
def kO (p q : Nat) : List Nat ⊕ (Nat × Nat) → LR
 | .inl s => ⟨⟨7, p, .mk (.ofNat 4) (.ofNat 0) s [] (.ofNat p)⟩, (0, 0), q⟩
 | .inr f => ⟨⟨7, p, .mk (.ofNat 4) (.ofNat 0) [] [] (.ofNat p)⟩, f, q⟩
def gj (q : Nat) : Option Nat → LR
 | none => ⟨t0, (0, 0), q⟩
 | some r => ⟨t0, (4, r), q⟩
def parK (c : Nat) : Nat := if c = 40 then 1 else if c = 41 then 2 else 3
def tokB (b : List Nat) (p c : Nat) : LR :=
 if vD c = true then ⟨t0, (0, 0), p + 1⟩
 else if c = 59 then gj (uD b (b.length + 1) p).2 (uD b (b.length + 1) p).1
 else if bgR b p [35, 124] = true then ⟨t0, (uE b p (b.length + 1) p 0).1, (uE b p (b.length + 1) p 0).2⟩
 else if c = 40 ∨ c = 41 ∨ c = 39 then ⟨⟨parK c, p, d0⟩, (0, 0), p + 1⟩
 else if c = 34 then kO p (qo b p (b.length + 1) (p + 1) []).2 (qo b p (b.length + 1) (p + 1) []).1
 else if c = 35 then qd b p
 else if xY c = true then ⟨vo (twS b p) p, (0, 0), p + (twS b p).length⟩
 else ⟨t0, (4, p), p⟩
def tokL (b : List Nat) (p c : Nat) : Bool :=
 if vD c = true then false else if c = 59 then false else if bgR b p [35, 124] = true then false else if c = 40 ∨ c = 41 ∨ c = 39 then false else if c = 34 then false
 else if c = 35 then decide ((qd b p).t.kind = 7) else xY c
def fin2 (b : List Nat) (x : LR) (l : Bool) : LR := if x.f.1 = 0 ∧ l = true ∧ x.q < b.length ∧ u3 (ww b x.q) = false then ⟨x.t, (4, x.q), x.q⟩ else x
def tokR (b : List Nat) (p : Nat) : LR := fin2 b (tokB b p (ww b p)) (tokL b p (ww b p))
def tokF (b : List Nat) (p : Nat) : AV × Nat := (lrV (tokR b p), (tokR b p).q)
def faR (f : Nat × Nat) : AObj := .row 34 [.int .i64 (.ofNat f.1), .int .i64 (.ofNat f.2)] false false
theorem wJ {p c : Nat} {r : List Nat} (h : b.drop p = c :: r) : ww b p = c := by unfold ww; rw [h]; rfl
theorem ixo {c : Nat} (h : c = 40 ∨ c = 41 ∨ c = 39) : binI .add .i64 (.ofNat 1) .i64 (ixB VM c) = some (.int .i64 (.ofNat (parK c))) := by
 rcases h with rfl | rfl | rfl <;> rfl
def tkK (t : Tok) (ks : AV) : AObj := match t with
 | ⟨k, p, .mk dk dn dt _ dp⟩ => .row 44 [.int .i64 (.ofNat k), .int .i64 (.ofNat p), .int .i64 dk, .int .i64 dn, .str dt, ks, .int .i64 dp] false false
def ksOk (t : Tok) (ks : AV) : Prop := match t with
 | ⟨_, _, .mk _ _ _ dks _⟩ => (ks = .nils ∧ dks = []) ∨ ks = .lst dks.length false (xv dks)
attribute [local go_sem] rdr tkK faR t0 d0 ws xO gj kO f70 lrV flt f33 in
theorem zqz (B : Bx P w0) (hO : OrcOk P w0 O) (o1 : O 33 = none) (o3 : O 70 = none)
  (h1 : O 60 = some (jn vD)) (h2 : O 67 = some (jn xY)) (h3 : O 71 = some (jn u3)) (h4 : O 69 = some gRun) (h5 : O 62 = some gBg) (h6 : O 61 = some Pp) (h7 : O 63 = some Pr) (h8 : O 65 = some Pt) (h9 : O 66 = some Pq) (hA : O 68 = some Vq) (hB : O 64 = some gIxB)
  (hq : ∀ b p c r, Byt b → b.length < 100000 → b.drop p = c :: r → (tokB b p c).q ≤ b.length) (b : List Nat) (p : Nat) (hp : ZT (b, p)) :
  SC P w0 34 [.ptr 0 0] (H [some (rdr b p)] 0 true) (tokF b p).1 (H [some (rdr b (tokF b p).2)] 1 true) := by
 obtain ⟨hb, hl, hi⟩ := hp
 simp only at hb hl hi
 refine bm B hO f34 fun C k => ?_
 have cend := ci f33 o1
 have cf := ci f70 o3
 cases hd : b.drop p with
 | nil => have := vd hd (yJ hi); omega
 | cons c r =>
 have hc : c < 256 := hb c (znS (by rw [hd]; simp))
 have hh := wJ hd
 have hqq := hq b p c r hb hl hd
 have hT : tokR b p = fin2 b (tokB b p c) (tokL b p c) := by unfold tokR; rw [hh]
 simp only [tokF, hT]
 unfold f34
 simp only [Ko, Kn, Kd, Ke, Kf, Ki, Kj, Kv, KF, KT, Km, Kr, opN]
 refine k.q ?_
 refine k.q ?_
 refine k.q ?_
 refine vQ (ksOk (tokB b p c).t) (fun _ => ⟨tmL [(6, .bool (tokL b p c)), (3, .ptr 2 0), (2, .ptr 1 0), (0, .ptr 0 0)], []⟩) (fun ks => H [some (rdr b (tokB b p c).q), some (tkK (tokB b p c).t ks), some (faR (tokB b p c).f)] 1 true) ?_ ?_
 ·have hbl := fun s => kA h1 hc (s := s)
  cases hB1 : vD c with
  | true =>
   have hX : tokB b p c = ⟨t0, (0, 0), p + 1⟩ := by unfold tokB; rw [if_pos hB1]
   have hL : tokL b p c = false := by unfold tokL; rw [if_pos hB1]
   rw [hX, hL]
   refine k.z ?_
   simp only [Gcx]
   refine ⟨.nils, .inl ⟨rfl, rfl⟩, ?_⟩
   exact k.g [1, 2] [6, 3, 2, 0]
  | false =>
  have g1 : ¬ vD c = true := by rw [hB1]; simp
  by_cases h59 : c = 59
  ·subst h59
   have hX : tokB b p 59 = gj (uD b (b.length + 1) p).2 (uD b (b.length + 1) p).1 := by unfold tokB; rw [if_neg g1, if_pos rfl]
   have hL : tokL b p 59 = false := by unfold tokL; rw [if_neg g1, if_pos rfl]
   have hln := fun (l : List (Nat × Option AObj)) n m md => vB h6 (b := b) (p := p) (show PreR (b, p) from ⟨hb, by simp only; omega, by simp only; omega⟩) false l n m md 0
   simp only [Y0] at hln
   rw [hX, hL]
   revert hln
   generalize uD b (b.length + 1) p = Q
   obtain ⟨o, q⟩ := Q
   intro hln
   cases o with
   | none =>
    simp only [flt] at hln
    refine k.z ?_
    simp only [Gcx]
    refine ⟨.nils, .inl ⟨rfl, rfl⟩, ?_⟩
    exact k.g [1, 2] [6, 3, 2, 0]
   | some x =>
    simp only [flt] at hln
    refine k.z ?_
    simp only [Gcx]
    refine ⟨.nils, .inl ⟨rfl, rfl⟩, ?_⟩
    exact k.g [1, 2] [6, 3, 2, 0]
  have hc1 := fun (l : List (Nat × Option AObj)) n m md => hJ h5 (b := b) (p := p) (s := [35, 124]) (show Xz ((b, p), [35, 124]) from ⟨⟨hb, by simp only; omega, yJ hi⟩, by simp, fun x hx => by simp at hx; omega⟩) false l n m md 0
  cases hA1 : bgR b p [35, 124] with
  | true =>
   have hX : tokB b p c = ⟨t0, (uE b p (b.length + 1) p 0).1, (uE b p (b.length + 1) p 0).2⟩ := by unfold tokB; rw [if_neg g1, if_neg h59, if_pos hA1]
   have hL : tokL b p c = false := by unfold tokL; rw [if_neg g1, if_neg h59, if_pos hA1]
   have hns := fun (l : List (Nat × Option AObj)) n m md => vB h7 (b := b) (p := p) (show PreN (b, p) from ⟨⟨hb, by simp only; omega, by simp only; omega⟩, hA1⟩) false l n m md 0
   simp only [Y1] at hns
   rw [hX, hL]
   rw [hA1] at hc1
   revert hns
   generalize uE b p (b.length + 1) p 0 = Q
   obtain ⟨⟨e, ep⟩, q⟩ := Q
   intro hns
   simp only [flt] at hns
   refine k.z ?_
   simp only [Gcx]
   refine ⟨.nils, .inl ⟨rfl, rfl⟩, ?_⟩
   exact k.g [1, 2] [6, 3, 2, 0]
  | false =>
  rw [hA1] at hc1
  have g3 : ¬ bgR b p [35, 124] = true := by rw [hA1]; simp
  by_cases hpar : c = 40 ∨ c = 41 ∨ c = 39
  ·have hX : tokB b p c = ⟨⟨parK c, p, d0⟩, (0, 0), p + 1⟩ := by unfold tokB; rw [if_neg g1, if_neg h59, if_neg g3, if_pos hpar]
   have hL : tokL b p c = false := by unfold tokL; rw [if_neg g1, if_neg h59, if_neg g3, if_pos hpar]
   have hix := fun st => Kb (O := O) hB (s := [40, 41, 39]) (c := c) (.inr rfl) hc st
   have hk := ixo hpar
   simp only [VM] at hk
   rw [hX, hL]
   rcases hpar with rfl | rfl | rfl
   ·refine k.z ?_
    simp only [Gcx]
    refine ⟨.nils, .inl ⟨rfl, rfl⟩, ?_⟩
    exact k.g [1, 2] [6, 3, 2, 0]
   ·refine k.z ?_
    simp only [Gcx]
    refine ⟨.nils, .inl ⟨rfl, rfl⟩, ?_⟩
    exact k.g [1, 2] [6, 3, 2, 0]
   ·refine k.z ?_
    simp only [Gcx]
    refine ⟨.nils, .inl ⟨rfl, rfl⟩, ?_⟩
    exact k.g [1, 2] [6, 3, 2, 0]
  have h40 : ¬ c = 40 := fun h => hpar (.inl h)
  have h41 : ¬ c = 41 := fun h => hpar (.inr (.inl h))
  have h39 : ¬ c = 39 := fun h => hpar (.inr (.inr h))
  by_cases h34 : c = 34
  ·subst h34
   have hX : tokB b p 34 = kO p (qo b p (b.length + 1) (p + 1) []).2 (qo b p (b.length + 1) (p + 1) []).1 := by unfold tokB; rw [if_neg g1, if_neg h59, if_neg g3, if_neg hpar, if_pos rfl]
   have hL : tokL b p 34 = false := by unfold tokL; rw [if_neg g1, if_neg h59, if_neg g3, if_neg hpar, if_pos rfl]
   have htx := fun (l : List (Nat × Option AObj)) n m md => vB h8 (b := b) (p := p) (show ZT (b, p) from ⟨hb, hl, hi⟩) false l n m md 0
   simp only [kP] at htx
   rw [hX, hL]
   revert htx
   generalize qo b p (b.length + 1) (p + 1) [] = Q
   obtain ⟨o, q⟩ := Q
   intro htx
   cases o with
   | inl s =>
    simp only [strR, flt] at htx
    refine k.z ?_
    simp only [Gcx]
    refine ⟨.nils, .inl ⟨rfl, rfl⟩, ?_⟩
    exact k.g [1, 2] [6, 3, 2, 0]
   | inr f =>
    obtain ⟨e, ep⟩ := f
    simp only [strR, flt] at htx
    refine k.z ?_
    simp only [Gcx]
    refine ⟨.nils, .inl ⟨rfl, rfl⟩, ?_⟩
    exact k.g [1, 2] [6, 3, 2, 0]
  by_cases h35 : c = 35
  ·subst h35
   have hX : tokB b p 35 = qd b p := by unfold tokB; rw [if_neg g1, if_neg h59, if_neg g3, if_neg hpar, if_neg h34, if_pos rfl]
   have hL : tokL b p 35 = decide ((qd b p).t.kind = 7) := by unfold tokL; rw [if_neg g1, if_neg h59, if_neg g3, if_neg hpar, if_neg h34, if_pos rfl]
   have hmk := fun (l : List (Nat × Option AObj)) n m md => vB h9 (b := b) (p := p) (show zwt (b, p) from ⟨hb, by simp only; omega, hi⟩) false l n m md 0
   simp only [KJ] at hmk
   rw [hX, hL]
   revert hmk
   generalize qd b p = X
   obtain ⟨⟨tk, tp, ⟨dk, dn, dt, dks, dp⟩⟩, ⟨e, ep⟩, q⟩ := X
   intro hmk
   simp only [lrV, flt, ws] at hmk
   have hdk : decide ((LR.mk ⟨tk, tp, .mk dk dn dt dks dp⟩ (e, ep) q).t.kind = 7) = decide (tk = 7) := rfl
   rw [hdk]
   refine k.z ?_
   simp only [Gcx]
   refine ⟨.lst dks.length false (xv dks), .inr rfl, ?_⟩
   exact k.g [1, 2] [6, 3, 2, 0]
  have hsy := fun s => kA h2 hc (s := s)
  cases hS : xY c with
  | true =>
   have hX : tokB b p c = ⟨vo (twS b p) p, (0, 0), p + (twS b p).length⟩ := by unfold tokB; rw [if_neg g1, if_neg h59, if_neg g3, if_neg hpar, if_neg h34, if_neg h35, if_pos hS]
   have hL : tokL b p c = true := by unfold tokL; rw [if_neg g1, if_neg h59, if_neg g3, if_neg hpar, if_neg h34, if_neg h35]; exact hS
   have hrun := fun (l : List (Nat × Option AObj)) n m md => vB h4 (b := b) (p := p) (show PreR (b, p) from ⟨hb, by simp only; omega, by simp only; omega⟩) false l n m md 0
   simp only [runF] at hrun
   have e3 : (twS b p).length ≤ b.length - p := by have := Qk xY (b.drop p); rw [znK] at this; exact this
   change ∀ (l : List (Nat × Option AObj)) n m md, _ → _ = some (AV.str (twS b p), KL ((0, some (.row 70 [_, .int .i64 (.ofNat (p + (twS b p).length))] false false)) :: l) n (mark m 0) md [] none) at hrun
   have hw0 : ¬ twS b p = [] := by unfold twS; rw [hd, znW, hS]; simp
   have hwd := fun st => zwj (O := O) hA p ((hb.drop p).tw xY) (show (twS b p).length < 1000000 by omega) hw0 st
   change ∀ st, (evW env O).call 68 [.str (twS b p), _] st = some (.agg (qz (vo (twS b p) p)), st) at hwd
   rw [hX, hL]
   revert hrun hwd
   generalize p + (twS b p).length = q
   generalize twS b p = w
   generalize vo w p = X
   obtain ⟨tk, tp, ⟨dk, dn, dt, dks, dp⟩⟩ := X
   intro hrun hwd
   simp only [ws] at hwd
   refine k.z ?_
   simp only [Gcx]
   refine ⟨.lst dks.length false (xv dks), .inr rfl, ?_⟩
   exact k.g [1, 2] [6, 3, 2, 0]
  | false =>
   have g7 : ¬ xY c = true := by rw [hS]; simp
   have hX : tokB b p c = ⟨t0, (4, p), p⟩ := by unfold tokB; rw [if_neg g1, if_neg h59, if_neg g3, if_neg hpar, if_neg h34, if_neg h35, if_neg g7]
   have hL : tokL b p c = false := by unfold tokL; rw [if_neg g1, if_neg h59, if_neg g3, if_neg hpar, if_neg h34, if_neg h35]; exact hS
   rw [hX, hL]
   refine k.z ?_
   simp only [Gcx]
   refine ⟨.nils, .inl ⟨rfl, rfl⟩, ?_⟩
   exact k.g [1, 2] [6, 3, 2, 0]
 ·intro ks hks
  revert hqq hks
  generalize tokB b p c = X
  generalize tokL b p c = l
  obtain ⟨⟨tk, tp, ⟨dk, dn, dt, dks, dp⟩⟩, ⟨e, ep⟩, q⟩ := X
  intro hqq hks
  simp only [ksOk] at hqq hks ⊢
  have k1 : scal ks = true := by rcases hks with ⟨h, _⟩ | h <;> rw [h] <;> simp only [scal]
  simp only [scal] at k1
  have k4 : ∀ n, frz1 n ks = some ks := fun n => by rcases hks with ⟨h, _⟩ | h <;> rw [h] <;> rfl
  have k2 : xG ks = true := by
   rcases hks with ⟨h, _⟩ | h <;> rw [h]
   ·rfl
   ·exact (wi _ _ _).trans (by first | rfl | exact xN _)
  have k3 : wkV ks = .lst dks.length false (xv dks) := by
   rcases hks with ⟨h, h'⟩ | h <;> rw [h]
   ·rw [h', xO]; rfl
   ·simp only [wkV, w4]
  by_cases he : e = 0
  ·cases l with
   | false =>
    have hF : fin2 b ⟨⟨tk, tp, .mk dk dn dt dks dp⟩, (e, ep), q⟩ false = ⟨⟨tk, tp, .mk dk dn dt dks dp⟩, (e, ep), q⟩ := if_neg (fun h => by cases h.2.1)
    rw [hF]
    refine k.q ?_
    refine k.z ?_
    exact fin
   | true =>
    cases hq2 : b.drop q with
    | nil =>
     have hlt : ¬ q < b.length := by have := vd hq2 hqq; omega
     have hF : fin2 b ⟨⟨tk, tp, .mk dk dn dt dks dp⟩, (e, ep), q⟩ true = ⟨⟨tk, tp, .mk dk dn dt dks dp⟩, (e, ep), q⟩ := if_neg (fun h => hlt h.2.2.1)
     rw [hF]
     refine k.q ?_
     refine k.z ?_
     exact fin
    | cons y s =>
     obtain ⟨hlt, _⟩ := uf hq2
     have hy : y < 256 := hb y (znS (by rw [hq2]; simp))
     have hde := fun st => kA h3 hy (s := st)
     have hhy := wJ hq2
     cases hD : u3 y with
     | true =>
      have hF : fin2 b ⟨⟨tk, tp, .mk dk dn dt dks dp⟩, (e, ep), q⟩ true = ⟨⟨tk, tp, .mk dk dn dt dks dp⟩, (e, ep), q⟩ := if_neg (fun h => by have := h.2.2.2; rw [hhy, hD] at this; cases this)
      rw [hF]
      refine k.q ?_
      refine k.z ?_
      exact fin
     | false =>
      have hF : fin2 b ⟨⟨tk, tp, .mk dk dn dt dks dp⟩, (e, ep), q⟩ true = ⟨⟨tk, tp, .mk dk dn dt dks dp⟩, (4, q), q⟩ := if_pos ⟨he, rfl, hlt, by rw [hhy]; exact hD⟩
      rw [hF]
      refine k.q ?_
      refine k.z ?_
      exact fin
  ·have hF : fin2 b ⟨⟨tk, tp, .mk dk dn dt dks dp⟩, (e, ep), q⟩ l = ⟨⟨tk, tp, .mk dk dn dt dks dp⟩, (e, ep), q⟩ := if_neg (fun h => he h.1)
   rw [hF]
   refine k.q ?_
   refine k.z ?_
   exact fin
theorem p7 {p : Nat} {q : Nat × Nat} (hp : b.drop p ≠ []) (h : decR (b.drop p) = some q) : 1 ≤ q.2 ∧ p + q.2 ≤ b.length := by
 have := qX hp h
 rw [znK] at this; omega
theorem WB (b : List Nat) : ∀ (k p : Nat), p ≤ b.length → p ≤ (uD b k p).2 ∧ (uD b k p).2 ≤ b.length
 | 0, p, h => by simp only [uD]; omega
 | k + 1, p, h => by
  simp only [uD]
  split
  ·simp only; omega
  ·rename_i c r hd
   split
   ·simp only; omega
   ·split
    ·simp only; omega
    ·rename_i q hq
     have := p7 (by rw [hd]; simp) hq
     have := WB b k (p + q.2) (by omega)
     omega
theorem zuB {k p c : Nat} {r : List Nat} (hd : b.drop p = c :: r) (hc : c ≠ 10) (h : (uD b (k + 1) p).1 = none) : p < (uD b (k + 1) p).2 := by
 simp only [uD, hd, if_neg hc] at h ⊢
 cases hR : decR (c :: r) with
 | none => rw [hR] at h; simp at h
 | some q =>
  simp only
  have := p7 (b := b) (p := p) (q := q) (by rw [hd]; simp) (by rw [hd]; exact hR)
  have := WB b k (p + q.2) (by omega)
  omega
theorem Zv (b : List Nat) (f : Nat) : ∀ (k p d : Nat), p ≤ b.length → p ≤ (uE b f k p d).2 ∧ (uE b f k p d).2 ≤ b.length ∧ ((uE b f k p d).1.1 = 0 → p < (uE b f k p d).2)
 | 0, p, d, h => by simp only [uE]; exact ⟨zq _, h, by simp⟩
 | k + 1, p, d, h => by
  simp only [uE]
  split
  ·exact ⟨zq _, h, by simp⟩
  rename_i hd
  split
  ·rename_i hA
   have hA2 := gQ hA
   split
   ·exact ⟨zq _, h, by simp⟩
   ·have := Zv b f k (p + 2) (d + 1) hA2
    exact ⟨by omega, this.2.1, fun _ => by omega⟩
  split
  ·rename_i hA
   have hA2 := gQ hA
   split
   ·exact ⟨by simp only; omega, hA2, fun _ => by simp only; omega⟩
   ·have := Zv b f k (p + 2) (d - 1) hA2
    exact ⟨by omega, this.2.1, fun _ => by omega⟩
  split
  ·exact ⟨zq _, h, by simp⟩
  ·rename_i q hq
   have h1 := p7 hd hq
   have := Zv b f k (p + q.2) d h1.2
   exact ⟨by omega, this.2.1, fun _ => by omega⟩
theorem Qh {b : List Nat} (hb : Byt b) (f : Nat) : ∀ (k p : Nat) (out : List Nat), p ≤ b.length → p ≤ (qo b f k p out).2 ∧ (qo b f k p out).2 ≤ b.length
 | 0, p, out, h => by simp only [qo]; omega
 | k + 1, p, out, h => by
  simp only [qo]
  split
  ·simp only; omega
  rename_i hd
  split
  ·simp only; omega
  rename_i q hq
  have h1 := p7 hd hq
  split
  ·simp only; omega
  split
  ·split
   ·simp only; omega
   ·have h2 := Wb hb (p := p + q.2) (by omega)
    split
    ·have := Qh hb f k (escR b (p + q.2)).2 (out ++ encC (by assumption)) (by omega)
     omega
    ·simp only; omega
  ·have := Qh hb f k (p + q.2) (out ++ encC q.1) (by omega)
   omega
theorem Qj (b : List Nat) (p : Nat) : p ≤ b.length → p + (twS b p).length ≤ b.length := fun h => by
 have := Qk xY (b.drop p)
 rw [znK] at this
 show p + ((b.drop p).takeWhile xY).length ≤ _
 omega
theorem zrV {p : Nat} (h : p + 2 ≤ b.length) : p + 2 ≤ (litR b p).2 ∧ (litR b p).2 ≤ b.length := by
 unfold litR
 split
 ·simp only; omega
 ·split
  ·simp only; omega
  ·rename_i q hq
   have h1 := p7 (fun e => by have := congrArg yB e; rw [znK] at this; simp at this; omega) hq
   have := Qj b (p + 2 + q.2) h1.2
   simp only; omega
theorem zuM {p q c : Nat} {w : List Nat} (n : Nat) (h : q ≤ n) (h2 : c = 40 → q < n) : q ≤ (ve p w c q).q ∧ (ve p w c q).q ≤ n := by
 unfold ve
 split
 ·exact ⟨zq _, h⟩
 split
 ·rename_i hc; exact ⟨by simp only; omega, h2 hc.2⟩
 split
 ·exact ⟨zq _, h⟩
 ·exact ⟨zq _, h⟩
theorem zuk {p : Nat} (h : ww b p ≠ 0) : p < b.length := by
 apply yL
 intro hle
 unfold ww at h
 rw [znQ hle] at h
 exact h rfl
theorem zuJ {p : Nat} (h : p < b.length) : p < (qd b p).q ∧ (qd b p).q ≤ b.length := by
 unfold qd
 split
 ·rename_i hA
  have := gQ hA
  simp only; omega
 split
 ·rename_i hA
  have := zrV (gQ hA)
  unfold pb
  split <;> simp only <;> omega
 ·have h1 := Qj b (p + 1) (by omega)
  have := zuM (p := p) (c := ww b (p + 1 + (twS b (p + 1)).length)) (w := twS b (p + 1)) b.length h1 (fun e => zuk (by omega))
  omega
theorem U8 {p c : Nat} {r : List Nat} (hb : Byt b) (hd : b.drop p = c :: r) : p ≤ (tokB b p c).q ∧ (tokB b p c).q ≤ b.length ∧ ((tokB b p c).f.1 = 0 → p < (tokB b p c).q) := by
 obtain ⟨h1, _⟩ := uf hd
 unfold tokB
 split
 ·exact ⟨by simp only; omega, h1, fun _ => by simp only; omega⟩
 split
 ·rename_i h59
  have h2 := WB b (b.length + 1) p (by omega)
  have h3 := fun h => zuB (b := b) (k := b.length) hd (by omega) h
  revert h2 h3
  generalize uD b (b.length + 1) p = Q
  intro h2 h3
  obtain ⟨o, q⟩ := Q
  cases o with
  | none => exact ⟨h2.1, h2.2, fun _ => h3 rfl⟩
  | some x => exact ⟨h2.1, h2.2, fun h => by simp [gj] at h⟩
 split
 ·exact Zv b p (b.length + 1) p 0 (by omega)
 split
 ·exact ⟨by simp only; omega, h1, fun _ => by simp only; omega⟩
 split
 ·have h2 := Qh hb p (b.length + 1) (p + 1) [] h1
  revert h2
  generalize qo b p (b.length + 1) (p + 1) [] = Q
  intro h2
  obtain ⟨o, q⟩ := Q
  cases o with
  | inl s => exact ⟨by simp only [kO] at h2 ⊢; omega, h2.2, fun _ => by simp only [kO] at h2 ⊢; omega⟩
  | inr f => exact ⟨by simp only [kO] at h2 ⊢; omega, h2.2, fun _ => by simp only [kO] at h2 ⊢; omega⟩
 split
 ·have := zuJ h1
  exact ⟨by omega, this.2, fun _ => this.1⟩
 split
 ·rename_i hS
  have h2 := Qj b p (by omega)
  have h3 : 1 ≤ (twS b p).length := by
   unfold twS
   rw [hd, znW, hS]; simp
  exact ⟨by simp only; omega, h2, fun _ => by simp only; omega⟩
 ·exact ⟨zq _, by simp only; omega, fun h => by simp at h⟩
theorem pA (b : List Nat) (x : LR) (l : Bool) : (fin2 b x l).q = x.q ∧ (fin2 b x l).t = x.t ∧ ((fin2 b x l).f.1 = 0 → x.f.1 = 0) := by
 unfold fin2
 split
 ·exact ⟨rfl, rfl, fun h => by simp at h⟩
 ·exact ⟨rfl, rfl, fun h => h⟩
theorem ZL {p : Nat} (hb : Byt b) (hp : p < b.length) : p ≤ (tokR b p).q ∧ (tokR b p).q ≤ b.length ∧ ((tokR b p).f.1 = 0 → p < (tokR b p).q) := by
 cases hd : b.drop p with
 | nil => have := vd hd (yJ hp); omega
 | cons c r =>
  have h1 := U8 hb hd
  have h2 := pA b (tokB b p c) (tokL b p c)
  unfold tokR
  rw [wJ hd, h2.1]
  exact ⟨h1.1, h1.2.1, fun h => h1.2.2 (h2.2.2 h)⟩
noncomputable def gTok : List AV → St → Option (AV × St) := gM ZT tokF
theorem GH (B : Bx P w0) (hO : OrcOk P w0 O) (o1 : O 33 = none) (o3 : O 70 = none)
  (h1 : O 60 = some (jn vD)) (h2 : O 67 = some (jn xY)) (h3 : O 71 = some (jn u3)) (h4 : O 69 = some gRun) (h5 : O 62 = some gBg) (h6 : O 61 = some Pp) (h7 : O 63 = some Pr) (h8 : O 65 = some Pt) (h9 : O 66 = some Pq) (hA : O 68 = some Vq) (hB : O 64 = some gIxB) : OrcOk P w0 (withG 34 gTok O) :=
 uM hO (fun b p _ => KI _) fun b p hx => zqz B hO o1 o3 h1 h2 h3 h4 h5 h6 h7 h8 h9 hA hB (fun b p c r hb _ hd => (U8 hb hd).2.1) b p hx
def lexR (b : List Nat) : Nat → Nat → List Tok → List Tok × (Nat × Nat)
 | 0, _, acc => (acc, (0, 0))
 | k + 1, p, acc => if p < b.length then (if (tokR b p).f.1 = 0 then lexR b k (tokR b p).q (if (tokR b p).t.kind = 0 then acc else acc ++ [(tokR b p).t]) else ([], (tokR b p).f)) else (acc, (0, 0))
def lexS (b : List Nat) : List Tok × (Nat × Nat) := lexR b (b.length + 1) 0 []
def lexV (x : List Tok × (Nat × Nat)) : AV := .tup [.lst x.1.length false (qt x.1), flt x.2]
def accV (acc : List Tok) : AV := match acc with
 | [] => .nils
 | t :: r => .gr 2 7 (t :: r).length (qt (t :: r))
def accO (acc : List Tok) : List (Option AObj) := match acc with
 | [] => []
 | t :: r => [some (.app 44 (qt (t :: r)))]
attribute [local go_sem] accV accO frow rdr f33 lexV flt gU f35 jI in
theorem zp4 (B : Bx P w0) (hO : OrcOk P w0 O) (o1 : O 33 = none) (o2 : O 35 = none) (h1' : O 34 = some gTok)
  (b : List Nat) (hb : Byt b) (hl : b.length < 100000) :
  SC P w0 17 [.lst b.length false (xo b)] (H [] 0 true) (lexV (lexS b)) (H [] 0 true) := by
 refine bs B hO f17 fun C k => ?_
 have cend := ci f33 o1
 have cnone := ci f35 o2
 unfold f17
 simp only [Ko, Kn, Kd, Kf, Ki, Kv, Km, Kr, opN]
 refine k.q ?_
 refine k.q ?_
 refine k.q ?_
 refine vQ (fun x : List Tok × Nat => lexS b = (x.1, (0, 0))) (fun x => ⟨tmL [(2, accV x.1), (3, .ptr 0 0), (4, .ptr 1 0)], []⟩) (fun x => H ([some frow, some (rdr b x.2)] ++ accO x.1) 0 true) (xS (x6 (k.gcL [0, 1] [2, 3, 4] true (fr1 := ⟨tmL [(2, accV []), (3, .ptr 0 0), (4, .ptr 1 0)], []⟩) (s1 := H ([some frow, some (rdr b 0)] ++ accO []) 0 true) (by simp (disch := first | exact dis | fail) only [go_sem, seval, -rO, -rN, rdr, accV, accO, frow]) ?_))) ?_
 ·refine wb (fun x : Nat × Nat × List Tok => x.1) (fun x => ⟨tmL [(2, accV x.2.2), (3, .ptr 0 0), (4, .ptr 1 0)], []⟩) (fun x => H ([some frow, some (rdr b x.2.1)] ++ accO x.2.2) 0 true) (fun x => lexR b x.1 x.2.1 x.2.2 = lexS b ∧ b.length < x.1 + x.2.1 ∧ x.2.1 ≤ b.length ∧ x.2.2.length ≤ x.2.1) (fun x hx => ?_) (b.length + 1, 0, []) ⟨rfl, by simp only; omega, zN _, zq _⟩
  obtain ⟨kk, p, acc⟩ := x
  obtain ⟨g1, g2, g3, g4⟩ := hx
  simp only at g1 g2 g3 g4 ⊢
  cases kk with
  | zero => omega
  | succ kk =>
  rw [lexR] at g1
  by_cases hlt : p < b.length
  ·rw [if_pos hlt] at g1
   have htok := fun (l : List (Nat × Option AObj)) n m md => vB h1' (b := b) (p := p) (show ZT (b, p) from ⟨hb, hl, hlt⟩) false l n m md 1
   have hle := ZL hb hlt
   simp only [tokF, lrV] at htok
   revert g1 htok hle
   generalize tokR b p = X
   obtain ⟨⟨tk, tp, ⟨dk, dn, dt, dks, dp⟩⟩, ⟨e, ep⟩, q⟩ := X
   intro g1 htok hle
   simp only [flt, ws] at g1 htok hle
   by_cases he : e = 0
   ·subst he
    rw [if_pos rfl] at g1
    obtain ⟨_, h5, h6⟩ := hle
    have h6 := h6 rfl
    by_cases hk : tk = 0
    ·subst hk
     rw [if_pos rfl] at g1
     cases acc with
     | nil =>
      refine k.z ?_
      refine ⟨(kk, q, []), ⟨g1, by simp only; omega, h5, by simp only at g4 ⊢; omega⟩, yw _, ?_⟩
      exact k.g [0, 1] [2, 3, 4]
     | cons a0 ar =>
      have hp1 := vT (a0 :: ar)
      refine k.z ?_
      refine ⟨(kk, q, a0 :: ar), ⟨g1, by simp only; omega, h5, by simp only at g4 ⊢; omega⟩, yw _, ?_⟩
      exact k.g [0, 1, 2] [2, 3, 4]
    ·rw [if_neg hk] at g1
     cases acc with
     | nil =>
      refine k.z ?_
      refine ⟨(kk, q, [] ++ [⟨tk, tp, .mk dk dn dt dks dp⟩]), ⟨g1, by simp only; omega, h5, by simp only [ye, yY, yX] at g4 ⊢; omega⟩, yw _, ?_⟩
      refine k.gcs (keep := [0, 1, 4]) (live := [2, 3, 4]) (md := true) ?_
      simp only [y8, znO, accV, accO, wy, gU, xi, ws, yY, yX]
      simp (disch := first | exact dis | fail) only [go_sem, seval, -rO, -rN, frow, rdr]
     | cons a0 ar =>
      simp only [yY] at g4
      have hp1 := vT (a0 :: ar)
      refine k.z ?_
      refine ⟨(kk, q, (a0 :: ar) ++ [⟨tk, tp, .mk dk dn dt dks dp⟩]), ⟨g1, by simp only; omega, h5, by simp only [ye, yY, yX] at g4 ⊢; omega⟩, yw _, ?_⟩
      refine k.gcs (keep := [0, 1, 5]) (live := [2, 3, 4]) (md := true) ?_
      simp only [y8, znO, accV, accO, wy, XR, gU, xi, ws, znY, ye, yY, yX]
      simp (disch := first | exact dis | fail) only [go_sem, seval, -rO, -rN, frow, rdr, vT, u7]
   ·rw [if_neg he] at g1
    rw [← g1]
    cases acc with
    | nil =>
     refine k.z ?_
     exact fin
    | cons a0 ar =>
     have hp1 := vT (a0 :: ar)
     refine k.z ?_
     exact fin
  ·rw [if_neg hlt] at g1
   cases acc with
   | nil =>
    refine k.z ?_
    simp only [Gcx]
    refine ⟨([], p), g1.symm, ?_⟩
    exact k.g [0, 1] [2, 3, 4]
   | cons a0 ar =>
    have hp1 := vT (a0 :: ar)
    refine k.z ?_
    simp only [Gcx]
    refine ⟨(a0 :: ar, p), g1.symm, ?_⟩
    exact k.g [0, 1, 2] [2, 3, 4]
 ·intro x hx
  obtain ⟨acc, p⟩ := x
  simp only at hx ⊢
  rw [hx]
  cases acc with
  | nil =>
   refine k.q ?_
   refine k.z ?_
   exact fin
  | cons a0 ar =>
   have hp1 := vT (a0 :: ar)
   refine k.q ?_
   refine k.z ?_
   exact fin
theorem addL {α : Type} {f : Nat} {enc : α → List AV} {Pre : α → Prop} {F : α → AV} (hO : OrcOk P w0 O) (hp1 : ∀ x, xz (enc x) = true) (hp2 : ∀ x, xG (F x) = true) (h : ∀ x, Pre x → SC P w0 f (enc x) (H [] 0 true) (F x) (H [] 0 true)) : OrcOk P w0 (withG f (orc0 enc Pre F) O) :=
 hO.withG w9 (v5 true hp1 hp2 fun x hx => ⟨_, h x hx⟩)
noncomputable def LA : Orc := withG 106 Vo (withG 100 gDr (withG 117 Wn (withG 51 gIs (withG 64 gIxB (withG 71 (jn u3) (withG 67 (jn xY) (withG 60 (jn vD) noO)))))))
theorem Hq (c : Int) : xz (encI c) = true := rfl
theorem zoL (B : Bx P w0) : OrcOk P w0 LA := by
 have h0 := qu P w0
 have h1 := pk B h0 zwN
 have h2 := pk B h1 zon
 have h3 := pk B h2 zw5
 have h4 := zuu B h3
 have h5 : OrcOk P w0 (withG 51 gIs _) := addL h4 Hq (fun _ => rfl) fun x _ => zpo B h0 rfl x
 have h6 : OrcOk P w0 (withG 117 Wn _) := addL h5 kC kY fun x hx => by
  obtain ⟨b0, r, rfl, hb, h1, h2⟩ := hx
  exact zzl B h0 b0 r hb h1 h2
 have h7 : OrcOk P w0 (withG 100 gDr _) := addL h6 kC kY fun x hx => zpl B h6 rfl x hx.1 hx.2.1 hx.2.2
 exact HK B h7 rfl rfl
noncomputable def LB : Orc := withG 108 YU (withG 91 gPk (withG 62 gBg (withG 69 gRun (withG 87 l9 LA))))
theorem zoM (B : Bx P w0) : OrcOk P w0 LB := by
 have h0 := zoL B
 have h1 := G7 B h0 rfl rfl rfl
 have h2 := zxA B h1 rfl rfl
 have h3 := zwz B h2
 have h4 := H8 B h3
 exact HN B h4 rfl rfl
noncomputable def LC : Orc := withG 65 Pt (withG 89 gEsc (withG 63 Pr (withG 61 Pp LB)))
theorem zoN (B : Bx P w0) : OrcOk P w0 LC := by
 have h0 := zoM B
 have h1 := HW B h0 rfl rfl rfl
 have h2 := UR B h1 rfl rfl rfl rfl rfl
 have h3 := Uv B h2 rfl rfl rfl rfl rfl rfl
 exact Lp B h3 rfl rfl rfl rfl rfl rfl rfl rfl rfl rfl
noncomputable def LE : Orc := withG 68 Vq (withG 93 gInt (withG 110 (gTr [48] qM) (withG 109 (gTr Za Yz) (withG 66 Pq (withG 90 gLit LC)))))
theorem zoO (B : Bx P w0) : OrcOk P w0 LE := by
 have h0 := zoN B
 have h1 := Qx B h0 rfl rfl rfl rfl rfl rfl
 have h2 := UP B h1 rfl rfl rfl rfl rfl rfl
 have h3 := Lw B h2
 have h4 := zx4 B h3
 have h5 := zyQ B h4 rfl rfl
 exact LM B h5 rfl
theorem zqC (B : Bx P w0) : OrcOk P w0 (withG 34 gTok LE) :=
 GH B (zoO B) rfl rfl rfl rfl rfl rfl rfl rfl rfl rfl rfl rfl rfl
def ga (b : List Nat) : List AV := [.lst b.length false (xo b)]
def PreS (b : List Nat) : Prop := Byt b ∧ b.length < 100000
theorem X2 : ∀ x y, ga x = ga y → x = y := fun b c h => by
 simp only [ga, yZ, AV.lst.injEq, and_true, true_and] at h
 exact uo h.2
theorem YP (b : List Nat) : xz (ga b) = true := by simp only [ga, xw, wi, xD, y6]
theorem zyW (x : List Tok × (Nat × Nat)) : xG (lexV x) = true := by simp only [lexV, wE, xw, wi, uL, xD, y6]
noncomputable def gLex : List AV → St → Option (AV × St) := orc0 ga PreS (fun b => lexV (lexS b))
theorem zyX (B : Bx P w0) (hO : OrcOk P w0 O) : OrcOk P w0 (withG 17 gLex O) :=
 addL hO YP (fun _ => zyW _) fun b hb => zp4 B (zqC B) rfl rfl rfl b hb.1 hb.2
theorem zuA (h : O 17 = some gLex) (hb : PreS b) (e : Bool) (s : St) : (evW env O).call 17 [.lst b.length e (xo b)] s = some (lexV (lexS b), s) := by
 rw [xC h, gLex, we X2 s b hb (by simp only [ga, wkL, wkV, vW])]
open Go.RowKit (Below)
def Uj (t : List Nat) : List UInt8 := t.map UInt8.ofNat
theorem YG (s : ByteArray) : Uj (nats s) = s.data.toList := by
 simp only [Uj, nats, List.map_map]
 conv => rhs; rw [← List.map_id s.data.toList]
 apply List.map_congr_left
 intro u _
 simp [UInt8.ofNat_toNat]
def qy (t : List Nat) : Int × Bool := match Lib.atoiAll (Uj t) with
 | .ok v => (v, true)
 | .range => (Lib.atoiSat (Uj t), false)
 | _ => (0, false)
structure AtoiOk (P : Program) (w0 : World) : Prop where
 fn : ∃ fn, P.funcs[86]? = some fn ∧ fn.body.isSome = true ∧ (fn.name == "runtime.NumGoroutine") = false
 ok : ∀ (s : ByteArray) (w : World), Below w0.heap.size w0 w → s.size ≤ 281474976710656 → (qy (nats s)).2 = true → Calls P 86 #[.string s] w fun e w' => Below w.heap.size w w' ∧ e = .returned (.tuple #[.int .i64 (qy (nats s)).1, .nilIface])
 no : ∀ (s : ByteArray) (w : World), Below w0.heap.size w0 w → s.size ≤ 281474976710656 → (qy (nats s)).2 = false → Calls P 86 #[.string s] w fun e w' => Below w.heap.size w w' ∧ ∃ N, e = .returned (.tuple #[.int .i64 (qy (nats s)).1, .iface 159 (.pointer (some ⟨N, 0, none⟩))]) ∧ w.heap.size ≤ N ∧ N < w'.heap.size
theorem Wide.all {F : Fence} (hF : Wide F) (P : Program) (m : Machine) : m.fenced P F := fun g _ => ⟨(fun h => by rw [hF.alive] at h; cases h), .inl (hF.fn _), fun f _ => hF.fn f, (fun d hd => by rw [hF.depth] at hd; cases hd)⟩
theorem Qr {F : Fence} (hF : Wide F) {f : FuncId} {args : Array Value} {R : Ending → World → Prop} (h : Calls P f args w R) : CallsIn F n P f args w R :=
 ⟨hF.fn f, fun cs _ => by
  obtain ⟨e, w', fr, r, s, x⟩ := h cs
  refine ⟨e, w', fr, r, ?_, x⟩
  cases e with
  | returned v => exact (StepsIn.of_steps s).mono fun m _ => hF.all P m
  | panicked chain => exact (StepsIn.of_steps s).mono fun m _ => hF.all P m
  | outgrown => exact s⟩
def Qa (s : St) : St := { s with next := s.next + 1 }
theorem Gx (s : St) : Ext s (Qa s) := ⟨Nat.le_succ _, fun _ h => h, rfl, rfl, fun _ _ _ => rfl, fun _ o _ h => ⟨o, h⟩, fun h => ⟨fun id o ho => Nat.lt_succ_of_lt (h.lt id o ho), fun p hp => Nat.le_succ_of_le (h.hd p hp)⟩, fun _ _ h => .inl h, fun _ _ _ _ _ h => h⟩
theorem zxH (r : Rel P w0 φ s.get w) (hwf : Wf s) (hf : φ s.next = none) (hb : Below w.heap.size w w') {N : Nat} (h1 : w.heap.size ≤ N) (h2 : N < w'.heap.size) : Step P w0 φ s w (φ.set s.next ⟨N, 0, 0⟩) (Qa s) w' := by
 have rb := r.below hb
 have hlt : ∀ id o, s.get id = some o → id ≠ s.next := fun id o h => by have := hwf.lt id o (xI h); omega
 have hset : ∀ id, id ≠ s.next → (φ.set s.next ⟨N, 0, 0⟩) id = φ id := fun id h => if_neg h
 have hg : (Qa s).get = s.get := rfl
 refine ⟨Gx s, ?_, fun id h => hset id (by
  rcases h with h | h
  ·omega
  ·simp only [Qa] at h; omega), hb.size, fun b hlt _ => hb.block b hlt, fun id B g1 g2 g3 => ?_, fun _ _ _ h => h, fun _ _ _ h => .inl h⟩
 ·rw [hg]
  refine ⟨rb.base, fun id o ho => ?_, fun id B hB => ?_, fun id o B ho hB => rb.old id o B ho (by rw [← hset id (hlt id o ho)]; exact hB), fun id id' o o' B B' k1 k2 k3 k4 => rb.inj id id' o o' B B' k1 k2 (by rw [← hset id (hlt id o k1)]; exact k3) (by rw [← hset id' (hlt id' o' k2)]; exact k4), rb.frz, fun id o B ho hB => rb.sep id o B ho (by rw [← hset id (hlt id o ho)]; exact hB)⟩
  ·obtain ⟨B, hB, t⟩ := rb.obj id o ho
   exact ⟨B, (hset id (hlt id o ho)).trans hB, t.keep (Phi.set_sub hf) rfl⟩
  ·by_cases e : id = s.next
   ·subst e
    have : (if s.next = s.next then some (⟨N, 0, 0⟩ : Blk) else φ s.next) = some B := hB
    rw [if_pos rfl] at this; cases this; exact h2
   ·rw [hset id e] at hB; exact rb.rng id B hB
 ·have e : id = s.next := by simp only [Qa] at g2; omega
  subst e
  have : (if s.next = s.next then some (⟨N, 0, 0⟩ : Blk) else φ s.next) = some B := g3
  rw [if_pos rfl] at this; cases this; exact .inl h1
open Classical in
noncomputable def hH (args : List AV) (s : St) : Option (AV × St) :=
 match args with
 | [.str t] => if t.length < 1000000 then (if (qy t).2 = true then some (.tup [.int .i64 (qy t).1, .nili], s) else some (.tup [.int .i64 (qy t).1, .ifc 159 (.ptr s.next 0)], Qa s)) else none
 | _ => none
theorem Vn {args : List AV} (h : hH args s = some (v, s')) : ∃ t, args = [.str t] ∧ t.length < 1000000 ∧ ((qy t).2 = true ∧ v = .tup [.int .i64 (qy t).1, .nili] ∧ s' = s ∨ (qy t).2 = false ∧ v = .tup [.int .i64 (qy t).1, .ifc 159 (.ptr s.next 0)] ∧ s' = Qa s) := by
 unfold hH at h
 split at h
 ·rename_i t
  split at h
  ·rename_i hl
   split at h
   ·rename_i hk; cases h; exact ⟨t, rfl, hl, .inl ⟨hk, rfl, rfl⟩⟩
   ·rename_i hk; cases h; exact ⟨t, rfl, hl, .inr ⟨by simpa using hk, rfl, rfl⟩⟩
  ·cases h
 ·cases h
theorem zyJ (args : List AV) (s : St) (v : AV) (s' : St) (h : hH args s = some (v, s')) : Ext s s' := by
 obtain ⟨t, _, _, ⟨_, _, rfl⟩ | ⟨_, _, rfl⟩⟩ := Vn h
 ·exact Ext.refl _
 ·exact Gx _
theorem GU (A : AtoiOk P w0) (hO : OrcOk P w0 O) : OrcOk P w0 (withG 86 hH O) :=
 hO.withG zyJ fun args s v s' hg => by
  obtain ⟨t, rfl, hl, hv⟩ := Vn hg
  refine ⟨A.fn, fun φ w xs r hwf hf hx F n hF => ?_⟩
  simp only [VRL, VR] at hx
  obtain ⟨_, _, rfl, ⟨sb, rfl, rfl⟩, rfl⟩ := hx
  have hsz : sb.size ≤ 281474976710656 := by
   have : (nats sb).length = sb.size := by
    show (sb.data.toList.map (·.toNat)).length = sb.data.size
    rw [List.length_map, Array.length_toList]
   omega
  refine Qr hF ?_
  rcases hv with ⟨hk, rfl, rfl⟩ | ⟨hk, rfl, rfl⟩
  ·refine Calls.mono (A.ok sb w r.base hsz hk) ?_
   rintro e w' ⟨hb, rfl⟩
   exact ⟨φ, _, rfl, Step.below r hb, by simp only [VR, VRL]; exact ⟨_, rfl, _, _, rfl, rfl, _, _, rfl, rfl, rfl⟩⟩
  ·refine Calls.mono (A.no sb w r.base hsz hk) ?_
   rintro e w' ⟨hb, N, rfl, h1, h2⟩
   refine ⟨φ.set s.next ⟨N, 0, 0⟩, _, rfl, zxH r hwf (hf s.next (zq _)) hb h1 h2, ?_⟩
   simp only [VR, VRL]
   exact ⟨_, rfl, _, _, rfl, rfl, _, _, rfl, ⟨_, rfl, ⟨N, 0, 0⟩, if_pos rfl, rfl⟩, rfl⟩
theorem LZ (h : O 86 = some hH) {t : List Nat} (hl : t.length < 1000000) (hk : (qy t).2 = true) (s : St) : (evW env O).call 86 [.str t] s = some (.tup [.int .i64 (qy t).1, .nili], s) := by
 rw [xC h]; simp only [hH]; rw [if_pos hl, if_pos hk]
theorem zsv (h : O 86 = some hH) {t : List Nat} (hl : t.length < 1000000) (hk : (qy t).2 = false) (l : List (Nat × Option AObj)) (n m : Nat) (b : Bool) : (evW env O).call 86 [.str t] (KL l n m b [] none) = some (.tup [.int .i64 (qy t).1, .ifc 159 (.ptr n 0)], KL l (n + 1) m b [] none) := by
 rw [xC h]; simp only [hH]; rw [if_pos hl, if_neg (by rw [hk]; simp)]; rfl
def posD : DT → Int | .mk _ _ _ _ p => p
def kB (x e : DT) : DT := .mk (.ofNat 6) (.ofNat 0) [] [x, e] (posD x)
def wP (l : List DT) (e : DT) : DT := l.foldr kB e
def i3 : Nat → Int
 | 0 => .negSucc 0
 | k + 1 => .ofNat k
theorem zq7 : vq .i64 (.negSucc 0) = .negSucc 0 := rfl
theorem zom : Int.sub (.ofNat 0) (.ofNat 1) = .negSucc 0 := rfl
structure DCell (e : DT) (ce : List AV) : Prop where
 wk : wkL ce = xT e
 pure : xz ce = true
 is : ∃ k n t m ex cs p, ce = [.int .i64 k, .int .i64 n, .str t, .lst m ex cs, .int .i64 p]
 sc : wj ce = true
theorem DCell.of (e : DT) : DCell e (xT e) := ⟨vS e, wB e, by obtain ⟨k, n, t, ks, p⟩ := e; exact ⟨k, n, t, ks.length, false, xv ks, p, by simp only [xq]⟩, Jy e⟩
theorem LL (a b : List AV) : wkL (a ++ b) = wkL a ++ wkL b := by
 induction a with
 | nil => rfl
 | cons v a ih => simp only [y8, wkL, ih]
theorem DCell.cons {x e : DT} {ce : List AV} (h : DCell e ce) : DCell (kB x e) [.int .i64 (.ofNat 6), .int .i64 (.ofNat 0), .str [], .lst 2 true (xT x ++ ce), .int .i64 (posD x)] :=
 ⟨by simp only [wkL, wkV, kB, xq, LL, vS, h.wk, xM, xO, xi, yY, yX],
  by simp only [xw, xD, wc, qc, wi, y6],
  ⟨_, _, _, _, _, _, _, rfl⟩, by simp only [QG, QH, Gn, Gq, Gp, y6]⟩
def B4 (w : Nat) : Prop := w.testBit 4 = true
def Idle (m : Nat) (l l' : List (Nat × Option AObj)) (nx nx' w w' : Nat) : Prop := m = 0 → l' = l ∧ nx' = nx ∧ w' = w
def ZU : ICode := match f103.body with
 | .seq _ (.block _ (.loop b)) => b
 | _ => .skip
def lsRf : List Nat × ICode × ICode := match f56.body with
 | .seq _ (.seq (.seq _ (.block _ (.rf _ ps a b))) _) => (ps, a, b)
 | _ => ([], .skip, .skip)
theorem zzv (n : Nat) (ex : Bool) (xs : List DT) (hn : xs.length = n) (hn2 : n < 1000000) (tF : List (Nat × AV)) (h3 : (tmL tF).get 3 = some (.ptr 0 0)) :
  ∀ (m : Nat), m ≤ n → ∀ (l : List (Nat × Option AObj)) (nx w : Nat) (e : DT) (ce : List AV) (T : List (Nat × AV)), DCell e ce → 5 ≤ nx → getA l 0 = some (.row 24 ce false false) → getA l 2 = some (.row 22 [.lst n ex (xv xs)] false false) → getA l 4 = some (.loop .ready none (tmL tF) lsRf.1 lsRf.2.1 lsRf.2.2 3) →
   (tmL T).get 0 = some (.yld 4) → (tmL T).get 1 = some (.ptr 2 0) → (tmL T).get 3 = some (.int .i64 (i3 m)) →
   ∃ l' nx' w' ce' T', evC env (evW env O) none (.loop ZU) ⟨tmL T, []⟩ (KL l nx w true [] none) = some (.exit 0, ⟨tmL T', []⟩, KL l' nx' w' true [] none) ∧ DCell (wP (xs.take m) e) ce' ∧ 5 ≤ nx' ∧ getA l' 0 = some (.row 24 ce' false false) ∧ getA l' 4 = some (.loop .ready none (tmL tF) lsRf.1 lsRf.2.1 lsRf.2.2 3) ∧ getA l' 1 = getA l 1 ∧ getA l' 3 = getA l 3 ∧ (B4 w ∨ 0 < m → B4 w') ∧ Idle m l l' nx nx' w w' := by
 intro m
 induction m with
 | zero =>
  intro _ l nx w e ce T hc hnx g0 g2 g4 t0 t1 t3
  rw [JV]
  simp (disch := first | exact dis | fail) only [go_sem, seval, -rO, -rN, ZU, f103, t3, i3]
  exact ⟨_, _, _, ce, _, rfl, hc, hnx, g0, g4, rfl, rfl, fun h => h.elim id False.elim, fun _ => ⟨rfl, rfl, rfl⟩⟩
 | succ m ih =>
  intro hm l nx w e ce T hc hnx g0 g2 g4 t0 t1 t3
  have hlt : m < xs.length := by omega
  obtain ⟨x, r, hd⟩ : ∃ x r, xs.drop m = x :: r := by
   cases h : xs.drop m with
   | nil => have := congrArg yB h; simp at this; omega
   | cons x r => exact ⟨x, r, rfl⟩
  obtain ⟨ek, en, et, vm, vx, vc, ep, rfl⟩ := hc.is
  obtain ⟨xk, xn, xt, xks, xp⟩ := x
  have q0 : ¬ 0 = nx := by omega
  have q1 : ¬ 1 = nx := by omega
  have q2 : ¬ 2 = nx := by omega
  have q3 : ¬ 3 = nx := by omega
  have q4 : ¬ 4 = nx := by omega
  have r0 : ¬ nx = 0 := by omega
  have r4 : ¬ nx = 4 := by omega
  have hev : xG (.lst vm vx vc) = true := by
   simp only [wi]
  have hp10 : xz [.int .i64 xk, .int .i64 xn, .str xt, .lst xks.length false (xv xks), .int .i64 xp, .int .i64 ek, .int .i64 en, .str et, .lst vm vx vc, .int .i64 ep] = true := by
   simp only [sxP, hev, y6]
  have htk : wP (xs.take (m + 1)) e = wP (xs.take m) (kB (.mk xk xn xt xks xp) e) := by
   have h5 : xs.take (m + 1) = xs.take m ++ [.mk xk xn xt xks xp] := by
    rw [List.take_add, hd]; rfl
   rw [h5]; simp only [wP, List.foldr_append, List.foldr_cons, List.foldr_nil]
  have hcc := hc.cons (x := .mk xk xn xt xks xp)
  have fin : ∀ (l1 : List (Nat × Option AObj)) (w1 : Nat) (T1 : List (Nat × AV)), getA l1 0 = some (.row 24 [.int .i64 (.ofNat 6), .int .i64 (.ofNat 0), .str [], .lst 2 true (xT (.mk xk xn xt xks xp) ++ [.int .i64 ek, .int .i64 en, .str et, .lst vm vx vc, .int .i64 ep]), .int .i64 xp] false false) → getA l1 2 = some (.row 22 [.lst n ex (xv xs)] false false) → getA l1 4 = some (.loop .ready none (tmL tF) lsRf.1 lsRf.2.1 lsRf.2.2 3) → getA l1 1 = getA l 1 → getA l1 3 = getA l 3 →
    (tmL T1).get 0 = some (.yld 4) → (tmL T1).get 1 = some (.ptr 2 0) → (tmL T1).get 3 = some (.int .i64 (i3 m)) → B4 w1 →
    ∃ l' nx' w' ce' T', evC env (evW env O) none (.loop ZU) ⟨tmL T1, []⟩ (KL l1 (nx + 1) w1 true [] none) = some (.exit 0, ⟨tmL T', []⟩, KL l' nx' w' true [] none) ∧ DCell (wP (xs.take (m + 1)) e) ce' ∧ 5 ≤ nx' ∧ getA l' 0 = some (.row 24 ce' false false) ∧ getA l' 4 = some (.loop .ready none (tmL tF) lsRf.1 lsRf.2.1 lsRf.2.2 3) ∧ getA l' 1 = getA l 1 ∧ getA l' 3 = getA l 3 ∧ (B4 w ∨ 0 < m + 1 → B4 w') ∧ Idle (m + 1) l l' nx nx' w w' := fun l1 w1 T1 a1 a2 a3 a4 a5 a6 a7 a8 a9 => by
   obtain ⟨l', nx', w', ce', T', k1, k2, k3, k4, k5, k6, k7, k8, k9⟩ := ih (by omega) l1 (nx + 1) w1 _ _ T1 hcc (by omega) a1 a2 a3 a6 a7 a8
   exact ⟨l', nx', w', ce', T', k1, by rw [htk]; exact k2, k3, k4, k5, k6.trans a4, k7.trans a5, fun _ => k8 (.inl a9), fun h => by omega⟩
  rw [JV]
  generalize hK : (fun f t => evC env (evW env O) none (.loop ZU) f t) = K
  have i3s : i3 (m + 1) = .ofNat m := rfl
  have hsub : vq .i64 (Int.sub (.ofNat m) (.ofNat 1)) = i3 m := by
   cases m with
   | zero => rfl
   | succ k => rw [subI (by omega), LO (by omega)]; rfl
  simp (disch := first | exact dis | fail) only [go_sem, seval, -rO, -rN, ZU, f103, lsRf, f56, t0, t1, t3, i3s, hsub, g0, g2, g4, h3, qV, hd, xM, xq, q0, q4, r4]
  subst hK
  refine fin _ _ _ ?_ ?_ ?_ ?_ ?_ ?_ ?_ ?_ ?_
  ·simp (disch := first | exact dis | fail) only [go_sem, seval, -rO, -rN, xq]
  ·simp (disch := first | exact dis | fail) only [go_sem, seval, -rO, -rN, q2, g2]
  ·simp (disch := first | exact dis | fail) only [go_sem, seval, -rO, -rN, lsRf, f56]
  ·simp (disch := first | exact dis | fail) only [go_sem, seval, -rO, -rN, q1]
  ·simp (disch := first | exact dis | fail) only [go_sem, seval, -rO, -rN, q3]
  ·simp (disch := first | exact dis | fail) only [go_sem, seval, -rO, -rN, t0]
  ·simp (disch := first | exact dis | fail) only [go_sem, seval, -rO, -rN, t1]
  ·simp (disch := first | exact dis | fail) only [go_sem, seval, -rO, -rN]
  ·simp only [B4, Nat.testBit_or, Nat.testBit_shiftLeft]
   simp (decide := true)
theorem zrU (B : Bx P w0) (hO : OrcOk P w0 O) (o1 : O 85 = none) (o2 : O 103 = none)
  (l : List DT) (e : DT) (hl : l.length < 1000000) :
  SC P w0 56 [.lst l.length false (xv l), encD e] (H [] 0 true) (encD (wP l e)) (H [] 0 true) := by
 refine bs B hO f56 fun C k => ?_
 have c1 := ci f85 o1
 have c2 := ci f103 o2
 unfold f56
 simp only [Ko, Kn, Ki, Kv, Km, Kr]
 refine wu (k.eval (by simp (disch := first | exact dis | fail) only [go_sem, seval, -rO, -rN, encD]; exact rfl) ?_)
 simp only [xA]
 obtain ⟨l', nx', w', ce', T', k1, k2, k3, k4, k5, k6, k7, k8, k9⟩ := zzv (O := O) l.length false l rfl hl [(8, .fn 103 [] [.ptr 2 0]), (7, .lst l.length false (xv l)), (4, .ptr 1 0), (3, .ptr 0 0), (1, .agg (xT e)), (0, .lst l.length false (xv l))] (by simp (disch := first | exact dis | fail) only [go_sem, seval, -rO, -rN]) l.length (zq _) [(4, some (.loop .ready none (tmL [(8, .fn 103 [] [.ptr 2 0]), (7, .lst l.length false (xv l)), (4, .ptr 1 0), (3, .ptr 0 0), (1, .agg (xT e)), (0, .lst l.length false (xv l))]) lsRf.1 lsRf.2.1 lsRf.2.2 3)), (3, some .dfd), (2, some (.row 22 [.lst l.length false (xv l)] false false)), (1, some (.row 24 [.int .i64 (.ofNat 0), .int .i64 (.ofNat 0), .str [], .nils, .int .i64 (.ofNat 0)] false false)), (0, some (.row 24 (xT e) false false))] 5 0 e (xT e) [(3, .int .i64 (i3 l.length)), (6, .int .i64 (i3 l.length)), (5, .int .i64 (.ofNat l.length)), (4, .lst l.length false (xv l)), (1, .ptr 2 0), (0, .yld 4)] (DCell.of e) (zq _) rfl rfl rfl (by simp (disch := first | exact dis | fail) only [go_sem, seval, -rO, -rN]) (by simp (disch := first | exact dis | fail) only [go_sem, seval, -rO, -rN]) (by simp (disch := first | exact dis | fail) only [go_sem, seval, -rO, -rN])
 have hsub : vq .i64 (Int.sub (.ofNat l.length) (.ofNat 1)) = i3 l.length := by
  revert hl
  cases l.length with
  | zero => intro _; rfl
  | succ k => intro hl; rw [subI (by omega), LO (by omega)]; rfl
 simp only [ZU, f103, lsRf, f56, Ko, Kg, Kn, Kh, Kd, Ke, Kf, Kk, Ki, Kj, Kv, Kw, KF, KT, Km, Kr, opN] at k1 k5
 by_cases hz : l.length = 0
 ·have hl0 : l = [] := List.length_eq_zero_iff.1 hz
  obtain ⟨rfl, rfl, rfl⟩ := k9 hz
  subst hl0
  simp only [yX, i3] at k1
  obtain ⟨ek, en, et, eks, ep⟩ := e
  refine wu (k.ev ?_)
  simp (disch := first | exact dis | fail) only [go_sem, seval, -rO, -rN, c1, f85, c2, f103, zom, zq7, k1]
  refine ⟨_, rfl, ?_⟩
  simp only [xA, xq]
  refine k.eval (by simp (disch := first | exact dis | fail) only [go_sem, seval, -rO, -rN]; exact rfl) ?_
  try simp only [xA, xX, Cut, if_true]
  apply w7 (Or.inr rfl)
  iterate 5 (simp (disch := first | exact dis | fail) only [go_sem, seval, -rO, -rN, wP, List.foldr_nil, xq, w4, encD] <;> exact rfl)
 ·have hw : ¬ w' % 32 = 0 := fun h => by
   have h1 := k8 (.inr (by omega))
   have h2 : (w' % 2 ^ 5).testBit 4 = true := by rw [Nat.testBit_mod_two_pow]; simpa [B4] using h1
   rw [show (2 : Nat) ^ 5 = 32 from rfl, h] at h2; simp at h2
  rw [List.take_of_length_le (zq _)] at k2
  obtain ⟨ck, cn, ct, cm, cx, cs, cp, rfl⟩ := k2.is
  have hcv := k2.wk
  have hi : i3 l.length = .ofNat (l.length - 1) := by cases h : l.length with | zero => exact absurd h hz | succ n => rfl
  simp only [hi] at k1
  refine wu (k.ev ?_)
  simp (disch := first | exact dis | fail) only [go_sem, seval, -rO, -rN, c1, f85, c2, f103, k1, k5, hw]
  refine ⟨_, rfl, ?_⟩
  simp only [xA]
  refine k.eval (by simp (disch := first | exact dis | fail) only [go_sem, seval, -rO, -rN, k4, k6]; exact rfl) ?_
  try simp only [xA, xX, Cut, if_true]
  apply w7 (Or.inr rfl)
  iterate 3 (simp (disch := first | exact dis | fail) only [go_sem, seval, -rO, -rN, k7]; exact rfl)
  ·simp only [wkV, hcv, encD]
  ·simp (disch := first | exact dis | fail) only [go_sem, seval, -rO, -rN, Nat.mod_one, Nat.or_self]
structure RS where
 at_ : Nat
 err : Nat
 fp : Nat
def RS.fell (s : RS) (e p : Nat) : RS := if s.err = 0 then ⟨s.at_, e, p⟩ else s
def RS.nx (s : RS) : RS := ⟨s.at_ + 1, s.err, s.fp⟩
def rowD (ts : List Tok) (s : RS) : List AV := [.lst ts.length false (qt ts), .int .i64 (.ofNat s.at_), .int .i64 (.ofNat s.err), .int .i64 (.ofNat s.fp)]
def rdD (ts : List Tok) (s : RS) : AObj := .row 66 (rowD ts s) false false
def uU (p : Nat) : DT := .mk (.ofNat 5) (.ofNat 0) [113, 117, 111, 116, 101] [] (.ofNat p)
def vA (p : Int) : DT := .mk (.ofNat 0) (.ofNat 0) [] [] p
def atD (d : DT) (p : Int) : DT := match d with | .mk k n t ks _ => .mk k n t ks p
abbrev Rec := Nat → RS → DT × RS
def xE (dt : Rec) (ts : List Tok) (op : Nat) (dots : Bool) : Nat → List DT → RS → List DT × Tok × RS
 | 0, acc, s => (acc, t0, s)
 | k + 1, acc, s => if s.err ≠ 0 then (acc, t0, s) else match ts.drop s.at_ with
  | [] => xE dt ts op dots k (acc ++ [(dt op s).1]) (dt op s).2
  | t :: _ => if t.kind = 2 ∨ t.kind = 6 ∧ acc ≠ [] ∧ dots = true then (acc, t, s.nx) else xE dt ts op dots k (acc ++ [(dt op s).1]) (dt op s).2
def itF (dt : Rec) (ts : List Tok) (op : Nat) (dots : Bool) (s : RS) : List DT × Tok × RS := xE dt ts op dots (ts.length + 3) [] s
def vY (ts : List Tok) (op : Nat) (l : List DT) (e : DT) (s : RS) : DT × RS := match ts.drop s.at_ with
 | [] => (d0, s.fell 7 op)
 | c :: _ => if c.kind = 2 then (atD (wP l e) (.ofNat op), s.nx) else (d0, s.fell 7 c.pos)
def lf (dt : Rec) (ts : List Tok) (op : Nat) (x : List DT × Tok × RS) : DT × RS :=
 if x.2.1.kind = 6 then vY ts op x.1 (dt op x.2.2).1 (dt op x.2.2).2 else (atD (wP x.1 (vA (.ofNat x.2.1.pos))) (.ofNat op), x.2.2)
def pG (d : DT) : Prop := xU d = .ofNat 2 ∧ (qy (xV d)).2 = true ∧ 0 ≤ (qy (xV d)).1 ∧ (qy (xV d)).1 ≤ 255
instance (d : DT) : Decidable (pG d) := by unfold pG; infer_instance
def qP (ts : List Tok) (op : Nat) : Nat → List Nat → RS → DT × RS
 | 0, _, s => (d0, s)
 | k + 1, out, s => match ts.drop s.at_ with
  | [] => (d0, s.fell 7 op)
  | t :: _ => if t.kind = 2 then (.mk (.ofNat 8) (.ofNat 0) out [] (.ofNat op), s.nx) else if t.kind = 7 ∧ pG t.d then qP ts op k (out ++ [(qy (xV t.d)).1.toNat]) s.nx else (d0, s.fell 7 t.pos)
def byF (ts : List Tok) (op : Nat) (s : RS) : DT × RS := qP ts op (ts.length + 1) [] s
def quoF (t : Tok) (x : DT × RS) : DT × RS := (wP [uU t.pos, x.1] (vA (posD x.1)), x.2)
def vecF (t : Tok) (x : List DT × Tok × RS) : DT × RS := (.mk (.ofNat 7) (.ofNat 0) [] x.1 (.ofNat t.pos), x.2.2)
def wO (rec : Rec) (full : Bool) (ts : List Tok) (t : Tok) (s : RS) : DT × RS :=
 if t.kind = 7 then (t.d, s)
 else if t.kind = 2 ∨ t.kind = 6 then (d0, s.fell 7 t.pos)
 else if full = true then (d0, s.fell 5 t.pos)
 else if t.kind = 3 then quoF t (rec t.pos s)
 else if t.kind = 1 then lf rec ts t.pos (itF rec ts t.pos true s)
 else if t.kind = 4 then vecF t (itF rec ts t.pos false s)
 else byF ts t.pos s
def datG (rec : Rec) (full : Bool) (ts : List Tok) (op : Nat) (s : RS) : DT × RS := match ts.drop s.at_ with
 | [] => (d0, s.fell 7 op)
 | t :: _ => wO rec full ts t s.nx
def datF : Nat → List Tok → Rec
 | 0, ts => datG (fun _ s => (d0, s)) true ts
 | n + 1, ts => datG (datF n ts) false ts
def Fine (ts : List Tok) (s : RS) (x : DT × RS) : Prop := s.at_ ≤ x.2.at_ ∧ x.2.at_ ≤ ts.length ∧ (s.err ≠ 0 → x.2.err = s.err ∧ x.2.fp = s.fp) ∧ (x.2.err = 0 → s.at_ < x.2.at_) ∧ (ts.drop s.at_ ≠ [] → s.at_ < x.2.at_)
def Fin2 (ts : List Tok) (s s' : RS) : Prop := s.at_ ≤ s'.at_ ∧ s'.at_ ≤ ts.length ∧ (s.err ≠ 0 → s'.err = s.err ∧ s'.fp = s.fp)
theorem Xm (s : RS) (e p : Nat) : (s.fell e p).at_ = s.at_ := by unfold RS.fell; split <;> rfl
theorem qY (s : RS) {e : Nat} (p : Nat) (he : e ≠ 0) : (s.fell e p).err ≠ 0 := by unfold RS.fell; split <;> simp_all
theorem Ve (s : RS) (e p : Nat) (h : s.err ≠ 0) : s.fell e p = s := if_neg h
theorem Fin2.refl {s : RS} (h : s.at_ ≤ ts.length) : Fin2 ts s s := ⟨zq _, h, fun _ => ⟨rfl, rfl⟩⟩
theorem Fin2.trans {a b c : RS} (h : Fin2 ts a b) (h' : Fin2 ts b c) : Fin2 ts a c := ⟨Nat.le_trans h.1 h'.1, h'.2.1, fun e => by
 have := h.2.2 e
 have := h'.2.2 (by omega)
 omega⟩
theorem Fin2.fell {s : RS} (h : s.at_ ≤ ts.length) (e p : Nat) : Fin2 ts s (s.fell e p) := ⟨by rw [Xm]; exact zq _, by rw [Xm]; exact h, fun e' => by rw [Ve _ _ _ e']; exact ⟨rfl, rfl⟩⟩
theorem Fin2.nx {s : RS} (h : s.at_ < ts.length) : Fin2 ts s s.nx := ⟨Nat.le_succ _, h, fun _ => ⟨rfl, rfl⟩⟩
theorem Fine.fin {s : RS} {x : DT × RS} (h : Fine ts s x) : Fin2 ts s x.2 := ⟨h.1, h.2.1, h.2.2.1⟩
theorem qE {p : Nat} {t : Tok} {r : List Tok} (h : ts.drop p = t :: r) : p < ts.length := by
 apply yL; intro hle; rw [znQ hle] at h; cases h
theorem u0 {p : Nat} (h : ts.drop p = []) : ts.length ≤ p := by
 have := congrArg yB h; simp at this; omega
def gD (ts : List Tok) (dt : Rec) : Prop := ∀ op s, s.at_ ≤ ts.length → Fine ts s (dt op s)
theorem qj {ts : List Tok} {dt : Rec} (hd : gD ts dt) (op : Nat) (dots : Bool) : ∀ (k : Nat) (acc : List DT) (s : RS), s.at_ ≤ ts.length → Fin2 ts s (xE dt ts op dots k acc s).2.2
 | 0, acc, s, h => Fin2.refl h
 | k + 1, acc, s, h => by
  have h1 := hd op s h
  simp only [xE]
  split
  ·exact Fin2.refl h
  split
  ·exact h1.fin.trans (qj hd op dots k _ _ h1.2.1)
  ·rename_i hdr
   split
   ·exact Fin2.nx (qE hdr)
   ·exact h1.fin.trans (qj hd op dots k _ _ h1.2.1)
theorem XJ {ts : List Tok} (op : Nat) : ∀ (k : Nat) (out : List Nat) (s : RS), s.at_ ≤ ts.length → Fin2 ts s (qP ts op k out s).2
 | 0, _, s, h => Fin2.refl h
 | k + 1, out, s, h => by
  simp only [qP]
  split
  ·exact Fin2.fell h _ _
  ·rename_i hdr
   have hlt := qE hdr
   split
   ·exact Fin2.nx hlt
   split
   ·exact (Fin2.nx hlt).trans (XJ op k _ s.nx hlt)
   ·exact Fin2.fell h _ _
theorem Yf (op : Nat) (l : List DT) (e : DT) (s : RS) (h : s.at_ ≤ ts.length) : Fin2 ts s (vY ts op l e s).2 := by
 unfold vY
 split
 ·exact Fin2.fell h _ _
 ·rename_i hdr
  split
  ·exact Fin2.nx (qE hdr)
  ·exact Fin2.fell h _ _
theorem Lf {rec : Rec} {full : Bool} (hd : full = false → gD ts rec) (t : Tok) (s : RS) (h : s.at_ ≤ ts.length) : Fin2 ts s (wO rec full ts t s).2 := by
 unfold wO
 split
 ·exact Fin2.refl h
 split
 ·exact Fin2.fell h _ _
 split
 ·exact Fin2.fell h _ _
 rename_i hf
 have hd := hd (by simpa using hf)
 split
 ·exact (hd t.pos s h).fin
 split
 ·have h1 := qj hd t.pos true (ts.length + 3) [] s h
  unfold lf
  split
  ·have h2 := hd t.pos (itF rec ts t.pos true s).2.2 h1.2.1
   exact (h1.trans h2.fin).trans (Yf _ _ _ _ h2.2.1)
  ·exact h1
 split
 ·exact qj hd t.pos false (ts.length + 3) [] s h
 ·exact XJ t.pos (ts.length + 1) [] s h
theorem lD {rec : Rec} {full : Bool} (hd : full = false → gD ts rec) : gD ts (datG rec full ts) := fun op s h => by
 unfold datG
 split
 ·rename_i hdr
  exact ⟨by simp only [Xm]; omega, by simp only [Xm]; exact h, (fun e => by
   show (s.fell 7 op).err = _ ∧ (s.fell 7 op).fp = _
   rw [Ve _ _ _ e]; exact ⟨rfl, rfl⟩), fun e => absurd e (qY s op (by decide)), fun e => absurd hdr e⟩
 ·rename_i t r hdr
  have hlt := qE hdr
  have h1 := Lf (rec := rec) hd t s.nx hlt
  have h2 : s.nx.at_ = s.at_ + 1 := rfl
  exact ⟨by have := h1.1; omega, h1.2.1, fun e => h1.2.2 e, fun _ => by have := h1.1; omega, fun _ => by have := h1.1; omega⟩
theorem uw (ts : List Tok) : ∀ n, gD ts (datF n ts)
 | 0 => lD (fun e => by cases e)
 | n + 1 => lD (fun _ => uw ts n)
theorem WR {ts' : List Tok} {s s' : RS} (h : rowD ts s = rowD ts' s') : ts = ts' ∧ s = s' := by
 obtain ⟨a, b, c⟩ := s
 obtain ⟨a', b', c'⟩ := s'
 simp only [rowD, yZ, AV.lst.injEq, AV.int.injEq, true_and, and_true] at h
 obtain ⟨⟨_, h1⟩, h2, h3, h4⟩ := h
 cases h2; cases h3; cases h4
 exact ⟨JA h1, rfl⟩
theorem jE (ts : List Tok) (s : RS) : xz (rowD ts s) = true := by simp only [rowD, xw, xD, wi, wc, y6]
theorem U1 (ts : List Tok) (s : RS) : wkL (rowD ts s) = rowD ts s := by simp only [rowD, wkL, wkV, jI]
def TsOk (ts : List Tok) : Prop := ts.length < 100000 ∧ ∀ t ∈ ts, (xV t.d).length < 1000000
def accB (out : List Nat) : AV := match out with
 | [] => .nils
 | c :: r => .gr 2 1 (c :: r).length (xo (c :: r))
def j0 (out : List Nat) : List (Option AObj) := match out with
 | [] => []
 | c :: r => [some (.app 5 (xo (c :: r)))]
theorem zpC (l : List (Nat × Option AObj)) (n m : Nat) (e : Bool) (c : Nat) : appV (KL l n m true [] none) 5 1 1 .nils (.lst 1 e [.int .u8 (.ofNat c)]) = some (.gr n 1 1 [.int .u8 (.ofNat c)], KL ((n, some (.app 5 [.int .u8 (.ofNat c)])) :: l) (n + 1) m true [] none) :=
 QK l n m [] none 5 1 1 e [.int .u8 (.ofNat c)] rfl (zq _) (by decide) rfl
theorem Hy : vEqk .ifacec true .nili .nili = some (.bool false) := rfl
theorem zvp (t : Nat) (v : AV) : vEqk .ifacec true (.ifc t v) .nili = some (.bool true) := rfl
theorem zo0 (s : St) : vCbs s .nils = some (.str []) := rfl
theorem zoZ (s : St) (i : Nat) {c : Nat} {r : List Nat} (h : Byt (c :: r)) : vCbs s (.gr i 1 (r.length + 1) (.int .u8 (.ofNat c) :: xo r)) = some (.str (c :: r)) := by
 have h2 : wA (r.length + 1) (xo (c :: r)) = some (xo (c :: r)) := jF (by rw [kQ]; rfl)
 show vStr (qk (wA (r.length + 1) (xo (c :: r)))) = _
 rw [h2]
 show vStr (qN (xo (c :: r))) = _
 rw [u4 h]; rfl
attribute [local go_sem] rdD rowD accB j0 qL f54 Hy zvp zo0 f55 encD d0 xq xO w4 RS.fell jI wR wy gB ws RS.nx zpC in
theorem zwQ (B : Bx P w0) (hO : OrcOk P w0 O) (o54 : O 54 = none) (o55 : O 55 = none) (h86 : O 86 = some hH) (ts : List Tok) (hts : TsOk ts) (op : Nat) (s : RS) (he : s.err = 0) (hs : s.at_ ≤ ts.length) :
  SC P w0 59 [.ptr 0 0, .int .i64 (.ofNat op)] (H [some (rdD ts s)] 0 true) (encD (byF ts op s).1) (H [some (rdD ts (byF ts op s).2)] 1 true) := by
 refine bm B hO f59 fun C k => ?_
 have cnext := ci f54 o54
 have cfell := ci f55 o55
 obtain ⟨a0, e0, f0⟩ := s
 simp only at he hs
 subst he
 obtain ⟨hlen, htx⟩ := hts
 unfold f59
 simp only [Ko, Kg, Kn, Ki, Kv, Kw, KT, Km, Kr, opN]
 refine k.q ?_
 refine k.q ?_
 refine xS (x6 (k.gcL [1] [5, 4, 1, 0] true (fr1 := ⟨tmL [(5, accB []), (4, .ptr 1 0), (1, .int .i64 (.ofNat op)), (0, .ptr 0 0)], []⟩) (s1 := H ([some (rdD ts ⟨a0, 0, f0⟩), some qL] ++ j0 []) 1 true) (by simp (disch := first | exact dis | fail) only [go_sem, seval, -rO, -rN, rdD, rowD, accB, j0, qL]) ?_))
 refine wb (fun x : Nat × List Nat × Nat => x.1) (fun x => ⟨tmL [(5, accB x.2.1), (4, .ptr 1 0), (1, .int .i64 (.ofNat op)), (0, .ptr 0 0)], []⟩) (fun x => H ([some (rdD ts ⟨x.2.2, 0, f0⟩), some qL] ++ j0 x.2.1) 1 true) (fun x => qP ts op x.1 x.2.1 ⟨x.2.2, 0, f0⟩ = byF ts op ⟨a0, 0, f0⟩ ∧ ts.length < x.1 + x.2.2 ∧ x.2.2 ≤ ts.length ∧ x.2.1.length ≤ x.2.2 ∧ Byt x.2.1) (fun x hx => ?_) (ts.length + 1, [], a0) ⟨rfl, by simp only; omega, hs, zN _, fun x hx => by cases hx⟩
 obtain ⟨kk, out, at_⟩ := x
 obtain ⟨g1, g2, g3, g4, g5⟩ := hx
 simp only at g1 g2 g3 g4 g5 ⊢
 cases kk with
 | zero => omega
 | succ kk =>
 rw [qP] at g1
 simp only at g1
 cases hd : ts.drop at_ with
 | nil =>
  have h4 : at_ = ts.length := by have := u0 hd; omega
  subst h4
  simp only [hd] at g1
  rw [← g1]
  cases out with
  | nil =>
   refine k.z ?_
   exact fin
  | cons c0 cr =>
   have hp1 := wx (c0 :: cr)
   refine k.z ?_
   exact fin
 | cons tk tr =>
  have hlt := qE hd
  have h4 : ¬ at_ = ts.length := by omega
  have htx := htx tk (znS (by rw [hd]; simp))
  simp only [hd] at g1
  obtain ⟨tk, tp, ⟨dk, dn, dt, dks, dp⟩⟩ := tk
  simp only [xV] at htx
  by_cases hk2 : tk = 2
  ·subst hk2
   rw [if_pos rfl] at g1
   rw [← g1]
   cases out with
   | nil =>
    refine k.z ?_
    exact fin
   | cons c0 cr =>
    have hp1 := wx (c0 :: cr)
    refine k.eval (by simp (disch := first | exact dis | fail) only [go_sem, seval, -rO, -rN, accB, j0, qL, rdD, rowD, cnext, f54, zoZ _ _ g5, h4, hd, wR, wy, ws]; exact rfl) ?_
    try simp only [xA, xX]
    exact fin
  rw [if_neg hk2] at g1
  by_cases hgood : tk = 7 ∧ pG (.mk dk dn dt dks dp)
  ·rw [if_pos hgood] at g1
   obtain ⟨rfl, hb1, hb2, hb3, hb4⟩ := hgood
   simp only [xU, xV] at hb1 hb2 hb3 hb4 g1
   subst hb1
   obtain ⟨v, hv⟩ : ∃ v : Nat, (qy dt).1 = .ofNat v := ⟨(qy dt).1.toNat, (Int.toNat_of_nonneg hb3).symm⟩
   have hca := fun st => LZ (O := O) h86 htx hb2 st
   rw [hv] at hca hb4 g1
   have hv2 : v < 256 := by have : (v : Int) ≤ 255 := hb4; omega
   have hv3 : ¬ 255 < v := by omega
   have g1 : qP ts op kk (out ++ [v]) ⟨at_ + 1, 0, f0⟩ = byF ts op ⟨a0, 0, f0⟩ := g1
   cases out with
   | nil =>
    refine k.z ?_
    refine ⟨(kk, [] ++ [v], at_ + 1), ⟨g1, by simp only; omega, hlt, by simp only [ye, yY, yX] at g4 ⊢; omega, fun x hx => by simp at hx; omega⟩, yw _, ?_⟩
    refine k.gcs (keep := [1, 3]) (live := [5, 4, 1, 0]) (md := true) ?_
    simp only [znO, accB, j0]
    simp (disch := first | exact dis | fail) only [go_sem, seval, -rO, -rN, qL, rdD, rowD]
   | cons c0 cr =>
    simp only [yY] at g4
    have hap := fun l nx m (e : Bool) hg => @zsu l nx m 5 2 (cr.length + 1) true e (c0 :: cr) [v] hg rfl (by simp) (by simp only [ye, yY, yX]; omega)
    simp only [yY, yX, Nat.zero_add, xo, y8, jw] at hap
    refine k.z ?_
    refine ⟨(kk, (c0 :: cr) ++ [v], at_ + 1), ⟨g1, by simp only; omega, hlt, by simp only [ye, yY, yX] at g4 ⊢; omega, g5.append (fun x hx => by simp at hx; omega)⟩, yw _, ?_⟩
    refine k.gcs (keep := [1, 4]) (live := [5, 4, 1, 0]) (md := true) ?_
    simp only [y8, accB, j0, xo, jw, ye, yY, yX]
    simp (disch := first | exact dis | fail) only [go_sem, seval, -rO, -rN, qL, rdD, rowD]
  rw [if_neg hgood] at g1
  rw [← g1]
  cases hk2' : (qy dt).2 with
  | false =>
   have hca := fun l n m b => zsv (O := O) h86 htx hk2' l n m b
   by_cases hk7 : tk = 7
   ·subst hk7
    by_cases hdk : dk = .ofNat 2
    ·subst hdk
     cases out with
     | nil =>
      refine k.z ?_
      exact fin
     | cons c0 cr =>
      have hp1 := wx (c0 :: cr)
      refine k.eval (by simp (disch := first | exact dis | fail) only [go_sem, seval, -rO, -rN, accB, j0, qL, rdD, rowD, cnext, f54, zvp, h4, hd, wR, wy, ws, cfell, f55, hca]; exact rfl) ?_
      try simp only [xA, xX]
      exact fin
    ·have hdk' : eqD dk (.ofNat 2) = false := vI hdk
     cases out with
     | nil =>
      refine k.z ?_
      exact fin
     | cons c0 cr =>
      have hp1 := wx (c0 :: cr)
      refine k.eval (by simp (disch := first | exact dis | fail) only [go_sem, seval, -rO, -rN, accB, j0, qL, rdD, rowD, cnext, f54, h4, hd, wR, wy, ws, cfell, f55, hca, hdk']; exact rfl) ?_
      try simp only [xA, xX]
      exact fin
   ·skip
    cases out with
    | nil =>
     refine k.z ?_
     exact fin
    | cons c0 cr =>
     have hp1 := wx (c0 :: cr)
     refine k.eval (by simp (disch := first | exact dis | fail) only [go_sem, seval, -rO, -rN, accB, j0, qL, rdD, rowD, cnext, f54, h4, hd, wR, wy, ws, cfell, f55, hca, hk2, hk7]; exact rfl) ?_
     try simp only [xA, xX]
     exact fin
  | true =>
   have hca := fun st => LZ (O := O) h86 htx hk2' st
   by_cases hk7 : tk = 7
   ·subst hk7
    by_cases hdk : dk = .ofNat 2
    ·subst hdk
     cases hv : (qy dt).1 with
     | ofNat v =>
      rw [hv] at hca
      have hv3 : 255 < v := by
       apply yL
       intro hle
       exact hgood ⟨rfl, rfl, hk2', by simp only [xV]; rw [hv]; exact Int.natCast_nonneg v, by simp only [xV]; rw [hv]; show (v : Int) ≤ 255; omega⟩
      cases out with
      | nil =>
       refine k.z ?_
       exact fin
      | cons c0 cr =>
       have hp1 := wx (c0 :: cr)
       refine k.eval (by simp (disch := first | exact dis | fail) only [go_sem, seval, -rO, -rN, accB, j0, qL, rdD, rowD, cnext, f54, Hy, h4, hd, wR, wy, ws, cfell, f55, hca, hv3]; exact rfl) ?_
       try simp only [xA, xX]
       exact fin
     | negSucc v =>
      rw [hv] at hca
      cases out with
      | nil =>
       refine k.z ?_
       exact fin
      | cons c0 cr =>
       have hp1 := wx (c0 :: cr)
       refine k.eval (by simp (disch := first | exact dis | fail) only [go_sem, seval, -rO, -rN, accB, j0, qL, rdD, rowD, cnext, f54, Hy, h4, hd, wR, wy, ws, cfell, f55, hca]; exact rfl) ?_
       try simp only [xA, xX]
       exact fin
    ·have hdk' : eqD dk (.ofNat 2) = false := vI hdk
     cases out with
     | nil =>
      refine k.z ?_
      exact fin
     | cons c0 cr =>
      have hp1 := wx (c0 :: cr)
      refine k.eval (by simp (disch := first | exact dis | fail) only [go_sem, seval, -rO, -rN, accB, j0, qL, rdD, rowD, cnext, f54, h4, hd, wR, wy, ws, cfell, f55, hca, hdk']; exact rfl) ?_
      try simp only [xA, xX]
      exact fin
   ·skip
    cases out with
    | nil =>
     refine k.z ?_
     exact fin
    | cons c0 cr =>
     have hp1 := wx (c0 :: cr)
     refine k.eval (by simp (disch := first | exact dis | fail) only [go_sem, seval, -rO, -rN, accB, j0, qL, rdD, rowD, cnext, f54, h4, hd, wR, wy, ws, cfell, f55, hca, hk2, hk7]; exact rfl) ?_
     try simp only [xA, xX]
     exact fin
abbrev DX := List Tok × Nat × Nat × RS
def JL (x : DX) : Nat × List AV × List AV := (66, rowD x.1 x.2.2.2, [.int .i64 (.ofNat x.2.1), .int .i64 (.ofNat x.2.2.1)])
theorem zz6 : ∀ x y, JL x = JL y → x = y := fun ⟨ts, dep, op, s⟩ ⟨ts', dep', op', s'⟩ h => by
 simp only [JL, zA, yZ, AV.int.injEq, true_and, and_true] at h
 obtain ⟨h1, h2, h3⟩ := h
 obtain ⟨rfl, rfl⟩ := WR h1
 cases h2; cases h3; rfl
def LU (n : Nat) (x : DX) : Prop := TsOk x.1 ∧ x.2.1 + n = 200 ∧ x.2.2.2.err = 0 ∧ x.2.2.2.at_ ≤ x.1.length
def dtR (n : Nat) (x : DX) : AV × List AV := (encD (datF n x.1 x.2.2.1 x.2.2.2).1, rowD x.1 (datF n x.1 x.2.2.1 x.2.2.2).2)
noncomputable def gDt (n : Nat) : List AV → St → Option (AV × St) := orc1 JL (LU n) (dtR n)
theorem Xi (h : O 32 = some (gDt n)) {dep op : Nat} {s : RS} (hp : LU n (ts, dep, op, s)) (l : List (Nat × Option AObj)) (nx m : Nat) (md : Bool) (id : Nat) (hg : getA l id = some (.row 66 (rowD ts s) false false)) :
  (evW env O).call 32 [.ptr id 0, .int .i64 (.ofNat dep), .int .i64 (.ofNat op)] (KL l nx m md [] none) = some (encD (datF n ts op s).1, KL ((id, some (.row 66 (rowD ts (datF n ts op s).2) false false)) :: l) nx (mark m id) md [] none) := by
 rw [xC h, gDt, jB, w8, hg, kH zz6 _ _ (ts, dep, op, s) hp (by simp only [JL, U1, wkL, wkV])]
 rfl
theorem JJ (hO : OrcOk P w0 O) (n : Nat) (h : ∀ (ts : List Tok) (dep op : Nat) (s : RS), LU n (ts, dep, op, s) → SC P w0 32 [.ptr 0 0, .int .i64 (.ofNat dep), .int .i64 (.ofNat op)] (H [some (rdD ts s)] 0 true) (encD (datF n ts op s).1) (H [some (rdD ts (datF n ts op s).2)] 1 true)) : OrcOk P w0 (withG 32 (gDt n) O) :=
 hO.withG kI (Ye true (fun x hx => ⟨jE _ _, rfl, uy _, jE _ _⟩) fun x hx => h x.1 x.2.1 x.2.2.1 x.2.2.2 hx)
def lA : AObj := .row 44 [.int .i64 (.ofNat 0), .int .i64 (.ofNat 0), .int .i64 (.ofNat 0), .int .i64 (.ofNat 0), .str [], .nils, .int .i64 (.ofNat 0)] false false
attribute [local go_sem] accD qv lA rdD rowD f54 wR wy gB ws xO w4 RS.nx jI t0 d0 in
theorem Lg (B : Bx P w0) (hO : OrcOk P w0 O) (h32 : O 32 = some (gDt n)) (o54 : O 54 = none) (ts : List Tok) (hts : TsOk ts) (dep op : Nat) (hdep : dep + 1 + n = 200) (dots : Bool) (s : RS) (he : s.err = 0) (hs : s.at_ ≤ ts.length) :
  SC P w0 58 [.ptr 0 0, .int .i64 (.ofNat dep), .int .i64 (.ofNat op), .bool dots] (H [some (rdD ts s)] 0 true) (.tup [.lst (itF (datF n ts) ts op dots s).1.length false (xv (itF (datF n ts) ts op dots s).1), .agg (qz (itF (datF n ts) ts op dots s).2.1)]) (H [some (rdD ts (itF (datF n ts) ts op dots s).2.2)] 1 true) := by
 refine bm B hO f58 fun C k => ?_
 have cnext := ci f54 o54
 have hlen := hts.1
 unfold f58
 simp only [Ko, Kg, Kn, Kd, Kf, Ki, Kv, KF, KT, Km, Kr, opN]
 refine wu (k.eval (by simp (disch := first | exact dis | fail) only [go_sem, seval, -rO, -rN, rdD, rowD]; exact rfl) ?_)
 simp only [xA]
 refine wu (k.eval (by simp (disch := first | exact dis | fail) only [go_sem, seval, -rO, -rN]; exact rfl) ?_)
 simp only [xA]
 refine vQ (fun x : List DT × RS => itF (datF n ts) ts op dots s = (x.1, t0, x.2)) (fun x => ⟨tmL [(10, accD x.1), (9, .ptr 1 0)], []⟩) (fun x => H ([some (rdD ts x.2), some lA] ++ qv x.1) 1 true) (xS (x6 (k.gcL [1] [10, 9, 8, 3, 2, 1, 0] true (fr1 := ⟨tmL [(10, accD []), (9, .ptr 1 0), (8, .nils), (3, .bool dots), (2, .int .i64 (.ofNat op)), (1, .int .i64 (.ofNat dep)), (0, .ptr 0 0)], []⟩) (s1 := H ([some (rdD ts s), some lA] ++ qv []) 1 true) (by simp (disch := first | exact dis | fail) only [go_sem, seval, -rO, -rN, rdD, rowD, accD, qv, lA]) ?_))) ?_
 ·refine wb (fun x : Nat × List DT × RS => x.1) (fun x => ⟨tmL [(10, accD x.2.1), (9, .ptr 1 0), (8, .nils), (3, .bool dots), (2, .int .i64 (.ofNat op)), (1, .int .i64 (.ofNat dep)), (0, .ptr 0 0)], []⟩) (fun x => H ([some (rdD ts x.2.2), some lA] ++ qv x.2.1) 1 true) (fun x => xE (datF n ts) ts op dots x.1 x.2.1 x.2.2 = itF (datF n ts) ts op dots s ∧ (ts.length + 1 < x.1 + x.2.2.at_ ∨ x.2.2.err ≠ 0 ∧ 1 ≤ x.1) ∧ x.2.2.at_ ≤ ts.length ∧ (x.2.2.err = 0 → x.2.1.length ≤ x.2.2.at_) ∧ x.2.1.length ≤ x.2.2.at_ + 1) (fun x hx => ?_) (ts.length + 3, [], s) ⟨rfl, .inl (by simp only; omega), hs, fun _ => zN _, zN _⟩
  obtain ⟨kk, acc, ⟨at_, err, fp⟩⟩ := x
  obtain ⟨g1, g2, g3, g4, g5⟩ := hx
  simp only at g1 g2 g3 g4 g5 ⊢
  cases kk with
  | zero => omega
  | succ kk =>
  rw [xE] at g1
  simp only at g1
  by_cases he : err = 0
  ·subst he
   have g4 := g4 rfl
   have g2 : ts.length < kk + at_ := by omega
   simp only [ne_eq, not_true, if_false] at g1
   have hpre : LU n (ts, dep + 1, op, ⟨at_, 0, fp⟩) := ⟨hts, hdep, rfl, g3⟩
   have hcall := fun l nx m => Xi h32 hpre l nx m true 0
   have hfine := uw ts n op ⟨at_, 0, fp⟩ g3
   cases hd : ts.drop at_ with
   | nil =>
    have h4 : at_ = ts.length := by have := u0 hd; omega
    simp only [hd] at g1
    revert g1 hcall hfine
    generalize datF n ts op ⟨at_, 0, fp⟩ = R
    obtain ⟨⟨ek, en, et, eks, ep⟩, ⟨a1, e1, f1⟩⟩ := R
    intro hcall hfine g1
    obtain ⟨q1, q2, q3, q4, q5⟩ := hfine
    simp only at q1 q2 q3 q4 q5
    have he1 : e1 ≠ 0 := fun e => by have := q4 e; omega
    subst h4
    simp only [rowD, encD, xq] at hcall
    cases acc with
    | nil =>
     refine k.z ?_
     refine ⟨(kk, [] ++ [⟨ek, en, et, eks, ep⟩], ⟨a1, e1, f1⟩), ⟨g1, .inr ⟨he1, by omega⟩, q2, fun e => absurd e he1, by simp only [ye, yY, yX] at g4 ⊢; omega⟩, yw _, ?_⟩
     refine k.gcs (keep := [1, 3]) (live := [10, 9, 8, 3, 2, 1, 0]) (md := true) ?_
     simp only [y8, znO, accD, qv, xM, xO, xq, xi, yY, yX]
     simp (disch := first | exact dis | fail) only [go_sem, seval, -rO, -rN, lA, rdD, rowD]
    | cons a0 ar =>
     have hp1 := xN (a0 :: ar)
     simp only [yY] at g4
     refine k.z ?_
     refine ⟨(kk, (a0 :: ar) ++ [⟨ek, en, et, eks, ep⟩], ⟨a1, e1, f1⟩), ⟨g1, .inr ⟨he1, by omega⟩, q2, fun e => absurd e he1, by simp only [ye, yY, yX] at g4 ⊢; omega⟩, yw _, ?_⟩
     refine k.gcs (keep := [1, 4]) (live := [10, 9, 8, 3, 2, 1, 0]) (md := true) ?_
     simp only [y8, znO, accD, qv, xM, vu, xO, xq, xi, znY, ye, yY, yX]
     simp (disch := first | exact dis | fail) only [go_sem, seval, -rO, -rN, lA, rdD, rowD, xN, wB]
   | cons tk tr =>
    have hlt := qE hd
    have h4 : ¬ at_ = ts.length := by omega
    simp only [hd] at g1
    have hne : ts.drop at_ ≠ [] := by rw [hd]; simp
    obtain ⟨tk, tp, ⟨dk, dn, dt, dks, dp⟩⟩ := tk
    by_cases hk2 : tk = 2
    ·subst hk2
     rw [if_pos (.inl rfl)] at g1
     rw [← g1]
     cases acc with
     | nil =>
      refine k.z ?_
      exact fin
     | cons a0 ar =>
      have hp1 := xN (a0 :: ar)
      refine k.z ?_
      exact fin
    by_cases hst : tk = 6 ∧ acc ≠ [] ∧ dots = true
    ·obtain ⟨rfl, hne2, rfl⟩ := hst
     rw [if_pos (.inr ⟨rfl, hne2, rfl⟩)] at g1
     rw [← g1]
     cases acc with
     | nil => exact absurd rfl hne2
     | cons a0 ar =>
      have hp1 := xN (a0 :: ar)
      refine k.z ?_
      exact fin
    rw [if_neg (fun h => h.elim hk2 hst)] at g1
    revert g1 hcall hfine
    generalize datF n ts op ⟨at_, 0, fp⟩ = R
    obtain ⟨⟨ek, en, et, eks, ep⟩, ⟨a1, e1, f1⟩⟩ := R
    intro hcall hfine g1
    obtain ⟨q1, q2, q3, q4, q5⟩ := hfine
    simp only at q1 q2 q3 q4 q5
    have q5 := q5 hne
    simp only [rowD, encD, xq] at hcall
    by_cases hk6 : tk = 6
    ·subst hk6
     cases acc with
     | nil =>
      refine k.z ?_
      refine ⟨(kk, [] ++ [⟨ek, en, et, eks, ep⟩], ⟨a1, e1, f1⟩), ⟨g1, .inl (by simp only; omega), q2, fun e => by have := q4 e; simp only [ye, yY, yX] at g4 ⊢; omega, by simp only [ye, yY, yX] at g4 ⊢; omega⟩, yw _, ?_⟩
      refine k.gcs (keep := [1, 3]) (live := [10, 9, 8, 3, 2, 1, 0]) (md := true) ?_
      simp only [y8, znO, accD, qv, xM, xO, xq, xi, yY, yX]
      simp (disch := first | exact dis | fail) only [go_sem, seval, -rO, -rN, lA, rdD, rowD]
     | cons a0 ar =>
      have hdo : dots = false := by
       cases dots with
       | false => rfl
       | true => exact absurd ⟨rfl, by simp, rfl⟩ hst
      subst hdo
      have hp1 := xN (a0 :: ar)
      simp only [yY] at g4
      refine k.z ?_
      refine ⟨(kk, (a0 :: ar) ++ [⟨ek, en, et, eks, ep⟩], ⟨a1, e1, f1⟩), ⟨g1, .inl (by simp only; omega), q2, fun e => by have := q4 e; simp only [ye, yY, yX] at g4 ⊢; omega, by simp only [ye, yY, yX] at g4 ⊢; omega⟩, yw _, ?_⟩
      refine k.gcs (keep := [1, 4]) (live := [10, 9, 8, 3, 2, 1, 0]) (md := true) ?_
      simp only [y8, znO, accD, qv, xM, vu, xO, xq, xi, znY, ye, yY, yX]
      simp (disch := first | exact dis | fail) only [go_sem, seval, -rO, -rN, lA, rdD, rowD, xN, wB]
    ·cases acc with
     | nil =>
      refine k.z ?_
      refine ⟨(kk, [] ++ [⟨ek, en, et, eks, ep⟩], ⟨a1, e1, f1⟩), ⟨g1, .inl (by simp only; omega), q2, fun e => by have := q4 e; simp only [ye, yY, yX] at g4 ⊢; omega, by simp only [ye, yY, yX] at g4 ⊢; omega⟩, yw _, ?_⟩
      refine k.gcs (keep := [1, 3]) (live := [10, 9, 8, 3, 2, 1, 0]) (md := true) ?_
      simp only [y8, znO, accD, qv, xM, xO, xq, xi, yY, yX]
      simp (disch := first | exact dis | fail) only [go_sem, seval, -rO, -rN, lA, rdD, rowD]
     | cons a0 ar =>
      have hp1 := xN (a0 :: ar)
      simp only [yY] at g4
      refine k.z ?_
      refine ⟨(kk, (a0 :: ar) ++ [⟨ek, en, et, eks, ep⟩], ⟨a1, e1, f1⟩), ⟨g1, .inl (by simp only; omega), q2, fun e => by have := q4 e; simp only [ye, yY, yX] at g4 ⊢; omega, by simp only [ye, yY, yX] at g4 ⊢; omega⟩, yw _, ?_⟩
      refine k.gcs (keep := [1, 4]) (live := [10, 9, 8, 3, 2, 1, 0]) (md := true) ?_
      simp only [y8, znO, accD, qv, xM, vu, xO, xq, xi, znY, ye, yY, yX]
      simp (disch := first | exact dis | fail) only [go_sem, seval, -rO, -rN, lA, rdD, rowD, xN, wB]
  ·simp only [ne_eq, he, not_false_eq_true, if_true] at g1
   cases acc with
   | nil =>
    refine k.z ?_
    simp only [Gcx]
    refine ⟨([], ⟨at_, err, fp⟩), g1.symm, ?_⟩
    exact k.g [1] [10, 9]
   | cons a0 ar =>
    have hp1 := xN (a0 :: ar)
    refine k.z ?_
    simp only [Gcx]
    refine ⟨(a0 :: ar, ⟨at_, err, fp⟩), g1.symm, ?_⟩
    exact k.g [1, 2] [10, 9]
 ·intro x hx
  obtain ⟨l, ⟨a1, e1, f1⟩⟩ := x
  simp only at hx ⊢
  rw [hx]
  cases l with
  | nil =>
   refine k.q ?_
   refine k.z ?_
   exact fin
  | cons a0 ar =>
   have hp1 := xN (a0 :: ar)
   refine k.q ?_
   refine k.z ?_
   exact fin
abbrev IX := List Tok × Nat × Nat × Bool × RS
def Q4 (x : IX) : Nat × List AV × List AV := (66, rowD x.1 x.2.2.2.2, [.int .i64 (.ofNat x.2.1), .int .i64 (.ofNat x.2.2.1), .bool x.2.2.2.1])
theorem zz9 : ∀ x y, Q4 x = Q4 y → x = y := fun ⟨ts, dep, op, b, s⟩ ⟨ts', dep', op', b', s'⟩ h => by
 simp only [Q4, zA, yZ, AV.int.injEq, AV.bool.injEq, true_and, and_true] at h
 obtain ⟨h1, h2, h3, h4⟩ := h
 obtain ⟨rfl, rfl⟩ := WR h1
 cases h2; cases h3; cases h4; rfl
def zpc (n : Nat) (x : IX) : Prop := TsOk x.1 ∧ x.2.1 + 1 + n = 200 ∧ x.2.2.2.2.err = 0 ∧ x.2.2.2.2.at_ ≤ x.1.length
def itV (x : List DT × Tok × RS) : AV := .tup [.lst x.1.length false (xv x.1), .agg (qz x.2.1)]
def znq (n : Nat) (x : IX) : AV × List AV := (itV (itF (datF n x.1) x.1 x.2.2.1 x.2.2.2.1 x.2.2.2.2), rowD x.1 (itF (datF n x.1) x.1 x.2.2.1 x.2.2.2.1 x.2.2.2.2).2.2)
noncomputable def gIt (n : Nat) : List AV → St → Option (AV × St) := orc1 Q4 (zpc n) (znq n)
theorem PG (h : O 58 = some (gIt n)) {dep op : Nat} {dots : Bool} {s : RS} (hp : zpc n (ts, dep, op, dots, s)) (l : List (Nat × Option AObj)) (nx m : Nat) (md : Bool) (id : Nat) (hg : getA l id = some (.row 66 (rowD ts s) false false)) :
  (evW env O).call 58 [.ptr id 0, .int .i64 (.ofNat dep), .int .i64 (.ofNat op), .bool dots] (KL l nx m md [] none) = some (itV (itF (datF n ts) ts op dots s), KL ((id, some (.row 66 (rowD ts (itF (datF n ts) ts op dots s).2.2) false false)) :: l) nx (mark m id) md [] none) := by
 rw [xC h, gIt, jB, w8, hg, kH zz9 _ _ (ts, dep, op, dots, s) hp (by simp only [Q4, U1, wkL, wkV])]
 rfl
theorem zur (x : List DT × Tok × RS) : xG (itV x) = true := by simp only [itV, wE, xw, wi, vU, u7, xD, y6]
theorem zus (B : Bx P w0) (hO : OrcOk P w0 O) {O' : Orc} (hO' : OrcOk P w0 O') (h32 : O' 32 = some (gDt n)) (o54 : O' 54 = none) : OrcOk P w0 (withG 58 (gIt n) O) :=
 hO.withG kI (Ye true (fun x hx => ⟨jE _ _, by simp only [Q4, xw, wc, vP, xD, y6], zur _, jE _ _⟩) fun x hx => Lg B hO' h32 o54 x.1 hx.1 x.2.1 x.2.2.1 hx.2.1 x.2.2.2.1 x.2.2.2.2 hx.2.2.1 hx.2.2.2)
abbrev BX := List Tok × Nat × RS
def JK (x : BX) : Nat × List AV × List AV := (66, rowD x.1 x.2.2, [.int .i64 (.ofNat x.2.1)])
theorem zz5 : ∀ x y, JK x = JK y → x = y := fun ⟨ts, op, s⟩ ⟨ts', op', s'⟩ h => by
 simp only [JK, zA, yZ, AV.int.injEq, true_and, and_true] at h
 obtain ⟨h1, h2⟩ := h
 obtain ⟨rfl, rfl⟩ := WR h1
 cases h2; rfl
def zpb (x : BX) : Prop := TsOk x.1 ∧ x.2.2.err = 0 ∧ x.2.2.at_ ≤ x.1.length
noncomputable def gBy : List AV → St → Option (AV × St) := orc1 JK zpb (fun x => (encD (byF x.1 x.2.1 x.2.2).1, rowD x.1 (byF x.1 x.2.1 x.2.2).2))
theorem zsA (h : O 59 = some gBy) {op : Nat} {s : RS} (hp : zpb (ts, op, s)) (l : List (Nat × Option AObj)) (nx m : Nat) (md : Bool) (id : Nat) (hg : getA l id = some (.row 66 (rowD ts s) false false)) :
  (evW env O).call 59 [.ptr id 0, .int .i64 (.ofNat op)] (KL l nx m md [] none) = some (encD (byF ts op s).1, KL ((id, some (.row 66 (rowD ts (byF ts op s).2) false false)) :: l) nx (mark m id) md [] none) := by
 rw [xC h, gBy, jB, w8, hg, kH zz5 _ _ (ts, op, s) hp (by simp only [JK, U1, wkL, wkV])]
 rfl
theorem zwP (B : Bx P w0) (hO : OrcOk P w0 O) (o54 : O 54 = none) (o55 : O 55 = none) (h86 : O 86 = some hH) : OrcOk P w0 (withG 59 gBy O) :=
 hO.withG kI (Ye true (fun x hx => ⟨jE _ _, rfl, uy _, jE _ _⟩) fun x hx => zwQ B hO o54 o55 h86 x.1 hx.1 x.2.1 x.2.2 hx.2.1 hx.2.2)
def Ze (x : List DT × DT) : List AV := [.lst x.1.length false (xv x.1), encD x.2]
noncomputable def gLs : List AV → St → Option (AV × St) := orc0 Ze (fun x => x.1.length < 1000000) (fun x => encD (wP x.1 x.2))
theorem zyb : ∀ x y, Ze x = Ze y → x = y := fun ⟨l, e⟩ ⟨l', e'⟩ h => by
 simp only [Ze, yZ, AV.lst.injEq, and_true, true_and] at h
 obtain ⟨⟨_, h1⟩, h2⟩ := h
 rw [uq h1, kD h2]
theorem UM (h : O 56 = some gLs) (l : List DT) (e : DT) (hl : l.length < 1000000) (args : List AV) (ha : wkL args = Ze (l, e)) (s : St) : (evW env O).call 56 args s = some (encD (wP l e), s) := by
 rw [xC h, gLs, we zyb s (l, e) hl ha]
theorem zuE (B : Bx P w0) (hO : OrcOk P w0 O) : OrcOk P w0 (withG 56 gLs O) :=
 hO.withG w9 (v5 true (fun x => by simp only [Ze, xw, wi, uy, xD, y6]) (fun x => uy _) fun x hx => ⟨_, zrU B (qu P w0) rfl rfl x.1 x.2 hx⟩)
theorem Y7 {ts : List Tok} {dt : Rec} (hd : gD ts dt) (op : Nat) (dots : Bool) : ∀ (k : Nat) (acc : List DT) (s : RS), s.at_ ≤ ts.length → (s.err = 0 → acc.length ≤ s.at_) → acc.length ≤ s.at_ + 1 → (xE dt ts op dots k acc s).1.length ≤ ts.length + 1
 | 0, acc, s, h, _, h3 => by simp only [xE]; omega
 | k + 1, acc, s, h, h2, h3 => by
  have h1 := hd op s h
  simp only [xE]
  split
  ·first | omega | (simp only; omega)
  rename_i he
  have he : s.err = 0 := by simpa using he
  have h2 := h2 he
  have hs : (xE dt ts op dots k (acc ++ [(dt op s).1]) (dt op s).2).1.length ≤ ts.length + 1 := Y7 hd op dots k _ _ h1.2.1 (fun e => by have := h1.2.2.2.1 e; simp only [ye, yY, yX]; omega) (by have := h1.1; simp only [ye, yY, yX]; omega)
  split
  ·exact hs
  ·split
   ·first | omega | (simp only; omega)
   ·exact hs
theorem lq {ts : List Tok} {dt : Rec} (op : Nat) (dots : Bool) : ∀ (k : Nat) (acc : List DT) (s : RS), (xE dt ts op dots k acc s).2.1.kind = 6 → (xE dt ts op dots k acc s).2.2.err = 0
 | 0, acc, s, h => by simp [xE, t0] at h
 | k + 1, acc, s, h => by
  simp only [xE] at h ⊢
  split at h
  ·simp [t0] at h
  rename_i he
  rw [if_neg he]
  split at h
  ·rename_i hd; exact lq op dots k _ _ h
  ·rename_i hd
   split at h
   ·rename_i hst; rw [if_pos hst]; simpa [RS.nx] using he
   ·rename_i hst; rw [if_neg hst]; exact lq op dots k _ _ h
attribute [local go_sem] rdD rowD f54 f55 encD d0 xq xO jI wR wy gB ws w4 f57 RS.fell atD vecF in
theorem WN (B : Bx P w0) (hO : OrcOk P w0 O) (o54 : O 54 = none) (o55 : O 55 = none) (o57 : O 57 = none) (h56 : O 56 = some gLs) (h59 : O 59 = some gBy)
  (ts : List Tok) (hts : TsOk ts) (rec : Rec) (full : Bool) (dep op : Nat) (hfull : full = true → 200 ≤ dep) (hrec : full = false → dep < 200 ∧ ∃ n, rec = datF n ts ∧ dep + 1 + n = 200 ∧ O 32 = some (gDt n) ∧ O 58 = some (gIt n)) (s : RS) (he : s.err = 0) (hs : s.at_ ≤ ts.length) :
  SC P w0 32 [.ptr 0 0, .int .i64 (.ofNat dep), .int .i64 (.ofNat op)] (H [some (rdD ts s)] 0 true) (encD (datG rec full ts op s).1) (H [some (rdD ts (datG rec full ts op s).2)] 1 true) := by
 refine bm B hO f32 fun C k => ?_
 have cnext := ci f54 o54
 have cfell := ci f55 o55
 have clist := ci f57 o57
 have hlen := hts.1
 obtain ⟨at_, err, fp⟩ := s
 simp only at he hs
 subst he
 unfold f32
 simp only [Ko, Kn, Ki, Kv, Km, Kr, opN]
 cases hd : ts.drop at_ with
 | nil =>
  have h4 : at_ = ts.length := by have := u0 hd; omega
  have hG : datG rec full ts op ⟨at_, 0, fp⟩ = (d0, ⟨at_, 7, op⟩) := by unfold datG; simp only [hd]; rfl
  rw [hG]
  subst h4
  refine k.z ?_
  exact fin
 | cons tk tr =>
  have hlt := qE hd
  have h4 : ¬ at_ = ts.length := by omega
  have hG : datG rec full ts op ⟨at_, 0, fp⟩ = wO rec full ts tk ⟨at_ + 1, 0, fp⟩ := by unfold datG; simp only [hd]; rfl
  rw [hG]
  obtain ⟨tk, tp, ⟨dk, dn, dt, dks, dp⟩⟩ := tk
  by_cases hk7 : tk = 7
  ·subst hk7
   have hB : wO rec full ts ⟨7, tp, .mk dk dn dt dks dp⟩ ⟨at_ + 1, 0, fp⟩ = (.mk dk dn dt dks dp, ⟨at_ + 1, 0, fp⟩) := if_pos rfl
   rw [hB]
   refine k.z ?_
   exact fin
  by_cases hk2 : tk = 2 ∨ tk = 6
  ·have hB : wO rec full ts ⟨tk, tp, .mk dk dn dt dks dp⟩ ⟨at_ + 1, 0, fp⟩ = (d0, ⟨at_ + 1, 7, tp⟩) := by unfold wO; rw [if_neg hk7, if_pos hk2]; rfl
   rw [hB]
   rcases hk2 with rfl | rfl
   ·skip
    refine k.z ?_
    exact fin
   ·skip
    refine k.z ?_
    exact fin
  have k2 : ¬ tk = 2 := fun h => hk2 (.inl h)
  have k6 : ¬ tk = 6 := fun h => hk2 (.inr h)
  cases full with
  | true =>
   have hdp := hfull rfl
   have hB : wO rec true ts ⟨tk, tp, .mk dk dn dt dks dp⟩ ⟨at_ + 1, 0, fp⟩ = (d0, ⟨at_ + 1, 5, tp⟩) := by unfold wO; rw [if_neg hk7, if_neg hk2, if_pos rfl]; rfl
   rw [hB]
   refine k.z ?_
   exact fin
  | false =>
  obtain ⟨hdlt, n, rfl, hdep, h32, h58⟩ := hrec rfl
  have hdp : ¬ 200 ≤ dep := by omega
  have hF := uw ts n
  by_cases hk3 : tk = 3
  ·subst hk3
   have hB : wO (datF n ts) false ts ⟨3, tp, .mk dk dn dt dks dp⟩ ⟨at_ + 1, 0, fp⟩ = quoF ⟨3, tp, .mk dk dn dt dks dp⟩ (datF n ts tp ⟨at_ + 1, 0, fp⟩) := rfl
   rw [hB]
   have hcall := fun l nx m => Xi h32 (ts := ts) (dep := dep + 1) (op := tp) (s := ⟨at_ + 1, 0, fp⟩) ⟨hts, hdep, rfl, hlt⟩ l nx m true 0
   revert hcall
   generalize datF n ts tp ⟨at_ + 1, 0, fp⟩ = R
   obtain ⟨⟨ek, en, et, eks, ep⟩, ⟨a1, e1, f1⟩⟩ := R
   intro hcall
   simp only [rowD, encD, xq] at hcall
   have hlist := UM h56 [uU tp, .mk ek en et eks ep] (vA ep) (by simp) [.lst 2 true [.int .i64 (.ofNat 5), .int .i64 (.ofNat 0), .str [113, 117, 111, 116, 101], .nils, .int .i64 (.ofNat tp), .int .i64 ek, .int .i64 en, .str et, .lst eks.length false (xv eks), .int .i64 ep], .agg [.int .i64 (.ofNat 0), .int .i64 (.ofNat 0), .str [], .nils, .int .i64 ep]] (by simp only [wkL, wkV, Ze, encD, vA, uU, xq, xM, xO, yY, yX, w4, y8, znO, xi])
   obtain ⟨gk, gn, gt, gks, gp, hg⟩ : ∃ gk gn gt gks gp, wP [uU tp, .mk ek en et eks ep] (vA ep) = .mk gk gn gt gks gp := by
    cases wP [uU tp, .mk ek en et eks ep] (vA ep) with
    | mk gk gn gt gks gp => exact ⟨gk, gn, gt, gks, gp, rfl⟩
   have hQ : quoF ⟨3, tp, .mk dk dn dt dks dp⟩ (.mk ek en et eks ep, ⟨a1, e1, f1⟩) = (.mk gk gn gt gks gp, ⟨a1, e1, f1⟩) := by
    show (wP [uU tp, .mk ek en et eks ep] (vA ep), _) = _
    rw [hg]
   rw [hQ]
   rw [hg] at hlist
   simp only [encD, xq] at hlist
   refine k.z ?_
   exact fin
  by_cases hk1 : tk = 1
  ·subst hk1
   have hB : wO (datF n ts) false ts ⟨1, tp, .mk dk dn dt dks dp⟩ ⟨at_ + 1, 0, fp⟩ = lf (datF n ts) ts tp (itF (datF n ts) ts tp true ⟨at_ + 1, 0, fp⟩) := rfl
   rw [hB]
   have hcall := fun l nx m => PG h58 (ts := ts) (dep := dep) (op := tp) (dots := true) (s := ⟨at_ + 1, 0, fp⟩) ⟨hts, hdep, rfl, hlt⟩ l nx m true 0
   have hil : (itF (datF n ts) ts tp true ⟨at_ + 1, 0, fp⟩).1.length ≤ ts.length + 1 := Y7 hF tp true _ [] ⟨at_ + 1, 0, fp⟩ hlt (fun _ => zN _) (zN _)
   have hid := lq (ts := ts) (dt := datF n ts) tp true (ts.length + 3) [] ⟨at_ + 1, 0, fp⟩
   have hif : (itF (datF n ts) ts tp true ⟨at_ + 1, 0, fp⟩).2.2.at_ ≤ ts.length := (qj hF tp true (ts.length + 3) [] ⟨at_ + 1, 0, fp⟩ hlt).2.1
   change (itF (datF n ts) ts tp true ⟨at_ + 1, 0, fp⟩).2.1.kind = 6 → (itF (datF n ts) ts tp true ⟨at_ + 1, 0, fp⟩).2.2.err = 0 at hid
   revert hcall hil hid hif
   generalize itF (datF n ts) ts tp true ⟨at_ + 1, 0, fp⟩ = I
   obtain ⟨ls, ⟨ck, cp, ⟨yk, yn, yt, yks, yp⟩⟩, ⟨a1, e1, f1⟩⟩ := I
   intro hcall hil hif hid
   simp only at hil hid hif
   simp only [rowD, itV, ws] at hcall
   have hls : ls.length < 1000000 := by omega
   by_cases hc6 : ck = 6
   ·subst hc6
    have he1 := hid rfl
    subst he1
    have hL : lf (datF n ts) ts tp (ls, ⟨6, cp, .mk yk yn yt yks yp⟩, ⟨a1, 0, f1⟩) = vY ts tp ls (datF n ts tp ⟨a1, 0, f1⟩).1 (datF n ts tp ⟨a1, 0, f1⟩).2 := rfl
    rw [hL]
    have hcall2 := fun l nx m => Xi h32 (ts := ts) (dep := dep + 1) (op := tp) (s := ⟨a1, 0, f1⟩) ⟨hts, hdep, rfl, hif⟩ l nx m true 0
    have hf2 := (hF tp ⟨a1, 0, f1⟩ hif).2.1
    revert hcall2 hf2
    generalize datF n ts tp ⟨a1, 0, f1⟩ = R
    obtain ⟨⟨ek, en, et, eks, ep⟩, ⟨a2, e2, f2⟩⟩ := R
    intro hcall2 hf2
    simp only at hf2
    simp only [rowD, encD, xq] at hcall2
    cases hd2 : ts.drop a2 with
    | nil =>
     have h42 : a2 = ts.length := by have := u0 hd2; omega
     have hL2 : vY ts tp ls (.mk ek en et eks ep) ⟨a2, e2, f2⟩ = (d0, RS.fell ⟨a2, e2, f2⟩ 7 tp) := by unfold vY; simp only [hd2]
     rw [hL2]
     subst h42
     by_cases he2 : e2 = 0
     ·subst he2
      refine k.z ?_
      exact fin
     ·skip
      refine k.z ?_
      exact fin
    | cons zk zr =>
     have hlt2 := qE hd2
     have h42 : ¬ a2 = ts.length := by omega
     obtain ⟨zk, zp, ⟨wk, wn, wt, wks, wp⟩⟩ := zk
     by_cases hz2 : zk = 2
     ·subst hz2
      have hL2 : vY ts tp ls (.mk ek en et eks ep) ⟨a2, e2, f2⟩ = (atD (wP ls (.mk ek en et eks ep)) (.ofNat tp), ⟨a2 + 1, e2, f2⟩) := by unfold vY; simp only [hd2]; rfl
      rw [hL2]
      have hlist := UM h56 ls (.mk ek en et eks ep) hls [.lst ls.length false (xv ls), .agg [.int .i64 ek, .int .i64 en, .str et, .lst eks.length false (xv eks), .int .i64 ep]] (by simp only [wkL, wkV, Ze, encD, xq, w4])
      obtain ⟨gk, gn, gt, gks, gp, hg⟩ : ∃ gk gn gt gks gp, wP ls (.mk ek en et eks ep) = .mk gk gn gt gks gp := by
       cases wP ls (.mk ek en et eks ep) with
       | mk gk gn gt gks gp => exact ⟨gk, gn, gt, gks, gp, rfl⟩
      rw [hg] at hlist ⊢
      simp only [encD, xq] at hlist
      refine k.z ?_
      exact fin
     ·have hL2 : vY ts tp ls (.mk ek en et eks ep) ⟨a2, e2, f2⟩ = (d0, RS.fell ⟨a2, e2, f2⟩ 7 zp) := by unfold vY; simp only [hd2]; rw [if_neg hz2]
      rw [hL2]
      by_cases he2 : e2 = 0
      ·subst he2
       refine k.z ?_
       exact fin
      ·skip
       refine k.z ?_
       exact fin
   ·have hL : lf (datF n ts) ts tp (ls, ⟨ck, cp, .mk yk yn yt yks yp⟩, ⟨a1, e1, f1⟩) = (atD (wP ls (vA (.ofNat cp))) (.ofNat tp), ⟨a1, e1, f1⟩) := if_neg hc6
    rw [hL]
    have hlist := UM h56 ls (vA (.ofNat cp)) hls [.lst ls.length false (xv ls), .agg [.int .i64 (.ofNat 0), .int .i64 (.ofNat 0), .str [], .nils, .int .i64 (.ofNat cp)]] (by simp only [wkL, wkV, Ze, encD, vA, xq, xO, yX, w4])
    obtain ⟨gk, gn, gt, gks, gp, hg⟩ : ∃ gk gn gt gks gp, wP ls (vA (.ofNat cp)) = .mk gk gn gt gks gp := by
     cases wP ls (vA (.ofNat cp)) with
     | mk gk gn gt gks gp => exact ⟨gk, gn, gt, gks, gp, rfl⟩
    rw [hg] at hlist ⊢
    simp only [encD, xq] at hlist
    refine k.z ?_
    exact fin
  by_cases hk4 : tk = 4
  ·subst hk4
   have hB : wO (datF n ts) false ts ⟨4, tp, .mk dk dn dt dks dp⟩ ⟨at_ + 1, 0, fp⟩ = vecF ⟨4, tp, .mk dk dn dt dks dp⟩ (itF (datF n ts) ts tp false ⟨at_ + 1, 0, fp⟩) := rfl
   rw [hB]
   have hcall := fun l nx m => PG h58 (ts := ts) (dep := dep) (op := tp) (dots := false) (s := ⟨at_ + 1, 0, fp⟩) ⟨hts, hdep, rfl, hlt⟩ l nx m true 0
   revert hcall
   generalize itF (datF n ts) ts tp false ⟨at_ + 1, 0, fp⟩ = I
   obtain ⟨ls, ⟨ck, cp, ⟨yk, yn, yt, yks, yp⟩⟩, ⟨a1, e1, f1⟩⟩ := I
   intro hcall
   simp only [rowD, itV, ws] at hcall
   refine k.z ?_
   exact fin
  have hB : wO (datF n ts) false ts ⟨tk, tp, .mk dk dn dt dks dp⟩ ⟨at_ + 1, 0, fp⟩ = byF ts tp ⟨at_ + 1, 0, fp⟩ := by
   unfold wO
   rw [if_neg hk7, if_neg hk2, if_neg (by simp), if_neg hk3, if_neg hk1, if_neg hk4]
  rw [hB]
  have hcall := fun l nx m => zsA h59 (ts := ts) (op := tp) (s := ⟨at_ + 1, 0, fp⟩) ⟨hts, rfl, hlt⟩ l nx m true 0
  revert hcall
  generalize byF ts tp ⟨at_ + 1, 0, fp⟩ = R
  obtain ⟨⟨ek, en, et, eks, ep⟩, ⟨a1, e1, f1⟩⟩ := R
  intro hcall
  simp only [rowD, encD, xq] at hcall
  refine k.z ?_
  exact fin
noncomputable def OL : Orc := withG 59 gBy (withG 56 gLs (withG 86 hH noO))
theorem zws (B : Bx P w0) (A : AtoiOk P w0) : OrcOk P w0 OL := by
 have h1 := GU A (qu P w0)
 have h2 := zuE B h1
 exact zwP B h2 rfl rfl rfl
theorem VS {P : Program} {w0 : World} (B : Bx P w0) (A : AtoiOk P w0) : ∀ n, OrcOk P w0 (withG 32 (gDt n) OL)
 | 0 => JJ (zws B A) 0 fun ts dep op s hp => WN B (zws B A) rfl rfl rfl rfl rfl ts hp.1 _ true dep op (fun _ => by have h := hp.2.1; simp only at h; omega) (fun h => by cases h) s hp.2.2.1 hp.2.2.2
 | n + 1 => by
  have ih := VS B A n
  have hI : OrcOk P w0 (withG 58 (gIt n) (withG 32 (gDt n) OL)) := zus B ih ih rfl rfl
  exact JJ (zws B A) (n + 1) fun ts dep op s hp => WN B hI rfl rfl rfl rfl rfl ts hp.1 _ false dep op (fun h => by cases h) (fun _ => ⟨by have h := hp.2.1; simp only at h; omega, n, rfl, by have h := hp.2.1; simp only at h; omega, rfl, rfl⟩) s hp.2.2.1 hp.2.2.2
def uF (ts : List Tok) : Nat → List DT → RS → List DT × (Nat × Nat)
 | 0, acc, _ => (acc, (0, 0))
 | k + 1, acc, s => if s.at_ < ts.length then (if (datF 200 ts 0 s).2.err = 0 then uF ts k (acc ++ [(datF 200 ts 0 s).1]) (datF 200 ts 0 s).2 else ([], ((datF 200 ts 0 s).2.err, (datF 200 ts 0 s).2.fp))) else (acc, (0, 0))
def jQ (ts : List Tok) : List DT × (Nat × Nat) := uF ts (ts.length + 1) [] ⟨0, 0, 0⟩
def v3 (b : List Nat) : List DT × (Nat × Nat) := if (lexS b).2.1 = 0 then jQ (lexS b).1 else ([], (lexS b).2)
def Zz (x : List DT × (Nat × Nat)) : AV := .tup [.lst x.1.length false (xv x.1), flt x.2]
theorem Lh (x : List DT × (Nat × Nat)) : xG (Zz x) = true := by simp only [Zz, wE, xw, wi, uL, xD, y6]
def zpf (acc : List DT) : AV := match acc with
 | [] => .nils
 | t :: r => .gr 1 5 (t :: r).length (xv (t :: r))
attribute [local go_sem] accD qv frow rdD rowD Zz flt xO zpf w4 in
theorem zqf (B : Bx P w0) (hO : OrcOk P w0 O) (h17 : O 17 = some gLex) (h32 : O 32 = some (gDt 200)) (b : List Nat) (hb : PreS b) (hts : TsOk (lexS b).1) :
  SC P w0 15 [.lst b.length false (xo b)] (H [] 0 true) (Zz (v3 b)) (H [] 0 true) := by
 refine bs B hO f15 fun C k => ?_
 have clex := fun e s => zuA h17 hb e s
 unfold v3
 revert clex hts
 generalize lexS b = L
 obtain ⟨ts, ⟨e, ep⟩⟩ := L
 intro hts clex
 simp only at hts
 simp only [lexV, flt] at clex
 unfold f15
 simp only [Ko, Kn, Kd, Kf, Ki, Kv, Km, Kr, opN]
 refine k.q ?_
 refine k.q ?_
 by_cases he : e = 0
 ·subst he
  have hx : (if ((ts, (0, ep)) : List Tok × (Nat × Nat)).2.1 = 0 then jQ (ts, (0, ep)).1 else ([], (ts, (0, ep)).2)) = jQ ts := if_pos rfl
  rw [hx]
  refine k.q ?_
  refine k.q ?_
  refine k.q ?_
  refine vQ (fun x : List DT × RS => jQ ts = (x.1, (0, 0))) (fun x => ⟨tmL [(7, zpf x.1), (3, .ptr 0 0)], []⟩) (fun x => H ([some frow] ++ qv x.1) 0 true) (xS (x6 (k.gcL [0, 2] [7, 6, 4, 3, 2] true (fr1 := ⟨tmL [(7, accD []), (6, .ptr 1 0), (4, .lst ts.length false (qt ts)), (3, .ptr 0 0), (2, .nils)], []⟩) (s1 := H ([some frow, some (rdD ts ⟨0, 0, 0⟩)] ++ qv []) 0 true) (by simp (disch := first | exact dis | fail) only [go_sem, seval, -rO, -rN, rdD, rowD, accD, qv, frow]) ?_))) ?_
  ·refine wb (fun x : Nat × List DT × RS => x.1) (fun x => ⟨tmL [(7, accD x.2.1), (6, .ptr 1 0), (4, .lst ts.length false (qt ts)), (3, .ptr 0 0), (2, .nils)], []⟩) (fun x => H ([some frow, some (rdD ts x.2.2)] ++ qv x.2.1) 0 true) (fun x => uF ts x.1 x.2.1 x.2.2 = jQ ts ∧ ts.length < x.1 + x.2.2.at_ ∧ x.2.2.at_ ≤ ts.length ∧ x.2.1.length ≤ x.2.2.at_ ∧ x.2.2.err = 0) (fun x hx => ?_) (ts.length + 1, [], ⟨0, 0, 0⟩) ⟨rfl, by simp only; omega, zN _, zN _, rfl⟩
   obtain ⟨kk, acc, ⟨at_, err, fp0⟩⟩ := x
   obtain ⟨g1, g2, g3, g4, g5⟩ := hx
   simp only at g1 g2 g3 g4 g5 ⊢
   subst g5
   have hlen := hts.1
   cases kk with
   | zero => omega
   | succ kk =>
   rw [uF] at g1
   simp only at g1
   by_cases hlt : at_ < ts.length
   ·rw [if_pos hlt] at g1
    have hcall := fun l nx m => Xi h32 (ts := ts) (dep := 0) (op := 0) (s := ⟨at_, 0, fp0⟩) ⟨hts, rfl, rfl, g3⟩ l nx m true 1
    have hf := uw ts 200 0 ⟨at_, 0, fp0⟩ g3
    revert hcall hf g1
    generalize datF 200 ts 0 ⟨at_, 0, fp0⟩ = R
    obtain ⟨⟨ek, en, et, eks, ep⟩, ⟨a1, e1, f1⟩⟩ := R
    intro g1 hcall hf
    obtain ⟨q1, q2, q3, q4, q5⟩ := hf
    simp only at q1 q2 q3 q4 q5 g1
    simp only [rowD, encD, xq] at hcall
    by_cases he1 : e1 = 0
    ·subst he1
     have q4 := q4 rfl
     rw [if_pos rfl] at g1
     cases acc with
     | nil =>
      refine k.z ?_
      refine ⟨(kk, [] ++ [⟨ek, en, et, eks, ep⟩], ⟨a1, 0, f1⟩), ⟨g1, by simp only; omega, q2, by simp only [ye, yY, yX] at g4 ⊢; omega, rfl⟩, yw _, ?_⟩
      refine k.gcs (keep := [0, 1, 3]) (live := [7, 6, 4, 3, 2]) (md := true) ?_
      simp only [y8, znO, accD, qv, xM, xO, xq, xi, yY, yX]
      simp (disch := first | exact dis | fail) only [go_sem, seval, -rO, -rN, frow, rdD, rowD]
     | cons a0 ar =>
      have hp1 := xN (a0 :: ar)
      simp only [yY] at g4
      refine k.z ?_
      refine ⟨(kk, (a0 :: ar) ++ [⟨ek, en, et, eks, ep⟩], ⟨a1, 0, f1⟩), ⟨g1, by simp only; omega, q2, by simp only [ye, yY, yX] at g4 ⊢; omega, rfl⟩, yw _, ?_⟩
      refine k.gcs (keep := [0, 1, 4]) (live := [7, 6, 4, 3, 2]) (md := true) ?_
      simp only [y8, znO, accD, qv, xM, vu, xO, xq, xi, znY, ye, yY, yX]
      simp (disch := first | exact dis | fail) only [go_sem, seval, -rO, -rN, frow, rdD, rowD, xN, wB]
    ·rw [if_neg he1] at g1
     rw [← g1]
     cases acc with
     | nil =>
      refine k.z ?_
      exact fin
     | cons a0 ar =>
      have hp1 := xN (a0 :: ar)
      refine k.z ?_
      exact fin
   ·rw [if_neg hlt] at g1
    cases acc with
    | nil =>
     refine k.z ?_
     simp only [Gcx]
     refine ⟨([], ⟨at_, 0, fp0⟩), g1.symm, ?_⟩
     exact k.g [0] [7, 3]
    | cons a0 ar =>
     have hp1 := xN (a0 :: ar)
     refine k.z ?_
     simp only [Gcx]
     refine ⟨(a0 :: ar, ⟨at_, 0, fp0⟩), g1.symm, ?_⟩
     exact k.g [0, 2] [7, 3]
  ·intro x hx
   rw [hx]
   obtain ⟨acc, s⟩ := x
   simp only
   cases acc with
   | nil =>
    refine k.q ?_
    refine k.z ?_
    exact fin
   | cons a0 ar =>
    have hp1 := xN (a0 :: ar)
    refine k.q ?_
    refine k.z ?_
    exact fin
 ·have hx : (if ((ts, (e, ep)) : List Tok × (Nat × Nat)).2.1 = 0 then jQ (ts, (e, ep)).1 else ([], (ts, (e, ep)).2)) = ([], (e, ep)) := if_neg he
  rw [hx]
  refine k.z ?_
  exact fin
theorem lT (b : List Nat) (f : Nat) : ∀ (k p : Nat) (out s : List Nat), (qo b f k p out).1 = .inl s → s.length ≤ out.length + 4 * k
 | 0, p, out, s, h => by simp [qo] at h
 | k + 1, p, out, s, h => by
  simp only [qo] at h
  split at h
  ·cases h
  split at h
  ·cases h
  rename_i q hq
  split at h
  ·simp only [Sum.inl.injEq] at h; subst h; omega
  split at h
  ·split at h
   ·cases h
   ·split at h
    ·rename_i c hc
     have := lT b f k _ _ _ h
     have := (wS c).2
     rw [ye] at *; omega
    ·cases h
  ·have := lT b f k _ _ _ h
   have := (wS q.1).2
   rw [ye] at *; omega
def TQ (p : Nat) (t : Tok) : Prop := t.pos = p ∧ (xV t.d).length < 1000000
theorem zw7 (w : List Nat) : (digR w).length ≤ w.length := by
 cases w with
 | nil => exact zq _
 | cons c r =>
  simp only [digR]
  split
  ·simp
  ·exact zq _
theorem Wu {w s : List Nat} (h : intR w = some s) : s.length ≤ w.length + 1 := by
 unfold intR at h
 split at h
 ·cases h
 ·simp only [Option.some.injEq] at h
  have h1 := zzn (fun x => x == 48) (digR w)
  have h2 := zw7 w
  subst h
  unfold intS
  split
  ·simp
  ·split
   ·simp only [yY]; unfold qM; omega
   ·unfold qM; omega
theorem zq4 {w : List Nat} {p : Nat} (h : w.length < 500000) : TQ p (vo w p) := by
 unfold vo
 split
 ·exact ⟨rfl, by simp [d0, xV]⟩
 ·split
  ·rename_i s hs
   have := Wu hs
   exact ⟨rfl, by simp only [xV]; omega⟩
  ·exact ⟨rfl, by simp only [xV]; omega⟩
theorem zrX (b : List Nat) (p : Nat) : TQ p (qd b p).t := by
 unfold qd
 split
 ·exact ⟨rfl, by simp [d0, xV]⟩
 split
 ·unfold pb
  split <;> exact ⟨rfl, by simp [cTok, xV]⟩
 ·unfold ve
  split
  ·exact ⟨rfl, by simp [bTok, xV]⟩
  split
  ·exact ⟨rfl, by simp [d0, xV]⟩
  split <;> exact ⟨rfl, by simp [bTok, xV]⟩
theorem zor {p c : Nat} {r : List Nat} (hl : b.length < 100000) (hd : b.drop p = c :: r) (hk : (tokB b p c).t.kind ≠ 0) : TQ p (tokB b p c).t := by
 obtain ⟨h1, _⟩ := uf hd
 revert hk
 unfold tokB
 split
 ·intro h; exact absurd rfl h
 split
 ·unfold gj
  split
  ·intro h; exact absurd rfl h
  ·intro h; exact absurd rfl h
 split
 ·intro h; exact absurd rfl h
 split
 ·exact fun _ => ⟨rfl, by simp [d0, xV]⟩
 split
 ·have h2 := lT b p (b.length + 1) (p + 1) []
  intro _
  unfold kO
  split
  ·rename_i s hs
   have := h2 s hs
   exact ⟨rfl, by simp only [xV, yX] at this ⊢; omega⟩
  ·exact ⟨rfl, by simp [xV]⟩
 split
 ·exact fun _ => zrX b p
 split
 ·have := Qj b p (by omega)
  exact fun _ => zq4 (by omega)
 ·intro h; exact absurd rfl h
theorem zot {p : Nat} (hl : b.length < 100000) (hp : p < b.length) (hk : (tokR b p).t.kind ≠ 0) : TQ p (tokR b p).t := by
 cases hd : b.drop p with
 | nil => have := vd hd (yJ hp); omega
 | cons c r =>
  have h2 := pA b (tokB b p c) (tokL b p c)
  unfold tokR at hk ⊢
  rw [wJ hd, h2.2.1] at hk
  rw [wJ hd, h2.2.1]
  exact zor hl hd hk
theorem WA {b : List Nat} (hb : Byt b) (hl : b.length < 100000) (Q : Tok → Prop) (hQ : ∀ p, p < b.length → (tokR b p).f.1 = 0 → (tokR b p).t.kind ≠ 0 → Q (tokR b p).t) : ∀ (k p : Nat) (acc : List Tok), p ≤ b.length → acc.length ≤ p → (∀ t ∈ acc, Q t) → (lexR b k p acc).1.length ≤ b.length ∧ ∀ t ∈ (lexR b k p acc).1, Q t
 | 0, p, acc, h, h1, h2 => ⟨by simp only [lexR]; omega, h2⟩
 | k + 1, p, acc, h, h1, h2 => by
  simp only [lexR]
  split
  ·rename_i hp
   have hle := ZL hb hp
   split
   ·rename_i hf
    have hq := hle.2.2 hf
    split
    ·exact WA hb hl Q hQ k _ acc hle.2.1 (by omega) h2
    ·rename_i hk
     refine WA hb hl Q hQ k _ _ hle.2.1 (by simp only [ye, yY, yX]; omega) fun t ht => ?_
     rcases List.mem_append.1 ht with ht | ht
     ·exact h2 t ht
     ·rw [List.mem_singleton.1 ht]; exact hQ p hp hf hk
   ·exact ⟨zN _, fun t ht => by cases ht⟩
  ·exact ⟨by simp only; omega, h2⟩
theorem le {b : List Nat} (hb : Byt b) (hl : b.length < 100000) (Q : Tok → Prop) (hQ : ∀ p, p < b.length → (tokR b p).f.1 = 0 → (tokR b p).t.kind ≠ 0 → Q (tokR b p).t) : (lexS b).1.length ≤ b.length ∧ ∀ t ∈ (lexS b).1, Q t :=
 WA hb hl Q hQ (b.length + 1) 0 [] (zN _) (zN _) (fun t ht => by cases ht)
theorem PL (hb : PreS b) : TsOk (lexS b).1 := by
 have := le hb.1 hb.2 (fun t => (xV t.d).length < 1000000) (fun p hp _ hk => (zot hb.2 hp hk).2)
 exact ⟨by have := this.1; have := hb.2; omega, this.2⟩
noncomputable def Ps : List AV → St → Option (AV × St) := orc0 ga PreS (fun b => Zz (v3 b))
theorem Li (B : Bx P w0) (A : AtoiOk P w0) (hO : OrcOk P w0 O) : OrcOk P w0 (withG 15 Ps O) :=
 addL hO YP (fun _ => Lh _) fun b hb => zqf B (zyX B (VS B A 200)) rfl rfl b hb (PL hb)
theorem Ys (h : O 15 = some Ps) (hb : PreS b) (e : Bool) (s : St) : (evW env O).call 15 [.lst b.length e (xo b)] s = some (Zz (v3 b), s) := by
 rw [xC h, Ps, we X2 s b hb (by simp only [ga, wkL, wkV, vW])]
end Go.Proofs.YthcmnajcjapjbaaGreatDoor.Ev

/- Contracts of functions that MatchNames calls: what a call answers, for all data, by symbolic evaluation. No conditions of its own. -/
import Derived.Test.YtionbncghjdeoaaGreatDoorWA
set_option linter.unusedSimpArgs false
set_option linter.unusedVariables false
set_option linter.defProp false
set_option maxHeartbeats 4000000
open Nat renaming le_refl → zp, le_of_ble_eq_true → zmv, lt_succ_self → yx, zero_le → zL
open List renaming length_cons → y8, length_drop → zmB, mem_of_mem_drop → zmC, mem_cons_self → yF, take_of_length_le → zG
open Bool renaming false_and → zmA, true_and → yz, and_self → xb
namespace Go.Proofs.YtionbncghjdeoaaGreatDoor.Ev
variable {P : Program} {w0 : World} {O : Orc} {d : DT} {n : Nat}
open Nat (reduceEqDiff reduceLeDiff reduceLT reduceAdd reduceMul reduceSub reduceMod reducePow reduceDiv reduceOr reduceShiftLeft reduceGT reduceSucc)
open List (length_cons length_nil length_take length_drop)
open T
set_option maxRecDepth 100000
open Int (reduceOfNat reduceNegSucc)
theorem UW : ∀ {l : List Nat}, l ≠ [] → 1 ≤ (ki l).2 ∧ (ki l).2 ≤ l.length ∧ wH (ki l).1 = true
 | [], h => absurd rfl h
 | [a], _ => by
  rw [LN]; split
  ·exact ⟨zp _, by simp, qT.2 oM⟩
  ·exact ⟨zp _, by simp, rfl⟩
 | [a, b], _ => by
  rw [Kp]; split
  ·exact ⟨zp _, by simp, qT.2 (by simp only; omega)⟩
  ·split
   ·exact ⟨by simp, by simp, qT.2 (by simp only [YJ]; omega)⟩
   ·exact ⟨zp _, by simp, rfl⟩
 | [a, b, c], _ => by
  rw [QY]; split
  ·exact ⟨zp _, by simp, qT.2 (by simp only; omega)⟩
  ·split
   ·exact ⟨by simp, by simp, qT.2 (by simp only [YJ]; omega)⟩
   ·split
    ·rename_i h; exact ⟨by simp, by simp, h.2.2.2.2⟩
    ·exact ⟨zp _, by simp, rfl⟩
 | a :: b :: c :: d :: r, _ => by
  rw [XK]; simp only [y8]; split
  ·exact ⟨zp _, by simp only; omega, qT.2 (by simp only; omega)⟩
  ·split
   ·exact ⟨by simp, by simp only; omega, qT.2 (by simp only [YJ]; omega)⟩
   ·split
    ·rename_i h; exact ⟨by simp, by simp only; omega, h.2.2.2.2⟩
    ·split
     ·rename_i h; exact ⟨by simp, by simp only; omega, h.2.2.2.2.2⟩
     ·exact ⟨zp _, by simp only; omega, rfl⟩
def Up (b : List Nat) : Nat → Nat → List (Nat × Nat) → Sum (List (Nat × Nat)) Nat
 | 0, i, _ => .inr i
 | k + 1, i, acc => if b.length ≤ i then .inl acc else match Ks (b.drop i) with
  | none => .inr i
  | some p => Up b k (i + p.2) (acc ++ [(p.1, i)])
def ui (l : List (Nat × Nat)) : List AV := xz (fun p : Nat × Nat => [AV.int .i64 (.ofNat p.1), .int .i64 (.ofNat p.2)]) l
theorem jP (l : List (Nat × Nat)) : xK (ui l) = true := qr (fun p => by simp only [xP, qx, xU, xb]) l
theorem zyW (l : List (Nat × Nat)) : wkL (ui l) = ui l := hU (fun p => rfl) l
theorem zyV (l : List (Nat × Nat)) (p : Nat × Nat) : ui (l ++ [p]) = ui l ++ [.int .i64 (.ofNat p.1), .int .i64 (.ofNat p.2)] := by unfold ui; rw [xY, XS]
theorem pq (p : Nat × Nat) (l : List (Nat × Nat)) : ui (p :: l) = .int .i64 (.ofNat p.1) :: .int .i64 (.ofNat p.2) :: ui l := rfl
theorem QO : ui [] = [] := rfl
def Ln (id : Nat) (acc : List (Nat × Nat)) : AV := match acc with
 | [] => .nils
 | t :: r => .gr id 2 (t :: r).length (ui (t :: r))
def Qz (ty : Nat) (acc : List (Nat × Nat)) : List (Option AObj) := match acc with
 | [] => []
 | t :: r => [some (.app ty (ui (t :: r)))]
def zpI (b : List Nat) : Prop := Byt b ∧ b.length < 2000000
theorem Gl {b : List Nat} : ∀ {k i : Nat} {acc l : List (Nat × Nat)}, acc.length ≤ i → i ≤ b.length → Up b k i acc = .inl l → l.length ≤ b.length
 | 0, _, _, _, _, _, h => by cases h
 | k + 1, i, acc, l, h1, h2, h => by
  rw [Up] at h; split at h
  ·cases h; omega
  ·split at h
   ·cases h
   ·rename_i p hp
    have hne : b.drop i ≠ [] := fun he => by have := congrArg List.length he; rw [zmB] at this; simp at this; omega
    unfold Ks at hp; split at hp
    ·cases hp
    ·cases hp; have := UW hne; rw [zmB] at this; exact Gl (by simp; omega) oM h
open Int renaming reduceOfNat → rO, reduceNegSucc → rN
def j4 (l : List Nat) : List AV := xz (fun n : Nat => [AV.int .i64 (.ofNat n)]) l
theorem gv (l : List Nat) : xK (j4 l) = true := qr (fun p => by simp only [xP, qx, xU, xb]) l
theorem zyY (l : List Nat) : wkL (j4 l) = j4 l := hU (fun p => rfl) l
theorem zyX (l : List Nat) (p : Nat) : j4 (l ++ [p]) = j4 l ++ [.int .i64 (.ofNat p)] := by unfold j4; rw [xY, XS]
theorem Wm (p : Nat) (l : List Nat) : j4 (p :: l) = .int .i64 (.ofNat p) :: j4 l := rfl
theorem QP : j4 [] = [] := rfl
theorem Gz (i : Nat) (l : List (Nat × Nat)) : wP (i * 2) (ui l) = ui (l.drop i) := u1 (k := 2) (fun _ => rfl) i l
def YB (id : Nat) (acc : List Nat) : AV := match acc with
 | [] => .nils
 | t :: r => .gr id 1 (t :: r).length (j4 (t :: r))
def gp (ty : Nat) (acc : List Nat) : List (Option AObj) := match acc with
 | [] => []
 | t :: r => [some (.app ty (j4 (t :: r)))]
def u0 (b : List Nat) : Option (List Nat) := match Up b (b.length + 1) 0 [] with
 | .inl l => some (l.map (·.1))
 | .inr _ => none
def ly (b : List Nat) : AV := match u0 b with
 | some l => .tup [.lst l.length false (j4 l), .int .i64 (.ofNat 0)]
 | none => .tup [.lst 0 false [], .int .i64 (.ofNat 4)]
theorem GC (b : List Nat) : x0 (ly b) = true := by
 unfold ly; split <;> simp only [vx, xP, ww, qx, xU, xb]
def Q7 (s : List Nat) : List AV := [.str s]
theorem GT : ∀ x y, Q7 x = Q7 y → x = y := fun x y h => by
 simp only [Q7, List.cons.injEq, AV.str.injEq, and_true] at h; exact h
theorem U5 (l : List Nat) : xK (Q7 l) = true := by simp only [Q7, xP, kC, xU, xb]
noncomputable def KN : List AV → St → Option (AV × St) := uu Q7 zpI ly
theorem LF {f : Nat} (h : O f = some KN) {l : List Nat} (hb : Byt l) (h2 : l.length < 2000000) (s : St) : (evW env O).call f [.str l] s = some (ly l, s) := by
 rw [qC h, KN, uJ GT s l ⟨hb, h2⟩ rfl]
def YC (b : List Nat) : AV := match Up b (b.length + 1) 0 [] with
 | .inl l => .tup [.lst l.length false (ui l), .int .i64 (.ofNat 0), .int .i64 (.ofNat 0)]
 | .inr i => .tup [.lst 0 false [], .int .i64 (.ofNat 4), .int .i64 (.ofNat i)]
theorem Lp (b : List Nat) : x0 (YC b) = true := by
 unfold YC; split <;> simp only [vx, xP, ww, qx, xU, xb]
noncomputable def G5 : List AV → St → Option (AV × St) := uu XL zpI YC
theorem zyH (h : O 46 = some G5) {l : List Nat} (hb : Byt l) (h2 : l.length < 2000000) (hn : n = l.length) (e : Bool) (s : St) : (evW env O).call 46 [.lst n e (x6 l)] s = some (YC l, s) := by
 subst hn; rw [qC h, G5, uJ GR s l ⟨hb, h2⟩ (zzK l e)]
attribute [local go_sem] XL Ln Qz QO zyW in
theorem zsS (B : Bx P w0) (hO : OrcOk P w0 O) (h84 : O 59 = some zu1) (b : List Nat) (hb : Byt b) (hlen : b.length < 2000000) :
  SC P w0 46 (XL b) (H [] 0 true) (YC b) (H [] 0 true) := by
 refine Is.sc hO B.mixed B.glob B.env 0 (show env.funs.get 46 = some f46 from rfl) (zmv rfl) lf fun C k => ?_; unfold f46; simp only [Ko, Ki]; refine k.q ?_; refine k.q ?_; refine k.q ?_; refine Lk (fun l => Up b (b.length + 1) 0 [] = .inl l) (fun l => ⟨tmL [(5, Ln 0 l)], []⟩) (fun l => H (Qz 95 l) 0 true) ?_ ?_
 ·refine qI (vu (k.gcL [] [6, 5, 0] true (fr1 := ⟨tmL [(6, .int .i64 (.ofNat 0)), (5, Ln 0 []), (0, .lst b.length false (x6 b))], []⟩) (s1 := H (Qz 95 []) 0 true) (by simp (disch := first | exact dis | fail) only [go_sem, seval, -rO, -rN, Ln, Qz]) ?_))
  refine uV (fun x : Nat × Nat × List (Nat × Nat) => x.1) (fun x => ⟨tmL [(6, .int .i64 (.ofNat x.2.1)), (5, Ln 0 x.2.2), (0, .lst b.length false (x6 b))], []⟩) (fun x => H (Qz 95 x.2.2) 0 true) (fun x => Up b x.1 x.2.1 x.2.2 = Up b (b.length + 1) 0 [] ∧ b.length < x.1 + x.2.1 ∧ x.2.1 ≤ b.length ∧ x.2.2.length ≤ x.2.1) (fun x hx => ?_) (b.length + 1, 0, []) ⟨rfl, by simp only; omega, zL _, by simp⟩
  obtain ⟨kk, i, acc⟩ := x; obtain ⟨g1, g2, g3, g4⟩ := hx; simp only at g1 g2 g3 g4 ⊢; cases kk with
  | zero => omega
  | succ kk =>
  rw [Up] at g1; by_cases hi : b.length ≤ i
  ·rw [if_pos hi] at g1; have hlt : ¬ i < b.length := oM; cases acc with
   | nil =>
    refine k.z ?_; simp only [Gcx]; refine ⟨[], g1.symm, ?_⟩; exact k.g [] [5]
   | cons a0 ar =>
    have hp1 := jP (a0 :: ar); refine k.z ?_; simp only [Gcx]; refine ⟨a0 :: ar, g1.symm, ?_⟩; exact k.g [0] [5]
  ·have hi2 : i < b.length := oM; rw [if_neg hi] at g1; have hget := fun e s => zu7 h84 hb hi2 hlen e s; have hne : b.drop i ≠ [] := fun he => by have := congrArg List.length he; rw [zmB] at this; simp at this; omega
   have hsz := UW hne; rw [zmB] at hsz; simp only [Hb, zu5 (hb.drop i) hne] at hget; cases hR : Ks (b.drop i) with
   | none =>
    rw [hR] at g1 hget; simp only at g1 hget; simp only [YC, ← g1]; cases acc with
    | nil =>
     refine k.z ?_; exact fin
    | cons a0 ar =>
     have hp1 := jP (a0 :: ar); refine k.z ?_; exact fin
   | some p =>
    obtain ⟨c, sz⟩ := p; have hD : ki (b.drop i) = (c, sz) := by
     unfold Ks at hR; split at hR
     ·cases hR
     ·exact Option.some.inj hR
    rw [hD] at hsz; rw [hR] at g1 hget; simp only at g1 hget hsz; cases acc with
    | nil =>
     refine k.z ?_; refine ⟨(kk, i + sz, [] ++ [(c, i)]), ⟨g1, by simp only; omega, by simp only; omega, by simp; omega⟩, yx _, ?_⟩
     refine k.gcs (keep := [0]) (live := [6, 5, 0]) (md := true) ?_; simp (disch := first | exact dis | fail) only [go_sem, seval, -rO, -rN, Ln, Qz, pq, QO]
    | cons a0 ar =>
     have hp1 := jP (a0 :: ar); simp only [y8] at g4; refine k.z ?_; refine ⟨(kk, i + sz, (a0 :: ar) ++ [(c, i)]), ⟨g1, by simp only; omega, by simp only; omega, by simp; omega⟩, yx _, ?_⟩
     refine k.gcs (keep := [1]) (live := [6, 5, 0]) (md := true) ?_; simp only [List.cons_append, Ln, Qz, pq, zyV, List.length_append, y8, List.length_nil]; simp (disch := first | exact dis | fail) only [go_sem, seval, -rO, -rN, jP]
 ·intro l hl; simp only [YC, hl]; cases l with
  | nil =>
   refine k.z ?_; exact fin
  | cons a0 ar =>
   have hp1 := jP (a0 :: ar); refine k.z ?_; exact fin
theorem zy5 (B : Bx P w0) (hO : OrcOk P w0 O) (h53 : O 46 = some G5) (b : List Nat) (hb : Byt b) (hlen : b.length < 2000000) :
  SC P w0 19 (Q7 b) (H [] 0 true) (ly b) (H [] 0 true) := by
 refine Is.sc hO B.mixed B.glob B.env 0 (show env.funs.get 19 = some f19 from rfl) (zmv rfl) lf fun C k => ?_; have hall := fun e s => zyH h53 hb hlen rfl e s; unfold f19; simp only [Ko, Ki]; refine v6 (k.eval (by simp (disch := first | exact dis | fail) only [go_sem, seval, -rO, -rN, Q7]; exact rfl) ?_)
 simp only [wo]; cases hA : Up b (b.length + 1) 0 [] with
 | inr i =>
  simp only [ly, u0, hA]; simp only [YC, hA] at hall; refine k.eval (by simp (disch := first | exact dis | fail) only [go_sem, seval, -rO, -rN, hall]; exact rfl) ?_
  try simp only [wo, uK, Cut, if_true]
  apply XQ (Or.inr rfl)
  iterate 5 (simp (disch := first | exact dis | fail) only [go_sem, seval, -rO, -rN] <;> exact rfl)
 | inl l =>
  have hl := Gl (by simp) (by simp) hA
  simp only [ly, u0, hA]; simp only [YC, hA] at hall; refine v6 (k.eval (by simp (disch := first | exact dis | fail) only [go_sem, seval, -rO, -rN, hall]; exact rfl) ?_)
  simp only [wo]; refine v6 (k.eval (by simp (disch := first | exact dis | fail) only [go_sem, seval, -rO, -rN]; exact rfl) ?_)
  simp only [wo]; refine v6 (k.eval (by simp (disch := first | exact dis | fail) only [go_sem, seval, -rO, -rN]; exact rfl) ?_)
  simp only [wo]; refine Xu ⟨tmL [(7, YB 0 (l.map (·.1)))], []⟩ (H (gp 3 (l.map (·.1))) 0 true) ?_ ?_
  ·
   refine v6 (k.eval (by simp (disch := first | exact dis | fail) only [go_sem, seval, -rO, -rN]; exact rfl) ?_)
   simp only [wo]; refine qI (vu (k.gcL [] [8, 7, 4] true (fr1 := ⟨tmL [(8, .int .i64 (.ofNat 0)), (7, YB 0 []), (4, .lst l.length false (ui l))], []⟩) (s1 := H (gp 3 []) 0 true) (by simp (disch := first | exact dis | fail) only [go_sem, seval, -rO, -rN, YB, gp]) ?_))
   refine uV (fun x : Nat × List Nat => l.length - x.1) (fun x => ⟨tmL [(8, .int .i64 (.ofNat x.1)), (7, YB 0 x.2), (4, .lst l.length false (ui l))], []⟩) (fun x => H (gp 3 x.2) 0 true) (fun x => x.1 ≤ l.length ∧ x.2 = (l.take x.1).map (·.1)) (fun x hx => ?_) (0, []) ⟨zL _, rfl⟩; obtain ⟨i, acc⟩ := x; obtain ⟨g1, g2⟩ := hx; simp only at g1 g2 ⊢; rcases x8 l i with ⟨hi, hd⟩ | ⟨⟨c, p⟩, hi, hd⟩
   ·have hlt : ¬ i < l.length := oM; rw [zG hi] at g2; rw [← g2]; cases acc with
    | nil =>
     refine k.eval (by simp (disch := first | exact dis | fail) only [go_sem, seval, -rO, -rN, YB, gp, hlt]; exact rfl) ?_
     try simp only [wo, uK, Cut]
     refine k.gcs (keep := []) (live := [7]) (md := true) ?_; simp (disch := first | exact dis | fail) only [go_sem, seval, -rO, -rN, YB, gp]
    | cons a0 ar =>
     have hp1 := gv (a0 :: ar); refine k.eval (by simp (disch := first | exact dis | fail) only [go_sem, seval, -rO, -rN, YB, gp, hlt]; exact rfl) ?_
     try simp only [wo, uK, Cut]
     refine k.gcs (keep := [0]) (live := [7]) (md := true) ?_; simp (disch := first | exact dis | fail) only [go_sem, seval, -rO, -rN, YB, gp, hp1]
   ·have hdr : wP (i * 2) (ui l) = .int .i64 (.ofNat c) :: .int .i64 (.ofNat p) :: ui (l.drop (i + 1)) := by rw [Gz, hd, pq]
    have hnext : acc ++ [c] = (l.take (i + 1)).map (·.1) := by
     rw [List.take_add, hd, g2]; simp
    have hacc : acc.length = i := by rw [g2, List.length_map, List.length_take]; omega
    cases acc with
    | nil =>
     refine k.eval (by simp (disch := first | exact dis | fail) only [go_sem, seval, -rO, -rN, YB, gp, hi, hdr]; exact rfl) ?_
     try simp only [wo]
     refine ⟨(i + 1, [] ++ [c]), ⟨by simp only; omega, hnext⟩, by simp only; omega, ?_⟩
     refine k.gcs (keep := [0]) (live := [8, 7, 4]) (md := true) ?_; simp (disch := first | exact dis | fail) only [go_sem, seval, -rO, -rN, YB, gp, Wm, QP]
    | cons a0 ar =>
     have hp1 := gv (a0 :: ar); simp only [y8] at hacc; refine k.eval (by simp (disch := first | exact dis | fail) only [go_sem, seval, -rO, -rN, YB, gp, hi, hdr]; exact rfl) ?_
     try simp only [wo]
     refine ⟨(i + 1, (a0 :: ar) ++ [c]), ⟨by simp only; omega, hnext⟩, by simp only; omega, ?_⟩
     refine k.gcs (keep := [1]) (live := [8, 7, 4]) (md := true) ?_; simp only [List.cons_append, YB, gp, Wm, zyX, List.length_append, y8, List.length_nil]; simp (disch := first | exact dis | fail) only [go_sem, seval, -rO, -rN, gv]
  ·generalize l.map (·.1) = m; cases m with
   | nil =>
    refine k.eval (by simp (disch := first | exact dis | fail) only [go_sem, seval, -rO, -rN, YB, gp]; exact rfl) ?_
    try simp only [wo, uK, Cut, if_true]
    apply XQ (Or.inr rfl)
    iterate 5 (simp (disch := first | exact dis | fail) only [go_sem, seval, -rO, -rN, QP] <;> exact rfl)
   | cons a0 ar =>
    have hp1 := gv (a0 :: ar); refine k.eval (by simp (disch := first | exact dis | fail) only [go_sem, seval, -rO, -rN, YB, gp]; exact rfl) ?_
    try simp only [wo, uK, Cut, if_true]
    apply XQ (Or.inr rfl)
    iterate 5 (simp (disch := first | exact dis | fail) only [go_sem, seval, -rO, -rN, zyY] <;> exact rfl)
def kT (c : Nat) : Bool := decide (48 ≤ c) && decide (c ≤ 57)
def j9 (s : List Nat) : List Nat := match s with
 | [] => []
 | c :: r => if c = 45 then r else c :: r
def PL (s : List Nat) : Bool := match j9 s with
 | [] => false
 | c :: r => (decide (c ≠ 48) || eqS s [48]) && (c :: r).all kT
theorem zsj (c : Nat) (r : List Nat) (k : IntKind) : zva (.str (c :: r)) (some (.int k (.ofNat 1))) none = some (.str r) := by
 simp only [zva, bnd, wV, y8, xN.2 (show 1 ≤ r.length + 1 by omega), cond_true, YQ, p6, List.drop_succ_cons, List.drop_zero]
 rw [zG (by show r.length ≤ r.length + 1 - 1; omega)]
theorem zop (c : Nat) (r : List Nat) : Pt (c :: r) 0 = some c := rfl
noncomputable def G6 : List AV → St → Option (AV × St) := uu Q7 zpI (fun s => .bool (PL s))
theorem zwc {f : Nat} (h : O f = some G6) {l : List Nat} (hb : Byt l) (h2 : l.length < 2000000) (s : St) : (evW env O).call f [.str l] s = some (.bool (PL l), s) := by
 rw [qC h, G6, uJ GT s l ⟨hb, h2⟩ rfl]
theorem JZ {s : List Nat} {i y : Nat} (hd : s.drop i = y :: s.drop (i + 1)) : (s.drop i).all kT = (kT y && (s.drop (i + 1)).all kT) := by rw [hd]; rfl
attribute [local go_sem] Q7 PL j9 eqS kT zop zsj in
theorem zwd (B : Bx P w0) (hO : OrcOk P w0 O) (s : List Nat) (hb : Byt s) (hlen : s.length < 2000000) :
  SC P w0 20 (Q7 s) (H [] 0 true) (.bool (PL s)) (H [] 0 true) := by
 refine Is.sc hO B.mixed B.glob B.env 0 (show env.funs.get 20 = some f20 from rfl) (zmv rfl) lf fun C k => ?_; unfold f20; simp only [Ko, Kg, Ki]; refine k.q ?_; by_cases h0 : s = [48]
 ·subst h0; refine k.z ?_; exact fin
 refine k.q ?_; refine Xu ⟨tmL [(0, .str (j9 s))], []⟩ (H [] 0 true) ?_ ?_
 ·match s, hb with
  | [], hb =>
   refine k.z ?_; simp only [j9]; exact k.g [] [0]
  | c :: r, hb =>
   have hc : c < 256 := hb c (by simp)
   by_cases h45 : c = 45
   ·subst h45; refine k.z ?_; simp only [j9, if_true]; exact k.g [] [0]
   ·refine k.z ?_; simp only [j9, h45, if_false]; exact k.g [] [0]
 have hn : PL s = match j9 s with
   | [] => false
   | c :: r => decide (c ≠ 48) && (c :: r).all kT := by
  unfold PL; cases j9 s with
  | nil => rfl
  | cons c r =>
   have : eqS s [48] = false := by
    cases h : eqS s [48] with
    | false => rfl
    | true => exact absurd (jM h) h0
   simp only [this, Bool.or_false]
 rw [hn]; have hmb : Byt (j9 s) ∧ (j9 s).length < 2000000 := by
  match s, hb, hlen with
  | [], hb, hlen => exact ⟨hb, hlen⟩
  | c :: r, hb, hlen =>
   simp only [j9]; split
   ·exact ⟨hb.cons.2, by simp only [y8] at hlen; omega⟩
   ·exact ⟨hb, hlen⟩
 revert hmb; generalize j9 s = m; intro hmb; obtain ⟨hmb, hml⟩ := hmb
 match m, hmb, hml with
 | [], hmb, hml =>
  refine k.z ?_; exact fin
 | c :: r, hmb, hml =>
 simp only; have hc : c < 256 := hmb c (by simp)
 by_cases h48 : c = 48
 ·subst h48; refine k.z ?_; exact fin
 rw [decide_eq_true h48, yz]; refine k.q ?_; obtain ⟨m, hm⟩ : ∃ m, m = c :: r := ⟨_, rfl⟩; rw [← hm] at hml hmb ⊢; refine Za (p := m.all kT = true) ⟨tmL [], []⟩ (H [] 0 true) ?_ ?_
 ·
  refine v6 (k.eval (by simp (disch := first | exact dis | fail) only [go_sem, seval, -rO, -rN]; exact rfl) ?_)
  simp only [wo]; refine qI (vu (k.gcL [] [3, 0] true (fr1 := ⟨tmL [(3, .int .i64 (.ofNat 0)), (0, .str m)], []⟩) (s1 := H [] 0 true) sW ?_)); refine uV (fun i : Nat => m.length - i) (fun i => ⟨tmL [(3, .int .i64 (.ofNat i)), (0, .str m)], []⟩) (fun _ => H [] 0 true) (fun i => i ≤ m.length ∧ (m.drop i).all kT = m.all kT) (fun i hi => ?_) 0 ⟨zL _, rfl⟩; obtain ⟨g1, g2⟩ := hi; rcases x8 m i with ⟨hi, hd⟩ | ⟨y, hi, hd⟩
  ·have hlt : ¬ i < m.length := oM; rw [hd] at g2; refine k.eval (by simp (disch := first | exact dis | fail) only [go_sem, seval, -rO, -rN, hlt]; exact rfl) ?_
   try simp only [wo, uK]
   simp only [Yy]; refine ⟨g2.symm, ?_⟩; exact k.g [] []
  ·have hy : y < 256 := hmb y (zmC (by rw [hd]; exact yF))
   have hg : Pt m i = some y := by rw [KQ]; have := congrArg List.head? hd; rw [List.head?_drop] at this; exact this
   rw [JZ hd] at g2; by_cases h2 : y < 48
   ·rw [show kT y = false from by simp [kT]; omega, zmA] at g2
    rw [← g2]; refine k.eval (by simp (disch := first | exact dis | fail) only [go_sem, seval, -rO, -rN, hi, hg, h2]; exact rfl) ?_
    try simp only [wo, uK]
    simp only [Yy]; exact fin
   ·by_cases h3 : 57 < y
    ·rw [show kT y = false from by simp [kT]; omega, zmA] at g2
     rw [← g2]; refine k.eval (by simp (disch := first | exact dis | fail) only [go_sem, seval, -rO, -rN, hi, hg, h2, h3]; exact rfl) ?_
     try simp only [wo, uK]
     simp only [Yy]; exact fin
    ·rw [show kT y = true from by simp [kT]; omega, yz] at g2
     refine k.eval (by simp (disch := first | exact dis | fail) only [go_sem, seval, -rO, -rN, hi, hg, h2, h3]; exact rfl) ?_
     try simp only [wo]
     refine ⟨i + 1, ⟨oM, g2⟩, oM, ?_⟩; refine k.gcs (keep := []) (live := [3, 0]) (md := true) ?_; simp (disch := first | exact dis | fail) only [go_sem, seval, -rO, -rN]
 ·intro hp; rw [hp]; refine k.q ?_; refine k.z ?_; exact fin
def okC (t : List Nat) : Bool := (u0 t).isSome
def Gr (k n : Int) (t : List Nat) : Bool :=
 if k = .ofNat 0 ∨ k = .ofNat 8 ∨ k = .ofNat 9 ∨ k = .ofNat 10 then true
 else if k = .ofNat 1 then eqD n (.ofNat 0) || eqD n (.ofNat 1)
 else if k = .ofNat 2 then PL t
 else if k = .ofNat 3 then Hh n
 else if k = .ofNat 4 then okC t
 else if k = .ofNat 5 then okC t && !decide (t = [])
 else false
def Gq (d : DT) : Bool := Gr (xE d) (qL d) (x9 d)
def Qd : Nat → DT → Bool
 | 0, _ => false
 | k + 1, d => match we d with
  | some p => Qd k p.1 && Qd k p.2
  | none => if xE d = .ofNat 7 then (wi d).all (Qd k) else decide ((wi d).length = 0) && Gq d
def wI (d : DT) : Bool := Qd (xq d) d
theorem ZV {α : Type} {f g : α → Bool} : ∀ {l : List α}, (∀ x ∈ l, f x = g x) → l.all f = l.all g
 | [], _ => rfl
 | x :: r, h => by simp only [List.all_cons, h x (by simp), ZV (l := r) fun y hy => h y (by simp [hy])]
theorem gE : ∀ {k m : Nat} {d : DT}, xq d ≤ k → xq d ≤ m → Qd k d = Qd m d
 | 0, _, a, h, _ => by have := xR a; omega
 | _ + 1, 0, a, _, h => by have := xR a; omega
 | k + 1, m + 1, d, h, h' => by
  have hk := wx d; have e : (wi d).all (Qd k) = (wi d).all (Qd m) := ZV fun x hx => by
   have := qF hx; exact gE oM oM
  simp only [Qd, e]; cases hka : we d with
  | none => rfl
  | some p =>
   have := vq (x := p.1) (y := p.2) hka; simp only; rw [gE (k := k) (m := m) (d := p.1) oM oM, gE (k := k) (m := m) (d := p.2) oM oM]
theorem Jw {x y : DT} (h : we d = some (x, y)) : wI d = (wI x && wI y) := by
 have := vq h; unfold wI; rw [gE (m := xq d + 1) (zp _) oM, Qd, h]; simp only; rw [gE (k := xq d) (m := xq x) oM (zp _), gE (k := xq d) (m := xq y) oM (zp _)]
theorem Zr (h : we d = none) : wI d = if xE d = .ofNat 7 then (wi d).all wI else decide ((wi d).length = 0) && Gq d := by
 have hk := wx d; have e : (wi d).all (Qd (xq d)) = (wi d).all wI := ZV fun x hx => by
  have := qF hx; exact gE oM (zp _)
 unfold wI at e ⊢; rw [gE (m := xq d + 1) (zp _) oM, Qd, h, e]
mutual
def TxD : DT → Prop
 | .mk _ _ t ks _ => Byt t ∧ t.length < 2000000 ∧ TxL ks
def TxL : List DT → Prop
 | [] => True
 | d :: r => TxD d ∧ TxL r
end
theorem TxL.mem : ∀ {l : List DT} {d : DT}, TxL l → d ∈ l → TxD d
 | [], _, _, h => by cases h
 | x :: r, d, ht, h => by
  simp only [TxL] at ht; rcases List.mem_cons.1 h with rfl | h
  ·exact ht.1
  ·exact TxL.mem ht.2 h
theorem TxD.kids {x y : DT} (ht : TxD d) (h : we d = some (x, y)) : TxD x ∧ TxD y := by
 obtain ⟨kd, n, t, ks, p⟩ := d; obtain ⟨rfl, rfl⟩ := wW h; simp only [TxD, TxL] at ht; exact ⟨ht.2.2.1, ht.2.2.2.1⟩
noncomputable def Ps (N : Nat) : List AV → St → Option (AV × St) := uu vO (fun d => TxD d ∧ xq d < N) (fun d => .bool (wI d))
theorem Hx {f N : Nat} (h : O f = some (Ps N)) (ht : TxD d) (hn : xq d < N) (s : St) : (evW env O).call f [.agg (xu d)] s = some (.bool (wI d), s) := by
 rw [qC h, Ps, uJ wB s d ⟨ht, hn⟩ (wT d)]
def znw (d : DT) : Bool := if xE d = .ofNat 7 then (wi d).all wI else decide ((wi d).length = 0) && Gq d
theorem VK : ∀ (k : Nat) (d : DT), xq d < k → wI d = ((xL d).1.all wI && znw (xL d).2)
 | 0, d, h => by omega
 | k + 1, d, h => by
  cases hk : we d with
  | none =>
   rw [qi hk, Zr hk]; rfl
  | some p =>
   obtain ⟨x, y⟩ := p; have hn := vq hk; have ih := VK k y (by have := xR x; omega)
   rw [w7 hk, Jw hk, ih]; simp only [List.all_cons, Bool.and_assoc]
theorem zyE (d : DT) (ht : TxD d) : TxL (xL d).1 ∧ TxD (xL d).2 := by
 have key : ∀ (k : Nat) (d : DT), xq d < k → TxD d → TxL (xL d).1 ∧ TxD (xL d).2 := by
  intro k
  induction k with
  | zero => intro d h; omega
  | succ k ih =>
   intro d h ht; cases hk : we d with
   | none => rw [qi hk]; exact ⟨by simp only [TxL], ht⟩
   | some xy =>
    obtain ⟨x, y⟩ := xy; have h2 := vq hk; have h3 := ht.kids hk; have := ih y (by have := xR x; omega) h3.2
    rw [w7 hk]; exact ⟨by simp only [TxL]; exact ⟨h3.1, this.1⟩, this.2⟩
 exact key _ d (yx _) ht
theorem Gm {α : Type} {f : α → Bool} {l : List α} {i : Nat} {y : α} (hd : l.drop i = y :: l.drop (i + 1)) : (l.drop i).all f = (f y && (l.drop (i + 1)).all f) := by rw [hd]; rfl
attribute [local go_sem] vO wU xo xX xH true_or if_true or_true Option.isSome_none Option.isSome_some in
theorem zww (B : Bx P w0) (hO : OrcOk P w0 O) (h27 : O 18 = some Uy) (h28 : O 19 = some KN) (h29 : O 20 = some G6) (h30 : O 21 = some gIs) {N : Nat} (h12 : O 11 = some (Ps N)) (hN2 : N ≤ 100000) (d0 : DT) (ht0 : TxD d0) (hN : xq d0 < N + 1) :
  SC P w0 11 (vO d0) (H [] 0 true) (.bool (wI d0)) (H [] 0 true) := by
 refine Is.sc hO B.mixed B.glob B.env 0 (show env.funs.get 11 = some f11 from rfl) (zmv rfl) lf fun C k => ?_; rw [VK _ d0 (yx _)]; have hni := va d0; have hla := v3 (xL d0).1; have htx := zyE d0 ht0; have hca := VC (f := 18) h27 (d := d0) oM; simp only [itR] at hca; have hx0 := Pw d0; revert hni hla hca htx hx0; generalize (xL d0).1 = l; generalize (xL d0).2 = x; intro hni hla htx hca hx0; have hkx := wx x; have hlx := v3 (wi x); obtain ⟨kd, n, t, ks, p⟩ := x; obtain ⟨ak, an, at_, aks, ap⟩ := d0; simp only [wU, xo] at hca; simp only [wi] at hkx hlx; obtain ⟨htl, htx⟩ := htx; simp only [TxD] at htx; have hnum := zwc (f := 20) h29 htx.1 oM; have his := zzX h30 n; have hco := LF (f := 19) h28 htx.1 oM; unfold f11; simp only [Ko, Kg, Kn, Ki]; refine k.q ?_; refine k.q ?_; refine Za (p := l.all wI = true) ⟨tmL [(4, .ptr 0 0)], []⟩ (H [some (xX (.mk kd n t ks p))] 0 true) ?_ ?_
 ·refine k.q ?_; refine qI (vu (k.gcL [1] [5, 4, 3] true (fr1 := ⟨tmL [(5, .int .i64 (.ofNat 0)), (4, .ptr 0 0), (3, .lst l.length false (xC l))], []⟩) (s1 := H [some (xX (.mk kd n t ks p))] 0 true) (by simp (disch := first | exact dis | fail) only [go_sem, seval, -rO, -rN, xX, xo]) ?_))
  refine uV (fun i : Nat => l.length - i) (fun i => ⟨tmL [(5, .int .i64 (.ofNat i)), (4, .ptr 0 0), (3, .lst l.length false (xC l))], []⟩) (fun _ => H [some (xX (.mk kd n t ks p))] 0 true) (fun i => i ≤ l.length ∧ (l.drop i).all wI = l.all wI) (fun i hi => ?_) 0 ⟨zL _, rfl⟩; obtain ⟨g1, g2⟩ := hi; rcases x8 l i with ⟨hi, hd⟩ | ⟨u, hi, hd⟩
  ·have hlt : ¬ i < l.length := oM; rw [hd] at g2; refine k.z ?_; simp only [Yy]; refine ⟨g2.symm, ?_⟩; exact k.g [0] [4]
  ·have hmem : u ∈ l := zmC (by rw [hd]; exact yF)
   have hc := Hx (f := 11) h12 (htl.mem hmem) (by have := qF hmem; have := xR (.mk kd n t ks p); omega)
   have hdr : wP (i * 5) (xC l) = xu u ++ xC (l.drop (i + 1)) := by rw [gu, hd, q7]
   rw [Gm hd] at g2; obtain ⟨uk, un, ut, uks, up⟩ := u; simp only [xo] at hc; cases hsm : wI (.mk uk un ut uks up) with
   | true =>
    rw [hsm] at hc g2; refine k.z ?_; refine ⟨i + 1, ⟨oM, by rw [← g2, yz]⟩, oM, ?_⟩
    exact k.g [0] [5, 4, 3]
   | false =>
    rw [hsm] at hc g2; refine k.z ?_; simp only [Yy]; rw [← g2, zmA, zmA]; exact fin
 intro hp; rw [hp, yz]; rw [show znw (.mk kd n t ks p) = (if kd = .ofNat 7 then ks.all wI else decide (ks.length = 0) && Gr kd n t) from rfl]; by_cases k7 : kd = .ofNat 7
 ·subst k7; rw [if_pos rfl]; refine k.q ?_; refine Za (p := ks.all wI = true) ⟨tmL [(4, .ptr 0 0)], []⟩ (H [some (xX (.mk (.ofNat 7) n t ks p))] 0 true) ?_ ?_
  ·refine k.q ?_; refine qI (vu (k.gcL [0] [6, 4] true (fr1 := ⟨tmL [(6, .int .i64 (.ofNat 0)), (4, .ptr 0 0)], []⟩) (s1 := H [some (xX (.mk (.ofNat 7) n t ks p))] 0 true) (by simp (disch := first | exact dis | fail) only [go_sem, seval, -rO, -rN, xX, xo]) ?_))
   refine uV (fun i : Nat => ks.length - i) (fun i => ⟨tmL [(6, .int .i64 (.ofNat i)), (4, .ptr 0 0)], []⟩) (fun _ => H [some (xX (.mk (.ofNat 7) n t ks p))] 0 true) (fun i => i ≤ ks.length ∧ (ks.drop i).all wI = ks.all wI) (fun i hi => ?_) 0 ⟨zL _, rfl⟩; obtain ⟨g1, g2⟩ := hi; rcases x8 ks i with ⟨hi, hd⟩ | ⟨u, hi, hd⟩
   ·have hlt : ¬ i < ks.length := oM; rw [hd] at g2; refine k.z ?_; simp only [Yy]; refine ⟨g2.symm, ?_⟩; exact k.g [0] [4]
   ·have hmem : u ∈ ks := zmC (by rw [hd]; exact yF)
    have hc := Hx (f := 11) h12 (htx.2.2.mem hmem) (by have := qF hmem; omega)
    have hdr : wP (i * 5) (xC ks) = xu u ++ xC (ks.drop (i + 1)) := by rw [gu, hd, q7]
    rw [Gm hd] at g2; obtain ⟨uk, un, ut, uks, up⟩ := u; simp only [xo] at hc; cases hsm : wI (.mk uk un ut uks up) with
    | true =>
     rw [hsm] at hc g2; refine k.z ?_; refine ⟨i + 1, ⟨oM, by rw [← g2, yz]⟩, oM, ?_⟩
     exact k.g [0] [6, 4]
    | false =>
     rw [hsm] at hc g2; refine k.z ?_; simp only [Yy]; rw [← g2, zmA]; exact fin
  intro hq; rw [hq]; simp only [ly] at hco; cases hc : u0 t with
  | none =>
   rw [hc] at hco; refine k.z ?_; exact fin
  | some ll =>
   rw [hc] at hco; refine k.z ?_; exact fin
 rw [if_neg k7]; have e7 := jy k7; by_cases hl : ks.length = 0
 case neg =>
  have hl2 : 0 < ks.length := oM; rw [decide_eq_false hl, zmA]; refine k.z ?_; exact fin
 have hks : ks = [] := List.eq_nil_of_length_eq_zero hl; subst hks; rw [decide_eq_true hl, yz]; refine k.q ?_; refine Xu ⟨tmL [(4, .ptr 0 0)], []⟩ (H [some (xX (.mk kd n t [] p))] 0 true) ?_ ?_
 ·refine v6 ?_; refine k.gc [0] [4] true (fr1 := ⟨tmL [(4, .ptr 0 0)], []⟩) (s1 := H [some (xX (.mk kd n t [] p))] 0 true) (by simp (disch := first | exact dis | fail) only [go_sem, seval, -rO, -rN, xX, xo]) ?_
  refine k.z ?_; refine qI (vu (vy (k.ev ?_))); simp (disch := first | exact dis | fail) only [go_sem, seval, -rO, -rN, xX, xo]
  refine ⟨_, rfl, ?_⟩; simp only [wo, uK, Cut]; exact k.g [0] [4]
 unfold Gr; simp only [ly] at hco; by_cases k0 : kd = .ofNat 0
 ·subst k0; cases hc : u0 t with
  | none =>
   rw [hc] at hco; refine k.z ?_; exact fin
  | some ll =>
   rw [hc] at hco; refine k.z ?_; exact fin
 by_cases k8 : kd = .ofNat 8
 ·subst k8; cases hc : u0 t with
  | none =>
   rw [hc] at hco; refine k.z ?_; exact fin
  | some ll =>
   rw [hc] at hco; refine k.z ?_; exact fin
 by_cases k9 : kd = .ofNat 9
 ·subst k9; cases hc : u0 t with
  | none =>
   rw [hc] at hco; refine k.z ?_; exact fin
  | some ll =>
   rw [hc] at hco; refine k.z ?_; exact fin
 by_cases k10 : kd = .ofNat 10
 ·subst k10; cases hc : u0 t with
  | none =>
   rw [hc] at hco; refine k.z ?_; exact fin
  | some ll =>
   rw [hc] at hco; refine k.z ?_; exact fin
 rw [if_neg (by simp only [k0, k8, k9, k10, or_self, not_false_eq_true])]
 have e0 := jy k0; have e8 := jy k8; have e9 := jy k9; have e10 := jy k10; by_cases k1 : kd = .ofNat 1
 ·subst k1; rw [if_pos rfl]; cases hc : u0 t with
  | none =>
   rw [hc] at hco; cases h0 : eqD n (.ofNat 0) with
   | true =>
    refine k.z ?_; exact fin
   | false =>
    refine k.z ?_; exact fin
  | some ll =>
   rw [hc] at hco; cases h0 : eqD n (.ofNat 0) with
   | true =>
    refine k.z ?_; exact fin
   | false =>
    refine k.z ?_; exact fin
 rw [if_neg k1]; have e1 := jy k1; by_cases k2 : kd = .ofNat 2
 ·subst k2; rw [if_pos rfl]; cases hc : u0 t with
  | none =>
   rw [hc] at hco; refine k.z ?_; exact fin
  | some ll =>
   rw [hc] at hco; refine k.z ?_; exact fin
 rw [if_neg k2]; have e2 := jy k2; by_cases k3 : kd = .ofNat 3
 ·subst k3; rw [if_pos rfl]; cases hc : u0 t with
  | none =>
   rw [hc] at hco; refine k.z ?_; exact fin
  | some ll =>
   rw [hc] at hco; refine k.z ?_; exact fin
 rw [if_neg k3]; have e3 := jy k3; by_cases k4 : kd = .ofNat 4
 ·subst k4; rw [if_pos rfl]; simp only [okC]; cases hc : u0 t with
  | none =>
   rw [hc] at hco; refine k.z ?_; exact fin
  | some ll =>
   rw [hc] at hco; refine k.z ?_; exact fin
 rw [if_neg k4]; have e4 := jy k4; by_cases k5 : kd = .ofNat 5
 ·subst k5; rw [if_pos rfl]; simp only [okC]; cases hc : u0 t with
  | none =>
   rw [hc] at hco; refine k.z ?_; exact fin
  | some ll =>
   rw [hc] at hco; cases t with
   | nil =>
    refine k.z ?_; exact fin
   | cons t0 tr =>
    refine k.z ?_; exact fin
 rw [if_neg k5]; have e5 := jy k5; cases hc : u0 t with
 | none =>
  rw [hc] at hco; refine k.z ?_; exact fin
 | some ll =>
  rw [hc] at hco; refine k.z ?_; exact fin
end Go.Proofs.YtionbncghjdeoaaGreatDoor.Ev

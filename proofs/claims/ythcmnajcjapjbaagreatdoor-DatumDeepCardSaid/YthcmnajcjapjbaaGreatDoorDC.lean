/- Contracts of functions that DatumDeep calls: what a call answers, for all data, by symbolic evaluation. No conditions of its own. -/
import Derived.Test.YthcmnajcjapjbaaGreatDoorDB
import Derived.Test.YthcmnajcjapjbaaGreatDoorEvJ
set_option linter.unusedSimpArgs false
set_option linter.unusedVariables false
set_option linter.defProp false
namespace Go.Proofs.YthcmnajcjapjbaaGreatDoor.Ev
open Nat (reduceEqDiff reduceLeDiff reduceLT reduceAdd reduceMul reduceSub reduceMod reducePow reduceDiv reduceOr reduceShiftLeft reduceGT reduceSucc)
open List (length_cons length_nil length_take length_drop)
open T
set_option maxRecDepth 100000
def drow (d : DT) : AObj := .row 24 (cellsD d) false false
def drow0 : AObj := .row 24 [.int .i64 (.ofNat 0), .int .i64 (.ofNat 0), .str [], .nils, .int .i64 (.ofNat 0)] false false
def kidsOf : DT → Option (DT × DT)
  | .mk kd _ _ ks _ => match ks with
    | [x, y] => if kd = .ofNat 6 then some (x, y) else none
    | _ => none
theorem kidsOf_some {kd n : Int} {t : List Nat} {ks : List DT} {p : Int} {x y : DT} (h : kidsOf (.mk kd n t ks p) = some (x, y)) : kd = .ofNat 6 ∧ ks = [x, y] := by
  simp only [kidsOf] at h
  split at h
  · split at h
    · cases h; exact ⟨by assumption, rfl⟩
    · cases h
  · cases h
theorem kidsOf_none {kd n : Int} {t : List Nat} {ks : List DT} {p : Int} (h : kidsOf (.mk kd n t ks p) = none) (hk : kd = .ofNat 6) : ¬ ks.length = 2 := by
  subst hk
  intro hl
  match ks, hl with
  | [x, y], _ => simp [kidsOf] at h
def itemsOf : Nat → List DT → DT → Option (List DT × DT)
  | 0, _, _ => none
  | k + 1, acc, d =>
    if 1000000 ≤ acc.length then none else
    match kidsOf d with
    | some (x, y) => itemsOf k (acc ++ [x]) y
    | none => some (acc, d)
theorem eqD_ne {a b : Int} (h : a ≠ b) : eqD a b = false := by simp [eqD, h]
theorem eqD_eq {a : Int} : eqD a a = true := by simp [eqD]
theorem cellsL_two (x y : DT) : cellsL [x, y] = cellsD x ++ cellsD y := by simp only [cellsL_cons, cellsL_nil, List.append_nil]
theorem cellsL_drop1 (x y : DT) : dropN 5 (cellsL [x, y]) = cellsL [y] := cellsL_drop 1 [x, y]
theorem Items_sc {P : Program} {w0 : World} (B : Bx P w0) {O : Orc} (hO : OrcOk P w0 O) (o23 : O 23 = none) (d0 : DT) (l : List DT) (e : DT) (k0 : Nat) (h0 : itemsOf k0 [] d0 = some (l, e)) :
    SC P w0 19 [encD d0] (H [] 0 true) (.tup [.lst l.length false (cellsL l), encD e]) (H [] 0 true) := by
  refine Is.sc hO B.mixed B.glob B.env 0 (show env.funs.get 19 = some f19 from rfl) (Nat.le_of_ble_eq_true rfl) mask0 fun C k => ?_
  have cpair := @call_in env O _ _ o23 (show env.funs.get 23 = some f23 from rfl) rfl
  unfold f19
  simp only
  refine tri_seq (k.ev ?_)
  simp (disch := first | assumption | omega | rfl | (simp only [sxP, Bool.and_self, length_cons, length_nil, length_take, length_drop, ↓reduceIte, reduceEqDiff]; first | done | omega) | exact Nat.le_of_ble_eq_true rfl | ((repeat (first | assumption | apply Byt.drop | apply Byt.take)); done) | fail) only [go_sem, ↓reduceIte, reduceEqDiff, reduceLeDiff, reduceLT, reduceAdd, reduceMul, reduceSub, reduceMod, reducePow, reduceDiv, reduceOr, reduceShiftLeft, Nat.reduceBEq, reduceGT, reduceSucc, encD]
  refine ⟨_, rfl, ?_⟩
  simp only [Behind, InBlk, Cut, if_true, ↓reduceIte]
  refine tri_cut ⟨tmL [(3, .ptr 1 0), (2, accD l), (1, .ptr 0 0)], []⟩ (H ([some (drow e), some drow0] ++ accDO l) 0 true) (tri_block (tri_loop (k.gcL [0, 1] [3, 2, 1] true (fr1 := ⟨tmL [(3, .ptr 1 0), (2, accD []), (1, .ptr 0 0)], []⟩) (s1 := H ([some (drow d0), some drow0] ++ accDO []) 0 true) (by simp (disch := first | assumption | omega | rfl | (simp only [sxP, Bool.and_self, length_cons, length_nil, length_take, length_drop, ↓reduceIte, reduceEqDiff]; first | done | omega) | exact Nat.le_of_ble_eq_true rfl | ((repeat (first | assumption | apply Byt.drop | apply Byt.take)); done) | fail) only [go_sem, ↓reduceIte, reduceEqDiff, reduceLeDiff, reduceLT, reduceAdd, reduceMul, reduceSub, reduceMod, reducePow, reduceDiv, reduceOr, reduceShiftLeft, Nat.reduceBEq, reduceGT, reduceSucc, drow, drow0, accD, accDO, cellsD_pure]) ?_))) ?_
  · refine triL_ind (fun x : Nat × List DT × DT => x.1) (fun x => ⟨tmL [(3, .ptr 1 0), (2, accD x.2.1), (1, .ptr 0 0)], []⟩) (fun x => H ([some (drow x.2.2), some drow0] ++ accDO x.2.1) 0 true) (fun x => itemsOf x.1 x.2.1 x.2.2 = some (l, e)) (fun x hx => ?_) (k0, [], d0) h0
    obtain ⟨kk, acc, ⟨kd, n, t, ks, p⟩⟩ := x
    simp only at hx ⊢
    cases kk with
    | zero => simp [itemsOf] at hx
    | succ kk =>
      rw [itemsOf] at hx
      by_cases hc : 1000000 ≤ acc.length
      · rw [if_pos hc] at hx; cases hx
      rw [if_neg hc] at hx
      have hc2 : acc.length < 1000000 := Nat.lt_of_not_le hc
      cases hkd : kidsOf (.mk kd n t ks p) with
      | some xy =>
        · obtain ⟨⟨xk, xn, xt, xks, xp⟩, ⟨yk, yn, yt, yks, yp⟩⟩ := xy
          rw [hkd] at hx
          obtain ⟨rfl, rfl⟩ := kidsOf_some hkd
          simp only at hx
          cases acc with
          | nil =>
            refine k.ev ?_
            simp (disch := first | assumption | omega | rfl | (simp only [sxP, Bool.and_self, length_cons, length_nil, length_take, length_drop, ↓reduceIte, reduceEqDiff]; first | done | omega) | exact Nat.le_of_ble_eq_true rfl | ((repeat (first | assumption | apply Byt.drop | apply Byt.take)); done) | fail) only [go_sem, ↓reduceIte, reduceEqDiff, reduceLeDiff, reduceLT, reduceAdd, reduceMul, reduceSub, reduceMod, reducePow, reduceDiv, reduceOr, reduceShiftLeft, Nat.reduceBEq, reduceGT, reduceSucc, accD, accDO, drow, drow0, cellsD_mk, cellsL_two, cpair, f23, takeN_cells, takeN_cells1]
            refine ⟨_, rfl, ?_⟩
            simp only [Behind, InBlk, Cut, if_true, ↓reduceIte]
            refine ⟨(kk, [] ++ [⟨xk, xn, xt, xks, xp⟩], ⟨yk, yn, yt, yks, yp⟩), hx, Nat.lt_succ_self _, ?_⟩
            refine k.gcs (keep := [0, 1, 2]) (live := [3, 2, 1]) (md := true) ?_
            simp only [List.cons_append, List.nil_append, accD, accDO, cellsL_cons, cellsL_append, cellsL_nil, cellsD_mk, List.append_nil, List.append_assoc, List.length_append, List.length_cons, List.length_nil]
            simp (disch := first | assumption | omega | rfl | (simp only [sxP, Bool.and_self, length_cons, length_nil, length_take, length_drop, ↓reduceIte, reduceEqDiff]; first | done | omega) | exact Nat.le_of_ble_eq_true rfl | ((repeat (first | assumption | apply Byt.drop | apply Byt.take)); done) | fail) only [go_sem, ↓reduceIte, reduceEqDiff, reduceLeDiff, reduceLT, reduceAdd, reduceMul, reduceSub, reduceMod, reducePow, reduceDiv, reduceOr, reduceShiftLeft, Nat.reduceBEq, reduceGT, reduceSucc, drow, drow0, cellsD_mk, cellsL_pure, cellsD_pure]
          | cons a0 ar =>
            have hp1 := cellsL_pure (a0 :: ar)
            simp only [List.length_cons] at hc2
            refine k.ev ?_
            simp (disch := first | assumption | omega | rfl | (simp only [sxP, Bool.and_self, length_cons, length_nil, length_take, length_drop, ↓reduceIte, reduceEqDiff]; first | done | omega) | exact Nat.le_of_ble_eq_true rfl | ((repeat (first | assumption | apply Byt.drop | apply Byt.take)); done) | fail) only [go_sem, ↓reduceIte, reduceEqDiff, reduceLeDiff, reduceLT, reduceAdd, reduceMul, reduceSub, reduceMod, reducePow, reduceDiv, reduceOr, reduceShiftLeft, Nat.reduceBEq, reduceGT, reduceSucc, accD, accDO, drow, drow0, cellsD_mk, cellsL_two, cpair, f23, takeN_cells, takeN_cells1, hp1]
            refine ⟨_, rfl, ?_⟩
            simp only [Behind, InBlk, Cut, if_true, ↓reduceIte]
            refine ⟨(kk, (a0 :: ar) ++ [⟨xk, xn, xt, xks, xp⟩], ⟨yk, yn, yt, yks, yp⟩), hx, Nat.lt_succ_self _, ?_⟩
            refine k.gcs (keep := [0, 1, 3]) (live := [3, 2, 1]) (md := true) ?_
            simp only [List.cons_append, List.nil_append, accD, accDO, cellsL_cons, cellsL_append, cellsL_nil, cellsD_mk, List.append_nil, List.append_assoc, List.length_append, List.length_cons, List.length_nil]
            simp (disch := first | assumption | omega | rfl | (simp only [sxP, Bool.and_self, length_cons, length_nil, length_take, length_drop, ↓reduceIte, reduceEqDiff]; first | done | omega) | exact Nat.le_of_ble_eq_true rfl | ((repeat (first | assumption | apply Byt.drop | apply Byt.take)); done) | fail) only [go_sem, ↓reduceIte, reduceEqDiff, reduceLeDiff, reduceLT, reduceAdd, reduceMul, reduceSub, reduceMod, reducePow, reduceDiv, reduceOr, reduceShiftLeft, Nat.reduceBEq, reduceGT, reduceSucc, drow, drow0, cellsD_mk, cellsL_pure, cellsD_pure]
      | none =>
        rw [hkd] at hx
        simp only [Option.some.injEq, Prod.mk.injEq] at hx
        obtain ⟨rfl, rfl⟩ := hx
        by_cases hk : kd = .ofNat 6
        · have hl := kidsOf_none hkd hk
          subst hk
          cases acc with
          | nil =>
            refine k.ev ?_
            simp (disch := first | assumption | omega | rfl | (simp only [sxP, Bool.and_self, length_cons, length_nil, length_take, length_drop, ↓reduceIte, reduceEqDiff]; first | done | omega) | exact Nat.le_of_ble_eq_true rfl | ((repeat (first | assumption | apply Byt.drop | apply Byt.take)); done) | fail) only [go_sem, ↓reduceIte, reduceEqDiff, reduceLeDiff, reduceLT, reduceAdd, reduceMul, reduceSub, reduceMod, reducePow, reduceDiv, reduceOr, reduceShiftLeft, Nat.reduceBEq, reduceGT, reduceSucc, accD, accDO, drow, drow0, cellsD_mk, cpair, f23, hl]
            refine ⟨_, rfl, ?_⟩
            simp only [Behind, InBlk, Cut, if_true, ↓reduceIte]
            refine k.gcs (keep := [0, 1]) (live := [3, 2, 1]) (md := true) ?_
            simp (disch := first | assumption | omega | rfl | (simp only [sxP, Bool.and_self, length_cons, length_nil, length_take, length_drop, ↓reduceIte, reduceEqDiff]; first | done | omega) | exact Nat.le_of_ble_eq_true rfl | ((repeat (first | assumption | apply Byt.drop | apply Byt.take)); done) | fail) only [go_sem, ↓reduceIte, reduceEqDiff, reduceLeDiff, reduceLT, reduceAdd, reduceMul, reduceSub, reduceMod, reducePow, reduceDiv, reduceOr, reduceShiftLeft, Nat.reduceBEq, reduceGT, reduceSucc, accD, accDO, drow, drow0, cellsD_mk]
          | cons a0 ar =>
            have hp1 := cellsL_pure (a0 :: ar)
            refine k.ev ?_
            simp (disch := first | assumption | omega | rfl | (simp only [sxP, Bool.and_self, length_cons, length_nil, length_take, length_drop, ↓reduceIte, reduceEqDiff]; first | done | omega) | exact Nat.le_of_ble_eq_true rfl | ((repeat (first | assumption | apply Byt.drop | apply Byt.take)); done) | fail) only [go_sem, ↓reduceIte, reduceEqDiff, reduceLeDiff, reduceLT, reduceAdd, reduceMul, reduceSub, reduceMod, reducePow, reduceDiv, reduceOr, reduceShiftLeft, Nat.reduceBEq, reduceGT, reduceSucc, accD, accDO, drow, drow0, cellsD_mk, cpair, f23, hl, hp1]
            refine ⟨_, rfl, ?_⟩
            simp only [Behind, InBlk, Cut, if_true, ↓reduceIte]
            refine k.gcs (keep := [0, 1, 2]) (live := [3, 2, 1]) (md := true) ?_
            simp (disch := first | assumption | omega | rfl | (simp only [sxP, Bool.and_self, length_cons, length_nil, length_take, length_drop, ↓reduceIte, reduceEqDiff]; first | done | omega) | exact Nat.le_of_ble_eq_true rfl | ((repeat (first | assumption | apply Byt.drop | apply Byt.take)); done) | fail) only [go_sem, ↓reduceIte, reduceEqDiff, reduceLeDiff, reduceLT, reduceAdd, reduceMul, reduceSub, reduceMod, reducePow, reduceDiv, reduceOr, reduceShiftLeft, Nat.reduceBEq, reduceGT, reduceSucc, accD, accDO, drow, drow0, cellsD_mk, hp1]
        · have hke : eqD kd (.ofNat 6) = false := eqD_ne hk
          cases acc with
          | nil =>
            refine k.ev ?_
            simp (disch := first | assumption | omega | rfl | (simp only [sxP, Bool.and_self, length_cons, length_nil, length_take, length_drop, ↓reduceIte, reduceEqDiff]; first | done | omega) | exact Nat.le_of_ble_eq_true rfl | ((repeat (first | assumption | apply Byt.drop | apply Byt.take)); done) | fail) only [go_sem, ↓reduceIte, reduceEqDiff, reduceLeDiff, reduceLT, reduceAdd, reduceMul, reduceSub, reduceMod, reducePow, reduceDiv, reduceOr, reduceShiftLeft, Nat.reduceBEq, reduceGT, reduceSucc, accD, accDO, drow, drow0, cellsD_mk, cpair, f23, hke]
            refine ⟨_, rfl, ?_⟩
            simp only [Behind, InBlk, Cut, if_true, ↓reduceIte]
            refine k.gcs (keep := [0, 1]) (live := [3, 2, 1]) (md := true) ?_
            simp (disch := first | assumption | omega | rfl | (simp only [sxP, Bool.and_self, length_cons, length_nil, length_take, length_drop, ↓reduceIte, reduceEqDiff]; first | done | omega) | exact Nat.le_of_ble_eq_true rfl | ((repeat (first | assumption | apply Byt.drop | apply Byt.take)); done) | fail) only [go_sem, ↓reduceIte, reduceEqDiff, reduceLeDiff, reduceLT, reduceAdd, reduceMul, reduceSub, reduceMod, reducePow, reduceDiv, reduceOr, reduceShiftLeft, Nat.reduceBEq, reduceGT, reduceSucc, accD, accDO, drow, drow0, cellsD_mk]
          | cons a0 ar =>
            have hp1 := cellsL_pure (a0 :: ar)
            refine k.ev ?_
            simp (disch := first | assumption | omega | rfl | (simp only [sxP, Bool.and_self, length_cons, length_nil, length_take, length_drop, ↓reduceIte, reduceEqDiff]; first | done | omega) | exact Nat.le_of_ble_eq_true rfl | ((repeat (first | assumption | apply Byt.drop | apply Byt.take)); done) | fail) only [go_sem, ↓reduceIte, reduceEqDiff, reduceLeDiff, reduceLT, reduceAdd, reduceMul, reduceSub, reduceMod, reducePow, reduceDiv, reduceOr, reduceShiftLeft, Nat.reduceBEq, reduceGT, reduceSucc, accD, accDO, drow, drow0, cellsD_mk, cpair, f23, hke, hp1]
            refine ⟨_, rfl, ?_⟩
            simp only [Behind, InBlk, Cut, if_true, ↓reduceIte]
            refine k.gcs (keep := [0, 1, 2]) (live := [3, 2, 1]) (md := true) ?_
            simp (disch := first | assumption | omega | rfl | (simp only [sxP, Bool.and_self, length_cons, length_nil, length_take, length_drop, ↓reduceIte, reduceEqDiff]; first | done | omega) | exact Nat.le_of_ble_eq_true rfl | ((repeat (first | assumption | apply Byt.drop | apply Byt.take)); done) | fail) only [go_sem, ↓reduceIte, reduceEqDiff, reduceLeDiff, reduceLT, reduceAdd, reduceMul, reduceSub, reduceMod, reducePow, reduceDiv, reduceOr, reduceShiftLeft, Nat.reduceBEq, reduceGT, reduceSucc, accD, accDO, drow, drow0, cellsD_mk, hp1]
  · obtain ⟨ek, en, et, eks, ep⟩ := e
    cases l with
    | nil =>
      refine tri_seq (k.ev ?_)
      simp (disch := first | assumption | omega | rfl | (simp only [sxP, Bool.and_self, length_cons, length_nil, length_take, length_drop, ↓reduceIte, reduceEqDiff]; first | done | omega) | exact Nat.le_of_ble_eq_true rfl | ((repeat (first | assumption | apply Byt.drop | apply Byt.take)); done) | fail) only [go_sem, ↓reduceIte, reduceEqDiff, reduceLeDiff, reduceLT, reduceAdd, reduceMul, reduceSub, reduceMod, reducePow, reduceDiv, reduceOr, reduceShiftLeft, Nat.reduceBEq, reduceGT, reduceSucc, accD, accDO, drow, drow0, cellsD_mk]
      refine ⟨_, rfl, ?_⟩
      simp only [Behind, InBlk, Cut, if_true, ↓reduceIte]
      refine k.ev ?_
      simp (disch := first | assumption | omega | rfl | (simp only [sxP, Bool.and_self, length_cons, length_nil, length_take, length_drop, ↓reduceIte, reduceEqDiff]; first | done | omega) | exact Nat.le_of_ble_eq_true rfl | ((repeat (first | assumption | apply Byt.drop | apply Byt.take)); done) | fail) only [go_sem, ↓reduceIte, reduceEqDiff, reduceLeDiff, reduceLT, reduceAdd, reduceMul, reduceSub, reduceMod, reducePow, reduceDiv, reduceOr, reduceShiftLeft, Nat.reduceBEq, reduceGT, reduceSucc]
      refine ⟨_, rfl, ?_⟩
      simp only [Behind, InBlk, Cut, if_true, ↓reduceIte]
      apply fin_of (Or.inr rfl)
      iterate 5 (simp (disch := first | assumption | omega | rfl | (simp only [sxP, Bool.and_self, length_cons, length_nil, length_take, length_drop, ↓reduceIte, reduceEqDiff]; first | done | omega) | exact Nat.le_of_ble_eq_true rfl | ((repeat (first | assumption | apply Byt.drop | apply Byt.take)); done) | fail) only [go_sem, ↓reduceIte, reduceEqDiff, reduceLeDiff, reduceLT, reduceAdd, reduceMul, reduceSub, reduceMod, reducePow, reduceDiv, reduceOr, reduceShiftLeft, Nat.reduceBEq, reduceGT, reduceSucc, cellsL_nil, cellsL_wk, encD, cellsD_mk] <;> exact rfl)
    | cons a0 ar =>
      have hp1 := cellsL_pure (a0 :: ar)
      refine tri_seq (k.ev ?_)
      simp (disch := first | assumption | omega | rfl | (simp only [sxP, Bool.and_self, length_cons, length_nil, length_take, length_drop, ↓reduceIte, reduceEqDiff]; first | done | omega) | exact Nat.le_of_ble_eq_true rfl | ((repeat (first | assumption | apply Byt.drop | apply Byt.take)); done) | fail) only [go_sem, ↓reduceIte, reduceEqDiff, reduceLeDiff, reduceLT, reduceAdd, reduceMul, reduceSub, reduceMod, reducePow, reduceDiv, reduceOr, reduceShiftLeft, Nat.reduceBEq, reduceGT, reduceSucc, accD, accDO, drow, drow0, cellsD_mk]
      refine ⟨_, rfl, ?_⟩
      simp only [Behind, InBlk, Cut, if_true, ↓reduceIte]
      refine k.ev ?_
      simp (disch := first | assumption | omega | rfl | (simp only [sxP, Bool.and_self, length_cons, length_nil, length_take, length_drop, ↓reduceIte, reduceEqDiff]; first | done | omega) | exact Nat.le_of_ble_eq_true rfl | ((repeat (first | assumption | apply Byt.drop | apply Byt.take)); done) | fail) only [go_sem, ↓reduceIte, reduceEqDiff, reduceLeDiff, reduceLT, reduceAdd, reduceMul, reduceSub, reduceMod, reducePow, reduceDiv, reduceOr, reduceShiftLeft, Nat.reduceBEq, reduceGT, reduceSucc]
      refine ⟨_, rfl, ?_⟩
      simp only [Behind, InBlk, Cut, if_true, ↓reduceIte]
      apply fin_of (Or.inr rfl)
      iterate 5 (simp (disch := first | assumption | omega | rfl | (simp only [sxP, Bool.and_self, length_cons, length_nil, length_take, length_drop, ↓reduceIte, reduceEqDiff]; first | done | omega) | exact Nat.le_of_ble_eq_true rfl | ((repeat (first | assumption | apply Byt.drop | apply Byt.take)); done) | fail) only [go_sem, ↓reduceIte, reduceEqDiff, reduceLeDiff, reduceLT, reduceAdd, reduceMul, reduceSub, reduceMod, reducePow, reduceDiv, reduceOr, reduceShiftLeft, Nat.reduceBEq, reduceGT, reduceSucc, cellsL_nil, cellsL_wk, encD, cellsD_mk] <;> exact rfl)
open Nat (reduceEqDiff reduceLeDiff reduceLT reduceAdd reduceMul reduceSub reduceMod reducePow reduceDiv reduceOr reduceShiftLeft reduceGT reduceSucc)
open List (length_cons length_nil length_take length_drop)
open T
set_option maxRecDepth 100000
inductive Plain : DT → Prop
  | atom (k n : Int) (t : List Nat) (p : Int) : Plain (.mk k n t [] p)
  | pair (n : Int) (t : List Nat) (p : Int) (x y : DT) : Plain x → Plain y → Plain (.mk (.ofNat 6) n t [x, y] p)
def Gcx {α : Type} (C : Cx) (I : α → Prop) (fr1 : α → Fr) (s1 : α → St) (Q : Res → Fr → St → Prop) : Res → Fr → St → Prop
  | .norm, f, t => ∃ y, I y ∧ Gc C f t (fr1 y) (s1 y)
  | r, f, t => Q r f t
theorem tri_cutX {α : Type} {C : Cx} {ia ib : ICode} {fr : Fr} {s : St} {Q : Res → Fr → St → Prop} (I : α → Prop) (fr1 : α → Fr) (s1 : α → St) (h1 : Tri C ia fr s (Gcx C I fr1 s1 Q)) (h2 : ∀ y, I y → Tri C ib (fr1 y) (s1 y) Q) : Tri C (.seq ia ib) fr s Q :=
  tri_seq (h1.mono fun r f t => by
    cases r with
    | norm => exact fun ⟨y, h, g⟩ => tri_gc g (h2 y h)
    | exit i => exact fun h => h
    | ret => exact fun h => h)
def encSm (d : DT) : List AV := [encD d, encD d]
theorem encSm_inj : ∀ x y, encSm x = encSm y → x = y := fun d e h => by
  simp only [encSm, List.cons.injEq] at h
  exact encD_inj h.1
noncomputable def gSame (n : Nat) : List AV → St → Option (AV × St) := orc0 encSm (fun d => Plain d ∧ SizeOf.sizeOf d < n) (fun _ => .bool true)
theorem encSm_wk (d : DT) : wkL (encSm d) = encSm d := by simp only [encSm, wkL, encD_wk]
theorem same_call {O : Orc} {n : Nat} (h : O 13 = some (gSame n)) {d : DT} (hp : Plain d) (hn : SizeOf.sizeOf d < n) (s : St) : (evW env O).call 13 [.agg (cellsD d), .agg (cellsD d)] s = some (.bool true, s) := by
  rw [call_known h]; exact orc0_eq encSm_inj s d ⟨hp, hn⟩ (encSm_wk d)
theorem same_known {P : Program} {w0 : World} {O : Orc} (hO : OrcOk P w0 O) (n : Nat) (h : ∀ d, Plain d → SizeOf.sizeOf d < n → SC P w0 13 [encD d, encD d] (H [] 0 true) (.bool true) (H [] 0 true)) : OrcOk P w0 (withG 13 (gSame n) O) :=
  hO.withG orc0_ext (known0 true (fun x => by simp only [encSm, pureL_cons, encD_pure, pureL_nil, Bool.and_self]) (fun _ => rfl) fun x hx => ⟨_, h x hx.1 hx.2⟩)
def eqfL : List AV := [.lst 0 false [], .lst 0 false [], .fn 13 [] []]
noncomputable def gEqf : List AV → St → Option (AV × St) := orc0 (fun _ : Unit => eqfL) (fun _ => True) (fun _ => .bool true)
theorem eqf_ev : okV (.bool true) ((evT env noO 1000).call 31 [.lst 0 false [], .lst 0 false [], .fn 13 [] []] s0) = true := by decide +kernel
theorem same_sc {P : Program} {w0 : World} (B : Bx P w0) {O : Orc} (hO : OrcOk P w0 O) (o23 : O 23 = none) (h31 : O 31 = some gEqf) {N : Nat} (h13 : O 13 = some (gSame N)) (d0 : DT) (hp0 : Plain d0) (hN : SizeOf.sizeOf d0 < N + 1) :
    SC P w0 13 [encD d0, encD d0] (H [] 0 true) (.bool true) (H [] 0 true) := by
  refine Is.sc hO B.mixed B.glob B.env 0 (show env.funs.get 13 = some f13 from rfl) (Nat.le_of_ble_eq_true rfl) mask0 fun C k => ?_
  have cpair := @call_in env O _ _ o23 (show env.funs.get 23 = some f23 from rfl) rfl
  have ceq : ∀ s, (evW env O).call 31 [.lst 0 false [], .lst 0 false [], .fn 13 [] []] s = some (.bool true, s) := fun s => by rw [call_known h31, gEqf, orc0_eq (fun _ _ _ => rfl) s () trivial rfl]
  unfold f13
  simp only
  refine tri_seq (k.ev ?_)
  simp (disch := first | assumption | omega | rfl | (simp only [sxP, Bool.and_self, length_cons, length_nil, length_take, length_drop, ↓reduceIte, reduceEqDiff]; first | done | omega) | exact Nat.le_of_ble_eq_true rfl | ((repeat (first | assumption | apply Byt.drop | apply Byt.take)); done) | fail) only [go_sem, ↓reduceIte, reduceEqDiff, reduceLeDiff, reduceLT, reduceAdd, reduceMul, reduceSub, reduceMod, reducePow, reduceDiv, reduceOr, reduceShiftLeft, Nat.reduceBEq, reduceGT, reduceSucc, encD]
  refine ⟨_, rfl, ?_⟩
  simp only [Behind, InBlk, Cut, if_true, ↓reduceIte]
  refine tri_cutX (fun d => ∃ k n t p, d = DT.mk k n t [] p) (fun _ => ⟨tmL [(4, .bool false), (3, .ptr 1 0), (2, .ptr 0 0)], []⟩) (fun d => H [some (drow d), some (drow d)] 0 true) (tri_block (tri_loop (k.gcL [0, 1] [4, 3, 2] true (fr1 := ⟨tmL [(4, .bool false), (3, .ptr 1 0), (2, .ptr 0 0)], []⟩) (s1 := H [some (drow d0), some (drow d0)] 0 true) (by simp (disch := first | assumption | omega | rfl | (simp only [sxP, Bool.and_self, length_cons, length_nil, length_take, length_drop, ↓reduceIte, reduceEqDiff]; first | done | omega) | exact Nat.le_of_ble_eq_true rfl | ((repeat (first | assumption | apply Byt.drop | apply Byt.take)); done) | fail) only [go_sem, ↓reduceIte, reduceEqDiff, reduceLeDiff, reduceLT, reduceAdd, reduceMul, reduceSub, reduceMod, reducePow, reduceDiv, reduceOr, reduceShiftLeft, Nat.reduceBEq, reduceGT, reduceSucc, drow, cellsD_pure]) ?_))) ?_
  · refine triL_ind (fun x : DT => SizeOf.sizeOf x) (fun x => ⟨tmL [(4, .bool false), (3, .ptr 1 0), (2, .ptr 0 0)], []⟩) (fun x => H [some (drow x), some (drow x)] 0 true) (fun x => Plain x ∧ SizeOf.sizeOf x < N + 1) (fun x hx => ?_) d0 ⟨hp0, hN⟩
    obtain ⟨hp, hs⟩ := hx
    cases hp with
    | atom kd n t p =>
      by_cases hk : kd = .ofNat 6
      · subst hk
        refine k.ev ?_
        simp (disch := first | assumption | omega | rfl | (simp only [sxP, Bool.and_self, length_cons, length_nil, length_take, length_drop, ↓reduceIte, reduceEqDiff]; first | done | omega) | exact Nat.le_of_ble_eq_true rfl | ((repeat (first | assumption | apply Byt.drop | apply Byt.take)); done) | fail) only [go_sem, ↓reduceIte, reduceEqDiff, reduceLeDiff, reduceLT, reduceAdd, reduceMul, reduceSub, reduceMod, reducePow, reduceDiv, reduceOr, reduceShiftLeft, Nat.reduceBEq, reduceGT, reduceSucc, drow, cellsD_mk, cellsL_nil, cpair, f23]
        refine ⟨_, rfl, ?_⟩
        simp only [Behind, InBlk, Cut, if_true, ↓reduceIte]
        simp only [Gcx]
        refine ⟨.mk (.ofNat 6) n t [] p, ⟨_, _, _, _, rfl⟩, ?_⟩
        refine k.gcs (keep := [0, 1]) (live := [4, 3, 2]) (md := true) ?_
        simp (disch := first | assumption | omega | rfl | (simp only [sxP, Bool.and_self, length_cons, length_nil, length_take, length_drop, ↓reduceIte, reduceEqDiff]; first | done | omega) | exact Nat.le_of_ble_eq_true rfl | ((repeat (first | assumption | apply Byt.drop | apply Byt.take)); done) | fail) only [go_sem, ↓reduceIte, reduceEqDiff, reduceLeDiff, reduceLT, reduceAdd, reduceMul, reduceSub, reduceMod, reducePow, reduceDiv, reduceOr, reduceShiftLeft, Nat.reduceBEq, reduceGT, reduceSucc, drow, cellsD_mk, cellsL_nil]
      · have hke : eqD kd (.ofNat 6) = false := eqD_ne hk
        refine k.ev ?_
        simp (disch := first | assumption | omega | rfl | (simp only [sxP, Bool.and_self, length_cons, length_nil, length_take, length_drop, ↓reduceIte, reduceEqDiff]; first | done | omega) | exact Nat.le_of_ble_eq_true rfl | ((repeat (first | assumption | apply Byt.drop | apply Byt.take)); done) | fail) only [go_sem, ↓reduceIte, reduceEqDiff, reduceLeDiff, reduceLT, reduceAdd, reduceMul, reduceSub, reduceMod, reducePow, reduceDiv, reduceOr, reduceShiftLeft, Nat.reduceBEq, reduceGT, reduceSucc, drow, cellsD_mk, cellsL_nil, cpair, f23, hke]
        refine ⟨_, rfl, ?_⟩
        simp only [Behind, InBlk, Cut, if_true, ↓reduceIte]
        simp only [Gcx]
        refine ⟨.mk kd n t [] p, ⟨_, _, _, _, rfl⟩, ?_⟩
        refine k.gcs (keep := [0, 1]) (live := [4, 3, 2]) (md := true) ?_
        simp (disch := first | assumption | omega | rfl | (simp only [sxP, Bool.and_self, length_cons, length_nil, length_take, length_drop, ↓reduceIte, reduceEqDiff]; first | done | omega) | exact Nat.le_of_ble_eq_true rfl | ((repeat (first | assumption | apply Byt.drop | apply Byt.take)); done) | fail) only [go_sem, ↓reduceIte, reduceEqDiff, reduceLeDiff, reduceLT, reduceAdd, reduceMul, reduceSub, reduceMod, reducePow, reduceDiv, reduceOr, reduceShiftLeft, Nat.reduceBEq, reduceGT, reduceSucc, drow, cellsD_mk, cellsL_nil]
    | pair n t p x y hx hy =>
      have s1 : SizeOf.sizeOf x < N := by simp only [DT.mk.sizeOf_spec, List.cons.sizeOf_spec, List.nil.sizeOf_spec] at hs; omega
      have s2 : SizeOf.sizeOf y < SizeOf.sizeOf (DT.mk (.ofNat 6) n t [x, y] p) := by simp only [DT.mk.sizeOf_spec, List.cons.sizeOf_spec, List.nil.sizeOf_spec]; omega
      have hsame := same_call h13 hx s1
      obtain ⟨xk, xn, xt, xks, xp⟩ := x
      obtain ⟨yk, yn, yt, yks, yp⟩ := y
      simp only [cellsD_mk] at hsame
      refine k.ev ?_
      simp (disch := first | assumption | omega | rfl | (simp only [sxP, Bool.and_self, length_cons, length_nil, length_take, length_drop, ↓reduceIte, reduceEqDiff]; first | done | omega) | exact Nat.le_of_ble_eq_true rfl | ((repeat (first | assumption | apply Byt.drop | apply Byt.take)); done) | fail) only [go_sem, ↓reduceIte, reduceEqDiff, reduceLeDiff, reduceLT, reduceAdd, reduceMul, reduceSub, reduceMod, reducePow, reduceDiv, reduceOr, reduceShiftLeft, Nat.reduceBEq, reduceGT, reduceSucc, drow, cellsD_mk, cellsL_two, cpair, f23, takeN_cells, takeN_cells1, hsame]
      refine ⟨_, rfl, ?_⟩
      simp only [Behind, InBlk, Cut, if_true, ↓reduceIte]
      refine ⟨.mk yk yn yt yks yp, ⟨hy, by omega⟩, s2, ?_⟩
      refine k.gcs (keep := [0, 1]) (live := [4, 3, 2]) (md := true) ?_
      simp (disch := first | assumption | omega | rfl | (simp only [sxP, Bool.and_self, length_cons, length_nil, length_take, length_drop, ↓reduceIte, reduceEqDiff]; first | done | omega) | exact Nat.le_of_ble_eq_true rfl | ((repeat (first | assumption | apply Byt.drop | apply Byt.take)); done) | fail) only [go_sem, ↓reduceIte, reduceEqDiff, reduceLeDiff, reduceLT, reduceAdd, reduceMul, reduceSub, reduceMod, reducePow, reduceDiv, reduceOr, reduceShiftLeft, Nat.reduceBEq, reduceGT, reduceSucc, drow, cellsD_mk]
  · rintro d ⟨kd, n, t, p, rfl⟩
    refine tri_seq (k.ev ?_)
    simp (disch := first | assumption | omega | rfl | (simp only [sxP, Bool.and_self, length_cons, length_nil, length_take, length_drop, ↓reduceIte, reduceEqDiff]; first | done | omega) | exact Nat.le_of_ble_eq_true rfl | ((repeat (first | assumption | apply Byt.drop | apply Byt.take)); done) | fail) only [go_sem, ↓reduceIte, reduceEqDiff, reduceLeDiff, reduceLT, reduceAdd, reduceMul, reduceSub, reduceMod, reducePow, reduceDiv, reduceOr, reduceShiftLeft, Nat.reduceBEq, reduceGT, reduceSucc, drow, cellsD_mk, cellsL_nil, ceq, eqD_eq]
    refine ⟨_, rfl, ?_⟩
    simp only [Behind, InBlk, Cut, if_true, ↓reduceIte]
    refine k.ev ?_
    simp (disch := first | assumption | omega | rfl | (simp only [sxP, Bool.and_self, length_cons, length_nil, length_take, length_drop, ↓reduceIte, reduceEqDiff]; first | done | omega) | exact Nat.le_of_ble_eq_true rfl | ((repeat (first | assumption | apply Byt.drop | apply Byt.take)); done) | fail) only [go_sem, ↓reduceIte, reduceEqDiff, reduceLeDiff, reduceLT, reduceAdd, reduceMul, reduceSub, reduceMod, reducePow, reduceDiv, reduceOr, reduceShiftLeft, Nat.reduceBEq, reduceGT, reduceSucc]
    refine ⟨_, rfl, ?_⟩
    simp only [Behind, InBlk, Cut, if_true, ↓reduceIte]
    apply fin_of (Or.inr rfl)
    iterate 5 (simp (disch := first | assumption | omega | rfl | (simp only [sxP, Bool.and_self, length_cons, length_nil, length_take, length_drop, ↓reduceIte, reduceEqDiff]; first | done | omega) | exact Nat.le_of_ble_eq_true rfl | ((repeat (first | assumption | apply Byt.drop | apply Byt.take)); done) | fail) only [go_sem, ↓reduceIte, reduceEqDiff, reduceLeDiff, reduceLT, reduceAdd, reduceMul, reduceSub, reduceMod, reducePow, reduceDiv, reduceOr, reduceShiftLeft, Nat.reduceBEq, reduceGT, reduceSucc] <;> exact rfl)
theorem same_all {P : Program} {w0 : World} (B : Bx P w0) : ∀ (n : Nat) (d : DT), Plain d → SizeOf.sizeOf d < n → SC P w0 13 [encD d, encD d] (H [] 0 true) (.bool true) (H [] 0 true) := by
  intro n
  induction n with
  | zero => intro d _ h; omega
  | succ n ih =>
    intro d hp hn
    have hE : OrcOk P w0 (withG 31 gEqf noO) := (noO_ok P w0).withG orc0_ext (known0 false (fun _ => rfl) (fun _ => rfl) fun _ _ => sc_ev (noO_ok P w0) B.mixed B.glob B.env eqf_ev)
    exact same_sc B (same_known hE n ih) rfl rfl rfl d hp hn
open Nat (reduceEqDiff reduceLeDiff reduceLT reduceAdd reduceMul reduceSub reduceMod reducePow reduceDiv reduceOr reduceShiftLeft reduceGT reduceSucc)
open List (length_cons length_nil length_take length_drop)
open T
set_option maxRecDepth 100000
theorem bytesV_one (c : Nat) : bytesV [c] = [.int .u8 (.ofNat c)] := rfl
theorem oBslF (l : List (Nat × Option AObj)) (n m e len : Nat) (hd : List (Nat × Nat)) (on : Option (Nat × List Nat)) (cs : List AV) : oBsl (KL l n m false hd on) e len (some cs) = some (.sl n 0 len (.fix len), KL ((n, some (.row e cs false false)) :: l) (n + 1) m false hd on) := rfl
theorem srcCells_row {l : List (Nat × Option AObj)} {n m id t : Nat} {b x fz : Bool} {new : List Nat} {c : Cap} (hg : getA l id = some (.row t (bytesV new) x fz)) : srcCells (KL l n m b [] none) 1 new.length (.sl id 0 new.length c) = some (bytesV new) := by
  simp only [srcCells, KL_get0, hg]; exact cut_bytes new
theorem wb_call {O : Orc} (o41 : O 41 = none) (o72 : O 72 = none) (l : List (Nat × Option AObj)) (n m id j : Nat) (b : Bool) (out : List Nat) (disp : Bool) (c : Nat) (hc : c < 256) (ho : out.length < 1000000) (ne : id ≠ j) (hi : id < n) (hj : j < n)
    (hw : getA l id = some (.row 54 [.ptr id 0, .sl j 0 out.length (.opn 1), .bool disp] false false)) (hb : getA l j = some (.row 5 (bytesV out) true false)) :
    (evW env O).call 41 [.ptr id 0, .int .u8 (.ofNat c)] (KL l n m b [] none) = some (.nili, KL ((id, some (.row 54 [.ptr id 0, .sl (n + 1) 0 (out ++ [c]).length (.opn 1), .bool disp] false false)) :: (n + 1, some (.row 5 (bytesV (out ++ [c])) true false)) :: (j, none) :: (n, some (.row 5 (bytesV [c]) false false)) :: l) (n + 2) (mark (mark m j) id) b [] none) := by
  have c41 := @call_inw env O _ _ o41 (show env.funs.get 41 = some f41 from rfl) rfl
  have c72 := @call_in env O _ _ o72 (show env.funs.get 72 = some f72 from rfl) rfl
  have ne' : ¬ j = id := fun e => ne e.symm
  have n1 : ¬ id = n := by omega
  have n2 : ¬ j = n := by omega
  have n3 : ¬ id = n + 1 := by omega
  have ap := @app_opn ((n, some (.row 5 (bytesV [c]) false false)) :: l) (n + 1) m 5 j false (.sl n 0 1 (.fix 1)) out [c] (by rw [getA_cons, if_neg n2]; exact hb) rfl (by simp) (srcCells_row (by rw [getA_cons, if_pos rfl])) (by simp; omega)
  simp only [bytesV_one] at ap ⊢
  simp (disch := first | assumption | omega | rfl | (simp only [sxP, Bool.and_self, length_cons, length_nil, length_take, length_drop, ↓reduceIte, reduceEqDiff]; first | done | omega) | exact Nat.le_of_ble_eq_true rfl | ((repeat (first | assumption | apply Byt.drop | apply Byt.take)); done) | fail) only [go_sem, ↓reduceIte, reduceEqDiff, reduceLeDiff, reduceLT, reduceAdd, reduceMul, reduceSub, reduceMod, reducePow, reduceDiv, reduceOr, reduceShiftLeft, Nat.reduceBEq, reduceGT, reduceSucc, c41, f41, c72, f72, hw, hb, ne, ne', n1, n2, n3, eqk_pn, eqk_pp, ap, Nat.zero_mod, decide_true, oBslF]
theorem takeS_all : ∀ s : List Nat, takeS s.length s = s
  | [] => rfl
  | x :: r => by simp only [List.length_cons, takeS, takeS_all r]
theorem srcCells_str (s : St) (t : List Nat) : srcCells s 1 t.length (.str t) = some (bytesV t) := by
  simp only [srcCells, beq_iff.2 (rfl : (1 : Nat) = 1), cond_true, takeS_all]
theorem ws_call {O : Orc} (o36 : O 36 = none) (o72 : O 72 = none) (l : List (Nat × Option AObj)) (n m id j : Nat) (b : Bool) (out : List Nat) (disp : Bool) (s : List Nat) (hs : s ≠ []) (ho : out.length < 1000000) (hsl : s.length < 1000000) (ne : id ≠ j) (hi : id < n) (hj : j < n)
    (hw : getA l id = some (.row 54 [.ptr id 0, .sl j 0 out.length (.opn 1), .bool disp] false false)) (hb : getA l j = some (.row 5 (bytesV out) true false)) :
    (evW env O).call 36 [.ptr id 0, .str s] (KL l n m b [] none) = some (.tup [.int .i64 (.ofNat s.length), .nili], KL ((id, some (.row 54 [.ptr id 0, .sl n 0 (out ++ s).length (.opn 1), .bool disp] false false)) :: (n, some (.row 5 (bytesV (out ++ s)) true false)) :: (j, none) :: l) (n + 1) (mark (mark m j) id) b [] none) := by
  have c36 := @call_inw env O _ _ o36 (show env.funs.get 36 = some f36 from rfl) rfl
  have c72 := @call_in env O _ _ o72 (show env.funs.get 72 = some f72 from rfl) rfl
  have ne' : ¬ j = id := fun e => ne e.symm
  have n1 : ¬ id = n := by omega
  have n2 : ¬ j = n := by omega
  have ap := @app_opn l n m 5 j false (.str s) out s hb (srcLen_str s) hs (srcCells_str _ s) (by simp; omega)
  simp (disch := first | assumption | omega | rfl | (simp only [sxP, Bool.and_self, length_cons, length_nil, length_take, length_drop, ↓reduceIte, reduceEqDiff]; first | done | omega) | exact Nat.le_of_ble_eq_true rfl | ((repeat (first | assumption | apply Byt.drop | apply Byt.take)); done) | fail) only [go_sem, ↓reduceIte, reduceEqDiff, reduceLeDiff, reduceLT, reduceAdd, reduceMul, reduceSub, reduceMod, reducePow, reduceDiv, reduceOr, reduceShiftLeft, Nat.reduceBEq, reduceGT, reduceSucc, c36, f36, c72, f72, hw, hb, ne, ne', n1, n2, eqk_pn, eqk_pp, ap, Nat.zero_mod, decide_true, oBslF]
theorem vCup_w {l : List (Nat × Option AObj)} {n m id t : Nat} {b x fz : Bool} {c0 : AV} {cs : List AV} (hg : getA l id = some (.row t (c0 :: cs) x fz)) : vCup (KL l n m b [] none) (.ptr id 0) = some (.ptr id 0) := by
  simp only [vCup, KL_get0, hg, lenN_eq]; rfl
theorem vCpu_w {l : List (Nat × Option AObj)} {n m id : Nat} {b fz : Bool} {c0 c1 c2 : AV} (hg : getA l id = some (.row 54 [c0, c1, c2] false fz)) : vCpu (KL l n m b [] none) [(51, 2), (52, 2), (53, 3), (54, 3)] (.ptr id 0) = some (.ptr id 0) := by
  simp only [vCpu, KL_get0, hg, lenN_eq]; rfl
theorem wb_first {O : Orc} (o41 : O 41 = none) (o72 : O 72 = none) (l : List (Nat × Option AObj)) (n m id : Nat) (b : Bool) (disp : Bool) (c : Nat) (hc : c < 256) (hi : id < n)
    (hw : getA l id = some (.row 54 [.nilp, .nils, .bool disp] false false)) :
    (evW env O).call 41 [.ptr id 0, .int .u8 (.ofNat c)] (KL l n m b [] none) = some (.nili, KL ((id, some (.row 54 [.ptr id 0, .sl (n + 1) 0 1 (.opn 1), .bool disp] false false)) :: (n + 1, some (.row 5 (bytesV [c]) true false)) :: (n, some (.row 5 (bytesV [c]) false false)) :: (id, some (.row 54 [.ptr id 0, .nils, .bool disp] false false)) :: l) (n + 2) (mark (mark m id) id) b [] none) := by
  have c41 := @call_inw env O _ _ o41 (show env.funs.get 41 = some f41 from rfl) rfl
  have c72 := @call_in env O _ _ o72 (show env.funs.get 72 = some f72 from rfl) rfl
  have n1 : ¬ id = n := by omega
  have n3 : ¬ id = n + 1 := by omega
  have hm : ¬ (1 <<< id) % 2 ^ n = 0 := by
    rw [Nat.shiftLeft_eq, Nat.one_mul, Nat.mod_eq_of_lt (Nat.pow_lt_pow_right (by omega) hi)]
    exact Nat.ne_of_gt (Nat.two_pow_pos id)
  have q1 := fun m b => @vCup_w l n m id _ b _ _ _ _ hw
  have q2 := fun m b => @vCpu_w l n m id b _ _ _ _ hw
  have ap := @app_nil ((n, some (.row 5 (bytesV [c]) false false)) :: (id, some (.row 54 [.ptr id 0, .nils, .bool disp] false false)) :: l) (n + 1) (m ||| 1 <<< id) 5 (.sl n 0 1 (.fix 1)) [c] rfl (by simp) (srcCells_row (by rw [getA_cons, if_pos rfl])) (by simp)
  simp only [bytesV_one, List.length_cons, List.length_nil, Nat.zero_add] at ap
  simp (disch := first | assumption | omega | rfl | (simp only [sxP, Bool.and_self, length_cons, length_nil, length_take, length_drop, ↓reduceIte, reduceEqDiff]; first | done | omega) | exact Nat.le_of_ble_eq_true rfl | ((repeat (first | assumption | apply Byt.drop | apply Byt.take)); done) | fail) only [go_sem, ↓reduceIte, reduceEqDiff, reduceLeDiff, reduceLT, reduceAdd, reduceMul, reduceSub, reduceMod, reducePow, reduceDiv, reduceOr, reduceShiftLeft, Nat.reduceBEq, reduceGT, reduceSucc, c41, f41, c72, f72, hw, n1, n3, eqk_nn, eqk_pp, Nat.zero_mod, decide_true, oBslF, q1, q2, ap, Nat.zero_or, hm]
theorem ws_first {O : Orc} (o36 : O 36 = none) (o72 : O 72 = none) (l : List (Nat × Option AObj)) (n m id : Nat) (b : Bool) (disp : Bool) (s : List Nat) (hs : s ≠ []) (hsl : s.length < 1000000) (hi : id < n)
    (hw : getA l id = some (.row 54 [.nilp, .nils, .bool disp] false false)) :
    (evW env O).call 36 [.ptr id 0, .str s] (KL l n m b [] none) = some (.tup [.int .i64 (.ofNat s.length), .nili], KL ((id, some (.row 54 [.ptr id 0, .sl n 0 s.length (.opn 1), .bool disp] false false)) :: (n, some (.row 5 (bytesV s) true false)) :: (id, some (.row 54 [.ptr id 0, .nils, .bool disp] false false)) :: l) (n + 1) (mark (mark m id) id) b [] none) := by
  have c36 := @call_inw env O _ _ o36 (show env.funs.get 36 = some f36 from rfl) rfl
  have c72 := @call_in env O _ _ o72 (show env.funs.get 72 = some f72 from rfl) rfl
  have n1 : ¬ id = n := by omega
  have hm : ¬ (1 <<< id) % 2 ^ n = 0 := by
    rw [Nat.shiftLeft_eq, Nat.one_mul, Nat.mod_eq_of_lt (Nat.pow_lt_pow_right (by omega) hi)]
    exact Nat.ne_of_gt (Nat.two_pow_pos id)
  have q1 := fun m b => @vCup_w l n m id _ b _ _ _ _ hw
  have q2 := fun m b => @vCpu_w l n m id b _ _ _ _ hw
  have ap := @app_nil ((id, some (.row 54 [.ptr id 0, .nils, .bool disp] false false)) :: l) n (m ||| 1 <<< id) 5 (.str s) s (srcLen_str s) hs (srcCells_str _ s) (by omega)
  simp (disch := first | assumption | omega | rfl | (simp only [sxP, Bool.and_self, length_cons, length_nil, length_take, length_drop, ↓reduceIte, reduceEqDiff]; first | done | omega) | exact Nat.le_of_ble_eq_true rfl | ((repeat (first | assumption | apply Byt.drop | apply Byt.take)); done) | fail) only [go_sem, ↓reduceIte, reduceEqDiff, reduceLeDiff, reduceLT, reduceAdd, reduceMul, reduceSub, reduceMod, reducePow, reduceDiv, reduceOr, reduceShiftLeft, Nat.reduceBEq, reduceGT, reduceSucc, c36, f36, c72, f72, hw, n1, eqk_nn, eqk_pp, Nat.zero_mod, decide_true, oBslF, q1, q2, ap, Nat.zero_or, hm]
open Nat (reduceEqDiff reduceLeDiff reduceLT reduceAdd reduceMul reduceSub reduceMod reducePow reduceDiv reduceOr reduceShiftLeft reduceGT reduceSucc)
open List (length_cons length_nil length_take length_drop)
open T
set_option maxRecDepth 100000
def restF (tx : DT → Option (List Nat)) : List DT → Option (List Nat)
  | [] => some []
  | d :: r => match tx d with
    | none => none
    | some a => match restF tx r with
      | none => none
      | some b => some (32 :: a ++ b)
def allF (tx : DT → Option (List Nat)) : List DT → Option (List Nat)
  | [] => none
  | d :: r => match tx d with
    | none => none
    | some a => match restF tx r with
      | none => none
      | some b => some (a ++ b)
def kindD : DT → Int | .mk k _ _ _ _ => k
def textD : DT → List Nat | .mk _ _ t _ _ => t
def wrapF (e : DT) (s : Option (List Nat)) : Option (List Nat) := if kindD e = .ofNat 0 then match s with
    | some s => some (40 :: (s ++ [41]))
    | none => none
  else none
def textF : Nat → DT → Option (List Nat)
  | 0, _ => none
  | n + 1, d =>
    if kindD d = .ofNat 0 then some [40, 41]
    else if kindD d = .ofNat 2 then (if textD d = [] then none else some (textD d))
    else if kindD d = .ofNat 6 then match itemsOf 1000000 [] d with
      | some (l, e) => wrapF e (allF (textF n) l)
      | none => none
    else none
def encWd (d : DT) : List AV := [encD d]
def PreWd (n : Nat) (d : DT) (out : List Nat) (_ : Bool) : Prop := ∃ t, textF n d = some t ∧ out.length + t.length < 1000000
def FWd (n : Nat) (d : DT) (_ : Bool) : List Nat := (textF n d).getD []
noncomputable def gWd (n : Nat) : List AV → St → Option (AV × St) := orcW 54 5 encWd (PreWd n) (FWd n)
def encWa (l : List DT) : List AV := [.lst l.length false (cellsL l)]
def PreWa (n : Nat) (l : List DT) (out : List Nat) (_ : Bool) : Prop := l.length < 1000000 ∧ ∃ t, allF (textF n) l = some t ∧ out.length + t.length < 1000000
def FWa (n : Nat) (l : List DT) (_ : Bool) : List Nat := (allF (textF n) l).getD []
noncomputable def gWa (n : Nat) : List AV → St → Option (AV × St) := orcW 54 5 encWa (PreWa n) (FWa n)
theorem encWd_inj : ∀ x y, encWd x = encWd y → x = y := fun d e h => by
  simp only [encWd, List.cons.injEq, and_true] at h; exact encD_inj h
theorem encWa_inj : ∀ x y, encWa x = encWa y → x = y := fun d e h => by
  simp only [encWa, List.cons.injEq, AV.lst.injEq, and_true, true_and] at h; exact cellsL_inj h.2
theorem wd_call {O : Orc} {n : Nat} (h : O 20 = some (gWd n)) {d : DT} {t : List Nat} (ht : textF n d = some t) (out : List Nat) (disp : Bool) (hb : out.length + t.length < 1000000) (l : List (Nat × Option AObj)) (nx m : Nat) (md : Bool) (id j : Nat) (ne : id ≠ j) (hi : id < nx) (hj : j < nx)
    (hw : getA l id = some (.row 54 [.ptr id 0, .sl j 0 out.length (.opn 1), .bool disp] false false)) (hb : getA l j = some (.row 5 (bytesV out) true false)) :
    (evW env O).call 20 [.ptr id 0, .agg (cellsD d)] (KL l nx m md [] none) = some (.tup [], KL ((nx, some (.row 5 (bytesV (out ++ t)) true false)) :: (j, none) :: (id, some (.row 54 [.ptr id 0, .sl nx 0 (out ++ t).length (.opn 1), .bool disp] false false)) :: l) (nx + 1) (mark (mark m id) j) md [] none) := by
  have := callW (E := env) h encWd_inj d out disp ⟨t, ht, by assumption⟩ l nx m md id j [.agg (cellsD d)] (by simp only [encWd, encD, wkL, wkV, cellsD_wk]) ne hi hj hw hb
  have e : FWd n d disp = t := by simp only [FWd, ht, Option.getD_some]
  rw [e] at this; exact this
theorem wa_call {O : Orc} {n : Nat} (h : O 40 = some (gWa n)) {ls : List DT} (hl : ls.length < 1000000) {t : List Nat} (ht : allF (textF n) ls = some t) (out : List Nat) (disp : Bool) (hb : out.length + t.length < 1000000) (l : List (Nat × Option AObj)) (nx m : Nat) (md : Bool) (id j : Nat) (ne : id ≠ j) (hi : id < nx) (hj : j < nx)
    (hw : getA l id = some (.row 54 [.ptr id 0, .sl j 0 out.length (.opn 1), .bool disp] false false)) (hb : getA l j = some (.row 5 (bytesV out) true false)) :
    (evW env O).call 40 [.ptr id 0, .lst ls.length false (cellsL ls)] (KL l nx m md [] none) = some (.tup [], KL ((nx, some (.row 5 (bytesV (out ++ t)) true false)) :: (j, none) :: (id, some (.row 54 [.ptr id 0, .sl nx 0 (out ++ t).length (.opn 1), .bool disp] false false)) :: l) (nx + 1) (mark (mark m id) j) md [] none) := by
  have := callW (E := env) h encWa_inj ls out disp ⟨hl, t, ht, by assumption⟩ l nx m md id j [.lst ls.length false (cellsL ls)] (by simp only [encWa, wkL, wkV, cellsL_wk]) ne hi hj hw hb
  have e : FWa n ls disp = t := by simp only [FWa, ht, Option.getD_some]
  rw [e] at this; exact this
noncomputable def wst (i : Nat) (out : List Nat) (disp : Bool) : St := match i with
  | 0 => H [some (wrow 54 0 1 out.length disp), some (brow 5 out)] 3 true
  | _ + 1 => H [some (wrow 54 0 2 out.length disp), none, some (brow 5 out)] 3 true
theorem mask3 {o o2 : AObj} {os : List (Option AObj)} (hg : isGiv o = false) (hg2 : isGiv o2 = false) : ∀ i, (3 : Nat).testBit i = true → ∃ o', getO (some o :: some o2 :: os) i = some o' ∧ isGiv o' = false := fun i h => by
  match i with
  | 0 => exact ⟨o, rfl, hg⟩
  | 1 => exact ⟨o2, rfl, hg2⟩
  | i + 2 =>
    have : (3 : Nat).testBit (i + 2) = false := by
      rw [Nat.testBit_succ, Nat.testBit_succ]; simp
    rw [this] at h; cases h
theorem all_sc {P : Program} {w0 : World} (B : Bx P w0) {O : Orc} (hO : OrcOk P w0 O) (o41 : O 41 = none) (o72 : O 72 = none) {n : Nat} (h20 : O 20 = some (gWd n)) (ls : List DT) (hl : ls.length < 1000000) (out0 : List Nat) (disp : Bool) (t0 : List Nat) (ht : allF (textF n) ls = some t0) (hb : out0.length + t0.length < 1000000) :
    SC P w0 40 [.ptr 0 0, .lst ls.length false (cellsL ls)] (H [some (wrow 54 0 1 out0.length disp), some (brow 5 out0)] 0 true) (.tup []) (H [some (wrow 54 0 2 (out0 ++ t0).length disp), none, some (brow 5 (out0 ++ t0))] 3 true) := by
  refine Is.scK hO B.mixed B.glob B.env 3 (show env.funs.get 40 = some f40 from rfl) (Nat.le_of_ble_eq_true rfl) (mask3 rfl rfl) fun C k => ?_
  unfold f40
  simp only
  refine tri_seq (k.ev ?_)
  simp (disch := first | assumption | omega | rfl | (simp only [sxP, Bool.and_self, length_cons, length_nil, length_take, length_drop, ↓reduceIte, reduceEqDiff]; first | done | omega) | exact Nat.le_of_ble_eq_true rfl | ((repeat (first | assumption | apply Byt.drop | apply Byt.take)); done) | fail) only [go_sem, ↓reduceIte, reduceEqDiff, reduceLeDiff, reduceLT, reduceAdd, reduceMul, reduceSub, reduceMod, reducePow, reduceDiv, reduceOr, reduceShiftLeft, Nat.reduceBEq, reduceGT, reduceSucc, wrow, brow]
  refine ⟨_, rfl, ?_⟩
  simp only [Behind, InBlk, Cut, if_true, ↓reduceIte]
  refine tri_block (tri_loop (k.gcL [] [8, 7, 6, 0] true (fr1 := ⟨tmL [(8, .int .i64 (.ofNat 0)), (7, .int .i64 (.ofNat ls.length)), (6, .lst ls.length false (cellsL ls)), (0, .ptr 0 0)], []⟩) (s1 := wst 0 out0 disp) (by simp (disch := first | assumption | omega | rfl | (simp only [sxP, Bool.and_self, length_cons, length_nil, length_take, length_drop, ↓reduceIte, reduceEqDiff]; first | done | omega) | exact Nat.le_of_ble_eq_true rfl | ((repeat (first | assumption | apply Byt.drop | apply Byt.take)); done) | fail) only [go_sem, ↓reduceIte, reduceEqDiff, reduceLeDiff, reduceLT, reduceAdd, reduceMul, reduceSub, reduceMod, reducePow, reduceDiv, reduceOr, reduceShiftLeft, Nat.reduceBEq, reduceGT, reduceSucc, wst, wrow, brow]) ?_))
  refine triL_ind (fun x : Nat × List Nat => ls.length - x.1) (fun x => ⟨tmL [(8, .int .i64 (.ofNat x.1)), (7, .int .i64 (.ofNat ls.length)), (6, .lst ls.length false (cellsL ls)), (0, .ptr 0 0)], []⟩) (fun x => wst x.1 x.2 disp) (fun x => x.1 ≤ ls.length ∧ x.2.length ≤ out0.length + t0.length ∧ match x.1 with | 0 => x.2 = out0 | i + 1 => ∃ s, restF (textF n) (ls.drop (i + 1)) = some s ∧ x.2 ++ s = out0 ++ t0) (fun x hx => ?_) (0, out0) ⟨Nat.zero_le _, by simp only; omega, rfl⟩
  obtain ⟨i, out⟩ := x
  simp only at hx ⊢
  obtain ⟨h1, h2, h3⟩ := hx
  cases i with
  | zero =>
    simp only at h3
    subst h3
    cases ls with
    | nil => simp [allF] at ht
    | cons d r =>
      simp only [allF] at ht
      cases htd : textF n d with
      | none => rw [htd] at ht; cases ht
      | some a =>
        rw [htd] at ht
        simp only at ht
        cases htr : restF (textF n) r with
        | none => rw [htr] at ht; cases ht
        | some b =>
          rw [htr] at ht
          cases ht
          simp only [List.length_append] at hb h2
          have hcall := fun l nx m => wd_call h20 htd out disp (by omega) l nx m true 0 1
          obtain ⟨dk, dn, dt, dks, dp⟩ := d
          simp only [cellsD_mk] at hcall
          refine k.ev ?_
          simp (disch := first | assumption | omega | rfl | (simp only [sxP, Bool.and_self, length_cons, length_nil, length_take, length_drop, ↓reduceIte, reduceEqDiff]; first | done | omega) | exact Nat.le_of_ble_eq_true rfl | ((repeat (first | assumption | apply Byt.drop | apply Byt.take)); done) | fail) only [go_sem, ↓reduceIte, reduceEqDiff, reduceLeDiff, reduceLT, reduceAdd, reduceMul, reduceSub, reduceMod, reducePow, reduceDiv, reduceOr, reduceShiftLeft, Nat.reduceBEq, reduceGT, reduceSucc, wst, wrow, brow, cellsL_cons, takeN_cells, cellsD_mk, hcall]
          refine ⟨_, rfl, ?_⟩
          simp only [Behind, InBlk, Cut, if_true, ↓reduceIte]
          refine ⟨(1, out ++ a), ⟨by simp only [List.length_cons]; omega, by simp only [List.length_append]; omega, b, by simpa using htr, by simp⟩, by simp only [List.length_cons]; omega, ?_⟩
          refine k.gcs (keep := [3]) (live := [8, 7, 6, 0]) (md := true) ?_
          simp (disch := first | assumption | omega | rfl | (simp only [sxP, Bool.and_self, length_cons, length_nil, length_take, length_drop, ↓reduceIte, reduceEqDiff]; first | done | omega) | exact Nat.le_of_ble_eq_true rfl | ((repeat (first | assumption | apply Byt.drop | apply Byt.take)); done) | fail) only [go_sem, ↓reduceIte, reduceEqDiff, reduceLeDiff, reduceLT, reduceAdd, reduceMul, reduceSub, reduceMod, reducePow, reduceDiv, reduceOr, reduceShiftLeft, Nat.reduceBEq, reduceGT, reduceSucc, wst, wrow, brow]
  | succ i =>
    simp only at h3
    obtain ⟨s, hs, he⟩ := h3
    cases hd : ls.drop (i + 1) with
    | nil =>
      have h4 : i + 1 = ls.length := by
        have := congrArg List.length hd; simp at this; omega
      rw [hd] at hs
      cases hs
      rw [List.append_nil] at he
      subst he
      refine k.ev ?_
      simp (disch := first | assumption | omega | rfl | (simp only [sxP, Bool.and_self, length_cons, length_nil, length_take, length_drop, ↓reduceIte, reduceEqDiff]; first | done | omega) | exact Nat.le_of_ble_eq_true rfl | ((repeat (first | assumption | apply Byt.drop | apply Byt.take)); done) | fail) only [go_sem, ↓reduceIte, reduceEqDiff, reduceLeDiff, reduceLT, reduceAdd, reduceMul, reduceSub, reduceMod, reducePow, reduceDiv, reduceOr, reduceShiftLeft, Nat.reduceBEq, reduceGT, reduceSucc, wst, wrow, brow, h4]
      refine ⟨_, rfl, ?_⟩
      simp only [Behind, InBlk, Cut, if_true, ↓reduceIte]
      refine finK_of [2] (Or.inl rfl) (by simp (disch := first | assumption | omega | rfl | (simp only [sxP, Bool.and_self, length_cons, length_nil, length_take, length_drop, ↓reduceIte, reduceEqDiff]; first | done | omega) | exact Nat.le_of_ble_eq_true rfl | ((repeat (first | assumption | apply Byt.drop | apply Byt.take)); done) | fail) only [go_sem, ↓reduceIte, reduceEqDiff, reduceLeDiff, reduceLT, reduceAdd, reduceMul, reduceSub, reduceMod, reducePow, reduceDiv, reduceOr, reduceShiftLeft, Nat.reduceBEq, reduceGT, reduceSucc]; exact rfl) (by simp (disch := first | assumption | omega | rfl | (simp only [sxP, Bool.and_self, length_cons, length_nil, length_take, length_drop, ↓reduceIte, reduceEqDiff]; first | done | omega) | exact Nat.le_of_ble_eq_true rfl | ((repeat (first | assumption | apply Byt.drop | apply Byt.take)); done) | fail) only [go_sem, ↓reduceIte, reduceEqDiff, reduceLeDiff, reduceLT, reduceAdd, reduceMul, reduceSub, reduceMod, reducePow, reduceDiv, reduceOr, reduceShiftLeft, Nat.reduceBEq, reduceGT, reduceSucc]; exact rfl) (by simp (disch := first | assumption | omega | rfl | (simp only [sxP, Bool.and_self, length_cons, length_nil, length_take, length_drop, ↓reduceIte, reduceEqDiff]; first | done | omega) | exact Nat.le_of_ble_eq_true rfl | ((repeat (first | assumption | apply Byt.drop | apply Byt.take)); done) | fail) only [go_sem, ↓reduceIte, reduceEqDiff, reduceLeDiff, reduceLT, reduceAdd, reduceMul, reduceSub, reduceMod, reducePow, reduceDiv, reduceOr, reduceShiftLeft, Nat.reduceBEq, reduceGT, reduceSucc]; exact rfl) ?_ ?_
      · simp (disch := first | assumption | omega | rfl | (simp only [sxP, Bool.and_self, length_cons, length_nil, length_take, length_drop, ↓reduceIte, reduceEqDiff]; first | done | omega) | exact Nat.le_of_ble_eq_true rfl | ((repeat (first | assumption | apply Byt.drop | apply Byt.take)); done) | fail) only [go_sem, ↓reduceIte, reduceEqDiff, reduceLeDiff, reduceLT, reduceAdd, reduceMul, reduceSub, reduceMod, reducePow, reduceDiv, reduceOr, reduceShiftLeft, Nat.reduceBEq, reduceGT, reduceSucc]
      · simp (disch := first | assumption | omega | rfl | (simp only [sxP, Bool.and_self, length_cons, length_nil, length_take, length_drop, ↓reduceIte, reduceEqDiff]; first | done | omega) | exact Nat.le_of_ble_eq_true rfl | ((repeat (first | assumption | apply Byt.drop | apply Byt.take)); done) | fail) only [go_sem, ↓reduceIte, reduceEqDiff, reduceLeDiff, reduceLT, reduceAdd, reduceMul, reduceSub, reduceMod, reducePow, reduceDiv, reduceOr, reduceShiftLeft, Nat.reduceBEq, reduceGT, reduceSucc, wrow, brow]
    | cons d r =>
      have hlt : i + 1 < ls.length := Nat.lt_of_not_le fun hle => by rw [List.drop_eq_nil_of_le hle] at hd; cases hd
      have hd2 : ls.drop (i + 2) = r := by rw [show i + 2 = (i + 1) + 1 from rfl, ← List.drop_drop, hd]; rfl
      rw [hd] at hs
      simp only [restF] at hs
      cases htd : textF n d with
      | none => rw [htd] at hs; cases hs
      | some a =>
        rw [htd] at hs
        simp only at hs
        cases htr : restF (textF n) r with
        | none => rw [htr] at hs; cases hs
        | some b =>
          rw [htr] at hs
          cases hs
          have hlen := congrArg List.length he
          simp only [List.length_append, List.length_cons] at hlen
          have hwb := fun l nx m => wb_call o41 o72 l nx m 0 2 true out disp 32 (by omega) (by omega) (by omega)
          have hcall := fun l nx m => wd_call h20 htd (out ++ [32]) disp (by simp only [List.length_append, List.length_cons, List.length_nil]; omega) l nx m true 0 5
          obtain ⟨dk, dn, dt, dks, dp⟩ := d
          simp only [cellsD_mk] at hcall
          refine k.ev ?_
          simp (disch := first | assumption | omega | rfl | (simp only [sxP, Bool.and_self, length_cons, length_nil, length_take, length_drop, ↓reduceIte, reduceEqDiff]; first | done | omega) | exact Nat.le_of_ble_eq_true rfl | ((repeat (first | assumption | apply Byt.drop | apply Byt.take)); done) | fail) only [go_sem, ↓reduceIte, reduceEqDiff, reduceLeDiff, reduceLT, reduceAdd, reduceMul, reduceSub, reduceMod, reducePow, reduceDiv, reduceOr, reduceShiftLeft, Nat.reduceBEq, reduceGT, reduceSucc, wst, wrow, brow, hlt, cellsL_drop, hd, cellsL_cons, takeN_cells, cellsD_mk, hwb, hcall]
          refine ⟨_, rfl, ?_⟩
          simp only [Behind, InBlk, Cut, if_true, ↓reduceIte]
          refine ⟨(i + 2, out ++ [32] ++ a), ⟨by simp only; omega, by simp only [List.length_append, List.length_cons, List.length_nil]; omega, b, ?_, ?_⟩, by simp only; omega, ?_⟩
          · rw [← htr, ← hd2]
          · rw [← he]; simp
          · refine k.gcs (keep := [6]) (live := [8, 7, 6, 0]) (md := true) ?_
            simp (disch := first | assumption | omega | rfl | (simp only [sxP, Bool.and_self, length_cons, length_nil, length_take, length_drop, ↓reduceIte, reduceEqDiff]; first | done | omega) | exact Nat.le_of_ble_eq_true rfl | ((repeat (first | assumption | apply Byt.drop | apply Byt.take)); done) | fail) only [go_sem, ↓reduceIte, reduceEqDiff, reduceLeDiff, reduceLT, reduceAdd, reduceMul, reduceSub, reduceMod, reducePow, reduceDiv, reduceOr, reduceShiftLeft, Nat.reduceBEq, reduceGT, reduceSucc, wst, wrow, brow]
noncomputable def gItm : List AV → St → Option (AV × St) := orc0 encWd (fun d => ∃ r, itemsOf 1000000 [] d = some r) (fun d => match itemsOf 1000000 [] d with
  | some (l, e) => .tup [.lst l.length false (cellsL l), encD e]
  | none => .bool true)
theorem itm_call {O : Orc} (h : O 19 = some gItm) {d : DT} {l : List DT} {e : DT} (hi : itemsOf 1000000 [] d = some (l, e)) (s : St) : (evW env O).call 19 [.agg (cellsD d)] s = some (.tup [.lst l.length false (cellsL l), encD e], s) := by
  rw [call_known h]
  have := orc0_eq (Pre := fun d => ∃ r, itemsOf 1000000 [] d = some r) (F := fun d => match itemsOf 1000000 [] d with
    | some (l, e) => AV.tup [.lst l.length false (cellsL l), encD e]
    | none => .bool true) encWd_inj (args := [.agg (cellsD d)]) s d ⟨_, hi⟩ (by simp only [encWd, encD, wkL, wkV, cellsD_wk])
  rw [hi] at this
  exact this
theorem itemsOf_len : ∀ {k : Nat} {acc : List DT} {d : DT} {l : List DT} {e : DT}, itemsOf k acc d = some (l, e) → l.length < 1000000
  | 0, _, _, _, _, h => by simp [itemsOf] at h
  | k + 1, acc, d, l, e, h => by
    rw [itemsOf] at h
    split at h
    · cases h
    · split at h
      · exact itemsOf_len h
      · cases h; omega
theorem wdatum_sc {P : Program} {w0 : World} (B : Bx P w0) {O : Orc} (hO : OrcOk P w0 O) (o36 : O 36 = none) (o41 : O 41 = none) (o72 : O 72 = none) (o43 : O 43 = none) (h19 : O 19 = some gItm) {n : Nat} (h40 : O 40 = some (gWa n)) (d : DT) (out0 : List Nat) (disp : Bool) (t0 : List Nat) (ht : textF (n + 1) d = some t0) (hb : out0.length + t0.length < 1000000) :
    SC P w0 20 [.ptr 0 0, encD d] (H [some (wrow 54 0 1 out0.length disp), some (brow 5 out0)] 0 true) (.tup []) (H [some (wrow 54 0 2 (out0 ++ t0).length disp), none, some (brow 5 (out0 ++ t0))] 3 true) := by
  refine Is.scK hO B.mixed B.glob B.env 3 (show env.funs.get 20 = some f20 from rfl) (Nat.le_of_ble_eq_true rfl) (mask3 rfl rfl) fun C k => ?_
  have clist := @call_in env O _ _ o43 (show env.funs.get 43 = some f43 from rfl) rfl
  obtain ⟨kd, nn, tx, ks, p⟩ := d
  rw [textF] at ht
  simp only [kindD, textD] at ht
  unfold f20
  simp only
  by_cases hk0 : kd = .ofNat 0
  · subst hk0
    simp only [if_true] at ht
    cases ht
    simp only [List.length_cons, List.length_nil] at hb
    have hws := fun l nx m => ws_call o36 o72 l nx m 0 1 true out0 disp [40, 41] (by simp) (by omega) (by simp)
    refine k.ev ?_
    simp (disch := first | assumption | omega | rfl | (simp only [sxP, Bool.and_self, length_cons, length_nil, length_take, length_drop, ↓reduceIte, reduceEqDiff]; first | done | omega) | exact Nat.le_of_ble_eq_true rfl | ((repeat (first | assumption | apply Byt.drop | apply Byt.take)); done) | fail) only [go_sem, ↓reduceIte, reduceEqDiff, reduceLeDiff, reduceLT, reduceAdd, reduceMul, reduceSub, reduceMod, reducePow, reduceDiv, reduceOr, reduceShiftLeft, Nat.reduceBEq, reduceGT, reduceSucc, encD, cellsD_mk, wrow, brow, hws]
    refine ⟨_, rfl, ?_⟩
    simp only [Behind, InBlk, Cut, if_true, ↓reduceIte]
    refine finK_of [3] (Or.inl rfl) (by simp (disch := first | assumption | omega | rfl | (simp only [sxP, Bool.and_self, length_cons, length_nil, length_take, length_drop, ↓reduceIte, reduceEqDiff]; first | done | omega) | exact Nat.le_of_ble_eq_true rfl | ((repeat (first | assumption | apply Byt.drop | apply Byt.take)); done) | fail) only [go_sem, ↓reduceIte, reduceEqDiff, reduceLeDiff, reduceLT, reduceAdd, reduceMul, reduceSub, reduceMod, reducePow, reduceDiv, reduceOr, reduceShiftLeft, Nat.reduceBEq, reduceGT, reduceSucc]; exact rfl) (by simp (disch := first | assumption | omega | rfl | (simp only [sxP, Bool.and_self, length_cons, length_nil, length_take, length_drop, ↓reduceIte, reduceEqDiff]; first | done | omega) | exact Nat.le_of_ble_eq_true rfl | ((repeat (first | assumption | apply Byt.drop | apply Byt.take)); done) | fail) only [go_sem, ↓reduceIte, reduceEqDiff, reduceLeDiff, reduceLT, reduceAdd, reduceMul, reduceSub, reduceMod, reducePow, reduceDiv, reduceOr, reduceShiftLeft, Nat.reduceBEq, reduceGT, reduceSucc]; exact rfl) (by simp (disch := first | assumption | omega | rfl | (simp only [sxP, Bool.and_self, length_cons, length_nil, length_take, length_drop, ↓reduceIte, reduceEqDiff]; first | done | omega) | exact Nat.le_of_ble_eq_true rfl | ((repeat (first | assumption | apply Byt.drop | apply Byt.take)); done) | fail) only [go_sem, ↓reduceIte, reduceEqDiff, reduceLeDiff, reduceLT, reduceAdd, reduceMul, reduceSub, reduceMod, reducePow, reduceDiv, reduceOr, reduceShiftLeft, Nat.reduceBEq, reduceGT, reduceSucc]; exact rfl) ?_ ?_
    · simp (disch := first | assumption | omega | rfl | (simp only [sxP, Bool.and_self, length_cons, length_nil, length_take, length_drop, ↓reduceIte, reduceEqDiff]; first | done | omega) | exact Nat.le_of_ble_eq_true rfl | ((repeat (first | assumption | apply Byt.drop | apply Byt.take)); done) | fail) only [go_sem, ↓reduceIte, reduceEqDiff, reduceLeDiff, reduceLT, reduceAdd, reduceMul, reduceSub, reduceMod, reducePow, reduceDiv, reduceOr, reduceShiftLeft, Nat.reduceBEq, reduceGT, reduceSucc]
    · simp (disch := first | assumption | omega | rfl | (simp only [sxP, Bool.and_self, length_cons, length_nil, length_take, length_drop, ↓reduceIte, reduceEqDiff]; first | done | omega) | exact Nat.le_of_ble_eq_true rfl | ((repeat (first | assumption | apply Byt.drop | apply Byt.take)); done) | fail) only [go_sem, ↓reduceIte, reduceEqDiff, reduceLeDiff, reduceLT, reduceAdd, reduceMul, reduceSub, reduceMod, reducePow, reduceDiv, reduceOr, reduceShiftLeft, Nat.reduceBEq, reduceGT, reduceSucc, wrow, brow]
  simp only [hk0, if_false] at ht
  by_cases hk2 : kd = .ofNat 2
  · subst hk2
    simp only [if_true] at ht
    by_cases htx : tx = []
    · simp only [htx, if_true] at ht; cases ht
    simp only [htx, if_false] at ht
    cases ht
    have hws := fun l nx m => ws_call o36 o72 l nx m 0 1 true out0 disp t0 htx (by omega) (by omega)
    refine k.ev ?_
    simp (disch := first | assumption | omega | rfl | (simp only [sxP, Bool.and_self, length_cons, length_nil, length_take, length_drop, ↓reduceIte, reduceEqDiff]; first | done | omega) | exact Nat.le_of_ble_eq_true rfl | ((repeat (first | assumption | apply Byt.drop | apply Byt.take)); done) | fail) only [go_sem, ↓reduceIte, reduceEqDiff, reduceLeDiff, reduceLT, reduceAdd, reduceMul, reduceSub, reduceMod, reducePow, reduceDiv, reduceOr, reduceShiftLeft, Nat.reduceBEq, reduceGT, reduceSucc, encD, cellsD_mk, wrow, brow, hws]
    refine ⟨_, rfl, ?_⟩
    simp only [Behind, InBlk, Cut, if_true, ↓reduceIte]
    refine finK_of [3] (Or.inl rfl) (by simp (disch := first | assumption | omega | rfl | (simp only [sxP, Bool.and_self, length_cons, length_nil, length_take, length_drop, ↓reduceIte, reduceEqDiff]; first | done | omega) | exact Nat.le_of_ble_eq_true rfl | ((repeat (first | assumption | apply Byt.drop | apply Byt.take)); done) | fail) only [go_sem, ↓reduceIte, reduceEqDiff, reduceLeDiff, reduceLT, reduceAdd, reduceMul, reduceSub, reduceMod, reducePow, reduceDiv, reduceOr, reduceShiftLeft, Nat.reduceBEq, reduceGT, reduceSucc]; exact rfl) (by simp (disch := first | assumption | omega | rfl | (simp only [sxP, Bool.and_self, length_cons, length_nil, length_take, length_drop, ↓reduceIte, reduceEqDiff]; first | done | omega) | exact Nat.le_of_ble_eq_true rfl | ((repeat (first | assumption | apply Byt.drop | apply Byt.take)); done) | fail) only [go_sem, ↓reduceIte, reduceEqDiff, reduceLeDiff, reduceLT, reduceAdd, reduceMul, reduceSub, reduceMod, reducePow, reduceDiv, reduceOr, reduceShiftLeft, Nat.reduceBEq, reduceGT, reduceSucc]; exact rfl) (by simp (disch := first | assumption | omega | rfl | (simp only [sxP, Bool.and_self, length_cons, length_nil, length_take, length_drop, ↓reduceIte, reduceEqDiff]; first | done | omega) | exact Nat.le_of_ble_eq_true rfl | ((repeat (first | assumption | apply Byt.drop | apply Byt.take)); done) | fail) only [go_sem, ↓reduceIte, reduceEqDiff, reduceLeDiff, reduceLT, reduceAdd, reduceMul, reduceSub, reduceMod, reducePow, reduceDiv, reduceOr, reduceShiftLeft, Nat.reduceBEq, reduceGT, reduceSucc]; exact rfl) ?_ ?_
    · simp (disch := first | assumption | omega | rfl | (simp only [sxP, Bool.and_self, length_cons, length_nil, length_take, length_drop, ↓reduceIte, reduceEqDiff]; first | done | omega) | exact Nat.le_of_ble_eq_true rfl | ((repeat (first | assumption | apply Byt.drop | apply Byt.take)); done) | fail) only [go_sem, ↓reduceIte, reduceEqDiff, reduceLeDiff, reduceLT, reduceAdd, reduceMul, reduceSub, reduceMod, reducePow, reduceDiv, reduceOr, reduceShiftLeft, Nat.reduceBEq, reduceGT, reduceSucc]
    · simp (disch := first | assumption | omega | rfl | (simp only [sxP, Bool.and_self, length_cons, length_nil, length_take, length_drop, ↓reduceIte, reduceEqDiff]; first | done | omega) | exact Nat.le_of_ble_eq_true rfl | ((repeat (first | assumption | apply Byt.drop | apply Byt.take)); done) | fail) only [go_sem, ↓reduceIte, reduceEqDiff, reduceLeDiff, reduceLT, reduceAdd, reduceMul, reduceSub, reduceMod, reducePow, reduceDiv, reduceOr, reduceShiftLeft, Nat.reduceBEq, reduceGT, reduceSucc, wrow, brow]
  simp only [hk2, if_false] at ht
  by_cases hk6 : kd = .ofNat 6
  · subst hk6
    simp only [if_true] at ht
    cases hi : itemsOf 1000000 [] (.mk (.ofNat 6) nn tx ks p) with
    | none => rw [hi] at ht; cases ht
    | some r =>
      obtain ⟨l, ⟨ek, en, et, eks, ep⟩⟩ := r
      rw [hi] at ht
      simp only [wrapF, kindD] at ht
      by_cases he0 : ek = .ofNat 0
      · subst he0
        simp only [if_true] at ht
        cases ha : allF (textF n) l with
        | none => rw [ha] at ht; cases ht
        | some s =>
          rw [ha] at ht
          cases ht
          have hl := itemsOf_len hi
          have e : out0 ++ 40 :: (s ++ [41]) = out0 ++ [40] ++ s ++ [41] := by simp
          simp only [List.length_cons, List.length_append, List.length_nil] at hb
          rw [e]
          have hitm := itm_call h19 hi
          simp only [cellsD_mk, encD] at hitm
          have hwb1 := fun l nx m => wb_call o41 o72 l nx m 0 1 true out0 disp 40 (by omega) (by omega) (by omega)
          have hwa := fun l nx m => wa_call h40 hl ha (out0 ++ [40]) disp (by simp only [List.length_append, List.length_cons, List.length_nil]; omega) l nx m true 0 6
          have hwb2 := fun l nx m => wb_call o41 o72 l nx m 0 7 true (out0 ++ [40] ++ s) disp 41 (by omega) (by simp only [List.length_append, List.length_cons, List.length_nil]; omega) (by omega)
          refine k.ev ?_
          simp (disch := first | assumption | omega | rfl | (simp only [sxP, Bool.and_self, length_cons, length_nil, length_take, length_drop, ↓reduceIte, reduceEqDiff]; first | done | omega) | exact Nat.le_of_ble_eq_true rfl | ((repeat (first | assumption | apply Byt.drop | apply Byt.take)); done) | fail) only [go_sem, ↓reduceIte, reduceEqDiff, reduceLeDiff, reduceLT, reduceAdd, reduceMul, reduceSub, reduceMod, reducePow, reduceDiv, reduceOr, reduceShiftLeft, Nat.reduceBEq, reduceGT, reduceSucc, encD, cellsD_mk, wrow, brow, clist, f43, hitm, hwb1, hwa, hwb2]
          refine ⟨_, rfl, ?_⟩
          simp only [Behind, InBlk, Cut, if_true, ↓reduceIte]
          refine finK_of [9] (Or.inl rfl) (by simp (disch := first | assumption | omega | rfl | (simp only [sxP, Bool.and_self, length_cons, length_nil, length_take, length_drop, ↓reduceIte, reduceEqDiff]; first | done | omega) | exact Nat.le_of_ble_eq_true rfl | ((repeat (first | assumption | apply Byt.drop | apply Byt.take)); done) | fail) only [go_sem, ↓reduceIte, reduceEqDiff, reduceLeDiff, reduceLT, reduceAdd, reduceMul, reduceSub, reduceMod, reducePow, reduceDiv, reduceOr, reduceShiftLeft, Nat.reduceBEq, reduceGT, reduceSucc]; exact rfl) (by simp (disch := first | assumption | omega | rfl | (simp only [sxP, Bool.and_self, length_cons, length_nil, length_take, length_drop, ↓reduceIte, reduceEqDiff]; first | done | omega) | exact Nat.le_of_ble_eq_true rfl | ((repeat (first | assumption | apply Byt.drop | apply Byt.take)); done) | fail) only [go_sem, ↓reduceIte, reduceEqDiff, reduceLeDiff, reduceLT, reduceAdd, reduceMul, reduceSub, reduceMod, reducePow, reduceDiv, reduceOr, reduceShiftLeft, Nat.reduceBEq, reduceGT, reduceSucc]; exact rfl) (by simp (disch := first | assumption | omega | rfl | (simp only [sxP, Bool.and_self, length_cons, length_nil, length_take, length_drop, ↓reduceIte, reduceEqDiff]; first | done | omega) | exact Nat.le_of_ble_eq_true rfl | ((repeat (first | assumption | apply Byt.drop | apply Byt.take)); done) | fail) only [go_sem, ↓reduceIte, reduceEqDiff, reduceLeDiff, reduceLT, reduceAdd, reduceMul, reduceSub, reduceMod, reducePow, reduceDiv, reduceOr, reduceShiftLeft, Nat.reduceBEq, reduceGT, reduceSucc]; exact rfl) ?_ ?_
          · simp (disch := first | assumption | omega | rfl | (simp only [sxP, Bool.and_self, length_cons, length_nil, length_take, length_drop, ↓reduceIte, reduceEqDiff]; first | done | omega) | exact Nat.le_of_ble_eq_true rfl | ((repeat (first | assumption | apply Byt.drop | apply Byt.take)); done) | fail) only [go_sem, ↓reduceIte, reduceEqDiff, reduceLeDiff, reduceLT, reduceAdd, reduceMul, reduceSub, reduceMod, reducePow, reduceDiv, reduceOr, reduceShiftLeft, Nat.reduceBEq, reduceGT, reduceSucc]
          · simp (disch := first | assumption | omega | rfl | (simp only [sxP, Bool.and_self, length_cons, length_nil, length_take, length_drop, ↓reduceIte, reduceEqDiff]; first | done | omega) | exact Nat.le_of_ble_eq_true rfl | ((repeat (first | assumption | apply Byt.drop | apply Byt.take)); done) | fail) only [go_sem, ↓reduceIte, reduceEqDiff, reduceLeDiff, reduceLT, reduceAdd, reduceMul, reduceSub, reduceMod, reducePow, reduceDiv, reduceOr, reduceShiftLeft, Nat.reduceBEq, reduceGT, reduceSucc, wrow, brow]
      · simp only [he0, if_false] at ht; cases ht
  · simp only [hk6, if_false] at ht; cases ht
open Nat (reduceEqDiff reduceLeDiff reduceLT reduceAdd reduceMul reduceSub reduceMod reducePow reduceDiv reduceOr reduceShiftLeft reduceGT reduceSucc)
open List (length_cons length_nil length_take length_drop)
open T
set_option maxRecDepth 100000
theorem itm_known {P : Program} {w0 : World} (B : Bx P w0) {O : Orc} (hO : OrcOk P w0 O) (o23 : O 23 = none) : OrcOk P w0 (withG 19 gItm O) :=
  hO.withG orc0_ext (known0 true (fun x => by simp only [encWd, pureL_cons, encD_pure, pureL_nil, Bool.and_self]) (fun x => by
    cases h : itemsOf 1000000 [] x with
    | none => rfl
    | some r => simp only [pureA_tup, pureL_cons, pureA_lst, encD_pure, pureL_nil, Bool.and_self]) fun x hx => by
    obtain ⟨⟨l, e⟩, hr⟩ := hx
    simp only [hr]
    exact ⟨_, Items_sc B hO o23 x l e _ hr⟩)
noncomputable def OI : Orc := withG 19 gItm noO
theorem OI_ok {P : Program} {w0 : World} (B : Bx P w0) : OrcOk P w0 OI := itm_known B (noO_ok P w0) rfl
theorem wd_known {P : Program} {w0 : World} {O : Orc} (hO : OrcOk P w0 O) (n : Nat) (h : ∀ (d : DT) (out0 : List Nat) (disp : Bool) (t0 : List Nat), textF n d = some t0 → out0.length + t0.length < 1000000 → SC P w0 20 [.ptr 0 0, encD d] (H [some (wrow 54 0 1 out0.length disp), some (brow 5 out0)] 0 true) (.tup []) (H [some (wrow 54 0 2 (out0 ++ t0).length disp), none, some (brow 5 (out0 ++ t0))] 3 true)) : OrcOk P w0 (withG 20 (gWd n) O) :=
  hO.withG orcW_ext (knownW (fun x => by simp only [encWd, pureL_cons, encD_pure, pureL_nil, Bool.and_self]) fun x out disp hp => by
    obtain ⟨t, h1, h2⟩ := hp
    have e : FWd n x disp = t := by simp only [FWd, h1, Option.getD_some]
    rw [e]
    exact h x out disp t h1 h2)
theorem wa_known {P : Program} {w0 : World} (B : Bx P w0) {O O' : Orc} (hO : OrcOk P w0 O) (n : Nat) (hO' : OrcOk P w0 O') (o41 : O' 41 = none) (o72 : O' 72 = none) (h20 : O' 20 = some (gWd n)) : OrcOk P w0 (withG 40 (gWa n) O) :=
  hO.withG orcW_ext (knownW (fun x => by simp only [encWa, pureL_cons, pureA_lst, pureL_nil, Bool.and_self]) fun x out disp hp => by
    obtain ⟨hl, t, h1, h2⟩ := hp
    have e : FWa n x disp = t := by simp only [FWa, h1, Option.getD_some]
    rw [e]
    exact all_sc B hO' o41 o72 h20 x hl out disp t h1 h2)
theorem writer_all {P : Program} {w0 : World} (B : Bx P w0) : ∀ (n : Nat) (d : DT) (out0 : List Nat) (disp : Bool) (t0 : List Nat), textF n d = some t0 → out0.length + t0.length < 1000000 → SC P w0 20 [.ptr 0 0, encD d] (H [some (wrow 54 0 1 out0.length disp), some (brow 5 out0)] 0 true) (.tup []) (H [some (wrow 54 0 2 (out0 ++ t0).length disp), none, some (brow 5 (out0 ++ t0))] 3 true) := by
  intro n
  induction n with
  | zero => intro d out0 disp t0 h; simp [textF] at h
  | succ n ih =>
    intro d out0 disp t0 h1 h2
    have hD : OrcOk P w0 (withG 20 (gWd n) OI) := wd_known (OI_ok B) n ih
    have hA : OrcOk P w0 (withG 40 (gWa n) OI) := wa_known B (OI_ok B) n hD rfl rfl rfl
    exact wdatum_sc B hA rfl rfl rfl rfl rfl rfl d out0 disp t0 h1 h2
inductive MayD : DT → Prop
  | nil (n : Int) (t : List Nat) (p : Int) : MayD (.mk (.ofNat 0) n t [] p)
  | one (n : Int) (p : Int) : MayD (.mk (.ofNat 2) n [49] [] p)
  | pair (n : Int) (t : List Nat) (p : Int) (x y : DT) : MayD x → MayD y → MayD (.mk (.ofNat 6) n t [x, y] p)
noncomputable def gMay (n : Nat) : List AV → St → Option (AV × St) := orc0 encWd (fun d => MayD d ∧ SizeOf.sizeOf d < n) (fun _ => .bool true)
theorem may_call {O : Orc} {n : Nat} (h : O 11 = some (gMay n)) {d : DT} (hp : MayD d) (hn : SizeOf.sizeOf d < n) (s : St) : (evW env O).call 11 [.agg (cellsD d)] s = some (.bool true, s) := by
  rw [call_known h]; exact orc0_eq encWd_inj s d ⟨hp, hn⟩ (by simp only [encWd, encD, wkL, wkV, cellsD_wk])
theorem may_known {P : Program} {w0 : World} {O : Orc} (hO : OrcOk P w0 O) (n : Nat) (h : ∀ d, MayD d → SizeOf.sizeOf d < n → SC P w0 11 [encD d] (H [] 0 true) (.bool true) (H [] 0 true)) : OrcOk P w0 (withG 11 (gMay n) O) :=
  hO.withG orc0_ext (known0 true (fun x => by simp only [encWd, pureL_cons, encD_pure, pureL_nil, Bool.and_self]) (fun _ => rfl) fun x hx => ⟨_, h x hx.1 hx.2⟩)
theorem dig_ev : okV (.bool true) ((evT env noO 1000).call 50 [.str [49]] s0) = true := by decide +kernel
noncomputable def gDig : List AV → St → Option (AV × St) := orc0 (fun _ : Unit => [.str [49]]) (fun _ => True) (fun _ => .bool true)
theorem may_sc {P : Program} {w0 : World} (B : Bx P w0) {O : Orc} (hO : OrcOk P w0 O) (o23 : O 23 = none) (o26 : O 26 = none) (h50 : O 50 = some gDig) {N : Nat} (h11 : O 11 = some (gMay N)) (d0 : DT) (hp0 : MayD d0) (hN : SizeOf.sizeOf d0 < N + 1) :
    SC P w0 11 [encD d0] (H [] 0 true) (.bool true) (H [] 0 true) := by
  refine Is.sc hO B.mixed B.glob B.env 0 (show env.funs.get 11 = some f11 from rfl) (Nat.le_of_ble_eq_true rfl) mask0 fun C k => ?_
  have cpair := @call_in env O _ _ o23 (show env.funs.get 23 = some f23 from rfl) rfl
  have cbare := @call_in env O _ _ o26 (show env.funs.get 26 = some f26 from rfl) rfl
  have cdig : ∀ s, (evW env O).call 50 [.str [49]] s = some (.bool true, s) := fun s => by rw [call_known h50, gDig, orc0_eq (fun _ _ _ => rfl) s () trivial rfl]
  unfold f11
  simp only
  refine tri_seq (k.ev ?_)
  simp (disch := first | assumption | omega | rfl | (simp only [sxP, Bool.and_self, length_cons, length_nil, length_take, length_drop, ↓reduceIte, reduceEqDiff]; first | done | omega) | exact Nat.le_of_ble_eq_true rfl | ((repeat (first | assumption | apply Byt.drop | apply Byt.take)); done) | fail) only [go_sem, ↓reduceIte, reduceEqDiff, reduceLeDiff, reduceLT, reduceAdd, reduceMul, reduceSub, reduceMod, reducePow, reduceDiv, reduceOr, reduceShiftLeft, Nat.reduceBEq, reduceGT, reduceSucc, encD]
  refine ⟨_, rfl, ?_⟩
  simp only [Behind, InBlk, Cut, if_true, ↓reduceIte]
  refine tri_cutX (fun d => (∃ n t p, d = DT.mk (.ofNat 0) n t [] p) ∨ ∃ n p, d = DT.mk (.ofNat 2) n [49] [] p) (fun _ => ⟨tmL [(2, .bool false), (1, .ptr 0 0)], []⟩) (fun d => H [some (drow d)] 0 true) (tri_block (tri_loop (k.gcL [0] [2, 1] true (fr1 := ⟨tmL [(2, .bool false), (1, .ptr 0 0)], []⟩) (s1 := H [some (drow d0)] 0 true) (by simp (disch := first | assumption | omega | rfl | (simp only [sxP, Bool.and_self, length_cons, length_nil, length_take, length_drop, ↓reduceIte, reduceEqDiff]; first | done | omega) | exact Nat.le_of_ble_eq_true rfl | ((repeat (first | assumption | apply Byt.drop | apply Byt.take)); done) | fail) only [go_sem, ↓reduceIte, reduceEqDiff, reduceLeDiff, reduceLT, reduceAdd, reduceMul, reduceSub, reduceMod, reducePow, reduceDiv, reduceOr, reduceShiftLeft, Nat.reduceBEq, reduceGT, reduceSucc, drow, cellsD_pure]) ?_))) ?_
  · refine triL_ind (fun x : DT => SizeOf.sizeOf x) (fun x => ⟨tmL [(2, .bool false), (1, .ptr 0 0)], []⟩) (fun x => H [some (drow x)] 0 true) (fun x => MayD x ∧ SizeOf.sizeOf x < N + 1) (fun x hx => ?_) d0 ⟨hp0, hN⟩
    obtain ⟨hp, hs⟩ := hx
    cases hp with
    | nil n t p =>
      refine k.ev ?_
      simp (disch := first | assumption | omega | rfl | (simp only [sxP, Bool.and_self, length_cons, length_nil, length_take, length_drop, ↓reduceIte, reduceEqDiff]; first | done | omega) | exact Nat.le_of_ble_eq_true rfl | ((repeat (first | assumption | apply Byt.drop | apply Byt.take)); done) | fail) only [go_sem, ↓reduceIte, reduceEqDiff, reduceLeDiff, reduceLT, reduceAdd, reduceMul, reduceSub, reduceMod, reducePow, reduceDiv, reduceOr, reduceShiftLeft, Nat.reduceBEq, reduceGT, reduceSucc, drow, cellsD_mk, cellsL_nil, cpair, f23]
      refine ⟨_, rfl, ?_⟩
      simp only [Behind, InBlk, Cut, if_true, ↓reduceIte]
      simp only [Gcx]
      refine ⟨.mk (.ofNat 0) n t [] p, .inl ⟨_, _, _, rfl⟩, ?_⟩
      refine k.gcs (keep := [0]) (live := [2, 1]) (md := true) ?_
      simp (disch := first | assumption | omega | rfl | (simp only [sxP, Bool.and_self, length_cons, length_nil, length_take, length_drop, ↓reduceIte, reduceEqDiff]; first | done | omega) | exact Nat.le_of_ble_eq_true rfl | ((repeat (first | assumption | apply Byt.drop | apply Byt.take)); done) | fail) only [go_sem, ↓reduceIte, reduceEqDiff, reduceLeDiff, reduceLT, reduceAdd, reduceMul, reduceSub, reduceMod, reducePow, reduceDiv, reduceOr, reduceShiftLeft, Nat.reduceBEq, reduceGT, reduceSucc, drow, cellsD_mk, cellsL_nil]
    | one n p =>
      refine k.ev ?_
      simp (disch := first | assumption | omega | rfl | (simp only [sxP, Bool.and_self, length_cons, length_nil, length_take, length_drop, ↓reduceIte, reduceEqDiff]; first | done | omega) | exact Nat.le_of_ble_eq_true rfl | ((repeat (first | assumption | apply Byt.drop | apply Byt.take)); done) | fail) only [go_sem, ↓reduceIte, reduceEqDiff, reduceLeDiff, reduceLT, reduceAdd, reduceMul, reduceSub, reduceMod, reducePow, reduceDiv, reduceOr, reduceShiftLeft, Nat.reduceBEq, reduceGT, reduceSucc, drow, cellsD_mk, cellsL_nil, cpair, f23]
      refine ⟨_, rfl, ?_⟩
      simp only [Behind, InBlk, Cut, if_true, ↓reduceIte]
      simp only [Gcx]
      refine ⟨.mk (.ofNat 2) n [49] [] p, .inr ⟨_, _, rfl⟩, ?_⟩
      refine k.gcs (keep := [0]) (live := [2, 1]) (md := true) ?_
      simp (disch := first | assumption | omega | rfl | (simp only [sxP, Bool.and_self, length_cons, length_nil, length_take, length_drop, ↓reduceIte, reduceEqDiff]; first | done | omega) | exact Nat.le_of_ble_eq_true rfl | ((repeat (first | assumption | apply Byt.drop | apply Byt.take)); done) | fail) only [go_sem, ↓reduceIte, reduceEqDiff, reduceLeDiff, reduceLT, reduceAdd, reduceMul, reduceSub, reduceMod, reducePow, reduceDiv, reduceOr, reduceShiftLeft, Nat.reduceBEq, reduceGT, reduceSucc, drow, cellsD_mk, cellsL_nil]
    | pair n t p x y hx hy =>
      have s1 : SizeOf.sizeOf x < N := by simp only [DT.mk.sizeOf_spec, List.cons.sizeOf_spec, List.nil.sizeOf_spec] at hs; omega
      have s2 : SizeOf.sizeOf y < SizeOf.sizeOf (DT.mk (.ofNat 6) n t [x, y] p) := by simp only [DT.mk.sizeOf_spec, List.cons.sizeOf_spec, List.nil.sizeOf_spec]; omega
      have hmay := may_call h11 hx s1
      obtain ⟨xk, xn, xt, xks, xp⟩ := x
      obtain ⟨yk, yn, yt, yks, yp⟩ := y
      simp only [cellsD_mk] at hmay
      refine k.ev ?_
      simp (disch := first | assumption | omega | rfl | (simp only [sxP, Bool.and_self, length_cons, length_nil, length_take, length_drop, ↓reduceIte, reduceEqDiff]; first | done | omega) | exact Nat.le_of_ble_eq_true rfl | ((repeat (first | assumption | apply Byt.drop | apply Byt.take)); done) | fail) only [go_sem, ↓reduceIte, reduceEqDiff, reduceLeDiff, reduceLT, reduceAdd, reduceMul, reduceSub, reduceMod, reducePow, reduceDiv, reduceOr, reduceShiftLeft, Nat.reduceBEq, reduceGT, reduceSucc, drow, cellsD_mk, cellsL_two, cpair, f23, takeN_cells, takeN_cells1, hmay]
      refine ⟨_, rfl, ?_⟩
      simp only [Behind, InBlk, Cut, if_true, ↓reduceIte]
      refine ⟨.mk yk yn yt yks yp, ⟨hy, by omega⟩, s2, ?_⟩
      refine k.gcs (keep := [0]) (live := [2, 1]) (md := true) ?_
      simp (disch := first | assumption | omega | rfl | (simp only [sxP, Bool.and_self, length_cons, length_nil, length_take, length_drop, ↓reduceIte, reduceEqDiff]; first | done | omega) | exact Nat.le_of_ble_eq_true rfl | ((repeat (first | assumption | apply Byt.drop | apply Byt.take)); done) | fail) only [go_sem, ↓reduceIte, reduceEqDiff, reduceLeDiff, reduceLT, reduceAdd, reduceMul, reduceSub, reduceMod, reducePow, reduceDiv, reduceOr, reduceShiftLeft, Nat.reduceBEq, reduceGT, reduceSucc, drow, cellsD_mk]
  · rintro d (⟨n, t, p, rfl⟩ | ⟨n, p, rfl⟩)
    ·
      refine k.ev ?_
      simp (disch := first | assumption | omega | rfl | (simp only [sxP, Bool.and_self, length_cons, length_nil, length_take, length_drop, ↓reduceIte, reduceEqDiff]; first | done | omega) | exact Nat.le_of_ble_eq_true rfl | ((repeat (first | assumption | apply Byt.drop | apply Byt.take)); done) | fail) only [go_sem, ↓reduceIte, reduceEqDiff, reduceLeDiff, reduceLT, reduceAdd, reduceMul, reduceSub, reduceMod, reducePow, reduceDiv, reduceOr, reduceShiftLeft, Nat.reduceBEq, reduceGT, reduceSucc, drow, cellsD_mk, cellsL_nil, cbare, f26]
      refine ⟨_, rfl, ?_⟩
      simp only [Behind, InBlk, Cut, if_true, ↓reduceIte]
      apply fin_of (Or.inr rfl)
      iterate 5 (simp (disch := first | assumption | omega | rfl | (simp only [sxP, Bool.and_self, length_cons, length_nil, length_take, length_drop, ↓reduceIte, reduceEqDiff]; first | done | omega) | exact Nat.le_of_ble_eq_true rfl | ((repeat (first | assumption | apply Byt.drop | apply Byt.take)); done) | fail) only [go_sem, ↓reduceIte, reduceEqDiff, reduceLeDiff, reduceLT, reduceAdd, reduceMul, reduceSub, reduceMod, reducePow, reduceDiv, reduceOr, reduceShiftLeft, Nat.reduceBEq, reduceGT, reduceSucc] <;> exact rfl)
    ·
      refine k.ev ?_
      simp (disch := first | assumption | omega | rfl | (simp only [sxP, Bool.and_self, length_cons, length_nil, length_take, length_drop, ↓reduceIte, reduceEqDiff]; first | done | omega) | exact Nat.le_of_ble_eq_true rfl | ((repeat (first | assumption | apply Byt.drop | apply Byt.take)); done) | fail) only [go_sem, ↓reduceIte, reduceEqDiff, reduceLeDiff, reduceLT, reduceAdd, reduceMul, reduceSub, reduceMod, reducePow, reduceDiv, reduceOr, reduceShiftLeft, Nat.reduceBEq, reduceGT, reduceSucc, drow, cellsD_mk, cellsL_nil, cbare, f26, cdig]
      refine ⟨_, rfl, ?_⟩
      simp only [Behind, InBlk, Cut, if_true, ↓reduceIte]
      apply fin_of (Or.inr rfl)
      iterate 5 (simp (disch := first | assumption | omega | rfl | (simp only [sxP, Bool.and_self, length_cons, length_nil, length_take, length_drop, ↓reduceIte, reduceEqDiff]; first | done | omega) | exact Nat.le_of_ble_eq_true rfl | ((repeat (first | assumption | apply Byt.drop | apply Byt.take)); done) | fail) only [go_sem, ↓reduceIte, reduceEqDiff, reduceLeDiff, reduceLT, reduceAdd, reduceMul, reduceSub, reduceMod, reducePow, reduceDiv, reduceOr, reduceShiftLeft, Nat.reduceBEq, reduceGT, reduceSucc] <;> exact rfl)
theorem may_all {P : Program} {w0 : World} (B : Bx P w0) : ∀ (n : Nat) (d : DT), MayD d → SizeOf.sizeOf d < n → SC P w0 11 [encD d] (H [] 0 true) (.bool true) (H [] 0 true) := by
  intro n
  induction n with
  | zero => intro d _ h; omega
  | succ n ih =>
    intro d hp hn
    have hE : OrcOk P w0 (withG 50 gDig noO) := (noO_ok P w0).withG orc0_ext (known0 false (fun _ => rfl) (fun _ => rfl) fun _ _ => sc_ev (noO_ok P w0) B.mixed B.glob B.env dig_ev)
    exact may_sc B (may_known hE n ih) rfl rfl rfl rfl d hp hn
open Nat (reduceEqDiff reduceLeDiff reduceLT reduceAdd reduceMul reduceSub reduceMod reducePow reduceDiv reduceOr reduceShiftLeft reduceGT reduceSucc)
open List (length_cons length_nil length_take length_drop)
open T
set_option maxRecDepth 100000
theorem vUsd_opn (j n : Nat) (h : n ≠ 0) : vUsd (.sl j 0 n (.opn 1)) = some (.ptr j 0) := by
  cases n with
  | zero => exact absurd rfl h
  | succ n => rfl
theorem unbytes_bytes' {l : List Nat} (hb : Byt l) : unbytesO (some (bytesV l)) = some l := by rw [unbytesO_some]; exact unbytes_bytes hb
theorem oUst_row {l : List (Nat × Option AObj)} {n m j k0 : Nat} {ks : List Nat} {b fz : Bool} {out : List Nat} {ik : IntKind} (hg : getA l j = some (.row 5 (bytesV out) true fz)) (hk : memN j ks = true) (h0 : out ≠ []) (hb : Byt out) (hl : out.length < 1000000000) :
    oUst (KL l n m b [] (some (k0, ks))) 5 (.ptr j 0) (.int ik (.ofNat out.length)) = some (.str out, KL ((j, some (.row 5 (bytesV out) true true)) :: l) n (mark m j) b [] (some (k0, ks))) := by
  obtain ⟨q, hq⟩ : ∃ q, out.length = q + 1 := by
    cases out with
    | nil => exact absurd rfl h0
    | cons a r => exact ⟨r.length, rfl⟩
  have hc : cut (bytesV out) 0 (Nat.succ q) = some (bytesV out) := by
    have := cut_bytes out; rw [Nat.mul_eq, Nat.mul_one, hq] at this; exact this
  have hget : (KL l n m b [] (some (k0, ks))).get j = some (.row 5 (bytesV out) true fz) := by
    rw [KL_getS, hk, hg]
    show (bif Nat.ble k0 j then _ else _) = _
    cases Nat.ble k0 j <;> rfl
  rw [hq]
  simp only [oUst, hget, beq_iff.2 (rfl : (5 : Nat) = 5), blt_iff.2 (show q < 9223372036854775807 by omega), Bool.and_self, cond_true, hc, unbytes_bytes' hb]
  rfl
theorem write_sc {P : Program} {w0 : World} (B : Bx P w0) {O : Orc} (hO : OrcOk P w0 O) (o20 : O 20 = none) (o21 : O 21 = none) (o36 : O 36 = none) (o41 : O 41 = none) (o72 : O 72 = none) (o43 : O 43 = none) (h19 : O 19 = some gItm) {n : Nat} (h40 : O 40 = some (gWa n)) {N : Nat} (h11 : O 11 = some (gMay N)) (d : DT) (disp : Bool) (t0 : List Nat) (ht : textF (n + 1) d = some t0) (hk2 : kindD d ≠ .ofNat 2) (hb : t0.length < 1000000) (hbyt : Byt t0) (hm : MayD d) (hN : SizeOf.sizeOf d < N) :
    SC P w0 9 [encD d, .bool disp] (H [] 0 true) (.str t0) (H [] 0 true) := by
  refine Is.sc hO B.mixed B.glob B.env 0 (show env.funs.get 9 = some f9 from rfl) (Nat.le_of_ble_eq_true rfl) mask0 fun C k => ?_
  have cdat := @call_in env O _ _ o20 (show env.funs.get 20 = some f20 from rfl) rfl
  have cstr := @call_in env O _ _ o21 (show env.funs.get 21 = some f21 from rfl) rfl
  have clist := @call_in env O _ _ o43 (show env.funs.get 43 = some f43 from rfl) rfl
  have hmay := may_call h11 hm hN
  obtain ⟨kd, nn, tx, ks, p⟩ := d
  rw [textF] at ht
  simp only [kindD, textD] at ht hk2
  simp only [cellsD_mk] at hmay
  unfold f9
  simp only
  by_cases hk0 : kd = .ofNat 0
  · subst hk0
    simp only [if_true] at ht
    cases ht
    have hws := fun l nx m => ws_first o36 o72 l nx m 1 true disp [40, 41] (by simp) (by simp)
    have hus := fun l nx m k0 hg => @oUst_row l nx m 3 k0 [3] true false [40, 41] .i64 hg rfl (by simp) hbyt (by simp)
    simp only [List.length_cons, List.length_nil, Nat.reduceAdd, bytesV] at hus
    refine tri_seq (k.ev ?_)
    simp (disch := first | assumption | omega | rfl | (simp only [sxP, Bool.and_self, length_cons, length_nil, length_take, length_drop, ↓reduceIte, reduceEqDiff]; first | done | omega) | exact Nat.le_of_ble_eq_true rfl | ((repeat (first | assumption | apply Byt.drop | apply Byt.take)); done) | fail) only [go_sem, ↓reduceIte, reduceEqDiff, reduceLeDiff, reduceLT, reduceAdd, reduceMul, reduceSub, reduceMod, reducePow, reduceDiv, reduceOr, reduceShiftLeft, Nat.reduceBEq, reduceGT, reduceSucc, encD, cellsD_mk]
    refine ⟨_, rfl, ?_⟩
    simp only [Behind, InBlk, Cut, if_true, ↓reduceIte]
    refine tri_seq (k.ev ?_)
    simp (disch := first | assumption | omega | rfl | (simp only [sxP, Bool.and_self, length_cons, length_nil, length_take, length_drop, ↓reduceIte, reduceEqDiff]; first | done | omega) | exact Nat.le_of_ble_eq_true rfl | ((repeat (first | assumption | apply Byt.drop | apply Byt.take)); done) | fail) only [go_sem, ↓reduceIte, reduceEqDiff, reduceLeDiff, reduceLT, reduceAdd, reduceMul, reduceSub, reduceMod, reducePow, reduceDiv, reduceOr, reduceShiftLeft, Nat.reduceBEq, reduceGT, reduceSucc, hmay]
    refine ⟨_, rfl, ?_⟩
    simp only [Behind, InBlk, Cut, if_true, ↓reduceIte]
    refine tri_seq (k.ev ?_)
    simp (disch := first | assumption | omega | rfl | (simp only [sxP, Bool.and_self, length_cons, length_nil, length_take, length_drop, ↓reduceIte, reduceEqDiff]; first | done | omega) | exact Nat.le_of_ble_eq_true rfl | ((repeat (first | assumption | apply Byt.drop | apply Byt.take)); done) | fail) only [go_sem, ↓reduceIte, reduceEqDiff, reduceLeDiff, reduceLT, reduceAdd, reduceMul, reduceSub, reduceMod, reducePow, reduceDiv, reduceOr, reduceShiftLeft, Nat.reduceBEq, reduceGT, reduceSucc]
    refine ⟨_, rfl, ?_⟩
    simp only [Behind, InBlk, Cut, if_true, ↓reduceIte]
    refine tri_seq (k.ev ?_)
    simp (disch := first | assumption | omega | rfl | (simp only [sxP, Bool.and_self, length_cons, length_nil, length_take, length_drop, ↓reduceIte, reduceEqDiff]; first | done | omega) | exact Nat.le_of_ble_eq_true rfl | ((repeat (first | assumption | apply Byt.drop | apply Byt.take)); done) | fail) only [go_sem, ↓reduceIte, reduceEqDiff, reduceLeDiff, reduceLT, reduceAdd, reduceMul, reduceSub, reduceMod, reducePow, reduceDiv, reduceOr, reduceShiftLeft, Nat.reduceBEq, reduceGT, reduceSucc, cdat, f20, hws]
    refine ⟨_, rfl, ?_⟩
    simp only [Behind, InBlk, Cut, if_true, ↓reduceIte]
    refine tri_seq (k.ev ?_)
    simp (disch := first | assumption | omega | rfl | (simp only [sxP, Bool.and_self, length_cons, length_nil, length_take, length_drop, ↓reduceIte, reduceEqDiff]; first | done | omega) | exact Nat.le_of_ble_eq_true rfl | ((repeat (first | assumption | apply Byt.drop | apply Byt.take)); done) | fail) only [go_sem, ↓reduceIte, reduceEqDiff, reduceLeDiff, reduceLT, reduceAdd, reduceMul, reduceSub, reduceMod, reducePow, reduceDiv, reduceOr, reduceShiftLeft, Nat.reduceBEq, reduceGT, reduceSucc, cstr, f21, vUsd_opn, hus]
    refine ⟨_, rfl, ?_⟩
    simp only [Behind, InBlk, Cut, if_true, ↓reduceIte]
    refine k.ev ?_
    simp (disch := first | assumption | omega | rfl | (simp only [sxP, Bool.and_self, length_cons, length_nil, length_take, length_drop, ↓reduceIte, reduceEqDiff]; first | done | omega) | exact Nat.le_of_ble_eq_true rfl | ((repeat (first | assumption | apply Byt.drop | apply Byt.take)); done) | fail) only [go_sem, ↓reduceIte, reduceEqDiff, reduceLeDiff, reduceLT, reduceAdd, reduceMul, reduceSub, reduceMod, reducePow, reduceDiv, reduceOr, reduceShiftLeft, Nat.reduceBEq, reduceGT, reduceSucc]
    refine ⟨_, rfl, ?_⟩
    simp only [Behind, InBlk, Cut, if_true, ↓reduceIte]
    apply fin_of (Or.inr rfl)
    iterate 5 (simp (disch := first | assumption | omega | rfl | (simp only [sxP, Bool.and_self, length_cons, length_nil, length_take, length_drop, ↓reduceIte, reduceEqDiff]; first | done | omega) | exact Nat.le_of_ble_eq_true rfl | ((repeat (first | assumption | apply Byt.drop | apply Byt.take)); done) | fail) only [go_sem, ↓reduceIte, reduceEqDiff, reduceLeDiff, reduceLT, reduceAdd, reduceMul, reduceSub, reduceMod, reducePow, reduceDiv, reduceOr, reduceShiftLeft, Nat.reduceBEq, reduceGT, reduceSucc] <;> exact rfl)
  simp only [hk0, hk2, if_false] at ht
  by_cases hk6 : kd = .ofNat 6
  · subst hk6
    simp only [if_true] at ht
    cases hi : itemsOf 1000000 [] (.mk (.ofNat 6) nn tx ks p) with
    | none => rw [hi] at ht; cases ht
    | some r =>
      obtain ⟨l, ⟨ek, en, et, eks, ep⟩⟩ := r
      rw [hi] at ht
      simp only [wrapF, kindD] at ht
      by_cases he0 : ek = .ofNat 0
      · subst he0
        simp only [if_true] at ht
        cases ha : allF (textF n) l with
        | none => rw [ha] at ht; cases ht
        | some s =>
          rw [ha] at ht
          cases ht
          have hl := itemsOf_len hi
          simp only [List.length_cons, List.length_append, List.length_nil] at hb
          have hitm := itm_call h19 hi
          simp only [cellsD_mk, encD] at hitm
          have hwb1 := fun l nx m => wb_first o41 o72 l nx m 1 true disp 40 (by omega)
          have hwa := fun l nx m => wa_call h40 hl ha [40] disp (by simp only [List.length_cons, List.length_nil]; omega) l nx m true 1 6
          have hwb2 := fun l nx m => wb_call o41 o72 l nx m 1 7 true (40 :: s) disp 41 (by omega) (by simp only [List.length_cons]; omega) (by omega)
          have hus := fun l nx m k0 hg => @oUst_row l nx m 9 k0 [9] true false (40 :: (s ++ [41])) .i64 hg rfl (by simp) hbyt (by simp only [List.length_cons, List.length_append, List.length_nil]; omega)
          simp only [List.length_cons, List.length_nil, Nat.zero_add, bytesV, List.cons_append, List.nil_append] at hwb1 hwa hwb2 hus
          refine tri_seq (k.ev ?_)
          simp (disch := first | assumption | omega | rfl | (simp only [sxP, Bool.and_self, length_cons, length_nil, length_take, length_drop, ↓reduceIte, reduceEqDiff]; first | done | omega) | exact Nat.le_of_ble_eq_true rfl | ((repeat (first | assumption | apply Byt.drop | apply Byt.take)); done) | fail) only [go_sem, ↓reduceIte, reduceEqDiff, reduceLeDiff, reduceLT, reduceAdd, reduceMul, reduceSub, reduceMod, reducePow, reduceDiv, reduceOr, reduceShiftLeft, Nat.reduceBEq, reduceGT, reduceSucc, encD, cellsD_mk]
          refine ⟨_, rfl, ?_⟩
          simp only [Behind, InBlk, Cut, if_true, ↓reduceIte]
          refine tri_seq (k.ev ?_)
          simp (disch := first | assumption | omega | rfl | (simp only [sxP, Bool.and_self, length_cons, length_nil, length_take, length_drop, ↓reduceIte, reduceEqDiff]; first | done | omega) | exact Nat.le_of_ble_eq_true rfl | ((repeat (first | assumption | apply Byt.drop | apply Byt.take)); done) | fail) only [go_sem, ↓reduceIte, reduceEqDiff, reduceLeDiff, reduceLT, reduceAdd, reduceMul, reduceSub, reduceMod, reducePow, reduceDiv, reduceOr, reduceShiftLeft, Nat.reduceBEq, reduceGT, reduceSucc, hmay]
          refine ⟨_, rfl, ?_⟩
          simp only [Behind, InBlk, Cut, if_true, ↓reduceIte]
          refine tri_seq (k.ev ?_)
          simp (disch := first | assumption | omega | rfl | (simp only [sxP, Bool.and_self, length_cons, length_nil, length_take, length_drop, ↓reduceIte, reduceEqDiff]; first | done | omega) | exact Nat.le_of_ble_eq_true rfl | ((repeat (first | assumption | apply Byt.drop | apply Byt.take)); done) | fail) only [go_sem, ↓reduceIte, reduceEqDiff, reduceLeDiff, reduceLT, reduceAdd, reduceMul, reduceSub, reduceMod, reducePow, reduceDiv, reduceOr, reduceShiftLeft, Nat.reduceBEq, reduceGT, reduceSucc]
          refine ⟨_, rfl, ?_⟩
          simp only [Behind, InBlk, Cut, if_true, ↓reduceIte]
          refine tri_seq (k.ev ?_)
          simp (disch := first | assumption | omega | rfl | (simp only [sxP, Bool.and_self, length_cons, length_nil, length_take, length_drop, ↓reduceIte, reduceEqDiff]; first | done | omega) | exact Nat.le_of_ble_eq_true rfl | ((repeat (first | assumption | apply Byt.drop | apply Byt.take)); done) | fail) only [go_sem, ↓reduceIte, reduceEqDiff, reduceLeDiff, reduceLT, reduceAdd, reduceMul, reduceSub, reduceMod, reducePow, reduceDiv, reduceOr, reduceShiftLeft, Nat.reduceBEq, reduceGT, reduceSucc, cdat, f20, clist, f43, hitm, hwb1, hwa, hwb2]
          refine ⟨_, rfl, ?_⟩
          simp only [Behind, InBlk, Cut, if_true, ↓reduceIte]
          refine tri_seq (k.ev ?_)
          simp (disch := first | assumption | omega | rfl | (simp only [sxP, Bool.and_self, length_cons, length_nil, length_take, length_drop, ↓reduceIte, reduceEqDiff]; first | done | omega) | exact Nat.le_of_ble_eq_true rfl | ((repeat (first | assumption | apply Byt.drop | apply Byt.take)); done) | fail) only [go_sem, ↓reduceIte, reduceEqDiff, reduceLeDiff, reduceLT, reduceAdd, reduceMul, reduceSub, reduceMod, reducePow, reduceDiv, reduceOr, reduceShiftLeft, Nat.reduceBEq, reduceGT, reduceSucc, cstr, f21, vUsd_opn, hus]
          refine ⟨_, rfl, ?_⟩
          simp only [Behind, InBlk, Cut, if_true, ↓reduceIte]
          refine k.ev ?_
          simp (disch := first | assumption | omega | rfl | (simp only [sxP, Bool.and_self, length_cons, length_nil, length_take, length_drop, ↓reduceIte, reduceEqDiff]; first | done | omega) | exact Nat.le_of_ble_eq_true rfl | ((repeat (first | assumption | apply Byt.drop | apply Byt.take)); done) | fail) only [go_sem, ↓reduceIte, reduceEqDiff, reduceLeDiff, reduceLT, reduceAdd, reduceMul, reduceSub, reduceMod, reducePow, reduceDiv, reduceOr, reduceShiftLeft, Nat.reduceBEq, reduceGT, reduceSucc]
          refine ⟨_, rfl, ?_⟩
          simp only [Behind, InBlk, Cut, if_true, ↓reduceIte]
          apply fin_of (Or.inr rfl)
          iterate 5 (simp (disch := first | assumption | omega | rfl | (simp only [sxP, Bool.and_self, length_cons, length_nil, length_take, length_drop, ↓reduceIte, reduceEqDiff]; first | done | omega) | exact Nat.le_of_ble_eq_true rfl | ((repeat (first | assumption | apply Byt.drop | apply Byt.take)); done) | fail) only [go_sem, ↓reduceIte, reduceEqDiff, reduceLeDiff, reduceLT, reduceAdd, reduceMul, reduceSub, reduceMod, reducePow, reduceDiv, reduceOr, reduceShiftLeft, Nat.reduceBEq, reduceGT, reduceSucc] <;> exact rfl)
      · simp only [he0, if_false] at ht; cases ht
  · simp only [hk6, if_false] at ht; cases ht
end Go.Proofs.YthcmnajcjapjbaaGreatDoor.Ev

/- Contracts of functions that DatumDeep calls: what a call answers, for all data, by symbolic evaluation. No conditions of its own. -/
import Derived.Test.YthcmnajcjapjbaaGreatDoorDA
set_option linter.unusedSimpArgs false
set_option linter.unusedVariables false
set_option linter.defProp false
namespace Go.Proofs.YthcmnajcjapjbaaGreatDoor.Ev
open Nat (reduceEqDiff reduceLeDiff reduceLT reduceAdd reduceMul reduceSub reduceMod reducePow reduceDiv reduceOr reduceShiftLeft reduceGT reduceSucc)
open List (length_cons length_nil length_take length_drop)
open T
set_option maxRecDepth 100000
def posD : DT → Int | .mk _ _ _ _ p => p
def consD (x e : DT) : DT := .mk (.ofNat 6) (.ofNat 0) [] [x, e] (posD x)
def listD (l : List DT) (e : DT) : DT := l.foldr consD e
def i3 : Nat → Int
  | 0 => .negSucc 0
  | k + 1 => .ofNat k
theorem wrap_m1 : wrapI .i64 (.negSucc 0) = .negSucc 0 := rfl
theorem sub_01 : Int.sub (.ofNat 0) (.ofNat 1) = .negSucc 0 := rfl
theorem takeN_cells (x : DT) (r : List AV) : takeN 5 (cellsD x ++ r) = some (cellsD x) := takeN_pre (cellsD_len x)
theorem takeN_cells1 (x : DT) : takeN 5 (cellsD x) = some (cellsD x) := takeN_all (cellsD_len x)
structure DCell (e : DT) (ce : List AV) : Prop where
  wk : wkL ce = cellsD e
  pure : pureL ce = true
  is : ∃ k n t m ex cs p, ce = [.int .i64 k, .int .i64 n, .str t, .lst m ex cs, .int .i64 p]
  sc : allScal ce = true
theorem DCell.of (e : DT) : DCell e (cellsD e) := ⟨cellsD_wk e, cellsD_pure e, by obtain ⟨k, n, t, ks, p⟩ := e; exact ⟨k, n, t, ks.length, false, cellsL ks, p, by simp only [cellsD_mk]⟩, cellsD_scal e⟩
theorem wkL_append (a b : List AV) : wkL (a ++ b) = wkL a ++ wkL b := by
  induction a with
  | nil => rfl
  | cons v a ih => simp only [List.cons_append, wkL, ih]
theorem DCell.cons {x e : DT} {ce : List AV} (h : DCell e ce) : DCell (consD x e) [.int .i64 (.ofNat 6), .int .i64 (.ofNat 0), .str [], .lst 2 true (cellsD x ++ ce), .int .i64 (posD x)] :=
  ⟨by simp only [wkL, wkV, consD, cellsD_mk, wkL_append, cellsD_wk, h.wk, cellsL_cons, cellsL_nil, List.append_nil, List.length_cons, List.length_nil],
   by simp only [pureL_cons, pureL_nil, pureA_int, pureA_str, pureA_lst, Bool.and_self],
   ⟨_, _, _, _, _, _, _, rfl⟩, by simp only [allScal_c, allScal_n, scal_int, scal_str, scal_lst, Bool.and_self]⟩
def B4 (w : Nat) : Prop := w.testBit 4 = true
def Idle (m : Nat) (l l' : List (Nat × Option AObj)) (nx nx' w w' : Nat) : Prop := m = 0 → l' = l ∧ nx' = nx ∧ w' = w
def bwLoop : ICode := match f103.body with
  | .seq _ (.block _ (.loop b)) => b
  | _ => .skip
def lsRf : List Nat × ICode × ICode := match f56.body with
  | .seq _ (.seq (.seq _ (.block _ (.rf _ ps a b))) _) => (ps, a, b)
  | _ => ([], .skip, .skip)
theorem back_loop {O : Orc} (n : Nat) (ex : Bool) (xs : List DT) (hn : xs.length = n) (hn2 : n < 1000000) (tF : List (Nat × AV)) (h3 : (tmL tF).get 3 = some (.ptr 0 0)) :
    ∀ (m : Nat), m ≤ n → ∀ (l : List (Nat × Option AObj)) (nx w : Nat) (e : DT) (ce : List AV) (T : List (Nat × AV)), DCell e ce → 5 ≤ nx → getA l 0 = some (.row 24 ce false false) → getA l 2 = some (.row 22 [.lst n ex (cellsL xs)] false false) → getA l 4 = some (.loop .ready none (tmL tF) lsRf.1 lsRf.2.1 lsRf.2.2 3) →
      (tmL T).get 0 = some (.yld 4) → (tmL T).get 1 = some (.ptr 2 0) → (tmL T).get 3 = some (.int .i64 (i3 m)) →
      ∃ l' nx' w' ce' T', evC env (evW env O) none (.loop bwLoop) ⟨tmL T, []⟩ (KL l nx w true [] none) = some (.exit 0, ⟨tmL T', []⟩, KL l' nx' w' true [] none) ∧ DCell (listD (xs.take m) e) ce' ∧ 5 ≤ nx' ∧ getA l' 0 = some (.row 24 ce' false false) ∧ getA l' 4 = some (.loop .ready none (tmL tF) lsRf.1 lsRf.2.1 lsRf.2.2 3) ∧ getA l' 1 = getA l 1 ∧ getA l' 3 = getA l 3 ∧ (B4 w ∨ 0 < m → B4 w') ∧ Idle m l l' nx nx' w w' := by
  intro m
  induction m with
  | zero =>
    intro _ l nx w e ce T hc hnx g0 g2 g4 t0 t1 t3
    rw [evC_loop]
    simp (disch := first | assumption | omega | rfl | (simp only [sxP, Bool.and_self, length_cons, length_nil, length_take, length_drop, ↓reduceIte, reduceEqDiff]; first | done | omega) | exact Nat.le_of_ble_eq_true rfl | ((repeat (first | assumption | apply Byt.drop | apply Byt.take)); done) | fail) only [go_sem, ↓reduceIte, reduceEqDiff, reduceLeDiff, reduceLT, reduceAdd, reduceMul, reduceSub, reduceMod, reducePow, reduceDiv, reduceOr, reduceShiftLeft, Nat.reduceBEq, reduceGT, reduceSucc, bwLoop, f103, t0, t1, t3, i3]
    exact ⟨_, _, _, ce, _, rfl, hc, hnx, g0, g4, rfl, rfl, fun h => h.elim id False.elim, fun _ => ⟨rfl, rfl, rfl⟩⟩
  | succ m ih =>
    intro hm l nx w e ce T hc hnx g0 g2 g4 t0 t1 t3
    have hlt : m < xs.length := by omega
    obtain ⟨x, r, hd⟩ : ∃ x r, xs.drop m = x :: r := by
      cases h : xs.drop m with
      | nil => have := congrArg List.length h; simp at this; omega
      | cons x r => exact ⟨x, r, rfl⟩
    obtain ⟨ek, en, et, vm, vx, vc, ep, rfl⟩ := hc.is
    obtain ⟨xk, xn, xt, xks, xp⟩ := x
    have q0 : ¬ 0 = nx := by omega
    have q1 : ¬ 1 = nx := by omega
    have q2 : ¬ 2 = nx := by omega
    have q3 : ¬ 3 = nx := by omega
    have q4 : ¬ 4 = nx := by omega
    have r0 : ¬ nx = 0 := by omega
    have r4 : ¬ nx = 4 := by omega
    have hev : pureA (.lst vm vx vc) = true := by
      simp only [pureA_lst]
    have hp10 : pureL [.int .i64 xk, .int .i64 xn, .str xt, .lst xks.length false (cellsL xks), .int .i64 xp, .int .i64 ek, .int .i64 en, .str et, .lst vm vx vc, .int .i64 ep] = true := by
      simp only [sxP, hev, Bool.and_self]
    have htk : listD (xs.take (m + 1)) e = listD (xs.take m) (consD (.mk xk xn xt xks xp) e) := by
      have h5 : xs.take (m + 1) = xs.take m ++ [.mk xk xn xt xks xp] := by
        rw [List.take_add, hd]; rfl
      rw [h5]; simp only [listD, List.foldr_append, List.foldr_cons, List.foldr_nil]
    have hcc := hc.cons (x := .mk xk xn xt xks xp)
    have fin : ∀ (l1 : List (Nat × Option AObj)) (w1 : Nat) (T1 : List (Nat × AV)), getA l1 0 = some (.row 24 [.int .i64 (.ofNat 6), .int .i64 (.ofNat 0), .str [], .lst 2 true (cellsD (.mk xk xn xt xks xp) ++ [.int .i64 ek, .int .i64 en, .str et, .lst vm vx vc, .int .i64 ep]), .int .i64 xp] false false) → getA l1 2 = some (.row 22 [.lst n ex (cellsL xs)] false false) → getA l1 4 = some (.loop .ready none (tmL tF) lsRf.1 lsRf.2.1 lsRf.2.2 3) → getA l1 1 = getA l 1 → getA l1 3 = getA l 3 →
        (tmL T1).get 0 = some (.yld 4) → (tmL T1).get 1 = some (.ptr 2 0) → (tmL T1).get 3 = some (.int .i64 (i3 m)) → B4 w1 →
        ∃ l' nx' w' ce' T', evC env (evW env O) none (.loop bwLoop) ⟨tmL T1, []⟩ (KL l1 (nx + 1) w1 true [] none) = some (.exit 0, ⟨tmL T', []⟩, KL l' nx' w' true [] none) ∧ DCell (listD (xs.take (m + 1)) e) ce' ∧ 5 ≤ nx' ∧ getA l' 0 = some (.row 24 ce' false false) ∧ getA l' 4 = some (.loop .ready none (tmL tF) lsRf.1 lsRf.2.1 lsRf.2.2 3) ∧ getA l' 1 = getA l 1 ∧ getA l' 3 = getA l 3 ∧ (B4 w ∨ 0 < m + 1 → B4 w') ∧ Idle (m + 1) l l' nx nx' w w' := fun l1 w1 T1 a1 a2 a3 a4 a5 a6 a7 a8 a9 => by
      obtain ⟨l', nx', w', ce', T', k1, k2, k3, k4, k5, k6, k7, k8, k9⟩ := ih (by omega) l1 (nx + 1) w1 _ _ T1 hcc (by omega) a1 a2 a3 a6 a7 a8
      exact ⟨l', nx', w', ce', T', k1, by rw [htk]; exact k2, k3, k4, k5, k6.trans a4, k7.trans a5, fun _ => k8 (.inl a9), fun h => by omega⟩
    rw [evC_loop]
    generalize hK : (fun f t => evC env (evW env O) none (.loop bwLoop) f t) = K
    have i3s : i3 (m + 1) = .ofNat m := rfl
    have hsub : wrapI .i64 (Int.sub (.ofNat m) (.ofNat 1)) = i3 m := by
      cases m with
      | zero => rfl
      | succ k => rw [subI (by omega), wrap64 (by omega)]; rfl
    simp (disch := first | assumption | omega | rfl | (simp only [sxP, Bool.and_self, length_cons, length_nil, length_take, length_drop, ↓reduceIte, reduceEqDiff]; first | done | omega) | exact Nat.le_of_ble_eq_true rfl | ((repeat (first | assumption | apply Byt.drop | apply Byt.take)); done) | fail) only [go_sem, ↓reduceIte, reduceEqDiff, reduceLeDiff, reduceLT, reduceAdd, reduceMul, reduceSub, reduceMod, reducePow, reduceDiv, reduceOr, reduceShiftLeft, Nat.reduceBEq, reduceGT, reduceSucc, bwLoop, f103, lsRf, f56, t0, t1, t3, i3s, hsub, g0, g2, g4, h3, cellsL_drop, hd, cellsL_cons, takeN_cells, cellsD_mk, q0, q1, q2, q3, q4, r0, r4, hc.pure]
    subst hK
    refine fin _ _ _ ?_ ?_ ?_ ?_ ?_ ?_ ?_ ?_ ?_
    · simp (disch := first | assumption | omega | rfl | (simp only [sxP, Bool.and_self, length_cons, length_nil, length_take, length_drop, ↓reduceIte, reduceEqDiff]; first | done | omega) | exact Nat.le_of_ble_eq_true rfl | ((repeat (first | assumption | apply Byt.drop | apply Byt.take)); done) | fail) only [go_sem, ↓reduceIte, reduceEqDiff, reduceLeDiff, reduceLT, reduceAdd, reduceMul, reduceSub, reduceMod, reducePow, reduceDiv, reduceOr, reduceShiftLeft, Nat.reduceBEq, reduceGT, reduceSucc, q0, cellsD_mk]
    · simp (disch := first | assumption | omega | rfl | (simp only [sxP, Bool.and_self, length_cons, length_nil, length_take, length_drop, ↓reduceIte, reduceEqDiff]; first | done | omega) | exact Nat.le_of_ble_eq_true rfl | ((repeat (first | assumption | apply Byt.drop | apply Byt.take)); done) | fail) only [go_sem, ↓reduceIte, reduceEqDiff, reduceLeDiff, reduceLT, reduceAdd, reduceMul, reduceSub, reduceMod, reducePow, reduceDiv, reduceOr, reduceShiftLeft, Nat.reduceBEq, reduceGT, reduceSucc, q2, g2]
    · simp (disch := first | assumption | omega | rfl | (simp only [sxP, Bool.and_self, length_cons, length_nil, length_take, length_drop, ↓reduceIte, reduceEqDiff]; first | done | omega) | exact Nat.le_of_ble_eq_true rfl | ((repeat (first | assumption | apply Byt.drop | apply Byt.take)); done) | fail) only [go_sem, ↓reduceIte, reduceEqDiff, reduceLeDiff, reduceLT, reduceAdd, reduceMul, reduceSub, reduceMod, reducePow, reduceDiv, reduceOr, reduceShiftLeft, Nat.reduceBEq, reduceGT, reduceSucc, q4, lsRf, f56]
    · simp (disch := first | assumption | omega | rfl | (simp only [sxP, Bool.and_self, length_cons, length_nil, length_take, length_drop, ↓reduceIte, reduceEqDiff]; first | done | omega) | exact Nat.le_of_ble_eq_true rfl | ((repeat (first | assumption | apply Byt.drop | apply Byt.take)); done) | fail) only [go_sem, ↓reduceIte, reduceEqDiff, reduceLeDiff, reduceLT, reduceAdd, reduceMul, reduceSub, reduceMod, reducePow, reduceDiv, reduceOr, reduceShiftLeft, Nat.reduceBEq, reduceGT, reduceSucc, q1]
    · simp (disch := first | assumption | omega | rfl | (simp only [sxP, Bool.and_self, length_cons, length_nil, length_take, length_drop, ↓reduceIte, reduceEqDiff]; first | done | omega) | exact Nat.le_of_ble_eq_true rfl | ((repeat (first | assumption | apply Byt.drop | apply Byt.take)); done) | fail) only [go_sem, ↓reduceIte, reduceEqDiff, reduceLeDiff, reduceLT, reduceAdd, reduceMul, reduceSub, reduceMod, reducePow, reduceDiv, reduceOr, reduceShiftLeft, Nat.reduceBEq, reduceGT, reduceSucc, q3]
    · simp (disch := first | assumption | omega | rfl | (simp only [sxP, Bool.and_self, length_cons, length_nil, length_take, length_drop, ↓reduceIte, reduceEqDiff]; first | done | omega) | exact Nat.le_of_ble_eq_true rfl | ((repeat (first | assumption | apply Byt.drop | apply Byt.take)); done) | fail) only [go_sem, ↓reduceIte, reduceEqDiff, reduceLeDiff, reduceLT, reduceAdd, reduceMul, reduceSub, reduceMod, reducePow, reduceDiv, reduceOr, reduceShiftLeft, Nat.reduceBEq, reduceGT, reduceSucc, t0]
    · simp (disch := first | assumption | omega | rfl | (simp only [sxP, Bool.and_self, length_cons, length_nil, length_take, length_drop, ↓reduceIte, reduceEqDiff]; first | done | omega) | exact Nat.le_of_ble_eq_true rfl | ((repeat (first | assumption | apply Byt.drop | apply Byt.take)); done) | fail) only [go_sem, ↓reduceIte, reduceEqDiff, reduceLeDiff, reduceLT, reduceAdd, reduceMul, reduceSub, reduceMod, reducePow, reduceDiv, reduceOr, reduceShiftLeft, Nat.reduceBEq, reduceGT, reduceSucc, t1]
    · simp (disch := first | assumption | omega | rfl | (simp only [sxP, Bool.and_self, length_cons, length_nil, length_take, length_drop, ↓reduceIte, reduceEqDiff]; first | done | omega) | exact Nat.le_of_ble_eq_true rfl | ((repeat (first | assumption | apply Byt.drop | apply Byt.take)); done) | fail) only [go_sem, ↓reduceIte, reduceEqDiff, reduceLeDiff, reduceLT, reduceAdd, reduceMul, reduceSub, reduceMod, reducePow, reduceDiv, reduceOr, reduceShiftLeft, Nat.reduceBEq, reduceGT, reduceSucc]
    · simp only [B4, Nat.testBit_or, Nat.testBit_shiftLeft, Nat.reduceShiftLeft]
      simp (decide := true)
open Nat (reduceEqDiff reduceLeDiff reduceLT reduceAdd reduceMul reduceSub reduceMod reducePow reduceDiv reduceOr reduceShiftLeft reduceGT reduceSucc)
open List (length_cons length_nil length_take length_drop)
open T
set_option maxRecDepth 100000
theorem list_sc {P : Program} {w0 : World} (B : Bx P w0) {O : Orc} (hO : OrcOk P w0 O) (o1 : O 85 = none) (o2 : O 103 = none)
    (l : List DT) (e : DT) (hl : l.length < 1000000) :
    SC P w0 56 [.lst l.length false (cellsL l), encD e] (H [] 0 true) (encD (listD l e)) (H [] 0 true) := by
  refine Is.sc hO B.mixed B.glob B.env 0 (show env.funs.get 56 = some f56 from rfl) (Nat.le_of_ble_eq_true rfl) mask0 fun C k => ?_
  have c1 := @call_in env O _ _ o1 (show env.funs.get 85 = some f85 from rfl) rfl
  have c2 := @call_in env O _ _ o2 (show env.funs.get 103 = some f103 from rfl) rfl
  unfold f56
  simp only
  refine tri_seq (k.ev ?_)
  simp (disch := first | assumption | omega | rfl | (simp only [sxP, Bool.and_self, length_cons, length_nil, length_take, length_drop, ↓reduceIte, reduceEqDiff]; first | done | omega) | exact Nat.le_of_ble_eq_true rfl | ((repeat (first | assumption | apply Byt.drop | apply Byt.take)); done) | fail) only [go_sem, ↓reduceIte, reduceEqDiff, reduceLeDiff, reduceLT, reduceAdd, reduceMul, reduceSub, reduceMod, reducePow, reduceDiv, reduceOr, reduceShiftLeft, Nat.reduceBEq, reduceGT, reduceSucc, encD]
  refine ⟨_, rfl, ?_⟩
  simp only [Behind, InBlk, Cut, if_true, ↓reduceIte]
  obtain ⟨l', nx', w', ce', T', k1, k2, k3, k4, k5, k6, k7, k8, k9⟩ := back_loop (O := O) l.length false l rfl hl [(8, .fn 103 [] [.ptr 2 0]), (7, .lst l.length false (cellsL l)), (4, .ptr 1 0), (3, .ptr 0 0), (1, .agg (cellsD e)), (0, .lst l.length false (cellsL l))] (by simp (disch := first | assumption | omega | rfl | (simp only [sxP, Bool.and_self, length_cons, length_nil, length_take, length_drop, ↓reduceIte, reduceEqDiff]; first | done | omega) | exact Nat.le_of_ble_eq_true rfl | ((repeat (first | assumption | apply Byt.drop | apply Byt.take)); done) | fail) only [go_sem, ↓reduceIte, reduceEqDiff, reduceLeDiff, reduceLT, reduceAdd, reduceMul, reduceSub, reduceMod, reducePow, reduceDiv, reduceOr, reduceShiftLeft, Nat.reduceBEq, reduceGT, reduceSucc]) l.length (Nat.le_refl _) [(4, some (.loop .ready none (tmL [(8, .fn 103 [] [.ptr 2 0]), (7, .lst l.length false (cellsL l)), (4, .ptr 1 0), (3, .ptr 0 0), (1, .agg (cellsD e)), (0, .lst l.length false (cellsL l))]) lsRf.1 lsRf.2.1 lsRf.2.2 3)), (3, some .dfd), (2, some (.row 22 [.lst l.length false (cellsL l)] false false)), (1, some (.row 24 [.int .i64 (.ofNat 0), .int .i64 (.ofNat 0), .str [], .nils, .int .i64 (.ofNat 0)] false false)), (0, some (.row 24 (cellsD e) false false))] 5 0 e (cellsD e) [(3, .int .i64 (i3 l.length)), (6, .int .i64 (i3 l.length)), (5, .int .i64 (.ofNat l.length)), (4, .lst l.length false (cellsL l)), (1, .ptr 2 0), (0, .yld 4)] (DCell.of e) (Nat.le_refl _) rfl rfl rfl (by simp (disch := first | assumption | omega | rfl | (simp only [sxP, Bool.and_self, length_cons, length_nil, length_take, length_drop, ↓reduceIte, reduceEqDiff]; first | done | omega) | exact Nat.le_of_ble_eq_true rfl | ((repeat (first | assumption | apply Byt.drop | apply Byt.take)); done) | fail) only [go_sem, ↓reduceIte, reduceEqDiff, reduceLeDiff, reduceLT, reduceAdd, reduceMul, reduceSub, reduceMod, reducePow, reduceDiv, reduceOr, reduceShiftLeft, Nat.reduceBEq, reduceGT, reduceSucc]) (by simp (disch := first | assumption | omega | rfl | (simp only [sxP, Bool.and_self, length_cons, length_nil, length_take, length_drop, ↓reduceIte, reduceEqDiff]; first | done | omega) | exact Nat.le_of_ble_eq_true rfl | ((repeat (first | assumption | apply Byt.drop | apply Byt.take)); done) | fail) only [go_sem, ↓reduceIte, reduceEqDiff, reduceLeDiff, reduceLT, reduceAdd, reduceMul, reduceSub, reduceMod, reducePow, reduceDiv, reduceOr, reduceShiftLeft, Nat.reduceBEq, reduceGT, reduceSucc]) (by simp (disch := first | assumption | omega | rfl | (simp only [sxP, Bool.and_self, length_cons, length_nil, length_take, length_drop, ↓reduceIte, reduceEqDiff]; first | done | omega) | exact Nat.le_of_ble_eq_true rfl | ((repeat (first | assumption | apply Byt.drop | apply Byt.take)); done) | fail) only [go_sem, ↓reduceIte, reduceEqDiff, reduceLeDiff, reduceLT, reduceAdd, reduceMul, reduceSub, reduceMod, reducePow, reduceDiv, reduceOr, reduceShiftLeft, Nat.reduceBEq, reduceGT, reduceSucc])
  have hsub : wrapI .i64 (Int.sub (.ofNat l.length) (.ofNat 1)) = i3 l.length := by
    revert hl
    cases l.length with
    | zero => intro _; rfl
    | succ k => intro hl; rw [subI (by omega), wrap64 (by omega)]; rfl
  simp only [bwLoop, f103, lsRf, f56] at k1 k5
  by_cases hz : l.length = 0
  · have hl0 : l = [] := List.length_eq_zero_iff.1 hz
    obtain ⟨rfl, rfl, rfl⟩ := k9 hz
    subst hl0
    simp only [List.length_nil, i3] at k1
    obtain ⟨ek, en, et, eks, ep⟩ := e
    refine tri_seq (k.ev ?_)
    simp (disch := first | assumption | omega | rfl | (simp only [sxP, Bool.and_self, length_cons, length_nil, length_take, length_drop, ↓reduceIte, reduceEqDiff]; first | done | omega) | exact Nat.le_of_ble_eq_true rfl | ((repeat (first | assumption | apply Byt.drop | apply Byt.take)); done) | fail) only [go_sem, ↓reduceIte, reduceEqDiff, reduceLeDiff, reduceLT, reduceAdd, reduceMul, reduceSub, reduceMod, reducePow, reduceDiv, reduceOr, reduceShiftLeft, Nat.reduceBEq, reduceGT, reduceSucc, c1, f85, c2, f103, sub_01, wrap_m1, k1, k5]
    refine ⟨_, rfl, ?_⟩
    simp only [Behind, cellsD_mk]
    refine k.ev ?_
    simp (disch := first | assumption | omega | rfl | (simp only [sxP, Bool.and_self, length_cons, length_nil, length_take, length_drop, ↓reduceIte, reduceEqDiff]; first | done | omega) | exact Nat.le_of_ble_eq_true rfl | ((repeat (first | assumption | apply Byt.drop | apply Byt.take)); done) | fail) only [go_sem, ↓reduceIte, reduceEqDiff, reduceLeDiff, reduceLT, reduceAdd, reduceMul, reduceSub, reduceMod, reducePow, reduceDiv, reduceOr, reduceShiftLeft, Nat.reduceBEq, reduceGT, reduceSucc]
    refine ⟨_, rfl, ?_⟩
    simp only [Behind, InBlk, Cut, if_true, ↓reduceIte]
    apply fin_of (Or.inr rfl)
    iterate 5 (simp (disch := first | assumption | omega | rfl | (simp only [sxP, Bool.and_self, length_cons, length_nil, length_take, length_drop, ↓reduceIte, reduceEqDiff]; first | done | omega) | exact Nat.le_of_ble_eq_true rfl | ((repeat (first | assumption | apply Byt.drop | apply Byt.take)); done) | fail) only [go_sem, ↓reduceIte, reduceEqDiff, reduceLeDiff, reduceLT, reduceAdd, reduceMul, reduceSub, reduceMod, reducePow, reduceDiv, reduceOr, reduceShiftLeft, Nat.reduceBEq, reduceGT, reduceSucc, listD, List.foldr_nil, cellsD_mk, cellsL_wk] <;> exact rfl)
  · have hw : ¬ w' % 32 = 0 := fun h => by
      have h1 := k8 (.inr (by omega))
      have h2 : (w' % 2 ^ 5).testBit 4 = true := by rw [Nat.testBit_mod_two_pow]; simpa [B4] using h1
      rw [show (2 : Nat) ^ 5 = 32 from rfl, h] at h2; simp at h2
    rw [List.take_of_length_le (Nat.le_refl _)] at k2
    obtain ⟨ck, cn, ct, cm, cx, cs, cp, rfl⟩ := k2.is
    have hcv := k2.wk
    have hi : i3 l.length = .ofNat (l.length - 1) := by cases h : l.length with | zero => exact absurd h hz | succ n => rfl
    simp only [hi] at k1
    refine tri_seq (k.ev ?_)
    simp (disch := first | assumption | omega | rfl | (simp only [sxP, Bool.and_self, length_cons, length_nil, length_take, length_drop, ↓reduceIte, reduceEqDiff]; first | done | omega) | exact Nat.le_of_ble_eq_true rfl | ((repeat (first | assumption | apply Byt.drop | apply Byt.take)); done) | fail) only [go_sem, ↓reduceIte, reduceEqDiff, reduceLeDiff, reduceLT, reduceAdd, reduceMul, reduceSub, reduceMod, reducePow, reduceDiv, reduceOr, reduceShiftLeft, Nat.reduceBEq, reduceGT, reduceSucc, c1, f85, c2, f103, hsub, k1, k5, hw]
    refine ⟨_, rfl, ?_⟩
    simp only [Behind]
    refine k.ev ?_
    simp (disch := first | assumption | omega | rfl | (simp only [sxP, Bool.and_self, length_cons, length_nil, length_take, length_drop, ↓reduceIte, reduceEqDiff]; first | done | omega) | exact Nat.le_of_ble_eq_true rfl | ((repeat (first | assumption | apply Byt.drop | apply Byt.take)); done) | fail) only [go_sem, ↓reduceIte, reduceEqDiff, reduceLeDiff, reduceLT, reduceAdd, reduceMul, reduceSub, reduceMod, reducePow, reduceDiv, reduceOr, reduceShiftLeft, Nat.reduceBEq, reduceGT, reduceSucc, k4, k6]
    refine ⟨_, rfl, ?_⟩
    simp only [Behind, InBlk, Cut, if_true, ↓reduceIte]
    apply fin_of (Or.inr rfl)
    iterate 3 (simp (disch := first | assumption | omega | rfl | (simp only [sxP, Bool.and_self, length_cons, length_nil, length_take, length_drop, ↓reduceIte, reduceEqDiff]; first | done | omega) | exact Nat.le_of_ble_eq_true rfl | ((repeat (first | assumption | apply Byt.drop | apply Byt.take)); done) | fail) only [go_sem, ↓reduceIte, reduceEqDiff, reduceLeDiff, reduceLT, reduceAdd, reduceMul, reduceSub, reduceMod, reducePow, reduceDiv, reduceOr, reduceShiftLeft, Nat.reduceBEq, reduceGT, reduceSucc, k4, k6, k7]; exact rfl)
    · simp only [wkV, hcv]
    · simp (disch := first | assumption | omega | rfl | (simp only [sxP, Bool.and_self, length_cons, length_nil, length_take, length_drop, ↓reduceIte, reduceEqDiff]; first | done | omega) | exact Nat.le_of_ble_eq_true rfl | ((repeat (first | assumption | apply Byt.drop | apply Byt.take)); done) | fail) only [go_sem, ↓reduceIte, reduceEqDiff, reduceLeDiff, reduceLT, reduceAdd, reduceMul, reduceSub, reduceMod, reducePow, reduceDiv, reduceOr, reduceShiftLeft, Nat.reduceBEq, reduceGT, reduceSucc, Nat.mod_one, Nat.or_self]
open Nat (reduceEqDiff reduceLeDiff reduceLT reduceAdd reduceMul reduceSub reduceMod reducePow reduceDiv reduceOr reduceShiftLeft reduceGT reduceSucc)
open List (length_cons length_nil length_take length_drop)
open T
set_option maxRecDepth 100000
structure RS where
  at_ : Nat
  err : Nat
  fp : Nat
def RS.fell (s : RS) (e p : Nat) : RS := if s.err = 0 then ⟨s.at_, e, p⟩ else s
def rowD (ts : List Tok) (s : RS) : List AV := [.lst ts.length false (cellsTs ts), .int .i64 (.ofNat s.at_), .int .i64 (.ofNat s.err), .int .i64 (.ofNat s.fp)]
def rdD (ts : List Tok) (s : RS) : AObj := .row 66 (rowD ts s) false false
def t00 : Tok := ⟨0, 0, d0⟩
def itemsF (dt : Nat → RS → Option (DT × RS)) (ts : List Tok) (op : Nat) : Nat → List DT → RS → Option (List DT × Tok × RS)
  | 0, _, _ => none
  | k + 1, acc, s =>
    if ts.length < s.at_ ∨ 1000000 ≤ acc.length then none
    else if s.err ≠ 0 then some (acc, t00, s)
    else match ts.drop s.at_ with
      | t :: _ => if t.kind = 2 then some (acc, t, ⟨s.at_ + 1, s.err, s.fp⟩) else if t.kind = 6 then none else
        match dt op s with
        | none => none
        | some (d, s') => itemsF dt ts op k (acc ++ [d]) s'
      | [] => match dt op s with
        | none => none
        | some (d, s') => itemsF dt ts op k (acc ++ [d]) s'
def endDT (p : Int) : DT := .mk (.ofNat 0) (.ofNat 0) [] [] p
def atD (d : DT) (p : Int) : DT := match d with | .mk k n t ks _ => .mk k n t ks p
def datumF : Nat → List Tok → Nat → Nat → RS → Option (DT × RS)
  | 0, _, _, _, _ => none
  | n + 1, ts, dep, op, s =>
    if ts.length < s.at_ then none else
    match ts.drop s.at_ with
    | [] => some (d0, s.fell 7 op)
    | t :: _ =>
      if t.kind = 7 then some (t.d, ⟨s.at_ + 1, s.err, s.fp⟩)
      else if t.kind = 2 then some (d0, RS.fell ⟨s.at_ + 1, s.err, s.fp⟩ 7 t.pos)
      else if t.kind ≠ 1 then none
      else if 200 ≤ dep then some (d0, RS.fell ⟨s.at_ + 1, s.err, s.fp⟩ 5 t.pos)
      else match itemsF (fun o r => datumF n ts (dep + 1) o r) ts t.pos 1000000 [] ⟨s.at_ + 1, s.err, s.fp⟩ with
        | none => none
        | some (l, c, s2) => some (atD (listD l (endDT (.ofNat c.pos))) (.ofNat t.pos), s2)
abbrev DX := List Tok × Nat × Nat × RS
def encDt (x : DX) : Nat × List AV × List AV := (66, rowD x.1 x.2.2.2, [.int .i64 (.ofNat x.2.1), .int .i64 (.ofNat x.2.2.1)])
def encIt (x : DX) : Nat × List AV × List AV := (66, rowD x.1 x.2.2.2, [.int .i64 (.ofNat x.2.1), .int .i64 (.ofNat x.2.2.1), .bool true])
def PreDt (n : Nat) (x : DX) : Prop := x.1.length < 1000000 ∧ x.2.1 + n ≤ 100000 ∧ ∃ r, datumF n x.1 x.2.1 x.2.2.1 x.2.2.2 = some r
def dtF (n : Nat) (x : DX) : AV × List AV := match datumF n x.1 x.2.1 x.2.2.1 x.2.2.2 with
  | some (d, s) => (encD d, rowD x.1 s)
  | none => (.bool true, [])
noncomputable def gDt (n : Nat) : List AV → St → Option (AV × St) := orc1 encDt (PreDt n) (dtF n)
theorem rowD_inj {ts ts' : List Tok} {s s' : RS} (h : rowD ts s = rowD ts' s') : ts = ts' ∧ s = s' := by
  obtain ⟨a, b, c⟩ := s
  obtain ⟨a', b', c'⟩ := s'
  simp only [rowD, List.cons.injEq, AV.lst.injEq, AV.int.injEq, true_and, and_true] at h
  obtain ⟨⟨_, h1⟩, h2, h3, h4⟩ := h
  cases h2; cases h3; cases h4
  exact ⟨cellsTs_inj h1, rfl⟩
theorem encDt_inj : ∀ x y, encDt x = encDt y → x = y := fun ⟨ts, dep, op, s⟩ ⟨ts', dep', op', s'⟩ h => by
  simp only [encDt, Prod.mk.injEq, List.cons.injEq, AV.int.injEq, true_and, and_true] at h
  obtain ⟨h1, h2, h3⟩ := h
  obtain ⟨rfl, rfl⟩ := rowD_inj h1
  cases h2; cases h3; rfl
theorem encIt_inj : ∀ x y, encIt x = encIt y → x = y := fun ⟨ts, dep, op, s⟩ ⟨ts', dep', op', s'⟩ h => by
  simp only [encIt, Prod.mk.injEq, List.cons.injEq, AV.int.injEq, true_and, and_true] at h
  obtain ⟨h1, h2, h3⟩ := h
  obtain ⟨rfl, rfl⟩ := rowD_inj h1
  cases h2; cases h3; rfl
theorem rowD_pure (ts : List Tok) (s : RS) : pureL (rowD ts s) = true := by simp only [rowD, pureL_cons, pureL_nil, pureA_lst, pureA_int, Bool.and_self]
theorem rowD_wk (ts : List Tok) (s : RS) : wkL (rowD ts s) = rowD ts s := by simp only [rowD, wkL, wkV, cellsTs_wk]
theorem encD_pure (d : DT) : pureA (encD d) = true := by simp only [encD, pureA_agg, cellsD_pure]
theorem dt_call {O : Orc} {n : Nat} (h : O 32 = some (gDt n)) {ts : List Tok} {dep op : Nat} {s s' : RS} {d : DT} (hts : ts.length < 1000000) (hdep : dep + n ≤ 100000) (hd : datumF n ts dep op s = some (d, s')) (l : List (Nat × Option AObj)) (nx m : Nat) (md : Bool) (id : Nat) (hg : getA l id = some (.row 66 (rowD ts s) false false)) :
    (evW env O).call 32 [.ptr id 0, .int .i64 (.ofNat dep), .int .i64 (.ofNat op)] (KL l nx m md [] none) = some (encD d, KL ((id, some (.row 66 (rowD ts s') false false)) :: l) nx (mark m id) md [] none) := by
  rw [call_known h, gDt, orc1_call, KL_get0, hg, orc1K_eq encDt_inj _ _ (ts, dep, op, s) ⟨hts, hdep, _, hd⟩ (by simp only [encDt, rowD_wk, wkL, wkV])]
  simp only [dtF, hd]
  rfl
theorem dt_known {P : Program} {w0 : World} {O : Orc} (hO : OrcOk P w0 O) (n : Nat) (h : ∀ (ts : List Tok) (dep op : Nat) (s s' : RS) (d : DT), ts.length < 1000000 → dep + n ≤ 100000 → datumF n ts dep op s = some (d, s') → SC P w0 32 [.ptr 0 0, .int .i64 (.ofNat dep), .int .i64 (.ofNat op)] (H [some (rdD ts s)] 0 true) (encD d) (H [some (rdD ts s')] 1 true)) : OrcOk P w0 (withG 32 (gDt n) O) :=
  hO.withG orc1_ext (known1 true (fun x hx => by
    obtain ⟨_, _, ⟨d, s'⟩, h3⟩ := hx
    simp only [encDt, dtF, h3]
    exact ⟨rowD_pure _ _, rfl, encD_pure _, rowD_pure _ _⟩) fun x hx => by
    obtain ⟨ts, dep, op, s⟩ := x
    obtain ⟨h1, h2, ⟨d, s'⟩, h3⟩ := hx
    have := h ts dep op s s' d h1 h2 h3
    simp only [encDt, dtF] at h3 ⊢
    rw [h3]; exact this)
def CutP (p : Prop) (C : Cx) (fr1 : Fr) (s1 : St) (Q : Res → Fr → St → Prop) : Res → Fr → St → Prop
  | .norm, f, t => p ∧ Gc C f t fr1 s1
  | r, f, t => Q r f t
theorem tri_cutP {C : Cx} {ia ib : ICode} {fr : Fr} {s : St} {Q : Res → Fr → St → Prop} (p : Prop) (fr1 : Fr) (s1 : St) (h1 : Tri C ia fr s (CutP p C fr1 s1 Q)) (h2 : p → Tri C ib fr1 s1 Q) : Tri C (.seq ia ib) fr s Q :=
  tri_seq (h1.mono fun r f t => by
    cases r with
    | norm => exact fun h => tri_gc h.2 (h2 h.1)
    | exit i => exact fun h => h
    | ret => exact fun h => h)
def accD (acc : List DT) : AV := match acc with
  | [] => .nils
  | t :: r => .gr 2 5 (t :: r).length (cellsL (t :: r))
def accDO (acc : List DT) : List (Option AObj) := match acc with
  | [] => []
  | t :: r => [some (.app 24 (cellsL (t :: r)))]
def trow0 : AObj := .row 44 [.int .i64 (.ofNat 0), .int .i64 (.ofNat 0), .int .i64 (.ofNat 0), .int .i64 (.ofNat 0), .str [], .nils, .int .i64 (.ofNat 0)] false false
theorem cellsT_mk (k p : Nat) (dk dn : Int) (dt : List Nat) (dks : List DT) (dp : Int) : cellsT ⟨k, p, .mk dk dn dt dks dp⟩ = [.int .i64 (.ofNat k), .int .i64 (.ofNat p), .int .i64 dk, .int .i64 dn, .str dt, .lst dks.length false (cellsL dks), .int .i64 dp] := by simp only [cellsT, cellsD_mk]
theorem takeN_cellsT (t : Tok) (r : List AV) : takeN 7 (cellsT t ++ r) = some (cellsT t) := takeN_pre (cellsT_len t)
theorem takeN_cellsT1 (t : Tok) : takeN 7 (cellsT t) = some (cellsT t) := takeN_all (cellsT_len t)
theorem items_sc {P : Program} {w0 : World} (B : Bx P w0) {O : Orc} (hO : OrcOk P w0 O) (o54 : O 54 = none) {n : Nat} (h32 : O 32 = some (gDt n)) (ts : List Tok) (hts : ts.length < 1000000) (dep op k0 : Nat) (hdep : dep + 1 + n ≤ 100000) (s0 s' : RS) (l : List DT) (t : Tok) (h0 : itemsF (fun o r => datumF n ts (dep + 1) o r) ts op k0 [] s0 = some (l, t, s')) :
    SC P w0 58 [.ptr 0 0, .int .i64 (.ofNat dep), .int .i64 (.ofNat op), .bool true] (H [some (rdD ts s0)] 0 true) (.tup [.lst l.length false (cellsL l), .agg (cellsT t)]) (H [some (rdD ts s')] 1 true) := by
  refine Is.sc hO B.mixed B.glob B.env 1 (show env.funs.get 58 = some f58 from rfl) (Nat.le_of_ble_eq_true rfl) (mask1 rfl) fun C k => ?_
  have cnext := @call_in env O _ _ o54 (show env.funs.get 54 = some f54 from rfl) rfl
  unfold f58
  simp only
  refine tri_seq (k.ev ?_)
  simp (disch := first | assumption | omega | rfl | (simp only [sxP, Bool.and_self, length_cons, length_nil, length_take, length_drop, ↓reduceIte, reduceEqDiff]; first | done | omega) | exact Nat.le_of_ble_eq_true rfl | ((repeat (first | assumption | apply Byt.drop | apply Byt.take)); done) | fail) only [go_sem, ↓reduceIte, reduceEqDiff, reduceLeDiff, reduceLT, reduceAdd, reduceMul, reduceSub, reduceMod, reducePow, reduceDiv, reduceOr, reduceShiftLeft, Nat.reduceBEq, reduceGT, reduceSucc, rdD, rowD]
  refine ⟨_, rfl, ?_⟩
  simp only [Behind, InBlk, Cut, if_true, ↓reduceIte]
  refine tri_seq (k.ev ?_)
  simp (disch := first | assumption | omega | rfl | (simp only [sxP, Bool.and_self, length_cons, length_nil, length_take, length_drop, ↓reduceIte, reduceEqDiff]; first | done | omega) | exact Nat.le_of_ble_eq_true rfl | ((repeat (first | assumption | apply Byt.drop | apply Byt.take)); done) | fail) only [go_sem, ↓reduceIte, reduceEqDiff, reduceLeDiff, reduceLT, reduceAdd, reduceMul, reduceSub, reduceMod, reducePow, reduceDiv, reduceOr, reduceShiftLeft, Nat.reduceBEq, reduceGT, reduceSucc, rdD, rowD]
  refine ⟨_, rfl, ?_⟩
  simp only [Behind, InBlk, Cut, if_true, ↓reduceIte]
  refine tri_cutP (t = t00) ⟨tmL [(10, accD l), (9, .ptr 1 0)], []⟩ (H ([some (rdD ts s'), some trow0] ++ accDO l) 1 true) (tri_block (tri_loop (k.gcL [1] [10, 9, 8, 3, 2, 1, 0] true (fr1 := ⟨tmL [(10, accD []), (9, .ptr 1 0), (8, .nils), (3, .bool true), (2, .int .i64 (.ofNat op)), (1, .int .i64 (.ofNat dep)), (0, .ptr 0 0)], []⟩) (s1 := H ([some (rdD ts s0), some trow0] ++ accDO []) 1 true) (by simp (disch := first | assumption | omega | rfl | (simp only [sxP, Bool.and_self, length_cons, length_nil, length_take, length_drop, ↓reduceIte, reduceEqDiff]; first | done | omega) | exact Nat.le_of_ble_eq_true rfl | ((repeat (first | assumption | apply Byt.drop | apply Byt.take)); done) | fail) only [go_sem, ↓reduceIte, reduceEqDiff, reduceLeDiff, reduceLT, reduceAdd, reduceMul, reduceSub, reduceMod, reducePow, reduceDiv, reduceOr, reduceShiftLeft, Nat.reduceBEq, reduceGT, reduceSucc, rdD, rowD, accD, accDO, trow0]) ?_))) ?_
  · refine triL_ind (fun x : Nat × List DT × RS => x.1) (fun x => ⟨tmL [(10, accD x.2.1), (9, .ptr 1 0), (8, .nils), (3, .bool true), (2, .int .i64 (.ofNat op)), (1, .int .i64 (.ofNat dep)), (0, .ptr 0 0)], []⟩) (fun x => H ([some (rdD ts x.2.2), some trow0] ++ accDO x.2.1) 1 true) (fun x => itemsF (fun o r => datumF n ts (dep + 1) o r) ts op x.1 x.2.1 x.2.2 = some (l, t, s')) (fun x hx => ?_) (k0, [], s0) h0
    obtain ⟨kk, acc, ⟨at_, err, fp⟩⟩ := x
    simp only at hx ⊢
    cases kk with
    | zero => simp [itemsF] at hx
    | succ kk =>
      rw [itemsF] at hx
      by_cases hc : ts.length < at_ ∨ 1000000 ≤ acc.length
      · rw [if_pos hc] at hx; cases hx
      rw [if_neg hc] at hx
      have hc1 : ¬ ts.length < at_ := fun h => hc (.inl h)
      have hc2 : acc.length < 1000000 := Nat.lt_of_not_le fun h => hc (.inr h)
      by_cases he : err = 0
      · subst he
        simp only [ne_eq, not_true, if_false] at hx
        cases hd : ts.drop at_ with
        | nil =>
          have h4 : at_ = ts.length := by
            have := congrArg List.length hd; simp at this; omega
          subst h4
          rw [hd] at hx
          simp only at hx
          cases hdt : datumF n ts (dep + 1) op ⟨ts.length, 0, fp⟩ with
          | none => rw [hdt] at hx; cases hx
          | some r1 =>
            obtain ⟨⟨ek, en, et, eks, ep⟩, s1⟩ := r1
            rw [hdt] at hx
            simp only at hx
            have hcall := fun l nx m => dt_call h32 hts hdep hdt l nx m true 0
            simp only [rowD] at hcall
            cases acc with
            | nil =>
              refine k.ev ?_
              simp (disch := first | assumption | omega | rfl | (simp only [sxP, Bool.and_self, length_cons, length_nil, length_take, length_drop, ↓reduceIte, reduceEqDiff]; first | done | omega) | exact Nat.le_of_ble_eq_true rfl | ((repeat (first | assumption | apply Byt.drop | apply Byt.take)); done) | fail) only [go_sem, ↓reduceIte, reduceEqDiff, reduceLeDiff, reduceLT, reduceAdd, reduceMul, reduceSub, reduceMod, reducePow, reduceDiv, reduceOr, reduceShiftLeft, Nat.reduceBEq, reduceGT, reduceSucc, accD, accDO, trow0, rdD, rowD, cnext, f54, hcall, cellsD_mk, encD]
              refine ⟨_, rfl, ?_⟩
              simp only [Behind, InBlk, Cut, if_true, ↓reduceIte]
              refine ⟨(kk, [] ++ [⟨ek, en, et, eks, ep⟩], s1), hx, Nat.lt_succ_self _, ?_⟩
              refine k.gcs (keep := [1, 3]) (live := [10, 9, 8, 3, 2, 1, 0]) (md := true) ?_
              simp only [List.cons_append, List.nil_append, accD, accDO, cellsL_cons, cellsL_append, cellsL_nil, cellsD_mk, List.append_nil, List.append_assoc, List.length_append, List.length_cons, List.length_nil]
              simp (disch := first | assumption | omega | rfl | (simp only [sxP, Bool.and_self, length_cons, length_nil, length_take, length_drop, ↓reduceIte, reduceEqDiff]; first | done | omega) | exact Nat.le_of_ble_eq_true rfl | ((repeat (first | assumption | apply Byt.drop | apply Byt.take)); done) | fail) only [go_sem, ↓reduceIte, reduceEqDiff, reduceLeDiff, reduceLT, reduceAdd, reduceMul, reduceSub, reduceMod, reducePow, reduceDiv, reduceOr, reduceShiftLeft, Nat.reduceBEq, reduceGT, reduceSucc, trow0, rdD, rowD, cellsL_pure, cellsD_pure]
            | cons a0 ar =>
              have hp1 := cellsL_pure (a0 :: ar)
              simp only [List.length_cons] at hc2
              refine k.ev ?_
              simp (disch := first | assumption | omega | rfl | (simp only [sxP, Bool.and_self, length_cons, length_nil, length_take, length_drop, ↓reduceIte, reduceEqDiff]; first | done | omega) | exact Nat.le_of_ble_eq_true rfl | ((repeat (first | assumption | apply Byt.drop | apply Byt.take)); done) | fail) only [go_sem, ↓reduceIte, reduceEqDiff, reduceLeDiff, reduceLT, reduceAdd, reduceMul, reduceSub, reduceMod, reducePow, reduceDiv, reduceOr, reduceShiftLeft, Nat.reduceBEq, reduceGT, reduceSucc, accD, accDO, trow0, rdD, rowD, cnext, f54, hcall, hp1, cellsD_mk, encD]
              refine ⟨_, rfl, ?_⟩
              simp only [Behind, InBlk, Cut, if_true, ↓reduceIte]
              refine ⟨(kk, (a0 :: ar) ++ [⟨ek, en, et, eks, ep⟩], s1), hx, Nat.lt_succ_self _, ?_⟩
              refine k.gcs (keep := [1, 4]) (live := [10, 9, 8, 3, 2, 1, 0]) (md := true) ?_
              simp only [List.cons_append, List.nil_append, accD, accDO, cellsL_cons, cellsL_append, cellsL_nil, cellsD_mk, List.append_nil, List.append_assoc, List.length_append, List.length_cons, List.length_nil]
              simp (disch := first | assumption | omega | rfl | (simp only [sxP, Bool.and_self, length_cons, length_nil, length_take, length_drop, ↓reduceIte, reduceEqDiff]; first | done | omega) | exact Nat.le_of_ble_eq_true rfl | ((repeat (first | assumption | apply Byt.drop | apply Byt.take)); done) | fail) only [go_sem, ↓reduceIte, reduceEqDiff, reduceLeDiff, reduceLT, reduceAdd, reduceMul, reduceSub, reduceMod, reducePow, reduceDiv, reduceOr, reduceShiftLeft, Nat.reduceBEq, reduceGT, reduceSucc, trow0, rdD, rowD, cellsL_pure, cellsD_pure]
        | cons tk tr =>
          have hlt : at_ < ts.length := Nat.lt_of_not_le fun hle => by rw [List.drop_eq_nil_of_le hle] at hd; cases hd
          have h4 : ¬ at_ = ts.length := by omega
          obtain ⟨tk, tp, ⟨dk, dn, dt, dks, dp⟩⟩ := tk
          rw [hd] at hx
          simp only at hx
          by_cases hk2 : tk = 2
          · subst hk2
            simp only [if_true, Option.some.injEq, Prod.mk.injEq] at hx
            obtain ⟨rfl, rfl, rfl⟩ := hx
            cases acc with
            | nil =>
              refine k.ev ?_
              simp (disch := first | assumption | omega | rfl | (simp only [sxP, Bool.and_self, length_cons, length_nil, length_take, length_drop, ↓reduceIte, reduceEqDiff]; first | done | omega) | exact Nat.le_of_ble_eq_true rfl | ((repeat (first | assumption | apply Byt.drop | apply Byt.take)); done) | fail) only [go_sem, ↓reduceIte, reduceEqDiff, reduceLeDiff, reduceLT, reduceAdd, reduceMul, reduceSub, reduceMod, reducePow, reduceDiv, reduceOr, reduceShiftLeft, Nat.reduceBEq, reduceGT, reduceSucc, accD, accDO, trow0, rdD, rowD, cnext, f54, h4, hlt, hd, cellsTs_drop, cellsTs_cons, takeN_cellsT, cellsT_mk]
              refine ⟨_, rfl, ?_⟩
              simp only [Behind, InBlk, Cut, if_true, ↓reduceIte]
              simp only [CutP]
              apply fin_of (Or.inr rfl)
              iterate 5 (simp (disch := first | assumption | omega | rfl | (simp only [sxP, Bool.and_self, length_cons, length_nil, length_take, length_drop, ↓reduceIte, reduceEqDiff]; first | done | omega) | exact Nat.le_of_ble_eq_true rfl | ((repeat (first | assumption | apply Byt.drop | apply Byt.take)); done) | fail) only [go_sem, ↓reduceIte, reduceEqDiff, reduceLeDiff, reduceLT, reduceAdd, reduceMul, reduceSub, reduceMod, reducePow, reduceDiv, reduceOr, reduceShiftLeft, Nat.reduceBEq, reduceGT, reduceSucc, rdD, rowD, cellsT_mk, cellsL_nil, cellsL_wk, cellsTs_wk] <;> exact rfl)
            | cons a0 ar =>
              have hp1 := cellsL_pure (a0 :: ar)
              refine k.ev ?_
              simp (disch := first | assumption | omega | rfl | (simp only [sxP, Bool.and_self, length_cons, length_nil, length_take, length_drop, ↓reduceIte, reduceEqDiff]; first | done | omega) | exact Nat.le_of_ble_eq_true rfl | ((repeat (first | assumption | apply Byt.drop | apply Byt.take)); done) | fail) only [go_sem, ↓reduceIte, reduceEqDiff, reduceLeDiff, reduceLT, reduceAdd, reduceMul, reduceSub, reduceMod, reducePow, reduceDiv, reduceOr, reduceShiftLeft, Nat.reduceBEq, reduceGT, reduceSucc, accD, accDO, trow0, rdD, rowD, cnext, f54, h4, hlt, hd, cellsTs_drop, cellsTs_cons, takeN_cellsT, cellsT_mk, hp1]
              refine ⟨_, rfl, ?_⟩
              simp only [Behind, InBlk, Cut, if_true, ↓reduceIte]
              simp only [CutP]
              apply fin_of (Or.inr rfl)
              iterate 5 (simp (disch := first | assumption | omega | rfl | (simp only [sxP, Bool.and_self, length_cons, length_nil, length_take, length_drop, ↓reduceIte, reduceEqDiff]; first | done | omega) | exact Nat.le_of_ble_eq_true rfl | ((repeat (first | assumption | apply Byt.drop | apply Byt.take)); done) | fail) only [go_sem, ↓reduceIte, reduceEqDiff, reduceLeDiff, reduceLT, reduceAdd, reduceMul, reduceSub, reduceMod, reducePow, reduceDiv, reduceOr, reduceShiftLeft, Nat.reduceBEq, reduceGT, reduceSucc, rdD, rowD, hp1, cellsT_mk, cellsL_nil, cellsL_wk, cellsTs_wk] <;> exact rfl)
          · rw [if_neg hk2] at hx
            by_cases hk6 : tk = 6
            · rw [if_pos hk6] at hx; cases hx
            rw [if_neg hk6] at hx
            cases hdt : datumF n ts (dep + 1) op ⟨at_, 0, fp⟩ with
            | none => rw [hdt] at hx; cases hx
            | some r1 =>
              obtain ⟨⟨ek, en, et, eks, ep⟩, s1⟩ := r1
              rw [hdt] at hx
              simp only at hx
              have hcall := fun l nx m => dt_call h32 hts hdep hdt l nx m true 0
              simp only [rowD] at hcall
              cases acc with
              | nil =>
                refine k.ev ?_
                simp (disch := first | assumption | omega | rfl | (simp only [sxP, Bool.and_self, length_cons, length_nil, length_take, length_drop, ↓reduceIte, reduceEqDiff]; first | done | omega) | exact Nat.le_of_ble_eq_true rfl | ((repeat (first | assumption | apply Byt.drop | apply Byt.take)); done) | fail) only [go_sem, ↓reduceIte, reduceEqDiff, reduceLeDiff, reduceLT, reduceAdd, reduceMul, reduceSub, reduceMod, reducePow, reduceDiv, reduceOr, reduceShiftLeft, Nat.reduceBEq, reduceGT, reduceSucc, accD, accDO, trow0, rdD, rowD, cnext, f54, hcall, cellsD_mk, encD, h4, hlt, hd, cellsTs_drop, cellsTs_cons, takeN_cellsT, cellsT_mk, hk2, hk6]
                refine ⟨_, rfl, ?_⟩
                simp only [Behind, InBlk, Cut, if_true, ↓reduceIte]
                refine ⟨(kk, [] ++ [⟨ek, en, et, eks, ep⟩], s1), hx, Nat.lt_succ_self _, ?_⟩
                refine k.gcs (keep := [1, 3]) (live := [10, 9, 8, 3, 2, 1, 0]) (md := true) ?_
                simp only [List.cons_append, List.nil_append, accD, accDO, cellsL_cons, cellsL_append, cellsL_nil, cellsD_mk, List.append_nil, List.append_assoc, List.length_append, List.length_cons, List.length_nil]
                simp (disch := first | assumption | omega | rfl | (simp only [sxP, Bool.and_self, length_cons, length_nil, length_take, length_drop, ↓reduceIte, reduceEqDiff]; first | done | omega) | exact Nat.le_of_ble_eq_true rfl | ((repeat (first | assumption | apply Byt.drop | apply Byt.take)); done) | fail) only [go_sem, ↓reduceIte, reduceEqDiff, reduceLeDiff, reduceLT, reduceAdd, reduceMul, reduceSub, reduceMod, reducePow, reduceDiv, reduceOr, reduceShiftLeft, Nat.reduceBEq, reduceGT, reduceSucc, trow0, rdD, rowD, cellsL_pure, cellsD_pure]
              | cons a0 ar =>
                have hp1 := cellsL_pure (a0 :: ar)
                simp only [List.length_cons] at hc2
                refine k.ev ?_
                simp (disch := first | assumption | omega | rfl | (simp only [sxP, Bool.and_self, length_cons, length_nil, length_take, length_drop, ↓reduceIte, reduceEqDiff]; first | done | omega) | exact Nat.le_of_ble_eq_true rfl | ((repeat (first | assumption | apply Byt.drop | apply Byt.take)); done) | fail) only [go_sem, ↓reduceIte, reduceEqDiff, reduceLeDiff, reduceLT, reduceAdd, reduceMul, reduceSub, reduceMod, reducePow, reduceDiv, reduceOr, reduceShiftLeft, Nat.reduceBEq, reduceGT, reduceSucc, accD, accDO, trow0, rdD, rowD, cnext, f54, hcall, hp1, cellsD_mk, encD, h4, hlt, hd, cellsTs_drop, cellsTs_cons, takeN_cellsT, cellsT_mk, hk2, hk6]
                refine ⟨_, rfl, ?_⟩
                simp only [Behind, InBlk, Cut, if_true, ↓reduceIte]
                refine ⟨(kk, (a0 :: ar) ++ [⟨ek, en, et, eks, ep⟩], s1), hx, Nat.lt_succ_self _, ?_⟩
                refine k.gcs (keep := [1, 4]) (live := [10, 9, 8, 3, 2, 1, 0]) (md := true) ?_
                simp only [List.cons_append, List.nil_append, accD, accDO, cellsL_cons, cellsL_append, cellsL_nil, cellsD_mk, List.append_nil, List.append_assoc, List.length_append, List.length_cons, List.length_nil]
                simp (disch := first | assumption | omega | rfl | (simp only [sxP, Bool.and_self, length_cons, length_nil, length_take, length_drop, ↓reduceIte, reduceEqDiff]; first | done | omega) | exact Nat.le_of_ble_eq_true rfl | ((repeat (first | assumption | apply Byt.drop | apply Byt.take)); done) | fail) only [go_sem, ↓reduceIte, reduceEqDiff, reduceLeDiff, reduceLT, reduceAdd, reduceMul, reduceSub, reduceMod, reducePow, reduceDiv, reduceOr, reduceShiftLeft, Nat.reduceBEq, reduceGT, reduceSucc, trow0, rdD, rowD, cellsL_pure, cellsD_pure]
      · simp only [ne_eq, he, not_false_eq_true, if_true, Option.some.injEq, Prod.mk.injEq] at hx
        obtain ⟨rfl, rfl, rfl⟩ := hx
        cases acc with
        | nil =>
          refine k.ev ?_
          simp (disch := first | assumption | omega | rfl | (simp only [sxP, Bool.and_self, length_cons, length_nil, length_take, length_drop, ↓reduceIte, reduceEqDiff]; first | done | omega) | exact Nat.le_of_ble_eq_true rfl | ((repeat (first | assumption | apply Byt.drop | apply Byt.take)); done) | fail) only [go_sem, ↓reduceIte, reduceEqDiff, reduceLeDiff, reduceLT, reduceAdd, reduceMul, reduceSub, reduceMod, reducePow, reduceDiv, reduceOr, reduceShiftLeft, Nat.reduceBEq, reduceGT, reduceSucc, accD, accDO, trow0, rdD, rowD, he]
          refine ⟨_, rfl, ?_⟩
          simp only [Behind, InBlk, Cut, if_true, ↓reduceIte]
          simp only [CutP]
          refine ⟨trivial, ?_⟩
          refine k.gcs (keep := [1]) (live := [10, 9]) (md := true) ?_
          simp (disch := first | assumption | omega | rfl | (simp only [sxP, Bool.and_self, length_cons, length_nil, length_take, length_drop, ↓reduceIte, reduceEqDiff]; first | done | omega) | exact Nat.le_of_ble_eq_true rfl | ((repeat (first | assumption | apply Byt.drop | apply Byt.take)); done) | fail) only [go_sem, ↓reduceIte, reduceEqDiff, reduceLeDiff, reduceLT, reduceAdd, reduceMul, reduceSub, reduceMod, reducePow, reduceDiv, reduceOr, reduceShiftLeft, Nat.reduceBEq, reduceGT, reduceSucc, accD, accDO, trow0, rdD, rowD]
        | cons a0 ar =>
          have hp1 := cellsL_pure (a0 :: ar)
          refine k.ev ?_
          simp (disch := first | assumption | omega | rfl | (simp only [sxP, Bool.and_self, length_cons, length_nil, length_take, length_drop, ↓reduceIte, reduceEqDiff]; first | done | omega) | exact Nat.le_of_ble_eq_true rfl | ((repeat (first | assumption | apply Byt.drop | apply Byt.take)); done) | fail) only [go_sem, ↓reduceIte, reduceEqDiff, reduceLeDiff, reduceLT, reduceAdd, reduceMul, reduceSub, reduceMod, reducePow, reduceDiv, reduceOr, reduceShiftLeft, Nat.reduceBEq, reduceGT, reduceSucc, accD, accDO, trow0, rdD, rowD, he]
          refine ⟨_, rfl, ?_⟩
          simp only [Behind, InBlk, Cut, if_true, ↓reduceIte]
          simp only [CutP]
          refine ⟨trivial, ?_⟩
          refine k.gcs (keep := [1, 2]) (live := [10, 9]) (md := true) ?_
          simp (disch := first | assumption | omega | rfl | (simp only [sxP, Bool.and_self, length_cons, length_nil, length_take, length_drop, ↓reduceIte, reduceEqDiff]; first | done | omega) | exact Nat.le_of_ble_eq_true rfl | ((repeat (first | assumption | apply Byt.drop | apply Byt.take)); done) | fail) only [go_sem, ↓reduceIte, reduceEqDiff, reduceLeDiff, reduceLT, reduceAdd, reduceMul, reduceSub, reduceMod, reducePow, reduceDiv, reduceOr, reduceShiftLeft, Nat.reduceBEq, reduceGT, reduceSucc, accD, accDO, trow0, rdD, rowD, hp1]
  · rintro rfl
    cases l with
    | nil =>
      refine tri_seq (k.ev ?_)
      simp (disch := first | assumption | omega | rfl | (simp only [sxP, Bool.and_self, length_cons, length_nil, length_take, length_drop, ↓reduceIte, reduceEqDiff]; first | done | omega) | exact Nat.le_of_ble_eq_true rfl | ((repeat (first | assumption | apply Byt.drop | apply Byt.take)); done) | fail) only [go_sem, ↓reduceIte, reduceEqDiff, reduceLeDiff, reduceLT, reduceAdd, reduceMul, reduceSub, reduceMod, reducePow, reduceDiv, reduceOr, reduceShiftLeft, Nat.reduceBEq, reduceGT, reduceSucc, accD, accDO, trow0, rdD, rowD]
      refine ⟨_, rfl, ?_⟩
      simp only [Behind, InBlk, Cut, if_true, ↓reduceIte]
      refine k.ev ?_
      simp (disch := first | assumption | omega | rfl | (simp only [sxP, Bool.and_self, length_cons, length_nil, length_take, length_drop, ↓reduceIte, reduceEqDiff]; first | done | omega) | exact Nat.le_of_ble_eq_true rfl | ((repeat (first | assumption | apply Byt.drop | apply Byt.take)); done) | fail) only [go_sem, ↓reduceIte, reduceEqDiff, reduceLeDiff, reduceLT, reduceAdd, reduceMul, reduceSub, reduceMod, reducePow, reduceDiv, reduceOr, reduceShiftLeft, Nat.reduceBEq, reduceGT, reduceSucc]
      refine ⟨_, rfl, ?_⟩
      simp only [Behind, InBlk, Cut, if_true, ↓reduceIte]
      apply fin_of (Or.inr rfl)
      iterate 5 (simp (disch := first | assumption | omega | rfl | (simp only [sxP, Bool.and_self, length_cons, length_nil, length_take, length_drop, ↓reduceIte, reduceEqDiff]; first | done | omega) | exact Nat.le_of_ble_eq_true rfl | ((repeat (first | assumption | apply Byt.drop | apply Byt.take)); done) | fail) only [go_sem, ↓reduceIte, reduceEqDiff, reduceLeDiff, reduceLT, reduceAdd, reduceMul, reduceSub, reduceMod, reducePow, reduceDiv, reduceOr, reduceShiftLeft, Nat.reduceBEq, reduceGT, reduceSucc, rdD, rowD, t00, d0, cellsT_mk, cellsL_nil, cellsTs_wk] <;> exact rfl)
    | cons a0 ar =>
      have hp1 := cellsL_pure (a0 :: ar)
      refine tri_seq (k.ev ?_)
      simp (disch := first | assumption | omega | rfl | (simp only [sxP, Bool.and_self, length_cons, length_nil, length_take, length_drop, ↓reduceIte, reduceEqDiff]; first | done | omega) | exact Nat.le_of_ble_eq_true rfl | ((repeat (first | assumption | apply Byt.drop | apply Byt.take)); done) | fail) only [go_sem, ↓reduceIte, reduceEqDiff, reduceLeDiff, reduceLT, reduceAdd, reduceMul, reduceSub, reduceMod, reducePow, reduceDiv, reduceOr, reduceShiftLeft, Nat.reduceBEq, reduceGT, reduceSucc, accD, accDO, trow0, rdD, rowD]
      refine ⟨_, rfl, ?_⟩
      simp only [Behind, InBlk, Cut, if_true, ↓reduceIte]
      refine k.ev ?_
      simp (disch := first | assumption | omega | rfl | (simp only [sxP, Bool.and_self, length_cons, length_nil, length_take, length_drop, ↓reduceIte, reduceEqDiff]; first | done | omega) | exact Nat.le_of_ble_eq_true rfl | ((repeat (first | assumption | apply Byt.drop | apply Byt.take)); done) | fail) only [go_sem, ↓reduceIte, reduceEqDiff, reduceLeDiff, reduceLT, reduceAdd, reduceMul, reduceSub, reduceMod, reducePow, reduceDiv, reduceOr, reduceShiftLeft, Nat.reduceBEq, reduceGT, reduceSucc]
      refine ⟨_, rfl, ?_⟩
      simp only [Behind, InBlk, Cut, if_true, ↓reduceIte]
      apply fin_of (Or.inr rfl)
      iterate 5 (simp (disch := first | assumption | omega | rfl | (simp only [sxP, Bool.and_self, length_cons, length_nil, length_take, length_drop, ↓reduceIte, reduceEqDiff]; first | done | omega) | exact Nat.le_of_ble_eq_true rfl | ((repeat (first | assumption | apply Byt.drop | apply Byt.take)); done) | fail) only [go_sem, ↓reduceIte, reduceEqDiff, reduceLeDiff, reduceLT, reduceAdd, reduceMul, reduceSub, reduceMod, reducePow, reduceDiv, reduceOr, reduceShiftLeft, Nat.reduceBEq, reduceGT, reduceSucc, rdD, rowD, t00, d0, cellsT_mk, cellsL_nil, cellsL_wk, cellsTs_wk] <;> exact rfl)
open Nat (reduceEqDiff reduceLeDiff reduceLT reduceAdd reduceMul reduceSub reduceMod reducePow reduceDiv reduceOr reduceShiftLeft reduceGT reduceSucc)
open List (length_cons length_nil length_take length_drop)
open T
set_option maxRecDepth 100000
def itF (n : Nat) (x : DX) : Option (List DT × Tok × RS) := itemsF (fun o r => datumF n x.1 (x.2.1 + 1) o r) x.1 x.2.2.1 1000000 [] x.2.2.2
def PreIt (n : Nat) (x : DX) : Prop := x.1.length < 1000000 ∧ x.2.1 + 1 + n ≤ 100000 ∧ ∃ r, itF n x = some r
def itR (n : Nat) (x : DX) : AV × List AV := match itF n x with
  | some (l, t, s) => (.tup [.lst l.length false (cellsL l), .agg (cellsT t)], rowD x.1 s)
  | none => (.bool true, [])
noncomputable def gIt (n : Nat) : List AV → St → Option (AV × St) := orc1 encIt (PreIt n) (itR n)
theorem it_call {O : Orc} {n : Nat} (h : O 58 = some (gIt n)) {ts : List Tok} {dep op : Nat} {s s' : RS} {ls : List DT} {t : Tok} (hts : ts.length < 1000000) (hdep : dep + 1 + n ≤ 100000) (hd : itF n (ts, dep, op, s) = some (ls, t, s')) (l : List (Nat × Option AObj)) (nx m : Nat) (md : Bool) (id : Nat) (hg : getA l id = some (.row 66 (rowD ts s) false false)) :
    (evW env O).call 58 [.ptr id 0, .int .i64 (.ofNat dep), .int .i64 (.ofNat op), .bool true] (KL l nx m md [] none) = some (.tup [.lst ls.length false (cellsL ls), .agg (cellsT t)], KL ((id, some (.row 66 (rowD ts s') false false)) :: l) nx (mark m id) md [] none) := by
  rw [call_known h, gIt, orc1_call, KL_get0, hg, orc1K_eq encIt_inj _ _ (ts, dep, op, s) ⟨hts, hdep, _, hd⟩ (by simp only [encIt, rowD_wk, wkL, wkV])]
  simp only [itR, hd]
  rfl
theorem it_known {P : Program} {w0 : World} {O : Orc} (hO : OrcOk P w0 O) (n : Nat) (h : ∀ (ts : List Tok) (dep op : Nat) (s s' : RS) (l : List DT) (t : Tok), ts.length < 1000000 → dep + 1 + n ≤ 100000 → itF n (ts, dep, op, s) = some (l, t, s') → SC P w0 58 [.ptr 0 0, .int .i64 (.ofNat dep), .int .i64 (.ofNat op), .bool true] (H [some (rdD ts s)] 0 true) (.tup [.lst l.length false (cellsL l), .agg (cellsT t)]) (H [some (rdD ts s')] 1 true)) : OrcOk P w0 (withG 58 (gIt n) O) :=
  hO.withG orc1_ext (known1 true (fun x hx => by
    obtain ⟨_, _, ⟨l, t, s'⟩, h3⟩ := hx
    simp only [encIt, itR, h3]
    exact ⟨rowD_pure _ _, rfl, by simp only [pureA_tup, pureL_cons, pureA_lst, pureA_agg, cellsT_pure, pureL_nil, Bool.and_self], rowD_pure _ _⟩) fun x hx => by
    obtain ⟨ts, dep, op, s⟩ := x
    obtain ⟨h1, h2, ⟨l, t, s'⟩, h3⟩ := hx
    have := h ts dep op s s' l t h1 h2 h3
    simp only [encIt, itR]
    rw [h3]; exact this)
def encLs (x : List DT × DT) : List AV := [.lst x.1.length false (cellsL x.1), encD x.2]
noncomputable def gList' : List AV → St → Option (AV × St) := orc0 encLs (fun x => x.1.length < 1000000) (fun x => encD (listD x.1 x.2))
theorem encLs_inj : ∀ x y, encLs x = encLs y → x = y := fun ⟨l, e⟩ ⟨l', e'⟩ h => by
  simp only [encLs, List.cons.injEq, AV.lst.injEq, and_true, true_and] at h
  obtain ⟨⟨_, h1⟩, h2⟩ := h
  rw [cellsL_inj h1, encD_inj h2]
theorem ls_call {O : Orc} (h : O 56 = some gList') (l : List DT) (e : DT) (hl : l.length < 1000000) (args : List AV) (ha : wkL args = encLs (l, e)) (s : St) : (evW env O).call 56 args s = some (encD (listD l e), s) := by
  rw [call_known h, gList', orc0_eq encLs_inj s (l, e) hl ha]
theorem ls_known {P : Program} {w0 : World} (B : Bx P w0) {O : Orc} (hO : OrcOk P w0 O) (o1 : O 85 = none) (o2 : O 103 = none) : OrcOk P w0 (withG 56 gList' O) :=
  hO.withG orc0_ext (known0 true (fun x => by simp only [encLs, pureL_cons, pureA_lst, encD_pure, pureL_nil, Bool.and_self]) (fun x => encD_pure _) fun x hx => ⟨_, list_sc B hO o1 o2 x.1 x.2 hx⟩)
theorem itemsF_len {dt : Nat → RS → Option (DT × RS)} {ts : List Tok} {op : Nat} : ∀ {k : Nat} {acc : List DT} {s : RS} {l : List DT} {t : Tok} {s' : RS}, itemsF dt ts op k acc s = some (l, t, s') → l.length < 1000000 ∧ t.kind ≠ 6
  | 0, _, _, _, _, _, h => by simp [itemsF] at h
  | k + 1, acc, s, l, t, s', h => by
    rw [itemsF] at h
    split at h
    · cases h
    · rename_i hc
      split at h
      · cases h; exact ⟨by omega, by simp [t00]⟩
      · split at h
        · split at h
          · cases h; exact ⟨by omega, by rename_i hk; omega⟩
          · split at h
            · cases h
            · split at h
              · cases h
              · exact itemsF_len h
        · split at h
          · cases h
          · exact itemsF_len h
theorem datum_sc {P : Program} {w0 : World} (B : Bx P w0) {O : Orc} (hO : OrcOk P w0 O) (o54 : O 54 = none) (o55 : O 55 = none) (o57 : O 57 = none) (h56 : O 56 = some gList') {n : Nat} (h58 : O 58 = some (gIt n)) (ts : List Tok) (hts : ts.length < 1000000) (dep op : Nat) (hdep : dep + 1 + n ≤ 100000) (s s' : RS) (d : DT) (h0 : datumF (n + 1) ts dep op s = some (d, s')) :
    SC P w0 32 [.ptr 0 0, .int .i64 (.ofNat dep), .int .i64 (.ofNat op)] (H [some (rdD ts s)] 0 true) (encD d) (H [some (rdD ts s')] 1 true) := by
  refine Is.sc hO B.mixed B.glob B.env 1 (show env.funs.get 32 = some f32 from rfl) (Nat.le_of_ble_eq_true rfl) (mask1 rfl) fun C k => ?_
  have cnext := @call_in env O _ _ o54 (show env.funs.get 54 = some f54 from rfl) rfl
  have cfell := @call_in env O _ _ o55 (show env.funs.get 55 = some f55 from rfl) rfl
  have clist := @call_in env O _ _ o57 (show env.funs.get 57 = some f57 from rfl) rfl
  obtain ⟨at_, err, fp⟩ := s
  rw [datumF] at h0
  by_cases hc1 : ts.length < at_
  · simp only [hc1, if_true] at h0; cases h0
  simp only [hc1, if_false] at h0
  unfold f32
  simp only
  cases hd : ts.drop at_ with
  | nil =>
    have h4 : at_ = ts.length := by
      have := congrArg List.length hd; simp at this; omega
    subst h4
    rw [hd] at h0
    simp only [Option.some.injEq, Prod.mk.injEq, RS.fell] at h0
    obtain ⟨rfl, rfl⟩ := h0
    by_cases he : err = 0
    · subst he
      refine k.ev ?_
      simp (disch := first | assumption | omega | rfl | (simp only [sxP, Bool.and_self, length_cons, length_nil, length_take, length_drop, ↓reduceIte, reduceEqDiff]; first | done | omega) | exact Nat.le_of_ble_eq_true rfl | ((repeat (first | assumption | apply Byt.drop | apply Byt.take)); done) | fail) only [go_sem, ↓reduceIte, reduceEqDiff, reduceLeDiff, reduceLT, reduceAdd, reduceMul, reduceSub, reduceMod, reducePow, reduceDiv, reduceOr, reduceShiftLeft, Nat.reduceBEq, reduceGT, reduceSucc, rdD, rowD, cnext, f54, cfell, f55]
      refine ⟨_, rfl, ?_⟩
      simp only [Behind, InBlk, Cut, if_true, ↓reduceIte]
      apply fin_of (Or.inr rfl)
      iterate 5 (simp (disch := first | assumption | omega | rfl | (simp only [sxP, Bool.and_self, length_cons, length_nil, length_take, length_drop, ↓reduceIte, reduceEqDiff]; first | done | omega) | exact Nat.le_of_ble_eq_true rfl | ((repeat (first | assumption | apply Byt.drop | apply Byt.take)); done) | fail) only [go_sem, ↓reduceIte, reduceEqDiff, reduceLeDiff, reduceLT, reduceAdd, reduceMul, reduceSub, reduceMod, reducePow, reduceDiv, reduceOr, reduceShiftLeft, Nat.reduceBEq, reduceGT, reduceSucc, rdD, rowD, encD, d0, cellsD_mk, cellsL_nil, cellsTs_wk] <;> exact rfl)
    ·
      refine k.ev ?_
      simp (disch := first | assumption | omega | rfl | (simp only [sxP, Bool.and_self, length_cons, length_nil, length_take, length_drop, ↓reduceIte, reduceEqDiff]; first | done | omega) | exact Nat.le_of_ble_eq_true rfl | ((repeat (first | assumption | apply Byt.drop | apply Byt.take)); done) | fail) only [go_sem, ↓reduceIte, reduceEqDiff, reduceLeDiff, reduceLT, reduceAdd, reduceMul, reduceSub, reduceMod, reducePow, reduceDiv, reduceOr, reduceShiftLeft, Nat.reduceBEq, reduceGT, reduceSucc, rdD, rowD, cnext, f54, cfell, f55, he]
      refine ⟨_, rfl, ?_⟩
      simp only [Behind, InBlk, Cut, if_true, ↓reduceIte]
      apply fin_of (Or.inr rfl)
      iterate 5 (simp (disch := first | assumption | omega | rfl | (simp only [sxP, Bool.and_self, length_cons, length_nil, length_take, length_drop, ↓reduceIte, reduceEqDiff]; first | done | omega) | exact Nat.le_of_ble_eq_true rfl | ((repeat (first | assumption | apply Byt.drop | apply Byt.take)); done) | fail) only [go_sem, ↓reduceIte, reduceEqDiff, reduceLeDiff, reduceLT, reduceAdd, reduceMul, reduceSub, reduceMod, reducePow, reduceDiv, reduceOr, reduceShiftLeft, Nat.reduceBEq, reduceGT, reduceSucc, rdD, rowD, encD, d0, cellsD_mk, cellsL_nil, cellsTs_wk, he] <;> exact rfl)
  | cons tk tr =>
    have hlt : at_ < ts.length := Nat.lt_of_not_le fun hle => by rw [List.drop_eq_nil_of_le hle] at hd; cases hd
    have h4 : ¬ at_ = ts.length := by omega
    obtain ⟨tk, tp, ⟨dk, dn, dt, dks, dp⟩⟩ := tk
    rw [hd] at h0
    simp only at h0
    by_cases hk7 : tk = 7
    · subst hk7
      simp only [if_true, Option.some.injEq, Prod.mk.injEq] at h0
      obtain ⟨rfl, rfl⟩ := h0
      refine k.ev ?_
      simp (disch := first | assumption | omega | rfl | (simp only [sxP, Bool.and_self, length_cons, length_nil, length_take, length_drop, ↓reduceIte, reduceEqDiff]; first | done | omega) | exact Nat.le_of_ble_eq_true rfl | ((repeat (first | assumption | apply Byt.drop | apply Byt.take)); done) | fail) only [go_sem, ↓reduceIte, reduceEqDiff, reduceLeDiff, reduceLT, reduceAdd, reduceMul, reduceSub, reduceMod, reducePow, reduceDiv, reduceOr, reduceShiftLeft, Nat.reduceBEq, reduceGT, reduceSucc, rdD, rowD, cnext, f54, h4, hlt, hd, cellsTs_drop, cellsTs_cons, takeN_cellsT, cellsT_mk]
      refine ⟨_, rfl, ?_⟩
      simp only [Behind, InBlk, Cut, if_true, ↓reduceIte]
      apply fin_of (Or.inr rfl)
      iterate 5 (simp (disch := first | assumption | omega | rfl | (simp only [sxP, Bool.and_self, length_cons, length_nil, length_take, length_drop, ↓reduceIte, reduceEqDiff]; first | done | omega) | exact Nat.le_of_ble_eq_true rfl | ((repeat (first | assumption | apply Byt.drop | apply Byt.take)); done) | fail) only [go_sem, ↓reduceIte, reduceEqDiff, reduceLeDiff, reduceLT, reduceAdd, reduceMul, reduceSub, reduceMod, reducePow, reduceDiv, reduceOr, reduceShiftLeft, Nat.reduceBEq, reduceGT, reduceSucc, rdD, rowD, encD, cellsD_mk, cellsL_wk, cellsTs_wk] <;> exact rfl)
    rw [if_neg hk7] at h0
    by_cases hk2 : tk = 2
    · subst hk2
      simp only [if_true, Option.some.injEq, Prod.mk.injEq, RS.fell] at h0
      obtain ⟨rfl, rfl⟩ := h0
      by_cases he : err = 0
      · subst he
        refine k.ev ?_
        simp (disch := first | assumption | omega | rfl | (simp only [sxP, Bool.and_self, length_cons, length_nil, length_take, length_drop, ↓reduceIte, reduceEqDiff]; first | done | omega) | exact Nat.le_of_ble_eq_true rfl | ((repeat (first | assumption | apply Byt.drop | apply Byt.take)); done) | fail) only [go_sem, ↓reduceIte, reduceEqDiff, reduceLeDiff, reduceLT, reduceAdd, reduceMul, reduceSub, reduceMod, reducePow, reduceDiv, reduceOr, reduceShiftLeft, Nat.reduceBEq, reduceGT, reduceSucc, rdD, rowD, cnext, f54, cfell, f55, h4, hlt, hd, cellsTs_drop, cellsTs_cons, takeN_cellsT, cellsT_mk]
        refine ⟨_, rfl, ?_⟩
        simp only [Behind, InBlk, Cut, if_true, ↓reduceIte]
        apply fin_of (Or.inr rfl)
        iterate 5 (simp (disch := first | assumption | omega | rfl | (simp only [sxP, Bool.and_self, length_cons, length_nil, length_take, length_drop, ↓reduceIte, reduceEqDiff]; first | done | omega) | exact Nat.le_of_ble_eq_true rfl | ((repeat (first | assumption | apply Byt.drop | apply Byt.take)); done) | fail) only [go_sem, ↓reduceIte, reduceEqDiff, reduceLeDiff, reduceLT, reduceAdd, reduceMul, reduceSub, reduceMod, reducePow, reduceDiv, reduceOr, reduceShiftLeft, Nat.reduceBEq, reduceGT, reduceSucc, rdD, rowD, encD, d0, cellsD_mk, cellsL_nil, cellsTs_wk] <;> exact rfl)
      ·
        refine k.ev ?_
        simp (disch := first | assumption | omega | rfl | (simp only [sxP, Bool.and_self, length_cons, length_nil, length_take, length_drop, ↓reduceIte, reduceEqDiff]; first | done | omega) | exact Nat.le_of_ble_eq_true rfl | ((repeat (first | assumption | apply Byt.drop | apply Byt.take)); done) | fail) only [go_sem, ↓reduceIte, reduceEqDiff, reduceLeDiff, reduceLT, reduceAdd, reduceMul, reduceSub, reduceMod, reducePow, reduceDiv, reduceOr, reduceShiftLeft, Nat.reduceBEq, reduceGT, reduceSucc, rdD, rowD, cnext, f54, cfell, f55, h4, hlt, hd, cellsTs_drop, cellsTs_cons, takeN_cellsT, cellsT_mk, he]
        refine ⟨_, rfl, ?_⟩
        simp only [Behind, InBlk, Cut, if_true, ↓reduceIte]
        apply fin_of (Or.inr rfl)
        iterate 5 (simp (disch := first | assumption | omega | rfl | (simp only [sxP, Bool.and_self, length_cons, length_nil, length_take, length_drop, ↓reduceIte, reduceEqDiff]; first | done | omega) | exact Nat.le_of_ble_eq_true rfl | ((repeat (first | assumption | apply Byt.drop | apply Byt.take)); done) | fail) only [go_sem, ↓reduceIte, reduceEqDiff, reduceLeDiff, reduceLT, reduceAdd, reduceMul, reduceSub, reduceMod, reducePow, reduceDiv, reduceOr, reduceShiftLeft, Nat.reduceBEq, reduceGT, reduceSucc, rdD, rowD, encD, d0, cellsD_mk, cellsL_nil, cellsTs_wk, he] <;> exact rfl)
    rw [if_neg hk2] at h0
    by_cases hk1 : tk = 1
    · subst hk1
      simp only [ne_eq, not_true, if_false] at h0
      by_cases hdp : 200 ≤ dep
      · simp only [hdp, if_true, Option.some.injEq, Prod.mk.injEq, RS.fell] at h0
        obtain ⟨rfl, rfl⟩ := h0
        by_cases he : err = 0
        · subst he
          refine k.ev ?_
          simp (disch := first | assumption | omega | rfl | (simp only [sxP, Bool.and_self, length_cons, length_nil, length_take, length_drop, ↓reduceIte, reduceEqDiff]; first | done | omega) | exact Nat.le_of_ble_eq_true rfl | ((repeat (first | assumption | apply Byt.drop | apply Byt.take)); done) | fail) only [go_sem, ↓reduceIte, reduceEqDiff, reduceLeDiff, reduceLT, reduceAdd, reduceMul, reduceSub, reduceMod, reducePow, reduceDiv, reduceOr, reduceShiftLeft, Nat.reduceBEq, reduceGT, reduceSucc, rdD, rowD, cnext, f54, cfell, f55, h4, hlt, hd, cellsTs_drop, cellsTs_cons, takeN_cellsT, cellsT_mk, hdp]
          refine ⟨_, rfl, ?_⟩
          simp only [Behind, InBlk, Cut, if_true, ↓reduceIte]
          apply fin_of (Or.inr rfl)
          iterate 5 (simp (disch := first | assumption | omega | rfl | (simp only [sxP, Bool.and_self, length_cons, length_nil, length_take, length_drop, ↓reduceIte, reduceEqDiff]; first | done | omega) | exact Nat.le_of_ble_eq_true rfl | ((repeat (first | assumption | apply Byt.drop | apply Byt.take)); done) | fail) only [go_sem, ↓reduceIte, reduceEqDiff, reduceLeDiff, reduceLT, reduceAdd, reduceMul, reduceSub, reduceMod, reducePow, reduceDiv, reduceOr, reduceShiftLeft, Nat.reduceBEq, reduceGT, reduceSucc, rdD, rowD, encD, d0, cellsD_mk, cellsL_nil, cellsTs_wk] <;> exact rfl)
        ·
          refine k.ev ?_
          simp (disch := first | assumption | omega | rfl | (simp only [sxP, Bool.and_self, length_cons, length_nil, length_take, length_drop, ↓reduceIte, reduceEqDiff]; first | done | omega) | exact Nat.le_of_ble_eq_true rfl | ((repeat (first | assumption | apply Byt.drop | apply Byt.take)); done) | fail) only [go_sem, ↓reduceIte, reduceEqDiff, reduceLeDiff, reduceLT, reduceAdd, reduceMul, reduceSub, reduceMod, reducePow, reduceDiv, reduceOr, reduceShiftLeft, Nat.reduceBEq, reduceGT, reduceSucc, rdD, rowD, cnext, f54, cfell, f55, h4, hlt, hd, cellsTs_drop, cellsTs_cons, takeN_cellsT, cellsT_mk, hdp, he]
          refine ⟨_, rfl, ?_⟩
          simp only [Behind, InBlk, Cut, if_true, ↓reduceIte]
          apply fin_of (Or.inr rfl)
          iterate 5 (simp (disch := first | assumption | omega | rfl | (simp only [sxP, Bool.and_self, length_cons, length_nil, length_take, length_drop, ↓reduceIte, reduceEqDiff]; first | done | omega) | exact Nat.le_of_ble_eq_true rfl | ((repeat (first | assumption | apply Byt.drop | apply Byt.take)); done) | fail) only [go_sem, ↓reduceIte, reduceEqDiff, reduceLeDiff, reduceLT, reduceAdd, reduceMul, reduceSub, reduceMod, reducePow, reduceDiv, reduceOr, reduceShiftLeft, Nat.reduceBEq, reduceGT, reduceSucc, rdD, rowD, encD, d0, cellsD_mk, cellsL_nil, cellsTs_wk, he] <;> exact rfl)
      · rw [if_neg hdp] at h0
        cases hit : itF n (ts, dep, tp, ⟨at_ + 1, err, fp⟩) with
        | none => simp only [itF] at hit; rw [hit] at h0; cases h0
        | some r =>
          obtain ⟨ls, ⟨ck, cp, ⟨ek, en, et, eks, ep⟩⟩, s2⟩ := r
          have hit' := hit
          simp only [itF] at hit'
          rw [hit'] at h0
          simp only [Option.some.injEq, Prod.mk.injEq] at h0
          obtain ⟨rfl, rfl⟩ := h0
          have hls := (itemsF_len hit').1
          have hcl : ¬ ck = 6 := (itemsF_len hit').2
          have hcall := fun l nx m => it_call h58 hts hdep hit l nx m true 0
          simp only [rowD] at hcall
          have hlist := ls_call h56 ls (endDT (.ofNat cp)) hls [.lst ls.length false (cellsL ls), .agg [.int .i64 (.ofNat 0), .int .i64 (.ofNat 0), .str [], .nils, .int .i64 (.ofNat cp)]] (by simp only [wkL, wkV, encLs, encD, endDT, cellsD_mk, cellsL_nil, List.length_nil, cellsL_wk])
          obtain ⟨gk, gn, gt, gks, gp, hg⟩ : ∃ gk gn gt gks gp, listD ls (endDT (.ofNat cp)) = .mk gk gn gt gks gp := by
            cases listD ls (endDT (.ofNat cp)) with
            | mk gk gn gt gks gp => exact ⟨gk, gn, gt, gks, gp, rfl⟩
          rw [hg] at hlist ⊢
          simp only [encD, cellsD_mk] at hlist
          refine k.ev ?_
          simp (disch := first | assumption | omega | rfl | (simp only [sxP, Bool.and_self, length_cons, length_nil, length_take, length_drop, ↓reduceIte, reduceEqDiff]; first | done | omega) | exact Nat.le_of_ble_eq_true rfl | ((repeat (first | assumption | apply Byt.drop | apply Byt.take)); done) | fail) only [go_sem, ↓reduceIte, reduceEqDiff, reduceLeDiff, reduceLT, reduceAdd, reduceMul, reduceSub, reduceMod, reducePow, reduceDiv, reduceOr, reduceShiftLeft, Nat.reduceBEq, reduceGT, reduceSucc, rdD, rowD, cnext, f54, clist, f57, h4, hlt, hd, cellsTs_drop, cellsTs_cons, takeN_cellsT, cellsT_mk, hdp, hcall, hcl, hlist]
          refine ⟨_, rfl, ?_⟩
          simp only [Behind, InBlk, Cut, if_true, ↓reduceIte]
          apply fin_of (Or.inr rfl)
          iterate 5 (simp (disch := first | assumption | omega | rfl | (simp only [sxP, Bool.and_self, length_cons, length_nil, length_take, length_drop, ↓reduceIte, reduceEqDiff]; first | done | omega) | exact Nat.le_of_ble_eq_true rfl | ((repeat (first | assumption | apply Byt.drop | apply Byt.take)); done) | fail) only [go_sem, ↓reduceIte, reduceEqDiff, reduceLeDiff, reduceLT, reduceAdd, reduceMul, reduceSub, reduceMod, reducePow, reduceDiv, reduceOr, reduceShiftLeft, Nat.reduceBEq, reduceGT, reduceSucc, rdD, rowD, encD, atD, cellsD_mk, cellsL_wk, cellsTs_wk] <;> exact rfl)
    · simp only [ne_eq, hk1, not_false_eq_true, if_true] at h0; cases h0
open Nat (reduceEqDiff reduceLeDiff reduceLT reduceAdd reduceMul reduceSub reduceMod reducePow reduceDiv reduceOr reduceShiftLeft reduceGT reduceSucc)
open List (length_cons length_nil length_take length_drop)
open T
set_option maxRecDepth 100000
noncomputable def OL : Orc := withG 56 gList' noO
theorem OL_ok {P : Program} {w0 : World} (B : Bx P w0) : OrcOk P w0 OL := ls_known B (noO_ok P w0) rfl rfl
theorem reader_all {P : Program} {w0 : World} (B : Bx P w0) : ∀ (n : Nat) (ts : List Tok) (dep op : Nat) (s s' : RS) (d : DT), ts.length < 1000000 → dep + n ≤ 100000 → datumF n ts dep op s = some (d, s') → SC P w0 32 [.ptr 0 0, .int .i64 (.ofNat dep), .int .i64 (.ofNat op)] (H [some (rdD ts s)] 0 true) (encD d) (H [some (rdD ts s')] 1 true) := by
  intro n
  induction n with
  | zero => intro ts dep op s s' d _ _ h; simp [datumF] at h
  | succ n ih =>
    intro ts dep op s s' d h1 h2 h3
    have hD : OrcOk P w0 (withG 32 (gDt n) OL) := dt_known (OL_ok B) n ih
    have hI : OrcOk P w0 (withG 58 (gIt n) OL) := it_known (OL_ok B) n fun ts dep op s s' l t q1 q2 q3 => items_sc B hD rfl rfl ts q1 dep op _ q2 s s' l t q3
    exact datum_sc B hI rfl rfl rfl rfl rfl ts h1 dep op (by omega) s s' d h3
def encSrc (b : List Nat) : List AV := [.lst b.length false (bytesV b)]
def PreS (b : List Nat) : Prop := Byt b ∧ b.length < 100000 ∧ OkS b
noncomputable def gLex : List AV → St → Option (AV × St) := orc0 encSrc PreS (fun b => .tup [.lst (lexS 0 b).length false (cellsTs (lexS 0 b)), fault0])
theorem encSrc_inj : ∀ x y, encSrc x = encSrc y → x = y := fun b c h => by
  simp only [encSrc, List.cons.injEq, AV.lst.injEq, and_true, true_and] at h
  exact bytesV_inj h.2
theorem lex_call {O : Orc} (h : O 17 = some gLex) (b : List Nat) (hb : PreS b) (s : St) : (evW env O).call 17 [.lst b.length false (bytesV b)] s = some (.tup [.lst (lexS 0 b).length false (cellsTs (lexS 0 b)), fault0], s) := by
  rw [call_known h, gLex, orc0_eq encSrc_inj s b hb (by simp only [encSrc, wkL, wkV, wkL_bytes])]
def readF (ts : List Tok) : Nat → List DT → RS → Option (List DT × Nat × Nat)
  | 0, _, _ => none
  | k + 1, acc, s =>
    if ts.length < s.at_ ∨ 1000000 ≤ acc.length then none
    else if s.at_ < ts.length then
      match datumF 1000 ts 0 0 s with
      | none => none
      | some (d, s') => if s'.err ≠ 0 then some ([], s'.err, s'.fp) else readF ts k (acc ++ [d]) s'
    else some (acc, 0, 0)
def accD1 (acc : List DT) : AV := match acc with
  | [] => .nils
  | t :: r => .gr 1 5 (t :: r).length (cellsL (t :: r))
theorem read_sc {P : Program} {w0 : World} (B : Bx P w0) {O : Orc} (hO : OrcOk P w0 O) (h17 : O 17 = some gLex) (h32 : O 32 = some (gDt 1000)) (b : List Nat) (hb : PreS b) (hts : (lexS 0 b).length < 1000000) (l : List DT) (er fp : Nat) (h0 : readF (lexS 0 b) 1000000 [] ⟨0, 0, 0⟩ = some (l, er, fp)) :
    SC P w0 15 [.lst b.length false (bytesV b)] (H [] 0 true) (.tup [.lst l.length false (cellsL l), .agg [.int .i64 (.ofNat er), .int .i64 (.ofNat fp)]]) (H [] 0 true) := by
  refine Is.sc hO B.mixed B.glob B.env 0 (show env.funs.get 15 = some f15 from rfl) (Nat.le_of_ble_eq_true rfl) mask0 fun C k => ?_
  have clex := lex_call h17 b hb
  revert clex h0 hts
  generalize lexS 0 b = ts
  intro hts h0 clex
  unfold f15
  simp only
  refine tri_seq (k.ev ?_)
  simp (disch := first | assumption | omega | rfl | (simp only [sxP, Bool.and_self, length_cons, length_nil, length_take, length_drop, ↓reduceIte, reduceEqDiff]; first | done | omega) | exact Nat.le_of_ble_eq_true rfl | ((repeat (first | assumption | apply Byt.drop | apply Byt.take)); done) | fail) only [go_sem, ↓reduceIte, reduceEqDiff, reduceLeDiff, reduceLT, reduceAdd, reduceMul, reduceSub, reduceMod, reducePow, reduceDiv, reduceOr, reduceShiftLeft, Nat.reduceBEq, reduceGT, reduceSucc]
  refine ⟨_, rfl, ?_⟩
  simp only [Behind, InBlk, Cut, if_true, ↓reduceIte]
  refine tri_seq (k.ev ?_)
  simp (disch := first | assumption | omega | rfl | (simp only [sxP, Bool.and_self, length_cons, length_nil, length_take, length_drop, ↓reduceIte, reduceEqDiff]; first | done | omega) | exact Nat.le_of_ble_eq_true rfl | ((repeat (first | assumption | apply Byt.drop | apply Byt.take)); done) | fail) only [go_sem, ↓reduceIte, reduceEqDiff, reduceLeDiff, reduceLT, reduceAdd, reduceMul, reduceSub, reduceMod, reducePow, reduceDiv, reduceOr, reduceShiftLeft, Nat.reduceBEq, reduceGT, reduceSucc, clex, fault0]
  refine ⟨_, rfl, ?_⟩
  simp only [Behind, InBlk, Cut, if_true, ↓reduceIte]
  refine tri_seq (k.ev ?_)
  simp (disch := first | assumption | omega | rfl | (simp only [sxP, Bool.and_self, length_cons, length_nil, length_take, length_drop, ↓reduceIte, reduceEqDiff]; first | done | omega) | exact Nat.le_of_ble_eq_true rfl | ((repeat (first | assumption | apply Byt.drop | apply Byt.take)); done) | fail) only [go_sem, ↓reduceIte, reduceEqDiff, reduceLeDiff, reduceLT, reduceAdd, reduceMul, reduceSub, reduceMod, reducePow, reduceDiv, reduceOr, reduceShiftLeft, Nat.reduceBEq, reduceGT, reduceSucc]
  refine ⟨_, rfl, ?_⟩
  simp only [Behind, InBlk, Cut, if_true, ↓reduceIte]
  refine tri_seq (k.ev ?_)
  simp (disch := first | assumption | omega | rfl | (simp only [sxP, Bool.and_self, length_cons, length_nil, length_take, length_drop, ↓reduceIte, reduceEqDiff]; first | done | omega) | exact Nat.le_of_ble_eq_true rfl | ((repeat (first | assumption | apply Byt.drop | apply Byt.take)); done) | fail) only [go_sem, ↓reduceIte, reduceEqDiff, reduceLeDiff, reduceLT, reduceAdd, reduceMul, reduceSub, reduceMod, reducePow, reduceDiv, reduceOr, reduceShiftLeft, Nat.reduceBEq, reduceGT, reduceSucc]
  refine ⟨_, rfl, ?_⟩
  simp only [Behind, InBlk, Cut, if_true, ↓reduceIte]
  refine tri_seq (k.ev ?_)
  simp (disch := first | assumption | omega | rfl | (simp only [sxP, Bool.and_self, length_cons, length_nil, length_take, length_drop, ↓reduceIte, reduceEqDiff]; first | done | omega) | exact Nat.le_of_ble_eq_true rfl | ((repeat (first | assumption | apply Byt.drop | apply Byt.take)); done) | fail) only [go_sem, ↓reduceIte, reduceEqDiff, reduceLeDiff, reduceLT, reduceAdd, reduceMul, reduceSub, reduceMod, reducePow, reduceDiv, reduceOr, reduceShiftLeft, Nat.reduceBEq, reduceGT, reduceSucc]
  refine ⟨_, rfl, ?_⟩
  simp only [Behind, InBlk, Cut, if_true, ↓reduceIte]
  refine tri_cutP (er = 0 ∧ fp = 0) ⟨tmL [(7, accD1 l), (3, .ptr 0 0)], []⟩ (H ([some frow] ++ accDO l) 0 true) (tri_block (tri_loop (k.gcL [0, 2] [7, 6, 4, 3, 2] true (fr1 := ⟨tmL [(7, accD []), (6, .ptr 1 0), (4, .lst ts.length false (cellsTs ts)), (3, .ptr 0 0), (2, .nils)], []⟩) (s1 := H ([some frow, some (rdD ts ⟨0, 0, 0⟩)] ++ accDO []) 0 true) (by simp (disch := first | assumption | omega | rfl | (simp only [sxP, Bool.and_self, length_cons, length_nil, length_take, length_drop, ↓reduceIte, reduceEqDiff]; first | done | omega) | exact Nat.le_of_ble_eq_true rfl | ((repeat (first | assumption | apply Byt.drop | apply Byt.take)); done) | fail) only [go_sem, ↓reduceIte, reduceEqDiff, reduceLeDiff, reduceLT, reduceAdd, reduceMul, reduceSub, reduceMod, reducePow, reduceDiv, reduceOr, reduceShiftLeft, Nat.reduceBEq, reduceGT, reduceSucc, rdD, rowD, accD, accDO, frow]) ?_))) ?_
  · refine triL_ind (fun x : Nat × List DT × RS => x.1) (fun x => ⟨tmL [(7, accD x.2.1), (6, .ptr 1 0), (4, .lst ts.length false (cellsTs ts)), (3, .ptr 0 0), (2, .nils)], []⟩) (fun x => H ([some frow, some (rdD ts x.2.2)] ++ accDO x.2.1) 0 true) (fun x => readF ts x.1 x.2.1 x.2.2 = some (l, er, fp)) (fun x hx => ?_) (1000000, [], ⟨0, 0, 0⟩) h0
    obtain ⟨kk, acc, ⟨at_, err, fp0⟩⟩ := x
    simp only at hx ⊢
    cases kk with
    | zero => simp [readF] at hx
    | succ kk =>
      rw [readF] at hx
      by_cases hc : ts.length < at_ ∨ 1000000 ≤ acc.length
      · rw [if_pos hc] at hx; cases hx
      rw [if_neg hc] at hx
      have hc1 : ¬ ts.length < at_ := fun h => hc (.inl h)
      have hc2 : acc.length < 1000000 := Nat.lt_of_not_le fun h => hc (.inr h)
      by_cases hlt : at_ < ts.length
      ·
        simp only [hlt, if_true] at hx
        cases hdt : datumF 1000 ts 0 0 ⟨at_, err, fp0⟩ with
        | none => rw [hdt] at hx; cases hx
        | some r1 =>
          obtain ⟨⟨ek, en, et, eks, ep⟩, ⟨at1, err1, fp1⟩⟩ := r1
          rw [hdt] at hx
          simp only at hx
          have hcall := fun l nx m => dt_call h32 hts (by omega) hdt l nx m true 1
          simp only [rowD] at hcall
          by_cases he : err1 = 0
          · subst he
            simp only [ne_eq, not_true, if_false] at hx
            cases acc with
            | nil =>
              refine k.ev ?_
              simp (disch := first | assumption | omega | rfl | (simp only [sxP, Bool.and_self, length_cons, length_nil, length_take, length_drop, ↓reduceIte, reduceEqDiff]; first | done | omega) | exact Nat.le_of_ble_eq_true rfl | ((repeat (first | assumption | apply Byt.drop | apply Byt.take)); done) | fail) only [go_sem, ↓reduceIte, reduceEqDiff, reduceLeDiff, reduceLT, reduceAdd, reduceMul, reduceSub, reduceMod, reducePow, reduceDiv, reduceOr, reduceShiftLeft, Nat.reduceBEq, reduceGT, reduceSucc, accD, accDO, frow, rdD, rowD, hlt, hcall, cellsD_mk, encD]
              refine ⟨_, rfl, ?_⟩
              simp only [Behind, InBlk, Cut, if_true, ↓reduceIte]
              refine ⟨(kk, [] ++ [⟨ek, en, et, eks, ep⟩], ⟨at1, 0, fp1⟩), hx, Nat.lt_succ_self _, ?_⟩
              refine k.gcs (keep := [0, 1, 3]) (live := [7, 6, 4, 3, 2]) (md := true) ?_
              simp only [List.cons_append, List.nil_append, accD, accDO, cellsL_cons, cellsL_append, cellsL_nil, cellsD_mk, List.append_nil, List.append_assoc, List.length_append, List.length_cons, List.length_nil]
              simp (disch := first | assumption | omega | rfl | (simp only [sxP, Bool.and_self, length_cons, length_nil, length_take, length_drop, ↓reduceIte, reduceEqDiff]; first | done | omega) | exact Nat.le_of_ble_eq_true rfl | ((repeat (first | assumption | apply Byt.drop | apply Byt.take)); done) | fail) only [go_sem, ↓reduceIte, reduceEqDiff, reduceLeDiff, reduceLT, reduceAdd, reduceMul, reduceSub, reduceMod, reducePow, reduceDiv, reduceOr, reduceShiftLeft, Nat.reduceBEq, reduceGT, reduceSucc, frow, rdD, rowD, cellsL_pure, cellsD_pure]
            | cons a0 ar =>
              have hp1 := cellsL_pure (a0 :: ar)
              simp only [List.length_cons] at hc2
              refine k.ev ?_
              simp (disch := first | assumption | omega | rfl | (simp only [sxP, Bool.and_self, length_cons, length_nil, length_take, length_drop, ↓reduceIte, reduceEqDiff]; first | done | omega) | exact Nat.le_of_ble_eq_true rfl | ((repeat (first | assumption | apply Byt.drop | apply Byt.take)); done) | fail) only [go_sem, ↓reduceIte, reduceEqDiff, reduceLeDiff, reduceLT, reduceAdd, reduceMul, reduceSub, reduceMod, reducePow, reduceDiv, reduceOr, reduceShiftLeft, Nat.reduceBEq, reduceGT, reduceSucc, accD, accDO, frow, rdD, rowD, hlt, hcall, hp1, cellsD_mk, encD]
              refine ⟨_, rfl, ?_⟩
              simp only [Behind, InBlk, Cut, if_true, ↓reduceIte]
              refine ⟨(kk, (a0 :: ar) ++ [⟨ek, en, et, eks, ep⟩], ⟨at1, 0, fp1⟩), hx, Nat.lt_succ_self _, ?_⟩
              refine k.gcs (keep := [0, 1, 4]) (live := [7, 6, 4, 3, 2]) (md := true) ?_
              simp only [List.cons_append, List.nil_append, accD, accDO, cellsL_cons, cellsL_append, cellsL_nil, cellsD_mk, List.append_nil, List.append_assoc, List.length_append, List.length_cons, List.length_nil]
              simp (disch := first | assumption | omega | rfl | (simp only [sxP, Bool.and_self, length_cons, length_nil, length_take, length_drop, ↓reduceIte, reduceEqDiff]; first | done | omega) | exact Nat.le_of_ble_eq_true rfl | ((repeat (first | assumption | apply Byt.drop | apply Byt.take)); done) | fail) only [go_sem, ↓reduceIte, reduceEqDiff, reduceLeDiff, reduceLT, reduceAdd, reduceMul, reduceSub, reduceMod, reducePow, reduceDiv, reduceOr, reduceShiftLeft, Nat.reduceBEq, reduceGT, reduceSucc, frow, rdD, rowD, cellsL_pure, cellsD_pure]
          · simp only [ne_eq, he, not_false_eq_true, if_true, Option.some.injEq, Prod.mk.injEq] at hx
            obtain ⟨rfl, rfl, rfl⟩ := hx
            cases acc with
            | nil =>
              refine k.ev ?_
              simp (disch := first | assumption | omega | rfl | (simp only [sxP, Bool.and_self, length_cons, length_nil, length_take, length_drop, ↓reduceIte, reduceEqDiff]; first | done | omega) | exact Nat.le_of_ble_eq_true rfl | ((repeat (first | assumption | apply Byt.drop | apply Byt.take)); done) | fail) only [go_sem, ↓reduceIte, reduceEqDiff, reduceLeDiff, reduceLT, reduceAdd, reduceMul, reduceSub, reduceMod, reducePow, reduceDiv, reduceOr, reduceShiftLeft, Nat.reduceBEq, reduceGT, reduceSucc, accD, accDO, frow, rdD, rowD, hlt, hcall, cellsD_mk, encD, he]
              refine ⟨_, rfl, ?_⟩
              simp only [Behind, InBlk, Cut, if_true, ↓reduceIte]
              simp only [CutP]
              apply fin_of (Or.inr rfl)
              iterate 5 (simp (disch := first | assumption | omega | rfl | (simp only [sxP, Bool.and_self, length_cons, length_nil, length_take, length_drop, ↓reduceIte, reduceEqDiff]; first | done | omega) | exact Nat.le_of_ble_eq_true rfl | ((repeat (first | assumption | apply Byt.drop | apply Byt.take)); done) | fail) only [go_sem, ↓reduceIte, reduceEqDiff, reduceLeDiff, reduceLT, reduceAdd, reduceMul, reduceSub, reduceMod, reducePow, reduceDiv, reduceOr, reduceShiftLeft, Nat.reduceBEq, reduceGT, reduceSucc, frow, rdD, rowD, cellsL_nil] <;> exact rfl)
            | cons a0 ar =>
              have hp1 := cellsL_pure (a0 :: ar)
              refine k.ev ?_
              simp (disch := first | assumption | omega | rfl | (simp only [sxP, Bool.and_self, length_cons, length_nil, length_take, length_drop, ↓reduceIte, reduceEqDiff]; first | done | omega) | exact Nat.le_of_ble_eq_true rfl | ((repeat (first | assumption | apply Byt.drop | apply Byt.take)); done) | fail) only [go_sem, ↓reduceIte, reduceEqDiff, reduceLeDiff, reduceLT, reduceAdd, reduceMul, reduceSub, reduceMod, reducePow, reduceDiv, reduceOr, reduceShiftLeft, Nat.reduceBEq, reduceGT, reduceSucc, accD, accDO, frow, rdD, rowD, hlt, hcall, hp1, cellsD_mk, encD, he]
              refine ⟨_, rfl, ?_⟩
              simp only [Behind, InBlk, Cut, if_true, ↓reduceIte]
              simp only [CutP]
              apply fin_of (Or.inr rfl)
              iterate 5 (simp (disch := first | assumption | omega | rfl | (simp only [sxP, Bool.and_self, length_cons, length_nil, length_take, length_drop, ↓reduceIte, reduceEqDiff]; first | done | omega) | exact Nat.le_of_ble_eq_true rfl | ((repeat (first | assumption | apply Byt.drop | apply Byt.take)); done) | fail) only [go_sem, ↓reduceIte, reduceEqDiff, reduceLeDiff, reduceLT, reduceAdd, reduceMul, reduceSub, reduceMod, reducePow, reduceDiv, reduceOr, reduceShiftLeft, Nat.reduceBEq, reduceGT, reduceSucc, frow, rdD, rowD, cellsL_nil] <;> exact rfl)
      · simp only [hlt, if_false, Option.some.injEq, Prod.mk.injEq] at hx
        obtain ⟨rfl, rfl, rfl⟩ := hx
        cases acc with
        | nil =>
          refine k.ev ?_
          simp (disch := first | assumption | omega | rfl | (simp only [sxP, Bool.and_self, length_cons, length_nil, length_take, length_drop, ↓reduceIte, reduceEqDiff]; first | done | omega) | exact Nat.le_of_ble_eq_true rfl | ((repeat (first | assumption | apply Byt.drop | apply Byt.take)); done) | fail) only [go_sem, ↓reduceIte, reduceEqDiff, reduceLeDiff, reduceLT, reduceAdd, reduceMul, reduceSub, reduceMod, reducePow, reduceDiv, reduceOr, reduceShiftLeft, Nat.reduceBEq, reduceGT, reduceSucc, accD, accDO, frow, rdD, rowD, hlt]
          refine ⟨_, rfl, ?_⟩
          simp only [Behind, InBlk, Cut, if_true, ↓reduceIte]
          simp only [CutP]
          refine ⟨trivial, ?_⟩
          refine k.gcs (keep := [0]) (live := [7, 3]) (md := true) ?_
          simp (disch := first | assumption | omega | rfl | (simp only [sxP, Bool.and_self, length_cons, length_nil, length_take, length_drop, ↓reduceIte, reduceEqDiff]; first | done | omega) | exact Nat.le_of_ble_eq_true rfl | ((repeat (first | assumption | apply Byt.drop | apply Byt.take)); done) | fail) only [go_sem, ↓reduceIte, reduceEqDiff, reduceLeDiff, reduceLT, reduceAdd, reduceMul, reduceSub, reduceMod, reducePow, reduceDiv, reduceOr, reduceShiftLeft, Nat.reduceBEq, reduceGT, reduceSucc, accD1, accD, accDO, frow, rdD, rowD]
        | cons a0 ar =>
          have hp1 := cellsL_pure (a0 :: ar)
          refine k.ev ?_
          simp (disch := first | assumption | omega | rfl | (simp only [sxP, Bool.and_self, length_cons, length_nil, length_take, length_drop, ↓reduceIte, reduceEqDiff]; first | done | omega) | exact Nat.le_of_ble_eq_true rfl | ((repeat (first | assumption | apply Byt.drop | apply Byt.take)); done) | fail) only [go_sem, ↓reduceIte, reduceEqDiff, reduceLeDiff, reduceLT, reduceAdd, reduceMul, reduceSub, reduceMod, reducePow, reduceDiv, reduceOr, reduceShiftLeft, Nat.reduceBEq, reduceGT, reduceSucc, accD, accDO, frow, rdD, rowD, hlt]
          refine ⟨_, rfl, ?_⟩
          simp only [Behind, InBlk, Cut, if_true, ↓reduceIte]
          simp only [CutP]
          refine ⟨trivial, ?_⟩
          refine k.gcs (keep := [0, 2]) (live := [7, 3]) (md := true) ?_
          simp (disch := first | assumption | omega | rfl | (simp only [sxP, Bool.and_self, length_cons, length_nil, length_take, length_drop, ↓reduceIte, reduceEqDiff]; first | done | omega) | exact Nat.le_of_ble_eq_true rfl | ((repeat (first | assumption | apply Byt.drop | apply Byt.take)); done) | fail) only [go_sem, ↓reduceIte, reduceEqDiff, reduceLeDiff, reduceLT, reduceAdd, reduceMul, reduceSub, reduceMod, reducePow, reduceDiv, reduceOr, reduceShiftLeft, Nat.reduceBEq, reduceGT, reduceSucc, accD1, accD, accDO, frow, rdD, rowD, hp1]
  · rintro ⟨rfl, rfl⟩
    cases l with
    | nil =>
      refine tri_seq (k.ev ?_)
      simp (disch := first | assumption | omega | rfl | (simp only [sxP, Bool.and_self, length_cons, length_nil, length_take, length_drop, ↓reduceIte, reduceEqDiff]; first | done | omega) | exact Nat.le_of_ble_eq_true rfl | ((repeat (first | assumption | apply Byt.drop | apply Byt.take)); done) | fail) only [go_sem, ↓reduceIte, reduceEqDiff, reduceLeDiff, reduceLT, reduceAdd, reduceMul, reduceSub, reduceMod, reducePow, reduceDiv, reduceOr, reduceShiftLeft, Nat.reduceBEq, reduceGT, reduceSucc, accD1, accDO, frow, rdD, rowD]
      refine ⟨_, rfl, ?_⟩
      simp only [Behind, InBlk, Cut, if_true, ↓reduceIte]
      refine k.ev ?_
      simp (disch := first | assumption | omega | rfl | (simp only [sxP, Bool.and_self, length_cons, length_nil, length_take, length_drop, ↓reduceIte, reduceEqDiff]; first | done | omega) | exact Nat.le_of_ble_eq_true rfl | ((repeat (first | assumption | apply Byt.drop | apply Byt.take)); done) | fail) only [go_sem, ↓reduceIte, reduceEqDiff, reduceLeDiff, reduceLT, reduceAdd, reduceMul, reduceSub, reduceMod, reducePow, reduceDiv, reduceOr, reduceShiftLeft, Nat.reduceBEq, reduceGT, reduceSucc]
      refine ⟨_, rfl, ?_⟩
      simp only [Behind, InBlk, Cut, if_true, ↓reduceIte]
      apply fin_of (Or.inr rfl)
      iterate 5 (simp (disch := first | assumption | omega | rfl | (simp only [sxP, Bool.and_self, length_cons, length_nil, length_take, length_drop, ↓reduceIte, reduceEqDiff]; first | done | omega) | exact Nat.le_of_ble_eq_true rfl | ((repeat (first | assumption | apply Byt.drop | apply Byt.take)); done) | fail) only [go_sem, ↓reduceIte, reduceEqDiff, reduceLeDiff, reduceLT, reduceAdd, reduceMul, reduceSub, reduceMod, reducePow, reduceDiv, reduceOr, reduceShiftLeft, Nat.reduceBEq, reduceGT, reduceSucc, rdD, rowD, cellsL_nil] <;> exact rfl)
    | cons a0 ar =>
      have hp1 := cellsL_pure (a0 :: ar)
      refine tri_seq (k.ev ?_)
      simp (disch := first | assumption | omega | rfl | (simp only [sxP, Bool.and_self, length_cons, length_nil, length_take, length_drop, ↓reduceIte, reduceEqDiff]; first | done | omega) | exact Nat.le_of_ble_eq_true rfl | ((repeat (first | assumption | apply Byt.drop | apply Byt.take)); done) | fail) only [go_sem, ↓reduceIte, reduceEqDiff, reduceLeDiff, reduceLT, reduceAdd, reduceMul, reduceSub, reduceMod, reducePow, reduceDiv, reduceOr, reduceShiftLeft, Nat.reduceBEq, reduceGT, reduceSucc, accD1, accDO, frow, rdD, rowD]
      refine ⟨_, rfl, ?_⟩
      simp only [Behind, InBlk, Cut, if_true, ↓reduceIte]
      refine k.ev ?_
      simp (disch := first | assumption | omega | rfl | (simp only [sxP, Bool.and_self, length_cons, length_nil, length_take, length_drop, ↓reduceIte, reduceEqDiff]; first | done | omega) | exact Nat.le_of_ble_eq_true rfl | ((repeat (first | assumption | apply Byt.drop | apply Byt.take)); done) | fail) only [go_sem, ↓reduceIte, reduceEqDiff, reduceLeDiff, reduceLT, reduceAdd, reduceMul, reduceSub, reduceMod, reducePow, reduceDiv, reduceOr, reduceShiftLeft, Nat.reduceBEq, reduceGT, reduceSucc]
      refine ⟨_, rfl, ?_⟩
      simp only [Behind, InBlk, Cut, if_true, ↓reduceIte]
      apply fin_of (Or.inr rfl)
      iterate 5 (simp (disch := first | assumption | omega | rfl | (simp only [sxP, Bool.and_self, length_cons, length_nil, length_take, length_drop, ↓reduceIte, reduceEqDiff]; first | done | omega) | exact Nat.le_of_ble_eq_true rfl | ((repeat (first | assumption | apply Byt.drop | apply Byt.take)); done) | fail) only [go_sem, ↓reduceIte, reduceEqDiff, reduceLeDiff, reduceLT, reduceAdd, reduceMul, reduceSub, reduceMod, reducePow, reduceDiv, reduceOr, reduceShiftLeft, Nat.reduceBEq, reduceGT, reduceSucc, rdD, rowD, cellsL_nil, cellsL_wk] <;> exact rfl)
end Go.Proofs.YthcmnajcjapjbaaGreatDoor.Ev

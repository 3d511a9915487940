/- Contracts of functions that DatumDeep calls: what a call answers, for all data, by symbolic evaluation. No conditions of its own. -/
import Derived.Test.YthcmnajcjapjbaaGreatDoorDC
import Derived.Test.YthcmnajcjapjbaaGreatDoorEvJ
set_option linter.unusedSimpArgs false
set_option linter.unusedVariables false
set_option linter.defProp false
namespace Go.Proofs.YthcmnajcjapjbaaGreatDoor.Ev
open Nat (reduceEqDiff reduceLeDiff reduceLT reduceAdd reduceMul reduceSub reduceMod reducePow reduceDiv reduceOr reduceShiftLeft reduceGT reduceSucc)
open List (length_cons length_nil length_take length_drop)
open T
set_option maxRecDepth 100000
def PreRd (b : List Nat) : Prop := PreS b ∧ (lexS 0 b).length < 1000000 ∧ ∃ r, readF (lexS 0 b) 1000000 [] ⟨0, 0, 0⟩ = some r
def rdF (b : List Nat) : AV := match readF (lexS 0 b) 1000000 [] ⟨0, 0, 0⟩ with
  | some (l, er, fp) => .tup [.lst l.length false (cellsL l), .agg [.int .i64 (.ofNat er), .int .i64 (.ofNat fp)]]
  | none => .bool true
noncomputable def gRead : List AV → St → Option (AV × St) := orc0 encSrc PreRd rdF
theorem rd_call {O : Orc} (h : O 15 = some gRead) {b : List Nat} (h1 : PreS b) (h2 : (lexS 0 b).length < 1000000) {l : List DT} {er fp : Nat} (h3 : readF (lexS 0 b) 1000000 [] ⟨0, 0, 0⟩ = some (l, er, fp)) (s : St) :
    (evW env O).call 15 [.lst b.length false (bytesV b)] s = some (.tup [.lst l.length false (cellsL l), .agg [.int .i64 (.ofNat er), .int .i64 (.ofNat fp)]], s) := by
  rw [call_known h, gRead, orc0_eq encSrc_inj s b ⟨h1, h2, _, h3⟩ (by simp only [encSrc, wkL, wkV, wkL_bytes])]
  simp only [rdF, h3]
def encWr (x : DT × Bool) : List AV := [encD x.1, .bool x.2]
theorem encWr_inj : ∀ x y, encWr x = encWr y → x = y := fun ⟨d, b⟩ ⟨e, c⟩ h => by
  simp only [encWr, List.cons.injEq, AV.bool.injEq, and_true] at h
  rw [encD_inj h.1, h.2]
def PreWr (N : Nat) (x : DT × Bool) : Prop := ∃ t, textF 1001 x.1 = some t ∧ kindD x.1 ≠ .ofNat 2 ∧ t.length < 1000000 ∧ Byt t ∧ MayD x.1 ∧ SizeOf.sizeOf x.1 < N
noncomputable def gWr (N : Nat) : List AV → St → Option (AV × St) := orc0 encWr (PreWr N) (fun x => .str ((textF 1001 x.1).getD []))
theorem wr_call {O : Orc} {N : Nat} (h : O 9 = some (gWr N)) {d : DT} {t : List Nat} (h1 : textF 1001 d = some t) (h2 : kindD d ≠ .ofNat 2) (h3 : t.length < 1000000) (h4 : Byt t) (h5 : MayD d) (h6 : SizeOf.sizeOf d < N) (disp : Bool) (s : St) :
    (evW env O).call 9 [.agg (cellsD d), .bool disp] s = some (.str t, s) := by
  rw [call_known h, gWr, orc0_eq encWr_inj s (d, disp) ⟨t, h1, h2, h3, h4, h5, h6⟩ (by simp only [encWr, encD, wkL, wkV, cellsD_wk])]
  simp only [h1, Option.getD_some]
noncomputable def gOk : List AV → St → Option (AV × St) := orc0 (fun _ : Unit => []) (fun _ => True) (fun _ => .bool true)
theorem ok_call {O : Orc} (h : O 8 = some gOk) (s : St) : (evW env O).call 8 [] s = some (.bool true, s) := by
  rw [call_known h, gOk, orc0_eq (fun _ _ _ => rfl) s () trivial rfl]
def onesS : Nat → List Nat
  | 0 => []
  | n + 1 => onesS n ++ [49, 32]
theorem onesS_len : ∀ n, (onesS n).length = 2 * n
  | 0 => rfl
  | n + 1 => by simp only [onesS, List.length_append, onesS_len n, List.length_cons, List.length_nil]; omega
def src1 (n : Nat) : List Nat := 40 :: onesS n ++ [41]
def repS (c : Nat) : Nat → List Nat
  | 0 => []
  | n + 1 => repS c n ++ [c]
theorem repS_len (c : Nat) : ∀ n, (repS c n).length = n
  | 0 => rfl
  | n + 1 => by simp only [repS, List.length_append, repS_len c n, List.length_cons, List.length_nil]
def src2 (k : Nat) : List Nat := repS 40 k ++ repS 41 k
structure Facts (N n k : Nat) : Prop where
  s1 : PreS (src1 n)
  l1 : (lexS 0 (src1 n)).length < 1000000
  r1 : ∃ d l e, readF (lexS 0 (src1 n)) 1000000 [] ⟨0, 0, 0⟩ = some ([d], 0, 0) ∧ itemsOf 1000000 [] d = some (l, e) ∧ l.length = n ∧ kindD e = .ofNat 0 ∧ Plain d ∧ MayD d ∧ SizeOf.sizeOf d < N ∧ kindD d ≠ .ofNat 2 ∧ (0 < n → ∃ t, textF 1001 d = some t ∧ t.length = 2 * n + 1 ∧ Byt t)
  s2 : PreS (src2 k)
  l2 : (lexS 0 (src2 k)).length < 1000000
  r2 : k ≤ 200 → ∃ d, readF (lexS 0 (src2 k)) 1000000 [] ⟨0, 0, 0⟩ = some ([d], 0, 0) ∧ MayD d ∧ SizeOf.sizeOf d < N ∧ kindD d ≠ .ofNat 2 ∧ textF 1001 d = some (src2 k)
  r3 : 200 < k → readF (lexS 0 (src2 k)) 1000000 [] ⟨0, 0, 0⟩ = some ([], 5, 200)
def acc2 : Nat → AV
  | 0 => .nils
  | i + 1 => .gr 0 1 (i + 1) (bytesV (repS 40 (i + 1)))
def acc2O : Nat → List (Option AObj)
  | 0 => []
  | i + 1 => [some (.app 5 (bytesV (repS 40 (i + 1))))]
def out3 (k i : Nat) : List Nat := repS 40 k ++ repS 41 i
theorem out3_len (k i : Nat) : (out3 k i).length = k + i := by simp only [out3, List.length_append, repS_len]
theorem out3_s (k i : Nat) : out3 k (i + 1) = out3 k i ++ [41] := by simp only [out3, repS, List.append_assoc]
theorem out3_0 (k : Nat) : out3 k 0 = repS 40 k := by simp only [out3, repS, List.append_nil]
theorem out3_k (k : Nat) : out3 k k = src2 k := rfl
theorem rem3001 (a : Nat) : binI .rem .u16 (.ofNat a) .u16 (.ofNat 3001) = some (.int .u16 (.ofNat (a % 3001))) := rfl
theorem rem400 (a : Nat) : binI .rem .u16 (.ofNat a) .u16 (.ofNat 400) = some (.int .u16 (.ofNat (a % 400))) := rfl
theorem deep_sc {P : Program} {w0 : World} (B : Bx P w0) {O : Orc} (hO : OrcOk P w0 O) {N : Nat} (h15 : O 15 = some gRead) (h19 : O 19 = some gItm) (h13 : O 13 = some (gSame N)) (h9 : O 9 = some (gWr N)) (h8 : O 8 = some gOk) (a b : Nat) (ha : a < 65536) (hb : b < 65536) (F : Facts N (a % 3001) (1 + b % 400)) :
    SC P w0 6 [.int .u16 (.ofNat a), .int .u16 (.ofNat b)] (H [] 0 true) (.bool true) (H [] 0 true) := by
  refine Is.sc hO B.mixed B.glob B.env 0 (show env.funs.get 6 = some f6 from rfl) (Nat.le_of_ble_eq_true rfl) mask0 fun C k => ?_
  have hn : a % 3001 < 3001 := Nat.mod_lt _ (by omega)
  have hk : 1 + b % 400 < 401 := by have := Nat.mod_lt b (show 400 > 0 by omega); omega
  have hk1 : 1 ≤ 1 + b % 400 := by omega
  unfold f6
  simp only
  refine tri_seq (k.ev ?_)
  simp (disch := first | assumption | omega | rfl | (simp only [sxP, Bool.and_self, length_cons, length_nil, length_take, length_drop, ↓reduceIte, reduceEqDiff]; first | done | omega) | exact Nat.le_of_ble_eq_true rfl | ((repeat (first | assumption | apply Byt.drop | apply Byt.take)); done) | fail) only [go_sem, ↓reduceIte, reduceEqDiff, reduceLeDiff, reduceLT, reduceAdd, reduceMul, reduceSub, reduceMod, reducePow, reduceDiv, reduceOr, reduceShiftLeft, Nat.reduceBEq, reduceGT, reduceSucc]
  refine ⟨_, rfl, ?_⟩
  simp only [Behind, InBlk, Cut, if_true, ↓reduceIte]
  refine tri_seq (k.ev ?_)
  simp (disch := first | assumption | omega | rfl | (simp only [sxP, Bool.and_self, length_cons, length_nil, length_take, length_drop, ↓reduceIte, reduceEqDiff]; first | done | omega) | exact Nat.le_of_ble_eq_true rfl | ((repeat (first | assumption | apply Byt.drop | apply Byt.take)); done) | fail) only [go_sem, ↓reduceIte, reduceEqDiff, reduceLeDiff, reduceLT, reduceAdd, reduceMul, reduceSub, reduceMod, reducePow, reduceDiv, reduceOr, reduceShiftLeft, Nat.reduceBEq, reduceGT, reduceSucc, rem3001, rem400]
  refine ⟨_, rfl, ?_⟩
  simp only [Behind, InBlk, Cut, if_true, ↓reduceIte]
  revert hn hk hk1 F
  generalize a % 3001 = n
  generalize 1 + b % 400 = kk
  intro F hn hk hk1
  refine tri_seq (k.ev ?_)
  simp (disch := first | assumption | omega | rfl | (simp only [sxP, Bool.and_self, length_cons, length_nil, length_take, length_drop, ↓reduceIte, reduceEqDiff]; first | done | omega) | exact Nat.le_of_ble_eq_true rfl | ((repeat (first | assumption | apply Byt.drop | apply Byt.take)); done) | fail) only [go_sem, ↓reduceIte, reduceEqDiff, reduceLeDiff, reduceLT, reduceAdd, reduceMul, reduceSub, reduceMod, reducePow, reduceDiv, reduceOr, reduceShiftLeft, Nat.reduceBEq, reduceGT, reduceSucc]
  refine ⟨_, rfl, ?_⟩
  simp only [Behind, InBlk, Cut, if_true, ↓reduceIte]
  refine tri_seq (k.ev ?_)
  simp (disch := first | assumption | omega | rfl | (simp only [sxP, Bool.and_self, length_cons, length_nil, length_take, length_drop, ↓reduceIte, reduceEqDiff]; first | done | omega) | exact Nat.le_of_ble_eq_true rfl | ((repeat (first | assumption | apply Byt.drop | apply Byt.take)); done) | fail) only [go_sem, ↓reduceIte, reduceEqDiff, reduceLeDiff, reduceLT, reduceAdd, reduceMul, reduceSub, reduceMod, reducePow, reduceDiv, reduceOr, reduceShiftLeft, Nat.reduceBEq, reduceGT, reduceSucc]
  refine ⟨_, rfl, ?_⟩
  simp only [Behind, InBlk, Cut, if_true, ↓reduceIte]
  refine tri_cut ⟨tmL [(7, .gr 0 1 (1 + 2 * n) (bytesV (40 :: onesS n))), (6, .int .i64 (.ofNat kk)), (5, .int .i64 (.ofNat n))], []⟩ (H [some (.app 5 (bytesV (40 :: onesS n)))] 0 true) ?_ ?_
  ·
    refine tri_seq (k.ev ?_)
    simp (disch := first | assumption | omega | rfl | (simp only [sxP, Bool.and_self, length_cons, length_nil, length_take, length_drop, ↓reduceIte, reduceEqDiff]; first | done | omega) | exact Nat.le_of_ble_eq_true rfl | ((repeat (first | assumption | apply Byt.drop | apply Byt.take)); done) | fail) only [go_sem, ↓reduceIte, reduceEqDiff, reduceLeDiff, reduceLT, reduceAdd, reduceMul, reduceSub, reduceMod, reducePow, reduceDiv, reduceOr, reduceShiftLeft, Nat.reduceBEq, reduceGT, reduceSucc]
    refine ⟨_, rfl, ?_⟩
    simp only [Behind, InBlk, Cut, if_true, ↓reduceIte]
    refine tri_block (tri_loop (k.gcL [0] [8, 7, 6, 5] true (fr1 := ⟨tmL [(8, .int .i64 (.ofNat 0)), (7, .gr 0 1 1 (bytesV (40 :: onesS 0))), (6, .int .i64 (.ofNat kk)), (5, .int .i64 (.ofNat n))], []⟩) (s1 := H [some (.app 5 (bytesV (40 :: onesS 0)))] 0 true) (by simp (disch := first | assumption | omega | rfl | (simp only [sxP, Bool.and_self, length_cons, length_nil, length_take, length_drop, ↓reduceIte, reduceEqDiff]; first | done | omega) | exact Nat.le_of_ble_eq_true rfl | ((repeat (first | assumption | apply Byt.drop | apply Byt.take)); done) | fail) only [go_sem, ↓reduceIte, reduceEqDiff, reduceLeDiff, reduceLT, reduceAdd, reduceMul, reduceSub, reduceMod, reducePow, reduceDiv, reduceOr, reduceShiftLeft, Nat.reduceBEq, reduceGT, reduceSucc, onesS]) ?_))
    refine triL_ind (fun i : Nat => n - i) (fun i => ⟨tmL [(8, .int .i64 (.ofNat i)), (7, .gr 0 1 (1 + 2 * i) (bytesV (40 :: onesS i))), (6, .int .i64 (.ofNat kk)), (5, .int .i64 (.ofNat n))], []⟩) (fun i => H [some (.app 5 (bytesV (40 :: onesS i)))] 0 true) (fun i => i ≤ n) (fun i hi => ?_) 0 (Nat.zero_le _)
    have hL := onesS_len i
    by_cases hlt : i < n
    · have ap := fun l nx m e hg => @app_grB l nx m 5 0 (1 + 2 * i) true e (40 :: onesS i) [49, 32] hg (by simp only [List.length_cons, hL]; omega) (by simp) (by simp only [List.length_append, List.length_cons, List.length_nil, hL]; omega)
      simp only [List.length_cons, List.length_nil, Nat.zero_add, Nat.reduceAdd, bytesV, List.cons_append] at ap
      refine k.ev ?_
      simp (disch := first | assumption | omega | rfl | (simp only [sxP, Bool.and_self, length_cons, length_nil, length_take, length_drop, ↓reduceIte, reduceEqDiff]; first | done | omega) | exact Nat.le_of_ble_eq_true rfl | ((repeat (first | assumption | apply Byt.drop | apply Byt.take)); done) | fail) only [go_sem, ↓reduceIte, reduceEqDiff, reduceLeDiff, reduceLT, reduceAdd, reduceMul, reduceSub, reduceMod, reducePow, reduceDiv, reduceOr, reduceShiftLeft, Nat.reduceBEq, reduceGT, reduceSucc, hlt, ap]
      refine ⟨_, rfl, ?_⟩
      simp only [Behind, InBlk, Cut, if_true, ↓reduceIte]
      refine ⟨i + 1, hlt, by omega, ?_⟩
      refine k.gcs (keep := [1]) (live := [8, 7, 6, 5]) (md := true) ?_
      simp (disch := first | assumption | omega | rfl | (simp only [sxP, Bool.and_self, length_cons, length_nil, length_take, length_drop, ↓reduceIte, reduceEqDiff]; first | done | omega) | exact Nat.le_of_ble_eq_true rfl | ((repeat (first | assumption | apply Byt.drop | apply Byt.take)); done) | fail) only [go_sem, ↓reduceIte, reduceEqDiff, reduceLeDiff, reduceLT, reduceAdd, reduceMul, reduceSub, reduceMod, reducePow, reduceDiv, reduceOr, reduceShiftLeft, Nat.reduceBEq, reduceGT, reduceSucc, onesS, bytesV_ap, Nat.mul_add, Nat.add_assoc]
    · have hi2 : i = n := by omega
      subst hi2
      refine k.ev ?_
      simp (disch := first | assumption | omega | rfl | (simp only [sxP, Bool.and_self, length_cons, length_nil, length_take, length_drop, ↓reduceIte, reduceEqDiff]; first | done | omega) | exact Nat.le_of_ble_eq_true rfl | ((repeat (first | assumption | apply Byt.drop | apply Byt.take)); done) | fail) only [go_sem, ↓reduceIte, reduceEqDiff, reduceLeDiff, reduceLT, reduceAdd, reduceMul, reduceSub, reduceMod, reducePow, reduceDiv, reduceOr, reduceShiftLeft, Nat.reduceBEq, reduceGT, reduceSucc, hlt]
      refine ⟨_, rfl, ?_⟩
      simp only [Behind, InBlk, Cut, if_true, ↓reduceIte]
      refine k.gcs (keep := [0]) (live := [7, 6, 5]) (md := true) ?_
      simp (disch := first | assumption | omega | rfl | (simp only [sxP, Bool.and_self, length_cons, length_nil, length_take, length_drop, ↓reduceIte, reduceEqDiff]; first | done | omega) | exact Nat.le_of_ble_eq_true rfl | ((repeat (first | assumption | apply Byt.drop | apply Byt.take)); done) | fail) only [go_sem, ↓reduceIte, reduceEqDiff, reduceLeDiff, reduceLT, reduceAdd, reduceMul, reduceSub, reduceMod, reducePow, reduceDiv, reduceOr, reduceShiftLeft, Nat.reduceBEq, reduceGT, reduceSucc]
  have hL := onesS_len n
  have ap := fun l nx m e hg => @app_grB l nx m 5 0 (1 + 2 * n) true e (40 :: onesS n) [41] hg (by simp only [List.length_cons, hL]; omega) (by simp) (by simp only [List.length_append, List.length_cons, List.length_nil, hL]; omega)
  simp only [List.length_cons, List.length_nil, Nat.zero_add, Nat.reduceAdd, bytesV, List.cons_append] at ap
  have hsl : (src1 n).length = 1 + 2 * n + 1 := by simp only [src1, List.length_append, List.length_cons, List.length_nil, hL]; omega
  refine tri_seq (k.ev ?_)
  simp (disch := first | assumption | omega | rfl | (simp only [sxP, Bool.and_self, length_cons, length_nil, length_take, length_drop, ↓reduceIte, reduceEqDiff]; first | done | omega) | exact Nat.le_of_ble_eq_true rfl | ((repeat (first | assumption | apply Byt.drop | apply Byt.take)); done) | fail) only [go_sem, ↓reduceIte, reduceEqDiff, reduceLeDiff, reduceLT, reduceAdd, reduceMul, reduceSub, reduceMod, reducePow, reduceDiv, reduceOr, reduceShiftLeft, Nat.reduceBEq, reduceGT, reduceSucc, ap]
  refine ⟨_, rfl, ?_⟩
  simp only [Behind, InBlk, Cut, if_true, ↓reduceIte]
  refine k.gc [1] [7, 6, 5] true (fr1 := ⟨tmL [(7, .gr 0 1 (1 + 2 * n + 1) (bytesV (src1 n))), (6, .int .i64 (.ofNat kk)), (5, .int .i64 (.ofNat n))], []⟩) (s1 := H [some (.app 5 (bytesV (src1 n)))] 0 true) (by simp only [src1, List.cons_append]; simp (disch := first | assumption | omega | rfl | (simp only [sxP, Bool.and_self, length_cons, length_nil, length_take, length_drop, ↓reduceIte, reduceEqDiff]; first | done | omega) | exact Nat.le_of_ble_eq_true rfl | ((repeat (first | assumption | apply Byt.drop | apply Byt.take)); done) | fail) only [go_sem, ↓reduceIte, reduceEqDiff, reduceLeDiff, reduceLT, reduceAdd, reduceMul, reduceSub, reduceMod, reducePow, reduceDiv, reduceOr, reduceShiftLeft, Nat.reduceBEq, reduceGT, reduceSucc]) ?_
  rw [← hsl]
  refine tri_gc k.grl ?_
  refine k.gc [] [7, 6, 5] true (fr1 := ⟨tmL [(7, .lst (src1 n).length false (bytesV (src1 n))), (6, .int .i64 (.ofNat kk)), (5, .int .i64 (.ofNat n))], []⟩) (s1 := H [] 0 true) (by simp (disch := first | assumption | omega | rfl | (simp only [sxP, Bool.and_self, length_cons, length_nil, length_take, length_drop, ↓reduceIte, reduceEqDiff]; first | done | omega) | exact Nat.le_of_ble_eq_true rfl | ((repeat (first | assumption | apply Byt.drop | apply Byt.take)); done) | fail) only [go_sem, ↓reduceIte, reduceEqDiff, reduceLeDiff, reduceLT, reduceAdd, reduceMul, reduceSub, reduceMod, reducePow, reduceDiv, reduceOr, reduceShiftLeft, Nat.reduceBEq, reduceGT, reduceSucc]) ?_
  obtain ⟨d1, l1, e1, hr1, hi1, hl1, he1, hp1, hm1, hs1, hk1', ht1⟩ := F.r1
  have hrd1 := rd_call h15 F.s1 F.l1 hr1
  have hit1 := itm_call h19 hi1
  have hsame1 := same_call h13 hp1 hs1
  simp only [List.length_cons, List.length_nil, Nat.zero_add] at hrd1
  rw [hl1] at hit1
  refine tri_seq (k.ev ?_)
  simp (disch := first | assumption | omega | rfl | (simp only [sxP, Bool.and_self, length_cons, length_nil, length_take, length_drop, ↓reduceIte, reduceEqDiff]; first | done | omega) | exact Nat.le_of_ble_eq_true rfl | ((repeat (first | assumption | apply Byt.drop | apply Byt.take)); done) | fail) only [go_sem, ↓reduceIte, reduceEqDiff, reduceLeDiff, reduceLT, reduceAdd, reduceMul, reduceSub, reduceMod, reducePow, reduceDiv, reduceOr, reduceShiftLeft, Nat.reduceBEq, reduceGT, reduceSucc, hrd1]
  refine ⟨_, rfl, ?_⟩
  simp only [Behind, InBlk, Cut, if_true, ↓reduceIte]
  refine tri_seq (k.ev ?_)
  simp (disch := first | assumption | omega | rfl | (simp only [sxP, Bool.and_self, length_cons, length_nil, length_take, length_drop, ↓reduceIte, reduceEqDiff]; first | done | omega) | exact Nat.le_of_ble_eq_true rfl | ((repeat (first | assumption | apply Byt.drop | apply Byt.take)); done) | fail) only [go_sem, ↓reduceIte, reduceEqDiff, reduceLeDiff, reduceLT, reduceAdd, reduceMul, reduceSub, reduceMod, reducePow, reduceDiv, reduceOr, reduceShiftLeft, Nat.reduceBEq, reduceGT, reduceSucc]
  refine ⟨_, rfl, ?_⟩
  simp only [Behind, InBlk, Cut, if_true, ↓reduceIte]
  obtain ⟨ek, en, et, eks, ep⟩ := e1
  simp only [kindD] at he1
  subst he1
  have hc1 : cellsL [d1] = cellsD d1 := by simp only [cellsL_cons, cellsL_nil, List.append_nil]
  refine tri_seq (k.ev ?_)
  simp (disch := first | assumption | omega | rfl | (simp only [sxP, Bool.and_self, length_cons, length_nil, length_take, length_drop, ↓reduceIte, reduceEqDiff]; first | done | omega) | exact Nat.le_of_ble_eq_true rfl | ((repeat (first | assumption | apply Byt.drop | apply Byt.take)); done) | fail) only [go_sem, ↓reduceIte, reduceEqDiff, reduceLeDiff, reduceLT, reduceAdd, reduceMul, reduceSub, reduceMod, reducePow, reduceDiv, reduceOr, reduceShiftLeft, Nat.reduceBEq, reduceGT, reduceSucc, hc1, takeN_cells1, hit1, encD, cellsD_mk]
  refine ⟨_, rfl, ?_⟩
  simp only [Behind, InBlk, Cut, if_true, ↓reduceIte]
  refine tri_cut ⟨tmL [(6, .int .i64 (.ofNat kk))], []⟩ (H [] 0 true) ?_ ?_
  · by_cases hz : n = 0
    · subst hz
      refine k.ev ?_
      simp (disch := first | assumption | omega | rfl | (simp only [sxP, Bool.and_self, length_cons, length_nil, length_take, length_drop, ↓reduceIte, reduceEqDiff]; first | done | omega) | exact Nat.le_of_ble_eq_true rfl | ((repeat (first | assumption | apply Byt.drop | apply Byt.take)); done) | fail) only [go_sem, ↓reduceIte, reduceEqDiff, reduceLeDiff, reduceLT, reduceAdd, reduceMul, reduceSub, reduceMod, reducePow, reduceDiv, reduceOr, reduceShiftLeft, Nat.reduceBEq, reduceGT, reduceSucc, hc1, takeN_cells1, hsame1]
      refine ⟨_, rfl, ?_⟩
      simp only [Behind, InBlk, Cut, if_true, ↓reduceIte]
      refine k.gcs (keep := []) (live := [6]) (md := true) ?_
      simp (disch := first | assumption | omega | rfl | (simp only [sxP, Bool.and_self, length_cons, length_nil, length_take, length_drop, ↓reduceIte, reduceEqDiff]; first | done | omega) | exact Nat.le_of_ble_eq_true rfl | ((repeat (first | assumption | apply Byt.drop | apply Byt.take)); done) | fail) only [go_sem, ↓reduceIte, reduceEqDiff, reduceLeDiff, reduceLT, reduceAdd, reduceMul, reduceSub, reduceMod, reducePow, reduceDiv, reduceOr, reduceShiftLeft, Nat.reduceBEq, reduceGT, reduceSucc]
    · obtain ⟨t1, hx1, hx2, hx3⟩ := ht1 (by omega)
      have hw1 := wr_call h9 hx1 hk1' (by omega) hx3 hm1 hs1 true
      have hgt : 0 < n := by omega
      refine k.ev ?_
      simp (disch := first | assumption | omega | rfl | (simp only [sxP, Bool.and_self, length_cons, length_nil, length_take, length_drop, ↓reduceIte, reduceEqDiff]; first | done | omega) | exact Nat.le_of_ble_eq_true rfl | ((repeat (first | assumption | apply Byt.drop | apply Byt.take)); done) | fail) only [go_sem, ↓reduceIte, reduceEqDiff, reduceLeDiff, reduceLT, reduceAdd, reduceMul, reduceSub, reduceMod, reducePow, reduceDiv, reduceOr, reduceShiftLeft, Nat.reduceBEq, reduceGT, reduceSucc, hc1, takeN_cells1, hsame1, hw1, hx2, hgt]
      refine ⟨_, rfl, ?_⟩
      simp only [Behind, InBlk, Cut, if_true, ↓reduceIte]
      refine k.gcs (keep := []) (live := [6]) (md := true) ?_
      simp (disch := first | assumption | omega | rfl | (simp only [sxP, Bool.and_self, length_cons, length_nil, length_take, length_drop, ↓reduceIte, reduceEqDiff]; first | done | omega) | exact Nat.le_of_ble_eq_true rfl | ((repeat (first | assumption | apply Byt.drop | apply Byt.take)); done) | fail) only [go_sem, ↓reduceIte, reduceEqDiff, reduceLeDiff, reduceLT, reduceAdd, reduceMul, reduceSub, reduceMod, reducePow, reduceDiv, reduceOr, reduceShiftLeft, Nat.reduceBEq, reduceGT, reduceSucc]
  refine tri_seq (k.ev ?_)
  simp (disch := first | assumption | omega | rfl | (simp only [sxP, Bool.and_self, length_cons, length_nil, length_take, length_drop, ↓reduceIte, reduceEqDiff]; first | done | omega) | exact Nat.le_of_ble_eq_true rfl | ((repeat (first | assumption | apply Byt.drop | apply Byt.take)); done) | fail) only [go_sem, ↓reduceIte, reduceEqDiff, reduceLeDiff, reduceLT, reduceAdd, reduceMul, reduceSub, reduceMod, reducePow, reduceDiv, reduceOr, reduceShiftLeft, Nat.reduceBEq, reduceGT, reduceSucc]
  refine ⟨_, rfl, ?_⟩
  simp only [Behind, InBlk, Cut, if_true, ↓reduceIte]
  refine tri_cut ⟨tmL [(13, .gr 0 1 kk (bytesV (out3 kk 0))), (6, .int .i64 (.ofNat kk))], []⟩ (H [some (.app 5 (bytesV (out3 kk 0)))] 0 true) ?_ ?_
  ·
    refine tri_seq (k.ev ?_)
    simp (disch := first | assumption | omega | rfl | (simp only [sxP, Bool.and_self, length_cons, length_nil, length_take, length_drop, ↓reduceIte, reduceEqDiff]; first | done | omega) | exact Nat.le_of_ble_eq_true rfl | ((repeat (first | assumption | apply Byt.drop | apply Byt.take)); done) | fail) only [go_sem, ↓reduceIte, reduceEqDiff, reduceLeDiff, reduceLT, reduceAdd, reduceMul, reduceSub, reduceMod, reducePow, reduceDiv, reduceOr, reduceShiftLeft, Nat.reduceBEq, reduceGT, reduceSucc]
    refine ⟨_, rfl, ?_⟩
    simp only [Behind, InBlk, Cut, if_true, ↓reduceIte]
    refine tri_block (tri_loop (k.gcL [] [14, 13, 6] true (fr1 := ⟨tmL [(14, .int .i64 (.ofNat 0)), (13, acc2 0), (6, .int .i64 (.ofNat kk))], []⟩) (s1 := H (acc2O 0) 0 true) (by simp (disch := first | assumption | omega | rfl | (simp only [sxP, Bool.and_self, length_cons, length_nil, length_take, length_drop, ↓reduceIte, reduceEqDiff]; first | done | omega) | exact Nat.le_of_ble_eq_true rfl | ((repeat (first | assumption | apply Byt.drop | apply Byt.take)); done) | fail) only [go_sem, ↓reduceIte, reduceEqDiff, reduceLeDiff, reduceLT, reduceAdd, reduceMul, reduceSub, reduceMod, reducePow, reduceDiv, reduceOr, reduceShiftLeft, Nat.reduceBEq, reduceGT, reduceSucc, acc2, acc2O]) ?_))
    refine triL_ind (fun i : Nat => kk - i) (fun i => ⟨tmL [(14, .int .i64 (.ofNat i)), (13, acc2 i), (6, .int .i64 (.ofNat kk))], []⟩) (fun i => H (acc2O i) 0 true) (fun i => i ≤ kk) (fun i hi => ?_) 0 (Nat.zero_le _)
    cases i with
    | zero =>
      have hlt : 0 < kk := by omega
      refine k.ev ?_
      simp (disch := first | assumption | omega | rfl | (simp only [sxP, Bool.and_self, length_cons, length_nil, length_take, length_drop, ↓reduceIte, reduceEqDiff]; first | done | omega) | exact Nat.le_of_ble_eq_true rfl | ((repeat (first | assumption | apply Byt.drop | apply Byt.take)); done) | fail) only [go_sem, ↓reduceIte, reduceEqDiff, reduceLeDiff, reduceLT, reduceAdd, reduceMul, reduceSub, reduceMod, reducePow, reduceDiv, reduceOr, reduceShiftLeft, Nat.reduceBEq, reduceGT, reduceSucc, hlt, acc2, acc2O]
      refine ⟨_, rfl, ?_⟩
      simp only [Behind, InBlk, Cut, if_true, ↓reduceIte]
      refine ⟨1, hk1, by omega, ?_⟩
      refine k.gcs (keep := [0]) (live := [14, 13, 6]) (md := true) ?_
      simp (disch := first | assumption | omega | rfl | (simp only [sxP, Bool.and_self, length_cons, length_nil, length_take, length_drop, ↓reduceIte, reduceEqDiff]; first | done | omega) | exact Nat.le_of_ble_eq_true rfl | ((repeat (first | assumption | apply Byt.drop | apply Byt.take)); done) | fail) only [go_sem, ↓reduceIte, reduceEqDiff, reduceLeDiff, reduceLT, reduceAdd, reduceMul, reduceSub, reduceMod, reducePow, reduceDiv, reduceOr, reduceShiftLeft, Nat.reduceBEq, reduceGT, reduceSucc, acc2, acc2O, repS]
    | succ i =>
      have hR := repS_len 40 (i + 1)
      by_cases hlt : i + 1 < kk
      · have ap := fun l nx m e hg => @app_grB l nx m 5 0 (i + 1) true e (repS 40 (i + 1)) [40] hg hR.symm (by simp) (by simp only [List.length_append, List.length_cons, List.length_nil, hR]; omega)
        simp only [List.length_cons, List.length_nil, Nat.zero_add, Nat.reduceAdd, bytesV] at ap
        refine k.ev ?_
        simp (disch := first | assumption | omega | rfl | (simp only [sxP, Bool.and_self, length_cons, length_nil, length_take, length_drop, ↓reduceIte, reduceEqDiff]; first | done | omega) | exact Nat.le_of_ble_eq_true rfl | ((repeat (first | assumption | apply Byt.drop | apply Byt.take)); done) | fail) only [go_sem, ↓reduceIte, reduceEqDiff, reduceLeDiff, reduceLT, reduceAdd, reduceMul, reduceSub, reduceMod, reducePow, reduceDiv, reduceOr, reduceShiftLeft, Nat.reduceBEq, reduceGT, reduceSucc, hlt, acc2, acc2O, ap]
        refine ⟨_, rfl, ?_⟩
        simp only [Behind, InBlk, Cut, if_true, ↓reduceIte]
        refine ⟨i + 2, hlt, by omega, ?_⟩
        refine k.gcs (keep := [1]) (live := [14, 13, 6]) (md := true) ?_
        simp only [acc2, acc2O, show repS 40 (i + 1 + 1) = repS 40 (i + 1) ++ [40] from rfl]
        simp (disch := first | assumption | omega | rfl | (simp only [sxP, Bool.and_self, length_cons, length_nil, length_take, length_drop, ↓reduceIte, reduceEqDiff]; first | done | omega) | exact Nat.le_of_ble_eq_true rfl | ((repeat (first | assumption | apply Byt.drop | apply Byt.take)); done) | fail) only [go_sem, ↓reduceIte, reduceEqDiff, reduceLeDiff, reduceLT, reduceAdd, reduceMul, reduceSub, reduceMod, reducePow, reduceDiv, reduceOr, reduceShiftLeft, Nat.reduceBEq, reduceGT, reduceSucc]
      · have hi2 : i + 1 = kk := by omega
        subst hi2
        simp only [out3_0]
        refine k.ev ?_
        simp (disch := first | assumption | omega | rfl | (simp only [sxP, Bool.and_self, length_cons, length_nil, length_take, length_drop, ↓reduceIte, reduceEqDiff]; first | done | omega) | exact Nat.le_of_ble_eq_true rfl | ((repeat (first | assumption | apply Byt.drop | apply Byt.take)); done) | fail) only [go_sem, ↓reduceIte, reduceEqDiff, reduceLeDiff, reduceLT, reduceAdd, reduceMul, reduceSub, reduceMod, reducePow, reduceDiv, reduceOr, reduceShiftLeft, Nat.reduceBEq, reduceGT, reduceSucc, hlt, acc2, acc2O]
        refine ⟨_, rfl, ?_⟩
        simp only [Behind, InBlk, Cut, if_true, ↓reduceIte]
        refine k.gcs (keep := [0]) (live := [13, 6]) (md := true) ?_
        simp (disch := first | assumption | omega | rfl | (simp only [sxP, Bool.and_self, length_cons, length_nil, length_take, length_drop, ↓reduceIte, reduceEqDiff]; first | done | omega) | exact Nat.le_of_ble_eq_true rfl | ((repeat (first | assumption | apply Byt.drop | apply Byt.take)); done) | fail) only [go_sem, ↓reduceIte, reduceEqDiff, reduceLeDiff, reduceLT, reduceAdd, reduceMul, reduceSub, reduceMod, reducePow, reduceDiv, reduceOr, reduceShiftLeft, Nat.reduceBEq, reduceGT, reduceSucc]
  refine tri_cut ⟨tmL [(13, .gr 0 1 (kk + kk) (bytesV (out3 kk kk))), (6, .int .i64 (.ofNat kk))], []⟩ (H [some (.app 5 (bytesV (out3 kk kk)))] 0 true) ?_ ?_
  ·
    refine tri_seq (k.ev ?_)
    simp (disch := first | assumption | omega | rfl | (simp only [sxP, Bool.and_self, length_cons, length_nil, length_take, length_drop, ↓reduceIte, reduceEqDiff]; first | done | omega) | exact Nat.le_of_ble_eq_true rfl | ((repeat (first | assumption | apply Byt.drop | apply Byt.take)); done) | fail) only [go_sem, ↓reduceIte, reduceEqDiff, reduceLeDiff, reduceLT, reduceAdd, reduceMul, reduceSub, reduceMod, reducePow, reduceDiv, reduceOr, reduceShiftLeft, Nat.reduceBEq, reduceGT, reduceSucc]
    refine ⟨_, rfl, ?_⟩
    simp only [Behind, InBlk, Cut, if_true, ↓reduceIte]
    refine tri_block (tri_loop (k.gcL [0] [15, 13, 6] true (fr1 := ⟨tmL [(15, .int .i64 (.ofNat 0)), (13, .gr 0 1 (kk + 0) (bytesV (out3 kk 0))), (6, .int .i64 (.ofNat kk))], []⟩) (s1 := H [some (.app 5 (bytesV (out3 kk 0)))] 0 true) (by simp (disch := first | assumption | omega | rfl | (simp only [sxP, Bool.and_self, length_cons, length_nil, length_take, length_drop, ↓reduceIte, reduceEqDiff]; first | done | omega) | exact Nat.le_of_ble_eq_true rfl | ((repeat (first | assumption | apply Byt.drop | apply Byt.take)); done) | fail) only [go_sem, ↓reduceIte, reduceEqDiff, reduceLeDiff, reduceLT, reduceAdd, reduceMul, reduceSub, reduceMod, reducePow, reduceDiv, reduceOr, reduceShiftLeft, Nat.reduceBEq, reduceGT, reduceSucc]) ?_))
    refine triL_ind (fun i : Nat => kk - i) (fun i => ⟨tmL [(15, .int .i64 (.ofNat i)), (13, .gr 0 1 (kk + i) (bytesV (out3 kk i))), (6, .int .i64 (.ofNat kk))], []⟩) (fun i => H [some (.app 5 (bytesV (out3 kk i)))] 0 true) (fun i => i ≤ kk) (fun i hi => ?_) 0 (Nat.zero_le _)
    have hR := out3_len kk i
    by_cases hlt : i < kk
    · have ap := fun l nx m e hg => @app_grB l nx m 5 0 (kk + i) true e (out3 kk i) [41] hg hR.symm (by simp) (by simp only [List.length_append, List.length_cons, List.length_nil, hR]; omega)
      simp only [List.length_cons, List.length_nil, Nat.zero_add, Nat.reduceAdd, bytesV, ← out3_s] at ap
      refine k.ev ?_
      simp (disch := first | assumption | omega | rfl | (simp only [sxP, Bool.and_self, length_cons, length_nil, length_take, length_drop, ↓reduceIte, reduceEqDiff]; first | done | omega) | exact Nat.le_of_ble_eq_true rfl | ((repeat (first | assumption | apply Byt.drop | apply Byt.take)); done) | fail) only [go_sem, ↓reduceIte, reduceEqDiff, reduceLeDiff, reduceLT, reduceAdd, reduceMul, reduceSub, reduceMod, reducePow, reduceDiv, reduceOr, reduceShiftLeft, Nat.reduceBEq, reduceGT, reduceSucc, hlt, ap]
      refine ⟨_, rfl, ?_⟩
      simp only [Behind, InBlk, Cut, if_true, ↓reduceIte]
      refine ⟨i + 1, hlt, by omega, ?_⟩
      refine k.gcs (keep := [1]) (live := [15, 13, 6]) (md := true) ?_
      simp (disch := first | assumption | omega | rfl | (simp only [sxP, Bool.and_self, length_cons, length_nil, length_take, length_drop, ↓reduceIte, reduceEqDiff]; first | done | omega) | exact Nat.le_of_ble_eq_true rfl | ((repeat (first | assumption | apply Byt.drop | apply Byt.take)); done) | fail) only [go_sem, ↓reduceIte, reduceEqDiff, reduceLeDiff, reduceLT, reduceAdd, reduceMul, reduceSub, reduceMod, reducePow, reduceDiv, reduceOr, reduceShiftLeft, Nat.reduceBEq, reduceGT, reduceSucc, Nat.add_assoc]
    · have hi2 : i = kk := by omega
      subst hi2
      refine k.ev ?_
      simp (disch := first | assumption | omega | rfl | (simp only [sxP, Bool.and_self, length_cons, length_nil, length_take, length_drop, ↓reduceIte, reduceEqDiff]; first | done | omega) | exact Nat.le_of_ble_eq_true rfl | ((repeat (first | assumption | apply Byt.drop | apply Byt.take)); done) | fail) only [go_sem, ↓reduceIte, reduceEqDiff, reduceLeDiff, reduceLT, reduceAdd, reduceMul, reduceSub, reduceMod, reducePow, reduceDiv, reduceOr, reduceShiftLeft, Nat.reduceBEq, reduceGT, reduceSucc, hlt]
      refine ⟨_, rfl, ?_⟩
      simp only [Behind, InBlk, Cut, if_true, ↓reduceIte]
      refine k.gcs (keep := [0]) (live := [13, 6]) (md := true) ?_
      simp (disch := first | assumption | omega | rfl | (simp only [sxP, Bool.and_self, length_cons, length_nil, length_take, length_drop, ↓reduceIte, reduceEqDiff]; first | done | omega) | exact Nat.le_of_ble_eq_true rfl | ((repeat (first | assumption | apply Byt.drop | apply Byt.take)); done) | fail) only [go_sem, ↓reduceIte, reduceEqDiff, reduceLeDiff, reduceLT, reduceAdd, reduceMul, reduceSub, reduceMod, reducePow, reduceDiv, reduceOr, reduceShiftLeft, Nat.reduceBEq, reduceGT, reduceSucc]
  have hsl2 : (src2 kk).length = kk + kk := by rw [← out3_k, out3_len]
  rw [out3_k, ← hsl2]
  refine tri_gc k.grl ?_
  refine k.gc [] [13, 6] true (fr1 := ⟨tmL [(13, .lst (src2 kk).length false (bytesV (src2 kk))), (6, .int .i64 (.ofNat kk))], []⟩) (s1 := H [] 0 true) (by simp (disch := first | assumption | omega | rfl | (simp only [sxP, Bool.and_self, length_cons, length_nil, length_take, length_drop, ↓reduceIte, reduceEqDiff]; first | done | omega) | exact Nat.le_of_ble_eq_true rfl | ((repeat (first | assumption | apply Byt.drop | apply Byt.take)); done) | fail) only [go_sem, ↓reduceIte, reduceEqDiff, reduceLeDiff, reduceLT, reduceAdd, reduceMul, reduceSub, reduceMod, reducePow, reduceDiv, reduceOr, reduceShiftLeft, Nat.reduceBEq, reduceGT, reduceSucc]) ?_
  have hbyt := F.s2.1
  have hok := ok_call h8
  by_cases h200 : kk ≤ 200
  · obtain ⟨d2, hr2, hm2, hs2, hk2', ht2⟩ := F.r2 h200
    have hrd2 := rd_call h15 F.s2 F.l2 hr2
    have hw2 := wr_call h9 ht2 hk2' (by omega) hbyt hm2 hs2 false
    have hc2 : cellsL [d2] = cellsD d2 := by simp only [cellsL_cons, cellsL_nil, List.append_nil]
    simp only [List.length_cons, List.length_nil, Nat.zero_add] at hrd2
    have hng : ¬ 200 < kk := by omega
    refine tri_seq (k.ev ?_)
    simp (disch := first | assumption | omega | rfl | (simp only [sxP, Bool.and_self, length_cons, length_nil, length_take, length_drop, ↓reduceIte, reduceEqDiff]; first | done | omega) | exact Nat.le_of_ble_eq_true rfl | ((repeat (first | assumption | apply Byt.drop | apply Byt.take)); done) | fail) only [go_sem, ↓reduceIte, reduceEqDiff, reduceLeDiff, reduceLT, reduceAdd, reduceMul, reduceSub, reduceMod, reducePow, reduceDiv, reduceOr, reduceShiftLeft, Nat.reduceBEq, reduceGT, reduceSucc, hrd2]
    refine ⟨_, rfl, ?_⟩
    simp only [Behind, InBlk, Cut, if_true, ↓reduceIte]
    refine tri_seq (k.ev ?_)
    simp (disch := first | assumption | omega | rfl | (simp only [sxP, Bool.and_self, length_cons, length_nil, length_take, length_drop, ↓reduceIte, reduceEqDiff]; first | done | omega) | exact Nat.le_of_ble_eq_true rfl | ((repeat (first | assumption | apply Byt.drop | apply Byt.take)); done) | fail) only [go_sem, ↓reduceIte, reduceEqDiff, reduceLeDiff, reduceLT, reduceAdd, reduceMul, reduceSub, reduceMod, reducePow, reduceDiv, reduceOr, reduceShiftLeft, Nat.reduceBEq, reduceGT, reduceSucc, hng]
    refine ⟨_, rfl, ?_⟩
    simp only [Behind, InBlk, Cut, if_true, ↓reduceIte]
    refine k.ev ?_
    simp (disch := first | assumption | omega | rfl | (simp only [sxP, Bool.and_self, length_cons, length_nil, length_take, length_drop, ↓reduceIte, reduceEqDiff]; first | done | omega) | exact Nat.le_of_ble_eq_true rfl | ((repeat (first | assumption | apply Byt.drop | apply Byt.take)); done) | fail) only [go_sem, ↓reduceIte, reduceEqDiff, reduceLeDiff, reduceLT, reduceAdd, reduceMul, reduceSub, reduceMod, reducePow, reduceDiv, reduceOr, reduceShiftLeft, Nat.reduceBEq, reduceGT, reduceSucc, hc2, takeN_cells1, hw2, hok, cbs_bytes]
    refine ⟨_, rfl, ?_⟩
    simp only [Behind, InBlk, Cut, if_true, ↓reduceIte]
    apply fin_of (Or.inr rfl)
    iterate 5 (simp (disch := first | assumption | omega | rfl | (simp only [sxP, Bool.and_self, length_cons, length_nil, length_take, length_drop, ↓reduceIte, reduceEqDiff]; first | done | omega) | exact Nat.le_of_ble_eq_true rfl | ((repeat (first | assumption | apply Byt.drop | apply Byt.take)); done) | fail) only [go_sem, ↓reduceIte, reduceEqDiff, reduceLeDiff, reduceLT, reduceAdd, reduceMul, reduceSub, reduceMod, reducePow, reduceDiv, reduceOr, reduceShiftLeft, Nat.reduceBEq, reduceGT, reduceSucc] <;> exact rfl)
  · have hr3 := F.r3 (by omega)
    have hrd3 := rd_call h15 F.s2 F.l2 hr3
    simp only [List.length_nil, cellsL_nil] at hrd3
    have hgt : 200 < kk := by omega
    refine tri_seq (k.ev ?_)
    simp (disch := first | assumption | omega | rfl | (simp only [sxP, Bool.and_self, length_cons, length_nil, length_take, length_drop, ↓reduceIte, reduceEqDiff]; first | done | omega) | exact Nat.le_of_ble_eq_true rfl | ((repeat (first | assumption | apply Byt.drop | apply Byt.take)); done) | fail) only [go_sem, ↓reduceIte, reduceEqDiff, reduceLeDiff, reduceLT, reduceAdd, reduceMul, reduceSub, reduceMod, reducePow, reduceDiv, reduceOr, reduceShiftLeft, Nat.reduceBEq, reduceGT, reduceSucc, hrd3]
    refine ⟨_, rfl, ?_⟩
    simp only [Behind, InBlk, Cut, if_true, ↓reduceIte]
    refine k.ev ?_
    simp (disch := first | assumption | omega | rfl | (simp only [sxP, Bool.and_self, length_cons, length_nil, length_take, length_drop, ↓reduceIte, reduceEqDiff]; first | done | omega) | exact Nat.le_of_ble_eq_true rfl | ((repeat (first | assumption | apply Byt.drop | apply Byt.take)); done) | fail) only [go_sem, ↓reduceIte, reduceEqDiff, reduceLeDiff, reduceLT, reduceAdd, reduceMul, reduceSub, reduceMod, reducePow, reduceDiv, reduceOr, reduceShiftLeft, Nat.reduceBEq, reduceGT, reduceSucc, hgt, hok]
    refine ⟨_, rfl, ?_⟩
    simp only [Behind, InBlk, Cut, if_true, ↓reduceIte]
    apply fin_of (Or.inr rfl)
    iterate 5 (simp (disch := first | assumption | omega | rfl | (simp only [sxP, Bool.and_self, length_cons, length_nil, length_take, length_drop, ↓reduceIte, reduceEqDiff]; first | done | omega) | exact Nat.le_of_ble_eq_true rfl | ((repeat (first | assumption | apply Byt.drop | apply Byt.take)); done) | fail) only [go_sem, ↓reduceIte, reduceEqDiff, reduceLeDiff, reduceLT, reduceAdd, reduceMul, reduceSub, reduceMod, reducePow, reduceDiv, reduceOr, reduceShiftLeft, Nat.reduceBEq, reduceGT, reduceSucc] <;> exact rfl)
set_option maxRecDepth 100000
def okL : List Nat → Prop
  | [] => True
  | c :: r => okT c r ∧ okL r
theorem okL_S : ∀ {b : List Nat}, okL b → OkS b
  | [], _ => fun p c r h => by simp at h
  | x :: b, ⟨h1, h2⟩ => fun p c r h => by
    cases p with
    | zero => simp only [List.drop_zero, List.cons.injEq] at h; obtain ⟨rfl, rfl⟩ := h; exact h1
    | succ p => exact okL_S h2 p c r h
theorem onesS_cons : ∀ n, onesS (n + 1) = 49 :: 32 :: onesS n
  | 0 => rfl
  | n + 1 => by
    show onesS (n + 1) ++ [49, 32] = 49 :: 32 :: (onesS n ++ [49, 32])
    rw [onesS_cons n]; rfl
theorem repS_cons (c : Nat) : ∀ n, repS c (n + 1) = c :: repS c n
  | 0 => rfl
  | n + 1 => by
    show repS c (n + 1) ++ [c] = c :: (repS c n ++ [c])
    rw [repS_cons c n]; rfl
theorem ok_ones : ∀ n, okL (onesS n ++ [41])
  | 0 => ⟨.inr (.inr (.inl rfl)), trivial⟩
  | n + 1 => by
    rw [onesS_cons]
    exact ⟨.inr (.inr (.inr ⟨rfl, fun x s h => .inl (List.cons.inj h).1.symm⟩)), .inl rfl, ok_ones n⟩
theorem ok_rep {c : Nat} (hc : c = 40 ∨ c = 41) {b : List Nat} (hb : okL b) : ∀ n, okL (repS c n ++ b)
  | 0 => hb
  | n + 1 => by
    rw [repS_cons]
    exact ⟨hc.elim (fun h => .inr (.inl h)) (fun h => .inr (.inr (.inl h))), ok_rep hc hb n⟩
theorem Byt_ones : ∀ n, Byt (onesS n)
  | 0 => fun x h => by cases h
  | n + 1 => (Byt_ones n).append (fun x h => by simp at h; omega)
theorem Byt_rep {c : Nat} (hc : c < 256) : ∀ n, Byt (repS c n)
  | 0 => fun x h => by cases h
  | n + 1 => (Byt_rep hc n).append (fun x h => by simp at h; omega)
theorem pre1 {n : Nat} (hn : n < 3001) : PreS (src1 n) := ⟨by
  refine Byt.append (fun x h => ?_) (fun x h => by simp at h; omega)
  rcases List.mem_cons.1 h with rfl | h
  · omega
  · exact Byt_ones n x h, by simp only [src1, List.length_append, List.length_cons, List.length_nil, onesS_len]; omega, okL_S (show okL (40 :: (onesS n ++ [41])) from ⟨.inr (.inl rfl), ok_ones n⟩)⟩
theorem pre2 {k : Nat} (hk : k < 401) : PreS (src2 k) := ⟨(Byt_rep (by omega) k).append (Byt_rep (by omega) k), by simp only [src2, List.length_append, repS_len]; omega, okL_S (ok_rep (.inl rfl) (by have := ok_rep (.inr rfl) (b := []) trivial k; rwa [List.append_nil] at this) k)⟩
def oneD (p : Nat) : DT := .mk (.ofNat 2) (.ofNat 0) [49] [] (.ofNat p)
def onesT : Nat → Nat → List Tok
  | _, 0 => []
  | p, n + 1 => ⟨7, p, oneD p⟩ :: onesT (p + 2) n
def onesD : Nat → Nat → List DT
  | _, 0 => []
  | p, n + 1 => oneD p :: onesD (p + 2) n
theorem onesD_len : ∀ p n, (onesD p n).length = n
  | _, 0 => rfl
  | p, n + 1 => by simp only [onesD, List.length_cons, onesD_len]
def sameT (kd : Nat) : Nat → Nat → List Tok
  | _, 0 => []
  | p, n + 1 => ⟨kd, p, d0⟩ :: sameT kd (p + 1) n
theorem onesT_len : ∀ p n, (onesT p n).length = n
  | _, 0 => rfl
  | p, n + 1 => by simp only [onesT, List.length_cons, onesT_len]
theorem sameT_len (kd : Nat) : ∀ p n, (sameT kd p n).length = n
  | _, 0 => rfl
  | p, n + 1 => by simp only [sameT, List.length_cons, sameT_len]
theorem lex_ones : ∀ n p, lexS p (onesS n ++ [41]) = onesT p n ++ [⟨2, p + 2 * n, d0⟩]
  | 0, p => by simp [onesS, lexS, onesT, tokS]
  | n + 1, p => by
    rw [onesS_cons]
    simp only [List.cons_append, lexS, onesT, tokS, lex_ones n]
    simp [oneD]
    omega
theorem lex1 (n : Nat) : lexS 0 (src1 n) = ⟨1, 0, d0⟩ :: (onesT 1 n ++ [⟨2, 1 + 2 * n, d0⟩]) := by
  show lexS 0 (40 :: (onesS n ++ [41])) = _
  simp only [lexS, lex_ones]
  simp [tokS]
theorem lex_rep {c kd : Nat} (h : c = 40 ∧ kd = 1 ∨ c = 41 ∧ kd = 2) (b : List Nat) : ∀ n p, lexS p (repS c n ++ b) = sameT kd p n ++ lexS (p + n) b
  | 0, p => by simp [repS, sameT]
  | n + 1, p => by
    rw [repS_cons]
    simp only [List.cons_append, lexS, sameT, lex_rep h b n]
    rw [show p + 1 + n = p + (n + 1) by omega]
    rcases h with ⟨rfl, rfl⟩ | ⟨rfl, rfl⟩ <;> simp [tokS]
theorem lex2 (k : Nat) : lexS 0 (src2 k) = sameT 1 0 k ++ sameT 2 k k := by
  rw [src2, lex_rep (.inl ⟨rfl, rfl⟩)]
  have := lex_rep (.inr ⟨rfl, rfl⟩ : (41 = 40 ∧ 2 = 1) ∨ 41 = 41 ∧ 2 = 2) [] k (0 + k)
  rw [List.append_nil] at this
  rw [this]
  simp [lexS]
set_option maxRecDepth 100000
theorem drop_le {α : Type} {l : List α} {i : Nat} {x : α} {r : List α} (h : l.drop i = x :: r) : ¬ l.length < i ∧ l.drop (i + 1) = r ∧ i < l.length := by
  have h1 : i < l.length := Nat.lt_of_not_le fun hle => by rw [List.drop_eq_nil_of_le hle] at h; cases h
  exact ⟨by omega, by rw [← List.drop_drop, h]; rfl, h1⟩
theorem itemsF_close {dt : Nat → RS → Option (DT × RS)} {ts : List Tok} {op k i p : Nat} {acc : List DT} {r : List Tok} (hd : ts.drop i = ⟨2, p, d0⟩ :: r) (ha : acc.length < 1000000) : itemsF dt ts op (k + 1) acc ⟨i, 0, 0⟩ = some (acc, ⟨2, p, d0⟩, ⟨i + 1, 0, 0⟩) := by
  obtain ⟨h1, _, _⟩ := drop_le hd
  rw [itemsF, if_neg (by simp only; omega), if_neg (by simp)]
  simp only [hd]
  rfl
theorem itemsF_next {dt : Nat → RS → Option (DT × RS)} {ts : List Tok} {op k i : Nat} {acc : List DT} {t : Tok} {r : List Tok} {d : DT} {s : RS} (hd : ts.drop i = t :: r) (h2 : t.kind ≠ 2) (h6 : t.kind ≠ 6) (ha : acc.length < 1000000) (hdt : dt op ⟨i, 0, 0⟩ = some (d, s)) : itemsF dt ts op (k + 1) acc ⟨i, 0, 0⟩ = itemsF dt ts op k (acc ++ [d]) s := by
  obtain ⟨h1, _, _⟩ := drop_le hd
  rw [itemsF, if_neg (by simp only; omega), if_neg (by simp)]
  simp only [hd, h2, h6, if_false, hdt]
theorem itemsF_err {dt : Nat → RS → Option (DT × RS)} {ts : List Tok} {op k : Nat} {acc : List DT} {s : RS} (hs : s.err ≠ 0) (hl : s.at_ ≤ ts.length) (ha : acc.length < 1000000) : itemsF dt ts op (k + 1) acc s = some (acc, t00, s) := by
  rw [itemsF, if_neg (by omega), if_pos hs]
theorem datumF_one {f : Nat} {ts : List Tok} {dep op i : Nat} {t : Tok} {r : List Tok} (hd : ts.drop i = t :: r) (h7 : t.kind = 7) : datumF (f + 1) ts dep op ⟨i, 0, 0⟩ = some (t.d, ⟨i + 1, 0, 0⟩) := by
  obtain ⟨h1, _, _⟩ := drop_le hd
  rw [datumF, if_neg (by simpa using h1)]
  simp only [hd, h7, if_true]
theorem datumF_open {f : Nat} {ts : List Tok} {dep op i p : Nat} {r : List Tok} {l : List DT} {c : Tok} {s : RS} (hd : ts.drop i = ⟨1, p, d0⟩ :: r) (hdep : dep < 200) (hit : itemsF (fun o r => datumF f ts (dep + 1) o r) ts p 1000000 [] ⟨i + 1, 0, 0⟩ = some (l, c, s)) : datumF (f + 1) ts dep op ⟨i, 0, 0⟩ = some (atD (listD l (endDT (.ofNat c.pos))) (.ofNat p), s) := by
  obtain ⟨h1, _, _⟩ := drop_le hd
  rw [datumF, if_neg (by simpa using h1)]
  simp only [hd, hit]
  have hn : ¬ 200 ≤ dep := by omega
  simp [hn]
theorem datumF_deep {f : Nat} {ts : List Tok} {op i p : Nat} {r : List Tok} (hd : ts.drop i = ⟨1, p, d0⟩ :: r) : datumF (f + 1) ts 200 op ⟨i, 0, 0⟩ = some (d0, ⟨i + 1, 5, p⟩) := by
  obtain ⟨h1, _, _⟩ := drop_le hd
  rw [datumF, if_neg (by simpa using h1)]
  simp only [hd]
  simp [RS.fell]
theorem items_ones {f : Nat} {ts : List Tok} {dep op : Nat} : ∀ (m k i p q : Nat) (acc : List DT), ts.drop i = onesT p m ++ [⟨2, q, d0⟩] → m < k → acc.length + m < 1000000 → itemsF (fun o r => datumF (f + 1) ts dep o r) ts op k acc ⟨i, 0, 0⟩ = some (acc ++ onesD p m, ⟨2, q, d0⟩, ⟨i + m + 1, 0, 0⟩)
  | 0, k, i, p, q, acc, hd, hk, ha => by
    obtain ⟨k, rfl⟩ : ∃ j, k = j + 1 := ⟨k - 1, by omega⟩
    rw [itemsF_close hd (by omega)]; simp [onesD]
  | m + 1, k, i, p, q, acc, hd, hk, ha => by
    obtain ⟨k, rfl⟩ : ∃ j, k = j + 1 := ⟨k - 1, by omega⟩
    have hd' : ts.drop i = ⟨7, p, oneD p⟩ :: (onesT (p + 2) m ++ [⟨2, q, d0⟩]) := hd
    rw [itemsF_next hd' (by simp) (by simp) (by omega) (datumF_one hd' rfl), items_ones m k (i + 1) (p + 2) q _ (drop_le hd').2.1 (by omega) (by simp only [List.length_append, List.length_cons, List.length_nil]; omega)]
    simp only [onesD, List.append_assoc, List.cons_append, List.nil_append]
    rw [show i + 1 + m + 1 = i + (m + 1) + 1 by omega]
def nestD : Nat → Nat → DT
  | _, 0 => d0
  | i, 1 => atD (endDT (.ofNat (i + 1))) (.ofNat i)
  | i, j + 2 => atD (listD [nestD (i + 1) (j + 1)] (endDT (.ofNat (i + 2 * (j + 1) + 1)))) (.ofNat i)
theorem nest_rd {ts : List Tok} : ∀ (j i dep op f : Nat) (r : List Tok), ts.drop i = sameT 1 i (j + 1) ++ (sameT 2 (i + j + 1) (j + 1) ++ r) → dep + j < 200 → j + 1 ≤ f → datumF f ts dep op ⟨i, 0, 0⟩ = some (nestD i (j + 1), ⟨i + 2 * (j + 1), 0, 0⟩)
  | 0, i, dep, op, f, r, hd, h1, h2 => by
    obtain ⟨f, rfl⟩ : ∃ g, f = g + 1 := ⟨f - 1, by omega⟩
    have hd' : ts.drop i = ⟨1, i, d0⟩ :: ⟨2, i + 1, d0⟩ :: r := hd
    rw [datumF_open hd' (by omega) (itemsF_close (drop_le hd').2.1 (by simp))]
    rfl
  | j + 1, i, dep, op, f, r, hd, h1, h2 => by
    obtain ⟨f, rfl⟩ : ∃ g, f = g + 1 := ⟨f - 1, by omega⟩
    have hcl : ∀ n p, sameT 2 p (n + 1) = sameT 2 p n ++ [⟨2, p + n, d0⟩] := fun n => by
      induction n with
      | zero => intro p; rfl
      | succ n ih => intro p; rw [sameT, ih (p + 1), sameT, List.cons_append, show p + 1 + n = p + (n + 1) by omega]
    have hd' : ts.drop i = ⟨1, i, d0⟩ :: (sameT 1 (i + 1) (j + 1) ++ (sameT 2 (i + 1 + j + 1) (j + 1) ++ (⟨2, i + 1 + j + 1 + (j + 1), d0⟩ :: r))) := by
      rw [hd, hcl (j + 1), show i + (j + 1) + 1 = i + 1 + j + 1 by omega]
      simp [sameT]
    have hd1 := (drop_le hd').2.1
    have ih := nest_rd j (i + 1) (dep + 1) i f (⟨2, i + 1 + j + 1 + (j + 1), d0⟩ :: r) hd1 (by omega) (by omega)
    have hd2 : ts.drop (i + 1 + 2 * (j + 1)) = ⟨2, i + 1 + j + 1 + (j + 1), d0⟩ :: r := by
      rw [← List.drop_drop, hd1, ← List.append_assoc, List.drop_append_of_le_length (by simp only [List.length_append, sameT_len]; omega), List.drop_eq_nil_of_le (by simp only [List.length_append, sameT_len]; omega)]
      rfl
    have hit : itemsF (fun o r => datumF f ts (dep + 1) o r) ts i 1000000 [] ⟨i + 1, 0, 0⟩ = some ([nestD (i + 1) (j + 1)], ⟨2, i + 1 + j + 1 + (j + 1), d0⟩, ⟨i + 1 + 2 * (j + 1) + 1, 0, 0⟩) := by
      have hd1' : ts.drop (i + 1) = ⟨1, i + 1, d0⟩ :: (sameT 1 (i + 1 + 1) j ++ (sameT 2 (i + 1 + j + 1) (j + 1) ++ (⟨2, i + 1 + j + 1 + (j + 1), d0⟩ :: r))) := hd1
      rw [show (1000000 : Nat) = 999998 + 1 + 1 from rfl, itemsF_next hd1' (by simp) (by simp) (by simp) ih, itemsF_close hd2 (by simp)]
      rfl
    rw [datumF_open hd' (by omega) hit]
    rw [show i + 1 + 2 * (j + 1) + 1 = i + 2 * (j + 1 + 1) by omega]
    rw [nestD, show i + 1 + j + 1 + (j + 1) = i + 2 * (j + 1) + 1 by omega]
theorem deep_rd {ts : List Tok} : ∀ (j i dep op f : Nat) (r : List Tok), ts.drop i = sameT 1 i (j + 1) ++ r → dep + j = 200 → j + 1 ≤ f → ∃ d, datumF f ts dep op ⟨i, 0, 0⟩ = some (d, ⟨i + j + 1, 5, i + j⟩)
  | 0, i, dep, op, f, r, hd, h1, h2 => by
    obtain ⟨f, rfl⟩ : ∃ g, f = g + 1 := ⟨f - 1, by omega⟩
    have h3 : dep = 200 := by omega
    subst h3
    exact ⟨_, datumF_deep (show ts.drop i = ⟨1, i, d0⟩ :: r from hd)⟩
  | j + 1, i, dep, op, f, r, hd, h1, h2 => by
    obtain ⟨f, rfl⟩ : ∃ g, f = g + 1 := ⟨f - 1, by omega⟩
    have hd' : ts.drop i = ⟨1, i, d0⟩ :: (sameT 1 (i + 1) (j + 1) ++ r) := hd
    have hd1 := (drop_le hd').2.1
    obtain ⟨d, ih⟩ := deep_rd j (i + 1) (dep + 1) i f r hd1 (by omega) (by omega)
    have hd1' : ts.drop (i + 1) = ⟨1, i + 1, d0⟩ :: (sameT 1 (i + 1 + 1) j ++ r) := hd1
    have hle : i + 1 + j + 1 ≤ ts.length := by
      have := congrArg List.length hd1
      simp only [List.length_drop, List.length_append, sameT_len] at this; omega
    have hit : itemsF (fun o r => datumF f ts (dep + 1) o r) ts i 1000000 [] ⟨i + 1, 0, 0⟩ = some ([d], t00, ⟨i + 1 + j + 1, 5, i + 1 + j⟩) := by
      rw [show (1000000 : Nat) = 999998 + 1 + 1 from rfl, itemsF_next hd1' (by simp) (by simp) (by simp) ih, itemsF_err (by simp) hle (by simp)]
      rfl
    refine ⟨atD (listD [d] (endDT (.ofNat t00.pos))) (.ofNat i), ?_⟩
    rw [datumF_open hd' (by omega) hit, show i + 1 + j + 1 = i + (j + 1) + 1 by omega, show i + 1 + j = i + (j + 1) by omega]
set_option maxRecDepth 100000
def D1 (n : Nat) : DT := atD (listD (onesD 1 n) (endDT (.ofNat (1 + 2 * n)))) (.ofNat 0)
theorem readF_one {ts : List Tok} {d : DT} (h0 : 0 < ts.length) (h : datumF 1000 ts 0 0 ⟨0, 0, 0⟩ = some (d, ⟨ts.length, 0, 0⟩)) : readF ts 1000000 [] ⟨0, 0, 0⟩ = some ([d], 0, 0) := by
  rw [show (1000000 : Nat) = 999998 + 1 + 1 from rfl, readF, if_neg (by simp), if_pos (by simpa using h0)]
  simp only [h]
  rw [if_neg (by simp), readF, if_neg (by simp), if_neg (by simp)]
  rfl
theorem readF_err {ts : List Tok} {d : DT} {s : RS} (h0 : 0 < ts.length) (hs : s.err ≠ 0) (h : datumF 1000 ts 0 0 ⟨0, 0, 0⟩ = some (d, s)) : readF ts 1000000 [] ⟨0, 0, 0⟩ = some ([], s.err, s.fp) := by
  rw [show (1000000 : Nat) = 999999 + 1 from rfl, readF, if_neg (by simp), if_pos (by simpa using h0)]
  simp only [h]
  rw [if_pos hs]
theorem read1 {n : Nat} (hn : n < 3001) : readF (lexS 0 (src1 n)) 1000000 [] ⟨0, 0, 0⟩ = some ([D1 n], 0, 0) := by
  rw [lex1]
  refine readF_one (by simp) ?_
  have hd : (⟨1, 0, d0⟩ :: (onesT 1 n ++ [⟨2, 1 + 2 * n, d0⟩]) : List Tok).drop 0 = ⟨1, 0, d0⟩ :: (onesT 1 n ++ [⟨2, 1 + 2 * n, d0⟩]) := rfl
  rw [show (1000 : Nat) = 998 + 1 + 1 from rfl, datumF_open hd (by omega) (items_ones n 1000000 1 1 (1 + 2 * n) [] rfl (by omega) (by simp only [List.length_nil]; omega))]
  simp only [D1, List.nil_append, List.length_cons, List.length_append, onesT_len, List.length_nil]
  congr 2
  simp only [RS.mk.injEq, and_true]; omega
theorem kids_at (d : DT) (p : Int) : kidsOf (atD d p) = kidsOf d := by cases d; rfl
theorem kind_at (d : DT) (p : Int) : kindD (atD d p) = kindD d := by cases d; rfl
theorem itemsOf_end {k : Nat} {acc : List DT} {d : DT} (h : kidsOf d = none) (ha : acc.length < 1000000) : itemsOf (k + 1) acc d = some (acc, d) := by
  rw [itemsOf, if_neg (by omega)]; simp only [h]
theorem itemsOf_more {k : Nat} {acc : List DT} {d x y : DT} (h : kidsOf d = some (x, y)) (ha : acc.length < 1000000) : itemsOf (k + 1) acc d = itemsOf k (acc ++ [x]) y := by
  rw [itemsOf, if_neg (by omega)]; simp only [h]
theorem kids_cons (x e : DT) : kidsOf (consD x e) = some (x, e) := by simp [consD, kidsOf]
theorem itemsOf_list {e : DT} (he : kidsOf e = none) : ∀ (l : List DT) (k : Nat) (acc : List DT), l.length < k → acc.length + l.length < 1000000 → itemsOf k acc (listD l e) = some (acc ++ l, e)
  | [], k, acc, h1, h2 => by
    obtain ⟨k, rfl⟩ : ∃ j, k = j + 1 := ⟨k - 1, by omega⟩
    rw [show listD [] e = e from rfl, itemsOf_end he (by simpa using h2), List.append_nil]
  | x :: l, k, acc, h1, h2 => by
    simp only [List.length_cons] at h1 h2
    obtain ⟨k, rfl⟩ : ∃ j, k = j + 1 := ⟨k - 1, by omega⟩
    rw [show listD (x :: l) e = consD x (listD l e) from rfl, itemsOf_more (kids_cons _ _) (by omega), itemsOf_list he l k _ (by omega) (by simp only [List.length_append, List.length_cons, List.length_nil]; omega)]
    simp
theorem itemsOf_at {e : DT} (he : kidsOf e = none) (x : DT) (l : List DT) (p : Int) (hl : l.length < 900000) : itemsOf 1000000 [] (atD (listD (x :: l) e) p) = some (x :: l, e) := by
  rw [show (1000000 : Nat) = 999999 + 1 from rfl, itemsOf_more (d := atD (listD (x :: l) e) p) (x := x) (y := listD l e) (by rw [kids_at]; exact kids_cons _ _) (by simp), itemsOf_list he l _ _ (by omega) (by simp only [List.length_append, List.length_cons, List.length_nil]; omega)]
  rfl
theorem kids_end (p : Int) : kidsOf (endDT p) = none := rfl
def restS : Nat → List Nat
  | 0 => []
  | m + 1 => 32 :: 49 :: restS m
theorem restS_len : ∀ m, (restS m).length = 2 * m
  | 0 => rfl
  | m + 1 => by simp only [restS, List.length_cons, restS_len m]; omega
theorem Byt_restS : ∀ m, Byt (restS m)
  | 0 => fun x h => by cases h
  | m + 1 => fun x h => by
    simp only [restS, List.mem_cons] at h
    rcases h with rfl | rfl | h
    · omega
    · omega
    · exact Byt_restS m x h
theorem text_one (f p : Nat) : textF (f + 1) (oneD p) = some [49] := by
  rw [textF]; simp [oneD, kindD, textD]
theorem rest_ones (f : Nat) : ∀ m p, restF (textF (f + 1)) (onesD p m) = some (restS m)
  | 0, p => rfl
  | m + 1, p => by
    simp only [onesD, restF, text_one, rest_ones f m]
    rfl
theorem text_list {f : Nat} {d e : DT} {l : List DT} {s : List Nat} (hk : kindD d = .ofNat 6) (hi : itemsOf 1000000 [] d = some (l, e)) (he : kindD e = .ofNat 0) (ha : allF (textF f) l = some s) : textF (f + 1) d = some (40 :: (s ++ [41])) := by
  rw [textF]
  simp only [hk, hi, wrapF, he, ha, if_true]
  simp
theorem text1 {m : Nat} (hm : m < 3001) : textF 1001 (D1 (m + 1)) = some (40 :: ((49 :: restS m) ++ [41])) := by
  have hl : (onesD 1 (m + 1)) = oneD 1 :: onesD 3 m := rfl
  refine text_list (f := 1000) (by rw [D1, kind_at, hl]; rfl) (by rw [D1, hl]; exact itemsOf_at (kids_end _) _ _ _ (by rw [onesD_len]; omega)) rfl ?_
  simp only [allF, show (1000 : Nat) = 999 + 1 from rfl, text_one, rest_ones]
  rfl
theorem Plain_at {d : DT} (h : Plain d) (p : Int) : Plain (atD d p) := by
  cases h with
  | atom k n t q => exact .atom k n t p
  | pair n t q x y hx hy => exact .pair n t p x y hx hy
theorem MayD_at {d : DT} (h : MayD d) {p : Int} : MayD (atD d p) := by
  cases h with
  | nil n t q => exact .nil n t p
  | one n q => exact .one n p
  | pair n t q x y hx hy => exact .pair n t p x y hx hy
theorem Plain_list {e : DT} (he : Plain e) : ∀ l : List DT, (∀ x ∈ l, Plain x) → Plain (listD l e)
  | [], _ => he
  | x :: l, h => .pair _ _ _ _ _ (h x (by simp)) (Plain_list he l fun y hy => h y (by simp [hy]))
theorem MayD_list {e : DT} (he : MayD e) : ∀ l : List DT, (∀ x ∈ l, MayD x) → MayD (listD l e)
  | [], _ => he
  | x :: l, h => .pair _ _ _ _ _ (h x (by simp)) (MayD_list he l fun y hy => h y (by simp [hy]))
theorem ones_mem : ∀ {m p : Nat} {x : DT}, x ∈ onesD p m → ∃ q, x = oneD q
  | 0, p, x, h => by cases h
  | m + 1, p, x, h => by
    rcases List.mem_cons.1 h with rfl | h
    · exact ⟨p, rfl⟩
    · exact ones_mem h
theorem Plain1 (n : Nat) : Plain (D1 n) := Plain_at (Plain_list (.atom _ _ _ _) _ fun x hx => by obtain ⟨q, rfl⟩ := ones_mem hx; exact .atom _ _ _ _) _
theorem MayD1 (n : Nat) : MayD (D1 n) := MayD_at (MayD_list (.nil _ _ _) _ fun x hx => by obtain ⟨q, rfl⟩ := ones_mem hx; exact .one _ _)
theorem nest_may : ∀ j i, MayD (nestD i (j + 1))
  | 0, i => MayD_at (.nil _ _ _)
  | j + 1, i => MayD_at (MayD_list (.nil _ _ _) _ fun x hx => by rw [List.mem_singleton.1 hx]; exact nest_may j (i + 1))
theorem nest_kind : ∀ j i, kindD (nestD i (j + 1)) ≠ .ofNat 2
  | 0, i => by rw [nestD, kind_at]; simp [endDT, kindD]
  | j + 1, i => by rw [nestD, kind_at]; simp [listD, consD, kindD]
theorem nest_text : ∀ j i f, j + 1 ≤ f → textF f (nestD i (j + 1)) = some (repS 40 (j + 1) ++ repS 41 (j + 1))
  | 0, i, f, h => by
    obtain ⟨f, rfl⟩ : ∃ g, f = g + 1 := ⟨f - 1, by omega⟩
    rw [textF, nestD, kind_at]; simp [endDT, kindD, repS]
  | j + 1, i, f, h => by
    obtain ⟨f, rfl⟩ : ∃ g, f = g + 1 := ⟨f - 1, by omega⟩
    rw [text_list (f := f) (d := nestD i (j + 1 + 1)) (l := [nestD (i + 1) (j + 1)]) (s := repS 40 (j + 1) ++ repS 41 (j + 1)) (by rw [nestD, kind_at]; rfl) (by rw [nestD]; exact itemsOf_at (kids_end _) _ _ _ (by simp)) rfl (by simp only [allF, nest_text j (i + 1) f (by omega), restF, List.append_nil])]
    rw [repS_cons 40 (j + 1), show repS 41 (j + 1 + 1) = repS 41 (j + 1) ++ [41] from rfl]
    simp
theorem sameT_add (kd : Nat) : ∀ a p b, sameT kd p (a + b) = sameT kd p a ++ sameT kd (p + a) b
  | 0, p, b => by simp [sameT]
  | a + 1, p, b => by
    rw [show a + 1 + b = a + b + 1 by omega, sameT, sameT_add kd a, sameT, List.cons_append, show p + 1 + a = p + (a + 1) by omega]
theorem read2 {j : Nat} (hj : j < 200) : readF (lexS 0 (src2 (j + 1))) 1000000 [] ⟨0, 0, 0⟩ = some ([nestD 0 (j + 1)], 0, 0) := by
  rw [lex2]
  refine readF_one (by simp only [List.length_append, sameT_len]; omega) ?_
  rw [nest_rd j 0 0 0 1000 [] (by simp) (by omega) (by omega)]
  simp only [List.length_append, sameT_len]
  congr 3
  omega
theorem read3 {k : Nat} (hk : 200 < k) : readF (lexS 0 (src2 k)) 1000000 [] ⟨0, 0, 0⟩ = some ([], 5, 200) := by
  obtain ⟨m, rfl⟩ : ∃ m, k = 201 + m := ⟨k - 201, by omega⟩
  rw [lex2]
  obtain ⟨d, hd⟩ := deep_rd (ts := sameT 1 0 (201 + m) ++ sameT 2 (201 + m) (201 + m)) 200 0 0 0 1000 (sameT 1 201 m ++ sameT 2 (201 + m) (201 + m)) (by rw [List.drop_zero, sameT_add, List.append_assoc]) (by omega) (by omega)
  exact readF_err (by simp only [List.length_append, sameT_len]; omega) (by simp) hd
theorem facts {n k : Nat} (hn : n < 3001) (hk1 : 1 ≤ k) (hk : k < 401) : Facts (SizeOf.sizeOf (D1 n) + SizeOf.sizeOf (nestD 0 k) + 1) n k := by
  refine ⟨pre1 hn, by rw [lex1]; simp only [List.length_cons, List.length_append, onesT_len, List.length_nil]; omega, ?_, pre2 hk, by rw [lex2]; simp only [List.length_append, sameT_len]; omega, fun h => ?_, fun h => read3 h⟩
  · cases n with
    | zero => exact ⟨D1 0, [], D1 0, read1 hn, by rw [show (1000000 : Nat) = 999999 + 1 from rfl]; exact itemsOf_end rfl (by simp), rfl, rfl, Plain1 0, MayD1 0, by omega, by rw [D1, kind_at]; simp [listD, onesD, endDT, kindD], fun h => by omega⟩
    | succ m =>
      have hl : (onesD 1 (m + 1)) = oneD 1 :: onesD 3 m := rfl
      refine ⟨D1 (m + 1), onesD 1 (m + 1), endDT (.ofNat (1 + 2 * (m + 1))), read1 hn, by rw [D1, hl]; exact itemsOf_at (kids_end _) _ _ _ (by rw [onesD_len]; omega), onesD_len _ _, rfl, Plain1 _, MayD1 _, by omega, by rw [D1, kind_at, hl]; simp [listD, consD, kindD], fun _ => ⟨_, text1 (by omega), by simp only [List.length_cons, List.length_append, restS_len, List.length_nil]; omega, ?_⟩⟩
      intro x hx
      simp only [List.cons_append, List.mem_cons, List.mem_append, List.not_mem_nil, or_false] at hx
      rcases hx with rfl | rfl | hx | rfl
      · omega
      · omega
      · exact Byt_restS m x hx
      · omega
  · obtain ⟨j, rfl⟩ : ∃ j, k = j + 1 := ⟨k - 1, by omega⟩
    exact ⟨nestD 0 (j + 1), read2 (by omega), nest_may j 0, by omega, nest_kind j 0, nest_text j 0 1001 (by omega)⟩
end Go.Proofs.YthcmnajcjapjbaaGreatDoor.Ev

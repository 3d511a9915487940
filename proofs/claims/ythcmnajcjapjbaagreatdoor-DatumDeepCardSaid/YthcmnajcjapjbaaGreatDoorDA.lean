/- Contracts of functions that DatumDeep calls: what a call answers, for all data, by symbolic evaluation. No conditions of its own. -/
import Derived.Test.YthcmnajcjapjbaaGreatDoorEvI
import Derived.Test.YthcmnajcjapjbaaGreatDoorIrDatumDeep
set_option linter.unusedSimpArgs false
set_option linter.unusedVariables false
set_option linter.defProp false
namespace Go.Proofs.YthcmnajcjapjbaaGreatDoor.Ev
open T
set_option maxRecDepth 100000
def rdr (b : List Nat) (at_ : Nat) : AObj := .row 70 [.lst b.length false (bytesV b), .int .i64 (.ofNat at_)] false false
def isSym (c : Nat) : Bool := 97 ≤ c && c ≤ 122 || 65 ≤ c && c ≤ 90 || 48 ≤ c && c ≤ 57 || [33, 36, 37, 38, 42, 47, 58, 60, 61, 62, 63, 94, 95, 126, 43, 45, 46, 64].contains c
structure Bx (P : Program) (w0 : World) : Prop where
  mixed : P.follows .mixedOrders = true
  glob : GlobRel env.globs w0
  env : EnvOk P env
def isBlank (c : Nat) : Bool := c == 32 || 9 ≤ c && c ≤ 13 && c != 11
def isDelim (c : Nat) : Bool := isBlank c || [40, 41, 34, 59, 39].contains c
noncomputable def gByte (p : Nat → Bool) : List AV → St → Option (AV × St) := orc0 (fun c : Nat => [.int .u8 (.ofNat c)]) (fun c => c < 256) (fun c => .bool (p c))
theorem gByte_eq (p : Nat → Bool) {c : Nat} (h : c < 256) (s : St) : gByte p [.int .u8 (.ofNat c)] s = some (.bool (p c), s) :=
  orc0_eq (fun x y hxy => by cases hxy; rfl) s c h rfl
theorem byte_known {P : Program} {w0 : World} (B : Bx P w0) {O : Orc} (hO : OrcOk P w0 O) {f : Nat} {p : Nat → Bool} (h : (List.range 256).all (fun c => okV (.bool (p c)) ((evT env O 1000).call f [.int .u8 (.ofNat c)] s0)) = true) : OrcOk P w0 (withG f (gByte p) O) :=
  hO.withG orc0_ext (known0 false (fun _ => rfl) (fun _ => rfl) fun c hc => sc_ev hO B.mixed B.glob B.env (List.all_eq_true.1 h c (List.mem_range.2 hc)))
noncomputable def O1 : Orc := withG 60 (gByte isBlank) noO
noncomputable def O2 : Orc := withG 67 (gByte isSym) O1
noncomputable def O3 : Orc := withG 71 (gByte isDelim) O2
theorem blank_ev : (List.range 256).all (fun c => okV (.bool (isBlank c)) ((evT env noO 1000).call 60 [.int .u8 (.ofNat c)] s0)) = true := by decide +kernel
theorem sym_ev : (List.range 256).all (fun c => okV (.bool (isSym c)) ((evT env noO 1000).call 67 [.int .u8 (.ofNat c)] s0)) = true := by decide +kernel
theorem delim_ev : (List.range 256).all (fun c => okV (.bool (isDelim c)) ((evT env noO 1000).call 71 [.int .u8 (.ofNat c)] s0)) = true := by decide +kernel
open Nat (reduceEqDiff reduceLeDiff reduceLT reduceAdd reduceMul reduceSub reduceMod reducePow reduceDiv reduceOr reduceShiftLeft reduceGT reduceSucc)
open List (length_cons length_nil length_take length_drop)
open T
set_option maxRecDepth 100000
theorem drop_lt {b : List Nat} {p c : Nat} {r : List Nat} (h : b.drop p = c :: r) : p < b.length ∧ b.drop (p + 1) = r := by
  have h1 : p < b.length := by
    apply Nat.lt_of_not_le; intro hle; rw [List.drop_eq_nil_of_le hle] at h; cases h
  refine ⟨h1, ?_⟩
  rw [← List.drop_drop, h]; rfl
theorem take_tw (p : Nat → Bool) : ∀ l : List Nat, l.take (l.takeWhile p).length = l.takeWhile p
  | [] => rfl
  | x :: l => by
    rw [List.takeWhile_cons]
    cases p x with
    | true => simp [take_tw p l]
    | false => simp
theorem tw_le (p : Nat → Bool) (l : List Nat) : (l.takeWhile p).length ≤ l.length := by
  have := congrArg List.length (take_tw p l); simp at this; omega
theorem Byt.tw {l : List Nat} (h : Byt l) (p : Nat → Bool) : Byt (l.takeWhile p) := by rw [← take_tw]; exact h.take _
theorem run_sc {P : Program} {w0 : World} (B : Bx P w0) {O : Orc} (hO : OrcOk P w0 O) (h58 : O 33 = none) (hs0 : O 67 = some (gByte isSym))
    (b : List Nat) (at_ : Nat) (hb : Byt b) (hl : b.length < 1000000) (ha : at_ ≤ b.length) :
    SC P w0 69 [.ptr 0 0] (H [some (rdr b at_)] 0 true) (.str ((b.drop at_).takeWhile isSym)) (H [some (rdr b (at_ + ((b.drop at_).takeWhile isSym).length))] 1 true) := by
  refine Is.sc hO B.mixed B.glob B.env 1 (show env.funs.get 69 = some f69 from rfl) (Nat.le_of_ble_eq_true rfl) (mask1 rfl) fun C k => ?_
  have cend := @call_in env O _ _ h58 (show env.funs.get 33 = some f33 from rfl) rfl
  have hsym : ∀ c, c < 256 → ∀ s, (evW env O).call 67 [.int .u8 (.ofNat c)] s = some (.bool (isSym c), s) := fun c hc s => by rw [call_known hs0, gByte_eq _ hc]
  have hW := tw_le isSym (b.drop at_)
  rw [List.length_drop] at hW
  unfold f69
  simp only
  refine tri_seq (k.ev ?_)
  simp (disch := first | assumption | omega | rfl | (simp only [sxP, Bool.and_self, length_cons, length_nil, length_take, length_drop, ↓reduceIte, reduceEqDiff]; first | done | omega) | exact Nat.le_of_ble_eq_true rfl | ((repeat (first | assumption | apply Byt.drop | apply Byt.take)); done) | fail) only [go_sem, ↓reduceIte, reduceEqDiff, reduceLeDiff, reduceLT, reduceAdd, reduceMul, reduceSub, reduceMod, reducePow, reduceDiv, reduceOr, reduceShiftLeft, Nat.reduceBEq, reduceGT, reduceSucc, rdr]
  refine ⟨_, rfl, ?_⟩
  simp only [Behind, InBlk, Cut, if_true, ↓reduceIte]
  refine tri_seq (k.ev ?_)
  simp (disch := first | assumption | omega | rfl | (simp only [sxP, Bool.and_self, length_cons, length_nil, length_take, length_drop, ↓reduceIte, reduceEqDiff]; first | done | omega) | exact Nat.le_of_ble_eq_true rfl | ((repeat (first | assumption | apply Byt.drop | apply Byt.take)); done) | fail) only [go_sem, ↓reduceIte, reduceEqDiff, reduceLeDiff, reduceLT, reduceAdd, reduceMul, reduceSub, reduceMod, reducePow, reduceDiv, reduceOr, reduceShiftLeft, Nat.reduceBEq, reduceGT, reduceSucc, rdr]
  refine ⟨_, rfl, ?_⟩
  simp only [Behind, InBlk, Cut, if_true, ↓reduceIte]
  refine tri_cut ⟨tmL [(3, .int .i64 (.ofNat at_)), (0, .ptr 0 0)], []⟩ (H [some (rdr b (at_ + ((b.drop at_).takeWhile isSym).length))] 1 true) (tri_block (tri_loop (k.gcL [] [3, 0] true (fr1 := ⟨tmL [(3, .int .i64 (.ofNat at_)), (0, .ptr 0 0)], []⟩) (s1 := H [some (rdr b at_)] 1 true) (by simp (disch := first | assumption | omega | rfl | (simp only [sxP, Bool.and_self, length_cons, length_nil, length_take, length_drop, ↓reduceIte, reduceEqDiff]; first | done | omega) | exact Nat.le_of_ble_eq_true rfl | ((repeat (first | assumption | apply Byt.drop | apply Byt.take)); done) | fail) only [go_sem, ↓reduceIte, reduceEqDiff, reduceLeDiff, reduceLT, reduceAdd, reduceMul, reduceSub, reduceMod, reducePow, reduceDiv, reduceOr, reduceShiftLeft, Nat.reduceBEq, reduceGT, reduceSucc, rdr]) ?_))) ?_
  · refine triL_ind (fun p => b.length - p) (fun _ => ⟨tmL [(3, .int .i64 (.ofNat at_)), (0, .ptr 0 0)], []⟩) (fun p => H [some (rdr b p)] 1 true) (fun p => at_ ≤ p ∧ p ≤ b.length ∧ p + ((b.drop p).takeWhile isSym).length = at_ + ((b.drop at_).takeWhile isSym).length) (fun p hp => ?_) at_ ⟨Nat.le_refl _, ha, rfl⟩
    obtain ⟨h1, h2, h3⟩ := hp
    cases hd : b.drop p with
    | nil =>
      have h4 : ¬ p < b.length := by
        intro h; have := congrArg List.length hd; simp at this; omega
      rw [hd] at h3
      refine k.ev ?_
      simp (disch := first | assumption | omega | rfl | (simp only [sxP, Bool.and_self, length_cons, length_nil, length_take, length_drop, ↓reduceIte, reduceEqDiff]; first | done | omega) | exact Nat.le_of_ble_eq_true rfl | ((repeat (first | assumption | apply Byt.drop | apply Byt.take)); done) | fail) only [go_sem, ↓reduceIte, reduceEqDiff, reduceLeDiff, reduceLT, reduceAdd, reduceMul, reduceSub, reduceMod, reducePow, reduceDiv, reduceOr, reduceShiftLeft, Nat.reduceBEq, reduceGT, reduceSucc, rdr, cend, f33, h4]
      refine ⟨_, rfl, ?_⟩
      simp only [Behind, InBlk, Cut, if_true, ↓reduceIte]
      refine k.gcs (keep := []) (live := [3, 0]) (md := true) ?_
      simp (disch := first | assumption | omega | rfl | (simp only [sxP, Bool.and_self, length_cons, length_nil, length_take, length_drop, ↓reduceIte, reduceEqDiff]; first | done | omega) | exact Nat.le_of_ble_eq_true rfl | ((repeat (first | assumption | apply Byt.drop | apply Byt.take)); done) | fail) only [go_sem, ↓reduceIte, reduceEqDiff, reduceLeDiff, reduceLT, reduceAdd, reduceMul, reduceSub, reduceMod, reducePow, reduceDiv, reduceOr, reduceShiftLeft, Nat.reduceBEq, reduceGT, reduceSucc, rdr, ← h3]
      simp
    | cons c r =>
      obtain ⟨h4, h5⟩ := drop_lt hd
      have hc : c < 256 := hb c (List.mem_of_mem_drop (by rw [hd]; simp))
      cases hs : isSym c with
      | false =>
        rw [hd, List.takeWhile_cons, hs] at h3
        refine k.ev ?_
        simp (disch := first | assumption | omega | rfl | (simp only [sxP, Bool.and_self, length_cons, length_nil, length_take, length_drop, ↓reduceIte, reduceEqDiff]; first | done | omega) | exact Nat.le_of_ble_eq_true rfl | ((repeat (first | assumption | apply Byt.drop | apply Byt.take)); done) | fail) only [go_sem, ↓reduceIte, reduceEqDiff, reduceLeDiff, reduceLT, reduceAdd, reduceMul, reduceSub, reduceMod, reducePow, reduceDiv, reduceOr, reduceShiftLeft, Nat.reduceBEq, reduceGT, reduceSucc, rdr, cend, f33, h4, hd, hsym c hc, hs]
        refine ⟨_, rfl, ?_⟩
        simp only [Behind, InBlk, Cut, if_true, ↓reduceIte]
        refine k.gcs (keep := []) (live := [3, 0]) (md := true) ?_
        simp (disch := first | assumption | omega | rfl | (simp only [sxP, Bool.and_self, length_cons, length_nil, length_take, length_drop, ↓reduceIte, reduceEqDiff]; first | done | omega) | exact Nat.le_of_ble_eq_true rfl | ((repeat (first | assumption | apply Byt.drop | apply Byt.take)); done) | fail) only [go_sem, ↓reduceIte, reduceEqDiff, reduceLeDiff, reduceLT, reduceAdd, reduceMul, reduceSub, reduceMod, reducePow, reduceDiv, reduceOr, reduceShiftLeft, Nat.reduceBEq, reduceGT, reduceSucc, rdr, ← h3]
        simp
      | true =>
        rw [hd, List.takeWhile_cons, hs] at h3
        refine k.ev ?_
        simp (disch := first | assumption | omega | rfl | (simp only [sxP, Bool.and_self, length_cons, length_nil, length_take, length_drop, ↓reduceIte, reduceEqDiff]; first | done | omega) | exact Nat.le_of_ble_eq_true rfl | ((repeat (first | assumption | apply Byt.drop | apply Byt.take)); done) | fail) only [go_sem, ↓reduceIte, reduceEqDiff, reduceLeDiff, reduceLT, reduceAdd, reduceMul, reduceSub, reduceMod, reducePow, reduceDiv, reduceOr, reduceShiftLeft, Nat.reduceBEq, reduceGT, reduceSucc, rdr, cend, f33, h4, hd, hsym c hc, hs]
        refine ⟨_, rfl, ?_⟩
        simp only [Behind, InBlk, Cut, if_true, ↓reduceIte]
        refine ⟨p + 1, ⟨by omega, by omega, ?_⟩, by omega, ?_⟩
        · rw [h5]; simp at h3; omega
        ·
          refine k.gcs (keep := []) (live := [3, 0]) (md := true) ?_
          simp (disch := first | assumption | omega | rfl | (simp only [sxP, Bool.and_self, length_cons, length_nil, length_take, length_drop, ↓reduceIte, reduceEqDiff]; first | done | omega) | exact Nat.le_of_ble_eq_true rfl | ((repeat (first | assumption | apply Byt.drop | apply Byt.take)); done) | fail) only [go_sem, ↓reduceIte, reduceEqDiff, reduceLeDiff, reduceLT, reduceAdd, reduceMul, reduceSub, reduceMod, reducePow, reduceDiv, reduceOr, reduceShiftLeft, Nat.reduceBEq, reduceGT, reduceSucc, rdr]
  · have e1 : (b.drop at_).take ((b.drop at_).takeWhile isSym).length = (b.drop at_).takeWhile isSym := take_tw _ _
    have e2 := (hb.drop at_).tw isSym
    refine tri_seq (k.ev ?_)
    simp (disch := first | assumption | omega | rfl | (simp only [sxP, Bool.and_self, length_cons, length_nil, length_take, length_drop, ↓reduceIte, reduceEqDiff]; first | done | omega) | exact Nat.le_of_ble_eq_true rfl | ((repeat (first | assumption | apply Byt.drop | apply Byt.take)); done) | fail) only [go_sem, ↓reduceIte, reduceEqDiff, reduceLeDiff, reduceLT, reduceAdd, reduceMul, reduceSub, reduceMod, reducePow, reduceDiv, reduceOr, reduceShiftLeft, Nat.reduceBEq, reduceGT, reduceSucc, rdr, e1]
    refine ⟨_, rfl, ?_⟩
    simp only [Behind, InBlk, Cut, if_true, ↓reduceIte]
    refine k.ev ?_
    simp (disch := first | assumption | omega | rfl | (simp only [sxP, Bool.and_self, length_cons, length_nil, length_take, length_drop, ↓reduceIte, reduceEqDiff]; first | done | omega) | exact Nat.le_of_ble_eq_true rfl | ((repeat (first | assumption | apply Byt.drop | apply Byt.take)); done) | fail) only [go_sem, ↓reduceIte, reduceEqDiff, reduceLeDiff, reduceLT, reduceAdd, reduceMul, reduceSub, reduceMod, reducePow, reduceDiv, reduceOr, reduceShiftLeft, Nat.reduceBEq, reduceGT, reduceSucc, rdr]
    refine ⟨_, rfl, ?_⟩
    simp only [Behind, InBlk, Cut, if_true, ↓reduceIte]
    apply fin_of (Or.inr rfl)
    iterate 5 (simp (disch := first | assumption | omega | rfl | (simp only [sxP, Bool.and_self, length_cons, length_nil, length_take, length_drop, ↓reduceIte, reduceEqDiff]; first | done | omega) | exact Nat.le_of_ble_eq_true rfl | ((repeat (first | assumption | apply Byt.drop | apply Byt.take)); done) | fail) only [go_sem, ↓reduceIte, reduceEqDiff, reduceLeDiff, reduceLT, reduceAdd, reduceMul, reduceSub, reduceMod, reducePow, reduceDiv, reduceOr, reduceShiftLeft, Nat.reduceBEq, reduceGT, reduceSucc, rdr] <;> exact rfl)
def encR (x : List Nat × Nat) : Nat × List AV × List AV := (70, [.lst x.1.length false (bytesV x.1), .int .i64 (.ofNat x.2)], [])
theorem encR_inj : ∀ x y, encR x = encR y → x = y := fun ⟨b, p⟩ ⟨c, q⟩ h => by
  simp only [encR, Prod.mk.injEq, List.cons.injEq, AV.lst.injEq, AV.int.injEq, true_and, and_true] at h
  obtain ⟨⟨_, h1⟩, h2⟩ := h
  rw [bytesV_inj h1]; cases h2; rfl
def PreR (x : List Nat × Nat) : Prop := Byt x.1 ∧ x.1.length < 1000000 ∧ x.2 ≤ x.1.length
def rowR (b : List Nat) (p : Nat) : List AV := [.lst b.length false (bytesV b), .int .i64 (.ofNat p)]
def runF (x : List Nat × Nat) : AV × List AV := (.str ((x.1.drop x.2).takeWhile isSym), rowR x.1 (x.2 + ((x.1.drop x.2).takeWhile isSym).length))
noncomputable def gRun : List AV → St → Option (AV × St) := orc1 encR PreR runF
theorem rdr_eq (b : List Nat) (p : Nat) : rdr b p = .row 70 (rowR b p) false false := rfl
theorem wk_rowR (b : List Nat) (p : Nat) : wkL (rowR b p) = rowR b p := by simp only [rowR, wkL, wkV, wkL_bytes]
theorem pure_rowR (b : List Nat) (p : Nat) : pureL (rowR b p) = true := by simp only [rowR, pureL_cons, pureA_lst, pureA_int, pureL_nil, Bool.and_self]
theorem run_known {P : Program} {w0 : World} (B : Bx P w0) {O : Orc} (hO : OrcOk P w0 O) (h58 : O 33 = none) (hs0 : O 67 = some (gByte isSym)) : OrcOk P w0 (withG 69 gRun O) :=
  hO.withG orc1_ext (known1 true (fun x _ => ⟨pure_rowR _ _, rfl, rfl, pure_rowR _ _⟩) fun x hx => run_sc B hO h58 hs0 x.1 x.2 hx.1 hx.2.1 hx.2.2)
theorem run_call {O : Orc} (h : O 69 = some gRun) (b : List Nat) (p : Nat) (e : Bool) (hp : PreR (b, p)) (l : List (Nat × Option AObj)) (n m : Nat) (md : Bool) (id : Nat) (hg : getA l id = some (.row 70 [.lst b.length e (bytesV b), .int .i64 (.ofNat p)] false false)) :
    (evW env O).call 69 [.ptr id 0] (KL l n m md [] none) = some (.str ((b.drop p).takeWhile isSym), KL ((id, some (.row 70 [.lst b.length false (bytesV b), .int .i64 (.ofNat (p + ((b.drop p).takeWhile isSym).length))] false false)) :: l) n (mark m id) md [] none) := by
  rw [call_known h, gRun, orc1_call, KL_get0, hg, orc1K_eq encR_inj _ _ (b, p) hp (by simp only [encR, wkL, wkV, wkL_bytes])]
  rfl
open Nat (reduceEqDiff reduceLeDiff reduceLT reduceAdd reduceMul reduceSub reduceMod reducePow reduceDiv reduceOr reduceShiftLeft reduceGT reduceSucc)
open List (length_cons length_nil length_take length_drop)
open T
set_option maxRecDepth 100000
def d0 : DT := .mk (.ofNat 0) (.ofNat 0) [] [] (.ofNat 0)
def tokS (c p : Nat) : Tok := if c = 40 then ⟨1, p, d0⟩ else if c = 41 then ⟨2, p, d0⟩ else if c = 49 then ⟨7, p, .mk (.ofNat 2) (.ofNat 0) [49] [] (.ofNat p)⟩ else ⟨0, 0, d0⟩
def okT (c : Nat) (r : List Nat) : Prop := c = 32 ∨ c = 40 ∨ c = 41 ∨ c = 49 ∧ ∀ x s, r = x :: s → x = 32 ∨ x = 40 ∨ x = 41
def fault0 : AV := .agg [.int .i64 (.ofNat 0), .int .i64 (.ofNat 0)]
theorem int_ev : okV (.tup [.str [49], .bool true]) ((evT env noO 1000).call 93 [.str [49]] s0) = true := by decide +kernel
theorem token_sc {P : Program} {w0 : World} (B : Bx P w0) {O : Orc} (hO : OrcOk P w0 O) (o1 : O 33 = none) (o2 : O 62 = none) (o3 : O 68 = none) (o4 : O 64 = none) (o5 : O 88 = none)
    (h1 : O 60 = some (gByte isBlank)) (h2 : O 67 = some (gByte isSym)) (h3 : O 71 = some (gByte isDelim)) (h4 : O 69 = some gRun) (h5 : O 93 = some (pureG (gList [([.str [49]], .tup [.str [49], .bool true])])))
    (b : List Nat) (p : Nat) (hp : PreR (b, p)) (c : Nat) (r : List Nat) (hd : b.drop p = c :: r) (hc : okT c r) :
    SC P w0 34 [.ptr 0 0] (H [some (rdr b p)] 0 true) (.tup [.agg (cellsT (tokS c p)), fault0]) (H [some (rdr b (p + 1))] 1 true) := by
  refine Is.sc hO B.mixed B.glob B.env 1 (show env.funs.get 34 = some f34 from rfl) (Nat.le_of_ble_eq_true rfl) (mask1 rfl) fun C k => ?_
  have cend := @call_in env O _ _ o1 (show env.funs.get 33 = some f33 from rfl) rfl
  have cbeg := @call_in env O _ _ o2 (show env.funs.get 62 = some f62 from rfl) rfl
  have cword := @call_in env O _ _ o3 (show env.funs.get 68 = some f68 from rfl) rfl
  have cidx := @call_in env O _ _ o4 (show env.funs.get 64 = some f64 from rfl) rfl
  have cidx2 := @call_in env O _ _ o5 (show env.funs.get 88 = some f88 from rfl) rfl
  have hbl : ∀ c, c < 256 → ∀ s, (evW env O).call 60 [.int .u8 (.ofNat c)] s = some (.bool (isBlank c), s) := fun c hc s => by rw [call_known h1, gByte_eq _ hc]
  have hsy : ∀ c, c < 256 → ∀ s, (evW env O).call 67 [.int .u8 (.ofNat c)] s = some (.bool (isSym c), s) := fun c hc s => by rw [call_known h2, gByte_eq _ hc]
  have hde : ∀ c, c < 256 → ∀ s, (evW env O).call 71 [.int .u8 (.ofNat c)] s = some (.bool (isDelim c), s) := fun c hc s => by rw [call_known h3, gByte_eq _ hc]
  have hint : ∀ s, (evW env O).call 93 [.str [49]] s = some (.tup [.str [49], .bool true], s) := fun s => by rw [call_known h5]; rfl
  have hrun := fun l n m md => run_call h4 b p false hp l n m md 0
  obtain ⟨hp1, hp2⟩ := drop_lt hd
  obtain ⟨hby, hlen, hle⟩ := hp
  simp only at hby hlen hle
  unfold f34
  simp only
  have hcc : c < 256 := hby c (List.mem_of_mem_drop (by rw [hd]; simp))
  have b32 : isBlank 32 = true := rfl
  have b40 : isBlank 40 = false := rfl
  have b41 : isBlank 41 = false := rfl
  have b49 : isBlank 49 = false := rfl
  have s49 : isSym 49 = true := rfl
  have v32 : isDelim 32 = true := rfl
  have v40 : isDelim 40 = true := rfl
  have v41 : isDelim 41 = true := rfl
  have f32 : ¬ (32 : Nat) = 40 ∧ ¬ (32 : Nat) = 41 ∧ ¬ (32 : Nat) = 49 := by decide
  rcases hc with rfl | rfl | rfl | ⟨rfl, hr⟩
  ·
    refine k.ev ?_
    simp (disch := first | assumption | omega | rfl | (simp only [sxP, Bool.and_self, length_cons, length_nil, length_take, length_drop, ↓reduceIte, reduceEqDiff]; first | done | omega) | exact Nat.le_of_ble_eq_true rfl | ((repeat (first | assumption | apply Byt.drop | apply Byt.take)); done) | fail) only [go_sem, ↓reduceIte, reduceEqDiff, reduceLeDiff, reduceLT, reduceAdd, reduceMul, reduceSub, reduceMod, reducePow, reduceDiv, reduceOr, reduceShiftLeft, Nat.reduceBEq, reduceGT, reduceSucc, rdr, hd, hbl, b32]
    refine ⟨_, rfl, ?_⟩
    simp only [Behind, InBlk, Cut, if_true, ↓reduceIte]
    apply fin_of (Or.inr rfl)
    iterate 5 (simp (disch := first | assumption | omega | rfl | (simp only [sxP, Bool.and_self, length_cons, length_nil, length_take, length_drop, ↓reduceIte, reduceEqDiff]; first | done | omega) | exact Nat.le_of_ble_eq_true rfl | ((repeat (first | assumption | apply Byt.drop | apply Byt.take)); done) | fail) only [go_sem, ↓reduceIte, reduceEqDiff, reduceLeDiff, reduceLT, reduceAdd, reduceMul, reduceSub, reduceMod, reducePow, reduceDiv, reduceOr, reduceShiftLeft, Nat.reduceBEq, reduceGT, reduceSucc, rdr, tokS, fault0, cellsT, d0, cellsD_mk, cellsL_nil] <;> exact rfl)
  · have hlen2 : b.length = p + 1 + r.length := by have := congrArg List.length hd; simp at this; omega
    cases r with
    | nil =>
      simp only [List.length_cons, List.length_nil] at hlen2
      refine k.ev ?_
      simp (disch := first | assumption | omega | rfl | (simp only [sxP, Bool.and_self, length_cons, length_nil, length_take, length_drop, ↓reduceIte, reduceEqDiff]; first | done | omega) | exact Nat.le_of_ble_eq_true rfl | ((repeat (first | assumption | apply Byt.drop | apply Byt.take)); done) | fail) only [go_sem, ↓reduceIte, reduceEqDiff, reduceLeDiff, reduceLT, reduceAdd, reduceMul, reduceSub, reduceMod, reducePow, reduceDiv, reduceOr, reduceShiftLeft, Nat.reduceBEq, reduceGT, reduceSucc, rdr, hd, hbl, b40, cbeg, f62, cidx, f64, cidx2, f88]
      refine ⟨_, rfl, ?_⟩
      simp only [Behind, InBlk, Cut, if_true, ↓reduceIte]
      apply fin_of (Or.inr rfl)
      iterate 5 (simp (disch := first | assumption | omega | rfl | (simp only [sxP, Bool.and_self, length_cons, length_nil, length_take, length_drop, ↓reduceIte, reduceEqDiff]; first | done | omega) | exact Nat.le_of_ble_eq_true rfl | ((repeat (first | assumption | apply Byt.drop | apply Byt.take)); done) | fail) only [go_sem, ↓reduceIte, reduceEqDiff, reduceLeDiff, reduceLT, reduceAdd, reduceMul, reduceSub, reduceMod, reducePow, reduceDiv, reduceOr, reduceShiftLeft, Nat.reduceBEq, reduceGT, reduceSucc, rdr, tokS, fault0, cellsT, d0, cellsD_mk, cellsL_nil] <;> exact rfl)
    | cons x s =>
      simp only [List.length_cons, List.length_nil] at hlen2
      have hx : x < 256 := hby x (List.mem_of_mem_drop (by rw [hd]; simp))
      have hB2 : Byt [40, x] := fun y hy => by
        rcases List.mem_cons.1 hy with rfl | hy
        · omega
        · rcases List.mem_cons.1 hy with rfl | hy
          · exact hx
          · cases hy
      refine k.ev ?_
      simp (disch := first | assumption | omega | rfl | (simp only [sxP, Bool.and_self, length_cons, length_nil, length_take, length_drop, ↓reduceIte, reduceEqDiff]; first | done | omega) | exact Nat.le_of_ble_eq_true rfl | ((repeat (first | assumption | apply Byt.drop | apply Byt.take)); done) | fail) only [go_sem, ↓reduceIte, reduceEqDiff, reduceLeDiff, reduceLT, reduceAdd, reduceMul, reduceSub, reduceMod, reducePow, reduceDiv, reduceOr, reduceShiftLeft, Nat.reduceBEq, reduceGT, reduceSucc, rdr, hd, hbl, b40, cbeg, f62, cidx, f64, cidx2, f88]
      refine ⟨_, rfl, ?_⟩
      simp only [Behind, InBlk, Cut, if_true, ↓reduceIte]
      apply fin_of (Or.inr rfl)
      iterate 5 (simp (disch := first | assumption | omega | rfl | (simp only [sxP, Bool.and_self, length_cons, length_nil, length_take, length_drop, ↓reduceIte, reduceEqDiff]; first | done | omega) | exact Nat.le_of_ble_eq_true rfl | ((repeat (first | assumption | apply Byt.drop | apply Byt.take)); done) | fail) only [go_sem, ↓reduceIte, reduceEqDiff, reduceLeDiff, reduceLT, reduceAdd, reduceMul, reduceSub, reduceMod, reducePow, reduceDiv, reduceOr, reduceShiftLeft, Nat.reduceBEq, reduceGT, reduceSucc, rdr, tokS, fault0, cellsT, d0, cellsD_mk, cellsL_nil] <;> exact rfl)
  · have hlen2 : b.length = p + 1 + r.length := by have := congrArg List.length hd; simp at this; omega
    cases r with
    | nil =>
      simp only [List.length_cons, List.length_nil] at hlen2
      refine k.ev ?_
      simp (disch := first | assumption | omega | rfl | (simp only [sxP, Bool.and_self, length_cons, length_nil, length_take, length_drop, ↓reduceIte, reduceEqDiff]; first | done | omega) | exact Nat.le_of_ble_eq_true rfl | ((repeat (first | assumption | apply Byt.drop | apply Byt.take)); done) | fail) only [go_sem, ↓reduceIte, reduceEqDiff, reduceLeDiff, reduceLT, reduceAdd, reduceMul, reduceSub, reduceMod, reducePow, reduceDiv, reduceOr, reduceShiftLeft, Nat.reduceBEq, reduceGT, reduceSucc, rdr, hd, hbl, b41, cbeg, f62, cidx, f64, cidx2, f88]
      refine ⟨_, rfl, ?_⟩
      simp only [Behind, InBlk, Cut, if_true, ↓reduceIte]
      apply fin_of (Or.inr rfl)
      iterate 5 (simp (disch := first | assumption | omega | rfl | (simp only [sxP, Bool.and_self, length_cons, length_nil, length_take, length_drop, ↓reduceIte, reduceEqDiff]; first | done | omega) | exact Nat.le_of_ble_eq_true rfl | ((repeat (first | assumption | apply Byt.drop | apply Byt.take)); done) | fail) only [go_sem, ↓reduceIte, reduceEqDiff, reduceLeDiff, reduceLT, reduceAdd, reduceMul, reduceSub, reduceMod, reducePow, reduceDiv, reduceOr, reduceShiftLeft, Nat.reduceBEq, reduceGT, reduceSucc, rdr, tokS, fault0, cellsT, d0, cellsD_mk, cellsL_nil] <;> exact rfl)
    | cons x s =>
      simp only [List.length_cons, List.length_nil] at hlen2
      have hx : x < 256 := hby x (List.mem_of_mem_drop (by rw [hd]; simp))
      have hB2 : Byt [41, x] := fun y hy => by
        rcases List.mem_cons.1 hy with rfl | hy
        · omega
        · rcases List.mem_cons.1 hy with rfl | hy
          · exact hx
          · cases hy
      refine k.ev ?_
      simp (disch := first | assumption | omega | rfl | (simp only [sxP, Bool.and_self, length_cons, length_nil, length_take, length_drop, ↓reduceIte, reduceEqDiff]; first | done | omega) | exact Nat.le_of_ble_eq_true rfl | ((repeat (first | assumption | apply Byt.drop | apply Byt.take)); done) | fail) only [go_sem, ↓reduceIte, reduceEqDiff, reduceLeDiff, reduceLT, reduceAdd, reduceMul, reduceSub, reduceMod, reducePow, reduceDiv, reduceOr, reduceShiftLeft, Nat.reduceBEq, reduceGT, reduceSucc, rdr, hd, hbl, b41, cbeg, f62, cidx, f64, cidx2, f88]
      refine ⟨_, rfl, ?_⟩
      simp only [Behind, InBlk, Cut, if_true, ↓reduceIte]
      apply fin_of (Or.inr rfl)
      iterate 5 (simp (disch := first | assumption | omega | rfl | (simp only [sxP, Bool.and_self, length_cons, length_nil, length_take, length_drop, ↓reduceIte, reduceEqDiff]; first | done | omega) | exact Nat.le_of_ble_eq_true rfl | ((repeat (first | assumption | apply Byt.drop | apply Byt.take)); done) | fail) only [go_sem, ↓reduceIte, reduceEqDiff, reduceLeDiff, reduceLT, reduceAdd, reduceMul, reduceSub, reduceMod, reducePow, reduceDiv, reduceOr, reduceShiftLeft, Nat.reduceBEq, reduceGT, reduceSucc, rdr, tokS, fault0, cellsT, d0, cellsD_mk, cellsL_nil] <;> exact rfl)
  · have hlen2 : b.length = p + 1 + r.length := by have := congrArg List.length hd; simp at this; omega
    cases r with
    | nil =>
      simp only [List.length_nil] at hlen2
      have htw : (b.drop p).takeWhile isSym = [49] := by rw [hd]; rfl
      simp only [htw, List.length_cons, List.length_nil, Nat.zero_add] at hrun
      refine k.ev ?_
      simp (disch := first | assumption | omega | rfl | (simp only [sxP, Bool.and_self, length_cons, length_nil, length_take, length_drop, ↓reduceIte, reduceEqDiff]; first | done | omega) | exact Nat.le_of_ble_eq_true rfl | ((repeat (first | assumption | apply Byt.drop | apply Byt.take)); done) | fail) only [go_sem, ↓reduceIte, reduceEqDiff, reduceLeDiff, reduceLT, reduceAdd, reduceMul, reduceSub, reduceMod, reducePow, reduceDiv, reduceOr, reduceShiftLeft, Nat.reduceBEq, reduceGT, reduceSucc, rdr, hd, hbl, hsy, b49, s49, cbeg, f62, hrun, cword, f68, hint, cend, f33]
      refine ⟨_, rfl, ?_⟩
      simp only [Behind, InBlk, Cut, if_true, ↓reduceIte]
      apply fin_of (Or.inr rfl)
      iterate 5 (simp (disch := first | assumption | omega | rfl | (simp only [sxP, Bool.and_self, length_cons, length_nil, length_take, length_drop, ↓reduceIte, reduceEqDiff]; first | done | omega) | exact Nat.le_of_ble_eq_true rfl | ((repeat (first | assumption | apply Byt.drop | apply Byt.take)); done) | fail) only [go_sem, ↓reduceIte, reduceEqDiff, reduceLeDiff, reduceLT, reduceAdd, reduceMul, reduceSub, reduceMod, reducePow, reduceDiv, reduceOr, reduceShiftLeft, Nat.reduceBEq, reduceGT, reduceSucc, rdr, tokS, fault0, cellsT, d0, cellsD_mk, cellsL_nil] <;> exact rfl)
    | cons x s =>
      simp only [List.length_cons] at hlen2
      have hx := hr x s rfl
      have hxs : isSym x = false ∧ isDelim x = true := by rcases hx with rfl | rfl | rfl <;> exact ⟨rfl, rfl⟩
      have hxb : x < 256 := by omega
      have htw : (b.drop p).takeWhile isSym = [49] := by
        rw [hd, List.takeWhile_cons, s49, if_pos rfl, List.takeWhile_cons, hxs.1]; rfl
      simp only [htw, List.length_cons, List.length_nil, Nat.zero_add] at hrun
      have hB2 : Byt [49, x] := fun y hy => by
        rcases List.mem_cons.1 hy with rfl | hy
        · omega
        · rcases List.mem_cons.1 hy with rfl | hy
          · exact hxb
          · cases hy
      refine k.ev ?_
      simp (disch := first | assumption | omega | rfl | (simp only [sxP, Bool.and_self, length_cons, length_nil, length_take, length_drop, ↓reduceIte, reduceEqDiff]; first | done | omega) | exact Nat.le_of_ble_eq_true rfl | ((repeat (first | assumption | apply Byt.drop | apply Byt.take)); done) | fail) only [go_sem, ↓reduceIte, reduceEqDiff, reduceLeDiff, reduceLT, reduceAdd, reduceMul, reduceSub, reduceMod, reducePow, reduceDiv, reduceOr, reduceShiftLeft, Nat.reduceBEq, reduceGT, reduceSucc, rdr, hd, hp2, hbl, hsy, hde, hxs.2, b49, s49, cbeg, f62, hrun, cword, f68, hint, cend, f33]
      refine ⟨_, rfl, ?_⟩
      simp only [Behind, InBlk, Cut, if_true, ↓reduceIte]
      apply fin_of (Or.inr rfl)
      iterate 5 (simp (disch := first | assumption | omega | rfl | (simp only [sxP, Bool.and_self, length_cons, length_nil, length_take, length_drop, ↓reduceIte, reduceEqDiff]; first | done | omega) | exact Nat.le_of_ble_eq_true rfl | ((repeat (first | assumption | apply Byt.drop | apply Byt.take)); done) | fail) only [go_sem, ↓reduceIte, reduceEqDiff, reduceLeDiff, reduceLT, reduceAdd, reduceMul, reduceSub, reduceMod, reducePow, reduceDiv, reduceOr, reduceShiftLeft, Nat.reduceBEq, reduceGT, reduceSucc, rdr, tokS, fault0, cellsT, d0, cellsD_mk, cellsL_nil] <;> exact rfl)
open Nat (reduceEqDiff reduceLeDiff reduceLT reduceAdd reduceMul reduceSub reduceMod reducePow reduceDiv reduceOr reduceShiftLeft reduceGT reduceSucc)
open List (length_cons length_nil length_take length_drop)
open T
set_option maxRecDepth 100000
def headN (b : List Nat) (p : Nat) : Nat := (b.drop p).headD 0
def PreT (x : List Nat × Nat) : Prop := PreR x ∧ ∃ c r, x.1.drop x.2 = c :: r ∧ okT c r
def tokF (x : List Nat × Nat) : AV × List AV := (.tup [.agg (cellsT (tokS (headN x.1 x.2) x.2)), fault0], rowR x.1 (x.2 + 1))
noncomputable def gTok : List AV → St → Option (AV × St) := orc1 encR PreT tokF
theorem token_known {P : Program} {w0 : World} (B : Bx P w0) {O : Orc} (hO : OrcOk P w0 O) (o1 : O 33 = none) (o2 : O 62 = none) (o3 : O 68 = none) (o4 : O 64 = none) (o5 : O 88 = none)
    (h1 : O 60 = some (gByte isBlank)) (h2 : O 67 = some (gByte isSym)) (h3 : O 71 = some (gByte isDelim)) (h4 : O 69 = some gRun) (h5 : O 93 = some (pureG (gList [([.str [49]], .tup [.str [49], .bool true])]))) : OrcOk P w0 (withG 34 gTok O) :=
  hO.withG orc1_ext (known1 true (fun x _ => ⟨pure_rowR _ _, rfl, by simp only [tokF, fault0, pureA_tup, pureL_cons, pureA_agg, cellsT_pure, pureA_int, pureL_nil, Bool.and_self], pure_rowR _ _⟩) fun x hx => by
    obtain ⟨hp, c, r, hd, hc⟩ := hx
    have := token_sc B hO o1 o2 o3 o4 o5 h1 h2 h3 h4 h5 x.1 x.2 hp c r hd hc
    have e : headN x.1 x.2 = c := by unfold headN; rw [hd]; rfl
    simp only [tokF, e]; exact this)
theorem token_call {O : Orc} (h : O 34 = some gTok) (b : List Nat) (p : Nat) (hp : PreT (b, p)) (l : List (Nat × Option AObj)) (n m : Nat) (md : Bool) (id : Nat) (hg : getA l id = some (.row 70 [.lst b.length false (bytesV b), .int .i64 (.ofNat p)] false false)) :
    (evW env O).call 34 [.ptr id 0] (KL l n m md [] none) = some (.tup [.agg (cellsT (tokS (headN b p) p)), fault0], KL ((id, some (.row 70 [.lst b.length false (bytesV b), .int .i64 (.ofNat (p + 1))] false false)) :: l) n (mark m id) md [] none) := by
  rw [call_known h, gTok, orc1_call, KL_get0, hg, orc1K_eq encR_inj _ _ (b, p) hp (by simp only [encR, wkL, wkV, wkL_bytes])]
  rfl
def lexS : Nat → List Nat → List Tok
  | _, [] => []
  | p, c :: r => (if c = 32 then [] else [tokS c p]) ++ lexS (p + 1) r
def OkS (b : List Nat) : Prop := ∀ p c r, b.drop p = c :: r → okT c r
def accV (acc : List Tok) : AV := match acc with
  | [] => .nils
  | t :: r => .gr 2 7 (t :: r).length (cellsTs (t :: r))
def accO (acc : List Tok) : List (Option AObj) := match acc with
  | [] => []
  | t :: r => [some (.app 44 (cellsTs (t :: r)))]
def frow : AObj := .row 34 [.int .i64 (.ofNat 0), .int .i64 (.ofNat 0)] false false
theorem lex_sc {P : Program} {w0 : World} (B : Bx P w0) {O : Orc} (hO : OrcOk P w0 O) (o1 : O 33 = none) (o2 : O 35 = none) (h1' : O 34 = some gTok)
    (b : List Nat) (hb : Byt b) (hl : b.length < 100000) (hok : OkS b) :
    SC P w0 17 [.lst b.length false (bytesV b)] (H [] 0 true) (.tup [.lst (lexS 0 b).length false (cellsTs (lexS 0 b)), fault0]) (H [] 0 true) := by
  refine Is.sc hO B.mixed B.glob B.env 0 (show env.funs.get 17 = some f17 from rfl) (Nat.le_of_ble_eq_true rfl) mask0 fun C k => ?_
  have cend := @call_in env O _ _ o1 (show env.funs.get 33 = some f33 from rfl) rfl
  have cnone := @call_in env O _ _ o2 (show env.funs.get 35 = some f35 from rfl) rfl
  unfold f17
  simp only
  refine tri_seq (k.ev ?_)
  simp (disch := first | assumption | omega | rfl | (simp only [sxP, Bool.and_self, length_cons, length_nil, length_take, length_drop, ↓reduceIte, reduceEqDiff]; first | done | omega) | exact Nat.le_of_ble_eq_true rfl | ((repeat (first | assumption | apply Byt.drop | apply Byt.take)); done) | fail) only [go_sem, ↓reduceIte, reduceEqDiff, reduceLeDiff, reduceLT, reduceAdd, reduceMul, reduceSub, reduceMod, reducePow, reduceDiv, reduceOr, reduceShiftLeft, Nat.reduceBEq, reduceGT, reduceSucc]
  refine ⟨_, rfl, ?_⟩
  simp only [Behind, InBlk, Cut, if_true, ↓reduceIte]
  refine tri_seq (k.ev ?_)
  simp (disch := first | assumption | omega | rfl | (simp only [sxP, Bool.and_self, length_cons, length_nil, length_take, length_drop, ↓reduceIte, reduceEqDiff]; first | done | omega) | exact Nat.le_of_ble_eq_true rfl | ((repeat (first | assumption | apply Byt.drop | apply Byt.take)); done) | fail) only [go_sem, ↓reduceIte, reduceEqDiff, reduceLeDiff, reduceLT, reduceAdd, reduceMul, reduceSub, reduceMod, reducePow, reduceDiv, reduceOr, reduceShiftLeft, Nat.reduceBEq, reduceGT, reduceSucc]
  refine ⟨_, rfl, ?_⟩
  simp only [Behind, InBlk, Cut, if_true, ↓reduceIte]
  refine tri_seq (k.ev ?_)
  simp (disch := first | assumption | omega | rfl | (simp only [sxP, Bool.and_self, length_cons, length_nil, length_take, length_drop, ↓reduceIte, reduceEqDiff]; first | done | omega) | exact Nat.le_of_ble_eq_true rfl | ((repeat (first | assumption | apply Byt.drop | apply Byt.take)); done) | fail) only [go_sem, ↓reduceIte, reduceEqDiff, reduceLeDiff, reduceLT, reduceAdd, reduceMul, reduceSub, reduceMod, reducePow, reduceDiv, reduceOr, reduceShiftLeft, Nat.reduceBEq, reduceGT, reduceSucc]
  refine ⟨_, rfl, ?_⟩
  simp only [Behind, InBlk, Cut, if_true, ↓reduceIte]
  refine tri_cut ⟨tmL [(2, accV (lexS 0 b)), (3, .ptr 0 0), (4, .ptr 1 0)], []⟩ (H ([some frow, some (rdr b b.length)] ++ accO (lexS 0 b)) 0 true) (tri_block (tri_loop (k.gcL [0, 1] [2, 3, 4] true (fr1 := ⟨tmL [(2, accV []), (3, .ptr 0 0), (4, .ptr 1 0)], []⟩) (s1 := H ([some frow, some (rdr b 0)] ++ accO []) 0 true) (by simp (disch := first | assumption | omega | rfl | (simp only [sxP, Bool.and_self, length_cons, length_nil, length_take, length_drop, ↓reduceIte, reduceEqDiff]; first | done | omega) | exact Nat.le_of_ble_eq_true rfl | ((repeat (first | assumption | apply Byt.drop | apply Byt.take)); done) | fail) only [go_sem, ↓reduceIte, reduceEqDiff, reduceLeDiff, reduceLT, reduceAdd, reduceMul, reduceSub, reduceMod, reducePow, reduceDiv, reduceOr, reduceShiftLeft, Nat.reduceBEq, reduceGT, reduceSucc, rdr, accV, accO, frow]) ?_))) ?_
  · refine triL_ind (fun x : Nat × List Tok => b.length - x.1) (fun x => ⟨tmL [(2, accV x.2), (3, .ptr 0 0), (4, .ptr 1 0)], []⟩) (fun x => H ([some frow, some (rdr b x.1)] ++ accO x.2) 0 true) (fun x => x.1 ≤ b.length ∧ x.2 ++ lexS x.1 (b.drop x.1) = lexS 0 b ∧ x.2.length ≤ x.1) (fun x hx => ?_) (0, []) ⟨Nat.zero_le _, rfl, Nat.le_refl _⟩
    obtain ⟨p, acc⟩ := x
    obtain ⟨h1, h2, h3⟩ := hx
    simp only at h1 h2 h3 ⊢
    cases hd : b.drop p with
    | nil =>
      have h4 : p = b.length := by
        have := congrArg List.length hd; simp at this; omega
      rw [hd, lexS, List.append_nil] at h2
      subst h4
      cases acc with
      | nil =>
        refine k.ev ?_
        simp (disch := first | assumption | omega | rfl | (simp only [sxP, Bool.and_self, length_cons, length_nil, length_take, length_drop, ↓reduceIte, reduceEqDiff]; first | done | omega) | exact Nat.le_of_ble_eq_true rfl | ((repeat (first | assumption | apply Byt.drop | apply Byt.take)); done) | fail) only [go_sem, ↓reduceIte, reduceEqDiff, reduceLeDiff, reduceLT, reduceAdd, reduceMul, reduceSub, reduceMod, reducePow, reduceDiv, reduceOr, reduceShiftLeft, Nat.reduceBEq, reduceGT, reduceSucc, accV, accO, frow, rdr, cend, f33]
        refine ⟨_, rfl, ?_⟩
        simp only [Behind, InBlk, Cut, if_true, ↓reduceIte]
        rw [← h2]
        refine k.gcs (keep := [0, 1]) (live := [2, 3, 4]) (md := true) ?_
        simp (disch := first | assumption | omega | rfl | (simp only [sxP, Bool.and_self, length_cons, length_nil, length_take, length_drop, ↓reduceIte, reduceEqDiff]; first | done | omega) | exact Nat.le_of_ble_eq_true rfl | ((repeat (first | assumption | apply Byt.drop | apply Byt.take)); done) | fail) only [go_sem, ↓reduceIte, reduceEqDiff, reduceLeDiff, reduceLT, reduceAdd, reduceMul, reduceSub, reduceMod, reducePow, reduceDiv, reduceOr, reduceShiftLeft, Nat.reduceBEq, reduceGT, reduceSucc, accV, accO, frow, rdr]
      | cons a0 ar =>
        have hp1 := cellsTs_pure (a0 :: ar)
        refine k.ev ?_
        simp (disch := first | assumption | omega | rfl | (simp only [sxP, Bool.and_self, length_cons, length_nil, length_take, length_drop, ↓reduceIte, reduceEqDiff]; first | done | omega) | exact Nat.le_of_ble_eq_true rfl | ((repeat (first | assumption | apply Byt.drop | apply Byt.take)); done) | fail) only [go_sem, ↓reduceIte, reduceEqDiff, reduceLeDiff, reduceLT, reduceAdd, reduceMul, reduceSub, reduceMod, reducePow, reduceDiv, reduceOr, reduceShiftLeft, Nat.reduceBEq, reduceGT, reduceSucc, accV, accO, frow, rdr, cend, f33]
        refine ⟨_, rfl, ?_⟩
        simp only [Behind, InBlk, Cut, if_true, ↓reduceIte]
        rw [← h2]
        refine k.gcs (keep := [0, 1, 2]) (live := [2, 3, 4]) (md := true) ?_
        simp (disch := first | assumption | omega | rfl | (simp only [sxP, Bool.and_self, length_cons, length_nil, length_take, length_drop, ↓reduceIte, reduceEqDiff]; first | done | omega) | exact Nat.le_of_ble_eq_true rfl | ((repeat (first | assumption | apply Byt.drop | apply Byt.take)); done) | fail) only [go_sem, ↓reduceIte, reduceEqDiff, reduceLeDiff, reduceLT, reduceAdd, reduceMul, reduceSub, reduceMod, reducePow, reduceDiv, reduceOr, reduceShiftLeft, Nat.reduceBEq, reduceGT, reduceSucc, accV, accO, frow, rdr, hp1]
    | cons c r =>
      obtain ⟨hplt, hd2⟩ := drop_lt hd
      have hokc := hok p c r hd
      have hh : headN b p = c := by unfold headN; rw [hd]; rfl
      have hpr : PreT (b, p) := ⟨⟨hb, by simp only; omega, by simp only; omega⟩, c, r, hd, hokc⟩
      have htok := fun l n m md => token_call h1' b p hpr l n m md 1
      cases acc with
      | nil =>
        obtain ⟨kd, ps, dk, dn, dt, dks, dp, htk⟩ : ∃ kd ps dk dn dt dks dp, tokS (headN b p) p = ⟨kd, ps, .mk dk dn dt dks dp⟩ := by
          cases hh : tokS (headN b p) p with
          | mk kd ps d => cases d with
            | mk dk dn dt dks dp => exact ⟨kd, ps, dk, dn, dt, dks, dp, rfl⟩
        have hcell : cellsT (tokS (headN b p) p) = [.int .i64 (.ofNat kd), .int .i64 (.ofNat ps), .int .i64 dk, .int .i64 dn, .str dt, .lst dks.length false (cellsL dks), .int .i64 dp] := by rw [htk]; simp only [cellsT, cellsD_mk]
        by_cases hkd : kd = 0
        · subst hkd
          have hc32 : c = 32 := by
            rw [hh] at htk
            rcases hokc with rfl | rfl | rfl | ⟨rfl, _⟩ <;> first | rfl | (simp [tokS] at htk)
          refine k.ev ?_
          simp (disch := first | assumption | omega | rfl | (simp only [sxP, Bool.and_self, length_cons, length_nil, length_take, length_drop, ↓reduceIte, reduceEqDiff]; first | done | omega) | exact Nat.le_of_ble_eq_true rfl | ((repeat (first | assumption | apply Byt.drop | apply Byt.take)); done) | fail) only [go_sem, ↓reduceIte, reduceEqDiff, reduceLeDiff, reduceLT, reduceAdd, reduceMul, reduceSub, reduceMod, reducePow, reduceDiv, reduceOr, reduceShiftLeft, Nat.reduceBEq, reduceGT, reduceSucc, accV, accO, frow, rdr, cend, f33, htok, hcell, fault0]
          refine ⟨_, rfl, ?_⟩
          simp only [Behind, InBlk, Cut, if_true, ↓reduceIte]
          refine ⟨(p + 1, []), ⟨by omega, ?_, by simp only [List.length_cons, List.length_nil] at h3 ⊢; omega⟩, by simp only; omega, ?_⟩
          · rw [← h2, hd, hd2, lexS, if_pos hc32]; rfl
          ·
            refine k.gcs (keep := [0, 1]) (live := [2, 3, 4]) (md := true) ?_
            simp (disch := first | assumption | omega | rfl | (simp only [sxP, Bool.and_self, length_cons, length_nil, length_take, length_drop, ↓reduceIte, reduceEqDiff]; first | done | omega) | exact Nat.le_of_ble_eq_true rfl | ((repeat (first | assumption | apply Byt.drop | apply Byt.take)); done) | fail) only [go_sem, ↓reduceIte, reduceEqDiff, reduceLeDiff, reduceLT, reduceAdd, reduceMul, reduceSub, reduceMod, reducePow, reduceDiv, reduceOr, reduceShiftLeft, Nat.reduceBEq, reduceGT, reduceSucc, accV, accO, frow, rdr]
        · have hc32 : c ≠ 32 := by
            intro e
            rw [hh, e] at htk
            simp only [tokS] at htk
            exact hkd (by have := congrArg Tok.kind htk; simpa using this.symm)
          have hp1 := cellsTs_pure []
          refine k.ev ?_
          simp (disch := first | assumption | omega | rfl | (simp only [sxP, Bool.and_self, length_cons, length_nil, length_take, length_drop, ↓reduceIte, reduceEqDiff]; first | done | omega) | exact Nat.le_of_ble_eq_true rfl | ((repeat (first | assumption | apply Byt.drop | apply Byt.take)); done) | fail) only [go_sem, ↓reduceIte, reduceEqDiff, reduceLeDiff, reduceLT, reduceAdd, reduceMul, reduceSub, reduceMod, reducePow, reduceDiv, reduceOr, reduceShiftLeft, Nat.reduceBEq, reduceGT, reduceSucc, accV, accO, frow, rdr, cend, f33, htok, hcell, fault0]
          refine ⟨_, rfl, ?_⟩
          simp only [Behind, InBlk, Cut, if_true, ↓reduceIte]
          refine ⟨(p + 1, [] ++ [tokS (headN b p) p]), ⟨by omega, ?_, by simp only [List.length_append, List.length_cons, List.length_nil] at h3 ⊢; omega⟩, by simp only; omega, ?_⟩
          · rw [← h2, hd, hd2, lexS, if_neg hc32, hh, List.append_assoc]
          · refine k.gcs (keep := [0, 1, 4]) (live := [2, 3, 4]) (md := true) ?_
            simp only [List.cons_append, List.nil_append, accV, accO, cellsTs_cons, cellsTs_append, cellsTs_nil, List.append_nil, hcell, List.append_assoc, List.length_append, List.length_cons, List.length_nil]
            simp (disch := first | assumption | omega | rfl | (simp only [sxP, Bool.and_self, length_cons, length_nil, length_take, length_drop, ↓reduceIte, reduceEqDiff]; first | done | omega) | exact Nat.le_of_ble_eq_true rfl | ((repeat (first | assumption | apply Byt.drop | apply Byt.take)); done) | fail) only [go_sem, ↓reduceIte, reduceEqDiff, reduceLeDiff, reduceLT, reduceAdd, reduceMul, reduceSub, reduceMod, reducePow, reduceDiv, reduceOr, reduceShiftLeft, Nat.reduceBEq, reduceGT, reduceSucc, frow, rdr, cellsTs_pure, cellsT_pure, cellsL_pure]
      | cons a0 ar =>
        obtain ⟨kd, ps, dk, dn, dt, dks, dp, htk⟩ : ∃ kd ps dk dn dt dks dp, tokS (headN b p) p = ⟨kd, ps, .mk dk dn dt dks dp⟩ := by
          cases hh : tokS (headN b p) p with
          | mk kd ps d => cases d with
            | mk dk dn dt dks dp => exact ⟨kd, ps, dk, dn, dt, dks, dp, rfl⟩
        have hcell : cellsT (tokS (headN b p) p) = [.int .i64 (.ofNat kd), .int .i64 (.ofNat ps), .int .i64 dk, .int .i64 dn, .str dt, .lst dks.length false (cellsL dks), .int .i64 dp] := by rw [htk]; simp only [cellsT, cellsD_mk]
        by_cases hkd : kd = 0
        · subst hkd
          have hc32 : c = 32 := by
            rw [hh] at htk
            rcases hokc with rfl | rfl | rfl | ⟨rfl, _⟩ <;> first | rfl | (simp [tokS] at htk)
          refine k.ev ?_
          simp (disch := first | assumption | omega | rfl | (simp only [sxP, Bool.and_self, length_cons, length_nil, length_take, length_drop, ↓reduceIte, reduceEqDiff]; first | done | omega) | exact Nat.le_of_ble_eq_true rfl | ((repeat (first | assumption | apply Byt.drop | apply Byt.take)); done) | fail) only [go_sem, ↓reduceIte, reduceEqDiff, reduceLeDiff, reduceLT, reduceAdd, reduceMul, reduceSub, reduceMod, reducePow, reduceDiv, reduceOr, reduceShiftLeft, Nat.reduceBEq, reduceGT, reduceSucc, accV, accO, frow, rdr, cend, f33, htok, hcell, fault0]
          refine ⟨_, rfl, ?_⟩
          simp only [Behind, InBlk, Cut, if_true, ↓reduceIte]
          refine ⟨(p + 1, a0 :: ar), ⟨by omega, ?_, by simp only [List.length_cons, List.length_nil] at h3 ⊢; omega⟩, by simp only; omega, ?_⟩
          · rw [← h2, hd, hd2, lexS, if_pos hc32]; rfl
          ·
            refine k.gcs (keep := [0, 1, 2]) (live := [2, 3, 4]) (md := true) ?_
            simp (disch := first | assumption | omega | rfl | (simp only [sxP, Bool.and_self, length_cons, length_nil, length_take, length_drop, ↓reduceIte, reduceEqDiff]; first | done | omega) | exact Nat.le_of_ble_eq_true rfl | ((repeat (first | assumption | apply Byt.drop | apply Byt.take)); done) | fail) only [go_sem, ↓reduceIte, reduceEqDiff, reduceLeDiff, reduceLT, reduceAdd, reduceMul, reduceSub, reduceMod, reducePow, reduceDiv, reduceOr, reduceShiftLeft, Nat.reduceBEq, reduceGT, reduceSucc, accV, accO, frow, rdr, cellsTs_pure]
        · have hc32 : c ≠ 32 := by
            intro e
            rw [hh, e] at htk
            simp only [tokS] at htk
            exact hkd (by have := congrArg Tok.kind htk; simpa using this.symm)
          have hp1 := cellsTs_pure (a0 :: ar)
          simp only [List.length_cons] at h3
          refine k.ev ?_
          simp (disch := first | assumption | omega | rfl | (simp only [sxP, Bool.and_self, length_cons, length_nil, length_take, length_drop, ↓reduceIte, reduceEqDiff]; first | done | omega) | exact Nat.le_of_ble_eq_true rfl | ((repeat (first | assumption | apply Byt.drop | apply Byt.take)); done) | fail) only [go_sem, ↓reduceIte, reduceEqDiff, reduceLeDiff, reduceLT, reduceAdd, reduceMul, reduceSub, reduceMod, reducePow, reduceDiv, reduceOr, reduceShiftLeft, Nat.reduceBEq, reduceGT, reduceSucc, accV, accO, frow, rdr, cend, f33, htok, hcell, fault0]
          refine ⟨_, rfl, ?_⟩
          simp only [Behind, InBlk, Cut, if_true, ↓reduceIte]
          refine ⟨(p + 1, (a0 :: ar) ++ [tokS (headN b p) p]), ⟨by omega, ?_, by simp only [List.length_append, List.length_cons, List.length_nil] at h3 ⊢; omega⟩, by simp only; omega, ?_⟩
          · rw [← h2, hd, hd2, lexS, if_neg hc32, hh, List.append_assoc]
          · refine k.gcs (keep := [0, 1, 5]) (live := [2, 3, 4]) (md := true) ?_
            simp only [List.cons_append, List.nil_append, accV, accO, cellsTs_cons, cellsTs_append, cellsTs_nil, List.append_nil, hcell, List.append_assoc, List.length_append, List.length_cons, List.length_nil]
            simp (disch := first | assumption | omega | rfl | (simp only [sxP, Bool.and_self, length_cons, length_nil, length_take, length_drop, ↓reduceIte, reduceEqDiff]; first | done | omega) | exact Nat.le_of_ble_eq_true rfl | ((repeat (first | assumption | apply Byt.drop | apply Byt.take)); done) | fail) only [go_sem, ↓reduceIte, reduceEqDiff, reduceLeDiff, reduceLT, reduceAdd, reduceMul, reduceSub, reduceMod, reducePow, reduceDiv, reduceOr, reduceShiftLeft, Nat.reduceBEq, reduceGT, reduceSucc, frow, rdr, cellsTs_pure, cellsT_pure, cellsL_pure]
  · cases hL : lexS 0 b with
    | nil =>
      refine tri_seq (k.ev ?_)
      simp (disch := first | assumption | omega | rfl | (simp only [sxP, Bool.and_self, length_cons, length_nil, length_take, length_drop, ↓reduceIte, reduceEqDiff]; first | done | omega) | exact Nat.le_of_ble_eq_true rfl | ((repeat (first | assumption | apply Byt.drop | apply Byt.take)); done) | fail) only [go_sem, ↓reduceIte, reduceEqDiff, reduceLeDiff, reduceLT, reduceAdd, reduceMul, reduceSub, reduceMod, reducePow, reduceDiv, reduceOr, reduceShiftLeft, Nat.reduceBEq, reduceGT, reduceSucc, accV, accO, frow, rdr, cnone, f35]
      refine ⟨_, rfl, ?_⟩
      simp only [Behind, InBlk, Cut, if_true, ↓reduceIte]
      refine k.ev ?_
      simp (disch := first | assumption | omega | rfl | (simp only [sxP, Bool.and_self, length_cons, length_nil, length_take, length_drop, ↓reduceIte, reduceEqDiff]; first | done | omega) | exact Nat.le_of_ble_eq_true rfl | ((repeat (first | assumption | apply Byt.drop | apply Byt.take)); done) | fail) only [go_sem, ↓reduceIte, reduceEqDiff, reduceLeDiff, reduceLT, reduceAdd, reduceMul, reduceSub, reduceMod, reducePow, reduceDiv, reduceOr, reduceShiftLeft, Nat.reduceBEq, reduceGT, reduceSucc]
      refine ⟨_, rfl, ?_⟩
      simp only [Behind, InBlk, Cut, if_true, ↓reduceIte]
      apply fin_of (Or.inr rfl)
      iterate 5 (simp (disch := first | assumption | omega | rfl | (simp only [sxP, Bool.and_self, length_cons, length_nil, length_take, length_drop, ↓reduceIte, reduceEqDiff]; first | done | omega) | exact Nat.le_of_ble_eq_true rfl | ((repeat (first | assumption | apply Byt.drop | apply Byt.take)); done) | fail) only [go_sem, ↓reduceIte, reduceEqDiff, reduceLeDiff, reduceLT, reduceAdd, reduceMul, reduceSub, reduceMod, reducePow, reduceDiv, reduceOr, reduceShiftLeft, Nat.reduceBEq, reduceGT, reduceSucc, frow, rdr, fault0, cellsTs_nil] <;> exact rfl)
    | cons a0 ar =>
      have hp1 := cellsTs_pure (a0 :: ar)
      refine tri_seq (k.ev ?_)
      simp (disch := first | assumption | omega | rfl | (simp only [sxP, Bool.and_self, length_cons, length_nil, length_take, length_drop, ↓reduceIte, reduceEqDiff]; first | done | omega) | exact Nat.le_of_ble_eq_true rfl | ((repeat (first | assumption | apply Byt.drop | apply Byt.take)); done) | fail) only [go_sem, ↓reduceIte, reduceEqDiff, reduceLeDiff, reduceLT, reduceAdd, reduceMul, reduceSub, reduceMod, reducePow, reduceDiv, reduceOr, reduceShiftLeft, Nat.reduceBEq, reduceGT, reduceSucc, accV, accO, frow, rdr, cnone, f35]
      refine ⟨_, rfl, ?_⟩
      simp only [Behind, InBlk, Cut, if_true, ↓reduceIte]
      refine k.ev ?_
      simp (disch := first | assumption | omega | rfl | (simp only [sxP, Bool.and_self, length_cons, length_nil, length_take, length_drop, ↓reduceIte, reduceEqDiff]; first | done | omega) | exact Nat.le_of_ble_eq_true rfl | ((repeat (first | assumption | apply Byt.drop | apply Byt.take)); done) | fail) only [go_sem, ↓reduceIte, reduceEqDiff, reduceLeDiff, reduceLT, reduceAdd, reduceMul, reduceSub, reduceMod, reducePow, reduceDiv, reduceOr, reduceShiftLeft, Nat.reduceBEq, reduceGT, reduceSucc]
      refine ⟨_, rfl, ?_⟩
      simp only [Behind, InBlk, Cut, if_true, ↓reduceIte]
      apply fin_of (Or.inr rfl)
      iterate 5 (simp (disch := first | assumption | omega | rfl | (simp only [sxP, Bool.and_self, length_cons, length_nil, length_take, length_drop, ↓reduceIte, reduceEqDiff]; first | done | omega) | exact Nat.le_of_ble_eq_true rfl | ((repeat (first | assumption | apply Byt.drop | apply Byt.take)); done) | fail) only [go_sem, ↓reduceIte, reduceEqDiff, reduceLeDiff, reduceLT, reduceAdd, reduceMul, reduceSub, reduceMod, reducePow, reduceDiv, reduceOr, reduceShiftLeft, Nat.reduceBEq, reduceGT, reduceSucc, frow, rdr, fault0, cellsTs_wk] <;> exact rfl)
end Go.Proofs.YthcmnajcjapjbaaGreatDoor.Ev

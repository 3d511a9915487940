/- By symbolic evaluation, for every datum: what the program's 'List' answers. No conditions but what is said of the memory. -/
import Derived.Test.YtagpffdamckekaaGreatDoorTRList
import Derived.Test.YtagpffdamckekaaGreatDoorEvG
namespace Go.Proofs.YtagpffdamckekaaGreatDoor.Ev
open T
set_option maxRecDepth 100000

theorem vLL_k (tm : Trie AV) (s : St) (l m : List Opd) (f : List AV → List AV → Option AV) {a b : List AV} (h1 : evL tm l = some a) (h2 : evL tm m = some b) : vLL tm s l m f = ret1 s (f a b) := by
  unfold vLL; rw [h1, h2]
theorem evCv_yld (S : Self) (l : Nat) (vs : List AV) (s : St) : evCv S (some (.yld l)) (some vs) s = S.round l vs s := rfl
theorem oBsl_some' (s : St) (e len : Nat) (cs : List AV) : oBsl s e len (some cs) = some (.sl s.next 0 len (.fix len), s.alloc (.row e cs false false)) := rfl
theorem le_old {s s' : St} {H : List Nat} (hok : Ok s) {b L : Nat} (hb : b ∈ H) (hL : rowO (s.get L) = none) (h : ∀ id, id < s.next → id ≠ b → id ≠ L → s'.get id = s.get id) : Le (hd H s.get) (hd H s'.get) := Le.hd fun id cs e hr => by
  obtain ⟨x, hx⟩ := rowO_some hr
  have h1 : id ≠ b := fun he => by subst he; exact e hb
  have h2 : id ≠ L := fun he => by subst he; rw [hL] at hr; cases hr
  rw [h id (hok.lt hx) h1 h2]; exact hr

theorem cells_scal {v : AV} (h : scal v = true) : v.cells = [v] := by cases v <;> first | rfl | cases h

/-- Backward: a function over a box of the slice -/
theorem back_ok {E : Env} {O : List Nat} (hE : E.funs.get 14 = some f14) (hO : memN 14 O = false) (n : Nat) {s : St} (hok : Ok s) {kv : AV} (hk : scal kv = true) :
    (evT E O (n + 1)).call 14 [kv] s = some (.fn 22 [] [.ptr s.next 0], s.alloc (.row 22 [kv] false false)) := by
  rw [evT_call hO hE, callF_of hE]
  have hc := cells_scal hk
  simp (disch := first | omega | (simp only [next_alloc, next_put] <;> omega) | (repeat (first | assumption | apply Ok.alloc | apply Ok.put))) only [callB, ble_d, lenN, evC_seq, evC_reg, evS_cons, evS_nil, stepS_n, bindS_some, stS_some, setDst_some, evOp_mv, evOp_box, o1_k, v1_k, opd_t, opd_c, Trie.get_set, setArgs, k1_some, b1_some, oBox_eq, ret1_some, normR_some, thenR_norm, ↓reduceIte, decide_true, cond_true, Nat.zero_add, Nat.succ_eq_add_one, Nat.reduceLeDiff, f14, evOp_mfn, hc]
  rw [vLL_k _ _ _ _ _ (evL_nil _) (show evL _ [Opd.t 1] = some [.ptr s.next 0] by simp (disch := first | omega | (simp only [next_alloc, next_put] <;> omega) | (repeat (first | assumption | apply Ok.alloc | apply Ok.put))) only [opd_t, Trie.get_set, evL_nil, evL_cons, consO_some, ↓reduceIte, Nat.reduceEqDiff, ])]
  simp (disch := first | omega | (simp only [next_alloc, next_put] <;> omega) | (repeat (first | assumption | apply Ok.alloc | apply Ok.put))) only [callEnd_ret, resE_t, evC_ret, evS_cons, evS_nil, stepS_n, bindS_some, stS_some, setDst_some, evOp_mv, v1_k, opd_t, Trie.get_set, k1_some, ret1_some, normR_some, thenR_norm, ↓reduceIte, ]

/-- what a round does: the body -/
theorem li_body {E : Env} {S : Self} {rd : Option Nat} {s : St} {tm : Trie AV} {q b : Nat} {x cur : DT} {G : Nat → Option AObj} {cx ce : List AV} (hok : Ok s) (g6 : tm.get 6 = some (.ptr q 0)) (g3 : tm.get 3 = some (.ptr b 0)) (hq : s.get q = some (.row 24 cx false false)) (hb : s.get b = some (.row 24 ce false false)) (hx : Rep G x cx) (hc : Rep G cur ce) :
    ∃ tm', evC E S rd bLI ⟨tm, []⟩ s = some (.norm, ⟨tm', []⟩, (s.alloc (.row 24 (cx ++ ce) false false)).put b (.row 24 [.int .i64 6, .int .i64 0, .str [], .sl s.next 0 2 (.fix 2), .int .i64 x.pos] false false)) := by
  obtain ⟨k1, n1, t1, kv1, rfl, _⟩ := hx.parts
  obtain ⟨k2, n2, t2, kv2, rfl, _⟩ := hc.parts
  have hqA : ∀ o, (s.alloc o).get q = some (.row 24 [.int .i64 k1, .int .i64 n1, .str t1, kv1, .int .i64 x.pos] false false) := fun o => by rw [get_alloc_old _ _ (by have := hok.lt hq; omega)]; exact hq
  have hbA : ∀ o, (s.alloc o).get b = some (.row 24 [.int .i64 k2, .int .i64 n2, .str t2, kv2, .int .i64 cur.pos] false false) := fun o => by rw [get_alloc_old _ _ (by have := hok.lt hb; omega)]; exact hb
  simp (disch := first | omega | (simp only [next_alloc, next_put] <;> omega) | (repeat (first | assumption | apply Ok.alloc | apply Ok.put))) only [aggO_some, ble_d, beq_d, lenN, evC_reg, evC_block, evS_cons, evS_nil, stepS_n, bindS_some, stS_some, setDst_some, setDst_none, evOp_build, evOp_bsl, evOp_ld, evOp_ldn, evOp_st, evOp_fa, o2_k, v1_k, opd_t, opd_c, Trie.get_set, k1_some, b2_some, ret1_some, vFa_ptr, normR_some, blockR_norm, headV_cons, cut_cons, takeN, dropN, ↓reduceIte, decide_true, Bool.and_true, cond_true, Nat.zero_add, Nat.succ_eq_add_one, Nat.reduceEqDiff, Nat.reduceLeDiff, Nat.reduceAdd, Int.ofNat_eq_natCast, Int.cast_ofNat_Int, rowO_row, cutO_some, headO_some, vLd_get, vLdn_get, putO_some, stO_row, oSt_get, allScal, scal, paste, over, bLI, g6, g3, hq, hb, fillC, oBsl_some', hqA, hbA, AV.cells, List.cons_append, List.nil_append]
  exact ⟨_, rfl⟩
/-- the state of the loop -/
structure LiSt (s : St) (H : List Nat) (b L : Nat) (tm0 : Trie AV) (dd : Nat) (cur : DT) (ce : List AV) : Prop where
  ok : Ok s
  hb : s.get b = some (.row 24 ce false false)
  hL : s.get L = some (.loop .ready none tm0 [9, 10] aLI bLI dd)
  bH : b ∈ H
  hH : ∀ x ∈ H, x < s.next
  t3 : tm0.get 3 = some (.ptr b 0)
  cur : Rep (hd H s.get) cur ce

theorem li_round {E : Env} {O : List Nat} {n : Nat} {s : St} {H : List Nat} {b L dd : Nat} {tm0 : Trie AV} {x cur : DT} {cx ce : List AV} (v0 : AV) (h : LiSt s H b L tm0 dd cur ce) (hx : Rep (hd H s.get) x cx) :
    ∃ s' ce', (evT E O (n + 1)).round L [v0, .agg cx] s = some (.bool true, s') ∧ LiSt s' H b L tm0 dd (pairF x cur) ce' ∧ s.next ≤ s'.next ∧ (∀ id, id < s.next → id ≠ b → id ≠ L → s'.get id = s.get id) ∧ ∀ m, m ≤ b → m ≤ L → m ≤ s.next → KeepB m s s' := by
  have hok := h.ok
  have lb := hok.lt h.hb
  have lL := hok.lt h.hL
  have hl5 := hx.length
  have hsc := hx.scal
  have hbL : b ≠ L := fun e => by have := h.hb; rw [e, h.hL] at this; cases this
  have hpaste : paste [.int .i64 (.ofNat 0), .int .i64 (.ofNat 0), .str [], .nils, .int .i64 (.ofNat 0)] 0 cx = some cx := by
    obtain ⟨k', n', t', kv', hce, _⟩ := hx.parts
    rw [hce]; rfl
  -- the assignment
  obtain ⟨sA, hsA⟩ : ∃ sA, sA = s.alloc (.row 24 [.int .i64 (.ofNat 0), .int .i64 (.ofNat 0), .str [], .nils, .int .i64 (.ofNat 0)] false false) := ⟨_, rfl⟩
  have okA : Ok sA := by rw [hsA]; exact hok.alloc _
  have gA : sA.get s.next = some (.row 24 [.int .i64 (.ofNat 0), .int .i64 (.ofNat 0), .str [], .nils, .int .i64 (.ofNat 0)] false false) := by rw [hsA]; exact get_alloc_new hok _
  have nA : sA.next = s.next + 1 := by rw [hsA]; rfl
  have oldA : ∀ id, id < s.next → sA.get id = s.get id := fun id hid => by rw [hsA, get_alloc_old _ _ (by omega)]
  have hasg : ∃ tm1, evC E (evT E O n) (some L) aLI ⟨(tm0.set 9 v0).set 10 (.agg cx), []⟩ s = some (.norm, ⟨tm1, []⟩, sA.put s.next (.row 24 cx false false)) ∧ tm1.get 3 = some (.ptr b 0) ∧ tm1.get 6 = some (.ptr s.next 0) := by
    have hl5' : lenN cx = 5 := by rw [lenN_eq]; exact hl5
    have hover : over [.int .i64 0, .int .i64 0, .str [], .nils, .int .i64 0] cx = some cx := hpaste
    simp (disch := first | omega | (simp only [next_alloc, next_put] <;> omega) | (repeat (first | assumption | apply Ok.alloc | apply Ok.put))) only [beq_d, evC_reg, evS_cons, evS_nil, stepS_n, bindS_some, stS_some, setDst_some, setDst_none, evOp_alloc, evOp_st, o2_k, opd_t, Trie.get_set, b2_some, oAlloc_eq, cells_agg, normR_some, ↓reduceIte, decide_true, Bool.and_true, cond_true, Nat.reduceEqDiff, Int.ofNat_eq_natCast, Int.cast_ofNat_Int, putO_some, stO_row, oSt_get, get_alloc_at, paste, aLI, hl5', hsc, hover]
    refine ⟨_, by rw [hsA]; rfl, ?_, ?_⟩ <;> simp (disch := first | omega | (simp only [next_alloc, next_put] <;> omega) | (repeat (first | assumption | apply Ok.alloc | apply Ok.put))) only [Trie.get_set, ↓reduceIte, Nat.reduceEqDiff, h.t3]
  obtain ⟨tm1, e1, u3, u6⟩ := hasg
  obtain ⟨sB, hsB⟩ : ∃ sB, sB = sA.put s.next (.row 24 cx false false) := ⟨_, rfl⟩
  have okB : Ok sB := by rw [hsB]; exact okA.put (by omega)
  have gB : sB.get s.next = some (.row 24 cx false false) := by rw [hsB]; exact get_put_new gA
  have nB : sB.next = s.next + 1 := by rw [hsB]; exact nA
  have oldB : ∀ id, id < s.next → sB.get id = s.get id := fun id hid => by rw [hsB, get_put_old _ _ (by omega), oldA id hid]
  have hLB : sB.get L = some (.loop .ready none tm0 [9, 10] aLI bLI dd) := by rw [oldB L lL]; exact h.hL
  rw [← hsB] at e1
  -- busy
  obtain ⟨sC, hsC⟩ : ∃ sC, sC = sB.put L (.loop .busy none tm0 [9, 10] aLI bLI dd) := ⟨_, rfl⟩
  have okC : Ok sC := by rw [hsC]; exact okB.put (okB.lt hLB)
  have nC : sC.next = s.next + 1 := by rw [hsC]; exact nB
  have oldC : ∀ id, id < s.next → id ≠ L → sC.get id = s.get id := fun id hid hne => by rw [hsC, get_put_old _ _ hne, oldB id hid]
  have gC : sC.get s.next = some (.row 24 cx false false) := by rw [hsC, get_put_old _ _ (by omega)]; exact gB
  have hLC : sC.get L = some (.loop .busy none tm0 [9, 10] aLI bLI dd) := by rw [hsC]; exact get_put_new hLB
  have hbC : sC.get b = some (.row 24 ce false false) := by rw [oldC b lb hbL]; exact h.hb
  -- the body
  obtain ⟨tm2, e2⟩ := li_body (E := E) (S := evT E O n) (rd := some L) okC u6 u3 gC hbC hx h.cur
  obtain ⟨sD, hsD⟩ : ∃ sD, sD = (sC.alloc (.row 24 (cx ++ ce) false false)).put b (.row 24 [.int .i64 6, .int .i64 0, .str [], .sl sC.next 0 2 (.fix 2), .int .i64 x.pos] false false) := ⟨_, rfl⟩
  have hbD' : (sC.alloc (.row 24 (cx ++ ce) false false)).get b = some (.row 24 ce false false) := by rw [get_alloc_old _ _ (by omega)]; exact hbC
  have okD : Ok sD := by rw [hsD]; exact (okC.alloc _).put (by rw [next_alloc]; omega)
  have nD : sD.next = s.next + 2 := by rw [hsD]; show sC.next + 1 = _; omega
  have oldD : ∀ id, id < s.next → id ≠ b → id ≠ L → sD.get id = s.get id := fun id hid h1 h2 => by rw [hsD, get_put_old _ _ h1, get_alloc_old _ _ (by omega), oldC id hid h2]
  have hbD : sD.get b = some (.row 24 [.int .i64 6, .int .i64 0, .str [], .sl sC.next 0 2 (.fix 2), .int .i64 x.pos] false false) := by rw [hsD]; exact get_put_new hbD'
  have hLD : sD.get L = some (.loop .busy none tm0 [9, 10] aLI bLI dd) := by rw [hsD, get_put_old _ _ (Ne.symm hbL), get_alloc_old _ _ (by omega)]; exact hLC
  have hnD : sD.get (s.next + 1) = some (.row 24 (cx ++ ce) false false) := by
    rw [hsD, get_put_old _ _ (by omega), ← nC]; exact get_alloc_new okC _
  rw [← hsD] at e2
  -- ready
  obtain ⟨sE, hsE⟩ : ∃ sE, sE = sD.put L (.loop .ready none tm0 [9, 10] aLI bLI dd) := ⟨_, rfl⟩
  have okE : Ok sE := by rw [hsE]; exact okD.put (okD.lt hLD)
  have nE : sE.next = s.next + 2 := by rw [hsE]; exact nD
  have oldE : ∀ id, id < s.next → id ≠ b → id ≠ L → sE.get id = s.get id := fun id hid h1 h2 => by rw [hsE, get_put_old _ _ h2, oldD id hid h1 h2]
  have hbE : sE.get b = some (.row 24 [.int .i64 6, .int .i64 0, .str [], .sl sC.next 0 2 (.fix 2), .int .i64 x.pos] false false) := by rw [hsE, get_put_old _ _ hbL]; exact hbD
  have hLE : sE.get L = some (.loop .ready none tm0 [9, 10] aLI bLI dd) := by rw [hsE]; exact get_put_new hLD
  have hnE : sE.get (s.next + 1) = some (.row 24 (cx ++ ce) false false) := by rw [hsE, get_put_old _ _ (by omega)]; exact hnD
  have hle : Le (hd H s.get) (hd H sE.get) := le_old hok h.bH (by rw [h.hL]; rfl) oldE
  refine ⟨sE, _, ?_, ⟨okE, hbE, hLE, h.bH, fun y hy => by have := h.hH y hy; omega, h.t3, ?_⟩, by omega, oldE, fun m h1 h2 h3 => ?_⟩
  · rw [evT_round]
    unfold roundF
    rw [h.hL]
    show (match setPs tm0 [9, 10] [v0, .agg cx] with | some tm1 => roundBody E (evT E O n) L bLI (evC E (evT E O n) (some L) aLI { tm := tm1, df := [] } s) | none => none) = _
    show roundBody E (evT E O n) L bLI (evC E (evT E O n) (some L) aLI ⟨(tm0.set 9 v0).set 10 (.agg cx), []⟩ s) = _
    rw [e1]
    unfold roundBody
    simp only [hLB]
    rw [← hsC, e2]
    unfold roundEnd
    simp only [hLD]
    rw [← hsE]
  · have hid : hd H sE.get (s.next + 1) = some (.row 24 (cx ++ ce) false false) := by
      unfold hd
      rw [if_neg (fun hm => by have := h.hH _ hm; omega)]; exact hnE
    rw [nC]
    exact Rep.pair (Rep.mono hle _ _ hx) (Rep.mono hle _ _ h.cur) hid
  · rw [hsE, hsD, hsC, hsB, hsA]
    exact ((((((KeepB.refl m s).alloc _ h3).put _ _ h3).put L _ h2).alloc _ (by show m ≤ s.next + 1; omega)).put b _ h1).put L _ h2

theorem li_loop {E : Env} {O : List Nat} {H : List Nat} {b L dd bx : Nat} {tm0 : Trie AV} {kv : AV} (ds : List DT) : ∀ (k : Nat), k ≤ ds.length → ∀ n, k + 1 ≤ n → ∀ (s : St) (tm : Trie AV) (cells ce : List AV) (cur : DT), LiSt s H b L tm0 dd cur ce → SlAt (hd H s.get) kv ds cells → s.get bx = some (.row 22 [kv] false false) → bx ≠ b →
    tm.get 0 = some (.yld L) → tm.get 1 = some (.ptr bx 0) → tm.get 3 = some (.int .i64 ((k : Int) - 1)) →
    ∃ tm' s' ce', evC E (evT E O n) none (.loop b22_0) ⟨tm, []⟩ s = some (.exit 0, ⟨tm', []⟩, s') ∧ LiSt s' H b L tm0 dd (listF (ds.take k) cur) ce' ∧ s.next ≤ s'.next ∧ (∀ id, id < s.next → id ≠ b → id ≠ L → s'.get id = s.get id) ∧ ∀ m, m ≤ b → m ≤ L → m ≤ s.next → KeepB m s s'
  | 0, _, n, _, s, tm, cells, ce, cur, h, hsl, hbx, hne, g0, g1, g3 => by
    have hA : ∃ tm', evC E (evT E O n) none A22 ⟨tm, []⟩ s = some (.exit 0, ⟨tm', []⟩, s) := by
      have h0 : (((0 : Nat) : Int) - 1 < 0) := by decide
      simp (disch := first | omega | (simp only [next_alloc, next_put] <;> omega) | (repeat (first | assumption | apply Ok.alloc | apply Ok.put))) only [evC_seq, evC_reg, evC_cond, evS_cons, evS_nil, stepS_n, bindS_some, stS_some, setDst_some, evOp_mv, evOp_bin, v1_k, v2_k, opd_t, opd_c, Trie.get_set, k1_some, k2_some, ret1_some, normR_some, thenR_norm, vBin_int, binI_geq, ↓reduceIte, Int.ofNat_eq_natCast, Int.cast_ofNat_Int, A22, g3]
      exact ⟨_, rfl⟩
    obtain ⟨tm', e1⟩ := hA
    rw [evC_loop, b22_0_eq, evC_seq, e1, thenR_exit, thenR_exit]
    exact ⟨tm', s, ce, rfl, by simpa [listF] using h, Nat.le_refl _, fun _ _ _ _ => rfl, fun m _ _ _ => KeepB.refl _ _⟩
  | k + 1, hk, n, hn, s, tm, cells, ce, cur, h, hsl, hbx, hne, g0, g1, g3 => by
    have hki : ((k + 1 : Nat) : Int) - 1 = (k : Nat) := by omega
    rw [hki] at g3
    have hA : ∃ tm', evC E (evT E O n) none A22 ⟨tm, []⟩ s = some (.norm, ⟨tm', []⟩, s) ∧ tm'.get 0 = some (.yld L) ∧ tm'.get 1 = some (.ptr bx 0) ∧ tm'.get 3 = some (.int .i64 (k : Nat)) := by
      have h0 : ¬ ((k : Int) < 0) := by omega
      simp (disch := first | omega | (simp only [next_alloc, next_put] <;> omega) | (repeat (first | assumption | apply Ok.alloc | apply Ok.put))) only [evC_skip, evC_seq, evC_reg, evC_cond, evS_cons, evS_nil, stepS_n, bindS_some, stS_some, setDst_some, evOp_mv, evOp_bin, v1_k, v2_k, opd_t, opd_c, Trie.get_set, k1_some, k2_some, ret1_some, normR_some, thenR_norm, condR_t, vBin_int, binI_geq, ↓reduceIte, decide_false, Bool.not_false, Int.ofNat_eq_natCast, Int.cast_ofNat_Int, A22, g3, h0]
      refine ⟨_, rfl, ?_, ?_, ?_⟩ <;> simp (disch := first | omega | (simp only [next_alloc, next_put] <;> omega) | (repeat (first | assumption | apply Ok.alloc | apply Ok.put))) only [Trie.get_set, ↓reduceIte, Nat.reduceEqDiff, g0, g1, g3]
    obtain ⟨tm1, e1, a0, a1, a3⟩ := hA
    obtain ⟨id1, off1, cs1, cx, x1, x2', x3, x4, _⟩ := hsl.sl.at hsl.rep (show k < ds.length by omega)
    obtain ⟨hne1, x2⟩ := hd_get x2'
    obtain ⟨n, rfl⟩ : ∃ m, n = m + 1 := ⟨n - 1, by omega⟩
    obtain ⟨s2, ce2, r1, r2, r3, r4, r5⟩ := li_round (E := E) (O := O) (n := n) (.int .i64 (k : Nat)) h x4
    have hP : ∃ tm', evC E (evT E O (n + 1)) none P22 ⟨tm1, []⟩ s = some (.norm, ⟨tm', []⟩, s2) ∧ tm'.get 0 = some (.yld L) ∧ tm'.get 1 = some (.ptr bx 0) ∧ tm'.get 3 = some (.int .i64 (k : Nat)) := by
      simp (disch := first | omega | (simp only [next_alloc, next_put] <;> omega) | (repeat (first | assumption | apply Ok.alloc | apply Ok.put))) only [aggO_some, evC_skip, evC_seq, evC_reg, evC_cond, evC_block, evS_cons, evS_nil, stepS_n, bindS_some, stS_some, setDst_some, evOp_mv, evOp_ld, evOp_ldn, evOp_un, evOp_ia, v1_k, v2_k, opd_t, Trie.get_set, k1_some, k2_some, ret1_some, normR_some, thenR_norm, condR_f, blockR_norm, vUn_not, evL_nil, evL_cons, consO_some, headV_cons, cut_cons, takeN, dropN, ↓reduceIte, Bool.not_true, Nat.reduceEqDiff, rowO_row, cutO_some, headO_some, vLd_get, vLdn_get, P22, a0, a1, a3, hbx, x1, x2, x3, evOp_cv, evCv_yld, r1]
      refine ⟨_, rfl, ?_, ?_, ?_⟩ <;> simp (disch := first | omega | (simp only [next_alloc, next_put] <;> omega) | (repeat (first | assumption | apply Ok.alloc | apply Ok.put))) only [Trie.get_set, ↓reduceIte, Nat.reduceEqDiff, a0, a1, a3]
    obtain ⟨tm2, p1, p0, p2, p3⟩ := hP
    have hlt := hsl.sl.lt
    have hw : IntKind.wrap .i64 ((k : Int) - 1) = (k : Int) - 1 := wrap_id (by omega) (by omega)
    have hI : ∃ tm', evC E (evT E O (n + 1)) none I22 ⟨tm2, []⟩ s2 = some (.norm, ⟨tm', []⟩, s2) ∧ tm'.get 0 = some (.yld L) ∧ tm'.get 1 = some (.ptr bx 0) ∧ tm'.get 3 = some (.int .i64 ((k : Int) - 1)) := by
      simp (disch := first | omega | (simp only [next_alloc, next_put] <;> omega) | (repeat (first | assumption | apply Ok.alloc | apply Ok.put))) only [evC_reg, evS_cons, evS_nil, stepS_n, bindS_some, stS_some, setDst_some, evOp_mv, evOp_bin, v1_k, v2_k, opd_t, opd_c, Trie.get_set, k1_some, k2_some, ret1_some, normR_some, vBin_int, binI_sub, ↓reduceIte, Int.ofNat_eq_natCast, Int.cast_ofNat_Int, I22, p3, hw]
      refine ⟨_, rfl, ?_, ?_, ?_⟩ <;> simp (disch := first | omega | (simp only [next_alloc, next_put] <;> omega) | (repeat (first | assumption | apply Ok.alloc | apply Ok.put))) only [Trie.get_set, ↓reduceIte, Nat.reduceEqDiff, p0, p2]
    obtain ⟨tm3, i1, i0, i2, i3⟩ := hI
    have hbody : evC E (evT E O (n + 1)) none b22_0 ⟨tm, []⟩ s = some (.norm, ⟨tm3, []⟩, s2) := by
      rw [b22_0_eq, evC_seq, e1, thenR_norm, evC_seq, p1, thenR_norm, i1]
    rw [evC_loop, hbody, thenR_norm, evT_loop]
    have hle : Le (hd H s.get) (hd H s2.get) := le_old h.ok h.bH (by rw [h.hL]; rfl) r4
    have hbxL : bx ≠ L := fun e => by rw [e, h.hL] at hbx; cases hbx
    obtain ⟨tm4, s4, ce4, q1, q2, q3, q4, q5⟩ := li_loop ds k (by omega) n (by omega) s2 tm3 cells ce2 (pairF ds[k] cur) r2 (hsl.mono hle) (by rw [r4 bx (h.ok.lt hbx) hne hbxL]; exact hbx) hne i0 i2 i3
    refine ⟨tm4, s4, ce4, q1, ?_, by omega, fun id h1 h2 h3 => (q4 id (by omega) h2 h3).trans (r4 id h1 h2 h3), fun m h1 h2 h3 => (r5 m h1 h2 h3).trans (q5 m h1 h2 (by omega))⟩
    rw [listF_take (by omega)]; exact q2

/-- Backward's function, over the rounds -/
theorem li_call {E : Env} {O : List Nat} (hE : E.funs.get 22 = some f22) (hO : memN 22 O = false) {H : List Nat} {b L dd bx : Nat} {tm0 : Trie AV} {kv : AV} (ds : List DT) {n : Nat} (hn : ds.length + 2 ≤ n) {s : St} {cells ce : List AV} {cur : DT} (h : LiSt s H b L tm0 dd cur ce) (hsl : SlAt (hd H s.get) kv ds cells) (hbx : s.get bx = some (.row 22 [kv] false false)) (hne : bx ≠ b) :
    ∃ s' ce', (evT E O n).call 22 [.yld L, .ptr bx 0] s = some (.tup [], s') ∧ LiSt s' H b L tm0 dd (listF ds cur) ce' ∧ s.next ≤ s'.next ∧ (∀ id, id < s.next → id ≠ b → id ≠ L → s'.get id = s.get id) ∧ ∀ m, m ≤ b → m ≤ L → m ≤ s.next → KeepB m s s' := by
  obtain ⟨n, rfl⟩ : ∃ m, n = m + 1 := ⟨n - 1, by omega⟩
  rw [evT_call hO hE, callF_of hE]
  have hlt := hsl.sl.lt
  have hw : IntKind.wrap .i64 ((ds.length : Int) - 1) = (ds.length : Int) - 1 := wrap_id (by omega) (by omega)
  have hR : ∃ tm', evC E (evT E O n) none R22_0 ⟨setArgs .leaf 0 [.yld L, .ptr bx 0], []⟩ s = some (.norm, ⟨tm', []⟩, s) ∧ tm'.get 0 = some (.yld L) ∧ tm'.get 1 = some (.ptr bx 0) ∧ tm'.get 3 = some (.int .i64 ((ds.length : Int) - 1)) := by
    simp (disch := first | omega | (simp only [next_alloc, next_put] <;> omega) | (repeat (first | assumption | apply Ok.alloc | apply Ok.put))) only [evC_reg, evS_cons, evS_nil, stepS_n, bindS_some, stS_some, setDst_some, evOp_mv, evOp_ld, evOp_bin, evOp_len, v1_k, v2_k, opd_t, opd_c, Trie.get_set, setArgs, k1_some, k2_some, ret1_some, normR_some, vBin_int, binI_sub, headV_cons, cut_cons, takeN, dropN, ↓reduceIte, Nat.zero_add, Nat.succ_eq_add_one, Int.ofNat_eq_natCast, Int.cast_ofNat_Int, rowO_row, cutO_some, headO_some, vLd_get, R22_0, hbx, hsl.sl.len, hw]
    refine ⟨_, rfl, ?_, ?_, ?_⟩ <;> simp (disch := first | omega | (simp only [next_alloc, next_put] <;> omega) | (repeat (first | assumption | apply Ok.alloc | apply Ok.put))) only [Trie.get_set, ↓reduceIte, Nat.reduceEqDiff, ]
  obtain ⟨tm1, e0, e1, e2, e3⟩ := hR
  obtain ⟨tm4, s4, ce4, q1, q2, q3, q4, q5⟩ := li_loop (E := E) (O := O) ds ds.length (Nat.le_refl _) n (by omega) s tm1 cells ce cur h hsl hbx hne e1 e2 e3
  rw [List.take_length] at q2
  refine ⟨s4, ce4, ?_, q2, q3, q4, q5⟩
  rw [f22_eq, callB]
  simp only [lenN, ble_d, Nat.succ_eq_add_one, Nat.zero_add, Nat.reduceAdd, Nat.reduceLeDiff, decide_true, cond_true]
  rw [evC_seq, e0, thenR_norm, evC_block, q1, blockR_exit, if_pos rfl, callEnd_norm, resE_0]

theorem callEnd_df {G : List (List AV)} {res : List RV} {tm : Trie AV} {s : St} {d : Nat} (h : s.get d = some .dfd) : callEnd G res (some (.ret, ⟨tm, [d]⟩, s)) = resE G tm (s.put d .dfd0) res := by
  show (match takeMarks s [d] with | some s => resE G tm s res | none => none) = _
  unfold takeMarks
  rw [h]; rfl

theorem list_ok {E : Env} {O : List Nat} (hE6 : E.funs.get 6 = some f6) (hO6 : memN 6 O = false) (hE14 : E.funs.get 14 = some f14) (hO14 : memN 14 O = false) (hE22 : E.funs.get 22 = some f22) (hO22 : memN 22 O = false) (ds : List DT) (d : DT) : ListOk E O 6 ds d := by
  refine ⟨ds.length + 3, fun n hn s kv cells cs hok hsl hrep => ?_⟩
  obtain ⟨n, rfl⟩ : ∃ m, n = m + 1 := ⟨n - 1, by omega⟩
  rw [evT_call hO6 hE6, callF_of hE6]
  have hkv : scal kv = true := by
    rcases hsl.sl.is with ⟨_, _, h | h⟩ | ⟨id, off, c, cs, h, _⟩ <;> subst h <;> rfl
  -- the boxes
  have ok1 := hok.alloc (.row 24 cs false false)
  obtain ⟨s2, hs2⟩ : ∃ s2, s2 = (s.alloc (.row 24 cs false false)).alloc (.row 24 [.int .i64 0, .int .i64 0, .str [], .nils, .int .i64 0] false false) := ⟨_, rfl⟩
  have ok2 : Ok s2 := by rw [hs2]; exact ok1.alloc _
  have n2 : s2.next = s.next + 2 := by rw [hs2]; rfl
  have k2 : Keep s s2 := by rw [hs2]; exact ((KeepB.refl _ _).alloc _ (Nat.le_refl _)).alloc _ (by rw [next_alloc]; omega)
  have g2b : s2.get s.next = some (.row 24 cs false false) := by rw [hs2, get_alloc_old _ _ (by rw [next_alloc]; omega)]; exact get_alloc_new hok _
  have g2r : s2.get (s.next + 1) = some (.row 24 [.int .i64 0, .int .i64 0, .str [], .nils, .int .i64 0] false false) := by rw [hs2]; exact get_alloc_new ok1 _
  have hbs : ∃ tm0, evC E (evT E O n) none RLI0 ⟨setArgs .leaf 0 [kv, .agg cs], []⟩ s = some (.norm, ⟨tm0, []⟩, s2) ∧ tm0.get 0 = some kv ∧ tm0.get 3 = some (.ptr s.next 0) ∧ tm0.get 4 = some (.ptr (s.next + 1) 0) := by
    simp (disch := first | omega | (simp only [next_alloc, next_put] <;> omega) | (repeat (first | assumption | apply Ok.alloc | apply Ok.put))) only [evC_reg, evS_cons, evS_nil, stepS_n, bindS_some, stS_some, setDst_some, evOp_alloc, evOp_box, o1_k, opd_t, Trie.get_set, setArgs, b1_some, oBox_eq, oAlloc_eq, cells_agg, normR_some, ↓reduceIte, Nat.zero_add, Nat.succ_eq_add_one, Int.ofNat_eq_natCast, Int.cast_ofNat_Int, next_alloc, RLI0]
    refine ⟨_, by rw [hs2], ?_, ?_, ?_⟩ <;> simp (disch := first | omega | (simp only [next_alloc, next_put] <;> omega) | (repeat (first | assumption | apply Ok.alloc | apply Ok.put))) only [Trie.get_set, ↓reduceIte, Nat.reduceEqDiff, ]
  obtain ⟨tm0, e0, t0, t3, t4⟩ := hbs
  -- Backward
  obtain ⟨m, rfl⟩ : ∃ m, n = m + 1 := ⟨n - 1, by omega⟩
  have hback := back_ok (E := E) (O := O) hE14 hO14 m ok2 hkv
  obtain ⟨s3, hs3⟩ : ∃ s3, s3 = s2.alloc (.row 22 [kv] false false) := ⟨_, rfl⟩
  rw [← hs3, n2] at hback
  have ok3 : Ok s3 := by rw [hs3]; exact ok2.alloc _
  have n3 : s3.next = s.next + 3 := by rw [hs3]; show s2.next + 1 = _; omega
  have old3 : ∀ id, id < s2.next → s3.get id = s2.get id := fun id hid => by rw [hs3, get_alloc_old _ _ (by omega)]
  have g3x : s3.get (s.next + 2) = some (.row 22 [kv] false false) := by rw [hs3, ← n2]; exact get_alloc_new ok2 _
  have k3 : Keep s s3 := by rw [hs3]; exact k2.alloc _ (by omega)
  have hR1 : ∃ tm1, evC E (evT E O (m + 1)) none RLI1 ⟨tm0, []⟩ s2 = some (.norm, ⟨tm1, []⟩, s3) ∧ tm1.get 3 = some (.ptr s.next 0) ∧ tm1.get 4 = some (.ptr (s.next + 1) 0) ∧ tm1.get 8 = some (.fn 22 [] [.ptr (s.next + 2) 0]) := by
    simp (disch := first | omega | (simp only [next_alloc, next_put] <;> omega) | (repeat (first | assumption | apply Ok.alloc | apply Ok.put))) only [evC_reg, evS_cons, evS_nil, stepS_n, bindS_some, stS_some, setDst_some, evOp_mv, evOp_call, v1_k, opd_t, Trie.get_set, k1_some, ret1_some, normR_some, evL_nil, evL_cons, consO_some, evCl_some, ↓reduceIte, RLI1, t0, hback]
    refine ⟨_, rfl, ?_, ?_, ?_⟩ <;> simp (disch := first | omega | (simp only [next_alloc, next_put] <;> omega) | (repeat (first | assumption | apply Ok.alloc | apply Ok.put))) only [Trie.get_set, ↓reduceIte, Nat.reduceEqDiff, t3, t4]
  obtain ⟨tm1, e1, u3, u4, u8⟩ := hR1
  -- the loop's own blocks
  obtain ⟨s4, hs4⟩ : ∃ s4, s4 = (s3.alloc .dfd).alloc (.loop .ready none tm1 [9, 10] aLI bLI s3.next) := ⟨_, rfl⟩
  have ok3a := ok3.alloc .dfd
  have ok4 : Ok s4 := by rw [hs4]; exact ok3a.alloc _
  have n4 : s4.next = s.next + 5 := by rw [hs4]; show s3.next + 1 + 1 = _; omega
  have old4 : ∀ id, id < s3.next → s4.get id = s3.get id := fun id hid => by rw [hs4, get_alloc_old _ _ (by rw [next_alloc]; omega), get_alloc_old _ _ (by omega)]
  have g4d : s4.get (s.next + 3) = some .dfd := by rw [hs4, get_alloc_old _ _ (by rw [next_alloc]; omega), ← n3]; exact get_alloc_new ok3 _
  have g4L : s4.get (s.next + 4) = some (.loop .ready none tm1 [9, 10] aLI bLI (s.next + 3)) := by
    have := get_alloc_new ok3a (.loop .ready none tm1 [9, 10] aLI bLI s3.next)
    rw [← hs4] at this
    rw [show (s3.alloc .dfd).next = s.next + 4 from by rw [next_alloc]; omega, n3] at this; exact this
  have k4 : Keep s s4 := by rw [hs4]; exact (k3.alloc _ (by omega)).alloc _ (by rw [next_alloc]; omega)
  have g4b : s4.get s.next = some (.row 24 cs false false) := by rw [old4 _ (by omega), old3 _ (by omega)]; exact g2b
  have g4r : s4.get (s.next + 1) = some (.row 24 [.int .i64 0, .int .i64 0, .str [], .nils, .int .i64 0] false false) := by rw [old4 _ (by omega), old3 _ (by omega)]; exact g2r
  have g4x : s4.get (s.next + 2) = some (.row 22 [kv] false false) := by rw [old4 _ (by omega)]; exact g3x
  have le4 : Le s.get (hd [s.next, s.next + 1] s4.get) := le_newer hok (KeepB.le k4 hok) (by simp)
  have hst : LiSt s4 [s.next, s.next + 1] s.next (s.next + 4) tm1 (s.next + 3) d cs := ⟨ok4, g4b, g4L, by simp, by simp; omega, u3, Rep.mono le4 _ _ hrep⟩
  obtain ⟨s5, ce5, r1, r2, r3, r4, r5⟩ := li_call (E := E) (O := O) hE22 hO22 ds (n := m + 1) (by omega) hst (hsl.mono le4) g4x (by omega)
  -- behind the loop
  have g5d : s5.get (s.next + 3) = some .dfd := by rw [r4 _ (by omega) (by omega) (by omega)]; exact g4d
  have g5r : s5.get (s.next + 1) = some (.row 24 [.int .i64 0, .int .i64 0, .str [], .nils, .int .i64 0] false false) := by rw [r4 _ (by omega) (by omega) (by omega)]; exact g4r
  obtain ⟨s6, hs6⟩ : ∃ s6, s6 = s5.put (s.next + 4) (.loop .exhausted none tm1 [9, 10] aLI bLI (s.next + 3)) := ⟨_, rfl⟩
  have ok6 : Ok s6 := by rw [hs6]; exact r2.ok.put (r2.ok.lt r2.hL)
  have old6 : ∀ id, id ≠ s.next + 4 → s6.get id = s5.get id := fun id hid => by rw [hs6, get_put_old _ _ hid]
  have hrf : evC E (evT E O (m + 1)) none (.block 0 (.rf (.t 8) [9, 10] aLI bLI)) ⟨tm1, []⟩ s3 = some (.norm, ⟨tm1, [s.next + 3]⟩, s6) := by
    rw [evC_block, evC_rf, opd_t, u8]
    show blockR 0 (rfEnd ⟨tm1, []⟩ (Nat.succ s3.next) s3.next ((evT E O (m + 1)).call 22 ([] ++ .yld (Nat.succ s3.next) :: [.ptr (s.next + 2) 0]) ((s3.alloc .dfd).alloc (.loop .ready none tm1 [9, 10] aLI bLI s3.next)))) = _
    rw [← hs4, n3]
    show blockR 0 (rfEnd ⟨tm1, []⟩ (s.next + 4) (s.next + 3) ((evT E O (m + 1)).call 22 [.yld (s.next + 4), .ptr (s.next + 2) 0] s4)) = _
    rw [r1]
    unfold rfEnd
    simp only [r2.hL]
    rw [← hs6]; rfl
  have l5 := r2.cur.length
  have sc5 := r2.cur.scal
  have hcut : cut ce5 0 5 = some ce5 := by rw [cut_eq (by omega), List.drop_zero, List.take_of_length_le (by omega)]
  have hl5' : lenN ce5 = 5 := by rw [lenN_eq]; exact l5
  have hover : over [.int .i64 0, .int .i64 0, .str [], .nils, .int .i64 0] ce5 = some ce5 := by
    obtain ⟨k', n', t', kv', hce, _⟩ := r2.cur.parts
    rw [hce]; rfl
  have g6b : s6.get s.next = some (.row 24 ce5 false false) := by rw [old6 _ (by omega)]; exact r2.hb
  have g6r : s6.get (s.next + 1) = some (.row 24 [.int .i64 0, .int .i64 0, .str [], .nils, .int .i64 0] false false) := by rw [old6 _ (by omega)]; exact g5r
  obtain ⟨s7, hs7⟩ : ∃ s7, s7 = s6.put (s.next + 1) (.row 24 ce5 false false) := ⟨_, rfl⟩
  have hF : ∃ tm', evC E (evT E O (m + 1)) none FLI ⟨tm1, [s.next + 3]⟩ s6 = some (.ret, ⟨tm', [s.next + 3]⟩, s7) ∧ tm'.get 4 = some (.ptr (s.next + 1) 0) := by
    simp (disch := first | omega | (simp only [next_alloc, next_put] <;> omega) | (repeat (first | assumption | apply Ok.alloc | apply Ok.put))) only [aggO_some, beq_d, evC_seq, evC_reg, evC_ret, evS_cons, evS_nil, stepS_n, bindS_some, stS_some, setDst_some, setDst_none, evOp_ldn, evOp_st, o2_k, v1_k, opd_t, Trie.get_set, k1_some, b2_some, ret1_some, cells_agg, normR_some, thenR_norm, ↓reduceIte, decide_true, Bool.and_true, cond_true, Nat.reduceEqDiff, rowO_row, cutO_some, vLdn_get, putO_some, stO_row, oSt_get, paste, FLI, u3, u4, g6b, g6r, hcut, hl5', sc5, hover]
    refine ⟨_, by rw [hs7], ?_⟩
    simp (disch := first | omega | (simp only [next_alloc, next_put] <;> omega) | (repeat (first | assumption | apply Ok.alloc | apply Ok.put))) only [Trie.get_set, ↓reduceIte, Nat.reduceEqDiff, u4]
  obtain ⟨tm5, f1, f4⟩ := hF
  have ok7 : Ok s7 := by rw [hs7]; exact ok6.put (ok6.lt g6r)
  have g7r : s7.get (s.next + 1) = some (.row 24 ce5 false false) := by rw [hs7]; exact get_put_new g6r
  have g7d : s7.get (s.next + 3) = some .dfd := by rw [hs7, get_put_old _ _ (by omega), old6 _ (by omega)]; exact g5d
  obtain ⟨s8, hs8⟩ : ∃ s8, s8 = s7.put (s.next + 3) .dfd0 := ⟨_, rfl⟩
  have ok8 : Ok s8 := by rw [hs8]; exact ok7.put (ok7.lt g7d)
  have g8r : s8.get (s.next + 1) = some (.row 24 ce5 false false) := by rw [hs8, get_put_old _ _ (by omega)]; exact g7r
  have k8 : Keep s s8 := by
    rw [hs8, hs7, hs6]
    exact (((k4.trans (r5 s.next (Nat.le_refl _) (by omega) (by omega))).put _ _ (by omega)).put _ _ (by omega)).put _ _ (by omega)
  have le8 : Le (hd [s.next, s.next + 1] s5.get) s8.get := fun id c hr => by
    obtain ⟨hni, hr⟩ := hd_get hr
    have h1 : id ≠ s.next + 1 := fun e => hni (by simp [e])
    have h3 : id ≠ s.next + 3 := fun e => by rw [e, g5d] at hr; cases hr
    have h4 : id ≠ s.next + 4 := fun e => by rw [e, r2.hL] at hr; cases hr
    rw [hs8, get_put_old _ _ h3, hs7, get_put_old _ _ h1, old6 _ h4]; exact hr
  rw [f6_eq, callB]
  simp only [lenN, ble_d, Nat.succ_eq_add_one, Nat.zero_add, Nat.reduceAdd, Nat.reduceLeDiff, decide_true, cond_true]
  rw [evC_seq, e0, thenR_norm, evC_seq, evC_seq, e1, thenR_norm, hrf, thenR_norm, f1, callEnd_df g7d, ← hs8, resE_cn, f4, aggK_some, loadC_get, g8r, rowO_row, cutO_some, hcut, aggO_some, k1_some, ret1_some]
  exact ⟨_, _, rfl, ok8, k8, ce5, rfl, Rep.mono le8 _ _ r2.cur⟩
end Go.Proofs.YtagpffdamckekaaGreatDoor.Ev

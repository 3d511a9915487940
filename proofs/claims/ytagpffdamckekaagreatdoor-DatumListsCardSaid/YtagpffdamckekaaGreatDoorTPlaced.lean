/- By symbolic evaluation, for every datum: 'Placed' of two readings of one datum answers true. No conditions but what is said of the memory. -/
import Derived.Test.YtagpffdamckekaaGreatDoorEvG
import Derived.Test.YtagpffdamckekaaGreatDoorBodDatumLists
namespace Go.Proofs.YtagpffdamckekaaGreatDoor.Ev
open T
set_option maxRecDepth 100000

def PlacedOk (E : Env) (O : List Nat) (d : DT) : Prop :=
  ∃ N, ∀ n, N ≤ n → ∀ (s : St) (c1 c2 : List AV), Ok s → Rep s.get d c1 → Rep s.get d c2 →
    Ret ((evT E O n).call 10 [.agg c1, .agg c2] s) fun v s' => v = .bool true ∧ Ok s' ∧ Keep s s'

structure BoxAt (s : St) (b : Nat) (k m p : Int) (t : List Nat) (kv : AV) (ks : List DT) (cells : List AV) : Prop where
  row : s.get b = some (.row 24 [.int .i64 k, .int .i64 m, .str t, kv, .int .i64 p] false false)
  sl : SliceOf s.get kv ks.length cells
  rep : RepL s.get ks cells
theorem BoxAt.keep {s s' : St} {b : Nat} {k m p : Int} {t : List Nat} {kv : AV} {ks : List DT} {cells : List AV} (h : BoxAt s b k m p t kv ks cells) (hok : Ok s) (hk : Keep s s') : BoxAt s' b k m p t kv ks cells :=
  ⟨by rw [KeepB.get hk (hok.lt h.row)]; exact h.row, h.sl.mono (KeepB.le hk hok), RepL.mono (KeepB.le hk hok) _ _ h.rep⟩

theorem placed_head {E : Env} {S : Self} {s : St} {tm : Trie AV} {b1 b2 : Nat} {k m p : Int} {t : List Nat} {kv1 kv2 : AV} {len : Nat} (h2 : tm.get 2 = some (.ptr b1 0)) (h3 : tm.get 3 = some (.ptr b2 0))
    (g1 : s.get b1 = some (.row 24 [.int .i64 k, .int .i64 m, .str t, kv1, .int .i64 p] false false)) (g2 : s.get b2 = some (.row 24 [.int .i64 k, .int .i64 m, .str t, kv2, .int .i64 p] false false))
    (l1 : ∀ s, vLen s .v kv1 = some (.int .i64 (len : Nat))) (l2 : ∀ s, vLen s .v kv2 = some (.int .i64 (len : Nat))) :
    ∃ tm', evC E S none HPL ⟨tm, []⟩ s = some (.norm, ⟨tm', []⟩, s) ∧ tm'.get 2 = some (.ptr b1 0) ∧ tm'.get 3 = some (.ptr b2 0) := by
  simp (disch := first | omega | (simp only [next_alloc, next_put] <;> omega) | (repeat (first | assumption | apply Ok.alloc | apply Ok.put))) only [evC_skip, evC_seq, evC_reg, evC_cond, evS_cons, evS_nil, stepS_n, stepS_g, bindS_some, stS_some, setDst_some, evOp_mv, evOp_pick, evOp_ld, evOp_bin, evOp_fa, evOp_len, v1_k, v2_k, opd_t, opd_c, Trie.get_set, k1_some, k2_some, ret1_some, vFa_ptr, normR_some, thenR_norm, condR_f, vBin_int, vBin_str, binI_neq, binS_neq, wantB_f, gstep_t, vPick_f, headV_cons, cut_cons, takeN, dropN, ↓reduceIte, decide_true, Bool.not_true, Bool.not_false, Nat.add_zero, Nat.zero_add, Nat.reduceEqDiff, rowO_row, cutO_some, headO_some, vLd_get, HPL, h2, h3, g1, g2, l1, l2]
  refine ⟨_, rfl, ?_, ?_⟩ <;> simp (disch := first | omega | (simp only [next_alloc, next_put] <;> omega) | (repeat (first | assumption | apply Ok.alloc | apply Ok.put))) only [Trie.get_set, ↓reduceIte, Nat.reduceEqDiff, h2, h3]

theorem placed_reg {E : Env} {S : Self} {s : St} {tm : Trie AV} {b1 b2 : Nat} {k1 m1 p1 k2 m2 p2 : Int} {t1 t2 : List Nat} {kv1 kv2 : AV} {ks : List DT} {cells1 cells2 : List AV} {i : Nat} (hok : Ok s) (h1 : BoxAt s b1 k1 m1 p1 t1 kv1 ks cells1) (h2 : BoxAt s b2 k2 m2 p2 t2 kv2 ks cells2)
    (hi : i < ks.length) (g2 : tm.get 2 = some (.ptr b1 0)) (g3 : tm.get 3 = some (.ptr b2 0)) (g5 : tm.get 5 = some (.int .i64 (i : Nat)))
    (hc : ∀ s2 c1 c2, Ok s2 → Rep s2.get ks[i] c1 → Rep s2.get ks[i] c2 → Ret (S.call 10 [.agg c1, .agg c2] s2) fun v t => v = .bool true ∧ Ok t ∧ Keep s2 t) :
    ∃ tm' s', regdR E S RPL ⟨tm, []⟩ s = some (.norm, ⟨tm', []⟩, s') ∧ tm'.get 59 = some (.bool false) ∧ tm'.get 2 = some (.ptr b1 0) ∧ tm'.get 3 = some (.ptr b2 0) ∧ tm'.get 5 = some (.int .i64 (i : Nat)) ∧ Ok s' ∧ Keep s s' := by
  obtain ⟨id1, off1, cs1, c51, x1, x2, x3, x4, _⟩ := h1.sl.at h1.rep hi
  obtain ⟨id2, off2, cs2, c52, y1, y2, y3, y4, _⟩ := h2.sl.at h2.rep hi
  obtain ⟨o1, ho1⟩ := rowO_some x2
  obtain ⟨o2, ho2⟩ := rowO_some y2
  have l1 := hok.lt ho1
  have l2 := hok.lt ho2
  refine regdR_of (fr := ⟨tm, []⟩) hok ?_
  unfold RPL
  refine RD_pure (b := s.next) (.ptr b1 3) hok (Lg.nil _ _) (Nat.le_refl _) (fun s2 => by simp (disch := first | omega | (simp only [next_alloc, next_put] <;> omega) | (repeat (first | assumption | apply Ok.alloc | apply Ok.put))) only [evOp_fa, v1_k, opd_t, k1_some, ret1_some, vFa_ptr, Nat.zero_add, g2]) fun log hl hn => ?_
  refine RD_ld (v := kv1) (l := []) (cs := [.int .i64 k1, .int .i64 m1, .str t1, kv1, .int .i64 p1]) (off := 3) hok hl (Nat.le_refl _) (by simp (disch := first | omega | (simp only [next_alloc, next_put] <;> omega) | (repeat (first | assumption | apply Ok.alloc | apply Ok.put))) only [setDst_some, opd_t, Trie.get_set, ↓reduceIte, ]) (hok.lt h1.row) (by rw [h1.row]; rfl) (by rfl) fun log hl hn2 => ?_
  refine RD_pure (.int .i64 (i : Nat)) hok hl (Nat.le_refl _) (fun s2 => by simp (disch := first | omega | (simp only [next_alloc, next_put] <;> omega) | (repeat (first | assumption | apply Ok.alloc | apply Ok.put))) only [setDst_some, evOp_mv, v1_k, opd_t, Trie.get_set, k1_some, ret1_some, ↓reduceIte, Nat.reduceEqDiff, g5]) fun log hl hn3 => ?_
  refine RD_pure (.ptr id1 off1) hok hl (Nat.le_refl _) (fun s2 => by simp (disch := first | omega | (simp only [next_alloc, next_put] <;> omega) | (repeat (first | assumption | apply Ok.alloc | apply Ok.put))) only [setDst_some, evOp_ia, v2_k, opd_t, Trie.get_set, k2_some, ret1_some, ↓reduceIte, Nat.reduceEqDiff, x1]) fun log hl hn4 => ?_
  refine RD_ldn hok hl (Nat.le_refl _) (by simp (disch := first | omega | (simp only [next_alloc, next_put] <;> omega) | (repeat (first | assumption | apply Ok.alloc | apply Ok.put))) only [setDst_some, opd_t, Trie.get_set, ↓reduceIte, ]) l1 x2 x3 fun log hl hn5 => ?_
  refine RD_pure (.ptr b2 3) hok hl (Nat.le_refl _) (fun s2 => by simp (disch := first | omega | (simp only [next_alloc, next_put] <;> omega) | (repeat (first | assumption | apply Ok.alloc | apply Ok.put))) only [setDst_some, evOp_fa, v1_k, opd_t, Trie.get_set, k1_some, ret1_some, vFa_ptr, ↓reduceIte, Nat.zero_add, Nat.reduceEqDiff, g3]) fun log hl hn6 => ?_
  refine RD_ld (v := kv2) (l := []) (cs := [.int .i64 k2, .int .i64 m2, .str t2, kv2, .int .i64 p2]) (off := 3) hok hl (Nat.le_refl _) (by simp (disch := first | omega | (simp only [next_alloc, next_put] <;> omega) | (repeat (first | assumption | apply Ok.alloc | apply Ok.put))) only [setDst_some, opd_t, Trie.get_set, ↓reduceIte, ]) (hok.lt h2.row) (by rw [h2.row]; rfl) (by rfl) fun log hl hn7 => ?_
  refine RD_pure (.int .i64 (i : Nat)) hok hl (Nat.le_refl _) (fun s2 => by simp (disch := first | omega | (simp only [next_alloc, next_put] <;> omega) | (repeat (first | assumption | apply Ok.alloc | apply Ok.put))) only [setDst_some, evOp_mv, v1_k, opd_t, Trie.get_set, k1_some, ret1_some, ↓reduceIte, Nat.reduceEqDiff, g5]) fun log hl hn8 => ?_
  refine RD_pure (.ptr id2 off2) hok hl (Nat.le_refl _) (fun s2 => by simp (disch := first | omega | (simp only [next_alloc, next_put] <;> omega) | (repeat (first | assumption | apply Ok.alloc | apply Ok.put))) only [setDst_some, evOp_ia, v2_k, opd_t, Trie.get_set, k2_some, ret1_some, ↓reduceIte, Nat.reduceEqDiff, y1]) fun log hl hn9 => ?_
  refine RD_ldn hok hl (Nat.le_refl _) (by simp (disch := first | omega | (simp only [next_alloc, next_put] <;> omega) | (repeat (first | assumption | apply Ok.alloc | apply Ok.put))) only [setDst_some, opd_t, Trie.get_set, ↓reduceIte, ]) l2 y2 y3 fun log hl hn10 => ?_
  refine RD_call (vs := [.agg c51, .agg c52]) (C := fun v _ => v = .bool true) hok hl (hn10 (hn9 (hn8 (hn7 (hn6 (hn5 (hn4 (hn3 (hn2 (hn Ln.nil)))))))))) (Nat.le_refl _) (by simp (disch := first | omega | (simp only [next_alloc, next_put] <;> omega) | (repeat (first | assumption | apply Ok.alloc | apply Ok.put))) only [setDst_some, opd_t, Trie.get_set, evL_nil, evL_cons, consO_some, ↓reduceIte, Nat.reduceEqDiff, ]) ?_ ?_
  · intro s2 ok2 e2
    obtain ⟨v, t, q1, q2, q3, q4⟩ := hc s2 c51 c52 ok2 (e2 ▸ x4) (e2 ▸ y4)
    exact ⟨v, t, q1, q3, q4, q2⟩
  · rintro v log s' hl ok' hk rfl
    refine RD_pure (b := s.next) (.bool false) ok' hl hk.next (fun s2 => by simp (disch := first | omega | (simp only [next_alloc, next_put] <;> omega) | (repeat (first | assumption | apply Ok.alloc | apply Ok.put))) only [setDst_some, evOp_un, v1_k, opd_t, Trie.get_set, k1_some, ret1_some, vUn_not, ↓reduceIte, Bool.not_true, ]) fun log hl hn11 => ?_
    refine RD_nil ⟨by simp (disch := first | omega | (simp only [next_alloc, next_put] <;> omega) | (repeat (first | assumption | apply Ok.alloc | apply Ok.put))) only [setDst_some, Trie.get_set, ↓reduceIte, ], by simp (disch := first | omega | (simp only [next_alloc, next_put] <;> omega) | (repeat (first | assumption | apply Ok.alloc | apply Ok.put))) only [setDst_some, Trie.get_set, ↓reduceIte, Nat.reduceEqDiff, g2], by simp (disch := first | omega | (simp only [next_alloc, next_put] <;> omega) | (repeat (first | assumption | apply Ok.alloc | apply Ok.put))) only [setDst_some, Trie.get_set, ↓reduceIte, Nat.reduceEqDiff, g3], by simp (disch := first | omega | (simp only [next_alloc, next_put] <;> omega) | (repeat (first | assumption | apply Ok.alloc | apply Ok.put))) only [setDst_some, Trie.get_set, ↓reduceIte, Nat.reduceEqDiff, g5], ok', hk⟩

theorem placed_loop {E : Env} {O : List Nat} : ∀ (r : List DT), (∀ d ∈ r, PlacedOk E O d) → ∃ N, ∀ n, N ≤ n →
    ∀ (pre ks : List DT) (s : St) (tm : Trie AV) (b1 b2 : Nat) (k1 m1 p1 k2 m2 p2 : Int) (t1 t2 : List Nat) (kv1 kv2 : AV) (cells1 cells2 : List AV), ks = pre ++ r → Ok s →
    BoxAt s b1 k1 m1 p1 t1 kv1 ks cells1 → BoxAt s b2 k2 m2 p2 t2 kv2 ks cells2 →
    tm.get 2 = some (.ptr b1 0) → tm.get 3 = some (.ptr b2 0) → tm.get 5 = some (.int .i64 (pre.length : Nat)) →
    ∃ tm' s', evC E (evT E O n) none (.loop b10_0) ⟨tm, []⟩ s = some (.exit 0, ⟨tm', []⟩, s') ∧ Ok s' ∧ Keep s s'
  | [], _ => by
    refine ⟨0, fun n _ pre ks s tm b1 b2 k1 m1 p1 k2 m2 p2 t1 t2 kv1 kv2 cells1 cells2 hks hok hb1 hb2 h2 h3 h5 => ?_⟩
    have hc : ¬ ((pre.length : Int) < (ks.length : Nat)) := by simp [hks]
    have hA : ∃ tm', evC E (evT E O n) none APL ⟨tm, []⟩ s = some (.exit 0, ⟨tm', []⟩, s) := by
      simp (disch := first | omega | (simp only [next_alloc, next_put] <;> omega) | (repeat (first | assumption | apply Ok.alloc | apply Ok.put))) only [evC_seq, evC_reg, evC_cond, evC_exit, evS_cons, evS_nil, stepS_n, bindS_some, stS_some, setDst_some, evOp_mv, evOp_ld, evOp_bin, evOp_fa, evOp_len, v1_k, v2_k, opd_t, Trie.get_set, k1_some, k2_some, ret1_some, vFa_ptr, normR_some, thenR_norm, condR_f, vBin_int, binI_lss, headV_cons, cut_cons, takeN, dropN, ↓reduceIte, decide_false, Nat.zero_add, Nat.reduceEqDiff, rowO_row, cutO_some, headO_some, vLd_get, APL, h2, h5, hb1.row, hb1.sl.len, hc]
      exact ⟨_, rfl⟩
    obtain ⟨tm', e1⟩ := hA
    rw [evC_loop, b10_0_eq, evC_seq, e1, thenR_exit, thenR_exit]
    exact ⟨tm', s, rfl, hok, KeepB.refl _ _⟩
  | d :: r, hall => by
    obtain ⟨N1, hd⟩ := hall d (by simp)
    obtain ⟨N2, ih⟩ := placed_loop r (fun d hd => hall d (by simp [hd]))
    refine ⟨N1 + N2 + 1, fun n hn pre ks s tm b1 b2 k1 m1 p1 k2 m2 p2 t1 t2 kv1 kv2 cells1 cells2 hks hok hb1 hb2 h2 h3 h5 => ?_⟩
    have hi : pre.length < ks.length := by simp [hks]
    have hc : (pre.length : Int) < (ks.length : Nat) := by omega
    have hel : ks[pre.length] = d := by simp [hks]
    have hA : ∃ tm', evC E (evT E O n) none APL ⟨tm, []⟩ s = some (.norm, ⟨tm', []⟩, s) ∧ tm'.get 2 = some (.ptr b1 0) ∧ tm'.get 3 = some (.ptr b2 0) ∧ tm'.get 5 = some (.int .i64 (pre.length : Nat)) := by
      simp (disch := first | omega | (simp only [next_alloc, next_put] <;> omega) | (repeat (first | assumption | apply Ok.alloc | apply Ok.put))) only [evC_skip, evC_seq, evC_reg, evC_cond, evS_cons, evS_nil, stepS_n, bindS_some, stS_some, setDst_some, evOp_mv, evOp_ld, evOp_bin, evOp_fa, evOp_len, v1_k, v2_k, opd_t, Trie.get_set, k1_some, k2_some, ret1_some, vFa_ptr, normR_some, thenR_norm, condR_t, vBin_int, binI_lss, headV_cons, cut_cons, takeN, dropN, ↓reduceIte, decide_true, Nat.zero_add, Nat.reduceEqDiff, rowO_row, cutO_some, headO_some, vLd_get, APL, h2, h5, hb1.row, hb1.sl.len, hc]
      refine ⟨_, rfl, ?_, ?_, ?_⟩ <;> simp (disch := first | omega | (simp only [next_alloc, next_put] <;> omega) | (repeat (first | assumption | apply Ok.alloc | apply Ok.put))) only [Trie.get_set, ↓reduceIte, Nat.reduceEqDiff, h2, h3, h5]
    obtain ⟨tm1, e1, a2, a3, a5⟩ := hA
    obtain ⟨tm2, s2, r1, r59, r2, r3, r5, ok2, kp2⟩ := placed_reg (E := E) (S := evT E O n) hok hb1 hb2 hi a2 a3 a5 (fun s2 c1 c2 ok q1 q2 => hd n (by omega) s2 c1 c2 ok (hel ▸ q1) (hel ▸ q2))
    have hC : evC E (evT E O n) none CPL ⟨tm2, []⟩ s2 = some (.norm, ⟨tm2, []⟩, s2) := by
      simp (disch := first | omega | (simp only [next_alloc, next_put] <;> omega) | (repeat (first | assumption | apply Ok.alloc | apply Ok.put))) only [evC_skip, evC_cond, opd_t, condR_f, CPL, r59]
    have hlt := hb1.sl.lt
    have hw : IntKind.wrap .i64 ((pre.length : Int) + 1) = ((pre.length + 1 : Nat) : Int) := by rw [wrap_id (by omega) (by omega)]; omega
    have hI : ∃ tm', evC E (evT E O n) none IPL ⟨tm2, []⟩ s2 = some (.norm, ⟨tm', []⟩, s2) ∧ tm'.get 2 = some (.ptr b1 0) ∧ tm'.get 3 = some (.ptr b2 0) ∧ tm'.get 5 = some (.int .i64 ((pre.length + 1 : Nat) : Int)) := by
      simp (disch := first | omega | (simp only [next_alloc, next_put] <;> omega) | (repeat (first | assumption | apply Ok.alloc | apply Ok.put))) only [evC_reg, evS_cons, evS_nil, stepS_n, bindS_some, stS_some, setDst_some, evOp_mv, evOp_bin, v1_k, v2_k, opd_t, opd_c, Trie.get_set, k1_some, k2_some, ret1_some, normR_some, vBin_int, binI_add, ↓reduceIte, Int.ofNat_eq_natCast, Int.cast_ofNat_Int, IPL, r5, hw]
      refine ⟨_, rfl, ?_, ?_, ?_⟩ <;> simp (disch := first | omega | (simp only [next_alloc, next_put] <;> omega) | (repeat (first | assumption | apply Ok.alloc | apply Ok.put))) only [Trie.get_set, ↓reduceIte, Nat.reduceEqDiff, r2, r3]
    obtain ⟨tm3, i1, i2, i3, i5⟩ := hI
    rw [evC_loop]
    have hbody : evC E (evT E O n) none b10_0 ⟨tm, []⟩ s = some (.norm, ⟨tm3, []⟩, s2) := by
      rw [b10_0_eq, evC_seq, e1, thenR_norm, evC_seq, evC_block, evC_seq, evC_regd, r1, thenR_norm, hC, blockR_norm, thenR_norm, i1]
    rw [hbody, thenR_norm]
    obtain ⟨n, rfl⟩ : ∃ m, n = m + 1 := ⟨n - 1, by omega⟩
    rw [evT_loop]
    obtain ⟨tm4, s4, q1, q2, q3⟩ := ih n (by omega) (pre ++ [d]) ks s2 tm3 b1 b2 k1 m1 p1 k2 m2 p2 t1 t2 kv1 kv2 cells1 cells2 (by simp [hks]) ok2 (hb1.keep hok kp2) (hb2.keep hok kp2) i2 i3 (by simpa using i5)
    exact ⟨tm4, s4, q1, q2, kp2.trans (q3.weak kp2.next)⟩

mutual
theorem placed_ok {E : Env} {O : List Nat} (hE : E.funs.get 10 = some f10) (hO : memN 10 O = false) : ∀ d : DT, PlacedOk E O d
  | .mk k m t ks p => by
    obtain ⟨N, hl⟩ := placed_loop ks (placed_okL hE hO ks)
    refine ⟨N + 1, fun n hn s c1 c2 hok hr1 hr2 => ?_⟩
    obtain ⟨n, rfl⟩ : ∃ m, n = m + 1 := ⟨n - 1, by omega⟩
    simp only [Rep] at hr1 hr2
    obtain ⟨kv1, cells1, rfl, hs1, hr1⟩ := hr1
    obtain ⟨kv2, cells2, rfl, hs2, hr2⟩ := hr2
    rw [evT_call hO hE, callF_of hE]
    have hok1 := hok.alloc (.row 24 [.int .i64 k, .int .i64 m, .str t, kv1, .int .i64 p] false false)
    have hk1 : Keep s (s.alloc (.row 24 [.int .i64 k, .int .i64 m, .str t, kv1, .int .i64 p] false false)) := (KeepB.refl _ _).alloc _ (Nat.le_refl _)
    have hok2 := hok1.alloc (.row 24 [.int .i64 k, .int .i64 m, .str t, kv2, .int .i64 p] false false)
    have hk2 : Keep s ((s.alloc (.row 24 [.int .i64 k, .int .i64 m, .str t, kv1, .int .i64 p] false false)).alloc (.row 24 [.int .i64 k, .int .i64 m, .str t, kv2, .int .i64 p] false false)) := hk1.alloc _ (by rw [next_alloc]; omega)
    have hle := KeepB.le hk2 hok
    have gg1 : ((s.alloc (.row 24 [.int .i64 k, .int .i64 m, .str t, kv1, .int .i64 p] false false)).alloc (.row 24 [.int .i64 k, .int .i64 m, .str t, kv2, .int .i64 p] false false)).get s.next = some (.row 24 [.int .i64 k, .int .i64 m, .str t, kv1, .int .i64 p] false false) := by
      rw [get_alloc_old _ _ (by rw [next_alloc]; omega)]; exact get_alloc_new hok _
    have gg2 : ((s.alloc (.row 24 [.int .i64 k, .int .i64 m, .str t, kv1, .int .i64 p] false false)).alloc (.row 24 [.int .i64 k, .int .i64 m, .str t, kv2, .int .i64 p] false false)).get (s.next + 1) = some (.row 24 [.int .i64 k, .int .i64 m, .str t, kv2, .int .i64 p] false false) := get_alloc_new hok1 _
    have hbs : ∃ tm0, evC E (evT E O n) none RPL0 ⟨setArgs .leaf 0 [.agg [.int .i64 k, .int .i64 m, .str t, kv1, .int .i64 p], .agg [.int .i64 k, .int .i64 m, .str t, kv2, .int .i64 p]], []⟩ s = some (.norm, ⟨tm0, []⟩, (s.alloc (.row 24 [.int .i64 k, .int .i64 m, .str t, kv1, .int .i64 p] false false)).alloc (.row 24 [.int .i64 k, .int .i64 m, .str t, kv2, .int .i64 p] false false)) ∧ tm0.get 2 = some (.ptr s.next 0) ∧ tm0.get 3 = some (.ptr (s.next + 1) 0) := by
      simp (disch := first | omega | (simp only [next_alloc, next_put] <;> omega) | (repeat (first | assumption | apply Ok.alloc | apply Ok.put))) only [evC_reg, evS_cons, evS_nil, stepS_n, bindS_some, stS_some, setDst_some, evOp_mv, evOp_box, o1_k, v1_k, opd_t, opd_c, Trie.get_set, setArgs, k1_some, b1_some, oBox_eq, ret1_some, cells_agg, normR_some, ↓reduceIte, Nat.zero_add, Nat.succ_eq_add_one, Nat.reduceEqDiff, next_alloc, RPL0]
      refine ⟨_, rfl, ?_, ?_⟩ <;> simp (disch := first | omega | (simp only [next_alloc, next_put] <;> omega) | (repeat (first | assumption | apply Ok.alloc | apply Ok.put))) only [Trie.get_set, ↓reduceIte, Nat.reduceEqDiff, ]
    obtain ⟨tm0, e0, t2, t3⟩ := hbs
    obtain ⟨s2, hse⟩ : ∃ s2, s2 = (s.alloc (.row 24 [.int .i64 k, .int .i64 m, .str t, kv1, .int .i64 p] false false)).alloc (.row 24 [.int .i64 k, .int .i64 m, .str t, kv2, .int .i64 p] false false) := ⟨_, rfl⟩
    rw [← hse] at gg1 gg2 e0 hok2 hk2 hle
    obtain ⟨tm1, e1, u2, u3⟩ := placed_head (E := E) (S := evT E O n) t2 t3 gg1 gg2 hs1.len hs2.len
    rw [f10_eq, callB]
    simp only [lenN, ble_d, Nat.succ_eq_add_one, Nat.zero_add, Nat.reduceAdd, Nat.reduceLeDiff, decide_true, cond_true]
    rw [evC_seq, e0, thenR_norm, evC_seq, e1, thenR_norm, evC_seq, evC_seq, evC_reg, evS_cons, stepS_n, evOp_mv, v1_k, opd_c, k1_some, ret1_some, stS_some, bindS_some, evS_nil, normR_some, thenR_norm, evC_block, setDst_some]
    refine after_loop (hl n (by omega) [] ks _ _ s.next (s.next + 1) k m p k m p t t kv1 kv2 cells1 cells2 rfl hok2 ⟨gg1, hs1.mono hle, RepL.mono hle _ _ hr1⟩ ⟨gg2, hs2.mono hle, RepL.mono hle _ _ hr2⟩ ?_ ?_ ?_) ?_
    · simp (disch := first | omega | (simp only [next_alloc, next_put] <;> omega) | (repeat (first | assumption | apply Ok.alloc | apply Ok.put))) only [Trie.get_set, ↓reduceIte, Nat.reduceEqDiff, Int.ofNat_eq_natCast, Int.cast_ofNat_Int, u2]
    · simp (disch := first | omega | (simp only [next_alloc, next_put] <;> omega) | (repeat (first | assumption | apply Ok.alloc | apply Ok.put))) only [Trie.get_set, ↓reduceIte, Nat.reduceEqDiff, Int.ofNat_eq_natCast, Int.cast_ofNat_Int, u3]
    · simp (disch := first | omega | (simp only [next_alloc, next_put] <;> omega) | (repeat (first | assumption | apply Ok.alloc | apply Ok.put))) only [Trie.get_set, ↓reduceIte, Int.ofNat_eq_natCast, Int.cast_ofNat_Int, List.length_nil]
    · rintro tm' s' ⟨q2, q3⟩
      simp (disch := first | omega | (simp only [next_alloc, next_put] <;> omega) | (repeat (first | assumption | apply Ok.alloc | apply Ok.put))) only [callEnd_ret, resE_t, evC_seq, evC_reg, evC_ret, evS_cons, evS_nil, stepS_n, bindS_some, stS_some, setDst_some, evOp_mv, v1_k, opd_c, Trie.get_set, k1_some, ret1_some, normR_some, thenR_norm, ↓reduceIte, ]
      exact ⟨_, _, rfl, rfl, q2, hk2.trans (q3.weak hk2.next)⟩
theorem placed_okL {E : Env} {O : List Nat} (hE : E.funs.get 10 = some f10) (hO : memN 10 O = false) : ∀ (l : List DT), ∀ d ∈ l, PlacedOk E O d
  | [], _, h => by simp at h
  | d :: r, x, h => by
    rcases List.mem_cons.1 h with e | h
    · exact e ▸ placed_ok hE hO d
    · exact placed_okL hE hO r x h
end
end Go.Proofs.YtagpffdamckekaaGreatDoor.Ev

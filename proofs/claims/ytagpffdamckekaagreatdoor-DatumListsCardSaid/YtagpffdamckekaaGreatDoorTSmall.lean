/- By symbolic evaluation, for every datum: what 'small' answers. No conditions but what is said of the memory. -/
import Derived.Test.YtagpffdamckekaaGreatDoorEvG
import Derived.Test.YtagpffdamckekaaGreatDoorBodDatumLists
namespace Go.Proofs.YtagpffdamckekaaGreatDoor.Ev
open T
set_option maxRecDepth 100000

def SmallOk (E : Env) (O : List Nat) (d : DT) : Prop :=
  ∃ N, ∀ n, N ≤ n → ∀ (s : St) (cs : List AV) (left : Int), Ok s → Rep s.get d cs → 0 < left → left ≤ 300 →
    Ret ((evT E O n).call 4 [.agg cs, .int .i64 left] s) fun v s' => v = .int .i64 (smallF d left) ∧ Ok s' ∧ Keep s s'

theorem small_loop {E : Env} {O : List Nat} : ∀ (r : List DT), (∀ d ∈ r, SmallOk E O d) → ∃ N, ∀ n, N ≤ n →
    ∀ (pre : List DT) (s : St) (tm : Trie AV) (b : Nat) (left k m p : Int) (t : List Nat) (kv : AV) (cells : List AV), Ok s →
    s.get b = some (.row 24 [.int .i64 k, .int .i64 m, .str t, kv, .int .i64 p] false false) → SliceOf s.get kv (pre ++ r).length cells → RepL s.get (pre ++ r) cells →
    tm.get 1 = some (.int .i64 left) → tm.get 2 = some (.ptr b 0) → tm.get 5 = some (.int .i64 (pre.length : Nat)) → -1 ≤ left → left ≤ 300 →
    ∃ tm' s', evC E (evT E O n) none (.loop b4_0) ⟨tm, []⟩ s = some (.exit 0, ⟨tm', []⟩, s') ∧ Ok s' ∧ Keep s s' ∧ tm'.get 1 = some (.int .i64 (smallL r left))
  | [], _ => by
    refine ⟨0, fun n _ pre s tm b left k m p t kv cells hok hb hs hr h1 h2 h5 _ _ => ?_⟩
    have hc : ¬ ((pre.length : Int) < ((pre ++ []).length : Nat)) := by simp
    have hbody : ∃ tm', evC E (evT E O n) none b4_0 ⟨tm, []⟩ s = some (.exit 0, ⟨tm', []⟩, s) ∧ tm'.get 1 = some (.int .i64 left) := by
      simp (disch := first | omega | (simp only [next_alloc, next_put] <;> omega) | (repeat (first | assumption | apply Ok.alloc | apply Ok.put))) only [evC_seq, evC_reg, evC_cond, evC_exit, evS_cons, evS_nil, stepS_n, stepS_g, bindS_some, stS_some, setDst_some, evOp_mv, evOp_pick, evOp_ld, evOp_bin, evOp_fa, evOp_len, v1_k, v2_k, opd_t, opd_c, Trie.get_set, k1_some, k2_some, ret1_some, vFa_ptr, normR_some, thenR_norm, thenR_exit, condR_f, vBin_int, binI_lss, wantB_t, gstep_f, vPick_f, headV_cons, cut_cons, takeN, dropN, ↓reduceIte, decide_false, Nat.zero_add, Nat.reduceEqDiff, Int.ofNat_eq_natCast, Int.cast_ofNat_Int, rowO_row, cutO_some, headO_some, vLd_get, b4_0, h2, h5, hb, hs.len, hc]
      refine ⟨_, rfl, ?_⟩
      simp (disch := first | omega | (simp only [next_alloc, next_put] <;> omega) | (repeat (first | assumption | apply Ok.alloc | apply Ok.put))) only [Trie.get_set, ↓reduceIte, Nat.reduceEqDiff, h1]
    obtain ⟨tm', e1, e2⟩ := hbody
    rw [evC_loop, e1, thenR_exit]
    exact ⟨tm', s, rfl, hok, KeepB.refl _ _, e2⟩
  | d :: r, hall => by
    obtain ⟨N1, hd⟩ := hall d (by simp)
    obtain ⟨N2, ih⟩ := small_loop r (fun d hd => hall d (by simp [hd]))
    refine ⟨N1 + N2 + 1, fun n hn pre s tm b left k m p t kv cells hok hb hs hr h1 h2 h5 hl1 hl2 => ?_⟩
    have hc : (pre.length : Int) < ((pre ++ d :: r).length : Nat) := by simp; omega
    rw [evC_loop]
    by_cases h0 : 0 < left
    · obtain ⟨id, off, cs, c5, g1, g2, g3, g4, _⟩ := hs.at hr (i := pre.length) (by simp)
      have g4' : Rep s.get d c5 := by simpa using g4
      obtain ⟨_, s1, k1, rfl, k2, k3⟩ := hd n (by omega) s c5 left hok g4' h0 hl2
      have hlt := hs.lt
      have hw : IntKind.wrap .i64 ((pre.length : Int) + 1) = ((pre.length + 1 : Nat) : Int) := by rw [wrap_id (by omega) (by simp at hlt; omega)]; omega
      have hbody : ∃ tm', evC E (evT E O n) none b4_0 ⟨tm, []⟩ s = some (.norm, ⟨tm', []⟩, s1) ∧ tm'.get 1 = some (.int .i64 (smallF d left)) ∧ tm'.get 2 = some (.ptr b 0) ∧ tm'.get 5 = some (.int .i64 ((pre.length + 1 : Nat) : Int)) := by
        simp (disch := first | omega | (simp only [next_alloc, next_put] <;> omega) | (repeat (first | assumption | apply Ok.alloc | apply Ok.put))) only [aggO_some, evC_skip, evC_seq, evC_reg, evC_cond, evC_block, evS_cons, evS_nil, stepS_n, stepS_g, bindS_some, stS_some, setDst_some, evOp_mv, evOp_pick, evOp_ld, evOp_ldn, evOp_bin, evOp_fa, evOp_ia, evOp_len, evOp_call, v1_k, v2_k, opd_t, opd_c, Trie.get_set, k1_some, k2_some, ret1_some, vFa_ptr, normR_some, thenR_norm, condR_t, blockR_norm, vBin_int, binI_lss, binI_gtr, binI_add, wantB_t, gstep_t, vPick_t, evL_nil, evL_cons, consO_some, evCl_some, headV_cons, cut_cons, takeN, dropN, ↓reduceIte, decide_true, Nat.zero_add, Nat.reduceEqDiff, Int.ofNat_eq_natCast, Int.cast_ofNat_Int, rowO_row, cutO_some, headO_some, vLd_get, vLdn_get, b4_0, h1, h2, h5, hb, hs.len, hc, h0, g1, g2, g3, k1, hw]
        refine ⟨_, rfl, ?_, ?_, ?_⟩ <;> simp (disch := first | omega | (simp only [next_alloc, next_put] <;> omega) | (repeat (first | assumption | apply Ok.alloc | apply Ok.put))) only [Trie.get_set, ↓reduceIte, Nat.reduceEqDiff, h2]
      obtain ⟨tm', e1, e2, e3, e4⟩ := hbody
      rw [e1, thenR_norm]
      obtain ⟨n, rfl⟩ : ∃ m, n = m + 1 := ⟨n - 1, by omega⟩
      rw [evT_loop]
      have hle := k3.le hok
      have hbd := smallF_bd d left h0
      obtain ⟨tm2, s2, q1, q2, q3, q4⟩ := ih n (by omega) (pre ++ [d]) s1 tm' b (smallF d left) k m p t kv cells k2 (by rw [KeepB.get k3 (hok.lt hb)]; exact hb) (by simpa using hs.mono hle) (by simpa using RepL.mono hle _ _ hr) e2 e3 (by simpa using e4) hbd.1 (by omega)
      exact ⟨tm2, s2, q1, q2, k3.trans (q3.weak k3.next), by rw [q4]; simp only [smallL, if_pos h0]⟩
    · have hbody : ∃ tm', evC E (evT E O n) none b4_0 ⟨tm, []⟩ s = some (.exit 0, ⟨tm', []⟩, s) ∧ tm'.get 1 = some (.int .i64 left) := by
        simp (disch := first | omega | (simp only [next_alloc, next_put] <;> omega) | (repeat (first | assumption | apply Ok.alloc | apply Ok.put))) only [evC_seq, evC_reg, evC_cond, evC_exit, evS_cons, evS_nil, stepS_n, stepS_g, bindS_some, stS_some, setDst_some, evOp_mv, evOp_pick, evOp_ld, evOp_bin, evOp_fa, evOp_len, v1_k, v2_k, opd_t, opd_c, Trie.get_set, k1_some, k2_some, ret1_some, vFa_ptr, normR_some, thenR_norm, thenR_exit, condR_f, vBin_int, binI_lss, binI_gtr, wantB_t, gstep_t, vPick_t, headV_cons, cut_cons, takeN, dropN, ↓reduceIte, decide_true, decide_false, Nat.zero_add, Nat.reduceEqDiff, Int.ofNat_eq_natCast, Int.cast_ofNat_Int, rowO_row, cutO_some, headO_some, vLd_get, b4_0, h1, h2, h5, hb, hs.len, hc, h0]
        refine ⟨_, rfl, ?_⟩
        simp (disch := first | omega | (simp only [next_alloc, next_put] <;> omega) | (repeat (first | assumption | apply Ok.alloc | apply Ok.put))) only [Trie.get_set, ↓reduceIte, Nat.reduceEqDiff, h1]
      obtain ⟨tm', e1, e2⟩ := hbody
      rw [e1, thenR_exit]
      exact ⟨tm', s, rfl, hok, KeepB.refl _ _, by rw [e2]; simp only [smallL, if_neg h0]⟩

mutual
theorem small_ok {E : Env} {O : List Nat} (hE : E.funs.get 4 = some f4) (hO : memN 4 O = false) : ∀ d : DT, SmallOk E O d
  | .mk k m t ks p => by
    obtain ⟨N, hl⟩ := small_loop ks (small_okL hE hO ks)
    refine ⟨N + 1, fun n hn s cs left hok hrep h0 h3 => ?_⟩
    obtain ⟨n, rfl⟩ : ∃ m, n = m + 1 := ⟨n - 1, by omega⟩
    simp only [Rep] at hrep
    obtain ⟨kv, cells, rfl, hs, hr⟩ := hrep
    rw [evT_call hO hE, callF_of hE]
    have hw : IntKind.wrap .i64 (left - 1) = left - 1 := wrap_id (by omega) (by omega)
    have hok1 := hok.alloc (.row 24 [.int .i64 k, .int .i64 m, .str t, kv, .int .i64 p] false false)
    have hk1 : Keep s (s.alloc (.row 24 [.int .i64 k, .int .i64 m, .str t, kv, .int .i64 p] false false)) := (KeepB.refl _ _).alloc _ (Nat.le_refl _)
    by_cases ht : (300 : Int) < (t.length : Nat)
    · have ht' : 300 < t.length := by omega
      simp (disch := first | omega | (simp only [next_alloc, next_put] <;> omega) | (repeat (first | assumption | apply Ok.alloc | apply Ok.put))) only [callB, callEnd_ret, resE_t, ble_d, lenN, evC_seq, evC_reg, evC_ret, evC_cond, evS_cons, evS_nil, stepS_n, bindS_some, stS_some, setDst_some, evOp_mv, evOp_box, evOp_ld, evOp_bin, evOp_fa, evOp_len, o1_k, v1_k, v2_k, opd_t, opd_c, Trie.get_set, setArgs, k1_some, k2_some, b1_some, oBox_eq, ret1_some, vFa_ptr, cells_agg, normR_some, thenR_norm, thenR_ret, condR_t, vBin_int, binI_gtr, binI_sub, vLen_str, headV_cons, cut_cons, takeN, dropN, ↓reduceIte, decide_true, cond_true, Nat.zero_add, Nat.succ_eq_add_one, Nat.reduceEqDiff, Nat.reduceLeDiff, Nat.reduceAdd, Int.ofNat_eq_natCast, Int.cast_ofNat_Int, rowO_row, cutO_some, headO_some, vLd_get, get_alloc_at, f4_eq, hw, ht, smallF, if_pos ht']
      exact ⟨_, _, rfl, rfl, hok1, hk1⟩
    · have ht' : ¬ 300 < t.length := by omega
      have hle := KeepB.le hk1 hok
      simp (disch := first | omega | (simp only [next_alloc, next_put] <;> omega) | (repeat (first | assumption | apply Ok.alloc | apply Ok.put))) only [callB, ble_d, lenN, evC_skip, evC_seq, evC_reg, evC_cond, evC_block, evS_cons, evS_nil, stepS_n, bindS_some, stS_some, setDst_some, evOp_mv, evOp_box, evOp_ld, evOp_bin, evOp_fa, evOp_len, o1_k, v1_k, v2_k, opd_t, opd_c, Trie.get_set, setArgs, k1_some, k2_some, b1_some, oBox_eq, ret1_some, vFa_ptr, cells_agg, normR_some, thenR_norm, condR_f, vBin_int, binI_gtr, binI_sub, vLen_str, headV_cons, cut_cons, takeN, dropN, ↓reduceIte, decide_true, decide_false, cond_true, Nat.zero_add, Nat.succ_eq_add_one, Nat.reduceEqDiff, Nat.reduceLeDiff, Nat.reduceAdd, Int.ofNat_eq_natCast, Int.cast_ofNat_Int, rowO_row, cutO_some, headO_some, vLd_get, get_alloc_at, f4_eq, hw, ht]
      refine after_loop (hl n (by omega) [] _ _ s.next (left - 1) k m p t kv cells hok1 (get_alloc_new hok _) (hs.mono hle) (RepL.mono hle _ _ hr) ?_ ?_ ?_ (by omega) (by omega)) ?_
      · simp (disch := first | omega | (simp only [next_alloc, next_put] <;> omega) | (repeat (first | assumption | apply Ok.alloc | apply Ok.put))) only [Trie.get_set, ↓reduceIte, Nat.reduceEqDiff, ]
      · simp (disch := first | omega | (simp only [next_alloc, next_put] <;> omega) | (repeat (first | assumption | apply Ok.alloc | apply Ok.put))) only [Trie.get_set, ↓reduceIte, Nat.reduceEqDiff, ]
      · simp (disch := first | omega | (simp only [next_alloc, next_put] <;> omega) | (repeat (first | assumption | apply Ok.alloc | apply Ok.put))) only [Trie.get_set, ↓reduceIte, Int.cast_ofNat_Int, List.length_nil]
      · rintro tm' s' ⟨q2, q3, q4⟩
        simp (disch := first | omega | (simp only [next_alloc, next_put] <;> omega) | (repeat (first | assumption | apply Ok.alloc | apply Ok.put))) only [callEnd_ret, resE_t, evC_seq, evC_reg, evC_ret, evS_cons, evS_nil, stepS_n, bindS_some, stS_some, setDst_some, evOp_mv, v1_k, opd_t, Trie.get_set, k1_some, ret1_some, normR_some, thenR_norm, ↓reduceIte, q4]
        exact ⟨_, _, rfl, by simp only [smallF, if_neg ht'], q2, hk1.trans (q3.weak hk1.next)⟩
theorem small_okL {E : Env} {O : List Nat} (hE : E.funs.get 4 = some f4) (hO : memN 4 O = false) : ∀ (l : List DT), ∀ d ∈ l, SmallOk E O d
  | [], _, h => by simp at h
  | d :: r, x, h => by
    rcases List.mem_cons.1 h with e | h
    · exact e ▸ small_ok hE hO d
    · exact small_okL hE hO r x h
end
end Go.Proofs.YtagpffdamckekaaGreatDoor.Ev

/- By symbolic evaluation, for every datum: the two loops of the statement. No conditions but what is said of the memory. -/
import Derived.Test.YtagpffdamckekaaGreatDoorTList
import Derived.Test.YtagpffdamckekaaGreatDoorTItems
import Derived.Test.YtagpffdamckekaaGreatDoorTSmall
import Derived.Test.YtagpffdamckekaaGreatDoorTPlaced
namespace Go.Proofs.YtagpffdamckekaaGreatDoor.Ev
open T
set_option maxRecDepth 100000

theorem evOp_mn (G : Env) (S : Self) (tm : Trie AV) (s : St) (xs : List Opd) : evOp G S (.mn xs) tm s = vL tm s xs (vMn false) := rfl
theorem vL_k (tm : Trie AV) (s : St) (l : List Opd) (f : List AV → Option AV) {a : List AV} (h : evL tm l = some a) : vL tm s l f = ret1 s (f a) := by unfold vL; rw [h]
theorem vMn_two (a b : Int) : vMn false [.int .i64 a, .int .i64 b] = some (.int .i64 (if b < a then b else a)) := by
  simp only [vMn, minV, cond_false, ltI_eq]
  by_cases h : b < a
  · simp [h]
  · simp [h]

theorem top_cut {G : Nat → Option AObj} {kv : AV} {ds : List DT} {cells : List AV} (h : SlAt G kv ds cells) (ht : TopSl kv) (k : Nat) :
    ∃ kv' cells', vSlv 5 kv none (some (.int .i64 ((if k < ds.length then k else ds.length : Nat) : Int))) none = some kv' ∧ SlAt G kv' (ds.take k) cells' := by
  have hl : (ds.take k).length = if k < ds.length then k else ds.length := by
    rw [List.length_take]; split <;> omega
  rcases h.sl.is with ⟨h0, hc, hkv⟩ | ⟨id, off, c, cs, hkv, hr, hcut⟩
  · have hds : ds = [] := List.length_eq_zero_iff.1 h0
    subst hds; subst hc
    simp only [List.length_nil, Nat.not_lt_zero, if_false]
    refine ⟨kv, [], ?_, ⟨by simp, .inl ⟨by simp, rfl, hkv⟩⟩, by simp [RepL]⟩
    rcases hkv with rfl | rfl <;> rfl
  · cases ht with
    | nils => cases hkv
    | sl0 => cases hkv
    | sl id' off' len cap hcap =>
      simp only [AV.sl.injEq] at hkv
      obtain ⟨rfl, rfl, hlen, rfl⟩ := hkv
      generalize hh : (if k < ds.length then k else ds.length) = j at hl ⊢
      have hj : j ≤ len := by rw [hlen, ← hh]; split <;> omega
      obtain ⟨g1, g2, g3⟩ := cut_some hcut
      have hrl := RepL.length h.rep
      have hoff : off' + ds.length * 5 ≤ cs.length ∨ ds.length * 5 = 0 := g2
      have hv : vSlv 5 (.sl id' off' len (.fix cap)) none (some (.int .i64 ((j : Nat) : Int))) none = some (.sl id' off' j (.fix cap)) := by
        have hb : Nat.ble j cap = true := ble_iff.2 (by omega)
        show (match bnd cap none cap with | some m => vCut id' off' 5 m len none (some (.int .i64 (Int.ofNat j))) | none => none) = _
        show vCut id' off' 5 cap len none (some (.int .i64 (Int.ofNat j))) = _
        unfold vCut
        simp only [bnd, hb, cond_true]
        have e0 : (bif Nat.beq cap 0 then off' else Nat.add off' (Nat.mul 0 5)) = off' := by
          cases Nat.beq cap 0
          · show off' + 0 * 5 = off'; omega
          · rfl
        have ej : Nat.sub j 0 = j := rfl
        have ec : Nat.sub cap 0 = cap := rfl
        rw [e0, ej, ec]
      refine ⟨_, (cells.take (j * 5)), hv, ⟨⟨by have := h.sl.lt; rw [hl]; omega, ?_⟩, ?_⟩⟩
      · by_cases hj0 : j = 0
        · subst hj0
          refine .inr ⟨id', off', .fix cap, cs, by rw [hl], hr, ?_⟩
          rw [hl]; simp [cut, takeN]
        · refine .inr ⟨id', off', .fix cap, cs, by rw [hl], hr, ?_⟩
          rw [hl, cut_eq (by omega), g3, List.take_take, Nat.min_eq_left (by omega)]
      · have : ∀ (l : List DT) (c : List AV) (i : Nat), RepL G l c → RepL G (l.take i) (c.take (i * 5)) := by
          intro l
          induction l with
          | nil => intro c i hc; simp only [RepL] at hc; subst hc; simp [RepL]
          | cons x l ih =>
            intro c i hc
            simp only [RepL] at hc
            obtain ⟨a, b, rfl, hx, hl⟩ := hc
            cases i with
            | zero => simp [RepL]
            | succ i =>
              simp only [List.take_succ_cons, RepL]
              have h5 := hx.length
              refine ⟨a, b.take (i * 5), ?_, hx, ih b i hl⟩
              rw [Nat.succ_mul, List.take_append, List.take_of_length_le (by omega)]
              congr 2; omega
        have := this ds cells k h.rep
        have e : cells.take (j * 5) = cells.take (k * 5) := by
          rw [← hh]
          split
          · rfl
          · rw [List.take_of_length_le (by omega), List.take_of_length_le (by omega)]
        rw [e]; exact this

/-! ### The loop over the data: are they small? -/
theorem dl_loop0 {E : Env} {O : List Nat} (h5 : memN 5 O = true) : ∀ (r : List DT), (∀ d ∈ r, SmallOk E O d) → ∃ N, ∀ n, N ≤ n →
    ∀ (pre ds : List DT) (s : St) (tm : Trie AV) (b : Nat) (kv : AV) (cells : List AV), ds = pre ++ r → Ok s → SlAt s.get kv ds cells →
    tm.get 0 = some kv → tm.get 3 = some (.ptr b 0) → tm.get 5 = some (.int .i64 (pre.length : Nat)) →
    ∃ tm' s', Ok s' ∧ Keep s s' ∧ ((evC E (evT E O n) none (.loop b3_0) ⟨tm, []⟩ s = some (.exit 0, ⟨tm', []⟩, s') ∧ tm'.get 0 = some kv ∧ tm'.get 3 = some (.ptr b 0)) ∨ (evC E (evT E O n) none (.loop b3_0) ⟨tm, []⟩ s = some (.ret, ⟨tm', []⟩, s') ∧ tm'.get 4 = some (.bool true)))
  | [], _ => by
    refine ⟨0, fun n _ pre ds s tm b kv cells hds hok hsl g0 g3 g5 => ?_⟩
    have hc : ¬ ((pre.length : Int) < (ds.length : Nat)) := by simp [hds]
    have hA : ∃ tm', evC E (evT E O n) none AD0 ⟨tm, []⟩ s = some (.exit 0, ⟨tm', []⟩, s) ∧ tm'.get 0 = some kv ∧ tm'.get 3 = some (.ptr b 0) := by
      simp (disch := first | omega | (simp only [next_alloc, next_put] <;> omega) | (repeat (first | assumption | apply Ok.alloc | apply Ok.put))) only [evC_seq, evC_reg, evC_cond, evC_exit, evS_cons, evS_nil, stepS_n, bindS_some, stS_some, setDst_some, evOp_mv, evOp_bin, evOp_len, v1_k, v2_k, opd_t, Trie.get_set, k1_some, k2_some, ret1_some, normR_some, thenR_norm, condR_f, vBin_int, binI_lss, ↓reduceIte, decide_false, Nat.reduceEqDiff, AD0, g0, g5, hsl.sl.len, hc]
      refine ⟨_, rfl, ?_, ?_⟩ <;> simp (disch := first | omega | (simp only [next_alloc, next_put] <;> omega) | (repeat (first | assumption | apply Ok.alloc | apply Ok.put))) only [Trie.get_set, ↓reduceIte, Nat.reduceEqDiff, g0, g3]
    obtain ⟨tm', e1, e2, e3⟩ := hA
    refine ⟨tm', s, hok, KeepB.refl _ _, .inl ⟨?_, e2, e3⟩⟩
    rw [evC_loop, b3_0_eq, evC_seq, e1, thenR_exit, thenR_exit]
  | d :: r, hall => by
    obtain ⟨N1, hd⟩ := hall d (by simp)
    obtain ⟨N2, ih⟩ := dl_loop0 h5 r (fun d hd => hall d (by simp [hd]))
    refine ⟨N1 + N2 + 1, fun n hn pre ds s tm b kv cells hds hok hsl g0 g3 g5 => ?_⟩
    have hi : pre.length < ds.length := by simp [hds]
    have hc : (pre.length : Int) < (ds.length : Nat) := by omega
    have hel : ds[pre.length] = d := by simp [hds]
    have hA : ∃ tm', evC E (evT E O n) none AD0 ⟨tm, []⟩ s = some (.norm, ⟨tm', []⟩, s) ∧ tm'.get 0 = some kv ∧ tm'.get 3 = some (.ptr b 0) ∧ tm'.get 5 = some (.int .i64 (pre.length : Nat)) := by
      simp (disch := first | omega | (simp only [next_alloc, next_put] <;> omega) | (repeat (first | assumption | apply Ok.alloc | apply Ok.put))) only [evC_skip, evC_seq, evC_reg, evC_cond, evS_cons, evS_nil, stepS_n, bindS_some, stS_some, setDst_some, evOp_mv, evOp_bin, evOp_len, v1_k, v2_k, opd_t, Trie.get_set, k1_some, k2_some, ret1_some, normR_some, thenR_norm, condR_t, vBin_int, binI_lss, ↓reduceIte, decide_true, Nat.reduceEqDiff, AD0, g0, g5, hsl.sl.len, hc]
      refine ⟨_, rfl, ?_, ?_, ?_⟩ <;> simp (disch := first | omega | (simp only [next_alloc, next_put] <;> omega) | (repeat (first | assumption | apply Ok.alloc | apply Ok.put))) only [Trie.get_set, ↓reduceIte, Nat.reduceEqDiff, g0, g3, g5]
    obtain ⟨tm1, e1, a0, a3, a5⟩ := hA
    obtain ⟨id, off, cs, c5, x1, x2, x3, x4, _⟩ := hsl.sl.at hsl.rep hi
    rw [hel] at x4
    obtain ⟨_, s2, k1, rfl, ok2, kp2⟩ := hd n (by omega) s c5 300 hok x4 (by omega) (by omega)
    obtain ⟨n, rfl⟩ : ∃ m, n = m + 1 := ⟨n - 1, by omega⟩
    by_cases h0 : 0 < smallF d 300
    · have hP : ∃ tm', evC E (evT E O (n + 1)) none PD0 ⟨tm1, []⟩ s = some (.norm, ⟨tm', []⟩, s2) ∧ tm'.get 0 = some kv ∧ tm'.get 3 = some (.ptr b 0) ∧ tm'.get 5 = some (.int .i64 (pre.length : Nat)) := by
        simp (disch := first | omega | (simp only [next_alloc, next_put] <;> omega) | (repeat (first | assumption | apply Ok.alloc | apply Ok.put))) only [aggO_some, evC_skip, evC_seq, evC_reg, evC_cond, evC_block, evS_cons, evS_nil, stepS_n, bindS_some, stS_some, setDst_some, evOp_mv, evOp_ldn, evOp_bin, evOp_ia, evOp_call, v1_k, v2_k, opd_t, opd_c, Trie.get_set, k1_some, k2_some, ret1_some, normR_some, thenR_norm, condR_f, blockR_norm, vBin_int, binI_leq, evL_nil, evL_cons, consO_some, evCl_some, ↓reduceIte, decide_true, Bool.not_true, Nat.reduceEqDiff, Int.ofNat_eq_natCast, Int.cast_ofNat_Int, cutO_some, vLdn_get, PD0, a0, a5, x1, x2, x3, k1, h0]
        refine ⟨_, rfl, ?_, ?_, ?_⟩ <;> simp (disch := first | omega | (simp only [next_alloc, next_put] <;> omega) | (repeat (first | assumption | apply Ok.alloc | apply Ok.put))) only [Trie.get_set, ↓reduceIte, Nat.reduceEqDiff, a0, a3, a5]
      obtain ⟨tm2, p1, p0, p3, p5⟩ := hP
      have hlt := hsl.sl.lt
      have hw : IntKind.wrap .i64 ((pre.length : Int) + 1) = ((pre.length + 1 : Nat) : Int) := by rw [wrap_id (by omega) (by omega)]; omega
      have hI : ∃ tm', evC E (evT E O (n + 1)) none ID0 ⟨tm2, []⟩ s2 = some (.norm, ⟨tm', []⟩, s2) ∧ tm'.get 0 = some kv ∧ tm'.get 3 = some (.ptr b 0) ∧ tm'.get 5 = some (.int .i64 ((pre.length + 1 : Nat) : Int)) := by
        simp (disch := first | omega | (simp only [next_alloc, next_put] <;> omega) | (repeat (first | assumption | apply Ok.alloc | apply Ok.put))) only [evC_reg, evS_cons, evS_nil, stepS_n, bindS_some, stS_some, setDst_some, evOp_mv, evOp_bin, v1_k, v2_k, opd_t, opd_c, Trie.get_set, k1_some, k2_some, ret1_some, normR_some, vBin_int, binI_add, ↓reduceIte, Int.ofNat_eq_natCast, Int.cast_ofNat_Int, ID0, p5, hw]
        refine ⟨_, rfl, ?_, ?_, ?_⟩ <;> simp (disch := first | omega | (simp only [next_alloc, next_put] <;> omega) | (repeat (first | assumption | apply Ok.alloc | apply Ok.put))) only [Trie.get_set, ↓reduceIte, Nat.reduceEqDiff, p0, p3]
      obtain ⟨tm3, i1, i0, i3, i5⟩ := hI
      have hbody : evC E (evT E O (n + 1)) none b3_0 ⟨tm, []⟩ s = some (.norm, ⟨tm3, []⟩, s2) := by
        rw [b3_0_eq, evC_seq, e1, thenR_norm, evC_seq, p1, thenR_norm, i1]
      obtain ⟨tm4, s4, q1, q2, q3⟩ := ih n (by omega) (pre ++ [d]) ds s2 tm3 b kv cells (by simp [hds]) ok2 (hsl.mono (KeepB.le kp2 hok)) i0 i3 (by simpa using i5)
      refine ⟨tm4, s4, q1, kp2.trans (q2.weak kp2.next), ?_⟩
      rw [evC_loop, hbody, thenR_norm, evT_loop]
      exact q3
    · have hP : ∃ tm', evC E (evT E O (n + 1)) none PD0 ⟨tm1, []⟩ s = some (.ret, ⟨tm', []⟩, s2) ∧ tm'.get 4 = some (.bool true) := by
        have htr := evT_true (E := E) h5 n s2
        simp (disch := first | omega | (simp only [next_alloc, next_put] <;> omega) | (repeat (first | assumption | apply Ok.alloc | apply Ok.put))) only [aggO_some, evC_seq, evC_reg, evC_ret, evC_cond, evC_block, evS_cons, evS_nil, stepS_n, bindS_some, stS_some, setDst_some, evOp_mv, evOp_ldn, evOp_bin, evOp_ia, evOp_call, v1_k, v2_k, opd_t, opd_c, Trie.get_set, k1_some, k2_some, ret1_some, normR_some, thenR_norm, condR_t, blockR_ret, vBin_int, binI_leq, evL_nil, evL_cons, consO_some, evCl_some, ↓reduceIte, decide_false, Bool.not_false, Nat.reduceEqDiff, Int.ofNat_eq_natCast, Int.cast_ofNat_Int, cutO_some, vLdn_get, PD0, a0, a5, x1, x2, x3, k1, h0, htr]
        refine ⟨_, rfl, ?_⟩
        simp (disch := first | omega | (simp only [next_alloc, next_put] <;> omega) | (repeat (first | assumption | apply Ok.alloc | apply Ok.put))) only [Trie.get_set, ↓reduceIte, ]
      obtain ⟨tm2, p1, p4⟩ := hP
      refine ⟨tm2, s2, ok2, kp2, .inr ⟨?_, p4⟩⟩
      rw [evC_loop, b3_0_eq, evC_seq, e1, thenR_norm, evC_seq, p1, thenR_ret, thenR_ret]

/-! ### The loop over the items -/
theorem dl_reg {E : Env} {S : Self} {s : St} {tm : Trie AV} {x u : AV} {l : List DT} {c1 c2 : List AV} {i : Nat} (hok : Ok s) (h1 : SlAt s.get x l c1) (h2 : SlAt s.get u l c2)
    (hi : i < l.length) (g8 : tm.get 8 = some x) (g10 : tm.get 10 = some u) (g12 : tm.get 12 = some (.int .i64 (i : Nat)))
    (hc : ∀ s2 c1 c2, Ok s2 → Rep s2.get l[i] c1 → Rep s2.get l[i] c2 → Ret (S.call 10 [.agg c1, .agg c2] s2) fun v t => v = .bool true ∧ Ok t ∧ Keep s2 t) :
    ∃ tm' s', regdR E S RDL ⟨tm, []⟩ s = some (.norm, ⟨tm', []⟩, s') ∧ tm'.get 83 = some (.bool false) ∧ tm'.get 8 = some x ∧ tm'.get 10 = some u ∧ tm'.get 12 = some (.int .i64 (i : Nat)) ∧ Ok s' ∧ Keep s s' := by
  obtain ⟨id1, off1, cs1, c51, x1, x2, x3, x4, _⟩ := h1.sl.at h1.rep hi
  obtain ⟨id2, off2, cs2, c52, y1, y2, y3, y4, _⟩ := h2.sl.at h2.rep hi
  obtain ⟨o1, ho1⟩ := rowO_some x2
  obtain ⟨o2, ho2⟩ := rowO_some y2
  have l1 := hok.lt ho1
  have l2 := hok.lt ho2
  refine regdR_of (fr := ⟨tm, []⟩) hok ?_
  unfold RDL
  refine RD_pure (b := s.next) x hok (Lg.nil _ _) (Nat.le_refl _) (fun s2 => by simp (disch := first | omega | (simp only [next_alloc, next_put] <;> omega) | (repeat (first | assumption | apply Ok.alloc | apply Ok.put))) only [evOp_mv, v1_k, opd_t, k1_some, ret1_some, g8]) fun log hl hn => ?_
  refine RD_pure (.int .i64 (i : Nat)) hok hl (Nat.le_refl _) (fun s2 => by simp (disch := first | omega | (simp only [next_alloc, next_put] <;> omega) | (repeat (first | assumption | apply Ok.alloc | apply Ok.put))) only [setDst_some, evOp_mv, v1_k, opd_t, Trie.get_set, k1_some, ret1_some, ↓reduceIte, Nat.reduceEqDiff, g12]) fun log hl hn2 => ?_
  refine RD_pure (.ptr id1 off1) hok hl (Nat.le_refl _) (fun s2 => by simp (disch := first | omega | (simp only [next_alloc, next_put] <;> omega) | (repeat (first | assumption | apply Ok.alloc | apply Ok.put))) only [setDst_some, evOp_ia, v2_k, opd_t, Trie.get_set, k2_some, ret1_some, ↓reduceIte, Nat.reduceEqDiff, x1]) fun log hl hn3 => ?_
  refine RD_ldn hok hl (Nat.le_refl _) (by simp (disch := first | omega | (simp only [next_alloc, next_put] <;> omega) | (repeat (first | assumption | apply Ok.alloc | apply Ok.put))) only [setDst_some, opd_t, Trie.get_set, ↓reduceIte, ]) l1 x2 x3 fun log hl hn4 => ?_
  refine RD_pure u hok hl (Nat.le_refl _) (fun s2 => by simp (disch := first | omega | (simp only [next_alloc, next_put] <;> omega) | (repeat (first | assumption | apply Ok.alloc | apply Ok.put))) only [setDst_some, evOp_mv, v1_k, opd_t, Trie.get_set, k1_some, ret1_some, ↓reduceIte, Nat.reduceEqDiff, g10]) fun log hl hn5 => ?_
  refine RD_pure (.int .i64 (i : Nat)) hok hl (Nat.le_refl _) (fun s2 => by simp (disch := first | omega | (simp only [next_alloc, next_put] <;> omega) | (repeat (first | assumption | apply Ok.alloc | apply Ok.put))) only [setDst_some, evOp_mv, v1_k, opd_t, Trie.get_set, k1_some, ret1_some, ↓reduceIte, Nat.reduceEqDiff, g12]) fun log hl hn6 => ?_
  refine RD_pure (.ptr id2 off2) hok hl (Nat.le_refl _) (fun s2 => by simp (disch := first | omega | (simp only [next_alloc, next_put] <;> omega) | (repeat (first | assumption | apply Ok.alloc | apply Ok.put))) only [setDst_some, evOp_ia, v2_k, opd_t, Trie.get_set, k2_some, ret1_some, ↓reduceIte, Nat.reduceEqDiff, y1]) fun log hl hn7 => ?_
  refine RD_ldn hok hl (Nat.le_refl _) (by simp (disch := first | omega | (simp only [next_alloc, next_put] <;> omega) | (repeat (first | assumption | apply Ok.alloc | apply Ok.put))) only [setDst_some, opd_t, Trie.get_set, ↓reduceIte, ]) l2 y2 y3 fun log hl hn8 => ?_
  refine RD_call (vs := [.agg c51, .agg c52]) (C := fun v _ => v = .bool true) hok hl (hn8 (hn7 (hn6 (hn5 (hn4 (hn3 (hn2 (hn Ln.nil)))))))) (Nat.le_refl _) (by simp (disch := first | omega | (simp only [next_alloc, next_put] <;> omega) | (repeat (first | assumption | apply Ok.alloc | apply Ok.put))) only [setDst_some, opd_t, Trie.get_set, evL_nil, evL_cons, consO_some, ↓reduceIte, Nat.reduceEqDiff, ]) ?_ ?_
  · intro s2 ok2 e2
    obtain ⟨v, t, q1, q2, q3, q4⟩ := hc s2 c51 c52 ok2 (e2 ▸ x4) (e2 ▸ y4)
    exact ⟨v, t, q1, q3, q4, q2⟩
  · rintro v log s' hl ok' hk rfl
    refine RD_pure (b := s.next) (.bool false) ok' hl hk.next (fun s2 => by simp (disch := first | omega | (simp only [next_alloc, next_put] <;> omega) | (repeat (first | assumption | apply Ok.alloc | apply Ok.put))) only [setDst_some, evOp_un, v1_k, opd_t, Trie.get_set, k1_some, ret1_some, vUn_not, ↓reduceIte, Bool.not_true, ]) fun log hl hn11 => ?_
    refine RD_nil ⟨by simp (disch := first | omega | (simp only [next_alloc, next_put] <;> omega) | (repeat (first | assumption | apply Ok.alloc | apply Ok.put))) only [setDst_some, Trie.get_set, ↓reduceIte, ], by simp (disch := first | omega | (simp only [next_alloc, next_put] <;> omega) | (repeat (first | assumption | apply Ok.alloc | apply Ok.put))) only [setDst_some, Trie.get_set, ↓reduceIte, Nat.reduceEqDiff, g8], by simp (disch := first | omega | (simp only [next_alloc, next_put] <;> omega) | (repeat (first | assumption | apply Ok.alloc | apply Ok.put))) only [setDst_some, Trie.get_set, ↓reduceIte, Nat.reduceEqDiff, g10], by simp (disch := first | omega | (simp only [next_alloc, next_put] <;> omega) | (repeat (first | assumption | apply Ok.alloc | apply Ok.put))) only [setDst_some, Trie.get_set, ↓reduceIte, Nat.reduceEqDiff, g12], ok', hk⟩

theorem dl_loop1 {E : Env} {O : List Nat} : ∀ (r : List DT), (∀ d ∈ r, PlacedOk E O d) → ∃ N, ∀ n, N ≤ n →
    ∀ (pre l : List DT) (s : St) (tm : Trie AV) (x u : AV) (c1 c2 : List AV), l = pre ++ r → Ok s → SlAt s.get x l c1 → SlAt s.get u l c2 →
    tm.get 8 = some x → tm.get 10 = some u → tm.get 12 = some (.int .i64 (pre.length : Nat)) →
    ∃ tm' s', evC E (evT E O n) none (.loop b3_1) ⟨tm, []⟩ s = some (.exit 2, ⟨tm', []⟩, s') ∧ Ok s' ∧ Keep s s'
  | [], _ => by
    refine ⟨0, fun n _ pre l s tm x u c1 c2 hl hok h1 h2 g8 g10 g12 => ?_⟩
    have hc : ¬ ((pre.length : Int) < (l.length : Nat)) := by simp [hl]
    have hA : ∃ tm', evC E (evT E O n) none ADL ⟨tm, []⟩ s = some (.exit 2, ⟨tm', []⟩, s) := by
      simp (disch := first | omega | (simp only [next_alloc, next_put] <;> omega) | (repeat (first | assumption | apply Ok.alloc | apply Ok.put))) only [evC_seq, evC_reg, evC_cond, evC_exit, evS_cons, evS_nil, stepS_n, bindS_some, stS_some, setDst_some, evOp_mv, evOp_bin, evOp_len, v1_k, v2_k, opd_t, Trie.get_set, k1_some, k2_some, ret1_some, normR_some, thenR_norm, condR_f, vBin_int, binI_lss, ↓reduceIte, decide_false, Nat.reduceEqDiff, ADL, g8, g12, h1.sl.len, hc]
      exact ⟨_, rfl⟩
    obtain ⟨tm', e1⟩ := hA
    rw [evC_loop, b3_1_eq, evC_seq, e1, thenR_exit, thenR_exit]
    exact ⟨tm', s, rfl, hok, KeepB.refl _ _⟩
  | d :: r, hall => by
    obtain ⟨N1, hd⟩ := hall d (by simp)
    obtain ⟨N2, ih⟩ := dl_loop1 r (fun d hd => hall d (by simp [hd]))
    refine ⟨N1 + N2 + 1, fun n hn pre l s tm x u c1 c2 hl hok h1 h2 g8 g10 g12 => ?_⟩
    have hi : pre.length < l.length := by simp [hl]
    have hc : (pre.length : Int) < (l.length : Nat) := by omega
    have hel : l[pre.length] = d := by simp [hl]
    have hA : ∃ tm', evC E (evT E O n) none ADL ⟨tm, []⟩ s = some (.norm, ⟨tm', []⟩, s) ∧ tm'.get 8 = some x ∧ tm'.get 10 = some u ∧ tm'.get 12 = some (.int .i64 (pre.length : Nat)) := by
      simp (disch := first | omega | (simp only [next_alloc, next_put] <;> omega) | (repeat (first | assumption | apply Ok.alloc | apply Ok.put))) only [evC_skip, evC_seq, evC_reg, evC_cond, evS_cons, evS_nil, stepS_n, bindS_some, stS_some, setDst_some, evOp_mv, evOp_bin, evOp_len, v1_k, v2_k, opd_t, Trie.get_set, k1_some, k2_some, ret1_some, normR_some, thenR_norm, condR_t, vBin_int, binI_lss, ↓reduceIte, decide_true, Nat.reduceEqDiff, ADL, g8, g12, h1.sl.len, hc]
      refine ⟨_, rfl, ?_, ?_, ?_⟩ <;> simp (disch := first | omega | (simp only [next_alloc, next_put] <;> omega) | (repeat (first | assumption | apply Ok.alloc | apply Ok.put))) only [Trie.get_set, ↓reduceIte, Nat.reduceEqDiff, g8, g10, g12]
    obtain ⟨tm1, e1, a2, a3, a5⟩ := hA
    obtain ⟨tm2, s2, r1, r59, r2, r3, r5, ok2, kp2⟩ := dl_reg (E := E) (S := evT E O n) hok h1 h2 hi a2 a3 a5 (fun s2 c1 c2 ok q1 q2 => hd n (by omega) s2 c1 c2 ok (hel ▸ q1) (hel ▸ q2))
    have hC : evC E (evT E O n) none CDL ⟨tm2, []⟩ s2 = some (.norm, ⟨tm2, []⟩, s2) := by
      simp (disch := first | omega | (simp only [next_alloc, next_put] <;> omega) | (repeat (first | assumption | apply Ok.alloc | apply Ok.put))) only [evC_skip, evC_cond, opd_t, condR_f, CDL, r59]
    have hlt := h1.sl.lt
    have hw : IntKind.wrap .i64 ((pre.length : Int) + 1) = ((pre.length + 1 : Nat) : Int) := by rw [wrap_id (by omega) (by omega)]; omega
    have hI : ∃ tm', evC E (evT E O n) none IDL ⟨tm2, []⟩ s2 = some (.norm, ⟨tm', []⟩, s2) ∧ tm'.get 8 = some x ∧ tm'.get 10 = some u ∧ tm'.get 12 = some (.int .i64 ((pre.length + 1 : Nat) : Int)) := by
      simp (disch := first | omega | (simp only [next_alloc, next_put] <;> omega) | (repeat (first | assumption | apply Ok.alloc | apply Ok.put))) only [evC_reg, evS_cons, evS_nil, stepS_n, bindS_some, stS_some, setDst_some, evOp_mv, evOp_bin, v1_k, v2_k, opd_t, opd_c, Trie.get_set, k1_some, k2_some, ret1_some, normR_some, vBin_int, binI_add, ↓reduceIte, Int.ofNat_eq_natCast, Int.cast_ofNat_Int, IDL, r5, hw]
      refine ⟨_, rfl, ?_, ?_, ?_⟩ <;> simp (disch := first | omega | (simp only [next_alloc, next_put] <;> omega) | (repeat (first | assumption | apply Ok.alloc | apply Ok.put))) only [Trie.get_set, ↓reduceIte, Nat.reduceEqDiff, r2, r3]
    obtain ⟨tm3, i1, i2, i3, i5⟩ := hI
    have hbody : evC E (evT E O n) none b3_1 ⟨tm, []⟩ s = some (.norm, ⟨tm3, []⟩, s2) := by
      rw [b3_1_eq, evC_seq, e1, thenR_norm, evC_seq, evC_block, evC_seq, evC_regd, r1, thenR_norm, hC, blockR_norm, thenR_norm, i1]
    rw [evC_loop, hbody, thenR_norm]
    obtain ⟨n, rfl⟩ : ∃ m, n = m + 1 := ⟨n - 1, by omega⟩
    rw [evT_loop]
    have hle := KeepB.le kp2 hok
    obtain ⟨tm4, s4, q1, q2, q3⟩ := ih n (by omega) (pre ++ [d]) l s2 tm3 x u c1 c2 (by simp [hl]) ok2 (h1.mono hle) (h2.mono hle) i2 i3 (by simpa using i5)
    exact ⟨tm4, s4, q1, q2, kp2.trans (q3.weak kp2.next)⟩
end Go.Proofs.YtagpffdamckekaaGreatDoor.Ev

/- By symbolic evaluation, for every datum: the statement answers true. No conditions but what is said of the memory. -/
import Derived.Test.YtagpffdamckekaaGreatDoorTMain
namespace Go.Proofs.YtagpffdamckekaaGreatDoor.Ev
open T
set_option maxRecDepth 100000

/-- a new place, and what is put there -/
def nb (s : St) (c : List AV) : St := (s.alloc (.row 24 [.int .i64 0, .int .i64 0, .str [], .nils, .int .i64 0] false false)).put s.next (.row 24 c false false)
theorem nb_ok {s : St} (h : Ok s) (c : List AV) : Ok (nb s c) := (h.alloc _).put (by rw [next_alloc]; omega)
theorem nb_keep (s : St) (c : List AV) : Keep s (nb s c) := ((KeepB.refl _ _).alloc _ (Nat.le_refl _)).put _ _ (Nat.le_refl _)
theorem nb_get {s : St} (h : Ok s) (c : List AV) : (nb s c).get s.next = some (.row 24 c false false) := get_put_new (get_alloc_new h _)

theorem over5 {G : Nat → Option AObj} {d : DT} {c : List AV} (h : Rep G d c) : lenN c = 5 ∧ allScal c = true ∧ over [.int .i64 0, .int .i64 0, .str [], .nils, .int .i64 0] c = some c ∧ cut c 0 5 = some c := by
  have l := h.length
  refine ⟨by rw [lenN_eq]; exact l, h.scal, ?_, by rw [cut_eq (by omega), List.drop_zero, List.take_of_length_le (by omega)]⟩
  obtain ⟨k', n', t', kv', hce, _⟩ := h.parts
  rw [hce]; rfl

theorem dl_l6 {E : Env} {S : Self} {s s1 : St} {tm : Trie AV} {b : Nat} {kv : AV} {d e : DT} {G G' : Nat → Option AObj} {cs c : List AV} (hok1 : Ok s1) (g0 : tm.get 0 = some kv) (g3 : tm.get 3 = some (.ptr b 0)) (hb : s.get b = some (.row 24 cs false false)) (hd : Rep G d cs) (he : Rep G' e c) (hc : S.call 6 [kv, .agg cs] s = some (.agg c, s1)) :
    ∃ tm', evC E S none D_L6 ⟨tm, []⟩ s = some (.norm, ⟨tm', []⟩, nb s1 c) ∧ tm'.get 0 = some kv ∧ tm'.get 3 = some (.ptr b 0) ∧ tm'.get 6 = some (.ptr s1.next 0) := by
  obtain ⟨_, _, _, a4⟩ := over5 hd
  obtain ⟨b1, b2, b3, _⟩ := over5 he
  simp (disch := first | omega | (simp only [next_alloc, next_put] <;> omega) | (repeat (first | assumption | apply Ok.alloc | apply Ok.put))) only [aggO_some, beq_d, evC_reg, evS_cons, evS_nil, stepS_n, bindS_some, stS_some, setDst_some, setDst_none, evOp_mv, evOp_alloc, evOp_ldn, evOp_st, evOp_call, o2_k, v1_k, opd_t, Trie.get_set, k1_some, b2_some, oAlloc_eq, ret1_some, cells_agg, normR_some, evL_nil, evL_cons, consO_some, evCl_some, ↓reduceIte, decide_true, Bool.and_true, cond_true, Nat.reduceEqDiff, Int.ofNat_eq_natCast, Int.cast_ofNat_Int, rowO_row, cutO_some, vLdn_get, putO_some, stO_row, oSt_get, get_alloc_at, paste, D_L6, g0, g3, hb, a4, hc, b1, b2, b3]
  refine ⟨_, rfl, ?_, ?_, ?_⟩ <;> simp (disch := first | omega | (simp only [next_alloc, next_put] <;> omega) | (repeat (first | assumption | apply Ok.alloc | apply Ok.put))) only [Trie.get_set, ↓reduceIte, Nat.reduceEqDiff, g0, g3]
theorem dl_l7 {E : Env} {S : Self} {s s1 : St} {tm : Trie AV} {b q : Nat} {kv : AV} {d e : DT} {G G' : Nat → Option AObj} {cs c : List AV} (hok1 : Ok s1) (g0 : tm.get 0 = some kv) (g3 : tm.get 3 = some (.ptr b 0)) (g6 : tm.get 6 = some (.ptr q 0)) (hb : s.get b = some (.row 24 cs false false)) (hd : Rep G d cs) (he : Rep G' e c) (hc : S.call 7 [kv, .agg cs] s = some (.agg c, s1)) :
    ∃ tm', evC E S none D_L7 ⟨tm, []⟩ s = some (.norm, ⟨tm', []⟩, nb s1 c) ∧ tm'.get 6 = some (.ptr q 0) ∧ tm'.get 7 = some (.ptr s1.next 0) := by
  obtain ⟨_, _, _, a4⟩ := over5 hd
  obtain ⟨b1, b2, b3, _⟩ := over5 he
  simp (disch := first | omega | (simp only [next_alloc, next_put] <;> omega) | (repeat (first | assumption | apply Ok.alloc | apply Ok.put))) only [aggO_some, beq_d, evC_reg, evS_cons, evS_nil, stepS_n, bindS_some, stS_some, setDst_some, setDst_none, evOp_mv, evOp_alloc, evOp_ldn, evOp_st, evOp_call, o2_k, v1_k, opd_t, Trie.get_set, k1_some, b2_some, oAlloc_eq, ret1_some, cells_agg, normR_some, evL_nil, evL_cons, consO_some, evCl_some, ↓reduceIte, decide_true, Bool.and_true, cond_true, Nat.reduceEqDiff, Int.ofNat_eq_natCast, Int.cast_ofNat_Int, rowO_row, cutO_some, vLdn_get, putO_some, stO_row, oSt_get, get_alloc_at, paste, D_L7, g0, g3, hb, a4, hc, b1, b2, b3]
  refine ⟨_, rfl, ?_, ?_⟩ <;> simp (disch := first | omega | (simp only [next_alloc, next_put] <;> omega) | (repeat (first | assumption | apply Ok.alloc | apply Ok.put))) only [Trie.get_set, ↓reduceIte, Nat.reduceEqDiff, g6]
theorem dl_x8 {E : Env} {S : Self} {s s1 : St} {tm : Trie AV} {q q' : Nat} {av : AV} {d e : DT} {G G' : Nat → Option AObj} {cs c : List AV} (hok1 : Ok s1) (g6 : tm.get 6 = some (.ptr q 0)) (g7 : tm.get 7 = some (.ptr q' 0)) (hb : s.get q = some (.row 24 cs false false)) (hd : Rep G d cs) (he : Rep G' e c) (hc : S.call 8 [.agg cs] s = some (.tup [av, .agg c], s1)) :
    ∃ tm', evC E S none D_X8 ⟨tm, []⟩ s = some (.norm, ⟨tm', []⟩, nb s1 c) ∧ tm'.get 6 = some (.ptr q 0) ∧ tm'.get 7 = some (.ptr q' 0) ∧ tm'.get 8 = some av ∧ tm'.get 9 = some (.ptr s1.next 0) := by
  obtain ⟨_, _, _, a4⟩ := over5 hd
  obtain ⟨b1, b2, b3, _⟩ := over5 he
  simp (disch := first | omega | (simp only [next_alloc, next_put] <;> omega) | (repeat (first | assumption | apply Ok.alloc | apply Ok.put))) only [aggO_some, beq_d, evC_reg, evS_cons, evS_nil, stepS_n, bindS_some, stS_some, setDst_some, setDst_none, evOp_mv, evOp_alloc, evOp_ldn, evOp_st, evOp_ex, evOp_call, o2_k, v1_k, opd_t, Trie.get_set, k1_some, b2_some, oAlloc_eq, ret1_some, cells_agg, normR_some, evL_nil, evL_cons, consO_some, evCl_some, headV_cons, vEx_tup, dropN, ↓reduceIte, decide_true, Bool.and_true, cond_true, Nat.reduceEqDiff, Int.ofNat_eq_natCast, Int.cast_ofNat_Int, rowO_row, cutO_some, vLdn_get, putO_some, stO_row, oSt_get, get_alloc_at, paste, D_X8, g6, hb, a4, hc, b1, b2, b3]
  refine ⟨_, rfl, ?_, ?_, ?_, ?_⟩ <;> simp (disch := first | omega | (simp only [next_alloc, next_put] <;> omega) | (repeat (first | assumption | apply Ok.alloc | apply Ok.put))) only [Trie.get_set, ↓reduceIte, Nat.reduceEqDiff, g6, g7]
theorem dl_x9 {E : Env} {S : Self} {s s1 : St} {tm : Trie AV} {q q' p : Nat} {av x : AV} {d e : DT} {G G' : Nat → Option AObj} {cs c : List AV} (hok1 : Ok s1) (g6 : tm.get 6 = some (.ptr q 0)) (g7 : tm.get 7 = some (.ptr q' 0)) (g8 : tm.get 8 = some x) (g9 : tm.get 9 = some (.ptr p 0)) (hb : s.get q' = some (.row 24 cs false false)) (hd : Rep G d cs) (he : Rep G' e c) (hc : S.call 9 [.agg cs] s = some (.tup [av, .agg c], s1)) :
    ∃ tm', evC E S none D_X9 ⟨tm, []⟩ s = some (.norm, ⟨tm', []⟩, nb s1 c) ∧ tm'.get 6 = some (.ptr q 0) ∧ tm'.get 7 = some (.ptr q' 0) ∧ tm'.get 8 = some x ∧ tm'.get 9 = some (.ptr p 0) ∧ tm'.get 10 = some av ∧ tm'.get 11 = some (.ptr s1.next 0) := by
  obtain ⟨_, _, _, a4⟩ := over5 hd
  obtain ⟨b1, b2, b3, _⟩ := over5 he
  simp (disch := first | omega | (simp only [next_alloc, next_put] <;> omega) | (repeat (first | assumption | apply Ok.alloc | apply Ok.put))) only [aggO_some, beq_d, evC_reg, evS_cons, evS_nil, stepS_n, bindS_some, stS_some, setDst_some, setDst_none, evOp_mv, evOp_alloc, evOp_ldn, evOp_st, evOp_ex, evOp_call, o2_k, v1_k, opd_t, Trie.get_set, k1_some, b2_some, oAlloc_eq, ret1_some, cells_agg, normR_some, evL_nil, evL_cons, consO_some, evCl_some, headV_cons, vEx_tup, dropN, ↓reduceIte, decide_true, Bool.and_true, cond_true, Nat.reduceEqDiff, Int.ofNat_eq_natCast, Int.cast_ofNat_Int, rowO_row, cutO_some, vLdn_get, putO_some, stO_row, oSt_get, get_alloc_at, paste, D_X9, g7, hb, a4, hc, b1, b2, b3]
  refine ⟨_, rfl, ?_, ?_, ?_, ?_, ?_, ?_⟩ <;> simp (disch := first | omega | (simp only [next_alloc, next_put] <;> omega) | (repeat (first | assumption | apply Ok.alloc | apply Ok.put))) only [Trie.get_set, ↓reduceIte, Nat.reduceEqDiff, g6, g7, g8, g9]
theorem dl_t10 {E : Env} {S : Self} {s s1 s2 : St} {tm : Trie AV} {q q' p p' : Nat} {x u : AV} {n : Nat} {c1 c2 c3 c4 : List AV} (g6 : tm.get 6 = some (.ptr q 0)) (g7 : tm.get 7 = some (.ptr q' 0)) (g8 : tm.get 8 = some x) (g9 : tm.get 9 = some (.ptr p 0)) (g10 : tm.get 10 = some u) (g11 : tm.get 11 = some (.ptr p' 0))
    (h6 : s.get q = some (.row 24 c1 false false)) (h7 : s.get q' = some (.row 24 c2 false false)) (h9 : s1.get p = some (.row 24 c3 false false)) (h11 : s1.get p' = some (.row 24 c4 false false)) (k1 : cut c1 0 5 = some c1) (k2 : cut c2 0 5 = some c2) (k3 : cut c3 0 5 = some c3) (k4 : cut c4 0 5 = some c4)
    (lx : ∀ s, vLen s .v x = some (.int .i64 (n : Nat))) (lu : ∀ s, vLen s .v u = some (.int .i64 (n : Nat))) (hc1 : S.call 10 [.agg c1, .agg c2] s = some (.bool true, s1)) (hc2 : S.call 10 [.agg c3, .agg c4] s1 = some (.bool true, s2)) :
    ∃ tm', evC E S none D_T10 ⟨tm, []⟩ s = some (.norm, ⟨tm', []⟩, s2) ∧ tm'.get 8 = some x ∧ tm'.get 10 = some u := by
  simp (disch := first | omega | (simp only [next_alloc, next_put] <;> omega) | (repeat (first | assumption | apply Ok.alloc | apply Ok.put))) only [aggO_some, evC_skip, evC_seq, evC_reg, evC_cond, evS_cons, evS_nil, stepS_n, stepS_g, bindS_some, stS_some, setDst_some, evOp_mv, evOp_pick, evOp_ldn, evOp_bin, evOp_un, evOp_len, evOp_call, v1_k, v2_k, opd_t, opd_c, Trie.get_set, k1_some, k2_some, ret1_some, normR_some, thenR_norm, condR_f, vBin_int, binI_neq, vUn_not, wantB_f, gstep_t, vPick_f, evL_nil, evL_cons, consO_some, evCl_some, ↓reduceIte, decide_true, Bool.not_true, Bool.not_false, Nat.reduceEqDiff, rowO_row, cutO_some, vLdn_get, D_T10, g6, g7, g8, g9, g10, g11, h6, h7, h9, h11, k1, k2, k3, k4, lx, lu, hc1, hc2]
  refine ⟨_, rfl, ?_, ?_⟩ <;> simp (disch := first | omega | (simp only [next_alloc, next_put] <;> omega) | (repeat (first | assumption | apply Ok.alloc | apply Ok.put))) only [Trie.get_set, ↓reduceIte, Nat.reduceEqDiff, g8, g10]

theorem D_r1 {E : Env} {S : Self} {s : St} {tm : Trie AV} {b : Nat} {kv kv' : AV} {n : Nat} (g0 : tm.get 0 = some kv) (g3 : tm.get 3 = some (.ptr b 0)) (lx : ∀ s, vLen s .v kv = some (.int .i64 (n : Nat))) (hv : vSlv 5 kv none (some (.int .i64 ((if 40 < n then 40 else n : Nat) : Int))) none = some kv') :
    ∃ tm', evC E S none D_R1 ⟨tm, []⟩ s = some (.norm, ⟨tm', []⟩, s) ∧ tm'.get 0 = some kv' ∧ tm'.get 3 = some (.ptr b 0) := by
  have hif : (if (40 : Int) < (n : Int) then (40 : Int) else (n : Int)) = ((if 40 < n then 40 else n : Nat) : Int) := by
    by_cases h : 40 < n
    · rw [if_pos h, if_pos (by omega)]; rfl
    · rw [if_neg h, if_neg (by omega)]
  simp (disch := first | omega | (simp only [next_alloc, next_put] <;> omega) | (repeat (first | assumption | apply Ok.alloc | apply Ok.put))) only [evC_reg, evS_cons, stepS_n, bindS_some, stS_some, setDst_some, evOp_mv, evOp_len, v1_k, opd_t, Trie.get_set, k1_some, ret1_some, ↓reduceIte, Nat.reduceEqDiff, Int.ofNat_eq_natCast, Int.cast_ofNat_Int, D_R1, g0, lx, evOp_mn]
  rw [vL_k _ _ _ _ (show evL _ [Opd.t 15, Opd.c (.int .i64 40)] = some [.int .i64 (n : Nat), .int .i64 40] by simp (disch := first | omega | (simp only [next_alloc, next_put] <;> omega) | (repeat (first | assumption | apply Ok.alloc | apply Ok.put))) only [opd_t, opd_c, Trie.get_set, evL_nil, evL_cons, consO_some, ↓reduceIte, ])]
  rw [vMn_two, hif]
  simp (disch := first | omega | (simp only [next_alloc, next_put] <;> omega) | (repeat (first | assumption | apply Ok.alloc | apply Ok.put))) only [evS_cons, evS_nil, stepS_n, bindS_some, stS_some, setDst_some, evOp_mv, evOp_slv, v1_k, opd_t, Trie.get_set, k1_some, ret1_some, normR_some, ↓reduceIte, Nat.reduceEqDiff, vs4, vs3, evO, hv]
  refine ⟨_, rfl, ?_, ?_⟩ <;> simp (disch := first | omega | (simp only [next_alloc, next_put] <;> omega) | (repeat (first | assumption | apply Ok.alloc | apply Ok.put))) only [Trie.get_set, ↓reduceIte, Nat.reduceEqDiff, g3]

theorem smallL_all {E : Env} {O : List Nat} (hE : E.funs.get 4 = some f4) (hO : memN 4 O = false) (l : List DT) : ∀ d ∈ l, SmallOk E O d := fun d _ => small_ok hE hO d
theorem placed_all {E : Env} {O : List Nat} (hE : E.funs.get 10 = some f10) (hO : memN 10 O = false) (l : List DT) : ∀ d ∈ l, PlacedOk E O d := fun d _ => placed_ok hE hO d

structure DlEnv (E : Env) (O : List Nat) : Prop where
  e3 : E.funs.get 3 = some f3
  e4 : E.funs.get 4 = some f4
  e6 : E.funs.get 6 = some f6
  e7 : E.funs.get 7 = some f7
  e8 : E.funs.get 8 = some f8
  e9 : E.funs.get 9 = some f9
  e10 : E.funs.get 10 = some f10
  e14 : E.funs.get 14 = some f14
  e15 : E.funs.get 15 = some f15
  e22 : E.funs.get 22 = some f22
  o : O = [5]

theorem dl_ok {E : Env} {O : List Nat} (hE : DlEnv E O) (ds : List DT) (d : DT) : ∃ N, ∀ n, N ≤ n → ∀ (s : St) (kv : AV) (cells cs : List AV), Ok s → SlAt s.get kv ds cells → TopSl kv → Rep s.get d cs →
    Ret ((evT E O n).call 3 [kv, .agg cs] s) fun v _ => v = .bool true := by
  have hO : O = [5] := hE.o
  have o5 : memN 5 O = true := by rw [hO]; rfl
  have on : ∀ k, k ≠ 5 → memN k O = false := fun k hk => by
    rw [hO]
    show (bif Nat.beq k 5 then true else false) = false
    cases h : Nat.beq k 5 with
    | true => exact absurd (beq_iff.1 h) hk
    | false => rfl
  obtain ⟨N1, hsm⟩ := small_ok hE.e4 (on 4 (by decide)) d
  obtain ⟨N2, hl0⟩ := dl_loop0 (E := E) o5 (ds.take 40) (smallL_all hE.e4 (on 4 (by decide)) _)
  obtain ⟨N3, hli⟩ := list_ok hE.e6 (on 6 (by decide)) hE.e14 (on 14 (by decide)) hE.e22 (on 22 (by decide)) (ds.take 40) d
  obtain ⟨N4, hrl⟩ := rlist_ok hE.e7 (on 7 (by decide)) (ds.take 40) d
  obtain ⟨l0, z, hir, hil⟩ := items_ex d.size d (Nat.le_refl _)
  have hir2 := items_list hir (ds.take 40)
  -- what the fuel must be where the data are small
  have hbig : 0 < smallF d 300 → ∃ N, ∀ n, N ≤ n → (∀ (s : St) (cs : List AV), Ok s → Rep s.get (listF (ds.take 40) d) cs →
      Ret ((evT E O n).call 8 [.agg cs] s) fun v s' => Ok s' ∧ Keep s s' ∧ ∃ av c cells, v = .tup [av, .agg c] ∧ SliceOf s'.get av (ds.take 40 ++ l0).length cells ∧ RepL s'.get (ds.take 40 ++ l0) cells ∧ Rep s'.get z c) ∧ (∀ (s : St) (cs : List AV), Ok s → Rep s.get (listF (ds.take 40) d) cs →
      Ret ((evT E O n).call 9 [.agg cs] s) fun v s' => Ok s' ∧ Keep s s' ∧ ∃ av c cells, v = .tup [av, .agg c] ∧ SliceOf s'.get av (ds.take 40 ++ l0).length cells ∧ RepL s'.get (ds.take 40 ++ l0) cells ∧ Rep s'.get z c) := fun h0 => by
    have h1 := smallF_size d 300 h0
    have h2 : (ds.take 40 ++ l0).length ≤ 1000000 := by
      rw [List.length_append, List.length_take]; omega
    obtain ⟨Na, ha⟩ := items8_ok (E := E) (O := O) hE.e8 (on 8 (by decide)) hE.e15 (on 15 (by decide)) hir2 h2
    obtain ⟨Nb, hb⟩ := items9_ok (E := E) (O := O) hE.e9 (on 9 (by decide)) hir2 h2
    exact ⟨Na + Nb, fun n hn => ⟨fun s cs => ha n (by omega) s cs, fun s cs => hb n (by omega) s cs⟩⟩
  obtain ⟨N5, hit⟩ : ∃ N, 0 < smallF d 300 → ∀ n, N ≤ n → (∀ (s : St) (cs : List AV), Ok s → Rep s.get (listF (ds.take 40) d) cs →
      Ret ((evT E O n).call 8 [.agg cs] s) fun v s' => Ok s' ∧ Keep s s' ∧ ∃ av c cells, v = .tup [av, .agg c] ∧ SliceOf s'.get av (ds.take 40 ++ l0).length cells ∧ RepL s'.get (ds.take 40 ++ l0) cells ∧ Rep s'.get z c) ∧ (∀ (s : St) (cs : List AV), Ok s → Rep s.get (listF (ds.take 40) d) cs →
      Ret ((evT E O n).call 9 [.agg cs] s) fun v s' => Ok s' ∧ Keep s s' ∧ ∃ av c cells, v = .tup [av, .agg c] ∧ SliceOf s'.get av (ds.take 40 ++ l0).length cells ∧ RepL s'.get (ds.take 40 ++ l0) cells ∧ Rep s'.get z c) := by
    by_cases h0 : 0 < smallF d 300
    · obtain ⟨N, h⟩ := hbig h0; exact ⟨N, fun _ => h⟩
    · exact ⟨0, fun h => absurd h h0⟩
  obtain ⟨N6, hp1⟩ := placed_ok (E := E) (O := O) hE.e10 (on 10 (by decide)) (listF (ds.take 40) d)
  obtain ⟨N7, hp2⟩ := placed_ok (E := E) (O := O) hE.e10 (on 10 (by decide)) z
  obtain ⟨N8, hl1⟩ := dl_loop1 (E := E) (O := O) (ds.take 40 ++ l0) (placed_all hE.e10 (on 10 (by decide)) _)
  refine ⟨N1 + N2 + N3 + N4 + N5 + N6 + N7 + N8 + 2, fun n hn s kv cells cs hok hsl htop hrep => ?_⟩
  obtain ⟨n, rfl⟩ : ∃ m, n = m + 2 := ⟨n - 2, by omega⟩
  rw [evT_call (on 3 (by decide)) hE.e3, callF_of hE.e3, f3_eq, callB]
  simp only [lenN, ble_d, Nat.succ_eq_add_one, Nat.zero_add, Nat.reduceAdd, Nat.reduceLeDiff, decide_true, cond_true]
  -- the box
  obtain ⟨s1, hs1⟩ : ∃ s1, s1 = s.alloc (.row 24 cs false false) := ⟨_, rfl⟩
  have ok1 : Ok s1 := by rw [hs1]; exact hok.alloc _
  have kp1 : Keep s s1 := by rw [hs1]; exact (KeepB.refl _ _).alloc _ (Nat.le_refl _)
  have hb1 : s1.get s.next = some (.row 24 cs false false) := by rw [hs1]; exact get_alloc_new hok _
  have le1 := KeepB.le kp1 hok
  have hR0 : ∃ tm', evC E (evT E O (n + 1)) none D_R0 ⟨setArgs .leaf 0 [kv, .agg cs], []⟩ s = some (.norm, ⟨tm', []⟩, s1) ∧ tm'.get 0 = some kv ∧ tm'.get 3 = some (.ptr s.next 0) := by
    simp (disch := first | omega | (simp only [next_alloc, next_put] <;> omega) | (repeat (first | assumption | apply Ok.alloc | apply Ok.put))) only [evC_reg, evS_cons, evS_nil, stepS_n, bindS_some, stS_some, setDst_some, evOp_mv, evOp_box, o1_k, v1_k, opd_t, opd_c, Trie.get_set, setArgs, k1_some, b1_some, oBox_eq, ret1_some, cells_agg, normR_some, ↓reduceIte, Nat.zero_add, Nat.succ_eq_add_one, D_R0]
    refine ⟨_, by rw [hs1], ?_, ?_⟩ <;> simp (disch := first | omega | (simp only [next_alloc, next_put] <;> omega) | (repeat (first | assumption | apply Ok.alloc | apply Ok.put))) only [Trie.get_set, ↓reduceIte, Nat.reduceEqDiff, ]
  obtain ⟨tm0, e0, a0, a3⟩ := hR0
  obtain ⟨kv', cells', hv, hsl'⟩ := top_cut (hsl.mono le1) htop 40
  obtain ⟨tm1, e1, b0, b3⟩ := D_r1 (E := E) (S := evT E O (n + 1)) (s := s1) a0 a3 hsl.sl.len hv
  -- is the end small?
  have hd1 := Rep.mono le1 _ _ hrep
  obtain ⟨_, _, _, hcut⟩ := over5 hrep
  obtain ⟨_, s2, k1, rfl, ok2, kp2⟩ := hsm (n + 1) (by omega) s1 cs 300 ok1 hd1 (by omega) (by omega)
  by_cases h0 : 0 < smallF d 300
  · have hS : ∃ tm', evC E (evT E O (n + 1)) none D_S1 ⟨tm1, []⟩ s1 = some (.norm, ⟨tm', []⟩, s2) ∧ tm'.get 0 = some kv' ∧ tm'.get 3 = some (.ptr s.next 0) := by
      simp (disch := first | omega | (simp only [next_alloc, next_put] <;> omega) | (repeat (first | assumption | apply Ok.alloc | apply Ok.put))) only [aggO_some, evC_skip, evC_seq, evC_reg, evC_cond, evS_cons, evS_nil, stepS_n, bindS_some, stS_some, setDst_some, evOp_ldn, evOp_bin, evOp_call, v1_k, v2_k, opd_t, opd_c, Trie.get_set, k1_some, k2_some, ret1_some, normR_some, thenR_norm, condR_f, vBin_int, binI_leq, evL_nil, evL_cons, consO_some, evCl_some, ↓reduceIte, decide_true, Bool.not_true, Int.ofNat_eq_natCast, Int.cast_ofNat_Int, rowO_row, cutO_some, vLdn_get, D_S1, b3, hb1, hcut, k1, h0]
      refine ⟨_, rfl, ?_, ?_⟩ <;> simp (disch := first | omega | (simp only [next_alloc, next_put] <;> omega) | (repeat (first | assumption | apply Ok.alloc | apply Ok.put))) only [Trie.get_set, ↓reduceIte, Nat.reduceEqDiff, b0, b3]
    obtain ⟨tm2, e2, c0, c3⟩ := hS
    have hI : ∃ tm', evC E (evT E O (n + 1)) none D_I0 ⟨tm2, []⟩ s2 = some (.norm, ⟨tm', []⟩, s2) ∧ tm'.get 0 = some kv' ∧ tm'.get 3 = some (.ptr s.next 0) ∧ tm'.get 5 = some (.int .i64 (([] : List DT).length : Nat)) := by
      simp (disch := first | omega | (simp only [next_alloc, next_put] <;> omega) | (repeat (first | assumption | apply Ok.alloc | apply Ok.put))) only [evC_reg, evS_cons, evS_nil, stepS_n, bindS_some, stS_some, setDst_some, evOp_mv, v1_k, opd_c, k1_some, ret1_some, normR_some, Int.ofNat_eq_natCast, Int.cast_ofNat_Int, D_I0]
      refine ⟨_, rfl, ?_, ?_, ?_⟩ <;> simp (disch := first | omega | (simp only [next_alloc, next_put] <;> omega) | (repeat (first | assumption | apply Ok.alloc | apply Ok.put))) only [Trie.get_set, ↓reduceIte, Nat.reduceEqDiff, Int.cast_ofNat_Int, c0, c3, List.length_nil]
    obtain ⟨tm3, e3, i0, i3, i5⟩ := hI
    have le2 := KeepB.le kp2 ok1
    obtain ⟨tm4, s3, ok3, kp3, hor⟩ := hl0 (n + 1) (by omega) [] (ds.take 40) s2 tm3 s.next kv' cells' rfl ok2 (hsl'.mono le2) i0 i3 i5
    rcases hor with ⟨e4, j0, j3⟩ | ⟨e4, j4⟩
    · have le3 := KeepB.le kp3 ok2
      have hsl3 := (hsl'.mono le2).mono le3
      have hd3 := Rep.mono le3 _ _ (Rep.mono le2 _ _ hd1)
      have hb3 : s3.get s.next = some (.row 24 cs false false) := Keep.keeps kp3 ok2 (Keep.keeps kp2 ok1 hb1)
      -- the lists
      obtain ⟨_, s4, q4, ok4, kp4, cA, rfl, rA⟩ := hli (n + 1) (by omega) s3 kv' cells' cs ok3 hsl3 hd3
      obtain ⟨tm5, e5, m0, m3, m6⟩ := dl_l6 (E := E) (S := evT E O (n + 1)) ok4 j0 j3 hb3 hd3 rA q4
      have ok5 := nb_ok ok4 cA
      have kp5 := nb_keep s4 cA
      have g5 := nb_get ok4 cA
      have le4 := KeepB.le kp4 ok3
      have le5 := KeepB.le kp5 ok4
      obtain ⟨s5, hs5⟩ : ∃ s5, s5 = nb s4 cA := ⟨_, rfl⟩
      rw [← hs5] at e5 ok5 kp5 g5 le5
      have hsl5 := (hsl3.mono le4).mono le5
      have hd5 := Rep.mono le5 _ _ (Rep.mono le4 _ _ hd3)
      have rA5 := Rep.mono le5 _ _ rA
      have hb5 : s5.get s.next = some (.row 24 cs false false) := Keep.keeps kp5 ok4 (Keep.keeps kp4 ok3 hb3)
      obtain ⟨_, s6, q6, ok6, kp6, cB, rfl, rB⟩ := hrl (n + 1) (by omega) s5 kv' cells' cs ok5 hsl5 hd5
      obtain ⟨tm6, e6, n6, n7⟩ := dl_l7 (E := E) (S := evT E O (n + 1)) ok6 m0 m3 m6 hb5 hd5 rB q6
      have ok7 := nb_ok ok6 cB
      have kp7 := nb_keep s6 cB
      have g7 := nb_get ok6 cB
      have le6 := KeepB.le kp6 ok5
      have le7 := KeepB.le kp7 ok6
      obtain ⟨s7, hs7⟩ : ∃ s7, s7 = nb s6 cB := ⟨_, rfl⟩
      rw [← hs7] at e6 ok7 kp7 g7 le7
      have rA7 := Rep.mono le7 _ _ (Rep.mono le6 _ _ rA5)
      have rB7 := Rep.mono le7 _ _ rB
      have gA7 : s7.get s4.next = some (.row 24 cA false false) := Keep.keeps kp7 ok6 (Keep.keeps kp6 ok5 g5)
      -- the items
      obtain ⟨hi8, hi9⟩ := hit h0 (n + 1) (by omega)
      obtain ⟨_, s8, q8, ok8, kp8, x, cX, cellsX, rfl, slX, repX, rX⟩ := hi8 s7 cA ok7 rA7
      obtain ⟨tm7, e7, p6, p7, p8, p9⟩ := dl_x8 (E := E) (S := evT E O (n + 1)) ok8 n6 n7 gA7 rA7 rX q8
      have ok9 := nb_ok ok8 cX
      have kp9 := nb_keep s8 cX
      have g9 := nb_get ok8 cX
      have le8 := KeepB.le kp8 ok7
      have le9 := KeepB.le kp9 ok8
      obtain ⟨s9, hs9⟩ : ∃ s9, s9 = nb s8 cX := ⟨_, rfl⟩
      rw [← hs9] at e7 ok9 kp9 g9 le9
      have rA9 := Rep.mono le9 _ _ (Rep.mono le8 _ _ rA7)
      have rB9 := Rep.mono le9 _ _ (Rep.mono le8 _ _ rB7)
      have rX9 := Rep.mono le9 _ _ rX
      have slX9 : SlAt s9.get x (ds.take 40 ++ l0) cellsX := SlAt.mono le9 ⟨slX, repX⟩
      have gA9 : s9.get s4.next = some (.row 24 cA false false) := Keep.keeps kp9 ok8 (Keep.keeps kp8 ok7 gA7)
      have gB9 : s9.get s6.next = some (.row 24 cB false false) := Keep.keeps kp9 ok8 (Keep.keeps kp8 ok7 g7)
      obtain ⟨_, sA, qA, okA, kpA, u, cU, cellsU, rfl, slU, repU, rU⟩ := hi9 s9 cB ok9 rB9
      obtain ⟨tm8, e8, t6, t7, t8, t9, t10, t11⟩ := dl_x9 (E := E) (S := evT E O (n + 1)) okA p6 p7 p8 p9 gB9 rB9 rU qA
      have okB := nb_ok okA cU
      have kpB := nb_keep sA cU
      have gB := nb_get okA cU
      have leA := KeepB.le kpA ok9
      have leB := KeepB.le kpB okA
      obtain ⟨sB, hsB⟩ : ∃ sB, sB = nb sA cU := ⟨_, rfl⟩
      rw [← hsB] at e8 okB kpB gB leB
      have rAB := Rep.mono leB _ _ (Rep.mono leA _ _ rA9)
      have rBB := Rep.mono leB _ _ (Rep.mono leA _ _ rB9)
      have rXB := Rep.mono leB _ _ (Rep.mono leA _ _ rX9)
      have rUB := Rep.mono leB _ _ rU
      have slXB := (slX9.mono leA).mono leB
      have slUB : SlAt sB.get u (ds.take 40 ++ l0) cellsU := SlAt.mono leB ⟨slU, repU⟩
      have gAB : sB.get s4.next = some (.row 24 cA false false) := Keep.keeps kpB okA (Keep.keeps kpA ok9 gA9)
      have gBB : sB.get s6.next = some (.row 24 cB false false) := Keep.keeps kpB okA (Keep.keeps kpA ok9 gB9)
      have gXB : sB.get s8.next = some (.row 24 cX false false) := Keep.keeps kpB okA (Keep.keeps kpA ok9 g9)
      -- the same
      obtain ⟨_, sC, qC, rfl, okC, kpC⟩ := hp1 (n + 1) (by omega) sB cA cB okB rAB rBB
      have leC := KeepB.le kpC okB
      obtain ⟨_, sD, qD, rfl, okD, kpD⟩ := hp2 (n + 1) (by omega) sC cX cU okC (Rep.mono leC _ _ rXB) (Rep.mono leC _ _ rUB)
      have leD := KeepB.le kpD okC
      obtain ⟨tm9, e9, v8, v10⟩ := dl_t10 (E := E) (S := evT E O (n + 1)) t6 t7 t8 t9 t10 t11 gAB gBB (Keep.keeps kpC okB gXB) (Keep.keeps kpC okB gB) (over5 rAB).2.2.2 (over5 rBB).2.2.2 (over5 rXB).2.2.2 (over5 rUB).2.2.2 slXB.sl.len slUB.sl.len qC qD
      have hI2 : ∃ tm', evC E (evT E O (n + 1)) none D_I12 ⟨tm9, []⟩ sD = some (.norm, ⟨tm', []⟩, sD) ∧ tm'.get 8 = some x ∧ tm'.get 10 = some u ∧ tm'.get 12 = some (.int .i64 (([] : List DT).length : Nat)) := by
        simp (disch := first | omega | (simp only [next_alloc, next_put] <;> omega) | (repeat (first | assumption | apply Ok.alloc | apply Ok.put))) only [evC_reg, evS_cons, evS_nil, stepS_n, bindS_some, stS_some, setDst_some, evOp_mv, v1_k, opd_c, k1_some, ret1_some, normR_some, Int.ofNat_eq_natCast, Int.cast_ofNat_Int, D_I12]
        refine ⟨_, rfl, ?_, ?_, ?_⟩ <;> simp (disch := first | omega | (simp only [next_alloc, next_put] <;> omega) | (repeat (first | assumption | apply Ok.alloc | apply Ok.put))) only [Trie.get_set, ↓reduceIte, Nat.reduceEqDiff, Int.cast_ofNat_Int, v8, v10, List.length_nil]
      obtain ⟨tmA, eA, w8, w10, w12⟩ := hI2
      obtain ⟨tmB, sE, eB, okE, kpE⟩ := hl1 (n + 1) (by omega) [] (ds.take 40 ++ l0) sD tmA x u cellsX cellsU rfl okD ((slXB.mono leC).mono leD) ((slUB.mono leC).mono leD) w8 w10 w12
      have hEnd : ∃ tm', evC E (evT E O (n + 1)) none D_END ⟨tmB, []⟩ sE = some (.ret, ⟨tm', []⟩, sE) ∧ tm'.get 4 = some (.bool true) := by
        have htr := evT_true (E := E) o5 n sE
        simp (disch := first | omega | (simp only [next_alloc, next_put] <;> omega) | (repeat (first | assumption | apply Ok.alloc | apply Ok.put))) only [evC_seq, evC_reg, evC_ret, evS_cons, evS_nil, stepS_n, bindS_some, stS_some, setDst_some, evOp_mv, evOp_call, v1_k, opd_t, Trie.get_set, k1_some, ret1_some, normR_some, thenR_norm, evL_nil, evCl_some, ↓reduceIte, D_END, htr]
        refine ⟨_, rfl, ?_⟩
        simp (disch := first | omega | (simp only [next_alloc, next_put] <;> omega) | (repeat (first | assumption | apply Ok.alloc | apply Ok.put))) only [Trie.get_set, ↓reduceIte, ]
      obtain ⟨tmC, eC, y4⟩ := hEnd
      rw [evC_seq, e0, thenR_norm, evC_seq, e1, thenR_norm, evC_seq, e2, thenR_norm, evC_seq, evC_seq, e3, thenR_norm, evC_block, e4, blockR_exit, if_pos rfl, thenR_norm, evC_seq, e5, thenR_norm, evC_seq, e6, thenR_norm, evC_seq, e7, thenR_norm, evC_seq, e8, thenR_norm, evC_seq, e9, thenR_norm, evC_seq, evC_seq, eA, thenR_norm, evC_block, eB, blockR_exit, if_pos rfl, thenR_norm, eC, callEnd_ret, resE_t, y4, k1_some, ret1_some]
      exact ⟨_, _, rfl, rfl⟩
    · rw [evC_seq, e0, thenR_norm, evC_seq, e1, thenR_norm, evC_seq, e2, thenR_norm, evC_seq, evC_seq, e3, thenR_norm, evC_block, e4, blockR_ret, thenR_ret, callEnd_ret, resE_t, j4, k1_some, ret1_some]
      exact ⟨_, _, rfl, rfl⟩
  · have hS : ∃ tm', evC E (evT E O (n + 1)) none D_S1 ⟨tm1, []⟩ s1 = some (.ret, ⟨tm', []⟩, s2) ∧ tm'.get 4 = some (.bool true) := by
      have htr := evT_true (E := E) o5 n s2
      simp (disch := first | omega | (simp only [next_alloc, next_put] <;> omega) | (repeat (first | assumption | apply Ok.alloc | apply Ok.put))) only [aggO_some, evC_seq, evC_reg, evC_ret, evC_cond, evS_cons, evS_nil, stepS_n, bindS_some, stS_some, setDst_some, evOp_mv, evOp_ldn, evOp_bin, evOp_call, v1_k, v2_k, opd_t, opd_c, Trie.get_set, k1_some, k2_some, ret1_some, normR_some, thenR_norm, condR_t, vBin_int, binI_leq, evL_nil, evL_cons, consO_some, evCl_some, ↓reduceIte, decide_false, Bool.not_false, Int.ofNat_eq_natCast, Int.cast_ofNat_Int, rowO_row, cutO_some, vLdn_get, D_S1, b3, hb1, hcut, k1, h0, htr]
      refine ⟨_, rfl, ?_⟩
      simp (disch := first | omega | (simp only [next_alloc, next_put] <;> omega) | (repeat (first | assumption | apply Ok.alloc | apply Ok.put))) only [Trie.get_set, ↓reduceIte, ]
    obtain ⟨tm2, e2, c4⟩ := hS
    rw [evC_seq, e0, thenR_norm, evC_seq, e1, thenR_norm, evC_seq, e2, thenR_ret, callEnd_ret, resE_t, c4, k1_some, ret1_some]
    exact ⟨_, _, rfl, rfl⟩
end Go.Proofs.YtagpffdamckekaaGreatDoor.Ev

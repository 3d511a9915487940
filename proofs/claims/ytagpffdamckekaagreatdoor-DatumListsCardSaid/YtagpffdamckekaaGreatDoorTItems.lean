/- By symbolic evaluation, for every datum: what 'Items' answers, the program's and the reference's. No conditions but what is said of the memory. -/
import Derived.Test.YtagpffdamckekaaGreatDoorTRList
import Derived.Test.YtagpffdamckekaaGreatDoorEvG
namespace Go.Proofs.YtagpffdamckekaaGreatDoor.Ev
open T
set_option maxRecDepth 100000

inductive ItemsR : DT → List DT → DT → Prop
  | stop {k n : Int} {t : List Nat} {ks : List DT} {p : Int} (h : ¬ (k = 6 ∧ ks.length = 2)) : ItemsR (.mk k n t ks p) [] (.mk k n t ks p)
  | cons {n : Int} {t : List Nat} {x e : DT} {p : Int} {l : List DT} {z : DT} (h : ItemsR e l z) : ItemsR (.mk 6 n t [x, e] p) (x :: l) z

theorem items_ex : ∀ (m : Nat) (d : DT), d.size ≤ m → ∃ l z, ItemsR d l z ∧ l.length < d.size
  | 0, .mk k n t ks p, h => by simp only [DT.size] at h; omega
  | m + 1, .mk k n t ks p, h => by
    by_cases hp : k = 6 ∧ ks.length = 2
    · obtain ⟨rfl, h2⟩ := hp
      match ks, h2 with
      | [x, e], _ =>
        simp only [DT.size, sizeL] at h ⊢
        obtain ⟨l, z, h1, h3⟩ := items_ex m e (by omega)
        exact ⟨x :: l, z, .cons h1, by simp; omega⟩
    · exact ⟨[], _, .stop hp, by simp only [DT.size, List.length_nil]; omega⟩
theorem items_list {d : DT} {l : List DT} {z : DT} (h : ItemsR d l z) : ∀ ds : List DT, ItemsR (listF ds d) (ds ++ l) z
  | [] => h
  | x :: ds => .cons (items_list h ds)

/-! ### What was put together so far -/
def Acc (s : St) (m : Nat) (av : AV) (n : Nat) (cells : List AV) : Prop :=
  (n = 0 ∧ av = .nils ∧ cells = []) ∨ ∃ id, m ≤ id ∧ av = .sl id 0 n (.opn 5) ∧ s.get id = some (.row 24 cells true false) ∧ n ≠ 0

theorem grow_ok (s : St) (cs : List AV) {need : Nat} (h : need ≤ 1000000) : grow s 24 5 64 cs need = some (.sl s.next 0 need (.opn 5), s.alloc (.row 24 cs true false)) := by
  unfold grow
  have h1 : Nat.ble (Nat.mul (Nat.mul 2 need) 64) 281474976710656 = true := ble_iff.2 (by show 2 * need * 64 ≤ _; omega)
  have h2 : Nat.ble 1 5 = true := rfl
  have h3 : Nat.blt need 9223372036854775808 = true := blt_iff.2 (by omega)
  rw [h1, h2, h3]; rfl
theorem app_acc {s : St} {m : Nat} {av : AV} {n id2 : Nat} {cells cx : List AV} (hok : Ok s) (hm : m ≤ s.next) (h : Acc s m av n cells) (hl : cells.length = n * 5) (hy : s.get id2 = some (.row 24 cx false false)) (l5 : cx.length = 5) (sc : allScal cx = true) (hn : n < 1000000) :
    ∃ s', appV s 24 5 64 av (.sl id2 0 1 (.fix 1)) = some (.sl s.next 0 (n + 1) (.opn 5), s') ∧ s'.get s.next = some (.row 24 (cells ++ cx) true false) ∧ s'.next = s.next + 1 ∧ Ok s' ∧ KeepB m s s' ∧
      ∀ i o, s.get i = some (.row 24 o false false) → s'.get i = some (.row 24 o false false) := by
  have hsrc : srcCells s 5 1 (.sl id2 0 1 (.fix 1)) = some cx := by
    simp only [srcCells, hy]
    show cut cx 0 5 = some cx
    rw [cut_eq (by omega), List.drop_zero, List.take_of_length_le (by omega)]
  have happ : appV s 24 5 64 av (.sl id2 0 1 (.fix 1)) = appW s 24 5 64 av 1 cx := by
    show (match srcCells s 5 1 (.sl id2 0 1 (.fix 1)) with | none => none | some new => appW s 24 5 64 av 1 new) = _
    rw [hsrc]
  rw [happ]
  rcases h with ⟨rfl, rfl, rfl⟩ | ⟨id, hid, rfl, hg, h0⟩
  · refine ⟨_, grow_ok s cx (by omega), get_alloc_new hok _, rfl, hok.alloc _, (KeepB.refl m s).alloc _ hm, fun i o hi => ?_⟩
    rw [get_alloc_old _ _ (by have := hok.lt hi; omega)]; exact hi
  · have e1 : appW s 24 5 64 (.sl id 0 n (.opn 5)) 1 cx = grow (s.del id) 24 5 64 (cells ++ cx) (n + 1) := by
      have hb1 : Nat.ble (Nat.add 0 (Nat.mul (Nat.add n 1) 5)) (lenN cells) = false := by
        rw [ble_d, lenN_eq]; exact decide_eq_false (by show ¬ (0 + (n + 1) * 5 ≤ _); omega)
      have hc : cut cells 0 (Nat.mul n 5) = some cells := by
        show cut cells 0 (n * 5) = _
        rw [cut_eq (by omega), List.drop_zero, List.take_of_length_le (by omega)]
      simp only [appW, hg]
      show (bif (Nat.beq 5 5 && true && !false) then bif Nat.ble (Nat.add 0 (Nat.mul (Nat.add n 1) 5)) (lenN cells) then _ else bif allScal cx && Nat.beq 24 24 then (match cut cells 0 (Nat.mul n 5) with | some old => grow (s.del id) 24 5 64 (old ++ cx) (Nat.add n 1) | none => none) else none else none) = _
      rw [hb1, sc, hc]; rfl
    rw [e1]
    have hokd := hok.del id
    refine ⟨_, grow_ok (s.del id) (cells ++ cx) (by omega), get_alloc_new hokd _, rfl, hokd.alloc _, ((KeepB.refl m s).del id hid).alloc _ hm, fun i o hi => ?_⟩
    have hne : i ≠ id := fun e => by subst e; rw [hi] at hg; cases hg
    rw [get_alloc_old _ _ (by have := hok.lt hi; show i ≠ s.next; omega), get_del_old _ hne]; exact hi

theorem isPair_ok {E : Env} {O : List Nat} (hE : E.funs.get 15 = some f15) (hO : memN 15 O = false) (n : Nat) {s : St} (hok : Ok s) (k m p : Int) (t : List Nat) (kv : AV) (len : Nat) (hl : ∀ s, vLen s .v kv = some (.int .i64 len)) :
    (evT E O (n + 1)).call 15 [.agg [.int .i64 k, .int .i64 m, .str t, kv, .int .i64 p]] s = some (.bool (decide (k = 6) && decide ((len : Int) = 2)), s.alloc (.row 24 [.int .i64 k, .int .i64 m, .str t, kv, .int .i64 p] false false)) := by
  rw [evT_call hO hE, callF_of hE]
  by_cases hk : k = 6
  · simp (disch := first | omega | (simp only [next_alloc, next_put] <;> omega) | (repeat (first | assumption | apply Ok.alloc | apply Ok.put))) only [callB, callEnd_ret, resE_t, ble_d, lenN, evC_seq, evC_reg, evC_ret, evS_cons, evS_nil, stepS_n, stepS_g, bindS_some, stS_some, setDst_some, evOp_mv, evOp_pick, evOp_box, evOp_ld, evOp_bin, evOp_fa, evOp_len, o1_k, v1_k, v2_k, opd_t, opd_c, Trie.get_set, setArgs, k1_some, k2_some, b1_some, oBox_eq, ret1_some, vFa_ptr, cells_agg, normR_some, thenR_norm, vBin_int, binI_eql, wantB_t, gstep_t, vPick_t, headV_cons, cut_cons, takeN, dropN, ↓reduceIte, decide_true, Bool.true_and, cond_true, Nat.add_zero, Nat.zero_add, Nat.succ_eq_add_one, Nat.reduceEqDiff, Nat.reduceLeDiff, Int.ofNat_eq_natCast, Int.cast_ofNat_Int, rowO_row, cutO_some, headO_some, vLd_get, get_alloc_at, f15, hl, hk]
  · simp (disch := first | omega | (simp only [next_alloc, next_put] <;> omega) | (repeat (first | assumption | apply Ok.alloc | apply Ok.put))) only [callB, callEnd_ret, resE_t, ble_d, lenN, evC_seq, evC_reg, evC_ret, evS_cons, evS_nil, stepS_n, stepS_g, bindS_some, stS_some, setDst_some, evOp_mv, evOp_pick, evOp_box, evOp_ld, evOp_bin, evOp_fa, o1_k, v1_k, v2_k, opd_t, opd_c, Trie.get_set, setArgs, k1_some, k2_some, b1_some, oBox_eq, ret1_some, vFa_ptr, cells_agg, normR_some, thenR_norm, vBin_int, binI_eql, wantB_t, gstep_f, vPick_f, headV_cons, cut_cons, takeN, dropN, ↓reduceIte, decide_true, decide_false, Bool.false_and, cond_true, Nat.add_zero, Nat.zero_add, Nat.succ_eq_add_one, Nat.reduceEqDiff, Nat.reduceLeDiff, Int.ofNat_eq_natCast, Int.cast_ofNat_Int, rowO_row, cutO_some, headO_some, vLd_get, get_alloc_at, f15, hk]

theorem fill1 {tm : Trie AV} {i : Nat} {cx : List AV} (hi : tm.get i = some (.agg cx)) (l1 : cx.length = 5) :
    fillC [(.int .i64 (.ofNat 0)), (.int .i64 (.ofNat 0)), (.str []), .nils, (.int .i64 (.ofNat 0))] tm [(0, 5, (.t i))] = some cx := by
  obtain ⟨a1, a2, a3, a4, a5, rfl⟩ : ∃ a b c d e, cx = [a, b, c, d, e] := by
    match cx, l1 with
    | [a, b, c, d, e], _ => exact ⟨a, b, c, d, e, rfl⟩
  simp only [fillC, opd_t, hi, cells_agg]
  rfl

/-- the state of the loop: the datum at b, the result's place r -/
structure ItSt (s0 s : St) (b r : Nat) (av : AV) (pre : List DT) (cells : List AV) (cur : DT) (ce : List AV) : Prop where
  ok : Ok s
  keep : Keep s0 s
  hb : s.get b = some (.row 24 ce false false)
  hr : s.get r = some (.row 24 [.int .i64 (.ofNat 0), .int .i64 (.ofNat 0), .str [], .nils, .int .i64 (.ofNat 0)] false false)
  bn : s0.next ≤ b
  rn : s0.next ≤ r
  br : b ≠ r
  acc : Acc s s0.next av pre.length cells
  rep : RepL s0.get pre cells
  cur : Rep s0.get cur ce

theorem oBsl_some (s : St) (e len : Nat) (cs : List AV) : oBsl s e len (some cs) = some (.sl s.next 0 len (.fix len), s.alloc (.row e cs false false)) := rfl

theorem ItSt.alloc {s0 s : St} {b r : Nat} {av : AV} {pre : List DT} {cells ce : List AV} {cur : DT} (h : ItSt s0 s b r av pre cells cur ce) (o : AObj) : ItSt s0 (s.alloc o) b r av pre cells cur ce := by
  have old : ∀ {i : Nat} {x : AObj}, s.get i = some x → (s.alloc o).get i = some x := fun {i x} hi => by rw [get_alloc_old _ _ (by have := h.ok.lt hi; omega)]; exact hi
  refine ⟨h.ok.alloc o, h.keep.alloc o h.keep.next, old h.hb, old h.hr, h.bn, h.rn, h.br, ?_, h.rep, h.cur⟩
  rcases h.acc with h1 | ⟨id, a1, a2, a3, a4⟩
  · exact .inl h1
  · exact .inr ⟨id, a1, a2, old a3, a4⟩
theorem itC8_no {E : Env} {O : List Nat} (hE : E.funs.get 15 = some f15) (hO : memN 15 O = false) {n : Nat} (hn : 1 ≤ n) {s0 s : St} {tm : Trie AV} {b r : Nat} {av : AV} {pre : List DT} {cells ce : List AV} {k m p : Int} {t : List Nat} {ks : List DT} (h : ItSt s0 s b r av pre cells (.mk k m t ks p) ce) (hnp : ¬ (k = 6 ∧ ks.length = 2))
    (g1 : tm.get 1 = some (.ptr b 0)) (g2 : tm.get 2 = some av) (g3 : tm.get 3 = some (.ptr r 0)) :
    ∃ s', ItSt s0 s' b r av pre cells (.mk k m t ks p) ce ∧ ∃ tm', evC E (evT E O n) none C8 ⟨tm, []⟩ s = some (.exit 0, ⟨tm', []⟩, s') ∧ tm'.get 1 = some (.ptr b 0) ∧ tm'.get 2 = some av ∧ tm'.get 3 = some (.ptr r 0) := by
  have hcur := h.cur
  simp only [Rep] at hcur
  obtain ⟨kv, kc, rfl, hs, hr⟩ := hcur
  obtain ⟨n, rfl⟩ : ∃ q, n = q + 1 := ⟨n - 1, by omega⟩
  have hbb := h.hb
  have hcall := isPair_ok hE hO n h.ok k m p t kv ks.length hs.len
  have hf : (decide (k = 6) && decide ((ks.length : Int) = 2)) = false := by
    by_cases hk : k = 6
    · have : ¬ ((ks.length : Int) = 2) := fun e => hnp ⟨hk, by omega⟩
      rw [decide_eq_false this, Bool.and_false]
    · rw [decide_eq_false hk, Bool.false_and]
  rw [hf] at hcall
  refine ⟨_, h.alloc (.row 24 [.int .i64 k, .int .i64 m, .str t, kv, .int .i64 p] false false), ?_⟩
  simp (disch := first | omega | (simp only [next_alloc, next_put] <;> omega) | (repeat (first | assumption | apply Ok.alloc | apply Ok.put))) only [aggO_some, evC_seq, evC_reg, evC_cond, evC_exit, evS_cons, evS_nil, stepS_n, bindS_some, stS_some, setDst_some, evOp_ldn, evOp_call, v1_k, opd_t, Trie.get_set, k1_some, ret1_some, normR_some, thenR_norm, condR_f, evL_nil, evL_cons, consO_some, evCl_some, cut_cons, takeN, dropN, ↓reduceIte, rowO_row, cutO_some, vLdn_get, C8, g1, hbb, hcall]
  refine ⟨_, rfl, ?_, ?_, ?_⟩ <;> simp (disch := first | omega | (simp only [next_alloc, next_put] <;> omega) | (repeat (first | assumption | apply Ok.alloc | apply Ok.put))) only [Trie.get_set, ↓reduceIte, Nat.reduceEqDiff, g1, g2, g3]
theorem itC8_yes {E : Env} {O : List Nat} (hE : E.funs.get 15 = some f15) (hO : memN 15 O = false) {n : Nat} (hn : 1 ≤ n) {s0 s : St} {tm : Trie AV} {b r : Nat} {av : AV} {pre : List DT} {cells ce : List AV} {m p : Int} {t : List Nat} {x e : DT} (h : ItSt s0 s b r av pre cells (.mk 6 m t [x, e] p) ce)
    (g1 : tm.get 1 = some (.ptr b 0)) (g2 : tm.get 2 = some av) (g3 : tm.get 3 = some (.ptr r 0)) :
    ∃ s', ItSt s0 s' b r av pre cells (.mk 6 m t [x, e] p) ce ∧ ∃ tm', evC E (evT E O n) none C8 ⟨tm, []⟩ s = some (.norm, ⟨tm', []⟩, s') ∧ tm'.get 1 = some (.ptr b 0) ∧ tm'.get 2 = some av ∧ tm'.get 3 = some (.ptr r 0) := by
  have hcur := h.cur
  simp only [Rep] at hcur
  obtain ⟨kv, kc, rfl, hs, hr⟩ := hcur
  obtain ⟨n, rfl⟩ : ∃ q, n = q + 1 := ⟨n - 1, by omega⟩
  have hbb := h.hb
  have hcall := isPair_ok hE hO n h.ok 6 m p t kv 2 hs.len
  have hf : (decide ((6 : Int) = 6) && decide (((2 : Nat) : Int) = 2)) = true := rfl
  rw [hf] at hcall
  refine ⟨_, h.alloc (.row 24 [.int .i64 6, .int .i64 m, .str t, kv, .int .i64 p] false false), ?_⟩
  simp (disch := first | omega | (simp only [next_alloc, next_put] <;> omega) | (repeat (first | assumption | apply Ok.alloc | apply Ok.put))) only [aggO_some, evC_skip, evC_seq, evC_reg, evC_cond, evS_cons, evS_nil, stepS_n, bindS_some, stS_some, setDst_some, evOp_ldn, evOp_call, v1_k, opd_t, Trie.get_set, k1_some, ret1_some, normR_some, thenR_norm, condR_t, evL_nil, evL_cons, consO_some, evCl_some, cut_cons, takeN, dropN, ↓reduceIte, rowO_row, cutO_some, vLdn_get, C8, g1, hbb, hcall]
  refine ⟨_, rfl, ?_, ?_, ?_⟩ <;> simp (disch := first | omega | (simp only [next_alloc, next_put] <;> omega) | (repeat (first | assumption | apply Ok.alloc | apply Ok.put))) only [Trie.get_set, ↓reduceIte, Nat.reduceEqDiff, g1, g2, g3]

theorem itC9_no {E : Env} {O : List Nat} {n : Nat} (hn : 1 ≤ n) {s0 s : St} {tm : Trie AV} {b r : Nat} {av : AV} {pre : List DT} {cells ce : List AV} {k m p : Int} {t : List Nat} {ks : List DT} (h : ItSt s0 s b r av pre cells (.mk k m t ks p) ce) (hnp : ¬ (k = 6 ∧ ks.length = 2))
    (g1 : tm.get 1 = some (.ptr b 0)) (g2 : tm.get 4 = some av) (g3 : tm.get 3 = some (.ptr r 0)) :
    ∃ s', ItSt s0 s' b r av pre cells (.mk k m t ks p) ce ∧ ∃ tm', evC E (evT E O n) none C9 ⟨tm, []⟩ s = some (.exit 0, ⟨tm', []⟩, s') ∧ tm'.get 1 = some (.ptr b 0) ∧ tm'.get 4 = some av ∧ tm'.get 3 = some (.ptr r 0) := by
  have hcur := h.cur
  simp only [Rep] at hcur
  obtain ⟨kv, kc, rfl, hs, hr⟩ := hcur
  have hbb := h.hb
  refine ⟨s, h, ?_⟩
  by_cases hk : k = 6
  · have hl2 : ¬ ((ks.length : Int) = 2) := fun e => hnp ⟨hk, by omega⟩
    simp (disch := first | omega | (simp only [next_alloc, next_put] <;> omega) | (repeat (first | assumption | apply Ok.alloc | apply Ok.put))) only [evC_seq, evC_reg, evC_cond, evC_exit, evS_cons, evS_nil, stepS_n, stepS_g, bindS_some, stS_some, setDst_some, evOp_mv, evOp_pick, evOp_ld, evOp_bin, evOp_fa, evOp_len, v1_k, v2_k, opd_t, opd_c, Trie.get_set, k1_some, k2_some, ret1_some, vFa_ptr, normR_some, thenR_norm, condR_f, vBin_int, binI_eql, wantB_t, gstep_t, vPick_t, headV_cons, cut_cons, takeN, dropN, ↓reduceIte, decide_true, decide_false, Nat.add_zero, Nat.zero_add, Nat.reduceEqDiff, Int.ofNat_eq_natCast, Int.cast_ofNat_Int, rowO_row, cutO_some, headO_some, vLd_get, C9, g1, hbb, hk, hs.len, hl2]
    refine ⟨_, rfl, ?_, ?_, ?_⟩ <;> simp (disch := first | omega | (simp only [next_alloc, next_put] <;> omega) | (repeat (first | assumption | apply Ok.alloc | apply Ok.put))) only [Trie.get_set, ↓reduceIte, Nat.reduceEqDiff, g1, g2, g3]
  · simp (disch := first | omega | (simp only [next_alloc, next_put] <;> omega) | (repeat (first | assumption | apply Ok.alloc | apply Ok.put))) only [evC_seq, evC_reg, evC_cond, evC_exit, evS_cons, evS_nil, stepS_n, stepS_g, bindS_some, stS_some, setDst_some, evOp_mv, evOp_pick, evOp_ld, evOp_bin, evOp_fa, v1_k, v2_k, opd_t, opd_c, Trie.get_set, k1_some, k2_some, ret1_some, vFa_ptr, normR_some, thenR_norm, condR_f, vBin_int, binI_eql, wantB_t, gstep_f, vPick_f, headV_cons, cut_cons, takeN, dropN, ↓reduceIte, decide_false, Nat.add_zero, Nat.reduceEqDiff, Int.ofNat_eq_natCast, Int.cast_ofNat_Int, rowO_row, cutO_some, headO_some, vLd_get, C9, g1, hbb, hk]
    refine ⟨_, rfl, ?_, ?_, ?_⟩ <;> simp (disch := first | omega | (simp only [next_alloc, next_put] <;> omega) | (repeat (first | assumption | apply Ok.alloc | apply Ok.put))) only [Trie.get_set, ↓reduceIte, Nat.reduceEqDiff, g1, g2, g3]
theorem itC9_yes {E : Env} {O : List Nat} {n : Nat} (hn : 1 ≤ n) {s0 s : St} {tm : Trie AV} {b r : Nat} {av : AV} {pre : List DT} {cells ce : List AV} {m p : Int} {t : List Nat} {x e : DT} (h : ItSt s0 s b r av pre cells (.mk 6 m t [x, e] p) ce)
    (g1 : tm.get 1 = some (.ptr b 0)) (g2 : tm.get 4 = some av) (g3 : tm.get 3 = some (.ptr r 0)) :
    ∃ s', ItSt s0 s' b r av pre cells (.mk 6 m t [x, e] p) ce ∧ ∃ tm', evC E (evT E O n) none C9 ⟨tm, []⟩ s = some (.norm, ⟨tm', []⟩, s') ∧ tm'.get 1 = some (.ptr b 0) ∧ tm'.get 4 = some av ∧ tm'.get 3 = some (.ptr r 0) := by
  have hcur := h.cur
  simp only [Rep] at hcur
  obtain ⟨kv, kc, rfl, hs, hr⟩ := hcur
  have hbb := h.hb
  have hl2 : ∀ s, vLen s .v kv = some (.int .i64 2) := hs.len
  refine ⟨s, h, ?_⟩
  simp (disch := first | omega | (simp only [next_alloc, next_put] <;> omega) | (repeat (first | assumption | apply Ok.alloc | apply Ok.put))) only [evC_skip, evC_seq, evC_reg, evC_cond, evS_cons, evS_nil, stepS_n, stepS_g, bindS_some, stS_some, setDst_some, evOp_mv, evOp_pick, evOp_ld, evOp_bin, evOp_fa, evOp_len, v1_k, v2_k, opd_t, opd_c, Trie.get_set, k1_some, k2_some, ret1_some, vFa_ptr, normR_some, thenR_norm, condR_t, vBin_int, binI_eql, wantB_t, gstep_t, vPick_t, headV_cons, cut_cons, takeN, dropN, ↓reduceIte, decide_true, Nat.add_zero, Nat.zero_add, Nat.reduceEqDiff, Int.ofNat_eq_natCast, Int.cast_ofNat_Int, rowO_row, cutO_some, headO_some, vLd_get, C9, g1, hbb, hl2]
  refine ⟨_, rfl, ?_, ?_, ?_⟩ <;> simp (disch := first | omega | (simp only [next_alloc, next_put] <;> omega) | (repeat (first | assumption | apply Ok.alloc | apply Ok.put))) only [Trie.get_set, ↓reduceIte, Nat.reduceEqDiff, g1, g2, g3]

theorem itP8 {E : Env} {S : Self} {s0 s : St} {tm : Trie AV} {b r : Nat} {av : AV} {pre : List DT} {cells ce : List AV} {n p : Int} {t : List Nat} {x e : DT} (hok0 : Ok s0) (h : ItSt s0 s b r av pre cells (.mk 6 n t [x, e] p) ce) (hn : pre.length < 1000000)
    (g1 : tm.get 1 = some (.ptr b 0)) (g2 : tm.get 2 = some av) (g3 : tm.get 3 = some (.ptr r 0)) :
    ∃ tm' s' av' cells', evC E S none P8 ⟨tm, []⟩ s = some (.norm, ⟨tm', []⟩, s') ∧ ItSt s0 s' b r av' (pre ++ [x]) cells' (.mk 6 n t [x, e] p) ce ∧ tm'.get 1 = some (.ptr b 0) ∧ tm'.get 2 = some av' ∧ tm'.get 3 = some (.ptr r 0) := by
  have hcur := h.cur
  simp only [Rep] at hcur
  obtain ⟨kv, kc, rfl, hs, hr⟩ := hcur
  obtain ⟨id0, off0, cs0, cx, y1, y2, y3, y4, _⟩ := hs.at hr (i := 0) (by simp)
  have y4' : Rep s0.get x cx := y4
  obtain ⟨o0, ho0⟩ := rowO_some y2
  have hy2 : rowO (s.get id0) = some cs0 := by rw [KeepB.get h.keep (hok0.lt ho0)]; exact y2
  have hl5 := y4'.length
  have hsc := y4'.scal
  have hok1 := h.ok.alloc (.row 24 cx false false)
  have hkn := h.keep.next
  have hacc : Acc (s.alloc (.row 24 cx false false)) s0.next av pre.length cells := by
    rcases h.acc with h1 | ⟨id, a1, a2, a3, a4⟩
    · exact .inl h1
    · exact .inr ⟨id, a1, a2, by rw [get_alloc_old _ _ (by have := h.ok.lt a3; omega)]; exact a3, a4⟩
  obtain ⟨s', p1, p2, p3, p4, p5, p6⟩ := app_acc hok1 (by rw [next_alloc]; omega) hacc (RepL.length h.rep) (get_alloc_new h.ok _) hl5 hsc hn
  obtain ⟨k', n', t', kv', hcx, _⟩ := y4'.parts
  have y1' : vIa 5 kv (.int .i64 (.ofNat 0)) = some (.ptr id0 off0) := y1
  have y1'' : vIa 5 kv (.int .i64 0) = some (.ptr id0 off0) := y1
  have hbb := h.hb
  have hkA : KeepB s0.next s (s.alloc (.row 24 cx false false)) := (KeepB.refl _ _).alloc _ hkn
  have hev : ∃ tm', evC E S none P8 ⟨tm, []⟩ s = some (.norm, ⟨tm', []⟩, s') ∧ tm'.get 1 = some (.ptr b 0) ∧ tm'.get 2 = some (.sl (s.alloc (.row 24 cx false false)).next 0 (pre.length + 1) (.opn 5)) ∧ tm'.get 3 = some (.ptr r 0) := by
    subst hcx
    simp (disch := first | omega | (simp only [next_alloc, next_put] <;> omega) | (repeat (first | assumption | apply Ok.alloc | apply Ok.put))) only [aggO_some, ble_d, beq_d, lenN, evC_reg, evS_cons, evS_nil, stepS_n, bindS_some, stS_some, setDst_some, evOp_mv, evOp_bsl, evOp_ld, evOp_ldn, evOp_fa, evOp_ia, evOp_app, o2_k, v1_k, v2_k, opd_t, opd_c, Trie.get_set, k1_some, k2_some, b2_some, ret1_some, vFa_ptr, cells_agg, normR_some, headV_cons, cut_cons, takeN, dropN, ↓reduceIte, decide_true, Bool.and_true, cond_true, Nat.zero_add, Nat.succ_eq_add_one, Nat.reduceEqDiff, Nat.reduceLeDiff, Nat.reduceAdd, Int.ofNat_eq_natCast, Int.cast_ofNat_Int, rowO_row, cutO_some, headO_some, vLd_get, vLdn_get, next_alloc, paste, over, P8, g1, g2, hbb, y1'', hy2, y3, fillC, oBsl_some, p1]
    refine ⟨_, rfl, ?_, ?_, ?_⟩ <;> simp (disch := first | omega | (simp only [next_alloc, next_put] <;> omega) | (repeat (first | assumption | apply Ok.alloc | apply Ok.put))) only [Trie.get_set, ↓reduceIte, Nat.reduceEqDiff, g1, g3]
  obtain ⟨tm', e1, e2, e3, e4⟩ := hev
  have hold : ∀ i o, s.get i = some (.row 24 o false false) → s'.get i = some (.row 24 o false false) := fun i o hi => p6 i o (by rw [get_alloc_old _ _ (by have := h.ok.lt hi; omega)]; exact hi)
  refine ⟨tm', s', _, cells ++ cx, e1, ⟨p4, h.keep.trans (hkA.trans p5), hold b _ h.hb, hold r _ h.hr, h.bn, h.rn, h.br, ?_, RepL.snoc h.rep y4', h.cur⟩, e2, e3, e4⟩
  refine .inr ⟨_, ?_, by simp, p2, by simp⟩
  rw [next_alloc]; omega

theorem itQ8 {E : Env} {S : Self} {s0 s : St} {tm : Trie AV} {b r : Nat} {av : AV} {pre : List DT} {cells ce : List AV} {n p : Int} {t : List Nat} {x e : DT} (hok0 : Ok s0) (h : ItSt s0 s b r av pre cells (.mk 6 n t [x, e] p) ce)
    (g1 : tm.get 1 = some (.ptr b 0)) (g2 : tm.get 2 = some av) (g3 : tm.get 3 = some (.ptr r 0)) :
    ∃ tm' s' ce', evC E S none Q8 ⟨tm, []⟩ s = some (.norm, ⟨tm', []⟩, s') ∧ ItSt s0 s' b r av pre cells e ce' ∧ tm'.get 1 = some (.ptr b 0) ∧ tm'.get 2 = some av ∧ tm'.get 3 = some (.ptr r 0) := by
  have hcur := h.cur
  simp only [Rep] at hcur
  obtain ⟨kv, kc, rfl, hs, hr⟩ := hcur
  obtain ⟨id0, off0, cs0, cx, y1, y2, y3, y4, _⟩ := hs.at hr (i := 1) (by simp)
  have y4' : Rep s0.get e cx := y4
  obtain ⟨o0, ho0⟩ := rowO_some y2
  have hy2 : rowO (s.get id0) = some cs0 := by rw [KeepB.get h.keep (hok0.lt ho0)]; exact y2
  have hl5 := y4'.length
  have hsc := y4'.scal
  have hbb := h.hb
  have y1' : vIa 5 kv (.int .i64 (.ofNat 1)) = some (.ptr id0 off0) := y1
  have y1'' : vIa 5 kv (.int .i64 1) = some (.ptr id0 off0) := y1
  have hp : paste [.int .i64 6, .int .i64 n, .str t, kv, .int .i64 p] 0 cx = some cx := by
    obtain ⟨k', n', t', kv', hce, _⟩ := y4'.parts
    rw [hce]; rfl
  have hev : ∃ tm', evC E S none Q8 ⟨tm, []⟩ s = some (.norm, ⟨tm', []⟩, s.put b (.row 24 cx false false)) ∧ tm'.get 1 = some (.ptr b 0) ∧ tm'.get 2 = some av ∧ tm'.get 3 = some (.ptr r 0) := by
    simp (disch := first | omega | (simp only [next_alloc, next_put] <;> omega) | (repeat (first | assumption | apply Ok.alloc | apply Ok.put))) only [aggO_some, evC_reg, evS_cons, evS_nil, stepS_n, bindS_some, stS_some, setDst_some, setDst_none, evOp_ld, evOp_ldn, evOp_st, evOp_fa, evOp_ia, o2_k, v1_k, v2_k, opd_t, opd_c, Trie.get_set, k1_some, k2_some, b2_some, ret1_some, vFa_ptr, normR_some, headV_cons, cut_cons, takeN, dropN, ↓reduceIte, Nat.zero_add, Nat.reduceEqDiff, Int.ofNat_eq_natCast, Int.cast_ofNat_Int, rowO_row, cutO_some, headO_some, vLd_get, vLdn_get, Q8, g1, hbb, y1'', hy2, y3, oSt_row (w := .agg cx) (n := 5) hbb hl5 hsc hp]
    refine ⟨_, rfl, ?_, ?_, ?_⟩ <;> simp (disch := first | omega | (simp only [next_alloc, next_put] <;> omega) | (repeat (first | assumption | apply Ok.alloc | apply Ok.put))) only [Trie.get_set, ↓reduceIte, Nat.reduceEqDiff, g1, g2, g3]
  obtain ⟨tm', e1, e2, e3, e4⟩ := hev
  refine ⟨tm', _, cx, e1, ⟨h.ok.put (h.ok.lt h.hb), h.keep.put b _ h.bn, get_put_new h.hb, by rw [get_put_old _ _ (Ne.symm h.br)]; exact h.hr, h.bn, h.rn, h.br, ?_, h.rep, y4'⟩, e2, e3, e4⟩
  rcases h.acc with h1 | ⟨id, a1, a2, a3, a4⟩
  · exact .inl h1
  · have hne : id ≠ b := fun e => by subst e; rw [a3] at hbb; cases hbb
    exact .inr ⟨id, a1, a2, by rw [get_put_old _ _ hne]; exact a3, a4⟩

theorem itP9 {E : Env} {S : Self} {s0 s : St} {tm : Trie AV} {b r : Nat} {av : AV} {pre : List DT} {cells ce : List AV} {n p : Int} {t : List Nat} {x e : DT} (hok0 : Ok s0) (h : ItSt s0 s b r av pre cells (.mk 6 n t [x, e] p) ce) (hn : pre.length < 1000000)
    (g1 : tm.get 1 = some (.ptr b 0)) (g2 : tm.get 4 = some av) (g3 : tm.get 3 = some (.ptr r 0)) :
    ∃ tm' s' av' cells', evC E S none P9 ⟨tm, []⟩ s = some (.norm, ⟨tm', []⟩, s') ∧ ItSt s0 s' b r av' (pre ++ [x]) cells' (.mk 6 n t [x, e] p) ce ∧ tm'.get 1 = some (.ptr b 0) ∧ tm'.get 4 = some av' ∧ tm'.get 3 = some (.ptr r 0) := by
  have hcur := h.cur
  simp only [Rep] at hcur
  obtain ⟨kv, kc, rfl, hs, hr⟩ := hcur
  obtain ⟨id0, off0, cs0, cx, y1, y2, y3, y4, _⟩ := hs.at hr (i := 0) (by simp)
  have y4' : Rep s0.get x cx := y4
  obtain ⟨o0, ho0⟩ := rowO_some y2
  have hy2 : rowO (s.get id0) = some cs0 := by rw [KeepB.get h.keep (hok0.lt ho0)]; exact y2
  have hl5 := y4'.length
  have hsc := y4'.scal
  have hok1 := h.ok.alloc (.row 24 cx false false)
  have hkn := h.keep.next
  have hacc : Acc (s.alloc (.row 24 cx false false)) s0.next av pre.length cells := by
    rcases h.acc with h1 | ⟨id, a1, a2, a3, a4⟩
    · exact .inl h1
    · exact .inr ⟨id, a1, a2, by rw [get_alloc_old _ _ (by have := h.ok.lt a3; omega)]; exact a3, a4⟩
  obtain ⟨s', p1, p2, p3, p4, p5, p6⟩ := app_acc hok1 (by rw [next_alloc]; omega) hacc (RepL.length h.rep) (get_alloc_new h.ok _) hl5 hsc hn
  obtain ⟨k', n', t', kv', hcx, _⟩ := y4'.parts
  have y1' : vIa 5 kv (.int .i64 (.ofNat 0)) = some (.ptr id0 off0) := y1
  have y1'' : vIa 5 kv (.int .i64 0) = some (.ptr id0 off0) := y1
  have hbb := h.hb
  have hkA : KeepB s0.next s (s.alloc (.row 24 cx false false)) := (KeepB.refl _ _).alloc _ hkn
  have hev : ∃ tm', evC E S none P9 ⟨tm, []⟩ s = some (.norm, ⟨tm', []⟩, s') ∧ tm'.get 1 = some (.ptr b 0) ∧ tm'.get 4 = some (.sl (s.alloc (.row 24 cx false false)).next 0 (pre.length + 1) (.opn 5)) ∧ tm'.get 3 = some (.ptr r 0) := by
    subst hcx
    simp (disch := first | omega | (simp only [next_alloc, next_put] <;> omega) | (repeat (first | assumption | apply Ok.alloc | apply Ok.put))) only [aggO_some, ble_d, beq_d, lenN, evC_reg, evS_cons, evS_nil, stepS_n, bindS_some, stS_some, setDst_some, evOp_mv, evOp_bsl, evOp_ld, evOp_ldn, evOp_fa, evOp_ia, evOp_app, o2_k, v1_k, v2_k, opd_t, opd_c, Trie.get_set, k1_some, k2_some, b2_some, ret1_some, vFa_ptr, cells_agg, normR_some, headV_cons, cut_cons, takeN, dropN, ↓reduceIte, decide_true, Bool.and_true, cond_true, Nat.zero_add, Nat.succ_eq_add_one, Nat.reduceEqDiff, Nat.reduceLeDiff, Nat.reduceAdd, Int.ofNat_eq_natCast, Int.cast_ofNat_Int, rowO_row, cutO_some, headO_some, vLd_get, vLdn_get, next_alloc, paste, over, P9, g1, g2, hbb, y1'', hy2, y3, fillC, oBsl_some, p1]
    refine ⟨_, rfl, ?_, ?_, ?_⟩ <;> simp (disch := first | omega | (simp only [next_alloc, next_put] <;> omega) | (repeat (first | assumption | apply Ok.alloc | apply Ok.put))) only [Trie.get_set, ↓reduceIte, Nat.reduceEqDiff, g1, g3]
  obtain ⟨tm', e1, e2, e3, e4⟩ := hev
  have hold : ∀ i o, s.get i = some (.row 24 o false false) → s'.get i = some (.row 24 o false false) := fun i o hi => p6 i o (by rw [get_alloc_old _ _ (by have := h.ok.lt hi; omega)]; exact hi)
  refine ⟨tm', s', _, cells ++ cx, e1, ⟨p4, h.keep.trans (hkA.trans p5), hold b _ h.hb, hold r _ h.hr, h.bn, h.rn, h.br, ?_, RepL.snoc h.rep y4', h.cur⟩, e2, e3, e4⟩
  refine .inr ⟨_, ?_, by simp, p2, by simp⟩
  rw [next_alloc]; omega

theorem itQ9 {E : Env} {S : Self} {s0 s : St} {tm : Trie AV} {b r : Nat} {av : AV} {pre : List DT} {cells ce : List AV} {n p : Int} {t : List Nat} {x e : DT} (hok0 : Ok s0) (h : ItSt s0 s b r av pre cells (.mk 6 n t [x, e] p) ce)
    (g1 : tm.get 1 = some (.ptr b 0)) (g2 : tm.get 4 = some av) (g3 : tm.get 3 = some (.ptr r 0)) :
    ∃ tm' s' ce', evC E S none Q9 ⟨tm, []⟩ s = some (.norm, ⟨tm', []⟩, s') ∧ ItSt s0 s' b r av pre cells e ce' ∧ tm'.get 1 = some (.ptr b 0) ∧ tm'.get 4 = some av ∧ tm'.get 3 = some (.ptr r 0) := by
  have hcur := h.cur
  simp only [Rep] at hcur
  obtain ⟨kv, kc, rfl, hs, hr⟩ := hcur
  obtain ⟨id0, off0, cs0, cx, y1, y2, y3, y4, _⟩ := hs.at hr (i := 1) (by simp)
  have y4' : Rep s0.get e cx := y4
  obtain ⟨o0, ho0⟩ := rowO_some y2
  have hy2 : rowO (s.get id0) = some cs0 := by rw [KeepB.get h.keep (hok0.lt ho0)]; exact y2
  have hl5 := y4'.length
  have hsc := y4'.scal
  have hbb := h.hb
  have y1' : vIa 5 kv (.int .i64 (.ofNat 1)) = some (.ptr id0 off0) := y1
  have y1'' : vIa 5 kv (.int .i64 1) = some (.ptr id0 off0) := y1
  have hp : paste [.int .i64 6, .int .i64 n, .str t, kv, .int .i64 p] 0 cx = some cx := by
    obtain ⟨k', n', t', kv', hce, _⟩ := y4'.parts
    rw [hce]; rfl
  have hev : ∃ tm', evC E S none Q9 ⟨tm, []⟩ s = some (.norm, ⟨tm', []⟩, s.put b (.row 24 cx false false)) ∧ tm'.get 1 = some (.ptr b 0) ∧ tm'.get 4 = some av ∧ tm'.get 3 = some (.ptr r 0) := by
    simp (disch := first | omega | (simp only [next_alloc, next_put] <;> omega) | (repeat (first | assumption | apply Ok.alloc | apply Ok.put))) only [aggO_some, evC_reg, evS_cons, evS_nil, stepS_n, bindS_some, stS_some, setDst_some, setDst_none, evOp_ld, evOp_ldn, evOp_st, evOp_fa, evOp_ia, o2_k, v1_k, v2_k, opd_t, opd_c, Trie.get_set, k1_some, k2_some, b2_some, ret1_some, vFa_ptr, normR_some, headV_cons, cut_cons, takeN, dropN, ↓reduceIte, Nat.zero_add, Nat.reduceEqDiff, Int.ofNat_eq_natCast, Int.cast_ofNat_Int, rowO_row, cutO_some, headO_some, vLd_get, vLdn_get, Q9, g1, hbb, y1'', hy2, y3, oSt_row (w := .agg cx) (n := 5) hbb hl5 hsc hp]
    refine ⟨_, rfl, ?_, ?_, ?_⟩ <;> simp (disch := first | omega | (simp only [next_alloc, next_put] <;> omega) | (repeat (first | assumption | apply Ok.alloc | apply Ok.put))) only [Trie.get_set, ↓reduceIte, Nat.reduceEqDiff, g1, g2, g3]
  obtain ⟨tm', e1, e2, e3, e4⟩ := hev
  refine ⟨tm', _, cx, e1, ⟨h.ok.put (h.ok.lt h.hb), h.keep.put b _ h.bn, get_put_new h.hb, by rw [get_put_old _ _ (Ne.symm h.br)]; exact h.hr, h.bn, h.rn, h.br, ?_, h.rep, y4'⟩, e2, e3, e4⟩
  rcases h.acc with h1 | ⟨id, a1, a2, a3, a4⟩
  · exact .inl h1
  · have hne : id ≠ b := fun e => by subst e; rw [a3] at hbb; cases hbb
    exact .inr ⟨id, a1, a2, by rw [get_put_old _ _ hne]; exact a3, a4⟩

theorem itLoop8 {E : Env} {O : List Nat} (hE : E.funs.get 15 = some f15) (hO : memN 15 O = false) {d : DT} {l : List DT} {z : DT} (hi : ItemsR d l z) : ∀ n, l.length + 1 ≤ n → ∀ (s0 s : St) (tm : Trie AV) (b r : Nat) (av : AV) (pre : List DT) (cells ce : List AV), Ok s0 → ItSt s0 s b r av pre cells d ce → pre.length + l.length ≤ 1000000 →
    tm.get 1 = some (.ptr b 0) → tm.get 2 = some av → tm.get 3 = some (.ptr r 0) →
    ∃ tm' s' av' cells' ce', evC E (evT E O n) none (.loop b8_0) ⟨tm, []⟩ s = some (.exit 0, ⟨tm', []⟩, s') ∧ ItSt s0 s' b r av' (pre ++ l) cells' z ce' ∧ tm'.get 1 = some (.ptr b 0) ∧ tm'.get 2 = some av' ∧ tm'.get 3 = some (.ptr r 0) := by
  induction hi with
  | @stop k n0 t ks p hnp =>
    intro n hn s0 s tm b r av pre cells ce hok0 h hlen g1 g2 g3
    obtain ⟨s', h', e0⟩ : ∃ s', ItSt s0 s' b r av pre cells (.mk k n0 t ks p) ce ∧ ∃ tm', evC E (evT E O n) none C8 ⟨tm, []⟩ s = some (.exit 0, ⟨tm', []⟩, s') ∧ tm'.get 1 = some (.ptr b 0) ∧ tm'.get 2 = some av ∧ tm'.get 3 = some (.ptr r 0) := by
      exact itC8_no hE hO (by simp only [List.length_nil] at hn; omega) h hnp g1 g2 g3
    obtain ⟨tm', e1, e2, e3, e4⟩ := e0
    rw [evC_loop, b8_0_eq, evC_seq, e1, thenR_exit, thenR_exit]
    exact ⟨tm', s', av, cells, ce, rfl, by simpa using h', e2, e3, e4⟩
  | @cons n0 t x e p l z hr ih =>
    intro n hn s0 s tm b r av pre cells ce hok0 h hlen g1 g2 g3
    simp only [List.length_cons] at hn hlen
    obtain ⟨s1, h1, tm1, c1, c2, c3, c4⟩ := itC8_yes (E := E) (O := O) hE hO (n := n) (by omega) h g1 g2 g3
    obtain ⟨tm2, s2, av2, cells2, p1, p2, p3, p4, p5⟩ := itP8 (E := E) (S := evT E O n) hok0 h1 (by omega) c2 c3 c4
    obtain ⟨tm3, s3, ce3, q1, q2, q3, q4, q5⟩ := itQ8 (E := E) (S := evT E O n) hok0 p2 p3 p4 p5
    have hbody : evC E (evT E O n) none b8_0 ⟨tm, []⟩ s = some (.norm, ⟨tm3, []⟩, s3) := by
      rw [b8_0_eq, evC_seq, c1, thenR_norm, evC_block, evC_seq, p1, thenR_norm, q1, blockR_norm]
    rw [evC_loop, hbody, thenR_norm]
    obtain ⟨n, rfl⟩ : ∃ m, n = m + 1 := ⟨n - 1, by omega⟩
    rw [evT_loop]
    obtain ⟨tm4, s4, av4, cells4, ce4, k1, k2, k3, k4, k5⟩ := ih n (by omega) s0 s3 tm3 b r av2 (pre ++ [x]) cells2 ce3 hok0 q2 (by simp; omega) q3 q4 q5
    exact ⟨tm4, s4, av4, cells4, ce4, k1, by simpa using k2, k3, k4, k5⟩

theorem itLoop9 {E : Env} {O : List Nat} {d : DT} {l : List DT} {z : DT} (hi : ItemsR d l z) : ∀ n, l.length + 1 ≤ n → ∀ (s0 s : St) (tm : Trie AV) (b r : Nat) (av : AV) (pre : List DT) (cells ce : List AV), Ok s0 → ItSt s0 s b r av pre cells d ce → pre.length + l.length ≤ 1000000 →
    tm.get 1 = some (.ptr b 0) → tm.get 4 = some av → tm.get 3 = some (.ptr r 0) →
    ∃ tm' s' av' cells' ce', evC E (evT E O n) none (.loop b9_0) ⟨tm, []⟩ s = some (.exit 0, ⟨tm', []⟩, s') ∧ ItSt s0 s' b r av' (pre ++ l) cells' z ce' ∧ tm'.get 1 = some (.ptr b 0) ∧ tm'.get 4 = some av' ∧ tm'.get 3 = some (.ptr r 0) := by
  induction hi with
  | @stop k n0 t ks p hnp =>
    intro n hn s0 s tm b r av pre cells ce hok0 h hlen g1 g2 g3
    obtain ⟨s', h', e0⟩ : ∃ s', ItSt s0 s' b r av pre cells (.mk k n0 t ks p) ce ∧ ∃ tm', evC E (evT E O n) none C9 ⟨tm, []⟩ s = some (.exit 0, ⟨tm', []⟩, s') ∧ tm'.get 1 = some (.ptr b 0) ∧ tm'.get 4 = some av ∧ tm'.get 3 = some (.ptr r 0) := by
      exact itC9_no (by simp only [List.length_nil] at hn; omega) h hnp g1 g2 g3
    obtain ⟨tm', e1, e2, e3, e4⟩ := e0
    rw [evC_loop, b9_0_eq, evC_seq, e1, thenR_exit, thenR_exit]
    exact ⟨tm', s', av, cells, ce, rfl, by simpa using h', e2, e3, e4⟩
  | @cons n0 t x e p l z hr ih =>
    intro n hn s0 s tm b r av pre cells ce hok0 h hlen g1 g2 g3
    simp only [List.length_cons] at hn hlen
    obtain ⟨s1, h1, tm1, c1, c2, c3, c4⟩ := itC9_yes (E := E) (O := O) (n := n) (by omega) h g1 g2 g3
    obtain ⟨tm2, s2, av2, cells2, p1, p2, p3, p4, p5⟩ := itP9 (E := E) (S := evT E O n) hok0 h1 (by omega) c2 c3 c4
    obtain ⟨tm3, s3, ce3, q1, q2, q3, q4, q5⟩ := itQ9 (E := E) (S := evT E O n) hok0 p2 p3 p4 p5
    have hbody : evC E (evT E O n) none b9_0 ⟨tm, []⟩ s = some (.norm, ⟨tm3, []⟩, s3) := by
      rw [b9_0_eq, evC_seq, c1, thenR_norm, evC_block, evC_seq, p1, thenR_norm, q1, blockR_norm]
    rw [evC_loop, hbody, thenR_norm]
    obtain ⟨n, rfl⟩ : ∃ m, n = m + 1 := ⟨n - 1, by omega⟩
    rw [evT_loop]
    obtain ⟨tm4, s4, av4, cells4, ce4, k1, k2, k3, k4, k5⟩ := ih n (by omega) s0 s3 tm3 b r av2 (pre ++ [x]) cells2 ce3 hok0 q2 (by simp; omega) q3 q4 q5
    exact ⟨tm4, s4, av4, cells4, ce4, k1, by simpa using k2, k3, k4, k5⟩

def ItemsOk (E : Env) (O : List Nat) (f : Nat) (d : DT) (l : List DT) (z : DT) : Prop :=
  ∃ N, ∀ n, N ≤ n → ∀ (s : St) (cs : List AV), Ok s → Rep s.get d cs →
    Ret ((evT E O n).call f [.agg cs] s) fun v s' => Ok s' ∧ Keep s s' ∧ ∃ av c cells, v = .tup [av, .agg c] ∧ SliceOf s'.get av l.length cells ∧ RepL s'.get l cells ∧ Rep s'.get z c

theorem items8_ok {E : Env} {O : List Nat} (hEf : E.funs.get 8 = some f8) (hOf : memN 8 O = false) (hE : E.funs.get 15 = some f15) (hO : memN 15 O = false) {d : DT} {l : List DT} {z : DT} (hi : ItemsR d l z) (hlen : l.length ≤ 1000000) : ItemsOk E O 8 d l z := by
  refine ⟨l.length + 2, fun n hn s cs hok hrep => ?_⟩
  obtain ⟨n, rfl⟩ : ∃ m, n = m + 1 := ⟨n - 1, by omega⟩
  rw [evT_call hOf hEf, callF_of hEf]
  have hok1 := hok.alloc (.row 24 cs false false)
  have hok2 := hok1.alloc (.row 24 [.int .i64 (.ofNat 0), .int .i64 (.ofNat 0), .str [], .nils, .int .i64 (.ofNat 0)] false false)
  have hk1 : Keep s (s.alloc (.row 24 cs false false)) := (KeepB.refl _ _).alloc _ (Nat.le_refl _)
  have hk2 : Keep s ((s.alloc (.row 24 cs false false)).alloc (.row 24 [.int .i64 (.ofNat 0), .int .i64 (.ofNat 0), .str [], .nils, .int .i64 (.ofNat 0)] false false)) := hk1.alloc _ (by rw [next_alloc]; omega)
  have gg1 : ((s.alloc (.row 24 cs false false)).alloc (.row 24 [.int .i64 (.ofNat 0), .int .i64 (.ofNat 0), .str [], .nils, .int .i64 (.ofNat 0)] false false)).get s.next = some (.row 24 cs false false) := by
    rw [get_alloc_old _ _ (by rw [next_alloc]; omega)]; exact get_alloc_new hok _
  have gg2 : ((s.alloc (.row 24 cs false false)).alloc (.row 24 [.int .i64 (.ofNat 0), .int .i64 (.ofNat 0), .str [], .nils, .int .i64 (.ofNat 0)] false false)).get (s.next + 1) = some (.row 24 [.int .i64 (.ofNat 0), .int .i64 (.ofNat 0), .str [], .nils, .int .i64 (.ofNat 0)] false false) := get_alloc_new hok1 _
  have hbs : ∃ tm0, evC E (evT E O n) none R8_0 ⟨setArgs .leaf 0 [.agg cs], []⟩ s = some (.norm, ⟨tm0, []⟩, (s.alloc (.row 24 cs false false)).alloc (.row 24 [.int .i64 (.ofNat 0), .int .i64 (.ofNat 0), .str [], .nils, .int .i64 (.ofNat 0)] false false)) ∧ tm0.get 1 = some (.ptr s.next 0) ∧ tm0.get 2 = some .nils ∧ tm0.get 3 = some (.ptr (s.next + 1) 0) := by
    simp (disch := first | omega | (simp only [next_alloc, next_put] <;> omega) | (repeat (first | assumption | apply Ok.alloc | apply Ok.put))) only [evC_reg, evS_cons, evS_nil, stepS_n, bindS_some, stS_some, setDst_some, evOp_mv, evOp_alloc, evOp_box, o1_k, v1_k, opd_t, opd_c, Trie.get_set, setArgs, k1_some, b1_some, oBox_eq, oAlloc_eq, ret1_some, cells_agg, normR_some, ↓reduceIte, Int.ofNat_eq_natCast, Int.cast_ofNat_Int, next_alloc, R8_0]
    refine ⟨_, rfl, ?_, ?_, ?_⟩ <;> simp (disch := first | omega | (simp only [next_alloc, next_put] <;> omega) | (repeat (first | assumption | apply Ok.alloc | apply Ok.put))) only [Trie.get_set, ↓reduceIte, Nat.reduceEqDiff, ]
  obtain ⟨tm0, e0, t1, t2, t3⟩ := hbs
  obtain ⟨s2, hse⟩ : ∃ s2, s2 = (s.alloc (.row 24 cs false false)).alloc (.row 24 [.int .i64 (.ofNat 0), .int .i64 (.ofNat 0), .str [], .nils, .int .i64 (.ofNat 0)] false false) := ⟨_, rfl⟩
  rw [← hse] at gg1 gg2 e0 hok2 hk2
  have hst : ItSt s s2 s.next (s.next + 1) .nils [] [] d cs := ⟨hok2, hk2, gg1, gg2, Nat.le_refl _, by omega, by omega, .inl ⟨rfl, rfl, rfl⟩, by simp [RepL], hrep⟩
  obtain ⟨tm1, s3, av, cells, ce, q1, q2, q3, q4, q5⟩ := itLoop8 (E := E) (O := O) hE hO hi n (by omega) s s2 tm0 s.next (s.next + 1) .nils [] [] cs hok hst (by simpa using hlen) t1 t2 t3
  rw [List.nil_append] at q2
  have hl5 := q2.cur.length
  have hsc := q2.cur.scal
  have hcut : cut ce 0 5 = some ce := by rw [cut_eq (by omega), List.drop_zero, List.take_of_length_le (by omega)]
  have hpaste : paste [.int .i64 (.ofNat 0), .int .i64 (.ofNat 0), .str [], .nils, .int .i64 (.ofNat 0)] 0 ce = some ce := by
    obtain ⟨k', n', t', kv', hce, _⟩ := q2.cur.parts
    rw [hce]; rfl
  have hlb := q2.ok.lt q2.hb
  have hlr := q2.ok.lt q2.hr
  have hR : ∃ tm' s', regdR E (evT E O n) R8 ⟨tm1, []⟩ s3 = some (.norm, ⟨tm', []⟩, s') ∧ (s' = s3.put (s.next + 1) (.row 24 ce false false) ∧ tm'.get 2 = some av ∧ tm'.get 3 = some (.ptr (s.next + 1) 0)) := by
    refine regdR_of (fr := ⟨tm1, []⟩) q2.ok ?_
    unfold R8
    refine RD_pure (b := s3.next) av q2.ok (Lg.nil _ _) (Nat.le_refl _) (fun s2 => by simp (disch := first | omega | (simp only [next_alloc, next_put] <;> omega) | (repeat (first | assumption | apply Ok.alloc | apply Ok.put))) only [evOp_mv, v1_k, opd_t, k1_some, ret1_some, q4]) fun log hl hn => ?_
    refine RD_ldn (c5 := ce) (cs := ce) (off := 0) q2.ok hl (Nat.le_refl _) (by simp (disch := first | omega | (simp only [next_alloc, next_put] <;> omega) | (repeat (first | assumption | apply Ok.alloc | apply Ok.put))) only [setDst_some, opd_t, Trie.get_set, ↓reduceIte, Nat.reduceEqDiff, q3]) hlb (by rw [q2.hb]; rfl) hcut fun log hl hn2 => ?_
    refine RD_pure av q2.ok hl (Nat.le_refl _) (fun s2 => by simp (disch := first | omega | (simp only [next_alloc, next_put] <;> omega) | (repeat (first | assumption | apply Ok.alloc | apply Ok.put))) only [setDst_some, evOp_mv, v1_k, opd_t, Trie.get_set, k1_some, ret1_some, ↓reduceIte, Nat.reduceEqDiff, ]) fun log hl hn3 => ?_
    refine RD_st (w := .agg ce) (off := 0) q2.ok hl (by simp (disch := first | omega | (simp only [next_alloc, next_put] <;> omega) | (repeat (first | assumption | apply Ok.alloc | apply Ok.put))) only [setDst_some, opd_t, Trie.get_set, ↓reduceIte, Nat.reduceEqDiff, q5]) (by simp (disch := first | omega | (simp only [next_alloc, next_put] <;> omega) | (repeat (first | assumption | apply Ok.alloc | apply Ok.put))) only [setDst_some, opd_t, Trie.get_set, ↓reduceIte, Nat.reduceEqDiff, ]) hlr ?_ q2.hr hl5 hsc hpaste ?_
    · intro j hj
      have : j = 0 ∨ j = 1 ∨ j = 2 := by omega
      rcases this with rfl | rfl | rfl <;> rfl
    · exact ⟨rfl, by simp (disch := first | omega | (simp only [next_alloc, next_put] <;> omega) | (repeat (first | assumption | apply Ok.alloc | apply Ok.put))) only [setDst_some, setDst_none, Trie.get_set, ↓reduceIte, ], by simp (disch := first | omega | (simp only [next_alloc, next_put] <;> omega) | (repeat (first | assumption | apply Ok.alloc | apply Ok.put))) only [setDst_some, setDst_none, Trie.get_set, ↓reduceIte, Nat.reduceEqDiff, q5]⟩
  obtain ⟨tm5, s5, r1, rfl, r2, r3⟩ := hR
  have hgp : (s3.put (s.next + 1) (.row 24 ce false false)).get (s.next + 1) = some (.row 24 ce false false) := get_put_new q2.hr
  have hkk : Keep s (s3.put (s.next + 1) (.row 24 ce false false)) := q2.keep.put _ _ (by omega)
  have hle := KeepB.le hkk hok
  rw [f8_eq, callB]
  simp only [lenN, ble_d, Nat.succ_eq_add_one, Nat.zero_add, Nat.reduceLeDiff, decide_true, cond_true]
  rw [evC_seq, e0, thenR_norm, evC_seq, evC_block, q1, blockR_exit, if_pos rfl, thenR_norm, evC_seq, evC_regd, r1, thenR_norm, evC_ret, callEnd_ret, resE_tcn, r2, r3, aggK_some, loadC_get, hgp, rowO_row, cutO_some, hcut, aggO_some, k2_some, ret1_some]
  refine ⟨_, _, rfl, q2.ok.put hlr, hkk, av, ce, cells, rfl, ?_, RepL.mono hle _ _ q2.rep, Rep.mono hle _ _ q2.cur⟩
  have hlenc := RepL.length q2.rep
  refine ⟨by omega, ?_⟩
  rcases q2.acc with ⟨h1, h2, h3⟩ | ⟨id, a1, a2, a3, a4⟩
  · exact .inl ⟨h1, h3, .inl h2⟩
  · have hr3 := q2.hr
    have hne : id ≠ s.next + 1 := fun e => by subst e; rw [a3] at hr3; cases hr3
    refine .inr ⟨id, 0, .opn 5, cells, a2, by rw [get_put_old _ _ hne, a3]; rfl, ?_⟩
    rw [cut_eq (by omega), List.drop_zero, List.take_of_length_le (by omega)]

theorem items9_ok {E : Env} {O : List Nat} (hEf : E.funs.get 9 = some f9) (hOf : memN 9 O = false) {d : DT} {l : List DT} {z : DT} (hi : ItemsR d l z) (hlen : l.length ≤ 1000000) : ItemsOk E O 9 d l z := by
  refine ⟨l.length + 2, fun n hn s cs hok hrep => ?_⟩
  obtain ⟨n, rfl⟩ : ∃ m, n = m + 1 := ⟨n - 1, by omega⟩
  rw [evT_call hOf hEf, callF_of hEf]
  have hok1 := hok.alloc (.row 24 cs false false)
  have hok2 := hok1.alloc (.row 24 [.int .i64 (.ofNat 0), .int .i64 (.ofNat 0), .str [], .nils, .int .i64 (.ofNat 0)] false false)
  have hk1 : Keep s (s.alloc (.row 24 cs false false)) := (KeepB.refl _ _).alloc _ (Nat.le_refl _)
  have hk2 : Keep s ((s.alloc (.row 24 cs false false)).alloc (.row 24 [.int .i64 (.ofNat 0), .int .i64 (.ofNat 0), .str [], .nils, .int .i64 (.ofNat 0)] false false)) := hk1.alloc _ (by rw [next_alloc]; omega)
  have gg1 : ((s.alloc (.row 24 cs false false)).alloc (.row 24 [.int .i64 (.ofNat 0), .int .i64 (.ofNat 0), .str [], .nils, .int .i64 (.ofNat 0)] false false)).get s.next = some (.row 24 cs false false) := by
    rw [get_alloc_old _ _ (by rw [next_alloc]; omega)]; exact get_alloc_new hok _
  have gg2 : ((s.alloc (.row 24 cs false false)).alloc (.row 24 [.int .i64 (.ofNat 0), .int .i64 (.ofNat 0), .str [], .nils, .int .i64 (.ofNat 0)] false false)).get (s.next + 1) = some (.row 24 [.int .i64 (.ofNat 0), .int .i64 (.ofNat 0), .str [], .nils, .int .i64 (.ofNat 0)] false false) := get_alloc_new hok1 _
  have hbs : ∃ tm0, evC E (evT E O n) none R9_0 ⟨setArgs .leaf 0 [.agg cs], []⟩ s = some (.norm, ⟨tm0, []⟩, (s.alloc (.row 24 cs false false)).alloc (.row 24 [.int .i64 (.ofNat 0), .int .i64 (.ofNat 0), .str [], .nils, .int .i64 (.ofNat 0)] false false)) ∧ tm0.get 1 = some (.ptr s.next 0) ∧ tm0.get 2 = some .nils ∧ tm0.get 3 = some (.ptr (s.next + 1) 0) := by
    simp (disch := first | omega | (simp only [next_alloc, next_put] <;> omega) | (repeat (first | assumption | apply Ok.alloc | apply Ok.put))) only [evC_reg, evS_cons, evS_nil, stepS_n, bindS_some, stS_some, setDst_some, evOp_mv, evOp_alloc, evOp_box, o1_k, v1_k, opd_t, opd_c, Trie.get_set, setArgs, k1_some, b1_some, oBox_eq, oAlloc_eq, ret1_some, cells_agg, normR_some, ↓reduceIte, Int.ofNat_eq_natCast, Int.cast_ofNat_Int, next_alloc, R9_0]
    refine ⟨_, rfl, ?_, ?_, ?_⟩ <;> simp (disch := first | omega | (simp only [next_alloc, next_put] <;> omega) | (repeat (first | assumption | apply Ok.alloc | apply Ok.put))) only [Trie.get_set, ↓reduceIte, Nat.reduceEqDiff, ]
  obtain ⟨tm0, e0, t1, t2', t3⟩ := hbs
  obtain ⟨s2, hse⟩ : ∃ s2, s2 = (s.alloc (.row 24 cs false false)).alloc (.row 24 [.int .i64 (.ofNat 0), .int .i64 (.ofNat 0), .str [], .nils, .int .i64 (.ofNat 0)] false false) := ⟨_, rfl⟩
  rw [← hse] at gg1 gg2 e0 hok2 hk2
  have hM : ∃ tm', evC E (evT E O n) none R9_1 ⟨tm0, []⟩ s2 = some (.norm, ⟨tm', []⟩, s2) ∧ tm'.get 1 = some (.ptr s.next 0) ∧ tm'.get 3 = some (.ptr (s.next + 1) 0) ∧ tm'.get 4 = some .nils := by
    simp (disch := first | omega | (simp only [next_alloc, next_put] <;> omega) | (repeat (first | assumption | apply Ok.alloc | apply Ok.put))) only [evC_reg, evS_cons, evS_nil, stepS_n, bindS_some, stS_some, setDst_some, evOp_mv, v1_k, opd_c, k1_some, ret1_some, normR_some, R9_1]
    refine ⟨_, rfl, ?_, ?_, ?_⟩ <;> simp (disch := first | omega | (simp only [next_alloc, next_put] <;> omega) | (repeat (first | assumption | apply Ok.alloc | apply Ok.put))) only [Trie.get_set, ↓reduceIte, Nat.reduceEqDiff, t1, t3]
  obtain ⟨tm0, i1, t1, t3, t2⟩ := hM
  have hst : ItSt s s2 s.next (s.next + 1) .nils [] [] d cs := ⟨hok2, hk2, gg1, gg2, Nat.le_refl _, by omega, by omega, .inl ⟨rfl, rfl, rfl⟩, by simp [RepL], hrep⟩
  obtain ⟨tm1, s3, av, cells, ce, q1, q2, q3, q4, q5⟩ := itLoop9 (E := E) (O := O) hi n (by omega) s s2 tm0 s.next (s.next + 1) .nils [] [] cs hok hst (by simpa using hlen) t1 t2 t3
  rw [List.nil_append] at q2
  have hl5 := q2.cur.length
  have hsc := q2.cur.scal
  have hcut : cut ce 0 5 = some ce := by rw [cut_eq (by omega), List.drop_zero, List.take_of_length_le (by omega)]
  have hpaste : paste [.int .i64 (.ofNat 0), .int .i64 (.ofNat 0), .str [], .nils, .int .i64 (.ofNat 0)] 0 ce = some ce := by
    obtain ⟨k', n', t', kv', hce, _⟩ := q2.cur.parts
    rw [hce]; rfl
  have hlb := q2.ok.lt q2.hb
  have hlr := q2.ok.lt q2.hr
  have hR : ∃ tm' s', regdR E (evT E O n) R9 ⟨tm1, []⟩ s3 = some (.norm, ⟨tm', []⟩, s') ∧ (s' = s3.put (s.next + 1) (.row 24 ce false false) ∧ tm'.get 2 = some av ∧ tm'.get 3 = some (.ptr (s.next + 1) 0)) := by
    refine regdR_of (fr := ⟨tm1, []⟩) q2.ok ?_
    unfold R9
    refine RD_pure (b := s3.next) av q2.ok (Lg.nil _ _) (Nat.le_refl _) (fun s2 => by simp (disch := first | omega | (simp only [next_alloc, next_put] <;> omega) | (repeat (first | assumption | apply Ok.alloc | apply Ok.put))) only [evOp_mv, v1_k, opd_t, k1_some, ret1_some, q4]) fun log hl hn => ?_
    refine RD_ldn (c5 := ce) (cs := ce) (off := 0) q2.ok hl (Nat.le_refl _) (by simp (disch := first | omega | (simp only [next_alloc, next_put] <;> omega) | (repeat (first | assumption | apply Ok.alloc | apply Ok.put))) only [setDst_some, opd_t, Trie.get_set, ↓reduceIte, Nat.reduceEqDiff, q3]) hlb (by rw [q2.hb]; rfl) hcut fun log hl hn2 => ?_
    refine RD_pure av q2.ok hl (Nat.le_refl _) (fun s2 => by simp (disch := first | omega | (simp only [next_alloc, next_put] <;> omega) | (repeat (first | assumption | apply Ok.alloc | apply Ok.put))) only [setDst_some, evOp_mv, v1_k, opd_t, Trie.get_set, k1_some, ret1_some, ↓reduceIte, Nat.reduceEqDiff, ]) fun log hl hn3 => ?_
    refine RD_st (w := .agg ce) (off := 0) q2.ok hl (by simp (disch := first | omega | (simp only [next_alloc, next_put] <;> omega) | (repeat (first | assumption | apply Ok.alloc | apply Ok.put))) only [setDst_some, opd_t, Trie.get_set, ↓reduceIte, Nat.reduceEqDiff, q5]) (by simp (disch := first | omega | (simp only [next_alloc, next_put] <;> omega) | (repeat (first | assumption | apply Ok.alloc | apply Ok.put))) only [setDst_some, opd_t, Trie.get_set, ↓reduceIte, Nat.reduceEqDiff, ]) hlr ?_ q2.hr hl5 hsc hpaste ?_
    · intro j hj
      have : j = 0 ∨ j = 1 ∨ j = 2 := by omega
      rcases this with rfl | rfl | rfl <;> rfl
    · exact ⟨rfl, by simp (disch := first | omega | (simp only [next_alloc, next_put] <;> omega) | (repeat (first | assumption | apply Ok.alloc | apply Ok.put))) only [setDst_some, setDst_none, Trie.get_set, ↓reduceIte, ], by simp (disch := first | omega | (simp only [next_alloc, next_put] <;> omega) | (repeat (first | assumption | apply Ok.alloc | apply Ok.put))) only [setDst_some, setDst_none, Trie.get_set, ↓reduceIte, Nat.reduceEqDiff, q5]⟩
  obtain ⟨tm5, s5, r1, rfl, r2, r3⟩ := hR
  have hgp : (s3.put (s.next + 1) (.row 24 ce false false)).get (s.next + 1) = some (.row 24 ce false false) := get_put_new q2.hr
  have hkk : Keep s (s3.put (s.next + 1) (.row 24 ce false false)) := q2.keep.put _ _ (by omega)
  have hle := KeepB.le hkk hok
  rw [f9_eq, callB]
  simp only [lenN, ble_d, Nat.succ_eq_add_one, Nat.zero_add, Nat.reduceLeDiff, decide_true, cond_true]
  rw [evC_seq, e0, thenR_norm, evC_seq, i1, thenR_norm, evC_seq, evC_block, q1, blockR_exit, if_pos rfl, thenR_norm, evC_seq, evC_regd, r1, thenR_norm, evC_ret, callEnd_ret, resE_tcn, r2, r3, aggK_some, loadC_get, hgp, rowO_row, cutO_some, hcut, aggO_some, k2_some, ret1_some]
  refine ⟨_, _, rfl, q2.ok.put hlr, hkk, av, ce, cells, rfl, ?_, RepL.mono hle _ _ q2.rep, Rep.mono hle _ _ q2.cur⟩
  have hlenc := RepL.length q2.rep
  refine ⟨by omega, ?_⟩
  rcases q2.acc with ⟨h1, h2, h3⟩ | ⟨id, a1, a2, a3, a4⟩
  · exact .inl ⟨h1, h3, .inl h2⟩
  · have hr3 := q2.hr
    have hne : id ≠ s.next + 1 := fun e => by subst e; rw [a3] at hr3; cases hr3
    refine .inr ⟨id, 0, .opn 5, cells, a2, by rw [get_put_old _ _ hne, a3]; rfl, ?_⟩
    rw [cut_eq (by omega), List.drop_zero, List.take_of_length_le (by omega)]

end Go.Proofs.YtagpffdamckekaaGreatDoor.Ev

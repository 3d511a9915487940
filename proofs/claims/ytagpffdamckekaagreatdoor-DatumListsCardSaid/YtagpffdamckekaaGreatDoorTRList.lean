/- By symbolic evaluation, for every datum: what the reference's 'List' answers. No conditions but what is said of the memory. -/
import Derived.Test.YtagpffdamckekaaGreatDoorEvG
import Derived.Test.YtagpffdamckekaaGreatDoorBodDatumLists
namespace Go.Proofs.YtagpffdamckekaaGreatDoor.Ev
open T
set_option maxRecDepth 100000

/-! ### Blocks apart -/
def hd (H : List Nat) (G : Nat → Option AObj) : Nat → Option AObj := fun id => if id ∈ H then none else G id
theorem hd_le (H : List Nat) (G : Nat → Option AObj) : Le (hd H G) G := by
  intro id cs h
  unfold hd at h
  by_cases e : id ∈ H
  · rw [if_pos e] at h; cases h
  · rw [if_neg e] at h; exact h
theorem Le.trans {G G' G'' : Nat → Option AObj} (h : Le G G') (h' : Le G' G'') : Le G G'' := fun id cs hr => h' id cs (h id cs hr)
theorem Le.refl (G : Nat → Option AObj) : Le G G := fun _ _ h => h
theorem Le.hd {H : List Nat} {G G' : Nat → Option AObj} (h : ∀ id cs, id ∉ H → rowO (G id) = some cs → rowO (G' id) = some cs) : Le (hd H G) (hd H G') := by
  intro id cs hr
  unfold Ev.hd at *
  by_cases e : id ∈ H
  · rw [if_pos e] at hr; cases hr
  · rw [if_neg e] at hr ⊢; exact h id cs e hr
theorem le_put {H : List Nat} (s : St) {b : Nat} (hb : b ∈ H) (o : AObj) : Le (hd H s.get) (hd H (s.put b o).get) := Le.hd fun id cs e hr => by
  have hne : id ≠ b := fun h => by subst h; exact e hb
  rw [get_put_old s o hne]; exact hr
theorem le_alloc {s : St} (hok : Ok s) (o : AObj) : Le s.get (s.alloc o).get := fun id cs hr => by
  obtain ⟨x, hx⟩ := rowO_some hr
  rw [get_alloc_old s o (by have := hok.lt hx; omega)]; exact hr
theorem le_alloc_hd {s : St} (hok : Ok s) (o : AObj) (H : List Nat) : Le (hd H s.get) (hd H (s.alloc o).get) := Le.hd fun id cs _ hr => le_alloc hok o id cs hr
/-- all that is apart is new -/
theorem le_newer {s s' : St} (hok : Ok s) (h : Le s.get s'.get) {H : List Nat} (hH : ∀ x ∈ H, s.next ≤ x) : Le s.get (hd H s'.get) := fun id cs hr => by
  obtain ⟨x, hx⟩ := rowO_some hr
  have := hok.lt hx
  unfold hd
  rw [if_neg (fun hm => by have := hH id hm; omega)]; exact h id cs hr
theorem hd_get {H : List Nat} {id : Nat} {G : Nat → Option AObj} {cs : List AV} (h : rowO (hd H G id) = some cs) : id ∉ H ∧ rowO (G id) = some cs := by
  unfold hd at h
  by_cases e : id ∈ H
  · rw [if_pos e] at h; cases h
  · rw [if_neg e] at h; exact ⟨e, h⟩

/-! ### Lists as trees -/
def DT.pos : DT → Int
  | .mk _ _ _ _ p => p
def pairF (x e : DT) : DT := .mk 6 0 [] [x, e] x.pos
def listF (l : List DT) (e : DT) : DT := l.foldr pairF e

theorem Rep.parts {G : Nat → Option AObj} {d : DT} {cs : List AV} (h : Rep G d cs) : ∃ k n t kv, cs = [.int .i64 k, .int .i64 n, .str t, kv, .int .i64 d.pos] ∧ scal kv = true := by
  cases d with
  | mk k n t ks p =>
    simp only [Rep] at h
    obtain ⟨kv, cells, rfl, h1, _⟩ := h
    refine ⟨k, n, t, kv, rfl, ?_⟩
    rcases h1.is with ⟨_, _, h | h⟩ | ⟨id, off, c, cs, h, _⟩ <;> subst h <;> rfl
theorem Rep.scal {G : Nat → Option AObj} {d : DT} {cs : List AV} (h : Rep G d cs) : allScal cs = true := by
  obtain ⟨k, n, t, kv, rfl, hk⟩ := h.parts
  simp only [allScal, hk, cond_true]; rfl
/-- the cells of a pair, its kids in a new row -/
theorem Rep.pair {G : Nat → Option AObj} {x e : DT} {cx ce : List AV} {id e0 : Nat} {ex fz : Bool} (hx : Rep G x cx) (he : Rep G e ce) (hg : G id = some (.row e0 (cx ++ ce) ex fz)) :
    Rep G (pairF x e) [.int .i64 6, .int .i64 0, .str [], .sl id 0 2 (.fix 2), .int .i64 x.pos] := by
  unfold pairF
  simp only [Rep]
  refine ⟨_, cx ++ ce, rfl, ⟨by simp, .inr ⟨id, 0, .fix 2, cx ++ ce, rfl, by rw [hg]; rfl, ?_⟩⟩, ?_⟩
  · have h1 := hx.length; have h2 := he.length
    rw [cut_eq (by simp; omega), List.drop_zero, List.take_of_length_le (by simp; omega)]
  · simp only [RepL]
    exact ⟨cx, ce, rfl, hx, ce, [], by simp, he, rfl⟩

/-- what is known of the slice -/
structure SlAt (G : Nat → Option AObj) (kv : AV) (ds : List DT) (cells : List AV) : Prop where
  sl : SliceOf G kv ds.length cells
  rep : RepL G ds cells
theorem SlAt.mono {G G' : Nat → Option AObj} (h : Le G G') {kv : AV} {ds : List DT} {cells : List AV} (t : SlAt G kv ds cells) : SlAt G' kv ds cells := ⟨t.sl.mono h, RepL.mono h _ _ t.rep⟩
theorem fill2 {tm : Trie AV} {i j : Nat} {cx ce : List AV} (hi : tm.get i = some (.agg cx)) (hj : tm.get j = some (.agg ce)) (l1 : cx.length = 5) (l2 : ce.length = 5) :
    fillC [(.int .i64 (.ofNat 0)), (.int .i64 (.ofNat 0)), (.str []), .nils, (.int .i64 (.ofNat 0)), (.int .i64 (.ofNat 0)), (.int .i64 (.ofNat 0)), (.str []), .nils, (.int .i64 (.ofNat 0))] tm [(0, 5, (.t i)), (5, 5, (.t j))] = some (cx ++ ce) := by
  obtain ⟨a1, a2, a3, a4, a5, rfl⟩ : ∃ a b c d e, cx = [a, b, c, d, e] := by
    match cx, l1 with
    | [a, b, c, d, e], _ => exact ⟨a, b, c, d, e, rfl⟩
  obtain ⟨b1, b2, b3, b4, b5, rfl⟩ : ∃ a b c d e, ce = [a, b, c, d, e] := by
    match ce, l2 with
    | [a, b, c, d, e], _ => exact ⟨a, b, c, d, e, rfl⟩
  simp only [fillC, opd_t, hi, hj, cells_agg]
  rfl
theorem fillP {tm : Trie AV} {i j : Nat} {v w : AV} (hi : tm.get i = some v) (hj : tm.get j = some w) (hv : v.cells = [v]) (hw : w.cells = [w]) :
    fillC [(.int .i64 (.ofNat 0)), (.int .i64 (.ofNat 0)), (.str []), .nils, (.int .i64 (.ofNat 0))] tm [(0, 1, (.c (.int .i64 (.ofNat 6)))), (3, 1, (.t i)), (4, 1, (.t j))] = some [.int .i64 6, .int .i64 0, .str [], v, w] := by
  simp only [fillC, opd_t, opd_c, hi, hj, hv, hw]
  rfl

/-- ONE ROUND: the region. -/
theorem rl_reg {E : Env} {S : Self} {s : St} {tm : Trie AV} {b : Nat} {H : List Nat} (hbH : b ∈ H) (hH : ∀ x ∈ H, x < s.next) {kv : AV} {ds : List DT} {cells ce : List AV} {cur : DT} {i : Nat} (hok : Ok s) (h : SlAt (hd H s.get) kv ds cells) (hb : s.get b = some (.row 24 ce false false)) (hc : Rep (hd H s.get) cur ce)
    (hi : i < ds.length) (g0 : tm.get 0 = some kv) (g3 : tm.get 3 = some (.ptr b 0)) (g5 : tm.get 5 = some (.int .i64 (i : Nat))) :
    ∃ tm' s', regdR E S RRL ⟨tm, []⟩ s = some (.norm, ⟨tm', []⟩, s') ∧ tm'.get 0 = some kv ∧ tm'.get 3 = some (.ptr b 0) ∧ tm'.get 4 = tm.get 4 ∧ tm'.get 5 = some (.int .i64 (i : Nat)) ∧ Ok s' ∧ KeepB b s s' ∧ (∀ id, id ≠ b → id < s.next → s'.get id = s.get id) ∧ Le (hd H s.get) (hd H s'.get) ∧
      ∃ ce', s'.get b = some (.row 24 ce' false false) ∧ Rep (hd H s'.get) (pairF ds[i] cur) ce' := by
  obtain ⟨id1, off1, cs1, cx, x1, x2', x3, x4, x5⟩ := h.sl.at h.rep hi
  obtain ⟨hne, x2⟩ := hd_get x2'
  obtain ⟨o1, ho1⟩ := rowO_some x2
  have l1 := hok.lt ho1
  have lb := hok.lt hb
  have hl1 := x4.length
  have hl2 := hc.length
  obtain ⟨k, n, t, kv2, hcx, hsc⟩ := x4.parts
  have x54 : cut cs1 (off1 + 4) 1 = some [.int .i64 ds[i].pos] := by rw [x5 4 (by omega), hcx]; rfl
  have hokA := hok.alloc (.row 24 (cx ++ ce) false false)
  refine regdR_of (fr := ⟨tm, []⟩) hok ?_
  unfold RRL
  refine RD_pure (b := s.next) kv hok (Lg.nil _ _) (Nat.le_refl _) (fun s2 => by simp (disch := first | omega | (simp only [next_alloc, next_put] <;> omega) | (repeat (first | assumption | apply Ok.alloc | apply Ok.put))) only [evOp_mv, v1_k, opd_t, k1_some, ret1_some, g0]) fun log hl hn => ?_
  refine RD_pure (.int .i64 (i : Nat)) hok hl (Nat.le_refl _) (fun s2 => by simp (disch := first | omega | (simp only [next_alloc, next_put] <;> omega) | (repeat (first | assumption | apply Ok.alloc | apply Ok.put))) only [setDst_some, evOp_mv, v1_k, opd_t, Trie.get_set, k1_some, ret1_some, ↓reduceIte, Nat.reduceEqDiff, g5]) fun log hl hn2 => ?_
  refine RD_pure (.ptr id1 off1) hok hl (Nat.le_refl _) (fun s2 => by simp (disch := first | omega | (simp only [next_alloc, next_put] <;> omega) | (repeat (first | assumption | apply Ok.alloc | apply Ok.put))) only [setDst_some, evOp_ia, v2_k, opd_t, Trie.get_set, k2_some, ret1_some, ↓reduceIte, Nat.reduceEqDiff, x1]) fun log hl hn3 => ?_
  refine RD_ldn hok hl (Nat.le_refl _) (by simp (disch := first | omega | (simp only [next_alloc, next_put] <;> omega) | (repeat (first | assumption | apply Ok.alloc | apply Ok.put))) only [setDst_some, opd_t, Trie.get_set, ↓reduceIte, ]) l1 x2 x3 fun log hl hn4 => ?_
  refine RD_ldn (c5 := ce) (cs := ce) (off := 0) hok hl (Nat.le_refl _) (by simp (disch := first | omega | (simp only [next_alloc, next_put] <;> omega) | (repeat (first | assumption | apply Ok.alloc | apply Ok.put))) only [setDst_some, opd_t, Trie.get_set, ↓reduceIte, Nat.reduceEqDiff, g3]) lb (by rw [hb]; rfl) (by rw [cut_eq (by omega), List.drop_zero, List.take_of_length_le (by omega)]) fun log hl hn5 => ?_
  refine RD_new (.sl s.next 0 2 (.fix 2)) (.row 24 (cx ++ ce) false false) hok hl (Nat.le_refl _) (fun s2 e2 => by
    rw [evOp_bsl, fill2 (cx := cx) (ce := ce) (by simp (disch := first | omega | (simp only [next_alloc, next_put] <;> omega) | (repeat (first | assumption | apply Ok.alloc | apply Ok.put))) only [setDst_some, Trie.get_set, ↓reduceIte, Nat.reduceEqDiff, ]) (by simp (disch := first | omega | (simp only [next_alloc, next_put] <;> omega) | (repeat (first | assumption | apply Ok.alloc | apply Ok.put))) only [setDst_some, Trie.get_set, ↓reduceIte, ]) hl1 hl2]
    simp only [oBsl, e2]) fun log hl => ?_
  have hnx : s.next ≤ (s.alloc (.row 24 (cx ++ ce) false false)).next := by rw [next_alloc]; omega
  refine RD_pure kv hokA hl hnx (fun s2 => by simp (disch := first | omega | (simp only [next_alloc, next_put] <;> omega) | (repeat (first | assumption | apply Ok.alloc | apply Ok.put))) only [setDst_some, evOp_mv, v1_k, opd_t, Trie.get_set, k1_some, ret1_some, ↓reduceIte, Nat.reduceEqDiff, g0]) fun log hl hn6 => ?_
  refine RD_pure (.int .i64 (i : Nat)) hokA hl hnx (fun s2 => by simp (disch := first | omega | (simp only [next_alloc, next_put] <;> omega) | (repeat (first | assumption | apply Ok.alloc | apply Ok.put))) only [setDst_some, evOp_mv, v1_k, opd_t, Trie.get_set, k1_some, ret1_some, ↓reduceIte, Nat.reduceEqDiff, g5]) fun log hl hn7 => ?_
  refine RD_pure (.ptr id1 off1) hokA hl hnx (fun s2 => by simp (disch := first | omega | (simp only [next_alloc, next_put] <;> omega) | (repeat (first | assumption | apply Ok.alloc | apply Ok.put))) only [setDst_some, evOp_ia, v2_k, opd_t, Trie.get_set, k2_some, ret1_some, ↓reduceIte, Nat.reduceEqDiff, x1]) fun log hl hn8 => ?_
  refine RD_pure (.ptr id1 (off1 + 4)) hokA hl hnx (fun s2 => by simp (disch := first | omega | (simp only [next_alloc, next_put] <;> omega) | (repeat (first | assumption | apply Ok.alloc | apply Ok.put))) only [setDst_some, evOp_fa, v1_k, opd_t, Trie.get_set, k1_some, ret1_some, vFa_ptr, ↓reduceIte, ]) fun log hl hn9 => ?_
  refine RD_ld (v := .int .i64 ds[i].pos) (l := []) hokA hl hnx (by simp (disch := first | omega | (simp only [next_alloc, next_put] <;> omega) | (repeat (first | assumption | apply Ok.alloc | apply Ok.put))) only [setDst_some, opd_t, Trie.get_set, ↓reduceIte, ]) l1 (by rw [get_alloc_old _ _ (by omega)]; exact x2) x54 fun log hl hn10 => ?_
  refine RD_pure (.agg [.int .i64 6, .int .i64 0, .str [], .sl s.next 0 2 (.fix 2), .int .i64 ds[i].pos]) hokA hl hnx (fun s2 => by
    rw [evOp_build, fillP (v := .sl s.next 0 2 (.fix 2)) (w := .int .i64 ds[i].pos) (by simp (disch := first | omega | (simp only [next_alloc, next_put] <;> omega) | (repeat (first | assumption | apply Ok.alloc | apply Ok.put))) only [setDst_some, Trie.get_set, ↓reduceIte, Nat.reduceEqDiff, ]) (by simp (disch := first | omega | (simp only [next_alloc, next_put] <;> omega) | (repeat (first | assumption | apply Ok.alloc | apply Ok.put))) only [setDst_some, Trie.get_set, ↓reduceIte, ]) rfl rfl]; rfl) fun log hl hn11 => ?_
  have hbA : (s.alloc (.row 24 (cx ++ ce) false false)).get b = some (.row 24 ce false false) := by rw [get_alloc_old _ _ (by omega)]; exact hb
  have hpaste : paste ce 0 [.int .i64 6, .int .i64 0, .str [], .sl s.next 0 2 (.fix 2), .int .i64 ds[i].pos] = some [.int .i64 6, .int .i64 0, .str [], .sl s.next 0 2 (.fix 2), .int .i64 ds[i].pos] := by
    obtain ⟨k', n', t', kv', hce, _⟩ := hc.parts
    rw [hce]; rfl
  refine RD_st (w := .agg [.int .i64 6, .int .i64 0, .str [], .sl s.next 0 2 (.fix 2), .int .i64 ds[i].pos]) (off := 0) hokA hl (by simp (disch := first | omega | (simp only [next_alloc, next_put] <;> omega) | (repeat (first | assumption | apply Ok.alloc | apply Ok.put))) only [setDst_some, opd_t, Trie.get_set, ↓reduceIte, Nat.reduceEqDiff, g3]) (by simp (disch := first | omega | (simp only [next_alloc, next_put] <;> omega) | (repeat (first | assumption | apply Ok.alloc | apply Ok.put))) only [setDst_some, opd_t, Trie.get_set, ↓reduceIte, ]) lb ?_ hbA rfl rfl hpaste ?_
  · intro j hj
    have : j = 0 ∨ j = 1 ∨ j = 2 ∨ j = 3 ∨ j = 4 ∨ j = 5 ∨ j = 6 ∨ j = 7 ∨ j = 8 ∨ j = 9 ∨ j = 10 ∨ j = 11 := by omega
    rcases this with rfl | rfl | rfl | rfl | rfl | rfl | rfl | rfl | rfl | rfl | rfl | rfl <;> rfl
  have hle : Le (hd H s.get) (hd H ((s.alloc (.row 24 (cx ++ ce) false false)).put b (.row 24 [.int .i64 6, .int .i64 0, .str [], .sl s.next 0 2 (.fix 2), .int .i64 ds[i].pos] false false)).get) :=
    Le.trans (le_alloc_hd hok _ H) (le_put _ hbH _)
  refine ⟨by simp (disch := first | omega | (simp only [next_alloc, next_put] <;> omega) | (repeat (first | assumption | apply Ok.alloc | apply Ok.put))) only [setDst_some, setDst_none, Trie.get_set, ↓reduceIte, Nat.reduceEqDiff, g0], by simp (disch := first | omega | (simp only [next_alloc, next_put] <;> omega) | (repeat (first | assumption | apply Ok.alloc | apply Ok.put))) only [setDst_some, setDst_none, Trie.get_set, ↓reduceIte, Nat.reduceEqDiff, g3], by simp (disch := first | omega | (simp only [next_alloc, next_put] <;> omega) | (repeat (first | assumption | apply Ok.alloc | apply Ok.put))) only [setDst_some, setDst_none, Trie.get_set, ↓reduceIte, Nat.reduceEqDiff, ], by simp (disch := first | omega | (simp only [next_alloc, next_put] <;> omega) | (repeat (first | assumption | apply Ok.alloc | apply Ok.put))) only [setDst_some, setDst_none, Trie.get_set, ↓reduceIte, Nat.reduceEqDiff, g5], hokA.put (by rw [next_alloc]; omega), ?_, ?_, hle, _, get_put_new hbA, ?_⟩
  · exact ((KeepB.refl b s).alloc _ (by omega)).put b _ (Nat.le_refl _)
  · intro id h1 h2
    rw [get_put_old _ _ h1, get_alloc_old _ _ (by omega)]
  · refine Rep.pair (Rep.mono hle _ _ x4) (Rep.mono hle _ _ hc) (id := s.next) (e0 := 24) (ex := false) (fz := false) ?_
    unfold hd
    rw [if_neg (fun hm => by have := hH _ hm; omega), get_put_old _ _ (by omega)]; exact get_alloc_new hok _
theorem listF_take {ds : List DT} {k : Nat} (hk : k < ds.length) (cur : DT) : listF (ds.take (k + 1)) cur = listF (ds.take k) (pairF ds[k] cur) := by
  unfold listF
  rw [List.take_succ_eq_append_getElem hk, List.foldr_append]; rfl
theorem rl_loop {E : Env} {O : List Nat} {b : Nat} {H : List Nat} (hbH : b ∈ H) (ds : List DT) : ∀ (k : Nat), k ≤ ds.length → ∀ n, k ≤ n → ∀ (s : St) (tm : Trie AV) (kv : AV) (cells ce : List AV) (cur : DT), (∀ x ∈ H, x < s.next) → Ok s → SlAt (hd H s.get) kv ds cells → s.get b = some (.row 24 ce false false) → Rep (hd H s.get) cur ce →
    tm.get 0 = some kv → tm.get 3 = some (.ptr b 0) → tm.get 5 = some (.int .i64 ((k : Int) - 1)) →
    ∃ tm' s', evC E (evT E O n) none (.loop b7_0) ⟨tm, []⟩ s = some (.exit 0, ⟨tm', []⟩, s') ∧ Ok s' ∧ KeepB b s s' ∧ (∀ id, id ≠ b → id < s.next → s'.get id = s.get id) ∧ tm'.get 3 = some (.ptr b 0) ∧ tm'.get 4 = tm.get 4 ∧ ∃ ce', s'.get b = some (.row 24 ce' false false) ∧ Rep (hd H s'.get) (listF (ds.take k) cur) ce'
  | 0, _, n, _, s, tm, kv, cells, ce, cur, hH, hok, hsl, hb, hc, g0, g3, g5 => by
    have hA : ∃ tm', evC E (evT E O n) none ARL ⟨tm, []⟩ s = some (.exit 0, ⟨tm', []⟩, s) ∧ tm'.get 3 = some (.ptr b 0) ∧ tm'.get 4 = tm.get 4 := by
      have h0 : (((0 : Nat) : Int) - 1 < 0) := by decide
      simp (disch := first | omega | (simp only [next_alloc, next_put] <;> omega) | (repeat (first | assumption | apply Ok.alloc | apply Ok.put))) only [evC_seq, evC_reg, evC_cond, evS_cons, evS_nil, stepS_n, bindS_some, stS_some, setDst_some, evOp_mv, evOp_bin, v1_k, v2_k, opd_t, opd_c, Trie.get_set, k1_some, k2_some, ret1_some, normR_some, thenR_norm, vBin_int, binI_geq, ↓reduceIte, Int.ofNat_eq_natCast, Int.cast_ofNat_Int, ARL, g5]
      refine ⟨_, rfl, ?_, ?_⟩ <;> simp (disch := first | omega | (simp only [next_alloc, next_put] <;> omega) | (repeat (first | assumption | apply Ok.alloc | apply Ok.put))) only [Trie.get_set, ↓reduceIte, Nat.reduceEqDiff, g3]
    obtain ⟨tm', e1, e3, e4⟩ := hA
    rw [evC_loop, b7_0_eq, evC_seq, e1, thenR_exit, thenR_exit]
    exact ⟨tm', s, rfl, hok, KeepB.refl _ _, fun _ _ _ => rfl, e3, e4, ce, hb, by simpa [listF] using hc⟩
  | k + 1, hk, n, hn, s, tm, kv, cells, ce, cur, hH, hok, hsl, hb, hc, g0, g3, g5 => by
    have hki : ((k + 1 : Nat) : Int) - 1 = (k : Nat) := by omega
    rw [hki] at g5
    have hA : ∃ tm', evC E (evT E O n) none ARL ⟨tm, []⟩ s = some (.norm, ⟨tm', []⟩, s) ∧ tm'.get 0 = some kv ∧ tm'.get 3 = some (.ptr b 0) ∧ tm'.get 4 = tm.get 4 ∧ tm'.get 5 = some (.int .i64 (k : Nat)) := by
      have h0 : ¬ ((k : Int) < 0) := by omega
      simp (disch := first | omega | (simp only [next_alloc, next_put] <;> omega) | (repeat (first | assumption | apply Ok.alloc | apply Ok.put))) only [evC_skip, evC_seq, evC_reg, evC_cond, evS_cons, evS_nil, stepS_n, bindS_some, stS_some, setDst_some, evOp_mv, evOp_bin, v1_k, v2_k, opd_t, opd_c, Trie.get_set, k1_some, k2_some, ret1_some, normR_some, thenR_norm, condR_t, vBin_int, binI_geq, ↓reduceIte, decide_false, Bool.not_false, Int.ofNat_eq_natCast, Int.cast_ofNat_Int, ARL, g5, h0]
      refine ⟨_, rfl, ?_, ?_, ?_, ?_⟩ <;> simp (disch := first | omega | (simp only [next_alloc, next_put] <;> omega) | (repeat (first | assumption | apply Ok.alloc | apply Ok.put))) only [Trie.get_set, ↓reduceIte, Nat.reduceEqDiff, g0, g3, g5]
    obtain ⟨tm1, e1, a0, a3, a4, a5⟩ := hA
    obtain ⟨tm2, s2, r1, r0, r3, r4, r5, ok2, kp2, keep2, le2, ce2, hb2, hc2⟩ := rl_reg (E := E) (S := evT E O n) hbH hH hok hsl hb hc (show k < ds.length by omega) a0 a3 a5
    have hlt := hsl.sl.lt
    have hw : IntKind.wrap .i64 ((k : Int) - 1) = (k : Int) - 1 := wrap_id (by omega) (by omega)
    have hI : ∃ tm', evC E (evT E O n) none IRL ⟨tm2, []⟩ s2 = some (.norm, ⟨tm', []⟩, s2) ∧ tm'.get 0 = some kv ∧ tm'.get 3 = some (.ptr b 0) ∧ tm'.get 4 = tm2.get 4 ∧ tm'.get 5 = some (.int .i64 ((k : Int) - 1)) := by
      simp (disch := first | omega | (simp only [next_alloc, next_put] <;> omega) | (repeat (first | assumption | apply Ok.alloc | apply Ok.put))) only [evC_reg, evS_cons, evS_nil, stepS_n, bindS_some, stS_some, setDst_some, evOp_mv, evOp_bin, v1_k, v2_k, opd_t, opd_c, Trie.get_set, k1_some, k2_some, ret1_some, normR_some, vBin_int, binI_sub, ↓reduceIte, Int.ofNat_eq_natCast, Int.cast_ofNat_Int, IRL, r5, hw]
      refine ⟨_, rfl, ?_, ?_, ?_, ?_⟩ <;> simp (disch := first | omega | (simp only [next_alloc, next_put] <;> omega) | (repeat (first | assumption | apply Ok.alloc | apply Ok.put))) only [Trie.get_set, ↓reduceIte, Nat.reduceEqDiff, r0, r3]
    obtain ⟨tm3, i1, i0, i3, i4, i5⟩ := hI
    have hbody : evC E (evT E O n) none b7_0 ⟨tm, []⟩ s = some (.norm, ⟨tm3, []⟩, s2) := by
      rw [b7_0_eq, evC_seq, e1, thenR_norm, evC_seq, evC_block, evC_regd, r1, blockR_norm, thenR_norm, i1]
    rw [evC_loop, hbody, thenR_norm]
    obtain ⟨n, rfl⟩ : ∃ m, n = m + 1 := ⟨n - 1, by omega⟩
    rw [evT_loop]
    obtain ⟨tm4, s4, q1, q2, q3, q4, q5, q6, ce4, q7, q8⟩ := rl_loop hbH ds k (by omega) n (by omega) s2 tm3 kv cells ce2 (pairF ds[k] cur) (fun x hx => Nat.lt_of_lt_of_le (hH x hx) kp2.next) ok2 (hsl.mono le2) hb2 hc2 i0 i3 i5
    refine ⟨tm4, s4, q1, q2, kp2.trans q3, fun id h1 h2 => (q4 id h1 (Nat.lt_of_lt_of_le h2 kp2.next)).trans (keep2 id h1 h2), q5, by rw [q6, i4, r4, a4], ce4, q7, ?_⟩
    rw [listF_take (by omega)]; exact q8

def ListOk (E : Env) (O : List Nat) (f : Nat) (ds : List DT) (d : DT) : Prop :=
  ∃ N, ∀ n, N ≤ n → ∀ (s : St) (kv : AV) (cells cs : List AV), Ok s → SlAt s.get kv ds cells → Rep s.get d cs →
    Ret ((evT E O n).call f [kv, .agg cs] s) fun v s' => Ok s' ∧ Keep s s' ∧ ∃ c, v = .agg c ∧ Rep s'.get (listF ds d) c

theorem rlist_ok {E : Env} {O : List Nat} (hE : E.funs.get 7 = some f7) (hO : memN 7 O = false) (ds : List DT) (d : DT) : ListOk E O 7 ds d := by
  refine ⟨ds.length + 1, fun n hn s kv cells cs hok hsl hrep => ?_⟩
  obtain ⟨n, rfl⟩ : ∃ m, n = m + 1 := ⟨n - 1, by omega⟩
  rw [evT_call hO hE, callF_of hE]
  have hlen := hrep.length
  have hsc := hrep.scal
  have hok1 := hok.alloc (.row 24 cs false false)
  have hok2 := hok1.alloc (.row 24 [.int .i64 (.ofNat 0), .int .i64 (.ofNat 0), .str [], .nils, .int .i64 (.ofNat 0)] false false)
  have hk1 : Keep s (s.alloc (.row 24 cs false false)) := (KeepB.refl _ _).alloc _ (Nat.le_refl _)
  have hk2 : Keep s ((s.alloc (.row 24 cs false false)).alloc (.row 24 [.int .i64 (.ofNat 0), .int .i64 (.ofNat 0), .str [], .nils, .int .i64 (.ofNat 0)] false false)) := hk1.alloc _ (by rw [next_alloc]; omega)
  have hle : Le s.get (hd [s.next, s.next + 1] ((s.alloc (.row 24 cs false false)).alloc (.row 24 [.int .i64 (.ofNat 0), .int .i64 (.ofNat 0), .str [], .nils, .int .i64 (.ofNat 0)] false false)).get) := le_newer hok (Le.trans (le_alloc hok _) (le_alloc hok1 _)) (by simp)
  have gg1 : ((s.alloc (.row 24 cs false false)).alloc (.row 24 [.int .i64 (.ofNat 0), .int .i64 (.ofNat 0), .str [], .nils, .int .i64 (.ofNat 0)] false false)).get s.next = some (.row 24 cs false false) := by
    rw [get_alloc_old _ _ (by rw [next_alloc]; omega)]; exact get_alloc_new hok _
  have gg2 : ((s.alloc (.row 24 cs false false)).alloc (.row 24 [.int .i64 (.ofNat 0), .int .i64 (.ofNat 0), .str [], .nils, .int .i64 (.ofNat 0)] false false)).get (s.next + 1) = some (.row 24 [.int .i64 (.ofNat 0), .int .i64 (.ofNat 0), .str [], .nils, .int .i64 (.ofNat 0)] false false) := get_alloc_new hok1 _
  have hnx : ((s.alloc (.row 24 cs false false)).alloc (.row 24 [.int .i64 (.ofNat 0), .int .i64 (.ofNat 0), .str [], .nils, .int .i64 (.ofNat 0)] false false)).next = s.next + 2 := rfl
  have hbs : ∃ tm0, evC E (evT E O n) none RRL0 ⟨setArgs .leaf 0 [kv, .agg cs], []⟩ s = some (.norm, ⟨tm0, []⟩, (s.alloc (.row 24 cs false false)).alloc (.row 24 [.int .i64 (.ofNat 0), .int .i64 (.ofNat 0), .str [], .nils, .int .i64 (.ofNat 0)] false false)) ∧ tm0.get 0 = some kv ∧ tm0.get 3 = some (.ptr s.next 0) ∧ tm0.get 4 = some (.ptr (s.next + 1) 0) := by
    simp (disch := first | omega | (simp only [next_alloc, next_put] <;> omega) | (repeat (first | assumption | apply Ok.alloc | apply Ok.put))) only [evC_reg, evS_cons, evS_nil, stepS_n, bindS_some, stS_some, setDst_some, evOp_alloc, evOp_box, o1_k, opd_t, Trie.get_set, setArgs, b1_some, oBox_eq, oAlloc_eq, cells_agg, normR_some, ↓reduceIte, Nat.zero_add, Nat.succ_eq_add_one, Int.ofNat_eq_natCast, Int.cast_ofNat_Int, next_alloc, RRL0]
    refine ⟨_, rfl, ?_, ?_, ?_⟩ <;> simp (disch := first | omega | (simp only [next_alloc, next_put] <;> omega) | (repeat (first | assumption | apply Ok.alloc | apply Ok.put))) only [Trie.get_set, ↓reduceIte, Nat.reduceEqDiff, ]
  obtain ⟨tm0, e0, t0, t3, t4⟩ := hbs
  obtain ⟨s2, hse⟩ : ∃ s2, s2 = (s.alloc (.row 24 cs false false)).alloc (.row 24 [.int .i64 (.ofNat 0), .int .i64 (.ofNat 0), .str [], .nils, .int .i64 (.ofNat 0)] false false) := ⟨_, rfl⟩
  rw [← hse] at gg1 gg2 e0 hok2 hk2 hle hnx
  have hlt := hsl.sl.lt
  have hw : IntKind.wrap .i64 ((ds.length : Int) - 1) = (ds.length : Int) - 1 := wrap_id (by omega) (by omega)
  have hI : ∃ tm', evC E (evT E O n) none IRL0 ⟨tm0, []⟩ s2 = some (.norm, ⟨tm', []⟩, s2) ∧ tm'.get 0 = some kv ∧ tm'.get 3 = some (.ptr s.next 0) ∧ tm'.get 4 = some (.ptr (s.next + 1) 0) ∧ tm'.get 5 = some (.int .i64 ((ds.length : Int) - 1)) := by
    simp (disch := first | omega | (simp only [next_alloc, next_put] <;> omega) | (repeat (first | assumption | apply Ok.alloc | apply Ok.put))) only [evC_reg, evS_cons, evS_nil, stepS_n, bindS_some, stS_some, setDst_some, evOp_mv, evOp_bin, evOp_len, v1_k, v2_k, opd_t, opd_c, Trie.get_set, k1_some, k2_some, ret1_some, normR_some, vBin_int, binI_sub, ↓reduceIte, Int.ofNat_eq_natCast, Int.cast_ofNat_Int, IRL0, t0, hsl.sl.len, hw]
    refine ⟨_, rfl, ?_, ?_, ?_, ?_⟩ <;> simp (disch := first | omega | (simp only [next_alloc, next_put] <;> omega) | (repeat (first | assumption | apply Ok.alloc | apply Ok.put))) only [Trie.get_set, ↓reduceIte, Nat.reduceEqDiff, t0, t3, t4]
  obtain ⟨tm1, i1, i0, i3, i4, i5⟩ := hI
  obtain ⟨tm4, s4, q1, q2, q3, q4, q5, q6, ce4, q7, q8⟩ := rl_loop (E := E) (O := O) (b := s.next) (H := [s.next, s.next + 1]) (by simp) ds ds.length (Nat.le_refl _) n (by omega) s2 tm1 kv cells cs d (by simp [hnx]) hok2 (hsl.mono hle) gg1 (Rep.mono hle _ _ hrep) i0 i3 i5
  rw [List.take_length] at q8
  have hg4 : s4.get (s.next + 1) = some (.row 24 [.int .i64 (.ofNat 0), .int .i64 (.ofNat 0), .str [], .nils, .int .i64 (.ofNat 0)] false false) := by rw [q4 _ (by omega) (by omega)]; exact gg2
  rw [i4] at q6
  have l4 := q8.length
  have sc4 := q8.scal
  have hcut : cut ce4 0 5 = some ce4 := by rw [cut_eq (by omega), List.drop_zero, List.take_of_length_le (by omega)]
  have hpaste : paste [.int .i64 (.ofNat 0), .int .i64 (.ofNat 0), .str [], .nils, .int .i64 (.ofNat 0)] 0 ce4 = some ce4 := by
    obtain ⟨k', n', t', kv', hce, _⟩ := q8.parts
    rw [hce]; rfl
  have hput : Ok (s4.put (s.next + 1) (.row 24 ce4 false false)) := q2.put (q2.lt hg4)
  have hgp : (s4.put (s.next + 1) (.row 24 ce4 false false)).get (s.next + 1) = some (.row 24 ce4 false false) := get_put_new hg4
  have hF : ∃ tm', evC E (evT E O n) none FRL ⟨tm4, []⟩ s4 = some (.ret, ⟨tm', []⟩, s4.put (s.next + 1) (.row 24 ce4 false false)) ∧ tm'.get 4 = some (.ptr (s.next + 1) 0) := by
    have hb5 : ce4.length = 5 := l4
    simp (disch := first | omega | (simp only [next_alloc, next_put] <;> omega) | (repeat (first | assumption | apply Ok.alloc | apply Ok.put))) only [aggO_some, evC_seq, evC_reg, evC_ret, evS_cons, evS_nil, stepS_n, bindS_some, stS_some, setDst_some, setDst_none, evOp_ldn, evOp_st, o2_k, v1_k, opd_t, Trie.get_set, k1_some, b2_some, ret1_some, normR_some, thenR_norm, ↓reduceIte, Nat.reduceEqDiff, rowO_row, cutO_some, vLdn_get, FRL, q5, q6, q7, hcut, oSt_row (w := .agg ce4) (n := 5) hg4 hb5 sc4 hpaste]
    refine ⟨_, rfl, ?_⟩
    simp (disch := first | omega | (simp only [next_alloc, next_put] <;> omega) | (repeat (first | assumption | apply Ok.alloc | apply Ok.put))) only [Trie.get_set, ↓reduceIte, Nat.reduceEqDiff, q6]
  obtain ⟨tm5, f1, f4⟩ := hF
  rw [f7_eq, callB]
  simp only [lenN, ble_d, Nat.succ_eq_add_one, Nat.zero_add, Nat.reduceAdd, Nat.reduceLeDiff, decide_true, cond_true]
  rw [evC_seq, e0, thenR_norm, evC_seq, evC_seq, i1, thenR_norm, evC_block, q1, blockR_exit, if_pos rfl, thenR_norm, f1, callEnd_ret, resE_cn, f4, aggK_some, loadC_get, hgp, rowO_row, cutO_some, hcut, aggO_some, k1_some, ret1_some]
  have hkk : Keep s (s4.put (s.next + 1) (.row 24 ce4 false false)) := (hk2.trans (q3.weak (Nat.le_refl _))).put _ _ (by omega)
  refine ⟨_, _, rfl, hput, hkk, ce4, rfl, ?_⟩
  exact Rep.mono (Le.trans (le_put s4 (by simp) _) (hd_le _ _)) _ _ q8
end Go.Proofs.YtagpffdamckekaaGreatDoor.Ev

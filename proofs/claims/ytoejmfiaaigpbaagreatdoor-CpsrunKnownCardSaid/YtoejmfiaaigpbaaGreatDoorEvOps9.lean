/- Part of a verified evaluator of the model's code, generic over the program: a run of the evaluator that answers shows what the model's run answers. No conditions of its own. -/
import Derived.Test.YtoejmfiaaigpbaaGreatDoorEvOps8
namespace Go.Proofs.YtoejmfiaaigpbaaGreatDoor.Ev

theorem run_ld {P : Program} {w0 : World} {φ : Phi} {s : St} {w : World} {G : List (List AV)} (r : Rel P w0 φ s.get w) (hG : GlobRel G w0) {t : TypeId} {p v : AV} {x : Value} (ha : aggT P t = some false) (h : vLd G s p = some v) (hx : VR φ p x) :
    ∃ z, (Instr.loadAt t x).run P w = .ok z w ∧ VR φ v z := by
  unfold vLd at h
  cases hl : loadC G s p 1 with
  | none => rw [hl] at h; simp at h
  | some l =>
    rw [hl] at h; simp only at h
    obtain ⟨a, xs, rfl, hlen, hxs, hc⟩ := loadC_sound r hG hl hx
    obtain ⟨y, hy, hv⟩ := hxs.get (headV_some h)
    have hcell := hc 0 y hy
    have : a.add 0 = a := by simp [Addr.add]
    rw [this] at hcell
    exact ⟨y, by simp [Instr.loadAt, Instr.sureAddr, loadVar, run_isAgg' ha, hcell], hv⟩
theorem run_ldn {P : Program} {w0 : World} {φ : Phi} {s : St} {w : World} {G : List (List AV)} (r : Rel P w0 φ s.get w) (hG : GlobRel G w0) {t : TypeId} {n : Nat} {p v : AV} {x : Value} (ha : aggT P t = some true) (hs : sizT P t = some n) (h : vLdn G s n p = some v) (hx : VR φ p x) :
    ∃ z, (Instr.loadAt t x).run P w = .ok z w ∧ VR φ v z := by
  unfold vLdn at h
  cases hl : loadC G s p n with
  | none => rw [hl] at h; simp at h
  | some l =>
    rw [hl] at h; simp only [Option.some.injEq] at h; subst h
    obtain ⟨a, xs, rfl, hlen, hxs, hc⟩ := loadC_sound r hG hl hx
    have hrun := run_loadCells_list (P := P) w a xs hc
    rw [hlen] at hrun
    exact ⟨.agg xs.toArray, by simp only [Instr.loadAt, Instr.sureAddr, loadVar, Sem.run_bind, Sem.run_pure, Result.andThen_ok, run_isAgg' ha, if_true, run_sizeOf' hs, hrun], by simp only [VR]; exact ⟨xs, rfl, hxs⟩⟩
theorem run_st {P : Program} {w0 : World} {φ : Phi} {s s' : St} {w : World} (r : Rel P w0 φ s.get w) {t : TypeId} {n : Nat} {p y v : AV} {x z : Value} (hs : sizT P t = some n) (h : oSt s n p y = some (v, s')) (hx : VR φ p x) (hy : VR φ y z) :
    v = undefV ∧ ∃ w', (Instr.storeAt t x z).run P w = .ok () w' ∧ Step P w0 φ s w φ s' w' := by
  unfold oSt at h
  cases hb : Nat.beq (lenN y.cells) n with
  | false => rw [hb] at h; simp at h
  | true =>
    rw [hb] at h; simp only [cond_true] at h
    cases hst : storeC s p y.cells with
    | none => rw [hst] at h; simp at h
    | some s1 =>
      rw [hst] at h; simp only [Option.some.injEq, Prod.mk.injEq] at h
      obtain ⟨rfl, rfl⟩ := h
      obtain ⟨a, w', rfl, h1, h2⟩ := storeC_sound r hst hx hy.cells
      refine ⟨rfl, w', ?_, h2⟩
      rw [beq_iff, lenN_eq, VRL.length hy.cells] at hb
      have hsz : z.cells.size = n := by simpa using hb
      simp only [Instr.storeAt, Instr.sureAddr, storeVar, Sem.run_bind, Sem.run_pure, Result.andThen_ok, run_sizeOf' hs]
      simp only [hsz, ne_eq, not_true_eq_false, if_false]
      exact h1

theorem nck_sound {φ : Phi} {x v : AV} {x' : Value} (h : vNck x = some v) (hx : VR φ x x') : v = x ∧ (∀ name a c, x' ≠ .func (.method name) a c) ∧ x' ≠ .pointer none ∧ x' ≠ .nilIface ∧ x' ≠ .nilFunc := by
  unfold vNck at h
  split at h
  · cases h; simp only [VR] at hx; obtain ⟨B, hB, rfl⟩ := hx; exact ⟨rfl, by simp, by simp, by simp, by simp⟩
  · cases h; simp only [VR] at hx; subst hx; exact ⟨rfl, by simp, by simp, by simp, by simp⟩
  · cases h; simp only [VR] at hx; obtain ⟨u, w, rfl, _⟩ := hx; exact ⟨rfl, by simp, by simp, by simp, by simp⟩
  · cases h; simp only [VR] at hx; obtain ⟨B, hB, rfl⟩ := hx; exact ⟨rfl, by simp, by simp, by simp, by simp⟩
  · cases h; simp only [VR] at hx; obtain ⟨B, hB, rfl⟩ := hx; exact ⟨rfl, by simp, by simp, by simp, by simp⟩
  · cases h

/-! ### Slices of the call's own -/
theorem sl_new {φ : Phi} {s : St} {w : World} {tot len : Nat} : VR (φ.set s.next ⟨w.heap.size, 0, tot⟩) (.sl s.next 0 len (.fix len)) (.slice (some ⟨w.heap.size, 0, none⟩) len len) := by
  simp only [VR]; exact ⟨⟨w.heap.size, 0, tot⟩, len, by simp [Phi.set], by simp, rfl⟩
theorem sl_newc {φ : Phi} {s : St} {w : World} {tot len c : Nat} : VR (φ.set s.next ⟨w.heap.size, 0, tot⟩) (.sl s.next 0 len (.fix c)) (.slice (some ⟨w.heap.size, 0, none⟩) len c) := by
  simp only [VR]; exact ⟨⟨w.heap.size, 0, tot⟩, c, by simp [Phi.set], by simp, rfl⟩

theorem made_list (z : List Value) (n : Nat) (h : 0 < z.length) : ((Array.range (n * z.length)).map fun i => (z.toArray)[i % z.toArray.size]!).toList = (List.replicate n z).flatten := by
  induction n with
  | zero => simp
  | succ n ih =>
    rw [List.replicate_succ', List.flatten_append, ← ih]
    simp only [Array.toList_map, Array.toList_range, Nat.succ_mul]
    rw [List.range_add, List.map_append]
    congr 1
    simp only [List.flatten_cons, List.flatten_nil, List.append_nil, List.map_map]
    apply List.ext_getElem?
    intro i
    by_cases hi : i < z.length
    · rw [List.getElem?_map, List.getElem?_range hi]
      have e1 : (n * z.length + i) % z.length = i := by rw [Nat.mul_comm, Nat.mul_add_mod]; exact Nat.mod_eq_of_lt hi
      simp only [Option.map_some, Function.comp_apply, List.size_toArray, e1]
      rw [List.getElem?_eq_getElem hi]
      simp [hi]
    · rw [List.getElem?_eq_none (by simp; omega), List.getElem?_eq_none (by omega)]

theorem run_mapM_list {P : Program} {w : World} {α β : Type} (f : α → Sem β) (g : α → β) : ∀ (xs : List α), (∀ x ∈ xs, (f x).run P w = .ok (g x) w) → (xs.mapM f).run P w = .ok (xs.map g) w
  | [], _ => by simp
  | x :: xs, h => by
    rw [List.mapM_cons]
    simp only [Sem.run_bind, h x (by simp), Result.andThen_ok, run_mapM_list f g xs (fun y hy => h y (by simp [hy])), Sem.run_pure, List.map_cons]
theorem run_mapM_array {P : Program} {w : World} {α β : Type} (f : α → Sem β) (g : α → β) (xs : Array α) (h : ∀ x ∈ xs.toList, (f x).run P w = .ok (g x) w) : (xs.mapM f).run P w = .ok (xs.map g) w := by
  rw [Array.mapM_eq_mapM_toList]
  simp only [Sem.run_map, run_mapM_list f g xs.toList h, Result.andThen_ok]
  congr 1
  apply Array.ext'
  simp

theorem fill_congr {p q : Nat → Option (Nat × Nat)} (h : ∀ i, p i = q i) (cells : Array Value) (l : List (Nat × Value)) : Instr.fill p cells l = Instr.fill q cells l := by
  have : p = q := funext h
  rw [this]

theorem build_struct {P : Program} {w : World} {φ : Phi} {t : TypeId} {fs : Array Field} {z : AV} {ps : Array (Nat × Operand)} {qs : List (Nat × Nat × Opd)} {cs : List AV} {tm : Trie AV} {a : Act}
    (hu : P.underlying t = some (.struct fs)) (hz : zeroT P t = some z) (hall : fs.toList.all (fun f => (sizT P f.type).isSome) = true) (hc : cParts (placeS P fs) ps.toList = some qs) (hf : fillC z.cells tm qs = some cs) (ht : TmOn φ (Opd.tmps (qs.map (·.2.2))) tm a) :
    ∃ y, (Instr.build t (ps.map fun (i, x) => (i, a.eval x))).run P w = .ok y w ∧ VR φ (.agg cs) y := by
  obtain ⟨zx, hzr, hzv⟩ := run_zeroValue' hz
  obtain ⟨ys, h1, h2⟩ := fill_sound (a := a) hc hf ht (hzv φ).cells
  have hm : (fs.mapM fun f => (do pure (f.offset, ← sizeOf f.type) : Sem (Nat × Nat))).run P w = .ok (fs.map fun f => (f.offset, (sizT P f.type).getD 0)) w := by
    refine run_mapM_array _ _ _ fun f hf => ?_
    have := List.all_eq_true.1 hall f hf
    obtain ⟨n, hn⟩ := Option.isSome_iff_exists.1 this
    simp [run_sizeOf' hn, hn]
  refine ⟨.agg ys, ?_, by simp only [VR]; exact ⟨ys.toList, by simp, h2⟩⟩
  simp only [Instr.build, Sem.run_bind, hzr, Result.andThen_ok, run_underlying' hu, hm]
  rw [fill_congr (q := placeS P fs)]
  · have : (ps.map fun (i, x) => (i, a.eval x)).toList = ps.toList.map fun (i, x) => (i, a.eval x) := by simp
    rw [this, h1]; rfl
  · intro i
    unfold placeS
    rw [Array.getElem?_map]
    cases hi : fs[i]? with
    | none => rfl
    | some f =>
      have hmem : f ∈ fs.toList := by
        have : fs.toList[i]? = some f := by rw [Array.getElem?_toList]; exact hi
        exact List.mem_of_getElem? this
      have := List.all_eq_true.1 hall f hmem
      obtain ⟨n, hn⟩ := Option.isSome_iff_exists.1 this
      simp [hn]

theorem build_array {P : Program} {w : World} {φ : Phi} {t e : TypeId} {N n : Nat} {z : AV} {ps : Array (Nat × Operand)} {qs : List (Nat × Nat × Opd)} {cs : List AV} {tm : Trie AV} {a : Act}
    (hu : P.underlying t = some (.array N e)) (hz : zeroT P t = some z) (hs : sizT P e = some n) (hc : cParts (fun i => some (i * n, n)) ps.toList = some qs) (hf : fillC z.cells tm qs = some cs) (ht : TmOn φ (Opd.tmps (qs.map (·.2.2))) tm a) :
    ∃ y, (Instr.build t (ps.map fun (i, x) => (i, a.eval x))).run P w = .ok y w ∧ VR φ (.agg cs) y := by
  obtain ⟨zx, hzr, hzv⟩ := run_zeroValue' hz
  obtain ⟨ys, h1, h2⟩ := fill_sound (a := a) hc hf ht (hzv φ).cells
  refine ⟨.agg ys, ?_, by simp only [VR]; exact ⟨ys.toList, by simp, h2⟩⟩
  simp only [Instr.build, Sem.run_bind, hzr, Result.andThen_ok, run_underlying' hu, run_sizeOf' hs]
  have : (ps.map fun (i, x) => (i, a.eval x)).toList = ps.toList.map fun (i, x) => (i, a.eval x) := by simp
  rw [this, h1]; rfl

theorem bsl_sound {P : Program} {w0 : World} {φ : Phi} {s s' : St} {w : World} (r : Rel P w0 φ s.get w) (hwf : Wf s) (hf0 : φ s.next = none) {t e : TypeId} {n len : Nat} {z v : AV} {ps : Array (Nat × Operand)} {qs : List (Nat × Nat × Opd)} {tm : Trie AV} {a : Act}
    (hu : P.underlying t = some (.slice e)) (hs : sizT P e = some n) (hz : zeroT P e = some z) (hb : (Nat.ble (len * n) 16777216 && Nat.beq (lenN z.cells) n && Nat.ble 1 n) = true)
    (hc : cParts (fun i => some (i * n, n)) ps.toList = some qs) (h : oBsl s e len (fillC (reps len z.cells) tm qs) = some (v, s')) (ht : TmOn φ (Opd.tmps (qs.map (·.2.2))) tm a) :
    ∃ φ' y w', (Instr.buildSlice t len (ps.map fun (i, x) => (i, a.eval x))).run P w = .ok y w' ∧ Step P w0 φ s w φ' s' w' ∧ VR φ' v y := by
  obtain ⟨zx, hzr, hzv⟩ := run_zeroValue' hz
  simp only [Bool.and_eq_true, beq_iff, ble_iff] at hb
  obtain ⟨⟨hb1, hb2⟩, hb3⟩ := hb
  rw [lenN_eq, VRL.length (hzv φ).cells] at hb2
  have hzl : zx.cells.toList.length = n := hb2
  cases hfc : fillC (reps len z.cells) tm qs with
  | none => rw [hfc] at h; simp [oBsl] at h
  | some cs =>
    rw [hfc] at h; simp only [oBsl, Option.some.injEq, Prod.mk.injEq] at h
    obtain ⟨rfl, rfl⟩ := h
    have hmade := made_list zx.cells.toList len (by omega)
    rw [hzl] at hmade
    simp only [Array.toArray_toList] at hmade
    have hzz : VRL φ (reps len z.cells) ((Array.range (len * n)).map (fun i => zx.cells[i % zx.cells.size]!)).toList := by
      rw [hmade]; exact VRL.reps (hzv φ).cells len
    obtain ⟨ys, h1, h2⟩ := fill_sound (a := a) hc hfc ht hzz
    refine ⟨_, _, _, ?_, newRow_step r hwf hf0 e h2, sl_new⟩
    have hpl : (ps.map fun (i, x) => (i, a.eval x)).toList = ps.toList.map fun (i, x) => (i, a.eval x) := by simp
    simp only [Instr.buildSlice, Sem.run_bind, run_underlying' hu, Result.andThen_ok, run_sizeOf' hs]
    rw [if_neg (by omega)]
    by_cases h0 : len * n = 0
    · rw [if_pos h0]
      have hl0 : len = 0 := by rcases Nat.mul_eq_zero.1 h0 with h | h <;> omega
      subst hl0
      have e1 : (Array.range (0 * n)).map (fun i => (#[] : Array Value)[i % (#[] : Array Value).size]!) = (Array.range (0 * n)).map (fun i => zx.cells[i % zx.cells.size]!) := by simp
      simp only [Sem.run_bind, Sem.run_pure, Result.andThen_ok]
      rw [e1, hpl, h1]
      simp only [Sem.run_bind, run_newRow, Result.andThen_ok, Sem.run_pure, Array.toArray_toList]
    · rw [if_neg h0]
      simp only [Sem.run_bind, hzr, Result.andThen_ok, Sem.run_pure]
      rw [hpl, h1]
      simp only [Sem.run_bind, run_newRow, Result.andThen_ok, Sem.run_pure, Array.toArray_toList]

theorem mmap_sound {P : Program} {w0 : World} {φ : Phi} {s s' : St} {w : World} (r : Rel P w0 φ s.get w) (hwf : Wf s) (hf : φ s.next = none) {v : AV} (h : oMmap s = some (v, s')) :
    ∃ φ', Step P w0 φ s w φ' s' { w with heap := w.heap.push (.map #[] 0) } ∧ VR φ' v (.map (some w.heap.size)) := by
  unfold oMmap at h; cases h
  refine ⟨φ.set s.next ⟨w.heap.size, 0, 0⟩, Step.alloc r hwf hf rfl rfl rfl rfl ⟨#[], getObj_alloc _, by simp [EntRel]⟩, ?_⟩
  simp only [VR]; exact ⟨⟨w.heap.size, 0, 0⟩, by simp [Phi.set], rfl⟩

theorem msl_sound {P : Program} {w0 : World} {φ : Phi} {s s' : St} {w : World} (r : Rel P w0 φ s.get w) (hwf : Wf s) (hf0 : φ s.next = none) {t e : TypeId} {n b : Nat} {z l c v : AV} {l' c' : Value}
    (hu : P.underlying t = some (.slice e)) (hs : sizT P e = some n) (hby : bytT P e = some b) (hz : zeroT P e = some z) (hb : (Nat.beq (lenN z.cells) n && Nat.ble 1 n) = true)
    (h : oMsl s e b z.cells l c = some (v, s')) (hl : VR φ l l') (hc : VR φ c c') : ∃ φ' y w', (Instr.makeSlice t l' c').run P w = .ok y w' ∧ Step P w0 φ s w φ' s' w' ∧ VR φ' v y := by
  obtain ⟨zx, hzr, hzv⟩ := run_zeroValue' hz
  obtain ⟨i, hi, hib⟩ := run_bytes' hby
  simp only [Bool.and_eq_true, beq_iff, ble_iff] at hb
  rw [lenN_eq, VRL.length (hzv φ).cells] at hb
  have hzl : zx.cells.toList.length = n := hb.1
  unfold oMsl at h
  split at h
  · rename_i ln
    split at h
    · rename_i cn
      cases hbb : (Nat.ble ln cn && Nat.ble (Nat.mul cn b) 281474976710656 && Nat.blt cn 9223372036854775808) with
      | false => rw [hbb] at h; simp at h
      | true =>
        rw [hbb] at h; simp only [cond_true, Option.some.injEq, Prod.mk.injEq] at h
        obtain ⟨rfl, rfl⟩ := h
        simp only [Bool.and_eq_true, ble_iff, blt_iff] at hbb
        obtain ⟨⟨h1, h2⟩, h3⟩ := hbb
        have h2' : cn * b ≤ 281474976710656 := h2
        simp only [VR] at hl hc; subst hl; subst hc
        have hmade := made_list zx.cells.toList cn (by omega)
        rw [hzl] at hmade
        simp only [Array.toArray_toList] at hmade
        have hzz : VRL φ (reps cn z.cells) ((Array.range (cn * n)).map (fun i => zx.cells[i % zx.cells.size]!)).toList := by
          rw [hmade]; exact VRL.reps (hzv φ).cells cn
        refine ⟨_, _, _, ?_, newRow_step r hwf hf0 e hzz, sl_newc⟩
        have w1 : IntKind.i64.wrap (Int.ofNat ln) = (ln : Int) := wrap_small .i64 ln (by simp only [topN]; omega)
        have w2 : IntKind.i64.wrap (Int.ofNat cn) = (cn : Int) := wrap_small .i64 cn (by simp only [topN]; omega)
        simp only [Instr.makeSlice, Sem.run_bind, run_underlying' hu, Result.andThen_ok, asInt, asIntOf, Sem.run_pure, run_typeInfo' hi, hib, w1, w2]
        have hmul : ¬ ((b : Int) * (cn : Int) > 2 ^ 48) := by
          have e1 : (b : Int) * (cn : Int) = ((cn * b : Nat) : Int) := by rw [Nat.mul_comm]; simp
          have e2 : (2 : Int) ^ 48 = 281474976710656 := by decide
          rw [e1, e2]; omega
        have hcond : ¬ ((decide ((cn : Int) < 0) || decide ((b : Int) * (cn : Int) > 2 ^ 48) || decide ((ln : Int) < 0) || decide ((ln : Int) > (cn : Int))) = true) := by
          rw [decide_eq_false (show ¬ (cn : Int) < 0 by omega), decide_eq_false hmul, decide_eq_false (show ¬ (ln : Int) < 0 by omega), decide_eq_false (show ¬ (ln : Int) > (cn : Int) by omega)]
          simp
        rw [if_neg hcond]
        simp only [Sem.run_bind, run_askRoom, Result.andThen_ok, run_sizeOf' hs, Int.toNat_natCast, Sem.run_ite, Sem.run_pure, hzr, run_newRow]
        by_cases h0 : cn * n = 0
        · rw [if_pos h0, h0]; simp [Array.range_zero']
        · rw [if_neg h0]
    · cases h
  · cases h

end Go.Proofs.YtoejmfiaaigpbaaGreatDoor.Ev

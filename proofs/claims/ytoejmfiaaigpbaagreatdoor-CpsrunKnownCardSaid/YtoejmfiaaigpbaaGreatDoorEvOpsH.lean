/- Part of a verified evaluator of the model's code, generic over the program: a run of the evaluator that answers shows what the model's run answers. No conditions of its own. -/
import Derived.Test.YtoejmfiaaigpbaaGreatDoorEvOpsG
namespace Go.Proofs.YtoejmfiaaigpbaaGreatDoor.Ev

section
variable {P : Program} {w0 : World} {φ : Phi} {s s' : St} {w : World} {tm : Trie AV} {a : Act} {o : Oper} {v : AV} {E : Env}

theorem run_nck {x : Operand} {u : AV} (ho : o.op = .nilCheck x) (h : vNck u = some v) (hx : VR φ u (a.eval x)) : (execOp a.eval o).run P w = .ok (.value (a.eval x)) w ∧ v = u := by
  unfold vNck at h
  split at h
  · cases h; simp only [VR] at hx; obtain ⟨B, _, e⟩ := hx; exact ⟨by simp [execOp, ho, e], rfl⟩
  · cases h; simp only [VR] at hx; exact ⟨by simp [execOp, ho, hx], rfl⟩
  · cases h; simp only [VR] at hx; obtain ⟨_, _, e, _⟩ := hx; exact ⟨by simp [execOp, ho, e], rfl⟩
  · cases h; simp only [VR] at hx; obtain ⟨B, _, e⟩ := hx; exact ⟨by simp [execOp, ho, e], rfl⟩
  · cases h; simp only [VR] at hx; obtain ⟨B, _, e⟩ := hx; exact ⟨by simp [execOp, ho, e], rfl⟩
  · cases h

theorem done_move {x : Operand} {op : IOp} (hG : GlobRel E.globs w0) (ho : o.op = .move x) (hc : cOpv P (.move x) = some op) (h : opv E op tm s = some (v, s'))
    (r : Rel P w0 φ s.get w) (hwf : Wf s) (hf : s.next < s'.next → φ s.next = none) (ht : TmOn φ (Opd.tmps op.opds) tm a) : Done P w0 φ s w a o v s' := by
  simp only [cOpv] at hc
  obtain ⟨y, hy, rfl⟩ := Option.map_eq_some_iff.1 hc
  simp only [opv] at h
  obtain ⟨u, h1, h2, rfl⟩ := v1_inv h
  simp only [Option.some.injEq] at h2; subst h2
  exact ⟨φ, a.eval x, w, .inl (by unfold execOp; rw [ho]; simp), Step.refl r, opd_sound hy h1 (tmon1 ht (by simp [IOp.opds]))⟩

theorem done_assign {x : Operand} {op : IOp} (hG : GlobRel E.globs w0) (ho : o.op = .assign x) (hc : cOpv P (.assign x) = some op) (h : opv E op tm s = some (v, s'))
    (r : Rel P w0 φ s.get w) (hwf : Wf s) (hf : s.next < s'.next → φ s.next = none) (ht : TmOn φ (Opd.tmps op.opds) tm a) : Done P w0 φ s w a o v s' := by
  simp only [cOpv] at hc
  obtain ⟨y, hy, rfl⟩ := Option.map_eq_some_iff.1 hc
  simp only [opv] at h
  obtain ⟨u, h1, h2, rfl⟩ := v1_inv h
  simp only [Option.some.injEq] at h2; subst h2
  exact ⟨φ, a.eval x, w, .inl (by unfold execOp; rw [ho]; simp), Step.refl r, opd_sound hy h1 (tmon1 ht (by simp [IOp.opds]))⟩

theorem done_pick {c x y : Operand} {op : IOp} (hG : GlobRel E.globs w0) (ho : o.op = .pick c x y) (hc : cOpv P (.pick c x y) = some op) (h : opv E op tm s = some (v, s'))
    (r : Rel P w0 φ s.get w) (hwf : Wf s) (hf : s.next < s'.next → φ s.next = none) (ht : TmOn φ (Opd.tmps op.opds) tm a) : Done P w0 φ s w a o v s' := by
  simp only [cOpv] at hc
  split at hc
  · rename_i cc cx cy q1 q2 q3
    cases hc
    simp only [opv] at h
    obtain ⟨h1, rfl⟩ := ret1_inv h
    unfold vPick at h1
    split at h1
    · rename_i hb
      have hcv := opd_sound (φ := φ) (a := a) q1 hb (tmon1 ht (by simp [IOp.opds]))
      simp only [VR] at hcv
      exact ⟨φ, a.eval x, w, .inl (by unfold execOp; rw [ho]; simp [hcv, asBool]), Step.refl r, opd_sound q2 h1 (tmon1 ht (by simp [IOp.opds]))⟩
    · rename_i hb
      have hcv := opd_sound (φ := φ) (a := a) q1 hb (tmon1 ht (by simp [IOp.opds]))
      simp only [VR] at hcv
      exact ⟨φ, a.eval y, w, .inl (by unfold execOp; rw [ho]; simp [hcv, asBool]), Step.refl r, opd_sound q3 h1 (tmon1 ht (by simp [IOp.opds]))⟩
    · cases h1
  · cases hc

theorem done_alloc {t : TypeId} {op : IOp} (hG : GlobRel E.globs w0) (ho : o.op = .alloc t) (hc : cOpv P (.alloc t) = some op) (h : opv E op tm s = some (v, s'))
    (r : Rel P w0 φ s.get w) (hwf : Wf s) (hf : s.next < s'.next → φ s.next = none) (ht : TmOn φ (Opd.tmps op.opds) tm a) : Done P w0 φ s w a o v s' := by
  simp only [cOpv] at hc
  obtain ⟨z, hz, rfl⟩ := Option.map_eq_some_iff.1 hc
  simp only [opv] at h
  have hn : s.next < s'.next := by unfold oAlloc at h; simp only [Option.some.injEq, Prod.mk.injEq] at h; exact next_row h.2
  exact done_e (S := Instr.alloc t true (.tuple #[])) (by unfold execOp; rw [ho]) (alloc_sound r hwf (hf hn) hz h)

theorem done_box {t : TypeId} {x : Operand} {op : IOp} (hG : GlobRel E.globs w0) (ho : o.op = .box t x) (hc : cOpv P (.box t x) = some op) (h : opv E op tm s = some (v, s'))
    (r : Rel P w0 φ s.get w) (hwf : Wf s) (hf : s.next < s'.next → φ s.next = none) (ht : TmOn φ (Opd.tmps op.opds) tm a) : Done P w0 φ s w a o v s' := by
  simp only [cOpv] at hc
  obtain ⟨y, hy, rfl⟩ := Option.map_eq_some_iff.1 hc
  simp only [opv] at h
  obtain ⟨u, h1, h2⟩ := o1_inv h
  have hn : s.next < s'.next := by unfold oBox at h2; simp only [Option.some.injEq, Prod.mk.injEq] at h2; exact next_row h2.2
  exact done_e (S := Instr.box t (a.eval x)) (by unfold execOp; rw [ho]) (box_sound r hwf (hf hn) h2 (opd_sound hy h1 (tmon1 ht (by simp [IOp.opds]))))

theorem done_build {t : TypeId} {ps : Array (Nat × Operand)} {op : IOp} (hG : GlobRel E.globs w0) (ho : o.op = .build t ps) (hc : cOpv P (.build t ps) = some op) (h : opv E op tm s = some (v, s'))
    (r : Rel P w0 φ s.get w) (hwf : Wf s) (hf : s.next < s'.next → φ s.next = none) (ht : TmOn φ (Opd.tmps op.opds) tm a) : Done P w0 φ s w a o v s' := by
  simp only [cOpv] at hc
  split at hc
  · rename_i z fs hz hu
    cases hb : fs.toList.all (fun f => (sizT P f.type).isSome) with
    | false => rw [hb] at hc; simp at hc
    | true =>
      rw [hb] at hc; simp only [cond_true] at hc
      obtain ⟨qs, hq, rfl⟩ := Option.map_eq_some_iff.1 hc
      simp only [opv] at h
      obtain ⟨h1, h2⟩ := ret1_inv h
      cases hfc : fillC z.cells tm qs with
      | none => rw [hfc] at h1; simp [aggO] at h1
      | some cs =>
        rw [hfc] at h1; simp only [aggO, Option.some.injEq] at h1; subst h1
        exact done_r r (S := Instr.build t (ps.map fun (i, x) => (i, a.eval x))) (by unfold execOp; rw [ho]) h2 (build_struct hu hz hb hq hfc ht)
  · rename_i z n e hz hu
    split at hc
    · rename_i sz hs
      obtain ⟨qs, hq, rfl⟩ := Option.map_eq_some_iff.1 hc
      simp only [opv] at h
      obtain ⟨h1, h2⟩ := ret1_inv h
      cases hfc : fillC z.cells tm qs with
      | none => rw [hfc] at h1; simp [aggO] at h1
      | some cs =>
        rw [hfc] at h1; simp only [aggO, Option.some.injEq] at h1; subst h1
        exact done_r r (S := Instr.build t (ps.map fun (i, x) => (i, a.eval x))) (by unfold execOp; rw [ho]) h2 (build_array hu hz hs hq hfc ht)
    · cases hc
  · cases hc

theorem done_buildSlice {t : TypeId} {len : Nat} {ps : Array (Nat × Operand)} {op : IOp} (hG : GlobRel E.globs w0) (ho : o.op = .buildSlice t len ps) (hc : cOpv P (.buildSlice t len ps) = some op) (h : opv E op tm s = some (v, s'))
    (r : Rel P w0 φ s.get w) (hwf : Wf s) (hf : s.next < s'.next → φ s.next = none) (ht : TmOn φ (Opd.tmps op.opds) tm a) : Done P w0 φ s w a o v s' := by
  simp only [cOpv] at hc
  split at hc
  · rename_i e hu
    split at hc
    · rename_i sz z hs hz
      cases hb : (Nat.ble (len * sz) 16777216 && Nat.beq (lenN z.cells) sz && Nat.ble 1 sz) with
      | false => rw [hb] at hc; simp at hc
      | true =>
        rw [hb] at hc; simp only [cond_true] at hc
        obtain ⟨qs, hq, rfl⟩ := Option.map_eq_some_iff.1 hc
        simp only [opv] at h
        have := bsl_sound (P := P) (w0 := w0) (φ := φ) (s := s) (s' := s') (w := w) (t := t) (e := e) (n := sz) (len := len) (z := z) (v := v) (ps := ps) (qs := qs) (tm := tm) (a := a) r hwf (hf (oBsl_next h)) hu hs hz hb hq h ht
        obtain ⟨φ', x, w', k1, k2, k3⟩ := this
        exact ⟨φ', x, w', .inl (by simp only [execOp, ho, Sem.run_bind, k1, Result.andThen_ok, Sem.run_pure]), k2, k3⟩
    · cases hc
  · cases hc

theorem done_load {t : TypeId} {x : Operand} {op : IOp} (hG : GlobRel E.globs w0) (ho : o.op = .load t x) (hc : cOpv P (.load t x) = some op) (h : opv E op tm s = some (v, s'))
    (r : Rel P w0 φ s.get w) (hwf : Wf s) (hf : s.next < s'.next → φ s.next = none) (ht : TmOn φ (Opd.tmps op.opds) tm a) : Done P w0 φ s w a o v s' := by
  simp only [cOpv] at hc
  split at hc
  · rename_i n y q1 q2 q3
    cases hc
    simp only [opv] at h
    obtain ⟨u, h1, h2, h3⟩ := v1_inv h
    exact done_r r (S := Instr.loadAt t (a.eval x)) (by unfold execOp; rw [ho]) h3 (run_ldn r hG q1 q2 h2 (opd_sound q3 h1 (tmon1 ht (by simp [IOp.opds]))))
  · rename_i y q1 q3
    cases hc
    simp only [opv] at h
    obtain ⟨u, h1, h2, h3⟩ := v1_inv h
    exact done_r r (S := Instr.loadAt t (a.eval x)) (by unfold execOp; rw [ho]) h3 (run_ld r hG q1 h2 (opd_sound q3 h1 (tmon1 ht (by simp [IOp.opds]))))
  · cases hc

theorem done_store {t : TypeId} {x y : Operand} {op : IOp} (hG : GlobRel E.globs w0) (ho : o.op = .store t x y) (hc : cOpv P (.store t x y) = some op) (h : opv E op tm s = some (v, s'))
    (r : Rel P w0 φ s.get w) (hwf : Wf s) (hf : s.next < s'.next → φ s.next = none) (ht : TmOn φ (Opd.tmps op.opds) tm a) : Done P w0 φ s w a o v s' := by
  simp only [cOpv] at hc
  split at hc
  · rename_i n xa ya q1 q2 q3
    cases hc
    simp only [opv] at h
    obtain ⟨m, k, g1, g2, g3⟩ := o2_inv h
    obtain ⟨g4, w', g5, g6⟩ := run_st (P := P) r q1 g3 (opd_sound q2 g1 (tmon1 ht (by simp [IOp.opds]))) (opd_sound q3 g2 (tmon1 ht (by simp [IOp.opds])))
    exact done_u (S := Instr.storeAt t (a.eval x) (a.eval y)) (by unfold execOp; rw [ho]) g5 g6 g4
  · cases hc

theorem done_nilCheck {x : Operand} {op : IOp} (hG : GlobRel E.globs w0) (ho : o.op = .nilCheck x) (hc : cOpv P (.nilCheck x) = some op) (h : opv E op tm s = some (v, s'))
    (r : Rel P w0 φ s.get w) (hwf : Wf s) (hf : s.next < s'.next → φ s.next = none) (ht : TmOn φ (Opd.tmps op.opds) tm a) : Done P w0 φ s w a o v s' := by
  simp only [cOpv] at hc
  obtain ⟨y, hy, rfl⟩ := Option.map_eq_some_iff.1 hc
  simp only [opv] at h
  obtain ⟨u, h1, h2, rfl⟩ := v1_inv h
  have hx := opd_sound (φ := φ) (a := a) hy h1 (tmon1 ht (by simp [IOp.opds]))
  obtain ⟨h3, rfl⟩ := run_nck (P := P) (w := w) ho h2 hx
  exact ⟨φ, a.eval x, w, .inl h3, Step.refl r, hx⟩

theorem done_binOp {bop : BinOp} {t : TypeId} {x y : Operand} {pos : _} {op : IOp} (hG : GlobRel E.globs w0) (ho : o.op = .binOp bop t x y pos) (hc : cOpv P (.binOp bop t x y pos) = some op) (h : opv E op tm s = some (v, s'))
    (r : Rel P w0 φ s.get w) (hwf : Wf s) (hf : s.next < s'.next → φ s.next = none) (ht : TmOn φ (Opd.tmps op.opds) tm a) : Done P w0 φ s w a o v s' := by
  simp only [cOpv] at hc
  split at hc
  · rename_i xa ya q1 q2 q3
    cases hc
    simp only [opv] at h
    obtain ⟨m, k, g1, g2, g3, g4⟩ := v2_inv h
    exact done_r r (S := (do eqGuard bop t x y (a.eval x) (a.eval y); binOp bop t (a.eval x) (a.eval y))) (by unfold execOp; rw [ho]) g4 (vBin_sound g3 (opd_sound q2 g1 (tmon1 ht (by simp [IOp.opds]))) (opd_sound q3 g2 (tmon1 ht (by simp [IOp.opds]))))
  · rename_i k0 xa ya q0 q1 q2 q3
    split at hc
    · cases hc
      simp only [opv] at h
      obtain ⟨m, k, g1, g2, g3, g4⟩ := v2_inv h
      unfold vEqk at g3
      split at g3
      · rename_i b hb
        cases g3
        exact done_r r (S := (do eqGuard .eql t x y (a.eval x) (a.eval y); binOp .eql t (a.eval x) (a.eval y))) (by unfold execOp; rw [ho]) g4 ⟨_, eqV_sound (w0 := w0) (neg := false) q1 hb (opd_sound q2 g1 (tmon1 ht (by simp [IOp.opds]))) (opd_sound q3 g2 (tmon1 ht (by simp [IOp.opds]))), by simp only [VR]⟩
      · cases g3
    · cases hc
      simp only [opv] at h
      obtain ⟨m, k, g1, g2, g3, g4⟩ := v2_inv h
      unfold vEqk at g3
      split at g3
      · rename_i b hb
        cases g3
        exact done_r r (S := (do eqGuard .neq t x y (a.eval x) (a.eval y); binOp .neq t (a.eval x) (a.eval y))) (by unfold execOp; rw [ho]) g4 ⟨_, eqV_sound (w0 := w0) (neg := true) q1 hb (opd_sound q2 g1 (tmon1 ht (by simp [IOp.opds]))) (opd_sound q3 g2 (tmon1 ht (by simp [IOp.opds]))), by simp only [VR]⟩
      · cases g3
    · cases hc
  · cases hc

theorem done_unOp {uop : UnOp} {t : _} {x : Operand} {op : IOp} (hG : GlobRel E.globs w0) (ho : o.op = .unOp uop t x) (hc : cOpv P (.unOp uop t x) = some op) (h : opv E op tm s = some (v, s'))
    (r : Rel P w0 φ s.get w) (hwf : Wf s) (hf : s.next < s'.next → φ s.next = none) (ht : TmOn φ (Opd.tmps op.opds) tm a) : Done P w0 φ s w a o v s' := by
  simp only [cOpv] at hc
  obtain ⟨y, hy, rfl⟩ := Option.map_eq_some_iff.1 hc
  simp only [opv] at h
  obtain ⟨u, h1, h2, h3⟩ := v1_inv h
  exact done_r r (S := Op.unary uop (a.eval x)) (by unfold execOp; rw [ho]) h3 (vUn_sound h2 (opd_sound hy h1 (tmon1 ht (by simp [IOp.opds]))))

theorem done_convert {sT d : TypeId} {x : Operand} {op : IOp} (hG : GlobRel E.globs w0) (ho : o.op = .convert sT d x) (hc : cOpv P (.convert sT d x) = some op) (h : opv E op tm s = some (v, s'))
    (r : Rel P w0 φ s.get w) (hwf : Wf s) (hf : s.next < s'.next → φ s.next = none) (ht : TmOn φ (Opd.tmps op.opds) tm a) : Done P w0 φ s w a o v s' := by
  simp only [cOpv] at hc
  have he : execOp a.eval o = (do pure (.value (← convert sT d (a.eval x)))) := by unfold execOp; rw [ho]
  split at hc
  · rename_i u k y q1 q2 q3
    cases hc
    simp only [opv] at h
    obtain ⟨u, h1, h2, h3⟩ := v1_inv h
    exact done_r r he h3 (run_convert_int q1 q2 h2 (opd_sound q3 h1 (tmon1 ht (by simp [IOp.opds]))))
  · rename_i y q1 q2 q3
    cases hc
    simp only [opv] at h
    obtain ⟨u, h1, h2, h3⟩ := v1_inv h
    exact done_r r he h3 (run_convert_ss q1 q2 h2 (opd_sound q3 h1 (tmon1 ht (by simp [IOp.opds]))))
  · rename_i k y q1 q2 q3
    cases hc
    simp only [opv] at h
    obtain ⟨u, h1, h2, h3⟩ := v1_inv h
    exact done_r r he h3 (run_convert_is q1 q2 h2 (opd_sound q3 h1 (tmon1 ht (by simp [IOp.opds]))))
  · rename_i e y q1 q2 q3
    split at hc
    · rename_i hu
      cases hc
      simp only [opv] at h
      obtain ⟨u, h1, h2⟩ := o1_inv h
      exact done_e he (csb_sound r hwf (hf (oCsb_next h2)) q1 q2 hu h2 (opd_sound q3 h1 (tmon1 ht (by simp [IOp.opds]))))
    · cases hc
  · rename_i e y q1 q2 q3
    split at hc
    · rename_i hu
      cases hc
      simp only [opv] at h
      obtain ⟨u, h1, h2, h3⟩ := v1_inv h
      exact done_r r he h3 (cbs_sound r q1 q2 hu h2 (opd_sound q3 h1 (tmon1 ht (by simp [IOp.opds]))))
    · cases hc
  · rename_i e0 e y q1 q2 q3
    split at hc
    · rename_i hsd hu
      cases hc
      simp only [opv] at h
      obtain ⟨u, h1, h2⟩ := o1_inv h
      have hsd : sT = d := by simpa using hsd
      subst hsd
      obtain ⟨w', g1, g2, g3⟩ := cbb_sound (P := P) (e' := e) r q2 hu h2 (opd_sound q3 h1 (tmon1 ht (by simp [IOp.opds])))
      exact done_v he g1 g2 g3
    · cases hc
  · rename_i e y q1 q2 q3
    split at hc
    · rename_i k hz
      cases hc
      simp only [opv] at h
      obtain ⟨u, h1, h2, h3⟩ := v1_inv h
      exact done_r r he h3 (cup_sound r q1 q2 hz h2 (opd_sound q3 h1 (tmon1 ht (by simp [IOp.opds]))))
    · cases hc
  · rename_i e y q1 q2 q3
    split at hc
    · rename_i k hz
      cases hc
      simp only [opv] at h
      obtain ⟨u, h1, h2, h3⟩ := v1_inv h
      exact done_r r he h3 (cpu_sound r q1 q2 hz h2 (opd_sound q3 h1 (tmon1 ht (by simp [IOp.opds]))))
    · cases hc
  · cases hc

theorem done_makeInterface {t : TypeId} {x : Operand} {op : IOp} (hG : GlobRel E.globs w0) (ho : o.op = .makeInterface t x) (hc : cOpv P (.makeInterface t x) = some op) (h : opv E op tm s = some (v, s'))
    (r : Rel P w0 φ s.get w) (hwf : Wf s) (hf : s.next < s'.next → φ s.next = none) (ht : TmOn φ (Opd.tmps op.opds) tm a) : Done P w0 φ s w a o v s' := by
  simp only [cOpv] at hc
  split at hc
  · cases hc
  · rename_i d hni hu
    obtain ⟨y, hy, rfl⟩ := Option.map_eq_some_iff.1 hc
    simp only [opv] at h
    obtain ⟨u, h1, h2, h3⟩ := v1_inv h
    cases h2
    have hx := opd_sound (φ := φ) (a := a) hy h1 (tmon1 ht (by simp [IOp.opds]))
    refine done_r r (S := Instr.makeInterface t (a.eval x)) (by unfold execOp; rw [ho]) h3 ⟨.iface t (a.eval x), ?_, by simp only [VR]; exact ⟨_, rfl, hx⟩⟩
    simp only [Instr.makeInterface, Sem.run_bind, run_underlying' hu, Result.andThen_ok]
    cases d <;> first | exact (hni _ rfl).elim | exact (hni _ hu).elim | rfl
  · cases hc

theorem done_makeFunc {f : Nat} {fst cap : Array Operand} {op : IOp} (hG : GlobRel E.globs w0) (ho : o.op = .makeFunc (.func f) fst cap) (hc : cOpv P (.makeFunc (.func f) fst cap) = some op) (h : opv E op tm s = some (v, s'))
    (r : Rel P w0 φ s.get w) (hwf : Wf s) (hf : s.next < s'.next → φ s.next = none) (ht : TmOn φ (Opd.tmps op.opds) tm a) : Done P w0 φ s w a o v s' := by
  simp only [cOpv] at hc
  split at hc
  · rename_i x y q1 q2
    cases hc
    simp only [opv] at h
    obtain ⟨us, vs, g1, g2, g3, g4⟩ := vLL_inv h
    cases g3
    refine done_r r (S := Instr.makeFunc (.func f) (fst.map a.eval) (cap.map a.eval)) (by unfold execOp; rw [ho]) g4 ⟨_, rfl, ?_⟩
    simp only [VR]
    exact ⟨fst.toList.map a.eval, cap.toList.map a.eval, by congr 1 <;> (apply Array.ext'; simp), opds_sound q1 g1 (tmonL ht (by simp [IOp.opds]; intro x hx; exact .inl hx)), opds_sound q2 g2 (tmonL ht (by simp [IOp.opds]; intro x hx; exact .inr hx))⟩
  · cases hc

theorem done_makeMap {t : TypeId} {op : IOp} (hG : GlobRel E.globs w0) (ho : o.op = .makeMap t none) (hc : cOpv P (.makeMap t none) = some op) (h : opv E op tm s = some (v, s'))
    (r : Rel P w0 φ s.get w) (hwf : Wf s) (hf : s.next < s'.next → φ s.next = none) (ht : TmOn φ (Opd.tmps op.opds) tm a) : Done P w0 φ s w a o v s' := by
  simp only [cOpv] at hc
  cases hc
  simp only [opv] at h
  have hn : s.next < s'.next := by unfold oMmap at h; simp only [Option.some.injEq, Prod.mk.injEq] at h; exact next_row h.2
  obtain ⟨φ', h1, h2⟩ := mmap_sound (P := P) r hwf (hf hn) h
  exact done_v (S := Instr.makeMap t none) (by unfold execOp; rw [ho]; rfl) (by simp [Instr.makeMap]) h1 h2

theorem done_makeMapN {t : TypeId} {k : IntKind} {n : Int} {op : IOp} (hG : GlobRel E.globs w0) (ho : o.op = .makeMap t (some (.const (.int k n)))) (hc : cOpv P (.makeMap t (some (.const (.int k n)))) = some op) (h : opv E op tm s = some (v, s'))
    (r : Rel P w0 φ s.get w) (hwf : Wf s) (hf : s.next < s'.next → φ s.next = none) (ht : TmOn φ (Opd.tmps op.opds) tm a) : Done P w0 φ s w a o v s' := by
  simp only [cOpv] at hc
  split at hc
  · rename_i kt e hu
    cases hc
    simp only [opv] at h
    have hn : s.next < s'.next := by unfold oMmap at h; simp only [Option.some.injEq, Prod.mk.injEq] at h; exact next_row h.2
    obtain ⟨φ', h1, h2⟩ := mmap_sound (P := P) r hwf (hf hn) h
    exact done_v (S := Instr.makeMap t (some (.int k n))) (by unfold execOp; rw [ho]; rfl) (by simp [Instr.makeMap, run_underlying' hu, asInt, asIntOf]) h1 h2
  · cases hc

theorem done_makeSlice {t : TypeId} {l c : Operand} {op : IOp} (hG : GlobRel E.globs w0) (ho : o.op = .makeSlice t l c) (hc : cOpv P (.makeSlice t l c) = some op) (h : opv E op tm s = some (v, s'))
    (r : Rel P w0 φ s.get w) (hwf : Wf s) (hf : s.next < s'.next → φ s.next = none) (ht : TmOn φ (Opd.tmps op.opds) tm a) : Done P w0 φ s w a o v s' := by
  simp only [cOpv] at hc
  split at hc
  · rename_i e hu
    split at hc
    · rename_i sz b z la ca q1 q2 q3 q4 q5
      cases hb : (Nat.beq (lenN z.cells) sz && Nat.ble 1 sz) with
      | false => rw [hb] at hc; simp at hc
      | true =>
        rw [hb] at hc; simp only [cond_true, Option.some.injEq] at hc; subst hc
        simp only [opv] at h
        obtain ⟨m, n, g1, g2, g3⟩ := o2_inv h
        exact done_e (S := Instr.makeSlice t (a.eval l) (a.eval c)) (by unfold execOp; rw [ho]) (msl_sound r hwf (hf (oMsl_next g3)) hu q1 q2 q3 hb g3 (opd_sound q4 g1 (tmon1 ht (by simp [IOp.opds]))) (opd_sound q5 g2 (tmon1 ht (by simp [IOp.opds]))))
    · cases hc
  · cases hc

theorem done_slice {t : TypeId} {x : Operand} {lo hi mx : Option Operand} {op : IOp} (hG : GlobRel E.globs w0) (ho : o.op = .slice t x lo hi mx) (hc : cOpv P (.slice t x lo hi mx) = some op) (h : opv E op tm s = some (v, s'))
    (r : Rel P w0 φ s.get w) (hwf : Wf s) (hf : s.next < s'.next → φ s.next = none) (ht : TmOn φ (Opd.tmps op.opds) tm a) : Done P w0 φ s w a o v s' := by
  simp only [cOpv] at hc
  split at hc
  · rename_i n e xa la ha ma q1 q2 q3 q4 q5
    split at hc
    · rename_i sz hs
      cases hb : (ma.isNone || ha.isSome) with
      | false => rw [hb] at hc; simp at hc
      | true =>
        rw [hb] at hc; simp only [cond_true, Option.some.injEq] at hc; subst hc
        simp only [opv] at h
        obtain ⟨p, l, m, k, g1, g2, g3, g4, g5, g6⟩ := vs4_inv h
        have hmh : k = none ∨ m ≠ none := by
          rw [← evO_none g4, ne_eq, ← evO_none g3]
          cases ma <;> cases ha <;> simp at hb ⊢
        exact done_r r (S := Instr.sliceAt t (a.eval x) (lo.map a.eval) (hi.map a.eval) (mx.map a.eval)) (by unfold execOp; rw [ho]) g6 (sla_sound q1 hs g5 (opd_sound q2 g1 (tmon1 ht (by simp [IOp.opds]))) (opdO_sound q3 g2 (tmonL ht (by simp [IOp.opds]; intro x hx; exact .inr (.inl hx)))) (opdO_sound q4 g3 (tmonL ht (by simp [IOp.opds]; intro x hx; exact .inr (.inr (.inl hx))))) (opdO_sound q5 g4 (tmonL ht (by simp [IOp.opds]; intro x hx; exact .inr (.inr (.inr hx))))) hmh)
    · cases hc
  · rename_i xa la ha q1 q2 q3 q4 q5
    cases hc
    simp only [opv] at h
    obtain ⟨p, l, m, g1, g2, g3, g4, g5⟩ := vs3_inv h
    have hmx : mx = none := by
      cases mx with
      | none => rfl
      | some y => simp only [cOpdO] at q5; split at q5 <;> simp at q5
    subst hmx
    exact done_r r (S := Instr.sliceAt t (a.eval x) (lo.map a.eval) (hi.map a.eval) none) (by unfold execOp; rw [ho]; rfl) g5 (sls_sound q1 g4 (opd_sound q2 g1 (tmon1 ht (by simp [IOp.opds]))) (opdO_sound q3 g2 (tmonL ht (by simp [IOp.opds]; intro x hx; exact .inr (.inl hx)))) (opdO_sound q4 g3 (tmonL ht (by simp [IOp.opds]; intro x hx; exact .inr (.inr hx)))))
  · rename_i e xa la ha ma q1 q2 q3 q4 q5
    split at hc
    · rename_i sz hs
      cases hb : ((ma.isNone || ha.isSome) && Nat.ble 1 sz) with
      | false => rw [hb] at hc; simp at hc
      | true =>
        rw [hb] at hc; simp only [cond_true, Option.some.injEq] at hc; subst hc
        rw [Bool.and_eq_true] at hb
        simp only [opv] at h
        obtain ⟨p, l, m, k, g1, g2, g3, g4, g5, g6⟩ := vs4_inv h
        have hmh : k = none ∨ m ≠ none := by
          rw [← evO_none g4, ne_eq, ← evO_none g3]
          have hb := hb.1
          cases ma <;> cases ha <;> simp at hb ⊢
        exact done_r r (S := Instr.sliceAt t (a.eval x) (lo.map a.eval) (hi.map a.eval) (mx.map a.eval)) (by unfold execOp; rw [ho]) g6 (slv_sound q1 hs g5 (opd_sound q2 g1 (tmon1 ht (by simp [IOp.opds]))) (opdO_sound q3 g2 (tmonL ht (by simp [IOp.opds]; intro x hx; exact .inr (.inl hx)))) (opdO_sound q4 g3 (tmonL ht (by simp [IOp.opds]; intro x hx; exact .inr (.inr (.inl hx))))) (opdO_sound q5 g4 (tmonL ht (by simp [IOp.opds]; intro x hx; exact .inr (.inr (.inr hx))))) hmh)
    · cases hc
  · cases hc

theorem done_fieldAddr {sT : TypeId} {x : Operand} {f : Nat} {op : IOp} (hG : GlobRel E.globs w0) (ho : o.op = .fieldAddr sT x f) (hc : cOpv P (.fieldAddr sT x f) = some op) (h : opv E op tm s = some (v, s'))
    (r : Rel P w0 φ s.get w) (hwf : Wf s) (hf : s.next < s'.next → φ s.next = none) (ht : TmOn φ (Opd.tmps op.opds) tm a) : Done P w0 φ s w a o v s' := by
  simp only [cOpv] at hc
  split at hc
  · rename_i fs hu
    split at hc
    · rename_i fl hfl
      split at hc
      · cases hc
      · rename_i n hn hs
        obtain ⟨y, hy, rfl⟩ := Option.map_eq_some_iff.1 hc
        simp only [opv] at h
        obtain ⟨u, h1, h2, h3⟩ := v1_inv h
        obtain ⟨k, rfl⟩ : ∃ k, n = k + 1 := ⟨n - 1, by have : n ≠ 0 := fun e => hn e; omega⟩
        exact done_r r (S := Instr.fieldAt sT (a.eval x) f) (by unfold execOp; rw [ho]) h3 (fa_sound hu hfl hs h2 (opd_sound hy h1 (tmon1 ht (by simp [IOp.opds]))))
      · cases hc
    · cases hc
  · cases hc

theorem done_field {t : TypeId} {x : Operand} {f : Nat} {op : IOp} (hG : GlobRel E.globs w0) (ho : o.op = .field t x f) (hc : cOpv P (.field t x f) = some op) (h : opv E op tm s = some (v, s'))
    (r : Rel P w0 φ s.get w) (hwf : Wf s) (hf : s.next < s'.next → φ s.next = none) (ht : TmOn φ (Opd.tmps op.opds) tm a) : Done P w0 φ s w a o v s' := by
  simp only [cOpv] at hc
  split at hc
  · rename_i fs hu
    split at hc
    · rename_i fl hfl
      split at hc
      · rename_i n q1 q2
        obtain ⟨y, hy, rfl⟩ := Option.map_eq_some_iff.1 hc
        simp only [opv] at h
        obtain ⟨u, h1, h2, h3⟩ := v1_inv h
        exact done_r r (S := Instr.field t (a.eval x) f) (by unfold execOp; rw [ho]) h3 (fd_sound (no := some n) hu hfl ⟨q1, q2⟩ h2 (opd_sound hy h1 (tmon1 ht (by simp [IOp.opds]))))
      · rename_i q1
        obtain ⟨y, hy, rfl⟩ := Option.map_eq_some_iff.1 hc
        simp only [opv] at h
        obtain ⟨u, h1, h2, h3⟩ := v1_inv h
        exact done_r r (S := Instr.field t (a.eval x) f) (by unfold execOp; rw [ho]) h3 (fd_sound (no := none) hu hfl q1 h2 (opd_sound hy h1 (tmon1 ht (by simp [IOp.opds]))))
      · cases hc
    · cases hc
  · cases hc

theorem done_indexAddr {t : TypeId} {x i : Operand} {op : IOp} (hG : GlobRel E.globs w0) (ho : o.op = .indexAddr t x i) (hc : cOpv P (.indexAddr t x i) = some op) (h : opv E op tm s = some (v, s'))
    (r : Rel P w0 φ s.get w) (hwf : Wf s) (hf : s.next < s'.next → φ s.next = none) (ht : TmOn φ (Opd.tmps op.opds) tm a) : Done P w0 φ s w a o v s' := by
  simp only [cOpv] at hc
  split at hc
  · rename_i n e hu
    split at hc
    · rename_i sz xa ia q1 q2 q3
      cases hc
      simp only [opv] at h
      obtain ⟨m, k, g1, g2, g3, g4⟩ := v2_inv h
      exact done_r r (S := Instr.indexAt t (a.eval x) (a.eval i)) (by unfold execOp; rw [ho]) g4 (iaa_sound hu q1 g3 (opd_sound q2 g1 (tmon1 ht (by simp [IOp.opds]))) (opd_sound q3 g2 (tmon1 ht (by simp [IOp.opds]))))
    · cases hc
  · rename_i e hu
    split at hc
    · rename_i sz xa ia q1 q2 q3
      cases hc
      simp only [opv] at h
      obtain ⟨m, k, g1, g2, g3, g4⟩ := v2_inv h
      exact done_r r (S := Instr.indexAt t (a.eval x) (a.eval i)) (by unfold execOp; rw [ho]) g4 (ia_sound hu q1 g3 (opd_sound q2 g1 (tmon1 ht (by simp [IOp.opds]))) (opd_sound q3 g2 (tmon1 ht (by simp [IOp.opds]))))
    · cases hc
  · cases hc

theorem done_index {t : TypeId} {x i : Operand} {op : IOp} (hG : GlobRel E.globs w0) (ho : o.op = .index t x i) (hc : cOpv P (.index t x i) = some op) (h : opv E op tm s = some (v, s'))
    (r : Rel P w0 φ s.get w) (hwf : Wf s) (hf : s.next < s'.next → φ s.next = none) (ht : TmOn φ (Opd.tmps op.opds) tm a) : Done P w0 φ s w a o v s' := by
  simp only [cOpv] at hc
  split at hc
  · rename_i hu
    split at hc
    · rename_i xa ia q2 q3
      cases hc
      simp only [opv] at h
      obtain ⟨m, k, g1, g2, g3, g4⟩ := v2_inv h
      exact done_r r (S := Instr.index t (a.eval x) (a.eval i)) (by unfold execOp; rw [ho]) g4 (ixs_sound hu g3 (opd_sound q2 g1 (tmon1 ht (by simp [IOp.opds]))) (opd_sound q3 g2 (tmon1 ht (by simp [IOp.opds]))))
    · cases hc
  · rename_i n e hu
    split at hc
    · rename_i sz ag xa ia q0 q1 q2 q3
      cases hc
      simp only [opv] at h
      obtain ⟨m, k, g1, g2, g3, g4⟩ := v2_inv h
      exact done_r r (S := Instr.index t (a.eval x) (a.eval i)) (by unfold execOp; rw [ho]) g4 (ixa_sound hu q0 q1 g3 (opd_sound q2 g1 (tmon1 ht (by simp [IOp.opds]))) (opd_sound q3 g2 (tmon1 ht (by simp [IOp.opds]))))
    · cases hc
  · cases hc

theorem done_lookup {t : TypeId} {m k : Operand} {ok : Bool} {op : IOp} (hG : GlobRel E.globs w0) (ho : o.op = .lookup t m k ok) (hc : cOpv P (.lookup t m k ok) = some op) (h : opv E op tm s = some (v, s'))
    (r : Rel P w0 φ s.get w) (hwf : Wf s) (hf : s.next < s'.next → φ s.next = none) (ht : TmOn φ (Opd.tmps op.opds) tm a) : Done P w0 φ s w a o v s' := by
  simp only [cOpv] at hc
  split at hc
  · rename_i kt e hu
    split at hc
    · rename_i f z ma ka q0 q1 q2 q3
      cases hc
      simp only [opv] at h
      obtain ⟨p, q, g1, g2, g3, g4⟩ := v2_inv h
      exact done_r r (S := Instr.lookup t (a.eval m) (a.eval k) ok) (by unfold execOp; rw [ho]) g4 (lk_sound r hu q0 q1 g3 (opd_sound q2 g1 (tmon1 ht (by simp [IOp.opds]))) (opd_sound q3 g2 (tmon1 ht (by simp [IOp.opds]))))
    · cases hc
  · cases hc

theorem done_mapUpdate {t : TypeId} {m k x : Operand} {op : IOp} (hG : GlobRel E.globs w0) (ho : o.op = .mapUpdate t m k x) (hc : cOpv P (.mapUpdate t m k x) = some op) (h : opv E op tm s = some (v, s'))
    (r : Rel P w0 φ s.get w) (hwf : Wf s) (hf : s.next < s'.next → φ s.next = none) (ht : TmOn φ (Opd.tmps op.opds) tm a) : Done P w0 φ s w a o v s' := by
  simp only [cOpv] at hc
  split at hc
  · rename_i kt e hu
    split at hc
    · rename_i f ma ka xa q0 q1 q2 q3
      cases hc
      simp only [opv] at h
      obtain ⟨p, q, y, g1, g2, g3, g4⟩ := o3_inv h
      obtain ⟨g5, w', g6, g7⟩ := mu_sound (P := P) r hu q0 g4 (opd_sound q1 g1 (tmon1 ht (by simp [IOp.opds]))) (opd_sound q2 g2 (tmon1 ht (by simp [IOp.opds]))) (opd_sound q3 g3 (tmon1 ht (by simp [IOp.opds])))
      exact done_u (S := Instr.mapUpdate t (a.eval m) (a.eval k) (a.eval x)) (by unfold execOp; rw [ho]) g6 g7 g5
    · cases hc
  · cases hc

theorem done_insert {t : TypeId} {m k x : Operand} {op : IOp} (hG : GlobRel E.globs w0) (ho : o.op = .insert t m k x) (hc : cOpv P (.insert t m k x) = some op) (h : opv E op tm s = some (v, s'))
    (r : Rel P w0 φ s.get w) (hwf : Wf s) (hf : s.next < s'.next → φ s.next = none) (ht : TmOn φ (Opd.tmps op.opds) tm a) : Done P w0 φ s w a o v s' := by
  simp only [cOpv] at hc
  split at hc
  · rename_i kt e hu
    split at hc
    · rename_i f ma ka xa q0 q1 q2 q3
      cases hc
      simp only [opv] at h
      obtain ⟨p, q, y, g1, g2, g3, g4⟩ := o3_inv h
      obtain ⟨g5, w', g6, g7⟩ := mu_sound (P := P) r hu q0 g4 (opd_sound q1 g1 (tmon1 ht (by simp [IOp.opds]))) (opd_sound q2 g2 (tmon1 ht (by simp [IOp.opds]))) (opd_sound q3 g3 (tmon1 ht (by simp [IOp.opds])))
      exact done_u (S := Instr.mapUpdate t (a.eval m) (a.eval k) (a.eval x)) (by unfold execOp; rw [ho]) g6 g7 g5
    · cases hc
  · cases hc

theorem done_mapEntry {t : TypeId} {m k : Operand} {op : IOp} (hG : GlobRel E.globs w0) (ho : o.op = .mapEntry t m k) (hc : cOpv P (.mapEntry t m k) = some op) (h : opv E op tm s = some (v, s'))
    (r : Rel P w0 φ s.get w) (hwf : Wf s) (hf : s.next < s'.next → φ s.next = none) (ht : TmOn φ (Opd.tmps op.opds) tm a) : Done P w0 φ s w a o v s' := by
  simp only [cOpv] at hc
  split at hc
  · rename_i kt e hu
    split at hc
    · rename_i f z ma ka q0 q1 q2 q3
      cases hc
      simp only [opv] at h
      obtain ⟨p, q, g1, g2, g3⟩ := o2_inv h
      obtain ⟨x, w', g4, g5, g6⟩ := me_sound (P := P) r hu q0 q1 g3 (opd_sound q2 g1 (tmon1 ht (by simp [IOp.opds]))) (opd_sound q3 g2 (tmon1 ht (by simp [IOp.opds])))
      exact done_v (S := Instr.mapEntry t (a.eval m) (a.eval k)) (by unfold execOp; rw [ho]) g4 g5 g6
    · cases hc
  · cases hc

theorem done_entryStore {mt : TypeId} {m t x : Operand} {op : IOp} (hG : GlobRel E.globs w0) (ho : o.op = .entryStore mt m t x) (hc : cOpv P (.entryStore mt m t x) = some op) (h : opv E op tm s = some (v, s'))
    (r : Rel P w0 φ s.get w) (hwf : Wf s) (hf : s.next < s'.next → φ s.next = none) (ht : TmOn φ (Opd.tmps op.opds) tm a) : Done P w0 φ s w a o v s' := by
  simp only [cOpv] at hc
  split at hc
  · rename_i ma ta xa q1 q2 q3
    cases hc
    simp only [opv] at h
    obtain ⟨p, q, y, g1, g2, g3, g4⟩ := o3_inv h
    obtain ⟨g5, w', g6, g7⟩ := es_sound (P := P) (mt := mt) r g4 (opd_sound q1 g1 (tmon1 ht (by simp [IOp.opds]))) (opd_sound q2 g2 (tmon1 ht (by simp [IOp.opds]))) (opd_sound q3 g3 (tmon1 ht (by simp [IOp.opds])))
    exact done_u (S := Instr.entryStore mt (a.eval m) (a.eval t) (a.eval x)) (by unfold execOp; rw [ho]) g6 g7 g5
  · cases hc

theorem done_range {t : TypeId} {x : Operand} {op : IOp} (hG : GlobRel E.globs w0) (ho : o.op = .range t x) (hc : cOpv P (.range t x) = some op) (h : opv E op tm s = some (v, s'))
    (r : Rel P w0 φ s.get w) (hwf : Wf s) (hf : s.next < s'.next → φ s.next = none) (ht : TmOn φ (Opd.tmps op.opds) tm a) : Done P w0 φ s w a o v s' := by
  simp only [cOpv] at hc
  split at hc
  · rename_i hu
    obtain ⟨y, hy, rfl⟩ := Option.map_eq_some_iff.1 hc
    simp only [opv] at h
    obtain ⟨u, h1, h2⟩ := o1_inv h
    exact done_e (S := Instr.range t (a.eval x)) (by unfold execOp; rw [ho]) (rs_sound r hwf (hf (oRs_next h2)) hu h2 (opd_sound hy h1 (tmon1 ht (by simp [IOp.opds]))))
  · rename_i k e hu
    obtain ⟨y, hy, rfl⟩ := Option.map_eq_some_iff.1 hc
    simp only [opv] at h
    obtain ⟨u, h1, h2⟩ := o1_inv h
    exact done_e (S := Instr.range t (a.eval x)) (by unfold execOp; rw [ho]) (rm_sound r hwf (hf (oRm_next h2)) hu h2 (opd_sound hy h1 (tmon1 ht (by simp [IOp.opds]))))
  · cases hc

theorem done_nextS {x : Operand} {op : IOp} (hG : GlobRel E.globs w0) (ho : o.op = .next x true) (hc : cOpv P (.next x true) = some op) (h : opv E op tm s = some (v, s'))
    (r : Rel P w0 φ s.get w) (hwf : Wf s) (hf : s.next < s'.next → φ s.next = none) (ht : TmOn φ (Opd.tmps op.opds) tm a) : Done P w0 φ s w a o v s' := by
  simp only [cOpv] at hc
  obtain ⟨y, hy, rfl⟩ := Option.map_eq_some_iff.1 hc
  simp only [opv] at h
  obtain ⟨u, h1, h2⟩ := o1_inv h
  obtain ⟨z, w', g1, g2, g3⟩ := ns_sound (P := P) (ty := o.type) r h2 (opd_sound hy h1 (tmon1 ht (by simp [IOp.opds])))
  exact done_v (S := Instr.next (a.eval x) true o.type) (by unfold execOp; rw [ho]) g1 g2 g3

theorem done_nextM {x : Operand} {op : IOp} (hG : GlobRel E.globs w0) (ho : o.op = .next x false) (hc : cOpv P (.next x false) = some op) (h : opv E op tm s = some (v, s'))
    (r : Rel P w0 φ s.get w) (hwf : Wf s) (hf : s.next < s'.next → φ s.next = none) (ht : TmOn φ (Opd.tmps op.opds) tm a) : Done P w0 φ s w a o v s' := by
  simp only [cOpv] at hc
  obtain ⟨y, hy, rfl⟩ := Option.map_eq_some_iff.1 hc
  simp only [opv] at h
  obtain ⟨u, h1, h2⟩ := o1_inv h
  obtain ⟨z, w', g1, g2, g3⟩ := nm_sound (P := P) (ty := o.type) r h2 (opd_sound hy h1 (tmon1 ht (by simp [IOp.opds])))
  exact done_v (S := Instr.next (a.eval x) false o.type) (by unfold execOp; rw [ho]) g1 g2 g3

theorem done_entry {x : Operand} {op : IOp} (hG : GlobRel E.globs w0) (ho : o.op = .entry x) (hc : cOpv P (.entry x) = some op) (h : opv E op tm s = some (v, s'))
    (r : Rel P w0 φ s.get w) (hwf : Wf s) (hf : s.next < s'.next → φ s.next = none) (ht : TmOn φ (Opd.tmps op.opds) tm a) : Done P w0 φ s w a o v s' := by
  simp only [cOpv] at hc
  obtain ⟨y, hy, rfl⟩ := Option.map_eq_some_iff.1 hc
  simp only [opv] at h
  obtain ⟨u, h1, h2, h3⟩ := v1_inv h
  exact done_r r (S := Instr.entry (a.eval x)) (by unfold execOp; rw [ho]) h3 (en_sound r h2 (opd_sound hy h1 (tmon1 ht (by simp [IOp.opds]))))

theorem done_extract {x : Operand} {i : Nat} {op : IOp} (hG : GlobRel E.globs w0) (ho : o.op = .extract x i) (hc : cOpv P (.extract x i) = some op) (h : opv E op tm s = some (v, s'))
    (r : Rel P w0 φ s.get w) (hwf : Wf s) (hf : s.next < s'.next → φ s.next = none) (ht : TmOn φ (Opd.tmps op.opds) tm a) : Done P w0 φ s w a o v s' := by
  simp only [cOpv] at hc
  obtain ⟨y, hy, rfl⟩ := Option.map_eq_some_iff.1 hc
  simp only [opv] at h
  obtain ⟨u, h1, h2, h3⟩ := v1_inv h
  exact done_r r (S := Instr.extract (a.eval x) i) (by unfold execOp; rw [ho]) h3 (ex_sound h2 (opd_sound hy h1 (tmon1 ht (by simp [IOp.opds]))))

theorem done_call {c : Call} {op : IOp} (hG : GlobRel E.globs w0) (ho : o.op = .call c) (hc : cOpv P (.call c) = some op) (h : opv E op tm s = some (v, s'))
    (r : Rel P w0 φ s.get w) (hwf : Wf s) (hf : s.next < s'.next → φ s.next = none) (ht : TmOn φ (Opd.tmps op.opds) tm a) : Done P w0 φ s w a o v s' := by
  simp only [cOpv] at hc
  split at hc
  · rename_i f hcal
    split at hc
    · cases hc
    · rename_i fn hfn
      cases hb2 : (fn.name == "internal/bytealg.IndexByteString" && (fn.origin == "" && fn.body.isNone)) with
      | true =>
        rw [hb2] at hc; simp only [cond_true] at hc
        simp only [Bool.and_eq_true, beq_iff_eq] at hb2
        obtain ⟨n1, n2, n3⟩ := hb2
        split at hc
        · rename_i xa ya hcx
          cases hc
          simp only [opv] at h
          obtain ⟨p, q, g1, g2, g3, rfl⟩ := v2_inv h
          have hxs := opds_sound (a := a) (φ := φ) hcx (show evL tm [xa, ya] = some [p, q] by simp [evL, g1, g2]) (tmonL ht (by simp [IOp.opds]))
          have hmap : c.args.map a.eval = (c.args.toList.map a.eval).toArray := by rw [← List.map_toArray, Array.toArray_toList]
          simp only [VRL] at hxs
          obtain ⟨x', _, hx1, hx2, y', _, rfl, hy2, rfl⟩ := hxs
          obtain ⟨z, k1, k2⟩ := ibs_sound (P := P) (w := w) g3 hx2 hy2
          obtain ⟨m1, m2⟩ := find_ibs n1 n2
          refine ⟨φ, z, w, .inl (exec_func ho hcal (run_extern hfn n3 (by rw [n1]; rfl) m1 m2 ?_)), Step.refl r, k2⟩
          rw [hmap, hx1]; exact k1
        · cases hc
      | false =>
        rw [hb2] at hc; simp only [cond_false] at hc
        cases hb3 : (fn.name == "internal/abi.NoEscape" && (fn.origin == "" && fn.body.isNone)) with
        | true =>
          rw [hb3] at hc; simp only [cond_true] at hc
          simp only [Bool.and_eq_true, beq_iff_eq] at hb3
          obtain ⟨n1, n2, n3⟩ := hb3
          split at hc
          · rename_i xa hcx
            cases hc
            simp only [opv] at h
            obtain ⟨p, g1, g3, rfl⟩ := v1_inv h
            cases g3
            have hxs := opds_sound (a := a) (φ := φ) hcx (show evL tm [xa] = some [v] by simp [evL, g1]) (tmonL ht (by simp [IOp.opds]))
            have hmap : c.args.map a.eval = (c.args.toList.map a.eval).toArray := by rw [← List.map_toArray, Array.toArray_toList]
            simp only [VRL] at hxs
            obtain ⟨x', _, hx1, hx2, rfl⟩ := hxs
            obtain ⟨m1, m2⟩ := find_noEscape n1 n2
            refine ⟨φ, x', w, .inl (exec_func ho hcal (run_extern hfn n3 (by rw [n1]; rfl) m1 m2 ?_)), Step.refl r, hx2⟩
            rw [hmap, hx1]; rfl
          · cases hc
        | false => rw [hb3] at hc; simp at hc
  · cases hc
  · rename_i b hb
    exact builtin_done hG ho hb hc h r hwf hf ht
  · cases hc

/-- ONE OPERATION THAT CALLS NOTHING. -/
theorem opv_sound {op : IOp} (hG : GlobRel E.globs w0) (hc : cOpv P o.op = some op) (h : opv E op tm s = some (v, s'))
    (r : Rel P w0 φ s.get w) (hwf : Wf s) (hf : s.next < s'.next → φ s.next = none) (ht : TmOn φ (Opd.tmps op.opds) tm a) : Done P w0 φ s w a o v s' := by
  cases ho : o.op with
  | move x => exact done_move hG ho (ho ▸ hc) h r hwf hf ht
  | assign x => exact done_assign hG ho (ho ▸ hc) h r hwf hf ht
  | pick c x y => exact done_pick hG ho (ho ▸ hc) h r hwf hf ht
  | alloc t => exact done_alloc hG ho (ho ▸ hc) h r hwf hf ht
  | box t x => exact done_box hG ho (ho ▸ hc) h r hwf hf ht
  | build t ps => exact done_build hG ho (ho ▸ hc) h r hwf hf ht
  | buildSlice t len ps => exact done_buildSlice hG ho (ho ▸ hc) h r hwf hf ht
  | load t x => exact done_load hG ho (ho ▸ hc) h r hwf hf ht
  | store t x y => exact done_store hG ho (ho ▸ hc) h r hwf hf ht
  | nilCheck x => exact done_nilCheck hG ho (ho ▸ hc) h r hwf hf ht
  | binOp bop t x y pos => exact done_binOp hG ho (ho ▸ hc) h r hwf hf ht
  | unOp uop t x => exact done_unOp hG ho (ho ▸ hc) h r hwf hf ht
  | convert sT d x => exact done_convert hG ho (ho ▸ hc) h r hwf hf ht
  | makeInterface t x => exact done_makeInterface hG ho (ho ▸ hc) h r hwf hf ht
  | makeSlice t l c => exact done_makeSlice hG ho (ho ▸ hc) h r hwf hf ht
  | slice t x lo hi mx => exact done_slice hG ho (ho ▸ hc) h r hwf hf ht
  | fieldAddr sT x f => exact done_fieldAddr hG ho (ho ▸ hc) h r hwf hf ht
  | field t x f => exact done_field hG ho (ho ▸ hc) h r hwf hf ht
  | indexAddr t x i => exact done_indexAddr hG ho (ho ▸ hc) h r hwf hf ht
  | index t x i => exact done_index hG ho (ho ▸ hc) h r hwf hf ht
  | lookup t m k ok => exact done_lookup hG ho (ho ▸ hc) h r hwf hf ht
  | mapUpdate t m k x => exact done_mapUpdate hG ho (ho ▸ hc) h r hwf hf ht
  | insert t m k x => exact done_insert hG ho (ho ▸ hc) h r hwf hf ht
  | mapEntry t m k => exact done_mapEntry hG ho (ho ▸ hc) h r hwf hf ht
  | entryStore mt m t x => exact done_entryStore hG ho (ho ▸ hc) h r hwf hf ht
  | range t x => exact done_range hG ho (ho ▸ hc) h r hwf hf ht
  | entry x => exact done_entry hG ho (ho ▸ hc) h r hwf hf ht
  | extract x i => exact done_extract hG ho (ho ▸ hc) h r hwf hf ht
  | call c => exact done_call hG ho (ho ▸ hc) h r hwf hf ht
  | makeFunc f fst cap =>
    rw [ho] at hc
    cases f with
    | func f => exact done_makeFunc hG ho hc h r hwf hf ht
    | _ => simp [cOpv] at hc
  | makeMap t n =>
    rw [ho] at hc
    cases n with
    | none => exact done_makeMap hG ho hc h r hwf hf ht
    | some x =>
      cases x with
      | const c =>
        cases c with
        | int k n => exact done_makeMapN hG ho hc h r hwf hf ht
        | _ => simp [cOpv] at hc
      | _ => simp [cOpv] at hc
  | next x b =>
    rw [ho] at hc
    cases b with
    | true => exact done_nextS hG ho hc h r hwf hf ht
    | false => exact done_nextM hG ho hc h r hwf hf ht
  | _ => rw [ho] at hc; simp [cOpv] at hc

end
end Go.Proofs.YtoejmfiaaigpbaaGreatDoor.Ev

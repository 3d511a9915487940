/- Part of a verified evaluator of the model's code, generic over the program: a run of the evaluator that answers shows what the model's run answers. No conditions of its own. -/
import Derived.Test.YtoejmfiaaigpbaaGreatDoorEvOpsF2
namespace Go.Proofs.YtoejmfiaaigpbaaGreatDoor.Ev

section
variable {P : Program} {w0 : World} {φ : Phi} {s s' : St} {w : World} {tm : Trie AV} {a : Act} {o : Oper} {v : AV} {E : Env}

theorem tmon1 {x : Opd} {l : List Opd} (ht : TmOn φ (Opd.tmps l) tm a) (hx : x ∈ l) : TmOn φ x.tmp tm a :=
  ht.sub fun t h => List.mem_flatMap.2 ⟨x, hx, h⟩
theorem tmonL {m l : List Opd} (ht : TmOn φ (Opd.tmps l) tm a) (hx : ∀ x ∈ m, x ∈ l) : TmOn φ (Opd.tmps m) tm a :=
  ht.sub fun t h => by
    obtain ⟨x, h1, h2⟩ := List.mem_flatMap.1 h
    exact List.mem_flatMap.2 ⟨x, hx x h1, h2⟩

theorem builtin_done {b : Builtin} {c : Call} {op : IOp} (hG : GlobRel E.globs w0) (ho : o.op = .call c) (hcb : c.callee = .builtin b) (hc : cBuiltin P b c.argTypes.toList c.args.toList = some op) (h : opv E op tm s = some (v, s'))
    (r : Rel P w0 φ s.get w) (hwf : Wf s) (hf : s.next < s'.next → φ s.next = none) (ht : TmOn φ (Opd.tmps op.opds) tm a) : Done P w0 φ s w a o v s' := by
  have he := exec_builtin (a := a) ho hcb
  unfold cBuiltin at hc
  split at hc
  · -- len
    rename_i t rest x hts hxs
    have h0 := list_fst hts
    have hx := list_one hxs
    have he' : execOp a.eval o = (do pure (.value (← Builtin.len_ c.argTypes o.type #[a.eval x]))) := by rw [he, hx]; simp only [builtin, List.map_toArray, List.map_cons, List.map_nil]
    split at hc
    · rename_i hu
      obtain ⟨y, hy, rfl⟩ := Option.map_eq_some_iff.1 hc
      simp only [opv] at h
      obtain ⟨u, h1, h2, h3⟩ := v1_inv h
      exact done_r r he' h3 (len_sound (k := .s) r h0 hu h2 (opd_sound hy h1 (tmon1 ht (by simp [IOp.opds]))))
    · rename_i e hu
      obtain ⟨y, hy, rfl⟩ := Option.map_eq_some_iff.1 hc
      simp only [opv] at h
      obtain ⟨u, h1, h2, h3⟩ := v1_inv h
      exact done_r r he' h3 (len_sound (k := .v) r h0 ⟨e, hu⟩ h2 (opd_sound hy h1 (tmon1 ht (by simp [IOp.opds]))))
    · rename_i k e hu
      obtain ⟨y, hy, rfl⟩ := Option.map_eq_some_iff.1 hc
      simp only [opv] at h
      obtain ⟨u, h1, h2, h3⟩ := v1_inv h
      exact done_r r he' h3 (len_sound (k := .m) r h0 ⟨k, e, hu⟩ h2 (opd_sound hy h1 (tmon1 ht (by simp [IOp.opds]))))
    · rename_i n e hu
      cases hc
      simp only [opv, Option.some.injEq, Prod.mk.injEq] at h
      obtain ⟨rfl, rfl⟩ := h
      exact done_r r he' rfl ⟨goInt n, by simp [Builtin.len_, h0, run_underlying' hu], by simp only [VR]; rfl⟩
    · rename_i e hu
      split at hc
      · rename_i n e' hu'
        cases hc
        simp only [opv, Option.some.injEq, Prod.mk.injEq] at h
        obtain ⟨rfl, rfl⟩ := h
        exact done_r r he' rfl ⟨goInt n, by simp [Builtin.len_, h0, run_underlying' hu, run_underlying' hu'], by simp only [VR]; rfl⟩
      · cases hc
    · cases hc
  · -- cap
    rename_i t rest x hts hxs
    have h0 := list_fst hts
    have hx := list_one hxs
    have he' : execOp a.eval o = (do pure (.value (← Builtin.cap_ c.argTypes o.type #[a.eval x]))) := by rw [he, hx]; simp only [builtin, List.map_toArray, List.map_cons, List.map_nil]
    split at hc
    · rename_i e hu
      obtain ⟨y, hy, rfl⟩ := Option.map_eq_some_iff.1 hc
      simp only [opv] at h
      obtain ⟨u, h1, h2, h3⟩ := v1_inv h
      exact done_r r he' h3 (cap_sound h0 hu h2 (opd_sound hy h1 (tmon1 ht (by simp [IOp.opds]))))
    · cases hc
  · -- append
    rename_i t u rest x y hts hxs
    have h0 := list_fst hts
    have h1 := list_snd hts
    have hx := list_two hxs
    have he' : execOp a.eval o = (do pure (.value (← Builtin.append_ c.argTypes o.type #[a.eval x, a.eval y]))) := by rw [he, hx]; simp only [builtin, List.map_toArray, List.map_cons, List.map_nil]
    split at hc
    · rename_i e hu
      split at hc
      · rename_i k huk
        split at hc
        · rename_i sz by_ z xa ya q1 q2 q3 q4 q5
          cases hb : (Nat.beq (lenN z.cells) sz && Nat.ble 1 sz) with
          | false => rw [hb] at hc; simp at hc
          | true =>
            rw [hb] at hc; simp only [cond_true, Option.some.injEq] at hc; subst hc
            simp only [Bool.and_eq_true, beq_iff, ble_iff] at hb
            simp only [opv] at h
            obtain ⟨m, n, g1, g2, g3⟩ := o2_inv h
            exact done_e he' (appz_sound r hwf hf h0 hu h1 huk q1 q2 q3 hb.1 hb.2 g3 (opd_sound q4 g1 (tmon1 ht (by simp [IOp.opds]))) (opd_sound q5 g2 (tmon1 ht (by simp [IOp.opds]))))
        · cases hc
      · rename_i huk
        split at hc
        · rename_i by_ z xa ya q1 q2 q3 q4 q5
          cases hb : Nat.beq (lenN z.cells) 1 with
          | false => rw [hb] at hc; simp at hc
          | true =>
            rw [hb] at hc; simp only [cond_true, Option.some.injEq] at hc; subst hc
            simp only [beq_iff] at hb
            simp only [opv] at h
            obtain ⟨m, n, g1, g2, g3⟩ := o2_inv h
            exact done_e he' (app_sound r hwf hf h0 hu h1 huk (.inl rfl) q1 q2 q3 hb g3 (opd_sound q4 g1 (tmon1 ht (by simp [IOp.opds]))) (opd_sound q5 g2 (tmon1 ht (by simp [IOp.opds]))))
        · cases hc
      · rename_i k huk
        split at hc
        · rename_i sz by_ z xa ya q1 q2 q3 q4 q5
          cases hb : Nat.beq (lenN z.cells) sz with
          | false => rw [hb] at hc; simp at hc
          | true =>
            rw [hb] at hc; simp only [cond_true, Option.some.injEq] at hc; subst hc
            simp only [beq_iff] at hb
            simp only [opv] at h
            obtain ⟨m, n, g1, g2, g3⟩ := o2_inv h
            exact done_e he' (app_sound r hwf hf h0 hu h1 huk (.inr ⟨_, rfl⟩) q1 q2 q3 hb g3 (opd_sound q4 g1 (tmon1 ht (by simp [IOp.opds]))) (opd_sound q5 g2 (tmon1 ht (by simp [IOp.opds]))))
        · cases hc
      · cases hc
    · cases hc
  · -- copy
    split at hc
    · split at hc
      · cases hc; simp [opv] at h
      · cases hc
    · cases hc
  · -- delete
    rename_i t rest m k hts hxs
    have h0 := list_fst hts
    have hx := list_two hxs
    have he' : execOp a.eval o = (do pure (.value (← Builtin.delete_ c.argTypes o.type #[a.eval m, a.eval k]))) := by rw [he, hx]; simp only [builtin, List.map_toArray, List.map_cons, List.map_nil]
    split at hc
    · rename_i kt e hu
      split at hc
      · rename_i f ma ka q1 q2 q3
        cases hc
        simp only [opv] at h
        obtain ⟨x, y, g1, g2, g3⟩ := o2_inv h
        obtain ⟨rfl, w', g4, g5⟩ := md_sound (P := P) (ty := o.type) r h0 hu q1 g3 (opd_sound q2 g1 (tmon1 ht (by simp [IOp.opds]))) (opd_sound q3 g2 (tmon1 ht (by simp [IOp.opds])))
        exact done_v he' g4 g5 (undef_rel φ)
      · cases hc
    · cases hc
  · -- clear
    split at hc
    · split at hc
      · rename_i sz z xa q1 q2 q3
        cases hb : (Nat.beq (lenN z.cells) sz && Nat.ble 1 sz) with
        | false => rw [hb] at hc; simp at hc
        | true => rw [hb] at hc; simp only [cond_true, Option.some.injEq] at hc; subst hc; simp [opv] at h
      · cases hc
    · obtain ⟨y, hy, rfl⟩ := Option.map_eq_some_iff.1 hc; simp [opv] at h
    · cases hc
  · -- unsafe.SliceData
    rename_i x hxs
    have hx := list_one hxs
    have he' : execOp a.eval o = (do pure (.value (← Builtin.unsafeSliceData_ c.argTypes o.type #[a.eval x]))) := by rw [he, hx]; simp only [builtin, List.map_toArray, List.map_cons, List.map_nil]
    obtain ⟨y, hy, rfl⟩ := Option.map_eq_some_iff.1 hc
    simp only [opv] at h
    obtain ⟨u, h1, h2, h3⟩ := v1_inv h
    exact done_r r he' h3 (usd_sound h2 (opd_sound hy h1 (tmon1 ht (by simp [IOp.opds]))))
  · -- unsafe.String
    rename_i t rest x n hts hxs
    have h0 := list_fst hts
    have hx := list_two hxs
    have he' : execOp a.eval o = (do pure (.value (← Builtin.unsafeString_ c.argTypes o.type #[a.eval x, a.eval n]))) := by rw [he, hx]; simp only [builtin, List.map_toArray, List.map_cons, List.map_nil]
    split at hc
    · rename_i e hu
      split at hc
      · rename_i xa ya q1 q2 q3
        cases hc
        simp only [opv] at h
        obtain ⟨p, q, g1, g2, g3⟩ := o2_inv h
        exact done_e he' (ust_sound r h0 hu q1 g3 (opd_sound q2 g1 (tmon1 ht (by simp [IOp.opds]))) (opd_sound q3 g2 (tmon1 ht (by simp [IOp.opds]))))
      · cases hc
    · cases hc
  · -- min
    rename_i xs
    have he' : execOp a.eval o = (do pure (.value (← Builtin.min_ c.argTypes o.type (c.args.toList.map a.eval).toArray))) := by rw [he]; simp only [builtin]; rw [← List.map_toArray, Array.toArray_toList]
    obtain ⟨y, hy, rfl⟩ := Option.map_eq_some_iff.1 hc
    simp only [opv] at h
    obtain ⟨l, h1, h2, h3⟩ := vL_inv h
    exact done_r r he' h3 (mn_sound h2 (opds_sound hy h1 (tmonL ht (by simp [IOp.opds]))))
  · -- max
    rename_i xs
    have he' : execOp a.eval o = (do pure (.value (← Builtin.max_ c.argTypes o.type (c.args.toList.map a.eval).toArray))) := by rw [he]; simp only [builtin]; rw [← List.map_toArray, Array.toArray_toList]
    obtain ⟨y, hy, rfl⟩ := Option.map_eq_some_iff.1 hc
    simp only [opv] at h
    obtain ⟨l, h1, h2, h3⟩ := vL_inv h
    exact done_r r he' h3 (mx_sound h2 (opds_sound hy h1 (tmonL ht (by simp [IOp.opds]))))
  · cases hc

end
end Go.Proofs.YtoejmfiaaigpbaaGreatDoor.Ev

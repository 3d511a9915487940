/- Part of a verified evaluator of the model's code, generic over the program: a run of the evaluator that answers shows what the model's run answers. No conditions of its own. -/
import Derived.Test.YtoejmfiaaigpbaaGreatDoorEvOpsD
namespace Go.Proofs.YtoejmfiaaigpbaaGreatDoor.Ev

theorem firstCells_string {P : Program} {w : World} (z : Nat) (s : ByteArray) : (Builtin.firstCells z s.size (.string s)).run P w = .ok (s.data.toList.map fun b => Value.int .u8 (b.toNat : Int)).toArray w := by
  have e : (s.extract 0 s.size).data = s.data := by
    apply Array.ext'
    simp
  simp only [Builtin.firstCells, e, Sem.run_pure]
  congr 1
  apply Array.ext'; simp

theorem app_sound {P : Program} {w0 : World} {φ : Phi} {s s' : St} {w : World} (r : Rel P w0 φ s.get w) (hwf : Wf s) (hf1 : s.next < s'.next → φ s.next = none) {ts : Array TypeId} {t ty e u : TypeId} {d : TypeDesc} {esz bytes : Nat} {x y v z : AV} {x' y' : Value}
    (h0 : ts[0]? = some t) (ht : P.underlying t = some (.slice e)) (h1 : ts[1]? = some u) (hu : P.underlying u = some d) (hd' : d = .string ∨ ∃ c, d = .slice c) (hs : sizT P e = some esz) (hby : bytT P e = some bytes) (hz : zeroT P e = some z) (hzl : lenN z.cells = esz)
    (h : appV s e esz bytes x y = some (v, s')) (hx : VR φ x x') (hy : VR φ y y') :
    ∃ φ' a w', (Builtin.append_ ts ty #[x', y']).run P w = .ok a w' ∧ Step P w0 φ s w φ' s' w' ∧ VR φ' v a := by
  rw [lenN_eq] at hzl
  unfold appV at h
  have key : ∀ (n : Nat) (new : List AV), srcLen y = some n → srcCells s esz n y = some new → ∃ new', Src P w ts e esz y' n new' ∧ VRL φ new new' ∧ new.length = n * esz := by
    intro n new hn hc
    unfold srcLen at hn
    unfold srcCells at hc
    split at hn
    · cases hn; simp only [Option.some.injEq] at hc; subst hc
      simp only [VR] at hy; subst hy
      exact ⟨[], src_of h1 hu hd' hs rfl (run_firstCells_none _ _ _ _ _) (run_firstCells_none _ _ _ _ _), VRL.nil φ, by simp⟩
    · cases hn; simp only [Option.some.injEq] at hc; subst hc
      simp only [VR] at hy; obtain ⟨a, k, rfl⟩ := hy
      exact ⟨[], src_of h1 hu hd' hs rfl (run_firstCells_some w esz 0 a 0 k [] (by simp) (by simp)) (run_firstCells_some w.drew esz 0 a 0 k [] (by simp) (by simp)), VRL.nil φ, by simp⟩
    · rename_i id off len c
      simp only [Option.some.injEq] at hn; subst hn
      simp only at hc
      split at hc
      · rename_i t0 cs ex fz hg
        simp only [VR] at hy; obtain ⟨B, k, hB, rfl, _⟩ := hy
        obtain ⟨xs, hxs, g1, g2⟩ := first_sound (P := P) (len := len) (k := k) r hg hB hc
        exact ⟨xs, src_of h1 hu hd' hs rfl g1 g2, hxs, (cut_some hc).1⟩
      · rename_i cs hg
        simp only [VR] at hy; obtain ⟨B, k, hB, rfl, _⟩ := hy
        obtain ⟨xs, hxs, g1, g2⟩ := first_soundL (P := P) (len := len) (k := k) r hB (show loadC [] s (.ptr id off) (len * esz) = some new by simp only [loadC, hg]; exact hc)
        exact ⟨xs, src_of h1 hu hd' hs rfl g1 g2, hxs, (cut_some hc).1⟩
      · cases hc
    · rename_i l
      simp only [Option.some.injEq] at hn; subst hn
      cases hb : Nat.beq esz 1 with
      | false => simp only [hb, cond_false] at hc; cases hc
      | true =>
        simp only [hb, cond_true, Option.some.injEq] at hc; subst hc
        rw [beq_iff] at hb; subst hb
        simp only [VR] at hy; obtain ⟨bs, rfl, rfl⟩ := hy
        have hl : lenN (nats bs) = bs.size := by rw [lenN_eq, nats_length]
        rw [hl]
        refine ⟨bs.data.toList.map fun b => Value.int .u8 (b.toNat : Int), src_of h1 hu hd' hs rfl (firstCells_string _ bs) (firstCells_string _ bs), ?_, ?_⟩
        · rw [takeS_eq, List.take_of_length_le (by rw [nats_length]; exact Nat.le_refl _)]
          exact bytesV_vrl _
        · rw [takeS_eq, List.take_of_length_le (by rw [nats_length]; exact Nat.le_refl _), bytesV_length, nats_length]; omega
    · cases hn
  cases hn : srcLen y with
  | none => rw [hn] at h; simp at h
  | some n =>
    rw [hn] at h
    cases n with
    | zero =>
      simp only at h
      have hsrc : Src P w ts e esz y' 0 [] := by
        unfold srcLen at hn
        split at hn
        · simp only [VR] at hy; subst hy
          exact src_of h1 hu hd' hs rfl (run_firstCells_none _ _ _ _ _) (run_firstCells_none _ _ _ _ _)
        · simp only [VR] at hy; obtain ⟨a, k, rfl⟩ := hy
          exact src_of h1 hu hd' hs rfl (run_firstCells_some w esz 0 a 0 k [] (by simp) (by simp)) (run_firstCells_some w.drew esz 0 a 0 k [] (by simp) (by simp))
        · simp only [Option.some.injEq] at hn; subst hn
          simp only [VR] at hy; obtain ⟨B, k, hB, rfl, _⟩ := hy
          exact src_of h1 hu hd' hs rfl (run_firstCells_some w esz 0 _ 0 k [] (by simp) (by simp)) (run_firstCells_some w.drew esz 0 _ 0 k [] (by simp) (by simp))
        · simp only [VR] at hy; obtain ⟨bs, rfl, rfl⟩ := hy
          simp only [Option.some.injEq, lenN_eq, nats_length] at hn
          have hl : bs.data.toList = [] := by
            apply List.eq_nil_of_length_eq_zero
            have : bs.data.size = bs.size := rfl
            simp [this, hn]
          have e1 := fun w => firstCells_string (P := P) (w := w) esz bs
          rw [hl, hn] at e1
          exact src_of h1 hu hd' hs (by simp [Builtin.lenOf, hn]) (e1 w) (e1 w.drew)
        · cases hn
      obtain ⟨rfl, g1, g2⟩ := app0_sound (ty := ty) r h0 ht hsrc h hx
      exact ⟨φ, x', w, g1, Step.refl r, g2⟩
    | succ n =>
      simp only at h
      cases hc : srcCells s esz (Nat.succ n) y with
      | none => rw [hc] at h; simp at h
      | some new =>
        rw [hc] at h; simp only at h
        obtain ⟨new', src, g2, g3⟩ := key _ _ hn hc
        exact appW_sound r hwf hf1 h0 ht hs hby hz hzl src (by omega) g2 g3 h hx

theorem appz_sound {P : Program} {w0 : World} {φ : Phi} {s s' : St} {w : World} (r : Rel P w0 φ s.get w) (hwf : Wf s) (hf1 : s.next < s'.next → φ s.next = none) {ts : Array TypeId} {t ty e u : TypeId} {k : IntKind} {esz bytes : Nat} {x y v z : AV} {x' y' : Value}
    (h0 : ts[0]? = some t) (ht : P.underlying t = some (.slice e)) (h1 : ts[1]? = some u) (hu : P.underlying u = some (.int k)) (hs : sizT P e = some esz) (hby : bytT P e = some bytes) (hz : zeroT P e = some z) (hzl : lenN z.cells = esz) (he : 1 ≤ esz)
    (h : appzV s e esz bytes z.cells x y = some (v, s')) (hx : VR φ x x') (hy : VR φ y y') :
    ∃ φ' a w', (Builtin.append_ ts ty #[x', y']).run P w = .ok a w' ∧ Step P w0 φ s w φ' s' w' ∧ VR φ' v a := by
  obtain ⟨zx, hzr, hzv⟩ := run_zeroValue' hz
  rw [lenN_eq] at hzl
  have hzs : zx.cells.size = esz := by rw [← hzl, VRL.length (hzv φ).cells]; simp
  unfold appzV at h
  split at h
  · cases h
  · rename_i n
    simp only [VR] at hy; subst hy
    cases hb : (Nat.ble (Nat.mul (Nat.succ n) bytes) 281474976710656 && Nat.blt n 9223372036854775807) with
    | false => rw [hb] at h; simp at h
    | true =>
      rw [hb] at h; simp only [cond_true] at h
      simp only [Bool.and_eq_true, ble_iff, blt_iff] at hb
      have src := srcz_of (P := P) (w := w) (n := n + 1) h1 hu hs hby hzr hzs he (by omega) (by omega) hb.1
      refine appW_sound r hwf hf1 h0 ht hs hby hz hzl src (by omega) (VRL.reps (hzv φ).cells _) ?_ h hx
      rw [reps_length, hzl]
  · cases h

theorem cap_sound {P : Program} {w : World} {φ : Phi} {ts : Array TypeId} {ty t e : TypeId} {x v : AV} {x' : Value} (h0 : ts[0]? = some t) (ht : P.underlying t = some (.slice e)) (h : vCap x = some v) (hx : VR φ x x') :
    ∃ y, (Builtin.cap_ ts ty #[x']).run P w = .ok y w ∧ VR φ v y := by
  unfold vCap at h
  split at h
  · cases h; simp only [VR] at hx; subst hx
    exact ⟨goInt 0, by simp [Builtin.cap_, h0, run_underlying' ht], by simp only [VR]; rfl⟩
  · rename_i id off len n
    cases h; simp only [VR] at hx; obtain ⟨B, k, hB, rfl, rfl⟩ := hx
    exact ⟨goInt k, by simp [Builtin.cap_, h0, run_underlying' ht], by simp only [VR]; rfl⟩
  · cases h

end Go.Proofs.YtoejmfiaaigpbaaGreatDoor.Ev

/- Part of a verified evaluator of the model's code, generic over the program: a run of the evaluator that answers shows what the model's run answers. No conditions of its own. -/
import Derived.Test.YtoejmfiaaigpbaaGreatDoorEvOpsC
namespace Go.Proofs.YtoejmfiaaigpbaaGreatDoor.Ev

theorem grow_next {s s' : St} {e esz bytes need : Nat} {cs : List AV} {v : AV} (h : grow s e esz bytes cs need = some (v, s')) : s'.next = s.next + 1 := by
  unfold grow at h
  cases hb : (Nat.ble (Nat.mul (Nat.mul 2 need) bytes) 281474976710656 && Nat.ble 1 esz && Nat.blt need 9223372036854775808) with
  | false => rw [hb] at h; simp at h
  | true =>
    rw [hb] at h; simp only [cond_true, Option.some.injEq, Prod.mk.injEq] at h
    obtain ⟨_, rfl⟩ := h; rfl

theorem appW_sound {P : Program} {w0 : World} {φ : Phi} {s s' : St} {w : World} (r : Rel P w0 φ s.get w) (hwf : Wf s) (hf1 : s.next < s'.next → φ s.next = none) {ts : Array TypeId} {t ty e : TypeId} {esz bytes n : Nat} {x v z : AV} {x' y' : Value} {new : List AV} {new' : List Value}
    (h0 : ts[0]? = some t) (ht : P.underlying t = some (.slice e)) (hs : sizT P e = some esz) (hby : bytT P e = some bytes) (hz : zeroT P e = some z) (hzl : z.cells.length = esz) (src : Src P w ts e esz y' n new')
    (hn : 0 < n) (hnew : VRL φ new new') (hnl : new.length = n * esz) (h : appW s e esz bytes x n new = some (v, s')) (hx : VR φ x x') :
    ∃ φ' u w', (Builtin.append_ ts ty #[x', y']).run P w = .ok u w' ∧ Step P w0 φ s w φ' s' w' ∧ VR φ' v u := by
  obtain ⟨zx, hzr, hzv⟩ := run_zeroValue' hz
  have hzs : zx.cells.size = esz := by rw [← hzl, VRL.length (hzv φ).cells]; simp
  obtain ⟨i, hi, his⟩ := info_of_siz hs
  obtain ⟨i', hi', hib⟩ := run_bytes' hby
  rw [hi] at hi'; cases hi'
  unfold appW at h
  split at h
  · simp only [VR] at hx; subst hx
    have hf := hf1 (by rw [grow_next h]; omega)
    obtain ⟨φ', h1, h2, h3, h4⟩ := grow_sound (w := w) (xs := new'.toArray) (cap := grownCap w n 0 e) (z := zx.cells) r hwf hf h (by simpa using hnew) hnl hzs (grownCap_ge _ _ _ _)
    refine ⟨φ', _, _, ?_, h1, h2⟩
    have hg := src.grow t ty i zx none 0 0 #[] h0 ht hi his (hzr _) (by omega) (by omega) (by rw [Nat.zero_add]; exact sure_fits (by omega) (by rw [hib]; exact h3)) (run_firstCells_none _ _ _ _ _)
    rw [hg]; simp
  · rename_i id off len c
    split at h
    · rename_i t0 cs ex fz hg
      simp only [VR] at hx
      obtain ⟨B, k, hB, rfl, hk⟩ := hx
      have hptr : VR φ (.ptr id (Nat.add off (Nat.mul len esz))) (.pointer (some ⟨B.b, B.o + (off + len * esz), none⟩)) := by simp only [VR]; exact ⟨B, hB, rfl⟩
      have hadd : Addr.add ⟨B.b, B.o + off, none⟩ (len * esz) = ⟨B.b, B.o + (off + len * esz), none⟩ := by rw [add_lit]; congr 1; omega
      split at h
      · rename_i k'
        simp only at hk; subst hk
        cases hb : Nat.ble (Nat.add len n) k with
        | true =>
          rw [hb] at h; simp only [cond_true] at h
          cases hst : storeC s (.ptr id (Nat.add off (Nat.mul len esz))) new with
          | none => rw [hst] at h; simp at h
          | some s1 =>
            rw [hst] at h; simp only [Option.some.injEq, Prod.mk.injEq] at h
            obtain ⟨rfl, rfl⟩ := h
            obtain ⟨a, w', ea, h1, h2⟩ := storeC_sound (P := P) r hst hptr hnew
            cases ea
            refine ⟨φ, .slice (some ⟨B.b, B.o + off, none⟩) (len + n) k, w', ?_, h2, ?_⟩
            · rw [src.stay t ty (some _) len k h0 ht (ble_iff.1 hb)]
              simp only [hadd, h1, Result.andThen_ok]
            · simp only [VR]; exact ⟨B, k, hB, rfl, rfl⟩
        | false =>
          rw [hb] at h; simp only [cond_false] at h
          have hlt : k < len + n := by
            apply Nat.lt_of_not_le; intro hh; rw [show Nat.ble (Nat.add len n) k = true from ble_iff.2 hh] at hb; cases hb
          cases hc : cut cs off (Nat.mul len esz) with
          | none => rw [hc] at h; simp at h
          | some old =>
            rw [hc] at h; simp only at h
            have hf := hf1 (by rw [grow_next h]; omega)
            obtain ⟨xs, hxs, _, hfd⟩ := first_sound (len := len) (k := k) r hg hB hc
            have hol := (cut_some hc).1
            obtain ⟨φ', h1, h2, h3, h4⟩ := grow_sound (w := w) (xs := xs.toArray ++ new'.toArray) (cap := grownCap w (len + n) k e) (z := zx.cells) r hwf hf h (by simpa using VRL.append hxs hnew) (by rw [List.length_append, hol, hnl]; show len * esz + n * esz = (len + n) * esz; rw [Nat.add_mul]) hzs (grownCap_ge _ _ _ _)
            refine ⟨φ', _, _, ?_, h1, h2⟩
            exact src.grow t ty i zx (some _) len k xs.toArray h0 ht hi his (hzr _) hlt h4 (sure_fits hlt (by rw [hib]; exact h3)) hfd
      · rename_i esz'
        simp only at hk
        obtain ⟨he, hk, hlk, hot⟩ := hk
        cases hb : (Nat.beq esz esz' && ex && !fz) with
        | false => rw [hb] at h; simp at h
        | true =>
          rw [hb] at h; simp only [cond_true] at h
          simp only [Bool.and_eq_true, beq_iff, Bool.not_eq_true'] at hb
          obtain ⟨⟨rfl, rfl⟩, rfl⟩ := hb
          obtain ⟨B', hB', c, fr, g1, g2, g3, g4, g5, g6, g7⟩ := r.obj id _ hg
          rw [hB] at hB'; cases hB'
          cases hb2 : Nat.ble (Nat.add off (Nat.mul (Nat.add len n) esz)) (lenN cs) with
          | true =>
            rw [hb2] at h; simp only [cond_true] at h
            rw [ble_iff, lenN_eq] at hb2
            have hb2' : off + (len + n) * esz ≤ cs.length := hb2
            have hle : len + n ≤ k := by rw [hk, Nat.le_div_iff_mul_le he]; omega
            cases hst : storeC s (.ptr id (Nat.add off (Nat.mul len esz))) new with
            | none => rw [hst] at h; simp at h
            | some s1 =>
              rw [hst] at h; simp only [Option.some.injEq, Prod.mk.injEq] at h
              obtain ⟨rfl, rfl⟩ := h
              obtain ⟨a, w', ea, h1, h2⟩ := storeC_sound (P := P) r hst hptr hnew
              cases ea
              refine ⟨φ, .slice (some ⟨B.b, B.o + off, none⟩) (len + n) k, w', ?_, h2, ?_⟩
              · rw [src.stay t ty (some _) len k h0 ht hle]
                simp only [hadd, h1, Result.andThen_ok]
              · simp only [VR]; exact ⟨B, k, hB, rfl, he, hk, hle, hot⟩
          | false =>
            rw [hb2] at h; simp only [cond_false] at h
            cases hb3 : (allScal new && Nat.beq t0 e) with
            | false => rw [hb3] at h; simp at h
            | true =>
              rw [hb3] at h; simp only [cond_true] at h
              simp only [Bool.and_eq_true, beq_iff] at hb3
              obtain ⟨hsc, rfl⟩ := hb3
              cases hc : cut cs off (Nat.mul len esz) with
              | none => rw [hc] at h; simp at h
              | some old =>
                rw [hc] at h; simp only at h
                have hf := hf1 (by rw [grow_next h]; exact Nat.lt_succ_self _)
                obtain ⟨xs, hxs, _, hfd⟩ := first_sound (len := len) (k := k) r hg hB hc
                obtain ⟨hol, hcb, hold⟩ := cut_some hc
                have hol' : old.length = len * esz := hol
                have hlen : (old ++ new).length = (len + n) * esz := by rw [List.length_append, hol', hnl, Nat.add_mul]
                by_cases hle : len + n ≤ k
                · -- it stays
                  have hxl := VRL.length hnew
                  have hfit : (len + n) * esz ≤ B.tot - off := by rw [hk, Nat.le_div_iff_mul_le he] at hle; exact hle
                  have hmul : (len + n) * esz = len * esz + n * esz := Nat.add_mul _ _ _
                  have hrun := run_storeCells_cells (P := P) B.b (B.o + (off + len * esz)) new' 0 w
                    (fun j hj => by rw [cell_block g1]; simp; omega)
                    (fun j hj => by
                      rw [frozen_block g1]
                      have := g7 rfl (B.o + (off + len * esz) + 0 + j) (by omega)
                      simp at this ⊢; exact this)
                    (allScal_oneCell hnew hsc)
                  obtain ⟨f1, f2, f3, f4, f5⟩ := setCells_facts new' w B.b (B.o + (off + len * esz) + 0)
                  obtain ⟨c', k1, k2⟩ := setCells_in new' w B.b (B.o + (off + len * esz) + 0) c t0 fr g1 (by omega)
                  have hsz : c'.size = c.size := by rw [← Array.length_toList, k2]; simp; omega
                  unfold grow at h
                  cases hb4 : (Nat.ble (Nat.mul (Nat.mul 2 (Nat.add len n)) bytes) 281474976710656 && Nat.ble 1 esz && Nat.blt (Nat.add len n) 9223372036854775808) with
                  | false => rw [hb4] at h; simp at h
                  | true =>
                    rw [hb4] at h; simp only [cond_true, Option.some.injEq, Prod.mk.injEq] at h
                    obtain ⟨rfl, rfl⟩ := h
                    have hsub := Phi.set_sub (B := ⟨B.b, B.o + off, B.tot - off⟩) hf
                    refine ⟨_, .slice (some ⟨B.b, B.o + off, none⟩) (len + n) k, _, ?_, Step.move r hf (B' := ⟨B.b, B.o + off, B.tot - off⟩) hg hB rfl f5 f1 f2 f3 f4 ?_, ?_⟩
                    · rw [src.stay t ty (some _) len k h0 ht hle]
                      simp only [hadd, hrun, Result.andThen_ok]
                    · refine ⟨c', fr, k1, by simp only; omega, by simp only; rw [hlen]; exact hfit, (fun h => by cases h), ?_, g6, fun _ => by rw [hsz]; exact g7 rfl⟩
                      simp only
                      have key : (c'.toList.drop (B.o + off)).take (old ++ new).length = (((c.toList.drop B.o).take cs.length).drop off).take (len * esz) ++ new' := by
                        rw [k2, hlen, hmul]
                        have hp : B.o + (off + len * esz) + 0 = B.o + off + len * esz := by omega
                        rw [hp, List.append_assoc, List.drop_append_of_le_length (by simp; omega), List.drop_take]
                        have a1 : B.o + off + len * esz - (B.o + off) = len * esz := by omega
                        rw [a1, List.take_append]
                        have a2 : ((c.toList.drop (B.o + off)).take (len * esz)).length = len * esz := by simp; omega
                        rw [a2, List.take_append]
                        have a3 : len * esz + n * esz - len * esz = n * esz := by omega
                        have a4 : n * esz - new'.length = 0 := by omega
                        rw [a3, a4, List.take_zero, List.append_nil]
                        congr 1
                        · rw [List.take_take, Nat.min_eq_right (by omega), List.drop_take, List.drop_drop, List.take_take]
                          congr 1
                          have hcb' : off + len * esz ≤ cs.length ∨ len * esz = 0 := hcb
                          omega
                        · exact List.take_of_length_le (by omega)
                      rw [key]
                      have hco := VRL.cut g5 hc
                      exact VRL.append (VRL.mono hsub _ _ hco) (VRL.mono hsub _ _ hnew)
                    · simp only [VR]
                      exact ⟨⟨B.b, B.o + off, B.tot - off⟩, k, by simp [Phi.set, St.del], by simp, he, by simpa using hk, hle, Nat.zero_le _⟩
                · have hlt : k < len + n := by omega
                  have hd := Step.del r id hg
                  obtain ⟨φ', h1, h2, h3, h4⟩ := grow_sound (w := w) (xs := xs.toArray ++ new'.toArray) (cap := grownCap w (len + n) k t0) (z := zx.cells) hd.rel (hd.ext.wf hwf) hf h (by simpa using VRL.append hxs hnew) hlen hzs (grownCap_ge _ _ _ _)
                  refine ⟨φ', _, _, ?_, Step.trans hwf hd h1, h2⟩
                  exact src.grow t ty i zx (some _) len k xs.toArray h0 ht hi his (hzr _) hlt h4 (sure_fits hlt (by rw [hib]; exact h3)) hfd
    · cases h
  · cases h

end Go.Proofs.YtoejmfiaaigpbaaGreatDoor.Ev

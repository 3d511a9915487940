/- Part of a verified evaluator of the model's code, generic over the program: a run of the evaluator that answers shows what the model's run answers. No conditions of its own. -/
import Derived.Test.YtoejmfiaaigpbaaGreatDoorEvOps9
namespace Go.Proofs.YtoejmfiaaigpbaaGreatDoor.Ev

theorem freeze_out {w : World} {a : Addr} {n k : Nat} (h : k ≠ a.block) : (w.freeze a n).heap[k]? = w.heap[k]? := by
  unfold World.freeze
  split
  · rfl
  · simp [Array.getElem?_modify, Ne.symm h]
theorem freeze_facts {w : World} {a : Addr} {n : Nat} : (w.freeze a n).heap.size = w.heap.size ∧ (w.freeze a n).os = w.os ∧ (w.freeze a n).tape = w.tape ∧ (w.freeze a n).output = w.output := by
  unfold World.freeze
  split
  · exact ⟨rfl, rfl, rfl, rfl⟩
  · exact ⟨by simp, rfl, rfl, rfl⟩
theorem freeze_in {w : World} {a : Addr} {n : Nat} {c : Array Value} {e : TypeId} {fr : Nat × Nat} (hn : n ≠ 0) (h : w.heap[a.block]? = some (.cells c e fr)) :
    (w.freeze a n).heap[a.block]? = some (.cells c e (if fr.1 == fr.2 then (a.off, a.off + n) else (min fr.1 a.off, max fr.2 (a.off + n)))) := by
  unfold World.freeze
  rw [if_neg hn]
  simp [Array.getElem?_modify, h]

/-- marking the end of a row freezes none of its cells, if none was frozen -/
theorem mark_end {n : Nat} {fr : Nat × Nat} (hle : fr.1 ≤ fr.2) (h : ∀ i, i < n → ¬ (fr.1 ≤ i ∧ i < fr.2)) :
    ∀ i, i < n → ¬ ((if fr.1 == fr.2 then (n, n + 1) else (min fr.1 n, max fr.2 (n + 1))).1 ≤ i ∧ i < (if fr.1 == fr.2 then (n, n + 1) else (min fr.1 n, max fr.2 (n + 1))).2) := by
  intro i hi
  by_cases e : fr.1 = fr.2
  · rw [show (fr.1 == fr.2) = true from by simpa using e]; simp; omega
  · rw [show (fr.1 == fr.2) = false from by simpa using e]
    simp only [Bool.false_eq_true, if_false]
    intro ⟨h1, h2⟩
    have hlt : fr.1 < fr.2 := by omega
    by_cases h3 : fr.1 < n
    · exact h fr.1 h3 ⟨Nat.le_refl _, hlt⟩
    · simp only [Nat.min_def] at h1
      split at h1 <;> omega
theorem mark_le {a n : Nat} {fr : Nat × Nat} (hle : fr.1 ≤ fr.2) : (if fr.1 == fr.2 then (a, a + n) else (min fr.1 a, max fr.2 (a + n))).1 ≤ (if fr.1 == fr.2 then (a, a + n) else (min fr.1 a, max fr.2 (a + n))).2 := by
  by_cases e : fr.1 = fr.2
  · rw [show (fr.1 == fr.2) = true from by simpa using e]; simp
  · rw [show (fr.1 == fr.2) = false from by simpa using e]
    simp only [Bool.false_eq_true, if_false]
    omega

/-- the mark at a row's end -/
theorem run_markStringish {P : Program} {w0 : World} {φ : Phi} {s : St} {w : World} (r : Rel P w0 φ s.get w) {id : Nat} {B : Blk} {e : Nat} {cells : List AV} {ext fz : Bool} (hg : s.get id = some (.row e cells ext fz)) (hB : φ id = some B) (off : Nat) :
    ∃ w', (markStringish ⟨B.b, off, none⟩).run P w = .ok () w' ∧ Step P w0 φ s w φ (s.put id (.row e cells ext fz)) w' := by
  obtain ⟨B', hB', c, fr, h1, h2, h3, h4, h5, h6, h7⟩ := r.obj id _ hg
  rw [hB] at hB'; cases hB'
  have hsh : w.shape? B.b = some (e, c.size) := by simp [World.shape?, h1]
  refine ⟨w.freeze { block := B.b, off := c.size } 1, by simp [markStringish, hsh], ?_⟩
  obtain ⟨f1, f2, f3, f4⟩ := freeze_facts (w := w) (a := { block := B.b, off := c.size }) (n := 1)
  refine Step.put r hg hB (fun b hb => freeze_out hb) f1 f2 f3 f4 ?_
  have hin := freeze_in (w := w) (a := { block := B.b, off := c.size }) (n := 1) (by omega) h1
  exact ⟨c, _, hin, h2, h3, h4, h5, mark_le h6, fun hz => mark_end h6 (h7 hz)⟩

theorem cbb_sound {P : Program} {w0 : World} {φ : Phi} {st st' : St} {w : World} (r : Rel P w0 φ st.get w) {s e e' : TypeId} {x v : AV} {x' : Value} (hs : P.underlying s = some (.slice e)) (he : P.underlying e = some (.int .u8))
    (h : oCbb st x = some (v, st')) (hx : VR φ x x') : ∃ w', (convert s s x').run P w = .ok x' w' ∧ Step P w0 φ st w φ st' w' ∧ VR φ v x' := by
  unfold oCbb at h
  split at h
  · rename_i id off len c
    split at h
    · rename_i t cells ext fz hg
      simp only [Option.some.injEq, Prod.mk.injEq] at h
      obtain ⟨rfl, rfl⟩ := h
      have hx' := hx
      simp only [VR] at hx
      obtain ⟨B, k, hB, rfl, _⟩ := hx
      obtain ⟨w', h1, h2⟩ := run_markStringish r hg hB (B.o + off)
      refine ⟨w', ?_, h2, hx'⟩
      simp [convert, run_underlying' hs, run_underlying' he, h1]
    · cases h
  · cases h

theorem pushed_row {w : World} {x : Obj} : (w.heap.push x).size = w.heap.size + 1 := by simp

theorem csb_sound {P : Program} {w0 : World} {φ : Phi} {st st' : St} {w : World} (r : Rel P w0 φ st.get w) (hwf : Wf st) (hf : φ st.next = none) {s d e : TypeId} {x v : AV} {x' : Value} (hs : P.underlying s = some .string) (hd : P.underlying d = some (.slice e)) (he : P.underlying e = some (.int .u8))
    (h : oCsb st e x = some (v, st')) (hx : VR φ x x') : ∃ φ' y w', (convert s d x').run P w = .ok y w' ∧ Step P w0 φ st w φ' st' w' ∧ VR φ' v y := by
  unfold oCsb at h
  split at h
  · rename_i t
    simp only [VR] at hx
    obtain ⟨bs, rfl, rfl⟩ := hx
    cases hb : Nat.blt (lenN (nats bs)) 9223372036854775808 with
    | false => rw [hb] at h; simp at h
    | true =>
      rw [hb] at h; simp only [cond_true, Option.some.injEq, Prod.mk.injEq] at h
      obtain ⟨rfl, rfl⟩ := h
      rw [blt_iff] at hb
      simp only [lenN_eq, nats_length] at hb ⊢
      obtain ⟨q, hq⟩ : ∃ q, q = Question.appendCap bs.size 0 e := ⟨_, rfl⟩
      obtain ⟨cp, hcp⟩ : ∃ cp, cp = q.cut (w.tape w.drawn q) := ⟨_, rfl⟩
      have hge : bs.size ≤ cp := by rw [hcp, hq]; simp [Question.cut]
      obtain ⟨row, hrow⟩ : ∃ row : Array Value, row = (bs.data.map fun b => Value.int .u8 (b.toNat : Int)) ++ Array.replicate (cp - bs.size) (.int .u8 0) := ⟨_, rfl⟩
      have hrs : row.size = cp := by rw [hrow]; simp; have : bs.data.size = bs.size := rfl; omega
      obtain ⟨w1, hw1⟩ : ∃ w1 : World, w1 = { w with heap := w.heap.push (.cells row e), drawn := w.drawn + 1 } := ⟨_, rfl⟩
      have hh1 : w1.heap = w.heap.push (.cells row e) := by rw [hw1]
      have hsub := Phi.set_sub (B := ⟨w.heap.size, 0, cp⟩) hf
      have hnew : w1.heap[w.heap.size]? = some (.cells row e (0, 0)) := by rw [hh1]; simp
      have hst : Step P w0 φ st w (φ.set st.next ⟨w.heap.size, 0, cp⟩) (st.alloc (.row e (bytesV (nats bs)) true false)) w1 := by
        refine Step.alloc r hwf hf hh1 (by rw [hw1]) (by rw [hw1]) (by rw [hw1]) ?_
        refine ⟨row, (0, 0), hnew, by rw [hrs]; simp, by rw [bytesV_length, nats_length]; exact hge, (fun h => by cases h), ?_, Nat.le_refl _, fun _ i _ => by simp⟩
        have e1 : (row.toList.drop 0).take (bytesV (nats bs)).length = bs.data.toList.map fun b => Value.int .u8 (b.toNat : Int) := by
          rw [bytesV_length, nats_length, hrow]
          simp only [List.drop_zero, Array.toList_append, Array.toList_map]
          rw [List.take_append_of_le_length (by simp)]
          rw [List.take_of_length_le (by simp)]
        rw [e1]
        exact bytesV_vrl _
      -- the mark
      obtain ⟨w2, hm, hstep2⟩ : ∃ w2, (markStringish ⟨w.heap.size, 0, none⟩).run P w1 = .ok () w2 ∧ Step P w0 φ st w (φ.set st.next ⟨w.heap.size, 0, cp⟩) (st.alloc (.row e (bytesV (nats bs)) true false)) w2 := by
        have hsh : w1.shape? w.heap.size = some (e, row.size) := by simp [World.shape?, hnew]
        refine ⟨w1.freeze { block := w.heap.size, off := row.size } 1, by simp [markStringish, hsh], ?_⟩
        obtain ⟨f1, f2, f3, f4⟩ := freeze_facts (w := w1) (a := { block := w.heap.size, off := row.size }) (n := 1)
        have hin := freeze_in (w := w1) (a := { block := w.heap.size, off := row.size }) (n := 1) (by omega) hnew
        have hout : ∀ b, b ≠ w.heap.size → (w1.freeze { block := w.heap.size, off := row.size } 1).heap[b]? = w1.heap[b]? := fun b hb => freeze_out hb
        refine ⟨hst.ext, ⟨⟨f2.trans hst.rel.base.os, f3.trans hst.rel.base.tape, f4.trans hst.rel.base.output, by rw [f1]; exact hst.rel.base.size, fun k hk => (hout k (by have := r.base.size; omega)).trans (hst.rel.base.block k hk)⟩, ?_, ?_, hst.rel.old, hst.rel.inj⟩, hst.same, by rw [f1]; exact hst.size, ?_, hst.own⟩
        · intro id o hg
          obtain ⟨B, hB, t⟩ := hst.rel.obj id o hg
          refine ⟨B, hB, ?_⟩
          by_cases e2 : B.b = w.heap.size
          · -- it is the new row
            have hid : id = st.next := by
              by_cases e3 : id = st.next
              · exact e3
              · exfalso
                rw [show (φ.set st.next _) id = φ id from if_neg e3] at hB
                have := (r.rng id B hB); omega
            subst hid
            have ho : o = .row e (bytesV (nats bs)) true false := by
              have := get_some hg
              rw [show (st.alloc _).objs = st.objs.set st.next _ from rfl, Trie.get_set_same] at this
              exact (Option.some.inj this).symm
            subst ho
            obtain ⟨c, fr, g1, g2, g3, g4, g5, g6, g7⟩ := t
            rw [e2] at g1
            rw [hnew] at g1
            cases g1
            refine ⟨row, _, by rw [e2]; exact hin, g2, g3, g4, g5, mark_le g6, fun hz => mark_end g6 (g7 hz)⟩
          · exact t.keep (fun _ _ h => h) (hout _ e2)
        · intro id B hB; rw [f1]; exact hst.rel.rng id B hB
        · intro b hb H
          exact (hout b (by omega)).trans (hst.frame b hb H)
      refine ⟨_, .slice (some ⟨w.heap.size, 0, none⟩) bs.size cp, w2, ?_, hstep2, ?_⟩
      · have hforced : q.forced = false := by rw [hq]; rfl
        simp only [convert, Sem.run_bind, run_underlying' hs, run_underlying' hd, run_underlying' he, Result.andThen_ok, Conv.stringToBytes, run_choose]
        rw [← hq, hforced]
        simp only [Bool.false_eq_true, if_false, Result.andThen_ok, ← hcp]
        have hnr : (newRow e ((bs.data.map fun b => Value.int .u8 (b.toNat : Int)) ++ Array.replicate (cp - bs.size) (.int .u8 0))).run P { w with drawn := w.drawn + 1 } = .ok ⟨w.heap.size, 0, none⟩ w1 := by
          rw [run_newRow, hw1, hrow]
        rw [hnr]
        simp only [Result.andThen_ok, hm, Sem.run_pure]
      · simp only [VR]
        refine ⟨⟨w.heap.size, 0, cp⟩, cp, by simp [Phi.set], by simp, by omega, by simp, hge, Nat.zero_le _⟩
  · cases h

end Go.Proofs.YtoejmfiaaigpbaaGreatDoor.Ev

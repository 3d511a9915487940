/- Part of a verified evaluator of the model's code, generic over the program: a run of the evaluator that answers shows what the model's run answers. No conditions of its own. -/
import Derived.Test.YtoejmfiaaigpbaaGreatDoorEvOpsB
import Derived.Laws.Append
namespace Go.Proofs.YtoejmfiaaigpbaaGreatDoor.Ev

/-! ### A block left, a block under a new number -/
theorem Step.del {P : Program} {w0 : World} {φ : Phi} {s : St} {w : World} (r : Rel P w0 φ s.get w) (id : Nat) {o : AObj} (hgd : s.get id = some o) (hng : isGiv o = false := by rfl) : Step P w0 φ s w φ (s.del id) w := by
  have hget : ∀ i o, (s.del id).get i = some o → s.get i = some o := fun i o h => by
    have h1 := get_some h
    have h2 := seen_of_get h
    rw [seen_congr (s := s) (s' := s.del id) rfl rfl] at h2
    rw [show (s.del id).objs = s.objs.del id from rfl, Trie.get_del] at h1
    by_cases e : i = id
    · rw [if_pos e] at h1; cases h1
    · rw [if_neg e] at h1; rw [get_eq, h2]; exact h1
  exact ⟨ext_del s id (get_some hgd) (seen_of_get hgd) hng, r.sub hget, fun _ _ => rfl, Nat.le_refl _, fun _ _ _ => rfl, fun i B h1 h2 => absurd (show i < s.next from h2) (by omega)⟩

theorem Step.move {P : Program} {w0 : World} {φ : Phi} {s : St} {w w' : World} (r : Rel P w0 φ s.get w) (hf : φ s.next = none) {id : Nat} {o o' : AObj} {B B' : Blk} (hg : s.get id = some o) (hB : φ id = some B) (hbb : B'.b = B.b)
    (hother : ∀ b, b ≠ B.b → w'.heap[b]? = w.heap[b]?) (hsz : w'.heap.size = w.heap.size) (hos : w'.os = w.os) (ht : w'.tape = w.tape) (hu : w'.output = w.output)
    (ho : ObjRel P (φ.set s.next B') w' o' B') (hng : isGiv o = false := by rfl) : Step P w0 φ s w (φ.set s.next B') ((s.del id).alloc o') w' := by
  have hsub := Phi.set_sub (B := B') hf
  have hnew := r.new hg hB hng
  have hext := (ext_del s id (get_some hg) (seen_of_get hg) hng).trans (ext_alloc (s.del id) o')
  have hget : ∀ i x, ((s.del id).alloc o').get i = some x → (i = s.next ∧ x = o') ∨ (i ≠ s.next ∧ i ≠ id ∧ s.get i = some x) := fun i x hx => by
    have h1 := get_some hx
    have h2 := seen_of_get hx
    rw [seen_congr (s := s) (s' := (s.del id).alloc o') rfl rfl] at h2
    rw [show ((s.del id).alloc o').objs = (s.objs.del id).set s.next o' from rfl, Trie.get_set] at h1
    by_cases e : i = s.next
    · rw [if_pos e] at h1; exact .inl ⟨e, by cases h1; rfl⟩
    · rw [if_neg e, Trie.get_del] at h1
      by_cases e2 : i = id
      · rw [if_pos e2] at h1; cases h1
      · rw [if_neg e2] at h1
        exact .inr ⟨e, e2, by rw [get_eq, h2]; exact h1⟩
  have hne : id ≠ s.next := fun e => by rw [e, hf] at hB; cases hB
  have hmk : ((s.del id).alloc o').wm.testBit id = true := by show (mark s.wm id).testBit id = true; rw [testBit_mark]; simp
  refine ⟨hext, ⟨?_, ?_, ?_, ?_, ?_⟩, ?_, by omega, ?_, ?_⟩
  · refine ⟨hos.trans r.base.os, ht.trans r.base.tape, hu.trans r.base.output, by have := r.base.size; omega, fun k hk => ?_⟩
    exact (hother k (by omega)).trans (r.base.block k hk)
  · intro i x hx
    rcases hget i x hx with ⟨rfl, rfl⟩ | ⟨e, e2, hg'⟩
    · exact ⟨B', by simp [Phi.set], ho⟩
    · obtain ⟨B1, hB1, t⟩ := r.obj i x hg'
      exact ⟨B1, hsub _ _ hB1, t.keep hsub (hother _ (fun e' => (r.inj i id x o B1 B hg' hg hB1 hB e').elim e2 (fun h => by omega)))⟩
  · intro i B1 hB1
    unfold Phi.set at hB1
    by_cases e : i = s.next
    · rw [if_pos e] at hB1; cases hB1; rw [hbb, hsz]; exact r.rng id B hB
    · rw [if_neg e] at hB1; rw [hsz]; exact r.rng i B1 hB1
  · intro i x B1 hx hB1 hlt
    rcases hget i x hx with ⟨rfl, rfl⟩ | ⟨e, e2, hg'⟩
    · rw [show (φ.set s.next _) s.next = some B' from if_pos rfl] at hB1; cases hB1; omega
    · rw [show (φ.set s.next _) i = φ i from if_neg e] at hB1
      exact r.old i x B1 hg' hB1 hlt
  · intro i i' x x' B1 B2 h1 h2 hB1 hB2 e
    rcases hget i x h1 with ⟨rfl, rfl⟩ | ⟨n1, m1, g1⟩ <;> rcases hget i' x' h2 with ⟨rfl, rfl⟩ | ⟨n2, m2, g2⟩
    · exact .inl rfl
    · rw [show (φ.set s.next _) s.next = some B' from if_pos rfl] at hB1; cases hB1
      rw [show (φ.set s.next _) i' = φ i' from if_neg n2] at hB2
      exact (r.inj i' id x' o B2 B g2 hg hB2 hB (e.symm.trans hbb)).elim (fun h => absurd h m2) (fun h => by omega)
    · rw [show (φ.set s.next _) s.next = some B' from if_pos rfl] at hB2; cases hB2
      rw [show (φ.set s.next _) i = φ i from if_neg n1] at hB1
      exact (r.inj i id x o B1 B g1 hg hB1 hB (e.trans hbb)).elim (fun h => absurd h m1) (fun h => .inr h)
    · rw [show (φ.set s.next _) i' = φ i' from if_neg n2] at hB2
      rw [show (φ.set s.next _) i = φ i from if_neg n1] at hB1
      exact r.inj i i' x x' B1 B2 g1 g2 hB1 hB2 e
  · intro i hi
    have hi' : i < s.next ∨ s.next + 1 ≤ i := hi
    exact if_neg (by omega)
  · intro b hb H
    apply hother
    intro e
    have := H id o B hg hB e.symm
    rw [hmk] at this; cases this
  · intro i B1 h1 h2 hB1
    have h2' : i < s.next + 1 := h2
    have e : i = s.next := by omega
    subst e
    rw [show (φ.set s.next _) s.next = some B' from if_pos rfl] at hB1; cases hB1
    exact .inr ⟨id, o, B, hg, hB, hbb.symm, hmk⟩

/-! ### What append does -/
/-- the second argument: how many, and which cells -/
structure Src (P : Program) (w : World) (ts : Array TypeId) (e : TypeId) (size : Nat) (x : Value) (n : Nat) (new : List Value) : Prop where
  stay : ∀ (t ty : TypeId) (base : Option Addr) (sLen sCap : Nat), ts[0]? = some t → P.underlying t = some (.slice e) → sLen + n ≤ sCap →
    (Builtin.append_ ts ty #[.slice base sLen sCap, x]).run P w = (match base with
      | none => .ok (.slice none (sLen + n) sCap) w
      | some a => ((storeCells (a.add (sLen * size)) new).run P w).andThen fun _ w' => .ok (.slice (some a) (sLen + n) sCap) w')
  grow : ∀ (t ty : TypeId) (i : TypeInfo) (z : Value) (base : Option Addr) (sLen sCap : Nat) (old : Array Value), ts[0]? = some t → P.underlying t = some (.slice e) → P.info? e = some i → i.size = size → (zeroValue e).run P w.drew = .ok z w.drew → sCap < sLen + n → (sLen + n : Nat) < 9223372036854775808 →
    Builtin.nextslicecap (sLen + n) sCap * i.bytes ≤ 281474976710656 → (Builtin.firstCells size sLen (.slice base sLen sCap)).run P w.drew = .ok old w.drew →
    (Builtin.append_ ts ty #[.slice base sLen sCap, x]).run P w =
      .ok (.slice (some ⟨w.heap.size, 0, none⟩) (sLen + n) (grownCap w (sLen + n) sCap e)) (w.drew.alloc (.cells (old ++ new.toArray ++ Builtin.zeroCells z.cells (grownCap w (sLen + n) sCap e - (sLen + n))) e))

theorem src_of {P : Program} {w : World} {ts : Array TypeId} {u e : TypeId} {d : TypeDesc} {size n : Nat} {x : Value} {new : List Value} (h1 : ts[1]? = some u) (hu : P.underlying u = some d) (hd : d = .string ∨ ∃ c, d = .slice c) (hsz : sizT P e = some size)
    (hl : (Builtin.lenOf x) = pure n) (hw : (Builtin.firstCells size n x).run P w = .ok new.toArray w) (hwd : (Builtin.firstCells size n x).run P w.drew = .ok new.toArray w.drew) : Src P w ts e size x n new := by
  constructor
  · intro t ty base sLen sCap h0 ht hle
    rcases hd with rfl | ⟨c, rfl⟩
    · cases base <;> simp [Builtin.append_, h0, h1, run_underlying' ht, run_underlying' hu, run_sizeOf' hsz, hl, hle, hw]
    · cases base <;> simp [Builtin.append_, h0, h1, run_underlying' ht, run_underlying' hu, run_sizeOf' hsz, hl, hle, hw]
  · intro t ty i z base sLen sCap old h0 ht hi his hzv hlt h63 hfit hold
    have hn : ¬ (sLen + n ≤ sCap) := by omega
    have h63' : ¬ (9223372036854775807 < ((sLen : Int) + (n : Int))) := by omega
    have h48' : ¬ (281474976710656 < Builtin.nextslicecap (sLen + n) sCap * i.bytes) := by omega
    have hti := fun w' => run_typeInfo' (P := P) (w := w') hi
    rcases hd with rfl | ⟨c, rfl⟩
    · simp [Builtin.append_, h0, h1, run_underlying' ht, run_underlying' hu, run_sizeOf' hsz, hl, hn, h63', h48', hti, Question.forced, hold, hwd, hzv, newRow, grownCap]
    · simp [Builtin.append_, h0, h1, run_underlying' ht, run_underlying' hu, run_sizeOf' hsz, hl, hn, h63', h48', hti, Question.forced, hold, hwd, hzv, newRow, grownCap]

theorem srcz_of {P : Program} {w : World} {ts : Array TypeId} {u e : TypeId} {k : IntKind} {size b n : Nat} {z : Value} (h1 : ts[1]? = some u) (hu : P.underlying u = some (.int k)) (hsz : sizT P e = some size) (hby : bytT P e = some b)
    (hz : ∀ w, (zeroValue e).run P w = .ok z w) (hzl : z.cells.size = size) (hs1 : 1 ≤ size) (hn0 : 0 < n) (hn : n < 9223372036854775808) (hb : n * b ≤ 281474976710656) : Src P w ts e size (.int .i64 (n : Int)) n (List.replicate n z.cells.toList).flatten := by
  obtain ⟨i, hi, hib⟩ := run_bytes' hby
  have hti := fun w' => run_typeInfo' (P := P) (w := w') hi
  have w1 : IntKind.i64.wrap (n : Int) = (n : Int) := wrap_small .i64 n (by simp only [topN]; omega)
  have hneg : ¬ ((n : Int) < 0) := by omega
  have hmul : ¬ (281474976710656 < (n : Int) * (i.bytes : Int)) := by
    have e1 : (n : Int) * (i.bytes : Int) = ((n * i.bytes : Nat) : Int) := by simp
    rw [e1, hib]; omega
  have hns : ¬ (n * size = 0) := by
    intro h; rcases Nat.mul_eq_zero.1 h with h | h <;> omega
  have hmade : Builtin.zeroCells z.cells n = ((List.replicate n z.cells.toList).flatten).toArray := by
    apply Array.ext'
    have := made_list z.cells.toList n (by simp; omega)
    simpa [Builtin.zeroCells] using this
  constructor
  · intro t ty base sLen sCap h0 ht hle
    cases base <;> simp [Builtin.append_, h0, h1, run_underlying' ht, run_underlying' hu, run_sizeOf' hsz, asInt, asIntOf, w1, hneg, hti, hmul, hle, hns, hz, hmade]
  · intro t ty i' z' base sLen sCap old h0 ht hi' his hzv hlt h63 hfit hold
    rw [hi] at hi'; cases hi'
    have hz' : z' = z := by rw [hz] at hzv; cases hzv; rfl
    subst hz'
    have hle : ¬ (sLen + n ≤ sCap) := by omega
    have h63' : ¬ (9223372036854775807 < ((sLen : Int) + (n : Int))) := by omega
    have h48' : ¬ (281474976710656 < Builtin.nextslicecap (sLen + n) sCap * i.bytes) := by omega
    simp [Builtin.append_, h0, h1, run_underlying' ht, run_underlying' hu, run_sizeOf' hsz, asInt, asIntOf, w1, hneg, hti, hmul, hle, h63', h48', hns, hz, hmade, Question.forced, hold, newRow, grownCap]

theorem grownCap_ge (w : World) (need old : Nat) (e : TypeId) : need ≤ grownCap w need old e := by simp [grownCap, Question.cut]

theorem zeroCells_size (z : Array Value) (n : Nat) : (Builtin.zeroCells z n).size = n * z.size := by simp [Builtin.zeroCells]

/-- the new row of an append -/
theorem grow_sound {P : Program} {w0 : World} {φ : Phi} {s s' : St} {w : World} (r : Rel P w0 φ s.get w) (hwf : Wf s) (hf : φ s.next = none) {e esz bytes need cap : Nat} {cs : List AV} {xs : Array Value} {z : Array Value} {v : AV}
    (h : grow s e esz bytes cs need = some (v, s')) (hx : VRL φ cs xs.toList) (hl : cs.length = need * esz) (hz : z.size = esz) (hc : need ≤ cap) :
    ∃ φ', Step P w0 φ s w φ' s' (w.drew.alloc (.cells (xs ++ Builtin.zeroCells z (cap - need)) e)) ∧ VR φ' v (.slice (some ⟨w.heap.size, 0, none⟩) need cap) ∧ 2 * need * bytes ≤ 281474976710656 ∧ need < 9223372036854775808 := by
  unfold grow at h
  cases hb : (Nat.ble (Nat.mul (Nat.mul 2 need) bytes) 281474976710656 && Nat.ble 1 esz && Nat.blt need 9223372036854775808) with
  | false => rw [hb] at h; simp at h
  | true =>
    rw [hb] at h; simp only [cond_true, Option.some.injEq, Prod.mk.injEq] at h
    obtain ⟨rfl, rfl⟩ := h
    simp only [Bool.and_eq_true, ble_iff, blt_iff] at hb
    obtain ⟨⟨hb1, hb2⟩, hb3⟩ := hb
    have hxl := VRL.length hx
    have hxs : xs.size = need * esz := by rw [← Array.length_toList, ← hxl, hl]
    have hmul : need * esz + (cap - need) * esz = cap * esz := by rw [← Nat.add_mul]; congr 1; omega
    refine ⟨φ.set s.next ⟨w.heap.size, 0, cap * esz⟩, Step.alloc r hwf hf rfl rfl rfl rfl ?_, ?_, hb1, hb3⟩
    · refine ⟨xs ++ Builtin.zeroCells z (cap - need), (0, 0), getObj_alloc _, ?_, ?_, (fun h => by cases h), ?_, Nat.le_refl _, fun _ i _ => by simp⟩
      · rw [Array.size_append, zeroCells_size, hxs, hz]; simp only; omega
      · simp only [hl]; exact Nat.mul_le_mul_right _ hc
      · have e1 : (((xs ++ Builtin.zeroCells z (cap - need)).toList.drop 0).take cs.length) = xs.toList := by
          rw [List.drop_zero, Array.toList_append, List.take_append_of_le_length (by rw [hxl]; exact Nat.le_refl _), hxl, List.take_length]
        simp only
        rw [e1]
        exact VRL.mono (Phi.set_sub hf) _ _ hx
    · simp only [VR]
      refine ⟨⟨w.heap.size, 0, cap * esz⟩, cap, by simp [Phi.set], by simp, hb2, ?_, hc, Nat.zero_le _⟩
      simp only [Nat.sub_zero]
      exact (Nat.mul_div_cancel _ (by omega)).symm

theorem app0_sound {P : Program} {w0 : World} {φ : Phi} {s s' : St} {w : World} (r : Rel P w0 φ s.get w) {ts : Array TypeId} {t ty e : TypeId} {esz : Nat} {x v : AV} {x' y' : Value} (h0 : ts[0]? = some t) (ht : P.underlying t = some (.slice e)) (src : Src P w ts e esz y' 0 [])
    (h : app0 s x = some (v, s')) (hx : VR φ x x') : s' = s ∧ (Builtin.append_ ts ty #[x', y']).run P w = .ok x' w ∧ VR φ v x' := by
  have hst : ∀ (a : Addr), (storeCells (a.add 0) []).run P w = .ok () w := fun a => rfl
  unfold app0 at h
  split at h
  · cases h
    have hx' := hx
    simp only [VR] at hx; subst hx
    exact ⟨rfl, by rw [src.stay t ty none 0 0 h0 ht (by omega)], hx'⟩
  · cases h
    have hx' := hx
    simp only [VR] at hx; obtain ⟨a, k, rfl⟩ := hx
    exact ⟨rfl, by rw [src.stay t ty (some a) 0 k h0 ht (by omega)]; rfl, hx'⟩
  · rename_i id off len c
    have hx' := hx
    simp only [VR] at hx; obtain ⟨B, k, hB, rfl, hk⟩ := hx
    split at h
    · rename_i k'
      simp only at hk; subst hk
      cases hb : Nat.ble len k with
      | false => rw [hb] at h; simp at h
      | true =>
        rw [hb] at h; simp only [cond_true, Option.some.injEq, Prod.mk.injEq] at h
        obtain ⟨rfl, rfl⟩ := h
        exact ⟨rfl, by rw [src.stay t ty (some _) len k h0 ht (by have := ble_iff.1 hb; omega)]; rfl, hx'⟩
    · rename_i e'
      simp only [Option.some.injEq, Prod.mk.injEq] at h
      obtain ⟨rfl, rfl⟩ := h
      simp only at hk
      exact ⟨rfl, by rw [src.stay t ty (some _) len k h0 ht (by omega)]; rfl, hx'⟩
  · cases h

/-- the cells of a slice, as 'append' reads them -/
theorem first_soundL {P : Program} {w0 : World} {φ : Phi} {s : St} {w : World} (r : Rel P w0 φ s.get w) {id off esz n len k : Nat} {B : Blk} {l : List AV} (hB : φ id = some B) (hld : loadC [] s (.ptr id off) (n * esz) = some l) :
    ∃ xs : List Value, VRL φ l xs ∧ (Builtin.firstCells esz n (.slice (some ⟨B.b, B.o + off, none⟩) len k)).run P w = .ok xs.toArray w ∧ (Builtin.firstCells esz n (.slice (some ⟨B.b, B.o + off, none⟩) len k)).run P w.drew = .ok xs.toArray w.drew := by
  obtain ⟨a, xs, ea, hlen, hxs, hcell⟩ := loadC_sound r (G := []) (fun g cs h => by simp at h) hld (x := .pointer (some ⟨B.b, B.o + off, none⟩)) (by simp only [VR]; exact ⟨B, hB, rfl⟩)
  cases ea
  exact ⟨xs, hxs, run_firstCells_some w esz n _ len k xs hlen hcell, run_firstCells_some w.drew esz n _ len k xs hlen (by simpa using hcell)⟩
theorem first_sound {P : Program} {w0 : World} {φ : Phi} {s : St} {w : World} (r : Rel P w0 φ s.get w) {id off esz n len k : Nat} {B : Blk} {t : Nat} {cs l : List AV} {e fz : Bool} (hg : s.get id = some (.row t cs e fz)) (hB : φ id = some B) (hc : cut cs off (n * esz) = some l) :
    ∃ xs : List Value, VRL φ l xs ∧ (Builtin.firstCells esz n (.slice (some ⟨B.b, B.o + off, none⟩) len k)).run P w = .ok xs.toArray w ∧ (Builtin.firstCells esz n (.slice (some ⟨B.b, B.o + off, none⟩) len k)).run P w.drew = .ok xs.toArray w.drew := by
  have hld : loadC [] s (.ptr id off) (n * esz) = some l := by simp only [loadC, hg]; exact hc
  obtain ⟨a, xs, ea, hlen, hxs, hcell⟩ := loadC_sound r (G := []) (fun g cs h => by simp at h) hld (x := .pointer (some ⟨B.b, B.o + off, none⟩)) (by simp only [VR]; exact ⟨B, hB, rfl⟩)
  cases ea
  exact ⟨xs, hxs, run_firstCells_some w esz n _ len k xs hlen hcell, run_firstCells_some w.drew esz n _ len k xs hlen (by simpa using hcell)⟩

theorem sure_fits {need old bytes : Nat} (h : old < need) (hb : 2 * need * bytes ≤ 281474976710656) : Builtin.nextslicecap need old * bytes ≤ 281474976710656 :=
  Nat.le_trans (Nat.mul_le_mul_right _ (nextslicecap_le h)) hb

end Go.Proofs.YtoejmfiaaigpbaaGreatDoor.Ev

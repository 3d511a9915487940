/- Part of a verified evaluator of the model's code, generic over the program: a run of the evaluator that answers shows what the model's run answers. No conditions of its own. -/
import Derived.Test.YtoejmfiaaigpbaaGreatDoorEvOpsF
import Derived.Lib.UnsafeStr
import Derived.KernelRfl
namespace Go.Proofs.YtoejmfiaaigpbaaGreatDoor.Ev

/-! ### min, max -/
theorem minV_sound {P : Program} {w : World} {φ : Phi} : ∀ {r : List AV} {x v : AV} {x' : Value} {ys : List Value}, minV false x r = some v → VR φ x x' → VRL φ r ys → ∃ z, (ys.foldlM Builtin.min2 x').run P w = .ok z w ∧ VR φ v z
  | [], x, v, x', ys, h, hx, hr => by
    simp only [minV, Option.some.injEq] at h; subst h
    simp only [VRL] at hr; subst hr
    exact ⟨x', by simp, hx⟩
  | y :: r, x, v, x', ys, h, hx, hr => by
    simp only [VRL] at hr
    obtain ⟨y', ys', rfl, hy, hr⟩ := hr
    cases x <;> cases y <;> simp only [minV] at h <;> first | (cases h; done) | skip
    rename_i k a k' b
    simp only [VR] at hx hy; subst hx; subst hy
    simp only [cond_false, ltI_eq] at h
    have hm : (Builtin.min2 (.int k a) (.int k' b)) = pure (.int k (if b < a then b else a)) := rfl
    simp only [List.foldlM_cons, hm]
    by_cases hb : b < a
    · rw [decide_eq_true hb] at h; simp only [cond_true] at h
      rw [if_pos hb]
      obtain ⟨z, g1, g2⟩ := minV_sound (P := P) (w := w) (x' := .int k b) h (by simp only [VR]) hr
      exact ⟨z, by simpa using g1, g2⟩
    · rw [decide_eq_false hb] at h; simp only [cond_false] at h
      rw [if_neg hb]
      obtain ⟨z, g1, g2⟩ := minV_sound (P := P) (w := w) (x' := .int k a) h (by simp only [VR]) hr
      exact ⟨z, by simpa using g1, g2⟩
theorem maxV_sound {P : Program} {w : World} {φ : Phi} : ∀ {r : List AV} {x v : AV} {x' : Value} {ys : List Value}, minV true x r = some v → VR φ x x' → VRL φ r ys → ∃ z, (ys.foldlM Builtin.max2 x').run P w = .ok z w ∧ VR φ v z
  | [], x, v, x', ys, h, hx, hr => by
    simp only [minV, Option.some.injEq] at h; subst h
    simp only [VRL] at hr; subst hr
    exact ⟨x', by simp, hx⟩
  | y :: r, x, v, x', ys, h, hx, hr => by
    simp only [VRL] at hr
    obtain ⟨y', ys', rfl, hy, hr⟩ := hr
    cases x <;> cases y <;> simp only [minV] at h <;> first | (cases h; done) | skip
    rename_i k a k' b
    simp only [VR] at hx hy; subst hx; subst hy
    simp only [cond_true, ltI_eq] at h
    have hm : (Builtin.max2 (.int k a) (.int k' b)) = pure (.int k (if b > a then b else a)) := rfl
    simp only [List.foldlM_cons, hm]
    by_cases hb : a < b
    · rw [decide_eq_true hb] at h; simp only [cond_true] at h
      rw [if_pos hb]
      obtain ⟨z, g1, g2⟩ := maxV_sound (P := P) (w := w) (x' := .int k b) h (by simp only [VR]) hr
      exact ⟨z, by simpa using g1, g2⟩
    · rw [decide_eq_false hb] at h; simp only [cond_false] at h
      rw [if_neg (by omega)]
      obtain ⟨z, g1, g2⟩ := maxV_sound (P := P) (w := w) (x' := .int k a) h (by simp only [VR]) hr
      exact ⟨z, by simpa using g1, g2⟩
theorem mn_sound {P : Program} {w : World} {φ : Phi} {ts : Array TypeId} {ty : TypeId} {l : List AV} {v : AV} {xs : List Value} (h : vMn false l = some v) (hx : VRL φ l xs) : ∃ z, (Builtin.min_ ts ty xs.toArray).run P w = .ok z w ∧ VR φ v z := by
  cases l with
  | nil => simp [vMn] at h
  | cons x r =>
    simp only [VRL] at hx
    obtain ⟨y, ys, rfl, h1, h2⟩ := hx
    exact minV_sound h h1 h2
theorem mx_sound {P : Program} {w : World} {φ : Phi} {ts : Array TypeId} {ty : TypeId} {l : List AV} {v : AV} {xs : List Value} (h : vMn true l = some v) (hx : VRL φ l xs) : ∃ z, (Builtin.max_ ts ty xs.toArray).run P w = .ok z w ∧ VR φ v z := by
  cases l with
  | nil => simp [vMn] at h
  | cons x r =>
    simp only [VRL] at hx
    obtain ⟨y, ys, rfl, h1, h2⟩ := hx
    exact maxV_sound h h1 h2
theorem vL_inv {tm : Trie AV} {s s' : St} {v : AV} {l : List Opd} {f : List AV → Option AV} (h : vL tm s l f = some (v, s')) : ∃ a, evL tm l = some a ∧ f a = some v ∧ s' = s := by
  unfold vL at h
  cases hl : evL tm l with
  | none => rw [hl] at h; cases h
  | some a => rw [hl] at h; obtain ⟨h1, h2⟩ := ret1_inv h; exact ⟨a, rfl, h1, h2⟩

/-! ### Pointers of no type -/
theorem rowOf {P : Program} {w0 : World} {φ : Phi} {s : St} {w : World} (r : Rel P w0 φ s.get w) {id : Nat} {B : Blk} {e : Nat} {cells : List AV} {ext fz : Bool} (hg : s.get id = some (.row e cells ext fz)) (hB : φ id = some B) :
    ∃ c fr, w.heap[B.b]? = some (.cells c e fr) ∧ c.size = B.o + B.tot ∧ cells.length ≤ B.tot ∧ (ext = false → cells.length = B.tot ∧ B.o = 0) ∧
      VRL φ cells ((c.toList.drop B.o).take cells.length) ∧ fr.1 ≤ fr.2 ∧ (fz = false → ∀ i, i < c.size → ¬ (fr.1 ≤ i ∧ i < fr.2)) := by
  obtain ⟨B', hB', c, fr, h⟩ := r.obj id _ hg
  rw [hB] at hB'; cases hB'
  exact ⟨c, fr, h⟩
theorem run_viewAt_row {P : Program} {w : World} {b : Nat} {c : Array Value} {e : TypeId} {fr : Nat × Nat} (h : w.heap[b]? = some (.cells c e fr)) : (viewAt b).run P w = .ok none w := by
  have hs : w.shape? b = some (e, c.size) := by simp [World.shape?, h]
  simp [viewAt, hs]
theorem run_seenAt_row {P : Program} {w : World} {a : Addr} {c : Array Value} {e : TypeId} {fr : Nat × Nat} (h : w.heap[a.block]? = some (.cells c e fr)) : (Conv.seenAt a).run P w = .ok a w := by
  simp [Conv.seenAt, run_viewAt_row h]
theorem run_cellsIn_row {P : Program} {w : World} {b : Nat} {c : Array Value} {e : TypeId} {fr : Nat × Nat} (h : w.heap[b]? = some (.cells c e fr)) : (cellsIn b).run P w = .ok (some c.size) w := by
  have hs : w.shape? b = some (e, c.size) := by simp [World.shape?, h]
  simp [cellsIn, hs]
theorem cup_sound {P : Program} {w0 : World} {φ : Phi} {s : St} {w : World} (r : Rel P w0 φ s.get w) {sT d t : TypeId} {n : Nat} {x v : AV} {x' : Value} (hs : P.underlying sT = some (.pointer t)) (hd : P.underlying d = some .unsafePointer) (hz : sizT P t = some (n + 1))
    (h : vCup s x = some v) (hx : VR φ x x') : ∃ z, (convert sT d x').run P w = .ok z w ∧ VR φ v z := by
  unfold vCup at h
  split at h
  · cases h; simp only [VR] at hx; subst hx
    exact ⟨.pointer none, by simp [convert, run_underlying' hs, run_underlying' hd, Conv.unsafePointer], by simp only [VR]⟩
  · rename_i id off
    split at h
    · rename_i e cs ext fz hg
      cases hb : Nat.blt off (lenN cs) with
      | false => rw [hb] at h; simp at h
      | true =>
        rw [hb] at h; simp only [cond_true, Option.some.injEq] at h; subst h
        rw [blt_iff, lenN_eq] at hb
        have hx' := hx
        simp only [VR] at hx
        obtain ⟨B, hB, rfl⟩ := hx
        obtain ⟨c, fr, h1, h2, h3, _⟩ := rowOf r hg hB
        refine ⟨_, ?_, hx'⟩
        have hlt : ¬ c.size ≤ B.o + off := by omega
        simp [convert, run_underlying' hs, run_underlying' hd, Conv.unsafePointer, run_seenAt_row (a := ⟨B.b, B.o + off, none⟩) h1, run_cellsIn_row h1, run_sizeOf' hz, hlt]
    · cases h
  · cases h

theorem memL_mem {e n : Nat} : ∀ {L : List (Nat × Nat)}, memL e n L = true → (e, n) ∈ L
  | [], h => by cases h
  | p :: r, h => by
    simp only [memL] at h
    cases hb : (Nat.beq p.1 e && Nat.beq p.2 n) with
    | true =>
      simp only [Bool.and_eq_true, beq_iff] at hb
      have : p = (e, n) := by cases p; simp_all
      simp [this]
    | false => rw [hb] at h; simp only [cond_false] at h; exact List.mem_cons_of_mem _ (memL_mem h)
theorem liesL_mem {P : Program} {u e n : Nat} (h : (e, n) ∈ liesL P u) : P.cellsOf e = n ∧ 1 ≤ n ∧ liesAt P P.depth e 1 0 u 1 = true := by
  unfold liesL at h
  obtain ⟨e', h1, h2⟩ := List.mem_map.1 h
  simp only [Prod.mk.injEq] at h2
  obtain ⟨rfl, rfl⟩ := h2
  have := (List.mem_filter.1 h1).2
  simp only [Bool.and_eq_true, ble_iff] at this
  exact ⟨rfl, this.1, this.2⟩
theorem cpu_sound {P : Program} {w0 : World} {φ : Phi} {s : St} {w : World} (r : Rel P w0 φ s.get w) {sT d u : TypeId} {n : Nat} {x v : AV} {x' : Value} (hs : P.underlying sT = some .unsafePointer) (hd : P.underlying d = some (.pointer u)) (hz : sizT P u = some (n + 1))
    (h : vCpu s (liesL P u) x = some v) (hx : VR φ x x') : ∃ z, (convert sT d x').run P w = .ok z w ∧ VR φ v z := by
  unfold vCpu at h
  split at h
  · cases h; simp only [VR] at hx; subst hx
    exact ⟨.pointer none, by simp [convert, run_underlying' hs, run_underlying' hd, Conv.unsafePointer], by simp only [VR]⟩
  · rename_i id
    split at h
    · rename_i e cs fz hg
      cases hb : memL e (lenN cs) (liesL P u) with
      | false => rw [hb] at h; simp at h
      | true =>
        rw [hb] at h; simp only [cond_true, Option.some.injEq] at h; subst h
        obtain ⟨l1, l2, l3⟩ := liesL_mem (memL_mem hb)
        rw [lenN_eq] at l1 l2
        have hx' := hx
        simp only [VR] at hx
        obtain ⟨B, hB, rfl⟩ := hx
        obtain ⟨c, fr, h1, h2, h3, h4, _⟩ := rowOf r hg hB
        obtain ⟨h5, h6⟩ := h4 rfl
        refine ⟨_, ?_, hx'⟩
        have hsh : w.shape? B.b = some (e, c.size) := by simp [World.shape?, h1]
        have hc : c.size / P.cellsOf e = 1 := by
          have : c.size = P.cellsOf e := by omega
          rw [this]; exact Nat.div_self (by omega)
        have hv : (variablesAt ⟨B.b, B.o, none⟩ u 1).run P w = .ok true w := by
          simp [variablesAt, hsh, hc, h6, l3]
        simp [convert, run_underlying' hs, run_underlying' hd, Conv.unsafePointer, run_seenAt_row (a := ⟨B.b, B.o, none⟩) h1, run_sizeOf' hz, hv]
    · cases h
  · cases h

/-! ### Bytes seen as a string -/
theorem usd_sound {P : Program} {w : World} {φ : Phi} {ts : Array TypeId} {ty : TypeId} {x v : AV} {x' : Value} (h : vUsd x = some v) (hx : VR φ x x') : ∃ z, (Builtin.unsafeSliceData_ ts ty #[x']).run P w = .ok z w ∧ VR φ v z := by
  unfold vUsd at h
  split at h
  · cases h; simp only [VR] at hx; subst hx
    exact ⟨.pointer none, Lib.run_unsafeSliceData_nil (P := P) w ts ty 0 0, by simp only [VR]⟩
  · rename_i id off len c
    simp only [VR] at hx
    obtain ⟨B, k, hB, rfl, hk⟩ := hx
    have hk0 : k ≠ 0 ∧ v = .ptr id off := by
      split at h
      · rename_i c'
        simp only at hk; subst hk
        cases hb : Nat.beq k 0 with
        | true => rw [hb] at h; simp at h
        | false => rw [hb] at h; simp at h; exact ⟨fun e => (by rw [beq_iff.2 e] at hb; cases hb), h.symm⟩
      · simp only at hk
        cases hb : Nat.beq len 0 with
        | true => rw [hb] at h; simp at h
        | false =>
          rw [hb] at h; simp at h
          have : len ≠ 0 := fun e => by rw [beq_iff.2 e] at hb; cases hb
          exact ⟨by omega, h.symm⟩
    obtain ⟨h0, rfl⟩ := hk0
    exact ⟨_, Lib.run_unsafeSliceData_row (P := P) w ts ty _ len k h0, by simp only [VR]; exact ⟨B, hB, rfl⟩⟩
  · cases h

theorem liesAt_bytesO {P : Program} {e : TypeId} (hc : P.cellsOf e = 1) (count off n : Nat) (hn : off + n ≤ count) : liesAt P P.depth e count off e n = true := by
  have hd : P.depth = (2 * (P.types.size + Made.depth) + 1) + 1 := rfl
  rw [hd]
  simp only [liesAt, Bool.or_eq_true]
  left
  rw [hd]
  simp [rowAt, hc, hn, sameLayout, Nat.mod_one]
theorem cellsOf_siz {P : Program} {t : TypeId} {n : Nat} (h : sizT P t = some n) : P.cellsOf t = n := by
  unfold sizT at h
  unfold Program.cellsOf
  rw [h]; rfl
theorem elemOf_run {P : Program} {w : World} {t e : TypeId} (h : P.underlying t = some (.pointer e)) : (elemOf t).run P w = .ok e w := by
  simp [elemOf, run_underlying' h]
theorem fz_le {fr : Nat × Nat} {a n : Nat} (h : fr.1 ≤ fr.2) : (if fr.1 == fr.2 then (a, a + n) else (min fr.1 a, max fr.2 (a + n))).1 ≤ (if fr.1 == fr.2 then (a, a + n) else (min fr.1 a, max fr.2 (a + n))).2 := by
  split <;> simp only <;> omega
theorem unsafeString_none (ts : Array TypeId) (ty : TypeId) (v : Value) : Builtin.unsafeString_ ts ty #[.pointer none, v] = (do
  let n ← asInt v
  let some _pt := ts[0]? | stuck "unsafe.String: no argument types"
  if n < 0 then runtimePanic (.error "unsafe.String: len out of range")
  if n > IntKind.i64.max then unsupported (.unsafePointer "String: a length above the largest int")
  if n = 0 then pure (.string .empty)
  else runtimePanic (.error "unsafe.String: ptr is nil and len is not zero")) := rfl
theorem unsafeString_some (ts : Array TypeId) (ty : TypeId) (a : Addr) (v : Value) : Builtin.unsafeString_ ts ty #[.pointer (some a), v] = (do
  let n ← asInt v
  let some pt := ts[0]? | stuck "unsafe.String: no argument types"
  if n < 0 then runtimePanic (.error "unsafe.String: len out of range")
  if n > IntKind.i64.max then unsupported (.unsafePointer "String: a length above the largest int")
  if n = 0 then pure (.string .empty)
  else if ← variablesAt a (← elemOf pt) n.toNat then do
    let s ← loadBytes a .empty n.toNat
    freeze a n.toNat
    pure (.string s)
  else unsupported (.unsafePointer "String: not so many bytes at ptr")) := rfl
theorem ust_sound {P : Program} {w0 : World} {φ : Phi} {s s' : St} {w : World} (r : Rel P w0 φ s.get w) {ts : Array TypeId} {ty t e : TypeId} {x n v : AV} {x' n' : Value} (h0 : ts[0]? = some t) (hu : P.underlying t = some (.pointer e)) (hz : sizT P e = some 1)
    (h : oUst s e x n = some (v, s')) (hx : VR φ x x') (hn : VR φ n n') : ∃ φ' y w', (Builtin.unsafeString_ ts ty #[x', n']).run P w = .ok y w' ∧ Step P w0 φ s w φ' s' w' ∧ VR φ' v y := by
  unfold oUst at h
  split at h
  · rename_i k n
    simp only [VR] at hn; subst hn
    split at h
    · have hres : v = .str [] ∧ s' = s ∧ ∃ p, x' = .pointer p := by
        split at h
        · simp only [Option.some.injEq, Prod.mk.injEq] at h
          simp only [VR] at hx
          exact ⟨h.1.symm, h.2.symm, _, hx⟩
        · simp only [Option.some.injEq, Prod.mk.injEq] at h
          simp only [VR] at hx
          obtain ⟨B, _, e⟩ := hx
          exact ⟨h.1.symm, h.2.symm, _, e⟩
        · cases h
      obtain ⟨rfl, rfl, p, rfl⟩ := hres
      refine ⟨φ, .string .empty, w, ?_, Step.refl r, by simp only [VR]; exact ⟨_, rfl, rfl⟩⟩
      have hmax : IntKind.i64.max = 9223372036854775807 := rfl
      cases p
      · rw [unsafeString_none]; simp [asInt, asIntOf, h0, hmax]
      · rw [unsafeString_some]; simp [asInt, asIntOf, h0, hmax]
    · rename_i m
      split at h
      · rename_i id off
        split at h
        · rename_i t' cs ext fz hg
          cases hb : (Nat.beq t' e && Nat.blt m 9223372036854775807) with
          | false => rw [hb] at h; simp at h
          | true =>
            rw [hb] at h; simp only [cond_true] at h
            simp only [Bool.and_eq_true, beq_iff, blt_iff] at hb
            obtain ⟨hb, hmax⟩ := hb; subst hb
            cases hc : unbytesO (cut cs off (Nat.succ m)) with
            | none => rw [hc] at h; simp at h
            | some b =>
              rw [hc] at h; simp only [Option.some.injEq, Prod.mk.injEq] at h
              obtain ⟨rfl, rfl⟩ := h
              cases hcut : cut cs off (Nat.succ m) with
              | none => rw [hcut] at hc; cases hc
              | some l =>
                rw [hcut] at hc
                have hc' : unbytes l = some b := hc
                simp only [VR] at hx
                obtain ⟨B, hB, rfl⟩ := hx
                obtain ⟨c, fr, h1, h2, h3, h4, h5, h6, h7⟩ := rowOf r hg hB
                obtain ⟨us, rfl, hus⟩ := unbytes_sound hc' (h5.cut hcut)
                obtain ⟨hl, hb, hl2⟩ := cut_some hcut
                have hlen : us.length = m + 1 := by
                  have := congrArg List.length hus
                  simp at this
                  have h3' := VRL.length h5
                  simp at h3'
                  rcases hb with hb | hb
                  · omega
                  · omega
                have hfit : off + (m + 1) ≤ cs.length := by rcases hb with hb | hb <;> omega
                have hsh : w.shape? B.b = some (t', c.size) := by simp [World.shape?, h1]
                have hcell := cellsOf_siz hz
                have hv : (variablesAt ⟨B.b, B.o + off, none⟩ t' (m + 1)).run P w = .ok true w := by
                  simp [variablesAt, hsh, hcell, liesAt_bytesO hcell c.size (B.o + off) (m + 1) (by omega)]
                have hld := Lib.run_loadBytes (P := P) w us ⟨B.b, B.o + off, none⟩ .empty (fun j y hj => by
                  have hjl : j < us.length := (List.getElem?_eq_some_iff.1 hj).1
                  have hx2 : (us.map fun u => Value.int .u8 (u.toNat : Int))[j]? = some (.int .u8 y.toNat) := by simp [hj]
                  rw [← hus, List.getElem?_take, if_pos (by omega), List.getElem?_drop, List.getElem?_take, if_pos (by omega), List.getElem?_drop] at hx2
                  rw [add_lit, cell_block h1, show B.o + off + j = B.o + (off + j) by omega, ← Array.getElem?_toList]
                  exact hx2)
                rw [hlen] at hld
                refine ⟨φ, .string ⟨ByteArray.empty.data ++ us.toArray⟩, w.freeze ⟨B.b, B.o + off, none⟩ (m + 1), ?_, ?_, ?_⟩
                · have hb1 : ¬ ((m : Int) + 1 < 0) := by omega
                  have hb2 : ¬ ((9223372036854775807 : Int) < (m : Int) + 1) := by omega
                  have hb3 : ¬ ((m : Int) + 1 = 0) := by omega
                  have hb4 : ((m : Int) + 1).toNat = m + 1 := by omega
                  have hmax : IntKind.i64.max = 9223372036854775807 := rfl
                  rw [unsafeString_some]
                  simp [asInt, asIntOf, h0, hmax, elemOf_run hu, hv, hld, hb1, hb2, hb3, hb4]
                · obtain ⟨f1, f2, f3, f4⟩ := freeze_facts (w := w) (a := ⟨B.b, B.o + off, none⟩) (n := m + 1)
                  refine Step.put r hg hB (fun b hb => freeze_out hb) f1 f2 f3 f4 ?_
                  have hin := freeze_in (w := w) (a := ⟨B.b, B.o + off, none⟩) (n := m + 1) (by omega) h1
                  exact ⟨c, _, hin, h2, h3, h4, h5, fz_le h6, fun hz => by cases hz⟩
                · simp only [VR]
                  exact ⟨_, rfl, by have e : (ByteArray.empty.data ++ us.toArray).toList = us := (by simp); simp only [nats]; rw [e]⟩
        · cases h
      · cases h
  · cases h

/-! ### Functions without a body -/
theorem findS_sound (c : UInt8) : ∀ (l : List UInt8) (i : Nat), findS c.toNat (l.map (·.toNat)) i = (l.findIdx? (· == c)).map (· + i)
  | [], i => rfl
  | b :: l, i => by
    simp only [List.map_cons, findS, List.findIdx?_cons]
    by_cases hb : b = c
    · subst hb; simp
    · have h1 : Nat.beq b.toNat c.toNat = false := by
        cases h : Nat.beq b.toNat c.toNat with
        | false => rfl
        | true => exact absurd (UInt8.toNat_inj.1 (beq_iff.1 h)) hb
      rw [h1, findS_sound c l (i + 1)]
      simp only [cond_false, beq_iff_eq, hb, if_false, Option.map_map]
      cases l.findIdx? (· == c) <;> simp <;> omega
theorem next_noEscape : Extern.allNextRows.lookup "internal/abi.NoEscape" = none := by kernel_rfl
theorem next_empty : Extern.allNextRows.lookup "" = none := by kernel_rfl
theorem gen_noEscape : Extern.allGenericRows.lookup "internal/abi.NoEscape" = none := by kernel_rfl
theorem typed_noEscape : Extern.allTypedRows.lookup "internal/abi.NoEscape" = none := by kernel_rfl
theorem rows_noEscape : Extern.allRows.lookup "internal/abi.NoEscape" = some Extern.AbiNoEscape.same := by kernel_rfl
theorem next_ibs : Extern.allNextRows.lookup "internal/bytealg.IndexByteString" = none := by kernel_rfl
theorem gen_ibs : Extern.allGenericRows.lookup "internal/bytealg.IndexByteString" = none := by kernel_rfl
theorem typed_ibs : Extern.allTypedRows.lookup "internal/bytealg.IndexByteString" = none := by kernel_rfl
theorem rows_ibs : Extern.allRows.lookup "internal/bytealg.IndexByteString" = some Extern.BytealgIndexByte.indexByte := by kernel_rfl
theorem find_noEscape {fn : Func} (h : fn.name = "internal/abi.NoEscape") (ho : fn.origin = "") : Extern.findNext fn = none ∧ Extern.find fn = some Extern.AbiNoEscape.same := by
  constructor
  · simp only [Extern.findNext, h, ho, next_noEscape, next_empty, Option.map_none]; rfl
  · simp only [Extern.find, h, gen_noEscape, typed_noEscape, rows_noEscape, Option.map_none]; rfl
theorem find_ibs {fn : Func} (h : fn.name = "internal/bytealg.IndexByteString") (ho : fn.origin = "") : Extern.findNext fn = none ∧ Extern.find fn = some Extern.BytealgIndexByte.indexByte := by
  constructor
  · simp only [Extern.findNext, h, ho, next_ibs, next_empty, Option.map_none]; rfl
  · simp only [Extern.find, h, gen_ibs, typed_ibs, rows_ibs, Option.map_none]; rfl
theorem run_extern {P : Program} {w : World} {f : Nat} {fn : Func} {g : Array Value → Sem Value} {xs : Array Value} {z : Value} (hf : P.funcs[f]? = some fn) (hb : fn.body.isNone = true) (hn : (fn.name == "runtime.NumGoroutine") = false) (h1 : Extern.findNext fn = none) (h2 : Extern.find fn = some g)
    (hg : (g xs).run P w = .ok z w) : (callFunc f xs).run P w = .ok (.value z) w := by
  have hn' : fn.name ≠ "runtime.NumGoroutine" := by simpa using hn
  have hb' : fn.body = none := by simpa using hb
  simp [callFunc, hf, hn', hb', h1, h2, hg]
theorem exec_func {P : Program} {w w' : World} {a : Act} {o : Oper} {c : Call} {f : Nat} {x : Next} (ho : o.op = .call c) (hc : c.callee = .value (.func f)) (h : (callFunc f (c.args.map a.eval)).run P w = .ok x w') : (execOp a.eval o).run P w = .ok x w' := by
  unfold execOp; rw [ho]
  simp [resolve, hc, Act.eval, Deferred.ofValue, invoke, h]
theorem find_range (b : ByteArray) (c : UInt8) : (List.range b.size).find? (fun i => b[i]! == c) = b.data.toList.findIdx? (· == c) := by
  have key : ∀ (l : List UInt8) (k : Nat) (n : Nat), l.length = n → (∀ i, i < n → b[k + i]! = l[i]?.getD 0) → (List.range' k n).find? (fun i => b[i]! == c) = (l.findIdx? (· == c)).map (· + k) := by
    intro l
    induction l with
    | nil => intro k n hn _; simp at hn; subst hn; rfl
    | cons x l ih =>
      intro k n hn hb
      cases n with
      | zero => simp at hn
      | succ n =>
        have h0 := hb 0 (by omega)
        simp at h0
        rw [List.range'_succ, List.find?_cons, List.findIdx?_cons, h0]
        by_cases hx : x = c
        · subst hx; simp
        · have hxb : (x == c) = false := by simpa using hx
          rw [hxb]
          simp only [Bool.false_eq_true, if_false]
          rw [ih (k + 1) n (by simpa using hn) (fun i hi => by have := hb (i + 1) (by omega); rw [show k + (i + 1) = k + 1 + i by omega] at this; simpa using this)]
          cases l.findIdx? (· == c) <;> simp <;> omega
  have := key b.data.toList 0 b.size (by simp) (fun i hi => by
    have hi' : i < b.data.toList.length := by simpa using hi
    simp only [Nat.zero_add]
    rw [List.getElem?_eq_getElem hi', Option.getD_some]
    show b[i]! = _
    rw [getElem!_pos b i hi]; rfl)
  rw [List.range_eq_range', this]
  cases b.data.toList.findIdx? (· == c) <;> simp
theorem ibs_sound {P : Program} {w : World} {φ : Phi} {x c v : AV} {x' c' : Value} (h : vIbs x c = some v) (hx : VR φ x x') (hc : VR φ c c') : ∃ z, (Extern.BytealgIndexByte.indexByte #[x', c']).run P w = .ok z w ∧ VR φ v z := by
  unfold vIbs at h
  split at h
  · rename_i t
    split at h
    · rename_i c
      simp only [VR] at hx hc
      obtain ⟨bs, rfl, rfl⟩ := hx
      subst hc
      cases hb : Nat.blt c 256 with
      | false => rw [hb] at h; simp at h
      | true =>
      rw [hb] at h; simp only [cond_true] at h
      have hlt : c < 256 := blt_iff.1 hb
      have hu : ((c.toUInt8).toNat) = c := by rw [Nat.toUInt8, UInt8.toNat_ofNat']; exact Nat.mod_eq_of_lt hlt
      have hf := findS_sound c.toUInt8 bs.data.toList 0
      rw [hu] at hf
      have hf' : findS c (nats bs) 0 = (bs.data.toList.findIdx? (· == c.toUInt8)).map (· + 0) := hf
      rw [hf'] at h
      have hd : Extern.BytealgIndexByte.indexByte #[.string bs, .int .u8 (Int.ofNat c)] = (do
        let b ← Extern.Bytes.bytesOf (.string bs)
        let c ← Extern.Bytes.asByte (.int .u8 (Int.ofNat c))
        match (List.range b.size).find? fun i => b[i]! == c with
        | some i => pure (goInt i)
        | none => pure (goInt (-1))) := rfl
      rw [hd]
      simp only [Extern.Bytes.bytesOf, Extern.Bytes.asByte, pure_bind]
      have e1 : (Int.ofNat c).toNat.toUInt8 = c.toUInt8 := rfl
      rw [e1, find_range]
      cases hi : bs.data.toList.findIdx? (· == c.toUInt8) with
      | none => rw [hi] at h; simp at h; subst h; exact ⟨goInt (-1), by simp, by simp only [VR]; rfl⟩
      | some i => rw [hi] at h; simp at h; subst h; exact ⟨goInt i, by simp, by simp only [VR]; rfl⟩
    · cases h
  · cases h
end Go.Proofs.YtoejmfiaaigpbaaGreatDoor.Ev

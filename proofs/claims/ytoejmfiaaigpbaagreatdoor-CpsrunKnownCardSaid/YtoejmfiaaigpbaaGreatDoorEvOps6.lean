/- Part of a verified evaluator of the model's code, generic over the program: a run of the evaluator that answers shows what the model's run answers. No conditions of its own. -/
import Derived.Test.YtoejmfiaaigpbaaGreatDoorEvOps5
namespace Go.Proofs.YtoejmfiaaigpbaaGreatDoor.Ev

theorem takeS_eq : ∀ (n : Nat) (l : List Nat), takeS n l = l.take n
  | 0, l => by simp [takeS]
  | n + 1, [] => by simp [takeS]
  | n + 1, v :: r => by simp [takeS, takeS_eq n r]
theorem dropS_eq : ∀ (n : Nat) (l : List Nat), dropS n l = l.drop n
  | 0, l => rfl
  | n + 1, [] => by simp [dropS]
  | n + 1, v :: r => by simp [dropS, dropS_eq n r]
theorem getS_eq : ∀ (l : List Nat) (n : Nat), getS l n = l[n]?
  | [], _ => rfl
  | v :: _, 0 => rfl
  | _ :: r, n + 1 => by simp [getS, getS_eq r n]
theorem nats_extract (s : ByteArray) (l h : Nat) : nats (s.extract l h) = ((nats s).drop l).take (h - l) := by
  simp [nats, List.map_drop, List.map_take]
theorem nats_get (s : ByteArray) (i : Nat) : (nats s)[i]? = (s[i]?).map (·.toNat) := by
  unfold nats
  rw [List.getElem?_map]
  by_cases h : i < s.size
  · rw [ByteArray.getElem?_lt' s i h]
    have : s.data.toList[i]? = some s[i] := by rw [Array.getElem?_toList]; exact Array.getElem?_eq_getElem h
    rw [this]
  · rw [ByteArray.getElem?_ge' s i h]
    have : s.data.toList[i]? = none := by rw [Array.getElem?_toList]; exact Array.getElem?_eq_none (by have : s.data.size = s.size := rfl; omega)
    rw [this]

theorem bnd_mono {d n n' k : Nat} {i : Option AV} (h : bnd d i n = some k) (hn : n ≤ n') : bnd d i n' = some k := by
  unfold bnd at h ⊢
  split at h
  · exact h
  · rename_i kk a
    cases hb : Nat.ble a n with
    | false => rw [hb] at h; simp at h
    | true => rw [hb] at h; rw [ble_iff.2 (Nat.le_trans (ble_iff.1 hb) hn)]; exact h
  · cases h

theorem bnd_some_any (d : Nat) (v : AV) (n : Nat) : bnd d (some v) n = bnd 0 (some v) n := by
  unfold bnd; split <;> simp_all

theorem sls_sound {P : Program} {w : World} {φ : Phi} {t : TypeId} {x v : AV} {x' : Value} {lo hi : Option AV} {lo' hi' : Option Value} (hu : P.underlying t = some .string) (h : vSls x lo hi = some v) (hx : VR φ x x') (rl : OR φ lo lo') (rh : OR φ hi hi') :
    ∃ z, (Instr.sliceAt t x' lo' hi' none).run P w = .ok z w ∧ VR φ v z := by
  unfold vSls at h
  split at h
  · rename_i l0
    simp only [VR] at hx
    obtain ⟨s, rfl, rfl⟩ := hx
    rw [lenN_eq, nats_length] at h
    cases hh : bnd s.size hi s.size with
    | none => rw [hh] at h; simp at h
    | some h1 =>
      rw [hh] at h; simp only at h
      cases hl : bnd 0 lo h1 with
      | none => rw [hl] at h; simp at h
      | some l1 =>
        rw [hl] at h; simp only [Option.some.injEq] at h; subst h
        have hb := bounds_sound (P := P) (w := w) (φ := φ) (isSlice := false) (len := s.size) (cap := s.size) (mx := none) (mx' := none) (m := s.size) rfl hh hl rl rh rfl (.inl rfl)
        refine ⟨.string (s.extract l1 h1), ?_, ?_⟩
        · simp [Instr.sliceAt, Instr.slice, run_underlying' hu, hb]
        · simp only [VR]
          exact ⟨_, rfl, by rw [nats_extract, takeS_eq, dropS_eq]; rfl⟩
  · cases h

theorem cut_arith {t off e l : Nat} (he : 0 < e) (hl : l ≤ (t - off) / e) : (t - (off + l * e)) / e = (t - off) / e - l ∧ (off ≤ t → off + l * e ≤ t) := by
  have h1 : l * e ≤ t - off := Nat.le_trans (Nat.mul_le_mul_right e hl) (Nat.div_mul_le_self _ _)
  refine ⟨?_, fun h => by omega⟩
  rw [Nat.sub_add_eq]
  have := Nat.sub_mul_div (t - off) e l
  rw [Nat.mul_comm] at this
  exact this

/-- what 'vCut' gives, and what the model gives -/
theorem vCut_sound {φ : Phi} {id off esz m len h1 l1 : Nat} {lo hi : Option AV} {v : AV} {B : Blk} (hB : φ id = some B) (h : vCut id off esz m len lo hi = some v) (hh : bnd len hi m = some h1) (hl : bnd 0 lo h1 = some l1) :
    VR φ v (.slice (some (if m = l1 then (⟨B.b, B.o + off, none⟩ : Addr) else ⟨B.b, B.o + off + l1 * esz, none⟩)) (h1 - l1) (m - l1)) := by
  unfold vCut at h
  rw [hh] at h; simp only at h
  rw [hl] at h; simp only [Option.some.injEq] at h; subst h
  simp only [VR]
  refine ⟨B, m - l1, hB, ?_, rfl⟩
  by_cases e : m = l1
  · subst e; simp
  · rw [if_neg e]
    have : Nat.beq m l1 = false := by rw [Bool.eq_false_iff, ne_eq, Nat.beq_eq]; exact e
    rw [this]
    show _ = Value.slice (some ⟨B.b, B.o + (off + l1 * esz), none⟩) (h1 - l1) (m - l1)
    rw [Nat.add_assoc]

theorem vCut_bnds {id off esz m len : Nat} {lo hi : Option AV} {v : AV} (h : vCut id off esz m len lo hi = some v) : ∃ h1 l1, bnd len hi m = some h1 ∧ bnd 0 lo h1 = some l1 := by
  unfold vCut at h
  cases hh : bnd len hi m with
  | none => rw [hh] at h; simp at h
  | some h1 =>
    rw [hh] at h; simp only at h
    cases hl : bnd 0 lo h1 with
    | none => rw [hl] at h; simp at h
    | some l1 => exact ⟨h1, l1, rfl, hl⟩

theorem run_slice_slice {P : Program} {w : World} {t e : TypeId} {n : Nat} {a : Option Addr} {len cap l h m : Nat} {lo' hi' mx' : Option Value} (hu : P.underlying t = some (.slice e)) (hs : sizT P e = some n)
    (hb : (Instr.sliceBounds true len cap lo' hi' mx').run P w = .ok (l, h, m) w) :
    (Instr.sliceAt t (.slice a len cap) lo' hi' mx').run P w = .ok (.slice (if m = l then a else a.map (·.add (l * n))) (h - l) (m - l)) w := by
  simp [Instr.sliceAt, Instr.slice, run_underlying' hu, hb, run_sizeOf' hs]

theorem slv_sound {P : Program} {w : World} {φ : Phi} {t e : TypeId} {n : Nat} {x v : AV} {x' : Value} {lo hi mx : Option AV} {lo' hi' mx' : Option Value} (hu : P.underlying t = some (.slice e)) (hs : sizT P e = some n)
    (h : vSlv n x lo hi mx = some v) (hx : VR φ x x') (rl : OR φ lo lo') (rh : OR φ hi hi') (rm : OR φ mx mx') (hmh : mx = none ∨ hi ≠ none) :
    ∃ z, (Instr.sliceAt t x' lo' hi' mx').run P w = .ok z w ∧ VR φ v z := by
  unfold vSlv at h
  split at h
  · -- nil
    simp only [VR] at hx; subst hx
    cases hm : bnd 0 mx 0 with
    | none => rw [hm] at h; simp at h
    | some m =>
      rw [hm] at h; simp only at h
      cases hh : bnd 0 hi 0 with
      | none => rw [hh] at h; simp at h
      | some h1 =>
        rw [hh] at h; simp only at h
        cases hl : bnd 0 lo 0 with
        | none => rw [hl] at h; simp at h
        | some l1 =>
          rw [hl] at h; simp only [Option.some.injEq] at h; subst h
          have m0 := bnd_le hm (Nat.le_refl _)
          have h0 := bnd_le hh (Nat.le_refl _)
          have l0 := bnd_le hl (Nat.le_refl _)
          obtain rfl : m = 0 := by omega
          obtain rfl : h1 = 0 := by omega
          obtain rfl : l1 = 0 := by omega
          have hb := bounds_sound (P := P) (w := w) (φ := φ) (isSlice := true) (len := 0) (cap := 0) hm hh hl rl rh rm hmh
          exact ⟨_, run_slice_slice hu hs hb, by simp [VR]⟩
  · -- empty
    simp only [VR] at hx
    obtain ⟨a, k, rfl⟩ := hx
    split at h
    · simp only [OR] at rm; subst rm
      cases hh : bnd 0 hi 0 with
      | none => rw [hh] at h; simp at h
      | some h1 =>
        rw [hh] at h; simp only at h
        cases hl : bnd 0 lo 0 with
        | none => rw [hl] at h; simp at h
        | some l1 =>
          rw [hl] at h; simp only [Option.some.injEq] at h; subst h
          have h0 := bnd_le hh (Nat.le_refl _)
          have l0 := bnd_le hl (Nat.le_refl _)
          obtain rfl : h1 = 0 := by omega
          obtain rfl : l1 = 0 := by omega
          have hb := bounds_sound (P := P) (w := w) (φ := φ) (isSlice := true) (len := 0) (cap := k) (mx := none) (mx' := none) (m := k) rfl (bnd_mono hh (Nat.zero_le _)) hl rl rh rfl (.inl rfl)
          refine ⟨_, run_slice_slice hu hs hb, ?_⟩
          simp only [VR]
          refine ⟨a, k, ?_⟩
          by_cases e0 : k = 0
          · simp [e0]
          · simp [e0, Addr.add]
    · cases h
  · rename_i id off len c
    split at h
    · -- a fixed capacity
      rename_i cp
      simp only [VR] at hx
      obtain ⟨B, k, hB, rfl, rfl⟩ := hx
      cases hm : bnd k mx k with
      | none => rw [hm] at h; simp at h
      | some m =>
        rw [hm] at h; simp only at h
        obtain ⟨h1, l1, hh, hl⟩ := vCut_bnds h
        have hb := bounds_sound (P := P) (w := w) (φ := φ) (isSlice := true) (len := len) (cap := k) hm hh hl rl rh rm hmh
        refine ⟨_, run_slice_slice hu hs hb, ?_⟩
        have := vCut_sound hB h hh hl
        by_cases e0 : m = l1
        · rw [if_pos e0] at this ⊢; exact this
        · rw [if_neg e0] at this ⊢; simpa [add_lit] using this
    · -- an open one
      rename_i e'
      cases he : Nat.beq e' n with
      | false => rw [he] at h; simp at h
      | true =>
        rw [he] at h; simp only [cond_true] at h
        rw [beq_iff] at he; subst he
        simp only [VR] at hx
        obtain ⟨B, k, hB, rfl, hpos, hk, hlen, hoff⟩ := hx
        split at h
        · -- without max
          simp only [OR] at rm; subst rm
          cases hh : bnd len hi len with
          | none => rw [hh] at h; simp at h
          | some h1 =>
            rw [hh] at h; simp only at h
            cases hl : bnd 0 lo h1 with
            | none => rw [hl] at h; simp at h
            | some l1 =>
              rw [hl] at h; simp only at h
              have h1le := bnd_le hh (Nat.le_refl _)
              have l1le := bnd_le hl (Nat.zero_le _)
              have hb := bounds_sound (P := P) (w := w) (φ := φ) (isSlice := true) (len := len) (cap := k) (mx := none) (mx' := none) (m := k) rfl (bnd_mono hh hlen) hl rl rh rfl (.inl rfl)
              refine ⟨_, run_slice_slice hu hs hb, ?_⟩
              cases hb0 : Nat.beq l1 0 with
              | true =>
                rw [hb0] at h; simp only [cond_true, Option.some.injEq] at h; subst h
                rw [beq_iff] at hb0; subst hb0
                simp only [VR]
                refine ⟨B, k, hB, ?_, hpos, hk, by omega, hoff⟩
                by_cases e0 : k = 0
                · simp [e0]
                · simp [e0, add_lit]
              | false =>
                rw [hb0] at h; simp only [cond_false] at h
                cases hb1 : Nat.blt l1 len with
                | true =>
                  rw [hb1] at h; simp only [cond_true, Option.some.injEq] at h; subst h
                  have hlt := blt_iff.1 hb1
                  obtain ⟨ar1, ar2⟩ := cut_arith (t := B.tot) (off := off) (l := l1) hpos (by omega)
                  simp only [VR]
                  refine ⟨B, k - l1, hB, ?_, hpos, ?_, ?_, ?_⟩
                  · rw [if_neg (by omega)]
                    simp only [Option.map_some, add_lit]
                    show Value.slice (some ⟨B.b, B.o + off + l1 * e', none⟩) (h1 - l1) (k - l1) = .slice (some ⟨B.b, B.o + (off + l1 * e'), none⟩) (h1 - l1) (k - l1)
                    rw [Nat.add_assoc]
                  · show k - l1 = (B.tot - (off + l1 * e')) / e'
                    rw [ar1, hk]
                  · show h1 - l1 ≤ k - l1
                    omega
                  · exact ar2 hoff
                | false =>
                  rw [hb1] at h; simp only [cond_false] at h
                  cases hb2 : Nat.beq h1 l1 with
                  | false => rw [hb2] at h; simp at h
                  | true =>
                    rw [hb2] at h; simp only [cond_true, Option.some.injEq] at h; subst h
                    rw [beq_iff] at hb2; subst hb2
                    simp only [VR]
                    by_cases e0 : k = h1
                    · exact ⟨⟨B.b, B.o + off, none⟩, k - h1, by rw [if_pos e0, Nat.sub_self]⟩
                    · exact ⟨(⟨B.b, B.o + off, none⟩ : Addr).add (h1 * e'), k - h1, by rw [if_neg e0, Nat.sub_self]; rfl⟩
        · -- with max
          rename_i mxv
          cases hm : bnd len (some mxv) len with
          | none => rw [hm] at h; simp at h
          | some m =>
            rw [hm] at h; simp only at h
            obtain ⟨h1, l1, hh, hl⟩ := vCut_bnds h
            have hm' : bnd k (some mxv) k = some m := (bnd_some_any k mxv k).trans ((bnd_some_any len mxv k).symm.trans (bnd_mono hm hlen))
            have hb := bounds_sound (P := P) (w := w) (φ := φ) (isSlice := true) (len := len) (cap := k) hm' hh hl rl rh rm hmh
            refine ⟨_, run_slice_slice hu hs hb, ?_⟩
            have := vCut_sound hB h hh hl
            by_cases e0 : m = l1
            · rw [if_pos e0] at this ⊢; exact this
            · rw [if_neg e0] at this ⊢; simpa [add_lit] using this
  · cases h

theorem sla_sound {P : Program} {w : World} {φ : Phi} {t e : TypeId} {N n : Nat} {x v : AV} {x' : Value} {lo hi mx : Option AV} {lo' hi' mx' : Option Value} (hu : P.underlying t = some (.array N e)) (hs : sizT P e = some n)
    (h : vSla N n x lo hi mx = some v) (hx : VR φ x x') (rl : OR φ lo lo') (rh : OR φ hi hi') (rm : OR φ mx mx') (hmh : mx = none ∨ hi ≠ none) :
    ∃ z, (Instr.sliceAt t x' lo' hi' mx').run P w = .ok z w ∧ VR φ v z := by
  unfold vSla at h
  split at h
  · rename_i id off
    simp only [VR] at hx
    obtain ⟨B, hB, rfl⟩ := hx
    cases hm : bnd N mx N with
    | none => rw [hm] at h; simp at h
    | some m =>
      rw [hm] at h; simp only at h
      obtain ⟨h1, l1, hh, hl⟩ := vCut_bnds h
      have hb := bounds_sound (P := P) (w := w) (φ := φ) (isSlice := false) (len := N) (cap := N) hm hh hl rl rh rm hmh
      refine ⟨_, ?_, vCut_sound hB h hh hl⟩
      simp only [Instr.sliceAt, Sem.run_bind, run_underlying' hu, Result.andThen_ok, Instr.sureAddr, Sem.run_pure, hb, run_sizeOf' hs, add_lit]
  · cases h

/-! ### Fields and elements -/
theorem fa_sound {P : Program} {w : World} {φ : Phi} {s : TypeId} {fs : Array Field} {f n : Nat} {fl : Field} {x v : AV} {x' : Value} (hu : P.underlying s = some (.struct fs)) (hf : fs[f]? = some fl) (hs : sizT P fl.type = some (n + 1))
    (h : vFa fl.offset x = some v) (hx : VR φ x x') : ∃ z, (Instr.fieldAt s x' f).run P w = .ok z w ∧ VR φ v z := by
  have hp : ∀ a : Addr, (fieldPlace a fl).run P w = .ok (a.add fl.offset) w := fun a => by
    simp [fieldPlace, run_sizeOf' hs]
  unfold vFa at h
  split at h
  · cases h; simp only [VR] at hx; obtain ⟨B, hB, rfl⟩ := hx
    refine ⟨_, by simp [Instr.fieldAt, run_underlying' hu, hf, Instr.sureAddr, hp]; rfl, ?_⟩
    simp only [VR]; exact ⟨B, hB, by rw [add_lit, Nat.add_assoc]; rfl⟩
  · cases h; simp only [VR] at hx; subst hx
    refine ⟨_, by simp [Instr.fieldAt, run_underlying' hu, hf, Instr.sureAddr, hp]; rfl, ?_⟩
    simp only [VR]; rw [add_lit]; rfl
  · cases h

theorem headV_some {l : List AV} {v : AV} (h : headV l = some v) : l[0]? = some v := by cases l <;> simp [headV] at h ⊢; exact h

theorem part_agg {P : Program} {w : World} {φ : Phi} {t : TypeId} {n off : Nat} {cs l : List AV} {xs : List Value} (ha : aggT P t = some true) (hs : sizT P t = some n) (hc : cut cs off n = some l) (hx : VRL φ cs xs) :
    ∃ z, (part t xs.toArray off).run P w = .ok z w ∧ VR φ (.agg l) z := by
  obtain ⟨h1, h2, rfl⟩ := cut_some hc
  refine ⟨.agg (xs.toArray.extract off (off + n)), by simp only [part, Sem.run_bind, run_isAgg' ha, Result.andThen_ok, if_true, run_sizeOf' hs, Sem.run_pure], ?_⟩
  simp only [VR]
  refine ⟨(xs.drop off).take n, ?_, (hx.drop off).take n⟩
  congr 1
  apply Array.ext'
  simp
theorem part_one {P : Program} {w : World} {φ : Phi} {t : TypeId} {off : Nat} {cs : List AV} {v : AV} {xs : List Value} (ha : aggT P t = some false) (hc : headV (dropN off cs) = some v) (hx : VRL φ cs xs) :
    ∃ z, (part t xs.toArray off).run P w = .ok z w ∧ VR φ v z := by
  have h0 := headV_some hc
  rw [dropN_eq, List.getElem?_drop] at h0
  obtain ⟨y, h1, h2⟩ := hx.get h0
  have h1' : xs[off]? = some y := by simpa using h1
  exact ⟨y, by simp [part, run_isAgg' ha, h1'], h2⟩

theorem fd_sound {P : Program} {w : World} {φ : Phi} {t : TypeId} {fs : Array Field} {f : Nat} {fl : Field} {x v : AV} {x' : Value} {no : Option Nat} (hu : P.underlying t = some (.struct fs)) (hf : fs[f]? = some fl)
    (hn : match no with | some n => aggT P fl.type = some true ∧ sizT P fl.type = some n | none => aggT P fl.type = some false)
    (h : vFd fl.offset no x = some v) (hx : VR φ x x') : ∃ z, (Instr.field t x' f).run P w = .ok z w ∧ VR φ v z := by
  unfold vFd at h
  split at h
  · rename_i cs
    simp only [VR] at hx
    obtain ⟨xs, rfl, hx⟩ := hx
    cases no with
    | none =>
      simp only at h hn
      obtain ⟨z, h1, h2⟩ := part_one (P := P) (w := w) hn h hx
      exact ⟨z, by simp only [Instr.field, Sem.run_bind, run_underlying' hu, Result.andThen_ok, hf, asAgg, Sem.run_pure]; exact h1, h2⟩
    | some n =>
      simp only at h hn
      cases hc : cut cs fl.offset n with
      | none => rw [hc] at h; simp [aggO] at h
      | some l =>
        rw [hc] at h; simp [aggO] at h; subst h
        obtain ⟨z, h1, h2⟩ := part_agg (P := P) (w := w) hn.1 hn.2 hc hx
        exact ⟨z, by simp only [Instr.field, Sem.run_bind, run_underlying' hu, Result.andThen_ok, hf, asAgg, Sem.run_pure]; exact h1, h2⟩
  · cases h

theorem idx_sound {φ : Phi} {i : AV} {i' : Value} {n k : Nat} (h : idx i n = some k) (hi : VR φ i i') : ∃ kk, i' = .int kk (k : Int) ∧ k < n := by
  unfold idx at h
  split at h
  · rename_i kk a
    cases hb : Nat.blt a n with
    | false => rw [hb] at h; simp at h
    | true =>
      rw [hb] at h; simp only [cond_true, Option.some.injEq] at h; subst h
      simp only [VR] at hi; subst hi
      exact ⟨kk, rfl, blt_iff.1 hb⟩
  · cases h

theorem ia_sound {P : Program} {w : World} {φ : Phi} {t e : TypeId} {n : Nat} {x i v : AV} {x' i' : Value} (hu : P.underlying t = some (.slice e)) (hs : sizT P e = some n)
    (h : vIa n x i = some v) (hx : VR φ x x') (hi : VR φ i i') : ∃ z, (Instr.indexAt t x' i').run P w = .ok z w ∧ VR φ v z := by
  unfold vIa at h
  split at h
  · rename_i id off len c
    cases hk : idx i len with
    | none => rw [hk] at h; simp at h
    | some k =>
      rw [hk] at h; simp only [Option.some.injEq] at h; subst h
      obtain ⟨kk, rfl, hlt⟩ := idx_sound hk hi
      simp only [VR] at hx
      obtain ⟨B, cp, hB, rfl, _⟩ := hx
      have hlt' : (0 : Int) ≤ (k : Int) ∧ (k : Int) < (len : Int) := ⟨by omega, by omega⟩
      refine ⟨_, ?_, by simp only [VR]; exact ⟨B, hB, rfl⟩⟩
      simp only [Instr.indexAt, Sem.run_bind, asIntOf, Sem.run_pure, Result.andThen_ok, run_underlying' hu]
      rw [if_pos hlt']
      simp only [Sem.run_bind, run_sizeOf' hs, Result.andThen_ok, Sem.run_pure, add_lit, Int.toNat_natCast]
      show Result.ok (Value.pointer (some ⟨B.b, B.o + off + k * n, none⟩)) w = .ok (.pointer (some ⟨B.b, B.o + (off + k * n), none⟩)) w
      rw [Nat.add_assoc]
  · cases h
theorem iaa_sound {P : Program} {w : World} {φ : Phi} {t e : TypeId} {N n : Nat} {x i v : AV} {x' i' : Value} (hu : P.underlying t = some (.array N e)) (hs : sizT P e = some n)
    (h : vIaa N n x i = some v) (hx : VR φ x x') (hi : VR φ i i') : ∃ z, (Instr.indexAt t x' i').run P w = .ok z w ∧ VR φ v z := by
  unfold vIaa at h
  split at h
  · rename_i id off
    cases hk : idx i N with
    | none => rw [hk] at h; simp at h
    | some k =>
      rw [hk] at h; simp only [Option.some.injEq] at h; subst h
      obtain ⟨kk, rfl, hlt⟩ := idx_sound hk hi
      simp only [VR] at hx
      obtain ⟨B, hB, rfl⟩ := hx
      have hlt' : (0 : Int) ≤ (k : Int) ∧ (k : Int) < (N : Int) := ⟨by omega, by omega⟩
      refine ⟨_, ?_, by simp only [VR]; exact ⟨B, hB, rfl⟩⟩
      simp only [Instr.indexAt, Sem.run_bind, asIntOf, Sem.run_pure, Result.andThen_ok, run_underlying' hu, Instr.sureAddr]
      rw [if_pos hlt']
      simp only [Sem.run_bind, run_sizeOf' hs, Result.andThen_ok, Sem.run_pure, add_lit, Int.toNat_natCast]
      show Result.ok (Value.pointer (some ⟨B.b, B.o + off + k * n, none⟩)) w = .ok (.pointer (some ⟨B.b, B.o + (off + k * n), none⟩)) w
      rw [Nat.add_assoc]
  · rename_i g off
    cases hk : idx i N with
    | none => rw [hk] at h; simp at h
    | some k =>
      rw [hk] at h; simp only [Option.some.injEq] at h; subst h
      obtain ⟨kk, rfl, hlt⟩ := idx_sound hk hi
      simp only [VR] at hx; subst hx
      have hlt' : (0 : Int) ≤ (k : Int) ∧ (k : Int) < (N : Int) := ⟨by omega, by omega⟩
      refine ⟨_, ?_, by simp only [VR]; rfl⟩
      simp only [Instr.indexAt, Sem.run_bind, asIntOf, Sem.run_pure, Result.andThen_ok, run_underlying' hu, Instr.sureAddr]
      rw [if_pos hlt']
      simp only [Sem.run_bind, run_sizeOf' hs, Result.andThen_ok, Sem.run_pure, add_lit, Int.toNat_natCast]
      rfl
  · cases h
theorem ixs_sound {P : Program} {w : World} {φ : Phi} {t : TypeId} {x i v : AV} {x' i' : Value} (hu : P.underlying t = some .string) (h : vIxs x i = some v) (hx : VR φ x x') (hi : VR φ i i') :
    ∃ z, (Instr.index t x' i').run P w = .ok z w ∧ VR φ v z := by
  unfold vIxs at h
  split at h
  · split at h
    · rename_i k n
      simp only [VR] at hx hi
      obtain ⟨s, rfl, rfl⟩ := hx
      subst hi
      rw [getS_eq, nats_get] at h
      cases hg : s[n]? with
      | none => rw [hg] at h; simp [byteO] at h
      | some b =>
        rw [hg] at h; simp [byteO] at h; subst h
        refine ⟨_, ?_, by simp only [VR]; rfl⟩
        have h0 : (0 : Int) ≤ Int.ofNat n := Int.natCast_nonneg n
        simp only [Instr.index, Sem.run_bind, asIntOf, Sem.run_pure, Result.andThen_ok, run_underlying' hu]
        rw [if_pos h0]
        have : s[(Int.ofNat n).toNat]? = some b := hg
        rw [this]; rfl
    · cases h
  · cases h
theorem ixa_sound {P : Program} {w : World} {φ : Phi} {t e : TypeId} {N n : Nat} {ag : Bool} {x i v : AV} {x' i' : Value} (hu : P.underlying t = some (.array N e)) (hs : sizT P e = some n) (ha : aggT P e = some ag)
    (h : vIxa N n ag x i = some v) (hx : VR φ x x') (hi : VR φ i i') : ∃ z, (Instr.index t x' i').run P w = .ok z w ∧ VR φ v z := by
  unfold vIxa at h
  split at h
  · rename_i cs
    cases hk : idx i N with
    | none => rw [hk] at h; simp at h
    | some k =>
      rw [hk] at h; simp only at h
      obtain ⟨kk, rfl, hlt⟩ := idx_sound hk hi
      simp only [VR] at hx
      obtain ⟨xs, rfl, hx⟩ := hx
      have hlt' : (0 : Int) ≤ (k : Int) ∧ (k : Int) < (N : Int) := ⟨by omega, by omega⟩
      have hrun : ∀ z, (part e xs.toArray (k * n)).run P w = .ok z w → (Instr.index t (.agg xs.toArray) (.int kk (k : Int))).run P w = .ok z w := fun z hz => by
        simp only [Instr.index, Sem.run_bind, asIntOf, Sem.run_pure, Result.andThen_ok, run_underlying' hu]
        rw [if_pos hlt']
        simp only [Sem.run_bind, run_sizeOf' hs, Result.andThen_ok, Int.toNat_natCast]
        exact hz
      cases ag with
      | true =>
        simp only [cond_true] at h
        cases hc : cut cs (Nat.mul k n) n with
        | none => rw [hc] at h; simp [aggO] at h
        | some l =>
          rw [hc] at h; simp [aggO] at h; subst h
          obtain ⟨z, h1, h2⟩ := part_agg (P := P) (w := w) ha hs hc hx
          exact ⟨z, hrun z h1, h2⟩
      | false =>
        simp only [cond_false] at h
        obtain ⟨z, h1, h2⟩ := part_one (P := P) (w := w) ha h hx
        exact ⟨z, hrun z h1, h2⟩
  · cases h
theorem ex_sound {P : Program} {w : World} {φ : Phi} {i : Nat} {x v : AV} {x' : Value} (h : vEx x i = some v) (hx : VR φ x x') : ∃ z, (Instr.extract x' i).run P w = .ok z w ∧ VR φ v z := by
  unfold vEx at h
  split at h
  · simp only [VR] at hx
    obtain ⟨xs, rfl, hx⟩ := hx
    have h0 := headV_some h
    rw [dropN_eq, List.getElem?_drop] at h0
    obtain ⟨y, h1, h2⟩ := hx.get h0
    have h1' : xs[i]? = some y := by simpa using h1
    exact ⟨y, by simp [Instr.extract, h1'], h2⟩
  · cases h

end Go.Proofs.YtoejmfiaaigpbaaGreatDoor.Ev

/- Part of a verified evaluator of the model's code, generic over the program: a run of the evaluator that answers shows what the model's run answers. No conditions of its own. -/
import Derived.Test.YtoejmfiaaigpbaaGreatDoorEvOps4
import Derived.Laws.Externs
namespace Go.Proofs.YtoejmfiaaigpbaaGreatDoor.Ev

/-! ### Conversions -/
theorem run_convert_int {P : Program} {w : World} {φ : Phi} {s d : TypeId} {u : TypeDesc} {k : IntKind} {x v : AV} {x' : Value} (hs : P.underlying s = some u) (hd : P.underlying d = some (.int k)) (h : vCi k x = some v) (hx : VR φ x x') :
    ∃ z, (convert s d x').run P w = .ok z w ∧ VR φ v z := by
  unfold vCi at h
  split at h
  · cases h; simp only [VR] at hx; subst hx
    refine ⟨_, ?_, by simp only [VR]; rfl⟩
    rw [wrapI_eq]
    simp only [convert, Sem.run_bind, run_underlying' hs, run_underlying' hd, Result.andThen_ok]
    cases u <;> rfl
  · cases h
theorem run_convert_ss {P : Program} {w : World} {φ : Phi} {s d : TypeId} {x v : AV} {x' : Value} (hs : P.underlying s = some .string) (hd : P.underlying d = some .string) (h : vCss x = some v) (hx : VR φ x x') :
    ∃ z, (convert s d x').run P w = .ok z w ∧ VR φ v z := by
  unfold vCss at h
  split at h
  · cases h; have hx' := hx; simp only [VR] at hx; obtain ⟨t, rfl, _⟩ := hx
    exact ⟨_, by simp [convert, run_underlying' hs, run_underlying' hd], hx'⟩
  · cases h

theorem nats_encode (n : Nat) (h : n < 128) : nats (Utf8.encode (Int.ofNat n)) = [n] := by
  have e : Utf8.encode (Int.ofNat n) = ⟨#[UInt8.ofNat n]⟩ := by
    have hv : Utf8.valid (Int.ofNat n) = true := by
      show (((0 : Int) ≤ (n : Int) && (n : Int) < 0xD800) || _) = true
      have h1 : decide ((0 : Int) ≤ (n : Int)) = true := decide_eq_true (by omega)
      have h2 : decide ((n : Int) < 0xD800) = true := decide_eq_true (by omega)
      rw [h1, h2]; rfl
    unfold Utf8.encode
    simp only [hv, if_true]
    rw [if_pos (show (Int.ofNat n).toNat < 0x80 from h)]; rfl
  rw [e]; simp [nats]; omega
theorem run_convert_is {P : Program} {w : World} {φ : Phi} {s d : TypeId} {k0 : IntKind} {x v : AV} {x' : Value} (hs : P.underlying s = some (.int k0)) (hd : P.underlying d = some .string) (h : vCis x = some v) (hx : VR φ x x') :
    ∃ z, (convert s d x').run P w = .ok z w ∧ VR φ v z := by
  unfold vCis at h
  split at h
  · rename_i k n
    cases hb : Nat.blt n 128 with
    | false => rw [hb] at h; simp at h
    | true =>
      rw [hb] at h; simp only [cond_true, Option.some.injEq] at h; subst h
      simp only [VR] at hx; subst hx
      exact ⟨_, by simp [convert, run_underlying' hs, run_underlying' hd, Conv.intToString]; rfl, by simp only [VR]; exact ⟨_, rfl, nats_encode n (blt_iff.1 hb)⟩⟩
  · cases h

theorem bytesV_vrl {φ : Phi} : ∀ (l : List UInt8), VRL φ (bytesV (l.map (·.toNat))) (l.map fun b => Value.int .u8 (b.toNat : Int))
  | [] => VRL.nil φ
  | b :: r => VRL.cons (by simp only [VR]; rfl) (bytesV_vrl r)
theorem bytesV_length : ∀ l : List Nat, (bytesV l).length = l.length
  | [] => rfl
  | _ :: r => by simp [bytesV, bytesV_length r]

theorem unbytes_sound {φ : Phi} : ∀ {l : List AV} {b : List Nat} {xs : List Value}, unbytes l = some b → VRL φ l xs → ∃ us : List UInt8, b = us.map (·.toNat) ∧ xs = us.map fun u => Value.int .u8 (u.toNat : Int)
  | [], b, xs, h, hx => by simp [unbytes] at h; subst h; simp only [VRL] at hx; subst hx; exact ⟨[], rfl, rfl⟩
  | v :: r, b, xs, h, hx => by
    simp only [unbytes] at h
    split at h
    · rename_i n
      cases hb : Nat.blt n 256 with
      | false => rw [hb] at h; simp at h
      | true =>
        rw [hb] at h; simp only [cond_true] at h
        cases hr : unbytes r with
        | none => rw [hr] at h; simp at h
        | some l =>
          rw [hr] at h; simp at h; subst h
          simp only [VRL] at hx
          obtain ⟨y, ys, rfl, h1, h2⟩ := hx
          obtain ⟨us, rfl, rfl⟩ := unbytes_sound hr h2
          simp only [VR] at h1; subst h1
          have hlt := blt_iff.1 hb
          have e : (UInt8.ofNat n).toNat = n := by simp; omega
          exact ⟨UInt8.ofNat n :: us, by simp only [List.map_cons, e], by simp only [List.map_cons, e]; rfl⟩
    · cases h

theorem push_nats (s : ByteArray) : ∀ us : List UInt8, (us.foldl (fun (s : ByteArray) u => s.push u) s).data.toList = s.data.toList ++ us
  | [] => by simp
  | u :: us => by rw [List.foldl_cons, push_nats]; simp [ByteArray.push]

/-- the loop of 'string(b)' -/
theorem run_bytesLoop {P : Program} {w : World} (g : Value → ByteArray → Sem (ForInStep ByteArray)) (hg : ∀ n r, g (.int .u8 n) r = pure (ForInStep.yield (r.push (UInt8.ofNat n.toNat)))) : ∀ (us : List UInt8) (s : ByteArray),
    (forIn (us.map fun u => Value.int .u8 (u.toNat : Int)) s g).run P w = .ok (us.foldl (fun (s : ByteArray) u => s.push u) s) w
  | [], s => by simp
  | u :: us, s => by
    simp only [List.map_cons, List.forIn_cons, List.foldl_cons, hg, Sem.run_bind, Sem.run_pure, Result.andThen_ok]
    have : UInt8.ofNat ((u.toNat : Int)).toNat = u := by simp
    rw [this]
    exact run_bytesLoop g hg us (s.push u)

theorem cbs_sound {P : Program} {w0 : World} {φ : Phi} {st : St} {w : World} (r : Rel P w0 φ st.get w) {s d e : TypeId} {x v : AV} {x' : Value} (hs : P.underlying s = some (.slice e)) (hd : P.underlying d = some .string) (he : P.underlying e = some (.int .u8))
    (h : vCbs st x = some v) (hx : VR φ x x') : ∃ z, (convert s d x').run P w = .ok z w ∧ VR φ v z := by
  unfold vCbs at h
  split at h
  · cases h; simp only [VR] at hx; subst hx
    exact ⟨.string .empty, by simp [convert, run_underlying' hs, run_underlying' hd, run_underlying' he, Conv.bytesToString], by simp only [VR]; exact ⟨_, rfl, rfl⟩⟩
  · cases h; simp only [VR] at hx; obtain ⟨a, k, rfl⟩ := hx
    refine ⟨.string .empty, ?_, by simp only [VR]; exact ⟨_, rfl, rfl⟩⟩
    simp [convert, run_underlying' hs, run_underlying' hd, run_underlying' he, Conv.bytesToString, loadCells, loadCellsFrom]
  · rename_i id off n c
    have key : ∀ cells, (∀ l, cut cells off n = some l → loadC [] st (.ptr id off) n = some l) → vStr (unbytesO (cut cells off n)) = some v → ∃ z, (convert s d x').run P w = .ok z w ∧ VR φ v z := by
      intro cells hlc h
      have hl : ∃ l b, cut cells off n = some l ∧ unbytes l = some b ∧ v = .str b := by
        cases hc : cut cells off n with
        | none => rw [hc] at h; simp [unbytesO, vStr] at h
        | some l =>
          rw [hc] at h; simp only [unbytesO] at h
          cases hu : unbytes l with
          | none => rw [hu] at h; simp [vStr] at h
          | some b => rw [hu] at h; simp [vStr] at h; exact ⟨l, b, rfl, hu, h.symm⟩
      obtain ⟨l, b, hc, hu, rfl⟩ := hl
      simp only [VR] at hx
      obtain ⟨B, k, hB, rfl, _⟩ := hx
      have hld : loadC [] st (.ptr id off) n = some l := hlc l hc
      obtain ⟨a, xs, ea, hlen, hxs, hcell⟩ := loadC_sound r (G := []) (fun g cs h => by simp at h) hld (x := .pointer (some ⟨B.b, B.o + off, none⟩)) (by simp only [VR]; exact ⟨B, hB, rfl⟩)
      cases ea
      obtain ⟨us, rfl, rfl⟩ := unbytes_sound hu hxs
      have hrun := run_loadCells_list (P := P) w ⟨B.b, B.o + off, none⟩ _ hcell
      rw [hlen] at hrun
      refine ⟨.string (us.foldl (fun (s : ByteArray) u => s.push u) .empty), ?_, by simp only [VR]; exact ⟨_, rfl, by unfold nats; rw [push_nats]; rfl⟩⟩
      simp only [convert, Sem.run_bind, run_underlying' hs, run_underlying' hd, run_underlying' he, Result.andThen_ok, Conv.bytesToString, hrun]
      rw [← Array.forIn_toList, run_bytesLoop _ (fun n r => rfl) us ByteArray.empty]; simp
    split at h
    · rename_i t cells ext fz hg
      exact key cells (fun l hc => by simp only [loadC, hg]; exact hc) h
    · rename_i cells hg
      exact key cells (fun l hc => by simp only [loadC, hg]; exact hc) h
    · cases h
  · cases h

/-! ### Bounds -/
theorem bnd_sound {P : Program} {w : World} {φ : Phi} {d n k : Nat} {i : Option AV} {i' : Option Value} (h : bnd d i n = some k) (hi : OR φ i i') :
    (i' = none ∧ i = none ∧ k = d) ∨ ∃ x, i' = some x ∧ i ≠ none ∧ k ≤ n ∧ ∀ code, (Instr.sliceBound x n code).run P w = .ok k w := by
  unfold bnd at h
  split at h
  · cases h; simp only [OR] at hi; exact .inl ⟨hi, rfl, rfl⟩
  · rename_i kk a
    cases hb : Nat.ble a n with
    | false => rw [hb] at h; simp at h
    | true =>
      rw [hb] at h; simp only [cond_true, Option.some.injEq] at h; subst h
      simp only [OR] at hi
      obtain ⟨x, rfl, hx⟩ := hi
      simp only [VR] at hx; subst hx
      have hle := ble_iff.1 hb
      refine .inr ⟨_, rfl, by simp, hle, fun code => ?_⟩
      have h1 : (0 : Int) ≤ Int.ofNat a ∧ Int.ofNat a ≤ (n : Int) := ⟨Int.natCast_nonneg a, Int.ofNat_le.2 hle⟩
      simp only [Instr.sliceBound, Sem.run_bind, asIntOf, Sem.run_pure, Result.andThen_ok]
      rw [if_pos h1]; rfl
  · cases h

/-- the three bounds: capacity, high, low -/
theorem bounds_sound {P : Program} {w : World} {φ : Phi} {isSlice : Bool} {len cap m h l : Nat} {lo hi mx : Option AV} {lo' hi' mx' : Option Value}
    (hm : bnd cap mx cap = some m) (hh : bnd len hi m = some h) (hl : bnd 0 lo h = some l) (rl : OR φ lo lo') (rh : OR φ hi hi') (rm : OR φ mx mx') (hmh : mx = none ∨ hi ≠ none) :
    (Instr.sliceBounds isSlice len cap lo' hi' mx').run P w = .ok (l, h, m) w := by
  rcases bnd_sound (P := P) (w := w) hm rm with ⟨rfl, rfl, rfl⟩ | ⟨xm, rfl, nm, _, em⟩
  · rcases bnd_sound (P := P) (w := w) hh rh with ⟨rfl, rfl, rfl⟩ | ⟨xh, rfl, nh, _, eh⟩ <;>
      rcases bnd_sound (P := P) (w := w) hl rl with ⟨rfl, rfl, rfl⟩ | ⟨xl, rfl, nl, _, el⟩ <;> simp [Instr.sliceBounds, *]
  · rcases bnd_sound (P := P) (w := w) hh rh with ⟨rfl, rfl, rfl⟩ | ⟨xh, rfl, nh, _, eh⟩
    · rcases hmh with e | e
      · exact absurd e nm
      · exact absurd rfl e
    · rcases bnd_sound (P := P) (w := w) hl rl with ⟨rfl, rfl, rfl⟩ | ⟨xl, rfl, nl, _, el⟩ <;> simp [Instr.sliceBounds, *]

theorem bnd_le {d n k : Nat} {i : Option AV} (h : bnd d i n = some k) (hd : d ≤ n) : k ≤ n := by
  unfold bnd at h
  split at h
  · cases h; exact hd
  · rename_i kk a
    cases hb : Nat.ble a n with
    | false => rw [hb] at h; simp at h
    | true => rw [hb] at h; simp only [cond_true, Option.some.injEq] at h; subst h; exact ble_iff.1 hb
  · cases h

end Go.Proofs.YtoejmfiaaigpbaaGreatDoor.Ev

/- Part of a verified evaluator of the model's code, generic over the program: a run of the evaluator that answers shows what the model's run answers. No conditions of its own. -/
import Derived.Test.YtionbncghjdeoaaGreatDoorEvB
import Derived.Laws.Append
import Derived.Lib.UnsafeStr
import Derived.KernelRfl
set_option linter.unusedSimpArgs false
set_option linter.unusedVariables false
set_option linter.defProp false
open Option.some renaming injEq → zv
open Prod.mk renaming injEq → zw
open Bool renaming and_eq_true → zl, or_eq_true → zn, eq_false_iff → zq, or_eq_false_iff → yo, true_and → yz
open Nat renaming beq → za, ble → ze, mul → zb, le_refl → zp, add_mul → yh, blt → zd, add → zc, le_div_iff_mul_le → ym, mul_le_mul_right → yq, testBit_or → yv, lt_succ_self → yx, zero_add → yy, add_zero → yB, zero_le → zL
open Array renaming getElem?_toList → zy, length_toList → yg, ext' → yj, toArray_toList → zP, toList_append → yA
open List renaming length_append → yd, getElem?_append_left → ye, map_toArray → yf, getElem?_take → zE, take_of_length_le → zG, eq_nil_of_length_eq_zero → yi, getElem?_drop → zD, getElem?_eq_getElem → yl, map_cons → zA, take_append_of_le_length → yu, getElem?_append_right → yw, map_nil → zV, drop_zero → z4, length → yC
open Option renaming map_none → yr
namespace Go.Proofs.YtionbncghjdeoaaGreatDoor.Ev
variable {P : Program} {w0 w w' : World} {s s' : St} {v : AV} {tm : Trie AV} {id n esz bytes : Nat} {o : AObj} {op : IOp} {t : TypeId}
theorem zsd {φ : Phi} (r : Rel P w0 φ s.get w) (hwf : Wf s) (hf : φ s.next = none) {x : AV} {x' : Value} (hu : P.underlying t = some .string) (h : oRs s x = some (v, s')) (hx : VR φ x x') :
  ∃ φ' y w', (Instr.range t x').run P w = .ok y w' ∧ Step P w0 φ s w φ' s' w' ∧ VR φ' v y := by
 unfold oRs at h; split at h
 ·cases h; simp only [VR] at hx; obtain ⟨bs, rfl, rfl⟩ := hx; refine ⟨_, _, _, ?_, Step.alloc r hwf hf (w' := { w with heap := w.heap.push (.stringIter bs 0) }) (tot := 0) rfl rfl rfl rfl ⟨rfl, bs, vW _, rfl⟩, Xj⟩
  simp [Instr.range, xj hu]
 ·cases h
theorem zv3 (s : ByteArray) (i k : Nat) : ((qK s).drop i)[k]? = if i + k < s.size then some (s.get! (i + k)).toNat else none := by
 rw [zD, HC]; by_cases h : i + k < s.size
 ·rw [if_pos h, ByteArray.getElem?_lt' s _ h]; have : s.get! (i + k) = s[i + k] := by
   show s.data[i + k]! = s.data[i + k]; exact getElem!_pos s.data (i + k) h
  rw [this]; rfl
 ·rw [if_neg h, ByteArray.getElem?_ge' s _ h]; rfl
theorem Um (c : Nat) : Utf8.valid (c : Int) = wH c := JV c
theorem zxb {s : ByteArray} {i : Nat} (h : i < s.size) : Utf8.decode s i = ki ((qK s).drop i) := by
 have key := zv3 s i; generalize hl : (qK s).drop i = l at key; have hb : ∀ a b : Nat, za a b = (a == b) := fun a b => by
  cases h' : za a b with
  | true => rw [xG] at h'; simp [h']
  | false => symm; rw [beq_eq_false_iff_ne]; intro he; rw [xG.2 he] at h'; cases h'
 have hle : ∀ a b : Nat, ze a b = decide (a ≤ b) := fun a b => by
  cases h' : ze a b with
  | true => rw [decide_eq_true (xN.1 h')]
  | false => symm; exact decide_eq_false (fun he => by rw [xN.2 he] at h'; cases h')
 have k0 := key 0; rw [if_pos oM] at k0; unfold Utf8.decode; cases l with
 | nil => simp at k0
 | cons b0 r =>
  have k0' : (s.get! (i + 0)).toNat = b0 := by simpa using k0.symm
  simp only [k0', ki, kh]; by_cases h0 : b0 < 128
  ·rw [if_pos h0, if_pos h0]
  rw [if_neg h0, if_neg h0]; have k1 := key 1; cases r with
  | nil =>
   have n1 : ¬ i + 1 < s.size := fun hh => by rw [if_pos hh] at k1; simp at k1
   simp [n1]; rfl
  | cons b1 r =>
   have l1 : i + 1 < s.size := by
    by_cases hh : i + 1 < s.size
    ·exact hh
    ·rw [if_neg hh] at k1; simp at k1
   rw [if_pos l1] at k1; have k1' : (s.get! (i + 1)).toNat = b1 := by simpa using k1.symm
   simp only [k1', l1, decide_true, yz, Us, hb, gP, hle]; by_cases h6 : (b0 / 32 == 6 && b1 / 64 == 2) = true
   ·rw [if_pos h6]; show _ = bif (b0 / 32 == 6 && b1 / 64 == 2) then _ else _; rw [h6, cond_true]; by_cases h7 : 128 ≤ b0 % 32 * 64 + b1 % 64
    ·rw [if_pos h7]; show _ = bif decide (128 ≤ b0 % 32 * 64 + b1 % 64) then _ else _; rw [decide_eq_true h7]; rfl
    ·rw [if_neg h7]; show _ = bif decide (128 ≤ b0 % 32 * 64 + b1 % 64) then _ else _; rw [decide_eq_false h7]; rfl
   rw [if_neg h6]; have h6' : (b0 / 32 == 6 && b1 / 64 == 2) = false := by simpa using h6
   show _ = bif (b0 / 32 == 6 && b1 / 64 == 2) then _ else _; rw [h6', cond_false]; have k2 := key 2; cases r with
   | nil =>
    have n2 : ¬ i + 2 < s.size := fun hh => by rw [if_pos hh] at k2; simp at k2
    simp [n2]; rfl
   | cons b2 r =>
    have l2 : i + 2 < s.size := by
     by_cases hh : i + 2 < s.size
     ·exact hh
     ·rw [if_neg hh] at k2; simp at k2
    rw [if_pos l2] at k2; have k2' : (s.get! (i + 2)).toNat = b2 := by simpa using k2.symm
    simp only [k2', l2, decide_true, yz, j5, Um]; by_cases h8 : (b0 / 16 == 14 && b1 / 64 == 2 && b2 / 64 == 2) = true
    ·rw [if_pos h8]; show _ = bif (b0 / 16 == 14 && b1 / 64 == 2 && b2 / 64 == 2) then _ else _; rw [h8, cond_true]; by_cases h9 : 2048 ≤ b0 % 16 * 4096 + b1 % 64 * 64 + b2 % 64 ∧ wH (b0 % 16 * 4096 + b1 % 64 * 64 + b2 % 64) = true
     ·rw [if_pos (by simpa using h9)]
      show _ = bif decide (2048 ≤ b0 % 16 * 4096 + b1 % 64 * 64 + b2 % 64) && wH (b0 % 16 * 4096 + b1 % 64 * 64 + b2 % 64) then _ else _; rw [decide_eq_true h9.1, h9.2]; rfl
     ·rw [if_neg (by simpa using h9)]
      show _ = bif decide (2048 ≤ b0 % 16 * 4096 + b1 % 64 * 64 + b2 % 64) && wH (b0 % 16 * 4096 + b1 % 64 * 64 + b2 % 64) then _ else _; have : (decide (2048 ≤ b0 % 16 * 4096 + b1 % 64 * 64 + b2 % 64) && wH (b0 % 16 * 4096 + b1 % 64 * 64 + b2 % 64)) = false := by
       rw [zq]; intro hh; rw [zl, decide_eq_true_iff] at hh; exact h9 hh
      rw [this]; rfl
    rw [if_neg h8]; have h8' : (b0 / 16 == 14 && b1 / 64 == 2 && b2 / 64 == 2) = false := by simpa using h8
    show _ = bif (b0 / 16 == 14 && b1 / 64 == 2 && b2 / 64 == 2) then _ else _; rw [h8', cond_false]; have k3 := key 3; cases r with
    | nil =>
     have n3 : ¬ i + 3 < s.size := fun hh => by rw [if_pos hh] at k3; simp at k3
     simp [n3]; rfl
    | cons b3 r =>
     have l3 : i + 3 < s.size := by
      by_cases hh : i + 3 < s.size
      ·exact hh
      ·rw [if_neg hh] at k3; simp at k3
     rw [if_pos l3] at k3; have k3' : (s.get! (i + 3)).toNat = b3 := by simpa using k3.symm
     simp only [k3', l3, decide_true, yz, pv, Um]; by_cases h10 : (b0 / 8 == 30 && b1 / 64 == 2 && b2 / 64 == 2 && b3 / 64 == 2) = true
     ·rw [if_pos h10]; show _ = bif (b0 / 8 == 30 && b1 / 64 == 2 && b2 / 64 == 2 && b3 / 64 == 2) then _ else _; rw [h10, cond_true]; by_cases h9 : 65536 ≤ b0 % 8 * 262144 + b1 % 64 * 4096 + b2 % 64 * 64 + b3 % 64 ∧ wH (b0 % 8 * 262144 + b1 % 64 * 4096 + b2 % 64 * 64 + b3 % 64) = true
      ·rw [if_pos (by simpa using h9)]
       show _ = bif decide (65536 ≤ b0 % 8 * 262144 + b1 % 64 * 4096 + b2 % 64 * 64 + b3 % 64) && wH (b0 % 8 * 262144 + b1 % 64 * 4096 + b2 % 64 * 64 + b3 % 64) then _ else _; rw [decide_eq_true h9.1, h9.2]; rfl
      ·rw [if_neg (by simpa using h9)]
       show _ = bif decide (65536 ≤ b0 % 8 * 262144 + b1 % 64 * 4096 + b2 % 64 * 64 + b3 % 64) && wH (b0 % 8 * 262144 + b1 % 64 * 4096 + b2 % 64 * 64 + b3 % 64) then _ else _; have : (decide (65536 ≤ b0 % 8 * 262144 + b1 % 64 * 4096 + b2 % 64 * 64 + b3 % 64) && wH (b0 % 8 * 262144 + b1 % 64 * 4096 + b2 % 64 * 64 + b3 % 64)) = false := by
        rw [zq]; intro hh; rw [zl, decide_eq_true_iff] at hh; exact h9 hh
       rw [this]; rfl
     ·rw [if_neg h10]; have h10' : (b0 / 8 == 30 && b1 / 64 == 2 && b2 / 64 == 2 && b3 / 64 == 2) = false := by simpa using h10
      show _ = bif (b0 / 8 == 30 && b1 / 64 == 2 && b2 / 64 == 2 && b3 / 64 == 2) then _ else _; rw [h10']; rfl
theorem ztx {φ : Phi} (r : Rel P w0 φ s.get w) {ty : TypeId} {x : AV} {x' : Value} (h : oNs s x = some (v, s')) (hx : VR φ x x') :
  ∃ y w', (Instr.next x' true ty).run P w = .ok y w' ∧ Step P w0 φ s w φ s' w' ∧ VR φ v y := by
 unfold oNs at h; split at h
 ·rename_i id
  simp only [VR] at hx; obtain ⟨B, hB, rfl⟩ := hx; split at h
  ·rename_i t pos hg
   obtain ⟨B', hB', h0, bs, hb, rfl⟩ := r.obj id _ hg; rw [hB] at hB'; cases hB'; have hgo := qj (P := P) hb (by simp)
   rw [YQ] at h; cases hp : (qK bs).drop pos with
   | nil =>
    rw [hp] at h; simp only [zv, zw] at h; obtain ⟨rfl, rfl⟩ := h; have hge : ¬ pos < bs.size := by
     intro hlt; have := congrArg yC hp; rw [List.length_drop, w9] at this; simp at this; omega
    refine ⟨.tuple #[.bool false], w, ?_, Step.refl r, by simp only [VR]; exact ⟨[.bool false], rfl, VRL.cons (by simp [VR]) (VRL.nil φ)⟩⟩
    simp [Instr.next, h0, hgo, hge]
   | cons b rr =>
    rw [hp] at h; simp only [zv, zw] at h; obtain ⟨rfl, rfl⟩ := h; have hpos : pos < bs.size := by
     have := congrArg yC hp; rw [List.length_drop, w9] at this; simp at this; omega
    have hd := zxb hpos; rw [hp] at hd; refine ⟨.tuple #[.bool true, goInt pos, .int .i32 ((ki (b :: rr)).1 : Int)], _, ?_, Step.setObj r hg hB hb (x' := .stringIter bs (pos + (ki (b :: rr)).2)) ⟨h0, bs, li hb, rfl⟩, ?_⟩
    ·simp [Instr.next, h0, hgo, hpos, hd, vE _ hb (by simp)]
    ·simp only [VR]; exact ⟨[.bool true, goInt pos, .int .i32 ((ki (b :: rr)).1 : Int)], rfl, VRL.cons (by simp [VR]) (VRL.cons (by simp only [VR]; rfl) (VRL.cons (by simp only [VR]; rfl) (VRL.nil φ)))⟩
  ·cases h
 ·cases h
theorem znQ {φ : Phi} (r : Rel P w0 φ s.get w) (hwf : Wf s) (hf : φ s.next = none) {kt e : TypeId} {x : AV} {x' : Value} (hu : P.underlying t = some (.map kt e)) (h : oRm s x = some (v, s')) (hx : VR φ x x') :
  ∃ φ' y w', (Instr.range t x').run P w = .ok y w' ∧ Step P w0 φ s w φ' s' w' ∧ VR φ' v y := by
 unfold oRm at h; split at h
 ·cases h; simp only [VR] at hx; subst hx; refine ⟨_, _, _, ?_, Step.alloc r hwf hf (w' := { w with heap := w.heap.push (.mapIter none 0 #[] 0) }) (tot := 0) rfl rfl rfl rfl ⟨rfl, none, vW _, rfl⟩, Xj⟩
  simp [Instr.range, xj hu]
 ·rename_i id
  simp only [VR] at hx; obtain ⟨B, hB, rfl⟩ := hx; split at h
  ·rename_i es clock hg
   cases h; obtain ⟨ents, hb, hent⟩ := lO r hg hB; have hgo := qj (P := P) hb (by simp)
   refine ⟨_, _, _, ?_, Step.alloc r hwf hf (w' := { w with heap := w.heap.push (.mapIter (some B.b) clock #[] clock) }) (tot := 0) rfl rfl rfl rfl ⟨rfl, some B.b, vW _, B, ?_, rfl⟩, Xj⟩
   ·simp [Instr.range, xj hu, hgo]
   ·exact Phi.set_sub hf _ _ hB
  ·cases h
 ·cases h
theorem Qn (n : Nat) : ∀ l : List Nat, ph n l = l.contains n
 | [] => rfl
 | m :: r => by
  show (bif za n m then true else ph n r) = _; rw [Qn n r, List.contains_cons]; have : za n m = (n == m) := by
   by_cases h : n = m
   ·subst h; simp
   ·rw [beq_eq_false_iff_ne.2 h, zq, ne_eq, Nat.beq_eq]; exact h
  rw [this]; cases (n == m) <;> simp
theorem X0 {φ : Phi} (seen : List Nat) : ∀ {l : List (AV × AV × Nat)} {es : List MapEntry}, EntRel φ l es → EntRel φ (VG seen l) (es.filter fun e => !seen.contains e.born)
 | [], _, h => by simp only [EntRel] at h; subst h; simp [VG, EntRel]
 | p :: l, _, h => by
  obtain ⟨e, es', rfl, h1, h2, h3, h4⟩ := h; simp only [VG, Qn, ← h3]; cases hc : seen.contains e.born with
  | true => simp only [cond_true, List.filter_cons, hc]; exact X0 seen h4
  | false => simp only [cond_false, List.filter_cons, hc]; exact ⟨e, _, rfl, h1, h2, h3, X0 seen h4⟩
theorem QE {φ : Phi} (last : Nat) : ∀ {l : List (AV × AV × Nat)} {es : List MapEntry}, EntRel φ l es → es.all (fun e => decide (e.born ≥ last)) = QD last l
 | [], _, h => by simp only [EntRel] at h; subst h; rfl
 | p :: l, _, h => by
  obtain ⟨e, es', rfl, h1, h2, h3, h4⟩ := h; simp only [QD, List.all_cons, QE last h4, ← h3]; by_cases hc : last ≤ e.born
  ·rw [show ze last e.born = true from xN.2 hc]; simp [hc]
  ·rw [show ze last e.born = false from by rw [zq, ne_eq, xN]; exact hc]; simp [hc]
theorem znB {φ : Phi} (r : Rel P w0 φ s.get w) {ty : TypeId} {x : AV} {x' : Value} (h : oNm s x = some (v, s')) (hx : VR φ x x') :
  ∃ y w', (Instr.next x' false ty).run P w = .ok y w' ∧ Step P w0 φ s w φ s' w' ∧ VR φ v y := by
 have hover : VR φ (.tup [.bool false]) (.tuple #[.bool false]) := by simp only [VR]; exact ⟨[.bool false], rfl, VRL.cons (by simp [VR]) (VRL.nil φ)⟩
 unfold oNm at h; split at h
 ·rename_i id
  simp only [VR] at hx; obtain ⟨B, hB, rfl⟩ := hx; split at h
  ·rename_i since seen last hg
   obtain ⟨B', hB', h0, m', hb, rfl⟩ := r.obj id _ hg; rw [hB] at hB'; cases hB'; have hgo := qj (P := P) hb (by simp)
   simp only [zv, zw] at h; obtain ⟨rfl, rfl⟩ := h; exact ⟨.tuple #[.bool false], w, by simp [Instr.next, h0, hgo], Step.refl r, hover⟩
  ·rename_i m since seen last hg
   obtain ⟨B', hB', h0, m', hb, Bm, hBm, rfl⟩ := r.obj id _ hg; rw [hB] at hB'; cases hB'; have hgo := qj (P := P) hb (by simp)
   split at h
   ·rename_i es clock hgm
    obtain ⟨ents, hbm, hent⟩ := lO r hgm hBm; have hgom := qj (P := P) hbm (by simp)
    cases hgone : Hc seen last es with
    | true => rw [hgone] at h; simp at h
    | false =>
     rw [hgone] at h; simp only [cond_false] at h; have hnogone : ¬ ((!(seen.toArray).isEmpty && !ents.isEmpty && ents.all (·.born ≥ last)) = true) := by
      have e1 : ents.all (fun e => decide (e.born ≥ last)) = QD last es := by rw [← Array.all_toList, QE last hent]
      unfold Hc at hgone; intro hh; simp only [zl, Bool.not_eq_true'] at hh; obtain ⟨⟨a1, a2⟩, a3⟩ := hh; rw [e1] at a3; cases seen with
      | nil => simp at a1
      | cons _ _ =>
       cases es with
       | nil =>
        have := EntRel.length hent; simp at this; have : ents.isEmpty = true := by simpa [Array.isEmpty] using this.symm
        rw [this] at a2; cases a2
       | cons _ _ => simp only at hgone; rw [a3] at hgone; cases hgone
     have hleft := X0 seen hent; have hfl : (ents.filter fun e => !seen.toArray.contains e.born).toList = ents.toList.filter fun e => !seen.contains e.born := by simp
     cases hl : VG seen es with
     | nil =>
      rw [hl] at h hleft; simp only [pa, zv, zw] at h; obtain ⟨rfl, rfl⟩ := h; simp only [EntRel] at hleft; have hempty : (ents.filter fun e => !seen.toArray.contains e.born) = #[] := by apply yj; rw [hfl, hleft]
      refine ⟨.tuple #[.bool false], w, ?_, Step.refl r, hover⟩; simp only [Instr.next, h0, yB, Sem.run_bind, hgo, Result.andThen_ok, hgom]
      rw [if_neg hnogone, hempty]; simp [Question.forced]
     | cons p rest =>
      rw [hl] at h hleft; cases rest with
      | cons _ _ => simp [pa] at h
      | nil =>
       simp only [pa] at h; cases hlt : zd p.2.2 since with
       | false => rw [hlt] at h; simp at h
       | true =>
        rw [hlt] at h; simp only [cond_true, zv, zw] at h; obtain ⟨rfl, rfl⟩ := h; obtain ⟨e, es', heq, h1, h2, h3, h4⟩ := hleft; simp only [EntRel] at h4; subst h4; have hone : (ents.filter fun e => !seen.toArray.contains e.born) = #[e] := by apply yj; rw [hfl, heq]
        have hborn : e.born < since := by rw [h3]; exact wb.1 hlt
        have hnge : ¬ since ≤ e.born := oM; refine ⟨.tuple #[.bool true, e.key, e.val], _, ?_, Step.setObj r hg hB hb (x' := .mapIter (some Bm.b) since (seen.toArray.push e.born) clock) ⟨h0, some Bm.b, ?_, Bm, hBm, rfl⟩, ?_⟩
        ·simp only [Instr.next, h0, yB, Sem.run_bind, hgo, Result.andThen_ok, hgom]
         rw [if_neg hnogone, hone]; simp [Question.forced, hborn, hnge, vE _ hb (by simp)]
        ·rw [li hb]; simp [h3]
        ·simp only [VR]; exact ⟨[.bool true, e.key, e.val], rfl, VRL.cons (by simp [VR]) (VRL.cons h1 (VRL.cons h2 (VRL.nil φ)))⟩
   ·cases h
  ·cases h
 ·cases h
theorem Hk : ∀ {l : List Nat} {b : Nat}, VE l = some b → l.toArray.back? = some b
 | [], _, h => by simp [VE] at h
 | [n], _, h => by simp [VE] at h; subst h; rfl
 | n :: m :: r, b, h => by
  simp only [VE] at h; have := Hk (l := m :: r) h; simp only [List.back?_toArray] at this ⊢
  simpa using this
theorem Jh {φ : Phi} {b : Nat} : ∀ {l : List (AV × AV × Nat)} {es : List MapEntry} {p : AV × AV}, EntRel φ l es → Jg b l = some p → ∃ e, es.find? (·.born == b) = some e ∧ VR φ p.1 e.key ∧ VR φ p.2 e.val
 | [], _, _, _, h => by simp [Jg] at h
 | q :: l, _, p, h, hf => by
  obtain ⟨e, es', rfl, h1, h2, h3, h4⟩ := h; simp only [Jg, ← h3] at hf; cases hb : za e.born b with
  | true =>
   rw [hb] at hf; simp only [cond_true, zv] at hf; subst hf; exact ⟨e, by simp [xG.1 hb], h1, h2⟩
  | false =>
   rw [hb] at hf; simp only [cond_false] at hf; obtain ⟨e', g1, g2⟩ := Jh h4 hf; refine ⟨e', ?_, g2⟩; have : (e.born == b) = false := by
    rw [beq_eq_false_iff_ne]; intro he; rw [xG.2 he] at hb; cases hb
   rw [List.find?_cons, this]; exact g1
theorem zni {φ : Phi} (r : Rel P w0 φ s.get w) {x : AV} {x' : Value} (h : vEn s x = some v) (hx : VR φ x x') : ∃ y, (Instr.entry x').run P w = .ok y w ∧ VR φ v y := by
 unfold vEn at h; split at h
 ·rename_i id
  simp only [VR] at hx; obtain ⟨B, hB, rfl⟩ := hx; split at h
  ·rename_i m since seen stepped hg
   obtain ⟨B', hB', h0, m', hb, Bm, hBm, rfl⟩ := r.obj id _ hg; rw [hB] at hB'; cases hB'; have hgo := qj (P := P) hb (by simp)
   cases hl : VE seen with
   | none => rw [hl] at h; simp at h
   | some b =>
    rw [hl] at h; simp only at h; split at h
    ·rename_i es clock hgm
     obtain ⟨ents, hbm, hent⟩ := lO r hgm hBm; have hgom := qj (P := P) hbm (by simp)
     cases hc : za clock stepped with
     | false => rw [hc] at h; simp at h
     | true =>
      rw [hc] at h; simp only [cond_true] at h; rw [xG] at hc; subst hc; cases hf : Jg b es with
      | none => rw [hf] at h; simp [ztV] at h
      | some p =>
       rw [hf] at h; simp only [ztV, zv] at h; subst h; obtain ⟨e, g1, g2, g3⟩ := Jh hent hf; have g1' : ents.find? (·.born == b) = some e := by rw [← Array.find?_toList]; exact g1
       refine ⟨.tuple #[e.key, e.val], ?_, zoV g2 g3⟩; simp [Instr.entry, h0, hgo, Hk hl, hgom, g1']
    ·cases h
  ·cases h
 ·cases h
theorem Jr {φ : Phi} (r : Rel P w0 φ s.get w) {ts : Array TypeId} {ty : TypeId} {k : LK} {x : AV} {x' : Value} (hts : ts[0]? = some t)
  (hu : match k with | .s => P.underlying t = some .string | .v => ∃ e, P.underlying t = some (.slice e) | .m => ∃ k e, P.underlying t = some (.map k e))
  (h : Qh s k x = some v) (hx : VR φ x x') : ∃ y, (Builtin.len_ ts ty #[x']).run P w = .ok y w ∧ VR φ v y := by
 unfold Qh at h; cases k with
 | s =>
  simp only at h hu; split at h
  ·cases h; simp only [VR] at hx; obtain ⟨b, rfl, rfl⟩ := hx; exact ⟨_, by simp [Builtin.len_, hts, xj hu]; rfl, by simp only [VR, wV, w9]; rfl⟩
  ·cases h
 | v =>
  simp only at h hu; obtain ⟨e, hd⟩ := hu; split at h
  ·cases h; simp only [VR] at hx; subst hx; exact ⟨_, by simp [Builtin.len_, hts, xj hd]; rfl, by simp only [VR]; rfl⟩
  ·cases h; simp only [VR] at hx; obtain ⟨a, k, rfl⟩ := hx; exact ⟨_, by simp [Builtin.len_, hts, xj hd]; rfl, by simp only [VR]; rfl⟩
  ·cases h; simp only [VR] at hx; obtain ⟨B, k, hB, rfl, _⟩ := hx; exact ⟨_, by simp [Builtin.len_, hts, xj hd]; rfl, by simp only [VR]; rfl⟩
  ·cases h; simp only [VR] at hx; obtain ⟨_, ⟨rfl, a, rfl⟩ | ⟨b, o, k, ys, rfl, _⟩⟩ := hx
   ·exact ⟨_, by simp [Builtin.len_, hts, xj hd]; rfl, by simp only [VR]; rfl⟩
   ·exact ⟨_, by simp [Builtin.len_, hts, xj hd]; rfl, by simp only [VR]; rfl⟩
  ·cases h; simp only [VR] at hx; obtain ⟨_, _, _, _, B, ys, _, rfl, _⟩ := hx; exact ⟨_, by simp [Builtin.len_, hts, xj hd]; rfl, by simp only [VR]; rfl⟩
  ·cases h
 | m =>
  simp only at h hu; obtain ⟨kt, e, hd⟩ := hu; split at h
  ·cases h; simp only [VR] at hx; subst hx; exact ⟨_, by simp [Builtin.len_, hts, xj hd]; rfl, by simp only [VR]; rfl⟩
  ·rename_i id
   simp only [VR] at hx; obtain ⟨B, hB, rfl⟩ := hx; split at h
   ·rename_i es clock hg
    cases h; obtain ⟨ents, hb, hent⟩ := lO r hg hB; have hgo := qj (P := P) hb (by simp)
    refine ⟨goInt ents.size, by simp [Builtin.len_, hts, xj hd, hgo], ?_⟩
    simp only [VR, wV, EntRel.length hent]; rfl
   ·cases h
  ·cases h
theorem Step.del {φ : Phi} (r : Rel P w0 φ s.get w) (id : Nat) (hgd : s.get id = some o) (hng : vB o = false := by rfl) : Step P w0 φ s w φ (s.del id) w := by
 have hget : ∀ i o, (s.del id).get i = some o → s.get i = some o := fun i o h => by
  have h1 := xW h; have h2 := wX h; rw [qG (s := s) (s' := s.del id) rfl rfl] at h2; rw [show (s.del id).objs = s.objs.del id from rfl, Trie.get_del] at h1; by_cases e : i = id
  ·rw [if_pos e] at h1; cases h1
  ·rw [if_neg e] at h1; rw [uM, h2]; exact h1
 exact ⟨KG s id (xW hgd) (wX hgd) hng, r.sub hget, fun _ _ => rfl, zp _, fun _ _ _ => rfl, fun i B h1 h2 => absurd (show i < s.next from h2) oM, fun _ _ _ h => h, fun _ _ _ h => .inl h⟩
theorem Step.moveZ {φ : Phi} (r : Rel P w0 φ s.get w) (hf : φ s.next = none) {o' : AObj} {B B' : Blk} {z : Nat → Nat → Option Value} (hg : s.get id = some o) (hB : φ id = some B) (hbb : B'.b = B.b)
  (hother : ∀ b, b ≠ B.b → w'.heap[b]? = w.heap[b]?) (hsz : w'.heap.size = w.heap.size) (hos : w'.os = w.os) (ht : w'.tape = w.tape) (hu : w'.output = w.output)
  (hz1 : ∀ b, b ≠ B.b → ∀ i, z b i = φ.z b i) (hz0 : ∀ i v, φ.z B.b i = some v → z B.b i = some v) (hz2 : ∀ i v, z B.b i = some v → ∃ c e fr, w'.heap[B.b]? = some (.cells c e fr) ∧ c[i]? = some v) (hsep : SepOf o' B' z)
  (ho : ObjRel P ((φ.set s.next B').zset z) w' o' B') (hng : vB o = false) : Step P w0 φ s w ((φ.set s.next B').zset z) ((s.del id).alloc o') w' := by
 have hzs : ∀ b i v, φ.z b i = some v → z b i = some v := fun b i v h => by
  by_cases e : b = B.b
  ·subst e; exact hz0 i v h
  ·rw [hz1 b e]; exact h
 have hsub : Sub φ ((φ.set s.next B').zset z) := ⟨(Phi.set_sub (B := B') hf).of, hzs⟩
 have hnew := r.new hg hB hng; have hext := (KG s id (xW hg) (wX hg) hng).trans (kv (s.del id) o'); have hget : ∀ i x, ((s.del id).alloc o').get i = some x → (i = s.next ∧ x = o') ∨ (i ≠ s.next ∧ i ≠ id ∧ s.get i = some x) := fun i x hx => by
  have h1 := xW hx; have h2 := wX hx; rw [qG (s := s) (s' := (s.del id).alloc o') rfl rfl] at h2; rw [show ((s.del id).alloc o').objs = (s.objs.del id).set s.next o' from rfl, Trie.get_set] at h1
  by_cases e : i = s.next
  ·rw [if_pos e] at h1; exact .inl ⟨e, by cases h1; rfl⟩
  ·rw [if_neg e, Trie.get_del] at h1; by_cases e2 : i = id
   ·rw [if_pos e2] at h1; cases h1
   ·rw [if_neg e2] at h1; exact .inr ⟨e, e2, by rw [uM, h2]; exact h1⟩
 have hne : id ≠ s.next := fun e => by rw [e, hf] at hB; cases hB
 have hmk : ((s.del id).alloc o').wm.testBit id = true := by show (jW s.wm id).testBit id = true; rw [qf]; simp
 refine ⟨hext, ⟨?_, ?_, ?_, ?_, ?_, ?_, ?_⟩, ?_, oM, ?_, ?_, hzs, ?_⟩
 ·refine ⟨hos.trans r.base.os, ht.trans r.base.tape, hu.trans r.base.output, by have := r.base.size; omega, fun k hk => ?_⟩
  exact (hother k oM).trans (r.base.block k hk)
 ·intro i x hx; rcases hget i x hx with ⟨rfl, rfl⟩ | ⟨e, e2, hg'⟩
  ·exact ⟨B', if_pos rfl, ho⟩
  ·obtain ⟨B1, hB1, t⟩ := r.obj i x hg'; exact ⟨B1, hsub _ _ hB1, t.keep hsub (hother _ (fun e' => (r.inj i id x o B1 B hg' hg hB1 hB e').elim e2 (fun h => oM)))⟩
 ·intro i B1 hB1; have hB1' : (if i = s.next then some B' else φ i) = some B1 := hB1
  by_cases e : i = s.next
  ·rw [if_pos e] at hB1'; cases hB1'; rw [hbb, hsz]; exact r.rng id B hB
  ·rw [if_neg e] at hB1'; rw [hsz]; exact r.rng i B1 hB1'
 ·intro i x B1 hx hB1 hlt; rcases hget i x hx with ⟨rfl, rfl⟩ | ⟨e, e2, hg'⟩
  ·rw [show ((φ.set s.next _).zset z) s.next = some B' from if_pos rfl] at hB1; cases hB1; omega
  ·rw [show ((φ.set s.next _).zset z) i = φ i from if_neg e] at hB1
   exact r.old i x B1 hg' hB1 hlt
 ·intro i i' x x' B1 B2 h1 h2 hB1 hB2 e; rcases hget i x h1 with ⟨rfl, rfl⟩ | ⟨n1, m1, g1⟩ <;> rcases hget i' x' h2 with ⟨rfl, rfl⟩ | ⟨n2, m2, g2⟩
  ·exact .inl rfl
  ·rw [show ((φ.set s.next _).zset z) s.next = some B' from if_pos rfl] at hB1; cases hB1
   rw [show ((φ.set s.next _).zset z) i' = φ i' from if_neg n2] at hB2
   exact (r.inj i' id x' o B2 B g2 hg hB2 hB (e.symm.trans hbb)).elim (fun h => absurd h m2) (fun h => oM)
  ·rw [show ((φ.set s.next _).zset z) s.next = some B' from if_pos rfl] at hB2; cases hB2
   rw [show ((φ.set s.next _).zset z) i = φ i from if_neg n1] at hB1
   exact (r.inj i id x o B1 B g1 hg hB1 hB (e.trans hbb)).elim (fun h => absurd h m1) (fun h => .inr h)
  ·rw [show ((φ.set s.next _).zset z) i' = φ i' from if_neg n2] at hB2
   rw [show ((φ.set s.next _).zset z) i = φ i from if_neg n1] at hB1
   exact r.inj i i' x x' B1 B2 g1 g2 hB1 hB2 e
 ·intro b i v hv; have hv' : z b i = some v := hv; by_cases e : b = B.b
  ·subst e; exact hz2 i v hv'
  ·rw [hz1 b e] at hv'; obtain ⟨c, e1, fr, h1, h2⟩ := r.frz b i v hv'; exact ⟨c, e1, fr, (hother b e).trans h1, h2⟩
 ·intro i x B1 hx hB1; rcases hget i x hx with ⟨rfl, rfl⟩ | ⟨e, e2, hg'⟩
  ·rw [show ((φ.set s.next _).zset z) s.next = some B' from if_pos rfl] at hB1; cases hB1
   exact hsep
  ·rw [show ((φ.set s.next _).zset z) i = φ i from if_neg e] at hB1
   have hs := r.sep i x B1 hg' hB1; by_cases eb : B1.b = B.b
   ·rcases r.inj i id x o B1 B hg' hg hB1 hB eb with h | h
    ·exact absurd h e2
    ·have := r.new hg hB hng; omega
   ·exact hs.congr (fun j => hz1 B1.b eb j)
 ·intro i hi; have hi' : i < s.next ∨ s.next + 1 ≤ i := hi
  exact if_neg oM
 ·intro b hb H; apply hother; intro e; have := H id o B hg hB e.symm; rw [hmk] at this; cases this
 ·intro i B1 h1 h2 hB1; have h2' : i < s.next + 1 := h2
  have e : i = s.next := oM
  subst e; rw [show ((φ.set s.next _).zset z) s.next = some B' from if_pos rfl] at hB1; cases hB1
  exact .inr ⟨id, o, B, hg, hB, hbb.symm, hmk⟩
 ·intro b i v hv; have hv' : z b i = some v := hv; by_cases e : b = B.b
  ·exact .inr (.inr ⟨id, o, B, hg, hB, e.symm, hmk⟩)
  ·rw [hz1 b e] at hv'; exact .inl hv'
theorem Step.move {φ : Phi} (r : Rel P w0 φ s.get w) (hf : φ s.next = none) {o' : AObj} {B B' : Blk} (hg : s.get id = some o) (hB : φ id = some B) (hbb : B'.b = B.b)
  (hother : ∀ b, b ≠ B.b → w'.heap[b]? = w.heap[b]?) (hsz : w'.heap.size = w.heap.size) (hos : w'.os = w.os) (ht : w'.tape = w.tape) (hu : w'.output = w.output)
  (ho : ObjRel P (φ.set s.next B') w' o' B') (hng : vB o = false := by rfl) (hna : zzW o = false := by rfl) : Step P w0 φ s w (φ.set s.next B') ((s.del id).alloc o') w' := by
 have hzn := (r.sep id o B hg hB).all hng hna; exact Step.moveZ (z := φ.z) r hf hg hB hbb hother hsz hos ht hu (fun _ _ _ => rfl) (fun _ _ h => h) (fun i v h => by rw [hzn i] at h; cases h) (SepOf.of_all (by rw [hbb]; exact hzn)) ho hng
structure Src (P : Program) (w : World) (ts : Array TypeId) (e : TypeId) (size : Nat) (x : Value) (n : Nat) (new : List Value) : Prop where
 stay : ∀ (t ty : TypeId) (base : Option Addr) (sLen sCap : Nat), ts[0]? = some t → P.underlying t = some (.slice e) → sLen + n ≤ sCap →
  (Builtin.append_ ts ty #[.slice base sLen sCap, x]).run P w = (match base with
   | none => .ok (.slice none (sLen + n) sCap) w
   | some a => ((storeCells (a.add (sLen * size)) new).run P w).andThen fun _ w' => .ok (.slice (some a) (sLen + n) sCap) w')
 grow : ∀ (t ty : TypeId) (i : TypeInfo) (z : Value) (base : Option Addr) (sLen sCap : Nat) (old : Array Value), ts[0]? = some t → P.underlying t = some (.slice e) → P.info? e = some i → i.size = size → (zeroValue e).run P w.drew = .ok z w.drew → sCap < sLen + n → (sLen + n : Nat) < 9223372036854775808 →
  Builtin.nextslicecap (sLen + n) sCap * i.bytes ≤ 281474976710656 → (Builtin.firstCells size sLen (.slice base sLen sCap)).run P w.drew = .ok old w.drew →
  (Builtin.append_ ts ty #[.slice base sLen sCap, x]).run P w =
   .ok (.slice (some ⟨w.heap.size, 0, none⟩) (sLen + n) (grownCap w (sLen + n) sCap e)) (w.drew.alloc (.cells (old ++ new.toArray ++ Builtin.zeroCells z.cells (grownCap w (sLen + n) sCap e - (sLen + n))) e))
theorem uP {ts : Array TypeId} {u e : TypeId} {d : TypeDesc} {size : Nat} {x : Value} {new : List Value} (h1 : ts[1]? = some u) (hu : P.underlying u = some d) (hd : d = .string ∨ ∃ c, d = .slice c) (hsz : qU P e = some size)
  (hl : (Builtin.lenOf x) = pure n) (hw : (Builtin.firstCells size n x).run P w = .ok new.toArray w) (hwd : (Builtin.firstCells size n x).run P w.drew = .ok new.toArray w.drew) : Src P w ts e size x n new := by
 constructor
 ·intro t ty base sLen sCap h0 ht hle; rcases hd with rfl | ⟨c, rfl⟩
  ·cases base <;> simp [Builtin.append_, h0, h1, xj ht, xj hu, x5 hsz, hl, hle, hw]
  ·cases base <;> simp [Builtin.append_, h0, h1, xj ht, xj hu, x5 hsz, hl, hle, hw]
 ·intro t ty i z base sLen sCap old h0 ht hi his hzv hlt h63 hfit hold; have hn : ¬ (sLen + n ≤ sCap) := oM; have h63' : ¬ (9223372036854775807 < ((sLen : Int) + (n : Int))) := oM; have h48' : ¬ (281474976710656 < Builtin.nextslicecap (sLen + n) sCap * i.bytes) := oM; have hti := fun w' => uT (P := P) (w := w') hi; rcases hd with rfl | ⟨c, rfl⟩
  ·simp [Builtin.append_, h0, h1, xj ht, xj hu, x5 hsz, hl, hn, h63', h48', hti, Question.forced, hold, hwd, hzv, newRow, grownCap]
  ·simp [Builtin.append_, h0, h1, xj ht, xj hu, x5 hsz, hl, hn, h63', h48', hti, Question.forced, hold, hwd, hzv, newRow, grownCap]
theorem zqU {w : World} {ts : Array TypeId} {u e : TypeId} {k : IntKind} {size b : Nat} {z : Value} (h1 : ts[1]? = some u) (hu : P.underlying u = some (.int k)) (hsz : qU P e = some size) (hby : Uq P e = some b)
  (hz : ∀ w, (zeroValue e).run P w = .ok z w) (hzl : z.cells.size = size) (hs1 : 1 ≤ size) (hn0 : 0 < n) (hn : n < 9223372036854775808) (hb : n * b ≤ 281474976710656) : Src P w ts e size (.int .i64 (n : Int)) n (List.replicate n z.cells.toList).flatten := by
 obtain ⟨i, hi, hib⟩ := Yk hby; have hti := fun w' => uT (P := P) (w := w') hi; have w1 : IntKind.i64.wrap (n : Int) = (n : Int) := l7 .i64 n (by simp only [Uk]; omega)
 have hneg : ¬ ((n : Int) < 0) := oM; have hmul : ¬ (281474976710656 < (n : Int) * (i.bytes : Int)) := by
  have e1 : (n : Int) * (i.bytes : Int) = ((n * i.bytes : Nat) : Int) := by simp
  rw [e1, hib]; omega
 have hns : ¬ (n * size = 0) := by
  intro h; rcases Nat.mul_eq_zero.1 h with h | h <;> omega
 have hmade : Builtin.zeroCells z.cells n = ((List.replicate n z.cells.toList).flatten).toArray := by
  apply yj; have := X2 z.cells.toList n (by simp; omega)
  simpa [Builtin.zeroCells] using this
 constructor
 ·intro t ty base sLen sCap h0 ht hle; cases base <;> simp [Builtin.append_, h0, h1, xj ht, xj hu, x5 hsz, asInt, asIntOf, w1, hneg, hti, hmul, hle, hns, hz, hmade]
 ·intro t ty i' z' base sLen sCap old h0 ht hi' his hzv hlt h63 hfit hold; rw [hi] at hi'; cases hi'; have hz' : z' = z := by rw [hz] at hzv; cases hzv; rfl
  subst hz'; have hle : ¬ (sLen + n ≤ sCap) := oM; have h63' : ¬ (9223372036854775807 < ((sLen : Int) + (n : Int))) := oM; have h48' : ¬ (281474976710656 < Builtin.nextslicecap (sLen + n) sCap * i.bytes) := oM; simp [Builtin.append_, h0, h1, xj ht, xj hu, x5 hsz, asInt, asIntOf, w1, hneg, hti, hmul, hle, h63', h48', hns, hz, hmade, Question.forced, hold, newRow, grownCap]
theorem uz (w : World) (need old : Nat) (e : TypeId) : need ≤ grownCap w need old e := by simp [grownCap, Question.cut]
theorem Zd (z : Array Value) (n : Nat) : (Builtin.zeroCells z n).size = n * z.size := by simp [Builtin.zeroCells]
theorem Z7 {φ : Phi} (r : Rel P w0 φ s.get w) (hwf : Wf s) (hf : φ s.next = none) {e need cap : Nat} {cs : List AV} {xs : Array Value} {z : Array Value}
  (h : grow s e esz bytes cs need = some (v, s')) (hx : VRL φ cs xs.toList) (hl : cs.length = need * esz) (hz : z.size = esz) (hc : need ≤ cap) :
  ∃ φ', Step P w0 φ s w φ' s' (w.drew.alloc (.cells (xs ++ Builtin.zeroCells z (cap - need)) e)) ∧ VR φ' v (.slice (some ⟨w.heap.size, 0, none⟩) need cap) ∧ 2 * need * bytes ≤ 281474976710656 ∧ need < 9223372036854775808 := by
 unfold grow at h; cases hb : (ze (zb (zb 2 need) bytes) 281474976710656 && ze 1 esz && zd need 9223372036854775808) with
 | false => rw [hb] at h; simp at h
 | true =>
  rw [hb] at h; simp only [cond_true, zv, zw] at h; obtain ⟨rfl, rfl⟩ := h; simp only [zl, xN, wb] at hb; obtain ⟨⟨hb1, hb2⟩, hb3⟩ := hb; have hxl := VRL.length hx; have hxs : xs.size = need * esz := by rw [← yg, ← hxl, hl]
  have hmul : need * esz + (cap - need) * esz = cap * esz := by rw [← yh]; congr 1; omega
  refine ⟨φ.set s.next ⟨w.heap.size, 0, cap * esz⟩, Step.alloc r hwf hf rfl rfl rfl rfl ?_, ?_, hb1, hb3⟩
  ·refine ⟨xs ++ Builtin.zeroCells z (cap - need), (0, 0), vW _, ?_, ?_, (fun h => by cases h), ?_, zp _, fun _ i _ => by simp⟩
   ·rw [Array.size_append, Zd, hxs, hz]; simp only; omega
   ·simp only [hl]; exact yq _ hc
   ·have e1 : (((xs ++ Builtin.zeroCells z (cap - need)).toList.drop 0).take cs.length) = xs.toList := by
     rw [z4, yA, yu (by rw [hxl]; exact zp _), hxl, List.take_length]
    simp only; rw [e1]; exact VRL.mono (Phi.set_sub hf) _ _ hx
  ·simp only [VR]; refine ⟨⟨w.heap.size, 0, cap * esz⟩, cap, by simp [Phi.set], by simp, hb2, ?_, hc, zL _⟩
   simp only [Nat.sub_zero]; exact (Nat.mul_div_cancel _ oM).symm
theorem jB {e need : Nat} {cs : List AV} (h : hW s e esz bytes cs need = some (v, s')) : s'.next = s.next + 1 := by
 unfold hW at h; cases hb : (ze (zb (zb 2 need) bytes) 281474976710656 && ze 1 esz && zd need 9223372036854775808 && xK cs) with
 | false => rw [hb] at h; simp at h
 | true =>
  rw [hb] at h; simp only [cond_true, zv, zw] at h; obtain ⟨_, rfl⟩ := h; rfl
theorem XW {e need : Nat} {cs : List AV} (h : hW s e esz bytes cs need = some (v, s')) :
  2 * need * bytes ≤ 281474976710656 ∧ 1 ≤ esz ∧ need < 9223372036854775808 ∧ xK cs = true ∧ v = .gr s.next esz need cs ∧ s' = s.alloc (.app e cs) := by
 unfold hW at h; cases hb : (ze (zb (zb 2 need) bytes) 281474976710656 && ze 1 esz && zd need 9223372036854775808 && xK cs) with
 | false => rw [hb] at h; simp at h
 | true =>
  rw [hb] at h; simp only [cond_true, zv, zw] at h; simp only [zl, xN, wb] at hb; obtain ⟨⟨⟨hb1, hb2⟩, hb3⟩, hb4⟩ := hb; exact ⟨hb1, hb2, hb3, hb4, h.1.symm, h.2.symm⟩
def Phi.znewT (φ : Phi) (b m : Nat) (c : Array Value) : Nat → Nat → Option Value := fun b' i => if b' = b then (if i < m then c[i]? else none) else φ.z b' i
variable {φ φ' : Phi}
theorem gC (r : Rel P w0 φ s.get w) (hwf : Wf s) (hf : φ s.next = none) {e need cap : Nat} {cs : List AV} {xs : Array Value} {z : Array Value}
  (h : hW s e esz bytes cs need = some (v, s')) (hn0 : 0 < need) (hx : VRL φ cs xs.toList) (hl : cs.length = need * esz) (hz : z.size = esz) (hc : need ≤ cap) :
  ∃ φ', Step P w0 φ s w φ' s' (w.drew.alloc (.cells (xs ++ Builtin.zeroCells z (cap - need)) e)) ∧ VR φ' v (.slice (some ⟨w.heap.size, 0, none⟩) need cap) ∧ 2 * need * bytes ≤ 281474976710656 ∧ need < 9223372036854775808 := by
 obtain ⟨hb1, hb2, hb3, hp, rfl, rfl⟩ := XW h; have hxl := VRL.length hx; have hxs : xs.size = need * esz := by rw [← yg, ← hxl, hl]
 have hmul : need * esz + (cap - need) * esz = cap * esz := by rw [← yh]; congr 1; omega
 obtain ⟨c, hcd⟩ : ∃ c, c = xs ++ Builtin.zeroCells z (cap - need) := ⟨_, rfl⟩; have hcl : (c.toList.drop 0).take cs.length = xs.toList := by
  rw [hcd, z4, yA, yu (by rw [hxl]; exact zp _), hxl, List.take_length]
 have hsub : Sub φ ((φ.set s.next ⟨w.heap.size, 0, cap * esz⟩).zset (φ.znewT w.heap.size cs.length c)) := ⟨(Phi.set_sub hf).of, fun b i v hv => by
  have := r.zlt hv; show (if b = w.heap.size then _ else φ.z b i) = some v; rw [if_neg oM]; exact hv⟩
 have hzc : ZC ((φ.set s.next ⟨w.heap.size, 0, cap * esz⟩).zset (φ.znewT w.heap.size cs.length c)) w.heap.size 0 xs.toList := ZC.of fun i y hi => by
  have hlt : i < xs.toList.length := (List.getElem?_eq_some_iff.1 hi).1; show (if w.heap.size = w.heap.size then (if 0 + i < cs.length then c[0 + i]? else none) else φ.z w.heap.size (0 + i)) = some y; rw [if_pos rfl, if_pos oM, yy, ← zy]; have : ((c.toList.drop 0).take cs.length)[i]? = some y := by rw [hcl]; exact hi
  rw [z4, zE, if_pos oM] at this; exact this
 rw [← hcd]; refine ⟨(φ.set s.next ⟨w.heap.size, 0, cap * esz⟩).zset (φ.znewT w.heap.size cs.length c), Step.allocZ r hwf hf rfl rfl rfl rfl ?_ ?_ ?_ ?_, ?_, hb1, hb3⟩
 ·intro b hb i; show (if b = w.heap.size then _ else φ.z b i) = φ.z b i; rw [if_neg hb]
 ·intro i v hv; have hv' : (if w.heap.size = w.heap.size then (if i < cs.length then c[i]? else none) else φ.z w.heap.size i) = some v := hv; rw [if_pos rfl] at hv'; by_cases hi : i < cs.length
  ·rw [if_pos hi] at hv'; exact ⟨c, e, (0, 0), rfl, hv'⟩
  ·rw [if_neg hi] at hv'; cases hv'
 ·intro i hi; show (if w.heap.size = w.heap.size then (if i < cs.length then c[i]? else none) else φ.z w.heap.size i) = none; have hi' : 0 + cs.length ≤ i := hi; rw [if_pos rfl, if_neg oM]
 ·refine ⟨c, (0, 0), vW _, ?_, ?_, ?_, zp _, zL _⟩
  ·rw [hcd, Array.size_append, Zd, hxs, hz]; simp only; omega
  ·simp only [hl]; exact yq _ hc
  ·simp only; rw [hcl]; exact VRL.mono hsub _ _ hx
 ·simp only [VR]; have hdiv : cap * esz / esz = cap := Nat.mul_div_cancel _ oM; exact ⟨hp, hl, hn0, oM, ⟨w.heap.size, 0, cap * esz⟩, xs.toList, if_pos rfl, by rw [hdiv], by rw [hdiv]; exact hc, hzc, VRL.mono hsub _ _ hx⟩
theorem Lr (_r : Rel P w0 φ s.get w) {ts : Array TypeId} {ty e : TypeId} {x : AV} {x' y' : Value} (h0 : ts[0]? = some t) (ht : P.underlying t = some (.slice e)) (src : Src P w ts e esz y' 0 [])
  (h : zvr s x = some (v, s')) (hx : VR φ x x') : s' = s ∧ (Builtin.append_ ts ty #[x', y']).run P w = .ok x' w ∧ VR φ v x' := by
 have hst : ∀ (a : Addr), (storeCells (a.add 0) []).run P w = .ok () w := fun a => rfl; unfold zvr at h; split at h
 ·cases h; have hx' := hx; simp only [VR] at hx; subst hx; exact ⟨rfl, by rw [src.stay t ty none 0 0 h0 ht oM], hx'⟩
 ·cases h; have hx' := hx; simp only [VR] at hx; obtain ⟨a, k, rfl⟩ := hx; exact ⟨rfl, by rw [src.stay t ty (some a) 0 k h0 ht oM]; rfl, hx'⟩
 ·rename_i id off len c
  have hx' := hx; simp only [VR] at hx; obtain ⟨B, k, hB, rfl, hk⟩ := hx; split at h
  ·rename_i k'
   simp only at hk; subst hk; cases hb : ze len k with
   | false => rw [hb] at h; simp at h
   | true =>
    rw [hb] at h; simp only [cond_true, zv, zw] at h; obtain ⟨rfl, rfl⟩ := h; exact ⟨rfl, by rw [src.stay t ty (some _) len k h0 ht (by have := xN.1 hb; omega)]; rfl, hx'⟩
  ·rename_i e'
   simp only [zv, zw] at h; obtain ⟨rfl, rfl⟩ := h; simp only at hk; exact ⟨rfl, by rw [src.stay t ty (some _) len k h0 ht oM]; rfl, hx'⟩
 ·cases h; have hx' := hx; simp only [VR] at hx; obtain ⟨_, ⟨rfl, a, rfl⟩ | ⟨b, o, k, ys, rfl, _, hk, _⟩⟩ := hx
  ·cases a with
   | none => exact ⟨rfl, by rw [src.stay t ty none 0 0 h0 ht oM], hx'⟩
   | some a => exact ⟨rfl, by rw [src.stay t ty (some _) 0 0 h0 ht oM]; rfl, hx'⟩
  ·exact ⟨rfl, by rw [src.stay t ty (some _) _ k h0 ht oM]; rfl, hx'⟩
 ·cases h; have hx' := hx; simp only [VR] at hx; obtain ⟨_, _, _, _, B, ys, _, rfl, hk, _⟩ := hx; exact ⟨rfl, by rw [src.stay t ty (some _) _ _ h0 ht oM]; rfl, hx'⟩
 ·cases h
theorem kl (r : Rel P w0 φ s.get w) {b o len k : Nat} {cs l : List AV} (hv : VR φ (.vp cs) (.pointer (some ⟨b, o, none⟩))) (hc : wC (n * esz) cs = some l) :
  ∃ xs : List Value, VRL φ l xs ∧ (Builtin.firstCells esz n (.slice (some ⟨b, o, none⟩) len k)).run P w = .ok xs.toArray w ∧ (Builtin.firstCells esz n (.slice (some ⟨b, o, none⟩) len k)).run P w.drew = .ok xs.toArray w.drew := by
 obtain ⟨a, xs, ea, hlen, hxs, hcell⟩ := vC r (G := []) (fun g cs h => by simp at h) (show vH [] s (.vp cs) (n * esz) = some l from hc) hv
 cases ea; exact ⟨xs, hxs, run_firstCells_some w esz n _ len k xs hlen hcell, run_firstCells_some w.drew esz n _ len k xs hlen (by simpa using hcell)⟩
theorem KJ (r : Rel P w0 φ s.get w) {off len k : Nat} {B : Blk} {l : List AV} (hB : φ id = some B) (hld : vH [] s (.ptr id off) (n * esz) = some l) :
  ∃ xs : List Value, VRL φ l xs ∧ (Builtin.firstCells esz n (.slice (some ⟨B.b, B.o + off, none⟩) len k)).run P w = .ok xs.toArray w ∧ (Builtin.firstCells esz n (.slice (some ⟨B.b, B.o + off, none⟩) len k)).run P w.drew = .ok xs.toArray w.drew := by
 obtain ⟨a, xs, ea, hlen, hxs, hcell⟩ := vC r (G := []) (fun g cs h => by simp at h) hld (x := .pointer (some ⟨B.b, B.o + off, none⟩)) (by simp only [VR]; exact ⟨B, hB, rfl⟩)
 cases ea; exact ⟨xs, hxs, run_firstCells_some w esz n _ len k xs hlen hcell, run_firstCells_some w.drew esz n _ len k xs hlen (by simpa using hcell)⟩
theorem pG (r : Rel P w0 φ s.get w) {off len k : Nat} {B : Blk} {t : Nat} {cs l : List AV} {e fz : Bool} (hg : s.get id = some (.row t cs e fz)) (hB : φ id = some B) (hc : cut cs off (n * esz) = some l) :
  ∃ xs : List Value, VRL φ l xs ∧ (Builtin.firstCells esz n (.slice (some ⟨B.b, B.o + off, none⟩) len k)).run P w = .ok xs.toArray w ∧ (Builtin.firstCells esz n (.slice (some ⟨B.b, B.o + off, none⟩) len k)).run P w.drew = .ok xs.toArray w.drew := by
 have hld : vH [] s (.ptr id off) (n * esz) = some l := by simp only [vH, hg]; exact hc
 obtain ⟨a, xs, ea, hlen, hxs, hcell⟩ := vC r (G := []) (fun g cs h => by simp at h) hld (x := .pointer (some ⟨B.b, B.o + off, none⟩)) (by simp only [VR]; exact ⟨B, hB, rfl⟩)
 cases ea; exact ⟨xs, hxs, run_firstCells_some w esz n _ len k xs hlen hcell, run_firstCells_some w.drew esz n _ len k xs hlen (by simpa using hcell)⟩
theorem jH {need old : Nat} (h : old < need) (hb : 2 * need * bytes ≤ 281474976710656) : Builtin.nextslicecap need old * bytes ≤ 281474976710656 :=
 Nat.le_trans (yq _ (nextslicecap_le h)) hb
theorem kw {e need : Nat} {cs : List AV} (h : grow s e esz bytes cs need = some (v, s')) : s'.next = s.next + 1 := by
 unfold grow at h; cases hb : (ze (zb (zb 2 need) bytes) 281474976710656 && ze 1 esz && zd need 9223372036854775808) with
 | false => rw [hb] at h; simp at h
 | true =>
  rw [hb] at h; simp only [cond_true, zv, zw] at h; obtain ⟨_, rfl⟩ := h; rfl
theorem Lf : ∀ (n : Nat) (l : List AV), n ≤ l.length → wC n l = some (l.take n)
 | 0, l, _ => by simp [wC]
 | n + 1, [], h => by simp at h
 | n + 1, v :: l, h => by
  simp only [wC, Lf n l (by simpa using h)]
  simp
theorem QG (r : Rel P w0 φ s.get w) (hwf : Wf s) (hf1 : s.next < s'.next → φ s.next = none) {ts : Array TypeId} {ty e : TypeId} {x z : AV} {x' y' : Value} {new : List AV} {new' : List Value}
  (h0 : ts[0]? = some t) (ht : P.underlying t = some (.slice e)) (hs : qU P e = some esz) (hby : Uq P e = some bytes) (hz : js P e = some z) (hzl : z.cells.length = esz) (src : Src P w ts e esz y' n new')
  (hn : 0 < n) (hnew : VRL φ new new') (hnl : new.length = n * esz) (h : ZW s e esz bytes x n new = some (v, s')) (hx : VR φ x x') :
  ∃ φ' u w', (Builtin.append_ ts ty #[x', y']).run P w = .ok u w' ∧ Step P w0 φ s w φ' s' w' ∧ VR φ' v u := by
 obtain ⟨zx, hzr, hzv⟩ := qw hz; have hzs : zx.cells.size = esz := by rw [← hzl, VRL.length (hzv φ).cells]; simp
 obtain ⟨i, hi, his⟩ := WC hs; obtain ⟨i', hi', hib⟩ := Yk hby; rw [hi] at hi'; cases hi'; unfold ZW at h; split at h
 ·simp only [VR] at hx; subst hx; cases hmd : (s.md && xK new) with
  | true =>
   rw [hmd] at h; simp only [cond_true] at h; have hf := hf1 (by rw [jB h]; omega)
   obtain ⟨φ', h1, h2, h3, h4⟩ := gC (w := w) (xs := new'.toArray) (cap := grownCap w n 0 e) (z := zx.cells) r hwf hf h hn (by simpa using hnew) hnl hzs (uz _ _ _ _)
   refine ⟨φ', _, _, ?_, h1, h2⟩; have hg := src.grow t ty i zx none 0 0 #[] h0 ht hi his (hzr _) oM oM (by rw [yy]; exact jH oM (by rw [hib]; exact h3)) (run_firstCells_none _ _ _ _ _)
   rw [hg]; simp
  | false =>
  rw [hmd] at h; simp only [cond_false] at h; have hf := hf1 (by rw [kw h]; omega)
  obtain ⟨φ', h1, h2, h3, h4⟩ := Z7 (w := w) (xs := new'.toArray) (cap := grownCap w n 0 e) (z := zx.cells) r hwf hf h (by simpa using hnew) hnl hzs (uz _ _ _ _)
  refine ⟨φ', _, _, ?_, h1, h2⟩; have hg := src.grow t ty i zx none 0 0 #[] h0 ht hi his (hzr _) oM oM (by rw [yy]; exact jH oM (by rw [hib]; exact h3)) (run_firstCells_none _ _ _ _ _)
  rw [hg]; simp
 · -- a frozen slice whose capacity is its length
  rename_i k ex cs
  cases ex with
  | false => simp at h
  | true =>
   simp only [cond_true] at h; cases hc : wC (zb k esz) cs with
   | none => rw [hc] at h; simp at h
   | some old =>
    rw [hc] at h; simp only at h; have hf := hf1 (by rw [jB h]; omega)
    obtain ⟨r0, _, hol⟩ := jI hc; have hol' : old.length = k * esz := hol; have hlen : (old ++ new).length = (k + n) * esz := by rw [yd, hol', hnl, yh]
    simp only [VR] at hx; obtain ⟨hp, ⟨rfl, a, rfl⟩ | ⟨b, o, k', ys, rfl, hk, _, hz1, hy1⟩⟩ := hx
    ·obtain rfl : old = [] := yi (by rw [hol']; simp)
     obtain ⟨φ', h1, h2, h3, h4⟩ := gC (w := w) (xs := new'.toArray) (cap := grownCap w (0 + n) 0 e) (z := zx.cells) r hwf hf h (by show 0 < 0 + n; omega) (by simpa using hnew) hlen hzs (uz _ _ _ _)
     refine ⟨φ', _, _, ?_, h1, h2⟩; have hg := src.grow t ty i zx a 0 0 #[] h0 ht hi his (hzr _) oM oM (jH oM (by rw [hib]; exact h3)) (by cases a with | none => exact run_firstCells_none _ _ _ _ _ | some a => exact run_firstCells_some _ esz 0 a 0 0 [] (by simp) (by simp))
     rw [hg]; simp
    ·obtain rfl := hk trivial; obtain ⟨xs, hxs, _, hfd⟩ := kl (P := P) (len := k') (k := k') r (by simp only [VR]; exact ⟨hp, b, o, ys, rfl, hz1, hy1⟩) hc
     obtain ⟨φ', h1, h2, h3, h4⟩ := gC (w := w) (xs := xs.toArray ++ new'.toArray) (cap := grownCap w (k' + n) k' e) (z := zx.cells) r hwf hf h (by show 0 < k' + n; omega) (by simpa using VRL.append hxs hnew) hlen hzs (uz _ _ _ _)
     refine ⟨φ', _, _, ?_, h1, h2⟩; exact src.grow t ty i zx (some _) k' k' xs.toArray h0 ht hi his (hzr _) oM h4 (jH oM (by rw [hib]; exact h3)) hfd
 · -- one that may grow
  rename_i id esz' k cs
  split at h
  ·rename_i t0 cells hg
   cases hb : (za esz esz' && za t0 e && za (wZ cells) (wZ cs) && xT new) with
   | false => rw [hb] at h; simp at h
   | true =>
    rw [hb] at h; simp only [cond_true] at h; simp only [zl, xG, wV] at hb; obtain ⟨⟨⟨rfl, rfl⟩, hcl⟩, hsc⟩ := hb; have hf := hf1 (by rw [jB h]; exact yx _)
    simp only [VR] at hx; obtain ⟨hp, hcn, hk0, he, B, ys, hB, rfl, hkK, hz1, hy1⟩ := hx; obtain ⟨B', hB', c, fr, g1, g2, g3, g4, g5, g6⟩ := r.obj id _ hg; rw [hB] at hB'; cases hB'; have hsep := r.sep id _ B hg hB; simp only [SepOf] at hsep; have hyl := hy1.length; have hlen : (cs ++ new).length = (k + n) * esz := by rw [yd, hcn, hnl, yh]
    have hxl := VRL.length hnew; have hmul : (k + n) * esz = k * esz + n * esz := yh _ _ _; by_cases hle : k + n ≤ B.tot / esz
    · -- it stays
     obtain ⟨hb1, hb2, hb3, hpp, rfl, rfl⟩ := XW h; have hfit : (k + n) * esz ≤ B.tot := by rw [ym he] at hle; exact hle
     have hrun := run_storeCells_cells (P := P) B.b (B.o + k * esz) new' 0 w
      (fun j hj => by rw [uv g1]; simp; omega)
      (fun j hj => by
       rw [lF g1]; have : ¬ (B.o + k * esz + 0 + j < fr.2) := oM; rw [decide_eq_false this, Bool.and_false])
      (uW hnew hsc)
     obtain ⟨f1, f2, f3, f4, f5⟩ := jr new' w B.b (B.o + k * esz + 0); obtain ⟨c', k1, k2⟩ := gK new' w B.b (B.o + k * esz + 0) c t0 fr g1 oM; have hsz : c'.size = c.size := by rw [← yg, k2]; simp; omega
     have hlow : ∀ i, i < B.o + k * esz → c'[i]? = c[i]? := fun i hi => by
      rw [← zy, k2, ye (by simp; omega), ye (by simp; omega), zE, if_pos oM, zy]
     obtain ⟨zz, hzz⟩ : ∃ zz : Nat → Nat → Option Value, zz = fun b i => if b = B.b ∧ B.o + k * esz ≤ i ∧ i < B.o + (k + n) * esz then c'[i]? else φ.z b i := ⟨_, rfl⟩; have hz0 : ∀ i v, φ.z B.b i = some v → i < B.o + k * esz := fun i v hv => by
      apply Nat.lt_of_not_le; intro hge; rw [hsep i oM] at hv; cases hv
     have hzin : ∀ b i v, φ.z b i = some v → zz b i = some v := fun b i v hv => by
      rw [hzz]; simp only; by_cases eb : b = B.b
      ·subst eb; have := hz0 i v hv; rw [if_neg oM]; exact hv
      ·rw [if_neg (fun h => eb h.1)]; exact hv
     have hsub : Sub φ ((φ.set s.next B).zset zz) := ⟨(Phi.set_sub (B := B) hf).of, hzin⟩
     have hys : ∀ i y, ys[i]? = some y → c[B.o + i]? = some y := fun i y hi => by
      obtain ⟨c2, e2, fr2, q1, q2⟩ := r.frz _ _ _ (hz1.at hi); rw [g1] at q1; cases q1; exact q2
     have hcnew : ∀ i y, new'[i]? = some y → c'[B.o + k * esz + i]? = some y := fun i y hi => by
      have hlt := (List.getElem?_eq_some_iff.1 hi).1; rw [← zy, k2, yB, ye (by simp; omega), yw (by simp; omega)]
      have : (c.toList.take (B.o + k * esz)).length = B.o + k * esz := by rw [List.length_take, yg]; omega
      rw [this, Nat.add_sub_cancel_left]; exact hi
     have hcell : ∀ i y, (ys ++ new')[i]? = some y → c'[B.o + i]? = some y := fun i y hi => by
      by_cases hl : i < ys.length
      ·rw [ye hl] at hi; rw [hlow _ oM]; exact hys i y hi
      ·rw [yw oM] at hi; have := hcnew _ _ hi; rw [show B.o + k * esz + (i - ys.length) = B.o + i by omega] at this; exact this
     have hzc : ZC ((φ.set s.next B).zset zz) B.b B.o (ys ++ new') := ZC.of fun i y hi => by
      have hlt := (List.getElem?_eq_some_iff.1 hi).1; rw [yd] at hlt; show zz B.b (B.o + i) = some y; by_cases hl : i < ys.length
      ·rw [ye hl] at hi; exact hzin _ _ _ (hz1.at hi)
      ·rw [hzz]; simp only; rw [if_pos ⟨trivial, oM, oM⟩]; exact hcell i y hi
     have hall : VRL ((φ.set s.next B).zset zz) (cs ++ new) (ys ++ new') := VRL.mono hsub _ _ (VRL.append hy1 hnew)
     refine ⟨(φ.set s.next B).zset zz, .slice (some ⟨B.b, B.o, none⟩) (k + n) (B.tot / esz), _, ?_, Step.moveZ r hf (B' := B) hg hB rfl f5 f1 f2 f3 f4 ?_ ?_ ?_ ?_ ?_ rfl, ?_⟩
     ·rw [src.stay t ty (some _) k _ h0 ht hle]; simp only [qJ, hrun, Result.andThen_ok]
     ·intro b hb i; rw [hzz]; simp only; rw [if_neg (fun h => hb h.1)]
     ·exact fun i v hv => hzin _ i v hv
     ·intro i v hv; rw [hzz] at hv; simp only at hv; refine ⟨c', t0, fr, k1, ?_⟩; by_cases hc : True ∧ B.o + k * esz ≤ i ∧ i < B.o + (k + n) * esz
      ·rw [if_pos hc] at hv; exact hv
      ·rw [if_neg hc] at hv; obtain ⟨c2, e2, fr2, q1, q2⟩ := r.frz _ _ _ hv; rw [g1] at q1; cases q1; rw [hlow i (hz0 i v hv)]; exact q2
     ·intro i hi; have hi' : B.o + (cs ++ new).length ≤ i := hi; rw [hlen] at hi'; rw [hzz]; simp only; rw [if_neg oM]; exact hsep i oM
     ·refine ⟨c', fr, k1, by rw [hsz]; exact g2, by simp only [hlen]; exact hfit, ?_, g5, by simp only [hlen]; omega⟩
      have key : (c'.toList.drop B.o).take (cs ++ new).length = ys ++ new' := by
       apply List.ext_getElem?; intro i; rw [zE]; by_cases hl : i < (cs ++ new).length
       ·rw [if_pos hl, zD, zy]; have hl2 : i < (ys ++ new').length := by rw [yd] at hl ⊢; omega
        rw [hcell i _ (yl hl2), yl hl2]
       ·rw [if_neg hl, List.getElem?_eq_none (by rw [yd] at hl ⊢; omega)]
      rw [key]; exact hall
     ·simp only [VR]; exact ⟨hpp, hlen, by show 0 < k + n; omega, he, B, ys ++ new', if_pos rfl, rfl, hle, hzc, hall⟩
    ·have hlt : B.tot / esz < k + n := oM; have hd := Step.del r id hg; obtain ⟨xs, hxs, _, hfd⟩ := kl (P := P) (n := k) (esz := esz) (len := k) (k := B.tot / esz) (l := cs) r (by simp only [VR]; exact ⟨hp, B.b, B.o, ys, rfl, hz1, hy1⟩) (by rw [Lf _ _ oM, zG oM])
     obtain ⟨φ', h1, h2, h3, h4⟩ := gC (w := w) (xs := xs.toArray ++ new'.toArray) (cap := grownCap w (k + n) (B.tot / esz) t0) (z := zx.cells) hd.rel (hd.ext.wf hwf) hf h (by show 0 < k + n; omega) (by simpa using VRL.append hxs hnew) hlen hzs (uz _ _ _ _)
     refine ⟨φ', _, _, ?_, Step.trans hwf hd h1, h2⟩; exact src.grow t ty i zx (some _) k _ xs.toArray h0 ht hi his (hzr _) hlt h4 (jH hlt (by rw [hib]; exact h3)) hfd
  ·cases h
 ·rename_i id off len c
  split at h
  ·rename_i t0 cs ex fz hg
   simp only [VR] at hx; obtain ⟨B, k, hB, rfl, hk⟩ := hx; have hptr : VR φ (.ptr id (zc off (zb len esz))) (.pointer (some ⟨B.b, B.o + (off + len * esz), none⟩)) := by simp only [VR]; exact ⟨B, hB, rfl⟩
   have hadd : Addr.add ⟨B.b, B.o + off, none⟩ (len * esz) = ⟨B.b, B.o + (off + len * esz), none⟩ := by rw [qJ]; congr 1; omega
   split at h
   ·rename_i k'
    simp only at hk; subst hk; cases hb : ze (zc len n) k with
    | true =>
     rw [hb] at h; simp only [cond_true] at h; cases hst : uQ s (.ptr id (zc off (zb len esz))) new with
     | none => rw [hst] at h; simp at h
     | some s1 =>
      rw [hst] at h; simp only [zv, zw] at h; obtain ⟨rfl, rfl⟩ := h; obtain ⟨a, w', ea, h1, h2⟩ := lX (P := P) r hst hptr hnew; cases ea; refine ⟨φ, .slice (some ⟨B.b, B.o + off, none⟩) (len + n) k, w', ?_, h2, ?_⟩
      ·rw [src.stay t ty (some _) len k h0 ht (xN.1 hb)]; simp only [hadd, h1, Result.andThen_ok]
      ·simp only [VR]; exact ⟨B, k, hB, rfl, rfl⟩
    | false =>
     rw [hb] at h; simp only [cond_false] at h; have hlt : k < len + n := by
      apply Nat.lt_of_not_le; intro hh; rw [show ze (zc len n) k = true from xN.2 hh] at hb; cases hb
     cases hc : cut cs off (zb len esz) with
     | none => rw [hc] at h; simp at h
     | some old =>
      rw [hc] at h; simp only at h; have hf := hf1 (by rw [kw h]; omega)
      obtain ⟨xs, hxs, _, hfd⟩ := pG (len := len) (k := k) r hg hB hc; have hol := (cut_some hc).1; obtain ⟨φ', h1, h2, h3, h4⟩ := Z7 (w := w) (xs := xs.toArray ++ new'.toArray) (cap := grownCap w (len + n) k e) (z := zx.cells) r hwf hf h (by simpa using VRL.append hxs hnew) (by rw [yd, hol, hnl]; show len * esz + n * esz = (len + n) * esz; rw [yh]) hzs (uz _ _ _ _)
      refine ⟨φ', _, _, ?_, h1, h2⟩; exact src.grow t ty i zx (some _) len k xs.toArray h0 ht hi his (hzr _) hlt h4 (jH hlt (by rw [hib]; exact h3)) hfd
   ·rename_i esz'
    simp only at hk; obtain ⟨he, hk, hlk, hot⟩ := hk; cases hb : (za esz esz' && ex && !fz) with
    | false => rw [hb] at h; simp at h
    | true =>
     rw [hb] at h; simp only [cond_true] at h; simp only [zl, xG, Bool.not_eq_true'] at hb; obtain ⟨⟨rfl, rfl⟩, rfl⟩ := hb; obtain ⟨B', hB', c, fr, g1, g2, g3, g4, g5, g6, g7⟩ := r.obj id _ hg; rw [hB] at hB'; cases hB'; cases hb2 : ze (zc off (zb (zc len n) esz)) (wZ cs) with
     | true =>
      rw [hb2] at h; simp only [cond_true] at h; rw [xN, wV] at hb2; have hb2' : off + (len + n) * esz ≤ cs.length := hb2; have hle : len + n ≤ k := by rw [hk, ym he]; omega
      cases hst : uQ s (.ptr id (zc off (zb len esz))) new with
      | none => rw [hst] at h; simp at h
      | some s1 =>
       rw [hst] at h; simp only [zv, zw] at h; obtain ⟨rfl, rfl⟩ := h; obtain ⟨a, w', ea, h1, h2⟩ := lX (P := P) r hst hptr hnew; cases ea; refine ⟨φ, .slice (some ⟨B.b, B.o + off, none⟩) (len + n) k, w', ?_, h2, ?_⟩
       ·rw [src.stay t ty (some _) len k h0 ht hle]; simp only [hadd, h1, Result.andThen_ok]
       ·simp only [VR]; exact ⟨B, k, hB, rfl, he, hk, hle, hot⟩
     | false =>
      rw [hb2] at h; simp only [cond_false] at h; cases hb3 : (xT new && za t0 e) with
      | false => rw [hb3] at h; simp at h
      | true =>
       rw [hb3] at h; simp only [cond_true] at h; simp only [zl, xG] at hb3; obtain ⟨hsc, rfl⟩ := hb3; cases hc : cut cs off (zb len esz) with
       | none => rw [hc] at h; simp at h
       | some old =>
        rw [hc] at h; simp only at h; have hf := hf1 (by rw [kw h]; exact yx _)
        obtain ⟨xs, hxs, _, hfd⟩ := pG (len := len) (k := k) r hg hB hc; obtain ⟨hol, hcb, hold⟩ := cut_some hc; have hol' : old.length = len * esz := hol; have hlen : (old ++ new).length = (len + n) * esz := by rw [yd, hol', hnl, yh]
        by_cases hle : len + n ≤ k
        · -- it stays
         have hxl := VRL.length hnew; have hfit : (len + n) * esz ≤ B.tot - off := by rw [hk, ym he] at hle; exact hle
         have hmul : (len + n) * esz = len * esz + n * esz := yh _ _ _
         have hrun := run_storeCells_cells (P := P) B.b (B.o + (off + len * esz)) new' 0 w
          (fun j hj => by rw [uv g1]; simp; omega)
          (fun j hj => by
           rw [lF g1]; have := g7 rfl (B.o + (off + len * esz) + 0 + j) oM; simp at this ⊢; exact this)
          (uW hnew hsc)
         obtain ⟨f1, f2, f3, f4, f5⟩ := jr new' w B.b (B.o + (off + len * esz) + 0); obtain ⟨c', k1, k2⟩ := gK new' w B.b (B.o + (off + len * esz) + 0) c t0 fr g1 oM; have hsz : c'.size = c.size := by rw [← yg, k2]; simp; omega
         unfold grow at h; cases hb4 : (ze (zb (zb 2 (zc len n)) bytes) 281474976710656 && ze 1 esz && zd (zc len n) 9223372036854775808) with
         | false => rw [hb4] at h; simp at h
         | true =>
          rw [hb4] at h; simp only [cond_true, zv, zw] at h; obtain ⟨rfl, rfl⟩ := h; have hsub := Phi.set_sub (B := ⟨B.b, B.o + off, B.tot - off⟩) hf; refine ⟨_, .slice (some ⟨B.b, B.o + off, none⟩) (len + n) k, _, ?_, Step.move r hf (B' := ⟨B.b, B.o + off, B.tot - off⟩) hg hB rfl f5 f1 f2 f3 f4 ?_, ?_⟩
          ·rw [src.stay t ty (some _) len k h0 ht hle]; simp only [hadd, hrun, Result.andThen_ok]
          ·refine ⟨c', fr, k1, by simp only; omega, by simp only; rw [hlen]; exact hfit, (fun h => by cases h), ?_, g6, fun _ => by rw [hsz]; exact g7 rfl⟩
           simp only; have key : (c'.toList.drop (B.o + off)).take (old ++ new).length = (((c.toList.drop B.o).take cs.length).drop off).take (len * esz) ++ new' := by
            rw [k2, hlen, hmul]; have hp : B.o + (off + len * esz) + 0 = B.o + off + len * esz := oM; rw [hp, List.append_assoc, List.drop_append_of_le_length (by simp; omega), List.drop_take]
            have a1 : B.o + off + len * esz - (B.o + off) = len * esz := oM; rw [a1, List.take_append]; have a2 : ((c.toList.drop (B.o + off)).take (len * esz)).length = len * esz := by simp; omega
            rw [a2, List.take_append]; have a3 : len * esz + n * esz - len * esz = n * esz := oM; have a4 : n * esz - new'.length = 0 := oM; rw [a3, a4, List.take_zero, List.append_nil]
            congr 1
            ·rw [List.take_take, Nat.min_eq_right oM, List.drop_take, List.drop_drop, List.take_take]
             congr 1
             have hcb' : off + len * esz ≤ cs.length ∨ len * esz = 0 := hcb; omega
            ·exact zG oM
           rw [key]; have hco := VRL.cut g5 hc; exact VRL.append (VRL.mono hsub _ _ hco) (VRL.mono hsub _ _ hnew)
          ·simp only [VR]; exact ⟨⟨B.b, B.o + off, B.tot - off⟩, k, by simp [Phi.set, St.del], by simp, he, by simpa using hk, hle, zL _⟩
        ·have hlt : k < len + n := oM; have hd := Step.del r id hg; obtain ⟨φ', h1, h2, h3, h4⟩ := Z7 (w := w) (xs := xs.toArray ++ new'.toArray) (cap := grownCap w (len + n) k t0) (z := zx.cells) hd.rel (hd.ext.wf hwf) hf h (by simpa using VRL.append hxs hnew) hlen hzs (uz _ _ _ _)
         refine ⟨φ', _, _, ?_, Step.trans hwf hd h1, h2⟩; exact src.grow t ty i zx (some _) len k xs.toArray h0 ht hi his (hzr _) hlt h4 (jH hlt (by rw [hib]; exact h3)) hfd
  ·cases h
 ·cases h
theorem jp (z : Nat) (s : ByteArray) : (Builtin.firstCells z s.size (.string s)).run P w = .ok (s.data.toList.map fun b => Value.int .u8 (b.toNat : Int)).toArray w := by
 have e : (s.extract 0 s.size).data = s.data := by
  apply yj; simp
 simp only [Builtin.firstCells, e, Sem.run_pure]
 congr 1
 apply yj; simp
theorem UP (r : Rel P w0 φ s.get w) (hwf : Wf s) (hf1 : s.next < s'.next → φ s.next = none) {ts : Array TypeId} {ty e u : TypeId} {d : TypeDesc} {x y z : AV} {x' y' : Value}
  (h0 : ts[0]? = some t) (ht : P.underlying t = some (.slice e)) (h1 : ts[1]? = some u) (hu : P.underlying u = some d) (hd' : d = .string ∨ ∃ c, d = .slice c) (hs : qU P e = some esz) (hby : Uq P e = some bytes) (hz : js P e = some z) (hzl : wZ z.cells = esz)
  (h : jg s e esz bytes x y = some (v, s')) (hx : VR φ x x') (hy : VR φ y y') :
  ∃ φ' a w', (Builtin.append_ ts ty #[x', y']).run P w = .ok a w' ∧ Step P w0 φ s w φ' s' w' ∧ VR φ' v a := by
 rw [wV] at hzl; unfold jg at h; have key : ∀ (n : Nat) (new : List AV), uO y = some n → w6 s esz n y = some new → ∃ new', Src P w ts e esz y' n new' ∧ VRL φ new new' ∧ new.length = n * esz := by
  intro n new hn hc; unfold uO at hn; unfold w6 at hc; split at hn
  ·cases hn; simp only [zv] at hc; subst hc; simp only [VR] at hy; subst hy; exact ⟨[], uP h1 hu hd' hs rfl (run_firstCells_none _ _ _ _ _) (run_firstCells_none _ _ _ _ _), VRL.nil φ, by simp⟩
  ·cases hn; simp only [zv] at hc; subst hc; simp only [VR] at hy; obtain ⟨a, k, rfl⟩ := hy; exact ⟨[], uP h1 hu hd' hs rfl (run_firstCells_some w esz 0 a 0 k [] (by simp) (by simp)) (run_firstCells_some w.drew esz 0 a 0 k [] (by simp) (by simp)), VRL.nil φ, by simp⟩
  ·rename_i id off len c
   simp only [zv] at hn; subst hn; simp only at hc; split at hc
   ·rename_i t0 cs ex fz hg
    simp only [VR] at hy; obtain ⟨B, k, hB, rfl, _⟩ := hy; obtain ⟨xs, hxs, g1, g2⟩ := pG (P := P) (len := len) (k := k) r hg hB hc; exact ⟨xs, uP h1 hu hd' hs rfl g1 g2, hxs, (cut_some hc).1⟩
   ·rename_i cs hg
    simp only [VR] at hy; obtain ⟨B, k, hB, rfl, _⟩ := hy; obtain ⟨xs, hxs, g1, g2⟩ := KJ (P := P) (len := len) (k := k) r hB (show vH [] s (.ptr id off) (len * esz) = some new by simp only [vH, hg]; exact hc)
    exact ⟨xs, uP h1 hu hd' hs rfl g1 g2, hxs, (cut_some hc).1⟩
   ·cases hc
  ·rename_i l
   simp only [zv] at hn; subst hn; cases hb : za esz 1 with
   | false => simp only [hb, cond_false] at hc; cases hc
   | true =>
    simp only [hb, cond_true, zv] at hc; subst hc; rw [xG] at hb; subst hb; simp only [VR] at hy; obtain ⟨bs, rfl, rfl⟩ := hy; have hl : wZ (qK bs) = bs.size := by rw [wV, w9]
    rw [hl]; refine ⟨bs.data.toList.map fun b => Value.int .u8 (b.toNat : Int), uP h1 hu hd' hs rfl (jp _ bs) (jp _ bs), ?_, ?_⟩
    ·rw [p6, zG (by rw [w9]; exact zp _)]
     exact lu _
    ·rw [p6, zG (by rw [w9]; exact zp _), jL, w9]; omega
  ·rename_i m ex cs
   simp only [zv] at hn; subst hn; simp only at hc; obtain ⟨_, _, hcl⟩ := jI hc; simp only [VR] at hy; obtain ⟨hp, ⟨rfl, a, rfl⟩ | ⟨b, o, k, ys, rfl, _, _, hz1, hy1⟩⟩ := hy
   ·obtain rfl : new = [] := yi (by rw [hcl]; show 0 * esz = 0; simp)
    cases a with
    | some a => exact ⟨[], uP h1 hu hd' hs rfl (run_firstCells_some w esz 0 a 0 0 [] (by simp) (by simp)) (run_firstCells_some w.drew esz 0 a 0 0 [] (by simp) (by simp)), VRL.nil φ, by simp⟩
    | none => exact ⟨[], uP h1 hu hd' hs rfl (run_firstCells_none _ _ _ _ _) (run_firstCells_none _ _ _ _ _), VRL.nil φ, by simp⟩
   ·obtain ⟨xs, hxs, g1, g2⟩ := kl (P := P) (len := m) (k := k) r (by simp only [VR]; exact ⟨hp, b, o, ys, rfl, hz1, hy1⟩) hc
    exact ⟨xs, uP h1 hu hd' hs rfl g1 g2, hxs, hcl⟩
  ·rename_i id e' m cs
   simp only [zv] at hn; subst hn; simp only at hc; obtain ⟨_, _, hcl⟩ := jI hc; simp only [VR] at hy; obtain ⟨hp, _, _, _, B, ys, _, rfl, _, hz1, hy1⟩ := hy; obtain ⟨xs, hxs, g1, g2⟩ := kl (P := P) (len := m) (k := B.tot / e') r (by simp only [VR]; exact ⟨hp, B.b, B.o, ys, rfl, hz1, hy1⟩) hc
   exact ⟨xs, uP h1 hu hd' hs rfl g1 g2, hxs, hcl⟩
  ·cases hn
 cases hn : uO y with
 | none => rw [hn] at h; simp at h
 | some n =>
  rw [hn] at h; cases n with
  | zero =>
   simp only at h; have hsrc : Src P w ts e esz y' 0 [] := by
    unfold uO at hn; split at hn
    ·simp only [VR] at hy; subst hy; exact uP h1 hu hd' hs rfl (run_firstCells_none _ _ _ _ _) (run_firstCells_none _ _ _ _ _)
    ·simp only [VR] at hy; obtain ⟨a, k, rfl⟩ := hy; exact uP h1 hu hd' hs rfl (run_firstCells_some w esz 0 a 0 k [] (by simp) (by simp)) (run_firstCells_some w.drew esz 0 a 0 k [] (by simp) (by simp))
    ·simp only [zv] at hn; subst hn; simp only [VR] at hy; obtain ⟨B, k, hB, rfl, _⟩ := hy; exact uP h1 hu hd' hs rfl (run_firstCells_some w esz 0 _ 0 k [] (by simp) (by simp)) (run_firstCells_some w.drew esz 0 _ 0 k [] (by simp) (by simp))
    ·simp only [VR] at hy; obtain ⟨bs, rfl, rfl⟩ := hy; simp only [zv, wV, w9] at hn; have hl : bs.data.toList = [] := by
      apply yi; have : bs.data.size = bs.size := rfl; simp [this, hn]
     have e1 := fun w => jp (P := P) (w := w) esz bs; rw [hl, hn] at e1; exact uP h1 hu hd' hs (by simp [Builtin.lenOf, hn]) (e1 w) (e1 w.drew)
    ·simp only [zv] at hn; subst hn; simp only [VR] at hy; obtain ⟨hp, ⟨_, a, rfl⟩ | ⟨b, o, k, ys, rfl, _⟩⟩ := hy
     ·cases a with
      | some a => exact uP h1 hu hd' hs rfl (run_firstCells_some w esz 0 a 0 0 [] (by simp) (by simp)) (run_firstCells_some w.drew esz 0 a 0 0 [] (by simp) (by simp))
      | none => exact uP h1 hu hd' hs rfl (run_firstCells_none _ _ _ _ _) (run_firstCells_none _ _ _ _ _)
     ·exact uP h1 hu hd' hs rfl (run_firstCells_some w esz 0 _ 0 k [] (by simp) (by simp)) (run_firstCells_some w.drew esz 0 _ 0 k [] (by simp) (by simp))
    ·simp only [zv] at hn; subst hn; simp only [VR] at hy; obtain ⟨_, _, h0', _⟩ := hy; omega
    ·cases hn
   obtain ⟨rfl, g1, g2⟩ := Lr (ty := ty) r h0 ht hsrc h hx; exact ⟨φ, x', w, g1, Step.refl r, g2⟩
  | succ n =>
   simp only at h; cases hc : w6 s esz (Nat.succ n) y with
   | none => rw [hc] at h; simp at h
   | some new =>
    rw [hc] at h; simp only at h; obtain ⟨new', src, g2, g3⟩ := key _ _ hn hc; exact QG r hwf hf1 h0 ht hs hby hz hzl src oM g2 g3 h hx
theorem zpR (r : Rel P w0 φ s.get w) (hwf : Wf s) (hf1 : s.next < s'.next → φ s.next = none) {ts : Array TypeId} {ty e u : TypeId} {k : IntKind} {x y z : AV} {x' y' : Value}
  (h0 : ts[0]? = some t) (ht : P.underlying t = some (.slice e)) (h1 : ts[1]? = some u) (hu : P.underlying u = some (.int k)) (hs : qU P e = some esz) (hby : Uq P e = some bytes) (hz : js P e = some z) (hzl : wZ z.cells = esz) (he : 1 ≤ esz)
  (h : UQ s e esz bytes z.cells x y = some (v, s')) (hx : VR φ x x') (hy : VR φ y y') :
  ∃ φ' a w', (Builtin.append_ ts ty #[x', y']).run P w = .ok a w' ∧ Step P w0 φ s w φ' s' w' ∧ VR φ' v a := by
 obtain ⟨zx, hzr, hzv⟩ := qw hz; rw [wV] at hzl; have hzs : zx.cells.size = esz := by rw [← hzl, VRL.length (hzv φ).cells]; simp
 unfold UQ at h; split at h
 ·cases h
 ·rename_i n
  simp only [VR] at hy; subst hy; cases hb : (ze (zb (Nat.succ n) bytes) 281474976710656 && zd n 9223372036854775807) with
  | false => rw [hb] at h; simp at h
  | true =>
   rw [hb] at h; simp only [cond_true] at h; simp only [zl, xN, wb] at hb; have src := zqU (P := P) (w := w) (n := n + 1) h1 hu hs hby hzr hzs he oM oM hb.1; refine QG r hwf hf1 h0 ht hs hby hz hzl src oM (VRL.reps (hzv φ).cells _) ?_ h hx; rw [WL, hzl]
 ·cases h
theorem zo9 {ts : Array TypeId} {ty e : TypeId} {x : AV} {x' : Value} (h0 : ts[0]? = some t) (ht : P.underlying t = some (.slice e)) (h : znV x = some v) (hx : VR φ x x') :
  ∃ y, (Builtin.cap_ ts ty #[x']).run P w = .ok y w ∧ VR φ v y := by
 unfold znV at h; split at h
 ·cases h; simp only [VR] at hx; subst hx; exact ⟨goInt 0, by simp [Builtin.cap_, h0, xj ht], by simp only [VR]; rfl⟩
 ·rename_i id off len n
  cases h; simp only [VR] at hx; obtain ⟨B, k, hB, rfl, rfl⟩ := hx; exact ⟨goInt k, by simp [Builtin.cap_, h0, xj ht], by simp only [VR]; rfl⟩
 ·cases h
def jf (P : Program) (w0 : World) (φ : Phi) (s : St) (w : World) (a : Act) (o : Oper) (v : AV) (s' : St) : Prop :=
 ∃ φ' x w', ((execOp a.eval o).run P w = .ok (.value x) w' ∨ (execOp a.eval o).run P w = .ok .skip w' ∧ x = undef) ∧ Step P w0 φ s w φ' s' w' ∧ VR φ' v x
theorem Wb (φ : Phi) : VR φ qz undef := by simp only [qz, VR]; exact ⟨[], rfl, VRL.nil φ⟩
theorem Ky {a : Act} {o : Oper} {x : Value} {S : Sem Value} (e : execOp a.eval o = (do pure (.value (← S)))) (h : S.run P w = .ok x w') (hs : Step P w0 φ s w φ' s' w') (hv : VR φ' v x) : jf P w0 φ s w a o v s' :=
 ⟨φ', x, w', .inl (by rw [e]; simp [h]), hs, hv⟩
theorem zp2 {a : Act} {o : Oper} {S : Sem Unit} (e : execOp a.eval o = (do S; pure .skip)) (h : S.run P w = .ok () w') (hs : Step P w0 φ s w φ' s' w') (hv : v = qz) : jf P w0 φ s w a o v s' :=
 ⟨φ', undef, w', .inr ⟨by rw [e]; simp [h], rfl⟩, hs, hv ▸ Wb φ'⟩
theorem qE {a : Act} {o : Oper} {S : Sem Value} (r : Rel P w0 φ s.get w) (e : execOp a.eval o = (do pure (.value (← S)))) (hs : s' = s) (h : ∃ x, S.run P w = .ok x w ∧ VR φ v x) : jf P w0 φ s w a o v s' := by
 obtain ⟨x, h1, h2⟩ := h; subst hs; exact Ky e h1 (Step.refl r) h2
theorem pw {a : Act} {o : Oper} {S : Sem Value} (e : execOp a.eval o = (do pure (.value (← S)))) (h : ∃ φ' x w', S.run P w = .ok x w' ∧ Step P w0 φ s w φ' s' w' ∧ VR φ' v x) : jf P w0 φ s w a o v s' := by
 obtain ⟨φ', x, w', h1, h2, h3⟩ := h; exact Ky e h1 h2 h3
section
variable {tm : Trie AV} {s s' : St} {v : AV}
theorem ub {x : Option AV} (h : ko s x = some (v, s')) : x = some v ∧ s' = s := by
 cases x with
 | none => simp [ko] at h
 | some u => simp only [ko, zv, zw] at h; exact ⟨by rw [h.1], h.2.symm⟩
theorem wh {x : Opd} {f : AV → Option AV} (h : v1 tm s x f = some (v, s')) : ∃ u, x.ev tm = some u ∧ f u = some v ∧ s' = s := by
 unfold v1 at h; split at h
 ·rename_i u hu; obtain ⟨h1, h2⟩ := ub h; exact ⟨u, hu, h1, h2⟩
 ·cases h
theorem v7 {x y : Opd} {f : AV → AV → Option AV} (h : v2 tm s x y f = some (v, s')) : ∃ u z, x.ev tm = some u ∧ y.ev tm = some z ∧ f u z = some v ∧ s' = s := by
 unfold v2 at h; split at h
 ·rename_i u hu
  split at h
  ·rename_i z hz; obtain ⟨h1, h2⟩ := ub h; exact ⟨u, z, hu, hz, h1, h2⟩
  ·cases h
 ·cases h
theorem u5 {x : Opd} {f : AV → Option (AV × St)} (h : o1 tm x f = some (v, s')) : ∃ u, x.ev tm = some u ∧ f u = some (v, s') := by
 unfold o1 at h; split at h
 ·rename_i u hu; exact ⟨u, hu, h⟩
 ·cases h
theorem jD {x y : Opd} {f : AV → AV → Option (AV × St)} (h : o2 tm x y f = some (v, s')) : ∃ u z, x.ev tm = some u ∧ y.ev tm = some z ∧ f u z = some (v, s') := by
 unfold o2 at h; split at h
 ·rename_i u hu
  split at h
  ·rename_i z hz; exact ⟨u, z, hu, hz, h⟩
  ·cases h
 ·cases h
theorem zmk {x y z : Opd} {f : AV → AV → AV → Option (AV × St)} (h : o3 tm x y z f = some (v, s')) : ∃ a b c, x.ev tm = some a ∧ y.ev tm = some b ∧ z.ev tm = some c ∧ f a b c = some (v, s') := by
 unfold o3 at h; split at h
 ·rename_i a ha
  split at h
  ·rename_i b hb
   split at h
   ·rename_i c hc; exact ⟨a, b, c, ha, hb, hc, h⟩
   ·cases h
  ·cases h
 ·cases h
theorem Qp {x : Opd} {lo hi : Option Opd} {f : AV → Option AV → Option AV → Option AV} (h : vs3 tm s x lo hi f = some (v, s')) : ∃ a b c, x.ev tm = some a ∧ evO tm lo = some b ∧ evO tm hi = some c ∧ f a b c = some v ∧ s' = s := by
 unfold vs3 at h; split at h
 ·rename_i a ha
  split at h
  ·rename_i b hb
   split at h
   ·rename_i c hc; obtain ⟨h1, h2⟩ := ub h; exact ⟨a, b, c, ha, hb, hc, h1, h2⟩
   ·cases h
  ·cases h
 ·cases h
theorem Zz {x : Opd} {lo hi mx : Option Opd} {f : AV → Option AV → Option AV → Option AV → Option AV} (h : vs4 tm s x lo hi mx f = some (v, s')) : ∃ a b c d, x.ev tm = some a ∧ evO tm lo = some b ∧ evO tm hi = some c ∧ evO tm mx = some d ∧ f a b c d = some v ∧ s' = s := by
 unfold vs4 at h; split at h
 ·rename_i d hd
  obtain ⟨a, b, c, h1, h2, h3, h4, h5⟩ := Qp h; exact ⟨a, b, c, d, h1, h2, h3, hd, h4, h5⟩
 ·cases h
theorem Gh {l m : List Opd} {f : List AV → List AV → Option AV} (h : vLL tm s l m f = some (v, s')) : ∃ a b, evL tm l = some a ∧ evL tm m = some b ∧ f a b = some v ∧ s' = s := by
 unfold vLL at h; split at h
 ·rename_i a ha
  split at h
  ·rename_i b hb; obtain ⟨h1, h2⟩ := ub h; exact ⟨a, b, ha, hb, h1, h2⟩
  ·cases h
 ·cases h
theorem Y0 {x : Option Opd} {b : Option AV} (h : evO tm x = some b) : (x = none ↔ b = none) := by
 cases x with
 | none => simp [evO] at h; simp [← h]
 | some y =>
  simp only [evO] at h; cases hy : y.ev tm with
  | none => rw [hy] at h; simp at h
  | some u => rw [hy] at h; simp at h; simp [← h]
end
theorem uS (h : s.alloc o = s') : s.next < s'.next := by subst h; exact Nat.lt_succ_self _
theorem zwf {e len : Nat} {x : Option (List AV)} (h : Xg s e len x = some (v, s')) : s.next ≤ s'.next := by
 cases x with
 | none => simp [Xg] at h
 | some l =>
  simp only [Xg] at h; cases hb : (s.md && xK l) with
  | true => rw [hb] at h; simp only [cond_true, zv, zw] at h; rw [h.2]; exact zp _
  | false => rw [hb] at h; simp only [cond_false, zv, zw] at h; exact Nat.le_of_lt (uS h.2)
theorem Jy {e b : Nat} {z : List AV} {l c : AV} (h : UD s e b z l c = some (v, s')) : s.next < s'.next := by
 unfold UD at h; split at h
 ·rename_i l
  split at h
  ·rename_i c
   cases hb : (ze l c && ze (zb c b) 281474976710656 && zd c 9223372036854775808) with
   | false => rw [hb] at h; simp at h
   | true => rw [hb] at h; simp only [cond_true, zv, zw] at h; exact uS h.2
  ·cases h
 ·cases h
theorem zwh {e : Nat} {x : AV} (h : UC s e x = some (v, s')) : s.next ≤ s'.next := by
 unfold UC at h; split at h
 ·rename_i t
  cases hb : zd (wZ t) 9223372036854775808 with
  | false => rw [hb] at h; simp at h
  | true =>
   rw [hb] at h; simp only [cond_true] at h; cases hm : s.md with
   | true => rw [hm] at h; simp only [cond_true, zv, zw] at h; rw [h.2]; exact zp _
   | false => rw [hm] at h; simp only [cond_false, zv, zw] at h; exact Nat.le_of_lt (uS h.2)
 ·cases h
theorem HF {x : AV} (h : oRs s x = some (v, s')) : s.next < s'.next := by
 unfold oRs at h; split at h
 ·simp only [zv, zw] at h; exact uS h.2
 ·cases h
theorem znK {x : AV} (h : oRm s x = some (v, s')) : s.next < s'.next := by
 unfold oRm at h; split at h
 ·simp only [zv, zw] at h; exact uS h.2
 ·split at h
  ·simp only [zv, zw] at h; exact uS h.2
  ·cases h
 ·cases h
theorem Hp {α : Type} {a : Array α} {x y : α} (h : a.toList = [x, y]) : a = #[x, y] := by apply Array.ext'; exact h
theorem Ho {α : Type} {a : Array α} {x : α} (h : a.toList = [x]) : a = #[x] := by apply Array.ext'; exact h
theorem VH {α : Type} {a : Array α} {x : α} {l : List α} (h : a.toList = x :: l) : a[0]? = some x := by rw [← Array.getElem?_toList, h]; rfl
theorem ztn {α : Type} {a : Array α} {x y : α} {l : List α} (h : a.toList = x :: y :: l) : a[1]? = some y := by rw [← Array.getElem?_toList, h]; rfl
theorem KE {a : Act} {o : Oper} {c : Call} {b : Builtin} (ho : o.op = .call c) (hc : c.callee = .builtin b) : execOp a.eval o = (builtin b c.argTypes o.type (c.args.map fun | .const _ => true | _ => false) (c.args.map a.eval)) := by
 unfold execOp; rw [ho]; simp only [resolve, hc]; rfl
theorem Yh {P : Program} {w : World} {φ : Phi} : ∀ {r : List AV} {x v : AV} {x' : Value} {ys : List Value}, VM false x r = some v → VR φ x x' → VRL φ r ys → ∃ z, (ys.foldlM Builtin.min2 x').run P w = .ok z w ∧ VR φ v z
 | [], x, v, x', ys, h, hx, hr => by
  simp only [VM, zv] at h; subst h; simp only [VRL] at hr; subst hr; exact ⟨x', by simp, hx⟩
 | y :: r, x, v, x', ys, h, hx, hr => by
  simp only [VRL] at hr; obtain ⟨y', ys', rfl, hy, hr⟩ := hr; cases x <;> cases y <;> simp only [VM] at h <;> first | (cases h; done) | skip
  rename_i k a k' b
  simp only [VR] at hx hy; subst hx; subst hy; simp only [cond_false, j8] at h; have hm : (Builtin.min2 (.int k a) (.int k' b)) = pure (.int k (if b < a then b else a)) := rfl; simp only [List.foldlM_cons, hm]; by_cases hb : b < a
  ·rw [decide_eq_true hb] at h; simp only [cond_true] at h; rw [if_pos hb]; obtain ⟨z, g1, g2⟩ := Yh (P := P) (w := w) (x' := .int k b) h (by simp only [VR]) hr
   exact ⟨z, by simpa using g1, g2⟩
  ·rw [decide_eq_false hb] at h; simp only [cond_false] at h; rw [if_neg hb]; obtain ⟨z, g1, g2⟩ := Yh (P := P) (w := w) (x' := .int k a) h (by simp only [VR]) hr
   exact ⟨z, by simpa using g1, g2⟩
theorem Yf {P : Program} {w : World} {φ : Phi} : ∀ {r : List AV} {x v : AV} {x' : Value} {ys : List Value}, VM true x r = some v → VR φ x x' → VRL φ r ys → ∃ z, (ys.foldlM Builtin.max2 x').run P w = .ok z w ∧ VR φ v z
 | [], x, v, x', ys, h, hx, hr => by
  simp only [VM, zv] at h; subst h; simp only [VRL] at hr; subst hr; exact ⟨x', by simp, hx⟩
 | y :: r, x, v, x', ys, h, hx, hr => by
  simp only [VRL] at hr; obtain ⟨y', ys', rfl, hy, hr⟩ := hr; cases x <;> cases y <;> simp only [VM] at h <;> first | (cases h; done) | skip
  rename_i k a k' b
  simp only [VR] at hx hy; subst hx; subst hy; simp only [cond_true, j8] at h; have hm : (Builtin.max2 (.int k a) (.int k' b)) = pure (.int k (if b > a then b else a)) := rfl; simp only [List.foldlM_cons, hm]; by_cases hb : a < b
  ·rw [decide_eq_true hb] at h; simp only [cond_true] at h; rw [if_pos hb]; obtain ⟨z, g1, g2⟩ := Yf (P := P) (w := w) (x' := .int k b) h (by simp only [VR]) hr
   exact ⟨z, by simpa using g1, g2⟩
  ·rw [decide_eq_false hb] at h; simp only [cond_false] at h; rw [if_neg oM]; obtain ⟨z, g1, g2⟩ := Yf (P := P) (w := w) (x' := .int k a) h (by simp only [VR]) hr
   exact ⟨z, by simpa using g1, g2⟩
theorem ztt {ts : Array TypeId} {ty : TypeId} {l : List AV} {xs : List Value} (h : vMn false l = some v) (hx : VRL φ l xs) : ∃ z, (Builtin.min_ ts ty xs.toArray).run P w = .ok z w ∧ VR φ v z := by
 cases l with
 | nil => simp [vMn] at h
 | cons x r =>
  simp only [VRL] at hx; obtain ⟨y, ys, rfl, h1, h2⟩ := hx; exact Yh h h1 h2
theorem znA {ts : Array TypeId} {ty : TypeId} {l : List AV} {xs : List Value} (h : vMn true l = some v) (hx : VRL φ l xs) : ∃ z, (Builtin.max_ ts ty xs.toArray).run P w = .ok z w ∧ VR φ v z := by
 cases l with
 | nil => simp [vMn] at h
 | cons x r =>
  simp only [VRL] at hx; obtain ⟨y, ys, rfl, h1, h2⟩ := hx; exact Yf h h1 h2
theorem zzn {l : List Opd} {f : List AV → Option AV} (h : vL tm s l f = some (v, s')) : ∃ a, evL tm l = some a ∧ f a = some v ∧ s' = s := by
 unfold vL at h; cases hl : evL tm l with
 | none => rw [hl] at h; cases h
 | some a => rw [hl] at h; obtain ⟨h1, h2⟩ := ub h; exact ⟨a, rfl, h1, h2⟩
theorem zsb (r : Rel P w0 φ s.get w) {B : Blk} {e : Nat} {cells : List AV} {ext fz : Bool} (hg : s.get id = some (.row e cells ext fz)) (hB : φ id = some B) :
  ∃ c fr, w.heap[B.b]? = some (.cells c e fr) ∧ c.size = B.o + B.tot ∧ cells.length ≤ B.tot ∧ (ext = false → cells.length = B.tot ∧ B.o = 0) ∧
   VRL φ cells ((c.toList.drop B.o).take cells.length) ∧ fr.1 ≤ fr.2 ∧ (fz = false → ∀ i, i < c.size → ¬ (fr.1 ≤ i ∧ i < fr.2)) := by
 obtain ⟨B', hB', c, fr, h⟩ := r.obj id _ hg; rw [hB] at hB'; cases hB'; exact ⟨c, fr, h⟩
theorem V5 {b : Nat} {c : Array Value} {e : TypeId} {fr : Nat × Nat} (h : w.heap[b]? = some (.cells c e fr)) : (viewAt b).run P w = .ok none w := by
 have hs : w.shape? b = some (e, c.size) := by simp [World.shape?, h]
 simp [viewAt, hs]
theorem pX {a : Addr} {c : Array Value} {e : TypeId} {fr : Nat × Nat} (h : w.heap[a.block]? = some (.cells c e fr)) : (Conv.seenAt a).run P w = .ok a w := by
 simp [Conv.seenAt, V5 h]
theorem Qf {b : Nat} {c : Array Value} {e : TypeId} {fr : Nat × Nat} (h : w.heap[b]? = some (.cells c e fr)) : (cellsIn b).run P w = .ok (some c.size) w := by
 have hs : w.shape? b = some (e, c.size) := by simp [World.shape?, h]
 simp [cellsIn, hs]
theorem zy9 (r : Rel P w0 φ s.get w) {sT d : TypeId} {x : AV} {x' : Value} (hs : P.underlying sT = some (.pointer t)) (hd : P.underlying d = some .unsafePointer) (hz : qU P t = some (n + 1))
  (h : zoZ s x = some v) (hx : VR φ x x') : ∃ z, (convert sT d x').run P w = .ok z w ∧ VR φ v z := by
 unfold zoZ at h; split at h
 ·cases h; simp only [VR] at hx; subst hx; exact ⟨.pointer none, by simp [convert, xj hs, xj hd, Conv.unsafePointer], by simp only [VR]⟩
 ·rename_i id off
  split at h
  ·rename_i e cs ext fz hg
   cases hb : zd off (wZ cs) with
   | false => rw [hb] at h; simp at h
   | true =>
    rw [hb] at h; simp only [cond_true, zv] at h; subst h; rw [wb, wV] at hb; have hx' := hx; simp only [VR] at hx; obtain ⟨B, hB, rfl⟩ := hx; obtain ⟨c, fr, h1, h2, h3, _⟩ := zsb r hg hB; refine ⟨_, ?_, hx'⟩; have hlt : ¬ c.size ≤ B.o + off := oM; simp [convert, xj hs, xj hd, Conv.unsafePointer, pX (a := ⟨B.b, B.o + off, none⟩) h1, Qf h1, x5 hz, hlt]
  ·cases h
 ·cases h
theorem Hy {e n : Nat} : ∀ {L : List (Nat × Nat)}, zts e n L = true → (e, n) ∈ L
 | [], h => by cases h
 | p :: r, h => by
  simp only [zts] at h; cases hb : (za p.1 e && za p.2 n) with
  | true =>
   simp only [zl, xG] at hb; have : p = (e, n) := by cases p; simp_all
   simp [this]
  | false => rw [hb] at h; simp only [cond_false] at h; exact List.mem_cons_of_mem _ (Hy h)
theorem zx4 {u e : Nat} (h : (e, n) ∈ Hm P u) : P.cellsOf e = n ∧ 1 ≤ n ∧ liesAt P P.depth e 1 0 u 1 = true := by
 unfold Hm at h; obtain ⟨e', h1, h2⟩ := List.mem_map.1 h; simp only [zw] at h2; obtain ⟨rfl, rfl⟩ := h2; have := (List.mem_filter.1 h1).2; simp only [zl, xN] at this; exact ⟨rfl, this.1, this.2⟩
theorem zy7 (r : Rel P w0 φ s.get w) {sT d u : TypeId} {x : AV} {x' : Value} (hs : P.underlying sT = some .unsafePointer) (hd : P.underlying d = some (.pointer u)) (hz : qU P u = some (n + 1))
  (h : zoY s (Hm P u) x = some v) (hx : VR φ x x') : ∃ z, (convert sT d x').run P w = .ok z w ∧ VR φ v z := by
 unfold zoY at h; split at h
 ·cases h; simp only [VR] at hx; subst hx; exact ⟨.pointer none, by simp [convert, xj hs, xj hd, Conv.unsafePointer], by simp only [VR]⟩
 ·rename_i id
  split at h
  ·rename_i e cs fz hg
   cases hb : zts e (wZ cs) (Hm P u) with
   | false => rw [hb] at h; simp at h
   | true =>
    rw [hb] at h; simp only [cond_true, zv] at h; subst h; obtain ⟨l1, l2, l3⟩ := zx4 (Hy hb); rw [wV] at l1 l2; have hx' := hx; simp only [VR] at hx; obtain ⟨B, hB, rfl⟩ := hx; obtain ⟨c, fr, h1, h2, h3, h4, _⟩ := zsb r hg hB; obtain ⟨h5, h6⟩ := h4 rfl; refine ⟨_, ?_, hx'⟩; have hsh : w.shape? B.b = some (e, c.size) := by simp [World.shape?, h1]
    have hc : c.size / P.cellsOf e = 1 := by
     have : c.size = P.cellsOf e := oM; rw [this]; exact Nat.div_self oM
    have hv : (variablesAt ⟨B.b, B.o, none⟩ u 1).run P w = .ok true w := by
     simp [variablesAt, hsh, hc, h6, l3]
    simp [convert, xj hs, xj hd, Conv.unsafePointer, pX (a := ⟨B.b, B.o, none⟩) h1, x5 hz, hv]
  ·cases h
 ·cases h
theorem zw5 {ts : Array TypeId} {ty : TypeId} {x : AV} {x' : Value} (h : zo4 x = some v) (hx : VR φ x x') : ∃ z, (Builtin.unsafeSliceData_ ts ty #[x']).run P w = .ok z w ∧ VR φ v z := by
 unfold zo4 at h; split at h
 ·cases h; simp only [VR] at hx; subst hx; exact ⟨.pointer none, Lib.run_unsafeSliceData_nil (P := P) w ts ty 0 0, by simp only [VR]⟩
 ·rename_i id off len c
  simp only [VR] at hx; obtain ⟨B, k, hB, rfl, hk⟩ := hx; have hk0 : k ≠ 0 ∧ v = .ptr id off := by
   split at h
   ·rename_i c'
    simp only at hk; subst hk; cases hb : za k 0 with
    | true => rw [hb] at h; simp at h
    | false => rw [hb] at h; simp at h; exact ⟨fun e => (by rw [xG.2 e] at hb; cases hb), h.symm⟩
   ·simp only at hk; cases hb : za len 0 with
    | true => rw [hb] at h; simp at h
    | false =>
     rw [hb] at h; simp at h; have : len ≠ 0 := fun e => by rw [xG.2 e] at hb; cases hb
     exact ⟨oM, h.symm⟩
  obtain ⟨h0, rfl⟩ := hk0; exact ⟨_, Lib.run_unsafeSliceData_row (P := P) w ts ty _ len k h0, by simp only [VR]; exact ⟨B, hB, rfl⟩⟩
 ·cases h
theorem UA {e : TypeId} (hc : P.cellsOf e = 1) (count off n : Nat) (hn : off + n ≤ count) : liesAt P P.depth e count off e n = true := by
 have hd : P.depth = (2 * (P.types.size + Made.depth) + 1) + 1 := rfl; rw [hd]; simp only [liesAt, zn]
 left
 rw [hd]; simp [rowAt, hc, hn, sameLayout, Nat.mod_one]
theorem GB (h : qU P t = some n) : P.cellsOf t = n := by
 unfold qU at h; unfold Program.cellsOf; rw [h]; rfl
theorem LX {e : TypeId} (h : P.underlying t = some (.pointer e)) : (elemOf t).run P w = .ok e w := by
 simp [elemOf, xj h]
theorem znq {fr : Nat × Nat} {a : Nat} (h : fr.1 ≤ fr.2) : (if fr.1 == fr.2 then (a, a + n) else (min fr.1 a, max fr.2 (a + n))).1 ≤ (if fr.1 == fr.2 then (a, a + n) else (min fr.1 a, max fr.2 (a + n))).2 := by
 split <;> simp only <;> omega
theorem Xv (ts : Array TypeId) (ty : TypeId) (v : Value) : Builtin.unsafeString_ ts ty #[.pointer none, v] = (do
 let n ← asInt v
 let some _pt := ts[0]? | stuck "unsafe.String: no argument types"
 if n < 0 then runtimePanic (.error "unsafe.String: len out of range")
 if n > IntKind.i64.max then unsupported (.unsafePointer "String: a length above the largest int")
 if n = 0 then pure (.string .empty)
 else runtimePanic (.error "unsafe.String: ptr is nil and len is not zero")) := rfl
theorem gL (ts : Array TypeId) (ty : TypeId) (a : Addr) (v : Value) : Builtin.unsafeString_ ts ty #[.pointer (some a), v] = (do
 let n ← asInt v
 let some pt := ts[0]? | stuck "unsafe.String: no argument types"
 if n < 0 then runtimePanic (.error "unsafe.String: len out of range")
 if n > IntKind.i64.max then unsupported (.unsafePointer "String: a length above the largest int")
 if n = 0 then pure (.string .empty)
 else if ← variablesAt a (← elemOf pt) n.toNat then do
  let s ← loadBytes a .empty n.toNat
  freeze a n.toNat
  pure (.string s)
 else unsupported (.unsafePointer "String: not so many bytes at ptr")) := rfl
theorem zw6 (r : Rel P w0 φ s.get w) {ts : Array TypeId} {ty e : TypeId} {x n : AV} {x' n' : Value} (h0 : ts[0]? = some t) (hu : P.underlying t = some (.pointer e)) (hz : qU P e = some 1)
  (h : PN s e x n = some (v, s')) (hx : VR φ x x') (hn : VR φ n n') : ∃ φ' y w', (Builtin.unsafeString_ ts ty #[x', n']).run P w = .ok y w' ∧ Step P w0 φ s w φ' s' w' ∧ VR φ' v y := by
 unfold PN at h; split at h
 ·rename_i k n
  simp only [VR] at hn; subst hn; split at h
  ·have hres : v = .str [] ∧ s' = s ∧ ∃ p, x' = .pointer p := by
    split at h
    ·simp only [zv, zw] at h; simp only [VR] at hx; exact ⟨h.1.symm, h.2.symm, _, hx⟩
    ·simp only [zv, zw] at h; simp only [VR] at hx; obtain ⟨B, _, e⟩ := hx; exact ⟨h.1.symm, h.2.symm, _, e⟩
    ·cases h
   obtain ⟨rfl, rfl, p, rfl⟩ := hres; refine ⟨φ, .string .empty, w, ?_, Step.refl r, by simp only [VR]; exact ⟨_, rfl, rfl⟩⟩
   have hmax : IntKind.i64.max = 9223372036854775807 := rfl; cases p
   ·rw [Xv]; simp [asInt, asIntOf, h0, hmax]
   ·rw [gL]; simp [asInt, asIntOf, h0, hmax]
  ·rename_i m
   split at h
   ·rename_i id off
    split at h
    ·rename_i t' cs ext fz hg
     cases hb : (za t' e && zd m 9223372036854775807) with
     | false => rw [hb] at h; simp at h
     | true =>
      rw [hb] at h; simp only [cond_true] at h; simp only [zl, xG, wb] at hb; obtain ⟨hb, hmax⟩ := hb; subst hb; cases hc : vF (cut cs off (Nat.succ m)) with
      | none => rw [hc] at h; simp at h
      | some b =>
       rw [hc] at h; simp only [zv, zw] at h; obtain ⟨rfl, rfl⟩ := h; cases hcut : cut cs off (Nat.succ m) with
       | none => rw [hcut] at hc; cases hc
       | some l =>
        rw [hcut] at hc; have hc' : ur l = some b := hc; simp only [VR] at hx; obtain ⟨B, hB, rfl⟩ := hx; obtain ⟨c, fr, h1, h2, h3, h4, h5, h6, h7⟩ := zsb r hg hB; obtain ⟨us, rfl, hus⟩ := jO hc' (h5.cut hcut); obtain ⟨hl, hb, hl2⟩ := cut_some hcut; have hlen : us.length = m + 1 := by
         have := congrArg yC hus; simp at this; have h3' := VRL.length h5; simp at h3'; rcases hb with hb | hb
         ·omega
         ·omega
        have hfit : off + (m + 1) ≤ cs.length := by rcases hb with hb | hb <;> omega
        have hsh : w.shape? B.b = some (t', c.size) := by simp [World.shape?, h1]
        have hcell := GB hz; have hv : (variablesAt ⟨B.b, B.o + off, none⟩ t' (m + 1)).run P w = .ok true w := by
         simp [variablesAt, hsh, hcell, UA hcell c.size (B.o + off) (m + 1) oM]
        have hld := Lib.run_loadBytes (P := P) w us ⟨B.b, B.o + off, none⟩ .empty (fun j y hj => by
         have hjl : j < us.length := (List.getElem?_eq_some_iff.1 hj).1; have hx2 : (us.map fun u => Value.int .u8 (u.toNat : Int))[j]? = some (.int .u8 y.toNat) := by simp [hj]
         rw [← hus, zE, if_pos oM, zD, zE, if_pos oM, zD] at hx2; rw [qJ, uv h1, show B.o + off + j = B.o + (off + j) by omega, ← zy]
         exact hx2)
        rw [hlen] at hld; refine ⟨φ, .string ⟨ByteArray.empty.data ++ us.toArray⟩, w.freeze ⟨B.b, B.o + off, none⟩ (m + 1), ?_, ?_, ?_⟩
        ·have hb1 : ¬ ((m : Int) + 1 < 0) := oM; have hb2 : ¬ ((9223372036854775807 : Int) < (m : Int) + 1) := oM; have hb3 : ¬ ((m : Int) + 1 = 0) := oM; have hb4 : ((m : Int) + 1).toNat = m + 1 := oM; have hmax : IntKind.i64.max = 9223372036854775807 := rfl; rw [gL]; simp [asInt, asIntOf, h0, hmax, LX hu, hv, hld, hb1, hb2, hb3, hb4]
        ·obtain ⟨f1, f2, f3, f4⟩ := lE (w := w) (a := ⟨B.b, B.o + off, none⟩) (n := m + 1); refine Step.put r hg hB (fun b hb => Z4 hb) f1 f2 f3 f4 ?_; have hin := XT (w := w) (a := ⟨B.b, B.o + off, none⟩) (n := m + 1) oM h1; exact ⟨c, _, hin, h2, h3, h4, h5, znq h6, fun hz => by cases hz⟩
        ·simp only [VR]; exact ⟨_, rfl, by have e : (ByteArray.empty.data ++ us.toArray).toList = us := (by simp); simp only [qK]; rw [e]⟩
    ·cases h
   ·cases h
 ·cases h
theorem WA (c : UInt8) : ∀ (l : List UInt8) (i : Nat), G2 c.toNat (l.map (·.toNat)) i = (l.findIdx? (· == c)).map (· + i)
 | [], i => rfl
 | b :: l, i => by
  simp only [zA, G2, List.findIdx?_cons]; by_cases hb : b = c
  ·subst hb; simp
  ·have h1 : za b.toNat c.toNat = false := by
    cases h : za b.toNat c.toNat with
    | false => rfl
    | true => exact absurd (UInt8.toNat_inj.1 (xG.1 h)) hb
   rw [h1, WA c l (i + 1)]; simp only [cond_false, beq_iff_eq, hb, if_false, Option.map_map]; cases l.findIdx? (· == c) <;> simp <;> omega
theorem UB : Extern.allNextRows.lookup "internal/abi.NoEscape" = none := by kernel_rfl
theorem VP : Extern.allNextRows.lookup "" = none := by kernel_rfl
theorem KO : Extern.allGenericRows.lookup "internal/abi.NoEscape" = none := by kernel_rfl
theorem Ul : Extern.allTypedRows.lookup "internal/abi.NoEscape" = none := by kernel_rfl
theorem UH : Extern.allRows.lookup "internal/abi.NoEscape" = some Extern.AbiNoEscape.same := by kernel_rfl
theorem ztw : Extern.allNextRows.lookup "internal/bytealg.IndexByteString" = none := by kernel_rfl
theorem zqc : Extern.allGenericRows.lookup "internal/bytealg.IndexByteString" = none := by kernel_rfl
theorem zw3 : Extern.allTypedRows.lookup "internal/bytealg.IndexByteString" = none := by kernel_rfl
theorem zsc : Extern.allRows.lookup "internal/bytealg.IndexByteString" = some Extern.BytealgIndexByte.indexByte := by kernel_rfl
theorem Uw {fn : Func} (h : fn.name = "internal/abi.NoEscape") (ho : fn.origin = "") : Extern.findNext fn = none ∧ Extern.find fn = some Extern.AbiNoEscape.same := by
 constructor
 ·simp only [Extern.findNext, h, ho, UB, VP, yr]; rfl
 ·simp only [Extern.find, h, KO, Ul, UH, yr]; rfl
theorem zuM {fn : Func} (h : fn.name = "internal/bytealg.IndexByteString") (ho : fn.origin = "") : Extern.findNext fn = none ∧ Extern.find fn = some Extern.BytealgIndexByte.indexByte := by
 constructor
 ·simp only [Extern.findNext, h, ho, ztw, VP, yr]; rfl
 ·simp only [Extern.find, h, zqc, zw3, zsc, yr]; rfl
theorem V3 {f : Nat} {fn : Func} {g : Array Value → Sem Value} {xs : Array Value} {z : Value} (hf : P.funcs[f]? = some fn) (hb : fn.body.isNone = true) (hn : (fn.name == "runtime.NumGoroutine") = false) (h1 : Extern.findNext fn = none) (h2 : Extern.find fn = some g)
  (hg : (g xs).run P w = .ok z w) : (callFunc f xs).run P w = .ok (.value z) w := by
 have hn' : fn.name ≠ "runtime.NumGoroutine" := by simpa using hn
 have hb' : fn.body = none := by simpa using hb
 simp [callFunc, hf, hn', hb', h1, h2, hg]
theorem Jf {P : Program} {w : World} {a : Act} {o : Oper} {c : Call} {f : Nat} {x : Next} (ho : o.op = .call c) (hc : c.callee = .value (.func f)) (h : (callFunc f (c.args.map a.eval)).run P w = .ok x w') : (execOp a.eval o).run P w = .ok x w' := by
 unfold execOp; rw [ho]; simp [resolve, hc, Act.eval, Deferred.ofValue, invoke, h]
theorem Po (b : ByteArray) (c : UInt8) : (List.range b.size).find? (fun i => b[i]! == c) = b.data.toList.findIdx? (· == c) := by
 have key : ∀ (l : List UInt8) (k : Nat) (n : Nat), l.length = n → (∀ i, i < n → b[k + i]! = l[i]?.getD 0) → (List.range' k n).find? (fun i => b[i]! == c) = (l.findIdx? (· == c)).map (· + k) := by
  intro l
  induction l with
  | nil => intro k n hn _; simp at hn; subst hn; rfl
  | cons x l ih =>
   intro k n hn hb; cases n with
   | zero => simp at hn
   | succ n =>
    have h0 := hb 0 oM; simp at h0; rw [List.range'_succ, List.find?_cons, List.findIdx?_cons, h0]; by_cases hx : x = c
    ·subst hx; simp
    ·have hxb : (x == c) = false := by simpa using hx
     rw [hxb]; simp only [Bool.false_eq_true, if_false]; rw [ih (k + 1) n (by simpa using hn) (fun i hi => by have := hb (i + 1) oM; rw [show k + (i + 1) = k + 1 + i by omega] at this; simpa using this)]
     cases l.findIdx? (· == c) <;> simp <;> omega
 have := key b.data.toList 0 b.size (by simp) (fun i hi => by
  have hi' : i < b.data.toList.length := by simpa using hi
  simp only [yy]; rw [yl hi', Option.getD_some]; show b[i]! = _; rw [getElem!_pos b i hi]; rfl)
 rw [List.range_eq_range', this]; cases b.data.toList.findIdx? (· == c) <;> simp
theorem zxX {x c : AV} {x' c' : Value} (h : zo2 x c = some v) (hx : VR φ x x') (hc : VR φ c c') : ∃ z, (Extern.BytealgIndexByte.indexByte #[x', c']).run P w = .ok z w ∧ VR φ v z := by
 unfold zo2 at h; split at h
 ·rename_i t
  split at h
  ·rename_i c
   simp only [VR] at hx hc; obtain ⟨bs, rfl, rfl⟩ := hx; subst hc; cases hb : zd c 256 with
   | false => rw [hb] at h; simp at h
   | true =>
   rw [hb] at h; simp only [cond_true] at h; have hlt : c < 256 := wb.1 hb; have hu : ((c.toUInt8).toNat) = c := by rw [Nat.toUInt8, UInt8.toNat_ofNat']; exact Nat.mod_eq_of_lt hlt
   have hf := WA c.toUInt8 bs.data.toList 0; rw [hu] at hf; have hf' : G2 c (qK bs) 0 = (bs.data.toList.findIdx? (· == c.toUInt8)).map (· + 0) := hf; rw [hf'] at h
   have hd : Extern.BytealgIndexByte.indexByte #[.string bs, .int .u8 (Int.ofNat c)] = (do
    let b ← Extern.Bytes.bytesOf (.string bs)
    let c ← Extern.Bytes.asByte (.int .u8 (Int.ofNat c))
    match (List.range b.size).find? fun i => b[i]! == c with
    | some i => pure (goInt i)
    | none => pure (goInt (-1))) := rfl
   rw [hd]; simp only [Extern.Bytes.bytesOf, Extern.Bytes.asByte, pure_bind]; have e1 : (Int.ofNat c).toNat.toUInt8 = c.toUInt8 := rfl; rw [e1, Po]; cases hi : bs.data.toList.findIdx? (· == c.toUInt8) with
   | none => rw [hi] at h; simp at h; subst h; exact ⟨goInt (-1), by simp, by simp only [VR]; rfl⟩
   | some i => rw [hi] at h; simp at h; subst h; exact ⟨goInt i, by simp, by simp only [VR]; rfl⟩
  ·cases h
 ·cases h
mutual
theorem zp9 : ∀ {a b : AV}, eqW a b = true → a = b
 | .bool a, b, h => by cases b <;> simp [eqW] at h; rw [h]
 | .int k n, b, h => by
  cases b <;> simp only [eqW, zl, hZ, kK, decide_eq_true_eq, beq_iff_eq] at h <;> first | (cases h; done) | skip
  rw [h.1, h.2]
 | .str a, b, h => by
  cases b <;> simp only [eqW, Z2, beq_iff_eq] at h <;> first | (cases h; done) | skip
  rw [h]
 | .nils, b, h => by cases b <;> simp [eqW] at h; rfl
 | .nilp, b, h => by cases b <;> simp [eqW] at h; rfl
 | .sl0, b, h => by cases b <;> simp [eqW] at h; rfl
 | .nilm, b, h => by cases b <;> simp [eqW] at h; rfl
 | .nili, b, h => by cases b <;> simp [eqW] at h; rfl
 | .nilf, b, h => by cases b <;> simp [eqW] at h; rfl
 | .ptr i o, b, h => by
  cases b <;> simp only [eqW, zl, xG] at h <;> first | (cases h; done) | skip
  rw [h.1, h.2]
 | .gptr i o, b, h => by
  cases b <;> simp only [eqW, zl, xG] at h <;> first | (cases h; done) | skip
  rw [h.1, h.2]
 | .map i, b, h => by
  cases b <;> simp only [eqW, xG] at h <;> first | (cases h; done) | skip
  rw [h]
 | .sl i o n c, b, h => by
  cases b <;> simp only [eqW, zl, xG] at h <;> first | (cases h; done) | skip
  rename_i j p m d
  obtain ⟨⟨⟨rfl, rfl⟩, rfl⟩, h4⟩ := h; cases c <;> cases d <;> simp only [xG] at h4 <;> first | (cases h4; done) | (rw [h4])
 | .agg a, b, h => by
  cases b <;> simp only [eqW] at h <;> first | (cases h; done) | skip
  rw [YY h]
 | .lst n e a, b, h => by
  cases b <;> simp only [eqW, zl, xG, beq_iff_eq] at h <;> first | (cases h; done) | skip
  rw [h.1.1, h.1.2, YY h.2]
 | .fn _ _ _, b, h => by cases b <;> simp [eqW] at h
 | .yld _, b, h => by cases b <;> simp [eqW] at h
 | .ifc _ _, b, h => by cases b <;> simp [eqW] at h
 | .tup _, b, h => by cases b <;> simp [eqW] at h
 | .gr _ _ _ _, b, h => by cases b <;> simp [eqW] at h
 | .vp _, b, h => by cases b <;> simp [eqW] at h
theorem YY : ∀ {a b : List AV}, kN a b = true → a = b
 | [], [], _ => rfl
 | [], _ :: _, h => by simp [kN] at h
 | _ :: _, [], h => by simp [kN] at h
 | a :: x, b :: y, h => by
  simp only [kN, zl] at h; rw [zp9 h.1, YY h.2]
end
theorem zp8 {a b : Option AObj} (h : eqO a b = true) : a = b := by
 unfold eqO at h; split at h
 ·simp only [zl, xG, beq_iff_eq] at h; rw [h.1.1.1, h.1.1.2, h.1.2, YY h.2]
 ·simp only [zl, xG] at h; rw [h.1, YY h.2]
 ·rfl
 ·cases h
theorem GO {sA sB : St} {i j : Nat} {J : Trie AObj} (h : j ≠ i) : (YO sA sB i J).get j = J.get j := by
 unfold YO; cases eqO (sA.objs.get i) (sB.objs.get i) with
 | true => rfl
 | false => simp only [cond_false]; rw [Trie.get_del, if_neg h]
theorem Q0 {sA sB : St} {i j : Nat} {J : Trie AObj} (h : (YO sA sB i J).get j = some o) : J.get j = some o ∧ (j = i → sA.objs.get j = sB.objs.get j) := by
 unfold YO at h; cases hb : eqO (sA.objs.get i) (sB.objs.get i) with
 | true => rw [hb] at h; exact ⟨h, fun e => by rw [e]; exact zp8 hb⟩
 | false =>
  rw [hb] at h; simp only [cond_false] at h; rw [Trie.get_del] at h; by_cases e : j = i
  ·rw [if_pos e] at h; cases h
  ·rw [if_neg e] at h; exact ⟨h, fun e' => absurd e' e⟩
theorem lz {sA sB : St} : ∀ {k i j : Nat} {J : Trie AObj} {o : AObj}, (Zj sA sB k i J).get j = some o → J.get j = some o ∧ (i ≤ j → j < i + k → sA.objs.get j = sB.objs.get j)
 | 0, i, j, J, o, h => ⟨h, fun h1 h2 => oM⟩
 | k + 1, i, j, J, o, h => by
  obtain ⟨h1, h2⟩ := lz (k := k) h; obtain ⟨h3, h4⟩ := Q0 h1; refine ⟨h3, fun h5 h6 => ?_⟩; by_cases e : j = i
  ·exact h4 e
  ·exact h2 (by show i + 1 ≤ j; omega) (by show j < i + 1 + k; omega)
theorem Q1 {sA sB : St} : ∀ {k i j : Nat} {J : Trie AObj}, (j < i ∨ i + k ≤ j) → (Zj sA sB k i J).get j = J.get j
 | 0, i, j, J, h => rfl
 | k + 1, i, j, J, h => by
  have h1 := Q1 (sA := sA) (sB := sB) (k := k) (i := i + 1) (j := j) (J := YO sA sB i J) oM; exact h1.trans (GO oM)
theorem Hr {m : Nat} (h : m ≠ 0) : m.testBit (Nat.log2 m) = true := by
 rw [Nat.testBit_log2 h]
theorem zyC (m i j : Nat) : (Nat.xor m (Nat.shiftLeft 1 i)).testBit j = (m.testBit j ^^ decide (j = i)) := by
 show (m ^^^ 1 <<< i).testBit j = _; rw [Nat.testBit_xor, Nat.testBit_shiftLeft]; by_cases h : j = i
 ·subst h; simp
 ·by_cases h2 : j ≥ i
  ·obtain ⟨k, hk⟩ : ∃ k, j - i = k + 1 := ⟨j - i - 1, oM⟩; rw [hk, Nat.testBit_succ]; simp [h]
  ·simp [h, h2]
theorem YP {sA sB : St} : ∀ {k m : Nat} {J J' : Trie AObj}, lA sA sB k m J = some J' →
  (∀ j o, J'.get j = some o → J.get j = some o ∧ (m.testBit j = true → sA.objs.get j = sB.objs.get j)) ∧ ∀ j, m.testBit j = false → J'.get j = J.get j
 | 0, m, J, J', h => by
  simp only [lA] at h; cases hb : za m 0 with
  | false => rw [hb] at h; simp at h
  | true =>
   rw [hb] at h; simp only [cond_true, zv] at h; subst h; rw [xG] at hb; subst hb; exact ⟨fun j o h => ⟨h, fun h0 => by simp at h0⟩, fun _ _ => rfl⟩
 | k + 1, m, J, J', h => by
  simp only [lA] at h; cases hb : za m 0 with
  | true =>
   rw [hb] at h; simp only [cond_true, zv] at h; subst h; rw [xG] at hb; subst hb; exact ⟨fun j o h => ⟨h, fun h0 => by simp at h0⟩, fun _ _ => rfl⟩
  | false =>
   rw [hb] at h; simp only [cond_false] at h; have hm : m ≠ 0 := fun e => by rw [xG.2 e] at hb; cases hb
   have hbit := Hr hm; obtain ⟨h1, h2⟩ := YP (k := k) h; refine ⟨fun j o hj => ?_, fun j hj => ?_⟩
   ·obtain ⟨h3, h4⟩ := h1 j o hj; obtain ⟨h5, h6⟩ := Q0 h3; refine ⟨h5, fun hjb => ?_⟩; by_cases e : j = Nat.log2 m
    ·exact h6 e
    ·exact h4 (by rw [zyC, hjb, decide_eq_false e]; rfl)
   ·have e : j ≠ Nat.log2 m := fun e => by rw [e, hbit] at hj; cases hj
    exact (h2 j (by rw [zyC, hj, decide_eq_false e]; rfl)).trans (GO e)
theorem Xh (m n i : Nat) : (wq m n).testBit i = (decide (i < n) && m.testBit i) := by
 show (m % 2 ^ n).testBit i = _; rw [Nat.testBit_mod_two_pow]
structure JoinOk (s sA sB s' : St) : Prop where
 nA : s'.next = sA.next
 nB : s'.next = sB.next
 hide : s'.hide = s.hide
 only : s'.only = s.only
 wm : ∀ i, s'.wm.testBit i = (s.wm.testBit i || (sA.wm.testBit i || sB.wm.testBit i))
 both : ∀ i o, s'.objs.get i = some o → sA.objs.get i = some o
 bothB : Wf s → ∀ i o, s'.objs.get i = some o → sB.objs.get i = some o
 stay : ∀ i, i < s.next → sA.wm.testBit i = false → sB.wm.testBit i = false → s'.objs.get i = s.objs.get i
theorem Px {sA sB : St} (h : Xc s sA sB = some s') : s'.next = sA.next := by
 unfold Xc at h; cases hn : za sA.next sB.next with
 | false => rw [hn] at h; simp at h
 | true =>
  rw [hn] at h; simp only [cond_true] at h; split at h
  ·simp only [zv] at h; subst h; rfl
  ·cases h
theorem Hj {sA sB : St} (h : Xc s sA sB = some s') (eA : Ext { s with wm := 0 } sA) (eB : Ext { s with wm := 0 } sB) : JoinOk s sA sB s' := by
 unfold Xc at h; cases hn : za sA.next sB.next with
 | false => rw [hn] at h; simp at h
 | true =>
  rw [hn] at h; simp only [cond_true] at h; split at h
  ·rename_i J hJ
   simp only [zv] at h; subst h; obtain ⟨h1, h2⟩ := YP hJ; have hnn : s.next ≤ sA.next := eA.next
   refine ⟨rfl, xG.1 hn, rfl, rfl, fun i => ?_, fun i o hi => ?_, fun hwf i o hi => ?_, fun i hi hA hB => ?_⟩
   ·show (s.wm ||| (sA.wm ||| sB.wm)).testBit i = _
    rw [yv, yv]
   ·exact (lz (h1 i o hi).1).1
   ·have hwA : Wf sA := eA.wf ⟨hwf.lt, hwf.hd⟩; obtain ⟨h3, h4⟩ := h1 i o hi; obtain ⟨h5, h6⟩ := lz h3; have key : sA.objs.get i = sB.objs.get i := by
     by_cases hlt : i < s.next
     ·cases hb : (Nat.lor sA.wm sB.wm).testBit i with
      | true => exact h4 (by rw [Xh, hb, decide_eq_true hlt]; rfl)
      | false =>
       have hb' : (sA.wm ||| sB.wm).testBit i = false := hb
       rw [yv, yo] at hb'; exact (eA.keep i hlt hb'.1).trans (eB.keep i hlt hb'.2).symm
     ·have := hwA.lt i o h5; exact h6 oM (by show i < s.next + (sA.next - s.next); omega)
    exact key ▸ h5
   ·have hb : (Nat.lor sA.wm sB.wm).testBit i = false := by
     show (sA.wm ||| sB.wm).testBit i = false
     rw [yv, hA, hB]; rfl
    have e1 := h2 i (by rw [Xh, hb, Bool.and_false])
    exact e1.trans ((Q1 (.inl hi)).trans (eA.keep i hi hA))
  ·cases h
theorem JoinOk.symm {sA sB : St} (h : JoinOk s sA sB s') (hwf : Wf s) : JoinOk s sB sA s' :=
 ⟨h.nB, h.nA, h.hide, h.only, fun i => by rw [h.wm i, Bool.or_comm (sA.wm.testBit i)], h.bothB hwf, fun _ => h.both, fun i hi hA hB => h.stay i hi hB hA⟩
theorem JoinOk.ext {sA sB : St} (j : JoinOk s sA sB s') (eA : Ext { s with wm := 0 } sA) (eB : Ext { s with wm := 0 } sB) : Ext s s' where
 next := by rw [j.nA]; exact eA.next
 wm := fun i hi => by rw [j.wm, hi]; rfl
 hide := j.hide
 only := j.only
 keep := fun i hi hw => by
  rw [j.wm, yo, yo] at hw; exact j.stay i hi hw.2.1 hw.2.2
 vis := fun i o hi ho => eA.vis i o hi (j.both i o ho)
 wf := fun hw => by
  have hA := eA.wf ⟨hw.lt, hw.hd⟩; refine ⟨fun i o ho => ?_, fun p hp => ?_⟩
  ·rw [j.nA]; exact hA.lt i o (j.both i o ho)
  ·rw [j.hide] at hp; rw [j.nA]; exact Nat.le_trans (hw.hd p hp) eA.next
 wv := fun i hi hw => by
  rw [j.wm, zn, zn] at hw; rcases hw with h1 | h1 | h1
  ·exact .inl h1
  ·rcases eA.wv i hi h1 with h2 | h2
   ·have h3 : (0 : Nat).testBit i = true := h2; simp at h3
   ·exact .inr h2
  ·rcases eB.wv i hi h1 with h2 | h2
   ·have h3 : (0 : Nat).testBit i = true := h2; simp at h3
   ·exact .inr h2
 giv := fun i o hi ho hg hw => by
  rw [j.wm, zn, zn] at hw; rcases hw with h1 | h1 | h1
  ·exact h1
  ·have h3 : (0 : Nat).testBit i = true := eA.giv i o hi ho hg h1; simp at h3
  ·have h3 : (0 : Nat).testBit i = true := eB.giv i o hi ho hg h1; simp at h3
theorem JoinOk.get {sA sB : St} (j : JoinOk s sA sB s') (eA : Ext { s with wm := 0 } sA) {i : Nat} (h : s'.get i = some o) : sA.get i = some o := by
 have h1 := wX h; have h2 : seen sA i = seen s' i := qG (eA.hide.trans j.hide.symm) (eA.only.trans j.only.symm) i; rw [uM, h2, h1]; exact j.both i o (xW h)
theorem Step.join {sA sB : St} (st : Step P w0 φ { s with wm := 0 } w φ' sA w') (eB : Ext { s with wm := 0 } sB) (j : JoinOk s sA sB s') : Step P w0 φ s w φ' s' w' := by
 have hb : ∀ {i : Nat}, sA.wm.testBit i = true → s'.wm.testBit i = true := fun {i} h => by rw [j.wm, h]; simp
 have hb' : ∀ {i : Nat}, s'.wm.testBit i = false → sA.wm.testBit i = false := fun {i} h => by
  cases hx : sA.wm.testBit i with
  | false => rfl
  | true => rw [hb hx] at h; cases h
 refine ⟨j.ext st.ext eB, st.rel.sub fun i o h => j.get st.ext h, fun i hi => st.same i (by rw [j.nA] at hi; exact hi), st.size, fun b hlt H => st.frame b hlt fun i o B ho hB e => hb' (H i o B ho hB e), fun i B h1 h2 hB => ?_, st.zsub, fun b i v hv => ?_⟩
 ·rcases st.own i B h1 (by rw [j.nA] at h2; exact h2) hB with h3 | ⟨i0, o0, B0, q1, q2, q3, q4⟩
  ·exact .inl h3
  ·exact .inr ⟨i0, o0, B0, q1, q2, q3, hb q4⟩
 ·rcases st.zown b i v hv with h1 | h1 | ⟨i0, o0, B0, q1, q2, q3, q4⟩
  ·exact .inl h1
  ·exact .inr (.inl h1)
  ·exact .inr (.inr ⟨i0, o0, B0, q1, q2, q3, hb q4⟩)
theorem XC {L : List Nat} {fr fr' : Fr} {x y : Option (Res × Fr × St)} {res : Res} (h : ZE L fr s x y = some (res, fr', s')) :
  s.only = none ∧ res = .norm ∧ fr' = { tm := LO L fr.tm, df := fr.df } ∧ ∃ fA sA fB sB, x = some (.norm, fA, sA) ∧ y = some (.norm, fB, sB) ∧ Xc s sA sB = some s' := by
 unfold ZE at h; split at h
 ·cases h
 ·rename_i hon
  split at h
  ·rename_i p
   split at h
   ·rename_i hp
    split at h
    ·rename_i q
     split at h
     ·rename_i hq
      split at h
      ·rename_i t ht
       simp only [zv, zw] at h; obtain ⟨rfl, rfl, rfl⟩ := h; obtain ⟨p1, p2, p3⟩ := p; obtain ⟨q1, q2, q3⟩ := q; simp only at hp hq ht; subst hp; subst hq; exact ⟨hon, rfl, rfl, p2, p3, q2, q3, rfl, rfl, ht⟩
      ·cases h
     ·cases h
    ·cases h
   ·cases h
  ·cases h
theorem GN : ∀ {L : List Nat} {tm : Trie AV} {i : Nat} {v : AV}, (LO L tm).get i = some v → i ∉ L ∧ tm.get i = some v
 | [], _, _, _, h => ⟨by simp, h⟩
 | k :: r, tm, i, v, h => by
  simp only [LO] at h; rw [Trie.get_del] at h; by_cases e : i = k
  ·rw [if_pos e] at h; cases h
  ·rw [if_neg e] at h; obtain ⟨h1, h2⟩ := GN h; exact ⟨by simp [e, h1], h2⟩
section
variable {P : Program} {w0 : World} {φ : Phi} {s s' : St} {w : World} {tm : Trie AV} {a : Act} {o : Oper} {v : AV} {E : Env}
theorem wJ {x : Opd} {l : List Opd} (ht : TmOn φ (Opd.tmps l) tm a) (hx : x ∈ l) : TmOn φ x.tmp tm a :=
 ht.sub fun _t h => List.mem_flatMap.2 ⟨x, hx, h⟩
theorem gi {m l : List Opd} (ht : TmOn φ (Opd.tmps l) tm a) (hx : ∀ x ∈ m, x ∈ l) : TmOn φ (Opd.tmps m) tm a :=
 ht.sub fun t h => by
  obtain ⟨x, h1, h2⟩ := List.mem_flatMap.1 h; exact List.mem_flatMap.2 ⟨x, hx x h1, h2⟩
theorem J5 {b : Builtin} {c : Call} (_hG : xV E.globs w0) (ho : o.op = .call c) (hcb : c.callee = .builtin b) (hc : QJ P b c.argTypes.toList c.args.toList = some op) (h : opv E op tm s = some (v, s'))
  (r : Rel P w0 φ s.get w) (hwf : Wf s) (hf : s.next < s'.next → φ s.next = none) (ht : TmOn φ (Opd.tmps op.opds) tm a) : jf P w0 φ s w a o v s' := by
 have he := KE (a := a) ho hcb; unfold QJ at hc; split at hc
 · -- len
  rename_i t rest x hts hxs
  have h0 := VH hts; have hx := Ho hxs; have he' : execOp a.eval o = (do pure (.value (← Builtin.len_ c.argTypes o.type #[a.eval x]))) := by rw [he, hx]; simp only [builtin, yf, zA, zV]
  split at hc
  ·rename_i hu
   obtain ⟨y, hy, rfl⟩ := Option.map_eq_some_iff.1 hc; simp only [opv] at h; obtain ⟨u, h1, h2, h3⟩ := wh h; exact qE r he' h3 (Jr (k := .s) r h0 hu h2 (xD hy h1 (wJ ht (by simp [IOp.opds]))))
  ·rename_i e hu
   obtain ⟨y, hy, rfl⟩ := Option.map_eq_some_iff.1 hc; simp only [opv] at h; obtain ⟨u, h1, h2, h3⟩ := wh h; exact qE r he' h3 (Jr (k := .v) r h0 ⟨e, hu⟩ h2 (xD hy h1 (wJ ht (by simp [IOp.opds]))))
  ·cases hc
 · -- append
  rename_i t u rest x y hts hxs
  have h0 := VH hts; have h1 := ztn hts; have hx := Hp hxs; have he' : execOp a.eval o = (do pure (.value (← Builtin.append_ c.argTypes o.type #[a.eval x, a.eval y]))) := by rw [he, hx]; simp only [builtin, yf, zA, zV]
  split at hc
  ·rename_i e hu
   split at hc
   ·rename_i huk
    split at hc
    ·rename_i by_ z xa ya q1 q2 q3 q4 q5
     cases hb : za (wZ z.cells) 1 with
     | false => rw [hb] at hc; simp at hc
     | true =>
      rw [hb] at hc; simp only [cond_true, zv] at hc; subst hc; simp only [xG] at hb; simp only [opv] at h; obtain ⟨m, n, g1, g2, g3⟩ := jD h; exact pw he' (UP r hwf hf h0 hu h1 huk (.inl rfl) q1 q2 q3 hb g3 (xD q4 g1 (wJ ht (by simp [IOp.opds]))) (xD q5 g2 (wJ ht (by simp [IOp.opds]))))
    ·cases hc
   ·rename_i k huk
    split at hc
    ·rename_i sz by_ z xa ya q1 q2 q3 q4 q5
     cases hb : za (wZ z.cells) sz with
     | false => rw [hb] at hc; simp at hc
     | true =>
      rw [hb] at hc; simp only [cond_true, zv] at hc; subst hc; simp only [xG] at hb; simp only [opv] at h; obtain ⟨m, n, g1, g2, g3⟩ := jD h; exact pw he' (UP r hwf hf h0 hu h1 huk (.inr ⟨_, rfl⟩) q1 q2 q3 hb g3 (xD q4 g1 (wJ ht (by simp [IOp.opds]))) (xD q5 g2 (wJ ht (by simp [IOp.opds]))))
    ·cases hc
   ·cases hc
  ·cases hc
 · -- unsafe.SliceData
  rename_i x hxs
  have hx := Ho hxs; have he' : execOp a.eval o = (do pure (.value (← Builtin.unsafeSliceData_ c.argTypes o.type #[a.eval x]))) := by rw [he, hx]; simp only [builtin, yf, zA, zV]
  obtain ⟨y, hy, rfl⟩ := Option.map_eq_some_iff.1 hc; simp only [opv] at h; obtain ⟨u, h1, h2, h3⟩ := wh h; exact qE r he' h3 (zw5 h2 (xD hy h1 (wJ ht (by simp [IOp.opds]))))
 · -- unsafe.String
  rename_i t rest x n hts hxs
  have h0 := VH hts; have hx := Hp hxs; have he' : execOp a.eval o = (do pure (.value (← Builtin.unsafeString_ c.argTypes o.type #[a.eval x, a.eval n]))) := by rw [he, hx]; simp only [builtin, yf, zA, zV]
  split at hc
  ·rename_i e hu
   split at hc
   ·rename_i xa ya q1 q2 q3
    cases hc; simp only [opv] at h; obtain ⟨p, q, g1, g2, g3⟩ := jD h; exact pw he' (zw6 r h0 hu q1 g3 (xD q2 g1 (wJ ht (by simp [IOp.opds]))) (xD q3 g2 (wJ ht (by simp [IOp.opds]))))
   ·cases hc
  ·cases hc
 · -- min
  rename_i xs
  have he' : execOp a.eval o = (do pure (.value (← Builtin.min_ c.argTypes o.type (c.args.toList.map a.eval).toArray))) := by rw [he]; simp only [builtin]; rw [← yf, zP]
  obtain ⟨y, hy, rfl⟩ := Option.map_eq_some_iff.1 hc; simp only [opv] at h; obtain ⟨l, h1, h2, h3⟩ := zzn h; exact qE r he' h3 (ztt h2 (uD hy h1 (gi ht (by simp [IOp.opds]))))
 ·cases hc
end
section
variable {P : Program} {w0 : World} {φ : Phi} {s s' : St} {w : World} {tm : Trie AV} {a : Act} {o : Oper} {v : AV} {E : Env}
theorem zqO {x : Operand} {u : AV} (ho : o.op = .nilCheck x) (h : zsL u = some v) (hx : VR φ u (a.eval x)) : (execOp a.eval o).run P w = .ok (.value (a.eval x)) w ∧ v = u := by
 unfold zsL at h; split at h
 ·cases h; simp only [VR] at hx; obtain ⟨B, _, e⟩ := hx; exact ⟨by simp [execOp, ho, e], rfl⟩
 ·cases h; simp only [VR] at hx; exact ⟨by simp [execOp, ho, hx], rfl⟩
 ·cases h; simp only [VR] at hx; obtain ⟨_, _, e, _⟩ := hx; exact ⟨by simp [execOp, ho, e], rfl⟩
 ·cases h; simp only [VR] at hx; obtain ⟨B, _, e⟩ := hx; exact ⟨by simp [execOp, ho, e], rfl⟩
 ·cases h; simp only [VR] at hx; obtain ⟨B, _, e⟩ := hx; exact ⟨by simp [execOp, ho, e], rfl⟩
 ·cases h; simp only [VR] at hx; obtain ⟨_, b, o', ys, e, _⟩ := hx; exact ⟨by simp [execOp, ho, e], rfl⟩
 ·cases h
theorem zxf {x : Operand} (_hG : xV E.globs w0) (ho : o.op = .move x) (hc : qy P (.move x) = some op) (h : opv E op tm s = some (v, s'))
  (r : Rel P w0 φ s.get w) (hwf : Wf s) (hf : s.next < s'.next → φ s.next = none) (ht : TmOn φ (Opd.tmps op.opds) tm a) : jf P w0 φ s w a o v s' := by
 simp only [qy] at hc; obtain ⟨y, hy, rfl⟩ := Option.map_eq_some_iff.1 hc; simp only [opv] at h; obtain ⟨u, h1, h2, rfl⟩ := wh h; simp only [zv] at h2; subst h2; exact ⟨φ, a.eval x, w, .inl (by unfold execOp; rw [ho]; simp), Step.refl r, xD hy h1 (wJ ht (by simp [IOp.opds]))⟩
theorem GP {x : Operand} (_hG : xV E.globs w0) (ho : o.op = .assign x) (hc : qy P (.assign x) = some op) (h : opv E op tm s = some (v, s'))
  (r : Rel P w0 φ s.get w) (hwf : Wf s) (hf : s.next < s'.next → φ s.next = none) (ht : TmOn φ (Opd.tmps op.opds) tm a) : jf P w0 φ s w a o v s' := by
 simp only [qy] at hc; obtain ⟨y, hy, rfl⟩ := Option.map_eq_some_iff.1 hc; simp only [opv] at h; obtain ⟨u, h1, h2, rfl⟩ := wh h; simp only [zv] at h2; subst h2; exact ⟨φ, a.eval x, w, .inl (by unfold execOp; rw [ho]; simp), Step.refl r, xD hy h1 (wJ ht (by simp [IOp.opds]))⟩
theorem zxg {c x y : Operand} (_hG : xV E.globs w0) (ho : o.op = .pick c x y) (hc : qy P (.pick c x y) = some op) (h : opv E op tm s = some (v, s'))
  (r : Rel P w0 φ s.get w) (hwf : Wf s) (hf : s.next < s'.next → φ s.next = none) (ht : TmOn φ (Opd.tmps op.opds) tm a) : jf P w0 φ s w a o v s' := by
 simp only [qy] at hc; split at hc
 ·rename_i cc cx cy q1 q2 q3
  cases hc; simp only [opv] at h; obtain ⟨h1, rfl⟩ := ub h; unfold JU at h1; split at h1
  ·rename_i hb
   have hcv := xD (φ := φ) (a := a) q1 hb (wJ ht (by simp [IOp.opds]))
   simp only [VR] at hcv; exact ⟨φ, a.eval x, w, .inl (by unfold execOp; rw [ho]; simp [hcv, asBool]), Step.refl r, xD q2 h1 (wJ ht (by simp [IOp.opds]))⟩
  ·rename_i hb
   have hcv := xD (φ := φ) (a := a) q1 hb (wJ ht (by simp [IOp.opds]))
   simp only [VR] at hcv; exact ⟨φ, a.eval y, w, .inl (by unfold execOp; rw [ho]; simp [hcv, asBool]), Step.refl r, xD q3 h1 (wJ ht (by simp [IOp.opds]))⟩
  ·cases h1
 ·cases hc
theorem LP (_hG : xV E.globs w0) (ho : o.op = .alloc t) (hc : qy P (.alloc t) = some op) (h : opv E op tm s = some (v, s'))
  (r : Rel P w0 φ s.get w) (hwf : Wf s) (hf : s.next < s'.next → φ s.next = none) (ht : TmOn φ (Opd.tmps op.opds) tm a) : jf P w0 φ s w a o v s' := by
 simp only [qy] at hc; obtain ⟨z, hz, rfl⟩ := Option.map_eq_some_iff.1 hc; simp only [opv] at h; have hn : s.next < s'.next := by unfold X6 pS at h; simp only [zv, zw] at h; exact uS h.2
 exact pw (S := Instr.alloc t true (.tuple #[])) (by unfold execOp; rw [ho]) (Gn r hwf (hf hn) hz h)
theorem zv1 {x : Operand} (_hG : xV E.globs w0) (ho : o.op = .box t x) (hc : qy P (.box t x) = some op) (h : opv E op tm s = some (v, s'))
  (r : Rel P w0 φ s.get w) (hwf : Wf s) (hf : s.next < s'.next → φ s.next = none) (ht : TmOn φ (Opd.tmps op.opds) tm a) : jf P w0 φ s w a o v s' := by
 simp only [qy] at hc; obtain ⟨y, hy, rfl⟩ := Option.map_eq_some_iff.1 hc; simp only [opv] at h; obtain ⟨u, h1, h2⟩ := u5 h; have hn : s.next < s'.next := by unfold HE at h2; simp only [zv, zw] at h2; exact uS h2.2
 exact pw (S := Instr.box t (a.eval x)) (by unfold execOp; rw [ho]) (zyO r hwf (hf hn) h2 (xD hy h1 (wJ ht (by simp [IOp.opds]))))
theorem LR {ps : Array (Nat × Operand)} (_hG : xV E.globs w0) (ho : o.op = .build t ps) (hc : qy P (.build t ps) = some op) (h : opv E op tm s = some (v, s'))
  (r : Rel P w0 φ s.get w) (_hwf : Wf s) (_hf : s.next < s'.next → φ s.next = none) (ht : TmOn φ (Opd.tmps op.opds) tm a) : jf P w0 φ s w a o v s' := by
 simp only [qy] at hc; split at hc
 ·rename_i z fs hz hu
  cases hb : fs.toList.all (fun f => (qU P f.type).isSome) with
  | false => rw [hb] at hc; simp at hc
  | true =>
   rw [hb] at hc; simp only [cond_true] at hc; obtain ⟨qs, hq, rfl⟩ := Option.map_eq_some_iff.1 hc; simp only [opv] at h; obtain ⟨h1, h2⟩ := ub h; cases hfc : jo z.cells tm qs with
   | none => rw [hfc] at h1; simp [ZB] at h1
   | some cs =>
    rw [hfc] at h1; simp only [ZB, zv] at h1; subst h1; exact qE r (S := Instr.build t (ps.map fun (i, x) => (i, a.eval x))) (by unfold execOp; rw [ho]) h2 (J4 hu hz hb hq hfc ht)
 ·rename_i z n e hz hu
  split at hc
  ·rename_i sz hs
   obtain ⟨qs, hq, rfl⟩ := Option.map_eq_some_iff.1 hc; simp only [opv] at h; obtain ⟨h1, h2⟩ := ub h; cases hfc : jo z.cells tm qs with
   | none => rw [hfc] at h1; simp [ZB] at h1
   | some cs =>
    rw [hfc] at h1; simp only [ZB, zv] at h1; subst h1; exact qE r (S := Instr.build t (ps.map fun (i, x) => (i, a.eval x))) (by unfold execOp; rw [ho]) h2 (Gu hu hz hs hq hfc ht)
  ·cases hc
 ·cases hc
theorem WY {len : Nat} {ps : Array (Nat × Operand)} (_hG : xV E.globs w0) (ho : o.op = .buildSlice t len ps) (hc : qy P (.buildSlice t len ps) = some op) (h : opv E op tm s = some (v, s'))
  (r : Rel P w0 φ s.get w) (hwf : Wf s) (hf : s.next < s'.next → φ s.next = none) (ht : TmOn φ (Opd.tmps op.opds) tm a) : jf P w0 φ s w a o v s' := by
 simp only [qy] at hc; split at hc
 ·rename_i e hu
  split at hc
  ·rename_i sz z hs hz
   cases hb : (ze (len * sz) 16777216 && za (wZ z.cells) sz && ze 1 sz) with
   | false => rw [hb] at hc; simp at hc
   | true =>
    rw [hb] at hc; simp only [cond_true] at hc; obtain ⟨qs, hq, rfl⟩ := Option.map_eq_some_iff.1 hc; simp only [opv] at h; have := zyP (P := P) (w0 := w0) (φ := φ) (s := s) (s' := s') (w := w) (t := t) (e := e) (n := sz) (len := len) (z := z) (v := v) (ps := ps) (qs := qs) (tm := tm) (a := a) r hwf hf hu hs hz hb hq h ht; obtain ⟨φ', x, w', k1, k2, k3⟩ := this; exact ⟨φ', x, w', .inl (by simp only [execOp, ho, Sem.run_bind, k1, Result.andThen_ok, Sem.run_pure]), k2, k3⟩
  ·cases hc
 ·cases hc
theorem zxe {x : Operand} (hG : xV E.globs w0) (ho : o.op = .load t x) (hc : qy P (.load t x) = some op) (h : opv E op tm s = some (v, s'))
  (r : Rel P w0 φ s.get w) (_hwf : Wf s) (_hf : s.next < s'.next → φ s.next = none) (ht : TmOn φ (Opd.tmps op.opds) tm a) : jf P w0 φ s w a o v s' := by
 simp only [qy] at hc; split at hc
 ·rename_i n y q1 q2 q3
  cases hc; simp only [opv] at h; obtain ⟨u, h1, h2, h3⟩ := wh h; exact qE r (S := Instr.loadAt t (a.eval x)) (by unfold execOp; rw [ho]) h3 (zyv r hG q1 q2 h2 (xD q3 h1 (wJ ht (by simp [IOp.opds]))))
 ·rename_i y q1 q3
  cases hc; simp only [opv] at h; obtain ⟨u, h1, h2, h3⟩ := wh h; exact qE r (S := Instr.loadAt t (a.eval x)) (by unfold execOp; rw [ho]) h3 (zsf r hG q1 h2 (xD q3 h1 (wJ ht (by simp [IOp.opds]))))
 ·cases hc
theorem LW {x y : Operand} (_hG : xV E.globs w0) (ho : o.op = .store t x y) (hc : qy P (.store t x y) = some op) (h : opv E op tm s = some (v, s'))
  (r : Rel P w0 φ s.get w) (_hwf : Wf s) (_hf : s.next < s'.next → φ s.next = none) (ht : TmOn φ (Opd.tmps op.opds) tm a) : jf P w0 φ s w a o v s' := by
 simp only [qy] at hc; split at hc
 ·rename_i n xa ya q1 q2 q3
  cases hc; simp only [opv] at h; obtain ⟨m, k, g1, g2, g3⟩ := jD h; obtain ⟨g4, w', g5, g6⟩ := zoN (P := P) r q1 g3 (xD q2 g1 (wJ ht (by simp [IOp.opds]))) (xD q3 g2 (wJ ht (by simp [IOp.opds])))
  exact zp2 (S := Instr.storeAt t (a.eval x) (a.eval y)) (by unfold execOp; rw [ho]) g5 g6 g4
 ·cases hc
theorem Uu {x : Operand} (_hG : xV E.globs w0) (ho : o.op = .nilCheck x) (hc : qy P (.nilCheck x) = some op) (h : opv E op tm s = some (v, s'))
  (r : Rel P w0 φ s.get w) (hwf : Wf s) (hf : s.next < s'.next → φ s.next = none) (ht : TmOn φ (Opd.tmps op.opds) tm a) : jf P w0 φ s w a o v s' := by
 simp only [qy] at hc; obtain ⟨y, hy, rfl⟩ := Option.map_eq_some_iff.1 hc; simp only [opv] at h; obtain ⟨u, h1, h2, rfl⟩ := wh h; have hx := xD (φ := φ) (a := a) hy h1 (wJ ht (by simp [IOp.opds]))
 obtain ⟨h3, rfl⟩ := zqO (P := P) (w := w) ho h2 hx; exact ⟨φ, a.eval x, w, .inl h3, Step.refl r, hx⟩
theorem LQ {bop : BinOp} {x y : Operand} {pos : _} (_hG : xV E.globs w0) (ho : o.op = .binOp bop t x y pos) (hc : qy P (.binOp bop t x y pos) = some op) (h : opv E op tm s = some (v, s'))
  (r : Rel P w0 φ s.get w) (_hwf : Wf s) (_hf : s.next < s'.next → φ s.next = none) (ht : TmOn φ (Opd.tmps op.opds) tm a) : jf P w0 φ s w a o v s' := by
 simp only [qy] at hc; split at hc
 ·rename_i xa ya q1 q2 q3
  cases hc; simp only [opv] at h; obtain ⟨m, k, g1, g2, g3, g4⟩ := v7 h; exact qE r (S := (do eqGuard bop t x y (a.eval x) (a.eval y); binOp bop t (a.eval x) (a.eval y))) (by unfold execOp; rw [ho]) g4 (zzk g3 (xD q2 g1 (wJ ht (by simp [IOp.opds]))) (xD q3 g2 (wJ ht (by simp [IOp.opds]))))
 ·rename_i k0 xa ya q0 q1 q2 q3
  split at hc
  ·cases hc; simp only [opv] at h; obtain ⟨m, k, g1, g2, g3, g4⟩ := v7 h; unfold zzm at g3; split at g3
   ·rename_i b hb
    cases g3; exact qE r (S := (do eqGuard .eql t x y (a.eval x) (a.eval y); binOp .eql t (a.eval x) (a.eval y))) (by unfold execOp; rw [ho]) g4 ⟨_, Ja (_w0 := w0) (neg := false) q1 hb (xD q2 g1 (wJ ht (by simp [IOp.opds]))) (xD q3 g2 (wJ ht (by simp [IOp.opds]))), by simp only [VR]⟩
   ·cases g3
  ·cases hc; simp only [opv] at h; obtain ⟨m, k, g1, g2, g3, g4⟩ := v7 h; unfold zzm at g3; split at g3
   ·rename_i b hb
    cases g3; exact qE r (S := (do eqGuard .neq t x y (a.eval x) (a.eval y); binOp .neq t (a.eval x) (a.eval y))) (by unfold execOp; rw [ho]) g4 ⟨_, Ja (_w0 := w0) (neg := true) q1 hb (xD q2 g1 (wJ ht (by simp [IOp.opds]))) (xD q3 g2 (wJ ht (by simp [IOp.opds]))), by simp only [VR]⟩
   ·cases g3
  ·cases hc
 ·cases hc
theorem zxh {uop : UnOp} {t : _} {x : Operand} (_hG : xV E.globs w0) (ho : o.op = .unOp uop t x) (hc : qy P (.unOp uop t x) = some op) (h : opv E op tm s = some (v, s'))
  (r : Rel P w0 φ s.get w) (_hwf : Wf s) (_hf : s.next < s'.next → φ s.next = none) (ht : TmOn φ (Opd.tmps op.opds) tm a) : jf P w0 φ s w a o v s' := by
 simp only [qy] at hc; obtain ⟨y, hy, rfl⟩ := Option.map_eq_some_iff.1 hc; simp only [opv] at h; obtain ⟨u, h1, h2, h3⟩ := wh h; exact qE r (S := Op.unary uop (a.eval x)) (by unfold execOp; rw [ho]) h3 (zvb h2 (xD hy h1 (wJ ht (by simp [IOp.opds]))))
theorem Kt {sT d : TypeId} {x : Operand} (_hG : xV E.globs w0) (ho : o.op = .convert sT d x) (hc : qy P (.convert sT d x) = some op) (h : opv E op tm s = some (v, s'))
  (r : Rel P w0 φ s.get w) (hwf : Wf s) (hf : s.next < s'.next → φ s.next = none) (ht : TmOn φ (Opd.tmps op.opds) tm a) : jf P w0 φ s w a o v s' := by
 simp only [qy] at hc; have he : execOp a.eval o = (do pure (.value (← convert sT d (a.eval x)))) := by unfold execOp; rw [ho]
 split at hc
 ·rename_i u k y q1 q2 q3
  cases hc; simp only [opv] at h; obtain ⟨u, h1, h2, h3⟩ := wh h; exact qE r he h3 (Qg q1 q2 h2 (xD q3 h1 (wJ ht (by simp [IOp.opds]))))
 ·rename_i k y q1 q2 q3
  cases hc; simp only [opv] at h; obtain ⟨u, h1, h2, h3⟩ := wh h; exact qE r he h3 (V2 q1 q2 h2 (xD q3 h1 (wJ ht (by simp [IOp.opds]))))
 ·rename_i e y q1 q2 q3
  split at hc
  ·rename_i hu
   cases hc; simp only [opv] at h; obtain ⟨u, h1, h2⟩ := u5 h; exact pw he (zy8 r hwf hf q1 q2 hu h2 (xD q3 h1 (wJ ht (by simp [IOp.opds]))))
  ·cases hc
 ·rename_i e y q1 q2 q3
  split at hc
  ·rename_i hu
   cases hc; simp only [opv] at h; obtain ⟨u, h1, h2, h3⟩ := wh h; exact qE r he h3 (zyU r q1 q2 hu h2 (xD q3 h1 (wJ ht (by simp [IOp.opds]))))
  ·cases hc
 ·rename_i e0 e y q1 q2 q3
  split at hc
  ·rename_i hsd hu
   cases hc; simp only [opv] at h; obtain ⟨u, h1, h2⟩ := u5 h; have hsd : sT = d := by simpa using hsd
   subst hsd; obtain ⟨w', g1, g2, g3⟩ := zyS (P := P) (_e' := e) r q2 hu h2 (xD q3 h1 (wJ ht (by simp [IOp.opds])))
   exact Ky he g1 g2 g3
  ·cases hc
 ·rename_i e y q1 q2 q3
  split at hc
  ·rename_i k hz
   cases hc; simp only [opv] at h; obtain ⟨u, h1, h2, h3⟩ := wh h; exact qE r he h3 (zy9 r q1 q2 hz h2 (xD q3 h1 (wJ ht (by simp [IOp.opds]))))
  ·cases hc
 ·rename_i e y q1 q2 q3
  split at hc
  ·rename_i k hz
   cases hc; simp only [opv] at h; obtain ⟨u, h1, h2, h3⟩ := wh h; exact qE r he h3 (zy7 r q1 q2 hz h2 (xD q3 h1 (wJ ht (by simp [IOp.opds]))))
  ·cases hc
 ·cases hc
theorem Z0 {x : Operand} (_hG : xV E.globs w0) (ho : o.op = .makeInterface t x) (hc : qy P (.makeInterface t x) = some op) (h : opv E op tm s = some (v, s'))
  (r : Rel P w0 φ s.get w) (_hwf : Wf s) (_hf : s.next < s'.next → φ s.next = none) (ht : TmOn φ (Opd.tmps op.opds) tm a) : jf P w0 φ s w a o v s' := by
 simp only [qy] at hc; split at hc
 ·cases hc
 ·rename_i d hni hu
  obtain ⟨y, hy, rfl⟩ := Option.map_eq_some_iff.1 hc; simp only [opv] at h; obtain ⟨u, h1, h2, h3⟩ := wh h; cases h2; have hx := xD (φ := φ) (a := a) hy h1 (wJ ht (by simp [IOp.opds]))
  refine qE r (S := Instr.makeInterface t (a.eval x)) (by unfold execOp; rw [ho]) h3 ⟨.iface t (a.eval x), ?_, by simp only [VR]; exact ⟨_, rfl, hx⟩⟩
  simp only [Instr.makeInterface, Sem.run_bind, xj hu, Result.andThen_ok]; cases d <;> first | exact (hni _ rfl).elim | exact (hni _ hu).elim | rfl
 ·cases hc
theorem Ut {f : Nat} {fst cap : Array Operand} (_hG : xV E.globs w0) (ho : o.op = .makeFunc (.func f) fst cap) (hc : qy P (.makeFunc (.func f) fst cap) = some op) (h : opv E op tm s = some (v, s'))
  (r : Rel P w0 φ s.get w) (_hwf : Wf s) (_hf : s.next < s'.next → φ s.next = none) (ht : TmOn φ (Opd.tmps op.opds) tm a) : jf P w0 φ s w a o v s' := by
 simp only [qy] at hc; split at hc
 ·rename_i x y q1 q2
  cases hc; simp only [opv] at h; obtain ⟨us, vs, g1, g2, g3, g4⟩ := Gh h; cases g3; refine qE r (S := Instr.makeFunc (.func f) (fst.map a.eval) (cap.map a.eval)) (by unfold execOp; rw [ho]) g4 ⟨_, rfl, ?_⟩
  simp only [VR]; exact ⟨fst.toList.map a.eval, cap.toList.map a.eval, by congr 1 <;> (apply yj; simp), uD q1 g1 (gi ht (by simp [IOp.opds]; intro x hx; exact .inl hx)), uD q2 g2 (gi ht (by simp [IOp.opds]; intro x hx; exact .inr hx))⟩
 ·cases hc
theorem Q4 {l c : Operand} (_hG : xV E.globs w0) (ho : o.op = .makeSlice t l c) (hc : qy P (.makeSlice t l c) = some op) (h : opv E op tm s = some (v, s'))
  (r : Rel P w0 φ s.get w) (hwf : Wf s) (hf : s.next < s'.next → φ s.next = none) (ht : TmOn φ (Opd.tmps op.opds) tm a) : jf P w0 φ s w a o v s' := by
 simp only [qy] at hc; split at hc
 ·rename_i e hu
  split at hc
  ·rename_i sz b z la ca q1 q2 q3 q4 q5
   cases hb : (za (wZ z.cells) sz && ze 1 sz) with
   | false => rw [hb] at hc; simp at hc
   | true =>
    rw [hb] at hc; simp only [cond_true, zv] at hc; subst hc; simp only [opv] at h; obtain ⟨m, n, g1, g2, g3⟩ := jD h; exact pw (S := Instr.makeSlice t (a.eval l) (a.eval c)) (by unfold execOp; rw [ho]) (zx9 r hwf (hf (Jy g3)) hu q1 q2 q3 hb g3 (xD q4 g1 (wJ ht (by simp [IOp.opds]))) (xD q5 g2 (wJ ht (by simp [IOp.opds]))))
  ·cases hc
 ·cases hc
theorem LV {x : Operand} {lo hi mx : Option Operand} (_hG : xV E.globs w0) (ho : o.op = .slice t x lo hi mx) (hc : qy P (.slice t x lo hi mx) = some op) (h : opv E op tm s = some (v, s'))
  (r : Rel P w0 φ s.get w) (_hwf : Wf s) (_hf : s.next < s'.next → φ s.next = none) (ht : TmOn φ (Opd.tmps op.opds) tm a) : jf P w0 φ s w a o v s' := by
 simp only [qy] at hc; split at hc
 ·rename_i n e xa la ha ma q1 q2 q3 q4 q5
  split at hc
  ·rename_i sz hs
   cases hb : (ma.isNone || ha.isSome) with
   | false => rw [hb] at hc; simp at hc
   | true =>
    rw [hb] at hc; simp only [cond_true, zv] at hc; subst hc; simp only [opv] at h; obtain ⟨p, l, m, k, g1, g2, g3, g4, g5, g6⟩ := Zz h; have hmh : k = none ∨ m ≠ none := by
     rw [← Y0 g4, ne_eq, ← Y0 g3]; cases ma <;> cases ha <;> simp at hb ⊢
    exact qE r (S := Instr.sliceAt t (a.eval x) (lo.map a.eval) (hi.map a.eval) (mx.map a.eval)) (by unfold execOp; rw [ho]) g6 (zwH q1 hs g5 (xD q2 g1 (wJ ht (by simp [IOp.opds]))) (uC q3 g2 (gi ht (by simp [IOp.opds]; intro x hx; exact .inr (.inl hx)))) (uC q4 g3 (gi ht (by simp [IOp.opds]; intro x hx; exact .inr (.inr (.inl hx))))) (uC q5 g4 (gi ht (by simp [IOp.opds]; intro x hx; exact .inr (.inr (.inr hx))))) hmh)
  ·cases hc
 ·rename_i xa la ha q1 q2 q3 q4 q5
  cases hc; simp only [opv] at h; obtain ⟨p, l, m, g1, g2, g3, g4, g5⟩ := Qp h; have hmx : mx = none := by
   cases mx with
   | none => rfl
   | some y => simp only [QM] at q5; split at q5 <;> simp at q5
  subst hmx; exact qE r (S := Instr.sliceAt t (a.eval x) (lo.map a.eval) (hi.map a.eval) none) (by unfold execOp; rw [ho]; rfl) g5 (zwI q1 g4 (xD q2 g1 (wJ ht (by simp [IOp.opds]))) (uC q3 g2 (gi ht (by simp [IOp.opds]; intro x hx; exact .inr (.inl hx)))) (uC q4 g3 (gi ht (by simp [IOp.opds]; intro x hx; exact .inr (.inr hx)))))
 ·rename_i e xa la ha ma q1 q2 q3 q4 q5
  split at hc
  ·rename_i sz hs
   cases hb : ((ma.isNone || ha.isSome) && ze 1 sz) with
   | false => rw [hb] at hc; simp at hc
   | true =>
    rw [hb] at hc; simp only [cond_true, zv] at hc; subst hc; rw [zl] at hb; simp only [opv] at h; obtain ⟨p, l, m, k, g1, g2, g3, g4, g5, g6⟩ := Zz h; have hmh : k = none ∨ m ≠ none := by
     rw [← Y0 g4, ne_eq, ← Y0 g3]; have hb := hb.1; cases ma <;> cases ha <;> simp at hb ⊢
    exact qE r (S := Instr.sliceAt t (a.eval x) (lo.map a.eval) (hi.map a.eval) (mx.map a.eval)) (by unfold execOp; rw [ho]) g6 (zwK q1 hs g5 (xD q2 g1 (wJ ht (by simp [IOp.opds]))) (uC q3 g2 (gi ht (by simp [IOp.opds]; intro x hx; exact .inr (.inl hx)))) (uC q4 g3 (gi ht (by simp [IOp.opds]; intro x hx; exact .inr (.inr (.inl hx))))) (uC q5 g4 (gi ht (by simp [IOp.opds]; intro x hx; exact .inr (.inr (.inr hx))))) hmh)
  ·cases hc
 ·cases hc
theorem Q2 {sT : TypeId} {x : Operand} {f : Nat} (_hG : xV E.globs w0) (ho : o.op = .fieldAddr sT x f) (hc : qy P (.fieldAddr sT x f) = some op) (h : opv E op tm s = some (v, s'))
  (r : Rel P w0 φ s.get w) (_hwf : Wf s) (_hf : s.next < s'.next → φ s.next = none) (ht : TmOn φ (Opd.tmps op.opds) tm a) : jf P w0 φ s w a o v s' := by
 simp only [qy] at hc; split at hc
 ·rename_i fs hu
  split at hc
  ·rename_i fl hfl
   split at hc
   ·cases hc
   ·rename_i n hn hs
    obtain ⟨y, hy, rfl⟩ := Option.map_eq_some_iff.1 hc; simp only [opv] at h; obtain ⟨u, h1, h2, h3⟩ := wh h; obtain ⟨k, rfl⟩ : ∃ k, n = k + 1 := ⟨n - 1, by have : n ≠ 0 := fun e => hn e; omega⟩
    exact qE r (S := Instr.fieldAt sT (a.eval x) f) (by unfold execOp; rw [ho]) h3 (zuJ hu hfl hs h2 (xD hy h1 (wJ ht (by simp [IOp.opds]))))
   ·cases hc
  ·cases hc
 ·cases hc
theorem Q3 {x i : Operand} (_hG : xV E.globs w0) (ho : o.op = .indexAddr t x i) (hc : qy P (.indexAddr t x i) = some op) (h : opv E op tm s = some (v, s'))
  (r : Rel P w0 φ s.get w) (_hwf : Wf s) (_hf : s.next < s'.next → φ s.next = none) (ht : TmOn φ (Opd.tmps op.opds) tm a) : jf P w0 φ s w a o v s' := by
 simp only [qy] at hc; split at hc
 ·rename_i n e hu
  split at hc
  ·rename_i sz xa ia q1 q2 q3
   cases hc; simp only [opv] at h; obtain ⟨m, k, g1, g2, g3, g4⟩ := v7 h; exact qE r (S := Instr.indexAt t (a.eval x) (a.eval i)) (by unfold execOp; rw [ho]) g4 (zxW hu q1 g3 (xD q2 g1 (wJ ht (by simp [IOp.opds]))) (xD q3 g2 (wJ ht (by simp [IOp.opds]))))
  ·cases hc
 ·rename_i e hu
  split at hc
  ·rename_i sz xa ia q1 q2 q3
   cases hc; simp only [opv] at h; obtain ⟨m, k, g1, g2, g3, g4⟩ := v7 h; exact qE r (S := Instr.indexAt t (a.eval x) (a.eval i)) (by unfold execOp; rw [ho]) g4 (ztd hu q1 g3 (xD q2 g1 (wJ ht (by simp [IOp.opds]))) (xD q3 g2 (wJ ht (by simp [IOp.opds]))))
  ·cases hc
 ·cases hc
theorem LS {x i : Operand} (_hG : xV E.globs w0) (ho : o.op = .index t x i) (hc : qy P (.index t x i) = some op) (h : opv E op tm s = some (v, s'))
  (r : Rel P w0 φ s.get w) (_hwf : Wf s) (_hf : s.next < s'.next → φ s.next = none) (ht : TmOn φ (Opd.tmps op.opds) tm a) : jf P w0 φ s w a o v s' := by
 simp only [qy] at hc; split at hc
 ·rename_i hu
  split at hc
  ·rename_i xa ia q2 q3
   cases hc; simp only [opv] at h; obtain ⟨m, k, g1, g2, g3, g4⟩ := v7 h; exact qE r (S := Instr.index t (a.eval x) (a.eval i)) (by unfold execOp; rw [ho]) g4 (zx2 hu g3 (xD q2 g1 (wJ ht (by simp [IOp.opds]))) (xD q3 g2 (wJ ht (by simp [IOp.opds]))))
  ·cases hc
 ·cases hc
theorem LU {x : Operand} (_hG : xV E.globs w0) (ho : o.op = .range t x) (hc : qy P (.range t x) = some op) (h : opv E op tm s = some (v, s'))
  (r : Rel P w0 φ s.get w) (hwf : Wf s) (hf : s.next < s'.next → φ s.next = none) (ht : TmOn φ (Opd.tmps op.opds) tm a) : jf P w0 φ s w a o v s' := by
 simp only [qy] at hc; split at hc
 ·rename_i hu
  obtain ⟨y, hy, rfl⟩ := Option.map_eq_some_iff.1 hc; simp only [opv] at h; obtain ⟨u, h1, h2⟩ := u5 h; exact pw (S := Instr.range t (a.eval x)) (by unfold execOp; rw [ho]) (zsd r hwf (hf (HF h2)) hu h2 (xD hy h1 (wJ ht (by simp [IOp.opds]))))
 ·cases hc
theorem LT {x : Operand} (_hG : xV E.globs w0) (ho : o.op = .next x true) (hc : qy P (.next x true) = some op) (h : opv E op tm s = some (v, s'))
  (r : Rel P w0 φ s.get w) (_hwf : Wf s) (_hf : s.next < s'.next → φ s.next = none) (ht : TmOn φ (Opd.tmps op.opds) tm a) : jf P w0 φ s w a o v s' := by
 simp only [qy] at hc; obtain ⟨y, hy, rfl⟩ := Option.map_eq_some_iff.1 hc; simp only [opv] at h; obtain ⟨u, h1, h2⟩ := u5 h; obtain ⟨z, w', g1, g2, g3⟩ := ztx (P := P) (ty := o.type) r h2 (xD hy h1 (wJ ht (by simp [IOp.opds])))
 exact Ky (S := Instr.next (a.eval x) true o.type) (by unfold execOp; rw [ho]) g1 g2 g3
theorem Kx {x : Operand} {i : Nat} (_hG : xV E.globs w0) (ho : o.op = .extract x i) (hc : qy P (.extract x i) = some op) (h : opv E op tm s = some (v, s'))
  (r : Rel P w0 φ s.get w) (_hwf : Wf s) (_hf : s.next < s'.next → φ s.next = none) (ht : TmOn φ (Opd.tmps op.opds) tm a) : jf P w0 φ s w a o v s' := by
 simp only [qy] at hc; obtain ⟨y, hy, rfl⟩ := Option.map_eq_some_iff.1 hc; simp only [opv] at h; obtain ⟨u, h1, h2, h3⟩ := wh h; exact qE r (S := Instr.extract (a.eval x) i) (by unfold execOp; rw [ho]) h3 (zuI h2 (xD hy h1 (wJ ht (by simp [IOp.opds]))))
theorem zxd {c : Call} (hG : xV E.globs w0) (ho : o.op = .call c) (hc : qy P (.call c) = some op) (h : opv E op tm s = some (v, s'))
  (r : Rel P w0 φ s.get w) (hwf : Wf s) (hf : s.next < s'.next → φ s.next = none) (ht : TmOn φ (Opd.tmps op.opds) tm a) : jf P w0 φ s w a o v s' := by
 simp only [qy] at hc; split at hc
 ·rename_i f hcal
  split at hc
  ·cases hc
  ·rename_i fn hfn
   cases hb2 : (fn.name == "internal/bytealg.IndexByteString" && (fn.origin == "" && fn.body.isNone)) with
   | true =>
    rw [hb2] at hc; simp only [cond_true] at hc; simp only [zl, beq_iff_eq] at hb2; obtain ⟨n1, n2, n3⟩ := hb2; split at hc
    ·rename_i xa ya hcx
     cases hc; simp only [opv] at h; obtain ⟨p, q, g1, g2, g3, rfl⟩ := v7 h; have hxs := uD (a := a) (φ := φ) hcx (show evL tm [xa, ya] = some [p, q] by simp [evL, g1, g2]) (gi ht (by simp [IOp.opds]))
     have hmap : c.args.map a.eval = (c.args.toList.map a.eval).toArray := by rw [← yf, zP]
     simp only [VRL] at hxs; obtain ⟨x', _, hx1, hx2, y', _, rfl, hy2, rfl⟩ := hxs; obtain ⟨z, k1, k2⟩ := zxX (P := P) (w := w) g3 hx2 hy2; obtain ⟨m1, m2⟩ := zuM n1 n2; refine ⟨φ, z, w, .inl (Jf ho hcal (V3 hfn n3 (by rw [n1]; rfl) m1 m2 ?_)), Step.refl r, k2⟩
     rw [hmap, hx1]; exact k1
    ·cases hc
   | false =>
    rw [hb2] at hc; simp only [cond_false] at hc; cases hb3 : (fn.name == "internal/abi.NoEscape" && (fn.origin == "" && fn.body.isNone)) with
    | true =>
     rw [hb3] at hc; simp only [cond_true] at hc; simp only [zl, beq_iff_eq] at hb3; obtain ⟨n1, n2, n3⟩ := hb3; split at hc
     ·rename_i xa hcx
      cases hc; simp only [opv] at h; obtain ⟨p, g1, g3, rfl⟩ := wh h; cases g3; have hxs := uD (a := a) (φ := φ) hcx (show evL tm [xa] = some [v] by simp [evL, g1]) (gi ht (by simp [IOp.opds]))
      have hmap : c.args.map a.eval = (c.args.toList.map a.eval).toArray := by rw [← yf, zP]
      simp only [VRL] at hxs; obtain ⟨x', _, hx1, hx2, rfl⟩ := hxs; obtain ⟨m1, m2⟩ := Uw n1 n2; refine ⟨φ, x', w, .inl (Jf ho hcal (V3 hfn n3 (by rw [n1]; rfl) m1 m2 ?_)), Step.refl r, hx2⟩
      rw [hmap, hx1]; rfl
     ·cases hc
    | false => rw [hb3] at hc; simp at hc
 ·cases hc
 ·rename_i b hb
  exact J5 hG ho hb hc h r hwf hf ht
 ·cases hc
theorem zwl (hG : xV E.globs w0) (hc : qy P o.op = some op) (h : opv E op tm s = some (v, s'))
  (r : Rel P w0 φ s.get w) (hwf : Wf s) (hf : s.next < s'.next → φ s.next = none) (ht : TmOn φ (Opd.tmps op.opds) tm a) : jf P w0 φ s w a o v s' := by
 cases ho : o.op with
 | move x => exact zxf hG ho (ho ▸ hc) h r hwf hf ht
 | assign x => exact GP hG ho (ho ▸ hc) h r hwf hf ht
 | pick c x y => exact zxg hG ho (ho ▸ hc) h r hwf hf ht
 | alloc t => exact LP hG ho (ho ▸ hc) h r hwf hf ht
 | box t x => exact zv1 hG ho (ho ▸ hc) h r hwf hf ht
 | build t ps => exact LR hG ho (ho ▸ hc) h r hwf hf ht
 | buildSlice t len ps => exact WY hG ho (ho ▸ hc) h r hwf hf ht
 | load t x => exact zxe hG ho (ho ▸ hc) h r hwf hf ht
 | store t x y => exact LW hG ho (ho ▸ hc) h r hwf hf ht
 | nilCheck x => exact Uu hG ho (ho ▸ hc) h r hwf hf ht
 | binOp bop t x y pos => exact LQ hG ho (ho ▸ hc) h r hwf hf ht
 | unOp uop t x => exact zxh hG ho (ho ▸ hc) h r hwf hf ht
 | convert sT d x => exact Kt hG ho (ho ▸ hc) h r hwf hf ht
 | makeInterface t x => exact Z0 hG ho (ho ▸ hc) h r hwf hf ht
 | makeSlice t l c => exact Q4 hG ho (ho ▸ hc) h r hwf hf ht
 | slice t x lo hi mx => exact LV hG ho (ho ▸ hc) h r hwf hf ht
 | fieldAddr sT x f => exact Q2 hG ho (ho ▸ hc) h r hwf hf ht
 | indexAddr t x i => exact Q3 hG ho (ho ▸ hc) h r hwf hf ht
 | index t x i => exact LS hG ho (ho ▸ hc) h r hwf hf ht
 | range t x => exact LU hG ho (ho ▸ hc) h r hwf hf ht
 | extract x i => exact Kx hG ho (ho ▸ hc) h r hwf hf ht
 | call c => exact zxd hG ho (ho ▸ hc) h r hwf hf ht
 | makeFunc f fst cap =>
  rw [ho] at hc; cases f with
  | func f => exact Ut hG ho hc h r hwf hf ht
  | _ => simp [qy] at hc
 | next x b =>
  rw [ho] at hc; cases b with
  | true => exact LT hG ho hc h r hwf hf ht
  | false => simp [qy] at hc
 | _ => rw [ho] at hc; simp [qy] at hc
end
end Go.Proofs.YtionbncghjdeoaaGreatDoor.Ev

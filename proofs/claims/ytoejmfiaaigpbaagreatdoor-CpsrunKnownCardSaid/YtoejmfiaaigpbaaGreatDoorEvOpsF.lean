/- Part of a verified evaluator of the model's code, generic over the program: a run of the evaluator that answers shows what the model's run answers. No conditions of its own. -/
import Derived.Test.YtoejmfiaaigpbaaGreatDoorEvOpsE
namespace Go.Proofs.YtoejmfiaaigpbaaGreatDoor.Ev

/-! ### The operations that call nothing, as the machine runs them -/
def Done (P : Program) (w0 : World) (φ : Phi) (s : St) (w : World) (a : Act) (o : Oper) (v : AV) (s' : St) : Prop :=
  ∃ φ' x w', ((execOp a.eval o).run P w = .ok (.value x) w' ∨ (execOp a.eval o).run P w = .ok .skip w' ∧ x = undef) ∧ Step P w0 φ s w φ' s' w' ∧ VR φ' v x

theorem undef_rel (φ : Phi) : VR φ undefV undef := by simp only [undefV, VR]; exact ⟨[], rfl, VRL.nil φ⟩

theorem done_v {P : Program} {w0 : World} {φ φ' : Phi} {s s' : St} {w w' : World} {a : Act} {o : Oper} {v : AV} {x : Value} {S : Sem Value} (e : execOp a.eval o = (do pure (.value (← S)))) (h : S.run P w = .ok x w') (hs : Step P w0 φ s w φ' s' w') (hv : VR φ' v x) : Done P w0 φ s w a o v s' :=
  ⟨φ', x, w', .inl (by rw [e]; simp [h]), hs, hv⟩
theorem done_u {P : Program} {w0 : World} {φ φ' : Phi} {s s' : St} {w w' : World} {a : Act} {o : Oper} {v : AV} {S : Sem Unit} (e : execOp a.eval o = (do S; pure .skip)) (h : S.run P w = .ok () w') (hs : Step P w0 φ s w φ' s' w') (hv : v = undefV) : Done P w0 φ s w a o v s' :=
  ⟨φ', undef, w', .inr ⟨by rw [e]; simp [h], rfl⟩, hs, hv ▸ undef_rel φ'⟩
theorem done_r {P : Program} {w0 : World} {φ : Phi} {s s' : St} {w : World} {a : Act} {o : Oper} {v : AV} {S : Sem Value} (r : Rel P w0 φ s.get w) (e : execOp a.eval o = (do pure (.value (← S)))) (hs : s' = s) (h : ∃ x, S.run P w = .ok x w ∧ VR φ v x) : Done P w0 φ s w a o v s' := by
  obtain ⟨x, h1, h2⟩ := h
  subst hs
  exact done_v e h1 (Step.refl r) h2
theorem done_e {P : Program} {w0 : World} {φ : Phi} {s s' : St} {w : World} {a : Act} {o : Oper} {v : AV} {S : Sem Value} (e : execOp a.eval o = (do pure (.value (← S)))) (h : ∃ φ' x w', S.run P w = .ok x w' ∧ Step P w0 φ s w φ' s' w' ∧ VR φ' v x) : Done P w0 φ s w a o v s' := by
  obtain ⟨φ', x, w', h1, h2, h3⟩ := h
  exact done_v e h1 h2 h3

section
variable {tm : Trie AV} {s s' : St} {v : AV}
theorem ret1_inv {x : Option AV} (h : ret1 s x = some (v, s')) : x = some v ∧ s' = s := by
  cases x with
  | none => simp [ret1] at h
  | some u => simp only [ret1, Option.some.injEq, Prod.mk.injEq] at h; exact ⟨by rw [h.1], h.2.symm⟩
theorem v1_inv {x : Opd} {f : AV → Option AV} (h : v1 tm s x f = some (v, s')) : ∃ u, x.ev tm = some u ∧ f u = some v ∧ s' = s := by
  unfold v1 at h
  split at h
  · rename_i u hu; obtain ⟨h1, h2⟩ := ret1_inv h; exact ⟨u, hu, h1, h2⟩
  · cases h
theorem v2_inv {x y : Opd} {f : AV → AV → Option AV} (h : v2 tm s x y f = some (v, s')) : ∃ u z, x.ev tm = some u ∧ y.ev tm = some z ∧ f u z = some v ∧ s' = s := by
  unfold v2 at h
  split at h
  · rename_i u hu
    split at h
    · rename_i z hz; obtain ⟨h1, h2⟩ := ret1_inv h; exact ⟨u, z, hu, hz, h1, h2⟩
    · cases h
  · cases h
theorem o1_inv {x : Opd} {f : AV → Option (AV × St)} (h : o1 tm x f = some (v, s')) : ∃ u, x.ev tm = some u ∧ f u = some (v, s') := by
  unfold o1 at h
  split at h
  · rename_i u hu; exact ⟨u, hu, h⟩
  · cases h
theorem o2_inv {x y : Opd} {f : AV → AV → Option (AV × St)} (h : o2 tm x y f = some (v, s')) : ∃ u z, x.ev tm = some u ∧ y.ev tm = some z ∧ f u z = some (v, s') := by
  unfold o2 at h
  split at h
  · rename_i u hu
    split at h
    · rename_i z hz; exact ⟨u, z, hu, hz, h⟩
    · cases h
  · cases h
theorem o3_inv {x y z : Opd} {f : AV → AV → AV → Option (AV × St)} (h : o3 tm x y z f = some (v, s')) : ∃ a b c, x.ev tm = some a ∧ y.ev tm = some b ∧ z.ev tm = some c ∧ f a b c = some (v, s') := by
  unfold o3 at h
  split at h
  · rename_i a ha
    split at h
    · rename_i b hb
      split at h
      · rename_i c hc; exact ⟨a, b, c, ha, hb, hc, h⟩
      · cases h
    · cases h
  · cases h
theorem vs3_inv {x : Opd} {lo hi : Option Opd} {f : AV → Option AV → Option AV → Option AV} (h : vs3 tm s x lo hi f = some (v, s')) : ∃ a b c, x.ev tm = some a ∧ evO tm lo = some b ∧ evO tm hi = some c ∧ f a b c = some v ∧ s' = s := by
  unfold vs3 at h
  split at h
  · rename_i a ha
    split at h
    · rename_i b hb
      split at h
      · rename_i c hc; obtain ⟨h1, h2⟩ := ret1_inv h; exact ⟨a, b, c, ha, hb, hc, h1, h2⟩
      · cases h
    · cases h
  · cases h
theorem vs4_inv {x : Opd} {lo hi mx : Option Opd} {f : AV → Option AV → Option AV → Option AV → Option AV} (h : vs4 tm s x lo hi mx f = some (v, s')) : ∃ a b c d, x.ev tm = some a ∧ evO tm lo = some b ∧ evO tm hi = some c ∧ evO tm mx = some d ∧ f a b c d = some v ∧ s' = s := by
  unfold vs4 at h
  split at h
  · rename_i d hd
    obtain ⟨a, b, c, h1, h2, h3, h4, h5⟩ := vs3_inv h
    exact ⟨a, b, c, d, h1, h2, h3, hd, h4, h5⟩
  · cases h
theorem vLL_inv {l m : List Opd} {f : List AV → List AV → Option AV} (h : vLL tm s l m f = some (v, s')) : ∃ a b, evL tm l = some a ∧ evL tm m = some b ∧ f a b = some v ∧ s' = s := by
  unfold vLL at h
  split at h
  · rename_i a ha
    split at h
    · rename_i b hb; obtain ⟨h1, h2⟩ := ret1_inv h; exact ⟨a, b, ha, hb, h1, h2⟩
    · cases h
  · cases h
theorem evO_none {x : Option Opd} {b : Option AV} (h : evO tm x = some b) : (x = none ↔ b = none) := by
  cases x with
  | none => simp [evO] at h; simp [← h]
  | some y =>
    simp only [evO] at h
    cases hy : y.ev tm with
    | none => rw [hy] at h; simp at h
    | some u => rw [hy] at h; simp at h; simp [← h]
end

theorem next_row {s s' : St} {o : AObj} (h : s.alloc o = s') : s.next < s'.next := by subst h; exact Nat.lt_succ_self _
theorem oBsl_next {s s' : St} {e len : Nat} {x : Option (List AV)} {v : AV} (h : oBsl s e len x = some (v, s')) : s.next < s'.next := by
  cases x with
  | none => simp [oBsl] at h
  | some l => simp only [oBsl, Option.some.injEq, Prod.mk.injEq] at h; exact next_row h.2
theorem oMsl_next {s s' : St} {e b : Nat} {z : List AV} {l c v : AV} (h : oMsl s e b z l c = some (v, s')) : s.next < s'.next := by
  unfold oMsl at h
  split at h
  · rename_i l
    split at h
    · rename_i c
      cases hb : (Nat.ble l c && Nat.ble (Nat.mul c b) 281474976710656 && Nat.blt c 9223372036854775808) with
      | false => rw [hb] at h; simp at h
      | true => rw [hb] at h; simp only [cond_true, Option.some.injEq, Prod.mk.injEq] at h; exact next_row h.2
    · cases h
  · cases h
theorem oCsb_next {s s' : St} {e : Nat} {x v : AV} (h : oCsb s e x = some (v, s')) : s.next < s'.next := by
  unfold oCsb at h
  split at h
  · rename_i t
    cases hb : Nat.blt (lenN t) 9223372036854775808 with
    | false => rw [hb] at h; simp at h
    | true => rw [hb] at h; simp only [cond_true, Option.some.injEq, Prod.mk.injEq] at h; exact next_row h.2
  · cases h
theorem oRs_next {s s' : St} {x v : AV} (h : oRs s x = some (v, s')) : s.next < s'.next := by
  unfold oRs at h
  split at h
  · simp only [Option.some.injEq, Prod.mk.injEq] at h; exact next_row h.2
  · cases h
theorem oRm_next {s s' : St} {x v : AV} (h : oRm s x = some (v, s')) : s.next < s'.next := by
  unfold oRm at h
  split at h
  · simp only [Option.some.injEq, Prod.mk.injEq] at h; exact next_row h.2
  · split at h
    · simp only [Option.some.injEq, Prod.mk.injEq] at h; exact next_row h.2
    · cases h
  · cases h

theorem list_two {α : Type} {a : Array α} {x y : α} (h : a.toList = [x, y]) : a = #[x, y] := by apply Array.ext'; exact h
theorem list_one {α : Type} {a : Array α} {x : α} (h : a.toList = [x]) : a = #[x] := by apply Array.ext'; exact h
theorem list_fst {α : Type} {a : Array α} {x : α} {l : List α} (h : a.toList = x :: l) : a[0]? = some x := by rw [← Array.getElem?_toList, h]; rfl
theorem list_snd {α : Type} {a : Array α} {x y : α} {l : List α} (h : a.toList = x :: y :: l) : a[1]? = some y := by rw [← Array.getElem?_toList, h]; rfl

theorem exec_builtin {a : Act} {o : Oper} {c : Call} {b : Builtin} (ho : o.op = .call c) (hc : c.callee = .builtin b) : execOp a.eval o = (builtin b c.argTypes o.type (c.args.map fun | .const _ => true | _ => false) (c.args.map a.eval)) := by
  unfold execOp; rw [ho]; simp only [resolve, hc]; rfl

end Go.Proofs.YtoejmfiaaigpbaaGreatDoor.Ev

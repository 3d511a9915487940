/- Part of a verified evaluator of the model's code, generic over the program: a run of the evaluator that answers shows what the model's run answers. No conditions of its own. -/
import Derived.Test.YthcmnajcjapjbaaGreatDoorEvE
set_option linter.unusedSimpArgs false
set_option linter.unusedVariables false
set_option linter.defProp false
open Option.some renaming injEq → zy
open List renaming mem_of_getElem? → yS, getElem?_cons_succ → yO, getElem?_eq_none → z6, getElem?_cons_zero → yK
open Bool renaming and_eq_true → zm
open Nat renaming blt → zd, zero_add → yx, beq → za
namespace Go.Proofs.YthcmnajcjapjbaaGreatDoor.Ev
variable {P : Program} {w0 w w' : World} {E : Env} {O : Orc} {s : St} {v : AV} {id n : Nat} {o : AObj}
open Go.RowKit (Below)
theorem zpX (hx : Xy O) (hm : P.follows .mixedOrders = true) (hG : xK E.globs w0) (hE : jG P E) (hO : ∀ f g, O f = some g → qO P w0 f g) : SelfOk P w0 (evW E O) where
 mono := ⟨fun f a s v s' h => by obtain ⟨n, hn⟩ := qB h; exact (jc E hx n).call _ _ _ _ _ hn, fun rd b fr s res fr' s' h => by obtain ⟨n, hn⟩ := qB h; exact (jc E hx n).loop _ _ _ _ _ _ _ hn, fun l a s v s' h => by obtain ⟨n, hn⟩ := qB h; exact (jc E hx n).round _ _ _ _ _ hn⟩
 ext := ⟨fun f a s v s' h => by obtain ⟨n, hn⟩ := qB h; exact (kc E hx n).call _ _ _ _ _ hn, fun rd b fr s res fr' s' h => by obtain ⟨n, hn⟩ := qB h; exact (kc E hx n).loop _ _ _ _ _ _ _ hn, fun l a s v s' h => by obtain ⟨n, hn⟩ := qB h; exact (kc E hx n).round _ _ _ _ _ hn⟩
 call := fun h => by obtain ⟨n, hn⟩ := qB h; exact (We hx hm hG hE hO n).call hn
 round := fun h => by obtain ⟨n, hn⟩ := qB h; exact (We hx hm hG hE hO n).round hn
 loop := fun h => by obtain ⟨n, hn⟩ := qB h; exact (We hx hm hG hE hO n).loop hn
structure Cx where
 P : Program
 w0 : World
 E : Env
 O : Orc
 nt : Nat
 rd : Option Nat
 φ : Phi
 s : St
 w : World
 /-- the blocks that were there at the start, and may be written -/
 M : Nat
structure CxOk (C : Cx) : Prop where
 ox : OrcOk C.P C.w0 C.O
 mixed : C.P.follows .mixedOrders = true
 glob : xK C.E.globs C.w0
 env : jG C.P C.E
 rel : Rel C.P C.w0 C.φ C.s.get C.w
 wf : Wf C.s
 fresh : ∀ id, C.s.next ≤ id → C.φ id = none
 hide : C.s.hide = []
 only : C.s.only = none
 wm : ∀ i, C.s.wm.testBit i = true → C.M.testBit i = true
 mask : ∀ i, C.M.testBit i = true → i < C.s.next ∧ ∃ o, C.s.objs.get i = some o ∧ qh o = false
structure At (C : Cx) (φ : Phi) (s : St) (w : World) : Prop where
 st : Step C.P C.w0 C.φ C.s C.w φ s w
 fresh : ∀ id, s.next ≤ id → φ id = none
def LT (C : Cx) (Q : Res → Fr → St → Prop) (e : Exit) (a : Act) (w : World) : Prop :=
 ∃ res fr s φ, e = res.ex ∧ At C φ s w ∧ FrRel φ C.nt fr a ∧ Q res fr s
def Tri (C : Cx) (ic : ICode) (fr : Fr) (s : St) (Q : Res → Fr → St → Prop) : Prop :=
 ∀ c, cC C.P C.nt c = some ic → ∀ φ w a, At C φ s w → FrRel φ C.nt fr a → ∀ F n, Wide F → (C.rd = none → F.round = none) → c.wpIn F n C.P (LT C Q) a w
def TriL (C : Cx) (ic : ICode) (fr : Fr) (s : St) (Q : Res → Fr → St → Prop) : Prop :=
 ∀ c, cC C.P C.nt c = some ic → ∀ φ w a, At C φ s w → FrRel φ C.nt fr a → ∀ F n, Wide F → (C.rd = none → F.round = none) → LoopIn F n C.P c (LT C Q) a w
def Gc (C : Cx) (fr : Fr) (s : St) (fr1 : Fr) (s1 : St) : Prop :=
 ∀ φ w a, At C φ s w → FrRel φ C.nt fr a → ∃ φ1, At C φ1 s1 w ∧ FrRel φ1 C.nt fr1 a
section
variable {C : Cx} {ic ia ib : ICode} {fr fr' fr1 : Fr} {s s' s1 : St} {Q Q' : Res → Fr → St → Prop} {res : Res}
theorem At.wf (ok : CxOk C) {φ : Phi} (h : At C φ s w) : Wf s := h.st.ext.wf ok.wf
theorem At.step (ok : CxOk C) {φ φ' : Phi} (h : At C φ s w) (k : Step C.P C.w0 φ s w φ' s' w') : At C φ' s' w' :=
 ⟨Step.trans ok.wf h.st k, fun id hid => by
  have := k.ext.next
  rw [k.same id (.inr hid)]; exact h.fresh id (by omega)⟩
theorem CxOk.self (ok : CxOk C) : SelfOk C.P C.w0 (evW C.E C.O) := zpX ok.ox.ext ok.mixed ok.glob ok.env ok.ox.ok
theorem Tri.mono (h : Tri C ic fr s Q) (hq : ∀ r f t, Q r f t → Q' r f t) : Tri C ic fr s Q' := fun c hc φ w a ha hf F n hF hrd =>
 wpIn_mono (h c hc φ w a ha hf F n hF hrd) fun _ _ _ ⟨r, f, t, p, e1, e2, e3, e4⟩ => ⟨r, f, t, p, e1, e2, e3, hq _ _ _ e4⟩
theorem zt7 (ok : CxOk C) (h : evC C.E (evW C.E C.O) C.rd ic fr s = some (res, fr', s')) (q : Q res fr' s') : Tri C ic fr s Q := by
 intro c hc φ w a ha hf F n hF hrd
 refine wpIn_mono (qR ok.self ok.glob (Ph ok.mixed ok.glob _ ok.self) hF hrd c hc h ha.st.rel (ha.wf ok) ha.fresh hf) ?_
 rintro e a' w' ⟨φ', rfl, k1, k2⟩
 exact ⟨res, fr', s', φ', rfl, ha.step ok k1, k2, q⟩
theorem Yy (h : Gc C fr s fr1 s1) (t : Tri C ic fr1 s1 Q) : Tri C ic fr s Q := by
 intro c hc φ w a ha hf F n hF hrd
 obtain ⟨φ1, h1, h2⟩ := h φ w a ha hf
 exact t c hc φ1 w a h1 h2 F n hF hrd
theorem zzp (h : Gc C fr s fr1 s1) (t : TriL C ic fr1 s1 Q) : TriL C ic fr s Q := by
 intro c hc φ w a ha hf F n hF hrd
 obtain ⟨φ1, h1, h2⟩ := h φ w a ha hf
 exact t c hc φ1 w a h1 h2 F n hF hrd
def xA (K : Fr → St → Prop) (Q : Res → Fr → St → Prop) : Res → Fr → St → Prop
 | .norm, fr, s => K fr s
 | r, fr, s => Q r fr s
theorem YE {K : Fr → St → Prop} {KK : Act → World → Prop} (hK : ∀ φ f t a w, K f t → At C φ t w → FrRel φ C.nt f a → KK a w) : ∀ e a w, LT C (xA K Q) e a w → Exit.then KK (LT C Q) e a w := by
 rintro e a w ⟨r, f, t, p, rfl, e2, e3, e4⟩
 cases r with
 | norm => exact hK p f t a w e4 e2 e3
 | exit id => exact ⟨.exit id, f, t, p, rfl, e2, e3, e4⟩
 | ret => exact ⟨.ret, f, t, p, rfl, e2, e3, e4⟩
theorem zpF {nt : Nat} {c : Code} (h : cC P nt c = some (.seq ia ib)) : ∃ x y, c = .seq x y ∧ cC P nt x = some ia ∧ cC P nt y = some ib := by
 cases c with
 | region id ops any =>
  cases any <;> simp only [cC] at h <;> obtain ⟨_, _, he⟩ := Option.map_eq_some_iff.1 h <;> cases he
 | seq a b =>
  simp only [cC] at h
  split at h
  ·rename_i x y hx hy
   simp only [zy] at h
   cases h; exact ⟨a, b, rfl, hx, hy⟩
  ·cases h
 | cond a b c =>
  simp only [cC] at h
  split at h <;> cases h
 | block a b =>
  simp only [cC] at h
  obtain ⟨_, _, he⟩ := Option.map_eq_some_iff.1 h
  cases he
 | loop b =>
  simp only [cC] at h
  obtain ⟨_, _, he⟩ := Option.map_eq_some_iff.1 h
  cases he
 | rangeFunc a b c d =>
  simp only [cC] at h
  split at h
  ·cases hq : b.all (zd · nt) with
   | true => rw [hq] at h; cases h
   | false => rw [hq] at h; cases h
  ·cases h
 | _ => simp [cC] at h
theorem zsB {nt : Nat} {c : Code} {x : Opd} (h : cC P nt c = some (.cond x ia ib)) : ∃ x' a b, c = .cond x' a b ∧ cOpd x' = some x ∧ cC P nt a = some ia ∧ cC P nt b = some ib := by
 cases c with
 | region id ops any =>
  cases any <;> simp only [cC] at h <;> obtain ⟨_, _, he⟩ := Option.map_eq_some_iff.1 h <;> cases he
 | seq a b =>
  simp only [cC] at h
  split at h
  ·simp only [zy] at h
   cases h
  ·cases h
 | cond x' a b =>
  simp only [cC] at h
  split at h
  ·rename_i h1 h2 h3
   cases h; exact ⟨x', a, b, rfl, h1, h2, h3⟩
  ·cases h
 | block a b =>
  simp only [cC] at h
  obtain ⟨_, _, he⟩ := Option.map_eq_some_iff.1 h
  cases he
 | loop b =>
  simp only [cC] at h
  obtain ⟨_, _, he⟩ := Option.map_eq_some_iff.1 h
  cases he
 | rangeFunc a b c d =>
  simp only [cC] at h
  split at h
  ·cases hq : b.all (zd · nt) with
   | true => rw [hq] at h; cases h
   | false => rw [hq] at h; cases h
  ·cases h
 | _ => simp [cC] at h
theorem zwR {nt : Nat} {c : Code} (h : cC P nt c = some (.block id ib)) : ∃ b, c = .block id b ∧ cC P nt b = some ib := by
 cases c with
 | region id ops any =>
  cases any <;> simp only [cC] at h <;> obtain ⟨_, _, he⟩ := Option.map_eq_some_iff.1 h <;> cases he
 | seq a b =>
  simp only [cC] at h
  split at h
  ·simp only [zy] at h
   cases h
  ·cases h
 | cond a b c =>
  simp only [cC] at h
  split at h <;> cases h
 | block a b =>
  simp only [cC] at h
  obtain ⟨_, hb, he⟩ := Option.map_eq_some_iff.1 h
  cases he; exact ⟨b, rfl, hb⟩
 | loop b =>
  simp only [cC] at h
  obtain ⟨_, _, he⟩ := Option.map_eq_some_iff.1 h
  cases he
 | rangeFunc a b c d =>
  simp only [cC] at h
  split at h
  ·cases hq : b.all (zd · nt) with
   | true => rw [hq] at h; cases h
   | false => rw [hq] at h; cases h
  ·cases h
 | _ => simp [cC] at h
theorem zsC {nt : Nat} {c : Code} (h : cC P nt c = some (.loop ib)) : ∃ b, c = .loop b ∧ cC P nt b = some ib := by
 cases c with
 | region id ops any =>
  cases any <;> simp only [cC] at h <;> obtain ⟨_, _, he⟩ := Option.map_eq_some_iff.1 h <;> cases he
 | seq a b =>
  simp only [cC] at h
  split at h
  ·simp only [zy] at h
   cases h
  ·cases h
 | cond a b c =>
  simp only [cC] at h
  split at h <;> cases h
 | block a b =>
  simp only [cC] at h
  obtain ⟨_, _, he⟩ := Option.map_eq_some_iff.1 h
  cases he
 | loop b =>
  simp only [cC] at h
  obtain ⟨_, hb, he⟩ := Option.map_eq_some_iff.1 h
  cases he; exact ⟨b, rfl, hb⟩
 | rangeFunc a b c d =>
  simp only [cC] at h
  split at h
  ·cases hq : b.all (zd · nt) with
   | true => rw [hq] at h; cases h
   | false => rw [hq] at h; cases h
  ·cases h
 | _ => simp [cC] at h
theorem wu (h : Tri C ia fr s (xA (fun f t => Tri C ib f t Q) Q)) : Tri C (.seq ia ib) fr s Q := by
 intro c hc φ w a ha hf F n hF hrd
 obtain ⟨x, y, rfl, hx, hy⟩ := zpF hc
 refine wpIn_seq (wpIn_mono (h x hx φ w a ha hf F n hF hrd) (YE fun φ1 f t a1 w1 k k1 k2 => ?_))
 exact k y hy φ1 w1 a1 k1 k2 F n hF hrd
theorem ZN {x : Opd} {b : Bool} (hx : x.ev fr.tm = some (.bool b)) (h : Tri C (bif b then ia else ib) fr s Q) : Tri C (.cond x ia ib) fr s Q := by
 intro c hc φ w a ha hf F n hF hrd
 obtain ⟨x', u, v, rfl, h1, h2, h3⟩ := zsB hc
 have hv := xu (φ := φ) (a := a) h1 hx (TmOn.of hf.tm)
 simp only [VR] at hv
 cases b with
 | true => exact wpIn_cond_true hv (h u h2 φ w a ha hf F n hF hrd)
 | false => exact wpIn_cond_false hv (h v h3 φ w a ha hf F n hF hrd)
def xX (id : Nat) (Q : Res → Fr → St → Prop) : Res → Fr → St → Prop
 | .norm, fr, s => Q .norm fr s
 | .ret, fr, s => Q .ret fr s
 | .exit i, fr, s => Q (if i = id then .norm else .exit i) fr s
theorem xS (h : Tri C ib fr s (xX id Q)) : Tri C (.block id ib) fr s Q := by
 intro c hc φ w a ha hf F n hF hrd
 obtain ⟨b, rfl, hb⟩ := zwR hc
 refine wpIn_block (wpIn_mono (h b hb φ w a ha hf F n hF hrd) ?_)
 rintro e a1 w1 ⟨r, f, t, p, rfl, e2, e3, e4⟩
 cases r with
 | norm => exact ⟨.norm, f, t, p, rfl, e2, e3, e4⟩
 | ret => exact ⟨.ret, f, t, p, rfl, e2, e3, e4⟩
 | exit i =>
  simp only [xX] at e4
  simp only [Res.ex, Exit.inBlock]
  by_cases hii : i = id
  ·rw [if_pos hii] at e4 ⊢; exact ⟨.norm, f, t, p, rfl, e2, e3, e4⟩
  ·rw [if_neg hii] at e4 ⊢; exact ⟨.exit i, f, t, p, rfl, e2, e3, e4⟩
theorem x6 (h : TriL C ib fr s Q) : Tri C (.loop ib) fr s Q := by
 intro c hc φ w a ha hf F n hF hrd
 obtain ⟨b, rfl, hb⟩ := zsC hc
 exact lB (h b hb φ w a ha hf F n hF hrd)
theorem Yx (h : Tri C ib fr s (xA (fun f t => TriL C ib f t Q) Q)) : TriL C ib fr s Q := by
 intro c hc φ w a ha hf F n hF hrd
 refine lh (wpIn_mono (h c hc φ w a ha hf F n hF hrd) (YE fun φ1 f t a1 w1 k k1 k2 => ?_))
 exact k c hc φ1 w1 a1 k1 k2 F n hF hrd
end
mutual
def wkV : AV → AV
 | .nils => .lst 0 false []
 | .sl0 => .sl0
 | .lst n _ cs => .lst n false (wkL cs)
 | .vp cs => .vp (wkL cs)
 | .agg cs => .agg (wkL cs)
 | .tup cs => .tup (wkL cs)
 | .ifc t v => .ifc t (wkV v)
 | .gr id e n cs => .gr id e n cs
 | .bool b => .bool b
 | .int k n => .int k n
 | .str s => .str s
 | .ptr i o => .ptr i o
 | .nilp => .nilp
 | .gptr g o => .gptr g o
 | .sl i o n c => .sl i o n c
 | .map i => .map i
 | .nilm => .nilm
 | .fn f a c => .fn f a c
 | .nilf => .nilf
 | .yld l => .yld l
 | .nili => .nili
def wkL : List AV → List AV
 | [] => []
 | v :: r => wkV v :: wkL r
end
mutual
theorem Gb : ∀ {v : AV}, xG v = true → xG (wkV v) = true
 | .nils, _ => rfl
 | .sl0, _ => rfl
 | .lst _ _ _, _ => rfl
 | .vp _, _ => rfl
 | .agg cs, h => by simp only [xG] at h; simp only [wkV, xG]; exact kK h
 | .tup cs, h => by simp only [xG] at h; simp only [wkV, xG]; exact kK h
 | .ifc t v, h => by simp only [xG] at h; simp only [wkV, xG]; exact Gb h
 | .gr _ _ _ _, h => by simp [xG] at h
 | .bool _, _ => rfl
 | .int _ _, _ => rfl
 | .str _, _ => rfl
 | .ptr _ _, h => by simp [xG] at h
 | .nilp, _ => rfl
 | .gptr _ _, _ => rfl
 | .sl _ _ _ _, h => by simp [xG] at h
 | .map _, h => by simp [xG] at h
 | .nilm, _ => rfl
 | .fn _ _ _, h => h
 | .nilf, _ => rfl
 | .yld _, h => by simp [xG] at h
 | .nili, _ => rfl
theorem kK : ∀ {l : List AV}, xz l = true → xz (wkL l) = true
 | [], _ => rfl
 | v :: r, h => by
  simp only [xz, zm] at h
  simp only [wkL, xz, Gb h.1, kK h.2, Bool.and_self]
end
mutual
theorem lX {φ : Phi} : ∀ {v : AV} {x : Value}, VR φ v x → VR φ (wkV v) x
 | .nils, x, h => by simp only [VR] at h; simp only [wkV, VR]; exact ⟨by simp [xz], .inl ⟨trivial, _, h⟩⟩
 | .lst n e cs, x, h => by
  simp only [VR] at h; simp only [wkV, VR]
  obtain ⟨hp, h1 | ⟨b, o, k, ys, e1, e2, e3, e4, e5⟩⟩ := h
  ·exact ⟨kK hp, .inl h1⟩
  ·exact ⟨kK hp, .inr ⟨b, o, k, ys, e1, (by simp), e3, e4, qU e5⟩⟩
 | .vp cs, x, h => by
  simp only [VR] at h; simp only [wkV, VR]
  obtain ⟨hp, b, o, ys, e1, e2, e3⟩ := h
  exact ⟨kK hp, b, o, ys, e1, e2, qU e3⟩
 | .agg cs, x, h => by
  simp only [VR] at h; simp only [wkV, VR]
  obtain ⟨xs, e, h1⟩ := h
  exact ⟨xs, e, qU h1⟩
 | .tup cs, x, h => by
  simp only [VR] at h; simp only [wkV, VR]
  obtain ⟨xs, e, h1⟩ := h
  exact ⟨xs, e, qU h1⟩
 | .ifc t v, x, h => by
  simp only [VR] at h; simp only [wkV, VR]
  obtain ⟨y, e, h1⟩ := h
  exact ⟨y, e, lX h1⟩
 | .sl0, x, h => h
 | .gr _ _ _ _, x, h => h
 | .bool _, x, h => h
 | .int _ _, x, h => h
 | .str _, x, h => h
 | .ptr _ _, x, h => h
 | .nilp, x, h => h
 | .gptr _ _, x, h => h
 | .sl _ _ _ _, x, h => h
 | .map _, x, h => h
 | .nilm, x, h => h
 | .fn _ _ _, x, h => h
 | .nilf, x, h => h
 | .yld _, x, h => h
 | .nili, x, h => h
theorem qU {φ : Phi} : ∀ {l : List AV} {xs : List Value}, VRL φ l xs → VRL φ (wkL l) xs
 | [], xs, h => h
 | v :: r, xs, h => by
  simp only [VRL] at h
  obtain ⟨y, ys, rfl, h1, h2⟩ := h
  exact VRL.cons (lX h1) (qU h2)
end
theorem ZQ : ∀ l : List AV, (wkL l).length = l.length
 | [] => rfl
 | v :: r => by simp [wkL, ZQ r]
def wkO : Bool → AObj → AObj
 | true, .row e cs x fz => .row e (wkL cs) x fz
 | _, o => o
theorem zwf (b : Bool) (o : AObj) : qh (wkO b o) = qh o ∧ (∀ B z, SepOf o B z → SepOf (wkO b o) B z) := by
 cases b with
 | false => exact ⟨by cases o <;> rfl, fun B z t => by cases o <;> exact t⟩
 | true => cases o <;> exact ⟨rfl, fun _ _ t => t⟩
theorem zwg {φ : Phi} (b : Bool) {B : Blk} (t : ObjRel P φ w o B) : ObjRel P φ w (wkO b o) B := by
 cases b with
 | false => cases o <;> exact t
 | true =>
  cases o <;> first | exact t | skip
  simp only [ObjRel, wkO] at t ⊢
  obtain ⟨c, fr, h1, h2, h3, h4, h5, h6⟩ := t
  exact ⟨c, fr, h1, h2, by rw [ZQ]; exact h3, by rw [ZQ]; exact h4, by rw [ZQ]; exact qU h5, h6⟩
def Vs : List Nat → Nat → Nat → Option Nat
 | [], _, _ => none
 | k :: r, id, j => bif za k id then some j else Vs r id (j + 1)
def rho (n0 : Nat) (keep : List Nat) (id : Nat) : Option Nat := bif zd id n0 then some id else Vs keep id n0
mutual
def renV (ρ : Nat → Option Nat) : AV → Option AV
 | .ptr id off => match ρ id with
  | some j => some (.ptr j off)
  | none => none
 | .sl id off len c => match ρ id with
  | some j => some (.sl j off len c)
  | none => none
 | .map id => match ρ id with
  | some j => some (.map j)
  | none => none
 | .yld id => match ρ id with
  | some j => some (.yld j)
  | none => none
 | .gr id e n cs => match ρ id with
  | some j => some (.gr j e n cs)
  | none => none
 | .fn f a c => match renC ρ (xz a) a, renC ρ (xz c) c with
  | some a, some c => some (.fn f a c)
  | _, _ => none
 | .ifc t v => match renV ρ v with
  | some v => some (.ifc t v)
  | none => none
 | .agg cs => match renC ρ (xz cs) cs with
  | some cs => some (.agg cs)
  | none => none
 | .tup cs => match renC ρ (xz cs) cs with
  | some cs => some (.tup cs)
  | none => none
 | v => some v
def renC (ρ : Nat → Option Nat) (p : Bool) (l : List AV) : Option (List AV) := bif p then some l else renL ρ l
def renL (ρ : Nat → Option Nat) : List AV → Option (List AV)
 | [] => some []
 | v :: r => match renV ρ v, renL ρ r with
  | some v, some r => some (v :: r)
  | _, _ => none
end
def Y6 : List (AV × AV × Nat) → Bool
 | [] => true
 | p :: r => xG p.1 && xG p.2.1 && Y6 r
def renO (ρ : Nat → Option Nat) : AObj → Option AObj
 | .row e cells x fz => match renC ρ (xz cells) cells with
  | some cs => some (.row e cs x fz)
  | none => none
 | .map es clock => bif Y6 es then some (.map es clock) else none
 | .siter s pos => some (.siter s pos)
 | .miter m since seen stepped => match m with
  | none => some (.miter none since seen stepped)
  | some id => match ρ id with
   | some j => some (.miter (some j) since seen stepped)
   | none => none
 | .loop _ _ _ _ _ _ _ => none
 | .dfd => some .dfd
 | .dfd0 => some .dfd0
 | .giv cells => match renC ρ (xz cells) cells with
  | some cs => some (.giv cs)
  | none => none
 | .app e cells => bif xz cells then some (.app e cells) else none
section
variable {φ φ1 : Phi} {ρ : Nat → Option Nat}
structure RenOk (φ φ1 : Phi) (ρ : Nat → Option Nat) : Prop where
 m : ∀ id j, ρ id = some j → φ1 j = φ id
 z : φ1.z = φ.z
mutual
theorem gs (h : RenOk φ φ1 ρ) : ∀ {v v1 : AV} {x : Value}, renV ρ v = some v1 → VR φ v x → VR φ1 v1 x
 | .ptr id off, v1, x, hr, hv => by
  simp only [renV] at hr
  split at hr
  ·rename_i j hj; cases hr; simp only [VR] at hv ⊢; rw [h.m id j hj]; exact hv
  ·cases hr
 | .sl id off len c, v1, x, hr, hv => by
  simp only [renV] at hr
  split at hr
  ·rename_i j hj; cases hr; simp only [VR] at hv ⊢; rw [h.m id j hj]; exact hv
  ·cases hr
 | .map id, v1, x, hr, hv => by
  simp only [renV] at hr
  split at hr
  ·rename_i j hj; cases hr; simp only [VR] at hv ⊢; rw [h.m id j hj]; exact hv
  ·cases hr
 | .yld id, v1, x, hr, hv => by
  simp only [renV] at hr
  split at hr
  ·rename_i j hj; cases hr; simp only [VR] at hv ⊢; rw [h.m id j hj]; exact hv
  ·cases hr
 | .gr id e n cs, v1, x, hr, hv => by
  simp only [renV] at hr
  split at hr
  ·rename_i j hj
   cases hr; simp only [VR] at hv ⊢; rw [h.m id j hj]
   obtain ⟨h1, h2, h3, h4, B, ys, h5, h6, h7, h8, h9⟩ := hv
   exact ⟨h1, h2, h3, h4, B, ys, h5, h6, h7, h8.mono (fun _ _ _ t => by rw [h.z]; exact t), VRL.pure (fun _ _ _ t => by rw [h.z]; exact t) _ _ h1 h9⟩
  ·cases hr
 | .fn f a c, v1, x, hr, hv => by
  simp only [renV] at hr
  split at hr
  ·rename_i a' c' ha hc
   cases hr; simp only [VR] at hv ⊢
   obtain ⟨xs, ys, e, h1, h2⟩ := hv
   exact ⟨xs, ys, e, uV h ha h1, uV h hc h2⟩
  ·cases hr
 | .ifc t v, v1, x, hr, hv => by
  simp only [renV] at hr
  split at hr
  ·rename_i v' hv'
   cases hr; simp only [VR] at hv ⊢
   obtain ⟨y, e, h1⟩ := hv
   exact ⟨y, e, gs h hv' h1⟩
  ·cases hr
 | .agg cs, v1, x, hr, hv => by
  simp only [renV] at hr
  split at hr
  ·rename_i c' hc
   cases hr; simp only [VR] at hv ⊢
   obtain ⟨xs, e, h1⟩ := hv
   exact ⟨xs, e, uV h hc h1⟩
  ·cases hr
 | .tup cs, v1, x, hr, hv => by
  simp only [renV] at hr
  split at hr
  ·rename_i c' hc
   cases hr; simp only [VR] at hv ⊢
   obtain ⟨xs, e, h1⟩ := hv
   exact ⟨xs, e, uV h hc h1⟩
  ·cases hr
 | .bool _, v1, x, hr, hv => by simp only [renV, zy] at hr; subst hr; simpa [VR] using hv
 | .int _ _, v1, x, hr, hv => by simp only [renV, zy] at hr; subst hr; simpa [VR] using hv
 | .str _, v1, x, hr, hv => by simp only [renV, zy] at hr; subst hr; simpa [VR] using hv
 | .nilp, v1, x, hr, hv => by simp only [renV, zy] at hr; subst hr; simpa [VR] using hv
 | .gptr _ _, v1, x, hr, hv => by simp only [renV, zy] at hr; subst hr; simpa [VR] using hv
 | .sl0, v1, x, hr, hv => by simp only [renV, zy] at hr; subst hr; simpa [VR] using hv
 | .nils, v1, x, hr, hv => by simp only [renV, zy] at hr; subst hr; simpa [VR] using hv
 | .nilm, v1, x, hr, hv => by simp only [renV, zy] at hr; subst hr; simpa [VR] using hv
 | .nilf, v1, x, hr, hv => by simp only [renV, zy] at hr; subst hr; simpa [VR] using hv
 | .nili, v1, x, hr, hv => by simp only [renV, zy] at hr; subst hr; simpa [VR] using hv
 | .lst n ex cs, v1, x, hr, hv => by
  simp only [renV, zy] at hr; subst hr
  exact VR.pure (fun _ _ _ t => by rw [h.z]; exact t) _ _ rfl hv
 | .vp cs, v1, x, hr, hv => by
  simp only [renV, zy] at hr; subst hr
  exact VR.pure (fun _ _ _ t => by rw [h.z]; exact t) _ _ rfl hv
theorem uV (h : RenOk φ φ1 ρ) : ∀ {l l1 : List AV} {xs : List Value}, renC ρ (xz l) l = some l1 → VRL φ l xs → VRL φ1 l1 xs := fun {l l1 xs} hr hv => by
  unfold renC at hr
  cases hp : xz l with
  | true =>
   rw [hp] at hr; simp only [cond_true, zy] at hr; subst hr
   exact VRL.pure (fun _ _ _ t => by rw [h.z]; exact t) _ _ hp hv
  | false => rw [hp] at hr; simp only [cond_false] at hr; exact WO h hr hv
theorem WO (h : RenOk φ φ1 ρ) : ∀ {l l1 : List AV} {xs : List Value}, renL ρ l = some l1 → VRL φ l xs → VRL φ1 l1 xs
 | [], l1, xs, hr, hv => by simp only [renL, zy] at hr; subst hr; simpa [VRL] using hv
 | v :: r, l1, xs, hr, hv => by
  simp only [renL] at hr
  split at hr
  ·rename_i v' r' h1 h2
   cases hr
   simp only [VRL] at hv
   obtain ⟨y, ys, rfl, h3, h4⟩ := hv
   exact VRL.cons (gs h h1 h3) (WO h h2 h4)
  ·cases hr
end
theorem Gg {ρ : Nat → Option Nat} : ∀ {l l1 : List AV}, renL ρ l = some l1 → l1.length = l.length
 | [], l1, h => by simp only [renL, zy] at h; subst h; rfl
 | v :: r, l1, h => by
  simp only [renL] at h
  split at h
  ·rename_i h1 h2; cases h; simp [Gg h2]
  ·cases h
theorem ZA {ρ : Nat → Option Nat} {p : Bool} {l l1 : List AV} (h : renC ρ p l = some l1) : l1.length = l.length := by
 cases p with
 | true => simp only [renC, cond_true, zy] at h; rw [h]
 | false => simp only [renC, cond_false] at h; exact Gg h
theorem EntRel.pure (h : ∀ b o v, φ.z b o = some v → φ1.z b o = some v) : ∀ {es : List (AV × AV × Nat)} {l : List MapEntry}, Y6 es = true → EntRel φ es l → EntRel φ1 es l
 | [], _, _, t => t
 | p :: r, _, hp, t => by
  simp only [Y6, zm] at hp
  obtain ⟨e, es', rfl, h1, h2, h3, h4⟩ := t
  exact ⟨e, es', rfl, VR.pure h _ _ hp.1.1 h1, VR.pure h _ _ hp.1.2 h2, h3, h4.pure h hp.2⟩
theorem uW {ρ : Nat → Option Nat} {o1 : AObj} (h : renO ρ o = some o1) : qh o1 = qh o ∧ (∀ B z, SepOf o B z → SepOf o1 B z) := by
 cases o <;> simp only [renO] at h
 case row e cells x fz =>
  split at h
  ·cases h; exact ⟨rfl, fun _ _ t => t⟩
  ·cases h
 case map es clock =>
  cases hp : Y6 es <;> rw [hp] at h <;> simp at h
  subst h; exact ⟨rfl, fun _ _ t => t⟩
 case siter => cases h; exact ⟨rfl, fun _ _ t => t⟩
 case miter m since seen stepped =>
  cases m with
  | none => cases h; exact ⟨rfl, fun _ _ t => t⟩
  | some id =>
   simp only at h
   split at h
   ·cases h; exact ⟨rfl, fun _ _ t => t⟩
   ·cases h
 case loop => cases h
 case dfd => cases h; exact ⟨rfl, fun _ _ t => t⟩
 case dfd0 => cases h; exact ⟨rfl, fun _ _ t => t⟩
 case giv cells =>
  split at h
  ·cases h; exact ⟨rfl, fun _ _ t => t⟩
  ·cases h
 case app e cells =>
  cases hp : xz cells <;> rw [hp] at h <;> simp at h
  subst h; exact ⟨rfl, fun _ _ t => t⟩
theorem pR (h : RenOk φ φ1 ρ) {o1 : AObj} {B : Blk} (hr : renO ρ o = some o1) (t : ObjRel P φ w o B) : ObjRel P φ1 w o1 B := by
 have hz : ∀ b o v, φ.z b o = some v → φ1.z b o = some v := fun _ _ _ t => by rw [h.z]; exact t
 cases o <;> simp only [renO] at hr
 case row e cells x fz =>
  split at hr
  ·rename_i cs hc
   cases hr
   have hl := ZA hc
   simp only [ObjRel] at t ⊢
   obtain ⟨c, fr, h1, h2, h3, h4, h5, h6⟩ := t
   exact ⟨c, fr, h1, h2, by rw [hl]; exact h3, by rw [hl]; exact h4, by rw [hl]; exact uV h hc h5, h6⟩
  ·cases hr
 case map es clock =>
  cases hp : Y6 es <;> rw [hp] at hr <;> simp at hr
  subst hr
  obtain ⟨ents, h1, h2⟩ := t
  exact ⟨ents, h1, h2.pure hz hp⟩
 case siter => cases hr; exact t
 case miter m since seen stepped =>
  simp only [ObjRel] at t
  obtain ⟨h0, m', h1, h2⟩ := t
  cases m with
  | none => cases hr; exact ⟨h0, m', h1, h2⟩
  | some id =>
   simp only at hr
   split at hr
   ·rename_i j hj
    cases hr
    obtain ⟨B', hB, e⟩ := h2
    exact ⟨h0, m', h1, B', (h.m id j hj).trans hB, e⟩
   ·cases hr
 case loop => cases hr
 case dfd => cases hr; exact t
 case dfd0 => cases hr; exact t
 case giv cells =>
  split at hr
  ·rename_i cs hc
   cases hr
   have hl := ZA hc
   simp only [ObjRel] at t ⊢
   obtain ⟨c, e, fr, h1, h2, h3⟩ := t
   exact ⟨c, e, fr, h1, by rw [hl]; exact h2, by rw [hl]; exact uV h hc h3⟩
  ·cases hr
 case app e cells =>
  cases hp : xz cells <;> rw [hp] at hr <;> simp at hr
  subst hr
  obtain ⟨c, fr, h1, h2, h3, h4, h5⟩ := t
  exact ⟨c, fr, h1, h2, h3, VRL.pure hz _ _ hp h4, h5⟩
end
noncomputable def tmL : List (Nat × AV) → Trie AV
 | [] => .leaf
 | p :: r => (tmL r).set p.1 p.2
noncomputable def osT : Nat → List (Option AObj) → Trie AObj
 | _, [] => .leaf
 | n, o :: r => match o with
  | some o => (osT (n + 1) r).set n o
  | none => osT (n + 1) r
noncomputable def H (os : List (Option AObj)) (m : Nat) (b : Bool) : St := { objs := osT 0 os, next := os.length, wm := m, hide := [], only := none, md := b }
def getO : List (Option AObj) → Nat → Option AObj
 | [], _ => none
 | o :: r, i => if i = 0 then o else getO r (i - 1)
theorem zzg : ∀ (l : List (Option AObj)) (n i : Nat), (osT n l).get i = if n ≤ i then getO l (i - n) else none
 | [], n, i => by simp [osT, Trie.get, getO]
 | o :: r, n, i => by
  have ih := zzg r (n + 1) i
  have key : (if n ≤ i then getO (o :: r) (i - n) else none) = if i = n then o else (if n + 1 ≤ i then getO r (i - (n + 1)) else none) := by
   by_cases h1 : i = n
   ·subst h1; simp [getO]
   ·by_cases h2 : n + 1 ≤ i
    ·rw [if_neg h1, if_pos h2, if_pos (by omega)]
     simp only [getO]; rw [if_neg (by omega), show i - n - 1 = i - (n + 1) by omega]
    ·rw [if_neg h1, if_neg h2, if_neg (by omega)]
  rw [key]
  cases o with
  | none =>
   simp only [osT]; rw [ih]
   by_cases h1 : i = n
   ·rw [if_pos h1, if_neg (by omega)]
   ·rw [if_neg h1]
  | some o =>
   simp only [osT]; rw [Trie.get_set]
   by_cases h1 : i = n
   ·rw [if_pos h1, if_pos h1]
   ·rw [if_neg h1, if_neg h1, ih]
theorem ph (os : List (Option AObj)) (m : Nat) (b : Bool) (i : Nat) : (H os m b).objs.get i = getO os i := by
 show (osT 0 os).get i = _
 rw [zzg, if_pos (Nat.zero_le _), Nat.sub_zero]
theorem Xx (os : List (Option AObj)) (m : Nat) (b : Bool) (i : Nat) : (H os m b).get i = getO os i := by
 rw [← ph os m b i]; simp [St.get, H, hid]
theorem Zo : ∀ (l : List (Option AObj)) (i : Nat), getO l i = (l[i]?).getD none
 | [], i => by simp [getO]
 | o :: r, i => by
  cases i with
  | zero => simp [getO]
  | succ i => simp [getO, Zo r i]
theorem Zp {l : List (Option AObj)} {i : Nat} (h : getO l i = some o) : i < l.length := by
 rw [Zo] at h
 by_cases hl : i < l.length
 ·exact hl
 ·rw [z6 (by omega)] at h; simp at h
theorem H_wf (os : List (Option AObj)) (m : Nat) (b : Bool) : Wf (H os m b) := ⟨fun id o h => by rw [ph] at h; exact Zp h, fun p hp => by cases hp⟩
noncomputable def gcTm (ρ : Nat → Option Nat) (tm : Trie AV) : List Nat → Option (List (Nat × AV))
 | [] => some []
 | i :: r => match tm.get i with
  | some v => match renV ρ v with
   | some v => match gcTm ρ tm r with
    | some l => some ((i, v) :: l)
    | none => none
   | none => none
  | none => none
def gcDf (ρ : Nat → Option Nat) : List Nat → Option (List Nat)
 | [] => some []
 | d :: r => match ρ d, gcDf ρ r with
  | some d, some r => some (d :: r)
  | _, _ => none
noncomputable def gcB1 (wk : Bool) (b s : St) (M : Nat) (ρ : Nat → Option Nat) (i : Nat) : Option (Option AObj) :=
 bif M.testBit i then match s.get i with
  | some o => match renO ρ o with
   | some o => some (some (wkO wk o))
   | none => none
  | none => some none
 else some (b.get i)
noncomputable def gcB (wk : Bool) (b s : St) (M : Nat) (ρ : Nat → Option Nat) : Nat → Nat → Option (List (Option AObj))
 | _, 0 => some []
 | i, k + 1 => match gcB1 wk b s M ρ i, gcB wk b s M ρ (i + 1) k with
  | some o, some l => some (o :: l)
  | _, _ => none
noncomputable def gcK (s : St) (ρ : Nat → Option Nat) : List Nat → Option (List (Option AObj))
 | [] => some []
 | id :: r => match s.get id with
  | some o => match renO ρ o, gcK s ρ r with
   | some o, some l => some (some o :: l)
   | _, _ => none
  | none => none
def Yp (n0 : Nat) : List Nat → Bool
 | [] => true
 | k :: r => Nat.ble n0 k && !memN k r && Yp n0 r
noncomputable def gcF (wk : Bool) (b : St) (M : Nat) (keep live : List Nat) (md : Bool) (fr : Fr) (s : St) : Option (Fr × St) :=
 bif Yp b.next keep && za (Nat.lor (wd s.wm b.next) M) M then
  match gcTm (rho b.next keep) fr.tm live, gcDf (rho b.next keep) fr.df, gcB wk b s M (rho b.next keep) 0 b.next, gcK s (rho b.next keep) keep with
  | some l, some d, some o1, some o2 => some ({ tm := tmL l, df := d }, H (o1 ++ o2) M md)
  | _, _, _, _ => none
 else none
theorem Ws : ∀ {l : List Nat} {id j k : Nat}, Vs l id j = some k → j ≤ k ∧ l[k - j]? = some id
 | [], _, _, _, h => by simp [Vs] at h
 | a :: r, id, j, k, h => by
  simp only [Vs] at h
  cases hb : za a id with
  | true =>
   rw [hb] at h; simp only [cond_true, zy] at h; subst h
   rw [xF] at hb; subst hb
   exact ⟨Nat.le_refl _, by simp⟩
  | false =>
   rw [hb] at h; simp only [cond_false] at h
   obtain ⟨h1, h2⟩ := Ws h
   refine ⟨by omega, ?_⟩
   rw [show k - j = (k - (j + 1)) + 1 by omega]; simpa using h2
theorem KP {n : Nat} : ∀ {l : List Nat}, memN n l = true ↔ n ∈ l
 | [] => by simp [memN]
 | m :: r => by
  simp only [memN]
  cases hb : za n m with
  | true => rw [xF] at hb; subst hb; simp
  | false =>
   have : n ≠ m := fun e => by rw [xF.2 e] at hb; cases hb
   simp [KP (l := r), this]
theorem VL {n0 : Nat} : ∀ {l : List Nat}, Yp n0 l = true → (∀ k ∈ l, n0 ≤ k) ∧ l.Nodup
 | [], _ => ⟨fun _ h => (by cases h), List.nodup_nil⟩
 | k :: r, h => by
  simp only [Yp, zm, xJ, Bool.not_eq_true'] at h
  obtain ⟨h1, h2⟩ := VL h.2
  refine ⟨fun j hj => ?_, List.nodup_cons.2 ⟨fun hm => ?_, h2⟩⟩
  ·rcases List.mem_cons.1 hj with rfl | hj
   ·exact h.1.1
   ·exact h1 j hj
  ·have h9 := h.1.2; rw [KP.2 hm] at h9; cases h9
theorem Pv {wk : Bool} {b s : St} {M : Nat} {ρ : Nat → Option Nat} : ∀ {k i : Nat} {l : List (Option AObj)}, gcB wk b s M ρ i k = some l → l.length = k ∧ ∀ j, j < k → gcB1 wk b s M ρ (i + j) = some (getO l j)
 | 0, i, l, h => by simp only [gcB, zy] at h; subst h; exact ⟨rfl, fun j hj => by omega⟩
 | k + 1, i, l, h => by
  simp only [gcB] at h
  split at h
  ·rename_i o l' h1 h2
   cases h
   obtain ⟨h3, h4⟩ := Pv h2
   refine ⟨by simp [h3], fun j hj => ?_⟩
   cases j with
   | zero => simpa [getO] using h1
   | succ j => rw [show i + (j + 1) = i + 1 + j by omega, h4 j (by omega)]; simp [getO]
  ·cases h
theorem Pw {s : St} {ρ : Nat → Option Nat} : ∀ {l : List Nat} {os : List (Option AObj)}, gcK s ρ l = some os → os.length = l.length ∧ ∀ j o, getO os j = some o → ∃ id o', l[j]? = some id ∧ s.get id = some o' ∧ renO ρ o' = some o
 | [], os, h => by simp only [gcK, zy] at h; subst h; exact ⟨rfl, fun j o h => by simp [getO] at h⟩
 | id :: r, os, h => by
  simp only [gcK] at h
  split at h
  ·rename_i o hg
   split at h
   ·rename_i o1 l1 h1 h2
    cases h
    obtain ⟨h3, h4⟩ := Pw h2
    refine ⟨by simp [h3], fun j x hx => ?_⟩
    cases j with
    | zero => simp only [getO, if_true, zy] at hx; subst hx; exact ⟨id, o, rfl, hg, h1⟩
    | succ j =>
     simp only [getO, Nat.add_one_sub_one] at hx
     rw [if_neg (by omega)] at hx
     obtain ⟨id', o', q1, q2, q3⟩ := h4 j x hx
     exact ⟨id', o', by simpa using q1, q2, q3⟩
   ·cases h
  ·cases h
theorem hP (l m : List (Option AObj)) (i : Nat) : getO (l ++ m) i = if i < l.length then getO l i else getO m (i - l.length) := by
 rw [Zo, Zo, Zo]
 by_cases h : i < l.length
 ·rw [if_pos h, List.getElem?_append_left h]
 ·rw [if_neg h, List.getElem?_append_right (by omega)]
theorem ZK (i : Nat) (v : AV) (l : List (Nat × AV)) (j : Nat) : (tmL ((i, v) :: l)).get j = if j = i then some v else (tmL l).get j := by
 show ((tmL l).set i v).get j = _
 rw [Trie.get_set]
theorem GF (j : Nat) : (tmL []).get j = none := rfl
theorem J4 {ρ : Nat → Option Nat} {tm : Trie AV} : ∀ {L : List Nat} {l : List (Nat × AV)}, gcTm ρ tm L = some l → ∀ i v, (tmL l).get i = some v → ∃ v0, tm.get i = some v0 ∧ renV ρ v0 = some v
 | [], l, h, i, v, hv => by simp only [gcTm, zy] at h; subst h; rw [GF] at hv; cases hv
 | k :: r, l, h, i, v, hv => by
  simp only [gcTm] at h
  split at h
  ·rename_i v0 hv0
   split at h
   ·rename_i v1 hv1
    split at h
    ·rename_i l1 hl1
     cases h
     rw [ZK] at hv
     by_cases e : i = k
     ·rw [if_pos e] at hv; cases hv; subst e; exact ⟨v0, hv0, hv1⟩
     ·rw [if_neg e] at hv; exact J4 hl1 i v hv
    ·cases h
   ·cases h
  ·cases h
theorem J3 {φ φ1 : Phi} {ρ : Nat → Option Nat} (h : RenOk φ φ1 ρ) : ∀ {l l1 : List Nat} {ds : List Deferred}, gcDf ρ l = some l1 → DfRel φ l ds → DfRel φ1 l1 ds
 | [], l1, ds, hr, t => by simp only [gcDf, zy] at hr; subst hr; exact t
 | d :: r, l1, ds, hr, t => by
  simp only [gcDf] at hr
  split at hr
  ·rename_i d1 r1 h1 h2
   cases hr
   obtain ⟨B, ds', hB, rfl, hd⟩ := t
   exact ⟨B, ds', (h.m d d1 h1).trans hB, rfl, J3 h h2 hd⟩
  ·cases hr
theorem Yn : ∀ {l : List Nat} (_ : l.Nodup) {i j x : Nat} (_ : l[i]? = some x) (_ : l[j]? = some x), i = j
 | [], _, i, j, x, hi, _ => by simp at hi
 | a :: r, h, i, j, x, hi, hj => by
  obtain ⟨h1, h2⟩ := List.nodup_cons.1 h
  cases i with
  | zero => cases j with
   | zero => rfl
   | succ j =>
    simp only [yK, zy, yO] at hi hj
    subst hi; exact absurd (yS hj) h1
  | succ i => cases j with
   | zero =>
    simp only [yK, zy, yO] at hi hj
    subst hj; exact absurd (yS hi) h1
   | succ j =>
    simp only [yO] at hi hj
    rw [Yn h2 hi hj]
theorem Z6 {C : Cx} (ok : CxOk C) {wk : Bool} {keep live : List Nat} {md : Bool} {fr fr1 : Fr} {s1 : St} (h : gcF wk C.s C.M keep live md fr s = some (fr1, s1)) {φ : Phi} {a : Act} (ha : At C φ s w) (hfr : FrRel φ C.nt fr a) : ∃ φ1, At C φ1 s1 w ∧ FrRel φ1 C.nt fr1 a ∧ φ1.z = φ.z := by
 unfold gcF at h
 cases hb : Yp C.s.next keep && za (Nat.lor (wd s.wm C.s.next) C.M) C.M with
 | false => rw [hb] at h; simp at h
 | true =>
 rw [hb] at h; simp only [cond_true] at h
 rw [zm, xF] at hb
 obtain ⟨hk, hm⟩ := hb
 obtain ⟨hk1, hk2⟩ := VL hk
 split at h
 case h_2 => cases h
 rename_i l d o1 o2 hl hd h1 h2
 cases h
 obtain ⟨b1, b2⟩ := Pv h1
 obtain ⟨c1, c2⟩ := Pw h2
 obtain ⟨n0, hn0⟩ : ∃ n0, n0 = C.s.next := ⟨_, rfl⟩
 rw [← hn0] at hk1 h1 h2 hl hd b1 b2 c2
 have hle : n0 ≤ s.next := by rw [hn0]; exact ha.st.ext.next
 have hwfC := ok.wf
 have hwfs := ha.wf ok
 have hsh : s.hide = [] := ha.st.ext.hide.trans ok.hide
 have hso : s.only = none := ha.st.ext.only.trans ok.only
 have hget : ∀ id, s.get id = s.objs.get id := fun id => by unfold St.get; rw [hso, hsh]; rfl
 have hgetC : ∀ id, C.s.get id = C.s.objs.get id := fun id => by unfold St.get; rw [ok.only, ok.hide]; rfl
 have hbits : ∀ i, i < n0 → s.wm.testBit i = true → C.M.testBit i = true := fun i hi hb => by
  have : (Nat.lor (wd s.wm C.s.next) C.M).testBit i = true := by
   show (wd s.wm C.s.next ||| C.M).testBit i = true
   rw [Nat.testBit_or, ki, hb]; simp [← hn0, hi]
  rw [hm] at this; exact this
 have hunb : ∀ i, i < n0 → C.M.testBit i = false → s.wm.testBit i = false := fun i hi hb => by
  cases hx : s.wm.testBit i with
  | false => rfl
  | true => rw [hbits i hi hx] at hb; cases hb
 obtain ⟨φ1, hφ1⟩ : ∃ φ1 : Phi, φ1 = ⟨fun j => if j < n0 then φ j else match keep[j - n0]? with | some id => φ id | none => none, φ.z⟩ := ⟨_, rfl⟩
 have p1 : ∀ j, j < n0 → φ1 j = φ j := fun j hj => by rw [hφ1]; exact if_pos hj
 have p2 : ∀ j, n0 ≤ j → φ1 j = match keep[j - n0]? with | some id => φ id | none => none := fun j hj => by rw [hφ1]; exact if_neg (by omega)
 have pz : φ1.z = φ.z := by rw [hφ1]
 have hren : RenOk φ φ1 (rho n0 keep) := ⟨fun id j hj => by
  unfold rho at hj
  cases hlt : zd id n0 with
  | true => rw [hlt] at hj; simp only [cond_true, zy] at hj; subst hj; exact p1 id (xR.1 hlt)
  | false =>
   rw [hlt] at hj; simp only [cond_false] at hj
   obtain ⟨q1, q2⟩ := Ws hj
   rw [p2 j q1, q2], pz⟩
 have hlen : (o1 ++ o2).length = n0 + keep.length := by rw [List.length_append, b1, c1]
 have src : ∀ id o, (H (o1 ++ o2) C.M md).get id = some o → ∃ id' o', s.get id' = some o' ∧ φ1 id = φ id' ∧ qh o = qh o' ∧ (∀ B z, SepOf o' B z → SepOf o B z) ∧ ((id < n0 ∧ id' = id) ∨ (n0 ≤ id ∧ keep[id - n0]? = some id')) ∧ (∀ B, φ id' = some B → ObjRel C.P φ w o' B → ObjRel C.P φ1 w o B) := by
  intro id o ho
  rw [Xx, hP, b1] at ho
  by_cases hid : id < n0
  ·rw [if_pos hid] at ho
   have hb1 := b2 id hid
   rw [yx] at hb1
   unfold gcB1 at hb1
   cases hM : C.M.testBit id with
   | true =>
    rw [hM] at hb1; simp only [cond_true] at hb1
    split at hb1
    ·rename_i o' ho'
     split at hb1
     ·rename_i o'' ho''
      rw [ho] at hb1; cases hb1
      obtain ⟨g1, g2⟩ := uW ho''
      obtain ⟨g3, g4⟩ := zwf wk o''
      exact ⟨id, o', ho', p1 id hid, g3.trans g1, fun B z t => g4 B z (g2 B z t), .inl ⟨hid, rfl⟩, fun B _ t => zwg wk (pR hren ho'' t)⟩
     ·cases hb1
    ·rw [ho] at hb1; cases hb1
   | false =>
    rw [hM] at hb1; simp only [cond_false, zy] at hb1
    rw [ho] at hb1
    have hs : s.get id = some o := by
     rw [hget, ha.st.ext.keep id (by omega) (hunb id hid hM), ← hgetC]; exact hb1
    refine ⟨id, o, hs, p1 id hid, rfl, fun _ _ t => t, .inl ⟨hid, rfl⟩, fun B hB t => ?_⟩
    obtain ⟨B', hB', t'⟩ := ok.rel.obj id o hb1
    have hsm : φ id = C.φ id := ha.st.same id (.inl (by omega))
    have : B = B' := by rw [hsm, hB'] at hB; cases hB; rfl
    subst this
    have hsub : Sub C.φ φ1 := ⟨fun i Bi hi => by
     have hlt : i < n0 := by
      apply Nat.lt_of_not_le; intro hle; rw [ok.fresh i (by omega)] at hi; cases hi
     rw [p1 i hlt, ha.st.same i (.inl (by omega))]; exact hi, fun b i v hv => by rw [pz]; exact ha.st.zsub b i v hv⟩
    refine t'.keep hsub (ha.st.frame _ (ok.rel.rng id B hB') fun id2 o2 B2 q1 q2 q3 => ?_)
    rcases ok.rel.inj id2 id o2 o B2 B q1 hb1 q2 hB' q3 with e | e
    ·rw [e]; exact hunb id hid hM
    ·have hid2 : id2 < n0 := by rw [hn0]; exact hwfC.lt id2 o2 (xI q1)
     have hgv := ok.rel.old id2 o2 B2 q1 q2 e
     cases hM2 : C.M.testBit id2 with
     | false => exact hunb id2 hid2 hM2
     | true =>
      obtain ⟨_, o3, q5, q6⟩ := ok.mask id2 hM2
      rw [← hgetC, q1] at q5; cases q5; rw [hgv] at q6; cases q6
  ·rw [if_neg hid] at ho
   obtain ⟨id', o', q1, q2, q3⟩ := c2 _ _ ho
   obtain ⟨g1, g2⟩ := uW q3
   exact ⟨id', o', q2, by rw [p2 id (by omega), q1], g1, g2, .inr ⟨by omega, q1⟩, fun B _ t => pR hren q3 t⟩
 refine ⟨φ1, ⟨⟨⟨?_, ok.wm, ok.hide.symm, ok.only.symm, ?_, ?_, fun _ => H_wf _ _ _, ?_, ?_⟩, ⟨ha.st.rel.base, ?_, ?_, ?_, ?_, ?_, ?_⟩, ?_, ha.st.size, ?_, ?_, ?_, ?_⟩, ?_⟩, ⟨?_, hfr.size, J3 hren hd hfr.df⟩, pz⟩
 ·show C.s.next ≤ (o1 ++ o2).length
  omega
 ·intro id hid hb
  have hid' : id < n0 := by omega
  have hb' : C.M.testBit id = false := hb
  rw [ph, hP, b1, if_pos hid']
  have hb1 := b2 id hid'
  rw [yx] at hb1
  unfold gcB1 at hb1
  rw [hb'] at hb1; simp only [cond_false, zy] at hb1
  rw [← hb1, hgetC]
 ·intro id o hid ho
  have hid' : id < n0 := by omega
  cases hM : C.M.testBit id with
  | true => obtain ⟨_, o', h3, _⟩ := ok.mask id hM; exact ⟨o', h3⟩
  | false =>
   rw [ph, hP, b1, if_pos hid'] at ho
   have hb1 := b2 id hid'
   rw [yx] at hb1
   unfold gcB1 at hb1
   rw [hM] at hb1; simp only [cond_false, zy] at hb1
   exact ⟨o, by rw [← hgetC, hb1]; exact ho⟩
 ·intro id hid hb
  right
  unfold seen; rw [ok.only, ok.hide]; rfl
 ·intro id o hid ho hg hb
  obtain ⟨_, o', h3, h4⟩ := ok.mask id hb
  rw [ho] at h3; cases h3; rw [hg] at h4; cases h4
 ·intro id o ho
  obtain ⟨id', o', q1, q2, _, _, _, q5⟩ := src id o ho
  obtain ⟨B, hB, t⟩ := ha.st.rel.obj id' o' q1
  exact ⟨B, q2.trans hB, q5 B hB t⟩
 ·intro id B hB
  by_cases hid : id < n0
  ·rw [p1 id hid] at hB; exact ha.st.rel.rng id B hB
  ·rw [p2 id (by omega)] at hB
   split at hB
   ·rename_i k _; exact ha.st.rel.rng k B hB
   ·cases hB
 ·intro id o B ho hB hlt
  obtain ⟨id', o', q1, q2, q3, _, _, _⟩ := src id o ho
  rw [q3]; exact ha.st.rel.old id' o' B q1 (by rw [← q2]; exact hB) hlt
 ·intro i j oi oj Bi Bj hi hj hBi hBj e
  obtain ⟨i', oi', q1, q2, _, _, q4, _⟩ := src i oi hi
  obtain ⟨j', oj', r1, r2, _, _, r4, _⟩ := src j oj hj
  rcases ha.st.rel.inj i' j' oi' oj' Bi Bj q1 r1 (by rw [← q2]; exact hBi) (by rw [← r2]; exact hBj) e with e' | e'
  ·left
   rcases q4 with ⟨q4, q5⟩ | ⟨q4, q5⟩ <;> rcases r4 with ⟨r4, r5⟩ | ⟨r4, r5⟩
   ·omega
   ·have := hk1 j' (yS r5); omega
   ·have := hk1 i' (yS q5); omega
   ·subst e'
    have := Yn hk2 q5 r5
    omega
  ·exact .inr e'
 ·intro b i v hv
  rw [pz] at hv; exact ha.st.rel.frz b i v hv
 ·intro id o B ho hB
  obtain ⟨id', o', q1, q2, _, q3, _, _⟩ := src id o ho
  rw [pz]; exact q3 B _ (ha.st.rel.sep id' o' B q1 (by rw [← q2]; exact hB))
 ·intro id hid
  have hid' : id < n0 ∨ (o1 ++ o2).length ≤ id := by rw [hn0]; exact hid
  rcases hid' with hid' | hid'
  ·rw [p1 id hid', ha.st.same id (.inl (by omega))]
  ·rw [p2 id (by omega), z6 (by omega)]
   exact (ok.fresh id (by omega)).symm
 ·intro b hb H
  refine ha.st.frame b hb fun id o B q1 q2 q3 => ?_
  have hid : id < n0 := by rw [hn0]; exact hwfC.lt id o (xI q1)
  exact hunb id hid (H id o B q1 q2 q3)
 ·intro id B h3 h4 hB
  rw [p2 id (by omega)] at hB
  split at hB
  ·rename_i k hk
   have hkn := hk1 k (yS hk)
   have hks : k < s.next := by
    apply Nat.lt_of_not_le; intro hle; rw [ha.fresh k hle] at hB; cases hB
   rcases ha.st.own k B (by omega) hks hB with h5 | ⟨id0, o0, B0, g0, p0, e0, m0⟩
   ·exact .inl h5
   ·exact .inr ⟨id0, o0, B0, g0, p0, e0, hbits id0 (by rw [hn0]; exact hwfC.lt id0 o0 (xI g0)) m0⟩
  ·cases hB
 ·intro b i v hv; rw [pz]; exact ha.st.zsub b i v hv
 ·intro b i v hv
  rw [pz] at hv
  rcases ha.st.zown b i v hv with h5 | h5 | ⟨id0, o0, B0, g0, p0, e0, m0⟩
  ·exact .inl h5
  ·exact .inr (.inl h5)
  ·exact .inr (.inr ⟨id0, o0, B0, g0, p0, e0, hbits id0 (by rw [hn0]; exact hwfC.lt id0 o0 (xI g0)) m0⟩)
 ·intro id hid
  have hid' : (o1 ++ o2).length ≤ id := hid
  rw [p2 id (by omega), z6 (by omega)]
 ·intro i v hv
  obtain ⟨v0, h3, h4⟩ := J4 hl i v hv
  exact gs hren h4 (hfr.tm i v0 h3)
theorem zue {C : Cx} (ok : CxOk C) {wk : Bool} {keep live : List Nat} {md : Bool} {fr fr1 : Fr} {s1 : St} (h : gcF wk C.s C.M keep live md fr s = some (fr1, s1)) : Gc C fr s fr1 s1 := fun _ _ _ ha hfr => by
 obtain ⟨φ1, h1, h2, _⟩ := Z6 ok h ha hfr
 exact ⟨φ1, h1, h2⟩
def Fin (E : Env) (c : St) (M : Nat) (res : List RV) (v : AV) (c' : St) (r : Res) (fr : Fr) (s : St) : Prop :=
 (r = .norm ∨ r = .ret) ∧ ∃ s2 vs v0 fr1, x9 s fr.df = some s2 ∧ resV E.globs fr.tm s2 res = some vs ∧ frzA c.next (qi vs) = some v0 ∧ v = wkV v0 ∧ gcF true c M [] [] c.md { tm := .leaf, df := [] } s2 = some (fr1, c')
theorem VF {C : Cx} (ok : CxOk C) {F : Fence} {fn : Func} {tmps : Array Value} {R : Ending → World → Prop} : ∀ {df : List Nat} {ds : List Deferred} {φ : Phi} {s s' : St} {w : World}, x9 s df = some s' → DfRel φ df ds → At C φ s w →
  (∀ w', At C φ s' w' → LeavesIn F n C.P fn tmps R [] .returning w') → LeavesInM F n C.P fn tmps R ds .returning w := fun {df ds φ s s' w} h hd ha hk =>
 li (w0 := C.w0) h hd ha.st.rel (ha.wf ok) fun w' k => hk w' (ha.step ok k)
theorem Ll (hO : OrcOk P w0 O) (hm : P.follows .mixedOrders = true) (hG : xK E.globs w0) (hE : jG P E) {f : Nat} {F : IFunc} {args : List AV} {c : St} {c' : St} (M : Nat)
  (hF : E.funs.get f = some F) (hle : args.length ≤ F.ntmps) (hh : c.hide = []) (ho : c.only = none) (hw : c.wm = 0) (hM : ∀ i, M.testBit i = true → i < c.next ∧ ∃ o, c.objs.get i = some o ∧ qh o = false)
  (H : ∀ C : Cx, CxOk C → C.E = E → C.O = O → C.rd = none → C.s = c → C.M = M → Tri C F.body { tm := wH .leaf 0 args, df := [] } c (Fin E c M F.res v c')) : SC P w0 f args c v c' := by
 obtain ⟨fn, hfn, hcf⟩ := hE f F hF
 unfold Ju at hcf
 split at hcf
 ·cases hcf
 ·rename_i cd hbody
  split at hcf
  ·rename_i ib rs hb hrs
   cases hnm : (fn.name != "runtime.NumGoroutine") with
   | false => rw [hnm] at hcf; simp at hcf
   | true =>
    rw [hnm] at hcf; simp only [cond_true, zy] at hcf; subst hcf
    have hnm' : (fn.name == "runtime.NumGoroutine") = false := by simpa [bne] using hnm
    refine ⟨⟨fn, hfn, by rw [hbody]; rfl, hnm'⟩, ?_⟩
    intro φ w xs r hwf hf hx Fe n hFe
    have ok : CxOk ⟨P, w0, E, O, fn.ntmps, none, φ, c, w, M⟩ :=
     ⟨hO, hm, hG, hE, r, hwf, hf, hh, ho, fun i hi => by rw [show (⟨P, w0, E, O, fn.ntmps, none, φ, c, w, M⟩ : Cx).s.wm = 0 from hw] at hi; simp at hi, hM⟩
    have hat : At ⟨P, w0, E, O, fn.ntmps, none, φ, c, w, M⟩ φ c w := ⟨Step.refl r, hf⟩
    have hxl : xs.length ≤ fn.ntmps := by rw [← VRL.length hx]; exact hle
    have hfr : FrRel φ fn.ntmps { tm := wH .leaf 0 args, df := [] } { tmps := xs.toArray ++ Array.replicate (fn.ntmps - xs.toArray.size) undef, defers := [] } :=
     ⟨lv hx _, by simp; omega, rfl⟩
    have hFp : Wide Fe.plain := ⟨hFe.fn, hFe.depth, hFe.alive⟩
    have ht := H _ ok rfl rfl rfl rfl rfl
    have key : CallsIn Fe.plain n P f xs.toArray w (RetQ P w0 φ c w v c') := by
     refine callsIn_of_wp_marks hfn hbody (hFe.fn f) (wpIn_mono (ht cd hb φ w _ hat hfr Fe.plain n hFp (fun _ => rfl)) ?_)
     rintro e a' w' ⟨res, fr', s1, φ1, rfl, k1, k2, hor, s2, vs, v0, fr1, q1, q2, q3, hvv, q4⟩
     have hleave : LeavesInM Fe.plain n P fn a'.tmps (RetQ P w0 φ c w v c') a'.defers .returning w' := by
      refine VF ok q1 k2.df k1 fun w2 k3 => ?_
      have hre : resE E.globs fr'.tm s2 rs = some (qi vs, s2) := by unfold resE; rw [q2]
      have hrel : Rel P w0 φ1 s2.get w2 := k3.st.rel
      obtain ⟨_, x, k4, k5⟩ := kx hG hrel k2.tm hrs hre
      obtain ⟨φ2, g1, _, gz⟩ := Z6 ok (fr := { tm := .leaf, df := [] }) q4 k3 (a := { tmps := a'.tmps, defers := [] }) ⟨fun i v hv => by simp [Trie.get] at hv, k2.size, rfl⟩
      refine ⟨x, k4, φ2, x, rfl, g1.st, ?_⟩
      refine hvv ▸ lX (pC (φ := φ1) (φ2 := φ2) (fun b o u hu => by rw [gz]; exact hu) (fun id hid => ?_) q3 k5)
      exact (g1.st.same id (.inl hid)).trans (k3.st.same id (.inl hid)).symm
     rcases hor with rfl | rfl
     ·exact hleave
     ·exact hleave
    exact key
  ·cases hcf
def Phi.one (φ : Phi) (B : Blk) : Phi := ⟨fun i => if i = 0 then some B else none, φ.z⟩
theorem Phi.one_0 (φ : Phi) (B : Blk) : φ.one B 0 = some B := by show (if (0 : Nat) = 0 then some B else none) = _; rw [if_pos rfl]
theorem Phi.one_s (φ : Phi) (B : Blk) {i : Nat} (h : i ≠ 0) : φ.one B i = none := by show (if i = 0 then some B else none) = _; rw [if_neg h]
theorem SC.up1 {f : Nat} {r : List AV} {e : Nat} {cells cells' : List AV} {b b' : Bool} {M : Nat} (h : SC P w0 f (.ptr 0 0 :: r) (H [some (.row e cells false false)] 0 b) v (H [some (.row e cells' false false)] M b'))
  (hp1 : xz r = true) (hp2 : xz cells = true) (hp3 : xz cells' = true) (hp4 : xG v = true) {cells0 : List AV} (hs : s.get id = some (.row e cells0 false false)) (hc0 : cells = wkL cells0) : SC P w0 f (.ptr id 0 :: r) s v (s.put id (.row e cells' false false)) := by
 refine ⟨h.1, fun φ w xs rl hwf hf hx F k hF => ?_⟩
 obtain ⟨B, hB, ht⟩ := rl.obj id _ hs
 have hnew := rl.new hs hB rfl
 have g0 : ∀ i o, (H [some (.row e cells false false)] 0 b).get i = some o → i = 0 ∧ o = .row e cells false false := fun i o ho => by
  rw [Xx] at ho
  cases i with
  | zero => simp [getO] at ho; exact ⟨rfl, ho.symm⟩
  | succ i => simp [getO] at ho
 have hzs : ∀ b o v, φ.z b o = some v → φ.z b o = some v := fun _ _ _ h => h
 have r0 : Rel P w0 (φ.one B) (H [some (.row e cells false false)] 0 b).get w := by
  refine ⟨rl.base, fun i o ho => ?_, fun i B' hB' => ?_, fun i o B' ho hB' hlt => ?_, fun i j o o' B1 B2 h1 h2 _ _ _ => .inl ?_, rl.frz, fun i o B' ho hB' => ?_⟩
  ·obtain ⟨rfl, rfl⟩ := g0 i o ho
   refine ⟨B, Phi.one_0 φ B, ?_⟩
   simp only [ObjRel] at ht ⊢
   obtain ⟨c, fr, h1, h2, h3, h4, h5, h6⟩ := ht
   have hl : cells.length = cells0.length := by rw [hc0, ZQ]
   exact ⟨c, fr, h1, h2, by rw [hl]; exact h3, by rw [hl]; exact h4, VRL.pure (φ := φ) (φ' := φ.one B) (fun _ _ _ t => t) _ _ hp2 (by rw [hl, hc0]; exact qU h5), h6⟩
  ·have hB2 : (if i = 0 then some B else none) = some B' := hB'
   by_cases hi : i = 0
   ·rw [if_pos hi] at hB2; cases hB2; exact rl.rng id B hB
   ·rw [if_neg hi] at hB2; cases hB2
  ·obtain ⟨rfl, rfl⟩ := g0 i o ho
   have hB2 : (if (0 : Nat) = 0 then some B else none) = some B' := hB'
   rw [if_pos rfl] at hB2; cases hB2; omega
  ·exact (g0 i o h1).1.trans (g0 j o' h2).1.symm
  ·obtain ⟨rfl, rfl⟩ := g0 i o ho
   have hB2 : (if (0 : Nat) = 0 then some B else none) = some B' := hB'
   rw [if_pos rfl] at hB2; cases hB2; exact fun i => (rl.sep id _ B hs hB : ∀ i, φ.z B.b i = none) i
 have hx0 : VRL (φ.one B) (.ptr 0 0 :: r) xs := by
  simp only [VRL] at hx ⊢
  obtain ⟨y, ys, rfl, hy, hys⟩ := hx
  refine ⟨y, ys, rfl, ?_, VRL.pure (φ := φ) (φ' := φ.one B) (fun _ _ _ t => t) _ _ hp1 hys⟩
  simp only [VR] at hy ⊢
  obtain ⟨B', hB', e'⟩ := hy
  rw [hB] at hB'; cases hB'
  exact ⟨B, Phi.one_0 φ B, e'⟩
 have hcall := h.2 _ w xs r0 (H_wf _ _ _) (fun i hi => Phi.one_s φ B (by have : 1 ≤ i := hi; omega)) hx0 F k hF
 refine CallsIn.mono hcall ?_
 rintro e1 w1 ⟨φ1, x, rfl, k1, k2⟩
 have hsm : φ1 0 = some B := (k1.same 0 (.inl (by show 0 < 1; omega))).trans (Phi.one_0 φ B)
 have hfrm : ∀ b, b < w.heap.size → b ≠ B.b → w1.heap[b]? = w.heap[b]? := fun b hb hne => k1.frame b hb fun i o B' ho hB' hbe => by
  obtain ⟨rfl, rfl⟩ := g0 i o ho
  have hB2 : (if (0 : Nat) = 0 then some B else none) = some B' := hB'
  rw [if_pos rfl] at hB2; cases hB2; exact absurd hbe.symm hne
 have hz : ∀ b i u, φ1.z b i = some u → φ.z b i = some u ∨ w.heap.size ≤ b ∨ b = B.b := fun b i u hu => by
  rcases k1.zown b i u hu with h1 | h1 | ⟨id0, o0, B0, q1, q2, q3, _⟩
  ·exact .inl h1
  ·exact .inr (.inl h1)
  ·obtain ⟨rfl, rfl⟩ := g0 _ _ q1
   have hB2 : (if (0 : Nat) = 0 then some B else none) = some B0 := q2
   rw [if_pos rfl] at hB2; cases hB2; exact .inr (.inr q3.symm)
 have hget : ∀ i o, (s.put id (.row e cells' false false)).get i = some o → (i = id ∧ o = .row e cells' false false) ∨ (i ≠ id ∧ s.get i = some o) := fun i o ho => by
  have h1 := xI ho
  rw [show (s.put id (.row e cells' false false)).objs = s.objs.set id (.row e cells' false false) from rfl, Trie.get_set] at h1
  by_cases he : i = id
  ·rw [if_pos he] at h1; exact .inl ⟨he, by cases h1; rfl⟩
  ·rw [if_neg he] at h1
   refine .inr ⟨he, ?_⟩
   have := xZ ho
   rw [wZ (s := s) (s' := s.put id (.row e cells' false false)) rfl rfl] at this
   rw [qS, this]; exact h1
 have hne : ∀ i o B', i ≠ id → s.get i = some o → φ i = some B' → B'.b ≠ B.b := fun i o B' hi ho hB' heq => by
  rcases rl.inj i id o _ B' B ho hs hB' hB heq with h1 | h1
  ·exact hi h1
  ·omega
 have hsub : Sub φ (φ.zset φ1.z) := ⟨fun _ _ h => h, k1.zsub⟩
 have hold : ∀ i o B', i ≠ id → s.get i = some o → φ i = some B' → ∀ j, φ1.z B'.b j = φ.z B'.b j := fun i o B' hi ho hB' j => by
  have hn := hne i o B' hi ho hB'
  cases h1 : φ1.z B'.b j with
  | none =>
   cases h2 : φ.z B'.b j with
   | none => rfl
   | some u => have := k1.zsub B'.b j u h2; rw [h1] at this; cases this
  | some u =>
   rcases hz _ _ _ h1 with h2 | h2 | h2
   ·exact h2.symm
   ·have := rl.rng i B' hB'; omega
   ·exact absurd h2 hn
 have g1 : (H [some (.row e cells' false false)] M b').get 0 = some (.row e cells' false false) := by rw [Xx]; rfl
 refine ⟨φ.zset φ1.z, x, rfl, ⟨Xl s id _ _ (xI hs) (xZ hs) rfl, ⟨k1.rel.base, fun i o ho => ?_, fun i B' hB' => ?_, fun i o B' ho hB' hlt => ?_, fun i j o o' B1 B2 h1 h2 q1 q2 q3 => ?_, k1.rel.frz, fun i o B' ho hB' => ?_⟩, fun _ _ => rfl, k1.size, fun b hlt hq => ?_, (fun i _ h1 h2 => absurd h2 (by rw [kG]; omega)), k1.zsub, fun b i u hu => ?_⟩, VR.pure (φ := φ1) (φ' := φ.zset φ1.z) (fun _ _ _ h => h) _ _ hp4 k2⟩
 ·rcases hget i o ho with ⟨rfl, rfl⟩ | ⟨hi, hg⟩
  ·refine ⟨B, hB, ?_⟩
   obtain ⟨B', hB', t'⟩ := k1.rel.obj 0 _ g1
   rw [hsm] at hB'; cases hB'
   simp only [ObjRel] at t' ⊢
   obtain ⟨c, fr, h1, h2, h3, h4, h5, h6⟩ := t'
   exact ⟨c, fr, h1, h2, h3, h4, VRL.pure (φ := φ1) (φ' := φ.zset φ1.z) (fun _ _ _ t => t) _ _ hp3 h5, h6⟩
  ·obtain ⟨B', hB', t'⟩ := rl.obj i o hg
   exact ⟨B', hB', t'.keep hsub (hfrm _ (rl.rng i B' hB') (hne i o B' hi hg hB'))⟩
 ·have h1 : B'.b < w.heap.size := rl.rng i B' hB'
  have := k1.size; omega
 ·rcases hget i o ho with ⟨rfl, rfl⟩ | ⟨hi, hg⟩
  ·have hB2 : φ i = some B' := hB'
   rw [hB] at hB2; cases hB2; omega
  ·exact rl.old i o B' hg hB' hlt
 ·have f1 : ∃ y, s.get i = some y := by
   rcases hget i o h1 with ⟨rfl, rfl⟩ | ⟨_, g⟩
   ·exact ⟨_, hs⟩
   ·exact ⟨o, g⟩
  have f2 : ∃ y, s.get j = some y := by
   rcases hget j o' h2 with ⟨rfl, rfl⟩ | ⟨_, g⟩
   ·exact ⟨_, hs⟩
   ·exact ⟨o', g⟩
  obtain ⟨y, f1⟩ := f1
  obtain ⟨y', f2⟩ := f2
  exact rl.inj i j y y' B1 B2 f1 f2 q1 q2 q3
 ·rcases hget i o ho with ⟨rfl, rfl⟩ | ⟨hi, hg⟩
  ·have hB2 : φ i = some B' := hB'
   rw [hB] at hB2; cases hB2
   exact k1.rel.sep 0 _ B g1 hsm
  ·exact (rl.sep i o B' hg hB').congr (hold i o B' hi hg hB')
 ·refine hfrm b hlt fun heq => ?_
  have hq1 := hq id _ B hs hB heq.symm
  have hm : (s.put id (.row e cells' false false)).wm.testBit id = true := by show (mark s.wm id).testBit id = true; rw [wI]; simp
  rw [hm] at hq1; cases hq1
 ·rcases hz b i u hu with h1 | h1 | h1
  ·exact .inl h1
  ·exact .inr (.inl h1)
  ·refine .inr (.inr ⟨id, _, B, hs, hB, h1.symm, ?_⟩)
   show (mark s.wm id).testBit id = true
   rw [wI]; simp
end Go.Proofs.YthcmnajcjapjbaaGreatDoor.Ev

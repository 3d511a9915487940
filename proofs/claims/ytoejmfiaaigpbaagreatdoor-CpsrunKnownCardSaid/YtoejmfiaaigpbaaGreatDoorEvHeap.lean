/- Part of a verified evaluator of the model's code, generic over the program: a run of the evaluator that answers shows what the model's run answers. No conditions of its own. -/
import Derived.Test.YtoejmfiaaigpbaaGreatDoorEvRel
import Derived.CallsIn
namespace Go.Proofs.YtoejmfiaaigpbaaGreatDoor.Ev
open Go.RowKit (Below)

def TmRel (φ : Phi) (tm : Trie AV) (tmps : Array Value) : Prop := ∀ i v, tm.get i = some v → VR φ v (tmps.getD i undef)

def EntRel (φ : Phi) : List (AV × AV × Nat) → List MapEntry → Prop
  | [], es => es = []
  | p :: r, es => ∃ e es', es = e :: es' ∧ VR φ p.1 e.key ∧ VR φ p.2.1 e.val ∧ e.born = p.2.2 ∧ EntRel φ r es'

def LSt.conc : LSt → LoopState
  | .ready => .ready
  | .busy => .busy
  | .done => .done
  | .exhausted => .exhausted

def Res.code : Res → Code
  | .norm => .skip
  | .exit id => .exit id
  | .ret => .ret

structure LRel (P : Program) (φ : Phi) (st : LSt) (pend : Option Res) (tm : Trie AV) (ps : List Nat) (asg body : ICode) (d : Nat) (L : Loop) : Prop where
  state : L.state = st.conc
  pend : L.pending = pend.map Res.code
  params : L.params = ps.toArray
  asg : cC P L.tmps.size L.assign = some asg
  body : cC P L.tmps.size L.body = some body
  tm : TmRel φ tm L.tmps
  df : ∃ B, φ d = some B ∧ L.defers = B.b
  ps : ∀ p ∈ ps, p < L.tmps.size

/-- an abstract object, and the block in which it lies -/
def ObjRel (P : Program) (φ : Phi) (w : World) (o : AObj) (B : Blk) : Prop :=
  match o with
  | .row e cells ext fz => ∃ c fr, w.heap[B.b]? = some (.cells c e fr) ∧ c.size = B.o + B.tot ∧ cells.length ≤ B.tot ∧ (ext = false → cells.length = B.tot ∧ B.o = 0) ∧
      VRL φ cells ((c.toList.drop B.o).take cells.length) ∧ fr.1 ≤ fr.2 ∧ (fz = false → ∀ i, i < c.size → ¬ (fr.1 ≤ i ∧ i < fr.2))
  | .map es clock => ∃ ents, w.heap[B.b]? = some (.map ents clock) ∧ EntRel φ es ents.toList
  | .siter s pos => B.o = 0 ∧ ∃ bs, w.heap[B.b]? = some (.stringIter bs pos) ∧ nats bs = s
  | .miter m since seen stepped => B.o = 0 ∧ ∃ m', w.heap[B.b]? = some (.mapIter m' since seen.toArray stepped) ∧ (match m with
      | none => m' = none
      | some id => ∃ B', φ id = some B' ∧ m' = some B'.b)
  | .loop st pend tm ps asg body d => ∃ L, w.heap[B.b]? = some (.loop L) ∧ LRel P φ st pend tm ps asg body d L
  | .dfd => w.heap[B.b]? = some (.deferred (some []))
  | .dfd0 => w.heap[B.b]? = some (.deferred none)
  | .giv cells => ∃ c e fr, w.heap[B.b]? = some (.cells c e fr) ∧ B.o + cells.length ≤ c.size ∧ VRL φ cells ((c.toList.drop B.o).take cells.length)

theorem TmRel.mono {φ φ' : Phi} (h : Sub φ φ') {tm : Trie AV} {tmps : Array Value} (t : TmRel φ tm tmps) : TmRel φ' tm tmps :=
  fun i v hi => VR.mono h v _ (t i v hi)
theorem EntRel.mono {φ φ' : Phi} (h : Sub φ φ') : ∀ {l : List (AV × AV × Nat)} {es : List MapEntry}, EntRel φ l es → EntRel φ' l es
  | [], _, t => t
  | p :: r, _, t => by
    obtain ⟨e, es', rfl, h1, h2, h3, h4⟩ := t
    exact ⟨e, es', rfl, VR.mono h _ _ h1, VR.mono h _ _ h2, h3, EntRel.mono h h4⟩
theorem LRel.mono {P : Program} {φ φ' : Phi} (h : Sub φ φ') {st : LSt} {pend : Option Res} {tm : Trie AV} {ps : List Nat} {asg body : ICode} {d : Nat} {L : Loop} (t : LRel P φ st pend tm ps asg body d L) : LRel P φ' st pend tm ps asg body d L :=
  { t with tm := t.tm.mono h, df := let ⟨B, hB, e⟩ := t.df; ⟨B, h _ _ hB, e⟩ }

theorem ObjRel.keep {P : Program} {φ φ' : Phi} (h : Sub φ φ') {w w' : World} {o : AObj} {B : Blk} (hw : w'.heap[B.b]? = w.heap[B.b]?) (t : ObjRel P φ w o B) : ObjRel P φ' w' o B := by
  cases o <;> simp only [ObjRel] at t ⊢
  case row e cells ext fz => obtain ⟨c, fr, h1, h2, h3, h4, h5, h6⟩ := t; exact ⟨c, fr, hw.trans h1, h2, h3, h4, VRL.mono h _ _ h5, h6⟩
  case map es clock => obtain ⟨ents, h1, h2⟩ := t; exact ⟨ents, hw.trans h1, h2.mono h⟩
  case siter s pos => obtain ⟨h0, bs, h1, h2⟩ := t; exact ⟨h0, bs, hw.trans h1, h2⟩
  case miter m since seen stepped =>
    obtain ⟨h0, m', h1, h2⟩ := t
    refine ⟨h0, m', hw.trans h1, ?_⟩
    cases m with
    | none => exact h2
    | some id => obtain ⟨B', hB, e⟩ := h2; exact ⟨B', h _ _ hB, e⟩
  case loop st pend tm ps asg body d => obtain ⟨L, h1, h2⟩ := t; exact ⟨L, hw.trans h1, h2.mono h⟩
  case dfd => exact hw.trans t
  case dfd0 => exact hw.trans t
  case giv cells => obtain ⟨c, e, fr, h1, h2, h3⟩ := t; exact ⟨c, e, fr, hw.trans h1, h2, VRL.mono h _ _ h3⟩

structure Rel (P : Program) (w0 : World) (φ : Phi) (G : Nat → Option AObj) (w : World) : Prop where
  base : Below w0.heap.size w0 w
  obj : ∀ id o, G id = some o → ∃ B, φ id = some B ∧ ObjRel P φ w o B
  rng : ∀ id B, φ id = some B → B.b < w.heap.size
  old : ∀ id o B, G id = some o → φ id = some B → B.b < w0.heap.size → isGiv o = true
  inj : ∀ id id' o o' B B', G id = some o → G id' = some o' → φ id = some B → φ id' = some B' → B.b = B'.b → id = id' ∨ B.b < w0.heap.size

theorem Rel.new {P : Program} {w0 : World} {φ : Phi} {G : Nat → Option AObj} {w : World} (r : Rel P w0 φ G w) {id : Nat} {o : AObj} {B : Blk} (hg : G id = some o) (hB : φ id = some B) (hng : isGiv o = false) : w0.heap.size ≤ B.b := by
  apply Nat.le_of_not_lt; intro h
  rw [r.old id o B hg hB h] at hng; cases hng

theorem Rel.sub {P : Program} {w0 : World} {φ : Phi} {G G' : Nat → Option AObj} {w : World} (h : ∀ id o, G' id = some o → G id = some o) (r : Rel P w0 φ G w) : Rel P w0 φ G' w :=
  ⟨r.base, fun id o ho => r.obj id o (h id o ho), r.rng, fun id o B ho => r.old id o B (h id o ho), fun id id' o o' B B' h1 h2 => r.inj id id' o o' B B' (h _ _ h1) (h _ _ h2)⟩

/-- worlds that part in nothing but the count of draws -/
theorem Rel.congr {P : Program} {w0 : World} {φ : Phi} {G : Nat → Option AObj} {w w' : World} (hh : w'.heap = w.heap) (ho : w'.os = w.os) (ht : w'.tape = w.tape) (hu : w'.output = w.output) (r : Rel P w0 φ G w) : Rel P w0 φ G w' :=
  ⟨⟨ho.trans r.base.os, ht.trans r.base.tape, hu.trans r.base.output, by rw [hh]; exact r.base.size, fun k hk => by rw [hh]; exact r.base.block k hk⟩,
   fun id o h => let ⟨B, hB, t⟩ := r.obj id o h; ⟨B, hB, ObjRel.keep (fun _ _ h => h) (by rw [hh]) t⟩, by rw [hh]; exact r.rng, r.old, r.inj⟩

structure Wf (s : St) : Prop where
  lt : ∀ id o, s.objs.get id = some o → id < s.next
  hd : ∀ p ∈ s.hide, p.2 ≤ s.next

theorem get_some {s : St} {id : Nat} {o : AObj} (h : s.get id = some o) : s.objs.get id = some o := by
  unfold St.get at h
  cases ho : s.only with
  | none =>
    rw [ho] at h; simp only at h
    cases hh : hid s.hide id <;> rw [hh] at h <;> simp at h
    exact h
  | some p =>
    rw [ho] at h; simp only at h
    cases hh : hid s.hide id <;> rw [hh] at h <;> simp at h
    cases hb : Nat.ble p.1 id <;> rw [hb] at h <;> simp at h
    · cases hm : memN id p.2 <;> rw [hm] at h <;> simp at h
      exact h
    · exact h

/-- may an id be seen? -/
def seen (s : St) (id : Nat) : Bool :=
  match s.only with
  | none => !hid s.hide id
  | some p => !hid s.hide id && (Nat.ble p.1 id || memN id p.2)
theorem get_eq (s : St) (id : Nat) : s.get id = if seen s id then s.objs.get id else none := by
  unfold St.get seen
  cases s.only with
  | none => cases hid s.hide id <;> simp
  | some p =>
    show (bif hid s.hide id then none else bif Nat.ble p.1 id then s.objs.get id else bif memN id p.2 then s.objs.get id else none) = if (!hid s.hide id && (Nat.ble p.1 id || memN id p.2)) = true then s.objs.get id else none
    generalize Nat.ble p.1 id = b1
    generalize memN id p.2 = b2
    cases hid s.hide id <;> cases b1 <;> cases b2 <;> rfl
theorem seen_of_get {s : St} {id : Nat} {o : AObj} (h : s.get id = some o) : seen s id = true := by
  rw [get_eq] at h
  cases hs : seen s id with
  | true => rfl
  | false => rw [hs] at h; simp at h
theorem seen_congr {s s' : St} (h1 : s'.hide = s.hide) (h2 : s'.only = s.only) (id : Nat) : seen s' id = seen s id := by unfold seen; rw [h1, h2]

structure Ext (s s' : St) : Prop where
  next : s.next ≤ s'.next
  wm : ∀ i, s.wm.testBit i = true → s'.wm.testBit i = true
  hide : s'.hide = s.hide
  only : s'.only = s.only
  keep : ∀ id, id < s.next → s'.wm.testBit id = false → s'.objs.get id = s.objs.get id
  vis : ∀ id o, id < s.next → s'.objs.get id = some o → ∃ o', s.objs.get id = some o'
  wf : Wf s → Wf s'
  wv : ∀ id, id < s.next → s'.wm.testBit id = true → s.wm.testBit id = true ∨ seen s id = true
  giv : ∀ id o, id < s.next → s.objs.get id = some o → isGiv o = true → s'.wm.testBit id = true → s.wm.testBit id = true

theorem Ext.refl (s : St) : Ext s s := ⟨Nat.le_refl _, fun _ h => h, rfl, rfl, fun _ _ _ => rfl, fun _ o _ h => ⟨o, h⟩, fun h => h, fun _ _ h => .inl h, fun _ _ _ _ _ h => h⟩
theorem Ext.trans {s s' s'' : St} (h : Ext s s') (h' : Ext s' s'') : Ext s s'' :=
  ⟨Nat.le_trans h.next h'.next, fun i hi => h'.wm i (h.wm i hi), h'.hide.trans h.hide, h'.only.trans h.only,
   fun id hid hw => by
    have hw' : s'.wm.testBit id = false := by
      cases hb : s'.wm.testBit id with
      | false => rfl
      | true => rw [h'.wm id hb] at hw; exact hw
    exact (h'.keep id (Nat.lt_of_lt_of_le hid h.next) hw).trans (h.keep id hid hw'),
   fun id o hid ho => let ⟨o', ho'⟩ := h'.vis id o (Nat.lt_of_lt_of_le hid h.next) ho; h.vis id o' hid ho', fun hw => h'.wf (h.wf hw),
   fun id hid hw => by
    rcases h'.wv id (Nat.lt_of_lt_of_le hid h.next) hw with h1 | h1
    · exact h.wv id hid h1
    · rw [seen_congr h.hide h.only] at h1; exact .inr h1,
   fun id o hid ho hgo hb => by
    cases hw : s'.wm.testBit id with
    | true => exact h.giv id o hid ho hgo hw
    | false =>
      have := h'.giv id o (Nat.lt_of_lt_of_le hid h.next) ((h.keep id hid hw).trans ho) hgo hb
      rw [hw] at this; cases this⟩
theorem Ext.get_vis {s s' : St} (h : Ext s s') {id : Nat} {o : AObj} (hid : id < s.next) (hg : s'.get id = some o) : ∃ o', s.get id = some o' := by
  obtain ⟨o', ho'⟩ := h.vis id o hid (get_some hg)
  refine ⟨o', ?_⟩
  rw [get_eq, ← seen_congr h.hide h.only, seen_of_get hg]; exact ho'

structure Step (P : Program) (w0 : World) (φ : Phi) (s : St) (w : World) (φ' : Phi) (s' : St) (w' : World) : Prop where
  ext : Ext s s'
  rel : Rel P w0 φ' s'.get w'
  same : ∀ id, (id < s.next ∨ s'.next ≤ id) → φ' id = φ id
  size : w.heap.size ≤ w'.heap.size
  frame : ∀ b, b < w.heap.size → (∀ id o B, s.get id = some o → φ id = some B → B.b = b → s'.wm.testBit id = false) → w'.heap[b]? = w.heap[b]?
  own : ∀ id B, s.next ≤ id → id < s'.next → φ' id = some B → w.heap.size ≤ B.b ∨ ∃ id0 o0 B0, s.get id0 = some o0 ∧ φ id0 = some B0 ∧ B0.b = B.b ∧ s'.wm.testBit id0 = true

theorem Step.refl {P : Program} {w0 : World} {φ : Phi} {s : St} {w : World} (r : Rel P w0 φ s.get w) : Step P w0 φ s w φ s w :=
  ⟨Ext.refl s, r, fun _ _ => rfl, Nat.le_refl _, fun _ _ _ => rfl, fun id _ h1 h2 => absurd h2 (by omega)⟩

theorem Step.sub {P : Program} {w0 : World} {φ : Phi} {s : St} {w : World} {φ' : Phi} {s' : St} {w' : World} (h : Step P w0 φ s w φ' s' w')
    (hf : ∀ id, s.next ≤ id → id < s'.next → φ id = none) : Sub φ φ' := fun id B hB => by
  by_cases h1 : id < s.next
  · rw [h.same id (.inl h1)]; exact hB
  · by_cases h2 : id < s'.next
    · rw [hf id (by omega) h2] at hB; cases hB
    · rw [h.same id (.inr (by omega))]; exact hB

theorem wm_false {s s' : St} (h : Ext s s') {id : Nat} (hw : s'.wm.testBit id = false) : s.wm.testBit id = false := by
  cases hb : s.wm.testBit id with
  | false => rfl
  | true => rw [h.wm id hb] at hw; exact hw

theorem Step.trans {P : Program} {w0 : World} {φ φ1 φ2 : Phi} {s s1 s2 : St} {w w1 w2 : World} (hwf : Wf s) (h : Step P w0 φ s w φ1 s1 w1) (h' : Step P w0 φ1 s1 w1 φ2 s2 w2) :
    Step P w0 φ s w φ2 s2 w2 where
  ext := h.ext.trans h'.ext
  rel := h'.rel
  same := fun id hid => by
    have := h.ext.next; have := h'.ext.next
    rcases hid with hid | hid
    · exact (h'.same id (.inl (by omega))).trans (h.same id (.inl hid))
    · exact (h'.same id (.inr hid)).trans (h.same id (.inr (by omega)))
  size := Nat.le_trans h.size h'.size
  frame := fun b hb H => by
    have e1 := h.frame b hb fun id o B ho hB e => wm_false h'.ext (H id o B ho hB e)
    refine (h'.frame b (Nat.lt_of_lt_of_le hb h.size) fun id o B ho hB e => ?_).trans e1
    have hlt : id < s1.next := (h.ext.wf hwf).lt id o (get_some ho)
    by_cases h1 : id < s.next
    · obtain ⟨o', ho'⟩ := h.ext.get_vis h1 ho
      exact H id o' B ho' ((h.same id (.inl h1)) ▸ hB) e
    · rcases h.own id B (by omega) hlt hB with hsz | ⟨id0, o0, B0, g0, p0, e0, m0⟩
      · omega
      · have := H id0 o0 B0 g0 p0 (e0.trans e)
        rw [h'.ext.wm id0 m0] at this; cases this
  own := fun id B h1 h2 hB => by
    by_cases hlt : id < s1.next
    · rw [h'.same id (.inl hlt)] at hB
      rcases h.own id B h1 hlt hB with hsz | ⟨id0, o0, B0, g0, p0, e0, m0⟩
      · exact .inl hsz
      · exact .inr ⟨id0, o0, B0, g0, p0, e0, h'.ext.wm id0 m0⟩
    · rcases h'.own id B (by omega) h2 hB with hsz | ⟨id0, o0, B0, g0, p0, e0, m0⟩
      · exact .inl (Nat.le_trans h.size hsz)
      · have hlt0 : id0 < s1.next := (h.ext.wf hwf).lt id0 o0 (get_some g0)
        by_cases h3 : id0 < s.next
        · obtain ⟨o', ho'⟩ := h.ext.get_vis h3 g0
          exact .inr ⟨id0, o', B0, ho', (h.same id0 (.inl h3)) ▸ p0, e0, m0⟩
        · rcases h.own id0 B0 (by omega) hlt0 p0 with hsz | ⟨id1, o1, B1, g1, p1, e1, m1⟩
          · exact .inl (by omega)
          · exact .inr ⟨id1, o1, B1, g1, p1, e1.trans e0, h'.ext.wm id1 m1⟩

/-- a step, and behind it a world that parts in the count of draws alone -/
theorem Step.drawn {P : Program} {w0 : World} {φ φ' : Phi} {s s' : St} {w w' w'' : World} (h : Step P w0 φ s w φ' s' w') (hh : w''.heap = w'.heap) (ho : w''.os = w'.os) (ht : w''.tape = w'.tape) (hu : w''.output = w'.output) :
    Step P w0 φ s w φ' s' w'' :=
  ⟨h.ext, h.rel.congr hh ho ht hu, h.same, by rw [hh]; exact h.size, fun b hb H => by rw [hh]; exact h.frame b hb H, h.own⟩
/-- a step from a world that parts in the count of draws alone -/
theorem Step.drawnB {P : Program} {w0 : World} {φ φ' : Phi} {s s' : St} {w w1 w' : World} (h : Step P w0 φ s w1 φ' s' w') (hh : w1.heap = w.heap) :
    Step P w0 φ s w φ' s' w' :=
  ⟨h.ext, h.rel, h.same, by rw [← hh]; exact h.size, fun b hb H => by rw [← hh]; exact h.frame b (by rw [hh]; exact hb) H, fun id B h1 h2 hB => by rw [← hh]; exact h.own id B h1 h2 hB⟩

/-! ### Bits -/
theorem testBit_mark (m id i : Nat) : (mark m id).testBit i = (m.testBit i || decide (i = id)) := by
  show (m ||| 1 <<< id).testBit i = _
  rw [Nat.testBit_or, Nat.testBit_shiftLeft]
  by_cases h : i = id
  · subst h; simp
  · by_cases h2 : i ≥ id
    · simp only [h2, decide_true, Bool.true_and, h, decide_false, Bool.or_false]
      have : (1 : Nat).testBit (i - id) = false := by
        obtain ⟨k, hk⟩ : ∃ k, i - id = k + 1 := ⟨i - id - 1, by omega⟩
        rw [hk, Nat.testBit_succ]; simp
      rw [this]; simp
    · simp [h2, h]

/-! ### The heap's own steps -/
def Phi.set (φ : Phi) (id : Nat) (B : Blk) : Phi := fun i => if i = id then some B else φ i
theorem Phi.set_sub {φ : Phi} {id : Nat} {B : Blk} (h : φ id = none) : Sub φ (φ.set id B) := fun i B' hB => by
  unfold Phi.set
  by_cases e : i = id
  · subst e; rw [h] at hB; cases hB
  · rw [if_neg e]; exact hB

theorem ext_alloc (s : St) (o : AObj) : Ext s (s.alloc o) where
  next := Nat.le_succ _
  wm := fun _ h => h
  hide := rfl
  only := rfl
  keep := fun id h _ => Trie.get_set_ne _ _ (by omega)
  vis := fun id o' h h' => ⟨o', by rw [show (s.alloc o).objs = s.objs.set s.next o from rfl, Trie.get_set_ne _ _ (by omega)] at h'; exact h'⟩
  wf := fun h => ⟨fun id o' h' => by
    rw [show (s.alloc o).objs = s.objs.set s.next o from rfl, Trie.get_set] at h'
    show id < Nat.succ s.next
    by_cases e : id = s.next
    · omega
    · rw [if_neg e] at h'; have := h.lt id o' h'; omega, fun p hp => Nat.le_succ_of_le (h.hd p hp)⟩
  wv := fun _ _ h => .inl h
  giv := fun _ _ _ _ _ h => h

theorem ext_put (s : St) (id : Nat) (o o' : AObj) (hg : s.objs.get id = some o) (hs : seen s id = true) (hng : isGiv o = false) : Ext s (s.put id o') where
  giv := fun i x _ hx hgx hw => by
    have : (mark s.wm id).testBit i = true := hw
    rw [testBit_mark, Bool.or_eq_true, decide_eq_true_eq] at this
    rcases this with h1 | h1
    · exact h1
    · subst h1; rw [hg] at hx; cases hx; rw [hng] at hgx; cases hgx
  next := Nat.le_refl _
  wm := fun i h => by show (mark s.wm id).testBit i = true; rw [testBit_mark, h]; rfl
  hide := rfl
  only := rfl
  keep := fun i _ hw => by
    have : (mark s.wm id).testBit i = false := hw
    rw [testBit_mark] at this
    exact Trie.get_set_ne _ _ (by intro e; simp [e] at this)
  vis := fun i x _ hx => by
    by_cases e : i = id
    · exact ⟨o, e ▸ hg⟩
    · exact ⟨x, by rw [show (s.put id o').objs = s.objs.set id o' from rfl, Trie.get_set_ne _ _ e] at hx; exact hx⟩
  wf := fun h => ⟨fun i x hx => by
    by_cases e : i = id
    · exact e ▸ h.lt id o hg
    · rw [show (s.put id o').objs = s.objs.set id o' from rfl, Trie.get_set_ne _ _ e] at hx; exact h.lt i x hx, h.hd⟩
  wv := fun i _ hw => by
    have : (mark s.wm id).testBit i = true := hw
    rw [testBit_mark, Bool.or_eq_true, decide_eq_true_eq] at this
    rcases this with h1 | h1
    · exact .inl h1
    · rw [h1]; exact .inr hs

theorem ext_del (s : St) (id : Nat) {o : AObj} (hg : s.objs.get id = some o) (hs : seen s id = true) (hng : isGiv o = false) : Ext s (s.del id) where
  giv := fun i x _ hx hgx hw => by
    have : (mark s.wm id).testBit i = true := hw
    rw [testBit_mark, Bool.or_eq_true, decide_eq_true_eq] at this
    rcases this with h1 | h1
    · exact h1
    · subst h1; rw [hg] at hx; cases hx; rw [hng] at hgx; cases hgx
  next := Nat.le_refl _
  wm := fun i h => by show (mark s.wm id).testBit i = true; rw [testBit_mark, h]; rfl
  hide := rfl
  only := rfl
  keep := fun i _ hw => by
    have : (mark s.wm id).testBit i = false := hw
    rw [testBit_mark] at this
    rw [show (s.del id).objs = s.objs.del id from rfl, Trie.get_del, if_neg (by intro e; simp [e] at this)]
  vis := fun i x _ hx => by
    rw [show (s.del id).objs = s.objs.del id from rfl, Trie.get_del] at hx
    by_cases e : i = id
    · rw [if_pos e] at hx; cases hx
    · rw [if_neg e] at hx; exact ⟨x, hx⟩
  wf := fun h => ⟨fun i x hx => by
    rw [show (s.del id).objs = s.objs.del id from rfl, Trie.get_del] at hx
    by_cases e : i = id
    · rw [if_pos e] at hx; cases hx
    · rw [if_neg e] at hx; exact h.lt i x hx, h.hd⟩
  wv := fun i _ hw => by
    have : (mark s.wm id).testBit i = true := hw
    rw [testBit_mark, Bool.or_eq_true, decide_eq_true_eq] at this
    rcases this with h1 | h1
    · exact .inl h1
    · rw [h1]; exact .inr hs

/-- A NEW BLOCK. -/
theorem Step.alloc {P : Program} {w0 : World} {φ : Phi} {s : St} {w w' : World} (r : Rel P w0 φ s.get w) (hwf : Wf s) (hf : φ s.next = none) {o : AObj} {x : Obj} {tot : Nat}
    (hh : w'.heap = w.heap.push x) (hos : w'.os = w.os) (ht : w'.tape = w.tape) (hu : w'.output = w.output)
    (ho : ObjRel P (φ.set s.next ⟨w.heap.size, 0, tot⟩) w' o ⟨w.heap.size, 0, tot⟩) :
    Step P w0 φ s w (φ.set s.next ⟨w.heap.size, 0, tot⟩) (s.alloc o) w' := by
  have hsub := Phi.set_sub (B := ⟨w.heap.size, 0, tot⟩) hf
  have hold : ∀ b, b < w.heap.size → w'.heap[b]? = w.heap[b]? := fun b hb => by rw [hh, Array.getElem?_push_lt hb, Array.getElem?_eq_getElem hb]
  have hsz : w'.heap.size = w.heap.size + 1 := by rw [hh, Array.size_push]
  have hget : ∀ id o', (s.alloc o).get id = some o' → (id = s.next ∧ o' = o) ∨ (id ≠ s.next ∧ s.get id = some o') := fun id o' hg => by
    have h1 := get_some hg
    rw [show (s.alloc o).objs = s.objs.set s.next o from rfl, Trie.get_set] at h1
    by_cases e : id = s.next
    · rw [if_pos e] at h1; exact .inl ⟨e, by cases h1; rfl⟩
    · rw [if_neg e] at h1
      refine .inr ⟨e, ?_⟩
      have := seen_of_get hg
      rw [seen_congr (s := s) (s' := s.alloc o) rfl rfl] at this
      rw [get_eq, this]; exact h1
  refine ⟨ext_alloc s o, ⟨?_, ?_, ?_, ?_, ?_⟩, ?_, by omega, ?_, ?_⟩
  · exact ⟨hos.trans r.base.os, ht.trans r.base.tape, hu.trans r.base.output, by have := r.base.size; omega, fun k hk => (hold k (by have := r.base.size; omega)).trans (r.base.block k hk)⟩
  · intro id o' hg
    rcases hget id o' hg with ⟨rfl, rfl⟩ | ⟨e, hg'⟩
    · exact ⟨_, by simp [Phi.set], ho⟩
    · obtain ⟨B, hB, t⟩ := r.obj id o' hg'
      exact ⟨B, hsub _ _ hB, t.keep hsub (hold _ (r.rng _ _ hB))⟩
  · intro id B hB
    unfold Phi.set at hB
    by_cases e : id = s.next
    · rw [if_pos e] at hB; cases hB
      simp only; omega
    · rw [if_neg e] at hB; have := r.rng id B hB; omega
  · intro id o' B hg hB hlt
    rcases hget id o' hg with ⟨rfl, rfl⟩ | ⟨e, hg'⟩
    · rw [show (φ.set s.next _) s.next = some ⟨w.heap.size, 0, tot⟩ from if_pos rfl] at hB; cases hB
      have := r.base.size; simp at hlt; omega
    · rw [show (φ.set s.next _) id = φ id from if_neg e] at hB
      exact r.old id o' B hg' hB hlt
  · intro id id' o1 o2 B B' h1 h2 hB hB' e
    rcases hget id o1 h1 with ⟨rfl, rfl⟩ | ⟨n1, g1⟩ <;> rcases hget id' o2 h2 with ⟨rfl, rfl⟩ | ⟨n2, g2⟩
    · exact .inl rfl
    · rw [show (φ.set s.next _) s.next = some ⟨w.heap.size, 0, tot⟩ from if_pos rfl] at hB; cases hB
      rw [show (φ.set s.next _) id' = φ id' from if_neg n2] at hB'
      have := (r.rng id' B' hB'); simp at e; omega
    · rw [show (φ.set s.next _) s.next = some ⟨w.heap.size, 0, tot⟩ from if_pos rfl] at hB'; cases hB'
      rw [show (φ.set s.next _) id = φ id from if_neg n1] at hB
      have := (r.rng id B hB); simp at e; omega
    · rw [show (φ.set s.next _) id' = φ id' from if_neg n2] at hB'
      rw [show (φ.set s.next _) id = φ id from if_neg n1] at hB
      exact r.inj id id' o1 o2 B B' g1 g2 hB hB' e
  · intro id hid
    have hid' : id < s.next ∨ s.next + 1 ≤ id := hid
    exact if_neg (by omega)
  · intro b hb _; exact hold b hb
  · intro id B h1 h2 hB
    have h2' : id < s.next + 1 := h2
    have e : id = s.next := by omega
    subst e
    rw [show (φ.set s.next _) s.next = some ⟨w.heap.size, 0, tot⟩ from if_pos rfl] at hB; cases hB
    exact .inl (Nat.le_refl _)

/-- ONE BLOCK IS TURNED. -/
theorem Step.put {P : Program} {w0 : World} {φ : Phi} {s : St} {w w' : World} (r : Rel P w0 φ s.get w) {id : Nat} {o o' : AObj} {B : Blk} (hg : s.get id = some o) (hB : φ id = some B)
    (hother : ∀ b, b ≠ B.b → w'.heap[b]? = w.heap[b]?) (hsz : w'.heap.size = w.heap.size) (hos : w'.os = w.os) (ht : w'.tape = w.tape) (hu : w'.output = w.output)
    (ho : ObjRel P φ w' o' B) (hng : isGiv o = false := by rfl) : Step P w0 φ s w φ (s.put id o') w' := by
  have hnew := r.new hg hB hng
  have hgo := get_some hg
  have hget : ∀ i x, (s.put id o').get i = some x → (i = id ∧ x = o') ∨ (i ≠ id ∧ s.get i = some x) := fun i x hx => by
    have h1 := get_some hx
    rw [show (s.put id o').objs = s.objs.set id o' from rfl, Trie.get_set] at h1
    by_cases e : i = id
    · rw [if_pos e] at h1; exact .inl ⟨e, by cases h1; rfl⟩
    · rw [if_neg e] at h1
      refine .inr ⟨e, ?_⟩
      have := seen_of_get hx
      rw [seen_congr (s := s) (s' := s.put id o') rfl rfl] at this
      rw [get_eq, this]; exact h1
  refine ⟨ext_put s id o o' hgo (seen_of_get hg) hng, ⟨?_, ?_, ?_, ?_, ?_⟩, fun _ _ => rfl, by omega, ?_, ?_⟩
  · refine ⟨hos.trans r.base.os, ht.trans r.base.tape, hu.trans r.base.output, by have := r.base.size; omega, fun k hk => ?_⟩
    exact (hother k (by omega)).trans (r.base.block k hk)
  · intro i x hx
    rcases hget i x hx with ⟨rfl, rfl⟩ | ⟨e, hg'⟩
    · exact ⟨B, hB, ho⟩
    · obtain ⟨B', hB', t⟩ := r.obj i x hg'
      exact ⟨B', hB', t.keep (fun _ _ h => h) (hother _ (fun e' => (r.inj i id x o B' B hg' hg hB' hB e').elim e (fun h => by omega)))⟩
  · intro i B' hB'; have := r.rng i B' hB'; omega
  · intro i x B' hx hB' hlt
    rcases hget i x hx with ⟨rfl, rfl⟩ | ⟨e, hg'⟩
    · rw [hB] at hB'; cases hB'; omega
    · exact r.old i x B' hg' hB' hlt
  · intro i i' x x' B1 B2 h1 h2 hB1 hB2 e
    have g1 : ∃ y, s.get i = some y := by
      rcases hget i x h1 with ⟨rfl, rfl⟩ | ⟨_, g⟩
      · exact ⟨o, hg⟩
      · exact ⟨x, g⟩
    have g2 : ∃ y, s.get i' = some y := by
      rcases hget i' x' h2 with ⟨rfl, rfl⟩ | ⟨_, g⟩
      · exact ⟨o, hg⟩
      · exact ⟨x', g⟩
    obtain ⟨y, g1⟩ := g1
    obtain ⟨y', g2⟩ := g2
    exact r.inj i i' y y' B1 B2 g1 g2 hB1 hB2 e
  · intro b hb H
    apply hother
    intro e
    have := H id o B hg hB e.symm
    have hm : (s.put id o').wm.testBit id = true := by show (mark s.wm id).testBit id = true; rw [testBit_mark]; simp
    rw [hm] at this; cases this
  · intro i B' h1 h2
    have : i < s.next := h2
    omega

end Go.Proofs.YtoejmfiaaigpbaaGreatDoor.Ev

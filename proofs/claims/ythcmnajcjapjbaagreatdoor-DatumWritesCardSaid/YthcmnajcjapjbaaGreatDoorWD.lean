/- Contracts of functions that DatumWrites calls: what a call answers, for all data, by symbolic evaluation. No conditions of its own. -/
import Derived.Test.YthcmnajcjapjbaaGreatDoorWC
set_option linter.unusedSimpArgs false
set_option linter.unusedVariables false
set_option linter.defProp false
namespace Go.Proofs.YthcmnajcjapjbaaGreatDoor.Ev
open T
set_option maxRecDepth 100000
theorem xw {a b : List Nat} (ha : Byt a) (hb : Byt b) : Byt (a ++ b) := fun x hx => by
 rcases List.mem_append.1 hx with h | h
 ·exact ha x h
 ·exact hb x h
theorem y8 {c : Nat} {a : List Nat} (hc : c < 256) (ha : Byt a) : Byt (c :: a) := fun x hx => by
 rcases List.mem_cons.1 hx with h | h
 ·omega
 ·exact ha x h
theorem wX : Byt [] := fun x hx => by cases hx
theorem Y3 {c : Nat} (h : xj c = true) : Byt (hexS c) := by
 have hc := lw h
 have hd : ∀ n, n < 16 → hexD n < 256 := fun n hn => by unfold hexD; split <;> omega
 unfold hexS
 split
 ·exact y8 (hd _ (by omega)) wX
 ·exact y8 (hd _ (by omega)) (y8 (hd _ (by omega)) wX)
theorem kz {c : Nat} (h : zr c = true) : c ≤ 1114111 := (zf.1 h).1
theorem WH {c : Nat} (h : zr c = true) : Byt (x7 c) := by
 have he := uJ (kz h)
 unfold x7
 split
 ·intro x hx; simp at hx; omega
 ·split
  ·intro x hx; simp at hx; omega
  ·split
   ·intro x hx; simp at hx; omega
   ·split
    ·exact y8 (by omega) (Y3 (by assumption))
    ·exact he
theorem Y7 {c : Nat} (h : zr c = true) : Byt (zZ c) := by
 have he := uJ (kz h)
 unfold zZ
 split
 ·exact y8 (by omega) he
 ·split
  ·intro x hx; simp at hx; omega
  ·split
   ·intro x hx; simp at hx; omega
   ·split
    ·exact y8 (by omega) (y8 (by omega) (xw (Y3 (by assumption)) (y8 (by omega) wX)))
    ·exact he
theorem Uq {c : Nat} (h : c < 256) : Byt (wd c) := by
 intro x hx
 unfold wd at hx
 split at hx
 ·simp at hx; omega
 ·split at hx
  ·simp at hx; omega
  ·simp at hx; omega
theorem KX : ∀ {cs : List Nat}, (∀ c ∈ cs, zr c = true) → Byt (qs cs)
 | [], _ => wX
 | c :: r, h => by
  rw [jW]
  exact xw (Y7 (h c (by simp))) (KX fun d hd => h d (by simp [hd]))
theorem Qm : ∀ cs : List Nat, (qs cs).length ≤ 5 * cs.length
 | [] => by simp [qs]
 | c :: r => by
  have h1 := qV c
  have h2 := Qm r
  rw [jW, List.length_append, List.length_cons]
  omega
theorem ge : ∀ (k : Nat) (t : List Nat), ∀ c ∈ rgF k t, zr c = true
 | 0, t, c, h => by simp [rgF] at h
 | k + 1, [], c, h => by simp [rgF] at h
 | k + 1, x :: r, c, h => by
  simp only [rgF, List.mem_cons] at h
  rcases h with h | h
  ·rw [h]; exact (ww (l := x :: r) (by simp)).2.2
  ·exact ge k _ c h
theorem Yd : ∀ (k : Nat) (t : List Nat), (rgF k t).length ≤ k
 | 0, t => by simp [rgF]
 | k + 1, [] => by simp [rgF]
 | k + 1, x :: r => by
  have := Yd k ((x :: r).drop (decL (x :: r)).2)
  simp only [rgF, List.length_cons]
  omega
theorem Hg {disp : Bool} {t : List Nat} (hb : Byt t) : Byt (y7 disp t) ∧ (y7 disp t).length ≤ 5 * t.length + 2 := by
 unfold y7
 split
 ·exact ⟨hb, by omega⟩
 ·refine ⟨y8 (by omega) (xw (KX (ge _ _)) (y8 (by omega) wX)), ?_⟩
  have h1 := Qm (rgN t)
  have h2 : (rgN t).length ≤ t.length := Yd _ _
  simp only [List.length_cons, List.length_append, List.length_nil]
  omega
theorem Gk {disp : Bool} {c : Nat} (h : zr c = true) : Byt (l7 disp (.ofNat c)) ∧ (l7 disp (.ofNat c)).length ≤ 9 := by
 have e : (Int.ofNat c).toNat = c := rfl
 unfold l7
 rw [e]
 split
 ·exact ⟨uJ (kz h), by have := (wD c).2; omega⟩
 ·exact ⟨y8 (by omega) (y8 (by omega) (WH h)), by have := vY c; simp only [List.length_cons]; omega⟩
theorem Ya {f : DT → List Nat} : ∀ {l : List DT}, (∀ d ∈ l, Byt (f d) ∧ (f d).length + 10 ≤ 2000 * zu d) → (Byt (wB f l) ∧ (wB f l).length ≤ 2000 * yw l) ∧ Byt (allT f l) ∧ (allT f l).length ≤ 2000 * yw l
 | [], _ => ⟨⟨wX, by simp [wB]⟩, wX, by simp [allT]⟩
 | d :: r, h => by
  obtain ⟨⟨g1, g2⟩, g3, g4⟩ := Ya (l := r) fun x hx => h x (by simp [hx])
  obtain ⟨h1, h2⟩ := h d (by simp)
  simp only [wB, allT, yw, List.length_cons, List.length_append]
  exact ⟨⟨y8 (by omega) (xw h1 g1), by omega⟩, xw h1 g1, by omega⟩
theorem QX : ∀ {t : List Nat}, Byt t → (Byt (wB yr (yK t)) ∧ (wB yr (yK t)).length ≤ 4 * t.length) ∧ Byt (allT yr (yK t)) ∧ (allT yr (yK t)).length ≤ 4 * t.length
 | [], _ => ⟨⟨wX, by simp [yK, wB]⟩, wX, by simp [yK, allT]⟩
 | c :: r, h => by
  obtain ⟨⟨g1, g2⟩, g3, g4⟩ := QX (t := r) fun x hx => h x (by simp [hx])
  have hc := h c (by simp)
  have h1 := Uq hc
  have h2 := (kO c).1
  have e : yK (c :: r) = lm c :: yK r := rfl
  have e2 : yr (lm c) = wd c := rfl
  rw [e]
  simp only [wB, allT, e2, List.length_cons, List.length_append]
  exact ⟨⟨y8 (by omega) (xw h1 g1), by omega⟩, xw h1 g1, by omega⟩
theorem WO (disp : Bool) : ∀ (n : Nat) (d : DT), GoodD n d → Byt (txN disp n d) ∧ (txN disp n d).length + 10 ≤ 2000 * zu d
 | 0, d, h => by
  have h1 := h.2.2
  have h2 := yc d
  unfold wtD at h1; omega
 | n + 1, d, h => by
  have ih := WO disp n
  have hp := yc d
  have htx := h.2.1
  obtain ⟨kd, nn, tx, ks, p⟩ := d
  simp only [TxD] at htx
  obtain ⟨t1, t2, t3⟩ := htx
  have hw := Hg (disp := disp) t1
  rw [show txN disp (n + 1) (.mk kd nn tx ks p) = txK disp (txN disp n) (.mk kd nn tx ks p) kd from rfl]
  rcases qp h.1 with rfl | ⟨rfl, hcs⟩ | ⟨rfl, hcs⟩ | ⟨rfl, c, rfl, hv⟩ | ⟨rfl, hcs⟩ | ⟨rfl, hcs⟩ | ⟨rfl, hcs⟩ | ⟨rfl, hcs⟩ | rfl | rfl | rfl
  ·rw [show txK disp (txN disp n) (.mk (.ofNat 0) nn tx ks p) (.ofNat 0) = [40, 41] from rfl]
   exact ⟨fun x hx => by simp at hx; omega, by simp only [List.length_cons, List.length_nil]; omega⟩
  ·have e : txK disp (txN disp n) (.mk (.ofNat 1) nn tx ks p) (.ofNat 1) = [35, 116] ∨ txK disp (txN disp n) (.mk (.ofNat 1) nn tx ks p) (.ofNat 1) = [35, 102] := by
    rcases hcs with rfl | rfl
    ·exact .inr rfl
    ·exact .inl rfl
   rcases e with e | e
   ·rw [e]; exact ⟨fun x hx => by simp at hx; omega, by simp only [List.length_cons, List.length_nil]; omega⟩
   ·rw [e]; exact ⟨fun x hx => by simp at hx; omega, by simp only [List.length_cons, List.length_nil]; omega⟩
  ·rw [show txK disp (txN disp n) (.mk (.ofNat 2) nn tx ks p) (.ofNat 2) = tx from rfl]
   exact ⟨t1, by omega⟩
  ·rw [show txK disp (txN disp n) (.mk (.ofNat 3) (.ofNat c) tx ks p) (.ofNat 3) = l7 disp (.ofNat c) from rfl]
   have := Gk (disp := disp) hv
   exact ⟨this.1, by omega⟩
  ·rw [show txK disp (txN disp n) (.mk (.ofNat 4) nn tx ks p) (.ofNat 4) = y7 disp tx from rfl]
   exact ⟨hw.1, by omega⟩
  ·rw [show txK disp (txN disp n) (.mk (.ofNat 5) nn tx ks p) (.ofNat 5) = tx from rfl]
   exact ⟨t1, by omega⟩
  ·obtain ⟨x, y, rfl⟩ := hcs
   have hit := h.items rfl
   have hk : zC (.mk (.ofNat 6) nn tx [x, y] p) = some (x, y) := rfl
   have hn := yT hk
   have hny := w9 y
   rw [show txK disp (txN disp n) (.mk (.ofNat 6) nn tx [x, y] p) (.ofNat 6) = [40] ++ allT (txN disp n) (zm (.mk (.ofNat 6) nn tx [x, y] p)).1 ++ endT (txN disp n) (zm (.mk (.ofNat 6) nn tx [x, y] p)).2 ++ [41] from rfl]
   rw [yq hk] at hit ⊢
   simp only at hit ⊢
   obtain ⟨i1, i2, _, _⟩ := hit
   have ha := (Ya (f := txN disp n) fun d hd => ih d (i1 d hd)).2
   have he := ih _ i2
   have hl : yw (x :: (zm y).1) = zu x + yw (zm y).1 := rfl
   have hee : Byt (endT (txN disp n) (zm y).2) ∧ (endT (txN disp n) (zm y).2).length ≤ 2000 * zu (zm y).2 := by
    unfold endT
    split
    ·exact ⟨wX, by simp⟩
    ·exact ⟨xw (fun x hx => by simp at hx; omega) he.1, by simp only [List.length_append, List.length_cons, List.length_nil]; omega⟩
   refine ⟨xw (xw (xw (fun x hx => by simp at hx; omega) ha.1) hee.1) (fun x hx => by simp at hx; omega), ?_⟩
   have ha2 := ha.2
   have hee2 := hee.2
   simp only [List.length_append, List.length_cons, List.length_nil]
   omega
  ·rw [show txK disp (txN disp n) (.mk (.ofNat 7) nn tx ks p) (.ofNat 7) = [35, 40] ++ allT (txN disp n) ks ++ [41] from rfl]
   have hgk := h.kids rfl
   have ha := (Ya (f := txN disp n) fun d hd => ih d (hgk d hd)).2
   have hn : zu (.mk (.ofNat 7) nn tx ks p) = 1 + yw ks := rfl
   refine ⟨xw (xw (fun x hx => by simp at hx; omega) ha.1) (fun x hx => by simp at hx; omega), ?_⟩
   have ha2 := ha.2
   simp only [List.length_append, List.length_cons, List.length_nil]
   omega
  ·rw [show txK disp (txN disp n) (.mk (.ofNat 8) nn tx ks p) (.ofNat 8) = [35, 117, 56, 40] ++ allT yr (yK tx) ++ [41] from rfl]
   have ha := (QX t1).2
   refine ⟨xw (xw (fun x hx => by simp at hx; omega) ha.1) (fun x hx => by simp at hx; omega), ?_⟩
   have ha2 := ha.2
   simp only [List.length_append, List.length_cons, List.length_nil]
   omega
  ·rw [show txK disp (txN disp n) (.mk (.ofNat 9) nn tx ks p) (.ofNat 9) = [35, 33, 101, 111, 102] from rfl]
   exact ⟨fun x hx => by simp at hx; omega, by simp only [List.length_cons, List.length_nil]; omega⟩
  ·rw [show txK disp (txN disp n) (.mk (.ofNat 10) nn tx ks p) (.ofNat 10) = [35, 33, 110, 111, 110, 101] from rfl]
   exact ⟨fun x hx => by simp at hx; omega, by simp only [List.length_cons, List.length_nil]; omega⟩
theorem Jl {disp : Bool} {n : Nat} {d : DT} (h : GoodD (n + 1) d) (he : txN disp (n + 1) d = []) : yV d = .ofNat 4 ∧ disp = true ∧ yr d = [] := by
 obtain ⟨kd, nn, tx, ks, p⟩ := d
 rw [show txN disp (n + 1) (.mk kd nn tx ks p) = txK disp (txN disp n) (.mk kd nn tx ks p) kd from rfl] at he
 rcases qp h.1 with rfl | ⟨rfl, hcs⟩ | ⟨rfl, hcs⟩ | ⟨rfl, c, rfl, hv⟩ | ⟨rfl, hcs⟩ | ⟨rfl, hcs⟩ | ⟨rfl, hcs⟩ | ⟨rfl, hcs⟩ | rfl | rfl | rfl
 ·cases he
 ·rcases hcs with rfl | rfl
  ·cases he
  ·cases he
 ·exact absurd he hcs
 ·have e : txK disp (txN disp n) (.mk (.ofNat 3) (.ofNat c) tx ks p) (.ofNat 3) = l7 disp (.ofNat c) := rfl
  rw [e] at he
  unfold l7 at he
  have := (wD c).1
  split at he
  ·rw [show (Int.ofNat c).toNat = c from rfl] at he; rw [he] at this; simp at this
  ·cases he
 ·have e : txK disp (txN disp n) (.mk (.ofNat 4) nn tx ks p) (.ofNat 4) = y7 disp tx := rfl
  rw [e] at he
  unfold y7 at he
  split at he
  ·exact ⟨rfl, by assumption, he⟩
  ·cases he
 ·exact absurd he hcs
 ·have e : txK disp (txN disp n) (.mk (.ofNat 6) nn tx ks p) (.ofNat 6) = [40] ++ allT (txN disp n) (zm (.mk (.ofNat 6) nn tx ks p)).1 ++ endT (txN disp n) (zm (.mk (.ofNat 6) nn tx ks p)).2 ++ [41] := rfl
  rw [e] at he
  simp at he
 ·have e : txK disp (txN disp n) (.mk (.ofNat 7) nn tx ks p) (.ofNat 7) = [35, 40] ++ allT (txN disp n) ks ++ [41] := rfl
  rw [e] at he
  simp at he
 ·have e : txK disp (txN disp n) (.mk (.ofNat 8) nn tx ks p) (.ofNat 8) = [35, 117, 56, 40] ++ allT yr (yK tx) ++ [41] := rfl
  rw [e] at he
  simp at he
 ·cases he
 ·cases he
open Nat (reduceEqDiff reduceLeDiff reduceLT reduceAdd reduceMul reduceSub reduceMod reducePow reduceDiv reduceOr reduceShiftLeft reduceGT reduceSucc)
open List (length_cons length_nil length_take length_drop)
open Int (reduceOfNat reduceNegSucc)
set_option maxRecDepth 100000
theorem Yz (i : Nat) (l : List Nat) : z4 i (xo l) = xo (l.drop i) := Xl i l
def PreQ (t : List Nat) : Prop := okC t = true ∧ Byt t ∧ t.length < 1000000
noncomputable def XB : List AV → St → Option (AV × St) := orc0 encS PreQ (fun t => .str (y7 false t))
theorem V9 {O : Orc} (h : O 46 = some XB) {t : List Nat} (ht : PreQ t) (s : St) : (evW env O).call 46 [.str t] s = some (.str (y7 false t), s) := by
 rw [zq h, XB, zT uo s t ht rfl]
theorem VD {P : Program} {w0 : World} (B : Bx P w0) {O : Orc} (hO : OrcOk P w0 O) (h28 : O 28 = some ud) (h44 : O 44 = some gPut) (h78 : O 78 = some gHex) (t : List Nat) (ht : PreQ t) :
  SC P w0 46 (encS t) (H [] 0 true) (.str (y7 false t)) (H [] 0 true) := by
 refine Is.sc hO B.mixed B.glob B.env 0 (show env.funs.get 46 = some f46 from rfl) (Nat.le_of_ble_eq_true rfl) z8 fun C k => ?_
 obtain ⟨t1, t2, t3⟩ := ht
 have hco := jk (f := 28) h28 t2 t3
 obtain ⟨cs, hcs⟩ : ∃ cs, yW t = some cs := Option.isSome_iff_exists.1 t1
 have hrg := U9 hcs
 have hval : ∀ c ∈ cs, zr c = true := by rw [hrg]; exact ge _ _
 have hlen : cs.length ≤ t.length := by rw [hrg]; exact Yd _ _
 simp only [wo, hcs] at hco
 obtain ⟨T, hT⟩ : ∃ T, T = 34 :: qs cs := ⟨_, rfl⟩
 have hTW : y7 false t = T ++ [34] := by rw [hT, hrg]; rfl
 have hTl : T.length ≤ 5000001 := by
  have := Qm cs
  rw [hT, List.length_cons]; omega
 rw [hTW]
 unfold f46
 simp only [Ko, Kg, Ki]
 refine ze (k.eval (by simp (disch := first | exact dis | fail) only [go_sem, seval, -reduceOfNat, -reduceNegSucc, encS]; exact rfl) ?_)
 simp only [za]
 refine ze (k.eval (by simp (disch := first | exact dis | fail) only [go_sem, seval, -reduceOfNat, -reduceNegSucc, hco]; exact rfl) ?_)
 simp only [za]
 refine ze (k.eval (by simp (disch := first | exact dis | fail) only [go_sem, seval, -reduceOfNat, -reduceNegSucc]; exact rfl) ?_)
 simp only [za]
 refine wH ⟨tmL [(5, .str T)], []⟩ (H [] 0 true) ?_ ?_
 ·
  refine ze (k.eval (by simp (disch := first | exact dis | fail) only [go_sem, seval, -reduceOfNat, -reduceNegSucc]; exact rfl) ?_)
  simp only [za]
  refine zw (zI (k.gcL [] [6, 5, 3] true (fr1 := ⟨tmL [(6, .int .i64 (.ofNat 0)), (5, .str [34]), (3, .lst cs.length false (xo cs))], []⟩) (s1 := H [] 0 true) (by simp (disch := first | exact dis | fail) only [go_sem, seval, -reduceOfNat, -reduceNegSucc]) ?_))
  refine zV (fun x : Nat × List Nat => cs.length - x.1) (fun x => ⟨tmL [(6, .int .i64 (.ofNat x.1)), (5, .str x.2), (3, .lst cs.length false (xo cs))], []⟩) (fun _ => H [] 0 true) (fun x => x.1 ≤ cs.length ∧ x.2 ++ qs (cs.drop x.1) = T) (fun x hx => ?_) (0, [34]) ⟨Nat.zero_le _, hT.symm⟩
  obtain ⟨i, out⟩ := x
  obtain ⟨g1, g2⟩ := hx
  simp only at g1 g2 ⊢
  have gl := congrArg List.length g2
  rw [List.length_append] at gl
  rcases zS cs i with ⟨hi, hd⟩ | ⟨c, hi, hd⟩
  ·have hlt : ¬ i < cs.length := by omega
   rw [hd, show qs [] = [] from rfl, List.append_nil] at g2
   subst g2
   refine k.eval (by simp (disch := first | exact dis | fail) only [go_sem, seval, -reduceOfNat, -reduceNegSucc, hlt]; exact rfl) ?_
   try simp only [za, zg, Cut]
   refine k.gcs (keep := []) (live := [5]) (md := true) ?_
   simp (disch := first | exact dis | fail) only [go_sem, seval, -reduceOfNat, -reduceNegSucc]
  ·have hv : zr c = true := hval c (List.mem_of_mem_drop (show c ∈ cs.drop i by rw [hd]; simp))
   have hput := pa h44 hv
   have hcl := wD c
   have hql := qV c
   have hxl := vv c
   have hdr : z4 i (xo cs) = .int .i64 (.ofNat c) :: xo (cs.drop (i + 1)) := by rw [Yz, hd, qa]
   rw [hd, jW, ← List.append_assoc] at g2
   have hA1 : (out ++ [92]).length = out.length + 1 := by simp
   have hA2 : (out ++ [92, 120]).length = out.length + 2 := by simp
   have hA3 : (out ++ [92, 120] ++ hexS c).length = out.length + 2 + (hexS c).length := by simp; omega
   by_cases c0 : c = 34
   ·have e : zZ c = 92 :: encC c := by unfold zZ; rw [if_pos (.inl c0)]
    rw [e] at g2
    subst c0
    refine k.eval (by simp (disch := first | exact dis | fail) only [go_sem, seval, -reduceOfNat, -reduceNegSucc, hi, hdr, hput]; exact rfl) ?_
    try simp only [za]
    refine ⟨(i + 1, out ++ 92 :: encC 34), ⟨by simp only; omega, g2⟩, by simp only; omega, ?_⟩
    refine k.gcs (keep := []) (live := [6, 5, 3]) (md := true) ?_
    simp (disch := first | exact dis | fail) only [go_sem, seval, -reduceOfNat, -reduceNegSucc, List.append_assoc]
   by_cases c9 : c = 92
   ·have e : zZ c = 92 :: encC c := by unfold zZ; rw [if_pos (.inr c9)]
    rw [e] at g2
    subst c9
    refine k.eval (by simp (disch := first | exact dis | fail) only [go_sem, seval, -reduceOfNat, -reduceNegSucc, hi, hdr, hput]; exact rfl) ?_
    try simp only [za]
    refine ⟨(i + 1, out ++ 92 :: encC 92), ⟨by simp only; omega, g2⟩, by simp only; omega, ?_⟩
    refine k.gcs (keep := []) (live := [6, 5, 3]) (md := true) ?_
    simp (disch := first | exact dis | fail) only [go_sem, seval, -reduceOfNat, -reduceNegSucc, List.append_assoc]
   by_cases c2 : c = 10
   ·have e : zZ c = [92, 110] := by unfold zZ; rw [if_neg (by omega), if_pos c2]
    rw [e] at g2
    subst c2
    refine k.eval (by simp (disch := first | exact dis | fail) only [go_sem, seval, -reduceOfNat, -reduceNegSucc, hi, hdr, hput]; exact rfl) ?_
    try simp only [za]
    refine ⟨(i + 1, out ++ [92, 110]), ⟨by simp only; omega, g2⟩, by simp only; omega, ?_⟩
    refine k.gcs (keep := []) (live := [6, 5, 3]) (md := true) ?_
    simp (disch := first | exact dis | fail) only [go_sem, seval, -reduceOfNat, -reduceNegSucc]
   by_cases c3 : c = 9
   ·have e : zZ c = [92, 116] := by unfold zZ; rw [if_neg (by omega), if_neg c2, if_pos c3]
    rw [e] at g2
    subst c3
    refine k.eval (by simp (disch := first | exact dis | fail) only [go_sem, seval, -reduceOfNat, -reduceNegSucc, hi, hdr, hput]; exact rfl) ?_
    try simp only [za]
    refine ⟨(i + 1, out ++ [92, 116]), ⟨by simp only; omega, g2⟩, by simp only; omega, ?_⟩
    refine k.gcs (keep := []) (live := [6, 5, 3]) (md := true) ?_
    simp (disch := first | exact dis | fail) only [go_sem, seval, -reduceOfNat, -reduceNegSucc]
   cases hc : xj c with
   | true =>
    have e : zZ c = 92 :: 120 :: (hexS c ++ [59]) := by unfold zZ; rw [if_neg (by omega), if_neg c2, if_neg c3, if_pos hc]
    rw [e] at g2
    have hhx := X6 h78 hc
    by_cases c4 : c < 32
    ·
     refine k.eval (by simp (disch := first | exact dis | fail) only [go_sem, seval, -reduceOfNat, -reduceNegSucc, hi, hdr, hput, c0, c9, c2, c3, c4, hhx]; exact rfl) ?_
     try simp only [za]
     refine ⟨(i + 1, out ++ 92 :: 120 :: (hexS c ++ [59])), ⟨by simp only; omega, g2⟩, by simp only; omega, ?_⟩
     refine k.gcs (keep := []) (live := [6, 5, 3]) (md := true) ?_
     simp (disch := first | exact dis | fail) only [go_sem, seval, -reduceOfNat, -reduceNegSucc, List.append_assoc]
    ·obtain rfl : c = 127 := by simp [xj] at hc; omega
     refine k.eval (by simp (disch := first | exact dis | fail) only [go_sem, seval, -reduceOfNat, -reduceNegSucc, hi, hdr, hput, hhx]; exact rfl) ?_
     try simp only [za]
     refine ⟨(i + 1, out ++ 92 :: 120 :: (hexS 127 ++ [59])), ⟨by simp only; omega, g2⟩, by simp only; omega, ?_⟩
     refine k.gcs (keep := []) (live := [6, 5, 3]) (md := true) ?_
     simp (disch := first | exact dis | fail) only [go_sem, seval, -reduceOfNat, -reduceNegSucc, List.append_assoc]
   | false =>
    have e : zZ c = encC c := by unfold zZ; rw [if_neg (by omega), if_neg c2, if_neg c3, if_neg (by simp [hc])]
    rw [e] at g2
    have c4 : ¬ c < 32 := fun h => by simp [xj] at hc; omega
    have c5 : ¬ c = 127 := fun h => by simp [xj] at hc; omega
    refine k.eval (by simp (disch := first | exact dis | fail) only [go_sem, seval, -reduceOfNat, -reduceNegSucc, hi, hdr, hput, c0, c9, c2, c3, c4, c5]; exact rfl) ?_
    try simp only [za]
    refine ⟨(i + 1, out ++ encC c), ⟨by simp only; omega, g2⟩, by simp only; omega, ?_⟩
    refine k.gcs (keep := []) (live := [6, 5, 3]) (md := true) ?_
    simp (disch := first | exact dis | fail) only [go_sem, seval, -reduceOfNat, -reduceNegSucc]
 ·
  refine k.eval (by simp (disch := first | exact dis | fail) only [go_sem, seval, -reduceOfNat, -reduceNegSucc]; exact rfl) ?_
  try simp only [za, zg, Cut, if_true]
  apply zd (Or.inr rfl)
  iterate 5 (simp (disch := first | exact dis | fail) only [go_sem, seval, -reduceOfNat, -reduceNegSucc] <;> exact rfl)
set_option maxRecDepth 100000
def wx (x : DT × Bool) : List AV := [encD x.1, .bool x.2]
theorem ZL : ∀ x y, wx x = wx y → x = y := fun ⟨d, b⟩ ⟨e, c⟩ h => by
 simp only [wx, List.cons.injEq, AV.bool.injEq, and_true] at h
 rw [vq h.1, h.2]
def zzY (n : Nat) (x : DT × Bool) : Prop := GoodD n x.1 ∧ (txN x.2 n x.1).length < 1000000
noncomputable def gTx (n : Nat) : List AV → St → Option (AV × St) := orc0 wx (zzY n) (fun x => .str (txN x.2 n x.1))
theorem hZ {O : Orc} {n : Nat} (h : O 22 = some (gTx n)) {d : DT} {disp : Bool} (hd : GoodD n d) (hl : (txN disp n d).length < 1000000) (s : St) : (evW env O).call 22 [.agg (zF d), .bool disp] s = some (.str (txN disp n d), s) := by
 rw [zq h, gTx, zT ZL s (d, disp) ⟨hd, hl⟩ (by simp only [wx, encD, wkL, wkV, x0])]
def ke (x : List DT × Bool) : List AV := [.lst x.1.length false (zl x.1), .bool x.2]
theorem Um : ∀ x y, ke x = ke y → x = y := fun ⟨d, b⟩ ⟨e, c⟩ h => by
 simp only [ke, List.cons.injEq, AV.lst.injEq, AV.bool.injEq, and_true, true_and] at h
 rw [wp h.1.2, h.2]
def zz8 (n : Nat) (x : List DT × Bool) : Prop := x.1.length < 1000000 ∧ (∀ d ∈ x.1, GoodD n d) ∧ (allT (txN x.2 n) x.1).length < 1000000
noncomputable def gTa (n : Nat) : List AV → St → Option (AV × St) := orc0 ke (zz8 n) (fun x => .str (allT (txN x.2 n) x.1))
theorem Vk {O : Orc} {n : Nat} (h : O 47 = some (gTa n)) {l : List DT} {disp : Bool} (hl : l.length < 1000000) (hd : ∀ d ∈ l, GoodD n d) (hx : (allT (txN disp n) l).length < 1000000) (s : St) : (evW env O).call 47 [.lst l.length false (zl l), .bool disp] s = some (.str (allT (txN disp n) l), s) := by
 rw [zq h, gTa, zT Um s (l, disp) ⟨hl, hd, hx⟩ (by simp only [ke, wkL, wkV, xH])]
theorem Uy {P : Program} {w0 : World} (B : Bx P w0) {O : Orc} (hO : OrcOk P w0 O) {n : Nat} (h22 : O 22 = some (gTx n)) (x : List DT × Bool) (hp : zz8 n x) :
  SC P w0 47 (ke x) (H [] 0 true) (.str (allT (txN x.2 n) x.1)) (H [] 0 true) := by
 refine Is.sc hO B.mixed B.glob B.env 0 (show env.funs.get 47 = some f47 from rfl) (Nat.le_of_ble_eq_true rfl) z8 fun C k => ?_
 obtain ⟨ls, disp⟩ := x
 obtain ⟨hl, hg, hb⟩ := hp
 simp only at hl hg hb ⊢
 generalize hf : txN disp n = f
 rw [hf] at hb
 generalize hT : allT f ls = T
 rw [hT] at hb
 unfold f47
 simp only [Ko, Ki]
 refine ze (k.eval (by simp (disch := first | exact dis | fail) only [go_sem, seval, -reduceOfNat, -reduceNegSucc, ke]; exact rfl) ?_)
 simp only [za]
 refine ze (k.eval (by simp (disch := first | exact dis | fail) only [go_sem, seval, -reduceOfNat, -reduceNegSucc]; exact rfl) ?_)
 simp only [za]
 refine wH ⟨tmL [(5, .str T)], []⟩ (H [] 0 true) ?_ ?_
 ·
  refine ze (k.eval (by simp (disch := first | exact dis | fail) only [go_sem, seval, -reduceOfNat, -reduceNegSucc]; exact rfl) ?_)
  simp only [za]
  refine zw (zI (k.gcL [] [6, 5, 1, 0] true (fr1 := ⟨tmL [(6, .int .i64 (.ofNat 0)), (5, .str []), (1, .bool disp), (0, .lst ls.length false (zl ls))], []⟩) (s1 := H [] 0 true) (by simp (disch := first | exact dis | fail) only [go_sem, seval, -reduceOfNat, -reduceNegSucc]) ?_))
  refine zV (fun x : Nat × List Nat => ls.length - x.1) (fun x => ⟨tmL [(6, .int .i64 (.ofNat x.1)), (5, .str x.2), (1, .bool disp), (0, .lst ls.length false (zl ls))], []⟩) (fun _ => H [] 0 true) (fun x => x.1 ≤ ls.length ∧ x.2 ++ wM f x.1 (ls.drop x.1) = T) (fun x hx => ?_) (0, []) ⟨Nat.zero_le _, hT⟩
  obtain ⟨i, out⟩ := x
  obtain ⟨g1, g2⟩ := hx
  simp only at g1 g2 ⊢
  rcases zS ls i with ⟨hi, hd⟩ | ⟨d, hi, hd⟩
  ·have hlt : ¬ i < ls.length := by omega
   have e : wM f i [] = [] := by cases i <;> rfl
   rw [hd, e, List.append_nil] at g2
   subst g2
   refine k.eval (by simp (disch := first | exact dis | fail) only [go_sem, seval, -reduceOfNat, -reduceNegSucc, hlt]; exact rfl) ?_
   try simp only [za, zg, Cut]
   refine k.gcs (keep := []) (live := [5]) (md := true) ?_
   simp (disch := first | exact dis | fail) only [go_sem, seval, -reduceOfNat, -reduceNegSucc]
  ·have hgd := hg d (List.mem_of_mem_drop (show d ∈ ls.drop i by rw [hd]; simp))
   have hlen := congrArg List.length g2
   rw [hd, List.length_append] at hlen
   cases i with
   | zero =>
    have e : wM f 0 (d :: ls.drop (0 + 1)) = f d ++ wB f (ls.drop 1) := rfl
    rw [hd, e] at g2
    rw [e, List.length_append] at hlen
    have hcall := hZ (disp := disp) h22 hgd (by rw [hf]; omega)
    rw [hf] at hcall
    obtain ⟨dk, dn, dt, dks, dp⟩ := d
    simp only [zb] at hcall
    have hdr : yh 5 (zl ls) = some (zF (DT.mk dk dn dt dks dp)) := by
     rw [show ls = ls.drop 0 from rfl, hd, zM]; exact gu _ _
    simp only [zb] at hdr
    refine k.eval (by simp (disch := first | exact dis | fail) only [go_sem, seval, -reduceOfNat, -reduceNegSucc, hi, hdr, hcall]; exact rfl) ?_
    try simp only [za]
    refine ⟨(1, out ++ f (.mk dk dn dt dks dp)), ⟨by simp only; omega, by simp only [wM]; rw [List.append_assoc]; exact g2⟩, by simp only; omega, ?_⟩
    refine k.gcs (keep := []) (live := [6, 5, 1, 0]) (md := true) ?_
    simp (disch := first | exact dis | fail) only [go_sem, seval, -reduceOfNat, -reduceNegSucc]
   | succ i =>
    have e : wM f (i + 1) (d :: ls.drop (i + 1 + 1)) = 32 :: (f d ++ wB f (ls.drop (i + 2))) := rfl
    rw [hd, e] at g2
    rw [e, List.length_cons, List.length_append] at hlen
    have hcall := hZ (disp := disp) h22 hgd (by rw [hf]; omega)
    rw [hf] at hcall
    have hl1 : (out ++ [32]).length = out.length + 1 := by simp
    obtain ⟨dk, dn, dt, dks, dp⟩ := d
    simp only [zb] at hcall
    refine k.eval (by simp (disch := first | exact dis | fail) only [go_sem, seval, -reduceOfNat, -reduceNegSucc, hi, yu, hd, zM, zb, hcall]; exact rfl) ?_
    try simp only [za]
    refine ⟨(i + 2, out ++ [32] ++ f (.mk dk dn dt dks dp)), ⟨by simp only; omega, by simp only [wM]; rw [← g2]; simp⟩, by simp only; omega, ?_⟩
    refine k.gcs (keep := []) (live := [6, 5, 1, 0]) (md := true) ?_
    simp (disch := first | exact dis | fail) only [go_sem, seval, -reduceOfNat, -reduceNegSucc, List.append_assoc]
 ·
  refine k.eval (by simp (disch := first | exact dis | fail) only [go_sem, seval, -reduceOfNat, -reduceNegSucc]; exact rfl) ?_
  try simp only [za, zg, Cut, if_true]
  apply zd (Or.inr rfl)
  iterate 5 (simp (disch := first | exact dis | fail) only [go_sem, seval, -reduceOfNat, -reduceNegSucc] <;> exact rfl)
theorem WG {P : Program} {w0 : World} (B : Bx P w0) {O : Orc} (hO : OrcOk P w0 O) (h27 : O 27 = some gItm) (h44 : O 44 = some gPut) (h45 : O 45 = some vN) (h46 : O 46 = some XB) (h48 : O 48 = some gF) {n : Nat} (hn : n ≤ 100000) (h22 : O 22 = some (gTx n)) (h47 : O 47 = some (gTa n)) (x : DT × Bool) (hp : zzY (n + 1) x) :
  SC P w0 22 (wx x) (H [] 0 true) (.str (txN x.2 (n + 1) x.1)) (H [] 0 true) := by
 refine Is.sc hO B.mixed B.glob B.env 0 (show env.funs.get 22 = some f22 from rfl) (Nat.le_of_ble_eq_true rfl) z8 fun C k => ?_
 obtain ⟨d, disp⟩ := x
 obtain ⟨hg, hb⟩ := hp
 simp only at hg hb ⊢
 have htx := hg.2.1
 obtain ⟨kd, nn, tx, ks, p⟩ := d
 simp only [TxD] at htx
 obtain ⟨tx1, tx2, tx3⟩ := htx
 obtain ⟨T, hT⟩ : ∃ T, T = txN disp (n + 1) (.mk kd nn tx ks p) := ⟨_, rfl⟩
 rw [← hT] at hb ⊢
 rw [show txN disp (n + 1) (.mk kd nn tx ks p) = txK disp (txN disp n) (.mk kd nn tx ks p) kd from rfl] at hT
 have hcs := qp hg.1
 unfold f22
 simp only [Ko, Kn, Ki]
 refine ze (k.eval (by simp (disch := first | exact dis | fail) only [go_sem, seval, -reduceOfNat, -reduceNegSucc, wx, encD, zb]; exact rfl) ?_)
 simp only [za]
 rcases hcs with rfl | ⟨rfl, hcs⟩ | ⟨rfl, hcs⟩ | ⟨rfl, c, rfl, hv⟩ | ⟨rfl, hcs⟩ | ⟨rfl, hcs⟩ | ⟨rfl, hcs⟩ | ⟨rfl, hcs⟩ | rfl | rfl | rfl
 ·have e : T = [40, 41] := hT
  subst e
  refine k.eval (by simp (disch := first | exact dis | fail) only [go_sem, seval, -reduceOfNat, -reduceNegSucc]; exact rfl) ?_
  try simp only [za, zg, Cut, if_true]
  apply zd (Or.inr rfl)
  iterate 5 (simp (disch := first | exact dis | fail) only [go_sem, seval, -reduceOfNat, -reduceNegSucc] <;> exact rfl)
 ·rcases hcs with rfl | rfl
  ·have e : T = [35, 102] := hT
   subst e
   refine k.eval (by simp (disch := first | exact dis | fail) only [go_sem, seval, -reduceOfNat, -reduceNegSucc]; exact rfl) ?_
   try simp only [za, zg, Cut, if_true]
   apply zd (Or.inr rfl)
   iterate 5 (simp (disch := first | exact dis | fail) only [go_sem, seval, -reduceOfNat, -reduceNegSucc] <;> exact rfl)
  ·have e : T = [35, 116] := hT
   subst e
   refine k.eval (by simp (disch := first | exact dis | fail) only [go_sem, seval, -reduceOfNat, -reduceNegSucc]; exact rfl) ?_
   try simp only [za, zg, Cut, if_true]
   apply zd (Or.inr rfl)
   iterate 5 (simp (disch := first | exact dis | fail) only [go_sem, seval, -reduceOfNat, -reduceNegSucc] <;> exact rfl)
 ·have e : T = tx := hT
  subst e
  refine k.eval (by simp (disch := first | exact dis | fail) only [go_sem, seval, -reduceOfNat, -reduceNegSucc]; exact rfl) ?_
  try simp only [za, zg, Cut, if_true]
  apply zd (Or.inr rfl)
  iterate 5 (simp (disch := first | exact dis | fail) only [go_sem, seval, -reduceOfNat, -reduceNegSucc] <;> exact rfl)
 ·cases disp with
  | true =>
   have e : T = encC c := hT
   subst e
   have hput := pa h44 hv
   refine k.eval (by simp (disch := first | exact dis | fail) only [go_sem, seval, -reduceOfNat, -reduceNegSucc, hput]; exact rfl) ?_
   try simp only [za, zg, Cut, if_true]
   apply zd (Or.inr rfl)
   iterate 5 (simp (disch := first | exact dis | fail) only [go_sem, seval, -reduceOfNat, -reduceNegSucc] <;> exact rfl)
  | false =>
   have e : T = 35 :: 92 :: x7 c := hT
   have hch := jp (f := 45) h45 hv
   have hnl := vY c
   subst e
   refine k.eval (by simp (disch := first | exact dis | fail) only [go_sem, seval, -reduceOfNat, -reduceNegSucc, hch]; exact rfl) ?_
   try simp only [za, zg, Cut, if_true]
   apply zd (Or.inr rfl)
   iterate 5 (simp (disch := first | exact dis | fail) only [go_sem, seval, -reduceOfNat, -reduceNegSucc] <;> exact rfl)
 ·cases disp with
  | true =>
   have e : T = tx := hT
   subst e
   refine k.eval (by simp (disch := first | exact dis | fail) only [go_sem, seval, -reduceOfNat, -reduceNegSucc]; exact rfl) ?_
   try simp only [za, zg, Cut, if_true]
   apply zd (Or.inr rfl)
   iterate 5 (simp (disch := first | exact dis | fail) only [go_sem, seval, -reduceOfNat, -reduceNegSucc] <;> exact rfl)
  | false =>
   have e : T = y7 false tx := hT
   subst e
   have hq := V9 h46 (t := tx) ⟨hcs, tx1, by omega⟩
   refine k.eval (by simp (disch := first | exact dis | fail) only [go_sem, seval, -reduceOfNat, -reduceNegSucc, hq]; exact rfl) ?_
   try simp only [za, zg, Cut, if_true]
   apply zd (Or.inr rfl)
   iterate 5 (simp (disch := first | exact dis | fail) only [go_sem, seval, -reduceOfNat, -reduceNegSucc] <;> exact rfl)
 ·have e : T = tx := hT
  subst e
  refine k.eval (by simp (disch := first | exact dis | fail) only [go_sem, seval, -reduceOfNat, -reduceNegSucc]; exact rfl) ?_
  try simp only [za, zg, Cut, if_true]
  apply zd (Or.inr rfl)
  iterate 5 (simp (disch := first | exact dis | fail) only [go_sem, seval, -reduceOfNat, -reduceNegSucc] <;> exact rfl)
 ·have hit := hg.items rfl
  have hitm := vy (f := 27) h27 (d := .mk (.ofNat 6) nn tx ks p) (by omega)
  simp only [itR] at hitm
  have e : T = [40] ++ allT (txN disp n) (zm (.mk (.ofNat 6) nn tx ks p)).1 ++ endT (txN disp n) (zm (.mk (.ofNat 6) nn tx ks p)).2 ++ [41] := hT
  revert e hitm hit
  generalize (zm (.mk (.ofNat 6) nn tx ks p)).1 = l
  generalize (zm (.mk (.ofNat 6) nn tx ks p)).2 = ed
  intro hit hitm e
  obtain ⟨hit1, hit2, _, hit3⟩ := hit
  have hel := congrArg List.length e
  simp only [List.length_append, List.length_cons, List.length_nil] at hel
  have hta := Vk (disp := disp) h47 (by omega) hit1 (by omega)
  by_cases hek : yV ed = .ofNat 0
  ·rw [show endT (txN disp n) ed = [] from if_pos hek] at e
   obtain ⟨ek, en, et, eks, ep⟩ := ed
   simp only [yV] at hek
   subst hek
   simp only [encD, zb] at hitm
   obtain ⟨A, hA⟩ : ∃ A, A = allT (txN disp n) l := ⟨_, rfl⟩
   rw [← hA] at e hel hta
   have e2 : T = 40 :: (A ++ [41]) := by rw [e]; simp
   subst e2
   refine ze (k.eval (by simp (disch := first | exact dis | fail) only [go_sem, seval, -reduceOfNat, -reduceNegSucc]; exact rfl) ?_)
   simp only [za]
   refine ze (k.eval (by simp (disch := first | exact dis | fail) only [go_sem, seval, -reduceOfNat, -reduceNegSucc, hitm]; exact rfl) ?_)
   simp only [za]
   refine ze (k.eval (by simp (disch := first | exact dis | fail) only [go_sem, seval, -reduceOfNat, -reduceNegSucc, hta]; exact rfl) ?_)
   simp only [za]
   refine k.eval (by simp (disch := first | exact dis | fail) only [go_sem, seval, -reduceOfNat, -reduceNegSucc]; exact rfl) ?_
   try simp only [za, zg, Cut, if_true]
   apply zd (Or.inr rfl)
   iterate 5 (simp (disch := first | exact dis | fail) only [go_sem, seval, -reduceOfNat, -reduceNegSucc] <;> exact rfl)
  ·rw [show endT (txN disp n) ed = [32, 46, 32] ++ txN disp n ed from if_neg hek] at e hel
   simp only [List.length_append, List.length_cons, List.length_nil] at hel
   have htd := hZ (disp := disp) h22 hit2 (by omega)
   obtain ⟨ek, en, et, eks, ep⟩ := ed
   simp only [yV] at hek
   have hne := ym hek
   simp only [encD, zb] at hitm htd
   obtain ⟨A, hA⟩ : ∃ A, A = allT (txN disp n) l := ⟨_, rfl⟩
   obtain ⟨E, hE⟩ : ∃ E, E = txN disp n (.mk ek en et eks ep) := ⟨_, rfl⟩
   rw [← hA] at e hel hta
   rw [← hE] at e hel htd
   have e2 : T = 40 :: (A ++ 32 :: 46 :: 32 :: (E ++ [41])) := by rw [e]; simp
   subst e2
   have hlA : (A ++ [32, 46, 32]).length = A.length + 3 := by simp
   have hlB : (A ++ [32, 46, 32] ++ E).length = A.length + 3 + E.length := by simp; omega
   have hlC : (40 :: (A ++ [32, 46, 32])).length = A.length + 4 := by simp
   have hlD : (40 :: (A ++ [32, 46, 32] ++ E)).length = A.length + 4 + E.length := by simp; omega
   refine ze (k.eval (by simp (disch := first | exact dis | fail) only [go_sem, seval, -reduceOfNat, -reduceNegSucc]; exact rfl) ?_)
   simp only [za]
   refine ze (k.eval (by simp (disch := first | exact dis | fail) only [go_sem, seval, -reduceOfNat, -reduceNegSucc, hitm]; exact rfl) ?_)
   simp only [za]
   refine ze (k.eval (by simp (disch := first | exact dis | fail) only [go_sem, seval, -reduceOfNat, -reduceNegSucc, hta]; exact rfl) ?_)
   simp only [za]
   refine k.eval (by simp (disch := first | exact dis | fail) only [go_sem, seval, -reduceOfNat, -reduceNegSucc, hne, htd]; exact rfl) ?_
   try simp only [za, zg, Cut, if_true]
   apply zd (Or.inr rfl)
   iterate 5 (simp (disch := first | exact dis | fail) only [go_sem, seval, -reduceOfNat, -reduceNegSucc, List.append_assoc] <;> exact rfl)
 ·have e : T = [35, 40] ++ allT (txN disp n) ks ++ [41] := hT
  have hkl := yL ks
  have hkw := hg.2.2
  simp only [wtD, zu] at hkw
  have hel := congrArg List.length e
  simp only [List.length_append, List.length_cons, List.length_nil] at hel
  have hta := Vk (disp := disp) h47 (l := ks) (by omega) (hg.kids rfl) (by omega)
  revert e hel hta
  generalize allT (txN disp n) ks = A
  intro e hel hta
  have e2 : T = 35 :: 40 :: (A ++ [41]) := by rw [e]; simp
  subst e2
  refine k.eval (by simp (disch := first | exact dis | fail) only [go_sem, seval, -reduceOfNat, -reduceNegSucc, hta]; exact rfl) ?_
  try simp only [za, zg, Cut, if_true]
  apply zd (Or.inr rfl)
  iterate 5 (simp (disch := first | exact dis | fail) only [go_sem, seval, -reduceOfNat, -reduceNegSucc] <;> exact rfl)
 ·have hn1 : 1 ≤ n := by have := hg.2.2; simp only [wtD, zu, yV, if_true] at this; omega
  have e : T = [35, 117, 56, 40] ++ allT yr (yK tx) ++ [41] := by rw [hT]; simp [txK, yr]
  have hel := congrArg List.length e
  simp only [List.length_append, List.length_cons, List.length_nil] at hel
  obtain ⟨A, hA⟩ : ∃ A, A = allT yr (yK tx) := ⟨_, rfl⟩
  rw [← hA] at e hel
  have e2 : T = 35 :: 117 :: 56 :: 40 :: (A ++ [41]) := by rw [e]; simp
  refine ze ?_
  refine ze (k.eval (by simp (disch := first | exact dis | fail) only [go_sem, seval, -reduceOfNat, -reduceNegSucc]; exact rfl) ?_)
  simp only [za]
  refine zw ?_
  refine ze (k.eval (by simp (disch := first | exact dis | fail) only [go_sem, seval, -reduceOfNat, -reduceNegSucc]; exact rfl) ?_)
  simp only [za]
  refine qC (b := false) (by simp (disch := first | exact dis | fail) only [go_sem, seval, -reduceOfNat, -reduceNegSucc]) ?_
  simp only [cond_false]
  refine ze (k.eval (by simp (disch := first | exact dis | fail) only [go_sem, seval, -reduceOfNat, -reduceNegSucc]; exact rfl) ?_)
  simp only [za]
  refine qC (b := false) (by simp (disch := first | exact dis | fail) only [go_sem, seval, -reduceOfNat, -reduceNegSucc]) ?_
  simp only [cond_false]
  refine ze (k.eval (by simp (disch := first | exact dis | fail) only [go_sem, seval, -reduceOfNat, -reduceNegSucc]; exact rfl) ?_)
  simp only [za]
  refine qC (b := false) (by simp (disch := first | exact dis | fail) only [go_sem, seval, -reduceOfNat, -reduceNegSucc]) ?_
  simp only [cond_false]
  refine ze (k.eval (by simp (disch := first | exact dis | fail) only [go_sem, seval, -reduceOfNat, -reduceNegSucc]; exact rfl) ?_)
  simp only [za]
  refine qC (b := false) (by simp (disch := first | exact dis | fail) only [go_sem, seval, -reduceOfNat, -reduceNegSucc]) ?_
  simp only [cond_false]
  refine ze (k.eval (by simp (disch := first | exact dis | fail) only [go_sem, seval, -reduceOfNat, -reduceNegSucc]; exact rfl) ?_)
  simp only [za]
  refine qC (b := false) (by simp (disch := first | exact dis | fail) only [go_sem, seval, -reduceOfNat, -reduceNegSucc]) ?_
  simp only [cond_false]
  refine ze (k.eval (by simp (disch := first | exact dis | fail) only [go_sem, seval, -reduceOfNat, -reduceNegSucc]; exact rfl) ?_)
  simp only [za]
  refine qC (b := false) (by simp (disch := first | exact dis | fail) only [go_sem, seval, -reduceOfNat, -reduceNegSucc]) ?_
  simp only [cond_false]
  refine ze (k.eval (by simp (disch := first | exact dis | fail) only [go_sem, seval, -reduceOfNat, -reduceNegSucc]; exact rfl) ?_)
  simp only [za]
  refine qC (b := true) (by simp (disch := first | exact dis | fail) only [go_sem, seval, -reduceOfNat, -reduceNegSucc]) ?_
  simp only [cond_true]
  refine ze (k.eval (by simp (disch := first | exact dis | fail) only [go_sem, seval, -reduceOfNat, -reduceNegSucc]; exact rfl) ?_)
  simp only [za]
  refine wH ⟨tmL [(7, .str A)], []⟩ (H [some (drow (.mk (.ofNat 8) nn tx ks p))] 0 true) ?_ ?_
  ·
   refine ze (k.eval (by simp (disch := first | exact dis | fail) only [go_sem, seval, -reduceOfNat, -reduceNegSucc]; exact rfl) ?_)
   simp only [za]
   refine zw (zI (k.gcL [0] [8, 7, 2] true (fr1 := ⟨tmL [(8, .int .i64 (.ofNat 0)), (7, .str []), (2, .ptr 0 0)], []⟩) (s1 := H [some (drow (.mk (.ofNat 8) nn tx ks p))] 0 true) (by simp (disch := first | exact dis | fail) only [go_sem, seval, -reduceOfNat, -reduceNegSucc, drow, zb]) ?_))
   refine zV (fun x : Nat × List Nat => tx.length - x.1) (fun x => ⟨tmL [(8, .int .i64 (.ofNat x.1)), (7, .str x.2), (2, .ptr 0 0)], []⟩) (fun _ => H [some (drow (.mk (.ofNat 8) nn tx ks p))] 0 true) (fun x => x.1 ≤ tx.length ∧ x.2 ++ wM yr x.1 (yK (tx.drop x.1)) = A) (fun x hx => ?_) (0, []) ⟨Nat.zero_le _, hA.symm⟩
   obtain ⟨i, out⟩ := x
   obtain ⟨g1, g2⟩ := hx
   simp only at g1 g2 ⊢
   rcases zS tx i with ⟨hi, hd⟩ | ⟨c, hi, hd⟩
   ·have hlt : ¬ i < tx.length := by omega
    have e : wM yr i (yK []) = [] := by cases i <;> rfl
    rw [hd, e, List.append_nil] at g2
    subst g2
    refine k.eval (by simp (disch := first | exact dis | fail) only [go_sem, seval, -reduceOfNat, -reduceNegSucc, drow, zb, hlt]; exact rfl) ?_
    try simp only [za, zg, Cut]
    refine k.gcs (keep := [0]) (live := [7]) (md := true) ?_
    simp (disch := first | exact dis | fail) only [go_sem, seval, -reduceOfNat, -reduceNegSucc, drow, zb]
   ·have hc : c < 256 := tx1 c (List.mem_of_mem_drop (show c ∈ tx.drop i by rw [hd]; simp))
    have hit := pP (f := 48) h48 hc
    have hgs : getS tx i = some c := by rw [jU, ← List.head?_drop, hd]; rfl
    have hil := (kO c).1
    have hlen := congrArg List.length g2
    rw [List.length_append] at hlen
    cases i with
    | zero =>
     have e : wM yr 0 (yK (c :: tx.drop (0 + 1))) = wd c ++ wB yr (yK (tx.drop 1)) := rfl
     rw [hd, e] at g2
     refine k.eval (by simp (disch := first | exact dis | fail) only [go_sem, seval, -reduceOfNat, -reduceNegSucc, drow, zb, hi, hgs, hit]; exact rfl) ?_
     try simp only [za]
     refine ⟨(1, out ++ wd c), ⟨by simp only; omega, by simp only [wM]; rw [List.append_assoc]; exact g2⟩, by simp only; omega, ?_⟩
     refine k.gcs (keep := [0]) (live := [8, 7, 2]) (md := true) ?_
     simp (disch := first | exact dis | fail) only [go_sem, seval, -reduceOfNat, -reduceNegSucc, drow, zb]
    | succ i =>
     have e : wM yr (i + 1) (yK (c :: tx.drop (i + 1 + 1))) = 32 :: (wd c ++ wB yr (yK (tx.drop (i + 2)))) := rfl
     rw [hd, e] at g2
     have hl1 : (out ++ [32]).length = out.length + 1 := by simp
     refine k.eval (by simp (disch := first | exact dis | fail) only [go_sem, seval, -reduceOfNat, -reduceNegSucc, drow, zb, hi, hgs, hit]; exact rfl) ?_
     try simp only [za]
     refine ⟨(i + 2, out ++ [32] ++ wd c), ⟨by simp only; omega, by simp only [wM]; rw [← g2]; simp⟩, by simp only; omega, ?_⟩
     refine k.gcs (keep := [0]) (live := [8, 7, 2]) (md := true) ?_
     simp (disch := first | exact dis | fail) only [go_sem, seval, -reduceOfNat, -reduceNegSucc, drow, zb, List.append_assoc]
  ·subst e2
   refine k.eval (by simp (disch := first | exact dis | fail) only [go_sem, seval, -reduceOfNat, -reduceNegSucc, drow]; exact rfl) ?_
   try simp only [za, zg]
   apply zd (Or.inr rfl)
   iterate 5 (simp (disch := first | exact dis | fail) only [go_sem, seval, -reduceOfNat, -reduceNegSucc] <;> exact rfl)
 ·have e : T = [35, 33, 101, 111, 102] := hT
  subst e
  refine k.eval (by simp (disch := first | exact dis | fail) only [go_sem, seval, -reduceOfNat, -reduceNegSucc]; exact rfl) ?_
  try simp only [za, zg, Cut, if_true]
  apply zd (Or.inr rfl)
  iterate 5 (simp (disch := first | exact dis | fail) only [go_sem, seval, -reduceOfNat, -reduceNegSucc] <;> exact rfl)
 ·have e : T = [35, 33, 110, 111, 110, 101] := hT
  subst e
  refine k.eval (by simp (disch := first | exact dis | fail) only [go_sem, seval, -reduceOfNat, -reduceNegSucc]; exact rfl) ?_
  try simp only [za, zg, Cut, if_true]
  apply zd (Or.inr rfl)
  iterate 5 (simp (disch := first | exact dis | fail) only [go_sem, seval, -reduceOfNat, -reduceNegSucc] <;> exact rfl)
set_option maxRecDepth 100000
theorem Ge (j n : Nat) (h : n ≠ 0) : vUsd (.sl j 0 n (.opn 1)) = some (.ptr j 0) := by
 cases n with
 | zero => exact absurd rfl h
 | succ n => rfl
theorem lj {l : List Nat} (hb : Byt l) : yQ (some (zh l)) = some l := by rw [pA]; exact vh hb
theorem Kl {l : List (Nat × Option AObj)} {n m j k0 : Nat} {ks : List Nat} {b fz : Bool} {out : List Nat} {ik : IntKind} (hg : getA l j = some (.row 5 (zh out) true fz)) (hk : memN j ks = true) (h0 : out ≠ []) (hb : Byt out) (hl : out.length < 1000000000) :
  oUst (KL l n m b [] (some (k0, ks))) 5 (.ptr j 0) (.int ik (.ofNat out.length)) = some (.str out, KL ((j, some (.row 5 (zh out) true true)) :: l) n (mark m j) b [] (some (k0, ks))) := by
 obtain ⟨q, hq⟩ : ∃ q, out.length = q + 1 := by
  cases out with
  | nil => exact absurd rfl h0
  | cons a r => exact ⟨r.length, rfl⟩
 have hc : cut (zh out) 0 (Nat.succ q) = some (zh out) := by
  have := kx out; rw [Nat.mul_eq, Nat.mul_one, hq] at this; exact this
 have hget : (KL l n m b [] (some (k0, ks))).get j = some (.row 5 (zh out) true fz) := by
  rw [Vj, hk, hg]
  show (bif Nat.ble k0 j then _ else _) = _
  cases Nat.ble k0 j <;> rfl
 rw [hq]
 simp only [oUst, hget, zn.2 (rfl : (5 : Nat) = 5), zN.2 (show q < 9223372036854775807 by omega), Bool.and_self, cond_true, hc, lj hb]
 rfl
theorem Lj {l : List (Nat × Option AObj)} {n m : Nat} {b : Bool} {on : Option (Nat × List Nat)} {ik : IntKind} : oUst (KL l n m b [] on) 5 .nilp (.int ik (.ofNat 0)) = some (.str [], KL l n m b [] on) := rfl
theorem UW : vUsd .nils = some .nilp := rfl
theorem Uu {O : Orc} (o36 : O 36 = none) (o72 : O 72 = none) (l : List (Nat × Option AObj)) (n m id : Nat) (b : Bool) (disp : Bool) (hi : id < n)
  (hw : getA l id = some (.row 54 [.nilp, .nils, .bool disp] false false)) :
  (evW env O).call 36 [.ptr id 0, .str []] (KL l n m b [] none) = some (.tup [.int .i64 (.ofNat 0), .nili], KL ((id, some (.row 54 [.ptr id 0, .nils, .bool disp] false false)) :: (id, some (.row 54 [.ptr id 0, .nils, .bool disp] false false)) :: l) n (mark (mark m id) id) b [] none) := by
 have c36 := @xA env O _ _ o36 (show env.funs.get 36 = some f36 from rfl) rfl
 have c72 := @z5 env O _ _ o72 (show env.funs.get 72 = some f72 from rfl) rfl
 have hm : ¬ (1 <<< id) % 2 ^ n = 0 := by
  rw [Nat.shiftLeft_eq, Nat.one_mul, Nat.mod_eq_of_lt (Nat.pow_lt_pow_right (by omega) hi)]
  exact Nat.ne_of_gt (Nat.two_pow_pos id)
 have q1 := fun m b => @Z4 l n m id _ b _ _ _ _ hw
 have q2 := fun m b => @Ym l n m id b _ _ _ _ hw
 have ap : ∀ s, appV s 5 1 1 .nils (.str []) = some (.nils, s) := fun _ => rfl
 simp (disch := first | exact dis | fail) only [go_sem, seval, -reduceOfNat, -reduceNegSucc, c36, f36, c72, f72, hw, Yq, decide_true, q1, q2, ap, Nat.zero_or, hm]
def zxu (n : Nat) (d : DT) (disp : Bool) : Prop := GoodD n d ∧ (txN disp n d).length < 1000000 ∧ txN disp n d ≠ []
noncomputable def gWd0 (n : Nat) : List AV → St → Option (AV × St) := jM 54 5 z3 (zxu n) (fun d disp => txN disp n d)
theorem HT {O : Orc} {n0 : Nat} (h : O 20 = some (gWd0 n0)) {d : DT} (hd : GoodD n0 d) (id : Nat) (disp : Bool) (o1 : List Nat) (h1 : o1 = txN disp n0 d) (ho : o1.length < 1000000) (h0 : o1 ≠ []) (l : List (Nat × Option AObj)) (n m : Nat) (b : Bool) (hi : id < n)
  (hw : getA l id = some (.row 54 [.nilp, .nils, .bool disp] false false)) :
  (evW env O).call 20 [.ptr id 0, .agg (zF d)] (KL l n m b [] none) = some (.tup [], KL ((n, some (.row 5 (zh o1) true false)) :: (id, some (.row 54 [.ptr id 0, .sl n 0 o1.length (.opn 1), .bool disp] false false)) :: l) (n + 1) (mark m id) b [] none) := by
 subst h1
 exact GD (E := env) h gM d disp ⟨hd, ho, h0⟩ l n m b id [.agg (zF d)] (by simp only [z3, encD, wkL, wkV, x0]) hi hw
noncomputable def xV (d : DT) (disp : Bool) : List Nat := if mayD d = true then txN disp 700 d else []
def XF (x : DT × Bool) : Prop := TxD x.1 ∧ zu x.1 < 300
noncomputable def gWr : List AV → St → Option (AV × St) := orc0 wx XF (fun x => .str (xV x.1 x.2))
theorem XQ {O : Orc} {f : Nat} (h : O f = some gWr) {d : DT} {disp : Bool} (ht : TxD d) (hn : zu d < 300) (s : St) : (evW env O).call f [.agg (zF d), .bool disp] s = some (.str (xV d disp), s) := by
 rw [zq h, gWr, zT ZL s (d, disp) ⟨ht, hn⟩ (by simp only [wx, encD, wkL, wkV, x0])]
theorem good700 {d : DT} (hm : mayD d = true) (ht : TxD d) (hn : zu d < 300) : GoodD 700 d := by
 refine ⟨hm, ht, ?_⟩
 unfold wtD
 split <;> omega
theorem KR {P : Program} {w0 : World} (B : Bx P w0) {O : Orc} (hO : OrcOk P w0 O) (o21 : O 21 = none) (h20 : O 20 = some (gWd0 700)) (h11 : O 11 = some (gMay 300)) {O2 : Orc} (hO2 : OrcOk P w0 O2) (q11 : O2 11 = some (gMay 300)) (q20 : O2 20 = none) (q21 : O2 21 = none) (q36 : O2 36 = none) (q39 : O2 39 = none) (q72 : O2 72 = none) (x : DT × Bool) (hp : XF x) :
  SC P w0 9 (wx x) (H [] 0 true) (.str (xV x.1 x.2)) (H [] 0 true) := by
 obtain ⟨d, disp⟩ := x
 obtain ⟨ht, hn⟩ := hp
 simp only at ht hn ⊢
 by_cases hm : mayD d = true
 ·have hg := good700 hm ht hn
  have hok := WO disp 700 d hg
  by_cases h0 : txN disp 700 d = []
  ·refine Is.sc hO2 B.mixed B.glob B.env 0 (show env.funs.get 9 = some f9 from rfl) (Nat.le_of_ble_eq_true rfl) z8 fun C k => ?_
   obtain ⟨e1, e2, e3⟩ := Jl (n := 699) hg h0
   have hmay := wc (f := 11) q11 ht hn
   rw [hm] at hmay
   have e : xV d disp = [] := by unfold xV; rw [if_pos hm, h0]
   rw [e]
   obtain ⟨kd, nn, tx, ks, p⟩ := d
   simp only [yV, yr] at e1 e3
   subst e1 e2 e3
   simp only [zb] at hmay
   have cdat := @z5 env O2 _ _ q20 (show env.funs.get 20 = some f20 from rfl) rfl
   have ctxt := @z5 env O2 _ _ q39 (show env.funs.get 39 = some f39 from rfl) rfl
   have cstr := @z5 env O2 _ _ q21 (show env.funs.get 21 = some f21 from rfl) rfl
   have hws := fun l nx m => Uu q36 q72 l nx m 1 true true
   unfold f9
   simp only [Ko]
   refine ze (k.eval (by simp (disch := first | exact dis | fail) only [go_sem, seval, -reduceOfNat, -reduceNegSucc, wx, encD, zb]; exact rfl) ?_)
   simp only [za]
   refine ze (k.eval (by simp (disch := first | exact dis | fail) only [go_sem, seval, -reduceOfNat, -reduceNegSucc, hmay]; exact rfl) ?_)
   simp only [za]
   refine ze (k.eval (by simp (disch := first | exact dis | fail) only [go_sem, seval, -reduceOfNat, -reduceNegSucc]; exact rfl) ?_)
   simp only [za]
   refine ze (k.eval (by simp (disch := first | exact dis | fail) only [go_sem, seval, -reduceOfNat, -reduceNegSucc, cdat, f20, ctxt, f39, hws]; exact rfl) ?_)
   simp only [za]
   refine k.eval (by simp (disch := first | exact dis | fail) only [go_sem, seval, -reduceOfNat, -reduceNegSucc, cstr, f21, UW, Lj]; exact rfl) ?_
   try simp only [za, zg, Cut, if_true]
   apply zd (Or.inr rfl)
   iterate 5 (simp (disch := first | exact dis | fail) only [go_sem, seval, -reduceOfNat, -reduceNegSucc] <;> exact rfl)
  ·refine Is.sc hO B.mixed B.glob B.env 0 (show env.funs.get 9 = some f9 from rfl) (Nat.le_of_ble_eq_true rfl) z8 fun C k => ?_
   have hmay := wc (f := 11) h11 ht hn
   rw [hm] at hmay
   obtain ⟨T, hT⟩ : ∃ T, T = txN disp 700 d := ⟨_, rfl⟩
   rw [← hT] at hok h0
   have e : xV d disp = T := by unfold xV; rw [if_pos hm, hT]
   have hl : T.length < 1000000 := by omega
   have hl0 : T.length ≠ 0 := fun h => h0 (List.length_eq_zero_iff.1 h)
   have hu := Ge 2 T.length hl0
   rw [e]
   have hwd := HT h20 hg 1 disp T hT hl h0
   have cstr := @z5 env O _ _ o21 (show env.funs.get 21 = some f21 from rfl) rfl
   have hus := fun l nx m k0 hg => @Kl l nx m 2 k0 [2] true false T .i64 hg rfl h0 hok.1 (by omega)
   obtain ⟨kd, nn, tx, ks, p⟩ := d
   simp only [zb] at hmay hwd
   unfold f9
   simp only [Ko]
   refine ze (k.eval (by simp (disch := first | exact dis | fail) only [go_sem, seval, -reduceOfNat, -reduceNegSucc, wx, encD, zb]; exact rfl) ?_)
   simp only [za]
   refine ze (k.eval (by simp (disch := first | exact dis | fail) only [go_sem, seval, -reduceOfNat, -reduceNegSucc, hmay]; exact rfl) ?_)
   simp only [za]
   refine ze (k.eval (by simp (disch := first | exact dis | fail) only [go_sem, seval, -reduceOfNat, -reduceNegSucc]; exact rfl) ?_)
   simp only [za]
   refine ze (k.eval (by simp (disch := first | exact dis | fail) only [go_sem, seval, -reduceOfNat, -reduceNegSucc, hwd]; exact rfl) ?_)
   simp only [za]
   refine k.eval (by simp (disch := first | exact dis | fail) only [go_sem, seval, -reduceOfNat, -reduceNegSucc, cstr, f21, hu, hus]; exact rfl) ?_
   try simp only [za, zg, Cut, if_true]
   apply zd (Or.inr rfl)
   iterate 5 (simp (disch := first | exact dis | fail) only [go_sem, seval, -reduceOfNat, -reduceNegSucc] <;> exact rfl)
 ·refine Is.sc hO B.mixed B.glob B.env 0 (show env.funs.get 9 = some f9 from rfl) (Nat.le_of_ble_eq_true rfl) z8 fun C k => ?_
  have hmay := wc (f := 11) h11 ht hn
  rw [Bool.eq_false_iff.2 hm] at hmay
  have e : xV d disp = [] := by unfold xV; rw [if_neg hm]
  rw [e]
  obtain ⟨kd, nn, tx, ks, p⟩ := d
  simp only [zb] at hmay
  unfold f9
  simp only [Ko]
  refine ze (k.eval (by simp (disch := first | exact dis | fail) only [go_sem, seval, -reduceOfNat, -reduceNegSucc, wx, encD, zb]; exact rfl) ?_)
  simp only [za]
  refine k.eval (by simp (disch := first | exact dis | fail) only [go_sem, seval, -reduceOfNat, -reduceNegSucc, hmay]; exact rfl) ?_
  try simp only [za, zg, Cut, if_true]
  apply zd (Or.inr rfl)
  iterate 5 (simp (disch := first | exact dis | fail) only [go_sem, seval, -reduceOfNat, -reduceNegSucc] <;> exact rfl)
theorem Xv {P : Program} {w0 : World} (B : Bx P w0) {O : Orc} (hO : OrcOk P w0 O) (h12 : O 12 = some (gMay 300)) (h22 : O 22 = some (gTx 700)) (x : DT × Bool) (hp : XF x) :
  SC P w0 10 (wx x) (H [] 0 true) (.str (xV x.1 x.2)) (H [] 0 true) := by
 obtain ⟨d, disp⟩ := x
 obtain ⟨ht, hn⟩ := hp
 simp only at ht hn ⊢
 refine Is.sc hO B.mixed B.glob B.env 0 (show env.funs.get 10 = some f10 from rfl) (Nat.le_of_ble_eq_true rfl) z8 fun C k => ?_
 have hmay := wc (f := 12) h12 ht hn
 by_cases hm : mayD d = true
 ·have hg := good700 hm ht hn
  have hok := WO disp 700 d hg
  have htx := hZ (disp := disp) h22 hg (by omega)
  have e : xV d disp = txN disp 700 d := by unfold xV; rw [if_pos hm]
  rw [e]
  rw [hm] at hmay
  obtain ⟨T, hT⟩ : ∃ T, T = txN disp 700 d := ⟨_, rfl⟩
  rw [← hT] at htx ⊢
  obtain ⟨kd, nn, tx, ks, p⟩ := d
  simp only [zb] at hmay htx
  unfold f10
  simp only [Ko]
  refine ze (k.eval (by simp (disch := first | exact dis | fail) only [go_sem, seval, -reduceOfNat, -reduceNegSucc, wx, encD, zb]; exact rfl) ?_)
  simp only [za]
  refine k.eval (by simp (disch := first | exact dis | fail) only [go_sem, seval, -reduceOfNat, -reduceNegSucc, hmay, htx]; exact rfl) ?_
  try simp only [za, zg, Cut, if_true]
  apply zd (Or.inr rfl)
  iterate 5 (simp (disch := first | exact dis | fail) only [go_sem, seval, -reduceOfNat, -reduceNegSucc] <;> exact rfl)
 ·rw [Bool.eq_false_iff.2 hm] at hmay
  have e : xV d disp = [] := by unfold xV; rw [if_neg hm]
  rw [e]
  obtain ⟨kd, nn, tx, ks, p⟩ := d
  simp only [zb] at hmay
  unfold f10
  simp only [Ko]
  refine ze (k.eval (by simp (disch := first | exact dis | fail) only [go_sem, seval, -reduceOfNat, -reduceNegSucc, wx, encD, zb]; exact rfl) ?_)
  simp only [za]
  refine k.eval (by simp (disch := first | exact dis | fail) only [go_sem, seval, -reduceOfNat, -reduceNegSucc, hmay]; exact rfl) ?_
  try simp only [za, zg, Cut, if_true]
  apply zd (Or.inr rfl)
  iterate 5 (simp (disch := first | exact dis | fail) only [go_sem, seval, -reduceOfNat, -reduceNegSucc] <;> exact rfl)
set_option maxRecDepth 100000
theorem add0 {P : Program} {w0 : World} {O : Orc} {α : Type} {f : Nat} {enc : α → List AV} {Pre : α → Prop} {F : α → AV} (hO : OrcOk P w0 O) (hp1 : ∀ x, zo (enc x) = true) (hp2 : ∀ x, zy (F x) = true) (h : ∀ x, Pre x → SC P w0 f (enc x) (H [] 0 true) (F x) (H [] 0 true)) : OrcOk P w0 (withG f (orc0 enc Pre F) O) :=
 hO.withG yP (qO true hp1 hp2 fun x hx => ⟨_, h x hx⟩)
noncomputable def OA : Orc := withG 51 gIs (withG 30 gIs (withG 77 gByt (withG 102 X8 (withG 117 X7 (withG 116 gIx (withG 29 gQ (withG 73 gFmt (withG 78 gHex (withG 76 gF (withG 48 gF (withG 19 gItm (withG 27 gItm noO))))))))))))
theorem Zp (c : Int) : zo (encI c) = true := rfl
theorem uU (c : Nat) : zo (encN c) = true := rfl
theorem zxl {P : Program} {w0 : World} (B : Bx P w0) : OrcOk P w0 OA := by
 have h0 := qe P w0
 have h1 := U7 B h0
 have h2 := J0 B h1
 have h3 := WX B h2
 have h4 := JB B h3
 have h5 := VE B h4
 have h6 : OrcOk P w0 (withG 29 gQ _) := add0 h5 qt (fun _ => rfl) fun x hx => V3 B h0 x hx.1 hx.2
 have h7 : OrcOk P w0 (withG 116 gIx _) := add0 h6 Uz (fun _ => rfl) fun x hx => zy2 B h0 rfl x hx.1 hx.2
 have h8 : OrcOk P w0 (withG 117 X7 _) := add0 h7 vu lN fun x hx => by
  obtain ⟨b0, r, rfl, hb, h1, h2⟩ := hx
  exact Pl B h0 b0 r hb h1 h2
 have h9 : OrcOk P w0 (withG 102 X8 _) := add0 h8 vu (fun _ => rfl) fun x hx => LW B h0 x hx.1 hx.2.1 hx.2.2
 have h10 : OrcOk P w0 (withG 77 gByt _) := add0 h9 uU (fun _ => Un _) fun x hx => zyt B h0 x hx
 have h11 : OrcOk P w0 (withG 30 gIs _) := add0 h10 Zp (fun _ => rfl) fun x _ => GG B h0 x
 exact add0 h11 Zp (fun _ => rfl) fun x _ => zxj B h0 rfl x
noncomputable def OB : Orc := withG 100 gDr (withG 44 gPut (withG 84 gGet (withG 50 gQ (withG 37 vN (withG 75 gQuo (withG 42 Za OA))))))
theorem zxm {P : Program} {w0 : World} (B : Bx P w0) : OrcOk P w0 OB := by
 have h0 := zxl B
 have h1 : OrcOk P w0 (withG 42 Za _) := add0 h0 qt Qa fun x hx => zzB B h0 rfl x hx.1 hx.2
 have h2 : OrcOk P w0 (withG 75 gQuo _) := add0 h1 (fun _ => rfl) (fun _ => rfl) fun x hx => zys B h0 rfl x hx
 have h3 : OrcOk P w0 (withG 37 vN _) := add0 h2 uU (fun _ => rfl) fun x hx => G3 B h0 rfl x hx
 have h4 : OrcOk P w0 (withG 50 gQ _) := add0 h3 qt (fun _ => rfl) fun x hx => Uw B h0 rfl rfl rfl rfl rfl rfl x hx.1 hx.2
 have h5 : OrcOk P w0 (withG 84 gGet _) := add0 h4 WF (fun _ => UQ _) fun x hx => zyg B h0 rfl rfl rfl x.1 x.2 hx.1 hx.2.1 hx.2.2
 have h6 : OrcOk P w0 (withG 44 gPut _) := add0 h5 uU (fun _ => rfl) fun x hx => zyh B h0 rfl rfl x hx
 exact add0 h6 vu lN fun x hx => zxk B h0 rfl x hx.1 hx.2.1 hx.2.2
noncomputable def OC : Orc := withG 83 gAll (withG 53 YV (withG 45 vN OB))
theorem zy6 {P : Program} {w0 : World} (B : Bx P w0) : OrcOk P w0 OC := by
 have h0 := zxm B
 have h1 : OrcOk P w0 (withG 45 vN _) := add0 h0 uU (fun _ => rfl) fun x hx => Qq B h0 rfl rfl x hx
 have h2 : OrcOk P w0 (withG 53 YV _) := add0 h1 vu WM fun x hx => zzC B h0 rfl x hx.1 hx.2
 exact add0 h2 vu Je fun x hx => zyK B h0 rfl rfl x hx.1 hx.2
noncomputable def OD : Orc := withG 52 ud (withG 28 ud OC)
theorem zy1 {P : Program} {w0 : World} (B : Bx P w0) : OrcOk P w0 OD := by
 have h0 := zy6 B
 have h1 : OrcOk P w0 (withG 28 ud _) := add0 h0 qt gO fun x hx => UP B h0 rfl x hx.1 hx.2
 exact add0 h1 qt gO fun x hx => Hm B h0 rfl x hx.1 hx.2
noncomputable def OE : Orc := withG 26 QY (withG 46 XB OD)
theorem q9 {P : Program} {w0 : World} (B : Bx P w0) : OrcOk P w0 OE := by
 have h0 := zy1 B
 have h1 : OrcOk P w0 (withG 46 XB _) := add0 h0 qt (fun _ => rfl) fun x hx => VD B h0 rfl rfl rfl x hx
 exact add0 h1 yF (fun _ => rfl) fun x hx => P3 B h0 rfl rfl rfl x hx
theorem Yu {P : Program} {w0 : World} (B : Bx P w0) : ∀ (N : Nat), N ≤ 100000 → OrcOk P w0 (withG 11 (gMay N) OE)
 | 0, _ => add0 (q9 B) yF (fun _ => rfl) fun x hx => absurd hx.2 (Nat.not_lt_zero _)
 | N + 1, h => by
  have ih := Yu B N (by omega)
  have hi : OrcOk P w0 (withG 49 (gIxm N) (withG 11 (gMay N) OE)) := add0 ih WK (fun _ => rfl) fun x hx => zyR B ih rfl rfl (by omega) x hx.1 hx.2
  exact add0 (q9 B) yF (fun _ => rfl) fun x hx => zyI B hi rfl rfl rfl rfl rfl x hx.1 hx.2
theorem kg {P : Program} {w0 : World} (B : Bx P w0) : ∀ (N : Nat), N ≤ 100000 → OrcOk P w0 (withG 12 (gMay N) OE)
 | 0, _ => add0 (q9 B) yF (fun _ => rfl) fun x hx => absurd hx.2 (Nat.not_lt_zero _)
 | N + 1, h => by
  have ih := kg B N (by omega)
  exact add0 (q9 B) yF (fun _ => rfl) fun x hx => Zu B ih rfl rfl rfl rfl rfl (by omega) x hx.1 hx.2
theorem XK {P : Program} {w0 : World} (B : Bx P w0) : ∀ (N : Nat), N ≤ 100000 → OrcOk P w0 (withG 13 (gP N) OE)
 | 0, _ => add0 (q9 B) vM (fun _ => rfl) fun x hx => absurd hx (Nat.not_lt_zero _)
 | N + 1, h => by
  have ih := XK B N (by omega)
  have hi : OrcOk P w0 (withG 31 (gEqf N) (withG 13 (gP N) OE)) := add0 ih (Qu _) (fun _ => rfl) fun x hx => zyF B ih rfl (by omega) x.1 x.2 hx
  exact add0 (q9 B) vM (fun _ => rfl) fun x hx => LP B hi rfl rfl rfl x.1 x.2 hx
theorem Zw {P : Program} {w0 : World} (B : Bx P w0) : ∀ (N : Nat), N ≤ 100000 → OrcOk P w0 (withG 14 (kC N) OE)
 | 0, _ => add0 (q9 B) vM (fun _ => rfl) fun x hx => absurd hx.1 (Nat.not_lt_zero _)
 | N + 1, h => by
  have ih := Zw B N (by omega)
  exact add0 (q9 B) vM (fun _ => rfl) fun x hx => Wi B ih rfl rfl (by omega) x.1 x.2 hx.1 hx.2
theorem vF (x : DT × Bool) : zo (wx x) = true := by simp only [wx, zD, qo, qF, zJ, Bool.and_self]
theorem WL (x : List DT × Bool) : zo (ke x) = true := by simp only [ke, zD, yz, qF, zJ, Bool.and_self]
theorem Zm {P : Program} {w0 : World} (B : Bx P w0) : ∀ (N : Nat), N ≤ 100000 → OrcOk P w0 (withG 22 (gTx N) OE)
 | 0, _ => add0 (q9 B) vF (fun _ => rfl) fun x hx => by
  have h1 := hx.1.2.2
  have h2 := yc x.1
  unfold wtD at h1; omega
 | N + 1, h => by
  have ih := Zm B N (by omega)
  have hi : OrcOk P w0 (withG 47 (gTa N) (withG 22 (gTx N) OE)) := add0 ih WL (fun _ => rfl) fun x hx => Uy B ih rfl x hx
  exact add0 (q9 B) vF (fun _ => rfl) fun x hx => WG B hi rfl rfl rfl rfl rfl (by omega) rfl rfl x hx
noncomputable def OF : Orc := withG 39 gTxt OE
theorem zxh {P : Program} {w0 : World} (B : Bx P w0) : OrcOk P w0 OF :=
 (q9 B).withG vo (Yb (fun _ => rfl) fun x out disp hp => zzr B (q9 B) rfl rfl rfl rfl x out disp hp)
noncomputable def OF0 : Orc := withG 39 K0 OE
theorem zyn {P : Program} {w0 : World} (B : Bx P w0) : OrcOk P w0 OF0 :=
 (q9 B).withG Zh (QK (fun _ => rfl) fun x disp hp => HB B (q9 B) rfl rfl rfl rfl x disp hp)
theorem Wl (x : List DT) : zo (lY x) = true := by simp only [lY, zD, yz, zJ, Bool.and_self]
def KWd (P : Program) (w0 : World) (n : Nat) : Prop := xI P w0 20 (gWd n)
theorem kwa {P : Program} {w0 : World} (B : Bx P w0) {n : Nat} (h : KWd P w0 n) : xI P w0 40 (gWa n) :=
 Yb Wl fun x out disp hp => Pp B ((qe P w0).withG vo h) rfl rfl rfl x out disp hp
theorem QG {P : Program} {w0 : World} (B : Bx P w0) : ∀ (n : Nat), n ≤ 100000 → KWd P w0 n
 | 0, _ => Yb (b := true) yF fun x out disp hp => by
  have h1 := hp.1.2.2
  have h2 := yc x
  unfold wtD at h1; omega
 | n + 1, h => by
  have ih := QG B n (by omega)
  have hD : OrcOk P w0 (withG 40 (gWa n) (withG 20 (gWd n) OF)) := ((zxh B).withG vo ih).withG vo (kwa B ih)
  exact Yb yF fun x out disp hp => UO B hD rfl rfl rfl rfl rfl rfl rfl rfl rfl rfl rfl (by omega) rfl rfl x out disp hp.1 hp.2
theorem kwd0 {P : Program} {w0 : World} (B : Bx P w0) {n : Nat} (hn : n ≤ 100000) : xI P w0 20 (gWd0 (n + 1)) := by
 have ih := QG B n hn
 have hD : OrcOk P w0 (withG 40 (gWa n) (withG 20 (gWd n) OF0)) := ((zyn B).withG vo ih).withG vo (kwa B ih)
 exact QK yF fun x disp hp => WQ B hD rfl rfl rfl rfl rfl rfl rfl rfl rfl rfl rfl hn rfl rfl x disp hp.1 hp.2.1 hp.2.2
theorem VL {P : Program} {w0 : World} (B : Bx P w0) (x : DT × Bool) (hp : XF x) : SC P w0 9 (wx x) (H [] 0 true) (.str (xV x.1 x.2)) (H [] 0 true) := by
 have h1 := Yu B 300 (by omega)
 have h2 : OrcOk P w0 (withG 20 (gWd0 700) (withG 11 (gMay 300) OE)) := h1.withG Zh (kwd0 B (by omega))
 exact KR B h2 rfl rfl rfl h1 rfl rfl rfl rfl rfl rfl x hp
theorem Yn {P : Program} {w0 : World} (B : Bx P w0) (x : DT × Bool) (hp : XF x) : SC P w0 10 (wx x) (H [] 0 true) (.str (xV x.1 x.2)) (H [] 0 true) := by
 have h1 := kg B 300 (by omega)
 have h2 : OrcOk P w0 (withG 12 (gMay 300) (withG 22 (gTx 700) OE)) := (Zm B 700 (by omega)).withG yP (qO true yF (fun _ => rfl) fun y hy => ⟨_, by
  have h3 := kg B 299 (by omega)
  exact Zu B h3 rfl rfl rfl rfl rfl (by omega) y hy.1 hy.2⟩)
 exact Xv B h2 rfl rfl x hp
set_option maxRecDepth 1000000
theorem zyp {P : Program} {E : Env} (h : qA P E) (p : Nat → Bool) : qA P { E with pure := p } := h
def env2 : Env := { env with pure := fun _ => false }
theorem PE {P : Program} (h : qA P env) : qA P env2 := zyp h (fun _ => false)
theorem K1 : okV (.bool true) ((evT env2 noO 100000).call 8 [] s0) = true := by decide +kernel
set_option maxRecDepth 100000
mutual
theorem jT : ∀ (d : DT) (n m : Nat), xL d n = .ofNat (m + 1) → 0 < n → OkD d → zu d + (m + 1) ≤ n ∧ TxD d
 | .mk k v t ks p, n, m, h, hn, ho => by
  simp only [OkD] at ho
  simp only [xL] at h
  by_cases h3 : 300 < t.length
  ·rw [if_pos h3] at h; cases h
  ·rw [if_neg h3] at h
   obtain ⟨q, e, g1, g2⟩ := jH ks _ m h ho.2.2.2.2.2
   cases e
   simp only [zu, TxD]
   exact ⟨by omega, ho.2.2.2.1, by omega, g2⟩
theorem jH : ∀ (l : List DT) (x : Int) (m : Nat), x8 l x = .ofNat (m + 1) → OkL l → ∃ k, x = .ofNat k ∧ yw l + (m + 1) ≤ k ∧ TxL l
 | [], x, m, h, _ => ⟨m + 1, by simpa only [x8] using h, by simp only [yw]; omega, by simp only [TxL]⟩
 | d :: r, .ofNat 0, m, h, _ => by simp [x8] at h; omega
 | d :: r, .negSucc x, m, h, _ => by simp only [x8] at h; cases h
 | d :: r, .ofNat (k + 1), m, h, ho => by
  simp only [OkL] at ho
  simp only [x8] at h
  obtain ⟨q, e, g1, g2⟩ := jH r _ m h ho.2
  obtain ⟨q', rfl⟩ : ∃ q', q = q' + 1 := ⟨q - 1, by omega⟩
  obtain ⟨g3, g4⟩ := jT d (k + 1) q' e (by omega) ho.1
  refine ⟨k + 1, rfl, ?_, ?_⟩
  ·simp only [yw]; omega
  ·simp only [TxL]; exact ⟨g4, g2⟩
end
theorem Xp (a b : Int) : eqD a b = eqD b a := by
 by_cases h : a = b
 ·rw [h]
 ·rw [ym h, ym fun e => h e.symm]
theorem Gw (a b : List Nat) : eqS a b = eqS b a := by
 rw [ux, ux]
 by_cases h : a = b
 ·subst h; rfl
 ·rw [beq_eq_false_iff_ne.2 h, beq_eq_false_iff_ne.2 fun e => h e.symm]
theorem kc {f : DT → DT → Bool} (hf : ∀ x y, f x y = f y x) : ∀ l m : List DT, zK f l m = zK f m l
 | [], [] => rfl
 | [], _ :: _ => rfl
 | _ :: _, [] => rfl
 | x :: r, y :: s => by simp only [zK, hf x y, kc hf r s]
theorem ly : ∀ (k : Nat) (a b : DT), qK k a b = qK k b a
 | 0, _, _ => rfl
 | k + 1, a, b => by
  have ih := ly k
  have hl := kc ih (yg a) (yg b)
  simp only [qK]
  rw [Xp (yV a), Xp (numD a), Gw (yr a), hl]
  cases zC a with
  | none => cases zC b <;> rfl
  | some p => cases zC b with
   | none => rfl
   | some q => simp only; rw [ih p.1, ih p.2]
theorem Wh (a b : DT) : yd a b = yd b a := by
 unfold yd
 rw [wb (m := zu a + zu b) (Nat.le_refl _) (by omega), ly, wb (m := zu b) (by omega) (Nat.le_refl _)]
noncomputable def gOk : List AV → St → Option (AV × St) := orc0 (fun _ : Unit => []) (fun _ => True) (fun _ => .bool true)
theorem zzJ {O : Orc} (h : O 8 = some gOk) (s : St) : (evW env O).call 8 [] s = some (.bool true, s) := by
 rw [zq h, gOk, zT (fun _ _ _ => rfl) s () trivial rfl]
theorem zy3 {P : Program} {w0 : World} (B : Bx P w0) : ∃ s1, SC P w0 8 [] (s00 0 false) (.bool true) s1 :=
 YZ (E := env2) (n := 100000) (qe P w0) B.mixed B.glob (PE B.env) K1
theorem Gs {P : Program} {w0 : World} (B : Bx P w0) {O : Orc} (hO : OrcOk P w0 O) : OrcOk P w0 (withG 8 gOk O) :=
 hO.withG yP (qO false (fun _ => rfl) (fun _ => rfl) fun _ _ => zy3 B)
theorem VM {P : Program} {w0 : World} (B : Bx P w0) {O : Orc} (hO : OrcOk P w0 O) {N : Nat} (h7 : O 7 = some (gSl N)) (h8 : O 8 = some gOk) (h9 : O 9 = some gWr) (h10 : O 10 = some gWr) (h11 : O 11 = some (gMay 300)) (h12 : O 12 = some (gMay 300)) (h13 : O 13 = some (gP 300)) (h14 : O 14 = some (kC 300)) (a b : DT) (oa : OkD a) (ob : OkD b) (na : SizeOf.sizeOf a < N) (nb : SizeOf.sizeOf b < N) (disp : Bool) :
  SC P w0 3 [encD a, encD b, .bool disp] (H [] 0 true) (.bool true) (H [] 0 true) := by
 refine Is.sc hO B.mixed B.glob B.env 0 (show env.funs.get 3 = some f3 from rfl) (Nat.le_of_ble_eq_true rfl) z8 fun C k => ?_
 have hok := zzJ h8
 have hsa := Ye h7 (d := a) (n := 300) (by omega) (by omega) na
 have hsb := Ye h7 (d := b) (n := 300) (by omega) (by omega) nb
 have key : ∀ d, OkD d → (∃ m, xL d 300 = .ofNat (m + 1) ∧ zu d < 300 ∧ TxD d) ∨ xL d 300 = .ofNat 0 ∨ ∃ m, xL d 300 = .negSucc m := fun d hd => by
  cases h : xL d 300 with
  | negSucc m => exact .inr (.inr ⟨m, rfl⟩)
  | ofNat m => cases m with
   | zero => exact .inr (.inl rfl)
   | succ m =>
    have := jT d 300 m h (by omega) hd
    exact .inl ⟨m, rfl, by omega, this.2⟩
 have e9 := fun ht hn => XQ (f := 9) h9 (d := a) (disp := disp) ht hn
 have e10 := fun ht hn => XQ (f := 10) h10 (d := a) (disp := disp) ht hn
 have e11 := fun ht hn => wc (f := 11) h11 (d := a) ht hn
 have e12 := fun ht hn => wc (f := 12) h12 (d := a) ht hn
 have e13 := fun hn => uR (f := 13) h13 (a := a) (b := b) hn
 have e14 := fun hn hn2 => jl (f := 14) h14 (a := a) (b := b) hn hn2
 have e15 := fun hn => uR (f := 13) h13 (a := b) (b := a) hn
 rw [Wh b a] at e15
 have ka := key a oa
 have kb := key b ob
 generalize xV a disp = W at e9 e10
 generalize mayD a = M at e11 e12
 generalize yd a b = S1 at e13 e14 e15
 obtain ⟨ak, an, at_, aks, ap⟩ := a
 obtain ⟨bk, bn, bt, bks, bp⟩ := b
 simp only [zb] at hsa hsb e9 e10 e11 e12 e13 e14 e15
 unfold f3
 simp only [Ko, Kg, Kd, Ke, Ki]
 refine ze (k.eval (by simp (disch := first | exact dis | fail) only [go_sem, seval, -reduceOfNat, -reduceNegSucc, encD, zb]; exact rfl) ?_)
 simp only [za]
 rcases ka with ⟨m, ea, na1, ta⟩ | ea | ⟨m, ea⟩
 ·have e9 := e9 ta na1
  have e10 := e10 ta na1
  have e11 := e11 ta na1
  have e12 := e12 ta na1
  have e13 := e13 na1
  rw [ea] at hsa
  rcases kb with ⟨m2, eb, nb1, tb⟩ | eb | ⟨m2, eb⟩
  ·have e14 := e14 na1 (by omega)
   have e15 := e15 nb1
   rw [eb] at hsb
   refine k.eval (by simp (disch := first | exact dis | fail) only [go_sem, seval, -reduceOfNat, -reduceNegSucc, hsa, hsb, hok, e9, e10, e11, e12, e13, e14, e15, pb]; exact rfl) ?_
   try simp only [za, zg, Cut, if_true]
   apply zd (Or.inr rfl)
   iterate 5 (simp (disch := first | exact dis | fail) only [go_sem, seval, -reduceOfNat, -reduceNegSucc] <;> exact rfl)
  ·rw [eb] at hsb
   refine k.eval (by simp (disch := first | exact dis | fail) only [go_sem, seval, -reduceOfNat, -reduceNegSucc, hsa, hsb, hok]; exact rfl) ?_
   try simp only [za, zg, Cut, if_true]
   apply zd (Or.inr rfl)
   iterate 5 (simp (disch := first | exact dis | fail) only [go_sem, seval, -reduceOfNat, -reduceNegSucc] <;> exact rfl)
  ·rw [eb] at hsb
   refine k.eval (by simp (disch := first | exact dis | fail) only [go_sem, seval, -reduceOfNat, -reduceNegSucc, hsa, hsb, hok]; exact rfl) ?_
   try simp only [za, zg, Cut, if_true]
   apply zd (Or.inr rfl)
   iterate 5 (simp (disch := first | exact dis | fail) only [go_sem, seval, -reduceOfNat, -reduceNegSucc] <;> exact rfl)
 ·rw [ea] at hsa
  refine k.eval (by simp (disch := first | exact dis | fail) only [go_sem, seval, -reduceOfNat, -reduceNegSucc, hsa, hok]; exact rfl) ?_
  try simp only [za, zg, Cut, if_true]
  apply zd (Or.inr rfl)
  iterate 5 (simp (disch := first | exact dis | fail) only [go_sem, seval, -reduceOfNat, -reduceNegSucc] <;> exact rfl)
 ·rw [ea] at hsa
  refine k.eval (by simp (disch := first | exact dis | fail) only [go_sem, seval, -reduceOfNat, -reduceNegSucc, hsa, hok]; exact rfl) ?_
  try simp only [za, zg, Cut, if_true]
  apply zd (Or.inr rfl)
  iterate 5 (simp (disch := first | exact dis | fail) only [go_sem, seval, -reduceOfNat, -reduceNegSucc] <;> exact rfl)
theorem zyZ {P : Program} {w0 : World} (B : Bx P w0) (a b : DT) (oa : OkD a) (ob : OkD b) (disp : Bool) :
  SC P w0 3 [encD a, encD b, .bool disp] (H [] 0 true) (.bool true) (H [] 0 true) := by
 obtain ⟨N, hN⟩ : ∃ N, N = SizeOf.sizeOf a + SizeOf.sizeOf b + 1 := ⟨_, rfl⟩
 have h1 := Gs B (qe P w0)
 have h2 : OrcOk P w0 (withG 9 gWr _) := add0 h1 vF (fun _ => rfl) fun x hx => VL B x hx
 have h3 : OrcOk P w0 (withG 10 gWr _) := add0 h2 vF (fun _ => rfl) fun x hx => Yn B x hx
 have h4 : OrcOk P w0 (withG 11 (gMay 300) _) := h3.withG yP ((Yu B 300 (by omega)).ok 11 _ rfl)
 have h5 : OrcOk P w0 (withG 12 (gMay 300) _) := h4.withG yP ((kg B 300 (by omega)).ok 12 _ rfl)
 have h6 : OrcOk P w0 (withG 13 (gP 300) _) := h5.withG yP ((XK B 300 (by omega)).ok 13 _ rfl)
 have h7 : OrcOk P w0 (withG 14 (kC 300) _) := h6.withG yP ((Zw B 300 (by omega)).ok 14 _ rfl)
 have h8 : OrcOk P w0 (withG 7 (gSl N) _) := h7.withG yP ((UI B N).ok 7 _ rfl)
 exact VM B h8 rfl rfl rfl rfl rfl rfl rfl rfl a b oa ob (by omega) (by omega) disp
open Go.RowKit (Below)
set_option maxRecDepth 100000
theorem HW {P : Program} {w : World} {f : Nat} {args : List AV} {v : AV} {xs : List Value} (h : SC P w f args (H [] 0 true) v (H [] 0 true)) (hx : VRL (phiW w) args xs) :
  Calls P f xs.toArray w fun e w' => ∃ φ' x, e = .returned x ∧ VR φ' v x ∧ Below w.heap.size w w' := by
 refine callsIn_wide.1 (CallsIn.mono (h.2 _ w xs (JC P w true) (H_wf _ _ _) (fun _ _ => rfl) hx Fence.wide 0 ⟨fun _ => trivial, rfl⟩) ?_)
 rintro e w' ⟨φ', x, rfl, k1, k2⟩
 exact ⟨φ', x, rfl, k2, k1.rel.base⟩
theorem pR {w : World} {d : DOk} {cs : Array Value} (h : VRL (phiW w) (uc d) cs.toList) : VR (phiW w) (encD d.1) (.agg cs) := by
 simp only [encD, VR]
 exact ⟨cs.toList, by simp, h⟩
theorem law_calls {P : Program} {w : World} (B : Bx P w) (a b : DOk) (disp : Bool) {ca cb : Array Value} (ha : VRL (phiW w) (uc a) ca.toList) (hb : VRL (phiW w) (uc b) cb.toList) :
  Calls P 3 #[.agg ca, .agg cb, .bool disp] w fun e w' => e = .returned (.bool true) ∧ Below w.heap.size w w' := by
 have := HW (xs := [.agg ca, .agg cb, .bool disp]) (zyZ B a.1 b.1 a.2 b.2 disp) (VRL.cons (pR ha) (VRL.cons (pR hb) (VRL.cons (by simp [VR]) (VRL.nil _))))
 refine Calls.mono this ?_
 rintro e w' ⟨φ', x, rfl, h1, h2⟩
 simp only [VR] at h1
 exact ⟨by rw [h1], h2⟩
end Go.Proofs.YthcmnajcjapjbaaGreatDoor.Ev

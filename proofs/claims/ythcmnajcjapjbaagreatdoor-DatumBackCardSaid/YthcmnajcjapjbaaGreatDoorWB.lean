/- Contracts of functions that DatumBack calls: what a call answers, for all data, by symbolic evaluation. No conditions of its own. -/
import Derived.Test.YthcmnajcjapjbaaGreatDoorWA
import Derived.Test.YthcmnajcjapjbaaGreatDoorEvG
set_option linter.unusedSimpArgs false
set_option linter.unusedVariables false
set_option linter.defProp false
set_option maxHeartbeats 4000000
open List renaming length_append → ye, length_cons → yY, length → yB, length_drop → znK, length_nil → yX, mem_of_mem_drop → znS, takeWhile_cons → znW, nil_append → znO, drop_eq_nil_of_le → znQ, range → znX, append_nil → xi, append_assoc → znY, length_take → znZ, length_map → zn0, drop_drop → z4
open Bool renaming and_self → y6, and_eq_true → zm
open Nat renaming lt_succ_self → yw, le_of_ble_eq_true → znR, zero_le → zN, le_refl → zq, pow_lt_pow_right → znT, zero_mod → zn1
open List.cons renaming injEq → yZ
open Prod.mk renaming injEq → zA
namespace Go.Proofs.YthcmnajcjapjbaaGreatDoor.Ev
variable {P : Program} {w0 : World} {E : Env} {O : Orc} {b out : List Nat} {d : DT} {n : Nat} {o : AObj} {disp : Bool}
open Nat (reduceEqDiff reduceLeDiff reduceLT reduceAdd reduceMul reduceSub reduceMod reducePow reduceDiv reduceOr reduceShiftLeft reduceGT reduceSucc)
open List (length_cons length_nil length_take length_drop)
open Int renaming reduceOfNat → rO, reduceNegSucc → rN
open T
set_option maxRecDepth 100000
theorem zq6 (o38 : O 38 = none) (o72 : O 72 = none) (o74 : O 74 = none) (o96 : O 96 = none) (l : List (Nat × Option AObj)) (n m id j : Nat) (b : Bool) (out : List Nat) (disp : Bool) (c : Nat) (hv : xB c = true) (ho : out.length < 1000000) (ne : id ≠ j) (hi : id < n) (hj : j < n)
  (hw : getA l id = some (.row 54 [.ptr id 0, .sl j 0 out.length (.opn 1), .bool disp] false false)) (hb : getA l j = some (.row 5 (xo out) true false)) :
  (evW env O).call 38 [.ptr id 0, .int .i32 (.ofNat c)] (KL l n m b [] none) = some (.tup [.int .i64 (.ofNat ((out ++ encC c).length - out.length)), .nili], KL ((id, some (.row 54 [.ptr id 0, .sl (n + 1) 0 (out ++ encC c).length (.opn 1), .bool disp] false false)) :: (n + 1, some (.row 5 (xo (out ++ encC c)) true false)) :: (j, none) :: (n, some (.row 5 (xo (encC c)) false false)) :: l) (n + 2) (mark (mark m j) id) b [] none) := by
 have c38 := ciw f38 o38
 have c72 := ci f72 o72
 have ne' : ¬ j = id := fun e => ne e.symm
 have n1 : ¬ id = n := by omega
 have n2 : ¬ j = n := by omega
 have n3 : ¬ id = n + 1 := by omega
 have hl4 := (wS c).2
 have ar := LY o74 o96 l n m j out c hv ho hj hb
 have hle : out.length ≤ (out ++ encC c).length := by rw [ye]; omega
 have hlt : (out ++ encC c).length < 2000000 := by rw [ye]; omega
 revert ar hle hlt
 generalize out ++ encC c = o2
 intro ar hle hlt
 simp (disch := first | exact dis | fail) only [go_sem, seval, -rO, -rN, c38, f38, c72, f72, hw, ne, n1, n3, X8, X9, ar, zn1, decide_true]
theorem zso (o36 : O 36 = none) (o72 : O 72 = none) (l : List (Nat × Option AObj)) (n m id j : Nat) (b : Bool) (k : Nat) (disp : Bool) (ne : id ≠ j) (hi : id < n) (hj : j < n)
  (hw : getA l id = some (.row 54 [.ptr id 0, .sl j 0 k (.opn 1), .bool disp] false false)) :
  (evW env O).call 36 [.ptr id 0, .str []] (KL l n m b [] none) = some (.tup [.int .i64 (.ofNat 0), .nili], KL ((id, some (.row 54 [.ptr id 0, .sl j 0 k (.opn 1), .bool disp] false false)) :: l) n (mark m id) b [] none) := by
 have c36 := ciw f36 o36
 have c72 := ci f72 o72
 have ap : ∀ s, appV s 5 1 1 (.sl j 0 k (.opn 1)) (.str []) = some (.sl j 0 k (.opn 1), s) := fun _ => rfl
 simp (disch := first | exact dis | fail) only [go_sem, seval, -rO, -rN, c36, f36, c72, f72, hw, X8, X9, ap, zn1, decide_true]
theorem zsn (o38 : O 38 = none) (o72 : O 72 = none) (o74 : O 74 = none) (o96 : O 96 = none) (l : List (Nat × Option AObj)) (n m id : Nat) (b : Bool) (disp : Bool) (c : Nat) (hv : xB c = true) (hi : id < n)
  (hw : getA l id = some (.row 54 [.nilp, .nils, .bool disp] false false)) :
  (evW env O).call 38 [.ptr id 0, .int .i32 (.ofNat c)] (KL l n m b [] none) = some (.tup [.int .i64 (.ofNat (encC c).length), .nili], KL ((id, some (.row 54 [.ptr id 0, .sl (n + 1) 0 (encC c).length (.opn 1), .bool disp] false false)) :: (n + 1, some (.row 5 (xo (encC c)) true false)) :: (n, some (.row 5 (xo (encC c)) false false)) :: (id, some (.row 54 [.ptr id 0, .nils, .bool disp] false false)) :: l) (n + 2) (mark (mark m id) id) b [] none) := by
 have c38 := ciw f38 o38
 have c72 := ci f72 o72
 have n1 : ¬ id = n := by omega
 have n3 : ¬ id = n + 1 := by omega
 have hm : ¬ (1 <<< id) % 2 ^ n = 0 := by
  rw [Nat.shiftLeft_eq, Nat.one_mul, Nat.mod_eq_of_lt (znT (by omega) hi)]
  exact Nat.ne_of_gt (Nat.two_pow_pos id)
 have q1 := fun m b => @U9 l n m id _ b _ _ _ _ hw
 have q2 := fun m b => @LG l n m id b _ _ _ _ hw
 have hl4 := (wS c).2
 have ar := Jl o74 o96 ((id, some (.row 54 [.ptr id 0, .nils, .bool disp] false false)) :: l) n (m ||| 1 <<< id) c hv
 revert ar hl4
 generalize encC c = o2
 intro hl4 ar
 simp (disch := first | exact dis | fail) only [go_sem, seval, -rO, -rN, c38, f38, c72, f72, hw, n1, n3, Us, decide_true, q1, q2, ar, Nat.zero_or, hm]
def rgF : Nat → List Nat → List Nat
 | 0, _ => []
 | _ + 1, [] => []
 | k + 1, x :: r => (decL (x :: r)).1 :: rgF k ((x :: r).drop (decL (x :: r)).2)
def rgN (t : List Nat) : List Nat := rgF t.length t
theorem ztC : ∀ {k m : Nat} {t : List Nat}, t.length ≤ k → t.length ≤ m → rgF k t = rgF m t
 | 0, 0, _, _, _ => rfl
 | 0, _ + 1, [], _, _ => rfl
 | 0, _ + 1, x :: r, h, _ => by simp at h
 | _ + 1, 0, [], _, _ => rfl
 | _ + 1, 0, x :: r, _, h => by simp at h
 | _ + 1, _ + 1, [], _, _ => rfl
 | k + 1, m + 1, x :: r, h, h' => by
  have hs := ux (l := x :: r) (by simp)
  simp only [rgF]
  simp only [yY] at h h'
  rw [ztC (k := k) (m := m) (by simp only [znK, yY]; omega) (by simp only [znK, yY]; omega)]
theorem zzj : rgN [] = [] := rfl
theorem Gj (x : Nat) (r : List Nat) : rgN (x :: r) = (decL (x :: r)).1 :: rgN ((x :: r).drop (decL (x :: r)).2) := by
 have hs := ux (l := x :: r) (by simp)
 unfold rgN
 rw [yY, rgF]
 congr 1
 exact ztC (by simp only [znK, yY]; omega) (zq _)
def qs (cs : List Nat) : List Nat := cs.flatMap wg
theorem gq (c : Nat) (r : List Nat) : qs (c :: r) = wg c ++ qs r := rfl
def vl (disp : Bool) (t : List Nat) : List Nat := if disp then t else 34 :: (qs (rgN t) ++ [34])
theorem jO (c : Nat) : wg c ≠ [] := by
 have := wS c
 unfold wg
 split
 ·simp
 ·split
  ·simp
  ·split
   ·simp
   ·split
    ·simp
    ·intro h; rw [h] at this; simp at this
theorem lp (c : Nat) : (wg c).length ≤ 5 := by
 have := wS c
 have := Zq c
 unfold wg
 split
 ·simp; omega
 ·split
  ·simp
  ·split
   ·simp
   ·split
    ·simp; omega
    ·omega
theorem zuO {o2 : AObj} {os : List (Option AObj)} (hg : qh o = false) (hg2 : qh o2 = false) : ∀ i, (3 : Nat).testBit i = true → ∃ o', getO (some o :: some o2 :: os) i = some o' ∧ qh o' = false := fun i h => by
 match i with
 | 0 => exact ⟨o, rfl, hg⟩
 | 1 => exact ⟨o2, rfl, hg2⟩
 | i + 2 =>
  have : (3 : Nat).testBit (i + 2) = false := by
   rw [Nat.testBit_succ, Nat.testBit_succ]; simp
  rw [this] at h; cases h
theorem Is.ren0 {C : Cx} {c : St} {M : Nat} (k : Is C E O c M) {fr : Fr} {md : Bool} {tw tb : Nat} :
  Gc C fr (H [some (wrow tw 0 1 out.length disp), some (brow tb out)] 0 md) fr (KL [(2, some (brow tb out)), (1, none), (0, some (wrow tw 0 2 out.length disp)), (0, some (wrow tw 0 1 out.length disp)), (1, some (brow tb out))] 3 (mark (mark 0 0) 1) md [] none) := by
 rw [H_eq]
 exact k.ren (id := 0) (j := 1) (n := 2) (by omega) (by omega) (by omega) rfl rfl
def encT (t : List Nat) : List AV := [.str t]
theorem JO : ∀ x y, encT x = encT y → x = y := Zf
def PreT (t : List Nat) (out : List Nat) (disp : Bool) : Prop := t.length < 1000000 ∧ out.length + (vl disp t).length < 1000000
noncomputable def gTxt : List AV → St → Option (AV × St) := orcW 54 5 encT PreT (fun t disp => vl disp t)
noncomputable def tst (t : List Nat) (i : Nat) (out : List Nat) : St := H [some (wrow 54 0 2 out.length false), none, some (brow 5 out), some (.siter t i)] 3 true
attribute [local go_sem] wrow brow Xq tst in
theorem zqy (B : Bx P w0) (hO : OrcOk P w0 O) (o36 : O 36 = none) (o41 : O 41 = none) (o72 : O 72 = none) (h75 : O 75 = some gQuo) (t out0 : List Nat) (disp : Bool) (hp : PreT t out0 disp) :
  SC P w0 39 [.ptr 0 0, .str t] (H [some (wrow 54 0 1 out0.length disp), some (brow 5 out0)] 0 true) (.tup []) (H [some (wrow 54 0 2 (out0 ++ vl disp t).length disp), none, some (brow 5 (out0 ++ vl disp t))] 3 true) := by
 obtain ⟨p1, p2⟩ := hp
 refine Is.scK hO B.mixed B.glob B.env 3 (show env.funs.get 39 = some f39 from rfl) (znR rfl) (zuO rfl rfl) fun C k => ?_
 unfold f39
 simp only [Ko, Kd, Km, Kr, opN]
 cases disp with
 | true =>
  simp only [vl, if_true] at p2 ⊢
  by_cases h0 : t = []
  ·subst h0
   rw [xi]
   refine Yy (k.ren0) ?_
   have hws := fun l nx m => zso o36 o72 l nx m 0 2 true out0.length true (by omega)
   refine k.z ?_
   exact finK [2]
  ·have hws := fun l nx m => Xv o36 o72 l nx m 0 1 true out0 true t h0 (by omega) p1 (by omega)
   refine k.z ?_
   exact finK [2]
 | false =>
  have e : vl false t = 34 :: (qs (rgN t) ++ [34]) := rfl
  rw [e] at p2 ⊢
  simp only [yY, ye, yX] at p2
  have hwb1 := fun l nx m => ZP o41 o72 l nx m 0 1 true out0 false 34 (by omega) (by omega) (by omega)
  refine k.q ?_
  refine k.q ?_
  refine wu ?_
  refine k.q ?_
  refine xS (x6 (k.gcL [3, 4] [20, 0] true (fr1 := ⟨tmL [(20, .ptr 3 0), (0, .ptr 0 0)], []⟩) (s1 := tst t 0 (out0 ++ [34])) (by simp (disch := first | exact dis | fail) only [go_sem, seval, -rO, -rN, tst, wrow, brow]) ?_))
  refine wb (fun x : Nat × List Nat => t.length - x.1) (fun x => ⟨tmL [(20, .ptr 3 0), (0, .ptr 0 0)], []⟩) (fun x => tst t x.1 x.2) (fun x => x.1 ≤ t.length ∧ x.2 ++ qs (rgN (t.drop x.1)) = out0 ++ [34] ++ qs (rgN t)) (fun x hx => ?_) (0, out0 ++ [34]) ⟨zN _, rfl⟩
  obtain ⟨i, out⟩ := x
  simp only at hx ⊢
  obtain ⟨g1, g2⟩ := hx
  have glen := congrArg yB g2
  simp only [ye, yY, yX] at glen
  cases hd : t.drop i with
  | nil =>
   rw [hd, zzj] at g2
   rw [show qs [] = [] from rfl, xi] at g2
   have hns := fun l n m hg => @UT l n m 3 i true t hg hd
   have hwb2 := fun l nx m => ZP o41 o72 l nx m 0 2 true out false 34 (by omega) (by omega) (by omega)
   have e2 : out0 ++ 34 :: (qs (rgN t) ++ [34]) = out ++ [34] := by rw [g2]; simp
   rw [e2]
   refine k.eval (by simp (disch := first | exact dis | fail) only [go_sem, seval, -rO, -rN, tst, wrow, brow, hns]; exact rfl) ?_
   try simp only [xA, xX]
   refine k.eval (by simp (disch := first | exact dis | fail) only [go_sem, seval, -rO, -rN, hwb2]; exact rfl) ?_
   try simp only [xA, xX, Cut, if_true]
   apply wq [5] (Or.inl rfl)
   iterate 5 (simp (disch := first | exact dis | fail) only [go_sem, seval, -rO, -rN, wrow, brow] <;> exact rfl)
  | cons x r =>
   have hs := ux (l := x :: r) (by simp)
   have hlen := congrArg yB hd
   simp only [znK, yY] at hlen hs
   have hns := fun l n m hg => @Xp l n m 3 i true t x r hg hd
   have hd2 : t.drop (i + (decL (x :: r)).2) = (x :: r).drop (decL (x :: r)).2 := by rw [← z4, hd]
   rw [hd, Gj, gq, ← hd2] at g2
   have glen := congrArg yB g2
   simp only [ye, yY, yX] at glen
   revert hs hns g2 glen hd2
   generalize decL (x :: r) = dc
   obtain ⟨c, nn⟩ := dc
   simp only
   intro g2 hs hns hd2 glen
   have hs3 := hs.2.2
   have hq := Gd h75 hs3
   have hql := lp c
   have hws := fun l nx m => Xv o36 o72 l nx m 0 2 true out false (wg c) (jO c) (by omega) (by omega)
   refine k.z ?_
   refine ⟨(i + nn, out ++ wg c), ⟨by simp only; omega, by simp only; rw [znY]; exact g2⟩, by simp only; omega, ?_⟩
   refine k.gcs (keep := [4, 3]) (live := [20, 0]) (md := true) ?_
   simp (disch := first | exact dis | fail) only [go_sem, seval, -rO, -rN, tst, wrow, brow]
noncomputable def tst0 (t : List Nat) (i : Nat) (out : List Nat) : St := H [some (wrow 54 0 1 out.length false), some (brow 5 out), some (.siter t i)] 1 true
def zpd (t : List Nat) (disp : Bool) : Prop := t.length < 1000000 ∧ (vl disp t).length < 1000000 ∧ vl disp t ≠ []
noncomputable def zud : List AV → St → Option (AV × St) := Zw 54 5 encT zpd (fun t disp => vl disp t)
attribute [local go_sem] vE wrow brow Xq tst0 in
theorem ztX (B : Bx P w0) (hO : OrcOk P w0 O) (o36 : O 36 = none) (o41 : O 41 = none) (o72 : O 72 = none) (h75 : O 75 = some gQuo) (t : List Nat) (disp : Bool) (hp : zpd t disp) :
  SC P w0 39 [.ptr 0 0, .str t] (H [some (vE 54 disp)] 0 true) (.tup []) (H [some (wrow 54 0 1 (vl disp t).length disp), some (brow 5 (vl disp t))] 1 true) := by
 obtain ⟨p1, p2, p3⟩ := hp
 refine Is.scK hO B.mixed B.glob B.env 1 (show env.funs.get 39 = some f39 from rfl) (znR rfl) (zuN rfl) fun C k => ?_
 unfold f39
 simp only [Ko, Kd, Km, Kr, opN]
 cases disp with
 | true =>
  simp only [vl, if_true] at p2 p3 ⊢
  have hws := fun l nx m => GS o36 o72 l nx m 0 true true t p3 p1
  refine k.z ?_
  exact finK [1]
 | false =>
  have e : vl false t = 34 :: (qs (rgN t) ++ [34]) := rfl
  rw [e] at p2 ⊢
  simp only [yY, ye, yX] at p2
  generalize hT : 34 :: (qs (rgN t) ++ [34]) = T
  have hwb1 := fun l nx m => GN o41 o72 l nx m 0 true false 34 (by omega)
  refine k.q ?_
  refine k.q ?_
  refine wu ?_
  refine k.q ?_
  refine xS (x6 (k.gcL [2, 3] [20, 0] true (fr1 := ⟨tmL [(20, .ptr 2 0), (0, .ptr 0 0)], []⟩) (s1 := tst0 t 0 [34]) (by simp (disch := first | exact dis | fail) only [go_sem, seval, -rO, -rN, tst0, wrow, brow]) ?_))
  refine wb (fun x : Nat × List Nat => t.length - x.1) (fun x => ⟨tmL [(20, .ptr 2 0), (0, .ptr 0 0)], []⟩) (fun x => tst0 t x.1 x.2) (fun x => x.1 ≤ t.length ∧ x.2 ++ qs (rgN (t.drop x.1)) = 34 :: qs (rgN t)) (fun x hx => ?_) (0, [34]) ⟨zN _, rfl⟩
  obtain ⟨i, out⟩ := x
  simp only at hx ⊢
  obtain ⟨g1, g2⟩ := hx
  have glen := congrArg yB g2
  simp only [ye, yY] at glen
  cases hd : t.drop i with
  | nil =>
   rw [hd, zzj] at g2
   rw [show qs [] = [] from rfl, xi] at g2
   have hns := fun l n m hg => @UT l n m 2 i true t hg hd
   have hwb2 := fun l nx m => ZP o41 o72 l nx m 0 1 true out false 34 (by omega) (by omega) (by omega)
   have e2 : T = out ++ [34] := by rw [← hT, g2]; simp
   rw [e2]
   refine k.eval (by simp (disch := first | exact dis | fail) only [go_sem, seval, -rO, -rN, tst0, wrow, brow, hns]; exact rfl) ?_
   try simp only [xA, xX]
   refine k.eval (by simp (disch := first | exact dis | fail) only [go_sem, seval, -rO, -rN, hwb2]; exact rfl) ?_
   try simp only [xA, xX, Cut, if_true]
   apply wq [4] (Or.inl rfl)
   iterate 5 (simp (disch := first | exact dis | fail) only [go_sem, seval, -rO, -rN, wrow, brow] <;> exact rfl)
  | cons x r =>
   have hs := ux (l := x :: r) (by simp)
   have hlen := congrArg yB hd
   simp only [znK, yY] at hlen hs
   have hns := fun l n m hg => @Xp l n m 2 i true t x r hg hd
   have hd2 : t.drop (i + (decL (x :: r)).2) = (x :: r).drop (decL (x :: r)).2 := by rw [← z4, hd]
   rw [hd, Gj, gq, ← hd2] at g2
   have glen := congrArg yB g2
   simp only [ye, yY] at glen
   revert hs hns g2 glen hd2
   generalize decL (x :: r) = dc
   obtain ⟨c, nn⟩ := dc
   simp only
   intro g2 hs hns hd2 glen
   have hs3 := hs.2.2
   have hq := Gd h75 hs3
   have hql := lp c
   have hws := fun l nx m => Xv o36 o72 l nx m 0 1 true out false (wg c) (jO c) (by omega) (by omega)
   refine k.z ?_
   refine ⟨(i + nn, out ++ wg c), ⟨by simp only; omega, by simp only; rw [znY]; exact g2⟩, by simp only; omega, ?_⟩
   refine k.gcs (keep := [3, 2]) (live := [20, 0]) (md := true) ?_
   simp (disch := first | exact dis | fail) only [go_sem, seval, -rO, -rN, tst0, wrow, brow]
def gK (b : Nat) : DT := .mk (.ofNat 2) (.ofNat 0) (v8 b) [] (.ofNat 0)
def qD (t : List Nat) : List DT := t.map gK
def kT (b : Nat) : List AV := [.int .i64 (.ofNat 2), .int .i64 (.ofNat 0), .str (v8 b), .nils, .int .i64 (.ofNat 0)]
def ku (l : List Nat) : List AV := qw kT l
theorem j8 (l : List Nat) : xz (ku l) = true := ur (fun p => by simp only [kT, xw, wc, qc, pP, xD, y6]) l
theorem zzH (l : List Nat) (p : Nat) : ku (l ++ [p]) = ku l ++ kT p := by unfold ku; rw [qZ, lH]
theorem gT (p : Nat) (l : List Nat) : ku (p :: l) = kT p ++ ku l := rfl
theorem po : ku [] = [] := rfl
theorem QW : ∀ l : List Nat, wkL (ku l) = xv (qD l)
 | [] => by simp only [po, wkL, qD, List.map_nil, xO]
 | b :: r => by
  have := QW r
  simp only [qD] at this
  simp only [gT, kT, List.cons_append, znO, wkL, wkV, qD, List.map_cons, xM, gK, xq, xO, this, yX]
def accM (acc : List Nat) : AV := match acc with
 | [] => .nils
 | t :: r => .gr 0 5 (t :: r).length (ku (t :: r))
def j3 (acc : List Nat) : List (Option AObj) := match acc with
 | [] => []
 | t :: r => [some (.app 24 (ku (t :: r)))]
def Y3 (t : List Nat) : AV := .lst (qD t).length false (xv (qD t))
noncomputable def Vp : List AV → St → Option (AV × St) := orc0 encS PreB Y3
theorem VI {f : Nat} (h : O f = some Vp) {l : List Nat} (hb : Byt l) (h2 : l.length < 1000000) (s : St) : (evW env O).call f [.str l] s = some (Y3 l, s) := by
 rw [xC h, Vp, we Zf s l ⟨hb, h2⟩ rfl]
theorem H3 (t : List Nat) : xG (Y3 t) = true := by simp only [Y3, wi]
theorem zr1 (B : Bx P w0) (hO : OrcOk P w0 O) (h76 : O 76 = some J0) (t : List Nat) (hb : Byt t) (hlen : t.length < 1000000) :
  SC P w0 42 (encS t) (H [] 0 true) (Y3 t) (H [] 0 true) := by
 refine bs B hO f42 fun C k => ?_
 unfold f42
 simp only [Ko, Ki, Kv, Km, Kr, opN]
 refine wu (k.eval (by simp (disch := first | exact dis | fail) only [go_sem, seval, -rO, -rN, encS]; exact rfl) ?_)
 simp only [xA]
 refine wu (k.eval (by simp (disch := first | exact dis | fail) only [go_sem, seval, -rO, -rN]; exact rfl) ?_)
 simp only [xA]
 refine ul ⟨tmL [(3, accM t)], []⟩ (H (j3 t) 0 true) ?_ ?_
 ·
  refine wu (k.eval (by simp (disch := first | exact dis | fail) only [go_sem, seval, -rO, -rN]; exact rfl) ?_)
  simp only [xA]
  refine xS (x6 (k.gcL [] [7, 6, 3, 0] true (fr1 := ⟨tmL [(7, .int .i64 (.ofNat 0)), (6, .int .i64 (.ofNat t.length)), (3, accM []), (0, .str t)], []⟩) (s1 := H (j3 []) 0 true) (by simp (disch := first | exact dis | fail) only [go_sem, seval, -rO, -rN, accM, j3]) ?_))
  refine wb (fun x : Nat × List Nat => t.length - x.1) (fun x => ⟨tmL [(7, .int .i64 (.ofNat x.1)), (6, .int .i64 (.ofNat t.length)), (3, accM x.2), (0, .str t)], []⟩) (fun x => H (j3 x.2) 0 true) (fun x => x.1 ≤ t.length ∧ x.2 = t.take x.1) (fun x hx => ?_) (0, []) ⟨zN _, rfl⟩
  obtain ⟨i, acc⟩ := x
  obtain ⟨g1, g2⟩ := hx
  simp only at g1 g2 ⊢
  rcases qA t i with ⟨hi, hd⟩ | ⟨c, hi, hd⟩
  ·have hlt : ¬ i < t.length := by omega
   rw [List.take_of_length_le hi] at g2
   subst g2
   cases acc with
   | nil =>
    refine k.eval (by simp (disch := first | exact dis | fail) only [go_sem, seval, -rO, -rN, accM, j3]; exact rfl) ?_
    try simp only [xA, xX, Cut]
    refine k.gcs (keep := []) (live := [3]) (md := true) ?_
    simp (disch := first | exact dis | fail) only [go_sem, seval, -rO, -rN, accM, j3]
   | cons a0 ar =>
    have hp1 := j8 (a0 :: ar)
    simp only [yY] at hlt
    refine k.eval (by simp (disch := first | exact dis | fail) only [go_sem, seval, -rO, -rN, accM, j3, hlt]; exact rfl) ?_
    try simp only [xA, xX, Cut]
    refine k.gcs (keep := [0]) (live := [3]) (md := true) ?_
    simp (disch := first | exact dis | fail) only [go_sem, seval, -rO, -rN, accM, j3, hp1]
  ·have hc : c < 256 := hb c (znS (show c ∈ t.drop i by rw [hd]; simp))
   have hit := zyT h76 hc
   have hgs : getS t i = some c := by rw [Xn, ← List.head?_drop, hd]; rfl
   have hnext : acc ++ [c] = t.take (i + 1) := by
    rw [List.take_add, hd, g2]; simp
   have hacc : acc.length = i := by rw [g2, znZ]; omega
   cases acc with
   | nil =>
    refine k.eval (by simp (disch := first | exact dis | fail) only [go_sem, seval, -rO, -rN, accM, j3, hi, hgs, hit]; exact rfl) ?_
    try simp only [xA]
    refine ⟨(i + 1, [] ++ [c]), ⟨by simp only; omega, hnext⟩, by simp only; omega, ?_⟩
    refine k.gcs (keep := [0]) (live := [7, 6, 3, 0]) (md := true) ?_
    simp (disch := first | exact dis | fail) only [go_sem, seval, -rO, -rN, accM, j3, gT, po, kT]
   | cons a0 ar =>
    have hp1 := j8 (a0 :: ar)
    simp only [yY] at hacc
    refine k.eval (by simp (disch := first | exact dis | fail) only [go_sem, seval, -rO, -rN, accM, j3, hi, hgs, hit]; exact rfl) ?_
    try simp only [xA]
    refine ⟨(i + 1, (a0 :: ar) ++ [c]), ⟨by simp only; omega, hnext⟩, by simp only; omega, ?_⟩
    refine k.gcs (keep := [1]) (live := [7, 6, 3, 0]) (md := true) ?_
    simp only [List.cons_append, accM, j3, gT, zzH, kT, znO, ye, yY, yX]
    simp (disch := first | exact dis | fail) only [go_sem, seval, -rO, -rN, j8]
 ·have hw := QW t
  have hln : (qD t).length = t.length := zn0 _
  unfold Y3
  revert hw hln
  generalize xv (qD t) = cs
  generalize (qD t).length = nn
  intro hw hln
  subst hln
  subst hw
  cases t with
  | nil =>
   refine k.eval (by simp (disch := first | exact dis | fail) only [go_sem, seval, -rO, -rN, accM, j3]; exact rfl) ?_
   try simp only [xA, xX, Cut, if_true]
   apply w7 (Or.inr rfl)
   iterate 5 (simp (disch := first | exact dis | fail) only [go_sem, seval, -rO, -rN, po] <;> exact rfl)
  | cons a0 ar =>
   have hp1 := j8 (a0 :: ar)
   refine k.eval (by simp (disch := first | exact dis | fail) only [go_sem, seval, -rO, -rN, accM, j3]; exact rfl) ?_
   try simp only [xA, xX, Cut, if_true]
   apply w7 (Or.inr rfl)
   iterate 5 (simp (disch := first | exact dis | fail) only [go_sem, seval, -rO, -rN] <;> exact rfl)
def qF (f : DT → List Nat) : List DT → List Nat
 | [] => []
 | d :: r => 32 :: (f d ++ qF f r)
def allT (f : DT → List Nat) : List DT → List Nat
 | [] => []
 | d :: r => f d ++ qF f r
def zwY (disp : Bool) (n : Int) : List Nat := if disp then encC n.toNat else 35 :: 92 :: wN n.toNat
def endT (f : DT → List Nat) (e : DT) : List Nat := if xU e = .ofNat 0 then [] else [32, 46, 32] ++ f e
noncomputable def txK (disp : Bool) (f : DT → List Nat) (d : DT) (k : Int) : List Nat :=
 if k = .ofNat 0 then [40, 41]
 else if k = .ofNat 1 then [35, if numD d = .ofNat 1 then 116 else 102]
 else if k = .ofNat 2 ∨ k = .ofNat 5 then xV d
 else if k = .ofNat 3 then zwY disp (numD d)
 else if k = .ofNat 4 then vl disp (xV d)
 else if k = .ofNat 7 then [35, 40] ++ allT f (qn d) ++ [41]
 else if k = .ofNat 8 then [35, 117, 56, 40] ++ allT xV (qD (xV d)) ++ [41]
 else if k = .ofNat 9 then [35, 33, 101, 111, 102]
 else if k = .ofNat 10 then [35, 33, 110, 111, 110, 101]
 else [40] ++ allT f (xr d).1 ++ endT f (xr d).2 ++ [41]
noncomputable def txN (disp : Bool) : Nat → DT → List Nat
 | 0, _ => []
 | k + 1, d => txK disp (txN disp k) d (xU d)
def wtD (d : DT) : Nat := 2 * xL d + (if xU d = .ofNat 8 then 1 else 0)
def GoodD (n : Nat) (d : DT) : Prop := mayD d = true ∧ TxD d ∧ wtD d ≤ n
theorem pi {f g : DT → List Nat} : ∀ {l : List DT}, (∀ x ∈ l, f x = g x) → qF f l = qF g l ∧ allT f l = allT g l
 | [], _ => ⟨rfl, rfl⟩
 | d :: r, h => by
  have ih := pi (l := r) fun x hx => h x (by simp [hx])
  simp only [qF, allT, h d (by simp), ih.1, and_self]
theorem lN {kd n : Int} {t : List Nat} {ks : List DT} {p : Int} (h : mayD (.mk kd n t ks p) = true) :
  kd = .ofNat 0 ∨ (kd = .ofNat 1 ∧ (n = .ofNat 0 ∨ n = .ofNat 1)) ∨ (kd = .ofNat 2 ∧ t ≠ []) ∨ (kd = .ofNat 3 ∧ ∃ c, n = .ofNat c ∧ xB c = true) ∨ (kd = .ofNat 4 ∧ okC t = true) ∨ (kd = .ofNat 5 ∧ t ≠ []) ∨ (kd = .ofNat 6 ∧ ∃ x y, ks = [x, y]) ∨ (kd = .ofNat 7 ∧ ∀ x ∈ ks, mayD x = true) ∨ kd = .ofNat 8 ∨ kd = .ofNat 9 ∨ kd = .ofNat 10 := by
 cases hk : xQ (.mk kd n t ks p) with
 | some q =>
  obtain ⟨x, y⟩ := q
  obtain ⟨h1, h2⟩ := w6 hk
  exact .inr (.inr (.inr (.inr (.inr (.inr (.inl ⟨h1, x, y, h2⟩))))))
 | none =>
  rw [lM hk] at h
  by_cases h7 : kd = .ofNat 7
  ·rw [if_pos h7] at h
   exact .inr (.inr (.inr (.inr (.inr (.inr (.inr (.inl ⟨h7, fun x hx => List.all_eq_true.1 h x hx⟩)))))))
  ·rw [if_neg h7, zm] at h
   have hb := h.2
   rw [show j6 (.mk kd n t ks p) = XE kd n t from rfl, XE] at hb
   by_cases g0 : kd = .ofNat 0 ∨ kd = .ofNat 8 ∨ kd = .ofNat 9 ∨ kd = .ofNat 10
   ·rcases g0 with g | g | g | g
    ·exact .inl g
    ·exact .inr (.inr (.inr (.inr (.inr (.inr (.inr (.inr (.inl g))))))))
    ·exact .inr (.inr (.inr (.inr (.inr (.inr (.inr (.inr (.inr (.inl g)))))))))
    ·exact .inr (.inr (.inr (.inr (.inr (.inr (.inr (.inr (.inr (.inr g)))))))))
   rw [if_neg g0] at hb
   by_cases g1 : kd = .ofNat 1
   ·rw [if_pos g1] at hb
    refine .inr (.inl ⟨g1, ?_⟩)
    rw [Bool.or_eq_true] at hb
    simpa [eqD] using hb
   rw [if_neg g1] at hb
   by_cases g2 : kd = .ofNat 2
   ·rw [if_pos g2] at hb
    exact .inr (.inr (.inl ⟨g2, fun e => by subst e; exact absurd hb (by decide)⟩))
   rw [if_neg g2] at hb
   by_cases g3 : kd = .ofNat 3
   ·rw [if_pos g3] at hb
    refine .inr (.inr (.inr (.inl ⟨g3, ?_⟩)))
    cases n with
    | ofNat c => exact ⟨c, rfl, hb⟩
    | negSucc c => cases hb
   rw [if_neg g3] at hb
   by_cases g4 : kd = .ofNat 4
   ·rw [if_pos g4] at hb
    exact .inr (.inr (.inr (.inr (.inl ⟨g4, hb⟩))))
   rw [if_neg g4] at hb
   by_cases g5 : kd = .ofNat 5
   ·rw [if_pos g5, zm] at hb
    exact .inr (.inr (.inr (.inr (.inr (.inl ⟨g5, by simpa using hb.2⟩)))))
   rw [if_neg g5] at hb
   cases hb
theorem lJ {kd n : Int} {t : List Nat} {ks : List DT} {p : Int} (h : kd ≠ .ofNat 6) : xQ (.mk kd n t ks p) = none := by
 cases hk : xQ (.mk kd n t ks p) with
 | none => rfl
 | some q => exact absurd (w6 (x := q.1) (y := q.2) hk).1 h
theorem zuP (hk : xQ d = none) (h : mayE d = true) : mayD d = true := by
 rw [Yi hk]; exact h
theorem GoodD.kids {kd nn : Int} {t : List Nat} {ks : List DT} {p : Int} (h : GoodD (n + 1) (.mk kd nn t ks p)) (h7 : kd = .ofNat 7) : ∀ x ∈ ks, GoodD n x := by
 obtain ⟨h1, h2, h3⟩ := h
 intro x hx
 subst h7
 rw [lM (lJ (by decide)), if_pos rfl] at h1
 simp only [TxD] at h2
 refine ⟨List.all_eq_true.1 h1 x hx, TxL.mem h2.2.2 hx, ?_⟩
 have := qb hx
 simp only [wtD, xL, xU] at h3
 unfold wtD
 split <;> omega
theorem GoodD.items {d : DT} (h : GoodD (n + 1) d) (h6 : xU d = .ofNat 6) : (∀ x ∈ (xr d).1, GoodD n x) ∧ GoodD n (xr d).2 ∧ xQ (xr d).2 = none ∧ (xr d).1.length ≤ n + 1 := by
 obtain ⟨h1, h2, h3⟩ := h
 have hm := WD _ d (yw _)
 rw [h1] at hm
 have hm := hm.symm
 rw [zm] at hm
 have ht := zzr d h2
 have hn := KW d
 have he := HQ d
 have hk : ∃ x y, xQ d = some (x, y) := by
  obtain ⟨kd, nn, t, ks, p⟩ := d
  have := lN h1
  simp only [xU] at h6
  subst h6
  have h := this
  simp at h
  obtain ⟨x, y, e⟩ := h
  subst e
  exact ⟨x, y, rfl⟩
 obtain ⟨x, y, hk⟩ := hk
 have e1 : (xr d).1 = x :: (xr y).1 := by rw [wC hk]
 have hw : 2 * xL d ≤ n + 1 := by
  unfold wtD at h3; omega
 have hpos := wh (xr d).2
 have hposx := wh x
 have hll := uu (xr d).1
 have hlx : xL x ≤ x5 (xr d).1 := by rw [e1]; exact qb (by simp)
 refine ⟨fun z hz => ⟨List.all_eq_true.1 hm.1 z hz, TxL.mem ht.1 hz, ?_⟩, ⟨zuP he hm.2, ht.2, ?_⟩, he, ?_⟩
 ·have := qb hz
  unfold wtD
  split <;> omega
 ·unfold wtD
  split <;> omega
 ·omega
def zoU (n : Nat) (d : DT) (out : List Nat) (disp : Bool) : Prop := GoodD n d ∧ out.length + (txN disp n d).length < 1000000
noncomputable def gWd (n : Nat) : List AV → St → Option (AV × St) := orcW 54 5 qK (zoU n) (fun d disp => txN disp n d)
def X3 (l : List DT) : List AV := [.lst l.length false (xv l)]
def zpe (n : Nat) (l : List DT) (out : List Nat) (disp : Bool) : Prop := l.length < 1000000 ∧ (∀ d ∈ l, GoodD n d) ∧ out.length + (allT (txN disp n) l).length < 1000000
noncomputable def gWa (n : Nat) : List AV → St → Option (AV × St) := orcW 54 5 X3 (zpe n) (fun l disp => allT (txN disp n) l)
theorem YO : ∀ x y, qK x = qK y → x = y := fun d e h => by
 simp only [qK, yZ, and_true] at h; exact kD h
theorem zyg : ∀ x y, X3 x = X3 y → x = y := fun d e h => by
 simp only [X3, yZ, AV.lst.injEq, and_true, true_and] at h; exact uq h.2
theorem Jc (h : O 20 = some (gWd n)) (hd : GoodD n d) (out : List Nat) (disp : Bool) (hb : out.length + (txN disp n d).length < 1000000) (l : List (Nat × Option AObj)) (nx m : Nat) (md : Bool) (id j : Nat) (ne : id ≠ j) (hi : id < nx) (hj : j < nx)
  (hw : getA l id = some (.row 54 [.ptr id 0, .sl j 0 out.length (.opn 1), .bool disp] false false)) (hb : getA l j = some (.row 5 (xo out) true false)) :
  (evW env O).call 20 [.ptr id 0, .agg (xT d)] (KL l nx m md [] none) = some (.tup [], KL ((nx, some (.row 5 (xo (out ++ txN disp n d)) true false)) :: (j, none) :: (id, some (.row 54 [.ptr id 0, .sl nx 0 (out ++ txN disp n d).length (.opn 1), .bool disp] false false)) :: l) (nx + 1) (mark (mark m id) j) md [] none) :=
 zwS (E := env) h YO d out disp ⟨hd, by assumption⟩ l nx m md id j [.agg (xT d)] (by simp only [qK, encD, wkL, wkV, vS]) ne hi hj hw hb
theorem zqY (h : O 40 = some (gWa n)) {ls : List DT} (hl : ls.length < 1000000) (hd : ∀ d ∈ ls, GoodD n d) (out : List Nat) (disp : Bool) (hb : out.length + (allT (txN disp n) ls).length < 1000000) (l : List (Nat × Option AObj)) (nx m : Nat) (md : Bool) (id j : Nat) (ne : id ≠ j) (hi : id < nx) (hj : j < nx)
  (hw : getA l id = some (.row 54 [.ptr id 0, .sl j 0 out.length (.opn 1), .bool disp] false false)) (hb : getA l j = some (.row 5 (xo out) true false)) :
  (evW env O).call 40 [.ptr id 0, .lst ls.length false (xv ls)] (KL l nx m md [] none) = some (.tup [], KL ((nx, some (.row 5 (xo (out ++ allT (txN disp n) ls)) true false)) :: (j, none) :: (id, some (.row 54 [.ptr id 0, .sl nx 0 (out ++ allT (txN disp n) ls).length (.opn 1), .bool disp] false false)) :: l) (nx + 1) (mark (mark m id) j) md [] none) :=
 zwS (E := env) h zyg ls out disp ⟨hl, hd, by assumption⟩ l nx m md id j [.lst ls.length false (xv ls)] (by simp only [X3, wkL, wkV, w4]) ne hi hj hw hb
noncomputable def wst (out : List Nat) (disp : Bool) : St := H [some (wrow 54 0 2 out.length disp), none, some (brow 5 out)] 3 true
def VY (f : DT → List Nat) (i : Nat) (l : List DT) : List Nat := match i with
 | 0 => allT f l
 | _ + 1 => qF f l
attribute [local go_sem] wrow brow wst xM qJ xq qV in
theorem zqZ (B : Bx P w0) (hO : OrcOk P w0 O) (o41 : O 41 = none) (o72 : O 72 = none) (h20 : O 20 = some (gWd n)) (ls : List DT) (out0 : List Nat) (disp : Bool) (hp : zpe n ls out0 disp) :
  SC P w0 40 [.ptr 0 0, .lst ls.length false (xv ls)] (H [some (wrow 54 0 1 out0.length disp), some (brow 5 out0)] 0 true) (.tup []) (H [some (wrow 54 0 2 (out0 ++ allT (txN disp n) ls).length disp), none, some (brow 5 (out0 ++ allT (txN disp n) ls))] 3 true) := by
 obtain ⟨hl, hg, hb⟩ := hp
 refine Is.scK hO B.mixed B.glob B.env 3 (show env.funs.get 40 = some f40 from rfl) (znR rfl) (zuO rfl rfl) fun C k => ?_
 generalize hf : txN disp n = f
 rw [hf] at hb
 generalize hT : out0 ++ allT f ls = T
 refine Yy k.ren0 ?_
 unfold f40
 simp only [Ko, Kn, Ki, Kv, Km, Kr, opN]
 refine k.q ?_
 refine xS (x6 (k.gcL [2] [8, 7, 6, 0] true (fr1 := ⟨tmL [(8, .int .i64 (.ofNat 0)), (7, .int .i64 (.ofNat ls.length)), (6, .lst ls.length false (xv ls)), (0, .ptr 0 0)], []⟩) (s1 := wst out0 disp) (by simp (disch := first | exact dis | fail) only [go_sem, seval, -rO, -rN, wst, wrow, brow]) ?_))
 refine wb (fun x : Nat × List Nat => ls.length - x.1) (fun x => ⟨tmL [(8, .int .i64 (.ofNat x.1)), (7, .int .i64 (.ofNat ls.length)), (6, .lst ls.length false (xv ls)), (0, .ptr 0 0)], []⟩) (fun x => wst x.2 disp) (fun x => x.1 ≤ ls.length ∧ x.2 ++ VY f x.1 (ls.drop x.1) = T) (fun x hx => ?_) (0, out0) ⟨zN _, hT⟩
 obtain ⟨i, out⟩ := x
 simp only at hx ⊢
 obtain ⟨h1, h3⟩ := hx
 have hTl := congrArg yB hT
 rw [ye] at hTl
 rcases qA ls i with ⟨hi, hd⟩ | ⟨d, hi, hd⟩
 ·have hlt : ¬ i < ls.length := by omega
  have e : VY f i [] = [] := by cases i <;> rfl
  rw [hd, e, xi] at h3
  subst h3
  refine k.z ?_
  apply wq [2] (Or.inl rfl)
  iterate 5 (simp (disch := first | exact dis | fail) only [go_sem, seval, -rO, -rN, wrow, brow] <;> exact rfl)
 ·have hgd := hg d (znS (show d ∈ ls.drop i by rw [hd]; simp))
  have hlen := congrArg yB h3
  rw [hd, ye] at hlen
  cases i with
  | zero =>
   have e : VY f 0 (d :: ls.drop (0 + 1)) = f d ++ qF f (ls.drop 1) := rfl
   rw [hd, e] at h3
   rw [e, ye] at hlen
   have hcall := fun l nx m => Jc h20 hgd out disp (by rw [hf]; omega) l nx m true 0 2
   rw [hf] at hcall
   obtain ⟨dk, dn, dt, dks, dp⟩ := d
   simp only [xq] at hcall
   have hdr : wA 5 (xv ls) = some (xT (DT.mk dk dn dt dks dp)) := by
    rw [show ls = ls.drop 0 from rfl, hd, xM]; exact qJ _ _
   simp only [xq] at hdr
   refine k.z ?_
   refine ⟨(1, out ++ f (.mk dk dn dt dks dp)), ⟨by simp only; omega, by simp only [VY]; rw [znY]; exact h3⟩, by simp only; omega, ?_⟩
   refine k.gcs (keep := [4]) (live := [8, 7, 6, 0]) (md := true) ?_
   simp (disch := first | exact dis | fail) only [go_sem, seval, -rO, -rN, wst, wrow, brow]
  | succ i =>
   have e : VY f (i + 1) (d :: ls.drop (i + 1 + 1)) = 32 :: (f d ++ qF f (ls.drop (i + 2))) := rfl
   rw [hd, e] at h3
   rw [e, yY, ye] at hlen
   have hwb := fun l nx m => ZP o41 o72 l nx m 0 2 true out disp 32 (by omega) (by omega) (by omega)
   have hcall := fun l nx m => Jc h20 hgd (out ++ [32]) disp (by rw [hf]; simp only [ye, yY, yX]; omega) l nx m true 0 5
   rw [hf] at hcall
   obtain ⟨dk, dn, dt, dks, dp⟩ := d
   simp only [xq] at hcall
   refine k.z ?_
   refine ⟨(i + 2, out ++ [32] ++ f (.mk dk dn dt dks dp)), ⟨by simp only; omega, by simp only [VY]; rw [← h3]; simp⟩, by simp only; omega, ?_⟩
   refine k.gcs (keep := [6]) (live := [8, 7, 6, 0]) (md := true) ?_
   simp (disch := first | exact dis | fail) only [go_sem, seval, -rO, -rN, wst, wrow, brow]
theorem vr (o36 : O 36 = none) (o72 : O 72 = none) (id j : Nat) (out : List Nat) (disp : Bool) (s o1 : List Nat) (h1 : o1 = out ++ s) (hs : s ≠ []) (ho : o1.length < 1000000) (ne : id ≠ j) (l : List (Nat × Option AObj)) (n m : Nat) (b : Bool) (hi : id < n) (hj : j < n)
  (hw : getA l id = some (.row 54 [.ptr id 0, .sl j 0 out.length (.opn 1), .bool disp] false false)) (hb : getA l j = some (.row 5 (xo out) true false)) :
  (evW env O).call 36 [.ptr id 0, .str s] (KL l n m b [] none) = some (.tup [.int .i64 (.ofNat s.length), .nili], KL ((id, some (.row 54 [.ptr id 0, .sl n 0 o1.length (.opn 1), .bool disp] false false)) :: (n, some (.row 5 (xo o1) true false)) :: (j, none) :: l) (n + 1) (mark (mark m j) id) b [] none) := by
 subst h1
 rw [ye] at ho
 exact Xv o36 o72 l n m id j b out disp s hs (by omega) (by omega) ne hi hj hw hb
theorem uc (o41 : O 41 = none) (o72 : O 72 = none) (id j : Nat) (out : List Nat) (disp : Bool) (c : Nat) (o1 : List Nat) (h1 : o1 = out ++ [c]) (hc : c < 256) (ho : o1.length < 1000000) (ne : id ≠ j) (l : List (Nat × Option AObj)) (n m : Nat) (b : Bool) (hi : id < n) (hj : j < n)
  (hw : getA l id = some (.row 54 [.ptr id 0, .sl j 0 out.length (.opn 1), .bool disp] false false)) (hb : getA l j = some (.row 5 (xo out) true false)) :
  (evW env O).call 41 [.ptr id 0, .int .u8 (.ofNat c)] (KL l n m b [] none) = some (.nili, KL ((id, some (.row 54 [.ptr id 0, .sl (n + 1) 0 o1.length (.opn 1), .bool disp] false false)) :: (n + 1, some (.row 5 (xo o1) true false)) :: (j, none) :: (n, some (.row 5 (xo [c]) false false)) :: l) (n + 2) (mark (mark m j) id) b [] none) := by
 subst h1
 rw [ye] at ho
 exact ZP o41 o72 l n m id j b out disp c hc (by omega) ne hi hj hw hb
theorem zsm (o38 : O 38 = none) (o72 : O 72 = none) (o74 : O 74 = none) (o96 : O 96 = none) (id j : Nat) (out : List Nat) (disp : Bool) (c : Nat) (o1 : List Nat) (h1 : o1 = out ++ encC c) (hv : xB c = true) (ho : o1.length < 1000000) (ne : id ≠ j) (l : List (Nat × Option AObj)) (n m : Nat) (b : Bool) (hi : id < n) (hj : j < n)
  (hw : getA l id = some (.row 54 [.ptr id 0, .sl j 0 out.length (.opn 1), .bool disp] false false)) (hb : getA l j = some (.row 5 (xo out) true false)) :
  (evW env O).call 38 [.ptr id 0, .int .i32 (.ofNat c)] (KL l n m b [] none) = some (.tup [.int .i64 (.ofNat (o1.length - out.length)), .nili], KL ((id, some (.row 54 [.ptr id 0, .sl (n + 1) 0 o1.length (.opn 1), .bool disp] false false)) :: (n + 1, some (.row 5 (xo o1) true false)) :: (j, none) :: (n, some (.row 5 (xo (encC c)) false false)) :: l) (n + 2) (mark (mark m j) id) b [] none) := by
 subst h1
 rw [ye] at ho
 exact zq6 o38 o72 o74 o96 l n m id j b out disp c hv (by omega) ne hi hj hw hb
theorem GO {n0 : Nat} (h : O 20 = some (gWd n0)) (hd : GoodD n0 d) (id j : Nat) (out : List Nat) (disp : Bool) (o1 : List Nat) (h1 : o1 = out ++ txN disp n0 d) (ho : o1.length < 1000000) (ne : id ≠ j) (l : List (Nat × Option AObj)) (n m : Nat) (b : Bool) (hi : id < n) (hj : j < n)
  (hw : getA l id = some (.row 54 [.ptr id 0, .sl j 0 out.length (.opn 1), .bool disp] false false)) (hb : getA l j = some (.row 5 (xo out) true false)) :
  (evW env O).call 20 [.ptr id 0, .agg (xT d)] (KL l n m b [] none) = some (.tup [], KL ((n, some (.row 5 (xo o1) true false)) :: (j, none) :: (id, some (.row 54 [.ptr id 0, .sl n 0 o1.length (.opn 1), .bool disp] false false)) :: l) (n + 1) (mark (mark m id) j) b [] none) := by
 subst h1
 rw [ye] at ho
 exact Jc h hd out disp ho l n m b id j ne hi hj hw hb
theorem je {n0 : Nat} (h : O 40 = some (gWa n0)) {ls : List DT} (hl : ls.length < 1000000) (hd : ∀ d ∈ ls, GoodD n0 d) (id j : Nat) (out : List Nat) (disp : Bool) (o1 : List Nat) (h1 : o1 = out ++ allT (txN disp n0) ls) (ho : o1.length < 1000000) (ne : id ≠ j) (l : List (Nat × Option AObj)) (n m : Nat) (b : Bool) (hi : id < n) (hj : j < n)
  (hw : getA l id = some (.row 54 [.ptr id 0, .sl j 0 out.length (.opn 1), .bool disp] false false)) (hb : getA l j = some (.row 5 (xo out) true false)) :
  (evW env O).call 40 [.ptr id 0, .lst ls.length false (xv ls)] (KL l n m b [] none) = some (.tup [], KL ((n, some (.row 5 (xo o1) true false)) :: (j, none) :: (id, some (.row 54 [.ptr id 0, .sl n 0 o1.length (.opn 1), .bool disp] false false)) :: l) (n + 1) (mark (mark m id) j) b [] none) := by
 subst h1
 rw [ye] at ho
 exact zqY h hl hd out disp ho l n m b id j ne hi hj hw hb
theorem zsp (h : O 39 = some gTxt) (id j : Nat) (out : List Nat) (disp : Bool) (t o1 : List Nat) (h1 : o1 = out ++ vl disp t) (ht : t.length < 1000000) (ho : o1.length < 1000000) (ne : id ≠ j) (l : List (Nat × Option AObj)) (n m : Nat) (b : Bool) (hi : id < n) (hj : j < n)
  (hw : getA l id = some (.row 54 [.ptr id 0, .sl j 0 out.length (.opn 1), .bool disp] false false)) (hb : getA l j = some (.row 5 (xo out) true false)) :
  (evW env O).call 39 [.ptr id 0, .str t] (KL l n m b [] none) = some (.tup [], KL ((n, some (.row 5 (xo o1) true false)) :: (j, none) :: (id, some (.row 54 [.ptr id 0, .sl n 0 o1.length (.opn 1), .bool disp] false false)) :: l) (n + 1) (mark (mark m id) j) b [] none) := by
 subst h1
 rw [ye] at ho
 exact zwS (E := env) h JO t out disp ⟨ht, ho⟩ l n m b id j [.str t] rfl ne hi hj hw hb
theorem pN (c : Nat) : (wN c).length ≤ 7 := by
 have := wS c
 have := Zq c
 unfold wN
 split
 ·simp
 ·split
  ·simp
  ·split
   ·simp
   ·split
    ·simp; omega
    ·omega
theorem Vv (c : Nat) : (v8 c).length ≤ 3 ∧ v8 c ≠ [] := by
 unfold v8; split
 ·simp
 ·split <;> simp
theorem KX (hn : 1 ≤ n) {t : List Nat} {x : DT} (h : x ∈ qD t) : txN disp n x = xV x := by
 obtain ⟨b, _, rfl⟩ := List.mem_map.1 h
 cases n with
 | zero => omega
 | succ n => rfl
theorem zy6 : ∀ c, c < 256 → numS (v8 c) = true := fun c hc => by
 have key : (znX 256).all (fun c => numS (v8 c)) = true := by decide +kernel
 exact List.all_eq_true.1 key c (List.mem_range.2 hc)
theorem Y2 (hn : 2 ≤ n) {t : List Nat} (hb : Byt t) {x : DT} (h : x ∈ qD t) : GoodD n x := by
 obtain ⟨b, hm, rfl⟩ := List.mem_map.1 h
 have h1 := Vv b
 have h2 := zy6 b (hb b hm)
 refine ⟨?_, ?_, ?_⟩
 ·rw [gK, lM (lJ (by decide)), if_neg (by decide)]
  rw [show j6 (.mk (.ofNat 2) (.ofNat 0) (v8 b) [] (.ofNat 0)) = XE (.ofNat 2) (.ofNat 0) (v8 b) from rfl, XE, if_neg (by decide), if_neg (by decide), if_pos rfl, h2]
  rfl
 ·simp only [gK, TxD, TxL]
  refine ⟨?_, by omega, trivial⟩
  intro x hx
  have := hb b hm
  unfold v8 at hx
  split at hx
  ·simp at hx; omega
  ·split at hx
   ·simp at hx; omega
   ·simp at hx; omega
 ·have e : wtD (gK b) = 2 := rfl
  omega
attribute [local go_sem] encD xq wrow brow in
theorem zwe (B : Bx P w0) (hO : OrcOk P w0 O) (o36 : O 36 = none) (o38 : O 38 = none) (o41 : O 41 = none) (o72 : O 72 = none) (o74 : O 74 = none) (o96 : O 96 = none) (o43 : O 43 = none) (h19 : O 19 = some gItm) (h37 : O 37 = some Z5) (h39 : O 39 = some gTxt) (h42 : O 42 = some Vp) (hn : n ≤ 100000) (h20 : O 20 = some (gWd n)) (h40 : O 40 = some (gWa n)) (d : DT) (out0 : List Nat) (disp : Bool) (hg : GoodD (n + 1) d) (hb : out0.length + (txN disp (n + 1) d).length < 1000000) :
  SC P w0 20 [.ptr 0 0, encD d] (H [some (wrow 54 0 1 out0.length disp), some (brow 5 out0)] 0 true) (.tup []) (H [some (wrow 54 0 2 (out0 ++ txN disp (n + 1) d).length disp), none, some (brow 5 (out0 ++ txN disp (n + 1) d))] 3 true) := by
 refine Is.scK hO B.mixed B.glob B.env 3 (show env.funs.get 20 = some f20 from rfl) (znR rfl) (zuO rfl rfl) fun C k => ?_
 have clist := ci f43 o43
 have htx := hg.2.1
 obtain ⟨kd, nn, tx, ks, p⟩ := d
 simp only [TxD] at htx
 obtain ⟨tx1, tx2, tx3⟩ := htx
 obtain ⟨T, hT⟩ : ∃ T, T = out0 ++ txN disp (n + 1) (.mk kd nn tx ks p) := ⟨_, rfl⟩
 have hTl : T.length < 1000000 := by rw [hT, ye]; exact hb
 rw [← hT]
 rw [show txN disp (n + 1) (.mk kd nn tx ks p) = txK disp (txN disp n) (.mk kd nn tx ks p) kd from rfl] at hT
 have hcs := lN hg.1
 unfold f20
 simp only [Ko, Kd, Ki, Km, Kr, opN]
 rcases hcs with rfl | ⟨rfl, hcs⟩ | ⟨rfl, hcs⟩ | ⟨rfl, c, rfl, hv⟩ | ⟨rfl, hcs⟩ | ⟨rfl, hcs⟩ | ⟨rfl, hcs⟩ | ⟨rfl, hcs⟩ | rfl | rfl | rfl
 ·have e : T = out0 ++ [40, 41] := hT
  have hws := vr o36 o72 0 1 out0 disp [40, 41] T e (by simp) (by omega) (by omega)
  refine k.eval (by simp (disch := first | exact dis | fail) only [go_sem, seval, -rO, -rN, encD, xq, wrow, brow, hws]; exact rfl) ?_
  try simp only [xA, xX, Cut, if_true]
  apply wq [3] (by first | exact Or.inl rfl | exact Or.inr rfl)
  iterate 5 (simp (disch := first | exact dis | fail) only [go_sem, seval, -rO, -rN, wrow, brow] <;> exact rfl)
 ·have hs0 : vSls (.str [102, 116]) (some (.int .i64 (.ofNat 0))) (some (.int .i64 (.ofNat 1))) = some (.str [102]) := rfl
  have hs1 : vSls (.str [102, 116]) (some (.int .i64 (.ofNat 1))) (some (.int .i64 (.ofNat 2))) = some (.str [116]) := rfl
  rcases hcs with rfl | rfl
  ·have e : T = out0 ++ [35, 102] := hT
   have hws := vr o36 o72 0 1 out0 disp [35, 102] T e (by simp) (by omega) (by omega)
   refine k.eval (by simp (disch := first | exact dis | fail) only [go_sem, seval, -rO, -rN, encD, xq, wrow, brow, hws, hs0]; exact rfl) ?_
   try simp only [xA, xX, Cut, if_true]
   apply wq [3] (by first | exact Or.inl rfl | exact Or.inr rfl)
   iterate 5 (simp (disch := first | exact dis | fail) only [go_sem, seval, -rO, -rN, wrow, brow] <;> exact rfl)
  ·have e : T = out0 ++ [35, 116] := hT
   have hws := vr o36 o72 0 1 out0 disp [35, 116] T e (by simp) (by omega) (by omega)
   refine k.eval (by simp (disch := first | exact dis | fail) only [go_sem, seval, -rO, -rN, encD, xq, wrow, brow, hws, hs1]; exact rfl) ?_
   try simp only [xA, xX, Cut, if_true]
   apply wq [3] (by first | exact Or.inl rfl | exact Or.inr rfl)
   iterate 5 (simp (disch := first | exact dis | fail) only [go_sem, seval, -rO, -rN, wrow, brow] <;> exact rfl)
 ·have e : T = out0 ++ tx := hT
  have hws := vr o36 o72 0 1 out0 disp tx T e hcs (by omega) (by omega)
  refine k.eval (by simp (disch := first | exact dis | fail) only [go_sem, seval, -rO, -rN, encD, xq, wrow, brow, hws]; exact rfl) ?_
  try simp only [xA, xX, Cut, if_true]
  apply wq [3] (by first | exact Or.inl rfl | exact Or.inr rfl)
  iterate 5 (simp (disch := first | exact dis | fail) only [go_sem, seval, -rO, -rN, wrow, brow] <;> exact rfl)
 ·cases disp with
  | true =>
   have e : T = out0 ++ encC c := hT
   have hm := (xH.1 hv).1
   have hwr := zsm o38 o72 o74 o96 0 1 out0 true c T e hv (by omega) (by omega)
   refine k.eval (by simp (disch := first | exact dis | fail) only [go_sem, seval, -rO, -rN, encD, xq, wrow, brow, LN, hwr]; exact rfl) ?_
   try simp only [xA, xX, Cut, if_true]
   apply wq [4] (by first | exact Or.inl rfl | exact Or.inr rfl)
   iterate 5 (simp (disch := first | exact dis | fail) only [go_sem, seval, -rO, -rN, wrow, brow] <;> exact rfl)
  | false =>
   have e : T = out0 ++ 35 :: 92 :: wN c := hT
   have hnm := WF (f := 37) h37 hv
   have hnl := pN c
   have hws := vr o36 o72 0 1 out0 false (35 :: 92 :: wN c) T e (by simp) (by omega) (by omega)
   refine k.z ?_
   exact finK [3]
 ·have e : T = out0 ++ vl disp tx := hT
  have hwt := zsp h39 0 1 out0 disp tx T e (by omega) (by omega) (by omega)
  refine k.eval (by simp (disch := first | exact dis | fail) only [go_sem, seval, -rO, -rN, encD, xq, wrow, brow, hwt]; exact rfl) ?_
  try simp only [xA, xX, Cut, if_true]
  apply wq [3] (by first | exact Or.inl rfl | exact Or.inr rfl)
  iterate 5 (simp (disch := first | exact dis | fail) only [go_sem, seval, -rO, -rN, wrow, brow] <;> exact rfl)
 ·have e : T = out0 ++ tx := hT
  have hws := vr o36 o72 0 1 out0 disp tx T e hcs (by omega) (by omega)
  refine k.eval (by simp (disch := first | exact dis | fail) only [go_sem, seval, -rO, -rN, encD, xq, wrow, brow, hws]; exact rfl) ?_
  try simp only [xA, xX, Cut, if_true]
  apply wq [3] (by first | exact Or.inl rfl | exact Or.inr rfl)
  iterate 5 (simp (disch := first | exact dis | fail) only [go_sem, seval, -rO, -rN, wrow, brow] <;> exact rfl)
 ·have hit := hg.items rfl
  have hitm := J9 (f := 19) h19 (d := .mk (.ofNat 6) nn tx ks p) (by omega)
  simp only [itR] at hitm
  have e : T = out0 ++ ([40] ++ allT (txN disp n) (xr (.mk (.ofNat 6) nn tx ks p)).1 ++ endT (txN disp n) (xr (.mk (.ofNat 6) nn tx ks p)).2 ++ [41]) := hT
  revert e hitm hit
  generalize (xr (.mk (.ofNat 6) nn tx ks p)).1 = l
  generalize (xr (.mk (.ofNat 6) nn tx ks p)).2 = ed
  intro hit hitm e
  obtain ⟨hit1, hit2, _, hit3⟩ := hit
  have hk := hit2
  obtain ⟨ek, en, et, eks, ep⟩ := ed
  simp only [encD, xq] at hitm
  obtain ⟨o1, h1⟩ : ∃ o1, o1 = out0 ++ [40] := ⟨_, rfl⟩
  obtain ⟨o2, h2⟩ : ∃ o2, o2 = o1 ++ allT (txN disp n) l := ⟨_, rfl⟩
  have l1 := congrArg yB h1
  have l2 := congrArg yB h2
  simp only [ye, yY, yX] at l1 l2
  by_cases hek : ek = .ofNat 0
  ·subst hek
   have e3 : T = o2 ++ [41] := by rw [e, h2, h1]; simp [endT, xU]
   have l3 := congrArg yB e3
   simp only [ye, yY, yX] at l3
   have hwb1 := uc o41 o72 0 1 out0 disp 40 o1 h1 (by omega) (by omega) (by omega)
   have hwa := je h40 (by omega) hit1 0 6 o1 disp o2 h2 (by omega) (by omega)
   have hwb2 := uc o41 o72 0 7 o2 disp 41 T e3 (by omega) (by omega) (by omega)
   refine k.eval (by simp (disch := first | exact dis | fail) only [go_sem, seval, -rO, -rN, encD, xq, wrow, brow, clist, f43, hitm, hwb1, hwa, hwb2]; exact rfl) ?_
   try simp only [xA, xX, Cut, if_true]
   apply wq [9] (by first | exact Or.inl rfl | exact Or.inr rfl)
   iterate 5 (simp (disch := first | exact dis | fail) only [go_sem, seval, -rO, -rN, wrow, brow] <;> exact rfl)
  ·obtain ⟨o3, h3⟩ : ∃ o3, o3 = o2 ++ [32, 46, 32] := ⟨_, rfl⟩
   obtain ⟨o4, h4⟩ : ∃ o4, o4 = o3 ++ txN disp n (.mk ek en et eks ep) := ⟨_, rfl⟩
   have het : endT (txN disp n) (.mk ek en et eks ep) = [32, 46, 32] ++ txN disp n (.mk ek en et eks ep) := if_neg hek
   have e3 : T = o4 ++ [41] := by rw [e, het, h4, h3, h2, h1]; simp
   have l3 := congrArg yB e3
   have l4 := congrArg yB h4
   have l5 := congrArg yB h3
   simp only [ye, yY, yX] at l3 l4 l5
   have hne := vI hek
   have hwb1 := uc o41 o72 0 1 out0 disp 40 o1 h1 (by omega) (by omega) (by omega)
   have hwa := je h40 (by omega) hit1 0 6 o1 disp o2 h2 (by omega) (by omega)
   have hws := vr o36 o72 0 7 o2 disp [32, 46, 32] o3 h3 (by simp) (by omega) (by omega)
   have hwd := GO h20 hit2 0 8 o3 disp o4 h4 (by omega) (by omega)
   simp only [xq] at hwd
   have hwb2 := uc o41 o72 0 9 o4 disp 41 T e3 (by omega) (by omega) (by omega)
   refine k.eval (by simp (disch := first | exact dis | fail) only [go_sem, seval, -rO, -rN, encD, xq, wrow, brow, clist, f43, hitm, hwb1, hwa, hne, hws, hwd, hwb2]; exact rfl) ?_
   try simp only [xA, xX, Cut, if_true]
   apply wq [11] (by first | exact Or.inl rfl | exact Or.inr rfl)
   iterate 5 (simp (disch := first | exact dis | fail) only [go_sem, seval, -rO, -rN, wrow, brow] <;> exact rfl)
 ·have hkl := uu ks
  have hkw := hg.2.2
  simp only [wtD, xL] at hkw
  obtain ⟨o1, h1⟩ : ∃ o1, o1 = out0 ++ [35, 40] := ⟨_, rfl⟩
  obtain ⟨o2, h2⟩ : ∃ o2, o2 = o1 ++ allT (txN disp n) ks := ⟨_, rfl⟩
  have e3 : T = o2 ++ [41] := by rw [hT, h2, h1]; simp [txK, qn]
  have l1 := congrArg yB h1
  have l2 := congrArg yB h2
  have l3 := congrArg yB e3
  simp only [ye, yY, yX] at l1 l2 l3
  have hws1 := vr o36 o72 0 1 out0 disp [35, 40] o1 h1 (by simp) (by omega) (by omega)
  have hwa := je h40 (by omega) (hg.kids rfl) 0 3 o1 disp o2 h2 (by omega) (by omega)
  have hwb2 := uc o41 o72 0 4 o2 disp 41 T e3 (by omega) (by omega) (by omega)
  refine k.eval (by simp (disch := first | exact dis | fail) only [go_sem, seval, -rO, -rN, encD, xq, wrow, brow, hws1, hwa, hwb2]; exact rfl) ?_
  try simp only [xA, xX, Cut, if_true]
  apply wq [6] (by first | exact Or.inl rfl | exact Or.inr rfl)
  iterate 5 (simp (disch := first | exact dis | fail) only [go_sem, seval, -rO, -rN, wrow, brow] <;> exact rfl)
 ·have hn1 : 2 ≤ n := by have := hg.2.2; simp only [wtD, xL, xU, if_true] at this; omega
  have hnm := VI (f := 42) h42 tx1 (by omega)
  simp only [Y3] at hnm
  obtain ⟨o1, h1⟩ : ∃ o1, o1 = out0 ++ [35, 117, 56, 40] := ⟨_, rfl⟩
  obtain ⟨o2, h2⟩ : ∃ o2, o2 = o1 ++ allT (txN disp n) (qD tx) := ⟨_, rfl⟩
  have e3 : T = o2 ++ [41] := by rw [hT, h2, h1, (pi (f := txN disp n) (g := xV) fun x hx => KX (by omega) hx).2]; simp [txK, xV]
  have l1 := congrArg yB h1
  have l2 := congrArg yB h2
  have l3 := congrArg yB e3
  simp only [ye, yY, yX] at l1 l2 l3
  have hws1 := vr o36 o72 0 1 out0 disp [35, 117, 56, 40] o1 h1 (by simp) (by omega) (by omega)
  have hwa := je h40 (by rw [qD, zn0]; omega) (fun d hd => Y2 hn1 tx1 hd) 0 3 o1 disp o2 h2 (by omega) (by omega)
  have hwb2 := uc o41 o72 0 4 o2 disp 41 T e3 (by omega) (by omega) (by omega)
  refine k.eval (by simp (disch := first | exact dis | fail) only [go_sem, seval, -rO, -rN, encD, xq, wrow, brow, hws1, hnm, hwa, hwb2]; exact rfl) ?_
  try simp only [xA, xX, Cut, if_true]
  apply wq [6] (by first | exact Or.inl rfl | exact Or.inr rfl)
  iterate 5 (simp (disch := first | exact dis | fail) only [go_sem, seval, -rO, -rN, wrow, brow] <;> exact rfl)
 ·have e : T = out0 ++ [35, 33, 101, 111, 102] := hT
  have hws := vr o36 o72 0 1 out0 disp [35, 33, 101, 111, 102] T e (by simp) (by omega) (by omega)
  refine k.eval (by simp (disch := first | exact dis | fail) only [go_sem, seval, -rO, -rN, encD, xq, wrow, brow, hws]; exact rfl) ?_
  try simp only [xA, xX, Cut, if_true]
  apply wq [3] (by first | exact Or.inl rfl | exact Or.inr rfl)
  iterate 5 (simp (disch := first | exact dis | fail) only [go_sem, seval, -rO, -rN, wrow, brow] <;> exact rfl)
 ·have e : T = out0 ++ [35, 33, 110, 111, 110, 101] := hT
  have hws := vr o36 o72 0 1 out0 disp [35, 33, 110, 111, 110, 101] T e (by simp) (by omega) (by omega)
  refine k.eval (by simp (disch := first | exact dis | fail) only [go_sem, seval, -rO, -rN, encD, xq, wrow, brow, hws]; exact rfl) ?_
  try simp only [xA, xX, Cut, if_true]
  apply wq [3] (by first | exact Or.inl rfl | exact Or.inr rfl)
  iterate 5 (simp (disch := first | exact dis | fail) only [go_sem, seval, -rO, -rN, wrow, brow] <;> exact rfl)
theorem vv (o36 : O 36 = none) (o72 : O 72 = none) (id : Nat) (disp : Bool) (s o1 : List Nat) (h1 : o1 = s) (hs : s ≠ []) (ho : o1.length < 1000000) (l : List (Nat × Option AObj)) (n m : Nat) (b : Bool) (hi : id < n)
  (hw : getA l id = some (.row 54 [.nilp, .nils, .bool disp] false false)) :
  (evW env O).call 36 [.ptr id 0, .str s] (KL l n m b [] none) = some (.tup [.int .i64 (.ofNat s.length), .nili], KL ((id, some (.row 54 [.ptr id 0, .sl n 0 o1.length (.opn 1), .bool disp] false false)) :: (n, some (.row 5 (xo o1) true false)) :: (id, some (.row 54 [.ptr id 0, .nils, .bool disp] false false)) :: l) (n + 1) (mark (mark m id) id) b [] none) := by
 subst h1
 exact GS o36 o72 l n m id b disp o1 hs ho hi hw
theorem V8 (o41 : O 41 = none) (o72 : O 72 = none) (id : Nat) (disp : Bool) (c : Nat) (o1 : List Nat) (h1 : o1 = [c]) (hc : c < 256) (l : List (Nat × Option AObj)) (n m : Nat) (b : Bool) (hi : id < n)
  (hw : getA l id = some (.row 54 [.nilp, .nils, .bool disp] false false)) :
  (evW env O).call 41 [.ptr id 0, .int .u8 (.ofNat c)] (KL l n m b [] none) = some (.nili, KL ((id, some (.row 54 [.ptr id 0, .sl (n + 1) 0 o1.length (.opn 1), .bool disp] false false)) :: (n + 1, some (.row 5 (xo o1) true false)) :: (n, some (.row 5 (xo [c]) false false)) :: (id, some (.row 54 [.ptr id 0, .nils, .bool disp] false false)) :: l) (n + 2) (mark (mark m id) id) b [] none) := by
 subst h1
 exact GN o41 o72 l n m id b disp c hc hi hw
theorem zwk (o38 : O 38 = none) (o72 : O 72 = none) (o74 : O 74 = none) (o96 : O 96 = none) (id : Nat) (disp : Bool) (c : Nat) (o1 : List Nat) (h1 : o1 = encC c) (hv : xB c = true) (l : List (Nat × Option AObj)) (n m : Nat) (b : Bool) (hi : id < n)
  (hw : getA l id = some (.row 54 [.nilp, .nils, .bool disp] false false)) :
  (evW env O).call 38 [.ptr id 0, .int .i32 (.ofNat c)] (KL l n m b [] none) = some (.tup [.int .i64 (.ofNat o1.length), .nili], KL ((id, some (.row 54 [.ptr id 0, .sl (n + 1) 0 o1.length (.opn 1), .bool disp] false false)) :: (n + 1, some (.row 5 (xo o1) true false)) :: (n, some (.row 5 (xo (encC c)) false false)) :: (id, some (.row 54 [.ptr id 0, .nils, .bool disp] false false)) :: l) (n + 2) (mark (mark m id) id) b [] none) := by
 subst h1
 exact zsn o38 o72 o74 o96 l n m id b disp c hv hi hw
theorem zwo (h : O 39 = some zud) (id : Nat) (disp : Bool) (t o1 : List Nat) (h1 : o1 = vl disp t) (ht : t.length < 1000000) (ho : o1.length < 1000000) (h0 : o1 ≠ []) (l : List (Nat × Option AObj)) (n m : Nat) (b : Bool) (hi : id < n)
  (hw : getA l id = some (.row 54 [.nilp, .nils, .bool disp] false false)) :
  (evW env O).call 39 [.ptr id 0, .str t] (KL l n m b [] none) = some (.tup [], KL ((n, some (.row 5 (xo o1) true false)) :: (id, some (.row 54 [.ptr id 0, .sl n 0 o1.length (.opn 1), .bool disp] false false)) :: l) (n + 1) (mark m id) b [] none) := by
 subst h1
 exact zwT (E := env) h JO t disp ⟨ht, ho, h0⟩ l n m b id [.str t] rfl hi hw
attribute [local go_sem] encD xq vE wrow brow in
theorem LJ (B : Bx P w0) (hO : OrcOk P w0 O) (o36 : O 36 = none) (o38 : O 38 = none) (o41 : O 41 = none) (o72 : O 72 = none) (o74 : O 74 = none) (o96 : O 96 = none) (o43 : O 43 = none) (h19 : O 19 = some gItm) (h37 : O 37 = some Z5) (h39 : O 39 = some zud) (h42 : O 42 = some Vp) (hn : n ≤ 100000) (h20 : O 20 = some (gWd n)) (h40 : O 40 = some (gWa n)) (d : DT) (disp : Bool) (hg : GoodD (n + 1) d) (hb : (txN disp (n + 1) d).length < 1000000) (h0 : txN disp (n + 1) d ≠ []) :
  SC P w0 20 [.ptr 0 0, encD d] (H [some (vE 54 disp)] 0 true) (.tup []) (H [some (wrow 54 0 1 (txN disp (n + 1) d).length disp), some (brow 5 (txN disp (n + 1) d))] 1 true) := by
 refine Is.scK hO B.mixed B.glob B.env 1 (show env.funs.get 20 = some f20 from rfl) (znR rfl) (zuN rfl) fun C k => ?_
 have clist := ci f43 o43
 have htx := hg.2.1
 obtain ⟨kd, nn, tx, ks, p⟩ := d
 simp only [TxD] at htx
 obtain ⟨tx1, tx2, tx3⟩ := htx
 obtain ⟨T, hT⟩ : ∃ T, T = txN disp (n + 1) (.mk kd nn tx ks p) := ⟨_, rfl⟩
 rw [← hT] at hb h0 ⊢
 have hTl : T.length < 1000000 := hb
 rw [show txN disp (n + 1) (.mk kd nn tx ks p) = txK disp (txN disp n) (.mk kd nn tx ks p) kd from rfl] at hT
 have hcs := lN hg.1
 unfold f20
 simp only [Ko, Kd, Ki, Km, Kr, opN]
 rcases hcs with rfl | ⟨rfl, hcs⟩ | ⟨rfl, hcs⟩ | ⟨rfl, c, rfl, hv⟩ | ⟨rfl, hcs⟩ | ⟨rfl, hcs⟩ | ⟨rfl, hcs⟩ | ⟨rfl, hcs⟩ | rfl | rfl | rfl
 ·have e : T = [40, 41] := hT
  have hws := vv o36 o72 0 disp [40, 41] T e (by simp) (by omega)
  refine k.eval (by simp (disch := first | exact dis | fail) only [go_sem, seval, -rO, -rN, encD, xq, vE, hws]; exact rfl) ?_
  try simp only [xA, xX, Cut, if_true]
  apply wq [2] (by first | exact Or.inl rfl | exact Or.inr rfl)
  iterate 5 (simp (disch := first | exact dis | fail) only [go_sem, seval, -rO, -rN, wrow, brow] <;> exact rfl)
 ·have hs0 : vSls (.str [102, 116]) (some (.int .i64 (.ofNat 0))) (some (.int .i64 (.ofNat 1))) = some (.str [102]) := rfl
  have hs1 : vSls (.str [102, 116]) (some (.int .i64 (.ofNat 1))) (some (.int .i64 (.ofNat 2))) = some (.str [116]) := rfl
  rcases hcs with rfl | rfl
  ·have e : T = [35, 102] := hT
   have hws := vv o36 o72 0 disp [35, 102] T e (by simp) (by omega)
   refine k.eval (by simp (disch := first | exact dis | fail) only [go_sem, seval, -rO, -rN, encD, xq, vE, hws, hs0]; exact rfl) ?_
   try simp only [xA, xX, Cut, if_true]
   apply wq [2] (by first | exact Or.inl rfl | exact Or.inr rfl)
   iterate 5 (simp (disch := first | exact dis | fail) only [go_sem, seval, -rO, -rN, wrow, brow] <;> exact rfl)
  ·have e : T = [35, 116] := hT
   have hws := vv o36 o72 0 disp [35, 116] T e (by simp) (by omega)
   refine k.eval (by simp (disch := first | exact dis | fail) only [go_sem, seval, -rO, -rN, encD, xq, vE, hws, hs1]; exact rfl) ?_
   try simp only [xA, xX, Cut, if_true]
   apply wq [2] (by first | exact Or.inl rfl | exact Or.inr rfl)
   iterate 5 (simp (disch := first | exact dis | fail) only [go_sem, seval, -rO, -rN, wrow, brow] <;> exact rfl)
 ·have e : T = tx := hT
  have hws := vv o36 o72 0 disp tx T e hcs (by omega)
  refine k.eval (by simp (disch := first | exact dis | fail) only [go_sem, seval, -rO, -rN, encD, xq, vE, hws]; exact rfl) ?_
  try simp only [xA, xX, Cut, if_true]
  apply wq [2] (by first | exact Or.inl rfl | exact Or.inr rfl)
  iterate 5 (simp (disch := first | exact dis | fail) only [go_sem, seval, -rO, -rN, wrow, brow] <;> exact rfl)
 ·cases disp with
  | true =>
   have e : T = encC c := hT
   have hm := (xH.1 hv).1
   have hwr := zwk o38 o72 o74 o96 0 true c T e hv
   refine k.eval (by simp (disch := first | exact dis | fail) only [go_sem, seval, -rO, -rN, encD, xq, vE, LN, hwr]; exact rfl) ?_
   try simp only [xA, xX, Cut, if_true]
   apply wq [3] (by first | exact Or.inl rfl | exact Or.inr rfl)
   iterate 5 (simp (disch := first | exact dis | fail) only [go_sem, seval, -rO, -rN, wrow, brow] <;> exact rfl)
  | false =>
   have e : T = 35 :: 92 :: wN c := hT
   have hnm := WF (f := 37) h37 hv
   have hnl := pN c
   have hws := vv o36 o72 0 false (35 :: 92 :: wN c) T e (by simp) (by omega)
   refine k.z ?_
   exact finK [2]
 ·have e : T = vl disp tx := hT
  have hwt := zwo h39 0 disp tx T e (by omega) (by omega) h0
  refine k.eval (by simp (disch := first | exact dis | fail) only [go_sem, seval, -rO, -rN, encD, xq, vE, hwt]; exact rfl) ?_
  try simp only [xA, xX, Cut, if_true]
  apply wq [2] (by first | exact Or.inl rfl | exact Or.inr rfl)
  iterate 5 (simp (disch := first | exact dis | fail) only [go_sem, seval, -rO, -rN, wrow, brow] <;> exact rfl)
 ·have e : T = tx := hT
  have hws := vv o36 o72 0 disp tx T e hcs (by omega)
  refine k.eval (by simp (disch := first | exact dis | fail) only [go_sem, seval, -rO, -rN, encD, xq, vE, hws]; exact rfl) ?_
  try simp only [xA, xX, Cut, if_true]
  apply wq [2] (by first | exact Or.inl rfl | exact Or.inr rfl)
  iterate 5 (simp (disch := first | exact dis | fail) only [go_sem, seval, -rO, -rN, wrow, brow] <;> exact rfl)
 ·have hit := hg.items rfl
  have hitm := J9 (f := 19) h19 (d := .mk (.ofNat 6) nn tx ks p) (by omega)
  simp only [itR] at hitm
  have e : T = ([40] ++ allT (txN disp n) (xr (.mk (.ofNat 6) nn tx ks p)).1 ++ endT (txN disp n) (xr (.mk (.ofNat 6) nn tx ks p)).2 ++ [41]) := hT
  revert e hitm hit
  generalize (xr (.mk (.ofNat 6) nn tx ks p)).1 = l
  generalize (xr (.mk (.ofNat 6) nn tx ks p)).2 = ed
  intro hit hitm e
  obtain ⟨hit1, hit2, _, hit3⟩ := hit
  have hk := hit2
  obtain ⟨ek, en, et, eks, ep⟩ := ed
  simp only [encD, xq] at hitm
  obtain ⟨o1, h1⟩ : ∃ o1, o1 = [40] := ⟨_, rfl⟩
  obtain ⟨o2, h2⟩ : ∃ o2, o2 = o1 ++ allT (txN disp n) l := ⟨_, rfl⟩
  have l1 := congrArg yB h1
  have l2 := congrArg yB h2
  simp only [ye, yY, yX] at l1 l2
  by_cases hek : ek = .ofNat 0
  ·subst hek
   have e3 : T = o2 ++ [41] := by rw [e, h2, h1]; simp [endT, xU]
   have l3 := congrArg yB e3
   simp only [ye, yY, yX] at l3
   have hwb1 := V8 o41 o72 0 disp 40 o1 h1 (by omega)
   have hwa := je h40 (by omega) hit1 0 5 o1 disp o2 h2 (by omega) (by omega)
   have hwb2 := uc o41 o72 0 6 o2 disp 41 T e3 (by omega) (by omega) (by omega)
   refine k.eval (by simp (disch := first | exact dis | fail) only [go_sem, seval, -rO, -rN, encD, xq, vE, clist, f43, hitm, hwb1, hwa, hwb2]; exact rfl) ?_
   try simp only [xA, xX, Cut, if_true]
   apply wq [8] (by first | exact Or.inl rfl | exact Or.inr rfl)
   iterate 5 (simp (disch := first | exact dis | fail) only [go_sem, seval, -rO, -rN, wrow, brow] <;> exact rfl)
  ·obtain ⟨o3, h3⟩ : ∃ o3, o3 = o2 ++ [32, 46, 32] := ⟨_, rfl⟩
   obtain ⟨o4, h4⟩ : ∃ o4, o4 = o3 ++ txN disp n (.mk ek en et eks ep) := ⟨_, rfl⟩
   have het : endT (txN disp n) (.mk ek en et eks ep) = [32, 46, 32] ++ txN disp n (.mk ek en et eks ep) := if_neg hek
   have e3 : T = o4 ++ [41] := by rw [e, het, h4, h3, h2, h1]; simp
   have l3 := congrArg yB e3
   have l4 := congrArg yB h4
   have l5 := congrArg yB h3
   simp only [ye, yY, yX] at l3 l4 l5
   have hne := vI hek
   have hwb1 := V8 o41 o72 0 disp 40 o1 h1 (by omega)
   have hwa := je h40 (by omega) hit1 0 5 o1 disp o2 h2 (by omega) (by omega)
   have hws := vr o36 o72 0 6 o2 disp [32, 46, 32] o3 h3 (by simp) (by omega) (by omega)
   have hwd := GO h20 hit2 0 7 o3 disp o4 h4 (by omega) (by omega)
   simp only [xq] at hwd
   have hwb2 := uc o41 o72 0 8 o4 disp 41 T e3 (by omega) (by omega) (by omega)
   refine k.eval (by simp (disch := first | exact dis | fail) only [go_sem, seval, -rO, -rN, encD, xq, vE, clist, f43, hitm, hwb1, hwa, hne, hws, hwd, hwb2]; exact rfl) ?_
   try simp only [xA, xX, Cut, if_true]
   apply wq [10] (by first | exact Or.inl rfl | exact Or.inr rfl)
   iterate 5 (simp (disch := first | exact dis | fail) only [go_sem, seval, -rO, -rN, wrow, brow] <;> exact rfl)
 ·have hkl := uu ks
  have hkw := hg.2.2
  simp only [wtD, xL] at hkw
  obtain ⟨o1, h1⟩ : ∃ o1, o1 = [35, 40] := ⟨_, rfl⟩
  obtain ⟨o2, h2⟩ : ∃ o2, o2 = o1 ++ allT (txN disp n) ks := ⟨_, rfl⟩
  have e3 : T = o2 ++ [41] := by rw [hT, h2, h1]; simp [txK, qn]
  have l1 := congrArg yB h1
  have l2 := congrArg yB h2
  have l3 := congrArg yB e3
  simp only [ye, yY, yX] at l1 l2 l3
  have hws1 := vv o36 o72 0 disp [35, 40] o1 h1 (by simp) (by omega)
  have hwa := je h40 (by omega) (hg.kids rfl) 0 2 o1 disp o2 h2 (by omega) (by omega)
  have hwb2 := uc o41 o72 0 3 o2 disp 41 T e3 (by omega) (by omega) (by omega)
  refine k.eval (by simp (disch := first | exact dis | fail) only [go_sem, seval, -rO, -rN, encD, xq, vE, hws1, hwa, hwb2]; exact rfl) ?_
  try simp only [xA, xX, Cut, if_true]
  apply wq [5] (by first | exact Or.inl rfl | exact Or.inr rfl)
  iterate 5 (simp (disch := first | exact dis | fail) only [go_sem, seval, -rO, -rN, wrow, brow] <;> exact rfl)
 ·have hn1 : 2 ≤ n := by have := hg.2.2; simp only [wtD, xL, xU, if_true] at this; omega
  have hnm := VI (f := 42) h42 tx1 (by omega)
  simp only [Y3] at hnm
  obtain ⟨o1, h1⟩ : ∃ o1, o1 = [35, 117, 56, 40] := ⟨_, rfl⟩
  obtain ⟨o2, h2⟩ : ∃ o2, o2 = o1 ++ allT (txN disp n) (qD tx) := ⟨_, rfl⟩
  have e3 : T = o2 ++ [41] := by rw [hT, h2, h1, (pi (f := txN disp n) (g := xV) fun x hx => KX (by omega) hx).2]; simp [txK, xV]
  have l1 := congrArg yB h1
  have l2 := congrArg yB h2
  have l3 := congrArg yB e3
  simp only [ye, yY, yX] at l1 l2 l3
  have hws1 := vv o36 o72 0 disp [35, 117, 56, 40] o1 h1 (by simp) (by omega)
  have hwa := je h40 (by rw [qD, zn0]; omega) (fun d hd => Y2 hn1 tx1 hd) 0 2 o1 disp o2 h2 (by omega) (by omega)
  have hwb2 := uc o41 o72 0 3 o2 disp 41 T e3 (by omega) (by omega) (by omega)
  refine k.eval (by simp (disch := first | exact dis | fail) only [go_sem, seval, -rO, -rN, encD, xq, vE, hws1, hnm, hwa, hwb2]; exact rfl) ?_
  try simp only [xA, xX, Cut, if_true]
  apply wq [5] (by first | exact Or.inl rfl | exact Or.inr rfl)
  iterate 5 (simp (disch := first | exact dis | fail) only [go_sem, seval, -rO, -rN, wrow, brow] <;> exact rfl)
 ·have e : T = [35, 33, 101, 111, 102] := hT
  have hws := vv o36 o72 0 disp [35, 33, 101, 111, 102] T e (by simp) (by omega)
  refine k.eval (by simp (disch := first | exact dis | fail) only [go_sem, seval, -rO, -rN, encD, xq, vE, hws]; exact rfl) ?_
  try simp only [xA, xX, Cut, if_true]
  apply wq [2] (by first | exact Or.inl rfl | exact Or.inr rfl)
  iterate 5 (simp (disch := first | exact dis | fail) only [go_sem, seval, -rO, -rN, wrow, brow] <;> exact rfl)
 ·have e : T = [35, 33, 110, 111, 110, 101] := hT
  have hws := vv o36 o72 0 disp [35, 33, 110, 111, 110, 101] T e (by simp) (by omega)
  refine k.eval (by simp (disch := first | exact dis | fail) only [go_sem, seval, -rO, -rN, encD, xq, vE, hws]; exact rfl) ?_
  try simp only [xA, xX, Cut, if_true]
  apply wq [2] (by first | exact Or.inl rfl | exact Or.inr rfl)
  iterate 5 (simp (disch := first | exact dis | fail) only [go_sem, seval, -rO, -rN, wrow, brow] <;> exact rfl)
def xY (c : Nat) : Bool := 97 ≤ c && c ≤ 122 || 65 ≤ c && c ≤ 90 || 48 ≤ c && c ≤ 57 || [33, 36, 37, 38, 42, 47, 58, 60, 61, 62, 63, 94, 95, 126, 43, 45, 46, 64].contains c
def vD (c : Nat) : Bool := c == 32 || 9 ≤ c && c ≤ 13 && c != 11
def u3 (c : Nat) : Bool := vD c || [40, 41, 34, 59, 39].contains c
noncomputable def jn (p : Nat → Bool) : List AV → St → Option (AV × St) := orc0 (fun c : Nat => [.int .u8 (.ofNat c)]) (fun c => c < 256) (fun c => .bool (p c))
theorem zub (p : Nat → Bool) {c : Nat} (h : c < 256) (s : St) : jn p [.int .u8 (.ofNat c)] s = some (.bool (p c), s) :=
 we (fun x y hxy => by cases hxy; rfl) s c h rfl
theorem kA {O : Orc} {f : Nat} {p : Nat → Bool} (h : O f = some (jn p)) {c : Nat} (hc : c < 256) (s : St) : (evW env O).call f [.int .u8 (.ofNat c)] s = some (.bool (p c), s) := by
 rw [xC h, zub _ hc]
theorem pk (B : Bx P w0) (hO : OrcOk P w0 O) {f : Nat} {p : Nat → Bool} (h : (znX 256).all (fun c => okV (.bool (p c)) ((evT env noO 1000).call f [.int .u8 (.ofNat c)] s0)) = true) : OrcOk P w0 (withG f (jn p) O) :=
 hO.withG w9 (v5 false (fun _ => rfl) (fun _ => rfl) fun c hc => WZ (qu P w0) B.mixed B.glob B.env (List.all_eq_true.1 h c (List.mem_range.2 hc)))
theorem zwN : (znX 256).all (fun c => okV (.bool (vD c)) ((evT env noO 1000).call 60 [.int .u8 (.ofNat c)] s0)) = true := by decide +kernel
theorem zon : (znX 256).all (fun c => okV (.bool (xY c)) ((evT env noO 1000).call 67 [.int .u8 (.ofNat c)] s0)) = true := by decide +kernel
theorem zw5 : (znX 256).all (fun c => okV (.bool (u3 c)) ((evT env noO 1000).call 71 [.int .u8 (.ofNat c)] s0)) = true := by decide +kernel
theorem uf {p c : Nat} {r : List Nat} (h : b.drop p = c :: r) : p < b.length ∧ b.drop (p + 1) = r := by
 have h1 : p < b.length := by
  apply Nat.lt_of_not_le; intro hle; rw [znQ hle] at h; cases h
 refine ⟨h1, ?_⟩
 rw [← z4, h]; rfl
theorem zvb {p c : Nat} {r : List Nat} (h : b.drop p = c :: r) : b.length = p + 1 + r.length := by
 have := congrArg yB h; simp at this; have := (uf h).1; omega
theorem vd {p : Nat} (h : b.drop p = []) (hp : p ≤ b.length) : p = b.length := by
 have := congrArg yB h; simp at this; omega
theorem ZJ (p : Nat → Bool) : ∀ l : List Nat, l.take (l.takeWhile p).length = l.takeWhile p
 | [] => rfl
 | x :: l => by
  rw [znW]
  cases p x with
  | true => simp [ZJ p l]
  | false => simp
theorem Qk (p : Nat → Bool) (l : List Nat) : (l.takeWhile p).length ≤ l.length := by
 have := congrArg yB (ZJ p l); simp at this; omega
theorem Byt.tw {l : List Nat} (h : Byt l) (p : Nat → Bool) : Byt (l.takeWhile p) := by rw [← ZJ]; exact h.take _
def rdr (b : List Nat) (p : Nat) : AObj := .row 70 [.lst b.length false (xo b), .int .i64 (.ofNat p)] false false
def rowR (b : List Nat) (p : Nat) : List AV := [.lst b.length false (xo b), .int .i64 (.ofNat p)]
theorem jC (b : List Nat) (p : Nat) : xz (rowR b p) = true := by simp only [rowR, xw, wi, wc, xD, y6]
def PreR (x : List Nat × Nat) : Prop := Byt x.1 ∧ x.1.length < 1000000 ∧ x.2 ≤ x.1.length
def encM (x : (List Nat × Nat) × List Nat) : Nat × List AV × List AV := (70, rowR x.1.1 x.1.2, [.str x.2])
theorem zvg : ∀ x y, encM x = encM y → x = y := fun ⟨⟨b, p⟩, s⟩ ⟨⟨c, q⟩, t⟩ h => by
 simp only [encM, rowR, zA, yZ, AV.lst.injEq, AV.int.injEq, AV.str.injEq, true_and, and_true] at h
 obtain ⟨⟨⟨_, h1⟩, h2⟩, h3⟩ := h
 rw [uo h1]; cases h2; cases h3; rfl
def Q5 (x : List Nat × Nat) : Nat × List AV × List AV := (70, rowR x.1 x.2, [])
theorem Q6 : ∀ x y, Q5 x = Q5 y → x = y := fun ⟨b, p⟩ ⟨c, q⟩ h => by
 simp only [Q5, rowR, zA, yZ, AV.lst.injEq, AV.int.injEq, true_and, and_true] at h
 obtain ⟨⟨_, h1⟩, h2⟩ := h
 rw [uo h1]; cases h2; rfl
noncomputable def gM (Pre : List Nat × Nat → Prop) (f : List Nat → Nat → AV × Nat) : List AV → St → Option (AV × St) := orc1 Q5 Pre fun x => ((f x.1 x.2).1, rowR x.1 (f x.1 x.2).2)
theorem vB {F : Nat} {Pre : List Nat × Nat → Prop} {f : List Nat → Nat → AV × Nat} (h : O F = some (gM Pre f)) {p : Nat} (hp : Pre (b, p)) (e : Bool) (l : List (Nat × Option AObj)) (n m : Nat) (md : Bool) (id : Nat) (hg : getA l id = some (.row 70 [.lst b.length e (xo b), .int .i64 (.ofNat p)] false false)) :
  (evW env O).call F [.ptr id 0] (KL l n m md [] none) = some ((f b p).1, KL ((id, some (.row 70 [.lst b.length false (xo b), .int .i64 (.ofNat (f b p).2)] false false)) :: l) n (mark m id) md [] none) := by
 rw [xC h, gM, jB, w8, hg, kH Q6 _ _ (b, p) hp (by simp only [Q5, rowR, wkL, wkV, vW])]
 rfl
theorem uM (hO : OrcOk P w0 O) {F : Nat} {Pre : List Nat × Nat → Prop} {f : List Nat → Nat → AV × Nat} (hp : ∀ b p, Pre (b, p) → xG (f b p).1 = true)
  (h : ∀ b p, Pre (b, p) → SC P w0 F [.ptr 0 0] (H [some (rdr b p)] 0 true) (f b p).1 (H [some (rdr b (f b p).2)] 1 true)) : OrcOk P w0 (withG F (gM Pre f) O) :=
 hO.withG kI (Ye true (fun x hx => ⟨jC _ _, rfl, hp x.1 x.2 hx, jC _ _⟩) fun x hx => h x.1 x.2 hx)
noncomputable def gMs (Pre : (List Nat × Nat) × List Nat → Prop) (f : List Nat → Nat → List Nat → Bool) : List AV → St → Option (AV × St) := orc1 encM Pre fun x => (.bool (f x.1.1 x.1.2 x.2), rowR x.1.1 x.1.2)
theorem hJ {F : Nat} {Pre : (List Nat × Nat) × List Nat → Prop} {f : List Nat → Nat → List Nat → Bool} (h : O F = some (gMs Pre f)) {p : Nat} {s : List Nat} (hp : Pre ((b, p), s)) (e : Bool) (l : List (Nat × Option AObj)) (n m : Nat) (md : Bool) (id : Nat) (hg : getA l id = some (.row 70 [.lst b.length e (xo b), .int .i64 (.ofNat p)] false false)) :
  (evW env O).call F [.ptr id 0, .str s] (KL l n m md [] none) = some (.bool (f b p s), KL ((id, some (.row 70 [.lst b.length false (xo b), .int .i64 (.ofNat p)] false false)) :: l) n (mark m id) md [] none) := by
 rw [xC h, gMs, jB, w8, hg, kH zvg _ _ ((b, p), s) hp (by simp only [encM, rowR, wkL, wkV, vW])]
 rfl
theorem zyK (hO : OrcOk P w0 O) {F : Nat} {Pre : (List Nat × Nat) × List Nat → Prop} {f : List Nat → Nat → List Nat → Bool}
  (h : ∀ b p s, Pre ((b, p), s) → SC P w0 F [.ptr 0 0, .str s] (H [some (rdr b p)] 0 true) (.bool (f b p s)) (H [some (rdr b p)] 1 true)) : OrcOk P w0 (withG F (gMs Pre f) O) :=
 hO.withG kI (Ye true (fun x hx => ⟨jC _ _, by simp only [encM, xw, qc, xD, y6], rfl, jC _ _⟩) fun x hx => h x.1.1 x.1.2 x.2 hx)
def flt (x : Nat × Nat) : AV := .agg [.int .i64 (.ofNat x.1), .int .i64 (.ofNat x.2)]
theorem uL (x : Nat × Nat) : xG (flt x) = true := by simp only [flt, vU, xw, wc, xD, y6]
def bgR (b : List Nat) (p : Nat) (s : List Nat) : Bool := decide ((b.drop p).take s.length = s)
def Xz (x : (List Nat × Nat) × List Nat) : Prop := PreR x.1 ∧ x.2.length ≤ 2 ∧ Byt x.2
attribute [local go_sem] rdr bgR in
theorem zzx (B : Bx P w0) (hO : OrcOk P w0 O) (b : List Nat) (p : Nat) (s : List Nat) (hp : Xz ((b, p), s)) :
  SC P w0 62 [.ptr 0 0, .str s] (H [some (rdr b p)] 0 true) (.bool (bgR b p s)) (H [some (rdr b p)] 1 true) := by
 obtain ⟨⟨hb, hl, hpl⟩, hs, hsb⟩ := hp
 simp only at hb hl hpl hs hsb
 refine bm B hO f62 fun C k => ?_
 unfold f62
 simp only [Kd, Ke, KF, Km, Kr, opN]
 refine k.q ?_
 by_cases h : p + s.length ≤ b.length
 ·have e1 : p + s.length - p = s.length := by omega
  have e2 := (hb.drop p).take s.length
  have e3 : ((b.drop p).take s.length).length = s.length := by rw [znZ, znK]; omega
  refine k.q ?_
  refine k.z ?_
  exact fin
 ·have e4 : bgR b p s = false := by
   unfold bgR
   apply decide_eq_false
   intro he
   have := congrArg yB he
   rw [znZ, znK] at this; omega
  refine k.q ?_
  refine k.z ?_
  rw [e4]
  exact fin
noncomputable def gBg : List AV → St → Option (AV × St) := gMs Xz bgR
theorem zwz (B : Bx P w0) (hO : OrcOk P w0 O) : OrcOk P w0 (withG 62 gBg O) :=
 zyK hO fun b p s h => zzx B (qu P w0) b p s h
def ww (b : List Nat) (p : Nat) : Nat := (b.drop p).headD 0
def runF (b : List Nat) (p : Nat) : AV × Nat := (.str ((b.drop p).takeWhile xY), p + ((b.drop p).takeWhile xY).length)
attribute [local go_sem] rdr f33 in
theorem zoh (B : Bx P w0) (hO : OrcOk P w0 O) (h58 : O 33 = none) (hs0 : O 67 = some (jn xY))
  (b : List Nat) (at_ : Nat) (hp : PreR (b, at_)) :
  SC P w0 69 [.ptr 0 0] (H [some (rdr b at_)] 0 true) (runF b at_).1 (H [some (rdr b (runF b at_).2)] 1 true) := by
 obtain ⟨hb, hl, ha⟩ := hp
 simp only at hb hl ha
 simp only [runF]
 refine bm B hO f69 fun C k => ?_
 have cend := ci f33 h58
 have hsym := fun {c} hc s => @kA O _ _ hs0 c hc s
 have hW := Qk xY (b.drop at_)
 rw [znK] at hW
 unfold f69
 simp only [Ko, Kn, Kd, Ke, Ki, KF, Km, Kr, opN]
 refine k.q ?_
 refine k.q ?_
 refine ul ⟨tmL [(3, .int .i64 (.ofNat at_)), (0, .ptr 0 0)], []⟩ (H [some (rdr b (at_ + ((b.drop at_).takeWhile xY).length))] 1 true) (xS (x6 (k.gcL [] [3, 0] true (fr1 := ⟨tmL [(3, .int .i64 (.ofNat at_)), (0, .ptr 0 0)], []⟩) (s1 := H [some (rdr b at_)] 1 true) (by simp (disch := first | exact dis | fail) only [go_sem, seval, -rO, -rN, rdr]) ?_))) ?_
 ·refine wb (fun p => b.length - p) (fun _ => ⟨tmL [(3, .int .i64 (.ofNat at_)), (0, .ptr 0 0)], []⟩) (fun p => H [some (rdr b p)] 1 true) (fun p => at_ ≤ p ∧ p ≤ b.length ∧ p + ((b.drop p).takeWhile xY).length = at_ + ((b.drop at_).takeWhile xY).length) (fun p hp => ?_) at_ ⟨zq _, ha, rfl⟩
  obtain ⟨h1, h2, h3⟩ := hp
  cases hd : b.drop p with
  | nil =>
   have h4 : ¬ p < b.length := by have := vd hd h2; omega
   rw [hd] at h3
   refine k.z ?_
   refine k.gcs (keep := []) (live := [3, 0]) (md := true) ?_
   simp (disch := first | exact dis | fail) only [go_sem, seval, -rO, -rN, rdr, ← h3]
   try simp
  | cons c r =>
   obtain ⟨h4, h5⟩ := uf hd
   have hc : c < 256 := hb c (znS (by rw [hd]; simp))
   have hsc := fun s => hsym hc s
   cases hs : xY c with
   | false =>
    rw [hd, znW, hs] at h3
    refine k.z ?_
    refine k.gcs (keep := []) (live := [3, 0]) (md := true) ?_
    simp (disch := first | exact dis | fail) only [go_sem, seval, -rO, -rN, rdr, ← h3]
    try simp
   | true =>
    rw [hd, znW, hs] at h3
    refine k.z ?_
    refine ⟨p + 1, ⟨by omega, by omega, ?_⟩, by omega, ?_⟩
    ·rw [h5]; simp at h3; omega
    ·exact k.g [] [3, 0]
 ·have e1 : (b.drop at_).take ((b.drop at_).takeWhile xY).length = (b.drop at_).takeWhile xY := ZJ _ _
  have e2 := (hb.drop at_).tw xY
  refine k.q ?_
  refine k.z ?_
  exact fin
noncomputable def gRun : List AV → St → Option (AV × St) := gM PreR runF
theorem zxA (B : Bx P w0) (hO : OrcOk P w0 O) (h58 : O 33 = none) (hs0 : O 67 = some (jn xY)) : OrcOk P w0 (withG 69 gRun O) :=
 uM hO (fun b p _ => rfl) fun b p hx => zoh B hO h58 hs0 b p hx
def YV (l : List Nat) : AV := match decR l with
 | some q => .tup [.int .i64 (.ofNat q.1), .int .i64 (.ofNat q.2), .int .i64 (.ofNat 0)]
 | none => .tup [.int .i64 (.ofNat 0), .int .i64 (.ofNat 0), .int .i64 (.ofNat 4)]
theorem HJ (l : List Nat) : xG (YV l) = true := by
 unfold YV; split <;> simp only [wE, xw, wc, xD, y6]
theorem qX {l : List Nat} (hl : l ≠ []) {q : Nat × Nat} (h : decR l = some q) : 1 ≤ q.2 ∧ q.2 ≤ l.length ∧ xB q.1 = true := by
 unfold decR at h
 split at h
 ·cases h
 ·cases h; exact ux hl
noncomputable def Vo : List AV → St → Option (AV × St) := orc0 Zb zpy (fun x => YV (x.1.drop x.2))
theorem zyL (h : O 106 = some Vo) {i : Nat} (h1 : Byt b) (h2 : i < b.length) (h3 : b.length < 1000000) (e : Bool) (s : St) : (evW env O).call 106 [.lst b.length e (xo b), .int .i64 (.ofNat i)] s = some (YV (b.drop i), s) := by
 rw [xC h, Vo, we zz4 s (b, i) ⟨h1, h2, h3⟩ (by simp only [Zb, wkL, wkV, vW])]
attribute [local go_sem] Zb f101 YV in
theorem zrE (B : Bx P w0) (hO : OrcOk P w0 O) (o101 : O 101 = none) (h100 : O 100 = some gDr) (b : List Nat) (i : Nat) (hb : Byt b) (hi : i < b.length) (hlb : b.length < 1000000) :
  SC P w0 106 (Zb (b, i)) (H [] 0 true) (YV (b.drop i)) (H [] 0 true) := by
 refine bs B hO f106 fun C k => ?_
 have cw := ci f101 o101
 have hne : b.drop i ≠ [] := fun e => by have := congrArg yB e; rw [znK] at this; simp at this; omega
 have hdr := fun e s => Pg (O := O) h100 (l := b.drop i) hne (hb.drop i) (by rw [znK]; omega) (n := b.length - i) (by rw [znK]) e s
 have hsz := ux hne
 rw [znK] at hsz
 have hc1 := (xH.1 hsz.2.2).1
 simp only [vX] at hdr
 unfold f106
 simp only [Ko, Kg, Ki, KT, Km, Kr, opN]
 cases hR : decR (b.drop i) with
 | none =>
  have hw : (decL (b.drop i)).1 = 65533 ∧ (decL (b.drop i)).2 ≤ 1 := by
   unfold decR at hR; split at hR
   ·assumption
   ·cases hR
  obtain ⟨w1, w2⟩ := hw
  rw [w1] at hdr
  refine k.q ?_
  refine k.q ?_
  refine k.q ?_
  refine k.z ?_
  exact fin
 | some q =>
  obtain ⟨c, z⟩ := q
  have hw : decL (b.drop i) = (c, z) ∧ ¬ (c = 65533 ∧ z ≤ 1) := by
   unfold decR at hR; split at hR
   ·cases hR
   ·rename_i h
    have := Option.some.inj hR
    rw [this] at h; exact ⟨this, h⟩
  obtain ⟨w1, w2⟩ := hw
  rw [w1] at hdr hsz hc1
  simp only at hdr hsz hc1
  by_cases h3 : c = 65533
  ·subst h3
   have h4 : ¬ z ≤ 1 := fun h => w2 ⟨rfl, h⟩
   refine k.q ?_
   refine k.q ?_
   refine k.q ?_
   refine k.z ?_
   exact fin
  ·refine k.q ?_
   refine k.q ?_
   refine k.q ?_
   refine k.z ?_
   exact fin
theorem HK (B : Bx P w0) (hO : OrcOk P w0 O) (o101 : O 101 = none) (h100 : O 100 = some gDr) : OrcOk P w0 (withG 106 Vo O) :=
 hO.withG w9 (v5 true Hm (fun x => HJ _) fun x hx => ⟨_, zrE B hO o101 h100 x.1 x.2 hx.1 hx.2.1 hx.2.2⟩)
def l6 (b : List Nat) (p : Nat) : AV × Nat := match decR (b.drop p) with
 | some q => (.tup [.int .i32 (.ofNat q.1), flt (0, 0)], p + q.2)
 | none => (.tup [.int .i32 (.ofNat 0), flt (4, p)], p)
def PreC (x : List Nat × Nat) : Prop := Byt x.1 ∧ x.1.length < 1000000 ∧ x.2 < x.1.length
theorem G6 (b : List Nat) (p : Nat) : xG (l6 b p).1 = true := by
 unfold l6; split <;> simp only [wE, xw, wc, xD, y6, uL]
attribute [local go_sem] rdr f70 l6 flt f35 in
theorem zsE (B : Bx P w0) (hO : OrcOk P w0 O) (o1 : O 70 = none) (o2 : O 35 = none) (h1 : O 106 = some Vo) (b : List Nat) (p : Nat) (hp : PreC (b, p)) :
  SC P w0 87 [.ptr 0 0] (H [some (rdr b p)] 0 true) (l6 b p).1 (H [some (rdr b (l6 b p).2)] 1 true) := by
 obtain ⟨hb, hl, hi⟩ := hp
 simp only at hb hl hi
 refine bm B hO f87 fun C k => ?_
 have cf := ci f70 o1
 have cn := ci f35 o2
 have hg := fun e s => zyL (O := O) h1 hb hi hl e s
 have hne : b.drop p ≠ [] := fun e => by have := congrArg yB e; rw [znK] at this; simp at this; omega
 unfold f87
 simp only [Ko, Kn, Kd, Ki, Kv, Km, Kr, Kc, opN]
 cases hR : decR (b.drop p) with
 | none =>
  simp only [YV, hR] at hg
  refine k.q ?_
  refine k.q ?_
  refine k.z ?_
  exact fin
 | some q =>
  obtain ⟨c, z⟩ := q
  obtain ⟨f1, f2, f3⟩ := qX hne hR
  rw [znK] at f2
  simp only at f1 f2 f3
  have hc1 := (xH.1 f3).1
  simp only [YV, hR] at hg
  refine k.q ?_
  refine k.q ?_
  refine k.q ?_
  refine k.q ?_
  refine k.z ?_
  exact fin
noncomputable def l9 : List AV → St → Option (AV × St) := gM PreC l6
theorem G7 (B : Bx P w0) (hO : OrcOk P w0 O) (o1 : O 70 = none) (o2 : O 35 = none) (h1 : O 106 = some Vo) : OrcOk P w0 (withG 87 l9 O) :=
 uM hO (fun b p _ => G6 b p) fun b p hx => zsE B hO o1 o2 h1 b p hx
def frow : AObj := .row 34 [.int .i64 (.ofNat 0), .int .i64 (.ofNat 0)] false false
theorem kV {p : Nat} (h : decR (b.drop p) = none) : l6 b p = (.tup [.int .i32 (.ofNat 0), flt (4, p)], p) := by unfold l6; rw [h]
theorem kW {p : Nat} {q : Nat × Nat} (h : decR (b.drop p) = some q) : l6 b p = (.tup [.int .i32 (.ofNat q.1), flt (0, 0)], p + q.2) := by unfold l6; rw [h]
def uD (b : List Nat) : Nat → Nat → Option Nat × Nat
 | 0, p => (none, p)
 | k + 1, p => match b.drop p with
  | [] => (none, p)
  | c :: _ => if c = 10 then (none, p) else match decR (b.drop p) with
   | none => (some p, p)
   | some q => uD b k (p + q.2)
def Y0 (b : List Nat) (p : Nat) : AV × Nat := (match (uD b (b.length + 1) p).1 with
 | none => flt (0, 0)
 | some q => flt (4, q), (uD b (b.length + 1) p).2)
theorem HV (b : List Nat) (p : Nat) : xG (Y0 b p).1 = true := by
 unfold Y0; split <;> exact uL _
attribute [local go_sem] rdr frow f33 flt f35 Y0 in
theorem zrT (B : Bx P w0) (hO : OrcOk P w0 O) (o1 : O 33 = none) (o2 : O 35 = none) (h1 : O 87 = some l9) (b : List Nat) (p0 : Nat) (hp : PreR (b, p0)) :
  SC P w0 61 [.ptr 0 0] (H [some (rdr b p0)] 0 true) (Y0 b p0).1 (H [some (rdr b (Y0 b p0).2)] 1 true) := by
 obtain ⟨hb, hl, hi⟩ := hp
 simp only at hb hl hi
 refine bm B hO f61 fun C k => ?_
 have cend := ci f33 o1
 have cn := ci f35 o2
 unfold f61
 simp only [Ko, Kn, Kd, Ke, Ki, Kj, Kv, KF, Km, Kr, opN]
 refine k.q ?_
 refine vQ (fun q => uD b (b.length + 1) p0 = (none, q)) (fun _ => ⟨tmL [(2, .ptr 1 0), (0, .ptr 0 0)], []⟩) (fun q => H [some (rdr b q), some frow] 1 true) (xS (x6 (k.gcL [1] [2, 0] true (fr1 := ⟨tmL [(2, .ptr 1 0), (0, .ptr 0 0)], []⟩) (s1 := H [some (rdr b p0), some frow] 1 true) (by simp (disch := first | exact dis | fail) only [go_sem, seval, -rO, -rN, rdr, frow]) ?_))) ?_
 ·refine wb (fun x : Nat × Nat => x.1) (fun _ => ⟨tmL [(2, .ptr 1 0), (0, .ptr 0 0)], []⟩) (fun x => H [some (rdr b x.2), some frow] 1 true) (fun x => uD b x.1 x.2 = uD b (b.length + 1) p0 ∧ b.length < x.1 + x.2 ∧ x.2 ≤ b.length) (fun x hx => ?_) (b.length + 1, p0) ⟨rfl, by simp only; omega, hi⟩
  obtain ⟨kk, p⟩ := x
  obtain ⟨g1, g2, g3⟩ := hx
  simp only at g1 g2 g3 ⊢
  cases kk with
  | zero => omega
  | succ kk =>
  rw [uD] at g1
  cases hd : b.drop p with
  | nil =>
   have h4 : ¬ p < b.length := by have := vd hd g3; omega
   rw [hd] at g1
   refine k.z ?_
   simp only [Gcx]
   refine ⟨p, g1.symm, ?_⟩
   exact k.g [1] [2, 0]
  | cons c r =>
   obtain ⟨h4, h5⟩ := uf hd
   have hc : c < 256 := hb c (znS (by rw [hd]; simp))
   have hch := fun (l : List (Nat × Option AObj)) n m md => vB h1 (b := b) (p := p) (show PreC (b, p) from ⟨hb, hl, h4⟩) false l n m md 0
   simp only [hd] at g1
   by_cases h10 : c = 10
   ·subst h10
    rw [if_pos rfl] at g1
    refine k.z ?_
    simp only [Gcx]
    refine ⟨p, g1.symm, ?_⟩
    exact k.g [1] [2, 0]
   ·rw [if_neg h10] at g1
    cases hR : decR (c :: r) with
    | none =>
     rw [hR] at g1
     have hcF := kV (b := b) (p := p) (by rw [hd]; exact hR)
     simp only [hcF] at hch
     refine k.z ?_
     apply w7 (Or.inr rfl)
     iterate 5 (simp (disch := first | exact dis | fail) only [go_sem, seval, -rO, -rN, rdr, Y0, ← g1, flt] <;> exact rfl)
    | some q =>
     obtain ⟨f1, f2, f3⟩ := qX (by simp) hR
     have := zvb hd
     simp only [yY] at f2
     rw [hR] at g1
     have hcF := kW (b := b) (p := p) (by rw [hd]; exact hR)
     simp only [hcF] at hch
     refine k.eval (by simp (disch := first | exact dis | fail) only [go_sem, seval, -rO, -rN, rdr, frow, cend, f33, h4, hd, h10, hch, flt]; exact rfl) ?_
     try simp only [xA]
     refine ⟨(kk, p + q.2), ⟨g1, by simp only; omega, by simp only; omega⟩, yw _, ?_⟩
     exact k.g [1] [2, 0]
 ·intro q hq
  refine k.q ?_
  refine k.z ?_
  exact fin
noncomputable def Pp : List AV → St → Option (AV × St) := gM PreR Y0
theorem HW (B : Bx P w0) (hO : OrcOk P w0 O) (o1 : O 33 = none) (o2 : O 35 = none) (h1 : O 87 = some l9) : OrcOk P w0 (withG 61 Pp O) :=
 uM hO (fun b p _ => HV b p) fun b p hx => zrT B hO o1 o2 h1 b p hx
def uE (b : List Nat) (first : Nat) : Nat → Nat → Nat → (Nat × Nat) × Nat
 | 0, p, _ => ((4, first), p)
 | k + 1, p, d => if b.drop p = [] then ((4, first), p) else if bgR b p [35, 124] = true then (if d = 200 then ((5, p), p) else uE b first k (p + 2) (d + 1))
  else if bgR b p [124, 35] = true then (if d = 1 then ((0, 0), p + 2) else uE b first k (p + 2) (d - 1))
  else match decR (b.drop p) with
   | none => ((4, p), p)
   | some q => uE b first k (p + q.2) d
def Y1 (b : List Nat) (p : Nat) : AV × Nat := (flt (uE b p (b.length + 1) p 0).1, (uE b p (b.length + 1) p 0).2)
def PreN (x : List Nat × Nat) : Prop := PreR x ∧ bgR x.1 x.2 [35, 124] = true
theorem gQ {p x y : Nat} (h : bgR b p [x, y] = true) : p + 2 ≤ b.length := by
 have := of_decide_eq_true h
 have := congrArg yB this
 simp at this; omega
attribute [local go_sem] rdr frow f33 f35 flt f70 Y1 in
theorem zy2 (B : Bx P w0) (hO : OrcOk P w0 O) (o1 : O 33 = none) (o2 : O 35 = none) (o3 : O 70 = none) (h1 : O 87 = some l9) (h2 : O 62 = some gBg) (b : List Nat) (p0 : Nat) (hp : PreN (b, p0)) :
  SC P w0 63 [.ptr 0 0] (H [some (rdr b p0)] 0 true) (Y1 b p0).1 (H [some (rdr b (Y1 b p0).2)] 1 true) := by
 obtain ⟨⟨hb, hl, hi⟩, hbg0⟩ := hp
 simp only at hb hl hi hbg0
 refine bm B hO f63 fun C k => ?_
 have cend := ci f33 o1
 have cn := ci f35 o2
 have cf := ci f70 o3
 unfold f63
 simp only [Ko, Kn, Ki, Kv, Km, Kr, opN]
 refine k.q ?_
 refine k.q ?_
 refine vQ (fun q => uE b p0 (b.length + 1) p0 0 = ((4, p0), q)) (fun _ => ⟨tmL [(3, .int .i64 (.ofNat p0)), (2, .ptr 1 0), (0, .ptr 0 0)], []⟩) (fun q => H [some (rdr b q), some frow] 1 true) (xS (x6 (k.gcL [1] [4, 3, 2, 0] true (fr1 := ⟨tmL [(4, .int .i64 (.ofNat 0)), (3, .int .i64 (.ofNat p0)), (2, .ptr 1 0), (0, .ptr 0 0)], []⟩) (s1 := H [some (rdr b p0), some frow] 1 true) (by simp (disch := first | exact dis | fail) only [go_sem, seval, -rO, -rN, rdr, frow]) ?_))) ?_
 ·refine wb (fun x : Nat × Nat × Nat => x.1) (fun x => ⟨tmL [(4, .int .i64 (.ofNat x.2.2)), (3, .int .i64 (.ofNat p0)), (2, .ptr 1 0), (0, .ptr 0 0)], []⟩) (fun x => H [some (rdr b x.2.1), some frow] 1 true) (fun x => uE b p0 x.1 x.2.1 x.2.2 = uE b p0 (b.length + 1) p0 0 ∧ b.length < x.1 + x.2.1 ∧ x.2.1 ≤ b.length ∧ (x.2.2 = 0 → bgR b x.2.1 [35, 124] = true) ∧ x.2.2 ≤ 200) (fun x hx => ?_) (b.length + 1, p0, 0) ⟨rfl, by simp only; omega, hi, fun _ => hbg0, zN _⟩
  obtain ⟨kk, p, d⟩ := x
  obtain ⟨g1, g2, g3, g4, g5⟩ := hx
  simp only at g1 g2 g3 g4 g5 ⊢
  cases kk with
  | zero => omega
  | succ kk =>
  rw [uE] at g1
  by_cases h4 : p < b.length
  ·have hne : b.drop p ≠ [] := fun e => by have := congrArg yB e; rw [znK] at this; simp at this; omega
   rw [if_neg hne] at g1
   have hc1 := fun (l : List (Nat × Option AObj)) n m md => hJ h2 (b := b) (p := p) (s := [35, 124]) (show Xz ((b, p), [35, 124]) from ⟨⟨hb, hl, g3⟩, by simp, fun x hx => by simp at hx; omega⟩) false l n m md 0
   have hc2 := fun (l : List (Nat × Option AObj)) n m md => hJ h2 (b := b) (p := p) (s := [124, 35]) (show Xz ((b, p), [124, 35]) from ⟨⟨hb, hl, g3⟩, by simp, fun x hx => by simp at hx; omega⟩) false l n m md 0
   have hch := fun (l : List (Nat × Option AObj)) n m md => vB h1 (b := b) (p := p) (show PreC (b, p) from ⟨hb, hl, h4⟩) false l n m md 0
   cases hA : bgR b p [35, 124] with
   | true =>
    have hA2 := gQ hA
    rw [if_pos hA] at g1
    rw [hA] at hc1
    by_cases h200 : d = 200
    ·subst h200
     rw [if_pos rfl] at g1
     refine k.z ?_
     apply w7 (Or.inr rfl)
     iterate 5 (simp (disch := first | exact dis | fail) only [go_sem, seval, -rO, -rN, rdr, Y1, ← g1, flt] <;> exact rfl)
    ·rw [if_neg h200] at g1
     refine k.z ?_
     refine ⟨(kk, p + 2, d + 1), ⟨g1, by simp only; omega, by simp only; omega, fun e => by simp only at e; omega, by simp only; omega⟩, yw _, ?_⟩
     exact k.g [1] [4, 3, 2, 0]
   | false =>
    rw [if_neg (by rw [hA]; simp)] at g1
    rw [hA] at hc1
    have hd0 : d ≠ 0 := fun e => by have := g4 e; rw [hA] at this; cases this
    obtain ⟨d, rfl⟩ : ∃ d', d = d' + 1 := ⟨d - 1, by omega⟩
    cases hA' : bgR b p [124, 35] with
    | true =>
     have hA2 := gQ hA'
     rw [if_pos hA'] at g1
     rw [hA'] at hc2
     cases d with
     | zero =>
      rw [if_pos rfl] at g1
      refine k.z ?_
      apply w7 (Or.inr rfl)
      iterate 5 (simp (disch := first | exact dis | fail) only [go_sem, seval, -rO, -rN, rdr, Y1, ← g1, flt] <;> exact rfl)
     | succ d =>
      rw [if_neg (by omega)] at g1
      have e1 : d + 1 + 1 - 1 = d + 1 := by omega
      rw [e1] at g1
      refine k.z ?_
      refine ⟨(kk, p + 2, d + 1), ⟨g1, by simp only; omega, by simp only; omega, fun e => by simp only at e; omega, by simp only; omega⟩, yw _, ?_⟩
      exact k.g [1] [4, 3, 2, 0]
    | false =>
     rw [if_neg (by rw [hA']; simp)] at g1
     rw [hA'] at hc2
     cases hR : decR (b.drop p) with
     | none =>
      rw [hR] at g1
      simp only [kV hR] at hch
      refine k.z ?_
      apply w7 (Or.inr rfl)
      iterate 5 (simp (disch := first | exact dis | fail) only [go_sem, seval, -rO, -rN, rdr, Y1, ← g1, flt] <;> exact rfl)
     | some q =>
      obtain ⟨f1, f2, f3⟩ := qX hne hR
      rw [znK] at f2
      rw [hR] at g1
      simp only [kW hR] at hch
      refine k.z ?_
      refine ⟨(kk, p + q.2, d + 1), ⟨g1, by simp only; omega, by simp only; omega, fun e => by simp only at e; omega, g5⟩, yw _, ?_⟩
      exact k.g [1] [4, 3, 2, 0]
  ·have hnil : b.drop p = [] := znQ (by omega)
   rw [if_pos hnil] at g1
   refine k.z ?_
   simp only [Gcx]
   refine ⟨p, g1.symm, ?_⟩
   exact k.g [1] [3, 2, 0]
 ·intro q hq
  refine k.q ?_
  refine k.z ?_
  exact fin
noncomputable def Pr : List AV → St → Option (AV × St) := gM PreN Y1
theorem UR (B : Bx P w0) (hO : OrcOk P w0 O) (o1 : O 33 = none) (o2 : O 35 = none) (o3 : O 70 = none) (h1 : O 87 = some l9) (h2 : O 62 = some gBg) : OrcOk P w0 (withG 63 Pr O) :=
 uM hO (fun b p _ => uL _) fun b p hx => zy2 B hO o1 o2 o3 h1 h2 b p hx
def idxN : List Nat → Nat → Nat → Option Nat
 | [], _, _ => none
 | x :: r, c, i => if x = c then some i else idxN r c (i + 1)
theorem Py : ∀ {s : List Nat} {c i k : Nat}, idxN s c i = some k → i ≤ k ∧ k < i + s.length
 | [], _, _, _, h => by cases h
 | x :: r, c, i, k, h => by
  rw [idxN] at h
  simp only [yY]
  split at h
  ·cases h; omega
  ·have := Py h; omega
def gi : List Nat := [48, 49, 50, 51, 52, 53, 54, 55, 56, 57, 97, 98, 99, 100, 101, 102]
def VM : List Nat := [40, 41, 39]
def ixB (s : List Nat) (c : Nat) : Int := match idxN s c 0 with
 | some k => .ofNat k
 | none => .negSucc 0
def Pj (x : List Nat × Nat) : List AV := [.str x.1, .int .u8 (.ofNat x.2)]
theorem zya : ∀ x y, Pj x = Pj y → x = y := fun ⟨a, b⟩ ⟨c, d⟩ h => by
 simp only [Pj, yZ, AV.str.injEq, AV.int.injEq, true_and, and_true] at h
 obtain ⟨h1, h2⟩ := h; cases h1; cases h2; rfl
def zoS (x : List Nat × Nat) : Prop := (x.1 = gi ∨ x.1 = VM) ∧ x.2 < 256
noncomputable def gIxB : List AV → St → Option (AV × St) := orc0 Pj zoS (fun x => .int .i64 (ixB x.1 x.2))
theorem Kb {O : Orc} (h : O 64 = some gIxB) {s : List Nat} {c : Nat} (hs : s = gi ∨ s = VM) (hc : c < 256) (st : St) : (evW env O).call 64 [.str s, .int .u8 (.ofNat c)] st = some (.int .i64 (ixB s c), st) := by
 rw [xC h, gIxB, we zya st (s, c) ⟨hs, hc⟩ rfl]
theorem zp1 : (znX 256).all (fun c => okV (.int .i64 (ixB gi c)) ((evT env noO 1000).call 64 [.str gi, .int .u8 (.ofNat c)] s0)) = true := by decide +kernel
theorem zp3 : (znX 256).all (fun c => okV (.int .i64 (ixB VM c)) ((evT env noO 1000).call 64 [.str VM, .int .u8 (.ofNat c)] s0)) = true := by decide +kernel
theorem zuu (B : Bx P w0) (hO : OrcOk P w0 O) : OrcOk P w0 (withG 64 gIxB O) :=
 hO.withG w9 (v5 false (fun _ => rfl) (fun _ => rfl) fun x hx => by
  obtain ⟨s, c⟩ := x
  obtain ⟨hs, hc⟩ := hx
  rcases hs with e | e
  ·simp only at e; subst e; exact WZ (qu P w0) B.mixed B.glob B.env (List.all_eq_true.1 zp1 c (List.mem_range.2 hc))
  ·simp only at e; subst e; exact WZ (qu P w0) B.mixed B.glob B.env (List.all_eq_true.1 zp3 c (List.mem_range.2 hc)))
theorem or32 {a : Nat} (h : a < 256) : binI .or .u8 (.ofNat a) .u8 (.ofNat 32) = some (.int .u8 (.ofNat (a ||| 32))) := by
 have : ∀ a, a < 256 → bits .or .u8 (.ofNat a) (.ofNat 32) = some (.ofNat (a ||| 32)) := by decide +kernel
 show (match bits .or .u8 (.ofNat a) (.ofNat 32) with | some n => some (AV.int .u8 n) | none => none) = _
 rw [this a h]
theorem zqa {a : Nat} (h : a < 256) : a ||| 32 < 256 := Nat.or_lt_two_pow (n := 8) h (by decide)
theorem zp8 (a b : Nat) : vMn false [.int .i64 (.ofNat a), .int .i64 (.ofNat b)] = some (.int .i64 (.ofNat (min a b))) := by
 show (bif ltI (.ofNat b) (.ofNat a) then some (AV.int .i64 (.ofNat b)) else some (AV.int .i64 (.ofNat a))) = _
 have hlt : ltI (.ofNat b) (.ofNat a) = decide (b < a) := by
  show Nat.blt b a = _
  cases h : Nat.blt b a with
  | true => exact (decide_eq_true (xR.1 h)).symm
  | false => exact (decide_eq_false fun h' => by rw [xR.2 h'] at h; cases h).symm
 rw [hlt]
 by_cases h : b < a
 ·rw [decide_eq_true h, cond_true, Nat.min_eq_right (by omega)]
 ·rw [decide_eq_false h, cond_false, Nat.min_eq_left (by omega)]
def hexL : Nat → List Nat → Option Nat
 | n, [] => some n
 | n, c :: r => match idxN gi (c ||| 32) 0 with
  | none => none
  | some k => if c < 48 then none else hexL (min (16 * n + k) 16777216) r
def hexR (s : List Nat) : AV := match hexL 0 s with
 | none => .tup [.int .i32 (.ofNat 0), .bool false]
 | some n => .tup [.int .i32 (.ofNat n), .bool (decide (s ≠ []) && xB n)]
theorem zyN (s : List Nat) : xG (hexR s) = true := by
 unfold hexR; split <;> simp only [wE, xw, wc, vP, xD, y6]
theorem UF : ∀ {s : List Nat} {n m : Nat}, n ≤ 16777216 → hexL n s = some m → m ≤ 16777216
 | [], n, m, h, e => by cases e; exact h
 | c :: r, n, m, h, e => by
  rw [hexL] at e
  split at e
  ·cases e
  ·split at e
   ·cases e
   ·exact UF (Nat.min_le_right _ _) e
attribute [local go_sem] Ul zp8 hexR ne_eq not_true_eq_false decide_false Bool.false_and not_false_eq_true decide_true Bool.true_and in
theorem zpZ (B : Bx P w0) (hO : OrcOk P w0 O) (h1 : O 64 = some gIxB) (h2 : O 51 = some gIs) (s : List Nat) (hb : Byt s) (hl : s.length < 1000000) :
  SC P w0 108 [.str s] (H [] 0 true) (hexR s) (H [] 0 true) := by
 refine bs B hO f108 fun C k => ?_
 have hix := fun {c} hc st => @Kb O h1 [48, 49, 50, 51, 52, 53, 54, 55, 56, 57, 97, 98, 99, 100, 101, 102] c (.inl rfl) hc st
 have his := fun c st => @Pz O _ h2 c st
 unfold f108
 simp only [Ko, Kg, Ki, Kj, KF, KT, Km, Kr, Kc, opN]
 refine k.q ?_
 refine k.q ?_
 refine vQ (fun n => hexL 0 s = some n) (fun n => ⟨tmL [(4, .int .i64 (.ofNat n)), (0, .str s)], []⟩) (fun _ => H [] 0 true) ?_ ?_
 ·refine k.q ?_
  refine xS (x6 (k.gcL [] [11, 10, 9, 4, 0] true (fr1 := ⟨tmL [(11, .int .i64 (.ofNat 0)), (10, .int .i64 (.ofNat s.length)), (9, .lst s.length false (xo s)), (4, .int .i64 (.ofNat 0)), (0, .str s)], []⟩) (s1 := H [] 0 true) (by simp (disch := first | exact dis | fail) only [go_sem, seval, -rO, -rN]) ?_))
  refine wb (fun x : Nat × Nat => s.length - x.1) (fun x => ⟨tmL [(11, .int .i64 (.ofNat x.1)), (10, .int .i64 (.ofNat s.length)), (9, .lst s.length false (xo s)), (4, .int .i64 (.ofNat x.2)), (0, .str s)], []⟩) (fun _ => H [] 0 true) (fun x => hexL x.2 (s.drop x.1) = hexL 0 s ∧ x.1 ≤ s.length ∧ x.2 ≤ 16777216) (fun x hx => ?_) (0, 0) ⟨rfl, zN _, zN _⟩
  obtain ⟨i, n⟩ := x
  obtain ⟨g1, g2, g3⟩ := hx
  simp only at g1 g2 g3 ⊢
  cases hd : s.drop i with
  | nil =>
   have h4 : ¬ i < s.length := by have := vd hd g2; omega
   rw [hd, hexL] at g1
   refine k.z ?_
   simp only [Gcx]
   refine ⟨n, g1.symm, ?_⟩
   exact k.g [] [4, 0]
  | cons c r =>
   obtain ⟨h4, h5⟩ := uf hd
   have hc : c < 256 := hb c (znS (by rw [hd]; simp))
   have ho := zqa hc
   have hix := fun st => hix ho st
   have hor := or32 hc
   rw [hd, hexL] at g1
   cases hI : idxN gi (c ||| 32) 0 with
   | none =>
    rw [hI] at g1
    have e1 : ixB [48, 49, 50, 51, 52, 53, 54, 55, 56, 57, 97, 98, 99, 100, 101, 102] (c ||| 32) = .negSucc 0 := by
     show (match idxN gi (c ||| 32) 0 with | some k => Int.ofNat k | none => .negSucc 0) = _
     rw [hI]
    simp only [e1] at hix
    refine k.z ?_
    apply w7 (Or.inr rfl)
    iterate 5 (simp (disch := first | exact dis | fail) only [go_sem, seval, -rO, -rN, hexR, ← g1] <;> exact rfl)
   | some kk =>
    have hk := Py hI
    simp only [gi, yY, yX] at hk
    rw [hI] at g1
    simp only at g1
    have e1 : ixB [48, 49, 50, 51, 52, 53, 54, 55, 56, 57, 97, 98, 99, 100, 101, 102] (c ||| 32) = .ofNat kk := by
     show (match idxN gi (c ||| 32) 0 with | some k => Int.ofNat k | none => .negSucc 0) = _
     rw [hI]
    simp only [e1] at hix
    by_cases h48 : c < 48
    ·rw [if_pos h48] at g1
     refine k.z ?_
     apply w7 (Or.inr rfl)
     iterate 5 (simp (disch := first | exact dis | fail) only [go_sem, seval, -rO, -rN, hexR, ← g1] <;> exact rfl)
    ·rw [if_neg h48] at g1
     refine k.z ?_
     refine ⟨(i + 1, min (16 * n + kk) 16777216), ⟨by rw [← g1]; simp only [h5], by simp only; omega, Nat.min_le_right _ _⟩, by simp only; omega, ?_⟩
     exact k.g [] [11, 10, 9, 4, 0]
 ·intro n hn
  have hn2 := UF (zN _) hn
  cases s with
  | nil =>
   refine k.z ?_
   exact fin
  | cons c r =>
   have hisn := fun st => his (.ofNat n) st
   simp only [isCh] at hisn
   refine k.z ?_
   exact fin
def XZ (s : List Nat) : List AV := [.str s]
theorem Q3 : ∀ x y, XZ x = XZ y → x = y := fun x y h => by
 simp only [XZ, yZ, AV.str.injEq, and_true] at h; exact h
noncomputable def YU : List AV → St → Option (AV × St) := orc0 XZ PreB hexR
theorem Vr (h : O 108 = some YU) {s : List Nat} (h1 : Byt s) (h2 : s.length < 1000000) (st : St) : (evW env O).call 108 [.str s] st = some (hexR s, st) := by
 rw [xC h, YU, we Q3 st s ⟨h1, h2⟩ rfl]
theorem HN (B : Bx P w0) (hO : OrcOk P w0 O) (h1 : O 64 = some gIxB) (h2 : O 51 = some gIs) : OrcOk P w0 (withG 108 YU O) :=
 hO.withG w9 (v5 true (fun s => by simp only [XZ, xw, qc, xD, y6]) zyN fun s hs => ⟨_, zpZ B hO h1 h2 s hs.1 hs.2⟩)
def encP (x : List Nat × Nat) : Nat × List AV × List AV := (70, rowR x.1 x.2, [.int .i64 (.ofNat 0)])
theorem zvh : ∀ x y, encP x = encP y → x = y := fun ⟨b, p⟩ ⟨c, q⟩ h => Q6 _ _ (by
 simp only [encP, zA, true_and, and_true] at h
 simp only [Q5, h])
noncomputable def gPk : List AV → St → Option (AV × St) := orc1 encP PreR fun x => (.int .u8 (.ofNat (ww x.1 x.2)), rowR x.1 x.2)
theorem UX (h : O 91 = some gPk) {p : Nat} (hp : PreR (b, p)) (e : Bool) (l : List (Nat × Option AObj)) (n m : Nat) (md : Bool) (id : Nat) (hg : getA l id = some (.row 70 [.lst b.length e (xo b), .int .i64 (.ofNat p)] false false)) :
  (evW env O).call 91 [.ptr id 0, .int .i64 (.ofNat 0)] (KL l n m md [] none) = some (.int .u8 (.ofNat (ww b p)), KL ((id, some (.row 70 [.lst b.length false (xo b), .int .i64 (.ofNat p)] false false)) :: l) n (mark m id) md [] none) := by
 rw [xC h, gPk, jB, w8, hg, kH zvh _ _ (b, p) hp (by simp only [encP, rowR, wkL, wkV, vW])]
 rfl
attribute [local go_sem] rdr in
theorem zqd (B : Bx P w0) (hO : OrcOk P w0 O) (b : List Nat) (p : Nat) (hp : PreR (b, p)) :
  SC P w0 91 [.ptr 0 0, .int .i64 (.ofNat 0)] (H [some (rdr b p)] 0 true) (.int .u8 (.ofNat (ww b p))) (H [some (rdr b p)] 1 true) := by
 obtain ⟨hb, hl, hpl⟩ := hp
 simp only at hb hl hpl
 refine bm B hO f91 fun C k => ?_
 unfold f91
 simp only [Kd, Kj, Km, Kr, opN]
 cases hd : b.drop p with
 | nil =>
  have h4 : ¬ p < b.length := by have := vd hd hpl; omega
  have hh : ww b p = 0 := by unfold ww; rw [hd]; rfl
  rw [hh]
  refine k.q ?_
  refine k.z ?_
  exact fin
 | cons c r =>
  obtain ⟨h4, h5⟩ := uf hd
  have hh : ww b p = c := by unfold ww; rw [hd]; rfl
  rw [hh]
  refine k.q ?_
  refine k.q ?_
  refine k.z ?_
  exact fin
theorem H8 (B : Bx P w0) (hO : OrcOk P w0 O) : OrcOk P w0 (withG 91 gPk O) :=
 hO.withG kI (Ye true (fun x hx => ⟨jC _ _, rfl, rfl, jC _ _⟩) fun x hx => zqd B (qu P w0) x.1 x.2 hx)
def twS (b : List Nat) (p : Nat) : List Nat := (b.drop p).takeWhile xY
def escR (b : List Nat) (p : Nat) : Option Nat × Nat :=
 if ww b p = 34 ∨ ww b p = 92 then (some (ww b p), p + 1) else if ww b p = 110 then (some 10, p + 1) else if ww b p = 116 then (some 9, p + 1)
 else if ww b p = 120 then match hexL 0 (twS b (p + 1)) with
  | some n => if twS b (p + 1) ≠ [] ∧ xB n = true ∧ ww b (p + 1 + (twS b (p + 1)).length) = 59 then (some n, p + 1 + (twS b (p + 1)).length + 1) else (none, p + 1 + (twS b (p + 1)).length)
  | none => (none, p + 1 + (twS b (p + 1)).length)
 else (none, p + 1)
def escF (b : List Nat) (p : Nat) : AV × Nat := (match (escR b p).1 with
 | some c => .tup [.int .i32 (.ofNat c), flt (0, 0)]
 | none => .tup [.int .i32 (.ofNat 0), flt (4, p - 1)], (escR b p).2)
theorem zyp (b : List Nat) (p : Nat) : xG (escF b p).1 = true := by
 unfold escF; split <;> simp only [wE, xw, wc, xD, y6, uL]
def PreE (x : List Nat × Nat) : Prop := Byt x.1 ∧ x.1.length < 1000000 ∧ x.2 < x.1.length ∧ 1 ≤ x.2
theorem zrJ : xY 59 = false := rfl
attribute [local go_sem] rdr f35 escF flt frow f33 f70 in
theorem zyq (B : Bx P w0) (hO : OrcOk P w0 O) (o1 : O 33 = none) (o2 : O 35 = none) (o3 : O 70 = none) (h1 : O 91 = some gPk) (h2 : O 67 = some (jn xY)) (h3 : O 108 = some YU) (b : List Nat) (p : Nat) (hp : PreE (b, p)) :
  SC P w0 89 [.ptr 0 0] (H [some (rdr b p)] 0 true) (escF b p).1 (H [some (rdr b (escF b p).2)] 1 true) := by
 obtain ⟨hb, hl, hi, hp1⟩ := hp
 simp only at hb hl hi hp1
 refine bm B hO f89 fun C k => ?_
 have cend := ci f33 o1
 have cn := ci f35 o2
 have cf := ci f70 o3
 have hsym := fun {c} hc s => @kA O _ _ h2 c hc s
 have hpk := fun (l : List (Nat × Option AObj)) n m md => UX h1 (b := b) (p := p) ⟨hb, hl, Nat.le_of_lt hi⟩ false l n m md 0
 have hhd : ww b p < 256 := by
  cases hd : b.drop p with
  | nil => have := vd hd (Nat.le_of_lt hi); omega
  | cons c r =>
   have hh : ww b p = c := by unfold ww; rw [hd]; rfl
   rw [hh]; exact hb c (znS (by rw [hd]; simp))
 unfold f89
 simp only [Ko, Kg, Kn, Kd, Ke, Ki, Kj, Kv, KF, Km, Kr, Kc, opN]
 refine k.q ?_
 refine k.q ?_
 refine k.q ?_
 refine k.q ?_
 by_cases c34 : ww b p = 34
 ·have hE : escR b p = (some 34, p + 1) := by unfold escR; rw [if_pos (.inl c34), c34]
  refine k.q ?_
  exact fin
 by_cases c92 : ww b p = 92
 ·have hE : escR b p = (some 92, p + 1) := by unfold escR; rw [if_pos (.inr c92), c92]
  refine k.q ?_
  exact fin
 have cx : ¬ (ww b p = 34 ∨ ww b p = 92) := fun h => h.elim c34 c92
 by_cases c110 : ww b p = 110
 ·have hE : escR b p = (some 10, p + 1) := by unfold escR; rw [if_neg cx, if_pos c110]
  refine k.q ?_
  exact fin
 by_cases c116 : ww b p = 116
 ·have hE : escR b p = (some 9, p + 1) := by unfold escR; rw [if_neg cx, if_neg c110, if_pos c116]
  refine k.q ?_
  exact fin
 by_cases c120 : ww b p = 120
 ·have hE : escR b p = match hexL 0 (twS b (p + 1)) with
   | some n => if twS b (p + 1) ≠ [] ∧ xB n = true ∧ ww b (p + 1 + (twS b (p + 1)).length) = 59 then (some n, p + 1 + (twS b (p + 1)).length + 1) else (none, p + 1 + (twS b (p + 1)).length)
   | none => (none, p + 1 + (twS b (p + 1)).length) := by unfold escR; rw [if_neg cx, if_neg c110, if_neg c116, if_pos c120]
  rw [c120]
  have e1 : (b.drop (p + 1)).take (twS b (p + 1)).length = twS b (p + 1) := ZJ _ _
  have e2 : Byt (twS b (p + 1)) := (hb.drop _).tw xY
  have e3 : (twS b (p + 1)).length ≤ b.length - (p + 1) := by have := Qk xY (b.drop (p + 1)); rw [znK] at this; exact this
  have hhx := fun st => Vr (O := O) h3 e2 (by omega) st
  have hpk2 := fun (l : List (Nat × Option AObj)) n m md => UX h1 (b := b) (p := p + 1 + (twS b (p + 1)).length) ⟨hb, hl, by simp only; omega⟩ false l n m md 0
  revert hE hhx hpk2
  generalize hw : twS b (p + 1) = w at *
  intro hE hhx hpk2
  refine wu ?_
  refine k.q ?_
  refine xS ?_
  refine k.q ?_
  refine ZN (b := false) (by simp (disch := first | exact dis | fail) only [go_sem, seval, -rO, -rN]) ?_
  simp only [cond_false]
  refine k.q ?_
  refine ZN (b := false) (by simp (disch := first | exact dis | fail) only [go_sem, seval, -rO, -rN]) ?_
  simp only [cond_false]
  refine k.q ?_
  refine ZN (b := false) (by simp (disch := first | exact dis | fail) only [go_sem, seval, -rO, -rN]) ?_
  simp only [cond_false]
  refine k.q ?_
  refine ZN (b := true) (by simp (disch := first | exact dis | fail) only [go_sem, seval, -rO, -rN]) ?_
  simp only [cond_true]
  refine k.q ?_
  refine ul ⟨tmL [(6, .int .i64 (.ofNat (p + 1))), (4, .int .i64 (.ofNat (p - 1))), (3, .ptr 1 0), (0, .ptr 0 0)], []⟩ (H [some (rdr b (p + 1 + w.length)), some frow] 1 true) (xS (x6 (k.gcL [1] [6, 4, 3, 0] true (fr1 := ⟨tmL [(6, .int .i64 (.ofNat (p + 1))), (4, .int .i64 (.ofNat (p - 1))), (3, .ptr 1 0), (0, .ptr 0 0)], []⟩) (s1 := H [some (rdr b (p + 1)), some frow] 1 true) (by simp (disch := first | exact dis | fail) only [go_sem, seval, -rO, -rN, rdr, frow]) ?_))) ?_
  ·refine wb (fun q => b.length - q) (fun _ => ⟨tmL [(6, .int .i64 (.ofNat (p + 1))), (4, .int .i64 (.ofNat (p - 1))), (3, .ptr 1 0), (0, .ptr 0 0)], []⟩) (fun q => H [some (rdr b q), some frow] 1 true) (fun q => p + 1 ≤ q ∧ q ≤ b.length ∧ q + (twS b q).length = p + 1 + w.length) (fun q hq => ?_) (p + 1) ⟨zq _, by omega, by rw [hw]⟩
   obtain ⟨g1, g2, g3⟩ := hq
   cases hd : b.drop q with
   | nil =>
    have h4 : ¬ q < b.length := by have := vd hd g2; omega
    unfold twS at g3
    rw [hd, List.takeWhile_nil, yX, Nat.add_zero] at g3
    refine k.z ?_
    refine k.gcs (keep := [1]) (live := [6, 4, 3, 0]) (md := true) ?_
    simp (disch := first | exact dis | fail) only [go_sem, seval, -rO, -rN, rdr, frow, ← g3]
   | cons c r =>
    obtain ⟨h4, h5⟩ := uf hd
    have hc : c < 256 := hb c (znS (by rw [hd]; simp))
    have hsc := fun s => hsym hc s
    cases hs : xY c with
    | false =>
     unfold twS at g3
     rw [hd, znW, hs] at g3
     have g3' : q = p + 1 + w.length := by simpa using g3
     by_cases h59 : c = 59
     ·subst h59
      refine k.eval (by simp (disch := first | exact dis | fail) only [go_sem, seval, -rO, -rN, rdr, frow, cend, f33, h4, hd]; exact rfl) ?_
      try simp only [xA, xX, Cut]
      refine k.gcs (keep := [1]) (live := [6, 4, 3, 0]) (md := true) ?_
      simp (disch := first | exact dis | fail) only [go_sem, seval, -rO, -rN, rdr, frow, ← g3']
     ·
      refine k.eval (by simp (disch := first | exact dis | fail) only [go_sem, seval, -rO, -rN, rdr, frow, cend, f33, h4, hd, h59, hsc, hs]; exact rfl) ?_
      try simp only [xA, xX, Cut]
      refine k.gcs (keep := [1]) (live := [6, 4, 3, 0]) (md := true) ?_
      simp (disch := first | exact dis | fail) only [go_sem, seval, -rO, -rN, rdr, frow, ← g3']
    | true =>
     have h59 : ¬ c = 59 := fun e => by rw [e, zrJ] at hs; cases hs
     unfold twS at g3
     rw [hd, znW, hs] at g3
     refine k.z ?_
     refine ⟨q + 1, ⟨by omega, by omega, ?_⟩, by omega, ?_⟩
     ·unfold twS; rw [h5]; simp at g3; omega
     ·exact k.g [1] [6, 4, 3, 0]
  ·cases hx : hexL 0 w with
   | none =>
    rw [hx] at hE
    simp only [hexR, hx] at hhx
    refine k.q ?_
    refine k.z ?_
    refine k.z ?_
    exact fin
   | some n =>
    rw [hx] at hE
    simp only [hexR, hx] at hhx
    by_cases hok : w ≠ [] ∧ xB n = true
    ·have hb2 : (decide (w ≠ []) && xB n) = true := by rw [decide_eq_true hok.1, hok.2]; rfl
     simp only [hb2] at hhx
     by_cases h59 : ww b (p + 1 + w.length) = 59
     ·simp only at hE
      rw [if_pos ⟨hok.1, hok.2, h59⟩] at hE
      rw [h59] at hpk2
      refine k.q ?_
      refine k.z ?_
      exact fin
     ·simp only at hE
      rw [if_neg (fun h => h59 h.2.2)] at hE
      refine k.q ?_
      refine k.z ?_
      refine k.z ?_
      exact fin
    ·have hb2 : (decide (w ≠ []) && xB n) = false := by
      cases hv : xB n with
      | false => simp
      | true => rw [decide_eq_false (fun h => hok ⟨h, hv⟩)]; rfl
     simp only [hb2] at hhx
     simp only at hE
     rw [if_neg (fun h => hok ⟨h.1, h.2.1⟩)] at hE
     refine k.q ?_
     refine k.z ?_
     refine k.z ?_
     exact fin
 ·have hE : escR b p = (none, p + 1) := by unfold escR; rw [if_neg cx, if_neg c110, if_neg c116, if_neg c120]
  refine k.q ?_
  refine k.z ?_
  exact fin
noncomputable def gEsc : List AV → St → Option (AV × St) := gM PreE escF
theorem Uv (B : Bx P w0) (hO : OrcOk P w0 O) (o1 : O 33 = none) (o2 : O 35 = none) (o3 : O 70 = none) (h1 : O 91 = some gPk) (h2 : O 67 = some (jn xY)) (h3 : O 108 = some YU) : OrcOk P w0 (withG 89 gEsc O) :=
 uM hO (fun b p _ => zyp b p) fun b p hx => zyq B hO o1 o2 o3 h1 h2 h3 b p hx
theorem GM (j n : Nat) (h : n ≠ 0) : vUsd (.sl j 0 n (.opn 1)) = some (.ptr j 0) := by
 cases n with
 | zero => exact absurd rfl h
 | succ n => rfl
theorem Qm {l : List Nat} (hb : Byt l) : qk (some (xo l)) = some l := by rw [QD]; exact u4 hb
theorem K0 {l : List (Nat × Option AObj)} {n m j k0 : Nat} {ks : List Nat} {b fz : Bool} {out : List Nat} {ik : IntKind} (hg : getA l j = some (.row 5 (xo out) true fz)) (hk : memN j ks = true) (h0 : out ≠ []) (hb : Byt out) (hl : out.length < 1000000000) :
  oUst (KL l n m b [] (some (k0, ks))) 5 (.ptr j 0) (.int ik (.ofNat out.length)) = some (.str out, KL ((j, some (.row 5 (xo out) true true)) :: l) n (mark m j) b [] (some (k0, ks))) := by
 obtain ⟨q, hq⟩ : ∃ q, out.length = q + 1 := by
  cases out with
  | nil => exact absurd rfl h0
  | cons a r => exact ⟨r.length, rfl⟩
 have hc : cut (xo out) 0 (Nat.succ q) = some (xo out) := by
  have := ZY out; rw [Nat.mul_eq, Nat.mul_one, hq] at this; exact this
 have hget : (KL l n m b [] (some (k0, ks))).get j = some (.row 5 (xo out) true fz) := by
  rw [LS, hk, hg]
  show (bif Nat.ble k0 j then _ else _) = _
  cases Nat.ble k0 j <;> rfl
 rw [hq]
 simp only [oUst, hget, xF.2 (rfl : (5 : Nat) = 5), xR.2 (show q < 9223372036854775807 by omega), y6, cond_true, hc, Qm hb]
 rfl
theorem zu3 {l : List (Nat × Option AObj)} {m : Nat} {b : Bool} {on : Option (Nat × List Nat)} {ik : IntKind} : oUst (KL l n m b [] on) 5 .nilp (.int ik (.ofNat 0)) = some (.str [], KL l n m b [] on) := rfl
theorem zwc : vUsd .nils = some .nilp := rfl
theorem zoz {l : List (Nat × Option AObj)} {n m id : Nat} {b fz : Bool} {c0 c1 : AV} (hg : getA l id = some (.row 52 [c0, c1] false fz)) : vCpu (KL l n m b [] none) [(51, 2), (52, 2), (53, 3), (54, 3)] (.ptr id 0) = some (.ptr id 0) := by
 simp only [vCpu, w8, hg, x7]; rfl
theorem GR {O : Orc} (o38 : O 38 = none) (o72 : O 72 = none) (o74 : O 74 = none) (o96 : O 96 = none) (l : List (Nat × Option AObj)) (n m id j : Nat) (b : Bool) (out : List Nat) (c : Nat) (hv : xB c = true) (ho : out.length < 1000000) (ne : id ≠ j) (hi : id < n) (hj : j < n)
  (hw : getA l id = some (.row 52 [.ptr id 0, .sl j 0 out.length (.opn 1)] false false)) (hb : getA l j = some (.row 5 (xo out) true false)) :
  (evW env O).call 38 [.ptr id 0, .int .i32 (.ofNat c)] (KL l n m b [] none) = some (.tup [.int .i64 (.ofNat ((out ++ encC c).length - out.length)), .nili], KL ((id, some (.row 52 [.ptr id 0, .sl (n + 1) 0 (out ++ encC c).length (.opn 1)] false false)) :: (n + 1, some (.row 5 (xo (out ++ encC c)) true false)) :: (j, none) :: (n, some (.row 5 (xo (encC c)) false false)) :: l) (n + 2) (mark (mark m j) id) b [] none) := by
 have c38 := ciw f38 o38
 have c72 := ci f72 o72
 have ne' : ¬ j = id := fun e => ne e.symm
 have n1 : ¬ id = n := by omega
 have n2 : ¬ j = n := by omega
 have n3 : ¬ id = n + 1 := by omega
 have hl4 := (wS c).2
 have ar := LY o74 o96 l n m j out c hv ho hj hb
 have hle : out.length ≤ (out ++ encC c).length := by rw [ye]; omega
 have hlt : (out ++ encC c).length < 2000000 := by rw [ye]; omega
 revert ar hle hlt
 generalize out ++ encC c = o2
 intro ar hle hlt
 simp (disch := first | exact dis | fail) only [go_sem, seval, -rO, -rN, c38, f38, c72, f72, hw, ne, n1, n3, X8, X9, ar, zn1, decide_true]
theorem Ua {O : Orc} (o38 : O 38 = none) (o72 : O 72 = none) (o74 : O 74 = none) (o96 : O 96 = none) (l : List (Nat × Option AObj)) (n m id : Nat) (b : Bool) (c : Nat) (hv : xB c = true) (hi : id < n)
  (hw : getA l id = some (.row 52 [.nilp, .nils] false false)) :
  (evW env O).call 38 [.ptr id 0, .int .i32 (.ofNat c)] (KL l n m b [] none) = some (.tup [.int .i64 (.ofNat (encC c).length), .nili], KL ((id, some (.row 52 [.ptr id 0, .sl (n + 1) 0 (encC c).length (.opn 1)] false false)) :: (n + 1, some (.row 5 (xo (encC c)) true false)) :: (n, some (.row 5 (xo (encC c)) false false)) :: (id, some (.row 52 [.ptr id 0, .nils] false false)) :: l) (n + 2) (mark (mark m id) id) b [] none) := by
 have c38 := ciw f38 o38
 have c72 := ci f72 o72
 have n1 : ¬ id = n := by omega
 have n3 : ¬ id = n + 1 := by omega
 have hm : ¬ (1 <<< id) % 2 ^ n = 0 := by
  rw [Nat.shiftLeft_eq, Nat.one_mul, Nat.mod_eq_of_lt (znT (by omega) hi)]
  exact Nat.ne_of_gt (Nat.two_pow_pos id)
 have q1 := fun m b => @U9 l n m id _ b _ _ _ _ hw
 have q2 := fun m b => @zoz l n m id b _ _ _ hw
 have hl4 := (wS c).2
 have ar := Jl o74 o96 ((id, some (.row 52 [.ptr id 0, .nils] false false)) :: l) n (m ||| 1 <<< id) c hv
 revert ar hl4
 generalize encC c = o2
 intro hl4 ar
 simp (disch := first | exact dis | fail) only [go_sem, seval, -rO, -rN, c38, f38, c72, f72, hw, n1, n3, Us, decide_true, q1, q2, ar, Nat.zero_or, hm]
def qo (b : List Nat) (first : Nat) : Nat → Nat → List Nat → (List Nat ⊕ (Nat × Nat)) × Nat
 | 0, p, _ => (.inr (4, first), p)
 | k + 1, p, out => if b.drop p = [] then (.inr (4, first), p) else match decR (b.drop p) with
  | none => (.inr (4, p), p)
  | some q => if q.1 = 34 then (.inl out, p + q.2) else if q.1 = 92 then (if p + q.2 = b.length then (.inr (4, first), p + q.2) else match (escR b (p + q.2)).1 with
    | some c => qo b first k (escR b (p + q.2)).2 (out ++ encC c)
    | none => (.inr (4, p + q.2 - 1), (escR b (p + q.2)).2))
   else qo b first k (p + q.2) (out ++ encC q.1)
def strR : List Nat ⊕ (Nat × Nat) → AV
 | .inl s => .tup [.str s, flt (0, 0)]
 | .inr f => .tup [.str [], flt f]
theorem zxP (x : List Nat ⊕ (Nat × Nat)) : xG (strR x) = true := by
 cases x <;> simp only [strR, wE, xw, qc, xD, y6, uL]
def kP (b : List Nat) (p : Nat) : AV × Nat := (strR (qo b p (b.length + 1) (p + 1) []).1, (qo b p (b.length + 1) (p + 1) []).2)
theorem zul (hb : Byt b) (p : Nat) : ww b p < 256 := by
 unfold ww
 cases hd : b.drop p with
 | nil => show 0 < 256; omega
 | cons c r => exact hb c (znS (by rw [hd]; simp))
theorem Wb {p : Nat} (hb : Byt b) (hp : p < b.length) : p + 1 ≤ (escR b p).2 ∧ (escR b p).2 ≤ b.length ∧ ∀ c, (escR b p).1 = some c → xB c = true := by
 have e3 : (twS b (p + 1)).length ≤ b.length - (p + 1) := by have := Qk xY (b.drop (p + 1)); rw [znK] at this; exact this
 have hh := zul hb p
 unfold escR
 split
 ·exact ⟨zq _, hp, fun c hc => by cases hc; exact xH.2 (by omega)⟩
 split
 ·exact ⟨zq _, hp, fun c hc => by cases hc; rfl⟩
 split
 ·exact ⟨zq _, hp, fun c hc => by cases hc; rfl⟩
 split
 ·split
  ·split
   ·rename_i h
    have h59 : p + 1 + (twS b (p + 1)).length < b.length := by
     apply Nat.lt_of_not_le
     intro hle
     have := h.2.2
     unfold ww at this
     rw [znQ hle] at this
     cases this
    exact ⟨by simp only; omega, by simp only; omega, fun c hc => by cases hc; exact h.2.1⟩
   ·exact ⟨by simp only; omega, by simp only; omega, fun c hc => by cases hc⟩
  ·exact ⟨by simp only; omega, by simp only; omega, fun c hc => by cases hc⟩
 ·exact ⟨zq _, hp, fun c hc => by cases hc⟩
def bldO (out : List Nat) : List (Option AObj) := if out = [] then [some (.row 52 [.nilp, .nils] false false)]
 else [some (.row 52 [.ptr 2 0, .sl 3 0 out.length (.opn 1)] false false), some (.row 5 (xo out) true false)]
theorem XG : bldO [] = [some (.row 52 [.nilp, .nils] false false)] := if_pos rfl
theorem uH (h : out ≠ []) : bldO out = [some (.row 52 [.ptr 2 0, .sl 3 0 out.length (.opn 1)] false false), some (.row 5 (xo out) true false)] := if_neg h
theorem Ur (c : Nat) : encC c ≠ [] := fun h => by
 have := (wS c).1
 rw [h] at this; simp at this
theorem zwx {c : Nat} : out ++ encC c ≠ [] := fun h => Ur c (List.append_eq_nil_iff.1 h).2
def ZT (x : List Nat × Nat) : Prop := Byt x.1 ∧ x.1.length < 100000 ∧ x.2 < x.1.length
attribute [local go_sem] rdr frow XG f33 flt f21 zwc zu3 f35 f70 kP strR in
theorem zuH (B : Bx P w0) (hO : OrcOk P w0 O) (o1 : O 33 = none) (o2 : O 35 = none) (o3 : O 70 = none) (o21 : O 21 = none)
  (o38 : O 38 = none) (o72 : O 72 = none) (o74 : O 74 = none) (o96 : O 96 = none)
  (h1 : O 87 = some l9) (h2 : O 89 = some gEsc) (b : List Nat) (p0 : Nat) (hp : ZT (b, p0)) :
  SC P w0 65 [.ptr 0 0] (H [some (rdr b p0)] 0 true) (kP b p0).1 (H [some (rdr b (kP b p0).2)] 1 true) := by
 obtain ⟨hb, hl, hi⟩ := hp
 simp only at hb hl hi
 refine bm B hO f65 fun C k => ?_
 have cend := ci f33 o1
 have cn := ci f35 o2
 have cf := ci f70 o3
 have cstr := ci f21 o21
 unfold f65
 simp only [Ko, Kg, Kn, Kd, Kf, Ki, Kv, KF, Km, Kr, Kc, opN]
 refine k.q ?_
 refine k.q ?_
 refine k.q ?_
 refine k.q ?_
 refine vQ (fun x : Nat × List Nat => qo b p0 (b.length + 1) (p0 + 1) [] = (.inr (4, p0), x.1)) (fun x => ⟨tmL [(4, .int .i64 (.ofNat p0)), (3, .ptr 1 0), (0, .ptr 0 0)], []⟩) (fun x => H [some (rdr b x.1), some frow] 1 true) (xS (x6 (k.gcL [1, 2] [5, 4, 3, 0] true (fr1 := ⟨tmL [(5, .ptr 2 0), (4, .int .i64 (.ofNat p0)), (3, .ptr 1 0), (0, .ptr 0 0)], []⟩) (s1 := H ([some (rdr b (p0 + 1)), some frow] ++ bldO []) 1 true) (by simp (disch := first | exact dis | fail) only [go_sem, seval, -rO, -rN, rdr, frow, XG]) ?_))) ?_
 ·refine wb (fun x : Nat × Nat × List Nat => x.1) (fun x => ⟨tmL [(5, .ptr 2 0), (4, .int .i64 (.ofNat p0)), (3, .ptr 1 0), (0, .ptr 0 0)], []⟩) (fun x => H ([some (rdr b x.2.1), some frow] ++ bldO x.2.2) 1 true) (fun x => qo b p0 x.1 x.2.1 x.2.2 = qo b p0 (b.length + 1) (p0 + 1) [] ∧ b.length < x.1 + x.2.1 ∧ x.2.1 ≤ b.length ∧ x.2.2.length ≤ 4 * x.2.1 ∧ 1 ≤ x.2.1 ∧ Byt x.2.2) (fun x hx => ?_) (b.length + 1, p0 + 1, []) ⟨rfl, by simp only; omega, hi, by simp, by simp only; omega, fun x hx => by cases hx⟩
  obtain ⟨kk, p, out⟩ := x
  obtain ⟨g1, g2, g3, g4, g5, g6⟩ := hx
  simp only at g1 g2 g3 g4 g5 g6 ⊢
  cases kk with
  | zero => omega
  | succ kk =>
  rw [qo] at g1
  by_cases h4 : p < b.length
  ·have hne : b.drop p ≠ [] := fun e => by have := congrArg yB e; rw [znK] at this; simp at this; omega
   rw [if_neg hne] at g1
   have hch := fun (l : List (Nat × Option AObj)) n m md => vB h1 (b := b) (p := p) (show PreC (b, p) from ⟨hb, by simp only; omega, h4⟩) false l n m md 0
   cases hR : decR (b.drop p) with
   | none =>
    rw [hR] at g1
    simp only [kV hR] at hch
    by_cases ho : out = []
    ·subst ho
     refine k.z ?_
     apply w7 (Or.inr rfl)
     iterate 5 (simp (disch := first | exact dis | fail) only [go_sem, seval, -rO, -rN, rdr, kP, ← g1, strR, flt] <;> exact rfl)
    ·have ho' := uH ho
     refine k.z ?_
     apply w7 (Or.inr rfl)
     iterate 5 (simp (disch := first | exact dis | fail) only [go_sem, seval, -rO, -rN, rdr, kP, ← g1, strR, flt] <;> exact rfl)
   | some q =>
    obtain ⟨c, z⟩ := q
    obtain ⟨f1, f2, f3⟩ := qX hne hR
    rw [znK] at f2
    simp only at f1 f2 f3
    rw [hR] at g1
    simp only at g1
    simp only [kW hR] at hch
    by_cases c34 : c = 34
    ·subst c34
     rw [if_pos rfl] at g1
     by_cases ho : out = []
     ·subst ho
      refine k.z ?_
      apply w7 (Or.inr rfl)
      iterate 5 (simp (disch := first | exact dis | fail) only [go_sem, seval, -rO, -rN, rdr, kP, ← g1, strR, flt] <;> exact rfl)
     ·have ho' := uH ho
      have hu := GM 3 out.length (fun h => ho (List.eq_nil_of_length_eq_zero h))
      have hus := fun l nx m k0 hg => @K0 l nx m 3 k0 [3] true false out .i64 hg rfl ho g6 (by omega)
      refine k.z ?_
      apply w7 (Or.inr rfl)
      iterate 5 (simp (disch := first | exact dis | fail) only [go_sem, seval, -rO, -rN, rdr, kP, ← g1, strR, flt] <;> exact rfl)
    ·rw [if_neg c34] at g1
     by_cases c92 : c = 92
     ·subst c92
      rw [if_pos rfl] at g1
      by_cases hend : p + z = b.length
      ·rw [if_pos hend] at g1
       have h5 : ¬ p + z < b.length := by omega
       by_cases ho : out = []
       ·subst ho
        refine k.eval (by simp (disch := first | exact dis | fail) only [go_sem, seval, -rO, -rN, rdr, frow, XG, cend, f33, h4, hch, flt, h5, cf, f70]; exact rfl) ?_
        try simp only [xA, xX]
        apply w7 (Or.inr rfl)
        iterate 5 (simp (disch := first | exact dis | fail) only [go_sem, seval, -rO, -rN, rdr, kP, ← g1, strR, flt] <;> exact rfl)
       ·have ho' := uH ho
        refine k.eval (by simp (disch := first | exact dis | fail) only [go_sem, seval, -rO, -rN, rdr, frow, ho', cend, f33, h4, hch, flt, h5, cf, f70]; exact rfl) ?_
        try simp only [xA, xX]
        apply w7 (Or.inr rfl)
        iterate 5 (simp (disch := first | exact dis | fail) only [go_sem, seval, -rO, -rN, rdr, kP, ← g1, strR, flt] <;> exact rfl)
      ·rw [if_neg hend] at g1
       have h5 : p + z < b.length := by omega
       have hes := fun (l : List (Nat × Option AObj)) n m md => vB h2 (b := b) (p := p + z) (show PreE (b, p + z) from ⟨hb, by simp only; omega, h5, by simp only; omega⟩) false l n m md 0
       obtain ⟨k1, k2, k3⟩ := Wb hb h5
       simp only [escF] at hes
       revert g1 hes k1 k2 k3
       generalize escR b (p + z) = E
       obtain ⟨ec, eq⟩ := E
       intro g1 hes k1 k2 k3
       simp only at g1 hes k1 k2 k3
       cases ec with
       | none =>
        simp only at g1 hes
        by_cases ho : out = []
        ·subst ho
         refine k.z ?_
         apply w7 (Or.inr rfl)
         iterate 5 (simp (disch := first | exact dis | fail) only [go_sem, seval, -rO, -rN, rdr, kP, ← g1, strR, flt] <;> exact rfl)
        ·have ho' := uH ho
         refine k.z ?_
         apply w7 (Or.inr rfl)
         iterate 5 (simp (disch := first | exact dis | fail) only [go_sem, seval, -rO, -rN, rdr, kP, ← g1, strR, flt] <;> exact rfl)
       | some c' =>
        simp only at g1 hes
        have hv' := k3 c' rfl
        have hn4 := (wS c').2
        have hby := gZ (xH.1 hv').1
        by_cases ho : out = []
        ·subst ho
         have hw := fun l n m bb hi hg => @Ua O o38 o72 o74 o96 l n m 2 bb c' hv' hi hg
         refine k.z ?_
         refine ⟨(kk, eq, [] ++ encC c'), ⟨g1, by simp only; omega, k2, by simp only [znO]; omega, by simp only; omega, hby⟩, yw _, ?_⟩
         simp only [znO, uH (Ur _)]
         exact k.g [1, 2, 5] [5, 4, 3, 0]
        ·have ho' := uH ho
         have hw := fun l n m bb ne hi hj hg hg2 => @GR O o38 o72 o74 o96 l n m 2 3 bb out c' hv' (by omega) ne hi hj hg hg2
         refine k.z ?_
         refine ⟨(kk, eq, out ++ encC c'), ⟨g1, by simp only; omega, k2, by simp only [ye]; omega, by simp only; omega, g6.append hby⟩, yw _, ?_⟩
         simp only [uH zwx]
         exact k.g [1, 2, 6] [5, 4, 3, 0]
     ·rw [if_neg c92] at g1
      have hn4 := (wS c).2
      have hby := gZ (xH.1 f3).1
      have hc1 := (xH.1 f3).1
      by_cases ho : out = []
      ·subst ho
       have hw := fun l n m bb hi hg => @Ua O o38 o72 o74 o96 l n m 2 bb c f3 hi hg
       refine k.z ?_
       refine ⟨(kk, p + z, [] ++ encC c), ⟨g1, by simp only; omega, by simp only; omega, by simp only [znO]; omega, by simp only; omega, hby⟩, yw _, ?_⟩
       simp only [znO, uH (Ur _)]
       exact k.g [1, 2, 5] [5, 4, 3, 0]
      ·have ho' := uH ho
       have hw := fun l n m bb ne hi hj hg hg2 => @GR O o38 o72 o74 o96 l n m 2 3 bb out c f3 (by omega) ne hi hj hg hg2
       refine k.z ?_
       refine ⟨(kk, p + z, out ++ encC c), ⟨g1, by simp only; omega, by simp only; omega, by simp only [ye]; omega, by simp only; omega, g6.append hby⟩, yw _, ?_⟩
       simp only [uH zwx]
       exact k.g [1, 2, 6] [5, 4, 3, 0]
  ·have hnil : b.drop p = [] := znQ (by omega)
   rw [if_pos hnil] at g1
   by_cases ho : out = []
   ·subst ho
    refine k.z ?_
    simp only [Gcx]
    refine ⟨(p, []), g1.symm, ?_⟩
    exact k.g [1] [4, 3, 0]
   ·have ho' := uH ho
    refine k.z ?_
    simp only [Gcx]
    refine ⟨(p, []), g1.symm, ?_⟩
    exact k.g [1] [4, 3, 0]
 ·rintro ⟨q, o⟩ hq
  simp only at hq ⊢
  refine k.q ?_
  refine k.z ?_
  exact fin
noncomputable def Pt : List AV → St → Option (AV × St) := gM ZT kP
theorem Lp (B : Bx P w0) (hO : OrcOk P w0 O) (o1 : O 33 = none) (o2 : O 35 = none) (o3 : O 70 = none) (o21 : O 21 = none)
  (o38 : O 38 = none) (o72 : O 72 = none) (o74 : O 74 = none) (o96 : O 96 = none)
  (h1 : O 87 = some l9) (h2 : O 89 = some gEsc) : OrcOk P w0 (withG 65 Pt O) :=
 uM hO (fun b p _ => zxP _) fun b p hx => zuH B hO o1 o2 o3 o21 o38 o72 o74 o96 h1 h2 b p hx
def LI : List Nat := [115, 112, 97, 99, 101]
def Qo : List Nat := [110, 101, 119, 108, 105, 110, 101]
def wTab : List Nat := [116, 97, 98]
def litC (c : Nat) (run : List Nat) : Option Nat :=
 if run = [] then some c else if encC c ++ run = LI then some 32 else if encC c ++ run = Qo then some 10 else if encC c ++ run = wTab then some 9
 else match hexL 0 run with
  | some n => if c = 120 ∧ xB n = true then some n else none
  | none => none
def litR (b : List Nat) (p : Nat) : Option Nat × Nat := if p + 2 = b.length then (none, p + 2) else match decR (b.drop (p + 2)) with
 | none => (none, p + 2)
 | some q => (litC q.1 (twS b (p + 2 + q.2)), p + 2 + q.2 + (twS b (p + 2 + q.2)).length)
def litV (p : Nat) : Option Nat → AV
 | some c => .tup [.int .i64 (.ofNat c), flt (0, 0)]
 | none => .tup [.int .i64 (.ofNat 0), flt (4, p)]
theorem zyZ (p : Nat) (x : Option Nat) : xG (litV p x) = true := by
 cases x <;> simp only [litV, wE, xw, wc, xD, y6, uL]
def litF (b : List Nat) (p : Nat) : AV × Nat := (litV p (litR b p).1, (litR b p).2)
def PreL (x : List Nat × Nat) : Prop := Byt x.1 ∧ x.1.length < 1000000 ∧ x.2 + 2 ≤ x.1.length
attribute [local go_sem] rdr f33 f70 litF litV flt f35 in
theorem HY (B : Bx P w0) (hO : OrcOk P w0 O) (o1 : O 33 = none) (o2 : O 35 = none) (o3 : O 70 = none)
  (h1 : O 87 = some l9) (h2 : O 69 = some gRun) (h3 : O 108 = some YU) (b : List Nat) (p : Nat) (hp : PreL (b, p)) :
  SC P w0 90 [.ptr 0 0] (H [some (rdr b p)] 0 true) (litF b p).1 (H [some (rdr b (litF b p).2)] 1 true) := by
 obtain ⟨hb, hl, hi⟩ := hp
 simp only at hb hl hi
 refine bm B hO f90 fun C k => ?_
 have cend := ci f33 o1
 have cn := ci f35 o2
 have cf := ci f70 o3
 unfold f90
 simp only [Ko, Kg, Kn, Ki, Kv, KF, Km, Kr, Kc, opN]
 refine k.q ?_
 refine k.q ?_
 refine k.q ?_
 by_cases hend : p + 2 = b.length
 ·have hL : litR b p = (none, p + 2) := by unfold litR; rw [if_pos hend]
  have h4 : ¬ p + 2 < b.length := by omega
  refine k.q ?_
  exact fin
 have h4 : p + 2 < b.length := by omega
 have hne : b.drop (p + 2) ≠ [] := fun e => by have := congrArg yB e; rw [znK] at this; simp at this; omega
 have hch := fun (l : List (Nat × Option AObj)) n m md => vB h1 (b := b) (p := p + 2) (show PreC (b, p + 2) from ⟨hb, hl, h4⟩) false l n m md 0
 cases hR : decR (b.drop (p + 2)) with
 | none =>
  have hL : litR b p = (none, p + 2) := by unfold litR; rw [if_neg hend, hR]
  simp only [kV hR] at hch
  refine k.q ?_
  refine k.q ?_
  refine k.q ?_
  exact fin
 | some q =>
  obtain ⟨c, z⟩ := q
  obtain ⟨f1, f2, f3⟩ := qX hne hR
  rw [znK] at f2
  simp only at f1 f2 f3
  have hc1 := (xH.1 f3).1
  have hcis : vCis (.int .i32 (.ofNat c)) = some (.str (encC c)) := by rw [LF, f3]; rfl
  have hl4 := (wS c).2
  have hL : litR b p = (litC c (twS b (p + 2 + z)), p + 2 + z + (twS b (p + 2 + z)).length) := by unfold litR; rw [if_neg hend, hR]
  simp only [kW hR] at hch
  have hrun := fun (l : List (Nat × Option AObj)) n m md => vB h2 (b := b) (p := p + 2 + z) (show PreR (b, p + 2 + z) from ⟨hb, hl, by simp only; omega⟩) false l n m md 0
  simp only [runF] at hrun
  have e2 : Byt (twS b (p + 2 + z)) := (hb.drop _).tw xY
  have e3 : (twS b (p + 2 + z)).length ≤ b.length - (p + 2 + z) := by have := Qk xY (b.drop (p + 2 + z)); rw [znK] at this; exact this
  have hhx := fun st => Vr (O := O) h3 e2 (by omega) st
  change ∀ (l : List (Nat × Option AObj)) n m md, _ → _ = some (AV.str (twS b (p + 2 + z)), KL ((0, some (.row 70 [_, .int .i64 (.ofNat (p + 2 + z + (twS b (p + 2 + z)).length))] false false)) :: l) n (mark m 0) md [] none) at hrun
  revert hL e3 e2 hhx hrun
  generalize twS b (p + 2 + z) = w
  intro hL e3 e2 hhx hrun
  refine k.q ?_
  refine k.q ?_
  refine k.q ?_
  refine k.q ?_
  refine k.q ?_
  by_cases c0 : w = []
  ·have hC : litC c w = some c := by unfold litC; rw [if_pos c0]
   subst c0
   refine k.q ?_
   exact fin
  by_cases c1 : encC c ++ w = LI
  ·have hC : litC c w = some 32 := by unfold litC; rw [if_neg c0, if_pos c1]
   have c1' : encC c ++ w = [115, 112, 97, 99, 101] := c1
   refine wu (k.eval (by simp (disch := first | exact dis | fail) only [go_sem, seval, -rO, -rN, c0, c1', cn, f35]; exact rfl) ?_)
   simp only [xA]
   exact fin
  by_cases c2 : encC c ++ w = Qo
  ·have hC : litC c w = some 10 := by unfold litC; rw [if_neg c0, if_neg c1, if_pos c2]
   have c2' : encC c ++ w = [110, 101, 119, 108, 105, 110, 101] := c2
   refine wu (k.eval (by simp (disch := first | exact dis | fail) only [go_sem, seval, -rO, -rN, c0, c2', cn, f35]; exact rfl) ?_)
   simp only [xA]
   exact fin
  by_cases c3 : encC c ++ w = wTab
  ·have hC : litC c w = some 9 := by unfold litC; rw [if_neg c0, if_neg c1, if_neg c2, if_pos c3]
   have c3' : encC c ++ w = [116, 97, 98] := c3
   refine wu (k.eval (by simp (disch := first | exact dis | fail) only [go_sem, seval, -rO, -rN, c0, c3', cn, f35]; exact rfl) ?_)
   simp only [xA]
   exact fin
  have hC : litC c w = match hexL 0 w with
   | some n => if c = 120 ∧ xB n = true then some n else none
   | none => none := by unfold litC; rw [if_neg c0, if_neg c1, if_neg c2, if_neg c3]
  have c1' : ¬ encC c ++ w = [115, 112, 97, 99, 101] := c1
  have c2' : ¬ encC c ++ w = [110, 101, 119, 108, 105, 110, 101] := c2
  have c3' : ¬ encC c ++ w = [116, 97, 98] := c3
  refine k.q ?_
  cases hx : hexL 0 w with
  | none =>
   rw [hx] at hC
   simp only at hC
   simp only [hexR, hx] at hhx
   by_cases h120 : c = 120
   ·subst h120
    refine k.q ?_
    refine k.z ?_
    exact fin
   ·refine k.q ?_
    refine k.z ?_
    exact fin
  | some n =>
   rw [hx] at hC
   simp only at hC
   have hn := UF (zN _) hx
   simp only [hexR, hx, decide_eq_true c0, Bool.true_and] at hhx
   by_cases h120 : c = 120
   ·subst h120
    cases hv : xB n with
    | true =>
     rw [if_pos ⟨rfl, hv⟩] at hC
     simp only [hv] at hhx
     refine k.q ?_
     exact fin
    | false =>
     rw [if_neg (fun h => by rw [hv] at h; cases h.2)] at hC
     simp only [hv] at hhx
     refine k.q ?_
     refine k.z ?_
     exact fin
   ·rw [if_neg (fun h => h120 h.1)] at hC
    refine k.q ?_
    refine k.z ?_
    exact fin
noncomputable def gLit : List AV → St → Option (AV × St) := gM PreL litF
theorem Qx (B : Bx P w0) (hO : OrcOk P w0 O) (o1 : O 33 = none) (o2 : O 35 = none) (o3 : O 70 = none)
  (h1 : O 87 = some l9) (h2 : O 69 = some gRun) (h3 : O 108 = some YU) : OrcOk P w0 (withG 90 gLit O) :=
 uM hO (fun b p _ => zyZ _ _) fun b p hx => HY B hO o1 o2 o3 h1 h2 h3 b p hx
end Go.Proofs.YthcmnajcjapjbaaGreatDoor.Ev

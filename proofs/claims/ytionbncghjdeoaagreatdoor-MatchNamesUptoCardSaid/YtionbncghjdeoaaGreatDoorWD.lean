/- Contracts of functions that MatchNames calls: what a call answers, for all data, by symbolic evaluation. No conditions of its own. -/
import Derived.Test.YtionbncghjdeoaaGreatDoorWC
import Derived.Test.YtionbncghjdeoaaGreatDoorEvG
set_option linter.unusedSimpArgs false
set_option linter.unusedVariables false
set_option linter.defProp false
set_option maxHeartbeats 4000000
open Nat renaming lt_succ_self → yx, le_of_ble_eq_true → zmv, le_refl → zp, le_succ → zmO, zero_le → zL, not_lt_zero → zms, zero_mod → zmP, zero_or → zmQ, zero_add → yy, mul_le_mul_left → zmS, or_zero → zmU, add_assoc → zI, le_trans → zt, mul_add → zmZ, mul_right_comm → zm0, mul → zb, add_zero → yB, le_mul_of_pos_left → zm5
open List renaming length_append → yd, length_cons → y8, cons_append → y9, nil_append → zmy, length_nil → y7, append_nil → zmw, drop_eq_getElem_cons → zmL, mem_cons_of_mem → yD, not_mem_nil → zmD, append_assoc → zmI, mem_of_mem_drop → zmC, mem_cons → zmE, take_append_drop → zmT, flatMap_cons → zmF, getElem?_eq_getElem → yl, take_of_length_le → zG, length_take → zmW, mem_of_getElem? → yX, mem_of_mem_take → zmX, map_cons → zA, length_map → zmM, flatMap_append → zmK, drop_zero → z4, sum_cons → zm1, eq_of_mem_replicate → zm3, getElem?_cons_zero → yJ, foldr_cons → zm4, drop_eq_nil_of_le → zmz, drop_drop → zZ, getD_cons_succ → zm7, getD_cons_zero → zm8, take_succ_cons → xc, drop → zm9
open Option.some renaming injEq → zv
open Bool renaming cond_self → zmR, and_self → xb, false_eq_true → zB, false_and → zmA, and_false → zmV, not_false → zmY, not_eq_true' → zm2, and_eq_true → zl, not_true → zm6
open Option renaming map_some → zX
open List.cons renaming injEq → xe
open Int renaming ofNat → zC, add → zla
namespace Go.Proofs.YtionbncghjdeoaaGreatDoor.Ev
variable {s : St} {v : AV} {tm : Trie AV} {d : DT} {id n esz bytes : Nat}
open Nat (reduceEqDiff reduceLeDiff reduceLT reduceAdd reduceMul reduceSub reduceMod reducePow reduceDiv reduceOr reduceShiftLeft reduceGT reduceSucc)
open List (length_cons length_nil length_take length_drop)
open Int renaming reduceOfNat → rO, reduceNegSucc → rN
open T
set_option maxRecDepth 100000
def ZM (x : wa × DT × DT) : List AV := [jx x.1, wU x.2.1, wU x.2.2]
theorem XN : ∀ x y, ZM x = ZM y → x = y := fun ⟨a, b, c⟩ ⟨a', b', c'⟩ h => by
 simp only [ZM, jx, xe, AV.agg.injEq, and_true] at h; rw [ku h.1, v9 h.2.1, v9 h.2.2]
theorem Q5 (x : wa × DT × DT) : xK (ZM x) = true := by simp only [ZM, jx, qR, xP, jb, ww, vw, xU, xb]
theorem Q6 (ls : wa) (p f : DT) : wkL [.agg [.lst ls.length false (vb ls)], .agg (xu p), .agg (xu f)] = ZM (ls, p, f) := by simp only [ZM, jx, qR, wU, wkL, wkV, j1, qQ]
def Gi (N : Nat) (x : wa × DT × DT) : Prop := x.1.length < 1000000000 ∧ xq x.2.1 < N ∧ wI x.2.1 = true ∧ xq x.2.1 ≤ 180000 ∧ xq x.2.2 < 180000
def mtO : Option (List VT) → AV
 | none => .tup [.lst 0 false [], .bool false]
 | some vs => .tup [vJ vs, .bool true]
noncomputable def gMt (N : Nat) : List AV → St → Option (AV × St) := uu ZM (Gi N) (fun x => mtO (wu x.1 x.2.1 x.2.2))
theorem Hz (x : Option (List VT)) : x0 (mtO x) = true := by
 cases x <;> simp only [mtO, vJ, vx, xP, ww, u7, xU, xb]
def zsQ (L : List (Nat × Option AObj)) (n : Nat) (b : Bool) (res : Option (List VT)) (v : AV) (t : St) : Prop :=
 ∃ L' n' m', t = KL L' n' m' b [] none ∧ n ≤ n' ∧ WfA L' n' ∧ (∀ j, j < n → xx L' j = xx L j) ∧ match res with
  | none => v = .tup [.nils, .bool false]
  | some vs => ∃ id, v = .tup [jY id vs.length, .bool true] ∧ RowAt L' n n' id vs
def Xf (a : Int) (c np i : Nat) : Nat := if ltD a (.ofNat i) = true then np - i else np - i - 1 + c
def ZD (n : Nat) (ps : List wy) (data : List DT) (a mo : Int) : List (Nat × AV) :=
 [(4, .ptr n 0), (3, .lst data.length false (xC data)), (2, .int .i64 a), (10, .int .i64 mo), (28, .lst ps.length false (xz xA ps)), (29, .int .i64 (.ofNat ps.length))]
def RwI (ls : wa) (L0 : List (Nat × Option AObj)) (n0 : Nat) (ps : List wy) (data : List DT) (a mo : Int) (c : Nat) (x : Nat × Nat × List VT) (fr : Fr) (s : St) : Prop :=
 ∃ T L n m id, fr = ⟨tmL T, []⟩ ∧ s = KL L n m false [] none ∧ TG T (ZD n0 ps data a mo) ∧ (tmL T).get 30 = some (.int .i64 (.ofNat x.1)) ∧ (tmL T).get 11 = some (.int .i64 (.ofNat x.2.1)) ∧ (tmL T).get 8 = some (jY id x.2.2.length) ∧ WfA L n ∧ RowAt L (n0 + 1) n id x.2.2 ∧ (∀ j, j < n0 → xx L j = xx L0 j) ∧ xx L n0 = some (.row 46 [.lst ls.length false (vb ls)] false false) ∧
  x.1 ≤ ps.length ∧ x.2.1 + Xf a c ps.length x.1 = data.length ∧ x.2.2.length + ((ps.drop x.1).flatMap fun p => qa ls p.1 (0 + min p.2 1)).length < 1000000 ∧ jZ (wu ls) ls a c 0 ps data = (jZ (wu ls) ls a c x.1 (ps.drop x.1) (data.drop x.2.1)).map (x.2.2 ++ ·)
structure RowPre (N : Nat) (ls : wa) (ps : List wy) (data : List DT) (a : Int) (c : Nat) : Prop where
 lits : ls.length < 1000000000
 parts : ∀ p ∈ ps, wI p.1 = true ∧ xq p.1 < N ∧ xq p.1 ≤ 180000
 dat : ∀ x ∈ data, xq x < 180000
 dlen : data.length < 200000
 plen : ps.length < 200000
 cc : c = data.length + 1 - ps.length
 le : ps.length ≤ data.length + 1
 at_ : (a = .negSucc 0 ∧ data.length = ps.length) ∨ ∃ q, a = .ofNat q ∧ q < ps.length
 vars : (ps.flatMap fun p => qa ls p.1 (0 + min p.2 1)).length < 1000000
def YD (n0 : Nat) (ps : List wy) (data : List DT) (a mo : Int) (i id ol n C c : Nat) : List (Nat × AV) :=
 (30, .int .i64 (.ofNat i)) :: (8, jY id ol) :: (13, .ptr n 0) :: (16, .sl (n + 1) 0 C (.fix C)) :: (63, .int .i64 (.ofNat c)) :: ZD n0 ps data a mo
def zvu (n0 : Nat) (ps : List wy) (data : List DT) (a mo : Int) (i id ol n C c k r : Nat) (vals : List VT) : List (Nat × AV) :=
 (79, .lst C false (xI vals)) :: (80, .int .i64 (.ofNat C)) :: (64, .int .i64 (.ofNat r)) :: (11, .int .i64 (.ofNat (k + r))) :: YD n0 ps data a mo i id ol n C c
theorem zos {C : Nat} {vals : List VT} {j : Nat} {v : VT} {r : List VT} (hC : vals.length = C) (hd : vals.drop j = v :: r) (e : Bool) : vIa 7 (.lst C e (xI vals)) (.int .i64 (.ofNat j)) = some (.vp (qY v ++ xI r)) := by
 subst hC; rw [qo, lM ju hd, ← qo]
def zvv (n0 : Nat) (ps : List wy) (data : List DT) (a mo : Int) (i id ol n C c k : Nat) (vs1 : List VarT) : List (Nat × AV) :=
 (105, .lst C false (xz wd vs1)) :: (106, .int .i64 (.ofNat C)) :: (11, .int .i64 (.ofNat (k + c))) :: YD n0 ps data a mo i id ol n C c
theorem JG (id k : Nat) : jY id (k + 1) = .sl id 0 (k + 1) (.opn 7) := rfl
theorem H8 {α : Type} {l : List α} {j : Nat} (h : j < l.length) : ∃ a x b, l = a ++ x :: b ∧ a.length = j := ⟨l.take j, l[j], l.drop (j + 1), by rw [← zmL h, zmT], by rw [zmW]; omega⟩
theorem zs4 {c1 c2 : List Col} {c : Col} {j : Nat} (h : c1.length = j) : wC 1 (wP (j * 7 + 6) (xz qD (c1 ++ c :: c2))) = some [jY c.id c.ms.length] := by
 subst h; rw [xY]; simp only [xz, qD]; have := @gw (xz qD c1 ++ [.int .i64 (.ofNat c.dp), .int .i64 (.ofNat 0), .int .i64 (.ofNat 0), .str [], .nils, .int .i64 (.ofNat 0)]) [jY c.id c.ms.length] (xz qD c2) (c1.length * 7 + 6) 1 (by rw [yd, qb kH]; rfl) rfl
 simpa only [zmI, y9, zmy] using this
theorem zy6 {c1 c2 : List Col} {c : Col} {j q : Nat} {v : VT} (h : c1.length = j) : vr (xz qD (c1 ++ c :: c2)) (j * 7 + 6) [.sl q 0 (c.ms.length + 1) (.opn 7)] = some (xz qD (c1 ++ ⟨c.dp, q, c.ms ++ [v]⟩ :: c2)) := by
 subst h; rw [xY, xY]; simp only [xz, qD, yd, y8, y7, yy, JG]; have := @ja (xz qD c1 ++ [.int .i64 (.ofNat c.dp), .int .i64 (.ofNat 0), .int .i64 (.ofNat 0), .str [], .nils, .int .i64 (.ofNat 0)]) [jY c.id c.ms.length] (xz qD c2) [.sl q 0 (c.ms.length + 1) (.opn 7)] (c1.length * 7 + 6) (by rw [yd, qb kH]; rfl) rfl
 simpa only [zmI, y9, zmy] using this
theorem Uh {data : List DT} {k r c : Nat} {x : DT} (h : data.drop (k + r) = x :: data.drop (k + r + 1)) (hr : r < c) : ((data.drop k).take c).drop r = x :: ((data.drop k).take c).drop (r + 1) := by
 rw [List.drop_take, List.drop_take, zZ, zZ, h, show c - r = (c - (r + 1)) + 1 by omega, xc, ← zI]
theorem KW (x : Option (List (List VT))) : x.map (([] : List (List VT)) ++ ·) = x := by cases x <;> rfl
theorem Ht (x : Option (List VT)) : x.map (([] : List VT) ++ ·) = x := by cases x <;> rfl
section
variable {O : Orc}
attribute [local go_sem] pD jx qR wU xo xH xF wc wD vA vJ mtO ltF gtF wz wg zmP zmQ zmU zmR ue in
theorem zoM (h34 : O 34 = none) {N : Nat} (h13 : O 13 = some (gMt N)) {M : Nat} (h14 : O 14 = some (gVs M)) (ls : wa) (ps : List wy) (data : List DT) (a : Int) (c : Nat) (hp : RowPre N ls ps data a c) (hM : ∀ p ∈ ps, xq p.1 < M) {L0 : List (Nat × Option AObj)} {n0 m0 : Nat} (hw0 : WfA L0 n0) (b : Bool) :
  Cv ((evW env O).call 34 [jx ls, vA ps, .int .i64 a, .lst data.length false (xC data)] (KL L0 n0 m0 b [] none)) (zsQ L0 n0 b (jZ (wu ls) ls a c 0 ps data)) := by
 refine qA (F := f34) h34 rfl rfl (zmv rfl) ?_; obtain ⟨mo, hsub, hwr, hadd⟩ : ∃ mo, Int.sub (.ofNat data.length) (.ofNat ps.length) = mo ∧ qV .i64 mo = mo ∧ zla mo (.ofNat 1) = .ofNat c := by
  have h1 := hp.dlen; have h2 := hp.plen; have h3 := hp.le; have h4 := hp.cc
  by_cases hle : ps.length ≤ data.length
  ·refine ⟨.ofNat (data.length - ps.length), zwN hle, XA _ (by rw [zsv]; omega), ?_⟩
   show zC (data.length - ps.length + 1) = _
   congr 1; omega
  ·have h5 : ps.length = data.length + 1 := oM; refine ⟨.negSucc 0, ?_, rfl, ?_⟩
   ·show (data.length : Int) - (ps.length : Int) = Int.negSucc 0; omega
   ·have : c = 0 := oM; subst this; rfl
 unfold f34; simp only [Ko, Kn, Kd, Kf, Ki]; refine xw ?_; refine xw ?_; refine xw ?_; refine xJ (xw ?_); refine xQ ?_; refine wS (fun x : Nat × Nat × List VT => ps.length - x.1) (RwI ls L0 n0 ps data a mo c) (fun x fr s hI => ?_) (0, 0, []) ⟨_, _, _, _, n0, rfl, rfl, ?_, sW, sW, by simp (disch := first | exact dis | fail) only [go_sem, seval, -rO, -rN, jY], ?_, ⟨oM, fun h => absurd rfl h⟩, fun j hj => by rw [xi, if_neg oM], sW, oM, ?_, (by simp only [y7, z4]; have := hp.vars; omega), (Ht _).symm⟩
 ·obtain ⟨i, k, out⟩ := x; obtain ⟨T, L, n, m, id, rfl, rfl, hT, h30, h11, h8, hw, hro, hfr, hg0, hi, hk, hvb, hrm⟩ := hI; simp only at h30 h11 h8 hro hi hk hvb hrm; have hT' := hT; simp only [TG, ZD] at hT'; obtain ⟨h4, h3, h2, h10, h28, h29, _⟩ := hT'; have hn0 : n0 < n := Nat.lt_of_not_le fun hle => by rw [hw n0 hle] at hg0; cases hg0
  rcases x8 ps i with ⟨hi, hd⟩ | ⟨⟨d, dc⟩, hi, hd⟩
  ·have hlt : ¬ i < ps.length := oM; rw [hd] at hrm; simp only [jZ, zX, zmw] at hrm; refine xB ?_; refine xw ?_; refine xB ?_; refine x7 ?_; refine ⟨L, n, m, rfl, ?_, hw, fun j hj => hfr j hj, ?_⟩
   ·exact Nat.le_of_lt hn0
   ·rw [hrm]; exact ⟨id, rfl, hro.lt, fun h => by obtain ⟨g1, g2⟩ := hro.row h; exact ⟨oM, g2⟩⟩
  ·have hx := Qm hd false; have hmem : (d, dc) ∈ ps := zmC (by rw [hd]; simp)
   obtain ⟨pm, pn, pk⟩ := hp.parts _ hmem; simp only at pm pn pk; have hlits := hp.lits; have hdl := hp.dlen; have hpl := hp.plen
   rw [hd] at hrm hvb; have hvd : ∀ kk, qa ls d kk = qa ls d kk := fun _ => rfl; simp only [jZ] at hrm; have hsame := fun s (x : DT) hx => oc h13 XN (ls, d, x) ⟨hlits, pn, pm, pk, hx⟩ (Q6 ls d x) s; cases hia : eqD (.ofNat i) a with
   | false =>
    rw [if_pos hia] at hrm; have hna : ¬ (zC i = a) := fun e => by rw [znj e] at hia; cases hia
    have hneed : Xf a c ps.length i = Xf a c ps.length (i + 1) + 1 := by
     unfold Xf ltD; by_cases h1 : a < zC i
     ·have h2 : a < zC (i + 1) := by show a < (i : Int) + 1; have : a < (i : Int) := h1; omega
      rw [if_pos (decide_eq_true h1), if_pos (decide_eq_true h2)]; omega
     ·have h2 : ¬ a < zC (i + 1) := by
       have h3 : ¬ a < (i : Int) := h1; have h4 : ¬ (i : Int) = a := hna; show ¬ a < (i : Int) + 1; omega
      rw [decide_eq_false h1, decide_eq_false h2, if_neg (by simp), if_neg (by simp)]
      rcases hp.at_ with ⟨rfl, _⟩ | ⟨q, rfl, hq⟩
      ·exact absurd (show Int.negSucc 0 < (i : Int) by omega) h1
      ·have h3 : ¬ (q : Int) < (i : Int) := h1; have h4 : ¬ (i : Int) = (q : Int) := hna; omega
    have hkl : k < data.length := oM; obtain ⟨x, hdx⟩ : ∃ x, data.drop k = x :: data.drop (k + 1) := ⟨_, zmL hkl⟩; rw [hdx] at hrm; have hxm : x ∈ data := zmC (by rw [hdx]; simp)
    have hmt := fun s => hsame s x (hp.dat x hxm); have hx2 := jT hdx false; simp only at hrm; clear hsame hvd; cases hm : wu ls d x with
    | none =>
     rw [hm] at hmt hrm; obtain ⟨dk, dn, dt, ds, dp⟩ := d; obtain ⟨xk, xn, xt, xs, xp⟩ := x; simp only [xo] at hx hx2 hmt; refine xB ?_; refine x7 ?_; refine ⟨_, _, _, rfl, oM, ?_, ?_, ?_⟩
     ·exact (hw.cons (yx _) (zmO _)).cons (yx _) (zp _)
     ·intro j hj; rw [xi, if_neg oM, xi, if_neg oM]; exact hfr j hj
     ·rw [hrm]; rfl
    | some vs =>
     rw [hm] at hmt hrm; have hvl := (lg N d x vs pn pm hm).symm; have hvl1 : (qa ls d (0 + min dc 1)).length = vs.length := by rw [Zb ls d _ 0]; exact hvl
     rw [zmF, yd] at hvb; simp only at hvb; rw [hvl1] at hvb; have hol : out.length + vs.length < 1000000000 := oM; obtain ⟨dk, dn, dt, ds, dp⟩ := d; obtain ⟨xk, xn, xt, xs, xp⟩ := x; simp only [xo] at hx hx2 hmt; refine xw ?_; refine xw ?_; refine xJ (xQ (xw ?_)); refine xJ (xw ?_); refine uy ?_; refine KD ?_; refine wL (zzv (lo := n0 + 1) (id := id) (vs := out) (ws := vs) (us2 := xI vs) (hro.ext hw (zmO _) (fun j _ hj => ?_) (fun j hj => ?_)) ((hw.cons (yx _) (zmO _)).cons (yx _) (zp _)) oM rfl (fun _ => ?_) (q9 vs) (YG vs) (Pp _ vs) hol false rfl) fun v t hv => ?_
     ·rw [xi, if_neg oM, xi, if_neg oM]
     ·rw [xi, if_neg oM, xi, if_neg oM]
     ·simp only [w6]; rw [show zb vs.length 7 = (xI vs).length from (q9 vs).symm]; exact uh rfl
     obtain ⟨id', L', n', m', rfl, rfl, hro', hw', hn', hfr', _⟩ := hv; refine xB ?_; refine xB ?_; refine xB ?_; refine ⟨(i + 1, k + 1, out ++ vs), ⟨_, _, _, _, id', rfl, rfl, (by repeat (first | exact hT | refine wF ?_ rfl)), sV, sV, sV, hw', hro', fun j hj => ?_, ?_, by simp only; omega, by simp only; omega, ?_, ?_⟩, by simp only; omega⟩
     ·rw [hfr' j oM, xi, if_neg oM, xi, if_neg oM]; exact hfr j hj
     ·rw [hfr' n0 oM, xi, if_neg oM, xi, if_neg oM]; exact hg0
     ·simp only [yd]; omega
     ·simp only [hrm]; cases jZ (wu ls) ls a c (i + 1) (zm9 (i + 1) ps) (zm9 (k + 1) data) with
      | none => rfl
      | some ws => simp only [zX, zmI]
   | true =>
    rw [if_neg (by rw [hia]; simp)] at hrm
    have hai : a = .ofNat i := by
     have : decide (zC i = a) = true := hia; exact (of_decide_eq_true this).symm
    subst hai; have hneed : Xf (.ofNat i) c ps.length i = ps.length - i - 1 + c := by
     unfold Xf; rw [lN, if_neg (by simp)]
    have hneed2 : Xf (.ofNat i) c ps.length (i + 1) = ps.length - (i + 1) := by
     unfold Xf; rw [lN, if_pos (by simp)]
    have hck : k + c ≤ data.length := oM; have hmz := ka d; have hMd := hM _ hmem; simp only at hMd; have hv0 := fun s => oc h14 g8 (ls, d, 0) ⟨hlits, by simp only; omega, pk, .inl pm, by simp only; omega⟩ (pE ls d 0) s
    have hv1 := fun s => oc h14 g8 (ls, d, 1) ⟨hlits, by simp only; omega, pk, .inl pm, by simp only; omega⟩ (pE ls d 1) s
    have hml := fun x vs (h : wu ls d x = some vs) => lg N d x vs pn pm h; have hdat := hp.dat
    rw [zmF, yd] at hvb; simp only at hvb; rw [Zb ls d _ 0] at hvb; have hv1l := Zb ls d 1 0; generalize hvs0 : qa ls d 0 = vs0 at *; generalize hvs1 : qa ls d 1 = vs1 at *; generalize hC : vs0.length = C at *; clear hvd hMd hmz; have hpre := fun x hx => (⟨hlits, pn, pm, pk, hx⟩ : Gi N (ls, d, x)); clear hp hM hmem; have hCb : C < 1000000 := oM; have hms := fun L n m => @zqy L n m 67 96 C false [] none [.int .i64 (.ofNat 0), .int .i64 (.ofNat 0), .int .i64 (.ofNat 0), .str [], .nils, .int .i64 (.ofNat 0), .nils] oM oM; obtain ⟨dk, dn, dt, ds, dp⟩ := d; simp only [xo] at hx hv0 hv1 hsame; refine xw ?_; refine xw ?_; refine xJ (xQ (xw ?_)); refine xw ?_; refine xw ?_; rw [JH C]; generalize hLb : (n, some (AObj.row 79 [.int .i64 dk, .int .i64 dn, .str dt, .lst ds.length false (xC ds), .int .i64 dp, .int .i64 (.ofNat dc)] false false)) :: (n, some (AObj.row 79 [.int .i64 (.ofNat 0), .int .i64 (.ofNat 0), .str [], .nils, .int .i64 (.ofNat 0), .int .i64 (.ofNat 0)] false false)) :: L = Lb; have hgb : xx Lb n = some (.row 79 [.int .i64 dk, .int .i64 dn, .str dt, .lst ds.length false (xC ds), .int .i64 dp, .int .i64 (.ofNat dc)] false false) := by rw [← hLb, xi, if_pos rfl]
    have hfb : ∀ j, j < n → xx Lb j = xx L j := fun j hj => by rw [← hLb, xi, if_neg oM, xi, if_neg oM]
    have hwb : WfA Lb (n + 1) := by rw [← hLb]; exact (hw.cons (yx _) (zmO _)).cons (yx _) (zp _)
    clear hms hLb hx; refine xJ (xw ?_); refine xQ ?_; have hwb2 : WfA ((n + 1, some (AObj.row vty (xz qD (List.replicate C ⟨0, 0, []⟩)) false false)) :: Lb) (n + 1 + 1) := hwb.cons (yx _) (zmO _); refine wS (fun x : Nat × List (List VT) => c - x.1) (fun x fr s => ∃ T L' n' m' cols, fr = ⟨tmL T, []⟩ ∧ s = KL L' n' m' false [] none ∧ TG T (YD n0 ps data (.ofNat i) mo i id out.length n C c) ∧ (tmL T).get 64 = some (.int .i64 (.ofNat x.1)) ∧ (tmL T).get 11 = some (.int .i64 (.ofNat (k + x.1))) ∧ WfA L' n' ∧ ColsAt L' (n + 1) n' cols ∧ (∀ j, j < n + 1 → xx L' j = xx Lb j) ∧ cols.map (·.ms) = jk C x.2 ∧ (∀ e ∈ cols, e.dp = 0) ∧ x.1 ≤ c ∧ x.2.length = x.1 ∧ kc (wu ls) (.mk dk dn dt ds dp) ((data.drop k).take c) = (kc (wu ls) (.mk dk dn dt ds dp) (((data.drop k).take c).drop x.1)).map (x.2 ++ ·)) (fun x fr s hI => ?_) (0, []) ⟨_, _, _, _, List.replicate C ⟨0, 0, []⟩, rfl, rfl, ?_, sW, sV, hwb2, ⟨yx _, by rw [xi, if_pos rfl], fun e he hne => absurd (by rw [zm3 he]) hne, ?_⟩, fun j hj => by rw [xi, if_neg oM], ?_, fun e he => by rw [zm3 he], zL _, rfl, (KW _).symm⟩
    ·obtain ⟨r, rows⟩ := x; obtain ⟨T2, L2, n2, m2, cols, rfl, rfl, hT2, t64, t11, hw2, hcol, hfr2, hcc, hdp, hrc, hrl, hrm2⟩ := hI; simp only at t64 t11 hcc hrc hrl hrm2; have hT2' := hT2; simp only [YD, TG, ZD] at hT2'; obtain ⟨u30, u8, u13, u16, u63, u4, u3, u2, u10, u28, u29, _⟩ := hT2'; have hgn := hfr2 n (yx _); rw [hgb] at hgn; have hg0' : xx L2 n0 = some (.row 46 [.lst ls.length false (vb ls)] false false) := by rw [hfr2 n0 oM, hfb n0 hn0]; exact hg0
     by_cases hrc2 : r < c
     ·have hkl : k + r < data.length := oM; obtain ⟨x, hdx⟩ : ∃ x, data.drop (k + r) = x :: data.drop (k + r + 1) := ⟨_, zmL hkl⟩; rw [Uh hdx hrc2] at hrm2; have hxm : x ∈ data := zmC (by rw [hdx]; simp)
      have hmt := fun s => hsame s x (hdat x hxm); have hx2 := jT hdx false; simp only [kc] at hrm2; have hmlx := hml x; cases hm : wu ls (.mk dk dn dt ds dp) x with
      | none =>
       rw [hm] at hmt hrm2; simp only [Option.map_none] at hrm2; rw [hrm2] at hrm; obtain ⟨xk, xn, xt, xs, xp⟩ := x; simp only [xo] at hx2 hmt; clear hmlx hml hsame hcol hv0 hv1; refine xB ?_; refine x7 ?_; refine ⟨L2, n2, _, rfl, by have := hw2.lt hgn; omega, hw2, fun j hj => ?_, by rw [hrm]; rfl⟩
       rw [hfr2 j oM, hfb j oM]; exact hfr j hj
      | some vals =>
       rw [hm] at hmt hrm2; have hvl := hmlx vals hm; obtain ⟨xk, xn, xt, xs, xp⟩ := x; simp only [xo] at hx2 hmt; clear hmlx hml hsame hrm; refine xw ?_; refine xw ?_; refine xJ (xQ (xw ?_)); refine xw ?_; refine xJ (xw ?_); refine xQ ?_; have hlenC : cols.length = C := by rw [← zmM (f := Col.ms), hcc, XH]
       refine wS (fun j : Nat => C - j) (fun j fr s => ∃ T L' n' m' cols, fr = ⟨tmL T, []⟩ ∧ s = KL L' n' m' false [] none ∧ TG T (zvu n0 ps data (.ofNat i) mo i id out.length n C c k r vals) ∧ (tmL T).get 81 = some (.int .i64 (.ofNat j)) ∧ WfA L' n' ∧ ColsAt L' (n + 1) n' cols ∧ (∀ j, j < n + 1 → xx L' j = xx Lb j) ∧ cols.length = C ∧ (∀ e ∈ cols, e.dp = 0) ∧ j ≤ C ∧ (∀ q, q < C → (cols.map (·.ms))[q]? = if q < j then (jk C (rows ++ [vals]))[q]? else (jk C rows)[q]?)) (fun j fr s hI => ?_) 0 ⟨_, _, _, _, cols, rfl, rfl, ?_, sV, hw2, hcol, hfr2, hlenC, hdp, zL _, fun q hq => by rw [hcc]; simp⟩
       ·obtain ⟨T3, L3, n3, m3, cols3, rfl, rfl, hT3, t81, hw3, hcol3, hfr3, hlen3, hdp3, hjC, hcc3⟩ := hI; have hT3' := hT3; simp only [zvu, YD, TG, ZD] at hT3'; obtain ⟨w79, w80, w64, w11, w30, w8, w13, w16, w63, w4, w3, w2, w10, w28, w29, _⟩ := hT3'; clear hcc hcol hdp hw2 hfr2 hmt hx2 hv0 hv1 hro hpre hT2 t64 t11 u30 u8 u13 u16 u63 u4 u3 u2 u10 u28 u29 h4 h3 h2 h10 h28 h29 h30 h11 h8 hT; by_cases hj : j < C
        ·obtain ⟨v, hdv⟩ : ∃ v, vals.drop j = v :: vals.drop (j + 1) := ⟨_, zmL oM⟩; have hx4 := zos hvl hdv false; have hvj : vals[j]? = some v := by
          have := congrArg (fun l => l[0]?) hdv
          simpa using this
         obtain ⟨c1, cc, c2, rfl, hc1⟩ := H8 (l := cols3) (j := j) oM; have hcut := @zs4 c1 c2 cc j hc1; have hpas := fun q => @zy6 c1 c2 cc j q v hc1; have hrow := hcol3.row; have hlt3 := hcol3.lt; have hccdp := hdp3 cc (by simp)
         have heach := hcol3.each cc (by simp)
         obtain ⟨vd, ⟨ek, en, et, es, ep⟩, vms⟩ := v; simp only [vc, xo, y9, zmy] at hx4; refine xw ?_; refine xw ?_; refine xJ (xQ (xw ?_)); obtain ⟨cdp, cid, cms⟩ := cc; simp only at hcut hpas heach hccdp; subst hccdp; cases cms with
         | nil =>
          have ha := fun L m => @J0 L (n3 + 1) m 67 67 7 96 [.int .i64 (.ofNat 0), .int .i64 (.ofNat 0), .int .i64 (.ofNat 0), .str [], .nils, .int .i64 (.ofNat 0), .nils] false false rfl oM oM; simp only [y7, jY] at hcut; simp only [y7, yy, zmy] at hpas; refine xB ?_; refine xB ?_; refine ⟨j + 1, ⟨_, _, _, _, c1 ++ ⟨0, n3 + 1 + 1, [] ++ [.mk vd (.mk ek en et es ep) vms]⟩ :: c2, rfl, rfl, (by repeat (first | exact hT3 | refine wF ?_ rfl)), sV, ?_, hcol3.push oM oM oM (by rw [xi, if_pos rfl]; rfl) ?_ (fun q h1 h2 _ => ?_), fun q hq => ?_, by rw [← hlen3]; simp only [yd, y8], fun e he => ?_, oM, zzA hc1 hj hvj hcc3⟩, oM⟩
          ·repeat (first | exact fun q hq => hw3 q oM | refine WfA.cons (n := n3 + 1 + 1 + 1) ?_ oM oM)
          ·rw [xi, if_neg oM, xi, if_pos rfl]; simp only [zmy, vU, jQ, vc, xo, y9, zmw]
          ·rw [xi, if_neg oM, xi, if_neg oM, xi, if_neg oM, xi, if_neg oM, xi, if_neg oM, xi, if_neg oM]
          ·rw [xi, if_neg oM, xi, if_neg oM, xi, if_neg oM, xi, if_neg oM, xi, if_neg oM, xi, if_neg oM]; exact hfr3 q hq
          ·rcases List.mem_append.1 he with he | he
           ·exact hdp3 e (by simp [he])
           ·rcases List.mem_cons.1 he with rfl | he
            ·rfl
            ·exact hdp3 e (by simp [he])
         | cons z zs =>
          obtain ⟨e1, e2, e3⟩ := heach (by simp)
          have hzl : zs.length + 1 ≤ r := by
           have h1 := hcc3 j hj; rw [if_neg oM, Zh hj, List.map_append, List.getElem?_append_right (by rw [zmM]; omega), zmM, hc1, Nat.sub_self, zA, yJ] at h1
           simp only [zv] at h1; have h2 := congrArg List.length h1; have h3 := List.length_filterMap_le (fun l : List VT => l[j]?) rows; simp only [y8] at h2; omega
          clear heach; have hgc : xx ((n3, some (AObj.row 67 [.int .i64 (.ofNat vd), .int .i64 ek, .int .i64 en, .str et, .lst es.length false (xC es), .int .i64 ep, .lst vms.length false (xI vms)] false false)) :: (n3, some (AObj.row 67 [.int .i64 (.ofNat 0), .int .i64 (.ofNat 0), .int .i64 (.ofNat 0), .str [], .nils, .int .i64 (.ofNat 0), .nils] false false)) :: L3) cid = some (.row 67 (xI (z :: zs)) true false) := by
           rw [xi, if_neg oM, xi, if_neg oM]; exact e3
          have ha := fun m => @J2 _ (n3 + 1) m 67 67 7 96 cid (zs.length + 1) false (xI (z :: zs)) [.int .i64 (.ofNat 0), .int .i64 (.ofNat 0), .int .i64 (.ofNat 0), .str [], .nils, .int .i64 (.ofNat 0), .nils] false false oM hgc (q9 _) rfl oM rfl oM oM; have hpas2 : vr (xI (z :: zs) ++ [.int .i64 (.ofNat 0), .int .i64 (.ofNat 0), .int .i64 (.ofNat 0), .str [], .nils, .int .i64 (.ofNat 0), .nils]) ((zs.length + 1) * 7) [.int .i64 (.ofNat vd), .int .i64 ek, .int .i64 en, .str et, .lst es.length false (xC es), .int .i64 ep, .lst vms.length false (xI vms)] = some (xI (z :: zs) ++ [.int .i64 (.ofNat vd), .int .i64 ek, .int .i64 en, .str et, .lst es.length false (xC es), .int .i64 ep, .lst vms.length false (xI vms)]) :=
           @ja (xI (z :: zs)) [.int .i64 (.ofNat 0), .int .i64 (.ofNat 0), .int .i64 (.ofNat 0), .str [], .nils, .int .i64 (.ofNat 0), .nils] [] [.int .i64 (.ofNat vd), .int .i64 ek, .int .i64 en, .str et, .lst es.length false (xC es), .int .i64 ep, .lst vms.length false (xI vms)] _ (q9 _) rfl
          simp only [y8, JG] at hcut; simp only [y8] at hpas; refine xB ?_; refine xB ?_; refine ⟨j + 1, ⟨_, _, _, _, c1 ++ ⟨0, n3 + 1 + 1, (z :: zs) ++ [.mk vd (.mk ek en et es ep) vms]⟩ :: c2, rfl, rfl, (by repeat (first | exact hT3 | refine wF ?_ rfl)), sV, ?_, hcol3.push oM oM oM (by rw [xi, if_pos rfl]; rfl) ?_ (fun q h1 h2 h3 => ?_), fun q hq => ?_, by rw [← hlen3]; simp only [yd, y8], fun e he => ?_, oM, zzA hc1 hj hvj hcc3⟩, oM⟩
          ·repeat (first | exact fun q hq => hw3 q oM | refine WfA.cons (n := n3 + 1 + 1 + 1) ?_ oM oM)
          ·rw [xi, if_neg oM, xi, if_pos rfl, vN]; simp only [vU, jQ, vc, xo, y9, zmy, zmw]
          ·have h3' := h3 (by simp); simp only at h3'; rw [xi, if_neg oM, xi, if_neg oM, xi, if_neg oM, xi, if_neg h3', xi, if_neg oM, xi, if_neg oM, xi, if_neg oM]
          ·rw [xi, if_neg oM, xi, if_neg oM, xi, if_neg oM, xi, if_neg oM, xi, if_neg oM, xi, if_neg oM, xi, if_neg oM]; exact hfr3 q hq
          ·rcases List.mem_append.1 he with he | he
           ·exact hdp3 e (by simp [he])
           ·rcases List.mem_cons.1 he with rfl | he
            ·rfl
            ·exact hdp3 e (by simp [he])
        ·have hjC' : j = C := oM; subst hjC'; have hccE := zpZ hlen3 hcc3; refine xB ?_; refine xB ?_; refine xB ?_; refine ⟨(r + 1, rows ++ [vals]), ⟨_, _, _, _, cols3, rfl, rfl, ?_, sV, by simp (disch := first | exact dis | fail) only [go_sem, seval, -rO, -rN, *, zI], hw3, hcol3, hfr3, hccE, hdp3, by simp only; omega, by simp only [yd, y8, y7]; omega, ?_⟩, by simp only; omega⟩
         ·have hT4 := hT3.2.2.2.2
          repeat (first | exact hT4 | refine wF ?_ rfl)
         ·simp only [hrm2]; cases kc (wu ls) (.mk dk dn dt ds dp) (((data.drop k).take c).drop (r + 1)) with
          | none => rfl
          | some ws => simp only [zX, zmI, y9, zmy]
       ·simp only [zvu, YD, TG, ZD]; refine ⟨?_, ?_, ?_, ?_, ?_, ?_, ?_, ?_, ?_, ?_, ?_, ?_, ?_, ?_, ?_, trivial⟩ <;> simp (disch := first | exact dis | fail) only [go_sem, seval, -rO, -rN, *]
     ·have hrc' : r = c := oM; subst hrc'; have hlr : ((data.drop k).take r).length ≤ r := by rw [zmW]; omega
      rw [zmz hlr] at hrm2; simp only [kc, zX, zmw] at hrm2; rw [hrm2] at hrm; simp only at hrm; have hlenC : cols.length = C := by rw [← zmM (f := Col.ms), hcc, XH]
      clear hrm2 hsame hml hv0; refine xB ?_; refine xJ (xw ?_); refine xQ ?_; refine wS (fun j : Nat => C - j) (fun j fr s => ∃ T L' n' m' cols, fr = ⟨tmL T, []⟩ ∧ s = KL L' n' m' false [] none ∧ TG T (zvv n0 ps data (.ofNat i) mo i id out.length n C r k vs1) ∧ (tmL T).get 107 = some (.int .i64 (.ofNat j)) ∧ WfA L' n' ∧ ColsAt L' (n + 1) n' cols ∧ (∀ j, j < n + 1 → xx L' j = xx Lb j) ∧ cols.length = C ∧ cols.map (·.ms) = jk C rows ∧ j ≤ C ∧ (∀ q, q < C → (cols[q]?).map (·.dp) = if q < j then (vs1[q]?).map (·.dp) else some 0)) (fun j fr s hI => ?_) 0 ⟨_, _, _, _, cols, rfl, rfl, ?_, sV, hw2, hcol, hfr2, hlenC, hcc, zL _, fun q hq => ?_⟩
      ·obtain ⟨T3, L3, n3, m3, cols3, rfl, rfl, hT3, t107, hw3, hcol3, hfr3, hlen3, hcc3, hjC, hdp3⟩ := hI; have hT3' := hT3; simp only [zvv, YD, TG, ZD] at hT3'; obtain ⟨w105, w106, w11, w30, w8, w13, w16, w63, w4, w3, w2, w10, w28, w29, _⟩ := hT3'; clear hcc hcol hdp hw2 hfr2 hv1 hpre hT2 t64 t11 u30 u8 u13 u16 u63 u4 u3 u2 u10 u28 u29 h4 h3 h2 h10 h28 h29 h30 h11 h8 hgn hg0'; by_cases hj : j < C
       ·obtain ⟨v, hdv⟩ : ∃ v, vs1.drop j = v :: vs1.drop (j + 1) := ⟨_, zmL oM⟩; have hx6 := lM vz hdv false; rw [hv1l] at hx6; have hvj : (vs1[j]?).map (·.dp) = some v.dp := by
         have := congrArg (fun l => l[0]?) hdv; simp only [List.getElem?_drop, yB, yJ] at this; rw [this]; rfl
        obtain ⟨c1, cc, c2, rfl, hc1⟩ := H8 (l := cols3) (j := j) oM; have hpas := fun q => @LG c1 c2 cc j q hc1; have hrow := hcol3.row; have hlt3 := hcol3.lt; obtain ⟨vt, vn, vdp⟩ := v; simp only [wd, y9, zmy] at hx6; refine xw ?_; refine xw ?_; refine xJ (xQ (xw ?_)); refine xB ?_; refine xB ?_; refine ⟨j + 1, ⟨_, _, _, _, c1 ++ ⟨vdp, cc.id, cc.ms⟩ :: c2, rfl, rfl, (by repeat (first | exact hT3 | refine wF ?_ rfl)), sV, ?_, hcol3.setD (zmO n3) (by rw [xi, if_pos rfl]) (fun q h1 h2 => ?_), fun q hq => ?_, by rw [← hlen3]; simp only [yd, y8], by rw [← hcc3]; simp only [List.map_append, zA], oM, zrb hc1 hvj hdp3⟩, oM⟩
        ·repeat (first | exact fun q hq => hw3 q oM | refine WfA.cons (n := n3 + 1) ?_ oM oM)
        ·rw [xi, if_neg oM, xi, if_neg oM, xi, if_neg oM]
        ·rw [xi, if_neg oM, xi, if_neg oM, xi, if_neg oM]; exact hfr3 q hq
       ·have hjC' : j = C := oM; subst hjC'; have hce := zvU hlen3 hv1l hcc3 hdp3; have hz := zzO hcol3 (q := id) (by have := hro.lt; omega) (cs := cols3) fun _ h => h
        rw [hce] at hz; have hlv : (jl vs1 rows 0).length = j := by rw [XI]; exact hv1l
        have hrow3 := hcol3.row; have hus : (xz qD cols3).length = (jl vs1 rows 0).length * 7 := by rw [qb kH, hlen3, hlv]
        refine xB ?_; refine uy ?_; refine wL (zzv (lo := n0 + 1) (id := id) (vs := out) (ws := jl vs1 rows 0) (us2 := xz qD cols3) (hro.ext hw (by have := hcol3.lt; omega) (fun q _ hq => by rw [hfr3 q oM, hfb q hq]) (fun q hq => by rw [hfr3 q oM, hfb q hq])) hw3 (by have := hcol3.lt; omega) (by rw [hlv]; rfl) (fun _ => ?_) hus (kP GD _) hz (by rw [hlv]; omega) false rfl) fun v t hv => ?_
        ·rw [hlv]; exact (Yl (j := 0) (by rw [qc]; exact hrow3) (by rw [qb kH, hlen3])).2
        obtain ⟨id', L', n', m', rfl, rfl, hro', hw', hn', hfr', _⟩ := hv; refine xB ?_; refine xB ?_; refine ⟨(i + 1, k + r, out ++ jl vs1 rows 0), ⟨_, _, _, _, id', rfl, rfl, ?_, sV, sV, sV, hw', hro', fun q hq => ?_, ?_, by simp only; omega, by simp only; omega, ?_, ?_⟩, by simp only; omega⟩
        ·have hT4 := hT3.2.2.2.2.2.2.2.2
         repeat (first | exact hT4 | refine wF ?_ rfl)
        ·rw [hfr' q oM, hfr3 q oM, hfb q oM]; exact hfr q hq
        ·rw [hfr' n0 oM, hfr3 n0 oM, hfb n0 hn0]; exact hg0
        ·simp only [yd]; omega
        ·simp only [hrm, zZ]; cases jZ (wu ls) ls (.ofNat i) r (i + 1) (zm9 (i + 1) ps) (zm9 (k + r) data) with
         | none => rfl
         | some ws => simp only [zX, zmI]
      ·simp only [zvv, YD, TG, ZD]; refine ⟨?_, ?_, ?_, ?_, ?_, ?_, ?_, ?_, ?_, ?_, ?_, ?_, ?_, ?_, trivial⟩ <;> simp (disch := first | exact dis | fail) only [go_sem, seval, -rO, -rN, *]
      ·rw [if_neg oM, yl oM]; simp only [zX, hdp _ (List.getElem_mem _)]
    ·simp only [YD, TG, ZD]; refine ⟨?_, ?_, ?_, ?_, ?_, ?_, ?_, ?_, ?_, ?_, ?_, trivial⟩ <;> simp (disch := first | exact dis | fail) only [go_sem, seval, -rO, -rN, *]
    ·exact List.pairwise_replicate.2 (.inr fun h => absurd rfl h)
    ·simp only [List.map_replicate, jk, List.filterMap_nil]; rw [List.map_const', List.length_range]
 ·simp only [TG, ZD]; refine ⟨?_, ?_, ?_, ?_, ?_, ?_, trivial⟩ <;> simp (disch := first | exact dis | fail) only [go_sem, seval, -rO, -rN]
 ·intro j hj; rw [xi, if_neg oM]; exact hw0 j oM
 ·have h3 := hp.le; have h4 := hp.cc
  simp only [Xf, yy]; rcases hp.at_ with ⟨rfl, h5⟩ | ⟨q, rfl, hq⟩
  ·rw [if_pos (Hs _ _)]; omega
  ·rw [lN, if_neg (by simp)]; omega
end
theorem YS {ls : wa} {p : DT} (h5 : eqD (xE p) (.ofNat 5) = false) : vm ls p = false := by simp only [vm, wl, h5, Bool.false_and]
theorem PG {ls : wa} {p f : DT} (hmay : wI p = true) (h : lq ls p = true) : wu ls p f = some [.mk 0 f []] := by
 rw [ug hmay]; exact if_pos h
theorem PD {ls : wa} {p f : DT} (hmay : wI p = true) (h : lq ls p = false) (h2 : vm ls p = true) : wu ls p f = none := by
 rw [ug hmay]; unfold uB; rw [if_neg (by rw [h]; simp), if_pos h2]
theorem PE {ls : wa} {p f : DT} (hmay : wI p = true) (h : lq ls p = false) (h2 : vm ls p = false) (h5 : eqD (xE p) (.ofNat 5) = true) (hl : jC ls (x9 p) = true) : wu ls p f = if (eqD (xE f) (.ofNat 5) && eqS (x9 f) (x9 p)) = true then some [] else none := by
 rw [ug hmay]; unfold uB; rw [if_neg (by rw [h]; simp), if_neg (by rw [h2]; simp), if_pos (by rw [h5, hl]; rfl)]
theorem PF {ls : wa} {p f : DT} (hmay : wI p = true) (h : lq ls p = false) (h2 : vm ls p = false) (h5 : eqD (xE p) (.ofNat 5) = true) (hl : jC ls (x9 p) = false) : wu ls p f = some [] := by
 rw [ug hmay]; unfold uB; rw [if_neg (by rw [h]; simp), if_neg (by rw [h2]; simp), if_neg (by rw [hl]; simp), if_pos h5]
theorem Hw {ls : wa} {p f : DT} (hmay : wI p = true) (h5 : eqD (xE p) (.ofNat 5) = false) (hm : wE p = false) : wu ls p f = if ud p f = true then some [] else none := by
 rw [ug hmay]; unfold uB; rw [if_neg (by rw [Un h5]; simp), if_neg (by rw [YS h5]; simp), if_neg (by rw [h5]; simp), if_neg (by rw [h5]; simp), if_pos hm]
theorem kU {p : DT} (hm : wE p = true) : eqD (xE p) (.ofNat 5) = false := by
 cases h5 : eqD (xE p) (.ofNat 5) with
 | false => rfl
 | true =>
  have h := of_decide_eq_true (p := xE p = .ofNat 5) h5; rw [wE, h] at hm; cases hm
theorem PH {ls : wa} {p f : DT} (hmay : wI p = true) (hm : wE p = true) (h7 : eqD (xE p) (.ofNat 7) = true) (hf : eqD (xE f) (.ofNat 7) = false) : wu ls p f = none := by
 rw [ug hmay]; unfold uB; rw [if_neg (by rw [Un (kU hm)]; simp), if_neg (by rw [YS (kU hm)]; simp), if_neg (by rw [kU hm]; simp), if_neg (by rw [kU hm]; simp), if_neg (by rw [hm]; simp), if_pos (by rw [h7, hf]; rfl)]
theorem WF {ls : wa} {p f : DT} (hmay : wI p = true) (hm : wE p = true) (hf : (eqD (xE p) (.ofNat 7) && !eqD (xE f) (.ofNat 7)) = false) : wu ls p f = kV (wu ls) ls p f := by
 rw [ug hmay]; unfold uB; rw [if_neg (by rw [Un (kU hm)]; simp), if_neg (by rw [YS (kU hm)]; simp), if_neg (by rw [kU hm]; simp), if_neg (by rw [kU hm]; simp), if_neg (by rw [hm]; simp), if_neg (by rw [hf]; simp)]
theorem K7 : ∀ (l : List wy) (i : Nat) (a : Int), (a = .negSucc 0 ∨ ∃ q, a = .ofNat q ∧ q < i) → ((lS l i a).1 = .negSucc 0 ∨ ∃ q, (lS l i a).1 = .ofNat q ∧ q < i + l.length)
 | [], i, a, h => by simpa [lS] using h
 | p :: r, i, a, h => by
  simp only [lS]; split
  ·rcases K7 r (i + 1) a (h.imp id fun ⟨q, e, hq⟩ => ⟨q, e, oM⟩) with h | ⟨q, e, hq⟩
   ·exact .inl h
   ·exact .inr ⟨q, e, by simp only [y8]; omega⟩
  ·split
   ·exact .inl rfl
   ·rcases K7 r (i + 1) (.ofNat i) (.inr ⟨i, rfl, yx _⟩) with h | ⟨q, e, hq⟩
    ·exact .inl h
    ·exact .inr ⟨q, e, by simp only [y8]; omega⟩
def zyD (v : AV) (s : St) (vs : List VT) : Prop := Cv (lQ (KL [] 0 0 true [] none) (some (.tup [v, .bool true], s))) fun v0 s1 => Fz s1 v0 (mtO (some vs))
theorem zqF {t : St} (h : lH s.next v = none) : lQ s (some (v, t)) = some (agW v, { t with wm := Nat.lor s.wm t.wm, md := s.md }) := by
 unfold lQ; simp only [h, zmR]
theorem zyu {t : St} {u : AV} (hn : s.next = 0) (h : lH s.next v = some u) : lQ s (some (v, t)) = some (u, s) := by
 unfold lQ; have : Nat.beq (wq t.wm s.next) 0 = true := by
  rw [hn, VS]; simp only [Nat.pow_zero, Nat.mod_one]; rfl
 simp only [this, cond_true, h]
theorem KH {L : List (Nat × Option AObj)} {n m id : Nat} {vs : List VT} (h : vs ≠ [] → ∃ us, xx L id = some (.row vty us true false) ∧ us.length = vs.length * 7 ∧ FzL (KL L n m true [] none) us (xI vs)) : zyD (jY id vs.length) (KL L n m true [] none) vs := by
 unfold zyD; cases vs with
 | nil =>
  refine ⟨_, _, zyu rfl (u := .tup [.nils, .bool true]) rfl, ?_⟩; exact wQ (xv qd (xv (xM _ _) xZ))
 | cons v vs =>
  obtain ⟨us, h1, h2, h3⟩ := h (by simp)
  refine ⟨.tup [.sl id 0 (vs.length + 1) (.opn 7), .bool true], KL L n (Nat.lor 0 m) true [] none, ?_, ?_⟩
  ·have : lH 0 (.tup [jY id (v :: vs).length, .bool true]) = none := by
    show (match pg 0 [.sl id 0 (vs.length + 1) (.opn 7), .bool true] with | some l => some (AV.tup l) | none => none) = none
    have hb : Nat.blt id 0 = false := by
     cases h : Nat.blt id 0 with
     | false => rfl
     | true => have := wb.1 h; omega
    simp only [pg, Y4, lG, hb, cond_false]
   exact zqF (s := KL [] 0 0 true [] none) this
  ·refine wQ (xv ?_ (xv (xM _ _) xZ)); exact Pq (by rw [qc]; exact h1) trivial (FzL.mono (fun j o ho => by rw [qc] at ho ⊢; exact ho) h3) (uH _)
theorem RowAt.fz {L : List (Nat × Option AObj)} {lo : Nat} {vs : List VT} (h : RowAt L lo n id vs) (n' m : Nat) (b : Bool) : vs ≠ [] → ∃ us, xx L id = some (.row vty us true false) ∧ us.length = vs.length * 7 ∧ FzL (KL L n' m b [] none) us (xI vs) := fun hne => by
 obtain ⟨_, us, g1, g2, _, g4⟩ := h.row hne; refine ⟨us, g1, g2, FzL.mono (fun j o ho => ?_) g4⟩; rw [XB, xi] at ho; rw [qc]; split at ho
 ·cases ho
 ·exact ho
theorem zsT {L : List (Nat × Option AObj)} {m lo : Nat} {vs ws : List VT} (hr : RowAt L lo n id vs) (hw : WfA L n) (hlo : lo ≤ n) (hb : vs.length + ws.length < 1000000000) :
  Cv (jg (KL L n m true [] none) vty 7 96 (jY id vs.length) (.lst ws.length false (xI ws))) fun v s => ∃ L' n' m', s = KL L' n' m' true [] none ∧ zyD v (KL L' n' m' true [] none) (vs ++ ws) := by
 cases ws with
 | nil =>
  refine ⟨jY id vs.length, KL L n m true [] none, ?_, L, n, m, rfl, by rw [zmw]; exact KH (hr.fz n m true)⟩
  cases vs <;> rfl
 | cons w ws =>
  have h2 : w6 (KL L n m true [] none) 7 (ws.length + 1) (.lst (w :: ws).length false (xI (w :: ws))) = some (xI (w :: ws)) := by
   simp only [w6]; rw [show zb (ws.length + 1) 7 = (xI (w :: ws)).length from (q9 (w :: ws)).symm]; exact uh rfl
  simp only [y8] at hb; cases vs with
  | nil =>
   obtain ⟨v, s, e, id', L', n', m', rfl, rfl, hok, _⟩ := J3 (f := qY) (t := vty) (esz := 7) (bytes := 96) ju Wn Wo oM (L := L) (n := n) (m := m) (id := 0) (vs := []) (ws := w :: ws) (e := false) (fun h => absurd rfl h) (by simp only [y8, y7] at hb ⊢; omega) (by simp only [y8, y7] at hb ⊢; omega)
   rw [← qo] at e; refine ⟨_, _, e, L', n', m', rfl, ?_⟩; unfold zyD; refine ⟨.tup [.lst (w :: ws).length false (xI (w :: ws)), .bool true], KL [] 0 0 true [] none, ?_, ?_⟩
   ·have : lH 0 (.tup [QA qY 7 id' ([] ++ w :: ws), .bool true]) = some (.tup [.lst (w :: ws).length false (xI (w :: ws)), .bool true]) := by
     show (match pg 0 [.gr id' 7 (w :: ws).length (xz qY (w :: ws)), .bool true] with | some l => some (AV.tup l) | none => none) = _
     simp only [pg, Y4, lG, show Nat.ble 0 id' = true from xN.2 (zL _), cond_true, x0, qo]
    exact zyu rfl this
   ·exact wQ (xv (lI (uH _) (kG _)) (xv (xM _ _) xZ))
  | cons u us =>
   obtain ⟨hlo2, us1, g1, g2, g3, g4⟩ := hr.row (by simp)
   have hid := hr.lt; simp only [y8] at hb g2; have e := UO (b := true) (t := vty) (esz := 7) (bytes := 96) (hd := []) (on := none) (m := m) (n := n) (k := us.length + 1) (q := ws.length) (y := .lst (w :: ws).length false (xI (w :: ws))) (by rw [qc]; exact g1) g2 rfl h2 (YG _) oM oM oM
   refine ⟨_, _, e, _, _, _, rfl, ?_⟩; have hf := @KH ((n, some (.row vty (us1 ++ xI (w :: ws)) true false)) :: (id, none) :: L) (n + 1) (jW m id) n ((u :: us) ++ (w :: ws)) fun _ => ⟨us1 ++ xI (w :: ws), by rw [xi, if_pos rfl], by rw [yd, g2, q9]; simp only [y9, y8, yd]; omega, ?_⟩
   ·simp only [y9, y8, yd, jY] at hf; rw [show us.length + 1 + (ws.length + 1) = us.length + (ws.length + 1) + 1 by omega]
    exact hf
   ·have hmono : ∀ j o, (KS ((id, none) :: L)).get j = some o → (KL ((n, some (.row vty (us1 ++ xI (w :: ws)) true false)) :: (id, none) :: L) (n + 1) (jW m id) true [] none).get j = some o := fun j o h => by
     rw [XB] at h; rw [qc]; have hh := h; rw [xi] at hh; split at hh
     ·cases hh
     ·have hj : j < n := Nat.lt_of_not_le fun hle => by rw [hw j hle] at hh; cases hh
      rw [xi, if_neg oM]; exact h
    rw [vN]; exact (FzL.mono hmono g4).append (Pp _ _)
theorem zoS {l : List DT} {k : Nat} (h : k ≤ l.length) : UK 5 (.lst l.length false (xC l)) none (some (.int .i64 (.ofNat k))) none = some (.lst k false (xC (l.take k))) := by
 simp only [UK, zzo, bnd, show Nat.ble k l.length = true from xN.2 h, cond_true, zmA]; have h1 : tkN (zb (Nat.sub k 0) 5) (wP (zb 0 5) (xC l)) = xC (l.take k) := by
  rw [show zb 0 5 = 0 from rfl, show Nat.sub k 0 = k from rfl, vl, z4, qX, qX]; exact Vp wj k l
 rw [h1]; rfl
section
variable {E : Env} {O : Orc} {rd : Option Nat} {fr : Fr} {s : St} {Q : Res → Fr → St → Prop} {I : Fr → St → Prop} {ia ib ic id ik : ICode}
theorem Lt (h : ∀ f t, I f t → Ev (evC E (evW E O) rd ik f t) Q) : ∀ r f t, wo I Q r f t → wo (fun f t => Ev (evC E (evW E O) rd ik f t) Q) Q r f t := fun r f t q => by
 cases r with
 | norm => exact h f t q
 | exit i => exact q
 | ret => exact q
theorem Y3 (I : Fr → St → Prop) (h : Ev (evC E (evW E O) rd ia fr s) (wo I Q)) (h2 : ∀ f t, I f t → Ev (evC E (evW E O) rd ik f t) Q) : Ev (evC E (evW E O) rd (.seq ia ik) fr s) Q :=
 xJ (h.mono (Lt h2))
def sq : List ICode → ICode → ICode
 | [], k => k
 | a :: r, k => .seq a (sq r k)
theorem Vm (I : Fr → St → Prop) : ∀ (l : List ICode) {fr : Fr} {s : St}, Ev (evC E (evW E O) rd (sq l ia) fr s) (wo I Q) → (∀ f t, I f t → Ev (evC E (evW E O) rd ik f t) Q) → Ev (evC E (evW E O) rd (sq l (.seq ia ik)) fr s) Q
 | [], _, _, h, h2 => Y3 I h h2
 | a :: l, fr, s, h, h2 => by
  have h' : Ev (vS (evC E (evW E O) rd (sq l ia)) (evC E (evW E O) rd a fr s)) (wo I Q) := h; show Ev (vS (evC E (evW E O) rd (sq l (.seq ia ik))) (evC E (evW E O) rd a fr s)) Q; cases hx : evC E (evW E O) rd a fr s with
  | none => rw [hx] at h'; obtain ⟨_, _, _, e, _⟩ := h'; cases e
  | some x =>
   obtain ⟨r, f, t⟩ := x; rw [hx] at h'; cases r with
   | norm => exact Vm I l h' h2
   | exit i => obtain ⟨_, _, _, e, q⟩ := h'; cases e; exact ⟨_, _, _, rfl, q⟩
   | ret => obtain ⟨_, _, _, e, q⟩ := h'; cases e; exact ⟨_, _, _, rfl, q⟩
end
theorem lP : ∀ (k : Nat) (d : DT), xq (ul k d) ≤ xq d
 | 0, _ => zp _
 | k + 1, d => by
  refine zt (lP k _) ?_; have hk := wx d; have hp := xR d; generalize wi d = l at *
  match l with
  | [] => exact hp
  | [_] => exact hp
  | a :: b :: r =>
   have := qF (d := b) (l := a :: b :: r) (by simp)
   simp only [zm7, zm8]; omega
theorem HW {M : DT → DT → Option (List VT)} {ls : wa} {c c' : Nat} : ∀ {ps : List wy} {i : Nat} {l : List DT}, jZ M ls (.negSucc 0) c i ps l = jZ M ls (.negSucc 0) c' i ps l
 | [], i, l => rfl
 | p :: ps, i, l => by
  have h : eqD (.ofNat i) (.negSucc 0) = false := by
   unfold eqD; exact decide_eq_false (by intro h; cases h)
  unfold jZ; rw [if_pos h, if_pos h]; cases l with
  | nil => rfl
  | cons x r => simp only [@HW M ls c c' ps (i + 1) r]
theorem Hf {R : DT → DT → Option (List VT)} {ls : wa} {a : Int} {ps : List wy} {data : List DT} {e r r2 : DT} {c : Nat} : gS R ls true a ps data e r c = gS R ls true a ps data e r2 c := by
 unfold gS Uf; simp only [if_true]
theorem zte {R : DT → DT → Option (List VT)} {ls : wa} {v : Bool} {ps : List wy} {data : List DT} {e r : DT} {c c2 : Nat} : gS R ls v (.negSucc 0) ps data e r c = gS R ls v (.negSucc 0) ps data e r c2 := by
 unfold gS; rw [HW]
theorem Qq : WfA [] n := fun _ _ => rfl
def mtB (ps : List wy) (a : Int) : List (Nat × AV) := [(3, .ptr 0 0), (4, .ptr 1 0), (5, .ptr 2 0), (9, .ptr 3 0), (10, .lst ps.length false (xz xA ps)), (12, .int .i64 a), (15, .ptr 4 0)]
structure MtS (L : List (Nat × Option AObj)) (ls : wa) (p f e rest : DT) : Prop where
 g0 : xx L 0 = some (.row 46 [.lst ls.length false (vb ls)] false false)
 g1 : xx L 1 = some (xX p)
 g2 : xx L 2 = some (xX f)
 g3 : xx L 3 = some (xX e)
 g4 : xx L 4 = some (xX rest)
def zmd (ls : wa) (p f e : DT) (ps : List wy) (a : Int) (ok fine : Bool) (data : List DT) (rest : DT) (fr : Fr) (s : St) : Prop :=
 ∃ T L m, fr = ⟨tmL T, []⟩ ∧ s = KL L 5 m true [] none ∧ TG T (mtB ps a) ∧ (tmL T).get 11 = some (.bool ok) ∧ (tmL T).get 13 = some (.bool fine) ∧ (tmL T).get 14 = some (.lst data.length false (xC data)) ∧ WfA L 5 ∧ MtS L ls p f e rest
def zvn (N : Nat) (ls : wa) (p f e : DT) (ps : List wy) (a : Int) (v : Bool) (R : Option (List VT)) (fr : Fr) (s : St) : Prop :=
 ∃ T L m data rest c, fr = ⟨tmL T, []⟩ ∧ s = KL L 5 m true [] none ∧ TG T (mtB ps a) ∧ (tmL T).get 14 = some (.lst data.length false (xC data)) ∧ WfA L 5 ∧ MtS L ls p f e rest ∧ RowPre N ls ps data a c ∧ xq rest < 180000 ∧ gS (wu ls) ls v a ps data e rest c = R
theorem zqM {v : Bool} {f : DT} (h : xq f < 180000) : (∀ x ∈ v8 v f, xq x < 180000) ∧ (v8 v f).length < 180000 := by
 unfold v8; cases v with
 | true =>
  rw [if_pos rfl]; have h1 := wx f; have h2 := v3 (wi f); exact ⟨fun x hx => by have := qF hx; omega, oM⟩
 | false =>
  rw [if_neg (by simp)]
  have h1 := va f; have h2 := v3 (xL f).1; exact ⟨fun x hx => by have := qF hx; omega, oM⟩
section
variable {P : Program} {w0 : World} (B : Bx P w0) {O : Orc} (hO : OrcOk P w0 O)
include B hO
attribute [local go_sem] ZM jx qR wU xo xH xF wc wD vA vJ kS itR WJ P2 ltF gtF wz wg zmP zmQ zmU zmR ue in
theorem ztq {N M S : Nat} (h24 : O 24 = some zxR) (h25 : O 25 = some Qb) (h26 : O 26 = some zxQ) (h27 : O 27 = some kQ) (h28 : O 28 = some (Y6 S)) (h29 : O 29 = some Y5) (h30 : O 30 = some gPa) (h31 : O 31 = some zqb) (h32 : O 32 = some Uy) (h33 : O 33 = some gBh) (h34 : O 34 = none) (h13 : O 13 = some (gMt N)) (h14 : O 14 = some (gVs M)) (hNM : 180001 ≤ M) (hS : 180001 ≤ S) (ls : wa) (p f : DT) (hp : Gi (N + 1) (ls, p, f)) : ∃ s1, SC P w0 13 (ZM (ls, p, f)) (s00 0 true) (mtO (wu ls p f)) s1 := by
 refine be B hO f13 ?_; obtain ⟨hls, hN, hmay, hk, hfk⟩ := hp; simp only at hls hN hmay hk hfk; have hvr := fun s => oc h24 jw (ls, p) hls (Zm ls p) s; have hel := fun s => oc h25 jw (ls, p) hls (Zm ls p) s; have hli := fun s => oc h26 jw (ls, p) hls (Zm ls p) s; have hma := fun s => oc h27 wB p trivial (wT p) s; have hsa := fun s => X8 (f := 28) h28 (a := p) (b := f) oM s; generalize hres : wu ls p f = R; unfold f13; simp only [Ko, Kg, Kn, Kd, Ke, Kf, Ki]; cases hv : lq ls p with
 | true =>
  rw [PG hmay hv] at hres; rw [hv] at hvr; clear hel hli hma hsa; obtain ⟨pk, pn, pt, pks, pp⟩ := p; obtain ⟨fk, fn, ft, fks, fp⟩ := f; simp only [xo] at hvr; refine xw ?_; refine xw ?_; refine x7 ?_; rw [← hres]; refine wQ (xv (lI (uH _) ?_) (xv (xM _ _) xZ)); simp only [vU, jQ, vc, xo, wkL, wkV, vM, y7, zmw, y9, zmy]
 | false =>
  rw [hv] at hvr; cases he : vm ls p with
  | true =>
   rw [PD hmay hv he] at hres; rw [he] at hel; clear hli hma hsa; obtain ⟨pk, pn, pt, pks, pp⟩ := p; obtain ⟨fk, fn, ft, fks, fp⟩ := f; simp only [xo] at hvr hel; refine xw ?_; refine xw ?_; refine x7 ?_; rw [← hres]; exact wQ (xv qd (xv (xM _ _) xZ))
  | false =>
   rw [he] at hel; cases h5 : eqD (xE p) (.ofNat 5) with
   | true =>
    cases hl : jC ls (x9 p) with
    | true =>
     rw [PE hmay hv he h5 hl] at hres; rw [hl] at hli; clear hma hsa; obtain ⟨pk, pn, pt, pks, pp⟩ := p; obtain ⟨fk, fn, ft, fks, fp⟩ := f; simp only [xo] at hvr hel hli; simp only [xE] at h5; cases hf5 : eqD fk (.ofNat 5) with
     | false =>
      have hr : R = none := by rw [← hres]; simp only [xE, hf5, zmA, zB, if_false]
      refine xw ?_; refine xw ?_; refine x7 ?_; rw [hr]; exact wQ (xv qd (xv (xM _ _) xZ))
     | true =>
      by_cases hft : ft = pt
      ·subst hft; have hr : R = some [] := by rw [← hres]; simp only [xE, x9, hf5, kM, xb, if_true]
       refine xw ?_; refine xw ?_; refine x7 ?_; rw [hr]; exact wQ (xv qd (xv (xM _ _) xZ))
      ·have hft' : eqS ft pt = false := by
        cases h : eqS ft pt with
        | false => rfl
        | true => exact absurd (jM h) hft
       have hr : R = none := by rw [← hres]; simp only [xE, x9, hf5, hft', zmV, zB, if_false]
       refine xw ?_; refine xw ?_; refine x7 ?_; rw [hr]; exact wQ (xv qd (xv (xM _ _) xZ))
    | false =>
     rw [PF hmay hv he h5 hl] at hres; rw [hl] at hli; clear hma hsa; obtain ⟨pk, pn, pt, pks, pp⟩ := p; obtain ⟨fk, fn, ft, fks, fp⟩ := f; simp only [xo] at hvr hel hli; simp only [xE] at h5; refine xw ?_; refine xw ?_; refine x7 ?_; rw [← hres]; exact wQ (xv qd (xv (xM _ _) xZ))
   | false =>
    cases hm : wE p with
    | false =>
     rw [Hw hmay h5 hm] at hres; rw [hm] at hma; clear hli; obtain ⟨pk, pn, pt, pks, pp⟩ := p; obtain ⟨fk, fn, ft, fks, fp⟩ := f; simp only [xo] at hvr hel hma hsa; simp only [xE] at h5; refine xw ?_; refine xw ?_; refine x7 ?_; rw [← hres]; cases hs : ud (.mk pk pn pt pks pp) (.mk fk fn ft fks fp) with
     | true => exact wQ (xv qd (xv (xM _ _) xZ))
     | false => exact wQ (xv qd (xv (xM _ _) xZ))
    | true =>
     rw [hm] at hma; clear hli hsa; cases hvf : (eqD (xE p) (.ofNat 7) && !eqD (xE f) (.ofNat 7)) with
     | true =>
      simp only [zl, zm2] at hvf; rw [PH hmay hm hvf.1 hvf.2] at hres; obtain ⟨hp7, hf7⟩ := hvf; obtain ⟨pk, pn, pt, pks, pp⟩ := p; obtain ⟨fk, fn, ft, fks, fp⟩ := f; simp only [xo] at hvr hel hma; simp only [xE] at h5 hp7 hf7; refine xw ?_; refine xw ?_; refine x7 ?_; rw [← hres]; exact wQ (xv qd (xv (xM _ _) xZ))
     | false =>
      rw [WF hmay hm hvf] at hres; have hfull : ∀ vs, R = some vs → vs.length ≤ 180000 := fun vs h => by
       rw [← hres, ← WF hmay hm hvf] at h; rw [lg _ p f vs (yx _) hmay h]; exact zt (kD _ p 0 (yx _) (.inl hmay)) hk
      have hvl := kD (ls := ls) _ p 0 (yx _) (.inl hmay); rw [l5 hmay hv hm, yd] at hvl; have hil := lK p; have hitl := lL p; have hin := fun s => oc h29 wB p oM (wT p) s; have hpl := u6 (e := vm ls) (xr p).1 [] true; simp only [y7, yy] at hpl; have hpa := fun s => oc h30 U4 ((xr p).1, some ls) ⟨by simp only; omega, fun l h => by cases h; exact hls⟩ (args := [.lst (xr p).1.length false (xC (xr p).1), .fn 25 [.agg [.lst ls.length false (vb ls)]] []]) (by simp only [l9, XM, jx, qR, wkL, wkV, vM]) s
      simp only [WJ, YR, vA] at hpa; have hitem := v4 (e := vm ls) hmay hm; have hat := K7 (xS (vm ls) (xr p).1 [] true).1 0 (-1) (.inl rfl); have hend := kW hmay hm; have hrp := fun s => oc h31 zxq (xS (vm ls) (xr p).1 [] true).1 oM (args := [.lst (xS (vm ls) (xr p).1 [] true).1.length false (xz xA (xS (vm ls) (xr p).1 [] true).1)]) (by simp only [YW, vA, wkL, wkV, hU Ka]) s
      simp only [P2] at hrp; have hfl := lL f; have hit := fun s => VC h32 (d := f) oM s; simp only [itR] at hit; have hdl := zqM (v := eqD (xE p) (.ofNat 7)) hfk; have hbn := fun k => lP k f; have hin2 := va f; unfold kV at hres; simp only [kS] at hin; generalize xS (vm ls) (xr p).1 [] true = PP at *; obtain ⟨ps, ok⟩ := PP; simp only at hpa hrp hitem hat hres hvl hpl; generalize lS ps 0 (-1) = A at *; obtain ⟨a, fine⟩ := A; simp only at hrp hat hres; generalize xr p = II at *; obtain ⟨l, e⟩ := II; simp only at hpa hin hil hpl hend hres; generalize hv7 : eqD (xE p) (.ofNat 7) = v at *; refine Vm (zmd ls p f e ps a ok fine (v8 v f) (if v = true then f else (xL f).2)) [_, _, _, _, _, _, _] ?_ fun fr s hI => ?_
      ·simp only [sq]; clear hres hfull hvl hend hdl hbn hin2 hat hitem; obtain ⟨pk, pn, pt, pks, pp⟩ := p; obtain ⟨fk, fn, ft, fks, fp⟩ := f; obtain ⟨ek, en, et, eks, ep⟩ := e; simp only [xE] at hv7 h5 hvf; simp only [xo] at hvr hel hma hin hit; cases v with
       | true =>
        have hf7 : eqD fk (.ofNat 7) = true := by
         cases h : eqD fk (.ofNat 7) with
         | true => rfl
         | false => rw [h] at hvf; cases hvf
        clear hit hvf; refine xw ?_; refine xw ?_; refine xw ?_; refine xw ?_; refine xw ?_; refine xw ?_; refine xw ?_; refine xB ?_; refine ⟨_, _, _, rfl, rfl, by simp (disch := first | exact dis | fail) only [go_sem, seval, -rO, -rN, TG, mtB], sW, sW, by simp (disch := first | exact dis | fail) only [go_sem, seval, -rO, -rN, v8, wi], Qq |> fun h => by (repeat (refine WfA.cons (n := 5) ?_ oM (zp _))); exact h, sW, by simp (disch := first | exact dis | fail) only [go_sem, seval, -rO, -rN, xX], by simp (disch := first | exact dis | fail) only [go_sem, seval, -rO, -rN, xX], by simp (disch := first | exact dis | fail) only [go_sem, seval, -rO, -rN, xX], by simp (disch := first | exact dis | fail) only [go_sem, seval, -rO, -rN, xX]⟩
       | false =>
        generalize hFI : xL (.mk fk fn ft fks fp) = FI at hit hfl; obtain ⟨data, rest⟩ := FI; obtain ⟨rk, rn, rt, rks, rp⟩ := rest; simp only [xo] at hit; clear hvf; refine xw ?_; refine xw ?_; refine xw ?_; refine xw ?_; refine xw ?_; refine xw ?_; refine xw ?_; refine xB ?_; refine ⟨_, _, _, rfl, rfl, by simp (disch := first | exact dis | fail) only [go_sem, seval, -rO, -rN, TG, mtB], sW, sW, by simp (disch := first | exact dis | fail) only [go_sem, seval, -rO, -rN, v8, zB, *], Qq |> fun h => by (repeat (refine WfA.cons (n := 5) ?_ oM (zp _))); exact h, sW, by simp (disch := first | exact dis | fail) only [go_sem, seval, -rO, -rN, xX], by simp (disch := first | exact dis | fail) only [go_sem, seval, -rO, -rN, xX], by simp (disch := first | exact dis | fail) only [go_sem, seval, -rO, -rN, xX], by simp (disch := first | exact dis | fail) only [go_sem, seval, -rO, -rN, xX, zB, *]⟩
      ·obtain ⟨T, L, m, rfl, rfl, hT, t11, t13, t14, hw, hg⟩ := hI; obtain ⟨hd1, hd2⟩ := hdl; have hrest : xq (if v = true then f else (xL f).2) < 180000 := by split <;> omega
       have h6 : eqD (xE p) (.ofNat 6) = !v := by
        cases v with
        | true =>
         have := of_decide_eq_true (p := xE p = .ofNat 7) hv7; rw [this]; rfl
        | false => unfold wE at hm; rw [hv7, Bool.or_false] at hm; exact hm
       refine Vm (zvn N ls p f e ps a v R) [_, _, _] ?_ fun fr s hI => ?_
       ·simp only [sq]; have hpl2 : ps.length < 180001 := oM; have hbad : ZN ok fine v a (v8 v f).length (j7 a ps.length) = false → none = R := fun h => by rw [← hres]; unfold Ye; rw [if_pos h]
        have hok2 : ZN ok fine v a (v8 v f).length (j7 a ps.length) = true → (if (!v && ltD a (.ofNat 0)) = true then gS (wu ls) ls v a ps ((v8 v f).take (j7 a ps.length)) e (ul (j7 a ps.length) f) ((v8 v f).length + 1 - ps.length) else gS (wu ls) ls v a ps (v8 v f) e (xL f).2 ((v8 v f).length + 1 - ps.length)) = R := fun h => by
         rw [← hres]; unfold Ye; exact (if_neg (fun hh => by have := h.symm.trans hh; cases this)).symm
        have hpre : ∀ data : List DT, (∀ x ∈ data, xq x < 180000) → data.length < 180000 → ps.length ≤ data.length + 1 → ((a = .negSucc 0 ∧ data.length = ps.length) ∨ ∃ q, a = .ofNat q ∧ q < ps.length) → RowPre N ls ps data a (data.length + 1 - ps.length) := fun data x1 x2 x3 x4 =>
         ⟨hls, fun r hr => by have := hitem r hr; exact ⟨this.1, oM, oM⟩, x1, oM, oM, rfl, x3, x4, oM⟩
        have hbh := fun (k : Nat) (hk : k ≤ (xL f).1.length) s => oc h33 zxj (f, k) ⟨hk, by simp only; omega⟩ (zv6 f k) s
        have hbn2 : xq (ul (j7 a ps.length) f) < 180000 := by have := hbn (j7 a ps.length); omega
        have hdv : v = false → v8 v f = (xL f).1 := fun h => by subst h; rfl
        have hrv : v = false → (if v = true then f else (xL f).2) = (xL f).2 := fun h => by subst h; rfl
        generalize v8 v f = data at *; generalize (if v = true then f else (xL f).2) = rest at *; have hT' := hT; simp only [TG, mtB] at hT'; obtain ⟨t3, t4, t5, t9, t10, t12, t15, _⟩ := hT'; have hg' := hg; obtain ⟨g0, g1, g2, g3, g4⟩ := hg'; clear hres hvl hin hil hitl hpl hpa hitem hend hrp hfl hit hbn hin2 hfull hvf hvr hel hma hk hN hmay hm; rcases hat with ha | ⟨q, ha, hq⟩
        ·subst ha; rw [show j7 (.negSucc 0) ps.length = ps.length from if_pos rfl] at hbad hok2 hbn2; cases ok with
         | false =>
          have hr := hbad rfl; clear hbad hok2 hpre hbh hdv hrv hd1 hd2 hg hT hbn2 hrest; obtain ⟨pk, pn, pt, pks, pp⟩ := p; obtain ⟨fk, fn, ft, fks, fp⟩ := f; simp only [xX, xo] at g1 g2; simp only [xE] at hv7 h6; refine xw ?_; refine xw ?_; refine xw ?_; refine x7 ?_; rw [← hr]; exact wQ (xv qd (xv (xM _ _) xZ))
         | true =>
          cases fine with
          | false =>
           have hr := hbad rfl; clear hbad hok2 hpre hbh hdv hrv hd1 hd2 hg hT hbn2 hrest; obtain ⟨pk, pn, pt, pks, pp⟩ := p; obtain ⟨fk, fn, ft, fks, fp⟩ := f; simp only [xX, xo] at g1 g2; simp only [xE] at hv7 h6; refine xw ?_; refine xw ?_; refine xw ?_; refine x7 ?_; rw [← hr]; exact wQ (xv qd (xv (xM _ _) xZ))
          | true =>
           by_cases hlt : data.length < ps.length
           ·have hgt : ¬ ps.length < data.length := oM; have hr := hbad (by simp only [ZN, hlt, decide_true, zm6, zmA, zmV])
            clear hbad hok2 hpre hbh hdv hrv hd1 hd2 hg hT hbn2 hrest; obtain ⟨pk, pn, pt, pks, pp⟩ := p; obtain ⟨fk, fn, ft, fks, fp⟩ := f; simp only [xX, xo] at g1 g2; simp only [xE] at hv7 h6; refine xw ?_; refine xw ?_; refine xw ?_; refine x7 ?_; rw [← hr]; exact wQ (xv qd (xv (xM _ _) xZ))
           ·cases v with
            | true =>
             by_cases hgt : ps.length < data.length
             ·have hr := hbad (by simp only [ZN, hlt, hgt, decide_true, decide_false, show ltD (.negSucc 0) (.ofNat 0) = true from rfl, xb, zm6, zmY, zmV])
              clear hbad hok2 hpre hbh hdv hrv hd1 hd2 hg hT hbn2 hrest; obtain ⟨pk, pn, pt, pks, pp⟩ := p; obtain ⟨fk, fn, ft, fks, fp⟩ := f; simp only [xX, xo] at g1 g2; simp only [xE] at hv7 h6; refine xw ?_; refine xw ?_; refine xw ?_; refine x7 ?_; rw [← hr]; exact wQ (xv qd (xv (xM _ _) xZ))
             ·have hr := hok2 (by simp only [ZN, hlt, hgt, decide_false, zmV, zmY, xb])
              have hpr := hpre data hd1 hd2 oM (.inl ⟨rfl, oM⟩); clear hbad hok2 hpre hbh hdv hrv hd1 hd2 hbn2; generalize hpp : p = p0 at *; generalize hff : f = f0 at *; generalize hQ : zvn N ls p0 f0 e ps (.negSucc 0) true R = QQ; subst hpp; subst hff; obtain ⟨pk, pn, pt, pks, pp⟩ := p; obtain ⟨fk, fn, ft, fks, fp⟩ := f; simp only [xX, xo] at g1 g2; simp only [xE] at hv7 h6; refine xw ?_; refine xw ?_; refine xw ?_; refine xB ?_; subst hQ; exact ⟨_, _, _, data, rest, _, rfl, rfl, (by repeat (first | exact hT | refine wF ?_ rfl)), sV, hw, hg, hpr, hrest, by rw [← hr]; exact Hf⟩
            | false =>
             have hr := hok2 (by simp only [ZN, hlt, decide_false, zmA, zmY, xb])
             rw [if_pos (show (!false && ltD (.negSucc 0) (.ofNat 0)) = true from rfl)] at hr; have hdd := hdv rfl; have hbh2 := hbh ps.length (by rw [← hdd]; omega)
             have htl : (data.take ps.length).length = ps.length := by rw [zmW]; omega
             have hpr := hpre (data.take ps.length) (fun x hx => hd1 x (zmX hx)) (by rw [htl]; omega) (by rw [htl]; omega) (.inl ⟨rfl, htl⟩)
             have hsl := zoS (l := data) (k := ps.length) oM; clear hbad hok2 hpre hbh hdv hrv hd1 hd2 hdd; generalize ul ps.length f = bd at *; generalize hpp : p = p0 at *; generalize hff : f = f0 at *; generalize hbb : bd = b0 at *; generalize hQ : zvn N ls p0 f0 e ps (.negSucc 0) false R = QQ; subst hpp; subst hff; subst hbb; obtain ⟨pk, pn, pt, pks, pp⟩ := p; obtain ⟨fk, fn, ft, fks, fp⟩ := f; obtain ⟨bk, bn, bt, bks, bp⟩ := bd; obtain ⟨rk, rn, rt, rks, rp⟩ := rest; simp only [xX, xo] at g1 g2 g4; simp only [xE] at hv7 h6; simp only [wU, xo] at hbh2; refine xw ?_; refine xw ?_; refine xw ?_; refine xB ?_; subst hQ; refine ⟨_, _, _, data.take ps.length, .mk bk bn bt bks bp, _, rfl, rfl, (by repeat (first | exact hT | refine wF ?_ rfl)), by rw [htl]; simp (disch := first | exact dis | fail) only [go_sem, seval, -rO, -rN, *], WfA.cons hw oM (zp _), ⟨sV, by simp (disch := first | exact dis | fail) only [go_sem, seval, -rO, -rN, xX, *], by simp (disch := first | exact dis | fail) only [go_sem, seval, -rO, -rN, xX, *], by have := hg.g3; simp (disch := first | exact dis | fail) only [go_sem, seval, -rO, -rN, xX, *], by simp (disch := first | exact dis | fail) only [go_sem, seval, -rO, -rN, xX, *]⟩, hpr, hbn2, by rw [← hr]; exact zte⟩
        ·subst ha; rw [yy] at hq; have hl0 : ltD (.ofNat q) (.ofNat 0) = false := by rw [lN]; exact decide_eq_false (zms _)
         rw [show j7 (.ofNat q) ps.length = ps.length - 1 from if_neg (by rw [hl0]; simp)] at hbad hok2 hbn2
         have h1 : 1 ≤ ps.length := oM; cases ok with
         | false =>
          have hr := hbad rfl; clear hbad hok2 hpre hbh hdv hrv hd1 hd2 hg hT hbn2 hrest; obtain ⟨pk, pn, pt, pks, pp⟩ := p; obtain ⟨fk, fn, ft, fks, fp⟩ := f; simp only [xX, xo] at g1 g2; simp only [xE] at hv7 h6; refine xw ?_; refine xw ?_; refine xw ?_; refine x7 ?_; rw [← hr]; exact wQ (xv qd (xv (xM _ _) xZ))
         | true =>
          cases fine with
          | false =>
           have hr := hbad rfl; clear hbad hok2 hpre hbh hdv hrv hd1 hd2 hg hT hbn2 hrest; obtain ⟨pk, pn, pt, pks, pp⟩ := p; obtain ⟨fk, fn, ft, fks, fp⟩ := f; simp only [xX, xo] at g1 g2; simp only [xE] at hv7 h6; refine xw ?_; refine xw ?_; refine xw ?_; refine x7 ?_; rw [← hr]; exact wQ (xv qd (xv (xM _ _) xZ))
          | true =>
           by_cases hlt : data.length < ps.length - 1
           ·have hr := hbad (by simp only [ZN, hlt, decide_true, zm6, zmA, zmV])
            clear hbad hok2 hpre hbh hdv hrv hd1 hd2 hg hT hbn2 hrest; obtain ⟨pk, pn, pt, pks, pp⟩ := p; obtain ⟨fk, fn, ft, fks, fp⟩ := f; simp only [xX, xo] at g1 g2; simp only [xE] at hv7 h6; refine xw ?_; refine xw ?_; refine xw ?_; refine x7 ?_; rw [← hr]; exact wQ (xv qd (xv (xM _ _) xZ))
           ·have hr := hok2 (by simp only [ZN, hlt, hl0, decide_false, zmA, zmV, zmY, xb])
            rw [if_neg (by rw [hl0]; simp)] at hr
            have hpr := hpre data hd1 hd2 oM (.inr ⟨q, rfl, hq⟩); cases v with
            | true =>
             clear hbad hok2 hpre hbh hdv hrv hd1 hd2 hbn2; generalize hpp : p = p0 at *; generalize hff : f = f0 at *; generalize hQ : zvn N ls p0 f0 e ps (.ofNat q) true R = QQ; subst hpp; subst hff; obtain ⟨pk, pn, pt, pks, pp⟩ := p; obtain ⟨fk, fn, ft, fks, fp⟩ := f; simp only [xX, xo] at g1 g2; simp only [xE] at hv7 h6; refine xw ?_; refine xw ?_; refine xw ?_; refine xB ?_; subst hQ; exact ⟨_, _, _, data, rest, _, rfl, rfl, (by repeat (first | exact hT | refine wF ?_ rfl)), sV, hw, hg, hpr, hrest, by rw [← hr]; exact Hf⟩
            | false =>
             rw [← hrv rfl] at hr; clear hbad hok2 hpre hbh hdv hrv hd1 hd2 hbn2; generalize hpp : p = p0 at *; generalize hff : f = f0 at *; generalize hQ : zvn N ls p0 f0 e ps (.ofNat q) false R = QQ; subst hpp; subst hff; obtain ⟨pk, pn, pt, pks, pp⟩ := p; obtain ⟨fk, fn, ft, fks, fp⟩ := f; simp only [xX, xo] at g1 g2; simp only [xE] at hv7 h6; refine xw ?_; refine xw ?_; refine xw ?_; refine xB ?_; subst hQ; exact ⟨_, _, _, data, rest, _, rfl, rfl, (by repeat (first | exact hT | refine wF ?_ rfl)), sV, hw, hg, hpr, hrest, hr⟩
       ·obtain ⟨T, L, m, data, rest, c, rfl, rfl, hT, t14, hw, hg, hpr, hrest, hinn⟩ := hI; have hT' := hT; simp only [TG, mtB] at hT'; obtain ⟨t3, t4, t5, t9, t10, t12, t15, _⟩ := hT'; obtain ⟨g0, g1, g2, g3, g4⟩ := hg; have hmt : v = false → ∀ s, (evW env O).call 13 [.agg [.lst ls.length false (vb ls)], .agg (xu e), .agg (xu rest)] s = some (mtO (wu ls e rest), s) := fun h s => by
         have he := hend h; exact oc h13 XN (ls, e, rest) ⟨hls, by simp only; omega, he.1, by simp only; omega, hrest⟩ (Q6 ls e rest) s
        have hM : ∀ q ∈ ps, xq q.1 < M := fun q hq => by have := hpr.parts q hq; omega
        clear hres hvl hin hil hitl hpl hpa hitem hend hrp hfl hit hbn hin2 hvf hvr hel hma hk hN hmay hm hd1 hd2 hrest h6 g2 hat
        unfold gS Uf at hinn; obtain ⟨pk, pn, pt, pks, pp⟩ := p; obtain ⟨ek, en, et, eks, ep⟩ := e; obtain ⟨rk, rn, rt, rks, rp⟩ := rest; simp only [xX, xo] at g1 g3 g4; simp only [xo] at hmt; simp only [xE] at hv7 h5; refine xJ (uy ?_); refine wL (zoM h34 h13 h14 ls ps data a c hpr hM hw true) fun v0 t hv0 => ?_; obtain ⟨L2, n2, m2, rfl, hn2, hw2, hfr2, hres0⟩ := hv0; rw [← hfr2 0 oM] at g0; rw [← hfr2 1 oM] at g1; rw [← hfr2 3 oM] at g3; rw [← hfr2 4 oM] at g4; clear hfr2; cases hrow : jZ (wu ls) ls a c 0 ps data with
        | none =>
         rw [hrow] at hres0 hinn; simp only at hres0 hinn; subst hres0; clear hrow hpr hM hmt; refine xB ?_; refine xw ?_; refine x7 ?_; rw [← hinn]; exact wQ (xv qd (xv (xM _ _) xZ))
        | some out =>
         rw [hrow] at hres0 hinn; simp only at hres0 hinn; obtain ⟨ri, rfl, hro⟩ := hres0; clear hrow hpr hM; cases v with
         | true =>
          rw [if_pos rfl] at hinn; clear hmt; have hfin := @KH L2 n2 m2 ri out (hro.fz n2 m2 true); unfold zyD at hfin; generalize jY ri out.length = rw0 at *; clear hro; refine xB ?_; refine xw ?_; rw [← hinn]; refine zpy (congrArg (lQ _) ?_) hfin; simp (disch := first | exact dis | fail) only [go_sem, seval, -rO, -rN, *]
         | false =>
          rw [if_neg (by simp)] at hinn
          replace hmt := hmt rfl; cases hmr : wu ls (.mk ek en et eks ep) (.mk rk rn rt rks rp) with
          | none =>
           rw [hmr] at hmt hinn; simp only [mtO] at hmt; simp only at hinn; clear hro hmr; generalize jY ri out.length = rw0 at *; refine xB ?_; refine xw ?_; refine xw ?_; refine xw ?_; refine x7 ?_; rw [← hinn]; exact wQ (xv qd (xv (xM _ _) xZ))
          | some vs =>
           rw [hmr] at hmt hinn; simp only [mtO, vJ] at hmt; simp only at hinn; have hlen := hfull _ hinn.symm; rw [yd] at hlen; clear hmr hfull; generalize hrw : jY ri out.length = rw0 at *; refine xB ?_; refine xw ?_; refine xw ?_; refine xw ?_; refine xJ (uy ?_); rw [← hrw]; refine wL (zsT hro hw2 hn2 oM) fun v1 t hv1 => ?_; obtain ⟨L3, n3, m3, rfl, hfin⟩ := hv1; unfold zyD at hfin; refine xB ?_; refine xB ?_; rw [← hinn]; refine zpy (congrArg (lQ _) ?_) hfin; simp (disch := first | exact dis | fail) only [go_sem, seval, -rO, -rN, *]
end
theorem Jv {P : Program} {w0 : World} (B : Bx P w0) {O : Orc} (hO : OrcOk P w0 O) {M S : Nat} (h24 : O 24 = some zxR) (h25 : O 25 = some Qb) (h26 : O 26 = some zxQ) (h27 : O 27 = some kQ) (h28 : O 28 = some (Y6 S)) (h29 : O 29 = some Y5) (h30 : O 30 = some gPa) (h31 : O 31 = some zqb) (h32 : O 32 = some Uy) (h33 : O 33 = some gBh) (h34 : O 34 = none) (h14 : O 14 = some (gVs M)) (hM : 180001 ≤ M) (hS : 180001 ≤ S) : ∀ N, OrcOk P w0 (withG 13 (gMt N) O)
 | 0 => kn hO Q5 (fun x => Hz _) fun x hx => absurd hx.2.1 (zms _)
 | N + 1 => kn hO Q5 (fun x => Hz _) fun x hx => ztq B (Jv B hO h24 h25 h26 h27 h28 h29 h30 h31 h32 h33 h34 h14 hM hS N) h24 h25 h26 h27 h28 h29 h30 h31 h32 h33 h34 rfl h14 hM hS x.1 x.2.1 x.2.2 hx
def pB (x : wa × DT × DT) : List AV := [qR x.1, wU x.2.1, wU x.2.2]
theorem zxo : ∀ x y, pB x = pB y → x = y := fun ⟨a, b, c⟩ ⟨a', b', c'⟩ h => by
 simp only [pB, xe, and_true] at h; rw [ku h.1, v9 h.2.1, v9 h.2.2]
theorem Pa (x : wa × DT × DT) : xK (pB x) = true := by simp only [pB, qR, xP, ww, vw, xU, xb]
theorem zua (ls : wa) (p f : DT) : wkL [.lst ls.length false (vb ls), .agg (xu p), .agg (xu f)] = pB (ls, p, f) := by simp only [pB, qR, wU, wkL, wkV, j1, qQ]
def ZK (vs : List VarT) (us : List VT) : AV := .agg [wD vs, vJ us]
noncomputable def maR (x : wa × DT × DT) : AV := match wu x.1 x.2.1 x.2.2 with
 | none => .tup [ZK [] [], .bool false]
 | some us => .tup [ZK (qa x.1 x.2.1 0) us, .bool true]
theorem ztp (x : wa × DT × DT) : x0 (maR x) = true := by
 unfold maR; cases wu x.1 x.2.1 x.2.2 <;> simp only [ZK, wD, vJ, vx, xP, jb, ww, u7, xU, xb]
noncomputable def gMa (N : Nat) : List AV → St → Option (AV × St) := uu pB (Gi N) maR
section
variable {P : Program} {w0 : World} (B : Bx P w0) {O : Orc} (hO : OrcOk P w0 O)
include B hO
attribute [local go_sem] pB qR wU xo xH xF wc wD vJ in
theorem znu {N M : Nat} (h13 : O 13 = some (gMt N)) (h14 : O 14 = some (gVs M)) (hM : 180001 ≤ M) (ls : wa) (p f : DT) (hp : Gi N (ls, p, f)) : ∃ s1, SC P w0 7 (pB (ls, p, f)) (s00 0 true) (maR (ls, p, f)) s1 := by
 refine be B hO f7 ?_; have hp0 := hp; obtain ⟨hls, hN, hmay, hk, hfk⟩ := hp; simp only at hls hN hmay hk hfk; have hmt := fun s => oc h13 XN (ls, p, f) hp0 (Q6 ls p f) s; have hvs := fun s => oc h14 g8 (ls, p, 0) ⟨hls, by have := ka p; simp only; omega, hk, .inl hmay, by simp only; omega⟩ (pE ls p 0) s
 have hres : ∀ us, wu ls p f = some us → maR (ls, p, f) = .tup [ZK (qa ls p 0) us, .bool true] := fun us h => by unfold maR; simp only [h]
 have hres0 : wu ls p f = none → maR (ls, p, f) = .tup [ZK [] [], .bool false] := fun h => by unfold maR; simp only [h]
 unfold f7; simp only [Ko, Kn, Ki]; generalize maR (ls, p, f) = R at *; generalize qa ls p 0 = vs at *; generalize wu ls p f = mm at *; obtain ⟨pk, pn, pt, pks, pp⟩ := p; obtain ⟨fk, fn, ft, fks, fp⟩ := f; simp only [xo] at hmt hvs; cases mm with
 | none =>
  have hr := hres0 rfl; simp only [mtO] at hmt; clear hres hres0 hp0; refine xw ?_; refine xw ?_; refine xw ?_; refine xw ?_; refine x7 ?_; rw [hr]; exact wQ (xv (KM (xv qd (xv qd xZ))) (xv (xM _ _) xZ))
 | some us =>
  have hr := hres us rfl; simp only [mtO, vJ] at hmt; clear hres hres0 hp0; refine xw ?_; refine xw ?_; refine xw ?_; refine xw ?_; refine xw ?_; refine xB ?_; refine x7 ?_; rw [hr]; exact wQ (xv (KM (xv (lI (QS _) (lw _)) (xv (lI (uH _) (kG _)) xZ))) (xv (xM _ _) xZ))
end
def PaJ (L0 : List (Nat × Option AObj)) (n0 : Nat) (l : List DT) (e : Option wa) (x : Nat × List wy × Bool) (fr : Fr) (s : St) : Prop :=
 ∃ T L n m id, fr = ⟨tmL T, []⟩ ∧ s = KL L n m false [] none ∧ (tmL T).get 1 = some (XM e) ∧ (tmL T).get 8 = some (.lst l.length false (xC l)) ∧ (tmL T).get 9 = some (.int .i64 (.ofNat l.length)) ∧ (tmL T).get 10 = some (.int .i64 (.ofNat x.1)) ∧ (tmL T).get 4 = some (pf id x.2.1) ∧ (tmL T).get 5 = some (.bool x.2.2) ∧ WfA L n ∧ n0 ≤ n ∧ (∀ j, j < n0 → xx L j = xx L0 j) ∧ (x.2.1 ≠ [] → n0 ≤ id ∧ id < n ∧ xx L id = some (.row 79 (xz xA x.2.1) true false)) ∧ x.1 ≤ l.length ∧ x.2.1.length ≤ x.1 ∧ (∀ p ∈ x.2.1, p.2 ≤ x.1) ∧ xS (YR e) l [] true = xS (YR e) (l.drop x.1) x.2.1 x.2.2
def zpH (L0 : List (Nat × Option AObj)) (n0 : Nat) (b : Bool) (R : List wy × Bool) (v : AV) (t : St) : Prop :=
 ∃ id L n m, t = KL L n m b [] none ∧ v = .tup [pf id R.1, .bool R.2] ∧ WfA L n ∧ n0 ≤ n ∧ (∀ j, j < n0 → xx L j = xx L0 j) ∧ (R.1 ≠ [] → n0 ≤ id ∧ id < n ∧ xx L id = some (.row 79 (xz xA R.1) true false))
theorem WfA.same {L : List (Nat × Option AObj)} {i : Nat} {o : Option AObj} (h : WfA L n) (hi : i < n) : WfA ((i, o) :: L) n := h.cons hi (zp _)
theorem WfA.up {L : List (Nat × Option AObj)} {n' : Nat} (h : WfA L n) (hn : n ≤ n') : WfA L n' := fun j hj => h j (zt hn hj)
section
variable {O : Orc}
attribute [local go_sem] xH xF wc ltF gtF in
theorem HM (h30 : O 30 = none) (h25 : O 25 = some Qb) (h36 : O 36 = some Qa) (l : List DT) (e : Option wa) (hl : l.length < 2000000) (he : ∀ ls, e = some ls → ls.length < 1000000000) {L0 : List (Nat × Option AObj)} {n0 m0 : Nat} (hw0 : WfA L0 n0) (b : Bool) : Cv ((evW env O).call 30 (l9 (l, e)) (KL L0 n0 m0 b [] none)) (zpH L0 n0 b (xS (YR e) l [] true)) := by
 refine qA (F := f30) h30 rfl rfl (zmv rfl) ?_; have hc := zv5 h25 h36 e he; unfold f30; simp only [l9]; refine xw ?_; refine xw ?_; refine xJ (xJ (xB ?_)); refine xQ ?_; refine wS (fun x : Nat × List wy × Bool => l.length - x.1) (PaJ L0 n0 l e) (fun x fr s hI => ?_) (0, [], true) ⟨_, _, _, _, 0, rfl, rfl, sW, sW, sW, sW, by simp (disch := first | exact dis | fail) only [go_sem, seval, -rO, -rN, pf], sW, hw0, zp _, fun _ _ => rfl, fun h => absurd rfl h, zL _, zL _, (fun p hp => absurd hp (by simp)), rfl⟩
 ·obtain ⟨i, out, ok⟩ := x; obtain ⟨T, L, n, m, id, rfl, rfl, h1, h8, h9, h10, h4, h5, hw, hn0, hfr, hrow, hi, hlen, hdt, hp⟩ := hI; simp only at h10 h4 h5 hrow hi hlen hdt hp; rcases x8 l i with ⟨hi, hd⟩ | ⟨d, hi, hd⟩
  ·have hlt : ¬ i < l.length := oM; rw [hd] at hp; refine xB ?_; refine xw ?_; refine xB ?_; refine x7 ?_; rw [hp]; exact ⟨id, L, n, m, rfl, rfl, hw, hn0, hfr, hrow⟩
  ·have hx := jT hd false; have hce := hc d; rw [hd] at hp; simp only [xS] at hp; obtain ⟨kd, dn, dt, dk, dp⟩ := d; simp only [xo] at hx hce; cases hE : YR e (.mk kd dn dt dk dp) with
   | false =>
    rw [if_pos hE] at hp; rw [hE] at hce; cases out with
    | nil =>
     have ha := fun L n m e x f => @QF L n m 79 e 6 72 [.int .i64 kd, .int .i64 dn, .str dt, .lst dk.length false (xC dk), .int .i64 dp, .int .i64 (.ofNat 0)] x f rfl oM oM; simp only [pf] at h4; refine xB ?_; refine ⟨(i + 1, [(.mk kd dn dt dk dp, 0)], ok), ⟨_, _, _, _, _, rfl, rfl, sV, sV, sV, sV, by simp (disch := first | exact dis | fail) only [go_sem, seval, -rO, -rN, *, pf], sV, (by repeat (first | exact hw.up oM | refine WfA.same ?_ oM)), oM, (fun j hj => by (repeat (rw [xi, if_neg oM])); exact hfr j hj), fun _ => ⟨oM, yx _, by simp (disch := first | exact dis | fail) only [go_sem, seval, -rO, -rN, *, xz, xA, xo]⟩, by simp only; omega, by simp only [y8, y7]; omega, fun p hp => (by simp only [zmE, zmD, or_false] at hp; subst hp; exact zL _), hp⟩, by simp only; omega⟩
    | cons p ps =>
     obtain ⟨hidl, hid, hg⟩ := hrow (by simp)
     generalize hout : p :: ps = out at *; have hne : out ≠ [] := by rw [← hout]; simp
     rw [jK hne] at h4; have hgx : xx ((n, some (.row 25 [.int .i64 kd, .int .i64 dn, .str dt, .lst dk.length false (xC dk), .int .i64 dp] false false)) :: (n, some (.row 25 [.int .i64 (.ofNat 0), .int .i64 (.ofNat 0), .str [], .nils, .int .i64 (.ofNat 0)] false false)) :: L) id = some (.row 79 (xz xA out) true false) := sV; have ha := fun m => @J1 _ (n + 1) m 79 79 6 72 id out.length false _ [.int .i64 kd, .int .i64 dn, .str dt, .lst dk.length false (xC dk), .int .i64 dp, .int .i64 (.ofNat 0)] false false oM hgx (qb q8 out) rfl oM rfl oM oM; refine xB ?_; refine ⟨(i + 1, out ++ [(.mk kd dn dt dk dp, 0)], ok), ⟨_, _, _, _, _, rfl, rfl, sV, sV, sV, sV, by rw [jK (by simp)]; simp (disch := first | exact dis | fail) only [go_sem, seval, -rO, -rN, *, yd], sV, (by repeat (first | exact hw.up oM | refine WfA.same ?_ oM)), oM, (fun j hj => by (repeat (rw [xi, if_neg oM])); exact hfr j hj), fun _ => ⟨oM, yx _, by rw [xY]; simp (disch := first | exact dis | fail) only [go_sem, seval, -rO, -rN, *, xz, xA, xo]⟩, by simp only; omega, by simp only [yd, y8, y7]; omega, fun p hp => (by
      rcases List.mem_append.1 hp with hp | hp
      ·have := hdt p hp; simp only; omega
      ·simp only [zmE, zmD, or_false] at hp; subst hp; exact zL _), hp⟩, by simp only; omega⟩
   | true =>
    rw [if_neg (by rw [hE]; simp)] at hp
    rw [hE] at hce; by_cases hne : out = []
    ·rw [if_pos hne] at hp; subst hne; simp only [pf] at h4; refine xB ?_; refine ⟨(i + 1, [], false), ⟨_, _, _, _, 0, rfl, rfl, sV, sV, sV, sV, by simp (disch := first | exact dis | fail) only [go_sem, seval, -rO, -rN, *, pf], sV, (by repeat (first | exact hw.up oM | refine WfA.same ?_ oM)), oM, (fun j hj => by (repeat (rw [xi, if_neg oM])); exact hfr j hj), fun h => absurd rfl h, by simp only; omega, zL _, fun p hp => (by cases hp), hp⟩, by simp only; omega⟩
    ·rw [if_neg hne] at hp; obtain ⟨hidl, hid, hg⟩ := hrow hne; clear hrow; rw [jK hne] at h4; obtain ⟨ini, ⟨q, c⟩, rfl⟩ := zoT hne; rw [YE] at hp; rw [yd, y8, y7] at h4 hlen; rw [xY, show xz xA [(q, c)] = xu q ++ [.int .i64 (.ofNat c)] by simp only [xz, xA, zmw]] at hg
     have hl6 : (xz xA ini ++ xu q).length = ini.length * 6 + 5 := by rw [yd, qb q8, wj]
     have hcut : wC 1 (wP (ini.length * 6 + 5) (xz xA ini ++ (xu q ++ [.int .i64 (.ofNat c)]))) = some [.int .i64 (.ofNat c)] := by
      rw [← zmI]; exact gw (b := [.int .i64 (.ofNat c)]) (c := []) hl6 rfl
     have hpas : vr (xz xA ini ++ (xu q ++ [.int .i64 (.ofNat c)])) (ini.length * 6 + 5) [.int .i64 (.ofNat (c + 1))] = some (xz xA ini ++ (xu q ++ [.int .i64 (.ofNat (c + 1))])) := by
      rw [← zmI, ← zmI]; exact ja (b := [.int .i64 (.ofNat c)]) (c := []) (v := [.int .i64 (.ofNat (c + 1))]) hl6 rfl
     have hcb : c ≤ i := hdt (q, c) (by simp)
     refine xB ?_; refine ⟨(i + 1, ini ++ [(q, c + 1)], ok), ⟨_, _, _, _, id, rfl, rfl, sV, sV, sV, sV, by rw [jK (by simp)]; simp (disch := first | exact dis | fail) only [go_sem, seval, -rO, -rN, *, yd], sV, (by repeat (first | exact hw.up oM | refine WfA.same ?_ oM)), oM, (fun j hj => by (repeat (rw [xi, if_neg oM])); exact hfr j hj), fun _ => ⟨oM, oM, by rw [xY, show xz xA [(q, c + 1)] = xu q ++ [.int .i64 (.ofNat (c + 1))] by simp only [xz, xA, zmw]]; simp (disch := first | exact dis | fail) only [go_sem, seval, -rO, -rN, *]⟩, by simp only; omega, by simp only [yd, y8, y7]; omega, fun p hp => (by
      rcases List.mem_append.1 hp with hp | hp
      ·have := hdt p (List.mem_append_left _ hp); simp only; omega
      ·simp only [zmE, zmD, or_false] at hp; subst hp; simp only; omega), hp⟩, by simp only; omega⟩
end
def kf (F : DT → Nat → Bool × Bool) (k : Nat) : List wy → Bool → Bool × Bool
 | [], lead => (lead, true)
 | p :: r, lead => if (!(F p.1 (k + p.2)).2 || (decide (0 < p.2) && !(F p.1 (k + p.2)).1)) = true then (false, false) else kf F k r (lead || (F p.1 (k + p.2)).1)
def uX (vs : List VarT) (i : Nat) : Nat := ((vs[i]?).map (·.dp)).getD 0
noncomputable def pc (F : DT → Nat → Bool × Bool) (vs : List VarT) (d : DT) (k : Nat) : Bool × Bool := match vv vs d with
  | .ofNat i => (decide (0 < uX vs i), decide (uX vs i = 0) || decide (uX vs i = k))
  | .negSucc _ => if wE d = false then (false, !wl d)
   else if (xS wl (xr d).1 [] true).2 = false then (false, false)
   else kf F k ((xS wl (xr d).1 [] true).1 ++ [((xr d).2, 0)]) false
noncomputable def p9 : Nat → List VarT → DT → Nat → Bool × Bool
 | 0, _, _, _ => (false, false)
 | n + 1, vs, d, k => pc (p9 n vs) vs d k
noncomputable def uU (vs : List VarT) (d : DT) (k : Nat) : Bool × Bool := p9 (mz d + 1) vs d k
theorem p8 {F G : DT → Nat → Bool × Bool} {k : Nat} : ∀ {l : List wy} {b : Bool}, (∀ p ∈ l, ∀ j, F p.1 j = G p.1 j) → kf F k l b = kf G k l b
 | [], _, _ => rfl
 | p :: r, b, h => by
  have h1 := h p (by simp)
  simp only [kf, h1]; rw [p8 fun q hq => h q (yD _ hq)]
theorem Jo : ∀ (vs : List VarT) (i : Nat) (d : DT), knF i vs d = .negSucc 0 ∨ ∃ j, knF i vs d = .ofNat j ∧ i ≤ j ∧ j < i + vs.length
 | [], _, _ => .inl rfl
 | v :: r, i, d => by
  unfold knF; split
  ·exact .inr ⟨i, rfl, zp _, by simp only [y8]; omega⟩
  ·rcases Jo r (i + 1) d with h | ⟨j, h, h1, h2⟩
   ·exact .inl h
   ·exact .inr ⟨j, h, oM, by simp only [y8]; omega⟩
theorem uI (vs : List VarT) (d : DT) : vv vs d = .negSucc 0 ∨ ∃ j, vv vs d = .ofNat j ∧ j < vs.length := by
 unfold vv; split
 ·rcases Jo vs 0 d with h | ⟨j, h, _, h2⟩
  ·exact .inl h
  ·exact .inr ⟨j, h, oM⟩
 ·exact .inl rfl
theorem vY {vs : List VarT} (h : eqD (xE d) (.ofNat 5) = false) : vv vs d = .negSucc 0 := if_neg (by rw [h]; simp)
theorem Uj (F : DT → Nat → Bool × Bool) (vs : List VarT) (k : Nat) : pc F vs wO k = (false, true) := by
 unfold pc; rw [vY (d := wO) rfl]; rfl
theorem lm {vs : List VarT} : ∀ {n m : Nat} {d : DT} {k : Nat}, (wI d = true ∨ d = wO) → mz d < n → mz d < m → p9 n vs d k = p9 m vs d k
 | 0, _, d, _, _, h, _ => absurd h (zms _)
 | _, 0, d, _, _, _, h => absurd h (zms _)
 | n + 1, m + 1, d, k, hmay, h1, h2 => by
  simp only [p9]; rcases hmay with hmay | rfl
  ·unfold pc; cases hm : wE d with
   | false => rfl
   | true =>
    obtain ⟨q1, q2⟩ := qO hmay hm; rw [gF hm] at h1 h2; have hd := xR d; have hg : kf (p9 n vs) k ((xS wl (xr d).1 [] true).1 ++ [((xr d).2, 0)]) false = kf (p9 m vs) k ((xS wl (xr d).1 [] true).1 ++ [((xr d).2, 0)]) false := p8 fun p hp j => by
     have hz := ka p.1; rcases List.mem_append.1 hp with hp | hp
     ·rcases vG _ _ _ _ hp with hp | ⟨r, hr, _⟩
      ·have := q1 p.1 hp; exact lm (.inl this.1) oM oM
      ·cases hr
     ·simp only [zmE, zmD, or_false] at hp; subst hp; rcases q2 with q2 | ⟨q2, q3⟩
      ·simp only [q2]; have e1 : mz wO = 0 := rfl; exact lm (.inr rfl) (by rw [e1]; omega) (by rw [e1]; omega)
      ·simp only at hz; exact lm (.inl q2) (by simp only; omega) (by simp only; omega)
    rw [hg]
  ·rw [Uj, Uj]
theorem Yq {vs : List VarT} {k : Nat} (hmay : wI d = true) (hm : wE d = true) (hok : (xS wl (xr d).1 [] true).2 = true) : uU vs d k = kf (uU vs) k ((xS wl (xr d).1 [] true).1 ++ [((xr d).2, 0)]) false := by
 have h : uU vs d k = pc (p9 (mz d) vs) vs d k := rfl; rw [h]; unfold pc; rw [vY (kU hm)]; simp only; rw [if_neg (by rw [hm]; simp), if_neg (by rw [hok]; simp)]
 obtain ⟨q1, q2⟩ := qO hmay hm; refine p8 fun p hp j => ?_; have hz := ka p.1; have hd := xR d; rw [gF hm]; rcases List.mem_append.1 hp with hp | hp
 ·rcases vG _ _ _ _ hp with hp | ⟨r, hr, _⟩
  ·have := q1 p.1 hp; exact lm (.inl this.1) oM (yx _)
  ·cases hr
 ·simp only [zmE, zmD, or_false] at hp; subst hp; rcases q2 with q2 | ⟨q2, q3⟩
  ·simp only [q2]; exact lm (.inr rfl) (by show 0 < _; omega) (yx _)
  ·simp only at hz; exact lm (.inl q2) (by simp only; omega) (yx _)
theorem Yp {vs : List VarT} {k : Nat} (hm : wE d = true) (hok : (xS wl (xr d).1 [] true).2 = false) : uU vs d k = (false, false) := by
 have h : uU vs d k = pc (p9 (mz d) vs) vs d k := rfl; rw [h]; unfold pc; rw [vY (kU hm)]; simp only; rw [if_neg (by rw [hm]; simp), if_pos hok]
theorem l4 {vs : List VarT} {k : Nat} (hk : vv vs d = .negSucc 0) (hm : wE d = false) : uU vs d k = (false, !wl d) := by
 have h : uU vs d k = pc (p9 (mz d) vs) vs d k := rfl; rw [h]; unfold pc; rw [hk]; simp only; rw [if_pos hm]
theorem WV {vs : List VarT} {k i : Nat} (hk : vv vs d = .ofNat i) : uU vs d k = (decide (0 < uX vs i), decide (uX vs i = 0) || decide (uX vs i = k)) := by
 have h : uU vs d k = pc (p9 (mz d) vs) vs d k := rfl; rw [h]; unfold pc; rw [hk]
def pC (x : List VarT × DT × Nat) : List AV := [wD x.1, wU x.2.1, .int .i64 (.ofNat x.2.2)]
theorem U6 : ∀ x y, pC x = pC y → x = y := fun ⟨a, b, c⟩ ⟨a', b', c'⟩ h => by
 simp only [pC, xe, AV.int.injEq, true_and, and_true, Int.ofNat.injEq] at h; rw [Ww h.1, v9 h.2.1, h.2.2]
theorem Va (x : List VarT × DT × Nat) : xK (pC x) = true := by simp only [pC, xP, qx, lB, vw, xU, xb]
theorem GU (vs : List VarT) (d : DT) (k : Nat) : wkL [.lst vs.length false (xz wd vs), .agg (xu d), .int .i64 (.ofNat k)] = pC (vs, d, k) := by simp only [pC, wD, wU, wkL, wkV, lw, qQ]
def zvo (N : Nat) (x : List VarT × DT × Nat) : Prop := x.1.length < 1000000000 ∧ mz x.2.1 < N ∧ xq x.2.1 ≤ 180000 ∧ (wI x.2.1 = true ∨ x.2.1 = wO) ∧ x.2.2 + 180000 * xq x.2.1 < 1000000000000
def tmR (x : Bool × Bool) : AV := .tup [.bool x.1, .bool x.2]
theorem Lh (x : Bool × Bool) : x0 (tmR x) = true := by simp only [tmR, vx, xP, u7, xU, xb]
noncomputable def gTm (N : Nat) : List AV → St → Option (AV × St) := uu pC (zvo N) (fun x => tmR (uU x.1 x.2.1 x.2.2))
theorem zth {ps : List wy} {i id : Nat} {d : DT} {c : Nat} {r : List wy} (hd : ps.drop i = (d, c) :: r) : vIa 6 (.gr id 6 ps.length (xz xA ps)) (.int .i64 (.ofNat i)) = some (.vp (xu d ++ (.int .i64 (.ofNat c) :: xz xA r))) := Qm hd false
theorem GL {ps : List wy} {i : Nat} {d : DT} {c : Nat} {r : List wy} (hd : ps.drop i = (d, c) :: r) : wC 6 (wP (i * 6) (xz xA ps)) = some (xu d ++ [.int .i64 (.ofNat c)]) := by
 rw [u1 q8, hd]; simp only [xz, xA]; exact jc (by rw [yd, wj]; rfl)
def PsAt (L : List (Nat × Option AObj)) (n : Nat) (v : AV) (qs : List wy) : Prop :=
 (∃ id, v = .gr id 6 qs.length (xz xA qs)) ∨ ∃ id, id < n ∧ v = .sl id 0 qs.length (.opn 6) ∧ xx L id = some (.row 79 (xz xA qs) true false)
theorem PsAt.more {L : List (Nat × Option AObj)} {n' j : Nat} {o : Option AObj} {qs : List wy} (h : PsAt L n v qs) (hj : n ≤ j) (hn : n ≤ n') : PsAt ((j, o) :: L) n' v qs := by
 rcases h with ⟨id, h⟩ | ⟨id, h1, h2, h3⟩
 ·exact .inl ⟨id, h⟩
 ·exact .inr ⟨id, oM, h2, by rw [xi, if_neg oM]; exact h3⟩
def tmB (vs : List VarT) (k K : Nat) (v : AV) : List (Nat × AV) := [(0, .lst vs.length false (xz wd vs)), (2, .int .i64 (.ofNat k)), (58, v), (59, .int .i64 (.ofNat K))]
def TmI (vs : List VarT) (k : Nat) (qs : List wy) (R : Bool × Bool) (x : Nat × Bool) (fr : Fr) (s : St) : Prop :=
 ∃ T L n m v, fr = ⟨tmL T, []⟩ ∧ s = KL L n m true [] none ∧ TG T (tmB vs k qs.length v) ∧ (tmL T).get 60 = some (.int .i64 (.ofNat x.1)) ∧ (tmL T).get 6 = some (.bool x.2) ∧ PsAt L n v qs ∧ x.1 ≤ qs.length ∧ R = kf (uU vs) k (qs.drop x.1) x.2
def TmJ (vs : List VarT) (k : Nat) (qs : List wy) (i : Nat) (b : Bool) (d : DT) (c : Nat) (fr : Fr) (s : St) : Prop :=
 ∃ T L n m v, fr = ⟨tmL T, []⟩ ∧ s = KL ((n, some (.row 79 (xu d ++ [.int .i64 (.ofNat c)]) false false)) :: L) (n + 1) m true [] none ∧ TG T (tmB vs k qs.length v) ∧ (tmL T).get 60 = some (.int .i64 (.ofNat i)) ∧ (tmL T).get 6 = some (.bool b) ∧ (tmL T).get 14 = some (.ptr n 0) ∧ PsAt L n v qs
section
variable {P : Program} {w0 : World} (B : Bx P w0) {O : Orc} (hO : OrcOk P w0 O)
include B hO
attribute [local go_sem] pC wD wU xo xH xF wc kS tmR ltF gtF wz wg zmP zmQ zmU zmR ue in
theorem znS {N : Nat} (h35 : O 35 = some gKn) (h27 : O 27 = some kQ) (h36 : O 36 = some Qa) (h29 : O 29 = some Y5) (h30 : O 30 = none) (h25 : O 25 = some Qb) (h15 : O 15 = some (gTm N)) (vs : List VarT) (d : DT) (k : Nat) (hp : zvo (N + 1) (vs, d, k)) : ∃ s1, SC P w0 15 (pC (vs, d, k)) (s00 0 true) (tmR (uU vs d k)) s1 := by
 refine be B hO f15 ?_; obtain ⟨hvs, hN, hnd, hmay, hk⟩ := hp; simp only at hvs hN hnd hmay hk; have hkn := fun s => oc h35 jv (vs, d) hvs (kJ vs d) s; have hma := fun s => oc h27 wB d trivial (wT d) s; have hdo := fun s => oc h36 wB d trivial (wT d) s; have hil := lL d; have hin := fun s => oc h29 wB d oM (wT d) s; simp only [kS] at hin; have hnp := xR d; generalize hres : uU vs d k = R; unfold f15; simp only [Ko, Kg, Kn, Ki]; rcases uI vs d with hkf | ⟨i, hkf, hi⟩
 ·rw [hkf] at hkn; cases hm : wE d with
  | false =>
   rw [l4 hkf hm] at hres; rw [hm] at hma; clear hin; obtain ⟨kd, dn, dt, dk, dp⟩ := d; simp only [xo] at hkn hma hdo; refine xw ?_; refine xw ?_; refine xw ?_; refine x7 ?_; rw [← hres]; exact wQ (xv (xM _ _) (xv (xM _ _) xZ))
  | true =>
   rw [hm] at hma; have hmay' : wI d = true := by
    rcases hmay with h | rfl
    ·exact h
    ·cases hm
   have hil2 := lK d; have hpl := u6 (e := wl) (xr d).1 [] true; simp only [y7, yy] at hpl; have hitem := v4 (e := wl) hmay' hm; have hend := (qO hmay' hm).2; have hmany : (xS wl (xr d).1 [] true).2 = true → _ := Yq (vs := vs) (k := k) hmay' hm; have hdots : (xS wl (xr d).1 [] true).2 = false → _ := Yp (vs := vs) (k := k) hm; rw [gF hm] at hN; rw [hres] at hmany hdots; have hpe := fun {L0} {n0 m0} (hw0 : WfA L0 n0) => @HM O h30 h25 h36 (xr d).1 none oM (fun _ h => by cases h) L0 n0 m0 hw0 true
   simp only [YR] at hpe; generalize xq d = nd at *; generalize xS wl (xr d).1 [] true = PP at *; obtain ⟨ps, ok⟩ := PP; simp only at hpl hitem hmany hdots; generalize xr d = II at *; obtain ⟨l, e⟩ := II; simp only at hin hil2 hpl hend hmany hpe; clear hres hkf hdo hil; obtain ⟨kd, dn, dt, dk, dp⟩ := d; obtain ⟨ek, en, et, eks, ep⟩ := e; simp only [xo] at hkn hma hin; refine xw ?_; refine xw ?_; refine xw ?_; refine xw ?_; refine xJ (uy ?_); refine wL (hpe ?_) fun v0 t hv0 => ?_
   ·repeat (first | exact Qq | refine WfA.same ?_ oM)
   obtain ⟨id, L, n, m, rfl, rfl, hw, hn, hfr, hrow⟩ := hv0; have g1 := hfr 1 oM; simp only [xi, if_true, if_false, Nat.reduceEqDiff] at g1; clear hfr hin hkn hma hpe; cases ok with
   | false =>
    have hr := hdots rfl; clear hmany hdots; refine xB ?_; refine xw ?_; refine x7 ?_; rw [hr]; exact wQ (xv (xM _ _) (xv (xM _ _) xZ))
   | true =>
    have hr := hmany rfl; clear hmany hdots; have hkb : ∀ p ∈ ps ++ [((DT.mk ek en et eks ep), 0)], zvo N (vs, p.1, k + p.2) := fun p hp => by
     have hz := ka p.1; rcases List.mem_append.1 hp with hp | hp
     ·have := hitem p hp; refine ⟨hvs, by simp only; omega, by simp only; omega, .inl this.1, ?_⟩
      simp only; omega
     ·simp only [zmE, zmD, or_false] at hp; subst hp; rcases hend with h | ⟨h1, h2⟩
      ·rw [h]; refine ⟨hvs, by show 0 < N; omega, by show 1 ≤ 180000; omega, .inr rfl, ?_⟩
       show k + 0 + 180000 * 1 < _; omega
      ·simp only at hz; refine ⟨hvs, by simp only; omega, by simp only; omega, .inl h1, ?_⟩
       simp only; omega
    have hloop : ∀ {T L n m v} , TG T (tmB vs k (ps ++ [((DT.mk ek en et eks ep), 0)]).length v) → (tmL T).get 60 = some (.int .i64 (.ofNat 0)) → (tmL T).get 6 = some (.bool false) → PsAt L n v (ps ++ [((DT.mk ek en et eks ep), 0)]) → TmI vs k (ps ++ [((DT.mk ek en et eks ep), 0)]) R (0, false) ⟨tmL T, []⟩ (KL L n m true [] none) := fun h1 h2 h3 h4 => ⟨_, _, _, _, _, rfl, rfl, h1, h2, h3, h4, zL _, hr⟩; have hpn : ps.length < 200000 := oM; have hqb : (ps ++ [((DT.mk ek en et eks ep), 0)]).length < 300000 := by rw [yd, y8, y7]; omega
    generalize hqs : ps ++ [((DT.mk ek en et eks ep), 0)] = qs at *; refine xB ?_; refine xw ?_; refine xJ (Y3 (TmI vs k qs R (0, false)) ?_ fun fr s hI => ?_)
    ·cases ps with
     | nil =>
      simp only [zmy] at hqs; subst hqs; clear hrow hkb; rw [show pf id [] = .nils from rfl]; refine xB ?_; exact hloop (v := .gr n 6 1 [.int .i64 ek, .int .i64 en, .str et, .lst eks.length false (xC eks), .int .i64 ep, .int .i64 (.ofNat 0)]) (by simp (disch := first | exact dis | fail) only [go_sem, seval, -rO, -rN, TG, tmB]) sW sW (.inl ⟨n, by simp only [xz, xA, xo, y9, zmy, y8, y7, zmw]⟩)
     | cons p0 pr =>
      obtain ⟨hid0, hid, hg⟩ := hrow (by simp)
      rw [jK (by simp)]
      generalize hps : p0 :: pr = ps at *; have hqn : qs.length = ps.length + 1 := by rw [← hqs]; simp
      have happ := fun m => UO (l := L) (n := n) (m := m) (b := true) (hd := []) (on := none) (t := 79) (esz := 6) (bytes := 72) (id := id) (k := ps.length) (q := 0) (old := xz xA ps) (y := .lst 1 true [.int .i64 ek, .int .i64 en, .str et, .lst eks.length false (xC eks), .int .i64 ep, .int .i64 (.ofNat 0)]) (new := [.int .i64 ek, .int .i64 en, .str et, .lst eks.length false (xC eks), .int .i64 ep, .int .i64 (.ofNat 0)]) (by rw [qc]; exact hg) (qb q8 ps) rfl rfl rfl oM oM oM
      rw [hqn] at hloop; clear hrow hkb hps; refine xB ?_; refine hloop (v := .sl n 0 (ps.length + 1) (.opn 6)) (by simp (disch := first | exact dis | fail) only [go_sem, seval, -rO, -rN, TG, tmB]) sW sW (.inr ⟨n, yx _, by rw [hqn], ?_⟩)
      rw [xi, if_pos rfl, ← hqs, xY]; simp only [xz, xA, xo, y9, zmy, zmw]
    ·clear hloop hrow g1 hitem hend hqs hr hpl hil2 hpn; refine xQ (wS (fun x : Nat × Bool => qs.length - x.1) (TmI vs k qs R) (fun x fr s hI => ?_) (0, false) hI); obtain ⟨i, b⟩ := x; obtain ⟨T, L, n, m, v, rfl, rfl, hT, t60, t6, hps, hi, hR⟩ := hI; simp only at t60 t6 hi hR; have hT' := hT; simp only [TG, tmB] at hT'; obtain ⟨t0, t2, t58, t59, _⟩ := hT'; rcases x8 qs i with ⟨hi2, hd⟩ | ⟨⟨d, c⟩, hi2, hd⟩
     ·have hlt : ¬ i < qs.length := oM; rw [hd] at hR; clear hps hkb; refine xB ?_; refine xw ?_; refine xB ?_; refine x7 ?_; rw [hR]; exact wQ (xv (xM _ _) (xv (xM _ _) xZ))
     ·have hmem : (d, c) ∈ qs := zmC (by rw [hd]; simp)
      have hpre := hkb (d, c) hmem; have htm := fun s => oc h15 U6 (vs, d, k + c) hpre (GU vs d (k + c)) s; have hcb : k + c < 1000000000000 := by have := hpre.2.2.2.2; simp only at this; omega
      rw [hd] at hR; simp only [kf] at hR; clear hkb hpre hmem; generalize uU vs d (k + c) = F at *; obtain ⟨lead, fine⟩ := F; simp only at hR; refine xw ?_; refine xw ?_; refine xJ (xQ (Y3 (TmJ vs k qs i b d c) ?_ fun fr s hJ => ?_))
      ·have hx := fun id => @zth qs i id d c _ hd; have hc := GL hd; clear htm hd hR; obtain ⟨dk, dn, dt, ds, dp⟩ := d; simp only [xo, y9, zmy] at hx hc; rcases hps with ⟨id, rfl⟩ | ⟨id, hid, rfl, hg⟩
       ·refine xB ?_; simp only [TmJ, xo, y9, zmy]; exact ⟨_, _, _, _, _, rfl, rfl, (by repeat (first | exact hT | refine wF ?_ rfl)), sV, sV, sV, .inl ⟨id, rfl⟩⟩
       ·refine xB ?_; simp only [TmJ, xo, y9, zmy]; exact ⟨_, _, _, _, _, rfl, rfl, (by repeat (first | exact hT | refine wF ?_ rfl)), sV, sV, sV, .inr ⟨id, hid, rfl, sV⟩⟩
      ·clear hT t0 t2 t58 t59 t60 t6 hps; obtain ⟨T, L, n, m, v, rfl, rfl, hT, t60, t6, t14, hps⟩ := hJ; have hT' := hT; simp only [TG, tmB] at hT'; obtain ⟨t0, t2, t58, t59, _⟩ := hT'; obtain ⟨dk, dn, dt, ds, dp⟩ := d; simp only [xo, y9, zmy] at htm ⊢; cases fine with
       | false =>
        have hr : R = (false, false) := by rw [hR]; simp
        clear hR hps; refine xw ?_; refine xw ?_; refine x7 ?_; rw [hr]; exact wQ (xv (xM _ _) (xv (xM _ _) xZ))
       | true =>
        by_cases hc0 : 0 < c
        ·cases lead with
         | false =>
          have hr : R = (false, false) := by rw [hR]; simp [hc0]
          clear hR hps; refine xw ?_; refine xw ?_; refine x7 ?_; rw [hr]; exact wQ (xv (xM _ _) (xv (xM _ _) xZ))
         | true =>
          have hr : R = kf (uU vs) k (qs.drop (i + 1)) (b || true) := by rw [hR]; simp
          clear hR; have hps' := hps.more (o := some (.row 79 [.int .i64 dk, .int .i64 dn, .str dt, .lst ds.length false (xC ds), .int .i64 dp, .int .i64 (.ofNat c)] false false)) (zp n) (zmO n); clear hps; generalize hQ : TmI vs k qs R = II; cases b <;> (
          refine xw ?_; refine xw ?_; refine xB ?_; refine xB ?_; subst hQ; exact ⟨(i + 1, true), ⟨_, _, _, _, v, rfl, rfl, (by repeat (first | exact hT | refine wF ?_ rfl)), sV, sV, hps', by simp only; omega, hr⟩, by simp only; omega⟩)
        ·have hc1 : c = 0 := oM; subst hc1; rw [yB] at htm; have hr : R = kf (uU vs) k (qs.drop (i + 1)) (b || lead) := by rw [hR]; simp
         clear hR; have hps' := hps.more (o := some (.row 79 [.int .i64 dk, .int .i64 dn, .str dt, .lst ds.length false (xC ds), .int .i64 dp, .int .i64 (.ofNat 0)] false false)) (zp n) (zmO n); clear hps; generalize hQ : TmI vs k qs R = II; cases b <;> cases lead <;> (
         refine xw ?_; refine xw ?_; refine xB ?_; refine xB ?_; subst hQ; exact ⟨(i + 1, _), ⟨_, _, _, _, v, rfl, rfl, (by repeat (first | exact hT | refine wF ?_ rfl)), sV, sV, hps', by simp only; omega, hr⟩, by simp only; omega⟩)
 ·rw [WV hkf] at hres; rw [hkf] at hkn; obtain ⟨v, hd⟩ : ∃ v, vs.drop i = v :: vs.drop (i + 1) := ⟨_, zmL hi⟩; have hda : uX vs i = v.dp := by
   unfold uX; have : vs[i]? = some v := by
    have h0 := congrArg (fun l => l[0]?) hd
    simpa using h0
   rw [this]; rfl
  rw [hda] at hres; have hx := lM vz hd false; clear hda hma hdo hin hd; obtain ⟨kd, dn, dt, dk, dp⟩ := d; obtain ⟨vt, vn, vd⟩ := v; simp only [xo] at hkn; simp only [wd, y9, zmy] at hx; simp only at hres; refine xw ?_; by_cases h0 : vd = 0
  ·subst h0; refine xw ?_; refine x7 ?_; rw [← hres]; exact wQ (xv (xM _ _) (xv (xM _ _) xZ))
  ·have h1 : 0 < vd := oM; by_cases h2 : vd = k
   ·subst h2; have hr : R = (true, true) := by rw [← hres]; simp [h0, h1]
    refine xw ?_; refine x7 ?_; rw [hr]; exact wQ (xv (xM _ _) (xv (xM _ _) xZ))
   ·have hr : R = (true, false) := by rw [← hres]; simp [h0, h1, h2]
    refine xw ?_; refine x7 ?_; rw [hr]; exact wQ (xv (xM _ _) (xv (xM _ _) xZ))
end
theorem zst {P : Program} {w0 : World} (B : Bx P w0) {O : Orc} (hO : OrcOk P w0 O) (h35 : O 35 = some gKn) (h27 : O 27 = some kQ) (h36 : O 36 = some Qa) (h29 : O 29 = some Y5) (h30 : O 30 = none) (h25 : O 25 = some Qb) : ∀ N, OrcOk P w0 (withG 15 (gTm N) O)
 | 0 => kn hO Va (fun x => Lh _) fun x hx => absurd hx.2.1 (zms _)
 | N + 1 => kn hO Va (fun x => Lh _) fun x hx => znS B (zst B hO h35 h27 h36 h29 h30 h25 N) h35 h27 h36 h29 h30 h25 rfl x.1 x.2.1 x.2.2 hx
noncomputable def gT (F : DT → List Nat) (vs : List VarT) (d : DT) : List Nat := match vv vs d with
 | .ofNat i => if 0 < uX vs i then [i] else []
 | .negSucc _ => if wE d = false then [] else (xr d).1.flatMap F ++ F (xr d).2
noncomputable def jq : Nat → List VarT → DT → List Nat
 | 0, _, _ => []
 | n + 1, vs, d => gT (jq n vs) vs d
noncomputable def wG (vs : List VarT) (d : DT) : List Nat := jq (mz d + 1) vs d
theorem WE (F : DT → List Nat) (vs : List VarT) : gT F vs wO = [] := by
 unfold gT; rw [vY (d := wO) rfl]; rfl
theorem lD {f g : DT → List Nat} : ∀ {l : List DT}, (∀ x ∈ l, f x = g x) → l.flatMap f = l.flatMap g
 | [], _ => rfl
 | x :: r, h => by
  rw [zmF, zmF, h x (by simp), lD fun y hy => h y (yD _ hy)]
theorem kB {vs : List VarT} : ∀ {n m : Nat} {d : DT}, (wI d = true ∨ d = wO) → mz d < n → mz d < m → jq n vs d = jq m vs d
 | 0, _, d, _, h, _ => absurd h (zms _)
 | _, 0, d, _, _, h => absurd h (zms _)
 | n + 1, m + 1, d, hmay, h1, h2 => by
  simp only [jq]; rcases hmay with hmay | rfl
  ·unfold gT; cases hm : wE d with
   | false => rfl
   | true =>
    obtain ⟨q1, q2⟩ := qO hmay hm; rw [gF hm] at h1 h2; have hd := xR d; have e1 : (xr d).1.flatMap (jq n vs) = (xr d).1.flatMap (jq m vs) := lD fun x hx => by
     have hz := ka x; have := q1 x hx; exact kB (.inl this.1) oM oM
    have e2 : jq n vs (xr d).2 = jq m vs (xr d).2 := by
     have hz := ka (xr d).2; rcases q2 with q2 | ⟨q2, q3⟩
     ·rw [q2]; have e1 : mz wO = 0 := rfl; exact kB (.inr rfl) (by rw [e1]; omega) (by rw [e1]; omega)
     ·exact kB (.inl q2) oM oM
    rw [e1, e2]
  ·rw [WE, WE]
theorem jU {vs : List VarT} (hmay : wI d = true) (hm : wE d = true) : wG vs d = (xr d).1.flatMap (wG vs) ++ wG vs (xr d).2 := by
 have h : wG vs d = gT (jq (mz d) vs) vs d := rfl; rw [h]; unfold gT; rw [vY (kU hm)]; simp only; rw [if_neg (by rw [hm]; simp)]
 obtain ⟨q1, q2⟩ := qO hmay hm; rw [gF hm]; have hd := xR d; have e1 : (xr d).1.flatMap (jq (xq d) vs) = (xr d).1.flatMap (wG vs) := lD fun x hx => by
  have hz := ka x; have := q1 x hx; exact kB (.inl this.1) oM (yx _)
 have e2 : jq (xq d) vs (xr d).2 = wG vs (xr d).2 := by
  have hz := ka (xr d).2; rcases q2 with q2 | ⟨q2, q3⟩
  ·rw [q2]; exact kB (.inr rfl) (by show 0 < _; omega) (yx _)
  ·exact kB (.inl q2) oM (yx _)
 rw [e1, e2]
theorem gD {vs : List VarT} (hk : vv vs d = .negSucc 0) (hm : wE d = false) : wG vs d = [] := by
 have h : wG vs d = gT (jq (mz d) vs) vs d := rfl; rw [h]; unfold gT; rw [hk]; simp only; rw [if_pos hm]
theorem km {vs : List VarT} {i : Nat} (hk : vv vs d = .ofNat i) : wG vs d = if 0 < uX vs i then [i] else [] := by
 have h : wG vs d = gT (jq (mz d) vs) vs d := rfl; rw [h]; unfold gT; rw [hk]
theorem Hg (d : DT) : xO (xr d).1 + xq (xr d).2 ≤ xq d ∨ (xr d).2 = wO ∧ xO (xr d).1 ≤ xq d := by
 unfold xr; split
 ·exact .inr ⟨rfl, by have := wx d; simp only; omega⟩
 ·exact .inl (va d)
theorem VF (vs : List VarT) : wG vs wO = [] := gD (vY (d := wO) rfl) rfl
theorem G3 {F : DT → List Nat} : ∀ {l : List DT}, (∀ x ∈ l, (F x).length ≤ xq x) → (l.flatMap F).length ≤ xO l
 | [], _ => zp _
 | x :: r, h => by
  have h1 := h x (by simp)
  have h2 := G3 (F := F) (l := r) fun y hy => h y (yD _ hy); rw [zmF, yd]; simp only [xO]; omega
theorem lc {vs : List VarT} : ∀ (N : Nat) (d : DT), xq d < N → (wI d = true ∨ d = wO) → (∀ i ∈ wG vs d, i < vs.length) ∧ (wG vs d).length ≤ xq d
 | 0, d, h, _ => absurd h (zms _)
 | N + 1, d, h, hmay => by
  have hd := xR d; rcases uI vs d with hk | ⟨i, hk, hi⟩
  ·cases hm : wE d with
   | false => rw [gD hk hm]; exact ⟨fun i hi => absurd hi (by simp), zL _⟩
   | true =>
    have hmay' : wI d = true := by
     rcases hmay with h | rfl
     ·exact h
     ·cases hm
    rw [jU hmay' hm]; obtain ⟨q1, q2⟩ := qO hmay' hm; have he : (∀ i ∈ wG vs (xr d).2, i < vs.length) ∧ (wG vs (xr d).2).length ≤ xq (xr d).2 := by
     rcases q2 with q2 | ⟨q2, q3⟩
     ·rw [q2, VF]; exact ⟨fun i hi => absurd hi (by simp), zL _⟩
     ·exact lc (vs := vs) N (xr d).2 oM (.inl q2)
    have hx : ∀ x ∈ (xr d).1, (∀ i ∈ wG vs x, i < vs.length) ∧ (wG vs x).length ≤ xq x := fun x hx => by
     have := q1 x hx; exact lc N x oM (.inl this.1)
    refine ⟨fun i hi => ?_, ?_⟩
    ·rcases List.mem_append.1 hi with hi | hi
     ·obtain ⟨x, hx1, hx2⟩ := List.mem_flatMap.1 hi; exact (hx x hx1).1 i hx2
     ·exact he.1 i hi
    ·have hf := G3 (F := wG vs) fun x hx' => (hx x hx').2; rw [yd]; rcases Hg d with h | ⟨h1, h2⟩
     ·omega
     ·rw [h1, VF]; simp only [y7]; omega
  ·rw [km hk]; split
   ·exact ⟨fun j hj => (by simp only [zmE, zmD, or_false] at hj; omega), by simp only [y8, y7]; omega⟩
   ·exact ⟨fun i hi => absurd hi (by simp), zL _⟩
theorem Ui {F : DT → Nat → Bool × Bool} {k : Nat} : ∀ {l : List wy} {b : Bool}, (kf F k l b).1 = true → b = true ∨ ∃ p ∈ l, (F p.1 (k + p.2)).1 = true
 | [], b, h => .inl h
 | p :: r, b, h => by
  simp only [kf] at h; split at h
  ·cases h
  ·rcases Ui h with h | ⟨q, hq, h⟩
   ·rcases Bool.or_eq_true_iff.1 h with h | h
    ·exact .inl h
    ·exact .inr ⟨p, by simp, h⟩
   ·exact .inr ⟨q, yD _ hq, h⟩
theorem Yc {vs : List VarT} : ∀ (N : Nat) (d : DT) (k : Nat), xq d < N → (wI d = true ∨ d = wO) → (uU vs d k).1 = true → wG vs d ≠ []
 | 0, d, _, h, _, _ => absurd h (zms _)
 | N + 1, d, k, h, hmay, hl => by
  rcases uI vs d with hk | ⟨i, hk, hi⟩
  ·cases hm : wE d with
   | false => rw [l4 hk hm] at hl; cases hl
   | true =>
    have hmay' : wI d = true := by
     rcases hmay with h | rfl
     ·exact h
     ·cases hm
    cases hok : (xS wl (xr d).1 [] true).2 with
    | false => rw [Yp hm hok] at hl; cases hl
    | true =>
     rw [Yq hmay' hm hok] at hl; rw [jU hmay' hm]; obtain ⟨q1, q2⟩ := qO hmay' hm; rcases Ui hl with hl | ⟨p, hp, hl⟩
     ·cases hl
     ·intro hz; rw [List.append_eq_nil_iff] at hz; rcases List.mem_append.1 hp with hp | hp
      ·rcases vG _ _ _ _ hp with hp | ⟨r, hr, _⟩
       ·have := q1 p.1 hp; have hn := Yc N p.1 _ oM (.inl this.1) hl; obtain ⟨y, hy⟩ := List.exists_mem_of_ne_nil _ hn; have hm2 : y ∈ (xr d).1.flatMap (wG vs) := List.mem_flatMap.2 ⟨p.1, hp, hy⟩; rw [hz.1] at hm2; cases hm2
       ·cases hr
      ·simp only [zmE, zmD, or_false] at hp; subst hp; rcases q2 with q2 | ⟨q2, q3⟩
       ·simp only [q2] at hl; rw [l4 (vY (d := wO) rfl) rfl] at hl; cases hl
       ·exact Yc N (xr d).2 _ oM (.inl q2) hl hz.2
  ·rw [WV hk] at hl; rw [km hk, if_pos (of_decide_eq_true hl)]; simp
def gSl (esz id : Nat) : Nat → AV
 | 0 => .nils
 | k + 1 => .sl id 0 (k + 1) (.opn esz)
def GAt {α : Type} (t : Nat) (f : α → List AV) (L : List (Nat × Option AObj)) (lo n id : Nat) (l : List α) : Prop := l ≠ [] → lo ≤ id ∧ id < n ∧ xx L id = some (.row t (xz f l) true false)
theorem G7 (esz id k : Nat) : scal (gSl esz id k) = true := by cases k <;> rfl
theorem zzQ (esz id k : Nat) : uO (gSl esz id k) = some k := by cases k <;> rfl
theorem zps {α : Type} {t : Nat} {f : α → List AV} (hl : ∀ x, (f x).length = esz) (hs : ∀ x, xT (f x) = true) (he : 1 ≤ esz) {L : List (Nat × Option AObj)} {m lo : Nat} {vs ws : List α} {y : AV} (hr : GAt t f L lo n id vs) (hw : WfA L n) (hlo : lo ≤ n) (h1 : uO y = some ws.length) (h2 : ws ≠ [] → w6 (KL L n m false [] none) esz ws.length y = some (xz f ws)) (hb : 2 * (vs.length + ws.length) * bytes ≤ 281474976710656) (hn : vs.length + ws.length < 1000000000000) :
  Cv (jg (KL L n m false [] none) t esz bytes (gSl esz id vs.length) y) fun v s => ∃ id' L' n' m', v = gSl esz id' (vs ++ ws).length ∧ s = KL L' n' m' false [] none ∧ GAt t f L' lo n' id' (vs ++ ws) ∧ WfA L' n' ∧ n ≤ n' ∧ (∀ j, j < lo → xx L' j = xx L j) ∧ (∀ j, j < n → (vs ≠ [] → j ≠ id) → xx L' j = xx L j) := by
 cases ws with
 | nil =>
  refine ⟨gSl esz id vs.length, KL L n m false [] none, ?_, id, L, n, m, by rw [zmw], rfl, by rw [zmw]; exact hr, hw, zp _, fun _ _ => rfl, fun _ _ _ => rfl⟩
  simp only [jg, h1, y7]; cases vs <;> rfl
 | cons w ws =>
  have h2 := h2 (by simp)
  simp only [y8] at h1 h2 hb hn; cases vs with
  | nil =>
   refine ⟨_, _, zzu (q := ws.length) h1 h2 (.inl rfl) he (by simp only [y7, yy] at hb; exact hb) (by simp only [y7] at hn; omega), n, _, _, _, rfl, rfl, fun _ => ⟨hlo, yx _, by rw [xi, if_pos rfl]; rfl⟩, fun j hj => ?_, zmO _, fun j hj => by rw [xi, if_neg oM], fun j hj _ => by rw [xi, if_neg oM]⟩
   rw [xi, if_neg oM]; exact hw j oM
  | cons u us =>
   obtain ⟨hlo2, hid, g1⟩ := hr (by simp)
   simp only [y8] at hb hn; refine ⟨_, _, UO (q := ws.length) (by rw [qc]; exact g1) (by rw [qb hl]; rfl) h1 h2 (kP hs _) he hb oM, n, _, _, _, ?_, rfl, fun _ => ⟨hlo, yx _, by rw [xi, if_pos rfl, xY]⟩, fun j hj => ?_, zmO _, fun j hj => by rw [xi, if_neg oM, xi, if_neg oM], fun j hj hne => by rw [xi, if_neg oM, xi, if_neg (hne (by simp))]⟩
   ·simp only [y9, y8, yd, gSl]
    congr 1; omega
   ·rw [xi, if_neg oM, xi]; split
    ·rfl
    ·exact hw j oM
def ua (vs : List VarT) (own : AV) (next pos made e : Int) : AObj := .row 54 [.lst vs.length false (xz wd vs), own, .int .i64 next, .int .i64 pos, .int .i64 made, .int .i64 e] false false
section
variable {O : Orc}
attribute [local go_sem] wz wg zmP zmQ zmU zmR ue in
theorem QW (h40 : O 40 = none) {vs : List VarT} {own : AV} {next pos made e : Int} {L : List (Nat × Option AObj)} {m fp : Nat} (hg : xx L fp = some (ua vs own next pos made e)) (b : Bool) :
  Cv ((evW env O).call 40 [.ptr fp 0] (KL L n m b [] none)) fun v t => ∃ made2 e2 L2 m2, t = KL L2 n m2 b [] none ∧ xx L2 fp = some (ua vs own next pos made2 e2) ∧ ∀ j, j ≠ fp → xx L2 j = xx L j := by
 refine qA (F := f40) h40 rfl rfl (zmv rfl) ?_; unfold f40; simp only [Ko, Kg, Kn, Ki]; simp only [ua] at hg; obtain ⟨mw, hmw⟩ : ∃ mw, qV .i64 (zla made (.ofNat 1)) = mw := ⟨_, rfl⟩; refine xw ?_; cases hlt : ltD (.ofNat 1048576) mw <;> cases he : eqD e (.ofNat 0) <;> (
 refine xB ?_; refine x7 ?_; refine ⟨_, _, _, _, rfl, by rw [xi, if_pos rfl]; rfl, fun j hj => ?_⟩
 repeat (rw [xi, if_neg hj]))
end
def cI (i : Nat) : List AV := [.int .i64 (.ofNat i)]
theorem QL (i : Nat) : (cI i).length = 1 := rfl
theorem zzy (i : Nat) : xT (cI i) = true := rfl
def Qu (vs : List VarT) (d : DT) (L : List (Nat × Option AObj)) (n : Nat) (b : Bool) (v : AV) (t : St) : Prop :=
 ∃ id L2 n2 m2, v = gSl 1 id (wG vs d).length ∧ t = KL L2 n2 m2 b [] none ∧ GAt 3 cI L2 n n2 id (wG vs d) ∧ WfA L2 n2 ∧ n ≤ n2 ∧ ∀ j, j < n → xx L2 j = xx L j
def leB (fp n : Nat) (l : List DT) : List (Nat × AV) := [(0, .ptr fp 0), (3, .ptr n 0), (7, .ptr (n + 1) 0), (39, .lst l.length false (xC l)), (40, .int .i64 (.ofNat l.length))]
def LeI (vs : List VarT) (l : List DT) (d9 : DT) (L0 : List (Nat × Option AObj)) (n0 fp : Nat) (x : Nat × List Nat) (fr : Fr) (s : St) : Prop :=
 ∃ T L n m id, fr = ⟨tmL T, []⟩ ∧ s = KL L n m false [] none ∧ TG T (leB fp n0 l) ∧ (tmL T).get 41 = some (.int .i64 (.ofNat x.1)) ∧ (tmL T).get 4 = some (gSl 1 id x.2.length) ∧ GAt 3 cI L (n0 + 2) n id x.2 ∧ WfA L n ∧ n0 + 2 ≤ n ∧ (∀ j, j < n0 → xx L j = xx L0 j) ∧ xx L (n0 + 1) = some (xX d9) ∧ x.1 ≤ l.length ∧ x.2 = (l.take x.1).flatMap (wG vs)
section
variable {E : Env} {O : Orc} {rd : Option Nat} {ia ib : ICode} {c : Opd} {tm : Trie AV} {df : List Nat} {s : St} {Q : Res → Fr → St → Prop}
theorem Y2 (hc : c.ev tm = some (.bool true)) (q : Ev (evC E (evW E O) rd ia ⟨tm, df⟩ s) Q) : Ev (evC E (evW E O) rd (.cond c ia ib) ⟨tm, df⟩ s) Q := by rw [Vi, hc, zzH]; exact q
theorem Y1 (hc : c.ev tm = some (.bool false)) (q : Ev (evC E (evW E O) rd ib ⟨tm, df⟩ s) Q) : Ev (evC E (evW E O) rd (.cond c ia ib) ⟨tm, df⟩ s) Q := by rw [Vi, hc, zzG]; exact q
end
theorem GAt.src {α : Type} {t : Nat} {f : α → List AV} {L : List (Nat × Option AObj)} {lo m : Nat} {b : Bool} {l : List α} (hl : ∀ x, (f x).length = esz) (h : GAt t f L lo n id l) : l ≠ [] → w6 (KL L n m b [] none) esz l.length (gSl esz id l.length) = some (xz f l) := fun hne => by
 obtain ⟨_, _, hg⟩ := h hne; cases l with
 | nil => exact absurd rfl hne
 | cons x r => exact (Yl (s := KL L n m b [] none) (j := 0) (by rw [qc]; exact hg) (qb hl _)).2
theorem GAt.ext {α : Type} {t : Nat} {f : α → List AV} {L L2 : List (Nat × Option AObj)} {lo lo2 n2 : Nat} {l : List α} (h : GAt t f L lo n id l) (hlo : lo2 ≤ lo) (hn : n ≤ n2) (hfr : ∀ j, lo ≤ j → j < n → xx L2 j = xx L j) : GAt t f L2 lo2 n2 id l := fun hne => by
 obtain ⟨h1, h2, h3⟩ := h hne; exact ⟨oM, oM, by rw [hfr id h1 h2]; exact h3⟩
theorem Py {vs : List VarT} {l : List DT} (i : Nat) : ((l.take i).flatMap (wG vs)).length ≤ (l.flatMap (wG vs)).length := by
 conv => rhs; rw [← zmT i l, zmK, yd]
 omega
section
variable {O : Orc}
attribute [local go_sem] wU xo xH xF wc kS wd ltF gtF wz wg zmP zmQ zmU zmR ue in
theorem Hl (h56 : O 56 = none) (h35 : O 35 = some gKn) (h27 : O 27 = some kQ) (h29 : O 29 = some Y5) {vs : List VarT} (hvs : vs.length < 1000000000) {own : AV} {next pos made e : Int} {fp : Nat} : ∀ (N : Nat) (d : DT), mz d < N → (wI d = true ∨ d = wO) → xq d ≤ 180000 → ∀ (L : List (Nat × Option AObj)) (n m : Nat), WfA L n → fp < n → xx L fp = some (ua vs own next pos made e) → ∀ b, Cv ((evW env O).call 56 [.ptr fp 0, .agg (xu d)] (KL L n m b [] none)) (Qu vs d L n b)
 | 0, d, h, _, _, _, _, _, _, _, _, _ => absurd h (zms _)
 | N + 1, d, hN, hmay, hnd, L0, n0, m0, hw0, hfp, hg, b => by
  have ih := Hl h56 h35 h27 h29 hvs (own := own) (next := next) (pos := pos) (made := made) (e := e) (fp := fp) N
  refine qA (F := f56) h56 rfl rfl (zmv rfl) ?_; have hkn := fun s => oc h35 jv (vs, d) hvs (kJ vs d) s; have hma := fun s => oc h27 wB d trivial (wT d) s; have hil := lL d; have hin := fun s => oc h29 wB d oM (wT d) s; simp only [kS] at hin; have hlen := (lc (vs := vs) _ d (yx _) hmay).2; have hg0 := hg; simp only [ua] at hg; generalize hres : wG vs d = R at hlen; unfold f56; simp only [Ko, Kn, Kd, Ki]; rcases uI vs d with hkf | ⟨i, hkf, hi⟩
  ·rw [hkf] at hkn; cases hm : wE d with
   | false =>
    rw [gD hkf hm] at hres; rw [hm] at hma; unfold Qu; rw [gD hkf hm]; clear hin ih hres hlen; obtain ⟨kd, dn, dt, dk, dp⟩ := d; simp only [xo] at hkn hma; refine xw ?_; refine xw ?_; refine xw ?_; refine xw ?_; refine xB ?_; refine x7 ?_; exact ⟨0, _, _, _, rfl, rfl, fun h => absurd rfl h, hw0.cons (yx _) (zmO _), zmO _, fun j hj => by rw [xi, if_neg oM]⟩
   | true =>
    have hmay' : wI d = true := by
     rcases hmay with h | rfl
     ·exact h
     ·cases hm
    rw [hm] at hma; have hil2 := lK d; have hitem := (qO hmay' hm).1; have hend := (qO hmay' hm).2; rw [gF hm] at hN; unfold Qu; rw [hres]; rw [jU hmay' hm] at hres; have hnp := xR d; generalize xq d = nd at *; generalize xr d = II at *; obtain ⟨l, e9⟩ := II; simp only at hin hil2 hitem hend hres; have hRl : ∀ i, ((l.take i).flatMap (wG vs)).length + (wG vs e9).length ≤ R.length := fun i => by
     rw [← hres, yd]; have := Py (vs := vs) (l := l) i; omega
    have ihe := ih e9 (by
     have hz := ka e9; rcases hend with h | ⟨_, h⟩
     ·rw [h]; show 0 < N; omega
     ·omega) (hend.symm.imp (fun h => h.1) id) (by
     rcases hend with h | ⟨_, h⟩
     ·rw [h]; show 1 ≤ 180000; omega
     ·omega)
    clear hkf hil hend hm hmay hmay' hnp; obtain ⟨kd, dn, dt, dk, dp⟩ := d; obtain ⟨ek, en, et, eks, ep⟩ := e9; simp only [xo] at hkn hma hin; refine xw ?_; refine xw ?_; refine xJ (xJ (xB ?_)); refine Y2 sW ?_; refine xw ?_; refine xJ (xJ (xB ?_)); refine xQ (wS (fun x : Nat × List Nat => l.length - x.1) (LeI vs l (.mk ek en et eks ep) L0 n0 fp) (fun x fr s hI => ?_) (0, []) ⟨_, _, _, _, 0, rfl, rfl, by simp (disch := first | exact dis | fail) only [go_sem, seval, -rO, -rN, TG, leB], sW, by simp (disch := first | exact dis | fail) only [go_sem, seval, -rO, -rN, gSl], fun h => absurd rfl h, ?_, zp _, fun j hj => ?_, by simp (disch := first | exact dis | fail) only [go_sem, seval, -rO, -rN, xX], zL _, rfl⟩)
    ·obtain ⟨i, out⟩ := x; obtain ⟨T, L, n, m, id, rfl, rfl, hT, t41, t4, hga, hw, hn, hfr, hg9, hi, hout⟩ := hI; simp only at t41 t4 hga hi hout; have hT' := hT; simp only [TG, leB] at hT'; obtain ⟨t0, t3, t7, t39, t40, _⟩ := hT'; have hgf : xx L fp = some (ua vs own next pos made e) := by rw [hfr fp hfp]; exact hg0
     simp only [xX, xo] at hg9; replace hout := hout.symm; have hRi := hRl i; have hRi1 := hRl (i + 1); rcases x8 l i with ⟨hi2, hd⟩ | ⟨x, hi2, hd⟩
     ·have hlt : ¬ i < l.length := oM; rw [zG hi2] at hout hRi; clear hRi1 hRl ih; rw [hout] at hRi; have ihe2 := ihe L n m hw oM hgf false; clear ihe; simp only [xo] at ihe2; refine xB ?_; refine uy ?_; refine wL ihe2 fun v0 t hv0 => ?_; obtain ⟨id2, L2, n2, m2, rfl, rfl, hga2, hw2, hn2, hfr2⟩ := hv0; refine uy ?_; refine wL (zps (lo := n0 + 2) (vs := out) (id := id) QL zzy oM (hga.ext (zp _) hn2 (fun j _ hj => hfr2 j hj)) hw2 oM (zzQ _ _ _) (hga2.src QL) oM oM) fun v1 t1 hv1 => ?_; obtain ⟨id3, L3, n3, m3, rfl, rfl, hga3, hw3, hn3, hfr3, hfr4⟩ := hv1; rw [hout] at hres; rw [hres] at hga3 ⊢; clear hres hlen hRi; refine xB ?_; refine xw ?_; refine xB ?_; refine x7 ?_; exact ⟨id3, L3, n3, m3, rfl, rfl, hga3.ext oM (zp _) (fun _ _ _ => rfl), hw3, oM, fun j hj => by rw [hfr3 j oM, hfr2 j oM, hfr j hj]⟩
     ·have hmem : x ∈ l := zmC (by rw [hd]; simp)
      have hix := hitem x hmem; have hz := ka x; have ihx := ih x oM (.inl hix.1) oM; have hx := jT hd false; have htk := jd hd; rw [htk, zmK] at hRi1; simp only [zmF, List.flatMap_nil, zmw, yd] at hRi1; rw [hout] at hRi1; clear ih ihe hz hix hd hRl hRi hres hitem hmem; generalize hLx : wG vs x = lx at *; obtain ⟨xk, xn, xt, xs, xp⟩ := x; simp only [xo] at ihx hx; refine xw ?_; refine xw ?_; refine xJ (xQ (xw ?_)); refine uy ?_; refine wL (ihx _ _ _ ?_ ?_ ?_ false) fun v0 t hv0 => ?_
      ·repeat (first | exact hw.up oM | refine WfA.same ?_ oM)
      ·omega
      ·(repeat (rw [xi, if_neg oM])); exact hgf
      obtain ⟨id2, L2, n2, m2, rfl, rfl, hga2, hw2, hn2, hfr2⟩ := hv0; rw [hLx] at hga2 ⊢; clear ihx; have hfrL : ∀ j, j < n → xx L2 j = xx L j := fun j hj => by rw [hfr2 j oM, xi, if_neg oM, xi, if_neg oM]
      refine uy ?_; refine wL (zps (lo := n0 + 2) (vs := out) (id := id) QL zzy oM (hga.ext (zp _) oM (fun j _ hj => hfrL j hj)) hw2 oM (zzQ _ _ _) (hga2.src QL) oM oM) fun v1 t1 hv1 => ?_; obtain ⟨id3, L3, n3, m3, rfl, rfl, hga3, hw3, hn3, hfr3, hfr4⟩ := hv1; refine xB ?_; refine xB ?_; refine ⟨(i + 1, out ++ lx), ⟨_, _, _, _, id3, rfl, rfl, (by repeat (first | exact hT | refine wF ?_ rfl)), sV, sV, hga3, hw3, oM, fun j hj => ?_, ?_, by simp only; omega, ?_⟩, by simp only; omega⟩
      ·rw [hfr3 j oM, hfrL j oM, hfr j hj]
      ·rw [hfr3 _ oM, hfrL _ oM]; simp only [xX, xo]; exact hg9
      ·simp only; rw [htk, zmK, hout]; simp only [zmF, List.flatMap_nil, zmw, hLx]
    ·repeat (first | exact hw0.up oM | refine WfA.same ?_ oM)
    ·repeat (rw [xi, if_neg oM])
  ·rw [km hkf] at hres; rw [hkf] at hkn; obtain ⟨v, hd⟩ : ∃ v, vs.drop i = v :: vs.drop (i + 1) := ⟨_, zmL hi⟩; have hda : uX vs i = v.dp := by
    unfold uX; have : vs[i]? = some v := by
     have h0 := congrArg (fun l => l[0]?) hd
     simpa using h0
    rw [this]; rfl
   have hx := lM vz hd false; unfold Qu; rw [km hkf]; rw [hda]; clear hda hma hin hd ih hres; obtain ⟨kd, dn, dt, dk, dp⟩ := d; obtain ⟨vt, vn, vd⟩ := v; simp only [xo] at hkn; simp only [wd, y9, zmy] at hx; refine xw ?_; by_cases h0 : 0 < vd
   ·rw [if_pos h0]; have ha := fun L n m e x f => @QF L n m 3 e 1 8 [.int .i64 (.ofNat i)] x f rfl oM oM; refine xw ?_; refine x7 ?_; refine ⟨_, _, _, _, rfl, rfl, fun _ => ⟨?_, ?_, by rw [xi, if_pos rfl]; rfl⟩, ?_, ?_, fun j hj => ?_⟩
    ·omega
    ·omega
    ·repeat (first | exact hw0.up oM | refine WfA.same ?_ oM)
    ·omega
    ·(repeat (rw [xi, if_neg oM]))
   ·rw [if_neg h0]; refine xw ?_; refine x7 ?_; exact ⟨0, _, _, _, rfl, rfl, fun h => absurd rfl h, hw0.cons (yx _) (zmO _), zmO _, fun j hj => by rw [xi, if_neg oM]⟩
end
def vR (o d : DT) : Bool := decide (x9 o = x9 d ∧ qL o = qL d)
def uA : Nat → List DT → DT → Int
 | _, [], _ => .negSucc 0
 | i, o :: r, d => if vR o d = true then .ofNat i else uA (i + 1) r d
theorem lJ : ∀ (l : List DT) (i : Nat) (d : DT), (uA i l d = .negSucc 0 ∧ ∀ o ∈ l, vR o d = false) ∨ ∃ j o, uA i l d = .ofNat (i + j) ∧ l[j]? = some o ∧ vR o d = true
 | [], _, _ => .inl ⟨rfl, fun o h => absurd h (by simp)⟩
 | x :: r, i, d => by
  unfold uA; by_cases h : vR x d = true
  ·rw [if_pos h]; exact .inr ⟨0, x, rfl, rfl, h⟩
  ·rw [if_neg h]; rcases lJ r (i + 1) d with ⟨h1, h2⟩ | ⟨j, o, h1, h2, h3⟩
   ·refine .inl ⟨h1, fun o ho => ?_⟩; rcases List.mem_cons.1 ho with rfl | ho
    ·simpa using h
    ·exact h2 o ho
   ·exact .inr ⟨j + 1, o, by rw [h1]; congr 1; omega, by simpa using h2, h3⟩
theorem qB (s : St) (esz id k : Nat) : Qh s .v (gSl esz id k) = some (.int .i64 (.ofNat k)) := by cases k <;> rfl
theorem zzJ {l : List DT} {i : Nat} {o : DT} {r : List DT} (hd : l.drop i = o :: r) : wC 5 (wP (i * 5) (xz xu l)) = some (xu o) := by
 rw [u1 wj, hd]; simp only [xz]; exact jc (wj o)
theorem kR {esz id k i : Nat} (h : i < k) : vIa esz (gSl esz id k) (.int .i64 (.ofNat i)) = some (.ptr id (i * esz)) := by
 cases k with
 | zero => omega
 | succ k => simp only [gSl, vIa, Ya .i64 h]; simp
attribute [local go_sem] wU xo xH xF f42 f39 ltF gtF wz wg zmP zmQ zp7 in
theorem znm {O : Orc} (h42 : O 42 = none) (h39 : O 39 = none) (o d : DT) {L : List (Nat × Option AObj)} {n p : Nat} (hp : p < n) (hg : xx L p = some (xX d)) (m : Nat) (b : Bool) :
  (evW env O).call 42 [.agg (xu o), .ptr p 0] (KL L n m b [] none) = some (.bool (vR o d), KL L n m b [] none) := by
 obtain ⟨kd, dn, t, ks, dp⟩ := d; obtain ⟨ok, on, ot, os, op⟩ := o; have c39 := ci f39 h39; simp only [xX, xo] at hg; rw [ci f42 h42 rfl rfl _ _ _ _ _ _ _ (zmv rfl)]; simp only [vR, x9, qL, xo]; simp (disch := first | exact dis | fail) only [go_sem, seval, -rO, -rN, hg, c39]; rfl
attribute [local go_sem] wU xo xH xF f38 f39 ltF gtF wz wg zmP zmQ zp7 in
theorem zng {O : Orc} (h38 : O 38 = none) (h39 : O 39 = none) (o d : DT) {L : List (Nat × Option AObj)} {n p : Nat} (hp : p < n) (hg : xx L p = some (xX d)) (m : Nat) (b : Bool) :
  (evW env O).call 38 [.agg (xu o), .ptr p 0] (KL L n m b [] none) = some (.bool (vR o d), KL L n m b [] none) := by
 obtain ⟨kd, dn, t, ks, dp⟩ := d; obtain ⟨ok, on, ot, os, op⟩ := o; have c39 := ci f39 h39; simp only [xX, xo] at hg; rw [ci f38 h38 rfl rfl _ _ _ _ _ _ _ (zmv rfl)]; simp only [vR, x9, qL, xo]; simp (disch := first | exact dis | fail) only [go_sem, seval, -rO, -rN, hg, c39]; rfl
section
variable {O : Orc}
attribute [local go_sem] qB ltF gtF wz wg zmP zmQ in
theorem ztS (h41 : O 41 = none) {cf : Nat} {own : List DT} {L : List (Nat × Option AObj)} {p lo t : Nat} (hga : GAt t xu L lo n id own) (hk : ∀ o m, (evW env O).call cf [.agg (xu o), .ptr p 0] (KL L n m true [] none) = some (.bool (vR o d), KL L n m true [] none)) (hl : own.length < 1000000000) (m : Nat) (b : Bool) :
  (evW env O).call 41 [gSl 5 id own.length, .fn cf [] [.ptr p 0]] (KL L n m b [] none) = some (.int .i64 (uA 0 own d), KL L n m b [] none) := by
 have key : Cv ((evW env O).call 41 [gSl 5 id own.length, .fn cf [] [.ptr p 0]] (KL L n m b [] none)) fun v t => v = .int .i64 (uA 0 own d) ∧ t = KL L n m b [] none := by
  refine YI (F := f41) h41 rfl rfl (zmv rfl) ?_; unfold f41; simp only [Ko, Ki]; refine xw ?_; refine xJ (xw (xQ ?_)); refine wS (fun i : Nat => own.length - i) (fun i fr s => ∃ T m', fr = ⟨tmL T, []⟩ ∧ s = KL L n m' true [] none ∧ (tmL T).get 0 = some (gSl 5 id own.length) ∧ (tmL T).get 1 = some (.fn cf [] [.ptr p 0]) ∧ (tmL T).get 7 = some (.int .i64 (.ofNat own.length)) ∧ (tmL T).get 8 = some (.int .i64 (.ofNat i)) ∧ m' % 2 ^ n = 0 ∧ i ≤ own.length ∧ uA 0 own d = uA i (own.drop i) d) (fun i fr s hI => ?_) 0 ⟨_, _, rfl, rfl, sW, sW, sW, sW, by simp, oM, rfl⟩
  obtain ⟨T, m', rfl, rfl, h0, h1, h7, h8, hm, hi, he⟩ := hI; rcases x8 own i with ⟨hi, hd⟩ | ⟨o, hi, hd⟩
  ·rw [hd] at he; have hlt : ¬ i < own.length := oM; refine xB ?_; refine xw ?_; refine xB ?_; refine x7 ?_; exact ⟨by rw [he]; rfl, rfl⟩
  ·have hx := fun (hi : i < own.length) => @kR 5 id own.length i hi; replace hx := hx hi; have hc := zzJ hd; obtain ⟨_, _, hg⟩ := hga (by intro h; rw [h] at hi; simp at hi)
   have hk' := hk o; rw [hd] at he; simp only [uA] at he; cases hq : vR o d with
   | true =>
    rw [if_pos hq] at he; rw [hq] at hk'; refine xB ?_; refine x7 ?_; exact ⟨by rw [he], rfl⟩
   | false =>
    rw [if_neg (by rw [hq]; simp)] at he
    rw [hq] at hk'; refine xB ?_; exact ⟨i + 1, ⟨_, _, rfl, rfl, sV, sV, sV, sV, hm, oM, he⟩, oM⟩
 obtain ⟨v, t, h, rfl, rfl⟩ := key; exact h
end
section
variable {O : Orc}
theorem zpO {own : List DT} : (uA 0 own d = .negSucc 0 ∧ (own.any fun o => vR o d) = false) ∨ ∃ j, uA 0 own d = .ofNat j ∧ (own.any fun o => vR o d) = true := by
 rcases lJ own 0 d with ⟨h1, h2⟩ | ⟨j, o, h1, h2, h3⟩
 ·refine .inl ⟨h1, ?_⟩; rw [List.any_eq_false]; intro o ho; rw [h2 o ho]; simp
 ·refine .inr ⟨j, by rw [h1, yy], ?_⟩
  rw [List.any_eq_true]; exact ⟨o, yX h2, h3⟩
attribute [local go_sem] f37 wz wg zmP zmQ in
theorem zs5 (h37 : O 37 = none) (h41 : O 41 = none) {cf : Nat} {own : List DT} {L : List (Nat × Option AObj)} {p lo t : Nat} (hga : GAt t xu L lo n id own) (hk : ∀ o m, (evW env O).call cf [.agg (xu o), .ptr p 0] (KL L n m true [] none) = some (.bool (vR o d), KL L n m true [] none)) (hl : own.length < 1000000000) (m : Nat) (b : Bool) :
  (evW env O).call 37 [gSl 5 id own.length, .fn cf [] [.ptr p 0]] (KL L n m b [] none) = some (.bool (own.any fun o => vR o d), KL L n m b [] none) := by
 have h := fun m b => ztS h41 hga hk hl m b; rw [ci f37 h37 rfl rfl _ _ _ _ _ _ _ (zmv rfl)]; clear hk hga; rcases zpO (own := own) (d := d) with ⟨h1, h2⟩ | ⟨j, h1, h2⟩
 ·rw [h2]; rw [h1] at h; generalize gSl 5 id own.length = g at *; simp (disch := first | exact dis | fail) only [go_sem, seval, -rO, -rN, h]
 ·rw [h2]; rw [h1] at h; generalize gSl 5 id own.length = g at *; simp (disch := first | exact dis | fail) only [go_sem, seval, -rO, -rN, h]
def EnvAt (L : List (Nat × Option AObj)) (n : Nat) (v : AV) (env : List VT) : Prop :=
 v = .lst env.length false (xI env) ∨ ∃ id, id < n ∧ v = .sl id 0 env.length (.opn 7) ∧ xx L id = some (.row vty (xI env) true false)
theorem zpP {L : List (Nat × Option AObj)} {m e k : Nat} {x f : Bool} {y : AV} {new : List AV} (h1 : uO y = some (k + 1)) (h2 : w6 (KL ((n, some (.row e [] x f)) :: L) (n + 1) m false [] none) 7 (k + 1) y = some new) (hb : 2 * (k + 1) * 96 ≤ 281474976710656) :
  jg (KL ((n, some (.row e [] x f)) :: L) (n + 1) m false [] none) vty 7 96 (.sl n 0 0 (.fix 0)) y = some (.sl (n + 1) 0 (k + 1) (.opn 7), KL ((n + 1, some (.row vty new true false)) :: (n, some (.row e [] x f)) :: L) (n + 1 + 1) m false [] none) := by
 have hg : (KL ((n, some (.row e [] x f)) :: L) (n + 1) m false [] none).get n = some (.row e [] x f) := by rw [qc, xi, if_pos rfl]
 have hle : Nat.ble (Nat.add 0 (Nat.succ k)) 0 = false := by
  cases h : Nat.ble (Nat.add 0 (Nat.succ k)) 0 with
  | false => rfl
  | true => have := xN.1 h; simp at this
 simp only [jg, h1, h2, ZW, hg, hle, cond_false]; rw [show cut [] 0 (zb 0 7) = some ([] : List AV) from rfl]; simp only [zmy]; rw [KR oM (by show 2 * (0 + (k + 1)) * 96 ≤ _; omega) (by show 0 + (k + 1) < _; omega)]
 rw [show Nat.add 0 (Nat.succ k) = k + 1 from yy _]; rfl
theorem EnvAt.src {L : List (Nat × Option AObj)} {m : Nat} {env : List VT} {b : Bool} (h : EnvAt L n v env) : uO v = some env.length ∧ w6 (KL L n m b [] none) 7 env.length v = some (xI env) := by
 rcases h with rfl | ⟨id, _, rfl, hg⟩
 ·refine ⟨rfl, ?_⟩; simp only [w6]; rw [show zb env.length 7 = (xI env).length from (q9 env).symm]; exact uh rfl
 ·exact Yl (s := KL L n m b [] none) (j := 0) (by rw [qc]; exact hg) (q9 env)
theorem EnvAt.ext {L L2 : List (Nat × Option AObj)} {n2 : Nat} {env : List VT} (h : EnvAt L n v env) (hn : n ≤ n2) (hfr : ∀ id, id < n → xx L id = some (.row vty (xI env) true false) → xx L2 id = xx L id) : EnvAt L2 n2 v env := by
 rcases h with rfl | ⟨id, h1, rfl, hg⟩
 ·exact .inl rfl
 ·exact .inr ⟨id, oM, rfl, by rw [hfr id h1 hg]; exact hg⟩
attribute [local go_sem] wz wg zmP zmQ in
theorem zvS (h57 : O 57 = none) {env0 : List VT} (hne : env0 ≠ []) (hl : env0.length < 1000000000) {L : List (Nat × Option AObj)} {m : Nat} (he : EnvAt L n v env0) (hw : WfA L n) (b : Bool) :
  Cv ((evW env O).call 57 [v] (KL L n m b [] none)) fun v2 t => ∃ id L2 n2 m2, v2 = .sl id 0 env0.length (.opn 7) ∧ t = KL L2 n2 m2 b [] none ∧ n ≤ id ∧ id < n2 ∧ xx L2 id = some (.row vty (xI env0) true false) ∧ WfA L2 n2 ∧ ∀ j, j < n → xx L2 j = xx L j := by
 refine qA (F := f57) h57 rfl rfl (zmv rfl) ?_; obtain ⟨k, hk⟩ : ∃ k, env0.length = k + 1 := by
  cases env0 with
  | nil => exact absurd rfl hne
  | cons x r => exact ⟨r.length, rfl⟩
 have heq : zzm .slice false v .nils = some (.bool false) := by
  rcases he with rfl | ⟨id, _, rfl, _⟩
  ·rw [hk]; rfl
  ·rfl
 have ha := fun e x f m => by
  have he2 : EnvAt ((n, some (.row e [] x f)) :: L) (n + 1) v env0 := he.ext (zmO _) (fun j hj _ => by rw [xi, if_neg oM])
  obtain ⟨q1, q2⟩ := he2.src (m := m) (b := false); rw [hk] at q1 q2; exact zpP q1 q2 oM
 rw [hk]; clear he hne; unfold f57; simp only [Ko]; refine xw ?_; refine xw ?_; refine xw ?_; refine xB ?_; refine x7 ?_; refine ⟨n + 1, _, _, _, rfl, rfl, zmO _, yx _, by rw [xi, if_pos rfl], (hw.cons (yx _) (zmO _)).cons (yx _) (zmO _), fun j hj => by rw [xi, if_neg oM, xi, if_neg oM]⟩
end
open Int (reduceOfNat reduceNegSucc)
structure FrAt (L : List (Nat × Option AObj)) (n n0 no fp : Nat) (d : DT) (id : Nat) (gs : List AV) (k : Nat) : Prop where
 hp : fp < n0
 lt : n0 + 4 ≤ no ∧ no + 1 ≤ n
 gf : xx L n0 = some (.row 52 [.ptr fp 0] false false)
 gd : xx L (n0 + 1) = some (xX d)
 go : xx L no = some (.row 23 [gSl 5 id k] false false)
 gl : gs.length = k * 5
 ga : k ≠ 0 → no + 1 ≤ id ∧ id < n ∧ xx L id = some (.row 25 gs true false)
section
variable {O : Orc}
attribute [local go_sem] wU xo xH xF wc ltF gtF wz wg zmP zmQ zmU zmR ue qB in
theorem zq4 (h44 : O 44 = none) (h40 : O 40 = none) {vs : List VarT} {own : AV} {next pos made e : Int} {L : List (Nat × Option AObj)} {m n0 no fp k : Nat} {gs : List AV} (hF : FrAt L n n0 no fp d id gs k) (hw : WfA L n) (hg : xx L fp = some (ua vs own next pos made e)) (hl : k < 1000000000000) {xk xn xp : Int} {xt : List Nat} {ks : AV} (hs : scal ks = true) (b : Bool) :
  Cv ((evW env O).call 44 [.agg [.int .i64 xk, .int .i64 xn, .str xt, ks, .int .i64 xp], .ptr (n0 + 1) 0, .ptr n0 0, .ptr no 0] (KL L n m b [] none)) fun v t => ∃ made2 e2 id2 L2 n2 m2, t = KL L2 n2 m2 b [] none ∧ WfA L2 n2 ∧ n ≤ n2 ∧ n ≤ id2 ∧ FrAt L2 n2 n0 no fp d id2 (gs ++ [.int .i64 xk, .int .i64 xn, .str xt, ks, .int .i64 xp]) (k + 1) ∧ xx L2 fp = some (ua vs own next pos made2 e2) ∧ ∀ j, j < n → j ≠ fp → j ≠ no → (k ≠ 0 → j ≠ id) → xx L2 j = xx L j := by
 refine qA (F := f44) h44 rfl rfl (zmv rfl) ?_; have hfp := hF.hp; have hlt := hF.lt; have gf := hF.gf; have gd := hF.gd; have g4 := hF.go; have gl := hF.gl; have ga := hF.ga; have hs' := hs; simp only [scal] at hs'; unfold f44; simp only [Ko, Kd, Kf, Ki]; obtain ⟨dk, dn, dt, ds, dp⟩ := d; simp only [xX, xo] at gd; refine xw ?_; refine Y3 (fun fr s => ∃ T L2 m2 made2 e2, fr = ⟨tmL T, []⟩ ∧ s = KL L2 (n + 1) m2 false [] none ∧ (tmL T).get 3 = some (.ptr no 0) ∧ (tmL T).get 4 = some (.ptr n 0) ∧ xx L2 n = some (.row 25 [.int .i64 xk, .int .i64 xn, .str xt, ks, .int .i64 xp] false false) ∧ WfA L2 (n + 1) ∧ xx L2 fp = some (ua vs own next pos made2 e2) ∧ (∀ j, j < n → j ≠ fp → xx L2 j = xx L j)) ?_ fun fr s hI => ?_
 ·refine xJ (xB ?_); cases h6 : eqD dk (.ofNat 6) with
  | true =>
   refine Y2 sV ?_; refine uy ?_; refine wL (QW h40 (by rw [xi, if_neg oM]; exact hg) false) fun v t hv => ?_
   obtain ⟨made2, e2, L2, m2, rfl, hg2, hfr⟩ := hv; have hn := hfr n oM; rw [xi, if_pos rfl] at hn; refine xB ?_; refine ⟨_, L2, m2, made2, e2, rfl, rfl, sW, sW, hn, fun j hj => ?_, hg2, fun j h1 h2 => ?_⟩
   ·rw [hfr j oM, xi, if_neg oM]; exact hw j oM
   ·rw [hfr j h2, xi, if_neg oM]
  | false =>
   refine Y1 sV ?_; refine xB ?_; exact ⟨_, _, _, made, e, rfl, rfl, sW, sW, by rw [xi, if_pos rfl], hw.cons (yx _) (zmO _), by rw [xi, if_neg oM]; exact hg, fun j h1 _ => by rw [xi, if_neg oM]⟩
 ·obtain ⟨T, L2, m2, made2, e2, rfl, rfl, t3, t4, hgn, hw2, hg2, hfr2⟩ := hI; rw [← hfr2 n0 oM oM] at gf; rw [← hfr2 (n0 + 1) oM oM] at gd; rw [← hfr2 no oM oM] at g4; clear hg hw hF; replace hfr2 : ∀ j, j < n → j ≠ fp → xx L j = xx L2 j := fun j h1 h2 => (hfr2 j h1 h2).symm; cases k with
  | zero =>
   have hgs : gs = [] := List.length_eq_zero_iff.1 oM; subst hgs; have ha := fun L n m e x f => @J0 L n m 25 e 5 64 [.int .i64 (.ofNat 0), .int .i64 (.ofNat 0), .str [], .nils, .int .i64 (.ofNat 0)] x f rfl oM oM; simp only [gSl] at g4; clear ga gl; refine xB ?_; refine x7 ?_; refine ⟨made2, e2, n + 1 + 1, _, _, _, rfl, ?_, ?_, ?_, ⟨hfp, ?_, ?_, ?_, ?_, rfl, ?_⟩, ?_, ?_⟩
   ·repeat (first | exact hw2.up oM | refine WfA.same ?_ oM)
   ·omega
   ·omega
   ·omega
   ·(repeat (rw [xi, if_neg oM])); exact gf
   ·(repeat (rw [xi, if_neg oM])); simp only [xX, xo]; exact gd
   ·rw [xi, if_pos rfl]; rfl
   ·exact fun _ => ⟨oM, oM, by rw [xi, if_neg oM, xi, if_pos rfl]; rfl⟩
   ·(repeat (rw [xi, if_neg oM])); exact hg2
   ·intro j h1 h2 h3 h4
    (repeat (rw [xi, if_neg oM])); exact (hfr2 j oM h2).symm
  | succ k =>
   obtain ⟨hid, hid2, hgi⟩ := ga oM; rw [hfr2 id hid2 oM] at hgi; rw [show gSl 5 id (k + 1) = .sl id 0 (k + 1) (.opn 5) from rfl] at g4; generalize hK : k + 1 = K at *; have ha := fun m e x f => @J2 L2 (n + 1) m 25 e 5 64 id K false gs [.int .i64 (.ofNat 0), .int .i64 (.ofNat 0), .str [], .nils, .int .i64 (.ofNat 0)] x f oM hgi gl rfl oM rfl oM oM; have hpas : vr (gs ++ [.int .i64 (.ofNat 0), .int .i64 (.ofNat 0), .str [], .nils, .int .i64 (.ofNat 0)]) (K * 5) [.int .i64 xk, .int .i64 xn, .str xt, ks, .int .i64 xp] = some (gs ++ [.int .i64 xk, .int .i64 xn, .str xt, ks, .int .i64 xp]) := by
    have := @ja gs [.int .i64 (.ofNat 0), .int .i64 (.ofNat 0), .str [], .nils, .int .i64 (.ofNat 0)] [] [.int .i64 xk, .int .i64 xn, .str xt, ks, .int .i64 xp] (K * 5) gl rfl
    simpa only [zmw] using this
   clear ga; refine xB ?_; refine x7 ?_; refine ⟨made2, e2, n + 1 + 1, _, _, _, rfl, ?_, ?_, ?_, ⟨hfp, ?_, ?_, ?_, ?_, ?_, ?_⟩, ?_, ?_⟩
   ·repeat (first | exact hw2.up oM | refine WfA.same ?_ oM)
   ·omega
   ·omega
   ·omega
   ·(repeat (rw [xi, if_neg oM])); exact gf
   ·(repeat (rw [xi, if_neg oM])); simp only [xX, xo]; exact gd
   ·rw [xi, if_pos rfl]; rfl
   ·rw [yd, gl]; simp only [y8, y7]; omega
   ·exact fun _ => ⟨oM, oM, by rw [xi, if_neg oM, xi, if_pos rfl]⟩
   ·(repeat (rw [xi, if_neg oM])); exact hg2
   ·intro j h1 h2 h3 h4; have := h4 oM
    (repeat (rw [xi, if_neg oM])); exact (hfr2 j oM h2).symm
end
theorem zp1 {a b : List VT} {w : VT} {i o q : Nat} {x y z : List AV} (ha : a.length = i) (hx : qY w = x ++ (y ++ z)) (ho : x.length = o) (hq : y.length = q) : wC q (wP (i * 7 + o) (xI (a ++ w :: b))) = some y := by
 have h := @gw (xI a ++ x) y (z ++ xI b) (i * 7 + o) q (by rw [yd, q9, ha, ho]) hq
 rw [vN, vU, hx]
 simpa only [zmI] using h
theorem EnvAt.rd {L : List (Nat × Option AObj)} {ws : List VT} (h : EnvAt L n v ws) {i dp : Nat} {ms : List VT} (hi : i < ws.length) (hw : ws[i] = .mk dp d ms) :
  ∃ q q1 q6, vIa 7 v (.int .i64 (.ofNat i)) = some q ∧ vFa 1 q = some q1 ∧ vFa 6 q = some q6 ∧ (∀ m b, Ys env.globs (KL L n m b [] none) 5 q1 = some (.agg (xu d))) ∧ (∀ m b, vLd env.globs (KL L n m b [] none) q6 = some (.lst ms.length false (xI ms))) ∧ ∀ m b, Ys env.globs (KL L n m b [] none) 7 q = some (.agg (qY (.mk dp d ms))) := by
 have hd : ws.drop i = .mk dp d ms :: ws.drop (i + 1) := by rw [zmL hi, hw]
 have hsp : ws = ws.take i ++ .mk dp d ms :: ws.drop (i + 1) := by rw [← hd, zmT]
 have hti : (ws.take i).length = i := by rw [zmW]; omega
 obtain ⟨dk, dn, dt, ds, dq⟩ := d; rcases h with rfl | ⟨id, hid, rfl, hg⟩
 ·refine ⟨_, _, _, zos rfl hd false, rfl, rfl, fun m b => ?_, fun m b => ?_, fun m b => ?_⟩
  ·rw [Qo]; simp only [vc, xo]; rfl
  ·rw [zsI]; simp only [vc, xo]; rfl
  ·rw [Qo]; simp only [vc, xo]; rfl
 ·refine ⟨.ptr id (i * 7), .ptr id (i * 7 + 1), .ptr id (i * 7 + 6), ?_, rfl, rfl, fun m b => ?_, fun m b => ?_, fun m b => ?_⟩
  ·simp only [vIa, Ya .i64 hi]; congr 2; exact yy _
  ·rw [Xw, qc, hg, hsp]; have := @zp1 (ws.take i) (ws.drop (i + 1)) (.mk dp (.mk dk dn dt ds dq) ms) i 1 5 [.int .i64 (.ofNat dp)] (xu (.mk dk dn dt ds dq)) [.lst ms.length false (xI ms)] hti (by rw [vc]; rfl) rfl (wj _)
   simp only [pW, gZ, this, Ze]
  ·rw [zyB, qc, hg, hsp]; have := @zp1 (ws.take i) (ws.drop (i + 1)) (.mk dp (.mk dk dn dt ds dq) ms) i 6 1 (.int .i64 (.ofNat dp) :: xu (.mk dk dn dt ds dq)) [.lst ms.length false (xI ms)] [] hti (by rw [vc]; simp) (by simp only [y8, wj]) rfl
   simp only [pW, gZ, this, Vy]; rfl
  ·rw [Xw, qc, hg, hsp]; have := @zp1 (ws.take i) (ws.drop (i + 1)) (.mk dp (.mk dk dn dt ds dq) ms) i 0 7 [] (qY (.mk dp (.mk dk dn dt ds dq) ms)) [] hti (by simp) rfl (ju _)
   rw [yB] at this; simp only [pW, gZ, this, Ze]
mutual
def qm : DT → List DT
 | .mk k n t ks p => if eqD k (.ofNat 5) = true then [.mk k n t ks p] else qS ks
def qS : List DT → List DT
 | [] => []
 | d :: r => qm d ++ qS r
end
def SymOk (P : DT → Prop) (d : DT) : Prop := ∀ s ∈ qm d, P s
theorem JR : ∀ {l : List DT} {d s : DT}, d ∈ l → s ∈ qm d → s ∈ qS l
 | [], _, _, h, _ => by cases h
 | x :: r, d, s, h, hs => by
  simp only [qS, List.mem_append]; rcases List.mem_cons.1 h with rfl | h
  ·exact .inl hs
  ·exact .inr (JR h hs)
theorem Zx : ∀ {l : List DT} {s : DT}, s ∈ qS l → ∃ d ∈ l, s ∈ qm d
 | [], _, h => by simp only [qS] at h; cases h
 | x :: r, s, h => by
  simp only [qS, List.mem_append] at h; rcases h with h | h
  ·exact ⟨x, by simp, h⟩
  ·obtain ⟨d, h1, h2⟩ := Zx h; exact ⟨d, yD _ h1, h2⟩
theorem Zw (h : eqD (xE d) (.ofNat 5) = true) : qm d = [d] := by
 obtain ⟨k, n, t, ks, p⟩ := d; simp only [xE] at h; simp only [qm, h, if_true]
theorem u9 (h : eqD (xE d) (.ofNat 5) = false) : qm d = qS (wi d) := by
 obtain ⟨k, n, t, ks, p⟩ := d; simp only [xE] at h; simp only [qm, h, zB, if_false, wi]
theorem Ud (P : DT → Prop) : SymOk P wO := fun s hs => by
 rw [u9 (d := wO) rfl] at hs; simp only [wO, wi, qS] at hs; cases hs
theorem Yn {P : DT → Prop} {k n p : Int} {t : List Nat} {ks : List DT} (hk : eqD k (.ofNat 5) = false) (h : ∀ x ∈ ks, SymOk P x) : SymOk P (.mk k n t ks p) := fun s hs => by
 rw [u9 (d := .mk k n t ks p) hk] at hs; obtain ⟨d, h1, h2⟩ := Zx hs; exact h d h1 s h2
theorem SymOk.kid {P : DT → Prop} {x : DT} (h : SymOk P d) (hk : eqD (xE d) (.ofNat 5) = false) (hx : x ∈ wi d) : SymOk P x := fun s hs => h s (by rw [u9 hk]; exact JR hx hs)
theorem WS {P : DT → Prop} : ∀ (N : Nat) (d : DT), xq d < N → SymOk P d → (∀ x ∈ (xL d).1, SymOk P x) ∧ SymOk P (xL d).2
 | 0, d, h, _ => absurd h (zms _)
 | N + 1, d, h, hd => by
  cases hk : we d with
  | none => rw [qi hk]; exact ⟨fun x hx => absurd hx (by simp), hd⟩
  | some xy =>
   obtain ⟨x, y⟩ := xy; rw [w7 hk]; obtain ⟨dk, dn, dt, ds, dp⟩ := d; obtain ⟨rfl, rfl⟩ := wW hk; have h1 := wx (.mk (.ofNat 6) dn dt [x, y] dp); simp only [wi, xO] at h1; have hy : SymOk P y := hd.kid rfl (by simp [wi])
   have hx : SymOk P x := hd.kid rfl (by simp [wi])
   have ih := WS N y oM hy; refine ⟨fun z hz => ?_, ih.2⟩; rcases List.mem_cons.1 hz with rfl | hz
   ·exact hx
   ·exact ih.1 z hz
mutual
def pe (R : DT → Prop) : VT → Prop
 | .mk _ d ms => R d ∧ wY R ms
def wY (R : DT → Prop) : List VT → Prop
 | [] => True
 | v :: r => pe R v ∧ wY R r
end
theorem uF {R : DT → Prop} : ∀ {l : List VT}, wY R l ↔ ∀ v ∈ l, pe R v
 | [] => by simp [wY]
 | v :: r => by simp only [wY, zmE, forall_eq_or_imp, uF (l := r)]
theorem Yt {R : DT → Prop} {a b : List VT} (ha : wY R a) (hb : wY R b) : wY R (a ++ b) := by
 rw [uF] at ha hb ⊢; intro v hv; rcases List.mem_append.1 hv with h | h
 ·exact ha v h
 ·exact hb v h
structure Clo (R : DT → Prop) : Prop where
 zero : R wO
 kid : ∀ {d x : DT}, R d → eqD (xE d) (.ofNat 5) = false → x ∈ wi d → R x
theorem Clo.items {R : DT → Prop} (C : Clo R) : ∀ (N : Nat) (d : DT), xq d < N → R d → (∀ x ∈ (xL d).1, R x) ∧ R (xL d).2
 | 0, d, h, _ => absurd h (zms _)
 | N + 1, d, h, hd => by
  cases hk : we d with
  | none => rw [qi hk]; exact ⟨fun x hx => absurd hx (by simp), hd⟩
  | some xy =>
   obtain ⟨x, y⟩ := xy; rw [w7 hk]; obtain ⟨dk, dn, dt, ds, dp⟩ := d; obtain ⟨rfl, rfl⟩ := wW hk; have h1 := wx (.mk (.ofNat 6) dn dt [x, y] dp); simp only [wi, xO] at h1; have hy : R y := C.kid hd rfl (by simp [wi])
   have hx : R x := C.kid hd rfl (by simp [wi])
   have ih := C.items N y oM hy; refine ⟨fun z hz => ?_, ih.2⟩; rcases List.mem_cons.1 hz with rfl | hz
   ·exact hx
   ·exact ih.1 z hz
theorem GG {R : DT → Prop} (C : Clo R) : ∀ (vs : List VarT) {rows : List (List VT)} (j : Nat), (∀ r ∈ rows, wY R r) → wY R (jl vs rows j)
 | [], _, _, _ => by simp only [jl, wY]
 | v :: r, rows, j, h => by
  simp only [jl, wY, pe]; refine ⟨⟨C.zero, uF.2 fun w hw => ?_⟩, GG C r (j + 1) h⟩; obtain ⟨row, h1, h2⟩ := List.mem_filterMap.1 hw; exact uF.1 (h row h1) w (yX h2)
theorem HX {R : DT → Prop} {M : DT → DT → Option (List VT)} {p : DT} : ∀ {l : List DT} {rows : List (List VT)}, (∀ x ∈ l, ∀ vs, M p x = some vs → wY R vs) → kc M p l = some rows → ∀ r ∈ rows, wY R r
 | [], rows, _, h, r, hr => by simp only [kc, zv] at h; subst h; cases hr
 | x :: l, rows, hM, h, r, hr => by
  simp only [kc] at h; split at h
  ·cases h
  ·rename_i v hv
   split at h
   ·cases h
   ·rename_i vs hvs
    simp only [zv] at h; subst h; rcases List.mem_cons.1 hr with rfl | hr
    ·exact hM x (by simp) _ hv
    ·exact HX (fun y hy => hM y (yD _ hy)) hvs r hr
theorem K9 {R : DT → Prop} (C : Clo R) {M : DT → DT → Option (List VT)} {ls : wa} {a : Int} {c : Nat} : ∀ {ps : List wy} {i : Nat} {l : List DT} {out : List VT}, (∀ p ∈ ps, ∀ x ∈ l, ∀ vs, M p.1 x = some vs → wY R vs) → jZ M ls a c i ps l = some out → wY R out
 | [], _, _, out, _, h => by simp only [jZ, zv] at h; subst h; simp only [wY]
 | p :: ps, i, l, out, hM, h => by
  simp only [jZ] at h; split at h
  ·cases l with
   | nil => cases h
   | cons x r =>
    simp only at h; split at h
    ·cases h
    ·rename_i vs hvs
     split at h
     ·cases h
     ·rename_i ws hws
      simp only [zv] at h; subst h; exact Yt (hM p (by simp) x (by simp) vs hvs) (K9 C (fun q hq y hy => hM q (by simp [hq]) y (by simp [hy])) hws)
  ·split at h
   ·cases h
   ·rename_i rows hrows
    split at h
    ·cases h
    ·rename_i ws hws
     simp only [zv] at h; subst h; refine Yt (GG C _ _ (HX (fun x hx => hM p (by simp) x (zmX hx)) hrows)) (K9 C (fun q hq y hy => hM q (by simp [hq]) y (zmC hy)) hws)
theorem US {R : DT → Prop} (C : Clo R) : ∀ (k : Nat) (d : DT), R d → k ≤ (xL d).1.length → R (ul k d)
 | 0, _, h, _ => h
 | k + 1, d, h, hl => by
  cases hk : we d with
  | none => rw [qi hk] at hl; simp at hl
  | some xy =>
   obtain ⟨x, y⟩ := xy; rw [w7 hk] at hl; obtain ⟨dk, dn, dt, ds, dp⟩ := d; obtain ⟨rfl, rfl⟩ := wW hk; simp only [ul, wi, zm7, zm8]; simp only [y8] at hl; have hy : R y := C.kid h rfl (by simp [wi])
   exact US C k y hy oM
theorem VI {R : DT → Prop} (C : Clo R) {ls : wa} : ∀ (N : Nat) (p f : DT) (vs : List VT), xq p < N → wI p = true → R f → wu ls p f = some vs → wY R vs
 | 0, p, _, _, h, _, _, _ => absurd h (zms _)
 | N + 1, p, f, vs, hN, hmay, hf, h => by
  rw [ug hmay] at h; unfold uB at h; cases hv : lq ls p with
  | true =>
   rw [hv, if_pos rfl] at h; simp only [zv] at h; subst h; simp only [wY, pe, and_true]; exact hf
  | false =>
   rw [hv, if_neg (by simp)] at h
   cases hm : wE p with
   | false =>
    have h0 : vs = [] := by
     split at h
     ·cases h
     ·split at h
      ·split at h
       ·simp only [zv] at h; exact h.symm
       ·cases h
      ·split at h
       ·simp only [zv] at h; exact h.symm
       ·split at h
        ·simp only [zv] at h; exact h.symm
        ·cases h
    rw [h0]; simp only [wY]
   | true =>
    have h5 := kU hm; rw [YS h5, h5, hm, if_neg (by simp), if_neg (by simp), if_neg (by simp), if_neg (by simp)] at h
    have hit := v4 (e := vm ls) hmay hm; have hend := kW hmay hm; cases hvf : (eqD (xE p) (.ofNat 7) && !eqD (xE f) (.ofNat 7)) with
    | true => rw [hvf, if_pos rfl] at h; cases h
    | false =>
     rw [hvf, if_neg (by simp)] at h
     unfold kV Ye at h; generalize hv7 : eqD (xE p) (.ofNat 7) = v at *; have hdat : ∀ x ∈ v8 v f, R x := fun x hx => by
      unfold v8 at hx; split at hx
      ·rename_i hvt
       rw [hvt] at hvf; have hf7 : eqD (xE f) (.ofNat 7) = true := by
        cases hh : eqD (xE f) (.ofNat 7) with
        | true => rfl
        | false => rw [hh] at hvf; cases hvf
       have hk : xE f = .ofNat 7 := of_decide_eq_true hf7; exact C.kid hf (by rw [hk]; rfl) hx
      ·exact (C.items _ f (yx _) hf).1 x hx
     have key : ∃ data rest c, gS (wu ls) ls v (lS (xS (vm ls) (xr p).1 [] true).1 0 (-1)).1 (xS (vm ls) (xr p).1 [] true).1 data (xr p).2 rest c = some vs ∧ (∀ x ∈ data, R x) ∧ (v = false → R rest) := by
      split at h
      ·cases h
      ·rename_i hg
       split at h
       ·rename_i hb
        refine ⟨_, _, _, h, fun x hx => hdat x (zmX hx), fun hvv => US C _ f hf ?_⟩; subst hvv; simp only [ZN, Bool.and_eq_false_iff, not_or] at hg; have h3 := hg.2.2.1; simp only [v8, zB, if_false, Bool.not_eq_false, zm2, decide_eq_false_iff_not] at h3; omega
       ·exact ⟨_, _, _, h, hdat, fun _ => (C.items _ f (yx _) hf).2⟩
     obtain ⟨data, rest, c, h, hd, hr⟩ := key; unfold gS at h; split at h
     ·cases h
     ·rename_i out hout
      have ho : wY R out := K9 C (fun q hq x hx ws hws => VI C N q.1 x ws (by have := hit q hq; omega) (hit q hq).1 (hd x hx) hws) hout
      unfold Uf at h; split at h
      ·simp only [zv] at h; rw [← h]; exact ho
      ·rename_i hvv
       have hvv' : v = false := by simpa using hvv
       split at h
       ·cases h
       ·rename_i ws hws
        simp only [zv] at h; rw [← h]; have he := hend hvv'; exact Yt ho (VI C N _ rest ws oM he.1 (hr hvv') hws)
mutual
def szV : VT → Nat
 | .mk _ _ ms => 1 + szL ms
def szL : List VT → Nat
 | [] => 0
 | v :: r => szV v + szL r
end
theorem kX : ∀ a b : List DT, xO (a ++ b) = xO a + xO b
 | [], b => by simp only [zmy, xO, yy]
 | x :: a, b => by simp only [y9, xO, kX a b, zI]
theorem gH {l : List DT} (k : Nat) : xO (l.take k) ≤ xO l := by
 conv => rhs; rw [← zmT k l, kX]
 omega
theorem KZ {l : List DT} (k : Nat) : xO (l.drop k) ≤ xO l := by
 conv => rhs; rw [← zmT k l, kX]
 omega
theorem HY {M : DT → DT → Option (List VT)} {p : DT} {j : Nat} : ∀ {l : List DT} {rows : List (List VT)}, (∀ x ∈ l, ∀ vs, M p x = some vs → ∀ v ∈ vs, szV v ≤ xq x) → kc M p l = some rows → szL (rows.filterMap (·[j]?)) ≤ xO l
 | [], rows, _, h => by simp only [kc, zv] at h; subst h; simp [szL]
 | x :: l, rows, hM, h => by
  simp only [kc] at h; split at h
  ·cases h
  ·rename_i v hv
   split at h
   ·cases h
   ·rename_i vs hvs
    simp only [zv] at h; subst h; have ih := HY (j := j) (fun y hy => hM y (yD _ hy)) hvs; simp only [List.filterMap_cons, xO]; cases hj : v[j]? with
    | none => simp only; omega
    | some w =>
     have := hM x (by simp) v hv w (yX hj)
     simp only [szL]; omega
theorem GH : ∀ (vs : List VarT) {rows : List (List VT)} {K : Nat} (j : Nat), (∀ j : Nat, szL (rows.filterMap fun r : List VT => r[j]?) ≤ K) → ∀ v ∈ jl vs rows j, szV v ≤ 1 + K
 | [], _, _, _, _, v, hv => by simp only [jl] at hv; cases hv
 | w :: r, rows, K, j, h, v, hv => by
  simp only [jl] at hv; rcases List.mem_cons.1 hv with rfl | hv
  ·simp only [szV]; have := h j; omega
  ·exact GH r (j + 1) h v hv
theorem Ga {M : DT → DT → Option (List VT)} {ls : wa} {a : Int} {c : Nat} : ∀ {ps : List wy} {i : Nat} {l : List DT} {out : List VT}, (∀ p ∈ ps, ∀ x ∈ l, ∀ vs, M p.1 x = some vs → ∀ v ∈ vs, szV v ≤ xq x) → jZ M ls a c i ps l = some out → ∀ v ∈ out, szV v ≤ 1 + xO l
 | [], _, _, out, _, h, v, hv => by simp only [jZ, zv] at h; subst h; cases hv
 | p :: ps, i, l, out, hM, h, v, hv => by
  simp only [jZ] at h; split at h
  ·cases l with
   | nil => cases h
   | cons x r =>
    simp only at h; split at h
    ·cases h
    ·rename_i vs hvs
     split at h
     ·cases h
     ·rename_i ws hws
      simp only [zv] at h; subst h; simp only [xO]; rcases List.mem_append.1 hv with hv | hv
      ·have := hM p (by simp) x (by simp) vs hvs v hv; omega
      ·have := Ga (fun q hq y hy => hM q (by simp [hq]) y (by simp [hy])) hws v hv; omega
  ·split at h
   ·cases h
   ·rename_i rows hrows
    split at h
    ·cases h
    ·rename_i ws hws
     simp only [zv] at h; subst h; rcases List.mem_append.1 hv with hv | hv
     ·have h1 := GH _ 0 (fun j => HY (j := j) (fun x hx => hM p (by simp) x (zmX hx)) hrows) v hv
      have := gH (l := l) c; omega
     ·have h1 := Ga (fun q hq y hy => hM q (by simp [hq]) y (zmC hy)) hws v hv
      have := KZ (l := l) c; omega
theorem VJ {ls : wa} : ∀ (N : Nat) (p f : DT) (vs : List VT), xq p < N → wI p = true → wu ls p f = some vs → (∀ v ∈ vs, szV v ≤ xq f)
 | 0, p, _, _, h, _, _ => absurd h (zms _)
 | N + 1, p, f, vs, hN, hmay, h => by
  rw [ug hmay] at h; unfold uB at h; cases hv : lq ls p with
  | true =>
   rw [hv, if_pos rfl] at h; simp only [zv] at h; subst h; intro v hv; simp only [zmE, zmD, or_false] at hv; subst hv; exact xR f
  | false =>
   rw [hv, if_neg (by simp)] at h
   cases hm : wE p with
   | false =>
    have h0 : vs = [] := by
     split at h
     ·cases h
     ·split at h
      ·split at h
       ·simp only [zv] at h; exact h.symm
       ·cases h
      ·split at h
       ·simp only [zv] at h; exact h.symm
       ·split at h
        ·simp only [zv] at h; exact h.symm
        ·cases h
    rw [h0]; intro v hv; cases hv
   | true =>
    have h5 := kU hm; rw [YS h5, h5, hm, if_neg (by simp), if_neg (by simp), if_neg (by simp), if_neg (by simp)] at h
    have hit := v4 (e := vm ls) hmay hm; have hend := kW hmay hm; cases hvf : (eqD (xE p) (.ofNat 7) && !eqD (xE f) (.ofNat 7)) with
    | true => rw [hvf, if_pos rfl] at h; cases h
    | false =>
     rw [hvf, if_neg (by simp)] at h
     unfold kV Ye at h; generalize hv7 : eqD (xE p) (.ofNat 7) = v at *; have hdat : 1 + xO (v8 v f) ≤ xq f := by
      unfold v8; split
      ·have := wx f; omega
      ·have := va f; have := xR (xL f).2; omega
     have key : ∃ data rest c, gS (wu ls) ls v (lS (xS (vm ls) (xr p).1 [] true).1 0 (-1)).1 (xS (vm ls) (xr p).1 [] true).1 data (xr p).2 rest c = some vs ∧ 1 + xO data ≤ xq f ∧ xq rest ≤ xq f := by
      split at h
      ·cases h
      ·split at h
       ·exact ⟨_, _, _, h, by have := gH (l := v8 v f) (j7 (lS (xS (vm ls) (xr p).1 [] true).1 0 (-1)).1 (xS (vm ls) (xr p).1 [] true).1.length); omega, lP _ f⟩
       ·exact ⟨_, _, _, h, hdat, by have := va f; omega⟩
     obtain ⟨data, rest, c, h, hd, hr⟩ := key; unfold gS at h; split at h
     ·cases h
     ·rename_i out hout
      have ho : ∀ v ∈ out, szV v ≤ xq f := fun v hv => zt (Ga (fun q hq x hx ws hws => VJ N q.1 x ws (by have := hit q hq; omega) (hit q hq).1 hws) hout v hv) hd
      unfold Uf at h; split at h
      ·simp only [zv] at h; rw [← h]; exact ho
      ·rename_i hvv
       have hvv' : v = false := by simpa using hvv
       split at h
       ·cases h
       ·rename_i ws hws
        simp only [zv] at h; rw [← h]; have he := hend hvv'; intro v hv; rcases List.mem_append.1 hv with hv | hv
        ·exact ho v hv
        ·exact zt (VJ N _ rest ws oM he.1 hws v hv) hr
mutual
def DAt (A : Nat → Prop) (L : List (Nat × Option AObj)) : DT → List AV → Prop
 | .mk k n t xs p, cs => ∃ ks, cs = [.int .i64 k, .int .i64 n, .str t, ks, .int .i64 p] ∧ (ks = .lst xs.length false (xC xs) ∨ (xs = [] ∧ ks = .nils) ∨ ∃ id c e x f gs, ks = .sl id 0 xs.length c ∧ A id ∧ xx L id = some (.row e gs x f) ∧ DAtL A L xs gs)
def DAtL (A : Nat → Prop) (L : List (Nat × Option AObj)) : List DT → List AV → Prop
 | [], gs => gs = []
 | x :: r, gs => ∃ a b, gs = a ++ b ∧ DAt A L x a ∧ DAtL A L r b
end
section
variable {A A' : Nat → Prop} {L L' : List (Nat × Option AObj)}
theorem DAt.len {cs : List AV} (h : DAt A L d cs) : cs.length = 5 := by
 obtain ⟨k, n, t, xs, p⟩ := d; simp only [DAt] at h; obtain ⟨ks, rfl, _⟩ := h; rfl
mutual
theorem DAt.mono (ha : ∀ id, A id → A' id) (hl : ∀ id, A id → xx L' id = xx L id) : ∀ {d : DT} {cs : List AV}, DAt A L d cs → DAt A' L' d cs
 | .mk k n t xs p, cs, h => by
  simp only [DAt] at h ⊢; obtain ⟨ks, rfl, h⟩ := h; refine ⟨ks, rfl, ?_⟩; rcases h with h | h | ⟨id, c, e, x, f, gs, rfl, h1, h2, h3⟩
  ·exact .inl h
  ·exact .inr (.inl h)
  ·exact .inr (.inr ⟨id, c, e, x, f, gs, rfl, ha id h1, by rw [hl id h1]; exact h2, DAtL.mono ha hl h3⟩)
theorem DAtL.mono (ha : ∀ id, A id → A' id) (hl : ∀ id, A id → xx L' id = xx L id) : ∀ {l : List DT} {gs : List AV}, DAtL A L l gs → DAtL A' L' l gs
 | [], gs, h => by simpa only [DAtL] using h
 | x :: r, gs, h => by
  simp only [DAtL] at h ⊢; obtain ⟨a, b, rfl, h1, h2⟩ := h; exact ⟨a, b, rfl, DAt.mono ha hl h1, DAtL.mono ha hl h2⟩
end
theorem DAt.of (d : DT) : DAt A L d (xu d) := by
 obtain ⟨k, n, t, xs, p⟩ := d; simp only [DAt, xo]; exact ⟨_, rfl, .inl rfl⟩
theorem DAtL.append : ∀ {l l' : List DT} {gs gs' : List AV}, DAtL A L l gs → DAtL A L l' gs' → DAtL A L (l ++ l') (gs ++ gs')
 | [], l', gs, gs', h, h' => by simp only [DAtL] at h; subst h; exact h'
 | x :: r, l', gs, gs', h, h' => by
  simp only [DAtL, y9] at h ⊢; obtain ⟨a, b, rfl, h1, h2⟩ := h; exact ⟨a, b ++ gs', by rw [zmI], h1, DAtL.append h2 h'⟩
theorem DAtL.one {cs : List AV} (h : DAt A L d cs) : DAtL A L [d] cs := by
 simp only [DAtL]; exact ⟨cs, [], by rw [zmw], h, rfl⟩
theorem DAtL.at : ∀ {l : List DT} {gs : List AV} {i : Nat} {x : DT} {r : List DT}, DAtL A L l gs → l.drop i = x :: r → ∃ a b c, gs = a ++ (b ++ c) ∧ a.length = i * 5 ∧ DAt A L x b ∧ DAtL A L (l.take i) a
 | [], gs, i, x, r, _, h => by simp at h
 | y :: l, gs, i, x, r, h, hd => by
  simp only [DAtL] at h; obtain ⟨a, b, rfl, h1, h2⟩ := h; cases i with
  | zero =>
   simp only [z4, xe] at hd; obtain ⟨rfl, rfl⟩ := hd; exact ⟨[], a, b, rfl, by simp, h1, by simp only [List.take_zero, DAtL]⟩
  | succ i =>
   simp only [List.drop_succ_cons] at hd; obtain ⟨a2, b2, c2, rfl, e, h3, h4⟩ := DAtL.at h2 hd; refine ⟨a ++ a2, b2, c2, by rw [zmI], by rw [yd, h1.len, e]; omega, h3, ?_⟩
   simp only [xc, DAtL]; exact ⟨a, a2, rfl, h1, h4⟩
theorem DAt.scal {cs : List AV} (h : DAt A L d cs) : xT cs = true := by
 obtain ⟨k, n, t, xs, p⟩ := d; simp only [DAt] at h; obtain ⟨ks, rfl, h⟩ := h; rcases h with rfl | ⟨_, rfl⟩ | ⟨id, c, e, x, f, gs, rfl, _⟩ <;> rfl
def plD : DT → Int | .mk _ _ _ _ p => p
theorem DAt.cells {cs : List AV} (h : DAt A L d cs) : ∃ ks, cs = [.int .i64 (xE d), .int .i64 (qL d), .str (x9 d), ks, .int .i64 (plD d)] ∧ Go.Proofs.YtionbncghjdeoaaGreatDoor.Ev.scal ks = true := by
 obtain ⟨k, n, t, xs, p⟩ := d; have hs := h.scal; simp only [DAt] at h; obtain ⟨ks, rfl, h⟩ := h; refine ⟨ks, rfl, ?_⟩; rcases h with rfl | ⟨_, rfl⟩ | ⟨id, c, e, x, f, gs, rfl, _⟩ <;> rfl
end
def wAt (ws : List VT) (i : Nat) : VT := (ws[i]?).getD (.mk 0 wO [])
def gk (ws : List VT) : List Nat → Nat
 | [] => 0
 | i :: r => szV (wAt ws i) + gk ws r
def mAt (ws : List VT) (i j : Nat) : VT := wAt (msV (wAt ws i)) j
def gW (ws : List VT) (j : Nat) : List Nat → List VT → List VT
 | [], cur => cur
 | i :: r, cur => gW ws j r (cur.set i (mAt ws i j))
noncomputable def sD (vs : List VarT) (ws : List VT) (d : DT) : Nat := max 1 (gk ws (wG vs d))
noncomputable def bD (K : Nat) (vs : List VarT) (ws : List VT) (d : DT) : Nat := (K + 2) * xq d * sD vs ws d
noncomputable def cD (K c : Nat) (vs : List VarT) (ws : List VT) (d : DT) : Nat := (K + 2) * (c + xq d) * sD vs ws d
def uE (c : Nat) : List DT → Nat
 | [] => 0
 | x :: r => (c + xq x) + uE c r
theorem zyx (v : VT) : 1 ≤ szV v := by obtain ⟨_, _, ms⟩ := v; simp only [szV]; omega
theorem Xr (ws : List VT) : ∀ a b : List Nat, gk ws (a ++ b) = gk ws a + gk ws b
 | [], b => by simp only [zmy, gk, yy]
 | i :: a, b => by simp only [y9, gk, Xr ws a b, zI]
theorem Ub (c : Nat) : ∀ a b : List DT, uE c (a ++ b) = uE c a + uE c b
 | [], b => by simp only [zmy, uE, yy]
 | x :: a, b => by simp only [y9, uE, Ub c a b, zI]
theorem Xq (c : Nat) : ∀ l : List DT, l.length ≤ uE c l
 | [] => zp _
 | x :: r => by have := Xq c r; have := xR x; simp only [y8, uE]; omega
theorem Uc (c : Nat) : ∀ l : List DT, xO l ≤ uE c l
 | [] => zp _
 | x :: r => by have := Uc c r; simp only [xO, uE]; omega
theorem Ld : ∀ l : List DT, uE 1 l = l.length + xO l
 | [] => rfl
 | x :: r => by simp only [uE, Ld r, y8, xO]; omega
theorem zq0 {ws : List VT} {l : List Nat} (h : l ≠ []) : 1 ≤ gk ws l := by
 cases l with
 | nil => exact absurd rfl h
 | cons i r => have := zyx (wAt ws i); simp only [gk]; omega
theorem zpE {vs : List VarT} {ws : List VT} (h : wG vs d ≠ []) : sD vs ws d = gk ws (wG vs d) := by
 unfold sD; have := zq0 (ws := ws) h; omega
theorem Xp (ws : List VT) (j : Nat) : ∀ (l : List Nat) (cur : List VT), (gW ws j l cur).length = cur.length
 | [], _ => rfl
 | i :: r, cur => by simp only [gW, Xp ws j r, List.length_set]
theorem zpk {cur : List VT} {i k : Nat} {v : VT} (hi : i < cur.length) : wAt (cur.set i v) k = if i = k then v else wAt cur k := by
 unfold wAt; rw [List.getElem?_set]; split
 ·rfl
 ·rfl
theorem Lm (ws : List VT) (j : Nat) : ∀ (l : List Nat) (cur : List VT) (k : Nat), (∀ i ∈ l, i < cur.length) → wAt (gW ws j l cur) k = if k ∈ l then mAt ws k j else wAt cur k
 | [], cur, k, _ => by simp [gW]
 | i :: r, cur, k, h => by
  simp only [gW]; rw [Lm ws j r _ k (fun i' hi' => by rw [List.length_set]; exact h i' (yD _ hi')), zpk (h i (by simp))]
  by_cases hk : k ∈ r
  ·rw [if_pos hk, if_pos (yD _ hk)]
  ·rw [if_neg hk]; by_cases hik : i = k
   ·subst hik; rw [if_pos rfl, if_pos (by simp)]
   ·rw [if_neg hik, if_neg (by simp [hk]; exact fun h => hik h.symm)]
theorem JO {ws : List VT} {j : Nat} {l : List Nat} (h : ∀ i ∈ l, i < ws.length) : ∀ {l' : List Nat}, (∀ i ∈ l', i ∈ l) → gk (gW ws j l ws) l' = (l'.map fun i => szV (mAt ws i j)).sum
 | [], _ => rfl
 | i :: r, h' => by
  simp only [gk, zA, zm1]; rw [Lm ws j l ws i h, if_pos (h' i (by simp)), JO h fun k hk => h' k (yD _ hk)]
theorem Gf : ∀ a b : List VT, szL (a ++ b) = szL a + szL b
 | [], b => by simp only [zmy, szL, yy]
 | x :: a, b => by simp only [y9, szL, Gf a b, zI]
def GE (ws : List VT) (l : List Nat) : Nat → Nat
 | 0 => 0
 | J + 1 => GE ws l J + (l.map fun i => szV (mAt ws i J)).sum
theorem zss {ms : List VT} {J : Nat} (h : J < ms.length) : ms.take (J + 1) = ms.take J ++ [wAt ms J] := by
 rw [List.take_add_one, yl h]; unfold wAt; rw [yl h]; rfl
theorem zzC {ws : List VT} : ∀ {l : List Nat} {J : Nat}, (∀ i ∈ l, J ≤ (msV (wAt ws i)).length) → GE ws l J = (l.map fun i => szL ((msV (wAt ws i)).take J)).sum
 | l, 0, _ => by
  have : ∀ l : List Nat, (l.map fun i => szL ((msV (wAt ws i)).take 0)).sum = 0 := by
   intro l
   induction l with
   | nil => rfl
   | cons i r ih => rw [zA, zm1, ih]; rfl
  rw [this]; rfl
 | l, J + 1, h => by
  simp only [GE]; rw [zzC fun i hi => by have := h i hi; omega]
  induction l with
  | nil => rfl
  | cons i r ih =>
   simp only [zA, zm1]; have h1 := ih fun k hk => h k (yD _ hk); have h2 := zss (h i (by simp))
   rw [h2, Gf]; simp only [szL, yB]; have h3 : mAt ws i J = wAt (msV (wAt ws i)) J := rfl; rw [h3]; omega
theorem zzD {ws : List VT} : ∀ {l : List Nat} {J : Nat}, (∀ i ∈ l, J ≤ (msV (wAt ws i)).length) → GE ws l J ≤ gk ws l
 | l, J, h => by
  rw [zzC h]; clear h
  induction l with
  | nil => exact zp _
  | cons i r ih =>
   simp only [zA, zm1, gk]; have h1 : szL ((msV (wAt ws i)).take J) ≤ szV (wAt ws i) := by
    have h2 : szL (msV (wAt ws i)) ≤ szV (wAt ws i) := by
     cases wAt ws i; simp only [msV, szV]; omega
    have h3 : szL ((msV (wAt ws i)).take J) ≤ szL (msV (wAt ws i)) := by
     conv => rhs; rw [← zmT J (msV (wAt ws i)), Gf]
     omega
    omega
   omega
theorem Le {ws : List VT} {F : DT → List Nat} : ∀ {l : List DT} {x : DT}, x ∈ l → gk ws (F x) ≤ gk ws (l.flatMap F)
 | [], x, h => by cases h
 | y :: l, x, h => by
  rw [zmF, Xr]; rcases List.mem_cons.1 h with rfl | h
  ·omega
  ·have := Le (ws := ws) (F := F) h; omega
theorem zqP {vs : List VarT} {ws : List VT} {x : DT} (hmay : wI d = true) (hm : wE d = true) (hx : x ∈ (xr d).1) : sD vs ws x ≤ sD vs ws d := by
 unfold sD; rw [jU hmay hm, Xr]; have := Le (ws := ws) (F := wG vs) hx; omega
theorem zoO {vs : List VarT} {ws : List VT} (hmay : wI d = true) (hm : wE d = true) : sD vs ws (xr d).2 ≤ sD vs ws d := by
 unfold sD; rw [jU hmay hm, Xr]; omega
theorem P5 (vs : List VarT) (ws : List VT) (d : DT) : 1 ≤ sD vs ws d := by unfold sD; omega
theorem Ls (K : Nat) (vs : List VarT) (ws : List VT) (d : DT) : K + 2 ≤ bD K vs ws d := by
 unfold bD; have h1 := xR d; have h2 := P5 vs ws d
 calc K + 2 = (K + 2) * 1 * 1 := oM
  _ ≤ (K + 2) * xq d * sD vs ws d := Nat.mul_le_mul (zmS _ h1) h2
theorem zs0 (K c : Nat) (vs : List VarT) (ws : List VT) (d : DT) : c + bD K vs ws d ≤ cD K c vs ws d := by
 unfold bD cD; have h2 := P5 vs ws d; have h3 : (K + 2) * (c + xq d) * sD vs ws d = (K + 2) * c * sD vs ws d + (K + 2) * xq d * sD vs ws d := by rw [zmZ, Nat.add_mul]
 have h4 : c * 1 ≤ (K + 2) * c * sD vs ws d := Nat.mul_le_mul (zm5 c oM) h2; omega
def jG (c : Nat) : List wy → Nat
 | [] => 0
 | p :: r => (c + xq p.1) + jG c r
theorem Xs (c : Nat) : ∀ a b : List wy, jG c (a ++ b) = jG c a + jG c b
 | [], b => by simp only [zmy, jG, yy]
 | x :: a, b => by simp only [y9, jG, Xs c a b, zI]
theorem JP (c : Nat) : ∀ l : List wy, jG c (gN l) = jG c l
 | [] => rfl
 | [p] => rfl
 | p :: q :: r => by
  have := JP c (q :: r); simp only [gN, jG] at this ⊢; omega
theorem lY {e : DT → Bool} (c : Nat) : ∀ (l : List DT) (out : List wy) (ok : Bool), jG c (xS e l out ok).1 ≤ jG c out + uE c l
 | [], out, ok => by simp only [xS, uE]; omega
 | d :: r, out, ok => by
  simp only [xS, uE]; split
  ·have := lY (e := e) c r (out ++ [(d, 0)]) ok; rw [Xs] at this; simp only [jG] at this; omega
  ·split
   ·have := lY (e := e) c r out false; omega
   ·have := lY (e := e) c r (gN out) ok; rw [JP] at this; omega
theorem K0 (d : DT) : uE 1 (xL d).1 + xq (xL d).2 ≤ xq d := by
 have key : ∀ (N : Nat) (d : DT), xq d < N → uE 1 (xL d).1 + xq (xL d).2 ≤ xq d := by
  intro N
  induction N with
  | zero => intro d h; omega
  | succ N ih =>
   intro d h; cases hk : we d with
   | none => rw [qi hk]; simp only [uE]; omega
   | some xy =>
    obtain ⟨x, y⟩ := xy; have := vq hk; have := ih y oM; rw [w7 hk]; simp only [uE]; omega
 exact key _ d (yx _)
def cOf (d : DT) : Nat := if eqD (xE d) (.ofNat 6) = true then 1 else 0
theorem zxZ (hm : wE d = true) : if eqD (xE d) (.ofNat 7) = true then cOf d = 0 ∧ 1 + uE 0 (xr d).1 ≤ xq d else cOf d = 1 ∧ uE 1 (xr d).1 + xq (xr d).2 ≤ xq d := by
 have h0 : ∀ l : List DT, uE 0 l = xO l := by
  intro l
  induction l with
  | nil => rfl
  | cons x r ih => simp only [uE, xO, ih]; omega
 unfold xr cOf; split
 ·rename_i h7
  have hk : xE d = .ofNat 7 := of_decide_eq_true h7; rw [hk, h0]; refine ⟨rfl, ?_⟩; have := wx d; simp only; omega
 ·rename_i h7
  have h6 : eqD (xE d) (.ofNat 6) = true := by
   simp only [wE, Bool.or_eq_true] at hm; exact hm.resolve_right h7
  rw [if_pos h6]; exact ⟨rfl, K0 d⟩
theorem zs1 {K c S : Nat} {vs : List VarT} {ws : List VT} (h : sD vs ws d ≤ S) : cD K c vs ws d ≤ (K + 2) * (c + xq d) * S := zmS _ h
theorem Li {F : DT → Nat → Bool × Bool} {k : Nat} : ∀ {l : List wy} {b : Bool}, (kf F k l b).2 = true → ∀ p ∈ l, (F p.1 (k + p.2)).2 = true ∧ (0 < p.2 → (F p.1 (k + p.2)).1 = true)
 | [], _, _, p, hp => by cases hp
 | q :: r, b, h, p, hp => by
  simp only [kf] at h; split at h
  ·cases h
  ·rename_i hq
   rcases List.mem_cons.1 hp with rfl | hp
   ·simp only [Bool.or_eq_true, zm2, zl, decide_eq_true_eq, not_or, not_and, Bool.not_eq_false] at hq; exact ⟨hq.1, hq.2⟩
   ·exact Li h p hp
theorem zvd {R : DT → Prop} {ws : List VT} (h : wY R ws) (hz : R wO) (i j : Nat) : pe R (mAt ws i j) := by
 have hw : ∀ {l : List VT} (k : Nat), wY R l → pe R (wAt l k) := fun {l} k hl => by
  unfold wAt; cases hk : l[k]? with
  | none => simp only [Option.getD_none, pe, wY, and_true]; exact hz
  | some v => exact uF.1 hl v (yX hk)
 unfold mAt; refine hw j ?_; have := hw i h; cases hv : wAt ws i with
 | mk dp d ms => rw [hv] at this; simp only [pe] at this; exact this.2
theorem WW {R : DT → Prop} {ws : List VT} (h : wY R ws) (hz : R wO) (j : Nat) : ∀ (l : List Nat) (cur : List VT), wY R cur → wY R (gW ws j l cur)
 | [], cur, hc => hc
 | i :: r, cur, hc => by
  simp only [gW]; refine WW h hz j r _ (uF.2 fun v hv => ?_); rcases List.mem_or_eq_of_mem_set hv with hv | rfl
  ·exact uF.1 hc v hv
  ·exact zvd h hz i j
structure Fi where
 vs : List VarT
 own : List DT
 oid : Nat
 next : Int
 pos : Int
 fp : Nat
 K : Nat
 P : DT → Prop
section
variable (F : Fi)
def Fi.R (d : DT) : Prop := SymOk F.P d ∧ xq d ≤ F.K
def Fi.Fil (L : List (Nat × Option AObj)) : Prop := ∃ made e, xx L F.fp = some (ua F.vs (gSl 5 F.oid F.own.length) F.next F.pos made e)
structure Fi.Pre (L : List (Nat × Option AObj)) (n : Nat) (v : AV) (ws : List VT) : Prop where
 wf : WfA L n
 fp : F.fp < n
 fil : F.Fil L
 own : GAt 25 xu L 0 n F.oid F.own
 env : EnvAt L n v ws
 len : ws.length = F.vs.length
 ok : wY F.R ws
def Fi.Post (L : List (Nat × Option AObj)) (n : Nat) (b : Bool) (B : Nat) (v : AV) (t : St) : Prop :=
 ∃ cs d' L2 n2 m2, v = .agg cs ∧ t = KL L2 n2 m2 b [] none ∧ DAt (fun r => n ≤ r ∧ r < n2) L2 d' cs ∧ SymOk F.P d' ∧ xq d' ≤ B ∧ WfA L2 n2 ∧ n ≤ n2 ∧ F.Fil L2 ∧ ∀ j, j < n → j ≠ F.fp → xx L2 j = xx L j
def Fi.Con (O : Orc) (d : DT) : Prop := ∀ L n m v ws b, F.Pre L n v ws → bD F.K F.vs ws d ≤ 1000000000000 → Cv ((evW env O).call 17 [.ptr F.fp 0, .agg (xu d), v] (KL L n m b [] none)) (F.Post L n b (bD F.K F.vs ws d))
structure CoAt (L : List (Nat × Option AObj)) (n n0 no : Nat) (d0 : DT) (id : Nat) (gs : List AV) (k : Nat) (out : List DT) : Prop where
 fr : FrAt L n n0 no F.fp d0 id gs k
 dat : DAtL (fun r => no + 1 ≤ r ∧ r < n ∧ (k ≠ 0 → r ≠ id)) L out gs
 len : out.length = k
 oid : F.own ≠ [] → F.oid < n0
def Fi.CoPost (L : List (Nat × Option AObj)) (n : Nat) (b : Bool) (n0 no : Nat) (d0 : DT) (id k : Nat) (out : List DT) (c B : Nat) (_ : AV) (t : St) : Prop :=
 ∃ new id2 gs2 L2 n2 m2, t = KL L2 n2 m2 b [] none ∧ CoAt F L2 n2 n0 no d0 id2 gs2 (k + new.length) (out ++ new) ∧ (∀ x ∈ new, SymOk F.P x) ∧ uE c new ≤ B ∧ WfA L2 n2 ∧ n ≤ n2 ∧ F.Fil L2 ∧ (k + new.length ≠ 0 → (k ≠ 0 ∧ id2 = id) ∨ n ≤ id2) ∧ ∀ j, j < n → j ≠ F.fp → j ≠ no → (k ≠ 0 → j ≠ id) → xx L2 j = xx L j
end
section
variable {F : Fi} {L L2 : List (Nat × Option AObj)} {n n2 n0 no id k : Nat} {v : AV} {ws : List VT} {d0 : DT} {gs : List AV} {out : List DT}
theorem Fi.Fil.ne (h : F.Fil L) {j t : Nat} {cs : List AV} {x f : Bool} (hg : xx L j = some (.row t cs x f)) (ht : t ≠ 54) : j ≠ F.fp := fun e => by
 subst e; obtain ⟨made, e, h⟩ := h; rw [h] at hg; simp only [ua, zv, AObj.row.injEq] at hg; exact ht hg.1.symm
theorem Fi.Fil.keep (h : F.Fil L) (hfr : xx L2 F.fp = xx L F.fp) : F.Fil L2 := by
 obtain ⟨made, e, h⟩ := h; exact ⟨made, e, by rw [hfr]; exact h⟩
theorem Fi.Pre.keep (h : F.Pre L n v ws) (hw : WfA L2 n2) (hn : n ≤ n2) (hfil : F.Fil L2) (hfr : ∀ j, j < n → j ≠ F.fp → (xx L j = some (.row vty (xI ws) true false) ∨ (F.own ≠ [] ∧ j = F.oid)) → xx L2 j = xx L j) : F.Pre L2 n2 v ws :=
 ⟨hw, Nat.lt_of_lt_of_le h.fp hn, hfil, fun hne => by
  obtain ⟨h1, h2, h3⟩ := h.own hne; exact ⟨h1, oM, by rw [hfr _ h2 (h.fil.ne h3 (by decide)) (.inr ⟨hne, rfl⟩)]; exact h3⟩,
  h.env.ext hn fun id h1 h2 => hfr id h1 (h.fil.ne h2 (by decide)) (.inl h2), h.len, h.ok⟩
theorem Fi.Pre.cons (h : F.Pre L n v ws) (o : Option AObj) : F.Pre ((n, o) :: L) (n + 1) v ws :=
 h.keep (h.wf.cons (yx _) (zmO _)) (zmO _) (h.fil.keep (by have := h.fp; rw [xi, if_neg oM])) fun j hj _ _ => by rw [xi, if_neg oM]
theorem CoAt.keep (h : CoAt F L n n0 no d0 id gs k out) (hn : n ≤ n2) (hfr : ∀ j, j < n → j ≠ F.fp → xx L2 j = xx L j) : CoAt F L2 n2 n0 no d0 id gs k out := by
 have h1 := h.fr.hp; have h2 := h.fr.lt; refine ⟨⟨h1, oM, by rw [hfr _ oM oM]; exact h.fr.gf, by rw [hfr _ oM oM]; exact h.fr.gd, by rw [hfr _ oM oM]; exact h.fr.go, h.fr.gl, fun hk => ?_⟩, ?_, h.len, h.oid⟩
 ·obtain ⟨a1, a2, a3⟩ := h.fr.ga hk; exact ⟨a1, oM, by rw [hfr _ a2 oM]; exact a3⟩
 ·exact h.dat.mono (fun r hr => ⟨hr.1, oM, hr.2.2⟩) fun r hr => hfr r hr.2.1 oM
theorem CoAt.cons (h : CoAt F L n n0 no d0 id gs k out) (o : Option AObj) : CoAt F ((n, o) :: L) (n + 1) n0 no d0 id gs k out :=
 h.keep (zmO _) fun j hj _ => by rw [xi, if_neg oM]
theorem CoAt.other (h : CoAt F L n n0 no d0 id gs k out) (hfil : F.Fil L) {j t : Nat} {cs : List AV} {x f : Bool} (hg : xx L j = some (.row t cs x f)) (h1 : t ≠ 25) (h2 : t ≠ 23) (h3 : t ≠ 54) : j ≠ F.fp ∧ j ≠ no ∧ (k ≠ 0 → j ≠ id) := by
 refine ⟨hfil.ne hg h3, fun e => ?_, fun hk e => ?_⟩
 ·subst e; rw [h.fr.go] at hg; simp only [zv, AObj.row.injEq] at hg; exact h2 hg.1.symm
 ·subst e; obtain ⟨_, _, a3⟩ := h.fr.ga hk; rw [a3] at hg; simp only [zv, AObj.row.injEq] at hg; exact h1 hg.1.symm
theorem CoAt.pre (h : CoAt F L n n0 no d0 id gs k out) (hp : F.Pre L n v ws) (hw : WfA L2 n2) (hn : n ≤ n2) (hfil : F.Fil L2) (hfr : ∀ j, j < n → j ≠ F.fp → j ≠ no → (k ≠ 0 → j ≠ id) → xx L2 j = xx L j) : F.Pre L2 n2 v ws := by
 refine hp.keep hw hn hfil fun j h1 h2 h3 => ?_; rcases h3 with h3 | ⟨h3, rfl⟩
 ·obtain ⟨a, b, c⟩ := h.other hp.fil h3 (by decide) (by decide) (by decide)
  exact hfr j h1 a b c
 ·have := h.oid h3; have := h.fr.lt; exact hfr _ h1 h2 oM fun hk => by have := (h.fr.ga hk).1; omega
end
section
variable {O : Orc} {F : Fi}
attribute [local go_sem] xo xH xF wc ltF gtF wz wg zmP zmQ zmU zmR ue in
theorem LM (h43 : O 43 = none) (h44 : O 44 = none) (h40 : O 40 = none) (hf : F.Con O d) {c : Nat} {L : List (Nat × Option AObj)} {m : Nat} {ws : List VT} {n0 no : Nat} {d0 : DT} {k : Nat} {gs : List AV} {out : List DT} (hp : F.Pre L n v ws) (hC : CoAt F L n n0 no d0 id gs k out) (hB : k + cD F.K c F.vs ws d ≤ 1000000000000) (b : Bool) :
  Cv ((evW env O).call 43 [.ptr F.fp 0, .agg (xA (d, 0)), v, .fn 44 [] [.ptr (n0 + 1) 0, .ptr n0 0, .ptr no 0]] (KL L n m b [] none)) (F.CoPost L n b n0 no d0 id k out c (cD F.K c F.vs ws d)) := by
 refine qA (F := f43) h43 rfl rfl (zmv rfl) ?_; have hcd := zs0 F.K c F.vs ws d; have hbp := Ls F.K F.vs ws d; have hlt := hC.fr.lt; have hpf := hC.fr.hp; generalize cD F.K c F.vs ws d = CD at *; unfold f43; simp only [Ko, Kg, Kn, Ki]; have hf' := hf; unfold Fi.Con at hf'; obtain ⟨dk, dn, dt, ds, dp⟩ := d; simp only [xA, xo, y9, zmy] at hf' ⊢; refine xw ?_; refine xJ (xJ (xB ?_)); refine Y2 sW ?_; refine xJ (uy ?_); refine wL (hf' _ _ _ v ws _ (hp.cons _) oM) fun v1 t hv => ?_; obtain ⟨cx, x, L1, n1, m1, rfl, rfl, hdx, hsx, hnx, hw1, hn1, hfil1, hfr1⟩ := hv; obtain ⟨ks, hcx, hks⟩ := hdx.cells; have hC1 := (hC.cons (some (.row 79 [.int .i64 dk, .int .i64 dn, .str dt, .lst ds.length false (xC ds), .int .i64 dp, .int .i64 (.ofNat 0)] false false))).keep hn1 hfr1; obtain ⟨made, e, hgf⟩ := hfil1; refine uy ?_; refine wL (zq4 h44 h40 hC1.fr hw1 hgf oM hks false) fun v2 t hv => ?_; obtain ⟨made2, e2, id2, L2, n2, m2, rfl, hw2, hn2, hid2, hF2, hg2, hfr2⟩ := hv; rw [← hcx] at hF2; refine xB ?_; refine xB ?_; refine x7 ?_; refine ⟨[x], id2, _, L2, n2, _, rfl, ⟨hF2, ?_, (by rw [yd, hC.len]), hC.oid⟩, ?_, ?_, hw2, oM, ⟨made2, e2, hg2⟩, fun _ => .inr oM, fun j h1 h2 h3 h4 => ?_⟩
 ·have hid := fun hk => (hC.fr.ga hk).2.1; have a1 : DAtL (fun r => no + 1 ≤ r ∧ r < n2 ∧ (k + 1 ≠ 0 → r ≠ id2)) L2 out gs := by
   refine hC1.dat.mono (fun r hr => ⟨hr.1, ?_, fun _ => ?_⟩) fun r hr => hfr2 r hr.2.1 ?_ ?_ hr.2.2
   all_goals have := hr.1; have := hr.2.1; omega
  have a2 : DAt (fun r => no + 1 ≤ r ∧ r < n2 ∧ (k + 1 ≠ 0 → r ≠ id2)) L2 x cx := by
   refine hdx.mono (fun r hr => ⟨?_, ?_, fun _ => ?_⟩) fun r hr => hfr2 r hr.2 ?_ ?_ fun hk => ?_
   all_goals (have := hr.1; have := hr.2; try have := hid hk)
   all_goals omega
  exact a1.append (DAtL.one a2)
 ·intro y hy; simp only [zmE, zmD, or_false] at hy; subst hy; exact hsx
 ·simp only [uE]; omega
 ·rw [hfr2 j oM h2 h3 h4, hfr1 j oM h2, xi, if_neg oM]
end
theorem H6 (ws : List VT) (j : Nat) : ∀ (a : List Nat) (i : Nat) (cur : List VT), gW ws j (a ++ [i]) cur = (gW ws j a cur).set i (mAt ws i j)
 | [], _, _ => rfl
 | x :: a, i, cur => by simp only [y9, gW, H6 ws j a i]
theorem zqE {cur : List VT} {i : Nat} {w : VT} (h : i < cur.length) : vr (xI cur) (i * 7) (qY w) = some (xI (cur.set i w)) := by
 have e1 : xI cur = xI (cur.take i) ++ (qY cur[i] ++ xI (cur.drop (i + 1))) := by
  conv => lhs; rw [← zmT i cur, zmL h, vN, vU]
 rw [List.set_eq_take_append_cons_drop, if_pos h, vN, vU, e1]; exact ja (by rw [q9, zmW, Nat.min_eq_left oM]) (by rw [ju, ju])
theorem zpx {l : List Nat} {i x : Nat} {r : List Nat} (hd : l.drop i = x :: r) : wC 1 (wP i (xz cI l)) = some [.int .i64 (.ofNat x)] := by
 have := u1 QL i l; rw [Nat.mul_one] at this; rw [this, hd]; simp only [xz]; exact jc rfl
theorem Xz {ws : List VT} {i : Nat} (h : i < ws.length) : ws[i] = .mk (dpV (wAt ws i)) (dV (wAt ws i)) (msV (wAt ws i)) := by
 unfold wAt; rw [yl h]; simp only [Option.getD_some]; cases ws[i]; rfl
theorem zv4 {ms : List VT} {j : Nat} (h : j < ms.length) : ms.drop j = wAt ms j :: ms.drop (j + 1) := by
 rw [zmL h]; unfold wAt; rw [yl h]; rfl
def coB (F : Fi) (v take : AV) (np lid ll long : Nat) : List (Nat × AV) := [(0, .ptr F.fp 0), (2, v), (3, take), (5, .ptr np 0), (8, gSl 1 lid ll), (9, .int .i64 (.ofNat long))]
def lk (n0 no : Nat) : AV := .fn 44 [] [.ptr (n0 + 1) 0, .ptr n0 0, .ptr no 0]
def HO (d : DT) (q : Nat) : AObj := .row 79 (xA (d, q)) false false
def zn9 (F : Fi) (ws : List VT) (lds : List Nat) (n0 no : Nat) (v : AV) (np lid long : Nat) (L1 : List (Nat × Option AObj)) (n1 : Nat) (made : Int) (i : Nat) (fr : Fr) (s : St) : Prop :=
 ∃ T L' m' e', fr = ⟨tmL T, []⟩ ∧ s = KL L' n1 m' false [] none ∧ TG T (coB F v (lk n0 no) np lid lds.length long) ∧ (tmL T).get 38 = some (gSl 1 lid lds.length) ∧ (tmL T).get 39 = some (.int .i64 (.ofNat lds.length)) ∧ (tmL T).get 40 = some (.int .i64 (.ofNat i)) ∧ i ≤ lds.length ∧ xx L' F.fp = some (ua F.vs (gSl 5 F.oid F.own.length) F.next F.pos made e') ∧ (e' = 0 → ∀ x ∈ lds.take i, (msV (wAt ws x)).length = long) ∧ ∀ j, j ≠ F.fp → xx L' j = xx L1 j
def zma (F : Fi) (ws : List VT) (lds : List Nat) (d : DT) (q c n0 no : Nat) (d0 : DT) (id k : Nat) (out : List DT) (v : AV) (lid long : Nat) (L : List (Nat × Option AObj)) (n n1 : Nat) (j : Nat) (fr : Fr) (s : St) : Prop :=
 ∃ T L' n' m' id' gs' new, fr = ⟨tmL T, []⟩ ∧ s = KL L' n' m' false [] none ∧ TG T (coB F v (lk n0 no) n lid lds.length long) ∧ (tmL T).get 12 = some (.int .i64 (.ofNat j)) ∧ j ≤ long ∧ F.Pre L' n' v ws ∧ CoAt F L' n' n0 no d0 id' gs' (k + new.length) (out ++ new) ∧ (∀ x ∈ new, SymOk F.P x) ∧ uE c new ≤ (F.K + 2) * (c + xq d) * GE ws lds j ∧ n1 ≤ n' ∧ (k + new.length ≠ 0 → (k ≠ 0 ∧ id' = id) ∨ n ≤ id') ∧ xx L' n = some (HO d q) ∧ xx L' lid = some (.row 3 (xz cI lds) true false) ∧ ∀ j, j < n → j ≠ F.fp → j ≠ no → (k ≠ 0 → j ≠ id) → xx L' j = xx L j
def zmb (F : Fi) (ws : List VT) (lds : List Nat) (n0 no : Nat) (v : AV) (np lid long : Nat) (cid : Nat) (j : Nat) (L2 : List (Nat × Option AObj)) (n2 : Nat) (i : Nat) (fr : Fr) (s : St) : Prop :=
 ∃ T L' m', fr = ⟨tmL T, []⟩ ∧ s = KL L' n2 m' false [] none ∧ TG T (coB F v (lk n0 no) np lid lds.length long) ∧ (tmL T).get 12 = some (.int .i64 (.ofNat j)) ∧ (tmL T).get 13 = some (.sl cid 0 ws.length (.opn 7)) ∧ (tmL T).get 77 = some (gSl 1 lid lds.length) ∧ (tmL T).get 78 = some (.int .i64 (.ofNat lds.length)) ∧ (tmL T).get 79 = some (.int .i64 (.ofNat i)) ∧ i ≤ lds.length ∧ xx L' cid = some (.row vty (xI (gW ws j (lds.take i) ws)) true false) ∧ ∀ x, x ≠ cid → xx L' x = xx L2 x
section
variable {O : Orc} {F : Fi}
attribute [local go_sem] xo xH xF wc ltF gtF wz wg zmP zmQ zmU zmR ue qB ua in
theorem UV (h43 : O 43 = none) (h44 : O 44 = none) (h40 : O 40 = none) (h56 : O 56 = none) (h35 : O 35 = some gKn) (h27 : O 27 = some kQ) (h29 : O 29 = some Y5) (h57 : O 57 = none) (hvs : F.vs.length < 1000000000) (hz : F.R wO) {d : DT} (hmay : wI d = true ∨ d = wO) (hnd : xq d ≤ 180000) (hf : F.Con O d) {c n0 no : Nat} {d0 : DT} : ∀ (q : Nat), q < 1000000000000 → (0 < q → wG F.vs d ≠ []) → ∀ {L : List (Nat × Option AObj)} {n m : Nat} {v : AV} {ws : List VT} {id k : Nat} {gs : List AV} {out : List DT} (b : Bool), F.Pre L n v ws → CoAt F L n n0 no d0 id gs k out → k + cD F.K c F.vs ws d ≤ 1000000000000 →
  Cv ((evW env O).call 43 [.ptr F.fp 0, .agg (xA (d, q)), v, lk n0 no] (KL L n m b [] none)) (F.CoPost L n b n0 no d0 id k out c (cD F.K c F.vs ws d))
 | 0, _, _, L, n, m, v, ws, id, k, gs, out, b, hp, hC, hB => LM h43 h44 h40 hf hp hC hB b
 | q + 1, hq, hle, L, n, m, v, ws, id, k, gs, out, b, hp, hC, hB => by
  have hlne := hle oM; have ih := @UV h43 h44 h40 h56 h35 h27 h29 h57 hvs hz d hmay hnd hf c n0 no d0 q oM (fun _ => hlne); refine qA (F := f43) h43 rfl rfl (zmv rfl) ?_; have hlt := hC.fr.lt; have hpf := hC.fr.hp; obtain ⟨hll, hlen⟩ := lc (vs := F.vs) _ d (yx _) hmay; rw [← hp.len] at hll; have hsub : qV .i64 (Int.sub (.ofNat (q + 1)) (.ofNat 1)) = .ofNat q := by rw [zwN oM, Yw oM]; rfl
  have hcD : cD F.K c F.vs ws d = (F.K + 2) * (c + xq d) * gk ws (wG F.vs d) := by unfold cD; rw [zpE hlne]
  have hcj : ∀ j, cD F.K c F.vs (gW ws j (wG F.vs d) ws) d = (F.K + 2) * (c + xq d) * ((wG F.vs d).map fun i => szV (mAt ws i j)).sum := fun j => by
   unfold cD; rw [zpE hlne, JO hll fun _ h => h]
  have hlv := fun {L n m} (h1 : WfA L n) (h2 : F.fp < n) made e h3 => @Hl O h56 h35 h27 h29 F.vs hvs (gSl 5 F.oid F.own.length) F.next F.pos made e F.fp _ d (yx _) hmay hnd L n m h1 h2 h3 false
  unfold Qu at hlv; generalize hCD : cD F.K c F.vs ws d = CD at *; generalize hlds : wG F.vs d = lds at *; obtain ⟨i0, rest, hl0⟩ : ∃ i0 rest, lds = i0 :: rest := by
   cases lds with
   | nil => exact absurd rfl hlne
   | cons i r => exact ⟨i, r, rfl⟩
  have hi0 : i0 < ws.length := hll i0 (by rw [hl0]; simp)
  obtain ⟨long, hlong⟩ : ∃ long, (msV (wAt ws i0)).length = long := ⟨_, rfl⟩; have hK2 : 1 ≤ (F.K + 2) * (c + xq d) := Nat.mul_pos oM (by have := xR d; omega)
  generalize hK1 : (F.K + 2) * (c + xq d) = K1 at *; have hlens : long < 1000000000000 := by
   have h1 : gk ws lds ≤ CD := by rw [hcD]; exact zm5 _ hK2
   have h2 : szV (wAt ws i0) ≤ gk ws lds := by rw [hl0]; simp only [gk]; omega
   have h3 : (msV (wAt ws i0)).length < szV (wAt ws i0) := by
    have : ∀ l : List VT, l.length ≤ szL l := by
     intro l
     induction l with
     | nil => exact zp _
     | cons x r ih => have := zyx x; simp only [y8, szL]; omega
    cases wAt ws i0 with
    | mk dp dd ms => have := this ms; simp only [msV, szV]; omega
   omega
  have hpn := hp.cons (some (HO d (q + 1))); have hCn := hC.cons (some (HO d (q + 1))); obtain ⟨made, e, hgf⟩ := hp.fil; have hgf1 : xx ((n, some (HO d (q + 1))) :: L) F.fp = some (ua F.vs (gSl 5 F.oid F.own.length) F.next F.pos made e) := by rw [xi, if_neg oM]; exact hgf
  have hlv1 := fun m => hlv (m := m) hpn.wf hpn.fp made e hgf1; clear hlv hle; have hc0 : wC 1 (xz cI lds) = some [.int .i64 (.ofNat i0)] := by rw [hl0]; simp only [xz]; exact jc rfl
  have hlpos : 0 < lds.length := by rw [hl0]; simp
  have hi0m : i0 ∈ lds := by rw [hl0]; simp
  clear hl0; unfold f43; simp only [Ko, Kg, Kn, Ki]; have hmay2 := hmay; have hf2 := hf; obtain ⟨dk, dn, dt, ds, dp⟩ := d; simp only [xA, HO, xo, y9, zmy] at ih hlv1 hpn hCn hgf1 ⊢; unfold lk at ih ⊢; refine xw ?_; refine xw ?_; refine xJ (uy ?_); refine wL (hlv1 _) fun v1 t hv => ?_; obtain ⟨lid, L1, n1, m1, rfl, rfl, hga, hw1, hn1, hfr1⟩ := hv; obtain ⟨hlid, hlid2, hgl⟩ := hga hlne; have hfil1 : xx L1 F.fp = some (ua F.vs (gSl 5 F.oid F.own.length) F.next F.pos made e) := by rw [hfr1 _ hpn.fp]; exact hgf1
  have hp1 := hpn.keep hw1 hn1 ⟨made, e, hfil1⟩ fun j h1 _ _ => hfr1 j h1; have hC1 := hCn.keep hn1 fun j h1 _ => hfr1 j h1; have hgn : xx L1 n = some (.row 79 [.int .i64 dk, .int .i64 dn, .str dt, .lst ds.length false (xC ds), .int .i64 dp, .int .i64 (.ofNat (q + 1))] false false) := by rw [hfr1 n oM, xi, if_pos rfl]
  clear hlv1 hpn hCn hgf1; refine xB ?_; obtain ⟨r1, r2, r3, hr1, hr2, hr3, hr4, hr5, hr6⟩ := hp1.env.rd hi0 (Xz hi0); rw [hlong] at hr5; have hia0 := @kR 1 lid lds.length 0 hlpos; refine xw ?_; have hfr0 : ∀ j, j < n → xx L1 j = xx L j := fun j hj => by rw [hfr1 j oM, xi, if_neg oM]
  refine xJ (xJ (xB ?_)); refine xQ ?_; refine wS (fun i : Nat => lds.length - i) (zn9 F ws lds n0 no v n lid long L1 n1 made) (fun i fr s hI => ?_) 0 ⟨_, _, _, e, rfl, rfl, by simp (disch := first | exact dis | fail) only [go_sem, seval, -rO, -rN, TG, coB, lk], sW, sW, sW, zL _, hfil1, fun _ x hx => absurd hx (by simp), fun _ _ => rfl⟩
  obtain ⟨T, L', m', e', rfl, rfl, hT, t38, t39, t40, hi, hf', hall, hfr'⟩ := hI; have hT' := hT; simp only [TG, coB] at hT'; obtain ⟨t0, t2, t3, t5, t8, t9, _⟩ := hT'; have hwL : WfA L' n1 := fun j hj => by rw [hfr' j (by have := hp1.fp; omega)]; exact hw1 j hj
  have hpL : F.Pre L' n1 v ws := hp1.keep hwL (zp _) ⟨made, e', hf'⟩ fun j _ h _ => hfr' j h; have hCL : CoAt F L' n1 n0 no d0 id gs k out := hC1.keep (zp _) fun j _ h => hfr' j h; have hgnL : xx L' n = some (.row 79 [.int .i64 dk, .int .i64 dn, .str dt, .lst ds.length false (xC ds), .int .i64 dp, .int .i64 (.ofNat (q + 1))] false false) := by rw [hfr' n oM]; exact hgn
  have hglL : xx L' lid = some (.row 3 (xz cI lds) true false) := by rw [hfr' lid oM]; exact hgl
  rcases x8 lds i with ⟨hi2, hd⟩ | ⟨x, hi2, hd⟩
  ·have hlt : ¬ i < lds.length := oM; rw [zG hi2] at hall; clear hr1 hr2 hr3 hr4 hr5 hr6 hia0 hc0 hi2 hd; refine xB ?_; refine xw ?_; refine xQ ?_; have hfrO : ∀ j, j < n → j ≠ F.fp → xx L' j = xx L j := fun j h1 h2 => by rw [hfr' j h2, hfr0 j h1]
   by_cases he : e' = 0
   ·subst he; replace hall := hall rfl; have hJ : ∀ j, j ≤ long → ∀ i ∈ lds, j ≤ (msV (wAt ws i)).length := fun j hj i hi => by rw [hall i hi]; exact hj
    have hwne : ws ≠ [] := fun h => by rw [h] at hi0; exact absurd hi0 (by simp)
    have hwl : ws.length < 1000000000 := by rw [hp.len]; exact hvs
    refine wS (fun j : Nat => long - j) (zma F ws lds (DT.mk dk dn dt ds dp) (q + 1) c n0 no d0 id k out v lid long L n n1) (fun j fr s hI => ?_) 0 ⟨_, L', n1, _, id, gs, [], rfl, rfl, (by unfold lk; repeat (first | exact hT | refine wF ?_ rfl)), sW, zL _, hpL, by rw [zmw]; exact hCL, fun _ hx => absurd hx (by simp), zL _, zp _, fun h => .inl ⟨h, rfl⟩, (by simp only [HO, xA, xo, y9, zmy]; exact hgnL), hglL, fun j h1 h2 _ _ => hfrO j h1 h2⟩
    clear t0 t2 t3 t5 t8 t9 t38 t39 t40 hT hgnL hglL hpL hCL hwL hfrO hfr' hf' hp1 hC1 hfil1 hgn hgl hw1 hga hfr1 hfr0 hgf hlt hi; obtain ⟨T2, L2, n2, m2, id2, gs2, new, rfl, rfl, hT, t12, hj, hp2, hC2, hsy, hsz, hn2, hid2, hgn2, hgl2, hfr2⟩ := hI; simp only [HO, xA, xo, y9, zmy] at hgn2; have hT' := hT; simp only [TG, coB, lk] at hT'; obtain ⟨t0, t2, t3, t5, t8, t9, _⟩ := hT'; rw [hK1] at hsz; have hpost : F.CoPost L n b n0 no d0 id k out c CD (.tup []) (KL L2 n2 m2 b [] none) := ⟨new, id2, gs2, L2, n2, m2, rfl, hC2, hsy, zt hsz (by rw [hcD]; exact zmS _ (zzD (hJ j hj))), hp2.wf, oM, hp2.fil, hid2, hfr2⟩
    by_cases hjl : j < long
    ·obtain ⟨made2, e2, hg2⟩ := hp2.fil; cases he : eqD e2 (.ofNat 0) with
     | false =>
      refine xB ?_; refine x7 ?_; exact hpost
     | true =>
      clear hpost; refine xw ?_; refine xJ (xQ ?_); refine xJ (uy ?_); refine wL (zvS h57 hwne hwl hp2.env hp2.wf false) fun v1 t hv => ?_; obtain ⟨cid, L3, n3, m3, rfl, rfl, hcid, hcid2, hgc, hw3, hfr3⟩ := hv; refine xB ?_; refine xJ (xJ (xB ?_)); refine xQ ?_; refine wS (fun i : Nat => lds.length - i) (zmb F ws lds n0 no v n lid long cid j L3 n3) (fun i fr s hI => ?_) 0 ⟨_, L3, m3, rfl, rfl, (by unfold lk; repeat (first | exact hT | refine wF ?_ rfl)), sV, sV, sV, sV, sV, zL _, hgc, fun _ _ => rfl⟩
      clear t0 t2 t3 t5 t8 t9 t12 hT; obtain ⟨T3, L4, m4, rfl, rfl, hT, t12, t13, t77, t78, t79, hi, hg4, hfr4⟩ := hI; have hT' := hT; simp only [TG, coB, lk] at hT'; obtain ⟨t0, t2, t3, t5, t8, t9, _⟩ := hT'; have hn23 : n2 ≤ n3 := oM; have hfr42 : ∀ x, x < n2 → xx L4 x = xx L2 x := fun x hx => by rw [hfr4 x oM, hfr3 x hx]
      have hw4 : WfA L4 n3 := fun x hx => by rw [hfr4 x oM]; exact hw3 x hx
      have hp4 : F.Pre L4 n3 v ws := hp2.keep hw4 hn23 (hp2.fil.keep (hfr42 _ hp2.fp)) fun x hx _ _ => hfr42 x hx; have hlidn : lid < n2 := oM; have hnn : n < n2 := oM; have hgl4 : xx L4 lid = some (.row 3 (xz cI lds) true false) := by rw [hfr42 _ hlidn]; exact hgl2
      have hgn4 : xx L4 n = some (.row 79 [.int .i64 dk, .int .i64 dn, .str dt, .lst ds.length false (xC ds), .int .i64 dp, .int .i64 (.ofNat (q + 1))] false false) := by rw [hfr42 _ hnn]; exact hgn2
      rcases x8 lds i with ⟨hi2, hd⟩ | ⟨x, hi2, hd⟩
      ·have hlt : ¬ i < lds.length := oM; rw [zG hi2] at hg4; clear hi2 hd; have hC4 : CoAt F L4 n3 n0 no d0 id2 gs2 (k + new.length) (out ++ new) := hC2.keep hn23 fun x hx _ => hfr42 x hx; have hpj : F.Pre L4 n3 (.sl cid 0 ws.length (.opn 7)) (gW ws j lds ws) := ⟨hw4, hp4.fp, hp4.fil, hp4.own, .inr ⟨cid, hcid2, by rw [Xp], hg4⟩, by rw [Xp]; exact hp4.len, WW hp4.ok hz j lds ws hp4.ok⟩
       have hcS : uE c new + cD F.K c F.vs (gW ws j lds ws) (DT.mk dk dn dt ds dp) ≤ K1 * GE ws lds (j + 1) := by
        rw [hcj j]; simp only [GE, zmZ]; omega
       have hcT : K1 * GE ws lds (j + 1) ≤ CD := by rw [hcD]; exact zmS _ (zzD (hJ (j + 1) hjl))
       have hnl := Xq c new; have ihj := fun m => ih (m := m) false hpj hC4 oM; refine xB ?_; refine uy ?_; refine wL (ihj _) fun v1 t hv => ?_; obtain ⟨new2, id5, gs5, L5, n5, m5, rfl, hC5, hsy5, hsz5, hw5, hn5, hfil5, hid5, hfr5⟩ := hv; obtain ⟨o1, o2, o3⟩ := hC4.other hp4.fil hgn4 (by decide) (by decide) (by decide)
       obtain ⟨o4, o5, o6⟩ := hC4.other hp4.fil hgl4 (by decide) (by decide) (by decide)
       have hgn5 := (hfr5 n oM o1 o2 o3).trans hgn4; have hgl5 := (hfr5 lid oM o4 o5 o6).trans hgl4; have hp5 := hC4.pre hp4 hw5 hn5 hfil5 hfr5; refine xB ?_; refine xB ?_; refine ⟨j + 1, ⟨_, L5, n5, _, id5, gs5, new ++ new2, rfl, rfl, (by unfold lk; repeat (first | exact hT | refine wF ?_ rfl)), sV, oM, hp5, by rw [yd, ← zI, ← zmI]; exact hC5, fun y hy => ?_, ?_, oM, fun h => ?_, (by simp only [HO, xA, xo, y9, zmy]; exact hgn5), hgl5, fun y h1 h2 h3 h4 => ?_⟩, oM⟩
       ·rcases List.mem_append.1 hy with hy | hy
        ·exact hsy y hy
        ·exact hsy5 y hy
       ·rw [Ub, hK1]; omega
       ·rw [yd, ← zI] at h; rcases hid5 h with ⟨h1, rfl⟩ | h1
        ·exact hid2 h1
        ·exact .inr oM
       ·rw [hfr5 y oM h2 h3 ?_, hfr42 y oM, hfr2 y h1 h2 h3 h4]; intro hk; rcases hid2 hk with ⟨h5, rfl⟩ | h5
        ·exact h4 h5
        ·omega
      ·have hia := @kR 1 lid lds.length i hi2; have hc := zpx hd; have hxm : x ∈ lds := zmC (by rw [hd]; simp)
       have hx := hll x hxm; obtain ⟨s1, s2, s3, hs1, hs2, hs3, hs4, hs5, hs6⟩ := hp4.env.rd hx (Xz hx); have hq2 := hall x hxm; rw [hq2] at hs5; have htk := jd hd; have hdr : (msV (wAt ws x)).drop j = mAt ws x j :: (msV (wAt ws x)).drop (j + 1) := zv4 oM; have hixv := @zos long _ j _ _ hq2 hdr false; have hcl : (gW ws j (lds.take i) ws).length = ws.length := Xp _ _ _ _; have hpas := @zqE (gW ws j (lds.take i) ws) x (mAt ws x j) oM; have hnext : gW ws j (lds.take (i + 1)) ws = (gW ws j (lds.take i) ws).set x (mAt ws x j) := by rw [htk, H6]
       generalize hcur : gW ws j (lds.take i) ws = cur at *; generalize hmw : mAt ws x j = w at *; generalize (msV (wAt ws x)).drop (j + 1) = wr at *; generalize msV (wAt ws x) = wm at *; obtain ⟨wdp, ⟨wk, wn, wt, wks, wp⟩, wms⟩ := w; simp only [vc, xo, y9, zmy] at hixv hpas; clear htk hd hsz hmw hcur hxm hall hJ hq2 hdr; refine xB ?_; refine ⟨i + 1, ⟨_, _, _, rfl, rfl, (by unfold lk; repeat (first | exact hT | refine wF ?_ rfl)), sV, sV, sV, sV, sV, oM, ?_, fun y hy => ?_⟩, oM⟩
       ·rw [xi, if_pos rfl, hnext]
       ·rw [xi, if_neg hy]; exact hfr4 y hy
    ·refine xB ?_; refine x7 ?_; exact hpost
   ·have hE : eqD e' (.ofNat 0) = false := decide_eq_false he; have hpost : F.CoPost L n b n0 no d0 id k out c CD (.tup []) (KL L' n1 m' b [] none) := ⟨[], id, gs, L', n1, m', rfl, by rw [zmw]; exact hCL, fun _ hx => absurd hx (by simp), zL _, hwL, oM, ⟨made, e', hf'⟩, fun h => .inl ⟨h, rfl⟩, fun j h1 h2 _ _ => hfrO j h1 h2⟩
    refine wS (fun _ : Unit => 0) (fun _ fr s => ∃ T2, fr = ⟨tmL T2, []⟩ ∧ s = KL L' n1 m' false [] none ∧ (tmL T2).get 0 = some (.ptr F.fp 0) ∧ (tmL T2).get 9 = some (.int .i64 (.ofNat long)) ∧ (tmL T2).get 12 = some (.int .i64 (.ofNat 0))) (fun _ fr s hI => ?_) () ⟨_, rfl, rfl, sV, sV, sV⟩; clear t0 t2 t3 t5 t8 t9; obtain ⟨T2, rfl, rfl, t0, t9, t12⟩ := hI; by_cases hl0 : 0 < long
    ·refine xB ?_; refine x7 ?_; exact hpost
    ·refine xB ?_; refine x7 ?_; exact hpost
  ·have hia := @kR 1 lid lds.length i hi2; have hc := zpx hd; have hxm : x ∈ lds := zmC (by rw [hd]; simp)
   have hx := hll x hxm; obtain ⟨s1, s2, s3, hs1, hs2, hs3, hs4, hs5, hs6⟩ := hpL.env.rd hx (Xz hx); have htk := jd hd; clear hr1 hr2 hr3 hr4 hr5 hr6 hia0 hc0 hd hlong; by_cases hq2 : (msV (wAt ws x)).length = long
   ·have hall' : e' = 0 → ∀ y ∈ lds.take (i + 1), (msV (wAt ws y)).length = long := fun he y hy => by
     rw [htk] at hy; rcases List.mem_append.1 hy with hy | hy
     ·exact hall he y hy
     ·simp only [zmE, zmD, or_false] at hy; subst hy; exact hq2
    clear htk; refine xB ?_; exact ⟨i + 1, ⟨_, _, _, e', rfl, rfl, (by repeat (first | exact hT | refine wF ?_ rfl)), sV, sV, sV, oM, hf', hall', hfr'⟩, oM⟩
   ·clear htk; cases he : eqD e' (.ofNat 0) with
    | true =>
     refine xB ?_; refine ⟨i + 1, ⟨_, _, _, .ofNat 7, rfl, rfl, (by repeat (first | exact hT | refine wF ?_ rfl)), sV, sV, sV, oM, by rw [xi, if_pos rfl]; rfl, fun h => absurd h (by decide), fun j hj => by rw [xi, if_neg hj]; exact hfr' j hj⟩, oM⟩
    | false =>
     refine xB ?_; exact ⟨i + 1, ⟨_, _, _, e', rfl, rfl, (by repeat (first | exact hT | refine wF ?_ rfl)), sV, sV, sV, oM, hf', (fun h => by rw [h] at he; cases he), hfr'⟩, oM⟩
end
def Ws (pos : Int) (x e : DT) : DT := .mk (.ofNat 6) (.ofNat 0) [] [x, e] pos
def Vn : List Nat × ICode × ICode := match f17.body with
 | .seq _ (.seq _ (.seq _ (.seq _ (.seq _ (.seq _ (.seq _ (.seq _ (.seq _ (.seq (.seq _ (.block _ (.rf _ ps a b))) _))))))))) => (ps, a, b)
 | _ => ([], .skip, .skip)
def i3 : Nat → Int
 | 0 => .negSucc 0
 | k + 1 => .ofNat k
theorem zsn {k : Nat} (h : k < 1000000000001) : qV .i64 (Int.sub (.ofNat k) (.ofNat 1)) = i3 k := by
 cases k with
 | zero => rfl
 | succ k => rw [zwN oM, Yw oM]; rfl
theorem zpw {A : Nat → Prop} {L : List (Nat × Option AObj)} {out : List DT} {gs : List AV} {i : Nat} {x : DT} {r : List DT} (h : DAtL A L out gs) (hd : out.drop i = x :: r) : ∃ c, wC 5 (wP (i * 5) gs) = some c ∧ DAt A L x c := by
 obtain ⟨a, b, c, rfl, e, h1, _⟩ := h.at hd; exact ⟨b, gw e h1.len, h1⟩
theorem DAt.pair {A A' : Nat → Prop} {L L' : List (Nat × Option AObj)} {x e : DT} {cx ce : List AV} {t : Nat} {pos : Int} {xf f : Bool} (hx : DAt A L x cx) (he : DAt A L e ce) (ha : ∀ i, A i → A' i) (hl : ∀ i, A i → xx L' i = xx L i) (hid : A' id) (hg : xx L' id = some (.row t (cx ++ ce) xf f)) : DAt A' L' (Ws pos x e) [.int .i64 (.ofNat 6), .int .i64 (.ofNat 0), .str [], .sl id 0 2 (.fix 2), .int .i64 pos] := by
 simp only [Ws, DAt]; refine ⟨_, rfl, .inr (.inr ⟨id, _, t, xf, f, cx ++ ce, rfl, hid, hg, ?_⟩)⟩; simp only [DAtL]; exact ⟨cx, ce, rfl, hx.mono ha hl, ce, [], by rw [zmw], he.mono ha hl, rfl⟩
def BwI (F : Fi) (L0 : List (Nat × Option AObj)) (n0' : Nat) (A : Nat → Prop) (out : List DT) (e0 : DT) (nb l lb dd : Nat) (tF : List (Nat × AV)) (k : Nat) (fr : Fr) (s : St) : Prop :=
 ∃ T L n m e ce, fr = ⟨tmL T, []⟩ ∧ s = KL L n m false [] none ∧ (tmL T).get 0 = some (.yld l) ∧ (tmL T).get 1 = some (.ptr nb 0) ∧ (tmL T).get 3 = some (.int .i64 (i3 k)) ∧ k ≤ out.length ∧ WfA L n ∧ n0' ≤ n ∧ xx L l = some (.loop .ready none (tmL tF) Vn.1 Vn.2.1 Vn.2.2 dd) ∧ xx L lb = some (.row 25 ce false false) ∧ DAt (fun r => A r ∨ (n0' ≤ r ∧ r < n)) L e ce ∧ e = (out.drop k).foldr (Ws F.pos) e0 ∧ ∀ j, j < n0' → j ≠ lb → j ≠ l → xx L j = xx L0 j
section
variable {O : Orc} {F : Fi}
attribute [local go_sem] xo xH xF wc ltF gtF wz wg zmP zmQ zmU zmR ue qB ua Vn f17 in
theorem zsX (h58 : O 58 = none) {L : List (Nat × Option AObj)} {m nb k n0 lb l dd : Nat} {tF : List (Nat × AV)} {A : Nat → Prop} {gs ce0 : List AV} {out : List DT} {e0 : DT} (hw : WfA L n)
  (hk : out.length = k) (hk2 : k < 1000000000000) (gnb : xx L nb = some (.row 23 [gSl 5 id k] false false)) (ga : k ≠ 0 → xx L id = some (.row 25 gs true false)) (hout : DAtL A L out gs) (gl : xx L l = some (.loop .ready none (tmL tF) Vn.1 Vn.2.1 Vn.2.2 dd)) (t3 : (tmL tF).get 3 = some (.ptr n0 0)) (t15 : (tmL tF).get 15 = some (.ptr lb 0)) (g0 : xx L n0 = some (.row 52 [.ptr F.fp 0] false false)) (hfil : F.Fil L) (glb : xx L lb = some (.row 25 ce0 false false)) (hce : DAt A L e0 ce0)
  (hA : ∀ r, A r → r < n ∧ r ≠ lb ∧ r ≠ l) (h1 : lb < n ∧ l < n ∧ nb < n ∧ n0 < n ∧ F.fp < n ∧ (k ≠ 0 → id < n)) (h2 : nb ≠ lb ∧ nb ≠ l ∧ n0 ≠ lb ∧ n0 ≠ l ∧ F.fp ≠ lb ∧ F.fp ≠ l ∧ lb ≠ l ∧ (k ≠ 0 → id ≠ lb ∧ id ≠ l)) (b : Bool) :
  Cv ((evW env O).call 58 [.yld l, .ptr nb 0] (KL L n m b [] none)) fun v t => ∃ ce L2 n2 m2, t = KL L2 n2 m2 b [] none ∧ WfA L2 n2 ∧ n ≤ n2 ∧ xx L2 l = some (.loop .ready none (tmL tF) Vn.1 Vn.2.1 Vn.2.2 dd) ∧ xx L2 lb = some (.row 25 ce false false) ∧ DAt (fun r => A r ∨ (n ≤ r ∧ r < n2)) L2 (out.foldr (Ws F.pos) e0) ce ∧ ∀ j, j < n → j ≠ lb → j ≠ l → xx L2 j = xx L j := by
 refine qA (F := f58) h58 rfl rfl (zmv rfl) ?_; have hs3 := zsn (k := k) oM; unfold f58; simp only [Ko, Ki]; refine xw ?_; refine xQ ?_; refine wS (fun k : Nat => k) (BwI F L n A out e0 nb l lb dd tF) (fun k2 fr s hI => ?_) k ⟨_, L, n, m, e0, ce0, rfl, rfl, sW, sW, sW, oM, hw, zp _, gl, glb, hce.mono (fun r h => .inl h) fun _ _ => rfl, by rw [zmz oM]; rfl, fun _ _ _ _ => rfl⟩
 obtain ⟨T, L2, n2, m2, e, ce, rfl, rfl, q0, q1, q3, hk3, hw2, hn2, gl2, glb2, hde, he, hfr⟩ := hI; have gnb2 : xx L2 nb = some (.row 23 [gSl 5 id k] false false) := by rw [hfr nb oM h2.1 h2.2.1]; exact gnb
 cases k2 with
 | zero =>
  rw [z4] at he; simp only [i3] at q3; clear gnb glb hs3; refine xB ?_; refine x7 ?_; subst he; exact ⟨ce, L2, n2, m2, rfl, hw2, hn2, gl2, glb2, hde, hfr⟩
 | succ k2 =>
  have hlt : k2 < k := oM; have hia := @kR 5 id k k2 hlt; obtain ⟨x, hd⟩ : ∃ x, out.drop k2 = x :: out.drop (k2 + 1) := ⟨_, zmL oM⟩; obtain ⟨cx, hcx, hdx⟩ := zpw hout hd; have hdx2 : DAt (fun r => A r ∨ (n ≤ r ∧ r < n2)) L2 x cx := hdx.mono (fun r h => .inl h) fun r h => by
   have := hA r h; exact hfr r this.1 this.2.1 this.2.2
  obtain ⟨kx, ex, hsx⟩ := hdx2.cells; obtain ⟨ke, ee, hse⟩ := hde.cells; have gid := ga oM; rw [← hfr id (h1.2.2.2.2.2 oM) (h2.2.2.2.2.2.2.2 oM).1 (h2.2.2.2.2.2.2.2 oM).2] at gid; rw [← hfr n0 h1.2.2.2.1 h2.2.2.1 h2.2.2.2.1] at g0; obtain ⟨made, e1, hgf⟩ := hfil; rw [← hfr F.fp h1.2.2.2.2.1 h2.2.2.2.2.1 h2.2.2.2.2.2.1] at hgf; have hs2 := zsn (k := k2) oM; have d1 := h1.1; have d2 := h1.2.1; have d3 := h1.2.2.1; have d4 := h1.2.2.2.1; have d5 := h1.2.2.2.2.1; have d6 := h1.2.2.2.2.2 oM; have e2 := h2.2.2.2.2.2.2.1; have e3 := h2.2.2.2.2.2.1; have e4 := h2.2.2.2.2.1; have e5 := h2.2.2.2.1; have e6 := h2.2.2.1; have e7 := h2.1; have e8 := h2.2.1; obtain ⟨e9, e10⟩ := h2.2.2.2.2.2.2.2 oM; have hA2 : ∀ r, (A r ∨ (n ≤ r ∧ r < n2)) → r < n2 ∧ r ≠ lb ∧ r ≠ l := fun r hr => by
   rcases hr with hr | hr
   ·have := hA r hr; exact ⟨oM, this.2.1, this.2.2⟩
   ·exact ⟨hr.2, oM, oM⟩
  clear gnb glb hs3 gl ga hA h1 h2 hout; replace hfr := fun j h1 h2 h3 => (hfr j h1 h2 h3).symm; simp only [i3] at q3; rw [ex] at hcx; rw [ee] at glb2; have hsx' := hsx; have hse' := hse; simp only [scal] at hsx' hse'; generalize xE x = xk at *; generalize qL x = xn at *; generalize x9 x = xt at *; generalize plD x = xp at *; generalize xE e = ek at *; generalize qL e = en at *; generalize x9 e = et at *; generalize plD e = ep at *; subst ex; subst ee; have r2 := e2.symm; refine xB ?_; refine ⟨k2, ⟨_, _, n2 + 1 + 1, _, Ws F.pos x e, _, rfl, rfl, sV, sV, sV, oM, ?_, oM, sV, sV, DAt.pair hdx2 hde (fun r hr => hr.imp (fun h => h) fun hr => ⟨hr.1, oM⟩) (fun r hr => ?_) (.inr ⟨?_, ?_⟩) (t := 25) (xf := false) (f := false) (id := n2 + 1) ?_, ?_, fun j h1 h2 h3 => ?_⟩, oM⟩
  ·(repeat first | exact hw2.up oM | refine WfA.same ?_ oM)
  ·have := hA2 r hr
   (repeat (rw [xi, if_neg oM]))
  ·omega
  ·omega
  ·simp (disch := first | exact dis | fail) only [go_sem, seval, -rO, -rN, *]
  ·rw [hd, zm4, ← he]
  ·(repeat (rw [xi, if_neg oM]))
   exact (hfr j h1 h2 h3).symm
end
def Fi.Sym (F : Fi) (s : DT) : Prop := vv F.vs s = .negSucc 0 → wl s = false → F.P (.mk (xE s) (qV .i64 (zla F.next (uA 0 F.own s))) (x9 s) (wi s) F.pos)
theorem znd (K : Nat) (vs : List VarT) (ws : List VT) (d : DT) {k : Nat} (h : k ≤ K) : k ≤ bD K vs ws d := by
 have := Ls K vs ws d; omega
theorem UR (hmay : wI d = true ∨ d = wO) (hm : wE d = false) : wi d = [] := by
 rcases hmay with h | rfl
 ·have hk : we d = none := by
   cases hk : we d with
   | none => rfl
   | some xy =>
    obtain ⟨x, y⟩ := xy; obtain ⟨k, n, t, ks, p⟩ := d; obtain ⟨rfl, _⟩ := wW hk; cases hm
  rw [Zr hk] at h; split at h
  ·rename_i h7
   rw [wE, h7] at hm; simp [eqD] at hm
  ·simp only [zl, decide_eq_true_eq] at h; exact List.length_eq_zero_iff.1 h.1
 ·rfl
theorem Y9 {d d' : DT} (h : ∀ o, vR o d = vR o d') : ∀ (l : List DT) (i : Nat), uA i l d = uA i l d'
 | [], _ => rfl
 | o :: r, i => by simp only [uA, h, Y9 h r]
section
variable {O : Orc} {F : Fi}
attribute [local go_sem] wU xo xH xF wc kS ltF gtF wz wg zmP zmQ zmU zmR ue qB in
theorem Pn (h17 : O 17 = none) (h35 : O 35 = some gKn) (hvs : F.vs.length < 1000000000) {i : Nat} (hkf : vv F.vs d = .ofNat i) (hi : i < F.vs.length) : F.Con O d := by
 intro L n m v ws b hp hB; refine qA (F := f17) h17 rfl rfl (zmv rfl) ?_; have hkn := fun s => oc h35 jv (F.vs, d) hvs (kJ F.vs d) s; rw [hkf] at hkn; have hbp := fun {k} => @znd F.K F.vs ws d k; generalize bD F.K F.vs ws d = BB at *; have hi2 : i < ws.length := by rw [hp.len]; exact hi
 have hp3 := ((hp.cons (some (.row 52 [.ptr F.fp 0] false false))).cons (some (xX d))).cons (some um); obtain ⟨r1, r2, r3, hr1, hr2, hr3, hr4, hr5, hr6⟩ := hp3.env.rd hi2 (Xz hi2); have hv := uF.1 hp.ok _ (List.getElem_mem hi2); rw [Xz hi2] at hv; simp only [pe] at hv; have hR := hv.1; have hfp := hp.fp; have hfil := hp.fil; obtain ⟨made, e, hgf⟩ := hp.fil; have hw3 := hp3.wf; generalize dV (wAt ws i) = w at *; unfold f17; simp only [Ko, Kn, Kd, Kf, Ki]; obtain ⟨dk, dn, dt, ds, dp⟩ := d; obtain ⟨wk, wn, wt, wks, wp⟩ := w; simp only [xX, um, xo] at hkn hr1 hr4 hw3; clear hr5 hr6 hv hB; simp only [ua] at hgf; refine xw ?_; refine xw ?_; refine x7 ?_; refine ⟨xu (.mk wk wn wt wks wp), .mk wk wn wt wks wp, _, n + 1 + 1 + 1, _, by simp only [xo], rfl, DAt.of _, hR.1, hbp hR.2, ?_, oM, ?_, fun j h1 h2 => ?_⟩
 ·(repeat first | exact hp.wf.up oM | refine WfA.same ?_ oM)
 ·exact hfil.keep (by (repeat (rw [xi, if_neg oM])))
 ·(repeat (rw [xi, if_neg oM]))
attribute [local go_sem] wU xo xH xF wc kS ltF gtF wz wg zmP zmQ zmU zmR ue qB ua in
theorem zxK (h17 : O 17 = none) (h35 : O 35 = some gKn) (h27 : O 27 = some kQ) (h40 : O 40 = none) (h42 : O 42 = none) (h41 : O 41 = none) (h39 : O 39 = none) (hvs : F.vs.length < 1000000000) (hol : F.own.length < 1000000000) (hkf : vv F.vs d = .negSucc 0) (hm : wE d = false) (hk0 : wi d = []) (hdot : wl d = false) (hsy : SymOk F.Sym d) : F.Con O d := by
 intro L n m v ws b hp hB; refine qA (F := f17) h17 rfl rfl (zmv rfl) ?_; have hkn := fun s => oc h35 jv (F.vs, d) hvs (kJ F.vs d) s; have hma := fun s => oc h27 wB d trivial (wT d) s; rw [hkf] at hkn; rw [hm] at hma; have hbp := Ls F.K F.vs ws d; generalize bD F.K F.vs ws d = BB at *; have hfp := hp.fp; have hw := hp.wf; obtain ⟨made, e, hgf⟩ := hp.fil; have hown := hp.own; have hsym : eqD (xE d) (.ofNat 5) = true → F.P (.mk (xE d) (qV .i64 (zla F.next (uA 0 F.own d))) (x9 d) (wi d) F.pos) := fun h5 => hsy d (by rw [Zw h5]; simp) hkf hdot
 have hf1 := fun {L n p} (hp : p < n) (hg : xx L p = some (xX (.mk (xE d) (qL d) (x9 d) (wi d) F.pos))) o m => @znm O h42 h39 o (.mk (xE d) (qL d) (x9 d) (wi d) F.pos) L n p hp hg m true; have hlk : ∀ o, vR o (.mk (xE d) (qL d) (x9 d) (wi d) F.pos) = vR o d := fun o => rfl; unfold f17; simp only [Ko, Kn, Kd, Kf, Ki]; obtain ⟨dk, dn, dt, ds, dp⟩ := d; simp only [xE, qL, x9, wi] at hsym hf1 hlk; simp only [xo] at hkn hma; refine xw ?_; refine xw ?_; refine xJ (xJ (xB ?_)); refine Y2 sW ?_; refine xJ (uy ?_); refine wL (QW h40 (made := made) (e := e) (by (repeat (rw [xi, if_neg oM])); exact hgf) false) fun v1 t hv => ?_
 obtain ⟨made2, e2, L2, m2, rfl, hg2, hfr⟩ := hv; have g0 := hfr n oM; have g1 := hfr (n + 1) oM; have g2 := hfr (n + 1 + 1) oM; simp (disch := first | exact dis | fail) only [go_sem, seval, -rO, -rN] at g0 g1 g2
 have hfrL : ∀ j, j < n → j ≠ F.fp → xx L2 j = xx L j := fun j h1 h2 => by rw [hfr j h2]; (repeat (rw [xi, if_neg oM]))
 have hw2 : WfA L2 (n + 1 + 1 + 1) := fun j hj => by rw [hfr j oM]; (repeat (rw [xi, if_neg oM])); exact hw j oM
 have hga2 : GAt 25 xu L2 0 (n + 1 + 1 + 1) F.oid F.own := fun hne => by
  obtain ⟨a1, a2, a3⟩ := hown hne; have : F.oid ≠ F.fp := hp.fil.ne a3 (by decide)
  exact ⟨a1, oM, by rw [hfrL _ a2 this]; exact a3⟩
 clear hgf hown hkn hma hfr hB hp hw; refine xB ?_; refine xw ?_; have hgd := fun o1 => show xx ((n + 1, some (xX (.mk dk dn dt ds F.pos))) :: o1) (n + 1) = some (xX (.mk dk dn dt ds F.pos)) by rw [xi, if_pos rfl]
 have hga3 : GAt 25 xu ((n + 1, some (xX (.mk dk dn dt ds F.pos))) :: L2) 0 (n + 1 + 1 + 1) F.oid F.own := fun hne => by
  obtain ⟨a1, a2, a3⟩ := hga2 hne; refine ⟨a1, a2, ?_⟩; rw [xi, if_neg]
  ·exact a3
  ·intro e; rw [e, g1] at a3; simp at a3
 have hidx := Y9 (d' := .mk dk dn dt ds dp) hlk F.own 0; have hoe := fun m => ztS h41 hga3 (cf := 42) (d := .mk dk dn dt ds F.pos) (p := n + 1) (fun o m => by rw [hf1 oM (hgd _) o m, hlk]) hol m false
 simp only [xX, xo] at hoe; have hfe : ∀ (b : Bool) (m : Nat) (d' : DT) L3 v, v = .agg (xu d') → SymOk F.P d' → xq d' ≤ BB → WfA L3 (n + 1 + 1 + 1) → (∀ j, j < n → xx L3 j = xx L2 j) → F.Post L n b BB v (KL L3 (n + 1 + 1 + 1) m b [] none) := fun b m d' L3 v a0 a1 a2 a3 a4 => ⟨xu d', d', L3, _, m, a0, rfl, DAt.of _, a1, a2, a3, oM, ⟨made2, e2, by rw [a4 _ hfp]; exact hg2⟩, fun j h1 h2 => by rw [a4 j h1]; exact hfrL j h1 h2⟩
 refine xJ (xJ (xB ?_)); cases h5 : eqD dk (.ofNat 5) with
 | false =>
  refine Y1 sV ?_; refine xB ?_; refine xB ?_; refine x7 ?_; refine hfe b _ (.mk dk dn dt ds F.pos) _ _ (by simp only [xo]) ?_ ?_ ?_ ?_
  ·have hds : ds = [] := hk0; refine Yn h5 fun x hx => ?_; rw [hds] at hx; cases hx
  ·have hds : ds = [] := hk0; simp only [xq, hds, xO]; omega
  ·(repeat first | exact hw2.up oM | refine WfA.same ?_ oM)
  ·intro j hj
   (repeat (rw [xi, if_neg oM]))
 | true =>
  refine Y2 sV ?_; refine xB ?_; refine xB ?_; refine x7 ?_; refine hfe b _ (.mk dk (qV .i64 (zla F.next (uA 0 F.own (.mk dk dn dt ds dp)))) dt ds F.pos) _ _ (by simp only [xo]) ?_ ?_ ?_ ?_
  ·intro s hs; rw [Zw (d := .mk dk _ dt ds F.pos) h5] at hs; simp only [zmE, zmD, or_false] at hs; subst hs; exact hsym h5
  ·have hds : ds = [] := hk0; simp only [xq, hds, xO]; omega
  ·(repeat first | exact hw2.up oM | refine WfA.same ?_ oM)
  ·intro j hj
   (repeat (rw [xi, if_neg oM]))
end
theorem zwO (c : Nat) {ps : List wy} {i : Nat} {p : wy} {r : List wy} (hd : ps.drop i = p :: r) : jG c (ps.take (i + 1)) = jG c (ps.take i) + (c + xq p.1) := by
 rw [jd hd, Xs]; simp only [jG]; omega
theorem WQ (c : Nat) (ps : List wy) (i : Nat) : jG c (ps.take i) ≤ jG c ps := by
 conv => rhs; rw [← zmT i ps, Xs]
 omega
theorem vf (esz id k : Nat) : (gSl esz id k).cells = [gSl esz id k] := by cases k <;> rfl
theorem VB (hm : wE d = true) : (eqD (xE d) (.ofNat 7) = true ∧ cOf d = 0 ∧ 1 + uE 0 (xr d).1 ≤ xq d) ∨ (eqD (xE d) (.ofNat 7) = false ∧ cOf d = 1 ∧ uE 1 (xr d).1 + xq (xr d).2 ≤ xq d) := by
 have h := zxZ hm; cases h7 : eqD (xE d) (.ofNat 7) with
 | true => rw [h7, if_pos rfl] at h; exact .inl ⟨rfl, h⟩
 | false => rw [h7, if_neg (by simp)] at h; exact .inr ⟨rfl, h⟩
theorem zyF (s : St) (id : Nat) (ps : List wy) : Qh s .v (pf id ps) = some (.int .i64 (.ofNat ps.length)) := by cases ps <;> rfl
theorem zsR {id i : Nat} {ps : List wy} (h : i < ps.length) : vIa 6 (pf id ps) (.int .i64 (.ofNat i)) = some (.ptr id (i * 6)) := by
 rw [jK (by intro e; rw [e] at h; simp at h)]
 simp only [vIa, Ya .i64 h]; simp
def zcs : List AV := [.int .i64 (.ofNat 0), .int .i64 (.ofNat 0), .str [], .nils, .int .i64 (.ofNat 0)]
theorem DAt.zero (A : Nat → Prop) (L : List (Nat × Option AObj)) : DAt A L wO zcs := by
 simp only [wO, DAt, zcs]; exact ⟨.nils, rfl, .inr (.inl ⟨trivial, rfl⟩)⟩
theorem zqd (i : Nat) (o : Option AObj) (r : List (Nat × Option AObj)) : xx ((i, o) :: r) i = o := by rw [xi, if_pos rfl]
theorem J9 {G : List (List AV)} {res : List RV} {L : List (Nat × Option AObj)} {m d : Nat} {b : Bool} (h : xx L d = some .dfd) : wR G res (some (.ret, ⟨tm, [d]⟩, KL L n m b [] none)) = Xm G tm (KL ((d, some .dfd0) :: L) n (jW m d) b [] none) res := by
 have : w5 (KL L n m b [] none) [d] = some (KL ((d, some .dfd0) :: L) n (jW m d) b [] none) := by
  simp only [w5, qc, h, zvk]
 unfold wR; simp only [this]
theorem znl {fr : Fr} {l d : Nat} {U : Option (AV × St)} {R : AV → St → Prop} {Q : Res → Fr → St → Prop} (hc : Cv U R) (h : ∀ v t, R v t → Ev (gI fr l d (some (v, t))) Q) : Ev (gI fr l d U) Q := by
 obtain ⟨v, t, rfl, q⟩ := hc; exact h v t q
theorem WH (pos : Int) (e : DT) : ∀ l : List DT, xq (l.foldr (Ws pos) e) = uE 1 l + xq e
 | [] => by simp only [List.foldr_nil, uE]; omega
 | x :: r => by
  have := WH pos e r; simp only [zm4, Ws, xq, xO, uE]; omega
theorem WR {P : DT → Prop} (pos : Int) {e : DT} (he : SymOk P e) : ∀ {l : List DT}, (∀ x ∈ l, SymOk P x) → SymOk P (l.foldr (Ws pos) e)
 | [], _ => he
 | x :: r, h => by
  rw [zm4]; refine Yn rfl fun y hy => ?_; simp only [zmE, zmD, or_false] at hy; rcases hy with rfl | rfl
  ·exact h y (by simp)
  ·exact WR pos he fun z hz => h z (yD _ hz)
def fiB (F : Fi) (n no : Nat) (v tv : AV) (lp : Nat) : List (Nat × AV) := [(2, v), (3, .ptr n 0), (4, .ptr (n + 1) 0), (6, .ptr (n + 1 + 1) 0), (9, .ptr (n + 1 + 1 + 1) 0), (12, .ptr no 0), (67, tv), (68, .int .i64 (.ofNat lp))]
def FiI (F : Fi) (L : List (Nat × Option AObj)) (n no : Nat) (v : AV) (ws : List VT) (d e9 : DT) (ps : List wy) (pid c KS : Nat) (i : Nat) (fr : Fr) (s : St) : Prop :=
 ∃ T L' n' m' id gs out, fr = ⟨tmL T, []⟩ ∧ s = KL L' n' m' false [] none ∧ TG T (fiB F n no v (pf pid ps) ps.length) ∧ (tmL T).get 69 = some (.int .i64 (.ofNat i)) ∧ i ≤ ps.length ∧ F.Pre L' n' v ws ∧ CoAt F L' n' n no d id gs out.length out ∧ (∀ x ∈ out, SymOk F.P x) ∧ uE c out ≤ KS * jG c (ps.take i) ∧ xx L' (n + 1 + 1) = some um ∧ xx L' (n + 1 + 1 + 1) = some (xX e9) ∧ (ps ≠ [] → xx L' pid = some (.row 79 (xz xA ps) true false)) ∧ ∀ j, j < n → j ≠ F.fp → xx L' j = xx L j
section
variable {O : Orc}
attribute [local go_sem] wz wg zmP zmQ zmU vf in
theorem zpW (h45 : O 45 = none) {L : List (Nat × Option AObj)} {m k : Nat} (b : Bool) :
  Cv ((evW env O).call 45 [gSl 5 id k] (KL L n m b [] none)) fun v t => ∃ m2, v = .fn 58 [] [.ptr n 0] ∧ t = KL ((n, some (.row 23 [gSl 5 id k] false false)) :: L) (n + 1) m2 b [] none := by
 refine qA (F := f45) h45 rfl rfl (zmv rfl) ?_; unfold f45; simp only [Ko]; refine xw ?_; refine xw ?_; refine xB ?_; refine x7 ?_; exact ⟨_, rfl, rfl⟩
end
section
variable {O : Orc} {F : Fi}
attribute [local go_sem] wU xo xH xF wc kS ltF gtF wz wg zmP zmQ zmU zmR ue qB ua zyF vf in
theorem zxL (h17 : O 17 = none) (h35 : O 35 = some gKn) (h27 : O 27 = some kQ) (h29 : O 29 = some Y5) (h30 : O 30 = none) (h25 : O 25 = some Qb) (h36 : O 36 = some Qa) (h40 : O 40 = none) (h43 : O 43 = none) (h44 : O 44 = none) (h56 : O 56 = none) (h57 : O 57 = none) (h45 : O 45 = none) (h58 : O 58 = none) (hvs : F.vs.length < 1000000000) (hz : F.R wO) {k : Nat} (hmay : wI d = true) (hm : wE d = true) (hnd : xq d ≤ 180000) (htm : (uU F.vs d k).2 = true) (hsy : SymOk F.Sym d) (ihf : ∀ x k, xq x < xq d → wI x = true → (uU F.vs x k).2 = true → SymOk F.Sym x → F.Con O x) : F.Con O d := by
 intro L n m v ws b hp hB; refine qA (F := f17) h17 rfl rfl (zmv rfl) ?_; have hkf : vv F.vs d = .negSucc 0 := vY (kU hm); have hkn := fun s => oc h35 jv (F.vs, d) hvs (kJ F.vs d) s; have hma := fun s => oc h27 wB d trivial (wT d) s; rw [hkf] at hkn; rw [hm] at hma; have hil := lL d; have hin := fun s => oc h29 wB d oM (wT d) s; simp only [kS] at hin; have hok : (xS wl (xr d).1 [] true).2 = true := by
  cases hok : (xS wl (xr d).1 [] true).2 with
  | true => rfl
  | false => rw [Yp hm hok] at htm; cases htm
 rw [Yq hmay hm hok] at htm; have htp := Li htm; have hitem := v4 (e := wl) hmay hm; have hend := kW hmay hm; have hisum := VB hm; have hsum := lY (e := wl) (cOf d) (xr d).1 [] true; have hS1 : ∀ p ∈ (xS wl (xr d).1 [] true).1, p.1 ∈ (xr d).1 := fun p hp => by
  rcases vG _ _ _ _ hp with h | ⟨q, hq, _⟩
  ·exact h
  ·cases hq
 have hsyi := WS _ d (yx _) hsy; have hsyp : ∀ p ∈ (xS wl (xr d).1 [] true).1, SymOk F.Sym p.1 := fun p hp => by
  have h1 := hS1 p hp; unfold xr at h1; split at h1
  ·rename_i h7
   have hk : xE d = .ofNat 7 := of_decide_eq_true h7; exact hsy.kid (by rw [hk]; rfl) h1
  ·exact hsyi.1 _ h1
 have hsye : eqD (xE d) (.ofNat 7) = false → SymOk F.Sym (xr d).2 := fun h7 => by
  unfold xr; rw [h7, if_neg (by simp)]
  exact hsyi.2
 have hcdp : ∀ p ∈ (xS wl (xr d).1 [] true).1, cD F.K (cOf d) F.vs ws p.1 ≤ (F.K + 2) * sD F.vs ws d * (cOf d + xq p.1) := fun p hp => by
  have := zs1 (K := F.K) (c := cOf d) (zqP (vs := F.vs) (ws := ws) hmay hm (hS1 p hp)); rw [zm0] at this; exact this
 have hbe : bD F.K F.vs ws (xr d).2 ≤ (F.K + 2) * sD F.vs ws d * xq (xr d).2 := by
  unfold bD; rw [zm0]; exact Nat.mul_le_mul_right _ (zmS _ (zoO hmay hm))
 have hbD : bD F.K F.vs ws d = (F.K + 2) * sD F.vs ws d * xq d := by unfold bD; rw [zm0]
 have hKS : 1 ≤ (F.K + 2) * sD F.vs ws d := Nat.mul_pos oM (P5 _ _ _); have hpl := u6 (e := wl) (xr d).1 [] true; have hil2 := lK d; simp only [y7, yy] at hpl; have hpe := fun {L0} {n0 m0} (hw0 : WfA L0 n0) => @HM O h30 h25 h36 (xr d).1 none oM (fun _ h => by cases h) L0 n0 m0 hw0 false
 simp only [YR] at hpe; simp only [jG] at hsum; have hpn := xR (xr d).2; generalize hbb : bD F.K F.vs ws d = BB at *; generalize (F.K + 2) * sD F.vs ws d = KS at *; generalize hcc : cOf d = c at *; generalize xS wl (xr d).1 [] true = PP at *; obtain ⟨ps, ok⟩ := PP; simp only at hok hpl hitem htp hS1 hsyp hcdp hsum; subst hok; generalize xr d = II at *; obtain ⟨l, e9⟩ := II; simp only at hin hil2 hpl hend hisum hS1 hsye hsum hbe hpe hpn; have hfp := hp.fp; have hw := hp.wf; obtain ⟨made, e, hgf⟩ := hp.fil; simp only at htp; simp only [xE] at hisum hsye hend; clear hkf hil hm hS1 hsyi hsy htm; unfold f17; simp only [Ko, Kn, Kd, Kf, Ki]; have hfr2 : FrAt = FrAt := rfl; generalize hdd : d = d' at *; obtain ⟨dk, dn, dt, ds, dp⟩ := d; generalize hee : e9 = e' at *; obtain ⟨ek, en, et, es, ep⟩ := e9; subst hdd; subst hee; simp only [xo] at hkn hma hin ⊢; refine xw ?_; refine xw ?_; refine xw ?_; refine xw ?_; refine xJ (uy ?_); refine wL (hpe ?_) fun v0 t hv0 => ?_
 ·(repeat first | exact hw.up oM | refine WfA.same ?_ oM)
 obtain ⟨pid, L1, n1, m1, rfl, rfl, hw1, hn1, hfr1, hrow⟩ := hv0; have g0 := hfr1 n oM; have g1 := hfr1 (n + 1) oM; have g2 := hfr1 (n + 1 + 1) oM; have g3 := hfr1 (n + 1 + 1 + 1) oM; simp (disch := first | exact dis | fail) only [go_sem, seval, -rO, -rN] at g0 g1 g2 g3
 have hfrL : ∀ j, j < n → xx L1 j = xx L j := fun j h1 => by rw [hfr1 j oM]; (repeat (rw [xi, if_neg oM]))
 clear hpe hfr1 hkn hma hin; refine xB ?_; refine xw ?_; have hPn : jG c ps ≤ xq (.mk dk dn dt ds dp) := by
  rcases hisum with ⟨_, rfl, h⟩ | ⟨_, rfl, h⟩ <;> omega
 refine xJ (xJ (xB ?_)); refine xQ ?_; have hL2 : ∀ j, j < n → xx ((n1, some (AObj.row 23 [.nils] false false)) :: L1) j = xx L j := fun j hj => by rw [xi, if_neg oM]; exact hfrL j hj
 have hw2 : WfA ((n1, some (AObj.row 23 [.nils] false false)) :: L1) (n1 + 1) := hw1.cons (yx _) (zmO _); refine wS (fun i : Nat => ps.length - i) (FiI F L n n1 v ws (.mk dk dn dt ds dp) (.mk ek en et es ep) ps pid c KS) (fun i fr s hI => ?_) 0 ⟨_, _, n1 + 1, _, 0, [], [], rfl, rfl, by simp (disch := first | exact dis | fail) only [go_sem, seval, -rO, -rN, TG, fiB], sW, zL _, hp.keep hw2 oM (hp.fil.keep (hL2 _ hfp)) fun j hj _ _ => hL2 j hj, ⟨⟨hfp, oM, ?_, ?_, ?_, rfl, fun h => absurd rfl h⟩, rfl, rfl, fun hne => (hp.own hne).2.1⟩, fun x hx => absurd hx (by simp), zL _, ?_, ?_, fun hne => ?_, fun j h1 h2 => hL2 j h1⟩
 ·obtain ⟨T, L', n', m', id, gs, out, rfl, rfl, hT, t69, hi, hp', hC, hso, hsz, hz2, hz3, hpr, hfr⟩ := hI; have hT' := hT; simp only [TG, fiB] at hT'; obtain ⟨t2, t3, t4, t6, t9, t12, t67, t68, _⟩ := hT'; clear hfrL hL2 hw2 hw1 g0 g1 g2 g3; have hn' := hC.fr.lt; have hpS := WQ c ps i; rcases x8 ps i with ⟨hi2, hd⟩ | ⟨p, hi2, hd⟩
  ·have hlt : ¬ i < ps.length := oM; rw [zG hi2] at hsz; have gf := hC.fr.gf; have gd := hC.fr.gd; have go := hC.fr.go; have gda := hC.dat
   have gfi := hp'.fil; simp only [xX, um, xo] at gd hz2 hz3; have hon : out.length ≠ 0 → n1 + 1 ≤ id ∧ id < n' ∧ xx L' id = some (.row 25 gs true false) := hC.fr.ga; have hpw := hp'.wf; have hce : eqD dk (.ofNat 7) = false → F.Con O (.mk ek en et es ep) := fun h7 => ihf _ _ (hend h7).2 (hend h7).1 (htp (.mk ek en et es ep, 0) (by simp)).1 (hsye h7)
   clear hitem htp hcdp hsyp hpS hd hi2 ihf; refine xB ?_; rcases hisum with ⟨h7, hc0, hsm⟩ | ⟨h7, hc1, hsm⟩
   ·refine xJ (xJ (xB ?_)); refine Y2 sV ?_; obtain ⟨made2, e2, hg2⟩ := gfi; refine xJ (uy ?_); refine wL (QW h40 hg2 false) fun v1 t hv => ?_; obtain ⟨made3, e3, L3, m3, rfl, hg3, hfr3⟩ := hv; have hgs := G7 5 id out.length; simp only [scal] at hgs; rw [← hfr3 _ oM] at gf go hz2; refine xB ?_; refine xw ?_; refine xB ?_; refine x7 ?_; refine ⟨_, .mk (.ofNat 7) (.ofNat 0) [] out F.pos, _, n', _, rfl, rfl, ?_, Yn rfl hso, ?_, ?_, oM, ⟨made3, e3, ?_⟩, fun j h1 h2 => ?_⟩
    ·simp only [DAt]; refine ⟨_, rfl, ?_⟩; cases out with
     | nil => exact .inr (.inl ⟨rfl, rfl⟩)
     | cons x r =>
      obtain ⟨i1, i2, i3⟩ := hon (by simp)
      refine .inr (.inr ⟨id, .opn 5, 25, true, false, gs, rfl, ⟨oM, i2⟩, ?_, gda.mono (fun j hj => ⟨oM, hj.2.1⟩) fun j hj => ?_⟩)
      ·rw [xi, if_neg oM, hfr3 _ oM]; exact i3
      ·rw [xi, if_neg oM, hfr3 _ oM]
    ·have q1 := Uc c out; have q2 : KS + KS * jG c ps ≤ KS * xq (.mk dk dn dt ds dp) := by
      rw [show KS + KS * jG c ps = KS * (1 + jG c ps) by rw [zmZ, Nat.mul_one]]
      exact zmS _ (by rw [hc0] at hsum ⊢; omega)
     rw [hbD]; simp only [xq]; simp only [xq] at q2; omega
    ·(repeat first | exact (fun j hj => by rw [hfr3 j oM]; exact hpw j hj) | refine WfA.same ?_ oM)
    ·(repeat (rw [xi, if_neg oM])); exact hg3
    ·(repeat (rw [xi, if_neg oM])); rw [hfr3 j h2]; exact hfr j h1 h2
   ·refine xJ (xJ (xB ?_)); refine Y1 sV ?_; refine xB ?_; replace hce := hce h7 L' n' m' v ws false hp' (by rw [hbD] at hB; have := zmS KS (show xq (DT.mk ek en et es ep) ≤ xq (DT.mk dk dn dt ds dp) by omega); omega)
    simp only [xo] at hce; refine xJ (uy ?_); refine wL hce fun v1 t hv => ?_; obtain ⟨ce, e', L3, n3, m3, rfl, rfl, hde, hse, hne, hw3, hn3, hfil3, hfr3⟩ := hv; obtain ⟨ke, hke, hks⟩ := hde.cells; rw [← hfr3 _ oM oM] at gf go hz2; have hks' := hks; simp only [scal] at hks'; clear hce; have hKp : KS * jG c ps + KS * xq (DT.mk ek en et es ep) ≤ BB := by
     rw [hbD, ← zmZ]; exact zmS _ (by rw [hc1] at hsum ⊢; omega)
    have hKe : KS ≤ KS * xq (DT.mk ek en et es ep) := Nat.le_mul_of_pos_right _ hpn; have hol := Xq c out; refine xB ?_; refine xJ (xJ (uy ?_)); refine wL (zpW h45 false) fun v2 t hv => ?_; obtain ⟨m4, rfl, rfl⟩ := hv; refine xB ?_; refine xQ ?_; refine uy ?_; refine znl (zsX (F := F) h58 (k := out.length) (n0 := n) (lb := n3) (A := fun r => n1 + 1 ≤ r ∧ r < n3) (gs := gs) (ce0 := ce) (e0 := e') (out := out) (id := id) ?_ rfl ?_ ?_ ?_ ?_ (zqd _ _ _) ?_ ?_ ?_ ?_ ?_ ?_ ?_ ?_ ?_ false) fun v2 t hv => ?_
    ·(repeat first | exact hw3.up oM | refine WfA.same ?_ oM)
    ·omega
    ·(repeat (rw [xi, if_neg oM])); rw [xi, if_pos rfl]
    ·intro hk; obtain ⟨i1, i2, i3⟩ := hon hk
     (repeat (rw [xi, if_neg oM])); rw [hfr3 _ i2 oM]; exact i3
    ·refine gda.mono (fun j hj => ⟨oM, oM⟩) fun j hj => ?_
     (repeat (rw [xi, if_neg oM])); rw [hfr3 _ hj.2.1 oM]
    ·simp (disch := first | exact dis | fail) only [go_sem, seval, -rO, -rN, *]
    ·simp (disch := first | exact dis | fail) only [go_sem, seval, -rO, -rN, *]
    ·(repeat (rw [xi, if_neg oM])); exact gf
    ·refine hfil3.keep ?_
     (repeat (rw [xi, if_neg oM]))
    ·(repeat (rw [xi, if_neg oM])); rw [xi, if_pos rfl, hke]
    ·refine hde.mono (fun j hj => ⟨oM, hj.2⟩) fun j hj => ?_
     (repeat (rw [xi, if_neg oM]))
    ·exact fun r hr => ⟨oM, oM, oM⟩
    ·exact ⟨oM, oM, oM, oM, oM, fun h => by have := hon h; omega⟩
    ·exact ⟨oM, oM, oM, oM, oM, oM, oM, fun h => by have := hon h; omega⟩
    ·obtain ⟨ce2, L4, n4, m5, rfl, hw4, hn4, gl4, glb4, hd4, hfr4⟩ := hv; obtain ⟨ke2, hke2, hks2⟩ := hd4.cells; have hks2' := hks2; simp only [scal] at hks2'; simp only [Vn, f17] at gl4; have gdf := hfr4 (n3 + 1 + 1) oM oM oM; have gz2 := hfr4 (n + 1 + 1) oM oM oM; have hfrz : ∀ j, j < n → j ≠ F.fp → xx L4 j = xx L j := fun j h1 h2 => by
      rw [hfr4 j oM oM oM]
      (repeat (rw [xi, if_neg oM])); rw [hfr3 _ oM h2]; exact hfr j h1 h2
     have hfil4 : F.Fil L4 := hfil3.keep (by
      rw [hfr4 _ oM oM oM]
      (repeat (rw [xi, if_neg oM])))
     simp (disch := first | exact dis | fail) only [go_sem, seval, -rO, -rN] at gdf
     (repeat rw [xi, if_neg oM] at gz2)
     rw [hz2] at gz2; clear hfr4 hfr3 hfr gf go; rw [hke2] at glb4; refine xB ?_; refine xw ?_; refine jN (r := .ret) ?_; show Cv _ _; rw [J9 (by (repeat rw [xi, if_neg oM]); exact gdf)]
     refine x7 ?_; refine ⟨ce2, _, _, n4, _, by rw [hke2], rfl, hd4.mono (fun j hj => oM) (fun j hj => ?_), WR _ hse hso, ?_, ?_, oM, hfil4.keep ?_, fun j h1 h2 => ?_⟩
     ·(repeat (rw [xi, if_neg oM]))
     ·rw [WH]; rw [hc1] at hsz hKp; omega
     ·(repeat first | exact hw4.up oM | refine WfA.same ?_ oM)
     ·(repeat (rw [xi, if_neg oM]))
     ·(repeat (rw [xi, if_neg oM])); exact hfrz j h1 h2
  ·have hpm : p ∈ ps := zmC (by rw [hd]; simp)
   have hit := hitem p hpm; obtain ⟨htp1, htp2⟩ := htp p (by simp [hpm])
   have hps1 := zwO c hd; have hps2 := WQ c ps (i + 1); have hia := @zsR pid i ps hi2; have hpr2 := hpr (by intro e; rw [e] at hi2; simp at hi2)
   obtain ⟨pd, q⟩ := p; have hc6 := @GL ps i pd q _ hd; have hb1 : KS * jG c (ps.take i) + cD F.K c F.vs ws pd ≤ KS * jG c (ps.take (i + 1)) := by
    rw [hps1, zmZ]; exact Nat.add_le_add_left (hcdp _ hpm) _
   have hb2 : KS * jG c (ps.take (i + 1)) ≤ BB := by
    rw [hbD]; exact zmS _ oM
   have hol := Xq c out; simp only at hps1 hps2 htp1 htp2 hit; have gf := hC.fr.gf; have hk2 : ∀ (o1 o2 : Option AObj) j, j < n' → xx ((n', o1) :: (n', o2) :: L') j = xx L' j := fun o1 o2 j hj => by rw [xi, if_neg oM, xi, if_neg oM]
   have hp2 : ∀ o1 o2 : Option AObj, F.Pre ((n', o1) :: (n', o2) :: L') (n' + 1) v ws := fun o1 o2 => hp'.keep ((hp'.wf.cons (yx _) (zmO _)).same (yx _)) (zmO _) (hp'.fil.keep (hk2 o1 o2 _ hp'.fp)) fun j hj _ _ => hk2 o1 o2 j hj; have hC2 : ∀ o1 o2 : Option AObj, CoAt F ((n', o1) :: (n', o2) :: L') (n' + 1) n n1 (.mk dk dn dt ds dp) id gs out.length out := fun o1 o2 => hC.keep (zmO _) fun j hj _ => hk2 o1 o2 j hj; have hcop := fun {L n' m id gs} b h1 h2 => @UV O F h43 h44 h40 h56 h35 h27 h29 h57 hvs hz pd (.inl hit.1) oM (ihf pd _ hit.2.1 hit.1 htp1 (hsyp _ hpm)) c n n1 (.mk dk dn dt ds dp) q oM (fun h => Yc _ pd _ (yx _) (.inl hit.1) (htp2 h)) L n' m v ws id out.length gs out b h1 h2 oM; clear htp hcdp hsyp hd htp1 htp2 hps1 hpr; obtain ⟨pk, pn, pt, pks, pp⟩ := pd; simp only [xA, lk, xo, y9, zmy] at hcop hc6; refine xw ?_; refine xw ?_; refine xJ (xQ (xw ?_)); refine xJ (uy ?_); refine wL (hcop (id := id) (gs := gs) _ (hp2 _ _) (hC2 _ _)) fun v1 t hv => ?_; obtain ⟨new, id5, gs5, L5, n5, m5, rfl, hC5, hsy5, hsz5, hw5, hn5, hfil5, hid5, hfr5⟩ := hv; clear hcop hp2; have hnid : out.length ≠ 0 → id < n' := fun h => (hC.fr.ga h).2.1; have hnid2 : out.length ≠ 0 → n1 + 1 ≤ id := fun h => (hC.fr.ga h).1; have hkeep : ∀ j, j < n' → j ≠ F.fp → j ≠ n1 → (out.length ≠ 0 → j ≠ id) → xx L5 j = xx L' j := fun j h1 h2 h3 h4 => by
    rw [hfr5 j oM h2 h3 h4]
    (repeat (rw [xi, if_neg oM]))
   have z2 := (hkeep (n + 1 + 1) oM oM oM oM).trans hz2; have z3 := (hkeep (n + 1 + 1 + 1) oM oM oM oM).trans hz3; have z0 := (hkeep n oM oM oM oM).trans gf; obtain ⟨o1, o2, o3⟩ := hC.other hp'.fil hpr2 (by decide) (by decide) (by decide)
   have hpr5 := (hkeep pid (hp'.wf.lt hpr2) o1 o2 o3).trans hpr2; have hp5 := hC.pre hp' hw5 oM hfil5 hkeep; have hfr6 : ∀ j, j < n → j ≠ F.fp → xx L5 j = xx L j := fun j h1 h2 => by rw [hkeep j oM h2 oM oM, hfr j h1 h2]
   obtain ⟨made5, e5, hg5⟩ := hfil5; simp only [um] at z2; clear gf hgf hkeep hfr5 hk2 hz2 hz3 hfr hC2; refine xB ?_; cases he5 : eqD e5 (.ofNat 0) with
   | false =>
    refine xB ?_; refine x7 ?_; refine ⟨zcs, wO, _, n5, _, rfl, rfl, DAt.zero _ _, hz.1, ?_, ?_, oM, ⟨made5, e5, ?_⟩, fun j h1 h2 => ?_⟩
    ·rw [← hbb]; exact znd _ _ _ _ hz.2
    ·(repeat first | exact hw5.up oM | refine WfA.same ?_ oM)
    ·(repeat (rw [xi, if_neg oM])); exact hg5
    ·(repeat (rw [xi, if_neg oM])); exact hfr6 j h1 h2
   | true =>
    refine xB ?_; refine xB ?_; refine ⟨i + 1, ⟨_, L5, n5, _, id5, gs5, out ++ new, rfl, rfl, (by repeat (first | exact hT | refine wF ?_ rfl)), sV, oM, hp5, by rw [yd]; exact hC5, fun y hy => ?_, ?_, z2, z3, fun _ => hpr5, hfr6⟩, oM⟩
    ·rcases List.mem_append.1 hy with hy | hy
     ·exact hso y hy
     ·exact hsy5 y hy
    ·rw [Ub]; omega
 ·rw [xi, if_neg oM]; exact g0
 ·rw [xi, if_neg oM, g1]; simp only [xX, xo]
 ·rw [xi, if_pos rfl]; rfl
 ·rw [xi, if_neg oM]; exact g2
 ·rw [xi, if_neg oM, g3]; simp only [xX, xo]
 ·obtain ⟨_, h1, h2⟩ := hrow hne; rw [xi, if_neg oM]; exact h2
end
theorem G1 {O : Orc} {F : Fi} (h17 : O 17 = none) (h35 : O 35 = some gKn) (h27 : O 27 = some kQ) (h29 : O 29 = some Y5) (h30 : O 30 = none) (h25 : O 25 = some Qb) (h36 : O 36 = some Qa) (h40 : O 40 = none) (h43 : O 43 = none) (h44 : O 44 = none) (h56 : O 56 = none) (h57 : O 57 = none) (h45 : O 45 = none) (h58 : O 58 = none) (h42 : O 42 = none) (h41 : O 41 = none) (h39 : O 39 = none) (hvs : F.vs.length < 1000000000) (hol : F.own.length < 1000000000) (hz : F.R wO) : ∀ (N : Nat) (d : DT) (k : Nat), xq d < N → wI d = true → xq d ≤ 180000 → (uU F.vs d k).2 = true → SymOk F.Sym d → F.Con O d
 | 0, d, _, h, _, _, _, _ => absurd h (zms _)
 | N + 1, d, k, hN, hmay, hnd, htm, hsy => by
  rcases uI F.vs d with hk | ⟨i, hk, hi⟩
  ·cases hm : wE d with
   | false =>
    rw [l4 hk hm] at htm; exact zxK h17 h35 h27 h40 h42 h41 h39 hvs hol hk hm (UR (.inl hmay) hm) (by simpa using htm) hsy
   | true => exact zxL h17 h35 h27 h29 h30 h25 h36 h40 h43 h44 h56 h57 h45 h58 hvs hz hmay hm hnd htm hsy fun x k h1 h2 h3 h4 => G1 h17 h35 h27 h29 h30 h25 h36 h40 h43 h44 h56 h57 h45 h58 h42 h41 h39 hvs hol hz N x k oM h2 oM h3 h4
  ·exact Pn h17 h35 hvs hk hi
end Go.Proofs.YtionbncghjdeoaaGreatDoor.Ev

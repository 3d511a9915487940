/- pennant/pennantlaw09.MatchKnown returns true, in whatever memory, on every schedule, and changes nothing that was there: the given card. Its conditions are the card's own: the package-level variables that it lists hold what the program's text lays. -/
import Derived.Test.YtidpamcogkonnaaGreatDoorTie
import Derived.Test.YtidpamcogkonnaaGreatDoorCards
import Derived.ProofKit
import Derived.OpenShut
import Derived.LaidMore
import Derived.Lay
import Derived.SevenTiedAt
import Derived.Stop.Joined
import Derived.Test.YtidpamcogkonnaaGreatDoorGoodMatchKnown
import Derived.Test.YtidpamcogkonnaaGreatDoorEval0MatchKnown
import Derived.Test.YtidpamcogkonnaaGreatDoorEval1MatchKnown
import Derived.Test.YtidpamcogkonnaaGreatDoorEval2MatchKnown
import Derived.Test.YtidpamcogkonnaaGreatDoorEvalMatchKnown
namespace Go.Proofs.YtidpamcogkonnaaGreatDoor
open Go.ChangeShapes Go.WideShapes Go.ChangeAt Go.RowKit
set_option maxRecDepth 100000

theorem own : ownKnob Tryz.prog.godebug = none := by as_aux_lemma => kernel_rfl
theorem mixed : Tryz.prog.follows .mixedOrders = true := by as_aux_lemma => kernel_rfl

/-- what was made is new: nothing that was there has turned -/
theorem post_closed {H : Type} {enc : TypeId × Value → H} {P : Program} {f : Func} {s : ChangeSpec} {apart fresh handsOn again : Bool} {W W' : World} {args : Array Value} {v : Value}
    (hW : DataW.Whole enc P f.params.toList s.vars apart W args.toList [] [] [])
    (hres : ∀ (b : Nat) (sp : Nat → Bool) (hd : Bool), DataW.TrodAll enc P W' b sp hd f.resultTypes.toList (v.resultList f.resultTypes.size) (s.fn H ([] ++ [])).results [])
    (hargs : ∀ sp : Nat → Bool, DataW.TrodAll enc P W' 0 sp true f.params.toList args.toList (s.fn H ([] ++ [])).args [])
    (hvars : ∀ sp : Nat → Bool, DataW.TrodVars enc P W' sp s.vars (s.fn H ([] ++ [])).vars [])
    (hB : Below W.heap.size W W')
    (hok : ∀ (j : Nat) (t : TypeId) (r : Value), f.resultTypes[j]? = some t → (v.resultList f.resultTypes.size)[j]? = some r → Value.okWide P W' .any 0 t r) :
    s.post enc P f apart fresh handsOn again W args v W' := by
  refine ⟨[], [], [], [], [], [], hW, hres _ _ _, hargs _, hvars _, hB.frame _, fun _ => ?_⟩
  refine ⟨hok, _, _, ([] ++ []) ++ [], ⟨[] ++ [], [], trodAll_append (hargs _) (hres _ _ _), hvars _, rfl, ?_, ?_⟩, ?_⟩
  · intro b off hp
    simp at hp
  · intro ha
    simp
  · intro p hp _
    simp at hp

def deB : List Int := [0, 1, 56, 2, 57, 49, 28, 3, 61, 58, 42, 50, 38, 29, 17, 4, 62, 47, 59, 36, 45, 43, 51, 22, 53, 39, 33, 30, 24, 18, 12, 5, 63, 55, 48, 27, 60, 41, 37, 16, 46, 35, 44, 21, 52, 32, 23, 11, 54, 26, 40, 15, 34, 20, 31, 10, 25, 14, 19, 9, 13, 8, 7, 6]
def pow10 : List Int := [1, 10, 100, 1000, 10000, 100000, 1000000, 10000000, 100000000, 1000000000, 10000000000, 100000000000, 1000000000000, 10000000000000, 100000000000000, 1000000000000000, 10000000000000000, 100000000000000000, 1000000000000000000, 10000000000000000000]
theorem matchKnown_glob {W : World} (hL : laidMetH Tryz.prog Rows.matchKnownRow.laid W) : Ev.GlobRel Ev.TMatchKnown.env.globs W := by
  rw [MakeChecks.laidMetH_plain _ _ _ (by as_aux_lemma => kernel_rfl)] at hL
  obtain ⟨ps, ⟨g0, t0, cs0, f0, p0, q0, hg0, ht0, hv0, hd0, ⟨g1, t1, cs1, f1, p1, q1, hg1, ht1, hv1, hd1, ⟨g2, t2, cs2, f2, p2, q2, hg2, ht2, hv2, hd2, _, _⟩, _⟩, _⟩, _, _⟩ := hL
  obtain rfl := Option.some.inj ((show Tryz.prog.globalNamed "math/bits.deBruijn64tab" = some 7 by as_aux_lemma => kernel_rfl).symm.trans hg1)
  obtain rfl := Option.some.inj ((show Tryz.prog.globalNamed "internal/strconv.uint64pow10" = some 3 by as_aux_lemma => kernel_rfl).symm.trans hg2)
  obtain rfl := Option.some.inj ((show (Tryz.prog.globals[7]?).map (·.type) = some 442 by as_aux_lemma => kernel_rfl).symm.trans ht1)
  obtain rfl := Option.some.inj ((show (Tryz.prog.globals[3]?).map (·.type) = some 402 by as_aux_lemma => kernel_rfl).symm.trans ht2)
  have e1 : cs1.toList = deB.map (Value.int .u8 ·) := Ev.laid_ints (vs := deB) Tryz.underlying442 Tryz.underlying5 (by as_aux_lemma => kernel_rfl) (by as_aux_lemma => kernel_rfl) hd1
  have e2 : cs2.toList = pow10.map (Value.int .u64 ·) := Ev.laid_ints (vs := pow10) Tryz.underlying402 Tryz.underlying349 (by as_aux_lemma => kernel_rfl) (by as_aux_lemma => kernel_rfl) hd2
  refine Ev.globRel_two (Ev.glob_of hg1 hv1 e1) (Ev.glob_of hg2 hv2 e2) fun i cs hi hne => ?_
  match i, hi with
  | 0, hi => cases hi; exact absurd rfl hne
  | 1, hi => cases hi; exact absurd rfl hne
  | 2, hi => cases hi; exact absurd rfl hne
  | 3, hi => cases hi; exact .inr ⟨rfl, rfl⟩
  | 4, hi => cases hi; exact absurd rfl hne
  | 5, hi => cases hi; exact absurd rfl hne
  | 6, hi => cases hi; exact absurd rfl hne
  | 7, hi => cases hi; exact .inl ⟨rfl, rfl⟩
  | n + 8, hi => cases hi
theorem matchKnown_orc0 {W : World} (hG : Ev.GlobRel Ev.TMatchKnown.env.globs W) : Ev.OrcOk Tryz.prog W Ev.TMatchKnown.O0 := by
  refine Ev.OrcOk.with (E := Ev.TMatchKnown.env) (O' := Ev.noO) mixed hG (Ev.envOk_of Ev.TMatchKnown.tblOk) (Ev.noO_ok _ _) (Ev.noO_ok _ _) ?_
  intro p hp
  simp only [Ev.TMatchKnown.L0, List.mem_cons, List.not_mem_nil, or_false] at hp
  rcases hp with rfl | rfl | rfl | rfl
  · exact ⟨rfl, rfl, 1000, Ev.TMatchKnown.e0_0⟩
  · exact ⟨rfl, rfl, 1000, Ev.TMatchKnown.e0_1⟩
  · exact ⟨rfl, rfl, 1000, Ev.TMatchKnown.e0_2⟩
  · exact ⟨rfl, rfl, 1000, Ev.TMatchKnown.e0_3⟩
theorem matchKnown_orc1 {W : World} (hG : Ev.GlobRel Ev.TMatchKnown.env.globs W) : Ev.OrcOk Tryz.prog W Ev.TMatchKnown.O1 := by
  refine Ev.OrcOk.with (E := Ev.TMatchKnown.env) (O' := Ev.TMatchKnown.O0) mixed hG (Ev.envOk_of Ev.TMatchKnown.tblOk) (matchKnown_orc0 hG) (matchKnown_orc0 hG) ?_
  intro p hp
  simp only [Ev.TMatchKnown.L1, List.mem_cons, List.not_mem_nil, or_false] at hp
  rcases hp with rfl | rfl | rfl | rfl | rfl | rfl | rfl | rfl
  · exact ⟨rfl, rfl, 1000, Ev.TMatchKnown.e1_0⟩
  · exact ⟨rfl, rfl, 1000, Ev.TMatchKnown.e1_1⟩
  · exact ⟨rfl, rfl, 1000, Ev.TMatchKnown.e1_2⟩
  · exact ⟨rfl, rfl, 1000, Ev.TMatchKnown.e1_3⟩
  · exact ⟨rfl, rfl, 1000, Ev.TMatchKnown.e1_4⟩
  · exact ⟨rfl, rfl, 1000, Ev.TMatchKnown.e1_5⟩
  · exact ⟨rfl, rfl, 1000, Ev.TMatchKnown.e1_6⟩
  · exact ⟨rfl, rfl, 1000, Ev.TMatchKnown.e1_7⟩
theorem matchKnown_orc2 {W : World} (hG : Ev.GlobRel Ev.TMatchKnown.env.globs W) : Ev.OrcOk Tryz.prog W Ev.TMatchKnown.O2 := by
  refine Ev.OrcOk.with (E := Ev.TMatchKnown.env) (O' := Ev.TMatchKnown.O1) mixed hG (Ev.envOk_of Ev.TMatchKnown.tblOk) (matchKnown_orc1 hG) (matchKnown_orc1 hG) ?_
  intro p hp
  simp only [Ev.TMatchKnown.L2, List.mem_cons, List.not_mem_nil, or_false] at hp
  rcases hp with rfl | rfl | rfl | rfl | rfl | rfl
  · exact ⟨rfl, rfl, 1000, Ev.TMatchKnown.e2_0⟩
  · exact ⟨rfl, rfl, 1000, Ev.TMatchKnown.e2_1⟩
  · exact ⟨rfl, rfl, 1000, Ev.TMatchKnown.e2_2⟩
  · exact ⟨rfl, rfl, 1000, Ev.TMatchKnown.e2_3⟩
  · exact ⟨rfl, rfl, 1000, Ev.TMatchKnown.e2_4⟩
  · exact ⟨rfl, rfl, 1000, Ev.TMatchKnown.e2_5⟩
theorem matchKnown_walk (W : World) (hL : laidMetH Tryz.prog Rows.matchKnownRow.laid W) : Calls Tryz.prog 4 #[] W fun e w' => e = .returned (.bool true) ∧ Below W.heap.size W w' :=
  Ev.walk_known mixed (matchKnown_glob hL) (Ev.envOk_of Ev.TMatchKnown.tblOk) (matchKnown_orc2 (matchKnown_glob hL)) Ev.TMatchKnown.ok

theorem matchKnown_wit_a (os : Os) : (World.holding Tryz.prog os ⟨#[], #[], []⟩).layFits Tryz.prog Rows.matchKnownRow.laid [] = true := by as_aux_lemma => kernel_rfl
theorem matchKnown_wit_b (os : Os) : (World.holding Tryz.prog os ⟨#[], #[], []⟩).layIfaces Tryz.prog Rows.matchKnownRow.laid (World.laidAll Tryz.prog os Rows.matchKnownRow.laid) = true := by as_aux_lemma => kernel_rfl
theorem matchKnown_wit_c (os : Os) : laidMet Tryz.prog Rows.matchKnownRow.laid ((World.laidAll Tryz.prog os Rows.matchKnownRow.laid).forCall (fun _ _ => 0) ⟨#[], #[], []⟩).memory := laidMet_laidAll #[] (matchKnown_wit_a os) (matchKnown_wit_b os)
theorem matchKnown_wit (os : Os) : laidMetH Tryz.prog Rows.matchKnownRow.laid ((World.laidAll Tryz.prog os Rows.matchKnownRow.laid).forCall (fun _ _ => 0) ⟨#[], #[], []⟩).memory := by
  rw [MakeChecks.laidMetH_plain _ _ _ (by as_aux_lemma => kernel_rfl)]; exact matchKnown_wit_c os
theorem matchKnown_lifted (os : Os) (started : os.Started) (H : Type) (enc : TypeId × Value → H) :
    ReturnsInHanded {} Tryz.checked os 4 .any (fun w args => (Rows.matchKnownSpec.pre enc Tryz.prog Tryz.f4 Rows.matchKnownRow.domain false w args ∧ laidMetH Tryz.prog Rows.matchKnownRow.laid w) ∧ sizedMet enc Tryz.prog Tryz.f4 (OpenSpec.ofChange Rows.matchKnownSpec) false w args)
      (Rows.matchKnownSpec.post enc Tryz.prog Tryz.f4 false true false false) := by
  refine returnsInHanded_of_change_and (C := Tryz.checked) (X := fun w _ => laidMetH Tryz.prog Rows.matchKnownRow.laid w) (fun _ _ _ hh h => h.of_heap hh) own started (by as_aux_lemma => kernel_rfl) Tryz.func4
    (ChangeSpec.witness_shaped (enc := enc) (C := Tryz.checked) (os := os) (X := fun w _ => laidMetH Tryz.prog Rows.matchKnownRow.laid w) false (World.laidAll Tryz.prog os Rows.matchKnownRow.laid) #[] 8 (World.laidAll_os _ _ _)
      (World.shaped_of_ZipB (by as_aux_lemma => kernel_rfl) (by as_aux_lemma => kernel_rfl)) (by as_aux_lemma => kernel_rfl) (by as_aux_lemma => kernel_rfl) (by as_aux_lemma => kernel_rfl)
      (matchKnown_wit os)) ?_
  intro W base args ds gs before hval0 hW hc _ hL _
  have hW' := hW
  obtain ⟨p, q, hA0, hV, rfl, _, _⟩ := hW
  have hA : DataW.TrodAll enc Tryz.prog W 0 (fun _ => true) true Tryz.f4.params.toList args.toList ds p := hA0
  rw [Tryz.params4] at hA
  obtain ⟨rfl, rfl, rfl⟩ := trodAll_none hA
  obtain ⟨rfl, rfl⟩ := trodVars_none hV
  refine (matchKnown_walk W hL).mono fun e W' ⟨he, hw⟩ => ?_
  subst he
  exact ⟨_, rfl, post_closed hW' (fun _ _ _ => trodAll_mk1 (shut_bool Tryz.underlying4 _)) (fun sp => rfl) (fun _ => rfl) hw (ok_one (by as_aux_lemma => kernel_rfl) rfl (okWide_bool_mk Tryz.underlying4 _))⟩

set_option maxHeartbeats 4000000 in
theorem matchKnown_facts : joinedFacts Tryz.pinned.checked.prog 4 Tryz.f4 Rows.matchKnownSpec Rows.matchKnownRow = true := by
  unfold joinedFacts
  repeat' (with_reducible refine Bool.and_eq_true_iff.2 ⟨?_, ?_⟩)
  all_goals (as_aux_lemma => kernel_rfl)
theorem matchKnown_holds : Rows.MatchKnownSaid :=
  OpenClaim.holds_of_wide 4 Tryz.f4 rfl rfl rfl rfl rfl rfl rfl ⟨rfl, rfl, rfl, rfl, rfl⟩ rfl rfl rfl rfl rfl (by as_aux_lemma => kernel_rfl) Tryz.func4 matchKnown_facts
    (of_decide_eq_true (by as_aux_lemma => kernel_rfl)) (by unfold Func.isWrapper; first | (rw [if_pos (by as_aux_lemma => decide +kernel)]; kernel_rfl) | (rw [if_neg (by as_aux_lemma => decide +kernel)]; exact ⟨rfl, rfl⟩))
    (fun os started H enc _ => matchKnown_lifted os started H enc)
theorem matchKnown_card : Rows.MatchKnownCardSaid :=
  Claim7.holds_tied_plain_at .later [] [.data, .data, .data, .data, .sentinel, .sentinel, .pinned] true (true, "084d3b68a288d89e8d3a8d4e0b7b6e7030fdce8a0191abd0879c4bf750fbc3eb") true matchKnown_holds (fun _ h => by cases h) (by as_aux_lemma => kernel_rfl) (fun _ h => by cases h) matchKnown_row_tie rfl ⟨rfl, rfl⟩ (by as_aux_lemma => kernel_rfl) rfl
    (fun f fn hf hfn => by
      obtain rfl : f = 4 := Option.some.inj ((show Tryz.prog.funcNamed "pennant/pennantlaw09.MatchKnown" = some 4 by as_aux_lemma => kernel_rfl).symm.trans hf) |>.symm
      obtain rfl : fn = Tryz.f4 := (Option.some.inj (Tryz.func4.symm.trans hfn)).symm
      exact ⟨by as_aux_lemma => kernel_rfl, fun j t ht => by
        rw [Tryz.params4] at ht
        simp at ht⟩)
    (by as_aux_lemma => kernel_rfl)
end Go.Proofs.YtidpamcogkonnaaGreatDoor

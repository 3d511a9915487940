/- pennant/pennantlaw08.DatumKnown returns true, in whatever memory, on every schedule, and changes nothing that was there: the given card. Its conditions are the card's own: the package-level variables that it lists hold what the program's text lays. -/
import Derived.Test.YtidpamcogkonnaaGreatDoorTie
import Derived.Test.YtidpamcogkonnaaGreatDoorCards
import Derived.ProofKit
import Derived.OpenShut
import Derived.LaidMore
import Derived.Lay
import Derived.SevenTiedAt
import Derived.Stop.Joined
import Derived.Test.YtidpamcogkonnaaGreatDoorGoodDatumKnown
import Derived.Test.YtidpamcogkonnaaGreatDoorEval0DatumKnown
import Derived.Test.YtidpamcogkonnaaGreatDoorEval1DatumKnown
import Derived.Test.YtidpamcogkonnaaGreatDoorEvalDatumKnown
namespace Go.Proofs.YtidpamcogkonnaaGreatDoor
open Go.ChangeShapes Go.WideShapes Go.ChangeAt Go.RowKit
set_option maxRecDepth 100000

theorem own : ownKnob Tryz.prog.godebug = none := by as_aux_lemma => kernel_rfl
theorem mixed : Tryz.prog.follows .mixedOrders = true := by as_aux_lemma => kernel_rfl

/-- what was made is new: nothing that was there has turned -/
theorem post_closed {H : Type} {enc : TypeId × Value → H} {P : Program} {f : Func} {s : ChangeSpec} {apart fresh handsOn again : Bool} {W W' : World} {args : Array Value} {v : Value}
    (hW : DataW.Whole enc P f.params.toList s.vars apart W args.toList [] [] [])
    (hres : ∀ (b : Nat) (sp : Nat → Bool) (hd : Bool), DataW.TrodAll enc P W' b sp hd f.resultTypes.toList (v.resultList f.resultTypes.size) (s.fn H ([] ++ [])).results [])
    (hargs : ∀ sp : Nat → Bool, DataW.TrodAll enc P W' 0 sp true f.params.toList args.toList (s.fn H ([] ++ [])).args [])
    (hvars : ∀ sp : Nat → Bool, DataW.TrodVars enc P W' sp s.vars (s.fn H ([] ++ [])).vars [])
    (hB : Below W.heap.size W W')
    (hok : ∀ (j : Nat) (t : TypeId) (r : Value), f.resultTypes[j]? = some t → (v.resultList f.resultTypes.size)[j]? = some r → Value.okWide P W' .any 0 t r) :
    s.post enc P f apart fresh handsOn again W args v W' := by
  refine ⟨[], [], [], [], [], [], hW, hres _ _ _, hargs _, hvars _, hB.frame _, fun _ => ?_⟩
  refine ⟨hok, _, _, ([] ++ []) ++ [], ⟨[] ++ [], [], trodAll_append (hargs _) (hres _ _ _), hvars _, rfl, ?_, ?_⟩, ?_⟩
  · intro b off hp
    simp at hp
  · intro ha
    simp
  · intro p hp _
    simp at hp

def deB : List Int := [0, 1, 56, 2, 57, 49, 28, 3, 61, 58, 42, 50, 38, 29, 17, 4, 62, 47, 59, 36, 45, 43, 51, 22, 53, 39, 33, 30, 24, 18, 12, 5, 63, 55, 48, 27, 60, 41, 37, 16, 46, 35, 44, 21, 52, 32, 23, 11, 54, 26, 40, 15, 34, 20, 31, 10, 25, 14, 19, 9, 13, 8, 7, 6]
def pow10 : List Int := [1, 10, 100, 1000, 10000, 100000, 1000000, 10000000, 100000000, 1000000000, 10000000000, 100000000000, 1000000000000, 10000000000000, 100000000000000, 1000000000000000, 10000000000000000, 100000000000000000, 1000000000000000000, 10000000000000000000]
theorem datumKnown_glob {W : World} (hL : laidMetH Tryz.prog Rows.datumKnownRow.laid W) : Ev.GlobRel Ev.TDatumKnown.env.globs W := by
  rw [MakeChecks.laidMetH_plain _ _ _ (by as_aux_lemma => kernel_rfl)] at hL
  obtain ⟨ps, ⟨g0, t0, cs0, f0, p0, q0, hg0, ht0, hv0, hd0, ⟨g1, t1, cs1, f1, p1, q1, hg1, ht1, hv1, hd1, ⟨g2, t2, cs2, f2, p2, q2, hg2, ht2, hv2, hd2, _, _⟩, _⟩, _⟩, _, _⟩ := hL
  obtain rfl := Option.some.inj ((show Tryz.prog.globalNamed "math/bits.deBruijn64tab" = some 7 by as_aux_lemma => kernel_rfl).symm.trans hg1)
  obtain rfl := Option.some.inj ((show Tryz.prog.globalNamed "internal/strconv.uint64pow10" = some 3 by as_aux_lemma => kernel_rfl).symm.trans hg2)
  obtain rfl := Option.some.inj ((show (Tryz.prog.globals[7]?).map (·.type) = some 442 by as_aux_lemma => kernel_rfl).symm.trans ht1)
  obtain rfl := Option.some.inj ((show (Tryz.prog.globals[3]?).map (·.type) = some 402 by as_aux_lemma => kernel_rfl).symm.trans ht2)
  have e1 : cs1.toList = deB.map (Value.int .u8 ·) := Ev.laid_ints (vs := deB) Tryz.underlying442 Tryz.underlying5 (by as_aux_lemma => kernel_rfl) (by as_aux_lemma => kernel_rfl) hd1
  have e2 : cs2.toList = pow10.map (Value.int .u64 ·) := Ev.laid_ints (vs := pow10) Tryz.underlying402 Tryz.underlying349 (by as_aux_lemma => kernel_rfl) (by as_aux_lemma => kernel_rfl) hd2
  refine Ev.globRel_two (Ev.glob_of hg1 hv1 e1) (Ev.glob_of hg2 hv2 e2) fun i cs hi hne => ?_
  match i, hi with
  | 0, hi => cases hi; exact absurd rfl hne
  | 1, hi => cases hi; exact absurd rfl hne
  | 2, hi => cases hi; exact absurd rfl hne
  | 3, hi => cases hi; exact .inr ⟨rfl, rfl⟩
  | 4, hi => cases hi; exact absurd rfl hne
  | 5, hi => cases hi; exact absurd rfl hne
  | 6, hi => cases hi; exact absurd rfl hne
  | 7, hi => cases hi; exact .inl ⟨rfl, rfl⟩
  | n + 8, hi => cases hi

theorem datumKnown_wit_a (os : Os) : (World.holding Tryz.prog os ⟨#[], #[], []⟩).layFits Tryz.prog Rows.datumKnownRow.laid [] = true := by kernel_rfl
theorem datumKnown_wit_b (os : Os) : (World.holding Tryz.prog os ⟨#[], #[], []⟩).layIfaces Tryz.prog Rows.datumKnownRow.laid (World.laidAll Tryz.prog os Rows.datumKnownRow.laid) = true := by kernel_rfl
theorem datumKnown_wit_c (os : Os) : laidMet Tryz.prog Rows.datumKnownRow.laid ((World.laidAll Tryz.prog os Rows.datumKnownRow.laid).forCall (fun _ _ => 0) ⟨#[], #[], []⟩).memory := laidMet_laidAll #[] (datumKnown_wit_a os) (datumKnown_wit_b os)
theorem datumKnown_wit_d (os : Os) : laidMetH Tryz.prog Rows.datumKnownRow.laid ((World.laidAll Tryz.prog os Rows.datumKnownRow.laid).forCall (fun _ _ => 0) ⟨#[], #[], []⟩).memory := by
  rw [MakeChecks.laidMetH_plain _ _ _ (by as_aux_lemma => kernel_rfl)]; exact datumKnown_wit_c os
theorem datumKnown_orc0 {W : World} (hG : Ev.GlobRel Ev.TDatumKnown.env.globs W) : Ev.OrcOk Tryz.prog W Ev.TDatumKnown.O0 := by
  refine Ev.OrcOk.with (E := Ev.TDatumKnown.env) (O' := Ev.noO) mixed hG (Ev.envOk_of Ev.TDatumKnown.tblOk) (Ev.noO_ok _ _) (Ev.noO_ok _ _) ?_
  intro p hp
  simp only [Ev.TDatumKnown.L0, List.mem_cons, List.not_mem_nil, or_false] at hp
  rcases hp with rfl | rfl | rfl | rfl | rfl | rfl | rfl | rfl
  · exact ⟨rfl, rfl, 1000, Ev.TDatumKnown.e0_0⟩
  · exact ⟨rfl, rfl, 1000, Ev.TDatumKnown.e0_1⟩
  · exact ⟨rfl, rfl, 1000, Ev.TDatumKnown.e0_2⟩
  · exact ⟨rfl, rfl, 1000, Ev.TDatumKnown.e0_3⟩
  · exact ⟨rfl, rfl, 1000, Ev.TDatumKnown.e0_4⟩
  · exact ⟨rfl, rfl, 1000, Ev.TDatumKnown.e0_5⟩
  · exact ⟨rfl, rfl, 1000, Ev.TDatumKnown.e0_6⟩
  · exact ⟨rfl, rfl, 1000, Ev.TDatumKnown.e0_7⟩
theorem datumKnown_orc1 {W : World} (hG : Ev.GlobRel Ev.TDatumKnown.env.globs W) : Ev.OrcOk Tryz.prog W Ev.TDatumKnown.O1 := by
  refine Ev.OrcOk.with (E := Ev.TDatumKnown.env) (O' := Ev.TDatumKnown.O0) mixed hG (Ev.envOk_of Ev.TDatumKnown.tblOk) (datumKnown_orc0 hG) (datumKnown_orc0 hG) ?_
  intro p hp
  simp only [Ev.TDatumKnown.L1, List.mem_cons, List.not_mem_nil, or_false] at hp
  rcases hp with rfl
  · exact ⟨rfl, rfl, 1000, Ev.TDatumKnown.e1_0⟩
theorem datumKnown_walk (W : World) (hL : laidMetH Tryz.prog Rows.datumKnownRow.laid W) : Calls Tryz.prog 3 #[] W fun e w' => e = .returned (.bool true) ∧ Below W.heap.size W w' :=
  Ev.walk_known mixed (datumKnown_glob hL) (Ev.envOk_of Ev.TDatumKnown.tblOk) (datumKnown_orc1 (datumKnown_glob hL)) Ev.TDatumKnown.ok

set_option maxHeartbeats 4000000 in
theorem datumKnown_lifted (os : Os) (started : os.Started) (H : Type) (enc : TypeId × Value → H) :
    ReturnsInHanded {} Tryz.checked os 3 .any (fun w args => (Rows.datumKnownSpec.pre enc Tryz.prog Tryz.f3 Rows.datumKnownRow.domain false w args ∧ laidMetH Tryz.prog Rows.datumKnownRow.laid w) ∧ sizedMet enc Tryz.prog Tryz.f3 (OpenSpec.ofChange Rows.datumKnownSpec) false w args)
      (Rows.datumKnownSpec.post enc Tryz.prog Tryz.f3 false true false false) := by
  refine returnsInHanded_of_change_and (C := Tryz.checked) (X := fun w _ => laidMetH Tryz.prog Rows.datumKnownRow.laid w) (fun _ _ _ hh h => h.of_heap hh) own started (by as_aux_lemma => kernel_rfl) Tryz.func3
    (ChangeSpec.witness_shaped (enc := enc) (C := Tryz.checked) (os := os) (X := fun w _ => laidMetH Tryz.prog Rows.datumKnownRow.laid w) false (World.laidAll Tryz.prog os Rows.datumKnownRow.laid) #[] 8 (World.laidAll_os _ _ _)
      (World.shaped_of_ZipB (by as_aux_lemma => kernel_rfl) (by as_aux_lemma => kernel_rfl)) (by as_aux_lemma => kernel_rfl) (by as_aux_lemma => kernel_rfl) (by as_aux_lemma => kernel_rfl)
      (datumKnown_wit_d os)) ?_
  intro W base args ds gs before hval0 hW hc _ hL _
  have hW' := hW
  obtain ⟨p, q, hA0, hV, rfl, _, _⟩ := hW
  have hA : DataW.TrodAll enc Tryz.prog W 0 (fun _ => true) true Tryz.f3.params.toList args.toList ds p := hA0
  rw [Tryz.params3] at hA
  obtain ⟨rfl, rfl, rfl⟩ := trodAll_none hA
  obtain ⟨rfl, rfl⟩ := trodVars_none hV
  refine (datumKnown_walk W hL).mono fun e W' ⟨he, hw⟩ => ?_
  subst he
  exact ⟨_, rfl, post_closed hW' (fun _ _ _ => trodAll_mk1 (shut_bool Tryz.underlying4 _)) (fun sp => rfl) (fun _ => rfl) hw (ok_one (by as_aux_lemma => kernel_rfl) rfl (okWide_bool_mk Tryz.underlying4 _))⟩

set_option maxHeartbeats 4000000 in
theorem datumKnown_facts : joinedFacts Tryz.pinned.checked.prog 3 Tryz.f3 Rows.datumKnownSpec Rows.datumKnownRow = true := by
  unfold joinedFacts
  repeat' (with_reducible refine Bool.and_eq_true_iff.2 ⟨?_, ?_⟩)
  all_goals (as_aux_lemma => kernel_rfl)
theorem datumKnown_holds : Rows.DatumKnownSaid :=
  OpenClaim.holds_of_wide 3 Tryz.f3 rfl rfl rfl rfl rfl rfl rfl ⟨rfl, rfl, rfl, rfl, rfl⟩ rfl rfl rfl rfl rfl (by as_aux_lemma => kernel_rfl) Tryz.func3 datumKnown_facts
    (of_decide_eq_true (by as_aux_lemma => kernel_rfl)) (by unfold Func.isWrapper; first | (rw [if_pos (by as_aux_lemma => decide +kernel)]; kernel_rfl) | (rw [if_neg (by as_aux_lemma => decide +kernel)]; exact ⟨rfl, rfl⟩))
    (fun os started H enc _ => datumKnown_lifted os started H enc)
theorem datumKnown_card : Rows.DatumKnownCardSaid :=
  Claim7.holds_tied_plain_at .later [] [.data, .data, .data, .data, .sentinel, .sentinel, .pinned] true (true, "084d3b68a288d89e8d3a8d4e0b7b6e7030fdce8a0191abd0879c4bf750fbc3eb") true datumKnown_holds (fun _ h => by cases h) (by as_aux_lemma => kernel_rfl) (fun _ h => by cases h) datumKnown_row_tie rfl ⟨rfl, rfl⟩ (by as_aux_lemma => kernel_rfl) rfl
    (fun f fn hf hfn => by
      obtain rfl : f = 3 := Option.some.inj ((show Tryz.prog.funcNamed "pennant/pennantlaw08.DatumKnown" = some 3 by as_aux_lemma => kernel_rfl).symm.trans hf) |>.symm
      obtain rfl : fn = Tryz.f3 := (Option.some.inj (Tryz.func3.symm.trans hfn)).symm
      exact ⟨by as_aux_lemma => kernel_rfl, fun j t ht => by
        rw [Tryz.params3] at ht
        simp at ht⟩)
    (by as_aux_lemma => kernel_rfl)
end Go.Proofs.YtidpamcogkonnaaGreatDoor

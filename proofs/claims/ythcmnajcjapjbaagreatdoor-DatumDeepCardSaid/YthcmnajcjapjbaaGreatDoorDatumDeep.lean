/- pennant/pennantlaw08.DatumDeep returns true, whatever it is called with, in whatever memory, on every schedule, and changes nothing that was there: the given card. Its conditions are the card's own: the package-level variables that it lists hold what the program's text lays. -/
import Derived.Test.YthcmnajcjapjbaaGreatDoorTie
import Derived.Test.YthcmnajcjapjbaaGreatDoorCards
import Derived.ProofKit
import Derived.OpenShut
import Derived.LaidMore
import Derived.Lay
import Derived.Carry
import Derived.SevenTiedAt
import Derived.Stop.Joined
import Derived.Test.YthcmnajcjapjbaaGreatDoorGoodDatumDeep
import Derived.Test.YthcmnajcjapjbaaGreatDoorDE
namespace Go.Proofs.YthcmnajcjapjbaaGreatDoor
open Go.ChangeShapes Go.WideShapes Go.ChangeAt Go.RowKit
set_option maxRecDepth 100000

theorem own : ownKnob Tryz.prog.godebug = none := by as_aux_lemma => kernel_rfl
theorem mixed : Tryz.prog.follows .mixedOrders = true := by as_aux_lemma => kernel_rfl
theorem laidOut : laidOutB Tryz.prog = true := by as_aux_lemma => kernel_rfl

theorem datumDeep_wit_a (os : Os) : (World.holding Tryz.prog os ⟨#[], #[], []⟩).layFits Tryz.prog Rows.datumDeepRow.laid [] = true := by as_aux_lemma => kernel_rfl
theorem datumDeep_wit_b (os : Os) : (World.holding Tryz.prog os ⟨#[], #[], []⟩).layIfaces Tryz.prog Rows.datumDeepRow.laid (World.laidAll Tryz.prog os Rows.datumDeepRow.laid) = true := by as_aux_lemma => kernel_rfl
theorem datumDeep_wit_c (os : Os) : laidMet Tryz.prog Rows.datumDeepRow.laid ((World.laidAll Tryz.prog os Rows.datumDeepRow.laid).forCall (fun _ _ => 0) ⟨#[], #[], []⟩).memory := laidMet_laidAll #[] (datumDeep_wit_a os) (datumDeep_wit_b os)
theorem datumDeep_wit (os : Os) : laidMetH Tryz.prog Rows.datumDeepRow.laid ((World.laidAll Tryz.prog os Rows.datumDeepRow.laid).forCall (fun _ _ => 0) ⟨#[], #[], []⟩).memory := by
  rw [MakeChecks.laidMetH_plain _ _ _ (by as_aux_lemma => kernel_rfl)]; exact datumDeep_wit_c os
theorem wf_u16 (n : Int) (h : (Lit.int .u16 n).wf = true) : ∃ a : Nat, n = .ofNat a ∧ a < 65536 := by
  have h1 : IntKind.min .u16 ≤ n ∧ n ≤ IntKind.max .u16 := by simpa [Lit.wf] using h
  have h2 : IntKind.min .u16 = 0 := by decide
  have h3 : IntKind.max .u16 = 65535 := by decide
  rw [h2, h3] at h1
  exact ⟨n.toNat, by have := Int.toNat_of_nonneg h1.1; rw [Int.ofNat_eq_natCast]; omega, by omega⟩
theorem datumDeep_walk (W : World) (a b : Nat) (ha : a < 65536) (hb : b < 65536) : Calls Tryz.prog 6 #[.int .u16 (.ofNat a), .int .u16 (.ofNat b)] W fun e w' => e = .returned (.bool true) ∧ Below W.heap.size W w' :=
  Ev.law_calls ⟨mixed, Ev.globRel_nil W, Ev.envOk_of Ev.T.tblOk⟩ a b ha hb

theorem datumDeep_lifted (os : Os) (started : os.Started) (H : Type) (enc : TypeId × Value → H) :
    ReturnsInHanded {} Tryz.checked os 6 .any (fun w args => (Rows.datumDeepSpec.pre enc Tryz.prog Tryz.f6 Rows.datumDeepRow.domain false w args ∧ laidMetH Tryz.prog Rows.datumDeepRow.laid w) ∧ sizedMet enc Tryz.prog Tryz.f6 (OpenSpec.ofChange Rows.datumDeepSpec) false w args)
      (Rows.datumDeepSpec.post enc Tryz.prog Tryz.f6 false true false false) := by
  refine returnsInHanded_of_change_and (C := Tryz.checked) (X := fun w _ => laidMetH Tryz.prog Rows.datumDeepRow.laid w) (fun _ _ _ hh h => h.of_heap hh) own started (by as_aux_lemma => kernel_rfl) Tryz.func6
    (ChangeSpec.witness_shaped (enc := enc) (C := Tryz.checked) (os := os) (X := fun w _ => laidMetH Tryz.prog Rows.datumDeepRow.laid w) false (World.laidAll Tryz.prog os Rows.datumDeepRow.laid) #[.int .u16 0, .int .u16 0] 8 (World.laidAll_os _ _ _)
      (World.shaped_of_ZipB (by as_aux_lemma => kernel_rfl) (by as_aux_lemma => kernel_rfl)) (by as_aux_lemma => kernel_rfl) (by as_aux_lemma => kernel_rfl) (by as_aux_lemma => kernel_rfl)
      (datumDeep_wit os)) ?_
  intro W base args ds gs before hval0 hW hc _ hL _
  have hval : ∀ (j : Nat) t v, Tryz.f6.params[j]? = some t → args[j]? = some v → Value.okWide Tryz.prog W .any base t v := hval0
  have hW' := hW
  obtain ⟨p, q, hA0, hV, rfl, _, _⟩ := hW
  have hA : DataW.TrodAll enc Tryz.prog W 0 (fun _ => true) true Tryz.f6.params.toList args.toList ds p := hA0
  rw [Tryz.params6] at hA hval
  obtain ⟨v0, v1, d0, d1, p0, p1, rfl, rfl, rfl, h0, h1⟩ := trodAll_two hA
  obtain ⟨rfl, rfl⟩ := trodVars_none hV
  obtain ⟨n0, rfl, rfl, rfl, w0⟩ := open_int Tryz.underlying45 (hval 0 45 v0 rfl rfl) h0
  obtain ⟨n1, rfl, rfl, rfl, w1⟩ := open_int Tryz.underlying45 (hval 1 45 v1 rfl rfl) h1
  obtain ⟨a, rfl, ha⟩ := wf_u16 n0 w0
  obtain ⟨b, rfl, hb⟩ := wf_u16 n1 w1
  refine (datumDeep_walk W a b ha hb).mono fun e W' ⟨he, hw⟩ => ?_
  subst he
  refine ⟨_, rfl, [.lit (.int .u16 (.ofNat a)), .lit (.int .u16 (.ofNat b))], [], [], [], [] ++ [], [], hW', trodAll_mk1 (shut_bool Tryz.underlying4 _), ?_, rfl, hw.frame _, fun h => by cases h⟩
  exact trodAll_mk2 (shut_int Tryz.underlying45 w0) (shut_int Tryz.underlying45 w1)

set_option maxHeartbeats 4000000 in
theorem datumDeep_facts : joinedFacts Tryz.pinned.checked.prog 6 Tryz.f6 Rows.datumDeepSpec Rows.datumDeepRow = true := by
  unfold joinedFacts
  repeat' (with_reducible refine Bool.and_eq_true_iff.2 ⟨?_, ?_⟩)
  all_goals (as_aux_lemma => kernel_rfl)
theorem datumDeep_holds : Rows.DatumDeepSaid :=
  OpenClaim.holds_of_wide 6 Tryz.f6 rfl rfl rfl rfl rfl rfl rfl ⟨rfl, rfl, rfl, rfl, rfl⟩ rfl rfl rfl rfl rfl (by as_aux_lemma => kernel_rfl) Tryz.func6 datumDeep_facts
    (of_decide_eq_true (by as_aux_lemma => kernel_rfl)) (by unfold Func.isWrapper; first | (rw [if_pos (by as_aux_lemma => decide +kernel)]; kernel_rfl) | (rw [if_neg (by as_aux_lemma => decide +kernel)]; exact ⟨rfl, rfl⟩))
    (fun os started H enc _ => datumDeep_lifted os started H enc)
theorem datumDeep_card : Rows.DatumDeepCardSaid :=
  Claim7.holds_tied_plain_at .later [] [.data, .data, .data, .data, .sentinel, .sentinel, .pinned] true (true, "4d8154cab478aa38fcc041b37910c371e0b9df6ae446f7c5f2f2afe29cc12d67") true datumDeep_holds (fun _ h => by cases h) (by as_aux_lemma => kernel_rfl) (fun _ h => by cases h) datumDeep_row_tie rfl ⟨rfl, rfl⟩ (by as_aux_lemma => kernel_rfl) rfl
    (fun f fn hf hfn => by
      obtain rfl : f = 6 := Option.some.inj ((show Tryz.prog.funcNamed "pennant/pennantlaw08.DatumDeep" = some 6 by as_aux_lemma => kernel_rfl).symm.trans hf) |>.symm
      obtain rfl : fn = Tryz.f6 := (Option.some.inj (Tryz.func6.symm.trans hfn)).symm
      exact ⟨by as_aux_lemma => kernel_rfl, fun j t ht => by
        rw [Tryz.params6] at ht
        have hm : t ∈ [45, 45] := by simpa using Array.mem_of_getElem? ht
        have hall : ([45, 45].all fun u => !Tryz.prog.wantsStandIn u) = true := by as_aux_lemma => kernel_rfl
        exact (show Tryz.prog.wantsStandIn t = false by simpa using List.all_eq_true.1 hall t hm)⟩)
    (by as_aux_lemma => kernel_rfl)
end Go.Proofs.YthcmnajcjapjbaaGreatDoor

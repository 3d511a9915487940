/- pennant/pennantlaw08.DatumBack returns true, whatever it is called with, in whatever memory, on every schedule, and changes nothing that was there: the given card. Its conditions are the card's own: the package-level variables that it lists hold what the program's text lays. -/
import Derived.Test.YthcmnajcjapjbaaGreatDoorTie
import Derived.Test.YthcmnajcjapjbaaGreatDoorCards
import Derived.ProofKit
import Derived.OpenShut
import Derived.LaidMore
import Derived.Lay
import Derived.Carry
import Derived.SevenTiedAt
import Derived.Stop.Joined
import Derived.Test.YthcmnajcjapjbaaGreatDoorGoodDatumBack
import Derived.Test.YthcmnajcjapjbaaGreatDoorWE
import Derived.Test.YthcmnajcjapjbaaGreatDoorAtoiP
namespace Go.Proofs.YthcmnajcjapjbaaGreatDoor
open Go.ChangeShapes Go.WideShapes Go.ChangeAt Go.RowKit
set_option maxRecDepth 100000

theorem own : ownKnob Tryz.prog.godebug = none := by as_aux_lemma => kernel_rfl
theorem mixed : Tryz.prog.follows .mixedOrders = true := by as_aux_lemma => kernel_rfl
theorem laidOut : laidOutB Tryz.prog = true := by as_aux_lemma => kernel_rfl

theorem datumBack_wit_a (os : Os) : (World.holding Tryz.prog os ⟨#[], #[], []⟩).layFits Tryz.prog Rows.datumBackRow.laid [] = true := by as_aux_lemma => kernel_rfl
theorem datumBack_wit_b (os : Os) : (World.holding Tryz.prog os ⟨#[], #[], []⟩).layIfaces Tryz.prog Rows.datumBackRow.laid (World.laidAll Tryz.prog os Rows.datumBackRow.laid) = true := by as_aux_lemma => kernel_rfl
theorem datumBack_wit_c (os : Os) : laidMet Tryz.prog Rows.datumBackRow.laid ((World.laidAll Tryz.prog os Rows.datumBackRow.laid).forCall (fun _ _ => 0) ⟨#[], #[], []⟩).memory := laidMet_laidAll #[] (datumBack_wit_a os) (datumBack_wit_b os)
theorem datumBack_wit (os : Os) : laidMetH Tryz.prog Rows.datumBackRow.laid ((World.laidAll Tryz.prog os Rows.datumBackRow.laid).forCall (fun _ _ => 0) ⟨#[], #[], []⟩).memory := by
  rw [MakeChecks.laidMetH_plain _ _ _ (by as_aux_lemma => kernel_rfl)]; exact datumBack_wit_c os
def deB : List Int := [.ofNat 0, .ofNat 1, .ofNat 56, .ofNat 2, .ofNat 57, .ofNat 49, .ofNat 28, .ofNat 3, .ofNat 61, .ofNat 58, .ofNat 42, .ofNat 50, .ofNat 38, .ofNat 29, .ofNat 17, .ofNat 4, .ofNat 62, .ofNat 47, .ofNat 59, .ofNat 36, .ofNat 45, .ofNat 43, .ofNat 51, .ofNat 22, .ofNat 53, .ofNat 39, .ofNat 33, .ofNat 30, .ofNat 24, .ofNat 18, .ofNat 12, .ofNat 5, .ofNat 63, .ofNat 55, .ofNat 48, .ofNat 27, .ofNat 60, .ofNat 41, .ofNat 37, .ofNat 16, .ofNat 46, .ofNat 35, .ofNat 44, .ofNat 21, .ofNat 52, .ofNat 32, .ofNat 23, .ofNat 11, .ofNat 54, .ofNat 26, .ofNat 40, .ofNat 15, .ofNat 34, .ofNat 20, .ofNat 31, .ofNat 10, .ofNat 25, .ofNat 14, .ofNat 19, .ofNat 9, .ofNat 13, .ofNat 8, .ofNat 7, .ofNat 6]
def pow10 : List Int := [.ofNat 1, .ofNat 10, .ofNat 100, .ofNat 1000, .ofNat 10000, .ofNat 100000, .ofNat 1000000, .ofNat 10000000, .ofNat 100000000, .ofNat 1000000000, .ofNat 10000000000, .ofNat 100000000000, .ofNat 1000000000000, .ofNat 10000000000000, .ofNat 100000000000000, .ofNat 1000000000000000, .ofNat 10000000000000000, .ofNat 100000000000000000, .ofNat 1000000000000000000, .ofNat 10000000000000000000]
def accR : List (Int × Int) := [(.ofNat 128, .ofNat 191), (.ofNat 160, .ofNat 191), (.ofNat 128, .ofNat 159), (.ofNat 144, .ofNat 191), (.ofNat 128, .ofNat 143), (.ofNat 0, .ofNat 0), (.ofNat 0, .ofNat 0), (.ofNat 0, .ofNat 0), (.ofNat 0, .ofNat 0), (.ofNat 0, .ofNat 0), (.ofNat 0, .ofNat 0), (.ofNat 0, .ofNat 0), (.ofNat 0, .ofNat 0), (.ofNat 0, .ofNat 0), (.ofNat 0, .ofNat 0), (.ofNat 0, .ofNat 0)]
def firstT : List Int := [.ofNat 240, .ofNat 240, .ofNat 240, .ofNat 240, .ofNat 240, .ofNat 240, .ofNat 240, .ofNat 240, .ofNat 240, .ofNat 240, .ofNat 240, .ofNat 240, .ofNat 240, .ofNat 240, .ofNat 240, .ofNat 240, .ofNat 240, .ofNat 240, .ofNat 240, .ofNat 240, .ofNat 240, .ofNat 240, .ofNat 240, .ofNat 240, .ofNat 240, .ofNat 240, .ofNat 240, .ofNat 240, .ofNat 240, .ofNat 240, .ofNat 240, .ofNat 240, .ofNat 240, .ofNat 240, .ofNat 240, .ofNat 240, .ofNat 240, .ofNat 240, .ofNat 240, .ofNat 240, .ofNat 240, .ofNat 240, .ofNat 240, .ofNat 240, .ofNat 240, .ofNat 240, .ofNat 240, .ofNat 240, .ofNat 240, .ofNat 240, .ofNat 240, .ofNat 240, .ofNat 240, .ofNat 240, .ofNat 240, .ofNat 240, .ofNat 240, .ofNat 240, .ofNat 240, .ofNat 240, .ofNat 240, .ofNat 240, .ofNat 240, .ofNat 240, .ofNat 240, .ofNat 240, .ofNat 240, .ofNat 240, .ofNat 240, .ofNat 240, .ofNat 240, .ofNat 240, .ofNat 240, .ofNat 240, .ofNat 240, .ofNat 240, .ofNat 240, .ofNat 240, .ofNat 240, .ofNat 240, .ofNat 240, .ofNat 240, .ofNat 240, .ofNat 240, .ofNat 240, .ofNat 240, .ofNat 240, .ofNat 240, .ofNat 240, .ofNat 240, .ofNat 240, .ofNat 240, .ofNat 240, .ofNat 240, .ofNat 240, .ofNat 240, .ofNat 240, .ofNat 240, .ofNat 240, .ofNat 240, .ofNat 240, .ofNat 240, .ofNat 240, .ofNat 240, .ofNat 240, .ofNat 240, .ofNat 240, .ofNat 240, .ofNat 240, .ofNat 240, .ofNat 240, .ofNat 240, .ofNat 240, .ofNat 240, .ofNat 240, .ofNat 240, .ofNat 240, .ofNat 240, .ofNat 240, .ofNat 240, .ofNat 240, .ofNat 240, .ofNat 240, .ofNat 240, .ofNat 240, .ofNat 240, .ofNat 240, .ofNat 240, .ofNat 241, .ofNat 241, .ofNat 241, .ofNat 241, .ofNat 241, .ofNat 241, .ofNat 241, .ofNat 241, .ofNat 241, .ofNat 241, .ofNat 241, .ofNat 241, .ofNat 241, .ofNat 241, .ofNat 241, .ofNat 241, .ofNat 241, .ofNat 241, .ofNat 241, .ofNat 241, .ofNat 241, .ofNat 241, .ofNat 241, .ofNat 241, .ofNat 241, .ofNat 241, .ofNat 241, .ofNat 241, .ofNat 241, .ofNat 241, .ofNat 241, .ofNat 241, .ofNat 241, .ofNat 241, .ofNat 241, .ofNat 241, .ofNat 241, .ofNat 241, .ofNat 241, .ofNat 241, .ofNat 241, .ofNat 241, .ofNat 241, .ofNat 241, .ofNat 241, .ofNat 241, .ofNat 241, .ofNat 241, .ofNat 241, .ofNat 241, .ofNat 241, .ofNat 241, .ofNat 241, .ofNat 241, .ofNat 241, .ofNat 241, .ofNat 241, .ofNat 241, .ofNat 241, .ofNat 241, .ofNat 241, .ofNat 241, .ofNat 241, .ofNat 241, .ofNat 241, .ofNat 241, .ofNat 2, .ofNat 2, .ofNat 2, .ofNat 2, .ofNat 2, .ofNat 2, .ofNat 2, .ofNat 2, .ofNat 2, .ofNat 2, .ofNat 2, .ofNat 2, .ofNat 2, .ofNat 2, .ofNat 2, .ofNat 2, .ofNat 2, .ofNat 2, .ofNat 2, .ofNat 2, .ofNat 2, .ofNat 2, .ofNat 2, .ofNat 2, .ofNat 2, .ofNat 2, .ofNat 2, .ofNat 2, .ofNat 2, .ofNat 2, .ofNat 19, .ofNat 3, .ofNat 3, .ofNat 3, .ofNat 3, .ofNat 3, .ofNat 3, .ofNat 3, .ofNat 3, .ofNat 3, .ofNat 3, .ofNat 3, .ofNat 3, .ofNat 35, .ofNat 3, .ofNat 3, .ofNat 52, .ofNat 4, .ofNat 4, .ofNat 4, .ofNat 68, .ofNat 241, .ofNat 241, .ofNat 241, .ofNat 241, .ofNat 241, .ofNat 241, .ofNat 241, .ofNat 241, .ofNat 241, .ofNat 241, .ofNat 241]
theorem datumBack_glob {W : World} (hL : laidMetH Tryz.prog Rows.datumBackRow.laid W) : Ev.xK Ev.T.env.globs W := by
  rw [MakeChecks.laidMetH_plain _ _ _ (by as_aux_lemma => kernel_rfl)] at hL
  obtain ⟨ps, ⟨g0, t0, cs0, f0, p0, q0, hg0, ht0, hv0, hd0, ⟨g1, t1, cs1, f1, p1, q1, hg1, ht1, hv1, hd1, ⟨g2, t2, cs2, f2, p2, q2, hg2, ht2, hv2, hd2, ⟨g3, t3, cs3, f3, p3, q3, hg3, ht3, hv3, hd3, ⟨g4, t4, cs4, f4, p4, q4, hg4, ht4, hv4, hd4, ⟨g5, t5, cs5, f5, p5, q5, hg5, ht5, hv5, hd5, ⟨g6, t6, cs6, f6, p6, q6, hg6, ht6, hv6, hd6, _, _⟩, _⟩, _⟩, _⟩, _⟩, _⟩, _⟩, _⟩ := hL
  obtain rfl := Option.some.inj ((show Tryz.prog.globalNamed "math/bits.deBruijn64tab" = some 7 by as_aux_lemma => kernel_rfl).symm.trans hg1)
  obtain rfl := Option.some.inj ((show Tryz.prog.globalNamed "internal/strconv.uint64pow10" = some 1 by as_aux_lemma => kernel_rfl).symm.trans hg2)
  obtain rfl := Option.some.inj ((show Tryz.prog.globalNamed "unicode/utf8.acceptRanges" = some 3 by as_aux_lemma => kernel_rfl).symm.trans hg3)
  obtain rfl := Option.some.inj ((show Tryz.prog.globalNamed "unicode/utf8.first" = some 2 by as_aux_lemma => kernel_rfl).symm.trans hg6)
  obtain rfl := Option.some.inj ((show (Tryz.prog.globals[7]?).map (·.type) = some 192 by as_aux_lemma => kernel_rfl).symm.trans ht1)
  obtain rfl := Option.some.inj ((show (Tryz.prog.globals[1]?).map (·.type) = some 171 by as_aux_lemma => kernel_rfl).symm.trans ht2)
  obtain rfl := Option.some.inj ((show (Tryz.prog.globals[3]?).map (·.type) = some 177 by as_aux_lemma => kernel_rfl).symm.trans ht3)
  obtain rfl := Option.some.inj ((show (Tryz.prog.globals[2]?).map (·.type) = some 174 by as_aux_lemma => kernel_rfl).symm.trans ht6)
  have e1 : cs1.toList = deB.map (Value.int .u8 ·) := Ev.laid_ints (vs := deB) Tryz.underlying192 Tryz.underlying5 (by as_aux_lemma => kernel_rfl) (by as_aux_lemma => kernel_rfl) hd1
  have e2 : cs2.toList = pow10.map (Value.int .u64 ·) := Ev.laid_ints (vs := pow10) Tryz.underlying171 Tryz.underlying148 (by as_aux_lemma => kernel_rfl) (by as_aux_lemma => kernel_rfl) hd2
  have e3 : cs3.toList = (accR.flatMap fun v => [v.1, v.2]).map (Value.int .u8 ·) := Ev.laid_pairs (vs := accR) Tryz.underlying177 Tryz.underlying176 ⟨rfl, rfl⟩ ⟨rfl, rfl⟩ Tryz.underlying5 (by as_aux_lemma => kernel_rfl) (by as_aux_lemma => kernel_rfl) (by as_aux_lemma => kernel_rfl) hd3
  have e6 : cs6.toList = firstT.map (Value.int .u8 ·) := Ev.laid_ints (vs := firstT) Tryz.underlying174 Tryz.underlying5 (by as_aux_lemma => kernel_rfl) (by as_aux_lemma => kernel_rfl) hd6
  have d1 := Ev.glob_of hg1 hv1 e1
  have d2 := Ev.glob_of hg2 hv2 e2
  have d3 := Ev.glob_of hg3 hv3 e3
  have d6 := Ev.glob_of hg6 hv6 e6
  refine Ev.globRel_of fun i cs hi hne => ?_
  match i, hi with
  | 0, hi => cases hi; exact absurd rfl hne
  | 1, hi => cases hi; exact d2
  | 2, hi => cases hi; exact d6
  | 3, hi => cases hi; exact d3
  | 4, hi => cases hi; exact absurd rfl hne
  | 5, hi => cases hi; exact absurd rfl hne
  | 6, hi => cases hi; exact absurd rfl hne
  | 7, hi => cases hi; exact d1
  | n + 8, hi => cases hi

theorem datumBack_atoi {W : World} (hL : laidMetH Tryz.prog Rows.datumBackRow.laid W) : Ev.AtoiOk Tryz.prog W := by
  rw [MakeChecks.laidMetH_plain _ _ _ (by as_aux_lemma => kernel_rfl)] at hL
  obtain ⟨ps, ⟨g0, t0, cs0, f0, p0, q0, hg0, ht0, hv0, hd0, ⟨g1, t1, cs1, f1, p1, q1, hg1, ht1, hv1, hd1, ⟨g2, t2, cs2, f2, p2, q2, hg2, ht2, hv2, hd2, ⟨g3, t3, cs3, f3, p3, q3, hg3, ht3, hv3, hd3, ⟨g4, t4, cs4, f4, p4, q4, hg4, ht4, hv4, hd4, ⟨g5, t5, cs5, f5, p5, q5, hg5, ht5, hv5, hd5, ⟨g6, t6, cs6, f6, p6, q6, hg6, ht6, hv6, hd6, _, _⟩, _⟩, _⟩, _⟩, _⟩, _⟩, _⟩, _⟩ := hL
  obtain rfl := Option.some.inj ((show Tryz.prog.globalNamed "strconv.ErrRange" = some 5 by as_aux_lemma => kernel_rfl).symm.trans hg4)
  obtain rfl := Option.some.inj ((show Tryz.prog.globalNamed "strconv.ErrSyntax" = some 4 by as_aux_lemma => kernel_rfl).symm.trans hg5)
  obtain rfl := Option.some.inj ((show (Tryz.prog.globals[5]?).map (·.type) = some 75 by as_aux_lemma => kernel_rfl).symm.trans ht4)
  obtain rfl := Option.some.inj ((show (Tryz.prog.globals[4]?).map (·.type) = some 75 by as_aux_lemma => kernel_rfl).symm.trans ht5)
  obtain ⟨u4, v4, e4⟩ := Ev.laid_iface Tryz.underlying75 hd4
  obtain ⟨u5, v5, e5⟩ := Ev.laid_iface Tryz.underlying75 hd5
  obtain rfl : cs4 = #[.iface u4 v4] := Array.toList_inj.1 e4
  obtain rfl : cs5 = #[.iface u5 v5] := Array.toList_inj.1 e5
  exact Ev.atoiOk_of ⟨_, Tryz.func86, by as_aux_lemma => kernel_rfl, by as_aux_lemma => kernel_rfl⟩ (fun s hs v h w => Tryz.strconv_Atoi_ok s hs v h w)
    (fun s hs h1 h2 tp p w hv => (Tryz.strconv_Atoi_none s hs h1 h2 tp p w hv).mono fun e w' ⟨N, a, b, c, d⟩ => ⟨N, a, b, ⟨_, c⟩, d⟩)
    (fun s hs h tp p w hv => (Tryz.strconv_Atoi_range_var s hs h tp p w hv).mono fun e w' ⟨N, a, b, c, d⟩ => ⟨N, a, b, ⟨_, c⟩, d⟩) hv5 hv4

theorem datumBack_lifted (os : Os) (started : os.Started) (H : Type) (enc : TypeId × Value → H) :
    ReturnsInHanded {} Tryz.checked os 4 .any (fun w args => (Rows.datumBackSpec.pre enc Tryz.prog Tryz.f4 Rows.datumBackRow.domain false w args ∧ laidMetH Tryz.prog Rows.datumBackRow.laid w) ∧ sizedMet enc Tryz.prog Tryz.f4 (OpenSpec.ofChange Rows.datumBackSpec) false w args)
      (Rows.datumBackSpec.post enc Tryz.prog Tryz.f4 false true false false) := by
  refine returnsInHanded_of_change_and (C := Tryz.checked) (X := fun w _ => laidMetH Tryz.prog Rows.datumBackRow.laid w) (fun _ _ _ hh h => h.of_heap hh) own started (by as_aux_lemma => kernel_rfl) Tryz.func4
    (ChangeSpec.witness_shaped (enc := enc) (C := Tryz.checked) (os := os) (X := fun w _ => laidMetH Tryz.prog Rows.datumBackRow.laid w) false (World.laidAll Tryz.prog os Rows.datumBackRow.laid) #[.slice none 0 0] 8 (World.laidAll_os _ _ _)
      (World.shaped_of_ZipB (by as_aux_lemma => kernel_rfl) (by as_aux_lemma => kernel_rfl)) (by as_aux_lemma => kernel_rfl) (by as_aux_lemma => kernel_rfl) (by as_aux_lemma => kernel_rfl)
      (datumBack_wit os)) ?_
  intro W base args ds gs before hval0 hW hc _ hL _
  have hval : ∀ (j : Nat) t v, Tryz.f4.params[j]? = some t → args[j]? = some v → Value.okWide Tryz.prog W .any base t v := hval0
  have hW' := hW
  obtain ⟨p, q, hA0, hV, rfl, _, _⟩ := hW
  have hA : DataW.TrodAll enc Tryz.prog W 0 (fun _ => true) true Tryz.f4.params.toList args.toList ds p := hA0
  rw [Tryz.params4] at hA hval
  obtain ⟨v0, d0, rfl, rfl, h0⟩ := trodAll_one hA
  obtain ⟨rfl, rfl⟩ := trodVars_none hV
  obtain ⟨a, len, cap, rfl⟩ := okWide_slice Tryz.underlying31 (hval 0 31 v0 rfl rfl)
  obtain ⟨n0, t0⟩ := id h0
  obtain ⟨bs, y, e0, hb, r0⟩ := Ev.abs_bytes Tryz.underlying5 (by as_aux_lemma => kernel_rfl) Tryz.underlying31 rfl t0
  obtain rfl : Value.slice a len cap = y := List.head_eq_of_cons_eq e0
  have hlt : ∀ x ∈ p ++ [], x.block < W.heap.size := fun x hx => hW'.lt x hx
  refine (Ev.back_calls ⟨mixed, datumBack_glob hL, Ev.envOk_of Ev.T.tblOk⟩ (datumBack_atoi hL) hb r0).mono fun e W' ⟨he, hw⟩ => ?_
  subst he
  have m0 : ∀ x ∈ p, x.block < W.heap.size := fun x hx => hlt x (by simp [hx])
  refine ⟨_, rfl, [d0], [], _, [], p, [], hW', trodAll_mk1 (shut_bool Tryz.underlying4 _), ?_, rfl, hw.frame _, fun h => by cases h⟩
  exact trodAll_mk1 (Below.trod laidOut (by as_aux_lemma => kernel_rfl) (of_decide_eq_true (by as_aux_lemma => kernel_rfl)) h0 hw m0)

set_option maxHeartbeats 4000000 in
theorem datumBack_facts : joinedFacts Tryz.pinned.checked.prog 4 Tryz.f4 Rows.datumBackSpec Rows.datumBackRow = true := by
  unfold joinedFacts
  repeat' (with_reducible refine Bool.and_eq_true_iff.2 ⟨?_, ?_⟩)
  all_goals (as_aux_lemma => kernel_rfl)
theorem datumBack_holds : Rows.DatumBackSaid :=
  OpenClaim.holds_of_wide 4 Tryz.f4 rfl rfl rfl rfl rfl rfl rfl ⟨rfl, rfl, rfl, rfl, rfl⟩ rfl rfl rfl rfl rfl (by as_aux_lemma => kernel_rfl) Tryz.func4 datumBack_facts
    (of_decide_eq_true (by as_aux_lemma => kernel_rfl)) (by unfold Func.isWrapper; first | (rw [if_pos (by as_aux_lemma => decide +kernel)]; kernel_rfl) | (rw [if_neg (by as_aux_lemma => decide +kernel)]; exact ⟨rfl, rfl⟩))
    (fun os started H enc _ => datumBack_lifted os started H enc)
theorem datumBack_card : Rows.DatumBackCardSaid :=
  Claim7.holds_tied_plain_at .later [] [.data, .data, .data, .data, .sentinel, .sentinel, .pinned] true (true, "4d8154cab478aa38fcc041b37910c371e0b9df6ae446f7c5f2f2afe29cc12d67") true datumBack_holds (fun _ h => by cases h) (by as_aux_lemma => kernel_rfl) (fun _ h => by cases h) datumBack_row_tie rfl ⟨rfl, rfl⟩ (by as_aux_lemma => kernel_rfl) rfl
    (fun f fn hf hfn => by
      obtain rfl : f = 4 := Option.some.inj ((show Tryz.prog.funcNamed "pennant/pennantlaw08.DatumBack" = some 4 by as_aux_lemma => kernel_rfl).symm.trans hf) |>.symm
      obtain rfl : fn = Tryz.f4 := (Option.some.inj (Tryz.func4.symm.trans hfn)).symm
      exact ⟨by as_aux_lemma => kernel_rfl, fun j t ht => by
        rw [Tryz.params4] at ht
        have hm : t ∈ [31] := by simpa using Array.mem_of_getElem? ht
        have hall : ([31].all fun u => !Tryz.prog.wantsStandIn u) = true := by as_aux_lemma => kernel_rfl
        exact (show Tryz.prog.wantsStandIn t = false by simpa using List.all_eq_true.1 hall t hm)⟩)
    (by as_aux_lemma => kernel_rfl)
end Go.Proofs.YthcmnajcjapjbaaGreatDoor

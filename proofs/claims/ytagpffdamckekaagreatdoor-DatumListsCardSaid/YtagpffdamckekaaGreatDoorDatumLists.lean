/- pennant/pennantlaw08.DatumLists returns true, of whatever list of data and whatever end, in whatever memory, on every schedule, and changes nothing that was there: the given card. Its conditions are the card's own: the package-level variables that it lists hold what the program's text lays. -/
import Derived.Test.YtagpffdamckekaaGreatDoorTie
import Derived.Test.YtagpffdamckekaaGreatDoorCards
import Derived.ProofKit
import Derived.OpenShut
import Derived.LaidMore
import Derived.Lay
import Derived.Carry
import Derived.SevenTiedAt
import Derived.Stop.Joined
import Derived.Test.YtagpffdamckekaaGreatDoorGoodDatumLists
import Derived.Test.YtagpffdamckekaaGreatDoorEvalDatumLists
import Derived.Test.YtagpffdamckekaaGreatDoorTMain2
namespace Go.Proofs.YtagpffdamckekaaGreatDoor
open Go.ChangeShapes Go.WideShapes Go.ChangeAt Go.RowKit
set_option maxRecDepth 100000

theorem own : ownKnob Tryz.prog.godebug = none := by as_aux_lemma => kernel_rfl
theorem mixed : Tryz.prog.follows .mixedOrders = true := by as_aux_lemma => kernel_rfl
theorem laidOut : laidOutB Tryz.prog = true := by as_aux_lemma => kernel_rfl

theorem okR_okB (r : Option (Ev.AV × Ev.St)) : Ev.T.okR r = Ev.okB r := by
  rcases r with _ | ⟨v, s⟩
  · rfl
  · cases v <;> first | rfl | (rename_i b; cases b <;> rfl)
theorem works_ok : Ev.okB ((Ev.ev Ev.T.env 1000).call 5 [] Ev.s0) = true := (okR_okB _).symm.trans Ev.T.ok
theorem dlEnv : Ev.DlEnv Ev.T.env [5] := ⟨rfl, rfl, rfl, rfl, rfl, rfl, rfl, rfl, rfl, rfl, rfl⟩
theorem works_true (W : World) (f : Nat) (h : Ev.memN f [5] = true) : Ev.TrueCall Tryz.prog W f := by
  have hf : f = 5 := by
    have h' : (bif Nat.beq f 5 then true else false) = true := h
    cases hb : Nat.beq f 5 with
    | true => exact Ev.beq_iff.1 hb
    | false => rw [hb] at h'; cases h'
  subst hf
  obtain ⟨s, hs⟩ := Ev.okB_some works_ok
  exact Ev.trueCall_of mixed (Ev.globRel_nil W) (Ev.envOk_of Ev.T.tblOk) hs
theorem datumTy : Ev.DatumTy Tryz.prog 24 3 9 22 #[{ name := "Kind", type := 3, offset := 0, embedded := false, tag := "", pkgPath := "", byteOffset := 0 }, { name := "N", type := 3, offset := 1, embedded := false, tag := "", pkgPath := "", byteOffset := 8 }, { name := "Text", type := 9, offset := 2, embedded := false, tag := "", pkgPath := "", byteOffset := 16 }, { name := "Kids", type := 22, offset := 3, embedded := false, tag := "", pkgPath := "", byteOffset := 32 }, { name := "Pos", type := 3, offset := 4, embedded := false, tag := "", pkgPath := "", byteOffset := 56 }] :=
  ⟨Tryz.underlying24, rfl, Tryz.underlying3, Tryz.underlying9, Tryz.underlying22, by as_aux_lemma => kernel_rfl, by as_aux_lemma => kernel_rfl, by as_aux_lemma => kernel_rfl, by as_aux_lemma => kernel_rfl⟩

theorem datumLists_walk {H : Type} {enc : TypeId × Value → H} {W : World} {a : Option Addr} {len cap : Nat} {cs : Array Value} {d0 d1 : DataW H} {p0 p1 : List MemPlace}
    (h0 : DataW.Trod enc Tryz.prog W 0 (fun _ => true) true 22 (.slice a len cap) d0 p0) (h1 : DataW.Trod enc Tryz.prog W 0 (fun _ => true) true 24 (.agg cs) d1 p1) :
    Calls Tryz.prog 3 #[.slice a len cap, .agg cs] W fun e w' => e = .returned (.bool true) ∧ Below W.heap.size W w' := by
  obtain ⟨n0, t0⟩ := h0
  obtain ⟨n1, t1⟩ := h1
  obtain ⟨M, hM, ds, kv, cells, v, hv0, q2, q3, q4, top⟩ := Ev.abs_slice datumTy (fun m _ => Ev.abs_datum datumTy m) t0 (Ev.LOk.nil W)
  have hv : v = .slice a len cap := by
    have hv1 : [Value.slice a len cap] = [v] := hv0
    simpa using hv1.symm
  subst hv
  obtain ⟨M', hM', d, avs, r1, r2⟩ := Ev.abs_datum datumTy n1 _ _ t1 ([] ++ M) hM
  obtain ⟨L, hL⟩ : ∃ L, L = [] ++ M ++ M' := ⟨_, rfl⟩
  have hle : Ev.Le (Ev.getL ([] ++ M)) (Ev.getL L) := by rw [hL]; exact Ev.getL_le _ _
  have hsub : Ev.Sub (Ev.phiL ([] ++ M)) (Ev.phiL L) := by rw [hL]; exact Ev.phiL_sub _ _
  rw [← hL] at hM' r1 r2
  have hsl : Ev.SlAt (Ev.stL L).get kv ds cells := by rw [Ev.stL_get]; exact ⟨q3.mono hle, Ev.RepL.mono hle _ _ q4⟩
  obtain ⟨N, hN⟩ := Ev.dl_ok dlEnv ds d
  obtain ⟨_, s', hcall, rfl⟩ := hN N (Nat.le_refl _) (Ev.stL L) kv cells avs (Ev.stL_ok L) hsl top (by rw [Ev.stL_get]; exact r2)
  have hx : Ev.VRL (Ev.phiL L) [kv, .agg avs] [.slice a len cap, .agg cs] := by
    refine Ev.VRL.cons (Ev.VR.mono hsub _ _ q2) (Ev.VRL.cons ?_ (Ev.VRL.nil _))
    simp only [Ev.VR]
    exact ⟨cs.toList, by simp, r1⟩
  have hwalk := Ev.walk_gen (E := Ev.T.env) (O := [5]) mixed (Ev.globRel_nil W) (Ev.envOk_of Ev.T.tblOk) (works_true W) hcall (Ev.stL_rel hM') (Ev.stL_ok L).wf (Ev.phiL_none L) hx
  refine Calls.mono hwalk ?_
  rintro e w' ⟨φ', x, rfl, hvx, hb⟩
  simp only [Ev.VR] at hvx
  exact ⟨by rw [hvx], hb⟩

theorem datumLists_lifted (os : Os) (started : os.Started) (H : Type) (enc : TypeId × Value → H) :
    ReturnsInHanded {} Tryz.checked os 3 .any (fun w args => (Rows.datumListsSpec.pre enc Tryz.prog Tryz.f3 Rows.datumListsRow.domain false w args ∧ laidMetH Tryz.prog Rows.datumListsRow.laid w) ∧ sizedMet enc Tryz.prog Tryz.f3 (OpenSpec.ofChange Rows.datumListsSpec) false w args)
      (Rows.datumListsSpec.post enc Tryz.prog Tryz.f3 false true false false) := by
  refine returnsInHanded_of_change_and (C := Tryz.checked) (X := fun w _ => laidMetH Tryz.prog Rows.datumListsRow.laid w) (fun _ _ _ hh h => h.of_heap hh) own started (by as_aux_lemma => kernel_rfl) Tryz.func3
    (ChangeSpec.witness_shaped (enc := enc) (C := Tryz.checked) (os := os) (X := fun w _ => laidMetH Tryz.prog Rows.datumListsRow.laid w) false (World.laidAll Tryz.prog os Rows.datumListsRow.laid) #[.slice none 0 0, .agg #[.int .i64 0, .int .i64 0, .string .empty, .slice none 0 0, .int .i64 0]] 8 (World.laidAll_os _ _ _)
      (World.shaped_of_ZipB (by as_aux_lemma => kernel_rfl) (by as_aux_lemma => kernel_rfl)) (by as_aux_lemma => kernel_rfl) (by as_aux_lemma => kernel_rfl) (by as_aux_lemma => kernel_rfl)
      (by rw [MakeChecks.laidMetH_plain _ _ _ (by as_aux_lemma => kernel_rfl)]; exact laidMet_laidAll _ (by as_aux_lemma => kernel_rfl) (by as_aux_lemma => kernel_rfl))) ?_
  intro W base args ds gs before hval0 hW hc _ hL _
  have hval : ∀ (j : Nat) t v, Tryz.f3.params[j]? = some t → args[j]? = some v → Value.okWide Tryz.prog W .any base t v := hval0
  have hW' := hW
  obtain ⟨p, q, hA0, hV, rfl, _, _⟩ := hW
  have hA : DataW.TrodAll enc Tryz.prog W 0 (fun _ => true) true Tryz.f3.params.toList args.toList ds p := hA0
  rw [Tryz.params3] at hA hval
  obtain ⟨v0, v1, d0, d1, p0, p1, rfl, rfl, rfl, h0, h1⟩ := trodAll_two hA
  obtain ⟨rfl, rfl⟩ := trodVars_none hV
  obtain ⟨a, len, cap, rfl⟩ := okWide_slice Tryz.underlying22 (hval 0 22 v0 rfl rfl)
  obtain ⟨cs, rfl, _⟩ := okWide_struct Tryz.underlying24 (hval 1 24 v1 rfl rfl)
  have hlt : ∀ x ∈ (p0 ++ p1) ++ [], x.block < W.heap.size := fun x hx => hW'.lt x hx
  refine (datumLists_walk h0 h1).mono fun e W' ⟨he, hw⟩ => ?_
  subst he
  refine ⟨_, rfl, [d0, d1], [], _, [], p0 ++ p1, [], hW', trodAll_mk1 (shut_bool Tryz.underlying4 _), ?_, rfl, hw.frame _, fun h => by cases h⟩
  have m0 : ∀ x ∈ p0, x.block < W.heap.size := fun x hx => hlt x (by simp [hx])
  have m1 : ∀ x ∈ p1, x.block < W.heap.size := fun x hx => hlt x (by simp [hx])
  exact trodAll_mk2 (Below.trod laidOut (by as_aux_lemma => kernel_rfl) (of_decide_eq_true (by as_aux_lemma => kernel_rfl)) h0 hw m0) (Below.trod laidOut (by as_aux_lemma => kernel_rfl) (of_decide_eq_true (by as_aux_lemma => kernel_rfl)) h1 hw m1)

set_option maxHeartbeats 4000000 in
theorem datumLists_facts : joinedFacts Tryz.pinned.checked.prog 3 Tryz.f3 Rows.datumListsSpec Rows.datumListsRow = true := by
  unfold joinedFacts
  repeat' (with_reducible refine Bool.and_eq_true_iff.2 ⟨?_, ?_⟩)
  all_goals (as_aux_lemma => kernel_rfl)
theorem datumLists_holds : Rows.DatumListsSaid :=
  OpenClaim.holds_of_wide 3 Tryz.f3 rfl rfl rfl rfl rfl rfl rfl ⟨rfl, rfl, rfl, rfl, rfl⟩ rfl rfl rfl rfl rfl (by as_aux_lemma => kernel_rfl) Tryz.func3 datumLists_facts
    (of_decide_eq_true (by as_aux_lemma => kernel_rfl)) (by unfold Func.isWrapper; first | (rw [if_pos (by as_aux_lemma => decide +kernel)]; kernel_rfl) | (rw [if_neg (by as_aux_lemma => decide +kernel)]; exact ⟨rfl, rfl⟩))
    (fun os started H enc _ => datumLists_lifted os started H enc)
theorem datumLists_card : Rows.DatumListsCardSaid :=
  Claim7.holds_tied_plain_at .later [] [.data, .data, .data, .data, .sentinel, .sentinel, .pinned] true (true, "d681b6b40d51452e0f2a8bd94e1c395ac5b95f1e49794f1032d5fd8ce319587b") true datumLists_holds (fun _ h => by cases h) (by as_aux_lemma => kernel_rfl) (fun _ h => by cases h) datumLists_row_tie rfl ⟨rfl, rfl⟩ (by as_aux_lemma => kernel_rfl) rfl
    (fun f fn hf hfn => by
      obtain rfl : f = 3 := Option.some.inj ((show Tryz.prog.funcNamed "pennant/pennantlaw08.DatumLists" = some 3 by as_aux_lemma => kernel_rfl).symm.trans hf) |>.symm
      obtain rfl : fn = Tryz.f3 := (Option.some.inj (Tryz.func3.symm.trans hfn)).symm
      exact ⟨by as_aux_lemma => kernel_rfl, fun j t ht => by
        rw [Tryz.params3] at ht
        have hm : t ∈ [22, 24] := by simpa using Array.mem_of_getElem? ht
        have hall : ([22, 24].all fun u => !Tryz.prog.wantsStandIn u) = true := by as_aux_lemma => kernel_rfl
        exact (show Tryz.prog.wantsStandIn t = false by simpa using List.all_eq_true.1 hall t hm)⟩)
    (by as_aux_lemma => kernel_rfl)
end Go.Proofs.YtagpffdamckekaaGreatDoor

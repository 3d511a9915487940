/- pennant/pennantlaw09.MatchNames returns true, whatever it is called with of bulk at most 1048576, in whatever memory, on every schedule, and changes nothing that was there: the given card. Its conditions are the card's own: the bound, and that the package-level variables that it lists hold what the program's text lays. -/
import Derived.Test.YtionbncghjdeoaaGreatDoorTie
import Derived.Test.YtionbncghjdeoaaGreatDoorCards
import Derived.ProofKit
import Derived.OpenShut
import Derived.LaidMore
import Derived.Lay
import Derived.Carry
import Derived.Deep.DeepHandedRow
import Derived.Deep.DeepWitnessRowRef
import Derived.Test.YtionbncghjdeoaaGreatDoorGoodMatchNames
import Derived.Test.YtionbncghjdeoaaGreatDoorWE
namespace Go.Proofs.YtionbncghjdeoaaGreatDoor
open Go.ChangeShapes Go.WideShapes Go.ChangeAt Go.RowKit
set_option maxRecDepth 100000

theorem own : ownKnob Tryz.prog.godebug = none := by as_aux_lemma => kernel_rfl
theorem mixed : Tryz.prog.follows .mixedOrders = true := by as_aux_lemma => kernel_rfl
theorem laidOut : laidOutB Tryz.prog = true := by as_aux_lemma => kernel_rfl

theorem one_le {H : Type} (d : DataW H) : 1 ≤ Rows.uptoBulk d := by
  cases d with
  | lit l => cases l <;> simp [Rows.uptoBulk]
  | nil => simp [Rows.uptoBulk]
  | ptr d => simp [Rows.uptoBulk]
  | slice elems spare => simp [Rows.uptoBulk]
  | agg parts => simp [Rows.uptoBulk]
  | iface t d => simp [Rows.uptoBulk]
  | map entries => simp [Rows.uptoBulk]
  | held h => simp [Rows.uptoBulk]
theorem part_le {H : Type} {d : DataW H} {l : List (DataW H)} (h : d ∈ l) : Rows.uptoBulk d ≤ Rows.uptoBulkAll l := by
  induction l with
  | nil => cases h
  | cons x r ih =>
    simp only [Rows.uptoBulkAll]
    cases List.mem_cons.1 h with
    | inl e => subst e; omega
    | inr e => have := ih e; omega
theorem length_le {H : Type} (l : List (DataW H)) : l.length ≤ Rows.uptoBulkAll l := by
  induction l with
  | nil => simp [Rows.uptoBulkAll]
  | cons x r ih => have := one_le x; simp only [Rows.uptoBulkAll, List.length_cons]; omega
theorem mu (H : Type) : Ev.Mu H Rows.uptoBulk :=
  ⟨fun b => by simp [Rows.uptoBulk], fun es sp => ⟨fun d hd => by have := part_le hd; simp only [Rows.uptoBulk]; omega, by have := length_le es; simp only [Rows.uptoBulk]; omega⟩,
    fun ps d hd => by have := part_le hd; simp only [Rows.uptoBulk]; omega⟩
theorem matchNames_wit_a (os : Os) : (World.holding Tryz.prog os ⟨#[], #[], []⟩).layFits Tryz.prog Rows.matchNamesUptoRow.laid [] = true := by as_aux_lemma => kernel_rfl
theorem matchNames_wit_b (os : Os) : (World.holding Tryz.prog os ⟨#[], #[], []⟩).layIfaces Tryz.prog Rows.matchNamesUptoRow.laid (World.laidAll Tryz.prog os Rows.matchNamesUptoRow.laid) = true := by as_aux_lemma => kernel_rfl
theorem matchNames_wit_c (os : Os) : laidMet Tryz.prog Rows.matchNamesUptoRow.laid ((World.laidAll Tryz.prog os Rows.matchNamesUptoRow.laid).forCall (fun _ _ => 0) ⟨#[], #[], []⟩).memory := laidMet_laidAll #[] (matchNames_wit_a os) (matchNames_wit_b os)
theorem matchNames_wit (os : Os) : laidMetH Tryz.prog Rows.matchNamesUptoRow.laid ((World.laidAll Tryz.prog os Rows.matchNamesUptoRow.laid).forCall (fun _ _ => 0) ⟨#[], #[], []⟩).memory := by
  rw [MakeChecks.laidMetH_plain _ _ _ (by as_aux_lemma => kernel_rfl)]; exact matchNames_wit_c os
def deB : List Int := [.ofNat 0, .ofNat 1, .ofNat 56, .ofNat 2, .ofNat 57, .ofNat 49, .ofNat 28, .ofNat 3, .ofNat 61, .ofNat 58, .ofNat 42, .ofNat 50, .ofNat 38, .ofNat 29, .ofNat 17, .ofNat 4, .ofNat 62, .ofNat 47, .ofNat 59, .ofNat 36, .ofNat 45, .ofNat 43, .ofNat 51, .ofNat 22, .ofNat 53, .ofNat 39, .ofNat 33, .ofNat 30, .ofNat 24, .ofNat 18, .ofNat 12, .ofNat 5, .ofNat 63, .ofNat 55, .ofNat 48, .ofNat 27, .ofNat 60, .ofNat 41, .ofNat 37, .ofNat 16, .ofNat 46, .ofNat 35, .ofNat 44, .ofNat 21, .ofNat 52, .ofNat 32, .ofNat 23, .ofNat 11, .ofNat 54, .ofNat 26, .ofNat 40, .ofNat 15, .ofNat 34, .ofNat 20, .ofNat 31, .ofNat 10, .ofNat 25, .ofNat 14, .ofNat 19, .ofNat 9, .ofNat 13, .ofNat 8, .ofNat 7, .ofNat 6]
def pow10 : List Int := [.ofNat 1, .ofNat 10, .ofNat 100, .ofNat 1000, .ofNat 10000, .ofNat 100000, .ofNat 1000000, .ofNat 10000000, .ofNat 100000000, .ofNat 1000000000, .ofNat 10000000000, .ofNat 100000000000, .ofNat 1000000000000, .ofNat 10000000000000, .ofNat 100000000000000, .ofNat 1000000000000000, .ofNat 10000000000000000, .ofNat 100000000000000000, .ofNat 1000000000000000000, .ofNat 10000000000000000000]
def accR : List (Int × Int) := [(.ofNat 128, .ofNat 191), (.ofNat 160, .ofNat 191), (.ofNat 128, .ofNat 159), (.ofNat 144, .ofNat 191), (.ofNat 128, .ofNat 143), (.ofNat 0, .ofNat 0), (.ofNat 0, .ofNat 0), (.ofNat 0, .ofNat 0), (.ofNat 0, .ofNat 0), (.ofNat 0, .ofNat 0), (.ofNat 0, .ofNat 0), (.ofNat 0, .ofNat 0), (.ofNat 0, .ofNat 0), (.ofNat 0, .ofNat 0), (.ofNat 0, .ofNat 0), (.ofNat 0, .ofNat 0)]
def firstT : List Int := [.ofNat 240, .ofNat 240, .ofNat 240, .ofNat 240, .ofNat 240, .ofNat 240, .ofNat 240, .ofNat 240, .ofNat 240, .ofNat 240, .ofNat 240, .ofNat 240, .ofNat 240, .ofNat 240, .ofNat 240, .ofNat 240, .ofNat 240, .ofNat 240, .ofNat 240, .ofNat 240, .ofNat 240, .ofNat 240, .ofNat 240, .ofNat 240, .ofNat 240, .ofNat 240, .ofNat 240, .ofNat 240, .ofNat 240, .ofNat 240, .ofNat 240, .ofNat 240, .ofNat 240, .ofNat 240, .ofNat 240, .ofNat 240, .ofNat 240, .ofNat 240, .ofNat 240, .ofNat 240, .ofNat 240, .ofNat 240, .ofNat 240, .ofNat 240, .ofNat 240, .ofNat 240, .ofNat 240, .ofNat 240, .ofNat 240, .ofNat 240, .ofNat 240, .ofNat 240, .ofNat 240, .ofNat 240, .ofNat 240, .ofNat 240, .ofNat 240, .ofNat 240, .ofNat 240, .ofNat 240, .ofNat 240, .ofNat 240, .ofNat 240, .ofNat 240, .ofNat 240, .ofNat 240, .ofNat 240, .ofNat 240, .ofNat 240, .ofNat 240, .ofNat 240, .ofNat 240, .ofNat 240, .ofNat 240, .ofNat 240, .ofNat 240, .ofNat 240, .ofNat 240, .ofNat 240, .ofNat 240, .ofNat 240, .ofNat 240, .ofNat 240, .ofNat 240, .ofNat 240, .ofNat 240, .ofNat 240, .ofNat 240, .ofNat 240, .ofNat 240, .ofNat 240, .ofNat 240, .ofNat 240, .ofNat 240, .ofNat 240, .ofNat 240, .ofNat 240, .ofNat 240, .ofNat 240, .ofNat 240, .ofNat 240, .ofNat 240, .ofNat 240, .ofNat 240, .ofNat 240, .ofNat 240, .ofNat 240, .ofNat 240, .ofNat 240, .ofNat 240, .ofNat 240, .ofNat 240, .ofNat 240, .ofNat 240, .ofNat 240, .ofNat 240, .ofNat 240, .ofNat 240, .ofNat 240, .ofNat 240, .ofNat 240, .ofNat 240, .ofNat 240, .ofNat 240, .ofNat 240, .ofNat 240, .ofNat 240, .ofNat 240, .ofNat 241, .ofNat 241, .ofNat 241, .ofNat 241, .ofNat 241, .ofNat 241, .ofNat 241, .ofNat 241, .ofNat 241, .ofNat 241, .ofNat 241, .ofNat 241, .ofNat 241, .ofNat 241, .ofNat 241, .ofNat 241, .ofNat 241, .ofNat 241, .ofNat 241, .ofNat 241, .ofNat 241, .ofNat 241, .ofNat 241, .ofNat 241, .ofNat 241, .ofNat 241, .ofNat 241, .ofNat 241, .ofNat 241, .ofNat 241, .ofNat 241, .ofNat 241, .ofNat 241, .ofNat 241, .ofNat 241, .ofNat 241, .ofNat 241, .ofNat 241, .ofNat 241, .ofNat 241, .ofNat 241, .ofNat 241, .ofNat 241, .ofNat 241, .ofNat 241, .ofNat 241, .ofNat 241, .ofNat 241, .ofNat 241, .ofNat 241, .ofNat 241, .ofNat 241, .ofNat 241, .ofNat 241, .ofNat 241, .ofNat 241, .ofNat 241, .ofNat 241, .ofNat 241, .ofNat 241, .ofNat 241, .ofNat 241, .ofNat 241, .ofNat 241, .ofNat 241, .ofNat 241, .ofNat 2, .ofNat 2, .ofNat 2, .ofNat 2, .ofNat 2, .ofNat 2, .ofNat 2, .ofNat 2, .ofNat 2, .ofNat 2, .ofNat 2, .ofNat 2, .ofNat 2, .ofNat 2, .ofNat 2, .ofNat 2, .ofNat 2, .ofNat 2, .ofNat 2, .ofNat 2, .ofNat 2, .ofNat 2, .ofNat 2, .ofNat 2, .ofNat 2, .ofNat 2, .ofNat 2, .ofNat 2, .ofNat 2, .ofNat 2, .ofNat 19, .ofNat 3, .ofNat 3, .ofNat 3, .ofNat 3, .ofNat 3, .ofNat 3, .ofNat 3, .ofNat 3, .ofNat 3, .ofNat 3, .ofNat 3, .ofNat 3, .ofNat 35, .ofNat 3, .ofNat 3, .ofNat 52, .ofNat 4, .ofNat 4, .ofNat 4, .ofNat 68, .ofNat 241, .ofNat 241, .ofNat 241, .ofNat 241, .ofNat 241, .ofNat 241, .ofNat 241, .ofNat 241, .ofNat 241, .ofNat 241, .ofNat 241]
theorem matchNames_glob {W : World} (hL : laidMetH Tryz.prog Rows.matchNamesUptoRow.laid W) : Ev.xV Ev.T.env.globs W := by
  rw [MakeChecks.laidMetH_plain _ _ _ (by as_aux_lemma => kernel_rfl)] at hL
  obtain ⟨ps, ⟨g0, t0, cs0, f0, p0, q0, hg0, ht0, hv0, hd0, ⟨g1, t1, cs1, f1, p1, q1, hg1, ht1, hv1, hd1, ⟨g2, t2, cs2, f2, p2, q2, hg2, ht2, hv2, hd2, ⟨g3, t3, cs3, f3, p3, q3, hg3, ht3, hv3, hd3, ⟨g4, t4, cs4, f4, p4, q4, hg4, ht4, hv4, hd4, ⟨g5, t5, cs5, f5, p5, q5, hg5, ht5, hv5, hd5, ⟨g6, t6, cs6, f6, p6, q6, hg6, ht6, hv6, hd6, _, _⟩, _⟩, _⟩, _⟩, _⟩, _⟩, _⟩, _⟩ := hL
  obtain rfl := Option.some.inj ((show Tryz.prog.globalNamed "math/bits.deBruijn64tab" = some 7 by as_aux_lemma => kernel_rfl).symm.trans hg1)
  obtain rfl := Option.some.inj ((show Tryz.prog.globalNamed "internal/strconv.uint64pow10" = some 0 by as_aux_lemma => kernel_rfl).symm.trans hg2)
  obtain rfl := Option.some.inj ((show Tryz.prog.globalNamed "unicode/utf8.acceptRanges" = some 5 by as_aux_lemma => kernel_rfl).symm.trans hg3)
  obtain rfl := Option.some.inj ((show Tryz.prog.globalNamed "unicode/utf8.first" = some 4 by as_aux_lemma => kernel_rfl).symm.trans hg6)
  obtain rfl := Option.some.inj ((show (Tryz.prog.globals[7]?).map (·.type) = some 234 by as_aux_lemma => kernel_rfl).symm.trans ht1)
  obtain rfl := Option.some.inj ((show (Tryz.prog.globals[0]?).map (·.type) = some 206 by as_aux_lemma => kernel_rfl).symm.trans ht2)
  obtain rfl := Option.some.inj ((show (Tryz.prog.globals[5]?).map (·.type) = some 225 by as_aux_lemma => kernel_rfl).symm.trans ht3)
  obtain rfl := Option.some.inj ((show (Tryz.prog.globals[4]?).map (·.type) = some 222 by as_aux_lemma => kernel_rfl).symm.trans ht6)
  have e1 : cs1.toList = deB.map (Value.int .u8 ·) := Ev.laid_ints (vs := deB) Tryz.underlying234 Tryz.underlying5 (by as_aux_lemma => kernel_rfl) (by as_aux_lemma => kernel_rfl) hd1
  have e2 : cs2.toList = pow10.map (Value.int .u64 ·) := Ev.laid_ints (vs := pow10) Tryz.underlying206 Tryz.underlying186 (by as_aux_lemma => kernel_rfl) (by as_aux_lemma => kernel_rfl) hd2
  have e3 : cs3.toList = (accR.flatMap fun v => [v.1, v.2]).map (Value.int .u8 ·) := Ev.laid_pairs (vs := accR) Tryz.underlying225 Tryz.underlying224 ⟨rfl, rfl⟩ ⟨rfl, rfl⟩ Tryz.underlying5 (by as_aux_lemma => kernel_rfl) (by as_aux_lemma => kernel_rfl) (by as_aux_lemma => kernel_rfl) hd3
  have e6 : cs6.toList = firstT.map (Value.int .u8 ·) := Ev.laid_ints (vs := firstT) Tryz.underlying222 Tryz.underlying5 (by as_aux_lemma => kernel_rfl) (by as_aux_lemma => kernel_rfl) hd6
  have d1 := Ev.glob_of hg1 hv1 e1
  have d2 := Ev.glob_of hg2 hv2 e2
  have d3 := Ev.glob_of hg3 hv3 e3
  have d6 := Ev.glob_of hg6 hv6 e6
  refine Ev.globRel_of fun i cs hi hne => ?_
  match i, hi with
  | 0, hi => cases hi; exact d2
  | 1, hi => cases hi; exact absurd rfl hne
  | 2, hi => cases hi; exact absurd rfl hne
  | 3, hi => cases hi; exact absurd rfl hne
  | 4, hi => cases hi; exact d6
  | 5, hi => cases hi; exact d3
  | 6, hi => cases hi; exact absurd rfl hne
  | 7, hi => cases hi; exact d1
  | n + 8, hi => cases hi

theorem matchNames_lifted (os : Os) (started : os.Started) (H : Type) (enc : TypeId × Value → H) (F : Stop.Interp) :
    ReturnsInHanded {} Tryz.checked os 3 .any ((Rows.OpenSpec.upto Rows.matchNamesSpec).preRow enc Tryz.prog Tryz.f3 Rows.matchNamesUptoRow.domain false Rows.matchNamesUptoRow.laid) (((Rows.OpenSpec.upto Rows.matchNamesSpec).at F).post enc Tryz.prog Tryz.f3 false true false false) := by
  have hx : DataW.whole enc Tryz.prog ((World.laidAll Tryz.prog os Rows.matchNamesUptoRow.laid).forCall (fun _ _ => 0) ⟨#[], #[.agg #[.slice none 0 0, .int .i64 0, .int .i64 0, .string .empty, .slice none 0 0, .int .i64 0, .int .i64 0, .int .i64 0, .string .empty, .slice none 0 0, .int .i64 0, .int .i64 0, .int .i64 0, .string .empty, .slice none 0 0, .int .i64 0], .int .u8 0], []⟩).memory Tryz.f3.params.toList Rows.matchNamesSpec.vars false #[.agg #[.slice none 0 0, .int .i64 0, .int .i64 0, .string .empty, .slice none 0 0, .int .i64 0, .int .i64 0, .int .i64 0, .string .empty, .slice none 0 0, .int .i64 0, .int .i64 0, .int .i64 0, .string .empty, .slice none 0 0, .int .i64 0], .int .u8 0].toList 8 = some ([.agg [.nil, .agg [.lit (.int .i64 0), .lit (.int .i64 0), .lit (.string []), .nil, .lit (.int .i64 0)], .agg [.lit (.int .i64 0), .lit (.int .i64 0), .lit (.string []), .nil, .lit (.int .i64 0)], .agg [.lit (.int .i64 0), .lit (.int .i64 0), .lit (.string []), .nil, .lit (.int .i64 0)]], .lit (.int .u8 0)], [], []) := by as_aux_lemma => kernel_rfl
  refine returnsInHanded_of_row (C := Tryz.checked) (s := (Rows.OpenSpec.upto Rows.matchNamesSpec)) own started (by as_aux_lemma => kernel_rfl) Tryz.func3
    (witness_row_atRef (enc := enc) (C := Tryz.checked) false (World.laidAll Tryz.prog os Rows.matchNamesUptoRow.laid) #[.agg #[.slice none 0 0, .int .i64 0, .int .i64 0, .string .empty, .slice none 0 0, .int .i64 0, .int .i64 0, .int .i64 0, .string .empty, .slice none 0 0, .int .i64 0, .int .i64 0, .int .i64 0, .string .empty, .slice none 0 0, .int .i64 0], .int .u8 0] (World.laidAll_os _ _ _) (by as_aux_lemma => kernel_rfl) (by as_aux_lemma => kernel_rfl) (by as_aux_lemma => kernel_rfl)
      (OpenSpec.preRow_of_cond 8 hx (by as_aux_lemma => kernel_rfl) (fun k hk => by cases hk; kernel_rfl) (by as_aux_lemma => kernel_rfl) (matchNames_wit os))) ?_
  intro W base args ds gs before hval0 hW _ hcond _ hL _ _
  have hk := hcond _ rfl
  have hval : ∀ (j : Nat) t v, Tryz.f3.params[j]? = some t → args[j]? = some v → Value.okWide Tryz.prog W .any base t v := hval0
  have hW' := hW
  obtain ⟨p, q, hA0, hV, rfl, _, _⟩ := hW
  have hA : DataW.TrodAll enc Tryz.prog W 0 (fun _ => true) true Tryz.f3.params.toList args.toList ds p := hA0
  rw [Tryz.params3] at hA hval
  obtain ⟨v0, v1, d0, d1, p0, p1, rfl, rfl, rfl, h0, h1⟩ := trodAll_two hA
  obtain ⟨rfl, rfl⟩ := trodVars_none hV
  obtain ⟨c0, rfl, _⟩ := okWide_struct Tryz.underlying27 (hval 0 27 v0 rfl rfl)
  obtain ⟨n1, rfl, rfl, rfl, wf1⟩ := open_int Tryz.underlying5 (hval 1 5 v1 rfl rfl) h1
  have hb : Rows.uptoBulk d0 ≤ 1048576 := by
    have : Rows.uptoBulkAll ([d0, .lit (.int .u8 n1)] ++ []) ≤ 1048576 := by simpa [Rows.uptoSmall] using hk
    exact Nat.le_trans (part_le (List.Mem.head _)) this
  have T : Ev.DatumTy Tryz.prog 25 3 9 23 _ := ⟨Tryz.underlying25, rfl, Tryz.underlying3, Tryz.underlying9, Tryz.underlying23, by as_aux_lemma => kernel_rfl, by as_aux_lemma => kernel_rfl, by as_aux_lemma => kernel_rfl, by as_aux_lemma => kernel_rfl⟩
  have C : Ev.CaseTy Tryz.prog 27 22 25 9 _ := ⟨Tryz.underlying27, rfl, Tryz.underlying22, by as_aux_lemma => kernel_rfl, by as_aux_lemma => kernel_rfl⟩
  obtain ⟨m0, t0⟩ := id h0
  obtain ⟨ls, p, f, t, hls, xp, xf, xt, r0⟩ := Ev.abs_case (mu H) (N := 1048576) (by decide) T C rfl t0 hb
  have hn : ∃ n : Nat, n < 256 ∧ n1 = .ofNat n := by
    have h : IntKind.u8.min ≤ n1 ∧ n1 ≤ IntKind.u8.max := by simpa [Lit.wf] using wf1
    have h1 : 0 ≤ n1 := h.1
    have h2 : n1 ≤ 255 := h.2
    exact ⟨n1.toNat, by omega, (Int.toNat_of_nonneg h1).symm⟩
  obtain ⟨n, hn, rfl⟩ := hn
  have hlt : ∀ x ∈ (p0 ++ []) ++ [], x.block < W.heap.size := fun x hx => hW'.lt x hx
  refine (Ev.names_calls ⟨mixed, matchNames_glob hL, Ev.envOk_of Ev.T.tblOk⟩ hn hls xp xf xt r0).mono fun e W' ⟨he, hw⟩ => ?_
  subst he
  have m0 : ∀ x ∈ p0, x.block < W.heap.size := fun x hx => hlt x (by simp [hx])
  refine ⟨_, rfl, [d0, .lit (.int .u8 (.ofNat n))], [], _, [], p0 ++ [], [], hW', trodAll_mk1 (shut_bool Tryz.underlying4 _), ?_, rfl, hw.frame _, fun h => by cases h⟩
  exact trodAll_mk2 (Below.trod laidOut (by as_aux_lemma => kernel_rfl) (of_decide_eq_true (by as_aux_lemma => kernel_rfl)) h0 hw m0) (shut_int Tryz.underlying5 wf1)

theorem matchNames_holds : Rows.MatchNamesUptoSaid :=
  OpenClaim.holds_of_cond 3 Tryz.f3 rfl rfl rfl rfl rfl rfl rfl ⟨rfl, rfl, rfl, rfl, rfl⟩ rfl rfl rfl rfl rfl (by as_aux_lemma => kernel_rfl) Tryz.func3 (by as_aux_lemma => kernel_rfl)
    (of_decide_eq_true (by as_aux_lemma => kernel_rfl)) (by unfold Func.isWrapper; first | (rw [if_pos (by as_aux_lemma => decide +kernel)]; kernel_rfl) | (rw [if_neg (by as_aux_lemma => decide +kernel)]; exact ⟨rfl, rfl⟩))
    (fun os started H enc _ F => by rw [OpenClaim.pre_eq_preRow]; exact matchNames_lifted os started H enc F)
theorem matchNamesUpto_card : Rows.MatchNamesUptoCardSaid :=
  Claim7.holds_tied_plain_at .later [] [.data, .data, .data, .data, .sentinel, .sentinel, .pinned] true (true, "c42bffac2c4e7803017f37a0113cf07adb796eca2853f189455bac59bce6270e") true matchNames_holds (fun _ h => by cases h) (by as_aux_lemma => kernel_rfl) (fun _ h => by cases h) matchNamesUpto_row_tie rfl ⟨rfl, rfl⟩ (by as_aux_lemma => kernel_rfl) rfl
    (fun f fn hf hfn => by
      obtain rfl : f = 3 := Option.some.inj ((show Tryz.prog.funcNamed "pennant/pennantlaw09.MatchNames" = some 3 by as_aux_lemma => kernel_rfl).symm.trans hf) |>.symm
      obtain rfl : fn = Tryz.f3 := (Option.some.inj (Tryz.func3.symm.trans hfn)).symm
      exact ⟨by as_aux_lemma => kernel_rfl, fun j t ht => by
        rw [Tryz.params3] at ht
        have hm : t ∈ [27, 5] := by simpa using Array.mem_of_getElem? ht
        have hall : ([27, 5].all fun u => !Tryz.prog.wantsStandIn u) = true := by as_aux_lemma => kernel_rfl
        exact (show Tryz.prog.wantsStandIn t = false by simpa using List.all_eq_true.1 hall t hm)⟩)
    (by as_aux_lemma => kernel_rfl)
end Go.Proofs.YtionbncghjdeoaaGreatDoor

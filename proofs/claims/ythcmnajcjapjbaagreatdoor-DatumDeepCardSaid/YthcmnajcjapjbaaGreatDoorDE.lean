/- Contracts of functions that DatumDeep calls: what a call answers, for all data, by symbolic evaluation. No conditions of its own. -/
import Derived.Test.YthcmnajcjapjbaaGreatDoorDD
set_option linter.unusedSimpArgs false
set_option linter.unusedVariables false
set_option linter.defProp false
namespace Go.Proofs.YthcmnajcjapjbaaGreatDoor.Ev
open T
set_option maxRecDepth 1000000
theorem envOk2 {P : Program} {E : Env} (h : EnvOk P E) (p : Nat → Bool) : EnvOk P { E with pure := p } := h
def env2 : Env := { env with pure := fun _ => false }
theorem env2_ok {P : Program} (h : EnvOk P env) : EnvOk P env2 := envOk2 h (fun _ => false)
theorem works_ev : okV (.bool true) ((evT env2 noO 100000).call 8 [] s0) = true := by decide +kernel
open T
set_option maxRecDepth 100000
theorem ok_sc {P : Program} {w0 : World} (B : Bx P w0) : ∃ s1, SC P w0 8 [] (s00 0 false) (.bool true) s1 :=
  sc_ev (E := env2) (n := 100000) (noO_ok P w0) B.mixed B.glob (env2_ok B.env) works_ev
theorem ok_known {P : Program} {w0 : World} (B : Bx P w0) : OrcOk P w0 (withG 8 gOk noO) :=
  (noO_ok P w0).withG orc0_ext (known0 false (fun _ => rfl) (fun _ => rfl) fun _ _ => ok_sc B)
theorem byte_known2 {P : Program} {w0 : World} (B : Bx P w0) {O : Orc} (hO : OrcOk P w0 O) {f : Nat} {p : Nat → Bool} (h : (List.range 256).all (fun c => okV (.bool (p c)) ((evT env noO 1000).call f [.int .u8 (.ofNat c)] s0)) = true) : OrcOk P w0 (withG f (gByte p) O) :=
  hO.withG orc0_ext (known0 false (fun _ => rfl) (fun _ => rfl) fun c hc => sc_ev (noO_ok P w0) B.mixed B.glob B.env (List.all_eq_true.1 h c (List.mem_range.2 hc)))
noncomputable def P3 : Orc := withG 71 (gByte isDelim) (withG 67 (gByte isSym) (withG 60 (gByte isBlank) noO))
theorem P3_ok {P : Program} {w0 : World} (B : Bx P w0) : OrcOk P w0 P3 := byte_known2 B (byte_known2 B (byte_known2 B (noO_ok P w0) blank_ev) sym_ev) delim_ev
noncomputable def P4 : Orc := withG 69 gRun P3
theorem P4_ok {P : Program} {w0 : World} (B : Bx P w0) : OrcOk P w0 P4 := run_known B (P3_ok B) rfl rfl
noncomputable def P5 : Orc := withO 93 [([.str [49]], .tup [.str [49], .bool true])] P4
theorem P5_ok {P : Program} {w0 : World} (B : Bx P w0) : OrcOk P w0 P5 := OrcOk.with B.mixed B.glob B.env (P4_ok B) (noO_ok P w0) fun p hp => by
  rw [List.mem_singleton.1 hp]; exact ⟨rfl, rfl, 1000, int_ev⟩
noncomputable def P6 : Orc := withG 34 gTok P5
theorem P6_ok {P : Program} {w0 : World} (B : Bx P w0) : OrcOk P w0 P6 := token_known B (P5_ok B) rfl rfl rfl rfl rfl rfl rfl rfl rfl rfl
theorem lex_known {P : Program} {w0 : World} (B : Bx P w0) : OrcOk P w0 (withG 17 gLex noO) :=
  (noO_ok P w0).withG orc0_ext (known0 true (fun x => by simp only [encSrc, pureL_cons, pureA_lst, pureL_nil, Bool.and_self]) (fun x => by simp only [pureA_tup, pureL_cons, pureA_lst, fault0, pureA_agg, pureA_int, pureL_nil, Bool.and_self]) fun b hb => ⟨_, lex_sc B (P6_ok B) rfl rfl rfl b hb.1 hb.2.1 hb.2.2⟩)
open T
set_option maxRecDepth 100000
theorem law_sc {P : Program} {w0 : World} (B : Bx P w0) (a b : Nat) (ha : a < 65536) (hb : b < 65536) : SC P w0 6 [.int .u16 (.ofNat a), .int .u16 (.ofNat b)] (H [] 0 true) (.bool true) (H [] 0 true) := by
  obtain ⟨N, hF⟩ : ∃ N, Facts N (a % 3001) (1 + b % 400) := ⟨_, facts (Nat.mod_lt _ (by omega)) (by omega) (by have := Nat.mod_lt b (show 400 > 0 by omega); omega)⟩
  have h0 := noO_ok P w0
  have kOk := ok_known B
  have kR0 : OrcOk P w0 (withG 32 (gDt 1000) (withG 17 gLex noO)) := dt_known (lex_known B) 1000 (reader_all B 1000)
  have kA : OrcOk P w0 (withG 40 (gWa 1000) OI) := wa_known B (OI_ok B) 1000 (wd_known (OI_ok B) 1000 (writer_all B 1000)) rfl rfl rfl
  have kM : OrcOk P w0 (withG 11 (gMay N) (withG 40 (gWa 1000) OI)) := may_known kA N (may_all B N)
  have kW : OrcOk P w0 (withG 9 (gWr N) (withG 8 gOk noO)) := kOk.withG orc0_ext (known0 true (fun x => by simp only [encWr, pureL_cons, encD_pure, pureA_bool, pureL_nil, Bool.and_self]) (fun x => rfl) fun x hx => by
    obtain ⟨t, q1, q2, q3, q4, q5, q6⟩ := hx
    have := write_sc B kM rfl rfl rfl rfl rfl rfl rfl rfl rfl x.1 x.2 t q1 q2 q3 q4 q5 q6
    simp only [q1, Option.getD_some]
    exact ⟨_, this⟩)
  have kS : OrcOk P w0 (withG 13 (gSame N) (withG 9 (gWr N) (withG 8 gOk noO))) := same_known kW N (same_all B N)
  have kI : OrcOk P w0 (withG 19 gItm (withG 13 (gSame N) (withG 9 (gWr N) (withG 8 gOk noO)))) := itm_known B kS rfl
  have kR : OrcOk P w0 (withG 15 gRead (withG 19 gItm (withG 13 (gSame N) (withG 9 (gWr N) (withG 8 gOk noO))))) := kI.withG orc0_ext (known0 true (fun x => by simp only [encSrc, pureL_cons, pureA_lst, pureL_nil, Bool.and_self]) (fun x => by
    unfold rdF
    cases readF (lexS 0 x) 1000000 [] ⟨0, 0, 0⟩ with
    | none => rfl
    | some r => simp only [pureA_tup, pureL_cons, pureA_lst, pureA_agg, pureA_int, pureL_nil, Bool.and_self]) fun x hx => by
    obtain ⟨q1, q2, ⟨l, er, fp⟩, q3⟩ := hx
    have := read_sc B kR0 rfl rfl x q1 q2 l er fp q3
    simp only [rdF, q3]
    exact ⟨_, this⟩)
  exact deep_sc B kR rfl rfl rfl rfl rfl a b ha hb hF
open T
open Go.RowKit (Below)
set_option maxRecDepth 100000
theorem sc_calls {P : Program} {w : World} {f : Nat} {args : List AV} {v : AV} {xs : List Value} (h : SC P w f args (H [] 0 true) v (H [] 0 true)) (hx : VRL ⟨fun _ => none, fun _ _ => none⟩ args xs) :
    Calls P f xs.toArray w fun e w' => ∃ φ' x, e = .returned x ∧ VR φ' v x ∧ Below w.heap.size w w' := by
  have hg : (H [] 0 true).get = s0.get := by
    funext i
    rw [H_get]
    rfl
  have r := rel_s0 (P := P) w
  rw [← hg] at r
  refine callsIn_wide.1 (CallsIn.mono (h.2 _ w xs r (H_wf _ _ _) (fun _ _ => rfl) hx Fence.wide 0 ⟨fun _ => trivial, rfl⟩) ?_)
  rintro e w' ⟨φ', x, rfl, k1, k2⟩
  exact ⟨φ', x, rfl, k2, k1.rel.base⟩
theorem law_calls {P : Program} {w : World} (B : Bx P w) (a b : Nat) (ha : a < 65536) (hb : b < 65536) :
    Calls P 6 #[.int .u16 (.ofNat a), .int .u16 (.ofNat b)] w fun e w' => e = .returned (.bool true) ∧ Below w.heap.size w w' := by
  have := sc_calls (xs := [.int .u16 (.ofNat a), .int .u16 (.ofNat b)]) (law_sc B a b ha hb) (by simp [VRL, VR])
  refine Calls.mono this ?_
  rintro e w' ⟨φ', x, rfl, h1, h2⟩
  simp only [VR] at h1
  exact ⟨by rw [h1], h2⟩
end Go.Proofs.YthcmnajcjapjbaaGreatDoor.Ev

/- pennant/pennantlaw19.ClosureConverts returns true, whatever it is called with of bulk at most 1048576, in whatever memory, on every schedule, and changes nothing that was there: the given card. Its conditions are the card's own: the bound, and that the package-level variables that it lists hold what the program's text lays. -/
import Derived.Test.YtbddpjboppmnfaaGreatDoorTie
import Derived.Test.YtbddpjboppmnfaaGreatDoorCards
import Derived.ProofKit
import Derived.OpenShut
import Derived.LaidMore
import Derived.Lay
import Derived.Carry
import Derived.Deep.DeepHandedRow
import Derived.Deep.DeepWitnessRowRef
import Derived.Test.YtbddpjboppmnfaaGreatDoorGoodClosureConverts
import Derived.Test.YtbddpjboppmnfaaGreatDoorWH
import Derived.Test.YtbddpjboppmnfaaGreatDoorSrtP
namespace Go.Proofs.YtbddpjboppmnfaaGreatDoor
open Go.ChangeShapes Go.WideShapes Go.ChangeAt Go.RowKit
set_option maxRecDepth 100000

theorem own:ownKnob Tryz.prog.godebug=none:=by as_aux_lemma=>kernel_rfl
theorem mixed:Tryz.prog.follows .mixedOrders=true:=by as_aux_lemma=>kernel_rfl
theorem laidOut:laidOutB Tryz.prog=true:=by as_aux_lemma=>kernel_rfl

theorem one_le{H:Type}(d:DataW H):1<=Rows.uptoBulk d:=by
  cases d with
  |lit l=>cases l<;>simp[Rows.uptoBulk]
  |nil=>simp[Rows.uptoBulk]
  |ptr d=>simp[Rows.uptoBulk]
  |slice elems spare=>simp[Rows.uptoBulk]
  |agg parts=>simp[Rows.uptoBulk]
  |iface t d=>simp[Rows.uptoBulk]
  |map entries=>simp[Rows.uptoBulk]
  |held h=>simp[Rows.uptoBulk]
theorem part_le{H:Type}{d:DataW H}{l:List (DataW H)}(h:d∈l):Rows.uptoBulk d<=Rows.uptoBulkAll l:=by
  induction l with
  |nil=>cases h
  | cons x r ih=>
    simp only[Rows.uptoBulkAll]
    cases List.mem_cons.1 h with
    |inl e=>subst e;omega
    |inr e=>have:=ih e;omega
theorem length_le{H:Type}(l:List (DataW H)):l.length<=Rows.uptoBulkAll l:=by
  induction l with
  |nil=>simp[Rows.uptoBulkAll]
  |cons x r ih=>have:=one_le x;simp only[Rows.uptoBulkAll,List.length_cons];omega
theorem mu(H:Type):Ev.Mu H Rows.uptoBulk:=
  ⟨fun b=>by simp[Rows.uptoBulk],λes sp=>⟨λd hd=>by have:=part_le hd;simp only[Rows.uptoBulk];omega,by have:=length_le es;simp only[Rows.uptoBulk];omega⟩,
    λps d hd=>by have:=part_le hd;simp only[Rows.uptoBulk];omega⟩
theorem closureConverts_wit_a(os:Os):(World.holding Tryz.prog os ⟨#[],#[],[]⟩).layFits Tryz.prog Rows.closureConvertsUptoRow.laid []=true:=by as_aux_lemma=>kernel_rfl
theorem closureConverts_wit_b(os:Os):(World.holding Tryz.prog os ⟨#[],#[],[]⟩).layIfaces Tryz.prog Rows.closureConvertsUptoRow.laid (World.laidAll Tryz.prog os Rows.closureConvertsUptoRow.laid)=true:=by as_aux_lemma=>kernel_rfl
theorem closureConverts_wit_c(os:Os):laidMet Tryz.prog Rows.closureConvertsUptoRow.laid ((World.laidAll Tryz.prog os Rows.closureConvertsUptoRow.laid).forCall (λ_ _=>0) ⟨#[],#[],[]⟩).memory:=laidMet_laidAll #[] (closureConverts_wit_a os) (closureConverts_wit_b os)
theorem closureConverts_wit(os:Os):laidMetH Tryz.prog Rows.closureConvertsUptoRow.laid ((World.laidAll Tryz.prog os Rows.closureConvertsUptoRow.laid).forCall (λ_ _=>0) ⟨#[],#[],[]⟩).memory:=by
  rw[MakeChecks.laidMetH_plain _ _ _ (by as_aux_lemma=>kernel_rfl)];exact closureConverts_wit_c os
def accR:List (Int×Int):=[(.ofNat 128,.ofNat 191),(.ofNat 160,.ofNat 191),(.ofNat 128,.ofNat 159),(.ofNat 144,.ofNat 191),(.ofNat 128,.ofNat 143),(.ofNat 0,.ofNat 0),(.ofNat 0,.ofNat 0),(.ofNat 0,.ofNat 0),(.ofNat 0,.ofNat 0),(.ofNat 0,.ofNat 0),(.ofNat 0,.ofNat 0),(.ofNat 0,.ofNat 0),(.ofNat 0,.ofNat 0),(.ofNat 0,.ofNat 0),(.ofNat 0,.ofNat 0),(.ofNat 0,.ofNat 0)]
def firstT:List Int:=(Ev.T.rl [(128,240),(66,241),(30,2),(1,19),(12,3),(1,35),(2,3),(1,52),(3,4),(1,68),(11,241)]).map .ofNat
theorem closureConverts_glob{W:World}(hL:laidMetH Tryz.prog Rows.closureConvertsUptoRow.laid W):Ev.qm Ev.T.env.globs W:=by
  rw[MakeChecks.laidMetH_plain _ _ _ (by as_aux_lemma=>kernel_rfl)]at hL
  obtain⟨ps,⟨g0,t0,cs0,f0,p0,q0,hg0,ht0,hv0,hd0,⟨g1,t1,cs1,f1,p1,q1,hg1,ht1,hv1,hd1,_,_⟩,_⟩,_⟩:=hL
  obtain rfl:=Option.some.inj ((show Tryz.prog.globalNamed "unicode/utf8.acceptRanges"=some 1 by as_aux_lemma=>kernel_rfl).symm.trans hg0)
  obtain rfl:=Option.some.inj ((show Tryz.prog.globalNamed "unicode/utf8.first"=some 0 by as_aux_lemma=>kernel_rfl).symm.trans hg1)
  obtain rfl:=Option.some.inj ((show (Tryz.prog.globals[1]?).map (·.type)=some 251 by as_aux_lemma=>kernel_rfl).symm.trans ht0)
  obtain rfl:=Option.some.inj ((show (Tryz.prog.globals[0]?).map (·.type)=some 248 by as_aux_lemma=>kernel_rfl).symm.trans ht1)
  have e0:cs0.toList=(accR.flatMap λv=>[v.1,v.2]).map (Value.int .u8 ·):=Ev.laid_pairs (vs:=accR) Tryz.underlying251 Tryz.underlying250 ⟨rfl,rfl⟩ ⟨rfl,rfl⟩ Tryz.underlying5 (by as_aux_lemma=>kernel_rfl) (by as_aux_lemma=>kernel_rfl) (by as_aux_lemma=>kernel_rfl) hd0
  have e1:cs1.toList=firstT.map (Value.int .u8 ·):=Ev.laid_ints (vs:=firstT) Tryz.underlying248 Tryz.underlying5 (by as_aux_lemma=>kernel_rfl) (by as_aux_lemma=>kernel_rfl) hd1
  have d0:=Ev.glob_of hg0 hv0 e0
  have d1:=Ev.glob_of hg1 hv1 e1
  refine Ev.globRel_of λi cs hi hne=>?_
  match i,hi with
  |0,hi=>cases hi;exact d1
  |1,hi=>cases hi;exact d0
  |2,hi=>cases hi;exact absurd rfl hne
  |n+3,hi=>cases hi
theorem srtOk:Ev.SrtOk Tryz.prog:=⟨⟨_,Tryz.func33,by as_aux_lemma=>kernel_rfl,by as_aux_lemma=>kernel_rfl⟩,Tryz.underlying3,λBm b nn D0 R w h1 h2 h3 h4 h5=>Tryz.sorted_keys Bm b nn D0 R w h1 h2 h3 h4 h5⟩

theorem closureConverts_lifted(os:Os)(started:os.Started)(H:Type)(enc:TypeId×Value->H)(F:Stop.Interp):
    ReturnsInHanded {} Tryz.checked os 3 .any ((Rows.OpenSpec.upto Rows.closureConvertsSpec).preRow enc Tryz.prog Tryz.f3 Rows.closureConvertsUptoRow.domain false Rows.closureConvertsUptoRow.laid) (((Rows.OpenSpec.upto Rows.closureConvertsSpec).at F).post enc Tryz.prog Tryz.f3 false true false false):=by
  have hx:DataW.whole enc Tryz.prog ((World.laidAll Tryz.prog os Rows.closureConvertsUptoRow.laid).forCall (λ_ _=>0) ⟨#[],#[.agg #[.slice none 0 0,.int .i64 0,.int .i64 0,.int .i64 0,.slice none 0 0]],[]⟩).memory Tryz.f3.params.toList Rows.closureConvertsSpec.vars false #[.agg #[.slice none 0 0,.int .i64 0,.int .i64 0,.int .i64 0,.slice none 0 0]].toList 8=some ([.agg [.nil,.lit (.int .i64 0),.lit (.int .i64 0),.lit (.int .i64 0),.nil]],[],[]):=by as_aux_lemma=>kernel_rfl
  refine returnsInHanded_of_row (C:=Tryz.checked) (s:=(Rows.OpenSpec.upto Rows.closureConvertsSpec)) own started (by as_aux_lemma=>kernel_rfl) Tryz.func3
    (witness_row_atRef (enc:=enc) (C:=Tryz.checked) false (World.laidAll Tryz.prog os Rows.closureConvertsUptoRow.laid) #[.agg #[.slice none 0 0,.int .i64 0,.int .i64 0,.int .i64 0,.slice none 0 0]] (World.laidAll_os _ _ _) (by as_aux_lemma=>kernel_rfl) (by as_aux_lemma=>kernel_rfl) (by as_aux_lemma=>kernel_rfl)
      (OpenSpec.preRow_of_cond 8 hx (by as_aux_lemma=>kernel_rfl) (λk hk=>by cases hk;kernel_rfl) (by as_aux_lemma=>kernel_rfl) (closureConverts_wit os))) ?_
  intro W base args ds gs before hval0 hW _ hcond _ hL _ _
  have hk:=hcond _ rfl
  have hval:∀(j:Nat) t v,Tryz.f3.params[j]? =some t->args[j]? =some v->Value.okWide Tryz.prog W .any base t v:=hval0
  have hW':=hW
  obtain⟨p,q,hA0,hV,rfl,_,_⟩:=hW
  have hA:DataW.TrodAll enc Tryz.prog W 0 (λ_=>true) true Tryz.f3.params.toList args.toList ds p:=hA0
  rw[Tryz.params3]at hA hval
  obtain⟨v0,d0,rfl,rfl,h0⟩:=trodAll_one hA
  obtain⟨rfl,rfl⟩:=trodVars_none hV
  obtain⟨c0,rfl,_⟩:=okWide_struct Tryz.underlying25 (hval 0 25 v0 rfl rfl)
  have hb:Rows.uptoBulk d0<=1048576:=by
    have:Rows.uptoBulkAll ([d0]++[])<=1048576:=by simpa [Rows.uptoSmall]using hk
    exact Nat.le_trans (part_le (List.Mem.head _)) this
  have Dt:Ev.DatumTy Tryz.prog 36 3 9 23 _:=⟨Tryz.underlying36,rfl,Tryz.underlying3,Tryz.underlying9,Tryz.underlying23,by as_aux_lemma=>kernel_rfl,by as_aux_lemma=>kernel_rfl,by as_aux_lemma=>kernel_rfl,by as_aux_lemma=>kernel_rfl⟩
  have Ct:Ev.CodeTy Tryz.prog 3 4 40 51 41 44 42 46 22 36 23 25 _ _ _ _:=⟨Tryz.underlying3,Tryz.underlying4,Tryz.underlying40,Tryz.underlying51,Tryz.underlying41,Tryz.underlying44,Tryz.underlying42,Tryz.underlying46,Tryz.underlying22,Tryz.underlying25,rfl,rfl,rfl,rfl,by as_aux_lemma=>kernel_rfl,by as_aux_lemma=>kernel_rfl,by as_aux_lemma=>kernel_rfl,by as_aux_lemma=>kernel_rfl,by as_aux_lemma=>kernel_rfl,by as_aux_lemma=>kernel_rfl,by as_aux_lemma=>kernel_rfl,by as_aux_lemma=>kernel_rfl,by as_aux_lemma=>kernel_rfl,by as_aux_lemma=>kernel_rfl⟩
  obtain⟨m0,t0⟩:=id h0
  obtain⟨cd,hc,r0⟩:=Ev.abs_code (mu H) (N:=1048576) (by decide) Dt Ct rfl t0 hb
  have hlt:∀x∈p++[],x.block<W.heap.size:=λx hx=>hW'.lt x hx
  refine(Ev.converts_calls ⟨mixed,closureConverts_glob hL,Ev.envOk_of Ev.T.tblOk⟩ srtOk hc r0).mono λe W' ⟨he,hw⟩=>?_
  subst he
  have m0:∀x∈p,x.block<W.heap.size:=λx hx=>hlt x (by simp[hx])
  refine⟨_,rfl,[d0],[],_,[],p,[],hW',trodAll_mk1 (shut_bool Tryz.underlying4 _),?_,rfl,hw.frame _,λh=>by cases h⟩
  exact trodAll_mk1 (Below.trod laidOut (by as_aux_lemma=>kernel_rfl) (of_decide_eq_true (by as_aux_lemma=>kernel_rfl)) h0 hw m0)

set_option maxHeartbeats 4000000 in
theorem closureConverts_holds:Rows.ClosureConvertsUptoSaid:=
  OpenClaim.holds_of_cond 3 Tryz.f3 rfl rfl rfl rfl rfl rfl rfl ⟨rfl,rfl,rfl,rfl,rfl⟩ rfl rfl rfl rfl rfl (by as_aux_lemma=>kernel_rfl) Tryz.func3 (by as_aux_lemma=>kernel_rfl)
    (of_decide_eq_true (by as_aux_lemma=>kernel_rfl)) (by unfold Func.isWrapper;first|(rw[if_pos (by as_aux_lemma=>decide+kernel)];kernel_rfl)|(rw[if_neg (by as_aux_lemma=>decide+kernel)];exact⟨rfl,rfl⟩))
    (λos started H enc _ F=>by rw[OpenClaim.pre_eq_preRow];exact closureConverts_lifted os started H enc F)
theorem closureConvertsUpto_card:Rows.ClosureConvertsUptoCardSaid:=
  Claim7.holds_tied_plain_at .later [] [.data,.pinned] true (true,"1b0c8041eb312074fe62918a786b82ba3dab95fe1f221aae3c49732bb25bac9f") false closureConverts_holds (λ_ h=>by cases h) (by as_aux_lemma=>kernel_rfl) (λ_ h=>by cases h) closureConvertsUpto_row_tie rfl ⟨rfl,rfl⟩ (by as_aux_lemma=>kernel_rfl) rfl
    (fun f fn hf hfn=>by
      obtain rfl:f=3:=Option.some.inj ((show Tryz.prog.funcNamed "pennant/pennantlaw19.ClosureConverts"=some 3 by as_aux_lemma=>kernel_rfl).symm.trans hf) |>.symm
      obtain rfl:fn=Tryz.f3:=(Option.some.inj (Tryz.func3.symm.trans hfn)).symm
      exact⟨by as_aux_lemma=>kernel_rfl,λj t ht=>by
        rw[Tryz.params3]at ht
        have hm:t∈[25]:=by simpa using Array.mem_of_getElem? ht
        have hall:([25].all λu=> !Tryz.prog.wantsStandIn u)=true:=by as_aux_lemma=>kernel_rfl
        exact(show Tryz.prog.wantsStandIn t=false by simpa using List.all_eq_true.1 hall t hm)⟩)
    (by as_aux_lemma=>kernel_rfl)
end Go.Proofs.YtbddpjboppmnfaaGreatDoor

/- Contracts of functions that ClosureConverts calls: what a call answers. No conditions. -/
import Derived.Test.YtbddpjboppmnfaaGreatDoorWG
import Derived.Test.YtbddpjboppmnfaaGreatDoorWD
import Derived.Test.YtbddpjboppmnfaaGreatDoorWA
import Derived.Lib.SlKeysI
import Derived.Maps.Range
import Derived.Test.YtbddpjboppmnfaaGreatDoorEvG
import Derived.ChangeArms
set_option linter.unusedSimpArgs false
set_option linter.unusedVariables false
set_option linter.defProp false
set_option maxHeartbeats 4000000
set_option linter.unusedSectionVars false
noncomputable section
open List renaming length → zR, length_map → zuJ, getElem?_eq_getElem → xj, map_cons → ye, map_nil → xA, getElem_mem → zuv, map_map → zuT
open Array renaming getElem?_toList → yd, length_toList → xd
open Bool renaming and_self → xZ
open Nat renaming le_trans → yb, zero_add → xB
namespace Go.Proofs.YtbddpjboppmnfaaGreatDoor.Ev
variable {cs:zE}{n:Nat}{P:Program}{w:World}
open T
set_option maxRecDepth 100000
def oG1:Orc:=withG 139 U1 (withG 161 CX oN0)
def oG2:Orc:=withG 141 tH (withG 140 Mb (withG 138 gTl oG1))
def oG3:Orc:=withG 145 Kz (withG 113 Vc (withG 110 I8 oG2))
def oG4(P:Program)(X:World):Orc:=withG 64 (j7 P X 64 u0 Jx GPl) (withG 142 (j7 P X 142 kh Ye GSm) (withG 164 (j7 P X 164 kh Ye GSm) oG3))
def oW1:Orc:=withG 147 oS (withG 66 Xe (withG 132 Py noO))
def oW2:Orc:=withG 89 bO (withG 118 oQ oW1)
def oG5(P:Program)(X:World):Orc:=withG 46 Md (oG4 P X)
def oB1:Orc:=withG 71 Xf noO
def oF(P:Program)(X:World):Orc:=withG 33 kU (withG 30 (We P X 301) (withG 31 I7 (withG 48 (Vb 900000000) oB1)))
def oH(P:Program)(X:World):Orc:=withG 12 (zyh P X 301) (withG 11 (oN P X 301) noO)
def rA:Orc:=withG 103 gIs (withG 168 I4 (withG 167 fB (withG 102 JS (withG 115 Vd (withG 29 Vd noO)))))
def rB:Orc:=withG 101 Wd (withG 125 ft (withG 149 I6 rA))
def rD:Orc:=withG 129 Vc (withG 155 fw (withG 76 (U0 301) rB))
def rE1(P:Program)(X:World):Orc:=withG 126 (j7 P X 126 kT pt GPs) (withG 150 (j7 P X 150 Zg pZ GNm) (withG 169 (j7 P X 169 Zh KR GTr) rD))
def rE2(P:Program)(X:World):Orc:=withG 151 (j7 P X 151 pH KT GBo) (withG 170 (j7 P X 170 ZI Lx pJ) (withG 178 (j7 P X 178 lu VG pJ) (rE1 P X)))
def rE3(P:Program)(X:World):Orc:=withG 154 (j7 P X 154 ZJ KU GBo) (withG 152 (j7 P X 152 pG pZ pJ) (rE2 P X))
def rF(P:Program)(X:World):Orc:=withG 79 GX (withG 105 bQ (withG 132 Py (withG 56 oP (withG 55 Qe (rE3 P X)))))
def rG:Orc:=withG 60 Ma (withG 58 ZM (withG 80 tG (withG 41 fx noO)))
def rH(P:Program)(X:World):Orc:=withG 42 Mc (withG 39 (We P X 301) (withG 58 ZM noO))
def rK(P:Program)(X:World):Orc:=withG 24 (I9 P X 301) (withG 23 (bP P X 301) noO)
def oK(P:Program)(X:World):Orc:=withG 22 bN (withG 18 bM (withG 20 (gCl (TmP 900000001) tmX) (oH P X)))
def oL(P:Program)(X:World):Orc:=withG 6 I3 (withG 8 (oR P X 301) (withG 7 (I5 P X 301) (withG 115 Vd (withG 29 Vd noO))))
section
variable {P:Program}{X:World}(B:Bx P X)
include B
def zxD:OrcOk P X oG1:=by
 have h0:=zxH B;have h1:OrcOk P X (withG 161 CX _):=h0.withG pn (Dk B h0);exact kn h1 Cg (λx=>by simp only[uP,qE]) λx hx=>Rb B h1 x hx
def zxE:OrcOk P X oG2:=by
 have h0:=zxD B;have h1:OrcOk P X (withG 138 gTl _):=kn h0 (λ_=>rfl) (λ_=>rfl) λx hx=>zvr B h0 rfl rfl rfl x hx;have h2:OrcOk P X (withG 140 Mb _):=kn h1 eM (λx=>by simp only[uP,qE]) λx hx=>zx2 B h1 x hx
 exact kn h2 nW (λx=>X5 _ _) λx hx=>zzG B h2 rfl x hx
def MX:OrcOk P X oG3:=by
 have h0:=zxE B;have h1:OrcOk P X (withG 110 I8 _):=kn h0 gX (λx=>by simp only[rp,uQ,wR,X5,vh,wU,xZ]) λx hx=>zxM B h0 rfl rfl rfl rfl x hx.1 hx.2
 have h2:OrcOk P X (withG 113 Vc _):=kn h1 gX (λx=>gM _) λx hx=>FC B h1 rfl x hx;exact kn h2 nZ gM λx hx=>BN B h2 x hx
theorem zyy:jy P X 164 kh Ye GSm:=OL B (MX B) rfl rfl rfl
def M4:OrcOk P X (withG 164 (j7 P X 164 kh Ye GSm) oG3):=ke (MX B) Gy (zyy B)
def zyf:jy P X 142 kh Ye GSm:=zxm B (M4 B) rfl (zyy B)
theorem zyr:jy P X 64 u0 Jx GPl:=NC B (jO P X) rfl rfl rfl rfl
def zxF:OrcOk P X (oG4 P X):=ke (ke (M4 B) Gy (zyf B)) js (zyr B)
def zxI:OrcOk P X oW2:=by
 have h0:=jO P X;have h1:OrcOk P X (withG 132 Py _):=kn h0 YW (λ_=>rfl) λx _=>AJ B h0 x;have h2:OrcOk P X (withG 66 Xe _):=kn h1 Gz (λ_=>rfl) λx _=>E4 B h1 x;have h3:OrcOk P X (withG 147 oS _):=kn h2 YW (λ_=>rfl) λx _=>OV B h2 rfl x;have h4:OrcOk P X (withG 118 oQ _):=kn h3 X4 (λ_=>rfl) λx _=>NE B h3 rfl rfl x;exact kn h4 X4 (λ_=>rfl) λx hx=>CP B h4 rfl rfl x hx
def zxG:OrcOk P X (oG5 P X):=kn (zxF B) uZ (λ_=>rfl) λx hx=>Rr B (zxI B) rfl rfl rfl rfl rfl rfl rfl rfl x hx
def zwU(hS:vW P X 33 kU):OrcOk P X (oF P X):=by
 have h0:OrcOk P X (withG 48 (Vb 900000000) oB1):=TL B 900000000 J;have h1:OrcOk P X (withG 31 I7 _):=kn h0 uZ (λ_=>rfl) λx hx=>TX B h0 rfl rfl x hx;have h2:OrcOk P X (withG 30 (We P X 301) _):=kn h1 uZ (λ_=>rfl) λx hx=>FX B (zxG B) ⟨⟨rfl,rfl,rfl,rfl,rfl,rfl,rfl,rfl,rfl,rfl,rfl,rfl,rfl,rfl,rfl,rfl,rfl,zyf B⟩,rfl,rfl,rfl,rfl,zyr B,J⟩ rfl x hx;refine h2.withG (λargs s v s' h=>?_) hS;unfold kU at h;split at h
 .cases h;exact Ext.refl _
 .cases h
def zwV(hS:vW P X 33 kU):OrcOk P X (oH P X):=by
 have h0:=zwU B hS;have h1:OrcOk P X (withG 11 (oN P X 301) noO):=kn (jO P X) uZ (λ_=>rfl) λx hx=>FD B h0 rfl rfl rfl rfl x hx;exact kn h1 uZ (λx=>by simp only[vT,qE]) λx hx=>Te B h0 rfl rfl rfl rfl rfl x hx
def zw9:OrcOk P X rA:=by
 have h0:=jO P X;have h1:=PC B h0;have h6:OrcOk P X (withG 102 JS _):=ZY h1 gX (λ_=>rfl) λx hx=>Dp B h0 x hx.1 hx.2;have h9:OrcOk P X (withG 167 fB _):=ZY h6 Yk (λ_=>rfl) λx hx=>zzJ B h0 x hx.1 hx.2.1 hx.2.2;have h10:OrcOk P X (withG 168 I4 _):=ZY h9 (λ_=>rfl) (λ_=>Di _) λx hx=>zyL B h0 x hx;exact ZY h10 sX (λ_=>rfl) λx _=>NU B h0 x
def zyt:OrcOk P X rB:=by
 have h0:=zw9 B;have h5:OrcOk P X (withG 149 I6 _):=ZY h0 nM (λ_=>Da _) λx hx=>zxq B h0 rfl rfl rfl x.1 x.2 hx.1 hx.2.1 hx.2.2;have h2:OrcOk P X (withG 125 ft _):=ZY h5 Yk mN λx hx=>Rx B h5 rfl x hx.1 hx.2;exact ZY h2 gX JL λx hx=>BO B h2 rfl x hx.1 hx.2
def AN:∀(N:Nat),N<=1100000->OrcOk P X (withG 76 (U0 N) rB)
 |0,_=>ZY (zyt B) js (λ_=>rfl) λx hx=>absurd hx.2 (Nat.not_lt_zero _)
 |N+1,h=>by
  have ih:=AN N J;exact ZY (zyt B) js (λ_=>rfl) λx hx=>DM B ih rfl rfl rfl rfl rfl J x hx.1 hx.2
def zva:OrcOk P X rD:=by
 have h0:OrcOk P X (withG 76 (U0 301) rB):=AN B 301 J;have h1:OrcOk P X (withG 155 fw _):=kn h0 nX gM λx hx=>T9 B h0 x hx;exact kn h1 gX (λx=>gM _) λx hx=>DI B h1 rfl x hx
def Oq:jy P X 169 Zh KR GTr:=Os B (jO P X)
def NO:OrcOk P X (withG 169 (j7 P X 169 Zh KR GTr) rD):=ke (zva B) nR (Oq B)
def Oa:jy P X 150 Zg pZ GNm:=N9 B (NO B) rfl (Oq B)
def NL:OrcOk P X (withG 150 (j7 P X 150 Zg pZ GNm) (withG 169 (j7 P X 169 Zh KR GTr) rD)):=ke (NO B) nN (Oa B)
def rW:jy P X 126 kT pt GPs:=DZ B (NL B) rfl (Oa B)
def zxP:OrcOk P X (rE1 P X):=ke (NL B) gX (rW B)
def Oe:jy P X 178 lu VG pJ:=DW B (jO P X)
def NM:OrcOk P X (withG 178 (j7 P X 178 lu VG pJ) (rE1 P X)):=ke (zxP B) GA (Oe B)
def NS:jy P X 170 ZI Lx pJ:=T8 B (NM B) rfl (Oe B)
def NK:OrcOk P X (withG 170 (j7 P X 170 ZI Lx pJ) (withG 178 (j7 P X 178 lu VG pJ) (rE1 P X))):=ke (NM B) nT (NS B)
def Ov:jy P X 151 pH KT GBo:=r8 B (NK B) rfl (rW B) rfl (NS B)
def Om:jy P X 152 pG pZ pJ:=D4 B (jO P X)
def On:jy P X 154 ZJ KU GBo:=D3 B (jO P X)
def zxQ:OrcOk P X (rE3 P X):=ke (ke (ke (NK B) nU (Ov B)) nS (Om B)) nY (On B)
def zvb:OrcOk P X (rF P X):=by
 have h0:=zxQ B;have h1:OrcOk P X (withG 55 Qe _):=kn h0 Gz (λ_=>rfl) λx _=>DG B h0 x;have h2:OrcOk P X (withG 56 oP _):=kn h1 Q8 (λ_=>rfl) λx hx=>Oc B h1 rfl x hx;have h3:OrcOk P X (withG 132 Py _):=kn h2 YW (λ_=>rfl) λx _=>AJ B h2 x;have h4:OrcOk P X (withG 105 bQ _):=kn h3 YW (λ_=>rfl) λx _=>D5 B h3 rfl x;exact kn h4 X4 (λ_=>rfl) λx hx=>rS B h4 rfl rfl x hx
def zvc:OrcOk P X rG:=by
 have h0:=jO P X;have h1:OrcOk P X (withG 41 fx _):=kn h0 Q8 (λ_=>rfl) λx hx=>zzg B h0 x hx;have h2:OrcOk P X (withG 80 tG _):=kn h1 Q8 (λ_=>jn _) λx hx=>zzj B h1 rfl x hx;have h3:OrcOk P X (withG 58 ZM _):=kn h2 X6 (λ_=>rfl) λx _=>af B h2 x;exact kn h3 GA (λ_=>rfl) λx hx=>Oj B h3 x hx
def zvd:OrcOk P X (rH P X):=by
 have h0:=jO P X;have h3:OrcOk P X (withG 58 ZM noO):=kn h0 X6 (λ_=>rfl) λx _=>af B h0 x;have h4:OrcOk P X (withG 39 (We P X 301) _):=kn h3 uZ (λ_=>rfl) λx hx=>DL B (zvb B) ⟨⟨rfl,rfl,rfl,rfl,rfl,rfl,rfl,rfl,rfl,rfl,rfl,On B,rfl,rW B,rfl,Ov B,rfl,Om B⟩,rfl,rfl,rfl,J⟩ rfl rfl rfl rfl x hx;exact kn h4 uZ (λ_=>Hc _) λx hx=>Ol B (zvc B) rfl rfl rfl rfl rfl x hx
def zve:OrcOk P X (rK P X):=by
 have h0:=zvd B;have h1:OrcOk P X (withG 23 (bP P X 301) noO):=kn (jO P X) uZ (λ_=>rfl) λx hx=>DJ B h0 rfl rfl rfl rfl rfl x hx;exact kn h1 uZ (λ_=>Hc _) λx hx=>N3 B h0 rfl rfl x hx
def zwW(hS:vW P X 33 kU):OrcOk P X (oK P X):=by
 have h0:=jO P X;have h1:OrcOk P X (withG 37 (gCl mJ cD) noO):=h0.withG bK (Du B h0 rfl);have h2:=(zwV B hS).withG bK (HR B h1 rfl rfl rfl 900000001);have h3:OrcOk P X (withG 18 bM _):=kn h2 eJ Hb λx hx=>BL B h2 x hx;exact kn h3 nQ jn λx hx=>BM B h3 x hx
def zwX(hS:vW P X 33 kU):OrcOk P X (oL P X):=by
 have h0:=PC B (jO P X);have h1:OrcOk P X (withG 7 (I5 P X 301) _):=kn h0 uZ (λx=>by simp only[uQ,wR,uF,gS,vh,wU,xZ]) λx hx=>Sb B (zwW B hS) rfl rfl rfl rfl rfl rfl rfl x hx
 have h2:OrcOk P X (withG 8 (oR P X 301) _):=kn h1 uZ (λx=>by simp only[uQ,wR,uF,gS,vh,wU,xZ]) λx hx=>NT B (zve B) rfl rfl rfl rfl rfl rfl rfl x hx
 exact Bp B h2
def zxv(hS:vW P X 33 kU){c:Cd}(hc:LgPre c):∃s1,SC P X 3 (vo c) (s00 0 true) (.bool true) s1:=
 ew B (zwX B hS) rfl rfl rfl rfl rfl rfl rfl rfl rfl rfl rfl hc
end
open Go.RowKit (Below)
open Go.WideElems (rd rg rg_of)
def Wide.all{F:Fence}(hF:Wide F)(P:Program)(m:Machine):m.fenced P F:=λg _=>⟨(λh=>by rw[hF.alive]at h;cases h),.inl (hF.fn _),λf _=>hF.fn f,(λd hd=>by rw[hF.depth]at hd;cases hd)⟩
def H9{F:Fence}(hF:Wide F){f:FuncId}{args:zr}{R:Ending->World->Prop}(h:Calls P f args w R):CallsIn F n P f args w R:=
 ⟨hF.fn f,λcs _=>by
  obtain⟨e,w',fr,r,s,x⟩:=h cs;refine⟨e,w',fr,r,?_,x⟩;cases e with
  |returned v=>exact(StepsIn.of_steps s).mono λm _=>hF.all P m
  |panicked chain=>exact(StepsIn.of_steps s).mono λm _=>hF.all P m
  |outgrown=>exact s⟩
structure SrtOk(P:Program):Prop where
 fn:∃fn,P.funcs[33]? =some fn/\fn.body.isSome=true/\(fn.name== "runtime.NumGoroutine")=false
 key:P.underlying 3=some (.int .i64)
 ok:∀(Bm b nn:Nat) (D0:DataW Unit) (R:Value->Option (DataW Unit×List MemPlace)) (w:World),Bm<w.heap.size->w.cell? ⟨Bm,0,none⟩=some (.map (some b))->w.ownsMap P 3 R b nn D0->Maps.size D0<=maxLen->Maps.size D0*8<=140737488355328->Calls P 33 #[.func (.func 51) #[] #[.pointer (some ⟨Bm,0,none⟩)]] w λe w'=>∃(v:Value) (ss:zw),e=.returned v/\ss.Perm (intKeys D0)/\w'.ownsRow w.heap.size 3 1 v (zR ss) ((ss.mergeSort (λx y=>decide (x<=y))).map encZ)/\Below w.heap.size w w'
def fA{args:zA}{s s':U}{v:Z}(h:kU args s=some (v,s')):∃x,SrPre x args s/\v=qt (q9 x.2.2)/\s'=s:=by
 by_cases hx:∃x,SrPre x args s
 .obtain⟨x,hx⟩:=hx;rw[GY hx]at h;cases h;exact⟨x,hx,rfl,rfl⟩
 .unfold kU at h;rw[dif_neg hx]at h;cases h
def rdM(_:Value):Option (DataW Unit×List MemPlace):=some (.nil,[])
def aH{I:Phi}:∀{l:zw} {es:zF},URel I (uS l) es->es.map (·.key)=l.map (Value.int .i64)
 |[],_,h=>by simp only[uS,xA,URel]at h;rw[h];rfl
 |x::r,_,h=>by
  simp only[uS,ye,URel]at h;obtain⟨e,es',rfl,h1,_,h3⟩:=h;rw[ye,ye,h1,aH (l:=r) h3]
def My{k:TypeId}(hk:P.underlying k=some (.int .i64)){x:Int}(hx:0<=x/\x< .ofNat 9223372036854775808):keyOf P k (.int .i64 x)=some (.int .i64 x):=by
 have hw:(Lit.int .i64 x).wf=true:=by
  simp only[Lit.wf,Bool.and_eq_true,hZ];constructor
  .have:(-9223372036854775808:Int)<=0:=by decide
   exact Int.le_trans this hx.1
  .have:=hx.2;have e:(Int.ofNat 9223372036854775808)=9223372036854775807+1:=by decide
   rw[e]at this;exact Int.lt_add_one_iff.1 this
 simp[keyOf,hk,mapKey,hw]
def Ef{X:World}{I:Phi}{s:U}{w':World}(r:Rel P X I s.get w)(hb:Below w.heap.size w w'):Step P X I s w ⟨I.m,(I.full w.heap.size w').z⟩ s w':=by
 have rb:=r.below hb;have hz:∀b o v,I.z b o=some v->(I.full w.heap.size w').z b o=some v:=bI (s:=s) rb _;have hsub:Sub I ⟨I.m,(I.full w.heap.size w').z⟩:=⟨λ_ _ h=>h,hz⟩;have hlt:∀b i,b<w.heap.size->(I.full w.heap.size w').z b i=I.z b i:=λb i h=>by
  show (if w.heap.size<=b then _ else _)=_;rw[wx J]
 refine⟨Ext.refl s,⟨rb.base,λY o ho=>?_,rb.rng,rb.old,rb.inj,λb o v h=>?_,λY o B ho hB=>?_⟩,λ_ _=>rfl,hb.size,λb h _=>hb.block b h,λY _ h1 h2=>absurd h2 J,hz,λb o v h=>?_⟩
 .obtain⟨B,hB,q⟩:=r.obj Y o ho;exact⟨B,hB,q.keep hsub (hb.block B.b (r.rng Y B hB))⟩
 .have h':(if w.heap.size<=b then (match w'.heap[b]? with
   |some (.cells c _ _)=>c[o]?
   |_=>none)else I.z b o)=some v:=h
  split at h'
  .split at h'
   .rename_i c e fr hw;exact⟨c,e,fr,hw,h'⟩
   .cases h'
  .exact rb.frz b o v h'
 .exact(r.sep Y o B ho hB).congr λi=>hlt B.b i (r.rng Y B hB)
 .by_cases hlt2:b<w.heap.size
  .have h':(I.full w.heap.size w').z b o=some v:=h;rw[hlt b o hlt2]at h';exact .inl h'
  .exact .inr (.inl J)
def mF(I:Phi):∀l:zw,VRL I (wo wN l) (l.map encZ)
 |[]=>rfl
 |x::r=>by
  simp only[wo,wN,List.cons_append,List.nil_append,ye,VRL];exact⟨_,_,rfl,by simp only[VR],mF I r⟩
def cT{X:World}(h:SrtOk P):vW P X 33 kU:=by
 intro args s v s' hg;obtain⟨⟨p,m,l⟩,hx,rfl,rfl⟩:=fA hg;refine⟨h.fn,λI w xs r hwf hf hxs F n hF=>?_⟩;rw[hx.args]at hxs;obtain⟨B,hB,hbl⟩:=r.obj p _ hx.row;simp only[ObjRel]at hbl;obtain⟨c,fr,hc,hsz,hle,hext,hcells,_⟩:=hbl;obtain⟨h1,h0⟩:=hext trivial;obtain⟨Bm,hBm,hm⟩:=r.obj m _ hx.map;simp only[ObjRel]at hm;obtain⟨ents,clk,hmh,lst,hperm,hu,hnd,hbn,hbc⟩:=hm;have hkeys:=aH hu;have hlen:ents.size=zR l:=by
  have:=congrArg zR hkeys;rw[zuJ,zuJ]at this;rw[<-this,<-xd,hperm.length_eq]
 have hkp:(ents.toList.map (·.key)).Perm (l.map (Value.int .i64)):=by rw[<-hkeys];exact(hperm.map _).symm
 have hrd:∀x∈ents.toList,∃y:Int,y∈l/\x.key=.int .i64 y:=λx hxm=>by
  have:=hkp.mem_iff.1 (List.mem_map.2 ⟨x,hxm,rfl⟩);obtain⟨y,hy,e⟩:=List.mem_map.1 this;exact⟨y,hy,e.symm⟩
 have hrd2:∀x∈ents.toList,∃y:Int,x.key=.int .i64 y/\rd P 3 rdM x=some (.int .i64 y,.nil):=λx hxm=>by
  obtain⟨y,hy,e⟩:=hrd x hxm;exact⟨y,e,by unfold rd;rw[e,My h.key (hx.rng y hy)];rfl⟩
 have hown:w.ownsMap P 3 rdM Bm.b ents.size (.map ((ents.toList.map (rg P 3 rdM)).foldr DataW.insert [])):=by
  refine⟨ents,clk,hmh,⟨by rw[hlen];have:=hx.len;simp only at this;unfold maxLen;omega,⟨λx hxm=>hbc x (hperm.mem_iff.2 hxm),((hperm.map (·.born)).nodup_iff).1 hbn,?_⟩,λx hxm=>?_⟩,Nat.le_refl _,rfl⟩
  .rw[hkp.nodup_iff];exact List.pairwise_map.2 (hx.nd.imp λhab e=>hab (by simpa using e))
  .obtain⟨y,_,e⟩:=hrd2 x hxm;exact⟨_,e⟩
 have hik:(intKeys (.map ((ents.toList.map (rg P 3 rdM)).foldr DataW.insert []))).Perm l:=by
  show (((ents.toList.map (rg P 3 rdM)).foldr DataW.insert []).map λp=>intOf p.1).Perm l;refine((Go.WideShapes.sorted_perm _).map _).trans ?_;rw[zuT];have e:ents.toList.map ((λp:Lit×DataW Unit=>intOf p.1) ∘ rg P 3 rdM)=(ents.toList.map (·.key)).map (λv=>match v with|.int _ a=>a|_=>0):=by
   rw[zuT];refine List.map_congr_left λx hxm=>?_;obtain⟨y,e1,e2⟩:=hrd2 x hxm;simp only[Function.comp,rg_of e2,e1];rfl
  rw[e];refine(hkp.map _).trans ?_;rw[zuT];have:((λv:Value=>match v with|.int _ a=>a|_=>(0:Int)) ∘ Value.int .i64)=Y:=rfl
  rw[this];exact List.Perm.of_eq (List.map_id l)
 have hsz2:Maps.size (DataW.map (H:=Unit) ((ents.toList.map (rg P 3 rdM)).foldr DataW.insert []))=zR l:=by
  rw[Maps.size_eq,(Go.WideShapes.sorted_perm _).length_eq,zuJ,xd,hlen]
 rw[h0,List.drop_zero,List.length_singleton]at hcells;simp only[VRL,VR]at hcells;obtain⟨y,ys,hy,⟨Bm',hBm',rfl⟩,rfl⟩:=hcells;rw[hBm]at hBm';cases hBm';have hcell:w.cell? ⟨B.b,0,none⟩=some (.map (some Bm.b)):=by
  have h3:c.toList[0]? =some (.map (some Bm.b)):=by
   have:=congrArg (·[0]?) hy
   simpa using this
  unfold World.cell?;rw[hc];show c[0]? =_;rw[<-yd];exact h3
 simp only[VRL,VR]at hxs;obtain⟨a,az,rfl,⟨us,vs,rfl,rfl,q,qs,rfl,⟨B',hB',rfl⟩,rfl⟩,rfl⟩:=hxs;rw[hB]at hB';cases hB';rw[h0,xB];have hxl:=hx.len;simp only at hxl;refine(H9 hF (h.ok B.b Bm.b ents.size _ rdM w (r.rng p B hB) hcell hown (by rw[hsz2];unfold maxLen;omega) (by rw[hsz2];omega))).mono ?_
 rintro e w' ⟨v,ss,rfl,hp,hrow,hb⟩
 have hss:ss.mergeSort (λx y=>decide (x<=y))=q9 l:=mergeSort_of_perm_i (hp.trans hik);have hsl:zR ss=zR l:=(hp.trans hik).length_eq;rw[hss,hsl]at hrow;refine⟨_,v,rfl,Ef r hb,?_⟩;have hp2:wL (wo wN (q9 l))=true:=Wb _;have hl2:(q9 l).length=zR l:=Qr l;obtain⟨_,⟨rfl,hz⟩|⟨g,cap,cur,rfl,hg1,hg2,hg3,_,hg5,hg6⟩⟩:=hrow
 .have:l=[]:=List.eq_nil_of_length_eq_zero hz;subst this;simp only[qt,VR];exact⟨hp2,.inl ⟨by rw[hl2];rfl,_,rfl⟩⟩
 .simp only[qt,VR];refine⟨hp2,.inr ⟨g,0,cap,(q9 l).map encZ,by rw[hl2],(λh=>by cases h),(by rw[hl2];exact hg3),?_,mF _ _⟩⟩
  refine ZC.of λi y hi=>?_;show (if w.heap.size<=g then _ else _)=_;rw[wH hg1,hg2];show cur[0+i]? =_;rw[<-hg6,Nat.mul_one]at hi;rw[xB,<-yd];rw[List.getElem?_take]at hi;split at hi
  .exact hi
  .cases hi
structure Mu(H0:Type)(μ:DataW H0->Nat):Prop where
 str:∀b:List UInt8,zR b<=μ (.lit (.string b))
 sl:∀es sp:List (DataW H0),(∀d∈es,μ d<=μ (.slice es sp))/\zR es<=μ (.slice es sp)
 ag:∀ps:List (DataW H0),∀d∈ps,μ d<=μ (.agg ps)
section
variable {H0:Type}{enc:TypeId×Value->H0}{P:Program}{W:World}{sp:Nat->Bool}{held:Bool}{tD tI tS tK tE:TypeId}{fs:Array Field}{α:Type}{f:α->zA}{k N:Nat}{μ:DataW H0->Nat}
def KY{a:Addr}{n:Nat}(h0:0<k)(hk:P.cellsOf tE=k)(hsp:a.spot=none)
  (ih:∀cs x,DataW.trod enc P W 0 sp held n tE cs=some x->μ x.1<=N->∃d,VRL (Jj W) (f d) cs):
  ∀(len:Nat),(∀i,i<len->∃x,(W.cells? 0 (a.add (i*k)) k).bind (DataW.trod enc P W 0 sp held n tE)=some x/\μ x.1<=N)->
   ∃ds ys,zR ds=len/\zR ys=len*k/\VRL (Jj W) (wo f ds) ys/\∀i y,ys[i]? =some y->(Jj W).z a.block (a.off+i)=some y
 |0,_=>⟨[],[],rfl,by simp,VRL.nil _,λi y h=>by simp at h⟩
 | len+1,h=>by
  obtain⟨ds,ys,h1,h2,h3,h4⟩:=KY h0 hk hsp ih len (λi hi=>h i J);obtain⟨x,hx,hm⟩:=h len J;cases hc:W.cells? 0 (a.add (len*k)) k with
  |none=>rw[hc]at hx;cases hx
  | some cs=>
   rw[hc]at hx;obtain⟨d,hd⟩:=ih cs x hx hm;obtain⟨_,hl,hg⟩:=World.cells?_some hc;refine⟨ds++[d],ys++cs,by simp[h1],by rw[List.length_append,h2,hl,Nat.succ_mul],by rw[qu,vt];exact VRL.append h3 hd,λi y hy=>?_⟩
   by_cases hi:i<zR ys
   .rw[List.getElem?_append_left hi]at hy;exact h4 i y hy
   .rw[List.getElem?_append_right J]at hy;have hj:i-zR ys<k:=by
     rw[<-hl];exact(List.getElem?_eq_some_iff.1 hy).1
    have:=hg (i-zR ys) hj;rw[hy,dA hsp,dA rfl]at this;show W.cell? ⟨a.block,a.off+i,none⟩=some y;rw[<-this]
    congr 2
    simp only;omega
def lM(hM:Mu H0 μ)(h0:0<k)(hk:P.cellsOf tE=k)(hK:P.underlying tK=some (.slice tE))(hp:∀d,wL (f d)=true)
  (ih:∀m,m<n->∀cs x,DataW.trod enc P W 0 sp held m tE cs=some x->μ x.1<=N->∃d,VRL (Jj W) (f d) cs)
  (hs:sp=λ_=>true) {cs:zE} {x:DataW H0×List MemPlace} (h:DataW.trod enc P W 0 sp held n tK cs=some x) (hN:μ x.1<=N):
  ∃ds v,cs=[v]/\VR (Jj W) (.lst (zR ds) false (wo f ds)) v/\zR ds<=N:=by
 rcases DataW.trod_slice hK h with ⟨rfl,_⟩|⟨a,len,cap,elems,rest,m,rfl,rfl,rfl,_,hlc,hcm,hel,hsl,hspare,_⟩
 .exact⟨[],_,rfl,by simp only[VR];exact⟨rfl,.inl ⟨rfl,_,rfl⟩⟩,Nat.zero_le _⟩
 .rw [hk]at hsl hspare;have hsm:=hM.sl (elems.map (·.1)) (rest.map (·.1));replace hN:μ (DataW.slice (elems.map (·.1)) (rest.map (·.1)))<=N:=hN;by_cases hcap:cap=0
  .subst hcap;obtain rfl:len=0:=J;exact⟨[],_,rfl,by simp only[VR];exact⟨rfl,.inl ⟨rfl,_,rfl⟩⟩,Nat.zero_le _⟩
  .have hcell:∃x,(W.cells? 0 (a.add (0*k)) k)=some x:=by
    by_cases hl:0<len
    .have:=hsl 0 hl;rw[xj J]at this;cases hc:W.cells? 0 (a.add (0*k)) k with
     |none=>rw[hc]at this;cases this
     |some y=>exact⟨y,rfl⟩
    .obtain rfl:len=0:=J;obtain⟨hr,hj⟩:=hspare (by rw[hs])
     have:=hj 0 J;rw[xj J]at this;rw[xB]at this;cases hc:W.cells? 0 (a.add (0*k)) k with
     |none=>rw[hc]at this;cases this
     |some y=>exact⟨y,rfl⟩
   obtain⟨y,hy⟩:=hcell;have hspot:a.spot=none:=by
    obtain⟨_,hl,hg⟩:=World.cells?_some hy;have h1:=hg 0 h0;rw[xj J]at h1;obtain⟨_,_,_,_,h2,_⟩:=sM h1
    simpa [Addr.add]using h2
   obtain⟨ds,ys,g1,_,g3,g4⟩:=KY (W:=W) (enc:=enc) (sp:=sp) (held:=held) (μ:=μ) (N:=N) h0 hk hspot (ih m J) len λi hi=>by
    have:=hsl i hi;rw[xj J]at this;exact⟨_,this,yb (hsm.1 _ (List.mem_map.2 ⟨_,zuv J,rfl⟩)) hN⟩
   refine⟨ds,_,rfl,?_,?_⟩
   .simp only[VR];refine⟨wX hp ds,.inr ⟨a.block,a.off,cap,ys,?_,by simp,J,ZC.of g4,g3⟩⟩
    rw[g1];cases a;simp only at hspot;subst hspot;rfl
   .have:=hsm.2;rw[zuJ]at this;omega
def DTx:={d:DT//TxD d}
def UQ(d:DTx):zA:=qK d.1
def c7:∀l:List DTx,TxL (l.map (·.1))
 |[]=>by simp only[xA,TxL]
 |d::r=>by simp only[ye,TxL];exact⟨d.2,c7 r⟩
def Q1:∀l:List DTx,wQ (l.map (·.1))=wo UQ l
 |[]=>by simp only[xA,wQ,wo]
 |d::r=>by simp only[ye,wQ,wo,Q1 r,UQ]
def MQ(s:ByteArray):(jk s).length=zR s.data.toList:=by simp[jk]
def mL(hM:Mu H0 μ)(hN2:N<2000000)(T:DatumTy P tD tI tS tK fs)(hs:sp=λ_=>true):∀(n:Nat) (cs:zE) (x:DataW H0×List MemPlace),DataW.trod enc P W 0 sp held n tD cs=some x->μ x.1<=N->∃d:DTx,VRL (Jj W) (UQ d) cs:=by
 intro n
 induction n using Nat.strongRecOn with
 |ind n ih=>
 intro cs x h hN;obtain⟨xs,m,rfl,rfl,hl,hlen,hf⟩:=DataW.trod_struct T.d h;rw[T.cd]at hl;obtain⟨c0,c1,c2,c3,c4,rfl⟩:=zxk hl;have hfs:=T.fs;obtain⟨f0,f1,f2,f3,f4,hfe⟩:=zxk (l:=fs.toList) (by have:=congrArg zR hfs;simpa using this)
 rw[hfe]at hfs;simp only[ye,xA,vc,qj,and_true]at hfs;obtain⟨⟨a0,b0⟩,⟨a1,b1⟩,⟨a2,b2⟩,⟨a3,b3⟩,⟨a4,b4⟩⟩:=hfs;have hag:=hM.ag (xs.map (·.1));have hat:∀(i:Nat) (f:Field),fs.toList[i]? =some f->∃y,DataW.trod enc P W 0 sp held m f.type (([c0,c1,c2,c3,c4].drop f.offset).take (P.cellsOf f.type))=some y/\μ y.1<=N:=λi f hi=>by
  have h1:=hf i f (by rw[<-yd];exact hi)
  have hlt:i<zR fs.toList:=(List.getElem?_eq_some_iff.1 hi).1;rw[xj (by rw[hlen];simpa using hlt)]at h1
  exact⟨_,h1,yb (hag _ (List.mem_map.2 ⟨_,zuv _,rfl⟩)) hN⟩
 obtain⟨y0,g0,_⟩:=hat 0 f0 (by rw[hfe];rfl)
 obtain⟨y1,g1,_⟩:=hat 1 f1 (by rw[hfe];rfl)
 obtain⟨y2,g2,m2⟩:=hat 2 f2 (by rw[hfe];rfl)
 obtain⟨y3,g3,m3⟩:=hat 3 f3 (by rw[hfe];rfl)
 obtain⟨y4,g4,_⟩:=hat 4 f4 (by rw[hfe];rfl)
 rw[a0,b0,T.ci]at g0;rw[a1,b1,T.ci]at g1;rw[a2,b2,T.cs]at g2;rw[a3,b3,T.ck]at g3;rw[a4,b4,T.ci]at g4;obtain⟨n0,e0,_,_⟩:=DataW.trod_int T.i g0;obtain⟨n1,e1,_,_⟩:=DataW.trod_int T.i g1;obtain⟨s2,e2,z2,_⟩:=DataW.trod_string T.s g2;obtain⟨n4,e4,_,_⟩:=DataW.trod_int T.i g4;subst z2;have hst:=hM.str s2.data.toList;replace m2:μ (DataW.lit (.string s2.data.toList))<=N:=m2;simp at e0 e1 e2 e4;subst e0;subst e1;subst e2;subst e4;obtain⟨ds,v,q1,q2,q3⟩:=lM hM (f:=UQ) J T.cd T.k (λd=>jq d.1) (n:=m) (λk hk cs x h hm=>ih k J cs x h hm) hs g3 m3;simp at q1;subst q1;refine⟨⟨.mk n0 n1 (jk s2) (ds.map (·.1)) n4,?_⟩,?_⟩
 .simp only[TxD];exact⟨Fm s2,by rw[MQ];omega,c7 ds⟩
 .simp only[UQ,qK,zuJ,Q1];exact VRL.cons (by simp[VR]) (VRL.cons (by simp[VR]) (VRL.cons (by simp only[VR];exact⟨s2,rfl,rfl⟩) (VRL.cons q2 (VRL.cons (by simp[VR]) (VRL.nil _)))))
def Ky(hM:Mu H0 μ){t:TypeId}{gs:Array Field}(ht:P.underlying t=some (.struct gs)){x:DataW H0×List MemPlace}(h:DataW.trod enc P W 0 sp held n t cs=some x)(hN:μ x.1<=N):
  (zR cs)=P.cellsOf t/\∃m,m<n/\∀(i:Nat) (a:TypeId) (o:Nat),(gs.toList.map (λf=>(f.type,f.offset)))[i]? =some (a,o)->∃y,DataW.trod enc P W 0 sp held m a ((cs.drop o).take (P.cellsOf a))=some y/\μ y.1<=N:=by
 obtain⟨xs,m,rfl,rfl,hl,hlen,hf⟩:=DataW.trod_struct ht h;have hag:=hM.ag (xs.map (·.1));refine⟨hl,m,J,λi a o hi=>?_⟩;rw[List.getElem?_map,Option.map_eq_some_iff]at hi;obtain⟨f,hi,e⟩:=hi;obtain⟨rfl,rfl⟩:=Prod.mk.inj e;have h1:=hf i f (by rw[<-yd];exact hi)
 have hlt:i<zR gs.toList:=(List.getElem?_eq_some_iff.1 hi).1;rw[xj (by rw[hlen];simpa using hlt)]at h1
 exact⟨_,h1,yb (hag _ (List.mem_map.2 ⟨_,zuv _,rfl⟩)) hN⟩
structure CodeTy(P:Program)(tI tB tIs tA tAs tT tTs tF tFs tD tK tC:TypeId)(ga gt gf gc:Array Field):Prop where
 i:P.underlying tI=some (.int .i64)
 b:P.underlying tB=some .bool
 is:P.underlying tIs=some (.slice tI)
 a:P.underlying tA=some (.struct ga)
 az:P.underlying tAs=some (.slice tA)
 t:P.underlying tT=some (.struct gt)
 ts:P.underlying tTs=some (.slice tT)
 f:P.underlying tF=some (.struct gf)
 fs:P.underlying tFs=some (.slice tF)
 c:P.underlying tC=some (.struct gc)
 ma:ga.toList.map (λf=>(f.type,f.offset))=[(tI,0),(tI,1)]
 mt:gt.toList.map (λf=>(f.type,f.offset))=[(tI,0),(tI,1),(tI,2),(tI,3),(tI,4),(tAs,5),(tTs,6)]
 mf:gf.toList.map (λf=>(f.type,f.offset))=[(tIs,0),(tB,1),(tB,2),(tIs,3),(tT,4)]
 mc:gc.toList.map (λf=>(f.type,f.offset))=[(tFs,0),(tI,1),(tI,2),(tI,3),(tK,4)]
 ci:P.cellsOf tI=1
 cb:P.cellsOf tB=1
 cis:P.cellsOf tIs=1
 ca:P.cellsOf tA=2
 cas:P.cellsOf tAs=1
 ct:P.cellsOf tT=7
 cts:P.cellsOf tTs=1
 cf:P.cellsOf tF=11
 cfs:P.cellsOf tFs=1
 cc:P.cellsOf tC=5
def zvu{α:Type}{l:List α}(h:List.length l=2):∃a b,l=[a,b]:=by
 match l,h with
 |[a,b],_=>exact⟨a,b,rfl⟩
def seven{α:Type}{l:List α}(h:List.length l=7):∃a b c d e f g,l=[a,b,c,d,e,f,g]:=by
 match l,h with
 |[a,b,c,d,e,f,g],_=>exact⟨a,b,c,d,e,f,g,rfl⟩
def zyV{α:Type}{l:List α}(h:List.length l=11):∃a b c d r,l=a::b::c::d::r/\r.length=7:=by
 match l,h with
 |a::b::c::d::r,h=>exact⟨a,b,c,d,r,rfl,by simpa using h⟩
def TmX:={t:Trm//SzT t}
def VP(t:TmX):zA:=wZ t.1
def mg:∀l:List TmX,p7 (l.map (·.1))
 |[]=>by simp only[xA,p7]
 |d::r=>by simp only[ye,p7];exact⟨d.2,mg r⟩
def JJ:∀l:List TmX,w9 (l.map (·.1))=wo VP l
 |[]=>by simp only[xA,w9,wo]
 |d::r=>by simp only[ye,w9,wo,JJ r,VP]
def FnX:={f:Fn//(zR f.ps)<1000000000/\zR f.fr<1000000000/\SzT f.b}
def Ku(f:FnX):zA:=wW f.1
def JI:∀l:List FnX,wo wW (l.map (·.1))=wo Ku l
 |[]=>rfl
 |d::r=>by simp only[ye,wo,JI r,Ku]
section
variable {tB tIs tA tAs tT tTs tF tFs tC:TypeId}{ga gt gf gc:Array Field}
def kD(T:CodeTy P tI tB tIs tA tAs tT tTs tF tFs tD tK tC ga gt gf gc){m:Nat}{x:DataW H0×List MemPlace}(h:DataW.trod enc P W 0 sp held m tI cs=some x):∃n,cs=[.int .i64 n]:=by
 obtain⟨n,e,_⟩:=DataW.trod_int T.i h;exact⟨n,e⟩
def Ly(hM:Mu H0 μ)(T:CodeTy P tI tB tIs tA tAs tT tTs tF tFs tD tK tC ga gt gf gc)(hs:sp=λ_=>true){m:Nat}{x:DataW H0×List MemPlace}(h:DataW.trod enc P W 0 sp held m tIs cs=some x)(hN:μ x.1<=N):∃l v,cs=[v]/\VR (Jj W) (qt l) v/\zR l<=N:=
 lM hM (f:=wN) (k:=1) J T.ci T.is qR (n:=m) (λk _ cs x h _=>by
  obtain⟨n,rfl⟩:=kD T h;exact⟨n,VRL.cons (by simp only[VR]) (VRL.nil _)⟩) hs h hN
def Rw(hM:Mu H0 μ)(hN2:N<2000000)(T:CodeTy P tI tB tIs tA tAs tT tTs tF tFs tD tK tC ga gt gf gc)(hs:sp=λ_=>true):∀(n:Nat) (cs:zE) (x:DataW H0×List MemPlace),DataW.trod enc P W 0 sp held n tT cs=some x->μ x.1<=N->∃d:TmX,VRL (Jj W) (VP d) cs:=by
 intro n
 induction n using Nat.strongRecOn with
 |ind n ih=>
 intro cs x h hN;obtain⟨hl,m,hm,hat⟩:=Ky hM T.t h hN;rw[T.mt]at hat
 rw[T.ct]at hl;obtain⟨c0,c1,c2,c3,c4,c5,c6,rfl⟩:=seven hl;obtain⟨y0,g0,_⟩:=hat 0 _ _ rfl;obtain⟨y1,g1,_⟩:=hat 1 _ _ rfl;obtain⟨y2,g2,_⟩:=hat 2 _ _ rfl;obtain⟨y3,g3,_⟩:=hat 3 _ _ rfl;obtain⟨y4,g4,_⟩:=hat 4 _ _ rfl;obtain⟨y5,g5,m5⟩:=hat 5 _ _ rfl;obtain⟨y6,g6,m6⟩:=hat 6 _ _ rfl;rw[T.ci]at g0 g1 g2 g3 g4;rw[T.cas]at g5;rw[T.cts]at g6;obtain⟨n0,e0⟩:=kD T g0;obtain⟨n1,e1⟩:=kD T g1;obtain⟨n2,e2⟩:=kD T g2;obtain⟨n3,e3⟩:=kD T g3;obtain⟨n4,e4⟩:=kD T g4;simp at e0 e1 e2 e3 e4;subst e0 e1 e2 e3 e4;obtain⟨az,v5,q1,q2,q3⟩:=lM hM (f:=wY) J T.ca T.az ug (n:=m) (λk _ cs x h hx=>by
  obtain⟨hl,m,_,hat⟩:=Ky hM T.a h hx;rw[T.ma]at hat
  rw[T.ca]at hl;obtain⟨c0,c1,rfl⟩:=zvu hl;obtain⟨y0,g0,_⟩:=hat 0 _ _ rfl;obtain⟨y1,g1,_⟩:=hat 1 _ _ rfl;rw[T.ci]at g0 g1;obtain⟨n0,e0⟩:=kD T g0;obtain⟨n1,e1⟩:=kD T g1;simp at e0 e1;subst e0 e1;exact⟨⟨n0,n1⟩,VRL.cons (by simp[VR]) (VRL.cons (by simp[VR]) (VRL.nil _))⟩) hs g5 m5
 obtain⟨ks,v6,u1,u2,u3⟩:=lM hM (f:=VP) J T.ct T.ts (λd=>kE d.1) (n:=m) (λk hk cs x h hx=>ih k J cs x h hx) hs g6 m6;simp at q1 u1;subst q1 u1;refine⟨⟨.mk n0 n1 n2 n3 n4 az (ks.map (·.1)),?_⟩,?_⟩
 .simp only[SzT,zuJ];exact⟨J,J,mg ks⟩
 .simp only[VP,wZ,zuJ,JJ];exact VRL.cons (by simp[VR]) (VRL.cons (by simp[VR]) (VRL.cons (by simp[VR]) (VRL.cons (by simp[VR]) (VRL.cons (by simp[VR]) (VRL.cons q2 (VRL.cons u2 (VRL.nil _)))))))
def Rv(hM:Mu H0 μ)(hN2:N<2000000)(T:CodeTy P tI tB tIs tA tAs tT tTs tF tFs tD tK tC ga gt gf gc)(hs:sp=λ_=>true){x:DataW H0×List MemPlace}(h:DataW.trod enc P W 0 sp held n tF cs=some x)(hN:μ x.1<=N):∃d:FnX,VRL (Jj W) (Ku d) cs:=by
 obtain⟨hl,m,hm,hat⟩:=Ky hM T.f h hN;rw[T.mf]at hat
 rw[T.cf]at hl;obtain⟨c0,c1,c2,c3,r,rfl,hr⟩:=zyV hl;obtain⟨y0,g0,m0⟩:=hat 0 _ _ rfl;obtain⟨y1,g1,_⟩:=hat 1 _ _ rfl;obtain⟨y2,g2,_⟩:=hat 2 _ _ rfl;obtain⟨y3,g3,m3⟩:=hat 3 _ _ rfl;obtain⟨y4,g4,m4⟩:=hat 4 _ _ rfl;rw[T.cis]at g0 g3;rw[T.cb]at g1 g2;rw[T.ct]at g4;obtain⟨b1,e1,_⟩:=DataW.trod_bool T.b g1;obtain⟨b2,e2,_⟩:=DataW.trod_bool T.b g2;simp at e1 e2;subst e1 e2;have hr':(((c0::Value.bool b1::Value.bool b2::c3::r).drop 4).take 7)=r:=List.take_of_length_le (by simp[hr])
 rw[hr']at g4;obtain⟨ps,v0,p1,p2,p3⟩:=Ly hM T hs g0 m0;obtain⟨fr,v3,q1,q2,q3⟩:=Ly hM T hs g3 m3;obtain⟨t,ht⟩:=Rw hM hN2 T hs m r y4 g4 m4;simp at p1 q1;subst p1 q1;exact⟨⟨⟨ps,b1,b2,fr,t.1⟩,⟨Nat.lt_of_le_of_lt p3 J,Nat.lt_of_le_of_lt q3 J,t.2⟩⟩,VRL.cons p2 (VRL.cons (by simp[VR]) (VRL.cons (by simp[VR]) (VRL.cons q2 ht)))⟩
def abs_code(hM:Mu H0 μ)(hN2:N<2000000)(D:DatumTy P tD tI tS tK fs)(T:CodeTy P tI tB tIs tA tAs tT tTs tF tFs tD tK tC ga gt gf gc)(hs:sp=λ_=>true){x:DataW H0×List MemPlace}(h:DataW.trod enc P W 0 sp held n tC cs=some x)(hN:μ x.1<=N):∃c:Cd,LgPre c/\VRL (Jj W) (qc c) cs:=by
 obtain⟨hl,m,hm,hat⟩:=Ky hM T.c h hN;rw[T.mc]at hat
 rw[T.cc]at hl;obtain⟨c0,c1,c2,c3,c4,rfl⟩:=zxk hl;obtain⟨y0,g0,m0⟩:=hat 0 _ _ rfl;obtain⟨y1,g1,_⟩:=hat 1 _ _ rfl;obtain⟨y2,g2,_⟩:=hat 2 _ _ rfl;obtain⟨y3,g3,_⟩:=hat 3 _ _ rfl;obtain⟨y4,g4,m4⟩:=hat 4 _ _ rfl;rw[T.ci]at g1 g2 g3;rw[T.cfs]at g0;rw[D.ck]at g4;obtain⟨n1,e1⟩:=kD T g1;obtain⟨n2,e2⟩:=kD T g2;obtain⟨n3,e3⟩:=kD T g3;simp at e1 e2 e3;subst e1 e2 e3;obtain⟨ds,v4,q1,q2,q3⟩:=lM hM (f:=UQ) J D.cd D.k (λd=>jq d.1) (n:=m) (λk _ cs x h hx=>mL hM hN2 D hs k cs x h hx) hs g4 m4;obtain⟨gs,v0,p1,p2,p3⟩:=lM hM (f:=Ku) J T.cf T.fs (λd=>ZD d.1) (n:=m) (λk _ cs x h hx=>Rv hM hN2 T hs h hx) hs g0 m0;simp at q1 p1;subst q1 p1;refine⟨⟨gs.map (·.1),n1,n2,n3,ds.map (·.1)⟩,⟨by rw[zuJ];omega,by rw[zuJ];omega,λf hf=>?_,c7 ds⟩,?_⟩
 .obtain⟨g,_,rfl⟩:=List.mem_map.1 hf;exact g.2
 .simp only[qc,zuJ,JI,Q1];exact VRL.cons p2 (VRL.cons (by simp[VR]) (VRL.cons (by simp[VR]) (VRL.cons (by simp[VR]) (VRL.cons q2 (VRL.nil _)))))
end
end
def converts_calls(B:Bx P w)(hs:SrtOk P){c:Cd}(hc:LgPre c){cs:zr}(hv:VRL (Jj w) (qc c) cs.toList):
  Calls P 3 #[.agg cs] w λe w'=>e=.returned (.bool true)/\Below w.heap.size w w':=by
 obtain⟨s1,h⟩:=zxv B (cT hs) hc;have hx:VRL (Jj w) (vo c) [.agg cs]:=VRL.cons (by simp only[v8,VR];exact⟨cs.toList,by simp,hv⟩) (VRL.nil _)
 refine callsIn_wide.1 (CallsIn.mono (h.2 _ w _ (DN P w true) (show Wf (s00 0 true)from zwq [] 0 true) (λ_ _=>rfl) hx Fence.wide 0 ⟨λ_=>trivial,rfl,rfl⟩) ?_)
 rintro e w' ⟨I',x,rfl,k1,k2⟩
 simp only[VR]at k2;exact⟨by rw[k2],k1.rel.base⟩
end Go.Proofs.YtbddpjboppmnfaaGreatDoor.Ev

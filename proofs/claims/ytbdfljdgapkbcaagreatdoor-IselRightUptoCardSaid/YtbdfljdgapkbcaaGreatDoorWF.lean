/- Contracts of functions that IselRight calls: what a call answers, for all data, by symbolic evaluation. No conditions of its own. -/
import Derived.Test.YtbdfljdgapkbcaaGreatDoorWE
import Derived.Test.YtbdfljdgapkbcaaGreatDoorWD
import Derived.Test.YtbdfljdgapkbcaaGreatDoorWA
import Derived.Test.YtbdfljdgapkbcaaGreatDoorEvG
import Derived.Lib.SlKeysI
import Derived.Maps.Range
import Derived.ChangeArms
set_option linter.unusedSimpArgs false
set_option linter.unusedVariables false
set_option linter.defProp false
set_option maxHeartbeats 4000000
set_option linter.unusedSectionVars false
open List renaming not_mem_nil → zhv, length_cons → zU, mem_cons → ziU, length_nil → xd, getElem?_eq_getElem → yv, map_cons → zv, length_append → yl, length_map → zhw, mem_cons_self → zi9, mem_of_mem_drop → zi2, map_nil → yB, cons_append → zG, nil_append → ziZ, eq_nil_of_length_eq_zero → yr, getElem?_append_right → yA, drop_eq_getElem_cons → ziX, getElem?_append_left → ym, getElem_mem → zhd, length_drop → ziH, map_map → zhx, append_nil → ziJ, head?_drop → zhy, take_of_length_le → zE, length → y8
open Nat renaming le_of_ble_eq_true → ziF, zero_le → zK, zero_mod → ziS, or_zero → ziV, zero_or → ziW, le_refl → zo, zero_add → yC, le_trans → zr
open Bool renaming and_eq_true → zl, cond_self → ziQ, and_self → xe
open Int renaming ofNat → zA, sub → zhz
open Array renaming getElem?_toList → zu, length_toList → yo
namespace Go.Proofs.YtbdfljdgapkbcaaGreatDoor.Ev
variable {P:Program}{w0 w w':World}{E:Env}{O:Orc}{s s':St}{φ:Phi}{v:AV}{id n esz bytes:Nat}{t:TypeId}
open T
set_option maxRecDepth 100000
def zln:List Nat:=[112,111,142,143,110,72,40,21,23,22,41]
def IsaO(O:Orc):Prop:=∀f∈zln,O f=none
theorem IsaO.no(H:IsaO O)(f:Nat)(h:f∈zln:=by decide):O f=none:=H f h
def X9:List (Nat×Nat):=[(1,1),(2,1),(7,1),(8,1),(9,1),(15,2),(16,2),(17,2),(19,2),(20,2),(24,2),(25,4)]
section
variable {O:Orc}(H:IsaO O)
include H
attribute [local go_sem] ltF gtF in
theorem GL{q r:Nat}(h:(q,r)∈X9)(L:List (Nat×Option AObj))(n m:Nat)(b:Bool):(evW env O).call 112 [.int .i64 (.ofNat q)] (KL L n m b [] none)=some (.int .i64 (.ofNat r),KL L n m b [] none):=by
 have key:Cv ((evW env O).call 112 [.int .i64 (.ofNat q)] (KL L n m b [] none)) fun v t=>v=.int .i64 (.ofNat r)∧t=KL L n m b [] none:=by
  refine wI (F:=f112) (H.no _) rfl rfl (ziF rfl) ?_;unfold f112 cF;simp only;simp only[X9,ziU,Prod.mk.injEq,zhv,or_false]at h;rcases h with ⟨rfl,rfl⟩|⟨rfl,rfl⟩|⟨rfl,rfl⟩|⟨rfl,rfl⟩|⟨rfl,rfl⟩|⟨rfl,rfl⟩|⟨rfl,rfl⟩|⟨rfl,rfl⟩|⟨rfl,rfl⟩|⟨rfl,rfl⟩|⟨rfl,rfl⟩|⟨rfl,rfl⟩<;>(
  refine xu ?_;refine xF ?_;exact⟨rfl,rfl⟩)
 obtain⟨v,t,e,rfl,rfl⟩:=key;exact e
attribute [local go_sem] ltF gtF in
theorem Kl{r:Nat}(h:r=1∨r=2∨r=4)(L:List (Nat×Option AObj))(n m:Nat)(b:Bool):(evW env O).call 111 [.int .i64 (.ofNat r)] (KL L n m b [] none)=some (.tup [.bool (decide (r≠4)),.bool true,.bool (decide (r≠2)),.int .i64 (.ofNat (if r=1 then 0 else 16))],KL L n m b [] none):=by
 have key:Cv ((evW env O).call 111 [.int .i64 (.ofNat r)] (KL L n m b [] none)) fun v t=>v=.tup [.bool (decide (r≠4)),.bool true,.bool (decide (r≠2)),.int .i64 (.ofNat (if r=1 then 0 else 16))]∧t=KL L n m b [] none:=by
  refine wI (F:=f111) (H.no _) rfl rfl (ziF rfl) ?_;unfold f111 cF;simp only;rcases h with rfl|rfl|rfl<;>(
  refine xu ?_;refine xF ?_;exact⟨rfl,rfl⟩)
 obtain⟨v,t,e,rfl,rfl⟩:=key;exact e
def Jk(q:Nat):Int×Int:=if q∈[16,17]then (.ofNat 0,.ofNat 65535)else if q∈[19,20]then (.ofNat 0,.ofNat 31)else if q∈[15,24,25]then (.negSucc 32767,.ofNat 32767)else (.ofNat 0,.ofNat 0)
attribute [local go_sem] ltF gtF in
theorem zuv{q r:Nat}(h:(q,r)∈X9)(L:List (Nat×Option AObj))(n m:Nat)(b:Bool):(evW env O).call 142 [.int .i64 (.ofNat q)] (KL L n m b [] none)=some (.tup [.int .i64 (Jk q).1,.int .i64 (Jk q).2],KL L n m b [] none):=by
 have key:Cv ((evW env O).call 142 [.int .i64 (.ofNat q)] (KL L n m b [] none)) fun v t=>v=.tup [.int .i64 (Jk q).1,.int .i64 (Jk q).2]∧t=KL L n m b [] none:=by
  refine wI (F:=f142) (H.no _) rfl rfl (ziF rfl) ?_;have hf:=GL H h;unfold f142 cF;simp only;simp only[X9,ziU,Prod.mk.injEq,zhv,or_false]at h;rcases h with ⟨rfl,rfl⟩|⟨rfl,rfl⟩|⟨rfl,rfl⟩|⟨rfl,rfl⟩|⟨rfl,rfl⟩|⟨rfl,rfl⟩|⟨rfl,rfl⟩|⟨rfl,rfl⟩|⟨rfl,rfl⟩|⟨rfl,rfl⟩|⟨rfl,rfl⟩|⟨rfl,rfl⟩<;>(
  refine xu ?_;refine xF ?_;exact⟨rfl,rfl⟩)
 obtain⟨v,t,e,rfl,rfl⟩:=key;exact e
attribute [local go_sem] ltF gtF in
theorem Py(x:Bool)(L:List (Nat×Option AObj))(n m:Nat)(b:Bool):(evW env O).call 143 [.bool x,.int .i64 (.ofNat 0)] (KL L n m b [] none)=some (.bool true,KL L n m b [] none):=by
 have key:Cv ((evW env O).call 143 [.bool x,.int .i64 (.ofNat 0)] (KL L n m b [] none)) fun v t=>v=.bool true∧t=KL L n m b [] none:=by
  refine wI (F:=f143) (H.no _) rfl rfl (ziF rfl) ?_;unfold f143 cF;simp only;cases x<;>(
  refine xu ?_;refine xF ?_;exact⟨rfl,rfl⟩)
 obtain⟨v,t,e,rfl,rfl⟩:=key;exact e
end
open Nat (reduceEqDiff reduceLeDiff reduceLT reduceAdd reduceMul reduceSub reduceMod reducePow reduceDiv reduceOr reduceShiftLeft reduceGT reduceSucc)
open List (length_cons length_nil length_take length_drop)
open Int (reduceOfNat reduceNegSucc)
def Hp(q:Nat)(i:Int):Prop:=(Jk q).1≤i∧i≤(Jk q).2
section
variable {O:Orc}(H:IsaO O)
include H
attribute [local go_sem] ltF gtF in
theorem LP{q r:Nat}{i:Int}(h:(q,r)∈X9)(hi:Hp q i)(L:List (Nat×Option AObj))(n m:Nat)(b:Bool):(evW env O).call 110 [.agg [.int .i64 (.ofNat q),.int .i64 (.ofNat 0),.int .i64 (.ofNat 0),.int .i64 (.ofNat 0),.int .i64 i]] (KL L n m b [] none)=some (.int .i64 (.ofNat 0),KL L n m b [] none):=by
 have key:Cv ((evW env O).call 110 [.agg [.int .i64 (.ofNat q),.int .i64 (.ofNat 0),.int .i64 (.ofNat 0),.int .i64 (.ofNat 0),.int .i64 i]] (KL L n m b [] none)) fun v t=>v=.int .i64 (.ofNat 0)∧t=KL L n m b [] none:=by
  refine wI (F:=f110) (H.no _) rfl rfl (ziF rfl) ?_;have hf:=GL H h;have hr:=zuv H h;have h1:ltD i (Jk q).1=false:=decide_eq_false (Int.not_lt.2 hi.1);have h2:ltD (Jk q).2 i=false:=decide_eq_false (Int.not_lt.2 hi.2);have hrr:r=1∨r=2∨r=4:=by
   simp only[X9,ziU,Prod.mk.injEq,zhv,or_false]at h;omega
  have hh:=Kl H hrr;have hg:=Py H;have h0:eqD (.ofNat r) (.ofNat 0)=false:=by rcases hrr with rfl|rfl|rfl<;>rfl
  generalize (Jk q).1=lo at *;generalize (Jk q).2=hi' at *;generalize decide (r≠4)=x1 at *;generalize decide (r≠2)=x2 at *;generalize (if r=1 then 0 else 16)=x3 at *;clear h hi hrr;unfold f110 cF;simp only;refine xB ?_;refine xB ?_;refine xB ?_;refine xB ?_;refine xB ?_;refine xu ?_;refine xF ?_;exact⟨rfl,rfl⟩
 obtain⟨v,t,e,rfl,rfl⟩:=key;exact e
attribute [local go_sem] ltF gtF xI xH ziS ziW ziV ziQ xW in
theorem zvt{q r:Nat}{i:Int}(h:(q,r)∈X9)(hi:Hp q i)(L:List (Nat×Option AObj))(n m:Nat)(b:Bool):Cv ((evW env O).call 72 [.agg [.int .i64 (.ofNat q),.int .i64 (.ofNat 0),.int .i64 (.ofNat 0),.int .i64 (.ofNat 0),.int .i64 i]] (KL L n m b [] none)) fun v t=>∃w,v=.tup [.int .u32 w,.int .i64 (.ofNat 0)]∧t=KL L n m b [] none:=by
 refine wI (F:=f72) (H.no _) rfl rfl (ziF rfl) ?_;have hch:=LP H h hi;have hf:=GL H h;have hrr:r=1∨r=2∨r=4:=by
  simp only[X9,ziU,Prod.mk.injEq,zhv,or_false]at h;omega
 have hh:=Kl H hrr;obtain⟨x3,hx3⟩:∃x3,(if r=1 then 0 else 16)=x3:=⟨_,rfl⟩;have hx4:x3=0∨x3=16:=by rw[←hx3];split<;>simp
 rw[hx3]at hh;generalize decide (r≠4)=x1 at *;generalize decide (r≠2)=x2 at *;obtain⟨z0,hz0⟩:∃z,qw .shl .u32 (qJ .u32 (.ofNat q)) .u64 (.ofNat 26)=some (.int .u32 z):=⟨_,rfl⟩;clear h hi hrr hx3;unfold f72 cF;simp only;refine xB ?_;refine xB ?_;refine xB ?_;refine xB ?_;refine xz (xz (xu ?_));refine xE ?_;refine xU (fun j:Nat=>3-j) (fun j f t=>∃T L2 n2 m2 z c,f=⟨tmL T,[]⟩∧t=KL L2 n2 m2 true [] none∧(tmL T).get 1=some (.ptr n 0)∧(tmL T).get 8=some (.int .i64 (.ofNat x3))∧(tmL T).get 9=some (.int .u32 z)∧(tmL T).get 10=some (.int .i64 (.ofNat c))∧(tmL T).get 43=some (.lst 3 true [.bool x1,.int .i64 (.ofNat 0),.bool true,.int .i64 (.ofNat 0),.bool x2,.int .i64 (.ofNat 0)])∧(tmL T).get 44=some (.int .i64 (.ofNat 3))∧(tmL T).get 45=some (.int .i64 (.ofNat j))∧j≤3∧xD L2 n=some (.row 112 [.int .i64 (.ofNat q),.int .i64 (.ofNat 0),.int .i64 (.ofNat 0),.int .i64 (.ofNat 0),.int .i64 i] false false)∧n+1≤n2∧c≤21∧21≤c+5*j∧m2%2^n=0) (fun j f t hI=>?_) 0 ⟨_,_,_,_,z0,21,rfl,rfl,sV,sV,sV,sV,sV,sV,sV,oM,xG _ _ _,oM,oM,oM,ziS _⟩;clear hz0 hch hf hh;obtain⟨T,L2,n2,m2,z,c,rfl,rfl,t1,t8,t9,t10,t43,t44,t45,hj,g0,hn2,hc,hc2,hm0⟩:=hI;by_cases hj3:j<3
 ·rcases(by omega:j=0∨j=1∨j=2)with rfl|rfl|rfl
  ·have hs1:qJ .i64 (zhz (.ofNat c) (.ofNat 5))=.ofNat (c-5):=by rw[Wt oM,gq oM]
   obtain⟨z2,hz2⟩:∃z,qw .shl .u32 (.ofNat 0) .i64 (.ofNat c)=some (.int .u32 z):=⟨_,rfl⟩;obtain⟨z3,hz3⟩:∃y,qw .or .u32 z .u32 z2=some (.int .u32 y):=⟨_,rfl⟩;cases x1 with
   |true=>
    refine xB ?_;refine xz (x4 sW ?_);refine xu ?_;refine xu ?_;exact⟨0+1,⟨_,_,_,_,z3,c-5,rfl,rfl,sV,sV,sV,sV,sV,sV,sV,oM,by (repeat rw[xr,if_neg oM]);exact g0,oM,oM,oM,(xI oM).trans hm0⟩,oM⟩
   |false=>
    refine xB ?_;refine xz (x4 sW ?_);refine xu ?_;refine xu ?_;exact⟨0+1,⟨_,_,_,_,z,c,rfl,rfl,sV,sV,sV,sV,sV,sV,sV,oM,by (repeat rw[xr,if_neg oM]);exact g0,oM,oM,oM,(xI oM).trans hm0⟩,oM⟩
  ·have hs1:qJ .i64 (zhz (.ofNat c) (.ofNat 5))=.ofNat (c-5):=by rw[Wt oM,gq oM]
   obtain⟨z2,hz2⟩:∃z,qw .shl .u32 (.ofNat 0) .i64 (.ofNat c)=some (.int .u32 z):=⟨_,rfl⟩;obtain⟨z3,hz3⟩:∃y,qw .or .u32 z .u32 z2=some (.int .u32 y):=⟨_,rfl⟩;refine xB ?_;refine xz (x4 sW ?_);refine xu ?_;refine xu ?_;exact⟨1+1,⟨_,_,_,_,z3,c-5,rfl,rfl,sV,sV,sV,sV,sV,sV,sV,oM,by (repeat rw[xr,if_neg oM]);exact g0,oM,oM,oM,(xI oM).trans hm0⟩,oM⟩
  ·have hs1:qJ .i64 (zhz (.ofNat c) (.ofNat 5))=.ofNat (c-5):=by rw[Wt oM,gq oM]
   obtain⟨z2,hz2⟩:∃z,qw .shl .u32 (.ofNat 0) .i64 (.ofNat c)=some (.int .u32 z):=⟨_,rfl⟩;obtain⟨z3,hz3⟩:∃y,qw .or .u32 z .u32 z2=some (.int .u32 y):=⟨_,rfl⟩;cases x2 with
   |true=>
    refine xB ?_;refine xz (x4 sW ?_);refine xu ?_;refine xu ?_;exact⟨2+1,⟨_,_,_,_,z3,c-5,rfl,rfl,sV,sV,sV,sV,sV,sV,sV,oM,by (repeat rw[xr,if_neg oM]);exact g0,oM,oM,oM,(xI oM).trans hm0⟩,oM⟩
   |false=>
    refine xB ?_;refine xz (x4 sW ?_);refine xu ?_;refine xu ?_;exact⟨2+1,⟨_,_,_,_,z,c,rfl,rfl,sV,sV,sV,sV,sV,sV,sV,oM,by (repeat rw[xr,if_neg oM]);exact g0,oM,oM,oM,(xI oM).trans hm0⟩,oM⟩
 ·obtain rfl:j=3:=oM;obtain⟨z4,hz4⟩:∃z,vCi .u32 (.int .i64 i)=some (.int .u32 z):=⟨_,rfl⟩;rcases hx4 with rfl|rfl
  ·have hs5:qw .shl .u32 (.ofNat 1) .i64 (.ofNat 0)=some (.int .u32 (.ofNat 1)):=rfl;have hs6:qw .sub .u32 (.ofNat 1) .u32 (.ofNat 1)=some (.int .u32 (.ofNat 0)):=rfl;obtain⟨z5,hz5⟩:∃y,qw .and .u32 z4 .u32 (.ofNat 0)=some (.int .u32 y):=⟨_,rfl⟩;obtain⟨z6,hz6⟩:∃y,qw .or .u32 z .u32 z5=some (.int .u32 y):=⟨_,rfl⟩;refine xu ?_;refine xu ?_;refine xF ?_;exact⟨_,rfl,rfl⟩
  ·have hs5:qw .shl .u32 (.ofNat 1) .i64 (.ofNat 16)=some (.int .u32 (.ofNat 65536)):=rfl;have hs6:qw .sub .u32 (.ofNat 65536) .u32 (.ofNat 1)=some (.int .u32 (.ofNat 65535)):=rfl;obtain⟨z5,hz5⟩:∃y,qw .and .u32 z4 .u32 (.ofNat 65535)=some (.int .u32 y):=⟨_,rfl⟩;obtain⟨z6,hz6⟩:∃y,qw .or .u32 z .u32 z5=some (.int .u32 y):=⟨_,rfl⟩;refine xu ?_;refine xu ?_;refine xF ?_;exact⟨_,rfl,rfl⟩
attribute [local go_sem] ltF gtF xI xH ziS ziW ziV ziQ xW in
theorem zun{q r:Nat}{d a b' i l:Int}{u6 u7:AV}(h:(q,r)∈X9)(hi:Hp q i)(hsc:q8 u6=true∧q8 u7=true)(L:List (Nat×Option AObj))(n m:Nat)(b:Bool):(evW env O).call 40 [.agg [.int .i64 (.ofNat q),.int .i64 d,.int .i64 a,.int .i64 b',.int .i64 i,.int .i64 l,u6,u7]] (KL L n m b [] none)=some (.bool true,KL L n m b [] none):=by
 have key:Cv ((evW env O).call 40 [.agg [.int .i64 (.ofNat q),.int .i64 d,.int .i64 a,.int .i64 b',.int .i64 i,.int .i64 l,u6,u7]] (KL L n m b [] none)) fun v t=>v=.bool true∧t=KL L n m b [] none:=by
  refine wI (F:=f40) (H.no _) rfl rfl (ziF rfl) ?_;obtain⟨h6,h7⟩:=hsc;simp only[q8]at h6 h7;have hen:=zvt H h hi;have h1:ltD (.ofNat q) (.ofNat 1)=false:=by
   simp only[X9,ziU,Prod.mk.injEq,zhv,or_false]at h;exact decide_eq_false fun hh=>by have:=Int.ofNat_lt.1 hh;omega
  have h2:ltD (.ofNat 25) (.ofNat q)=false:=by
   simp only[X9,ziU,Prod.mk.injEq,zhv,or_false]at h;exact decide_eq_false fun hh=>by have:=Int.ofNat_lt.1 hh;omega
  clear h hi;unfold f40 cF;simp only;refine xB ?_;refine xB ?_;refine xz (xK ?_);refine xC (hen _ _ _ _) fun v t hv=>?_;obtain⟨w,rfl,rfl⟩:=hv;refine xu ?_;refine xu ?_;refine xF ?_;exact⟨rfl,rfl⟩
 obtain⟨v,t,e,rfl,rfl⟩:=key;exact e
attribute [local go_sem] ltF gtF xI xH ziS ziW ziV ziQ xW in
theorem zyL{q:Nat}{d a b' i l:Int}{u6 u7:AV}(h:25<q)(hsc:q8 u6=true∧q8 u7=true)(L:List (Nat×Option AObj))(n m:Nat)(b:Bool):(evW env O).call 40 [.agg [.int .i64 (.ofNat q),.int .i64 d,.int .i64 a,.int .i64 b',.int .i64 i,.int .i64 l,u6,u7]] (KL L n m b [] none)=some (.bool false,KL L n m b [] none):=by
 have key:Cv ((evW env O).call 40 [.agg [.int .i64 (.ofNat q),.int .i64 d,.int .i64 a,.int .i64 b',.int .i64 i,.int .i64 l,u6,u7]] (KL L n m b [] none)) fun v t=>v=.bool false∧t=KL L n m b [] none:=by
  refine wI (F:=f40) (H.no _) rfl rfl (ziF rfl) ?_;obtain⟨h6,h7⟩:=hsc;simp only[q8]at h6 h7;have h1:ltD (.ofNat q) (.ofNat 1)=false:=decide_eq_false fun hh=>by have:=Int.ofNat_lt.1 hh;omega
  have h2:ltD (.ofNat 25) (.ofNat q)=true:=decide_eq_true (Int.ofNat_lt.2 h);clear h;unfold f40 cF;simp only;refine xB ?_;refine xB ?_;refine xF ?_;exact⟨rfl,rfl⟩
 obtain⟨v,t,e,rfl,rfl⟩:=key;exact e
end
section
variable {O:Orc}(H:IsaO O)
include H
attribute [local go_sem] ltF gtF xI xH ziS ziW ziV ziQ xW in
theorem zvQ{x:VJ}{nf nc lb:Nat}(h:OpOk nf nc lb x.op x.d x.imm x.lb x.ul)(L:List (Nat×Option AObj))(n m:Nat)(b:Bool):(evW env O).call 21 [.agg (qb x)] (KL L n m b [] none)=some (.bool true,KL L n m b [] none):=by
 have key:Cv ((evW env O).call 21 [.agg (qb x)] (KL L n m b [] none)) fun v t=>v=.bool true∧t=KL L n m b [] none:=by
  refine wI (F:=f21) (H.no _) rfl rfl (Nat.le_of_ble_eq_true rfl) ?_;obtain⟨q,d,a,b',i,l,ul⟩:=x;simp only at h;simp only[qb];have hpl:=fun(q r:Nat) (h:(q,r)∈X9) (hi:Hp q i)=>zun H (d:=d) (a:=a) (b':=b') (l:=l) (u6:=.lst ul.length false (xA xL ul)) (u7:=.lst 0 false []) h hi ⟨rfl,rfl⟩;have hp0:=fun(q:Nat) (h:25<q)=>zyL H (d:=d) (a:=a) (b':=b') (i:=i) (l:=l) (u6:=.lst ul.length false (xA xL ul)) (u7:=.lst 0 false []) h ⟨rfl,rfl⟩;have hcase:(∃q' r,q=.ofNat q'∧(q',r)∈X9∧Hp q' i)∨(∃q',q=.ofNat q'∧((26≤q'∧q'≤31)∨(64≤q'∧q'≤72))):=by
   cases h with
   |tri z=>
    simp only[ziU,zhv,or_false]at z;rcases z with rfl|rfl|rfl|rfl|rfl
    ·exact .inl ⟨1,1,rfl,by decide,by constructor<;>decide⟩
    ·exact .inl ⟨2,1,rfl,by decide,by constructor<;>decide⟩
    ·exact .inl ⟨7,1,rfl,by decide,by constructor<;>decide⟩
    ·exact .inl ⟨8,1,rfl,by decide,by constructor<;>decide⟩
    ·exact .inl ⟨9,1,rfl,by decide,by constructor<;>decide⟩
   |off z z1 z2=>
    have z1':(0:Int)≤i:=z1;have z2':i<(32768:Int):=z2;have hI:(Int.negSucc 32767:Int)≤i∧i≤zA 32767:=⟨Int.le_trans (by decide) z1,by show i≤(32767:Int);omega⟩
    simp only[ziU,zhv,or_false]at z;rcases z with rfl|rfl|rfl
    ·exact .inl ⟨15,2,rfl,by decide,hI⟩
    ·exact .inl ⟨24,2,rfl,by decide,hI⟩
    ·exact .inl ⟨25,4,rfl,by decide,hI⟩
   |msk z z1 z2=>
    have z2':i<(32:Int):=z2;have hI:(zA 0:Int)≤i∧i≤zA 65535:=⟨z1,by show i≤(65535:Int);omega⟩
    simp only[ziU,zhv,or_false]at z;rcases z with rfl|rfl
    ·exact .inl ⟨16,2,rfl,by decide,hI⟩
    ·exact .inl ⟨17,2,rfl,by decide,hI⟩
   |shf z=>
    simp only[ziU,zhv,or_false]at z;rcases z with rfl|rfl
    ·exact .inl ⟨19,2,rfl,by decide,by constructor<;>decide⟩
    ·exact .inl ⟨20,2,rfl,by decide,by constructor<;>decide⟩
   |br z _=>
    simp only[ziU,zhv,or_false]at z;rcases z with rfl|rfl|rfl|rfl|rfl|rfl<;>exact .inr ⟨_,rfl,by decide⟩
   |mov z=>
    simp only[ziU,zhv,or_false]at z;rcases z with rfl|rfl<;>exact .inr ⟨_,rfl,by decide⟩
   |call z=>exact .inr ⟨_,rfl,by decide⟩
   |tail z _ _=>exact .inr ⟨_,rfl,by decide⟩
   |addr z=>exact .inr ⟨_,rfl,by decide⟩
   |data z=>exact .inr ⟨_,rfl,by decide⟩
   |leave z=>exact .inr ⟨_,rfl,by decide⟩
  clear h;unfold f21 cF;simp only;rcases hcase with ⟨q',r,rfl,h1,h2⟩|⟨q',rfl,h1⟩
  ·have hc:=hpl q' r h1 h2;clear hpl hp0 h1 h2;refine xB ?_;refine xB ?_;refine xu ?_;refine xF ?_;exact⟨rfl,rfl⟩
  ·have hc:=hp0 q' oM;have d1:∀k:Nat,ltD (.ofNat q') (.ofNat k)=decide (q'<k):=fun k=>decide_eq_decide.2 Int.ofNat_lt;have d2:∀k:Nat,ltD (.ofNat k) (.ofNat q')=decide (k<q'):=fun k=>decide_eq_decide.2 Int.ofNat_lt;clear hpl hp0;rcases h1 with ⟨h1,h2⟩|⟨h1,h2⟩
   ·have e1:=(d1 26).trans (decide_eq_false oM);have e2:=(d2 31).trans (decide_eq_false oM);clear d1 d2;refine xB ?_;refine xB ?_;refine xu ?_;refine xF ?_;exact⟨rfl,rfl⟩
   ·have e1:=(d1 26).trans (decide_eq_false oM);have e2:=(d2 31).trans (decide_eq_true oM);have e3:=(d1 64).trans (decide_eq_false oM);have e4:=(d2 72).trans (decide_eq_false oM);clear d1 d2;refine xB ?_;refine xB ?_;refine xu ?_;refine xF ?_;exact⟨rfl,rfl⟩
 obtain⟨v,t,e,rfl,rfl⟩:=key;exact e
end
open Int renaming reduceOfNat → rO, reduceNegSucc → rN
theorem zlI{α:Type}{t:Nat}{f:α→List AV}(hl:∀x,(f x).length=esz)(hs:∀x,xZ (f x)=true)(he:1≤esz){L:List (Nat×Option AObj)}{m:Nat}{vs:List α}{w:α}{y:AV}(hne:vs≠[])(g1:xD L id=some (.row t (xA f vs) true false))(h1:uJ y=some 1)(h2:wS (KL L n m true [] none) esz 1 y=some (f w))(hb:2*(vs.length+1)*bytes≤281474976710656)(hn:vs.length+1<1000000000000):
  ∃L' m',vC (KL L n m true [] none) t esz bytes (gSl esz id vs.length) y=some (gSl esz n (vs++[w]).length,KL L' (n+1) m' true [] none)∧xD L' n=some (.row t (xA f (vs++[w])) true false)∧(∀j,j<n→j≠id→xD L' j=xD L j):=by
 have hfl:xA f [w]=f w:=qO w;cases vs with
 |nil=>exact absurd rfl hne
 | cons z us=>
  simp only[zU]at hb hn;have key:Cv (vC (KL L n m true [] none) t esz bytes (gSl esz id (z::us).length) y) fun v s=>∃L' m',v=gSl esz n ((z::us)++[w]).length∧s=KL L' (n+1) m' true [] none∧xD L' n=some (.row t (xA f ((z::us)++[w])) true false)∧(∀j,j<n→j≠id→xD L' j=xD L j):=by
   refine⟨_,_,Vd (q:=0) (by rw[x5];exact g1) (by rw[ql hl];rfl) h1 h2 (hs w) he hb oM,_,_,?_,rfl,by rw[xr,if_pos rfl,wj,hfl],fun j hj hne=>by rw[xr,if_neg oM,xr,if_neg hne]⟩
   simp only[zG,zU,yl,gSl]
   congr 1
  obtain⟨v,s,e,L',m',rfl,rfl,h3,h4⟩:=key;exact⟨L',m',e,h3,h4⟩
section
variable {O:Orc}(H:IsaO O)
include H
attribute [local go_sem] ltF gtF in
theorem zoC{L:List (Nat×Option AObj)}{p R r:Nat}{a0 a2 a3 a4 a5 a6:AV}(g:xD L p=some (.row 35 [a0,.int .i64 (.ofNat R),a2,a3,a4,a5,a6] false false))(hr:r<R)(n m:Nat)(b:Bool):(evW env O).call 23 [.int .i64 (.ofNat r),.ptr p 0] (KL L n m b [] none)=some (.bool false,KL L n m b [] none):=by
 have key:Cv ((evW env O).call 23 [.int .i64 (.ofNat r),.ptr p 0] (KL L n m b [] none)) fun v t=>v=.bool false∧t=KL L n m b [] none:=by
  refine wI (F:=f23) (H.no _) rfl rfl (ziF rfl) ?_;have h1:ltD (.ofNat r) (.ofNat R)=true:=decide_eq_true (Int.ofNat_lt.2 hr);have h2:ltD (.ofNat r) (.ofNat 0)=false:=decide_eq_false fun h=>by have:=Int.ofNat_lt.1 h;omega
  unfold f23 cF;simp only;refine xB ?_;refine xu ?_;refine xF ?_;exact⟨rfl,rfl⟩
 obtain⟨v,t,e,rfl,rfl⟩:=key;exact e
attribute [local go_sem] ltF gtF in
theorem zv5{L:List (Nat×Option AObj)}{p R:Nat}{a0 a2 a3 a4 a5 a6:AV}(g:xD L p=some (.row 35 [a0,.int .i64 (.ofNat R),a2,a3,a4,a5,a6] false false)){l:List Int}(hl:l.length<10000000000)(hr:∀x∈l,InR R x)(gl:l≠[]→xD L id=some (.row 3 (xA xL l) true false))(n m:Nat)(b:Bool):
  (evW env O).call 41 [gSl 1 id l.length,.fn 23 [] [.ptr p 0]] (KL L n m b [] none)=some (.int .i64 (.negSucc 0),KL L n m b [] none):=by
 have hc:=fun r (h:r<R) n m b=>zoC H g h n m b;have key:Cv ((evW env O).call 41 [gSl 1 id l.length,.fn 23 [] [.ptr p 0]] (KL L n m b [] none)) fun r t=>r=.int .i64 (.negSucc 0)∧t=KL L n m b [] none:=by
  refine wI (F:=f41) (H.no _) rfl rfl (ziF rfl) ?_;unfold f41 cF;simp only;have hsc:=jj 1 id l.length;have hvl:=fun s=>ww s 1 id l.length;refine xB ?_;refine xz (xz (xu ?_));refine xE ?_;refine xU (fun i:Nat=>l.length-i) (fun i f t=>∃T,f=⟨tmL T,[]⟩∧t=KL L n 0 true [] none∧(tmL T).get 0=some (gSl 1 id l.length)∧(tmL T).get 1=some (.fn 23 [] [.ptr p 0])∧(tmL T).get 7=some (.int .i64 (.ofNat l.length))∧(tmL T).get 8=some (.int .i64 (.ofNat i))∧i≤l.length) (fun i f t hI=>?_) 0 ⟨_,rfl,rfl,sW,sW,sV,sW,zK _⟩;obtain⟨T,rfl,rfl,t0,t1,t7,t8,hi⟩:=hI;rcases xQ l i with ⟨hlt,hd⟩|⟨x,hlt,hd⟩
  ·have:¬i<l.length:=oM;refine xu ?_;refine xu ?_;refine xF ?_;exact⟨rfl,rfl⟩
  ·have gl:=gl (fun h=>by subst h;simp at hlt)
   obtain⟨r,rfl,hr⟩:=hr x (zi2 (by rw[hd];exact zi9))
   have hia:= @X1 1 id l.length i hlt;have hcut:=jx hd;have hcx:=fun n m b=>hc r hr n m b;clear hc;refine xu ?_;refine⟨i+1,⟨_,rfl,trivial,sV,sV,sV,sV,oM⟩,oM⟩
 obtain⟨r,t,h,rfl,rfl⟩:=key;exact h
attribute [local go_sem] ltF gtF in
theorem Gu{L:List (Nat×Option AObj)}{p R:Nat}{a0 a2 a3 a4 a5 a6:AV}(g:xD L p=some (.row 35 [a0,.int .i64 (.ofNat R),a2,a3,a4,a5,a6] false false)){l:List Int}(hl:l.length<10000000000)(hr:∀x∈l,InR R x)(gl:l≠[]→xD L id=some (.row 3 (xA xL l) true false))(n m:Nat)(b:Bool):
  (evW env O).call 22 [gSl 1 id l.length,.fn 23 [] [.ptr p 0]] (KL L n m b [] none)=some (.bool false,KL L n m b [] none):=by
 have hc:=fun n m b=>zv5 H g hl hr gl n m b;have key:Cv ((evW env O).call 22 [gSl 1 id l.length,.fn 23 [] [.ptr p 0]] (KL L n m b [] none)) fun r t=>r=.bool false∧t=KL L n m b [] none:=by
  refine wI (F:=f22) (H.no _) rfl rfl (ziF rfl) ?_;unfold f22 cF;simp only;refine xB ?_;refine xu ?_;refine xF ?_;exact⟨rfl,rfl⟩
 obtain⟨r,t,h,rfl,rfl⟩:=key;exact h
end
section
variable {O:Orc}
attribute [local go_sem] ltF gtF xI xH ziS ziW ziV ziQ xW in
theorem zzK(h68:O 20=none)(h88:O 39=none){x y:Int}{b:List Int}(hb:b.length<1000000000){L:List (Nat×Option AObj)}{m:Nat}:
  Cv ((evW env O).call 20 [.lst 2 true [.lst 2 true [.int .i64 x,.int .i64 y],.lst b.length false (xA xL b)]] (KL L n m true [] none)) fun v t=>∃L2 m2,v=gSl 1 n (x::y::b).length∧t=KL L2 (n+1) m2 true [] none∧xD L2 n=some (.row 3 (xA xL (x::y::b)) true false)∧∀j,j<n→xD L2 j=xD L j:=by
 refine xO (F:=f20) h68 rfl rfl (ziF rfl) ?_;unfold f20 cF;simp only;have hs2:∀s,wS s 1 2 (.lst 2 true [.int .i64 x,.int .i64 y])=some (xA xL [x,y]):=fun _=>rfl;have hsb:∀s,b≠[]→wS s 1 b.length (.lst b.length false (xA xL b))=some (xA xL b):=fun s _=>by
  show xV (b.length*1) _=_;exact wF (ql qy _)
 refine xB ?_;refine xB ?_;refine xz (xz (xu ?_));refine xE ?_;refine xU (fun i:Nat=>2-i) (fun i f t=>∃T,f=⟨tmL T,[]⟩∧t=KL L n m false [] none∧(tmL T).get 0=some (.lst 2 true [.lst 2 true [.int .i64 x,.int .i64 y],.lst b.length false (xA xL b)])∧(tmL T).get 3=some (.int .i64 (.ofNat (two [x,y] b i)))∧(tmL T).get 9=some (.lst 2 true [.lst 2 true [.int .i64 x,.int .i64 y],.lst b.length false (xA xL b)])∧(tmL T).get 10=some (.int .i64 (.ofNat 2))∧(tmL T).get 11=some (.int .i64 (.ofNat i))∧i≤2) (fun i f t hI=>?_) 0 ⟨_,rfl,rfl,sW,by simp (disch:=first|exact dis|fail)only[go_sem,seval,-rO,-rN,two],sW,sW,sW,zK _⟩
 obtain⟨T,rfl,rfl,t0,t3,t9,t10,t11,hi⟩:=hI
 match i,hi with
 |0,_=>
  simp only[two]at t3;refine xu ?_;refine⟨1,⟨_,rfl,trivial,sV,by simp (disch:=first|exact dis|fail)only[go_sem,seval,-rO,-rN,two,zU,xd],sV,sV,sV,oM⟩,oM⟩
 |1,_=>
  simp only[two,zU,xd]at t3;refine xu ?_;refine⟨2,⟨_,rfl,trivial,sV,by simp (disch:=first|exact dis|fail)only[go_sem,seval,-rO,-rN,two,zU,xd],sV,sV,sV,oM⟩,oM⟩
 | 2,_=>
  simp only[two,zU,xd]at t3;rw[show 0+1+1+b.length=b.length+1+1 by omega]at t3
  have hg:=GQ h88 (b.length+1) oM L n m false;refine xu ?_;refine xB ?_;refine xz (xz (xu ?_));refine xE ?_;refine xU (fun i:Nat=>2-i) (fun i f t=>∃T L2 m2 z,f=⟨tmL T,[]⟩∧t=KL L2 (n+1) m2 false [] none∧(tmL T).get 6=some (.sl n 0 (vZ [x,y] b i).length (.opn 1))∧(tmL T).get 25=some (.lst 2 true [.lst 2 true [.int .i64 x,.int .i64 y],.lst b.length false (xA xL b)])∧(tmL T).get 26=some (.int .i64 (.ofNat 2))∧(tmL T).get 27=some (.int .i64 (.ofNat i))∧i≤2∧xD L2 n=some (.row 3 (xA xL (vZ [x,y] b i)++z) true false)∧(vZ [x,y] b i).length+z.length=b.length+1+1∧∀j,j<n→xD L2 j=xD L j) (fun i f t hI=>?_) 0 ⟨_,_,_,reps (b.length+1+1) [.int .i64 (.ofNat 0)],rfl,rfl,by simp (disch:=first|exact dis|fail)only[go_sem,seval,-rO,-rN,vZ],sW,sW,sW,zK _,by rw[xG];rfl,?_,fun j hj=>by rw[xr,if_neg oM]⟩
  ·clear hg t0 t3 t9 t10 t11;obtain⟨T,L2,m2,z,rfl,rfl,t6,t9,t10,t11,hi,gr,hz,hfr⟩:=hI
   match i,hi with
   |0,_=>
    simp only[vZ,xd,xA,ziZ,yC]at t6 gr hz;have hap:=fun m=> @QF L2 (n+1) m n [] [x,y] z (.lst 2 true [.int .i64 x,.int .i64 y]) gr (by simp only[zU,xd];omega) rfl (fun _=>hs2 _)
    simp only[xd,ziZ]at hap;clear hs2 hsb;refine xB ?_;refine xz (x4 sW ?_);refine xu ?_;refine xz (xE ?_);refine xB ?_;refine xK ?_;refine xC (hap _) fun v t hv=>?_;obtain⟨rfl,L3,m3,rfl,g3,hf3⟩:=hv;clear hap gr;refine xu ?_;refine xu ?_;refine⟨1,⟨_,L3,_,z.drop 2,rfl,rfl,by simp (disch:=first|exact dis|fail)only[go_sem,seval,-rO,-rN, *,vZ],sV,sV,sV,oM,g3,by simp only[vZ,ziH,zU,xd];omega,fun j hj=>by rw[(hf3 j oM).1];exact hfr j hj⟩,oM⟩
   |1,_=>
    simp only[vZ]at t6 gr hz;have hap:=fun m=> @QF L2 (n+1) m n [x,y] b z (.lst b.length false (xA xL b)) gr (by simp only[zU,xd]at hz;omega) rfl (fun h=>hsb _ h)
    clear hs2 hsb;refine xB ?_;refine xz (x4 sW ?_);refine xu ?_;refine xz (xE ?_);refine xB ?_;refine xK ?_;refine xC (hap _) fun v t hv=>?_;obtain⟨rfl,L3,m3,rfl,g3,hf3⟩:=hv;clear hap gr;refine xu ?_;refine xu ?_;refine⟨2,⟨_,L3,_,z.drop b.length,rfl,rfl,by simp (disch:=first|exact dis|fail)only[go_sem,seval,-rO,-rN, *,vZ],sV,sV,sV,oM,g3,(by simp only[zU,xd]at hz;simp only[vZ,ziH,yl,zU,xd];omega),fun j hj=>by rw[(hf3 j oM).1];exact hfr j hj⟩,oM⟩
   |2,_=>
    simp only[vZ,yl,zU,xd]at t6 gr hz;have hz0:z=[]:=yr oM;subst hz0;rw[ziJ]at gr;clear hs2 hsb;refine xu ?_;refine xu ?_;refine xF ?_;refine⟨L2,m2,?_,rfl,gr,hfr⟩;simp only[zU];rw[show 0+1+1+b.length=b.length+1+1 by omega];rfl
  ·simp only[vZ,xd,yC];rw[j5];simp only[zU,xd];omega
end
def Qx(l:List Int):List (Int×Int):=l.map fun v=>(v,.ofNat 1)
theorem KJ{v:Int}:∀{l:List Int},v∉l→lkN v (Qx l)=none
 |[],_=>rfl
 |x::r,h=>by
  simp only[ziU,not_or]at h;simp only[Qx,zv,lkN];rw[if_neg (Ne.symm h.1)];exact KJ h.2
theorem KM{v:Int}:∀{l:List Int},v∈l→lkN v (Qx l)=some (.ofNat 1)
 | x::r,h=>by
  simp only[Qx,zv,lkN];by_cases e:x=v
  ·rw[if_pos e]
  ·rw[if_neg e];rcases List.mem_cons.1 h with rfl|h
   ·exact absurd rfl e
   ·exact KM h
theorem Xk:∀a b:List VJ,jD (a++b)=jD a++jD b
 |[],_=>rfl
 |x::a,b=>by
  simp only[zG,jD,Xk a b];split<;>rfl
theorem Gw{l:List VJ}{i:Nat}{o:VJ}{r:List VJ}(hd:l.drop i=o::r):xV 8 (wl (i*8) (xA qb l))=some (qb o):=YY VA hd
theorem zy7{α:Type}{l:List α}{i:Nat}{x:α}{r:List α}(hd:l.drop i=x::r):l.take (i+1)=l.take i++[x]:=by
 have hi:i<l.length:=by
  have:=congrArg y8 hd;simp only[ziH,zU]at this;omega
 rw[List.take_add_one];have e1:l[i]? =some x:=by rw[←zhy,hd];rfl
 rw[e1];rfl
section
variable {P:Program}{w0:World}(B:Bx P w0){O:Orc}(hO:OrcOk P w0 O)
include B hO
attribute [local go_sem] jo Zd kU kT jQ Z8 QM ltF gtF xI xH ziS ziW ziV ziQ xW in
theorem zoD(H:IsaO O)(h68:O 20=none)(h88:O 39=none){nf nc:Nat}(F:VF)(hF:GdF nf nc F)(hpn:∃k,F.pn=.ofNat k):∃s1,SC P w0 9 [pD F] (s00 0 true) (.int .i64 (.ofNat 0)) s1:=by
 refine be B hO f9 ?_;obtain⟨fn,R,nd,pn,rest,is⟩:=F;obtain⟨k,hk⟩:=hpn;simp only at hk;subst hk;obtain⟨⟨lb,hlb,hperm,hok⟩,hR,hR0,hnd,hlen,hls⟩:=hF;simp only at hperm hok hR hR0 hnd hlen hls;have hnod:(jD is).Nodup:=hperm.nodup_iff.2 (zyX lb);have hmem:∀k,k<lb→zA k∈jD is:=fun k hk=>hperm.mem_iff.2 (by simp only[Xy,List.mem_map,List.mem_range];exact⟨k,hk,rfl⟩)
 have hne:is≠[]:=fun e=>by subst e;simp at hls
 have hl0:∃j,is.length=j+1:=⟨is.length-1,by cases is with
  |nil=>exact absurd rfl hne
  |cons a r=>simp⟩
 have hR1:ltD (.ofNat R) (.ofNat 32)=false:=decide_eq_false fun h=>by have:=Int.ofNat_lt.1 h;omega
 have hz:∀k:Nat,ltD (.ofNat k) (.ofNat 0)=false:=fun k=>decide_eq_false fun h=>by have:=Int.ofNat_lt.1 h;omega
 have z1:=hz nd;have z2:=hz k;have z4:eqD (.ofNat is.length) (.ofNat 0)=false:=decide_eq_false fun h=>by
  have:=Int.ofNat.inj h;exact hne (yr this)
 simp only[pD,qz];unfold f9 cF;simp only;refine xB ?_;refine xB ?_;refine xB ?_;refine xz (xz (xu ?_));refine xE ?_;refine xU (fun i:Nat=>is.length-i) (fun i f t=>∃T L2 n2 m2,f=⟨tmL T,[]⟩∧t=KL L2 n2 m2 true [] none∧(tmL T).get 1=some (.ptr 0 0)∧(tmL T).get 3=some (.map 1)∧(tmL T).get 36=some (.lst is.length false (xA qb is))∧(tmL T).get 37=some (.int .i64 (.ofNat is.length))∧(tmL T).get 38=some (.int .i64 (.ofNat i))∧i≤is.length∧2≤n2∧xD L2 0=some (.row 35 [.int .i64 fn,.int .i64 (.ofNat R),.int .i64 (.ofNat 0),.int .i64 (.ofNat nd),.int .i64 (.ofNat k),.bool rest,.lst is.length false (xA qb is)] false false)∧xD L2 1=some (.umap (uN (Qx (jD (is.take i)))))) (fun i f t hI=>?_) 0 ⟨_,_,_,_,rfl,rfl,sV,sV,sV,sV,sV,zK _,zo _,by rw[xr,if_neg oM,xG],xG _ _ _⟩
 clear z1 z2 z4 hR1;obtain⟨T,L2,n2,m2,rfl,rfl,t1,t3,t36,t37,t38,hi,hn2,g0,g1⟩:=hI;rcases xQ is i with ⟨hlt,hd⟩|⟨x,hlt,hd⟩
 ·have hni:¬i<is.length:=oM;rw[zE oM]at g1;clear hd hlt hi;refine xu ?_;clear t36 t37 t38;refine xz (xz (xu ?_));refine xE ?_;refine xU (fun i:Nat=>is.length-i) (fun i f t=>∃T L2 n2 m2,f=⟨tmL T,[]⟩∧t=KL L2 n2 m2 true [] none∧(tmL T).get 1=some (.ptr 0 0)∧(tmL T).get 3=some (.map 1)∧(tmL T).get 52=some (.lst is.length false (xA qb is))∧(tmL T).get 53=some (.int .i64 (.ofNat is.length))∧(tmL T).get 54=some (.int .i64 (.ofNat i))∧i≤is.length∧2≤n2∧xD L2 0=some (.row 35 [.int .i64 fn,.int .i64 (.ofNat R),.int .i64 (.ofNat 0),.int .i64 (.ofNat nd),.int .i64 (.ofNat k),.bool rest,.lst is.length false (xA qb is)] false false)∧xD L2 1=some (.umap (uN (Qx (jD is))))) (fun i f t hI=>?_) 0 ⟨_,L2,n2,m2,rfl,rfl,sV,sV,sV,sV,sV,zK _,hn2,g0,g1⟩;clear t1 t3 g0 g1 hn2 L2 n2 m2 T;obtain⟨T,L2,n2,m2,rfl,rfl,t1,t3,t52,t53,t54,hi,hn2,g0,g1⟩:=hI;rcases xQ is i with ⟨hlt,hd⟩|⟨x,hlt,hd⟩
  ·have hni:¬i<is.length:=oM;clear hd hlt;refine xu ?_;clear t52 t53 t54;obtain⟨j,hj⟩:=hl0;have hdl:is.drop j=[is[j]'(by omega)]:=by
    rw[ziX oM,List.drop_eq_nil_of_le oM]
   have hlast:is.getLast?=some (is[j]'(by omega)):=by
    rw[List.getLast?_eq_getElem?,yv oM];simp only[hj,Nat.add_sub_cancel]
   obtain⟨x,hx,hxo⟩:=hls;rw[hlast]at hx;cases hx;have hc:=Gw hdl;have hs1:qJ .i64 (zhz (.ofNat is.length) (.ofNat 1))=.ofNat j:=by rw[hj,Wt oM,gq oM];rfl
   have hjl:j<is.length:=oM;generalize is[j]'(by omega)=y at *
   obtain⟨q,d,a,b,imm,l,ul⟩:=y;simp only[qb]at hc hxo;obtain⟨rr,hX,_⟩:=u4 hc;have hc1:xV 1 (wl (j*8) (xA qb is))=some [.int .i64 q]:=by rw[hX];rfl
   obtain rfl:j=is.length-1:=oM;clear hni hj hlast hdl hs1 hX hc;rcases hxo with rfl|rfl
   ·refine xz (xB ?_);refine xu ?_;refine xF ?_;exact wU _ _ _
   ·refine xz (xB ?_);refine xu ?_;refine xF ?_;exact wU _ _ _
  ·have hxm:x∈is:=zi2 (by rw[hd];exact zi9)
   have hgd:=hok x hxm;have hc:=Gw hd;have hfo:=zvQ H hgd.op;have hcase:(∃k,x.lb=.ofNat k∧k<lb∧x.op∈[zA 26,.ofNat 27,.ofNat 28,.ofNat 29,.ofNat 65,.ofNat 66])∨((ltD x.op (.ofNat 26)=true∨(ltD x.op (.ofNat 26)=false∧ltD (.ofNat 31) x.op=true))∧eqD x.op (.ofNat 66)=false∧eqD x.op (.ofNat 65)=false):=by
    have:=hgd.op;obtain⟨q,d,a,b,imm,l,ul⟩:=x;simp only at this⊢;cases this with
    |br z z2=>exact .inl ⟨_,rfl,z2,z⟩
    |tri z=>
     simp only[ziU,zhv,or_false]at z;rcases z with rfl|rfl|rfl|rfl|rfl<;>exact .inr (by decide)
    |off z _ _=>
     simp only[ziU,zhv,or_false]at z;rcases z with rfl|rfl|rfl<;>exact .inr (by decide)
    |msk z _ _=>
     simp only[ziU,zhv,or_false]at z;rcases z with rfl|rfl<;>exact .inr (by decide)
    |shf z=>
     simp only[ziU,zhv,or_false]at z;rcases z with rfl|rfl<;>exact .inr (by decide)
    |mov z=>
     simp only[ziU,zhv,or_false]at z;rcases z with rfl|rfl<;>exact .inr (by decide)
    |call z=>exact .inr (by decide)
    |tail z _ _=>exact .inr (by decide)
    |addr z=>exact .inr (by decide)
    |data z=>exact .inr (by decide)
    |leave z=>exact .inr (by decide)
   obtain⟨q,d,a,b,imm,l,ul⟩:=x;obtain⟨hop,⟨rd,hd1,hrd⟩,⟨ra,ha1,hra⟩,⟨rb,hb1,hrb⟩,hul,hur⟩:=hgd;simp only at hop hd1 ha1 hb1 hul hur hcase;subst hd1 ha1 hb1;simp only[qb]at hc hfo;clear hop hd hxm;have hrd0:=hz rd;clear hz hls hl0 hne hnod hperm hok;refine xB ?_;refine xz (x4 sW ?_);refine xu ?_;refine xz (xE ?_);refine xB ?_;refine xz (xK ?_);refine xC (zzK h68 h88 (x:=.ofNat ra) (y:=.ofNat rb) (b:=ul) oM) fun v t hv=>?_;obtain⟨L3,m3,rfl,rfl,g3,hf3⟩:=hv;have k0:=hf3 0 oM;have k1:=hf3 1 oM;have kx:=hf3 n2 oM;rw[xr,if_neg oM,xr,if_neg oM,g0]at k0;rw[xr,if_neg oM,xr,if_neg oM,g1]at k1;rw[xG]at kx;obtain⟨L4,m4,hap,g4,hf4⟩:=zlI (t:=3) (esz:=1) (bytes:=8) (f:=xL) (w:=.ofNat rd) (y:=.lst 1 true [.int .i64 (.ofNat rd)]) (n:=n2+1+1) (m:=m3) qy uZ oM (vs:=.ofNat ra::.ofNat rb::ul) (by simp) g3 rfl rfl (by simp only[zU];omega) (by simp only[zU];omega)
   have q0:=(hf4 0 oM oM).trans k0;have q1:=(hf4 1 oM oM).trans k1;have qx:=(hf4 n2 oM oM).trans kx;have hcon:=Gu H q0 (l:=(.ofNat ra::.ofNat rb::ul)++[.ofNat rd]) (by simp only[yl,zU,xd];omega) (fun y hy=>by
    rcases List.mem_append.1 hy with hy|hy
    ·rcases List.mem_cons.1 hy with rfl|hy
     ·exact inR hra
     ·rcases List.mem_cons.1 hy with rfl|hy
      ·exact inR hrb
      ·exact hur y hy
    ·rw[List.mem_singleton.1 hy];exact inR hrd) (fun _=>g4)
   simp only[yl,zU,xd,yC]at hap hcon;clear hf3 hf4 g3 g4 g0 g1 hc;refine xu ?_;rcases hcase with ⟨kk,rfl,hkk,hq⟩|⟨hq,hq66,hq65⟩
   ·have hlk:=KM (hmem kk hkk);have hg:=pe (.ofNat kk) (Qx (jD is));rw[hlk,Option.map_some]at hg;have hlku:lkU (.int .i64 (.ofNat 0)) false (some (.int .i64 (.ofNat 1)))=.int .i64 (.ofNat 1):=rfl;clear hmem hlk;simp only[ziU,zhv,or_false]at hq;rcases hq with rfl|rfl|rfl|rfl|rfl|rfl
    all_goals (
    refine xB ?_;refine xB ?_;refine xu ?_;refine xu ?_;exact⟨i+1,⟨_,L4,_,_,rfl,rfl,sV,sV,sV,sV,sV,oM,oM,q0,q1⟩,oM⟩)
   ·clear hmem;cases hq67:eqD q (.ofNat 67)with
    |true=>
     obtain rfl:=eqT.1 hq67;clear hq hq66 hq65 hq67;refine xB ?_;refine xB ?_;refine xu ?_;refine xu ?_;exact⟨i+1,⟨_,L4,_,_,rfl,rfl,sV,sV,sV,sV,sV,oM,oM,q0,q1⟩,oM⟩
    |false=>
     rcases hq with hq|⟨hq,hq31⟩
     ·refine xB ?_;refine xB ?_;refine xu ?_;refine xu ?_;exact⟨i+1,⟨_,L4,_,_,rfl,rfl,sV,sV,sV,sV,sV,oM,oM,q0,q1⟩,oM⟩
     ·refine xB ?_;refine xB ?_;refine xu ?_;refine xu ?_;exact⟨i+1,⟨_,L4,_,_,rfl,rfl,sV,sV,sV,sV,sV,oM,oM,q0,q1⟩,oM⟩
 ·have hc:=Gw hd;have htk:=zy7 hd;have hsplit:jD is=jD (is.take i)++jD (x::is.drop (i+1)):=by
   rw[←Xk,←hd,List.take_append_drop]
  obtain⟨q,d,a,b,imm,l,ul⟩:=x;simp only[qb]at hc;cases hq:eqD q (.ofNat 65)with
  | true=>
   have hq2:=eqT.1 hq;have hni:l∉jD (is.take i):=by
    rw[hsplit]at hnod;simp only[jD,if_pos hq2]at hnod;exact fun h=>(List.nodup_append.1 hnod).2.2 l h l zi9 rfl
   have hlk:=KJ hni;have hg:=pe l (Qx (jD (is.take i)));have hs:=QR l (.ofNat 1) (Qx (jD (is.take i))) hlk;rw[hlk,Option.map_none]at hg;have hon:Qx (jD (is.take i))++[(l,zA 1)]=Qx (jD (is.take (i+1))):=by
    rw[htk,Xk];simp only[jD,if_pos hq2,Qx,List.map_append,zv,yB]
   rw[hon]at hs;have hlku:lkU (.int .i64 (.ofNat 0)) false none=.int .i64 (.ofNat 0):=rfl;clear hsplit htk hd;refine xB ?_;refine xz (x4 sW ?_);refine xu ?_;refine xu ?_;exact⟨i+1,⟨_,_,_,_,rfl,rfl,sV,sV,sV,sV,sV,oM,oM,by (repeat rw[xr,if_neg oM]);exact g0,xG _ _ _⟩,oM⟩
  | false=>
   have hq2:q≠.ofNat 65:=fun e=>by rw[e]at hq;cases hq
   have hon:jD (is.take (i+1))=jD (is.take i):=by
    rw[htk,Xk];simp only[jD,if_neg hq2,ziJ]
   rw[←hon]at g1;clear hsplit htk hd;refine xB ?_;refine xz (x4 sW ?_);refine xu ?_;refine xu ?_;exact⟨i+1,⟨_,_,_,_,rfl,rfl,sV,sV,sV,sV,sV,oM,oM,by (repeat rw[xr,if_neg oM]);exact g0,by (repeat rw[xr,if_neg oM]);exact g1⟩,oM⟩
end
def zps:List Nat:=[15,29,49]
def SelO(O:Orc):Prop:=∀f∈zps,O f=none
theorem SelO.no(H:SelO O)(f:Nat)(h:f∈zps:=by decide):O f=none:=H f h
theorem YA:∀{l:List Trm} {t:Trm},t∈l→wC t≤qB l
 |x::r,t,h=>by
  simp only[qB];rcases List.mem_cons.1 h with rfl|h
  ·omega
  ·have:=YA h;omega
theorem Wv:∀{ks:List Trm} {y:Trm},YQ ks→y∈ks→SzT y
 |t::r,y,h,hy=>by
  simp only[YQ]at h;rcases List.mem_cons.1 hy with rfl|hy
  ·exact h.1
  ·exact Wv h.2 hy
section
variable {O:Orc}(H:SelO O)
include H
attribute [local go_sem] ltF gtF xI xH ziS ziW ziV ziQ xW in
theorem zv4{ks:List Trm}(hk:ks.length<1000000000)(hc:∀t∈ks,∀L n m b,Cv ((evW env O).call 15 [.agg (wy t)] (KL L n m b [] none)) fun v s=>∃r,v=.bool r∧s=KL L n m b [] none)(L:List (Nat×Option AObj))(n m:Nat)(b:Bool):
  Cv ((evW env O).call 49 [.lst ks.length false (wc ks),.fn 15 [] []] (KL L n m b [] none)) fun v s=>∃z,v=.int .i64 z∧s=KL L n m b [] none:=by
 refine wI (F:=f49) (H.no _) rfl rfl (ziF rfl) ?_;unfold f49 cF;simp only;refine xB ?_;refine xz (xz (xu ?_));refine xE ?_;refine xU (fun i:Nat=>ks.length-i) (fun i f t=>∃T L2 n2 m2,f=⟨tmL T,[]⟩∧t=KL L2 n2 m2 true [] none∧(tmL T).get 0=some (.lst ks.length false (wc ks))∧(tmL T).get 1=some (.fn 15 [] [])∧(tmL T).get 7=some (.int .i64 (.ofNat ks.length))∧(tmL T).get 8=some (.int .i64 (.ofNat i))∧i≤ks.length∧n≤n2∧m2%2^n=0) (fun i f t hI=>?_) 0 ⟨_,_,_,_,rfl,rfl,sW,sW,sW,sW,zK _,zo _,ziS _⟩;obtain⟨T,L2,n2,m2,rfl,rfl,t0,t1,t7,t8,hi,hn2,hm2⟩:=hI;rcases xQ ks i with ⟨hlt,hd⟩|⟨x,hlt,hd⟩
 ·have:¬i<ks.length:=oM;refine xu ?_;refine xu ?_;refine xF ?_;exact⟨_,rfl,rfl⟩
 ·have hcut:=zsm hd;have hcx:=hc x (zi2 (by rw[hd];exact zi9))
  clear hc;refine xB ?_;refine xz (x4 sW ?_);refine xu ?_;refine xz (xE ?_);refine xB ?_;refine xz (xK ?_);refine xC (hcx _ _ _ _) fun v t hv=>?_;obtain⟨r,rfl,rfl⟩:=hv;clear hcx;refine xu ?_;cases r with
  |true=>
   refine xu ?_;refine xF ?_;exact⟨_,rfl,rfl⟩
  |false=>
   refine xu ?_;refine xu ?_;exact⟨i+1,⟨_,L2,n2,_,rfl,rfl,sV,sV,sV,sV,oM,hn2,hm2⟩,oM⟩
attribute [local go_sem] ltF gtF xI xH ziS ziW ziV ziQ xW in
theorem Gt{ks:List Trm}(hk:ks.length<1000000000)(hc:∀t∈ks,∀L n m b,Cv ((evW env O).call 15 [.agg (wy t)] (KL L n m b [] none)) fun v s=>∃r,v=.bool r∧s=KL L n m b [] none)(L:List (Nat×Option AObj))(n m:Nat)(b:Bool):
  Cv ((evW env O).call 29 [.lst ks.length false (wc ks),.fn 15 [] []] (KL L n m b [] none)) fun v s=>∃r,v=.bool r∧s=KL L n m b [] none:=by
 refine wI (F:=f29) (H.no _) rfl rfl (ziF rfl) ?_;have hix:=fun L n m b=>zv4 H hk hc L n m b;clear hc;unfold f29 cF;simp only;refine xB ?_;refine xz (xK ?_);refine xC (hix _ _ _ _) fun v t hv=>?_;obtain⟨z,rfl,rfl⟩:=hv;refine xu ?_;refine xu ?_;refine xF ?_;exact⟨_,rfl,rfl⟩
attribute [local go_sem] ltF gtF xI xH ziS ziW ziV ziQ xW in
theorem znZ:∀(k:Nat) (t:Trm),wC t≤k→SzT t→∀L n m b,Cv ((evW env O).call 15 [.agg (wy t)] (KL L n m b [] none)) fun v s=>∃r,v=.bool r∧s=KL L n m b [] none:=by
 intro k
 induction k with
 |zero=>intro t h;have:=qQ t;omega
 | succ k ih=>
  intro t hk hsz L n m b;refine wI (F:=f15) (H.no _) rfl rfl (ziF rfl) ?_;have hl7:=wF (wg t);have hc7:=jT t;unfold f15 cF;simp only;refine xB ?_;refine xz ?_;refine xE ?_;refine xU (fun x:Trm=>wC x) (fun x f t'=>∃T L2 n2 m2,f=⟨tmL T,[]⟩∧t'=KL L2 n2 m2 true [] none∧(tmL T).get 1=some (.ptr n 0)∧(tmL T).get 2=some (.bool false)∧n+1≤n2∧m2%2^n=0∧xD L2 n=some (va x)∧wC x≤k+1∧SzT x) (fun x f t' hI=>?_) t ⟨_,_,_,_,rfl,rfl,sW,sW,zo _,ziS _,by rw[xG];rfl,hk,hsz⟩
  clear hk hsz hl7 hc7 t;obtain⟨T,L2,n2,m2,rfl,rfl,t1,t2,hn2,hm2,g0,hk,hsz⟩:=hI;obtain⟨tk,v,q,g,fn,az,ks⟩:=x;simp only[va,xP]at g0;simp only[wC]at hk⊢;simp only[SzT]at hsz;obtain⟨hs1,hs2,hs3⟩:=hsz;by_cases h1:ks.length=1
  ·obtain⟨y,rfl⟩:∃y,ks=[y]:=by
    rcases ks with _|⟨y,_|_⟩
    ·cases h1
    ·exact⟨y,rfl⟩
    ·simp at h1
   have hc:xV 7 (wc [y])=some (wy y):=by rw[qa];exact qI (wg y)
   simp only[qB,YQ,and_true,zU,xd]at hk hs3 g0⊢;obtain⟨k2,v2,p2,num2,fn2,as2,ks2⟩:=y;simp only[xP]at hc;clear ih h1;refine xB ?_;refine xu ?_;exact⟨.mk k2 v2 p2 num2 fn2 as2 ks2,⟨_,_,_,_,rfl,rfl,sV,sV,hn2,(xI oM).trans hm2,by rw[xG];simp only[va,xP],oM,hs3⟩,oM⟩
  ·have hh1:eqD (.ofNat ks.length) (.ofNat 1)=false:=decide_eq_false fun e=>h1 (Int.ofNat.inj e);have hcl:=fun L n m b=>Gt H (ks:=ks) hs2 (fun t ht L n m b=>ih t (by have:=YA ht;omega) (Wv hs3 ht) L n m b) L n m b
   obtain⟨z,hz⟩:∃z,qJ .i64 (zhz (.ofNat az.length) (.ofNat 2))=z:=⟨_,rfl⟩;clear ih;refine xu ?_;cases h6:eqD tk (.ofNat 6)with
   | true=>
    cases h5:ltD (.ofNat 5) z with
    |true=>
     refine xu ?_;refine xF ?_;exact⟨_,rfl,rfl⟩
    |false=>
     refine xz (xK ?_);refine xC (hcl _ _ _ _) fun v t hv=>?_;obtain⟨r,rfl,rfl⟩:=hv;clear hcl;refine xu ?_;refine xu ?_;refine xF ?_;exact⟨_,rfl,rfl⟩
   |false=>
    refine xz (xK ?_);refine xC (hcl _ _ _ _) fun v t hv=>?_;obtain⟨r,rfl,rfl⟩:=hv;clear hcl;refine xu ?_;refine xu ?_;refine xF ?_;exact⟨_,rfl,rfl⟩
end
theorem zpw(c:Cd):(gT c).length=c.fs.length:=(pf c _).len
theorem zsf{c:Cd}(h:lW P w0 c=.ofNat 0):je P w0 c=.ofNat 0:=by
 unfold lW at h;cases e:eqD (je P w0 c) (.ofNat 0)with
 |false=>rw[e,cond_false]at h;rw[h]at e;cases e
 |true=>exact eqT.1 e
theorem zlK{vars:Int}{nc:Nat}{a:Atm}(h:Gi vars (.ofNat nc) a=true):AtO nc a:=by
 unfold Gi at h;unfold AtO;cases h1:eqD a.k (.ofNat 1)with
 |true=>exact .inl (eqT.1 h1)
 | false=>
  cases h2:eqD a.k (.ofNat 2)with
  |false=>rw[h1,h2]at h;simp at h
  |true=>
   rw[h1,h2]at h;cases h3:x0 a.n (.ofNat nc)with
   |false=>rw[h3]at h;simp at h
   |true=>exact .inr ⟨eqT.1 h2,kH h3⟩
theorem zkA{c:Cd}{f:Fn}{op n:Int}(hg:ltD (.ofNat 20000) c.globals=false)(hfr:f.fr.length≤30)(h:x0 n (Kz c f op)=true):∃j,n=.ofNat j∧j<30000:=by
 simp only[x0,zl,Bool.not_eq_true']at h;obtain⟨j,rfl⟩:=UX h.1;refine⟨j,rfl,?_⟩;have h2:zA j<Kz c f op:=of_decide_eq_true h.2;have hg2:c.globals≤zA 20000:=Int.not_lt.1 (of_decide_eq_false hg);have hm:Kz c f op≤zA 20000:=by
  unfold Kz;cases eqD op (.ofNat 103)||eqD op (.ofNat 104)with
  |true=>exact hg2
  |false=>
   cases eqD op (.ofNat 105)with
   |true=>exact Int.ofNat_le.2 oM
   |false=>exact Int.ofNat_le.2 oM
 have:=Int.ofNat_lt.1 (Int.lt_of_lt_of_le h2 hm);omega
mutual
theorem zrG{c:Cd}{f:Fn}(hg:ltD (.ofNat 20000) c.globals=false)(hfr:f.fr.length≤30):∀t:Trm,vW c f t=true→Gb t→GdT c.fs.length c.consts.length t
 | .mk k v op n fn az ks,h,h3=>by
  simp only[vW,zl]at h;simp only[Gb]at h3;obtain⟨h1,h2⟩:=h;simp only[GdT];refine⟨⟨h3.1,fun a ha=>?_,?_⟩,zxH hg hfr ks h2 h3.2⟩
  ·simp only[ux,zl,Trm.atoms]at h1;exact zlK (List.all_eq_true.1 h1.1 a ha)
  ·simp only[ux,zl,Trm.atoms,Trm.kind,Trm.var,Trm.op,Trm.num,Trm.fn,Trm.kids]at h1;have h1:=h1.2;cases k1:eqD k (.ofNat 1)with
   |true=>
    rw[k1,cond_true]at h1;simp only[Xu,Trm.atoms,Trm.op,Trm.num,Trm.fn,Trm.kids,Trm.var,zl]at h1;obtain⟨a1,a2,a3,a4,a5⟩:=h1;exact .inl ⟨eqT.1 k1,eqT.1 a1,zkA hg hfr a2,of_decide_eq_true a4⟩
   | false=>
    rw[k1,cond_false]at h1;simp only[Zm,zl]at h1;have h1:=h1.2;cases k2:eqD k (.ofNat 2)with
    |true=>
     rw[k2,cond_true]at h1;simp only[zl,decide_eq_true_eq]at h1;exact .inr (.inl ⟨eqT.1 k2,kH h1.1.1,h1.2⟩)
    | false=>
     rw[k2,cond_false]at h1;cases k3:eqD k (.ofNat 3)with
     |true=>
      rw[k3,cond_true]at h1;simp only[zl,decide_eq_true_eq]at h1;exact .inr (.inr (.inl ⟨eqT.1 k3,h1.1,h1.2⟩))
     | false=>
      rw[k3,cond_false]at h1;cases k4:eqD k (.ofNat 4)with
      |true=>
       rw[k4,cond_true]at h1;simp only[zl,decide_eq_true_eq]at h1;exact .inr (.inr (.inr (.inl ⟨eqT.1 k4,h1.1⟩)))
      | false=>
       rw[k4,cond_false]at h1;cases k6:eqD k (.ofNat 6)with
       |true=>
        rw[k6,cond_true]at h1;simp only[zl,decide_eq_true_eq]at h1;exact .inr (.inr (.inr (.inr (.inr (.inl ⟨eqT.1 k6,h1.1⟩)))))
       | false=>
        rw[k6,cond_false]at h1;cases k5:eqD k (.ofNat 5)with
        |true=>
         rw[k5,cond_true]at h1;simp only[zl,decide_eq_true_eq]at h1;exact .inr (.inr (.inr (.inr (.inl ⟨eqT.1 k5,kH h1.1.1,by rw[h1.1.2.2];omega⟩))))
        |false=>
         rw[k5,cond_false]at h1;simp only[zl]at h1;exact .inr (.inr (.inr (.inr (.inr (.inr (eqT.1 h1.1))))))
theorem zxH{c:Cd}{f:Fn}(hg:ltD (.ofNat 20000) c.globals=false)(hfr:f.fr.length≤30):∀l:List Trm,jm c f l=true→YN l→Ho c.fs.length c.consts.length l
 |[],_,_=>by simp only[Ho]
 |t::r,h,h3=>by
  simp only[jm,zl]at h;simp only[YN]at h3;simp only[Ho];exact⟨zrG hg hfr t h.1 h3.1,zxH hg hfr r h.2 h3.2⟩
end
theorem zqZ{c:Cd}(hf:FewC c)(h:lW P w0 c=.ofNat 0){i:Int}{f:Fn}(hm:f∈c.fs):Ju c.fs.length c.consts.length (i,f):=by
 obtain⟨hw,_,_,hg,_⟩:=gG (zsf h);obtain⟨q1,q2,q3,q4⟩:=hf.fn f hm;simp only[jK,zl]at hw;have:=List.all_eq_true.1 hw.2 f hm;simp only[wFn,zl]at this;exact⟨q1,zrG hg q2 f.b this.2.2 q3,q4⟩
structure SelPre(N nf nc:Nat)(c:Cd):Prop where
 ch:ChPre N c
 few:FewC c
 nf:c.fs.length=nf
 nc:c.consts.length=nc
def zwD(nf nc:Nat)(c:Cd)(v:AV):Prop:=(∃e,v=.tup [.lst 0 false [],.int .i64 e]∧eqD e (.ofNat 0)=false)∨∃l:List VF,v=.tup [.lst l.length false (xA qz l),.int .i64 (.ofNat 0)]∧l.length=c.fs.length∧∀i f,c.fs[i]? =some f→∃F,l[i]? =some F∧GdF nf nc F∧F.fn=.ofNat i∧F.pn=.ofNat f.ps.length∧F.rest=f.rest
theorem zrw{α:Type}{f:α→List AV}(hp:∀x,xN (f x)=true)(hw:∀x,wkL (f x)=f x)(vs:List α):∃v0,Xe 0 (ZW f esz id vs)=some v0∧Fz s v0 (.lst vs.length false (xA f vs)):=by
 cases vs with
 |nil=>exact⟨.nils,rfl,by simp only[Fz,wkV,xA,x6,true_and,xd];exact .inl trivial⟩
 |cons v vs=>
  refine⟨.lst (v::vs).length false (xA f (v::vs)),?_,?_⟩
  ·simp only[ZW,Xe,pH,show Nat.ble 0 id=true from xR.2 (zK _),cond_true]
  ·simp only[Fz,wkV,vM hw,wz hp,true_and];exact .inl trivial
theorem QQ{nf nc:Nat}{c:Cd}(e:Int)(h:eqD e (.ofNat 0)=false):∃v,zwD nf nc c v∧x8 v=true∧Fz s (.tup [.nils,.int .i64 e]) v:=by
 refine⟨_,.inl ⟨e,rfl,h⟩,rfl,?_⟩;simp only[Fz];exact⟨_,rfl,wB l9 (wB (wU _ _ _) ji)⟩
section
variable {P:Program}{w0:World}(B:Bx P w0){O:Orc}(hO:OrcOk P w0 O)
include B hO
attribute [local go_sem] ltF gtF xI xH ziS ziW ziV ziQ xW in
theorem zuK{N nf nc:Nat}(H:SelO O)(hchk:O 13=some (zyq P w0 N))(hfree:O 14=some (zlm P w0 N))(hfun:O 16=some (Z0 P w0 16 km (Ju nf nc) (GIF nf nc)))(hfx:lg P w0 16 km (Ju nf nc) (GIF nf nc)):lg P w0 7 qD (SelPre N nf nc) (zwD nf nc):=by
 intro c hc;refine beX B hO f7 ?_;have hch:=fun s=>oc hchk jy c hc.ch (kR c) s;have hfr:=fun s=>oc hfree jy c hc.ch (kR c) s;have hfew:=hc.few;have hpre:=fun(h:lW P w0 c=.ofNat 0) (i:Int) (f:Fn) (hm:f∈c.fs)=>zqZ (i:=i) hfew h hm;have hlen:(Ub P w0 c).length≤c.fs.length:=by
  unfold Ub;cases eqD (je P w0 c) (.ofNat 0)with
  |true=>rw[cond_true,zhw,zpw];exact zo _
  |false=>simp
 have hnf:=hfew.nf;have hsz:=hc.ch.ea.sz.f;have hnt:=hc.ch.nt;have e1:=hc.nf;have e2:=hc.nc
 rw[e1,e2]at hpre;generalize lW P w0 c=ck at *;generalize Ub P w0 c=fv at *;have hcuF:= @VL c.fs;obtain⟨fs,main,vars,globals,consts⟩:=c;simp only at hpre hlen hnf hsz hnt e1 e2 hcuF;clear hc hfew e1 e2;simp only[qD,vv,w9,zxQ]at hch hfr⊢;unfold f7 cF;simp only;refine xB ?_;cases c0:eqD ck (.ofNat 0)with
 |false=>
  refine xz (xB ?_);refine xu ?_;refine xF ?_;exact QQ _ c0
 | true=>
  obtain rfl:=eqT.1 c0;have hpre:=hpre rfl;refine xB ?_;refine xz (xz (xu ?_));refine xE ?_;refine xU (fun i:Nat=>fv.length-i) (fun i f t=>∃T L2 n2 m2,f=⟨tmL T,[]⟩∧t=KL L2 n2 m2 true [] none∧(tmL T).get 1=some (.ptr 0 0)∧(tmL T).get 2=some .nils∧(tmL T).get 17=some (.lst fv.length false (xA v8 fv))∧(tmL T).get 18=some (.int .i64 (.ofNat fv.length))∧(tmL T).get 19=some (.int .i64 (.ofNat i))∧i≤fv.length∧1≤n2∧xD L2 0=some (.row 25 [.lst fs.length false (xA we fs),.int .i64 main,.int .i64 vars,.int .i64 globals,.lst consts.length false (xX consts)] false false)) (fun i f t hI=>?_) 0 ⟨_,_,_,_,rfl,rfl,sV,sV,sV,sV,sV,zK _,zo _,xG _ _ _⟩;clear hch hfr;obtain⟨T,L2,n2,m2,rfl,rfl,t1,t2,t17,t18,t19,hi,hn2,g0⟩:=hI;rcases xQ fv i with ⟨hlt,hd⟩|⟨x,hlt,hd⟩
  ·have hni:¬i<fv.length:=oM;clear hd hlt hi;refine xu ?_;clear t17 t18 t19;refine xB ?_;refine xz (xz (xu ?_));refine xE ?_;refine xU (fun x:Nat×List VF=>fs.length-x.1) (fun x f t=>∃T L3 n3 m3 id,f=⟨tmL T,[]⟩∧t=KL L3 n3 m3 true [] none∧(tmL T).get 7=some (ZW qz 7 id x.2)∧(tmL T).get 39=some (.lst fs.length false (xA we fs))∧(tmL T).get 40=some (.int .i64 (.ofNat fs.length))∧(tmL T).get 41=some (.int .i64 (.ofNat x.1))∧x.1≤fs.length∧x.2.length=x.1∧Js 35 qz L3 n3 id x.2∧∀i f,i<x.1→fs[i]? =some f→∃F,x.2[i]? =some F∧GdF nf nc F∧F.fn=.ofNat i∧F.pn=.ofNat f.ps.length∧F.rest=f.rest) (fun x f t hI=>?_) (0,[]) ⟨_,_,_,_,0,rfl,rfl,by simp (disch:=first|exact dis|fail)only[go_sem,seval,-rO,-rN,ZW],sV,sV,sV,zK _,rfl,fun h=>absurd rfl h,fun _ _ h=>absurd h (Nat.not_lt_zero _)⟩
   clear t1 t2 g0 T hn2 hni;obtain⟨T,L3,n3,m3,id,rfl,rfl,t7,t39,t40,t41,hi,hol,hok,hG⟩:=hI;obtain⟨i,out⟩:=x;simp only at t7 t41 hi hol hok hG⊢;rcases xQ fs i with ⟨hlt,hd⟩|⟨f,hlt,hd⟩
   ·have hni:¬i<fs.length:=oM;obtain⟨v0,hf,hz⟩:=zrw (esz:=7) (id:=id) (s:=KL [] 0 0 true [] none) gC JI out;refine xu ?_;refine xu ?_;refine xF ?_;refine⟨.tup [.lst out.length false (xA qz out),.int .i64 (.ofNat 0)],.inr ⟨out,rfl,by simp only;omega,fun j f hj=>?_⟩,by simp only[uz,xY,wN,qu,x6,xe],?_⟩
    ·exact hG j f (by have:=(List.getElem?_eq_some_iff.1 hj).1;simp only at this;omega) hj
    ·simp only[Fz];exact⟨_,rfl,wB hz (wB (wU _ _ _) ji)⟩
   ·have hm:f∈fs:=zi2 (by rw[hd];exact zi9)
    have hfi:fs[i]? =some f:=by rw[←zhy,hd];rfl
    obtain⟨v,⟨F,rfl,hF,hF1,hF2,hF3⟩,_,hcall⟩:=Y7 hfun hfx zvk (.ofNat i,f) (hpre _ f hm) (args:=km (.ofNat i,f)) (zsy _);have hlong:=fun L n m b=>znZ H (wC f.b) f.b (zo _) (hsz f hm).2.2 L n m b;have hc:=hcuF hd;obtain⟨ps,rest,cont,fr,bb⟩:=f;obtain⟨bk,bv,bo,bn,bf,bas,bks⟩:=bb;simp only at hF1 hF2 hF3;simp only[km,uP,we,xP,qW]at hc hcall hlong;have happ:=fun L n m (hok:Js 35 qz L n id out)=>QE (m:=m) (e:=true) (bytes:=72) Vy gC WO oM hok (ws:=[F]) (by simp only[zU,xd];omega) (by simp only[zU,xd];omega)
    have hcs:=WO F;obtain⟨G,hGF⟩:∃G,G=F:=⟨F,rfl⟩;obtain⟨Ffn,Fregs,Fneed,Fpn,Frest,Fis⟩:=F;simp only[pD,qz,xA,ziJ,zU,xd,yC]at hcall happ hF1 hF2 hF3;subst hF1 hF2 hF3;clear hcuF hd hpre;refine xB ?_;refine xz (x4 sW ?_);refine xu ?_;refine xz (xE ?_);refine xB ?_;refine xz ?_;refine xz (xK ?_);refine xC (hlong _ _ _ _) fun v t hv=>?_;obtain⟨r,rfl,rfl⟩:=hv;clear hlong;refine xu ?_;cases r with
    |true=>
     refine xu ?_;refine xF ?_;exact QQ _ rfl
    | false=>
     refine xu ?_;refine xB ?_;cases hl8:ltD (.ofNat 32768) (.ofNat Fis.length)with
     |true=>
      refine xz (xB ?_);refine xu ?_;refine xF ?_;exact QQ _ rfl
     | false=>
      refine xB ?_;refine xK ?_;refine xC (happ _ _ _ (fun hne=>⟨by have:=(hok hne).1;omega,by have:=(hok hne).1;(repeat rw[xr,if_neg oM]);exact(hok hne).2⟩)) fun v t hv=>?_
      obtain⟨id2,L4,n4,m4,rfl,rfl,q1,_⟩:=hv;clear happ hcall hc;refine xu ?_;refine xu ?_;exact⟨(i+1,out++[⟨.ofNat i,Fregs,Fneed,.ofNat ps.length,Frest,Fis⟩]),⟨_,_,_,_,id2,rfl,rfl,sV,sV,sV,sV,by simp only;omega,by simp only[yl,zU,xd];omega,q1,fun j f hj hf=>by
       simp only at hj⊢;by_cases e:j=i
       ·subst e;rw[hfi]at hf;cases hf;refine⟨_,?_,hF,rfl,rfl,rfl⟩;rw[yA oM];simp only[hol,Nat.sub_self,List.getElem?_cons_zero]
       ·obtain⟨F,g1,g2⟩:=hG j f oM hf;exact⟨F,by rw[ym oM];exact g1,g2⟩⟩,by simp only;omega⟩
  ·have hcl:=YY Vv hd;rw[Nat.mul_one]at hcl;simp only[v8,qW]at hcl;have hif:i<fs.length:=oM;have hdf:fs.drop i=fs[i]::fs.drop (i+1):=ziX hif;have hdr:=ZD hdf;generalize fs[i]=f at hdr;obtain⟨ps,rest,cont,fr,bb⟩:=f;obtain⟨bk,bv,bo,bn,bf,bas,bks⟩:=bb;simp only[we,xP,qW,zG,ziZ]at hdr;clear hdf hcuF hpre hd;refine xB ?_;refine xz (x4 sW ?_);refine xu ?_;refine xz (xE ?_);refine xB ?_;cases b1:ltD (.ofNat 0) (.ofNat x.length)with
   |false=>
    refine xu ?_;refine xu ?_;exact⟨i+1,⟨_,L2,n2,_,rfl,rfl,sV,sV,sV,sV,sV,oM,hn2,g0⟩,oM⟩
   | true=>
    cases b2:eqD (.ofNat fr.length) (.ofNat 0)with
    |false=>
     refine xu ?_;refine xu ?_;exact⟨i+1,⟨_,L2,n2,_,rfl,rfl,sV,sV,sV,sV,sV,oM,hn2,g0⟩,oM⟩
    |true=>
     refine xu ?_;refine xF ?_;exact QQ _ rfl
end
set_option maxRecDepth 1000000
theorem zlT(h:kj P E)(p:Nat→Bool)(u:Bool):kj P {E with pure:=p,um:=u}:=h
def zlU:Env:={env with pure:=fun _=>false,um:=false}
theorem zoM(h:kj P env):kj P zlU:=zlT h (fun _=>false) false
theorem zji:okV (.bool true) ((evT zlU noO 100000).call 6 [] s0)=true:=by decide+kernel
noncomputable def zrD:List AV→St→Option (AV×St):=vr (fun _:Unit=>[]) (fun _=>True) (fun _=>.bool true)
theorem zoe(h:O 6=some zrD)(s:St):(evW env O).call 6 [] s=some (.bool true,s):=by
 rw[wx h,zrD,qH (fun _ _ _=>rfl) s () trivial rfl]
theorem zjj(B:Bx P w0):∃s1,SC P w0 6 [] (s00 0 false) (.bool true) s1:=
 zlx (E:=zlU) (n:=100000) (hH P w0) B.mixed B.glob (zoM B.env) zji
theorem ztt(B:Bx P w0)(hO:OrcOk P w0 O):OrcOk P w0 (withG 6 zrD O):=
 hO.withG ly (Wa false (fun _=>rfl) (fun _=>rfl) fun _ _=>zjj B)
def zr2:List Nat:=[12,5,10]
def LawO(O:Orc):Prop:=∀f∈zr2,O f=none
theorem LawO.no(H:LawO O)(f:Nat)(h:f∈zr2:=by decide):O f=none:=H f h
def zrO(v:Int):List Int→Bool
 |[]=>false
 |x::r=>bif eqD x v then true else zrO v r
theorem LM{v:Int}:∀{l:List Int},v∈l→zrO v l=true
 | x::r,h=>by
  simp only[zrO];cases e:eqD x v with
  |true=>rfl
  |false=>
   rw[cond_false];rcases List.mem_cons.1 h with rfl|h
   ·have:eqD v v=true:=decide_eq_true rfl;rw[this]at e;cases e
   ·exact LM h
section
variable {O:Orc}(H:LawO O)
include H
attribute [local go_sem] ltF gtF xI xH ziS ziW ziV ziQ xW in
theorem zuN:∀(k:Nat) (t:Trm),wC t≤k→SzT t→∀(q:Nat),1≤q→q≤150→∀(L:List (Nat×Option AObj)) (n m:Nat) (b:Bool),
  (evW env O).call 12 [.agg (wy t),.int .i64 (.ofNat q)] (KL L n m b [] none)=some (.int .i64 (.ofNat (szW t q)),KL L n m b [] none):=by
 intro k
 induction k with
 |zero=>intro t h;have:=qQ t;omega
 | succ k ih=>
  intro t hk hs q hq1 hq2 L n m b;have key:Cv ((evW env O).call 12 [.agg (wy t),.int .i64 (.ofNat q)] (KL L n m b [] none)) fun v t'=>v=.int .i64 (.ofNat (szW t q))∧t'=KL L n m b [] none:=by
   refine wI (F:=f12) (H.no _) rfl rfl (ziF rfl) ?_;have hsub:qJ .i64 (zhz (.ofNat q) (.ofNat 1))=.ofNat (q-1):=by rw[Wt oM,gq oM]
   obtain⟨R,hR⟩:∃R,szW t q=R:=⟨_,rfl⟩;rw[hR];obtain⟨tk,v,op,num,fn,az,ks⟩:=t;simp only[szW]at hR;simp only[wC]at hk;simp only[SzT]at hs;obtain⟨hs1,hs2,hs3⟩:=hs;simp only[xP];unfold f12 cF;simp only;refine xB ?_;refine xB ?_;by_cases h30:30<az.length
   ·rw[if_pos h30]at hR;subst hR;refine xz (xB ?_);refine xu ?_;refine xF ?_;exact⟨rfl,rfl⟩
   ·rw[if_neg h30]at hR;refine xB ?_;refine xz (xz (xu ?_));refine xE ?_;refine xU (fun x:Nat×Nat=>ks.length-x.1) (fun x fr s=>∃T m',fr=⟨tmL T,[]⟩∧s=KL ((n,some (.row 40 [.int .i64 tk,.int .i64 v,.int .i64 op,.int .i64 num,.int .i64 fn,.lst az.length false (xA qp az),.lst ks.length false (wc ks)] false false))::L) (n+1) m' true [] none∧(tmL T).get 1=some (.int .i64 (.ofNat x.2))∧(tmL T).get 2=some (.ptr n 0)∧(tmL T).get 5=some (.int .i64 (.ofNat x.1))∧m'%2^n=0∧x.1≤ks.length∧x.2≤150∧R=XC (ks.drop x.1) x.2) (fun x fr s hI=>?_) (0,q-1) ⟨_,_,rfl,rfl,sV,sW,sW,by simp,zK _,by simp only;omega,hR.symm⟩
    clear hR hsub;obtain⟨i,p⟩:=x;obtain⟨T,m',rfl,rfl,t1,t2,t5,hm,hi,hp,he⟩:=hI;simp only at t1 t5 hi hp he;rcases xQ ks i with ⟨hlt,hd⟩|⟨x,hlt,hd⟩
    ·rw[hd]at he;simp only[XC]at he;subst he;have hni:¬i<ks.length:=oM;clear ih;refine xu ?_;refine xu ?_;refine xF ?_;exact⟨rfl,rfl⟩
    ·rw[hd]at he;simp only[XC]at he;by_cases hp0:p=0
     ·subst hp0;rw[if_pos rfl]at he;subst he;clear ih;refine xu ?_;refine xu ?_;refine xF ?_;exact⟨rfl,rfl⟩
     ·rw[if_neg hp0]at he;have hxm:x∈ks:=zi2 (by rw[hd];exact zi9)
      have hcall:=ih x (by have:=YA hxm;omega) (Wv hs3 hxm) p oM hp
      have hle:=zy6 x p;have hp1:0<p:=oM;have hc:=zsm hd;generalize szW x p=z at *;clear ih hd;refine xu ?_;exact⟨(i+1,z),⟨_,_,rfl,rfl,sV,sV,sV,hm,by simp only;omega,by simp only;omega,he⟩,by simp only;omega⟩
  obtain⟨v,t',e,rfl,rfl⟩:=key;exact e
attribute [local go_sem] ltF gtF xI xH ziS ziW ziV ziQ xW in
theorem zkm{c:Cd}(hf:c.fs.length<100000000)(hcn:c.consts.length<1000000000)(hsz:∀f∈c.fs,f.ps.length<1000000000∧f.fr.length<1000000000∧SzT f.b)(L:List (Nat×Option AObj))(n m:Nat)(b:Bool):(evW env O).call 5 [.agg (w9 c)] (KL L n m b [] none)=some (.bool (Lu c),KL L n m b [] none):=by
 have key:Cv ((evW env O).call 5 [.agg (w9 c)] (KL L n m b [] none)) fun v t'=>v=.bool (Lu c)∧t'=KL L n m b [] none:=by
  refine wI (F:=f5) (H.no _) rfl rfl (ziF rfl) ?_;obtain⟨R,hR⟩:∃R,Lu c=R:=⟨_,rfl⟩;rw[hR];have hsize:=fun t hs q h1 h2=>zuN H (wC t) t (zo _) hs q h1 h2;obtain⟨fs,main,vars,globals,consts⟩:=c;simp only[Lu]at hR;simp only at hf hcn hsz;obtain⟨W,hW⟩:∃W,V7 fs 150=W:=⟨_,rfl⟩;rw[hW]at hR;simp only[w9];unfold f5 cF;simp only;refine xB ?_;refine xB ?_;refine xz (xz (xu ?_));refine xE ?_;refine xU (fun x:Nat×Nat=>fs.length-x.1) (fun x fr s=>∃T m',fr=⟨tmL T,[]⟩∧s=KL ((n,some (.row 25 [.lst fs.length false (xA we fs),.int .i64 main,.int .i64 vars,.int .i64 globals,.lst consts.length false (xX consts)] false false))::L) (n+1) m' true [] none∧(tmL T).get 1=some (.ptr n 0)∧(tmL T).get 3=some (.int .i64 (.ofNat x.2))∧(tmL T).get 4=some (.int .i64 (.ofNat x.1))∧m'%2^n=0∧x.1≤fs.length∧x.2≤150∧W=V7 (fs.drop x.1) x.2) (fun x fr s hI=>?_) (0,150) ⟨_,_,rfl,rfl,sW,sW,sW,by simp,zK _,zo _,hW.symm⟩
  clear hW;obtain⟨i,p⟩:=x;obtain⟨T,m',rfl,rfl,t1,t3,t4,hm,hi,hp,he⟩:=hI;simp only at t3 t4 hi hp he;have hfin:∀p:Nat,(match some p with|none=>false|some n=>decide (0<n)&&(decide (consts.length≤200)&&decide (fs.length≤400)))=R→(decide (0<p)&&(decide (consts.length≤200)&&decide (fs.length≤400)))=R:=fun _ h=>h
  rcases xQ fs i with ⟨hlt,hd⟩|⟨f,hlt,hd⟩
  ·rw[hd]at he;simp only[V7]at he;rw[he]at hR;have hR:=hfin p hR;have hni:¬i<fs.length:=oM;clear hsize he hd hfin hsz;refine xu ?_;by_cases d1:0<p
   ·by_cases d2:consts.length≤200
    ·by_cases d3:fs.length≤400
     ·rw[decide_eq_true d1,decide_eq_true d2,decide_eq_true d3]at hR;subst hR;refine xu ?_;refine xF ?_;exact⟨rfl,rfl⟩
     ·rw[decide_eq_true d1,decide_eq_true d2,decide_eq_false d3]at hR;subst hR;refine xu ?_;refine xF ?_;exact⟨rfl,rfl⟩
    ·rw[decide_eq_true d1,decide_eq_false d2]at hR;subst hR;refine xu ?_;refine xF ?_;exact⟨rfl,rfl⟩
   ·rw[decide_eq_false d1]at hR;subst hR;refine xu ?_;refine xF ?_;exact⟨rfl,rfl⟩
  ·rw[hd]at he;simp only[V7]at he;by_cases hp0:p=0
   ·subst hp0;rw[if_pos rfl]at he;rw[he]at hR;have hR:=hfin 0 hR;simp only[Nat.lt_irrefl,decide_false,Bool.false_and]at hR;subst hR;clear hsize he hd hfin hsz;refine xu ?_;refine xu ?_;refine xF ?_;exact⟨rfl,rfl⟩
   ·rw[if_neg hp0]at he;have hfm:f∈fs:=zi2 (by rw[hd];exact zi9)
    have hs:=hsize f.b (hsz f hfm).2.2 p oM hp;have hle:=zy6 f.b p;have hp1:0<p:=oM;have hdr:=ZD hd;have hsf:=hsz f hfm;obtain⟨ps,rest,cont,fr,bb⟩:=f;simp only at he hs hle hsf;generalize szW bb p=z at *;obtain⟨bk,bv,bo,bn,bf,bas,bks⟩:=bb;simp only[xP]at hs;simp only[we,xP,qW,zG,ziZ]at hdr;clear hsize hd hsz;refine xB ?_;refine xz ?_;refine xE ?_;refine xB ?_;by_cases h30:30<ps.length
    ·rw[if_pos (.inl h30)]at he;rw[he]at hR;subst hR;refine xu ?_;refine xF ?_;exact⟨rfl,rfl⟩
    ·by_cases h31:30<fr.length
     ·rw[if_pos (.inr h31)]at he;rw[he]at hR;subst hR;refine xu ?_;refine xF ?_;exact⟨rfl,rfl⟩
     ·rw[if_neg oM]at he;refine xu ?_;refine xu ?_;exact⟨(i+1,z),⟨_,_,rfl,rfl,sV,sV,sV,hm,by simp only;omega,by simp only;omega,he⟩,by simp only;omega⟩
 obtain⟨v,t',e,rfl,rfl⟩:=key;exact e
attribute [local go_sem] ltF gtF xI xH ziS ziW ziV ziQ xW in
theorem zrP{l:List Int}{v:Int}(hv:v∈l)(hl:l.length<1000000)(L:List (Nat×Option AObj))(n m:Nat)(b:Bool):(evW env O).call 10 [.lst l.length false (xA xL l),.int .i64 v] (KL L n m b [] none)=some (.bool true,KL L n m b [] none):=by
 have key:Cv ((evW env O).call 10 [.lst l.length false (xA xL l),.int .i64 v] (KL L n m b [] none)) fun r t'=>r=.bool true∧t'=KL L n m b [] none:=by
  refine wI (F:=f10) (H.no _) rfl rfl (ziF rfl) ?_;have hh:=LM hv;unfold f10 cF;simp only;refine xB ?_;refine xz (xz (xu ?_));refine xE ?_;refine xU (fun i:Nat=>l.length-i) (fun i f t=>∃T,f=⟨tmL T,[]⟩∧t=KL L n 0 true [] none∧(tmL T).get 0=some (.lst l.length false (xA xL l))∧(tmL T).get 1=some (.int .i64 v)∧(tmL T).get 5=some (.int .i64 (.ofNat i))∧i≤l.length∧zrO v (l.drop i)=true) (fun i f t hI=>?_) 0 ⟨_,rfl,rfl,sW,sW,sW,zK _,hh⟩;clear hh hv;obtain⟨T,rfl,rfl,t0,t1,t5,hi,hh⟩:=hI;rcases xQ l i with ⟨hlt,hd⟩|⟨x,hlt,hd⟩
  ·rw[hd]at hh;cases hh
  ·have hc:=jx hd;rw[hd]at hh;simp only[zrO]at hh;cases e:eqD x v with
   |true=>
    clear hh;refine xu ?_;refine xF ?_;exact⟨rfl,rfl⟩
   |false=>
    rw[e,cond_false]at hh;refine xu ?_;exact⟨i+1,⟨_,rfl,trivial,sV,sV,sV,oM,hh⟩,oM⟩
 obtain⟨v,t',e,rfl,rfl⟩:=key;exact e
end
structure LgI(N:Nat)(c:Cd):Prop where
 nf:c.fs.length<100000000
 nc:c.consts.length<1000000000
 f:∀f∈c.fs,f.ps.length<1000000000∧f.fr.length<1000000000∧SzT f.b
 cs:CsPre N c.consts
 vs:c.vars< .ofNat 9223372036854775808
mutual
theorem P6:∀t:Trm,Gb t→(pF t).length≤30*wC t
 |.mk k v op n f az ks,h=>by
  simp only[Gb]at h;simp only[pF,wC,yl,zhw];have:=K6 ks h.2;omega
theorem K6:∀l:List Trm,YN l→(YL l).length≤30*qB l
 |[],_=>by simp only[YL,xd];omega
 |t::r,h=>by
  simp only[YN]at h;simp only[YL,qB,yl];have h1:=P6 t h.1;have h2:=K6 r h.2;omega
end
theorem K5:∀l:List Fn,(∀f∈l,(pF f.b).length≤4500)→((l.map fun f=>pF f.b).flatten).length≤4500*l.length
 |[],_=>by simp
 |f::r,h=>by
  have h1:=h f (by simp)
  have h2:=K5 r fun g hg=>h g (by simp[hg])
  simp only[zv,List.flatten_cons,yl,zU];omega
theorem chI{N:Nat}{c:Cd}(h:LgI N c)(hf:FewC c):ChPre N c:=by
 refine⟨⟨h.cs,⟨h.nf,h.f⟩⟩,fun f hm=>?_,?_,h.vs⟩
 ·have:=(hf.fn f hm).2.2.2;omega
 ·have:=K5 c.fs fun f hm=>by
   obtain⟨_,_,q3,q4⟩:=hf.fn f hm;have:=P6 f.b q3;omega
  have h2:=hf.nf;unfold XG;omega
def gY(F:VF):List AV:=[pD F]
theorem zz9:∀x y,gY x=gY y→x=y:=fun x y h=>by
 simp only[gY,pD,List.cons.injEq,AV.agg.injEq,and_true]at h;exact zzC h
theorem zvq(F:VF):wkL (gY F)=gY F:=by simp only[gY,pD,wkL,wkV,JI]
theorem Ll(F:VF):xN (gY F)=true:=by simp only[gY,pD,xY,ve,gC,x6,xe]
theorem Wr:∀k a u,u≤k→(kY k a).drop u=kY (k-u) (a+u)
 |k,a,0,_=>rfl
 |0,a,u+1,h=>by omega
 |k+1,a,u+1,h=>by
  simp only[kY,List.drop_succ_cons];rw[Wr k (a+1) u oM,show a+1+u=a+(u+1) by omega,show k+1-(u+1)=k-u by omega]
def zlB(nf nc:Nat)(F:VF):Prop:=GdF nf nc F∧∃k,F.pn=.ofNat k
noncomputable def zll(nf nc:Nat):List AV→St→Option (AV×St):=vr gY (zlB nf nc) (fun _=>.int .i64 (.ofNat 0))
theorem zlR{l:List VF}{i:Nat}{o:VF}{r:List VF}(hd:l.drop i=o::r):xV 7 (wl (i*7) (xA qz l))=some (qz o):=YY Vy hd
section
variable {P:Program}{w0:World}(B:Bx P w0){O:Orc}(hO:OrcOk P w0 O)
include B hO
attribute [local go_sem] ltF gtF xI xH ziS ziW ziV ziQ xW in
theorem zpg{N nf nc:Nat}(H:LawO O)(hwrk:O 6=some zrD)(hprim:O 11=some Kg)(hsel:O 7=some (Z0 P w0 7 qD (SelPre N nf nc) (zwD nf nc)))(hsx:lg P w0 7 qD (SelPre N nf nc) (zwD nf nc))(hchk:O 9=some (zll nf nc)){c:Cd}(hlg:LgI N c)(hnf:c.fs.length=nf)(hnc:c.consts.length=nc):∃s1,SC P w0 4 (qD c) (s00 0 true) (.bool true) s1:=by
 refine bew B hO f4 ?_;have hw:=fun s=>zoe hwrk s;have hcn:=hlg.nc;have hn0:=hlg.nf;have hsz:=hlg.f;have hfew:=zkm H (c:=c) hn0 hcn hsz;have hselc:=fun(hf:FewC c)=>Y7 hsel hsx jy c ⟨chI hlg hf,hf,hnf,hnc⟩ (kR c);have hf1:=fun(h:Lu c=true)=>zjw h;generalize Lu c=fw at *;clear hn0 hcn;obtain⟨fs,main,vars,globals,consts⟩:=c;simp only at hnf hnc hsz;subst hnf hnc;simp only[qD,vv,w9]at hfew hselc⊢;unfold f4 cF;simp only;refine xB ?_;cases fw with
 |false=>
  clear hselc hf1;refine xz (xB ?_);refine xu ?_;refine xF ?_;exact w7 _ _
 | true =>
  have hfc:=hf1 rfl;have hfsl:=hfc.nf;simp only at hfsl;obtain⟨v,hv,_,hcall⟩:=hselc hfc;clear hselc hf1;rcases hv with ⟨e,rfl,he⟩|⟨l,rfl,hl,hG⟩
  ·refine xB ?_;refine xB ?_;refine xz (xB ?_);refine xu ?_;refine xF ?_;exact w7 _ _
  ·simp only at hl;refine xB ?_;refine xB ?_;refine xB ?_;refine xB ?_;refine xz (xz (xu ?_));refine xE ?_;have hek:∀x:Bool,WA .bool true (.bool x) (.bool x)=some (.bool false):=fun x=>by cases x<;>rfl
   refine xU (fun i:Nat=>fs.length-i) (fun i f t=>∃T L2 n2 m2,f=⟨tmL T,[]⟩∧t=KL L2 n2 m2 false [] none∧(tmL T).get 1=some (.ptr 0 0)∧(tmL T).get 3=some (.lst fs.length false (xA qz l))∧(tmL T).get 5=some (.int .i64 (.ofNat i))∧i≤fs.length∧1≤n2∧xD L2 0=some (.row 25 [.lst fs.length false (xA we fs),.int .i64 main,.int .i64 vars,.int .i64 globals,.lst consts.length false (xX consts)] false false)) (fun i f t hI=>?_) 0 ⟨_,_,_,_,rfl,rfl,sV,sV,sV,zK _,zo _,xG _ _ _⟩;clear hfew hcall;obtain⟨T,L2,n2,m2,rfl,rfl,t1,t3,t5,hi,hn2,g0⟩:=hI;rcases xQ fs i with ⟨hlt,hd⟩|⟨f,hlt,hd⟩
   ·have hni:¬i<fs.length:=oM;clear hd hlt hi hek hG hl;refine xu ?_;refine xu ?_;refine xF ?_;exact w7 _ _
   ·have hfi:fs[i]? =some f:=by rw[←zhy,hd];rfl
    obtain⟨F,hFi,hF,e1,e2,e3⟩:=hG i f hfi;have hdl:l.drop i=F::l.drop (i+1):=by
     have hil:=(List.getElem?_eq_some_iff.1 hFi).1;rw[ziX hil];rw[yv hil,Option.some.injEq]at hFi;rw[hFi]
    have hc:=zlR hdl;have hck:=fun s=>oc hchk zz9 F ⟨hF,_,e2⟩ (zvq F) s;have hdr:=ZD hd;have hul:=hF.ok;have hlen:=hF.len;obtain⟨Ffn,Fregs,Fneed,Fpn,Frest,is⟩:=F;obtain⟨ps,rest,cont,fr,bb⟩:=f;obtain⟨bk,bv,bo,bn,bf,bas,bks⟩:=bb;simp only at e1 e2 e3 hul hlen;subst e1 e2 e3;have hek:=hek Frest;simp only[gY,pD,qz]at hc hck;simp only[we,xP,qW,zG,ziZ]at hdr;clear hd hdl hG hF hFi hfi;refine xB ?_;refine xz (xE ?_);refine xB ?_;refine xB ?_;refine xB ?_;clear hck hc hdr hek;obtain⟨lb,_,_,hok⟩:=hul;refine xE ?_;refine xU (fun j:Nat=>is.length-j) (fun j f t=>∃T L3 n3 m3,f=⟨tmL T,[]⟩∧t=KL L3 n3 m3 false [] none∧(tmL T).get 1=some (.ptr 0 0)∧(tmL T).get 3=some (.lst fs.length false (xA qz l))∧(tmL T).get 5=some (.int .i64 (.ofNat i))∧(tmL T).get 6=some (.ptr n2 0)∧(tmL T).get 7=some (.int .i64 (.ofNat j))∧j≤is.length∧n2+1≤n3∧xD L3 0=some (.row 25 [.lst fs.length false (xA we fs),.int .i64 main,.int .i64 vars,.int .i64 globals,.lst consts.length false (xX consts)] false false)∧xD L3 n2=some (.row 35 [.int .i64 (.ofNat i),.int .i64 (.ofNat Fregs),.int .i64 (.ofNat 0),.int .i64 (.ofNat Fneed),.int .i64 (.ofNat ps.length),.bool Frest,.lst is.length false (xA qb is)] false false)) (fun j f t hI=>?_) 0 ⟨_,_,_,_,rfl,rfl,sV,sV,sV,sV,sV,zK _,zo _,by (repeat rw[xr,if_neg oM]);exact g0,xG _ _ _⟩
    clear t1 t3 t5 g0 T;obtain⟨T,L3,n3,m3,rfl,rfl,t1,t3,t5,t6,t7,hj,hn3,g0,gv⟩:=hI;rcases xQ is j with ⟨hlt2,hd⟩|⟨x,hlt2,hd⟩
    ·have hni:¬j<is.length:=oM;clear hd hlt2 hj;refine xu ?_;refine xu ?_;exact⟨i+1,⟨_,L3,n3,_,rfl,rfl,sV,sV,sV,oM,oM,g0⟩,oM⟩
    ·have hgd:=hok x (zi2 (by rw[hd];exact zi9))
     have hc:=Gw hd;have hop:=hgd.op;have hul:=hgd.u.1;obtain⟨q,d,a,b,imm,lx,ul⟩:=x;simp only at hop hul;simp only[qb]at hc;clear hd hgd hok;refine xB ?_;refine xz (xE ?_);refine xB ?_;refine xB ?_;refine lp (fun fr t=>∃T L4 n4 m4,fr=⟨tmL T,[]⟩∧t=KL L4 n4 m4 false [] none∧(tmL T).get 1=some (.ptr 0 0)∧(tmL T).get 3=some (.lst fs.length false (xA qz l))∧(tmL T).get 5=some (.int .i64 (.ofNat i))∧(tmL T).get 6=some (.ptr n2 0)∧(tmL T).get 7=some (.int .i64 (.ofNat j))∧(tmL T).get 9=some (.bool true)∧n2+1≤n4∧xD L4 0=some (.row 25 [.lst fs.length false (xA we fs),.int .i64 main,.int .i64 vars,.int .i64 globals,.lst consts.length false (xX consts)] false false)∧xD L4 n2=some (.row 35 [.int .i64 (.ofNat i),.int .i64 (.ofNat Fregs),.int .i64 (.ofNat 0),.int .i64 (.ofNat Fneed),.int .i64 (.ofNat ps.length),.bool Frest,.lst is.length false (xA qb is)] false false)) ?_ fun fr t hI=>?_
     ·have hkind:(eqD q (.ofNat 68)=false∧eqD q (.ofNat 70)=false∧eqD q (.ofNat 71)=false∧eqD q (.ofNat 72)=false∧eqD q (.ofNat 67)=false)∨(q=.ofNat 67∧d=.ofNat 4∧∃k,uQ imm=.ofNat k∧ul=kY k 4)∨(q=.ofNat 68∧imm< .ofNat fs.length∧.ofNat 1∈ul∧.ofNat 2∈ul)∨(q=.ofNat 70∧∃k,imm=.ofNat k∧k<fs.length)∨(q=.ofNat 71∧∃k,imm=.ofNat k∧k<consts.length)∨(q=.ofNat 72∧imm∈[zA 102,.ofNat 103,.ofNat 104,.ofNat 105,.ofNat 106]):=by
       cases hop with
       |br z _=>
        simp only[ziU,zhv,or_false]at z;rcases z with rfl|rfl|rfl|rfl|rfl|rfl<;>exact .inl (by decide)
       |tri z=>
        simp only[ziU,zhv,or_false]at z;rcases z with rfl|rfl|rfl|rfl|rfl<;>exact .inl (by decide)
       |off z _ _=>
        simp only[ziU,zhv,or_false]at z;rcases z with rfl|rfl|rfl<;>exact .inl (by decide)
       |msk z _ _=>
        simp only[ziU,zhv,or_false]at z;rcases z with rfl|rfl<;>exact .inl (by decide)
       |shf z=>
        simp only[ziU,zhv,or_false]at z;rcases z with rfl|rfl<;>exact .inl (by decide)
       |mov z=>
        simp only[ziU,zhv,or_false]at z;rcases z with rfl|rfl<;>exact .inl (by decide)
       |call z=>exact .inr (.inl ⟨rfl,rfl,_,z,rfl⟩)
       |tail z z1 z2=>exact .inr (.inr (.inl ⟨rfl,z,z1,z2⟩))
       |addr z=>exact .inr (.inr (.inr (.inl ⟨rfl,_,rfl,z⟩)))
       |data z=>exact .inr (.inr (.inr (.inr (.inl ⟨rfl,_,rfl,z⟩))))
       |leave z=>exact .inr (.inr (.inr (.inr (.inr ⟨rfl,z⟩))))
      clear hop;rcases hkind with ⟨k1,k2,k3,k4,k5⟩|⟨rfl,rfl,k,hk1,rfl⟩|⟨rfl,hk1,hk2,hk3⟩|⟨rfl,k,rfl,hk1⟩|⟨rfl,k,rfl,hk1⟩|⟨rfl,hk1⟩
      ·refine xu ?_;exact⟨_,_,_,_,rfl,rfl,sV,sV,sV,sV,sV,sV,oM,by (repeat rw[xr,if_neg oM]);exact g0,by (repeat rw[xr,if_neg oM]);exact gv⟩
      ·have hpa:=fun s=>oc hprim XU imm trivial (args:=jr imm) (by simp only[jr,wkL,wkV]) s
       simp only[jr,hk1]at hpa;rw[j6]at hul;have hsl:=j6 k 4;refine xB ?_;refine xE ?_;refine xB ?_;refine x7 sW ?_;refine xB ?_;refine x7 sW ?_;refine xB ?_;refine x7 sW ?_;refine xB ?_;refine x7 sW ?_;refine xB ?_;refine x4 sW ?_;refine xB ?_;refine xB ?_;refine xE ?_;refine xU (fun u:Nat=>k-u) (fun u f t=>∃T L4 n4 m4,f=⟨tmL T,[]⟩∧t=KL L4 n4 m4 false [] none∧(tmL T).get 1=some (.ptr 0 0)∧(tmL T).get 3=some (.lst fs.length false (xA qz l))∧(tmL T).get 5=some (.int .i64 (.ofNat i))∧(tmL T).get 6=some (.ptr n2 0)∧(tmL T).get 7=some (.int .i64 (.ofNat j))∧(tmL T).get 8=some (.ptr n3 0)∧(tmL T).get 9=some (.bool true)∧(tmL T).get 10=some (.int .i64 (.ofNat u))∧u≤k∧n2+1≤n4∧xD L4 0=some (.row 25 [.lst fs.length false (xA we fs),.int .i64 main,.int .i64 vars,.int .i64 globals,.lst consts.length false (xX consts)] false false)∧xD L4 n2=some (.row 35 [.int .i64 (.ofNat i),.int .i64 (.ofNat Fregs),.int .i64 (.ofNat 0),.int .i64 (.ofNat Fneed),.int .i64 (.ofNat ps.length),.bool Frest,.lst is.length false (xA qb is)] false false)∧xD L4 n3=some (.row 45 [.int .i64 (.ofNat 67),.int .i64 (.ofNat 4),.int .i64 a,.int .i64 b,.int .i64 imm,.int .i64 lx,.lst k false (xA xL (kY k 4)),.lst 0 false []] false false)) (fun u f t hI=>?_) 0 ⟨_,_,_,_,rfl,rfl,sV,sV,sV,sV,sV,sV,sV,sV,zK _,oM,by (repeat rw[xr,if_neg oM]);exact g0,by (repeat rw[xr,if_neg oM]);exact gv,xG _ _ _⟩
       clear t1 t3 t5 t6 t7 g0 gv hc T;obtain⟨T,L4,n4,m4,rfl,rfl,t1,t3,t5,t6,t7,t8,t9,t10,hu,hn4,g0,gv,gx⟩:=hI;by_cases hu2:u<k
       ·have hds:(kY k 4).drop u=.ofNat (4+u)::(kY k 4).drop (u+1):=by
         rw[Wr k 4 u oM,Wr k 4 (u+1) oM];obtain⟨w,hw⟩:∃w,k-u=w+1:=⟨k-u-1,oM⟩;rw[hw,show k-(u+1)=w by omega]
         rfl
        have hc:=jx hds;clear hds;refine xB ?_;refine xu ?_;exact⟨u+1,⟨_,L4,n4,_,rfl,rfl,sV,sV,sV,sV,sV,sV,sV,sV,oM,hn4,g0,gv,gx⟩,oM⟩
       ·refine xu ?_;exact⟨_,L4,n4,m4,rfl,rfl,sV,sV,sV,sV,sV,sV,hn4,g0,gv⟩
      ·have hh1:=zrP H hk2 oM;have hh2:=zrP H hk3 oM;have hl1:ltD imm (.ofNat fs.length)=true:=decide_eq_true hk1;refine xu ?_;exact⟨_,_,_,_,rfl,rfl,sV,sV,sV,sV,sV,sV,oM,by (repeat rw[xr,if_neg oM]);exact g0,by (repeat rw[xr,if_neg oM]);exact gv⟩
      ·have hl1:ltD (.ofNat k) (.ofNat fs.length)=true:=decide_eq_true (Int.ofNat_lt.2 hk1);have hl2:ltD (.ofNat k) (.ofNat 0)=false:=decide_eq_false fun h=>by have:=Int.ofNat_lt.1 h;omega
       refine xu ?_;exact⟨_,_,_,_,rfl,rfl,sV,sV,sV,sV,sV,sV,oM,by (repeat rw[xr,if_neg oM]);exact g0,by (repeat rw[xr,if_neg oM]);exact gv⟩
      ·have hl1:ltD (.ofNat k) (.ofNat consts.length)=true:=decide_eq_true (Int.ofNat_lt.2 hk1);have hl2:ltD (.ofNat k) (.ofNat 0)=false:=decide_eq_false fun h=>by have:=Int.ofNat_lt.1 h;omega
       refine xu ?_;exact⟨_,_,_,_,rfl,rfl,sV,sV,sV,sV,sV,sV,oM,by (repeat rw[xr,if_neg oM]);exact g0,by (repeat rw[xr,if_neg oM]);exact gv⟩
      ·simp only[ziU,zhv,or_false]at hk1;rcases hk1 with rfl|rfl|rfl|rfl|rfl<;>(
       refine xu ?_;exact⟨_,_,_,_,rfl,rfl,sV,sV,sV,sV,sV,sV,oM,by (repeat rw[xr,if_neg oM]);exact g0,by (repeat rw[xr,if_neg oM]);exact gv⟩)
     ·clear t1 t3 t5 t6 t7 g0 gv hop hc T hn3;obtain⟨T,L4,n4,m4,rfl,rfl,t1,t3,t5,t6,t7,t9,hn4,g0,gv⟩:=hI;refine xu ?_;refine xu ?_;exact⟨j+1,⟨_,L4,n4,_,rfl,rfl,sV,sV,sV,sV,sV,oM,hn4,g0,gv⟩,oM⟩
end
theorem Qp{α:Type}{f:Nat}{enc:α→List AV}{Pre:α→Prop}{F:α→AV}(hO:OrcOk P w0 O)(hp1:∀x,xN (enc x)=true)(hp2:∀x,x8 (F x)=true)(h:∀x,Pre x→SC P w0 f (enc x) (H [] 0 true) (F x) (H [] 0 true)):OrcOk P w0 (withG f (vr enc Pre F) O):=
 hO.withG ly (Wa true hp1 hp2 fun x hx=>⟨_,h x hx⟩)
theorem kn{f:Nat}{α:Type}{enc:α→List AV}{Pre:α→Prop}{F:α→AV}(hO:OrcOk P w0 O)(hp1:∀x,xN (enc x)=true)(hp2:∀x,x8 (F x)=true)(h:∀x,Pre x→∃s1,SC P w0 f (enc x) (s00 0 true) (F x) s1):OrcOk P w0 (withG f (vr enc Pre F) O):=hO.withG ly (Wa true hp1 hp2 h)
theorem ke{f:Nat}{α:Type}{enc:α→List AV}{Pre:α→Prop}{Good:α→AV→Prop}(hO:OrcOk P w0 O)(he:∀x,xN (enc x)=true)(h:lg P w0 f enc Pre Good):OrcOk P w0 (withG f (Z0 P w0 f enc Pre Good) O):=hO.withG ly (zvM he h)
theorem zoL(c:Int):xN (zz3 c)=true:=rfl
noncomputable def oA:Orc:=withG 146 gIs (withG 211 LG (withG 210 gIx (withG 153 zry noO)))
noncomputable def oB:Orc:=withG 196 gDr (withG 145 LF oA)
noncomputable def oC:Orc:=withG 175 znD oB
noncomputable def oD:Orc:=withG 147 Uj oC
noncomputable def oE:Orc:=withG 116 zxC oD
noncomputable def oN0:Orc:=withG 74 (LE 1048577) oE
section
variable {P:Program}{w0:World}(B:Bx P w0)
include B
theorem zjJ:OrcOk P w0 oA:=by
 have h0:=hH P w0;have h1:OrcOk P w0 (withG 153 zry _):=Qp h0 jV zrW fun x hx=>zrX B h0 rfl x hx;have h4:OrcOk P w0 (withG 210 gIx _):=Qp h1 zvs (fun _=>rfl) fun x hx=>zjE B h0 rfl x hx.1 hx.2;have h5:OrcOk P w0 (withG 211 LG _):=Qp h4 XT VN fun x hx=>by
  obtain⟨b0,r,rfl,hb,h1,h2⟩:=hx;exact zmD B h0 b0 r hb h1 h2
 exact Qp h5 zoL (fun _=>rfl) fun x _=>zjD B h0 rfl x
theorem zlp:OrcOk P w0 oB:=by
 have h0:=zjJ B;have h4:OrcOk P w0 (withG 145 LF _):=Qp h0 ZF (fun _=>rfl) fun x hx=>zve B h0 rfl rfl rfl rfl rfl rfl x hx.1 hx.2;exact Qp h4 XT VN fun x hx=>zju B h0 rfl x hx.1 hx.2.1 hx.2.2
theorem zlq:OrcOk P w0 oC:=Qp (zlp B) XT zwG fun x hx=>zlG B (zlp B) rfl rfl x hx.1 hx.2
theorem zlr:OrcOk P w0 oD:=Qp (zlq B) ZF H2 fun x hx=>zsh B (zlq B) rfl x hx.1 hx.2
theorem zls:OrcOk P w0 oE:=Qp (zlr B) jV (fun _=>rfl) fun x hx=>zoq B (zlr B) rfl rfl rfl x hx
theorem zxS:∀(N:Nat),N≤1100000→OrcOk P w0 (withG 74 (LE N) oE)
 |0,_=>Qp (zls B) jV (fun _=>rfl) fun x hx=>absurd hx.2 (Nat.not_lt_zero _)
 |N+1,h=>by
  have ih:=zxS N oM;have hi:OrcOk P w0 (withG 144 (znE N) (withG 74 (LE N) oE)):=Qp ih zz6 (fun _=>rfl) fun x hx=>zkt B ih rfl rfl oM x hx.1 hx.2;exact Qp (zls B) jV (fun _=>rfl) fun x hx=>zkx B hi rfl rfl rfl rfl rfl x hx.1 hx.2
theorem zkH:OrcOk P w0 oN0:=zxS B 1048577 oM
end
noncomputable def oG1:Orc:=withG 177 X2 (withG 199 zvX oN0)
noncomputable def oG2:Orc:=withG 179 zxE (withG 178 zrB (withG 176 gTl oG1))
noncomputable def oG3:Orc:=withG 183 QL (withG 151 Ui (withG 148 zrA oG2))
noncomputable def oG4(P:Program)(w0:World):Orc:=withG 75 (Z0 P w0 75 vb WF GPl) (withG 180 (Z0 P w0 180 vJ lh GSm) (withG 202 (Z0 P w0 202 vJ lh GSm) oG3))
noncomputable def oW1:Orc:=withG 185 zys (withG 77 pa (withG 11 Kg noO))
noncomputable def oW2:Orc:=withG 119 GO (withG 156 zyr oW1)
noncomputable def oG5(P:Program)(w0:World):Orc:=withG 43 zrC (oG4 P w0)
noncomputable def oB1:Orc:=withG 80 pc noO
noncomputable def oF(P:Program)(w0:World):Orc:=withG 27 vX (withG 24 (GN P w0 1048577) (withG 25 zrz (withG 45 (Yq 900000000) oB1)))
noncomputable def oH(P:Program)(w0:World):Orc:=withG 14 (zlm P w0 1048577) (withG 13 (zyq P w0 1048577) noO)
noncomputable def oS(P:Program)(w0:World)(nf nc:Nat):Orc:=withG 16 (Z0 P w0 16 km (Ju nf nc) (GIF nf nc)) (oH P w0)
noncomputable def oR(P:Program)(w0:World)(nf nc:Nat):Orc:=withG 9 (zll nf nc) (withG 7 (Z0 P w0 7 qD (SelPre 1048577 nf nc) (zwD nf nc)) (withG 11 Kg (withG 6 zrD noO)))
section
variable {P:Program}{w0:World}(B:Bx P w0)
include B
theorem zkD:OrcOk P w0 oG1:=by
 have h0:=zkH B;have h1:OrcOk P w0 (withG 199 zvX _):=h0.withG ly (zub B h0);exact kn h1 zvp (fun x=>by simp only[qP,wN]) fun x hx=>zpY B h1 x hx
theorem zkE:OrcOk P w0 oG2:=by
 have h0:=zkD B;have h1:OrcOk P w0 (withG 176 gTl _):=kn h0 (fun _=>rfl) (fun _=>rfl) fun x hx=>zj6 B h0 rfl rfl rfl x hx;have h2:OrcOk P w0 (withG 178 zrB _):=kn h1 Li (fun x=>by simp only[qP,wN]) fun x hx=>zkX B h1 x hx
 exact kn h2 zz8 (fun x=>pV _ _) fun x hx=>zmO B h2 rfl x hx
theorem zqo:OrcOk P w0 oG3:=by
 have h0:=zkE B;have h1:OrcOk P w0 (withG 148 zrA _):=kn h0 ZF (fun x=>by simp only[zyG,uz,xY,pV,qu,x6,xe]) fun x hx=>zkM B h0 rfl rfl rfl rfl x hx.1 hx.2
 have h2:OrcOk P w0 (withG 151 Ui _):=kn h1 ZF (fun x=>Yw _) fun x hx=>zse B h1 rfl x hx;exact kn h2 zya Yw fun x hx=>zw8 B h2 x hx
theorem zlz:lg P w0 202 vJ lh GSm:=zpD B (zqo B) rfl rfl rfl
theorem zqu:OrcOk P w0 (withG 202 (Z0 P w0 202 vJ lh GSm) oG3):=ke (zqo B) VX (zlz B)
theorem zlj:lg P w0 180 vJ lh GSm:=zko B (zqu B) rfl (zlz B)
theorem zlu:lg P w0 75 vb WF GPl:=zqX B (hH P w0) rfl rfl rfl rfl
theorem zkF:OrcOk P w0 (oG4 P w0):=ke (ke (zqu B) VX (zlj B)) jV (zlu B)
theorem zkI:OrcOk P w0 oW2:=by
 have h0:=hH P w0;have h1:OrcOk P w0 (withG 11 Kg _):=kn h0 Ym (fun _=>rfl) fun x _=>zwi B h0 x;have h2:OrcOk P w0 (withG 77 pa _):=kn h1 zz5 (fun _=>rfl) fun x _=>ztL B h1 x;have h3:OrcOk P w0 (withG 185 zys _):=kn h2 Ym (fun _=>rfl) fun x _=>zpL B h2 rfl x;have h4:OrcOk P w0 (withG 156 zyr _):=kn h3 WW (fun _=>rfl) fun x _=>zq4 B h3 rfl rfl x;exact kn h4 WW (fun _=>rfl) fun x hx=>zvS B h4 rfl rfl x hx
theorem zkG:OrcOk P w0 (oG5 P w0):=kn (zkF B) jz (fun _=>rfl) fun x hx=>zoc B (zkI B) rfl rfl rfl rfl rfl rfl rfl rfl x hx
theorem zjK(hS:qv P w0 27 vX):OrcOk P w0 (oF P w0):=by
 have h0:OrcOk P w0 (withG 45 (Yq 900000000) oB1):=zn8 B 900000000 oM;have h1:OrcOk P w0 (withG 25 zrz _):=kn h0 jz (fun _=>rfl) fun x hx=>zmj B h0 rfl rfl x hx;have h2:OrcOk P w0 (withG 24 (GN P w0 1048577) _):=kn h1 jz (fun _=>rfl) fun x hx=>zsv B (zkG B) ⟨⟨rfl,rfl,rfl,rfl,rfl,rfl,rfl,rfl,rfl,rfl,rfl,rfl,rfl,rfl,rfl,rfl,rfl,zlj B⟩,rfl,rfl,rfl,rfl,zlu B,oM⟩ rfl x hx;refine h2.withG (fun args s v s' h=>?_) hS;unfold vX at h;split at h
 ·cases h;exact Ext.refl _
 ·cases h
theorem zjL(hS:qv P w0 27 vX):OrcOk P w0 (oH P w0):=by
 have h0:=zjK B hS;have h1:OrcOk P w0 (withG 13 (zyq P w0 1048577) noO):=kn (hH P w0) jz (fun _=>rfl) fun x hx=>zsg B h0 rfl rfl rfl rfl x hx;exact kn h1 jz (fun x=>by simp only[zxQ,wN]) fun x hx=>znA B h0 rfl rfl rfl rfl rfl x hx
theorem zli(nf nc:Nat):lg P w0 16 km (Ju nf nc) (GIF nf nc):=Lz B (hH P w0) (fun _ _=>rfl) nf nc
theorem zjN(hS:qv P w0 27 vX)(nf nc:Nat):OrcOk P w0 (oS P w0 nf nc):=ke (zjL B hS) zz4 (zli B nf nc)
theorem zmA{nf nc:Nat}:SelO (oS P w0 nf nc):=fun f hf=>by
 simp only[zps,ziU,zhv,or_false]at hf;rcases hf with rfl|rfl|rfl<;>rfl
theorem zpt(hS:qv P w0 27 vX)(nf nc:Nat):lg P w0 7 qD (SelPre 1048577 nf nc) (zwD nf nc):=zuK B (zjN B hS nf nc) (zmA B) rfl rfl rfl (zli B nf nc)
theorem zjM(hS:qv P w0 27 vX)(nf nc:Nat):OrcOk P w0 (oR P w0 nf nc):=by
 have h0:=hH P w0;have h1:=ztt B h0;have h2:OrcOk P w0 (withG 11 Kg _):=kn h1 Ym (fun _=>rfl) fun x _=>zwi B h1 x;have h3:OrcOk P w0 (withG 7 _ _):=ke h2 jz (zpt B hS nf nc);exact kn h3 Ll (fun _=>rfl) fun F hF=>zoD B h0 (fun _ _=>rfl) rfl rfl F hF.1 hF.2
theorem znW{nf nc:Nat}:LawO (oR P w0 nf nc):=fun f hf=>by
 simp only[zr2,ziU,zhv,or_false]at hf;rcases hf with rfl|rfl|rfl<;>rfl
theorem zku(hS:qv P w0 27 vX){c:Cd}(hc:LgI 1048577 c):∃s1,SC P w0 4 (qD c) (s00 0 true) (.bool true) s1:=
 zpg B (zjM B hS c.fs.length c.consts.length) (znW B) rfl rfl rfl (zpt B hS _ _) rfl hc rfl rfl
end
open Go.RowKit (Below)
open Go.WideElems (rd rg rg_of)
theorem Wide.all{F:Fence}(hF:Wide F)(P:Program)(m:Machine):m.fenced P F:=fun g _=>⟨(fun h=>by rw[hF.alive]at h;cases h),.inl (hF.fn _),fun f _=>hF.fn f,(fun d hd=>by rw[hF.depth]at hd;cases hd)⟩
theorem U8{F:Fence}(hF:Wide F){f:FuncId}{args:Array Value}{R:Ending→World→Prop}(h:Calls P f args w R):CallsIn F n P f args w R:=
 ⟨hF.fn f,fun cs _=>by
  obtain⟨e,w',fr,r,s,x⟩:=h cs;refine⟨e,w',fr,r,?_,x⟩;cases e with
  |returned v=>exact(StepsIn.of_steps s).mono fun m _=>hF.all P m
  |panicked chain=>exact(StepsIn.of_steps s).mono fun m _=>hF.all P m
  |outgrown=>exact s⟩
structure SrtOk(P:Program):Prop where
 fn:∃fn,P.funcs[27]? =some fn∧fn.body.isSome=true∧(fn.name== "runtime.NumGoroutine")=false
 key:P.underlying 3=some (.int .i64)
 ok:∀(Bm b nn:Nat) (D0:DataW Unit) (R:Value→Option (DataW Unit×List MemPlace)) (w:World),Bm<w.heap.size→w.cell? ⟨Bm,0,none⟩=some (.map (some b))→w.ownsMap P 3 R b nn D0→Maps.size D0≤maxLen→Maps.size D0*8≤140737488355328→Calls P 27 #[.func (.func 48) #[] #[.pointer (some ⟨Bm,0,none⟩)]] w fun e w'=>∃(v:Value) (ss:List Int),e=.returned v∧ss.Perm (intKeys D0)∧w'.ownsRow w.heap.size 3 1 v ss.length ((ss.mergeSort (fun x y=>decide (x≤y))).map encZ)∧Below w.heap.size w w'
theorem LH{args:List AV}(h:vX args s=some (v,s')):∃x,SrPre x args s∧v=qW (kp x.2.2)∧s'=s:=by
 by_cases hx:∃x,SrPre x args s
 ·obtain⟨x,hx⟩:=hx;rw[Uk hx]at h;cases h;exact⟨x,hx,rfl,rfl⟩
 ·unfold vX at h;rw[dif_neg hx]at h;cases h
def rdM(_:Value):Option (DataW Unit×List MemPlace):=some (.nil,[])
theorem K4{φ:Phi}:∀{l:List Int} {es:List MapEntry},URel φ (uS l) es→es.map (·.key)=l.map (Value.int .i64)
 |[],_,h=>by simp only[uS,yB,URel]at h;rw[h];rfl
 |x::r,_,h=>by
  simp only[uS,zv,URel]at h;obtain⟨e,es',rfl,h1,_,h3⟩:=h;rw[zv,zv,h1,K4 (l:=r) h3]
theorem zr1{k:TypeId}(hk:P.underlying k=some (.int .i64)){x:Int}(hx:0≤x∧x< .ofNat 9223372036854775808):keyOf P k (.int .i64 x)=some (.int .i64 x):=by
 have hw:(Lit.int .i64 x).wf=true:=by
  simp only[Lit.wf,zl,decide_eq_true_eq];constructor
  ·have:(-9223372036854775808:Int)≤0:=by decide
   exact Int.le_trans this hx.1
  ·have:=hx.2;have e:(zA 9223372036854775808)=9223372036854775807+1:=by decide
   rw[e]at this;exact Int.lt_add_one_iff.1 this
 simp[keyOf,hk,mapKey,hw]
theorem zuV(r:Rel P w0 φ s.get w)(hb:Below w.heap.size w w'):Step P w0 φ s w ⟨φ.m,(φ.full w.heap.size w').z⟩ s w':=by
 have rb:=r.below hb;have hz:∀b o v,φ.z b o=some v→(φ.full w.heap.size w').z b o=some v:=zyn (s:=s) rb _;have hsub:Sub φ ⟨φ.m,(φ.full w.heap.size w').z⟩:=⟨fun _ _ h=>h,hz⟩;have hlt:∀b i,b<w.heap.size→(φ.full w.heap.size w').z b i=φ.z b i:=fun b i h=>by
  show (if w.heap.size≤b then _ else _)=_;rw[if_neg oM]
 refine⟨Ext.refl s,⟨rb.base,fun id o ho=>?_,rb.rng,rb.old,rb.inj,fun b o v h=>?_,fun id o B ho hB=>?_⟩,fun _ _=>rfl,hb.size,fun b h _=>hb.block b h,fun id _ h1 h2=>absurd h2 oM,hz,fun b o v h=>?_⟩
 ·obtain⟨B,hB,q⟩:=r.obj id o ho;exact⟨B,hB,q.keep hsub (hb.block B.b (r.rng id B hB))⟩
 ·have h':(if w.heap.size≤b then (match w'.heap[b]? with
   |some (.cells c _ _)=>c[o]?
   |_=>none)else φ.z b o)=some v:=h
  split at h'
  ·split at h'
   ·rename_i c e fr hw;exact⟨c,e,fr,hw,h'⟩
   ·cases h'
  ·exact rb.frz b o v h'
 ·exact(r.sep id o B ho hB).congr fun i=>hlt B.b i (r.rng id B hB)
 ·by_cases hlt2:b<w.heap.size
  ·have h':(φ.full w.heap.size w').z b o=some v:=h;rw[hlt b o hlt2]at h';exact .inl h'
  ·exact .inr (.inl oM)
theorem zza(φ:Phi):∀l:List Int,VRL φ (xA xL l) (l.map encZ)
 |[]=>rfl
 |x::r=>by
  simp only[xA,xL,zG,ziZ,zv,VRL];exact⟨_,_,rfl,by simp only[VR],zza φ r⟩
theorem He(h:SrtOk P):qv P w0 27 vX:=by
 intro args s v s' hg;obtain⟨⟨p,m,l⟩,hx,rfl,rfl⟩:=LH hg;refine⟨h.fn,fun φ w xs r hwf hf hxs F n hF=>?_⟩;rw[hx.args]at hxs;obtain⟨B,hB,hbl⟩:=r.obj p _ hx.row;simp only[ObjRel]at hbl;obtain⟨c,fr,hc,hsz,hle,hext,hcells,_⟩:=hbl;obtain⟨h1,h0⟩:=hext trivial;obtain⟨Bm,hBm,hm⟩:=r.obj m _ hx.map;simp only[ObjRel]at hm;obtain⟨ents,clk,hmh,lst,hperm,hu,hnd,hbn,hbc⟩:=hm;have hkeys:=K4 hu;have hlen:ents.size=l.length:=by
  have:=congrArg y8 hkeys;rw[zhw,zhw]at this;rw[←this,←yo,hperm.length_eq]
 have hkp:(ents.toList.map (·.key)).Perm (l.map (Value.int .i64)):=by rw[←hkeys];exact(hperm.map _).symm
 have hrd:∀x∈ents.toList,∃y:Int,y∈l∧x.key=.int .i64 y:=fun x hxm=>by
  have:=hkp.mem_iff.1 (List.mem_map.2 ⟨x,hxm,rfl⟩);obtain⟨y,hy,e⟩:=List.mem_map.1 this;exact⟨y,hy,e.symm⟩
 have hrd2:∀x∈ents.toList,∃y:Int,x.key=.int .i64 y∧rd P 3 rdM x=some (.int .i64 y,.nil):=fun x hxm=>by
  obtain⟨y,hy,e⟩:=hrd x hxm;exact⟨y,e,by unfold rd;rw[e,zr1 h.key (hx.rng y hy)];rfl⟩
 have hown:w.ownsMap P 3 rdM Bm.b ents.size (.map ((ents.toList.map (rg P 3 rdM)).foldr DataW.insert [])):=by
  refine⟨ents,clk,hmh,⟨by rw[hlen];have:=hx.len;simp only at this;unfold maxLen;omega,⟨fun x hxm=>hbc x (hperm.mem_iff.2 hxm),((hperm.map (·.born)).nodup_iff).1 hbn,?_⟩,fun x hxm=>?_⟩,zo _,rfl⟩
  ·rw[hkp.nodup_iff];exact List.pairwise_map.2 (hx.nd.imp fun hab e=>hab (by simpa using e))
  ·obtain⟨y,_,e⟩:=hrd2 x hxm;exact⟨_,e⟩
 have hik:(intKeys (.map ((ents.toList.map (rg P 3 rdM)).foldr DataW.insert []))).Perm l:=by
  show (((ents.toList.map (rg P 3 rdM)).foldr DataW.insert []).map fun p=>intOf p.1).Perm l;refine((Go.WideShapes.sorted_perm _).map _).trans ?_;rw[zhx];have e:ents.toList.map ((fun p:Lit×DataW Unit=>intOf p.1) ∘ rg P 3 rdM)=(ents.toList.map (·.key)).map (fun v=>match v with|.int _ a=>a|_=>0):=by
   rw[zhx];refine List.map_congr_left fun x hxm=>?_;obtain⟨y,e1,e2⟩:=hrd2 x hxm;simp only[Function.comp,rg_of e2,e1];rfl
  rw[e];refine(hkp.map _).trans ?_;rw[zhx];have:((fun v:Value=>match v with|.int _ a=>a|_=>(0:Int)) ∘ Value.int .i64)=id:=rfl
  rw[this,List.map_id]
 have hsz2:Maps.size (DataW.map (H:=Unit) ((ents.toList.map (rg P 3 rdM)).foldr DataW.insert []))=l.length:=by
  rw[Maps.size_eq,(Go.WideShapes.sorted_perm _).length_eq,zhw,yo,hlen]
 rw[h0,List.drop_zero,List.length_singleton]at hcells;simp only[VRL,VR]at hcells;obtain⟨y,ys,hy,⟨Bm',hBm',rfl⟩,rfl⟩:=hcells;rw[hBm]at hBm';cases hBm';have hcell:w.cell? ⟨B.b,0,none⟩=some (.map (some Bm.b)):=by
  have h3:c.toList[0]? =some (.map (some Bm.b)):=by
   have:=congrArg (·[0]?) hy
   simpa using this
  unfold World.cell?;rw[hc];show c[0]? =_;rw[←zu];exact h3
 simp only[VRL,VR]at hxs;obtain⟨a,az,rfl,⟨us,vs,rfl,rfl,q,qs,rfl,⟨B',hB',rfl⟩,rfl⟩,rfl⟩:=hxs;rw[hB]at hB';cases hB';rw[h0,yC];have hxl:=hx.len;simp only at hxl;refine(U8 hF (h.ok B.b Bm.b ents.size _ rdM w (r.rng p B hB) hcell hown (by rw[hsz2];unfold maxLen;omega) (by rw[hsz2];omega))).mono ?_
 rintro e w' ⟨v,ss,rfl,hp,hrow,hb⟩
 have hss:ss.mergeSort (fun x y=>decide (x≤y))=kp l:=mergeSort_of_perm_i (hp.trans hik);have hsl:ss.length=l.length:=(hp.trans hik).length_eq;rw[hss,hsl]at hrow;refine⟨_,v,rfl,zuV r hb,?_⟩;have hp2:xN (xA xL (kp l))=true:=V9 _;have hl2:(kp l).length=l.length:=zuS l;obtain⟨_,⟨rfl,hz⟩|⟨g,cap,cur,rfl,hg1,hg2,hg3,_,hg5,hg6⟩⟩:=hrow
 ·have:l=[]:=yr hz;subst this;simp only[qW,VR];exact⟨hp2,.inl ⟨by rw[hl2];rfl,_,rfl⟩⟩
 ·simp only[qW,VR];refine⟨hp2,.inr ⟨g,0,cap,(kp l).map encZ,by rw[hl2],(fun h=>by cases h),(by rw[hl2];exact hg3),?_,zza _ _⟩⟩
  refine ZC.of fun i y hi=>?_;show (if w.heap.size≤g then _ else _)=_;rw[if_pos hg1,hg2];show cur[0+i]? =_;rw[←hg6,Nat.mul_one]at hi;rw[yC,←zu];rw[List.getElem?_take]at hi;split at hi
  ·exact hi
  ·cases hi
structure Mu(H0:Type)(μ:DataW H0→Nat):Prop where
 str:∀b:List UInt8,b.length≤μ (.lit (.string b))
 sl:∀es sp:List (DataW H0),(∀d∈es,μ d≤μ (.slice es sp))∧es.length≤μ (.slice es sp)
 sm:∀es sp:List (DataW H0),(es.map μ).sum≤μ (.slice es sp)
 ag:∀ps:List (DataW H0),∀d∈ps,μ d+1≤μ (.agg ps)
section
variable {H0:Type}{enc:TypeId×Value→H0}{P:Program}{W:World}{sp:Nat→Bool}{held:Bool}{tD tI tS tK tE:TypeId}{fs:Array Field}{α:Type}{f:α→List AV}{k N:Nat}{μ:DataW H0→Nat}
theorem Q3{a:Addr}{n:Nat}(h0:0<k)(hk:P.cellsOf tE=k)(hsp:a.spot=none)
  (ih:∀cs x,DataW.trod enc P W 0 sp held n tE cs=some x→μ x.1≤N→∃d,VRL (pJ W) (f d) cs):
  ∀(len:Nat),(∀i,i<len→∃x,(W.cells? 0 (a.add (i*k)) k).bind (DataW.trod enc P W 0 sp held n tE)=some x∧μ x.1≤N)→
   ∃ds ys,ds.length=len∧ys.length=len*k∧VRL (pJ W) (xA f ds) ys∧∀i y,ys[i]? =some y→(pJ W).z a.block (a.off+i)=some y
 |0,_=>⟨[],[],rfl,by simp,VRL.nil _,fun i y h=>by simp at h⟩
 | len+1,h=>by
  obtain⟨ds,ys,h1,h2,h3,h4⟩:=Q3 h0 hk hsp ih len (fun i hi=>h i oM);obtain⟨x,hx,hm⟩:=h len oM;cases hc:W.cells? 0 (a.add (len*k)) k with
  |none=>rw[hc]at hx;cases hx
  | some cs=>
   rw[hc]at hx;obtain⟨d,hd⟩:=ih cs x hx hm;obtain⟨_,hl,hg⟩:=World.cells?_some hc;refine⟨ds++[d],ys++cs,by simp[h1],by rw[yl,h2,hl,Nat.succ_mul],by rw[wj,qO];exact VRL.append h3 hd,fun i y hy=>?_⟩
   by_cases hi:i<ys.length
   ·rw[ym hi]at hy;exact h4 i y hy
   ·rw[yA oM]at hy;have hj:i-ys.length<k:=by
     rw[←hl];exact(List.getElem?_eq_some_iff.1 hy).1
    have:=hg (i-ys.length) hj;rw[hy,YT hsp,YT rfl]at this;show W.cell? ⟨a.block,a.off+i,none⟩=some y;rw[←this]
    congr 2
    simp only;omega
theorem lK(hM:Mu H0 μ)(h0:0<k)(hk:P.cellsOf tE=k)(hK:P.underlying tK=some (.slice tE))(hp:∀d,xN (f d)=true)
  (ih:∀m,m<n→∀cs x,DataW.trod enc P W 0 sp held m tE cs=some x→μ x.1≤N→∃d,VRL (pJ W) (f d) cs)
  (hs:sp=fun _=>true) {cs:List Value} {x:DataW H0×List MemPlace} (h:DataW.trod enc P W 0 sp held n tK cs=some x) (hN:μ x.1≤N):
  ∃ds v,cs=[v]∧VR (pJ W) (.lst ds.length false (xA f ds)) v∧ds.length≤N:=by
 rcases DataW.trod_slice hK h with ⟨rfl,_⟩|⟨a,len,cap,elems,rest,m,rfl,rfl,rfl,_,hlc,hcm,hel,hsl,hspare,_⟩
 ·exact⟨[],_,rfl,by simp only[VR];exact⟨rfl,.inl ⟨rfl,_,rfl⟩⟩,zK _⟩
 ·rw [hk]at hsl hspare;have hsm:=hM.sl (elems.map (·.1)) (rest.map (·.1));replace hN:μ (DataW.slice (elems.map (·.1)) (rest.map (·.1)))≤N:=hN;by_cases hcap:cap=0
  ·subst hcap;obtain rfl:len=0:=oM;exact⟨[],_,rfl,by simp only[VR];exact⟨rfl,.inl ⟨rfl,_,rfl⟩⟩,zK _⟩
  ·have hcell:∃x,(W.cells? 0 (a.add (0*k)) k)=some x:=by
    by_cases hl:0<len
    ·have:=hsl 0 hl;rw[yv oM]at this;cases hc:W.cells? 0 (a.add (0*k)) k with
     |none=>rw[hc]at this;cases this
     |some y=>exact⟨y,rfl⟩
    ·obtain rfl:len=0:=oM;obtain⟨hr,hj⟩:=hspare (by rw[hs])
     have:=hj 0 oM;rw[yv oM]at this;rw[yC]at this;cases hc:W.cells? 0 (a.add (0*k)) k with
     |none=>rw[hc]at this;cases this
     |some y=>exact⟨y,rfl⟩
   obtain⟨y,hy⟩:=hcell;have hspot:a.spot=none:=by
    obtain⟨_,hl,hg⟩:=World.cells?_some hy;have h1:=hg 0 h0;rw[yv oM]at h1;obtain⟨_,_,_,_,h2,_⟩:=Gr h1
    simpa [Addr.add]using h2
   obtain⟨ds,ys,g1,_,g3,g4⟩:=Q3 (W:=W) (enc:=enc) (sp:=sp) (held:=held) (μ:=μ) (N:=N) h0 hk hspot (ih m oM) len fun i hi=>by
    have:=hsl i hi;rw[yv oM]at this;exact⟨_,this,zr (hsm.1 _ (List.mem_map.2 ⟨_,zhd oM,rfl⟩)) hN⟩
   refine⟨ds,_,rfl,?_,?_⟩
   ·simp only[VR];refine⟨wz hp ds,.inr ⟨a.block,a.off,cap,ys,?_,by simp,oM,ZC.of g4,g3⟩⟩
    rw[g1];cases a;simp only at hspot;subst hspot;rfl
   ·have:=hsm.2;rw[zhw]at this;omega
theorem Q4{g:α→Nat}{a:Addr}{n:Nat}(h0:0<k)(hk:P.cellsOf tE=k)(hsp:a.spot=none)
  (ih:∀cs x,DataW.trod enc P W 0 sp held n tE cs=some x→μ x.1≤N→∃d,VRL (pJ W) (f d) cs∧g d≤μ x.1):
  ∀(len:Nat) (xs:List (DataW H0×List MemPlace)),xs.length=len→(∀i (hi:i<xs.length),(W.cells? 0 (a.add (i*k)) k).bind (DataW.trod enc P W 0 sp held n tE)=some xs[i]∧μ xs[i].1≤N)→
   ∃ds ys,ds.length=len∧ys.length=len*k∧VRL (pJ W) (xA f ds) ys∧(∀i y,ys[i]? =some y→(pJ W).z a.block (a.off+i)=some y)∧(ds.map g).sum≤(xs.map fun x=>μ x.1).sum
 |0,xs,_,_=>⟨[],[],rfl,by simp,VRL.nil _,(fun i y h=>by simp at h),by simp⟩
 | len+1,xs,hl,h=>by
  obtain⟨l,x,rfl⟩:∃l x,xs=l++[x]:=by
   rcases List.eq_nil_or_concat xs with e|⟨l,x,e⟩
   ·rw[e]at hl;simp at hl
   ·exact⟨l,x,by rw[e,List.concat_eq_append]⟩
  have hll:l.length=len:=by simpa using hl
  obtain⟨ds,ys,h1,h2,h3,h4,h5⟩:=Q4 h0 hk hsp ih len l hll (fun i hi=>by
   have:=h i (by simp;omega)
   rw[List.getElem_append_left hi]at this;exact this)
  obtain⟨hx,hm⟩:=h len (by simp;omega)
  rw[List.getElem_append_right oM]at hx hm;simp only[hll,Nat.sub_self,List.getElem_cons_zero]at hx hm;cases hc:W.cells? 0 (a.add (len*k)) k with
  |none=>rw[hc]at hx;cases hx
  | some cs=>
   rw[hc]at hx;obtain⟨d,hd,hg5⟩:=ih cs x hx hm;obtain⟨_,hl,hg⟩:=World.cells?_some hc;refine⟨ds++[d],ys++cs,by simp[h1],by rw[yl,h2,hl,Nat.succ_mul],by rw[wj,qO];exact VRL.append h3 hd,fun i y hy=>?_,by simp only[List.map_append,zv,yB,List.sum_append,List.sum_cons,List.sum_nil];omega⟩
   by_cases hi:i<ys.length
   ·rw[ym hi]at hy;exact h4 i y hy
   ·rw[yA oM]at hy;have hj:i-ys.length<k:=by
     rw[←hl];exact(List.getElem?_eq_some_iff.1 hy).1
    have:=hg (i-ys.length) hj;rw[hy,YT hsp,YT rfl]at this;show W.cell? ⟨a.block,a.off+i,none⟩=some y;rw[←this]
    congr 2
    simp only;omega
theorem Q5{g:α→Nat}(hM:Mu H0 μ)(h0:0<k)(hk:P.cellsOf tE=k)(hK:P.underlying tK=some (.slice tE))(hp:∀d,xN (f d)=true)
  (ih:∀m,m<n→∀cs x,DataW.trod enc P W 0 sp held m tE cs=some x→μ x.1≤N→∃d,VRL (pJ W) (f d) cs∧g d≤μ x.1)
  (hs:sp=fun _=>true) {cs:List Value} {x:DataW H0×List MemPlace} (h:DataW.trod enc P W 0 sp held n tK cs=some x) (hN:μ x.1≤N):
  ∃ds v,cs=[v]∧VR (pJ W) (.lst ds.length false (xA f ds)) v∧ds.length≤N∧(ds.map g).sum≤μ x.1:=by
 rcases DataW.trod_slice hK h with ⟨rfl,_⟩|⟨a,len,cap,elems,rest,m,rfl,rfl,rfl,_,hlc,hcm,hel,hsl,hspare,_⟩
 ·exact⟨[],_,rfl,by simp only[VR];exact⟨rfl,.inl ⟨rfl,_,rfl⟩⟩,zK _,zK _⟩
 ·rw [hk]at hsl hspare;have hsm:=hM.sl (elems.map (·.1)) (rest.map (·.1));replace hN:μ (DataW.slice (elems.map (·.1)) (rest.map (·.1)))≤N:=hN;by_cases hcap:cap=0
  ·subst hcap;obtain rfl:len=0:=oM;exact⟨[],_,rfl,by simp only[VR];exact⟨rfl,.inl ⟨rfl,_,rfl⟩⟩,zK _,zK _⟩
  ·have hcell:∃x,(W.cells? 0 (a.add (0*k)) k)=some x:=by
    by_cases hl:0<len
    ·have:=hsl 0 hl;rw[yv oM]at this;cases hc:W.cells? 0 (a.add (0*k)) k with
     |none=>rw[hc]at this;cases this
     |some y=>exact⟨y,rfl⟩
    ·obtain rfl:len=0:=oM;obtain⟨hr,hj⟩:=hspare (by rw[hs])
     have:=hj 0 oM;rw[yv oM]at this;rw[yC]at this;cases hc:W.cells? 0 (a.add (0*k)) k with
     |none=>rw[hc]at this;cases this
     |some y=>exact⟨y,rfl⟩
   obtain⟨y,hy⟩:=hcell;have hspot:a.spot=none:=by
    obtain⟨_,hl,hg⟩:=World.cells?_some hy;have h1:=hg 0 h0;rw[yv oM]at h1;obtain⟨_,_,_,_,h2,_⟩:=Gr h1
    simpa [Addr.add]using h2
   have hsu:=hM.sm (elems.map (·.1)) (rest.map (·.1));obtain⟨ds,ys,g1,_,g3,g4,g5⟩:=Q4 (W:=W) (enc:=enc) (sp:=sp) (held:=held) (μ:=μ) (N:=N) (g:=g) h0 hk hspot (ih m oM) len elems hel fun i hi=>by
    have:=hsl i oM;rw[yv oM]at this;exact⟨this,zr (hsm.1 _ (List.mem_map.2 ⟨_,zhd oM,rfl⟩)) hN⟩
   rw[zhx]at hsu;refine⟨ds,_,rfl,?_,?_,zr g5 hsu⟩
   ·simp only[VR];refine⟨wz hp ds,.inr ⟨a.block,a.off,cap,ys,?_,by simp,oM,ZC.of g4,g3⟩⟩
    rw[g1];cases a;simp only at hspot;subst hspot;rfl
   ·have:=hsm.2;rw[zhw]at this;omega
def DTx:={d:DT//TxD d}
def XR(d:DTx):List AV:=wR d.1
theorem Hg:∀l:List DTx,TxL (l.map (·.1))
 |[]=>by simp only[yB,TxL]
 |d::r=>by simp only[zv,TxL];exact⟨d.2,Hg r⟩
theorem Yj:∀l:List DTx,xX (l.map (·.1))=xA XR l
 |[]=>by simp only[yB,xX,xA]
 |d::r=>by simp only[zv,xX,xA,Yj r,XR]
theorem ph:∀l:List DTx,wW (l.map (·.1))=(l.map fun d=>wn d.1).sum
 |[]=>by simp only[yB,wW,List.sum_nil]
 |d::r=>by simp only[zv,wW,List.sum_cons,ph r]
theorem zqh(s:ByteArray):(qX s).length=s.data.toList.length:=by simp[qX]
theorem zzf(hM:Mu H0 μ)(hN2:N<2000000)(T:DatumTy P tD tI tS tK fs)(hs:sp=fun _=>true):∀(n:Nat) (cs:List Value) (x:DataW H0×List MemPlace),DataW.trod enc P W 0 sp held n tD cs=some x→μ x.1≤N→∃d:DTx,VRL (pJ W) (XR d) cs∧wn d.1≤μ x.1:=by
 intro n
 induction n using Nat.strongRecOn with
 |ind n ih=>
 intro cs x h hN;obtain⟨xs,m,rfl,rfl,hl,hlen,hf⟩:=DataW.trod_struct T.d h;rw[T.cd]at hl;obtain⟨c0,c1,c2,c3,c4,rfl⟩:=zkn hl;have hfs:=T.fs;obtain⟨f0,f1,f2,f3,f4,hfe⟩:=zkn (l:=fs.toList) (by have:=congrArg y8 hfs;simpa using this)
 rw[hfe]at hfs;simp only[zv,yB,List.cons.injEq,Prod.mk.injEq,and_true]at hfs;obtain⟨⟨a0,b0⟩,⟨a1,b1⟩,⟨a2,b2⟩,⟨a3,b3⟩,⟨a4,b4⟩⟩:=hfs;have hag:=hM.ag (xs.map (·.1));have hat:∀(i:Nat) (f:Field),fs.toList[i]? =some f→∃y,DataW.trod enc P W 0 sp held m f.type (([c0,c1,c2,c3,c4].drop f.offset).take (P.cellsOf f.type))=some y∧μ y.1≤N∧μ y.1+1≤μ (.agg (xs.map (·.1))):=fun i f hi=>by
  have h1:=hf i f (by rw[←zu];exact hi)
  have hlt:i<fs.toList.length:=(List.getElem?_eq_some_iff.1 hi).1;rw[yv (by rw[hlen];simpa using hlt)]at h1
  have h2:=hag _ (List.mem_map.2 ⟨_,zhd (by rw[hlen];simpa using hlt),rfl⟩)
  exact⟨_,h1,by replace hN:μ (DataW.agg (xs.map (·.1)))≤N:=hN;omega,h2⟩
 obtain⟨y0,g0,_⟩:=hat 0 f0 (by rw[hfe];rfl)
 obtain⟨y1,g1,_⟩:=hat 1 f1 (by rw[hfe];rfl)
 obtain⟨y2,g2,m2,_⟩:=hat 2 f2 (by rw[hfe];rfl)
 obtain⟨y3,g3,m3,k3⟩:=hat 3 f3 (by rw[hfe];rfl)
 obtain⟨y4,g4,_⟩:=hat 4 f4 (by rw[hfe];rfl)
 rw[a0,b0,T.ci]at g0;rw[a1,b1,T.ci]at g1;rw[a2,b2,T.cs]at g2;rw[a3,b3,T.ck]at g3;rw[a4,b4,T.ci]at g4;obtain⟨n0,e0,_,_⟩:=DataW.trod_int T.i g0;obtain⟨n1,e1,_,_⟩:=DataW.trod_int T.i g1;obtain⟨s2,e2,z2,_⟩:=DataW.trod_string T.s g2;obtain⟨n4,e4,_,_⟩:=DataW.trod_int T.i g4;subst z2;have hst:=hM.str s2.data.toList;replace m2:μ (DataW.lit (.string s2.data.toList))≤N:=m2;simp at e0 e1 e2 e4;subst e0;subst e1;subst e2;subst e4;obtain⟨ds,v,q1,q2,q3,q4⟩:=Q5 hM (f:=XR) (g:=fun d=>wn d.1) oM T.cd T.k (fun d=>ua d.1) (n:=m) (fun k hk cs x h hm=>ih k oM cs x h hm) hs g3 m3;simp at q1;subst q1;refine⟨⟨.mk n0 n1 (qX s2) (ds.map (·.1)) n4,?_⟩,?_,?_⟩
 ·simp only[TxD];exact⟨zt0 s2,by rw[zqh];omega,Hg ds⟩
 ·simp only[XR,wR,zhw,Yj];exact VRL.cons (by simp[VR]) (VRL.cons (by simp[VR]) (VRL.cons (by simp only[VR];exact⟨s2,rfl,rfl⟩) (VRL.cons q2 (VRL.cons (by simp[VR]) (VRL.nil _)))))
 ·show wn (.mk n0 n1 (qX s2) (ds.map (·.1)) n4)≤μ (DataW.agg (xs.map (·.1)));simp only[wn,ph];omega
theorem QK(hM:Mu H0 μ){gs:Array Field}(ht:P.underlying t=some (.struct gs)){cs:List Value}{x:DataW H0×List MemPlace}(h:DataW.trod enc P W 0 sp held n t cs=some x)(hN:μ x.1≤N):
  cs.length=P.cellsOf t∧∃m,m<n∧∀(i:Nat) (a:TypeId) (o:Nat),(gs.toList.map (fun f=>(f.type,f.offset)))[i]? =some (a,o)→∃y,DataW.trod enc P W 0 sp held m a ((cs.drop o).take (P.cellsOf a))=some y∧μ y.1≤N:=by
 obtain⟨xs,m,rfl,rfl,hl,hlen,hf⟩:=DataW.trod_struct ht h;have hag:=hM.ag (xs.map (·.1));refine⟨hl,m,oM,fun i a o hi=>?_⟩;rw[List.getElem?_map,Option.map_eq_some_iff]at hi;obtain⟨f,hi,e⟩:=hi;obtain⟨rfl,rfl⟩:=Prod.mk.inj e;have h1:=hf i f (by rw[←zu];exact hi)
 have hlt:i<gs.toList.length:=(List.getElem?_eq_some_iff.1 hi).1;rw[yv (by rw[hlen];simpa using hlt)]at h1
 have h2:=hag _ (List.mem_map.2 ⟨_,zhd (by rw[hlen];simpa using hlt),rfl⟩)
 exact⟨_,h1,by replace hN:μ (DataW.agg (xs.map (·.1)))≤N:=hN;omega⟩
structure CodeTy(P:Program)(tI tB tIs tA tAs tT tTs tF tFs tD tK tC:TypeId)(ga gt gf gc:Array Field):Prop where
 i:P.underlying tI=some (.int .i64)
 b:P.underlying tB=some .bool
 is:P.underlying tIs=some (.slice tI)
 a:P.underlying tA=some (.struct ga)
 az:P.underlying tAs=some (.slice tA)
 t:P.underlying tT=some (.struct gt)
 ts:P.underlying tTs=some (.slice tT)
 f:P.underlying tF=some (.struct gf)
 fs:P.underlying tFs=some (.slice tF)
 c:P.underlying tC=some (.struct gc)
 ma:ga.toList.map (fun f=>(f.type,f.offset))=[(tI,0),(tI,1)]
 mt:gt.toList.map (fun f=>(f.type,f.offset))=[(tI,0),(tI,1),(tI,2),(tI,3),(tI,4),(tAs,5),(tTs,6)]
 mf:gf.toList.map (fun f=>(f.type,f.offset))=[(tIs,0),(tB,1),(tB,2),(tIs,3),(tT,4)]
 mc:gc.toList.map (fun f=>(f.type,f.offset))=[(tFs,0),(tI,1),(tI,2),(tI,3),(tK,4)]
 ci:P.cellsOf tI=1
 cb:P.cellsOf tB=1
 cis:P.cellsOf tIs=1
 ca:P.cellsOf tA=2
 cas:P.cellsOf tAs=1
 ct:P.cellsOf tT=7
 cts:P.cellsOf tTs=1
 cf:P.cellsOf tF=11
 cfs:P.cellsOf tFs=1
 cc:P.cellsOf tC=5
theorem zj8{α:Type}{l:List α}(h:l.length=2):∃a b,l=[a,b]:=by
 match l,h with
 |[a,b],_=>exact⟨a,b,rfl⟩
theorem zjZ{α:Type}{l:List α}(h:l.length=7):∃a b c d e f g,l=[a,b,c,d,e,f,g]:=by
 match l,h with
 |[a,b,c,d,e,f,g],_=>exact⟨a,b,c,d,e,f,g,rfl⟩
theorem zlS{α:Type}{l:List α}(h:l.length=11):∃a b c d r,l=a::b::c::d::r∧r.length=7:=by
 match l,h with
 |a::b::c::d::r,h=>exact⟨a,b,c,d,r,rfl,by simpa using h⟩
def TmX:={t:Trm//SzT t}
def YW(t:TmX):List AV:=wy t.1
theorem PT:∀l:List TmX,YQ (l.map (·.1))
 |[]=>by simp only[yB,YQ]
 |d::r=>by simp only[zv,YQ];exact⟨d.2,PT r⟩
theorem WS:∀l:List TmX,wc (l.map (·.1))=xA YW l
 |[]=>by simp only[yB,wc,xA]
 |d::r=>by simp only[zv,wc,xA,WS r,YW]
def FnX:={f:Fn//f.ps.length<1000000000∧f.fr.length<1000000000∧SzT f.b}
def QG(f:FnX):List AV:=we f.1
theorem WQ:∀l:List FnX,xA we (l.map (·.1))=xA QG l
 |[]=>rfl
 |d::r=>by simp only[zv,xA,WQ r,QG]
section
variable {tB tIs tA tAs tT tTs tF tFs tC:TypeId}{ga gt gf gc:Array Field}
theorem uL(T:CodeTy P tI tB tIs tA tAs tT tTs tF tFs tD tK tC ga gt gf gc){m:Nat}{cs:List Value}{x:DataW H0×List MemPlace}(h:DataW.trod enc P W 0 sp held m tI cs=some x):∃n,cs=[.int .i64 n]:=by
 obtain⟨n,e,_⟩:=DataW.trod_int T.i h;exact⟨n,e⟩
theorem Jv(hM:Mu H0 μ)(T:CodeTy P tI tB tIs tA tAs tT tTs tF tFs tD tK tC ga gt gf gc)(hs:sp=fun _=>true){m:Nat}{cs:List Value}{x:DataW H0×List MemPlace}(h:DataW.trod enc P W 0 sp held m tIs cs=some x)(hN:μ x.1≤N):∃l v,cs=[v]∧VR (pJ W) (qW l) v∧l.length≤N:=
 lK hM (f:=xL) (k:=1) oM T.ci T.is Vt (n:=m) (fun k _ cs x h _=>by
  obtain⟨n,rfl⟩:=uL T h;exact⟨n,VRL.cons (by simp only[VR]) (VRL.nil _)⟩) hs h hN
theorem zoi(hM:Mu H0 μ)(hN2:N<2000000)(T:CodeTy P tI tB tIs tA tAs tT tTs tF tFs tD tK tC ga gt gf gc)(hs:sp=fun _=>true):∀(n:Nat) (cs:List Value) (x:DataW H0×List MemPlace),DataW.trod enc P W 0 sp held n tT cs=some x→μ x.1≤N→∃d:TmX,VRL (pJ W) (YW d) cs:=by
 intro n
 induction n using Nat.strongRecOn with
 |ind n ih=>
 intro cs x h hN;obtain⟨hl,m,hm,hat⟩:=QK hM T.t h hN;rw[T.mt]at hat
 rw[T.ct]at hl;obtain⟨c0,c1,c2,c3,c4,c5,c6,rfl⟩:=zjZ hl;obtain⟨y0,g0,_⟩:=hat 0 _ _ rfl;obtain⟨y1,g1,_⟩:=hat 1 _ _ rfl;obtain⟨y2,g2,_⟩:=hat 2 _ _ rfl;obtain⟨y3,g3,_⟩:=hat 3 _ _ rfl;obtain⟨y4,g4,_⟩:=hat 4 _ _ rfl;obtain⟨y5,g5,m5⟩:=hat 5 _ _ rfl;obtain⟨y6,g6,m6⟩:=hat 6 _ _ rfl;rw[T.ci]at g0 g1 g2 g3 g4;rw[T.cas]at g5;rw[T.cts]at g6;obtain⟨n0,e0⟩:=uL T g0;obtain⟨n1,e1⟩:=uL T g1;obtain⟨n2,e2⟩:=uL T g2;obtain⟨n3,e3⟩:=uL T g3;obtain⟨n4,e4⟩:=uL T g4;simp at e0 e1 e2 e3 e4;subst e0 e1 e2 e3 e4;obtain⟨az,v5,q1,q2,q3⟩:=lK hM (f:=qp) oM T.ca T.az HT (n:=m) (fun k _ cs x h hx=>by
  obtain⟨hl,m,_,hat⟩:=QK hM T.a h hx;rw[T.ma]at hat
  rw[T.ca]at hl;obtain⟨c0,c1,rfl⟩:=zj8 hl;obtain⟨y0,g0,_⟩:=hat 0 _ _ rfl;obtain⟨y1,g1,_⟩:=hat 1 _ _ rfl;rw[T.ci]at g0 g1;obtain⟨n0,e0⟩:=uL T g0;obtain⟨n1,e1⟩:=uL T g1;simp at e0 e1;subst e0 e1;exact⟨⟨n0,n1⟩,VRL.cons (by simp[VR]) (VRL.cons (by simp[VR]) (VRL.nil _))⟩) hs g5 m5
 obtain⟨ks,v6,u1,u2,u3⟩:=lK hM (f:=YW) oM T.ct T.ts (fun d=>gA d.1) (n:=m) (fun k hk cs x h hx=>ih k oM cs x h hx) hs g6 m6;simp at q1 u1;subst q1 u1;refine⟨⟨.mk n0 n1 n2 n3 n4 az (ks.map (·.1)),?_⟩,?_⟩
 ·simp only[SzT,zhw];exact⟨oM,oM,PT ks⟩
 ·simp only[YW,wy,zhw,WS];exact VRL.cons (by simp[VR]) (VRL.cons (by simp[VR]) (VRL.cons (by simp[VR]) (VRL.cons (by simp[VR]) (VRL.cons (by simp[VR]) (VRL.cons q2 (VRL.cons u2 (VRL.nil _)))))))
theorem zoh(hM:Mu H0 μ)(hN2:N<2000000)(T:CodeTy P tI tB tIs tA tAs tT tTs tF tFs tD tK tC ga gt gf gc)(hs:sp=fun _=>true){cs:List Value}{x:DataW H0×List MemPlace}(h:DataW.trod enc P W 0 sp held n tF cs=some x)(hN:μ x.1≤N):∃d:FnX,VRL (pJ W) (QG d) cs:=by
 obtain⟨hl,m,hm,hat⟩:=QK hM T.f h hN;rw[T.mf]at hat
 rw[T.cf]at hl;obtain⟨c0,c1,c2,c3,r,rfl,hr⟩:=zlS hl;obtain⟨y0,g0,m0⟩:=hat 0 _ _ rfl;obtain⟨y1,g1,_⟩:=hat 1 _ _ rfl;obtain⟨y2,g2,_⟩:=hat 2 _ _ rfl;obtain⟨y3,g3,m3⟩:=hat 3 _ _ rfl;obtain⟨y4,g4,m4⟩:=hat 4 _ _ rfl;rw[T.cis]at g0 g3;rw[T.cb]at g1 g2;rw[T.ct]at g4;obtain⟨b1,e1,_⟩:=DataW.trod_bool T.b g1;obtain⟨b2,e2,_⟩:=DataW.trod_bool T.b g2;simp at e1 e2;subst e1 e2;have hr':(((c0::Value.bool b1::Value.bool b2::c3::r).drop 4).take 7)=r:=zE (by simp[hr])
 rw[hr']at g4;obtain⟨ps,v0,p1,p2,p3⟩:=Jv hM T hs g0 m0;obtain⟨fr,v3,q1,q2,q3⟩:=Jv hM T hs g3 m3;obtain⟨t,ht⟩:=zoi hM hN2 T hs m r y4 g4 m4;simp at p1 q1;subst p1 q1;exact⟨⟨⟨ps,b1,b2,fr,t.1⟩,⟨Nat.lt_of_le_of_lt p3 oM,Nat.lt_of_le_of_lt q3 oM,t.2⟩⟩,VRL.cons p2 (VRL.cons (by simp[VR]) (VRL.cons (by simp[VR]) (VRL.cons q2 ht)))⟩
theorem abs_code(hM:Mu H0 μ)(hN2:N≤1048576)(D:DatumTy P tD tI tS tK fs)(T:CodeTy P tI tB tIs tA tAs tT tTs tF tFs tD tK tC ga gt gf gc)(hs:sp=fun _=>true){cs:List Value}{x:DataW H0×List MemPlace}(h:DataW.trod enc P W 0 sp held n tC cs=some x)(hN:μ x.1≤N):∃c:Cd,LgI 1048577 c∧VRL (pJ W) (w9 c) cs:=by
 obtain⟨hl,m,hm,hat⟩:=QK hM T.c h hN;rw[T.mc]at hat
 rw[T.cc]at hl;obtain⟨c0,c1,c2,c3,c4,rfl⟩:=zkn hl;obtain⟨y0,g0,m0⟩:=hat 0 _ _ rfl;obtain⟨y1,g1,_⟩:=hat 1 _ _ rfl;obtain⟨y2,g2,_⟩:=hat 2 _ _ rfl;obtain⟨y3,g3,_⟩:=hat 3 _ _ rfl;obtain⟨y4,g4,m4⟩:=hat 4 _ _ rfl;rw[T.ci]at g1 g2 g3;rw[T.cfs]at g0;rw[D.ck]at g4;obtain⟨n1,e1⟩:=uL T g1;obtain⟨n2,e2,_,hwf⟩:=DataW.trod_int T.i g2;obtain⟨n3,e3⟩:=uL T g3;simp at e1 e2 e3;subst e1 e2 e3;have hN3:N<2000000:=oM;obtain⟨ds,v4,q1,q2,q3,q4⟩:=Q5 hM (f:=XR) (g:=fun d=>wn d.1) oM D.cd D.k (fun d=>ua d.1) (n:=m) (fun k _ cs x h hx=>zzf hM hN3 D hs k cs x h hx) hs g4 m4;obtain⟨gs,v0,p1,p2,p3⟩:=lK hM (f:=QG) oM T.cf T.fs (fun d=>pP d.1) (n:=m) (fun k _ cs x h hx=>zoh hM hN3 T hs h hx) hs g0 m0;simp at q1 p1;subst q1 p1;refine⟨⟨gs.map (·.1),n1,n2,n3,ds.map (·.1)⟩,⟨by rw[zhw];omega,by rw[zhw];omega,fun f hf=>?_,⟨Hg ds,fun d hd=>?_,?_⟩,?_⟩,?_⟩
 ·obtain⟨g,_,rfl⟩:=List.mem_map.1 hf;exact g.2
 ·have h1:=uj hd;simp only[ph]at h1;omega
 ·simp only[ph];omega
 ·simp only[Lit.wf,zl,decide_eq_true_eq]at hwf;have e:(zA 9223372036854775808)=9223372036854775807+1:=by decide
  rw[e];exact Int.lt_add_one_iff.2 hwf.2
 ·simp only[w9,zhw,WQ,Yj];exact VRL.cons p2 (VRL.cons (by simp[VR]) (VRL.cons (by simp[VR]) (VRL.cons (by simp[VR]) (VRL.cons q2 (VRL.nil _)))))
end
end
theorem right_calls(B:Bx P w)(hs:SrtOk P){c:Cd}(hc:LgI 1048577 c){cs:Array Value}(hv:VRL (pJ w) (w9 c) cs.toList):
  Calls P 4 #[.agg cs] w fun e w'=>e=.returned (.bool true)∧Below w.heap.size w w':=by
 obtain⟨s1,h⟩:=zku B (He hs) hc;have hx:VRL (pJ w) (qD c) [.agg cs]:=VRL.cons (by simp only[vv,VR];exact⟨cs.toList,by simp,hv⟩) (VRL.nil _)
 refine callsIn_wide.1 (CallsIn.mono (h.2 _ w _ (zuw P w true) (show Wf (s00 0 true)from zjk [] 0 true) (fun _ _=>rfl) hx Fence.wide 0 ⟨fun _=>trivial,rfl,rfl⟩) ?_)
 rintro e w' ⟨φ',x,rfl,k1,k2⟩
 simp only[VR]at k2;exact⟨by rw[k2],k1.rel.base⟩
end Go.Proofs.YtbdfljdgapkbcaaGreatDoor.Ev

/- Contracts of functions that IselErrors calls: what a call answers. No conditions. -/
import Derived.Test.YtbdfljdgapkbcaaGreatDoorWF
import Derived.Test.YtbdfljdgapkbcaaGreatDoorWC
import Derived.Test.YtbdfljdgapkbcaaGreatDoorWD
import Derived.Test.YtbdfljdgapkbcaaGreatDoorWE
import Derived.Test.YtbdfljdgapkbcaaGreatDoorWA
import Derived.Test.YtbdfljdgapkbcaaGreatDoorEvG
import Derived.Lib.SlKeysI
import Derived.Maps.Range
import Derived.ChangeArms
set_option linter.unusedSimpArgs false
set_option linter.unusedVariables false
set_option linter.defProp false
set_option maxHeartbeats 4000000
set_option linter.unusedSectionVars false
noncomputable section
open List renaming length → zM, getElem?_eq_getElem → yU, mem_of_mem_drop → zv9, length_append → yO, length_map → zu1, mem_cons_self → zua, map_cons → zY, length_nil → xN, getD_eq_getElem?_getD → xD, length_cons → yw, drop_eq_getElem_cons → zuo, append_assoc → zux, cons_append → yd, map_nil → y7, nil_append → zuc, getElem_mem → zuG, append_nil → zv6, getElem?_append_right → yZ, sum_cons → zu2, getElem?_append_left → yP, map_map → zu3, take_of_length_le → yb
open Nat renaming le_refl → zS, zero_le → yh, le_of_ble_eq_true → zv4, zero_mod → zuk, or_zero → zum, zero_or → zun, lt_succ_self → yx, le_succ → zuC, zero_add → y8, mul_one → xQ, le_trans → zV
open Bool renaming and_eq_true → zP, cond_self → zui, false_or → xR, false_and → zv7, true_or → zuE, and_false → zuj, and_self → xO, true_and → y9, not_false → zuh, not_true → xS
open Array renaming getElem?_toList → zX, length_toList → yQ
open List.Perm renaming refl → zv1
namespace Go.Proofs.YtbdfljdgapkbcaaGreatDoor.Ev
variable {n N nc nf sp i:Nat}{P:Program}{L:za}{cs:zy}{X w:World}{c:Cd}{s:U}{l:zq}
open Nat (reduceEqDiff reduceLeDiff reduceLT reduceAdd reduceMul reduceSub reduceMod reducePow reduceDiv reduceOr reduceShiftLeft reduceGT reduceSucc)
open List (length_cons length_nil length_take length_drop)
open Int renaming reduceOfNat → rO, reduceNegSucc → rN
open T
set_option maxRecDepth 100000
attribute [local go_sem] we x9 wx Nat.or_zero Nat.zero_or Nat.zero_mod Bool.cond_self ltF gtF
theorem Sf{l:List Vl}{o:Vl}{r:List Vl}(hd:l.drop i=o::r):wE 1 (wX (i*2+1) (xW wa l))=some [.int .i64 o.n]:=by
 have h1:=uo (f:=wa) (k:=2) ud i l;rw[qe]at h1|-;rw[<-List.drop_drop,h1,hd];rfl
def Hid(p:Prop):Prop:=p
def fW:ICode->ICode:=λk=>match f169.body with
 |.seq a (.seq b _)=>.seq a (.seq b k)
 |_=>.skip
theorem rp:f169.body=fW Wc:=rfl
section
variable {P:Program}{X:World}{O:Orc}
attribute [local go_sem] wW wR wa in
def rq(h169:O 169=none)(h167:O 167=none)(h191:O 191=none)(h193:O 193=some eC)(h192:O 192=some (uM P X 192 Zf Kz GBo))(hsm:vW P X 192 Zf Kz GBo){S:Sto false}(h:StOk sp L n S)(hN:zM S.obs+2<100000000)(hY:zM S.ys<100000000){l:List Vl}(hl:zM l<2000000)(m:Nat):
  Cv (cl O 169 [.ptr sp 0,qB l] (KL L n m false)) (KD sp L n S 2):=by
 refine wp (F:=f169) h169 rfl rfl (zv4 rfl) ?_;have hw:=h.wf;have hsp:=h.spn;have ho:Own sp S n:=h.fresh (zS _);have k0:StTo sp L n S ((n,some (.row 163 [(0:Nat),(0:Nat)]))::L) (n+1) S:=h.new _;rw[rp];unfold fW f169 cF;simp only;have hr:=h.row;simp only[Sto.row]at hr;refine xY ?_;refine xU (xU (xX ?_));apply x4;refine wq (λi:Nat=>zM S.ys-i) (λi f t=>∃T L2 n2 m2,f=⟨tmL T,[]⟩/\t=KL L2 n2 m2 false/\G T 0 (.ptr sp 0)/\G T 1 (qB l)/\G T 4 (.ptr n 0)/\G T 5 i/\i<=zM S.ys/\WfA L2 n2/\n+1<=n2/\∀j,j<n+1->x3 L2 j=x3 ((n,some (.row 163 [(0:Nat),(0:Nat)]))::L) j) (λi f t hI=>?_) 0 ⟨_,_,_,_,rfl,rfl,sW,sW,sW,sW,yh _,k0.ok.wf,zS _,λ_ _=>rfl⟩;obtain⟨T,L2,n2,m2,rfl,rfl,t0,t1,t4,t5,hi,hw2,hn2,hfr⟩:=hI;have k1:=k0.trans (k0.ok.more hw2 hn2 hfr);have hrow:=k1.ok.row;simp only[Sto.row]at hrow;rcases wj S.ys i with ⟨hlt,hd⟩|⟨y,hlt,hd⟩
 .have hni:¬i<zM S.ys:=J;have g4:x3 L2 n=some (.row 163 [(0:Nat),(0:Nat)]):=(hfr n J).trans (x8 _ _ _);refine xX ?_;refine ro h167 h191 h193 k1.ok hN hY hl (ab:=n) V V V g4 (ho.to' k1) _ λT3 L3 n3 m3 S3 w t4' k3 hb3 q1 q2=>?_;have k4:=(k1.trans k3).put2 (j:=n) (zS _) (by have:=k3.le;omega) hb3 (some (.row 163 (wa w)))
  have g43:=((ho.to' k1).same J k3).trans g4;refine qz ?_;exact⟨w,_,_,_,S3,rfl,rfl,k4,q1,J⟩
 .have hcy:=Xo hd;have hcy1:=Sf hd;have hmem:y∈S.ys:=zv9 (by rw[hd];exact zua)
  obtain⟨i1,a1,bid,oi,oa,l2,rfl,e1,e2,e3,e4,e5,e6,e7⟩:=k1.ok.sy y hmem;obtain⟨q1,q2,gy⟩:=k1.ok.gy (by intro e;rw[e]at hlt;simp at hlt)
  have hi1:=(List.getElem?_eq_some_iff.1 e1).1;have ha1:=(List.getElem?_eq_some_iff.1 e2).1;obtain⟨q3,q4,go⟩:=k1.ok.go (by intro e;rw[e]at e1;simp at e1)
  have c1:=aD e1 e3;have c2:=aD e2 e6;have hbid:=(k1.ok.bne e4).1;have hia:= @pL 2 S.yid (zM S.ys) i hlt;have hib:= @pL 5 S.oid (zM S.obs) i1 hi1;have hic:= @pL 5 S.oid (zM S.obs) a1 ha1;obtain⟨v,⟨r,rfl⟩,_,hev⟩:=vS h192 hsm BI (l2,l) ⟨by simp only;omega,by simp only;omega⟩ (args:=[qB l2,qB l]) (by simp only[Zf,wkL,GZ])
  simp only[wa]at hcy e5;simp only[qB]at t1 c2 hev;have hspn:sp<n2:=k1.ok.spn;have g4:x3 L2 n=some (.row 163 [(0:Nat),(0:Nat)]):=(hfr n J).trans (x8 _ _ _);have hno:Own sp S n2:=k1.ok.fresh (zS _);have k2:=λo1 o2=>(k1.new o1).put2 (j:=n2) J (yx _) hno o2;have k3:=λo1 o2 o3=>(k2 o1 o2).put2 (j:=n) (zS _) J ho o3;have hfr3:Hid (∀o1 o2,∀j,j<n+1->x3 ((n2,o1)::(n2,o2)::L2) j=x3 ((n,some (.row 163 [(0:Nat),(0:Nat)]))::L) j):=λo1 o2 j hj=>by
   (repeat rw[gN J])
   exact hfr j hj
  clear hd hw h hr e1 e2 e3 e6 hfr k1 k0 ho hno hmem;generalize S.yid=yid at *;generalize S.oid=oid at *;cases r with
  |true=>
   refine ev_zc ?_;refine⟨⟨.ofNat 7,.ofNat i1⟩,_,n2+1,_,S,rfl,rfl,k3 _ _ _,J,J⟩
  |false=>
   refine xX ?_;refine⟨i+1,⟨_,_,n2+1,_,rfl,rfl,V,by simp (disch:=first|exact dis|fail)only[go_sem,seval,-rO,-rN, *,qB],V,V,J,?_,J,λj hj=>?_⟩,J⟩
   ·(repeat first|exact hw2.up J|refine WfA.same ?_ J)
   .exact hfr3 _ _ j hj
end
def zvc:lF [45,53,51,54,56,55,48,57,49,50]:=⟨λx hx=>by simp at hx;omega,by decide⟩
def zvd:lF [53,51,54,56,55,48,57,49,49]:=⟨λx hx=>by simp at hx;omega,by decide⟩
def pM{j:Nat}{o:zj}(h:j≠i):x3 ((i,o)::L) j=x3 L j:=by rw[x5,x0 h]
section
variable {P:Program}{X:World}{O:Orc}
section
attribute [local go_sem] wW wR wa
def ri(h166:O 166=none)(h167:O 167=none)(h191:O 191=none)(h189:O 189=some (uM P X 189 lP Ky GBo))(hwi:vW P X 189 lP Ky GBo)(h190:O 190=some (uM P X 190 lO pp lT))(hsm:vW P X 190 lO pp lT){S:Sto false}(h:StOk sp L n S)(hN:zM S.obs<100000000)(b:Bool)(hl:zM l<100000000)(m:Nat):
  Cv (cl O 166 [.ptr sp 0,.agg [.bool b,.lst (zM l) false (xW wg l)]] (KL L n m false)) (KD sp L n S 1):=by
 refine wp (F:=f166) h166 rfl rfl (zv4 rfl) ?_;obtain⟨v,⟨r,rfl⟩,_,hc1⟩:=vS h189 hwi BD ((b,l),[45,53,51,54,56,55,48,57,49,50],[53,51,54,56,55,48,57,49,49]) ⟨by simp only;omega,zvc,zvd⟩ (args:=lP ((b,l),[45,53,51,54,56,55,48,57,49,50],[53,51,54,56,55,48,57,49,49])) (by simp only[lP,wkL,bi,wkV])
 obtain⟨v,⟨z,rfl⟩,_,hc2⟩:=vS h190 hsm BC (b,l) (show (zM l)<1000000000 by omega) (args:=lO (b,l)) (by simp only[lO,wkL,bi])
 simp only[lP,lO,nmV,qd]at hc1 hc2;have hsp:=h.spn;have k0:=(h.new (some (.row 196 [.bool b,.lst (zM l) false (xW wg l)]))).new (some (.row 163 [(0:Nat),(0:Nat)]));have ha1:=λm=>YB h167 h191 k0.ok hN (ty:=.ofNat 7) (cd:=.ofNat 0) (kd:=.nils) (dg:=.lst (zM l) false (xW wg l)) (ng:=b) (λ_=>rfl) (λ_=>rfl) ⟨rfl,rfl⟩ m;have ho:Own sp S (n+1):=h.fresh (zuC _);have hcp:=wI qF l;unfold f166 cF;simp only;cases r with
 |true=>
  clear ha1;refine ev_zc ?_;exact⟨⟨.ofNat 1,z⟩,_,n+1+1,_,S,rfl,rfl,k0.put2 J J ho _,J,J⟩
 |false=>
  refine xY ?_;refine xY ?_;refine xU (wi ?_);refine xZ (ha1 _) λv t hv=>?_;obtain⟨L2,n2,m2,oid2,ld,wd,rfl,rfl,k1⟩:=hv;have hle:=k1.le;have g4:=(ho.same J k1).trans (x8 _ _ _);have k2:=(k0.trans k1).put2 (j:=n+1) J J (ho.to J k1) (some (.row 163 (wa ⟨.ofNat 7,.ofNat (zM S.obs)⟩)));clear ha1 k1 k0;refine xX ?_;refine ev_zc ?_;exact⟨⟨.ofNat 7,.ofNat (zM S.obs)⟩,_,n2,_,_,rfl,rfl,k2,by simp only[yO,yw,xN];omega,by simp only;omega⟩
def Dx(h170:O 170=none)(h167:O 167=none)(h191:O 191=none){Y:Nat}{S:Sto false}(h:StOk sp L n S){vs:List Vl}(hv:vs≠[]->Y<n/\Own sp S Y/\x3 L Y=some (.row 163 (xW wa vs) true false))(w:Vl)(hN:zM S.obs+zM vs<100000000)(m:Nat):
  Cv (cl O 170 [.ptr sp 0,gSl 2 Y (zM vs),.agg (wa w)] (KL L n m false)) (KD sp L n S (zM vs)):=by
 refine wp (F:=f170) h170 rfl rfl (zv4 rfl) ?_;have hw:=h.wf;have hsp:=h.spn;have k0:=(h.new (some (.row 163 [w.k,w.n]))).new (some (.row 163 [(0:Nat),(0:Nat)]));have ho0:Own sp S n:=h.fresh (zS _);have ho1:Own sp S (n+1):=h.fresh (zuC _);unfold f170 cF;simp only;refine xY ?_;refine xU (xU (xX ?_));apply x4;refine wq (λk:Nat=>k) (λk f t=>∃T L2 n2 m2 S2 w2,f=⟨tmL T,[]⟩/\t=KL L2 n2 m2 false/\G T 0 (.ptr sp 0)/\G T 1 (gSl 2 Y (zM vs))/\G T 5 (.ptr n 0)/\G T 6 (.ptr (n+1) 0)/\G T 7 (.int .i64 (dn k))/\k<=zM vs/\StTo sp L n S L2 n2 S2/\n+1+1<=n2/\Own sp S2 n/\Own sp S2 (n+1)/\x3 L2 n=some (.row 163 (wa w2))/\x3 L2 (n+1)=some (.row 163 [(0:Nat),(0:Nat)])/\(vs≠[]->Own sp S2 Y/\x3 L2 Y=some (.row 163 (xW wa vs) true false))/\zM S2.obs+k<=zM S.obs+zM vs/\zM S2.ys<=zM S.ys) (λk f t hI=>?_) (zM vs) ⟨_,_,_,_,S,w,rfl,rfl,sW,sW,sW,sW,by simp (disch:=first|exact dis|fail)only[go_sem,seval,-rO,-rN,Ge],zS _,k0,zS _,ho0,ho1,sW,sW,λhne=>?_,zS _,zS _⟩
 .clear k0;obtain⟨T,L2,n2,m2,S2,w2,rfl,rfl,t0,t1,t5,t6,t7,hk,k1,hn2,ho0,ho1,g5,g6,hv2,hb1,hb2⟩:=hI;obtain⟨w1,w3⟩:=w2;simp only[wa]at g5;cases k with
  |zero=>
   simp only[dn]at t7;have k2:=k1.put2 (j:=n+1) J J ho1 (some (.row 163 (wa ⟨w1,w3⟩)));refine xX ?_;refine ev_zc ?_;exact⟨⟨w1,w3⟩,_,n2,_,S2,rfl,rfl,k2,J,J⟩
  |succ k=>
   simp only[dn]at t7;obtain⟨x,hd⟩:∃x,vs.drop k=x::vs.drop (k+1):=⟨_,zuo J⟩;have hcx:=Xo hd;have hlt:k<zM vs:=J;have hne:vs≠[]:=λe=>by rw[e]at hlt;simp at hlt
   obtain⟨oi,gi⟩:=hv2 hne;have hin:=(hv hne).1;have hia:= @pL 2 Y (zM vs) k hlt;obtain⟨x1,x2⟩:=x;simp only[wa]at hcx;have k2:=k1.new (some (.row 163 [x1,x2,w1,w3]));have ha1:=λm=>YB h167 h191 k2.ok J (ty:=.ofNat 0) (cd:=.ofNat 0) (kd:=.sl n2 0 2 (.fix 2)) (dg:=.nils) (ng:=false) (λ_=>rfl) (λ_=>rfl) ⟨rfl,rfl⟩ m;have hwr:= @Ge k J;clear hd;refine xY ?_;refine xU (x4 ?_);refine wi ?_;refine w7 (ha1 0) λv t hv3=>?_;obtain⟨L3,n3,m3,oid3,ld3,wd3,rfl,rfl,k3⟩:=hv3;have hle:=k3.le;have g53:=(ho0.same J k3).trans ((pM J).trans g5);have g63:=(ho1.same J k3).trans ((pM J).trans g6);have gi3:=(oi.same J k3).trans ((pM J).trans gi);have o3:=ho0.to J k3;have o4:=ho1.to J k3;have o5:=oi.to J k3;have hni:n≠Y:=λe=>by rw[<-e,g5]at gi;simp at gi
   have k4:=(k2.trans k3).put2 (j:=n) J J o3 (some (.row 163 (wa ⟨.ofNat 7,.ofNat (zM S2.obs)⟩)));clear ha1 k1 k2 k3 hv hv2 g5 g6 gi;simp only[wa]at k4;refine xX ?_;refine xX ?_;exact⟨k,⟨_,_,n3,_,_,⟨.ofNat 7,.ofNat (zM S2.obs)⟩,rfl,rfl,V,V,V,V,V,J,k4,J,o3,o4,x8 _ _ _,by rw[gN J];exact g63,λ_=>⟨o5,by rw[gN J];exact gi3⟩,by simp only[yO,yw,xN];omega,by simp only;omega⟩,J⟩
 .obtain⟨q1,q2,q3⟩:=hv hne;exact⟨q2,by (repeat rw[gN J]);exact q3⟩
end
end
def Ks(O:Orc)(d:DT):Prop:=∀(sp:Nat) (L:za) (n:Nat) (S:Sto false) (m:Nat),StOk sp L n S->zM S.obs+2*wL d<100000000->zM S.ys+2*wL d<100000000->Cv (cl O 140 [.ptr sp 0,.agg (qA d)] (KL L n m false)) (KD sp L n S (2*wL d))
section
variable {O:Orc}
attribute [local go_sem] wW wR wa in
def Hh(h107:O 107=none)(xs:List DT)(hx:∀x∈xs,Ks O x){S:Sto false}(h:StOk sp L n S)(hN:zM S.obs+2*qf xs<100000000)(hY:zM S.ys+2*qf xs<100000000)(m:Nat):
  Cv (cl O 107 [.ptr sp 0,.lst (zM xs) false (wy xs)] (KL L n m false)) λv t=>∃Y vs L2 n2 m2 S2,v=gSl 2 Y (zM vs)/\zM vs=zM xs/\t=KL L2 n2 m2 false/\StTo sp L n S L2 n2 S2/\zM S2.obs<=zM S.obs+2*qf xs/\zM S2.ys<=zM S.ys+2*qf xs/\(vs≠[]->n<=Y/\Y<n2/\Own sp S2 Y/\x3 L2 Y=some (.row 163 (xW wa vs) true false)):=by
 refine wp (F:=f107) h107 rfl rfl (zv4 rfl) ?_;have hxl:=vQ xs;unfold f107 cF;simp only;refine xY ?_;refine xY ?_;refine xU (xU (xX ?_));apply x4;refine wq (λi:Nat=>zM xs-i) (λi f t=>∃T L2 n2 m2 S2 Y vs,f=⟨tmL T,[]⟩/\t=KL L2 n2 m2 false/\G T 0 (.ptr sp 0)/\G T 1 (.lst (zM xs) false (wy xs))/\G T 5 (gSl 2 Y (zM vs))/\G T 6 i/\i<=zM xs/\zM vs=i/\StTo sp L n S L2 n2 S2/\zM S2.obs+2*qf (xs.drop i)<=zM S.obs+2*qf xs/\zM S2.ys+2*qf (xs.drop i)<=zM S.ys+2*qf xs/\(vs≠[]->n<=Y/\Y<n2/\Own sp S2 Y/\x3 L2 Y=some (.row 163 (xW wa vs) true false))) (λi f t hI=>?_) 0 ⟨_,L,n,m,S,0,[],rfl,rfl,sW,sW,by simp (disch:=first|exact dis|fail)only[go_sem,seval,-rO,-rN,gSl],sW,yh _,rfl,h.same,zS _,zS _,λhne=>absurd rfl hne⟩
 obtain⟨T,L2,n2,m2,S2,Y,vs,rfl,rfl,t0,t1,t5,t6,hi,rfl,k1,hb1,hb2,hg⟩:=hI;rcases wj xs (zM vs)with ⟨hlt,hd⟩|⟨x,hlt,hd⟩
 .have hni:¬zM vs<zM xs:=J;rw[hd]at hb1 hb2;refine xX ?_;refine ev_zc ?_;exact⟨Y,vs,L2,n2,_,S2,rfl,J,rfl,k1,by simp only[qf]at hb1;omega,by simp only[qf]at hb2;omega,hg⟩
 .have hcx:=Ws hd;rw[<-vr]at hcx;rw[hd]at hb1 hb2;rw[JG]at hb1 hb2;have hxc:=hx x (zv9 (by rw[hd];exact zua))
  have hcall:=λm=>hxc sp _ n2 S2 m k1.ok J J;obtain⟨xk,xn,xt,xks,xp⟩:=x;simp only[wz]at hcx hcall;have hle:=k1.le;clear hd;refine xY ?_;refine xU (x4 ?_);refine xU (wi ?_);refine xZ (hcall _) λv t hv=>?_;obtain⟨w,L4,n4,m4,S4,rfl,rfl,k4,hc1,hc2⟩:=hv;have k5:=(((k1.trans k4).new (some (.row 163 [(0:Nat),(0:Nat)]))).put2 (j:=n4) (by have:=k4.le;omega) (yx _) (k4.ok.fresh (zS _)) (some (.row 163 (wa w))))
  have k6:=k5.new (some (.row 163 (wa w)));have hle4:=k4.le;clear hcall hxc;have hid:vs≠[]->n<=Y/\Y<n4/\Own sp S4 Y/\x3 ((n4+1,some (AObj.row 163 (wa w)))::(n4,some (AObj.row 163 (wa w)))::(n4,some (.row 163 [(0:Nat),(0:Nat)]))::L4) Y=some (.row 163 (xW wa vs) true false):=λhne=>by
   obtain⟨q1,q2,q3,q4⟩:=hg hne;refine⟨q1,J,q3.to J k4,?_⟩
   (repeat rw[gN J])
   rw[q3.same q2 k4];exact q4
  have hsrc:∀m,qu (KL ((n4+1,some (AObj.row 163 (wa w)))::(n4,some (AObj.row 163 (wa w)))::(n4,some (.row 163 [(0:Nat),(0:Nat)]))::L4) (n4+1+1) m false) 2 1 (.sl (n4+1) 0 1 (.fix 1))=some (wa w):=λm=>(j7 (j:=0) (by rw[wM,x8]) rfl).2
  refine xX ?_;refine wi ?_;refine xZ (Qo (f:=wa) (Y:=Y) (vs:=vs) (w:=w) ud jV J (λhne=>⟨by have:=(hid hne).2.1;omega,(hid hne).2.2.2⟩) k6.ok.wf rfl (hsrc _) J J) λv t hv=>?_
  obtain⟨L7,m7,rfl,rfl,g7,hw7,hf7⟩:=hv;have k7:StTo sp L n S L7 (n4+1+1+1) S4:=k6.oth (p:=vs≠[]) (Y:=Y) hw7 (zuC _) (λhp=>⟨(hid hp).2.2.1,(hid hp).1⟩) hf7;have ho7:Own sp S4 (n4+1+1):=k6.ok.fresh (zS _);have hcat:=uW vs w;clear hid hg k6 k5 k4 k1 hf7 hsrc;refine xX ?_;refine xX ?_;exact⟨zM vs+1,⟨_,L7,n4+1+1+1,_,S4,n4+1+1,vs++[w],rfl,rfl,V,V,V,V,J,hcat,k7,J,J,λ_=>⟨J,J,ho7,g7⟩⟩,J⟩
end
structure RVOrc(P:Program)(X:World)(O:Orc):Prop where
 h107:O 107=none
 h140:O 140=none
 h166:O 166=none
 h167:O 167=none
 h169:O 169=none
 h170:O 170=none
 h191:O 191=none
 h193:O 193=some eC
 h168:O 168=some QH
 h136:O 136=some GH
 h192:O 192=some (uM P X 192 Zf Kz GBo)
 hsv:vW P X 192 Zf Kz GBo
 h165:O 165=some (uM P X 165 kh lF GPs)
 hps:vW P X 165 kh lF GPs
 h189:O 189=some (uM P X 189 lP Ky GBo)
 hwi:vW P X 189 lP Ky GBo
 h190:O 190=some (uM P X 190 lO pp lT)
 hsm:vW P X 190 lO pp lT
section
variable {P:Program}{X:World}{O:Orc}
attribute [local go_sem] wW wR wa in
def Dl(H:RVOrc P X O){d:DT}(hm:vz d=true)(ht:TxD d)(hn:wL d<=1100000)(ih:∀x,wL x<wL d->vz x=true->TxD x->Ks O x):Ks O d:=by
 intro sp L n S m h hN hY;refine wp (F:=f140) H.h140 rfl rfl (zv4 rfl) ?_;have hw:=h.wf;have hsp:=h.spn;obtain⟨kd,dn,dt,dk,dp⟩:=d;have k0:∀a b:zj,StTo sp L n S ((n+1,a)::(n,b)::L) (n+1+1) S:=λa b=>(h.new b).new a;have ho1:Own sp S (n+1):=h.fresh J;have hpos:=qW (.mk kd dn dt dk dp);have hsim:∀(w:Vl) (a b c:zj) (m2:Nat),KD sp L n S (2*wL (.mk kd dn dt dk dp)) (.agg (wa w)) (KL ((n+1,a)::(n+1,b)::(n,c)::L) (n+1+1) m2 false):=λw a b c m2=>⟨w,_,_,_,S,rfl,rfl,(k0 b c).put2 J J ho1 a,J,J⟩;have hfin:∀{L1:za} {L2:za} {n2 m2:Nat} {S2:Sto false} (w:Vl),StTo sp L n S L1 (n+1+1) S->StTo sp L1 (n+1+1) S L2 n2 S2->zM S2.obs<=zM S.obs+2*wL (.mk kd dn dt dk dp)->zM S2.ys<=zM S.ys+2*wL (.mk kd dn dt dk dp)->KD sp L n S (2*wL (.mk kd dn dt dk dp)) (.agg (wa w)) (KL ((n+1,some (.row 163 (wa w)))::L2) n2 m2 false):=λw ka kb h1 h2=>⟨w,_,_,_,_,rfl,rfl,(ka.trans kb).put2 J (by have:=kb.le;omega) (ho1.to J kb) _,h1,h2⟩
 simp only[wz];unfold f140 cF;simp only;refine xY ?_;by_cases e1:kd=.ofNat 1
 .subst e1;clear k0 hfin;refine ev_zc ?_;exact hsim ⟨.ofNat 3,dn⟩ _ _ _ _
 have n1:=w8 e1;refine xY ?_;by_cases e3:kd=.ofNat 3
 .subst e3;clear k0 hfin;refine ev_zc ?_;exact hsim ⟨.ofNat 2,dn⟩ _ _ _ _
 have n3:=w8 e3;refine xY ?_;simp only[TxD]at ht;by_cases e2:kd=.ofNat 2
 .subst e2;obtain⟨v,⟨b,q,er,rfl,hq⟩,_,hpc⟩:=vS H.h165 H.hps pH dt ⟨ht.1,ht.2.1⟩ (args:=[.str dt]) rfl;have hlt:=ht.2.1;simp only[nmV,qd]at hpc;have hcp:=wI qF q;have k1:=λa b c:zj=>(k0 a b).new c;refine xU (xY ?_);refine wV sW ?_;refine xY ?_;refine xU (wi ?_);refine xZ (ri H.h166 H.h167 H.h191 H.h189 H.hwi H.h190 H.hsm ((k1 _ _ _).put2 (j:=n+1+1) J J (h.fresh J) _).ok J b (l:=q) J _) λv t hv=>?_;obtain⟨w,L2,n2,m2,S2,rfl,rfl,k2,hc1,hc2⟩:=hv;have hle:=k2.le;have g4:=(ho1.same J k2);simp (disch:=first|exact dis|fail)only[go_sem,seval,-rO,-rN]at g4
  have k3:=(((k1 _ _ _).put2 (j:=n+1+1) J J (h.fresh J) _).trans k2).put2 (j:=n+1) J J (ho1.to J k2) (some (.row 163 (wa w)));clear k0 k1 hfin k2 hpc;refine xX ?_;refine ev_zc ?_;exact⟨w,_,n2,_,S2,rfl,rfl,k3,J,J⟩
 have n2:=w8 e2;refine xY ?_;by_cases e4:kd=.ofNat 4
 .subst e4;have hch:=λs=>Yp (f:=168) H.h168 ⟨ht.1,ht.2.1⟩ s;have ha1:=λm a b=>YB H.h167 H.h191 (k0 a b).ok J (ty:=.ofNat 4) (cd:=.ofNat 0) (kd:=qB (jq dt)) (dg:=.nils) (ng:=false) (λ_=>rfl) (λ_=>rfl) ⟨rfl,rfl⟩ m;simp only[qB]at hch ha1;refine xU (xY ?_);refine wV sW ?_;refine xU (wi ?_);refine xZ (ha1 _ _ _) λv t hv=>?_;obtain⟨L2,n2,m2,oid2,ld,wd,rfl,rfl,k2⟩:=hv;have g4:=(ho1.same J k2);simp (disch:=first|exact dis|fail)only[go_sem,seval,-rO,-rN]at g4
  have hf:=λm=>hfin (m2:=m) ⟨.ofNat 7,.ofNat (zM S.obs)⟩ (k0 _ _) k2 (by simp only[uW];omega) (by simp only;omega)
  clear k0 hfin k2 hch ha1;simp only[wa]at hf;refine xX ?_;refine ev_zc ?_;exact hf _
 have n4:=w8 e4;refine xY ?_;by_cases e5:kd=.ofNat 5
 .subst e5;have hch:=λs=>Yp (f:=168) H.h168 ⟨ht.1,ht.2.1⟩ s;have hcl:=K6 dt;have hlt:=ht.2.1;refine xU (xY ?_);refine wV sW ?_;refine xU (wi ?_);refine xZ (rq H.h169 H.h167 H.h191 H.h193 H.h192 H.hsv (k0 _ _).ok J J (l:=jq dt) J _) λv t hv=>?_;obtain⟨w,L2,n2,m2,S2,rfl,rfl,k2,hc1,hc2⟩:=hv;have g4:=(ho1.same J k2);simp (disch:=first|exact dis|fail)only[go_sem,seval,-rO,-rN]at g4
  have hf:=λm=>hfin (m2:=m) w (k0 _ _) k2 J J;clear k0 hfin k2 hch;simp only[wa]at hf;refine xX ?_;refine ev_zc ?_;exact hf _
 have n5:=w8 e5;refine xY ?_;by_cases e8:kd=.ofNat 8
 .subst e8;have hlen:=ht.2.1;have hbyt:=ht.1;refine xU (xY ?_);refine wV sW ?_;refine xY ?_;refine xU (xU (xX ?_));apply x4;refine wq (λi:Nat=>zM dt-i) (λi f t=>∃T L2 n2 m2 Y vs,f=⟨tmL T,[]⟩/\t=KL L2 n2 m2 false/\G T 0 (.ptr sp 0)/\G T 3 (.ptr n 0)/\G T 4 (.ptr (n+1) 0)/\G T 7 (gSl 2 Y (zM vs))/\G T 8 i/\i<=zM dt/\zM vs=i/\StTo sp L n S L2 n2 S/\n+1+1<=n2/\x3 L2 n=some (.row 120 [(8:Nat),dn,.str dt,.lst (zM dk) false (wy dk),dp])/\x3 L2 (n+1)=some (.row 163 [(0:Nat),(0:Nat)])/\(vs≠[]->n+1+1<=Y/\Y<n2/\x3 L2 Y=some (.row 163 (xW wa vs) true false))) (λi f t hI=>?_) 0 ⟨_,_,_,_,0,[],rfl,rfl,sW,sW,sW,by simp (disch:=first|exact dis|fail)only[go_sem,seval,-rO,-rN,gSl],sW,yh _,rfl,k0 _ _,zS _,sW,sW,λhne=>absurd rfl hne⟩
  obtain⟨T,L2,n2',m2,Y,vs,rfl,rfl,t0,t3,t4,t7,t8,hi,rfl,k2,hle2,g3,g4,hg⟩:=hI;rcases wj dt (zM vs)with ⟨hlt,hd⟩|⟨x,hlt,hd⟩
  .have hni:¬zM vs<zM dt:=J;have hsc:=vU 2 Y (zM vs);have hcc:=wR 2 Y (zM vs);have ha1:=λm=>YB H.h167 H.h191 k2.ok J (ty:=.ofNat 6) (cd:=.ofNat 0) (kd:=gSl 2 Y (zM vs)) (dg:=.nils) (ng:=false) (wW · 2 Y (zM vs)) (λ_=>rfl) ⟨hsc,rfl⟩ m;generalize gSl 2 Y (zM vs)=sv at *;clear hg;refine xX ?_;refine xU (wi ?_);refine xZ (ha1 _) λv t hv=>?_;obtain⟨L3,n3',m3,oid3,ld,wd,rfl,rfl,k3⟩:=hv;have g43:=(ho1.same J k3).trans g4;have k5:=(k2.trans k3).put2 (j:=n+1) J (by have:=k3.le;omega) (ho1.to J k3) (some (.row 163 (wa ⟨.ofNat 7,.ofNat (zM S.obs)⟩)))
   clear k0 hfin k2 k3 ha1;refine xX ?_;refine ev_zc ?_;exact⟨⟨.ofNat 7,.ofNat (zM S.obs)⟩,_,n3',_,_,rfl,rfl,k5,by simp only[uW];omega,by simp only;omega⟩
  .have hx:x<256:=hbyt x (zv9 (by rw[hd];exact zua))
   have hgs:=sX hd;have k3:=k2.new (some (.row 163 (wa ⟨.ofNat 1,.ofNat x⟩)));have hsrc:∀m,qu (KL ((n2',some (AObj.row 163 (wa ⟨.ofNat 1,.ofNat x⟩)))::L2) (n2'+1) m false) 2 1 (.sl n2' 0 1 (.fix 1))=some (wa ⟨.ofNat 1,.ofNat x⟩):=λm=>(j7 (j:=0) (by rw[wM,x8]) rfl).2
   have hid:vs≠[]->Y<n2'+1/\x3 ((n2',some (AObj.row 163 (wa ⟨.ofNat 1,.ofNat x⟩)))::L2) Y=some (.row 163 (xW wa vs) true false):=λhne=>by
    obtain⟨q1,q2,q3⟩:=hg hne;exact⟨J,by rw[gN J];exact q3⟩
   clear hd;refine xY ?_;refine xU (x4 ?_);refine wi ?_;refine xZ (Qo (f:=wa) (Y:=Y) (vs:=vs) (w:=⟨.ofNat 1,.ofNat x⟩) ud jV J hid k3.ok.wf rfl (hsrc _) J J) λv t hv=>?_;obtain⟨L7,m7,rfl,rfl,g7,hw7,hf7⟩:=hv;have k7:StTo sp L n S L7 (n2'+1+1) S:=k3.oth (p:=vs≠[]) (Y:=Y) hw7 (zuC _) (λhp=>⟨h.fresh (by have:=(hg hp).1;omega),by have:=(hg hp).1;omega⟩) hf7
   have g37:=(hf7 n J λhp=>by have:=(hg hp).1;omega).trans ((pM J).trans g3)
   have g47:=(hf7 (n+1) J λhp=>by have:=(hg hp).1;omega).trans ((pM J).trans g4)
   have hcat:=uW vs ⟨.ofNat 1,.ofNat x⟩;clear hid hg k3 k2 k0 hf7 hfin hsrc;refine xX ?_;refine xX ?_;exact⟨zM vs+1,⟨_,L7,n2'+1+1,_,n2'+1,vs++[⟨.ofNat 1,.ofNat x⟩],rfl,rfl,V,V,V,V,V,J,hcat,k7,J,g37,g47,λ_=>⟨J,J,g7⟩⟩,J⟩
 have n8:=w8 e8;refine xY ?_;by_cases e7:kd=.ofNat 7
 .subst e7;have hk:qI (.mk (.ofNat 7) dn dt dk dp)=none:=by
   cases hk:qI (.mk (.ofNat 7) dn dt dk dp)with
   |none=>rfl
   |some p=>exact absurd (v7 (x:=p.1) (y:=p.2) hk).1 (by decide)
  rw[Zn hk,wc rfl]at hm;have hnk:wL (.mk (.ofNat 7) dn dt dk dp)=1+qf dk:=by simp only[wL]
  have hdc:∀x∈dk,Ks O x:=λx hx=>ih x (by rw[hnk];have:=vv hx;omega) (List.all_eq_true.1 hm x hx) (ht.2.2.mem hx)
  refine xU (xY ?_);refine wV sW ?_;refine xU (wi ?_);refine xZ (Hh H.h107 dk hdc (k0 _ _).ok J J _) λv t hv=>?_;obtain⟨Y,vs,L2,n2,m2,S2,rfl,hvl,rfl,k2,hc1,hc2,hg⟩:=hv;have hsc:=vU 2 Y (zM vs);have hcc:=wR 2 Y (zM vs);have ha1:=λm=>YB H.h167 H.h191 k2.ok J (ty:=.ofNat 1) (cd:=.ofNat 0) (kd:=gSl 2 Y (zM vs)) (dg:=.nils) (ng:=false) (wW · 2 Y (zM vs)) (λ_=>rfl) ⟨hsc,rfl⟩ m;generalize gSl 2 Y (zM vs)=sv at *;refine xX ?_;refine xU (wi ?_);refine xZ (ha1 _) λv t hv=>?_;obtain⟨L3,n3',m3,oid3,ld,wd,rfl,rfl,k3⟩:=hv;have k4:=k2.trans k3;have g4:=(ho1.same J k4);simp (disch:=first|exact dis|fail)only[go_sem,seval,-rO,-rN]at g4
  have hf:=λm=>hfin (m2:=m) ⟨.ofNat 7,.ofNat (zM S2.obs)⟩ (k0 _ _) k4 (by simp only[uW];omega) (by simp only;omega)
  clear k0 hfin k2 k3 k4 ha1 hg;simp only[wa]at hf;refine xX ?_;refine ev_zc ?_;exact hf _
 have n7:=w8 e7;refine xY ?_;by_cases e6:kd=.ofNat 6
 .subst e6;cases hk:qI (.mk (.ofNat 6) dn dt dk dp)with
  |none=>
   rw[Zn hk,x0 (by decide)]at hm
   simp[Xf,Vd,GV]at hm
  | some p=>
   obtain⟨x,y⟩:=p;have hni:=lA (.mk (.ofNat 6) dn dt dk dp);have hlt:wL (wU (.mk (.ofNat 6) dn dt dk dp)).2<wL (.mk (.ofNat 6) dn dt dk dp):=by
    rw[vZ hk];have h1:=lA y;have h2:=uu hk;have h3:=qW x;show wL (wU y).2<_;omega
   have hil:=vQ (wU (.mk (.ofNat 6) dn dt dk dp)).1;have hpl:=qW (wU (.mk (.ofNat 6) dn dt dk dp)).2;have hsum:qf (wU (.mk (.ofNat 6) dn dt dk dp)).1+wL (wU (.mk (.ofNat 6) dn dt dk dp)).2+(wU (.mk (.ofNat 6) dn dt dk dp)).1.length<=wL (.mk (.ofNat 6) dn dt dk dp):=UM _ _ (yx _);obtain⟨hi1,hi2,hi3⟩:=UL _ _ (yx _) hm (by simp only[TxD];exact ht)
   have hit:=λs=>GU H.h136 (d:=.mk (.ofNat 6) dn dt dk dp) J s;simp only[itR]at hit;generalize wU (.mk (.ofNat 6) dn dt dk dp)=Ir at *;obtain⟨is,e⟩:=Ir;simp only at hni hlt hil hpl hsum hi1 hi2 hi3 hit;have hdc:∀z∈is,Ks O z:=λz hz=>ih z (by have:=vv hz;omega) (hi1 z hz).1 (hi1 z hz).2
   have hde:=ih e hlt hi2 hi3;obtain⟨ek,en,et,eks,ep⟩:=e;simp only[ZL,wz]at hit;have hcp:wo (wy is)=true:=qZ is;have hcp2:wo (wy eks)=true:=qZ eks;refine xU (xY ?_);refine wV sW ?_;refine xY ?_;have k2:=λa b c e:zj=>((k0 a b).new c).put2 (j:=n+1+1) J J (h.fresh J) e;refine xU (wi ?_);refine xZ (Hh H.h107 is hdc (k2 _ _ _ _).ok J J _) λv t hv=>?_;obtain⟨Y,vs,L2,n2,m2,S2,rfl,hvl,rfl,k3,hc1,hc2,hg⟩:=hv;have hsc:=vU 2 Y (zM vs);have hcc:=wR 2 Y (zM vs);replace hvl:=hvl.symm;have g11:=((h.fresh J:Own sp S (n+1+1)).same J k3);simp (disch:=first|exact dis|fail)only[go_sem,seval,-rO,-rN]at g11
   have hdd:=λm=>hde sp L2 n2 S2 m k3.ok J J;simp only[wz]at hdd;refine xX ?_;refine xU (wi ?_);refine xZ (hdd _) λv t hv=>?_;obtain⟨w,L4,n4,m4,S4,rfl,rfl,k4,hc3,hc4⟩:=hv;clear hdd hde;have k5:=(k4.new (some (.row 163 [(0:Nat),(0:Nat)]))).put2 (j:=n4) k4.le (yx _) (k4.ok.fresh (zS _)) (some (.row 163 (wa w)));have hls:=λm=>Dx H.h170 H.h167 H.h191 k5.ok (vs:=vs) (Y:=Y) (λhne=>by
    obtain⟨q1,q2,q3,q4⟩:=hg hne;have:=k4.le;exact⟨J,q3.to q2 k5,by rw[q3.same q2 k5];exact q4⟩) w J m
   simp only[wa]at hls;refine xX ?_;refine xU (wi ?_);refine xZ (hls _) λv t hv=>?_;obtain⟨w5,L5,n5',m5,S5,rfl,rfl,k6,hc5,hc6⟩:=hv;have k7:=(k3.trans k5).trans k6;have hle7:=k7.le;have g4:=(ho1.same J k7);simp (disch:=first|exact dis|fail)only[go_sem,seval,-rO,-rN]at g4
   have k8:=((k2 _ _ _ _).trans k7).put2 (j:=n+1) J J (ho1.to J k7) (some (.row 163 (wa w5)));clear k0 k2 hfin k3 k4 k5 k6 k7 hls hg g11;simp only[wa]at k8;refine xX ?_;refine ev_zc ?_;exact⟨w5,_,n5',_,S5,rfl,rfl,k8,J,J⟩
 have n6:=w8 e6;clear k0 hfin;refine xY ?_;by_cases e9:kd=.ofNat 9
 .subst e9;refine ev_zc ?_;exact hsim ⟨.ofNat 5,.ofNat 0⟩ _ _ _ _
 have n9:=w8 e9;refine xY ?_;by_cases e10:kd=.ofNat 10
 .subst e10;refine ev_zc ?_;exact hsim ⟨.ofNat 6,.ofNat 0⟩ _ _ _ _
 have n10:=w8 e10;refine xY ?_;refine ev_zc ?_;exact hsim ⟨.ofNat 4,.ofNat 0⟩ _ _ _ _
end
open Int (reduceOfNat reduceNegSucc)
structure RNOrc(P:Program)(X:World)(N:Nat)(O:Orc):Prop extends RVOrc P X O where
 h65:O 65=none
 h106:O 106=none
 h105:O 105=some (UE N)
 hN:N<=1100000
def CY(x:DT)(r:List DT):WY (x::r)=(plD x&&WY r):=by simp only[WY]
section
variable {P:Program}{X:World}{O:Orc}
def Dz(h106:O 106=none):∀(K:Nat) (d:DT),wL d<=K->wL d<1000000000->∀(L:za) (n m:Nat) (b:Bool),cl O 106 [.agg (qA d)] (KL L n m b)=some (.bool (plD d),KL L n m b):=by
 intro K
 induction K with
 |zero=>intro d h;have:=qW d;omega
 | succ K ih=>
  intro d hK hM L n m b;apply sr;refine vf (F:=f106) h106 rfl rfl (zv4 rfl) ?_;obtain⟨kd,dn,dt,dk,dp⟩:=d;have hnk:=vQ dk;have hkk:qf dk<wL (.mk kd dn dt dk dp):=by
   have:=j4 (.mk kd dn dt dk dp);simp only[gL]at this;omega
  have hih:=λx (hx:x∈dk)=>ih x (by have:=vv hx;omega) (by have:=vv hx;omega)
  clear ih;obtain⟨R,hR⟩:∃R,plD (.mk kd dn dt dk dp)=R:=⟨_,rfl⟩;rw[hR];simp only[plD]at hR;simp only[wz];unfold f106 cF;simp only;refine xY ?_;cases e1:(!eqD kd (.ofNat 5)||eqD dn (.ofNat 0))with
  |false=>
   rw[e1,zv7]at hR;subst hR;simp only[Bool.or_eq_false_iff,Bool.not_eq_false']at e1;obtain⟨e2,e3⟩:=e1;clear hih;refine ev_zc ?_;exact⟨rfl,rfl⟩
  | true=>
   rw[e1,y9]at hR;have hj:∀{Q:Res->Fr->U->Prop} {A9:ICode} {T:List (Nat×Z)} {s:U},(eqD kd (.ofNat 5)=false->Ev (evC env (evW env O) none A9 ⟨tmL T,[]⟩ s) Q)->(eqD kd (.ofNat 5)=true->eqD dn (.ofNat 0)=true->Ev (evC env (evW env O) none A9 ⟨tmL T,[]⟩ s) Q)->Ev (evC env (evW env O) none A9 ⟨tmL T,[]⟩ s) Q:=λh1 h2=>by
    cases e2:eqD kd (.ofNat 5)with
    |false=>exact h1 e2
    |true=>rw[e2,xS,xR]at e1;exact h2 e2 e1
   refine u6 (λfr t=>∃T,fr=⟨tmL T,[]⟩/\t=KL ((n,some (.row 120 [kd,dn,.str dt,.lst (zM dk) false (wy dk),dp]))::L) (n+1) 0 true/\G T 1 (.ptr n 0)) ?_ λfr t hI=>?_
   .refine hj (λe2=>?_) λe2 e3=>?_
    .clear hih hR;refine xX ?_;exact⟨_,rfl,trivial,sW⟩
    .clear hih hR;refine xX ?_;exact⟨_,rfl,trivial,sW⟩
   .clear hj e1;obtain⟨T,rfl,rfl,t1⟩:=hI;refine xU (xU (xX ?_));apply x4;refine wq (λi:Nat=>zM dk-i) (λi f t=>∃T m2,f=⟨tmL T,[]⟩/\t=KL ((n,some (.row 120 [kd,dn,.str dt,.lst (zM dk) false (wy dk),dp]))::L) (n+1) m2 true/\G T 1 (.ptr n 0)/\G T 3 i/\i<=zM dk/\m2%2^n=0/\R=WY (dk.drop i)) (λi f t hI=>?_) 0 ⟨_,_,rfl,rfl,V,V,yh _,by simp,hR.symm⟩
    clear hR t1;obtain⟨T,m2,rfl,rfl,t1,t3,hi,hm,hR⟩:=hI;rcases wj dk i with ⟨hlt,hd⟩|⟨x,hlt,hd⟩
    .have hni:¬i<zM dk:=J;rw[hd]at hR;simp only[WY]at hR;clear hd hih;refine xX ?_;refine ev_zc ?_;exact⟨by rw[hR],rfl⟩
    .have hcx:=Ws hd;rw[<-vr]at hcx;have hx:=hih x (zv9 (by rw[hd];exact zua))
     rw[hd,CY]at hR;generalize plD x=r at *;obtain⟨xk,xn,xt,xks,xp⟩:=x;simp only[wz]at hcx hx;clear hd hih;cases r with
     |false=>
      rw[zv7]at hR;subst hR;refine ev_zc ?_;exact⟨rfl,rfl⟩
     |true=>
      rw[y9]at hR;refine xX ?_;exact⟨i+1,⟨_,_,rfl,rfl,V,V,J,V,hR⟩,J⟩
def Hi(H:RVOrc P X O):∀(N:Nat) (d:DT),wL d<N->wL d<=1100000->vz d=true->TxD d->Ks O d
 |0,_,h,_,_,_=>by omega
 |N+1,d,h,hn,hm,ht=>Dl H hm ht hn λx hx h1 h2=>Hi H N x J J h1 h2
attribute [local go_sem] wW wR in
def zzl(H:RNOrc P X N O){l:List DT}(hl:CsPre N l)(hw:WfA L n)(m:Nat):
  Cv (cl O 65 [.lst (zM l) false (wy l),.nils] (KL L n m false)) λv t=>∃x L2 n2 m2,v=.tup [x,.int .i64 (bif VX P X l then .ofNat 0 else .ofNat 2)]/\(x=.nilp\/∃p,x=.ptr p 0)/\t=KL L2 n2 m2 false/\n<=n2/\∀j,j<n->x3 L2 j=x3 L j:=by
 refine wp (F:=f65) H.h65 rfl rfl (zv4 rfl) ?_;have hlen:=vQ l;have hsum:=hl.sum;have hNN:=H.hN;obtain⟨R,hR⟩:∃R,VX P X l=R:=⟨_,rfl⟩;rw[hR];unfold f65 cF;simp only;refine xY ?_;refine xU (xU (xX ?_));apply x4;refine wq (λi:Nat=>zM l-i) (λi f t=>∃T m2,f=⟨tmL T,[]⟩/\t=KL L n m2 false/\G T 0 (.lst (zM l) false (wy l))/\G T 1 .nils/\G T 6 i/\i<=zM l/\(l.take i).all (λd=>vz d&&plD d)=true) (λi f t hI=>?_) 0 ⟨_,_,rfl,rfl,sW,sW,sW,yh _,rfl⟩;obtain⟨T,m2,rfl,rfl,t0,t1,t6,hi,hal⟩:=hI;rcases wj l i with ⟨hlt,hd⟩|⟨d,hlt,hd⟩
 .have hni:¬i<zM l:=J;rw[yb hlt]at hal;have hRt:R=true:=by rw[<-hR];exact hal
  subst hRt;have hdc:∀d∈l,Ks O d:=λd hdm=>by
   have h1:=List.all_eq_true.1 hal d hdm;rw[zP]at h1;have h2:=hl.nd d hdm;exact Hi H.toRVOrc _ d (yx _) J h1.1 (hl.tx.mem hdm)
  have hs0:StOk n ((n,some (U2 false).row)::(n,some (U2 false).row)::L) (n+1) (U2 false):=⟨(hw.cons (yx _) (zuC _)).same (yx _),x8 _ _ _,λh=>absurd rfl h,λh=>absurd rfl h,(λy hy=>by cases hy),(λy hy=>by cases hy)⟩
  have hda:=λm=>Hh H.h107 l hdc hs0 (by simp only[U2,xN];omega) (by simp only[U2,xN];omega) m
  have hap:∀(s:U),uE s 5 1 1 .nils .nils=some (.nils,s):=λs=>rfl;have hr0:(U2 false).row=.row 135 [.nils,.nils,.nils,.nils,.nils,(0:Nat),.bool false]:=rfl;rw[hr0]at hda;clear hR hal hdc;refine xX ?_;refine xY ?_;refine xY ?_;refine xU (wi ?_);refine xZ (hda _) λv t hv=>?_;obtain⟨Y,vs,L3,n3,m3,S3,rfl,hvl,rfl,k3,hc1,hc2,hg⟩:=hv;have hrow:=k3.ok.row;have hsc:=vU 2 Y (zM vs);have hcc:=wR 2 Y (zM vs);have hle:=k3.le;have hfr:Hid (∀j,j<n->x3 L3 j=x3 L j):=λj hj=>by
   rw[k3.fr j J J (λh=>absurd rfl h) (λh=>absurd rfl h)]
   (repeat rw[gN J])
  simp only[Sto.row]at hrow;simp only[vV]at hsc;generalize gSl 2 Y (zM vs)=sv at *;generalize gSl 5 S3.oid (zM S3.obs)=a1 at *;generalize gSl 2 S3.yid (zM S3.ys)=a2 at *;clear hg hvl k3 hs0 hda hap;refine xX ?_;refine ev_zc ?_;exact⟨.ptr n 0,_,n3,_,rfl,.inr ⟨n,rfl⟩,rfl,J,λj hj=>by rw[gN J];exact hfr j hj⟩
 .have hdm:d∈l:=zv9 (by rw[hd];exact zua)
  have hnd:=hl.nd d hdm;have htd:=hl.tx.mem hdm;have hma:=λs=>ZT (f:=105) H.h105 htd hnd s;have hpc:=λL n m b=>Dz H.h106 (wL d) d (zS _) J L n m b;have hcx:=Ws hd;rw[<-vr]at hcx;have htk:l.take (i+1)=l.take i++[d]:=by
   rw[List.take_add_one,<-List.head?_drop,hd];rfl
  have hRf:(vz d&&plD d)=false->R=false:=λh=>by
   rw[<-hR];exact List.all_eq_false.2 ⟨d,hdm,by rw[h];simp⟩
  clear hd hR;cases hmd:vz d with
  |false=>
   rw[hmd]at hma hRf;have:=hRf rfl;subst this;obtain⟨dk,dn,dt,ds,dp⟩:=d;simp only[wz]at hma hcx;clear hRf htk hmd hpc;refine ev_zc ?_;exact⟨.nilp,L,n,_,rfl,.inl rfl,rfl,zS _,λ_ _=>rfl⟩
  | true=>
   rw[hmd]at hma hRf;cases hpd:plD d with
   |false=>
    rw[hpd]at hpc hRf;have:=hRf rfl;subst this;obtain⟨dk,dn,dt,ds,dp⟩:=d;simp only[wz]at hma hcx hpc;clear hRf htk hmd hpd;refine ev_zc ?_;exact⟨.nilp,L,n,_,rfl,.inl rfl,rfl,zS _,λ_ _=>rfl⟩
   | true=>
    rw[hpd]at hpc;have hal2:(l.take (i+1)).all (λd=>vz d&&plD d)=true:=by
     rw[htk,List.all_append,hal];simp[hmd,hpd]
    obtain⟨dk,dn,dt,ds,dp⟩:=d;simp only[wz]at hma hcx hpc;clear hRf htk hmd hpd hal;refine xX ?_;exact⟨i+1,⟨_,_,rfl,rfl,V,V,V,J,hal2⟩,J⟩
end
section
variable {P:Program}{X:World}(B:Bx P X){O:Orc}{N:Nat}(hO:OrcOk P X O)
include B hO
def Dm (H:RNOrc P X N O)(hbl:O 66=some WC)(hnu:O 67=some nQ)(hte:O 68=none)(hfo:O 108=some GG)(c:Cd)(hc:EaPre N c):∃s1,SC P X 35 (qD c) (s00 0 true) (.int .i64 (uA P X c)) s1:=by
 refine bew B hO f35 ?_;have hb:=X9 hbl;have hnum:=λ(l:zq) (a:Int) (h:zM l<1000000000) s=>oc hnu Wx (l,a) h (dQ _) s;have hterms:=λf t hs L n m b=>DI hte hfo (λg hg=>(hc.sz.f g hg).1) (wN t) (f:=f) t (zS _) hs L n m b;obtain⟨R,hR⟩:∃R,uA P X c=R:=⟨_,rfl⟩;rw[hR];unfold uA at hR;have hcs:=hc.cs;have hN:=hc.sz.n;have hfs:=hc.sz.f;have hcu:=λi f r h=> @Ut c.fs i f r h;have hwh:ky c=(AI c&&c.fs.all (wFn c)):=rfl;have hwf:∀f,wFn c f=(!(f.rest&&decide (zM f.ps=0))&&((f.ps.all (λx=>wu x c.vars)&&f.fr.all (λx=>wu x c.vars))&&vD c f f.b)):=λf=>by unfold wFn;rw[List.all_append]
 obtain⟨fs,main,vars,globals,consts⟩:=c;simp only at hcs hR hN hfs hcu hwf;have hne:=λ{L n} (hw:WfA L n) m=>zzl H hcs hw m;simp only[qD,vy,qi,jy,q8,kC,qd]at hterms hnum|-;unfold f35 cF;simp only;refine xY ?_;refine xU (wi ?_);refine xZ (hne (λj hj=>by rw[gN J];rfl) _) λv t hv=>?_
 obtain⟨x,L2,n2,m2,rfl,hx,rfl,hle,hfr⟩:=hv;have g0:=(hfr 0 J).trans (x8 _ _ _);have hxs:vV x=true:=by rcases hx with rfl|⟨p,rfl⟩<;>rfl
 clear hne hx hfr;refine xX ?_;cases c1:ltD globals (.ofNat 0)with
 |true=>
  rw[c1]at hR;simp only[zuE,x6]at hR;subst hR;clear hb hnum hterms;refine ev_zc ?_;exact wT _ _ _
 |false=>
 cases c2:ltD (.ofNat 20000) globals with
 |true=>
  rw[c2]at hR;simp only[zuE,Bool.or_true,x6]at hR;subst hR;clear hb hnum hterms;refine ev_zc ?_;exact wT _ _ _
 |false=>
 cases c3:ltD vars (.ofNat 0)with
 |true=>
  rw[c3]at hR;simp only[Bool.or_true,x6]at hR;subst hR;clear hb hnum hterms;refine ev_zc ?_;exact wT _ _ _
 |false=>
 rw[c1,c2,c3]at hR;simp only[Bool.or_self,wh]at hR;cases hk:VX P X consts with
 |false=>
  rw[hk]at hR;simp only[wh]at hR|-;subst hR;clear hb hnum hterms;refine ev_zc ?_;exact wT _ _ _
 |true=>
 rw[hk]at hR;simp only[x6]at hR|-;clear hk;refine xY ?_;clear c1 c2 c3 hxs;rw[hwh]at hR;unfold AI at hR;have hbm:=hb main (.ofNat (zM fs));clear hb;simp only at hR;cases b0:wu main (.ofNat (zM fs))with
 |false=>
  rw[b0]at hR hbm;simp only[zv7,wh]at hR;subst hR;clear hterms hnum;refine ev_zc ?_;exact wT _ _ _
 | true =>
  rw[b0]at hR hbm;obtain⟨j,rfl,hj⟩:=jR b0;clear b0;have hdj:fs.drop j=fs[j]::fs.drop (j+1):=zuo hj;have hdr:=hcu j _ _ hdj;have hgl:=hfs fs[j] (zuG hj);have hg:QF ⟨fs,.ofNat j,vars,globals,consts⟩ (.ofNat j)=fs[j]:=by
   show fs.getD j fn0=_;rw[xD,yU hj];rfl
  rw[hg]at hR;clear hg hdj;generalize fs[j]=g at hdr hgl hR;obtain⟨gps,grest,gcont,gfr,gb⟩:=g;obtain⟨gk,gv,gop,gn,gf,gas,gks⟩:=gb;simp only[wD,wl,qd]at hdr hgl hR;obtain⟨gl1,gl2,_⟩:=hgl;refine xY ?_;refine xY ?_;by_cases d1:zM gps=0
  .by_cases d2:zM gfr=0
   .cases grest with
    |true=>
     rw[xS,zuj,zuj,zv7,wh]at hR;subst hR;clear hterms hnum;refine ev_zc ?_;exact wT _ _ _
    | false=>
     rw[show decide (zM gps+zM gfr=0)=true from qp J,zuh,xO,xO,y9]at hR;generalize hal:wFn ⟨fs,.ofNat j,vars,globals,consts⟩=wf at *;clear hbm;refine xY ?_;refine xU (xU (xX ?_));apply x4;refine wq (λi:Nat=>zM fs-i) (λi f t=>∃T L n m,f=⟨tmL T,[]⟩/\t=KL L n m false/\G T 1 (.ptr 0 0)/\G T 6 i/\i<=zM fs/\1<=n/\x3 L 0=some (.row 25 [.lst (zM fs) false (xW wD fs),j,vars,globals,.lst (zM consts) false (wy consts)])/\(bif (fs.drop i).all wf then (.ofNat 0:Int)else .ofNat 4)=R) (λi f t hI=>?_) 0 ⟨_,_,n2+1,_,rfl,rfl,V,V,yh _,J,by (repeat rw[gN J]);exact g0,hR⟩
     clear hR g0 hdr d1 d2;obtain⟨T,L,n,m,rfl,rfl,t1,t6,hi,hn,g0,hR⟩:=hI;rcases wj fs i with ⟨hi2,hd⟩|⟨f,hi2,hd⟩
     .have hlt:¬i<zM fs:=J;rw[hd,List.all_nil,x6]at hR;subst hR;clear hd hi2 hterms hnum hwf hcu;refine xX ?_;refine ev_zc ?_;exact wT _ _ _
     .have hcf:=hcu i f _ hd;have hfl:=hfs f (zv9 (by rw[hd];exact zua))
      have htf:=hterms f f.b hfl.2.2;have hn1:=hnum f.ps vars hfl.1;have hn2:=hnum f.fr vars hfl.2.1;rw[hd,List.all_cons,hwf]at hR;generalize vD _ f f.b=p4 at *;generalize (f.ps.all λx=>wu x vars)=p2 at *;generalize (f.fr.all λx=>wu x vars)=p3 at *;obtain⟨ps,rest,cont,fr,b⟩:=f;obtain⟨bk,bv,bop,bn,bf,bas,bks⟩:=b;simp only[wD,wl,qd]at hcf hfl htf hn1 hn2 hR;obtain⟨hl1,hl2,_⟩:=hfl;clear hterms hnum hwf hcu hd hal hfs;have hbad:(bif false&&(fs.drop (i+1)).all wf then (.ofNat 0:Int)else .ofNat 4)=R->R=.ofNat 4:=λh=>h.symm;cases rest with
      | true=>
       by_cases d1:zM ps=0
       .rw[qp d1]at hR;clear htf hn1 hn2;obtain rfl:=hbad hR;clear hbad hR;refine ev_zc ?_;exact wT _ _ _
       .rw[qb d1,zuj,zuh,y9]at hR;cases p2 with
        |false=>
         clear htf;obtain rfl:=hbad hR;clear hbad hR;refine ev_zc ?_;exact wT _ _ _
        |true=>
        cases p3 with
        |false=>
         clear htf;obtain rfl:=hbad hR;clear hbad hR;refine ev_zc ?_;exact wT _ _ _
        |true=>
        cases p4 with
        |false=>
 obtain rfl:=hbad hR;clear hbad hR;refine ev_zc ?_
 exact wT _ _ _
        |true=>
         clear hbad;refine xX ?_;exact⟨i+1,⟨_,_,n+1,_,rfl,rfl,V,V,J,J,by (repeat rw[gN J]);exact g0,hR⟩,J⟩
      | false=>
       rw[zv7,zuh,y9]at hR;cases p2 with
       |false=>
        clear htf;obtain rfl:=hbad hR;clear hbad hR;refine ev_zc ?_;exact wT _ _ _
       |true=>
       cases p3 with
       |false=>
        clear htf;obtain rfl:=hbad hR;clear hbad hR;refine ev_zc ?_;exact wT _ _ _
       |true=>
       cases p4 with
       |false=>
 obtain rfl:=hbad hR;clear hbad hR;refine ev_zc ?_
 exact wT _ _ _
       |true=>
        clear hbad;refine xX ?_;exact⟨i+1,⟨_,_,n+1,_,rfl,rfl,V,V,J,J,by (repeat rw[gN J]);exact g0,hR⟩,J⟩
   .have h1:decide (zM gps+zM gfr=0)=false:=qb J;rw[h1,zv7,zuj,zv7,wh]at hR;have h2:0<zM gfr:=J;subst hR;clear hterms hnum h1;refine ev_zc ?_;exact wT _ _ _
  .have h1:decide (zM gps+zM gfr=0)=false:=qb J;rw[h1,zv7,zuj,zv7,wh]at hR;have h2:0<zM gps:=J;subst hR;clear hterms hnum h1;refine ev_zc ?_;exact wT _ _ _
end
def Put2(met l:zq)(o:Option zq):Prop:=met.Nodup->match o with
 |some m=>m.Perm (met++l)/\(met++l).Nodup
 |none=>¬(met++l).Nodup
def Put2.perm{met l2:zq}{o:Option zq}(h:Put2 met l o)(p:l.Perm l2):Put2 met l2 o:=λhn=>by
 have h:=h hn;have hp:(met++l).Perm (met++l2):=p.append_left met;cases o with
 |none=>exact λg=>h (hp.nodup_iff.2 g)
 |some m=>exact⟨h.1.trans hp,hp.nodup_iff.1 h.2⟩
def Put2.bind{met l2:zq}{o:Option zq}{g:zq->Option zq}(h:Put2 met l o)(hg:∀m,o=some m->Put2 m l2 (g m)):Put2 met (l++l2) (o.bind g):=λhn=>by
 have h:=h hn;cases o with
 |none=>
  simp only[Option.bind_none];intro g2;rw[<-zux]at g2;exact h (List.nodup_append.1 g2).1
 |some m=>
  have hp:(m++l2).Perm (met++(l++l2)):=by rw[<-zux];exact h.1.append_right l2
  have hm:=hg m rfl (h.1.nodup_iff.2 h.2);simp only[Option.bind_some];cases hgm:g m with
  |none=>rw[hgm]at hm;exact λg2=>hm (hp.nodup_iff.2 g2)
  |some q=>rw[hgm]at hm;exact⟨hm.1.trans hp,hp.nodup_iff.1 hm.2⟩
def Hb(v:Int)(met:zq):Put2 met [v] (bB v met):=λhn=>by
 unfold bB;by_cases h:v∈met
 .rw[wc h];intro g;exact(List.nodup_append.1 g).2.2 v h v (by simp) rfl
 .rw[x0 h];refine⟨zv1 _,List.nodup_append.2 ⟨hn,by simp,λa ha b hb e=>?_⟩⟩
  rw[List.mem_singleton]at hb;exact h (by rw[<-hb,<-e];exact ha)
def V4(met:zq):Put2 met [] (some met):=λhn=>by
 rw[zv6];exact⟨zv1 _,hn⟩
mutual
theorem fP:∀(t:Trm) (met:zq),Put2 met (YY t) (HP t met)
 |.mk k v op n f az ks,met=>by
  simp only[YY,HP];refine Put2.bind ?_ λm _=>PB ks m;cases vG k with
  |true=>exact Hb v met
  |false=>exact V4 met
theorem PB:∀(l:List Trm) (met:zq),Put2 met (Vf l) (Jg l met)
 |[],met=>V4 met
 |x::r,met=>by
  simp only[Vf,Jg];exact(Put2.bind (PB r met) λm _=>fP x m).perm List.perm_append_comm
end
def PD:∀(l met:zq),Put2 met l (Hd l met)
 |[],met=>V4 met
 |v::r,met=>by
  simp only[Hd];exact Put2.bind (l:=[v]) (Hb v met) λm _=>PD r m
def lq:List Fn->zq
 |[]=>[]
 |f::r=>f.ps++(YY f.b++lq r)
def PC:∀(l:List Fn) (met:zq),Put2 met (lq l) (YE l met)
 |[],met=>V4 met
 |f::r,met=>by
  simp only[lq,YE];rw[<-zux];exact Put2.bind (Put2.bind (PD f.ps met) λm _=>fP f.b m) λm _=>PC r m
def aJ:zq->zq->Bool
 |_,[]=>false
 |met,x::r=>gB met x||aJ (met++[x]) r
def dM:∀(l met:zq),met.Nodup->(aJ met l=true↔¬(met++l).Nodup)
 |[],met,hn=>by simp only[aJ,zv6];exact⟨(λh=>by cases h),λh=>absurd hn h⟩
 | x::r,met,hn=>by
  simp only[aJ,Bool.or_eq_true,pN];by_cases h:x∈met
  .exact⟨λ_ g=>(List.nodup_append.1 g).2.2 x h x (by simp) rfl,λ_=>.inl h⟩
  .have hn2:(met++[x]).Nodup:=by
    have:=Hb x met hn;unfold bB at this;rw[x0 h]at this;exact this.2
   rw[dM r (met++[x]) hn2,zux];exact⟨λg=>g.resolve_left h,.inr⟩
def Nj(c:Cd):JI c= !aJ [] (lq c.fs):=by
 have h1:=PC c.fs [] List.nodup_nil;have h2:=dM (lq c.fs) [] List.nodup_nil;unfold JI;cases ho:YE c.fs []with
 |none=>
  rw[ho]at h1;rw[h2.2 h1];rfl
 |some m=>
  rw[ho]at h1;cases hd:aJ [] (lq c.fs)with
  |false=>rfl
  |true=>exact absurd h1.2 (h2.1 hd)
def Le:∀l:List Fn,(lq l).length<=(l.map λf=>zM f.ps+wN f.b).sum
 |[]=>zS _
 |f::r=>by
  have h1:=Le r;have h2:=Ve f.b;simp only[lq,yO,zY,zu2];omega
theorem Fu{S:zc}{j:Nat}(h:j<List.length S):wE 1 (wX j (xW vI S))=some [.lst (S.getD j []).length false (xW wg (S.getD j []))]:=by
 have hd:S.drop j=S[j]::S.drop (j+1):=zuo h;have:=Jy Yl hd;rw[xQ]at this;rw[this,xD,yU h];rfl
section
variable {O:Orc}
attribute [local go_sem] wW in
def Of(h37:O 37=none)(l:zq)(a:Int)(hl:zM l<1000000000){Y:Nat}(hg:GI L n Y l)(m:Nat)(b:Bool):
  cl O 37 [gSl 1 Y (zM l),a] (KL L n m b)=some (.bool (gB l a),KL L n m b):=by
 apply sr;refine vf (F:=f37) h37 rfl rfl (zv4 rfl) ?_;obtain⟨R,hR⟩:∃R,gB l a=R:=⟨_,rfl⟩;rw[hR];unfold f37 cF;simp only;refine xY ?_;refine xU (xU (xX ?_));apply x4;refine wq (λi:Nat=>zM l-i) (λi f t=>∃T m2,f=⟨tmL T,[]⟩/\t=KL L n m2 true/\G T 0 (gSl 1 Y (zM l))/\G T 1 (.int .i64 a)/\G T 5 i/\i<=zM l/\m2%2^n=0/\R=gB (l.drop i) a) (λi f t hI=>?_) 0 ⟨_,_,rfl,rfl,sW,sW,sW,yh _,by simp,hR.symm⟩
 clear hR;obtain⟨T,m2,rfl,rfl,t0,t1,t5,hi,hm,hR⟩:=hI;rcases wj l i with ⟨hlt,hd⟩|⟨y,hlt,hd⟩
 .have hni:¬i<zM l:=J;rw[hd]at hR;simp only[gB,List.any_nil]at hR;subst hR;clear hd;refine xX ?_;refine ev_zc ?_;exact⟨rfl,rfl⟩
 .have hc:=uz hd;have hia:= @pL 1 Y (zM l) i hlt;have hrow:=(hg (λe=>by rw[e]at hlt;simp at hlt)).2
  simp only[xQ]at hia;rw[hd]at hR;simp only[gB,List.any_cons]at hR;clear hd;cases e:eqD y a with
  |true=>
   rw[e,zuE]at hR;subst hR;refine ev_zc ?_;exact⟨rfl,rfl⟩
  |false=>
   rw[e,xR]at hR;refine xX ?_;exact⟨i+1,⟨_,_,rfl,rfl,V,V,V,J,V,hR⟩,J⟩
end
mutual
theorem AD{m:Nat}:∀t:Trm,Q8 m t->cr m t
 |.mk k v op n f az ks,h=>by
  simp only[Q8]at h;simp only[cr];exact⟨h.2.2.1,iE ks h.2.2.2⟩
theorem iE{m:Nat}:∀l:List Trm,KC m l->Kt m l
 |[],_=>by simp only[Kt]
 |t::r,h=>by
  simp only[KC]at h;simp only[Kt];exact⟨AD t h.1,iE r h.2⟩
end
structure RcPre(N:Nat)(c:Cd):Prop where
 ea:EaPre N c
 nt:∀f∈c.fs,zM f.ps+wN f.b<900000000
 us:∀f∈c.fs,(gQ f.b).length+(kE c).length *wN f.b<1000000000
 al:(c.fs.map λf=>zM f.ps+wN f.b).sum<900000000
def zyw{c:Cd}(h:RcPre N c)(h2:uA P X c=.ofNat 0):SePre c/\∀f∈c.fs,SzT f.b:=by
 have hw:=(kP h2).1;unfold ky at hw;rw[zP]at hw;refine⟨⟨h.ea.sz.n,λf hf=>?_⟩,λf hf=>(h.ea.sz.f f hf).2.2⟩;have h1:=List.all_eq_true.1 hw.2 f hf;unfold wFn at h1;rw[zP,zP]at h1;have h3:=h.nt f hf;exact⟨(h.ea.sz.f f hf).2.2,AD _ (HC f.b h1.2.2 (h.ea.sz.f f hf).2.2).2,J,h.us f hf⟩
def aS(P:Program)(X:World)(N:Nat):zt->U->zb:=vw qD (RcPre N) (λc=>.int .i64 (uZ P X c))
section
variable {P:Program}{X:World}(B:Bx P X){O:Orc}{N:Nat}(hO:OrcOk P X O)
include B hO
attribute [local go_sem] wW in
def Dk(hea:O 35=some (XR P X N))(h36:O 36=none)(hbi:O 69=some Zi)(h37:O 37=none)(hse:O 38=some Mk)(c:Cd)(hc:RcPre N c):∃s1,SC P X 17 (qD c) (s00 0 true) (.int .i64 (uZ P X c)) s1:=by
 refine bew B hO f17 ?_;have hea:=λs=>oc hea vM c hc.ea (uG c) s;obtain⟨R,hR⟩:∃R,uZ P X c=R:=⟨_,rfl⟩;rw[hR];unfold uZ at hR;have hw:=λh=>zyw (P:=P) (X:=X) hc h;generalize uA P X c=e at *;cases c1:eqD e (.ofNat 0)with
 |false=>
  rw[c1]at hR;simp only[wh]at hR;subst hR;clear hw;obtain⟨fs,main,vars,globals,consts⟩:=c;unfold f17 cF;simp only[qD,vy,qi]at hea|-;refine xY ?_;refine xY ?_;refine ev_zc ?_;exact wT _ _ _
 |true=>
 rw[c1,x6,Nj]at hR;have he:e=.ofNat 0:=by simpa [eqD]using c1
 subst he;obtain⟨hsp,hsz⟩:=hw rfl;have hst:=λs=>oc hse vM c hsp (uG c) s;have hfz:=hc.ea.sz.f;have hnf:=hc.ea.sz.n;have hal:=hc.al;have hrl:(jl c).length=zM c.fs:=l8 c _;have hcap:∀i,KZ c i (c.fs.drop i)=match c.fs.drop i with
  |[]=>false
  |f::r=>(decide (0<((jl c).getD i []).length)&&(eqD (.ofNat i) c.main||decide (0<zM f.fr)))||KZ c (i+1) r:=λi=>by
  cases c.fs.drop i with
  |nil=>rfl
  |cons f r=>simp only[KZ,Hg,Bool.and_comm]
 have hc0:KZ c 0 c.fs=KZ c 0 (c.fs.drop 0):=rfl;rw[hc0]at hR;clear hw c1 hsp hc hc0;generalize KZ c=CI at *;generalize jl c=SS at *;have hcut:=λi f r h=> @lg c.fs i f r h;have hSc:=λi (h:i<zM SS)=> @Fu SS i h;have hbd:=λt hs l L n m Y a1 a2 a3=>Di h36 hbi (wN t) t (zS _) hs l L n m Y a1 a2 a3;obtain⟨fs,main,vars,globals,consts⟩:=c;simp only[qD,vy,qi,lQ]at hea hst hcut hcap hfz hnf hR hal hrl hsz|-;unfold f17 cF;simp only;refine xY ?_;refine xY ?_;refine xY ?_;clear hea;refine xY ?_;have hsum:∀{i:Nat} {f:Fn} {r:List Fn},fs.drop i=f::r->zM f.ps+wN f.b+(r.map λf=>zM f.ps+wN f.b).sum=((fs.drop i).map λf=>zM f.ps+wN f.b).sum:=λh=>by rw[h];simp
 refine u6 (λfr t=>∃T L n m Y,fr=⟨tmL T,[]⟩/\t=KL L n m false/\G T 1 (.ptr 0 0)/\G T 4 (gSl 1 Y (lq fs).length)/\G T 5 .nils/\WfA L n/\1<=n/\GI L n Y (lq fs)/\(lq fs≠[]->1<=Y)/\x3 L 0=some (.row 25 [.lst (zM fs) false (xW wD fs),main,vars,globals,.lst (zM consts) false (wy consts)])) ?_ λfr t hI=>?_
 .clear hR hst hcap hSc;refine xU (xX ?_);apply x4;refine wq (λi:Nat=>zM fs-i) (λi f t=>∃T L n m Y l,f=⟨tmL T,[]⟩/\t=KL L n m false/\G T 1 (.ptr 0 0)/\G T 4 (gSl 1 Y (zM l))/\G T 5 .nils/\G T 6 i/\i<=zM fs/\WfA L n/\1<=n/\GI L n Y l/\(l≠[]->1<=Y)/\x3 L 0=some (.row 25 [.lst (zM fs) false (xW wD fs),main,vars,globals,.lst (zM consts) false (wy consts)])/\zM l+((fs.drop i).map λf=>zM f.ps+wN f.b).sum<900000000/\l++lq (fs.drop i)=lq fs) (λi f t hI=>?_) 0 ⟨_,_,_,_,0,[],rfl,rfl,sW,by simp (disch:=first|exact dis|fail)only[go_sem,seval,-rO,-rN,gSl],sW,sW,yh _,(λj hj=>by rw[gN J];rfl),zS _,λh=>absurd rfl h,λh=>absurd rfl h,sW,by simpa using hal,rfl⟩
  obtain⟨T,L,n,m,Y,l,rfl,rfl,t1,t4,t5,t6,hi,hw,hn,hg,hid,g0,hll,hR⟩:=hI;rcases wj fs i with ⟨hi2,hd⟩|⟨f,hi2,hd⟩
  .have hlt:¬i<zM fs:=J;rw[hd]at hR;simp only[lq,zv6]at hR;subst hR;clear hd hi2 hbd hcut hsum hfz hsz;refine xX ?_;exact⟨_,L,n,_,Y,rfl,rfl,V,V,V,hw,hn,hg,hid,g0⟩
  .have hcf:=hcut i f _ hd;have hfl:=hfz f (zv9 (by rw[hd];exact zua))
   have hsf:=hsz f (zv9 (by rw[hd];exact zua))
   have hs2:=hsum hd;have hbb:=hbd f.b hsf;have hbl:=Ve f.b;rw[hd]at hR;simp only[lq]at hR;rw[<-hs2]at hll;obtain⟨ps,rest,cont,fr,b⟩:=f;have hl7:=wP b;simp only at hbb hbl hR hfl hll;obtain⟨bk,bv,bop,bn,bf,bas,bks⟩:=b;simp only[wD,wl,qd,yd,zuc]at hcf;simp only[q8,wl]at hbb;generalize Trm.mk bk bv bop bn bf bas bks=bb at *;clear hbd hcut hsum hd hs2 hsz hfz;refine xY ?_;refine xU (x4 ?_);refine xU (wi ?_);refine xZ (zwD (f:=wg) (Y:=Y) (vs:=l) (ws:=ps) (lo:=1) qm vq J (λh=>⟨hid h,hg h⟩) hw hn rfl (λh=>by
    simp only[qu];rw[show Nat.mul (zM ps) 1=(xW wg ps).length from (qK qm ps).symm];exact qg rfl) J J) λv t hv=>?_
   obtain⟨id1,L1,n1,m1,rfl,rfl,hG1,hw1,hn1,hf1,_⟩:=hv;have g01:=(hf1 0 J).trans g0;have hg1:GI L1 n1 id1 (l++ps):=λh=>(hG1 h).2;have hid1:l++ps≠[]->1<=id1:=λh=>(hG1 h).1;have hb1:=λm=>hbb (l++ps) L1 n1 m id1 hw1 hg1 (by simp only[yO];omega)
   clear hbb g0 hf1 hG1 hg hid hw;have hlp:(l++ps).length<=zM l+zM ps:=Nat.le_of_eq yO;generalize hl1e:l++ps=l1 at *;refine xX ?_;refine wi ?_;refine xZ (hb1 _) λv t hv=>?_;obtain⟨id2,L2,n2,m2,rfl,rfl,hw2,hn2,hg2,hid2,hf2⟩:=hv;have g02:=(hf2 0 J λh=>by have:=hid1 h;omega).trans g01
   have hid3:l1++YY bb≠[]->1<=id2:=λh=>by
    rcases hid2 h with ⟨h1,h2⟩|h2
    .rw[h2];exact hid1 h1
    .omega
   have hlb:(l1++YY bb).length<=zM l1+(YY bb).length:=Nat.le_of_eq yO;rw[<-zux,<-zux,hl1e]at hR;clear hb1 hid2 hf2 g01 hg1 hid1;generalize l1++YY bb=l2 at *;refine xX ?_;refine xX ?_;exact⟨i+1,⟨_,L2,n2,_,id2,l2,rfl,rfl,V,V,V,V,J,hw2,J,hg2,hid3,g02,J,hR⟩,J⟩
 .clear hbd hsum hsz;obtain⟨T,L,n,m,Y,rfl,rfl,t1,t4,t5,hw,hn,hg,hid,g0⟩:=hI;have hAl:(lq fs).length<1000000000:=by
   have:=Le fs;omega
  clear hal;generalize lq fs=A9 at *;have hhas:=λ(l:zq) (a:Int) (hl:zM l<1000000000) (L:za) (n Y:Nat) (hg:GI L n Y l) m b=>Of h37 l a hl hg m b;refine u6 (λfr t=>∃T L n m,fr=⟨tmL T,[]⟩/\t=KL L n m false/\G T 1 (.ptr 0 0)/\1<=n/\x3 L 0=some (.row 25 [.lst (zM fs) false (xW wD fs),main,vars,globals,.lst (zM consts) false (wy consts)])/\(bif CI 0 (fs.drop 0)then (.ofNat 6:Int)else .ofNat 0)=R) ?_ λfr t hI=>?_
  .clear hst hcap hSc hcut hfz;generalize (bif CI 0 (fs.drop 0)then (.ofNat 6:Int)else .ofNat 0)=X9 at *;refine xU (xX ?_);apply x4;refine wq (λj:Nat=>zM A9-j) (λj f t=>∃T L n m idm mt,f=⟨tmL T,[]⟩/\t=KL L n m false/\G T 1 (.ptr 0 0)/\G T 4 (gSl 1 Y (zM A9))/\G T 5 (gSl 1 idm (zM mt))/\G T 7 j/\j<=zM A9/\zM mt=j/\WfA L n/\1<=n/\GI L n Y A9/\GI L n idm mt/\(mt≠[]->1<=idm/\(A9≠[]->idm≠Y))/\x3 L 0=some (.row 25 [.lst (zM fs) false (xW wD fs),main,vars,globals,.lst (zM consts) false (wy consts)])/\(bif !aJ mt (A9.drop j)then X9 else .ofNat 14)=R) (λj f t hI=>?_) 0 ⟨_,L,n,_,0,[],rfl,rfl,V,V,by simp (disch:=first|exact dis|fail)only[go_sem,seval,-rO,-rN, *,gSl],V,yh _,rfl,hw,hn,hg,λh=>absurd rfl h,λh=>absurd rfl h,g0,hR⟩
   clear hR t1 t4 t5 hw hn hg g0;obtain⟨T,L,n,m,idm,mt,rfl,rfl,t1,t4,t5,t7,hj,rfl,hw,hn,hg,hgm,him,g0,hR⟩:=hI;rcases wj A9 (zM mt)with ⟨hlt,hd⟩|⟨x,hlt,hd⟩
   .have hni:¬zM mt<zM A9:=J;rw[hd]at hR;simp only[aJ,zuh,x6]at hR;clear hd hhas;refine xX ?_;exact⟨_,L,n,_,rfl,rfl,V,hn,g0,hR⟩
   .have hc:=uz hd;have hia:= @pL 1 Y (zM A9) (zM mt) hlt;have hAn:A9≠[]:=λe=>by rw[e]at hlt;simp at hlt
    have hrow:=(hg hAn).2;have hin:=(hg hAn).1;have hh:=λm b=>hhas mt x J L n idm hgm m b;simp only[xQ]at hia;rw[hd]at hR;simp only[aJ]at hR;generalize gB mt x=hb at *;clear hd hhas;cases hb with
    |true=>
     rw[zuE,xS,wh]at hR;subst hR;refine ev_zc ?_;exact wT _ _ _
    |false=>
     rw[xR]at hR;refine xY ?_;refine xU (x4 ?_);refine xY ?_;have hw1:∀o:zj,WfA ((n,o)::L) (n+1):=λo=>hw.cons (yx _) (zuC _);have hsrc:∀(m:Nat) (o:Bool),qu (KL ((n,some (AObj.row 3 [x] o false))::L) (n+1) m false) 1 1 (.sl n 0 1 (.fix 1))=some (wg x):=λm o=>(j7 (j:=0) (cs:=wg x) (x:=o) (f:=false) (e:=3) (by rw[wM,x8];rfl) rfl).2
     refine wi ?_;refine xZ (Qo (f:=wg) (Y:=idm) (vs:=mt) (w:=x) qm vq J (λh=>⟨by have:=(hgm h).1;omega,by have:=hgm h;rw[gN J];exact this.2⟩) (hw1 _) rfl (hsrc _ _) J J) λv t hv=>?_
     obtain⟨L7,m7,rfl,rfl,g7,hw7,hf7⟩:=hv;have g07:=(hf7 0 J λh=>by have:=(him h).1;omega).trans ((pM J).trans g0)
     have hg7:GI L7 (n+1+1) Y A9:=λh=>⟨J,(hf7 Y J λh2=>((him h2).2 h).symm).trans ((pM J).trans hrow)⟩;have hcat:=uW mt x;clear hf7 hsrc hw1 hh him hgm hg hw hrow hia;refine xX ?_;refine xX ?_;exact⟨zM mt+1,⟨_,L7,n+1+1,_,n+1,mt++[x],rfl,rfl,V,V,V,V,J,hcat,hw7,J,hg7,λ_=>⟨J,g7⟩,λ_=>⟨J,λ_=>J⟩,g07,hR⟩,J⟩
  .clear hR hhas hg hid hw t1 t4 t5 hn g0;obtain⟨T,L,n,m,rfl,rfl,t1,hn,g0,hR⟩:=hI;refine xY ?_;clear hst;refine xU (xU (xX ?_));apply x4;refine wq (λi:Nat=>zM fs-i) (λi f t=>∃T m,f=⟨tmL T,[]⟩/\t=KL L n m false/\G T 1 (.ptr 0 0)/\G T 8 (.lst (zM SS) false (xW vI SS))/\G T 9 i/\i<=zM fs/\(bif CI i (fs.drop i)then (.ofNat 6:Int)else .ofNat 0)=R) (λi f t hI=>?_) 0 ⟨_,_,rfl,rfl,V,V,V,yh _,hR⟩;clear hR t1;obtain⟨T,m,rfl,rfl,t1,t8,t9,hi,hR⟩:=hI;rcases wj fs i with ⟨hlt,hd⟩|⟨g,hlt,hd⟩
   .rw[hcap i,hd]at hR;simp only[wh]at hR;subst hR;have:¬i<zM fs:=J;clear hcap hcut hfz hd hSc;refine xX ?_;refine ev_zc ?_;exact wT _ _ _
   .rw[hcap i,hd]at hR;simp only at hR;have hcg:=hcut i g _ hd;have hsl:=hSc i J;have hil:i<zM SS:=J;obtain⟨gps,grest,gcont,gfr,gb⟩:=g;obtain⟨gk,gv,gop,gn,gf,gas,gks⟩:=gb;simp only[wD,wl,qd,yd,zuc]at hcg hR;generalize SS.getD i []=sl at *;clear hcap hcut hfz hd hSc hrl;by_cases hs:0<zM sl
    .rw[qp hs,y9]at hR;cases c1:eqD (.ofNat i) main with
     |true=>
      rw[c1,zuE,zuE,x6]at hR;subst hR;refine ev_zc ?_;exact wT _ _ _
     |false=>
      rw[c1,xR]at hR;by_cases hg:0<zM gfr
      .rw[qp hg,zuE,x6]at hR;subst hR;refine ev_zc ?_;exact wT _ _ _
      .rw[qb hg,xR]at hR;refine xX ?_;exact⟨i+1,⟨_,_,rfl,rfl,V,V,V,J,hR⟩,J⟩
    .rw[qb hs,zv7,xR]at hR;refine xX ?_;exact⟨i+1,⟨_,_,rfl,rfl,V,V,V,J,hR⟩,J⟩
end
structure SelPre(N nf nc:Nat)(c:Cd):Prop where
 ch:ChPre N c
 few:FewC c
 nf:zM c.fs=nf
 nc:zM c.consts=nc
def frE:zc->List Fn->Bool
 |x::l,f::r=>(ltD (.ofNat 0) (.ofNat (zM x))&&eqD (.ofNat (zM f.fr)) (.ofNat 0))||frE l r
 |_,_=>false
def lgE(l:List Fn):Bool:=l.any λf=>gM f.b
def bL(P:Program)(X:World)(c:Cd):Int:=
 bif eqD (uZ P X c) (.ofNat 0)then (bif frE (Xz P X c) c.fs then .ofNat 2 else bif lgE c.fs then .ofNat 3 else .ofNat 0)else uZ P X c
def iR(P:Program)(X:World)(c:Cd)(v:Z):Prop:=∃l:List VF,v=.tup [.lst (zM l) false (xW jT l),.int .i64 (bL P X c)]/\(eqD (bL P X c) (.ofNat 0)=false->l=[])
theorem Mb{α:Type}{f:α->zt}{esz Y:Nat}(hp:∀x,wo (f x)=true)(hw:∀x,wkL (f x)=f x)(vs:List α):∃v0,VC 0 (kA f esz Y vs)=some v0/\Fz s v0 (.lst (List.length vs) false (xW f vs)):=by
 cases vs with
 |nil=>exact⟨.nils,rfl,by simp only[Fz,wkV,xW,wA,true_and,xN];exact .inl trivial⟩
 |cons v vs=>
  refine⟨.lst (v::vs).length false (xW f (v::vs)),?_,?_⟩
  .simp only[kA,VC,Xa,show Nat.ble 0 Y=true from wB.2 (yh _),x6]
  .simp only[Fz,wkV,vT hw,wI hp,true_and];exact .inl trivial
def bM(e:Int):∃v,(∃l:List VF,v=.tup [.lst (zM l) false (xW jT l),e]/\(eqD e (.ofNat 0)=false->l=[]))/\wC v=true/\Fz s (.tup [.nils,e]) v:=by
 refine⟨_,⟨[],rfl,λ_=>rfl⟩,rfl,?_⟩;simp only[Fz];exact⟨_,rfl,qa lY (qa (wT _ _ _) js)⟩
section
variable {P:Program}{X:World}(B:Bx P X){O:Orc}(hO:OrcOk P X O)
include B hO
def DK(H:SelO O)(hchk:O 13=some (nP P X N))(hfree:O 14=some (zyl P X N))(hfun:O 16=some (uM P X 16 lN (Lb nf nc) (GIF nf nc)))(hfx:vW P X 16 lN (Lb nf nc) (GIF nf nc)):vW P X 7 qD (SelPre N nf nc) (iR P X):=by
 intro c hc;refine beX B hO f7 ?_;have hch:=λs=>oc hchk vM c hc.ch (uG c) s;have hfr:=λs=>oc hfree vM c hc.ch (uG c) s;have hfew:=hc.few;have hpre:=λ(h:uZ P X c=.ofNat 0) (i:Int) (f:Fn) (hm:f∈c.fs)=>NN (i:=i) hfew h hm;have hlen:(Xz P X c).length<=List.length c.fs:=by
  unfold Xz;cases eqD (uA P X c) (.ofNat 0)with
  |true=>rw[x6,zu1,OO];exact zS _
  |false=>simp
 have hnf:=hfew.nf;have hsz:=hc.ch.ea.sz.f;have hnt:=hc.ch.nt;have e1:=hc.nf;have e2:=hc.nc
 rw[e1,e2]at hpre;have hsel:bL P X c=bif eqD (uZ P X c) (.ofNat 0)then (bif frE (Xz P X c) c.fs then .ofNat 2 else bif lgE c.fs then .ofNat 3 else .ofNat 0)else uZ P X c:=rfl;unfold iR;generalize bL P X c=se at *;generalize uZ P X c=ck at *;generalize Xz P X c=fv at *;have hcuF:= @Ut c.fs;obtain⟨fs,main,vars,globals,consts⟩:=c;simp only at hpre hlen hnf hsz hnt e1 e2 hcuF hsel;clear hc hfew e1 e2;simp only[qD,vy,qi,lQ]at hch hfr|-;unfold f7 cF;simp only;refine xY ?_;cases c0:eqD ck (.ofNat 0)with
 |false=>
  refine xU (xY ?_);refine ev_zc ?_;rw[c0,wh]at hsel;subst hsel;exact bM _
 | true=>
  obtain rfl:=eqT.1 c0;have hpre:=hpre rfl;rw[c0,x6]at hsel;refine xY ?_;refine xU (xU (xX ?_));apply x4;refine wq (λi:Nat=>zM fv-i) (λi f t=>∃T L2 n2 m2,f=⟨tmL T,[]⟩/\t=KL L2 n2 m2 true/\G T 1 (.ptr 0 0)/\G T 2 .nils/\G T 17 (.lst (zM fv) false (xW vI fv))/\G T 18 (zM fv)/\G T 19 i/\i<=zM fv/\1<=n2/\x3 L2 0=some (.row 25 [.lst (zM fs) false (xW wD fs),main,vars,globals,.lst (zM consts) false (wy consts)])/\frE fv fs=frE (fv.drop i) (fs.drop i)) (λi f t hI=>?_) 0 ⟨_,_,_,_,rfl,rfl,V,V,V,V,V,yh _,zS _,x8 _ _ _,rfl⟩;clear hch hfr;obtain⟨T,L2,n2,m2,rfl,rfl,t1,t2,t17,t18,t19,hi,hn2,g0,hfr⟩:=hI;rcases wj fv i with ⟨hlt,hd⟩|⟨x,hlt,hd⟩
  .have hni:¬i<zM fv:=J;rw[hd,show frE [] (fs.drop i)=false from rfl]at hfr;rw[hfr,wh]at hsel;clear hd hlt hi hfr;refine xX ?_;clear t17 t18 t19;refine xY ?_;refine xU (xU (xX ?_));apply x4;refine wq (λx:Nat×List VF=>zM fs-x.1) (λx f t=>∃T L3 n3 m3 Y,f=⟨tmL T,[]⟩/\t=KL L3 n3 m3 true/\G T 7 (kA jT 7 Y x.2)/\G T 39 (.lst (zM fs) false (xW wD fs))/\G T 40 (zM fs)/\G T 41 x.1/\x.1<=zM fs/\zM x.2=x.1/\Jb 35 jT L3 n3 Y x.2/\lgE fs=lgE (fs.drop x.1)) (λx f t hI=>?_) (0,[]) ⟨_,_,_,_,0,rfl,rfl,by simp (disch:=first|exact dis|fail)only[go_sem,seval,-rO,-rN,kA],V,V,V,yh _,rfl,λh=>absurd rfl h,rfl⟩
   clear t1 t2 g0 T hn2 hni;obtain⟨T,L3,n3,m3,Y,rfl,rfl,t7,t39,t40,t41,hi,hol,hok,hG⟩:=hI;obtain⟨i,out⟩:=x;simp only at t7 t41 hi hol hok hG|-;rcases wj fs i with ⟨hlt,hd⟩|⟨f,hlt,hd⟩
   .have hni:¬i<zM fs:=J;obtain⟨v0,hf,hz⟩:=Mb (esz:=7) (Y:=Y) (s:=KL [] 0 0 true) Xk A7 out;refine xX ?_;refine ev_zc ?_;rw[hd,show lgE []=false from rfl]at hG;rw[hG,wh]at hsel;subst hsel;refine⟨.tup [.lst (zM out) false (xW jT out),(0:Nat)],⟨out,rfl,λh=>by cases h⟩,by simp only[uD,ww,qn,qL,wA,xO],?_⟩
    simp only[Fz];exact⟨_,rfl,qa hz (qa (wT _ _ _) js)⟩
   .have hm:f∈fs:=zv9 (by rw[hd];exact zua)
    have hfi:fs[i]? =some f:=by rw[<-List.head?_drop,hd];rfl
    obtain⟨v,⟨F,rfl,hF,hF1,hF2,hF3⟩,_,hcall⟩:=vS hfun hfx Bw (.ofNat i,f) (hpre _ f hm) (args:=lN (.ofNat i,f)) (FH _);have hlong:=λL n m b=>TJ H (wN f.b) f.b (zS _) (hsz f hm).2.2 L n m b;have hc:=hcuF hd;obtain⟨ps,rest,cont,fr,bb⟩:=f;obtain⟨bk,bv,bo,bn,bf,bas,bks⟩:=bb;simp only at hF1 hF2 hF3;simp only[lN,jy,wD,wl,qd]at hc hcall hlong;have happ:=λL n m (hok:Jb 35 jT L n Y out)=>hZ (m:=m) (e:=true) (bytes:=72) mC Xk Jo J hok (ws:=[F]) (by simp only[yw,xN];omega) (by simp only[yw,xN];omega)
    have hcs:=Jo F;obtain⟨G,hGF⟩:∃G,G=F:=⟨F,rfl⟩;obtain⟨Ffn,Fregs,Fneed,Fpn,Frest,Fis⟩:=F;simp only[dT,jT,xW,zv6,yw,xN,y8]at hcall happ hF1 hF2 hF3;subst hF1 hF2 hF3;rw[hd,show ∀f l,lgE (f::l)=(gM f.b||lgE l)from λ_ _=>rfl]at hG
    obtain⟨r,hr⟩:∃r,gM (.mk bk bv bo bn bf bas bks)=r:=⟨_,rfl⟩;simp only[hr]at hG;rw[hr]at hlong;clear hcuF hd hpre hr;refine xY ?_;refine xU (wV sW ?_);refine xX ?_;refine xU (x4 ?_);refine xY ?_;apply xU;refine xU (wi ?_);refine xZ (hlong _ _ _ _) λv t hv=>?_;obtain⟨rfl,rfl⟩:=hv;clear hlong;refine xX ?_;cases r with
    |true=>
     refine ev_zc ?_;rw[hG,zuE,x6]at hsel;subst hsel;exact bM _
    | false=>
      have hl8:ltD (.ofNat 32768) (.ofNat Fis.length)=false:=zwV (Int.ofNat_le.2 hF.len);rw[xR]at hG;refine xX ?_;refine xY ?_;refine xY ?_;refine wi ?_;refine xZ (happ _ _ _ (λhne=>⟨by have:=(hok hne).1;omega,by have:=(hok hne).1;(repeat rw[gN J]);exact(hok hne).2⟩)) λv t hv=>?_
      obtain⟨id2,L4,n4,m4,rfl,rfl,q1,_⟩:=hv;clear happ hcall hc;refine xX ?_;refine xX ?_;exact⟨(i+1,out++[⟨.ofNat i,Fregs,Fneed,.ofNat (zM ps),Frest,Fis⟩]),⟨_,_,_,_,id2,rfl,rfl,V,V,V,V,by simp only;omega,by simp only[yO,yw,xN];omega,q1,hG⟩,by simp only;omega⟩
  .have hcl:=Jy Yl hd;rw[xQ]at hcl;simp only[vI,qd]at hcl;have hif:i<zM fs:=J;have hdf:fs.drop i=fs[i]::fs.drop (i+1):=zuo hif;have hdr:=lg hdf;rw[hd,hdf]at hfr;simp only[frE]at hfr;generalize fs[i]=f at hdr hfr;obtain⟨ps,rest,cont,fr,bb⟩:=f;obtain⟨bk,bv,bo,bn,bf,bas,bks⟩:=bb;simp only[wD,wl,qd,yd,zuc]at hdr;simp only at hfr;clear hdf hcuF hpre hd;refine xY ?_;refine xU (wV sW ?_);refine xX ?_;refine xU (x4 ?_);refine xY ?_;cases b1:ltD (.ofNat 0) (.ofNat (zM x))with
   |false=>
    rw[b1,zv7,xR]at hfr;refine xX ?_;refine xX ?_;exact⟨i+1,⟨_,L2,n2,_,rfl,rfl,V,V,V,V,V,J,hn2,g0,hfr⟩,J⟩
   | true=>
    cases b2:eqD (.ofNat (zM fr)) (.ofNat 0)with
    |false=>
     rw[b1,b2,zuj,xR]at hfr;refine xX ?_;refine xX ?_;exact⟨i+1,⟨_,L2,n2,_,rfl,rfl,V,V,V,V,V,J,hn2,g0,hfr⟩,J⟩
    |true=>
     refine ev_zc ?_;rw[b1,b2,xO,zuE]at hfr;rw[hfr,x6]at hsel;subst hsel;exact bM _
end
mutual
def GX:Trm->Bool
 |.mk k _ _ _ _ az ks=>(eqD k (.ofNat 6)&&ltD (.ofNat 7) (.ofNat (zM az)))||XZ ks
def XZ:List Trm->Bool
 |[]=>false
 |t::r=>GX t||XZ r
end
mutual
theorem eX{c:Cd}{f:Fn}:∀t:Trm,vD c f t=true->GX t=gM t
 | .mk k v op n fn az ks,h=>by
  simp only[vD,zP]at h;simp only[GX,gM,Pl ks h.2];cases e1:eqD (.ofNat (zM ks)) (.ofNat 1)with
  |false=>rfl
  | true=>
   cases e6:eqD k (.ofNat 6)with
   |false=>rfl
   |true=>
    exfalso
    have hk:k=.ofNat 6:=by simpa [eqD]using e6
    have h1:=h.1;subst hk;have hl:zM ks=1:=by rw[QC]at e1;simpa using e1
    unfold vY at h1;rw[zP]at h1;have h3:=h1.2;rw[show eqD (Trm.mk (.ofNat 6) v op n fn az ks).kind (.ofNat 1)=false from rfl,wh]at h3;unfold Z4 at h3;rw[zP]at h3;have h4:=h3.2;rw[show eqD (Trm.mk (.ofNat 6) v op n fn az ks).kind (.ofNat 2)=false from rfl,wh,show eqD (Trm.mk (.ofNat 6) v op n fn az ks).kind (.ofNat 3)=false from rfl,wh,show eqD (Trm.mk (.ofNat 6) v op n fn az ks).kind (.ofNat 4)=false from rfl,wh,show eqD (Trm.mk (.ofNat 6) v op n fn az ks).kind (.ofNat 6)=true from rfl,x6,zP,jm,jm]at h4;have:zM ks=0:=h4.2;omega
theorem Pl{c:Cd}{f:Fn}:∀l:List Trm,uY c f l=true->XZ l=pP l
 |[],_=>rfl
 |t::r,h=>by
  simp only[uY,zP]at h;simp only[XZ,pP,eX t h.1,Pl r h.2]
end
def Iz:∀{l q:zc} {fs:List Fn},zM l=q.length->(∀j,decide (0<(l.getD j []).length)=decide (0<(q.getD j []).length))->frE l fs=frE q fs
 |[],[],_,_,_=>rfl
 |x::l,y::q,[],_,_=>rfl
 |x::l,y::q,f::r,h,hd=>by
  have h0:=hd 0;simp only[List.getD_cons_zero]at h0;simp only[frE];rw[show ltD (.ofNat 0) (.ofNat (zM x))=decide (0<zM x)from Zm _ _,show ltD (.ofNat 0) (.ofNat (zM y))=decide (0<zM y)from Zm _ _,h0,Iz (by simpa using h) λj=>by simpa only[List.getD_cons_succ]using hd (j+1)]
def QU(P:Program)(X:World)(c:Cd):zc:=bif eqD (uA P X c) (.ofNat 0)then jl c else []
def IP(c:Cd):frE (QU P X c) c.fs=frE (Xz P X c) c.fs:=by
 unfold QU Xz;cases eqD (uA P X c) (.ofNat 0)with
 |false=>rfl
 | true=>
  refine Iz ?_ λj=>?_
  .have h1:(jl c).length=zM c.fs:=l8 c _;simp only[x6,zu1,PS,h1]
  .rw[x6,x6,Hg,xD,xD,List.getElem?_map];cases (jP c)[j]? with
   |none=>rfl
   |some l=>simp only[Option.map_some,Option.getD_some,PY]
def Mh(P:Program)(X:World)(N:Nat):zt->U->zb:=vw qD (RcPre N) (λc=>lQ (QU P X c))
section
variable {P:Program}{X:World}(B:Bx P X){O:Orc}{N:Nat}(hO:OrcOk P X O)
include B hO
def Oe(hea:O 35=some (XR P X N))(hse:O 38=some Mk)(c:Cd)(hc:RcPre N c):∃s1,SC P X 18 (qD c) (s00 0 true) (lQ (QU P X c)) s1:=by
 refine be B hO f18 ?_;have hea:=λs=>oc hea vM c hc.ea (uG c) s;unfold QU;have hw:=λh=>(zyw (P:=P) (X:=X) hc h).1;generalize uA P X c=e at *;cases c1:eqD e (.ofNat 0)with
 |false=>
  clear hw;obtain⟨fs,main,vars,globals,consts⟩:=c;unfold f18 cF;simp only[qD,vy,qi]at hea|-;refine xY ?_;refine ev_zc ?_;exact lY
 |true=>
  have he:e=.ofNat 0:=by simpa [eqD]using c1
  subst he;have hst:=λs=>oc hse vM c (hw rfl) (uG c) s;clear hw;generalize jl c=SS at *;have hfp:=wI p8 SS;have hfw:=vT A6 SS;obtain⟨fs,main,vars,globals,consts⟩:=c;unfold f18 cF;simp only[qD,vy,qi,x6,lQ]at hea hst|-;generalize xW vI SS=cs at *;refine xY ?_;refine xY ?_;refine ev_zc ?_;exact pK hfp hfw
end
section
variable {O:Orc}
def Oi(h19:O 19=none):∀(K:Nat) (t:Trm),wN t<=K->SzT t->∀(L:za) (n m:Nat) (b:Bool),cl O 19 [q8 t] (KL L n m b)=some (.bool (GX t),KL L n m b):=by
 intro K
 induction K with
 |zero=>intro t h;have:=vd t;omega
 | succ K ih=>
  intro t hK hsz L n m b;apply sr;refine vf (F:=f19) h19 rfl rfl (zv4 rfl) ?_;obtain⟨k,v,op,num,fn,az,ks⟩:=t;simp only[SzT,wN]at hK hsz;obtain⟨hs1,hs2,hs3⟩:=hsz;have hih:=λt (ht:t∈ks)=>ih t (by have:=kT ht;omega) (Ya hs3 ht)
  clear ih;obtain⟨R,hR⟩:∃R,GX (.mk k v op num fn az ks)=R:=⟨_,rfl⟩;rw[hR];simp only[GX]at hR;simp only[q8,wl]at hih|-;unfold f19 cF;simp only;refine xY ?_;refine u6 (λfr t=>∃T,fr=⟨tmL T,[]⟩/\t=KL ((n,some (tmR k v op num fn az ks))::L) (n+1) 0 true/\G T 1 (.ptr n 0)/\XZ ks=R) ?_ λfr t hI=>?_
  .clear hih;cases e2:eqD k (.ofNat 6)with
   |false=>
    rw[e2,zv7,xR]at hR;refine xX ?_;exact⟨_,rfl,rfl,sW,hR⟩
   | true=>
    by_cases h7:7<zM az
    .rw[e2,show ltD (.ofNat 7) (.ofNat (zM az))=true by rw[Zm];exact qp h7,xO,zuE]at hR
     subst hR;refine ev_zc ?_;exact⟨rfl,rfl⟩
    .rw[show ltD (.ofNat 7) (.ofNat (zM az))=false by rw[Zm];exact qb h7,zuj,xR]at hR
     refine xX ?_;exact⟨_,rfl,rfl,sW,hR⟩
  .clear hR;obtain⟨T,rfl,rfl,t1,hR⟩:=hI;have g0:=x8 n (some (tmR k v op num fn az ks)) L;simp only[tmR]at g0;refine xU (xU (xX ?_));apply x4;refine wq (λi:Nat=>zM ks-i) (λi f t=>∃T m2,f=⟨tmL T,[]⟩/\t=KL ((n,some (tmR k v op num fn az ks))::L) (n+1) m2 true/\G T 1 (.ptr n 0)/\G T 3 i/\i<=zM ks/\m2%2^n=0/\XZ (ks.drop i)=R) (λi f t hI=>?_) 0 ⟨_,_,rfl,rfl,V,V,yh _,by simp,hR⟩
   clear hR t1;obtain⟨T,m2,rfl,rfl,t1,t3,hi,hm,hR⟩:=hI;simp only[tmR];rcases wj ks i with ⟨hlt,hd⟩|⟨x,hlt,hd⟩
   .have hni:¬i<zM ks:=J;rw[hd]at hR;simp only[XZ]at hR;subst hR;clear hd hih;refine xX ?_;refine ev_zc ?_;exact⟨rfl,rfl⟩
   .have hcx:=Uu hd;have hx:=hih x (zv9 (by rw[hd];exact zua))
    have hl7:=wP x;rw[hd]at hR;simp only[XZ]at hR;generalize GX x=r at *;clear hd hih;cases r with
    |true=>
     rw[zuE]at hR;subst hR;refine ev_zc ?_;exact⟨rfl,rfl⟩
    |false=>
     rw[xR]at hR;refine xX ?_;exact⟨i+1,⟨_,_,rfl,rfl,V,V,J,V,hR⟩,J⟩
end
def zym(P:Program)(X:World)(N:Nat):zt->U->zb:=vw qD (RcPre N) (λc=>.int .i64 (bL P X c))
theorem zxu{SS:zc}{fs:List Fn}(hl:zM SS=zM fs)(i:Nat):frE (SS.drop i) (fs.drop i)=match fs.drop i with
  |[]=>false
  |f::r=>(decide (0<(SS.getD i []).length)&&decide (zM f.fr=0))||frE (SS.drop (i+1)) (fs.drop (i+1)):=by
 rcases wj fs i with ⟨h,hd⟩|⟨f,h,hd⟩
 .rw[hd];cases SS.drop i<;>rfl
 .have hs:SS.drop i=SS[i]::SS.drop (i+1):=zuo J;rw[hd,hs];simp only[frE];rw[xD,yU J];rw[show ltD (.ofNat 0) (.ofNat SS[i].length)=decide (0<SS[i].length)from Zm _ _,QC];rfl
section
variable {P:Program}{X:World}(B:Bx P X){O:Orc}{N:Nat}(hO:OrcOk P X O)
include B hO
def zzk(hch:O 17=some (aS P X N))(hfr:O 18=some (Mh P X N))(h19:O 19=none)(c:Cd)(hc:RcPre N c):∃s1,SC P X 8 (qD c) (s00 0 true) (.int .i64 (bL P X c)) s1:=by
 refine be B hO f8 ?_;have hck:=λs=>oc hch vM c hc (uG c) s;have hfe:=λs=>oc hfr vM c hc (uG c) s;obtain⟨R,hR⟩:∃R,bL P X c=R:=⟨_,rfl⟩;rw[hR];unfold bL at hR;rw[<-IP]at hR;have hch0:= @dw P X c;cases c1:eqD (uZ P X c) (.ofNat 0)with
 |false=>
  rw[c1,wh]at hR;generalize uZ P X c=e at *;subst hR;clear hfe hch0;obtain⟨fs,main,vars,globals,consts⟩:=c;unfold f8 cF;simp only[qD,vy,qi]at hck|-;refine xY ?_;refine xY ?_;refine ev_zc ?_;exact wT _ _ _
 | true=>
  have he:uZ P X c=.ofNat 0:=by simpa [eqD]using c1
  have hea:=hch0 he;have hwh:=(kP hea).1;rw[c1,x6]at hR;rw[he]at hck;have hterm:∀f∈c.fs,vD c f f.b=true:=λf hf=>by
   unfold ky at hwh;rw[zP]at hwh;have h1:=List.all_eq_true.1 hwh.2 f hf;unfold wFn at h1;rw[zP,zP]at h1;exact h1.2.2
  have hlg:=λf (hf:f∈c.fs) L n m b=>(Oi h19 (wN f.b) f.b (zS _) (hc.ea.sz.f f hf).2.2 L n m b).trans (by rw[eX f.b (hterm f hf)])
  have hrf:QU P X c=jl c:=by unfold QU;rw[hea];rfl
  rw[hrf]at hfe hR;have hrl:(jl c).length=zM c.fs:=l8 c _;have hnf:=hc.ea.sz.n;have hfz:=hc.ea.sz.f;clear c1 he hch0 hea hwh hterm hrf hc;generalize jl c=SS at *;have hfa:=λi=>zxu hrl i;have hcut:=λi f r h=> @lg c.fs i f r h;have hSc:=λi (h:i<zM SS)=> @Fu SS i h;have hfp:=wI p8 SS;obtain⟨fs,main,vars,globals,consts⟩:=c;simp only[qD,vy,qi,lQ,q8]at hck hfe hR hlg hrl hnf hfa hcut hSc hfz|-;unfold f8 cF;simp only;refine xY ?_;refine xY ?_;refine xY ?_;refine xY ?_;clear hck hfe;have hR0:(bif frE (SS.drop 0) (fs.drop 0)then (.ofNat 2:Int)else bif lgE fs then .ofNat 3 else .ofNat 0)=R:=hR;clear hR;refine u6 (λfr t=>∃T m,fr=⟨tmL T,[]⟩/\t=KL [(0,some (.row 25 [.lst (zM fs) false (xW wD fs),main,vars,globals,.lst (zM consts) false (wy consts)]))] 1 m true/\G T 1 (.ptr 0 0)/\(bif lgE fs then (.ofNat 3:Int)else .ofNat 0)=R) ?_ λfr t hI=>?_
  .clear hlg hfz;generalize (bif lgE fs then (.ofNat 3:Int)else .ofNat 0)=X9 at *;refine xU (xX ?_);apply x4;refine wq (λi:Nat=>zM fs-i) (λi f t=>∃T m,f=⟨tmL T,[]⟩/\t=KL [(0,some (.row 25 [.lst (zM fs) false (xW wD fs),main,vars,globals,.lst (zM consts) false (wy consts)]))] 1 m true/\G T 1 (.ptr 0 0)/\G T 4 (.lst (zM fs) false (xW vI SS))/\G T 5 i/\i<=zM fs/\(bif frE (SS.drop i) (fs.drop i)then (.ofNat 2:Int)else X9)=R) (λi f t hI=>?_) 0 ⟨_,_,rfl,rfl,sW,V,sW,yh _,hR0⟩;clear hR0;obtain⟨T,m,rfl,rfl,t1,t4,t5,hi,hR⟩:=hI;rw[hfa i]at hR;rcases wj fs i with ⟨hlt,hd⟩|⟨g,hlt,hd⟩
   .rw[hd]at hR;simp only[wh]at hR;have hni:¬i<zM fs:=J;clear hd hfa hcut hSc;refine xX ?_;exact⟨_,_,rfl,rfl,V,hR⟩
   .have hcg:=hcut i g _ hd;have hsl:=hSc i J;rw[hd]at hR;simp only at hR;obtain⟨gps,grest,gcont,gfr,gb⟩:=g;obtain⟨gk,gv,gop,gn,gf,gas,gks⟩:=gb;simp only[wD,wl,qd,yd,zuc]at hcg hR;generalize SS.getD i []=sl at *;clear hfa hcut hSc hd;by_cases hs:0<zM sl
    .by_cases hg:zM gfr=0
     .rw[qp hs,qp hg,xO,zuE,x6]at hR;subst hR;refine ev_zc ?_;exact wT _ _ _
     .rw[qp hs,qb hg,zuj,xR]at hR;refine xX ?_;exact⟨i+1,⟨_,_,rfl,rfl,V,V,V,J,hR⟩,J⟩
    .rw[qb hs,zv7,xR]at hR;refine xX ?_;exact⟨i+1,⟨_,_,rfl,rfl,V,V,V,J,hR⟩,J⟩
  .clear hR0 hfa hSc;obtain⟨T,m,rfl,rfl,t1,hR⟩:=hI;have hR0:(bif (fs.drop 0).any (λf=>gM f.b)then (.ofNat 3:Int)else .ofNat 0)=R:=hR;clear hR;refine xU (xU (xX ?_));apply x4;refine wq (λi:Nat=>zM fs-i) (λi f t=>∃T m,f=⟨tmL T,[]⟩/\t=KL [(0,some (.row 25 [.lst (zM fs) false (xW wD fs),main,vars,globals,.lst (zM consts) false (wy consts)]))] 1 m true/\G T 1 (.ptr 0 0)/\G T 6 i/\i<=zM fs/\(bif (fs.drop i).any (λf=>gM f.b)then (.ofNat 3:Int)else .ofNat 0)=R) (λi f t hI=>?_) 0 ⟨_,_,rfl,rfl,V,sW,yh _,hR0⟩;clear hR0 t1;obtain⟨T,m,rfl,rfl,t1,t6,hi,hR⟩:=hI;rcases wj fs i with ⟨hlt,hd⟩|⟨g,hlt,hd⟩
   .rw[hd,List.any_nil,wh]at hR;subst hR;have hni:¬i<zM fs:=J;clear hd hcut hlg;refine xX ?_;refine ev_zc ?_;exact wT _ _ _
   .have hcg:=hcut i g _ hd;have hlx:=hlg g (zv9 (by rw[hd];exact zua))
    rw[hd,List.any_cons]at hR;obtain⟨gps,grest,gcont,gfr,gb⟩:=g;simp only at hlx hR;generalize gM gb=r at *;obtain⟨gk,gv,gop,gn,gf,gas,gks⟩:=gb;simp only[wl]at hlx;simp only[wD,wl,qd,yd,zuc]at hcg;clear hcut hd hlg;cases r with
    |true=>
     rw[zuE,x6]at hR;subst hR;refine ev_zc ?_;exact wT _ _ _
    |false=>
     rw[xR]at hR;refine xX ?_;exact⟨i+1,⟨_,_,rfl,rfl,V,V,J,hR⟩,J⟩
end
set_option maxRecDepth 1000000
def zyX{E:Env}(h:lL P E)(p:Nat->Bool)(u:Bool):lL P {E with pure:=p,um:=u}:=h
def zyY:Env:={env with pure:=λ_=>false,um:=false}
def Sk(h:lL P env):lL P zyY:=zyX h (λ_=>false) false
def zwv:okV (.bool true) ((evT zyY noO 100000).call 6 [] s0)=true:=by decide+kernel
def Mm:zt->U->zb:=vw (λ_:Unit=>[]) (λ_=>True) (λ_=>.bool true)
def RB{O:Orc}(h:O 6=some Mm)(s:U):(evW env O).call 6 [] s=some (.bool true,s):=by
 rw[qc h,Mm,vo (λ_ _ _=>rfl) s () trivial rfl]
def zww(B:Bx P X):∃s1,SC P X 6 [] (s00 0 false) (.bool true) s1:=
 zyB (E:=zyY) (n:=100000) (jb P X) B.mixed B.glob (Sk B.env) zwv
def Ew(B:Bx P X){O:Orc}(hO:OrcOk P X O):OrcOk P X (withG 6 Mm O):=
 hO.withG lB (XY false (λ_=>rfl) (λ_=>rfl) λ_ _=>zww B)
structure LgI(N:Nat)(c:Cd):Prop where
 nf:zM c.fs<100000000
 nc:zM c.consts<1000000000
 f:∀f∈c.fs,zM f.ps<1000000000/\zM f.fr<1000000000/\SzT f.b
 cs:CsPre N c.consts
 vs:c.vars< .ofNat 9223372036854775808
mutual
theorem Uf:∀t:Trm,P9 t->(gQ t).length<=30*wN t
 |.mk k v op n f az ks,h=>by
  simp only[P9]at h;simp only[gQ,wN,yO,zu1];have:=P4 ks h.2;omega
theorem P4:∀l:List Trm,Q2 l->(pW l).length<=30*qR l
 |[],_=>by simp only[pW,xN];omega
 |t::r,h=>by
  simp only[Q2]at h;simp only[pW,qR,yO];have h1:=Uf t h.1;have h2:=P4 r h.2;omega
end
def U9:∀l:List Fn,(∀f∈l,(gQ f.b).length<=4500)->((l.map λf=>gQ f.b).flatten).length<=4500*zM l
 |[],_=>by simp
 |f::r,h=>by
  have h1:=h f (by simp)
  have h2:=U9 r λg hg=>h g (by simp[hg])
  simp only[zY,List.flatten_cons,yO,yw];omega
def chI(h:LgI N c)(hf:FewC c):ChPre N c:=by
 refine⟨⟨h.cs,⟨h.nf,h.f⟩⟩,λf hm=>?_,?_,h.vs⟩
 .have:=(hf.fn f hm).2.2.2;omega
 .have:=U9 c.fs λf hm=>by
   obtain⟨_,_,q3,q4⟩:=hf.fn f hm;have:=Uf f.b q3;omega
  have h2:=hf.nf;unfold kE;omega
def rcI(h:LgI N c)(hf:FewC c):RcPre N c:=by
 have hu:(kE c).length<=1800000:=by
  have h1:=U9 c.fs λf hm=>by
   obtain⟨_,_,q3,q4⟩:=hf.fn f hm;have:=Uf f.b q3;omega
  have h2:=hf.nf;unfold kE;omega
 refine⟨⟨h.cs,⟨h.nf,h.f⟩⟩,λf hm=>?_,λf hm=>?_,?_⟩
 .have:=hf.fn f hm;omega
 .obtain⟨_,_,q3,q4⟩:=hf.fn f hm;have h1:=Uf f.b q3;have h2:(kE c).length *wN f.b<=1800000*150:=Nat.mul_le_mul hu J;omega
 .have key:∀l:List Fn,(∀f∈l,zM f.ps+wN f.b<=200)->(l.map λf=>zM f.ps+wN f.b).sum<=200*zM l:=λl=>by
   induction l with
   |nil=>intro _;simp
   |cons f r ih=>
    intro hl;have h1:=hl f (by simp)
    have h2:=ih λg hg=>hl g (by simp[hg])
    simp only[zY,zu2,yw];omega
  have h1:=key c.fs λf hm=>by have:=hf.fn f hm;omega
  have h2:=hf.nf;omega
section
variable {P:Program}{X:World}(B:Bx P X){O:Orc}(hO:OrcOk P X O)
include B hO
def BR(H:LawO O)(hwrk:O 6=some Mm)(hsel:O 7=some (uM P X 7 qD (SelPre N nf nc) (iR P X)))(hsx:vW P X 7 qD (SelPre N nf nc) (iR P X))(hmay:O 8=some (zym P X N))(hlg:LgI N c)(hnf:List.length c.fs=nf)(hnc:List.length c.consts=nc):∃s1,SC P X 3 (qD c) (s00 0 true) (.bool true) s1:=by
 refine bew B hO f3 ?_;have hw:=λs=>RB hwrk s;have hfew:=zxq H (c:=c) hlg.nf hlg.nc hlg.f;have hselc:=λ(hf:FewC c)=>vS hsel hsx vM c ⟨chI hlg hf,hf,hnf,hnc⟩ (uG c);have hmy:=λ(hf:FewC c) s=>oc hmay vM c (rcI hlg hf) (uG c) s;have hf1:=λ(h:ef c=true)=>zwK h;unfold iR at hselc;generalize ef c=fw at *;generalize bL P X c=se at *;obtain⟨fs,main,vars,globals,consts⟩:=c;simp only at hnf hnc;subst hnf hnc;simp only[qD,vy,qi]at hfew hselc hmy|-;unfold f3 cF;simp only;refine xY ?_;cases fw with
 |false=>
  clear hselc hf1 hmy;refine ev_zc ?_;exact qj _ _
 | true=>
  have hfc:=hf1 rfl;obtain⟨v,⟨l,rfl,hl⟩,_,hcall⟩:=hselc hfc;have hm:=hmy hfc;have hse:eqD se se=true:=zyg rfl;clear hselc hf1 hmy;refine xY ?_;refine xY ?_;cases c1:eqD se (.ofNat 0)with
  |true=>
   refine ev_zc ?_;exact qj _ _
  |false=>
   obtain rfl:=hl c1;refine ev_zc ?_;exact qj _ _
end
def oG1:Orc:=withG 177 UF (withG 199 Cq oN0)
def oG2:Orc:=withG 179 sO (withG 178 Mj (withG 176 gTl oG1))
def oG3:Orc:=withG 183 Ke (withG 151 QH (withG 148 Mg oG2))
def oG4(P:Program)(X:World):Orc:=withG 75 (uM P X 75 uh Jd GPl) (withG 180 (uM P X 180 jx ZH GSm) (withG 202 (uM P X 202 jx ZH GSm) oG3))
def oW1:Orc:=withG 185 nT (withG 77 Yy (withG 11 Pb noO))
def oW2:Orc:=withG 119 aR (withG 156 nS oW1)
def oG5(P:Program)(X:World):Orc:=withG 43 Ml (oG4 P X)
def oB1:Orc:=withG 80 Yz noO
def oF(P:Program)(X:World):Orc:=withG 27 jM (withG 24 (XR P X 1048577) (withG 25 Mf (withG 45 (QG 900000000) oB1)))
def oH(P:Program)(X:World):Orc:=withG 14 (zyl P X 1048577) (withG 13 (nP P X 1048577) noO)
def oS(P:Program)(X:World)(nf nc:Nat):Orc:=withG 16 (uM P X 16 lN (Lb nf nc) (GIF nf nc)) (oH P X)
def rA:Orc:=withG 139 gIs (withG 206 Md (withG 205 eG (withG 138 JC (withG 153 GH (withG 136 GH noO)))))
def rB:Orc:=withG 137 XQ (withG 164 eA (withG 187 Me rA))
def rD:Orc:=withG 168 QH (withG 193 eC (withG 105 (UE 1048577) rB))
def rE1(P:Program)(X:World):Orc:=withG 165 (uM P X 165 kh lF GPs) (withG 188 (uM P X 188 pF pp GNm) (withG 207 (uM P X 207 pG Kx GTr) rD))
def rE2(P:Program)(X:World):Orc:=withG 189 (uM P X 189 lP Ky GBo) (withG 208 (uM P X 208 Ze Lc lT) (withG 216 (uM P X 216 gp Q7 lT) (rE1 P X)))
def rE3(P:Program)(X:World):Orc:=withG 192 (uM P X 192 Zf Kz GBo) (withG 190 (uM P X 190 lO pp lT) (rE2 P X))
def rF(P:Program)(X:World):Orc:=withG 108 GG (withG 141 aT (withG 11 Pb (withG 67 nQ (withG 66 WC (rE3 P X)))))
def rG:Orc:=withG 71 Mi (withG 69 Zi (withG 109 sN (withG 37 eD noO)))
def rH(P:Program)(X:World):Orc:=withG 38 Mk (withG 35 (XR P X 1048577) (withG 69 Zi noO))
def rK(P:Program)(X:World):Orc:=withG 18 (Mh P X 1048577) (withG 17 (aS P X 1048577) noO)
def oL(P:Program)(X:World)(nf nc:Nat):Orc:=withG 8 (zym P X 1048577) (withG 7 (uM P X 7 qD (SelPre 1048577 nf nc) (iR P X)) (withG 6 Mm noO))
section
variable {P:Program}{X:World}(B:Bx P X)
include B
def zxK:OrcOk P X oG1:=by
 have h0:=zxO B;have h1:OrcOk P X (withG 199 Cq _):=h0.withG lB (CK B h0);exact kn h1 BG (λx=>by simp only[v9,qn]) λx hx=>Rj B h1 x hx
def zxL:OrcOk P X oG2:=by
 have h0:=zxK B;have h1:OrcOk P X (withG 176 gTl _):=kn h0 (λ_=>rfl) (λ_=>rfl) λx hx=>zvv B h0 rfl rfl rfl x hx;have h2:OrcOk P X (withG 178 Mj _):=kn h1 dR (λx=>by simp only[v9,qn]) λx hx=>zx9 B h1 x hx
 exact kn h2 nv (λx=>Xs _ _) λx hx=>zzI B h2 rfl x hx
def M9:OrcOk P X oG3:=by
 have h0:=zxL B;have h1:OrcOk P X (withG 148 Mg _):=kn h0 kR (λx=>by simp only[oI,uD,ww,Xs,qL,wA,xO]) λx hx=>zxT B h0 rfl rfl rfl rfl x hx.1 hx.2
 have h2:OrcOk P X (withG 151 QH _):=kn h1 kR (λx=>kO _) λx hx=>Fl B h1 rfl x hx;exact kn h2 nz kO λx hx=>Be B h2 x hx
theorem zyD:vW P X 202 jx ZH GSm:=OX B (M9 B) rfl rfl rfl
def Ng:OrcOk P X (withG 202 (uM P X 202 jx ZH GSm) oG3):=ke (M9 B) Gj (zyD B)
def zyi:vW P X 180 jx ZH GSm:=zxt B (Ng B) rfl (zyD B)
theorem zyt:vW P X 75 uh Jd GPl:=NL B (jb P X) rfl rfl rfl rfl
def zxM:OrcOk P X (oG4 P X):=ke (ke (Ng B) Gj (zyi B)) uH (zyt B)
def zxP:OrcOk P X oW2:=by
 have h0:=jb P X;have h1:OrcOk P X (withG 11 Pb _):=kn h0 Yu (λ_=>rfl) λx _=>Ae B h0 x;have h2:OrcOk P X (withG 77 Yy _):=kn h1 Gk (λ_=>rfl) λx _=>EQ B h1 x;have h3:OrcOk P X (withG 185 nT _):=kn h2 Yu (λ_=>rfl) λx _=>O6 B h2 rfl x;have h4:OrcOk P X (withG 156 nS _):=kn h3 Xr (λ_=>rfl) λx _=>NS B h3 rfl rfl x;exact kn h4 Xr (λ_=>rfl) λx hx=>Cl B h4 rfl rfl x hx
def zxN:OrcOk P X (oG5 P X):=kn (zxM B) ug (λ_=>rfl) λx hx=>Ry B (zxP B) rfl rfl rfl rfl rfl rfl rfl rfl x hx
def zw0(hS:vA P X 27 jM):OrcOk P X (oF P X):=by
 have h0:OrcOk P X (withG 45 (QG 900000000) oB1):=TR B 900000000 J;have h1:OrcOk P X (withG 25 Mf _):=kn h0 ug (λ_=>rfl) λx hx=>T1 B h0 rfl rfl x hx;have h2:OrcOk P X (withG 24 (XR P X 1048577) _):=kn h1 ug (λ_=>rfl) λx hx=>FD B (zxN B) ⟨⟨rfl,rfl,rfl,rfl,rfl,rfl,rfl,rfl,rfl,rfl,rfl,rfl,rfl,rfl,rfl,rfl,rfl,zyi B⟩,rfl,rfl,rfl,rfl,zyt B,J⟩ rfl x hx;refine h2.withG (λargs s v s' h=>?_) hS;unfold jM at h;split at h
 .cases h;exact Ext.refl _
 .cases h
def zw1(hS:vA P X 27 jM):OrcOk P X (oH P X):=by
 have h0:=zw0 B hS;have h1:OrcOk P X (withG 13 (nP P X 1048577) noO):=kn (jb P X) ug (λ_=>rfl) λx hx=>Fm B h0 rfl rfl rfl rfl x hx;exact kn h1 ug (λx=>by simp only[lQ,qn]) λx hx=>Ti B h0 rfl rfl rfl rfl rfl x hx
def zyh(nf nc:Nat):vW P X 16 lN (Lb nf nc) (GIF nf nc):=eq B (jb P X) (λ_ _=>rfl) nf nc
def zw3(hS:vA P X 27 jM)(nf nc:Nat):OrcOk P X (oS P X nf nc):=ke (zw1 B hS) mY (zyh B nf nc)
theorem zzt:SelO (oS P X nf nc):=λf hf=>by
 simp only[OK,List.mem_cons,List.not_mem_nil,or_false]at hf;rcases hf with rfl|rfl|rfl<;>rfl
def OL(hS:vA P X 27 jM)(nf nc:Nat):vW P X 7 qD (SelPre 1048577 nf nc) (iR P X):=DK B (zw3 B hS nf nc) (zzt B) rfl rfl rfl (zyh B nf nc)
def zve:OrcOk P X rA:=by
 have h0:=jb P X;have h1:=CE B h0;have h6:OrcOk P X (withG 138 JC _):=Zw h1 kR (λ_=>rfl) λx hx=>CQ B h0 x hx.1 hx.2;have h9:OrcOk P X (withG 205 eG _):=Zw h6 ZK (λ_=>rfl) λx hx=>zzL B h0 x hx.1 hx.2.1 hx.2.2;have h10:OrcOk P X (withG 206 Md _):=Zw h9 (λ_=>rfl) (λ_=>CJ _) λx hx=>zyP B h0 x hx;exact Zw h10 su (λ_=>rfl) λx _=>N4 B h0 x
def zyv:OrcOk P X rB:=by
 have h0:=zve B;have h5:OrcOk P X (withG 187 Me _):=Zw h0 mW (λ_=>Cu _) λx hx=>zxx B h0 rfl rfl rfl x.1 x.2 hx.1 hx.2.1 hx.2.2;have h2:OrcOk P X (withG 164 eA _):=Zw h5 ZK iW λx hx=>RG B h5 rfl x hx.1 hx.2;exact Zw h2 kR Ju λx hx=>Bf B h2 rfl x hx.1 hx.2
def Ai:∀(N:Nat),N<=1100000->OrcOk P X (withG 105 (UE N) rB)
 |0,_=>Zw (zyv B) uH (λ_=>rfl) λx hx=>absurd hx.2 (Nat.not_lt_zero _)
 |N+1,h=>by
  have ih:=Ai N J;exact Zw (zyv B) uH (λ_=>rfl) λx hx=>Dn B ih rfl rfl rfl rfl rfl J x hx.1 hx.2
def zvf:OrcOk P X rD:=by
 have h0:OrcOk P X (withG 105 (UE 1048577) rB):=Ai B 1048577 J;have h1:OrcOk P X (withG 193 eC _):=kn h0 nx kO λx hx=>zzb B h0 x hx;exact kn h1 kR (λx=>kO _) λx hx=>Dj B h1 rfl x hx
def OB:vW P X 207 pG Kx GTr:=OC B (jb P X)
def N1:OrcOk P X (withG 207 (uM P X 207 pG Kx GTr) rD):=ke (zvf B) nj (OB B)
def Om:vW P X 188 pF pp GNm:=Ol B (N1 B) rfl (OB B)
def NY:OrcOk P X (withG 188 (uM P X 188 pF pp GNm) (withG 207 (uM P X 207 pG Kx GTr) rD)):=ke (N1 B) mX (Om B)
def rk:vW P X 165 kh lF GPs:=Dy B (NY B) rfl (Om B)
def zxW:OrcOk P X (rE1 P X):=ke (NY B) kR (rk B)
def Oo:vW P X 216 gp Q7 lT:=Dv B (jb P X)
def NZ:OrcOk P X (withG 216 (uM P X 216 gp Q7 lT) (rE1 P X)):=ke (zxW B) Gl (Oo B)
def N3:vW P X 208 Ze Lc lT:=zza B (NZ B) rfl (Oo B)
def NX:OrcOk P X (withG 208 (uM P X 208 Ze Lc lT) (withG 216 (uM P X 216 gp Q7 lT) (rE1 P X))):=ke (NZ B) nq (N3 B)
def OF:vW P X 189 lP Ky GBo:=ru B (NX B) rfl (rk B) rfl (N3 B)
def Ox:vW P X 190 lO pp lT:=DB B (jb P X)
def Oy:vW P X 192 Zf Kz GBo:=DA B (jb P X)
def zxX:OrcOk P X (rE3 P X):=ke (ke (ke (NX B) nr (OF B)) np (Ox B)) ny (Oy B)
def zvg:OrcOk P X (rF P X):=by
 have h0:=zxX B;have h1:OrcOk P X (withG 66 WC _):=kn h0 Gk (λ_=>rfl) λx _=>Dh B h0 x;have h2:OrcOk P X (withG 67 nQ _):=kn h1 Qz (λ_=>rfl) λx hx=>On B h1 rfl x hx;have h3:OrcOk P X (withG 11 Pb _):=kn h2 Yu (λ_=>rfl) λx _=>Ae B h2 x;have h4:OrcOk P X (withG 141 aT _):=kn h3 Yu (λ_=>rfl) λx _=>DH B h3 rfl x;exact kn h4 Xr (λ_=>rfl) λx hx=>o8 B h4 rfl rfl x hx
def zvh:OrcOk P X rG:=by
 have h0:=jb P X;have h1:OrcOk P X (withG 37 eD _):=kn h0 Qz (λ_=>rfl) λx hx=>zzj B h0 x hx;have h2:OrcOk P X (withG 109 sN _):=kn h1 Qz (λ_=>jE _) λx hx=>zzn B h1 rfl x hx;have h3:OrcOk P X (withG 69 Zi _):=kn h2 Xt (λ_=>rfl) λx _=>PK B h2 x;exact kn h3 Gl (λ_=>rfl) λx hx=>Ov B h3 x hx
def zvi:OrcOk P X (rH P X):=by
 have h0:=jb P X;have h3:OrcOk P X (withG 69 Zi noO):=kn h0 Xt (λ_=>rfl) λx _=>PK B h0 x;have h4:OrcOk P X (withG 35 (XR P X 1048577) _):=kn h3 ug (λ_=>rfl) λx hx=>Dm B (zvg B) ⟨⟨rfl,rfl,rfl,rfl,rfl,rfl,rfl,rfl,rfl,rfl,rfl,Oy B,rfl,rk B,rfl,OF B,rfl,Ox B⟩,rfl,rfl,rfl,J⟩ rfl rfl rfl rfl x hx;exact kn h4 ug (λ_=>GY _) λx hx=>Ow B (zvh B) rfl rfl rfl rfl rfl x hx
def zvj:OrcOk P X (rK P X):=by
 have h0:=zvi B;have h1:OrcOk P X (withG 17 (aS P X 1048577) noO):=kn (jb P X) ug (λ_=>rfl) λx hx=>Dk B h0 rfl rfl rfl rfl rfl x hx;exact kn h1 ug (λ_=>GY _) λx hx=>Oe B h0 rfl rfl x hx
def zw2(hS:vA P X 27 jM)(nf nc:Nat):OrcOk P X (oL P X nf nc):=by
 have h1:=Ew B (jb P X);have h3:OrcOk P X (withG 7 _ _):=ke h1 ug (OL B hS nf nc);exact kn h3 ug (λ_=>rfl) λx hx=>zzk B (zvj B) rfl rfl rfl x hx
theorem TG:LawO (oL P X nf nc):=λf hf=>by
 simp only[MM,List.mem_cons,List.not_mem_nil,or_false]at hf;rcases hf with rfl|rfl<;>rfl
theorem zxB(hS:vA P X 27 jM)(hc:LgI 1048577 c):∃s1,SC P X 3 (qD c) (s00 0 true) (.bool true) s1:=
 BR B (zw2 B hS (zM c.fs) (zM c.consts)) (TG B) rfl rfl (OL B hS _ _) rfl hc rfl rfl
end
open Go.RowKit (Below)
open Go.WideElems (rd rg rg_of)
def Wide.all{F:Fence}(hF:Wide F)(P:Program)(m:Machine):m.fenced P F:=λg _=>⟨(λh=>by rw[hF.alive]at h;cases h),.inl (hF.fn _),λf _=>hF.fn f,(λd hd=>by rw[hF.depth]at hd;cases hd)⟩
def HQ{F:Fence}(hF:Wide F){f:FuncId}{args:zn}{R:Ending->World->Prop}(h:Calls P f args w R):CallsIn F n P f args w R:=
 ⟨hF.fn f,λcs _=>by
  obtain⟨e,w',fr,r,s,x⟩:=h cs;refine⟨e,w',fr,r,?_,x⟩;cases e with
  |returned v=>exact(StepsIn.of_steps s).mono λm _=>hF.all P m
  |panicked chain=>exact(StepsIn.of_steps s).mono λm _=>hF.all P m
  |outgrown=>exact s⟩
structure SrtOk(P:Program):Prop where
 fn:∃fn,P.funcs[27]? =some fn/\fn.body.isSome=true/\(fn.name== "runtime.NumGoroutine")=false
 key:P.underlying 3=some (.int .i64)
 ok:∀(Bm b nn:Nat) (D0:DataW Unit) (R:Value->Option (DataW Unit×List MemPlace)) (w:World),Bm<w.heap.size->w.cell? ⟨Bm,0,none⟩=some (.map (some b))->w.ownsMap P 3 R b nn D0->Maps.size D0<=maxLen->Maps.size D0*8<=140737488355328->Calls P 27 #[.func (.func 48) #[] #[.pointer (some ⟨Bm,0,none⟩)]] w λe w'=>∃(v:Value) (ss:zq),e=.returned v/\ss.Perm (intKeys D0)/\w'.ownsRow w.heap.size 3 1 v (zM ss) ((ss.mergeSort (λx y=>decide (x<=y))).map encZ)/\Below w.heap.size w w'
def eF{args:zt}{s':U}{v:Z}(h:jM args s=some (v,s')):∃x,SrPre x args s/\v=qd (lR x.2.2)/\s'=s:=by
 by_cases hx:∃x,SrPre x args s
 .obtain⟨x,hx⟩:=hx;rw[GJ hx]at h;cases h;exact⟨x,hx,rfl,rfl⟩
 .unfold jM at h;rw[dif_neg hx]at h;cases h
def rdM(_:Value):Option (DataW Unit×List MemPlace):=some (.nil,[])
def P3{I:Phi}:∀{l:zq} {es:zA},URel I (uS l) es->es.map (·.key)=l.map (Value.int .i64)
 |[],_,h=>by simp only[uS,y7,URel]at h;rw[h];rfl
 |x::r,_,h=>by
  simp only[uS,zY,URel]at h;obtain⟨e,es',rfl,h1,_,h3⟩:=h;rw[zY,zY,h1,P3 (l:=r) h3]
def MJ{k:TypeId}(hk:P.underlying k=some (.int .i64)){x:Int}(hx:0<=x/\x< .ofNat 9223372036854775808):keyOf P k (.int .i64 x)=some (.int .i64 x):=by
 have hw:(Lit.int .i64 x).wf=true:=by
  simp only[Lit.wf,zP,jm];constructor
  .have:(-9223372036854775808:Int)<=0:=by decide
   exact Int.le_trans this hx.1
  .have:=hx.2;have e:(Int.ofNat 9223372036854775808)=9223372036854775807+1:=by decide
   rw[e]at this;exact Int.lt_add_one_iff.1 this
 simp[keyOf,hk,mapKey,hw]
def DU{I:Phi}{w':World}(r:Rel P X I s.get w)(hb:Below w.heap.size w w'):Step P X I s w ⟨I.m,(I.full w.heap.size w').z⟩ s w':=by
 have rb:=r.below hb;have hz:∀b o v,I.z b o=some v->(I.full w.heap.size w').z b o=some v:=nN (s:=s) rb _;have hsub:Sub I ⟨I.m,(I.full w.heap.size w').z⟩:=⟨λ_ _ h=>h,hz⟩;have hlt:∀b i,b<w.heap.size->(I.full w.heap.size w').z b i=I.z b i:=λb i h=>by
  show (if w.heap.size<=b then _ else _)=_;rw[x0 J]
 refine⟨Ext.refl s,⟨rb.base,λY o ho=>?_,rb.rng,rb.old,rb.inj,λb o v h=>?_,λY o B ho hB=>?_⟩,λ_ _=>rfl,hb.size,λb h _=>hb.block b h,λY _ h1 h2=>absurd h2 J,hz,λb o v h=>?_⟩
 .obtain⟨B,hB,q⟩:=r.obj Y o ho;exact⟨B,hB,q.keep hsub (hb.block B.b (r.rng Y B hB))⟩
 .have h':(if w.heap.size<=b then (match w'.heap[b]? with
   |some (.cells c _ _)=>c[o]?
   |_=>none)else I.z b o)=some v:=h
  split at h'
  .split at h'
   .rename_i c e fr hw;exact⟨c,e,fr,hw,h'⟩
   .cases h'
  .exact rb.frz b o v h'
 .exact(r.sep Y o B ho hB).congr λi=>hlt B.b i (r.rng Y B hB)
 .by_cases hlt2:b<w.heap.size
  .have h':(I.full w.heap.size w').z b o=some v:=h;rw[hlt b o hlt2]at h';exact .inl h'
  .exact .inr (.inl J)
def iP(I:Phi):∀l:zq,VRL I (xW wg l) (l.map encZ)
 |[]=>rfl
 |x::r=>by
  simp only[xW,wg,yd,zuc,zY,VRL];exact⟨_,_,rfl,by simp only[VR],iP I r⟩
def bQ(h:SrtOk P):vA P X 27 jM:=by
 intro args s v s' hg;obtain⟨⟨p,m,l⟩,hx,rfl,rfl⟩:=eF hg;refine⟨h.fn,λI w xs r hwf hf hxs F n hF=>?_⟩;rw[hx.args]at hxs;obtain⟨B,hB,hbl⟩:=r.obj p _ hx.row;simp only[ObjRel]at hbl;obtain⟨c,fr,hc,hsz,hle,hext,hcells,_⟩:=hbl;obtain⟨h1,h0⟩:=hext trivial;obtain⟨Bm,hBm,hm⟩:=r.obj m _ hx.map;simp only[ObjRel]at hm;obtain⟨ents,clk,hmh,lst,hperm,hu,hnd,hbn,hbc⟩:=hm;have hkeys:=P3 hu;have hlen:ents.size=zM l:=by
  have:=congrArg zM hkeys;rw[zu1,zu1]at this;rw[<-this,<-yQ,hperm.length_eq]
 have hkp:(ents.toList.map (·.key)).Perm (l.map (Value.int .i64)):=by rw[<-hkeys];exact(hperm.map _).symm
 have hrd:∀x∈ents.toList,∃y:Int,y∈l/\x.key=.int .i64 y:=λx hxm=>by
  have:=hkp.mem_iff.1 (List.mem_map.2 ⟨x,hxm,rfl⟩);obtain⟨y,hy,e⟩:=List.mem_map.1 this;exact⟨y,hy,e.symm⟩
 have hrd2:∀x∈ents.toList,∃y:Int,x.key=.int .i64 y/\rd P 3 rdM x=some (.int .i64 y,.nil):=λx hxm=>by
  obtain⟨y,hy,e⟩:=hrd x hxm;exact⟨y,e,by unfold rd;rw[e,MJ h.key (hx.rng y hy)];rfl⟩
 have hown:w.ownsMap P 3 rdM Bm.b ents.size (.map ((ents.toList.map (rg P 3 rdM)).foldr DataW.insert [])):=by
  refine⟨ents,clk,hmh,⟨by rw[hlen];have:=hx.len;simp only at this;unfold maxLen;omega,⟨λx hxm=>hbc x (hperm.mem_iff.2 hxm),((hperm.map (·.born)).nodup_iff).1 hbn,?_⟩,λx hxm=>?_⟩,zS _,rfl⟩
  .rw[hkp.nodup_iff];exact List.pairwise_map.2 (hx.nd.imp λhab e=>hab (by simpa using e))
  .obtain⟨y,_,e⟩:=hrd2 x hxm;exact⟨_,e⟩
 have hik:(intKeys (.map ((ents.toList.map (rg P 3 rdM)).foldr DataW.insert []))).Perm l:=by
  show (((ents.toList.map (rg P 3 rdM)).foldr DataW.insert []).map λp=>intOf p.1).Perm l;refine((Go.WideShapes.sorted_perm _).map _).trans ?_;rw[zu3];have e:ents.toList.map ((λp:Lit×DataW Unit=>intOf p.1) ∘ rg P 3 rdM)=(ents.toList.map (·.key)).map (λv=>match v with|.int _ a=>a|_=>0):=by
   rw[zu3];refine List.map_congr_left λx hxm=>?_;obtain⟨y,e1,e2⟩:=hrd2 x hxm;simp only[Function.comp,rg_of e2,e1];rfl
  rw[e];refine(hkp.map _).trans ?_;rw[zu3];have:((λv:Value=>match v with|.int _ a=>a|_=>(0:Int)) ∘ Value.int .i64)=Y:=rfl
  rw[this];exact List.Perm.of_eq (List.map_id l)
 have hsz2:Maps.size (DataW.map (H:=Unit) ((ents.toList.map (rg P 3 rdM)).foldr DataW.insert []))=zM l:=by
  rw[Maps.size_eq,(Go.WideShapes.sorted_perm _).length_eq,zu1,yQ,hlen]
 rw[h0,List.drop_zero,List.length_singleton]at hcells;simp only[VRL,VR]at hcells;obtain⟨y,ys,hy,⟨Bm',hBm',rfl⟩,rfl⟩:=hcells;rw[hBm]at hBm';cases hBm';have hcell:w.cell? ⟨B.b,0,none⟩=some (.map (some Bm.b)):=by
  have h3:c.toList[0]? =some (.map (some Bm.b)):=by
   have:=congrArg (·[0]?) hy
   simpa using this
  unfold World.cell?;rw[hc];show c[0]? =_;rw[<-zX];exact h3
 simp only[VRL,VR]at hxs;obtain⟨a,az,rfl,⟨us,vs,rfl,rfl,q,qs,rfl,⟨B',hB',rfl⟩,rfl⟩,rfl⟩:=hxs;rw[hB]at hB';cases hB';rw[h0,y8];have hxl:=hx.len;simp only at hxl;refine(HQ hF (h.ok B.b Bm.b ents.size _ rdM w (r.rng p B hB) hcell hown (by rw[hsz2];unfold maxLen;omega) (by rw[hsz2];omega))).mono ?_
 rintro e w' ⟨v,ss,rfl,hp,hrow,hb⟩
 have hss:ss.mergeSort (λx y=>decide (x<=y))=lR l:=mergeSort_of_perm_i (hp.trans hik);have hsl:zM ss=zM l:=(hp.trans hik).length_eq;rw[hss,hsl]at hrow;refine⟨_,v,rfl,DU r hb,?_⟩;have hp2:wo (xW wg (lR l))=true:=Gv _;have hl2:(lR l).length=zM l:=PY l;obtain⟨_,⟨rfl,hz⟩|⟨g,cap,cur,rfl,hg1,hg2,hg3,_,hg5,hg6⟩⟩:=hrow
 .have:l=[]:=List.eq_nil_of_length_eq_zero hz;subst this;simp only[qd,VR];exact⟨hp2,.inl ⟨by rw[hl2];rfl,_,rfl⟩⟩
 .simp only[qd,VR];refine⟨hp2,.inr ⟨g,0,cap,(lR l).map encZ,by rw[hl2],(λh=>by cases h),(by rw[hl2];exact hg3),?_,iP _ _⟩⟩
  refine ZC.of λi y hi=>?_;show (if w.heap.size<=g then _ else _)=_;rw[wc hg1,hg2];show cur[0+i]? =_;rw[<-hg6,xQ]at hi;rw[y8,<-zX];rw[List.getElem?_take]at hi;split at hi
  .exact hi
  .cases hi
structure Mu(H0:Type)(μ:DataW H0->Nat):Prop where
 str:∀b:List UInt8,zM b<=μ (.lit (.string b))
 sl:∀es sp:List (DataW H0),(∀d∈es,μ d<=μ (.slice es sp))/\zM es<=μ (.slice es sp)
 sm:∀es sp:List (DataW H0),(es.map μ).sum<=μ (.slice es sp)
 ag:∀ps:List (DataW H0),∀d∈ps,μ d+1<=μ (.agg ps)
section
variable {H0:Type}{enc:TypeId×Value->H0}{P:Program}{W:World}{sp:Nat->Bool}{held:Bool}{tD tI tS tK tE:TypeId}{fs:Array Field}{α:Type}{f:α->zt}{k N:Nat}{μ:DataW H0->Nat}
def KE{a:Addr}{n:Nat}(h0:0<k)(hk:P.cellsOf tE=k)(hsp:a.spot=none)
  (ih:∀cs x,DataW.trod enc P W 0 sp held n tE cs=some x->μ x.1<=N->∃d,VRL (Xc W) (f d) cs):
  ∀(len:Nat),(∀i,i<len->∃x,(W.cells? 0 (a.add (i*k)) k).bind (DataW.trod enc P W 0 sp held n tE)=some x/\μ x.1<=N)->
   ∃ds ys,zM ds=len/\zM ys=len*k/\VRL (Xc W) (xW f ds) ys/\∀i y,ys[i]? =some y->(Xc W).z a.block (a.off+i)=some y
 |0,_=>⟨[],[],rfl,by simp,VRL.nil _,λi y h=>by simp at h⟩
 | len+1,h=>by
  obtain⟨ds,ys,h1,h2,h3,h4⟩:=KE h0 hk hsp ih len (λi hi=>h i J);obtain⟨x,hx,hm⟩:=h len J;cases hc:W.cells? 0 (a.add (len*k)) k with
  |none=>rw[hc]at hx;cases hx
  | some cs=>
   rw[hc]at hx;obtain⟨d,hd⟩:=ih cs x hx hm;obtain⟨_,hl,hg⟩:=World.cells?_some hc;refine⟨ds++[d],ys++cs,by simp[h1],by rw[yO,h2,hl,Nat.succ_mul],by rw[wQ,vh];exact VRL.append h3 hd,λi y hy=>?_⟩
   by_cases hi:i<zM ys
   .rw[yP hi]at hy;exact h4 i y hy
   .rw[yZ J]at hy;have hj:i-zM ys<k:=by
     rw[<-hl];exact(List.getElem?_eq_some_iff.1 hy).1
    have:=hg (i-zM ys) hj;rw[hy,Va hsp,Va rfl]at this;show W.cell? ⟨a.block,a.off+i,none⟩=some y;rw[<-this]
    congr 2
    simp only;omega
def Yg(hM:Mu H0 μ)(h0:0<k)(hk:P.cellsOf tE=k)(hK:P.underlying tK=some (.slice tE))(hp:∀d,wo (f d)=true)
  (ih:∀m,m<n->∀cs x,DataW.trod enc P W 0 sp held m tE cs=some x->μ x.1<=N->∃d,VRL (Xc W) (f d) cs)
  (hs:sp=λ_=>true) {cs:zy} {x:DataW H0×List MemPlace} (h:DataW.trod enc P W 0 sp held n tK cs=some x) (hN:μ x.1<=N):
  ∃ds v,cs=[v]/\VR (Xc W) (.lst (zM ds) false (xW f ds)) v/\zM ds<=N:=by
 rcases DataW.trod_slice hK h with ⟨rfl,_⟩|⟨a,len,cap,elems,rest,m,rfl,rfl,rfl,_,hlc,hcm,hel,hsl,hspare,_⟩
 .exact⟨[],_,rfl,by simp only[VR];exact⟨rfl,.inl ⟨rfl,_,rfl⟩⟩,yh _⟩
 .rw [hk]at hsl hspare;have hsm:=hM.sl (elems.map (·.1)) (rest.map (·.1));replace hN:μ (DataW.slice (elems.map (·.1)) (rest.map (·.1)))<=N:=hN;by_cases hcap:cap=0
  .subst hcap;obtain rfl:len=0:=J;exact⟨[],_,rfl,by simp only[VR];exact⟨rfl,.inl ⟨rfl,_,rfl⟩⟩,yh _⟩
  .have hcell:∃x,(W.cells? 0 (a.add (0*k)) k)=some x:=by
    by_cases hl:0<len
    .have:=hsl 0 hl;rw[yU J]at this;cases hc:W.cells? 0 (a.add (0*k)) k with
     |none=>rw[hc]at this;cases this
     |some y=>exact⟨y,rfl⟩
    .obtain rfl:len=0:=J;obtain⟨hr,hj⟩:=hspare (by rw[hs])
     have:=hj 0 J;rw[yU J]at this;rw[y8]at this;cases hc:W.cells? 0 (a.add (0*k)) k with
     |none=>rw[hc]at this;cases this
     |some y=>exact⟨y,rfl⟩
   obtain⟨y,hy⟩:=hcell;have hspot:a.spot=none:=by
    obtain⟨_,hl,hg⟩:=World.cells?_some hy;have h1:=hg 0 h0;rw[yU J]at h1;obtain⟨_,_,_,_,h2,_⟩:=aw h1
    simpa [Addr.add]using h2
   obtain⟨ds,ys,g1,_,g3,g4⟩:=KE (W:=W) (enc:=enc) (sp:=sp) (held:=held) (μ:=μ) (N:=N) h0 hk hspot (ih m J) len λi hi=>by
    have:=hsl i hi;rw[yU J]at this;exact⟨_,this,zV (hsm.1 _ (List.mem_map.2 ⟨_,zuG J,rfl⟩)) hN⟩
   refine⟨ds,_,rfl,?_,?_⟩
   .simp only[VR];refine⟨wI hp ds,.inr ⟨a.block,a.off,cap,ys,?_,by simp,J,ZC.of g4,g3⟩⟩
    rw[g1];cases a;simp only at hspot;subst hspot;rfl
   .have:=hsm.2;rw[zu1]at this;omega
def KF{g:α->Nat}{a:Addr}{n:Nat}(h0:0<k)(hk:P.cellsOf tE=k)(hsp:a.spot=none)
  (ih:∀cs x,DataW.trod enc P W 0 sp held n tE cs=some x->μ x.1<=N->∃d,VRL (Xc W) (f d) cs/\g d<=μ x.1):
  ∀(len:Nat) (xs:List (DataW H0×List MemPlace)),zM xs=len->(∀i (hi:i<zM xs),(W.cells? 0 (a.add (i*k)) k).bind (DataW.trod enc P W 0 sp held n tE)=some xs[i]/\μ xs[i].1<=N)->
   ∃ds ys,zM ds=len/\zM ys=len*k/\VRL (Xc W) (xW f ds) ys/\(∀i y,ys[i]? =some y->(Xc W).z a.block (a.off+i)=some y)/\(ds.map g).sum<=(xs.map λx=>μ x.1).sum
 |0,xs,_,_=>⟨[],[],rfl,by simp,VRL.nil _,(λi y h=>by simp at h),by simp⟩
 | len+1,xs,hl,h=>by
  obtain⟨l,x,rfl⟩:∃l x,xs=l++[x]:=by
   rcases List.eq_nil_or_concat xs with e|⟨l,x,e⟩
   .rw[e]at hl;simp at hl
   .exact⟨l,x,by rw[e,List.concat_eq_append]⟩
  have hll:zM l=len:=by simpa using hl
  obtain⟨ds,ys,h1,h2,h3,h4,h5⟩:=KF h0 hk hsp ih len l hll (λi hi=>by
   have:=h i (by simp;omega)
   rw[List.getElem_append_left hi]at this;exact this)
  obtain⟨hx,hm⟩:=h len (by simp;omega)
  rw[List.getElem_append_right J]at hx hm;simp only[hll,Nat.sub_self,List.getElem_cons_zero]at hx hm;cases hc:W.cells? 0 (a.add (len*k)) k with
  |none=>rw[hc]at hx;cases hx
  | some cs=>
   rw[hc]at hx;obtain⟨d,hd,hg5⟩:=ih cs x hx hm;obtain⟨_,hl,hg⟩:=World.cells?_some hc;refine⟨ds++[d],ys++cs,by simp[h1],by rw[yO,h2,hl,Nat.succ_mul],by rw[wQ,vh];exact VRL.append h3 hd,λi y hy=>?_,by simp only[List.map_append,zY,y7,List.sum_append,zu2,List.sum_nil];omega⟩
   by_cases hi:i<zM ys
   .rw[yP hi]at hy;exact h4 i y hy
   .rw[yZ J]at hy;have hj:i-zM ys<k:=by
     rw[<-hl];exact(List.getElem?_eq_some_iff.1 hy).1
    have:=hg (i-zM ys) hj;rw[hy,Va hsp,Va rfl]at this;show W.cell? ⟨a.block,a.off+i,none⟩=some y;rw[<-this]
    congr 2
    simp only;omega
def KG{g:α->Nat}(hM:Mu H0 μ)(h0:0<k)(hk:P.cellsOf tE=k)(hK:P.underlying tK=some (.slice tE))(hp:∀d,wo (f d)=true)
  (ih:∀m,m<n->∀cs x,DataW.trod enc P W 0 sp held m tE cs=some x->μ x.1<=N->∃d,VRL (Xc W) (f d) cs/\g d<=μ x.1)
  (hs:sp=λ_=>true) {cs:zy} {x:DataW H0×List MemPlace} (h:DataW.trod enc P W 0 sp held n tK cs=some x) (hN:μ x.1<=N):
  ∃ds v,cs=[v]/\VR (Xc W) (.lst (zM ds) false (xW f ds)) v/\zM ds<=N/\(ds.map g).sum<=μ x.1:=by
 rcases DataW.trod_slice hK h with ⟨rfl,_⟩|⟨a,len,cap,elems,rest,m,rfl,rfl,rfl,_,hlc,hcm,hel,hsl,hspare,_⟩
 .exact⟨[],_,rfl,by simp only[VR];exact⟨rfl,.inl ⟨rfl,_,rfl⟩⟩,yh _,yh _⟩
 .rw [hk]at hsl hspare;have hsm:=hM.sl (elems.map (·.1)) (rest.map (·.1));replace hN:μ (DataW.slice (elems.map (·.1)) (rest.map (·.1)))<=N:=hN;by_cases hcap:cap=0
  .subst hcap;obtain rfl:len=0:=J;exact⟨[],_,rfl,by simp only[VR];exact⟨rfl,.inl ⟨rfl,_,rfl⟩⟩,yh _,yh _⟩
  .have hcell:∃x,(W.cells? 0 (a.add (0*k)) k)=some x:=by
    by_cases hl:0<len
    .have:=hsl 0 hl;rw[yU J]at this;cases hc:W.cells? 0 (a.add (0*k)) k with
     |none=>rw[hc]at this;cases this
     |some y=>exact⟨y,rfl⟩
    .obtain rfl:len=0:=J;obtain⟨hr,hj⟩:=hspare (by rw[hs])
     have:=hj 0 J;rw[yU J]at this;rw[y8]at this;cases hc:W.cells? 0 (a.add (0*k)) k with
     |none=>rw[hc]at this;cases this
     |some y=>exact⟨y,rfl⟩
   obtain⟨y,hy⟩:=hcell;have hspot:a.spot=none:=by
    obtain⟨_,hl,hg⟩:=World.cells?_some hy;have h1:=hg 0 h0;rw[yU J]at h1;obtain⟨_,_,_,_,h2,_⟩:=aw h1
    simpa [Addr.add]using h2
   have hsu:=hM.sm (elems.map (·.1)) (rest.map (·.1));obtain⟨ds,ys,g1,_,g3,g4,g5⟩:=KF (W:=W) (enc:=enc) (sp:=sp) (held:=held) (μ:=μ) (N:=N) (g:=g) h0 hk hspot (ih m J) len elems hel λi hi=>by
    have:=hsl i J;rw[yU J]at this;exact⟨this,zV (hsm.1 _ (List.mem_map.2 ⟨_,zuG J,rfl⟩)) hN⟩
   rw[zu3]at hsu;refine⟨ds,_,rfl,?_,?_,zV g5 hsu⟩
   .simp only[VR];refine⟨wI hp ds,.inr ⟨a.block,a.off,cap,ys,?_,by simp,J,ZC.of g4,g3⟩⟩
    rw[g1];cases a;simp only at hspot;subst hspot;rfl
   .have:=hsm.2;rw[zu1]at this;omega
def DTx:={d:DT//TxD d}
def Ur(d:DTx):zt:=qA d.1
def bU:∀l:List DTx,TxL (l.map (·.1))
 |[]=>by simp only[y7,TxL]
 |d::r=>by simp only[zY,TxL];exact⟨d.2,bU r⟩
def Qs:∀l:List DTx,wy (l.map (·.1))=xW Ur l
 |[]=>by simp only[y7,wy,xW]
 |d::r=>by simp only[zY,wy,xW,Qs r,Ur]
def YC:∀l:List DTx,qf (l.map (·.1))=(l.map λd=>wL d.1).sum
 |[]=>by simp only[y7,qf,List.sum_nil]
 |d::r=>by simp only[zY,qf,zu2,YC r]
def M1(s:ByteArray):(ur s).length=zM s.data.toList:=by simp[ur]
def iU(hM:Mu H0 μ)(hN2:N<2000000)(T:DatumTy P tD tI tS tK fs)(hs:sp=λ_=>true):∀(n:Nat) (cs:zy) (x:DataW H0×List MemPlace),DataW.trod enc P W 0 sp held n tD cs=some x->μ x.1<=N->∃d:DTx,VRL (Xc W) (Ur d) cs/\wL d.1<=μ x.1:=by
 intro n
 induction n using Nat.strongRecOn with
 |ind n ih=>
 intro cs x h hN;obtain⟨xs,m,rfl,rfl,hl,hlen,hf⟩:=DataW.trod_struct T.d h;rw[T.cd]at hl;obtain⟨c0,c1,c2,c3,c4,rfl⟩:=zxr hl;have hfs:=T.fs;obtain⟨f0,f1,f2,f3,f4,hfe⟩:=zxr (l:=fs.toList) (by have:=congrArg zM hfs;simpa using this)
 rw[hfe]at hfs;simp only[zY,y7,qJ,wF,and_true]at hfs;obtain⟨⟨a0,b0⟩,⟨a1,b1⟩,⟨a2,b2⟩,⟨a3,b3⟩,⟨a4,b4⟩⟩:=hfs;have hag:=hM.ag (xs.map (·.1));have hat:∀(i:Nat) (f:Field),fs.toList[i]? =some f->∃y,DataW.trod enc P W 0 sp held m f.type (([c0,c1,c2,c3,c4].drop f.offset).take (P.cellsOf f.type))=some y/\μ y.1<=N/\μ y.1+1<=μ (.agg (xs.map (·.1))):=λi f hi=>by
  have h1:=hf i f (by rw[<-zX];exact hi)
  have hlt:i<zM fs.toList:=(List.getElem?_eq_some_iff.1 hi).1;rw[yU (by rw[hlen];simpa using hlt)]at h1
  have h2:=hag _ (List.mem_map.2 ⟨_,zuG (by rw[hlen];simpa using hlt),rfl⟩)
  exact⟨_,h1,by replace hN:μ (DataW.agg (xs.map (·.1)))<=N:=hN;omega,h2⟩
 obtain⟨y0,g0,_⟩:=hat 0 f0 (by rw[hfe];rfl)
 obtain⟨y1,g1,_⟩:=hat 1 f1 (by rw[hfe];rfl)
 obtain⟨y2,g2,m2,_⟩:=hat 2 f2 (by rw[hfe];rfl)
 obtain⟨y3,g3,m3,k3⟩:=hat 3 f3 (by rw[hfe];rfl)
 obtain⟨y4,g4,_⟩:=hat 4 f4 (by rw[hfe];rfl)
 rw[a0,b0,T.ci]at g0;rw[a1,b1,T.ci]at g1;rw[a2,b2,T.cs]at g2;rw[a3,b3,T.ck]at g3;rw[a4,b4,T.ci]at g4;obtain⟨n0,e0,_,_⟩:=DataW.trod_int T.i g0;obtain⟨n1,e1,_,_⟩:=DataW.trod_int T.i g1;obtain⟨s2,e2,z2,_⟩:=DataW.trod_string T.s g2;obtain⟨n4,e4,_,_⟩:=DataW.trod_int T.i g4;subst z2;have hst:=hM.str s2.data.toList;replace m2:μ (DataW.lit (.string s2.data.toList))<=N:=m2;simp at e0 e1 e2 e4;subst e0;subst e1;subst e2;subst e4;obtain⟨ds,v,q1,q2,q3,q4⟩:=KG hM (f:=Ur) (g:=λd=>wL d.1) J T.cd T.k (λd=>uF d.1) (n:=m) (λk hk cs x h hm=>ih k J cs x h hm) hs g3 m3;simp at q1;subst q1;refine⟨⟨.mk n0 n1 (ur s2) (ds.map (·.1)) n4,?_⟩,?_,?_⟩
 .simp only[TxD];exact⟨E8 s2,by rw[M1];omega,bU ds⟩
 .simp only[Ur,qA,zu1,Qs];exact VRL.cons (by simp[VR]) (VRL.cons (by simp[VR]) (VRL.cons (by simp only[VR];exact⟨s2,rfl,rfl⟩) (VRL.cons q2 (VRL.cons (by simp[VR]) (VRL.nil _)))))
 .show wL (.mk n0 n1 (ur s2) (ds.map (·.1)) n4)<=μ (DataW.agg (xs.map (·.1)));simp only[wL,YC];omega
def Kc(hM:Mu H0 μ){t:TypeId}{gs:Array Field}(ht:P.underlying t=some (.struct gs)){x:DataW H0×List MemPlace}(h:DataW.trod enc P W 0 sp held n t cs=some x)(hN:μ x.1<=N):
  (zM cs)=P.cellsOf t/\∃m,m<n/\∀(i:Nat) (a:TypeId) (o:Nat),(gs.toList.map (λf=>(f.type,f.offset)))[i]? =some (a,o)->∃y,DataW.trod enc P W 0 sp held m a ((cs.drop o).take (P.cellsOf a))=some y/\μ y.1<=N:=by
 obtain⟨xs,m,rfl,rfl,hl,hlen,hf⟩:=DataW.trod_struct ht h;have hag:=hM.ag (xs.map (·.1));refine⟨hl,m,J,λi a o hi=>?_⟩;rw[List.getElem?_map,Option.map_eq_some_iff]at hi;obtain⟨f,hi,e⟩:=hi;obtain⟨rfl,rfl⟩:=Prod.mk.inj e;have h1:=hf i f (by rw[<-zX];exact hi)
 have hlt:i<zM gs.toList:=(List.getElem?_eq_some_iff.1 hi).1;rw[yU (by rw[hlen];simpa using hlt)]at h1
 have h2:=hag _ (List.mem_map.2 ⟨_,zuG (by rw[hlen];simpa using hlt),rfl⟩)
 exact⟨_,h1,by replace hN:μ (DataW.agg (xs.map (·.1)))<=N:=hN;omega⟩
structure CodeTy(P:Program)(tI tB tIs tA tAs tT tTs tF tFs tD tK tC:TypeId)(ga gt gf gc:Array Field):Prop where
 i:P.underlying tI=some (.int .i64)
 b:P.underlying tB=some .bool
 is:P.underlying tIs=some (.slice tI)
 a:P.underlying tA=some (.struct ga)
 az:P.underlying tAs=some (.slice tA)
 t:P.underlying tT=some (.struct gt)
 ts:P.underlying tTs=some (.slice tT)
 f:P.underlying tF=some (.struct gf)
 fs:P.underlying tFs=some (.slice tF)
 c:P.underlying tC=some (.struct gc)
 ma:ga.toList.map (λf=>(f.type,f.offset))=[(tI,0),(tI,1)]
 mt:gt.toList.map (λf=>(f.type,f.offset))=[(tI,0),(tI,1),(tI,2),(tI,3),(tI,4),(tAs,5),(tTs,6)]
 mf:gf.toList.map (λf=>(f.type,f.offset))=[(tIs,0),(tB,1),(tB,2),(tIs,3),(tT,4)]
 mc:gc.toList.map (λf=>(f.type,f.offset))=[(tFs,0),(tI,1),(tI,2),(tI,3),(tK,4)]
 ci:P.cellsOf tI=1
 cb:P.cellsOf tB=1
 cis:P.cellsOf tIs=1
 ca:P.cellsOf tA=2
 cas:P.cellsOf tAs=1
 ct:P.cellsOf tT=7
 cts:P.cellsOf tTs=1
 cf:P.cellsOf tF=11
 cfs:P.cellsOf tFs=1
 cc:P.cellsOf tC=5
def zvy{α:Type}{l:List α}(h:List.length l=2):∃a b,l=[a,b]:=by
 match l,h with
 |[a,b],_=>exact⟨a,b,rfl⟩
def zvo{α:Type}{l:List α}(h:List.length l=7):∃a b c d e f g,l=[a,b,c,d,e,f,g]:=by
 match l,h with
 |[a,b,c,d,e,f,g],_=>exact⟨a,b,c,d,e,f,g,rfl⟩
def zyW{α:Type}{l:List α}(h:List.length l=11):∃a b c d r,l=a::b::c::d::r/\r.length=7:=by
 match l,h with
 |a::b::c::d::r,h=>exact⟨a,b,c,d,r,rfl,by simpa using h⟩
def TmX:={t:Trm//SzT t}
def Vi(t:TmX):zt:=qq t.1
def iz:∀l:List TmX,WR (l.map (·.1))
 |[]=>by simp only[y7,WR]
 |d::r=>by simp only[zY,WR];exact⟨d.2,iz r⟩
def Js:∀l:List TmX,wS (l.map (·.1))=xW Vi l
 |[]=>by simp only[y7,wS,xW]
 |d::r=>by simp only[zY,wS,xW,Js r,Vi]
def FnX:={f:Fn//(zM f.ps)<1000000000/\zM f.fr<1000000000/\SzT f.b}
def J8(f:FnX):zt:=wD f.1
def Jr:∀l:List FnX,xW wD (l.map (·.1))=xW J8 l
 |[]=>rfl
 |d::r=>by simp only[zY,xW,Jr r,J8]
section
variable {tB tIs tA tAs tT tTs tF tFs tC:TypeId}{ga gt gf gc:Array Field}
def kz(T:CodeTy P tI tB tIs tA tAs tT tTs tF tFs tD tK tC ga gt gf gc){m:Nat}{x:DataW H0×List MemPlace}(h:DataW.trod enc P W 0 sp held m tI cs=some x):∃n,cs=[.int .i64 n]:=by
 obtain⟨n,e,_⟩:=DataW.trod_int T.i h;exact⟨n,e⟩
def Ld(hM:Mu H0 μ)(T:CodeTy P tI tB tIs tA tAs tT tTs tF tFs tD tK tC ga gt gf gc)(hs:sp=λ_=>true){m:Nat}{x:DataW H0×List MemPlace}(h:DataW.trod enc P W 0 sp held m tIs cs=some x)(hN:μ x.1<=N):∃l v,cs=[v]/\VR (Xc W) (qd l) v/\zM l<=N:=
 Yg hM (f:=wg) (k:=1) J T.ci T.is qF (n:=m) (λk _ cs x h _=>by
  obtain⟨n,rfl⟩:=kz T h;exact⟨n,VRL.cons (by simp only[VR]) (VRL.nil _)⟩) hs h hN
def RF(hM:Mu H0 μ)(hN2:N<2000000)(T:CodeTy P tI tB tIs tA tAs tT tTs tF tFs tD tK tC ga gt gf gc)(hs:sp=λ_=>true):∀(n:Nat) (cs:zy) (x:DataW H0×List MemPlace),DataW.trod enc P W 0 sp held n tT cs=some x->μ x.1<=N->∃d:TmX,VRL (Xc W) (Vi d) cs:=by
 intro n
 induction n using Nat.strongRecOn with
 |ind n ih=>
 intro cs x h hN;obtain⟨hl,m,hm,hat⟩:=Kc hM T.t h hN;rw[T.mt]at hat
 rw[T.ct]at hl;obtain⟨c0,c1,c2,c3,c4,c5,c6,rfl⟩:=zvo hl;obtain⟨y0,g0,_⟩:=hat 0 _ _ rfl;obtain⟨y1,g1,_⟩:=hat 1 _ _ rfl;obtain⟨y2,g2,_⟩:=hat 2 _ _ rfl;obtain⟨y3,g3,_⟩:=hat 3 _ _ rfl;obtain⟨y4,g4,_⟩:=hat 4 _ _ rfl;obtain⟨y5,g5,m5⟩:=hat 5 _ _ rfl;obtain⟨y6,g6,m6⟩:=hat 6 _ _ rfl;rw[T.ci]at g0 g1 g2 g3 g4;rw[T.cas]at g5;rw[T.cts]at g6;obtain⟨n0,e0⟩:=kz T g0;obtain⟨n1,e1⟩:=kz T g1;obtain⟨n2,e2⟩:=kz T g2;obtain⟨n3,e3⟩:=kz T g3;obtain⟨n4,e4⟩:=kz T g4;simp at e0 e1 e2 e3 e4;subst e0 e1 e2 e3 e4;obtain⟨az,v5,q1,q2,q3⟩:=Yg hM (f:=qO) J T.ca T.az dm (n:=m) (λk _ cs x h hx=>by
  obtain⟨hl,m,_,hat⟩:=Kc hM T.a h hx;rw[T.ma]at hat
  rw[T.ca]at hl;obtain⟨c0,c1,rfl⟩:=zvy hl;obtain⟨y0,g0,_⟩:=hat 0 _ _ rfl;obtain⟨y1,g1,_⟩:=hat 1 _ _ rfl;rw[T.ci]at g0 g1;obtain⟨n0,e0⟩:=kz T g0;obtain⟨n1,e1⟩:=kz T g1;simp at e0 e1;subst e0 e1;exact⟨⟨n0,n1⟩,VRL.cons (by simp[VR]) (VRL.cons (by simp[VR]) (VRL.nil _))⟩) hs g5 m5
 obtain⟨ks,v6,u1,u2,u3⟩:=Yg hM (f:=Vi) J T.ct T.ts (λd=>p9 d.1) (n:=m) (λk hk cs x h hx=>ih k J cs x h hx) hs g6 m6;simp at q1 u1;subst q1 u1;refine⟨⟨.mk n0 n1 n2 n3 n4 az (ks.map (·.1)),?_⟩,?_⟩
 .simp only[SzT,zu1];exact⟨J,J,iz ks⟩
 .simp only[Vi,qq,zu1,Js];exact VRL.cons (by simp[VR]) (VRL.cons (by simp[VR]) (VRL.cons (by simp[VR]) (VRL.cons (by simp[VR]) (VRL.cons (by simp[VR]) (VRL.cons q2 (VRL.cons u2 (VRL.nil _)))))))
def RE(hM:Mu H0 μ)(hN2:N<2000000)(T:CodeTy P tI tB tIs tA tAs tT tTs tF tFs tD tK tC ga gt gf gc)(hs:sp=λ_=>true){x:DataW H0×List MemPlace}(h:DataW.trod enc P W 0 sp held n tF cs=some x)(hN:μ x.1<=N):∃d:FnX,VRL (Xc W) (J8 d) cs:=by
 obtain⟨hl,m,hm,hat⟩:=Kc hM T.f h hN;rw[T.mf]at hat
 rw[T.cf]at hl;obtain⟨c0,c1,c2,c3,r,rfl,hr⟩:=zyW hl;obtain⟨y0,g0,m0⟩:=hat 0 _ _ rfl;obtain⟨y1,g1,_⟩:=hat 1 _ _ rfl;obtain⟨y2,g2,_⟩:=hat 2 _ _ rfl;obtain⟨y3,g3,m3⟩:=hat 3 _ _ rfl;obtain⟨y4,g4,m4⟩:=hat 4 _ _ rfl;rw[T.cis]at g0 g3;rw[T.cb]at g1 g2;rw[T.ct]at g4;obtain⟨b1,e1,_⟩:=DataW.trod_bool T.b g1;obtain⟨b2,e2,_⟩:=DataW.trod_bool T.b g2;simp at e1 e2;subst e1 e2;have hr':(((c0::Value.bool b1::Value.bool b2::c3::r).drop 4).take 7)=r:=yb (by simp[hr])
 rw[hr']at g4;obtain⟨ps,v0,p1,p2,p3⟩:=Ld hM T hs g0 m0;obtain⟨fr,v3,q1,q2,q3⟩:=Ld hM T hs g3 m3;obtain⟨t,ht⟩:=RF hM hN2 T hs m r y4 g4 m4;simp at p1 q1;subst p1 q1;exact⟨⟨⟨ps,b1,b2,fr,t.1⟩,⟨Nat.lt_of_le_of_lt p3 J,Nat.lt_of_le_of_lt q3 J,t.2⟩⟩,VRL.cons p2 (VRL.cons (by simp[VR]) (VRL.cons (by simp[VR]) (VRL.cons q2 ht)))⟩
def abs_code(hM:Mu H0 μ)(hN2:N<=1048576)(D:DatumTy P tD tI tS tK fs)(T:CodeTy P tI tB tIs tA tAs tT tTs tF tFs tD tK tC ga gt gf gc)(hs:sp=λ_=>true){x:DataW H0×List MemPlace}(h:DataW.trod enc P W 0 sp held n tC cs=some x)(hN:μ x.1<=N):∃c:Cd,LgI 1048577 c/\VRL (Xc W) (qi c) cs:=by
 obtain⟨hl,m,hm,hat⟩:=Kc hM T.c h hN;rw[T.mc]at hat
 rw[T.cc]at hl;obtain⟨c0,c1,c2,c3,c4,rfl⟩:=zxr hl;obtain⟨y0,g0,m0⟩:=hat 0 _ _ rfl;obtain⟨y1,g1,_⟩:=hat 1 _ _ rfl;obtain⟨y2,g2,_⟩:=hat 2 _ _ rfl;obtain⟨y3,g3,_⟩:=hat 3 _ _ rfl;obtain⟨y4,g4,m4⟩:=hat 4 _ _ rfl;rw[T.ci]at g1 g2 g3;rw[T.cfs]at g0;rw[D.ck]at g4;obtain⟨n1,e1⟩:=kz T g1;obtain⟨n2,e2,_,hwf⟩:=DataW.trod_int T.i g2;obtain⟨n3,e3⟩:=kz T g3;simp at e1 e2 e3;subst e1 e2 e3;have hN3:N<2000000:=J;obtain⟨ds,v4,q1,q2,q3,q4⟩:=KG hM (f:=Ur) (g:=λd=>wL d.1) J D.cd D.k (λd=>uF d.1) (n:=m) (λk _ cs x h hx=>iU hM hN3 D hs k cs x h hx) hs g4 m4;obtain⟨gs,v0,p1,p2,p3⟩:=Yg hM (f:=J8) J T.cf T.fs (λd=>Xj d.1) (n:=m) (λk _ cs x h hx=>RE hM hN3 T hs h hx) hs g0 m0;simp at q1 p1;subst q1 p1;refine⟨⟨gs.map (·.1),n1,n2,n3,ds.map (·.1)⟩,⟨by rw[zu1];omega,by rw[zu1];omega,λf hf=>?_,⟨bU ds,λd hd=>?_,?_⟩,?_⟩,?_⟩
 .obtain⟨g,_,rfl⟩:=List.mem_map.1 hf;exact g.2
 .have h1:=vv hd;simp only[YC]at h1;omega
 .simp only[YC];omega
 .simp only[Lit.wf,zP,jm]at hwf;have e:(Int.ofNat 9223372036854775808)=9223372036854775807+1:=by decide
  rw[e];exact Int.lt_add_one_iff.2 hwf.2
 .simp only[qi,zu1,Jr,Qs];exact VRL.cons p2 (VRL.cons (by simp[VR]) (VRL.cons (by simp[VR]) (VRL.cons (by simp[VR]) (VRL.cons q2 (VRL.nil _)))))
end
end
def errors_calls(B:Bx P w)(hs:SrtOk P)(hc:LgI 1048577 c){cs:zn}(hv:VRL (Xc w) (qi c) cs.toList):
  Calls P 3 #[.agg cs] w λe w'=>e=.returned (.bool true)/\Below w.heap.size w w':=by
 obtain⟨s1,h⟩:=zxB B (bQ hs) hc;have hx:VRL (Xc w) (qD c) [.agg cs]:=VRL.cons (by simp only[vy,VR];exact⟨cs.toList,by simp,hv⟩) (VRL.nil _)
 refine callsIn_wide.1 (CallsIn.mono (h.2 _ w _ (Do P w true) (show Wf (s00 0 true)from zwx [] 0 true) (λ_ _=>rfl) hx Fence.wide 0 ⟨λ_=>trivial,rfl,rfl⟩) ?_)
 rintro e w' ⟨I',x,rfl,k1,k2⟩
 simp only[VR]at k2;exact⟨by rw[k2],k1.rel.base⟩
end Go.Proofs.YtbdfljdgapkbcaaGreatDoor.Ev

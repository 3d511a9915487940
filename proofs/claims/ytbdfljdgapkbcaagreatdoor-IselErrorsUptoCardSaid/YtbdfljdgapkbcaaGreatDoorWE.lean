/- Contracts of functions that IselErrors calls: what a call answers. No conditions. -/
import Derived.Test.YtbdfljdgapkbcaaGreatDoorWD
set_option linter.unusedSimpArgs false
set_option linter.unusedVariables false
set_option linter.defProp false
set_option maxHeartbeats 4000000
set_option linter.unusedSectionVars false
open List renaming length → zM, length_cons → yw, length_nil → xN, mem_cons_self → zua, length_append → yO, length_drop → zv5, mem_of_mem_drop → zv9, length_take → zue, map_cons → zY, append_nil → zv6, take_append_drop → zuQ, mem_append_left → zuR, filter_cons_of_pos → zuS, mem_cons_of_mem → xA, eq_nil_of_length_eq_zero → yS, mem_cons → zul, filter_cons_of_neg → zuT, nil_append → zuc, mem_of_mem_take → zuV
open Nat renaming le_refl → zS, le_of_ble_eq_true → zv4, zero_mod → zuk, zero_le → yh, or_zero → zum, zero_or → zun, mul → zF, mul_one → xQ, zero_add → y8, lt_succ_self → yx, ble → zH, add → zE
open Bool renaming and_eq_true → zP, cond_self → zui, and_self → xO, false_and → zv7
open Int renaming ofNat → z6, sub → zuU
namespace Go.Proofs.YtbdfljdgapkbcaaGreatDoor.Ev
variable {L:za}{n off m k N R u a bid lb wd:Nat}{l:zq}{e b f:Bool}{K:MK}{c:Cd}{v w:Int}{O:Orc}{s:U}
open Nat (reduceEqDiff reduceLeDiff reduceLT reduceAdd reduceMul reduceSub reduceMod reducePow reduceDiv reduceOr reduceShiftLeft reduceGT reduceSucc)
open List (length_cons length_nil length_take length_drop)
open Int (reduceOfNat reduceNegSucc)
open T
set_option maxRecDepth 100000
attribute [local go_sem] we x9 wx Nat.or_zero Nat.zero_or Nat.zero_mod Bool.cond_self ltF gtF
section
variable {O:Orc}(H:IsO O){K:MK}{e:Bool}{op:zq}{R B N u:Nat}{L:za}{n:Nat}
include H
def ME{Y ed:Nat}{w:Z}{l:zq}(h:MsO K e op R B N u L n)(hN:N<10000000)(hu:u<=n)(he:ed<R)(hvw:IlV L w l Y off)(hid:Y<n)(hl:List.length l<=40)(hr:∀x∈l,InR R x)(m:Nat):Cv (cl O 104 [.ptr K.mp 0,w,ed] (KL L n m false)) (MsQ K false op R B (N+11*List.length l) (some u) L n m okR):=by
 refine wp (F:=f104) (H.no _) rfl rfl (zv4 rfl) ?_;have hwc:=hvw.cl;have hw:=h.wf;have h0:=λo1 o2 o3 o4 o5=>h.up (L2:=(n+1+1+1+1,o5)::(n+1+1+1,o4)::(n+1+1,o3)::(n+1,o2)::(n,o1)::L) (n2:=n+1+1+1+1+1) ((((((hw.up J).same J).same J).same J).same J).same J) (Oth.same λj hj=>by (repeat rw[gN J]))
 have f0:=λo1 o2 o3 o4 o5=>Fr2.new (m:=m) hw (L2:=(n+1+1+1+1,o5)::(n+1+1+1,o4)::(n+1+1,o3)::(n+1,o2)::(n,o1)::L) λj hj=>by (repeat rw[gN J])
 unfold f104 cF;simp only;refine xY ?_;refine xU (xU (wi ?_));refine xZ (RP H hwc _ false) λv t hv2=>?_;obtain⟨m2,rfl,rfl,rfl⟩:=hv2;refine xX ?_;apply x4;refine wi ?_;refine In (EO H (b3:=n) (b5:=n+1) (h0 _ _ _ _ _) J J (x8 _ _ _) (by (repeat first|exact x8 _ _ _|rw[gN J])) (by (repeat first|exact x8 _ _ _|rw[gN J])) (by (repeat first|exact x8 _ _ _|rw[gN J])) he sW sW (hvw.fr (f0 _ _ _ _ _)) J hl hr _ false) λv t hr2=>?_
 obtain⟨L2,n2,m3,R2,B2,ed2,rfl,a2,b2,c2,h2,gl,g5,hed2,f2⟩:=hr2;have gd:=(f2 (n+1+1+1) .dfd (by (repeat first|exact x8 _ _ _|rw[gN J])) rfl J J).1
 have hw2:=h2.wf;have fy:∀j o,x3 L j=some o->NF o=true->x3 L2 j=some o/\m3.testBit j=m2.testBit j:=λj o h1 hb=>by
  have hj:=hw.lt h1;exact f2 j o (f0 _ _ _ _ _ j o h1 hb).1 hb J J
 simp only[VS,f104]at gl;clear f2 h0 f0;refine xX ?_;refine xY ?_;refine jr (r:=.ret) ?_;show Cv _ _;rw[kf (by (repeat rw[gN J]);exact gd)]
 refine qz ?_;refine⟨_,n2,_,R2,B2,rfl,a2,b2,J,?_,λj o h1 hb=>?_,ed2,rfl,hed2⟩
 .refine(h2.up ((hw2.same J).same J) λj hj=>?_).weak J;by_cases hj1:j=n+1+1+1
  .exact .inr ⟨.dfd,by rw[hj1];exact gd,rfl,.inl rfl⟩
  .by_cases hj2:j=n+1+1+1+1
   .exact .inr ⟨_,by rw[hj2];exact gl,rfl,.inl rfl⟩
   .exact .inl (by rw[x5,x0 hj1,x5,x0 hj2])
 .have hj:=hw.lt h1;obtain⟨p1,p2⟩:=fy j o h1 hb;exact⟨by rw[gN J,gN J];exact p1,by rw[vm J,vm J];exact p2⟩
end
theorem EI{Y:Nat}{fx xt:Bool}{out:zq}{t2:Nat}{x2 f2:Bool}(hne:out≠[])(hx:xt= !fx)(hg:x3 L Y=some (.row 3 (xW wg out) xt false))(hw:WfA L n)(hb:zM out<1000):
  Cv (uE (KL ((n,some (.row t2 (wg w) x2 f2))::L) (n+1) m false) 3 1 8 (usV Y fx (zM out)) (.sl n 0 1 (.fix 1))) λv s=>∃L' m',v=usV (n+1) false (out++[w]).length/\s=KL L' (n+1+1) m' false/\x3 L' (n+1)=some (.row 3 (xW wg (out++[w])) true false)/\WfA L' (n+1+1)/\(∀j,j<n->j≠Y->x3 L' j=x3 L j/\m'.testBit j=m.testBit j):=by
 have hid:=hw.lt hg;have hfl:xW wg (out++[w])=xW wg out++wg w:=by rw[wQ,vh]
 have hg2:(KL ((n,some (.row t2 (wg w) x2 f2))::L) (n+1) m false).get n=some (.row t2 (wg w) x2 f2):=by rw[wM,x8]
 have hg1:(KL ((n,some (.row t2 (wg w) x2 f2))::L) (n+1) m false).get Y=some (.row 3 (xW wg out) xt false):=by rw[wM,gN J];exact hg
 have hsr:=(j7 (s:=KL ((n,some (.row t2 (wg w) x2 f2))::L) (n+1) m false) (j:=0) (esz:=1) (q:=1) (c:=.fix 1) hg2 rfl);have hlen:(xW wg out).length=zM out*1:=qK qm out;obtain⟨k,hk⟩:∃k,zM out=k+1:=⟨zM out-1,by have:=List.length_pos_iff.2 hne;omega⟩
 cases fx with
 |false=>
  subst hx;rw[Kp,hk];refine⟨_,_,KO (q:=0) (k:=k+1) hg1 (by rw[hlen,hk]) hsr.1 hsr.2 (vq w) J J J,_,_,?_,rfl,by rw[x8,hfl],(((hw.up J).same J).same J).same J,λj hj hji=>⟨by rw[gN J,x5,x0 hji,gN J],by rw[WG,vm hji]⟩⟩
  rw[Kp,yO,hk];rfl
 | true=>
  subst hx;have hc:cut (xW wg out) 0 (zF (k+1) 1)=some (xW wg out):=by
   rw[Vk,show zF (k+1) 1=(xW wg out).length by rw[hlen,hk];rfl];exact qg rfl
  have hle:zH (zE (k+1) 1) (k+1)=false:=by
   cases h:zH (zE (k+1) 1) (k+1)with
   |false=>rfl
   |true=>have h2:=wB.1 h;exact absurd h2 (by show ¬k+1+1<=k+1;omega)
  have he:uE (KL ((n,some (.row t2 (wg w) x2 f2))::L) (n+1) m false) 3 1 8 (usV Y true (zM out)) (.sl n 0 1 (.fix 1))=some (.sl (n+1) 0 (k+1+1) (.opn 1),KL ((n+1,some (.row 3 (xW wg out++wg w) true false))::(n,some (.row t2 (wg w) x2 f2))::L) (n+1+1) m false):=by
   rw[hk];simp only[usV,x6,uE,hsr.1,hsr.2,ZI,hg1,hle,wh,hc];rw[show zE (k+1) (Nat.succ 0)=k+1+1 from rfl,aW J J J];rfl
  refine⟨_,_,he,_,_,?_,rfl,by rw[x8,hfl],((hw.up J).same J).same J,λj hj _=>⟨by rw[gN J,gN J],rfl⟩⟩
  rw[Kp,yO,hk];rfl
open Int renaming reduceOfNat → rO, reduceNegSucc → rN
theorem OV{Y off k a:Nat}(h0:0<a)(h:a<k):gG 1 (.sl Y off k (.opn 1)) (some (.int .i64 (.ofNat a))) none none=some (.sl Y (off+a) (k-a) (.opn 1)):=by
 have h1:zH a k=true:=wB.2 J;have h2:Nat.beq a 0=false:=by cases a with
  |zero=>omega
  |succ a=>rfl
 have h3:Nat.blt a k=true:=w9.2 h;simp only[gG,bnd,wH.2 (rfl:1=1),x6,h1,h2,h3,wh];rw[show zF a 1=a from xQ a];rfl
def Ay{Y off k a:Nat}(h:a<=k):gG 1 (.sl Y off k (.opn 1)) none (some (.int .i64 (.ofNat a))) none=some (.sl Y off a (.opn 1)):=by
 have h1:zH a k=true:=wB.2 h;simp only[gG,bnd,wH.2 (rfl:1=1),x6,h1,wH.2 (rfl:0=0)]
def slT(Y off:Nat):Nat->Z
 |0=>.sl0
 |k+1=>.sl Y off (k+1) (.opn 1)
def RowI(L:za)(l:zq)(Y off:Nat):Prop:=l≠[]->∃cs x f,x3 L Y=some (.row 3 cs x f)/\∀i a r,l.drop i=a::r->wE 1 (wX (off+i) cs)=some [.int .i64 a]
def RowI.fr{L2:za}{m2 Y:Nat}(h:RowI L l Y off)(f:Fr2 L m L2 m2):RowI L2 l Y off:=λhne=>by
 obtain⟨cs,x,g,h1,h2⟩:=h hne;exact⟨cs,x,g,(f _ _ h1 rfl).1,h2⟩
def RowI.of{Y:Nat}{x:Bool}(h:l≠[]->x3 L Y=some (.row 3 (xW wg l) x f)):RowI L l Y 0:=λhne=>⟨_,_,_,h hne,λi a r hd=>by rw[y8];exact uz hd⟩
def RowI.drop{Y:Nat}(h:RowI L l Y off)(k:Nat):RowI L (l.drop k) Y (off+k):=λhne=>by
 obtain⟨cs,x,g,h1,h2⟩:=h λe=>hne (by rw[e];simp)
 exact⟨cs,x,g,h1,λi a r hd=>by rw[Nat.add_assoc];exact h2 _ a r (by rw[<-List.drop_drop];exact hd)⟩
def RowI.take{Y:Nat}(h:RowI L l Y off)(k:Nat):RowI L (l.take k) Y off:=λhne=>by
 obtain⟨cs,x,g,h1,h2⟩:=h λe=>hne (by rw[e];simp)
 refine⟨cs,x,g,h1,λi a r hd=>?_⟩;have:l.drop i=a::(l.drop (i+1)):=by
  have hi:i<(l.take k).length:=by
   have:=congrArg zM hd;simp only[zv5,yw]at this;omega
  have e1:(l.take k)[i]? =some a:=by rw[<-List.head?_drop,hd];rfl
  have hi2:i<zM l:=by rw[zue]at hi;omega
  rw[List.getElem?_take]at e1;split at e1
  .rw[List.drop_eq_getElem_cons hi2];rw[List.getElem?_eq_getElem hi2,x7]at e1;rw[e1]
  .cases e1
 exact h2 i a _ this
def RowI.sl{Y:Nat}{c:Cap}(h:RowI L l Y off)(hk:zM l=k):IlV L (.sl Y off k c) l Y off:=
 ⟨rfl,λ_=>by rw[hk];rfl,λi hi=>by simp only[vIa,GQ .i64 (hk▸hi)];simp,h⟩
theorem RowI.slT{Y:Nat}(h:RowI L l Y off):IlV L (slT Y off (List.length l)) l Y off:=by
 cases l with
 |nil=>exact⟨rfl,λ_=>rfl,(λi hi=>by cases hi),h⟩
 |cons a r=>exact h.sl rfl
def zwg{Y off k:Nat}(h:6<k):gG 1 (slT Y off k) (some (.int .i64 (.ofNat 6))) none none=some (.sl Y (off+6) (k-6) (.opn 1)):=by
 cases k with
 |zero=>omega
 |succ k=>exact OV J h
def zwf{Y off k:Nat}:gG 1 (slT Y off k) none (some (.int .i64 (.ofNat (min k 6)))) none=some (slT Y off (min k 6)):=by
 cases k with
 |zero=>rfl
 |succ k=>
  obtain⟨j,hj⟩:∃j,min (k+1) 6=j+1:=⟨min (k+1) 6-1,J⟩;rw[hj];exact Ay J
def zvO:za->Nat->Nat->Z->Prop:=λL R _ v=>∃Y fx xt ul,v=usV Y fx (zM ul)/\.ofNat 1∈ul/\.ofNat 2∈ul/\(zM ul<=100/\∀x∈ul,InR R x)/\x3 L Y=some (.row 3 (xW wg ul) xt false)
theorem U8(Y:Nat)(fx:Bool)(k:Nat):(usV Y fx k).cells=[usV Y fx k]:=by cases k<;>rfl
section
variable {O:Orc}(H:IsO O){K:MK}{e:Bool}{op:zq}{R B N u:Nat}{L:za}{n:Nat}
include H
attribute [local go_sem] U8 zvA in
def r9{Y f:Nat}{l:zq}(h:MsO K e op R B N u L n)(hN:N<9000000)(hu:u<=n)(hf:f<R)(hrow:RowI L l Y 1)(hid:Y<n)(hl:List.length l<=40)(hr:∀x∈l,InR R x)(m:Nat):Cv ((evW env O).call 63 [.ptr K.mp 0,.int .i64 (.ofNat f),slT Y 1 (List.length l)] (KL L n m false)) (MsQ K false op R B (N+11*(List.length l-6)+20) (some u) L n m zvO):=by
 refine wp (F:=f63) (H.no _) rfl rfl (zv4 rfl) ?_;have hw:=h.wf;have hR0:=h.R0;have hlen:=hrow.slT.len;have hlo:= @zwg Y 1 (zM l);have hhi:= @zwf Y 1 (zM l);have ht:(l.take 6).length=min (zM l) 6:=by rw[zue];omega
 have hlt:=(hrow.take 6).slT.len;rw[ht]at hlt;have h0:=λo=>h.up (L2:=(n,o)::L) (n2:=n+1) ((hw.up J).same J) (Oth.same λj hj=>by (repeat rw[x5,x0 J]))
 have f0:=λo=>Fr2.new (m:=m) hw (L2:=(n,o)::L) λj hj=>by (repeat rw[x5,x0 J])
 unfold f63 cF;simp only;refine xY ?_;refine xY ?_;refine xY ?_;refine u6 (λfr t=>∃T L2 n2 m2 R2 B2 mo,fr=⟨tmL T,[]⟩/\t=KL L2 n2 m2 false/\(tmL T).get 0=some (.ptr K.mp 0)/\(tmL T).get 1=some (.int .i64 (.ofNat f))/\(tmL T).get 2=some (slT Y 1 (zM l))/\(tmL T).get 7=some (usV n true 2)/\(tmL T).get 8=some (.int .i64 (.ofNat mo))/\mo<R2/\R<=R2/\B<=B2/\n+1<=n2/\MsO K false op R2 B2 (N+11*(zM l-6)+2) u L2 n2/\x3 L2 n=some (.row 3 (xW wg [.ofNat 1,.ofNat 2]))/\Fr2 L m L2 m2) ?_ λfr t hI=>?_
 .by_cases h6:6<zM l
  .have hlo:=hlo h6;have hd6:(l.drop 6).length=zM l-6:=zv5;refine xU (xX ?_);refine wV V ?_;refine wi ?_;refine w7 (Xn H (h0 _) J _) λv t hv=>?_;obtain⟨L1,n1,m1,R1,B1,rfl,a1,b1,c1,h1,f1,r1,rfl,e1⟩:=hv;have f01:=(f0 _).or f1;have g1:=(f1 n _ (x8 _ _ _) rfl).1;refine wi ?_;refine w7 (ME H h1 J (show u<=n1 by omega) e1 (((hrow.drop 6).fr f01).sl hd6) J J (λx hx=>(hr x (zv9 hx)).mono a1) _) λv t hv=>?_
   obtain⟨L2,n2,m2,R2,B2,rfl,a2,b2,c2,h2,f2,r2,rfl,e2⟩:=hv;have g2:=(f2 n _ g1 rfl).1;refine xX ?_;exact⟨_,L2,n2,_,R2,B2,r2,rfl,rfl,sW,sW,sW,by simp (disch:=first|exact dis|fail)only[go_sem,seval,-rO,-rN,usV],sW,e2,J,J,J,h2.weak J,g2,f01.or f2⟩
  .refine xU (xX ?_);refine wY V ?_;refine xX ?_;exact⟨_,_,_,_,R,B,0,rfl,rfl,sW,sW,sW,by simp (disch:=first|exact dis|fail)only[go_sem,seval,-rO,-rN,usV],sW,J,zS _,zS _,zS _,(h0 _).weak J,x8 _ _ _,f0 _⟩
 .clear h0 f0 h;obtain⟨T,L2,n2,m2,R2,B2,mo,rfl,rfl,t0,t1,t2,t7,t8,hmo,hR,hB,hn,h2,g2,f2⟩:=hI;refine xU (xU (xX ?_));apply x4;refine wq (λi:Nat=>zM l-i) (λi f' t=>∃T L3 n3 m3 R3 B3 oid fx xt ul,f'=⟨tmL T,[]⟩/\t=KL L3 n3 m3 false/\(tmL T).get 0=some (.ptr K.mp 0)/\(tmL T).get 1=some (.int .i64 (.ofNat f))/\(tmL T).get 2=some (slT Y 1 (zM l))/\(tmL T).get 7=some (usV oid fx (zM ul))/\(tmL T).get 8=some (.int .i64 (.ofNat mo))/\(tmL T).get 25=some (slT Y 1 (min (zM l) 6))/\(tmL T).get 26=some (.int .i64 (.ofNat (min (zM l) 6)))/\(tmL T).get 27=some (.int .i64 (.ofNat i))/\i<=min (zM l) 6/\R2<=R3/\B<=B3/\n+1<=n3/\MsO K false op R3 B3 (N+11*(zM l-6)+2+i) u L3 n3/\Fr2 L m L3 m3/\xt=(!fx)/\n<=oid/\x3 L3 oid=some (.row 3 (xW wg ul) xt false)/\zM ul=i+2/\.ofNat 1∈ul/\.ofNat 2∈ul/\(∀x∈ul,InR 33 x)) (λi f' t hI=>?_) 0 ⟨_,L2,n2,_,R2,B2,n,true,false,[.ofNat 1,.ofNat 2],rfl,rfl,V,V,V,by simp (disch:=first|exact dis|fail)only[go_sem,seval,-rO,-rN, *,yw,xN],V,V,V,V,yh _,zS _,hB,hn,h2,f2,rfl,zS _,g2,rfl,by simp,by simp,λx hx=>by
   simp only[zul,List.not_mem_nil,or_false]at hx;rcases hx with rfl|rfl<;>exact inR J⟩
  clear h2 g2 f2 t0 t1 t2 t7 t8 T;obtain⟨T,L3,n3,m3,R3,B3,oid,fx,xt,ul,rfl,rfl,t0,t1,t2,t7,t8,t25,t26,t27,hi,hR3,hB3,hn3,h3,f3,hxt,hoid,go,hul,u1,u2,hur⟩:=hI;replace hul:zM ul<=i+2/\i+2<=zM ul:=J;have hw3:=h3.wf;rcases wj (l.take 6) i with ⟨hlt2,hd2⟩|⟨a,hlt2,hd2⟩
  .have hni:¬i<min (zM l) 6:=J;clear hd2 hlt2;refine xX ?_;refine u6 (λfr t=>∃T L4 n4 m4 R4 B4 oid fx xt ul,fr=⟨tmL T,[]⟩/\t=KL L4 n4 m4 false/\(tmL T).get 0=some (.ptr K.mp 0)/\(tmL T).get 1=some (.int .i64 (.ofNat f))/\(tmL T).get 2=some (slT Y 1 (zM l))/\(tmL T).get 7=some (usV oid fx (zM ul))/\R3<=R4/\B<=B4/\n+1<=n4/\MsO K false op R4 B4 (N+11*(zM l-6)+10) u L4 n4/\Fr2 L m L4 m4/\x3 L4 oid=some (.row 3 (xW wg ul) xt false)/\.ofNat 1∈ul/\.ofNat 2∈ul/\(zM ul<=100/\∀x∈ul,InR 33 x)) ?_ λfr t hI=>?_
   .by_cases h6:6<zM l
    .refine xU (xX ?_);refine wV V ?_;refine xU (wi ?_);refine xZ (ki H h3 J (show 10<R3 by omega) (show mo<R3 by omega) _) λv t hv=>?_
     obtain⟨L4,n4,m4,R4,B4,rfl,a4,b4,c4,h4,f4,_⟩:=hv;have g4:=(f4 _ _ go rfl).1;have hw4:=h4.wf;have hun:ul≠[]:=λe=>by rw[e]at u1;cases u1
     clear go h3;refine xX ?_;refine wi ?_;refine xZ (EI (w:=.ofNat 10) hun hxt g4 hw4 J) λv t hv=>?_;obtain⟨L7,m7,rfl,rfl,g7,hw7,hf7⟩:=hv;obtain⟨h7,f7⟩:=h4.own (out:=ul) (lo:=n) (m3:=m4) hw7 hu (λ_=>⟨hoid,_,_,_,g4⟩) λj hj hne=>hf7 j hj (hne hun);have f8:=f7 _ _ (f3.trans f4) hw;clear hf7 g4 f7 hw4;refine xX ?_;exact⟨_,L7,_,_,R4,B4,n4+1,false,true,ul++[.ofNat 10],rfl,rfl,V,V,V,V,J,J,J,h7.weak J,f8,g7,zuR _ u1,zuR _ u2,by rw[yO,yw,xN];omega,λx hx=>(List.mem_append.1 hx).elim (hur x) λh=>by rw[List.mem_singleton.1 h];exact inR J⟩
    .refine xU (xX ?_);refine wY V ?_;refine xX ?_;exact⟨_,L3,n3,_,R3,B3,oid,fx,xt,ul,rfl,rfl,V,V,V,V,zS _,hB3,hn3,h3.weak J,f3,go,u1,u2,J,hur⟩
   .clear h3 f3 go t0 t1 t2 t7 t8 t25 t26 t27 T u1 u2 hur hul hxt hoid hw3;obtain⟨T,L4,n4,m4,R4,B4,oid,fx,xt,ul,rfl,rfl,t0,t1,t2,t7,a4,b4,c4,h4,f4,go,u1,u2,hur⟩:=hI;refine xU (wi ?_);refine xZ (ki H h4 J (show 1<R4 by omega) (show f<R4 by omega) _) λv t hv=>?_
    obtain⟨L5,n5,m5,R5,B5,rfl,a5,b5,c5,h5,f5,_⟩:=hv;have g5:=(f5 _ _ go rfl).1;refine xX ?_;refine xU (wi ?_);refine xZ (gH H h5 J (show 2<R5 by omega) _) λv t hv=>?_
    obtain⟨L6,n6,m6,R6,B6,rfl,a6,b6,c6,h6,f6,_⟩:=hv;have g6:=(f6 _ _ g5 rfl).1;clear go g5;refine xX ?_;refine xY ?_;refine xX ?_;refine qz ?_;exact⟨L6,n6,_,R6,B6,rfl,J,J,J,h6.weak J,f4.trans (f5.trans f6),oid,fx,xt,ul,rfl,u1,u2,⟨hur.1,λx hx=>(hur.2 x hx).mono J⟩,g6⟩
  .have hlt3:i<min (zM l) 6:=J;obtain⟨cs,x,g,hgc,hcs⟩:=((hrow.take 6).fr f3) λe=>by rw[e]at hlt2;simp at hlt2
   have hc:=hcs i a _ hd2;have hia2:=(hrow.take 6).slT.ia i hlt2;rw[ht]at hia2;obtain⟨ra,rfl,hra⟩:=hr a (zuV (zv9 (by rw[hd2];exact zua)))
   clear hd2 hcs;refine xY ?_;refine xU (wV sW ?_);refine xX ?_;refine xU (x4 ?_);refine xY ?_;refine xU (wi ?_);refine xZ (ki H h3 J (show 4+i<R3 by omega) (show ra<R3 by omega) _) λv t hv=>?_
   obtain⟨L4,n4,m4,R4,B4,rfl,a4,b4,c4,h4,f4,_⟩:=hv;have g4:=(f4 _ _ go rfl).1;have hw4:=h4.wf;have hun:ul≠[]:=λe=>by rw[e]at u1;cases u1
   clear go h3 hc hgc;refine xX ?_;refine wi ?_;refine xZ (EI (w:=.ofNat (4+i)) hun hxt g4 hw4 J) λv t hv=>?_;obtain⟨L7,m7,rfl,rfl,g7,hw7,hf7⟩:=hv;obtain⟨h7,f7⟩:=h4.own (out:=ul) (lo:=n) (m3:=m4) hw7 hu (λ_=>⟨hoid,_,_,_,g4⟩) λj hj hne=>hf7 j hj (hne hun);have f8:=f7 _ _ (f3.trans f4) hw;clear hf7 g4 f7 hw4;refine xX ?_;refine xX ?_;exact⟨i+1,⟨_,L7,_,_,R4,B4,n4+1,false,true,ul++[.ofNat (4+i)],rfl,rfl,V,V,V,V,V,V,V,V,J,J,J,J,h7.weak J,f8,rfl,J,g7,by rw[yO,yw,xN];omega,zuR _ u1,zuR _ u2,λx hx=>(List.mem_append.1 hx).elim (hur x) λh=>by rw[List.mem_singleton.1 h];exact inR J⟩,J⟩
end
section
variable {O:Orc}(H:IsO O){K:MK}{e:Bool}{op:zq}{R B N u:Nat}{L:za}{n:Nat}
include H
attribute [local go_sem] U8 wW wR in
def EM{Y p:Nat}{l:zq}(h:MsO K e op R B N u L n)(hN:N<9000000)(hu:u<=n)(hrow:RowI L l Y 0)(hp:List.length l=p+2)(hl:List.length l<=30)(hr:∀x∈l,InR R x)(m:Nat):Cv (cl O 64 [.ptr K.mp 0,gSl 1 Y (List.length l)] (KL L n m false)) (MsQ K true op R B (N+60) none L n m okU):=by
 refine wp (F:=f64) (H.no _) rfl rfl (zv4 rfl) ?_;have hw:=h.wf;have hR0:=h.R0;have hsl:gSl 1 Y (zM l)=.sl Y 0 (p+2) (.opn 1):=by rw[hp];rfl
 have hhi:= @Ay Y 0 (p+2) (p+1) J;have ht:(l.take (p+1)).length=p+1:=by rw[zue];omega
 have hs1:vK .i64 (zuU (.ofNat (p+2)) (.ofNat 1))=.ofNat (p+1):=by rw[Hz J,YR J];rfl
 have hs2:vK .i64 (zuU (.ofNat (p+1)) (.ofNat 1))=.ofNat p:=by rw[Hz J,YR J];rfl
 have hia3:vIa 1 (.sl Y 0 (p+2) (.opn 1)) (.int .i64 (.ofNat (p+1)))=some (.ptr Y (p+1)):=by
  have:=(hrow.sl (c:=.opn 1) hp).ia (p+1) J
  rwa [y8]at this
 obtain⟨z,hz⟩:∃z,l.drop (p+1)=[z]:=by
  rcases hd:l.drop (p+1)with _|⟨z,r⟩
  .have:=congrArg zM hd;simp only[zv5,xN]at this;omega
  .have:=congrArg zM hd;simp only[zv5,yw]at this;have hr0:r=[]:=yS J;exact⟨z,by rw[hr0]⟩
 obtain⟨rz,rfl,hrz⟩:=hr z (zv9 (by rw[hz];exact zua))
 have h0:=λo=>h.up (L2:=(n,o)::L) (n2:=n+1) ((hw.up J).same J) (Oth.same λj hj=>by (repeat rw[gN J]))
 have f0:=λo=>Fr2.new (m:=m) hw (L2:=(n,o)::L) λj hj=>by (repeat rw[gN J])
 rw[hsl];clear hsl h;unfold f64 cF;simp only;refine xY ?_;refine xY ?_;refine xU (xU (xX ?_));apply x4;refine wq (λi:Nat=>p+1-i) (λi f' t=>∃T L3 n3 m3 R3 B3 oid fx xt ul,f'=⟨tmL T,[]⟩/\t=KL L3 n3 m3 false/\G T 0 (.ptr K.mp 0)/\G T 1 (.sl Y 0 (p+2) (.opn 1))/\G T 4 (.int .i64 (.ofNat (p+1)))/\G T 5 (usV oid fx (zM ul))/\G T 14 (.sl Y 0 (p+1) (.opn 1))/\G T 15 (.int .i64 (.ofNat (p+1)))/\G T 16 i/\i<=p+1/\R<=R3/\B<=B3/\n+1<=n3/\MsO K false op R3 B3 (N+i) u L3 n3/\Fr2 L m L3 m3/\xt=(!fx)/\n<=oid/\x3 L3 oid=some (.row 3 (xW wg ul) xt false)/\zM ul=i+2/\(∀x∈ul,InR 33 x)) (λi f' t hI=>?_) 0 ⟨_,_,_,_,R,B,n,true,false,[.ofNat 2,.ofNat 10],rfl,rfl,V,V,V,by simp (disch:=first|exact dis|fail)only[go_sem,seval,-rO,-rN, *,yw,xN,usV,x6],V,V,V,yh _,zS _,zS _,zS _,(h0 _).weak J,f0 _,rfl,zS _,x8 _ _ _,rfl,λx hx=>by
  simp only[zul,List.not_mem_nil,or_false]at hx;rcases hx with rfl|rfl<;>exact inR J⟩
 clear h0 f0;obtain⟨T,L3,n3,m3,R3,B3,oid,fx,xt,ul,rfl,rfl,t0,t1,t4,t5,t14,t15,t16,hi,hR3,hB3,hn3,h3,f3,hxt,hoid,go,hul,hur⟩:=hI;replace hul:zM ul<=i+2/\i+2<=zM ul:=J;have hun:ul≠[]:=λe=>by rw[e]at hul;simp at hul
 have hw3:=h3.wf;rcases wj (l.take (p+1)) i with ⟨hlt2,hd2⟩|⟨a,hlt2,hd2⟩
 .have hni:¬i<p+1:=J;obtain⟨cs,x,g,hgc,hcs⟩:=(hrow.fr f3) λe=>by rw[e]at hp;cases hp
  have hc:=hcs (p+1) _ _ hz;rw[y8]at hc;clear hd2 hlt2 hcs;refine xX ?_;refine xU (wi ?_);refine xZ (ki H h3 J (show 10<R3 by omega) (show rz<R3 by omega) _) λv t hv=>?_
  obtain⟨L4,n4,m4,R4,B4,rfl,a4,b4,c4,h4,f4,_⟩:=hv;have g4:=(f4 _ _ go rfl).1;clear go hgc h3;refine xX ?_;refine xU (wi ?_);refine xZ (gH H h4 J (show 2<R4 by omega) _) λv t hv=>?_
  obtain⟨L5,n5,m5,R5,B5,rfl,a5,b5,c5,h5,f5,_⟩:=hv;have g5:=(f5 _ _ g4 rfl).1;have hsc:vV (usV oid fx (zM ul))=true:=by cases (zM ul)<;>rfl
  simp only[vV]at hsc;clear g4;refine xX ?_;refine wi ?_;refine xZ (Kk H h5 J (e2:=true) (q:=.ofNat 72) (d:=.ofNat 0) (i:=.ofNat 102) (l:=.ofNat 0) (.leave (by simp)) (inR J) ⟨J,λx hx=>(hur x hx).mono J⟩ (λ_=>⟨_,g5⟩) (by simp) (λ_=>.inr rfl) _) λv t hv=>?_
  obtain⟨L6,n6,m6,R6,B6,rfl,a6,b6,c6,h6,f6,_⟩:=hv;refine ev_zc ?_;exact⟨L6,n6,_,R6,B6,rfl,J,J,J,h6.more J,f3.trans (f4.trans (f5.trans f6)),trivial⟩
 .have hlt3:i<p+1:=J;obtain⟨cs,x,g,hgc,hcs⟩:=((hrow.take (p+1)).fr f3) λe=>by rw[e]at hlt2;simp at hlt2
  have hc:=hcs i a _ hd2;have hia2:=((hrow.take (p+1)).sl (c:=.opn 1) ht).ia i hlt2;rw[y8]at hc hia2;obtain⟨ra,rfl,hra⟩:=hr a (zuV (zv9 (by rw[hd2];exact zua)))
  clear hd2 hcs;refine xY ?_;refine xU (wV sW ?_);refine xX ?_;refine xU (x4 ?_);refine xY ?_;refine xU (wi ?_);refine xZ (ki H h3 J (show 4+i<R3 by omega) (show ra<R3 by omega) _) λv t hv=>?_
  obtain⟨L4,n4,m4,R4,B4,rfl,a4,b4,c4,h4,f4,_⟩:=hv;have g4:=(f4 _ _ go rfl).1;have hw4:=h4.wf;clear go h3 hc hgc;refine xX ?_;refine wi ?_;refine xZ (EI (w:=.ofNat (4+i)) hun hxt g4 hw4 J) λv t hv=>?_;obtain⟨L7,m7,rfl,rfl,g7,hw7,hf7⟩:=hv;obtain⟨h7,f7⟩:=h4.own (out:=ul) (lo:=n) (m3:=m4) hw7 hu (λ_=>⟨hoid,_,_,_,g4⟩) λj hj hne=>hf7 j hj (hne hun);have f8:=f7 _ _ (f3.trans f4) hw;clear hf7 g4 f7 hw4;refine xX ?_;refine xX ?_;exact⟨i+1,⟨_,L7,_,_,R4,B4,n4+1,false,true,ul++[.ofNat (4+i)],rfl,rfl,V,V,V,V,V,V,V,J,J,J,J,h7.weak J,f8,rfl,J,g7,by rw[yO,yw,xN];omega,λx hx=>(List.mem_append.1 hx).elim (hur x) λh=>by rw[List.mem_singleton.1 h];exact inR J⟩,J⟩
end
def r8{L:za}{n m Y:Nat}{a b:zq}{z:zt}{y:Z}(g:x3 L Y=some (.row 3 (xW wg a++z) true false))(hz:List.length b<=List.length z)(h1:j6 y=some (List.length b))(h2:b≠[]->qu (KL L n m false) 1 (List.length b) y=some (xW wg b)):Cv (uE (KL L n m false) 3 1 8 (.sl Y 0 (List.length a) (.opn 1)) y) λv t=>v=.sl Y 0 (a++b).length (.opn 1)/\∃L2 m2,t=KL L2 n m2 false/\x3 L2 Y=some (.row 3 (xW wg (a++b)++z.drop (List.length b)) true false)/\∀j,j≠Y->x3 L2 j=x3 L j/\m2.testBit j=m.testBit j:=by
 cases b with
 |nil=>exact⟨.sl Y 0 (zM a) (.opn 1),KL L n m false,by simp only[uE,h1,xN];rfl,by rw[zv6],L,m,rfl,by rw[zv6];exact g,λ_ _=>⟨rfl,rfl⟩⟩
 | cons x r=>
  have h2:=h2 (by simp)
  have hl:∀l:zq,(xW wg l).length=zM l:=λl=>by rw[qK qm];exact xQ _
  have hp:jk (xW wg a++z) (0+zM a*1) (xW wg (x::r))=some (xW wg a++(xW wg (x::r)++z.drop (x::r).length)):=by
   have:=WM (a:=xW wg a) (b:=z.take (x::r).length) (c:=z.drop (x::r).length) (v:=xW wg (x::r)) (off:=0+zM a*1) (by rw[hl];omega) (by rw[hl,zue];omega)
   rwa [zuQ]at this
  have hst:=Hx (KL L n m false) Y (0+zM a*1) (xW wg (x::r)) 3 _ _ true (by rw[wM];exact g) (pJ vq _) hp
  rw[kJ]at hst;have e1:zH (zE 0 (zF (zE (zM a) (Nat.succ r.length)) 1)) (qQ (xW wg a++z))=true:=by
   rw[wB,qw,yO,hl];simp only[yw]at hz;show 0+(zM a+(r.length+1))*1<=_;omega
  have happ:uE (KL L n m false) 3 1 8 (.sl Y 0 (zM a) (.opn 1)) y=some (.sl Y 0 (zM a+(r.length+1)) (.opn 1),KL ((Y,some (.row 3 (xW wg a++(xW wg (x::r)++z.drop (x::r).length)) true false))::L) n (kr m Y) false):=by
   unfold uE;simp only[h1,yw]at h2|-;rw[h2];simp only[ZI,wM,g];have e2:(Nat.beq 1 1&&true&& !false)=true:=rfl;rw[e2,x6,e1,x6];show (match j8 (KL L n m false) (.ptr Y (0+zM a*1)) (xW wg (x::r))with
    |some s'=>some (Z.sl Y 0 (zE (zM a) (Nat.succ r.length)) (.opn 1),s')
    |none=>none)=_
   rw[hst];rfl
  refine⟨_,_,happ,by rw[yO,yw],_,_,rfl,?_,λj hj=>⟨by rw[x5,x0 hj],by rw[WG,vm hj]⟩⟩
  rw[x8,wQ,List.append_assoc]
section
variable {O:Orc}(H:IsO O){L:za}{n:Nat}
include H
attribute [local go_sem] wW in
def mH{q c1 Y:Nat}{cd:Int}{x x1 f1 x2 f2:Bool}(g0:x3 L q=some (.row 36 [.sl c1 0 1 (.fix 1),gSl 1 Y (List.length l)] x f))(g1:x3 L c1=some (.row 3 (wg cd) x1 f1))(g2:l≠[]->x3 L Y=some (.row 3 (xW wg l) x2 f2))(hw:WfA L n)(hl:List.length l<=40)(m:Nat):Cv (cl O 20 [.sl q 0 2 (.fix 2)] (KL L n m false)) λv t=>∃L2 m2,v=gSl 1 n (cd::l).length/\t=KL L2 (n+1) m2 false/\WfA L2 (n+1)/\x3 L2 n=some (.row 3 (xW wg (cd::l)) true false)/\∀j,j<n->x3 L2 j=x3 L j/\m2.testBit j=m.testBit j:=by
 refine wp (F:=f20) (H.no _) rfl rfl (zv4 rfl) ?_;have hq:=hw.lt g0;have h1n:=hw.lt g1;unfold f20 cF;simp only;refine xY ?_;refine xY ?_;refine xU (xU (xX ?_));apply x4;refine wq (λi:Nat=>2-i) (λi f t=>∃T,f=⟨tmL T,[]⟩/\t=KL L n m false/\G T 0 (.sl q 0 2 (.fix 2))/\G T 3 (.int .i64 (.ofNat (two [cd] l i)))/\G T 9 (.sl q 0 2 (.fix 2))/\G T 10 (.int .i64 (.ofNat 2))/\G T 11 i/\i<=2) (λi f t hI=>?_) 0 ⟨_,rfl,rfl,sW,by simp (disch:=first|exact dis|fail)only[go_sem,seval,-rO,-rN,two],sW,sW,sW,yh _⟩
 obtain⟨T,rfl,rfl,t0,t3,t9,t10,t11,hi⟩:=hI
 match i,hi with
 |0,_=>
  simp only[two]at t3;refine xX ?_;refine⟨1,⟨_,rfl,trivial,V,by simp (disch:=first|exact dis|fail)only[go_sem,seval,-rO,-rN,two,yw,xN],V,V,V,J⟩,J⟩
 |1,_=>
  simp only[two,yw,xN]at t3;refine xX ?_;refine⟨2,⟨_,rfl,trivial,V,by simp (disch:=first|exact dis|fail)only[go_sem,seval,-rO,-rN,two,yw,xN],V,V,V,J⟩,J⟩
 | 2,_=>
  simp only[two,yw,xN]at t3;have hg:=sY (H.no _) (zM l) J L n m false;rw[show 0+1+zM l=zM l+1 by omega]at t3
  refine xX ?_;refine xY ?_;refine xU (xU (xX ?_));apply x4;refine wq (λi:Nat=>2-i) (λi f t=>∃T L2 m2 z,f=⟨tmL T,[]⟩/\t=KL L2 (n+1) m2 false/\G T 6 (.sl n 0 (pe [cd] l i).length (.opn 1))/\G T 25 (.sl q 0 2 (.fix 2))/\G T 26 (.int .i64 (.ofNat 2))/\G T 27 i/\i<=2/\WfA L2 (n+1)/\x3 L2 n=some (.row 3 (xW wg (pe [cd] l i)++z) true false)/\(pe [cd] l i).length+zM z=1+zM l/\∀j,j<n->x3 L2 j=x3 L j/\m2.testBit j=m.testBit j) (λi f t hI=>?_) 0 ⟨_,_,_,reps (zM l+1) [.int .i64 (.ofNat 0)],rfl,rfl,by simp (disch:=first|exact dis|fail)only[go_sem,seval,-rO,-rN,pe],sW,sW,sW,yh _,(hw.up (Nat.le_succ _)).same (yx _),by rw[x8];rfl,?_,λj hj=>⟨by rw[gN J],rfl⟩⟩
  .clear hg t0 t3 t9 t10 t11;obtain⟨T,L2,m2,z,rfl,rfl,t6,t9,t10,t11,hi,hw2,gr,hz,hfr⟩:=hI;have g02:=(hfr q hq).1.trans g0;have g12:=(hfr c1 h1n).1.trans g1
   match i,hi with
   |0,_=>
    simp only[pe,xN,xW,zuc,y8]at t6 gr hz;have hap:=λm=> @r8 L2 (n+1) m n [] [cd] z _ gr (by simp only[yw,xN];omega) rfl λ_=>(j7 (s:=KL L2 (n+1) m false) (j:=0) (esz:=1) (q:=1) (c:=.fix 1) (by rw[wM];exact g12) rfl).2
    simp only[xN,zuc]at hap;clear g12;refine xY ?_;refine xU (wV sW ?_);refine xX ?_;refine xU (x4 ?_);refine xY ?_;refine wi ?_;refine xZ (hap _) λv t hv=>?_;obtain⟨rfl,L3,m3,rfl,g3,hf3⟩:=hv;have hw3:WfA L3 (n+1):=λj hj=>(hf3 j J).1.trans (hw2 j hj);clear hap gr;refine xX ?_;refine xX ?_;refine⟨1,⟨_,L3,_,z.drop 1,rfl,rfl,by simp (disch:=first|exact dis|fail)only[go_sem,seval,-rO,-rN, *,pe],V,V,V,J,hw3,g3,by simp only[pe,zv5,yw,xN];omega,λj hj=>⟨(hf3 j J).1.trans (hfr j hj).1,(hf3 j J).2.trans (hfr j hj).2⟩⟩,J⟩
   | 1,_=>
    simp only[pe]at t6 gr hz;have hsrc:∀m,l≠[]->qu (KL L2 (n+1) m false) 1 (zM l) (gSl 1 Y (zM l))=some (xW wg l):=λm hne=>by
     have g:=(hfr Y (hw.lt (g2 hne))).1.trans (g2 hne);cases l with
     |nil=>exact absurd rfl hne
     |cons a r=>exact(j7 (s:=KL L2 (n+1) m false) (j:=0) (by rw[wM];exact g) (qK qm _)).2
    have hap:=λm=> @r8 L2 (n+1) m n [cd] l z (gSl 1 Y (zM l)) gr (by simp only[yw,xN]at hz;omega) (To 1 Y _) (hsrc m)
    clear g12 hsrc;refine xY ?_;refine xU (wV sW ?_);refine xX ?_;refine xU (x4 ?_);refine xY ?_;refine wi ?_;refine xZ (hap _) λv t hv=>?_;obtain⟨rfl,L3,m3,rfl,g3,hf3⟩:=hv;have hw3:WfA L3 (n+1):=λj hj=>(hf3 j J).1.trans (hw2 j hj);clear hap gr;refine xX ?_;refine xX ?_;refine⟨2,⟨_,L3,_,z.drop (zM l),rfl,rfl,by simp (disch:=first|exact dis|fail)only[go_sem,seval,-rO,-rN, *,pe],V,V,V,J,hw3,g3,(by simp only[yw,xN]at hz;simp only[pe,zv5,yO,yw,xN];omega),λj hj=>⟨(hf3 j J).1.trans (hfr j hj).1,(hf3 j J).2.trans (hfr j hj).2⟩⟩,J⟩
   |2,_=>
    simp only[pe,yO,yw,xN]at t6 gr hz;have hz0:z=[]:=yS J;subst hz0;rw[zv6]at gr;clear g02 g12;refine xX ?_;refine ev_zc ?_;refine⟨L2,m2,?_,rfl,hw2,gr,hfr⟩;rw[show 0+1+zM l=zM l+1 by omega];rfl
  .simp only[pe,xN,y8];rw[Zs];simp only[yw,xN];omega
end
section
variable {E:Env}{O:Orc}{Q:Res->Fr->U->Prop}{R:Z->U->Prop}{U9:zb}
def zxo{l:zo}{o:SOper}{df:zr}{ops:List SOper}{A:zu}{d:zw}(hc:Cv U9 R)(h:∀v t,R v t->Ev (rtS E (evW E O) l o df s (evS E (evW E O) ops (vC A d v) t)) Q):Ev (rtS E (evW E O) l o df s (sg (stS A d U9) (evS E (evW E O) ops))) Q:=by
 obtain⟨v,t,rfl,q⟩:=hc;exact h v t q
def zxp{l:zo}{df:zr}{A:zu}{d:zw}(hc:Cv U9 R)(h:∀v t,R v t->Ev (rtE E l d A df s (some (v,t))) Q):Ev (rtE E l d A df s U9) Q:=by
 obtain⟨v,t,rfl,q⟩:=hc;exact h v t q
end
mutual
def GdT(nf nc:Nat):Trm->Prop
 |.mk k _ q g f az ks=>(zM az<=30/\(∀a∈az,AtO nc a)/\((k=.ofNat 1/\jL q=.ofNat (zM az)/\(∃j,g=.ofNat j/\j<30000)/\zM ks=1)\/(k=.ofNat 2/\(∃j,f=.ofNat j/\j<nf)/\zM ks=1)\/(k=.ofNat 3/\zM az=1/\zM ks=2)\/(k=.ofNat 4/\1<=zM az)\/(k=.ofNat 5/\(∃j,f=.ofNat j/\j<nf)/\1<=zM az)\/(k=.ofNat 6/\2<=zM az)\/k=.ofNat 7))/\cu nf nc ks
def cu(nf nc:Nat):List Trm->Prop
 |[]=>True
 |x::r=>GdT nf nc x/\cu nf nc r
end
def rM{q:Int}(h:ltD q (.ofNat 100)=true):jL q=jO q:=by
 have hq:q<100:=by simpa [ltD]using h
 have e:∀k:Nat,100<=k->eqD q (.ofNat k)=false:=λk hk=>by
  cases hb:eqD q (.ofNat k)with
  |false=>rfl
  |true=>have:=eqT.1 hb;rw[this]at hq;have:(k:Int)<100:=hq;omega
 unfold jL;simp only[e 103 J,e 105 J,e 106 J,e 100 J,e 101 J,e 104 J,e 102 J,Bool.or_false,wh]
def Ax{Y:Nat}(h:1<=k):gG 1 (gSl 1 Y k) (some (.int .i64 (.ofNat 1))) none none=some (slT Y 1 (k-1)):=by
 rcases k with _|_|k
 .omega
 .rfl
 .have:= @OV Y 0 (k+2) 1 J J
  simpa [gSl,slT]using this
def MsO.term{op:zq}{B n2:Nat}{cs:zt}(h:MsO K e op R B N u L n2)(g:x3 L n=some (.row 40 cs))(o:zj):MsO K e op R B N u ((n,o)::L) n2:=h.up (h.wf.same (h.wf.lt g)) λj hj=>by
 by_cases e:j=n
 .subst e;exact .inr ⟨_,g,rfl,.inl rfl⟩
 .exact .inl (by rw[x5,x0 e])
def Fr2.term{L2:za}{m2:Nat}(f:Fr2 L m L2 m2)(hw:WfA L n)(o:zj):Fr2 L m ((n,o)::L2) (m2|||1<<<n):=λj o' hj ho=>by
 have q:=f _ _ hj ho;have:=hw.lt hj;exact⟨by rw[gN J];exact q.1,(vm J).trans q.2⟩
section
variable {O:Orc}(H:IsO O){K:MK}
include H
attribute [local go_sem] U8 wW wR in
def zzH:∀(k:Nat) (t:Trm),wN t<=k->GdT K.nf K.nc t->∀{e:Bool} {op:zq} {R B N u:Nat} {L:za} {n:Nat},MsO K e op R B N u L n->N+205*wN t<8000000->∀m,Cv (cl O 32 [.ptr K.mp 0,q8 t] (KL L n m false)) (MsQ K true op R B (N+205*wN t+195) none L n m okU):=by
 intro k
 induction k with
 |zero=>intro t h;have:=vd t;omega
 | succ k ih=>
  intro t hk hg e op R B N u L n h hN m;refine wp (F:=f32) (H.no _) rfl rfl (zv4 rfl) ?_;simp only[q8]at ih|-;have hw:=h.wf;have hl7:=qg (wP t);have hc7:=lr t;obtain⟨C,hC⟩:∃C,wN t=C:=⟨_,rfl⟩;rw[hC]at hk hN|-;have h0:=(h.up (L2:=(n,some (uy t))::L) (n2:=n+1) ((hw.up J).same J) (Oth.same λj hj=>by rw[gN J])).top
  have f0:=Fr2.new (m:=m) hw (L2:=(n,some (uy t))::L) λj hj=>by rw[gN J]
  simp only[uy]at h0 f0;unfold f32 cF;simp only;refine xY ?_;apply xU;apply x4;refine wq (λx:Trm=>wN x) (λx f t'=>∃T L2 n2 m2 R2 B2 e2,f=⟨tmL T,[]⟩/\t'=KL L2 n2 m2 false/\G T 0 (.ptr K.mp 0)/\G T 3 (.ptr n 0)/\R<=R2/\B<=B2/\n+1<=n2/\MsO K e2 op R2 B2 (N+205*(C-wN x)) n2 L2 n2/\Fr2 L m L2 m2/\x3 L2 n=some (uy x)/\wN x<=C/\GdT K.nf K.nc x) (λx f t' hI=>?_) t ⟨_,_,_,_,R,B,e,rfl,rfl,sW,sW,zS _,zS _,zS _,h0.more J,f0,by rw[x8];rfl,Nat.le_of_eq hC,hg⟩
  clear h0 f0 hl7 hc7 hg hC h t;obtain⟨T,L2,n2,m2,R2,B2,e2,rfl,rfl,t0,t3,hR2,hB2,hn2,h2,f2,g2,hxC,hg⟩:=hI;obtain⟨tk,v,q,g,fn,az,ks⟩:=x;simp only[GdT]at hg;obtain⟨⟨hal,hat,hkind⟩,hks⟩:=hg;simp only[uy,wl]at g2;have hpos:=vd (.mk tk v q g fn az ks);obtain⟨M,hM⟩:∃M,N+205*(C-wN (.mk tk v q g fn az ks))=M:=⟨_,rfl⟩;obtain⟨M2,hM2⟩:∃M2,wN (.mk tk v q g fn az ks)=M2:=⟨_,rfl⟩;have hnod:M2=1+qR ks:=by rw[<-hM2];simp only[wN];try omega
  rw[hM]at h2;rw[hM2]at hM hxC hpos;have hMN:M+205*M2=N+205*C:=J;rw[show N+205*C=M+205*M2 from hMN.symm]at hN|-;clear hM;rcases hkind with ⟨rfl,htk,⟨gj,rfl,hgj⟩,hkl⟩|⟨rfl,⟨fj,rfl,hfj⟩,hkl⟩|⟨rfl,hal1,hkl⟩|⟨rfl,hal1⟩|⟨rfl,⟨fj,rfl,hfj⟩,hal1⟩|⟨rfl,hal1⟩|rfl
  .obtain⟨y,rfl⟩:∃y,ks=[y]:=by
    rcases ks with _|⟨y,_|_⟩
    .cases hkl
    .exact⟨y,rfl⟩
    .simp at hkl
   have hc:wE 7 (wS [y])=some (qq y):=by rw[qV];exact vO (wP y)
   simp only[qR,cu,and_true]at hnod hks;obtain⟨y,hy⟩:∃z,z=y:=⟨y,rfl⟩;obtain⟨k2,v2,p2,num2,fn2,as2,ks2⟩:=y;subst hy;simp only[wl]at hc;refine xY ?_;apply x4;refine xU (wi ?_);refine xZ (Xe H h2 J J J hat _) λv t hv=>?_;obtain⟨L3,n3,m3,R3,B3,rfl,a3,b3,c3,h3,f3,wid,ws,rfl,hwl,hwr,hwg⟩:=hv;have g3:=(f3 _ _ g2 rfl).1;refine xX ?_;refine xU (wi ?_);refine xZ (kV H h3 J _) λv t hv=>?_;obtain⟨L4,n4,m4,R4,B4,rfl,a4,b4,c4,h4,f4,d,rfl,hd⟩:=hv;have g4:=(f4 _ _ g3 rfl).1;have w4:ws≠[]->x3 L4 wid=_:=λhne=>(f4 _ _ (hwg hne) rfl).1;clear g2 g3;refine xX ?_;have hv4:IlV L4 (gSl 1 wid (zM az)) ws wid 0:=by rw[<-hwl];exact IlV.of w4
   apply xU;apply x4;refine xY ?_;refine wY sW ?_;refine xY ?_;cases hq:ltD q (.ofNat 100)with
   |false=>
    refine wV V ?_;refine wi ?_;refine xZ (zxS H h4 J hd hgj hq (by rw[htk,hwl]) hv4 (λx hx=>(hwr x hx).mono a4) ⟨rfl,rfl⟩ _) λv t hv=>?_
    obtain⟨L5,n5,m5,R5,B5,rfl,a5,b5,c5,h5,f5,_⟩:=hv;have g5:=(f5 _ _ g4 rfl).1;clear g4;refine xX ?_;refine xX ?_;exact⟨.mk k2 v2 p2 num2 fn2 as2 ks2,⟨_,_,_,_,R5,B5,false,rfl,rfl,V,V,J,J,J,((h5.top).term g5 _).weak J,(f2.trans (f3.trans (f4.trans f5))).term hw _,by rw[x8];simp only[uy,wl],J,hks⟩,by rw[hM2];omega⟩
   |true=>
    refine wY V ?_;refine wi ?_;refine xZ (T6 H h4 J hd (by rw[<-rM hq,htk,hwl]) hv4 (λx hx=>(hwr x hx).mono a4) _) λv t hv=>?_
    obtain⟨L5,n5,m5,R5,B5,rfl,a5,b5,c5,h5,f5,_⟩:=hv;have g5:=(f5 _ _ g4 rfl).1;clear g4;refine xX ?_;refine xX ?_;exact⟨.mk k2 v2 p2 num2 fn2 as2 ks2,⟨_,_,_,_,R5,B5,false,rfl,rfl,V,V,J,J,J,((h5.top).term g5 _).weak J,(f2.trans (f3.trans (f4.trans f5))).term hw _,by rw[x8];simp only[uy,wl],J,hks⟩,by rw[hM2];omega⟩
  .obtain⟨y,rfl⟩:∃y,ks=[y]:=by
    rcases ks with _|⟨y,_|_⟩
    .cases hkl
    .exact⟨y,rfl⟩
    .simp at hkl
   have hc:wE 7 (wS [y])=some (qq y):=by rw[qV];exact vO (wP y)
   simp only[qR,cu,and_true]at hnod hks;obtain⟨k2,v2,p2,num2,fn2,as2,ks2⟩:=y;simp only[wl]at hc;refine xY ?_;apply x4;refine xU (wi ?_);refine xZ (Xe H h2 J J J hat _) λv t hv=>?_;obtain⟨L3,n3,m3,R3,B3,rfl,a3,b3,c3,h3,f3,wid,ws,rfl,hwl,hwr,hwg⟩:=hv;have g3:=(f3 _ _ g2 rfl).1;refine xX ?_;refine xU (wi ?_);refine xZ (kV H h3 J _) λv t hv=>?_;obtain⟨L4,n4,m4,R4,B4,rfl,a4,b4,c4,h4,f4,d,rfl,hd⟩:=hv;have g4:=(f4 _ _ g3 rfl).1;have w4:ws≠[]->x3 L4 wid=_:=λhne=>(f4 _ _ (hwg hne) rfl).1;clear g2 g3;refine xX ?_;apply xU;apply x4;refine xY ?_;refine wV sW ?_;refine xU (wi ?_);refine xZ (YI (H.no _) h4 J _) λv t hv=>?_;obtain⟨L5,m5,rfl,rfl,h5,f5⟩:=hv;have g5:=(f5 _ _ g4 rfl).1;have w5:ws≠[]->x3 L5 wid=_:=λhne=>(f5 _ _ (w4 hne) rfl).1;have hR0:=h5.R0;have i0:InR (R4+1) (.ofNat 0):=inR J;clear g4 w4;refine xX ?_;refine xU (wi ?_);refine xZ (uK H h5 J (e2:=false) (.addr hfj) (inR (yx R4)) i0 i0 (by simp) (λh=>by cases h) _) λv t hv=>?_
   obtain⟨L6,n6,m6,R6,B6,rfl,a6,b6,c6,h6,f6,_⟩:=hv;have g6:=(f6 _ _ g5 rfl).1;have w6:ws≠[]->x3 L6 wid=_:=λhne=>(f6 _ _ (w5 hne) rfl).1;have hw6:=h6.wf;clear g5 w5;refine xX ?_;have hwc:∀o1 o0,WfA ((n6+1,o1)::(n6,o0)::L6) (n6+1+1):=λo1 o0=>((hw6.up J).same J).same J;refine wi ?_;refine xZ (mH H (q:=n6+1) (c1:=n6) (Y:=wid) (cd:=.ofNat R4) (l:=ws) (by rw[x8,hwl]) (by rw[gN J,x8];rfl) (λhne=>by have:=hw6.lt (w6 hne);rw[gN J,gN J];exact w6 hne) (hwc _ _) J _) λv t hv=>?_
   obtain⟨L7,m7,rfl,rfl,hw7,g7,hf7⟩:=hv;have hf7':∀j,j<n6->x3 L7 j=x3 L6 j/\m7.testBit j=m6.testBit j:=λj hj=>by
    have:=hf7 j J;rw[gN J,gN J]at this;exact this
   have h7:=h6.up hw7 (Oth.same λj hj=>(hf7' j hj).1);have f7:=Fr2.newm (m:=m6) (m2:=m7) hw6 (λj hj=>(hf7' j hj).1) λj hj=>(hf7' j hj).2;have gn7:=(f7 _ _ g6 rfl).1;have hv7:=IlV.of (L:=L7) (Y:=n6+1+1) (l:=.ofNat R4::ws) λ_=>g7;rw[yw,hwl]at hv7|-;clear hf7 hf7' g6 w6 hwc;refine wi ?_;refine xZ (WK H h7 J (show d<R6 by omega) (show 2<8 by omega) hv7 (by simp only[yw];omega) (λx hx=>by
    rcases List.mem_cons.1 hx with rfl|hx
    .exact inR J
    .exact(hwr x hx).mono J) _) λv t hv=>?_
   obtain⟨L8,n8,m8,R8,B8,rfl,a8,b8,c8,h8,f8,_⟩:=hv;simp only[yw]at h8;have g8:=(f8 _ _ gn7 rfl).1;clear gn7 g7;refine xX ?_;refine xX ?_;exact⟨.mk k2 v2 p2 num2 fn2 as2 ks2,⟨_,_,_,_,R8,B8,false,rfl,rfl,V,V,J,J,J,((h8.top).term g8 _).weak J,(f2.trans (f3.trans (f4.trans (f5.trans (f6.trans (f7.trans f8)))))).term hw _,by rw[x8];simp only[uy,wl],J,hks⟩,by rw[hM2];omega⟩
  .obtain⟨y,z,rfl⟩:∃y z,ks=[y,z]:=by
    rcases ks with _|⟨y,_|⟨z,_|_⟩⟩
    .cases hkl
    .simp at hkl
    .exact⟨y,z,rfl⟩
    .simp at hkl
   obtain⟨a,rfl⟩:∃a,az=[a]:=by
    rcases az with _|⟨y,_|_⟩
    .cases hal1
    .exact⟨y,rfl⟩
    .simp at hal1
   have hc:wE 7 (wS [y,z])=some (qq y):=by rw[qV];exact vO (wP y)
   have hc2:wE 7 (wX 7 (wS [y,z]))=some (qq z):=by
    simp only[qV,Za,zv6];rw[qe,List.drop_left' (wP y)];exact qg (wP z)
   have hca:wE 2 (xW qO [a])=some (qO a):=by simp only[xW,zv6];exact qg (pu a)
   have hat1:=hat a zua;simp only[qR,cu,and_true]at hnod hks;have hpy:=vd y;have hpz:=vd z;simp only[yw,xN]at g2;obtain⟨is,rg,fl,wd,nd,bid,hp2⟩:=h2;have gm2:=hp2.gm;simp only[jZ]at gm2;have hlab:=λm=>UN (H.no _) hp2 J m;refine xX ?_;refine xY ?_;apply x4;refine xY ?_;refine wV sW ?_;refine xU (wi ?_);refine zxo (hlab _) λv t hv=>?_;obtain⟨L3,m3,rfl,rfl,h3,f3⟩:=hv;have gm3:=h3.gm;simp only[jZ]at gm3;refine wi ?_;clear gm3 h3 f3 L3;refine zxp (hlab _) λv t hv=>?_;obtain⟨L3,m3,rfl,rfl,h3,f3⟩:=hv;have gm3:=h3.gm;simp only[jZ]at gm3;refine xX ?_;have h3':MsO K e2 (.ofNat B2::op) R2 (B2+1) (M+1) n2 L3 n2:=⟨is,rg,fl,wd,nd,bid,h3⟩;have hwd:=hp2.nw;have g3:=(f3 _ _ g2 rfl).1;clear gm3 gm2 hlab h3 hp2 g2;refine xU (wi ?_);refine xZ (sa H h3' J hat1 _) λv t hv=>?_;obtain⟨L4,n4,m4,R4,B4,rfl,a4,b4,c4,h4,f4,r4,rfl,hr4⟩:=hv;have g4:=(f4 _ _ g3 rfl).1;clear g3 h3';refine wi ?_;refine xZ (Xn H h4 J _) λv t hv=>?_;obtain⟨L5,n5,m5,R5,B5,rfl,a5,b5,c5,h5,f5,r5,rfl,hr5⟩:=hv;have g5:=(f5 _ _ g4 rfl).1;clear g4 h4;refine wi ?_;refine xZ (kc H h5 J (q:=.ofNat 26) (by simp) (show r4<R5 by omega) hr5 (show B2<B5 by omega) _) λv t hv=>?_
   obtain⟨L6,n6,m6,R6,B6,rfl,a6,b6,c6,h6,f6,_⟩:=hv;have g6:=(f6 _ _ g5 rfl).1;clear g5 h5;refine xX ?_;refine xU (wi ?_);refine xZ (ih y J hks.1 h6 J _) λv t hv=>?_;obtain⟨L7,n7,m7,R7,B7,rfl,a7,b7,c7,h7,f7,_⟩:=hv;have g7:=(f7 _ _ g6 rfl).1;clear g6 h6;refine xX ?_;refine xU (wi ?_);refine xZ (VN H h7 J _) λv t hv=>?_;obtain⟨L8,n8,m8,R8,B8,rfl,a8,b8,c8,h8,f8,_⟩:=hv;have g8:=(f8 _ _ g7 rfl).1;clear g7 h7;refine xX ?_;obtain⟨is8,rg8,fl8,wd8,nd8,bid8,hp8⟩:=h8;have gm8:=hp8.gm;have hnn:=hp8.nn;have hni:=hp8.ni;have hnR:=hp8.nR;have hnl:=hp8.nl
   simp only[jZ]at gm8;obtain⟨h9,f9⟩:=hp8.row (nd2:=nd8) (lb2:=B8) (wd2:=wd) (R2:=R8) (zS _) (zS _) hp8.hlb (N2:=M+7+(205*wN y+195)) ⟨J,J,J,J,J⟩;obtain⟨L9,hL9⟩:∃L9,(K.mp,some (jZ K R8 nd8 (gSl 8 bid8 (zM is8)) B8 wd))::L8=L9:=⟨_,rfl⟩;have f9:=f9 (some (jZ K R8 nd8 (gSl 8 bid8 (zM is8)) B8 wd)) m8;rw[hL9]at h9 f9;have h9:MsO K false op R8 B8 (M+7+(205*wN y+195)) _ L9 n8:=⟨is8,rg8,fl8,wd,nd8,bid8,h9⟩;have g9:=(f9 _ _ g8 rfl).1;simp only[jZ]at hL9;refine xY ?_;clear hL9 gm8 g8;refine wi ?_;refine xZ (ih z J hks.2 h9 J _) λv t hv=>?_;obtain⟨L10,n10,m10,R10,B10,rfl,a10,b10,c10,h10,f10,_⟩:=hv;refine ev_zc ?_;exact⟨L10,n10,_,R10,B10,rfl,J,J,J,h10.more J,f2.trans (f3.trans (f4.trans (f5.trans (f6.trans (f7.trans (f8.trans (f9.trans f10))))))),trivial⟩
  .refine xX ?_;refine xY ?_;apply x4;refine xY ?_;refine wY sW ?_;refine xY ?_;refine wV sW ?_;refine xU (wi ?_);refine xZ (Xe H h2 J J J hat _) λv t hv=>?_;obtain⟨L3,n3,m3,R3,B3,rfl,a3,b3,c3,h3,f3,wid,ws,rfl,hwl,hwr,hwg⟩:=hv;have g3:=(f3 _ _ g2 rfl).1;obtain⟨w1,wr,rfl,hw1⟩:=YF (l:=ws) J hwr;have w3:=hwg (by simp)
   have hv3:IlV L3 (gSl 1 wid (zM az)) (.ofNat w1::wr) wid 0:=by rw[<-hwl];exact IlV.of hwg
   have i0:=hv3.one.1;have c0:wE 1 (xW wg (z6 w1::wr))=some [.int .i64 (.ofNat w1)]:=vO (qm _);clear hwg g2;refine xX ?_;refine xU (wi ?_);refine w7 (Vw H h3 J (.inr rfl) _) λv t hv=>?_;obtain⟨L4,n4,m4,R4,B4,rfl,a4,b4,c4,h4,f4,lf,rfl,hlf⟩:=hv;have w4:=f4 _ _ w3 rfl;have e4:=YX w4.2;have hidn:=h3.wf.lt w3;have hh:=nW (b:=n4) hidn;replace w4:=w4.1;refine wi ?_;refine w7 (hJ H h4 J (show w1<R4 by omega) (show 2<8 by omega) hlf _) λv t hv=>?_
   obtain⟨L5,n5,m5,R5,B5,rfl,a5,b5,c5,h5,f5,_⟩:=hv;have w5:=(f5 _ _ w4 rfl).1;have hr5:RowI L5 wr wid 1:=(RowI.of (l:=.ofNat w1::wr) λ_=>w5).drop 1;have hsl:gG 1 (gSl 1 wid (zM az)) (some (.int .i64 (.ofNat 1))) none none=some (slT wid 1 (zM wr)):=by
    rw[Ax hal1,<-hwl];rfl
   clear g3 w3 w4 e4 hh;refine xX ?_;refine wi ?_;refine w7 (r9 H h5.top J (zS _) (show w1<R5 by omega) hr5 (show wid<n5 by omega) (by simp only[yw]at hwl;omega) (λx hx=>(hwr x (xA _ hx)).mono J) _) λv t hv=>?_
   obtain⟨L6,n6,m6,R6,B6,rfl,a6,b6,c6,h6,f6,uid,fx,xt,ul,rfl,u1,u2,hur,gu⟩:=hv;have hwl2:zM wr<=29:=by simp only[yw]at hwl;omega
   have hR0:=h6.R0;have hsc:vV (usV uid fx (zM ul))=true:=by cases (zM ul)<;>rfl
   simp only[vV]at hsc;clear w5;refine wi ?_;refine w7 (Kk H h6 J (e2:=true) (q:=.ofNat 68) (d:=.ofNat 0) (i:=.negSucc 0) (l:=.ofNat 0) (.tail (Int.lt_of_lt_of_le (by decide:Int.negSucc 0<0) (Int.natCast_nonneg _)) u1 u2) (inR J) hur (λ_=>⟨_,gu⟩) (by simp) (λ_=>.inl rfl) _) λv t hv=>?_
   obtain⟨L7,n7,m7,R7,B7,rfl,a7,b7,c7,h7,f7,_⟩:=hv;refine ev_zc ?_;exact⟨L7,n7,_,R7,B7,rfl,J,J,J,h7.more J,(((((f2.trans f3).or f4).or f5).or f6).or f7),trivial⟩
  .refine xX ?_;refine xY ?_;apply x4;refine xY ?_;refine wY sW ?_;refine xY ?_;refine wY sW ?_;refine xY ?_;refine wV sW ?_;refine xU (wi ?_);refine xZ (Xe H h2 J J J hat _) λv t hv=>?_;obtain⟨L3,n3,m3,R3,B3,rfl,a3,b3,c3,h3,f3,wid,ws,rfl,hwl,hwr,hwg⟩:=hv;have g3:=(f3 _ _ g2 rfl).1;obtain⟨w1,wr,rfl,hw1⟩:=YF (l:=ws) J hwr;have w3:=hwg (by simp)
   have hv3:IlV L3 (gSl 1 wid (zM az)) (.ofNat w1::wr) wid 0:=by rw[<-hwl];exact IlV.of hwg
   have i0:=hv3.one.1;have c0:wE 1 (xW wg (z6 w1::wr))=some [.int .i64 (.ofNat w1)]:=vO (qm _);have hr3:RowI L3 wr wid 1:=(RowI.of (l:=.ofNat w1::wr) λ_=>w3).drop 1;have hsl:gG 1 (gSl 1 wid (zM az)) (some (.int .i64 (.ofNat 1))) none none=some (slT wid 1 (zM wr)):=by
    rw[Ax hal1,<-hwl];rfl
   have hidn:=h3.wf.lt w3;clear hwg g2;refine xX ?_;refine wi ?_;refine w7 (r9 H h3.top J (zS _) (show w1<R3 by omega) hr3 hidn (by simp only[yw]at hwl;omega) (λx hx=>hwr x (xA _ hx)) _) λv t hv=>?_
   obtain⟨L6,n6,m6,R6,B6,rfl,a6,b6,c6,h6,f6,uid,fx,xt,ul,rfl,u1,u2,hur,gu⟩:=hv;have hwl2:zM wr<=29:=by simp only[yw]at hwl;omega
   have hR0:=h6.R0;have hsc:vV (usV uid fx (zM ul))=true:=by cases (zM ul)<;>rfl
   have e6:=YX (f6 _ _ g3 rfl).2;simp only[vV]at hsc;clear w3;refine wi ?_;refine w7 (Kk H h6 J (e2:=true) (q:=.ofNat 68) (d:=.ofNat 0) (i:=.ofNat fj) (l:=.ofNat 0) (.tail (Int.ofNat_lt.2 hfj) u1 u2) (inR J) hur (λ_=>⟨_,gu⟩) (by simp) (λ_=>.inl rfl) _) λv t hv=>?_
   obtain⟨L7,n7,m7,R7,B7,rfl,a7,b7,c7,h7,f7,_⟩:=hv;refine ev_zc ?_;exact⟨L7,n7,_,R7,B7,rfl,J,J,J,h7.more J,(((f2.trans f3).or f6).or f7),trivial⟩
  .refine xX ?_;refine xY ?_;apply x4;refine xY ?_;refine wY sW ?_;refine xY ?_;refine wY sW ?_;refine xY ?_;refine wY sW ?_;refine xY ?_;refine wV sW ?_;refine wi ?_;refine xZ (Xe H h2 J J J hat _) λv t hv=>?_;obtain⟨L3,n3,m3,R3,B3,rfl,a3,b3,c3,h3,f3,wid,ws,rfl,hwl,hwr,hwg⟩:=hv;clear g2;refine wi ?_;rw[<-hwl];refine xZ (EM H h3.top J (zS _) (RowI.of hwg) (show (zM ws)=(zM ws-2)+2 by omega) J hwr _) λv t hv=>?_
   obtain⟨L7,n7,m7,R7,B7,rfl,a7,b7,c7,h7,f7,_⟩:=hv;refine ev_zc ?_;exact⟨L7,n7,_,R7,B7,rfl,J,J,J,h7.more J,f2.trans (f3.trans f7),trivial⟩
  .have hR0:=h2.R0;have i0:InR R2 (.ofNat 0):=inR J;refine xX ?_;refine xY ?_;apply x4;refine xY ?_;refine wY sW ?_;refine xY ?_;refine wY sW ?_;refine xY ?_;refine wY sW ?_;refine xY ?_;refine wY sW ?_;refine wi ?_;refine xZ (uK H h2 J (e2:=true) (q:=.ofNat 72) (d:=.ofNat 0) (i:=.ofNat 106) (l:=.ofNat 0) (.leave (by simp)) i0 i0 i0 (by simp) (λ_=>.inr rfl) _) λv t hv=>?_
   obtain⟨L7,n7,m7,R7,B7,rfl,a7,b7,c7,h7,f7,_⟩:=hv;refine ev_zc ?_;exact⟨L7,n7,_,R7,B7,rfl,J,J,J,(h7.top).more J,f2.trans f7,trivial⟩
end
def zwd(h:a<=List.length l):gG 1 (.lst (List.length l) false (xW wg l)) none (some (.int .i64 (.ofNat a))) none=some (.lst a false (xW wg (l.take a))):=by
 have hl:∀l:zq,(xW wg l).length=zM l:=λl=>by rw[qK qm];exact xQ _
 simp only[gG,HJ,bnd,show zH a (zM l)=true from wB.2 h,x6,zv7];rw[show tkN (zF (Nat.sub a 0) 1) (wX (zF 0 1) (xW wg l))=xW wg (l.take a)from ?_]
 .rfl
 .rw[show zF (Nat.sub a 0) 1=a from xQ _,show zF 0 1=0 from rfl];show tkN _ (wX 0 _)=_;rw[qe,gE,List.drop_zero]
  conv=>lhs;rw[<-zuQ a l,wQ]
  rw[List.take_left' (by rw[hl,zue];omega)]
def zwe(h:a<=List.length l):gG 1 (.lst (List.length l) false (xW wg l)) (some (.int .i64 (.ofNat a))) none none=some (.lst (List.length l-a) false (xW wg (l.drop a))):=by
 have hl:∀l:zq,(xW wg l).length=zM l:=λl=>by rw[qK qm];exact xQ _
 simp only[gG,HJ,bnd,show zH a (zM l)=true from wB.2 h,x6,zv7];rw[show tkN (zF (Nat.sub (zM l) a) 1) (wX (zF a 1) (xW wg l))=xW wg (l.drop a)from ?_]
 .rfl
 .rw[show zF (Nat.sub (zM l) a) 1=zM l-a from xQ _,show zF a 1=a from xQ _];rw[qe,gE]
  conv=>lhs;rw[<-zuQ a l,wQ]
  rw[List.drop_left' (by rw[hl,zue];omega),zuQ]
  exact List.take_of_length_le (by rw[hl,zv5];omega)
section
variable {O:Orc}(H:IsO O){K:MK}{e:Bool}{op:zq}{R B N u:Nat}{L:za}{n:Nat}
include H
attribute [local go_sem] zvA in
def FO{f:Fn}(h:MsO K e op R B N u L n)(hN:N<20000000)(hps:List.length f.ps<=30)(m:Nat):Cv ((evW env O).call 31 [.ptr K.mp 0,jy f] (KL L n m false)) (MsQ K false op R B (N+260) (some u) L n m okU):=by
 refine wp (F:=f31) (H.no _) rfl rfl (zv4 rfl) ?_;obtain⟨ps,rest,cont,fr,b⟩:=f;obtain⟨bk,bv,bo,bn,bf,bas,bks⟩:=b;simp only[jy,wD,wl,qd]at hps|-;have hw:=h.wf;have hR0:=h.R0;have hsf:=h.sf;obtain⟨L0,hL0⟩:∃L0,(n,some (AObj.row 42 [.lst (zM ps) false (xW wg ps),.bool rest,.bool cont,.lst (zM fr) false (xW wg fr),.int .i64 bk,.int .i64 bv,.int .i64 bo,.int .i64 bn,.int .i64 bf,.lst (zM bas) false (xW qO bas),.lst (zM bks) false (wS bks)]))::L=L0:=⟨_,rfl⟩;have h0:MsO K e op R B N u L0 (n+1):=h.up (hL0▸(hw.up J).same J) (Oth.same λj hj=>by rw[<-hL0];(repeat rw[x5,x0 J]))
 have f0:Fr2 L m L0 m:=Fr2.new hw λj hj=>by rw[<-hL0];(repeat rw[x5,x0 J])
 have k0:x3 L0 n=some (.row 42 [.lst (zM ps) false (xW wg ps),.bool rest,.bool cont,.lst (zM fr) false (xW wg fr),.int .i64 bk,.int .i64 bv,.int .i64 bo,.int .i64 bn,.int .i64 bf,.lst (zM bas) false (xW qO bas),.lst (zM bks) false (wS bks)]):=by rw[<-hL0];exact x8 _ _ _
 obtain⟨z,hz⟩:∃z,vK .i64 (zuU (.ofNat (zM ps)) (.ofNat 1))=z:=⟨_,rfl⟩;obtain⟨is,rg,fl,wd,nd,bid,hpp⟩:=h0;have gm:=hpp.gm;simp only[jZ]at gm;have h0:MsO K e op R B N u L0 (n+1):=⟨_,_,_,_,_,_,hpp⟩;unfold f31 cF;simp only;refine xY ?_;clear hL0 hw h hpp;refine xU (wi ?_);refine xZ (ki H h0 J hsf (show 1<R by omega) _) λv t hv=>?_
 obtain⟨L1,n1,m1,R1,B1,rfl,a1,b1,c1,h1,f1,_⟩:=hv;have k1:=(f1 _ _ k0 rfl).1;clear gm k0 h0;refine xX ?_;refine xY ?_;refine u6 (λfr' t=>∃T z,fr'=⟨tmL T,[]⟩/\t=KL L1 n1 m1 false/\(tmL T).get 0=some (.ptr K.mp 0)/\(tmL T).get 3=some (.ptr n 0)/\(tmL T).get 4=some (.int .i64 z)) ?_ λfr' t hI=>?_
 .cases rest with
  |false=>
   refine xX ?_;exact⟨_,.ofNat (zM ps),rfl,trivial,V,V,sW⟩
  |true=>
   refine xX ?_;exact⟨_,z,rfl,trivial,V,V,V⟩
 .clear hz z;obtain⟨T,z,rfl,rfl,t0,t3,t4⟩:=hI;have hhi:=zwd (l:=ps) (a:=min (zM ps) 6) J;obtain⟨q,hq⟩:∃q,ps.take (min (zM ps) 6)=q:=⟨_,rfl⟩;have hql:q.length=min (zM ps) 6:=by rw[<-hq,zue];omega
  rw[hq]at hhi;clear hq;refine xU (xU (xX ?_));apply x4;refine wq (λi:Nat=>q.length-i) (λi f' t=>∃T L2 n2 m2 R2 B2,f'=⟨tmL T,[]⟩/\t=KL L2 n2 m2 false/\(tmL T).get 0=some (.ptr K.mp 0)/\(tmL T).get 3=some (.ptr n 0)/\(tmL T).get 4=some (.int .i64 z)/\(tmL T).get 30=some (.lst (min (zM ps) 6) false (xW wg q))/\(tmL T).get 31=some (.int .i64 (.ofNat (min (zM ps) 6)))/\(tmL T).get 32=some (.int .i64 (.ofNat i))/\i<=min (zM ps) 6/\R1<=R2/\B1<=B2/\n1<=n2/\MsO K false op R2 B2 (N+1+2*i) u L2 n2/\Fr2 L1 m1 L2 m2) (λi f' t hI=>?_) 0 ⟨_,L1,n1,_,R1,B1,rfl,rfl,V,V,V,V,V,V,yh _,zS _,zS _,zS _,h1,Fr2.refl _ _⟩;clear t0 t3 t4 T h1 hhi;obtain⟨T,L2,n2,m2,R2,B2,rfl,rfl,t0,t3,t4,t30,t31,t32,hi,hR,hB,hn,h2,f2⟩:=hI;have k2:=(f2 _ _ k1 rfl).1;rcases wj q i with ⟨hlt2,hd2⟩|⟨a,hlt2,hd2⟩
  .have hni:¬i<min (zM ps) 6:=J;clear hd2 hlt2;refine xX ?_;by_cases h6:zM ps<=6
   .refine xX ?_;refine qz ?_;exact⟨L2,n2,_,R2,B2,rfl,J,J,J,h2.weak J,f0.trans (f1.trans f2),trivial⟩
   .have hlo:=zwe (l:=ps) (a:=6) J;refine xY ?_;refine xU (wi ?_);refine xZ (YI (H.no _) h2 J _) λv t hv=>?_;obtain⟨L3,m3,rfl,rfl,h3,f3⟩:=hv;have k3:=(f3 _ _ k2 rfl).1;clear k1 k2;refine xX ?_;refine xU (wi ?_);refine xZ (ki H h3 J (yx R2) (show 10<R2+1 by omega) _) λv t hv=>?_
    obtain⟨L4,n4,m4,R4,B4,rfl,a4,b4,c4,h4,f4,_⟩:=hv;have k4:=(f4 _ _ k3 rfl).1;clear k3 h3;refine xX ?_;refine xY ?_;apply x4;refine wq (λi:Nat=>zM ps-6-i) (λi f' t=>∃T L5 n5 m5 R5 B5 mo,f'=⟨tmL T,[]⟩/\t=KL L5 n5 m5 false/\(tmL T).get 0=some (.ptr K.mp 0)/\(tmL T).get 4=some (.int .i64 z)/\(tmL T).get 7=some (.int .i64 (.ofNat mo))/\(tmL T).get 56=some (.lst (zM ps-6) false (xW wg (ps.drop 6)))/\(tmL T).get 57=some (.int .i64 (.ofNat (zM ps-6)))/\(tmL T).get 58=some (.int .i64 (.ofNat i))/\i<=zM ps-6/\R4<=R5/\B4<=B5/\n4<=n5/\mo<R5/\MsO K false op R5 B5 (N+20+10*i) u L5 n5/\Fr2 L4 m4 L5 m5) (λi f' t hI=>?_) 0 ⟨_,L4,n4,_,R4,B4,R2,rfl,rfl,V,V,V,V,V,V,yh _,zS _,zS _,zS _,J,h4.weak J,Fr2.refl _ _⟩;clear t0 t3 t4 t30 t31 t32 T h4 hlo k4 hi hni;obtain⟨T,L5,n5,m5,R5,B5,mo,rfl,rfl,t0,t4,t7,t56,t57,t58,hi,hR5,hB5,hn5,hmo,h5,f5⟩:=hI;rcases wj (ps.drop 6) i with ⟨hlt2,hd2⟩|⟨a,hlt2,hd2⟩
    .rw[zv5]at hlt2;have hni:¬i<zM ps-6:=J;clear hd2 hlt2;refine xX ?_;refine qz ?_;exact⟨L5,n5,_,R5,B5,rfl,J,J,J,h5.weak J,f0.trans (f1.trans (f2.trans (f3.trans (f4.trans f5)))),trivial⟩
    .have hlt3:i<zM ps-6:=by rw[zv5]at hlt2;omega
     have hc:=uz hd2;clear hd2 hlt2;refine xY ?_;refine xU (wV sW ?_);refine xX ?_;refine xU (x4 ?_);refine xY ?_;cases hz:eqD (.ofNat (6+i)) z with
     |true=>
      apply xU;refine xY ?_;refine wV V ?_;refine xU (wi ?_);refine xZ (kV H h5 J _) λv t hv=>?_;obtain⟨L6,n6,m6,R6,B6,rfl,a6,b6,c6,h6,f6,r6,rfl,hr6⟩:=hv;refine wi ?_;refine xZ (ki H h6 J hr6 (show mo<R6 by omega) _) λv t hv=>?_
      obtain⟨L7,n7,m7,R7,B7,rfl,a7,b7,c7,h7,f7,_⟩:=hv;refine xX ?_;refine xX ?_;refine qz ?_;exact⟨L7,n7,_,R7,B7,rfl,J,J,J,h7.weak J,f0.trans (f1.trans (f2.trans (f3.trans (f4.trans (f5.trans (f6.trans f7)))))),trivial⟩
     |false=>
      refine xY ?_;refine xU (wi ?_);refine xZ (kV H h5 J _) λv t hv=>?_;obtain⟨L6,n6,m6,R6,B6,rfl,a6,b6,c6,h6,f6,r6,rfl,hr6⟩:=hv;refine wi ?_;refine xZ (YA H h6 J hr6 (show mo<R6 by omega) (show 1<32768 by omega) _) λv t hv=>?_
      obtain⟨L7,n7,m7,R7,B7,rfl,a7,b7,c7,h7,f7,_⟩:=hv;refine xX ?_;refine xU (wi ?_);refine xZ (YI (H.no _) h7 J _) λv t hv=>?_;obtain⟨L8,m8,rfl,rfl,h8,f8⟩:=hv;refine xX ?_;refine xU (wi ?_);refine xZ (YA H h8 J (yx R7) (show mo<R7+1 by omega) (show 2<32768 by omega) _) λv t hv=>?_
      obtain⟨L9,n9,m9,R9,B9,rfl,a9,b9,c9,h9,f9,_⟩:=hv;refine xX ?_;refine xX ?_;refine xX ?_;exact⟨i+1,⟨_,L9,_,_,R9,B9,R7,rfl,rfl,V,V,V,V,V,V,J,J,J,J,J,h9.weak J,f5.trans (f6.trans (f7.trans (f8.trans f9)))⟩,J⟩
  .have hlt3:i<min (zM ps) 6:=J;have hc:=uz hd2;clear hd2;refine xY ?_;refine xU (wV sW ?_);refine xX ?_;refine xU (x4 ?_);refine xY ?_;refine wi ?_;refine xZ (kV H h2 J _) λv t hv=>?_;obtain⟨L6,n6,m6,R6,B6,rfl,a6,b6,c6,h6,f6,r6,rfl,hr6⟩:=hv;refine wi ?_;refine xZ (ki H h6 J hr6 (show 4+i<R6 by omega) _) λv t hv=>?_
   obtain⟨L7,n7,m7,R7,B7,rfl,a7,b7,c7,h7,f7,_⟩:=hv;refine xX ?_;refine xX ?_;exact⟨i+1,⟨_,L7,_,_,R7,B7,rfl,rfl,V,V,V,V,V,V,J,J,J,J,h7.weak J,f2.trans (f6.trans f7)⟩,J⟩
end
structure VJ where
 op:Int
 d:Int
 a:Int
 b:Int
 imm:Int
 lb:Int
 ul:zq
def VI.j(x:VI):VJ:=⟨x.op,x.d,x.a,x.b,x.imm,x.lb,x.ul⟩
def pA(x:VJ):zt:=[.int .i64 x.op,.int .i64 x.d,.int .i64 x.a,.int .i64 x.b,.int .i64 x.imm,.int .i64 x.lb,.lst (zM x.ul) false (xW wg x.ul),.lst 0 false []]
def du(x:VJ):wo (pA x)=true:=by simp only[pA,ww,wA,qL,qn,xO]
def A8(x:VJ):wkL (pA x)=pA x:=by simp only[pA,wkL,wkV,vT px]
structure VF where
 fn:Int
 regs:Nat
 need:Nat
 pn:Int
 rest:Bool
 is:List VJ
def jT(F:VF):zt:=[.int .i64 F.fn,.int .i64 (.ofNat F.regs),.int .i64 (.ofNat 0),.int .i64 (.ofNat F.need),.int .i64 F.pn,.bool F.rest,.lst (zM F.is) false (xW pA F.is)]
def dT(F:VF):Z:=.agg (jT F)
def Ci(l:List VJ):wo (xW pA l)=true:=wI du l
def Th(l:List VJ):wkL (xW pA l)=xW pA l:=vT A8 l
theorem mC(F:VF):(jT F).length=7:=rfl
def Xk(F:VF):wo (jT F)=true:=by simp only[jT,ww,wA,qL,uO,qn,xO]
def A7(F:VF):wkL (jT F)=jT F:=by simp only[jT,wkL,wkV,Th]
def Jo(F:VF):wO (jT F)=true:=by simp only[jT,jC,gR,lC,Z5,Z6,xO]
def ML:List VJ->zq
 |[]=>[]
 |x::r=>if x.op=.ofNat 65 then x.lb::ML r else ML r
def eQ:∀l:List VI,ML (l.map VI.j)=WX l
 |[]=>rfl
 |x::r=>by
  simp only[zY,ML,WX,VI.j];rw[eQ r]
structure GdJ(nf nc lb R:Nat)(x:VJ):Prop where
 op:OpOk nf nc lb x.op x.d x.imm x.lb x.ul
 d:InR R x.d
 a:InR R x.a
 b:InR R x.b
 u:zM x.ul<=100/\∀u∈x.ul,InR R u
structure GdF(nf nc:Nat)(F:VF):Prop where
 ok:∃lb,lb<2000000/\(ML F.is).Perm (JZ lb)/\∀x∈F.is,GdJ nf nc lb F.regs x
 regs:F.regs<2000000
 R0:33<=F.regs
 need:F.need<2000000
 len:zM F.is<=32768
 ls:∃x∈F.is.getLast?,x.op=.ofNat 68\/x.op=.ofNat 72
theorem sK{Y t:Nat}{us cs:zt}{c:Cap}{x:Bool}(hg:s.get Y=some (.row t us x f))(hk:zz7 k c)(hf:FzL s us cs)(hp:wo cs=true):Fz s (.sl Y 0 k c) (.lst k false cs):=by
 simp only[Fz];refine⟨hp,.inr ⟨by trivial,Y,0,c,t,us,x,f,us,rfl,hk,hg,?_,hf⟩⟩
 rw[<-hf.len,Vk];exact qg rfl
def sJ(s:U):∀l:zq,FzL s (xW wg l) (xW wg l)
 |[]=>js
 |x::r=>qa (wT _ _ _) (sJ s r)
theorem zwL{hd:zg}{on:ze}{x:VI}(h:iT L x)(hh:∀Y o,x3 L Y=some o->(KL L n m b hd on).get Y=some o):Fz (KL L n m b hd on) (usV x.ui x.fx (List.length x.ul)) (.lst (List.length x.ul) false (xW wg x.ul)):=by
 cases hl:x.ul with
 |nil=>exact lY
 |cons a r=>
  obtain⟨xt,g⟩:=h (by rw[hl];simp)
  rw[hl]at g;show Fz _ (.sl x.ui 0 (r.length+1) (bif x.fx then .fix (r.length+1)else .opn 1)) (.lst (r.length+1) false _);refine sK (hh _ _ g) ?_ (sJ _ _) (Gv _);cases x.fx with
  |true=>exact zS _
  |false=>trivial
def zyj{L:za}{n m:Nat}{b:Bool}{hd:zg}{on:ze}(hh:∀Y o,x3 L Y=some o->(KL L n m b hd on).get Y=some o):∀{is:List VI},(∀x∈is,iT L x)->FzL (KL L n m b hd on) (xW py is) (xW pA (is.map VI.j))
 |[],_=>js
 |x::r,h=>by
  have ih:=zyj hh (is:=r) λy hy=>h y (xA _ hy);simp only[zY,xW];refine FzL.append ?_ ih;exact qa (wT _ _ _) (qa (wT _ _ _) (qa (wT _ _ _) (qa (wT _ _ _) (qa (wT _ _ _) (qa (wT _ _ _) (qa (zwL (h x zua) hh) (qa lY js)))))))
def zxw{hd:zg}{on:ze}(hh:∀Y o,x3 L Y=some o->(KL L n m b hd on).get Y=some o){is:List VI}(h:∀x∈is,iT L x)(gi:is≠[]->x3 L bid=some (.row 45 (xW py is) true false)):Fz (KL L n m b hd on) (gSl 8 bid (List.length is)) (.lst (is.map VI.j).length false (xW pA (is.map VI.j))):=by
 cases is with
 |nil=>exact lY
 |cons a r=>
  rw[List.length_map];show Fz _ (.sl bid 0 (r.length+1) (.opn 8)) (.lst (r.length+1) false _);exact sK (hh _ _ (gi (by simp))) trivial (zyj hh h) (Ci _)
def rmv(v:Int)(N:zm):zm:=N.filter λp=>decide (p.1≠v)
def V7{v:Int}:∀{N:zm},v∉N.map (·.1)->rmv v N=N
 |[],_=>rfl
 |p::r,h=>by
  simp only[zY,zul,not_or]at h;have ih:=V7 (N:=r) h.2;unfold rmv at ih|-;rw[zuS (by simpa using Ne.symm h.1),ih]
def GW{v:Int}:∀{N:zm},lkN v N=none->v∉N.map (·.1)
 |[],_=>by simp
 | p::r,h=>by
  simp only[lkN]at h;split at h
  .cases h
  .rename_i hne
   simp only[zY,zul,not_or];exact⟨λe=>hne e.symm,GW h⟩
def Hm{v w:Int}:∀{N:zm},lkN v N=some w->(N.map (·.1)).Nodup->(N.map (·.2)).Perm (w::(rmv v N).map (·.2))
 | p::r,h,hn=>by
  simp only[zY,List.nodup_cons]at hn;simp only[lkN]at h;split at h
  .rename_i e
   cases h;have:rmv v (p::r)=r:=by
    unfold rmv;rw[zuT (by simpa using e)]
    exact V7 (by rw[<-e];exact hn.1)
   rw[this,zY]
  .rename_i e
   have ih:=Hm h hn.2;have:rmv v (p::r)=p::rmv v r:=by
    unfold rmv;rw[zuS (by simpa using e)]
   rw[this,zY,zY];exact(List.Perm.cons _ ih).trans (List.Perm.swap _ _ _)
def rc{v w:Int}(hne:v≠w):∀N:zm,lkN v (rmv w N)=lkN v N
 |[]=>rfl
 | p::r=>by
  have ih:=rc hne r;by_cases e:p.1=w
  .have:rmv w (p::r)=rmv w r:=by
    unfold rmv;rw[zuT (by simpa using e)]
   rw[this,ih];simp only[lkN];rw[x0 (λh=>hne (h.symm.trans e))]
  .have:rmv w (p::r)=p::rmv w r:=by
    unfold rmv;rw[zuS (by simpa using e)]
   rw[this];simp only[lkN,ih]
def Dt{N:zm}(h:(N.map (·.1)).Nodup):((rmv v N).map (·.1)).Nodup:=h.sublist (List.Sublist.map _ List.filter_sublist)
section
variable {O:Orc}(H:IsO O){K:MK}{e:Bool}{R N u:Nat}{L:za}{n:Nat}{is:List VI}{rg fl:zm}{lb wd nd bid:Nat}{op:zq}
include H
def eM(h:MsP K e (.ofNat k::op) R N u L n is rg fl lb wd nd bid)(hN:N<100000000)(hk:k<lb)(m:Nat):Cv (cl O 33 [.ptr K.mp 0,k] (KL L n m false)) λv t=>∃L2 n2 m2 is2 bid2,t=KL L2 n2 m2 false/\n<=n2/\MsP K false op R (N+1) u L2 n2 is2 rg fl lb wd nd bid2/\Fr2 L m L2 m2:=by
 refine wp (F:=f33) (H.no _) rfl rfl (zv4 rfl) ?_;have h0:InR R (.ofNat 0):=inR (by have:=h.R0;omega)
 unfold f33 cF;simp only;refine wi ?_;refine xZ (Kj (H.no _) h hN ⟨.ofNat 65,.ofNat 0,.ofNat 0,.ofNat 0,.ofNat 0,.ofNat k,0,false,[]⟩ (op2:=op) ⟨.br (by simp) hk,h0,h0,h0,yh _,λ_ h=>by cases h⟩ (λh=>absurd rfl h) (λh=>absurd rfl h) rfl _) λv t hv=>?_
 obtain⟨L1,n1,m1,bid1,rfl,q1,h1,f1⟩:=hv;refine ev_zc ?_;exact⟨L1,n1,m1,_,bid1,rfl,q1,h1.weak (zS _),f1⟩
end
def lN(x:Int×Fn):zt:=[.int .i64 x.1,jy x.2]
def Bw:∀x y,lN x=lN y->x=y:=λ⟨a,b⟩ ⟨c,d⟩ h=>by
 simp only[lN,qJ,Z.int.injEq,true_and,and_true]at h;rw[h.1,LF h.2]
def FH(x:Int×Fn):wkL (lN x)=lN x:=by simp only[lN,wkL,wkV,dO]
def mY(x:Int×Fn):wo (lN x)=true:=by simp only[lN,jy,ww,qL,uC,Xj,wA,xO]
def Lb(nf nc:Nat)(x:Int×Fn):Prop:=zM x.2.ps<=30/\GdT nf nc x.2.b/\wN x.2.b<=150
def GIF(nf nc:Nat)(x:Int×Fn)(v:Z):Prop:=∃F,v=dT F/\GdF nf nc F/\F.fn=x.1/\F.pn=.ofNat (zM x.2.ps)/\F.rest=x.2.rest
theorem zxn{E:Env}{c:ICode}{fr:Fr}{l:za}{Q:Res->Fr->U->Prop}(h:∀L,L=l->Ev (evC E (evW E O) none c fr (KL L n m false)) Q):Ev (evC E (evW E O) none c fr (KL l n m false)) Q:=h l rfl
def opJ(fl:zm):Nat->zq
 |0=>fl.map (·.2)
 |1=>(rmv (.ofNat 104) fl).map (·.2)
 |_=>(rmv (.ofNat 105) (rmv (.ofNat 104) fl)).map (·.2)
def T4{fl:zm}(h:∀p∈fl,p.1=.ofNat 104\/p.1=.ofNat 105):opJ fl 2=[]:=by
 have:rmv (.ofNat 105) (rmv (.ofNat 104) fl)=[]:=by
  unfold rmv;rw[List.filter_filter,List.filter_eq_nil_iff];intro p hp;rcases h p hp with e|e<;>simp[e]
 simp only[opJ,this,List.map_nil]
def fF{fl:zm}{i:Nat}(hi:i<2)(h:lkN (.ofNat (104+i)) fl=none):opJ fl (i+1)=opJ fl i:=by
 rcases(by omega:i=0\/i=1)with rfl|rfl
 .simp only[opJ,V7 (GW h)]
 .simp only[opJ];rw[V7 (v:=.ofNat 105) (GW (by rw[rc (by decide)];exact h))]
def fG{fl:zm}{i:Nat}(hi:i<2)(h:lkN (.ofNat (104+i)) fl=some w)(hn:(fl.map (·.1)).Nodup):(opJ fl i).Perm (w::opJ fl (i+1)):=by
 rcases(by omega:i=0\/i=1)with rfl|rfl
 .exact Hm h hn
 .exact Hm (by rw[rc (by decide)];exact h) (Dt hn)
def MsP.moreP{op:zq}{N2:Nat}{is:List VI}{rg fl:zm}{nd:Nat}(h:MsP K e op R N u L n is rg fl lb wd nd bid)(hN:N<=N2):MsP K e op R N2 u L n is rg fl lb wd nd bid:={h.weak hN with ls:=h.ls}
def MsP.perm{op op2:zq}{is:List VI}{rg fl:zm}{nd:Nat}(h:MsP K e op R N u L n is rg fl lb wd nd bid)(hp:op.Perm op2):MsP K e op2 R N u L n is rg fl lb wd nd bid:={h with hlb:=(hp.append_left _).symm.trans h.hlb}
def MsP.mem{op:zq}{is:List VI}{rg fl:zm}{nd:Nat}{l:Int}(h:MsP K e op R N u L n is rg fl lb wd nd bid)(hl:l∈op):∃k,l=.ofNat k/\k<lb:=by
 have:=h.hlb.mem_iff.1 (List.mem_append_right _ hl:l∈_);simp only[JZ,List.mem_map,List.mem_range]at this;obtain⟨k,h1,h2⟩:=this;exact⟨k,h2.symm,h1⟩
def MsP.tl{op:zq}{is:List VI}{rg fl:zm}{nd:Nat}(h:MsP K e op R N u L n is rg fl lb wd nd bid):MsP K e op R N n L n is rg fl lb wd nd bid:={h with us:=λx hx hu=>by obtain⟨_,g⟩:=(h.ok x hx).2 hu;exact h.wf.lt g}
def zzd(o:O 30=none){mp r:Nat}{c0 c2 c3 c4 c5 c6 c7 c8 c9 c10 c11:Z}(g:x3 L mp=some (.row 73 [c0,r,c2,c3,c4,c5,c6,c7,c8,c9,c10,c11]))(hr:r<1000000):Cv (cl O 30 [.ptr mp 0] (KL L n m false)) λv t=>v=.int .i64 (.ofNat r)/\∃m2,t=KL ((mp,some (.row 73 [c0,.int .i64 (.ofNat (r+1)),c2,c3,c4,c5,c6,c7,c8,c9,c10,c11]))::L) n m2 false:=by
 refine wp (F:=f30) o rfl rfl (zv4 rfl) ?_;unfold f30 cF;simp only;refine xY ?_;refine xY ?_;refine xY ?_;refine ev_zc ?_;exact⟨rfl,_,rfl⟩
section
variable {P:Program}{X:World}(B:Bx P X){O:Orc}(hO:OrcOk P X O)
include B hO
attribute [local go_sem] bp lm Qe ZD ZB wW wR in
def eq(H:IsO O)(nf nc:Nat):vW P X 16 lN (Lb nf nc) (GIF nf nc):=by
 intro x hx;refine zvH B hO f16 ?_;obtain⟨i,f⟩:=x;obtain⟨hps,hgd,hno⟩:=hx;simp only at hps hgd hno;obtain⟨ps,rest,cont,fr,b⟩:=f;simp only at hps hgd hno;have hent:=λ(K:MK) (R B N u:Nat) (L:za) (n:Nat) (h:MsO K false [] R B N u L n) hN m=>FO H (f:=⟨ps,rest,cont,fr,b⟩) h hN hps m;have hterm:=λ(K:MK) (e1:K.nf=nf) (e2:K.nc=nc) (R B N u:Nat) (L:za) (n:Nat) (h:MsO K false [] R B N u L n) hN m=>zzH H (K:=K) (wN b) b (zS _) (by rw[e1,e2];exact hgd) h hN m
 obtain⟨C,hC⟩:∃C,wN b=C:=⟨_,rfl⟩;rw[hC]at hterm hno;clear hC hgd;obtain⟨bk,bv,bo,bn,bf,bas,bks⟩:=b;simp only[lN,jy,q8,wD,wl,qd]at hent hterm|-;unfold f16 cF;simp only;refine xY ?_;refine xY ?_;refine xU (wi ?_);refine xZ (zzd (H.no _) (x8 _ _ _) J) λv t hv=>?_;obtain⟨rfl,m2,rfl⟩:=hv;refine xX ?_;refine zxn λLK hLK=>?_;have g0:=congrArg (λl=>x3 l 0) hLK;have g1:=congrArg (λl=>x3 l 1) hLK;have g2:=congrArg (λl=>x3 l 2) hLK;have g3:=congrArg (λl=>x3 l 3) hLK;have g4:=congrArg (λl=>x3 l 4) hLK;simp (disch:=first|exact dis|fail)only[go_sem,seval,-rO,-rN]at g0
 simp (disch:=first|exact dis|fail)only[go_sem,seval,-rO,-rN]at g1
 simp (disch:=first|exact dis|fail)only[go_sem,seval,-rO,-rN]at g2
 simp (disch:=first|exact dis|fail)only[go_sem,seval,-rO,-rN]at g3
 simp (disch:=first|exact dis|fail)only[go_sem,seval,-rO,-rN]at g4
 have hw:WfA LK 5:=λj hj=>by
  rw[hLK]
  (repeat rw[gN J])
  rfl
 clear hLK
 have hM:MsO ⟨4,2,3,i,.ofNat (zM ps),32,rest,nf,nc⟩ false [] 33 0 33 5 LK 5:=⟨[],[],[],0,0,0,{
  wf:=hw,gm:=g4,gr:=g2,gf:=g3,rf:=(by decide:(2:Nat)≠3),gi:=(λh=>absurd rfl h),hrg:=(λ_ h=>by cases h),hfl:=(λ_ h=>by cases h),hfn:=List.nodup_nil,ok:=(λ_ h=>by cases h),us:=(λ_ h=>by cases h),hlb:=List.Perm.refl _,ni:=yh _,nl:=yh _,nR:=zS _,nw:=yh _,nn:=yh _,sf:=(by decide:(32:Nat)<33),R0:=zS _,ls:=(λh=>by cases h)}⟩
 clear g2 g3 g4;refine xU (wi ?_);refine xZ (hent _ _ _ _ _ _ _ hM J _) λv t hv=>?_;obtain⟨L1,n1,m1,R1,B1,rfl,a1,b1,c1,h1,f1,_⟩:=hv;have q0:=(f1 _ _ g0 rfl).1;have q1:=(f1 _ _ g1 rfl).1;clear g0 g1 hM hw;refine xX ?_;refine xU (wi ?_);refine xZ (hterm _ rfl rfl _ _ _ _ _ _ h1 J _) λv t hv=>?_;obtain⟨L2,n2,m3,R2,B2,rfl,a2,b2,c2,h2,f2,_⟩:=hv;have p1:=(f2 _ _ q1 rfl).1;clear q0 q1 h1 hent hterm;refine xX ?_;obtain⟨is,rg,fl,wd,nd,bid,hp⟩:=h2;have hfl2:=T4 hp.hfl;have hfn:=hp.hfn;refine xU (xU (xX ?_));apply x4;refine wq (λi:Nat=>2-i) (λj f t=>∃T L3 n3 m4 is3 bid3,f=⟨tmL T,[]⟩/\t=KL L3 n3 m4 false/\G T 4 (.ptr 1 0)/\G T 5 (.ptr 4 0)/\G T 33 (.sl n2 0 2 (.fix 2))/\G T 34 (.int .i64 (.ofNat 2))/\G T 35 j/\j<=2/\MsP ⟨4,2,3,i,.ofNat (zM ps),32,rest,nf,nc⟩ true (opJ fl j) R2 (33+260+205*C+195+2*j) n3 L3 n3 is3 rg fl B2 wd nd bid3/\x3 L3 1=some (.row 35 [(0:Nat),(0:Nat),(0:Nat),(0:Nat),(0:Nat),.bool false,.nils])/\x3 L3 n2=some (.row 3 [(104:Nat),(105:Nat)])) (λj f t hI=>?_) 0 ⟨_,_,_,_,is,bid,rfl,rfl,V,V,V,V,V,yh _,?_,?_,x8 _ _ _⟩
 .clear p1;obtain⟨T,L3,n3,m4,is3,bid3,rfl,rfl,t4,t5,t33,t34,t35,hj,h3,k1,k2⟩:=hI;have hR0:=h3.R0;have i0:InR R2 (.ofNat 0):=inR J;have gm:=h3.gm;simp only[jZ]at gm;by_cases hj2:j<2
  .have gf:=h3.gf;simp only at gf;rcases(by omega:j=0\/j=1)with rfl|rfl
   .have hg:lZ (.ofNat 104) (uN fl)=_:=VL (.ofNat 104) fl;cases hl:lkN (.ofNat 104) fl with
    |some l=>
     rw[hl,Option.map_some]at hg;have hpm:=fG (i:=0) J hl hfn;obtain⟨k,rfl,hk⟩:=h3.mem (l:=l) (hpm.mem_iff.2 zua);have h3':=h3.perm hpm;refine xY ?_;refine xU (wV sW ?_);refine xX ?_;refine xU (x4 ?_);refine xY ?_;refine xY ?_;refine xY ?_;refine wV sW ?_;refine xU (wi ?_);refine xZ (eM H h3' J hk _) λv t hv=>?_;obtain⟨L4,n4,m5,is4,bid4,rfl,hn4,h4,f4⟩:=hv;have k14:=(f4 _ _ k1 rfl).1;have k24:=(f4 _ _ k2 rfl).1;clear k1 k2 gf hg gm;refine xX ?_;refine wi ?_;refine xZ (Kj (H.no _) h4 J ⟨.ofNat 72,.ofNat 0,.ofNat 0,.ofNat 0,.ofNat 104,.ofNat 0,0,false,[]⟩ (op2:=opJ fl (0+1)) ⟨.leave (by simp),i0,i0,i0,yh _,λ_ h=>by cases h⟩ (λh=>absurd rfl h) (λh=>absurd rfl h) rfl _) λv t hv=>?_
     obtain⟨L5,n5,m6,bid5,rfl,hn5,h5,f5⟩:=hv;have k15:=(f5 _ _ k14 rfl).1;have k25:=(f5 _ _ k24 rfl).1;clear k14 k24;refine xX ?_;refine xX ?_;exact⟨0+1,⟨_,L5,n5,_,_,bid5,rfl,rfl,V,V,V,V,V,J,(MsP.tl h5).moreP J,k15,k25⟩,J⟩
    |none=>
     rw[hl,Option.map_none]at hg;have hpm:=fF (i:=0) J hl;rw[<-hpm]at h3;refine xY ?_;refine xU (wV sW ?_);refine xX ?_;refine xU (x4 ?_);refine xY ?_;refine xY ?_;refine xY ?_;refine wY sW ?_;refine xX ?_;refine xX ?_;exact⟨0+1,⟨_,L3,n3,_,is3,bid3,rfl,rfl,V,V,V,V,V,J,h3.moreP J,k1,k2⟩,J⟩
   .have hg:lZ (.ofNat 105) (uN fl)=_:=VL (.ofNat 105) fl;cases hl:lkN (.ofNat 105) fl with
    |some l=>
     rw[hl,Option.map_some]at hg;have hpm:=fG (i:=1) J hl hfn;obtain⟨k,rfl,hk⟩:=h3.mem (l:=l) (hpm.mem_iff.2 zua);have h3':=h3.perm hpm;refine xY ?_;refine xU (wV sW ?_);refine xX ?_;refine xU (x4 ?_);refine xY ?_;refine xY ?_;refine xY ?_;refine wV sW ?_;refine xU (wi ?_);refine xZ (eM H h3' J hk _) λv t hv=>?_;obtain⟨L4,n4,m5,is4,bid4,rfl,hn4,h4,f4⟩:=hv;have k14:=(f4 _ _ k1 rfl).1;have k24:=(f4 _ _ k2 rfl).1;clear k1 k2 gf hg gm;refine xX ?_;refine wi ?_;refine xZ (Kj (H.no _) h4 J ⟨.ofNat 72,.ofNat 0,.ofNat 0,.ofNat 0,.ofNat 105,.ofNat 0,0,false,[]⟩ (op2:=opJ fl (1+1)) ⟨.leave (by simp),i0,i0,i0,yh _,λ_ h=>by cases h⟩ (λh=>absurd rfl h) (λh=>absurd rfl h) rfl _) λv t hv=>?_
     obtain⟨L5,n5,m6,bid5,rfl,hn5,h5,f5⟩:=hv;have k15:=(f5 _ _ k14 rfl).1;have k25:=(f5 _ _ k24 rfl).1;clear k14 k24;refine xX ?_;refine xX ?_;exact⟨1+1,⟨_,L5,n5,_,_,bid5,rfl,rfl,V,V,V,V,V,J,(MsP.tl h5).moreP J,k15,k25⟩,J⟩
    |none=>
     rw[hl,Option.map_none]at hg;have hpm:=fF (i:=1) J hl;rw[<-hpm]at h3;refine xY ?_;refine xU (wV sW ?_);refine xX ?_;refine xU (x4 ?_);refine xY ?_;refine xY ?_;refine xY ?_;refine wY sW ?_;refine xX ?_;refine xX ?_;exact⟨1+1,⟨_,L3,n3,_,is3,bid3,rfl,rfl,V,V,V,V,V,J,h3.moreP J,k1,k2⟩,J⟩
  .obtain rfl:j=2:=J;rw[hfl2]at h3;have hsc2:=vU 8 bid3 (zM is3);simp only[vV]at hsc2;have h4:=λo=>h3.up (L2:=(1,o)::L3) (n2:=n3) (h3.wf.same (h3.wf.lt k1)) (λq hq=>by
    by_cases e:q=1
    .subst e;exact .inr ⟨_,k1,rfl,.inl rfl⟩
    .exact .inl (by rw[x5,x0 e]))
   refine xX ?_;refine ev_zc ?_;refine⟨dT ⟨i,R2,nd,.ofNat (zM ps),rest,is3.map VI.j⟩,⟨_,rfl,⟨⟨B2,?_,?_,λy hy=>?_⟩,?_,hR0,?_,?_,?_⟩,rfl,rfl,rfl⟩,by simp only[dT,uC,Xk],?_⟩
   .have:=h3.nl;omega
   .rw[eQ];have:=h3.hlb
    rwa [zv6]at this
   .obtain⟨x,hx,rfl⟩:=List.mem_map.1 hy;have:=(h3.ok x hx).1;exact⟨this.op,this.d,this.a,this.b,this.u⟩
   .have:=h3.nR;simp only;omega
   .have:=h3.nn;simp only;omega
   .have:=h3.ni;simp only[List.length_map];omega
   .obtain⟨x,hx,ho⟩:=h3.ls rfl;exact⟨x.j,by simp only[List.getLast?_map];rw[Option.mem_def.1 hx];rfl,ho⟩
   .simp only[dT,jT];exact GE (qa (wT _ _ _) (qa (wT _ _ _) (qa (wT _ _ _) (qa (wT _ _ _) (qa (wT _ _ _) (qa (qj _ _) (qa (zxw (λY o h=>by rw[wM];exact h) (λx hx=>((h4 _).ok x hx).2) (h4 _).gi) js)))))))
 .exact(hp.tl.up (L2:=(n2,_)::L2) (n2:=n2+1) ((hp.wf.up J).same J) (Oth.same λj hj=>by rw[gN J])).tl
 .rw[gN J];exact p1
end
def OK:zr:=[15,29,49]
def SelO(O:Orc):Prop:=∀f∈OK,O f=none
def SelO.no(H:SelO O)(f:Nat)(h:f∈OK:=by decide):O f=none:=H f h
def QQ:∀{l:List Trm} {t:Trm},t∈l->wN t<=qR l
 |x::r,t,h=>by
  simp only[qR];rcases List.mem_cons.1 h with rfl|h
  .omega
  .have:=QQ h;omega
def U4:∀{ks:List Trm} {y:Trm},WR ks->y∈ks->SzT y
 |t::r,y,h,hy=>by
  simp only[WR]at h;rcases List.mem_cons.1 hy with rfl|hy
  .exact h.1
  .exact U4 h.2 hy
mutual
def gM:Trm->Bool
 |.mk k _ _ _ _ az ks=>(bif eqD (.ofNat (zM ks)) (.ofNat 1)then false else eqD k (.ofNat 6)&&ltD (.ofNat 7) (.ofNat (zM az)))||pP ks
def pP:List Trm->Bool
 |[]=>false
 |t::r=>gM t||pP r
end
def CH(h:a<1000000000):ltD (.ofNat 5) (vK .i64 (Int.sub (.ofNat a) (.ofNat 2)))=ltD (.ofNat 7) (.ofNat a):=by
 match a,h with
 |0,_=>rfl
 |1,_=>rfl
 |k+2,h=>
  rw[Hz J,YR J];unfold ltD;rw[decide_eq_decide];show ((5:Nat):Int)<((k+2-2:Nat):Int)↔((7:Nat):Int)<((k+2:Nat):Int);omega
section
variable {O:Orc}(H:SelO O)
include H
def CA{ks:List Trm}(hk:zM ks<1000000000)(hc:∀t∈ks,∀L n m b,Cv (cl O 15 [.agg (qq t)] (KL L n m b)) λv s=>v=.bool (gM t)/\s=KL L n m b)(L:za)(n m:Nat)(b:Bool):
  Cv (cl O 49 [.lst (zM ks) false (wS ks),.fn 15 [] []] (KL L n m b)) λv s=>∃z,v=.int .i64 z/\(!ltD z (.ofNat 0))=pP ks/\s=KL L n m b:=by
 refine vf (F:=f49) (H.no _) rfl rfl (zv4 rfl) ?_;unfold f49 cF;simp only;refine xY ?_;refine xU (xU (xX ?_));apply x4;refine wq (λi:Nat=>zM ks-i) (λi f t=>∃T L2 n2 m2,f=⟨tmL T,[]⟩/\t=KL L2 n2 m2 true/\G T 0 (.lst (zM ks) false (wS ks))/\G T 1 (.fn 15 [] [])/\G T 7 (zM ks)/\G T 8 i/\i<=zM ks/\n<=n2/\m2%2^n=0/\pP ks=pP (ks.drop i)) (λi f t hI=>?_) 0 ⟨_,_,_,_,rfl,rfl,sW,sW,sW,sW,yh _,zS _,zuk _,rfl⟩;obtain⟨T,L2,n2,m2,rfl,rfl,t0,t1,t7,t8,hi,hn2,hm2,hlf⟩:=hI;rcases wj ks i with ⟨hlt,hd⟩|⟨x,hlt,hd⟩
 .have:¬i<zM ks:=J;rw[hd]at hlf;clear hd;refine xX ?_;refine ev_zc ?_;exact⟨_,rfl,hlf.symm,rfl⟩
 .have hcut:=Uu hd;have hcx:=hc x (zv9 (by rw[hd];exact zua))
  clear hc;rw[hd]at hlf;simp only[pP]at hlf;obtain⟨r,hr⟩:∃r,gM x=r:=⟨_,rfl⟩;rw[hr]at hlf hcx;refine xY ?_;refine xU (wV sW ?_);refine xX ?_;refine xU (x4 ?_);refine xY ?_;refine xU (wi ?_);refine xZ (hcx _ _ _ _) λv t hv=>?_;obtain⟨rfl,rfl⟩:=hv;clear hcx;refine xX ?_;cases r with
  |true=>
   refine ev_zc ?_;exact⟨_,rfl,hlf.symm,rfl⟩
  |false=>
   refine xX ?_;refine xX ?_;exact⟨i+1,⟨_,L2,n2,_,rfl,rfl,V,V,V,V,J,hn2,hm2,hlf⟩,J⟩
def ay{ks:List Trm}(hk:zM ks<1000000000)(hc:∀t∈ks,∀L n m b,Cv (cl O 15 [.agg (qq t)] (KL L n m b)) λv s=>v=.bool (gM t)/\s=KL L n m b)(L:za)(n m:Nat)(b:Bool):
  Cv (cl O 29 [.lst (zM ks) false (wS ks),.fn 15 [] []] (KL L n m b)) λv s=>v=.bool (pP ks)/\s=KL L n m b:=by
 refine vf (F:=f29) (H.no _) rfl rfl (zv4 rfl) ?_;have hix:=λL n m b=>CA H hk hc L n m b;clear hc;unfold f29 cF;simp only;refine xY ?_;refine xU (wi ?_);refine xZ (hix _ _ _ _) λv t hv=>?_;obtain⟨z,rfl,hz,rfl⟩:=hv;refine xX ?_;refine ev_zc ?_;exact⟨by rw[<-hz],rfl⟩
def TJ:∀(k:Nat) (t:Trm),wN t<=k->SzT t->∀L n m b,Cv (cl O 15 [.agg (qq t)] (KL L n m b)) λv s=>v=.bool (gM t)/\s=KL L n m b:=by
 intro k
 induction k with
 |zero=>intro t h;have:=vd t;omega
 | succ k ih=>
  intro t hk hsz L n m b;refine vf (F:=f15) (H.no _) rfl rfl (zv4 rfl) ?_;have hl7:=qg (wP t);have hc7:=lr t;unfold f15 cF;simp only;refine xY ?_;apply xU;apply x4;refine wq (λx:Trm=>wN x) (λx f t'=>∃T L2 n2 m2,f=⟨tmL T,[]⟩/\t'=KL L2 n2 m2 true/\G T 1 (.ptr n 0)/\G T 2 (.bool false)/\n+1<=n2/\m2%2^n=0/\x3 L2 n=some (uy x)/\wN x<=k+1/\SzT x/\gM t=gM x) (λx f t' hI=>?_) t ⟨_,_,_,_,rfl,rfl,sW,sW,zS _,zuk _,by rw[x8];rfl,hk,hsz,rfl⟩
  clear hk hsz hl7 hc7;obtain⟨T,L2,n2,m2,rfl,rfl,t1,t2,hn2,hm2,g0,hk,hsz,hlf⟩:=hI;obtain⟨lt,hlt⟩:∃r,gM t=r:=⟨_,rfl⟩;rw[hlt]at hlf|-;clear hlt t;obtain⟨tk,v,q,g,fn,az,ks⟩:=x;simp only[uy,wl]at g0;simp only[wN]at hk|-;simp only[SzT]at hsz;obtain⟨hs1,hs2,hs3⟩:=hsz;by_cases h1:zM ks=1
  .obtain⟨y,rfl⟩:∃y,ks=[y]:=by
    rcases ks with _|⟨y,_|_⟩
    .cases h1
    .exact⟨y,rfl⟩
    .simp at h1
   have hc:wE 7 (wS [y])=some (qq y):=by rw[qV];exact vO (wP y)
   simp only[qR,WR,and_true,yw,xN]at hk hs3 g0|-;obtain⟨k2,v2,p2,num2,fn2,as2,ks2⟩:=y;simp only[wl]at hc;clear ih h1;refine xY ?_;refine xX ?_;exact⟨.mk k2 v2 p2 num2 fn2 as2 ks2,⟨_,_,_,_,rfl,rfl,V,V,hn2,(we J).trans hm2,by rw[x8];simp only[uy,wl],J,hs3,by rw[hlf];simp[gM,pP,eqD]⟩,J⟩
  .have hh1:eqD (.ofNat (zM ks)) (.ofNat 1)=false:=qb λe=>h1 (Int.ofNat.inj e);have hcl:=λL n m b=>ay H (ks:=ks) hs2 (λt ht L n m b=>ih t (by have:=QQ ht;omega) (U4 hs3 ht) L n m b) L n m b
   have hw5:=CH hs1;simp only[gM,hh1,wh]at hlf;obtain⟨z,hz⟩:∃z,vK .i64 (zuU (.ofNat (zM az)) (.ofNat 2))=z:=⟨_,rfl⟩;rw[hz]at hw5;rw[<-hw5]at hlf;obtain⟨r,hr⟩:∃r,pP ks=r:=⟨_,rfl⟩;rw[hr]at hlf hcl;clear ih hr hw5;refine xX ?_;cases h6:eqD tk (.ofNat 6)with
   | true=>
    cases h5:ltD (.ofNat 5) z with
    |true=>
     refine ev_zc ?_;exact⟨by rw[hlf,h6,h5];rfl,rfl⟩
    |false=>
     refine xU (wi ?_);refine xZ (hcl _ _ _ _) λv t hv=>?_;obtain⟨rfl,rfl⟩:=hv;clear hcl;refine xX ?_;refine ev_zc ?_;exact⟨by rw[hlf,h6,h5];rfl,rfl⟩
   |false=>
    refine xU (wi ?_);refine xZ (hcl _ _ _ _) λv t hv=>?_;obtain⟨rfl,rfl⟩:=hv;clear hcl;refine xX ?_;refine ev_zc ?_;exact⟨by rw[hlf,h6];rfl,rfl⟩
end
mutual
def szW:Trm->Nat->Nat
 |.mk _ _ _ _ _ az ks,n=>if 30<(zM az)then 0 else Ub ks (n-1)
def Ub:List Trm->Nat->Nat
 |[],n=>n
 |t::r,n=>if n=0 then 0 else Ub r (szW t n)
end
mutual
def P9:Trm->Prop
 |.mk _ _ _ _ _ az ks=>zM az<=30/\Q2 ks
def Q2:List Trm->Prop
 |[]=>True
 |t::r=>P9 t/\Q2 r
end
def O2:∀{l:List Trm} {n:Nat},0<Ub l n->0<n
 |[],n,h=>h
 |t::r,n,h=>by
  simp only[Ub]at h;split at h<;>omega
mutual
theorem AA:∀(t:Trm) (n:Nat),0<n->0<szW t n->P9 t/\wN t+szW t n=n
 | .mk k v op m f az ks,n,hn,h=>by
  simp only[szW]at h|-;split at h
  .omega
  .rename_i ha
   obtain⟨h1,h2⟩:=iA ks (n-1) h;rw[x0 ha];simp only[P9,wN];exact⟨⟨J,h1⟩,J⟩
theorem iA:∀(l:List Trm) (n:Nat),0<Ub l n->Q2 l/\qR l+Ub l n=n
 |[],n,h=>by simp only[Q2,qR,Ub];exact⟨trivial,J⟩
 | t::r,n,h=>by
  simp only[Ub]at h|-;split at h
  .omega
  .rename_i hn
   have h3:=O2 h;obtain⟨h1,h2⟩:=iA r _ h;obtain⟨h4,h5⟩:=AA t n J h3;rw[x0 hn];simp only[Q2,qR];exact⟨⟨h4,h1⟩,J⟩
end
mutual
theorem rL:∀(t:Trm) (n:Nat),szW t n<=n
 |.mk k v op m f az ks,n=>by
  simp only[szW];split
  .omega
  .have:=AB ks (n-1);omega
theorem AB:∀(l:List Trm) (n:Nat),Ub l n<=n
 |[],n=>by simp only[Ub];omega
 |t::r,n=>by
  simp only[Ub];split
  .omega
  .have h1:=rL t n;have h2:=AB r (szW t n);omega
end
def Gt:List Fn->Nat->zw
 |[],n=>some n
 |f::r,n=>if n=0 then some 0 else if 30<zM f.ps\/30<(zM f.fr)then none else Gt r (szW f.b n)
def ef(c:Cd):Bool:=match Gt c.fs 150 with
 |none=>false
 |some n=>decide (0<n)&&(decide (zM c.consts<=200)&&decide (zM c.fs<=400))
def eg:∀(l:List Fn) (n m:Nat),0<n->Gt l n=some m->0<m->m<=n/\∀f∈l,zM f.ps<=30/\zM f.fr<=30/\P9 f.b/\wN f.b<=n
 |[],n,m,_,h,_=>by simp only[Gt,x7]at h;subst h;exact⟨zS _,λ_ h=>by cases h⟩
 | f ::r,n,m,hn,h,hm=>by
  simp only[Gt]at h;rw[x0 J]at h;split at h
  .cases h
  .rename_i hl
   have h0:0<szW f.b n:=by
    cases hz:szW f.b n with
    | zero=>
     rw[hz]at h;have:m=0:=by
      cases r with
      |nil=>simp only[Gt,x7]at h;omega
      |cons g r=>simp only[Gt,if_true,x7]at h;omega
     omega
    |succ k=>omega
   obtain⟨h1,h2⟩:=eg r _ m h0 h hm;obtain⟨h3,h4⟩:=AA f.b n hn h0;refine⟨J,λg hg=>?_⟩;rcases List.mem_cons.1 hg with rfl|hg
   .exact⟨J,J,h3,J⟩
   .obtain⟨q1,q2,q3,q4⟩:=h2 g hg;exact⟨q1,q2,q3,J⟩
structure FewC(c:Cd):Prop where
 nf:zM c.fs<=400
 nc:zM c.consts<=200
 fn:∀f∈c.fs,zM f.ps<=30/\zM f.fr<=30/\P9 f.b/\wN f.b<=150
def zwK(h:ef c=true):FewC c:=by
 unfold ef at h;split at h
 .cases h
 .rename_i n hn
  simp only[zP,jm]at h;exact⟨h.2.2,h.2.1,(eg c.fs 150 n J hn h.1).2⟩
def OO(c:Cd):(jP c).length=zM c.fs:=(pO c _).len
def dw{P:Program}{X:World}{c:Cd}(h:uZ P X c=.ofNat 0):uA P X c=.ofNat 0:=by
 unfold uZ at h;cases e:eqD (uA P X c) (.ofNat 0)with
 |false=>rw[e,wh]at h;rw[h]at e;cases e
 |true=>exact eqT.1 e
def zyN{vars:Int}{nc:Nat}{a:Atm}(h:Uj vars (.ofNat nc) a=true):AtO nc a:=by
 unfold Uj at h;unfold AtO;cases h1:eqD a.k (.ofNat 1)with
 |true=>exact .inl (eqT.1 h1)
 | false=>
  cases h2:eqD a.k (.ofNat 2)with
  |false=>rw[h1,h2]at h;simp at h
  |true=>
   rw[h1,h2]at h;cases h3:wu a.n (.ofNat nc)with
   |false=>rw[h3]at h;simp at h
   |true=>exact .inr ⟨eqT.1 h2,jR h3⟩
def zxH{f:Fn}{op n:Int}(hg:ltD (.ofNat 20000) c.globals=false)(hfr:List.length f.fr<=30)(h:wu n (G6 c f op)=true):∃j,n=.ofNat j/\j<30000:=by
 simp only[wu,zP,Bool.not_eq_true']at h;obtain⟨j,rfl⟩:=HD h.1;refine⟨j,rfl,?_⟩;have h2:z6 j<G6 c f op:=of_decide_eq_true h.2;have hg2:c.globals<=z6 20000:=Int.not_lt.1 (of_decide_eq_false hg);have hm:G6 c f op<=z6 20000:=by
  unfold G6;cases eqD op (.ofNat 103)||eqD op (.ofNat 104)with
  |true=>exact hg2
  |false=>
   cases eqD op (.ofNat 105)with
   |true=>exact Int.ofNat_le.2 J
   |false=>exact Int.ofNat_le.2 J
 have:=Int.ofNat_lt.1 (Int.lt_of_lt_of_le h2 hm);omega
mutual
theorem Mp{c:Cd}{f:Fn}(hg:ltD (.ofNat 20000) c.globals=false)(hfr:zM f.fr<=30):∀t:Trm,vD c f t=true->P9 t->GdT (zM c.fs) (zM c.consts) t
 | .mk k v op n fn az ks,h,h3=>by
  simp only[vD,zP]at h;simp only[P9]at h3;obtain⟨h1,h2⟩:=h;simp only[GdT];refine⟨⟨h3.1,λa ha=>?_,?_⟩,sS hg hfr ks h2 h3.2⟩
  .simp only[vY,zP,Trm.atoms]at h1;exact zyN (List.all_eq_true.1 h1.1 a ha)
  .simp only[vY,zP,Trm.atoms,Trm.kind,Trm.var,Trm.op,Trm.num,Trm.fn,Trm.kids]at h1;have h1:=h1.2;cases k1:eqD k (.ofNat 1)with
   |true=>
    rw[k1,x6]at h1;simp only[Qg,Trm.atoms,Trm.op,Trm.num,Trm.fn,Trm.kids,Trm.var,zP]at h1;obtain⟨a1,a2,a3,a4,a5⟩:=h1;exact .inl ⟨eqT.1 k1,eqT.1 a1,zxH hg hfr a2,of_decide_eq_true a4⟩
   | false=>
    rw[k1,wh]at h1;simp only[Z4,zP]at h1;have h1:=h1.2;cases k2:eqD k (.ofNat 2)with
    |true=>
     rw[k2,x6]at h1;simp only[zP,jm]at h1;exact .inr (.inl ⟨eqT.1 k2,jR h1.1.1,h1.2⟩)
    | false=>
     rw[k2,wh]at h1;cases k3:eqD k (.ofNat 3)with
     |true=>
      rw[k3,x6]at h1;simp only[zP,jm]at h1;exact .inr (.inr (.inl ⟨eqT.1 k3,h1.1,h1.2⟩))
     | false=>
      rw[k3,wh]at h1;cases k4:eqD k (.ofNat 4)with
      |true=>
       rw[k4,x6]at h1;simp only[zP,jm]at h1;exact .inr (.inr (.inr (.inl ⟨eqT.1 k4,h1.1⟩)))
      | false=>
       rw[k4,wh]at h1;cases k6:eqD k (.ofNat 6)with
       |true=>
        rw[k6,x6]at h1;simp only[zP,jm]at h1;exact .inr (.inr (.inr (.inr (.inr (.inl ⟨eqT.1 k6,h1.1⟩)))))
       | false=>
        rw[k6,wh]at h1;cases k5:eqD k (.ofNat 5)with
        |true=>
         rw[k5,x6]at h1;simp only[zP,jm]at h1;exact .inr (.inr (.inr (.inr (.inl ⟨eqT.1 k5,jR h1.1.1,by rw[h1.1.2.2];omega⟩))))
        |false=>
         rw[k5,wh]at h1;simp only[zP]at h1;exact .inr (.inr (.inr (.inr (.inr (.inr (eqT.1 h1.1))))))
theorem sS{c:Cd}{f:Fn}(hg:ltD (.ofNat 20000) c.globals=false)(hfr:zM f.fr<=30):∀l:List Trm,uY c f l=true->Q2 l->cu (zM c.fs) (zM c.consts) l
 |[],_,_=>by simp only[cu]
 |t::r,h,h3=>by
  simp only[uY,zP]at h;simp only[Q2]at h3;simp only[cu];exact⟨Mp hg hfr t h.1 h3.1,sS hg hfr r h.2 h3.2⟩
end
def NN{P:Program}{X:World}(hf:FewC c)(h:uZ P X c=.ofNat 0){i:Int}{f:Fn}(hm:f∈c.fs):Lb (List.length c.fs) (List.length c.consts) (i,f):=by
 obtain⟨hw,_,_,hg,_⟩:=kP (dw h);obtain⟨q1,q2,q3,q4⟩:=hf.fn f hm;simp only[ky,zP]at hw;have:=List.all_eq_true.1 hw.2 f hm;simp only[wFn,zP]at this;exact⟨q1,Mp hg q2 f.b this.2.2 q3,q4⟩
def MM:zr:=[12,5]
def LawO(O:Orc):Prop:=∀f∈MM,O f=none
def LawO.no(H:LawO O)(f:Nat)(h:f∈MM:=by decide):O f=none:=H f h
section
variable {O:Orc}(H:LawO O)
include H
def DM:∀(k:Nat) (t:Trm),wN t<=k->SzT t->∀(q:Nat),1<=q->q<=150->∀(L:za) (n m:Nat) (b:Bool),
  cl O 12 [.agg (qq t),q] (KL L n m b)=some (.int .i64 (.ofNat (szW t q)),KL L n m b):=by
 intro k
 induction k with
 |zero=>intro t h;have:=vd t;omega
 | succ k ih=>
  intro t hk hs q hq1 hq2 L n m b;have key:Cv (cl O 12 [.agg (qq t),q] (KL L n m b)) λv t'=>v=.int .i64 (.ofNat (szW t q))/\t'=KL L n m b:=by
   refine vf (F:=f12) (H.no _) rfl rfl (zv4 rfl) ?_;have hsub:vK .i64 (zuU (.ofNat q) (.ofNat 1))=.ofNat (q-1):=by rw[Hz J,YR J]
   obtain⟨R,hR⟩:∃R,szW t q=R:=⟨_,rfl⟩;rw[hR];obtain⟨tk,v,op,num,fn,az,ks⟩:=t;simp only[szW]at hR;simp only[wN]at hk;simp only[SzT]at hs;obtain⟨hs1,hs2,hs3⟩:=hs;simp only[wl];unfold f12 cF;simp only;refine xY ?_;refine xY ?_;by_cases h30:30<zM az
   .rw[wc h30]at hR;subst hR;refine xU (xY ?_);refine ev_zc ?_;exact⟨rfl,rfl⟩
   .rw[x0 h30]at hR;refine xY ?_;refine xU (xU (xX ?_));apply x4;refine wq (λx:Nat×Nat=>zM ks-x.1) (λx fr s=>∃T m',fr=⟨tmL T,[]⟩/\s=KL ((n,some (.row 40 [tk,v,op,num,fn,.lst (zM az) false (xW qO az),.lst (zM ks) false (wS ks)]))::L) (n+1) m' true/\G T 1 x.2/\G T 2 (.ptr n 0)/\G T 5 x.1/\m'%2^n=0/\x.1<=zM ks/\x.2<=150/\R=Ub (ks.drop x.1) x.2) (λx fr s hI=>?_) (0,q-1) ⟨_,_,rfl,rfl,V,sW,sW,by simp,yh _,by simp only;omega,hR.symm⟩
    clear hR hsub;obtain⟨i,p⟩:=x;obtain⟨T,m',rfl,rfl,t1,t2,t5,hm,hi,hp,he⟩:=hI;simp only at t1 t5 hi hp he;rcases wj ks i with ⟨hlt,hd⟩|⟨x,hlt,hd⟩
    .rw[hd]at he;simp only[Ub]at he;subst he;have hni:¬i<zM ks:=J;clear ih;refine xX ?_;refine ev_zc ?_;exact⟨rfl,rfl⟩
    .rw[hd]at he;simp only[Ub]at he;by_cases hp0:p=0
     .subst hp0;rw[wc rfl]at he;subst he;clear ih;refine xX ?_;refine ev_zc ?_;exact⟨rfl,rfl⟩
     .rw[x0 hp0]at he;have hxm:x∈ks:=zv9 (by rw[hd];exact zua)
      have hcall:=ih x (by have:=QQ hxm;omega) (U4 hs3 hxm) p J hp
      have hle:=rL x p;have hp1:0<p:=J;have hc:=Uu hd;generalize szW x p=z at *;clear ih hd;refine xX ?_;exact⟨(i+1,z),⟨_,_,rfl,rfl,V,V,V,hm,by simp only;omega,by simp only;omega,he⟩,by simp only;omega⟩
  obtain⟨v,t',e,rfl,rfl⟩:=key;exact e
def zxq{c:Cd}(hf:List.length c.fs<100000000)(hcn:List.length c.consts<1000000000)(hsz:∀f∈c.fs,List.length f.ps<1000000000/\List.length f.fr<1000000000/\SzT f.b)(L:za)(n m:Nat)(b:Bool):cl O 5 [.agg (qi c)] (KL L n m b)=some (.bool (ef c),KL L n m b):=by
 have key:Cv (cl O 5 [.agg (qi c)] (KL L n m b)) λv t'=>v=.bool (ef c)/\t'=KL L n m b:=by
  refine vf (F:=f5) (H.no _) rfl rfl (zv4 rfl) ?_;obtain⟨R,hR⟩:∃R,ef c=R:=⟨_,rfl⟩;rw[hR];have hsize:=λt hs q h1 h2=>DM H (wN t) t (zS _) hs q h1 h2;obtain⟨fs,main,vars,globals,consts⟩:=c;simp only[ef]at hR;simp only at hf hcn hsz;obtain⟨W,hW⟩:∃W,Gt fs 150=W:=⟨_,rfl⟩;rw[hW]at hR;simp only[qi];unfold f5 cF;simp only;refine xY ?_;refine xY ?_;refine xU (xU (xX ?_));apply x4;refine wq (λx:Nat×Nat=>zM fs-x.1) (λx fr s=>∃T m',fr=⟨tmL T,[]⟩/\s=KL ((n,some (.row 25 [.lst (zM fs) false (xW wD fs),main,vars,globals,.lst (zM consts) false (wy consts)]))::L) (n+1) m' true/\G T 1 (.ptr n 0)/\G T 3 x.2/\G T 4 x.1/\m'%2^n=0/\x.1<=zM fs/\x.2<=150/\W=Gt (fs.drop x.1) x.2) (λx fr s hI=>?_) (0,150) ⟨_,_,rfl,rfl,sW,sW,sW,by simp,yh _,zS _,hW.symm⟩
  clear hW;obtain⟨i,p⟩:=x;obtain⟨T,m',rfl,rfl,t1,t3,t4,hm,hi,hp,he⟩:=hI;simp only at t3 t4 hi hp he;have hfin:∀p:Nat,(match some p with|none=>false|some n=>decide (0<n)&&(decide (zM consts<=200)&&decide (zM fs<=400)))=R->(decide (0<p)&&(decide (zM consts<=200)&&decide (zM fs<=400)))=R:=λ_ h=>h
  rcases wj fs i with ⟨hlt,hd⟩|⟨f,hlt,hd⟩
  .rw[hd]at he;simp only[Gt]at he;rw[he]at hR;have hR:=hfin p hR;have hni:¬i<zM fs:=J;clear hsize he hd hfin hsz;refine xX ?_;by_cases d1:0<p
   .by_cases d2:zM consts<=200
    .by_cases d3:zM fs<=400
     .rw[qp d1,qp d2,qp d3]at hR;subst hR;refine ev_zc ?_;exact⟨rfl,rfl⟩
     .rw[qp d1,qp d2,qb d3]at hR;subst hR;refine ev_zc ?_;exact⟨rfl,rfl⟩
    .rw[qp d1,qb d2]at hR;subst hR;refine ev_zc ?_;exact⟨rfl,rfl⟩
   .rw[qb d1]at hR;subst hR;refine ev_zc ?_;exact⟨rfl,rfl⟩
  .rw[hd]at he;simp only[Gt]at he;by_cases hp0:p=0
   .subst hp0;rw[wc rfl]at he;rw[he]at hR;have hR:=hfin 0 hR;simp only[Nat.lt_irrefl,decide_false,zv7]at hR;subst hR;clear hsize he hd hfin hsz;refine xX ?_;refine ev_zc ?_;exact⟨rfl,rfl⟩
   .rw[x0 hp0]at he;have hfm:f∈fs:=zv9 (by rw[hd];exact zua)
    have hs:=hsize f.b (hsz f hfm).2.2 p J hp;have hle:=rL f.b p;have hp1:0<p:=J;have hdr:=lg hd;have hsf:=hsz f hfm;obtain⟨ps,rest,cont,fr,bb⟩:=f;simp only at he hs hle hsf;generalize szW bb p=z at *;obtain⟨bk,bv,bo,bn,bf,bas,bks⟩:=bb;simp only[wl]at hs;simp only[wD,wl,qd,List.cons_append,zuc]at hdr;clear hsize hd hsz;refine xY ?_;apply xU;apply x4;refine xY ?_;by_cases h30:30<zM ps
    .rw[wc (.inl h30)]at he;rw[he]at hR;subst hR;refine ev_zc ?_;exact⟨rfl,rfl⟩
    .by_cases h31:30<zM fr
     .rw[wc (.inr h31)]at he;rw[he]at hR;subst hR;refine ev_zc ?_;exact⟨rfl,rfl⟩
     .rw[x0 J]at he;refine xX ?_;refine xX ?_;exact⟨(i+1,z),⟨_,_,rfl,rfl,V,V,V,hm,by simp only;omega,by simp only;omega,he⟩,by simp only;omega⟩
 obtain⟨v,t',e,rfl,rfl⟩:=key;exact e
end
end Go.Proofs.YtbdfljdgapkbcaaGreatDoor.Ev

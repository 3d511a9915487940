/- Contracts of functions that IselRight calls: what a call answers, for all data, by symbolic evaluation. No conditions of its own. -/
import Derived.Test.YtbdfljdgapkbcaaGreatDoorWD
set_option linter.unusedSimpArgs false
set_option linter.unusedVariables false
set_option linter.defProp false
set_option maxHeartbeats 4000000
set_option linter.unusedSectionVars false
open List renaming length_cons → zU, length_nil → xd, length_append → yl, length_drop → ziH, mem_cons_self → zi9, length_take → zhp, map_cons → zv, append_nil → ziJ, take_append_drop → zhq, mem_append_left → zhr, mem_of_mem_drop → zi2, filter_cons_of_pos → zhs, mem_cons_of_mem → yR, eq_nil_of_length_eq_zero → yr, mem_cons → ziU, filter_cons_of_neg → zht, mem_of_mem_take → zhu, length → y8
open Nat renaming le_refl → zo, le_of_ble_eq_true → ziF, zero_le → zK, zero_mod → ziS, or_zero → ziV, zero_or → ziW, mul → zb, mul_one → xi, zero_add → yC, lt_succ_self → zV, ble → zd, add → zc
open Bool renaming cond_self → ziQ, and_self → xe
namespace Go.Proofs.YtbdfljdgapkbcaaGreatDoor.Ev
variable {E:Env}{O:Orc}{s:St}{tm:Trie AV}{id n:Nat}
open Nat (reduceEqDiff reduceLeDiff reduceLT reduceAdd reduceMul reduceSub reduceMod reducePow reduceDiv reduceOr reduceShiftLeft reduceGT reduceSucc)
open List (length_cons length_nil length_take length_drop)
open Int (reduceOfNat reduceNegSucc)
open T
set_option maxRecDepth 100000
section
variable {O:Orc}(H:IsO O){K:MK}{e:Bool}{op:List Int}{R B N u:Nat}{L:List (Nat×Option AObj)}{n:Nat}
include H
attribute [local go_sem] ltF gtF xI xH ziS ziW ziV ziQ xW in
theorem zrT{off ed:Nat}{w:AV}{l:List Int}(h:MsO K e op R B N u L n)(hN:N<10000000)(hu:u≤n)(he:ed<R)(hvw:IlV L w l id off)(hid:id<n)(hl:l.length≤40)(hr:∀x∈l,InR R x)(m:Nat):Cv ((evW env O).call 104 [.ptr K.mp 0,w,.int .i64 (.ofNat ed)] (KL L n m false [] none)) (MsQ K false op R B (N+5000) (some u) L n m okR):=by
 refine xO (F:=f104) (H.no _) rfl rfl (ziF rfl) ?_;have hwc:=hvw.cl;have hw:=h.wf;have h0:=fun o1 o2 o3 o4 o5=>h.up (L2:=(n+1+1+1+1,o5)::(n+1+1+1,o4)::(n+1+1,o3)::(n+1,o2)::(n,o1)::L) (n2:=n+1+1+1+1+1) ((((((hw.up oM).same oM).same oM).same oM).same oM).same oM) (Oth.same fun j hj=>by (repeat rw[xr,if_neg oM]))
 have f0:=fun o1 o2 o3 o4 o5=>Fr2.new (m:=m) hw (L2:=(n+1+1+1+1,o5)::(n+1+1+1,o4)::(n+1+1,o3)::(n+1,o2)::(n,o1)::L) fun j hj=>by (repeat rw[xr,if_neg oM])
 unfold f104 cF;simp only;refine xB ?_;refine xz (xz (xK ?_));refine xC (zor H hwc _ false) fun v t hv2=>?_;obtain⟨m2,rfl,rfl,rfl⟩:=hv2;refine xu ?_;refine xE ?_;refine xK ?_;refine zrd (ztJ H (b3:=n) (b5:=n+1) (h0 _ _ _ _ _) oM oM (xG _ _ _) (by (repeat first|exact xG _ _ _|rw[xr,if_neg oM])) (by (repeat first|exact xG _ _ _|rw[xr,if_neg oM])) (by (repeat first|exact xG _ _ _|rw[xr,if_neg oM])) he sW sW (hvw.fr (f0 _ _ _ _ _)) oM hl hr _ false) fun v t hr2=>?_
 obtain⟨L2,n2,m3,R2,B2,ed2,rfl,a2,b2,c2,h2,gl,g5,hed2,f2⟩:=hr2;have gd:=(f2 (n+1+1+1) .dfd (by (repeat first|exact xG _ _ _|rw[xr,if_neg oM])) rfl oM oM).1
 have hw2:=h2.wf;have fy:∀j o,xD L j=some o→zqR o=true→xD L2 j=some o∧m3.testBit j=m2.testBit j:=fun j o h1 hb=>by
  have hj:=hw.lt h1;exact f2 j o (f0 _ _ _ _ _ j o h1 hb).1 hb oM oM
 simp only[Xn,f104]at gl;clear f2 h0 f0;refine xu ?_;refine xB ?_;refine wM (r:=.ret) ?_;show Cv _ _;rw[uv (by (repeat rw[xr,if_neg oM]);exact gd)]
 refine xF ?_;refine⟨_,n2,_,R2,B2,rfl,a2,b2,oM,?_,fun j o h1 hb=>?_,ed2,rfl,hed2⟩
 ·refine(h2.up ((hw2.same oM).same oM) fun j hj=>?_).weak oM;by_cases hj1:j=n+1+1+1
  ·exact .inr ⟨.dfd,by rw[hj1];exact gd,rfl,.inl rfl⟩
  ·by_cases hj2:j=n+1+1+1+1
   ·exact .inr ⟨_,by rw[hj2];exact gl,rfl,.inl rfl⟩
   ·exact .inl (by rw[xr,if_neg hj1,xr,if_neg hj2])
 ·have hj:=hw.lt h1;obtain⟨p1,p2⟩:=fy j o h1 hb;exact⟨by rw[xr,if_neg oM,xr,if_neg oM];exact p1,by rw[qn oM,qn oM];exact p2⟩
end
theorem ztF{L:List (Nat×Option AObj)}{m:Nat}{fx xt:Bool}{out:List Int}{w:Int}{t2:Nat}{x2 f2:Bool}(hne:out≠[])(hx:xt= !fx)(hg:xD L id=some (.row 3 (xA xL out) xt false))(hw:WfA L n)(hb:out.length<1000):
  Cv (vC (KL ((n,some (.row t2 (xL w) x2 f2))::L) (n+1) m false [] none) 3 1 8 (usV id fx out.length) (.sl n 0 1 (.fix 1))) fun v s=>∃L' m',v=usV (n+1) false (out++[w]).length∧s=KL L' (n+1+1) m' false [] none∧xD L' (n+1)=some (.row 3 (xA xL (out++[w])) true false)∧WfA L' (n+1+1)∧(∀j,j<n→j≠id→xD L' j=xD L j∧m'.testBit j=m.testBit j):=by
 have hid:=hw.lt hg;have hfl:xA xL (out++[w])=xA xL out++xL w:=by rw[wj,qO]
 have hg2:(KL ((n,some (.row t2 (xL w) x2 f2))::L) (n+1) m false [] none).get n=some (.row t2 (xL w) x2 f2):=by rw[x5,xG]
 have hg1:(KL ((n,some (.row t2 (xL w) x2 f2))::L) (n+1) m false [] none).get id=some (.row 3 (xA xL out) xt false):=by rw[x5,xr,if_neg oM];exact hg
 have hsr:=(jH (s:=KL ((n,some (.row t2 (xL w) x2 f2))::L) (n+1) m false [] none) (j:=0) (esz:=1) (q:=1) (c:=.fix 1) hg2 rfl);have hlen:(xA xL out).length=out.length*1:=ql qy out;obtain⟨k,hk⟩:∃k,out.length=k+1:=⟨out.length-1,by have:=List.length_pos_iff.2 hne;omega⟩
 cases fx with
 |false=>
  subst hx;rw[QV,hk];refine⟨_,_,Vd (q:=0) (k:=k+1) hg1 (by rw[hlen,hk]) hsr.1 hsr.2 (uZ w) oM oM oM,_,_,?_,rfl,by rw[xG,hfl],(((hw.up oM).same oM).same oM).same oM,fun j hj hji=>⟨by rw[xr,if_neg oM,xr,if_neg hji,xr,if_neg oM],by rw[ZN,qn hji]⟩⟩
  rw[QV,yl,hk];rfl
 | true=>
  subst hx;have hc:cut (xA xL out) 0 (zb (k+1) 1)=some (xA xL out):=by
   rw[QH,show zb (k+1) 1=(xA xL out).length by rw[hlen,hk];rfl];exact wF rfl
  have hle:zd (zc (k+1) 1) (k+1)=false:=by
   cases h:zd (zc (k+1) 1) (k+1)with
   |false=>rfl
   |true=>have h2:=xR.1 h;exact absurd h2 (by show ¬k+1+1≤k+1;omega)
  have he:vC (KL ((n,some (.row t2 (xL w) x2 f2))::L) (n+1) m false [] none) 3 1 8 (usV id true out.length) (.sl n 0 1 (.fix 1))=some (.sl (n+1) 0 (k+1+1) (.opn 1),KL ((n+1,some (.row 3 (xA xL out++xL w) true false))::(n,some (.row t2 (xL w) x2 f2))::L) (n+1+1) m false [] none):=by
   rw[hk];simp only[usV,cond_true,vC,hsr.1,hsr.2,lL,hg1,hle,cond_false,hc];rw[show zc (k+1) (Nat.succ 0)=k+1+1 from rfl,GR oM oM oM];rfl
  refine⟨_,_,he,_,_,?_,rfl,by rw[xG,hfl],((hw.up oM).same oM).same oM,fun j hj _=>⟨by rw[xr,if_neg oM,xr,if_neg oM],rfl⟩⟩
  rw[QV,yl,hk];rfl
open Int renaming reduceOfNat → rO, reduceNegSucc → rN
theorem zpC{id off k a:Nat}(h0:0<a)(h:a<k):ki 1 (.sl id off k (.opn 1)) (some (.int .i64 (.ofNat a))) none none=some (.sl id (off+a) (k-a) (.opn 1)):=by
 have h1:zd a k=true:=xR.2 oM;have h2:Nat.beq a 0=false:=by cases a with
  |zero=>omega
  |succ a=>rfl
 have h3:Nat.blt a k=true:=wi.2 h;simp only[ki,bnd,xT.2 (rfl:1=1),cond_true,h1,h2,h3,cond_false];rw[show zb a 1=a from xi a];rfl
theorem zwu{id off k a:Nat}(h:a≤k):ki 1 (.sl id off k (.opn 1)) none (some (.int .i64 (.ofNat a))) none=some (.sl id off a (.opn 1)):=by
 have h1:zd a k=true:=xR.2 h;simp only[ki,bnd,xT.2 (rfl:1=1),cond_true,h1,xT.2 (rfl:0=0)]
def slT(id off:Nat):Nat→AV
 |0=>.sl0
 |k+1=>.sl id off (k+1) (.opn 1)
def RowI(L:List (Nat×Option AObj))(l:List Int)(id off:Nat):Prop:=l≠[]→∃cs x f,xD L id=some (.row 3 cs x f)∧∀i a r,l.drop i=a::r→xV 1 (wl (off+i) cs)=some [.int .i64 a]
theorem RowI.fr{L L2:List (Nat×Option AObj)}{m m2 off:Nat}{l:List Int}(h:RowI L l id off)(f:Fr2 L m L2 m2):RowI L2 l id off:=fun hne=>by
 obtain⟨cs,x,g,h1,h2⟩:=h hne;exact⟨cs,x,g,(f _ _ h1 rfl).1,h2⟩
theorem RowI.of{L:List (Nat×Option AObj)}{l:List Int}{x f:Bool}(h:l≠[]→xD L id=some (.row 3 (xA xL l) x f)):RowI L l id 0:=fun hne=>⟨_,_,_,h hne,fun i a r hd=>by rw[yC];exact jx hd⟩
theorem RowI.drop{L:List (Nat×Option AObj)}{l:List Int}{off:Nat}(h:RowI L l id off)(k:Nat):RowI L (l.drop k) id (off+k):=fun hne=>by
 obtain⟨cs,x,g,h1,h2⟩:=h fun e=>hne (by rw[e];simp)
 exact⟨cs,x,g,h1,fun i a r hd=>by rw[Nat.add_assoc];exact h2 _ a r (by rw[←List.drop_drop];exact hd)⟩
theorem RowI.take{L:List (Nat×Option AObj)}{l:List Int}{off:Nat}(h:RowI L l id off)(k:Nat):RowI L (l.take k) id off:=fun hne=>by
 obtain⟨cs,x,g,h1,h2⟩:=h fun e=>hne (by rw[e];simp)
 refine⟨cs,x,g,h1,fun i a r hd=>?_⟩;have:l.drop i=a::(l.drop (i+1)):=by
  have hi:i<(l.take k).length:=by
   have:=congrArg y8 hd;simp only[ziH,zU]at this;omega
  have e1:(l.take k)[i]? =some a:=by rw[←List.head?_drop,hd];rfl
  have hi2:i<l.length:=by rw[zhp]at hi;omega
  rw[List.getElem?_take]at e1;split at e1
  ·rw[List.drop_eq_getElem_cons hi2];rw[List.getElem?_eq_getElem hi2,Option.some.injEq]at e1;rw[e1]
  ·cases e1
 exact h2 i a _ this
theorem RowI.sl{L:List (Nat×Option AObj)}{l:List Int}{off k:Nat}{c:Cap}(h:RowI L l id off)(hk:l.length=k):IlV L (.sl id off k c) l id off:=
 ⟨rfl,fun _=>by rw[hk];rfl,fun i hi=>by simp only[vIa,Uq .i64 (hk▸hi)];simp,h⟩
theorem RowI.slT{L:List (Nat×Option AObj)}{l:List Int}{off:Nat}(h:RowI L l id off):IlV L (slT id off l.length) l id off:=by
 cases l with
 |nil=>exact⟨rfl,fun _=>rfl,(fun i hi=>by cases hi),h⟩
 |cons a r=>exact h.sl rfl
theorem zk4{id off k:Nat}(h:6<k):ki 1 (slT id off k) (some (.int .i64 (.ofNat 6))) none none=some (.sl id (off+6) (k-6) (.opn 1)):=by
 cases k with
 |zero=>omega
 |succ k=>exact zpC oM h
theorem zk3{id off k:Nat}:ki 1 (slT id off k) none (some (.int .i64 (.ofNat (min k 6)))) none=some (slT id off (min k 6)):=by
 cases k with
 |zero=>rfl
 |succ k=>
  obtain⟨j,hj⟩:∃j,min (k+1) 6=j+1:=⟨min (k+1) 6-1,oM⟩;rw[hj];exact zwu oM
def zir:List (Nat×Option AObj)→Nat→Nat→AV→Prop:=fun L R _ v=>∃id fx xt ul,v=usV id fx ul.length∧.ofNat 1∈ul∧.ofNat 2∈ul∧(ul.length≤100∧∀x∈ul,InR R x)∧xD L id=some (.row 3 (xA xL ul) xt false)
theorem Wz(id:Nat)(fx:Bool)(k:Nat):(usV id fx k).cells=[usV id fx k]:=by cases k<;>rfl
section
variable {O:Orc}(H:IsO O){K:MK}{e:Bool}{op:List Int}{R B N u:Nat}{L:List (Nat×Option AObj)}{n:Nat}
include H
attribute [local go_sem] Wz zia ltF gtF xI xH ziS ziW ziV ziQ xW in
theorem zxj{f:Nat}{l:List Int}(h:MsO K e op R B N u L n)(hN:N<9000000)(hu:u≤n)(hf:f<R)(hrow:RowI L l id 1)(hid:id<n)(hl:l.length≤40)(hr:∀x∈l,InR R x)(m:Nat):Cv ((evW env O).call 63 [.ptr K.mp 0,.int .i64 (.ofNat f),slT id 1 l.length] (KL L n m false [] none)) (MsQ K false op R B (N+6000) (some u) L n m zir):=by
 refine xO (F:=f63) (H.no _) rfl rfl (ziF rfl) ?_;have hw:=h.wf;have hR0:=h.R0;have hlen:=hrow.slT.len;have hlo:= @zk4 id 1 l.length;have hhi:= @zk3 id 1 l.length;have ht:(l.take 6).length=min l.length 6:=by rw[zhp];omega
 have hlt:=(hrow.take 6).slT.len;rw[ht]at hlt;have h0:=fun o=>h.up (L2:=(n,o)::L) (n2:=n+1) ((hw.up oM).same oM) (Oth.same fun j hj=>by (repeat rw[xr,if_neg oM]))
 have f0:=fun o=>Fr2.new (m:=m) hw (L2:=(n,o)::L) fun j hj=>by (repeat rw[xr,if_neg oM])
 unfold f63 cF;simp only;refine xB ?_;refine xB ?_;refine xB ?_;refine lp (fun fr t=>∃T L2 n2 m2 R2 B2 mo,fr=⟨tmL T,[]⟩∧t=KL L2 n2 m2 false [] none∧(tmL T).get 0=some (.ptr K.mp 0)∧(tmL T).get 1=some (.int .i64 (.ofNat f))∧(tmL T).get 2=some (slT id 1 l.length)∧(tmL T).get 7=some (usV n true 2)∧(tmL T).get 8=some (.int .i64 (.ofNat mo))∧mo<R2∧R≤R2∧B≤B2∧n+1≤n2∧MsO K false op R2 B2 (N+5002) u L2 n2∧xD L2 n=some (.row 3 (xA xL [.ofNat 1,.ofNat 2]) false false)∧Fr2 L m L2 m2) ?_ fun fr t hI=>?_
 ·by_cases h6:6<l.length
  ·have hlo:=hlo h6;have hd6:(l.drop 6).length=l.length-6:=ziH;refine xz (xu ?_);refine x4 sV ?_;refine xK ?_;refine wh (pT H (h0 _) oM _) fun v t hv=>?_;obtain⟨L1,n1,m1,R1,B1,rfl,a1,b1,c1,h1,f1,r1,rfl,e1⟩:=hv;have f01:=(f0 _).or f1;have g1:=(f1 n _ (xG _ _ _) rfl).1;refine xK ?_;refine wh (zrT H h1 oM (show u≤n1 by omega) e1 (((hrow.drop 6).fr f01).sl hd6) oM oM (fun x hx=>(hr x (zi2 hx)).mono a1) _) fun v t hv=>?_
   obtain⟨L2,n2,m2,R2,B2,rfl,a2,b2,c2,h2,f2,r2,rfl,e2⟩:=hv;have g2:=(f2 n _ g1 rfl).1;refine xu ?_;exact⟨_,L2,n2,_,R2,B2,r2,rfl,rfl,sW,sW,sW,by simp (disch:=first|exact dis|fail)only[go_sem,seval,-rO,-rN,usV],sW,e2,oM,oM,oM,h2.weak oM,g2,f01.or f2⟩
  ·refine xz (xu ?_);refine x7 sV ?_;refine xu ?_;exact⟨_,_,_,_,R,B,0,rfl,rfl,sW,sW,sW,by simp (disch:=first|exact dis|fail)only[go_sem,seval,-rO,-rN,usV],sW,oM,zo _,zo _,zo _,(h0 _).weak oM,xG _ _ _,f0 _⟩
 ·clear h0 f0 h;obtain⟨T,L2,n2,m2,R2,B2,mo,rfl,rfl,t0,t1,t2,t7,t8,hmo,hR,hB,hn,h2,g2,f2⟩:=hI;refine xz (xz (xu ?_));refine xE ?_;refine xU (fun i:Nat=>l.length-i) (fun i f' t=>∃T L3 n3 m3 R3 B3 oid fx xt ul,f'=⟨tmL T,[]⟩∧t=KL L3 n3 m3 false [] none∧(tmL T).get 0=some (.ptr K.mp 0)∧(tmL T).get 1=some (.int .i64 (.ofNat f))∧(tmL T).get 2=some (slT id 1 l.length)∧(tmL T).get 7=some (usV oid fx ul.length)∧(tmL T).get 8=some (.int .i64 (.ofNat mo))∧(tmL T).get 25=some (slT id 1 (min l.length 6))∧(tmL T).get 26=some (.int .i64 (.ofNat (min l.length 6)))∧(tmL T).get 27=some (.int .i64 (.ofNat i))∧i≤min l.length 6∧R2≤R3∧B≤B3∧n+1≤n3∧MsO K false op R3 B3 (N+5002+i) u L3 n3∧Fr2 L m L3 m3∧xt=(!fx)∧n≤oid∧xD L3 oid=some (.row 3 (xA xL ul) xt false)∧ul.length=i+2∧.ofNat 1∈ul∧.ofNat 2∈ul∧(∀x∈ul,InR 33 x)) (fun i f' t hI=>?_) 0 ⟨_,L2,n2,_,R2,B2,n,true,false,[.ofNat 1,.ofNat 2],rfl,rfl,sV,sV,sV,by simp (disch:=first|exact dis|fail)only[go_sem,seval,-rO,-rN, *,zU,xd],sV,sV,sV,sV,zK _,zo _,hB,hn,h2,f2,rfl,zo _,g2,rfl,by simp,by simp,fun x hx=>by
   simp only[ziU,List.not_mem_nil,or_false]at hx;rcases hx with rfl|rfl<;>exact inR oM⟩
  clear h2 g2 f2 t0 t1 t2 t7 t8 T;obtain⟨T,L3,n3,m3,R3,B3,oid,fx,xt,ul,rfl,rfl,t0,t1,t2,t7,t8,t25,t26,t27,hi,hR3,hB3,hn3,h3,f3,hxt,hoid,go,hul,u1,u2,hur⟩:=hI;replace hul:ul.length≤i+2∧i+2≤ul.length:=oM;have hw3:=h3.wf;rcases xQ (l.take 6) i with ⟨hlt2,hd2⟩|⟨a,hlt2,hd2⟩
  ·have hni:¬i<min l.length 6:=oM;clear hd2 hlt2;refine xu ?_;refine lp (fun fr t=>∃T L4 n4 m4 R4 B4 oid fx xt ul,fr=⟨tmL T,[]⟩∧t=KL L4 n4 m4 false [] none∧(tmL T).get 0=some (.ptr K.mp 0)∧(tmL T).get 1=some (.int .i64 (.ofNat f))∧(tmL T).get 2=some (slT id 1 l.length)∧(tmL T).get 7=some (usV oid fx ul.length)∧R3≤R4∧B≤B4∧n+1≤n4∧MsO K false op R4 B4 (N+5010) u L4 n4∧Fr2 L m L4 m4∧xD L4 oid=some (.row 3 (xA xL ul) xt false)∧.ofNat 1∈ul∧.ofNat 2∈ul∧(ul.length≤100∧∀x∈ul,InR 33 x)) ?_ fun fr t hI=>?_
   ·by_cases h6:6<l.length
    ·refine xz (xu ?_);refine x4 sV ?_;refine xz (xK ?_);refine xC (uy H h3 oM (show 10<R3 by omega) (show mo<R3 by omega) _) fun v t hv=>?_
     obtain⟨L4,n4,m4,R4,B4,rfl,a4,b4,c4,h4,f4,_⟩:=hv;have g4:=(f4 _ _ go rfl).1;have hw4:=h4.wf;have hun:ul≠[]:=fun e=>by rw[e]at u1;cases u1
     clear go h3;refine xu ?_;refine xK ?_;refine xC (ztF (w:=.ofNat 10) hun hxt g4 hw4 oM) fun v t hv=>?_;obtain⟨L7,m7,rfl,rfl,g7,hw7,hf7⟩:=hv;obtain⟨h7,f7⟩:=h4.own (out:=ul) (lo:=n) (m3:=m4) hw7 hu (fun _=>⟨hoid,_,_,_,g4⟩) fun j hj hne=>hf7 j hj (hne hun);have f8:=f7 _ _ (f3.trans f4) hw;clear hf7 g4 f7 hw4;refine xu ?_;exact⟨_,L7,_,_,R4,B4,n4+1,false,true,ul++[.ofNat 10],rfl,rfl,sV,sV,sV,sV,oM,oM,oM,h7.weak oM,f8,g7,zhr _ u1,zhr _ u2,by rw[yl,zU,xd];omega,fun x hx=>(List.mem_append.1 hx).elim (hur x) fun h=>by rw[List.mem_singleton.1 h];exact inR oM⟩
    ·refine xz (xu ?_);refine x7 sV ?_;refine xu ?_;exact⟨_,L3,n3,_,R3,B3,oid,fx,xt,ul,rfl,rfl,sV,sV,sV,sV,zo _,hB3,hn3,h3.weak oM,f3,go,u1,u2,oM,hur⟩
   ·clear h3 f3 go t0 t1 t2 t7 t8 t25 t26 t27 T u1 u2 hur hul hxt hoid hw3;obtain⟨T,L4,n4,m4,R4,B4,oid,fx,xt,ul,rfl,rfl,t0,t1,t2,t7,a4,b4,c4,h4,f4,go,u1,u2,hur⟩:=hI;refine xz (xK ?_);refine xC (uy H h4 oM (show 1<R4 by omega) (show f<R4 by omega) _) fun v t hv=>?_
    obtain⟨L5,n5,m5,R5,B5,rfl,a5,b5,c5,h5,f5,_⟩:=hv;have g5:=(f5 _ _ go rfl).1;refine xu ?_;refine xz (xK ?_);refine xC (jp H h5 oM (show 2<R5 by omega) _) fun v t hv=>?_
    obtain⟨L6,n6,m6,R6,B6,rfl,a6,b6,c6,h6,f6,_⟩:=hv;have g6:=(f6 _ _ g5 rfl).1;clear go g5;refine xu ?_;refine xB ?_;refine xu ?_;refine xF ?_;exact⟨L6,n6,_,R6,B6,rfl,oM,oM,oM,h6.weak oM,f4.trans (f5.trans f6),oid,fx,xt,ul,rfl,u1,u2,⟨hur.1,fun x hx=>(hur.2 x hx).mono oM⟩,g6⟩
  ·have hlt3:i<min l.length 6:=oM;obtain⟨cs,x,g,hgc,hcs⟩:=((hrow.take 6).fr f3) fun e=>by rw[e]at hlt2;simp at hlt2
   have hc:=hcs i a _ hd2;have hia2:=(hrow.take 6).slT.ia i hlt2;rw[ht]at hia2;obtain⟨ra,rfl,hra⟩:=hr a (zhu (zi2 (by rw[hd2];exact zi9)))
   clear hd2 hcs;refine xB ?_;refine xz (x4 sW ?_);refine xu ?_;refine xz (xE ?_);refine xB ?_;refine xz (xK ?_);refine xC (uy H h3 oM (show 4+i<R3 by omega) (show ra<R3 by omega) _) fun v t hv=>?_
   obtain⟨L4,n4,m4,R4,B4,rfl,a4,b4,c4,h4,f4,_⟩:=hv;have g4:=(f4 _ _ go rfl).1;have hw4:=h4.wf;have hun:ul≠[]:=fun e=>by rw[e]at u1;cases u1
   clear go h3 hc hgc;refine xu ?_;refine xK ?_;refine xC (ztF (w:=.ofNat (4+i)) hun hxt g4 hw4 oM) fun v t hv=>?_;obtain⟨L7,m7,rfl,rfl,g7,hw7,hf7⟩:=hv;obtain⟨h7,f7⟩:=h4.own (out:=ul) (lo:=n) (m3:=m4) hw7 hu (fun _=>⟨hoid,_,_,_,g4⟩) fun j hj hne=>hf7 j hj (hne hun);have f8:=f7 _ _ (f3.trans f4) hw;clear hf7 g4 f7 hw4;refine xu ?_;refine xu ?_;exact⟨i+1,⟨_,L7,_,_,R4,B4,n4+1,false,true,ul++[.ofNat (4+i)],rfl,rfl,sV,sV,sV,sV,sV,sV,sV,sV,oM,oM,oM,oM,h7.weak oM,f8,rfl,oM,g7,by rw[yl,zU,xd];omega,zhr _ u1,zhr _ u2,fun x hx=>(List.mem_append.1 hx).elim (hur x) fun h=>by rw[List.mem_singleton.1 h];exact inR oM⟩,oM⟩
end
section
variable {O:Orc}(H:IsO O){K:MK}{e:Bool}{op:List Int}{R B N u:Nat}{L:List (Nat×Option AObj)}{n:Nat}
include H
attribute [local go_sem] Wz ww wD ltF gtF xI xH ziS ziW ziV ziQ xW in
theorem ztH{p:Nat}{l:List Int}(h:MsO K e op R B N u L n)(hN:N<9000000)(hu:u≤n)(hrow:RowI L l id 0)(hp:l.length=p+2)(hl:l.length≤30)(hr:∀x∈l,InR R x)(m:Nat):Cv ((evW env O).call 64 [.ptr K.mp 0,gSl 1 id l.length] (KL L n m false [] none)) (MsQ K true op R B (N+60) none L n m okU):=by
 refine xO (F:=f64) (H.no _) rfl rfl (ziF rfl) ?_;have hw:=h.wf;have hR0:=h.R0;have hsl:gSl 1 id l.length=.sl id 0 (p+2) (.opn 1):=by rw[hp];rfl
 have hhi:= @zwu id 0 (p+2) (p+1) oM;have ht:(l.take (p+1)).length=p+1:=by rw[zhp];omega
 have hs1:qJ .i64 (Int.sub (.ofNat (p+2)) (.ofNat 1))=.ofNat (p+1):=by rw[Wt oM,gq oM];rfl
 have hs2:qJ .i64 (Int.sub (.ofNat (p+1)) (.ofNat 1))=.ofNat p:=by rw[Wt oM,gq oM];rfl
 have hia3:vIa 1 (.sl id 0 (p+2) (.opn 1)) (.int .i64 (.ofNat (p+1)))=some (.ptr id (p+1)):=by
  have:=(hrow.sl (c:=.opn 1) hp).ia (p+1) oM
  rwa [yC]at this
 obtain⟨z,hz⟩:∃z,l.drop (p+1)=[z]:=by
  rcases hd:l.drop (p+1)with _|⟨z,r⟩
  ·have:=congrArg y8 hd;simp only[ziH,xd]at this;omega
  ·have:=congrArg y8 hd;simp only[ziH,zU]at this;have hr0:r=[]:=yr oM;exact⟨z,by rw[hr0]⟩
 obtain⟨rz,rfl,hrz⟩:=hr z (zi2 (by rw[hz];exact zi9))
 have h0:=fun o=>h.up (L2:=(n,o)::L) (n2:=n+1) ((hw.up oM).same oM) (Oth.same fun j hj=>by (repeat rw[xr,if_neg oM]))
 have f0:=fun o=>Fr2.new (m:=m) hw (L2:=(n,o)::L) fun j hj=>by (repeat rw[xr,if_neg oM])
 rw[hsl];clear hsl h;unfold f64 cF;simp only;refine xB ?_;refine xB ?_;refine xz (xz (xu ?_));refine xE ?_;refine xU (fun i:Nat=>p+1-i) (fun i f' t=>∃T L3 n3 m3 R3 B3 oid fx xt ul,f'=⟨tmL T,[]⟩∧t=KL L3 n3 m3 false [] none∧(tmL T).get 0=some (.ptr K.mp 0)∧(tmL T).get 1=some (.sl id 0 (p+2) (.opn 1))∧(tmL T).get 4=some (.int .i64 (.ofNat (p+1)))∧(tmL T).get 5=some (usV oid fx ul.length)∧(tmL T).get 14=some (.sl id 0 (p+1) (.opn 1))∧(tmL T).get 15=some (.int .i64 (.ofNat (p+1)))∧(tmL T).get 16=some (.int .i64 (.ofNat i))∧i≤p+1∧R≤R3∧B≤B3∧n+1≤n3∧MsO K false op R3 B3 (N+i) u L3 n3∧Fr2 L m L3 m3∧xt=(!fx)∧n≤oid∧xD L3 oid=some (.row 3 (xA xL ul) xt false)∧ul.length=i+2∧(∀x∈ul,InR 33 x)) (fun i f' t hI=>?_) 0 ⟨_,_,_,_,R,B,n,true,false,[.ofNat 2,.ofNat 10],rfl,rfl,sV,sV,sV,by simp (disch:=first|exact dis|fail)only[go_sem,seval,-rO,-rN, *,zU,xd,usV,cond_true],sV,sV,sV,zK _,zo _,zo _,zo _,(h0 _).weak oM,f0 _,rfl,zo _,xG _ _ _,rfl,fun x hx=>by
  simp only[ziU,List.not_mem_nil,or_false]at hx;rcases hx with rfl|rfl<;>exact inR oM⟩
 clear h0 f0;obtain⟨T,L3,n3,m3,R3,B3,oid,fx,xt,ul,rfl,rfl,t0,t1,t4,t5,t14,t15,t16,hi,hR3,hB3,hn3,h3,f3,hxt,hoid,go,hul,hur⟩:=hI;replace hul:ul.length≤i+2∧i+2≤ul.length:=oM;have hun:ul≠[]:=fun e=>by rw[e]at hul;simp at hul
 have hw3:=h3.wf;rcases xQ (l.take (p+1)) i with ⟨hlt2,hd2⟩|⟨a,hlt2,hd2⟩
 ·have hni:¬i<p+1:=oM;obtain⟨cs,x,g,hgc,hcs⟩:=(hrow.fr f3) fun e=>by rw[e]at hp;cases hp
  have hc:=hcs (p+1) _ _ hz;rw[yC]at hc;clear hd2 hlt2 hcs;refine xu ?_;refine xz (xK ?_);refine xC (uy H h3 oM (show 10<R3 by omega) (show rz<R3 by omega) _) fun v t hv=>?_
  obtain⟨L4,n4,m4,R4,B4,rfl,a4,b4,c4,h4,f4,_⟩:=hv;have g4:=(f4 _ _ go rfl).1;clear go hgc h3;refine xu ?_;refine xz (xK ?_);refine xC (jp H h4 oM (show 2<R4 by omega) _) fun v t hv=>?_
  obtain⟨L5,n5,m5,R5,B5,rfl,a5,b5,c5,h5,f5,_⟩:=hv;have g5:=(f5 _ _ g4 rfl).1;have hsc:q8 (usV oid fx ul.length)=true:=by cases ul.length<;>rfl
  simp only[q8]at hsc;clear g4;refine xu ?_;refine xK ?_;refine xC (QP H h5 oM (e2:=true) (q:=.ofNat 72) (d:=.ofNat 0) (i:=.ofNat 102) (l:=.ofNat 0) (.leave (by simp)) (inR oM) ⟨oM,fun x hx=>(hur x hx).mono oM⟩ (fun _=>⟨_,g5⟩) (by simp) (fun _=>.inr rfl) _) fun v t hv=>?_
  obtain⟨L6,n6,m6,R6,B6,rfl,a6,b6,c6,h6,f6,_⟩:=hv;refine xu ?_;refine xF ?_;exact⟨L6,n6,_,R6,B6,rfl,oM,oM,oM,h6.more oM,f3.trans (f4.trans (f5.trans f6)),trivial⟩
 ·have hlt3:i<p+1:=oM;obtain⟨cs,x,g,hgc,hcs⟩:=((hrow.take (p+1)).fr f3) fun e=>by rw[e]at hlt2;simp at hlt2
  have hc:=hcs i a _ hd2;have hia2:=((hrow.take (p+1)).sl (c:=.opn 1) ht).ia i hlt2;rw[yC]at hc hia2;obtain⟨ra,rfl,hra⟩:=hr a (zhu (zi2 (by rw[hd2];exact zi9)))
  clear hd2 hcs;refine xB ?_;refine xz (x4 sW ?_);refine xu ?_;refine xz (xE ?_);refine xB ?_;refine xz (xK ?_);refine xC (uy H h3 oM (show 4+i<R3 by omega) (show ra<R3 by omega) _) fun v t hv=>?_
  obtain⟨L4,n4,m4,R4,B4,rfl,a4,b4,c4,h4,f4,_⟩:=hv;have g4:=(f4 _ _ go rfl).1;have hw4:=h4.wf;clear go h3 hc hgc;refine xu ?_;refine xK ?_;refine xC (ztF (w:=.ofNat (4+i)) hun hxt g4 hw4 oM) fun v t hv=>?_;obtain⟨L7,m7,rfl,rfl,g7,hw7,hf7⟩:=hv;obtain⟨h7,f7⟩:=h4.own (out:=ul) (lo:=n) (m3:=m4) hw7 hu (fun _=>⟨hoid,_,_,_,g4⟩) fun j hj hne=>hf7 j hj (hne hun);have f8:=f7 _ _ (f3.trans f4) hw;clear hf7 g4 f7 hw4;refine xu ?_;refine xu ?_;exact⟨i+1,⟨_,L7,_,_,R4,B4,n4+1,false,true,ul++[.ofNat (4+i)],rfl,rfl,sV,sV,sV,sV,sV,sV,sV,oM,oM,oM,oM,h7.weak oM,f8,rfl,oM,g7,by rw[yl,zU,xd];omega,fun x hx=>(List.mem_append.1 hx).elim (hur x) fun h=>by rw[List.mem_singleton.1 h];exact inR oM⟩,oM⟩
end
theorem QF{L:List (Nat×Option AObj)}{n m id:Nat}{a b:List Int}{z:List AV}{y:AV}(g:xD L id=some (.row 3 (xA xL a++z) true false))(hz:b.length≤z.length)(h1:uJ y=some b.length)(h2:b≠[]→wS (KL L n m false [] none) 1 b.length y=some (xA xL b)):Cv (vC (KL L n m false [] none) 3 1 8 (.sl id 0 a.length (.opn 1)) y) fun v t=>v=.sl id 0 (a++b).length (.opn 1)∧∃L2 m2,t=KL L2 n m2 false [] none∧xD L2 id=some (.row 3 (xA xL (a++b)++z.drop b.length) true false)∧∀j,j≠id→xD L2 j=xD L j∧m2.testBit j=m.testBit j:=by
 cases b with
 |nil=>exact⟨.sl id 0 a.length (.opn 1),KL L n m false [] none,by simp only[vC,h1,xd];rfl,by rw[ziJ],L,m,rfl,by rw[ziJ];exact g,fun _ _=>⟨rfl,rfl⟩⟩
 | cons x r=>
  have h2:=h2 (by simp)
  have hl:∀l:List Int,(xA xL l).length=l.length:=fun l=>by rw[ql qy];exact xi _
  have hp:vN (xA xL a++z) (0+a.length*1) (xA xL (x::r))=some (xA xL a++(xA xL (x::r)++z.drop (x::r).length)):=by
   have:=Wn (a:=xA xL a) (b:=z.take (x::r).length) (c:=z.drop (x::r).length) (v:=xA xL (x::r)) (off:=0+a.length*1) (by rw[hl];omega) (by rw[hl,zhp];omega)
   rwa [zhq]at this
  have hst:=UT (KL L n m false [] none) id (0+a.length*1) (xA xL (x::r)) 3 _ _ true (by rw[x5];exact g) (l7 uZ _) hp
  rw[uX]at hst;have e1:zd (zc 0 (zb (zc a.length (Nat.succ r.length)) 1)) (wY (xA xL a++z))=true:=by
   rw[xR,wE,yl,hl];simp only[zU]at hz;show 0+(a.length+(r.length+1))*1≤_;omega
  have happ:vC (KL L n m false [] none) 3 1 8 (.sl id 0 a.length (.opn 1)) y=some (.sl id 0 (a.length+(r.length+1)) (.opn 1),KL ((id,some (.row 3 (xA xL a++(xA xL (x::r)++z.drop (x::r).length)) true false))::L) n (uG m id) false [] none):=by
   unfold vC;simp only[h1,zU]at h2⊢;rw[h2];simp only[lL,x5,g];have e2:(Nat.beq 1 1&&true&& !false)=true:=rfl;rw[e2,cond_true,e1,cond_true];show (match ur (KL L n m false [] none) (.ptr id (0+a.length*1)) (xA xL (x::r))with
    |some s'=>some (AV.sl id 0 (zc a.length (Nat.succ r.length)) (.opn 1),s')
    |none=>none)=_
   rw[hst];rfl
  refine⟨_,_,happ,by rw[yl,zU],_,_,rfl,?_,fun j hj=>⟨by rw[xr,if_neg hj],by rw[ZN,qn hj]⟩⟩
  rw[xG,wj,List.append_assoc]
section
variable {O:Orc}(H:IsO O){L:List (Nat×Option AObj)}{n:Nat}
include H
attribute [local go_sem] ww ltF gtF xI xH ziS ziW ziV ziQ xW in
theorem zzJ{q c1:Nat}{cd:Int}{l:List Int}{x f x1 f1 x2 f2:Bool}(g0:xD L q=some (.row 36 [.sl c1 0 1 (.fix 1),gSl 1 id l.length] x f))(g1:xD L c1=some (.row 3 (xL cd) x1 f1))(g2:l≠[]→xD L id=some (.row 3 (xA xL l) x2 f2))(hw:WfA L n)(hl:l.length≤40)(m:Nat):Cv ((evW env O).call 20 [.sl q 0 2 (.fix 2)] (KL L n m false [] none)) fun v t=>∃L2 m2,v=gSl 1 n (cd::l).length∧t=KL L2 (n+1) m2 false [] none∧WfA L2 (n+1)∧xD L2 n=some (.row 3 (xA xL (cd::l)) true false)∧∀j,j<n→xD L2 j=xD L j∧m2.testBit j=m.testBit j:=by
 refine xO (F:=f20) (H.no _) rfl rfl (ziF rfl) ?_;have hq:=hw.lt g0;have h1n:=hw.lt g1;unfold f20 cF;simp only;refine xB ?_;refine xB ?_;refine xz (xz (xu ?_));refine xE ?_;refine xU (fun i:Nat=>2-i) (fun i f t=>∃T,f=⟨tmL T,[]⟩∧t=KL L n m false [] none∧(tmL T).get 0=some (.sl q 0 2 (.fix 2))∧(tmL T).get 3=some (.int .i64 (.ofNat (two [cd] l i)))∧(tmL T).get 9=some (.sl q 0 2 (.fix 2))∧(tmL T).get 10=some (.int .i64 (.ofNat 2))∧(tmL T).get 11=some (.int .i64 (.ofNat i))∧i≤2) (fun i f t hI=>?_) 0 ⟨_,rfl,rfl,sW,by simp (disch:=first|exact dis|fail)only[go_sem,seval,-rO,-rN,two],sW,sW,sW,zK _⟩
 obtain⟨T,rfl,rfl,t0,t3,t9,t10,t11,hi⟩:=hI
 match i,hi with
 |0,_=>
  simp only[two]at t3;refine xu ?_;refine⟨1,⟨_,rfl,trivial,sV,by simp (disch:=first|exact dis|fail)only[go_sem,seval,-rO,-rN,two,zU,xd],sV,sV,sV,oM⟩,oM⟩
 |1,_=>
  simp only[two,zU,xd]at t3;refine xu ?_;refine⟨2,⟨_,rfl,trivial,sV,by simp (disch:=first|exact dis|fail)only[go_sem,seval,-rO,-rN,two,zU,xd],sV,sV,sV,oM⟩,oM⟩
 | 2,_=>
  simp only[two,zU,xd]at t3;have hg:=GQ (H.no _) l.length oM L n m false;rw[show 0+1+l.length=l.length+1 by omega]at t3
  refine xu ?_;refine xB ?_;refine xz (xz (xu ?_));refine xE ?_;refine xU (fun i:Nat=>2-i) (fun i f t=>∃T L2 m2 z,f=⟨tmL T,[]⟩∧t=KL L2 (n+1) m2 false [] none∧(tmL T).get 6=some (.sl n 0 (vZ [cd] l i).length (.opn 1))∧(tmL T).get 25=some (.sl q 0 2 (.fix 2))∧(tmL T).get 26=some (.int .i64 (.ofNat 2))∧(tmL T).get 27=some (.int .i64 (.ofNat i))∧i≤2∧WfA L2 (n+1)∧xD L2 n=some (.row 3 (xA xL (vZ [cd] l i)++z) true false)∧(vZ [cd] l i).length+z.length=1+l.length∧∀j,j<n→xD L2 j=xD L j∧m2.testBit j=m.testBit j) (fun i f t hI=>?_) 0 ⟨_,_,_,reps (l.length+1) [.int .i64 (.ofNat 0)],rfl,rfl,by simp (disch:=first|exact dis|fail)only[go_sem,seval,-rO,-rN,vZ],sW,sW,sW,zK _,(hw.up (Nat.le_succ _)).same (zV _),by rw[xG];rfl,?_,fun j hj=>⟨by rw[xr,if_neg oM],rfl⟩⟩
  ·clear hg t0 t3 t9 t10 t11;obtain⟨T,L2,m2,z,rfl,rfl,t6,t9,t10,t11,hi,hw2,gr,hz,hfr⟩:=hI;have g02:=(hfr q hq).1.trans g0;have g12:=(hfr c1 h1n).1.trans g1
   match i,hi with
   |0,_=>
    simp only[vZ,xd,xA,List.nil_append,yC]at t6 gr hz;have hap:=fun m=> @QF L2 (n+1) m n [] [cd] z _ gr (by simp only[zU,xd];omega) rfl fun _=>(jH (s:=KL L2 (n+1) m false [] none) (j:=0) (esz:=1) (q:=1) (c:=.fix 1) (by rw[x5];exact g12) rfl).2
    simp only[xd,List.nil_append]at hap;clear g12;refine xB ?_;refine xz (x4 sW ?_);refine xu ?_;refine xz (xE ?_);refine xB ?_;refine xK ?_;refine xC (hap _) fun v t hv=>?_;obtain⟨rfl,L3,m3,rfl,g3,hf3⟩:=hv;have hw3:WfA L3 (n+1):=fun j hj=>(hf3 j oM).1.trans (hw2 j hj);clear hap gr;refine xu ?_;refine xu ?_;refine⟨1,⟨_,L3,_,z.drop 1,rfl,rfl,by simp (disch:=first|exact dis|fail)only[go_sem,seval,-rO,-rN, *,vZ],sV,sV,sV,oM,hw3,g3,by simp only[vZ,ziH,zU,xd];omega,fun j hj=>⟨(hf3 j oM).1.trans (hfr j hj).1,(hf3 j oM).2.trans (hfr j hj).2⟩⟩,oM⟩
   | 1,_=>
    simp only[vZ]at t6 gr hz;have hsrc:∀m,l≠[]→wS (KL L2 (n+1) m false [] none) 1 l.length (gSl 1 id l.length)=some (xA xL l):=fun m hne=>by
     have g:=(hfr id (hw.lt (g2 hne))).1.trans (g2 hne);cases l with
     |nil=>exact absurd rfl hne
     |cons a r=>exact(jH (s:=KL L2 (n+1) m false [] none) (j:=0) (by rw[x5];exact g) (ql qy _)).2
    have hap:=fun m=> @QF L2 (n+1) m n [cd] l z (gSl 1 id l.length) gr (by simp only[zU,xd]at hz;omega) (znF 1 id _) (hsrc m)
    clear g12 hsrc;refine xB ?_;refine xz (x4 sW ?_);refine xu ?_;refine xz (xE ?_);refine xB ?_;refine xK ?_;refine xC (hap _) fun v t hv=>?_;obtain⟨rfl,L3,m3,rfl,g3,hf3⟩:=hv;have hw3:WfA L3 (n+1):=fun j hj=>(hf3 j oM).1.trans (hw2 j hj);clear hap gr;refine xu ?_;refine xu ?_;refine⟨2,⟨_,L3,_,z.drop l.length,rfl,rfl,by simp (disch:=first|exact dis|fail)only[go_sem,seval,-rO,-rN, *,vZ],sV,sV,sV,oM,hw3,g3,(by simp only[zU,xd]at hz;simp only[vZ,ziH,yl,zU,xd];omega),fun j hj=>⟨(hf3 j oM).1.trans (hfr j hj).1,(hf3 j oM).2.trans (hfr j hj).2⟩⟩,oM⟩
   |2,_=>
    simp only[vZ,yl,zU,xd]at t6 gr hz;have hz0:z=[]:=yr oM;subst hz0;rw[ziJ]at gr;clear g02 g12;refine xu ?_;refine xu ?_;refine xF ?_;refine⟨L2,m2,?_,rfl,hw2,gr,hfr⟩;rw[show 0+1+l.length=l.length+1 by omega];rfl
  ·simp only[vZ,xd,yC];rw[j5];simp only[zU,xd];omega
end
section
variable {E:Env}{O:Orc}{Q:Res→Fr→St→Prop}{R:AV→St→Prop}{U:Option (AV×St)}
theorem zkk{l:List DOper}{o:SOper}{df:List Nat}{ops:List SOper}{d:Option Nat}(hc:Cv U R)(h:∀v t,R v t→Ev (rtS E (evW E O) l o df s (evS E (evW E O) ops (qC tm d v) t)) Q):Ev (rtS E (evW E O) l o df s (zxm (stS tm d U) (evS E (evW E O) ops))) Q:=by
 obtain⟨v,t,rfl,q⟩:=hc;exact h v t q
theorem zkl{l:List DOper}{df:List Nat}{d:Option Nat}(hc:Cv U R)(h:∀v t,R v t→Ev (rtE E l d tm df s (some (v,t))) Q):Ev (rtE E l d tm df s U) Q:=by
 obtain⟨v,t,rfl,q⟩:=hc;exact h v t q
end
mutual
def GdT(nf nc:Nat):Trm→Prop
 |.mk k _ q g f az ks=>(az.length≤30∧(∀a∈az,AtO nc a)∧((k=.ofNat 1∧gh q=.ofNat az.length∧(∃j,g=.ofNat j∧j<30000)∧ks.length=1)∨(k=.ofNat 2∧(∃j,f=.ofNat j∧j<nf)∧ks.length=1)∨(k=.ofNat 3∧az.length=1∧ks.length=2)∨(k=.ofNat 4∧1≤az.length)∨(k=.ofNat 5∧(∃j,f=.ofNat j∧j<nf)∧1≤az.length)∨(k=.ofNat 6∧2≤az.length)∨k=.ofNat 7))∧Ho nf nc ks
def Ho(nf nc:Nat):List Trm→Prop
 |[]=>True
 |x::r=>GdT nf nc x∧Ho nf nc r
end
theorem zy8{q:Int}(h:ltD q (.ofNat 100)=true):gh q=uQ q:=by
 have hq:q<100:=by simpa [ltD]using h
 have e:∀k:Nat,100≤k→eqD q (.ofNat k)=false:=fun k hk=>by
  cases hb:eqD q (.ofNat k)with
  |false=>rfl
  |true=>have:=eqT.1 hb;rw[this]at hq;have:(k:Int)<100:=hq;omega
 unfold gh;simp only[e 103 oM,e 105 oM,e 106 oM,e 100 oM,e 101 oM,e 104 oM,e 102 oM,Bool.or_false,cond_false]
theorem zwt{k:Nat}(h:1≤k):ki 1 (gSl 1 id k) (some (.int .i64 (.ofNat 1))) none none=some (slT id 1 (k-1)):=by
 rcases k with _|_|k
 ·omega
 ·rfl
 ·have:= @zpC id 0 (k+2) 1 oM oM
  simpa [gSl,slT]using this
theorem MsO.term{K:MK}{e:Bool}{op:List Int}{R B N u n2:Nat}{L:List (Nat×Option AObj)}{cs:List AV}(h:MsO K e op R B N u L n2)(g:xD L n=some (.row 40 cs false false))(o:Option AObj):MsO K e op R B N u ((n,o)::L) n2:=h.up (h.wf.same (h.wf.lt g)) fun j hj=>by
 by_cases e:j=n
 ·subst e;exact .inr ⟨_,g,rfl,.inl rfl⟩
 ·exact .inl (by rw[xr,if_neg e])
theorem Fr2.term{L L2:List (Nat×Option AObj)}{m m2:Nat}(f:Fr2 L m L2 m2)(hw:WfA L n)(o:Option AObj):Fr2 L m ((n,o)::L2) (m2|||1<<<n):=fun j o' hj ho=>by
 have q:=f _ _ hj ho;have:=hw.lt hj;exact⟨by rw[xr,if_neg oM];exact q.1,(qn oM).trans q.2⟩
section
variable {O:Orc}(H:IsO O){K:MK}
include H
attribute [local go_sem] Wz ww wD ltF gtF xI xH ziS ziW ziV ziQ xW in
theorem zmN:∀(k:Nat) (t:Trm),wC t≤k→GdT K.nf K.nc t→∀{e:Bool} {op:List Int} {R B N u:Nat} {L:List (Nat×Option AObj)} {n:Nat},MsO K e op R B N u L n→N+7000*wC t<9000000→∀m,Cv ((evW env O).call 32 [.ptr K.mp 0,vK t] (KL L n m false [] none)) (MsQ K true op R B (N+7000*wC t) none L n m okU):=by
 intro k
 induction k with
 |zero=>intro t h;have:=qQ t;omega
 | succ k ih=>
  intro t hk hg e op R B N u L n h hN m;refine xO (F:=f32) (H.no _) rfl rfl (ziF rfl) ?_;simp only[vK]at ih⊢;have hw:=h.wf;have hl7:=wF (wg t);have hc7:=jT t;obtain⟨C,hC⟩:∃C,wC t=C:=⟨_,rfl⟩;rw[hC]at hk hN⊢;have h0:=(h.up (L2:=(n,some (va t))::L) (n2:=n+1) ((hw.up oM).same oM) (Oth.same fun j hj=>by rw[xr,if_neg oM])).top
  have f0:=Fr2.new (m:=m) hw (L2:=(n,some (va t))::L) fun j hj=>by rw[xr,if_neg oM]
  simp only[va]at h0 f0;unfold f32 cF;simp only;refine xB ?_;refine xz ?_;refine xE ?_;refine xU (fun x:Trm=>wC x) (fun x f t'=>∃T L2 n2 m2 R2 B2 e2,f=⟨tmL T,[]⟩∧t'=KL L2 n2 m2 false [] none∧(tmL T).get 0=some (.ptr K.mp 0)∧(tmL T).get 3=some (.ptr n 0)∧R≤R2∧B≤B2∧n+1≤n2∧MsO K e2 op R2 B2 (N+7000*(C-wC x)) n2 L2 n2∧Fr2 L m L2 m2∧xD L2 n=some (va x)∧wC x≤C∧GdT K.nf K.nc x) (fun x f t' hI=>?_) t ⟨_,_,_,_,R,B,e,rfl,rfl,sW,sW,zo _,zo _,zo _,h0.more oM,f0,by rw[xG];rfl,Nat.le_of_eq hC,hg⟩
  clear h0 f0 hl7 hc7 hg hC h t;obtain⟨T,L2,n2,m2,R2,B2,e2,rfl,rfl,t0,t3,hR2,hB2,hn2,h2,f2,g2,hxC,hg⟩:=hI;obtain⟨tk,v,q,g,fn,az,ks⟩:=x;simp only[GdT]at hg;obtain⟨⟨hal,hat,hkind⟩,hks⟩:=hg;simp only[va,xP]at g2;have hpos:=qQ (.mk tk v q g fn az ks);obtain⟨M,hM⟩:∃M,N+7000*(C-wC (.mk tk v q g fn az ks))=M:=⟨_,rfl⟩;obtain⟨M2,hM2⟩:∃M2,wC (.mk tk v q g fn az ks)=M2:=⟨_,rfl⟩;have hnod:M2=1+qB ks:=by rw[←hM2];simp only[wC];try omega
  rw[hM]at h2;rw[hM2]at hM hxC hpos;have hMN:M+7000*M2=N+7000*C:=oM;rw[show N+7000*C=M+7000*M2 from hMN.symm]at hN⊢;clear hM;rcases hkind with ⟨rfl,htk,⟨gj,rfl,hgj⟩,hkl⟩|⟨rfl,⟨fj,rfl,hfj⟩,hkl⟩|⟨rfl,hal1,hkl⟩|⟨rfl,hal1⟩|⟨rfl,⟨fj,rfl,hfj⟩,hal1⟩|⟨rfl,hal1⟩|rfl
  ·obtain⟨y,rfl⟩:∃y,ks=[y]:=by
    rcases ks with _|⟨y,_|_⟩
    ·cases hkl
    ·exact⟨y,rfl⟩
    ·simp at hkl
   have hc:xV 7 (wc [y])=some (wy y):=by rw[qa];exact qI (wg y)
   simp only[qB,Ho,and_true]at hnod hks;obtain⟨y,hy⟩:∃z,z=y:=⟨y,rfl⟩;obtain⟨k2,v2,p2,num2,fn2,as2,ks2⟩:=y;subst hy;simp only[xP]at hc;refine xB ?_;refine xE ?_;refine xz (xK ?_);refine xC (pK H h2 oM oM oM hat _) fun v t hv=>?_;obtain⟨L3,n3,m3,R3,B3,rfl,a3,b3,c3,h3,f3,wid,ws,rfl,hwl,hwr,hwg⟩:=hv;have g3:=(f3 _ _ g2 rfl).1;refine xu ?_;refine xz (xK ?_);refine xC (u9 H h3 oM _) fun v t hv=>?_;obtain⟨L4,n4,m4,R4,B4,rfl,a4,b4,c4,h4,f4,d,rfl,hd⟩:=hv;have g4:=(f4 _ _ g3 rfl).1;have w4:ws≠[]→xD L4 wid=_:=fun hne=>(f4 _ _ (hwg hne) rfl).1;clear g2 g3;refine xu ?_;have hv4:IlV L4 (gSl 1 wid az.length) ws wid 0:=by rw[←hwl];exact IlV.of w4
   refine xz ?_;refine xE ?_;refine xB ?_;refine x7 sW ?_;refine xB ?_;cases hq:ltD q (.ofNat 100)with
   |false=>
    refine x4 sV ?_;refine xK ?_;refine xC (zkL H h4 oM hd hgj hq (by rw[htk,hwl]) hv4 (fun x hx=>(hwr x hx).mono a4) ⟨rfl,rfl⟩ _) fun v t hv=>?_
    obtain⟨L5,n5,m5,R5,B5,rfl,a5,b5,c5,h5,f5,_⟩:=hv;have g5:=(f5 _ _ g4 rfl).1;clear g4;refine xu ?_;refine xu ?_;exact⟨.mk k2 v2 p2 num2 fn2 as2 ks2,⟨_,_,_,_,R5,B5,false,rfl,rfl,sV,sV,oM,oM,oM,((h5.top).term g5 _).weak oM,(f2.trans (f3.trans (f4.trans f5))).term hw _,by rw[xG];simp only[va,xP],oM,hks⟩,by rw[hM2];omega⟩
   |true=>
    refine x7 sV ?_;refine xK ?_;refine xC (zmm H h4 oM hd (by rw[←zy8 hq,htk,hwl]) hv4 (fun x hx=>(hwr x hx).mono a4) _) fun v t hv=>?_
    obtain⟨L5,n5,m5,R5,B5,rfl,a5,b5,c5,h5,f5,_⟩:=hv;have g5:=(f5 _ _ g4 rfl).1;clear g4;refine xu ?_;refine xu ?_;exact⟨.mk k2 v2 p2 num2 fn2 as2 ks2,⟨_,_,_,_,R5,B5,false,rfl,rfl,sV,sV,oM,oM,oM,((h5.top).term g5 _).weak oM,(f2.trans (f3.trans (f4.trans f5))).term hw _,by rw[xG];simp only[va,xP],oM,hks⟩,by rw[hM2];omega⟩
  ·obtain⟨y,rfl⟩:∃y,ks=[y]:=by
    rcases ks with _|⟨y,_|_⟩
    ·cases hkl
    ·exact⟨y,rfl⟩
    ·simp at hkl
   have hc:xV 7 (wc [y])=some (wy y):=by rw[qa];exact qI (wg y)
   simp only[qB,Ho,and_true]at hnod hks;obtain⟨k2,v2,p2,num2,fn2,as2,ks2⟩:=y;simp only[xP]at hc;refine xB ?_;refine xE ?_;refine xz (xK ?_);refine xC (pK H h2 oM oM oM hat _) fun v t hv=>?_;obtain⟨L3,n3,m3,R3,B3,rfl,a3,b3,c3,h3,f3,wid,ws,rfl,hwl,hwr,hwg⟩:=hv;have g3:=(f3 _ _ g2 rfl).1;refine xu ?_;refine xz (xK ?_);refine xC (u9 H h3 oM _) fun v t hv=>?_;obtain⟨L4,n4,m4,R4,B4,rfl,a4,b4,c4,h4,f4,d,rfl,hd⟩:=hv;have g4:=(f4 _ _ g3 rfl).1;have w4:ws≠[]→xD L4 wid=_:=fun hne=>(f4 _ _ (hwg hne) rfl).1;clear g2 g3;refine xu ?_;refine xz ?_;refine xE ?_;refine xB ?_;refine x4 sW ?_;refine xz (xK ?_);refine xC (pl (H.no _) h4 oM _) fun v t hv=>?_;obtain⟨L5,m5,rfl,rfl,h5,f5⟩:=hv;have g5:=(f5 _ _ g4 rfl).1;have w5:ws≠[]→xD L5 wid=_:=fun hne=>(f5 _ _ (w4 hne) rfl).1;have hR0:=h5.R0;have i0:InR (R4+1) (.ofNat 0):=inR oM;clear g4 w4;refine xu ?_;refine xz (xK ?_);refine xC (vm H h5 oM (e2:=false) (.addr hfj) (inR (zV R4)) i0 i0 (by simp) (fun h=>by cases h) _) fun v t hv=>?_
   obtain⟨L6,n6,m6,R6,B6,rfl,a6,b6,c6,h6,f6,_⟩:=hv;have g6:=(f6 _ _ g5 rfl).1;have w6:ws≠[]→xD L6 wid=_:=fun hne=>(f6 _ _ (w5 hne) rfl).1;have hw6:=h6.wf;clear g5 w5;refine xu ?_;have hwc:∀o1 o0,WfA ((n6+1,o1)::(n6,o0)::L6) (n6+1+1):=fun o1 o0=>((hw6.up oM).same oM).same oM;refine xK ?_;refine xC (zzJ H (q:=n6+1) (c1:=n6) (id:=wid) (cd:=.ofNat R4) (l:=ws) (by rw[xG,hwl]) (by rw[xr,if_neg oM,xG];rfl) (fun hne=>by have:=hw6.lt (w6 hne);rw[xr,if_neg oM,xr,if_neg oM];exact w6 hne) (hwc _ _) oM _) fun v t hv=>?_
   obtain⟨L7,m7,rfl,rfl,hw7,g7,hf7⟩:=hv;have hf7':∀j,j<n6→xD L7 j=xD L6 j∧m7.testBit j=m6.testBit j:=fun j hj=>by
    have:=hf7 j oM;rw[xr,if_neg oM,xr,if_neg oM]at this;exact this
   have h7:=h6.up hw7 (Oth.same fun j hj=>(hf7' j hj).1);have f7:=Fr2.newm (m:=m6) (m2:=m7) hw6 (fun j hj=>(hf7' j hj).1) fun j hj=>(hf7' j hj).2;have gn7:=(f7 _ _ g6 rfl).1;have hv7:=IlV.of (L:=L7) (id:=n6+1+1) (l:=.ofNat R4::ws) fun _=>g7;rw[zU,hwl]at hv7⊢;clear hf7 hf7' g6 w6 hwc;refine xK ?_;refine xC (ZQ H h7 oM (show d<R6 by omega) (show 2<8 by omega) hv7 (by simp only[zU];omega) (fun x hx=>by
    rcases List.mem_cons.1 hx with rfl|hx
    ·exact inR oM
    ·exact(hwr x hx).mono oM) _) fun v t hv=>?_
   obtain⟨L8,n8,m8,R8,B8,rfl,a8,b8,c8,h8,f8,_⟩:=hv;have g8:=(f8 _ _ gn7 rfl).1;clear gn7 g7;refine xu ?_;refine xu ?_;exact⟨.mk k2 v2 p2 num2 fn2 as2 ks2,⟨_,_,_,_,R8,B8,false,rfl,rfl,sV,sV,oM,oM,oM,((h8.top).term g8 _).weak oM,(f2.trans (f3.trans (f4.trans (f5.trans (f6.trans (f7.trans f8)))))).term hw _,by rw[xG];simp only[va,xP],oM,hks⟩,by rw[hM2];omega⟩
  ·obtain⟨y,z,rfl⟩:∃y z,ks=[y,z]:=by
    rcases ks with _|⟨y,_|⟨z,_|_⟩⟩
    ·cases hkl
    ·simp at hkl
    ·exact⟨y,z,rfl⟩
    ·simp at hkl
   obtain⟨a,rfl⟩:∃a,az=[a]:=by
    rcases az with _|⟨y,_|_⟩
    ·cases hal1
    ·exact⟨y,rfl⟩
    ·simp at hal1
   have hc:xV 7 (wc [y,z])=some (wy y):=by rw[qa];exact qI (wg y)
   have hc2:xV 7 (wl 7 (wc [y,z]))=some (wy z):=by
    simp only[qa,gB,ziJ];rw[wK,List.drop_left' (wg y)];exact wF (wg z)
   have hca:xV 2 (xA qp [a])=some (qp a):=by simp only[xA,ziJ];exact wF (lQ a)
   have hat1:=hat a zi9;simp only[qB,Ho,and_true]at hnod hks;have hpy:=qQ y;have hpz:=qQ z;simp only[zU,xd]at g2;obtain⟨is,rg,fl,wd,nd,bid,hp2⟩:=h2;have gm2:=hp2.gm;simp only[uh]at gm2;have hlab:=fun m=>Wb (H.no _) hp2 oM m;refine xu ?_;refine xB ?_;refine xE ?_;refine xB ?_;refine x4 sW ?_;refine xz (xK ?_);refine zkk (hlab _) fun v t hv=>?_;obtain⟨L3,m3,rfl,rfl,h3,f3⟩:=hv;have gm3:=h3.gm;simp only[uh]at gm3;refine xK ?_;clear gm3 h3 f3 L3;refine zkl (hlab _) fun v t hv=>?_;obtain⟨L3,m3,rfl,rfl,h3,f3⟩:=hv;have gm3:=h3.gm;simp only[uh]at gm3;refine xu ?_;have h3':MsO K e2 (.ofNat B2::op) R2 (B2+1) (M+1) n2 L3 n2:=⟨is,rg,fl,wd,nd,bid,h3⟩;have hwd:=hp2.nw;have g3:=(f3 _ _ g2 rfl).1;clear gm3 gm2 hlab h3 hp2 g2;refine xz (xK ?_);refine xC (zxk H h3' oM hat1 _) fun v t hv=>?_;obtain⟨L4,n4,m4,R4,B4,rfl,a4,b4,c4,h4,f4,r4,rfl,hr4⟩:=hv;have g4:=(f4 _ _ g3 rfl).1;clear g3 h3';refine xK ?_;refine xC (pT H h4 oM _) fun v t hv=>?_;obtain⟨L5,n5,m5,R5,B5,rfl,a5,b5,c5,h5,f5,r5,rfl,hr5⟩:=hv;have g5:=(f5 _ _ g4 rfl).1;clear g4 h4;refine xK ?_;refine xC (uu H h5 oM (q:=.ofNat 26) (by simp) (show r4<R5 by omega) hr5 (show B2<B5 by omega) _) fun v t hv=>?_
   obtain⟨L6,n6,m6,R6,B6,rfl,a6,b6,c6,h6,f6,_⟩:=hv;have g6:=(f6 _ _ g5 rfl).1;clear g5 h5;refine xu ?_;refine xz (xK ?_);refine xC (ih y oM hks.1 h6 oM _) fun v t hv=>?_;obtain⟨L7,n7,m7,R7,B7,rfl,a7,b7,c7,h7,f7,_⟩:=hv;have g7:=(f7 _ _ g6 rfl).1;clear g6 h6;refine xu ?_;refine xz (xK ?_);refine xC (Xh H h7 oM _) fun v t hv=>?_;obtain⟨L8,n8,m8,R8,B8,rfl,a8,b8,c8,h8,f8,_⟩:=hv;have g8:=(f8 _ _ g7 rfl).1;clear g7 h7;refine xu ?_;obtain⟨is8,rg8,fl8,wd8,nd8,bid8,hp8⟩:=h8;have gm8:=hp8.gm;have hnn:=hp8.nn;have hni:=hp8.ni;have hnR:=hp8.nR;have hnl:=hp8.nl
   simp only[uh]at gm8;obtain⟨h9,f9⟩:=hp8.row (nd2:=nd8) (lb2:=B8) (wd2:=wd) (R2:=R8) (zo _) (zo _) hp8.hlb (N2:=M+7+7000*wC y) ⟨oM,oM,oM,oM,oM⟩;obtain⟨L9,hL9⟩:∃L9,(K.mp,some (uh K R8 nd8 (gSl 8 bid8 is8.length) B8 wd))::L8=L9:=⟨_,rfl⟩;have f9:=f9 (some (uh K R8 nd8 (gSl 8 bid8 is8.length) B8 wd)) m8;rw[hL9]at h9 f9;have h9:MsO K false op R8 B8 (M+7+7000*wC y) _ L9 n8:=⟨is8,rg8,fl8,wd,nd8,bid8,h9⟩;have g9:=(f9 _ _ g8 rfl).1;simp only[uh]at hL9;refine xB ?_;clear hL9 gm8 g8;refine xK ?_;refine xC (ih z oM hks.2 h9 oM _) fun v t hv=>?_;obtain⟨L10,n10,m10,R10,B10,rfl,a10,b10,c10,h10,f10,_⟩:=hv;refine xu ?_;refine xF ?_;exact⟨L10,n10,_,R10,B10,rfl,oM,oM,oM,h10.more oM,f2.trans (f3.trans (f4.trans (f5.trans (f6.trans (f7.trans (f8.trans (f9.trans f10))))))),trivial⟩
  ·refine xu ?_;refine xB ?_;refine xE ?_;refine xB ?_;refine x7 sW ?_;refine xB ?_;refine x4 sW ?_;refine xz (xK ?_);refine xC (pK H h2 oM oM oM hat _) fun v t hv=>?_;obtain⟨L3,n3,m3,R3,B3,rfl,a3,b3,c3,h3,f3,wid,ws,rfl,hwl,hwr,hwg⟩:=hv;have g3:=(f3 _ _ g2 rfl).1;obtain⟨w1,wr,rfl,hw1⟩:=pi (l:=ws) oM hwr;have w3:=hwg (by simp)
   have hv3:IlV L3 (gSl 1 wid az.length) (.ofNat w1::wr) wid 0:=by rw[←hwl];exact IlV.of hwg
   have i0:=hv3.one.1;have c0:xV 1 (xA xL (Int.ofNat w1::wr))=some [.int .i64 (.ofNat w1)]:=qI (qy _);clear hwg g2;refine xu ?_;refine xz (xK ?_);refine wh (Y8 H h3 oM (.inr rfl) _) fun v t hv=>?_;obtain⟨L4,n4,m4,R4,B4,rfl,a4,b4,c4,h4,f4,lf,rfl,hlf⟩:=hv;have w4:=f4 _ _ w3 rfl;have e4:=pG w4.2;have hidn:=h3.wf.lt w3;have hh:=zyw (b:=n4) hidn;replace w4:=w4.1;refine xK ?_;refine wh (jJ H h4 oM (show w1<R4 by omega) (show 2<8 by omega) hlf _) fun v t hv=>?_
   obtain⟨L5,n5,m5,R5,B5,rfl,a5,b5,c5,h5,f5,_⟩:=hv;have w5:=(f5 _ _ w4 rfl).1;have hr5:RowI L5 wr wid 1:=(RowI.of (l:=.ofNat w1::wr) fun _=>w5).drop 1;have hsl:ki 1 (gSl 1 wid az.length) (some (.int .i64 (.ofNat 1))) none none=some (slT wid 1 wr.length):=by
    rw[zwt hal1,←hwl];rfl
   clear g3 w3 w4 e4 hh;refine xu ?_;refine xK ?_;refine wh (zxj H h5.top oM (zo _) (show w1<R5 by omega) hr5 (show wid<n5 by omega) (by simp only[zU]at hwl;omega) (fun x hx=>(hwr x (yR _ hx)).mono oM) _) fun v t hv=>?_
   obtain⟨L6,n6,m6,R6,B6,rfl,a6,b6,c6,h6,f6,uid,fx,xt,ul,rfl,u1,u2,hur,gu⟩:=hv;have hR0:=h6.R0;have hsc:q8 (usV uid fx ul.length)=true:=by cases ul.length<;>rfl
   simp only[q8]at hsc;clear w5;refine xK ?_;refine wh (QP H h6 oM (e2:=true) (q:=.ofNat 68) (d:=.ofNat 0) (i:=.negSucc 0) (l:=.ofNat 0) (.tail (Int.lt_of_lt_of_le (by decide:Int.negSucc 0<0) (Int.natCast_nonneg _)) u1 u2) (inR oM) hur (fun _=>⟨_,gu⟩) (by simp) (fun _=>.inl rfl) _) fun v t hv=>?_
   obtain⟨L7,n7,m7,R7,B7,rfl,a7,b7,c7,h7,f7,_⟩:=hv;refine xu ?_;refine xF ?_;exact⟨L7,n7,_,R7,B7,rfl,oM,oM,oM,h7.more oM,(((((f2.trans f3).or f4).or f5).or f6).or f7),trivial⟩
  ·refine xu ?_;refine xB ?_;refine xE ?_;refine xB ?_;refine x7 sW ?_;refine xB ?_;refine x7 sW ?_;refine xB ?_;refine x4 sW ?_;refine xz (xK ?_);refine xC (pK H h2 oM oM oM hat _) fun v t hv=>?_;obtain⟨L3,n3,m3,R3,B3,rfl,a3,b3,c3,h3,f3,wid,ws,rfl,hwl,hwr,hwg⟩:=hv;have g3:=(f3 _ _ g2 rfl).1;obtain⟨w1,wr,rfl,hw1⟩:=pi (l:=ws) oM hwr;have w3:=hwg (by simp)
   have hv3:IlV L3 (gSl 1 wid az.length) (.ofNat w1::wr) wid 0:=by rw[←hwl];exact IlV.of hwg
   have i0:=hv3.one.1;have c0:xV 1 (xA xL (Int.ofNat w1::wr))=some [.int .i64 (.ofNat w1)]:=qI (qy _);have hr3:RowI L3 wr wid 1:=(RowI.of (l:=.ofNat w1::wr) fun _=>w3).drop 1;have hsl:ki 1 (gSl 1 wid az.length) (some (.int .i64 (.ofNat 1))) none none=some (slT wid 1 wr.length):=by
    rw[zwt hal1,←hwl];rfl
   have hidn:=h3.wf.lt w3;clear hwg g2;refine xu ?_;refine xK ?_;refine wh (zxj H h3.top oM (zo _) (show w1<R3 by omega) hr3 hidn (by simp only[zU]at hwl;omega) (fun x hx=>hwr x (yR _ hx)) _) fun v t hv=>?_
   obtain⟨L6,n6,m6,R6,B6,rfl,a6,b6,c6,h6,f6,uid,fx,xt,ul,rfl,u1,u2,hur,gu⟩:=hv;have hR0:=h6.R0;have hsc:q8 (usV uid fx ul.length)=true:=by cases ul.length<;>rfl
   have e6:=pG (f6 _ _ g3 rfl).2;simp only[q8]at hsc;clear w3;refine xK ?_;refine wh (QP H h6 oM (e2:=true) (q:=.ofNat 68) (d:=.ofNat 0) (i:=.ofNat fj) (l:=.ofNat 0) (.tail (Int.ofNat_lt.2 hfj) u1 u2) (inR oM) hur (fun _=>⟨_,gu⟩) (by simp) (fun _=>.inl rfl) _) fun v t hv=>?_
   obtain⟨L7,n7,m7,R7,B7,rfl,a7,b7,c7,h7,f7,_⟩:=hv;refine xu ?_;refine xF ?_;exact⟨L7,n7,_,R7,B7,rfl,oM,oM,oM,h7.more oM,(((f2.trans f3).or f6).or f7),trivial⟩
  ·refine xu ?_;refine xB ?_;refine xE ?_;refine xB ?_;refine x7 sW ?_;refine xB ?_;refine x7 sW ?_;refine xB ?_;refine x7 sW ?_;refine xB ?_;refine x4 sW ?_;refine xK ?_;refine xC (pK H h2 oM oM oM hat _) fun v t hv=>?_;obtain⟨L3,n3,m3,R3,B3,rfl,a3,b3,c3,h3,f3,wid,ws,rfl,hwl,hwr,hwg⟩:=hv;clear g2;refine xK ?_;rw[←hwl];refine xC (ztH H h3.top oM (zo _) (RowI.of hwg) (show ws.length=(ws.length-2)+2 by omega) oM hwr _) fun v t hv=>?_
   obtain⟨L7,n7,m7,R7,B7,rfl,a7,b7,c7,h7,f7,_⟩:=hv;refine xu ?_;refine xF ?_;exact⟨L7,n7,_,R7,B7,rfl,oM,oM,oM,h7.more oM,f2.trans (f3.trans f7),trivial⟩
  ·have hR0:=h2.R0;have i0:InR R2 (.ofNat 0):=inR oM;refine xu ?_;refine xB ?_;refine xE ?_;refine xB ?_;refine x7 sW ?_;refine xB ?_;refine x7 sW ?_;refine xB ?_;refine x7 sW ?_;refine xB ?_;refine x7 sW ?_;refine xK ?_;refine xC (vm H h2 oM (e2:=true) (q:=.ofNat 72) (d:=.ofNat 0) (i:=.ofNat 106) (l:=.ofNat 0) (.leave (by simp)) i0 i0 i0 (by simp) (fun _=>.inr rfl) _) fun v t hv=>?_
   obtain⟨L7,n7,m7,R7,B7,rfl,a7,b7,c7,h7,f7,_⟩:=hv;refine xu ?_;refine xF ?_;exact⟨L7,n7,_,R7,B7,rfl,oM,oM,oM,(h7.top).more oM,f2.trans f7,trivial⟩
end
theorem zk1{l:List Int}{a:Nat}(h:a≤l.length):ki 1 (.lst l.length false (xA xL l)) none (some (.int .i64 (.ofNat a))) none=some (.lst a false (xA xL (l.take a))):=by
 have hl:∀l:List Int,(xA xL l).length=l.length:=fun l=>by rw[ql qy];exact xi _
 simp only[ki,Hm,bnd,show zd a l.length=true from xR.2 h,cond_true,Bool.false_and];rw[show tkN (zb (Nat.sub a 0) 1) (wl (zb 0 1) (xA xL l))=xA xL (l.take a)from ?_]
 ·rfl
 ·rw[show zb (Nat.sub a 0) 1=a from xi _,show zb 0 1=0 from rfl];show tkN _ (wl 0 _)=_;rw[wK,YJ,List.drop_zero]
  conv=>lhs;rw[←zhq a l,wj]
  rw[List.take_left' (by rw[hl,zhp];omega)]
theorem zk2{l:List Int}{a:Nat}(h:a≤l.length):ki 1 (.lst l.length false (xA xL l)) (some (.int .i64 (.ofNat a))) none none=some (.lst (l.length-a) false (xA xL (l.drop a))):=by
 have hl:∀l:List Int,(xA xL l).length=l.length:=fun l=>by rw[ql qy];exact xi _
 simp only[ki,Hm,bnd,show zd a l.length=true from xR.2 h,cond_true,Bool.false_and];rw[show tkN (zb (Nat.sub l.length a) 1) (wl (zb a 1) (xA xL l))=xA xL (l.drop a)from ?_]
 ·rfl
 ·rw[show zb (Nat.sub l.length a) 1=l.length-a from xi _,show zb a 1=a from xi _];rw[wK,YJ]
  conv=>lhs;rw[←zhq a l,wj]
  rw[List.drop_left' (by rw[hl,zhp];omega),zhq]
  exact List.take_of_length_le (by rw[hl,ziH];omega)
section
variable {O:Orc}(H:IsO O){K:MK}{e:Bool}{op:List Int}{R B N u:Nat}{L:List (Nat×Option AObj)}{n:Nat}
include H
attribute [local go_sem] zia ltF gtF xI xH ziS ziW ziV ziQ xW in
theorem zsE{f:Fn}(h:MsO K e op R B N u L n)(hN:N<20000000)(hps:f.ps.length≤30)(m:Nat):Cv ((evW env O).call 31 [.ptr K.mp 0,uP f] (KL L n m false [] none)) (MsQ K false op R B (N+600) (some u) L n m okU):=by
 refine xO (F:=f31) (H.no _) rfl rfl (ziF rfl) ?_;obtain⟨ps,rest,cont,fr,b⟩:=f;obtain⟨bk,bv,bo,bn,bf,bas,bks⟩:=b;simp only[uP,we,xP,qW]at hps⊢;have hw:=h.wf;have hR0:=h.R0;have hsf:=h.sf;obtain⟨L0,hL0⟩:∃L0,(n,some (AObj.row 42 [.lst ps.length false (xA xL ps),.bool rest,.bool cont,.lst fr.length false (xA xL fr),.int .i64 bk,.int .i64 bv,.int .i64 bo,.int .i64 bn,.int .i64 bf,.lst bas.length false (xA qp bas),.lst bks.length false (wc bks)] false false))::L=L0:=⟨_,rfl⟩;have h0:MsO K e op R B N u L0 (n+1):=h.up (hL0▸(hw.up oM).same oM) (Oth.same fun j hj=>by rw[←hL0];(repeat rw[xr,if_neg oM]))
 have f0:Fr2 L m L0 m:=Fr2.new hw fun j hj=>by rw[←hL0];(repeat rw[xr,if_neg oM])
 have k0:xD L0 n=some (.row 42 [.lst ps.length false (xA xL ps),.bool rest,.bool cont,.lst fr.length false (xA xL fr),.int .i64 bk,.int .i64 bv,.int .i64 bo,.int .i64 bn,.int .i64 bf,.lst bas.length false (xA qp bas),.lst bks.length false (wc bks)] false false):=by rw[←hL0];exact xG _ _ _
 obtain⟨z,hz⟩:∃z,qJ .i64 (Int.sub (.ofNat ps.length) (.ofNat 1))=z:=⟨_,rfl⟩;obtain⟨is,rg,fl,wd,nd,bid,hpp⟩:=h0;have gm:=hpp.gm;simp only[uh]at gm;have h0:MsO K e op R B N u L0 (n+1):=⟨_,_,_,_,_,_,hpp⟩;unfold f31 cF;simp only;refine xB ?_;clear hL0 hw h hpp;refine xz (xK ?_);refine xC (uy H h0 oM hsf (show 1<R by omega) _) fun v t hv=>?_
 obtain⟨L1,n1,m1,R1,B1,rfl,a1,b1,c1,h1,f1,_⟩:=hv;have k1:=(f1 _ _ k0 rfl).1;clear gm k0 h0;refine xu ?_;refine xB ?_;refine lp (fun fr' t=>∃T z,fr'=⟨tmL T,[]⟩∧t=KL L1 n1 m1 false [] none∧(tmL T).get 0=some (.ptr K.mp 0)∧(tmL T).get 3=some (.ptr n 0)∧(tmL T).get 4=some (.int .i64 z)) ?_ fun fr' t hI=>?_
 ·cases rest with
  |false=>
   refine xu ?_;exact⟨_,.ofNat ps.length,rfl,trivial,sV,sV,sW⟩
  |true=>
   refine xu ?_;exact⟨_,z,rfl,trivial,sV,sV,sV⟩
 ·clear hz z;obtain⟨T,z,rfl,rfl,t0,t3,t4⟩:=hI;have hhi:=zk1 (l:=ps) (a:=min ps.length 6) oM;obtain⟨q,hq⟩:∃q,ps.take (min ps.length 6)=q:=⟨_,rfl⟩;have hql:q.length=min ps.length 6:=by rw[←hq,zhp];omega
  rw[hq]at hhi;clear hq;refine xz (xz (xu ?_));refine xE ?_;refine xU (fun i:Nat=>q.length-i) (fun i f' t=>∃T L2 n2 m2 R2 B2,f'=⟨tmL T,[]⟩∧t=KL L2 n2 m2 false [] none∧(tmL T).get 0=some (.ptr K.mp 0)∧(tmL T).get 3=some (.ptr n 0)∧(tmL T).get 4=some (.int .i64 z)∧(tmL T).get 30=some (.lst (min ps.length 6) false (xA xL q))∧(tmL T).get 31=some (.int .i64 (.ofNat (min ps.length 6)))∧(tmL T).get 32=some (.int .i64 (.ofNat i))∧i≤min ps.length 6∧R1≤R2∧B1≤B2∧n1≤n2∧MsO K false op R2 B2 (N+1+2*i) u L2 n2∧Fr2 L1 m1 L2 m2) (fun i f' t hI=>?_) 0 ⟨_,L1,n1,_,R1,B1,rfl,rfl,sV,sV,sV,sV,sV,sV,zK _,zo _,zo _,zo _,h1,Fr2.refl _ _⟩;clear t0 t3 t4 T h1 hhi;obtain⟨T,L2,n2,m2,R2,B2,rfl,rfl,t0,t3,t4,t30,t31,t32,hi,hR,hB,hn,h2,f2⟩:=hI;have k2:=(f2 _ _ k1 rfl).1;rcases xQ q i with ⟨hlt2,hd2⟩|⟨a,hlt2,hd2⟩
  ·have hni:¬i<min ps.length 6:=oM;clear hd2 hlt2;refine xu ?_;by_cases h6:ps.length≤6
   ·refine xu ?_;refine xF ?_;exact⟨L2,n2,_,R2,B2,rfl,oM,oM,oM,h2.weak oM,f0.trans (f1.trans f2),trivial⟩
   ·have hlo:=zk2 (l:=ps) (a:=6) oM;refine xB ?_;refine xz (xK ?_);refine xC (pl (H.no _) h2 oM _) fun v t hv=>?_;obtain⟨L3,m3,rfl,rfl,h3,f3⟩:=hv;have k3:=(f3 _ _ k2 rfl).1;clear k1 k2;refine xu ?_;refine xz (xK ?_);refine xC (uy H h3 oM (zV R2) (show 10<R2+1 by omega) _) fun v t hv=>?_
    obtain⟨L4,n4,m4,R4,B4,rfl,a4,b4,c4,h4,f4,_⟩:=hv;have k4:=(f4 _ _ k3 rfl).1;clear k3 h3;refine xu ?_;refine xB ?_;refine xE ?_;refine xU (fun i:Nat=>ps.length-6-i) (fun i f' t=>∃T L5 n5 m5 R5 B5 mo,f'=⟨tmL T,[]⟩∧t=KL L5 n5 m5 false [] none∧(tmL T).get 0=some (.ptr K.mp 0)∧(tmL T).get 4=some (.int .i64 z)∧(tmL T).get 7=some (.int .i64 (.ofNat mo))∧(tmL T).get 56=some (.lst (ps.length-6) false (xA xL (ps.drop 6)))∧(tmL T).get 57=some (.int .i64 (.ofNat (ps.length-6)))∧(tmL T).get 58=some (.int .i64 (.ofNat i))∧i≤ps.length-6∧R4≤R5∧B4≤B5∧n4≤n5∧mo<R5∧MsO K false op R5 B5 (N+20+10*i) u L5 n5∧Fr2 L4 m4 L5 m5) (fun i f' t hI=>?_) 0 ⟨_,L4,n4,_,R4,B4,R2,rfl,rfl,sV,sV,sV,sV,sV,sV,zK _,zo _,zo _,zo _,oM,h4.weak oM,Fr2.refl _ _⟩;clear t0 t3 t4 t30 t31 t32 T h4 hlo k4 hi hni;obtain⟨T,L5,n5,m5,R5,B5,mo,rfl,rfl,t0,t4,t7,t56,t57,t58,hi,hR5,hB5,hn5,hmo,h5,f5⟩:=hI;rcases xQ (ps.drop 6) i with ⟨hlt2,hd2⟩|⟨a,hlt2,hd2⟩
    ·rw[ziH]at hlt2;have hni:¬i<ps.length-6:=oM;clear hd2 hlt2;refine xu ?_;refine xF ?_;exact⟨L5,n5,_,R5,B5,rfl,oM,oM,oM,h5.weak oM,f0.trans (f1.trans (f2.trans (f3.trans (f4.trans f5)))),trivial⟩
    ·have hlt3:i<ps.length-6:=by rw[ziH]at hlt2;omega
     have hc:=jx hd2;clear hd2 hlt2;refine xB ?_;refine xz (x4 sW ?_);refine xu ?_;refine xz (xE ?_);refine xB ?_;cases hz:eqD (.ofNat (6+i)) z with
     |true=>
      refine xz ?_;refine xB ?_;refine x4 sV ?_;refine xz (xK ?_);refine xC (u9 H h5 oM _) fun v t hv=>?_;obtain⟨L6,n6,m6,R6,B6,rfl,a6,b6,c6,h6,f6,r6,rfl,hr6⟩:=hv;refine xK ?_;refine xC (uy H h6 oM hr6 (show mo<R6 by omega) _) fun v t hv=>?_
      obtain⟨L7,n7,m7,R7,B7,rfl,a7,b7,c7,h7,f7,_⟩:=hv;refine xu ?_;refine xu ?_;refine xF ?_;exact⟨L7,n7,_,R7,B7,rfl,oM,oM,oM,h7.weak oM,f0.trans (f1.trans (f2.trans (f3.trans (f4.trans (f5.trans (f6.trans f7)))))),trivial⟩
     |false=>
      refine xB ?_;refine xz (xK ?_);refine xC (u9 H h5 oM _) fun v t hv=>?_;obtain⟨L6,n6,m6,R6,B6,rfl,a6,b6,c6,h6,f6,r6,rfl,hr6⟩:=hv;refine xK ?_;refine xC (pg H h6 oM hr6 (show mo<R6 by omega) (show 1<32768 by omega) _) fun v t hv=>?_
      obtain⟨L7,n7,m7,R7,B7,rfl,a7,b7,c7,h7,f7,_⟩:=hv;refine xu ?_;refine xz (xK ?_);refine xC (pl (H.no _) h7 oM _) fun v t hv=>?_;obtain⟨L8,m8,rfl,rfl,h8,f8⟩:=hv;refine xu ?_;refine xz (xK ?_);refine xC (pg H h8 oM (zV R7) (show mo<R7+1 by omega) (show 2<32768 by omega) _) fun v t hv=>?_
      obtain⟨L9,n9,m9,R9,B9,rfl,a9,b9,c9,h9,f9,_⟩:=hv;refine xu ?_;refine xu ?_;refine xu ?_;exact⟨i+1,⟨_,L9,_,_,R9,B9,R7,rfl,rfl,sV,sV,sV,sV,sV,sV,oM,oM,oM,oM,oM,h9.weak oM,f5.trans (f6.trans (f7.trans (f8.trans f9)))⟩,oM⟩
  ·have hlt3:i<min ps.length 6:=oM;have hc:=jx hd2;clear hd2;refine xB ?_;refine xz (x4 sW ?_);refine xu ?_;refine xz (xE ?_);refine xB ?_;refine xK ?_;refine xC (u9 H h2 oM _) fun v t hv=>?_;obtain⟨L6,n6,m6,R6,B6,rfl,a6,b6,c6,h6,f6,r6,rfl,hr6⟩:=hv;refine xK ?_;refine xC (uy H h6 oM hr6 (show 4+i<R6 by omega) _) fun v t hv=>?_
   obtain⟨L7,n7,m7,R7,B7,rfl,a7,b7,c7,h7,f7,_⟩:=hv;refine xu ?_;refine xu ?_;exact⟨i+1,⟨_,L7,_,_,R7,B7,rfl,rfl,sV,sV,sV,sV,sV,sV,oM,oM,oM,oM,h7.weak oM,f2.trans (f6.trans f7)⟩,oM⟩
end
structure VJ where
 op:Int
 d:Int
 a:Int
 b:Int
 imm:Int
 lb:Int
 ul:List Int
def VI.j(x:VI):VJ:=⟨x.op,x.d,x.a,x.b,x.imm,x.lb,x.ul⟩
def qb(x:VJ):List AV:=[.int .i64 x.op,.int .i64 x.d,.int .i64 x.a,.int .i64 x.b,.int .i64 x.imm,.int .i64 x.lb,.lst x.ul.length false (xA xL x.ul),.lst 0 false []]
theorem VA(x:VJ):(qb x).length=8:=rfl
theorem HX(x:VJ):xN (qb x)=true:=by simp only[qb,xY,x6,qu,wN,xe]
theorem zwZ(x:VJ):wkL (qb x)=qb x:=by simp only[qb,wkL,wkV,vM Vu]
theorem zzD{x y:VJ}(h:qb x=qb y):x=y:=by
 obtain⟨a,b,c,d,e,f,g⟩:=x;obtain⟨a',b',c',d',e',f',g'⟩:=y;simp only[qb,List.cons.injEq,AV.int.injEq,AV.lst.injEq,true_and,and_true]at h;obtain⟨rfl,rfl,rfl,rfl,rfl,rfl,_,h2⟩:=h;rw[Ka h2]
structure VF where
 fn:Int
 regs:Nat
 need:Nat
 pn:Int
 rest:Bool
 is:List VJ
def qz(F:VF):List AV:=[.int .i64 F.fn,.int .i64 (.ofNat F.regs),.int .i64 (.ofNat 0),.int .i64 (.ofNat F.need),.int .i64 F.pn,.bool F.rest,.lst F.is.length false (xA qb F.is)]
def pD(F:VF):AV:=.agg (qz F)
theorem zvP(l:List VJ):xN (xA qb l)=true:=wz HX l
theorem znz(l:List VJ):wkL (xA qb l)=xA qb l:=vM zwZ l
theorem zri{l m:List VJ}(h:xA qb l=xA qb m):l=m:=kD VA oM (fun _ _ h=>zzD h) h
theorem Vy(F:VF):(qz F).length=7:=rfl
theorem gC(F:VF):xN (qz F)=true:=by simp only[qz,xY,x6,qu,uq,wN,xe]
theorem JI(F:VF):wkL (qz F)=qz F:=by simp only[qz,wkL,wkV,znz]
theorem WO(F:VF):xZ (qz F)=true:=by simp only[qz,u5,li,lC,ZT,Zq,xe]
theorem zzC{x y:VF}(h:qz x=qz y):x=y:=by
 obtain⟨a,b,c,d,e,f⟩:=x;obtain⟨a',b',c',d',e',f'⟩:=y;simp only[qz,List.cons.injEq,AV.int.injEq,AV.bool.injEq,AV.lst.injEq,Int.ofNat.injEq,true_and,and_true]at h;obtain⟨rfl,rfl,rfl,rfl,rfl,_,h2⟩:=h;rw[zri h2]
def jD:List VJ→List Int
 |[]=>[]
 |x::r=>if x.op=.ofNat 65 then x.lb::jD r else jD r
theorem LR:∀l:List VI,jD (l.map VI.j)=Z1 l
 |[]=>rfl
 |x::r=>by
  simp only[zv,jD,Z1,VI.j];rw[LR r]
structure GdJ(nf nc lb R:Nat)(x:VJ):Prop where
 op:OpOk nf nc lb x.op x.d x.imm x.lb x.ul
 d:InR R x.d
 a:InR R x.a
 b:InR R x.b
 u:x.ul.length≤100∧∀u∈x.ul,InR R u
structure GdF(nf nc:Nat)(F:VF):Prop where
 ok:∃lb,lb<2000000∧(jD F.is).Perm (Xy lb)∧∀x∈F.is,GdJ nf nc lb F.regs x
 regs:F.regs<2000000
 R0:33≤F.regs
 need:F.need<2000000
 len:F.is.length<2000000
 ls:∃x∈F.is.getLast?,x.op=.ofNat 68∨x.op=.ofNat 72
theorem zxA{k t:Nat}{us cs:List AV}{c:Cap}{x f:Bool}(hg:s.get id=some (.row t us x f))(hk:zlb k c)(hf:FzL s us cs)(hp:xN cs=true):Fz s (.sl id 0 k c) (.lst k false cs):=by
 simp only[Fz];refine⟨hp,.inr ⟨by trivial,id,0,c,t,us,x,f,us,rfl,hk,hg,?_,hf⟩⟩
 rw[←hf.len,QH];exact wF rfl
theorem zxz(s:St):∀l:List Int,FzL s (xA xL l) (xA xL l)
 |[]=>ji
 |x::r=>wB (wU _ _ _) (zxz s r)
theorem zjx{L:List (Nat×Option AObj)}{m:Nat}{b:Bool}{hd:List (Nat×Nat)}{on:Option (Nat×List Nat)}{x:VI}(h:zze L x)(hh:∀id o,xD L id=some o→(KL L n m b hd on).get id=some o):Fz (KL L n m b hd on) (usV x.ui x.fx x.ul.length) (.lst x.ul.length false (xA xL x.ul)):=by
 cases hl:x.ul with
 |nil=>exact l9
 |cons a r=>
  obtain⟨xt,g⟩:=h (by rw[hl];simp)
  rw[hl]at g;show Fz _ (.sl x.ui 0 (r.length+1) (bif x.fx then .fix (r.length+1)else .opn 1)) (.lst (r.length+1) false _);refine zxA (hh _ _ g) ?_ (zxz _ _) (V9 _);cases x.fx with
  |true=>exact zo _
  |false=>trivial
theorem zlk{L:List (Nat×Option AObj)}{n m:Nat}{b:Bool}{hd:List (Nat×Nat)}{on:Option (Nat×List Nat)}(hh:∀id o,xD L id=some o→(KL L n m b hd on).get id=some o):∀{is:List VI},(∀x∈is,zze L x)→FzL (KL L n m b hd on) (xA kK is) (xA qb (is.map VI.j))
 |[],_=>ji
 |x::r,h=>by
  have ih:=zlk hh (is:=r) fun y hy=>h y (yR _ hy);simp only[zv,xA];refine FzL.append ?_ ih;exact wB (wU _ _ _) (wB (wU _ _ _) (wB (wU _ _ _) (wB (wU _ _ _) (wB (wU _ _ _) (wB (wU _ _ _) (wB (zjx (h x zi9) hh) (wB l9 ji)))))))
theorem zkq{L:List (Nat×Option AObj)}{m bid:Nat}{b:Bool}{hd:List (Nat×Nat)}{on:Option (Nat×List Nat)}(hh:∀id o,xD L id=some o→(KL L n m b hd on).get id=some o){is:List VI}(h:∀x∈is,zze L x)(gi:is≠[]→xD L bid=some (.row 45 (xA kK is) true false)):Fz (KL L n m b hd on) (gSl 8 bid is.length) (.lst (is.map VI.j).length false (xA qb (is.map VI.j))):=by
 cases is with
 |nil=>exact l9
 |cons a r=>
  rw[List.length_map];show Fz _ (.sl bid 0 (r.length+1) (.opn 8)) (.lst (r.length+1) false _);exact zxA (hh _ _ (gi (by simp))) trivial (zlk hh h) (zvP _)
def rmv(v:Int)(N:List (Int×Int)):List (Int×Int):=N.filter fun p=>decide (p.1≠v)
theorem Xx{v:Int}:∀{N:List (Int×Int)},v∉N.map (·.1)→rmv v N=N
 |[],_=>rfl
 |p::r,h=>by
  simp only[zv,ziU,not_or]at h;have ih:=Xx (N:=r) h.2;unfold rmv at ih⊢;rw[zhs (by simpa using Ne.symm h.1),ih]
theorem Ut{v:Int}:∀{N:List (Int×Int)},lkN v N=none→v∉N.map (·.1)
 |[],_=>by simp
 | p::r,h=>by
  simp only[lkN]at h;split at h
  ·cases h
  ·rename_i hne
   simp only[zv,ziU,not_or];exact⟨fun e=>hne e.symm,Ut h⟩
theorem UK{v w:Int}:∀{N:List (Int×Int)},lkN v N=some w→(N.map (·.1)).Nodup→(N.map (·.2)).Perm (w::(rmv v N).map (·.2))
 | p::r,h,hn=>by
  simp only[zv,List.nodup_cons]at hn;simp only[lkN]at h;split at h
  ·rename_i e
   cases h;have:rmv v (p::r)=r:=by
    unfold rmv;rw[zht (by simpa using e)]
    exact Xx (by rw[←e];exact hn.1)
   rw[this,zv]
  ·rename_i e
   have ih:=UK h hn.2;have:rmv v (p::r)=p::rmv v r:=by
    unfold rmv;rw[zhs (by simpa using e)]
   rw[this,zv,zv];exact(List.Perm.cons _ ih).trans (List.Perm.swap _ _ _)
theorem zyW{v w:Int}(hne:v≠w):∀N:List (Int×Int),lkN v (rmv w N)=lkN v N
 |[]=>rfl
 | p::r=>by
  have ih:=zyW hne r;by_cases e:p.1=w
  ·have:rmv w (p::r)=rmv w r:=by
    unfold rmv;rw[zht (by simpa using e)]
   rw[this,ih];simp only[lkN];rw[if_neg (fun h=>hne (h.symm.trans e))]
  ·have:rmv w (p::r)=p::rmv w r:=by
    unfold rmv;rw[zhs (by simpa using e)]
   rw[this];simp only[lkN,ih]
theorem zuB{v:Int}{N:List (Int×Int)}(h:(N.map (·.1)).Nodup):((rmv v N).map (·.1)).Nodup:=h.sublist (List.Sublist.map _ List.filter_sublist)
section
variable {O:Orc}(H:IsO O){K:MK}{e:Bool}{R N u:Nat}{L:List (Nat×Option AObj)}{n:Nat}{is:List VI}{rg fl:List (Int×Int)}{lb wd nd bid:Nat}{op:List Int}
include H
attribute [local go_sem] xI xH ziS ziW ziV ziQ xW in
theorem LN{k:Nat}(h:MsP K e (.ofNat k::op) R N u L n is rg fl lb wd nd bid)(hN:N<100000000)(hk:k<lb)(m:Nat):Cv ((evW env O).call 33 [.ptr K.mp 0,.int .i64 (.ofNat k)] (KL L n m false [] none)) fun v t=>∃L2 n2 m2 is2 bid2,t=KL L2 n2 m2 false [] none∧n≤n2∧MsP K false op R (N+1) u L2 n2 is2 rg fl lb wd nd bid2∧Fr2 L m L2 m2:=by
 refine xO (F:=f33) (H.no _) rfl rfl (ziF rfl) ?_;have h0:InR R (.ofNat 0):=inR (by have:=h.R0;omega)
 unfold f33 cF;simp only;refine xK ?_;refine xC (QO (H.no _) h hN ⟨.ofNat 65,.ofNat 0,.ofNat 0,.ofNat 0,.ofNat 0,.ofNat k,0,false,[]⟩ (op2:=op) ⟨.br (by simp) hk,h0,h0,h0,zK _,fun _ h=>by cases h⟩ (fun h=>absurd rfl h) (fun h=>absurd rfl h) rfl _) fun v t hv=>?_
 obtain⟨L1,n1,m1,bid1,rfl,q1,h1,f1⟩:=hv;refine xu ?_;refine xF ?_;exact⟨L1,n1,m1,_,bid1,rfl,q1,h1.weak (zo _),f1⟩
end
def km(x:Int×Fn):List AV:=[.int .i64 x.1,uP x.2]
theorem zvk:∀x y,km x=km y→x=y:=fun⟨a,b⟩ ⟨c,d⟩ h=>by
 simp only[km,List.cons.injEq,AV.int.injEq,true_and,and_true]at h;rw[h.1,JW h.2]
theorem zsy(x:Int×Fn):wkL (km x)=km x:=by simp only[km,wkL,wkV,Lg]
theorem zz4(x:Int×Fn):xN (km x)=true:=by simp only[km,uP,xY,qu,ve,pP,x6,xe]
def Ju(nf nc:Nat)(x:Int×Fn):Prop:=x.2.ps.length≤30∧GdT nf nc x.2.b∧wC x.2.b≤150
def GIF(nf nc:Nat)(x:Int×Fn)(v:AV):Prop:=∃F,v=pD F∧GdF nf nc F∧F.fn=x.1∧F.pn=.ofNat x.2.ps.length∧F.rest=x.2.rest
theorem zkj{c:ICode}{fr:Fr}{l:List (Nat×Option AObj)}{m:Nat}{Q:Res→Fr→St→Prop}(h:∀L,L=l→Ev (evC E (evW E O) none c fr (KL L n m false [] none)) Q):Ev (evC E (evW E O) none c fr (KL l n m false [] none)) Q:=h l rfl
def opJ(fl:List (Int×Int)):Nat→List Int
 |0=>fl.map (·.2)
 |1=>(rmv (.ofNat 104) fl).map (·.2)
 |_=>(rmv (.ofNat 105) (rmv (.ofNat 104) fl)).map (·.2)
theorem zmk{fl:List (Int×Int)}(h:∀p∈fl,p.1=.ofNat 104∨p.1=.ofNat 105):opJ fl 2=[]:=by
 have:rmv (.ofNat 105) (rmv (.ofNat 104) fl)=[]:=by
  unfold rmv;rw[List.filter_filter,List.filter_eq_nil_iff];intro p hp;rcases h p hp with e|e<;>simp[e]
 simp only[opJ,this,List.map_nil]
theorem Pl{fl:List (Int×Int)}{i:Nat}(hi:i<2)(h:lkN (.ofNat (104+i)) fl=none):opJ fl (i+1)=opJ fl i:=by
 rcases(by omega:i=0∨i=1)with rfl|rfl
 ·simp only[opJ,Xx (Ut h)]
 ·simp only[opJ];rw[Xx (v:=.ofNat 105) (Ut (by rw[zyW (by decide)];exact h))]
theorem Pm{fl:List (Int×Int)}{i:Nat}{w:Int}(hi:i<2)(h:lkN (.ofNat (104+i)) fl=some w)(hn:(fl.map (·.1)).Nodup):(opJ fl i).Perm (w::opJ fl (i+1)):=by
 rcases(by omega:i=0∨i=1)with rfl|rfl
 ·exact UK h hn
 ·exact UK (by rw[zyW (by decide)];exact h) (zuB hn)
theorem MsP.moreP{K:MK}{e:Bool}{op:List Int}{R N N2 u:Nat}{L:List (Nat×Option AObj)}{is:List VI}{rg fl:List (Int×Int)}{lb wd nd bid:Nat}(h:MsP K e op R N u L n is rg fl lb wd nd bid)(hN:N≤N2):MsP K e op R N2 u L n is rg fl lb wd nd bid:={h.weak hN with ls:=h.ls}
theorem MsP.perm{K:MK}{e:Bool}{op op2:List Int}{R N u:Nat}{L:List (Nat×Option AObj)}{is:List VI}{rg fl:List (Int×Int)}{lb wd nd bid:Nat}(h:MsP K e op R N u L n is rg fl lb wd nd bid)(hp:op.Perm op2):MsP K e op2 R N u L n is rg fl lb wd nd bid:={h with hlb:=(hp.append_left _).symm.trans h.hlb}
theorem MsP.mem{K:MK}{e:Bool}{op:List Int}{R N u:Nat}{L:List (Nat×Option AObj)}{is:List VI}{rg fl:List (Int×Int)}{lb wd nd bid:Nat}{l:Int}(h:MsP K e op R N u L n is rg fl lb wd nd bid)(hl:l∈op):∃k,l=.ofNat k∧k<lb:=by
 have:=h.hlb.mem_iff.1 (List.mem_append_right _ hl:l∈_);simp only[Xy,List.mem_map,List.mem_range]at this;obtain⟨k,h1,h2⟩:=this;exact⟨k,h2.symm,h1⟩
theorem MsP.tl{K:MK}{e:Bool}{op:List Int}{R N u:Nat}{L:List (Nat×Option AObj)}{is:List VI}{rg fl:List (Int×Int)}{lb wd nd bid:Nat}(h:MsP K e op R N u L n is rg fl lb wd nd bid):MsP K e op R N n L n is rg fl lb wd nd bid:={h with us:=fun x hx hu=>by obtain⟨_,g⟩:=(h.ok x hx).2 hu;exact h.wf.lt g}
attribute [local go_sem] xI xH ziS ziW ziV ziQ xW in
theorem zmo(o:O 30=none){L:List (Nat×Option AObj)}{m mp r:Nat}{c0 c2 c3 c4 c5 c6 c7 c8 c9 c10 c11:AV}(g:xD L mp=some (.row 73 [c0,.int .i64 (.ofNat r),c2,c3,c4,c5,c6,c7,c8,c9,c10,c11] false false))(hr:r<1000000):Cv ((evW env O).call 30 [.ptr mp 0] (KL L n m false [] none)) fun v t=>v=.int .i64 (.ofNat r)∧∃m2,t=KL ((mp,some (.row 73 [c0,.int .i64 (.ofNat (r+1)),c2,c3,c4,c5,c6,c7,c8,c9,c10,c11] false false))::L) n m2 false [] none:=by
 refine xO (F:=f30) o rfl rfl (ziF rfl) ?_;unfold f30 cF;simp only;refine xB ?_;refine xB ?_;refine xB ?_;refine xu ?_;refine xF ?_;exact⟨rfl,_,rfl⟩
section
variable {P:Program}{w0:World}(B:Bx P w0){O:Orc}(hO:OrcOk P w0 O)
include B hO
attribute [local go_sem] QM jo Zd kU kT ltF gtF xI xH ziS ziW ziV ziQ xW ww wD in
theorem Lz(H:IsO O)(nf nc:Nat):lg P w0 16 km (Ju nf nc) (GIF nf nc):=by
 intro x hx;refine zih B hO f16 ?_;obtain⟨i,f⟩:=x;obtain⟨hps,hgd,hno⟩:=hx;simp only at hps hgd hno;obtain⟨ps,rest,cont,fr,b⟩:=f;simp only at hps hgd hno;have hent:=fun(K:MK) (R B N u:Nat) (L:List (Nat×Option AObj)) (n:Nat) (h:MsO K false [] R B N u L n) hN m=>zsE H (f:=⟨ps,rest,cont,fr,b⟩) h hN hps m;have hterm:=fun(K:MK) (e1:K.nf=nf) (e2:K.nc=nc) (R B N u:Nat) (L:List (Nat×Option AObj)) (n:Nat) (h:MsO K false [] R B N u L n) hN m=>zmN H (K:=K) (wC b) b (zo _) (by rw[e1,e2];exact hgd) h hN m
 obtain⟨C,hC⟩:∃C,wC b=C:=⟨_,rfl⟩;rw[hC]at hterm hno;clear hC hgd;obtain⟨bk,bv,bo,bn,bf,bas,bks⟩:=b;simp only[km,uP,vK,we,xP,qW]at hent hterm⊢;unfold f16 cF;simp only;refine xB ?_;refine xB ?_;refine xz (xK ?_);refine xC (zmo (H.no _) (xG _ _ _) oM) fun v t hv=>?_;obtain⟨rfl,m2,rfl⟩:=hv;refine xu ?_;refine zkj fun LK hLK=>?_;have g0:=congrArg (fun l=>xD l 0) hLK;have g1:=congrArg (fun l=>xD l 1) hLK;have g2:=congrArg (fun l=>xD l 2) hLK;have g3:=congrArg (fun l=>xD l 3) hLK;have g4:=congrArg (fun l=>xD l 4) hLK;simp (disch:=first|exact dis|fail)only[go_sem,seval,-rO,-rN]at g0
 simp (disch:=first|exact dis|fail)only[go_sem,seval,-rO,-rN]at g1
 simp (disch:=first|exact dis|fail)only[go_sem,seval,-rO,-rN]at g2
 simp (disch:=first|exact dis|fail)only[go_sem,seval,-rO,-rN]at g3
 simp (disch:=first|exact dis|fail)only[go_sem,seval,-rO,-rN]at g4
 have hw:WfA LK 5:=fun j hj=>by
  rw[hLK]
  (repeat rw[xr,if_neg oM])
  rfl
 clear hLK
 have hM:MsO ⟨4,2,3,i,.ofNat ps.length,32,rest,nf,nc⟩ false [] 33 0 33 5 LK 5:=⟨[],[],[],0,0,0,{
  wf:=hw,gm:=g4,gr:=g2,gf:=g3,rf:=(by decide:(2:Nat)≠3),gi:=(fun h=>absurd rfl h),hrg:=(fun _ h=>by cases h),hfl:=(fun _ h=>by cases h),hfn:=List.nodup_nil,ok:=(fun _ h=>by cases h),us:=(fun _ h=>by cases h),hlb:=List.Perm.refl _,ni:=zK _,nl:=zK _,nR:=zo _,nw:=zK _,nn:=zK _,sf:=(by decide:(32:Nat)<33),R0:=zo _,ls:=(fun h=>by cases h)}⟩
 clear g2 g3 g4;refine xz (xK ?_);refine xC (hent _ _ _ _ _ _ _ hM oM _) fun v t hv=>?_;obtain⟨L1,n1,m1,R1,B1,rfl,a1,b1,c1,h1,f1,_⟩:=hv;have q0:=(f1 _ _ g0 rfl).1;have q1:=(f1 _ _ g1 rfl).1;clear g0 g1 hM hw;refine xu ?_;refine xz (xK ?_);refine xC (hterm _ rfl rfl _ _ _ _ _ _ h1 oM _) fun v t hv=>?_;obtain⟨L2,n2,m3,R2,B2,rfl,a2,b2,c2,h2,f2,_⟩:=hv;have p1:=(f2 _ _ q1 rfl).1;clear q0 q1 h1 hent hterm;refine xu ?_;obtain⟨is,rg,fl,wd,nd,bid,hp⟩:=h2;have hfl2:=zmk hp.hfl;have hfn:=hp.hfn;refine xz (xz (xu ?_));refine xE ?_;refine xU (fun i:Nat=>2-i) (fun j f t=>∃T L3 n3 m4 is3 bid3,f=⟨tmL T,[]⟩∧t=KL L3 n3 m4 false [] none∧(tmL T).get 4=some (.ptr 1 0)∧(tmL T).get 5=some (.ptr 4 0)∧(tmL T).get 33=some (.sl n2 0 2 (.fix 2))∧(tmL T).get 34=some (.int .i64 (.ofNat 2))∧(tmL T).get 35=some (.int .i64 (.ofNat j))∧j≤2∧MsP ⟨4,2,3,i,.ofNat ps.length,32,rest,nf,nc⟩ true (opJ fl j) R2 (33+600+7000*C+2*j) n3 L3 n3 is3 rg fl B2 wd nd bid3∧xD L3 1=some (.row 35 [.int .i64 (.ofNat 0),.int .i64 (.ofNat 0),.int .i64 (.ofNat 0),.int .i64 (.ofNat 0),.int .i64 (.ofNat 0),.bool false,.nils] false false)∧xD L3 n2=some (.row 3 [.int .i64 (.ofNat 104),.int .i64 (.ofNat 105)] false false)) (fun j f t hI=>?_) 0 ⟨_,_,_,_,is,bid,rfl,rfl,sV,sV,sV,sV,sV,zK _,?_,?_,xG _ _ _⟩
 ·clear p1;obtain⟨T,L3,n3,m4,is3,bid3,rfl,rfl,t4,t5,t33,t34,t35,hj,h3,k1,k2⟩:=hI;have hR0:=h3.R0;have i0:InR R2 (.ofNat 0):=inR oM;have gm:=h3.gm;simp only[uh]at gm;by_cases hj2:j<2
  ·have gf:=h3.gf;simp only at gf;rcases(by omega:j=0∨j=1)with rfl|rfl
   ·have hg:kz (.ofNat 104) (uN fl)=_:=pe (.ofNat 104) fl;cases hl:lkN (.ofNat 104) fl with
    |some l=>
     rw[hl,Option.map_some]at hg;have hpm:=Pm (i:=0) oM hl hfn;obtain⟨k,rfl,hk⟩:=h3.mem (l:=l) (hpm.mem_iff.2 zi9);have h3':=h3.perm hpm;refine xB ?_;refine xz (x4 sW ?_);refine xu ?_;refine xz (xE ?_);refine xB ?_;refine xB ?_;refine xB ?_;refine x4 sW ?_;refine xz (xK ?_);refine xC (LN H h3' oM hk _) fun v t hv=>?_;obtain⟨L4,n4,m5,is4,bid4,rfl,hn4,h4,f4⟩:=hv;have k14:=(f4 _ _ k1 rfl).1;have k24:=(f4 _ _ k2 rfl).1;clear k1 k2 gf hg gm;refine xu ?_;refine xK ?_;refine xC (QO (H.no _) h4 oM ⟨.ofNat 72,.ofNat 0,.ofNat 0,.ofNat 0,.ofNat 104,.ofNat 0,0,false,[]⟩ (op2:=opJ fl (0+1)) ⟨.leave (by simp),i0,i0,i0,zK _,fun _ h=>by cases h⟩ (fun h=>absurd rfl h) (fun h=>absurd rfl h) rfl _) fun v t hv=>?_
     obtain⟨L5,n5,m6,bid5,rfl,hn5,h5,f5⟩:=hv;have k15:=(f5 _ _ k14 rfl).1;have k25:=(f5 _ _ k24 rfl).1;clear k14 k24;refine xu ?_;refine xu ?_;exact⟨0+1,⟨_,L5,n5,_,_,bid5,rfl,rfl,sV,sV,sV,sV,sV,oM,(MsP.tl h5).moreP oM,k15,k25⟩,oM⟩
    |none=>
     rw[hl,Option.map_none]at hg;have hpm:=Pl (i:=0) oM hl;rw[←hpm]at h3;refine xB ?_;refine xz (x4 sW ?_);refine xu ?_;refine xz (xE ?_);refine xB ?_;refine xB ?_;refine xB ?_;refine x7 sW ?_;refine xu ?_;refine xu ?_;exact⟨0+1,⟨_,L3,n3,_,is3,bid3,rfl,rfl,sV,sV,sV,sV,sV,oM,h3.moreP oM,k1,k2⟩,oM⟩
   ·have hg:kz (.ofNat 105) (uN fl)=_:=pe (.ofNat 105) fl;cases hl:lkN (.ofNat 105) fl with
    |some l=>
     rw[hl,Option.map_some]at hg;have hpm:=Pm (i:=1) oM hl hfn;obtain⟨k,rfl,hk⟩:=h3.mem (l:=l) (hpm.mem_iff.2 zi9);have h3':=h3.perm hpm;refine xB ?_;refine xz (x4 sW ?_);refine xu ?_;refine xz (xE ?_);refine xB ?_;refine xB ?_;refine xB ?_;refine x4 sW ?_;refine xz (xK ?_);refine xC (LN H h3' oM hk _) fun v t hv=>?_;obtain⟨L4,n4,m5,is4,bid4,rfl,hn4,h4,f4⟩:=hv;have k14:=(f4 _ _ k1 rfl).1;have k24:=(f4 _ _ k2 rfl).1;clear k1 k2 gf hg gm;refine xu ?_;refine xK ?_;refine xC (QO (H.no _) h4 oM ⟨.ofNat 72,.ofNat 0,.ofNat 0,.ofNat 0,.ofNat 105,.ofNat 0,0,false,[]⟩ (op2:=opJ fl (1+1)) ⟨.leave (by simp),i0,i0,i0,zK _,fun _ h=>by cases h⟩ (fun h=>absurd rfl h) (fun h=>absurd rfl h) rfl _) fun v t hv=>?_
     obtain⟨L5,n5,m6,bid5,rfl,hn5,h5,f5⟩:=hv;have k15:=(f5 _ _ k14 rfl).1;have k25:=(f5 _ _ k24 rfl).1;clear k14 k24;refine xu ?_;refine xu ?_;exact⟨1+1,⟨_,L5,n5,_,_,bid5,rfl,rfl,sV,sV,sV,sV,sV,oM,(MsP.tl h5).moreP oM,k15,k25⟩,oM⟩
    |none=>
     rw[hl,Option.map_none]at hg;have hpm:=Pl (i:=1) oM hl;rw[←hpm]at h3;refine xB ?_;refine xz (x4 sW ?_);refine xu ?_;refine xz (xE ?_);refine xB ?_;refine xB ?_;refine xB ?_;refine x7 sW ?_;refine xu ?_;refine xu ?_;exact⟨1+1,⟨_,L3,n3,_,is3,bid3,rfl,rfl,sV,sV,sV,sV,sV,oM,h3.moreP oM,k1,k2⟩,oM⟩
  ·obtain rfl:j=2:=oM;rw[hfl2]at h3;have hsc2:=jj 8 bid3 is3.length;simp only[q8]at hsc2;have h4:=fun o=>h3.up (L2:=(1,o)::L3) (n2:=n3) (h3.wf.same (h3.wf.lt k1)) (fun q hq=>by
    by_cases e:q=1
    ·subst e;exact .inr ⟨_,k1,rfl,.inl rfl⟩
    ·exact .inl (by rw[xr,if_neg e]))
   refine xu ?_;refine xu ?_;refine xF ?_;refine⟨pD ⟨i,R2,nd,.ofNat ps.length,rest,is3.map VI.j⟩,⟨_,rfl,⟨⟨B2,?_,?_,fun y hy=>?_⟩,?_,hR0,?_,?_,?_⟩,rfl,rfl,rfl⟩,by simp only[pD,ve,gC],?_⟩
   ·have:=h3.nl;omega
   ·rw[LR];have:=h3.hlb
    rwa [ziJ]at this
   ·obtain⟨x,hx,rfl⟩:=List.mem_map.1 hy;have:=(h3.ok x hx).1;exact⟨this.op,this.d,this.a,this.b,this.u⟩
   ·have:=h3.nR;simp only;omega
   ·have:=h3.nn;simp only;omega
   ·have:=h3.ni;simp only[List.length_map];omega
   ·obtain⟨x,hx,ho⟩:=h3.ls rfl;exact⟨x.j,by simp only[List.getLast?_map];rw[Option.mem_def.1 hx];rfl,ho⟩
   ·simp only[pD,qz];exact zyo (wB (wU _ _ _) (wB (wU _ _ _) (wB (wU _ _ _) (wB (wU _ _ _) (wB (wU _ _ _) (wB (w7 _ _) (wB (zkq (fun id o h=>by rw[x5];exact h) (fun x hx=>((h4 _).ok x hx).2) (h4 _).gi) ji)))))))
 ·exact(hp.tl.up (L2:=(n2,_)::L2) (n2:=n2+1) ((hp.wf.up oM).same oM) (Oth.same fun j hj=>by rw[xr,if_neg oM])).tl
 ·rw[xr,if_neg oM];exact p1
end
end Go.Proofs.YtbdfljdgapkbcaaGreatDoor.Ev

/- A part of the evaluator and of its soundness: what it answers, the model's run answers. No conditions. -/
import Derived.Test.YtbdfljdgapkbcaaGreatDoorEvB
import Derived.Laws.Append
import Derived.Lib.UnsafeStr
import Derived.KernelRfl
set_option linter.unusedSimpArgs false
set_option linter.unusedVariables false
set_option linter.defProp false
open List renaming length → zM, map_toArray → yN, length_append → yO, getElem?_append_left → yP, take_of_length_le → yb, eq_nil_of_length_eq_zero → yS, getElem?_eq_getElem → yU, map_cons → zY, take_append_of_le_length → yY, getElem?_take → z4, getElem?_append_right → yZ, map_nil → y7, drop_zero → yE
open Bool renaming and_eq_true → zP, eq_false_iff → zT, true_and → y9
open Nat renaming ble → zH, beq → zD, mul → zF, le_refl → zS, add_mul → yR, blt → zG, add → zE, le_div_iff_mul_le → yV, mul_le_mul_right → yW, lt_succ_self → yx, zero_add → y8, add_zero → xc, zero_le → yh
open Array renaming getElem?_toList → zX, length_toList → yQ, ext' → yT, toArray_toList → yj, toList_append → xb
open Option renaming map_none → yX
namespace Go.Proofs.YtbdfljdgapkbcaaGreatDoor.Ev
variable {P:Program}{w X w':World}{s s':U}{v:Z}{t ty u:TypeId}{x' y':Value}{esz bytes e n need b f k:Nat}{cs l:zt}{a:Act}{B:Blk}{o:AObj}{m y:Operand}
def Ou{I:Phi}(r:Rel P X I s.get w)(hwf:Wf s)(hf:I s.next=none){x:Z}(hu:P.underlying t=some .string)(h:oRs s x=some (v,s'))(hx:VR I x x'):
  ∃I' y w',(Instr.range t x').run P w=.ok y w'/\Step P X I s w I' s' w'/\VR I' v y:=by
 unfold oRs at h;split at h
 .cases h;simp only[VR]at hx;obtain⟨bs,rfl,rfl⟩:=hx;refine⟨_,_,_,?_,Step.alloc r hwf hf (w':={w with heap:=w.heap.push (.stringIter bs 0)}) (tot:=0) rfl rfl rfl rfl ⟨rfl,bs,uI _,rfl⟩,V2⟩
  simp[Instr.range,xV hu]
 .cases h
theorem FC(s:ByteArray)(i k:Nat):((ur s).drop i)[k]? =if i+k<s.size then some (s.get! (i+k)).toNat else none:=by
 rw[List.getElem?_drop,fq];by_cases h:i+k<s.size
 .rw[wc h,ByteArray.getElem?_lt' s _ h];have:s.get! (i+k)=s[i+k]:=by
   show s.data[i+k]! =s.data[i+k];exact getElem!_pos s.data (i+k) h
  rw[this];rfl
 .rw[x0 h,ByteArray.getElem?_ge' s _ h];rfl
def HK(c:Nat):Utf8.valid (c:Int)=qS c:=Ep c
theorem Bn{s:ByteArray}{i:Nat}(h:i<s.size):Utf8.decode s i=jw ((ur s).drop i):=by
 have key:=FC s i;generalize hl:(ur s).drop i=l at key;have hb:∀a b:Nat,zD a b=(a==b):=λa b=>by
  cases h':zD a b with
  |true=>rw[wH]at h';simp[h']
  |false=>symm;rw[beq_eq_false_iff_ne];intro he;rw[wH.2 he]at h';cases h'
 have hle:∀a b:Nat,zH a b=decide (a<=b):=λa b=>by
  cases h':zH a b with
  |true=>rw[qp (wB.1 h')]
  |false=>symm;exact qb (λhe=>by rw[wB.2 he]at h';cases h')
 have k0:=key 0;rw[wc J]at k0;unfold Utf8.decode;cases l with
 |nil=>simp at k0
 | cons b0 r=>
  have k0':(s.get! (i+0)).toNat=b0:=by simpa using k0.symm
  simp only[k0',jw,Wp];by_cases h0:b0<128
  .rw[wc h0,wc h0]
  rw[x0 h0,x0 h0];have k1:=key 1;cases r with
  |nil=>
   have n1:¬i+1<s.size:=λhh=>by rw[wc hh]at k1;simp at k1
   simp[n1];rfl
  | cons b1 r=>
   have l1:i+1<s.size:=by
    by_cases hh:i+1<s.size
    .exact hh
    .rw[x0 hh]at k1;simp at k1
   rw[wc l1]at k1;have k1':(s.get! (i+1)).toNat=b1:=by simpa using k1.symm
   simp only[k1',l1,decide_true,y9,HR,hb,pY,hle];by_cases h6:(b0/32==6&&b1/64==2)=true
   .rw[wc h6];show _=bif (b0/32==6&&b1/64==2)then _ else _;rw[h6,x6];by_cases h7:128<=b0%32*64+b1%64
    .rw[wc h7];show _=bif decide (128<=b0%32*64+b1%64)then _ else _;rw[qp h7];rfl
    .rw[x0 h7];show _=bif decide (128<=b0%32*64+b1%64)then _ else _;rw[qb h7];rfl
   rw[x0 h6];have h6':(b0/32==6&&b1/64==2)=false:=by simpa using h6
   show _=bif (b0/32==6&&b1/64==2)then _ else _;rw[h6',wh];have k2:=key 2;cases r with
   |nil=>
    have n2:¬i+2<s.size:=λhh=>by rw[wc hh]at k2;simp at k2
    simp[n2];rfl
   | cons b2 r=>
    have l2:i+2<s.size:=by
     by_cases hh:i+2<s.size
     .exact hh
     .rw[x0 hh]at k2;simp at k2
    rw[wc l2]at k2;have k2':(s.get! (i+2)).toNat=b2:=by simpa using k2.symm
    simp only[k2',l2,decide_true,y9,lu,HK];by_cases h8:(b0/16==14&&b1/64==2&&b2/64==2)=true
    .rw[wc h8];show _=bif (b0/16==14&&b1/64==2&&b2/64==2)then _ else _;rw[h8,x6];by_cases h9:2048<=b0%16*4096+b1%64*64+b2%64/\qS (b0%16*4096+b1%64*64+b2%64)=true
     .rw[wc (by simpa using h9)]
      show _=bif decide (2048<=b0%16*4096+b1%64*64+b2%64)&&qS (b0%16*4096+b1%64*64+b2%64)then _ else _;rw[qp h9.1,h9.2];rfl
     .rw[x0 (by simpa using h9)]
      show _=bif decide (2048<=b0%16*4096+b1%64*64+b2%64)&&qS (b0%16*4096+b1%64*64+b2%64)then _ else _;have:(decide (2048<=b0%16*4096+b1%64*64+b2%64)&&qS (b0%16*4096+b1%64*64+b2%64))=false:=by
       rw[zT];intro hh;rw[zP,decide_eq_true_iff]at hh;exact h9 hh
      rw[this];rfl
    rw[x0 h8];have h8':(b0/16==14&&b1/64==2&&b2/64==2)=false:=by simpa using h8
    show _=bif (b0/16==14&&b1/64==2&&b2/64==2)then _ else _;rw[h8',wh];have k3:=key 3;cases r with
    |nil=>
     have n3:¬i+3<s.size:=λhh=>by rw[wc hh]at k3;simp at k3
     simp[n3];rfl
    | cons b3 r=>
     have l3:i+3<s.size:=by
      by_cases hh:i+3<s.size
      .exact hh
      .rw[x0 hh]at k3;simp at k3
     rw[wc l3]at k3;have k3':(s.get! (i+3)).toNat=b3:=by simpa using k3.symm
     simp only[k3',l3,decide_true,y9,YZ,HK];by_cases h10:(b0/8==30&&b1/64==2&&b2/64==2&&b3/64==2)=true
     .rw[wc h10];show _=bif (b0/8==30&&b1/64==2&&b2/64==2&&b3/64==2)then _ else _;rw[h10,x6];by_cases h9:65536<=b0%8*262144+b1%64*4096+b2%64*64+b3%64/\qS (b0%8*262144+b1%64*4096+b2%64*64+b3%64)=true
      .rw[wc (by simpa using h9)]
       show _=bif decide (65536<=b0%8*262144+b1%64*4096+b2%64*64+b3%64)&&qS (b0%8*262144+b1%64*4096+b2%64*64+b3%64)then _ else _;rw[qp h9.1,h9.2];rfl
      .rw[x0 (by simpa using h9)]
       show _=bif decide (65536<=b0%8*262144+b1%64*4096+b2%64*64+b3%64)&&qS (b0%8*262144+b1%64*4096+b2%64*64+b3%64)then _ else _;have:(decide (65536<=b0%8*262144+b1%64*4096+b2%64*64+b3%64)&&qS (b0%8*262144+b1%64*4096+b2%64*64+b3%64))=false:=by
        rw[zT];intro hh;rw[zP,decide_eq_true_iff]at hh;exact h9 hh
       rw[this];rfl
     .rw[x0 h10];have h10':(b0/8==30&&b1/64==2&&b2/64==2&&b3/64==2)=false:=by simpa using h10
      show _=bif (b0/8==30&&b1/64==2&&b2/64==2&&b3/64==2)then _ else _;rw[h10'];rfl
def M6{I:Phi}(r:Rel P X I s.get w){x:Z}(h:oNs s x=some (v,s'))(hx:VR I x x'):
  ∃y w',(Instr.next x' true ty).run P w=.ok y w'/\Step P X I s w I s' w'/\VR I v y:=by
 unfold oNs at h;split at h
 .rename_i Y
  simp only[VR]at hx;obtain⟨B,hB,rfl⟩:=hx;split at h
  .rename_i t pos hg
   obtain⟨B',hB',h0,bs,hb,rfl⟩:=r.obj Y _ hg;rw[hB]at hB';cases hB';have hgo:=qU (P:=P) hb (by simp)
   rw[pE]at h;cases hp:(ur bs).drop pos with
   | nil=>
    rw[hp]at h;simp only[x7,wF]at h;obtain⟨rfl,rfl⟩:=h;have hge:¬pos<bs.size:=by
     intro hlt;have:=congrArg zM hp;rw[List.length_drop,q9]at this;simp at this;omega
    refine⟨.tuple #[.bool false],w,?_,Step.refl r,by simp only[VR];exact⟨[.bool false],rfl,VRL.cons (by simp[VR]) (VRL.nil I)⟩⟩
    simp[Instr.next,h0,hgo,hge]
   | cons b rr=>
    rw[hp]at h;simp only[x7,wF]at h;obtain⟨rfl,rfl⟩:=h;have hpos:pos<bs.size:=by
     have:=congrArg zM hp;rw[List.length_drop,q9]at this;simp at this;omega
    have hd:=Bn hpos;rw[hp]at hd;refine⟨.tuple #[.bool true,goInt pos,.int .i32 ((jw (b::rr)).1:Int)],_,?_,Step.setObj r hg hB hb (x':=.stringIter bs (pos+(jw (b::rr)).2)) ⟨h0,bs,pS hb,rfl⟩,?_⟩
    .simp[Instr.next,h0,hgo,hpos,hd,v8 _ hb (by simp)]
    .simp only[VR];exact⟨[.bool true,goInt pos,.int .i32 ((jw (b::rr)).1:Int)],rfl,VRL.cons (by simp[VR]) (VRL.cons (by simp only[VR];rfl) (VRL.cons (by simp only[VR];rfl) (VRL.nil I)))⟩
  .cases h
 .cases h
def Oj{I:Phi}(r:Rel P X I s.get w)(hwf:Wf s)(hf:I s.next=none){kt e:TypeId}{x:Z}(hu:P.underlying t=some (.map kt e))(h:oRm s x=some (v,s'))(hx:VR I x x'):
  ∃I' y w',(Instr.range t x').run P w=.ok y w'/\Step P X I s w I' s' w'/\VR I' v y:=by
 unfold oRm at h;split at h
 .cases h;simp only[VR]at hx;subst hx;refine⟨_,_,_,?_,Step.alloc r hwf hf (w':={w with heap:=w.heap.push (.mapIter none 0 #[] 0)}) (tot:=0) rfl rfl rfl rfl ⟨rfl,none,uI _,rfl⟩,V2⟩
  simp[Instr.range,xV hu]
 .rename_i Y
  simp only[VR]at hx;obtain⟨B,hB,rfl⟩:=hx;split at h
  .rename_i es clock hg
   cases h;obtain⟨ents,hb,hent⟩:=X1 r hg hB;have hgo:=qU (P:=P) hb (by simp)
   refine⟨_,_,_,?_,Step.alloc r hwf hf (w':={w with heap:=w.heap.push (.mapIter (some B.b) clock #[] clock)}) (tot:=0) rfl rfl rfl rfl ⟨rfl,some B.b,uI _,B,?_,rfl⟩,V2⟩
   .simp[Instr.range,xV hu,hgo]
   .exact Phi.set_sub hf _ _ hB
  .cases h
 .cases h
def Zp(n:Nat):∀l:zr,Xb n l=l.contains n
 |[]=>rfl
 | m::r=>by
  show (bif zD n m then true else Xb n r)=_;rw[Zp n r,List.contains_cons];have:zD n m=(n==m):=by
   by_cases h:n=m
   .subst h;simp
   .rw[beq_eq_false_iff_ne.2 h,zT,ne_eq,Nat.beq_eq];exact h
  rw[this];cases (n==m)<;>simp
def WF{I:Phi}(seen:zr):∀{l:zf} {es:zA},EntRel I l es->EntRel I (u9 seen l) (es.filter λe=> !seen.contains e.born)
 |[],_,h=>by simp only[EntRel]at h;subst h;simp[u9,EntRel]
 |p::l,_,h=>by
  obtain⟨e,es',rfl,h1,h2,h3,h4⟩:=h;simp only[u9,Zp,<-h3];cases hc:seen.contains e.born with
  |true=>simp only[x6,List.filter_cons,hc];exact WF seen h4
  |false=>simp only[wh,List.filter_cons,hc];exact⟨e,_,rfl,h1,h2,h3,WF seen h4⟩
def KM{I:Phi}(last:Nat):∀{l:zf} {es:zA},EntRel I l es->es.all (λe=>decide (e.born>=last))=KJ last l
 |[],_,h=>by simp only[EntRel]at h;subst h;rfl
 |p::l,_,h=>by
  obtain⟨e,es',rfl,h1,h2,h3,h4⟩:=h;simp only[KJ,List.all_cons,KM last h4,<-h3];by_cases hc:last<=e.born
  .rw[show zH last e.born=true from wB.2 hc];simp[hc]
  .rw[show zH last e.born=false from by rw[zT,ne_eq,wB];exact hc];simp[hc]
def M4 {I:Phi}(r:Rel P X I s.get w){x:Z}(h:oNm s x=some (v,s'))(hx:VR I x x'):
  ∃y w',(Instr.next x' false ty).run P w=.ok y w'/\Step P X I s w I s' w'/\VR I v y:=by
 have hover:VR I (.tup [.bool false]) (.tuple #[.bool false]):=by simp only[VR];exact⟨[.bool false],rfl,VRL.cons (by simp[VR]) (VRL.nil I)⟩
 unfold oNm at h;split at h
 .rename_i Y
  simp only[VR]at hx;obtain⟨B,hB,rfl⟩:=hx;split at h
  .rename_i since seen last hg
   obtain⟨B',hB',h0,m',hb,rfl⟩:=r.obj Y _ hg;rw[hB]at hB';cases hB';have hgo:=qU (P:=P) hb (by simp)
   simp only[x7,wF]at h;obtain⟨rfl,rfl⟩:=h;exact⟨.tuple #[.bool false],w,by simp[Instr.next,h0,hgo],Step.refl r,hover⟩
  .rename_i m since seen last hg
   obtain⟨B',hB',h0,m',hb,Bm,hBm,rfl⟩:=r.obj Y _ hg;rw[hB]at hB';cases hB';have hgo:=qU (P:=P) hb (by simp)
   split at h
   .rename_i es clock hgm
    obtain⟨ents,hbm,hent⟩:=X1 r hgm hBm;have hgom:=qU (P:=P) hbm (by simp)
    cases hgone:eL seen last es with
    |true=>rw[hgone]at h;simp at h
    | false=>
     rw [hgone]at h;simp only[wh]at h;have hnogone:¬((!(seen.toArray).isEmpty&& !ents.isEmpty&&ents.all (·.born>=last))=true):=by
      have e1:ents.all (λe=>decide (e.born>=last))=KJ last es:=by rw[<-Array.all_toList,KM last hent]
      unfold eL at hgone;intro hh;simp only[zP,Bool.not_eq_true']at hh;obtain⟨⟨a1,a2⟩,a3⟩:=hh;rw[e1]at a3;cases seen with
      |nil=>simp at a1
      | cons _ _=>
       cases es with
       |nil=>
        have:=EntRel.length hent;simp at this;have:ents.isEmpty=true:=by simpa [Array.isEmpty]using this.symm
        rw[this]at a2;cases a2
       |cons _ _=>simp only at hgone;rw[a3]at hgone;cases hgone
     have hleft:=WF seen hent;have hfl:(ents.filter λe=> !seen.toArray.contains e.born).toList=ents.toList.filter λe=> !seen.contains e.born:=by simp
     cases hl:u9 seen es with
     |nil=>
      rw[hl]at h hleft;simp only[YV,x7,wF]at h;obtain⟨rfl,rfl⟩:=h;simp only[EntRel]at hleft;have hempty:(ents.filter λe=> !seen.toArray.contains e.born)=#[]:=by apply yT;rw[hfl,hleft]
      refine⟨.tuple #[.bool false],w,?_,Step.refl r,hover⟩;simp only[Instr.next,h0,xc,Sem.run_bind,hgo,Result.andThen_ok,hgom]
      rw[x0 hnogone,hempty];simp[Question.forced]
     | cons p rest=>
      rw[hl]at h hleft;cases rest with
      |cons _ _=>simp[YV]at h
      | nil=>
       simp only[YV]at h;cases hlt:zG p.2.2 since with
       |false=>rw[hlt]at h;simp at h
       | true=>
        rw[hlt]at h;simp only[x6,x7,wF]at h;obtain⟨rfl,rfl⟩:=h;obtain⟨e,es',heq,h1,h2,h3,h4⟩:=hleft;simp only[EntRel]at h4;subst h4;have hone:(ents.filter λe=> !seen.toArray.contains e.born)=#[e]:=by apply yT;rw[hfl,heq]
        have hborn:e.born<since:=by rw[h3];exact w9.1 hlt
        have hnge:¬since<=e.born:=J;refine⟨.tuple #[.bool true,e.key,e.val],_,?_,Step.setObj r hg hB hb (x':=.mapIter (some Bm.b) since (seen.toArray.push e.born) clock) ⟨h0,some Bm.b,?_,Bm,hBm,rfl⟩,?_⟩
        .simp only[Instr.next,h0,xc,Sem.run_bind,hgo,Result.andThen_ok,hgom]
         rw[x0 hnogone,hone];simp[Question.forced,hborn,hnge,v8 _ hb (by simp)]
        .rw[pS hb];simp[h3]
        .simp only[VR];exact⟨[.bool true,e.key,e.val],rfl,VRL.cons (by simp[VR]) (VRL.cons h1 (VRL.cons h2 (VRL.nil I)))⟩
   .cases h
  .cases h
 .cases h
def eS:∀{l:zr} {b:Nat},Qd l=some b->l.toArray.back?=some b
 |[],_,h=>by simp[Qd]at h
 |[n],_,h=>by simp[Qd]at h;subst h;rfl
 |n::m::r,b,h=>by
  simp only[Qd]at h;have:=eS (l:=m::r) h;simp only[List.back?_toArray]at this|-
  simpa using this
def LT{I:Phi}{b:Nat}:∀{l:zf} {es:zA} {p:Z×Z},EntRel I l es->Vx b l=some p->∃e,es.find? (·.born==b)=some e/\VR I p.1 e.key/\VR I p.2 e.val
 |[],_,_,_,h=>by simp[Vx]at h
 | q::l,_,p,h,hf=>by
  obtain⟨e,es',rfl,h1,h2,h3,h4⟩:=h;simp only[Vx,<-h3]at hf;cases hb:zD e.born b with
  |true=>
   rw[hb]at hf;simp only[x6,x7]at hf;subst hf;exact⟨e,by simp[wH.1 hb],h1,h2⟩
  | false=>
   rw[hb]at hf;simp only[wh]at hf;obtain⟨e',g1,g2⟩:=LT h4 hf;refine⟨e',?_,g2⟩;have:(e.born==b)=false:=by
    rw[beq_eq_false_iff_ne];intro he;rw[wH.2 he]at hb;cases hb
   rw[List.find?_cons,this];exact g1
def FE {I:Phi}(r:Rel P X I s.get w){x:Z}(h:vEn s x=some v)(hx:VR I x x'):∃y,(Instr.entry x').run P w=.ok y w/\VR I v y:=by
 unfold vEn at h;split at h
 .rename_i Y
  simp only[VR]at hx;obtain⟨B,hB,rfl⟩:=hx;split at h
  .rename_i m since seen stepped hg
   obtain⟨B',hB',h0,m',hb,Bm,hBm,rfl⟩:=r.obj Y _ hg;rw[hB]at hB';cases hB';have hgo:=qU (P:=P) hb (by simp)
   cases hl:Qd seen with
   |none=>rw[hl]at h;simp at h
   | some b=>
    rw[hl]at h;simp only at h;split at h
    .rename_i es clock hgm
     obtain⟨ents,hbm,hent⟩:=X1 r hgm hBm;have hgom:=qU (P:=P) hbm (by simp)
     cases hc:zD clock stepped with
     |false=>rw[hc]at h;simp at h
     | true=>
      rw[hc]at h;simp only[x6]at h;rw[wH]at hc;subst hc;cases hf:Vx b es with
      |none=>rw[hf]at h;simp[Ac]at h
      |some p=>
       rw[hf]at h;simp only[Ac,x7]at h;subst h;obtain⟨e,g1,g2,g3⟩:=LT hent hf;have g1':ents.find? (·.born==b)=some e:=by rw[<-Array.find?_toList];exact g1
       refine⟨.tuple #[e.key,e.val],?_,zvS g2 g3⟩;simp[Instr.entry,h0,hgo,eS hl,hgom,g1']
    .cases h
  .cases h
 .cases h
def UO{I:Phi}(r:Rel P X I s.get w){ts:Array TypeId}{k:LK}{x:Z}(hts:ts[0]? =some t)
  (hu:match k with|.s=>P.underlying t=some .string|.v=>∃e,P.underlying t=some (.slice e)|.m=>∃k e,P.underlying t=some (.map k e))
  (h:Q0 s k x=some v) (hx:VR I x x'):∃y,(Builtin.len_ ts ty #[x']).run P w=.ok y w/\VR I v y:=by
 unfold Q0 at h;cases k with
 |s=>
  simp only at h hu;split at h
  .cases h;simp only[VR]at hx;obtain⟨b,rfl,rfl⟩:=hx;exact⟨_,by simp[Builtin.len_,hts,xV hu];rfl,by simp only[VR,qw,q9];rfl⟩
  .cases h
 | v=>
  simp only at h hu;obtain⟨e,hd⟩:=hu;split at h
  .cases h;simp only[VR]at hx;subst hx;exact⟨_,by simp[Builtin.len_,hts,xV hd];rfl,by simp only[VR];rfl⟩
  .cases h;simp only[VR]at hx;obtain⟨a,k,rfl⟩:=hx;exact⟨_,by simp[Builtin.len_,hts,xV hd];rfl,by simp only[VR];rfl⟩
  .cases h;simp only[VR]at hx;obtain⟨B,k,hB,rfl,_⟩:=hx;exact⟨_,by simp[Builtin.len_,hts,xV hd];rfl,by simp only[VR];rfl⟩
  .cases h;simp only[VR]at hx;obtain⟨_,⟨rfl,a,rfl⟩|⟨b,o,k,ys,rfl,_⟩⟩:=hx
   .exact⟨_,by simp[Builtin.len_,hts,xV hd];rfl,by simp only[VR];rfl⟩
   .exact⟨_,by simp[Builtin.len_,hts,xV hd];rfl,by simp only[VR];rfl⟩
  .cases h;simp only[VR]at hx;obtain⟨_,_,_,_,B,ys,_,rfl,_⟩:=hx;exact⟨_,by simp[Builtin.len_,hts,xV hd];rfl,by simp only[VR];rfl⟩
  .cases h
 | m=>
  simp only at h hu;obtain⟨kt,e,hd⟩:=hu;split at h
  .cases h;simp only[VR]at hx;subst hx;exact⟨_,by simp[Builtin.len_,hts,xV hd];rfl,by simp only[VR];rfl⟩
  .rename_i Y
   simp only[VR]at hx;obtain⟨B,hB,rfl⟩:=hx;split at h
   .rename_i es clock hg
    cases h;obtain⟨ents,hb,hent⟩:=X1 r hg hB;have hgo:=qU (P:=P) hb (by simp)
    refine⟨goInt ents.size,by simp[Builtin.len_,hts,xV hd,hgo],?_⟩
    simp only[VR,qw,EntRel.length hent];rfl
   .rename_i es hg
    cases h;obtain⟨ents,clk,hb,l,q1,q2,_⟩:=Kn r hg hB;have hgo:=qU (P:=P) hb (by simp)
    refine⟨goInt ents.size,by simp[Builtin.len_,hts,xV hd,hgo],?_⟩
    have:=q1.length_eq;simp only[VR,qw,q2.length,this];rfl
   .cases h
  .cases h
def Step.del{I:Phi}(r:Rel P X I s.get w)(Y:Nat)(hgd:s.get Y=some o)(hng:vN o=false:=by rfl):Step P X I s w I (s.del Y) w:=by
 have hget:∀i o,(s.del Y).get i=some o->s.get i=some o:=λi o h=>by
  have h1:=wZ h;have h2:=vl h;rw[uw (s:=s) (s':=s.del Y) rfl rfl]at h2;rw[show (s.del Y).objs=s.objs.del Y from rfl,Trie.get_del]at h1;by_cases e:i=Y
  .rw[wc e]at h1;cases h1
  .rw[x0 e]at h1;rw[kq,h2];exact h1
 exact⟨aO s Y (wZ hgd) (vl hgd) hng,r.sub hget,λ_ _=>rfl,zS _,λ_ _ _=>rfl,λi B h1 h2=>absurd (show i<s.next from h2) J,λ_ _ _ h=>h,λ_ _ _ h=>.inl h⟩
def Step.moveZ{I:Phi}(r:Rel P X I s.get w)(hf:I s.next=none){Y:Nat}{o':AObj}{B':Blk}{z:Nat->Nat->Option Value}(hg:s.get Y=some o)(hB:I Y=some B)(hbb:B'.b=B.b)
  (hother:∀b,b≠B.b->w'.heap[b]? =w.heap[b]?) (hsz:w'.heap.size=w.heap.size) (hos:w'.os=w.os) (ht:w'.tape=w.tape) (hu:w'.output=w.output)
  (hz1:∀b,b≠B.b->∀i,z b i=I.z b i) (hz0:∀i v,I.z B.b i=some v->z B.b i=some v) (hz2:∀i v,z B.b i=some v->∃c e fr,w'.heap[B.b]? =some (.cells c e fr)/\c[i]? =some v) (hsep:SepOf o' B' z)
  (ho:ObjRel P ((I.set s.next B').zset z) w' o' B') (hng:vN o=false):Step P X I s w ((I.set s.next B').zset z) ((s.del Y).alloc o') w':=by
 have hzs:∀b i v,I.z b i=some v->z b i=some v:=λb i v h=>by
  by_cases e:b=B.b
  .subst e;exact hz0 i v h
  .rw[hz1 b e];exact h
 have hsub:Sub I ((I.set s.next B').zset z):=⟨(Phi.set_sub (B:=B') hf).of,hzs⟩
 have hnew:=r.new hg hB hng;have hext:=(aO s Y (wZ hg) (vl hg) hng).trans (pg (s.del Y) o');have hget:∀i x,((s.del Y).alloc o').get i=some x->(i=s.next/\x=o')\/(i≠s.next/\i≠Y/\s.get i=some x):=λi x hx=>by
  have h1:=wZ hx;have h2:=vl hx;rw[uw (s:=s) (s':=(s.del Y).alloc o') rfl rfl]at h2;rw[show ((s.del Y).alloc o').objs=(s.objs.del Y).set s.next o' from rfl,Trie.get_set]at h1
  by_cases e:i=s.next
  .rw[wc e]at h1;exact .inl ⟨e,by cases h1;rfl⟩
  .rw[x0 e,Trie.get_del]at h1;by_cases e2:i=Y
   .rw[wc e2]at h1;cases h1
   .rw[x0 e2]at h1;exact .inr ⟨e,e2,by rw[kq,h2];exact h1⟩
 have hne:Y≠s.next:=λe=>by rw[e,hf]at hB;cases hB
 have hmk:((s.del Y).alloc o').wm.testBit Y=true:=by show (kr s.wm Y).testBit Y=true;rw[qC];simp
 refine⟨hext,⟨?_,?_,?_,?_,?_,?_,?_⟩,?_,J,?_,?_,hzs,?_⟩
 .refine⟨hos.trans r.base.os,ht.trans r.base.tape,hu.trans r.base.output,by have:=r.base.size;omega,λk hk=>?_⟩
  exact(hother k J).trans (r.base.block k hk)
 .intro i x hx;rcases hget i x hx with ⟨rfl,rfl⟩|⟨e,e2,hg'⟩
  .exact⟨B',wc rfl,ho⟩
  .obtain⟨B1,hB1,t⟩:=r.obj i x hg';exact⟨B1,hsub _ _ hB1,t.keep hsub (hother _ (λe'=>(r.inj i Y x o B1 B hg' hg hB1 hB e').elim e2 (λh=>J)))⟩
 .intro i B1 hB1;have hB1':(if i=s.next then some B' else I i)=some B1:=hB1
  by_cases e:i=s.next
  .rw[wc e]at hB1';cases hB1';rw[hbb,hsz];exact r.rng Y B hB
  .rw[x0 e]at hB1';rw[hsz];exact r.rng i B1 hB1'
 .intro i x B1 hx hB1 hlt;rcases hget i x hx with ⟨rfl,rfl⟩|⟨e,e2,hg'⟩
  .rw[show ((I.set s.next _).zset z) s.next=some B' from wc rfl]at hB1;cases hB1;omega
  .rw[show ((I.set s.next _).zset z) i=I i from x0 e]at hB1
   exact r.old i x B1 hg' hB1 hlt
 .intro i i' x x' B1 B2 h1 h2 hB1 hB2 e;rcases hget i x h1 with ⟨rfl,rfl⟩|⟨n1,m1,g1⟩<;>rcases hget i' x' h2 with ⟨rfl,rfl⟩|⟨n2,m2,g2⟩
  .exact .inl rfl
  .rw[show ((I.set s.next _).zset z) s.next=some B' from wc rfl]at hB1;cases hB1
   rw[show ((I.set s.next _).zset z) i'=I i' from x0 n2]at hB2
   exact(r.inj i' Y x' o B2 B g2 hg hB2 hB (e.symm.trans hbb)).elim (λh=>absurd h m2) (λh=>J)
  .rw[show ((I.set s.next _).zset z) s.next=some B' from wc rfl]at hB2;cases hB2
   rw[show ((I.set s.next _).zset z) i=I i from x0 n1]at hB1
   exact(r.inj i Y x o B1 B g1 hg hB1 hB (e.trans hbb)).elim (λh=>absurd h m1) (λh=>.inr h)
  .rw[show ((I.set s.next _).zset z) i'=I i' from x0 n2]at hB2
   rw[show ((I.set s.next _).zset z) i=I i from x0 n1]at hB1
   exact r.inj i i' x x' B1 B2 g1 g2 hB1 hB2 e
 .intro b i v hv;have hv':z b i=some v:=hv;by_cases e:b=B.b
  .subst e;exact hz2 i v hv'
  .rw[hz1 b e]at hv';obtain⟨c,e1,fr,h1,h2⟩:=r.frz b i v hv';exact⟨c,e1,fr,(hother b e).trans h1,h2⟩
 .intro i x B1 hx hB1;rcases hget i x hx with ⟨rfl,rfl⟩|⟨e,e2,hg'⟩
  .rw[show ((I.set s.next _).zset z) s.next=some B' from wc rfl]at hB1;cases hB1
   exact hsep
  .rw[show ((I.set s.next _).zset z) i=I i from x0 e]at hB1
   have hs:=r.sep i x B1 hg' hB1;by_cases eb:B1.b=B.b
   .rcases r.inj i Y x o B1 B hg' hg hB1 hB eb with h|h
    .exact absurd h e2
    .have:=r.new hg hB hng;omega
   .exact hs.congr (λj=>hz1 B1.b eb j)
 .intro i hi;have hi':i<s.next\/s.next+1<=i:=hi
  exact x0 J
 .intro b hb H;apply hother;intro e;have:=H Y o B hg hB e.symm;rw[hmk]at this;cases this
 .intro i B1 h1 h2 hB1;have h2':i<s.next+1:=h2
  have e:i=s.next:=J
  subst e;rw[show ((I.set s.next _).zset z) s.next=some B' from wc rfl]at hB1;cases hB1
  exact .inr ⟨Y,o,B,hg,hB,hbb.symm,hmk⟩
 .intro b i v hv;have hv':z b i=some v:=hv;by_cases e:b=B.b
  .exact .inr (.inr ⟨Y,o,B,hg,hB,e.symm,hmk⟩)
  .rw[hz1 b e]at hv';exact .inl hv'
def Step.move{I:Phi}(r:Rel P X I s.get w)(hf:I s.next=none){Y:Nat}{o':AObj}{B':Blk}(hg:s.get Y=some o)(hB:I Y=some B)(hbb:B'.b=B.b)
  (hother:∀b,b≠B.b->w'.heap[b]? =w.heap[b]?) (hsz:w'.heap.size=w.heap.size) (hos:w'.os=w.os) (ht:w'.tape=w.tape) (hu:w'.output=w.output)
  (ho:ObjRel P (I.set s.next B') w' o' B') (hng:vN o=false:=by rfl) (hna:Pe o=false:=by rfl):Step P X I s w (I.set s.next B') ((s.del Y).alloc o') w':=by
 have hzn:=(r.sep Y o B hg hB).all hng hna;exact Step.moveZ (z:=I.z) r hf hg hB hbb hother hsz hos ht hu (λ_ _ _=>rfl) (λ_ _ h=>h) (λi v h=>by rw[hzn i]at h;cases h) (SepOf.of_all (by rw[hbb];exact hzn)) ho hng
structure Src(P:Program)(w:World)(ts:Array TypeId)(e:TypeId)(size:Nat)(x:Value)(n:Nat)(new:zy):Prop where
 stay:∀(t ty:TypeId) (base:Option Addr) (sLen sCap:Nat),ts[0]? =some t->P.underlying t=some (.slice e)->sLen+n<=sCap->
  (Builtin.append_ ts ty #[.slice base sLen sCap,x]).run P w=(match base with
   |none=>.ok (.slice none (sLen+n) sCap) w
   |some a=>((storeCells (a.add (sLen*size)) new).run P w).andThen λ_ w'=>.ok (.slice (some a) (sLen+n) sCap) w')
 grow:∀(t ty:TypeId) (i:TypeInfo) (z:Value) (base:Option Addr) (sLen sCap:Nat) (old:zn),ts[0]? =some t->P.underlying t=some (.slice e)->P.info? e=some i->i.size=size->(zeroValue e).run P w.drew=.ok z w.drew->sCap<sLen+n->(sLen+n:Nat)<9223372036854775808->
  Builtin.nextslicecap (sLen+n) sCap*i.bytes<=281474976710656->(Builtin.firstCells size sLen (.slice base sLen sCap)).run P w.drew=.ok old w.drew->
  (Builtin.append_ ts ty #[.slice base sLen sCap,x]).run P w=
   .ok (.slice (some ⟨w.heap.size,0,none⟩) (sLen+n) (grownCap w (sLen+n) sCap e)) (w.drew.alloc (.cells (old++new.toArray++Builtin.zeroCells z.cells (grownCap w (sLen+n) sCap e-(sLen+n))) e))
def kx{ts:Array TypeId}{e:TypeId}{d:TypeDesc}{size:Nat}{x:Value}{new:zy}(h1:ts[1]? =some u)(hu:P.underlying u=some d)(hd:d=.string\/∃c,d=.slice c)(hsz:jf P e=some size)
  (hl:(Builtin.lenOf x)=pure n) (hw:(Builtin.firstCells size n x).run P w=.ok new.toArray w) (hwd:(Builtin.firstCells size n x).run P w.drew=.ok new.toArray w.drew):Src P w ts e size x n new:=by
 constructor
 .intro t ty base sLen sCap h0 ht hle;rcases hd with rfl|⟨c,rfl⟩
  .cases base<;>simp[Builtin.append_,h0,h1,xV ht,xV hu,qh hsz,hl,hle,hw]
  .cases base<;>simp[Builtin.append_,h0,h1,xV ht,xV hu,qh hsz,hl,hle,hw]
 .intro t ty i z base sLen sCap old h0 ht hi his hzv hlt h63 hfit hold;have hn:¬(sLen+n<=sCap):=J;have h63':¬(9223372036854775807<((sLen:Int)+(n:Int))):=J;have h48':¬(281474976710656<Builtin.nextslicecap (sLen+n) sCap*i.bytes):=J;have hti:=λw'=>kD (P:=P) (w:=w') hi;rcases hd with rfl|⟨c,rfl⟩
  .simp[Builtin.append_,h0,h1,xV ht,xV hu,qh hsz,hl,hn,h63',h48',hti,Question.forced,hold,hwd,hzv,newRow,grownCap]
  .simp[Builtin.append_,h0,h1,xV ht,xV hu,qh hsz,hl,hn,h63',h48',hti,Question.forced,hold,hwd,hzv,newRow,grownCap]
def zzy{w:World}{ts:Array TypeId}{e:TypeId}{k:IntKind}{size:Nat}{z:Value}(h1:ts[1]? =some u)(hu:P.underlying u=some (.int k))(hsz:jf P e=some size)(hby:KS P e=some b)
  (hz:∀w,(zeroValue e).run P w=.ok z w) (hzl:z.cells.size=size) (hs1:1<=size) (hn0:0<n) (hn:n<9223372036854775808) (hb:n*b<=281474976710656):Src P w ts e size (.int .i64 (n:Int)) n (List.replicate n z.cells.toList).flatten:=by
 obtain⟨i,hi,hib⟩:=QV hby;have hti:=λw'=>kD (P:=P) (w:=w') hi;have w1:IntKind.i64.wrap (n:Int)=(n:Int):=YS .i64 n (by simp only[H8];omega)
 have hneg:¬((n:Int)<0):=J;have hmul:¬(281474976710656<(n:Int)*(i.bytes:Int)):=by
  have e1:(n:Int)*(i.bytes:Int)=((n*i.bytes:Nat):Int):=by simp
  rw[e1,hib];omega
 have hns:¬(n*size=0):=by
  intro h;rcases Nat.mul_eq_zero.1 h with h|h<;>omega
 have hmade:Builtin.zeroCells z.cells n=((List.replicate n z.cells.toList).flatten).toArray:=by
  apply yT;have:=UQ z.cells.toList n (by simp;omega)
  simpa [Builtin.zeroCells]using this
 constructor
 .intro t ty base sLen sCap h0 ht hle;cases base<;>simp[Builtin.append_,h0,h1,xV ht,xV hu,qh hsz,asInt,asIntOf,w1,hneg,hti,hmul,hle,hns,hz,hmade]
 .intro t ty i' z' base sLen sCap old h0 ht hi' his hzv hlt h63 hfit hold;rw[hi]at hi';cases hi';have hz':z'=z:=by rw[hz]at hzv;cases hzv;rfl
  subst hz';have hle:¬(sLen+n<=sCap):=J;have h63':¬(9223372036854775807<((sLen:Int)+(n:Int))):=J;have h48':¬(281474976710656<Builtin.nextslicecap (sLen+n) sCap*i.bytes):=J;simp[Builtin.append_,h0,h1,xV ht,xV hu,qh hsz,asInt,asIntOf,w1,hneg,hti,hmul,hle,h63',h48',hns,hz,hmade,Question.forced,hold,newRow,grownCap]
def jX(w:World)(need old:Nat)(e:TypeId):need<=grownCap w need old e:=by simp[grownCap,Question.cut]
def Wo(z:zn)(n:Nat):(Builtin.zeroCells z n).size=n*z.size:=by simp[Builtin.zeroCells]
def QJ{I:Phi}(r:Rel P X I s.get w)(hwf:Wf s)(hf:I s.next=none){cap:Nat}{xs:zn}{z:zn}
  (h:grow s e esz bytes cs need=some (v,s')) (hx:VRL I cs xs.toList) (hl:zM cs=need*esz) (hz:z.size=esz) (hc:need<=cap):
  ∃I',Step P X I s w I' s' (w.drew.alloc (.cells (xs++Builtin.zeroCells z (cap-need)) e))/\VR I' v (.slice (some ⟨w.heap.size,0,none⟩) need cap)/\2*need*bytes<=281474976710656/\need<9223372036854775808:=by
 unfold grow at h;cases hb:(zH (zF (zF 2 need) bytes) 281474976710656&&zH 1 esz&&zG need 9223372036854775808)with
 |false=>rw[hb]at h;simp at h
 | true=>
  rw[hb]at h;simp only[x6,x7,wF]at h;obtain⟨rfl,rfl⟩:=h;simp only[zP,wB,w9]at hb;obtain⟨⟨hb1,hb2⟩,hb3⟩:=hb;have hxl:=VRL.length hx;have hxs:xs.size=need*esz:=by rw[<-yQ,<-hxl,hl]
  have hmul:need*esz+(cap-need)*esz=cap*esz:=by rw[<-yR];congr 1;omega
  refine⟨I.set s.next ⟨w.heap.size,0,cap*esz⟩,Step.alloc r hwf hf rfl rfl rfl rfl ?_,?_,hb1,hb3⟩
  .refine⟨xs++Builtin.zeroCells z (cap-need),(0,0),uI _,?_,?_,(λh=>by cases h),?_,zS _,λ_ i _=>by simp⟩
   .rw[Array.size_append,Wo,hxs,hz];simp only;omega
   .simp only[hl];exact yW _ hc
   .have e1:(((xs++Builtin.zeroCells z (cap-need)).toList.drop 0).take (zM cs))=xs.toList:=by
     rw[yE,xb,yY (by rw[hxl];exact zS _),hxl,List.take_length]
    simp only;rw[e1];exact VRL.mono (Phi.set_sub hf) _ _ hx
  .simp only[VR];refine⟨⟨w.heap.size,0,cap*esz⟩,cap,by simp[Phi.set],by simp,hb2,?_,hc,yh _⟩
   simp only[Nat.sub_zero];exact(Nat.mul_div_cancel _ J).symm
theorem gW(h:ZP s e esz bytes cs need=some (v,s')):s'.next=s.next+1:=by
 unfold ZP at h;cases hb:(zH (zF (zF 2 need) bytes) 281474976710656&&zH 1 esz&&zG need 9223372036854775808&&wo cs)with
 |false=>rw[hb]at h;simp at h
 |true=>
  rw[hb]at h;simp only[x6,x7,wF]at h;obtain⟨_,rfl⟩:=h;rfl
def UI(h:ZP s e esz bytes cs need=some (v,s')):
  2*need*bytes<=281474976710656/\1<=esz/\need<9223372036854775808/\wo cs=true/\v=.gr s.next esz need cs/\s'=s.alloc (.app e cs):=by
 unfold ZP at h;cases hb:(zH (zF (zF 2 need) bytes) 281474976710656&&zH 1 esz&&zG need 9223372036854775808&&wo cs)with
 |false=>rw[hb]at h;simp at h
 |true=>
  rw[hb]at h;simp only[x6,x7,wF]at h;simp only[zP,wB,w9]at hb;obtain⟨⟨⟨hb1,hb2⟩,hb3⟩,hb4⟩:=hb;exact⟨hb1,hb2,hb3,hb4,h.1.symm,h.2.symm⟩
def Phi.znewT(I:Phi)(b m:Nat)(c:zn):Nat->Nat->Option Value:=λb' i=>if b'=b then (if i<m then c[i]? else none)else I.z b' i
variable {I:Phi}
def Zk(r:Rel P X I s.get w)(hwf:Wf s)(hf:I s.next=none){cap:Nat}{xs:zn}{z:zn}
  (h:ZP s e esz bytes cs need=some (v,s')) (hn0:0<need) (hx:VRL I cs xs.toList) (hl:zM cs=need*esz) (hz:z.size=esz) (hc:need<=cap):
  ∃I',Step P X I s w I' s' (w.drew.alloc (.cells (xs++Builtin.zeroCells z (cap-need)) e))/\VR I' v (.slice (some ⟨w.heap.size,0,none⟩) need cap)/\2*need*bytes<=281474976710656/\need<9223372036854775808:=by
 obtain⟨hb1,hb2,hb3,hp,rfl,rfl⟩:=UI h;have hxl:=VRL.length hx;have hxs:xs.size=need*esz:=by rw[<-yQ,<-hxl,hl]
 have hmul:need*esz+(cap-need)*esz=cap*esz:=by rw[<-yR];congr 1;omega
 obtain⟨c,hcd⟩:∃c,c=xs++Builtin.zeroCells z (cap-need):=⟨_,rfl⟩;have hcl:(c.toList.drop 0).take (zM cs)=xs.toList:=by
  rw[hcd,yE,xb,yY (by rw[hxl];exact zS _),hxl,List.take_length]
 have hsub:Sub I ((I.set s.next ⟨w.heap.size,0,cap*esz⟩).zset (I.znewT w.heap.size (zM cs) c)):=⟨(Phi.set_sub hf).of,λb i v hv=>by
  have:=r.zlt hv;show (if b=w.heap.size then _ else I.z b i)=some v;rw[x0 J];exact hv⟩
 have hzc:ZC ((I.set s.next ⟨w.heap.size,0,cap*esz⟩).zset (I.znewT w.heap.size (zM cs) c)) w.heap.size 0 xs.toList:=ZC.of λi y hi=>by
  have hlt:i<zM xs.toList:=(List.getElem?_eq_some_iff.1 hi).1;show (if w.heap.size=w.heap.size then (if 0+i<(zM cs)then c[0+i]? else none)else I.z w.heap.size (0+i))=some y;rw[wc rfl,wc J,y8,<-zX];have:((c.toList.drop 0).take (zM cs))[i]? =some y:=by rw[hcl];exact hi
  rw[yE,z4,wc J]at this;exact this
 rw[<-hcd];refine⟨(I.set s.next ⟨w.heap.size,0,cap*esz⟩).zset (I.znewT w.heap.size (zM cs) c),Step.allocZ r hwf hf rfl rfl rfl rfl ?_ ?_ ?_ ?_,?_,hb1,hb3⟩
 .intro b hb i;show (if b=w.heap.size then _ else I.z b i)=I.z b i;rw[x0 hb]
 .intro i v hv;have hv':(if w.heap.size=w.heap.size then (if i<(zM cs)then c[i]? else none)else I.z w.heap.size i)=some v:=hv;rw[wc rfl]at hv';by_cases hi:i<zM cs
  .rw[wc hi]at hv';exact⟨c,e,(0,0),rfl,hv'⟩
  .rw[x0 hi]at hv';cases hv'
 .intro i hi;show (if w.heap.size=w.heap.size then (if i<(zM cs)then c[i]? else none)else I.z w.heap.size i)=none;have hi':0+zM cs<=i:=hi;rw[wc rfl,x0 J]
 .refine⟨c,(0,0),uI _,?_,?_,?_,zS _,yh _⟩
  .rw[hcd,Array.size_append,Wo,hxs,hz];simp only;omega
  .simp only[hl];exact yW _ hc
  .simp only;rw[hcl];exact VRL.mono hsub _ _ hx
 .simp only[VR];have hdiv:cap*esz/esz=cap:=Nat.mul_div_cancel _ J;exact⟨hp,hl,hn0,J,⟨w.heap.size,0,cap*esz⟩,xs.toList,wc rfl,by rw[hdiv],by rw[hdiv];exact hc,hzc,VRL.mono hsub _ _ hx⟩
def iX(_r:Rel P X I s.get w){ts:Array TypeId}{e:TypeId}{x:Z}(h0:ts[0]? =some t)(ht:P.underlying t=some (.slice e))(src:Src P w ts e esz y' 0 [])
  (h:EF s x=some (v,s')) (hx:VR I x x'):s'=s/\(Builtin.append_ ts ty #[x',y']).run P w=.ok x' w/\VR I v x':=by
 have hst:∀(a:Addr),(storeCells (a.add 0) []).run P w=.ok () w:=λa=>rfl;unfold EF at h;split at h
 .cases h;have hx':=hx;simp only[VR]at hx;subst hx;exact⟨rfl,by rw[src.stay t ty none 0 0 h0 ht J],hx'⟩
 .cases h;have hx':=hx;simp only[VR]at hx;obtain⟨a,k,rfl⟩:=hx;exact⟨rfl,by rw[src.stay t ty (some a) 0 k h0 ht J];rfl,hx'⟩
 .rename_i Y off len c
  have hx':=hx;simp only[VR]at hx;obtain⟨B,k,hB,rfl,hk⟩:=hx;split at h
  .rename_i k'
   simp only at hk;subst hk;cases hb:zH len k with
   |false=>rw[hb]at h;simp at h
   |true=>
    rw[hb]at h;simp only[x6,x7,wF]at h;obtain⟨rfl,rfl⟩:=h;exact⟨rfl,by rw[src.stay t ty (some _) len k h0 ht (by have:=wB.1 hb;omega)];rfl,hx'⟩
  .rename_i e'
   simp only[x7,wF]at h;obtain⟨rfl,rfl⟩:=h;simp only at hk;exact⟨rfl,by rw[src.stay t ty (some _) len k h0 ht J];rfl,hx'⟩
 .cases h;have hx':=hx;simp only[VR]at hx;obtain⟨_,⟨rfl,a,rfl⟩|⟨b,o,k,ys,rfl,_,hk,_⟩⟩:=hx
  .cases a with
   |none=>exact⟨rfl,by rw[src.stay t ty none 0 0 h0 ht J],hx'⟩
   |some a=>exact⟨rfl,by rw[src.stay t ty (some _) 0 0 h0 ht J];rfl,hx'⟩
  .exact⟨rfl,by rw[src.stay t ty (some _) _ k h0 ht J];rfl,hx'⟩
 .cases h;have hx':=hx;simp only[VR]at hx;obtain⟨_,_,_,_,B,ys,_,rfl,hk,_⟩:=hx;exact⟨rfl,by rw[src.stay t ty (some _) _ _ h0 ht J];rfl,hx'⟩
 .cases h
def lX(r:Rel P X I s.get w){o len:Nat}(hv:VR I (.vp cs) (.pointer (some ⟨b,o,none⟩)))(hc:wE (n*esz) cs=some l):
  ∃xs:zy,VRL I l xs/\(Builtin.firstCells esz n (.slice (some ⟨b,o,none⟩) len k)).run P w=.ok xs.toArray w/\(Builtin.firstCells esz n (.slice (some ⟨b,o,none⟩) len k)).run P w.drew=.ok xs.toArray w.drew:=by
 obtain⟨a,xs,ea,hlen,hxs,hcell⟩:=uJ r (G:=[]) (λg cs h=>by simp at h) (show uT [] s (.vp cs) (n*esz)=some l from hc) hv
 cases ea;exact⟨xs,hxs,run_firstCells_some w esz n _ len k xs hlen hcell,run_firstCells_some w.drew esz n _ len k xs hlen (by simpa using hcell)⟩
def aP(r:Rel P X I s.get w){Y off len:Nat}(hB:I Y=some B)(hld:uT [] s (.ptr Y off) (n*esz)=some l):
  ∃xs:zy,VRL I l xs/\(Builtin.firstCells esz n (.slice (some ⟨B.b,B.o+off,none⟩) len k)).run P w=.ok xs.toArray w/\(Builtin.firstCells esz n (.slice (some ⟨B.b,B.o+off,none⟩) len k)).run P w.drew=.ok xs.toArray w.drew:=by
 obtain⟨a,xs,ea,hlen,hxs,hcell⟩:=uJ r (G:=[]) (λg cs h=>by simp at h) hld (x:=.pointer (some ⟨B.b,B.o+off,none⟩)) (by simp only[VR];exact⟨B,hB,rfl⟩)
 cases ea;exact⟨xs,hxs,run_firstCells_some w esz n _ len k xs hlen hcell,run_firstCells_some w.drew esz n _ len k xs hlen (by simpa using hcell)⟩
def Xx(r:Rel P X I s.get w){Y off len:Nat}{t:Nat}{e fz:Bool}(hg:s.get Y=some (.row t cs e fz))(hB:I Y=some B)(hc:cut cs off (n*esz)=some l):
  ∃xs:zy,VRL I l xs/\(Builtin.firstCells esz n (.slice (some ⟨B.b,B.o+off,none⟩) len k)).run P w=.ok xs.toArray w/\(Builtin.firstCells esz n (.slice (some ⟨B.b,B.o+off,none⟩) len k)).run P w.drew=.ok xs.toArray w.drew:=by
 have hld:uT [] s (.ptr Y off) (n*esz)=some l:=by simp only[uT,hg];exact hc
 obtain⟨a,xs,ea,hlen,hxs,hcell⟩:=uJ r (G:=[]) (λg cs h=>by simp at h) hld (x:=.pointer (some ⟨B.b,B.o+off,none⟩)) (by simp only[VR];exact⟨B,hB,rfl⟩)
 cases ea;exact⟨xs,hxs,run_firstCells_some w esz n _ len k xs hlen hcell,run_firstCells_some w.drew esz n _ len k xs hlen (by simpa using hcell)⟩
def gZ{old:Nat}(h:old<need)(hb:2*need*bytes<=281474976710656):Builtin.nextslicecap need old*bytes<=281474976710656:=
 Nat.le_trans (yW _ (nextslicecap_le h)) hb
theorem pi(h:grow s e esz bytes cs need=some (v,s')):s'.next=s.next+1:=by
 unfold grow at h;cases hb:(zH (zF (zF 2 need) bytes) 281474976710656&&zH 1 esz&&zG need 9223372036854775808)with
 |false=>rw[hb]at h;simp at h
 |true=>
  rw[hb]at h;simp only[x6,x7,wF]at h;obtain⟨_,rfl⟩:=h;rfl
def iC:∀(n:Nat) (l:zt),n<=zM l->wE n l=some (l.take n)
 |0,l,_=>by simp[wE]
 |n+1,[],h=>by simp at h
 |n+1,v::l,h=>by
  simp only[wE,iC n l (by simpa using h)]
  simp
def KN (r : Rel P X I s.get w)(hwf:Wf s)(hf1:s.next<s'.next->I s.next=none){ts:Array TypeId}{e:TypeId}{x z:Z}{new:zt}{new':zy}
  (h0:ts[0]? =some t) (ht:P.underlying t=some (.slice e)) (hs:jf P e=some esz) (hby:KS P e=some bytes) (hz:gI P e=some z) (hzl:zM z.cells=esz) (src:Src P w ts e esz y' n new')
  (hn:0<n) (hnew:VRL I new new') (hnl:zM new=n*esz) (h:ZI s e esz bytes x n new=some (v,s')) (hx:VR I x x'):
  ∃I' u w',(Builtin.append_ ts ty #[x',y']).run P w=.ok u w'/\Step P X I s w I' s' w'/\VR I' v u:=by
 obtain⟨zx,hzr,hzv⟩:=vJ hz;have hzs:zx.cells.size=esz:=by rw[<-hzl,VRL.length (hzv I).cells];simp
 obtain⟨i,hi,his⟩:=JD hs;obtain⟨i',hi',hib⟩:=QV hby;rw[hi]at hi';cases hi';unfold ZI at h;split at h
 .simp only[VR]at hx;subst hx;cases hmd:(s.md&&wo new)with
  |true=>
   rw[hmd]at h;simp only[x6]at h;have hf:=hf1 (by rw[gW h];omega)
   obtain⟨I',h1,h2,h3,h4⟩:=Zk (w:=w) (xs:=new'.toArray) (cap:=grownCap w n 0 e) (z:=zx.cells) r hwf hf h hn (by simpa using hnew) hnl hzs (jX _ _ _ _)
   refine⟨I',_,_,?_,h1,h2⟩;have hg:=src.grow t ty i zx none 0 0 #[] h0 ht hi his (hzr _) J J (by rw[y8];exact gZ J (by rw[hib];exact h3)) (run_firstCells_none _ _ _ _ _)
   rw[hg];simp
  |false=>
  rw[hmd]at h;simp only[wh]at h;have hf:=hf1 (by rw[pi h];omega)
  obtain⟨I',h1,h2,h3,h4⟩:=QJ (w:=w) (xs:=new'.toArray) (cap:=grownCap w n 0 e) (z:=zx.cells) r hwf hf h (by simpa using hnew) hnl hzs (jX _ _ _ _)
  refine⟨I',_,_,?_,h1,h2⟩;have hg:=src.grow t ty i zx none 0 0 #[] h0 ht hi his (hzr _) J J (by rw[y8];exact gZ J (by rw[hib];exact h3)) (run_firstCells_none _ _ _ _ _)
  rw[hg];simp
 · -- a frozen slice whose capacity is its length
  rename_i k ex cs
  cases ex with
  |false=>simp at h
  | true=>
   simp only[x6]at h;cases hc:wE (zF k esz) cs with
   |none=>rw[hc]at h;simp at h
   | some old=>
    rw[hc]at h;simp only at h;have hf:=hf1 (by rw[gW h];omega)
    obtain⟨r0,_,hol⟩:=hH hc;have hol':zM old=k*esz:=hol;have hlen:(old++new).length=(k+n)*esz:=by rw[yO,hol',hnl,yR]
    simp only[VR]at hx;obtain⟨hp,⟨rfl,a,rfl⟩|⟨b,o,k',ys,rfl,hk,_,hz1,hy1⟩⟩:=hx
    .obtain rfl:old=[]:=yS (by rw[hol'];simp)
     obtain⟨I',h1,h2,h3,h4⟩:=Zk (w:=w) (xs:=new'.toArray) (cap:=grownCap w (0+n) 0 e) (z:=zx.cells) r hwf hf h (by show 0<0+n;omega) (by simpa using hnew) hlen hzs (jX _ _ _ _)
     refine⟨I',_,_,?_,h1,h2⟩;have hg:=src.grow t ty i zx a 0 0 #[] h0 ht hi his (hzr _) J J (gZ J (by rw[hib];exact h3)) (by cases a with|none=>exact run_firstCells_none _ _ _ _ _|some a=>exact run_firstCells_some _ esz 0 a 0 0 [] (by simp) (by simp))
     rw[hg];simp
    .obtain rfl:=hk trivial;obtain⟨xs,hxs,_,hfd⟩:=lX (P:=P) (len:=k') (k:=k') r (by simp only[VR];exact⟨hp,b,o,ys,rfl,hz1,hy1⟩) hc
     obtain⟨I',h1,h2,h3,h4⟩:=Zk (w:=w) (xs:=xs.toArray++new'.toArray) (cap:=grownCap w (k'+n) k' e) (z:=zx.cells) r hwf hf h (by show 0<k'+n;omega) (by simpa using VRL.append hxs hnew) hlen hzs (jX _ _ _ _)
     refine⟨I',_,_,?_,h1,h2⟩;exact src.grow t ty i zx (some _) k' k' xs.toArray h0 ht hi his (hzr _) J h4 (gZ J (by rw[hib];exact h3)) hfd
 · -- one that may grow
  rename_i Y esz' k cs
  split at h
  .rename_i t0 cells hg
   cases hb:(zD esz esz'&&zD t0 e&&zD (qQ cells) (qQ cs)&&wO new)with
   |false=>rw[hb]at h;simp at h
   | true=>
    rw[hb]at h;simp only[x6]at h;simp only[zP,wH,qw]at hb;obtain⟨⟨⟨rfl,rfl⟩,hcl⟩,hsc⟩:=hb;have hf:=hf1 (by rw[gW h];exact yx _)
    simp only[VR]at hx;obtain⟨hp,hcn,hk0,he,B,ys,hB,rfl,hkK,hz1,hy1⟩:=hx;obtain⟨B',hB',c,fr,g1,g2,g3,g4,g5,g6⟩:=r.obj Y _ hg;rw[hB]at hB';cases hB';have hsep:=r.sep Y _ B hg hB;simp only[SepOf]at hsep;have hyl:=hy1.length;have hlen:(cs++new).length=(k+n)*esz:=by rw[yO,hcn,hnl,yR]
    have hxl:=VRL.length hnew;have hmul:(k+n)*esz=k*esz+n*esz:=yR _ _ _;by_cases hle:k+n<=B.tot/esz
    · -- it stays
     obtain⟨hb1,hb2,hb3,hpp,rfl,rfl⟩:=UI h;have hfit:(k+n)*esz<=B.tot:=by rw[yV he]at hle;exact hle
     have hrun:=run_storeCells_cells (P:=P) B.b (B.o+k*esz) new' 0 w
      (λj hj=>by rw[kM g1];simp;omega)
      (λj hj=>by
       rw[Yx g1];have:¬(B.o+k*esz+0+j<fr.2):=J;rw[qb this,Bool.and_false])
      (kF hnew hsc)
     obtain⟨f1,f2,f3,f4,f5⟩:=gD new' w B.b (B.o+k*esz+0);obtain⟨c',k1,k2⟩:=Zu new' w B.b (B.o+k*esz+0) c t0 fr g1 J;have hsz:c'.size=c.size:=by rw[<-yQ,k2];simp;omega
     have hlow:∀i,i<B.o+k*esz->c'[i]? =c[i]? :=λi hi=>by
      rw[<-zX,k2,yP (by simp;omega),yP (by simp;omega),z4,wc J,zX]
     obtain⟨zz,hzz⟩:∃zz:Nat->Nat->Option Value,zz=λb i=>if b=B.b/\B.o+k*esz<=i/\i<B.o+(k+n)*esz then c'[i]? else I.z b i:=⟨_,rfl⟩;have hz0:∀i v,I.z B.b i=some v->i<B.o+k*esz:=λi v hv=>by
      apply Nat.lt_of_not_le;intro hge;rw[hsep i J]at hv;cases hv
     have hzin:∀b i v,I.z b i=some v->zz b i=some v:=λb i v hv=>by
      rw[hzz];simp only;by_cases eb:b=B.b
      .subst eb;have:=hz0 i v hv;rw[x0 J];exact hv
      .rw[x0 (λh=>eb h.1)];exact hv
     have hsub:Sub I ((I.set s.next B).zset zz):=⟨(Phi.set_sub (B:=B) hf).of,hzin⟩
     have hys:∀i y,ys[i]? =some y->c[B.o+i]? =some y:=λi y hi=>by
      obtain⟨c2,e2,fr2,q1,q2⟩:=r.frz _ _ _ (hz1.at hi);rw[g1]at q1;cases q1;exact q2
     have hcnew:∀i y,new'[i]? =some y->c'[B.o+k*esz+i]? =some y:=λi y hi=>by
      have hlt:=(List.getElem?_eq_some_iff.1 hi).1;rw[<-zX,k2,xc,yP (by simp;omega),yZ (by simp;omega)]
      have:(c.toList.take (B.o+k*esz)).length=B.o+k*esz:=by rw[List.length_take,yQ];omega
      rw[this,Nat.add_sub_cancel_left];exact hi
     have hcell:∀i y,(ys++new')[i]? =some y->c'[B.o+i]? =some y:=λi y hi=>by
      by_cases hl:i<zM ys
      .rw[yP hl]at hi;rw[hlow _ J];exact hys i y hi
      .rw[yZ J]at hi;have:=hcnew _ _ hi;rw[show B.o+k*esz+(i-zM ys)=B.o+i by omega]at this;exact this
     have hzc:ZC ((I.set s.next B).zset zz) B.b B.o (ys++new'):=ZC.of λi y hi=>by
      have hlt:=(List.getElem?_eq_some_iff.1 hi).1;rw[yO]at hlt;show zz B.b (B.o+i)=some y;by_cases hl:i<zM ys
      .rw[yP hl]at hi;exact hzin _ _ _ (hz1.at hi)
      .rw[hzz];simp only;rw[wc ⟨trivial,J,J⟩];exact hcell i y hi
     have hall:VRL ((I.set s.next B).zset zz) (cs++new) (ys++new'):=VRL.mono hsub _ _ (VRL.append hy1 hnew)
     refine⟨(I.set s.next B).zset zz,.slice (some ⟨B.b,B.o,none⟩) (k+n) (B.tot/esz),_,?_,Step.moveZ r hf (B':=B) hg hB rfl f5 f1 f2 f3 f4 ?_ ?_ ?_ ?_ ?_ rfl,?_⟩
     .rw[src.stay t ty (some _) k _ h0 ht hle];simp only[vX,hrun,Result.andThen_ok]
     .intro b hb i;rw[hzz];simp only;rw[x0 (λh=>hb h.1)]
     .exact λi v hv=>hzin _ i v hv
     .intro i v hv;rw[hzz]at hv;simp only at hv;refine⟨c',t0,fr,k1,?_⟩;by_cases hc:True/\B.o+k*esz<=i/\i<B.o+(k+n)*esz
      .rw[wc hc]at hv;exact hv
      .rw[x0 hc]at hv;obtain⟨c2,e2,fr2,q1,q2⟩:=r.frz _ _ _ hv;rw[g1]at q1;cases q1;rw[hlow i (hz0 i v hv)];exact q2
     .intro i hi;have hi':B.o+(cs++new).length<=i:=hi;rw[hlen]at hi';rw[hzz];simp only;rw[x0 J];exact hsep i J
     .refine⟨c',fr,k1,by rw[hsz];exact g2,by simp only[hlen];exact hfit,?_,g5,by simp only[hlen];omega⟩
      have key:(c'.toList.drop B.o).take (cs++new).length=ys++new':=by
       apply List.ext_getElem?;intro i;rw[z4];by_cases hl:i<(cs++new).length
       .rw[wc hl,List.getElem?_drop,zX];have hl2:i<(ys++new').length:=by rw[yO]at hl|-;omega
        rw[hcell i _ (yU hl2),yU hl2]
       .rw[x0 hl,List.getElem?_eq_none (by rw[yO]at hl|-;omega)]
      rw[key];exact hall
     .simp only[VR];exact⟨hpp,hlen,by show 0<k+n;omega,he,B,ys++new',wc rfl,rfl,hle,hzc,hall⟩
    .have hlt:B.tot/esz<k+n:=J;have hd:=Step.del r Y hg;obtain⟨xs,hxs,_,hfd⟩:=lX (P:=P) (n:=k) (esz:=esz) (len:=k) (k:=B.tot/esz) (l:=cs) r (by simp only[VR];exact⟨hp,B.b,B.o,ys,rfl,hz1,hy1⟩) (by rw[iC _ _ J,yb J])
     obtain⟨I',h1,h2,h3,h4⟩:=Zk (w:=w) (xs:=xs.toArray++new'.toArray) (cap:=grownCap w (k+n) (B.tot/esz) t0) (z:=zx.cells) hd.rel (hd.ext.wf hwf) hf h (by show 0<k+n;omega) (by simpa using VRL.append hxs hnew) hlen hzs (jX _ _ _ _)
     refine⟨I',_,_,?_,Step.trans hwf hd h1,h2⟩;exact src.grow t ty i zx (some _) k _ xs.toArray h0 ht hi his (hzr _) hlt h4 (gZ hlt (by rw[hib];exact h3)) hfd
  .cases h
 .rename_i Y off len c
  split at h
  .rename_i t0 cs ex fz hg
   simp only[VR]at hx;obtain⟨B,k,hB,rfl,hk⟩:=hx;have hptr:VR I (.ptr Y (zE off (zF len esz))) (.pointer (some ⟨B.b,B.o+(off+len*esz),none⟩)):=by simp only[VR];exact⟨B,hB,rfl⟩
   have hadd:Addr.add ⟨B.b,B.o+off,none⟩ (len*esz)=⟨B.b,B.o+(off+len*esz),none⟩:=by rw[vX];congr 1;omega
   split at h
   .rename_i k'
    simp only at hk;subst hk;cases hb:zH (zE len n) k with
    | true=>
     rw[hb]at h;simp only[x6]at h;cases hst:j8 s (.ptr Y (zE off (zF len esz))) new with
     |none=>rw[hst]at h;simp at h
     |some s1=>
      rw[hst]at h;simp only[x7,wF]at h;obtain⟨rfl,rfl⟩:=h;obtain⟨a,w',ea,h1,h2⟩:=YP (P:=P) r hst hptr hnew;cases ea;refine⟨I,.slice (some ⟨B.b,B.o+off,none⟩) (len+n) k,w',?_,h2,?_⟩
      .rw[src.stay t ty (some _) len k h0 ht (wB.1 hb)];simp only[hadd,h1,Result.andThen_ok]
      .simp only[VR];exact⟨B,k,hB,rfl,rfl⟩
    | false=>
     rw[hb]at h;simp only[wh]at h;have hlt:k<len+n:=by
      apply Nat.lt_of_not_le;intro hh;rw[show zH (zE len n) k=true from wB.2 hh]at hb;cases hb
     cases hc:cut cs off (zF len esz)with
     |none=>rw[hc]at h;simp at h
     |some old=>
      rw[hc]at h;simp only at h;have hf:=hf1 (by rw[pi h];omega)
      obtain⟨xs,hxs,_,hfd⟩:=Xx (len:=len) (k:=k) r hg hB hc;have hol:=(cut_some hc).1;obtain⟨I',h1,h2,h3,h4⟩:=QJ (w:=w) (xs:=xs.toArray++new'.toArray) (cap:=grownCap w (len+n) k e) (z:=zx.cells) r hwf hf h (by simpa using VRL.append hxs hnew) (by rw[yO,hol,hnl];show len*esz+n*esz=(len+n)*esz;rw[yR]) hzs (jX _ _ _ _)
      refine⟨I',_,_,?_,h1,h2⟩;exact src.grow t ty i zx (some _) len k xs.toArray h0 ht hi his (hzr _) hlt h4 (gZ hlt (by rw[hib];exact h3)) hfd
   .rename_i esz'
    simp only at hk;obtain⟨he,hk,hlk,hot⟩:=hk;cases hb:(zD esz esz'&&ex&& !fz)with
    |false=>rw[hb]at h;simp at h
    | true =>
     rw[hb]at h;simp only[x6]at h;simp only[zP,wH,Bool.not_eq_true']at hb;obtain⟨⟨rfl,rfl⟩,rfl⟩:=hb;obtain⟨B',hB',c,fr,g1,g2,g3,g4,g5,g6,g7⟩:=r.obj Y _ hg;rw[hB]at hB';cases hB';cases hb2:zH (zE off (zF (zE len n) esz)) (qQ cs)with
     | true=>
      rw[hb2]at h;simp only[x6]at h;rw[wB,qw]at hb2;have hb2':off+(len+n)*esz<=zM cs:=hb2;have hle:len+n<=k:=by rw[hk,yV he];omega
      cases hst:j8 s (.ptr Y (zE off (zF len esz))) new with
      |none=>rw[hst]at h;simp at h
      |some s1=>
       rw[hst]at h;simp only[x7,wF]at h;obtain⟨rfl,rfl⟩:=h;obtain⟨a,w',ea,h1,h2⟩:=YP (P:=P) r hst hptr hnew;cases ea;refine⟨I,.slice (some ⟨B.b,B.o+off,none⟩) (len+n) k,w',?_,h2,?_⟩
       .rw[src.stay t ty (some _) len k h0 ht hle];simp only[hadd,h1,Result.andThen_ok]
       .simp only[VR];exact⟨B,k,hB,rfl,he,hk,hle,hot⟩
     | false =>
      rw[hb2]at h;simp only[wh]at h;cases hb3:(wO new&&zD t0 e)with
      |false=>rw[hb3]at h;simp at h
      | true =>
       rw[hb3]at h;simp only[x6]at h;simp only[zP,wH]at hb3;obtain⟨hsc,rfl⟩:=hb3;cases hc:cut cs off (zF len esz)with
       |none=>rw[hc]at h;simp at h
       | some old=>
        rw[hc]at h;simp only at h;have hf:=hf1 (by rw[pi h];exact yx _)
        obtain⟨xs,hxs,_,hfd⟩:=Xx (len:=len) (k:=k) r hg hB hc;obtain⟨hol,hcb,hold⟩:=cut_some hc;have hol':zM old=len*esz:=hol;have hlen:(old++new).length=(len+n)*esz:=by rw[yO,hol',hnl,yR]
        by_cases hle:len+n<=k
        · -- it stays
         have hxl:=VRL.length hnew;have hfit:(len+n)*esz<=B.tot-off:=by rw[hk,yV he]at hle;exact hle
         have hmul:(len+n)*esz=len*esz+n*esz:=yR _ _ _
         have hrun:=run_storeCells_cells (P:=P) B.b (B.o+(off+len*esz)) new' 0 w
          (λj hj=>by rw[kM g1];simp;omega)
          (λj hj=>by
           rw[Yx g1];have:=g7 rfl (B.o+(off+len*esz)+0+j) J;simp at this|-;exact this)
          (kF hnew hsc)
         obtain⟨f1,f2,f3,f4,f5⟩:=gD new' w B.b (B.o+(off+len*esz)+0);obtain⟨c',k1,k2⟩:=Zu new' w B.b (B.o+(off+len*esz)+0) c t0 fr g1 J;have hsz:c'.size=c.size:=by rw[<-yQ,k2];simp;omega
         unfold grow at h;cases hb4:(zH (zF (zF 2 (zE len n)) bytes) 281474976710656&&zH 1 esz&&zG (zE len n) 9223372036854775808)with
         |false=>rw[hb4]at h;simp at h
         | true=>
          rw[hb4]at h;simp only[x6,x7,wF]at h;obtain⟨rfl,rfl⟩:=h;have hsub:=Phi.set_sub (B:=⟨B.b,B.o+off,B.tot-off⟩) hf;refine⟨_,.slice (some ⟨B.b,B.o+off,none⟩) (len+n) k,_,?_,Step.move r hf (B':=⟨B.b,B.o+off,B.tot-off⟩) hg hB rfl f5 f1 f2 f3 f4 ?_,?_⟩
          .rw[src.stay t ty (some _) len k h0 ht hle];simp only[hadd,hrun,Result.andThen_ok]
          .refine⟨c',fr,k1,by simp only;omega,by simp only;rw[hlen];exact hfit,(λh=>by cases h),?_,g6,λ_=>by rw[hsz];exact g7 rfl⟩
           simp only;have key:(c'.toList.drop (B.o+off)).take (old++new).length=(((c.toList.drop B.o).take (zM cs)).drop off).take (len*esz)++new':=by
            rw[k2,hlen,hmul];have hp:B.o+(off+len*esz)+0=B.o+off+len*esz:=J;rw[hp,List.append_assoc,List.drop_append_of_le_length (by simp;omega),List.drop_take]
            have a1:B.o+off+len*esz-(B.o+off)=len*esz:=J;rw[a1,List.take_append];have a2:((c.toList.drop (B.o+off)).take (len*esz)).length=len*esz:=by simp;omega
            rw[a2,List.take_append];have a3:len*esz+n*esz-len*esz=n*esz:=J;have a4:n*esz-zM new'=0:=J;rw[a3,a4,List.take_zero,List.append_nil]
            congr 1
            .rw[List.take_take,Nat.min_eq_right J,List.drop_take,List.drop_drop,List.take_take]
             congr 1
             have hcb':off+len*esz<=zM cs\/len*esz=0:=hcb;omega
            .exact yb J
           rw[key];have hco:=VRL.cut g5 hc;exact VRL.append (VRL.mono hsub _ _ hco) (VRL.mono hsub _ _ hnew)
          .simp only[VR];exact⟨⟨B.b,B.o+off,B.tot-off⟩,k,by simp[Phi.set,U.del],by simp,he,by simpa using hk,hle,yh _⟩
        .have hlt:k<len+n:=J;have hd:=Step.del r Y hg;obtain⟨I',h1,h2,h3,h4⟩:=QJ (w:=w) (xs:=xs.toArray++new'.toArray) (cap:=grownCap w (len+n) k t0) (z:=zx.cells) hd.rel (hd.ext.wf hwf) hf h (by simpa using VRL.append hxs hnew) hlen hzs (jX _ _ _ _)
         refine⟨I',_,_,?_,Step.trans hwf hd h1,h2⟩;exact src.grow t ty i zx (some _) len k xs.toArray h0 ht hi his (hzr _) hlt h4 (gZ hlt (by rw[hib];exact h3)) hfd
  .cases h
 .cases h
def gA(z:Nat)(s:ByteArray):(Builtin.firstCells z s.size (.string s)).run P w=.ok (s.data.toList.map λb=>Value.int .u8 (b.toNat:Int)).toArray w:=by
 have e:(s.extract 0 s.size).data=s.data:=by
  apply yT;simp
 simp only[Builtin.firstCells,e,Sem.run_pure]
 congr 1
 apply yT;simp
def Lj(r:Rel P X I s.get w)(hwf:Wf s)(hf1:s.next<s'.next->I s.next=none){ts:Array TypeId}{e:TypeId}{d:TypeDesc}{x y z:Z}
  (h0:ts[0]? =some t) (ht:P.underlying t=some (.slice e)) (h1:ts[1]? =some u) (hu:P.underlying u=some d) (hd':d=.string\/∃c,d=.slice c) (hs:jf P e=some esz) (hby:KS P e=some bytes) (hz:gI P e=some z) (hzl:qQ z.cells=esz)
  (h:uE s e esz bytes x y=some (v,s')) (hx:VR I x x') (hy:VR I y y'):
  ∃I' a w',(Builtin.append_ ts ty #[x',y']).run P w=.ok a w'/\Step P X I s w I' s' w'/\VR I' v a:=by
 rw [qw]at hzl;unfold uE at h;have key:∀(n:Nat) (new:zt),j6 y=some n->qu s esz n y=some new->∃new',Src P w ts e esz y' n new'/\VRL I new new'/\zM new=n*esz:=by
  intro n new hn hc;unfold j6 at hn;unfold qu at hc;split at hn
  .cases hn;simp only[x7]at hc;subst hc;simp only[VR]at hy;subst hy;exact⟨[],kx h1 hu hd' hs rfl (run_firstCells_none _ _ _ _ _) (run_firstCells_none _ _ _ _ _),VRL.nil I,by simp⟩
  .cases hn;simp only[x7]at hc;subst hc;simp only[VR]at hy;obtain⟨a,k,rfl⟩:=hy;exact⟨[],kx h1 hu hd' hs rfl (run_firstCells_some w esz 0 a 0 k [] (by simp) (by simp)) (run_firstCells_some w.drew esz 0 a 0 k [] (by simp) (by simp)),VRL.nil I,by simp⟩
  .rename_i Y off len c
   simp only[x7]at hn;subst hn;simp only at hc;split at hc
   .rename_i t0 cs ex fz hg
    simp only[VR]at hy;obtain⟨B,k,hB,rfl,_⟩:=hy;obtain⟨xs,hxs,g1,g2⟩:=Xx (P:=P) (len:=len) (k:=k) r hg hB hc;exact⟨xs,kx h1 hu hd' hs rfl g1 g2,hxs,(cut_some hc).1⟩
   .rename_i cs hg
    simp only[VR]at hy;obtain⟨B,k,hB,rfl,_⟩:=hy;obtain⟨xs,hxs,g1,g2⟩:=aP (P:=P) (len:=len) (k:=k) r hB (show uT [] s (.ptr Y off) (len*esz)=some new by simp only[uT,hg];exact hc)
    exact⟨xs,kx h1 hu hd' hs rfl g1 g2,hxs,(cut_some hc).1⟩
   .cases hc
  .rename_i l
   simp only[x7]at hn;subst hn;cases hb:zD esz 1 with
   |false=>simp only[hb,wh]at hc;cases hc
   | true=>
    simp only[hb,x6,x7]at hc;subst hc;rw[wH]at hb;subst hb;simp only[VR]at hy;obtain⟨bs,rfl,rfl⟩:=hy;have hl:qQ (ur bs)=bs.size:=by rw[qw,q9]
    rw[hl];refine⟨bs.data.toList.map λb=>Value.int .u8 (b.toNat:Int),kx h1 hu hd' hs rfl (gA _ bs) (gA _ bs),?_,?_⟩
    .rw[Yb,yb (by rw[q9];exact zS _)]
     exact Yi _
    .rw[Yb,yb (by rw[q9];exact zS _),lc,q9];omega
  .rename_i m ex cs
   simp only[x7]at hn;subst hn;simp only at hc;obtain⟨_,_,hcl⟩:=hH hc;simp only[VR]at hy;obtain⟨hp,⟨rfl,a,rfl⟩|⟨b,o,k,ys,rfl,_,_,hz1,hy1⟩⟩:=hy
   .obtain rfl:new=[]:=yS (by rw[hcl];show 0*esz=0;simp)
    cases a with
    |some a=>exact⟨[],kx h1 hu hd' hs rfl (run_firstCells_some w esz 0 a 0 0 [] (by simp) (by simp)) (run_firstCells_some w.drew esz 0 a 0 0 [] (by simp) (by simp)),VRL.nil I,by simp⟩
    |none=>exact⟨[],kx h1 hu hd' hs rfl (run_firstCells_none _ _ _ _ _) (run_firstCells_none _ _ _ _ _),VRL.nil I,by simp⟩
   .obtain⟨xs,hxs,g1,g2⟩:=lX (P:=P) (len:=m) (k:=k) r (by simp only[VR];exact⟨hp,b,o,ys,rfl,hz1,hy1⟩) hc
    exact⟨xs,kx h1 hu hd' hs rfl g1 g2,hxs,hcl⟩
  .rename_i Y e' m cs
   simp only[x7]at hn;subst hn;simp only at hc;obtain⟨_,_,hcl⟩:=hH hc;simp only[VR]at hy;obtain⟨hp,_,_,_,B,ys,_,rfl,_,hz1,hy1⟩:=hy;obtain⟨xs,hxs,g1,g2⟩:=lX (P:=P) (len:=m) (k:=B.tot/e') r (by simp only[VR];exact⟨hp,B.b,B.o,ys,rfl,hz1,hy1⟩) hc
   exact⟨xs,kx h1 hu hd' hs rfl g1 g2,hxs,hcl⟩
  .cases hn
 cases hn:j6 y with
 |none=>rw[hn]at h;simp at h
 | some n=>
  rw[hn]at h;cases n with
  | zero=>
   simp only at h;have hsrc:Src P w ts e esz y' 0 []:=by
    unfold j6 at hn;split at hn
    .simp only[VR]at hy;subst hy;exact kx h1 hu hd' hs rfl (run_firstCells_none _ _ _ _ _) (run_firstCells_none _ _ _ _ _)
    .simp only[VR]at hy;obtain⟨a,k,rfl⟩:=hy;exact kx h1 hu hd' hs rfl (run_firstCells_some w esz 0 a 0 k [] (by simp) (by simp)) (run_firstCells_some w.drew esz 0 a 0 k [] (by simp) (by simp))
    .simp only[x7]at hn;subst hn;simp only[VR]at hy;obtain⟨B,k,hB,rfl,_⟩:=hy;exact kx h1 hu hd' hs rfl (run_firstCells_some w esz 0 _ 0 k [] (by simp) (by simp)) (run_firstCells_some w.drew esz 0 _ 0 k [] (by simp) (by simp))
    .simp only[VR]at hy;obtain⟨bs,rfl,rfl⟩:=hy;simp only[x7,qw,q9]at hn;have hl:bs.data.toList=[]:=by
      apply yS;have:bs.data.size=bs.size:=rfl;simp[this,hn]
     have e1:=λw=>gA (P:=P) (w:=w) esz bs;rw[hl,hn]at e1;exact kx h1 hu hd' hs (by simp[Builtin.lenOf,hn]) (e1 w) (e1 w.drew)
    .simp only[x7]at hn;subst hn;simp only[VR]at hy;obtain⟨hp,⟨_,a,rfl⟩|⟨b,o,k,ys,rfl,_⟩⟩:=hy
     .cases a with
      |some a=>exact kx h1 hu hd' hs rfl (run_firstCells_some w esz 0 a 0 0 [] (by simp) (by simp)) (run_firstCells_some w.drew esz 0 a 0 0 [] (by simp) (by simp))
      |none=>exact kx h1 hu hd' hs rfl (run_firstCells_none _ _ _ _ _) (run_firstCells_none _ _ _ _ _)
     .exact kx h1 hu hd' hs rfl (run_firstCells_some w esz 0 _ 0 k [] (by simp) (by simp)) (run_firstCells_some w.drew esz 0 _ 0 k [] (by simp) (by simp))
    .simp only[x7]at hn;subst hn;simp only[VR]at hy;obtain⟨_,_,h0',_⟩:=hy;omega
    .cases hn
   obtain⟨rfl,g1,g2⟩:=iX (ty:=ty) r h0 ht hsrc h hx;exact⟨I,x',w,g1,Step.refl r,g2⟩
  | succ n=>
   simp only at h;cases hc:qu s esz (Nat.succ n) y with
   |none=>rw[hc]at h;simp at h
   |some new=>
    rw[hc]at h;simp only at h;obtain⟨new',src,g2,g3⟩:=key _ _ hn hc;exact KN r hwf hf1 h0 ht hs hby hz hzl src J g2 g3 h hx
def iZ(r:Rel P X I s.get w)(hwf:Wf s)(hf1:s.next<s'.next->I s.next=none){ts:Array TypeId}{e:TypeId}{k:IntKind}{x y z:Z}
  (h0:ts[0]? =some t) (ht:P.underlying t=some (.slice e)) (h1:ts[1]? =some u) (hu:P.underlying u=some (.int k)) (hs:jf P e=some esz) (hby:KS P e=some bytes) (hz:gI P e=some z) (hzl:qQ z.cells=esz) (he:1<=esz)
  (h:Qa s e esz bytes z.cells x y=some (v,s')) (hx:VR I x x') (hy:VR I y y'):
  ∃I' a w',(Builtin.append_ ts ty #[x',y']).run P w=.ok a w'/\Step P X I s w I' s' w'/\VR I' v a:=by
 obtain⟨zx,hzr,hzv⟩:=vJ hz;rw[qw]at hzl;have hzs:zx.cells.size=esz:=by rw[<-hzl,VRL.length (hzv I).cells];simp
 unfold Qa at h;split at h
 .cases h
 .rename_i n
  simp only[VR]at hy;subst hy;cases hb:(zH (zF (Nat.succ n) bytes) 281474976710656&&zG n 9223372036854775807)with
  |false=>rw[hb]at h;simp at h
  |true=>
   rw[hb]at h;simp only[x6]at h;simp only[zP,wB,w9]at hb;have src:=zzy (P:=P) (w:=w) (n:=n+1) h1 hu hs hby hzr hzs he J J hb.1;refine KN r hwf hf1 h0 ht hs hby hz hzl src J (VRL.reps (hzv I).cells _) ?_ h hx;rw[Zs,hzl]
 .cases h
def A1{ts:Array TypeId}{e:TypeId}{x:Z}(h0:ts[0]? =some t)(ht:P.underlying t=some (.slice e))(h:Ek x=some v)(hx:VR I x x'):
  ∃y,(Builtin.cap_ ts ty #[x']).run P w=.ok y w/\VR I v y:=by
 unfold Ek at h;split at h
 .cases h;simp only[VR]at hx;subst hx;exact⟨goInt 0,by simp[Builtin.cap_,h0,xV ht],by simp only[VR];rfl⟩
 .rename_i Y off len n
  cases h;simp only[VR]at hx;obtain⟨B,k,hB,rfl,rfl⟩:=hx;exact⟨goInt k,by simp[Builtin.cap_,h0,xV ht],by simp only[VR];rfl⟩
 .cases h
def jG(P:Program)(X:World)(I:Phi)(s:U)(w:World)(a:Act)(o:Oper)(v:Z)(s':U):Prop:=
 ∃I' x w',((execOp a.eval o).run P w=.ok (.value x) w'\/(execOp a.eval o).run P w=.ok .skip w'/\x=undef)/\Step P X I s w I' s' w'/\VR I' v x
def WP(I:Phi):VR I qX undef:=by simp only[qX,VR];exact⟨[],rfl,VRL.nil I⟩
def Qx{I':Phi}{o:Oper}{x:Value}{S:Sem Value}(e:execOp a.eval o=(do pure (.value (<-S))))(h:S.run P w=.ok x w')(hs:Step P X I s w I' s' w')(hv:VR I' v x):jG P X I s w a o v s':=
 ⟨I',x,w',.inl (by rw[e];simp[h]),hs,hv⟩
def mV{I':Phi}{o:Oper}{S:Sem Unit}(e:execOp a.eval o=(do S;pure .skip))(h:S.run P w=.ok () w')(hs:Step P X I s w I' s' w')(hv:v=qX):jG P X I s w a o v s':=
 ⟨I',undef,w',.inr ⟨by rw[e];simp[h],rfl⟩,hs,hv▸WP I'⟩
def vB{o:Oper}{S:Sem Value}(r:Rel P X I s.get w)(e:execOp a.eval o=(do pure (.value (<-S))))(hs:s'=s)(h:∃x,S.run P w=.ok x w/\VR I v x):jG P X I s w a o v s':=by
 obtain⟨x,h1,h2⟩:=h;subst hs;exact Qx e h1 (Step.refl r) h2
def Ys{o:Oper}{S:Sem Value}(e:execOp a.eval o=(do pure (.value (<-S))))(h:∃I' x w',S.run P w=.ok x w'/\Step P X I s w I' s' w'/\VR I' v x):jG P X I s w a o v s':=by
 obtain⟨I',x,w',h1,h2,h3⟩:=h;exact Qx e h1 h2 h3
section
variable {A:zu}{s s':U}{v:Z}
def jz{x:zv}(h:l9 s x=some (v,s')):x=some v/\s'=s:=by
 cases x with
 |none=>simp[l9]at h
 |some u=>simp only[l9,x7,wF]at h;exact⟨by rw[h.1],h.2.symm⟩
def qr{x:Opd}{f:Z->zv}(h:v1 A s x f=some (v,s')):∃u,x.ev A=some u/\f u=some v/\s'=s:=by
 unfold v1 at h;split at h
 .rename_i u hu;obtain⟨h1,h2⟩:=jz h;exact⟨u,hu,h1,h2⟩
 .cases h
def uB{x y:Opd}{f:Z->Z->zv}(h:v2 A s x y f=some (v,s')):∃u z,x.ev A=some u/\y.ev A=some z/\f u z=some v/\s'=s:=by
 unfold v2 at h;split at h
 .rename_i u hu
  split at h
  .rename_i z hz;obtain⟨h1,h2⟩:=jz h;exact⟨u,z,hu,hz,h1,h2⟩
  .cases h
 .cases h
def jK{x:Opd}{f:Z->zb}(h:o1 A x f=some (v,s')):∃u,x.ev A=some u/\f u=some (v,s'):=by
 unfold o1 at h;split at h
 .rename_i u hu;exact⟨u,hu,h⟩
 .cases h
def kv{x y:Opd}{f:Z->Z->zb}(h:o2 A x y f=some (v,s')):∃u z,x.ev A=some u/\y.ev A=some z/\f u z=some (v,s'):=by
 unfold o2 at h;split at h
 .rename_i u hu
  split at h
  .rename_i z hz;exact⟨u,z,hu,hz,h⟩
  .cases h
 .cases h
def bj{x y z:Opd}{f:Z->Z->Z->zb}(h:o3 A x y z f=some (v,s')):∃a b c,x.ev A=some a/\y.ev A=some b/\z.ev A=some c/\f a b c=some (v,s'):=by
 unfold o3 at h;split at h
 .rename_i a ha
  split at h
  .rename_i b hb
   split at h
   .rename_i c hc;exact⟨a,b,c,ha,hb,hc,h⟩
   .cases h
  .cases h
 .cases h
def Kq{x:Opd}{lo hi:Option Opd}{f:Z->zv->zv->zv}(h:vs3 A s x lo hi f=some (v,s')):∃a b c,x.ev A=some a/\evO A lo=some b/\evO A hi=some c/\f a b c=some v/\s'=s:=by
 unfold vs3 at h;split at h
 .rename_i a ha
  split at h
  .rename_i b hb
   split at h
   .rename_i c hc;obtain⟨h1,h2⟩:=jz h;exact⟨a,b,c,ha,hb,hc,h1,h2⟩
   .cases h
  .cases h
 .cases h
def co{x:Opd}{lo hi mx:Option Opd}{f:Z->zv->zv->zv->zv}(h:vs4 A s x lo hi mx f=some (v,s')):∃a b c d,x.ev A=some a/\evO A lo=some b/\evO A hi=some c/\evO A mx=some d/\f a b c d=some v/\s'=s:=by
 unfold vs4 at h;split at h
 .rename_i d hd
  obtain⟨a,b,c,h1,h2,h3,h4,h5⟩:=Kq h;exact⟨a,b,c,d,h1,h2,h3,hd,h4,h5⟩
 .cases h
def cm{l m:List Opd}{f:zt->zt->zv}(h:vLL A s l m f=some (v,s')):∃a b,evL A l=some a/\evL A m=some b/\f a b=some v/\s'=s:=by
 unfold vLL at h;split at h
 .rename_i a ha
  split at h
  .rename_i b hb;obtain⟨h1,h2⟩:=jz h;exact⟨a,b,ha,hb,h1,h2⟩
  .cases h
 .cases h
def dZ{x:Option Opd}{b:zv}(h:evO A x=some b):(x=none↔b=none):=by
 cases x with
 |none=>simp[evO]at h;simp[<-h]
 |some y=>
  simp only[evO]at h;cases hy:y.ev A with
  |none=>rw[hy]at h;simp at h
  |some u=>rw[hy]at h;simp at h;simp[<-h]
end
def ja(h:s.alloc o=s'):s.next<s'.next:=by subst h;exact Nat.lt_succ_self _
def CS{len:Nat}{x:Option zt}(h:VY s e len x=some (v,s')):s.next<=s'.next:=by
 cases x with
 |none=>simp[VY]at h
 |some l=>
  simp only[VY]at h;cases hb:(s.md&&wo l)with
  |true=>rw[hb]at h;simp only[x6,x7,wF]at h;rw[h.2];exact zS _
  |false=>rw[hb]at h;simp only[wh,x7,wF]at h;exact Nat.le_of_lt (ja h.2)
def Pu{z:zt}{l c:Z}(h:H4 s e b z l c=some (v,s')):s.next<s'.next:=by
 unfold H4 at h;split at h
 .rename_i l
  split at h
  .rename_i c
   cases hb:(zH l c&&zH (zF c b) 281474976710656&&zG c 9223372036854775808)with
   |false=>rw[hb]at h;simp at h
   |true=>rw[hb]at h;simp only[x6,x7,wF]at h;exact ja h.2
  .cases h
 .cases h
def CU{x:Z}(h:JW s e x=some (v,s')):s.next<=s'.next:=by
 unfold JW at h;split at h
 .rename_i t
  cases hb:zG (qQ t) 9223372036854775808 with
  |false=>rw[hb]at h;simp at h
  |true=>
   rw[hb]at h;simp only[x6]at h;cases hm:s.md with
   |true=>rw[hm]at h;simp only[x6,x7,wF]at h;rw[h.2];exact zS _
   |false=>rw[hm]at h;simp only[wh,x7,wF]at h;exact Nat.le_of_lt (ja h.2)
 .cases h
def fD{x:Z}(h:oRs s x=some (v,s')):s.next<s'.next:=by
 unfold oRs at h;split at h
 .simp only[x7,wF]at h;exact ja h.2
 .cases h
def fC{x:Z}(h:oRm s x=some (v,s')):s.next<s'.next:=by
 unfold oRm at h;split at h
 .simp only[x7,wF]at h;exact ja h.2
 .split at h
  .simp only[x7,wF]at h;exact ja h.2
  .cases h
 .cases h
def eV{α:Type}{a:Array α}{x y:α}(h:a.toList=[x,y]):a=#[x,y]:=by apply Array.ext';exact h
def eU{α:Type}{a:Array α}{x:α}(h:a.toList=[x]):a=#[x]:=by apply Array.ext';exact h
theorem VT{α:Type}{a:Array α}{x:α}{l:List α}(h:a.toList=x::l):a[0]? =some x:=by rw[<-Array.getElem?_toList,h];rfl
theorem MO{α:Type}{a:Array α}{x y:α}{l:List α}(h:a.toList=x::y::l):a[1]? =some y:=by rw[<-Array.getElem?_toList,h];rfl
theorem aN{o:Oper}{c:Call}{b:Builtin}(ho:o.op=.call c)(hc:c.callee=.builtin b):execOp a.eval o=(builtin b c.argTypes o.type (c.args.map λ|.const _=>true|_=>false) (c.args.map a.eval)):=by
 unfold execOp;rw[ho];simp only[resolve,hc];rfl
def QP{P:Program}{w:World}{I:Phi}:∀{r:zt} {x v:Z} {x':Value} {ys:zy},UR false x r=some v->VR I x x'->VRL I r ys->∃z,(ys.foldlM Builtin.min2 x').run P w=.ok z w/\VR I v z
 |[],x,v,x',ys,h,hx,hr=>by
  simp only[UR,x7]at h;subst h;simp only[VRL]at hr;subst hr;exact⟨x',by simp,hx⟩
 | y::r,x,v,x',ys,h,hx,hr=>by
  simp only[VRL]at hr;obtain⟨y',ys',rfl,hy,hr⟩:=hr;cases x<;>cases y<;>simp only[UR]at h<;>first|(cases h;done)|skip
  rename_i k a k' b
  simp only[VR]at hx hy;subst hx;subst hy;simp only[wh,lK]at h;have hm:(Builtin.min2 (.int k a) (.int k' b))=pure (.int k (if b<a then b else a)):=rfl;simp only[List.foldlM_cons,hm];by_cases hb:b<a
  .rw[qp hb]at h;simp only[x6]at h;rw[wc hb];obtain⟨z,g1,g2⟩:=QP (P:=P) (w:=w) (x':=.int k b) h (by simp only[VR]) hr
   exact⟨z,by simpa using g1,g2⟩
  .rw[qb hb]at h;simp only[wh]at h;rw[x0 hb];obtain⟨z,g1,g2⟩:=QP (P:=P) (w:=w) (x':=.int k a) h (by simp only[VR]) hr
   exact⟨z,by simpa using g1,g2⟩
def QN{P:Program}{w:World}{I:Phi}:∀{r:zt} {x v:Z} {x':Value} {ys:zy},UR true x r=some v->VR I x x'->VRL I r ys->∃z,(ys.foldlM Builtin.max2 x').run P w=.ok z w/\VR I v z
 |[],x,v,x',ys,h,hx,hr=>by
  simp only[UR,x7]at h;subst h;simp only[VRL]at hr;subst hr;exact⟨x',by simp,hx⟩
 | y::r,x,v,x',ys,h,hx,hr=>by
  simp only[VRL]at hr;obtain⟨y',ys',rfl,hy,hr⟩:=hr;cases x<;>cases y<;>simp only[UR]at h<;>first|(cases h;done)|skip
  rename_i k a k' b
  simp only[VR]at hx hy;subst hx;subst hy;simp only[x6,lK]at h;have hm:(Builtin.max2 (.int k a) (.int k' b))=pure (.int k (if b>a then b else a)):=rfl;simp only[List.foldlM_cons,hm];by_cases hb:a<b
  .rw[qp hb]at h;simp only[x6]at h;rw[wc hb];obtain⟨z,g1,g2⟩:=QN (P:=P) (w:=w) (x':=.int k b) h (by simp only[VR]) hr
   exact⟨z,by simpa using g1,g2⟩
  .rw[qb hb]at h;simp only[wh]at h;rw[x0 J];obtain⟨z,g1,g2⟩:=QN (P:=P) (w:=w) (x':=.int k a) h (by simp only[VR]) hr
   exact⟨z,by simpa using g1,g2⟩
def MY{ts:Array TypeId}{xs:zy}(h:vMn false l=some v)(hx:VRL I l xs):∃z,(Builtin.min_ ts ty xs.toArray).run P w=.ok z w/\VR I v z:=by
 cases l with
 |nil=>simp[vMn]at h
 |cons x r=>
  simp only[VRL]at hx;obtain⟨y,ys,rfl,h1,h2⟩:=hx;exact QP h h1 h2
def MZ{ts:Array TypeId}{xs:zy}(h:vMn true l=some v)(hx:VRL I l xs):∃z,(Builtin.max_ ts ty xs.toArray).run P w=.ok z w/\VR I v z:=by
 cases l with
 |nil=>simp[vMn]at h
 |cons x r=>
  simp only[VRL]at hx;obtain⟨y,ys,rfl,h1,h2⟩:=hx;exact QN h h1 h2
def Ja{A:zu}{l:List Opd}{f:zt->zv}(h:vL A s l f=some (v,s')):∃a,evL A l=some a/\f a=some v/\s'=s:=by
 unfold vL at h;cases hl:evL A l with
 |none=>rw[hl]at h;cases h
 |some a=>rw[hl]at h;obtain⟨h1,h2⟩:=jz h;exact⟨a,rfl,h1,h2⟩
def JB(c:UInt8):∀(l:List UInt8) (i:Nat),ej c.toNat (l.map (·.toNat)) i=(l.findIdx? (· ==c)).map (· +i)
 |[],i=>rfl
 | b::l,i=>by
  simp only[zY,ej,List.findIdx?_cons];by_cases hb:b=c
  .subst hb;simp
  .have h1:zD b.toNat c.toNat=false:=by
    cases h:zD b.toNat c.toNat with
    |false=>rfl
    |true=>exact absurd (UInt8.toNat_inj.1 (wH.1 h)) hb
   rw[h1,JB c l (i+1)];simp only[wh,beq_iff_eq,hb,if_false,Option.map_map];cases l.findIdx? (· ==c)<;>simp<;>omega
def H3:Extern.allNextRows.lookup "internal/abi.NoEscape"=none:=by kernel_rfl
def G7:Extern.allNextRows.lookup ""=none:=by kernel_rfl
def aU:Extern.allGenericRows.lookup "internal/abi.NoEscape"=none:=by kernel_rfl
def HG:Extern.allTypedRows.lookup "internal/abi.NoEscape"=none:=by kernel_rfl
def H6:Extern.allRows.lookup "internal/abi.NoEscape"=some Extern.AbiNoEscape.same:=by kernel_rfl
def M3:Extern.allNextRows.lookup "internal/bytealg.IndexByteString"=none:=by kernel_rfl
def Tp:Extern.allGenericRows.lookup "internal/bytealg.IndexByteString"=none:=by kernel_rfl
def Ef:Extern.allTypedRows.lookup "internal/bytealg.IndexByteString"=none:=by kernel_rfl
def Ot:Extern.allRows.lookup "internal/bytealg.IndexByteString"=some Extern.BytealgIndexByte.indexByte:=by kernel_rfl
theorem HX{fn:Func}(h:fn.name= "internal/abi.NoEscape")(ho:fn.origin= ""):Extern.findNext fn=none/\Extern.find fn=some Extern.AbiNoEscape.same:=by
 constructor
 .simp only[Extern.findNext,h,ho,H3,G7,yX];rfl
 .simp only[Extern.find,h,aU,HG,H6,yX];rfl
theorem Iu{fn:Func}(h:fn.name= "internal/bytealg.IndexByteString")(ho:fn.origin= ""):Extern.findNext fn=none/\Extern.find fn=some Extern.BytealgIndexByte.indexByte:=by
 constructor
 .simp only[Extern.findNext,h,ho,M3,G7,yX];rfl
 .simp only[Extern.find,h,Tp,Ef,Ot,yX];rfl
def Hr{f:Nat}{fn:Func}{g:zn->Sem Value}{xs:zn}{z:Value}(hf:P.funcs[f]? =some fn)(hb:fn.body.isNone=true)(hn:(fn.name== "runtime.NumGoroutine")=false)(h1:Extern.findNext fn=none)(h2:Extern.find fn=some g)
  (hg:(g xs).run P w=.ok z w):(callFunc f xs).run P w=.ok (.value z) w:=by
 have hn':fn.name≠ "runtime.NumGoroutine":=by simpa using hn
 have hb':fn.body=none:=by simpa using hb
 simp[callFunc,hf,hn',hb',h1,h2,hg]
def LS{P:Program}{w:World}{a:Act}{o:Oper}{c:Call}{f:Nat}{x:Next}(ho:o.op=.call c)(hc:c.callee=.value (.func f))(h:(callFunc f (c.args.map a.eval)).run P w=.ok x w'):(execOp a.eval o).run P w=.ok x w':=by
 unfold execOp;rw[ho];simp[resolve,hc,Act.eval,Deferred.ofValue,invoke,h]
def nL(b:ByteArray)(c:UInt8):(List.range b.size).find? (λi=>b[i]! ==c)=b.data.toList.findIdx? (· ==c):=by
 have key:∀(l:List UInt8) (k:Nat) (n:Nat),zM l=n->(∀i,i<n->b[k+i]! =l[i]?.getD 0)->(List.range' k n).find? (λi=>b[i]! ==c)=(l.findIdx? (· ==c)).map (· +k):=by
  intro l
  induction l with
  |nil=>intro k n hn _;simp at hn;subst hn;rfl
  | cons x l ih=>
   intro k n hn hb;cases n with
   |zero=>simp at hn
   | succ n=>
    have h0:=hb 0 J;simp at h0;rw[List.range'_succ,List.find?_cons,List.findIdx?_cons,h0];by_cases hx:x=c
    .subst hx;simp
    .have hxb:(x==c)=false:=by simpa using hx
     rw[hxb];simp only[Bool.false_eq_true,if_false];rw[ih (k+1) n (by simpa using hn) (λi hi=>by have:=hb (i+1) J;rw[show k+(i+1)=k+1+i by omega]at this;simpa using this)]
     cases l.findIdx? (· ==c)<;>simp<;>omega
 have:=key b.data.toList 0 b.size (by simp) (λi hi=>by
  have hi':i<zM b.data.toList:=by simpa using hi
  simp only[y8];rw[yU hi',Option.getD_some];show b[i]! =_;rw[getElem!_pos b i hi];rfl)
 rw[List.range_eq_range',this];cases b.data.toList.findIdx? (· ==c)<;>simp
def Cz{x c:Z}{c':Value}(h:zwr x c=some v)(hx:VR I x x')(hc:VR I c c'):∃z,(Extern.BytealgIndexByte.indexByte #[x',c']).run P w=.ok z w/\VR I v z:=by
 unfold zwr at h;split at h
 .rename_i t
  split at h
  .rename_i c
   simp only[VR]at hx hc;obtain⟨bs,rfl,rfl⟩:=hx;subst hc;cases hb:zG c 256 with
   |false=>rw[hb]at h;simp at h
   |true=>
   rw[hb]at h;simp only[x6]at h;have hlt:c<256:=w9.1 hb;have hu:((c.toUInt8).toNat)=c:=by rw[Nat.toUInt8,UInt8.toNat_ofNat'];exact Nat.mod_eq_of_lt hlt
   have hf:=JB c.toUInt8 bs.data.toList 0;rw[hu]at hf;have hf':ej c (ur bs) 0=(bs.data.toList.findIdx? (· ==c.toUInt8)).map (· +0):=hf;rw[hf']at h
   have hd:Extern.BytealgIndexByte.indexByte #[.string bs,.int .u8 (Int.ofNat c)]=(do
    let b <-Extern.Bytes.bytesOf (.string bs)
    let c <-Extern.Bytes.asByte (.int .u8 (Int.ofNat c))
    match (List.range b.size).find? λi=>b[i]! ==c with
    |some i=>pure (goInt i)
    |none=>pure (goInt (-1))):=rfl
   rw[hd];simp only[Extern.Bytes.bytesOf,Extern.Bytes.asByte,pure_bind];have e1:(Int.ofNat c).toNat.toUInt8=c.toUInt8:=rfl;rw[e1,nL];cases hi:bs.data.toList.findIdx? (· ==c.toUInt8)with
   |none=>rw[hi]at h;simp at h;subst h;exact⟨goInt (-1),by simp,by simp only[VR];rfl⟩
   |some i=>rw[hi]at h;simp at h;subst h;exact⟨goInt i,by simp,by simp only[VR];rfl⟩
  .cases h
 .cases h
section
variable {P:Program}{X:World}{I:Phi}{s s':U}{w:World}{A:zu}{a:Act}{o:Oper}{v:Z}{E:Env}
def qo{x:Opd}{l:List Opd}(ht:TmOn I (Opd.tmps l) A a)(hx:x∈l):TmOn I x.tmp A a:=
 ht.sub λ_t h=>List.mem_flatMap.2 ⟨x,hx,h⟩
def Yd{m l:List Opd}(ht:TmOn I (Opd.tmps l) A a)(hx:∀x∈m,x∈l):TmOn I (Opd.tmps m) A a:=
 ht.sub λt h=>by
  obtain⟨x,h1,h2⟩:=List.mem_flatMap.1 h;exact List.mem_flatMap.2 ⟨x,hx x h1,h2⟩
def am{b:Builtin}{c:Call}{op:IOp}(_hG:wG E.globs X)(ho:o.op=.call c)(hcb:c.callee=.builtin b)(hc:Xi P b c.argTypes.toList c.args.toList=some op)(h:opv E op A s=some (v,s'))
  (r:Rel P X I s.get w) (hwf:Wf s) (hf:s.next<s'.next->I s.next=none) (ht:TmOn I (Opd.tmps op.opds) A a):jG P X I s w a o v s':=by
 have he:=aN (a:=a) ho hcb;unfold Xi at hc;split at hc
 · --len
  rename_i t rest x hts hxs
  have h0:=VT hts;have hx:=eU hxs;have he':execOp a.eval o=(do pure (.value (<-Builtin.len_ c.argTypes o.type #[a.eval x]))):=by rw[he,hx];simp only[builtin,yN,zY,y7]
  split at hc
  .rename_i hu
   obtain⟨y,hy,rfl⟩:=Option.map_eq_some_iff.1 hc;simp only[opv]at h;obtain⟨u,h1,h2,h3⟩:=qr h;exact vB r he' h3 (UO (k:=.s) r h0 hu h2 (wn hy h1 (qo ht (by simp[IOp.opds]))))
  .rename_i e hu
   obtain⟨y,hy,rfl⟩:=Option.map_eq_some_iff.1 hc;simp only[opv]at h;obtain⟨u,h1,h2,h3⟩:=qr h;exact vB r he' h3 (UO (k:=.v) r h0 ⟨e,hu⟩ h2 (wn hy h1 (qo ht (by simp[IOp.opds]))))
  .rename_i k e hu
   obtain⟨y,hy,rfl⟩:=Option.map_eq_some_iff.1 hc;simp only[opv]at h;obtain⟨u,h1,h2,h3⟩:=qr h;exact vB r he' h3 (UO (k:=.m) r h0 ⟨k,e,hu⟩ h2 (wn hy h1 (qo ht (by simp[IOp.opds]))))
  .cases hc
 · --cap
  rename_i t rest x hts hxs
  have h0:=VT hts;have hx:=eU hxs;have he':execOp a.eval o=(do pure (.value (<-Builtin.cap_ c.argTypes o.type #[a.eval x]))):=by rw[he,hx];simp only[builtin,yN,zY,y7]
  split at hc
  .rename_i e hu
   obtain⟨y,hy,rfl⟩:=Option.map_eq_some_iff.1 hc;simp only[opv]at h;obtain⟨u,h1,h2,h3⟩:=qr h;exact vB r he' h3 (A1 h0 hu h2 (wn hy h1 (qo ht (by simp[IOp.opds]))))
  .cases hc
 · -- append
  rename_i t u rest x y hts hxs
  have h0:=VT hts;have h1:=MO hts;have hx:=eV hxs;have he':execOp a.eval o=(do pure (.value (<-Builtin.append_ c.argTypes o.type #[a.eval x,a.eval y]))):=by rw[he,hx];simp only[builtin,yN,zY,y7]
  split at hc
  .rename_i e hu
   split at hc
   .rename_i k huk
    split at hc
    .rename_i sz by_ z xa ya q1 q2 q3 q4 q5
     cases hb:(zD (qQ z.cells) sz&&zH 1 sz)with
     |false=>rw[hb]at hc;simp at hc
     |true=>
      rw[hb]at hc;simp only[x6,x7]at hc;subst hc;simp only[zP,wH,wB]at hb;simp only[opv]at h;obtain⟨m,n,g1,g2,g3⟩:=kv h;exact Ys he' (iZ r hwf hf h0 hu h1 huk q1 q2 q3 hb.1 hb.2 g3 (wn q4 g1 (qo ht (by simp[IOp.opds]))) (wn q5 g2 (qo ht (by simp[IOp.opds]))))
    .cases hc
   .rename_i huk
    split at hc
    .rename_i by_ z xa ya q1 q2 q3 q4 q5
     cases hb:zD (qQ z.cells) 1 with
     |false=>rw[hb]at hc;simp at hc
     |true=>
      rw[hb]at hc;simp only[x6,x7]at hc;subst hc;simp only[wH]at hb;simp only[opv]at h;obtain⟨m,n,g1,g2,g3⟩:=kv h;exact Ys he' (Lj r hwf hf h0 hu h1 huk (.inl rfl) q1 q2 q3 hb g3 (wn q4 g1 (qo ht (by simp[IOp.opds]))) (wn q5 g2 (qo ht (by simp[IOp.opds]))))
    .cases hc
   .rename_i k huk
    split at hc
    .rename_i sz by_ z xa ya q1 q2 q3 q4 q5
     cases hb:zD (qQ z.cells) sz with
     |false=>rw[hb]at hc;simp at hc
     |true=>
      rw[hb]at hc;simp only[x6,x7]at hc;subst hc;simp only[wH]at hb;simp only[opv]at h;obtain⟨m,n,g1,g2,g3⟩:=kv h;exact Ys he' (Lj r hwf hf h0 hu h1 huk (.inr ⟨_,rfl⟩) q1 q2 q3 hb g3 (wn q4 g1 (qo ht (by simp[IOp.opds]))) (wn q5 g2 (qo ht (by simp[IOp.opds]))))
    .cases hc
   .cases hc
  .cases hc
 · --delete
  rename_i t rest m k hts hxs
  have h0:=VT hts;have hx:=eV hxs;have he':execOp a.eval o=(do pure (.value (<-Builtin.delete_ c.argTypes o.type #[a.eval m,a.eval k]))):=by rw[he,hx];simp only[builtin,yN,zY,y7]
  split at hc
  .rename_i kt e hu
   split at hc
   .rename_i f ma ka q1 q2 q3
    cases hc;simp only[opv]at h;obtain⟨x,y,g1,g2,g3⟩:=kv h;obtain⟨rfl,w',g4,g5⟩:=MW (P:=P) (ty:=o.type) r h0 hu q1 g3 (wn q2 g1 (qo ht (by simp[IOp.opds]))) (wn q3 g2 (qo ht (by simp[IOp.opds])))
    exact Qx he' g4 g5 (WP I)
   .cases hc
  .cases hc
 · --min
  rename_i xs
  have he':execOp a.eval o=(do pure (.value (<-Builtin.min_ c.argTypes o.type (c.args.toList.map a.eval).toArray))):=by rw[he];simp only[builtin];rw[<-yN,yj]
  obtain⟨y,hy,rfl⟩:=Option.map_eq_some_iff.1 hc;simp only[opv]at h;obtain⟨l,h1,h2,h3⟩:=Ja h;exact vB r he' h3 (MY h2 (ju hy h1 (Yd ht (by simp[IOp.opds]))))
 · --max
  rename_i xs
  have he':execOp a.eval o=(do pure (.value (<-Builtin.max_ c.argTypes o.type (c.args.toList.map a.eval).toArray))):=by rw[he];simp only[builtin];rw[<-yN,yj]
  obtain⟨y,hy,rfl⟩:=Option.map_eq_some_iff.1 hc;simp only[opv]at h;obtain⟨l,h1,h2,h3⟩:=Ja h;exact vB r he' h3 (MZ h2 (ju hy h1 (Yd ht (by simp[IOp.opds]))))
 .cases hc
end
section
variable {P:Program}{X:World}{I:Phi}{s s':U}{w:World}{A:zu}{a:Act}{o:Oper}{v:Z}{E:Env}
def zzq{x:Operand}{u:Z}(ho:o.op=.nilCheck x)(h:Rv u=some v)(hx:VR I u (a.eval x)):(execOp a.eval o).run P w=.ok (.value (a.eval x)) w/\v=u:=by
 unfold Rv at h;split at h
 .cases h;simp only[VR]at hx;obtain⟨B,_,e⟩:=hx;exact⟨by simp[execOp,ho,e],rfl⟩
 .cases h;simp only[VR]at hx;exact⟨by simp[execOp,ho,hx],rfl⟩
 .cases h;simp only[VR]at hx;obtain⟨_,_,e,_⟩:=hx;exact⟨by simp[execOp,ho,e],rfl⟩
 .cases h;simp only[VR]at hx;obtain⟨B,_,e⟩:=hx;exact⟨by simp[execOp,ho,e],rfl⟩
 .cases h;simp only[VR]at hx;obtain⟨B,_,e⟩:=hx;exact⟨by simp[execOp,ho,e],rfl⟩
 .cases h;simp only[VR]at hx;obtain⟨_,b,o',ys,e,_⟩:=hx;exact⟨by simp[execOp,ho,e],rfl⟩
 .cases h
def Br{x:Operand}{op:IOp}(_hG:wG E.globs X)(ho:o.op=.move x)(hc:qM P (.move x)=some op)(h:opv E op A s=some (v,s'))
  (r:Rel P X I s.get w) (hwf:Wf s) (hf:s.next<s'.next->I s.next=none) (ht:TmOn I (Opd.tmps op.opds) A a):jG P X I s w a o v s':=by
 simp only[qM]at hc;obtain⟨y,hy,rfl⟩:=Option.map_eq_some_iff.1 hc;simp only[opv]at h;obtain⟨u,h1,h2,rfl⟩:=qr h;simp only[x7]at h2;subst h2;exact⟨I,a.eval x,w,.inl (by unfold execOp;rw[ho];simp),Step.refl r,wn hy h1 (qo ht (by simp[IOp.opds]))⟩
def dI{x:Operand}{op:IOp}(_hG:wG E.globs X)(ho:o.op=.assign x)(hc:qM P (.assign x)=some op)(h:opv E op A s=some (v,s'))
  (r:Rel P X I s.get w) (hwf:Wf s) (hf:s.next<s'.next->I s.next=none) (ht:TmOn I (Opd.tmps op.opds) A a):jG P X I s w a o v s':=by
 simp only[qM]at hc;obtain⟨y,hy,rfl⟩:=Option.map_eq_some_iff.1 hc;simp only[opv]at h;obtain⟨u,h1,h2,rfl⟩:=qr h;simp only[x7]at h2;subst h2;exact⟨I,a.eval x,w,.inl (by unfold execOp;rw[ho];simp),Step.refl r,wn hy h1 (qo ht (by simp[IOp.opds]))⟩
def Bs{c x:Operand}{op:IOp}(_hG:wG E.globs X)(ho:o.op=.pick c x y)(hc:qM P (.pick c x y)=some op)(h:opv E op A s=some (v,s'))
  (r:Rel P X I s.get w) (hwf:Wf s) (hf:s.next<s'.next->I s.next=none) (ht:TmOn I (Opd.tmps op.opds) A a):jG P X I s w a o v s':=by
 simp only[qM]at hc;split at hc
 .rename_i cc cx cy q1 q2 q3
  cases hc;simp only[opv]at h;obtain⟨h1,rfl⟩:=jz h;unfold P6 at h1;split at h1
  .rename_i hb
   have hcv:=wn (I:=I) (a:=a) q1 hb (qo ht (by simp[IOp.opds]))
   simp only[VR]at hcv;exact⟨I,a.eval x,w,.inl (by unfold execOp;rw[ho];simp[hcv,asBool]),Step.refl r,wn q2 h1 (qo ht (by simp[IOp.opds]))⟩
  .rename_i hb
   have hcv:=wn (I:=I) (a:=a) q1 hb (qo ht (by simp[IOp.opds]))
   simp only[VR]at hcv;exact⟨I,a.eval y,w,.inl (by unfold execOp;rw[ho];simp[hcv,asBool]),Step.refl r,wn q3 h1 (qo ht (by simp[IOp.opds]))⟩
  .cases h1
 .cases hc
def mL{op:IOp}(_hG:wG E.globs X)(ho:o.op=.alloc t)(hc:qM P (.alloc t)=some op)(h:opv E op A s=some (v,s'))
  (r:Rel P X I s.get w) (hwf:Wf s) (hf:s.next<s'.next->I s.next=none) (ht:TmOn I (Opd.tmps op.opds) A a):jG P X I s w a o v s':=by
 simp only[qM]at hc;obtain⟨z,hz,rfl⟩:=Option.map_eq_some_iff.1 hc;simp only[opv]at h;have hn:s.next<s'.next:=by unfold UW X5 at h;simp only[x7,wF]at h;exact ja h.2
 exact Ys (S:=Instr.alloc t true (.tuple #[])) (by unfold execOp;rw[ho]) (cE r hwf (hf hn) hz h)
def FA{x:Operand}{op:IOp}(_hG:wG E.globs X)(ho:o.op=.box t x)(hc:qM P (.box t x)=some op)(h:opv E op A s=some (v,s'))
  (r:Rel P X I s.get w) (hwf:Wf s) (hf:s.next<s'.next->I s.next=none) (ht:TmOn I (Opd.tmps op.opds) A a):jG P X I s w a o v s':=by
 simp only[qM]at hc;obtain⟨y,hy,rfl⟩:=Option.map_eq_some_iff.1 hc;simp only[opv]at h;obtain⟨u,h1,h2⟩:=jK h;have hn:s.next<s'.next:=by unfold fB at h2;simp only[x7,wF]at h2;exact ja h2.2
 exact Ys (S:=Instr.box t (a.eval x)) (by unfold execOp;rw[ho]) (AW r hwf (hf hn) h2 (wn hy h1 (qo ht (by simp[IOp.opds]))))
def mN{ps:Array (Nat×Operand)}{op:IOp}(_hG:wG E.globs X)(ho:o.op=.build t ps)(hc:qM P (.build t ps)=some op)(h:opv E op A s=some (v,s'))
  (r:Rel P X I s.get w) (_hwf:Wf s) (_hf:s.next<s'.next->I s.next=none) (ht:TmOn I (Opd.tmps op.opds) A a):jG P X I s w a o v s':=by
 simp only[qM]at hc;split at hc
 .rename_i z fs hz hu
  cases hb:fs.toList.all (λf=>(jf P f.type).isSome)with
  |false=>rw[hb]at hc;simp at hc
  | true=>
   rw[hb]at hc;simp only[x6]at hc;obtain⟨qs,hq,rfl⟩:=Option.map_eq_some_iff.1 hc;simp only[opv]at h;obtain⟨h1,h2⟩:=jz h;cases hfc:gw z.cells A qs with
   |none=>rw[hfc]at h1;simp[Ui]at h1
   |some cs=>
    rw[hfc]at h1;simp only[Ui,x7]at h1;subst h1;exact vB r (S:=Instr.build t (ps.map λ(i,x)=>(i,a.eval x))) (by unfold execOp;rw[ho]) h2 (aj hu hz hb hq hfc ht)
 .rename_i z n e hz hu
  split at hc
  .rename_i sz hs
   obtain⟨qs,hq,rfl⟩:=Option.map_eq_some_iff.1 hc;simp only[opv]at h;obtain⟨h1,h2⟩:=jz h;cases hfc:gw z.cells A qs with
   |none=>rw[hfc]at h1;simp[Ui]at h1
   |some cs=>
    rw[hfc]at h1;simp only[Ui,x7]at h1;subst h1;exact vB r (S:=Instr.build t (ps.map λ(i,x)=>(i,a.eval x))) (by unfold execOp;rw[ho]) h2 (cJ hu hz hs hq hfc ht)
  .cases hc
 .cases hc
def JR{len:Nat}{ps:Array (Nat×Operand)}{op:IOp}(_hG:wG E.globs X)(ho:o.op=.buildSlice t len ps)(hc:qM P (.buildSlice t len ps)=some op)(h:opv E op A s=some (v,s'))
  (r:Rel P X I s.get w) (hwf:Wf s) (hf:s.next<s'.next->I s.next=none) (ht:TmOn I (Opd.tmps op.opds) A a):jG P X I s w a o v s':=by
 simp only[qM]at hc;split at hc
 .rename_i e hu
  split at hc
  .rename_i sz z hs hz
   cases hb:(zH (len*sz) 16777216&&zD (qQ z.cells) sz&&zH 1 sz)with
   |false=>rw[hb]at hc;simp at hc
   |true=>
    rw[hb]at hc;simp only[x6]at hc;obtain⟨qs,hq,rfl⟩:=Option.map_eq_some_iff.1 hc;simp only[opv]at h;have:=AX (P:=P) (X:=X) (I:=I) (s:=s) (s':=s') (w:=w) (t:=t) (e:=e) (n:=sz) (len:=len) (z:=z) (v:=v) (ps:=ps) (qs:=qs) (A:=A) (a:=a) r hwf hf hu hs hz hb hq h ht;obtain⟨I',x,w',k1,k2,k3⟩:=this;exact⟨I',x,w',.inl (by simp only[execOp,ho,Sem.run_bind,k1,Result.andThen_ok,Sem.run_pure]),k2,k3⟩
  .cases hc
 .cases hc
def Bq{x:Operand}{op:IOp}(hG:wG E.globs X)(ho:o.op=.load t x)(hc:qM P (.load t x)=some op)(h:opv E op A s=some (v,s'))
  (r:Rel P X I s.get w) (_hwf:Wf s) (_hf:s.next<s'.next->I s.next=none) (ht:TmOn I (Opd.tmps op.opds) A a):jG P X I s w a o v s':=by
 simp only[qM]at hc;split at hc
 .rename_i n y q1 q2 q3
  cases hc;simp only[opv]at h;obtain⟨u,h1,h2,h3⟩:=qr h;exact vB r (S:=Instr.loadAt t (a.eval x)) (by unfold execOp;rw[ho]) h3 (Aq r hG q1 q2 h2 (wn q3 h1 (qo ht (by simp[IOp.opds]))))
 .rename_i y q1 q3
  cases hc;simp only[opv]at h;obtain⟨u,h1,h2,h3⟩:=qr h;exact vB r (S:=Instr.loadAt t (a.eval x)) (by unfold execOp;rw[ho]) h3 (OD r hG q1 h2 (wn q3 h1 (qo ht (by simp[IOp.opds]))))
 .cases hc
def mU{x:Operand}{op:IOp}(_hG:wG E.globs X)(ho:o.op=.store t x y)(hc:qM P (.store t x y)=some op)(h:opv E op A s=some (v,s'))
  (r:Rel P X I s.get w) (_hwf:Wf s) (_hf:s.next<s'.next->I s.next=none) (ht:TmOn I (Opd.tmps op.opds) A a):jG P X I s w a o v s':=by
 simp only[qM]at hc;split at hc
 .rename_i n xa ya q1 q2 q3
  cases hc;simp only[opv]at h;obtain⟨m,k,g1,g2,g3⟩:=kv h;obtain⟨g4,w',g5,g6⟩:=zx8 (P:=P) r q1 g3 (wn q2 g1 (qo ht (by simp[IOp.opds]))) (wn q3 g2 (qo ht (by simp[IOp.opds])))
  exact mV (S:=Instr.storeAt t (a.eval x) (a.eval y)) (by unfold execOp;rw[ho]) g5 g6 g4
 .cases hc
def HU{x:Operand}{op:IOp}(_hG:wG E.globs X)(ho:o.op=.nilCheck x)(hc:qM P (.nilCheck x)=some op)(h:opv E op A s=some (v,s'))
  (r:Rel P X I s.get w) (hwf:Wf s) (hf:s.next<s'.next->I s.next=none) (ht:TmOn I (Opd.tmps op.opds) A a):jG P X I s w a o v s':=by
 simp only[qM]at hc;obtain⟨y,hy,rfl⟩:=Option.map_eq_some_iff.1 hc;simp only[opv]at h;obtain⟨u,h1,h2,rfl⟩:=qr h;have hx:=wn (I:=I) (a:=a) hy h1 (qo ht (by simp[IOp.opds]))
 obtain⟨h3,rfl⟩:=zzq (P:=P) (w:=w) ho h2 hx;exact⟨I,a.eval x,w,.inl h3,Step.refl r,hx⟩
def mM{bop:BinOp}{x:Operand}{pos:_}{op:IOp}(_hG:wG E.globs X)(ho:o.op=.binOp bop t x y pos)(hc:qM P (.binOp bop t x y pos)=some op)(h:opv E op A s=some (v,s'))
  (r:Rel P X I s.get w) (_hwf:Wf s) (_hf:s.next<s'.next->I s.next=none) (ht:TmOn I (Opd.tmps op.opds) A a):jG P X I s w a o v s':=by
 simp only[qM]at hc;split at hc
 .rename_i xa ya q1 q2 q3
  cases hc;simp only[opv]at h;obtain⟨m,k,g1,g2,g3,g4⟩:=uB h;exact vB r (S:=(do eqGuard bop t x y (a.eval x) (a.eval y);binOp bop t (a.eval x) (a.eval y))) (by unfold execOp;rw[ho]) g4 (rV g3 (wn q2 g1 (qo ht (by simp[IOp.opds]))) (wn q3 g2 (qo ht (by simp[IOp.opds]))))
 .rename_i k0 xa ya q0 q1 q2 q3
  split at hc
  .cases hc;simp only[opv]at h;obtain⟨m,k,g1,g2,g3,g4⟩:=uB h;unfold J5 at g3;split at g3
   .rename_i b hb
    cases g3;exact vB r (S:=(do eqGuard .eql t x y (a.eval x) (a.eval y);binOp .eql t (a.eval x) (a.eval y))) (by unfold execOp;rw[ho]) g4 ⟨_,LP (_w0:=X) (neg:=false) q1 hb (wn q2 g1 (qo ht (by simp[IOp.opds]))) (wn q3 g2 (qo ht (by simp[IOp.opds]))),by simp only[VR]⟩
   .cases g3
  .cases hc;simp only[opv]at h;obtain⟨m,k,g1,g2,g3,g4⟩:=uB h;unfold J5 at g3;split at g3
   .rename_i b hb
    cases g3;exact vB r (S:=(do eqGuard .neq t x y (a.eval x) (a.eval y);binOp .neq t (a.eval x) (a.eval y))) (by unfold execOp;rw[ho]) g4 ⟨_,LP (_w0:=X) (neg:=true) q1 hb (wn q2 g1 (qo ht (by simp[IOp.opds]))) (wn q3 g2 (qo ht (by simp[IOp.opds]))),by simp only[VR]⟩
   .cases g3
  .cases hc
 .cases hc
def Bt{uop:UnOp}{t:_}{x:Operand}{op:IOp}(_hG:wG E.globs X)(ho:o.op=.unOp uop t x)(hc:qM P (.unOp uop t x)=some op)(h:opv E op A s=some (v,s'))
  (r:Rel P X I s.get w) (_hwf:Wf s) (_hf:s.next<s'.next->I s.next=none) (ht:TmOn I (Opd.tmps op.opds) A a):jG P X I s w a o v s':=by
 simp only[qM]at hc;obtain⟨y,hy,rfl⟩:=Option.map_eq_some_iff.1 hc;simp only[opv]at h;obtain⟨u,h1,h2,h3⟩:=qr h;exact vB r (S:=Op.unary uop (a.eval x)) (by unfold execOp;rw[ho]) h3 (Eo h2 (wn hy h1 (qo ht (by simp[IOp.opds]))))
def aF{sT d:TypeId}{x:Operand}{op:IOp}(_hG:wG E.globs X)(ho:o.op=.convert sT d x)(hc:qM P (.convert sT d x)=some op)(h:opv E op A s=some (v,s'))
  (r:Rel P X I s.get w) (hwf:Wf s) (hf:s.next<s'.next->I s.next=none) (ht:TmOn I (Opd.tmps op.opds) A a):jG P X I s w a o v s':=by
 simp only[qM]at hc;have he:execOp a.eval o=(do pure (.value (<-convert sT d (a.eval x)))):=by unfold execOp;rw[ho]
 split at hc
 .rename_i u k y q1 q2 q3
  cases hc;simp only[opv]at h;obtain⟨u,h1,h2,h3⟩:=qr h;exact vB r he h3 (J2 q1 q2 h2 (wn q3 h1 (qo ht (by simp[IOp.opds]))))
 .rename_i e y q1 q2 q3
  split at hc
  .rename_i hu
   cases hc;simp only[opv]at h;obtain⟨u,h1,h2⟩:=jK h;exact Ys he (Bh r hwf hf q1 q2 hu h2 (wn q3 h1 (qo ht (by simp[IOp.opds]))))
  .cases hc
 .rename_i e y q1 q2 q3
  split at hc
  .rename_i hu
   cases hc;simp only[opv]at h;obtain⟨u,h1,h2,h3⟩:=qr h;exact vB r he h3 (A2 r q1 q2 hu h2 (wn q3 h1 (qo ht (by simp[IOp.opds]))))
  .cases hc
 .cases hc
def Qw{x:Operand}{op:IOp}(_hG:wG E.globs X)(ho:o.op=.makeInterface t x)(hc:qM P (.makeInterface t x)=some op)(h:opv E op A s=some (v,s'))
  (r:Rel P X I s.get w) (_hwf:Wf s) (_hf:s.next<s'.next->I s.next=none) (ht:TmOn I (Opd.tmps op.opds) A a):jG P X I s w a o v s':=by
 simp only[qM]at hc;split at hc
 .cases hc
 .rename_i d hni hu
  obtain⟨y,hy,rfl⟩:=Option.map_eq_some_iff.1 hc;simp only[opv]at h;obtain⟨u,h1,h2,h3⟩:=qr h;cases h2;have hx:=wn (I:=I) (a:=a) hy h1 (qo ht (by simp[IOp.opds]))
  refine vB r (S:=Instr.makeInterface t (a.eval x)) (by unfold execOp;rw[ho]) h3 ⟨.iface t (a.eval x),?_,by simp only[VR];exact⟨_,rfl,hx⟩⟩
  simp only[Instr.makeInterface,Sem.run_bind,xV hu,Result.andThen_ok];cases d<;>first|exact(hni _ rfl).elim|exact(hni _ hu).elim|rfl
 .cases hc
def HS{f:Nat}{fst cap:Array Operand}{op:IOp}(_hG:wG E.globs X)(ho:o.op=.makeFunc (.func f) fst cap)(hc:qM P (.makeFunc (.func f) fst cap)=some op)(h:opv E op A s=some (v,s'))
  (r:Rel P X I s.get w) (_hwf:Wf s) (_hf:s.next<s'.next->I s.next=none) (ht:TmOn I (Opd.tmps op.opds) A a):jG P X I s w a o v s':=by
 simp only[qM]at hc;split at hc
 .rename_i x y q1 q2
  cases hc;simp only[opv]at h;obtain⟨us,vs,g1,g2,g3,g4⟩:=cm h;cases g3;refine vB r (S:=Instr.makeFunc (.func f) (fst.map a.eval) (cap.map a.eval)) (by unfold execOp;rw[ho]) g4 ⟨_,rfl,?_⟩
  simp only[VR];exact⟨fst.toList.map a.eval,cap.toList.map a.eval,by congr 1<;>(apply yT;simp),ju q1 g1 (Yd ht (by simp[IOp.opds];intro x hx;exact .inl hx)),ju q2 g2 (Yd ht (by simp[IOp.opds];intro x hx;exact .inr hx))⟩
 .cases hc
def aH{op:IOp}(_hG:wG E.globs X)(ho:o.op=.makeMap t none)(hc:qM P (.makeMap t none)=some op)(h:opv E op A s=some (v,s'))
  (r:Rel P X I s.get w) (hwf:Wf s) (hf:s.next<s'.next->I s.next=none) (ht:TmOn I (Opd.tmps op.opds) A a):jG P X I s w a o v s':=by
 simp only[qM]at hc;cases hc;simp only[opv]at h;have hn:s.next<s'.next:=by unfold Z0 VZ at h;simp only[x7,wF]at h;exact ja h.2
 obtain⟨I',h1,h2⟩:=G4 (P:=P) r hwf (hf hn) h;exact Qx (S:=Instr.makeMap t none) (by unfold execOp;rw[ho];rfl) (by simp[Instr.makeMap]) h1 h2
def HT{k:IntKind}{n:Int}{op:IOp}(_hG:wG E.globs X)(ho:o.op=.makeMap t (some (.const (.int k n))))(hc:qM P (.makeMap t (some (.const (.int k n))))=some op)(h:opv E op A s=some (v,s'))
  (r:Rel P X I s.get w) (hwf:Wf s) (hf:s.next<s'.next->I s.next=none) (ht:TmOn I (Opd.tmps op.opds) A a):jG P X I s w a o v s':=by
 simp only[qM]at hc;split at hc
 .rename_i kt e hu
  cases hc;simp only[opv]at h;have hn:s.next<s'.next:=by unfold Z0 VZ at h;simp only[x7,wF]at h;exact ja h.2
  obtain⟨I',h1,h2⟩:=G4 (P:=P) r hwf (hf hn) h;exact Qx (S:=Instr.makeMap t (some (.int k n))) (by unfold execOp;rw[ho];rfl) (by simp[Instr.makeMap,xV hu,asInt,asIntOf]) h1 h2
 .cases hc
def Gh{l c:Operand}{op:IOp}(_hG:wG E.globs X)(ho:o.op=.makeSlice t l c)(hc:qM P (.makeSlice t l c)=some op)(h:opv E op A s=some (v,s'))
  (r:Rel P X I s.get w) (hwf:Wf s) (hf:s.next<s'.next->I s.next=none) (ht:TmOn I (Opd.tmps op.opds) A a):jG P X I s w a o v s':=by
 simp only[qM]at hc;split at hc
 .rename_i e hu
  split at hc
  .rename_i sz b z la ca q1 q2 q3 q4 q5
   cases hb:(zD (qQ z.cells) sz&&zH 1 sz)with
   |false=>rw[hb]at hc;simp at hc
   |true=>
    rw[hb]at hc;simp only[x6,x7]at hc;subst hc;simp only[opv]at h;obtain⟨m,n,g1,g2,g3⟩:=kv h;exact Ys (S:=Instr.makeSlice t (a.eval l) (a.eval c)) (by unfold execOp;rw[ho]) (CL r hwf (hf (Pu g3)) hu q1 q2 q3 hb g3 (wn q4 g1 (qo ht (by simp[IOp.opds]))) (wn q5 g2 (qo ht (by simp[IOp.opds]))))
  .cases hc
 .cases hc
def mT{x:Operand}{lo hi mx:Option Operand}{op:IOp}(_hG:wG E.globs X)(ho:o.op=.slice t x lo hi mx)(hc:qM P (.slice t x lo hi mx)=some op)(h:opv E op A s=some (v,s'))
  (r:Rel P X I s.get w) (_hwf:Wf s) (_hf:s.next<s'.next->I s.next=none) (ht:TmOn I (Opd.tmps op.opds) A a):jG P X I s w a o v s':=by
 simp only[qM]at hc;split at hc
 .rename_i xa la ha q1 q2 q3 q4 q5
  cases hc;simp only[opv]at h;obtain⟨p,l,m,g1,g2,g3,g4,g5⟩:=Kq h;have hmx:mx=none:=by
   cases mx with
   |none=>rfl
   |some y=>simp only[KU]at q5;split at q5<;>simp at q5
  subst hmx;exact vB r (S:=Instr.sliceAt t (a.eval x) (lo.map a.eval) (hi.map a.eval) none) (by unfold execOp;rw[ho];rfl) g5 (DO q1 g4 (wn q2 g1 (qo ht (by simp[IOp.opds]))) (pQ q3 g2 (Yd ht (by simp[IOp.opds];intro x hx;exact .inr (.inl hx)))) (pQ q4 g3 (Yd ht (by simp[IOp.opds];intro x hx;exact .inr (.inr hx)))))
 .rename_i e xa la ha ma q1 q2 q3 q4 q5
  split at hc
  .rename_i sz hs
   cases hb:((ma.isNone||ha.isSome)&&zH 1 sz)with
   |false=>rw[hb]at hc;simp at hc
   | true=>
    rw[hb]at hc;simp only[x6,x7]at hc;subst hc;rw[zP]at hb;simp only[opv]at h;obtain⟨p,l,m,k,g1,g2,g3,g4,g5,g6⟩:=co h;have hmh:k=none\/m≠none:=by
     rw[<-dZ g4,ne_eq,<-dZ g3];have hb:=hb.1;cases ma<;>cases ha<;>simp at hb|-
    exact vB r (S:=Instr.sliceAt t (a.eval x) (lo.map a.eval) (hi.map a.eval) (mx.map a.eval)) (by unfold execOp;rw[ho]) g6 (DQ q1 hs g5 (wn q2 g1 (qo ht (by simp[IOp.opds]))) (pQ q3 g2 (Yd ht (by simp[IOp.opds];intro x hx;exact .inr (.inl hx)))) (pQ q4 g3 (Yd ht (by simp[IOp.opds];intro x hx;exact .inr (.inr (.inl hx))))) (pQ q5 g4 (Yd ht (by simp[IOp.opds];intro x hx;exact .inr (.inr (.inr hx))))) hmh)
  .cases hc
 .cases hc
def Gf{sT:TypeId}{x:Operand}{op:IOp}(_hG:wG E.globs X)(ho:o.op=.fieldAddr sT x f)(hc:qM P (.fieldAddr sT x f)=some op)(h:opv E op A s=some (v,s'))
  (r:Rel P X I s.get w) (_hwf:Wf s) (_hf:s.next<s'.next->I s.next=none) (ht:TmOn I (Opd.tmps op.opds) A a):jG P X I s w a o v s':=by
 simp only[qM]at hc;split at hc
 .rename_i fs hu
  split at hc
  .rename_i fl hfl
   split at hc
   .cases hc
   .rename_i n hn hs
    obtain⟨y,hy,rfl⟩:=Option.map_eq_some_iff.1 hc;simp only[opv]at h;obtain⟨u,h1,h2,h3⟩:=qr h;obtain⟨k,rfl⟩:∃k,n=k+1:=⟨n-1,by have:n≠0:=λe=>hn e;omega⟩
    exact vB r (S:=Instr.fieldAt sT (a.eval x) f) (by unfold execOp;rw[ho]) h3 (Ip hu hfl hs h2 (wn hy h1 (qo ht (by simp[IOp.opds]))))
   .cases hc
  .cases hc
 .cases hc
def Gg{x i:Operand}{op:IOp}(_hG:wG E.globs X)(ho:o.op=.indexAddr t x i)(hc:qM P (.indexAddr t x i)=some op)(h:opv E op A s=some (v,s'))
  (r:Rel P X I s.get w) (_hwf:Wf s) (_hf:s.next<s'.next->I s.next=none) (ht:TmOn I (Opd.tmps op.opds) A a):jG P X I s w a o v s':=by
 simp only[qM]at hc;split at hc
 .rename_i n e hu
  split at hc
  .rename_i sz xa ia q1 q2 q3
   cases hc;simp only[opv]at h;obtain⟨m,k,g1,g2,g3,g4⟩:=uB h;exact vB r (S:=Instr.indexAt t (a.eval x) (a.eval i)) (by unfold execOp;rw[ho]) g4 (Cy hu q1 g3 (wn q2 g1 (qo ht (by simp[IOp.opds]))) (wn q3 g2 (qo ht (by simp[IOp.opds]))))
  .cases hc
 .rename_i e hu
  split at hc
  .rename_i sz xa ia q1 q2 q3
   cases hc;simp only[opv]at h;obtain⟨m,k,g1,g2,g3,g4⟩:=uB h;exact vB r (S:=Instr.indexAt t (a.eval x) (a.eval i)) (by unfold execOp;rw[ho]) g4 (MD hu q1 g3 (wn q2 g1 (qo ht (by simp[IOp.opds]))) (wn q3 g2 (qo ht (by simp[IOp.opds]))))
  .cases hc
 .cases hc
def mP{x i:Operand}{op:IOp}(_hG:wG E.globs X)(ho:o.op=.index t x i)(hc:qM P (.index t x i)=some op)(h:opv E op A s=some (v,s'))
  (r:Rel P X I s.get w) (_hwf:Wf s) (_hf:s.next<s'.next->I s.next=none) (ht:TmOn I (Opd.tmps op.opds) A a):jG P X I s w a o v s':=by
 simp only[qM]at hc;split at hc
 .rename_i hu
  split at hc
  .rename_i xa ia q2 q3
   cases hc;simp only[opv]at h;obtain⟨m,k,g1,g2,g3,g4⟩:=uB h;exact vB r (S:=Instr.index t (a.eval x) (a.eval i)) (by unfold execOp;rw[ho]) g4 (CF hu g3 (wn q2 g1 (qo ht (by simp[IOp.opds]))) (wn q3 g2 (qo ht (by simp[IOp.opds]))))
  .cases hc
 .cases hc
def dK{k:Operand}{ok:Bool}{op:IOp}(_hG:wG E.globs X)(ho:o.op=.lookup t m k ok)(hc:qM P (.lookup t m k ok)=some op)(h:opv E op A s=some (v,s'))
  (r:Rel P X I s.get w) (_hwf:Wf s) (_hf:s.next<s'.next->I s.next=none) (ht:TmOn I (Opd.tmps op.opds) A a):jG P X I s w a o v s':=by
 simp only[qM]at hc;split at hc
 .rename_i kt e hu
  split at hc
  .rename_i f z ma ka q0 q1 q2 q3
   cases hc;simp only[opv]at h;obtain⟨p,q,g1,g2,g3,g4⟩:=uB h;exact vB r (S:=Instr.lookup t (a.eval m) (a.eval k) ok) (by unfold execOp;rw[ho]) g4 (MQ r hu q0 q1 g3 (wn q2 g1 (qo ht (by simp[IOp.opds]))) (wn q3 g2 (qo ht (by simp[IOp.opds]))))
  .cases hc
 .cases hc
def Gi{k x:Operand}{op:IOp}(_hG:wG E.globs X)(ho:o.op=.mapUpdate t m k x)(hc:qM P (.mapUpdate t m k x)=some op)(h:opv E op A s=some (v,s'))
  (r:Rel P X I s.get w) (_hwf:Wf s) (_hf:s.next<s'.next->I s.next=none) (ht:TmOn I (Opd.tmps op.opds) A a):jG P X I s w a o v s':=by
 simp only[qM]at hc;split at hc
 .rename_i kt e hu
  split at hc
  .rename_i f ma ka xa q0 q1 q2 q3
   cases hc;simp only[opv]at h;obtain⟨p,q,y,g1,g2,g3,g4⟩:=bj h;obtain⟨g5,w',g6,g7⟩:=fk (P:=P) r hu q0 g4 (wn q1 g1 (qo ht (by simp[IOp.opds]))) (wn q2 g2 (qo ht (by simp[IOp.opds]))) (wn q3 g3 (qo ht (by simp[IOp.opds])))
   exact mV (S:=Instr.mapUpdate t (a.eval m) (a.eval k) (a.eval x)) (by unfold execOp;rw[ho]) g6 g7 g5
  .cases hc
 .cases hc
def dJ{k x:Operand}{op:IOp}(_hG:wG E.globs X)(ho:o.op=.insert t m k x)(hc:qM P (.insert t m k x)=some op)(h:opv E op A s=some (v,s'))
  (r:Rel P X I s.get w) (_hwf:Wf s) (_hf:s.next<s'.next->I s.next=none) (ht:TmOn I (Opd.tmps op.opds) A a):jG P X I s w a o v s':=by
 simp only[qM]at hc;split at hc
 .rename_i kt e hu
  split at hc
  .rename_i f ma ka xa q0 q1 q2 q3
   cases hc;simp only[opv]at h;obtain⟨p,q,y,g1,g2,g3,g4⟩:=bj h;obtain⟨g5,w',g6,g7⟩:=fk (P:=P) r hu q0 g4 (wn q1 g1 (qo ht (by simp[IOp.opds]))) (wn q2 g2 (qo ht (by simp[IOp.opds]))) (wn q3 g3 (qo ht (by simp[IOp.opds])))
   exact mV (S:=Instr.mapUpdate t (a.eval m) (a.eval k) (a.eval x)) (by unfold execOp;rw[ho]) g6 g7 g5
  .cases hc
 .cases hc
def mS{x:Operand}{op:IOp}(_hG:wG E.globs X)(ho:o.op=.range t x)(hc:qM P (.range t x)=some op)(h:opv E op A s=some (v,s'))
  (r:Rel P X I s.get w) (hwf:Wf s) (hf:s.next<s'.next->I s.next=none) (ht:TmOn I (Opd.tmps op.opds) A a):jG P X I s w a o v s':=by
 simp only[qM]at hc;split at hc
 .rename_i hu
  obtain⟨y,hy,rfl⟩:=Option.map_eq_some_iff.1 hc;simp only[opv]at h;obtain⟨u,h1,h2⟩:=jK h;exact Ys (S:=Instr.range t (a.eval x)) (by unfold execOp;rw[ho]) (Ou r hwf (hf (fD h2)) hu h2 (wn hy h1 (qo ht (by simp[IOp.opds]))))
 .rename_i k e hu
  obtain⟨y,hy,rfl⟩:=Option.map_eq_some_iff.1 hc;simp only[opv]at h;obtain⟨u,h1,h2⟩:=jK h;exact Ys (S:=Instr.range t (a.eval x)) (by unfold execOp;rw[ho]) (Oj r hwf (hf (fC h2)) hu h2 (wn hy h1 (qo ht (by simp[IOp.opds]))))
 .cases hc
def mR{x:Operand}{op:IOp}(_hG:wG E.globs X)(ho:o.op=.next x true)(hc:qM P (.next x true)=some op)(h:opv E op A s=some (v,s'))
  (r:Rel P X I s.get w) (_hwf:Wf s) (_hf:s.next<s'.next->I s.next=none) (ht:TmOn I (Opd.tmps op.opds) A a):jG P X I s w a o v s':=by
 simp only[qM]at hc;obtain⟨y,hy,rfl⟩:=Option.map_eq_some_iff.1 hc;simp only[opv]at h;obtain⟨u,h1,h2⟩:=jK h;obtain⟨z,w',g1,g2,g3⟩:=M6 (P:=P) (ty:=o.type) r h2 (wn hy h1 (qo ht (by simp[IOp.opds])))
 exact Qx (S:=Instr.next (a.eval x) true o.type) (by unfold execOp;rw[ho]) g1 g2 g3
def mQ{x:Operand}{op:IOp}(_hG:wG E.globs X)(ho:o.op=.next x false)(hc:qM P (.next x false)=some op)(h:opv E op A s=some (v,s'))
  (r:Rel P X I s.get w) (_hwf:Wf s) (_hf:s.next<s'.next->I s.next=none) (ht:TmOn I (Opd.tmps op.opds) A a):jG P X I s w a o v s':=by
 simp only[qM]at hc;obtain⟨y,hy,rfl⟩:=Option.map_eq_some_iff.1 hc;simp only[opv]at h;obtain⟨u,h1,h2⟩:=jK h;obtain⟨z,w',g1,g2,g3⟩:=M4 (P:=P) (ty:=o.type) r h2 (wn hy h1 (qo ht (by simp[IOp.opds])))
 exact Qx (S:=Instr.next (a.eval x) false o.type) (by unfold execOp;rw[ho]) g1 g2 g3
def mO{x:Operand}{op:IOp}(_hG:wG E.globs X)(ho:o.op=.entry x)(hc:qM P (.entry x)=some op)(h:opv E op A s=some (v,s'))
  (r:Rel P X I s.get w) (_hwf:Wf s) (_hf:s.next<s'.next->I s.next=none) (ht:TmOn I (Opd.tmps op.opds) A a):jG P X I s w a o v s':=by
 simp only[qM]at hc;obtain⟨y,hy,rfl⟩:=Option.map_eq_some_iff.1 hc;simp only[opv]at h;obtain⟨u,h1,h2,h3⟩:=qr h;exact vB r (S:=Instr.entry (a.eval x)) (by unfold execOp;rw[ho]) h3 (FE r h2 (wn hy h1 (qo ht (by simp[IOp.opds]))))
def aG{x:Operand}{i:Nat}{op:IOp}(_hG:wG E.globs X)(ho:o.op=.extract x i)(hc:qM P (.extract x i)=some op)(h:opv E op A s=some (v,s'))
  (r:Rel P X I s.get w) (_hwf:Wf s) (_hf:s.next<s'.next->I s.next=none) (ht:TmOn I (Opd.tmps op.opds) A a):jG P X I s w a o v s':=by
 simp only[qM]at hc;obtain⟨y,hy,rfl⟩:=Option.map_eq_some_iff.1 hc;simp only[opv]at h;obtain⟨u,h1,h2,h3⟩:=qr h;exact vB r (S:=Instr.extract (a.eval x) i) (by unfold execOp;rw[ho]) h3 (Io h2 (wn hy h1 (qo ht (by simp[IOp.opds]))))
def Bp{c:Call}{op:IOp}(hG:wG E.globs X)(ho:o.op=.call c)(hc:qM P (.call c)=some op)(h:opv E op A s=some (v,s'))
  (r:Rel P X I s.get w) (hwf:Wf s) (hf:s.next<s'.next->I s.next=none) (ht:TmOn I (Opd.tmps op.opds) A a):jG P X I s w a o v s':=by
 simp only[qM]at hc;split at hc
 .rename_i f hcal
  split at hc
  .cases hc
  .rename_i fn hfn
   cases hb2:(fn.name== "internal/bytealg.IndexByteString"&&(fn.origin== ""&&fn.body.isNone))with
   | true=>
    rw[hb2]at hc;simp only[x6]at hc;simp only[zP,beq_iff_eq]at hb2;obtain⟨n1,n2,n3⟩:=hb2;split at hc
    .rename_i xa ya hcx
     cases hc;simp only[opv]at h;obtain⟨p,q,g1,g2,g3,rfl⟩:=uB h;have hxs:=ju (a:=a) (I:=I) hcx (show evL A [xa,ya]=some [p,q] by simp[evL,g1,g2]) (Yd ht (by simp[IOp.opds]))
     have hmap:c.args.map a.eval=(c.args.toList.map a.eval).toArray:=by rw[<-yN,yj]
     simp only[VRL]at hxs;obtain⟨x',_,hx1,hx2,y',_,rfl,hy2,rfl⟩:=hxs;obtain⟨z,k1,k2⟩:=Cz (P:=P) (w:=w) g3 hx2 hy2;obtain⟨m1,m2⟩:=Iu n1 n2;refine⟨I,z,w,.inl (LS ho hcal (Hr hfn n3 (by rw[n1];rfl) m1 m2 ?_)),Step.refl r,k2⟩
     rw[hmap,hx1];exact k1
    .cases hc
   | false=>
    rw[hb2]at hc;simp only[wh]at hc;cases hb3:(fn.name== "internal/abi.NoEscape"&&(fn.origin== ""&&fn.body.isNone))with
    | true=>
     rw[hb3]at hc;simp only[x6]at hc;simp only[zP,beq_iff_eq]at hb3;obtain⟨n1,n2,n3⟩:=hb3;split at hc
     .rename_i xa hcx
      cases hc;simp only[opv]at h;obtain⟨p,g1,g3,rfl⟩:=qr h;cases g3;have hxs:=ju (a:=a) (I:=I) hcx (show evL A [xa]=some [v] by simp[evL,g1]) (Yd ht (by simp[IOp.opds]))
      have hmap:c.args.map a.eval=(c.args.toList.map a.eval).toArray:=by rw[<-yN,yj]
      simp only[VRL]at hxs;obtain⟨x',_,hx1,hx2,rfl⟩:=hxs;obtain⟨m1,m2⟩:=HX n1 n2;refine⟨I,x',w,.inl (LS ho hcal (Hr hfn n3 (by rw[n1];rfl) m1 m2 ?_)),Step.refl r,hx2⟩
      rw[hmap,hx1];rfl
     .cases hc
    |false=>rw[hb3]at hc;simp at hc
 .cases hc
 .rename_i b hb
  exact am hG ho hb hc h r hwf hf ht
 .cases hc
def CW{op:IOp}(hG:wG E.globs X)(hc:qM P o.op=some op)(h:opv E op A s=some (v,s'))
  (r:Rel P X I s.get w) (hwf:Wf s) (hf:s.next<s'.next->I s.next=none) (ht:TmOn I (Opd.tmps op.opds) A a):jG P X I s w a o v s':=by
 cases ho:o.op with
 |move x=>exact Br hG ho (ho▸hc) h r hwf hf ht
 |assign x=>exact dI hG ho (ho▸hc) h r hwf hf ht
 |pick c x y=>exact Bs hG ho (ho▸hc) h r hwf hf ht
 |alloc t=>exact mL hG ho (ho▸hc) h r hwf hf ht
 |box t x=>exact FA hG ho (ho▸hc) h r hwf hf ht
 |build t ps=>exact mN hG ho (ho▸hc) h r hwf hf ht
 |buildSlice t len ps=>exact JR hG ho (ho▸hc) h r hwf hf ht
 |load t x=>exact Bq hG ho (ho▸hc) h r hwf hf ht
 |store t x y=>exact mU hG ho (ho▸hc) h r hwf hf ht
 |nilCheck x=>exact HU hG ho (ho▸hc) h r hwf hf ht
 |binOp bop t x y pos=>exact mM hG ho (ho▸hc) h r hwf hf ht
 |unOp uop t x=>exact Bt hG ho (ho▸hc) h r hwf hf ht
 |convert sT d x=>exact aF hG ho (ho▸hc) h r hwf hf ht
 |makeInterface t x=>exact Qw hG ho (ho▸hc) h r hwf hf ht
 |makeSlice t l c=>exact Gh hG ho (ho▸hc) h r hwf hf ht
 |slice t x lo hi mx=>exact mT hG ho (ho▸hc) h r hwf hf ht
 |fieldAddr sT x f=>exact Gf hG ho (ho▸hc) h r hwf hf ht
 |indexAddr t x i=>exact Gg hG ho (ho▸hc) h r hwf hf ht
 |index t x i=>exact mP hG ho (ho▸hc) h r hwf hf ht
 |lookup t m k ok=>exact dK hG ho (ho▸hc) h r hwf hf ht
 |mapUpdate t m k x=>exact Gi hG ho (ho▸hc) h r hwf hf ht
 |insert t m k x=>exact dJ hG ho (ho▸hc) h r hwf hf ht
 |range t x=>exact mS hG ho (ho▸hc) h r hwf hf ht
 |entry x=>exact mO hG ho (ho▸hc) h r hwf hf ht
 |extract x i=>exact aG hG ho (ho▸hc) h r hwf hf ht
 |call c=>exact Bp hG ho (ho▸hc) h r hwf hf ht
 |makeFunc f fst cap=>
  rw[ho]at hc;cases f with
  |func f=>exact HS hG ho hc h r hwf hf ht
  |_=>simp[qM]at hc
 | makeMap t n=>
  rw[ho]at hc;cases n with
  |none=>exact aH hG ho hc h r hwf hf ht
  | some x=>
   cases x with
   |const c=>
    cases c with
    |int k n=>exact HT hG ho hc h r hwf hf ht
    |_=>simp[qM]at hc
   |_=>simp[qM]at hc
 |next x b=>
  rw[ho]at hc;cases b with
  |true=>exact mR hG ho hc h r hwf hf ht
  |false=>exact mQ hG ho hc h r hwf hf ht
 |_=>rw[ho]at hc;simp[qM]at hc
end
end Go.Proofs.YtbdfljdgapkbcaaGreatDoor.Ev

/- A part of the evaluator and of its soundness: what it answers, the model's run answers. No conditions. -/
import Derived.Test.YtbddpjboppmnfaaGreatDoorEvB
import Derived.Laws.Append
import Derived.Lib.UnsafeStr
import Derived.KernelRfl
set_option linter.unusedSimpArgs false
set_option linter.unusedVariables false
set_option linter.defProp false
open List renaming length → zR, length_append → y8, getElem?_append_left → xb, map_toArray → xc, take_of_length_le → yq, eq_nil_of_length_eq_zero → xg, getElem?_eq_getElem → xj, map_cons → ye, take_append_of_le_length → xw, getElem?_take → yh, getElem?_append_right → xz, map_nil → xA, drop_zero → yR
open Bool renaming and_eq_true → zU, eq_false_iff → zY, true_and → xC
open Nat renaming ble → zM, beq → zI, mul → zK, le_refl → zX, add_mul → xe, blt → zL, add → zJ, le_div_iff_mul_le → xq, mul_le_mul_right → xr, lt_succ_self → yK, zero_add → xB, add_zero → xE, zero_le → yz
open Array renaming getElem?_toList → yd, length_toList → xd, ext' → xi, toArray_toList → yB, toList_append → xD
open Option renaming map_none → xu
namespace Go.Proofs.YtbddpjboppmnfaaGreatDoor.Ev
variable {P:Program}{w X w':World}{s s':U}{v:Z}{t ty u:TypeId}{x m y:Operand}{x' y':Value}{esz bytes e n need b f k:Nat}{cs l:zA}{a:Act}{B:Blk}{o:AObj}
def Oi{I:Phi}(r:Rel P X I s.get w)(hwf:Wf s)(hf:I s.next=none){x:Z}(hu:P.underlying t=some .string)(h:oRs s x=some (v,s'))(hx:VR I x x'):
  ∃I' y w',(Instr.range t x').run P w=.ok y w'/\Step P X I s w I' s' w'/\VR I' v y:=by
 unfold oRs at h;split at h
 .cases h;simp only[VR]at hx;obtain⟨bs,rfl,rfl⟩:=hx;refine⟨_,_,_,?_,Step.alloc r hwf hf (w':={w with heap:=w.heap.push (.stringIter bs 0)}) (tot:=0) rfl rfl rfl rfl ⟨rfl,bs,ju _,rfl⟩,Us⟩
  simp[Instr.range,wl hu]
 .cases h
theorem FW(s:ByteArray)(i k:Nat):((jk s).drop i)[k]? =if i+k<s.size then some (s.get! (i+k)).toNat else none:=by
 rw[List.getElem?_drop,ie];by_cases h:i+k<s.size
 .rw[wH h,ByteArray.getElem?_lt' s _ h];have:s.get! (i+k)=s[i+k]:=by
   show s.data[i+k]! =s.data[i+k];exact getElem!_pos s.data (i+k) h
  rw[this];rfl
 .rw[wx h,ByteArray.getElem?_ge' s _ h];rfl
def H2(c:Nat):Utf8.valid (c:Int)=vz c:=EL c
theorem BT{s:ByteArray}{i:Nat}(h:i<s.size):Utf8.decode s i=kg ((jk s).drop i):=by
 have key:=FW s i;generalize hl:(jk s).drop i=l at key;have hb:∀a b:Nat,zI a b=(a==b):=λa b=>by
  cases h':zI a b with
  |true=>rw[ql]at h';simp[h']
  |false=>symm;rw[beq_eq_false_iff_ne];intro he;rw[ql.2 he]at h';cases h'
 have hle:∀a b:Nat,zM a b=decide (a<=b):=λa b=>by
  cases h':zM a b with
  |true=>rw[qL (qd.1 h')]
  |false=>symm;exact qy (λhe=>by rw[qd.2 he]at h';cases h')
 have k0:=key 0;rw[wH J]at k0;unfold Utf8.decode;cases l with
 |nil=>simp at k0
 | cons b0 r=>
  have k0':(s.get! (i+0)).toNat=b0:=by simpa using k0.symm
  simp only[k0',kg,WR];by_cases h0:b0<128
  .rw[wH h0,wH h0]
  rw[wx h0,wx h0];have k1:=key 1;cases r with
  |nil=>
   have n1:¬i+1<s.size:=λhh=>by rw[wH hh]at k1;simp at k1
   simp[n1];rfl
  | cons b1 r=>
   have l1:i+1<s.size:=by
    by_cases hh:i+1<s.size
    .exact hh
    .rw[wx hh]at k1;simp at k1
   rw[wH l1]at k1;have k1':(s.get! (i+1)).toNat=b1:=by simpa using k1.symm
   simp only[k1',l1,decide_true,xC,La,hb,Zz,hle];by_cases h6:(b0/32==6&&b1/64==2)=true
   .rw[wH h6];show _=bif (b0/32==6&&b1/64==2)then _ else _;rw[h6,wy];by_cases h7:128<=b0%32*64+b1%64
    .rw[wH h7];show _=bif decide (128<=b0%32*64+b1%64)then _ else _;rw[qL h7];rfl
    .rw[wx h7];show _=bif decide (128<=b0%32*64+b1%64)then _ else _;rw[qy h7];rfl
   rw[wx h6];have h6':(b0/32==6&&b1/64==2)=false:=by simpa using h6
   show _=bif (b0/32==6&&b1/64==2)then _ else _;rw[h6',wK];have k2:=key 2;cases r with
   |nil=>
    have n2:¬i+2<s.size:=λhh=>by rw[wH hh]at k2;simp at k2
    simp[n2];rfl
   | cons b2 r=>
    have l2:i+2<s.size:=by
     by_cases hh:i+2<s.size
     .exact hh
     .rw[wx hh]at k2;simp at k2
    rw[wH l2]at k2;have k2':(s.get! (i+2)).toNat=b2:=by simpa using k2.symm
    simp only[k2',l2,decide_true,xC,ph,H2];by_cases h8:(b0/16==14&&b1/64==2&&b2/64==2)=true
    .rw[wH h8];show _=bif (b0/16==14&&b1/64==2&&b2/64==2)then _ else _;rw[h8,wy];by_cases h9:2048<=b0%16*4096+b1%64*64+b2%64/\vz (b0%16*4096+b1%64*64+b2%64)=true
     .rw[wH (by simpa using h9)]
      show _=bif decide (2048<=b0%16*4096+b1%64*64+b2%64)&&vz (b0%16*4096+b1%64*64+b2%64)then _ else _;rw[qL h9.1,h9.2];rfl
     .rw[wx (by simpa using h9)]
      show _=bif decide (2048<=b0%16*4096+b1%64*64+b2%64)&&vz (b0%16*4096+b1%64*64+b2%64)then _ else _;have:(decide (2048<=b0%16*4096+b1%64*64+b2%64)&&vz (b0%16*4096+b1%64*64+b2%64))=false:=by
       rw[zY];intro hh;rw[zU,decide_eq_true_iff]at hh;exact h9 hh
      rw[this];rfl
    rw[wx h8];have h8':(b0/16==14&&b1/64==2&&b2/64==2)=false:=by simpa using h8
    show _=bif (b0/16==14&&b1/64==2&&b2/64==2)then _ else _;rw[h8',wK];have k3:=key 3;cases r with
    |nil=>
     have n3:¬i+3<s.size:=λhh=>by rw[wH hh]at k3;simp at k3
     simp[n3];rfl
    | cons b3 r=>
     have l3:i+3<s.size:=by
      by_cases hh:i+3<s.size
      .exact hh
      .rw[wx hh]at k3;simp at k3
     rw[wH l3]at k3;have k3':(s.get! (i+3)).toNat=b3:=by simpa using k3.symm
     simp only[k3',l3,decide_true,xC,XG,H2];by_cases h10:(b0/8==30&&b1/64==2&&b2/64==2&&b3/64==2)=true
     .rw[wH h10];show _=bif (b0/8==30&&b1/64==2&&b2/64==2&&b3/64==2)then _ else _;rw[h10,wy];by_cases h9:65536<=b0%8*262144+b1%64*4096+b2%64*64+b3%64/\vz (b0%8*262144+b1%64*4096+b2%64*64+b3%64)=true
      .rw[wH (by simpa using h9)]
       show _=bif decide (65536<=b0%8*262144+b1%64*4096+b2%64*64+b3%64)&&vz (b0%8*262144+b1%64*4096+b2%64*64+b3%64)then _ else _;rw[qL h9.1,h9.2];rfl
      .rw[wx (by simpa using h9)]
       show _=bif decide (65536<=b0%8*262144+b1%64*4096+b2%64*64+b3%64)&&vz (b0%8*262144+b1%64*4096+b2%64*64+b3%64)then _ else _;have:(decide (65536<=b0%8*262144+b1%64*4096+b2%64*64+b3%64)&&vz (b0%8*262144+b1%64*4096+b2%64*64+b3%64))=false:=by
        rw[zY];intro hh;rw[zU,decide_eq_true_iff]at hh;exact h9 hh
       rw[this];rfl
     .rw[wx h10];have h10':(b0/8==30&&b1/64==2&&b2/64==2&&b3/64==2)=false:=by simpa using h10
      show _=bif (b0/8==30&&b1/64==2&&b2/64==2&&b3/64==2)then _ else _;rw[h10'];rfl
def MU{I:Phi}(r:Rel P X I s.get w){x:Z}(h:oNs s x=some (v,s'))(hx:VR I x x'):
  ∃y w',(Instr.next x' true ty).run P w=.ok y w'/\Step P X I s w I s' w'/\VR I v y:=by
 unfold oNs at h;split at h
 .rename_i Y
  simp only[VR]at hx;obtain⟨B,hB,rfl⟩:=hx;split at h
  .rename_i t pos hg
   obtain⟨B',hB',h0,bs,hb,rfl⟩:=r.obj Y _ hg;rw[hB]at hB';cases hB';have hgo:=vE (P:=P) hb (by simp)
   rw[Zf]at h;cases hp:(jk bs).drop pos with
   | nil=>
    rw[hp]at h;simp only[wB,qj]at h;obtain⟨rfl,rfl⟩:=h;have hge:¬pos<bs.size:=by
     intro hlt;have:=congrArg zR hp;rw[List.length_drop,vO]at this;simp at this;omega
    refine⟨.tuple #[.bool false],w,?_,Step.refl r,by simp only[VR];exact⟨[.bool false],rfl,VRL.cons (by simp[VR]) (VRL.nil I)⟩⟩
    simp[Instr.next,h0,hgo,hge]
   | cons b rr=>
    rw[hp]at h;simp only[wB,qj]at h;obtain⟨rfl,rfl⟩:=h;have hpos:pos<bs.size:=by
     have:=congrArg zR hp;rw[List.length_drop,vO]at this;simp at this;omega
    have hd:=BT hpos;rw[hp]at hd;refine⟨.tuple #[.bool true,goInt pos,.int .i32 ((kg (b::rr)).1:Int)],_,?_,Step.setObj r hg hB hb (x':=.stringIter bs (pos+(kg (b::rr)).2)) ⟨h0,bs,Zu hb,rfl⟩,?_⟩
    .simp[Instr.next,h0,hgo,hpos,hd,uO _ hb (by simp)]
    .simp only[VR];exact⟨[.bool true,goInt pos,.int .i32 ((kg (b::rr)).1:Int)],rfl,VRL.cons (by simp[VR]) (VRL.cons (by simp only[VR];rfl) (VRL.cons (by simp only[VR];rfl) (VRL.nil I)))⟩
  .cases h
 .cases h
def N8{I:Phi}(r:Rel P X I s.get w)(hwf:Wf s)(hf:I s.next=none){kt e:TypeId}{x:Z}(hu:P.underlying t=some (.map kt e))(h:oRm s x=some (v,s'))(hx:VR I x x'):
  ∃I' y w',(Instr.range t x').run P w=.ok y w'/\Step P X I s w I' s' w'/\VR I' v y:=by
 unfold oRm at h;split at h
 .cases h;simp only[VR]at hx;subst hx;refine⟨_,_,_,?_,Step.alloc r hwf hf (w':={w with heap:=w.heap.push (.mapIter none 0 #[] 0)}) (tot:=0) rfl rfl rfl rfl ⟨rfl,none,ju _,rfl⟩,Us⟩
  simp[Instr.range,wl hu]
 .rename_i Y
  simp only[VR]at hx;obtain⟨B,hB,rfl⟩:=hx;split at h
  .rename_i es clock hg
   cases h;obtain⟨ents,hb,hent⟩:=Wq r hg hB;have hgo:=vE (P:=P) hb (by simp)
   refine⟨_,_,_,?_,Step.alloc r hwf hf (w':={w with heap:=w.heap.push (.mapIter (some B.b) clock #[] clock)}) (tot:=0) rfl rfl rfl rfl ⟨rfl,some B.b,ju _,B,?_,rfl⟩,Us⟩
   .simp[Instr.range,wl hu,hgo]
   .exact Phi.set_sub hf _ _ hB
  .cases h
 .cases h
def ZR(n:Nat):∀l:zy,Xi n l=l.contains n
 |[]=>rfl
 | m::r=>by
  show (bif zI n m then true else Xi n r)=_;rw[ZR n r,List.contains_cons];have:zI n m=(n==m):=by
   by_cases h:n=m
   .subst h;simp
   .rw[beq_eq_false_iff_ne.2 h,zY,ne_eq,Nat.beq_eq];exact h
  rw[this];cases (n==m)<;>simp
def Qi{I:Phi}(seen:zy):∀{l:zh} {es:zF},EntRel I l es->EntRel I (jM seen l) (es.filter λe=> !seen.contains e.born)
 |[],_,h=>by simp only[EntRel]at h;subst h;simp[jM,EntRel]
 |p::l,_,h=>by
  obtain⟨e,es',rfl,h1,h2,h3,h4⟩:=h;simp only[jM,ZR,<-h3];cases hc:seen.contains e.born with
  |true=>simp only[wy,List.filter_cons,hc];exact Qi seen h4
  |false=>simp only[wK,List.filter_cons,hc];exact⟨e,_,rfl,h1,h2,h3,Qi seen h4⟩
def K1{I:Phi}(last:Nat):∀{l:zh} {es:zF},EntRel I l es->es.all (λe=>decide (e.born>=last))=K0 last l
 |[],_,h=>by simp only[EntRel]at h;subst h;rfl
 |p::l,_,h=>by
  obtain⟨e,es',rfl,h1,h2,h3,h4⟩:=h;simp only[K0,List.all_cons,K1 last h4,<-h3];by_cases hc:last<=e.born
  .rw[show zM last e.born=true from qd.2 hc];simp[hc]
  .rw[show zM last e.born=false from by rw[zY,ne_eq,qd];exact hc];simp[hc]
def MS {I:Phi}(r:Rel P X I s.get w){x:Z}(h:oNm s x=some (v,s'))(hx:VR I x x'):
  ∃y w',(Instr.next x' false ty).run P w=.ok y w'/\Step P X I s w I s' w'/\VR I v y:=by
 have hover:VR I (.tup [.bool false]) (.tuple #[.bool false]):=by simp only[VR];exact⟨[.bool false],rfl,VRL.cons (by simp[VR]) (VRL.nil I)⟩
 unfold oNm at h;split at h
 .rename_i Y
  simp only[VR]at hx;obtain⟨B,hB,rfl⟩:=hx;split at h
  .rename_i since seen last hg
   obtain⟨B',hB',h0,m',hb,rfl⟩:=r.obj Y _ hg;rw[hB]at hB';cases hB';have hgo:=vE (P:=P) hb (by simp)
   simp only[wB,qj]at h;obtain⟨rfl,rfl⟩:=h;exact⟨.tuple #[.bool false],w,by simp[Instr.next,h0,hgo],Step.refl r,hover⟩
  .rename_i m since seen last hg
   obtain⟨B',hB',h0,m',hb,Bm,hBm,rfl⟩:=r.obj Y _ hg;rw[hB]at hB';cases hB';have hgo:=vE (P:=P) hb (by simp)
   split at h
   .rename_i es clock hgm
    obtain⟨ents,hbm,hent⟩:=Wq r hgm hBm;have hgom:=vE (P:=P) hbm (by simp)
    cases hgone:fG seen last es with
    |true=>rw[hgone]at h;simp at h
    | false=>
     rw [hgone]at h;simp only[wK]at h;have hnogone:¬((!(seen.toArray).isEmpty&& !ents.isEmpty&&ents.all (·.born>=last))=true):=by
      have e1:ents.all (λe=>decide (e.born>=last))=K0 last es:=by rw[<-Array.all_toList,K1 last hent]
      unfold fG at hgone;intro hh;simp only[zU,Bool.not_eq_true']at hh;obtain⟨⟨a1,a2⟩,a3⟩:=hh;rw[e1]at a3;cases seen with
      |nil=>simp at a1
      | cons _ _=>
       cases es with
       |nil=>
        have:=EntRel.length hent;simp at this;have:ents.isEmpty=true:=by simpa [Array.isEmpty]using this.symm
        rw[this]at a2;cases a2
       |cons _ _=>simp only at hgone;rw[a3]at hgone;cases hgone
     have hleft:=Qi seen hent;have hfl:(ents.filter λe=> !seen.toArray.contains e.born).toList=ents.toList.filter λe=> !seen.contains e.born:=by simp
     cases hl:jM seen es with
     |nil=>
      rw[hl]at h hleft;simp only[Xy,wB,qj]at h;obtain⟨rfl,rfl⟩:=h;simp only[EntRel]at hleft;have hempty:(ents.filter λe=> !seen.toArray.contains e.born)=#[]:=by apply xi;rw[hfl,hleft]
      refine⟨.tuple #[.bool false],w,?_,Step.refl r,hover⟩;simp only[Instr.next,h0,xE,Sem.run_bind,hgo,Result.andThen_ok,hgom]
      rw[wx hnogone,hempty];simp[Question.forced]
     | cons p rest=>
      rw[hl]at h hleft;cases rest with
      |cons _ _=>simp[Xy]at h
      | nil=>
       simp only[Xy]at h;cases hlt:zL p.2.2 since with
       |false=>rw[hlt]at h;simp at h
       | true=>
        rw[hlt]at h;simp only[wy,wB,qj]at h;obtain⟨rfl,rfl⟩:=h;obtain⟨e,es',heq,h1,h2,h3,h4⟩:=hleft;simp only[EntRel]at h4;subst h4;have hone:(ents.filter λe=> !seen.toArray.contains e.born)=#[e]:=by apply xi;rw[hfl,heq]
        have hborn:e.born<since:=by rw[h3];exact qA.1 hlt
        have hnge:¬since<=e.born:=J;refine⟨.tuple #[.bool true,e.key,e.val],_,?_,Step.setObj r hg hB hb (x':=.mapIter (some Bm.b) since (seen.toArray.push e.born) clock) ⟨h0,some Bm.b,?_,Bm,hBm,rfl⟩,?_⟩
        .simp only[Instr.next,h0,xE,Sem.run_bind,hgo,Result.andThen_ok,hgom]
         rw[wx hnogone,hone];simp[Question.forced,hborn,hnge,uO _ hb (by simp)]
        .rw[Zu hb];simp[h3]
        .simp only[VR];exact⟨[.bool true,e.key,e.val],rfl,VRL.cons (by simp[VR]) (VRL.cons h1 (VRL.cons h2 (VRL.nil I)))⟩
   .cases h
  .cases h
 .cases h
def fK:∀{l:zy} {b:Nat},QL l=some b->l.toArray.back?=some b
 |[],_,h=>by simp[QL]at h
 |[n],_,h=>by simp[QL]at h;subst h;rfl
 |n::m::r,b,h=>by
  simp only[QL]at h;have:=fK (l:=m::r) h;simp only[List.back?_toArray]at this|-
  simpa using this
def Pp{I:Phi}{b:Nat}:∀{l:zh} {es:zF} {p:Z×Z},EntRel I l es->V4 b l=some p->∃e,es.find? (·.born==b)=some e/\VR I p.1 e.key/\VR I p.2 e.val
 |[],_,_,_,h=>by simp[V4]at h
 | q::l,_,p,h,hf=>by
  obtain⟨e,es',rfl,h1,h2,h3,h4⟩:=h;simp only[V4,<-h3]at hf;cases hb:zI e.born b with
  |true=>
   rw[hb]at hf;simp only[wy,wB]at hf;subst hf;exact⟨e,by simp[ql.1 hb],h1,h2⟩
  | false=>
   rw[hb]at hf;simp only[wK]at hf;obtain⟨e',g1,g2⟩:=Pp h4 hf;refine⟨e',?_,g2⟩;have:(e.born==b)=false:=by
    rw[beq_eq_false_iff_ne];intro he;rw[ql.2 he]at hb;cases hb
   rw[List.find?_cons,this];exact g1
def FY {I:Phi}(r:Rel P X I s.get w){x:Z}(h:vEn s x=some v)(hx:VR I x x'):∃y,(Instr.entry x').run P w=.ok y w/\VR I v y:=by
 unfold vEn at h;split at h
 .rename_i Y
  simp only[VR]at hx;obtain⟨B,hB,rfl⟩:=hx;split at h
  .rename_i m since seen stepped hg
   obtain⟨B',hB',h0,m',hb,Bm,hBm,rfl⟩:=r.obj Y _ hg;rw[hB]at hB';cases hB';have hgo:=vE (P:=P) hb (by simp)
   cases hl:QL seen with
   |none=>rw[hl]at h;simp at h
   | some b=>
    rw[hl]at h;simp only at h;split at h
    .rename_i es clock hgm
     obtain⟨ents,hbm,hent⟩:=Wq r hgm hBm;have hgom:=vE (P:=P) hbm (by simp)
     cases hc:zI clock stepped with
     |false=>rw[hc]at h;simp at h
     | true=>
      rw[hc]at h;simp only[wy]at h;rw[ql]at hc;subst hc;cases hf:V4 b es with
      |none=>rw[hf]at h;simp[AH]at h
      |some p=>
       rw[hf]at h;simp only[AH,wB]at h;subst h;obtain⟨e,g1,g2,g3⟩:=Pp hent hf;have g1':ents.find? (·.born==b)=some e:=by rw[<-Array.find?_toList];exact g1
       refine⟨.tuple #[e.key,e.val],?_,zvM g2 g3⟩;simp[Instr.entry,h0,hgo,fK hl,hgom,g1']
    .cases h
  .cases h
 .cases h
def Ja{I:Phi}(r:Rel P X I s.get w){ts:Array TypeId}{k:LK}{x:Z}(hts:ts[0]? =some t)
  (hu:match k with|.s=>P.underlying t=some .string|.v=>∃e,P.underlying t=some (.slice e)|.m=>∃k e,P.underlying t=some (.map k e))
  (h:Vy s k x=some v) (hx:VR I x x'):∃y,(Builtin.len_ ts ty #[x']).run P w=.ok y w/\VR I v y:=by
 unfold Vy at h;cases k with
 |s=>
  simp only at h hu;split at h
  .cases h;simp only[VR]at hx;obtain⟨b,rfl,rfl⟩:=hx;exact⟨_,by simp[Builtin.len_,hts,wl hu];rfl,by simp only[VR,qT,vO];rfl⟩
  .cases h
 | v=>
  simp only at h hu;obtain⟨e,hd⟩:=hu;split at h
  .cases h;simp only[VR]at hx;subst hx;exact⟨_,by simp[Builtin.len_,hts,wl hd];rfl,by simp only[VR];rfl⟩
  .cases h;simp only[VR]at hx;obtain⟨a,k,rfl⟩:=hx;exact⟨_,by simp[Builtin.len_,hts,wl hd];rfl,by simp only[VR];rfl⟩
  .cases h;simp only[VR]at hx;obtain⟨B,k,hB,rfl,_⟩:=hx;exact⟨_,by simp[Builtin.len_,hts,wl hd];rfl,by simp only[VR];rfl⟩
  .cases h;simp only[VR]at hx;obtain⟨_,⟨rfl,a,rfl⟩|⟨b,o,k,ys,rfl,_⟩⟩:=hx
   .exact⟨_,by simp[Builtin.len_,hts,wl hd];rfl,by simp only[VR];rfl⟩
   .exact⟨_,by simp[Builtin.len_,hts,wl hd];rfl,by simp only[VR];rfl⟩
  .cases h;simp only[VR]at hx;obtain⟨_,_,_,_,B,ys,_,rfl,_⟩:=hx;exact⟨_,by simp[Builtin.len_,hts,wl hd];rfl,by simp only[VR];rfl⟩
  .cases h
 | m=>
  simp only at h hu;obtain⟨kt,e,hd⟩:=hu;split at h
  .cases h;simp only[VR]at hx;subst hx;exact⟨_,by simp[Builtin.len_,hts,wl hd];rfl,by simp only[VR];rfl⟩
  .rename_i Y
   simp only[VR]at hx;obtain⟨B,hB,rfl⟩:=hx;split at h
   .rename_i es clock hg
    cases h;obtain⟨ents,hb,hent⟩:=Wq r hg hB;have hgo:=vE (P:=P) hb (by simp)
    refine⟨goInt ents.size,by simp[Builtin.len_,hts,wl hd,hgo],?_⟩
    simp only[VR,qT,EntRel.length hent];rfl
   .rename_i es hg
    cases h;obtain⟨ents,clk,hb,l,q1,q2,_⟩:=KJ r hg hB;have hgo:=vE (P:=P) hb (by simp)
    refine⟨goInt ents.size,by simp[Builtin.len_,hts,wl hd,hgo],?_⟩
    have:=q1.length_eq;simp only[VR,qT,q2.length,this];rfl
   .cases h
  .cases h
def Step.del{I:Phi}(r:Rel P X I s.get w)(Y:Nat)(hgd:s.get Y=some o)(hng:uE o=false:=by rfl):Step P X I s w I (s.del Y) w:=by
 have hget:∀i o,(s.del Y).get i=some o->s.get i=some o:=λi o h=>by
  have h1:=qr h;have h2:=vX h;rw[je (s:=s) (s':=s.del Y) rfl rfl]at h2;rw[show (s.del Y).objs=s.objs.del Y from rfl,Trie.get_del]at h1;by_cases e:i=Y
  .rw[wH e]at h1;cases h1
  .rw[wx e]at h1;rw[gh,h2];exact h1
 exact⟨bE s Y (qr hgd) (vX hgd) hng,r.sub hget,λ_ _=>rfl,zX _,λ_ _ _=>rfl,λi B h1 h2=>absurd (show i<s.next from h2) J,λ_ _ _ h=>h,λ_ _ _ h=>.inl h⟩
def Step.moveZ{I:Phi}(r:Rel P X I s.get w)(hf:I s.next=none){Y:Nat}{o':AObj}{B':Blk}{z:Nat->Nat->Option Value}(hg:s.get Y=some o)(hB:I Y=some B)(hbb:B'.b=B.b)
  (hother:∀b,b≠B.b->w'.heap[b]? =w.heap[b]?) (hsz:w'.heap.size=w.heap.size) (hos:w'.os=w.os) (ht:w'.tape=w.tape) (hu:w'.output=w.output)
  (hz1:∀b,b≠B.b->∀i,z b i=I.z b i) (hz0:∀i v,I.z B.b i=some v->z B.b i=some v) (hz2:∀i v,z B.b i=some v->∃c e fr,w'.heap[B.b]? =some (.cells c e fr)/\c[i]? =some v) (hsep:SepOf o' B' z)
  (ho:ObjRel P ((I.set s.next B').zset z) w' o' B') (hng:uE o=false):Step P X I s w ((I.set s.next B').zset z) ((s.del Y).alloc o') w':=by
 have hzs:∀b i v,I.z b i=some v->z b i=some v:=λb i v h=>by
  by_cases e:b=B.b
  .subst e;exact hz0 i v h
  .rw[hz1 b e];exact h
 have hsub:Sub I ((I.set s.next B').zset z):=⟨(Phi.set_sub (B:=B') hf).of,hzs⟩
 have hnew:=r.new hg hB hng;have hext:=(bE s Y (qr hg) (vX hg) hng).trans (pT (s.del Y) o');have hget:∀i x,((s.del Y).alloc o').get i=some x->(i=s.next/\x=o')\/(i≠s.next/\i≠Y/\s.get i=some x):=λi x hx=>by
  have h1:=qr hx;have h2:=vX hx;rw[je (s:=s) (s':=(s.del Y).alloc o') rfl rfl]at h2;rw[show ((s.del Y).alloc o').objs=(s.objs.del Y).set s.next o' from rfl,Trie.get_set]at h1
  by_cases e:i=s.next
  .rw[wH e]at h1;exact .inl ⟨e,by cases h1;rfl⟩
  .rw[wx e,Trie.get_del]at h1;by_cases e2:i=Y
   .rw[wH e2]at h1;cases h1
   .rw[wx e2]at h1;exact .inr ⟨e,e2,by rw[gh,h2];exact h1⟩
 have hne:Y≠s.next:=λe=>by rw[e,hf]at hB;cases hB
 have hmk:((s.del Y).alloc o').wm.testBit Y=true:=by show (gj s.wm Y).testBit Y=true;rw[vf];simp
 refine⟨hext,⟨?_,?_,?_,?_,?_,?_,?_⟩,?_,J,?_,?_,hzs,?_⟩
 .refine⟨hos.trans r.base.os,ht.trans r.base.tape,hu.trans r.base.output,by have:=r.base.size;omega,λk hk=>?_⟩
  exact(hother k J).trans (r.base.block k hk)
 .intro i x hx;rcases hget i x hx with ⟨rfl,rfl⟩|⟨e,e2,hg'⟩
  .exact⟨B',wH rfl,ho⟩
  .obtain⟨B1,hB1,t⟩:=r.obj i x hg';exact⟨B1,hsub _ _ hB1,t.keep hsub (hother _ (λe'=>(r.inj i Y x o B1 B hg' hg hB1 hB e').elim e2 (λh=>J)))⟩
 .intro i B1 hB1;have hB1':(if i=s.next then some B' else I i)=some B1:=hB1
  by_cases e:i=s.next
  .rw[wH e]at hB1';cases hB1';rw[hbb,hsz];exact r.rng Y B hB
  .rw[wx e]at hB1';rw[hsz];exact r.rng i B1 hB1'
 .intro i x B1 hx hB1 hlt;rcases hget i x hx with ⟨rfl,rfl⟩|⟨e,e2,hg'⟩
  .rw[show ((I.set s.next _).zset z) s.next=some B' from wH rfl]at hB1;cases hB1;omega
  .rw[show ((I.set s.next _).zset z) i=I i from wx e]at hB1
   exact r.old i x B1 hg' hB1 hlt
 .intro i i' x x' B1 B2 h1 h2 hB1 hB2 e;rcases hget i x h1 with ⟨rfl,rfl⟩|⟨n1,m1,g1⟩<;>rcases hget i' x' h2 with ⟨rfl,rfl⟩|⟨n2,m2,g2⟩
  .exact .inl rfl
  .rw[show ((I.set s.next _).zset z) s.next=some B' from wH rfl]at hB1;cases hB1
   rw[show ((I.set s.next _).zset z) i'=I i' from wx n2]at hB2
   exact(r.inj i' Y x' o B2 B g2 hg hB2 hB (e.symm.trans hbb)).elim (λh=>absurd h m2) (λh=>J)
  .rw[show ((I.set s.next _).zset z) s.next=some B' from wH rfl]at hB2;cases hB2
   rw[show ((I.set s.next _).zset z) i=I i from wx n1]at hB1
   exact(r.inj i Y x o B1 B g1 hg hB1 hB (e.trans hbb)).elim (λh=>absurd h m1) (λh=>.inr h)
  .rw[show ((I.set s.next _).zset z) i'=I i' from wx n2]at hB2
   rw[show ((I.set s.next _).zset z) i=I i from wx n1]at hB1
   exact r.inj i i' x x' B1 B2 g1 g2 hB1 hB2 e
 .intro b i v hv;have hv':z b i=some v:=hv;by_cases e:b=B.b
  .subst e;exact hz2 i v hv'
  .rw[hz1 b e]at hv';obtain⟨c,e1,fr,h1,h2⟩:=r.frz b i v hv';exact⟨c,e1,fr,(hother b e).trans h1,h2⟩
 .intro i x B1 hx hB1;rcases hget i x hx with ⟨rfl,rfl⟩|⟨e,e2,hg'⟩
  .rw[show ((I.set s.next _).zset z) s.next=some B' from wH rfl]at hB1;cases hB1
   exact hsep
  .rw[show ((I.set s.next _).zset z) i=I i from wx e]at hB1
   have hs:=r.sep i x B1 hg' hB1;by_cases eb:B1.b=B.b
   .rcases r.inj i Y x o B1 B hg' hg hB1 hB eb with h|h
    .exact absurd h e2
    .have:=r.new hg hB hng;omega
   .exact hs.congr (λj=>hz1 B1.b eb j)
 .intro i hi;have hi':i<s.next\/s.next+1<=i:=hi
  exact wx J
 .intro b hb H;apply hother;intro e;have:=H Y o B hg hB e.symm;rw[hmk]at this;cases this
 .intro i B1 h1 h2 hB1;have h2':i<s.next+1:=h2
  have e:i=s.next:=J
  subst e;rw[show ((I.set s.next _).zset z) s.next=some B' from wH rfl]at hB1;cases hB1
  exact .inr ⟨Y,o,B,hg,hB,hbb.symm,hmk⟩
 .intro b i v hv;have hv':z b i=some v:=hv;by_cases e:b=B.b
  .exact .inr (.inr ⟨Y,o,B,hg,hB,e.symm,hmk⟩)
  .rw[hz1 b e]at hv';exact .inl hv'
def Step.move{I:Phi}(r:Rel P X I s.get w)(hf:I s.next=none){Y:Nat}{o':AObj}{B':Blk}(hg:s.get Y=some o)(hB:I Y=some B)(hbb:B'.b=B.b)
  (hother:∀b,b≠B.b->w'.heap[b]? =w.heap[b]?) (hsz:w'.heap.size=w.heap.size) (hos:w'.os=w.os) (ht:w'.tape=w.tape) (hu:w'.output=w.output)
  (ho:ObjRel P (I.set s.next B') w' o' B') (hng:uE o=false:=by rfl) (hna:PB o=false:=by rfl):Step P X I s w (I.set s.next B') ((s.del Y).alloc o') w':=by
 have hzn:=(r.sep Y o B hg hB).all hng hna;exact Step.moveZ (z:=I.z) r hf hg hB hbb hother hsz hos ht hu (λ_ _ _=>rfl) (λ_ _ h=>h) (λi v h=>by rw[hzn i]at h;cases h) (SepOf.of_all (by rw[hbb];exact hzn)) ho hng
structure Src(P:Program)(w:World)(ts:Array TypeId)(e:TypeId)(size:Nat)(x:Value)(n:Nat)(new:zE):Prop where
 stay:∀(t ty:TypeId) (base:Option Addr) (sLen sCap:Nat),ts[0]? =some t->P.underlying t=some (.slice e)->sLen+n<=sCap->
  (Builtin.append_ ts ty #[.slice base sLen sCap,x]).run P w=(match base with
   |none=>.ok (.slice none (sLen+n) sCap) w
   |some a=>((storeCells (a.add (sLen*size)) new).run P w).andThen λ_ w'=>.ok (.slice (some a) (sLen+n) sCap) w')
 grow:∀(t ty:TypeId) (i:TypeInfo) (z:Value) (base:Option Addr) (sLen sCap:Nat) (old:zr),ts[0]? =some t->P.underlying t=some (.slice e)->P.info? e=some i->i.size=size->(zeroValue e).run P w.drew=.ok z w.drew->sCap<sLen+n->(sLen+n:Nat)<9223372036854775808->
  Builtin.nextslicecap (sLen+n) sCap*i.bytes<=281474976710656->(Builtin.firstCells size sLen (.slice base sLen sCap)).run P w.drew=.ok old w.drew->
  (Builtin.append_ ts ty #[.slice base sLen sCap,x]).run P w=
   .ok (.slice (some ⟨w.heap.size,0,none⟩) (sLen+n) (grownCap w (sLen+n) sCap e)) (w.drew.alloc (.cells (old++new.toArray++Builtin.zeroCells z.cells (grownCap w (sLen+n) sCap e-(sLen+n))) e))
def gA{ts:Array TypeId}{e:TypeId}{d:TypeDesc}{size:Nat}{x:Value}{new:zE}(h1:ts[1]? =some u)(hu:P.underlying u=some d)(hd:d=.string\/∃c,d=.slice c)(hsz:jU P e=some size)
  (hl:(Builtin.lenOf x)=pure n) (hw:(Builtin.firstCells size n x).run P w=.ok new.toArray w) (hwd:(Builtin.firstCells size n x).run P w.drew=.ok new.toArray w.drew):Src P w ts e size x n new:=by
 constructor
 .intro t ty base sLen sCap h0 ht hle;rcases hd with rfl|⟨c,rfl⟩
  .cases base<;>simp[Builtin.append_,h0,h1,wl ht,wl hu,qI hsz,hl,hle,hw]
  .cases base<;>simp[Builtin.append_,h0,h1,wl ht,wl hu,qI hsz,hl,hle,hw]
 .intro t ty i z base sLen sCap old h0 ht hi his hzv hlt h63 hfit hold;have hn:¬(sLen+n<=sCap):=J;have h63':¬(9223372036854775807<((sLen:Int)+(n:Int))):=J;have h48':¬(281474976710656<Builtin.nextslicecap (sLen+n) sCap*i.bytes):=J;have hti:=λw'=>gF (P:=P) (w:=w') hi;rcases hd with rfl|⟨c,rfl⟩
  .simp[Builtin.append_,h0,h1,wl ht,wl hu,qI hsz,hl,hn,h63',h48',hti,Question.forced,hold,hwd,hzv,newRow,grownCap]
  .simp[Builtin.append_,h0,h1,wl ht,wl hu,qI hsz,hl,hn,h63',h48',hti,Question.forced,hold,hwd,hzv,newRow,grownCap]
def zzt{w:World}{ts:Array TypeId}{e:TypeId}{k:IntKind}{size:Nat}{z:Value}(h1:ts[1]? =some u)(hu:P.underlying u=some (.int k))(hsz:jU P e=some size)(hby:K7 P e=some b)
  (hz:∀w,(zeroValue e).run P w=.ok z w) (hzl:z.cells.size=size) (hs1:1<=size) (hn0:0<n) (hn:n<9223372036854775808) (hb:n*b<=281474976710656):Src P w ts e size (.int .i64 (n:Int)) n (List.replicate n z.cells.toList).flatten:=by
 obtain⟨i,hi,hib⟩:=Vt hby;have hti:=λw'=>gF (P:=P) (w:=w') hi;have w1:IntKind.i64.wrap (n:Int)=(n:Int):=Xv .i64 n (by simp only[Lt];omega)
 have hneg:¬((n:Int)<0):=J;have hmul:¬(281474976710656<(n:Int)*(i.bytes:Int)):=by
  have e1:(n:Int)*(i.bytes:Int)=((n*i.bytes:Nat):Int):=by simp
  rw[e1,hib];omega
 have hns:¬(n*size=0):=by
  intro h;rcases Nat.mul_eq_zero.1 h with h|h<;>omega
 have hmade:Builtin.zeroCells z.cells n=((List.replicate n z.cells.toList).flatten).toArray:=by
  apply xi;have:=Jc z.cells.toList n (by simp;omega)
  simpa [Builtin.zeroCells]using this
 constructor
 .intro t ty base sLen sCap h0 ht hle;cases base<;>simp[Builtin.append_,h0,h1,wl ht,wl hu,qI hsz,asInt,asIntOf,w1,hneg,hti,hmul,hle,hns,hz,hmade]
 .intro t ty i' z' base sLen sCap old h0 ht hi' his hzv hlt h63 hfit hold;rw[hi]at hi';cases hi';have hz':z'=z:=by rw[hz]at hzv;cases hzv;rfl
  subst hz';have hle:¬(sLen+n<=sCap):=J;have h63':¬(9223372036854775807<((sLen:Int)+(n:Int))):=J;have h48':¬(281474976710656<Builtin.nextslicecap (sLen+n) sCap*i.bytes):=J;simp[Builtin.append_,h0,h1,wl ht,wl hu,qI hsz,asInt,asIntOf,w1,hneg,hti,hmul,hle,h63',h48',hns,hz,hmade,Question.forced,hold,newRow,grownCap]
def kK(w:World)(need old:Nat)(e:TypeId):need<=grownCap w need old e:=by simp[grownCap,Question.cut]
def WP(z:zr)(n:Nat):(Builtin.zeroCells z n).size=n*z.size:=by simp[Builtin.zeroCells]
def Vf{I:Phi}(r:Rel P X I s.get w)(hwf:Wf s)(hf:I s.next=none){cap:Nat}{xs:zr}{z:zr}
  (h:grow s e esz bytes cs need=some (v,s')) (hx:VRL I cs xs.toList) (hl:zR cs=need*esz) (hz:z.size=esz) (hc:need<=cap):
  ∃I',Step P X I s w I' s' (w.drew.alloc (.cells (xs++Builtin.zeroCells z (cap-need)) e))/\VR I' v (.slice (some ⟨w.heap.size,0,none⟩) need cap)/\2*need*bytes<=281474976710656/\need<9223372036854775808:=by
 unfold grow at h;cases hb:(zM (zK (zK 2 need) bytes) 281474976710656&&zM 1 esz&&zL need 9223372036854775808)with
 |false=>rw[hb]at h;simp at h
 | true=>
  rw[hb]at h;simp only[wy,wB,qj]at h;obtain⟨rfl,rfl⟩:=h;simp only[zU,qd,qA]at hb;obtain⟨⟨hb1,hb2⟩,hb3⟩:=hb;have hxl:=VRL.length hx;have hxs:xs.size=need*esz:=by rw[<-xd,<-hxl,hl]
  have hmul:need*esz+(cap-need)*esz=cap*esz:=by rw[<-xe];congr 1;omega
  refine⟨I.set s.next ⟨w.heap.size,0,cap*esz⟩,Step.alloc r hwf hf rfl rfl rfl rfl ?_,?_,hb1,hb3⟩
  .refine⟨xs++Builtin.zeroCells z (cap-need),(0,0),ju _,?_,?_,(λh=>by cases h),?_,zX _,λ_ i _=>by simp⟩
   .rw[Array.size_append,WP,hxs,hz];simp only;omega
   .simp only[hl];exact xr _ hc
   .have e1:(((xs++Builtin.zeroCells z (cap-need)).toList.drop 0).take (zR cs))=xs.toList:=by
     rw[yR,xD,xw (by rw[hxl];exact zX _),hxl,List.take_length]
    simp only;rw[e1];exact VRL.mono (Phi.set_sub hf) _ _ hx
  .simp only[VR];refine⟨⟨w.heap.size,0,cap*esz⟩,cap,by simp[Phi.set],by simp,hb2,?_,hc,yz _⟩
   simp only[Nat.sub_zero];exact(Nat.mul_div_cancel _ J).symm
theorem lV(h:Zo s e esz bytes cs need=some (v,s')):s'.next=s.next+1:=by
 unfold Zo at h;cases hb:(zM (zK (zK 2 need) bytes) 281474976710656&&zM 1 esz&&zL need 9223372036854775808&&wL cs)with
 |false=>rw[hb]at h;simp at h
 |true=>
  rw[hb]at h;simp only[wy,wB,qj]at h;obtain⟨_,rfl⟩:=h;rfl
def U4(h:Zo s e esz bytes cs need=some (v,s')):
  2*need*bytes<=281474976710656/\1<=esz/\need<9223372036854775808/\wL cs=true/\v=.gr s.next esz need cs/\s'=s.alloc (.app e cs):=by
 unfold Zo at h;cases hb:(zM (zK (zK 2 need) bytes) 281474976710656&&zM 1 esz&&zL need 9223372036854775808&&wL cs)with
 |false=>rw[hb]at h;simp at h
 |true=>
  rw[hb]at h;simp only[wy,wB,qj]at h;simp only[zU,qd,qA]at hb;obtain⟨⟨⟨hb1,hb2⟩,hb3⟩,hb4⟩:=hb;exact⟨hb1,hb2,hb3,hb4,h.1.symm,h.2.symm⟩
def Phi.znewT(I:Phi)(b m:Nat)(c:zr):Nat->Nat->Option Value:=λb' i=>if b'=b then (if i<m then c[i]? else none)else I.z b' i
variable {I:Phi}
def ZO(r:Rel P X I s.get w)(hwf:Wf s)(hf:I s.next=none){cap:Nat}{xs:zr}{z:zr}
  (h:Zo s e esz bytes cs need=some (v,s')) (hn0:0<need) (hx:VRL I cs xs.toList) (hl:zR cs=need*esz) (hz:z.size=esz) (hc:need<=cap):
  ∃I',Step P X I s w I' s' (w.drew.alloc (.cells (xs++Builtin.zeroCells z (cap-need)) e))/\VR I' v (.slice (some ⟨w.heap.size,0,none⟩) need cap)/\2*need*bytes<=281474976710656/\need<9223372036854775808:=by
 obtain⟨hb1,hb2,hb3,hp,rfl,rfl⟩:=U4 h;have hxl:=VRL.length hx;have hxs:xs.size=need*esz:=by rw[<-xd,<-hxl,hl]
 have hmul:need*esz+(cap-need)*esz=cap*esz:=by rw[<-xe];congr 1;omega
 obtain⟨c,hcd⟩:∃c,c=xs++Builtin.zeroCells z (cap-need):=⟨_,rfl⟩;have hcl:(c.toList.drop 0).take (zR cs)=xs.toList:=by
  rw[hcd,yR,xD,xw (by rw[hxl];exact zX _),hxl,List.take_length]
 have hsub:Sub I ((I.set s.next ⟨w.heap.size,0,cap*esz⟩).zset (I.znewT w.heap.size (zR cs) c)):=⟨(Phi.set_sub hf).of,λb i v hv=>by
  have:=r.zlt hv;show (if b=w.heap.size then _ else I.z b i)=some v;rw[wx J];exact hv⟩
 have hzc:ZC ((I.set s.next ⟨w.heap.size,0,cap*esz⟩).zset (I.znewT w.heap.size (zR cs) c)) w.heap.size 0 xs.toList:=ZC.of λi y hi=>by
  have hlt:i<zR xs.toList:=(List.getElem?_eq_some_iff.1 hi).1;show (if w.heap.size=w.heap.size then (if 0+i<(zR cs)then c[0+i]? else none)else I.z w.heap.size (0+i))=some y;rw[wH rfl,wH J,xB,<-yd];have:((c.toList.drop 0).take (zR cs))[i]? =some y:=by rw[hcl];exact hi
  rw[yR,yh,wH J]at this;exact this
 rw[<-hcd];refine⟨(I.set s.next ⟨w.heap.size,0,cap*esz⟩).zset (I.znewT w.heap.size (zR cs) c),Step.allocZ r hwf hf rfl rfl rfl rfl ?_ ?_ ?_ ?_,?_,hb1,hb3⟩
 .intro b hb i;show (if b=w.heap.size then _ else I.z b i)=I.z b i;rw[wx hb]
 .intro i v hv;have hv':(if w.heap.size=w.heap.size then (if i<(zR cs)then c[i]? else none)else I.z w.heap.size i)=some v:=hv;rw[wH rfl]at hv';by_cases hi:i<zR cs
  .rw[wH hi]at hv';exact⟨c,e,(0,0),rfl,hv'⟩
  .rw[wx hi]at hv';cases hv'
 .intro i hi;show (if w.heap.size=w.heap.size then (if i<(zR cs)then c[i]? else none)else I.z w.heap.size i)=none;have hi':0+zR cs<=i:=hi;rw[wH rfl,wx J]
 .refine⟨c,(0,0),ju _,?_,?_,?_,zX _,yz _⟩
  .rw[hcd,Array.size_append,WP,hxs,hz];simp only;omega
  .simp only[hl];exact xr _ hc
  .simp only;rw[hcl];exact VRL.mono hsub _ _ hx
 .simp only[VR];have hdiv:cap*esz/esz=cap:=Nat.mul_div_cancel _ J;exact⟨hp,hl,hn0,J,⟨w.heap.size,0,cap*esz⟩,xs.toList,wH rfl,by rw[hdiv],by rw[hdiv];exact hc,hzc,VRL.mono hsub _ _ hx⟩
def mO(_r:Rel P X I s.get w){ts:Array TypeId}{e:TypeId}{x:Z}(h0:ts[0]? =some t)(ht:P.underlying t=some (.slice e))(src:Src P w ts e esz y' 0 [])
  (h:EU s x=some (v,s')) (hx:VR I x x'):s'=s/\(Builtin.append_ ts ty #[x',y']).run P w=.ok x' w/\VR I v x':=by
 have hst:∀(a:Addr),(storeCells (a.add 0) []).run P w=.ok () w:=λa=>rfl;unfold EU at h;split at h
 .cases h;have hx':=hx;simp only[VR]at hx;subst hx;exact⟨rfl,by rw[src.stay t ty none 0 0 h0 ht J],hx'⟩
 .cases h;have hx':=hx;simp only[VR]at hx;obtain⟨a,k,rfl⟩:=hx;exact⟨rfl,by rw[src.stay t ty (some a) 0 k h0 ht J];rfl,hx'⟩
 .rename_i Y off len c
  have hx':=hx;simp only[VR]at hx;obtain⟨B,k,hB,rfl,hk⟩:=hx;split at h
  .rename_i k'
   simp only at hk;subst hk;cases hb:zM len k with
   |false=>rw[hb]at h;simp at h
   |true=>
    rw[hb]at h;simp only[wy,wB,qj]at h;obtain⟨rfl,rfl⟩:=h;exact⟨rfl,by rw[src.stay t ty (some _) len k h0 ht (by have:=qd.1 hb;omega)];rfl,hx'⟩
  .rename_i e'
   simp only[wB,qj]at h;obtain⟨rfl,rfl⟩:=h;simp only at hk;exact⟨rfl,by rw[src.stay t ty (some _) len k h0 ht J];rfl,hx'⟩
 .cases h;have hx':=hx;simp only[VR]at hx;obtain⟨_,⟨rfl,a,rfl⟩|⟨b,o,k,ys,rfl,_,hk,_⟩⟩:=hx
  .cases a with
   |none=>exact⟨rfl,by rw[src.stay t ty none 0 0 h0 ht J],hx'⟩
   |some a=>exact⟨rfl,by rw[src.stay t ty (some _) 0 0 h0 ht J];rfl,hx'⟩
  .exact⟨rfl,by rw[src.stay t ty (some _) _ k h0 ht J];rfl,hx'⟩
 .cases h;have hx':=hx;simp only[VR]at hx;obtain⟨_,_,_,_,B,ys,_,rfl,hk,_⟩:=hx;exact⟨rfl,by rw[src.stay t ty (some _) _ _ h0 ht J];rfl,hx'⟩
 .cases h
def pO(r:Rel P X I s.get w){o len:Nat}(hv:VR I (.vp cs) (.pointer (some ⟨b,o,none⟩)))(hc:qf (n*esz) cs=some l):
  ∃xs:zE,VRL I l xs/\(Builtin.firstCells esz n (.slice (some ⟨b,o,none⟩) len k)).run P w=.ok xs.toArray w/\(Builtin.firstCells esz n (.slice (some ⟨b,o,none⟩) len k)).run P w.drew=.ok xs.toArray w.drew:=by
 obtain⟨a,xs,ea,hlen,hxs,hcell⟩:=jv r (G:=[]) (λg cs h=>by simp at h) (show jE [] s (.vp cs) (n*esz)=some l from hc) hv
 cases ea;exact⟨xs,hxs,run_firstCells_some w esz n _ len k xs hlen hcell,run_firstCells_some w.drew esz n _ len k xs hlen (by simpa using hcell)⟩
def bF(r:Rel P X I s.get w){Y off len:Nat}(hB:I Y=some B)(hld:jE [] s (.ptr Y off) (n*esz)=some l):
  ∃xs:zE,VRL I l xs/\(Builtin.firstCells esz n (.slice (some ⟨B.b,B.o+off,none⟩) len k)).run P w=.ok xs.toArray w/\(Builtin.firstCells esz n (.slice (some ⟨B.b,B.o+off,none⟩) len k)).run P w.drew=.ok xs.toArray w.drew:=by
 obtain⟨a,xs,ea,hlen,hxs,hcell⟩:=jv r (G:=[]) (λg cs h=>by simp at h) hld (x:=.pointer (some ⟨B.b,B.o+off,none⟩)) (by simp only[VR];exact⟨B,hB,rfl⟩)
 cases ea;exact⟨xs,hxs,run_firstCells_some w esz n _ len k xs hlen hcell,run_firstCells_some w.drew esz n _ len k xs hlen (by simpa using hcell)⟩
def Wa(r:Rel P X I s.get w){Y off len:Nat}{t:Nat}{e fz:Bool}(hg:s.get Y=some (.row t cs e fz))(hB:I Y=some B)(hc:cut cs off (n*esz)=some l):
  ∃xs:zE,VRL I l xs/\(Builtin.firstCells esz n (.slice (some ⟨B.b,B.o+off,none⟩) len k)).run P w=.ok xs.toArray w/\(Builtin.firstCells esz n (.slice (some ⟨B.b,B.o+off,none⟩) len k)).run P w.drew=.ok xs.toArray w.drew:=by
 have hld:jE [] s (.ptr Y off) (n*esz)=some l:=by simp only[jE,hg];exact hc
 obtain⟨a,xs,ea,hlen,hxs,hcell⟩:=jv r (G:=[]) (λg cs h=>by simp at h) hld (x:=.pointer (some ⟨B.b,B.o+off,none⟩)) (by simp only[VR];exact⟨B,hB,rfl⟩)
 cases ea;exact⟨xs,hxs,run_firstCells_some w esz n _ len k xs hlen hcell,run_firstCells_some w.drew esz n _ len k xs hlen (by simpa using hcell)⟩
def lY{old:Nat}(h:old<need)(hb:2*need*bytes<=281474976710656):Builtin.nextslicecap need old*bytes<=281474976710656:=
 Nat.le_trans (xr _ (nextslicecap_le h)) hb
theorem pW(h:grow s e esz bytes cs need=some (v,s')):s'.next=s.next+1:=by
 unfold grow at h;cases hb:(zM (zK (zK 2 need) bytes) 281474976710656&&zM 1 esz&&zL need 9223372036854775808)with
 |false=>rw[hb]at h;simp at h
 |true=>
  rw[hb]at h;simp only[wy,wB,qj]at h;obtain⟨_,rfl⟩:=h;rfl
def mi:∀(n:Nat) (l:zA),n<=zR l->qf n l=some (l.take n)
 |0,l,_=>by simp[qf]
 |n+1,[],h=>by simp at h
 |n+1,v::l,h=>by
  simp only[qf,mi n l (by simpa using h)]
  simp
def K2 (r : Rel P X I s.get w)(hwf:Wf s)(hf1:s.next<s'.next->I s.next=none){ts:Array TypeId}{e:TypeId}{x z:Z}{new:zA}{new':zE}
  (h0:ts[0]? =some t) (ht:P.underlying t=some (.slice e)) (hs:jU P e=some esz) (hby:K7 P e=some bytes) (hz:lH P e=some z) (hzl:zR z.cells=esz) (src:Src P w ts e esz y' n new')
  (hn:0<n) (hnew:VRL I new new') (hnl:zR new=n*esz) (h:ZZ s e esz bytes x n new=some (v,s')) (hx:VR I x x'):
  ∃I' u w',(Builtin.append_ ts ty #[x',y']).run P w=.ok u w'/\Step P X I s w I' s' w'/\VR I' v u:=by
 obtain⟨zx,hzr,hzv⟩:=uA hz;have hzs:zx.cells.size=esz:=by rw[<-hzl,VRL.length (hzv I).cells];simp
 obtain⟨i,hi,his⟩:=JT hs;obtain⟨i',hi',hib⟩:=Vt hby;rw[hi]at hi';cases hi';unfold ZZ at h;split at h
 .simp only[VR]at hx;subst hx;cases hmd:(s.md&&wL new)with
  |true=>
   rw[hmd]at h;simp only[wy]at h;have hf:=hf1 (by rw[lV h];omega)
   obtain⟨I',h1,h2,h3,h4⟩:=ZO (w:=w) (xs:=new'.toArray) (cap:=grownCap w n 0 e) (z:=zx.cells) r hwf hf h hn (by simpa using hnew) hnl hzs (kK _ _ _ _)
   refine⟨I',_,_,?_,h1,h2⟩;have hg:=src.grow t ty i zx none 0 0 #[] h0 ht hi his (hzr _) J J (by rw[xB];exact lY J (by rw[hib];exact h3)) (run_firstCells_none _ _ _ _ _)
   rw[hg];simp
  |false=>
  rw[hmd]at h;simp only[wK]at h;have hf:=hf1 (by rw[pW h];omega)
  obtain⟨I',h1,h2,h3,h4⟩:=Vf (w:=w) (xs:=new'.toArray) (cap:=grownCap w n 0 e) (z:=zx.cells) r hwf hf h (by simpa using hnew) hnl hzs (kK _ _ _ _)
  refine⟨I',_,_,?_,h1,h2⟩;have hg:=src.grow t ty i zx none 0 0 #[] h0 ht hi his (hzr _) J J (by rw[xB];exact lY J (by rw[hib];exact h3)) (run_firstCells_none _ _ _ _ _)
  rw[hg];simp
 · -- a frozen slice whose capacity is its length
  rename_i k ex cs
  cases ex with
  |false=>simp at h
  | true=>
   simp only[wy]at h;cases hc:qf (zK k esz) cs with
   |none=>rw[hc]at h;simp at h
   | some old=>
    rw[hc]at h;simp only at h;have hf:=hf1 (by rw[lV h];omega)
    obtain⟨r0,_,hol⟩:=lZ hc;have hol':zR old=k*esz:=hol;have hlen:(old++new).length=(k+n)*esz:=by rw[y8,hol',hnl,xe]
    simp only[VR]at hx;obtain⟨hp,⟨rfl,a,rfl⟩|⟨b,o,k',ys,rfl,hk,_,hz1,hy1⟩⟩:=hx
    .obtain rfl:old=[]:=xg (by rw[hol'];simp)
     obtain⟨I',h1,h2,h3,h4⟩:=ZO (w:=w) (xs:=new'.toArray) (cap:=grownCap w (0+n) 0 e) (z:=zx.cells) r hwf hf h (by show 0<0+n;omega) (by simpa using hnew) hlen hzs (kK _ _ _ _)
     refine⟨I',_,_,?_,h1,h2⟩;have hg:=src.grow t ty i zx a 0 0 #[] h0 ht hi his (hzr _) J J (lY J (by rw[hib];exact h3)) (by cases a with|none=>exact run_firstCells_none _ _ _ _ _|some a=>exact run_firstCells_some _ esz 0 a 0 0 [] (by simp) (by simp))
     rw[hg];simp
    .obtain rfl:=hk trivial;obtain⟨xs,hxs,_,hfd⟩:=pO (P:=P) (len:=k') (k:=k') r (by simp only[VR];exact⟨hp,b,o,ys,rfl,hz1,hy1⟩) hc
     obtain⟨I',h1,h2,h3,h4⟩:=ZO (w:=w) (xs:=xs.toArray++new'.toArray) (cap:=grownCap w (k'+n) k' e) (z:=zx.cells) r hwf hf h (by show 0<k'+n;omega) (by simpa using VRL.append hxs hnew) hlen hzs (kK _ _ _ _)
     refine⟨I',_,_,?_,h1,h2⟩;exact src.grow t ty i zx (some _) k' k' xs.toArray h0 ht hi his (hzr _) J h4 (lY J (by rw[hib];exact h3)) hfd
 · -- one that may grow
  rename_i Y esz' k cs
  split at h
  .rename_i t0 cells hg
   cases hb:(zI esz esz'&&zI t0 e&&zI (vC cells) (vC cs)&&w8 new)with
   |false=>rw[hb]at h;simp at h
   | true=>
    rw[hb]at h;simp only[wy]at h;simp only[zU,ql,qT]at hb;obtain⟨⟨⟨rfl,rfl⟩,hcl⟩,hsc⟩:=hb;have hf:=hf1 (by rw[lV h];exact yK _)
    simp only[VR]at hx;obtain⟨hp,hcn,hk0,he,B,ys,hB,rfl,hkK,hz1,hy1⟩:=hx;obtain⟨B',hB',c,fr,g1,g2,g3,g4,g5,g6⟩:=r.obj Y _ hg;rw[hB]at hB';cases hB';have hsep:=r.sep Y _ B hg hB;simp only[SepOf]at hsep;have hyl:=hy1.length;have hlen:(cs++new).length=(k+n)*esz:=by rw[y8,hcn,hnl,xe]
    have hxl:=VRL.length hnew;have hmul:(k+n)*esz=k*esz+n*esz:=xe _ _ _;by_cases hle:k+n<=B.tot/esz
    · -- it stays
     obtain⟨hb1,hb2,hb3,hpp,rfl,rfl⟩:=U4 h;have hfit:(k+n)*esz<=B.tot:=by rw[xq he]at hle;exact hle
     have hrun:=run_storeCells_cells (P:=P) B.b (B.o+k*esz) new' 0 w
      (λj hj=>by rw[gK g1];simp;omega)
      (λj hj=>by
       rw[Xc g1];have:¬(B.o+k*esz+0+j<fr.2):=J;rw[qy this,Bool.and_false])
      (gG hnew hsc)
     obtain⟨f1,f2,f3,f4,f5⟩:=lD new' w B.b (B.o+k*esz+0);obtain⟨c',k1,k2⟩:=ZW new' w B.b (B.o+k*esz+0) c t0 fr g1 J;have hsz:c'.size=c.size:=by rw[<-xd,k2];simp;omega
     have hlow:∀i,i<B.o+k*esz->c'[i]? =c[i]? :=λi hi=>by
      rw[<-yd,k2,xb (by simp;omega),xb (by simp;omega),yh,wH J,yd]
     obtain⟨zz,hzz⟩:∃zz:Nat->Nat->Option Value,zz=λb i=>if b=B.b/\B.o+k*esz<=i/\i<B.o+(k+n)*esz then c'[i]? else I.z b i:=⟨_,rfl⟩;have hz0:∀i v,I.z B.b i=some v->i<B.o+k*esz:=λi v hv=>by
      apply Nat.lt_of_not_le;intro hge;rw[hsep i J]at hv;cases hv
     have hzin:∀b i v,I.z b i=some v->zz b i=some v:=λb i v hv=>by
      rw[hzz];simp only;by_cases eb:b=B.b
      .subst eb;have:=hz0 i v hv;rw[wx J];exact hv
      .rw[wx (λh=>eb h.1)];exact hv
     have hsub:Sub I ((I.set s.next B).zset zz):=⟨(Phi.set_sub (B:=B) hf).of,hzin⟩
     have hys:∀i y,ys[i]? =some y->c[B.o+i]? =some y:=λi y hi=>by
      obtain⟨c2,e2,fr2,q1,q2⟩:=r.frz _ _ _ (hz1.at hi);rw[g1]at q1;cases q1;exact q2
     have hcnew:∀i y,new'[i]? =some y->c'[B.o+k*esz+i]? =some y:=λi y hi=>by
      have hlt:=(List.getElem?_eq_some_iff.1 hi).1;rw[<-yd,k2,xE,xb (by simp;omega),xz (by simp;omega)]
      have:(c.toList.take (B.o+k*esz)).length=B.o+k*esz:=by rw[List.length_take,xd];omega
      rw[this,Nat.add_sub_cancel_left];exact hi
     have hcell:∀i y,(ys++new')[i]? =some y->c'[B.o+i]? =some y:=λi y hi=>by
      by_cases hl:i<zR ys
      .rw[xb hl]at hi;rw[hlow _ J];exact hys i y hi
      .rw[xz J]at hi;have:=hcnew _ _ hi;rw[show B.o+k*esz+(i-zR ys)=B.o+i by omega]at this;exact this
     have hzc:ZC ((I.set s.next B).zset zz) B.b B.o (ys++new'):=ZC.of λi y hi=>by
      have hlt:=(List.getElem?_eq_some_iff.1 hi).1;rw[y8]at hlt;show zz B.b (B.o+i)=some y;by_cases hl:i<zR ys
      .rw[xb hl]at hi;exact hzin _ _ _ (hz1.at hi)
      .rw[hzz];simp only;rw[wH ⟨trivial,J,J⟩];exact hcell i y hi
     have hall:VRL ((I.set s.next B).zset zz) (cs++new) (ys++new'):=VRL.mono hsub _ _ (VRL.append hy1 hnew)
     refine⟨(I.set s.next B).zset zz,.slice (some ⟨B.b,B.o,none⟩) (k+n) (B.tot/esz),_,?_,Step.moveZ r hf (B':=B) hg hB rfl f5 f1 f2 f3 f4 ?_ ?_ ?_ ?_ ?_ rfl,?_⟩
     .rw[src.stay t ty (some _) k _ h0 ht hle];simp only[uJ,hrun,Result.andThen_ok]
     .intro b hb i;rw[hzz];simp only;rw[wx (λh=>hb h.1)]
     .exact λi v hv=>hzin _ i v hv
     .intro i v hv;rw[hzz]at hv;simp only at hv;refine⟨c',t0,fr,k1,?_⟩;by_cases hc:True/\B.o+k*esz<=i/\i<B.o+(k+n)*esz
      .rw[wH hc]at hv;exact hv
      .rw[wx hc]at hv;obtain⟨c2,e2,fr2,q1,q2⟩:=r.frz _ _ _ hv;rw[g1]at q1;cases q1;rw[hlow i (hz0 i v hv)];exact q2
     .intro i hi;have hi':B.o+(cs++new).length<=i:=hi;rw[hlen]at hi';rw[hzz];simp only;rw[wx J];exact hsep i J
     .refine⟨c',fr,k1,by rw[hsz];exact g2,by simp only[hlen];exact hfit,?_,g5,by simp only[hlen];omega⟩
      have key:(c'.toList.drop B.o).take (cs++new).length=ys++new':=by
       apply List.ext_getElem?;intro i;rw[yh];by_cases hl:i<(cs++new).length
       .rw[wH hl,List.getElem?_drop,yd];have hl2:i<(ys++new').length:=by rw[y8]at hl|-;omega
        rw[hcell i _ (xj hl2),xj hl2]
       .rw[wx hl,List.getElem?_eq_none (by rw[y8]at hl|-;omega)]
      rw[key];exact hall
     .simp only[VR];exact⟨hpp,hlen,by show 0<k+n;omega,he,B,ys++new',wH rfl,rfl,hle,hzc,hall⟩
    .have hlt:B.tot/esz<k+n:=J;have hd:=Step.del r Y hg;obtain⟨xs,hxs,_,hfd⟩:=pO (P:=P) (n:=k) (esz:=esz) (len:=k) (k:=B.tot/esz) (l:=cs) r (by simp only[VR];exact⟨hp,B.b,B.o,ys,rfl,hz1,hy1⟩) (by rw[mi _ _ J,yq J])
     obtain⟨I',h1,h2,h3,h4⟩:=ZO (w:=w) (xs:=xs.toArray++new'.toArray) (cap:=grownCap w (k+n) (B.tot/esz) t0) (z:=zx.cells) hd.rel (hd.ext.wf hwf) hf h (by show 0<k+n;omega) (by simpa using VRL.append hxs hnew) hlen hzs (kK _ _ _ _)
     refine⟨I',_,_,?_,Step.trans hwf hd h1,h2⟩;exact src.grow t ty i zx (some _) k _ xs.toArray h0 ht hi his (hzr _) hlt h4 (lY hlt (by rw[hib];exact h3)) hfd
  .cases h
 .rename_i Y off len c
  split at h
  .rename_i t0 cs ex fz hg
   simp only[VR]at hx;obtain⟨B,k,hB,rfl,hk⟩:=hx;have hptr:VR I (.ptr Y (zJ off (zK len esz))) (.pointer (some ⟨B.b,B.o+(off+len*esz),none⟩)):=by simp only[VR];exact⟨B,hB,rfl⟩
   have hadd:Addr.add ⟨B.b,B.o+off,none⟩ (len*esz)=⟨B.b,B.o+(off+len*esz),none⟩:=by rw[uJ];congr 1;omega
   split at h
   .rename_i k'
    simp only at hk;subst hk;cases hb:zM (zJ len n) k with
    | true=>
     rw[hb]at h;simp only[wy]at h;cases hst:gB s (.ptr Y (zJ off (zK len esz))) new with
     |none=>rw[hst]at h;simp at h
     |some s1=>
      rw[hst]at h;simp only[wB,qj]at h;obtain⟨rfl,rfl⟩:=h;obtain⟨a,w',ea,h1,h2⟩:=Xt (P:=P) r hst hptr hnew;cases ea;refine⟨I,.slice (some ⟨B.b,B.o+off,none⟩) (len+n) k,w',?_,h2,?_⟩
      .rw[src.stay t ty (some _) len k h0 ht (qd.1 hb)];simp only[hadd,h1,Result.andThen_ok]
      .simp only[VR];exact⟨B,k,hB,rfl,rfl⟩
    | false=>
     rw[hb]at h;simp only[wK]at h;have hlt:k<len+n:=by
      apply Nat.lt_of_not_le;intro hh;rw[show zM (zJ len n) k=true from qd.2 hh]at hb;cases hb
     cases hc:cut cs off (zK len esz)with
     |none=>rw[hc]at h;simp at h
     |some old=>
      rw[hc]at h;simp only at h;have hf:=hf1 (by rw[pW h];omega)
      obtain⟨xs,hxs,_,hfd⟩:=Wa (len:=len) (k:=k) r hg hB hc;have hol:=(cut_some hc).1;obtain⟨I',h1,h2,h3,h4⟩:=Vf (w:=w) (xs:=xs.toArray++new'.toArray) (cap:=grownCap w (len+n) k e) (z:=zx.cells) r hwf hf h (by simpa using VRL.append hxs hnew) (by rw[y8,hol,hnl];show len*esz+n*esz=(len+n)*esz;rw[xe]) hzs (kK _ _ _ _)
      refine⟨I',_,_,?_,h1,h2⟩;exact src.grow t ty i zx (some _) len k xs.toArray h0 ht hi his (hzr _) hlt h4 (lY hlt (by rw[hib];exact h3)) hfd
   .rename_i esz'
    simp only at hk;obtain⟨he,hk,hlk,hot⟩:=hk;cases hb:(zI esz esz'&&ex&& !fz)with
    |false=>rw[hb]at h;simp at h
    | true =>
     rw[hb]at h;simp only[wy]at h;simp only[zU,ql,Bool.not_eq_true']at hb;obtain⟨⟨rfl,rfl⟩,rfl⟩:=hb;obtain⟨B',hB',c,fr,g1,g2,g3,g4,g5,g6,g7⟩:=r.obj Y _ hg;rw[hB]at hB';cases hB';cases hb2:zM (zJ off (zK (zJ len n) esz)) (vC cs)with
     | true=>
      rw[hb2]at h;simp only[wy]at h;rw[qd,qT]at hb2;have hb2':off+(len+n)*esz<=zR cs:=hb2;have hle:len+n<=k:=by rw[hk,xq he];omega
      cases hst:gB s (.ptr Y (zJ off (zK len esz))) new with
      |none=>rw[hst]at h;simp at h
      |some s1=>
       rw[hst]at h;simp only[wB,qj]at h;obtain⟨rfl,rfl⟩:=h;obtain⟨a,w',ea,h1,h2⟩:=Xt (P:=P) r hst hptr hnew;cases ea;refine⟨I,.slice (some ⟨B.b,B.o+off,none⟩) (len+n) k,w',?_,h2,?_⟩
       .rw[src.stay t ty (some _) len k h0 ht hle];simp only[hadd,h1,Result.andThen_ok]
       .simp only[VR];exact⟨B,k,hB,rfl,he,hk,hle,hot⟩
     | false =>
      rw[hb2]at h;simp only[wK]at h;cases hb3:(w8 new&&zI t0 e)with
      |false=>rw[hb3]at h;simp at h
      | true =>
       rw[hb3]at h;simp only[wy]at h;simp only[zU,ql]at hb3;obtain⟨hsc,rfl⟩:=hb3;cases hc:cut cs off (zK len esz)with
       |none=>rw[hc]at h;simp at h
       | some old=>
        rw[hc]at h;simp only at h;have hf:=hf1 (by rw[pW h];exact yK _)
        obtain⟨xs,hxs,_,hfd⟩:=Wa (len:=len) (k:=k) r hg hB hc;obtain⟨hol,hcb,hold⟩:=cut_some hc;have hol':zR old=len*esz:=hol;have hlen:(old++new).length=(len+n)*esz:=by rw[y8,hol',hnl,xe]
        by_cases hle:len+n<=k
        · -- it stays
         have hxl:=VRL.length hnew;have hfit:(len+n)*esz<=B.tot-off:=by rw[hk,xq he]at hle;exact hle
         have hmul:(len+n)*esz=len*esz+n*esz:=xe _ _ _
         have hrun:=run_storeCells_cells (P:=P) B.b (B.o+(off+len*esz)) new' 0 w
          (λj hj=>by rw[gK g1];simp;omega)
          (λj hj=>by
           rw[Xc g1];have:=g7 rfl (B.o+(off+len*esz)+0+j) J;simp at this|-;exact this)
          (gG hnew hsc)
         obtain⟨f1,f2,f3,f4,f5⟩:=lD new' w B.b (B.o+(off+len*esz)+0);obtain⟨c',k1,k2⟩:=ZW new' w B.b (B.o+(off+len*esz)+0) c t0 fr g1 J;have hsz:c'.size=c.size:=by rw[<-xd,k2];simp;omega
         unfold grow at h;cases hb4:(zM (zK (zK 2 (zJ len n)) bytes) 281474976710656&&zM 1 esz&&zL (zJ len n) 9223372036854775808)with
         |false=>rw[hb4]at h;simp at h
         | true=>
          rw[hb4]at h;simp only[wy,wB,qj]at h;obtain⟨rfl,rfl⟩:=h;have hsub:=Phi.set_sub (B:=⟨B.b,B.o+off,B.tot-off⟩) hf;refine⟨_,.slice (some ⟨B.b,B.o+off,none⟩) (len+n) k,_,?_,Step.move r hf (B':=⟨B.b,B.o+off,B.tot-off⟩) hg hB rfl f5 f1 f2 f3 f4 ?_,?_⟩
          .rw[src.stay t ty (some _) len k h0 ht hle];simp only[hadd,hrun,Result.andThen_ok]
          .refine⟨c',fr,k1,by simp only;omega,by simp only;rw[hlen];exact hfit,(λh=>by cases h),?_,g6,λ_=>by rw[hsz];exact g7 rfl⟩
           simp only;have key:(c'.toList.drop (B.o+off)).take (old++new).length=(((c.toList.drop B.o).take (zR cs)).drop off).take (len*esz)++new':=by
            rw[k2,hlen,hmul];have hp:B.o+(off+len*esz)+0=B.o+off+len*esz:=J;rw[hp,List.append_assoc,List.drop_append_of_le_length (by simp;omega),List.drop_take]
            have a1:B.o+off+len*esz-(B.o+off)=len*esz:=J;rw[a1,List.take_append];have a2:((c.toList.drop (B.o+off)).take (len*esz)).length=len*esz:=by simp;omega
            rw[a2,List.take_append];have a3:len*esz+n*esz-len*esz=n*esz:=J;have a4:n*esz-zR new'=0:=J;rw[a3,a4,List.take_zero,List.append_nil]
            congr 1
            .rw[List.take_take,Nat.min_eq_right J,List.drop_take,List.drop_drop,List.take_take]
             congr 1
             have hcb':off+len*esz<=zR cs\/len*esz=0:=hcb;omega
            .exact yq J
           rw[key];have hco:=VRL.cut g5 hc;exact VRL.append (VRL.mono hsub _ _ hco) (VRL.mono hsub _ _ hnew)
          .simp only[VR];exact⟨⟨B.b,B.o+off,B.tot-off⟩,k,by simp[Phi.set,U.del],by simp,he,by simpa using hk,hle,yz _⟩
        .have hlt:k<len+n:=J;have hd:=Step.del r Y hg;obtain⟨I',h1,h2,h3,h4⟩:=Vf (w:=w) (xs:=xs.toArray++new'.toArray) (cap:=grownCap w (len+n) k t0) (z:=zx.cells) hd.rel (hd.ext.wf hwf) hf h (by simpa using VRL.append hxs hnew) hlen hzs (kK _ _ _ _)
         refine⟨I',_,_,?_,Step.trans hwf hd h1,h2⟩;exact src.grow t ty i zx (some _) len k xs.toArray h0 ht hi his (hzr _) hlt h4 (lY hlt (by rw[hib];exact h3)) hfd
  .cases h
 .cases h
def ly(z:Nat)(s:ByteArray):(Builtin.firstCells z s.size (.string s)).run P w=.ok (s.data.toList.map λb=>Value.int .u8 (b.toNat:Int)).toArray w:=by
 have e:(s.extract 0 s.size).data=s.data:=by
  apply xi;simp
 simp only[Builtin.firstCells,e,Sem.run_pure]
 congr 1
 apply xi;simp
def LG(r:Rel P X I s.get w)(hwf:Wf s)(hf1:s.next<s'.next->I s.next=none){ts:Array TypeId}{e:TypeId}{d:TypeDesc}{x y z:Z}
  (h0:ts[0]? =some t) (ht:P.underlying t=some (.slice e)) (h1:ts[1]? =some u) (hu:P.underlying u=some d) (hd':d=.string\/∃c,d=.slice c) (hs:jU P e=some esz) (hby:K7 P e=some bytes) (hz:lH P e=some z) (hzl:vC z.cells=esz)
  (h:jo s e esz bytes x y=some (v,s')) (hx:VR I x x') (hy:VR I y y'):
  ∃I' a w',(Builtin.append_ ts ty #[x',y']).run P w=.ok a w'/\Step P X I s w I' s' w'/\VR I' v a:=by
 rw [qT]at hzl;unfold jo at h;have key:∀(n:Nat) (new:zA),gw y=some n->qQ s esz n y=some new->∃new',Src P w ts e esz y' n new'/\VRL I new new'/\zR new=n*esz:=by
  intro n new hn hc;unfold gw at hn;unfold qQ at hc;split at hn
  .cases hn;simp only[wB]at hc;subst hc;simp only[VR]at hy;subst hy;exact⟨[],gA h1 hu hd' hs rfl (run_firstCells_none _ _ _ _ _) (run_firstCells_none _ _ _ _ _),VRL.nil I,by simp⟩
  .cases hn;simp only[wB]at hc;subst hc;simp only[VR]at hy;obtain⟨a,k,rfl⟩:=hy;exact⟨[],gA h1 hu hd' hs rfl (run_firstCells_some w esz 0 a 0 k [] (by simp) (by simp)) (run_firstCells_some w.drew esz 0 a 0 k [] (by simp) (by simp)),VRL.nil I,by simp⟩
  .rename_i Y off len c
   simp only[wB]at hn;subst hn;simp only at hc;split at hc
   .rename_i t0 cs ex fz hg
    simp only[VR]at hy;obtain⟨B,k,hB,rfl,_⟩:=hy;obtain⟨xs,hxs,g1,g2⟩:=Wa (P:=P) (len:=len) (k:=k) r hg hB hc;exact⟨xs,gA h1 hu hd' hs rfl g1 g2,hxs,(cut_some hc).1⟩
   .rename_i cs hg
    simp only[VR]at hy;obtain⟨B,k,hB,rfl,_⟩:=hy;obtain⟨xs,hxs,g1,g2⟩:=bF (P:=P) (len:=len) (k:=k) r hB (show jE [] s (.ptr Y off) (len*esz)=some new by simp only[jE,hg];exact hc)
    exact⟨xs,gA h1 hu hd' hs rfl g1 g2,hxs,(cut_some hc).1⟩
   .cases hc
  .rename_i l
   simp only[wB]at hn;subst hn;cases hb:zI esz 1 with
   |false=>simp only[hb,wK]at hc;cases hc
   | true=>
    simp only[hb,wy,wB]at hc;subst hc;rw[ql]at hb;subst hb;simp only[VR]at hy;obtain⟨bs,rfl,rfl⟩:=hy;have hl:vC (jk bs)=bs.size:=by rw[qT,vO]
    rw[hl];refine⟨bs.data.toList.map λb=>Value.int .u8 (b.toNat:Int),gA h1 hu hd' hs rfl (ly _ bs) (ly _ bs),?_,?_⟩
    .rw[YE,yq (by rw[vO];exact zX _)]
     exact YJ _
    .rw[YE,yq (by rw[vO];exact zX _),l7,vO];omega
  .rename_i m ex cs
   simp only[wB]at hn;subst hn;simp only at hc;obtain⟨_,_,hcl⟩:=lZ hc;simp only[VR]at hy;obtain⟨hp,⟨rfl,a,rfl⟩|⟨b,o,k,ys,rfl,_,_,hz1,hy1⟩⟩:=hy
   .obtain rfl:new=[]:=xg (by rw[hcl];show 0*esz=0;simp)
    cases a with
    |some a=>exact⟨[],gA h1 hu hd' hs rfl (run_firstCells_some w esz 0 a 0 0 [] (by simp) (by simp)) (run_firstCells_some w.drew esz 0 a 0 0 [] (by simp) (by simp)),VRL.nil I,by simp⟩
    |none=>exact⟨[],gA h1 hu hd' hs rfl (run_firstCells_none _ _ _ _ _) (run_firstCells_none _ _ _ _ _),VRL.nil I,by simp⟩
   .obtain⟨xs,hxs,g1,g2⟩:=pO (P:=P) (len:=m) (k:=k) r (by simp only[VR];exact⟨hp,b,o,ys,rfl,hz1,hy1⟩) hc
    exact⟨xs,gA h1 hu hd' hs rfl g1 g2,hxs,hcl⟩
  .rename_i Y e' m cs
   simp only[wB]at hn;subst hn;simp only at hc;obtain⟨_,_,hcl⟩:=lZ hc;simp only[VR]at hy;obtain⟨hp,_,_,_,B,ys,_,rfl,_,hz1,hy1⟩:=hy;obtain⟨xs,hxs,g1,g2⟩:=pO (P:=P) (len:=m) (k:=B.tot/e') r (by simp only[VR];exact⟨hp,B.b,B.o,ys,rfl,hz1,hy1⟩) hc
   exact⟨xs,gA h1 hu hd' hs rfl g1 g2,hxs,hcl⟩
  .cases hn
 cases hn:gw y with
 |none=>rw[hn]at h;simp at h
 | some n=>
  rw[hn]at h;cases n with
  | zero=>
   simp only at h;have hsrc:Src P w ts e esz y' 0 []:=by
    unfold gw at hn;split at hn
    .simp only[VR]at hy;subst hy;exact gA h1 hu hd' hs rfl (run_firstCells_none _ _ _ _ _) (run_firstCells_none _ _ _ _ _)
    .simp only[VR]at hy;obtain⟨a,k,rfl⟩:=hy;exact gA h1 hu hd' hs rfl (run_firstCells_some w esz 0 a 0 k [] (by simp) (by simp)) (run_firstCells_some w.drew esz 0 a 0 k [] (by simp) (by simp))
    .simp only[wB]at hn;subst hn;simp only[VR]at hy;obtain⟨B,k,hB,rfl,_⟩:=hy;exact gA h1 hu hd' hs rfl (run_firstCells_some w esz 0 _ 0 k [] (by simp) (by simp)) (run_firstCells_some w.drew esz 0 _ 0 k [] (by simp) (by simp))
    .simp only[VR]at hy;obtain⟨bs,rfl,rfl⟩:=hy;simp only[wB,qT,vO]at hn;have hl:bs.data.toList=[]:=by
      apply xg;have:bs.data.size=bs.size:=rfl;simp[this,hn]
     have e1:=λw=>ly (P:=P) (w:=w) esz bs;rw[hl,hn]at e1;exact gA h1 hu hd' hs (by simp[Builtin.lenOf,hn]) (e1 w) (e1 w.drew)
    .simp only[wB]at hn;subst hn;simp only[VR]at hy;obtain⟨hp,⟨_,a,rfl⟩|⟨b,o,k,ys,rfl,_⟩⟩:=hy
     .cases a with
      |some a=>exact gA h1 hu hd' hs rfl (run_firstCells_some w esz 0 a 0 0 [] (by simp) (by simp)) (run_firstCells_some w.drew esz 0 a 0 0 [] (by simp) (by simp))
      |none=>exact gA h1 hu hd' hs rfl (run_firstCells_none _ _ _ _ _) (run_firstCells_none _ _ _ _ _)
     .exact gA h1 hu hd' hs rfl (run_firstCells_some w esz 0 _ 0 k [] (by simp) (by simp)) (run_firstCells_some w.drew esz 0 _ 0 k [] (by simp) (by simp))
    .simp only[wB]at hn;subst hn;simp only[VR]at hy;obtain⟨_,_,h0',_⟩:=hy;omega
    .cases hn
   obtain⟨rfl,g1,g2⟩:=mO (ty:=ty) r h0 ht hsrc h hx;exact⟨I,x',w,g1,Step.refl r,g2⟩
  | succ n=>
   simp only at h;cases hc:qQ s esz (Nat.succ n) y with
   |none=>rw[hc]at h;simp at h
   |some new=>
    rw[hc]at h;simp only at h;obtain⟨new',src,g2,g3⟩:=key _ _ hn hc;exact K2 r hwf hf1 h0 ht hs hby hz hzl src J g2 g3 h hx
def mQ(r:Rel P X I s.get w)(hwf:Wf s)(hf1:s.next<s'.next->I s.next=none){ts:Array TypeId}{e:TypeId}{k:IntKind}{x y z:Z}
  (h0:ts[0]? =some t) (ht:P.underlying t=some (.slice e)) (h1:ts[1]? =some u) (hu:P.underlying u=some (.int k)) (hs:jU P e=some esz) (hby:K7 P e=some bytes) (hz:lH P e=some z) (hzl:vC z.cells=esz) (he:1<=esz)
  (h:QG s e esz bytes z.cells x y=some (v,s')) (hx:VR I x x') (hy:VR I y y'):
  ∃I' a w',(Builtin.append_ ts ty #[x',y']).run P w=.ok a w'/\Step P X I s w I' s' w'/\VR I' v a:=by
 obtain⟨zx,hzr,hzv⟩:=uA hz;rw[qT]at hzl;have hzs:zx.cells.size=esz:=by rw[<-hzl,VRL.length (hzv I).cells];simp
 unfold QG at h;split at h
 .cases h
 .rename_i n
  simp only[VR]at hy;subst hy;cases hb:(zM (zK (Nat.succ n) bytes) 281474976710656&&zL n 9223372036854775807)with
  |false=>rw[hb]at h;simp at h
  |true=>
   rw[hb]at h;simp only[wy]at h;simp only[zU,qd,qA]at hb;have src:=zzt (P:=P) (w:=w) (n:=n+1) h1 hu hs hby hzr hzs he J J hb.1;refine K2 r hwf hf1 h0 ht hs hby hz hzl src J (VRL.reps (hzv I).cells _) ?_ h hx;rw[WC,hzl]
 .cases h
def BB{ts:Array TypeId}{e:TypeId}{x:Z}(h0:ts[0]? =some t)(ht:P.underlying t=some (.slice e))(h:EG x=some v)(hx:VR I x x'):
  ∃y,(Builtin.cap_ ts ty #[x']).run P w=.ok y w/\VR I v y:=by
 unfold EG at h;split at h
 .cases h;simp only[VR]at hx;subst hx;exact⟨goInt 0,by simp[Builtin.cap_,h0,wl ht],by simp only[VR];rfl⟩
 .rename_i Y off len n
  cases h;simp only[VR]at hx;obtain⟨B,k,hB,rfl,rfl⟩:=hx;exact⟨goInt k,by simp[Builtin.cap_,h0,wl ht],by simp only[VR];rfl⟩
 .cases h
def ku(P:Program)(X:World)(I:Phi)(s:U)(w:World)(a:Act)(o:Oper)(v:Z)(s':U):Prop:=
 ∃I' x w',((execOp a.eval o).run P w=.ok (.value x) w'\/(execOp a.eval o).run P w=.ok .skip w'/\x=undef)/\Step P X I s w I' s' w'/\VR I' v x
def Qt(I:Phi):VR I vJ undef:=by simp only[vJ,VR];exact⟨[],rfl,VRL.nil I⟩
def Q6{I':Phi}{o:Oper}{x:Value}{S:Sem Value}(e:execOp a.eval o=(do pure (.value (<-S))))(h:S.run P w=.ok x w')(hs:Step P X I s w I' s' w')(hv:VR I' v x):ku P X I s w a o v s':=
 ⟨I',x,w',.inl (by rw[e];simp[h]),hs,hv⟩
def nL{I':Phi}{o:Oper}{S:Sem Unit}(e:execOp a.eval o=(do S;pure .skip))(h:S.run P w=.ok () w')(hs:Step P X I s w I' s' w')(hv:v=vJ):ku P X I s w a o v s':=
 ⟨I',undef,w',.inr ⟨by rw[e];simp[h],rfl⟩,hs,hv▸Qt I'⟩
def uH{o:Oper}{S:Sem Value}(r:Rel P X I s.get w)(e:execOp a.eval o=(do pure (.value (<-S))))(hs:s'=s)(h:∃x,S.run P w=.ok x w/\VR I v x):ku P X I s w a o v s':=by
 obtain⟨x,h1,h2⟩:=h;subst hs;exact Q6 e h1 (Step.refl r) h2
def YT{o:Oper}{S:Sem Value}(e:execOp a.eval o=(do pure (.value (<-S))))(h:∃I' x w',S.run P w=.ok x w'/\Step P X I s w I' s' w'/\VR I' v x):ku P X I s w a o v s':=by
 obtain⟨I',x,w',h1,h2,h3⟩:=h;exact Q6 e h1 h2 h3
section
variable {A:zB}{s s':U}{v:Z}
def kj{x:zC}(h:Zt s x=some (v,s')):x=some v/\s'=s:=by
 cases x with
 |none=>simp[Zt]at h
 |some u=>simp only[Zt,wB,qj]at h;exact⟨by rw[h.1],h.2.symm⟩
def qS{x:Opd}{f:Z->zC}(h:v1 A s x f=some (v,s')):∃u,x.ev A=some u/\f u=some v/\s'=s:=by
 unfold v1 at h;split at h
 .rename_i u hu;obtain⟨h1,h2⟩:=kj h;exact⟨u,hu,h1,h2⟩
 .cases h
def jm{x y:Opd}{f:Z->Z->zC}(h:v2 A s x y f=some (v,s')):∃u z,x.ev A=some u/\y.ev A=some z/\f u z=some v/\s'=s:=by
 unfold v2 at h;split at h
 .rename_i u hu
  split at h
  .rename_i z hz;obtain⟨h1,h2⟩:=kj h;exact⟨u,z,hu,hz,h1,h2⟩
  .cases h
 .cases h
def ky{x:Opd}{f:Z->zc}(h:o1 A x f=some (v,s')):∃u,x.ev A=some u/\f u=some (v,s'):=by
 unfold o1 at h;split at h
 .rename_i u hu;exact⟨u,hu,h⟩
 .cases h
def gq{x y:Opd}{f:Z->Z->zc}(h:o2 A x y f=some (v,s')):∃u z,x.ev A=some u/\y.ev A=some z/\f u z=some (v,s'):=by
 unfold o2 at h;split at h
 .rename_i u hu
  split at h
  .rename_i z hz;exact⟨u,z,hu,hz,h⟩
  .cases h
 .cases h
def co{x y z:Opd}{f:Z->Z->Z->zc}(h:o3 A x y z f=some (v,s')):∃a b c,x.ev A=some a/\y.ev A=some b/\z.ev A=some c/\f a b c=some (v,s'):=by
 unfold o3 at h;split at h
 .rename_i a ha
  split at h
  .rename_i b hb
   split at h
   .rename_i c hc;exact⟨a,b,c,ha,hb,hc,h⟩
   .cases h
  .cases h
 .cases h
def KM{x:Opd}{lo hi:Option Opd}{f:Z->zC->zC->zC}(h:vs3 A s x lo hi f=some (v,s')):∃a b c,x.ev A=some a/\evO A lo=some b/\evO A hi=some c/\f a b c=some v/\s'=s:=by
 unfold vs3 at h;split at h
 .rename_i a ha
  split at h
  .rename_i b hb
   split at h
   .rename_i c hc;obtain⟨h1,h2⟩:=kj h;exact⟨a,b,c,ha,hb,hc,h1,h2⟩
   .cases h
  .cases h
 .cases h
def dr{x:Opd}{lo hi mx:Option Opd}{f:Z->zC->zC->zC->zC}(h:vs4 A s x lo hi mx f=some (v,s')):∃a b c d,x.ev A=some a/\evO A lo=some b/\evO A hi=some c/\evO A mx=some d/\f a b c d=some v/\s'=s:=by
 unfold vs4 at h;split at h
 .rename_i d hd
  obtain⟨a,b,c,h1,h2,h3,h4,h5⟩:=KM h;exact⟨a,b,c,d,h1,h2,h3,hd,h4,h5⟩
 .cases h
def dl{l m:List Opd}{f:zA->zA->zC}(h:vLL A s l m f=some (v,s')):∃a b,evL A l=some a/\evL A m=some b/\f a b=some v/\s'=s:=by
 unfold vLL at h;split at h
 .rename_i a ha
  split at h
  .rename_i b hb;obtain⟨h1,h2⟩:=kj h;exact⟨a,b,ha,hb,h1,h2⟩
  .cases h
 .cases h
def eV{x:Option Opd}{b:zC}(h:evO A x=some b):(x=none↔b=none):=by
 cases x with
 |none=>simp[evO]at h;simp[<-h]
 |some y=>
  simp only[evO]at h;cases hy:y.ev A with
  |none=>rw[hy]at h;simp at h
  |some u=>rw[hy]at h;simp at h;simp[<-h]
end
def jN(h:s.alloc o=s'):s.next<s'.next:=by subst h;exact Nat.lt_succ_self _
def Dr{len:Nat}{x:Option zA}(h:Uo s e len x=some (v,s')):s.next<=s'.next:=by
 cases x with
 |none=>simp[Uo]at h
 |some l=>
  simp only[Uo]at h;cases hb:(s.md&&wL l)with
  |true=>rw[hb]at h;simp only[wy,wB,qj]at h;rw[h.2];exact zX _
  |false=>rw[hb]at h;simp only[wK,wB,qj]at h;exact Nat.le_of_lt (jN h.2)
def PV{z:zA}{l c:Z}(h:Lo s e b z l c=some (v,s')):s.next<s'.next:=by
 unfold Lo at h;split at h
 .rename_i l
  split at h
  .rename_i c
   cases hb:(zM l c&&zM (zK c b) 281474976710656&&zL c 9223372036854775808)with
   |false=>rw[hb]at h;simp at h
   |true=>rw[hb]at h;simp only[wy,wB,qj]at h;exact jN h.2
  .cases h
 .cases h
def Ds{x:Z}(h:Kh s e x=some (v,s')):s.next<=s'.next:=by
 unfold Kh at h;split at h
 .rename_i t
  cases hb:zL (vC t) 9223372036854775808 with
  |false=>rw[hb]at h;simp at h
  |true=>
   rw[hb]at h;simp only[wy]at h;cases hm:s.md with
   |true=>rw[hm]at h;simp only[wy,wB,qj]at h;rw[h.2];exact zX _
   |false=>rw[hm]at h;simp only[wK,wB,qj]at h;exact Nat.le_of_lt (jN h.2)
 .cases h
def im{x:Z}(h:oRs s x=some (v,s')):s.next<s'.next:=by
 unfold oRs at h;split at h
 .simp only[wB,qj]at h;exact jN h.2
 .cases h
def il{x:Z}(h:oRm s x=some (v,s')):s.next<s'.next:=by
 unfold oRm at h;split at h
 .simp only[wB,qj]at h;exact jN h.2
 .split at h
  .simp only[wB,qj]at h;exact jN h.2
  .cases h
 .cases h
def fN{α:Type}{a:Array α}{x y:α}(h:a.toList=[x,y]):a=#[x,y]:=by apply Array.ext';exact h
def fM{α:Type}{a:Array α}{x:α}(h:a.toList=[x]):a=#[x]:=by apply Array.ext';exact h
theorem Uj{α:Type}{a:Array α}{x:α}{l:List α}(h:a.toList=x::l):a[0]? =some x:=by rw[<-Array.getElem?_toList,h];rfl
theorem MB{α:Type}{a:Array α}{x y:α}{l:List α}(h:a.toList=x::y::l):a[1]? =some y:=by rw[<-Array.getElem?_toList,h];rfl
theorem bD{o:Oper}{c:Call}{b:Builtin}(ho:o.op=.call c)(hc:c.callee=.builtin b):execOp a.eval o=(builtin b c.argTypes o.type (c.args.map λ|.const _=>true|_=>false) (c.args.map a.eval)):=by
 unfold execOp;rw[ho];simp only[resolve,hc];rfl
def Vm{P:Program}{w:World}{I:Phi}:∀{r:zA} {x v:Z} {x':Value} {ys:zE},b7 false x r=some v->VR I x x'->VRL I r ys->∃z,(ys.foldlM Builtin.min2 x').run P w=.ok z w/\VR I v z
 |[],x,v,x',ys,h,hx,hr=>by
  simp only[b7,wB]at h;subst h;simp only[VRL]at hr;subst hr;exact⟨x',by simp,hx⟩
 | y::r,x,v,x',ys,h,hx,hr=>by
  simp only[VRL]at hr;obtain⟨y',ys',rfl,hy,hr⟩:=hr;cases x<;>cases y<;>simp only[b7]at h<;>first|(cases h;done)|skip
  rename_i k a k' b
  simp only[VR]at hx hy;subst hx;subst hy;simp only[wK,pB]at h;have hm:(Builtin.min2 (.int k a) (.int k' b))=pure (.int k (if b<a then b else a)):=rfl;simp only[List.foldlM_cons,hm];by_cases hb:b<a
  .rw[qL hb]at h;simp only[wy]at h;rw[wH hb];obtain⟨z,g1,g2⟩:=Vm (P:=P) (w:=w) (x':=.int k b) h (by simp only[VR]) hr
   exact⟨z,by simpa using g1,g2⟩
  .rw[qy hb]at h;simp only[wK]at h;rw[wx hb];obtain⟨z,g1,g2⟩:=Vm (P:=P) (w:=w) (x':=.int k a) h (by simp only[VR]) hr
   exact⟨z,by simpa using g1,g2⟩
def Vj{P:Program}{w:World}{I:Phi}:∀{r:zA} {x v:Z} {x':Value} {ys:zE},b7 true x r=some v->VR I x x'->VRL I r ys->∃z,(ys.foldlM Builtin.max2 x').run P w=.ok z w/\VR I v z
 |[],x,v,x',ys,h,hx,hr=>by
  simp only[b7,wB]at h;subst h;simp only[VRL]at hr;subst hr;exact⟨x',by simp,hx⟩
 | y::r,x,v,x',ys,h,hx,hr=>by
  simp only[VRL]at hr;obtain⟨y',ys',rfl,hy,hr⟩:=hr;cases x<;>cases y<;>simp only[b7]at h<;>first|(cases h;done)|skip
  rename_i k a k' b
  simp only[VR]at hx hy;subst hx;subst hy;simp only[wy,pB]at h;have hm:(Builtin.max2 (.int k a) (.int k' b))=pure (.int k (if b>a then b else a)):=rfl;simp only[List.foldlM_cons,hm];by_cases hb:a<b
  .rw[qL hb]at h;simp only[wy]at h;rw[wH hb];obtain⟨z,g1,g2⟩:=Vj (P:=P) (w:=w) (x':=.int k b) h (by simp only[VR]) hr
   exact⟨z,by simpa using g1,g2⟩
  .rw[qy hb]at h;simp only[wK]at h;rw[wx J];obtain⟨z,g1,g2⟩:=Vj (P:=P) (w:=w) (x':=.int k a) h (by simp only[VR]) hr
   exact⟨z,by simpa using g1,g2⟩
def zwQ{ts:Array TypeId}{xs:zE}(h:vMn false l=some v)(hx:VRL I l xs):∃z,(Builtin.min_ ts ty xs.toArray).run P w=.ok z w/\VR I v z:=by
 cases l with
 |nil=>simp[vMn]at h
 |cons x r=>
  simp only[VRL]at hx;obtain⟨y,ys,rfl,h1,h2⟩:=hx;exact Vm h h1 h2
def zwR{ts:Array TypeId}{xs:zE}(h:vMn true l=some v)(hx:VRL I l xs):∃z,(Builtin.max_ ts ty xs.toArray).run P w=.ok z w/\VR I v z:=by
 cases l with
 |nil=>simp[vMn]at h
 |cons x r=>
  simp only[VRL]at hx;obtain⟨y,ys,rfl,h1,h2⟩:=hx;exact Vj h h1 h2
def zvP{A:zB}{l:List Opd}{f:zA->zC}(h:vL A s l f=some (v,s')):∃a,evL A l=some a/\f a=some v/\s'=s:=by
 unfold vL at h;cases hl:evL A l with
 |none=>rw[hl]at h;cases h
 |some a=>rw[hl]at h;obtain⟨h1,h2⟩:=kj h;exact⟨a,rfl,h1,h2⟩
def JQ(c:UInt8):∀(l:List UInt8) (i:Nat),eZ c.toNat (l.map (·.toNat)) i=(l.findIdx? (· ==c)).map (· +i)
 |[],i=>rfl
 | b::l,i=>by
  simp only[ye,eZ,List.findIdx?_cons];by_cases hb:b=c
  .subst hb;simp
  .have h1:zI b.toNat c.toNat=false:=by
    cases h:zI b.toNat c.toNat with
    |false=>rfl
    |true=>exact absurd (UInt8.toNat_inj.1 (ql.1 h)) hb
   rw[h1,JQ c l (i+1)];simp only[wK,beq_iff_eq,hb,if_false,Option.map_map];cases l.findIdx? (· ==c)<;>simp<;>omega
def Ln:Extern.allNextRows.lookup "internal/abi.NoEscape"=none:=by kernel_rfl
def Hm:Extern.allNextRows.lookup ""=none:=by kernel_rfl
def bR:Extern.allGenericRows.lookup "internal/abi.NoEscape"=none:=by kernel_rfl
def HW:Extern.allTypedRows.lookup "internal/abi.NoEscape"=none:=by kernel_rfl
def Lr:Extern.allRows.lookup "internal/abi.NoEscape"=some Extern.AbiNoEscape.same:=by kernel_rfl
def MR:Extern.allNextRows.lookup "internal/bytealg.IndexByteString"=none:=by kernel_rfl
def Tk:Extern.allGenericRows.lookup "internal/bytealg.IndexByteString"=none:=by kernel_rfl
def EB:Extern.allTypedRows.lookup "internal/bytealg.IndexByteString"=none:=by kernel_rfl
def Oh:Extern.allRows.lookup "internal/bytealg.IndexByteString"=some Extern.BytealgIndexByte.indexByte:=by kernel_rfl
theorem Lh{fn:Func}(h:fn.name= "internal/abi.NoEscape")(ho:fn.origin= ""):Extern.findNext fn=none/\Extern.find fn=some Extern.AbiNoEscape.same:=by
 constructor
 .simp only[Extern.findNext,h,ho,Ln,Hm,xu];rfl
 .simp only[Extern.find,h,bR,HW,Lr,xu];rfl
theorem IM{fn:Func}(h:fn.name= "internal/bytealg.IndexByteString")(ho:fn.origin= ""):Extern.findNext fn=none/\Extern.find fn=some Extern.BytealgIndexByte.indexByte:=by
 constructor
 .simp only[Extern.findNext,h,ho,MR,Hm,xu];rfl
 .simp only[Extern.find,h,Tk,EB,Oh,xu];rfl
def HH{f:Nat}{fn:Func}{g:zr->Sem Value}{xs:zr}{z:Value}(hf:P.funcs[f]? =some fn)(hb:fn.body.isNone=true)(hn:(fn.name== "runtime.NumGoroutine")=false)(h1:Extern.findNext fn=none)(h2:Extern.find fn=some g)
  (hg:(g xs).run P w=.ok z w):(callFunc f xs).run P w=.ok (.value z) w:=by
 have hn':fn.name≠ "runtime.NumGoroutine":=by simpa using hn
 have hb':fn.body=none:=by simpa using hb
 simp[callFunc,hf,hn',hb',h1,h2,hg]
def Po{P:Program}{w:World}{a:Act}{o:Oper}{c:Call}{f:Nat}{x:Next}(ho:o.op=.call c)(hc:c.callee=.value (.func f))(h:(callFunc f (c.args.map a.eval)).run P w=.ok x w'):(execOp a.eval o).run P w=.ok x w':=by
 unfold execOp;rw[ho];simp[resolve,hc,Act.eval,Deferred.ofValue,invoke,h]
def oG(b:ByteArray)(c:UInt8):(List.range b.size).find? (λi=>b[i]! ==c)=b.data.toList.findIdx? (· ==c):=by
 have key:∀(l:List UInt8) (k:Nat) (n:Nat),zR l=n->(∀i,i<n->b[k+i]! =l[i]?.getD 0)->(List.range' k n).find? (λi=>b[i]! ==c)=(l.findIdx? (· ==c)).map (· +k):=by
  intro l
  induction l with
  |nil=>intro k n hn _;simp at hn;subst hn;rfl
  | cons x l ih=>
   intro k n hn hb;cases n with
   |zero=>simp at hn
   | succ n=>
    have h0:=hb 0 J;simp at h0;rw[List.range'_succ,List.find?_cons,List.findIdx?_cons,h0];by_cases hx:x=c
    .subst hx;simp
    .have hxb:(x==c)=false:=by simpa using hx
     rw[hxb];simp only[Bool.false_eq_true,if_false];rw[ih (k+1) n (by simpa using hn) (λi hi=>by have:=hb (i+1) J;rw[show k+(i+1)=k+1+i by omega]at this;simpa using this)]
     cases l.findIdx? (· ==c)<;>simp<;>omega
 have:=key b.data.toList 0 b.size (by simp) (λi hi=>by
  have hi':i<zR b.data.toList:=by simpa using hi
  simp only[xB];rw[xj hi',Option.getD_some];show b[i]! =_;rw[getElem!_pos b i hi];rfl)
 rw[List.range_eq_range',this];cases b.data.toList.findIdx? (· ==c)<;>simp
def Dd{x c:Z}{c':Value}(h:zwl x c=some v)(hx:VR I x x')(hc:VR I c c'):∃z,(Extern.BytealgIndexByte.indexByte #[x',c']).run P w=.ok z w/\VR I v z:=by
 unfold zwl at h;split at h
 .rename_i t
  split at h
  .rename_i c
   simp only[VR]at hx hc;obtain⟨bs,rfl,rfl⟩:=hx;subst hc;cases hb:zL c 256 with
   |false=>rw[hb]at h;simp at h
   |true=>
   rw[hb]at h;simp only[wy]at h;have hlt:c<256:=qA.1 hb;have hu:((c.toUInt8).toNat)=c:=by rw[Nat.toUInt8,UInt8.toNat_ofNat'];exact Nat.mod_eq_of_lt hlt
   have hf:=JQ c.toUInt8 bs.data.toList 0;rw[hu]at hf;have hf':eZ c (jk bs) 0=(bs.data.toList.findIdx? (· ==c.toUInt8)).map (· +0):=hf;rw[hf']at h
   have hd:Extern.BytealgIndexByte.indexByte #[.string bs,.int .u8 (Int.ofNat c)]=(do
    let b <-Extern.Bytes.bytesOf (.string bs)
    let c <-Extern.Bytes.asByte (.int .u8 (Int.ofNat c))
    match (List.range b.size).find? λi=>b[i]! ==c with
    |some i=>pure (goInt i)
    |none=>pure (goInt (-1))):=rfl
   rw[hd];simp only[Extern.Bytes.bytesOf,Extern.Bytes.asByte,pure_bind];have e1:(Int.ofNat c).toNat.toUInt8=c.toUInt8:=rfl;rw[e1,oG];cases hi:bs.data.toList.findIdx? (· ==c.toUInt8)with
   |none=>rw[hi]at h;simp at h;subst h;exact⟨goInt (-1),by simp,by simp only[VR];rfl⟩
   |some i=>rw[hi]at h;simp at h;subst h;exact⟨goInt i,by simp,by simp only[VR];rfl⟩
  .cases h
 .cases h
section
variable {P:Program}{X:World}{I:Phi}{s s':U}{w:World}{A:zB}{a:Act}{o:Oper}{v:Z}{E:Env}
def qO{x:Opd}{l:List Opd}(ht:TmOn I (Opd.tmps l) A a)(hx:x∈l):TmOn I x.tmp A a:=
 ht.sub λ_t h=>List.mem_flatMap.2 ⟨x,hx,h⟩
def WL{m l:List Opd}(ht:TmOn I (Opd.tmps l) A a)(hx:∀x∈m,x∈l):TmOn I (Opd.tmps m) A a:=
 ht.sub λt h=>by
  obtain⟨x,h1,h2⟩:=List.mem_flatMap.1 h;exact List.mem_flatMap.2 ⟨x,hx x h1,h2⟩
def aZ{b:Builtin}{c:Call}{op:IOp}(_hG:qm E.globs X)(ho:o.op=.call c)(hcb:c.callee=.builtin b)(hc:XV P b c.argTypes.toList c.args.toList=some op)(h:opv E op A s=some (v,s'))
  (r:Rel P X I s.get w) (hwf:Wf s) (hf:s.next<s'.next->I s.next=none) (ht:TmOn I (Opd.tmps op.opds) A a):ku P X I s w a o v s':=by
 have he:=bD (a:=a) ho hcb;unfold XV at hc;split at hc
 · --len
  rename_i t rest x hts hxs
  have h0:=Uj hts;have hx:=fM hxs;have he':execOp a.eval o=(do pure (.value (<-Builtin.len_ c.argTypes o.type #[a.eval x]))):=by rw[he,hx];simp only[builtin,xc,ye,xA]
  split at hc
  .rename_i hu
   obtain⟨y,hy,rfl⟩:=Option.map_eq_some_iff.1 hc;simp only[opv]at h;obtain⟨u,h1,h2,h3⟩:=qS h;exact uH r he' h3 (Ja (k:=.s) r h0 hu h2 (wM hy h1 (qO ht (by simp[IOp.opds]))))
  .rename_i e hu
   obtain⟨y,hy,rfl⟩:=Option.map_eq_some_iff.1 hc;simp only[opv]at h;obtain⟨u,h1,h2,h3⟩:=qS h;exact uH r he' h3 (Ja (k:=.v) r h0 ⟨e,hu⟩ h2 (wM hy h1 (qO ht (by simp[IOp.opds]))))
  .rename_i k e hu
   obtain⟨y,hy,rfl⟩:=Option.map_eq_some_iff.1 hc;simp only[opv]at h;obtain⟨u,h1,h2,h3⟩:=qS h;exact uH r he' h3 (Ja (k:=.m) r h0 ⟨k,e,hu⟩ h2 (wM hy h1 (qO ht (by simp[IOp.opds]))))
  .cases hc
 · --cap
  rename_i t rest x hts hxs
  have h0:=Uj hts;have hx:=fM hxs;have he':execOp a.eval o=(do pure (.value (<-Builtin.cap_ c.argTypes o.type #[a.eval x]))):=by rw[he,hx];simp only[builtin,xc,ye,xA]
  split at hc
  .rename_i e hu
   obtain⟨y,hy,rfl⟩:=Option.map_eq_some_iff.1 hc;simp only[opv]at h;obtain⟨u,h1,h2,h3⟩:=qS h;exact uH r he' h3 (BB h0 hu h2 (wM hy h1 (qO ht (by simp[IOp.opds]))))
  .cases hc
 · -- append
  rename_i t u rest x y hts hxs
  have h0:=Uj hts;have h1:=MB hts;have hx:=fN hxs;have he':execOp a.eval o=(do pure (.value (<-Builtin.append_ c.argTypes o.type #[a.eval x,a.eval y]))):=by rw[he,hx];simp only[builtin,xc,ye,xA]
  split at hc
  .rename_i e hu
   split at hc
   .rename_i k huk
    split at hc
    .rename_i sz by_ z xa ya q1 q2 q3 q4 q5
     cases hb:(zI (vC z.cells) sz&&zM 1 sz)with
     |false=>rw[hb]at hc;simp at hc
     |true=>
      rw[hb]at hc;simp only[wy,wB]at hc;subst hc;simp only[zU,ql,qd]at hb;simp only[opv]at h;obtain⟨m,n,g1,g2,g3⟩:=gq h;exact YT he' (mQ r hwf hf h0 hu h1 huk q1 q2 q3 hb.1 hb.2 g3 (wM q4 g1 (qO ht (by simp[IOp.opds]))) (wM q5 g2 (qO ht (by simp[IOp.opds]))))
    .cases hc
   .rename_i huk
    split at hc
    .rename_i by_ z xa ya q1 q2 q3 q4 q5
     cases hb:zI (vC z.cells) 1 with
     |false=>rw[hb]at hc;simp at hc
     |true=>
      rw[hb]at hc;simp only[wy,wB]at hc;subst hc;simp only[ql]at hb;simp only[opv]at h;obtain⟨m,n,g1,g2,g3⟩:=gq h;exact YT he' (LG r hwf hf h0 hu h1 huk (.inl rfl) q1 q2 q3 hb g3 (wM q4 g1 (qO ht (by simp[IOp.opds]))) (wM q5 g2 (qO ht (by simp[IOp.opds]))))
    .cases hc
   .rename_i k huk
    split at hc
    .rename_i sz by_ z xa ya q1 q2 q3 q4 q5
     cases hb:zI (vC z.cells) sz with
     |false=>rw[hb]at hc;simp at hc
     |true=>
      rw[hb]at hc;simp only[wy,wB]at hc;subst hc;simp only[ql]at hb;simp only[opv]at h;obtain⟨m,n,g1,g2,g3⟩:=gq h;exact YT he' (LG r hwf hf h0 hu h1 huk (.inr ⟨_,rfl⟩) q1 q2 q3 hb g3 (wM q4 g1 (qO ht (by simp[IOp.opds]))) (wM q5 g2 (qO ht (by simp[IOp.opds]))))
    .cases hc
   .cases hc
  .cases hc
 · --delete
  rename_i t rest m k hts hxs
  have h0:=Uj hts;have hx:=fN hxs;have he':execOp a.eval o=(do pure (.value (<-Builtin.delete_ c.argTypes o.type #[a.eval m,a.eval k]))):=by rw[he,hx];simp only[builtin,xc,ye,xA]
  split at hc
  .rename_i kt e hu
   split at hc
   .rename_i f ma ka q1 q2 q3
    cases hc;simp only[opv]at h;obtain⟨x,y,g1,g2,g3⟩:=gq h;obtain⟨rfl,w',g4,g5⟩:=ML (P:=P) (ty:=o.type) r h0 hu q1 g3 (wM q2 g1 (qO ht (by simp[IOp.opds]))) (wM q3 g2 (qO ht (by simp[IOp.opds])))
    exact Q6 he' g4 g5 (Qt I)
   .cases hc
  .cases hc
 .cases hc
end
section
variable {P:Program}{X:World}{I:Phi}{s s':U}{w:World}{A:zB}{a:Act}{o:Oper}{v:Z}{E:Env}
def zzk{u:Z}(ho:o.op=.nilCheck x)(h:Rn u=some v)(hx:VR I u (a.eval x)):(execOp a.eval o).run P w=.ok (.value (a.eval x)) w/\v=u:=by
 unfold Rn at h;split at h
 .cases h;simp only[VR]at hx;obtain⟨B,_,e⟩:=hx;exact⟨by simp[execOp,ho,e],rfl⟩
 .cases h;simp only[VR]at hx;exact⟨by simp[execOp,ho,hx],rfl⟩
 .cases h;simp only[VR]at hx;obtain⟨_,_,e,_⟩:=hx;exact⟨by simp[execOp,ho,e],rfl⟩
 .cases h;simp only[VR]at hx;obtain⟨B,_,e⟩:=hx;exact⟨by simp[execOp,ho,e],rfl⟩
 .cases h;simp only[VR]at hx;obtain⟨B,_,e⟩:=hx;exact⟨by simp[execOp,ho,e],rfl⟩
 .cases h;simp only[VR]at hx;obtain⟨_,b,o',ys,e,_⟩:=hx;exact⟨by simp[execOp,ho,e],rfl⟩
 .cases h
def BX{op:IOp}(_hG:qm E.globs X)(ho:o.op=.move x)(hc:vv P (.move x)=some op)(h:opv E op A s=some (v,s'))
  (r:Rel P X I s.get w) (hwf:Wf s) (hf:s.next<s'.next->I s.next=none) (ht:TmOn I (Opd.tmps op.opds) A a):ku P X I s w a o v s':=by
 simp only[vv]at hc;obtain⟨y,hy,rfl⟩:=Option.map_eq_some_iff.1 hc;simp only[opv]at h;obtain⟨u,h1,h2,rfl⟩:=qS h;simp only[wB]at h2;subst h2;exact⟨I,a.eval x,w,.inl (by unfold execOp;rw[ho];simp),Step.refl r,wM hy h1 (qO ht (by simp[IOp.opds]))⟩
def eE{op:IOp}(_hG:qm E.globs X)(ho:o.op=.assign x)(hc:vv P (.assign x)=some op)(h:opv E op A s=some (v,s'))
  (r:Rel P X I s.get w) (hwf:Wf s) (hf:s.next<s'.next->I s.next=none) (ht:TmOn I (Opd.tmps op.opds) A a):ku P X I s w a o v s':=by
 simp only[vv]at hc;obtain⟨y,hy,rfl⟩:=Option.map_eq_some_iff.1 hc;simp only[opv]at h;obtain⟨u,h1,h2,rfl⟩:=qS h;simp only[wB]at h2;subst h2;exact⟨I,a.eval x,w,.inl (by unfold execOp;rw[ho];simp),Step.refl r,wM hy h1 (qO ht (by simp[IOp.opds]))⟩
def BY{c:Operand}{op:IOp}(_hG:qm E.globs X)(ho:o.op=.pick c x y)(hc:vv P (.pick c x y)=some op)(h:opv E op A s=some (v,s'))
  (r:Rel P X I s.get w) (hwf:Wf s) (hf:s.next<s'.next->I s.next=none) (ht:TmOn I (Opd.tmps op.opds) A a):ku P X I s w a o v s':=by
 simp only[vv]at hc;split at hc
 .rename_i cc cx cy q1 q2 q3
  cases hc;simp only[opv]at h;obtain⟨h1,rfl⟩:=kj h;unfold aK at h1;split at h1
  .rename_i hb
   have hcv:=wM (I:=I) (a:=a) q1 hb (qO ht (by simp[IOp.opds]))
   simp only[VR]at hcv;exact⟨I,a.eval x,w,.inl (by unfold execOp;rw[ho];simp[hcv,asBool]),Step.refl r,wM q2 h1 (qO ht (by simp[IOp.opds]))⟩
  .rename_i hb
   have hcv:=wM (I:=I) (a:=a) q1 hb (qO ht (by simp[IOp.opds]))
   simp only[VR]at hcv;exact⟨I,a.eval y,w,.inl (by unfold execOp;rw[ho];simp[hcv,asBool]),Step.refl r,wM q3 h1 (qO ht (by simp[IOp.opds]))⟩
  .cases h1
 .cases hc
def nB{op:IOp}(_hG:qm E.globs X)(ho:o.op=.alloc t)(hc:vv P (.alloc t)=some op)(h:opv E op A s=some (v,s'))
  (r:Rel P X I s.get w) (hwf:Wf s) (hf:s.next<s'.next->I s.next=none) (ht:TmOn I (Opd.tmps op.opds) A a):ku P X I s w a o v s':=by
 simp only[vv]at hc;obtain⟨z,hz,rfl⟩:=Option.map_eq_some_iff.1 hc;simp only[opv]at h;have hn:s.next<s'.next:=by unfold Jh Wv at h;simp only[wB,qj]at h;exact jN h.2
 exact YT (S:=Instr.alloc t true (.tuple #[])) (by unfold execOp;rw[ho]) (dC r hwf (hf hn) hz h)
def FU{op:IOp}(_hG:qm E.globs X)(ho:o.op=.box t x)(hc:vv P (.box t x)=some op)(h:opv E op A s=some (v,s'))
  (r:Rel P X I s.get w) (hwf:Wf s) (hf:s.next<s'.next->I s.next=none) (ht:TmOn I (Opd.tmps op.opds) A a):ku P X I s w a o v s':=by
 simp only[vv]at hc;obtain⟨y,hy,rfl⟩:=Option.map_eq_some_iff.1 hc;simp only[opv]at h;obtain⟨u,h1,h2⟩:=ky h;have hn:s.next<s'.next:=by unfold ij at h2;simp only[wB,qj]at h2;exact jN h2.2
 exact YT (S:=Instr.box t (a.eval x)) (by unfold execOp;rw[ho]) (Bv r hwf (hf hn) h2 (wM hy h1 (qO ht (by simp[IOp.opds]))))
def nD{ps:Array (Nat×Operand)}{op:IOp}(_hG:qm E.globs X)(ho:o.op=.build t ps)(hc:vv P (.build t ps)=some op)(h:opv E op A s=some (v,s'))
  (r:Rel P X I s.get w) (_hwf:Wf s) (_hf:s.next<s'.next->I s.next=none) (ht:TmOn I (Opd.tmps op.opds) A a):ku P X I s w a o v s':=by
 simp only[vv]at hc;split at hc
 .rename_i z fs hz hu
  cases hb:fs.toList.all (λf=>(jU P f.type).isSome)with
  |false=>rw[hb]at hc;simp at hc
  | true=>
   rw[hb]at hc;simp only[wy]at hc;obtain⟨qs,hq,rfl⟩:=Option.map_eq_some_iff.1 hc;simp only[opv]at h;obtain⟨h1,h2⟩:=kj h;cases hfc:lx z.cells A qs with
   |none=>rw[hfc]at h1;simp[VJ]at h1
   |some cs=>
    rw[hfc]at h1;simp only[VJ,wB]at h1;subst h1;exact uH r (S:=Instr.build t (ps.map λ(i,x)=>(i,a.eval x))) (by unfold execOp;rw[ho]) h2 (aY hu hz hb hq hfc ht)
 .rename_i z n e hz hu
  split at hc
  .rename_i sz hs
   obtain⟨qs,hq,rfl⟩:=Option.map_eq_some_iff.1 hc;simp only[opv]at h;obtain⟨h1,h2⟩:=kj h;cases hfc:lx z.cells A qs with
   |none=>rw[hfc]at h1;simp[VJ]at h1
   |some cs=>
    rw[hfc]at h1;simp only[VJ,wB]at h1;subst h1;exact uH r (S:=Instr.build t (ps.map λ(i,x)=>(i,a.eval x))) (by unfold execOp;rw[ho]) h2 (dI hu hz hs hq hfc ht)
  .cases hc
 .cases hc
def J7{len:Nat}{ps:Array (Nat×Operand)}{op:IOp}(_hG:qm E.globs X)(ho:o.op=.buildSlice t len ps)(hc:vv P (.buildSlice t len ps)=some op)(h:opv E op A s=some (v,s'))
  (r:Rel P X I s.get w) (hwf:Wf s) (hf:s.next<s'.next->I s.next=none) (ht:TmOn I (Opd.tmps op.opds) A a):ku P X I s w a o v s':=by
 simp only[vv]at hc;split at hc
 .rename_i e hu
  split at hc
  .rename_i sz z hs hz
   cases hb:(zM (len*sz) 16777216&&zI (vC z.cells) sz&&zM 1 sz)with
   |false=>rw[hb]at hc;simp at hc
   |true=>
    rw[hb]at hc;simp only[wy]at hc;obtain⟨qs,hq,rfl⟩:=Option.map_eq_some_iff.1 hc;simp only[opv]at h;have:=Bw (P:=P) (X:=X) (I:=I) (s:=s) (s':=s') (w:=w) (t:=t) (e:=e) (n:=sz) (len:=len) (z:=z) (v:=v) (ps:=ps) (qs:=qs) (A:=A) (a:=a) r hwf hf hu hs hz hb hq h ht;obtain⟨I',x,w',k1,k2,k3⟩:=this;exact⟨I',x,w',.inl (by simp only[execOp,ho,Sem.run_bind,k1,Result.andThen_ok,Sem.run_pure]),k2,k3⟩
  .cases hc
 .cases hc
def BW{op:IOp}(hG:qm E.globs X)(ho:o.op=.load t x)(hc:vv P (.load t x)=some op)(h:opv E op A s=some (v,s'))
  (r:Rel P X I s.get w) (_hwf:Wf s) (_hf:s.next<s'.next->I s.next=none) (ht:TmOn I (Opd.tmps op.opds) A a):ku P X I s w a o v s':=by
 simp only[vv]at hc;split at hc
 .rename_i n y q1 q2 q3
  cases hc;simp only[opv]at h;obtain⟨u,h1,h2,h3⟩:=qS h;exact uH r (S:=Instr.loadAt t (a.eval x)) (by unfold execOp;rw[ho]) h3 (AT r hG q1 q2 h2 (wM q3 h1 (qO ht (by simp[IOp.opds]))))
 .rename_i y q1 q3
  cases hc;simp only[opv]at h;obtain⟨u,h1,h2,h3⟩:=qS h;exact uH r (S:=Instr.loadAt t (a.eval x)) (by unfold execOp;rw[ho]) h3 (Ot r hG q1 h2 (wM q3 h1 (qO ht (by simp[IOp.opds]))))
 .cases hc
def nK{op:IOp}(_hG:qm E.globs X)(ho:o.op=.store t x y)(hc:vv P (.store t x y)=some op)(h:opv E op A s=some (v,s'))
  (r:Rel P X I s.get w) (_hwf:Wf s) (_hf:s.next<s'.next->I s.next=none) (ht:TmOn I (Opd.tmps op.opds) A a):ku P X I s w a o v s':=by
 simp only[vv]at hc;split at hc
 .rename_i n xa ya q1 q2 q3
  cases hc;simp only[opv]at h;obtain⟨m,k,g1,g2,g3⟩:=gq h;obtain⟨g4,w',g5,g6⟩:=zx1 (P:=P) r q1 g3 (wM q2 g1 (qO ht (by simp[IOp.opds]))) (wM q3 g2 (qO ht (by simp[IOp.opds])))
  exact nL (S:=Instr.storeAt t (a.eval x) (a.eval y)) (by unfold execOp;rw[ho]) g5 g6 g4
 .cases hc
def Ld{op:IOp}(_hG:qm E.globs X)(ho:o.op=.nilCheck x)(hc:vv P (.nilCheck x)=some op)(h:opv E op A s=some (v,s'))
  (r:Rel P X I s.get w) (hwf:Wf s) (hf:s.next<s'.next->I s.next=none) (ht:TmOn I (Opd.tmps op.opds) A a):ku P X I s w a o v s':=by
 simp only[vv]at hc;obtain⟨y,hy,rfl⟩:=Option.map_eq_some_iff.1 hc;simp only[opv]at h;obtain⟨u,h1,h2,rfl⟩:=qS h;have hx:=wM (I:=I) (a:=a) hy h1 (qO ht (by simp[IOp.opds]))
 obtain⟨h3,rfl⟩:=zzk (P:=P) (w:=w) ho h2 hx;exact⟨I,a.eval x,w,.inl h3,Step.refl r,hx⟩
def nC{bop:BinOp}{pos:_}{op:IOp}(_hG:qm E.globs X)(ho:o.op=.binOp bop t x y pos)(hc:vv P (.binOp bop t x y pos)=some op)(h:opv E op A s=some (v,s'))
  (r:Rel P X I s.get w) (_hwf:Wf s) (_hf:s.next<s'.next->I s.next=none) (ht:TmOn I (Opd.tmps op.opds) A a):ku P X I s w a o v s':=by
 simp only[vv]at hc;split at hc
 .rename_i xa ya q1 q2 q3
  cases hc;simp only[opv]at h;obtain⟨m,k,g1,g2,g3,g4⟩:=jm h;exact uH r (S:=(do eqGuard bop t x y (a.eval x) (a.eval y);binOp bop t (a.eval x) (a.eval y))) (by unfold execOp;rw[ho]) g4 (sC g3 (wM q2 g1 (qO ht (by simp[IOp.opds]))) (wM q3 g2 (qO ht (by simp[IOp.opds]))))
 .rename_i k0 xa ya q0 q1 q2 q3
  split at hc
  .cases hc;simp only[opv]at h;obtain⟨m,k,g1,g2,g3,g4⟩:=jm h;unfold Yd at g3;split at g3
   .rename_i b hb
    cases g3;exact uH r (S:=(do eqGuard .eql t x y (a.eval x) (a.eval y);binOp .eql t (a.eval x) (a.eval y))) (by unfold execOp;rw[ho]) g4 ⟨_,Pl (_w0:=X) (neg:=false) q1 hb (wM q2 g1 (qO ht (by simp[IOp.opds]))) (wM q3 g2 (qO ht (by simp[IOp.opds]))),by simp only[VR]⟩
   .cases g3
  .cases hc;simp only[opv]at h;obtain⟨m,k,g1,g2,g3,g4⟩:=jm h;unfold Yd at g3;split at g3
   .rename_i b hb
    cases g3;exact uH r (S:=(do eqGuard .neq t x y (a.eval x) (a.eval y);binOp .neq t (a.eval x) (a.eval y))) (by unfold execOp;rw[ho]) g4 ⟨_,Pl (_w0:=X) (neg:=true) q1 hb (wM q2 g1 (qO ht (by simp[IOp.opds]))) (wM q3 g2 (qO ht (by simp[IOp.opds]))),by simp only[VR]⟩
   .cases g3
  .cases hc
 .cases hc
def B4{uop:UnOp}{t:_}{op:IOp}(_hG:qm E.globs X)(ho:o.op=.unOp uop t x)(hc:vv P (.unOp uop t x)=some op)(h:opv E op A s=some (v,s'))
  (r:Rel P X I s.get w) (_hwf:Wf s) (_hf:s.next<s'.next->I s.next=none) (ht:TmOn I (Opd.tmps op.opds) A a):ku P X I s w a o v s':=by
 simp only[vv]at hc;obtain⟨y,hy,rfl⟩:=Option.map_eq_some_iff.1 hc;simp only[opv]at h;obtain⟨u,h1,h2,h3⟩:=qS h;exact uH r (S:=Op.unary uop (a.eval x)) (by unfold execOp;rw[ho]) h3 (EK h2 (wM hy h1 (qO ht (by simp[IOp.opds]))))
def bt{sT d:TypeId}{op:IOp}(_hG:qm E.globs X)(ho:o.op=.convert sT d x)(hc:vv P (.convert sT d x)=some op)(h:opv E op A s=some (v,s'))
  (r:Rel P X I s.get w) (hwf:Wf s) (hf:s.next<s'.next->I s.next=none) (ht:TmOn I (Opd.tmps op.opds) A a):ku P X I s w a o v s':=by
 simp only[vv]at hc;have he:execOp a.eval o=(do pure (.value (<-convert sT d (a.eval x)))):=by unfold execOp;rw[ho]
 split at hc
 .rename_i u k y q1 q2 q3
  cases hc;simp only[opv]at h;obtain⟨u,h1,h2,h3⟩:=qS h;exact uH r he h3 (Kl q1 q2 h2 (wM q3 h1 (qO ht (by simp[IOp.opds]))))
 .rename_i e y q1 q2 q3
  split at hc
  .rename_i hu
   cases hc;simp only[opv]at h;obtain⟨u,h1,h2⟩:=ky h;exact YT he (BQ r hwf hf q1 q2 hu h2 (wM q3 h1 (qO ht (by simp[IOp.opds]))))
  .cases hc
 .rename_i e y q1 q2 q3
  split at hc
  .rename_i hu
   cases hc;simp only[opv]at h;obtain⟨u,h1,h2,h3⟩:=qS h;exact uH r he h3 (BC r q1 q2 hu h2 (wM q3 h1 (qO ht (by simp[IOp.opds]))))
  .cases hc
 .cases hc
def Q5{op:IOp}(_hG:qm E.globs X)(ho:o.op=.makeInterface t x)(hc:vv P (.makeInterface t x)=some op)(h:opv E op A s=some (v,s'))
  (r:Rel P X I s.get w) (_hwf:Wf s) (_hf:s.next<s'.next->I s.next=none) (ht:TmOn I (Opd.tmps op.opds) A a):ku P X I s w a o v s':=by
 simp only[vv]at hc;split at hc
 .cases hc
 .rename_i d hni hu
  obtain⟨y,hy,rfl⟩:=Option.map_eq_some_iff.1 hc;simp only[opv]at h;obtain⟨u,h1,h2,h3⟩:=qS h;cases h2;have hx:=wM (I:=I) (a:=a) hy h1 (qO ht (by simp[IOp.opds]))
  refine uH r (S:=Instr.makeInterface t (a.eval x)) (by unfold execOp;rw[ho]) h3 ⟨.iface t (a.eval x),?_,by simp only[VR];exact⟨_,rfl,hx⟩⟩
  simp only[Instr.makeInterface,Sem.run_bind,wl hu,Result.andThen_ok];cases d<;>first|exact(hni _ rfl).elim|exact(hni _ hu).elim|rfl
 .cases hc
def Lb{f:Nat}{fst cap:Array Operand}{op:IOp}(_hG:qm E.globs X)(ho:o.op=.makeFunc (.func f) fst cap)(hc:vv P (.makeFunc (.func f) fst cap)=some op)(h:opv E op A s=some (v,s'))
  (r:Rel P X I s.get w) (_hwf:Wf s) (_hf:s.next<s'.next->I s.next=none) (ht:TmOn I (Opd.tmps op.opds) A a):ku P X I s w a o v s':=by
 simp only[vv]at hc;split at hc
 .rename_i x y q1 q2
  cases hc;simp only[opv]at h;obtain⟨us,vs,g1,g2,g3,g4⟩:=dl h;cases g3;refine uH r (S:=Instr.makeFunc (.func f) (fst.map a.eval) (cap.map a.eval)) (by unfold execOp;rw[ho]) g4 ⟨_,rfl,?_⟩
  simp only[VR];exact⟨fst.toList.map a.eval,cap.toList.map a.eval,by congr 1<;>(apply xi;simp),gO q1 g1 (WL ht (by simp[IOp.opds];intro x hx;exact .inl hx)),gO q2 g2 (WL ht (by simp[IOp.opds];intro x hx;exact .inr hx))⟩
 .cases hc
def bw{op:IOp}(_hG:qm E.globs X)(ho:o.op=.makeMap t none)(hc:vv P (.makeMap t none)=some op)(h:opv E op A s=some (v,s'))
  (r:Rel P X I s.get w) (hwf:Wf s) (hf:s.next<s'.next->I s.next=none) (ht:TmOn I (Opd.tmps op.opds) A a):ku P X I s w a o v s':=by
 simp only[vv]at hc;cases hc;simp only[opv]at h;have hn:s.next<s'.next:=by unfold Yt Up at h;simp only[wB,qj]at h;exact jN h.2
 obtain⟨I',h1,h2⟩:=Hj (P:=P) r hwf (hf hn) h;exact Q6 (S:=Instr.makeMap t none) (by unfold execOp;rw[ho];rfl) (by simp[Instr.makeMap]) h1 h2
def Lc{k:IntKind}{n:Int}{op:IOp}(_hG:qm E.globs X)(ho:o.op=.makeMap t (some (.const (.int k n))))(hc:vv P (.makeMap t (some (.const (.int k n))))=some op)(h:opv E op A s=some (v,s'))
  (r:Rel P X I s.get w) (hwf:Wf s) (hf:s.next<s'.next->I s.next=none) (ht:TmOn I (Opd.tmps op.opds) A a):ku P X I s w a o v s':=by
 simp only[vv]at hc;split at hc
 .rename_i kt e hu
  cases hc;simp only[opv]at h;have hn:s.next<s'.next:=by unfold Yt Up at h;simp only[wB,qj]at h;exact jN h.2
  obtain⟨I',h1,h2⟩:=Hj (P:=P) r hwf (hf hn) h;exact Q6 (S:=Instr.makeMap t (some (.int k n))) (by unfold execOp;rw[ho];rfl) (by simp[Instr.makeMap,wl hu,asInt,asIntOf]) h1 h2
 .cases hc
def Gv{l c:Operand}{op:IOp}(_hG:qm E.globs X)(ho:o.op=.makeSlice t l c)(hc:vv P (.makeSlice t l c)=some op)(h:opv E op A s=some (v,s'))
  (r:Rel P X I s.get w) (hwf:Wf s) (hf:s.next<s'.next->I s.next=none) (ht:TmOn I (Opd.tmps op.opds) A a):ku P X I s w a o v s':=by
 simp only[vv]at hc;split at hc
 .rename_i e hu
  split at hc
  .rename_i sz b z la ca q1 q2 q3 q4 q5
   cases hb:(zI (vC z.cells) sz&&zM 1 sz)with
   |false=>rw[hb]at hc;simp at hc
   |true=>
    rw[hb]at hc;simp only[wy,wB]at hc;subst hc;simp only[opv]at h;obtain⟨m,n,g1,g2,g3⟩:=gq h;exact YT (S:=Instr.makeSlice t (a.eval l) (a.eval c)) (by unfold execOp;rw[ho]) (Dl r hwf (hf (PV g3)) hu q1 q2 q3 hb g3 (wM q4 g1 (qO ht (by simp[IOp.opds]))) (wM q5 g2 (qO ht (by simp[IOp.opds]))))
  .cases hc
 .cases hc
def nJ{lo hi mx:Option Operand}{op:IOp}(_hG:qm E.globs X)(ho:o.op=.slice t x lo hi mx)(hc:vv P (.slice t x lo hi mx)=some op)(h:opv E op A s=some (v,s'))
  (r:Rel P X I s.get w) (_hwf:Wf s) (_hf:s.next<s'.next->I s.next=none) (ht:TmOn I (Opd.tmps op.opds) A a):ku P X I s w a o v s':=by
 simp only[vv]at hc;split at hc
 .rename_i xa la ha q1 q2 q3 q4 q5
  cases hc;simp only[opv]at h;obtain⟨p,l,m,g1,g2,g3,g4,g5⟩:=KM h;have hmx:mx=none:=by
   cases mx with
   |none=>rfl
   |some y=>simp only[K9]at q5;split at q5<;>simp at q5
  subst hmx;exact uH r (S:=Instr.sliceAt t (a.eval x) (lo.map a.eval) (hi.map a.eval) none) (by unfold execOp;rw[ho];rfl) g5 (Ea q1 g4 (wM q2 g1 (qO ht (by simp[IOp.opds]))) (Zq q3 g2 (WL ht (by simp[IOp.opds];intro x hx;exact .inr (.inl hx)))) (Zq q4 g3 (WL ht (by simp[IOp.opds];intro x hx;exact .inr (.inr hx)))))
 .rename_i e xa la ha ma q1 q2 q3 q4 q5
  split at hc
  .rename_i sz hs
   cases hb:((ma.isNone||ha.isSome)&&zM 1 sz)with
   |false=>rw[hb]at hc;simp at hc
   | true=>
    rw[hb]at hc;simp only[wy,wB]at hc;subst hc;rw[zU]at hb;simp only[opv]at h;obtain⟨p,l,m,k,g1,g2,g3,g4,g5,g6⟩:=dr h;have hmh:k=none\/m≠none:=by
     rw[<-eV g4,ne_eq,<-eV g3];have hb:=hb.1;cases ma<;>cases ha<;>simp at hb|-
    exact uH r (S:=Instr.sliceAt t (a.eval x) (lo.map a.eval) (hi.map a.eval) (mx.map a.eval)) (by unfold execOp;rw[ho]) g6 (Ec q1 hs g5 (wM q2 g1 (qO ht (by simp[IOp.opds]))) (Zq q3 g2 (WL ht (by simp[IOp.opds];intro x hx;exact .inr (.inl hx)))) (Zq q4 g3 (WL ht (by simp[IOp.opds];intro x hx;exact .inr (.inr (.inl hx))))) (Zq q5 g4 (WL ht (by simp[IOp.opds];intro x hx;exact .inr (.inr (.inr hx))))) hmh)
  .cases hc
 .cases hc
def Gt{sT:TypeId}{op:IOp}(_hG:qm E.globs X)(ho:o.op=.fieldAddr sT x f)(hc:vv P (.fieldAddr sT x f)=some op)(h:opv E op A s=some (v,s'))
  (r:Rel P X I s.get w) (_hwf:Wf s) (_hf:s.next<s'.next->I s.next=none) (ht:TmOn I (Opd.tmps op.opds) A a):ku P X I s w a o v s':=by
 simp only[vv]at hc;split at hc
 .rename_i fs hu
  split at hc
  .rename_i fl hfl
   split at hc
   .cases hc
   .rename_i n hn hs
    obtain⟨y,hy,rfl⟩:=Option.map_eq_some_iff.1 hc;simp only[opv]at h;obtain⟨u,h1,h2,h3⟩:=qS h;obtain⟨k,rfl⟩:∃k,n=k+1:=⟨n-1,by have:n≠0:=λe=>hn e;omega⟩
    exact uH r (S:=Instr.fieldAt sT (a.eval x) f) (by unfold execOp;rw[ho]) h3 (IK hu hfl hs h2 (wM hy h1 (qO ht (by simp[IOp.opds]))))
   .cases hc
  .cases hc
 .cases hc
def Gu{i:Operand}{op:IOp}(_hG:qm E.globs X)(ho:o.op=.indexAddr t x i)(hc:vv P (.indexAddr t x i)=some op)(h:opv E op A s=some (v,s'))
  (r:Rel P X I s.get w) (_hwf:Wf s) (_hf:s.next<s'.next->I s.next=none) (ht:TmOn I (Opd.tmps op.opds) A a):ku P X I s w a o v s':=by
 simp only[vv]at hc;split at hc
 .rename_i n e hu
  split at hc
  .rename_i sz xa ia q1 q2 q3
   cases hc;simp only[opv]at h;obtain⟨m,k,g1,g2,g3,g4⟩:=jm h;exact uH r (S:=Instr.indexAt t (a.eval x) (a.eval i)) (by unfold execOp;rw[ho]) g4 (Dc hu q1 g3 (wM q2 g1 (qO ht (by simp[IOp.opds]))) (wM q3 g2 (qO ht (by simp[IOp.opds]))))
  .cases hc
 .rename_i e hu
  split at hc
  .rename_i sz xa ia q1 q2 q3
   cases hc;simp only[opv]at h;obtain⟨m,k,g1,g2,g3,g4⟩:=jm h;exact uH r (S:=Instr.indexAt t (a.eval x) (a.eval i)) (by unfold execOp;rw[ho]) g4 (Ms hu q1 g3 (wM q2 g1 (qO ht (by simp[IOp.opds]))) (wM q3 g2 (qO ht (by simp[IOp.opds]))))
  .cases hc
 .cases hc
def nF{i:Operand}{op:IOp}(_hG:qm E.globs X)(ho:o.op=.index t x i)(hc:vv P (.index t x i)=some op)(h:opv E op A s=some (v,s'))
  (r:Rel P X I s.get w) (_hwf:Wf s) (_hf:s.next<s'.next->I s.next=none) (ht:TmOn I (Opd.tmps op.opds) A a):ku P X I s w a o v s':=by
 simp only[vv]at hc;split at hc
 .rename_i hu
  split at hc
  .rename_i xa ia q2 q3
   cases hc;simp only[opv]at h;obtain⟨m,k,g1,g2,g3,g4⟩:=jm h;exact uH r (S:=Instr.index t (a.eval x) (a.eval i)) (by unfold execOp;rw[ho]) g4 (Df hu g3 (wM q2 g1 (qO ht (by simp[IOp.opds]))) (wM q3 g2 (qO ht (by simp[IOp.opds]))))
  .cases hc
 .cases hc
def eG{k:Operand}{ok:Bool}{op:IOp}(_hG:qm E.globs X)(ho:o.op=.lookup t m k ok)(hc:vv P (.lookup t m k ok)=some op)(h:opv E op A s=some (v,s'))
  (r:Rel P X I s.get w) (_hwf:Wf s) (_hf:s.next<s'.next->I s.next=none) (ht:TmOn I (Opd.tmps op.opds) A a):ku P X I s w a o v s':=by
 simp only[vv]at hc;split at hc
 .rename_i kt e hu
  split at hc
  .rename_i f z ma ka q0 q1 q2 q3
   cases hc;simp only[opv]at h;obtain⟨p,q,g1,g2,g3,g4⟩:=jm h;exact uH r (S:=Instr.lookup t (a.eval m) (a.eval k) ok) (by unfold execOp;rw[ho]) g4 (MD r hu q0 q1 g3 (wM q2 g1 (qO ht (by simp[IOp.opds]))) (wM q3 g2 (qO ht (by simp[IOp.opds]))))
  .cases hc
 .cases hc
def Gw{k:Operand}{op:IOp}(_hG:qm E.globs X)(ho:o.op=.mapUpdate t m k x)(hc:vv P (.mapUpdate t m k x)=some op)(h:opv E op A s=some (v,s'))
  (r:Rel P X I s.get w) (_hwf:Wf s) (_hf:s.next<s'.next->I s.next=none) (ht:TmOn I (Opd.tmps op.opds) A a):ku P X I s w a o v s':=by
 simp only[vv]at hc;split at hc
 .rename_i kt e hu
  split at hc
  .rename_i f ma ka xa q0 q1 q2 q3
   cases hc;simp only[opv]at h;obtain⟨p,q,y,g1,g2,g3,g4⟩:=co h;obtain⟨g5,w',g6,g7⟩:=fY (P:=P) r hu q0 g4 (wM q1 g1 (qO ht (by simp[IOp.opds]))) (wM q2 g2 (qO ht (by simp[IOp.opds]))) (wM q3 g3 (qO ht (by simp[IOp.opds])))
   exact nL (S:=Instr.mapUpdate t (a.eval m) (a.eval k) (a.eval x)) (by unfold execOp;rw[ho]) g6 g7 g5
  .cases hc
 .cases hc
def eF{k:Operand}{op:IOp}(_hG:qm E.globs X)(ho:o.op=.insert t m k x)(hc:vv P (.insert t m k x)=some op)(h:opv E op A s=some (v,s'))
  (r:Rel P X I s.get w) (_hwf:Wf s) (_hf:s.next<s'.next->I s.next=none) (ht:TmOn I (Opd.tmps op.opds) A a):ku P X I s w a o v s':=by
 simp only[vv]at hc;split at hc
 .rename_i kt e hu
  split at hc
  .rename_i f ma ka xa q0 q1 q2 q3
   cases hc;simp only[opv]at h;obtain⟨p,q,y,g1,g2,g3,g4⟩:=co h;obtain⟨g5,w',g6,g7⟩:=fY (P:=P) r hu q0 g4 (wM q1 g1 (qO ht (by simp[IOp.opds]))) (wM q2 g2 (qO ht (by simp[IOp.opds]))) (wM q3 g3 (qO ht (by simp[IOp.opds])))
   exact nL (S:=Instr.mapUpdate t (a.eval m) (a.eval k) (a.eval x)) (by unfold execOp;rw[ho]) g6 g7 g5
  .cases hc
 .cases hc
def nI{op:IOp}(_hG:qm E.globs X)(ho:o.op=.range t x)(hc:vv P (.range t x)=some op)(h:opv E op A s=some (v,s'))
  (r:Rel P X I s.get w) (hwf:Wf s) (hf:s.next<s'.next->I s.next=none) (ht:TmOn I (Opd.tmps op.opds) A a):ku P X I s w a o v s':=by
 simp only[vv]at hc;split at hc
 .rename_i hu
  obtain⟨y,hy,rfl⟩:=Option.map_eq_some_iff.1 hc;simp only[opv]at h;obtain⟨u,h1,h2⟩:=ky h;exact YT (S:=Instr.range t (a.eval x)) (by unfold execOp;rw[ho]) (Oi r hwf (hf (im h2)) hu h2 (wM hy h1 (qO ht (by simp[IOp.opds]))))
 .rename_i k e hu
  obtain⟨y,hy,rfl⟩:=Option.map_eq_some_iff.1 hc;simp only[opv]at h;obtain⟨u,h1,h2⟩:=ky h;exact YT (S:=Instr.range t (a.eval x)) (by unfold execOp;rw[ho]) (N8 r hwf (hf (il h2)) hu h2 (wM hy h1 (qO ht (by simp[IOp.opds]))))
 .cases hc
def nH{op:IOp}(_hG:qm E.globs X)(ho:o.op=.next x true)(hc:vv P (.next x true)=some op)(h:opv E op A s=some (v,s'))
  (r:Rel P X I s.get w) (_hwf:Wf s) (_hf:s.next<s'.next->I s.next=none) (ht:TmOn I (Opd.tmps op.opds) A a):ku P X I s w a o v s':=by
 simp only[vv]at hc;obtain⟨y,hy,rfl⟩:=Option.map_eq_some_iff.1 hc;simp only[opv]at h;obtain⟨u,h1,h2⟩:=ky h;obtain⟨z,w',g1,g2,g3⟩:=MU (P:=P) (ty:=o.type) r h2 (wM hy h1 (qO ht (by simp[IOp.opds])))
 exact Q6 (S:=Instr.next (a.eval x) true o.type) (by unfold execOp;rw[ho]) g1 g2 g3
def nG{op:IOp}(_hG:qm E.globs X)(ho:o.op=.next x false)(hc:vv P (.next x false)=some op)(h:opv E op A s=some (v,s'))
  (r:Rel P X I s.get w) (_hwf:Wf s) (_hf:s.next<s'.next->I s.next=none) (ht:TmOn I (Opd.tmps op.opds) A a):ku P X I s w a o v s':=by
 simp only[vv]at hc;obtain⟨y,hy,rfl⟩:=Option.map_eq_some_iff.1 hc;simp only[opv]at h;obtain⟨u,h1,h2⟩:=ky h;obtain⟨z,w',g1,g2,g3⟩:=MS (P:=P) (ty:=o.type) r h2 (wM hy h1 (qO ht (by simp[IOp.opds])))
 exact Q6 (S:=Instr.next (a.eval x) false o.type) (by unfold execOp;rw[ho]) g1 g2 g3
def nE{op:IOp}(_hG:qm E.globs X)(ho:o.op=.entry x)(hc:vv P (.entry x)=some op)(h:opv E op A s=some (v,s'))
  (r:Rel P X I s.get w) (_hwf:Wf s) (_hf:s.next<s'.next->I s.next=none) (ht:TmOn I (Opd.tmps op.opds) A a):ku P X I s w a o v s':=by
 simp only[vv]at hc;obtain⟨y,hy,rfl⟩:=Option.map_eq_some_iff.1 hc;simp only[opv]at h;obtain⟨u,h1,h2,h3⟩:=qS h;exact uH r (S:=Instr.entry (a.eval x)) (by unfold execOp;rw[ho]) h3 (FY r h2 (wM hy h1 (qO ht (by simp[IOp.opds]))))
def bu{i:Nat}{op:IOp}(_hG:qm E.globs X)(ho:o.op=.extract x i)(hc:vv P (.extract x i)=some op)(h:opv E op A s=some (v,s'))
  (r:Rel P X I s.get w) (_hwf:Wf s) (_hf:s.next<s'.next->I s.next=none) (ht:TmOn I (Opd.tmps op.opds) A a):ku P X I s w a o v s':=by
 simp only[vv]at hc;obtain⟨y,hy,rfl⟩:=Option.map_eq_some_iff.1 hc;simp only[opv]at h;obtain⟨u,h1,h2,h3⟩:=qS h;exact uH r (S:=Instr.extract (a.eval x) i) (by unfold execOp;rw[ho]) h3 (IJ h2 (wM hy h1 (qO ht (by simp[IOp.opds]))))
def BV{c:Call}{op:IOp}(hG:qm E.globs X)(ho:o.op=.call c)(hc:vv P (.call c)=some op)(h:opv E op A s=some (v,s'))
  (r:Rel P X I s.get w) (hwf:Wf s) (hf:s.next<s'.next->I s.next=none) (ht:TmOn I (Opd.tmps op.opds) A a):ku P X I s w a o v s':=by
 simp only[vv]at hc;split at hc
 .rename_i f hcal
  split at hc
  .cases hc
  .rename_i fn hfn
   cases hb2:(fn.name== "internal/bytealg.IndexByteString"&&(fn.origin== ""&&fn.body.isNone))with
   | true=>
    rw[hb2]at hc;simp only[wy]at hc;simp only[zU,beq_iff_eq]at hb2;obtain⟨n1,n2,n3⟩:=hb2;split at hc
    .rename_i xa ya hcx
     cases hc;simp only[opv]at h;obtain⟨p,q,g1,g2,g3,rfl⟩:=jm h;have hxs:=gO (a:=a) (I:=I) hcx (show evL A [xa,ya]=some [p,q] by simp[evL,g1,g2]) (WL ht (by simp[IOp.opds]))
     have hmap:c.args.map a.eval=(c.args.toList.map a.eval).toArray:=by rw[<-xc,yB]
     simp only[VRL]at hxs;obtain⟨x',_,hx1,hx2,y',_,rfl,hy2,rfl⟩:=hxs;obtain⟨z,k1,k2⟩:=Dd (P:=P) (w:=w) g3 hx2 hy2;obtain⟨m1,m2⟩:=IM n1 n2;refine⟨I,z,w,.inl (Po ho hcal (HH hfn n3 (by rw[n1];rfl) m1 m2 ?_)),Step.refl r,k2⟩
     rw[hmap,hx1];exact k1
    .cases hc
   | false=>
    rw[hb2]at hc;simp only[wK]at hc;cases hb3:(fn.name== "internal/abi.NoEscape"&&(fn.origin== ""&&fn.body.isNone))with
    | true=>
     rw[hb3]at hc;simp only[wy]at hc;simp only[zU,beq_iff_eq]at hb3;obtain⟨n1,n2,n3⟩:=hb3;split at hc
     .rename_i xa hcx
      cases hc;simp only[opv]at h;obtain⟨p,g1,g3,rfl⟩:=qS h;cases g3;have hxs:=gO (a:=a) (I:=I) hcx (show evL A [xa]=some [v] by simp[evL,g1]) (WL ht (by simp[IOp.opds]))
      have hmap:c.args.map a.eval=(c.args.toList.map a.eval).toArray:=by rw[<-xc,yB]
      simp only[VRL]at hxs;obtain⟨x',_,hx1,hx2,rfl⟩:=hxs;obtain⟨m1,m2⟩:=Lh n1 n2;refine⟨I,x',w,.inl (Po ho hcal (HH hfn n3 (by rw[n1];rfl) m1 m2 ?_)),Step.refl r,hx2⟩
      rw[hmap,hx1];rfl
     .cases hc
    |false=>rw[hb3]at hc;simp at hc
 .cases hc
 .rename_i b hb
  exact aZ hG ho hb hc h r hwf hf ht
 .cases hc
def Dv{op:IOp}(hG:qm E.globs X)(hc:vv P o.op=some op)(h:opv E op A s=some (v,s'))
  (r:Rel P X I s.get w) (hwf:Wf s) (hf:s.next<s'.next->I s.next=none) (ht:TmOn I (Opd.tmps op.opds) A a):ku P X I s w a o v s':=by
 cases ho:o.op with
 |move x=>exact BX hG ho (ho▸hc) h r hwf hf ht
 |assign x=>exact eE hG ho (ho▸hc) h r hwf hf ht
 |pick c x y=>exact BY hG ho (ho▸hc) h r hwf hf ht
 |alloc t=>exact nB hG ho (ho▸hc) h r hwf hf ht
 |box t x=>exact FU hG ho (ho▸hc) h r hwf hf ht
 |build t ps=>exact nD hG ho (ho▸hc) h r hwf hf ht
 |buildSlice t len ps=>exact J7 hG ho (ho▸hc) h r hwf hf ht
 |load t x=>exact BW hG ho (ho▸hc) h r hwf hf ht
 |store t x y=>exact nK hG ho (ho▸hc) h r hwf hf ht
 |nilCheck x=>exact Ld hG ho (ho▸hc) h r hwf hf ht
 |binOp bop t x y pos=>exact nC hG ho (ho▸hc) h r hwf hf ht
 |unOp uop t x=>exact B4 hG ho (ho▸hc) h r hwf hf ht
 |convert sT d x=>exact bt hG ho (ho▸hc) h r hwf hf ht
 |makeInterface t x=>exact Q5 hG ho (ho▸hc) h r hwf hf ht
 |makeSlice t l c=>exact Gv hG ho (ho▸hc) h r hwf hf ht
 |slice t x lo hi mx=>exact nJ hG ho (ho▸hc) h r hwf hf ht
 |fieldAddr sT x f=>exact Gt hG ho (ho▸hc) h r hwf hf ht
 |indexAddr t x i=>exact Gu hG ho (ho▸hc) h r hwf hf ht
 |index t x i=>exact nF hG ho (ho▸hc) h r hwf hf ht
 |lookup t m k ok=>exact eG hG ho (ho▸hc) h r hwf hf ht
 |mapUpdate t m k x=>exact Gw hG ho (ho▸hc) h r hwf hf ht
 |insert t m k x=>exact eF hG ho (ho▸hc) h r hwf hf ht
 |range t x=>exact nI hG ho (ho▸hc) h r hwf hf ht
 |entry x=>exact nE hG ho (ho▸hc) h r hwf hf ht
 |extract x i=>exact bu hG ho (ho▸hc) h r hwf hf ht
 |call c=>exact BV hG ho (ho▸hc) h r hwf hf ht
 |makeFunc f fst cap=>
  rw[ho]at hc;cases f with
  |func f=>exact Lb hG ho hc h r hwf hf ht
  |_=>simp[vv]at hc
 | makeMap t n=>
  rw[ho]at hc;cases n with
  |none=>exact bw hG ho hc h r hwf hf ht
  | some x=>
   cases x with
   |const c=>
    cases c with
    |int k n=>exact Lc hG ho hc h r hwf hf ht
    |_=>simp[vv]at hc
   |_=>simp[vv]at hc
 |next x b=>
  rw[ho]at hc;cases b with
  |true=>exact nH hG ho hc h r hwf hf ht
  |false=>exact nG hG ho hc h r hwf hf ht
 |_=>rw[ho]at hc;simp[vv]at hc
end
end Go.Proofs.YtbddpjboppmnfaaGreatDoor.Ev

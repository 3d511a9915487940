/- Part of a verified evaluator of the model's code, generic over the program: a run of the evaluator that answers shows what the model's run answers. No conditions of its own. -/
import Derived.Test.YtbdfljdgapkbcaaGreatDoorEvB
import Derived.Laws.Append
import Derived.Lib.UnsafeStr
import Derived.KernelRfl
set_option linter.unusedSimpArgs false
set_option linter.unusedVariables false
set_option linter.defProp false
open Bool renaming and_eq_true → zl, eq_false_iff → zp, true_and → yD
open Nat renaming ble → zd, beq → za, mul → zb, le_refl → zo, add_mul → yq, blt → ze, add → zc, le_div_iff_mul_le → yw, mul_le_mul_right → yx, lt_succ_self → zV, zero_add → yC, add_zero → yF, zero_le → zK
open Array renaming getElem?_toList → zu, length_toList → yo, ext' → yu, toArray_toList → zM, toList_append → yE
open List renaming map_toArray → yj, length_append → yl, getElem?_append_left → ym, take_of_length_le → zE, eq_nil_of_length_eq_zero → yr, getElem?_eq_getElem → yv, map_cons → zv, take_append_of_le_length → yz, getElem?_take → zy, getElem?_append_right → yA, map_nil → yB, drop_zero → z9
open Option renaming map_none → yy
namespace Go.Proofs.YtbdfljdgapkbcaaGreatDoor.Ev
variable {P:Program}{w0 w w':World}{s s':St}{v:AV}{tm:Trie AV}{id n esz bytes:Nat}{o:AObj}{op:IOp}{t:TypeId}
theorem zpk{φ:Phi}(r:Rel P w0 φ s.get w)(hwf:Wf s)(hf:φ s.next=none){x:AV}{x':Value}(hu:P.underlying t=some .string)(h:oRs s x=some (v,s'))(hx:VR φ x x'):
  ∃φ' y w',(Instr.range t x').run P w=.ok y w'∧Step P w0 φ s w φ' s' w'∧VR φ' v y:=by
 unfold oRs at h;split at h
 ·cases h;simp only[VR]at hx;obtain⟨bs,rfl,rfl⟩:=hx;refine⟨_,_,_,?_,Step.alloc r hwf hf (w':={w with heap:=w.heap.push (.stringIter bs 0)}) (tot:=0) rfl rfl rfl rfl ⟨rfl,bs,vh _,rfl⟩,Xv⟩
  simp[Instr.range,xw hu]
 ·cases h
theorem zsu(s:ByteArray)(i k:Nat):((qX s).drop i)[k]? =if i+k<s.size then some (s.get! (i+k)).toNat else none:=by
 rw[List.getElem?_drop,Pe];by_cases h:i+k<s.size
 ·rw[if_pos h,ByteArray.getElem?_lt' s _ h];have:s.get! (i+k)=s[i+k]:=by
   show s.data[i+k]! =s.data[i+k];exact getElem!_pos s.data (i+k) h
  rw[this];rfl
 ·rw[if_neg h,ByteArray.getElem?_ge' s _ h];rfl
theorem U2(c:Nat):Utf8.valid (c:Int)=qK c:=zto c
theorem zvd{s:ByteArray}{i:Nat}(h:i<s.size):Utf8.decode s i=ue ((qX s).drop i):=by
 have key:=zsu s i;generalize hl:(qX s).drop i=l at key;have hb:∀a b:Nat,za a b=(a==b):=fun a b=>by
  cases h':za a b with
  |true=>rw[xT]at h';simp[h']
  |false=>symm;rw[beq_eq_false_iff_ne];intro he;rw[xT.2 he]at h';cases h'
 have hle:∀a b:Nat,zd a b=decide (a≤b):=fun a b=>by
  cases h':zd a b with
  |true=>rw[decide_eq_true (xR.1 h')]
  |false=>symm;exact decide_eq_false (fun he=>by rw[xR.2 he]at h';cases h')
 have k0:=key 0;rw[if_pos oM]at k0;unfold Utf8.decode;cases l with
 |nil=>simp at k0
 | cons b0 r=>
  have k0':(s.get! (i+0)).toNat=b0:=by simpa using k0.symm
  simp only[k0',ue,Gj];by_cases h0:b0<128
  ·rw[if_pos h0,if_pos h0]
  rw[if_neg h0,if_neg h0];have k1:=key 1;cases r with
  |nil=>
   have n1:¬i+1<s.size:=fun hh=>by rw[if_pos hh]at k1;simp at k1
   simp[n1];rfl
  | cons b1 r=>
   have l1:i+1<s.size:=by
    by_cases hh:i+1<s.size
    ·exact hh
    ·rw[if_neg hh]at k1;simp at k1
   rw[if_pos l1]at k1;have k1':(s.get! (i+1)).toNat=b1:=by simpa using k1.symm
   simp only[k1',l1,decide_true,yD,Ja,hb,YZ,hle];by_cases h6:(b0/32==6&&b1/64==2)=true
   ·rw[if_pos h6];show _=bif (b0/32==6&&b1/64==2)then _ else _;rw[h6,cond_true];by_cases h7:128≤b0%32*64+b1%64
    ·rw[if_pos h7];show _=bif decide (128≤b0%32*64+b1%64)then _ else _;rw[decide_eq_true h7];rfl
    ·rw[if_neg h7];show _=bif decide (128≤b0%32*64+b1%64)then _ else _;rw[decide_eq_false h7];rfl
   rw[if_neg h6];have h6':(b0/32==6&&b1/64==2)=false:=by simpa using h6
   show _=bif (b0/32==6&&b1/64==2)then _ else _;rw[h6',cond_false];have k2:=key 2;cases r with
   |nil=>
    have n2:¬i+2<s.size:=fun hh=>by rw[if_pos hh]at k2;simp at k2
    simp[n2];rfl
   | cons b2 r=>
    have l2:i+2<s.size:=by
     by_cases hh:i+2<s.size
     ·exact hh
     ·rw[if_neg hh]at k2;simp at k2
    rw[if_pos l2]at k2;have k2':(s.get! (i+2)).toNat=b2:=by simpa using k2.symm
    simp only[k2',l2,decide_true,yD,ZX,U2];by_cases h8:(b0/16==14&&b1/64==2&&b2/64==2)=true
    ·rw[if_pos h8];show _=bif (b0/16==14&&b1/64==2&&b2/64==2)then _ else _;rw[h8,cond_true];by_cases h9:2048≤b0%16*4096+b1%64*64+b2%64∧qK (b0%16*4096+b1%64*64+b2%64)=true
     ·rw[if_pos (by simpa using h9)]
      show _=bif decide (2048≤b0%16*4096+b1%64*64+b2%64)&&qK (b0%16*4096+b1%64*64+b2%64)then _ else _;rw[decide_eq_true h9.1,h9.2];rfl
     ·rw[if_neg (by simpa using h9)]
      show _=bif decide (2048≤b0%16*4096+b1%64*64+b2%64)&&qK (b0%16*4096+b1%64*64+b2%64)then _ else _;have:(decide (2048≤b0%16*4096+b1%64*64+b2%64)&&qK (b0%16*4096+b1%64*64+b2%64))=false:=by
       rw[zp];intro hh;rw[zl,decide_eq_true_iff]at hh;exact h9 hh
      rw[this];rfl
    rw[if_neg h8];have h8':(b0/16==14&&b1/64==2&&b2/64==2)=false:=by simpa using h8
    show _=bif (b0/16==14&&b1/64==2&&b2/64==2)then _ else _;rw[h8',cond_false];have k3:=key 3;cases r with
    |nil=>
     have n3:¬i+3<s.size:=fun hh=>by rw[if_pos hh]at k3;simp at k3
     simp[n3];rfl
    | cons b3 r=>
     have l3:i+3<s.size:=by
      by_cases hh:i+3<s.size
      ·exact hh
      ·rw[if_neg hh]at k3;simp at k3
     rw[if_pos l3]at k3;have k3':(s.get! (i+3)).toNat=b3:=by simpa using k3.symm
     simp only[k3',l3,decide_true,yD,VM,U2];by_cases h10:(b0/8==30&&b1/64==2&&b2/64==2&&b3/64==2)=true
     ·rw[if_pos h10];show _=bif (b0/8==30&&b1/64==2&&b2/64==2&&b3/64==2)then _ else _;rw[h10,cond_true];by_cases h9:65536≤b0%8*262144+b1%64*4096+b2%64*64+b3%64∧qK (b0%8*262144+b1%64*4096+b2%64*64+b3%64)=true
      ·rw[if_pos (by simpa using h9)]
       show _=bif decide (65536≤b0%8*262144+b1%64*4096+b2%64*64+b3%64)&&qK (b0%8*262144+b1%64*4096+b2%64*64+b3%64)then _ else _;rw[decide_eq_true h9.1,h9.2];rfl
      ·rw[if_neg (by simpa using h9)]
       show _=bif decide (65536≤b0%8*262144+b1%64*4096+b2%64*64+b3%64)&&qK (b0%8*262144+b1%64*4096+b2%64*64+b3%64)then _ else _;have:(decide (65536≤b0%8*262144+b1%64*4096+b2%64*64+b3%64)&&qK (b0%8*262144+b1%64*4096+b2%64*64+b3%64))=false:=by
        rw[zp];intro hh;rw[zl,decide_eq_true_iff]at hh;exact h9 hh
       rw[this];rfl
     ·rw[if_neg h10];have h10':(b0/8==30&&b1/64==2&&b2/64==2&&b3/64==2)=false:=by simpa using h10
      show _=bif (b0/8==30&&b1/64==2&&b2/64==2&&b3/64==2)then _ else _;rw[h10'];rfl
theorem zql{φ:Phi}(r:Rel P w0 φ s.get w){ty:TypeId}{x:AV}{x':Value}(h:oNs s x=some (v,s'))(hx:VR φ x x'):
  ∃y w',(Instr.next x' true ty).run P w=.ok y w'∧Step P w0 φ s w φ s' w'∧VR φ v y:=by
 unfold oNs at h;split at h
 ·rename_i id
  simp only[VR]at hx;obtain⟨B,hB,rfl⟩:=hx;split at h
  ·rename_i t pos hg
   obtain⟨B',hB',h0,bs,hb,rfl⟩:=r.obj id _ hg;rw[hB]at hB';cases hB';have hgo:=w8 (P:=P) hb (by simp)
   rw[kP]at h;cases hp:(qX bs).drop pos with
   | nil=>
    rw[hp]at h;simp only[Option.some.injEq,Prod.mk.injEq]at h;obtain⟨rfl,rfl⟩:=h;have hge:¬pos<bs.size:=by
     intro hlt;have:=congrArg List.length hp;rw[List.length_drop,qf]at this;simp at this;omega
    refine⟨.tuple #[.bool false],w,?_,Step.refl r,by simp only[VR];exact⟨[.bool false],rfl,VRL.cons (by simp[VR]) (VRL.nil φ)⟩⟩
    simp[Instr.next,h0,hgo,hge]
   | cons b rr=>
    rw[hp]at h;simp only[Option.some.injEq,Prod.mk.injEq]at h;obtain⟨rfl,rfl⟩:=h;have hpos:pos<bs.size:=by
     have:=congrArg List.length hp;rw[List.length_drop,qf]at this;simp at this;omega
    have hd:=zvd hpos;rw[hp]at hd;refine⟨.tuple #[.bool true,goInt pos,.int .i32 ((ue (b::rr)).1:Int)],_,?_,Step.setObj r hg hB hb (x':=.stringIter bs (pos+(ue (b::rr)).2)) ⟨h0,bs,kZ hb,rfl⟩,?_⟩
    ·simp[Instr.next,h0,hgo,hpos,hd,qN _ hb (by simp)]
    ·simp only[VR];exact⟨[.bool true,goInt pos,.int .i32 ((ue (b::rr)).1:Int)],rfl,VRL.cons (by simp[VR]) (VRL.cons (by simp only[VR];rfl) (VRL.cons (by simp only[VR];rfl) (VRL.nil φ)))⟩
  ·cases h
 ·cases h
theorem zph{φ:Phi}(r:Rel P w0 φ s.get w)(hwf:Wf s)(hf:φ s.next=none){kt e:TypeId}{x:AV}{x':Value}(hu:P.underlying t=some (.map kt e))(h:oRm s x=some (v,s'))(hx:VR φ x x'):
  ∃φ' y w',(Instr.range t x').run P w=.ok y w'∧Step P w0 φ s w φ' s' w'∧VR φ' v y:=by
 unfold oRm at h;split at h
 ·cases h;simp only[VR]at hx;subst hx;refine⟨_,_,_,?_,Step.alloc r hwf hf (w':={w with heap:=w.heap.push (.mapIter none 0 #[] 0)}) (tot:=0) rfl rfl rfl rfl ⟨rfl,none,vh _,rfl⟩,Xv⟩
  simp[Instr.range,xw hu]
 ·rename_i id
  simp only[VR]at hx;obtain⟨B,hB,rfl⟩:=hx;split at h
  ·rename_i es clock hg
   cases h;obtain⟨ents,hb,hent⟩:=Zf r hg hB;have hgo:=w8 (P:=P) hb (by simp)
   refine⟨_,_,_,?_,Step.alloc r hwf hf (w':={w with heap:=w.heap.push (.mapIter (some B.b) clock #[] clock)}) (tot:=0) rfl rfl rfl rfl ⟨rfl,some B.b,vh _,B,?_,rfl⟩,Xv⟩
   ·simp[Instr.range,xw hu,hgo]
   ·exact Phi.set_sub hf _ _ hB
  ·cases h
 ·cases h
theorem gN(n:Nat):∀l:List Nat,pI n l=l.contains n
 |[]=>rfl
 | m::r=>by
  show (bif za n m then true else pI n r)=_;rw[gN n r,List.contains_cons];have:za n m=(n==m):=by
   by_cases h:n=m
   ·subst h;simp
   ·rw[beq_eq_false_iff_ne.2 h,zp,ne_eq,Nat.beq_eq];exact h
  rw[this];cases (n==m)<;>simp
theorem ZM{φ:Phi}(seen:List Nat):∀{l:List (AV×AV×Nat)} {es:List MapEntry},EntRel φ l es→EntRel φ (vz seen l) (es.filter fun e=> !seen.contains e.born)
 |[],_,h=>by simp only[EntRel]at h;subst h;simp[vz,EntRel]
 |p::l,_,h=>by
  obtain⟨e,es',rfl,h1,h2,h3,h4⟩:=h;simp only[vz,gN,←h3];cases hc:seen.contains e.born with
  |true=>simp only[cond_true,List.filter_cons,hc];exact ZM seen h4
  |false=>simp only[cond_false,List.filter_cons,hc];exact⟨e,_,rfl,h1,h2,h3,ZM seen h4⟩
theorem Vb{φ:Phi}(last:Nat):∀{l:List (AV×AV×Nat)} {es:List MapEntry},EntRel φ l es→es.all (fun e=>decide (e.born≥last))=Va last l
 |[],_,h=>by simp only[EntRel]at h;subst h;rfl
 |p::l,_,h=>by
  obtain⟨e,es',rfl,h1,h2,h3,h4⟩:=h;simp only[Va,List.all_cons,Vb last h4,←h3];by_cases hc:last≤e.born
  ·rw[show zd last e.born=true from xR.2 hc];simp[hc]
  ·rw[show zd last e.born=false from by rw[zp,ne_eq,xR];exact hc];simp[hc]
theorem zqj{φ:Phi}(r:Rel P w0 φ s.get w){ty:TypeId}{x:AV}{x':Value}(h:oNm s x=some (v,s'))(hx:VR φ x x'):
  ∃y w',(Instr.next x' false ty).run P w=.ok y w'∧Step P w0 φ s w φ s' w'∧VR φ v y:=by
 have hover:VR φ (.tup [.bool false]) (.tuple #[.bool false]):=by simp only[VR];exact⟨[.bool false],rfl,VRL.cons (by simp[VR]) (VRL.nil φ)⟩
 unfold oNm at h;split at h
 ·rename_i id
  simp only[VR]at hx;obtain⟨B,hB,rfl⟩:=hx;split at h
  ·rename_i since seen last hg
   obtain⟨B',hB',h0,m',hb,rfl⟩:=r.obj id _ hg;rw[hB]at hB';cases hB';have hgo:=w8 (P:=P) hb (by simp)
   simp only[Option.some.injEq,Prod.mk.injEq]at h;obtain⟨rfl,rfl⟩:=h;exact⟨.tuple #[.bool false],w,by simp[Instr.next,h0,hgo],Step.refl r,hover⟩
  ·rename_i m since seen last hg
   obtain⟨B',hB',h0,m',hb,Bm,hBm,rfl⟩:=r.obj id _ hg;rw[hB]at hB';cases hB';have hgo:=w8 (P:=P) hb (by simp)
   split at h
   ·rename_i es clock hgm
    obtain⟨ents,hbm,hent⟩:=Zf r hgm hBm;have hgom:=w8 (P:=P) hbm (by simp)
    cases hgone:LL seen last es with
    |true=>rw[hgone]at h;simp at h
    | false=>
     rw [hgone]at h;simp only[cond_false]at h;have hnogone:¬((!(seen.toArray).isEmpty&& !ents.isEmpty&&ents.all (·.born≥last))=true):=by
      have e1:ents.all (fun e=>decide (e.born≥last))=Va last es:=by rw[←Array.all_toList,Vb last hent]
      unfold LL at hgone;intro hh;simp only[zl,Bool.not_eq_true']at hh;obtain⟨⟨a1,a2⟩,a3⟩:=hh;rw[e1]at a3;cases seen with
      |nil=>simp at a1
      | cons _ _=>
       cases es with
       |nil=>
        have:=EntRel.length hent;simp at this;have:ents.isEmpty=true:=by simpa [Array.isEmpty]using this.symm
        rw[this]at a2;cases a2
       |cons _ _=>simp only at hgone;rw[a3]at hgone;cases hgone
     have hleft:=ZM seen hent;have hfl:(ents.filter fun e=> !seen.toArray.contains e.born).toList=ents.toList.filter fun e=> !seen.contains e.born:=by simp
     cases hl:vz seen es with
     |nil=>
      rw[hl]at h hleft;simp only[pE,Option.some.injEq,Prod.mk.injEq]at h;obtain⟨rfl,rfl⟩:=h;simp only[EntRel]at hleft;have hempty:(ents.filter fun e=> !seen.toArray.contains e.born)=#[]:=by apply yu;rw[hfl,hleft]
      refine⟨.tuple #[.bool false],w,?_,Step.refl r,hover⟩;simp only[Instr.next,h0,yF,Sem.run_bind,hgo,Result.andThen_ok,hgom]
      rw[if_neg hnogone,hempty];simp[Question.forced]
     | cons p rest=>
      rw[hl]at h hleft;cases rest with
      |cons _ _=>simp[pE]at h
      | nil=>
       simp only[pE]at h;cases hlt:ze p.2.2 since with
       |false=>rw[hlt]at h;simp at h
       | true=>
        rw[hlt]at h;simp only[cond_true,Option.some.injEq,Prod.mk.injEq]at h;obtain⟨rfl,rfl⟩:=h;obtain⟨e,es',heq,h1,h2,h3,h4⟩:=hleft;simp only[EntRel]at h4;subst h4;have hone:(ents.filter fun e=> !seen.toArray.contains e.born)=#[e]:=by apply yu;rw[hfl,heq]
        have hborn:e.born<since:=by rw[h3];exact wi.1 hlt
        have hnge:¬since≤e.born:=oM;refine⟨.tuple #[.bool true,e.key,e.val],_,?_,Step.setObj r hg hB hb (x':=.mapIter (some Bm.b) since (seen.toArray.push e.born) clock) ⟨h0,some Bm.b,?_,Bm,hBm,rfl⟩,?_⟩
        ·simp only[Instr.next,h0,yF,Sem.run_bind,hgo,Result.andThen_ok,hgom]
         rw[if_neg hnogone,hone];simp[Question.forced,hborn,hnge,qN _ hb (by simp)]
        ·rw[kZ hb];simp[h3]
        ·simp only[VR];exact⟨[.bool true,e.key,e.val],rfl,VRL.cons (by simp[VR]) (VRL.cons h1 (VRL.cons h2 (VRL.nil φ)))⟩
   ·cases h
  ·cases h
 ·cases h
theorem LT:∀{l:List Nat} {b:Nat},Z6 l=some b→l.toArray.back?=some b
 |[],_,h=>by simp[Z6]at h
 |[n],_,h=>by simp[Z6]at h;subst h;rfl
 |n::m::r,b,h=>by
  simp only[Z6]at h;have:=LT (l:=m::r) h;simp only[List.back?_toArray]at this⊢
  simpa using this
theorem J9{φ:Phi}{b:Nat}:∀{l:List (AV×AV×Nat)} {es:List MapEntry} {p:AV×AV},EntRel φ l es→Y9 b l=some p→∃e,es.find? (·.born==b)=some e∧VR φ p.1 e.key∧VR φ p.2 e.val
 |[],_,_,_,h=>by simp[Y9]at h
 | q::l,_,p,h,hf=>by
  obtain⟨e,es',rfl,h1,h2,h3,h4⟩:=h;simp only[Y9,←h3]at hf;cases hb:za e.born b with
  |true=>
   rw[hb]at hf;simp only[cond_true,Option.some.injEq]at hf;subst hf;exact⟨e,by simp[xT.1 hb],h1,h2⟩
  | false=>
   rw[hb]at hf;simp only[cond_false]at hf;obtain⟨e',g1,g2⟩:=J9 h4 hf;refine⟨e',?_,g2⟩;have:(e.born==b)=false:=by
    rw[beq_eq_false_iff_ne];intro he;rw[xT.2 he]at hb;cases hb
   rw[List.find?_cons,this];exact g1
theorem zsw{φ:Phi}(r:Rel P w0 φ s.get w){x:AV}{x':Value}(h:vEn s x=some v)(hx:VR φ x x'):∃y,(Instr.entry x').run P w=.ok y w∧VR φ v y:=by
 unfold vEn at h;split at h
 ·rename_i id
  simp only[VR]at hx;obtain⟨B,hB,rfl⟩:=hx;split at h
  ·rename_i m since seen stepped hg
   obtain⟨B',hB',h0,m',hb,Bm,hBm,rfl⟩:=r.obj id _ hg;rw[hB]at hB';cases hB';have hgo:=w8 (P:=P) hb (by simp)
   cases hl:Z6 seen with
   |none=>rw[hl]at h;simp at h
   | some b=>
    rw[hl]at h;simp only at h;split at h
    ·rename_i es clock hgm
     obtain⟨ents,hbm,hent⟩:=Zf r hgm hBm;have hgom:=w8 (P:=P) hbm (by simp)
     cases hc:za clock stepped with
     |false=>rw[hc]at h;simp at h
     | true=>
      rw[hc]at h;simp only[cond_true]at h;rw[xT]at hc;subst hc;cases hf:Y9 b es with
      |none=>rw[hf]at h;simp[zwg]at h
      |some p=>
       rw[hf]at h;simp only[zwg,Option.some.injEq]at h;subst h;obtain⟨e,g1,g2,g3⟩:=J9 hent hf;have g1':ents.find? (·.born==b)=some e:=by rw[←Array.find?_toList];exact g1
       refine⟨.tuple #[e.key,e.val],?_,ziu g2 g3⟩;simp[Instr.entry,h0,hgo,LT hl,hgom,g1']
    ·cases h
  ·cases h
 ·cases h
theorem Wc{φ:Phi}(r:Rel P w0 φ s.get w){ts:Array TypeId}{ty:TypeId}{k:LK}{x:AV}{x':Value}(hts:ts[0]? =some t)
  (hu:match k with|.s=>P.underlying t=some .string|.v=>∃e,P.underlying t=some (.slice e)|.m=>∃k e,P.underlying t=some (.map k e))
  (h:QD s k x=some v) (hx:VR φ x x'):∃y,(Builtin.len_ ts ty #[x']).run P w=.ok y w∧VR φ v y:=by
 unfold QD at h;cases k with
 |s=>
  simp only at h hu;split at h
  ·cases h;simp only[VR]at hx;obtain⟨b,rfl,rfl⟩:=hx;exact⟨_,by simp[Builtin.len_,hts,xw hu];rfl,by simp only[VR,wE,qf];rfl⟩
  ·cases h
 | v=>
  simp only at h hu;obtain⟨e,hd⟩:=hu;split at h
  ·cases h;simp only[VR]at hx;subst hx;exact⟨_,by simp[Builtin.len_,hts,xw hd];rfl,by simp only[VR];rfl⟩
  ·cases h;simp only[VR]at hx;obtain⟨a,k,rfl⟩:=hx;exact⟨_,by simp[Builtin.len_,hts,xw hd];rfl,by simp only[VR];rfl⟩
  ·cases h;simp only[VR]at hx;obtain⟨B,k,hB,rfl,_⟩:=hx;exact⟨_,by simp[Builtin.len_,hts,xw hd];rfl,by simp only[VR];rfl⟩
  ·cases h;simp only[VR]at hx;obtain⟨_,⟨rfl,a,rfl⟩|⟨b,o,k,ys,rfl,_⟩⟩:=hx
   ·exact⟨_,by simp[Builtin.len_,hts,xw hd];rfl,by simp only[VR];rfl⟩
   ·exact⟨_,by simp[Builtin.len_,hts,xw hd];rfl,by simp only[VR];rfl⟩
  ·cases h;simp only[VR]at hx;obtain⟨_,_,_,_,B,ys,_,rfl,_⟩:=hx;exact⟨_,by simp[Builtin.len_,hts,xw hd];rfl,by simp only[VR];rfl⟩
  ·cases h
 | m=>
  simp only at h hu;obtain⟨kt,e,hd⟩:=hu;split at h
  ·cases h;simp only[VR]at hx;subst hx;exact⟨_,by simp[Builtin.len_,hts,xw hd];rfl,by simp only[VR];rfl⟩
  ·rename_i id
   simp only[VR]at hx;obtain⟨B,hB,rfl⟩:=hx;split at h
   ·rename_i es clock hg
    cases h;obtain⟨ents,hb,hent⟩:=Zf r hg hB;have hgo:=w8 (P:=P) hb (by simp)
    refine⟨goInt ents.size,by simp[Builtin.len_,hts,xw hd,hgo],?_⟩
    simp only[VR,wE,EntRel.length hent];rfl
   ·rename_i es hg
    cases h;obtain⟨ents,clk,hb,l,q1,q2,_⟩:=QU r hg hB;have hgo:=w8 (P:=P) hb (by simp)
    refine⟨goInt ents.size,by simp[Builtin.len_,hts,xw hd,hgo],?_⟩
    have:=q1.length_eq;simp only[VR,wE,q2.length,this];rfl
   ·cases h
  ·cases h
theorem Step.del{φ:Phi}(r:Rel P w0 φ s.get w)(id:Nat)(hgd:s.get id=some o)(hng:qG o=false:=by rfl):Step P w0 φ s w φ (s.del id) w:=by
 have hget:∀i o,(s.del id).get i=some o→s.get i=some o:=fun i o h=>by
  have h1:=wa h;have h2:=qm h;rw[qY (s:=s) (s':=s.del id) rfl rfl]at h2;rw[show (s.del id).objs=s.objs.del id from rfl,Trie.get_del]at h1;by_cases e:i=id
  ·rw[if_pos e]at h1;cases h1
  ·rw[if_neg e]at h1;rw[uF,h2];exact h1
 exact⟨GJ s id (wa hgd) (qm hgd) hng,r.sub hget,fun _ _=>rfl,zo _,fun _ _ _=>rfl,fun i B h1 h2=>absurd (show i<s.next from h2) oM,fun _ _ _ h=>h,fun _ _ _ h=>.inl h⟩
theorem Step.moveZ{φ:Phi}(r:Rel P w0 φ s.get w)(hf:φ s.next=none){o':AObj}{B B':Blk}{z:Nat→Nat→Option Value}(hg:s.get id=some o)(hB:φ id=some B)(hbb:B'.b=B.b)
  (hother:∀b,b≠B.b→w'.heap[b]? =w.heap[b]?) (hsz:w'.heap.size=w.heap.size) (hos:w'.os=w.os) (ht:w'.tape=w.tape) (hu:w'.output=w.output)
  (hz1:∀b,b≠B.b→∀i,z b i=φ.z b i) (hz0:∀i v,φ.z B.b i=some v→z B.b i=some v) (hz2:∀i v,z B.b i=some v→∃c e fr,w'.heap[B.b]? =some (.cells c e fr)∧c[i]? =some v) (hsep:SepOf o' B' z)
  (ho:ObjRel P ((φ.set s.next B').zset z) w' o' B') (hng:qG o=false):Step P w0 φ s w ((φ.set s.next B').zset z) ((s.del id).alloc o') w':=by
 have hzs:∀b i v,φ.z b i=some v→z b i=some v:=fun b i v h=>by
  by_cases e:b=B.b
  ·subst e;exact hz0 i v h
  ·rw[hz1 b e];exact h
 have hsub:Sub φ ((φ.set s.next B').zset z):=⟨(Phi.set_sub (B:=B') hf).of,hzs⟩
 have hnew:=r.new hg hB hng;have hext:=(GJ s id (wa hg) (qm hg) hng).trans (kC (s.del id) o');have hget:∀i x,((s.del id).alloc o').get i=some x→(i=s.next∧x=o')∨(i≠s.next∧i≠id∧s.get i=some x):=fun i x hx=>by
  have h1:=wa hx;have h2:=qm hx;rw[qY (s:=s) (s':=(s.del id).alloc o') rfl rfl]at h2;rw[show ((s.del id).alloc o').objs=(s.objs.del id).set s.next o' from rfl,Trie.get_set]at h1
  by_cases e:i=s.next
  ·rw[if_pos e]at h1;exact .inl ⟨e,by cases h1;rfl⟩
  ·rw[if_neg e,Trie.get_del]at h1;by_cases e2:i=id
   ·rw[if_pos e2]at h1;cases h1
   ·rw[if_neg e2]at h1;exact .inr ⟨e,e2,by rw[uF,h2];exact h1⟩
 have hne:id≠s.next:=fun e=>by rw[e,hf]at hB;cases hB
 have hmk:((s.del id).alloc o').wm.testBit id=true:=by show (uG s.wm id).testBit id=true;rw[wJ];simp
 refine⟨hext,⟨?_,?_,?_,?_,?_,?_,?_⟩,?_,oM,?_,?_,hzs,?_⟩
 ·refine⟨hos.trans r.base.os,ht.trans r.base.tape,hu.trans r.base.output,by have:=r.base.size;omega,fun k hk=>?_⟩
  exact(hother k oM).trans (r.base.block k hk)
 ·intro i x hx;rcases hget i x hx with ⟨rfl,rfl⟩|⟨e,e2,hg'⟩
  ·exact⟨B',if_pos rfl,ho⟩
  ·obtain⟨B1,hB1,t⟩:=r.obj i x hg';exact⟨B1,hsub _ _ hB1,t.keep hsub (hother _ (fun e'=>(r.inj i id x o B1 B hg' hg hB1 hB e').elim e2 (fun h=>oM)))⟩
 ·intro i B1 hB1;have hB1':(if i=s.next then some B' else φ i)=some B1:=hB1
  by_cases e:i=s.next
  ·rw[if_pos e]at hB1';cases hB1';rw[hbb,hsz];exact r.rng id B hB
  ·rw[if_neg e]at hB1';rw[hsz];exact r.rng i B1 hB1'
 ·intro i x B1 hx hB1 hlt;rcases hget i x hx with ⟨rfl,rfl⟩|⟨e,e2,hg'⟩
  ·rw[show ((φ.set s.next _).zset z) s.next=some B' from if_pos rfl]at hB1;cases hB1;omega
  ·rw[show ((φ.set s.next _).zset z) i=φ i from if_neg e]at hB1
   exact r.old i x B1 hg' hB1 hlt
 ·intro i i' x x' B1 B2 h1 h2 hB1 hB2 e;rcases hget i x h1 with ⟨rfl,rfl⟩|⟨n1,m1,g1⟩<;>rcases hget i' x' h2 with ⟨rfl,rfl⟩|⟨n2,m2,g2⟩
  ·exact .inl rfl
  ·rw[show ((φ.set s.next _).zset z) s.next=some B' from if_pos rfl]at hB1;cases hB1
   rw[show ((φ.set s.next _).zset z) i'=φ i' from if_neg n2]at hB2
   exact(r.inj i' id x' o B2 B g2 hg hB2 hB (e.symm.trans hbb)).elim (fun h=>absurd h m2) (fun h=>oM)
  ·rw[show ((φ.set s.next _).zset z) s.next=some B' from if_pos rfl]at hB2;cases hB2
   rw[show ((φ.set s.next _).zset z) i=φ i from if_neg n1]at hB1
   exact(r.inj i id x o B1 B g1 hg hB1 hB (e.trans hbb)).elim (fun h=>absurd h m1) (fun h=>.inr h)
  ·rw[show ((φ.set s.next _).zset z) i'=φ i' from if_neg n2]at hB2
   rw[show ((φ.set s.next _).zset z) i=φ i from if_neg n1]at hB1
   exact r.inj i i' x x' B1 B2 g1 g2 hB1 hB2 e
 ·intro b i v hv;have hv':z b i=some v:=hv;by_cases e:b=B.b
  ·subst e;exact hz2 i v hv'
  ·rw[hz1 b e]at hv';obtain⟨c,e1,fr,h1,h2⟩:=r.frz b i v hv';exact⟨c,e1,fr,(hother b e).trans h1,h2⟩
 ·intro i x B1 hx hB1;rcases hget i x hx with ⟨rfl,rfl⟩|⟨e,e2,hg'⟩
  ·rw[show ((φ.set s.next _).zset z) s.next=some B' from if_pos rfl]at hB1;cases hB1
   exact hsep
  ·rw[show ((φ.set s.next _).zset z) i=φ i from if_neg e]at hB1
   have hs:=r.sep i x B1 hg' hB1;by_cases eb:B1.b=B.b
   ·rcases r.inj i id x o B1 B hg' hg hB1 hB eb with h|h
    ·exact absurd h e2
    ·have:=r.new hg hB hng;omega
   ·exact hs.congr (fun j=>hz1 B1.b eb j)
 ·intro i hi;have hi':i<s.next∨s.next+1≤i:=hi
  exact if_neg oM
 ·intro b hb H;apply hother;intro e;have:=H id o B hg hB e.symm;rw[hmk]at this;cases this
 ·intro i B1 h1 h2 hB1;have h2':i<s.next+1:=h2
  have e:i=s.next:=oM
  subst e;rw[show ((φ.set s.next _).zset z) s.next=some B' from if_pos rfl]at hB1;cases hB1
  exact .inr ⟨id,o,B,hg,hB,hbb.symm,hmk⟩
 ·intro b i v hv;have hv':z b i=some v:=hv;by_cases e:b=B.b
  ·exact .inr (.inr ⟨id,o,B,hg,hB,e.symm,hmk⟩)
  ·rw[hz1 b e]at hv';exact .inl hv'
theorem Step.move{φ:Phi}(r:Rel P w0 φ s.get w)(hf:φ s.next=none){o':AObj}{B B':Blk}(hg:s.get id=some o)(hB:φ id=some B)(hbb:B'.b=B.b)
  (hother:∀b,b≠B.b→w'.heap[b]? =w.heap[b]?) (hsz:w'.heap.size=w.heap.size) (hos:w'.os=w.os) (ht:w'.tape=w.tape) (hu:w'.output=w.output)
  (ho:ObjRel P (φ.set s.next B') w' o' B') (hng:qG o=false:=by rfl) (hna:Kk o=false:=by rfl):Step P w0 φ s w (φ.set s.next B') ((s.del id).alloc o') w':=by
 have hzn:=(r.sep id o B hg hB).all hng hna;exact Step.moveZ (z:=φ.z) r hf hg hB hbb hother hsz hos ht hu (fun _ _ _=>rfl) (fun _ _ h=>h) (fun i v h=>by rw[hzn i]at h;cases h) (SepOf.of_all (by rw[hbb];exact hzn)) ho hng
structure Src(P:Program)(w:World)(ts:Array TypeId)(e:TypeId)(size:Nat)(x:Value)(n:Nat)(new:List Value):Prop where
 stay:∀(t ty:TypeId) (base:Option Addr) (sLen sCap:Nat),ts[0]? =some t→P.underlying t=some (.slice e)→sLen+n≤sCap→
  (Builtin.append_ ts ty #[.slice base sLen sCap,x]).run P w=(match base with
   |none=>.ok (.slice none (sLen+n) sCap) w
   |some a=>((storeCells (a.add (sLen*size)) new).run P w).andThen fun _ w'=>.ok (.slice (some a) (sLen+n) sCap) w')
 grow:∀(t ty:TypeId) (i:TypeInfo) (z:Value) (base:Option Addr) (sLen sCap:Nat) (old:Array Value),ts[0]? =some t→P.underlying t=some (.slice e)→P.info? e=some i→i.size=size→(zeroValue e).run P w.drew=.ok z w.drew→sCap<sLen+n→(sLen+n:Nat)<9223372036854775808→
  Builtin.nextslicecap (sLen+n) sCap*i.bytes≤281474976710656→(Builtin.firstCells size sLen (.slice base sLen sCap)).run P w.drew=.ok old w.drew→
  (Builtin.append_ ts ty #[.slice base sLen sCap,x]).run P w=
   .ok (.slice (some ⟨w.heap.size,0,none⟩) (sLen+n) (grownCap w (sLen+n) sCap e)) (w.drew.alloc (.cells (old++new.toArray++Builtin.zeroCells z.cells (grownCap w (sLen+n) sCap e-(sLen+n))) e))
theorem uK{ts:Array TypeId}{u e:TypeId}{d:TypeDesc}{size:Nat}{x:Value}{new:List Value}(h1:ts[1]? =some u)(hu:P.underlying u=some d)(hd:d=.string∨∃c,d=.slice c)(hsz:vD P e=some size)
  (hl:(Builtin.lenOf x)=pure n) (hw:(Builtin.firstCells size n x).run P w=.ok new.toArray w) (hwd:(Builtin.firstCells size n x).run P w.drew=.ok new.toArray w.drew):Src P w ts e size x n new:=by
 constructor
 ·intro t ty base sLen sCap h0 ht hle;rcases hd with rfl|⟨c,rfl⟩
  ·cases base<;>simp[Builtin.append_,h0,h1,xw ht,xw hu,wp hsz,hl,hle,hw]
  ·cases base<;>simp[Builtin.append_,h0,h1,xw ht,xw hu,wp hsz,hl,hle,hw]
 ·intro t ty i z base sLen sCap old h0 ht hi his hzv hlt h63 hfit hold;have hn:¬(sLen+n≤sCap):=oM;have h63':¬(9223372036854775807<((sLen:Int)+(n:Int))):=oM;have h48':¬(281474976710656<Builtin.nextslicecap (sLen+n) sCap*i.bytes):=oM;have hti:=fun w'=>uR (P:=P) (w:=w') hi;rcases hd with rfl|⟨c,rfl⟩
  ·simp[Builtin.append_,h0,h1,xw ht,xw hu,wp hsz,hl,hn,h63',h48',hti,Question.forced,hold,hwd,hzv,newRow,grownCap]
  ·simp[Builtin.append_,h0,h1,xw ht,xw hu,wp hsz,hl,hn,h63',h48',hti,Question.forced,hold,hwd,hzv,newRow,grownCap]
theorem zmF{w:World}{ts:Array TypeId}{u e:TypeId}{k:IntKind}{size b:Nat}{z:Value}(h1:ts[1]? =some u)(hu:P.underlying u=some (.int k))(hsz:vD P e=some size)(hby:Vh P e=some b)
  (hz:∀w,(zeroValue e).run P w=.ok z w) (hzl:z.cells.size=size) (hs1:1≤size) (hn0:0<n) (hn:n<9223372036854775808) (hb:n*b≤281474976710656):Src P w ts e size (.int .i64 (n:Int)) n (List.replicate n z.cells.toList).flatten:=by
 obtain⟨i,hi,hib⟩:=YF hby;have hti:=fun w'=>uR (P:=P) (w:=w') hi;have w1:IntKind.i64.wrap (n:Int)=(n:Int):=pA .i64 n (by simp only[Jq];omega)
 have hneg:¬((n:Int)<0):=oM;have hmul:¬(281474976710656<(n:Int)*(i.bytes:Int)):=by
  have e1:(n:Int)*(i.bytes:Int)=((n*i.bytes:Nat):Int):=by simp
  rw[e1,hib];omega
 have hns:¬(n*size=0):=by
  intro h;rcases Nat.mul_eq_zero.1 h with h|h<;>omega
 have hmade:Builtin.zeroCells z.cells n=((List.replicate n z.cells.toList).flatten).toArray:=by
  apply yu;have:=Wd z.cells.toList n (by simp;omega)
  simpa [Builtin.zeroCells]using this
 constructor
 ·intro t ty base sLen sCap h0 ht hle;cases base<;>simp[Builtin.append_,h0,h1,xw ht,xw hu,wp hsz,asInt,asIntOf,w1,hneg,hti,hmul,hle,hns,hz,hmade]
 ·intro t ty i' z' base sLen sCap old h0 ht hi' his hzv hlt h63 hfit hold;rw[hi]at hi';cases hi';have hz':z'=z:=by rw[hz]at hzv;cases hzv;rfl
  subst hz';have hle:¬(sLen+n≤sCap):=oM;have h63':¬(9223372036854775807<((sLen:Int)+(n:Int))):=oM;have h48':¬(281474976710656<Builtin.nextslicecap (sLen+n) sCap*i.bytes):=oM;simp[Builtin.append_,h0,h1,xw ht,xw hu,wp hsz,asInt,asIntOf,w1,hneg,hti,hmul,hle,h63',h48',hns,hz,hmade,Question.forced,hold,newRow,grownCap]
theorem ug(w:World)(need old:Nat)(e:TypeId):need≤grownCap w need old e:=by simp[grownCap,Question.cut]
theorem Zy(z:Array Value)(n:Nat):(Builtin.zeroCells z n).size=n*z.size:=by simp[Builtin.zeroCells]
theorem Ys{φ:Phi}(r:Rel P w0 φ s.get w)(hwf:Wf s)(hf:φ s.next=none){e need cap:Nat}{cs:List AV}{xs:Array Value}{z:Array Value}
  (h:grow s e esz bytes cs need=some (v,s')) (hx:VRL φ cs xs.toList) (hl:cs.length=need*esz) (hz:z.size=esz) (hc:need≤cap):
  ∃φ',Step P w0 φ s w φ' s' (w.drew.alloc (.cells (xs++Builtin.zeroCells z (cap-need)) e))∧VR φ' v (.slice (some ⟨w.heap.size,0,none⟩) need cap)∧2*need*bytes≤281474976710656∧need<9223372036854775808:=by
 unfold grow at h;cases hb:(zd (zb (zb 2 need) bytes) 281474976710656&&zd 1 esz&&ze need 9223372036854775808)with
 |false=>rw[hb]at h;simp at h
 | true=>
  rw[hb]at h;simp only[cond_true,Option.some.injEq,Prod.mk.injEq]at h;obtain⟨rfl,rfl⟩:=h;simp only[zl,xR,wi]at hb;obtain⟨⟨hb1,hb2⟩,hb3⟩:=hb;have hxl:=VRL.length hx;have hxs:xs.size=need*esz:=by rw[←yo,←hxl,hl]
  have hmul:need*esz+(cap-need)*esz=cap*esz:=by rw[←yq];congr 1;omega
  refine⟨φ.set s.next ⟨w.heap.size,0,cap*esz⟩,Step.alloc r hwf hf rfl rfl rfl rfl ?_,?_,hb1,hb3⟩
  ·refine⟨xs++Builtin.zeroCells z (cap-need),(0,0),vh _,?_,?_,(fun h=>by cases h),?_,zo _,fun _ i _=>by simp⟩
   ·rw[Array.size_append,Zy,hxs,hz];simp only;omega
   ·simp only[hl];exact yx _ hc
   ·have e1:(((xs++Builtin.zeroCells z (cap-need)).toList.drop 0).take cs.length)=xs.toList:=by
     rw[z9,yE,yz (by rw[hxl];exact zo _),hxl,List.take_length]
    simp only;rw[e1];exact VRL.mono (Phi.set_sub hf) _ _ hx
  ·simp only[VR];refine⟨⟨w.heap.size,0,cap*esz⟩,cap,by simp[Phi.set],by simp,hb2,?_,hc,zK _⟩
   simp only[Nat.sub_zero];exact(Nat.mul_div_cancel _ oM).symm
theorem jC{e need:Nat}{cs:List AV}(h:lq s e esz bytes cs need=some (v,s')):s'.next=s.next+1:=by
 unfold lq at h;cases hb:(zd (zb (zb 2 need) bytes) 281474976710656&&zd 1 esz&&ze need 9223372036854775808&&xN cs)with
 |false=>rw[hb]at h;simp at h
 |true=>
  rw[hb]at h;simp only[cond_true,Option.some.injEq,Prod.mk.injEq]at h;obtain⟨_,rfl⟩:=h;rfl
theorem X5{e need:Nat}{cs:List AV}(h:lq s e esz bytes cs need=some (v,s')):
  2*need*bytes≤281474976710656∧1≤esz∧need<9223372036854775808∧xN cs=true∧v=.gr s.next esz need cs∧s'=s.alloc (.app e cs):=by
 unfold lq at h;cases hb:(zd (zb (zb 2 need) bytes) 281474976710656&&zd 1 esz&&ze need 9223372036854775808&&xN cs)with
 |false=>rw[hb]at h;simp at h
 |true=>
  rw[hb]at h;simp only[cond_true,Option.some.injEq,Prod.mk.injEq]at h;simp only[zl,xR,wi]at hb;obtain⟨⟨⟨hb1,hb2⟩,hb3⟩,hb4⟩:=hb;exact⟨hb1,hb2,hb3,hb4,h.1.symm,h.2.symm⟩
def Phi.znewT(φ:Phi)(b m:Nat)(c:Array Value):Nat→Nat→Option Value:=fun b' i=>if b'=b then (if i<m then c[i]? else none)else φ.z b' i
variable {φ φ':Phi}
theorem gJ(r:Rel P w0 φ s.get w)(hwf:Wf s)(hf:φ s.next=none){e need cap:Nat}{cs:List AV}{xs:Array Value}{z:Array Value}
  (h:lq s e esz bytes cs need=some (v,s')) (hn0:0<need) (hx:VRL φ cs xs.toList) (hl:cs.length=need*esz) (hz:z.size=esz) (hc:need≤cap):
  ∃φ',Step P w0 φ s w φ' s' (w.drew.alloc (.cells (xs++Builtin.zeroCells z (cap-need)) e))∧VR φ' v (.slice (some ⟨w.heap.size,0,none⟩) need cap)∧2*need*bytes≤281474976710656∧need<9223372036854775808:=by
 obtain⟨hb1,hb2,hb3,hp,rfl,rfl⟩:=X5 h;have hxl:=VRL.length hx;have hxs:xs.size=need*esz:=by rw[←yo,←hxl,hl]
 have hmul:need*esz+(cap-need)*esz=cap*esz:=by rw[←yq];congr 1;omega
 obtain⟨c,hcd⟩:∃c,c=xs++Builtin.zeroCells z (cap-need):=⟨_,rfl⟩;have hcl:(c.toList.drop 0).take cs.length=xs.toList:=by
  rw[hcd,z9,yE,yz (by rw[hxl];exact zo _),hxl,List.take_length]
 have hsub:Sub φ ((φ.set s.next ⟨w.heap.size,0,cap*esz⟩).zset (φ.znewT w.heap.size cs.length c)):=⟨(Phi.set_sub hf).of,fun b i v hv=>by
  have:=r.zlt hv;show (if b=w.heap.size then _ else φ.z b i)=some v;rw[if_neg oM];exact hv⟩
 have hzc:ZC ((φ.set s.next ⟨w.heap.size,0,cap*esz⟩).zset (φ.znewT w.heap.size cs.length c)) w.heap.size 0 xs.toList:=ZC.of fun i y hi=>by
  have hlt:i<xs.toList.length:=(List.getElem?_eq_some_iff.1 hi).1;show (if w.heap.size=w.heap.size then (if 0+i<cs.length then c[0+i]? else none)else φ.z w.heap.size (0+i))=some y;rw[if_pos rfl,if_pos oM,yC,←zu];have:((c.toList.drop 0).take cs.length)[i]? =some y:=by rw[hcl];exact hi
  rw[z9,zy,if_pos oM]at this;exact this
 rw[←hcd];refine⟨(φ.set s.next ⟨w.heap.size,0,cap*esz⟩).zset (φ.znewT w.heap.size cs.length c),Step.allocZ r hwf hf rfl rfl rfl rfl ?_ ?_ ?_ ?_,?_,hb1,hb3⟩
 ·intro b hb i;show (if b=w.heap.size then _ else φ.z b i)=φ.z b i;rw[if_neg hb]
 ·intro i v hv;have hv':(if w.heap.size=w.heap.size then (if i<cs.length then c[i]? else none)else φ.z w.heap.size i)=some v:=hv;rw[if_pos rfl]at hv';by_cases hi:i<cs.length
  ·rw[if_pos hi]at hv';exact⟨c,e,(0,0),rfl,hv'⟩
  ·rw[if_neg hi]at hv';cases hv'
 ·intro i hi;show (if w.heap.size=w.heap.size then (if i<cs.length then c[i]? else none)else φ.z w.heap.size i)=none;have hi':0+cs.length≤i:=hi;rw[if_pos rfl,if_neg oM]
 ·refine⟨c,(0,0),vh _,?_,?_,?_,zo _,zK _⟩
  ·rw[hcd,Array.size_append,Zy,hxs,hz];simp only;omega
  ·simp only[hl];exact yx _ hc
  ·simp only;rw[hcl];exact VRL.mono hsub _ _ hx
 ·simp only[VR];have hdiv:cap*esz/esz=cap:=Nat.mul_div_cancel _ oM;exact⟨hp,hl,hn0,oM,⟨w.heap.size,0,cap*esz⟩,xs.toList,if_pos rfl,by rw[hdiv],by rw[hdiv];exact hc,hzc,VRL.mono hsub _ _ hx⟩
theorem zzi(_r:Rel P w0 φ s.get w){ts:Array TypeId}{ty e:TypeId}{x:AV}{x' y':Value}(h0:ts[0]? =some t)(ht:P.underlying t=some (.slice e))(src:Src P w ts e esz y' 0 [])
  (h:ztC s x=some (v,s')) (hx:VR φ x x'):s'=s∧(Builtin.append_ ts ty #[x',y']).run P w=.ok x' w∧VR φ v x':=by
 have hst:∀(a:Addr),(storeCells (a.add 0) []).run P w=.ok () w:=fun a=>rfl;unfold ztC at h;split at h
 ·cases h;have hx':=hx;simp only[VR]at hx;subst hx;exact⟨rfl,by rw[src.stay t ty none 0 0 h0 ht oM],hx'⟩
 ·cases h;have hx':=hx;simp only[VR]at hx;obtain⟨a,k,rfl⟩:=hx;exact⟨rfl,by rw[src.stay t ty (some a) 0 k h0 ht oM];rfl,hx'⟩
 ·rename_i id off len c
  have hx':=hx;simp only[VR]at hx;obtain⟨B,k,hB,rfl,hk⟩:=hx;split at h
  ·rename_i k'
   simp only at hk;subst hk;cases hb:zd len k with
   |false=>rw[hb]at h;simp at h
   |true=>
    rw[hb]at h;simp only[cond_true,Option.some.injEq,Prod.mk.injEq]at h;obtain⟨rfl,rfl⟩:=h;exact⟨rfl,by rw[src.stay t ty (some _) len k h0 ht (by have:=xR.1 hb;omega)];rfl,hx'⟩
  ·rename_i e'
   simp only[Option.some.injEq,Prod.mk.injEq]at h;obtain⟨rfl,rfl⟩:=h;simp only at hk;exact⟨rfl,by rw[src.stay t ty (some _) len k h0 ht oM];rfl,hx'⟩
 ·cases h;have hx':=hx;simp only[VR]at hx;obtain⟨_,⟨rfl,a,rfl⟩|⟨b,o,k,ys,rfl,_,hk,_⟩⟩:=hx
  ·cases a with
   |none=>exact⟨rfl,by rw[src.stay t ty none 0 0 h0 ht oM],hx'⟩
   |some a=>exact⟨rfl,by rw[src.stay t ty (some _) 0 0 h0 ht oM];rfl,hx'⟩
  ·exact⟨rfl,by rw[src.stay t ty (some _) _ k h0 ht oM];rfl,hx'⟩
 ·cases h;have hx':=hx;simp only[VR]at hx;obtain⟨_,_,_,_,B,ys,_,rfl,hk,_⟩:=hx;exact⟨rfl,by rw[src.stay t ty (some _) _ _ h0 ht oM];rfl,hx'⟩
 ·cases h
theorem ky(r:Rel P w0 φ s.get w){b o len k:Nat}{cs l:List AV}(hv:VR φ (.vp cs) (.pointer (some ⟨b,o,none⟩)))(hc:xV (n*esz) cs=some l):
  ∃xs:List Value,VRL φ l xs∧(Builtin.firstCells esz n (.slice (some ⟨b,o,none⟩) len k)).run P w=.ok xs.toArray w∧(Builtin.firstCells esz n (.slice (some ⟨b,o,none⟩) len k)).run P w.drew=.ok xs.toArray w.drew:=by
 obtain⟨a,xs,ea,hlen,hxs,hcell⟩:=vl r (G:=[]) (fun g cs h=>by simp at h) (show vo [] s (.vp cs) (n*esz)=some l from hc) hv
 cases ea;exact⟨xs,hxs,run_firstCells_some w esz n _ len k xs hlen hcell,run_firstCells_some w.drew esz n _ len k xs hlen (by simpa using hcell)⟩
theorem GK(r:Rel P w0 φ s.get w){off len k:Nat}{B:Blk}{l:List AV}(hB:φ id=some B)(hld:vo [] s (.ptr id off) (n*esz)=some l):
  ∃xs:List Value,VRL φ l xs∧(Builtin.firstCells esz n (.slice (some ⟨B.b,B.o+off,none⟩) len k)).run P w=.ok xs.toArray w∧(Builtin.firstCells esz n (.slice (some ⟨B.b,B.o+off,none⟩) len k)).run P w.drew=.ok xs.toArray w.drew:=by
 obtain⟨a,xs,ea,hlen,hxs,hcell⟩:=vl r (G:=[]) (fun g cs h=>by simp at h) hld (x:=.pointer (some ⟨B.b,B.o+off,none⟩)) (by simp only[VR];exact⟨B,hB,rfl⟩)
 cases ea;exact⟨xs,hxs,run_firstCells_some w esz n _ len k xs hlen hcell,run_firstCells_some w.drew esz n _ len k xs hlen (by simpa using hcell)⟩
theorem pZ(r:Rel P w0 φ s.get w){off len k:Nat}{B:Blk}{t:Nat}{cs l:List AV}{e fz:Bool}(hg:s.get id=some (.row t cs e fz))(hB:φ id=some B)(hc:cut cs off (n*esz)=some l):
  ∃xs:List Value,VRL φ l xs∧(Builtin.firstCells esz n (.slice (some ⟨B.b,B.o+off,none⟩) len k)).run P w=.ok xs.toArray w∧(Builtin.firstCells esz n (.slice (some ⟨B.b,B.o+off,none⟩) len k)).run P w.drew=.ok xs.toArray w.drew:=by
 have hld:vo [] s (.ptr id off) (n*esz)=some l:=by simp only[vo,hg];exact hc
 obtain⟨a,xs,ea,hlen,hxs,hcell⟩:=vl r (G:=[]) (fun g cs h=>by simp at h) hld (x:=.pointer (some ⟨B.b,B.o+off,none⟩)) (by simp only[VR];exact⟨B,hB,rfl⟩)
 cases ea;exact⟨xs,hxs,run_firstCells_some w esz n _ len k xs hlen hcell,run_firstCells_some w.drew esz n _ len k xs hlen (by simpa using hcell)⟩
theorem jI{need old:Nat}(h:old<need)(hb:2*need*bytes≤281474976710656):Builtin.nextslicecap need old*bytes≤281474976710656:=
 Nat.le_trans (yx _ (nextslicecap_le h)) hb
theorem kE{e need:Nat}{cs:List AV}(h:grow s e esz bytes cs need=some (v,s')):s'.next=s.next+1:=by
 unfold grow at h;cases hb:(zd (zb (zb 2 need) bytes) 281474976710656&&zd 1 esz&&ze need 9223372036854775808)with
 |false=>rw[hb]at h;simp at h
 |true=>
  rw[hb]at h;simp only[cond_true,Option.some.injEq,Prod.mk.injEq]at h;obtain⟨_,rfl⟩:=h;rfl
theorem PW:∀(n:Nat) (l:List AV),n≤l.length→xV n l=some (l.take n)
 |0,l,_=>by simp[xV]
 |n+1,[],h=>by simp at h
 |n+1,v::l,h=>by
  simp only[xV,PW n l (by simpa using h)]
  simp
theorem Vc (r:Rel P w0 φ s.get w)(hwf:Wf s)(hf1:s.next<s'.next→φ s.next=none){ts:Array TypeId}{ty e:TypeId}{x z:AV}{x' y':Value}{new:List AV}{new':List Value}
  (h0:ts[0]? =some t) (ht:P.underlying t=some (.slice e)) (hs:vD P e=some esz) (hby:Vh P e=some bytes) (hz:jq P e=some z) (hzl:z.cells.length=esz) (src:Src P w ts e esz y' n new')
  (hn:0<n) (hnew:VRL φ new new') (hnl:new.length=n*esz) (h:lL s e esz bytes x n new=some (v,s')) (hx:VR φ x x'):
  ∃φ' u w',(Builtin.append_ ts ty #[x',y']).run P w=.ok u w'∧Step P w0 φ s w φ' s' w'∧VR φ' v u:=by
 obtain⟨zx,hzr,hzv⟩:=qF hz;have hzs:zx.cells.size=esz:=by rw[←hzl,VRL.length (hzv φ).cells];simp
 obtain⟨i,hi,his⟩:=Qa hs;obtain⟨i',hi',hib⟩:=YF hby;rw[hi]at hi';cases hi';unfold lL at h;split at h
 ·simp only[VR]at hx;subst hx;cases hmd:(s.md&&xN new)with
  |true=>
   rw[hmd]at h;simp only[cond_true]at h;have hf:=hf1 (by rw[jC h];omega)
   obtain⟨φ',h1,h2,h3,h4⟩:=gJ (w:=w) (xs:=new'.toArray) (cap:=grownCap w n 0 e) (z:=zx.cells) r hwf hf h hn (by simpa using hnew) hnl hzs (ug _ _ _ _)
   refine⟨φ',_,_,?_,h1,h2⟩;have hg:=src.grow t ty i zx none 0 0 #[] h0 ht hi his (hzr _) oM oM (by rw[yC];exact jI oM (by rw[hib];exact h3)) (run_firstCells_none _ _ _ _ _)
   rw[hg];simp
  |false=>
  rw[hmd]at h;simp only[cond_false]at h;have hf:=hf1 (by rw[kE h];omega)
  obtain⟨φ',h1,h2,h3,h4⟩:=Ys (w:=w) (xs:=new'.toArray) (cap:=grownCap w n 0 e) (z:=zx.cells) r hwf hf h (by simpa using hnew) hnl hzs (ug _ _ _ _)
  refine⟨φ',_,_,?_,h1,h2⟩;have hg:=src.grow t ty i zx none 0 0 #[] h0 ht hi his (hzr _) oM oM (by rw[yC];exact jI oM (by rw[hib];exact h3)) (run_firstCells_none _ _ _ _ _)
  rw[hg];simp
 · -- a frozen slice whose capacity is its length
  rename_i k ex cs
  cases ex with
  |false=>simp at h
  | true=>
   simp only[cond_true]at h;cases hc:xV (zb k esz) cs with
   |none=>rw[hc]at h;simp at h
   | some old=>
    rw[hc]at h;simp only at h;have hf:=hf1 (by rw[jC h];omega)
    obtain⟨r0,_,hol⟩:=u4 hc;have hol':old.length=k*esz:=hol;have hlen:(old++new).length=(k+n)*esz:=by rw[yl,hol',hnl,yq]
    simp only[VR]at hx;obtain⟨hp,⟨rfl,a,rfl⟩|⟨b,o,k',ys,rfl,hk,_,hz1,hy1⟩⟩:=hx
    ·obtain rfl:old=[]:=yr (by rw[hol'];simp)
     obtain⟨φ',h1,h2,h3,h4⟩:=gJ (w:=w) (xs:=new'.toArray) (cap:=grownCap w (0+n) 0 e) (z:=zx.cells) r hwf hf h (by show 0<0+n;omega) (by simpa using hnew) hlen hzs (ug _ _ _ _)
     refine⟨φ',_,_,?_,h1,h2⟩;have hg:=src.grow t ty i zx a 0 0 #[] h0 ht hi his (hzr _) oM oM (jI oM (by rw[hib];exact h3)) (by cases a with|none=>exact run_firstCells_none _ _ _ _ _|some a=>exact run_firstCells_some _ esz 0 a 0 0 [] (by simp) (by simp))
     rw[hg];simp
    ·obtain rfl:=hk trivial;obtain⟨xs,hxs,_,hfd⟩:=ky (P:=P) (len:=k') (k:=k') r (by simp only[VR];exact⟨hp,b,o,ys,rfl,hz1,hy1⟩) hc
     obtain⟨φ',h1,h2,h3,h4⟩:=gJ (w:=w) (xs:=xs.toArray++new'.toArray) (cap:=grownCap w (k'+n) k' e) (z:=zx.cells) r hwf hf h (by show 0<k'+n;omega) (by simpa using VRL.append hxs hnew) hlen hzs (ug _ _ _ _)
     refine⟨φ',_,_,?_,h1,h2⟩;exact src.grow t ty i zx (some _) k' k' xs.toArray h0 ht hi his (hzr _) oM h4 (jI oM (by rw[hib];exact h3)) hfd
 · -- one that may grow
  rename_i id esz' k cs
  split at h
  ·rename_i t0 cells hg
   cases hb:(za esz esz'&&za t0 e&&za (wY cells) (wY cs)&&xZ new)with
   |false=>rw[hb]at h;simp at h
   | true=>
    rw[hb]at h;simp only[cond_true]at h;simp only[zl,xT,wE]at hb;obtain⟨⟨⟨rfl,rfl⟩,hcl⟩,hsc⟩:=hb;have hf:=hf1 (by rw[jC h];exact zV _)
    simp only[VR]at hx;obtain⟨hp,hcn,hk0,he,B,ys,hB,rfl,hkK,hz1,hy1⟩:=hx;obtain⟨B',hB',c,fr,g1,g2,g3,g4,g5,g6⟩:=r.obj id _ hg;rw[hB]at hB';cases hB';have hsep:=r.sep id _ B hg hB;simp only[SepOf]at hsep;have hyl:=hy1.length;have hlen:(cs++new).length=(k+n)*esz:=by rw[yl,hcn,hnl,yq]
    have hxl:=VRL.length hnew;have hmul:(k+n)*esz=k*esz+n*esz:=yq _ _ _;by_cases hle:k+n≤B.tot/esz
    · -- it stays
     obtain⟨hb1,hb2,hb3,hpp,rfl,rfl⟩:=X5 h;have hfit:(k+n)*esz≤B.tot:=by rw[yw he]at hle;exact hle
     have hrun:=run_storeCells_cells (P:=P) B.b (B.o+k*esz) new' 0 w
      (fun j hj=>by rw[u0 g1];simp;omega)
      (fun j hj=>by
       rw[l8 g1];have:¬(B.o+k*esz+0+j<fr.2):=oM;rw[decide_eq_false this,Bool.and_false])
      (uT hnew hsc)
     obtain⟨f1,f2,f3,f4,f5⟩:=jl new' w B.b (B.o+k*esz+0);obtain⟨c',k1,k2⟩:=gR new' w B.b (B.o+k*esz+0) c t0 fr g1 oM;have hsz:c'.size=c.size:=by rw[←yo,k2];simp;omega
     have hlow:∀i,i<B.o+k*esz→c'[i]? =c[i]? :=fun i hi=>by
      rw[←zu,k2,ym (by simp;omega),ym (by simp;omega),zy,if_pos oM,zu]
     obtain⟨zz,hzz⟩:∃zz:Nat→Nat→Option Value,zz=fun b i=>if b=B.b∧B.o+k*esz≤i∧i<B.o+(k+n)*esz then c'[i]? else φ.z b i:=⟨_,rfl⟩;have hz0:∀i v,φ.z B.b i=some v→i<B.o+k*esz:=fun i v hv=>by
      apply Nat.lt_of_not_le;intro hge;rw[hsep i oM]at hv;cases hv
     have hzin:∀b i v,φ.z b i=some v→zz b i=some v:=fun b i v hv=>by
      rw[hzz];simp only;by_cases eb:b=B.b
      ·subst eb;have:=hz0 i v hv;rw[if_neg oM];exact hv
      ·rw[if_neg (fun h=>eb h.1)];exact hv
     have hsub:Sub φ ((φ.set s.next B).zset zz):=⟨(Phi.set_sub (B:=B) hf).of,hzin⟩
     have hys:∀i y,ys[i]? =some y→c[B.o+i]? =some y:=fun i y hi=>by
      obtain⟨c2,e2,fr2,q1,q2⟩:=r.frz _ _ _ (hz1.at hi);rw[g1]at q1;cases q1;exact q2
     have hcnew:∀i y,new'[i]? =some y→c'[B.o+k*esz+i]? =some y:=fun i y hi=>by
      have hlt:=(List.getElem?_eq_some_iff.1 hi).1;rw[←zu,k2,yF,ym (by simp;omega),yA (by simp;omega)]
      have:(c.toList.take (B.o+k*esz)).length=B.o+k*esz:=by rw[List.length_take,yo];omega
      rw[this,Nat.add_sub_cancel_left];exact hi
     have hcell:∀i y,(ys++new')[i]? =some y→c'[B.o+i]? =some y:=fun i y hi=>by
      by_cases hl:i<ys.length
      ·rw[ym hl]at hi;rw[hlow _ oM];exact hys i y hi
      ·rw[yA oM]at hi;have:=hcnew _ _ hi;rw[show B.o+k*esz+(i-ys.length)=B.o+i by omega]at this;exact this
     have hzc:ZC ((φ.set s.next B).zset zz) B.b B.o (ys++new'):=ZC.of fun i y hi=>by
      have hlt:=(List.getElem?_eq_some_iff.1 hi).1;rw[yl]at hlt;show zz B.b (B.o+i)=some y;by_cases hl:i<ys.length
      ·rw[ym hl]at hi;exact hzin _ _ _ (hz1.at hi)
      ·rw[hzz];simp only;rw[if_pos ⟨trivial,oM,oM⟩];exact hcell i y hi
     have hall:VRL ((φ.set s.next B).zset zz) (cs++new) (ys++new'):=VRL.mono hsub _ _ (VRL.append hy1 hnew)
     refine⟨(φ.set s.next B).zset zz,.slice (some ⟨B.b,B.o,none⟩) (k+n) (B.tot/esz),_,?_,Step.moveZ r hf (B':=B) hg hB rfl f5 f1 f2 f3 f4 ?_ ?_ ?_ ?_ ?_ rfl,?_⟩
     ·rw[src.stay t ty (some _) k _ h0 ht hle];simp only[qM,hrun,Result.andThen_ok]
     ·intro b hb i;rw[hzz];simp only;rw[if_neg (fun h=>hb h.1)]
     ·exact fun i v hv=>hzin _ i v hv
     ·intro i v hv;rw[hzz]at hv;simp only at hv;refine⟨c',t0,fr,k1,?_⟩;by_cases hc:True∧B.o+k*esz≤i∧i<B.o+(k+n)*esz
      ·rw[if_pos hc]at hv;exact hv
      ·rw[if_neg hc]at hv;obtain⟨c2,e2,fr2,q1,q2⟩:=r.frz _ _ _ hv;rw[g1]at q1;cases q1;rw[hlow i (hz0 i v hv)];exact q2
     ·intro i hi;have hi':B.o+(cs++new).length≤i:=hi;rw[hlen]at hi';rw[hzz];simp only;rw[if_neg oM];exact hsep i oM
     ·refine⟨c',fr,k1,by rw[hsz];exact g2,by simp only[hlen];exact hfit,?_,g5,by simp only[hlen];omega⟩
      have key:(c'.toList.drop B.o).take (cs++new).length=ys++new':=by
       apply List.ext_getElem?;intro i;rw[zy];by_cases hl:i<(cs++new).length
       ·rw[if_pos hl,List.getElem?_drop,zu];have hl2:i<(ys++new').length:=by rw[yl]at hl⊢;omega
        rw[hcell i _ (yv hl2),yv hl2]
       ·rw[if_neg hl,List.getElem?_eq_none (by rw[yl]at hl⊢;omega)]
      rw[key];exact hall
     ·simp only[VR];exact⟨hpp,hlen,by show 0<k+n;omega,he,B,ys++new',if_pos rfl,rfl,hle,hzc,hall⟩
    ·have hlt:B.tot/esz<k+n:=oM;have hd:=Step.del r id hg;obtain⟨xs,hxs,_,hfd⟩:=ky (P:=P) (n:=k) (esz:=esz) (len:=k) (k:=B.tot/esz) (l:=cs) r (by simp only[VR];exact⟨hp,B.b,B.o,ys,rfl,hz1,hy1⟩) (by rw[PW _ _ oM,zE oM])
     obtain⟨φ',h1,h2,h3,h4⟩:=gJ (w:=w) (xs:=xs.toArray++new'.toArray) (cap:=grownCap w (k+n) (B.tot/esz) t0) (z:=zx.cells) hd.rel (hd.ext.wf hwf) hf h (by show 0<k+n;omega) (by simpa using VRL.append hxs hnew) hlen hzs (ug _ _ _ _)
     refine⟨φ',_,_,?_,Step.trans hwf hd h1,h2⟩;exact src.grow t ty i zx (some _) k _ xs.toArray h0 ht hi his (hzr _) hlt h4 (jI hlt (by rw[hib];exact h3)) hfd
  ·cases h
 ·rename_i id off len c
  split at h
  ·rename_i t0 cs ex fz hg
   simp only[VR]at hx;obtain⟨B,k,hB,rfl,hk⟩:=hx;have hptr:VR φ (.ptr id (zc off (zb len esz))) (.pointer (some ⟨B.b,B.o+(off+len*esz),none⟩)):=by simp only[VR];exact⟨B,hB,rfl⟩
   have hadd:Addr.add ⟨B.b,B.o+off,none⟩ (len*esz)=⟨B.b,B.o+(off+len*esz),none⟩:=by rw[qM];congr 1;omega
   split at h
   ·rename_i k'
    simp only at hk;subst hk;cases hb:zd (zc len n) k with
    | true=>
     rw[hb]at h;simp only[cond_true]at h;cases hst:ur s (.ptr id (zc off (zb len esz))) new with
     |none=>rw[hst]at h;simp at h
     |some s1=>
      rw[hst]at h;simp only[Option.some.injEq,Prod.mk.injEq]at h;obtain⟨rfl,rfl⟩:=h;obtain⟨a,w',ea,h1,h2⟩:=pw (P:=P) r hst hptr hnew;cases ea;refine⟨φ,.slice (some ⟨B.b,B.o+off,none⟩) (len+n) k,w',?_,h2,?_⟩
      ·rw[src.stay t ty (some _) len k h0 ht (xR.1 hb)];simp only[hadd,h1,Result.andThen_ok]
      ·simp only[VR];exact⟨B,k,hB,rfl,rfl⟩
    | false=>
     rw[hb]at h;simp only[cond_false]at h;have hlt:k<len+n:=by
      apply Nat.lt_of_not_le;intro hh;rw[show zd (zc len n) k=true from xR.2 hh]at hb;cases hb
     cases hc:cut cs off (zb len esz)with
     |none=>rw[hc]at h;simp at h
     |some old=>
      rw[hc]at h;simp only at h;have hf:=hf1 (by rw[kE h];omega)
      obtain⟨xs,hxs,_,hfd⟩:=pZ (len:=len) (k:=k) r hg hB hc;have hol:=(cut_some hc).1;obtain⟨φ',h1,h2,h3,h4⟩:=Ys (w:=w) (xs:=xs.toArray++new'.toArray) (cap:=grownCap w (len+n) k e) (z:=zx.cells) r hwf hf h (by simpa using VRL.append hxs hnew) (by rw[yl,hol,hnl];show len*esz+n*esz=(len+n)*esz;rw[yq]) hzs (ug _ _ _ _)
      refine⟨φ',_,_,?_,h1,h2⟩;exact src.grow t ty i zx (some _) len k xs.toArray h0 ht hi his (hzr _) hlt h4 (jI hlt (by rw[hib];exact h3)) hfd
   ·rename_i esz'
    simp only at hk;obtain⟨he,hk,hlk,hot⟩:=hk;cases hb:(za esz esz'&&ex&& !fz)with
    |false=>rw[hb]at h;simp at h
    | true =>
     rw[hb]at h;simp only[cond_true]at h;simp only[zl,xT,Bool.not_eq_true']at hb;obtain⟨⟨rfl,rfl⟩,rfl⟩:=hb;obtain⟨B',hB',c,fr,g1,g2,g3,g4,g5,g6,g7⟩:=r.obj id _ hg;rw[hB]at hB';cases hB';cases hb2:zd (zc off (zb (zc len n) esz)) (wY cs)with
     | true=>
      rw[hb2]at h;simp only[cond_true]at h;rw[xR,wE]at hb2;have hb2':off+(len+n)*esz≤cs.length:=hb2;have hle:len+n≤k:=by rw[hk,yw he];omega
      cases hst:ur s (.ptr id (zc off (zb len esz))) new with
      |none=>rw[hst]at h;simp at h
      |some s1=>
       rw[hst]at h;simp only[Option.some.injEq,Prod.mk.injEq]at h;obtain⟨rfl,rfl⟩:=h;obtain⟨a,w',ea,h1,h2⟩:=pw (P:=P) r hst hptr hnew;cases ea;refine⟨φ,.slice (some ⟨B.b,B.o+off,none⟩) (len+n) k,w',?_,h2,?_⟩
       ·rw[src.stay t ty (some _) len k h0 ht hle];simp only[hadd,h1,Result.andThen_ok]
       ·simp only[VR];exact⟨B,k,hB,rfl,he,hk,hle,hot⟩
     | false =>
      rw[hb2]at h;simp only[cond_false]at h;cases hb3:(xZ new&&za t0 e)with
      |false=>rw[hb3]at h;simp at h
      | true =>
       rw[hb3]at h;simp only[cond_true]at h;simp only[zl,xT]at hb3;obtain⟨hsc,rfl⟩:=hb3;cases hc:cut cs off (zb len esz)with
       |none=>rw[hc]at h;simp at h
       | some old=>
        rw[hc]at h;simp only at h;have hf:=hf1 (by rw[kE h];exact zV _)
        obtain⟨xs,hxs,_,hfd⟩:=pZ (len:=len) (k:=k) r hg hB hc;obtain⟨hol,hcb,hold⟩:=cut_some hc;have hol':old.length=len*esz:=hol;have hlen:(old++new).length=(len+n)*esz:=by rw[yl,hol',hnl,yq]
        by_cases hle:len+n≤k
        · -- it stays
         have hxl:=VRL.length hnew;have hfit:(len+n)*esz≤B.tot-off:=by rw[hk,yw he]at hle;exact hle
         have hmul:(len+n)*esz=len*esz+n*esz:=yq _ _ _
         have hrun:=run_storeCells_cells (P:=P) B.b (B.o+(off+len*esz)) new' 0 w
          (fun j hj=>by rw[u0 g1];simp;omega)
          (fun j hj=>by
           rw[l8 g1];have:=g7 rfl (B.o+(off+len*esz)+0+j) oM;simp at this⊢;exact this)
          (uT hnew hsc)
         obtain⟨f1,f2,f3,f4,f5⟩:=jl new' w B.b (B.o+(off+len*esz)+0);obtain⟨c',k1,k2⟩:=gR new' w B.b (B.o+(off+len*esz)+0) c t0 fr g1 oM;have hsz:c'.size=c.size:=by rw[←yo,k2];simp;omega
         unfold grow at h;cases hb4:(zd (zb (zb 2 (zc len n)) bytes) 281474976710656&&zd 1 esz&&ze (zc len n) 9223372036854775808)with
         |false=>rw[hb4]at h;simp at h
         | true=>
          rw[hb4]at h;simp only[cond_true,Option.some.injEq,Prod.mk.injEq]at h;obtain⟨rfl,rfl⟩:=h;have hsub:=Phi.set_sub (B:=⟨B.b,B.o+off,B.tot-off⟩) hf;refine⟨_,.slice (some ⟨B.b,B.o+off,none⟩) (len+n) k,_,?_,Step.move r hf (B':=⟨B.b,B.o+off,B.tot-off⟩) hg hB rfl f5 f1 f2 f3 f4 ?_,?_⟩
          ·rw[src.stay t ty (some _) len k h0 ht hle];simp only[hadd,hrun,Result.andThen_ok]
          ·refine⟨c',fr,k1,by simp only;omega,by simp only;rw[hlen];exact hfit,(fun h=>by cases h),?_,g6,fun _=>by rw[hsz];exact g7 rfl⟩
           simp only;have key:(c'.toList.drop (B.o+off)).take (old++new).length=(((c.toList.drop B.o).take cs.length).drop off).take (len*esz)++new':=by
            rw[k2,hlen,hmul];have hp:B.o+(off+len*esz)+0=B.o+off+len*esz:=oM;rw[hp,List.append_assoc,List.drop_append_of_le_length (by simp;omega),List.drop_take]
            have a1:B.o+off+len*esz-(B.o+off)=len*esz:=oM;rw[a1,List.take_append];have a2:((c.toList.drop (B.o+off)).take (len*esz)).length=len*esz:=by simp;omega
            rw[a2,List.take_append];have a3:len*esz+n*esz-len*esz=n*esz:=oM;have a4:n*esz-new'.length=0:=oM;rw[a3,a4,List.take_zero,List.append_nil]
            congr 1
            ·rw[List.take_take,Nat.min_eq_right oM,List.drop_take,List.drop_drop,List.take_take]
             congr 1
             have hcb':off+len*esz≤cs.length∨len*esz=0:=hcb;omega
            ·exact zE oM
           rw[key];have hco:=VRL.cut g5 hc;exact VRL.append (VRL.mono hsub _ _ hco) (VRL.mono hsub _ _ hnew)
          ·simp only[VR];exact⟨⟨B.b,B.o+off,B.tot-off⟩,k,by simp[Phi.set,St.del],by simp,he,by simpa using hk,hle,zK _⟩
        ·have hlt:k<len+n:=oM;have hd:=Step.del r id hg;obtain⟨φ',h1,h2,h3,h4⟩:=Ys (w:=w) (xs:=xs.toArray++new'.toArray) (cap:=grownCap w (len+n) k t0) (z:=zx.cells) hd.rel (hd.ext.wf hwf) hf h (by simpa using VRL.append hxs hnew) hlen hzs (ug _ _ _ _)
         refine⟨φ',_,_,?_,Step.trans hwf hd h1,h2⟩;exact src.grow t ty i zx (some _) len k xs.toArray h0 ht hi his (hzr _) hlt h4 (jI hlt (by rw[hib];exact h3)) hfd
  ·cases h
 ·cases h
theorem jh(z:Nat)(s:ByteArray):(Builtin.firstCells z s.size (.string s)).run P w=.ok (s.data.toList.map fun b=>Value.int .u8 (b.toNat:Int)).toArray w:=by
 have e:(s.extract 0 s.size).data=s.data:=by
  apply yu;simp
 simp only[Builtin.firstCells,e,Sem.run_pure]
 congr 1
 apply yu;simp
theorem Jy(r:Rel P w0 φ s.get w)(hwf:Wf s)(hf1:s.next<s'.next→φ s.next=none){ts:Array TypeId}{ty e u:TypeId}{d:TypeDesc}{x y z:AV}{x' y':Value}
  (h0:ts[0]? =some t) (ht:P.underlying t=some (.slice e)) (h1:ts[1]? =some u) (hu:P.underlying u=some d) (hd':d=.string∨∃c,d=.slice c) (hs:vD P e=some esz) (hby:Vh P e=some bytes) (hz:jq P e=some z) (hzl:wY z.cells=esz)
  (h:vC s e esz bytes x y=some (v,s')) (hx:VR φ x x') (hy:VR φ y y'):
  ∃φ' a w',(Builtin.append_ ts ty #[x',y']).run P w=.ok a w'∧Step P w0 φ s w φ' s' w'∧VR φ' v a:=by
 rw [wE]at hzl;unfold vC at h;have key:∀(n:Nat) (new:List AV),uJ y=some n→wS s esz n y=some new→∃new',Src P w ts e esz y' n new'∧VRL φ new new'∧new.length=n*esz:=by
  intro n new hn hc;unfold uJ at hn;unfold wS at hc;split at hn
  ·cases hn;simp only[Option.some.injEq]at hc;subst hc;simp only[VR]at hy;subst hy;exact⟨[],uK h1 hu hd' hs rfl (run_firstCells_none _ _ _ _ _) (run_firstCells_none _ _ _ _ _),VRL.nil φ,by simp⟩
  ·cases hn;simp only[Option.some.injEq]at hc;subst hc;simp only[VR]at hy;obtain⟨a,k,rfl⟩:=hy;exact⟨[],uK h1 hu hd' hs rfl (run_firstCells_some w esz 0 a 0 k [] (by simp) (by simp)) (run_firstCells_some w.drew esz 0 a 0 k [] (by simp) (by simp)),VRL.nil φ,by simp⟩
  ·rename_i id off len c
   simp only[Option.some.injEq]at hn;subst hn;simp only at hc;split at hc
   ·rename_i t0 cs ex fz hg
    simp only[VR]at hy;obtain⟨B,k,hB,rfl,_⟩:=hy;obtain⟨xs,hxs,g1,g2⟩:=pZ (P:=P) (len:=len) (k:=k) r hg hB hc;exact⟨xs,uK h1 hu hd' hs rfl g1 g2,hxs,(cut_some hc).1⟩
   ·rename_i cs hg
    simp only[VR]at hy;obtain⟨B,k,hB,rfl,_⟩:=hy;obtain⟨xs,hxs,g1,g2⟩:=GK (P:=P) (len:=len) (k:=k) r hB (show vo [] s (.ptr id off) (len*esz)=some new by simp only[vo,hg];exact hc)
    exact⟨xs,uK h1 hu hd' hs rfl g1 g2,hxs,(cut_some hc).1⟩
   ·cases hc
  ·rename_i l
   simp only[Option.some.injEq]at hn;subst hn;cases hb:za esz 1 with
   |false=>simp only[hb,cond_false]at hc;cases hc
   | true=>
    simp only[hb,cond_true,Option.some.injEq]at hc;subst hc;rw[xT]at hb;subst hb;simp only[VR]at hy;obtain⟨bs,rfl,rfl⟩:=hy;have hl:wY (qX bs)=bs.size:=by rw[wE,qf]
    rw[hl];refine⟨bs.data.toList.map fun b=>Value.int .u8 (b.toNat:Int),uK h1 hu hd' hs rfl (jh _ bs) (jh _ bs),?_,?_⟩
    ·rw[lF,zE (by rw[qf];exact zo _)]
     exact lN _
    ·rw[lF,zE (by rw[qf];exact zo _),jM,qf];omega
  ·rename_i m ex cs
   simp only[Option.some.injEq]at hn;subst hn;simp only at hc;obtain⟨_,_,hcl⟩:=u4 hc;simp only[VR]at hy;obtain⟨hp,⟨rfl,a,rfl⟩|⟨b,o,k,ys,rfl,_,_,hz1,hy1⟩⟩:=hy
   ·obtain rfl:new=[]:=yr (by rw[hcl];show 0*esz=0;simp)
    cases a with
    |some a=>exact⟨[],uK h1 hu hd' hs rfl (run_firstCells_some w esz 0 a 0 0 [] (by simp) (by simp)) (run_firstCells_some w.drew esz 0 a 0 0 [] (by simp) (by simp)),VRL.nil φ,by simp⟩
    |none=>exact⟨[],uK h1 hu hd' hs rfl (run_firstCells_none _ _ _ _ _) (run_firstCells_none _ _ _ _ _),VRL.nil φ,by simp⟩
   ·obtain⟨xs,hxs,g1,g2⟩:=ky (P:=P) (len:=m) (k:=k) r (by simp only[VR];exact⟨hp,b,o,ys,rfl,hz1,hy1⟩) hc
    exact⟨xs,uK h1 hu hd' hs rfl g1 g2,hxs,hcl⟩
  ·rename_i id e' m cs
   simp only[Option.some.injEq]at hn;subst hn;simp only at hc;obtain⟨_,_,hcl⟩:=u4 hc;simp only[VR]at hy;obtain⟨hp,_,_,_,B,ys,_,rfl,_,hz1,hy1⟩:=hy;obtain⟨xs,hxs,g1,g2⟩:=ky (P:=P) (len:=m) (k:=B.tot/e') r (by simp only[VR];exact⟨hp,B.b,B.o,ys,rfl,hz1,hy1⟩) hc
   exact⟨xs,uK h1 hu hd' hs rfl g1 g2,hxs,hcl⟩
  ·cases hn
 cases hn:uJ y with
 |none=>rw[hn]at h;simp at h
 | some n=>
  rw[hn]at h;cases n with
  | zero=>
   simp only at h;have hsrc:Src P w ts e esz y' 0 []:=by
    unfold uJ at hn;split at hn
    ·simp only[VR]at hy;subst hy;exact uK h1 hu hd' hs rfl (run_firstCells_none _ _ _ _ _) (run_firstCells_none _ _ _ _ _)
    ·simp only[VR]at hy;obtain⟨a,k,rfl⟩:=hy;exact uK h1 hu hd' hs rfl (run_firstCells_some w esz 0 a 0 k [] (by simp) (by simp)) (run_firstCells_some w.drew esz 0 a 0 k [] (by simp) (by simp))
    ·simp only[Option.some.injEq]at hn;subst hn;simp only[VR]at hy;obtain⟨B,k,hB,rfl,_⟩:=hy;exact uK h1 hu hd' hs rfl (run_firstCells_some w esz 0 _ 0 k [] (by simp) (by simp)) (run_firstCells_some w.drew esz 0 _ 0 k [] (by simp) (by simp))
    ·simp only[VR]at hy;obtain⟨bs,rfl,rfl⟩:=hy;simp only[Option.some.injEq,wE,qf]at hn;have hl:bs.data.toList=[]:=by
      apply yr;have:bs.data.size=bs.size:=rfl;simp[this,hn]
     have e1:=fun w=>jh (P:=P) (w:=w) esz bs;rw[hl,hn]at e1;exact uK h1 hu hd' hs (by simp[Builtin.lenOf,hn]) (e1 w) (e1 w.drew)
    ·simp only[Option.some.injEq]at hn;subst hn;simp only[VR]at hy;obtain⟨hp,⟨_,a,rfl⟩|⟨b,o,k,ys,rfl,_⟩⟩:=hy
     ·cases a with
      |some a=>exact uK h1 hu hd' hs rfl (run_firstCells_some w esz 0 a 0 0 [] (by simp) (by simp)) (run_firstCells_some w.drew esz 0 a 0 0 [] (by simp) (by simp))
      |none=>exact uK h1 hu hd' hs rfl (run_firstCells_none _ _ _ _ _) (run_firstCells_none _ _ _ _ _)
     ·exact uK h1 hu hd' hs rfl (run_firstCells_some w esz 0 _ 0 k [] (by simp) (by simp)) (run_firstCells_some w.drew esz 0 _ 0 k [] (by simp) (by simp))
    ·simp only[Option.some.injEq]at hn;subst hn;simp only[VR]at hy;obtain⟨_,_,h0',_⟩:=hy;omega
    ·cases hn
   obtain⟨rfl,g1,g2⟩:=zzi (ty:=ty) r h0 ht hsrc h hx;exact⟨φ,x',w,g1,Step.refl r,g2⟩
  | succ n=>
   simp only at h;cases hc:wS s esz (Nat.succ n) y with
   |none=>rw[hc]at h;simp at h
   |some new=>
    rw[hc]at h;simp only at h;obtain⟨new',src,g2,g3⟩:=key _ _ hn hc;exact Vc r hwf hf1 h0 ht hs hby hz hzl src oM g2 g3 h hx
theorem zzl(r:Rel P w0 φ s.get w)(hwf:Wf s)(hf1:s.next<s'.next→φ s.next=none){ts:Array TypeId}{ty e u:TypeId}{k:IntKind}{x y z:AV}{x' y':Value}
  (h0:ts[0]? =some t) (ht:P.underlying t=some (.slice e)) (h1:ts[1]? =some u) (hu:P.underlying u=some (.int k)) (hs:vD P e=some esz) (hby:Vh P e=some bytes) (hz:jq P e=some z) (hzl:wY z.cells=esz) (he:1≤esz)
  (h:Z3 s e esz bytes z.cells x y=some (v,s')) (hx:VR φ x x') (hy:VR φ y y'):
  ∃φ' a w',(Builtin.append_ ts ty #[x',y']).run P w=.ok a w'∧Step P w0 φ s w φ' s' w'∧VR φ' v a:=by
 obtain⟨zx,hzr,hzv⟩:=qF hz;rw[wE]at hzl;have hzs:zx.cells.size=esz:=by rw[←hzl,VRL.length (hzv φ).cells];simp
 unfold Z3 at h;split at h
 ·cases h
 ·rename_i n
  simp only[VR]at hy;subst hy;cases hb:(zd (zb (Nat.succ n) bytes) 281474976710656&&ze n 9223372036854775807)with
  |false=>rw[hb]at h;simp at h
  |true=>
   rw[hb]at h;simp only[cond_true]at h;simp only[zl,xR,wi]at hb;have src:=zmF (P:=P) (w:=w) (n:=n+1) h1 hu hs hby hzr hzs he oM oM hb.1;refine Vc r hwf hf1 h0 ht hs hby hz hzl src oM (VRL.reps (hzv φ).cells _) ?_ h hx;rw[j5,hzl]
 ·cases h
theorem zwU{ts:Array TypeId}{ty e:TypeId}{x:AV}{x':Value}(h0:ts[0]? =some t)(ht:P.underlying t=some (.slice e))(h:ztj x=some v)(hx:VR φ x x'):
  ∃y,(Builtin.cap_ ts ty #[x']).run P w=.ok y w∧VR φ v y:=by
 unfold ztj at h;split at h
 ·cases h;simp only[VR]at hx;subst hx;exact⟨goInt 0,by simp[Builtin.cap_,h0,xw ht],by simp only[VR];rfl⟩
 ·rename_i id off len n
  cases h;simp only[VR]at hx;obtain⟨B,k,hB,rfl,rfl⟩:=hx;exact⟨goInt k,by simp[Builtin.cap_,h0,xw ht],by simp only[VR];rfl⟩
 ·cases h
def vS(P:Program)(w0:World)(φ:Phi)(s:St)(w:World)(a:Act)(o:Oper)(v:AV)(s':St):Prop:=
 ∃φ' x w',((execOp a.eval o).run P w=.ok (.value x) w'∨(execOp a.eval o).run P w=.ok .skip w'∧x=undef)∧Step P w0 φ s w φ' s' w'∧VR φ' v x
theorem ZV(φ:Phi):VR φ qc undef:=by simp only[qc,VR];exact⟨[],rfl,VRL.nil φ⟩
theorem Yl{a:Act}{o:Oper}{x:Value}{S:Sem Value}(e:execOp a.eval o=(do pure (.value (←S))))(h:S.run P w=.ok x w')(hs:Step P w0 φ s w φ' s' w')(hv:VR φ' v x):vS P w0 φ s w a o v s':=
 ⟨φ',x,w',.inl (by rw[e];simp[h]),hs,hv⟩
theorem zz2{a:Act}{o:Oper}{S:Sem Unit}(e:execOp a.eval o=(do S;pure .skip))(h:S.run P w=.ok () w')(hs:Step P w0 φ s w φ' s' w')(hv:v=qc):vS P w0 φ s w a o v s':=
 ⟨φ',undef,w',.inr ⟨by rw[e];simp[h],rfl⟩,hs,hv▸ZV φ'⟩
theorem qA{a:Act}{o:Oper}{S:Sem Value}(r:Rel P w0 φ s.get w)(e:execOp a.eval o=(do pure (.value (←S))))(hs:s'=s)(h:∃x,S.run P w=.ok x w∧VR φ v x):vS P w0 φ s w a o v s':=by
 obtain⟨x,h1,h2⟩:=h;subst hs;exact Yl e h1 (Step.refl r) h2
theorem lX{a:Act}{o:Oper}{S:Sem Value}(e:execOp a.eval o=(do pure (.value (←S))))(h:∃φ' x w',S.run P w=.ok x w'∧Step P w0 φ s w φ' s' w'∧VR φ' v x):vS P w0 φ s w a o v s':=by
 obtain⟨φ',x,w',h1,h2,h3⟩:=h;exact Yl e h1 h2 h3
section
variable {tm:Trie AV}{s s':St}{v:AV}
theorem vO{x:Option AV}(h:kB s x=some (v,s')):x=some v∧s'=s:=by
 cases x with
 |none=>simp[kB]at h
 |some u=>simp only[kB,Option.some.injEq,Prod.mk.injEq]at h;exact⟨by rw[h.1],h.2.symm⟩
theorem wA{x:Opd}{f:AV→Option AV}(h:v1 tm s x f=some (v,s')):∃u,x.ev tm=some u∧f u=some v∧s'=s:=by
 unfold v1 at h;split at h
 ·rename_i u hu;obtain⟨h1,h2⟩:=vO h;exact⟨u,hu,h1,h2⟩
 ·cases h
theorem vc{x y:Opd}{f:AV→AV→Option AV}(h:v2 tm s x y f=some (v,s')):∃u z,x.ev tm=some u∧y.ev tm=some z∧f u z=some v∧s'=s:=by
 unfold v2 at h;split at h
 ·rename_i u hu
  split at h
  ·rename_i z hz;obtain⟨h1,h2⟩:=vO h;exact⟨u,z,hu,hz,h1,h2⟩
  ·cases h
 ·cases h
theorem vV{x:Opd}{f:AV→Option (AV×St)}(h:o1 tm x f=some (v,s')):∃u,x.ev tm=some u∧f u=some (v,s'):=by
 unfold o1 at h;split at h
 ·rename_i u hu;exact⟨u,hu,h⟩
 ·cases h
theorem uH{x y:Opd}{f:AV→AV→Option (AV×St)}(h:o2 tm x y f=some (v,s')):∃u z,x.ev tm=some u∧y.ev tm=some z∧f u z=some (v,s'):=by
 unfold o2 at h;split at h
 ·rename_i u hu
  split at h
  ·rename_i z hz;exact⟨u,z,hu,hz,h⟩
  ·cases h
 ·cases h
theorem GY{x y z:Opd}{f:AV→AV→AV→Option (AV×St)}(h:o3 tm x y z f=some (v,s')):∃a b c,x.ev tm=some a∧y.ev tm=some b∧z.ev tm=some c∧f a b c=some (v,s'):=by
 unfold o3 at h;split at h
 ·rename_i a ha
  split at h
  ·rename_i b hb
   split at h
   ·rename_i c hc;exact⟨a,b,c,ha,hb,hc,h⟩
   ·cases h
  ·cases h
 ·cases h
theorem QW{x:Opd}{lo hi:Option Opd}{f:AV→Option AV→Option AV→Option AV}(h:vs3 tm s x lo hi f=some (v,s')):∃a b c,x.ev tm=some a∧evO tm lo=some b∧evO tm hi=some c∧f a b c=some v∧s'=s:=by
 unfold vs3 at h;split at h
 ·rename_i a ha
  split at h
  ·rename_i b hb
   split at h
   ·rename_i c hc;obtain⟨h1,h2⟩:=vO h;exact⟨a,b,c,ha,hb,hc,h1,h2⟩
   ·cases h
  ·cases h
 ·cases h
theorem Hn{x:Opd}{lo hi mx:Option Opd}{f:AV→Option AV→Option AV→Option AV→Option AV}(h:vs4 tm s x lo hi mx f=some (v,s')):∃a b c d,x.ev tm=some a∧evO tm lo=some b∧evO tm hi=some c∧evO tm mx=some d∧f a b c d=some v∧s'=s:=by
 unfold vs4 at h;split at h
 ·rename_i d hd
  obtain⟨a,b,c,h1,h2,h3,h4,h5⟩:=QW h;exact⟨a,b,c,d,h1,h2,h3,hd,h4,h5⟩
 ·cases h
theorem Hl{l m:List Opd}{f:List AV→List AV→Option AV}(h:vLL tm s l m f=some (v,s')):∃a b,evL tm l=some a∧evL tm m=some b∧f a b=some v∧s'=s:=by
 unfold vLL at h;split at h
 ·rename_i a ha
  split at h
  ·rename_i b hb;obtain⟨h1,h2⟩:=vO h;exact⟨a,b,ha,hb,h1,h2⟩
  ·cases h
 ·cases h
theorem Lr{x:Option Opd}{b:Option AV}(h:evO tm x=some b):(x=none↔b=none):=by
 cases x with
 |none=>simp[evO]at h;simp[←h]
 |some y=>
  simp only[evO]at h;cases hy:y.ev tm with
  |none=>rw[hy]at h;simp at h
  |some u=>rw[hy]at h;simp at h;simp[←h]
end
theorem vA(h:s.alloc o=s'):s.next<s'.next:=by subst h;exact Nat.lt_succ_self _
theorem zui{e len:Nat}{x:Option (List AV)}(h:Xr s e len x=some (v,s')):s.next≤s'.next:=by
 cases x with
 |none=>simp[Xr]at h
 |some l=>
  simp only[Xr]at h;cases hb:(s.md&&xN l)with
  |true=>rw[hb]at h;simp only[cond_true,Option.some.injEq,Prod.mk.injEq]at h;rw[h.2];exact zo _
  |false=>rw[hb]at h;simp only[cond_false,Option.some.injEq,Prod.mk.injEq]at h;exact Nat.le_of_lt (vA h.2)
theorem KE{e b:Nat}{z:List AV}{l c:AV}(h:Jm s e b z l c=some (v,s')):s.next<s'.next:=by
 unfold Jm at h;split at h
 ·rename_i l
  split at h
  ·rename_i c
   cases hb:(zd l c&&zd (zb c b) 281474976710656&&ze c 9223372036854775808)with
   |false=>rw[hb]at h;simp at h
   |true=>rw[hb]at h;simp only[cond_true,Option.some.injEq,Prod.mk.injEq]at h;exact vA h.2
  ·cases h
 ·cases h
theorem zuj{e:Nat}{x:AV}(h:Qw s e x=some (v,s')):s.next≤s'.next:=by
 unfold Qw at h;split at h
 ·rename_i t
  cases hb:ze (wY t) 9223372036854775808 with
  |false=>rw[hb]at h;simp at h
  |true=>
   rw[hb]at h;simp only[cond_true]at h;cases hm:s.md with
   |true=>rw[hm]at h;simp only[cond_true,Option.some.injEq,Prod.mk.injEq]at h;rw[h.2];exact zo _
   |false=>rw[hm]at h;simp only[cond_false,Option.some.injEq,Prod.mk.injEq]at h;exact Nat.le_of_lt (vA h.2)
 ·cases h
theorem Pj{x:AV}(h:oRs s x=some (v,s')):s.next<s'.next:=by
 unfold oRs at h;split at h
 ·simp only[Option.some.injEq,Prod.mk.injEq]at h;exact vA h.2
 ·cases h
theorem Pi{x:AV}(h:oRm s x=some (v,s')):s.next<s'.next:=by
 unfold oRm at h;split at h
 ·simp only[Option.some.injEq,Prod.mk.injEq]at h;exact vA h.2
 ·split at h
  ·simp only[Option.some.injEq,Prod.mk.injEq]at h;exact vA h.2
  ·cases h
 ·cases h
theorem LW{α:Type}{a:Array α}{x y:α}(h:a.toList=[x,y]):a=#[x,y]:=by apply Array.ext';exact h
theorem LV{α:Type}{a:Array α}{x:α}(h:a.toList=[x]):a=#[x]:=by apply Array.ext';exact h
theorem Xo{α:Type}{a:Array α}{x:α}{l:List α}(h:a.toList=x::l):a[0]? =some x:=by rw[←Array.getElem?_toList,h];rfl
theorem zr4{α:Type}{a:Array α}{x y:α}{l:List α}(h:a.toList=x::y::l):a[1]? =some y:=by rw[←Array.getElem?_toList,h];rfl
theorem GI{a:Act}{o:Oper}{c:Call}{b:Builtin}(ho:o.op=.call c)(hc:c.callee=.builtin b):execOp a.eval o=(builtin b c.argTypes o.type (c.args.map fun|.const _=>true|_=>false) (c.args.map a.eval)):=by
 unfold execOp;rw[ho];simp only[resolve,hc];rfl
theorem Yz{P:Program}{w:World}{φ:Phi}:∀{r:List AV} {x v:AV} {x':Value} {ys:List Value},Wg false x r=some v→VR φ x x'→VRL φ r ys→∃z,(ys.foldlM Builtin.min2 x').run P w=.ok z w∧VR φ v z
 |[],x,v,x',ys,h,hx,hr=>by
  simp only[Wg,Option.some.injEq]at h;subst h;simp only[VRL]at hr;subst hr;exact⟨x',by simp,hx⟩
 | y::r,x,v,x',ys,h,hx,hr=>by
  simp only[VRL]at hr;obtain⟨y',ys',rfl,hy,hr⟩:=hr;cases x<;>cases y<;>simp only[Wg]at h<;>first|(cases h;done)|skip
  rename_i k a k' b
  simp only[VR]at hx hy;subst hx;subst hy;simp only[cond_false,kh]at h;have hm:(Builtin.min2 (.int k a) (.int k' b))=pure (.int k (if b<a then b else a)):=rfl;simp only[List.foldlM_cons,hm];by_cases hb:b<a
  ·rw[decide_eq_true hb]at h;simp only[cond_true]at h;rw[if_pos hb];obtain⟨z,g1,g2⟩:=Yz (P:=P) (w:=w) (x':=.int k b) h (by simp only[VR]) hr
   exact⟨z,by simpa using g1,g2⟩
  ·rw[decide_eq_false hb]at h;simp only[cond_false]at h;rw[if_neg hb];obtain⟨z,g1,g2⟩:=Yz (P:=P) (w:=w) (x':=.int k a) h (by simp only[VR]) hr
   exact⟨z,by simpa using g1,g2⟩
theorem Yx{P:Program}{w:World}{φ:Phi}:∀{r:List AV} {x v:AV} {x':Value} {ys:List Value},Wg true x r=some v→VR φ x x'→VRL φ r ys→∃z,(ys.foldlM Builtin.max2 x').run P w=.ok z w∧VR φ v z
 |[],x,v,x',ys,h,hx,hr=>by
  simp only[Wg,Option.some.injEq]at h;subst h;simp only[VRL]at hr;subst hr;exact⟨x',by simp,hx⟩
 | y::r,x,v,x',ys,h,hx,hr=>by
  simp only[VRL]at hr;obtain⟨y',ys',rfl,hy,hr⟩:=hr;cases x<;>cases y<;>simp only[Wg]at h<;>first|(cases h;done)|skip
  rename_i k a k' b
  simp only[VR]at hx hy;subst hx;subst hy;simp only[cond_true,kh]at h;have hm:(Builtin.max2 (.int k a) (.int k' b))=pure (.int k (if b>a then b else a)):=rfl;simp only[List.foldlM_cons,hm];by_cases hb:a<b
  ·rw[decide_eq_true hb]at h;simp only[cond_true]at h;rw[if_pos hb];obtain⟨z,g1,g2⟩:=Yx (P:=P) (w:=w) (x':=.int k b) h (by simp only[VR]) hr
   exact⟨z,by simpa using g1,g2⟩
  ·rw[decide_eq_false hb]at h;simp only[cond_false]at h;rw[if_neg oM];obtain⟨z,g1,g2⟩:=Yx (P:=P) (w:=w) (x':=.int k a) h (by simp only[VR]) hr
   exact⟨z,by simpa using g1,g2⟩
theorem zqf{ts:Array TypeId}{ty:TypeId}{l:List AV}{xs:List Value}(h:vMn false l=some v)(hx:VRL φ l xs):∃z,(Builtin.min_ ts ty xs.toArray).run P w=.ok z w∧VR φ v z:=by
 cases l with
 |nil=>simp[vMn]at h
 |cons x r=>
  simp only[VRL]at hx;obtain⟨y,ys,rfl,h1,h2⟩:=hx;exact Yz h h1 h2
theorem zqg{ts:Array TypeId}{ty:TypeId}{l:List AV}{xs:List Value}(h:vMn true l=some v)(hx:VRL φ l xs):∃z,(Builtin.max_ ts ty xs.toArray).run P w=.ok z w∧VR φ v z:=by
 cases l with
 |nil=>simp[vMn]at h
 |cons x r=>
  simp only[VRL]at hx;obtain⟨y,ys,rfl,h1,h2⟩:=hx;exact Yx h h1 h2
theorem WB{l:List Opd}{f:List AV→Option AV}(h:vL tm s l f=some (v,s')):∃a,evL tm l=some a∧f a=some v∧s'=s:=by
 unfold vL at h;cases hl:evL tm l with
 |none=>rw[hl]at h;cases h
 |some a=>rw[hl]at h;obtain⟨h1,h2⟩:=vO h;exact⟨a,rfl,h1,h2⟩
theorem WZ(c:UInt8):∀(l:List UInt8) (i:Nat),Lx c.toNat (l.map (·.toNat)) i=(l.findIdx? (· ==c)).map (· +i)
 |[],i=>rfl
 | b::l,i=>by
  simp only[zv,Lx,List.findIdx?_cons];by_cases hb:b=c
  ·subst hb;simp
  ·have h1:za b.toNat c.toNat=false:=by
    cases h:za b.toNat c.toNat with
    |false=>rfl
    |true=>exact absurd (UInt8.toNat_inj.1 (xT.1 h)) hb
   rw[h1,WZ c l (i+1)];simp only[cond_false,beq_iff_eq,hb,if_false,Option.map_map];cases l.findIdx? (· ==c)<;>simp<;>omega
theorem Jl:Extern.allNextRows.lookup "internal/abi.NoEscape"=none:=by kernel_rfl
theorem UB:Extern.allNextRows.lookup ""=none:=by kernel_rfl
theorem GP:Extern.allGenericRows.lookup "internal/abi.NoEscape"=none:=by kernel_rfl
theorem UZ:Extern.allTypedRows.lookup "internal/abi.NoEscape"=none:=by kernel_rfl
theorem Jo:Extern.allRows.lookup "internal/abi.NoEscape"=some Extern.AbiNoEscape.same:=by kernel_rfl
theorem zqi:Extern.allNextRows.lookup "internal/bytealg.IndexByteString"=none:=by kernel_rfl
theorem znG:Extern.allGenericRows.lookup "internal/bytealg.IndexByteString"=none:=by kernel_rfl
theorem zte:Extern.allTypedRows.lookup "internal/bytealg.IndexByteString"=none:=by kernel_rfl
theorem zpj:Extern.allRows.lookup "internal/bytealg.IndexByteString"=some Extern.BytealgIndexByte.indexByte:=by kernel_rfl
theorem Jg{fn:Func}(h:fn.name= "internal/abi.NoEscape")(ho:fn.origin= ""):Extern.findNext fn=none∧Extern.find fn=some Extern.AbiNoEscape.same:=by
 constructor
 ·simp only[Extern.findNext,h,ho,Jl,UB,yy];rfl
 ·simp only[Extern.find,h,GP,UZ,Jo,yy];rfl
theorem zrh{fn:Func}(h:fn.name= "internal/bytealg.IndexByteString")(ho:fn.origin= ""):Extern.findNext fn=none∧Extern.find fn=some Extern.BytealgIndexByte.indexByte:=by
 constructor
 ·simp only[Extern.findNext,h,ho,zqi,UB,yy];rfl
 ·simp only[Extern.find,h,znG,zte,zpj,yy];rfl
theorem UP{f:Nat}{fn:Func}{g:Array Value→Sem Value}{xs:Array Value}{z:Value}(hf:P.funcs[f]? =some fn)(hb:fn.body.isNone=true)(hn:(fn.name== "runtime.NumGoroutine")=false)(h1:Extern.findNext fn=none)(h2:Extern.find fn=some g)
  (hg:(g xs).run P w=.ok z w):(callFunc f xs).run P w=.ok (.value z) w:=by
 have hn':fn.name≠ "runtime.NumGoroutine":=by simpa using hn
 have hb':fn.body=none:=by simpa using hb
 simp[callFunc,hf,hn',hb',h1,h2,hg]
theorem J8{P:Program}{w:World}{a:Act}{o:Oper}{c:Call}{f:Nat}{x:Next}(ho:o.op=.call c)(hc:c.callee=.value (.func f))(h:(callFunc f (c.args.map a.eval)).run P w=.ok x w'):(execOp a.eval o).run P w=.ok x w':=by
 unfold execOp;rw[ho];simp[resolve,hc,Act.eval,Deferred.ofValue,invoke,h]
theorem zyl(b:ByteArray)(c:UInt8):(List.range b.size).find? (fun i=>b[i]! ==c)=b.data.toList.findIdx? (· ==c):=by
 have key:∀(l:List UInt8) (k:Nat) (n:Nat),l.length=n→(∀i,i<n→b[k+i]! =l[i]?.getD 0)→(List.range' k n).find? (fun i=>b[i]! ==c)=(l.findIdx? (· ==c)).map (· +k):=by
  intro l
  induction l with
  |nil=>intro k n hn _;simp at hn;subst hn;rfl
  | cons x l ih=>
   intro k n hn hb;cases n with
   |zero=>simp at hn
   | succ n=>
    have h0:=hb 0 oM;simp at h0;rw[List.range'_succ,List.find?_cons,List.findIdx?_cons,h0];by_cases hx:x=c
    ·subst hx;simp
    ·have hxb:(x==c)=false:=by simpa using hx
     rw[hxb];simp only[Bool.false_eq_true,if_false];rw[ih (k+1) n (by simpa using hn) (fun i hi=>by have:=hb (i+1) oM;rw[show k+(i+1)=k+1+i by omega]at this;simpa using this)]
     cases l.findIdx? (· ==c)<;>simp<;>omega
 have:=key b.data.toList 0 b.size (by simp) (fun i hi=>by
  have hi':i<b.data.toList.length:=by simpa using hi
  simp only[yC];rw[yv hi',Option.getD_some];show b[i]! =_;rw[getElem!_pos b i hi];rfl)
 rw[List.range_eq_range',this];cases b.data.toList.findIdx? (· ==c)<;>simp
theorem zv3{x c:AV}{x' c':Value}(h:zje x c=some v)(hx:VR φ x x')(hc:VR φ c c'):∃z,(Extern.BytealgIndexByte.indexByte #[x',c']).run P w=.ok z w∧VR φ v z:=by
 unfold zje at h;split at h
 ·rename_i t
  split at h
  ·rename_i c
   simp only[VR]at hx hc;obtain⟨bs,rfl,rfl⟩:=hx;subst hc;cases hb:ze c 256 with
   |false=>rw[hb]at h;simp at h
   |true=>
   rw[hb]at h;simp only[cond_true]at h;have hlt:c<256:=wi.1 hb;have hu:((c.toUInt8).toNat)=c:=by rw[Nat.toUInt8,UInt8.toNat_ofNat'];exact Nat.mod_eq_of_lt hlt
   have hf:=WZ c.toUInt8 bs.data.toList 0;rw[hu]at hf;have hf':Lx c (qX bs) 0=(bs.data.toList.findIdx? (· ==c.toUInt8)).map (· +0):=hf;rw[hf']at h
   have hd:Extern.BytealgIndexByte.indexByte #[.string bs,.int .u8 (Int.ofNat c)]=(do
    let b ←Extern.Bytes.bytesOf (.string bs)
    let c ←Extern.Bytes.asByte (.int .u8 (Int.ofNat c))
    match (List.range b.size).find? fun i=>b[i]! ==c with
    |some i=>pure (goInt i)
    |none=>pure (goInt (-1))):=rfl
   rw[hd];simp only[Extern.Bytes.bytesOf,Extern.Bytes.asByte,pure_bind];have e1:(Int.ofNat c).toNat.toUInt8=c.toUInt8:=rfl;rw[e1,zyl];cases hi:bs.data.toList.findIdx? (· ==c.toUInt8)with
   |none=>rw[hi]at h;simp at h;subst h;exact⟨goInt (-1),by simp,by simp only[VR];rfl⟩
   |some i=>rw[hi]at h;simp at h;subst h;exact⟨goInt i,by simp,by simp only[VR];rfl⟩
  ·cases h
 ·cases h
section
variable {P:Program}{w0:World}{φ:Phi}{s s':St}{w:World}{tm:Trie AV}{a:Act}{o:Oper}{v:AV}{E:Env}
theorem wu{x:Opd}{l:List Opd}(ht:TmOn φ (Opd.tmps l) tm a)(hx:x∈l):TmOn φ x.tmp tm a:=
 ht.sub fun _t h=>List.mem_flatMap.2 ⟨x,hx,h⟩
theorem lH{m l:List Opd}(ht:TmOn φ (Opd.tmps l) tm a)(hx:∀x∈m,x∈l):TmOn φ (Opd.tmps m) tm a:=
 ht.sub fun t h=>by
  obtain⟨x,h1,h2⟩:=List.mem_flatMap.1 h;exact List.mem_flatMap.2 ⟨x,hx x h1,h2⟩
theorem Gl{b:Builtin}{c:Call}(_hG:xS E.globs w0)(ho:o.op=.call c)(hcb:c.callee=.builtin b)(hc:pN P b c.argTypes.toList c.args.toList=some op)(h:opv E op tm s=some (v,s'))
  (r:Rel P w0 φ s.get w) (hwf:Wf s) (hf:s.next<s'.next→φ s.next=none) (ht:TmOn φ (Opd.tmps op.opds) tm a):vS P w0 φ s w a o v s':=by
 have he:=GI (a:=a) ho hcb;unfold pN at hc;split at hc
 · --len
  rename_i t rest x hts hxs
  have h0:=Xo hts;have hx:=LV hxs;have he':execOp a.eval o=(do pure (.value (←Builtin.len_ c.argTypes o.type #[a.eval x]))):=by rw[he,hx];simp only[builtin,yj,zv,yB]
  split at hc
  ·rename_i hu
   obtain⟨y,hy,rfl⟩:=Option.map_eq_some_iff.1 hc;simp only[opv]at h;obtain⟨u,h1,h2,h3⟩:=wA h;exact qA r he' h3 (Wc (k:=.s) r h0 hu h2 (xJ hy h1 (wu ht (by simp[IOp.opds]))))
  ·rename_i e hu
   obtain⟨y,hy,rfl⟩:=Option.map_eq_some_iff.1 hc;simp only[opv]at h;obtain⟨u,h1,h2,h3⟩:=wA h;exact qA r he' h3 (Wc (k:=.v) r h0 ⟨e,hu⟩ h2 (xJ hy h1 (wu ht (by simp[IOp.opds]))))
  ·rename_i k e hu
   obtain⟨y,hy,rfl⟩:=Option.map_eq_some_iff.1 hc;simp only[opv]at h;obtain⟨u,h1,h2,h3⟩:=wA h;exact qA r he' h3 (Wc (k:=.m) r h0 ⟨k,e,hu⟩ h2 (xJ hy h1 (wu ht (by simp[IOp.opds]))))
  ·cases hc
 · --cap
  rename_i t rest x hts hxs
  have h0:=Xo hts;have hx:=LV hxs;have he':execOp a.eval o=(do pure (.value (←Builtin.cap_ c.argTypes o.type #[a.eval x]))):=by rw[he,hx];simp only[builtin,yj,zv,yB]
  split at hc
  ·rename_i e hu
   obtain⟨y,hy,rfl⟩:=Option.map_eq_some_iff.1 hc;simp only[opv]at h;obtain⟨u,h1,h2,h3⟩:=wA h;exact qA r he' h3 (zwU h0 hu h2 (xJ hy h1 (wu ht (by simp[IOp.opds]))))
  ·cases hc
 · -- append
  rename_i t u rest x y hts hxs
  have h0:=Xo hts;have h1:=zr4 hts;have hx:=LW hxs;have he':execOp a.eval o=(do pure (.value (←Builtin.append_ c.argTypes o.type #[a.eval x,a.eval y]))):=by rw[he,hx];simp only[builtin,yj,zv,yB]
  split at hc
  ·rename_i e hu
   split at hc
   ·rename_i k huk
    split at hc
    ·rename_i sz by_ z xa ya q1 q2 q3 q4 q5
     cases hb:(za (wY z.cells) sz&&zd 1 sz)with
     |false=>rw[hb]at hc;simp at hc
     |true=>
      rw[hb]at hc;simp only[cond_true,Option.some.injEq]at hc;subst hc;simp only[zl,xT,xR]at hb;simp only[opv]at h;obtain⟨m,n,g1,g2,g3⟩:=uH h;exact lX he' (zzl r hwf hf h0 hu h1 huk q1 q2 q3 hb.1 hb.2 g3 (xJ q4 g1 (wu ht (by simp[IOp.opds]))) (xJ q5 g2 (wu ht (by simp[IOp.opds]))))
    ·cases hc
   ·rename_i huk
    split at hc
    ·rename_i by_ z xa ya q1 q2 q3 q4 q5
     cases hb:za (wY z.cells) 1 with
     |false=>rw[hb]at hc;simp at hc
     |true=>
      rw[hb]at hc;simp only[cond_true,Option.some.injEq]at hc;subst hc;simp only[xT]at hb;simp only[opv]at h;obtain⟨m,n,g1,g2,g3⟩:=uH h;exact lX he' (Jy r hwf hf h0 hu h1 huk (.inl rfl) q1 q2 q3 hb g3 (xJ q4 g1 (wu ht (by simp[IOp.opds]))) (xJ q5 g2 (wu ht (by simp[IOp.opds]))))
    ·cases hc
   ·rename_i k huk
    split at hc
    ·rename_i sz by_ z xa ya q1 q2 q3 q4 q5
     cases hb:za (wY z.cells) sz with
     |false=>rw[hb]at hc;simp at hc
     |true=>
      rw[hb]at hc;simp only[cond_true,Option.some.injEq]at hc;subst hc;simp only[xT]at hb;simp only[opv]at h;obtain⟨m,n,g1,g2,g3⟩:=uH h;exact lX he' (Jy r hwf hf h0 hu h1 huk (.inr ⟨_,rfl⟩) q1 q2 q3 hb g3 (xJ q4 g1 (wu ht (by simp[IOp.opds]))) (xJ q5 g2 (wu ht (by simp[IOp.opds]))))
    ·cases hc
   ·cases hc
  ·cases hc
 · --delete
  rename_i t rest m k hts hxs
  have h0:=Xo hts;have hx:=LW hxs;have he':execOp a.eval o=(do pure (.value (←Builtin.delete_ c.argTypes o.type #[a.eval m,a.eval k]))):=by rw[he,hx];simp only[builtin,yj,zv,yB]
  split at hc
  ·rename_i kt e hu
   split at hc
   ·rename_i f ma ka q1 q2 q3
    cases hc;simp only[opv]at h;obtain⟨x,y,g1,g2,g3⟩:=uH h;obtain⟨rfl,w',g4,g5⟩:=zqd (P:=P) (ty:=o.type) r h0 hu q1 g3 (xJ q2 g1 (wu ht (by simp[IOp.opds]))) (xJ q3 g2 (wu ht (by simp[IOp.opds])))
    exact Yl he' g4 g5 (ZV φ)
   ·cases hc
  ·cases hc
 · --min
  rename_i xs
  have he':execOp a.eval o=(do pure (.value (←Builtin.min_ c.argTypes o.type (c.args.toList.map a.eval).toArray))):=by rw[he];simp only[builtin];rw[←yj,zM]
  obtain⟨y,hy,rfl⟩:=Option.map_eq_some_iff.1 hc;simp only[opv]at h;obtain⟨l,h1,h2,h3⟩:=WB h;exact qA r he' h3 (zqf h2 (vI hy h1 (lH ht (by simp[IOp.opds]))))
 · --max
  rename_i xs
  have he':execOp a.eval o=(do pure (.value (←Builtin.max_ c.argTypes o.type (c.args.toList.map a.eval).toArray))):=by rw[he];simp only[builtin];rw[←yj,zM]
  obtain⟨y,hy,rfl⟩:=Option.map_eq_some_iff.1 hc;simp only[opv]at h;obtain⟨l,h1,h2,h3⟩:=WB h;exact qA r he' h3 (zqg h2 (vI hy h1 (lH ht (by simp[IOp.opds]))))
 ·cases hc
end
section
variable {P:Program}{w0:World}{φ:Phi}{s s':St}{w:World}{tm:Trie AV}{a:Act}{o:Oper}{v:AV}{E:Env}
theorem zmx{x:Operand}{u:AV}(ho:o.op=.nilCheck x)(h:zp9 u=some v)(hx:VR φ u (a.eval x)):(execOp a.eval o).run P w=.ok (.value (a.eval x)) w∧v=u:=by
 unfold zp9 at h;split at h
 ·cases h;simp only[VR]at hx;obtain⟨B,_,e⟩:=hx;exact⟨by simp[execOp,ho,e],rfl⟩
 ·cases h;simp only[VR]at hx;exact⟨by simp[execOp,ho,hx],rfl⟩
 ·cases h;simp only[VR]at hx;obtain⟨_,_,e,_⟩:=hx;exact⟨by simp[execOp,ho,e],rfl⟩
 ·cases h;simp only[VR]at hx;obtain⟨B,_,e⟩:=hx;exact⟨by simp[execOp,ho,e],rfl⟩
 ·cases h;simp only[VR]at hx;obtain⟨B,_,e⟩:=hx;exact⟨by simp[execOp,ho,e],rfl⟩
 ·cases h;simp only[VR]at hx;obtain⟨_,b,o',ys,e,_⟩:=hx;exact⟨by simp[execOp,ho,e],rfl⟩
 ·cases h
theorem zvh{x:Operand}(_hG:xS E.globs w0)(ho:o.op=.move x)(hc:wT P (.move x)=some op)(h:opv E op tm s=some (v,s'))
  (r:Rel P w0 φ s.get w) (hwf:Wf s) (hf:s.next<s'.next→φ s.next=none) (ht:TmOn φ (Opd.tmps op.opds) tm a):vS P w0 φ s w a o v s':=by
 simp only[wT]at hc;obtain⟨y,hy,rfl⟩:=Option.map_eq_some_iff.1 hc;simp only[opv]at h;obtain⟨u,h1,h2,rfl⟩:=wA h;simp only[Option.some.injEq]at h2;subst h2;exact⟨φ,a.eval x,w,.inl (by unfold execOp;rw[ho];simp),Step.refl r,xJ hy h1 (wu ht (by simp[IOp.opds]))⟩
theorem Lc{x:Operand}(_hG:xS E.globs w0)(ho:o.op=.assign x)(hc:wT P (.assign x)=some op)(h:opv E op tm s=some (v,s'))
  (r:Rel P w0 φ s.get w) (hwf:Wf s) (hf:s.next<s'.next→φ s.next=none) (ht:TmOn φ (Opd.tmps op.opds) tm a):vS P w0 φ s w a o v s':=by
 simp only[wT]at hc;obtain⟨y,hy,rfl⟩:=Option.map_eq_some_iff.1 hc;simp only[opv]at h;obtain⟨u,h1,h2,rfl⟩:=wA h;simp only[Option.some.injEq]at h2;subst h2;exact⟨φ,a.eval x,w,.inl (by unfold execOp;rw[ho];simp),Step.refl r,xJ hy h1 (wu ht (by simp[IOp.opds]))⟩
theorem zvi{c x y:Operand}(_hG:xS E.globs w0)(ho:o.op=.pick c x y)(hc:wT P (.pick c x y)=some op)(h:opv E op tm s=some (v,s'))
  (r:Rel P w0 φ s.get w) (hwf:Wf s) (hf:s.next<s'.next→φ s.next=none) (ht:TmOn φ (Opd.tmps op.opds) tm a):vS P w0 φ s w a o v s':=by
 simp only[wT]at hc;split at hc
 ·rename_i cc cx cy q1 q2 q3
  cases hc;simp only[opv]at h;obtain⟨h1,rfl⟩:=vO h;unfold K8 at h1;split at h1
  ·rename_i hb
   have hcv:=xJ (φ:=φ) (a:=a) q1 hb (wu ht (by simp[IOp.opds]))
   simp only[VR]at hcv;exact⟨φ,a.eval x,w,.inl (by unfold execOp;rw[ho];simp[hcv,asBool]),Step.refl r,xJ q2 h1 (wu ht (by simp[IOp.opds]))⟩
  ·rename_i hb
   have hcv:=xJ (φ:=φ) (a:=a) q1 hb (wu ht (by simp[IOp.opds]))
   simp only[VR]at hcv;exact⟨φ,a.eval y,w,.inl (by unfold execOp;rw[ho];simp[hcv,asBool]),Step.refl r,xJ q3 h1 (wu ht (by simp[IOp.opds]))⟩
  ·cases h1
 ·cases hc
theorem zzS(_hG:xS E.globs w0)(ho:o.op=.alloc t)(hc:wT P (.alloc t)=some op)(h:opv E op tm s=some (v,s'))
  (r:Rel P w0 φ s.get w) (hwf:Wf s) (hf:s.next<s'.next→φ s.next=none) (ht:TmOn φ (Opd.tmps op.opds) tm a):vS P w0 φ s w a o v s':=by
 simp only[wT]at hc;obtain⟨z,hz,rfl⟩:=Option.map_eq_some_iff.1 hc;simp only[opv]at h;have hn:s.next<s'.next:=by unfold Wm Zi at h;simp only[Option.some.injEq,Prod.mk.injEq]at h;exact vA h.2
 exact lX (S:=Instr.alloc t true (.tuple #[])) (by unfold execOp;rw[ho]) (Hu r hwf (hf hn) hz h)
theorem zss{x:Operand}(_hG:xS E.globs w0)(ho:o.op=.box t x)(hc:wT P (.box t x)=some op)(h:opv E op tm s=some (v,s'))
  (r:Rel P w0 φ s.get w) (hwf:Wf s) (hf:s.next<s'.next→φ s.next=none) (ht:TmOn φ (Opd.tmps op.opds) tm a):vS P w0 φ s w a o v s':=by
 simp only[wT]at hc;obtain⟨y,hy,rfl⟩:=Option.map_eq_some_iff.1 hc;simp only[opv]at h;obtain⟨u,h1,h2⟩:=vV h;have hn:s.next<s'.next:=by unfold Ph at h2;simp only[Option.some.injEq,Prod.mk.injEq]at h2;exact vA h2.2
 exact lX (S:=Instr.box t (a.eval x)) (by unfold execOp;rw[ho]) (zwP r hwf (hf hn) h2 (xJ hy h1 (wu ht (by simp[IOp.opds]))))
theorem zzU{ps:Array (Nat×Operand)}(_hG:xS E.globs w0)(ho:o.op=.build t ps)(hc:wT P (.build t ps)=some op)(h:opv E op tm s=some (v,s'))
  (r:Rel P w0 φ s.get w) (_hwf:Wf s) (_hf:s.next<s'.next→φ s.next=none) (ht:TmOn φ (Opd.tmps op.opds) tm a):vS P w0 φ s w a o v s':=by
 simp only[wT]at hc;split at hc
 ·rename_i z fs hz hu
  cases hb:fs.toList.all (fun f=>(vD P f.type).isSome)with
  |false=>rw[hb]at hc;simp at hc
  | true=>
   rw[hb]at hc;simp only[cond_true]at hc;obtain⟨qs,hq,rfl⟩:=Option.map_eq_some_iff.1 hc;simp only[opv]at h;obtain⟨h1,h2⟩:=vO h;cases hfc:jg z.cells tm qs with
   |none=>rw[hfc]at h1;simp[XK]at h1
   |some cs=>
    rw[hfc]at h1;simp only[XK,Option.some.injEq]at h1;subst h1;exact qA r (S:=Instr.build t (ps.map fun(i,x)=>(i,a.eval x))) (by unfold execOp;rw[ho]) h2 (Gk hu hz hb hq hfc ht)
 ·rename_i z n e hz hu
  split at hc
  ·rename_i sz hs
   obtain⟨qs,hq,rfl⟩:=Option.map_eq_some_iff.1 hc;simp only[opv]at h;obtain⟨h1,h2⟩:=vO h;cases hfc:jg z.cells tm qs with
   |none=>rw[hfc]at h1;simp[XK]at h1
   |some cs=>
    rw[hfc]at h1;simp only[XK,Option.some.injEq]at h1;subst h1;exact qA r (S:=Instr.build t (ps.map fun(i,x)=>(i,a.eval x))) (by unfold execOp;rw[ho]) h2 (HA hu hz hs hq hfc ht)
  ·cases hc
 ·cases hc
theorem Qr{len:Nat}{ps:Array (Nat×Operand)}(_hG:xS E.globs w0)(ho:o.op=.buildSlice t len ps)(hc:wT P (.buildSlice t len ps)=some op)(h:opv E op tm s=some (v,s'))
  (r:Rel P w0 φ s.get w) (hwf:Wf s) (hf:s.next<s'.next→φ s.next=none) (ht:TmOn φ (Opd.tmps op.opds) tm a):vS P w0 φ s w a o v s':=by
 simp only[wT]at hc;split at hc
 ·rename_i e hu
  split at hc
  ·rename_i sz z hs hz
   cases hb:(zd (len*sz) 16777216&&za (wY z.cells) sz&&zd 1 sz)with
   |false=>rw[hb]at hc;simp at hc
   |true=>
    rw[hb]at hc;simp only[cond_true]at hc;obtain⟨qs,hq,rfl⟩:=Option.map_eq_some_iff.1 hc;simp only[opv]at h;have:=zwQ (P:=P) (w0:=w0) (φ:=φ) (s:=s) (s':=s') (w:=w) (t:=t) (e:=e) (n:=sz) (len:=len) (z:=z) (v:=v) (ps:=ps) (qs:=qs) (tm:=tm) (a:=a) r hwf hf hu hs hz hb hq h ht;obtain⟨φ',x,w',k1,k2,k3⟩:=this;exact⟨φ',x,w',.inl (by simp only[execOp,ho,Sem.run_bind,k1,Result.andThen_ok,Sem.run_pure]),k2,k3⟩
  ·cases hc
 ·cases hc
theorem zvg{x:Operand}(hG:xS E.globs w0)(ho:o.op=.load t x)(hc:wT P (.load t x)=some op)(h:opv E op tm s=some (v,s'))
  (r:Rel P w0 φ s.get w) (_hwf:Wf s) (_hf:s.next<s'.next→φ s.next=none) (ht:TmOn φ (Opd.tmps op.opds) tm a):vS P w0 φ s w a o v s':=by
 simp only[wT]at hc;split at hc
 ·rename_i n y q1 q2 q3
  cases hc;simp only[opv]at h;obtain⟨u,h1,h2,h3⟩:=wA h;exact qA r (S:=Instr.loadAt t (a.eval x)) (by unfold execOp;rw[ho]) h3 (zwo r hG q1 q2 h2 (xJ q3 h1 (wu ht (by simp[IOp.opds]))))
 ·rename_i y q1 q3
  cases hc;simp only[opv]at h;obtain⟨u,h1,h2,h3⟩:=wA h;exact qA r (S:=Instr.loadAt t (a.eval x)) (by unfold execOp;rw[ho]) h3 (zpn r hG q1 h2 (xJ q3 h1 (wu ht (by simp[IOp.opds]))))
 ·cases hc
theorem zz1{x y:Operand}(_hG:xS E.globs w0)(ho:o.op=.store t x y)(hc:wT P (.store t x y)=some op)(h:opv E op tm s=some (v,s'))
  (r:Rel P w0 φ s.get w) (_hwf:Wf s) (_hf:s.next<s'.next→φ s.next=none) (ht:TmOn φ (Opd.tmps op.opds) tm a):vS P w0 φ s w a o v s':=by
 simp only[wT]at hc;split at hc
 ·rename_i n xa ya q1 q2 q3
  cases hc;simp only[opv]at h;obtain⟨m,k,g1,g2,g3⟩:=uH h;obtain⟨g4,w',g5,g6⟩:=zkW (P:=P) r q1 g3 (xJ q2 g1 (wu ht (by simp[IOp.opds]))) (xJ q3 g2 (wu ht (by simp[IOp.opds])))
  exact zz2 (S:=Instr.storeAt t (a.eval x) (a.eval y)) (by unfold execOp;rw[ho]) g5 g6 g4
 ·cases hc
theorem Jd{x:Operand}(_hG:xS E.globs w0)(ho:o.op=.nilCheck x)(hc:wT P (.nilCheck x)=some op)(h:opv E op tm s=some (v,s'))
  (r:Rel P w0 φ s.get w) (hwf:Wf s) (hf:s.next<s'.next→φ s.next=none) (ht:TmOn φ (Opd.tmps op.opds) tm a):vS P w0 φ s w a o v s':=by
 simp only[wT]at hc;obtain⟨y,hy,rfl⟩:=Option.map_eq_some_iff.1 hc;simp only[opv]at h;obtain⟨u,h1,h2,rfl⟩:=wA h;have hx:=xJ (φ:=φ) (a:=a) hy h1 (wu ht (by simp[IOp.opds]))
 obtain⟨h3,rfl⟩:=zmx (P:=P) (w:=w) ho h2 hx;exact⟨φ,a.eval x,w,.inl h3,Step.refl r,hx⟩
theorem zzT{bop:BinOp}{x y:Operand}{pos:_}(_hG:xS E.globs w0)(ho:o.op=.binOp bop t x y pos)(hc:wT P (.binOp bop t x y pos)=some op)(h:opv E op tm s=some (v,s'))
  (r:Rel P w0 φ s.get w) (_hwf:Wf s) (_hf:s.next<s'.next→φ s.next=none) (ht:TmOn φ (Opd.tmps op.opds) tm a):vS P w0 φ s w a o v s':=by
 simp only[wT]at hc;split at hc
 ·rename_i xa ya q1 q2 q3
  cases hc;simp only[opv]at h;obtain⟨m,k,g1,g2,g3,g4⟩:=vc h;exact qA r (S:=(do eqGuard bop t x y (a.eval x) (a.eval y);binOp bop t (a.eval x) (a.eval y))) (by unfold execOp;rw[ho]) g4 (zxf g3 (xJ q2 g1 (wu ht (by simp[IOp.opds]))) (xJ q3 g2 (wu ht (by simp[IOp.opds]))))
 ·rename_i k0 xa ya q0 q1 q2 q3
  split at hc
  ·cases hc;simp only[opv]at h;obtain⟨m,k,g1,g2,g3,g4⟩:=vc h;unfold WA at g3;split at g3
   ·rename_i b hb
    cases g3;exact qA r (S:=(do eqGuard .eql t x y (a.eval x) (a.eval y);binOp .eql t (a.eval x) (a.eval y))) (by unfold execOp;rw[ho]) g4 ⟨_,J5 (_w0:=w0) (neg:=false) q1 hb (xJ q2 g1 (wu ht (by simp[IOp.opds]))) (xJ q3 g2 (wu ht (by simp[IOp.opds]))),by simp only[VR]⟩
   ·cases g3
  ·cases hc;simp only[opv]at h;obtain⟨m,k,g1,g2,g3,g4⟩:=vc h;unfold WA at g3;split at g3
   ·rename_i b hb
    cases g3;exact qA r (S:=(do eqGuard .neq t x y (a.eval x) (a.eval y);binOp .neq t (a.eval x) (a.eval y))) (by unfold execOp;rw[ho]) g4 ⟨_,J5 (_w0:=w0) (neg:=true) q1 hb (xJ q2 g1 (wu ht (by simp[IOp.opds]))) (xJ q3 g2 (wu ht (by simp[IOp.opds]))),by simp only[VR]⟩
   ·cases g3
  ·cases hc
 ·cases hc
theorem zvj{uop:UnOp}{t:_}{x:Operand}(_hG:xS E.globs w0)(ho:o.op=.unOp uop t x)(hc:wT P (.unOp uop t x)=some op)(h:opv E op tm s=some (v,s'))
  (r:Rel P w0 φ s.get w) (_hwf:Wf s) (_hf:s.next<s'.next→φ s.next=none) (ht:TmOn φ (Opd.tmps op.opds) tm a):vS P w0 φ s w a o v s':=by
 simp only[wT]at hc;obtain⟨y,hy,rfl⟩:=Option.map_eq_some_iff.1 hc;simp only[opv]at h;obtain⟨u,h1,h2,h3⟩:=wA h;exact qA r (S:=Op.unary uop (a.eval x)) (by unfold execOp;rw[ho]) h3 (ztn h2 (xJ hy h1 (wu ht (by simp[IOp.opds]))))
theorem GB{sT d:TypeId}{x:Operand}(_hG:xS E.globs w0)(ho:o.op=.convert sT d x)(hc:wT P (.convert sT d x)=some op)(h:opv E op tm s=some (v,s'))
  (r:Rel P w0 φ s.get w) (hwf:Wf s) (hf:s.next<s'.next→φ s.next=none) (ht:TmOn φ (Opd.tmps op.opds) tm a):vS P w0 φ s w a o v s':=by
 simp only[wT]at hc;have he:execOp a.eval o=(do pure (.value (←convert sT d (a.eval x)))):=by unfold execOp;rw[ho]
 split at hc
 ·rename_i u k y q1 q2 q3
  cases hc;simp only[opv]at h;obtain⟨u,h1,h2,h3⟩:=wA h;exact qA r he h3 (QB q1 q2 h2 (xJ q3 h1 (wu ht (by simp[IOp.opds]))))
 ·rename_i e y q1 q2 q3
  split at hc
  ·rename_i hu
   cases hc;simp only[opv]at h;obtain⟨u,h1,h2⟩:=vV h;exact lX he (zva r hwf hf q1 q2 hu h2 (xJ q3 h1 (wu ht (by simp[IOp.opds]))))
  ·cases hc
 ·rename_i e y q1 q2 q3
  split at hc
  ·rename_i hu
   cases hc;simp only[opv]at h;obtain⟨u,h1,h2,h3⟩:=wA h;exact qA r he h3 (zwV r q1 q2 hu h2 (xJ q3 h1 (wu ht (by simp[IOp.opds]))))
  ·cases hc
 ·cases hc
theorem Yk{x:Operand}(_hG:xS E.globs w0)(ho:o.op=.makeInterface t x)(hc:wT P (.makeInterface t x)=some op)(h:opv E op tm s=some (v,s'))
  (r:Rel P w0 φ s.get w) (_hwf:Wf s) (_hf:s.next<s'.next→φ s.next=none) (ht:TmOn φ (Opd.tmps op.opds) tm a):vS P w0 φ s w a o v s':=by
 simp only[wT]at hc;split at hc
 ·cases hc
 ·rename_i d hni hu
  obtain⟨y,hy,rfl⟩:=Option.map_eq_some_iff.1 hc;simp only[opv]at h;obtain⟨u,h1,h2,h3⟩:=wA h;cases h2;have hx:=xJ (φ:=φ) (a:=a) hy h1 (wu ht (by simp[IOp.opds]))
  refine qA r (S:=Instr.makeInterface t (a.eval x)) (by unfold execOp;rw[ho]) h3 ⟨.iface t (a.eval x),?_,by simp only[VR];exact⟨_,rfl,hx⟩⟩
  simp only[Instr.makeInterface,Sem.run_bind,xw hu,Result.andThen_ok];cases d<;>first|exact(hni _ rfl).elim|exact(hni _ hu).elim|rfl
 ·cases hc
theorem Jb{f:Nat}{fst cap:Array Operand}(_hG:xS E.globs w0)(ho:o.op=.makeFunc (.func f) fst cap)(hc:wT P (.makeFunc (.func f) fst cap)=some op)(h:opv E op tm s=some (v,s'))
  (r:Rel P w0 φ s.get w) (_hwf:Wf s) (_hf:s.next<s'.next→φ s.next=none) (ht:TmOn φ (Opd.tmps op.opds) tm a):vS P w0 φ s w a o v s':=by
 simp only[wT]at hc;split at hc
 ·rename_i x y q1 q2
  cases hc;simp only[opv]at h;obtain⟨us,vs,g1,g2,g3,g4⟩:=Hl h;cases g3;refine qA r (S:=Instr.makeFunc (.func f) (fst.map a.eval) (cap.map a.eval)) (by unfold execOp;rw[ho]) g4 ⟨_,rfl,?_⟩
  simp only[VR];exact⟨fst.toList.map a.eval,cap.toList.map a.eval,by congr 1<;>(apply yu;simp),vI q1 g1 (lH ht (by simp[IOp.opds];intro x hx;exact .inl hx)),vI q2 g2 (lH ht (by simp[IOp.opds];intro x hx;exact .inr hx))⟩
 ·cases hc
theorem GD(_hG:xS E.globs w0)(ho:o.op=.makeMap t none)(hc:wT P (.makeMap t none)=some op)(h:opv E op tm s=some (v,s'))
  (r:Rel P w0 φ s.get w) (hwf:Wf s) (hf:s.next<s'.next→φ s.next=none) (ht:TmOn φ (Opd.tmps op.opds) tm a):vS P w0 φ s w a o v s':=by
 simp only[wT]at hc;cases hc;simp only[opv]at h;have hn:s.next<s'.next:=by unfold lw Xs at h;simp only[Option.some.injEq,Prod.mk.injEq]at h;exact vA h.2
 obtain⟨φ',h1,h2⟩:=Uz (P:=P) r hwf (hf hn) h;exact Yl (S:=Instr.makeMap t none) (by unfold execOp;rw[ho];rfl) (by simp[Instr.makeMap]) h1 h2
theorem Jc{k:IntKind}{n:Int}(_hG:xS E.globs w0)(ho:o.op=.makeMap t (some (.const (.int k n))))(hc:wT P (.makeMap t (some (.const (.int k n))))=some op)(h:opv E op tm s=some (v,s'))
  (r:Rel P w0 φ s.get w) (hwf:Wf s) (hf:s.next<s'.next→φ s.next=none) (ht:TmOn φ (Opd.tmps op.opds) tm a):vS P w0 φ s w a o v s':=by
 simp only[wT]at hc;split at hc
 ·rename_i kt e hu
  cases hc;simp only[opv]at h;have hn:s.next<s'.next:=by unfold lw Xs at h;simp only[Option.some.injEq,Prod.mk.injEq]at h;exact vA h.2
  obtain⟨φ',h1,h2⟩:=Uz (P:=P) r hwf (hf hn) h;exact Yl (S:=Instr.makeMap t (some (.int k n))) (by unfold execOp;rw[ho];rfl) (by simp[Instr.makeMap,xw hu,asInt,asIntOf]) h1 h2
 ·cases hc
theorem VT{l c:Operand}(_hG:xS E.globs w0)(ho:o.op=.makeSlice t l c)(hc:wT P (.makeSlice t l c)=some op)(h:opv E op tm s=some (v,s'))
  (r:Rel P w0 φ s.get w) (hwf:Wf s) (hf:s.next<s'.next→φ s.next=none) (ht:TmOn φ (Opd.tmps op.opds) tm a):vS P w0 φ s w a o v s':=by
 simp only[wT]at hc;split at hc
 ·rename_i e hu
  split at hc
  ·rename_i sz b z la ca q1 q2 q3 q4 q5
   cases hb:(za (wY z.cells) sz&&zd 1 sz)with
   |false=>rw[hb]at hc;simp at hc
   |true=>
    rw[hb]at hc;simp only[cond_true,Option.some.injEq]at hc;subst hc;simp only[opv]at h;obtain⟨m,n,g1,g2,g3⟩:=uH h;exact lX (S:=Instr.makeSlice t (a.eval l) (a.eval c)) (by unfold execOp;rw[ho]) (zuc r hwf (hf (KE g3)) hu q1 q2 q3 hb g3 (xJ q4 g1 (wu ht (by simp[IOp.opds]))) (xJ q5 g2 (wu ht (by simp[IOp.opds]))))
  ·cases hc
 ·cases hc
theorem zz0{x:Operand}{lo hi mx:Option Operand}(_hG:xS E.globs w0)(ho:o.op=.slice t x lo hi mx)(hc:wT P (.slice t x lo hi mx)=some op)(h:opv E op tm s=some (v,s'))
  (r:Rel P w0 φ s.get w) (_hwf:Wf s) (_hf:s.next<s'.next→φ s.next=none) (ht:TmOn φ (Opd.tmps op.opds) tm a):vS P w0 φ s w a o v s':=by
 simp only[wT]at hc;split at hc
 ·rename_i xa la ha q1 q2 q3 q4 q5
  cases hc;simp only[opv]at h;obtain⟨p,l,m,g1,g2,g3,g4,g5⟩:=QW h;have hmx:mx=none:=by
   cases mx with
   |none=>rfl
   |some y=>simp only[Vk]at q5;split at q5<;>simp at q5
  subst hmx;exact qA r (S:=Instr.sliceAt t (a.eval x) (lo.map a.eval) (hi.map a.eval) none) (by unfold execOp;rw[ho];rfl) g5 (zuP q1 g4 (xJ q2 g1 (wu ht (by simp[IOp.opds]))) (kW q3 g2 (lH ht (by simp[IOp.opds];intro x hx;exact .inr (.inl hx)))) (kW q4 g3 (lH ht (by simp[IOp.opds];intro x hx;exact .inr (.inr hx)))))
 ·rename_i e xa la ha ma q1 q2 q3 q4 q5
  split at hc
  ·rename_i sz hs
   cases hb:((ma.isNone||ha.isSome)&&zd 1 sz)with
   |false=>rw[hb]at hc;simp at hc
   | true=>
    rw[hb]at hc;simp only[cond_true,Option.some.injEq]at hc;subst hc;rw[zl]at hb;simp only[opv]at h;obtain⟨p,l,m,k,g1,g2,g3,g4,g5,g6⟩:=Hn h;have hmh:k=none∨m≠none:=by
     rw[←Lr g4,ne_eq,←Lr g3];have hb:=hb.1;cases ma<;>cases ha<;>simp at hb⊢
    exact qA r (S:=Instr.sliceAt t (a.eval x) (lo.map a.eval) (hi.map a.eval) (mx.map a.eval)) (by unfold execOp;rw[ho]) g6 (zuR q1 hs g5 (xJ q2 g1 (wu ht (by simp[IOp.opds]))) (kW q3 g2 (lH ht (by simp[IOp.opds];intro x hx;exact .inr (.inl hx)))) (kW q4 g3 (lH ht (by simp[IOp.opds];intro x hx;exact .inr (.inr (.inl hx))))) (kW q5 g4 (lH ht (by simp[IOp.opds];intro x hx;exact .inr (.inr (.inr hx))))) hmh)
  ·cases hc
 ·cases hc
theorem VQ{sT:TypeId}{x:Operand}{f:Nat}(_hG:xS E.globs w0)(ho:o.op=.fieldAddr sT x f)(hc:wT P (.fieldAddr sT x f)=some op)(h:opv E op tm s=some (v,s'))
  (r:Rel P w0 φ s.get w) (_hwf:Wf s) (_hf:s.next<s'.next→φ s.next=none) (ht:TmOn φ (Opd.tmps op.opds) tm a):vS P w0 φ s w a o v s':=by
 simp only[wT]at hc;split at hc
 ·rename_i fs hu
  split at hc
  ·rename_i fl hfl
   split at hc
   ·cases hc
   ·rename_i n hn hs
    obtain⟨y,hy,rfl⟩:=Option.map_eq_some_iff.1 hc;simp only[opv]at h;obtain⟨u,h1,h2,h3⟩:=wA h;obtain⟨k,rfl⟩:∃k,n=k+1:=⟨n-1,by have:n≠0:=fun e=>hn e;omega⟩
    exact qA r (S:=Instr.fieldAt sT (a.eval x) f) (by unfold execOp;rw[ho]) h3 (zrf hu hfl hs h2 (xJ hy h1 (wu ht (by simp[IOp.opds]))))
   ·cases hc
  ·cases hc
 ·cases hc
theorem VS{x i:Operand}(_hG:xS E.globs w0)(ho:o.op=.indexAddr t x i)(hc:wT P (.indexAddr t x i)=some op)(h:opv E op tm s=some (v,s'))
  (r:Rel P w0 φ s.get w) (_hwf:Wf s) (_hf:s.next<s'.next→φ s.next=none) (ht:TmOn φ (Opd.tmps op.opds) tm a):vS P w0 φ s w a o v s':=by
 simp only[wT]at hc;split at hc
 ·rename_i n e hu
  split at hc
  ·rename_i sz xa ia q1 q2 q3
   cases hc;simp only[opv]at h;obtain⟨m,k,g1,g2,g3,g4⟩:=vc h;exact qA r (S:=Instr.indexAt t (a.eval x) (a.eval i)) (by unfold execOp;rw[ho]) g4 (zv2 hu q1 g3 (xJ q2 g1 (wu ht (by simp[IOp.opds]))) (xJ q3 g2 (wu ht (by simp[IOp.opds]))))
  ·cases hc
 ·rename_i e hu
  split at hc
  ·rename_i sz xa ia q1 q2 q3
   cases hc;simp only[opv]at h;obtain⟨m,k,g1,g2,g3,g4⟩:=vc h;exact qA r (S:=Instr.indexAt t (a.eval x) (a.eval i)) (by unfold execOp;rw[ho]) g4 (zrS hu q1 g3 (xJ q2 g1 (wu ht (by simp[IOp.opds]))) (xJ q3 g2 (wu ht (by simp[IOp.opds]))))
  ·cases hc
 ·cases hc
theorem zzW{x i:Operand}(_hG:xS E.globs w0)(ho:o.op=.index t x i)(hc:wT P (.index t x i)=some op)(h:opv E op tm s=some (v,s'))
  (r:Rel P w0 φ s.get w) (_hwf:Wf s) (_hf:s.next<s'.next→φ s.next=none) (ht:TmOn φ (Opd.tmps op.opds) tm a):vS P w0 φ s w a o v s':=by
 simp only[wT]at hc;split at hc
 ·rename_i hu
  split at hc
  ·rename_i xa ia q2 q3
   cases hc;simp only[opv]at h;obtain⟨m,k,g1,g2,g3,g4⟩:=vc h;exact qA r (S:=Instr.index t (a.eval x) (a.eval i)) (by unfold execOp;rw[ho]) g4 (zv8 hu g3 (xJ q2 g1 (wu ht (by simp[IOp.opds]))) (xJ q3 g2 (wu ht (by simp[IOp.opds]))))
  ·cases hc
 ·cases hc
theorem Le{m k:Operand}{ok:Bool}(_hG:xS E.globs w0)(ho:o.op=.lookup t m k ok)(hc:wT P (.lookup t m k ok)=some op)(h:opv E op tm s=some (v,s'))
  (r:Rel P w0 φ s.get w) (_hwf:Wf s) (_hf:s.next<s'.next→φ s.next=none) (ht:TmOn φ (Opd.tmps op.opds) tm a):vS P w0 φ s w a o v s':=by
 simp only[wT]at hc;split at hc
 ·rename_i kt e hu
  split at hc
  ·rename_i f z ma ka q0 q1 q2 q3
   cases hc;simp only[opv]at h;obtain⟨p,q,g1,g2,g3,g4⟩:=vc h;exact qA r (S:=Instr.lookup t (a.eval m) (a.eval k) ok) (by unfold execOp;rw[ho]) g4 (zr6 r hu q0 q1 g3 (xJ q2 g1 (wu ht (by simp[IOp.opds]))) (xJ q3 g2 (wu ht (by simp[IOp.opds]))))
  ·cases hc
 ·cases hc
theorem VU{m k x:Operand}(_hG:xS E.globs w0)(ho:o.op=.mapUpdate t m k x)(hc:wT P (.mapUpdate t m k x)=some op)(h:opv E op tm s=some (v,s'))
  (r:Rel P w0 φ s.get w) (_hwf:Wf s) (_hf:s.next<s'.next→φ s.next=none) (ht:TmOn φ (Opd.tmps op.opds) tm a):vS P w0 φ s w a o v s':=by
 simp only[wT]at hc;split at hc
 ·rename_i kt e hu
  split at hc
  ·rename_i f ma ka xa q0 q1 q2 q3
   cases hc;simp only[opv]at h;obtain⟨p,q,y,g1,g2,g3,g4⟩:=GY h;obtain⟨g5,w',g6,g7⟩:=Pb (P:=P) r hu q0 g4 (xJ q1 g1 (wu ht (by simp[IOp.opds]))) (xJ q2 g2 (wu ht (by simp[IOp.opds]))) (xJ q3 g3 (wu ht (by simp[IOp.opds])))
   exact zz2 (S:=Instr.mapUpdate t (a.eval m) (a.eval k) (a.eval x)) (by unfold execOp;rw[ho]) g6 g7 g5
  ·cases hc
 ·cases hc
theorem Ld{m k x:Operand}(_hG:xS E.globs w0)(ho:o.op=.insert t m k x)(hc:wT P (.insert t m k x)=some op)(h:opv E op tm s=some (v,s'))
  (r:Rel P w0 φ s.get w) (_hwf:Wf s) (_hf:s.next<s'.next→φ s.next=none) (ht:TmOn φ (Opd.tmps op.opds) tm a):vS P w0 φ s w a o v s':=by
 simp only[wT]at hc;split at hc
 ·rename_i kt e hu
  split at hc
  ·rename_i f ma ka xa q0 q1 q2 q3
   cases hc;simp only[opv]at h;obtain⟨p,q,y,g1,g2,g3,g4⟩:=GY h;obtain⟨g5,w',g6,g7⟩:=Pb (P:=P) r hu q0 g4 (xJ q1 g1 (wu ht (by simp[IOp.opds]))) (xJ q2 g2 (wu ht (by simp[IOp.opds]))) (xJ q3 g3 (wu ht (by simp[IOp.opds])))
   exact zz2 (S:=Instr.mapUpdate t (a.eval m) (a.eval k) (a.eval x)) (by unfold execOp;rw[ho]) g6 g7 g5
  ·cases hc
 ·cases hc
theorem zzZ{x:Operand}(_hG:xS E.globs w0)(ho:o.op=.range t x)(hc:wT P (.range t x)=some op)(h:opv E op tm s=some (v,s'))
  (r:Rel P w0 φ s.get w) (hwf:Wf s) (hf:s.next<s'.next→φ s.next=none) (ht:TmOn φ (Opd.tmps op.opds) tm a):vS P w0 φ s w a o v s':=by
 simp only[wT]at hc;split at hc
 ·rename_i hu
  obtain⟨y,hy,rfl⟩:=Option.map_eq_some_iff.1 hc;simp only[opv]at h;obtain⟨u,h1,h2⟩:=vV h;exact lX (S:=Instr.range t (a.eval x)) (by unfold execOp;rw[ho]) (zpk r hwf (hf (Pj h2)) hu h2 (xJ hy h1 (wu ht (by simp[IOp.opds]))))
 ·rename_i k e hu
  obtain⟨y,hy,rfl⟩:=Option.map_eq_some_iff.1 hc;simp only[opv]at h;obtain⟨u,h1,h2⟩:=vV h;exact lX (S:=Instr.range t (a.eval x)) (by unfold execOp;rw[ho]) (zph r hwf (hf (Pi h2)) hu h2 (xJ hy h1 (wu ht (by simp[IOp.opds]))))
 ·cases hc
theorem zzY{x:Operand}(_hG:xS E.globs w0)(ho:o.op=.next x true)(hc:wT P (.next x true)=some op)(h:opv E op tm s=some (v,s'))
  (r:Rel P w0 φ s.get w) (_hwf:Wf s) (_hf:s.next<s'.next→φ s.next=none) (ht:TmOn φ (Opd.tmps op.opds) tm a):vS P w0 φ s w a o v s':=by
 simp only[wT]at hc;obtain⟨y,hy,rfl⟩:=Option.map_eq_some_iff.1 hc;simp only[opv]at h;obtain⟨u,h1,h2⟩:=vV h;obtain⟨z,w',g1,g2,g3⟩:=zql (P:=P) (ty:=o.type) r h2 (xJ hy h1 (wu ht (by simp[IOp.opds])))
 exact Yl (S:=Instr.next (a.eval x) true o.type) (by unfold execOp;rw[ho]) g1 g2 g3
theorem zzX{x:Operand}(_hG:xS E.globs w0)(ho:o.op=.next x false)(hc:wT P (.next x false)=some op)(h:opv E op tm s=some (v,s'))
  (r:Rel P w0 φ s.get w) (_hwf:Wf s) (_hf:s.next<s'.next→φ s.next=none) (ht:TmOn φ (Opd.tmps op.opds) tm a):vS P w0 φ s w a o v s':=by
 simp only[wT]at hc;obtain⟨y,hy,rfl⟩:=Option.map_eq_some_iff.1 hc;simp only[opv]at h;obtain⟨u,h1,h2⟩:=vV h;obtain⟨z,w',g1,g2,g3⟩:=zqj (P:=P) (ty:=o.type) r h2 (xJ hy h1 (wu ht (by simp[IOp.opds])))
 exact Yl (S:=Instr.next (a.eval x) false o.type) (by unfold execOp;rw[ho]) g1 g2 g3
theorem zzV{x:Operand}(_hG:xS E.globs w0)(ho:o.op=.entry x)(hc:wT P (.entry x)=some op)(h:opv E op tm s=some (v,s'))
  (r:Rel P w0 φ s.get w) (_hwf:Wf s) (_hf:s.next<s'.next→φ s.next=none) (ht:TmOn φ (Opd.tmps op.opds) tm a):vS P w0 φ s w a o v s':=by
 simp only[wT]at hc;obtain⟨y,hy,rfl⟩:=Option.map_eq_some_iff.1 hc;simp only[opv]at h;obtain⟨u,h1,h2,h3⟩:=wA h;exact qA r (S:=Instr.entry (a.eval x)) (by unfold execOp;rw[ho]) h3 (zsw r h2 (xJ hy h1 (wu ht (by simp[IOp.opds]))))
theorem GC{x:Operand}{i:Nat}(_hG:xS E.globs w0)(ho:o.op=.extract x i)(hc:wT P (.extract x i)=some op)(h:opv E op tm s=some (v,s'))
  (r:Rel P w0 φ s.get w) (_hwf:Wf s) (_hf:s.next<s'.next→φ s.next=none) (ht:TmOn φ (Opd.tmps op.opds) tm a):vS P w0 φ s w a o v s':=by
 simp only[wT]at hc;obtain⟨y,hy,rfl⟩:=Option.map_eq_some_iff.1 hc;simp only[opv]at h;obtain⟨u,h1,h2,h3⟩:=wA h;exact qA r (S:=Instr.extract (a.eval x) i) (by unfold execOp;rw[ho]) h3 (zre h2 (xJ hy h1 (wu ht (by simp[IOp.opds]))))
theorem zvf{c:Call}(hG:xS E.globs w0)(ho:o.op=.call c)(hc:wT P (.call c)=some op)(h:opv E op tm s=some (v,s'))
  (r:Rel P w0 φ s.get w) (hwf:Wf s) (hf:s.next<s'.next→φ s.next=none) (ht:TmOn φ (Opd.tmps op.opds) tm a):vS P w0 φ s w a o v s':=by
 simp only[wT]at hc;split at hc
 ·rename_i f hcal
  split at hc
  ·cases hc
  ·rename_i fn hfn
   cases hb2:(fn.name== "internal/bytealg.IndexByteString"&&(fn.origin== ""&&fn.body.isNone))with
   | true=>
    rw[hb2]at hc;simp only[cond_true]at hc;simp only[zl,beq_iff_eq]at hb2;obtain⟨n1,n2,n3⟩:=hb2;split at hc
    ·rename_i xa ya hcx
     cases hc;simp only[opv]at h;obtain⟨p,q,g1,g2,g3,rfl⟩:=vc h;have hxs:=vI (a:=a) (φ:=φ) hcx (show evL tm [xa,ya]=some [p,q] by simp[evL,g1,g2]) (lH ht (by simp[IOp.opds]))
     have hmap:c.args.map a.eval=(c.args.toList.map a.eval).toArray:=by rw[←yj,zM]
     simp only[VRL]at hxs;obtain⟨x',_,hx1,hx2,y',_,rfl,hy2,rfl⟩:=hxs;obtain⟨z,k1,k2⟩:=zv3 (P:=P) (w:=w) g3 hx2 hy2;obtain⟨m1,m2⟩:=zrh n1 n2;refine⟨φ,z,w,.inl (J8 ho hcal (UP hfn n3 (by rw[n1];rfl) m1 m2 ?_)),Step.refl r,k2⟩
     rw[hmap,hx1];exact k1
    ·cases hc
   | false=>
    rw[hb2]at hc;simp only[cond_false]at hc;cases hb3:(fn.name== "internal/abi.NoEscape"&&(fn.origin== ""&&fn.body.isNone))with
    | true=>
     rw[hb3]at hc;simp only[cond_true]at hc;simp only[zl,beq_iff_eq]at hb3;obtain⟨n1,n2,n3⟩:=hb3;split at hc
     ·rename_i xa hcx
      cases hc;simp only[opv]at h;obtain⟨p,g1,g3,rfl⟩:=wA h;cases g3;have hxs:=vI (a:=a) (φ:=φ) hcx (show evL tm [xa]=some [v] by simp[evL,g1]) (lH ht (by simp[IOp.opds]))
      have hmap:c.args.map a.eval=(c.args.toList.map a.eval).toArray:=by rw[←yj,zM]
      simp only[VRL]at hxs;obtain⟨x',_,hx1,hx2,rfl⟩:=hxs;obtain⟨m1,m2⟩:=Jg n1 n2;refine⟨φ,x',w,.inl (J8 ho hcal (UP hfn n3 (by rw[n1];rfl) m1 m2 ?_)),Step.refl r,hx2⟩
      rw[hmap,hx1];rfl
     ·cases hc
    |false=>rw[hb3]at hc;simp at hc
 ·cases hc
 ·rename_i b hb
  exact Gl hG ho hb hc h r hwf hf ht
 ·cases hc
theorem zul(hG:xS E.globs w0)(hc:wT P o.op=some op)(h:opv E op tm s=some (v,s'))
  (r:Rel P w0 φ s.get w) (hwf:Wf s) (hf:s.next<s'.next→φ s.next=none) (ht:TmOn φ (Opd.tmps op.opds) tm a):vS P w0 φ s w a o v s':=by
 cases ho:o.op with
 |move x=>exact zvh hG ho (ho▸hc) h r hwf hf ht
 |assign x=>exact Lc hG ho (ho▸hc) h r hwf hf ht
 |pick c x y=>exact zvi hG ho (ho▸hc) h r hwf hf ht
 |alloc t=>exact zzS hG ho (ho▸hc) h r hwf hf ht
 |box t x=>exact zss hG ho (ho▸hc) h r hwf hf ht
 |build t ps=>exact zzU hG ho (ho▸hc) h r hwf hf ht
 |buildSlice t len ps=>exact Qr hG ho (ho▸hc) h r hwf hf ht
 |load t x=>exact zvg hG ho (ho▸hc) h r hwf hf ht
 |store t x y=>exact zz1 hG ho (ho▸hc) h r hwf hf ht
 |nilCheck x=>exact Jd hG ho (ho▸hc) h r hwf hf ht
 |binOp bop t x y pos=>exact zzT hG ho (ho▸hc) h r hwf hf ht
 |unOp uop t x=>exact zvj hG ho (ho▸hc) h r hwf hf ht
 |convert sT d x=>exact GB hG ho (ho▸hc) h r hwf hf ht
 |makeInterface t x=>exact Yk hG ho (ho▸hc) h r hwf hf ht
 |makeSlice t l c=>exact VT hG ho (ho▸hc) h r hwf hf ht
 |slice t x lo hi mx=>exact zz0 hG ho (ho▸hc) h r hwf hf ht
 |fieldAddr sT x f=>exact VQ hG ho (ho▸hc) h r hwf hf ht
 |indexAddr t x i=>exact VS hG ho (ho▸hc) h r hwf hf ht
 |index t x i=>exact zzW hG ho (ho▸hc) h r hwf hf ht
 |lookup t m k ok=>exact Le hG ho (ho▸hc) h r hwf hf ht
 |mapUpdate t m k x=>exact VU hG ho (ho▸hc) h r hwf hf ht
 |insert t m k x=>exact Ld hG ho (ho▸hc) h r hwf hf ht
 |range t x=>exact zzZ hG ho (ho▸hc) h r hwf hf ht
 |entry x=>exact zzV hG ho (ho▸hc) h r hwf hf ht
 |extract x i=>exact GC hG ho (ho▸hc) h r hwf hf ht
 |call c=>exact zvf hG ho (ho▸hc) h r hwf hf ht
 |makeFunc f fst cap=>
  rw[ho]at hc;cases f with
  |func f=>exact Jb hG ho hc h r hwf hf ht
  |_=>simp[wT]at hc
 | makeMap t n=>
  rw[ho]at hc;cases n with
  |none=>exact GD hG ho hc h r hwf hf ht
  | some x=>
   cases x with
   |const c=>
    cases c with
    |int k n=>exact Jc hG ho hc h r hwf hf ht
    |_=>simp[wT]at hc
   |_=>simp[wT]at hc
 |next x b=>
  rw[ho]at hc;cases b with
  |true=>exact zzY hG ho hc h r hwf hf ht
  |false=>exact zzX hG ho hc h r hwf hf ht
 |_=>rw[ho]at hc;simp[wT]at hc
end
end Go.Proofs.YtbdfljdgapkbcaaGreatDoor.Ev

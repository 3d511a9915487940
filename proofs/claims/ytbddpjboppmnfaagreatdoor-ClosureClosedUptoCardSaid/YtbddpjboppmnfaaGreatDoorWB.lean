/- Contracts of functions that ClosureClosed calls: what a call answers, for all data, by symbolic evaluation. No conditions of its own. -/
import Derived.Test.YtbddpjboppmnfaaGreatDoorWA
import Derived.Test.YtbddpjboppmnfaaGreatDoorEvH
import Derived.Test.YtbddpjboppmnfaaGreatDoorEvG
set_option linter.unusedSimpArgs false
set_option linter.unusedVariables false
set_option linter.defProp false
set_option maxHeartbeats 4000000
set_option linter.unusedSectionVars false
open Bool renaming false_and → ziC, not_false → ziD, not_true → xE, and_false → ziE, or_self → ziF, and_self → xA, true_and → yP, or_true → ziG, cond_self → ziH, true_or → ziI, or_false → ziK, and_eq_true → zq, and_true → zi1
open List renaming getD_eq_getElem?_getD → xe, length_cons → yb, getElem?_eq_getElem → yH, mem_of_getElem? → xq, length_nil → xz, length_append → yA, map_cons → zD, mem_cons → ziL, append_nil → ziA, drop_eq_getElem_cons → ziO, cons_append → zM, eq_nil_of_length_eq_zero → yF, mem_singleton → zW, nil_append → ziQ, nodup_cons → ziR, getElem?_of_mem → ziS, mem_of_mem_drop → ziT, length_set → ziU, append_assoc → ziV, getElem?_inj → ziW, getElem?_eq_none → ym, getElem?_set_ne → ziY, mem_append → ziZ, mem_cons_self → zi0, getElem?_set → zi2, getElem_mem → zi4, mem_map → zi5, getElem?_replicate → zi6, drop_left' → zi7, mem_cons_of_mem → zi8, all_cons → ziB, length → xj
open Nat renaming le_refl → zu, le_of_ble_eq_true → ziw, zero_mod → ziJ, or_zero → ziM, zero_le → zQ, zero_or → ziN, le_trans → zA, lt_succ_self → yc, testBit_or → yS, zero_add → yO, le_succ → zha, mul_one → xC
open Option renaming bind_some → ziP, bind_none → ziX, isSome_none → zi9
open Classical renaming choose → zi3
namespace Go.Proofs.YtbddpjboppmnfaaGreatDoor.Ev
variable {P:Program}{w0:World}{O:Orc}{s s':St}{v:AV}{tm:Trie AV}{b:List Nat}{id n esz bytes:Nat}{o:AObj}
open T
set_option maxRecDepth 100000
theorem be(B:Bx P w0)(hO:OrcOk P w0 O){f:Nat}(F:IFunc){args:List AV}(h:Ev (evC env (evW env O) none F.body ⟨wL (tmL []) 0 args,[]⟩ (KL [] 0 0 true [] none)) fun r fr t=>Cv (pK (KL [] 0 0 true [] none) (wT env.globs F.res (some (r,fr,t)))) fun v0 s1=>Fz s1 v0 v)(hF:env.funs.get f=some F:=by exact rfl)(hp:env.pure f=true:=by exact rfl)(ha:args.length≤F.ntmps:=by exact Nat.le_of_ble_eq_true rfl):∃s1,SC P w0 f args (s00 0 true) v s1:=
 P4 hO B.mixed B.glob B.env (cvF hF hp ha h)
theorem w8(s:St)(b:Bool):Fz s (.bool b) (.bool b):=by simp only[Fz,wkV]
theorem wF(s:St)(k:IntKind)(n:Int):Fz s (.int k n) (.int k n):=by simp only[Fz,wkV]
theorem zrQ(s:St)(l:List Nat):Fz s (.str l) (.str l):=by simp only[Fz,wkV]
theorem oc{f:Nat}{α:Type}{enc:α→List AV}{Pre:α→Prop}{F:α→AV}(h:O f=some (vF enc Pre F))(inj:∀x y,enc x=enc y→x=y)(x:α)(hp:Pre x){args:List AV}(ha:wkL args=enc x)(s:St):(evW env O).call f args s=some (F x,s):=by
 rw[wN h,qP inj s x hp ha]
theorem vO{e:Bool}{cs ds:List AV}(hp:xY ds=true)(h:wkL cs=ds):Fz s (.lst n e cs) (.lst n false ds):=by
 simp only[Fz,wkV,h];exact⟨hp,.inl trivial⟩
theorem uO:Fz s .nils (.lst 0 false []):=by simp only[Fz,wkV,wA,true_and];exact .inl trivial
theorem vC:FzL s [] []:=by simp only[FzL]
theorem x0{u w:AV}{us ws:List AV}(h:Fz s u w)(t:FzL s us ws):FzL s (u::us) (w::ws):=by
 simp only[FzL];exact⟨u,us,rfl,h,t⟩
theorem YB{us ws:List AV}(h:FzL s us ws):Fz s (.agg us) (.agg ws):=by simp only[Fz];exact⟨us,rfl,h⟩
theorem bew(B:Bx P w0)(hO:OrcOk P w0 O){f:Nat}(F:IFunc){args:List AV}(h:Ev (evC env (evW env O) none F.body ⟨wL (tmL []) 0 args,[]⟩ (KL [] 0 0 false [] none)) fun r fr t=>Cv (mdR true (wT env.globs F.res (some (r,fr,t)))) fun v0 s1=>Fz s1 v0 v)(hF:env.funs.get f=some F:=by exact rfl)(hp:env.pure f=false:=by exact rfl)(ha:args.length≤F.ntmps:=by exact Nat.le_of_ble_eq_true rfl):∃s1,SC P w0 f args (s00 0 true) v s1:=
 P4 hO B.mixed B.glob B.env (zij hF hp ha h)
def WfA(L:List (Nat×Option AObj))(n:Nat):Prop:=∀j,n≤j→xN L j=none
theorem WfA.cons{L:List (Nat×Option AObj)}{n' i:Nat}{o:Option AObj}(h:WfA L n)(hi:i<n')(hn:n≤n'):WfA ((i,o)::L) n':=fun j hj=>by
 rw[xL,if_neg oM];exact h j oM
theorem WfA.lt{L:List (Nat×Option AObj)}{j:Nat}(h:WfA L n)(hg:xN L j=some o):j<n:=Nat.lt_of_not_le fun hle=>by rw[h j hle]at hg;cases hg
theorem WfA.same{L:List (Nat×Option AObj)}{i:Nat}{o:Option AObj}(h:WfA L n)(hi:i<n):WfA ((i,o)::L) n:=h.cons hi (zu _)
theorem WfA.up{L:List (Nat×Option AObj)}{n':Nat}(h:WfA L n)(hn:n≤n'):WfA L n':=fun j hj=>h j (zA hn hj)
def gSl(esz id:Nat):Nat→AV
 |0=>.nils
 |k+1=>.sl id 0 (k+1) (.opn esz)
def GAt{α:Type}(t:Nat)(f:α→List AV)(L:List (Nat×Option AObj))(lo n id:Nat)(l:List α):Prop:=l≠[]→lo≤id∧id<n∧xN L id=some (.row t (xP f l) true false)
theorem uE(esz id k:Nat):ua (gSl esz id k)=true:=by cases k<;>rfl
theorem GAt.ext{α:Type}{t:Nat}{f:α→List AV}{L L2:List (Nat×Option AObj)}{lo lo2 n2:Nat}{l:List α}(h:GAt t f L lo n id l)(hlo:lo2≤lo)(hn:n≤n2)(hfr:∀j,lo≤j→j<n→xN L2 j=xN L j):GAt t f L2 lo2 n2 id l:=fun hne=>by
 obtain⟨h1,h2,h3⟩:=h hne;exact⟨oM,oM,by rw[hfr id h1 h2];exact h3⟩
theorem wP(s:St)(esz id k:Nat):QF s .v (gSl esz id k)=some (.int .i64 (.ofNat k)):=by cases k<;>rfl
theorem Xf{l:List DT}{i:Nat}{o:DT}{r:List DT}(hd:l.drop i=o::r):wj 5 (wH (i*5) (xP w4 l))=some (w4 o):=by
 rw[uD qQ,hd];simp only[xP];exact vx (qQ o)
theorem YD{esz id k i:Nat}(h:i<k):vIa esz (gSl esz id k) (.int .i64 (.ofNat i))=some (.ptr id (i*esz)):=by
 cases k with
 |zero=>omega
 |succ k=>simp only[gSl,vIa,zyV .i64 h];simp
theorem xS(i:Nat)(o:Option AObj)(r:List (Nat×Option AObj)):xN ((i,o)::r) i=o:=by rw[xL,if_pos rfl]
theorem uL{G:List (List AV)}{res:List RV}{L:List (Nat×Option AObj)}{m d:Nat}{b:Bool}(h:xN L d=some .dfd):wT G res (some (.ret,⟨tm,[d]⟩,KL L n m b [] none))=YR G tm (KL ((d,some .dfd0)::L) n (u0 m d) b [] none) res:=by
 have:qf (KL L n m b [] none) [d]=some (KL ((d,some .dfd0)::L) n (u0 m d) b [] none):=by
  simp only[qf,wh,h,jC]
 unfold wT;simp only[this]
theorem zrw{fr:Fr}{l d:Nat}{U:Option (AV×St)}{R:AV→St→Prop}{Q:Res→Fr→St→Prop}(hc:Cv U R)(h:∀v t,R v t→Ev (gZ fr l d (some (v,t))) Q):Ev (gZ fr l d U) Q:=by
 obtain⟨v,t,rfl,q⟩:=hc;exact h v t q
def i3:Nat→Int
 |0=>.negSucc 0
 |k+1=>.ofNat k
theorem ZE{k:Nat}(h:k<1000000000001):vW .i64 (Int.sub (.ofNat k) (.ofNat 1))=i3 k:=by
 cases k with
 |zero=>rfl
 |succ k=>rw[ztg oM,WB oM];rfl
section
variable {E:Env}{O:Orc}{rd:Option Nat}{ia ib:ICode}{c:Opd}{tm:Trie AV}{df:List Nat}{s:St}{Q:Res→Fr→St→Prop}
theorem qW(hc:c.ev tm=some (.bool true))(q:Ev (evC E (evW E O) rd ia ⟨tm,df⟩ s) Q):Ev (evC E (evW E O) rd (.cond c ia ib) ⟨tm,df⟩ s) Q:=by rw[VP,hc,zxQ];exact q
theorem ve(hc:c.ev tm=some (.bool false))(q:Ev (evC E (evW E O) rd ib ⟨tm,df⟩ s) Q):Ev (evC E (evW E O) rd (.cond c ia ib) ⟨tm,df⟩ s) Q:=by rw[VP,hc,zxP];exact q
end
section
variable {E:Env}{O:Orc}{rd:Option Nat}{fr:Fr}{s:St}{Q:Res→Fr→St→Prop}{I:Fr→St→Prop}{ia ib ic id ik:ICode}
theorem zzQ(h:∀f t,I f t→Ev (evC E (evW E O) rd ik f t) Q):∀r f t,wM I Q r f t→wM (fun f t=>Ev (evC E (evW E O) rd ik f t) Q) Q r f t:=fun r f t q=>by
 cases r with
 |norm=>exact h f t q
 |exit i=>exact q
 |ret=>exact q
theorem vM(I:Fr→St→Prop)(h:Ev (evC E (evW E O) rd ia fr s) (wM I Q))(h2:∀f t,I f t→Ev (evC E (evW E O) rd ik f t) Q):Ev (evC E (evW E O) rd (.seq ia ik) fr s) Q:=
 xR (h.mono (zzQ h2))
end
structure Atm where
 k:Int
 n:Int
inductive Trm where
 |mk (k v op n f:Int) (as:List Atm) (ks:List Trm)
structure Fn where
 ps:List Int
 rest:Bool
 cont:Bool
 fr:List Int
 b:Trm
structure Cd where
 fs:List Fn
 main:Int
 vars:Int
 globals:Int
 consts:List DT
def wy(n:Int):List AV:=[.int .i64 n]
def wn(a:Atm):List AV:=[.int .i64 a.k,.int .i64 a.n]
def qu(l:List Int):AV:=.lst l.length false (xP wy l)
mutual
def x3:Trm→List AV
 |.mk k v op n f as ks=>[.int .i64 k,.int .i64 v,.int .i64 op,.int .i64 n,.int .i64 f,.lst as.length false (xP wn as),.lst ks.length false (x7 ks)]
def x7:List Trm→List AV
 |[]=>[]
 |t::r=>x3 t++x7 r
end
def wo(f:Fn):List AV:=qu f.ps::.bool f.rest::.bool f.cont::qu f.fr::x3 f.b
def wC(c:Cd):List AV:=[.lst c.fs.length false (xP wo c.fs),.int .i64 c.main,.int .i64 c.vars,.int .i64 c.globals,.lst c.consts.length false (wa c.consts)]
def ud(t:Trm):AV:=.agg (x3 t)
def gj(f:Fn):AV:=.agg (wo f)
def vd(c:Cd):AV:=.agg (wC c)
def Trm.kind:Trm→Int|.mk k _ _ _ _ _ _=>k
def Trm.var:Trm→Int|.mk _ v _ _ _ _ _=>v
def Trm.op:Trm→Int|.mk _ _ o _ _ _ _=>o
def Trm.num:Trm→Int|.mk _ _ _ n _ _ _=>n
def Trm.fn:Trm→Int|.mk _ _ _ _ f _ _=>f
def Trm.atoms:Trm→List Atm|.mk _ _ _ _ _ a _=>a
def Trm.kids:Trm→List Trm|.mk _ _ _ _ _ _ k=>k
theorem kQ(n:Int):(wy n).length=1:=rfl
theorem jU(a:Atm):(wn a).length=2:=rfl
theorem xU(k v op n f:Int)(as:List Atm)(ks:List Trm):x3 (.mk k v op n f as ks)=[.int .i64 k,.int .i64 v,.int .i64 op,.int .i64 n,.int .i64 f,.lst as.length false (xP wn as),.lst ks.length false (x7 ks)]:=by simp only[x3]
theorem wu:∀t:Trm,(x3 t).length=7
 |.mk _ _ _ _ _ _ _=>by simp only[x3,yb,xz]
theorem jz:x7 []=[]:=by simp only[x7]
theorem qi(t:Trm)(r:List Trm):x7 (t::r)=x3 t++x7 r:=by simp only[x7]
theorem kH:∀l:List Trm,x7 l=xP x3 l
 |[]=>by simp only[x7,xP]
 |t::r=>by simp only[x7,xP,kH r]
theorem kV(f:Fn):(wo f).length=11:=by simp only[wo,yb,wu]
theorem Vn(n:Int):xY (wy n)=true:=rfl
theorem vU(a:Atm):xY (wn a)=true:=rfl
theorem uw:∀t:Trm,xY (x3 t)=true
 |.mk _ _ _ _ _ _ _=>by simp only[x3,wp,wA,vb,qe,xA]
theorem kI(l:List Trm):xY (x7 l)=true:=by rw[kH];exact wG uw l
theorem ZY(l:List Int):wq (qu l)=true:=by simp only[qu,qe]
theorem pV(f:Fn):xY (wo f)=true:=by simp only[wo,wp,jv,ZY,uw,xA]
theorem gK(c:Cd):xY (wC c)=true:=by simp only[wC,wp,wA,vb,qe,xA]
theorem Vo(n:Int):wd (wy n)=true:=rfl
theorem pU(a:Atm):wd (wn a)=true:=rfl
theorem jy:∀t:Trm,wd (x3 t)=true
 |.mk _ _ _ _ _ _ _=>by simp only[x3,jx,lx,XM,XN,xA]
theorem Lo(f:Fn):wd (wo f)=true:=by simp only[wo,qu,jx,Wu,XN,jy,xA]
theorem Lp(n:Int):wkL (wy n)=wy n:=by simp only[wy,wkL,wkV]
theorem lB(a:Atm):wkL (wn a)=wn a:=by simp only[wn,wkL,wkV]
theorem Hi(l:List Int):wkV (qu l)=qu l:=by simp only[qu,wkV,vN Lp]
mutual
theorem X1:∀t:Trm,wkL (x3 t)=x3 t
 |.mk k v op n f as ks=>by simp only[x3,wkL,wkV,vN lB,lZ ks]
theorem lZ:∀l:List Trm,wkL (x7 l)=x7 l
 |[]=>by simp only[x7,wkL]
 | t::r=>by
  have ap:∀a b:List AV,wkL (a++b)=wkL a++wkL b:=fun a b=>by
   induction a with
   |nil=>rfl
   |cons v a ih=>simp only[zM,wkL,ih]
  simp only[x7,ap,X1 t,lZ r]
end
theorem JK(f:Fn):wkL (wo f)=wo f:=by simp only[wo,wkL,wkV,Hi,X1]
theorem zvv(c:Cd):wkL (wC c)=wC c:=by simp only[wC,wkL,wkV,vN JK,jA]
theorem LQ(t:Trm):wkV (ud t)=ud t:=by simp only[ud,wkV,X1]
theorem zsT(f:Fn):wkV (gj f)=gj f:=by simp only[gj,wkV,JK]
theorem LL(c:Cd):wkV (vd c)=vd c:=by simp only[vd,wkV,zvv]
theorem zvw{a b:Int}(h:wy a=wy b):a=b:=by simpa [wy]using h
theorem zz5{a b:Atm}(h:wn a=wn b):a=b:=by
 obtain⟨k,n⟩:=a;obtain⟨k',n'⟩:=b
 simpa [wn]using h
theorem zuo{l m:List Int}(h:xP wy l=xP wy m):l=m:=j0 kQ oM (fun _ _ h=>zvw h) h
theorem Ui{l m:List Int}(h:qu l=qu m):l=m:=by
 simp only[qu,AV.lst.injEq]at h;exact zuo h.2.2
mutual
theorem kW:∀{a b:Trm},x3 a=x3 b→a=b
 |.mk k v op n f as ks,.mk k' v' op' n' f' as' ks',h=>by
  simp only[x3,List.cons.injEq,AV.int.injEq,AV.lst.injEq,true_and,and_true]at h;obtain⟨rfl,rfl,rfl,rfl,rfl,⟨_,h1⟩,⟨_,h2⟩⟩:=h;rw[WM h2,j0 jU oM (fun _ _ h=>zz5 h) h1]
theorem WM:∀{a b:List Trm},x7 a=x7 b→a=b
 |[],[],_=>rfl
 |[],d::m,h=>by
  have:=congrArg xj h;simp only[x7,xz,yA,wu]at this;omega
 |d::l,[],h=>by
  have:=congrArg xj h;simp only[x7,xz,yA,wu]at this;omega
 |d::l,e::m,h=>by
  simp only[x7]at h;obtain⟨h1,h2⟩:=List.append_inj h (by rw[wu,wu])
  rw[kW h1,WM h2]
end
theorem Vm{a b:Fn}(h:wo a=wo b):a=b:=by
 obtain⟨p,r,c,f,t⟩:=a;obtain⟨p',r',c',f',t'⟩:=b;simp only[wo,List.cons.injEq,AV.bool.injEq]at h;obtain⟨h1,rfl,rfl,h2,h3⟩:=h;rw[Ui h1,Ui h2,kW h3]
theorem Vk{a b:Cd}(h:wC a=wC b):a=b:=by
 obtain⟨f,m,v,g,d⟩:=a;obtain⟨f',m',v',g',d'⟩:=b;simp only[wC,List.cons.injEq,AV.int.injEq,AV.lst.injEq,true_and,and_true]at h;obtain⟨⟨_,h1⟩,rfl,rfl,rfl,⟨_,h2⟩⟩:=h;rw[kX h2,j0 kV oM (fun _ _ h=>Vm h) h1]
theorem J3{a b:Trm}(h:ud a=ud b):a=b:=kW (by simpa [ud]using h)
theorem zvV{a b:Fn}(h:gj a=gj b):a=b:=Vm (by simpa [gj]using h)
theorem JW{a b:Cd}(h:vd a=vd b):a=b:=Vk (by simpa [vd]using h)
section
variable {α:Type}{f:α→List AV}{k:Nat}
theorem WS(hk:∀x,(f x).length=k){l:List α}{i:Nat}{o:α}{r:List α}(hd:l.drop i=o::r):wj k (wH (i*k) (xP f l))=some (f o):=by
 rw[uD hk,hd];simp only[xP];exact vx (hk o)
end
theorem zjz{l:List Int}{i:Nat}{o:Int}{r:List Int}(hd:l.drop i=o::r):wj 1 (wH (i*1) (xP wy l))=some [.int .i64 o]:=WS kQ hd
theorem zye{l:List Atm}{i:Nat}{o:Atm}{r:List Atm}(hd:l.drop i=o::r):wj 2 (wH (i*2) (xP wn l))=some [.int .i64 o.k,.int .i64 o.n]:=WS jU hd
theorem zsE{l:List Trm}{i:Nat}{o:Trm}{r:List Trm}(hd:l.drop i=o::r):wj 7 (wH (i*7) (x7 l))=some (x3 o):=by rw[kH];exact WS wu hd
theorem X4{l:List Fn}{i:Nat}{o:Fn}{r:List Fn}(hd:l.drop i=o::r):wj 11 (wH (i*11) (xP wo l))=some (wo o):=WS kV hd
def vl(t:Trm):AObj:=.row 44 (x3 t) false false
def lkK(f:FK)(z:AV)(ok:Bool)(k:AV):Option AObj→Option AV
 |some (.map es _)=>XA z ok (jO f k es 0)
 | some (.umap es)=>match f with
  |.i=>match k with
   |.int .i64 n=>some (lkU z ok (gH n es))
   |_=>none
  |_=>none
 |_=>none
theorem kh(s:St)(f:FK)(z:AV)(ok:Bool)(id:Nat)(k:AV):vLk s f z ok (.map id) k=lkK f z ok k (s.get id):=by
 simp only[vLk,lkK];cases s.get id with
 |none=>rfl
 |some o=>cases o<;>rfl
theorem Yg(z:AV)(ok:Bool)(n:Int)(es:List (Int×AV)):lkK .i z ok (.int .i64 n) (some (.umap es))=some (lkU z ok (gH n es)):=rfl
theorem zjK(f:FK)(z:AV)(ok:Bool)(k:AV)(es:List (AV×AV×Nat))(c:Nat):lkK f z ok k (some (.map es c))=XA z ok (jO f k es 0):=rfl
theorem lj(z v:AV):lkU z true (some v)=.tup [v,.bool true]:=rfl
theorem li(z:AV):lkU z true none=.tup [z,.bool false]:=rfl
theorem zqo(z:AV)(p:Nat×AV):XA z true (some (some p))=some (.tup [p.2,.bool true]):=rfl
noncomputable def muK(s:St)(f:FK)(id:Nat)(k v:AV):Option AObj→Option (AV×St)
 |some (.map es clock)=>match jO f k es 0 with
  |some (some p)=>some (qk,s.put id (.map (zxk v k es p.1) clock))
  |some none=>some (qk,s.put id (.map (es++[(k,v,clock)]) (Nat.succ clock)))
  |none=>none
 | some (.umap es)=>match f with
  |.i=>match k with
   |.int .i64 n=>some (qk,s.put id (.umap (pq n v es)))
   |_=>none
  |_=>none
 |_=>none
theorem kO(s:St)(f:FK)(id:Nat)(k v:AV):oMu s f (.map id) k v=muK s f id k v (s.get id):=by
 simp only[oMu,muK];cases s.get id with
 |none=>rfl
 |some o=>cases o<;>rfl
theorem XD(s:St)(id:Nat)(n:Int)(v:AV)(es:List (Int×AV)):muK s .i id (.int .i64 n) v (some (.umap es))=some (qk,s.put id (.umap (pq n v es))):=rfl
noncomputable def mdK(s:St)(f:FK)(id:Nat)(k:AV):Option AObj→Option (AV×St)
 |some (.map es clock)=>match jO f k es 0 with
  |some (some p)=>some (qk,s.put id (.map (zyi es p.1) clock))
  |some none=>some (qk,s.put id (.map es clock))
  |none=>none
 | some (.umap es)=>match f with
  |.i=>match k with
   |.int .i64 n=>some (qk,s.put id (.umap (Xj n es)))
   |_=>none
  |_=>none
 |_=>none
theorem zmp(s:St)(f:FK)(id:Nat)(k:AV):oMd s f (.map id) k=mdK s f id k (s.get id):=by
 simp only[oMd,mdK];cases s.get id with
 |none=>rfl
 |some o=>cases o<;>rfl
theorem zjM(s:St)(id:Nat)(n:Int)(es:List (Int×AV)):mdK s .i id (.int .i64 n) (some (.umap es))=some (qk,s.put id (.umap (Xj n es))):=rfl
def lnK:Option AObj→Option AV
 |some (.map es _)=>some (.int .i64 (.ofNat (qg es)))
 |some (.umap es)=>some (.int .i64 (.ofNat (qg es)))
 |_=>none
theorem zzz(s:St)(id:Nat):QF s .m (.map id)=lnK (s.get id):=by
 simp only[QF,lnK];cases s.get id with
 |none=>rfl
 |some o=>cases o<;>rfl
theorem zlB(es:List (Int×AV)):lnK (some (.umap es))=some (.int .i64 (.ofNat es.length)):=by rw[←wV];rfl
theorem QO(l:List (Nat×Option AObj))(n m:Nat)(b:Bool)(hd:List (Nat×Nat))(on:Option (Nat×List Nat)):XF env.um (KL l n m b hd on)=some (.map n,KL ((n,some (.umap []))::l) (n+1) m b hd on):=rfl
def uS(l:List Int):List (Int×AV):=l.map fun x=>(x,.agg [])
theorem zji(l:List Int):(uS l).length=l.length:=List.length_map _
theorem HJ:∀l:List Int,Yi (uS l)=true
 |[]=>rfl
 |x::r=>by
  show (wq (.agg [])&&Yi (uS r))=true;rw[HJ r];rfl
theorem HI:∀l:List Int,(uS l).map (·.1)=l
 |[]=>rfl
 |x::r=>congrArg (x:: ·) (HI r)
theorem kL(a b:Int):eqI a b=decide (a=b):=by rw[v8];rfl
theorem gP{n:Int}:∀{l:List Int},n∈l→gH n (uS l)=some (.agg [])
 |x::r,h=>by
  simp only[uS,zD,gH,kL];by_cases e:x=n
  ·rw[decide_eq_true e];rfl
  ·rw[decide_eq_false e,cond_false];exact gP (l:=r) (by rcases List.mem_cons.1 h with h|h;exact absurd h.symm e;exact h)
theorem kp{n:Int}:∀{l:List Int},n∉l→gH n (uS l)=none
 |[],_=>rfl
 |x::r,h=>by
  simp only[ziL,not_or]at h;simp only[uS,zD,gH,kL];rw[decide_eq_false (Ne.symm h.1),cond_false];exact kp (l:=r) h.2
theorem lO{n:Int}:∀{l:List Int},n∉l→pq n (.agg []) (uS l)=uS (l++[n])
 |[],_=>rfl
 |x::r,h=>by
  simp only[ziL,not_or]at h;simp only[uS,zD,pq,kL,zM];rw[decide_eq_false (Ne.symm h.1),cond_false];have:=lO (l:=r) h.2;simp only[uS]at this;rw[this]
theorem zwW{n:Int}:∀{l:List Int},n∈l→pq n (.agg []) (uS l)=uS l
 | x::r,h=>by
  simp only[uS,zD,pq,kL];by_cases e:x=n
  ·rw[decide_eq_true e,cond_true,e]
  ·rw[decide_eq_false e,cond_false];have:=zwW (l:=r) (by rcases List.mem_cons.1 h with h|h;exact absurd h.symm e;exact h)
   simp only[uS]at this;rw[this]
def Zk(l:List Int)(x:Int):List Int:=if x∈l then l else l++[x]
theorem zpO(l:List Int)(x:Int):pq x (.agg []) (uS l)=uS (Zk l x):=by
 unfold Zk;split
 ·rename_i h;exact zwW h
 ·rename_i h;exact lO h
def jd(sc ow:List Int)(x:Int):List Int:=if x∈sc then ow else Zk ow x
theorem ut{m i j:Nat}(h:j≠i):(m|||1<<<i).testBit j=m.testBit j:=by
 rw[yS,Nat.one_shiftLeft,Nat.testBit_two_pow];simp[Ne.symm h]
theorem L8{x:Int}:∀{xs:List (AV×AV×Nat)} (i:Nat),(∀q∈xs,∃n,q.1=.int .i64 n∧q.2.1=.agg [])→(∃q∈xs,q.1=.int .i64 x)→∃p,jO .i (.int .i64 x) xs i=some (some p)∧p.2=.agg []
 |[],_,_,h=>by obtain⟨q,hq,_⟩:=h;cases hq
 | q::xs,i,ha,h=>by
  obtain⟨n,h1,h2⟩:=ha q (by simp)
  have e1:eq1 .i (.int .i64 x) (.int .i64 n)=some (decide (x=n)):=by
   rw[←kL];rfl
  simp only[jO,h1,e1];by_cases hx:x=n
  ·rw[decide_eq_true hx];exact⟨_,rfl,h2⟩
  ·rw[decide_eq_false hx];refine L8 _ (fun q hq=>ha q (by simp[hq])) ?_
   obtain⟨q',hq',he⟩:=h;rcases List.mem_cons.1 hq' with rfl|hq'
   ·rw[h1]at he;cases he;exact absurd rfl hx
   ·exact⟨q',hq',he⟩
section
variable {O:Orc}
attribute [local go_sem] kh Yg lj li kO XD xZ x4 ziJ ziN ziM ziH wZ ltF gtF in
theorem zol(h72:O 72=none){sc ow:List Int}{g:Bool}{x:Int}{L:List (Nat×Option AObj)}{p1 p2 p3 sid oid:Nat}(hw:WfA L n)(g1:xN L p1=some (.row 74 [.map sid] false false))(g2:xN L p2=some (.row 74 [.map oid] false false))(g3:xN L p3=some (.row 4 [.bool g] false false))(gs:xN L sid=some (.umap (uS sc)))(go:xN L oid=some (.umap (uS ow)))
  (m:Nat) (b:Bool):Cv ((evW env O).call 72 [.int .i64 x,.ptr p1 0,.ptr p2 0,.ptr p3 0] (KL L n m b [] none)) fun v t=>∃L2 n2 m2,t=KL L2 n2 m2 b [] none∧WfA L2 n2∧n≤n2∧xN L2 oid=some (.umap (uS (jd sc ow x)))∧xN L2 p3=some (.row 4 [.bool (g||(decide (x∉sc)&&decide (x∉ow)))] false false)∧∀j,j<n→j≠oid→j≠p3→xN L2 j=xN L j∧m2.testBit j=m.testBit j:=by
 refine qb (F:=f72) h72 rfl rfl (ziw rfl) ?_;unfold f72;simp only[Ko,Kg,Kn];have l1:=hw.lt g1;have l2:=hw.lt g2;have l3:=hw.lt g3;have l4:=hw.lt gs;have l5:=hw.lt go;have fin:∀{L2:List (Nat×Option AObj)} {n2 m2:Nat},WfA L2 n2→n≤n2→(∀j,j<n→j≠oid→j≠p3→xN L2 j=xN L j∧m2.testBit j=m.testBit j)→∀ow2 g2,xN L2 oid=some (.umap (uS ow2))→xN L2 p3=some (.row 4 [.bool g2] false false)→ow2=jd sc ow x→g2=(g||(decide (x∉sc)&&decide (x∉ow)))→∃L2' n2' m2',KL L2 n2 m2 b [] none=KL L2' n2' m2' b [] none∧WfA L2' n2'∧n≤n2'∧xN L2' oid=some (.umap (uS (jd sc ow x)))∧xN L2' p3=some (.row 4 [.bool (g||(decide (x∉sc)&&decide (x∉ow)))] false false)∧∀j,j<n→j≠oid→j≠p3→xN L2' j=xN L j∧m2'.testBit j=m.testBit j:=by
  intro L2 n2 m2 q1 q2 q3 ow2 g2 q4 q5 q6 q7;subst q6;subst q7;exact⟨L2,n2,m2,rfl,q1,q2,q4,q5,q3⟩
 by_cases hs:x∈sc
 ·have e1:=gP hs;by_cases ho:x∉ow
  ·have e2:=kp ho;refine xQ ?_;refine xQ ?_;refine xQ ?_;refine xO ?_;refine xW ?_;refine fin ?_ oM (fun j h1 h2 h3=>?_) _ _ ?_ ?_ (show ow=jd sc ow x from (if_pos hs).symm) (show g=(g||(decide (x∉sc)&&decide (x∉ow)))from by simp[hs])
   ·(repeat first|exact hw.up oM|refine WfA.same ?_ oM)
   ·exact⟨by (repeat (rw[xL,if_neg oM])),by (repeat rw[ut oM])⟩
   ·(repeat (rw[xL,if_neg oM]));exact go
   ·(repeat (rw[xL,if_neg oM]));exact g3
  ·have e2:=gP (Decidable.not_not.1 ho);refine xQ ?_;refine xQ ?_;refine xQ ?_;refine xO ?_;refine xW ?_;refine fin ?_ oM (fun j h1 h2 h3=>?_) _ _ ?_ ?_ (show ow=jd sc ow x from (if_pos hs).symm) (show g=(g||(decide (x∉sc)&&decide (x∉ow)))from by simp[hs])
   ·(repeat first|exact hw.up oM|refine WfA.same ?_ oM)
   ·exact⟨by (repeat (rw[xL,if_neg oM])),by (repeat rw[ut oM])⟩
   ·(repeat (rw[xL,if_neg oM]));exact go
   ·(repeat (rw[xL,if_neg oM]));exact g3
 ·have e1:=kp hs;by_cases ho:x∈ow
  ·have e2:=gP ho;refine xQ ?_;refine xQ ?_;refine xQ ?_;refine xO ?_;refine xW ?_;refine fin ?_ oM (fun j h1 h2 h3=>?_) _ _ ?_ ?_ (show ow=jd sc ow x from by unfold jd Zk;rw[if_neg hs,if_pos ho]) (show g=(g||(decide (x∉sc)&&decide (x∉ow)))from by simp[ho])
   ·(repeat first|exact hw.up oM|refine WfA.same ?_ oM)
   ·exact⟨by (repeat (rw[xL,if_neg oM])),by (repeat rw[ut oM])⟩
   ·(repeat (rw[xL,if_neg oM]));exact go
   ·(repeat (rw[xL,if_neg oM]));exact g3
  ·have e2:=kp ho;have e5:=lO ho;have d1:oid≠p3:=by rintro rfl;rw[g3]at go;cases go
   have d2:p3≠oid:=Ne.symm d1;refine xQ ?_;refine xQ ?_;refine xQ ?_;refine xO ?_;refine xW ?_;refine fin ?_ oM (fun j h1 h2 h3=>?_) _ _ ?_ ?_ (show ow++[x]=jd sc ow x from by unfold jd Zk;rw[if_neg hs,if_neg ho]) (show true=(g||(decide (x∉sc)&&decide (x∉ow)))from by simp[hs,ho])
   ·(repeat first|exact hw.up oM|refine WfA.same ?_ oM)
   ·exact⟨by (repeat (rw[xL,if_neg oM])),by (repeat rw[ut oM])⟩
   ·rw[xL,if_neg d1,xS]
   ·rw[xS]
attribute [local go_sem] kh Yg zjK lj li zqo kO XD xZ x4 ziJ ziN ziM ziH wZ ltF gtF in
theorem zm9(h72:O 72=none){sc:List Int}{x:Int}{L:List (Nat×Option AObj)}{p1 p2 p3 sid oid clk:Nat}{xs:List (AV×AV×Nat)}{p:Nat×AV}(hw:WfA L n)(g1:xN L p1=some (.row 74 [.map sid] false false))(g2:xN L p2=some (.row 74 [.map oid] false false))(gs:xN L sid=some (.umap (uS sc)))(go:xN L oid=some (.map xs clk))(hf:jO .i (.int .i64 x) xs 0=some (some p))(hp:p.2=.agg [])
  (m:Nat) (b:Bool):Cv ((evW env O).call 72 [.int .i64 x,.ptr p1 0,.ptr p2 0,.ptr p3 0] (KL L n m b [] none)) fun v t=>∃L2 n2 m2,t=KL L2 n2 m2 b [] none∧WfA L2 n2∧n≤n2∧∀j,j<n→xN L2 j=xN L j∧m2.testBit j=m.testBit j:=by
 refine qb (F:=f72) h72 rfl rfl (ziw rfl) ?_;unfold f72;simp only[Ko,Kg,Kn];have l1:=hw.lt g1;have l2:=hw.lt g2;have l4:=hw.lt gs;have l5:=hw.lt go;by_cases hs:x∈sc
 ·have e1:=gP hs;refine xQ ?_;refine xQ ?_;refine xQ ?_;refine xO ?_;refine xW ?_;refine⟨_,_,_,rfl,?_,oM,fun j h1=>?_⟩
  ·(repeat first|exact hw.up oM|refine WfA.same ?_ oM)
  ·exact⟨by (repeat (rw[xL,if_neg oM])),by (repeat rw[ut oM])⟩
 ·have e1:=kp hs;refine xQ ?_;refine xQ ?_;refine xQ ?_;refine xO ?_;refine xW ?_;refine⟨_,_,_,rfl,?_,oM,fun j h1=>?_⟩
  ·(repeat first|exact hw.up oM|refine WfA.same ?_ oM)
  ·exact⟨by (repeat (rw[xL,if_neg oM])),by (repeat rw[ut oM])⟩
end
def Ji(S:List (List Int))(j:Int):List Int:=S.getD j.toNat []
def qD(sc ow:List Int):List Atm→List Int
 |[]=>ow
 |a::r=>qD sc (bif eqD a.k (.ofNat 1)then jd sc ow a.n else ow) r
def pF(sc ow:List Int):List Int→List Int
 |[]=>ow
 |x::r=>pF sc (jd sc ow x) r
def vX(k:Int):Bool:=eqD k (.ofNat 1)||eqD k (.ofNat 2)
def lc(S:List (List Int))(i:Nat)(k f:Int)(as:List Atm)(sc ow:List Int):List Int:=
 bif eqD k (.ofNat 2)then (if f.toNat=i then qD sc ow as else pF sc (qD sc ow as) (Ji S f))else qD sc ow as
def scB(k v:Int)(sc:List Int):List Int:=bif vX k then Zk sc v else sc
mutual
def vn(S:List (List Int))(i:Nat):Trm→List Int→List Int→List Int
 |.mk k v _ _ f as ks,sc,ow=>qU S i ks (scB k v sc) (lc S i k f as sc ow)
def qU(S:List (List Int))(i:Nat):List Trm→List Int→List Int→List Int
 |[],_,ow=>ow
 |x::r,sc,ow=>vn S i x sc (qU S i r sc ow)
end
mutual
def wJ:Trm→Nat
 |.mk _ _ _ _ _ _ ks=>1+qo ks
def qo:List Trm→Nat
 |[]=>0
 |t::r=>wJ t+qo r
end
mutual
def Qr(N:Nat):Trm→Prop
 |.mk k _ _ _ f as ks=>as.length<1000000000∧ks.length≤2∧(eqD k (.ofNat 2)=true→∃j,f=.ofNat j∧j<N)∧HQ N ks
def HQ(N:Nat):List Trm→Prop
 |[]=>True
 |t::r=>Qr N t∧HQ N r
end
theorem UX(sc ow:List Int)(x:Int):ow.length≤(jd sc ow x).length:=by
 unfold jd Zk;split
 ·exact zu _
 ·split
  ·exact zu _
  ·simp
theorem ztC(sc ow:List Int)(x:Int)(a:Nat)(ha:a≤ow.length):decide ((jd sc ow x).length≠a)=(decide (ow.length≠a)||(decide (x∉sc)&&decide (x∉ow))):=by
 unfold jd Zk;by_cases h1:x∈sc
 ·rw[if_pos h1];simp[h1]
 ·rw[if_neg h1];by_cases h2:x∈ow
  ·rw[if_pos h2];simp[h2]
  ·rw[if_neg h2];have:(ow++[x]).length≠a:=by simp;omega
   rw[decide_eq_true this];simp[h1,h2]
theorem pw{sc ow:List Int}{x:Int}(h:ow.Nodup):(jd sc ow x).Nodup:=by
 unfold jd Zk;split
 ·exact h
 ·split
  ·exact h
  ·rename_i h1
   rw[List.nodup_append];exact⟨h,by simp,fun a ha b hb=>by
    simp only[zW]at hb;subst hb;rintro rfl;exact h1 ha⟩
theorem lY(sc:List Int):∀(as:List Atm) (ow:List Int),ow.length≤(qD sc ow as).length
 |[],ow=>zu _
 |a::r,ow=>by
  simp only[qD];refine zA ?_ (lY sc r _);cases eqD a.k (.ofNat 1)with
  |true=>exact UX _ _ _
  |false=>exact zu _
theorem Lh(sc:List Int):∀(l:List Int) (ow:List Int),ow.length≤(pF sc ow l).length
 |[],ow=>zu _
 |x::r,ow=>zA (UX _ _ _) (Lh sc r _)
structure CapE where
 ids:List Nat
 S:List (List Int)
 i:Nat
 fid:Nat
 sid:Nat
 c:Cap
 xx:Bool
 ff:Bool
def CapE.oid(E:CapE):Nat:=E.ids.getD E.i 0
def CapE.W(E:CapE)(j:Nat):Prop:=j∈E.ids∨j=E.sid
structure CapM(E:CapE)(L:List (Nat×Option AObj))(n:Nat)(sc ow:List Int):Prop where
 wf:WfA L n
 len:E.S.length=E.ids.length
 nd:E.ids.Nodup
 hi:E.i<E.ids.length
 row:xN L E.fid=some (.row 74 (E.ids.map .map) E.xx E.ff)
 oth:∀j id,E.ids[j]? =some id→j≠E.i→xN L id=some (.umap (uS (E.S.getD j [])))
 own:xN L E.oid=some (.umap (uS ow))
 sco:xN L E.sid=some (.umap (uS sc))
 sd:E.sid∉E.ids
section
variable {E:CapE}{L:List (Nat×Option AObj)}{n:Nat}{sc ow:List Int}
theorem CapM.oid(h:CapM E L n sc ow):E.ids[E.i]? =some E.oid:=by
 unfold CapE.oid;rw[xe,yH h.hi];rfl
theorem CapM.oidW(h:CapM E L n sc ow):E.oid∈E.ids:=xq h.oid
theorem CapM.one(h:CapM E L n sc ow){j:Nat}(hj:E.ids[j]? =some id)(hne:j≠E.i):id≠E.oid:=fun e=>hne (by
 have h1:=h.oid;rw[←e]at h1;exact(ziW (List.getElem?_eq_some_iff.1 hj).1 h.nd).1 (hj.trans h1.symm))
end
theorem CapM.turn{E:CapE}{L L2:List (Nat×Option AObj)}{n2:Nat}{sc ow ow2:List Int}(h:CapM E L n sc ow)(hw:WfA L2 n2)(ho:xN L2 E.oid=some (.umap (uS ow2)))(hf:∀j,j<n→j≠E.oid→(E.W j∨j=E.fid)→xN L2 j=xN L j):CapM E L2 n2 sc ow2 where
 wf:=hw
 len:=h.len
 nd:=h.nd
 hi:=h.hi
 row:=by rw[hf E.fid (h.wf.lt h.row) (fun e=>by have h1:=h.row;rw[e,h.own]at h1;cases h1) (.inr rfl)];exact h.row
 oth:=fun j id hj hne=>by
  have h1:=h.oth j id hj hne;rw[hf id (h.wf.lt h1) (h.one hj hne) (.inl (.inl (xq hj)))];exact h1
 own:=ho
 sco:=by rw[hf E.sid (h.wf.lt h.sco) (fun e=>h.sd (e▸h.oidW)) (.inl (.inr rfl))];exact h.sco
 sd:=h.sd
def HK(n0:Nat):AV:=.fn 72 [] [.ptr (n0+1) 0,.ptr (n0+1+1) 0,.ptr (n0+1+1+1) 0]
structure CapS(E:CapE)(L0:List (Nat×Option AObj))(n0 a0:Nat)(sc0:List Int)(t:Trm)(hs ow:List Int)(L:List (Nat×Option AObj))(n m hid:Nat):Prop where
 M:CapM E L n (sc0++hs) ow
 n4:n0+1+1+1+1≤n
 r0:xN L n0=some (vl t)
 r1:xN L (n0+1)=some (.row 74 [.map E.sid] false false)
 r2:xN L (n0+1+1)=some (.row 74 [.map E.oid] false false)
 r3:xN L (n0+1+1+1)=some (.row 4 [.bool (decide (ow.length≠a0))] false false)
 hr:GAt 3 wy L (n0+1+1+1+1) n hid hs
 le:a0≤ow.length
 nd:ow.Nodup
 ds:∀v∈hs,v∉sc0
 lt:∀j,E.W j∨j=E.fid→j<n0
 fr:∀j,j<n0→¬E.W j→xN L j=xN L0 j∧m.testBit j=false
structure CapT(E:CapE)(n0 hid:Nat)(hs:List Int)(T:List (Nat×AV)):Prop where
 t1:(tmL T).get 1=some (.sl E.fid 0 E.ids.length E.c)
 t4:(tmL T).get 4=some (.ptr n0 0)
 t6:(tmL T).get 6=some (.ptr (n0+1) 0)
 t7:(tmL T).get 7=some (.ptr (n0+1+1) 0)
 t8:(tmL T).get 8=some (.ptr (n0+1+1+1) 0)
 t9:(tmL T).get 9=some (HK n0)
 t10:(tmL T).get 10=some (gSl 1 hid hs.length)
def lU(E:CapE)(L0:List (Nat×Option AObj))(n0 a0:Nat)(sc0:List Int)(t:Trm)(hs ow:List Int)(fr:Fr)(s:St):Prop:=
 ∃T L n m hid,fr=⟨tmL T,[]⟩∧s=KL L n m false [] none∧CapT E n0 hid hs T∧CapS E L0 n0 a0 sc0 t hs ow L n m hid
theorem CapS.use{E:CapE}{L0:List (Nat×Option AObj)}{n0 a0:Nat}{sc0:List Int}{t:Trm}{hs ow:List Int}{L:List (Nat×Option AObj)}{m hid:Nat}(h:CapS E L0 n0 a0 sc0 t hs ow L n m hid){x:Int}{L2:List (Nat×Option AObj)}{n2 m2:Nat}(hw:WfA L2 n2)(hn:n≤n2)(h1:xN L2 E.oid=some (.umap (uS (jd (sc0++hs) ow x))))(h2:xN L2 (n0+1+1+1)=some (.row 4 [.bool (decide (ow.length≠a0)||(decide (x∉sc0++hs)&&decide (x∉ow)))] false false))(hf:∀j,j<n→j≠E.oid→j≠n0+1+1+1→xN L2 j=xN L j∧m2.testBit j=m.testBit j):CapS E L0 n0 a0 sc0 t hs (jd (sc0++hs) ow x) L2 n2 m2 hid:=by
 have n4:=h.n4;have ho:E.oid<n0:=h.lt _ (.inl (.inl h.M.oidW))
 exact{
  M:=h.M.turn hw h1 fun j hj hne hW=>(hf j hj hne (by have:=h.lt j hW;omega)).1
  n4:=oM
  r0:=by rw[(hf n0 oM oM oM).1];exact h.r0
  r1:=by rw[(hf (n0+1) oM oM oM).1];exact h.r1
  r2:=by rw[(hf (n0+1+1) oM oM oM).1];exact h.r2
  r3:=by rw[ztC _ _ _ _ h.le];exact h2
  hr:=h.hr.ext (zu _) hn fun j h1 h2=>(hf j h2 oM oM).1
  le:=zA h.le (UX _ _ _)
  nd:=pw h.nd
  ds:=h.ds
  lt:=h.lt
  fr:=fun j hj hW=>by
   have:=hf j oM (fun e=>hW (e▸.inl h.M.oidW)) oM;rw[this.1,this.2];exact h.fr j hj hW}
open Nat (reduceEqDiff reduceLeDiff reduceLT reduceAdd reduceMul reduceSub reduceMod reducePow reduceDiv reduceOr reduceShiftLeft reduceGT reduceSucc)
open List (length_cons length_nil length_take length_drop)
open Int (reduceOfNat reduceNegSucc)
def uN:ICode:=match f48.body with
 |.seq _ (.seq _ (.seq _ (.seq (.block _ (.loop (.block _ b))) _)))=>b
 |_=>.skip
def zl3:ICode:=match uN with
 |.seq a _=>a
 |_=>.skip
def zoS:ICode:=match uN with
 |.seq _ (.seq b _)=>b
 |_=>.skip
def La:ICode:=match uN with
 |.seq _ (.seq _ c)=>c
 |_=>.skip
theorem CapT.cons{E:CapE}{n0 hid:Nat}{hs:List Int}{T:List (Nat×AV)}(h:CapT E n0 hid hs T){j:Nat}(hj:j=5∨10<j):CapT E n0 hid hs ((j,v)::T):=by
 have e:∀i,i≠j→(tmL ((j,v)::T)).get i=(tmL T).get i:=fun i hi=>by rw[←QS,Trie.get_set_ne _ _ hi]
 obtain⟨t1,t4,t6,t7,t8,t9,t10⟩:=h;exact⟨by rw[e _ oM];exact t1,by rw[e _ oM];exact t4,by rw[e _ oM];exact t6,by rw[e _ oM];exact t7,by rw[e _ oM];exact t8,by rw[e _ oM];exact t9,by rw[e _ oM];exact t10⟩
theorem CapS.oth{E:CapE}{L0:List (Nat×Option AObj)}{n0 a0:Nat}{sc0:List Int}{t:Trm}{hs ow:List Int}{L:List (Nat×Option AObj)}{m hid:Nat}(h:CapS E L0 n0 a0 sc0 t hs ow L n m hid){L2:List (Nat×Option AObj)}{n2 m2:Nat}(hw:WfA L2 n2)(hn:n≤n2)(hf:∀j,j<n→xN L2 j=xN L j∧m2.testBit j=m.testBit j):CapS E L0 n0 a0 sc0 t hs ow L2 n2 m2 hid:=by
 have n4:=h.n4;have ho:E.oid<n0:=h.lt _ (.inl (.inl h.M.oidW))
 exact{
  M:=h.M.turn hw (by rw[(hf E.oid oM).1];exact h.M.own) fun j hj hne hW=>(hf j hj).1
  n4:=oM
  r0:=by rw[(hf n0 oM).1];exact h.r0
  r1:=by rw[(hf (n0+1) oM).1];exact h.r1
  r2:=by rw[(hf (n0+1+1) oM).1];exact h.r2
  r3:=by rw[(hf (n0+1+1+1) oM).1];exact h.r3
  hr:=h.hr.ext (zu _) hn fun j h1 h2=>(hf j h2).1
  le:=h.le
  nd:=h.nd
  ds:=h.ds
  lt:=h.lt
  fr:=fun j hj hW=>by
   have:=hf j oM;rw[this.1,this.2];exact h.fr j hj hW}
section
variable {O:Orc}{E:CapE}{L0:List (Nat×Option AObj)}{n0 a0:Nat}{sc0 hs ow:List Int}{t:Trm}
attribute [local go_sem] xZ x4 ziJ ziN ziM ziH wZ ltF gtF wP HK in
theorem zoR(h72:O 72=none)(hl:t.atoms.length<1000000000){fr:Fr}(hI:lU E L0 n0 a0 sc0 t hs ow fr s):Ev (evC env (evW env O) none zl3 fr s) (wM (lU E L0 n0 a0 sc0 t hs (qD (sc0++hs) ow t.atoms)) fun _ _ _=>False):=by
 obtain⟨T,L,n,m,hid,rfl,rfl,hT,hS⟩:=hI;obtain⟨k,v,op,num,f,as,ks⟩:=t;simp only[Trm.atoms]at hl⊢;have r0:=hS.r0;simp only[vl,xU]at r0;have t4:=hT.t4;unfold zl3 uN f48;simp only;refine xQ ?_;refine xT ?_;refine wx (fun x:Nat×List Int=>as.length-x.1) (fun x fr s=>∃T L n m,fr=⟨tmL T,[]⟩∧s=KL L n m false [] none∧CapT E n0 hid hs T∧(tmL T).get 20=some (.lst as.length false (xP wn as))∧(tmL T).get 21=some (.int .i64 (.ofNat as.length))∧(tmL T).get 22=some (.int .i64 (.ofNat x.1))∧x.1≤as.length∧CapS E L0 n0 a0 sc0 (.mk k v op num f as ks) hs x.2 L n m hid∧qD (sc0++hs) ow as=qD (sc0++hs) x.2 (as.drop x.1)) (fun x fr s hI=>?_) (0,ow) ⟨_,L,n,m,rfl,rfl,?_,sV,sV,sV,zQ _,hS,rfl⟩
 ·obtain⟨T,L,n,m,rfl,rfl,hT,q20,q21,q22,hi,hS,he⟩:=hI;obtain⟨i,ow⟩:=x;simp only at q22 hi hS he;rcases wi as i with ⟨hi,hd⟩|⟨a,hi,hd⟩
  ·have hlt:¬i<as.length:=oM;rw[hd]at he;refine xO ?_;exact⟨_,L,n,m,hid,rfl,rfl,hT.cons oM,he▸hS⟩
  ·have hc:=zye hd;obtain⟨ak,an⟩:=a;rw[hd]at he;simp only[qD]at he;have hwf:=hS.M.wf;have n4:=hS.n4;obtain⟨t1,t4,t6,t7,t8,t9,t10⟩:=hT;have hT:CapT E n0 hid hs T:=⟨t1,t4,t6,t7,t8,t9,t10⟩;cases hk:eqD ak (.ofNat 1)with
   | false=>
    rw[hk]at he;refine xO ?_;refine⟨(i+1,ow),⟨_,_,_,_,rfl,rfl,?_,sV,sV,sV,by simp only;omega,?_,he⟩,by simp only;omega⟩
    ·(repeat refine CapT.cons ?_ oM);exact hT
    ·refine hS.oth ?_ oM fun j hj=>⟨?_,?_⟩
     ·(repeat first|exact hwf.up oM|refine WfA.same ?_ oM)
     ·(repeat (rw[xL,if_neg oM]))
     ·(repeat rw[ut oM])
   |true=>
    rw[hk]at he;have g1:=hS.r1;have g2:=hS.r2;have g3:=hS.r3;have gs:=hS.M.sco;have go:=hS.M.own;have l1:=hS.lt E.sid (.inl (.inr rfl));have l2:=hS.lt E.oid (.inl (.inl hS.M.oidW));refine xQ ?_;refine xQ ?_;refine xR (xT ?_);refine xQ ?_;refine xQ ?_;refine qW sW ?_;refine qt ?_;refine wc (zol h72 (sc:=sc0++hs) (ow:=ow) (g:=decide (ow.length≠a0)) (x:=an) (sid:=E.sid) (oid:=E.oid) ?_ ?_ ?_ ?_ ?_ ?_ _ _) fun v t hv=>?_
    ·(repeat first|exact hwf.up oM|refine WfA.same ?_ oM)
    ·(repeat (rw[xL,if_neg oM]));exact g1
    ·(repeat (rw[xL,if_neg oM]));exact g2
    ·(repeat (rw[xL,if_neg oM]));exact g3
    ·(repeat (rw[xL,if_neg oM]));exact gs
    ·(repeat (rw[xL,if_neg oM]));exact go
    obtain⟨L2,n2,m2,rfl,hw2,hn2,q1,q2,q3⟩:=hv;refine xO ?_;refine xO ?_;refine⟨(i+1,jd (sc0++hs) ow an),⟨_,L2,n2,m2,rfl,rfl,?_,sV,sV,sV,by simp only;omega,?_,he⟩,by simp only;omega⟩
    ·(repeat refine CapT.cons ?_ oM);exact hT
    ·refine hS.use hw2 oM q1 q2 fun j h1 h2 h3=>?_;have:=q3 j oM h2 h3;rw[this.1,this.2];exact⟨by (repeat (rw[xL,if_neg oM])),by (repeat rw[ut oM])⟩
 ·(repeat refine CapT.cons ?_ oM);exact hT
end
theorem zy6{l m:List Int}(hl:l.Nodup)(hm:m.Nodup)(h:∀x,x∈l↔x∈m):l.Perm m:=by
 rw[List.perm_iff_count];intro x;rw[hl.count,hm.count];simp only[h x]
theorem Zq{sc ow:List Int}{x y:Int}:y∈jd sc ow x↔y∈ow∨(y=x∧x∉sc):=by
 unfold jd Zk;split
 ·rename_i h;constructor
  ·exact .inl
  ·rintro(h1|⟨_,h1⟩)
   ·exact h1
   ·exact absurd h h1
 ·rename_i h
  split
  ·rename_i h1;constructor
   ·exact .inl
   ·rintro(h2|⟨rfl,_⟩)
    ·exact h2
    ·exact h1
  ·simp only[ziZ,zW];constructor
   ·rintro(h2|h2)
    ·exact .inl h2
    ·exact .inr ⟨h2,h⟩
   ·rintro(h2|⟨h2,_⟩)
    ·exact .inl h2
    ·exact .inr h2
theorem Ul{sc:List Int}{y:Int}:∀{l ow:List Int},y∈pF sc ow l↔y∈ow∨(y∈l∧y∉sc)
 |[],ow=>by simp[pF]
 | x::l,ow=>by
  simp only[pF];rw[Ul,Zq];constructor
  ·rintro((h|⟨rfl,h⟩)|⟨h,h'⟩)
   ·exact .inl h
   ·exact .inr ⟨by simp,h⟩
   ·exact .inr ⟨by simp[h],h'⟩
  ·rintro(h|⟨h,h'⟩)
   ·exact .inl (.inl h)
   ·rcases List.mem_cons.1 h with rfl|h
    ·exact .inl (.inr ⟨rfl,h'⟩)
    ·exact .inr ⟨h,h'⟩
theorem Yq{sc:List Int}:∀{l ow:List Int},ow.Nodup→(pF sc ow l).Nodup
 |[],_,h=>h
 |x::l,ow,h=>Yq (l:=l) (pw h)
structure XsOk(l:List Int)(xs:List (AV×AV×Nat))(clk:Nat):Prop where
 key:∀q∈xs,∃n,q.1=.int .i64 n∧q.2.1=.agg []∧n∈l
 all:∀n∈l,∃q∈xs,q.1=.int .i64 n
 one:∀q∈xs,∀q'∈xs,q.1=q'.1→q=q'
 st:(xs.map (·.2.2)).Nodup
 old:∀q∈xs,q.2.2<clk
 nd:l.Nodup
theorem KQ:∀{xs:List (AV×AV×Nat)},(xs.map (·.1)).Nodup→∀q∈xs,∀q'∈xs,q.1=q'.1→q=q'
 |[],_,q,hq,_,_,_=>by cases hq
 |a::xs,h,q,hq,q',hq',e=>by
  simp only[zD,ziR,zi5,not_exists,not_and]at h;rcases List.mem_cons.1 hq with e1|hq<;>rcases List.mem_cons.1 hq' with e2|hq'
  ·rw[e1,e2]
  ·exact absurd (e.symm.trans (by rw[e1])) (h.1 q' hq')
  ·exact absurd (e.trans (by rw[e2])) (h.1 q hq)
  ·exact KQ h.2 q hq q' hq' e
theorem XsOk.of{l:List Int}{xs:List (AV×AV×Nat)}{clk:Nat}(h:Jt (uS l) xs clk):XsOk l xs clk:=by
 obtain⟨h1,h2,h3,h4⟩:=h;rw[HI]at h4;have e:(uS l).map (fun q=>(AV.int .i64 q.1,q.2))=l.map fun x=>(AV.int .i64 x,AV.agg []):=by simp[uS]
 rw[e]at h1;have hk:(xs.map (·.1)).Perm (l.map (AV.int .i64)):=by
  have:=h1.map (·.1)
  simpa [List.map_map,Function.comp_def]using this
 refine⟨fun q hq=>?_,fun n hn=>?_,KQ (hk.nodup_iff.2 (h4.map (f:=AV.int .i64) fun a b hab he=>by cases he;exact hab rfl)),h2,h3,h4⟩
 ·have:(q.1,q.2.1)∈l.map fun x=>(AV.int .i64 x,AV.agg []):=h1.mem_iff.1 (List.mem_map.2 ⟨q,hq,rfl⟩);obtain⟨n,hn,he⟩:=List.mem_map.1 this;simp only[Prod.mk.injEq]at he;exact⟨n,he.1.symm,he.2.symm,hn⟩
 ·have:AV.int .i64 n∈xs.map (·.1):=hk.mem_iff.2 (List.mem_map.2 ⟨n,hn,rfl⟩);obtain⟨q,hq,he⟩:=List.mem_map.1 this;exact⟨q,hq,he⟩
theorem uh{seen:List Nat}{p:AV×AV×Nat}:∀{xs:List (AV×AV×Nat)},p∈vQ seen xs↔p∈xs∧p.2.2∉seen
 |[]=>by simp[vQ]
 | q ::xs=>by
  simp only[vQ,gU];cases hc:seen.contains q.2.2 with
  | true=>
   rw[cond_true,uh];constructor
   ·rintro⟨h1,h2⟩;exact⟨by simp[h1],h2⟩
   ·rintro⟨h1,h2⟩
    rcases List.mem_cons.1 h1 with rfl|h1
    ·simp at hc;exact absurd hc h2
    ·exact⟨h1,h2⟩
  | false=>
   rw[cond_false,ziL,uh];constructor
   ·rintro(rfl|⟨h1,h2⟩)
    ·refine⟨by simp,fun h=>?_⟩
     have:seen.contains p.2.2=true:=by simpa using h
     rw[this]at hc;cases hc
    ·exact⟨by simp[h1],h2⟩
   ·rintro⟨h1,h2⟩
    rcases List.mem_cons.1 h1 with rfl|h1
    ·exact .inl rfl
    ·exact .inr ⟨h1,h2⟩
theorem KE:∀xs:List (AV×AV×Nat),vQ [] xs=xs
 |[]=>rfl
 |q::xs=>by simp only[vQ,gU,List.contains_nil,cond_false,KE xs]
theorem KD{seen:List Nat}{b:Nat}:∀{xs:List (AV×AV×Nat)},(vQ (seen++[b]) xs).length≤(vQ seen xs).length
 |[]=>zu _
 | q::xs=>by
  have ih:=KD (seen:=seen) (b:=b) (xs:=xs);simp only[vQ,gU];cases h1:seen.contains q.2.2 with
  |true=>
   rw[show (seen++[b]).contains q.2.2=true by simp at h1⊢;exact .inl h1]
   exact ih
  |false=>
   cases (seen++[b]).contains q.2.2<;>simp only[cond_true,cond_false,yb]<;>omega
theorem Xy{seen:List Nat}{p:AV×AV×Nat}:∀{xs:List (AV×AV×Nat)},p∈vQ seen xs→(vQ (seen++[p.2.2]) xs).length<(vQ seen xs).length
 | q::xs,h=>by
  have ih:=KD (seen:=seen) (b:=p.2.2) (xs:=xs);simp only[vQ,gU]at h⊢;cases h1:seen.contains q.2.2 with
  |true=>
   rw[h1]at h;rw[show (seen++[p.2.2]).contains q.2.2=true by simp at h1⊢;exact .inl h1]
   exact Xy h
  | false=>
   rw[h1,cond_false]at h;rcases List.mem_cons.1 h with rfl|h
   ·rw[show (seen++[p.2.2]).contains p.2.2=true by simp]
    simp only[cond_true,cond_false,yb];omega
   ·have:=Xy h;cases (seen++[p.2.2]).contains q.2.2<;>simp only[cond_true,cond_false,yb]<;>omega
theorem KB(l:List Nat)(b:Nat):Yf (l++[b])=some b:=by
 induction l with
 |nil=>rfl
 |cons x l ih=>
  cases l with
  |nil=>rfl
  |cons y l=>simp only[zM,Yf]at ih⊢;exact ih
theorem VV{p:AV×AV×Nat}:∀{xs:List (AV×AV×Nat)},(xs.map (·.2.2)).Nodup→p∈xs→Xo p.2.2 xs=some (p.1,p.2.1)
 | q::xs,h,hp=>by
  simp only[zD,ziR,zi5,not_exists,not_and]at h;simp only[Xo];rcases List.mem_cons.1 hp with rfl|hp
  ·rw[we.2 rfl];rfl
  ·have:Nat.beq q.2.2 p.2.2=false:=by
    cases hb:Nat.beq q.2.2 p.2.2 with
    |false=>rfl
    |true=>exact absurd (we.1 hb).symm (h.1 p hp)
   rw[this,cond_false];exact VV h.2 hp
def RgI(sc ow l ow2:List Int)(xs:List (AV×AV×Nat))(seen:List Nat):Prop:=
 ow2.Nodup∧∀x,x∈ow2↔x∈ow∨(x∉sc∧x∈l∧∀p∈vQ seen xs,p.1≠.int .i64 x)
theorem RgI.start{sc ow l:List Int}{xs:List (AV×AV×Nat)}{clk:Nat}(h:XsOk l xs clk)(hn:ow.Nodup):RgI sc ow l ow xs []:=⟨hn,fun x=>⟨.inl,fun h'=>by
 rcases h' with h'|⟨_,h2,h3⟩
 ·exact h'
 ·rw[KE]at h3;obtain⟨q,hq,he⟩:=h.all x h2;exact absurd he (h3 q hq)⟩⟩
theorem RgI.step{sc ow l ow2:List Int}{xs:List (AV×AV×Nat)}{clk:Nat}{seen:List Nat}{p:AV×AV×Nat}{x:Int}(h:XsOk l xs clk)(hI:RgI sc ow l ow2 xs seen)(hp:p∈vQ seen xs)(hx:p.1=.int .i64 x):RgI sc ow l (jd sc ow2 x) xs (seen++[p.2.2]):=by
 obtain⟨h1,h2⟩:=hI;obtain⟨hp1,hp2⟩:=uh.1 hp;have hst:∀q∈xs,q.2.2=p.2.2→q=p:=fun q hq e=>by
  have:∀{xs:List (AV×AV×Nat)},(xs.map (·.2.2)).Nodup→∀q∈xs,∀q'∈xs,q.2.2=q'.2.2→q=q':=by
   intro xs
   induction xs with
   |nil=>intro _ q hq;cases hq
   |cons a xs ih=>
    intro h q hq q' hq' e;simp only[zD,ziR,zi5,not_exists,not_and]at h;rcases List.mem_cons.1 hq with e1|hq<;>rcases List.mem_cons.1 hq' with e2|hq'
    ·rw[e1,e2]
    ·exact absurd (e.symm.trans (by rw[e1])) (h.1 q' hq')
    ·exact absurd (e.trans (by rw[e2])) (h.1 q hq)
    ·exact ih h.2 q hq q' hq' e
  exact this h.st q hq p hp1 e
 refine⟨pw h1,fun y=>?_⟩;rw[Zq,h2];constructor
 ·rintro((h3|⟨h3,h4,h5⟩)|⟨rfl,h3⟩)
  ·exact .inl h3
  ·refine .inr ⟨h3,h4,fun q hq=>h5 q ?_⟩;obtain⟨q1,q2⟩:=uh.1 hq;exact uh.2 ⟨q1,fun hh=>q2 (by simp[hh])⟩
  ·obtain⟨n,e1,_,e3⟩:=h.key p hp1;rw[hx]at e1;cases e1;refine .inr ⟨h3,e3,fun q hq e=>?_⟩;obtain⟨q1,q2⟩:=uh.1 hq;have:=h.one q q1 p hp1 (e.trans hx.symm);subst this;exact q2 (by simp)
 ·rintro(h3|⟨h3,h4,h5⟩)
  ·exact .inl (.inl h3)
  ·by_cases hy:y=x
   ·exact .inr ⟨hy,hy▸h3⟩
   ·refine .inl (.inr ⟨h3,h4,fun q hq e=>?_⟩);obtain⟨q1,q2⟩:=uh.1 hq;refine h5 q (uh.2 ⟨q1,fun hh=>?_⟩) e;rcases List.mem_append.1 hh with hh|hh
    ·exact q2 hh
    ·simp only[zW]at hh;have:=hst q q1 hh;subst this;rw[hx]at e;cases e;exact hy rfl
theorem RgI.fin{sc ow l ow2:List Int}{xs:List (AV×AV×Nat)}{seen:List Nat}(hI:RgI sc ow l ow2 xs seen)(h0:vQ seen xs=[])(hn:ow.Nodup):ow2.Perm (pF sc ow l):=by
 refine zy6 hI.1 (Yq hn) fun x=>?_;rw[hI.2,Ul,h0];constructor
 ·rintro(h|⟨h1,h2,_⟩)
  ·exact .inl h
  ·exact .inr ⟨h2,h1⟩
 ·rintro(h|⟨h1,h2⟩)
  ·exact .inl h
  ·exact .inr ⟨h2,h1,by simp⟩
open Int renaming reduceOfNat → rO, reduceNegSucc → rN
structure CO(C:Cx)(O:Orc):Prop where
 ok:CxOk C
 e:C.E=env
 o:C.O=O
 r:C.rd=none
theorem CO.ev{C:Cx}(h:CO C O){ic:ICode}{fr:Fr}{Q:Res→Fr→St→Prop}(q:Ev (evC env (evW env O) none ic fr s) Q):Tri C ic fr s Q:=zjf h.ok (by rw[h.e,h.o,h.r];exact q)
theorem zoo{it m since st clk b:Nat}{seen:List Nat}{es:List (AV×AV×Nat)}{p:AV×AV}(h1:s.get it=some (.miter (some m) since seen st))(h2:Yf seen=some b)(h3:s.get m=some (.map es clk))(h4:clk=st)(h5:Xo b es=some p):vEn s (.ptr it 0)=some (.tup [p.1,p.2]):=by
 subst h4;simp only[vEn,h1,h2,h3,we.2 rfl,cond_true,h5,zwQ]
theorem zlL{l:List (Nat×Option AObj)}{n m id clk:Nat}{b:Bool}{es:List (AV×AV×Nat)}(h:xN l id=some (.map es clk)):oRm (KL l n m b [] none) (.map id)=some (.ptr n 0,KL ((n,some (.miter (some id) clk [] clk))::l) (n+1) m b [] none):=by
 simp only[oRm,wh,h];rfl
theorem CapM.re{E:CapE}{L L2:List (Nat×Option AObj)}{sc ow:List Int}(h:CapM E L n sc ow)(hf:∀j,xN L2 j=xN L j):CapM E L2 n sc ow where
 wf:=fun j hj=>by rw[hf];exact h.wf j hj
 len:=h.len
 nd:=h.nd
 hi:=h.hi
 row:=by rw[hf];exact h.row
 oth:=fun j id a b=>by rw[hf];exact h.oth j id a b
 own:=by rw[hf];exact h.own
 sco:=by rw[hf];exact h.sco
 sd:=h.sd
theorem CapS.re{E:CapE}{L0:List (Nat×Option AObj)}{n0 a0:Nat}{sc0:List Int}{t:Trm}{hs ow:List Int}{L:List (Nat×Option AObj)}{m hid:Nat}(h:CapS E L0 n0 a0 sc0 t hs ow L n m hid){L2:List (Nat×Option AObj)}(hf:∀j,xN L2 j=xN L j){m2:Nat}(hm:∀j,j<n0→¬E.W j→m2.testBit j=m.testBit j):CapS E L0 n0 a0 sc0 t hs ow L2 n m2 hid where
 M:=h.M.re hf
 n4:=h.n4
 r0:=by rw[hf];exact h.r0
 r1:=by rw[hf];exact h.r1
 r2:=by rw[hf];exact h.r2
 r3:=by rw[hf];exact h.r3
 hr:=h.hr.ext (zu _) (zu _) fun j _ _=>hf j
 le:=h.le
 nd:=h.nd
 ds:=h.ds
 lt:=h.lt
 fr:=fun j hj hW=>by rw[hf,hm j hj hW];exact h.fr j hj hW
theorem CapS.perm{E:CapE}{L0:List (Nat×Option AObj)}{n0 a0:Nat}{sc0:List Int}{t:Trm}{hs ow ow2:List Int}{L:List (Nat×Option AObj)}{m hid m2:Nat}(h:CapS E L0 n0 a0 sc0 t hs ow L n m hid)(hp:ow.Perm ow2)(hm:∀j,j<n0→¬E.W j→m2.testBit j=m.testBit j):CapS E L0 n0 a0 sc0 t hs ow2 ((E.oid,some (.umap (uS ow2)))::L) n m2 hid:=by
 have n4:=h.n4;have ho:E.oid<n0:=h.lt _ (.inl (.inl h.M.oidW))
 exact{
  M:=h.M.turn (WfA.same h.M.wf oM) (xS _ _ _) fun j hj hne hW=>by rw[xL,if_neg hne]
  n4:=n4
  r0:=by rw[xL,if_neg oM];exact h.r0
  r1:=by rw[xL,if_neg oM];exact h.r1
  r2:=by rw[xL,if_neg oM];exact h.r2
  r3:=by rw[xL,if_neg oM,←hp.length_eq];exact h.r3
  hr:=h.hr.ext (zu _) (zu _) fun j h1 h2=>by rw[xL,if_neg oM]
  le:=by rw[←hp.length_eq];exact h.le
  nd:=hp.nodup_iff.1 h.nd
  ds:=h.ds
  lt:=h.lt
  fr:=fun j hj hW=>by
   have hne:j≠E.oid:=fun e=>hW (by rw[e];exact .inl h.M.oidW)
   rw[hm j hj hW,xL,if_neg hne];exact h.fr j hj hW}
theorem CapS.itr{E:CapE}{L0:List (Nat×Option AObj)}{n0 a0:Nat}{sc0:List Int}{t:Trm}{hs ow:List Int}{L:List (Nat×Option AObj)}{m hid it:Nat}(h:CapS E L0 n0 a0 sc0 t hs ow L n m hid){L2:List (Nat×Option AObj)}{n2 m2:Nat}(hw:WfA L2 n2)(hn:n≤n2)(hit:n0+1+1+1+1≤it)(hh:hs≠[]→hid≠it)(hf:∀j,j<n→j≠it→xN L2 j=xN L j)(hm:∀j,j<n0→¬E.W j→m2.testBit j=m.testBit j):CapS E L0 n0 a0 sc0 t hs ow L2 n2 m2 hid:=by
 have n4:=h.n4;have ho:E.oid<n0:=h.lt _ (.inl (.inl h.M.oidW))
 exact{
  M:=h.M.turn hw (by rw[hf E.oid oM oM];exact h.M.own) fun j hj hne hW=>hf j hj (by have:=h.lt j hW;omega)
  n4:=oM
  r0:=by rw[hf n0 oM oM];exact h.r0
  r1:=by rw[hf (n0+1) oM oM];exact h.r1
  r2:=by rw[hf (n0+1+1) oM oM];exact h.r2
  r3:=by rw[hf (n0+1+1+1) oM oM];exact h.r3
  hr:=fun hne=>by
   obtain⟨h1,h2,h3⟩:=h.hr hne;exact⟨h1,oM,by rw[hf hid h2 (hh hne)];exact h3⟩
  le:=h.le
  nd:=h.nd
  ds:=h.ds
  lt:=h.lt
  fr:=fun j hj hW=>by
   rw[hf j oM oM,hm j hj hW];exact h.fr j hj hW}
def Vi(E:CapE)(k f:Int)(sc ow:List Int):List Int:=bif eqD k (.ofNat 2)then (if f.toNat=E.i then ow else pF sc ow (Ji E.S f))else ow
theorem zoT{E:CapE}{k f:Int}{sc ow:List Int}(h:eqD k (.ofNat 2)=false):Vi E k f sc ow=ow:=by unfold Vi;rw[h];rfl
theorem zsm{E:CapE}{k:Int}{j:Nat}{sc ow:List Int}(h:eqD k (.ofNat 2)=true)(hj:j=E.i):Vi E k (.ofNat j) sc ow=ow:=by
 unfold Vi;rw[h,cond_true];exact if_pos hj
theorem zsl{E:CapE}{k:Int}{j:Nat}{sc ow:List Int}(h:eqD k (.ofNat 2)=true)(hj:j≠E.i):Vi E k (.ofNat j) sc ow=pF sc ow (E.S.getD j []):=by
 unfold Vi;rw[h,cond_true];exact if_neg hj
section
variable {O:Orc}{E:CapE}{L0:List (Nat×Option AObj)}{n0 a0:Nat}{sc0 hs ow:List Int}{t:Trm}
attribute [local go_sem] xZ x4 ziJ ziN ziM ziH wZ ltF gtF wP HK in
theorem zsi(h72:O 72=none){C:Cx}(hC:CO C O)(hf:eqD t.kind (.ofNat 2)=true→∃j,t.fn=.ofNat j∧j<E.ids.length)(hN:E.ids.length<1000000000){fr:Fr}(hI:lU E L0 n0 a0 sc0 t hs ow fr s):Tri C zoS fr s (wM (lU E L0 n0 a0 sc0 t hs (Vi E t.kind t.fn (sc0++hs) ow)) fun _ _ _=>False):=by
 obtain⟨T,L,n,m,hid,rfl,rfl,hT,hS⟩:=hI;obtain⟨k,v,op,num,f,as,ks⟩:=t;simp only[Trm.kind,Trm.fn]at hf;show Tri C zoS _ _ (wM (lU E L0 n0 a0 sc0 (.mk k v op num f as ks) hs (Vi E k f (sc0++hs) ow)) fun _ _ _=>False);have r0:=hS.r0;simp only[vl,xU]at r0;have t4:=hT.t4;have t1:=hT.t1;have hwf:=hS.M.wf;have n4:=hS.n4;unfold zoS uN f48;simp only;refine qq (hC.ev ?_);cases hk:eqD k (.ofNat 2)with
 |false=>
  rw[zoT hk];refine xO ?_;refine hC.ev ?_;refine xO ?_;exact⟨_,L,n,m,hid,rfl,rfl,by (repeat refine CapT.cons ?_ oM);exact hT,hS⟩
 | true=>
  obtain⟨j,rfl,hj⟩:=hf hk;refine xO ?_;refine zoi (b:=true) sV ?_;simp only[cond_true];have hjid:E.ids[j]? =some E.ids[j]:=yH hj;generalize hid0:E.ids[j]=id at hjid;have hidW:E.W id:=.inl (xq hjid);have hidn:id<n0:=hS.lt _ (.inl hidW);have hrow:=hS.M.row;have hcut:wj 1 (wH j (E.ids.map AV.map))=some [.map id]:=by
   have:(E.ids.map AV.map).drop j=.map id::(E.ids.map AV.map).drop (j+1):=by
    rw[ziO (by simpa using hj)]
    simp[hid0]
   rw[wY,this];rfl
  have hfid:E.fid≠id:=fun e=>by
   have h1:=hS.M.row;rw[e]at h1;by_cases hji:j=E.i
   ·have h2:=hS.M.own;rw[show E.oid=id from by have:=hS.M.oid;rw[←hji,hjid]at this;cases this;rfl,h1]at h2;cases h2
   ·rw[hS.M.oth j id hjid hji]at h1;cases h1
  by_cases hji:j=E.i
  ·rw [zsm hk hji];have hoid:E.oid=id:=by have:=hS.M.oid;rw[←hji,hjid]at this;cases this;rfl
   clear hji;have hoth:=hS.M.own;rw[hoid]at hoth;have hsid:id≠E.sid:=fun e=>hS.M.sd (e▸xq hjid);have hS0:=hS;refine qq (XS hC.ok (id:=id) (es:=uS ow) (by rw[wh];exact hoth) fun xs clk hx=>?_)
   have hX:=XsOk.of hx;rw[jC];have hrm:=fun m'=> @zlL ((id,some (.map xs clk))::L) n m' id clk false xs (xS _ _ _);refine hC.ev (xO ?_);refine vy (Wy (fun x:List Nat=>(vQ x xs).length) (fun x f t=>∃T L n2 m,f=⟨tmL T,[]⟩∧t=KL L n2 m false [] none∧CapT E n0 hid hs T∧(tmL T).get 42=some (.ptr n 0)∧xN L n=some (.miter (some id) clk x clk)∧xN L id=some (.map xs clk)∧n<n2∧CapS E L0 n0 a0 sc0 (.mk k v op num (.ofNat j) as ks) hs ow ((id,some (.umap (uS ow)))::L) n2 m hid) (fun x f t hI=>?_) [] ⟨_,_,n+1,_,rfl,rfl,?_,sV,xS _ _ _,by rw[xL,if_neg oM,xS],oM,?_⟩)
   ·obtain⟨T,L,n2,m,rfl,rfl,hT,t42,gi,gm,hn2,hS⟩:=hI;refine qq (zoj hC.ok (it:=n) (m:=id) (since:=clk) (last:=clk) (clk:=clk) (seen:=x) (es:=xs) t42 (by rw[wh];exact gi) (by rw[wh];exact gm) hX.old (zu _) (fun h0=>?_) fun p hp=>?_)
    ·have hid1:=hT.t9;refine⟨tmL ((44,.bool false)::(43,.tup [.bool false])::T),KL L n2 m false [] none,by rw[hC.e,hC.o];simp (disch:=first|exact dis|fail)only[go_sem,seval,-rO,-rN, *],?_⟩
     show Tri C _ _ _ _;refine XR hC.ok (es:=uS ow) (id:=id) (by rw[wh];exact gm) hx ?_
     rw[jC];refine hC.ev (xO ?_);refine⟨_,_,n2,_,hid,rfl,rfl,by (repeat refine CapT.cons ?_ oM);exact hT,hS.re (fun _=>rfl) fun i h1 h2=>?_⟩
     have e1:i≠id:=fun e=>h2 (by rw[e];exact hidW)
     rw[ut e1]
    ·obtain⟨hp1,hp2⟩:=uh.1 hp;obtain⟨y,hx1,hx2,hx3⟩:=hX.key p hp1;obtain⟨q,hq1,hq2⟩:=L8 (x:=y) 0 (fun q hq=>let ⟨n,h1,h2,_⟩:=hX.key q hq;⟨n,h1,h2⟩) ⟨p,hp1,hx1⟩
     have t9:=hT.t9;have hgi:xN ((n,some (.miter (some id) clk (x++[p.2.2]) clk))::L) id=some (.map xs clk):=by rw[xL,if_neg oM];exact gm
     have hen:=fun m'=>zoo (s:=KL ((n,some (.miter (some id) clk (x++[p.2.2]) clk))::L) n2 m' false [] none) (it:=n) (by rw[wh,xS]) (KB x p.2.2) (by rw[wh];exact hgi) rfl (VV hX.st hp1)
     simp only[hx1,hx2]at hen;have hlt:=Xy hp;have hwf:=hS.M.wf;have hov:∀j,j≠id→xN ((id,some (.umap (uS ow)))::L) j=xN L j:=fun j hj=>by rw[xL,if_neg hj]
     have hge:∀j,n0≤j→j≠id:=fun j h=>oM;have g1:=hS.r1;have g2:=hS.r2;have gs:=hS.M.sco;rw[hov _ (hge _ oM)]at g1 g2;rw[hov _ (Ne.symm hsid)]at gs;rw[hoid]at g2;have l1:=hS.lt E.sid (.inl (.inr rfl));have l3:=hS.n4;have hwL:WfA L n2:=fun j hj=>by rw[←hov j oM];exact hwf j hj
     refine⟨tmL ((44,.bool true)::(43,.tup [.bool true,p.1,p.2.1])::T),KL ((n,some (.miter (some id) clk (x++[p.2.2]) clk))::L) n2 (u0 m n) false [] none,by rw[hC.e,hC.o,jC];simp (disch:=first|exact dis|fail)only[go_sem,seval,-rO,-rN],?_⟩
     show Tri C _ _ _ _;generalize p.1=pk at *;generalize p.2.1=pv at *;generalize p.2.2=pb at *;subst hx1;subst hx2;have hS1:CapS E L0 n0 a0 sc0 (.mk k v op num (.ofNat j) as ks) hs ow ((id,some (.umap (uS ow)))::(n,some (.miter (some id) clk (x++[pb]) clk))::L) n2 (u0 m n) hid:=by
      refine hS.itr (it:=n) ?_ (zu _) oM (fun hne=>?_) (fun i h1 h2=>?_) fun i h1 h2=>?_
      ·exact WfA.same (WfA.same hwL oM) oM
      ·have:=(hS0.hr hne).2.1;omega
      ·rw[xL,xL,xL,if_neg h2]
      ·rw[wX,decide_eq_false oM,ziK]
     clear hS hoth hcut hrow hx hX hp hp1 gi hS0;refine hC.ev ?_;refine xQ ?_;refine xT ?_;refine xQ ?_;refine qt ?_;refine wc (zm9 h72 (sc:=sc0++hs) (x:=y) (sid:=E.sid) (oid:=id) (clk:=clk) (xs:=xs) (p:=q) ?_ ?_ ?_ ?_ ?_ hq1 hq2 _ _) fun v t hv=>?_
     ·exact WfA.same hwL oM
     ·(repeat (rw[xL,if_neg oM]));exact g1
     ·(repeat (rw[xL,if_neg oM]));exact g2
     ·(repeat (rw[xL,if_neg oM]));exact gs
     ·exact hgi
     obtain⟨L2,n3,m2,rfl,hw2,hn3,q3⟩:=hv;refine xO ?_;refine⟨x++[pb],⟨_,L2,n3,m2,rfl,rfl,?_,sV,?_,?_,oM,?_⟩,hlt⟩
     ·(repeat refine CapT.cons ?_ oM);exact hT
     ·rw[(q3 n hn2).1,xS]
     ·rw[(q3 id oM).1];exact hgi
     ·refine hS1.oth (WfA.same hw2 oM) hn3 fun i h1=>?_;have:=q3 i h1;rw[xL,xL,this.1];exact⟨rfl,this.2⟩
   ·(repeat refine CapT.cons ?_ oM);exact hT
   ·refine hS0.itr (it:=n) ?_ oM oM (fun hne=>?_) (fun i h1 h2=>?_) fun i h1 h2=>?_
    ·exact WfA.same (WfA.same (WfA.same (hwf.up oM) oM) oM) oM
    ·have:=(hS0.hr hne).2.1;omega
    ·rw[xL];split
     ·rename_i e;rw[e];exact hoth.symm
     ·rename_i e;rw[xL,if_neg h2,xL,if_neg e]
    ·have e1:i≠id:=fun e=>h2 (by rw[e];exact hidW)
     repeat rw[ut oM]
  ·rw [zsl hk hji];have hoth:=hS.M.oth j id hjid hji;have hne:=hS.M.one hjid hji;have hsid:id≠E.sid:=fun e=>hS.M.sd (e▸xq hjid);generalize E.S.getD j []=l at *;have hS0:=hS;refine qq (XS hC.ok (id:=id) (es:=uS l) (by rw[wh];exact hoth) fun xs clk hx=>?_)
   have hX:=XsOk.of hx;rw[jC];have hrm:=fun m'=> @zlL ((id,some (.map xs clk))::L) n m' id clk false xs (xS _ _ _);refine hC.ev (xO ?_);refine vy (Wy (fun x:List Nat×List Int=>(vQ x.1 xs).length) (fun x f t=>∃T L n2 m,f=⟨tmL T,[]⟩∧t=KL L n2 m false [] none∧CapT E n0 hid hs T∧(tmL T).get 42=some (.ptr n 0)∧xN L n=some (.miter (some id) clk x.1 clk)∧xN L id=some (.map xs clk)∧n<n2∧CapS E L0 n0 a0 sc0 (.mk k v op num (.ofNat j) as ks) hs x.2 ((id,some (.umap (uS l)))::L) n2 m hid∧RgI (sc0++hs) ow l x.2 xs x.1) (fun x f t hI=>?_) ([],ow) ⟨_,_,n+1,_,rfl,rfl,?_,sV,xS _ _ _,by rw[xL,if_neg oM,xS],oM,?_,RgI.start hX hS.nd⟩)
   ·obtain⟨seen,ow2⟩:=x;obtain⟨T,L,n2,m,rfl,rfl,hT,t42,gi,gm,hn2,hS,hR⟩:=hI;simp only at gi hS hR⊢;refine qq (zoj hC.ok (it:=n) (m:=id) (since:=clk) (last:=clk) (clk:=clk) (seen:=seen) (es:=xs) t42 (by rw[wh];exact gi) (by rw[wh];exact gm) hX.old (zu _) (fun h0=>?_) fun p hp=>?_)
    ·have hid1:=hT.t9;refine⟨tmL ((44,.bool false)::(43,.tup [.bool false])::T),KL L n2 m false [] none,by rw[hC.e,hC.o];simp (disch:=first|exact dis|fail)only[go_sem,seval,-rO,-rN, *],?_⟩
     show Tri C _ _ _ _;refine XR hC.ok (es:=uS l) (id:=id) (by rw[wh];exact gm) hx ?_
     rw[jC];have hperm:=hR.fin h0 hS0.nd;refine Js hC.ok (id:=E.oid) (es:=uS ow2) (es2:=uS (pF (sc0++hs) ow l)) (by rw[wh];exact hS.M.own) (hperm.map _) ?_
     rw[jC];refine hC.ev (xO ?_);refine⟨_,_,n2,_,hid,rfl,rfl,by (repeat refine CapT.cons ?_ oM);exact hT,hS.perm hperm fun i h1 h2=>?_⟩
     have e1:i≠id:=fun e=>h2 (by rw[e];exact hidW)
     have e2:i≠E.oid:=fun e=>h2 (by rw[e];exact .inl hS.M.oidW)
     rw[ut e2,ut e1]
    ·obtain⟨hp1,hp2⟩:=uh.1 hp;obtain⟨x,hx1,hx2,hx3⟩:=hX.key p hp1;have t9:=hT.t9;have hgi:xN ((n,some (.miter (some id) clk (seen++[p.2.2]) clk))::L) id=some (.map xs clk):=by rw[xL,if_neg oM];exact gm
     have hen:=fun m'=>zoo (s:=KL ((n,some (.miter (some id) clk (seen++[p.2.2]) clk))::L) n2 m' false [] none) (it:=n) (by rw[wh,xS]) (KB seen p.2.2) (by rw[wh];exact hgi) rfl (VV hX.st hp1)
     simp only[hx1,hx2]at hen;have hlt:=Xy hp;have hstep:=hR.step hX hp hx1;have hwf:=hS.M.wf;have hov:∀j,j≠id→xN ((id,some (.umap (uS l)))::L) j=xN L j:=fun j hj=>by rw[xL,if_neg hj]
     have hge:∀j,n0≤j→j≠id:=fun j h=>oM;have g1:=hS.r1;have g2:=hS.r2;have g3:=hS.r3;have gs:=hS.M.sco;have go:=hS.M.own;rw[hov _ (hge _ oM)]at g1 g2 g3;rw[hov _ (Ne.symm hsid)]at gs;rw[hov _ (Ne.symm hne)]at go;have l1:=hS.lt E.sid (.inl (.inr rfl));have l2:=hS.lt E.oid (.inl (.inl hS.M.oidW));have l3:=hS.n4;have hwL:WfA L n2:=fun j hj=>by rw[←hov j oM];exact hwf j hj
     refine⟨tmL ((44,.bool true)::(43,.tup [.bool true,p.1,p.2.1])::T),KL ((n,some (.miter (some id) clk (seen++[p.2.2]) clk))::L) n2 (u0 m n) false [] none,by rw[hC.e,hC.o,jC];simp (disch:=first|exact dis|fail)only[go_sem,seval,-rO,-rN],?_⟩
     show Tri C _ _ _ _;generalize p.1=pk at *;generalize p.2.1=pv at *;generalize p.2.2=pb at *;subst hx1;subst hx2;have hS1:CapS E L0 n0 a0 sc0 (.mk k v op num (.ofNat j) as ks) hs ow2 ((id,some (.umap (uS l)))::(n,some (.miter (some id) clk (seen++[pb]) clk))::L) n2 (u0 m n) hid:=by
      refine hS.itr (it:=n) ?_ (zu _) oM (fun hne=>?_) (fun i h1 h2=>?_) fun i h1 h2=>?_
      ·exact WfA.same (WfA.same hwL oM) oM
      ·have:=(hS0.hr hne).2.1;omega
      ·rw[xL,xL,xL,if_neg h2]
      ·rw[wX,decide_eq_false oM,ziK]
     clear hS hoth hcut hrow hx hX hR hp hp1 gi hS0;refine hC.ev ?_;refine xQ ?_;refine xT ?_;refine xQ ?_;refine qt ?_;refine wc (zol h72 (sc:=sc0++hs) (ow:=ow2) (g:=decide (ow2.length≠a0)) (x:=x) (sid:=E.sid) (oid:=E.oid) ?_ ?_ ?_ ?_ ?_ ?_ _ _) fun v t hv=>?_
     ·exact WfA.same hwL oM
     ·(repeat (rw[xL,if_neg oM]));exact g1
     ·(repeat (rw[xL,if_neg oM]));exact g2
     ·(repeat (rw[xL,if_neg oM]));exact g3
     ·(repeat (rw[xL,if_neg oM]));exact gs
     ·(repeat (rw[xL,if_neg oM]));exact go
     obtain⟨L2,n3,m2,rfl,hw2,hn3,q1,q2,q3⟩:=hv;refine xO ?_;refine⟨(seen++[pb],jd (sc0++hs) ow2 x),⟨_,L2,n3,m2,rfl,rfl,?_,sV,?_,?_,oM,?_,hstep⟩,hlt⟩
     ·(repeat refine CapT.cons ?_ oM);exact hT
     ·rw[(q3 n hn2 oM oM).1,xS]
     ·rw[(q3 id oM hne oM).1];exact hgi
     ·refine hS1.use (WfA.same hw2 oM) hn3 (by rw[xL,if_neg (Ne.symm hne)];exact q1) (by rw[xL,if_neg oM];exact q2) fun i h1 h2 h3=>?_
      have:=q3 i h1 h2 h3;rw[xL,xL,this.1];exact⟨rfl,this.2⟩
   ·(repeat refine CapT.cons ?_ oM);exact hT
   ·refine hS0.itr (it:=n) ?_ oM oM (fun hne=>?_) (fun i h1 h2=>?_) fun i h1 h2=>?_
    ·exact WfA.same (WfA.same (WfA.same (hwf.up oM) oM) oM) oM
    ·have:=(hS0.hr hne).2.1;omega
    ·rw[xL];split
     ·rename_i e;rw[e];exact hoth.symm
     ·rename_i e;rw[xL,if_neg h2,xL,if_neg e]
    ·have e1:i≠id:=fun e=>h2 (by rw[e];exact hidW)
     repeat rw[ut oM]
end
def jY(t:Trm):List AV:=[ud t]
theorem VL:∀x y,jY x=jY y→x=y:=fun _ _ h=>J3 (by simpa [jY]using h)
theorem J2(t:Trm):wkL (jY t)=jY t:=by simp only[jY,wkL,LQ]
theorem LP(t:Trm):xY (jY t)=true:=by simp only[jY,ud,wp,vw,uw,wA,xA]
noncomputable def pi:List AV→St→Option (AV×St):=vF jY (fun _=>True) (fun t=>.bool (vX t.kind))
attribute [local go_sem] jY ud xU in
theorem zsd(B:Bx P w0)(hO:OrcOk P w0 O)(t:Trm):∃s1,SC P w0 71 (jY t) (s00 0 true) (.bool (vX t.kind)) s1:=by
 refine be B hO f71 ?_;obtain⟨k,v,op,num,f,as,ks⟩:=t;unfold f71;simp only[vX,Trm.kind];refine xQ ?_;cases h1:eqD k (.ofNat 1)with
 |true=>
  refine xQ ?_;refine wB (r:=.ret) ?_;show Cv _ _;refine xW ?_;exact w8 _ _
 |false=>
  refine xQ ?_;refine wB (r:=.ret) ?_;show Cv _ _;refine xW ?_;exact w8 _ _
theorem HY(B:Bx P w0)(hO:OrcOk P w0 O):qz P w0 71 pi:=
 Wh true LP (fun _=>rfl) fun t _=>zsd B hO t
theorem zlW{α:Type}{t:Nat}{f:α→List AV}(hl:∀x,(f x).length=esz)(hs:∀x,wd (f x)=true)(he:1≤esz){L:List (Nat×Option AObj)}{m lo:Nat}{vs:List α}{w:α}{y:AV}(hr:GAt t f L lo n id vs)(hw:WfA L n)(hlo:lo≤n)(h1:j6 y=some 1)(h2:qC (KL L n m false [] none) esz 1 y=some (f w))(hb:2*(vs.length+1)*bytes≤281474976710656)(hn:vs.length+1<1000000000000):
  Cv (jg (KL L n m false [] none) t esz bytes (gSl esz id vs.length) y) fun v s=>∃id' L' n' m',v=gSl esz id' (vs++[w]).length∧s=KL L' n' m' false [] none∧GAt t f L' lo n' id' (vs++[w])∧WfA L' n'∧n≤n'∧(∀j,j<n→(vs≠[]→j≠id)→xN L' j=xN L j∧m'.testBit j=m.testBit j):=by
 have hfl:xP f [w]=f w:=qM w;cases vs with
 |nil=>
  refine⟨_,_,HV (q:=0) h1 h2 (.inl rfl) he (by simp only[xz,yO]at hb;exact hb) oM,n,_,_,_,rfl,rfl,fun _=>⟨hlo,yc _,by rw[xL,if_pos rfl,ziQ,hfl]⟩,fun j hj=>?_,zha _,fun j hj _=>⟨by rw[xL,if_neg oM],rfl⟩⟩
  rw[xL,if_neg oM];exact hw j oM
 | cons u us=>
  obtain⟨hlo2,hid,g1⟩:=hr (by simp)
  simp only[yb]at hb hn;have hsw:wd (f w)=true:=hs w;refine⟨_,_,HW (q:=0) (by rw[wh];exact g1) (by rw[vu hl];rfl) h1 h2 hsw he hb oM,n,_,_,_,?_,rfl,fun _=>⟨hlo,yc _,by rw[xL,if_pos rfl,wQ,hfl]⟩,fun j hj=>?_,zha _,fun j hj hne=>⟨by rw[xL,if_neg oM,xL,if_neg (hne (by simp))],?_⟩⟩
  ·simp only[zM,yb,yA,gSl]
   congr 1
  ·rw[xL,if_neg oM,xL];split
   ·rfl
   ·exact hw j oM
  ·rw[wX,decide_eq_false (hne (by simp)),ziK]
def zsj:ICode:=match La with
 |.seq a _=>a
 |_=>.skip
def Lb:ICode:=match La with
 |.seq _ (.seq a _)=>a
 |_=>.skip
def Ld:ICode:=match La with
 |.seq _ (.seq _ a)=>a
 |_=>.skip
def hsB(k v:Int)(sc0 hs:List Int):List Int:=bif vX k then (if v∈sc0++hs then hs else hs++[v])else hs
theorem zkB(k v:Int)(sc0 hs:List Int):sc0++hsB k v sc0 hs=scB k v (sc0++hs):=by
 unfold hsB scB Zk;cases vX k with
 |false=>rfl
 |true=>
  simp only[cond_true];split
  ·rfl
  ·rw[ziV]
theorem zn4(k v:Int)(sc0 hs:List Int):(hsB k v sc0 hs).length≤hs.length+1:=by
 unfold hsB;cases vX k with
 |false=>simp only[cond_false];omega
 |true=>
  simp only[cond_true];split
  ·omega
  ·simp
theorem CapT.new{E:CapE}{n0 hid hid2:Nat}{hs hs2:List Int}{T:List (Nat×AV)}(h:CapT E n0 hid hs T):CapT E n0 hid2 hs2 ((10,gSl 1 hid2 hs2.length)::T):=by
 have e:∀i,i≠10→(tmL ((10,gSl 1 hid2 hs2.length)::T)).get i=(tmL T).get i:=fun i hi=>by rw[←QS,Trie.get_set_ne _ _ hi]
 obtain⟨t1,t4,t6,t7,t8,t9,t10⟩:=h;exact⟨by rw[e _ oM];exact t1,by rw[e _ oM];exact t4,by rw[e _ oM];exact t6,by rw[e _ oM];exact t7,by rw[e _ oM];exact t8,by rw[e _ oM];exact t9,by rw[←QS,Trie.get_set_same]⟩
theorem CapS.bind{E:CapE}{L0:List (Nat×Option AObj)}{n0 a0:Nat}{sc0:List Int}{t:Trm}{hs ow:List Int}{L:List (Nat×Option AObj)}{m hid:Nat}(h:CapS E L0 n0 a0 sc0 t hs ow L n m hid){v:Int}(hv:v∉sc0){L2:List (Nat×Option AObj)}{n2 m2 hid2:Nat}(hw:WfA L2 n2)(hn:n≤n2)(hsc:xN L2 E.sid=some (.umap (uS (sc0++(hs++[v])))))(hg:GAt 3 wy L2 (n0+1+1+1+1) n2 hid2 (hs++[v]))(hf:∀j,j<n→j≠E.sid→(hs≠[]→j≠hid)→xN L2 j=xN L j∧m2.testBit j=m.testBit j):CapS E L0 n0 a0 sc0 t (hs++[v]) ow L2 n2 m2 hid2:=by
 have n4:=h.n4;have hh:∀j,j<n0+1+1+1+1→(hs≠[]→j≠hid):=fun j hj hne=>by have:=(h.hr hne).1;omega
 have hl:∀j,E.W j∨j=E.fid→j<n0:=h.lt;have hsid:=hl E.sid (.inl (.inr rfl));have hne:∀j,j∈E.ids→j≠E.sid:=fun j hj e=>h.M.sd (e▸hj);have hfid:E.fid≠E.sid:=fun e=>by have h1:=h.M.row;rw[e,h.M.sco]at h1;cases h1
 exact{
  M :={
   wf:=hw
   len:=h.M.len
   nd:=h.M.nd
   hi:=h.M.hi
   row:=by have:=hl E.fid (.inr rfl);rw[(hf E.fid oM hfid (hh _ oM)).1];exact h.M.row
   oth:=fun j id hj hji=>by
    have hm:=xq hj;have:=hl id (.inl (.inl hm));rw[(hf id oM (hne id hm) (hh _ oM)).1];exact h.M.oth j id hj hji
   own:=by have:=hl E.oid (.inl (.inl h.M.oidW));rw[(hf E.oid oM (hne _ h.M.oidW) (hh _ oM)).1];exact h.M.own
   sco:=hsc
   sd:=h.M.sd}
  n4:=oM
  r0:=by rw[(hf n0 oM oM (hh _ oM)).1];exact h.r0
  r1:=by rw[(hf (n0+1) oM oM (hh _ oM)).1];exact h.r1
  r2:=by rw[(hf (n0+1+1) oM oM (hh _ oM)).1];exact h.r2
  r3:=by rw[(hf (n0+1+1+1) oM oM (hh _ oM)).1];exact h.r3
  hr:=hg
  le:=h.le
  nd:=h.nd
  ds:=fun w hw=>by
   rcases List.mem_append.1 hw with hw|hw
   ·exact h.ds w hw
   ·simp only[zW]at hw;rw[hw];exact hv
  lt:=h.lt
  fr:=fun j hj hW=>by
   have:=hf j oM (fun e=>hW (.inr e)) (hh _ oM);rw[this.1,this.2];exact h.fr j hj hW}
section
variable {O:Orc}{E:CapE}{L0:List (Nat×Option AObj)}{n0 a0:Nat}{sc0 hs ow:List Int}{t:Trm}
attribute [local go_sem] kh Yg lj li kO XD xZ x4 ziJ ziN ziM ziH wZ ltF gtF wP HK in
theorem zsk(h71:O 71=some pi)(hl:hs.length<1000000000){fr:Fr}(hI:lU E L0 n0 a0 sc0 t hs ow fr s):Ev (evC env (evW env O) none zsj fr s) (wM (lU E L0 n0 a0 sc0 t (hsB t.kind t.var sc0 hs) ow) fun _ _ _=>False):=by
 obtain⟨T,L,n,m,hid,rfl,rfl,hT,hS⟩:=hI;have hb:=fun s=>oc h71 VL t trivial (J2 t) s;obtain⟨k,v,op,num,f,as,ks⟩:=t;simp only[jY,ud,xU,Trm.kind,Trm.var]at hb⊢;have r0:=hS.r0;have r1:=hS.r1;have gs:=hS.M.sco;simp only[vl,xU]at r0;have t4:=hT.t4;have t6:=hT.t6;have t10:=hT.t10;have hwf:=hS.M.wf;have n4:=hS.n4;have l1:E.sid<n0:=hS.lt E.sid (.inl (.inr rfl));unfold hsB;generalize vX k=bk at *;unfold zsj La uN f48;simp only;by_cases hv:v∈sc0++hs
 ·have hk:=gP hv;have e1:(bif bk then (if v∈sc0++hs then hs else hs++[v])else hs)=hs:=by cases bk<;>simp[hv]
  rw[e1];clear e1 hv;have hS1:CapS E L0 n0 a0 sc0 (.mk k v op num f as ks) hs ow ((n,some (.row 80 [] false false))::(n,some (.row 80 [] false false))::L) (n+1) (m|||1<<<n) hid:=by
   refine hS.oth (WfA.same (WfA.same (hwf.up oM) oM) oM) oM fun j hj=>⟨?_,?_⟩
   ·(repeat (rw[xL,if_neg oM]))
   ·rw[ut oM]
  refine xQ ?_;cases bk with
  |true=>
   refine xQ ?_;refine xO ?_;exact⟨_,_,_,_,hid,rfl,rfl,by (repeat refine CapT.cons ?_ oM);exact hT,hS1⟩
  |false=>
   refine xQ ?_;refine xO ?_;exact⟨_,_,_,_,hid,rfl,rfl,by (repeat refine CapT.cons ?_ oM);exact hT,hS1⟩
 ·have hk:=kp hv;have hst:=lO hv;have hv0:v∉sc0:=fun h=>hv (by simp[h])
  have hS1:CapS E L0 n0 a0 sc0 (.mk k v op num f as ks) hs ow ((n,some (.row 80 [] false false))::(n,some (.row 80 [] false false))::L) (n+1) (m|||1<<<n) hid:=by
   refine hS.oth (WfA.same (WfA.same (hwf.up oM) oM) oM) oM fun j hj=>⟨?_,?_⟩
   ·(repeat (rw[xL,if_neg oM]))
   ·rw[ut oM]
  refine xQ ?_;cases bk with
  |false=>
   simp only[cond_false];refine xQ ?_;refine xO ?_;exact⟨_,_,_,_,hid,rfl,rfl,by (repeat refine CapT.cons ?_ oM);exact hT,hS1⟩
  | true=>
   simp only[cond_true];rw[if_neg hv];clear hv;refine xQ ?_;refine qW sW ?_;refine xQ ?_;refine qt ?_;refine wc (zlW kQ Vo oM (vs:=hs) (w:=v) (lo:=n0+1+1+1+1) (id:=hid) (hS.hr.ext (zu _) (Nat.le_succ_of_le (Nat.le_succ_of_le (zu _))) fun j h1 h2=>?_) ?_ oM rfl (lr (j:=0) (by rw[wh,xS];rfl) rfl).2 oM oM) fun v t hv=>?_
   ·(repeat (rw[xL,if_neg oM]))
   ·(repeat first|exact hwf.up oM|refine WfA.same ?_ oM)
   obtain⟨hid2,L2,n2,m2,rfl,rfl,q1,q2,q3,q4⟩:=hv;refine xO ?_;refine⟨_,L2,n2,m2,hid2,rfl,rfl,?_,hS.bind hv0 q2 oM ?_ q1 fun j h1 h2 h3=>?_⟩
   ·refine CapT.new (hs:=hs) (hid:=hid) ?_
    (repeat refine CapT.cons ?_ oM);exact hT
   ·rw[(q4 E.sid oM fun hne=>by have:=(hS.hr hne).1;omega).1]
    (repeat (rw[xL,if_neg oM]))
    rw[xS,ziV]
   ·have:=q4 j oM h3;rw[this.1,this.2];exact⟨by (repeat (rw[xL,if_neg oM])),by (repeat rw[ut oM])⟩
end
structure CapX where
 E:CapE
 t:Trm
 sc:List Int
def CapE.ow(E:CapE):List Int:=E.S.getD E.i []
structure CapPre(M:Nat)(x:CapX)(args:List AV)(s:St):Prop where
 args:args=[.agg (x3 x.t),.sl x.E.fid 0 x.E.ids.length x.E.c,.map x.E.sid,.map x.E.oid]
 len:x.E.S.length=x.E.ids.length
 nd:x.E.ids.Nodup
 hi:x.E.i<x.E.ids.length
 sd:x.E.sid∉x.E.ids
 row:s.get x.E.fid=some (.row 74 (x.E.ids.map .map) x.E.xx x.E.ff)
 maps:∀j id,x.E.ids[j]? =some id→s.get id=some (.umap (uS (x.E.S.getD j [])))
 sco:s.get x.E.sid=some (.umap (uS x.sc))
 lt:∀j,x.E.W j∨j=x.E.fid→j<s.next
 ok:Qr x.E.ids.length x.t
 sz:wJ x.t≤M
 ond:x.E.ow.Nodup
 N:x.E.ids.length<1000000000
def CapX.own(x:CapX):List Int:=vn x.E.S x.E.i x.t x.sc x.E.ow
def YY:List Nat→List (List Int)→List (Nat×AObj)
 |id::ids,l::S=>(id,.umap (uS l))::YY ids S
 |_,_=>[]
def CapX.objs(x:CapX):List (Nat×AObj):=(x.E.sid,.umap (uS x.sc))::YY x.E.ids (x.E.S.set x.E.i x.own)
theorem zxA{l m:List Int}(h:uS l=uS m):l=m:=by
 have:=congrArg (List.map (·.1)) h
 rwa [HI,HI]at this
theorem zmg{a:List Nat}(h:a.map AV.map=b.map AV.map):a=b:=by
 induction a generalizing b with
 |nil=>cases b with
  |nil=>rfl
  |cons _ _=>cases h
 | cons x a ih=>cases b with
  |nil=>cases h
  |cons y b=>
   simp only[zD,List.cons.injEq,AV.map.injEq]at h;rw[h.1,ih h.2]
theorem Hq{E:CapE}(h:E.i<E.ids.length):E.ids[E.i]? =some E.oid:=by
 unfold CapE.oid;rw[xe,yH h];rfl
theorem CapPre.uniq{M:Nat}{x y:CapX}{args:List AV}(h:CapPre M x args s)(g:CapPre M y args s):x=y:=by
 obtain⟨⟨ids,S,i,fid,sid,c,xx,ff⟩,t,sc⟩:=x;obtain⟨⟨ids',S',i',fid',sid',c',xx',ff'⟩,t',sc'⟩:=y;have ha:=h.args.symm.trans g.args;simp only[List.cons.injEq,AV.agg.injEq,AV.sl.injEq,AV.map.injEq,true_and,and_true]at ha;obtain⟨h1,⟨rfl,h2,rfl⟩,rfl,h3⟩:=ha;have hr:=h.row.symm.trans g.row;simp only[Option.some.injEq,AObj.row.injEq,true_and]at hr;obtain⟨hr1,rfl,rfl⟩:=hr;have hids:=zmg hr1;subst hids;have hi:i=i':=by
  have e1:=Hq h.hi;have e2:=Hq g.hi;rw[h3]at e1;exact(ziW h.hi h.nd).1 (e1.trans e2.symm)
 subst hi;have hS:S=S':=by
  have l1:S.length=ids.length:=h.len;have l2:S'.length=ids.length:=g.len;refine List.ext_getElem? fun j=>?_;by_cases hj:j<ids.length
  ·have e1:=h.maps j _ (yH hj);have e2:=g.maps j _ (yH hj);have e3:=e1.symm.trans e2;simp only[Option.some.injEq,AObj.umap.injEq]at e3;have e4:=zxA e3;rw[xe,xe,yH oM,yH oM]at e4;rw[yH oM,yH oM];exact congrArg some e4
  ·rw[ym oM,ym oM]
 subst hS;have hsc:=h.sco.symm.trans g.sco;simp only[Option.some.injEq,AObj.umap.injEq]at hsc;rw[zxA hsc,kW h1]
theorem U2:∀{ids:List Nat} {S:List (List Int)},S.length=ids.length→(YY ids S).map (·.1)=ids
 |[],[],_=>rfl
 |id::ids,l::S,h=>by
  simp only[YY,zD];rw[U2 (by simpa using h)]
theorem U3:∀{ids:List Nat} {S:List (List Int)} {p:Nat×AObj},p∈YY ids S→∃j,ids[j]? =some p.1∧j<S.length∧p.2=.umap (uS (S.getD j []))
 |[],_,p,h=>by simp[YY]at h
 |_::_,[],p,h=>by simp[YY]at h
 |id::ids,l::S,p,h=>by
  simp only[YY,ziL]at h;rcases h with rfl|h
  ·exact⟨0,rfl,by simp,rfl⟩
  ·obtain⟨j,h1,h2,h3⟩:=U3 h;exact⟨j+1,by simpa using h1,by simpa using h2,by simpa using h3⟩
section
variable {M:Nat}{x:CapX}{args:List AV}{s:St}
theorem CapPre.fst(h:CapPre M x args s):x.objs.map (·.1)=x.E.sid::x.E.ids:=by
 simp only[CapX.objs,zD];rw[U2 (by rw[ziU];exact h.len)]
theorem CapPre.nodup(h:CapPre M x args s):(x.objs.map (·.1)).Nodup:=by
 rw[h.fst,ziR];exact⟨h.sd,h.nd⟩
theorem CapPre.mem(h:CapPre M x args s){p:Nat×AObj}(hp:p∈x.objs):(p.1=x.E.sid∧p.2=.umap (uS x.sc))∨∃j,x.E.ids[j]? =some p.1∧p.2=.umap (uS (if j=x.E.i then x.own else x.E.S.getD j [])):=by
 simp only[CapX.objs,ziL]at hp;rcases hp with rfl|hp
 ·exact .inl ⟨rfl,rfl⟩
 ·obtain⟨j,h1,h2,h3⟩:=U3 hp;refine .inr ⟨j,h1,?_⟩;rw[h3,xe,zi2];have hl:=h.len;rw[ziU]at h2;by_cases hj:j=x.E.i
  ·subst hj;simp[h2]
  ·rw[if_neg (Ne.symm hj),if_neg hj,←xe]
theorem CapPre.get(h:CapPre M x args s){p:Nat×AObj}(hp:p∈x.objs):∃o,s.get p.1=some o∧qO o=false:=by
 rcases h.mem hp with ⟨e,_⟩|⟨j,hj,_⟩
 ·rw[e];exact⟨_,h.sco,rfl⟩
 ·exact⟨_,h.maps j _ hj,rfl⟩
end
open Classical in
noncomputable def YC(M:Nat)(args:List AV)(s:St):Option (AV×St):=
 if h:∃x,CapPre M x args s then some (.bool (decide ((zi3 h).own.length≠(zi3 h).E.ow.length)),QB s (zi3 h).objs)else none
theorem zx8{M:Nat}{x:CapX}{args:List AV}(h:CapPre M x args s):YC M args s=some (.bool (decide (x.own.length≠x.E.ow.length)),QB s x.objs):=by
 have hx:∃x,CapPre M x args s:=⟨x,h⟩;unfold YC;rw[dif_pos hx,(Classical.choose_spec hx).uniq h]
theorem V4{M:Nat}{args:List AV}(h:YC M args s=some (v,s')):∃x,CapPre M x args s∧v=.bool (decide (x.own.length≠x.E.ow.length))∧s'=QB s x.objs:=by
 by_cases hx:∃x,CapPre M x args s
 ·obtain⟨x,hx⟩:=hx;rw[zx8 hx]at h;cases h;exact⟨x,hx,rfl,rfl⟩
 ·unfold YC at h;rw[dif_neg hx]at h;cases h
theorem Pi{M:Nat}(args:List AV)(s:St)(v:AV)(s':St)(h:YC M args s=some (v,s')):Ext s s':=by
 obtain⟨x,hx,_,rfl⟩:=V4 h;exact UD _ s hx.nodup fun p hp=>hx.get hp
def QA(L:List (Nat×Option AObj)):List (Nat×AObj)→List (Nat×Option AObj)
 |[]=>L
 |p::r=>QA ((p.1,some p.2)::L) r
def Py(m:Nat):List (Nat×AObj)→Nat
 |[]=>m
 |p::r=>Py (u0 m p.1) r
theorem zwS(n:Nat)(b:Bool)(hd:List (Nat×Nat))(on:Option (Nat×List Nat)):∀(W:List (Nat×AObj)) (L:List (Nat×Option AObj)) (m:Nat),QB (KL L n m b hd on) W=KL (QA L W) n (Py m W) b hd on
 |[],_,_=>rfl
 |p::r,L,m=>by simp only[QB,jC];exact zwS n b hd on r _ _
theorem vP:∀(W:List (Nat×AObj)) (L:List (Nat×Option AObj)) (j:Nat),(W.map (·.1)).Nodup→(∀o,(j,o)∈W→xN (QA L W) j=some o)∧((∀p∈W,p.1≠j)→xN (QA L W) j=xN L j)
 |[],_,_,_=>⟨by simp,fun _=>rfl⟩
 | p::r,L,j,h=>by
  simp only[zD,ziR,zi5,not_exists,not_and]at h;obtain⟨h1,h2⟩:=vP r ((p.1,some p.2)::L) j h.2;simp only[QA];refine⟨fun o ho=>?_,fun hn=>?_⟩
  ·rcases List.mem_cons.1 ho with e|ho
   ·rw[h2 fun q hq e2=>h.1 q hq (by rw[e2,←e]),←e,xS]
   ·exact h1 o ho
  ·rw[h2 fun q hq=>hn q (by simp[hq]),xL,if_neg (fun e=>hn p (by simp) e.symm)]
theorem KI:∀(W:List (Nat×AObj)) (m j:Nat),(∀p∈W,p.1≠j)→(Py m W).testBit j=m.testBit j
 |[],_,_,_=>rfl
 |p::r,m,j,h=>by
  simp only[Py];rw[KI r _ j fun q hq=>h q (by simp[hq]),wX,decide_eq_false (fun e=>h p (by simp) e.symm),ziK]
theorem zrG{S:List (List Int)}{i:Nat}{l:List Int}{f:Int}(h:f.toNat≠i):Ji (S.set i l) f=Ji S f:=by
 unfold Ji;rw[xe,xe,ziY (Ne.symm h)]
mutual
theorem Lj{S:List (List Int)}{i:Nat}{l:List Int}:∀(t:Trm) (sc ow:List Int),vn (S.set i l) i t sc ow=vn S i t sc ow
 | .mk k v op n f as ks,sc,ow=>by
  simp only[vn];rw[JH ks]
  congr 1
  unfold lc;cases eqD k (.ofNat 2)with
  |false=>rfl
  |true=>
   simp only[cond_true];split
   ·rfl
   ·rename_i h;rw[zrG h]
theorem JH{S:List (List Int)}{i:Nat}{l:List Int}:∀(ks:List Trm) (sc ow:List Int),qU (S.set i l) i ks sc ow=qU S i ks sc ow
 |[],_,_=>by simp only[qU]
 |x::r,sc,ow=>by
  simp only[qU];rw[JH r,Lj x]
end
theorem zsr{M:Nat}(h48:O 48=some (YC M)){E:CapE}{L:List (Nat×Option AObj)}{sc ow:List Int}{y:Trm}(hM:CapM E L n sc ow)(hlt:∀j,E.W j∨j=E.fid→j<n)(hok:Qr E.ids.length y)(hsz:wJ y≤M)(hnd:ow.Nodup)(hN:E.ids.length<1000000000)(m:Nat)(b:Bool):
  Cv ((evW env O).call 48 [.agg (x3 y),.sl E.fid 0 E.ids.length E.c,.map E.sid,.map E.oid] (KL L n m b [] none)) fun v t=>∃L2 m2,v=.bool (decide ((vn E.S E.i y sc ow).length≠ow.length))∧t=KL L2 n m2 b [] none∧xN L2 E.oid=some (.umap (uS (vn E.S E.i y sc ow)))∧(∀j,j≠E.oid→xN L2 j=xN L j)∧∀j,¬E.W j→m2.testBit j=m.testBit j:=by
 have hlen:=hM.len;have hhi:=hM.hi;have how:(E.S.set E.i ow).getD E.i []=ow:=by
  rw[xe,List.getElem?_set_self oM];rfl
 have hp:CapPre M ⟨{E with S:=E.S.set E.i ow},y,sc⟩ [.agg (x3 y),.sl E.fid 0 E.ids.length E.c,.map E.sid,.map E.oid] (KL L n m b [] none):={
  args:=rfl
  len:=by show (E.S.set E.i ow).length=_;rw[ziU];exact hlen
  nd:=hM.nd
  hi:=hM.hi
  sd:=hM.sd
  row:=by rw[wh];exact hM.row
  maps:=fun j id hj=>by
   rw[wh];show xN L id=some (.umap (uS ((E.S.set E.i ow).getD j [])));by_cases hji:j=E.i
   ·subst hji;rw[how];have h1:=hM.oid;have hj':E.ids[E.i]? =some id:=hj;rw[h1]at hj';cases hj';exact hM.own
   ·rw[xe,ziY (Ne.symm hji),←xe];exact hM.oth j id hj hji
  sco:=by rw[wh];exact hM.sco
  lt:=hlt
  ok:=hok
  sz:=hsz
  ond:=by show ((E.S.set E.i ow).getD E.i []).Nodup;rw[how];exact hnd
  N:=hN}
 have hown:CapX.own ⟨{E with S:=E.S.set E.i ow},y,sc⟩=vn E.S E.i y sc ow:=by
  show vn (E.S.set E.i ow) E.i y sc ((E.S.set E.i ow).getD E.i [])=_;rw[how,Lj]
 have hcall:(evW env O).call 48 [.agg (x3 y),.sl E.fid 0 E.ids.length E.c,.map E.sid,.map E.oid] (KL L n m b [] none)=some (.bool (decide ((vn E.S E.i y sc ow).length≠ow.length)),KL (QA L (CapX.objs ⟨{E with S:=E.S.set E.i ow},y,sc⟩)) n (Py m (CapX.objs ⟨{E with S:=E.S.set E.i ow},y,sc⟩)) b [] none):=by
  rw[wN h48,zx8 hp,zwS,hown];rw[show CapE.ow {E with S:=E.S.set E.i ow}=ow from how]
 have hfst:=hp.fst;have hnodup:=hp.nodup;have hmem:∀p∈CapX.objs ⟨{E with S:=E.S.set E.i ow},y,sc⟩,E.W p.1:=fun p hpp=>by
  have:p.1∈E.sid::E.ids:=by
   have h1:p.1∈(CapX.objs ⟨{E with S:=E.S.set E.i ow},y,sc⟩).map (·.1):=List.mem_map.2 ⟨p,hpp,rfl⟩
   rw[hfst]at h1;exact h1
  rcases List.mem_cons.1 this with h|h
  ·exact .inr h
  ·exact .inl h
 refine⟨_,_,hcall,_,_,rfl,rfl,?_,fun j hj=>?_,fun j hj=>?_⟩
 ·obtain⟨p,hpp,hpe⟩:∃p∈CapX.objs ⟨{E with S:=E.S.set E.i ow},y,sc⟩,p.1=E.oid:=by
   have:E.oid∈(CapX.objs ⟨{E with S:=E.S.set E.i ow},y,sc⟩).map (·.1):=by rw[hfst];exact zi8 _ hM.oidW
   obtain⟨p,h1,h2⟩:=List.mem_map.1 this;exact⟨p,h1,h2⟩
  rcases hp.mem hpp with ⟨e,_⟩|⟨j,hj,he⟩
  ·exact absurd (e.symm.trans hpe) (fun e2=>hM.sd (e2▸hM.oidW))
  ·have hji:j=E.i:=by
    have h1:E.ids[j]? =some p.1:=hj;rw[hpe]at h1;exact(ziW (List.getElem?_eq_some_iff.1 h1).1 hM.nd).1 (h1.trans hM.oid.symm)
   rw[if_pos (show j=({E with S:=E.S.set E.i ow}:CapE).i from hji),hown]at he
   have:=(vP _ L E.oid hnodup).1 p.2 (by rw[←hpe];exact hpp)
   rw[this,he]
 ·by_cases hW:∃p∈CapX.objs ⟨{E with S:=E.S.set E.i ow},y,sc⟩,p.1=j
  ·obtain⟨p,hpp,rfl⟩:=hW;rw[(vP _ L p.1 hnodup).1 p.2 hpp];rcases hp.mem hpp with ⟨e,he⟩|⟨i,hi,he⟩
   ·rw[he,e];exact hM.sco.symm
   ·have hi':E.ids[i]? =some p.1:=hi;have hne:i≠E.i:=fun e=>by
     rw[e,hM.oid]at hi';exact hj (Option.some.inj hi').symm
    rw[if_neg (show ¬i=({E with S:=E.S.set E.i ow}:CapE).i from hne)]at he
    rw[he];show some (AObj.umap (uS ((E.S.set E.i ow).getD i [])))=_;rw[xe,ziY (Ne.symm hne),←xe];exact(hM.oth i p.1 hi' hne).symm
  ·exact(vP _ L j hnodup).2 fun p hpp e=>hW ⟨p,hpp,e⟩
 ·exact KI _ m j fun p hpp e=>hj (e▸hmem p hpp)
theorem CapS.grow{E:CapE}{L0:List (Nat×Option AObj)}{n0 a0:Nat}{sc0:List Int}{t:Trm}{hs ow ow2:List Int}{L:List (Nat×Option AObj)}{m hid:Nat}(h:CapS E L0 n0 a0 sc0 t hs ow L n m hid){L2:List (Nat×Option AObj)}{n2 m2:Nat}(hw:WfA L2 n2)(hn:n≤n2)(h1:xN L2 E.oid=some (.umap (uS ow2)))(hle:ow.length≤ow2.length)(hnd:ow2.Nodup)(h2:xN L2 (n0+1+1+1)=some (.row 4 [.bool (decide (ow2.length≠a0))] false false))(hf:∀j,j<n→j≠E.oid→j≠n0+1+1+1→xN L2 j=xN L j)(hm:∀j,j<n0→¬E.W j→m2.testBit j=m.testBit j):CapS E L0 n0 a0 sc0 t hs ow2 L2 n2 m2 hid:=by
 have n4:=h.n4;have ho:E.oid<n0:=h.lt _ (.inl (.inl h.M.oidW))
 exact{
  M:=h.M.turn hw h1 fun j hj hne hW=>hf j hj hne (by have:=h.lt j hW;omega)
  n4:=oM
  r0:=by rw[hf n0 oM oM oM];exact h.r0
  r1:=by rw[hf (n0+1) oM oM oM];exact h.r1
  r2:=by rw[hf (n0+1+1) oM oM oM];exact h.r2
  r3:=h2
  hr:=h.hr.ext (zu _) hn fun j h1 h2=>hf j h2 oM oM
  le:=zA h.le hle
  nd:=hnd
  ds:=h.ds
  lt:=h.lt
  fr:=fun j hj hW=>by
   rw[hf j oM (fun e=>hW (e▸.inl h.M.oidW)) oM,hm j hj hW];exact h.fr j hj hW}
theorem CapS.term{E:CapE}{L0:List (Nat×Option AObj)}{n0 a0:Nat}{sc0:List Int}{t t2:Trm}{hs ow:List Int}{L:List (Nat×Option AObj)}{m hid:Nat}(h:CapS E L0 n0 a0 sc0 t hs ow L n m hid){L2:List (Nat×Option AObj)}{n2 m2:Nat}(hw:WfA L2 n2)(hn:n≤n2)(h1:xN L2 n0=some (vl t2))(hf:∀j,j<n→j≠n0→xN L2 j=xN L j)(hm:∀j,j<n0→m2.testBit j=m.testBit j):CapS E L0 n0 a0 sc0 t2 hs ow L2 n2 m2 hid:=by
 have n4:=h.n4;have ho:E.oid<n0:=h.lt _ (.inl (.inl h.M.oidW))
 exact{
  M:=h.M.turn hw (by rw[hf E.oid oM oM];exact h.M.own) fun j hj hne hW=>hf j hj (by have:=h.lt j hW;omega)
  n4:=oM
  r0:=h1
  r1:=by rw[hf (n0+1) oM oM];exact h.r1
  r2:=by rw[hf (n0+1+1) oM oM];exact h.r2
  r3:=by rw[hf (n0+1+1+1) oM oM];exact h.r3
  hr:=h.hr.ext (zu _) hn fun j h1 h2=>hf j h2 oM
  le:=h.le
  nd:=h.nd
  ds:=h.ds
  lt:=h.lt
  fr:=fun j hj hW=>by
   rw[hf j oM oM,hm j hj];exact h.fr j hj hW}
theorem kG{sc:List Int}:∀{as:List Atm} {ow:List Int},ow.Nodup→(qD sc ow as).Nodup
 |[],_,h=>h
 |a::r,ow,h=>by
  simp only[qD];refine kG ?_;cases eqD a.k (.ofNat 1)with
  |true=>exact pw h
  |false=>exact h
theorem zoV{S:List (List Int)}{i:Nat}{k f:Int}{as:List Atm}{sc ow:List Int}:ow.length≤(lc S i k f as sc ow).length∧(ow.Nodup→(lc S i k f as sc ow).Nodup):=by
 unfold lc;cases eqD k (.ofNat 2)with
 |false=>exact⟨lY _ _ _,kG⟩
 |true=>
  simp only[cond_true];split
  ·exact⟨lY _ _ _,kG⟩
  ·exact⟨zA (lY _ _ _) (Lh _ _ _),fun h=>Yq (kG h)⟩
mutual
theorem GJ{S:List (List Int)}{i:Nat}:∀(t:Trm) (sc ow:List Int),ow.length≤(vn S i t sc ow).length∧(ow.Nodup→(vn S i t sc ow).Nodup)
 |.mk k v op n f as ks,sc,ow=>by
  simp only[vn];have h1:= @zoV S i k f as sc ow;have h2:=Lf (S:=S) (i:=i) ks (scB k v sc) (lc S i k f as sc ow);exact⟨zA h1.1 h2.1,fun h=>h2.2 (h1.2 h)⟩
theorem Lf{S:List (List Int)}{i:Nat}:∀(ks:List Trm) (sc ow:List Int),ow.length≤(qU S i ks sc ow).length∧(ow.Nodup→(qU S i ks sc ow).Nodup)
 |[],_,_=>by simp only[qU];exact⟨zu _,fun h=>h⟩
 |x::r,sc,ow=>by
  simp only[qU];have h1:=Lf (S:=S) (i:=i) r sc ow;have h2:=GJ (S:=S) (i:=i) x sc (qU S i r sc ow);exact⟨zA h1.1 h2.1,fun h=>h2.2 (h1.2 h)⟩
end
section
variable {O:Orc}{E:CapE}{L0:List (Nat×Option AObj)}{n0 a0:Nat}{sc0 hs ow:List Int}{t:Trm}
attribute [local go_sem] kh Yg lj li kO XD xZ x4 ziJ ziN ziM ziH wZ ltF gtF wP HK in
theorem zvq{M:Nat}(h48:O 48=some (YC M)){k v op num f:Int}{as:List Atm}{x y:Trm}{fr:Fr}(hok:Qr E.ids.length y)(hsz:wJ y≤M)(hN:E.ids.length<1000000000)(hI:lU E L0 n0 a0 sc0 (.mk k v op num f as [x,y]) hs ow fr s):Ev (evC env (evW env O) none Lb fr s) (wM (lU E L0 n0 a0 sc0 (.mk k v op num f as [x,y]) hs (vn E.S E.i y (sc0++hs) ow)) fun _ _ _=>False):=by
 obtain⟨T,L,n,m,hid,rfl,rfl,hT,hS⟩:=hI;have r0:=hS.r0;have r1:=hS.r1;have r2:=hS.r2;have r3:=hS.r3;have hc:wj 7 (wH 7 (x7 [x,y]))=some (x3 y):=by
  simp only[qi,jz,ziA];rw[wY,zi7 (wu x)];exact w6 (wu y)
 simp only[vl,xU,yb,xz]at r0;have t1:=hT.t1;have t4:=hT.t4;have t6:=hT.t6;have t7:=hT.t7;have t8:=hT.t8;have hwf:=hS.M.wf;have n4:=hS.n4;have ho:E.oid<n0:=hS.lt _ (.inl (.inl hS.M.oidW));have hle:=GJ (S:=E.S) (i:=E.i) y (sc0++hs) ow;unfold Lb La uN f48;simp only;refine xQ ?_;refine qW sW ?_;refine qt ?_;refine p9 (zsr h48 hS.M (fun j hj=>by have:=hS.lt j hj;omega) hok hsz hS.nd hN 0 false) fun v t hv=>?_
 obtain⟨L2,m2,rfl,rfl,q1,q2,q3⟩:=hv;have g8:xN L2 (n0+1+1+1)=some (.row 4 [.bool (decide (ow.length≠a0))] false false):=by rw[q2 _ oM];exact r3
 generalize hR:vn E.S E.i y (sc0++hs) ow=ow2 at *;have hla:=hS.le;have hw2:WfA L2 n:=fun j hj=>by rw[q2 j oM];exact hwf j hj
 generalize hfl:decide (ow2.length≠ow.length)=b1 at *;generalize hf0:decide (ow.length≠a0)=b0 at *;have hfin:∀{L3:List (Nat×Option AObj)} {m3:Nat},xN L3 (n0+1+1+1)=some (.row 4 [.bool (b1||b0)] false false)→(∀j,j≠n0+1+1+1→xN L3 j=xN L2 j)→(∀j,j<n0→¬E.W j→m3.testBit j=m.testBit j)→CapS E L0 n0 a0 sc0 (.mk k v op num f as [x,y]) hs ow2 L3 n m3 hid:=by
  intro L3 m3 z1 z2 z3;refine hS.grow (fun j hj=>by rw[z2 j oM];exact hw2 j hj) (zu _) (by rw[z2 _ oM];exact q1) hle.1 (hle.2 hS.nd) ?_ (fun j h1 h2 h3=>by rw[z2 j h3];exact q2 j h2) z3
  rw[z1,←hfl,←hf0];have h1:=hle.1
  congr 3
  by_cases h2:ow2.length=ow.length
  ·rw[h2];simp
  ·rw[decide_eq_true h2];exact congrArg _ (by rw[decide_eq_true (show ow2.length≠a0 by omega)];rfl)
 have hm2:∀j,¬E.W j→(m|||m2).testBit j=m.testBit j:=fun j hj=>by rw[yS,q3 j hj];simp
 clear hfl hf0 r3 hS hle q1 q2 q3;cases b1 with
 |true=>
  refine xO ?_;refine⟨_,_,_,_,hid,rfl,rfl,by (repeat refine CapT.cons ?_ oM);exact hT,hfin (by rw[xS];rfl) (fun j hj=>by rw[xL,if_neg hj]) fun j h1 h2=>?_⟩
  rw[ut oM,hm2 j h2]
 |false=>
  refine xO ?_;refine⟨_,_,_,_,hid,rfl,rfl,by (repeat refine CapT.cons ?_ oM);exact hT,hfin (by rw[xS];rfl) (fun j hj=>by rw[xL,if_neg hj]) fun j h1 h2=>?_⟩
  rw[ut oM,hm2 j h2]
attribute [local go_sem] xZ x4 ziJ ziN ziM ziH wZ ltF gtF wP HK in
theorem Lc{k v op num f:Int}{as:List Atm}{ks:List Trm}{fr:Fr}(hk:ks.length<2)(hI:lU E L0 n0 a0 sc0 (.mk k v op num f as ks) hs ow fr s):Ev (evC env (evW env O) none Lb fr s) (wM (lU E L0 n0 a0 sc0 (.mk k v op num f as ks) hs ow) fun _ _ _=>False):=by
 obtain⟨T,L,n,m,hid,rfl,rfl,hT,hS⟩:=hI;have r0:=hS.r0;simp only[vl,xU]at r0;have t4:=hT.t4;have hne:ks.length≠2:=oM;unfold Lb La uN f48;simp only;refine xQ ?_;refine xO ?_;exact⟨_,L,n,m,hid,rfl,rfl,by (repeat refine CapT.cons ?_ oM);exact hT,hS⟩
attribute [local go_sem] xZ x4 ziJ ziN ziM ziH wZ ltF gtF wP HK in
theorem zvr{k v op num f:Int}{as:List Atm}{fr:Fr}(hI:lU E L0 n0 a0 sc0 (.mk k v op num f as []) hs ow fr s):Ev (evC env (evW env O) none Ld fr s) fun r f2 t=>r=.exit 0∧lU E L0 n0 a0 sc0 (.mk k v op num f as []) hs ow f2 t:=by
 obtain⟨T,L,n,m,hid,rfl,rfl,hT,hS⟩:=hI;have r0:=hS.r0;simp only[vl,xU,xz]at r0;have t4:=hT.t4;unfold Ld La uN f48;simp only;refine xR (xQ ?_);refine xO ?_;exact⟨trivial,_,L,n,m,hid,rfl,rfl,by (repeat refine CapT.cons ?_ oM);exact hT,hS⟩
attribute [local go_sem] xZ x4 ziJ ziN ziM ziH wZ ltF gtF wP HK in
theorem Vh{k v op num f:Int}{as:List Atm}{x:Trm}{r:List Trm}{fr:Fr}(hr:r.length<1000000000)(hI:lU E L0 n0 a0 sc0 (.mk k v op num f as (x::r)) hs ow fr s):Ev (evC env (evW env O) none Ld fr s) (wM (lU E L0 n0 a0 sc0 x hs ow) fun _ _ _=>False):=by
 obtain⟨T,L,n,m,hid,rfl,rfl,hT,hS⟩:=hI;have r0:=hS.r0;simp only[vl,xU,yb]at r0;have t4:=hT.t4;have hc:wj 7 (x7 (x::r))=some (x3 x):=by
  rw[qi];exact vx (wu x)
 have hsc:=jy x;have hln:=wu x;unfold Ld La uN f48;simp only;obtain⟨k2,v2,op2,num2,f2,as2,ks2⟩:=x;simp only[xU]at hc hsc hln;refine xR (xQ ?_);refine xO ?_;refine xO ?_;have n4:=hS.n4;refine⟨_,_,n,_,hid,rfl,rfl,by (repeat refine CapT.cons ?_ oM);exact hT,hS.term (WfA.same hS.M.wf oM) (zu _) (by rw[xS,vl,xU]) (fun j h1 h2=>by (repeat rw[xL,if_neg h2])) fun j h1=>?_⟩
 rw[ut oM]
end
theorem jq{I K:Fr→St→Prop}{Q:Res→Fr→St→Prop}(h:∀f t,I f t→K f t):∀r f t,wM I (fun _ _ _=>False) r f t→wM K Q r f t:=fun r f t hb=>by
 cases r with
 |norm=>exact h f t hb
 |exit i=>cases hb
 |ret=>cases hb
theorem zz3:uN=.seq zl3 (.seq zoS (.seq zsj (.seq Lb Ld))):=rfl
theorem zoU{E:CapE}{k f:Int}{as:List Atm}{sc ow:List Int}:lc E.S E.i k f as sc ow=Vi E k f sc (qD sc ow as):=by
 unfold lc Vi;cases eqD k (.ofNat 2)<;>rfl
theorem ui:∀t:Trm,0<wJ t
 |.mk _ _ _ _ _ _ _=>by simp only[wJ];omega
section
variable {O:Orc}{E:CapE}{L0:List (Nat×Option AObj)}{n0 a0:Nat}{sc0:List Int}
theorem Li{M:Nat}(h72:O 72=none)(h71:O 71=some pi)(h48:O 48=some (YC M)){C:Cx}(hC:CO C O)(hN:E.ids.length<1000000000){t:Trm}{ow:List Int}(hok:Qr E.ids.length t)(hsz:wJ t≤M+1)(hM:M<900000000){fr:Fr}{s:St}(hI:lU E L0 n0 a0 sc0 t [] ow fr s):
  Tri C (.block 0 (.loop (.block 1 uN))) fr s (wM (fun f s=>∃t2 hs,lU E L0 n0 a0 sc0 t2 hs (vn E.S E.i t sc0 ow) f s∧hs.length<1000000000) fun _ _ _=>False):=by
 refine vy (Wy (fun x:Trm×List Int×List Int=>wJ x.1) (fun x f s=>lU E L0 n0 a0 sc0 x.1 x.2.1 x.2.2 f s∧vn E.S E.i x.1 (sc0++x.2.1) x.2.2=vn E.S E.i t sc0 ow∧Qr E.ids.length x.1∧wJ x.1≤M+1∧x.2.1.length+wJ x.1≤M+1) (fun x f s hx=>?_) (t,[],ow) ⟨hI,by rw[ziA],hok,hsz,by simpa using hsz⟩)
 obtain⟨⟨k,v,op,num,fn,as,ks⟩,hs,ow1⟩:=x;obtain⟨hI,hR,hok,hsz,hlen⟩:=hx;simp only[Qr]at hI hR hok hsz hlen;obtain⟨ha,hk,hf,hks⟩:=hok;simp only[vn]at hR;rw[zoU]at hR;rw[zz3];refine vy (qq ((hC.ev (zoR (t:=.mk k v op num fn as ks) h72 ha hI)).mono (jq fun f s hI=>?_)));refine qq ((zsi (t:=.mk k v op num fn as ks) h72 hC hf hN hI).mono (jq fun f s hI=>?_));simp only[wJ]at hsz hlen;refine qq ((hC.ev (zsk (t:=.mk k v op num fn as ks) h71 oM hI)).mono (jq fun f s hI=>?_));simp only[Trm.kind,Trm.var,Trm.atoms,Trm.fn]at hI;rw[←zkB]at hR;have hh:=zn4 k v sc0 hs;generalize hsB k v sc0 hs=hs2 at *;generalize Vi E k fn (sc0++hs) (qD (sc0++hs) ow1 as)=ow2 at *
 match ks,hk,hks,hsz,hlen,hR,hI with
 |[],_,_,hsz,hlen,hR,hI=>
  refine qq ((hC.ev (Lc (by simp) hI)).mono (jq fun f s hI=>?_))
  refine(hC.ev (zvr hI)).mono fun r f2 t2=>?_
  rintro⟨rfl,hI⟩
  simp only[qU]at hR;rw[hR]at hI;exact⟨_,hs2,hI,by simp only[qo]at hlen;omega⟩
 | [x],_,hks,hsz,hlen,hR,hI=>
  refine qq ((hC.ev (Lc (by simp) hI)).mono (jq fun f s hI=>?_))
  refine(hC.ev (Vh (by simp) hI)).mono fun r f2 t2 hb=>?_
  cases r with
  |exit i=>cases hb
  |ret=>cases hb
  |norm=>
   simp only[qU]at hR;simp only[qo]at hsz hlen;exact⟨(x,hs2,ow2),⟨hb,hR,hks.1,by simp only;omega,by simp only;omega⟩,by simp only[wJ,qo];omega⟩
 | [x,y],_,hks,hsz,hlen,hR,hI=>
  simp only[qo]at hsz hlen;have hpx:=ui x;have hpy:=ui y;refine qq ((hC.ev (zvq h48 hks.2.1 oM hN hI)).mono (jq fun f s hI=>?_));refine(hC.ev (Vh (by simp) hI)).mono fun r f2 t2 hb=>?_
  cases r with
  |exit i=>cases hb
  |ret=>cases hb
  |norm=>
   simp only[qU]at hR;exact⟨(x,hs2,_),⟨hb,hR,hks.1,by simp only;omega,by simp only;omega⟩,by simp only[wJ,qo];omega⟩
 |_::_::_::_,hk,_,_,_,_,_=>simp at hk
end
theorem LG{v:Int}{r:List Int}:∀{sc:List Int},v∉sc→Xj v (uS (sc++v::r))=uS (sc++r)
 |[],_=>by simp[uS,Xj,kL]
 |x::sc,h=>by
  simp only[ziL,not_or]at h;simp only[uS,zM,zD,Xj,kL];rw[decide_eq_false (Ne.symm h.1),cond_false];have:=LG (r:=r) (sc:=sc) h.2;simp only[uS]at this;rw[this]
theorem l7{l:List Int}{i:Nat}{o:Int}{r:List Int}(hd:l.drop i=o::r):wj 1 (wH i (xP wy l))=some [.int .i64 o]:=by
 have:=zjz hd;rwa [xC]at this
def GK:ICode:=match f48.body with
 |.seq _ (.seq _ (.seq _ (.seq _ d)))=>d
 |_=>.skip
section
variable {O:Orc}{E:CapE}{L0:List (Nat×Option AObj)}{n0 a0:Nat}{sc0:List Int}
attribute [local go_sem] zmp zjM xZ x4 ziJ ziN ziM ziH wZ ltF gtF wP in
theorem zz4{t2:Trm}{hs ow:List Int}{fr:Fr}(hl:hs.length<1000000000)(hI:lU E L0 n0 a0 sc0 t2 hs ow fr s):Ev (evC env (evW env O) none GK fr s) fun r f t=>r=.ret∧∃T L n m,f=⟨tmL T,[]⟩∧t=KL L n m false [] none∧(tmL T).get 8=some (.ptr (n0+1+1+1) 0)∧xN L (n0+1+1+1)=some (.row 4 [.bool (decide (ow.length≠a0))] false false)∧CapM E L n sc0 ow∧∀j,j<n0→¬E.W j→m.testBit j=false:=by
 obtain⟨T,L,n,m,hid,rfl,rfl,hT,hS⟩:=hI;have t10:=hT.t10;have t6:=hT.t6;have t8:=hT.t8;have hwf:=hS.M.wf;have n4:=hS.n4;have l1:E.sid<n0:=hS.lt E.sid (.inl (.inr rfl));unfold GK f48;simp only;refine xR (xQ ?_);refine xT ?_;refine wx (fun i:Nat=>hs.length-i) (fun i f t=>∃T L2 m2,f=⟨tmL T,[]⟩∧t=KL L2 n m2 false [] none∧(tmL T).get 6=some (.ptr (n0+1) 0)∧(tmL T).get 8=some (.ptr (n0+1+1+1) 0)∧(tmL T).get 95=some (gSl 1 hid hs.length)∧(tmL T).get 96=some (.int .i64 (.ofNat hs.length))∧(tmL T).get 97=some (.int .i64 (.ofNat i))∧i≤hs.length∧xN L2 E.sid=some (.umap (uS (sc0++hs.drop i)))∧(∀j,j≠E.sid→xN L2 j=xN L j)∧∀j,j≠E.sid→m2.testBit j=m.testBit j) (fun i f t hI=>?_) 0 ⟨_,L,m,rfl,rfl,sV,sV,sV,sV,sV,zQ _,hS.M.sco,fun _ _=>rfl,fun _ _=>rfl⟩;obtain⟨T,L2,m2,rfl,rfl,t6,t8,q95,q96,q97,hi,gs,hf,hm⟩:=hI;have g1:=hS.r1;rw[←hf (n0+1) oM]at g1;have g3:=hS.r3;rw[←hf (n0+1+1+1) oM]at g3;rcases wi hs i with ⟨hi2,hd⟩|⟨v,hi2,hd⟩
 ·have hlt:¬i<hs.length:=oM;rw[hd,ziA]at gs
  have hMM:CapM E L2 n sc0 ow:={
   wf:=fun j hj=>by rw[hf j oM];exact hwf j hj
   len:=hS.M.len
   nd:=hS.M.nd
   hi:=hS.M.hi
   row:=by rw[hf E.fid (fun e=>by have h1:=hS.M.row;rw[e,hS.M.sco]at h1;cases h1)];exact hS.M.row
   oth:=fun j id hj hji=>by rw[hf id (fun e=>hS.M.sd (e▸xq hj))];exact hS.M.oth j id hj hji
   own:=by rw[hf E.oid (fun e=>hS.M.sd (e▸hS.M.oidW))];exact hS.M.own
   sco:=gs
   sd:=hS.M.sd}
  have hfr:∀j,j<n0→¬E.W j→m2.testBit j=false:=fun j hj hW=>by
   rw[hm j (fun e=>hW (.inr e))];exact(hS.fr j hj hW).2
  have hlt3:∀j,E.W j∨j=E.fid→j<n0:=hS.lt;clear hS hf hm t10;refine xO ?_;refine xQ ?_;refine wB (r:=.ret) ?_;refine⟨rfl,_,_,n,_,rfl,rfl,sV,xS _ _ _,?_,fun j h1 h2=>?_⟩
  ·refine hMM.turn (WfA.same hMM.wf oM) (by rw[xL,if_neg (by have:=hlt3 E.oid (.inl (.inl hMM.oidW));omega)];exact hMM.own) fun j h1 h2 h3=>?_
   rw[xL,if_neg (by have:=hlt3 j h3;omega)]
  ·rw[ut oM];exact hfr j h1 h2
 ·have hc:=l7 hd;obtain⟨q1,q2,q3⟩:=hS.hr (fun e=>by rw[e]at hi2;simp at hi2)
  rw[←hf hid oM]at q3;have hia:= @YD 1 hid hs.length i hi2;have hdel:=LG (r:=hs.drop (i+1)) (hS.ds v (ziT (by rw[hd];simp)))
  rw[hd]at gs;have hf2:=hf;have hm2:=hm;clear hf hm hS t10;refine xO ?_;refine⟨i+1,⟨_,_,_,rfl,rfl,sV,sV,sV,sV,sV,oM,xS _ _ _,fun j hj=>?_,fun j hj=>?_⟩,oM⟩
  ·rw[xL,if_neg hj];exact hf2 j hj
  ·rw[ut hj];exact hm2 j hj
end
theorem zlv{L:List (Nat×Option AObj)}{m:Nat}(h:WfA L n):Wf (KL L n m false [] none):=by
 refine⟨fun id o ho=>?_,fun p hp=>by cases hp⟩
 apply Nat.lt_of_not_le;intro hle;have h1:(KL L n m false [] none).get id=some o:=by
  rw[uZ,show seen (KL L n m false [] none) id=true from rfl];exact ho
 rw[wh,h id hle]at h1;cases h1
theorem Jj{W:List (Nat×AObj)}{L:List (Nat×Option AObj)}{j:Nat}(hn:(W.map (·.1)).Nodup)(h:xN (QA L W) j=some o):(j,o)∈W∨((∀p∈W,p.1≠j)∧xN L j=some o):=by
 by_cases hW:∃p∈W,p.1=j
 ·obtain⟨p,hp,rfl⟩:=hW;rw[(vP W L p.1 hn).1 p.2 hp]at h;cases h;exact .inl hp
 ·have hne:∀p∈W,p.1≠j:=fun p hp e=>hW ⟨p,hp,e⟩;rw[(vP W L j hn).2 hne]at h;exact .inr ⟨hne,h⟩
def CapX.was(x:CapX):List (Nat×AObj):=(x.E.fid,.row 74 (x.E.ids.map .map) x.E.xx x.E.ff)::(x.E.sid,.umap (uS x.sc))::YY x.E.ids x.E.S
section
variable {M:Nat}{x:CapX}{args:List AV}{s:St}
theorem CapPre.fidW(h:CapPre M x args s):¬x.E.W x.E.fid:=by
 rintro(h1|h1)
 ·obtain⟨j,hj⟩:=ziS h1;have:=h.maps j _ hj;rw[h.row]at this;cases this
 ·have:=h.row;rw[h1,h.sco]at this;cases this
theorem CapPre.wasN(h:CapPre M x args s):(x.was.map (·.1)).Nodup:=by
 have hf:=h.fidW;simp only[CapX.was,zD,U2 h.len,ziR,ziL,not_or];exact⟨⟨fun e=>hf (.inr e),fun e=>hf (.inl e)⟩,h.sd,h.nd⟩
theorem CapPre.was_get(h:CapPre M x args s){p:Nat×AObj}(hp:p∈x.was):s.get p.1=some p.2∧(x.E.W p.1∨p.1=x.E.fid):=by
 simp only[CapX.was,ziL]at hp;rcases hp with rfl|rfl|hp
 ·exact⟨h.row,.inr rfl⟩
 ·exact⟨h.sco,.inl (.inr rfl)⟩
 ·obtain⟨j,h1,_,h3⟩:=U3 hp;rw[h3];exact⟨h.maps j _ h1,.inl (.inl (xq h1))⟩
theorem CapPre.wasW(h:CapPre M x args s):WfA (QA [] x.was) s.next:=fun j hj=>by
 rw[(vP x.was [] j h.wasN).2 fun p hp e=>by
  have:=h.lt p.1 (h.was_get hp).2;omega]
 rfl
theorem CapPre.M0(h:CapPre M x args s):CapM x.E (QA [] x.was) s.next x.sc x.E.ow where
 wf:=h.wasW
 len:=h.len
 nd:=h.nd
 hi:=h.hi
 row:=(vP x.was [] x.E.fid h.wasN).1 _ (by simp[CapX.was])
 oth :=fun j id hj _=>(vP x.was [] id h.wasN).1 _ (by
  simp only[CapX.was,ziL];refine .inr (.inr ?_);have key:∀{ids:List Nat} {S:List (List Int)} {j id:Nat},S.length=ids.length→ids[j]? =some id→(id,AObj.umap (uS (S.getD j [])))∈YY ids S:=by
   intro ids
   induction ids with
   |nil=>intro S j id _ hj;simp at hj
   | cons a ids ih=>
    intro S j id hl hj;cases S with
    |nil=>simp at hl
    | cons l S=>
     cases j with
     |zero=>simp at hj;subst hj;simp[YY]
     |succ j=>
      simp only[YY,ziL];refine .inr ?_;have:=ih (S:=S) (j:=j) (id:=id) (by simpa using hl) (by simpa using hj)
      simpa using this
  exact key h.len hj)
 own :=(vP x.was [] x.E.oid h.wasN).1 _ (by
  simp only[CapX.was,ziL];refine .inr (.inr ?_);have hj:=Hq h.hi;have key:∀{ids:List Nat} {S:List (List Int)} {j id:Nat},S.length=ids.length→ids[j]? =some id→(id,AObj.umap (uS (S.getD j [])))∈YY ids S:=by
   intro ids
   induction ids with
   |nil=>intro S j id _ hj;simp at hj
   | cons a ids ih=>
    intro S j id hl hj;cases S with
    |nil=>simp at hl
    | cons l S=>
     cases j with
     |zero=>simp at hj;subst hj;simp[YY]
     |succ j=>
      simp only[YY,ziL];refine .inr ?_;have:=ih (S:=S) (j:=j) (id:=id) (by simpa using hl) (by simpa using hj)
      simpa using this
  exact key h.len hj)
 sco:=(vP x.was [] x.E.sid h.wasN).1 _ (by simp[CapX.was])
 sd:=h.sd
end
def zxM:ICode→ICode:=fun k=>match f48.body with
 |.seq a (.seq b (.seq c _))=>.seq a (.seq b (.seq c k))
 |_=>.skip
theorem Lm:f48.body=zxM (.seq (.block 0 (.loop (.block 1 uN))) GK):=rfl
section
variable {P:Program}{w0:World}(B:Bx P w0){O:Orc}(hO:OrcOk P w0 O)
include B hO
theorem Ln{M:Nat}(h72:O 72=none)(h71:O 71=some pi)(h48:O 48=some (YC M))(hM:M<900000000){x:CapX}{args:List AV}(h:CapPre (M+1) x args s):SC P w0 48 args s (.bool (decide (x.own.length≠x.E.ow.length))) (QB s x.objs):=by
 have hm0:=h.M0;refine zmN (F:=f48) (s0:=KL (QA [] x.was) s.next 0 false [] none) hO B.mixed B.glob B.env rfl (by rw[h.args];exact ziw rfl) rfl rfl rfl (zlv h.wasW) rfl (fun id o ho=>?_) rfl h.nodup (fun p hp=>h.get hp) (fun p hp=>?_) fun C ok hP hE hO' hr hs=>?_
 ·rw[wh]at ho;rcases Jj h.wasN ho with h1|⟨_,h1⟩
  ·exact(h.was_get h1).1
  ·cases h1
 ·rcases h.mem hp with ⟨e,he⟩|⟨j,hj,he⟩
  ·rw[he,e];exact⟨h.lt _ (.inl (.inr rfl)),LC (HJ _)⟩
  ·rw[he];exact⟨h.lt _ (.inl (.inl (xq hj))),LC (HJ _)⟩
 have hC:CO C O:=⟨ok,hE,hO',hr⟩;rw[h.args,Lm];have hlt:=h.lt;have hond:=h.ond;have hok:=h.ok;have hsz:=h.sz;have hN:=h.N;have hmem:=fun p hp=> @CapPre.mem _ _ _ _ h p hp;have hfst:=h.fst;simp only[CapX.own]at hmem⊢;show Tri C _ _ (KL (QA [] x.was) s.next 0 false [] none) _
 generalize s.next=n at *
 generalize QA [] x.was=L0 at *;obtain⟨E,t,sc⟩:=x;simp only at hm0 hlt hond hok hsz hN hmem hfst⊢;obtain⟨R,hR⟩:∃R,vn E.S E.i t sc E.ow=R:=⟨_,rfl⟩;simp only[hR]at hmem⊢;clear h hs;generalize CapX.objs ⟨E,t,sc⟩=W at *;unfold zxM f48;simp only;have hcm:=wu t;refine qq (hC.ev (xO ?_));refine qq (hC.ev (xO ?_));refine qq (hC.ev (xO ?_));refine qq ((Li (L0:=L0) (n0:=n) (a0:=E.ow.length) (sc0:=sc) (E:=E) (t:=t) (ow:=E.ow) h72 h71 h48 hC hN hok hsz hM ⟨_,_,_,_,0,rfl,rfl,?_,?_⟩).mono (jq fun f s hI=>?_))
 ·exact⟨sW,sW,sW,sW,sW,by simp (disch:=first|exact dis|fail)only[go_sem,seval,-rO,-rN,HK],by simp (disch:=first|exact dis|fail)only[go_sem,seval,-rO,-rN,gSl]⟩
 ·exact{
   M :=by
    rw[ziA];refine hm0.turn ?_ ?_ fun j h1 h2 h3=>?_
    ·(repeat first|exact hm0.wf.up oM|refine WfA.same ?_ oM)
    ·have:=hlt E.oid (.inl (.inl hm0.oidW))
     (repeat (rw[xL,if_neg oM]));exact hm0.own
    ·(repeat (rw[xL,if_neg oM]))
   n4:=zu _
   r0:=by
    (repeat (rw[xL,if_neg oM]));rw[xS];rfl
   r1:=by
    (repeat (rw[xL,if_neg oM]));rw[xS]
   r2:=by
    (repeat (rw[xL,if_neg oM]));rw[xS]
   r3:=by
    rw[xS];simp
   hr:=fun hne=>absurd rfl hne
   le:=zu _
   nd:=hond
   ds:=fun v hv=>by cases hv
   lt:=hlt
   fr:=fun j hj hW=>⟨by (repeat (rw[xL,if_neg oM])),by simp⟩}
 ·obtain⟨t2,hs,hI,hl⟩:=hI;rw[hR]at hI;refine(hC.ev (zz4 hl hI)).mono fun r f t3 hz=>?_;obtain⟨rfl,T,L,n2,m,rfl,rfl,t8,g8,hM2,hm2⟩:=hz;refine⟨.bool (decide (R.length≠E.ow.length)),KL L n2 m false [] none,sV,rfl,fun p hp=>?_,fun id hid hW=>?_⟩
  ·rw[wh];rcases hmem p hp with ⟨e,he⟩|⟨j,hj,he⟩
   ·rw[e,he];exact hM2.sco
   ·rw[he];by_cases hji:j=E.i
    ·rw[if_pos hji];subst hji;rw[hM2.oid]at hj;rw[←Option.some.inj hj];exact hM2.own
    ·rw[if_neg hji];exact hM2.oth j p.1 hj hji
  ·refine hm2 id hid fun hWW=>?_;have:id∈W.map (·.1):=by
    rw[hfst];rcases hWW with h1|h1
    ·exact zi8 _ h1
    ·rw[h1];exact zi0
   obtain⟨p,hp,he⟩:=List.mem_map.1 this;exact hW p hp he
end
theorem zmn(B:Bx P w0):∀(M:Nat),M≤900000000→OrcOk P w0 (withG 48 (YC M) (withG 71 pi noO)):=by
 have h0:OrcOk P w0 (withG 71 pi noO):=(pj P w0).withG lJ (HY B (pj P w0));intro M
 induction M with
 |zero=>
  refine fun _=>h0.withG Pi fun args s v s' h=>?_;obtain⟨x,hx,_⟩:=V4 h;have:=hx.sz;have:=ui x.t;omega
 |succ M ih=>
  intro hM;refine h0.withG Pi fun args s v s' h=>?_;obtain⟨x,hx,rfl,rfl⟩:=V4 h;exact Ln B (ih oM) rfl rfl rfl oM hx
def pH(l:List Int):List Int→List Int
 |[]=>l
 |x::r=>pH (Zk l x) r
def uU:List Fn→Nat→List (List Int)→List (List Int)
 |[],_,S=>S
 |f::r,i,S=>uU r (i+1) (S.set i (vn S i f.b (pH [] f.ps) (S.getD i [])))
def jH(c:Cd)(S:List (List Int)):List (List Int):=uU c.fs 0 S
def itS(c:Cd):Nat→List (List Int)
 |0=>List.replicate c.fs.length []
 |k+1=>jH c (itS c k)
mutual
def q9:Trm→List Int
 |.mk _ _ _ _ _ as ks=>as.map (·.n)++jw ks
def jw:List Trm→List Int
 |[]=>[]
 |t::r=>q9 t++jw r
end
def jl(c:Cd):List Int:=(c.fs.map fun f=>q9 f.b).flatten
def Yp(c:Cd):Nat:=c.fs.length*(jl c).length
def wz(c:Cd):List (List Int):=itS c (Yp c)
theorem XT(sc ow:List Int)(x:Int):∃z,jd sc ow x=ow++z:=by
 unfold jd Zk;split
 ·exact⟨[],by simp⟩
 ·split
  ·exact⟨[],by simp⟩
  ·exact⟨[x],rfl⟩
theorem lK{a b c:List Int}(h:∃z,b=a++z)(g:∃z,c=b++z):∃z,c=a++z:=by
 obtain⟨z,rfl⟩:=h;obtain⟨y,rfl⟩:=g;exact⟨z++y,by simp⟩
theorem jT(sc:List Int):∀(as:List Atm) (ow:List Int),∃z,qD sc ow as=ow++z
 |[],ow=>⟨[],by simp[qD]⟩
 |a::r,ow=>by
  simp only[qD];refine lK ?_ (jT sc r _);cases eqD a.k (.ofNat 1)with
  |true=>exact XT _ _ _
  |false=>exact⟨[],by simp⟩
theorem Y9(sc:List Int):∀(l:List Int) (ow:List Int),∃z,pF sc ow l=ow++z
 |[],ow=>⟨[],by simp[pF]⟩
 |x::r,ow=>lK (XT _ _ _) (Y9 sc r _)
theorem Le{S:List (List Int)}{i:Nat}{k f:Int}{as:List Atm}{sc ow:List Int}:∃z,lc S i k f as sc ow=ow++z:=by
 unfold lc;cases eqD k (.ofNat 2)with
 |false=>exact jT _ _ _
 |true=>
  simp only[cond_true];split
  ·exact jT _ _ _
  ·exact lK (jT _ _ _) (Y9 _ _ _)
mutual
theorem Xa{S:List (List Int)}{i:Nat}:∀(t:Trm) (sc ow:List Int),∃z,vn S i t sc ow=ow++z
 |.mk k v op n f as ks,sc,ow=>by
  simp only[vn];exact lK (Le (S:=S) (i:=i)) (ZK (S:=S) (i:=i) ks _ _)
theorem ZK{S:List (List Int)}{i:Nat}:∀(ks:List Trm) (sc ow:List Int),∃z,qU S i ks sc ow=ow++z
 |[],_,_=>⟨[],by simp[qU]⟩
 |x::r,sc,ow=>by
  simp only[qU];exact lK (ZK (S:=S) (i:=i) r sc ow) (Xa (S:=S) (i:=i) x sc _)
end
theorem Uk{sc:List Int}{x:Int}:∀{as:List Atm} {ow:List Int},x∈qD sc ow as→x∈ow∨x∈as.map (·.n)
 |[],ow,h=>.inl h
 | a::r,ow,h=>by
  simp only[qD]at h;rcases Uk h with h|h
  ·cases hk:eqD a.k (.ofNat 1)with
   |true=>
    rw[hk,cond_true,Zq]at h;rcases h with h|⟨h,_⟩
    ·exact .inl h
    ·exact .inr (by simp[h])
   |false=>rw[hk]at h;exact .inl h
  ·exact .inr (by simp[h])
section
variable {S:List (List Int)}{i:Nat}{U:List Int}
theorem zso(hS:∀j,∀x∈S.getD j [],x∈U){k f:Int}{as:List Atm}{sc ow:List Int}(ha:∀x∈as.map (·.n),x∈U)(ho:∀x∈ow,x∈U):∀x∈lc S i k f as sc ow,x∈U:=by
 have h1:∀x∈qD sc ow as,x∈U:=fun x hx=>by
  rcases Uk hx with h|h
  ·exact ho x h
  ·exact ha x h
 unfold lc;cases eqD k (.ofNat 2)with
 |false=>exact h1
 | true=>
  simp only[cond_true];split
  ·exact h1
  ·intro x hx;rcases Ul.1 hx with h|⟨h,_⟩
   ·exact h1 x h
   ·exact hS _ x h
mutual
theorem Lk(hS:∀j,∀x∈S.getD j [],x∈U):∀(t:Trm) (sc ow:List Int),(∀x∈q9 t,x∈U)→(∀x∈ow,x∈U)→∀x∈vn S i t sc ow,x∈U
 |.mk k v op n f as ks,sc,ow,hu,ho=>by
  simp only[q9,ziZ]at hu;simp only[vn];exact JI hS ks _ _ (fun x hx=>hu x (.inr hx)) (zso hS (fun x hx=>hu x (.inl hx)) ho)
theorem JI(hS:∀j,∀x∈S.getD j [],x∈U):∀(ks:List Trm) (sc ow:List Int),(∀x∈jw ks,x∈U)→(∀x∈ow,x∈U)→∀x∈qU S i ks sc ow,x∈U
 |[],_,_,_,ho=>by simp only[qU];exact ho
 |t::r,sc,ow,hu,ho=>by
  simp only[jw,ziZ]at hu;simp only[qU];exact Lk hS t sc _ (fun x hx=>hu x (.inl hx)) (JI hS r sc ow (fun x hx=>hu x (.inr hx)) ho)
end
end
structure SOk(U:List Int)(N:Nat)(S:List (List Int)):Prop where
 len:S.length=N
 nd:∀j,(S.getD j []).Nodup
 sub:∀j,∀x∈S.getD j [],x∈U
theorem lD{S:List (List Int)}{i j:Nat}{l:List Int}(hi:i<S.length):(S.set i l).getD j []=if j=i then l else S.getD j []:=by
 rw[xe,zi2];by_cases h:i=j
 ·subst h;simp[hi]
 ·rw[if_neg h,if_neg (Ne.symm h),←xe]
theorem SOk.set{U:List Int}{N:Nat}{S:List (List Int)}(h:SOk U N S){i:Nat}(hi:i<N){f:Fn}(hf:∀x∈q9 f.b,x∈U):SOk U N (S.set i (vn S i f.b (pH [] f.ps) (S.getD i []))) where
 len:=by rw[ziU];exact h.len
 nd:=fun j=>by
  rw[lD (by rw[h.len];exact hi)]
  split
  ·exact(GJ _ _ _).2 (h.nd i)
  ·exact h.nd j
 sub:=fun j=>by
  rw[lD (by rw[h.len];exact hi)]
  split
  ·exact Lk h.sub _ _ _ hf (h.sub i)
  ·exact h.sub j
theorem zzb{U:List Int}{N:Nat}:∀(fs:List Fn) (i:Nat) (S:List (List Int)),SOk U N S→i+fs.length≤N→(∀f∈fs,∀x∈q9 f.b,x∈U)→SOk U N (uU fs i S)
 |[],_,_,h,_,_=>h
 |f::r,i,S,h,hi,hf=>by
  simp only[uU];simp only[yb]at hi;exact zzb r (i+1) _ (h.set oM (hf f (by simp))) oM fun g hg=>hf g (by simp[hg])
def lu(S:List (List Int)):Nat:=(S.map xj).sum
theorem zzo{S:List (List Int)}{i:Nat}{l:List Int}(hi:i<S.length):lu (S.set i l)+(S.getD i []).length=lu S+l.length:=by
 induction S generalizing i with
 |nil=>simp at hi
 | cons a S ih=>
  cases i with
  |zero=>simp[lu];omega
  |succ i=>
   have:=ih (i:=i) (by simpa using hi)
   simp only[lu,List.set_cons_succ,zD,List.sum_cons,List.getD_cons_succ]at this⊢;omega
theorem XO{S:List (List Int)}{i:Nat}:S.set i (S.getD i [])=S:=by
 refine List.ext_getElem? fun j=>?_;rw[zi2];by_cases h:i=j
 ·subst h;by_cases hi:i<S.length
  ·rw[if_pos rfl,if_pos hi,xe,yH hi];rfl
  ·rw[if_pos rfl,if_neg hi,ym oM]
 ·rw[if_neg h]
theorem Ww{U:List Int}{N:Nat}:∀(fs:List Fn) (i:Nat) (S:List (List Int)),SOk U N S→i+fs.length≤N→(∀f∈fs,∀x∈q9 f.b,x∈U)→uU fs i S=S∨lu S<lu (uU fs i S)
 |[],_,_,_,_,_=>.inl rfl
 | f::r,i,S,h,hi,hf=>by
  simp only[uU];simp only[yb]at hi;have hok:=h.set (i:=i) oM (hf f (by simp))
  obtain⟨z,hz⟩:=Xa (S:=S) (i:=i) f.b (pH [] f.ps) (S.getD i []);have ht:=zzo (l:=vn S i f.b (pH [] f.ps) (S.getD i [])) (show i<S.length by rw[h.len];omega)
  have ih:=Ww r (i+1) _ hok oM fun g hg=>hf g (by simp[hg])
  cases z with
  |nil=>
   rw[ziA]at hz;rw[hz,XO]at ih⊢;exact ih
  |cons a z=>
   right
   have hl:(vn S i f.b (pH [] f.ps) (S.getD i [])).length=(S.getD i []).length+(z.length+1):=by rw[hz];simp
   generalize S.set i (vn S i f.b (pH [] f.ps) (S.getD i []))=S2 at *;rcases ih with ih|ih
   ·rw[ih];omega
   ·omega
theorem Zr:∀{l U:List Int},l.Nodup→(∀x∈l,x∈U)→l.length≤U.length
 |[],_,_,_=>zQ _
 | x::l,U,hn,hs=>by
  rw[ziR]at hn;obtain⟨a,b,rfl⟩:=List.append_of_mem (hs x (by simp))
  have:=Zr (l:=l) (U:=a++b) hn.2 fun y hy=>by
   have h1:=hs y (by simp[hy])
   simp only[ziZ,ziL]at h1⊢;rcases h1 with h1|h1|h1
   ·exact .inl h1
   ·subst h1;exact absurd hy hn.1
   ·exact .inr h1
  simp only[yA,yb]at this⊢;omega
theorem zw6{U:List Int}:∀{S:List (List Int)},(∀l∈S,l.Nodup∧∀x∈l,x∈U)→lu S≤S.length*U.length
 |[],_=>by simp[lu]
 |a::S,h=>by
  have h1:=h a (by simp)
  have h2:=Zr h1.1 h1.2;have h3:=zw6 (S:=S) fun l hl=>h l (by simp[hl])
  simp only[lu,zD,List.sum_cons,yb]at h3⊢;rw[Nat.succ_mul];omega
theorem SOk.tot{U:List Int}{N:Nat}{S:List (List Int)}(h:SOk U N S):lu S≤N*U.length:=by
 rw[←h.len];refine zw6 fun l hl=>?_;obtain⟨j,hj⟩:=ziS hl;have:S.getD j []=l:=by rw[xe,hj];rfl
 rw[←this];exact⟨h.nd j,h.sub j⟩
theorem XU(c:Cd):∀f∈c.fs,∀x∈q9 f.b,x∈jl c:=fun f hf x hx=>by
 unfold jl;rw[List.mem_flatten];exact⟨_,List.mem_map.2 ⟨f,hf,rfl⟩,hx⟩
theorem gA(c:Cd):∀k,SOk (jl c) c.fs.length (itS c k)
 | 0=>by
  have e:∀j,(List.replicate c.fs.length ([]:List Int)).getD j []=[]:=fun j=>by
   rw[xe,zi6];split<;>rfl
  exact⟨by simp[itS],fun j=>by simp only[itS];rw[e];exact List.nodup_nil,fun j x hx=>by simp only[itS]at hx;rw[e]at hx;cases hx⟩
 |k+1=>zzb _ _ _ (gA c k) (by simp) (XU c)
theorem Uf(c:Cd):∀k,jH c (itS c k)=itS c k∨k<lu (itS c (k+1))
 |0=>by
  rcases Ww c.fs 0 _ (gA c 0) (by simp) (XU c)with h|h
  ·exact .inl h
  ·exact .inr (Nat.lt_of_le_of_lt (zQ _) h)
 | k+1=>by
  rcases Uf c k with h|h
  ·left
   show jH c (jH c (itS c k))=jH c (itS c k);rw[h,h]
  ·rcases Ww c.fs 0 _ (gA c (k+1)) (by simp) (XU c)with h2|h2
   ·exact .inl h2
   ·right
    have:lu (itS c (k+1))<lu (itS c (k+1+1)):=h2;omega
theorem Ug{c:Cd}{k:Nat}(h:jH c (itS c k)=itS c k):∀j,itS c (k+j)=itS c k
 |0=>rfl
 |j+1=>by
  show jH c (itS c (k+j))=_;rw[Ug h j,h]
theorem Ge(c:Cd):jH c (wz c)=wz c:=by
 rcases Uf c (Yp c)with h|h
 ·exact h
 ·have:=(gA c (Yp c+1)).tot;unfold Yp at h this;omega
theorem zpP{c:Cd}{k:Nat}(h:jH c (itS c k)=itS c k):itS c k=wz c:=by
 unfold wz;by_cases hk:k≤Yp c
 ·have:=Ug h (Yp c-k);rw[Nat.add_sub_cancel' hk]at this;exact this.symm
 ·have:=Ug (Ge c) (k-Yp c);rw[Nat.add_sub_cancel' oM]at this;exact this
theorem zkD{c:Cd}{k:Nat}(h:jH c (itS c k)≠itS c k):k<Yp c:=by
 rcases Uf c k with h1|h1
 ·exact absurd h1 h
 ·have:=(gA c (k+1)).tot;unfold Yp;omega
structure SetM(ids:List Nat)(S:List (List Int))(fid lo:Nat)(L:List (Nat×Option AObj))(n:Nat):Prop where
 wf:WfA L n
 len:S.length=ids.length
 nd:ids.Nodup
 row:xN L fid=some (.row 74 (ids.map .map) false false)
 maps:∀j id,ids[j]? =some id→xN L id=some (.umap (uS (S.getD j [])))
 los:∀id∈ids,lo≤id
 lof:lo≤fid
theorem SetM.lt{ids:List Nat}{S:List (List Int)}{fid lo:Nat}{L:List (Nat×Option AObj)}(h:SetM ids S fid lo L n)(hid:id∈ids):id<n:=by
 obtain⟨j,hj⟩:=ziS hid;exact h.wf.lt (h.maps j id hj)
theorem SetM.fidn{ids:List Nat}{S:List (List Int)}{fid lo:Nat}{L:List (Nat×Option AObj)}(h:SetM ids S fid lo L n):fid∉ids:=fun hid=>by
 obtain⟨j,hj⟩:=ziS hid;have:=h.maps j fid hj;rw[h.row]at this;cases this
theorem SetM.oth{ids:List Nat}{S:List (List Int)}{fid lo:Nat}{L:List (Nat×Option AObj)}(h:SetM ids S fid lo L n){L2:List (Nat×Option AObj)}{n2:Nat}(hw:WfA L2 n2)(hf:∀j,j<n→(j=fid∨j∈ids)→xN L2 j=xN L j):SetM ids S fid lo L2 n2 where
 wf:=hw
 len:=h.len
 nd:=h.nd
 row:=by rw[hf fid (h.wf.lt h.row) (.inl rfl)];exact h.row
 maps:=fun j id hj=>by rw[hf id (h.lt (xq hj)) (.inr (xq hj))];exact h.maps j id hj
 los:=h.los
 lof:=h.lof
theorem SetM.cap{ids:List Nat}{S:List (List Int)}{fid lo:Nat}{L:List (Nat×Option AObj)}(h:SetM ids S fid lo L n){i sid:Nat}{c:Cap}{sc:List Int}(hi:i<ids.length)(hs:xN L sid=some (.umap (uS sc)))(hsd:sid∉ids):CapM ⟨ids,S,i,fid,sid,c,false,false⟩ L n sc (S.getD i []) where
 wf:=h.wf
 len:=h.len
 nd:=h.nd
 hi:=hi
 row:=h.row
 oth:=fun j id hj _=>h.maps j id hj
 own:=h.maps i _ (Hq (E:=⟨ids,S,i,fid,sid,c,false,false⟩) hi)
 sco:=hs
 sd:=hsd
theorem SetM.set{ids:List Nat}{S:List (List Int)}{fid lo:Nat}{L:List (Nat×Option AObj)}(h:SetM ids S fid lo L n){i:Nat}{l:List Int}(hi:ids[i]? =some id){L2:List (Nat×Option AObj)}(hl:xN L2 id=some (.umap (uS l)))(hf:∀j,j≠id→xN L2 j=xN L j):SetM ids (S.set i l) fid lo L2 n where
 wf:=fun j hj=>by
  have:=h.lt (xq hi);rw[hf j oM];exact h.wf j hj
 len:=by rw[ziU];exact h.len
 nd:=h.nd
 row:=by rw[hf fid (fun e=>h.fidn (by rw[e];exact xq hi))];exact h.row
 maps:=fun j k hj=>by
  have hlt:=(List.getElem?_eq_some_iff.1 hi).1;rw[lD (by rw[h.len];exact hlt)]
  by_cases hji:j=i
  ·subst hji;rw[hi]at hj;cases hj;rw[if_pos rfl];exact hl
  ·rw[if_neg hji,hf k (fun e=>hji ((ziW (List.getElem?_eq_some_iff.1 hj).1 h.nd).1 (hj.trans (by rw[e,hi]))))]
   exact h.maps j k hj
 los:=h.los
 lof:=h.lof
theorem zj0:∀(k:Nat) (v:AV),reps (k+1) [v]=v::reps k [v]:=fun _ _=>rfl
structure CdOk(c:Cd):Prop where
 n:c.fs.length<100000000
 f:∀f∈c.fs,Qr c.fs.length f.b∧wJ f.b≤900000000∧f.ps.length<1000000000
section
variable {O:Orc}
attribute [local go_sem] kh Yg lj li kO XD QO xZ x4 ziJ ziN ziM ziH wZ ltF gtF in
theorem zwX(h32:O 32=none)(h48:O 48=some (YC 900000000)){c:Cd}(hc:CdOk c){L0:List (Nat×Option AObj)}{n0:Nat}(hw0:WfA L0 n0)(m0:Nat)(b:Bool):Cv ((evW env O).call 32 [.agg (wC c)] (KL L0 n0 m0 b [] none)) fun v t=>∃ids fid L n m,v=.sl fid 0 c.fs.length (.fix c.fs.length)∧t=KL L n m b [] none∧SetM ids (wz c) fid n0 L n∧ids.length=c.fs.length∧n0≤n∧∀j,j<n0→xN L j=xN L0 j∧m.testBit j=m0.testBit j:=by
 refine qb (F:=f32) h32 rfl rfl (ziw rfl) ?_;obtain⟨fs,main,vars,globals,consts⟩:=c;have hN:=hc.n;have hf:=hc.f;simp only at hN hf;unfold f32;simp only[wC];have hms:=fun l n m=> @zmq l n m 74 8 fs.length false [] none [.nilm] oM oM;refine xQ ?_;refine xQ ?_;refine xR (xR (xO ?_));refine xT ?_;refine wx (fun i:Nat=>fs.length-i) (fun i f t=>∃T L n m ids,f=⟨tmL T,[]⟩∧t=KL L n m false [] none∧(tmL T).get 1=some (.ptr n0 0)∧(tmL T).get 3=some (.sl (n0+1) 0 fs.length (.fix fs.length))∧(tmL T).get 16=some (.int .i64 (.ofNat fs.length))∧(tmL T).get 17=some (.int .i64 (.ofNat i))∧i≤fs.length∧WfA L n∧n0+1+1≤n∧xN L n0=some (.row 25 [.lst fs.length false (xP wo fs),.int .i64 main,.int .i64 vars,.int .i64 globals,.lst consts.length false (wa consts)] false false)∧xN L (n0+1)=some (.row 74 (ids.map AV.map++reps (fs.length-i) [.nilm]) false false)∧ids.length=i∧ids.Nodup∧(∀id∈ids,n0+1+1≤id∧id<n∧xN L id=some (.umap []))∧∀j,j<n0→xN L j=xN L0 j∧m.testBit j=m0.testBit j) (fun i f t hI=>?_) 0 ⟨_,_,_,_,[],rfl,rfl,sW,sW,sW,sW,zQ _,?_,zu _,?_,by rw[xS];rfl,rfl,List.nodup_nil,fun id h=>(by cases h),fun j hj=>⟨?_,rfl⟩⟩
 ·obtain ⟨T,L,n,m,ids,rfl,rfl,t1,t3,t16,t17,hi,hw,hn,g0,g1,hil,hnd,hids,hfr⟩:=hI;rcases Nat.lt_or_ge i fs.length with hlt|hge
  ·have hp:ur (ids.map AV.map++reps (fs.length-i) [.nilm]) i [.map n]=some ((ids++[n]).map AV.map++reps (fs.length-(i+1)) [.nilm]):=by
    rw[show fs.length-i=(fs.length-(i+1))+1 by omega,zj0]
    have:= @K3 (ids.map AV.map) [.nilm] (reps (fs.length-(i+1)) [.nilm]) [.map n] i (by simpa using hil) rfl
    simp only[List.singleton_append]at this;rw[this,List.map_append,ziV];rfl
   have hnd2:(ids++[n]).Nodup:=by
    rw[List.nodup_append];refine⟨hnd,by simp,fun a ha b hb=>?_⟩
    have:=(hids a ha).2.1;simp only[zW]at hb;omega
   have hids2:=hids;have hfr2:=hfr;clear hids hfr;refine xO ?_;refine⟨i+1,⟨_,_,n+1,_,ids++[n],rfl,rfl,sV,sV,sV,sV,oM,?_,oM,?_,xS _ _ _,by simp[hil],hnd2,fun id hid=>?_,fun j hj=>⟨?_,?_⟩⟩,oM⟩
   ·(repeat first|exact hw.up oM|refine WfA.same ?_ oM)
   ·(repeat (rw[xL,if_neg oM]));exact g0
   ·rcases List.mem_append.1 hid with h|h
    ·have:=hids2 id h;refine⟨this.1,oM,?_⟩
     (repeat (rw[xL,if_neg oM]));exact this.2.2
    ·simp only[zW]at h;subst h;refine⟨oM,oM,?_⟩;rw[xL,if_neg oM,xS]
   ·(repeat (rw[xL,if_neg oM]));exact(hfr2 j hj).1
   ·(repeat rw[ut oM]);exact(hfr2 j hj).2
  ·have hlt:¬i<fs.length:=oM;have hie:i=fs.length:=oM
   have hM0:SetM ids (itS ⟨fs,main,vars,globals,consts⟩ 0) (n0+1) n0 L n:={
    wf:=hw
    len:=by simp[itS];omega
    nd:=hnd
    row:=by rw[g1,show fs.length-i=0 by omega];simp[reps]
    maps:=fun j id hj=>by
     rw[(hids id (xq hj)).2.2];simp only[itS];rw[xe,zi6];split<;>rfl
    los:=fun id hid=>by have:=(hids id hid).1;omega
    lof:=by omega}
   have hgt:∀id∈ids,n0+1<id:=fun id hid=>by have:=(hids id hid).1;omega
   clear hids g1 hms;have hfr0:=hfr;clear hfr;refine xO ?_;refine xR (xQ ?_);refine xT ?_;have hcd:CdOk ⟨fs,main,vars,globals,consts⟩:=hc;generalize hcc:(⟨fs,main,vars,globals,consts⟩:Cd)=c at *;have hfs:c.fs=fs:=by rw[←hcc]
   have hidl:ids.length=c.fs.length:=by rw[hfs];omega
   refine wx (fun x:Nat×Bool=>bif x.2 then 1+(Yp c+1-x.1)else 0) (fun x f t=>∃T L n m,f=⟨tmL T,[]⟩∧t=KL L n m false [] none∧(tmL T).get 1=some (.ptr n0 0)∧(tmL T).get 3=some (.sl (n0+1) 0 fs.length (.fix fs.length))∧(tmL T).get 5=some (.bool x.2)∧n0+1+1≤n∧xN L n0=some (.row 25 [.lst fs.length false (xP wo fs),.int .i64 main,.int .i64 vars,.int .i64 globals,.lst consts.length false (wa consts)] false false)∧SetM ids (itS c x.1) (n0+1) n0 L n∧(x.2=false→jH c (itS c x.1)=itS c x.1)∧∀j,j<n0→xN L j=xN L0 j∧m.testBit j=m0.testBit j) (fun x f t hI=>?_) (0,true) ⟨_,L,n,m,rfl,rfl,sV,sV,sV,hn,g0,hM0,(fun h=>by cases h),hfr0⟩
   clear t1 t3 t16 t17 hw hn g0 hil hM0 hfr0 hie hlt hge hi;obtain⟨T,L,n,m,rfl,rfl,t1,t3,t5,hn,g0,hM,hst,hfr⟩:=hI;obtain⟨k,g⟩:=x;simp only at t5 hM hst⊢;cases g with
   |false=>
    have hfx:=zpP (hst rfl);rw[hfx]at hM;clear hst;refine xO ?_;refine xQ ?_;refine wB (r:=.ret) ?_;show Cv _ _;refine xW ?_;exact⟨ids,n0+1,L,n,m,rfl,rfl,hM,by rw[hidl,hfs],oM,hfr⟩
   | true=>
    clear hst;refine xR (xQ ?_);refine xO ?_;refine xT ?_;refine xR (xO ?_);refine xR (xO ?_);refine xT ?_;refine wx (fun x:Nat×List (List Int)×Bool=>fs.length-x.1) (fun x f t=>∃T L n m,f=⟨tmL T,[]⟩∧t=KL L n m false [] none∧(tmL T).get 1=some (.ptr n0 0)∧(tmL T).get 3=some (.sl (n0+1) 0 fs.length (.fix fs.length))∧(tmL T).get 5=some (.bool x.2.2)∧(tmL T).get 27=some (.lst fs.length false (xP wo fs))∧(tmL T).get 28=some (.int .i64 (.ofNat fs.length))∧(tmL T).get 29=some (.int .i64 (.ofNat x.1))∧x.1≤fs.length∧n0+1+1≤n∧xN L n0=some (.row 25 [.lst fs.length false (xP wo fs),.int .i64 main,.int .i64 vars,.int .i64 globals,.lst consts.length false (wa consts)] false false)∧SetM ids x.2.1 (n0+1) n0 L n∧SOk (jl c) fs.length x.2.1∧uU (fs.drop x.1) x.1 x.2.1=itS c (k+1)∧(x.2.2=false→x.2.1=itS c k)∧(x.2.2=true→lu (itS c k)<lu x.2.1)∧∀j,j<n0→xN L j=xN L0 j∧m.testBit j=m0.testBit j) (fun x f t hI=>?_) (0,itS c k,false) ⟨_,L,n,m,rfl,rfl,sV,sV,sV,sV,sV,sV,zQ _,hn,g0,hM,hfs▸gA c k,by show uU fs 0 _=uU c.fs 0 _;rw[hfs],(fun _=>rfl),(fun h=>by cases h),hfr⟩
    clear t1 t3 t5 hn g0 hM hfr;obtain⟨T,L,n,m,rfl,rfl,t1,t3,t5,t27,t28,t29,hi,hn,g0,hM,hok,hR,hg0,hg1,hfr⟩:=hI;obtain⟨i,S,g⟩:=x;simp only at t5 t29 hi hM hok hR hg0 hg1⊢;rcases wi fs i with ⟨hi2,hd⟩|⟨f,hi2,hd⟩
    ·have hlt:¬i<fs.length:=oM;rw[hd]at hR;simp only[uU]at hR;refine xO ?_;refine⟨(k+1,g),⟨_,L,n,m,rfl,rfl,sV,sV,sV,hn,g0,hR▸hM,fun h=>?_,hfr⟩,?_⟩
     ·have e:jH c (itS c k)=itS c k:=by
       show itS c (k+1)=_;rw[←hR];exact hg0 h
      show jH c (itS c (k+1))=itS c (k+1);show jH c (jH c (itS c k))=jH c (itS c k);rw[e,e]
     ·cases g with
      |false=>simp only[cond_false,cond_true];omega
      | true=>
       have h1:=hg1 rfl;rw[hR]at h1;have h2:jH c (itS c k)≠itS c k:=fun e=>by
        have:itS c (k+1)=itS c k:=e;rw[this]at h1;omega
       have:=zkD h2;simp only[cond_true];omega
    ·have hmem:f∈fs:=ziT (by rw[hd];simp)
     have hcf:=X4 hd;obtain⟨hto,hts,htp⟩:=hf f hmem;rw[hd]at hR;simp only[uU]at hR;have hset:=hok.set hi2 (XU c f (hfs▸hmem));have hpre:=Xa (S:=S) (i:=i) f.b (pH [] f.ps) (S.getD i []);obtain⟨ps,rest,cont,fr,b⟩:=f;have hcb:=wu b;obtain⟨bk,bv,bop,bn,bf,bas,bks⟩:=b;simp only[wo,xU,qu]at hcf hto hts htp hset hpre hR;have hw:=hM.wf;have lids:∀id,id∈ids→id<n:=fun id h=>hM.lt h;refine xQ ?_;refine xQ ?_;refine xR (xT ?_);refine xQ ?_;refine xQ ?_;refine xR (xR (xO ?_));refine xT ?_;refine wx (fun x:Nat×List Int=>ps.length-x.1) (fun x f t=>∃T L2 m2,f=⟨tmL T,[]⟩∧t=KL L2 (n+1+1) m2 false [] none∧(tmL T).get 1=some (.ptr n0 0)∧(tmL T).get 3=some (.sl (n0+1) 0 fs.length (.fix fs.length))∧(tmL T).get 5=some (.bool g)∧(tmL T).get 6=some (.int .i64 (.ofNat i))∧(tmL T).get 7=some (.ptr n 0)∧(tmL T).get 8=some (.map (n+1))∧(tmL T).get 27=some (.lst fs.length false (xP wo fs))∧(tmL T).get 28=some (.int .i64 (.ofNat fs.length))∧(tmL T).get 29=some (.int .i64 (.ofNat i))∧(tmL T).get 36=some (.lst ps.length false (xP wy ps))∧(tmL T).get 37=some (.int .i64 (.ofNat ps.length))∧(tmL T).get 38=some (.int .i64 (.ofNat x.1))∧x.1≤ps.length∧xN L2 n=some (.row 46 [.lst ps.length false (xP wy ps),.bool rest,.bool cont,.lst fr.length false (xP wy fr),.int .i64 bk,.int .i64 bv,.int .i64 bop,.int .i64 bn,.int .i64 bf,.lst bas.length false (xP wn bas),.lst bks.length false (x7 bks)] false false)∧xN L2 (n+1)=some (.umap (uS x.2))∧pH x.2 (ps.drop x.1)=pH [] ps∧WfA L2 (n+1+1)∧∀j,j<n→xN L2 j=xN L j∧m2.testBit j=m.testBit j) (fun x f t hI=>?_) (0,[]) ⟨_,_,_,rfl,rfl,sV,sV,sV,sV,sV,sV,sV,sV,sV,sV,sV,sV,zQ _,?_,?_,rfl,?_,fun j hj=>⟨?_,?_⟩⟩
     ·clear t1 t3 t5 t27 t28 t29 hcf;obtain⟨T,L2,m2,rfl,rfl,t1,t3,t5,t6,t7,t8,t27,t28,t29,t36,t37,t38,hj,gf,gs,hins,hw2,hfr2⟩:=hI;obtain⟨j,sc⟩:=x;simp only at t38 hj gs hins⊢;rcases wi ps j with ⟨hj2,hdp⟩|⟨p,hj2,hdp⟩
      ·have hlt:¬j<ps.length:=oM;rw[hdp]at hins;simp only[pH]at hins;subst hins;have hidf:ids.length=fs.length:=by rw[hidl,hfs]
       have hM2:SetM ids S (n0+1) n0 L2 (n+1+1):=hM.oth hw2 fun j hj _=>(hfr2 j hj).1;have hii:i<ids.length:=oM;have hid:ids[i]? =some ids[i]:=yH hii;generalize hidd:ids[i]=id at hid;have hidm:id∈ids:=xq hid;have hcut:wj 1 (wH i (ids.map AV.map))=some [.map id]:=by
        have:(ids.map AV.map).drop i=.map id::(ids.map AV.map).drop (i+1):=by
         rw[ziO (by simpa using hii)]
         simp[hidd]
        rw[wY,this];rfl
       have hsd:n+1∉ids:=fun h=>by have:=lids _ h;omega
       have hCM:=hM2.cap (c:=.fix fs.length) hii gs hsd;have hoid:CapE.oid ⟨ids,S,i,n0+1,n+1,.fix fs.length,false,false⟩=id:=by
        show ids.getD i 0=id;rw[xe,hid];rfl
       have hcap:=fun m b=>zsr h48 hCM (fun j hj=>by
        rcases hj with (h|h)|h
        ·have:=lids j h;omega
        ·rw[h];exact yc _
        ·rw[h];show n0+1<_;omega) (y:=.mk bk bv bop bn bf bas bks) (by show Qr ids.length _;rw[hidf];exact hto) hts (hok.nd i) (by show ids.length<_;omega) m b
       simp only[hoid,xU]at hcap;rw[hidf]at hcap;have hgt2:=hgt id hidm;have hrow:=hM2.row;have hlt2:=lids id hidm;generalize hown:vn S i (.mk bk bv bop bn bf bas bks) (pH [] ps) (S.getD i [])=own at *;generalize hfl:decide (own.length≠(S.getD i []).length)=b1 at hcap;have hfin:∀{L3:List (Nat×Option AObj)},xN L3 id=some (.umap (uS own))→(∀j,j≠id→xN L3 j=xN L2 j)→SetM ids (S.set i own) (n0+1) n0 L3 (n+1+1):=fun h1 h2=>hM2.set hid h1 h2;have hS0:b1=false→S.set i own=S:=fun h=>by
        rw[h]at hfl;obtain⟨z,hz⟩:=hpre;have:own.length=(S.getD i []).length:=by simpa using hfl
        rw[hz,yA]at this;have hz0:z=[]:=yF oM;rw[hz,hz0,ziA,XO]
       have hS1:b1=true→lu S<lu (S.set i own):=fun h=>by
        rw[h]at hfl;obtain⟨z,hz⟩:=hpre;have h1:own.length≠(S.getD i []).length:=by simpa using hfl
        have h2:=zzo (l:=own) (show i<S.length by rw[hM2.len];exact hii)
        rw[hz,yA]at h1 h2;rw[hz];omega
       have hle:lu S≤lu (S.set i own):=by
        cases b1 with
        |true=>exact Nat.le_of_lt (hS1 rfl)
        |false=>rw[hS0 rfl];exact zu _
       have hg2:(b1||g)=false→S.set i own=itS c k:=fun h=>by
        simp only[Bool.or_eq_false_iff]at h;rw[hS0 h.1];exact hg0 h.2
       have hg3:(b1||g)=true→lu (itS c k)<lu (S.set i own):=fun h=>by
        cases g with
        |true=>exact Nat.lt_of_lt_of_le (hg1 rfl) hle
        |false=>
         rw[ziK]at h;rw[←hg0 rfl];exact hS1 h
       have hfr4:∀j,j<n0→xN L2 j=xN L0 j∧m2.testBit j=m0.testBit j:=fun j hj=>by
        have h1:=hfr2 j oM;rw[h1.1,h1.2];exact hfr j hj
       have g02:xN L2 n0=some (.row 25 [.lst fs.length false (xP wo fs),.int .i64 main,.int .i64 vars,.int .i64 globals,.lst consts.length false (wa consts)] false false):=by
        rw[(hfr2 n0 oM).1];exact g0
       clear hfl hS0 hS1 hle hg0 hg1 hfr hfr2 hM hM2 hCM hown hpre hto hts hoid hcc hidl;refine xO ?_;refine qt ?_;refine p9 (hcap 0 false) fun v t hv=>?_;obtain⟨L3,m3,rfl,rfl,q1,q2,q3⟩:=hv;have hM3:=hfin q1 q2;have g03:xN L3 n0=some (.row 25 [.lst fs.length false (xP wo fs),.int .i64 main,.int .i64 vars,.int .i64 globals,.lst consts.length false (wa consts)] false false):=by
        rw[q2 n0 oM];exact g02
       have hfr5:∀j,j<n0→xN L3 j=xN L0 j∧(m2|||m3).testBit j=m0.testBit j:=fun j hj=>by
        refine⟨by rw[q2 j oM];exact(hfr4 j hj).1,?_⟩
        rw[yS,q3 j (by
         rintro(h|h)
         ·have:=hgt j h;omega
         ·have:j=n+1:=h;omega)]
        simp[(hfr4 j hj).2]
       clear hcap hfin hfr4 q1 q2 q3 g02 hrow gs gf;cases b1 with
       |true=>
        refine xO ?_;refine xO ?_;exact⟨(i+1,S.set i own,true),⟨_,L3,n+1+1,_,rfl,rfl,sV,sV,sV,sV,sV,sV,by simp only;omega,oM,g03,hM3,hset,hR,(fun h=>by cases h),(fun _=>hg3 rfl),hfr5⟩,by simp only;omega⟩
       |false=>
        rw[Bool.false_or]at hg2 hg3;refine xO ?_;refine xO ?_;exact⟨(i+1,S.set i own,g),⟨_,L3,n+1+1,_,rfl,rfl,sV,sV,sV,sV,sV,sV,by simp only;omega,oM,g03,hM3,hset,hR,hg2,hg3,hfr5⟩,by simp only;omega⟩
      ·have hcp:=l7 hdp;have hst:=zpO sc p;rw[hdp]at hins;simp only[pH]at hins;have hfr3:=hfr2;clear hfr2 hfr hR hset hpre hg0 hg1 hto;refine xO ?_;refine⟨(j+1,Zk sc p),⟨_,_,_,rfl,rfl,sV,sV,sV,sV,sV,sV,sV,sV,sV,sV,sV,sV,by simp only;omega,by rw[xL,if_neg oM];exact gf,xS _ _ _,hins,WfA.same hw2 oM,fun j hj=>⟨?_,?_⟩⟩,by simp only;omega⟩
       ·rw[xL,if_neg oM];exact(hfr3 j hj).1
       ·rw[ut oM];exact(hfr3 j hj).2
     ·rw[xL,if_neg oM,xS]
     ·rw[xS];rfl
     ·(repeat first|exact hw.up oM|refine WfA.same ?_ oM)
     ·(repeat (rw[xL,if_neg oM]))
     ·(repeat rw[ut oM])
 ·(repeat first|exact hw0.up oM|refine WfA.same ?_ oM)
 ·(repeat (rw[xL,if_neg oM]));rw[xS]
 ·(repeat (rw[xL,if_neg oM]))
end
def wg(n m:Int):Bool:= !ltD n (.ofNat 0)&&ltD n m
def Yc(x:Int×Int):List AV:=[.int .i64 x.1,.int .i64 x.2]
theorem zvW:∀x y,Yc x=Yc y→x=y:=fun⟨a,b⟩ ⟨c,d⟩ h=>by simpa [Yc]using h
theorem zsU(x:Int×Int):wkL (Yc x)=Yc x:=by simp only[Yc,wkL,wkV]
theorem zyw(x:Int×Int):xY (Yc x)=true:=rfl
noncomputable def ph:List AV→St→Option (AV×St):=vF Yc (fun _=>True) (fun x=>.bool (wg x.1 x.2))
attribute [local go_sem] Yc in
theorem zt0(B:Bx P w0)(hO:OrcOk P w0 O)(x:Int×Int):∃s1,SC P w0 66 (Yc x) (s00 0 true) (.bool (wg x.1 x.2)) s1:=by
 refine be B hO f66 ?_;obtain⟨n,m⟩:=x;unfold f66;simp only[wg];refine xQ ?_;cases h1:ltD n (.ofNat 0)with
 |true=>
  refine xQ ?_;refine wB (r:=.ret) ?_;show Cv _ _;refine xW ?_;exact w8 _ _
 |false=>
  refine xQ ?_;refine wB (r:=.ret) ?_;show Cv _ _;refine xW ?_;exact w8 _ _
theorem lV(h:O 66=some ph)(a b:Int)(s:St):(evW env O).call 66 [.int .i64 a,.int .i64 b] s=some (.bool (wg a b),s):=oc h zvW (a,b) trivial (zsU (a,b)) s
def primL:List Int:=[.ofNat 2,.ofNat 1,.ofNat 2,.ofNat 1,.ofNat 1,.ofNat 2,.ofNat 2,.ofNat 1,.ofNat 2,.ofNat 2,.ofNat 2,.ofNat 2,.ofNat 2,.ofNat 2,.ofNat 2,.ofNat 1,.ofNat 1,.ofNat 1,.ofNat 1,.ofNat 2,.ofNat 1,.ofNat 2,.ofNat 3,.ofNat 1,.ofNat 1,.ofNat 1,.ofNat 1,.ofNat 2,.ofNat 1,.ofNat 2,.ofNat 3,.ofNat 1,.ofNat 2,.ofNat 1,.ofNat 2,.ofNat 3,.ofNat 1,.ofNat 0,.ofNat 1,.ofNat 1,.ofNat 0,.ofNat 0]
def XI(n:Int):Int:=bif wg n (.ofNat 42)then primL.getD n.toNat 0 else .negSucc 0
def gp(n:Int):List AV:=[.int .i64 n]
theorem JY:∀x y,gp x=gp y→x=y:=fun a b h=>by simpa [gp]using h
theorem LN(x:Int):wkL (gp x)=gp x:=by simp only[gp,wkL,wkV]
theorem VK(x:Int):xY (gp x)=true:=rfl
noncomputable def zrX:List AV→St→Option (AV×St):=vF gp (fun _=>True) (fun x=>.int .i64 (XI x))
theorem UU{n:Int}(h:ltD n (.ofNat 0)=false):∃k,n=.ofNat k:=by
 cases n with
 |ofNat k=>exact⟨k,rfl⟩
 |negSucc k=>simp[ltD]at h
attribute [local go_sem] gp in
theorem zmB(B:Bx P w0)(hO:OrcOk P w0 O)(n:Int):∃s1,SC P w0 132 (gp n) (s00 0 true) (.int .i64 (XI n)) s1:=by
 refine be B hO f132 ?_;unfold f132;simp only[XI,wg];refine xQ ?_;refine xQ ?_;cases h1:ltD n (.ofNat 0)with
 |true=>
  refine xO ?_;refine xW ?_;exact wF _ _ _
 | false=>
  obtain⟨k,rfl⟩:=UU h1;cases h2:ltD (.ofNat k) (.ofNat 42)with
  |false=>
   refine xO ?_;refine xW ?_;exact wF _ _ _
  | true=>
   have hk:k<42:=by simp[ltD]at h2;omega
   have hc:= @l7 primL k (primL.getD k 0) (primL.drop (k+1)) (by
    rw[ziO (show k<primL.length from hk),xe,yH (show k<primL.length from hk)];rfl)
   show Ev _ fun r fr t=>Cv (pK _ (wT _ _ (some (r,fr,t)))) fun v0 s1=>Fz s1 v0 (.int .i64 (primL.getD k 0));generalize primL.getD k 0=v at *;simp only[primL,xP,wy,zM,ziQ]at hc;refine xQ ?_;refine xQ ?_;refine wB (r:=.ret) ?_;show Cv _ _;refine xW ?_;exact wF _ _ _
def UO(n:Int):Int:=
 bif eqD n (.ofNat 103)||(eqD n (.ofNat 105)||eqD n (.ofNat 106))then .ofNat 0
 else bif eqD n (.ofNat 100)||(eqD n (.ofNat 101)||eqD n (.ofNat 104))then .ofNat 1
 else bif eqD n (.ofNat 102)then .ofNat 2 else XI n
noncomputable def zyR:List AV→St→Option (AV×St):=vF gp (fun _=>True) (fun x=>.int .i64 (UO x))
attribute [local go_sem] gp in
theorem zp5(B:Bx P w0)(hO:OrcOk P w0 O)(h132:O 132=some zrX)(n:Int):∃s1,SC P w0 147 (gp n) (s00 0 true) (.int .i64 (UO n)) s1:=by
 refine be B hO f147 ?_;have hp:=fun s=>oc h132 JY n trivial (LN n) s;unfold f147;simp only[UO,gp]at hp⊢;have hpn:(bif wg n (.ofNat 42)then XI n else .negSucc 0)=XI n:=by
  unfold XI;cases wg n (.ofNat 42)<;>rfl
 simp only[wg]at hpn;refine xQ ?_;cases a1:eqD n (.ofNat 103)with
 |true=>refine xO ?_;refine xW ?_;exact wF _ _ _
 |false=>
 cases a2:eqD n (.ofNat 105)with
 |true=>refine xO ?_;refine xW ?_;exact wF _ _ _
 |false=>
 cases a3:eqD n (.ofNat 106)with
 |true=>refine xO ?_;refine xW ?_;exact wF _ _ _
 |false=>
 cases a4:eqD n (.ofNat 100)with
 |true=>refine xO ?_;refine xW ?_;exact wF _ _ _
 |false=>
 cases a5:eqD n (.ofNat 101)with
 |true=>refine xO ?_;refine xW ?_;exact wF _ _ _
 |false=>
 cases a6:eqD n (.ofNat 104)with
 |true=>refine xO ?_;refine xW ?_;exact wF _ _ _
 |false=>
 cases a7:eqD n (.ofNat 102)with
 |true=>refine xO ?_;refine xW ?_;exact wF _ _ _
 |false=>
 show Ev _ fun r fr t=>Cv (pK _ (wT _ _ (some (r,fr,t)))) fun v0 s1=>Fz s1 v0 (.int .i64 (XI n));generalize XI n=p at *;refine xQ ?_;cases b1:ltD n (.ofNat 0)with
 |true=>
  rw[b1]at hpn;simp only[xE,ziC,cond_false]at hpn;subst hpn;refine xO ?_;refine xW ?_;exact wF _ _ _
 |false=>
 cases b2:ltD n (.ofNat 42)with
 |false=>
  rw[b1,b2]at hpn;simp only[ziE,cond_false]at hpn;subst hpn;refine xO ?_;refine xW ?_;exact wF _ _ _
 |true=>
  clear hpn;refine xQ ?_;refine xQ ?_;refine wB (r:=.ret) ?_;show Cv _ _;refine xW ?_;exact wF _ _ _
def zwn(c:Cd)(f:Fn)(op:Int):Int:=
 bif eqD op (.ofNat 103)||eqD op (.ofNat 104)then c.globals else bif eqD op (.ofNat 105)then .ofNat f.fr.length else .ofNat 1
def Zu(c:Cd)(f:Fn)(t:Trm):Bool:=
 eqD (UO t.op) (.ofNat t.atoms.length)&&(wg t.num (zwn c f t.op)&&(eqD t.fn (.ofNat 0)&&(decide (t.kids.length=1)&&wg t.var c.vars)))
def uX(x:Cd×Fn×Trm):List AV:=[vd x.1,gj x.2.1,ud x.2.2]
theorem VJ:∀x y,uX x=uX y→x=y:=fun⟨a,b,c⟩ ⟨d,e,f⟩ h=>by
 simp only[uX,List.cons.injEq,and_true]at h;rw[JW h.1,zvV h.2.1,J3 h.2.2]
theorem JV(x:Cd×Fn×Trm):wkL (uX x)=uX x:=by simp only[uX,wkL,LL,zsT,LQ]
theorem WT(x:Cd×Fn×Trm):xY (uX x)=true:=by simp only[uX,vd,gj,ud,wp,vw,gK,pV,uw,wA,xA]
noncomputable def zyQ:List AV→St→Option (AV×St):=vF uX (fun _=>True) (fun x=>.bool (Zu x.1 x.2.1 x.2.2))
theorem qm{a b:Bool}(h:b=a):Fz s (.bool a) (.bool b):=h▸w8 s b
section
variable {P:Program}{w0:World}(B:Bx P w0){O:Orc}(hO:OrcOk P w0 O)
include B hO
attribute [local go_sem] uX vd gj ud wC wo xU qu in
theorem zpq(h147:O 147=some zyR)(h66:O 66=some ph)(x:Cd×Fn×Trm):∃s1,SC P w0 118 (uX x) (s00 0 true) (.bool (Zu x.1 x.2.1 x.2.2)) s1:=by
 refine be B hO f118 ?_;obtain⟨⟨fs,main,vars,globals,consts⟩,⟨ps,rest,cont,fr,b⟩,⟨k,v,op,num,fn,as,ks⟩⟩:=x;have ht:=fun s=>oc h147 JY op trivial (LN op) s;have hb:=lV h66;obtain⟨R,hR⟩:∃R,Zu ⟨fs,main,vars,globals,consts⟩ ⟨ps,rest,cont,fr,b⟩ (.mk k v op num fn as ks)=R:=⟨_,rfl⟩;rw[hR];simp only[Zu,zwn,Trm.op,Trm.atoms,Trm.num,Trm.fn,Trm.kids,Trm.var]at hR;obtain⟨bk,bv,bop,bn,bf,bas,bks⟩:=b;unfold f118;simp only[gp]at ht⊢;generalize UO op=tk at *;refine xQ ?_;refine xQ ?_;cases a1:eqD op (.ofNat 103)with
 |true=>
  rw[a1]at hR;simp only[ziI,cond_true]at hR;refine xQ ?_;have hb1:=hb num (globals);have hb2:=hb v vars;clear hb;generalize wg num (globals)=c2 at *;generalize wg v vars=c5 at *;cases e1:eqD tk (.ofNat as.length)with
  |false=>refine xQ ?_;refine wB (r:=.ret) ?_;show Cv _ _;refine xW ?_;exact qm (by rw[←hR];simp only[*,ziC])
  |true=>
  cases c2 with
  |false=>refine xQ ?_;refine wB (r:=.ret) ?_;show Cv _ _;refine xW ?_;exact qm (by rw[←hR];simp only[*,ziE,ziC])
  |true=>
  cases e3:eqD fn (.ofNat 0)with
  |false=>refine xQ ?_;refine wB (r:=.ret) ?_;show Cv _ _;refine xW ?_;exact qm (by rw[←hR];simp only[*,ziE,ziC])
  |true=>
  by_cases e4:ks.length=1
  ·refine xQ ?_;refine wB (r:=.ret) ?_;show Cv _ _;refine xW ?_;exact qm (by rw[←hR];simp only[*,decide_true,yP])
  ·refine xQ ?_;refine wB (r:=.ret) ?_;show Cv _ _;refine xW ?_;exact qm (by rw[←hR];simp only[*,decide_false,ziE,ziC])
 |false=>
 cases a2:eqD op (.ofNat 104)with
 |true=>
  rw[a1,a2]at hR;simp only[ziG,cond_true]at hR;refine xQ ?_;have hb1:=hb num (globals);have hb2:=hb v vars;clear hb;generalize wg num (globals)=c2 at *;generalize wg v vars=c5 at *;cases e1:eqD tk (.ofNat as.length)with
  |false=>refine xQ ?_;refine wB (r:=.ret) ?_;show Cv _ _;refine xW ?_;exact qm (by rw[←hR];simp only[*,ziC])
  |true=>
  cases c2 with
  |false=>refine xQ ?_;refine wB (r:=.ret) ?_;show Cv _ _;refine xW ?_;exact qm (by rw[←hR];simp only[*,ziE,ziC])
  |true=>
  cases e3:eqD fn (.ofNat 0)with
  |false=>refine xQ ?_;refine wB (r:=.ret) ?_;show Cv _ _;refine xW ?_;exact qm (by rw[←hR];simp only[*,ziE,ziC])
  |true=>
  by_cases e4:ks.length=1
  ·refine xQ ?_;refine wB (r:=.ret) ?_;show Cv _ _;refine xW ?_;exact qm (by rw[←hR];simp only[*,decide_true,yP])
  ·refine xQ ?_;refine wB (r:=.ret) ?_;show Cv _ _;refine xW ?_;exact qm (by rw[←hR];simp only[*,decide_false,ziE,ziC])
 |false=>
 cases a3:eqD op (.ofNat 105)with
 |true=>
  rw[a1,a2,a3]at hR;simp only[ziK,cond_false,cond_true]at hR;refine xQ ?_;have hb1:=hb num (.ofNat fr.length);have hb2:=hb v vars;clear hb;generalize wg num (.ofNat fr.length)=c2 at *;generalize wg v vars=c5 at *;cases e1:eqD tk (.ofNat as.length)with
  |false=>refine xQ ?_;refine wB (r:=.ret) ?_;show Cv _ _;refine xW ?_;exact qm (by rw[←hR];simp only[*,ziC])
  |true=>
  cases c2 with
  |false=>refine xQ ?_;refine wB (r:=.ret) ?_;show Cv _ _;refine xW ?_;exact qm (by rw[←hR];simp only[*,ziE,ziC])
  |true=>
  cases e3:eqD fn (.ofNat 0)with
  |false=>refine xQ ?_;refine wB (r:=.ret) ?_;show Cv _ _;refine xW ?_;exact qm (by rw[←hR];simp only[*,ziE,ziC])
  |true=>
  by_cases e4:ks.length=1
  ·refine xQ ?_;refine wB (r:=.ret) ?_;show Cv _ _;refine xW ?_;exact qm (by rw[←hR];simp only[*,decide_true,yP])
  ·refine xQ ?_;refine wB (r:=.ret) ?_;show Cv _ _;refine xW ?_;exact qm (by rw[←hR];simp only[*,decide_false,ziE,ziC])
 |false=>
  rw[a1,a2,a3]at hR;simp only[ziK,cond_false]at hR;refine xQ ?_;have hb1:=hb num (.ofNat 1);have hb2:=hb v vars;clear hb;generalize wg num (.ofNat 1)=c2 at *;generalize wg v vars=c5 at *;cases e1:eqD tk (.ofNat as.length)with
  |false=>refine xQ ?_;refine wB (r:=.ret) ?_;show Cv _ _;refine xW ?_;exact qm (by rw[←hR];simp only[*,ziC])
  |true=>
  cases c2 with
  |false=>refine xQ ?_;refine wB (r:=.ret) ?_;show Cv _ _;refine xW ?_;exact qm (by rw[←hR];simp only[*,ziE,ziC])
  |true=>
  cases e3:eqD fn (.ofNat 0)with
  |false=>refine xQ ?_;refine wB (r:=.ret) ?_;show Cv _ _;refine xW ?_;exact qm (by rw[←hR];simp only[*,ziE,ziC])
  |true=>
  by_cases e4:ks.length=1
  ·refine xQ ?_;refine wB (r:=.ret) ?_;show Cv _ _;refine xW ?_;exact qm (by rw[←hR];simp only[*,decide_true,yP])
  ·refine xQ ?_;refine wB (r:=.ret) ?_;show Cv _ _;refine xW ?_;exact qm (by rw[←hR];simp only[*,decide_false,ziE,ziC])
end
def zzP(vars nc:Int)(a:Atm):Bool:= !((!eqD a.k (.ofNat 1)&& !eqD a.k (.ofNat 2))||((eqD a.k (.ofNat 1)&& !wg a.n vars)||(eqD a.k (.ofNat 2)&& !wg a.n nc)))
def fn0:Fn:=⟨[],false,false,[],.mk 0 0 0 0 0 [] []⟩
def kD(c:Cd)(n:Int):Fn:=c.fs.getD n.toNat fn0
def kv(c:Cd)(k v op num fn:Int)(na nk:Nat):Bool:=
 !((!eqD op (.ofNat 0)|| !eqD num (.ofNat 0))||((!eqD k (.ofNat 2)&& !eqD v (.ofNat 0))||((!eqD k (.ofNat 2)&& !eqD k (.ofNat 5))&& !eqD fn (.ofNat 0))))&&
 (bif eqD k (.ofNat 2)then (wg fn (.ofNat c.fs.length)&&(wg v c.vars&&decide (na=(kD c fn).fr.length)))&&decide (nk=1)
  else bif eqD k (.ofNat 3)then decide (na=1)&&decide (nk=2)
  else bif eqD k (.ofNat 4)then decide (1≤na)&&decide (nk=0)
  else bif eqD k (.ofNat 6)then decide (2≤na)&&decide (nk=0)
  else bif eqD k (.ofNat 5)then (wg fn (.ofNat c.fs.length)&&(!(kD c fn).rest&&decide (na=1+(kD c fn).ps.length)))&&decide (nk=0)
  else eqD k (.ofNat 7)&&(decide (na=0)&&decide (nk=0)))
def qN(c:Cd)(f:Fn)(t:Trm):Bool:=
 t.atoms.all (zzP c.vars (.ofNat c.consts.length))&&(bif eqD t.kind (.ofNat 1)then Zu c f t else kv c t.kind t.var t.op t.num t.fn t.atoms.length t.kids.length)
def zls(x:Cd×Fn×Trm):Prop:=(∀g∈x.1.fs,g.ps.length<1000000000)∧x.2.2.atoms.length<1000000000
noncomputable def G9:List AV→St→Option (AV×St):=vF uX zls (fun x=>.bool (qN x.1 x.2.1 x.2.2))
theorem ZO{l:List Fn}{i:Nat}{o:Fn}{r:List Fn}(hd:l.drop i=o::r):wH (i*11) (xP wo l)=wo o++xP wo r:=by
 rw[uD kV,hd];rfl
theorem kT{n:Int}{N:Nat}(h:wg n (.ofNat N)=true):∃j,n=.ofNat j∧j<N:=by
 simp only[wg,zq,Bool.not_eq_true']at h;obtain⟨j,rfl⟩:=UU h.1;refine⟨j,rfl,?_⟩;have:=h.2;simp only[ltD,decide_eq_true_eq]at this;exact Int.ofNat_lt.1 this
section
variable {P:Program}{w0:World}(B:Bx P w0){O:Orc}(hO:OrcOk P w0 O)
include B hO
attribute [local go_sem] uX vd gj ud wC wo xU qu ltF gtF in
theorem zuq(h118:O 118=some zyQ)(h66:O 66=some ph)(x:Cd×Fn×Trm)(hx:zls x):∃s1,SC P w0 89 (uX x) (s00 0 true) (.bool (qN x.1 x.2.1 x.2.2)) s1:=by
 refine be B hO f89 ?_;have hpr:=fun s=>oc h118 VJ x trivial (JV x) s;obtain⟨⟨fs,main,vars,globals,consts⟩,⟨ps,rest,cont,fr,b⟩,⟨k,v,op,num,fn,as,ks⟩⟩:=x;obtain⟨hps,hal⟩:=hx;have hb:=lV h66;simp only[Trm.atoms]at hps hal;obtain⟨R,hR⟩:∃R,qN ⟨fs,main,vars,globals,consts⟩ ⟨ps,rest,cont,fr,b⟩ (.mk k v op num fn as ks)=R:=⟨_,rfl⟩;rw[hR];simp only[qN,Trm.kind,Trm.op,Trm.atoms,Trm.num,Trm.fn,Trm.kids,Trm.var]at hR;generalize Zu ⟨fs,main,vars,globals,consts⟩ ⟨ps,rest,cont,fr,b⟩ (.mk k v op num fn as ks)=pr at *;obtain⟨bk,bv,bop,bn,bf,bas,bks⟩:=b;simp only[uX,vd,gj,ud,wC,wo,xU,qu]at hpr;unfold f89;simp only[Ko,Kg,Kn,Ki];refine xQ ?_;refine xR (xR (xO ?_));refine xT ?_;refine wx (fun i:Nat=>as.length-i) (fun i f t=>∃T L n m,f=⟨tmL T,[]⟩∧t=KL L n m true [] none∧(tmL T).get 3=some (.ptr 0 0)∧(tmL T).get 4=some (.ptr 1 0)∧(tmL T).get 5=some (.ptr 2 0)∧(tmL T).get 12=some (.lst as.length false (xP wn as))∧(tmL T).get 13=some (.int .i64 (.ofNat as.length))∧(tmL T).get 14=some (.int .i64 (.ofNat i))∧i≤as.length∧3≤n∧xN L 0=some (.row 25 [.lst fs.length false (xP wo fs),.int .i64 main,.int .i64 vars,.int .i64 globals,.lst consts.length false (wa consts)] false false)∧xN L 1=some (.row 46 [.lst ps.length false (xP wy ps),.bool rest,.bool cont,.lst fr.length false (xP wy fr),.int .i64 bk,.int .i64 bv,.int .i64 bop,.int .i64 bn,.int .i64 bf,.lst bas.length false (xP wn bas),.lst bks.length false (x7 bks)] false false)∧xN L 2=some (.row 44 [.int .i64 k,.int .i64 v,.int .i64 op,.int .i64 num,.int .i64 fn,.lst as.length false (xP wn as),.lst ks.length false (x7 ks)] false false)∧as.all (zzP vars (.ofNat consts.length))=(as.drop i).all (zzP vars (.ofNat consts.length))) (fun i f t hI=>?_) 0 ⟨_,_,3,_,rfl,rfl,sW,sW,sW,sW,sW,sW,zQ _,zu _,sW,sW,sW,rfl⟩;obtain⟨T,L,n,m,rfl,rfl,t3,t4,t5,t12,t13,t14,hi,hn,g0,g1,g2,hal2⟩:=hI;rcases wi as i with ⟨hi2,hd⟩|⟨a,hi2,hd⟩
 ·have hlt:¬i<as.length:=oM;rw[hd]at hal2;rw[hal2,show ([]:List Atm).all (zzP vars (.ofNat consts.length))=true from rfl,yP]at hR;clear hal2 hd;refine xO ?_;refine xQ ?_;by_cases k1:k=.ofNat 1
  ·subst k1;simp only[show eqD (.ofNat 1) (.ofNat 1)=true from rfl,cond_true]at hR;refine xO ?_;refine xW ?_;exact qm rfl
  by_cases k2:k=.ofNat 2
  ·subst k2;simp only[kv,show eqD (.ofNat 2) (.ofNat 1)=false from rfl,show eqD (.ofNat 2) (.ofNat 2)=true from rfl,show eqD (.ofNat 2) (.ofNat 3)=false from rfl,show eqD (.ofNat 2) (.ofNat 4)=false from rfl,show eqD (.ofNat 2) (.ofNat 5)=false from rfl,show eqD (.ofNat 2) (.ofNat 6)=false from rfl,show eqD (.ofNat 2) (.ofNat 7)=false from rfl,cond_true,cond_false,xE,ziD,ziC,Bool.false_or]at hR;cases a1:eqD op (.ofNat 0)with
   |false=>refine xO ?_;refine xW ?_;exact qm (by rw[←hR];simp only[*,ziC,ziI,ziK,xE,ziD])
   |true=>
   cases a2:eqD num (.ofNat 0)with
   |false=>refine xO ?_;refine xW ?_;exact qm (by rw[←hR];simp only[*,ziC,ziG,ziK,xE,ziD])
   |true=>
   have hb1:=hb fn (.ofNat fs.length);have hb2:=hb v vars;clear hb;cases c1:wg fn (.ofNat fs.length)with
   |false=>rw[c1]at hb1 hR;refine xO ?_;refine xW ?_;exact qm (by rw[←hR];simp only[*,ziE,ziC,ziF,xE,ziD])
   |true=>
   rw[c1]at hb1 hR;obtain⟨j,rfl,hj⟩:=kT c1;clear c1;cases c2:wg v vars with
   |false=>rw[c2]at hb2 hR;refine xO ?_;refine xW ?_;exact qm (by rw[←hR];simp only[*,ziE,ziC,ziF,xE,ziD])
   |true=>
   rw[c2]at hb2 hR;clear c2;have hdj:fs.drop j=fs[j]::fs.drop (j+1):=ziO hj;have hdr:=ZO hdj;have hg:kD ⟨fs,main,vars,globals,consts⟩ (.ofNat j)=fs[j]:=by
    show fs.getD j fn0=_;rw[xe,yH hj];rfl
   have hgl:=hps fs[j] (zi4 hj);rw[hg]at hR;clear hg hps hdj;generalize fs[j]=g at *;obtain⟨gps,grest,gcont,gfr,gb⟩:=g;obtain⟨gk,gv,gop,gn,gf,gas,gks⟩:=gb;simp only[wo,xU,qu,zM,ziQ]at hdr hgl hR;by_cases c3:as.length=gfr.length
   ·by_cases c4:ks.length=1
    ·refine xO ?_;refine xW ?_;exact qm (by rw[←hR];simp only[*,decide_true,xA,ziF,xE,ziD])
    ·refine xO ?_;refine xW ?_;exact qm (by rw[←hR];simp only[*,decide_true,decide_false,ziE,xA,ziF,xE,ziD])
   ·refine xO ?_;refine xW ?_;exact qm (by rw[←hR];simp only[*,decide_false,ziE,ziC,ziF,xE,ziD])
  by_cases k3:k=.ofNat 3
  ·subst k3;simp only[kv,show eqD (.ofNat 3) (.ofNat 1)=false from rfl,show eqD (.ofNat 3) (.ofNat 2)=false from rfl,show eqD (.ofNat 3) (.ofNat 3)=true from rfl,show eqD (.ofNat 3) (.ofNat 4)=false from rfl,show eqD (.ofNat 3) (.ofNat 5)=false from rfl,show eqD (.ofNat 3) (.ofNat 6)=false from rfl,show eqD (.ofNat 3) (.ofNat 7)=false from rfl,cond_true,cond_false,ziD,ziC,yP]at hR;cases a1:eqD op (.ofNat 0)with
   |false=>refine xO ?_;refine xW ?_;exact qm (by rw[←hR];simp only[*,ziC,ziI,xE,ziD])
   |true=>
   cases a2:eqD num (.ofNat 0)with
   |false=>refine xO ?_;refine xW ?_;exact qm (by rw[←hR];simp only[*,ziC,ziG,ziI,xE,ziD])
   |true=>
   cases a3:eqD v (.ofNat 0)with
   |false=>refine xO ?_;refine xW ?_;exact qm (by rw[←hR];simp only[*,ziC,ziG,ziI,ziF,xE,ziD])
   |true=>
   cases a4:eqD fn (.ofNat 0)with
   |false=>refine xO ?_;refine xW ?_;exact qm (by rw[←hR];simp only[*,ziC,ziG,ziF,xE,ziD])
   |true=>
   by_cases c1:as.length=1
   ·by_cases c2:ks.length=2
    ·refine xO ?_;refine xW ?_;exact qm (by rw[←hR];simp only[*,decide_true,xA,ziF,xE,ziD])
    ·refine xO ?_;refine xW ?_;exact qm (by rw[←hR];simp only[*,decide_true,decide_false,ziE,ziF,xE,ziD])
   ·refine xO ?_;refine xW ?_;exact qm (by rw[←hR];simp only[*,decide_false,ziE,ziC,ziF,xE,ziD])
  by_cases k4:k=.ofNat 4
  ·subst k4;simp only[kv,show eqD (.ofNat 4) (.ofNat 1)=false from rfl,show eqD (.ofNat 4) (.ofNat 2)=false from rfl,show eqD (.ofNat 4) (.ofNat 3)=false from rfl,show eqD (.ofNat 4) (.ofNat 4)=true from rfl,show eqD (.ofNat 4) (.ofNat 5)=false from rfl,show eqD (.ofNat 4) (.ofNat 6)=false from rfl,show eqD (.ofNat 4) (.ofNat 7)=false from rfl,cond_true,cond_false,ziD,ziC,yP]at hR;cases a1:eqD op (.ofNat 0)with
   |false=>refine xO ?_;refine xW ?_;exact qm (by rw[←hR];simp only[*,ziC,ziI,xE,ziD])
   |true=>
   cases a2:eqD num (.ofNat 0)with
   |false=>refine xO ?_;refine xW ?_;exact qm (by rw[←hR];simp only[*,ziC,ziG,ziI,xE,ziD])
   |true=>
   cases a3:eqD v (.ofNat 0)with
   |false=>refine xO ?_;refine xW ?_;exact qm (by rw[←hR];simp only[*,ziC,ziG,ziI,ziF,xE,ziD])
   |true=>
   cases a4:eqD fn (.ofNat 0)with
   |false=>refine xO ?_;refine xW ?_;exact qm (by rw[←hR];simp only[*,ziC,ziG,ziF,xE,ziD])
   |true=>
   by_cases c1:1≤as.length
   ·by_cases c2:ks.length=0
    ·refine xO ?_;refine xW ?_;exact qm (by rw[←hR];simp only[*,decide_true,xA,ziF,xE,ziD])
    ·refine xO ?_;refine xW ?_;exact qm (by rw[←hR];simp only[*,decide_true,decide_false,ziE,ziF,xE,ziD])
   ·refine xO ?_;refine xW ?_;exact qm (by rw[←hR];simp only[*,decide_false,ziE,ziC,ziF,xE,ziD])
  by_cases k5:k=.ofNat 5
  ·subst k5;simp only[kv,show eqD (.ofNat 5) (.ofNat 1)=false from rfl,show eqD (.ofNat 5) (.ofNat 2)=false from rfl,show eqD (.ofNat 5) (.ofNat 3)=false from rfl,show eqD (.ofNat 5) (.ofNat 4)=false from rfl,show eqD (.ofNat 5) (.ofNat 5)=true from rfl,show eqD (.ofNat 5) (.ofNat 6)=false from rfl,show eqD (.ofNat 5) (.ofNat 7)=false from rfl,cond_true,cond_false,xE,ziD,ziC,yP]at hR;cases a1:eqD op (.ofNat 0)with
   |false=>refine xO ?_;refine xW ?_;exact qm (by rw[←hR];simp only[*,ziC,ziI,ziK,xE,ziD])
   |true=>
   cases a2:eqD num (.ofNat 0)with
   |false=>refine xO ?_;refine xW ?_;exact qm (by rw[←hR];simp only[*,ziC,ziG,ziI,ziK,xE,ziD])
   |true=>
   cases a3:eqD v (.ofNat 0)with
   |false=>refine xO ?_;refine xW ?_;exact qm (by rw[←hR];simp only[*,ziC,ziG,ziK,ziF,xE,ziD])
   |true=>
   have hb1:=hb fn (.ofNat fs.length);clear hb;cases c1:wg fn (.ofNat fs.length)with
   |false=>rw[c1]at hb1 hR;refine xO ?_;refine xW ?_;exact qm (by rw[←hR];simp only[*,ziE,ziC,ziF,xE,ziD])
   |true=>
   rw[c1]at hb1 hR;obtain⟨j,rfl,hj⟩:=kT c1;clear c1;have hdj:fs.drop j=fs[j]::fs.drop (j+1):=ziO hj;have hdr:=ZO hdj;have hg:kD ⟨fs,main,vars,globals,consts⟩ (.ofNat j)=fs[j]:=by
    show fs.getD j fn0=_;rw[xe,yH hj];rfl
   have hgl:=hps fs[j] (zi4 hj);rw[hg]at hR;clear hg hps hdj;generalize fs[j]=g at *;obtain⟨gps,grest,gcont,gfr,gb⟩:=g;obtain⟨gk,gv,gop,gn,gf,gas,gks⟩:=gb;simp only[wo,xU,qu,zM,ziQ]at hdr hgl hR;cases grest with
   |true=>refine xO ?_;refine xW ?_;exact qm (by rw[←hR];simp only[*,ziE,ziC,ziF,xE,ziD])
   |false=>
   by_cases c3:as.length=1+gps.length
   ·by_cases c4:ks.length=0
    ·refine xO ?_;refine xW ?_;exact qm (by rw[←hR];simp only[*,decide_true,xA,ziF,xE,ziD])
    ·refine xO ?_;refine xW ?_;exact qm (by rw[←hR];simp only[*,decide_true,decide_false,ziE,xA,ziF,xE,ziD])
   ·refine xO ?_;refine xW ?_;exact qm (by rw[←hR];simp only[*,decide_false,ziE,ziC,ziF,xE,ziD])
  by_cases k6:k=.ofNat 6
  ·subst k6;simp only[kv,show eqD (.ofNat 6) (.ofNat 1)=false from rfl,show eqD (.ofNat 6) (.ofNat 2)=false from rfl,show eqD (.ofNat 6) (.ofNat 3)=false from rfl,show eqD (.ofNat 6) (.ofNat 4)=false from rfl,show eqD (.ofNat 6) (.ofNat 5)=false from rfl,show eqD (.ofNat 6) (.ofNat 6)=true from rfl,show eqD (.ofNat 6) (.ofNat 7)=false from rfl,cond_true,cond_false,ziD,ziC,yP]at hR;cases a1:eqD op (.ofNat 0)with
   |false=>refine xO ?_;refine xW ?_;exact qm (by rw[←hR];simp only[*,ziC,ziI,xE,ziD])
   |true=>
   cases a2:eqD num (.ofNat 0)with
   |false=>refine xO ?_;refine xW ?_;exact qm (by rw[←hR];simp only[*,ziC,ziG,ziI,xE,ziD])
   |true=>
   cases a3:eqD v (.ofNat 0)with
   |false=>refine xO ?_;refine xW ?_;exact qm (by rw[←hR];simp only[*,ziC,ziG,ziI,ziF,xE,ziD])
   |true=>
   cases a4:eqD fn (.ofNat 0)with
   |false=>refine xO ?_;refine xW ?_;exact qm (by rw[←hR];simp only[*,ziC,ziG,ziF,xE,ziD])
   |true=>
   by_cases c1:2≤as.length
   ·by_cases c2:ks.length=0
    ·refine xO ?_;refine xW ?_;exact qm (by rw[←hR];simp only[*,decide_true,xA,ziF,xE,ziD])
    ·refine xO ?_;refine xW ?_;exact qm (by rw[←hR];simp only[*,decide_true,decide_false,ziE,ziF,xE,ziD])
   ·refine xO ?_;refine xW ?_;exact qm (by rw[←hR];simp only[*,decide_false,ziE,ziC,ziF,xE,ziD])
  by_cases k7:k=.ofNat 7
  ·subst k7;simp only[kv,show eqD (.ofNat 7) (.ofNat 1)=false from rfl,show eqD (.ofNat 7) (.ofNat 2)=false from rfl,show eqD (.ofNat 7) (.ofNat 3)=false from rfl,show eqD (.ofNat 7) (.ofNat 4)=false from rfl,show eqD (.ofNat 7) (.ofNat 5)=false from rfl,show eqD (.ofNat 7) (.ofNat 6)=false from rfl,show eqD (.ofNat 7) (.ofNat 7)=true from rfl,cond_false,ziD,yP]at hR;cases a1:eqD op (.ofNat 0)with
   |false=>refine xO ?_;refine xW ?_;exact qm (by rw[←hR];simp only[*,ziC,ziI,xE,ziD])
   |true=>
   cases a2:eqD num (.ofNat 0)with
   |false=>refine xO ?_;refine xW ?_;exact qm (by rw[←hR];simp only[*,ziC,ziG,ziI,xE,ziD])
   |true=>
   cases a3:eqD v (.ofNat 0)with
   |false=>refine xO ?_;refine xW ?_;exact qm (by rw[←hR];simp only[*,ziC,ziG,ziI,ziF,xE,ziD])
   |true=>
   cases a4:eqD fn (.ofNat 0)with
   |false=>refine xO ?_;refine xW ?_;exact qm (by rw[←hR];simp only[*,ziC,ziG,ziF,xE,ziD])
   |true=>
   by_cases c1:as.length=0
   ·by_cases c2:ks.length=0
    ·refine xO ?_;refine xW ?_;exact qm (by rw[←hR];simp only[*,decide_true,xA,ziF,xE,ziD])
    ·refine xO ?_;refine xW ?_;exact qm (by rw[←hR];simp only[*,decide_true,decide_false,ziE,ziF,xE,ziD])
   ·refine xO ?_;refine xW ?_;exact qm (by rw[←hR];simp only[*,decide_false,ziE,ziC,ziF,xE,ziD])
  have e1:=qx k1;have e2:=qx k2;have e3:=qx k3;have e4:=qx k4;have e5:=qx k5;have e6:=qx k6;have e7:=qx k7;simp only[kv,e1,e2,e3,e4,e5,e6,e7,cond_false,ziC,ziE]at hR;subst hR;cases a1:eqD op (.ofNat 0)with
  |false=>refine xO ?_;refine xW ?_;exact w8 _ _
  |true=>
  cases a2:eqD num (.ofNat 0)with
  |false=>refine xO ?_;refine xW ?_;exact w8 _ _
  |true=>
  cases a3:eqD v (.ofNat 0)with
  |false=>refine xO ?_;refine xW ?_;exact w8 _ _
  |true=>
  cases a4:eqD fn (.ofNat 0)with
  |false=>refine xO ?_;refine xW ?_;exact w8 _ _
  |true=>
  refine xO ?_;refine xW ?_;exact w8 _ _
 ·have hc:=zye hd;rw[hd,ziB]at hal2;have hb1:=hb a.n vars;have hb2:=hb a.n (.ofNat consts.length);obtain⟨ak,an⟩:=a;simp only[zzP]at hal2;simp only at hc hb1 hb2;clear hb hpr;generalize wg an vars=b1 at *;generalize wg an (.ofNat consts.length)=b2 at *;cases e1:eqD ak (.ofNat 1)with
  | false=>
   cases e2:eqD ak (.ofNat 2)with
   |false=>refine xO ?_;refine xW ?_;exact qm (by rw[←hR,hal2];simp only[*,ziC,xA,ziK,ziF,xE,ziD])
   | true=>
    cases b2 with
    |false=>refine xO ?_;refine xW ?_;exact qm (by rw[←hR,hal2];simp only[*,ziE,ziC,xA,ziG,xE,ziD])
    | true=>
     (refine xO ?_
      exact⟨i+1,⟨_,_,n+1,_,rfl,rfl,sV,sV,sV,sV,sV,sV,oM,oM,by (repeat rw[xL,if_neg oM]);exact g0,by (repeat rw[xL,if_neg oM]);exact g1,by (repeat rw[xL,if_neg oM]);exact g2,(by rw[hal2];simp only[*,yP,ziE,ziC,ziF,xE,ziD])⟩,oM⟩)
  | true=>
   cases b1 with
   |false=>refine xO ?_;refine xW ?_;exact qm (by rw[←hR,hal2];simp only[*,ziC,xA,ziG,ziI,xE,ziD])
   | true=>
    cases e2:eqD ak (.ofNat 2)with
    | false=>
     (refine xO ?_
      exact⟨i+1,⟨_,_,n+1,_,rfl,rfl,sV,sV,sV,sV,sV,sV,oM,oM,by (repeat rw[xL,if_neg oM]);exact g0,by (repeat rw[xL,if_neg oM]);exact g1,by (repeat rw[xL,if_neg oM]);exact g2,(by rw[hal2];simp only[*,zi1,yP,ziE,ziC,ziF,xE,ziD])⟩,oM⟩)
    | true=>
     cases b2 with
     |false=>refine xO ?_;refine xW ?_;exact qm (by rw[←hR,hal2];simp only[*,ziE,ziC,xA,ziG,xE,ziD])
     | true=>
      (refine xO ?_
       exact⟨i+1,⟨_,_,n+1,_,rfl,rfl,sV,sV,sV,sV,sV,sV,oM,oM,by (repeat rw[xL,if_neg oM]);exact g0,by (repeat rw[xL,if_neg oM]);exact g1,by (repeat rw[xL,if_neg oM]);exact g2,(by rw[hal2];simp only[*,yP,ziE,xA,ziF,xE,ziD])⟩,oM⟩)
end
mutual
def qv(c:Cd)(f:Fn):Trm→Bool
 |.mk k v op n fn as ks=>qN c f (.mk k v op n fn as ks)&&qK c f ks
def qK(c:Cd)(f:Fn):List Trm→Bool
 |[]=>true
 |t::r=>qv c f t&&qK c f r
end
mutual
def SzT:Trm→Prop
 |.mk _ _ _ _ _ as ks=>as.length<1000000000∧ks.length<1000000000∧hZ ks
def hZ:List Trm→Prop
 |[]=>True
 |t::r=>SzT t∧hZ r
end
theorem zuX{c:Cd}{f:Fn}{t:Trm}(h:Zu c f t=true):t.kids.length=1:=by
 simp only[Zu,zq,decide_eq_true_eq]at h;exact h.2.2.2.1
theorem YA{c:Cd}{f:Fn}{t:Trm}(h:qN c f t=true):t.kids.length≤2:=by
 unfold qN at h;rw[zq]at h;have h2:=h.2;cases h1:eqD t.kind (.ofNat 1)with
 |true=>rw[h1]at h2;have:=zuX h2;omega
 | false=>
  rw[h1,cond_false]at h2;unfold kv at h2;rw[zq]at h2;have h3:=h2.2;have key:∀{a:Bool} {n:Nat},(a&&decide (t.kids.length=n))=true→t.kids.length=n:=fun h=>by
   rw[zq,decide_eq_true_eq]at h;exact h.2
  cases e2:eqD t.kind (.ofNat 2)with
  |true=>rw[e2,cond_true]at h3;have:=key h3;omega
  |false=>
  rw[e2,cond_false]at h3;cases e3:eqD t.kind (.ofNat 3)with
  |true=>rw[e3,cond_true]at h3;have:=key h3;omega
  |false=>
  rw[e3,cond_false]at h3;cases e4:eqD t.kind (.ofNat 4)with
  |true=>rw[e4,cond_true]at h3;have:=key h3;omega
  |false=>
  rw[e4,cond_false]at h3;cases e6:eqD t.kind (.ofNat 6)with
  |true=>rw[e6,cond_true]at h3;have:=key h3;omega
  |false=>
  rw[e6,cond_false]at h3;cases e5:eqD t.kind (.ofNat 5)with
  |true=>rw[e5,cond_true]at h3;have:=key h3;omega
  |false=>
  rw[e5,cond_false,zq]at h3;have:=key h3.2;omega
section
variable {O:Orc}{c:Cd}{f:Fn}
attribute [local go_sem] ltF gtF xZ x4 ziJ ziN ziM ziH wZ in
theorem zp7(h70:O 70=none)(h89:O 89=some G9)(hps:∀g∈c.fs,g.ps.length<1000000000):∀(k:Nat) (t:Trm),wJ t≤k→SzT t→∀(L:List (Nat×Option AObj)) (n m:Nat) (b:Bool),
  (evW env O).call 70 [vd c,gj f,ud t] (KL L n m b [] none)=some (.bool (qv c f t),KL L n m b [] none):=by
 intro k
 induction k with
 |zero=>intro t h;have:=ui t;omega
 | succ k ih=>
  intro t hk hsz L n m b;have key:Cv ((evW env O).call 70 [vd c,gj f,ud t] (KL L n m b [] none)) fun v t'=>v=.bool (qv c f t)∧t'=KL L n m b [] none:=by
   refine vB (F:=f70) h70 rfl rfl (ziw rfl) ?_;have hfo:=fun t h s=>oc h89 VJ (c,f,t) h (JV (c,f,t)) s;obtain⟨R,hR⟩:∃R,qv c f t=R:=⟨_,rfl⟩;rw[hR];have hcc:=gK c;have hcl:(wC c).length=5:=rfl;have hcs:wd (wC c)=true:=by simp only[wC,jx,lx,XM,XN,xA]
   have hfl:=kV f;have hfs:=Lo f;simp only[uX,vd,gj,ud]at hfo ih⊢;generalize wC c=cc at *;generalize wo f=ff at *;have hc5:wj 5 cc=some cc:=w6 hcl;have hf11:wj 11 ff=some ff:=w6 hfl;unfold f70;simp only[Ko,Kn,Kd,Ki];refine xQ ?_;refine xR (xT ?_);refine wx (fun x:Trm=>wJ x) (fun x f' t'=>∃T L2 m',f'=⟨tmL T,[]⟩∧t'=KL L2 (n+1+1+1) m' true [] none∧(tmL T).get 3=some (.ptr n 0)∧(tmL T).get 4=some (.ptr (n+1) 0)∧(tmL T).get 5=some (.ptr (n+1+1) 0)∧xN L2 n=some (.row 25 cc false false)∧xN L2 (n+1)=some (.row 46 ff false false)∧xN L2 (n+1+1)=some (vl x)∧m'%2^n=0∧wJ x≤k+1∧SzT x∧qv c f x=R) (fun x f' t' hI=>?_) t ⟨_,_,_,rfl,rfl,sW,sW,sW,sW,sW,by simp (disch:=first|exact dis|fail)only[go_sem,seval,-rO,-rN,vl],by simp,hk,hsz,hR⟩
   clear hR hsz hk;obtain⟨T,L2,m',rfl,rfl,t3,t4,t5,g0,g1,g2,hm,hk,hsz,hR⟩:=hI;obtain⟨tk,v,op,num,fn,as,ks⟩:=x;have hcall:=hfo (.mk tk v op num fn as ks) ⟨hps,hsz.1⟩;have hfl2:= @YA c f (.mk tk v op num fn as ks);simp only[qv]at hR;simp only[SzT]at hsz;simp only[Trm.kids]at hfl2;simp only[xU]at hcall;simp only[vl,xU]at g2;simp only[wJ]at hk;clear hfo;generalize qN c f (.mk tk v op num fn as ks)=bb at *;cases bb with
   |false=>
    rw[ziC]at hR;subst hR;refine xO ?_;refine xO ?_;refine xW ?_;exact⟨rfl,rfl⟩
   | true=>
    rw[yP]at hR;have hle:=hfl2 rfl;clear hfl2;rcases ks with _|⟨x,_|⟨y,_|⟨z,w⟩⟩⟩
    rotate_right
    ·exact absurd hle (by simp only[yb];omega)
    ·simp only[qK]at hR;subst hR;simp only[xz]at hcall g2;refine xQ ?_;refine xO ?_;refine xW ?_;exact⟨rfl,rfl⟩
    ·simp only[qK,zi1,qo,hZ,and_true]at hR hk hsz;have hc:wj 7 (x7 [x])=some (x3 x):=by rw[qi];exact vx (wu x)
     obtain⟨k2,v2,op2,num2,f2,as2,ks2⟩:=x;simp only[xU]at hc;simp only[yb,xz]at hcall g2;refine xQ ?_;refine xO ?_;refine⟨_,⟨_,_,_,rfl,rfl,sV,sV,sV,sV,sV,by simp (disch:=first|exact dis|fail)only[go_sem,seval,-rO,-rN,vl,xU],sV,oM,hsz.2.2,hR⟩,by simp only[wJ,qo];omega⟩
    ·simp only[qK,zi1,qo,hZ,and_true]at hR hk hsz;have hc:wj 7 (x7 [x,y])=some (x3 x):=by rw[qi];exact vx (wu x)
     have hc2:wj 7 (wH 7 (x7 [x,y]))=some (x3 y):=by
      simp only[qi,jz,ziA];rw[wY,zi7 (wu x)];exact w6 (wu y)
     have hpx:=ui x;have hih:=ih y oM hsz.2.2.2;generalize qv c f y=by_ at *;obtain⟨k2,v2,op2,num2,f2,as2,ks2⟩:=x;simp only[xU]at hc;simp only[yb,xz]at hcall g2;clear ih;cases by_ with
     |false=>
      rw[ziE]at hR;subst hR;refine xQ ?_;refine xO ?_;refine xW ?_;exact⟨rfl,rfl⟩
     |true=>
      rw[zi1]at hR;refine xQ ?_;refine xO ?_;refine⟨_,⟨_,_,_,rfl,rfl,sV,sV,sV,sV,sV,by simp (disch:=first|exact dis|fail)only[go_sem,seval,-rO,-rN,vl,xU],sV,oM,hsz.2.2.1,hR⟩,by simp only[wJ,qo];omega⟩
  obtain⟨v,t',h,rfl,rfl⟩:=key;exact h
end
section
variable {O:Orc}
attribute [local go_sem] ztE ztg WB in
theorem zn1(h88:O 88=none)(k:Nat)(hk:k<10000000000)(L:List (Nat×Option AObj))(n m:Nat)(b:Bool):
  (evW env O).call 88 [.nils,.int .i64 (.ofNat (k+1))] (KL L n m b [] none)=some (.sl n 0 0 (.opn 1),KL ((n,some (.row 3 (reps (k+1) [.int .i64 (.ofNat 0)]) true false))::L) (n+1) m b [] none):=by
 have key:Cv ((evW env O).call 88 [.nils,.int .i64 (.ofNat (k+1))] (KL L n m b [] none)) fun v t=>v=.sl n 0 0 (.opn 1)∧t=KL ((n,some (.row 3 (reps (k+1) [.int .i64 (.ofNat 0)]) true false))::L) (n+1) m b [] none:=by
  refine qb (F:=f88) h88 rfl rfl (ziw rfl) ?_;have s1:QG 1 .nils none (some (.int .i64 (.ofNat 0))) none=some .nils:=rfl;have s2:QG 1 (.sl n 0 (k+1) (.opn 1)) none (some (.int .i64 (.ofNat 0))) none=some (.sl n 0 0 (.opn 1)):=rfl;have s3:Yb (KL L n m false [] none) 3 1 8 [.int .i64 (.ofNat 0)] .nils (.int .i64 (.ofNat (k+1)))=some (.sl n 0 (k+1) (.opn 1),KL ((n,some (.row 3 (reps (k+1) [.int .i64 (.ofNat 0)]) true false))::L) (n+1) m false [] none):=by
   have e1:(Nat.ble (Nat.mul (Nat.succ k) 8) 281474976710656&&Nat.blt k 9223372036854775807)=true:=by
    rw[x9.2 (by show (k+1)*8≤_;omega),wK.2 oM];rfl
   have e2:(Nat.ble (Nat.mul (Nat.mul 2 (Nat.succ k)) 8) 281474976710656&&Nat.ble 1 1&&Nat.blt (Nat.succ k) 9223372036854775808)=true:=by
    rw[x9.2 (by show 2*(k+1)*8≤_;omega),wK.2 (by show k+1<_;omega)];rfl
   unfold Yb;simp only[e1,cond_true,pM,WD,ziC,cond_false,grow,e2];rfl
  generalize reps (k+1) [AV.int .i64 (.ofNat 0)]=zs at *;unfold f88;simp only[Ko,Kn,Ki];refine xO ?_;refine xW ?_;exact⟨rfl,rfl⟩
 obtain⟨v,t',h,rfl,rfl⟩:=key;exact h
attribute [local go_sem] ztE ztg WB in
theorem zr5(h88:O 88=none)(L:List (Nat×Option AObj))(n m:Nat)(b:Bool):
  (evW env O).call 88 [.nils,.int .i64 (.ofNat 0)] (KL L n m b [] none)=some (.nils,KL L n m b [] none):=by
 have key:Cv ((evW env O).call 88 [.nils,.int .i64 (.ofNat 0)] (KL L n m b [] none)) fun v t=>v=.nils∧t=KL L n m b [] none:=by
  refine qb (F:=f88) h88 rfl rfl (ziw rfl) ?_;unfold f88;simp only[Ko,Kn,Ki];refine xO ?_;refine xW ?_;exact⟨rfl,rfl⟩
 obtain⟨v,t',h,rfl,rfl⟩:=key;exact h
theorem ztX{L:List (Nat×Option AObj)}{n m id:Nat}{a b:List Int}{z:List AV}(g:xN L id=some (.row 3 (xP wy a++z) true false))(hz:b.length≤z.length):Cv (jg (KL L n m false [] none) 3 1 8 (.sl id 0 a.length (.opn 1)) (.lst b.length false (xP wy b))) fun v t=>v=.sl id 0 (a++b).length (.opn 1)∧∃L2 m2,t=KL L2 n m2 false [] none∧xN L2 id=some (.row 3 (xP wy (a++b)++z.drop b.length) true false)∧∀j,j≠id→xN L2 j=xN L j:=by
 cases b with
 |nil=>exact⟨_,_,rfl,by rw[ziA],L,m,rfl,by rw[ziA];exact g,fun _ _=>rfl⟩
 | cons x r=>
  have hl:∀l:List Int,(xP wy l).length=l.length:=fun l=>by rw[vu kQ];exact xC _
  have h1:qC (KL L n m false [] none) 1 (r.length+1) (.lst (r.length+1) false (xP wy (x::r)))=some (xP wy (x::r)):=by
   show wj ((r.length+1)*1) _=_;exact w6 (by rw[hl,yb,xC])
  have hp:ur (xP wy a++z) (0+a.length*1) (xP wy (x::r))=some (xP wy a++(xP wy (x::r)++z.drop (x::r).length)):=by
   have:=K3 (a:=xP wy a) (b:=z.take (x::r).length) (c:=z.drop (x::r).length) (v:=xP wy (x::r)) (off:=0+a.length*1) (by rw[hl];omega) (by rw[hl,List.length_take];omega)
   rwa [List.take_append_drop]at this
  have hst:=zxp (KL L n m false [] none) id (0+a.length*1) (xP wy (x::r)) 3 _ _ true (by rw[wh];exact g) (Yy Vo _) hp
  rw[jC]at hst;have e1:Nat.ble (Nat.add 0 (Nat.mul (Nat.add a.length (Nat.succ r.length)) 1)) (qg (xP wy a++z))=true:=by
   rw[x9,wV,yA,hl];simp only[yb]at hz;show 0+(a.length+(r.length+1))*1≤_;omega
  have happ:jg (KL L n m false [] none) 3 1 8 (.sl id 0 a.length (.opn 1)) (.lst (x::r).length false (xP wy (x::r)))=some (.sl id 0 (a.length+(r.length+1)) (.opn 1),KL ((id,some (.row 3 (xP wy a++(xP wy (x::r)++z.drop (x::r).length)) true false))::L) n (u0 m id) false [] none):=by
   unfold jg;simp only[j6,yb];rw[h1];simp only[pM,wh,g];have e2:(Nat.beq 1 1&&true&& !false)=true:=rfl;rw[e2,cond_true,e1,cond_true];show (match jc (KL L n m false [] none) (.ptr id (0+a.length*1)) (xP wy (x::r))with
    |some s'=>some (AV.sl id 0 (Nat.add a.length (Nat.succ r.length)) (.opn 1),s')
    |none=>none)=_
   rw[hst];rfl
  refine⟨_,_,happ,by rw[yA,yb],_,_,rfl,?_,fun j hj=>by rw[xL,if_neg hj]⟩
  rw[xS,wQ,ziV]
def two(a b:List Int):Nat→Nat
 |0=>0
 |1=>a.length
 |_=>a.length+b.length
def QE(a b:List Int):Nat→List Int
 |0=>[]
 |1=>a
 |_=>a++b
theorem zvK(h68:O 68=none)(h88:O 88=none){a b:List Int}(ha:a.length<1000000000)(hb:b.length<1000000000){L:List (Nat×Option AObj)}{m:Nat}:
  Cv ((evW env O).call 68 [.lst 2 true [qu a,qu b]] (KL L n m true [] none)) fun v t=>∃i2 L2 n2 m2,v=gSl 1 i2 (a++b).length∧t=KL L2 n2 m2 true [] none∧(a++b≠[]→i2<n2∧xN L2 i2=some (.row 3 (xP wy (a++b)) true false))∧n≤n2∧∀j,j<n→xN L2 j=xN L j:=by
 refine qb (F:=f68) h68 rfl rfl (ziw rfl) ?_;unfold f68;simp only[Ko,Kn,Ki];have hc0:wj 1 (wH 0 [qu a,qu b])=some [qu a]:=rfl;have hc1:wj 1 (wH 1 [qu a,qu b])=some [qu b]:=rfl;simp only[qu]at hc0 hc1⊢;refine xQ ?_;refine xQ ?_;refine xR (xR (xO ?_));refine xT ?_;refine wx (fun i:Nat=>2-i) (fun i f t=>∃T,f=⟨tmL T,[]⟩∧t=KL L n m false [] none∧(tmL T).get 0=some (.lst 2 true [.lst a.length false (xP wy a),.lst b.length false (xP wy b)])∧(tmL T).get 3=some (.int .i64 (.ofNat (two a b i)))∧(tmL T).get 9=some (.lst 2 true [.lst a.length false (xP wy a),.lst b.length false (xP wy b)])∧(tmL T).get 10=some (.int .i64 (.ofNat 2))∧(tmL T).get 11=some (.int .i64 (.ofNat i))∧i≤2) (fun i f t hI=>?_) 0 ⟨_,rfl,rfl,sW,by simp (disch:=first|exact dis|fail)only[go_sem,seval,-rO,-rN,two],sW,sW,sW,zQ _⟩
 obtain⟨T,rfl,rfl,t0,t3,t9,t10,t11,hi⟩:=hI
 match i,hi with
 |0,_=>
  simp only[two]at t3;refine xO ?_;refine⟨1,⟨_,rfl,trivial,sV,by simp (disch:=first|exact dis|fail)only[go_sem,seval,-rO,-rN,two],sV,sV,sV,oM⟩,oM⟩
 |1,_=>
  simp only[two]at t3;refine xO ?_;refine⟨2,⟨_,rfl,trivial,sV,by simp (disch:=first|exact dis|fail)only[go_sem,seval,-rO,-rN,two],sV,sV,sV,oM⟩,oM⟩
 | 2,_=>
  simp only[two]at t3;rcases Nat.eq_zero_or_pos (a.length+b.length)with h0|h0
  ·have ha0:a=[]:=yF oM;have hb0:b=[]:=yF oM;subst ha0 hb0;have hg:=zr5 h88 L n m false;simp only[xz,Nat.add_zero,xP]at t0 t3 t9 hc0 hc1;have happ:∀s,jg s 3 1 8 .nils (.lst 0 false [])=some (.nils,s):=fun _=>rfl;refine xO ?_;refine xQ ?_;refine xR (xR (xO ?_));refine xT ?_;refine wx (fun i:Nat=>2-i) (fun i f t=>∃T,f=⟨tmL T,[]⟩∧t=KL L n m false [] none∧(tmL T).get 6=some .nils∧(tmL T).get 25=some (.lst 2 true [.lst 0 false [],.lst 0 false []])∧(tmL T).get 26=some (.int .i64 (.ofNat 2))∧(tmL T).get 27=some (.int .i64 (.ofNat i))∧i≤2) (fun i f t hI=>?_) 0 ⟨_,rfl,rfl,sW,sW,sW,sW,zQ _⟩;obtain⟨T,rfl,rfl,t6,t9,t10,t11,hi⟩:=hI
   match i,hi with
   |0,_=>
    refine xO ?_;refine⟨1,⟨_,rfl,trivial,sV,sV,sV,sV,oM⟩,oM⟩
   |1,_=>
    refine xO ?_;refine⟨2,⟨_,rfl,trivial,sV,sV,sV,sV,oM⟩,oM⟩
   |2,_=>
    refine xO ?_;refine xO ?_;refine xW ?_;exact⟨n,L,n,m,rfl,rfl,fun h=>absurd rfl h,zu _,fun _ _=>rfl⟩
  ·obtain⟨k,hk⟩:∃k,a.length+b.length=k+1:=⟨a.length+b.length-1,oM⟩;have hg:=zn1 h88 k oM L n m false;rw[hk]at t3;refine xO ?_;refine xQ ?_;refine xR (xR (xO ?_));refine xT ?_;refine wx (fun i:Nat=>2-i) (fun i f t=>∃T L2 m2 z,f=⟨tmL T,[]⟩∧t=KL L2 (n+1) m2 false [] none∧(tmL T).get 6=some (.sl n 0 (QE a b i).length (.opn 1))∧(tmL T).get 25=some (.lst 2 true [.lst a.length false (xP wy a),.lst b.length false (xP wy b)])∧(tmL T).get 26=some (.int .i64 (.ofNat 2))∧(tmL T).get 27=some (.int .i64 (.ofNat i))∧i≤2∧xN L2 n=some (.row 3 (xP wy (QE a b i)++z) true false)∧(QE a b i).length+z.length=a.length+b.length∧∀j,j<n→xN L2 j=xN L j) (fun i f t hI=>?_) 0 ⟨_,_,_,reps (k+1) [.int .i64 (.ofNat 0)],rfl,rfl,by simp (disch:=first|exact dis|fail)only[go_sem,seval,-rO,-rN,QE],sW,sW,sW,zQ _,by rw[xS];rfl,?_,fun j hj=>by rw[xL,if_neg oM]⟩
   ·clear hg;obtain⟨T,L2,m2,z,rfl,rfl,t6,t9,t10,t11,hi,gr,hz,hfr⟩:=hI
    match i,hi with
    |0,_=>
     simp only[QE,xz,xP,ziQ,yO]at t6 gr hz;have hap:=fun m=> @ztX L2 (n+1) m n [] a z gr oM;simp only[xz,ziQ]at hap;refine xQ ?_;refine xR (qW sW ?_);refine xO ?_;refine xR (xT ?_);refine xQ ?_;refine qt ?_;refine wc (hap _) fun v t hv=>?_;obtain⟨rfl,L3,m3,rfl,g3,hf3⟩:=hv;clear hap gr;refine xO ?_;refine xO ?_;refine⟨1,⟨_,_,_,z.drop a.length,rfl,rfl,by simp (disch:=first|exact dis|fail)only[go_sem,seval,-rO,-rN, *,QE],sV,sV,sV,oM,g3,by simp only[QE,List.length_drop];omega,fun j hj=>by rw[hf3 j oM];exact hfr j hj⟩,oM⟩
    |1,_=>
     simp only[QE]at t6 gr hz;have hap:=fun m=> @ztX L2 (n+1) m n a b z gr oM;refine xQ ?_;refine xR (qW sW ?_);refine xO ?_;refine xR (xT ?_);refine xQ ?_;refine qt ?_;refine wc (hap _) fun v t hv=>?_;obtain⟨rfl,L3,m3,rfl,g3,hf3⟩:=hv;clear hap gr;refine xO ?_;refine xO ?_;refine⟨2,⟨_,_,_,z.drop b.length,rfl,rfl,by simp (disch:=first|exact dis|fail)only[go_sem,seval,-rO,-rN, *,QE],sV,sV,sV,oM,g3,by simp only[QE,List.length_drop,yA];omega,fun j hj=>by rw[hf3 j oM];exact hfr j hj⟩,oM⟩
    |2,_=>
     simp only[QE,yA]at t6 gr hz;have hz0:z=[]:=yF oM;subst hz0;rw[ziA]at gr;refine xO ?_;refine xO ?_;refine xW ?_;refine⟨n,L2,n+1,m2,?_,rfl,fun _=>⟨yc _,gr⟩,zha _,hfr⟩;rw[yA,hk];rfl
   ·simp only[QE,xz,yO];rw[Zx];simp only[yb,xz];omega
end
section
variable {O:Orc}
attribute [local go_sem] ltF gtF in
theorem zvk(h69:O 69=none)(h66:O 66=some ph){L:List (Nat×Option AObj)}{p:Nat}{a0 a1 a3 a4:AV}{vars:Int}(g:xN L p=some (.row 25 [a0,a1,.int .i64 vars,a3,a4] false false))(v:Int)(n m:Nat)(b:Bool):
  (evW env O).call 69 [.int .i64 v,.ptr p 0] (KL L n m b [] none)=some (.bool (!wg v vars),KL L n m b [] none):=by
 have hb:=fun a b s=>lV h66 a b s;have key:Cv ((evW env O).call 69 [.int .i64 v,.ptr p 0] (KL L n m b [] none)) fun r t=>r=.bool (!wg v vars)∧t=KL L n m b [] none:=by
  refine vB (F:=f69) h69 rfl rfl (ziw rfl) ?_;unfold f69;simp only[Ko];refine xO ?_;refine xW ?_;exact⟨rfl,rfl⟩
 obtain⟨r,t,h,rfl,rfl⟩:=key;exact h
def Jl(vars:Int):List Int→Nat→Int
 |[],_=>.negSucc 0
 |x::r,i=>bif wg x vars then Jl vars r (i+1)else .ofNat i
theorem zwg(vars:Int):∀(l:List Int) (i:Nat),(!ltD (Jl vars l i) (.ofNat 0))= !l.all fun x=>wg x vars
 |[],_=>rfl
 |x::r,i=>by
  simp only[Jl,ziB];cases wg x vars with
  |true=>simp only[cond_true,yP];exact zwg vars r (i+1)
  |false=>simp[ltD]
attribute [local go_sem] ltF gtF in
theorem zqd(h69:O 69=none)(h66:O 66=some ph)(h87:O 87=none){L:List (Nat×Option AObj)}{p:Nat}{a0 a1 a3 a4:AV}{vars:Int}(g:xN L p=some (.row 25 [a0,a1,.int .i64 vars,a3,a4] false false)){l:List Int}(hl:l.length<10000000000)(gl:l≠[]→xN L id=some (.row 3 (xP wy l) true false))(n m:Nat)(b:Bool):
  (evW env O).call 87 [gSl 1 id l.length,.fn 69 [] [.ptr p 0]] (KL L n m b [] none)=some (.int .i64 (Jl vars l 0),KL L n m b [] none):=by
 have hc:=fun v n m b=>zvk h69 h66 g v n m b;have key:Cv ((evW env O).call 87 [gSl 1 id l.length,.fn 69 [] [.ptr p 0]] (KL L n m b [] none)) fun r t=>r=.int .i64 (Jl vars l 0)∧t=KL L n m b [] none:=by
  refine vB (F:=f87) h87 rfl rfl (ziw rfl) ?_;unfold f87;simp only[Ko,Ki];have hsc:=uE 1 id l.length;have hvl:=fun s=>wP s 1 id l.length;obtain⟨R,hR⟩:∃R,Jl vars l 0=R:=⟨_,rfl⟩;rw[hR];refine xQ ?_;refine xR (xR (xO ?_));refine xT ?_;refine wx (fun i:Nat=>l.length-i) (fun i f t=>∃T,f=⟨tmL T,[]⟩∧t=KL L n 0 true [] none∧(tmL T).get 0=some (gSl 1 id l.length)∧(tmL T).get 1=some (.fn 69 [] [.ptr p 0])∧(tmL T).get 7=some (.int .i64 (.ofNat l.length))∧(tmL T).get 8=some (.int .i64 (.ofNat i))∧i≤l.length∧Jl vars (l.drop i) i=R) (fun i f t hI=>?_) 0 ⟨_,rfl,rfl,sW,sW,sV,sW,zQ _,hR⟩;clear hR;obtain⟨T,rfl,rfl,t0,t1,t7,t8,hi,hR⟩:=hI;rcases wi l i with ⟨hlt,hd⟩|⟨x,hlt,hd⟩
  ·rw[hd]at hR;simp only[Jl]at hR;subst hR;have:¬i<l.length:=oM;refine xO ?_;refine xO ?_;refine xW ?_;exact⟨rfl,rfl⟩
  ·rw[hd]at hR;simp only[Jl]at hR;have gl:=gl (fun h=>by subst h;simp at hlt)
   have hia:= @YD 1 id l.length i hlt;have hcut:=l7 hd;have hcx:=fun n m b=>hc x n m b;clear hc;generalize wg x vars=bb at *;cases bb with
   |true=>
    rw[cond_true]at hR;refine xO ?_;refine⟨i+1,⟨_,rfl,trivial,sV,sV,sV,sV,oM,hR⟩,oM⟩
   |false=>
    rw[cond_false]at hR;subst hR;refine xO ?_;refine xW ?_;exact⟨rfl,rfl⟩
 obtain⟨r,t,h,rfl,rfl⟩:=key;exact h
end
section
variable {O:Orc}
theorem Lz(h67:O 67=none)(h69:O 69=none)(h66:O 66=some ph)(h87:O 87=none){L:List (Nat×Option AObj)}{p:Nat}{a0 a1 a3 a4:AV}{vars:Int}(g:xN L p=some (.row 25 [a0,a1,.int .i64 vars,a3,a4] false false)){l:List Int}(hl:l.length<10000000000)(gl:l≠[]→xN L id=some (.row 3 (xP wy l) true false))(n m:Nat)(b:Bool):
  (evW env O).call 67 [gSl 1 id l.length,.fn 69 [] [.ptr p 0]] (KL L n m b [] none)=some (.bool (!l.all fun x=>wg x vars),KL L n m b [] none):=by
 have hc:=fun n m b=>zqd h69 h66 h87 g hl gl n m b;have key:Cv ((evW env O).call 67 [gSl 1 id l.length,.fn 69 [] [.ptr p 0]] (KL L n m b [] none)) fun r t=>r=.bool (!ltD (Jl vars l 0) (.ofNat 0))∧t=KL L n m b [] none:=by
  refine vB (F:=f67) h67 rfl rfl (ziw rfl) ?_;unfold f67;simp only[Ko,Ki];refine xO ?_;refine xW ?_;exact⟨rfl,rfl⟩
 rw[zwg]at key;obtain⟨r,t,h,rfl,rfl⟩:=key;exact h
end
def wFn(c:Cd)(f:Fn):Bool:= !(f.rest&&decide (f.ps.length=0))&&((f.ps++f.fr).all (fun x=>wg x c.vars)&&qv c f f.b)
def zva(c:Cd):Bool:=wg c.main (.ofNat c.fs.length)&&(decide ((kD c c.main).ps.length+(kD c c.main).fr.length=0)&& !(kD c c.main).rest)
def je(c:Cd):Bool:=zva c&&c.fs.all (wFn c)
structure CdSz(c:Cd):Prop where
 n:c.fs.length<100000000
 f:∀f∈c.fs,f.ps.length<1000000000∧f.fr.length<1000000000∧SzT f.b
def qI(c:Cd):List AV:=[vd c]
section
variable {P:Program}{w0:World}(B:Bx P w0){O:Orc}(hO:OrcOk P w0 O)
include B hO
attribute [local go_sem] ltF gtF xZ x4 ziJ ziN ziM ziH wZ in
theorem zoz(h70:O 70=none)(h89:O 89=some G9)(h66:O 66=some ph)(h67:O 67=none)(h68:O 68=none)(h69:O 69=none)(h87:O 87=none)(h88:O 88=none)(c:Cd)(hc:CdSz c):∃s1,SC P w0 46 (qI c) (s00 0 true) (.bool (je c)) s1:=by
 refine be B hO f46 ?_;have hb:=fun a b s=>lV h66 a b s;have hterms:=fun f t hs=>zp7 h70 h89 (fun g hg=>(hc.f g hg).1) (wJ t) (f:=f) t (zu _) hs;have hN:=hc.n;have hfs:=hc.f;unfold f46;simp only[qI,vd,gj,ud]at hterms⊢;obtain⟨R,hR⟩:∃R,je c=R:=⟨_,rfl⟩;rw[hR];unfold je zva at hR;have hcu:=fun i f r h=> @X4 c.fs i f r h;obtain⟨fs,main,vars,globals,consts⟩:=c;simp only[wC]at hterms hN hfs hR hcu⊢;have hbm:=hb main (.ofNat fs.length);cases b0:wg main (.ofNat fs.length)with
 |false=>
  rw[b0]at hR hbm;simp only[ziC]at hR;subst hR;clear hb hterms;refine xQ ?_;refine xO ?_;refine xW ?_;exact w8 _ _
 | true =>
  rw[b0]at hR hbm;obtain⟨j,rfl,hj⟩:=kT b0;clear b0;have hcfs:fs.length<10000000000:=oM;have hpost:∀(R':Bool),R'=R→fs.all (wFn ⟨fs,.ofNat j,vars,globals,consts⟩)=R→True:=fun _ _ _=>trivial;have hrun:(decide ((kD ⟨fs,.ofNat j,vars,globals,consts⟩ (.ofNat j)).ps.length+(kD ⟨fs,.ofNat j,vars,globals,consts⟩ (.ofNat j)).fr.length=0)&& !(kD ⟨fs,.ofNat j,vars,globals,consts⟩ (.ofNat j)).rest)=true→fs.all (wFn ⟨fs,.ofNat j,vars,globals,consts⟩)=R:=fun h=>by
   rw[h]at hR;simpa using hR
  have hdj:fs.drop j=fs[j]::fs.drop (j+1):=ziO hj;have hdr:=ZO hdj;have hgl:=hfs fs[j] (zi4 hj);have hg:kD ⟨fs,.ofNat j,vars,globals,consts⟩ (.ofNat j)=fs[j]:=by
   show fs.getD j fn0=_;rw[xe,yH hj];rfl
  rw[hg]at hR hrun;clear hg hdj hpost;generalize fs[j]=g at hdr hgl hR hrun;obtain⟨gps,grest,gcont,gfr,gb⟩:=g;obtain⟨gk,gv,gop,gn,gf,gas,gks⟩:=gb;simp only[wo,xU,qu,zM,ziQ]at hdr hgl hR hrun;have hg1:=hgl.1;have hg2:=hgl.2.1;clear hgl;by_cases h0:gps.length+gfr.length=0
  ·cases grest with
   |true=>
    simp only[h0,xE,ziE,ziC]at hR;subst hR;clear hterms hb hrun hfs hcu;refine xQ ?_;refine xO ?_;refine xW ?_;exact w8 _ _
   | false=>
    have hR:=hrun (by rw[h0];rfl)
    clear hrun;have hb':=fun(P:True→Prop)=>hb;clear hb;refine xQ ?_;refine xQ ?_;refine xR (xR (xO ?_));refine xT ?_;clear hdr hbm h0 hg1 hg2;refine wx (fun i:Nat=>fs.length-i) (fun i f t=>∃T L n m,f=⟨tmL T,[]⟩∧t=KL L n m true [] none∧(tmL T).get 1=some (.ptr 0 0)∧(tmL T).get 42=some (.lst fs.length false (xP wo fs))∧(tmL T).get 43=some (.int .i64 (.ofNat fs.length))∧(tmL T).get 44=some (.int .i64 (.ofNat i))∧i≤fs.length∧xN L 0=some (.row 25 [.lst fs.length false (xP wo fs),.int .i64 (.ofNat j),.int .i64 vars,.int .i64 globals,.lst consts.length false (wa consts)] false false)∧0<n∧(fs.drop i).all (wFn ⟨fs,.ofNat j,vars,globals,consts⟩)=R) (fun i f t hI=>?_) 0 ⟨_,_,_,_,rfl,rfl,sW,sW,sW,sW,zQ _,by rw[xS],oM,hR⟩
    clear hR;obtain⟨T,L,n,m,rfl,rfl,t1,t42,t43,t44,hi,g0,hn,hR⟩:=hI;rcases wi fs i with ⟨hlt,hd⟩|⟨g,hlt,hd⟩
    ·rw[hd,List.all_nil]at hR;subst hR;have:¬i<fs.length:=oM;clear hcu hterms hfs hb';refine xO ?_;refine xO ?_;refine xW ?_;exact w8 _ _
    ·rw [hd,ziB]at hR;have hcg:=hcu i g _ hd;have hgs:=hfs g (ziT (by rw[hd];exact zi0))
     have htg:=fun L n m b=>hterms g g.b hgs.2.2 L n m b;clear hcu hterms;obtain⟨fr',hfr'⟩:∃x,fs.drop (i+1)=x:=⟨_,rfl⟩;rw[hfr']at hR hd;clear hd hfs;obtain⟨gps,grest,gcont,gfr,gb⟩:=g;obtain⟨gk,gv,gop,gn,gf,gas,gks⟩:=gb;simp only[wFn,wo,xU,qu]at hcg htg hR hgs;have hg1:=hgs.1;have hg2:=hgs.2.1;clear hgs;have hstep:((fr'.all (wFn ⟨fs,.ofNat j,vars,globals,consts⟩))=R)→True:=fun _=>trivial;by_cases hr:(grest&&decide (gps.length=0))=true
     ·rw[hr]at hR;simp only[xE,ziC]at hR;subst hR;simp only[zq,decide_eq_true_eq]at hr;obtain⟨rfl,hp0⟩:=hr;clear htg hb' hstep;refine xO ?_;refine xW ?_;exact w8 _ _
     ·have hr':(grest&&decide (gps.length=0))=false:=by simpa using hr
      rw[hr']at hR;simp only[ziD,yP]at hR;have hgp:grest=false∨(grest=true∧¬gps.length=0):=by
       cases grest with
       |false=>exact .inl rfl
       |true=>exact .inr ⟨rfl,by simpa using hr⟩
      clear hr hr' hstep hb';generalize qv ⟨fs,.ofNat j,vars,globals,consts⟩ ⟨gps,grest,gcont,gfr,.mk gk gv gop gn gf gas gks⟩ (.mk gk gv gop gn gf gas gks)=Y at htg hR;rcases hgp with rfl|⟨rfl,hp0⟩
      all_goals (
       refine xQ ?_;refine xR (qW sW ?_);refine xO ?_;refine xR (xT ?_);refine xQ ?_;refine xR ?_;refine qt ?_;refine wc (zvK h68 h88 hg1 hg2) fun v t hv=>?_;obtain⟨i2,L3,n3,m3,rfl,rfl,q1,q2,q3⟩:=hv;have g03:xN L3 0=some (.row 25 [.lst fs.length false (xP wo fs),.int .i64 (.ofNat j),.int .i64 vars,.int .i64 globals,.lst consts.length false (wa consts)] false false):=by
        rw[q3 0 oM]
        repeat (rw[xL,if_neg oM])
        exact g0
       have gf3:=q3 n oM;rw[xS]at gf3;have hcon:=fun n m b=>Lz h67 h69 h66 h87 g03 (l:=gps++gfr) (by rw[yA];omega) (fun h=>(q1 h).2) n m b
       clear q1 q3;generalize (gps++gfr).all (fun x=>wg x vars)=A at *;generalize gSl 1 i2 (gps++gfr).length=X at *;cases A with
       |false=>
        rw[ziC,ziC]at hR;subst hR;clear htg;refine xO ?_;refine xO ?_;refine xW ?_;exact w8 _ _
       | true=>
        cases Y with
        |false=>
         rw[ziE,ziC]at hR;subst hR;refine xO ?_;refine xO ?_;refine xW ?_;exact w8 _ _
        |true=>
         rw[yP,yP]at hR;refine xO ?_;refine xO ?_;refine xO ?_;exact⟨i+1,⟨_,_,_,_,rfl,rfl,sV,sV,sV,sV,oM,g03,oM,by rw[hfr'];exact hR⟩,oM⟩)
  ·rw[decide_eq_false h0]at hR;simp only[ziC,ziE]at hR;subst hR;have h0':0<gps.length+gfr.length:=oM;clear hterms hb hrun hfs hcu;refine xQ ?_;refine xO ?_;refine xW ?_;exact w8 _ _
end
def Hv(v:Int)(met:List Int):Option (List Int):=if v∈met then none else some (met++[v])
mutual
def U8:Trm→List Int→Option (List Int)
 |.mk k v op n f as ks,met=>(bif vX k then Hv v met else some met).bind (Y8 ks)
def Y8:List Trm→List Int→Option (List Int)
 |[],met=>some met
 |x::r,met=>(Y8 r met).bind (U8 x)
end
mutual
def Qo:Trm→Prop
 |.mk _ _ _ _ _ _ ks=>ks.length≤2∧Y2 ks
def Y2:List Trm→Prop
 |[]=>True
 |x::r=>Qo x∧Y2 r
end
section
variable {O:Orc}
attribute [local go_sem] kh Yg lj li kO XD ltF gtF xZ x4 ziJ ziN ziM ziH wZ in
theorem zse(h47:O 47=none)(h71:O 71=some pi):∀(k:Nat) (t:Trm),wJ t≤k→SzT t→Qo t→∀(L:List (Nat×Option AObj)) (n m id:Nat) (met:List Int),WfA L n→xN L id=some (.umap (uS met))→
  Cv ((evW env O).call 47 [ud t,.map id] (KL L n m false [] none)) fun v s=>∃L2 n2 m2,s=KL L2 n2 m2 false [] none∧n≤n2∧WfA L2 n2∧(∀j,j<n→j≠id→xN L2 j=xN L j)∧((U8 t met=none∧v=.bool false)∨∃met2,U8 t met=some met2∧v=.bool true∧xN L2 id=some (.umap (uS met2))):=by
 intro k
 induction k with
 |zero=>intro t h;have:=ui t;omega
 | succ k ih=>
  intro t hk hsz hk2 L n m id met hw hid;refine qb (F:=f47) h47 rfl rfl (ziw rfl) ?_;have hbi:=fun t s=>oc h71 VL t trivial (J2 t) s;have hidn:=hw.lt hid;obtain⟨R,hR⟩:∃R,U8 t met=R:=⟨_,rfl⟩;rw[hR];simp only[jY,ud]at hbi ih⊢;unfold f47;simp only[Ko,Kn,Ki];have hl7:=w6 (wu t);have hc7:=jy t;refine xQ ?_;refine xT ?_;refine wx (fun x:Trm×List Int=>wJ x.1) (fun x f t'=>∃T L2 n2 m',f=⟨tmL T,[]⟩∧t'=KL L2 n2 m' false [] none∧(tmL T).get 1=some (.map id)∧(tmL T).get 2=some (.ptr n 0)∧n+1≤n2∧WfA L2 n2∧xN L2 n=some (vl x.1)∧xN L2 id=some (.umap (uS x.2))∧wJ x.1≤k+1∧SzT x.1∧Qo x.1∧U8 x.1 x.2=R∧∀j,j<n→j≠id→xN L2 j=xN L j) (fun x f t' hI=>?_) (t,met) ⟨_,_,_,_,rfl,rfl,sW,sW,oM,?_,?_,?_,hk,hsz,hk2,hR,fun j h1 h2=>?_⟩
  ·clear hR hsz hk hk2 hl7 hc7 hid hw t met;obtain⟨T,L2,n2,m',rfl,rfl,t1,t2,hn2,hw,g0,gid,hk,hsz,hk2,hR,hfr⟩:=hI;obtain⟨⟨tk,v,op,num,fn,as,ks⟩,met⟩:=x;simp only at g0 gid hk hsz hk2 hR⊢;have hcall:=fun s=>hbi (.mk tk v op num fn as ks) s;simp only[xU,Trm.kind]at hcall;simp only[U8]at hR;simp only[SzT]at hsz;simp only[Qo]at hk2;simp only[vl,xU]at g0;simp only[wJ]at hk;clear hbi;generalize vX tk=bb at *;refine xT ?_;refine vM (fun f t'=>∃T L3 n3 m3 met3,f=⟨tmL T,[]⟩∧t'=KL L3 n3 m3 false [] none∧(tmL T).get 1=some (.map id)∧(tmL T).get 2=some (.ptr n 0)∧n+1≤n3∧WfA L3 n3∧xN L3 n=some (.row 44 [.int .i64 tk,.int .i64 v,.int .i64 op,.int .i64 num,.int .i64 fn,.lst as.length false (xP wn as),.lst ks.length false (x7 ks)] false false)∧xN L3 id=some (.umap (uS met3))∧Y8 ks met3=R∧∀j,j<n→j≠id→xN L3 j=xN L j) ?_ fun f t' hI=>?_
   ·cases bb with
    |false=>
     rw[cond_false,ziP]at hR;refine xO ?_;exact⟨_,_,_,_,met,rfl,rfl,sV,sV,hn2,hw,g0,gid,hR,hfr⟩
    | true=>
     rw[cond_true]at hR;by_cases hv:v∈met
     ·have hgu:=gP hv;simp only[Hv,if_pos hv,ziX]at hR;refine xO ?_;refine xW ?_;subst hR;refine⟨_,_,_,rfl,?_,?_,fun j h1 h2=>?_,.inl ⟨rfl,rfl⟩⟩
      ·omega
      ·(repeat first|exact hw.up oM|refine WfA.same ?_ oM)
      ·(repeat (rw[xL,if_neg oM]));exact hfr j h1 h2
     ·have hgu:=kp hv;have hsu:=lO hv;simp only[Hv,if_neg hv,ziP]at hR;refine xO ?_;refine⟨_,_,_,_,met++[v],rfl,rfl,sV,sV,oM,?_,?_,?_,hR,fun j h1 h2=>?_⟩
      ·(repeat first|exact hw.up oM|refine WfA.same ?_ oM)
      ·(repeat (rw[xL,if_neg oM]));exact g0
      ·(repeat first|exact xS _ _ _|rw[xL,if_neg oM])
      ·(repeat (rw[xL,if_neg oM]));exact hfr j h1 h2
   ·clear hR gid g0 hfr hw hn2 hcall t1 t2;clear met T L2 n2 m';obtain⟨T,L2,n2,m',met,rfl,rfl,t1,t2,hn2,hw,g0,gid,hR,hfr⟩:=hI;rcases ks with _|⟨x,_|⟨y,_|⟨z,w⟩⟩⟩
    rotate_right
    ·have:=hk2.1;simp only[yb]at this;omega
    ·simp only[Y8]at hR;subst hR;simp only[xz]at g0;refine xO ?_;refine xW ?_;exact⟨_,_,_,rfl,oM,hw,hfr,.inr ⟨met,rfl,rfl,gid⟩⟩
    ·simp only[Y8,ziP,qo,hZ,Y2,and_true]at hR hk hsz hk2;have hc:wj 7 (x7 [x])=some (x3 x):=by rw[qi];exact vx (wu x)
     obtain⟨k2,v2,op2,num2,f2,as2,ks2⟩:=x;simp only[xU]at hc;simp only[yb,xz]at g0;refine xQ ?_;refine xO ?_;refine⟨(_,met),⟨_,_,_,_,rfl,rfl,sV,sV,oM,?_,?_,?_,by simp only;omega,hsz.2.2,hk2.2,hR,fun j h1 h2=>?_⟩,by simp only[wJ,qo];omega⟩
     ·exact WfA.same hw oM
     ·rw[xS];simp only[vl,xU]
     ·rw[xL,if_neg oM];exact gid
     ·rw[xL,if_neg oM];exact hfr j h1 h2
    ·simp only[Y8,ziP,qo,hZ,Y2,and_true]at hR hk hsz hk2;have hc:wj 7 (x7 [x,y])=some (x3 x):=by rw[qi];exact vx (wu x)
     have hc2:wj 7 (wH 7 (x7 [x,y]))=some (x3 y):=by
      simp only[qi,jz,ziA];rw[wY,zi7 (wu x)];exact w6 (wu y)
     have hpx:=ui x;have hih:=fun m=>ih y oM hsz.2.2.2 hk2.2.2 L2 n2 m id met hw gid;obtain⟨k2,v2,op2,num2,f2,as2,ks2⟩:=x;simp only[xU]at hc;simp only[yb,xz]at g0;clear ih;refine xR ?_;refine xQ ?_;refine xT ?_;refine xQ ?_;refine ve sW ?_;refine xQ ?_;refine qW sW ?_;refine xR ?_;refine qt ?_;refine wc (hih _) fun v t hv=>?_;obtain⟨L3,n3,m3,rfl,q1,q2,q3,⟨e1,rfl⟩|⟨met2,e1,rfl,q4⟩⟩:=hv
     ·rw[e1,ziX]at hR;subst hR;clear hih;refine xO ?_;refine xO ?_;refine xW ?_;exact⟨_,_,_,rfl,oM,q2,fun j h1 h2=>by rw[q3 j oM h2];exact hfr j h1 h2,.inl ⟨trivial,rfl⟩⟩
     ·rw[e1,ziP]at hR;have g3:=(q3 n oM oM).trans g0;clear hih;refine xO ?_;refine xO ?_;refine xO ?_;refine⟨(_,met2),⟨_,_,_,_,rfl,rfl,sV,sV,oM,?_,?_,?_,by simp only;omega,hsz.2.2.1,hk2.2.1,hR,fun j h1 h2=>?_⟩,by simp only[wJ,qo];omega⟩
      ·exact WfA.same q2 oM
      ·rw[xS];simp only[vl,xU]
      ·rw[xL,if_neg oM];exact q4
      ·rw[xL,if_neg oM,q3 j oM h2];exact hfr j h1 h2
  ·(repeat first|exact hw.up oM|refine WfA.same ?_ oM)
  ·(repeat first|exact xS _ _ _|rw[xL,if_neg oM])
  ·(repeat (rw[xL,if_neg oM]));exact hid
  ·(repeat (rw[xL,if_neg oM]))
end
def Qf:List Int→List Int→Option (List Int)
 |[],met=>some met
 |v::r,met=>(Hv v met).bind (Qf r)
def lm:List Fn→List Int→Option (List Int)
 |[],met=>some met
 |f::r,met=>((Qf f.ps met).bind (U8 f.b)).bind (lm r)
def pE(c:Cd):Bool:=(lm c.fs []).isSome
def Gx(c:Cd):Prop:=c.fs.length<100000000∧∀f∈c.fs,f.ps.length<1000000000∧SzT f.b∧Qo f.b
theorem vJ:∀x y,qI x=qI y→x=y:=fun _ _ h=>JW (by simpa [qI]using h)
theorem uC(c:Cd):wkL (qI c)=qI c:=by simp only[qI,wkL,LL]
theorem jX(c:Cd):xY (qI c)=true:=by simp only[qI,vd,wp,vw,gK,wA,xA]
noncomputable def zrV:List AV→St→Option (AV×St):=vF qI Gx (fun c=>.bool (pE c))
noncomputable def zrZ:List AV→St→Option (AV×St):=vF qI CdSz (fun c=>.bool (je c))
section
variable {P:Program}{w0:World}(B:Bx P w0){O:Orc}(hO:OrcOk P w0 O)
include B hO
attribute [local go_sem] kh Yg lj li kO XD QO ltF gtF xZ x4 ziJ ziN ziM ziH wZ in
theorem zmy(h47:O 47=none)(h71:O 71=some pi)(c:Cd)(hc:Gx c):∃s1,SC P w0 31 (qI c) (s00 0 true) (.bool (pE c)) s1:=by
 refine bew B hO f31 ?_;have hbd:=fun t hs hk=>zse h47 h71 (wJ t) t (zu _) hs hk;obtain⟨R,hR⟩:∃R,pE c=R:=⟨_,rfl⟩;rw[hR];unfold pE at hR;obtain⟨fs,main,vars,globals,consts⟩:=c;obtain⟨hN,hf⟩:=hc;simp only at hN hf hR;unfold f31;simp only[qI,vd,wC,ud]at hbd⊢;refine xQ ?_;refine xQ ?_;refine xR (xR (xO ?_));refine xT ?_;refine wx (fun x:Nat×List Int=>fs.length-x.1) (fun x f t=>∃T L n m,f=⟨tmL T,[]⟩∧t=KL L n m false [] none∧(tmL T).get 3=some (.map 1)∧(tmL T).get 12=some (.lst fs.length false (xP wo fs))∧(tmL T).get 13=some (.int .i64 (.ofNat fs.length))∧(tmL T).get 14=some (.int .i64 (.ofNat x.1))∧x.1≤fs.length∧WfA L n∧2≤n∧xN L 1=some (.umap (uS x.2))∧(lm (fs.drop x.1) x.2).isSome=R) (fun x f t hI=>?_) (0,[]) ⟨_,_,_,_,rfl,rfl,sW,sW,sW,sW,zQ _,?_,?_,?_,hR⟩
 ·clear hR;obtain⟨T,L,n,m,rfl,rfl,t3,t12,t13,t14,hi,hw,hn,g1,hR⟩:=hI;obtain⟨i,met⟩:=x;simp only at t14 hi g1 hR⊢;rcases wi fs i with ⟨hlt,hd⟩|⟨g,hlt,hd⟩
  ·rw[hd]at hR;simp only[lm,Option.isSome_some]at hR;subst hR;have:¬i<fs.length:=oM;refine xO ?_;refine xO ?_;refine xW ?_;exact w8 _ _
  ·have hcg:=X4 hd;rw[hd]at hR;have hgf:=hf g (ziT (by rw[hd];exact zi0))
   have hbg:=hbd g.b hgf.2.1 hgf.2.2;simp only[lm]at hR;obtain⟨gps,grest,gcont,gfr,gb⟩:=g;obtain⟨gk,gv,gop,gn,gf,gas,gks⟩:=gb;simp only[wo,xU,qu]at hcg hbg hR hgf;have hg1:=hgf.1;clear hgf hd hbd;refine xQ ?_;refine xR (qW sW ?_);refine xO ?_;refine xR (xT ?_);refine xQ ?_;refine xR (xR (xO ?_));refine xT ?_;refine wx (fun x:Nat×List Int=>gps.length-x.1) (fun x f t=>∃T L2 n2 m2,f=⟨tmL T,[]⟩∧t=KL L2 n2 m2 false [] none∧(tmL T).get 3=some (.map 1)∧(tmL T).get 5=some (.ptr n 0)∧(tmL T).get 12=some (.lst fs.length false (xP wo fs))∧(tmL T).get 13=some (.int .i64 (.ofNat fs.length))∧(tmL T).get 14=some (.int .i64 (.ofNat i))∧(tmL T).get 19=some (.lst gps.length false (xP wy gps))∧(tmL T).get 20=some (.int .i64 (.ofNat gps.length))∧(tmL T).get 21=some (.int .i64 (.ofNat x.1))∧x.1≤gps.length∧WfA L2 n2∧n+1≤n2∧xN L2 1=some (.umap (uS x.2))∧xN L2 n=some (.row 46 [.lst gps.length false (xP wy gps),.bool grest,.bool gcont,.lst gfr.length false (xP wy gfr),.int .i64 gk,.int .i64 gv,.int .i64 gop,.int .i64 gn,.int .i64 gf,.lst gas.length false (xP wn gas),.lst gks.length false (x7 gks)] false false)∧(((Qf (gps.drop x.1) x.2).bind (U8 (.mk gk gv gop gn gf gas gks))).bind (lm (fs.drop (i+1)))).isSome=R) (fun x f t hI=>?_) (0,met) ⟨_,_,_,_,rfl,rfl,sV,sV,sV,sV,sV,sV,sV,sV,zQ _,?_,?_,?_,?_,hR⟩
   ·have hn0:2≤n:=hn;clear hR g1 hn hw t3 t12 t13 t14 met T hcg;obtain⟨T,L2,n2,m2,rfl,rfl,t3,t5,t12,t13,t14,t19,t20,t21,hj,hw,hn,g1,gn',hR⟩:=hI;obtain⟨j,met⟩:=x;simp only at t21 hj g1 hR⊢;rcases wi gps j with ⟨hlt2,hd2⟩|⟨v,hlt2,hd2⟩
    ·rw[hd2]at hR;simp only[Qf,ziP]at hR;have hb2:=fun m=>hbg L2 n2 m 1 met hw g1;have:¬j<gps.length:=oM;clear hbg;refine xO ?_;refine xR ?_;refine qt ?_;refine wc (hb2 _) fun v t hv=>?_;obtain⟨L3,n3,m3,rfl,q1,q2,q3,⟨e1,rfl⟩|⟨met2,e1,rfl,q4⟩⟩:=hv
     ·rw[e1]at hR;simp only[ziX,zi9]at hR;subst hR;clear hb2;refine xO ?_;refine xO ?_;refine xW ?_;exact w8 _ _
     ·rw[e1,ziP]at hR;clear hb2;refine xO ?_;refine xO ?_;refine xO ?_;exact⟨(i+1,met2),⟨_,_,_,_,rfl,rfl,sV,sV,sV,sV,by simp only;omega,q2,oM,q4,hR⟩,by simp only;omega⟩
    ·rw[hd2]at hR;simp only[Qf]at hR;have hcv:=l7 hd2;clear hbg;by_cases hv:v∈met
     ·have hgu:=gP hv;simp only[Hv,if_pos hv,ziX,zi9]at hR;subst hR;refine xO ?_;refine xW ?_;exact w8 _ _
     ·have hgu:=kp hv;have hsu:=lO hv;have hne:¬1=n2:=oM;simp only[Hv,if_neg hv,ziP]at hR;refine xO ?_;refine⟨(j+1,met++[v]),⟨_,_,_,_,rfl,rfl,sV,sV,sV,sV,sV,sV,sV,sV,by simp only;omega,?_,?_,?_,?_,hR⟩,by simp only;omega⟩
      ·(repeat first|exact hw.up oM|refine WfA.same ?_ oM)
      ·omega
      ·(repeat first|exact xS _ _ _|rw[xL,if_neg oM])
      ·(repeat (rw[xL,if_neg oM]));exact gn'
   ·(repeat first|exact hw.up oM|refine WfA.same ?_ oM)
   ·omega
   ·(repeat (rw[xL,if_neg oM]));exact g1
   ·(repeat first|exact xS _ _ _|rw[xL,if_neg oM])
 ·intro j hj
  (repeat (rw[xL,if_neg oM]))
  rfl
 ·omega
 ·rw[xS];rfl
end
end Go.Proofs.YtbddpjboppmnfaaGreatDoor.Ev

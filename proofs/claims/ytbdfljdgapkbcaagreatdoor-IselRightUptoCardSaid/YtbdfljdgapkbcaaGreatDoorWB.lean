/- Contracts of functions that IselRight calls: what a call answers, for all data, by symbolic evaluation. No conditions of its own. -/
import Derived.Test.YtbdfljdgapkbcaaGreatDoorWA
import Derived.Test.YtbdfljdgapkbcaaGreatDoorEvH
import Derived.Test.YtbdfljdgapkbcaaGreatDoorEvG
set_option linter.unusedSimpArgs false
set_option linter.unusedVariables false
set_option linter.defProp false
set_option maxHeartbeats 4000000
set_option linter.unusedSectionVars false
open Bool renaming false_and → ziL, not_false → ziM, not_true → xo, and_false → ziN, or_self → ziO, and_self → xe, true_and → yD, or_true → ziP, cond_self → ziQ, true_or → ziR, or_false → ziT, and_eq_true → zl, and_true → zha
open List renaming getD_eq_getElem?_getD → yU, length_cons → zU, getElem?_eq_getElem → yv, mem_of_getElem? → y7, length_nil → xd, length_append → yl, map_cons → zv, mem_cons → ziU, append_nil → ziJ, drop_eq_getElem_cons → ziX, cons_append → zG, eq_nil_of_length_eq_zero → yr, mem_singleton → zQ, nil_append → ziZ, nodup_cons → zi0, getElem?_of_mem → zi1, mem_of_mem_drop → zi2, length_set → zi3, append_assoc → zi4, getElem?_inj → zi5, getElem?_eq_none → yb, getElem?_set_ne → zi7, mem_append → zi8, mem_cons_self → zi9, getElem?_set → zhb, getElem_mem → zhd, mem_map → zhe, getElem?_replicate → zhf, drop_left' → zhg, mem_cons_of_mem → yR, all_cons → ziK, length → y8
open Nat renaming le_refl → zo, le_of_ble_eq_true → ziF, zero_mod → ziS, or_zero → ziV, zero_le → zK, zero_or → ziW, le_trans → zr, lt_succ_self → zV, testBit_or → yG, zero_add → yC, le_succ → zhi, mul_one → xi
open Option renaming bind_some → ziY, bind_none → zi6, isSome_none → zhh
open Classical renaming choose → zhc
namespace Go.Proofs.YtbdfljdgapkbcaaGreatDoor.Ev
variable {P:Program}{w0:World}{O:Orc}{s s':St}{v:AV}{tm:Trie AV}{b:List Nat}{id n esz bytes:Nat}{o:AObj}
open T
set_option maxRecDepth 100000
theorem be(B:Bx P w0)(hO:OrcOk P w0 O){f:Nat}(F:IFunc){args:List AV}(h:Ev (evC env (evW env O) none F.body ⟨wq (tmL []) 0 args,[]⟩ (KL [] 0 0 true [] none)) fun r fr t=>Cv (Z2 (KL [] 0 0 true [] none) (wL env.globs F.res (some (r,fr,t)))) fun v0 s1=>Fz s1 v0 v)(hF:env.funs.get f=some F:=by exact rfl)(hp:env.pure f=true:=by exact rfl)(ha:args.length≤F.ntmps:=by exact Nat.le_of_ble_eq_true rfl):∃s1,SC P w0 f args (s00 0 true) v s1:=
 PE hO B.mixed B.glob B.env (cvF hF hp ha h)
theorem w7(s:St)(b:Bool):Fz s (.bool b) (.bool b):=by simp only[Fz,wkV]
theorem wU(s:St)(k:IntKind)(n:Int):Fz s (.int k n) (.int k n):=by simp only[Fz,wkV]
theorem zrx(s:St)(l:List Nat):Fz s (.str l) (.str l):=by simp only[Fz,wkV]
theorem oc{f:Nat}{α:Type}{enc:α→List AV}{Pre:α→Prop}{F:α→AV}(h:O f=some (vr enc Pre F))(inj:∀x y,enc x=enc y→x=y)(x:α)(hp:Pre x){args:List AV}(ha:wkL args=enc x)(s:St):(evW env O).call f args s=some (F x,s):=by
 rw[wx h,qH inj s x hp ha]
theorem Yp{e:Bool}{cs ds:List AV}(hp:xN ds=true)(h:wkL cs=ds):Fz s (.lst n e cs) (.lst n false ds):=by
 simp only[Fz,wkV,h];exact⟨hp,.inl trivial⟩
theorem l9:Fz s .nils (.lst 0 false []):=by simp only[Fz,wkV,x6,true_and];exact .inl trivial
theorem ji:FzL s [] []:=by simp only[FzL]
theorem wB{u w:AV}{us ws:List AV}(h:Fz s u w)(t:FzL s us ws):FzL s (u::us) (w::ws):=by
 simp only[FzL];exact⟨u,us,rfl,h,t⟩
theorem zyo{us ws:List AV}(h:FzL s us ws):Fz s (.agg us) (.agg ws):=by simp only[Fz];exact⟨us,rfl,h⟩
theorem bew(B:Bx P w0)(hO:OrcOk P w0 O){f:Nat}(F:IFunc){args:List AV}(h:Ev (evC env (evW env O) none F.body ⟨wq (tmL []) 0 args,[]⟩ (KL [] 0 0 false [] none)) fun r fr t=>Cv (mdR true (wL env.globs F.res (some (r,fr,t)))) fun v0 s1=>Fz s1 v0 v)(hF:env.funs.get f=some F:=by exact rfl)(hp:env.pure f=false:=by exact rfl)(ha:args.length≤F.ntmps:=by exact Nat.le_of_ble_eq_true rfl):∃s1,SC P w0 f args (s00 0 true) v s1:=
 PE hO B.mixed B.glob B.env (zij hF hp ha h)
def WfA(L:List (Nat×Option AObj))(n:Nat):Prop:=∀j,n≤j→xD L j=none
theorem WfA.cons{L:List (Nat×Option AObj)}{n' i:Nat}{o:Option AObj}(h:WfA L n)(hi:i<n')(hn:n≤n'):WfA ((i,o)::L) n':=fun j hj=>by
 rw[xr,if_neg oM];exact h j oM
theorem WfA.lt{L:List (Nat×Option AObj)}{j:Nat}(h:WfA L n)(hg:xD L j=some o):j<n:=Nat.lt_of_not_le fun hle=>by rw[h j hle]at hg;cases hg
theorem WfA.same{L:List (Nat×Option AObj)}{i:Nat}{o:Option AObj}(h:WfA L n)(hi:i<n):WfA ((i,o)::L) n:=h.cons hi (zo _)
theorem WfA.up{L:List (Nat×Option AObj)}{n':Nat}(h:WfA L n)(hn:n≤n'):WfA L n':=fun j hj=>h j (zr hn hj)
def gSl(esz id:Nat):Nat→AV
 |0=>.nils
 |k+1=>.sl id 0 (k+1) (.opn esz)
def GAt{α:Type}(t:Nat)(f:α→List AV)(L:List (Nat×Option AObj))(lo n id:Nat)(l:List α):Prop:=l≠[]→lo≤id∧id<n∧xD L id=some (.row t (xA f l) true false)
theorem jj(esz id k:Nat):q8 (gSl esz id k)=true:=by cases k<;>rfl
theorem znF(esz id k:Nat):uJ (gSl esz id k)=some k:=by cases k<;>rfl
theorem GAt.ext{α:Type}{t:Nat}{f:α→List AV}{L L2:List (Nat×Option AObj)}{lo lo2 n2:Nat}{l:List α}(h:GAt t f L lo n id l)(hlo:lo2≤lo)(hn:n≤n2)(hfr:∀j,lo≤j→j<n→xD L2 j=xD L j):GAt t f L2 lo2 n2 id l:=fun hne=>by
 obtain⟨h1,h2,h3⟩:=h hne;exact⟨oM,oM,by rw[hfr id h1 h2];exact h3⟩
theorem ww(s:St)(esz id k:Nat):QD s .v (gSl esz id k)=some (.int .i64 (.ofNat k)):=by cases k<;>rfl
theorem Gy{l:List DT}{i:Nat}{o:DT}{r:List DT}(hd:l.drop i=o::r):xV 5 (wl (i*5) (xA wR l))=some (wR o):=by
 rw[uf qT,hd];simp only[xA];exact qI (qT o)
theorem X1{esz id k i:Nat}(h:i<k):vIa esz (gSl esz id k) (.int .i64 (.ofNat i))=some (.ptr id (i*esz)):=by
 cases k with
 |zero=>omega
 |succ k=>simp only[gSl,vIa,Uq .i64 h];simp
theorem xG(i:Nat)(o:Option AObj)(r:List (Nat×Option AObj)):xD ((i,o)::r) i=o:=by rw[xr,if_pos rfl]
theorem uv{G:List (List AV)}{res:List RV}{L:List (Nat×Option AObj)}{m d:Nat}{b:Bool}(h:xD L d=some .dfd):wL G res (some (.ret,⟨tm,[d]⟩,KL L n m b [] none))=YE G tm (KL ((d,some .dfd0)::L) n (uG m d) b [] none) res:=by
 have:wZ (KL L n m b [] none) [d]=some (KL ((d,some .dfd0)::L) n (uG m d) b [] none):=by
  simp only[wZ,x5,h,uX]
 unfold wL;simp only[this]
theorem zrd{fr:Fr}{l d:Nat}{U:Option (AV×St)}{R:AV→St→Prop}{Q:Res→Fr→St→Prop}(hc:Cv U R)(h:∀v t,R v t→Ev (gQ fr l d (some (v,t))) Q):Ev (gQ fr l d U) Q:=by
 obtain⟨v,t,rfl,q⟩:=hc;exact h v t q
def i3:Nat→Int
 |0=>.negSucc 0
 |k+1=>.ofNat k
theorem Wu{k:Nat}(h:k<1000000000001):qJ .i64 (Int.sub (.ofNat k) (.ofNat 1))=i3 k:=by
 cases k with
 |zero=>rfl
 |succ k=>rw[Wt oM,gq oM];rfl
section
variable {E:Env}{O:Orc}{rd:Option Nat}{ia ib:ICode}{c:Opd}{tm:Trie AV}{df:List Nat}{s:St}{Q:Res→Fr→St→Prop}
theorem x4(hc:c.ev tm=some (.bool true))(q:Ev (evC E (evW E O) rd ia ⟨tm,df⟩ s) Q):Ev (evC E (evW E O) rd (.cond c ia ib) ⟨tm,df⟩ s) Q:=by rw[V4,hc,zxq];exact q
theorem x7(hc:c.ev tm=some (.bool false))(q:Ev (evC E (evW E O) rd ib ⟨tm,df⟩ s) Q):Ev (evC E (evW E O) rd (.cond c ia ib) ⟨tm,df⟩ s) Q:=by rw[V4,hc,zxp];exact q
end
section
variable {E:Env}{O:Orc}{rd:Option Nat}{fr:Fr}{s:St}{Q:Res→Fr→St→Prop}{I:Fr→St→Prop}{ia ib ic id ik:ICode}
theorem zzm(h:∀f t,I f t→Ev (evC E (evW E O) rd ik f t) Q):∀r f t,wH I Q r f t→wH (fun f t=>Ev (evC E (evW E O) rd ik f t) Q) Q r f t:=fun r f t q=>by
 cases r with
 |norm=>exact h f t q
 |exit i=>exact q
 |ret=>exact q
theorem lp(I:Fr→St→Prop)(h:Ev (evC E (evW E O) rd ia fr s) (wH I Q))(h2:∀f t,I f t→Ev (evC E (evW E O) rd ik f t) Q):Ev (evC E (evW E O) rd (.seq ia ik) fr s) Q:=
 xz (h.mono (zzm h2))
end
structure Atm where
 k:Int
 n:Int
inductive Trm where
 |mk (k v op n f:Int) (az:List Atm) (ks:List Trm)
structure Fn where
 ps:List Int
 rest:Bool
 cont:Bool
 fr:List Int
 b:Trm
structure Cd where
 fs:List Fn
 main:Int
 vars:Int
 globals:Int
 consts:List DT
def xL(n:Int):List AV:=[.int .i64 n]
def qp(a:Atm):List AV:=[.int .i64 a.k,.int .i64 a.n]
def qW(l:List Int):AV:=.lst l.length false (xA xL l)
mutual
def wy:Trm→List AV
 |.mk k v op n f az ks=>[.int .i64 k,.int .i64 v,.int .i64 op,.int .i64 n,.int .i64 f,.lst az.length false (xA qp az),.lst ks.length false (wc ks)]
def wc:List Trm→List AV
 |[]=>[]
 |t::r=>wy t++wc r
end
def we(f:Fn):List AV:=qW f.ps::.bool f.rest::.bool f.cont::qW f.fr::wy f.b
def w9(c:Cd):List AV:=[.lst c.fs.length false (xA we c.fs),.int .i64 c.main,.int .i64 c.vars,.int .i64 c.globals,.lst c.consts.length false (xX c.consts)]
def vK(t:Trm):AV:=.agg (wy t)
def uP(f:Fn):AV:=.agg (we f)
def vv(c:Cd):AV:=.agg (w9 c)
def Trm.kind:Trm→Int|.mk k _ _ _ _ _ _=>k
def Trm.var:Trm→Int|.mk _ v _ _ _ _ _=>v
def Trm.op:Trm→Int|.mk _ _ o _ _ _ _=>o
def Trm.num:Trm→Int|.mk _ _ _ n _ _ _=>n
def Trm.fn:Trm→Int|.mk _ _ _ _ f _ _=>f
def Trm.atoms:Trm→List Atm|.mk _ _ _ _ _ a _=>a
def Trm.kids:Trm→List Trm|.mk _ _ _ _ _ _ k=>k
theorem qy(n:Int):(xL n).length=1:=rfl
theorem lQ(a:Atm):(qp a).length=2:=rfl
theorem xP(k v op n f:Int)(az:List Atm)(ks:List Trm):wy (.mk k v op n f az ks)=[.int .i64 k,.int .i64 v,.int .i64 op,.int .i64 n,.int .i64 f,.lst az.length false (xA qp az),.lst ks.length false (wc ks)]:=by simp only[wy]
theorem wg:∀t:Trm,(wy t).length=7
 |.mk _ _ _ _ _ _ _=>by simp only[wy,zU,xd]
theorem gB:wc []=[]:=by simp only[wc]
theorem qa(t:Trm)(r:List Trm):wc (t::r)=wy t++wc r:=by simp only[wc]
theorem YV:∀l:List Trm,wc l=xA wy l
 |[]=>by simp only[wc,xA]
 |t::r=>by simp only[wc,xA,YV r]
theorem lR(f:Fn):(we f).length=11:=by simp only[we,zU,wg]
theorem Vt(n:Int):xN (xL n)=true:=rfl
theorem HT(a:Atm):xN (qp a)=true:=rfl
theorem gA:∀t:Trm,xN (wy t)=true
 |.mk _ _ _ _ _ _ _=>by simp only[wy,xY,x6,qu,wN,xe]
theorem Kv(l:List Int):x8 (qW l)=true:=by simp only[qW,wN]
theorem pP(f:Fn):xN (we f)=true:=by simp only[we,xY,uq,Kv,gA,xe]
theorem pO(c:Cd):xN (w9 c)=true:=by simp only[w9,xY,x6,qu,wN,xe]
theorem uZ(n:Int):xZ (xL n)=true:=rfl
theorem jT:∀t:Trm,xZ (wy t)=true
 |.mk _ _ _ _ _ _ _=>by simp only[wy,u5,li,lC,Zq,xe]
theorem HU(f:Fn):xZ (we f)=true:=by simp only[we,qW,u5,ZT,Zq,jT,xe]
theorem Vu(n:Int):wkL (xL n)=xL n:=by simp only[xL,wkL,wkV]
theorem zwW(a:Atm):wkL (qp a)=qp a:=by simp only[qp,wkL,wkV]
theorem zn0(l:List Int):wkV (qW l)=qW l:=by simp only[qW,wkV,vM Vu]
mutual
theorem XQ:∀t:Trm,wkL (wy t)=wy t
 |.mk k v op n f az ks=>by simp only[wy,wkL,wkV,vM zwW,Vw ks]
theorem Vw:∀l:List Trm,wkL (wc l)=wc l
 |[]=>by simp only[wc,wkL]
 | t::r=>by
  have ap:∀a b:List AV,wkL (a++b)=wkL a++wkL b:=fun a b=>by
   induction a with
   |nil=>rfl
   |cons v a ih=>simp only[zG,wkL,ih]
  simp only[wc,ap,XQ t,Vw r]
end
theorem JH(f:Fn):wkL (we f)=we f:=by simp only[we,wkL,wkV,zn0,XQ]
theorem zwX(c:Cd):wkL (w9 c)=w9 c:=by simp only[w9,wkL,wkV,vM JH,ll]
theorem Lk(t:Trm):wkV (vK t)=vK t:=by simp only[vK,wkV,XQ]
theorem Lg(f:Fn):wkV (uP f)=uP f:=by simp only[uP,wkV,JH]
theorem Lf(c:Cd):wkV (vv c)=vv c:=by simp only[vv,wkV,zwX]
theorem zwY{a b:Int}(h:xL a=xL b):a=b:=by simpa [xL]using h
theorem zzA{a b:Atm}(h:qp a=qp b):a=b:=by
 obtain⟨k,n⟩:=a;obtain⟨k',n'⟩:=b
 simpa [qp]using h
theorem Ka{l m:List Int}(h:xA xL l=xA xL m):l=m:=kD qy oM (fun _ _ h=>zwY h) h
theorem LY{l m:List Int}(h:qW l=qW m):l=m:=by
 simp only[qW,AV.lst.injEq]at h;exact Ka h.2.2
mutual
theorem lS:∀{a b:Trm},wy a=wy b→a=b
 |.mk k v op n f az ks,.mk k' v' op' n' f' az' ks',h=>by
  simp only[wy,List.cons.injEq,AV.int.injEq,AV.lst.injEq,true_and,and_true]at h;obtain⟨rfl,rfl,rfl,rfl,rfl,⟨_,h1⟩,⟨_,h2⟩⟩:=h;rw[WN h2,kD lQ oM (fun _ _ h=>zzA h) h1]
theorem WN:∀{a b:List Trm},wc a=wc b→a=b
 |[],[],_=>rfl
 |[],d::m,h=>by
  have:=congrArg y8 h;simp only[wc,xd,yl,wg]at this;omega
 |d::l,[],h=>by
  have:=congrArg y8 h;simp only[wc,xd,yl,wg]at this;omega
 |d::l,e::m,h=>by
  simp only[wc]at h;obtain⟨h1,h2⟩:=List.append_inj h (by rw[wg,wg])
  rw[lS h1,WN h2]
end
theorem Vs{a b:Fn}(h:we a=we b):a=b:=by
 obtain⟨p,r,c,f,t⟩:=a;obtain⟨p',r',c',f',t'⟩:=b;simp only[we,List.cons.injEq,AV.bool.injEq]at h;obtain⟨h1,rfl,rfl,h2,h3⟩:=h;rw[LY h1,LY h2,lS h3]
theorem zzB{a b:Cd}(h:w9 a=w9 b):a=b:=by
 obtain⟨f,m,v,g,d⟩:=a;obtain⟨f',m',v',g',d'⟩:=b;simp only[w9,List.cons.injEq,AV.int.injEq,AV.lst.injEq,true_and,and_true]at h;obtain⟨⟨_,h1⟩,rfl,rfl,rfl,⟨_,h2⟩⟩:=h;rw[lT h2,kD lR oM (fun _ _ h=>Vs h) h1]
theorem J1{a b:Trm}(h:vK a=vK b):a=b:=lS (by simpa [vK]using h)
theorem JW{a b:Fn}(h:uP a=uP b):a=b:=Vs (by simpa [uP]using h)
theorem JU{a b:Cd}(h:vv a=vv b):a=b:=zzB (by simpa [vv]using h)
section
variable {α:Type}{f:α→List AV}{k:Nat}
theorem YY(hk:∀x,(f x).length=k){l:List α}{i:Nat}{o:α}{r:List α}(hd:l.drop i=o::r):xV k (wl (i*k) (xA f l))=some (f o):=by
 rw[uf hk,hd];simp only[xA];exact qI (hk o)
end
theorem zjs{l:List Int}{i:Nat}{o:Int}{r:List Int}(hd:l.drop i=o::r):xV 1 (wl (i*1) (xA xL l))=some [.int .i64 o]:=YY qy hd
theorem zzN{l:List Atm}{i:Nat}{o:Atm}{r:List Atm}(hd:l.drop i=o::r):xV 2 (wl (i*2) (xA qp l))=some [.int .i64 o.k,.int .i64 o.n]:=YY lQ hd
theorem zsm{l:List Trm}{i:Nat}{o:Trm}{r:List Trm}(hd:l.drop i=o::r):xV 7 (wl (i*7) (wc l))=some (wy o):=by rw[YV];exact YY wg hd
theorem VL{l:List Fn}{i:Nat}{o:Fn}{r:List Fn}(hd:l.drop i=o::r):xV 11 (wl (i*11) (xA we l))=some (we o):=YY lR hd
def va(t:Trm):AObj:=.row 40 (wy t) false false
def lkK(f:FK)(z:AV)(ok:Bool)(k:AV):Option AObj→Option AV
 |some (.map es _)=>Xp z ok (js f k es 0)
 | some (.umap es)=>match f with
  |.i=>match k with
   |.int .i64 n=>some (lkU z ok (kz n es))
   |_=>none
  |_=>none
 |_=>none
theorem jo(s:St)(f:FK)(z:AV)(ok:Bool)(id:Nat)(k:AV):vLk s f z ok (.map id) k=lkK f z ok k (s.get id):=by
 simp only[vLk,lkK];cases s.get id with
 |none=>rfl
 |some o=>cases o<;>rfl
theorem Zd(z:AV)(ok:Bool)(n:Int)(es:List (Int×AV)):lkK .i z ok (.int .i64 n) (some (.umap es))=some (lkU z ok (kz n es)):=rfl
theorem zjG(f:FK)(z:AV)(ok:Bool)(k:AV)(es:List (AV×AV×Nat))(c:Nat):lkK f z ok k (some (.map es c))=Xp z ok (js f k es 0):=rfl
theorem kU(z v:AV):lkU z true (some v)=.tup [v,.bool true]:=rfl
theorem kT(z:AV):lkU z true none=.tup [z,.bool false]:=rfl
theorem zr5(z:AV)(p:Nat×AV):Xp z true (some (some p))=some (.tup [p.2,.bool true]):=rfl
noncomputable def muK(s:St)(f:FK)(id:Nat)(k v:AV):Option AObj→Option (AV×St)
 |some (.map es clock)=>match js f k es 0 with
  |some (some p)=>some (qc,s.put id (.map (zy1 v k es p.1) clock))
  |some none=>some (qc,s.put id (.map (es++[(k,v,clock)]) (Nat.succ clock)))
  |none=>none
 | some (.umap es)=>match f with
  |.i=>match k with
   |.int .i64 n=>some (qc,s.put id (.umap (pt n v es)))
   |_=>none
  |_=>none
 |_=>none
theorem jQ(s:St)(f:FK)(id:Nat)(k v:AV):oMu s f (.map id) k v=muK s f id k v (s.get id):=by
 simp only[oMu,muK];cases s.get id with
 |none=>rfl
 |some o=>cases o<;>rfl
theorem Z8(s:St)(id:Nat)(n:Int)(v:AV)(es:List (Int×AV)):muK s .i id (.int .i64 n) v (some (.umap es))=some (qc,s.put id (.umap (pt n v es))):=rfl
noncomputable def mdK(s:St)(f:FK)(id:Nat)(k:AV):Option AObj→Option (AV×St)
 |some (.map es clock)=>match js f k es 0 with
  |some (some p)=>some (qc,s.put id (.map (zzR es p.1) clock))
  |some none=>some (qc,s.put id (.map es clock))
  |none=>none
 | some (.umap es)=>match f with
  |.i=>match k with
   |.int .i64 n=>some (qc,s.put id (.umap (Y2 n es)))
   |_=>none
  |_=>none
 |_=>none
theorem zma(s:St)(f:FK)(id:Nat)(k:AV):oMd s f (.map id) k=mdK s f id k (s.get id):=by
 simp only[oMd,mdK];cases s.get id with
 |none=>rfl
 |some o=>cases o<;>rfl
theorem zjI(s:St)(id:Nat)(n:Int)(es:List (Int×AV)):mdK s .i id (.int .i64 n) (some (.umap es))=some (qc,s.put id (.umap (Y2 n es))):=rfl
def lnK:Option AObj→Option AV
 |some (.map es _)=>some (.int .i64 (.ofNat (wY es)))
 |some (.umap es)=>some (.int .i64 (.ofNat (wY es)))
 |_=>none
theorem P8(s:St)(id:Nat):QD s .m (.map id)=lnK (s.get id):=by
 simp only[QD,lnK];cases s.get id with
 |none=>rfl
 |some o=>cases o<;>rfl
theorem zlo(es:List (Int×AV)):lnK (some (.umap es))=some (.int .i64 (.ofNat es.length)):=by rw[←wE];rfl
theorem QM(l:List (Nat×Option AObj))(n m:Nat)(b:Bool)(hd:List (Nat×Nat))(on:Option (Nat×List Nat)):Xs env.um (KL l n m b hd on)=some (.map n,KL ((n,some (.umap []))::l) (n+1) m b hd on):=rfl
def uS(l:List Int):List (Int×AV):=l.map fun x=>(x,.agg [])
theorem zjb(l:List Int):(uS l).length=l.length:=List.length_map _
theorem Hi:∀l:List Int,Z9 (uS l)=true
 |[]=>rfl
 |x::r=>by
  show (x8 (.agg [])&&Z9 (uS r))=true;rw[Hi r];rfl
theorem Hh:∀l:List Int,(uS l).map (·.1)=l
 |[]=>rfl
 |x::r=>congrArg (x:: ·) (Hh r)
theorem kv(a b:Int):eqI a b=decide (a=b):=by rw[vn];rfl
theorem gI{n:Int}:∀{l:List Int},n∈l→kz n (uS l)=some (.agg [])
 |x::r,h=>by
  simp only[uS,zv,kz,kv];by_cases e:x=n
  ·rw[decide_eq_true e];rfl
  ·rw[decide_eq_false e,cond_false];exact gI (l:=r) (by rcases List.mem_cons.1 h with h|h;exact absurd h.symm e;exact h)
theorem jX{n:Int}:∀{l:List Int},n∉l→kz n (uS l)=none
 |[],_=>rfl
 |x::r,h=>by
  simp only[ziU,not_or]at h;simp only[uS,zv,kz,kv];rw[decide_eq_false (Ne.symm h.1),cond_false];exact jX (l:=r) h.2
theorem lD{n:Int}:∀{l:List Int},n∉l→pt n (.agg []) (uS l)=uS (l++[n])
 |[],_=>rfl
 |x::r,h=>by
  simp only[ziU,not_or]at h;simp only[uS,zv,pt,kv,zG];rw[decide_eq_false (Ne.symm h.1),cond_false];have:=lD (l:=r) h.2;simp only[uS]at this;rw[this]
theorem zwr{n:Int}:∀{l:List Int},n∈l→pt n (.agg []) (uS l)=uS l
 | x::r,h=>by
  simp only[uS,zv,pt,kv];by_cases e:x=n
  ·rw[decide_eq_true e,cond_true,e]
  ·rw[decide_eq_false e,cond_false];have:=zwr (l:=r) (by rcases List.mem_cons.1 h with h|h;exact absurd h.symm e;exact h)
   simp only[uS]at this;rw[this]
def Xi(l:List Int)(x:Int):List Int:=if x∈l then l else l++[x]
theorem zpu(l:List Int)(x:Int):pt x (.agg []) (uS l)=uS (Xi l x):=by
 unfold Xi;split
 ·rename_i h;exact zwr h
 ·rename_i h;exact lD h
def j7(sc ow:List Int)(x:Int):List Int:=if x∈sc then ow else Xi ow x
theorem qn{m i j:Nat}(h:j≠i):(m|||1<<<i).testBit j=m.testBit j:=by
 rw[yG,Nat.one_shiftLeft,Nat.testBit_two_pow];simp[Ne.symm h]
theorem Lw{x:Int}:∀{xs:List (AV×AV×Nat)} (i:Nat),(∀q∈xs,∃n,q.1=.int .i64 n∧q.2.1=.agg [])→(∃q∈xs,q.1=.int .i64 x)→∃p,js .i (.int .i64 x) xs i=some (some p)∧p.2=.agg []
 |[],_,_,h=>by obtain⟨q,hq,_⟩:=h;cases hq
 | q::xs,i,ha,h=>by
  obtain⟨n,h1,h2⟩:=ha q (by simp)
  have e1:eq1 .i (.int .i64 x) (.int .i64 n)=some (decide (x=n)):=by
   rw[←kv];rfl
  simp only[js,h1,e1];by_cases hx:x=n
  ·rw[decide_eq_true hx];exact⟨_,rfl,h2⟩
  ·rw[decide_eq_false hx];refine Lw _ (fun q hq=>ha q (by simp[hq])) ?_
   obtain⟨q',hq',he⟩:=h;rcases List.mem_cons.1 hq' with rfl|hq'
   ·rw[h1]at he;cases he;exact absurd rfl hx
   ·exact⟨q',hq',he⟩
section
variable {O:Orc}
attribute [local go_sem] jo Zd kU kT jQ Z8 xI xH ziS ziW ziV ziQ xW ltF gtF in
theorem zpZ(h72:O 81=none){sc ow:List Int}{g:Bool}{x:Int}{L:List (Nat×Option AObj)}{p1 p2 p3 sid oid:Nat}(hw:WfA L n)(g1:xD L p1=some (.row 63 [.map sid] false false))(g2:xD L p2=some (.row 63 [.map oid] false false))(g3:xD L p3=some (.row 4 [.bool g] false false))(gs:xD L sid=some (.umap (uS sc)))(go:xD L oid=some (.umap (uS ow)))
  (m:Nat) (b:Bool):Cv ((evW env O).call 81 [.int .i64 x,.ptr p1 0,.ptr p2 0,.ptr p3 0] (KL L n m b [] none)) fun v t=>∃L2 n2 m2,t=KL L2 n2 m2 b [] none∧WfA L2 n2∧n≤n2∧xD L2 oid=some (.umap (uS (j7 sc ow x)))∧xD L2 p3=some (.row 4 [.bool (g||(decide (x∉sc)&&decide (x∉ow)))] false false)∧∀j,j<n→j≠oid→j≠p3→xD L2 j=xD L j∧m2.testBit j=m.testBit j:=by
 refine xO (F:=f81) h72 rfl rfl (ziF rfl) ?_;unfold f81 cF;simp only;have l1:=hw.lt g1;have l2:=hw.lt g2;have l3:=hw.lt g3;have l4:=hw.lt gs;have l5:=hw.lt go;have fin:∀{L2:List (Nat×Option AObj)} {n2 m2:Nat},WfA L2 n2→n≤n2→(∀j,j<n→j≠oid→j≠p3→xD L2 j=xD L j∧m2.testBit j=m.testBit j)→∀ow2 g2,xD L2 oid=some (.umap (uS ow2))→xD L2 p3=some (.row 4 [.bool g2] false false)→ow2=j7 sc ow x→g2=(g||(decide (x∉sc)&&decide (x∉ow)))→∃L2' n2' m2',KL L2 n2 m2 b [] none=KL L2' n2' m2' b [] none∧WfA L2' n2'∧n≤n2'∧xD L2' oid=some (.umap (uS (j7 sc ow x)))∧xD L2' p3=some (.row 4 [.bool (g||(decide (x∉sc)&&decide (x∉ow)))] false false)∧∀j,j<n→j≠oid→j≠p3→xD L2' j=xD L j∧m2'.testBit j=m.testBit j:=by
  intro L2 n2 m2 q1 q2 q3 ow2 g2 q4 q5 q6 q7;subst q6;subst q7;exact⟨L2,n2,m2,rfl,q1,q2,q4,q5,q3⟩
 by_cases hs:x∈sc
 ·have e1:=gI hs;by_cases ho:x∉ow
  ·have e2:=jX ho;refine xB ?_;refine xB ?_;refine xB ?_;refine xu ?_;refine xF ?_;refine fin ?_ oM (fun j h1 h2 h3=>?_) _ _ ?_ ?_ (show ow=j7 sc ow x from (if_pos hs).symm) (show g=(g||(decide (x∉sc)&&decide (x∉ow)))from by simp[hs])
   ·(repeat first|exact hw.up oM|refine WfA.same ?_ oM)
   ·exact⟨by (repeat (rw[xr,if_neg oM])),by (repeat rw[qn oM])⟩
   ·(repeat (rw[xr,if_neg oM]));exact go
   ·(repeat (rw[xr,if_neg oM]));exact g3
  ·have e2:=gI (Decidable.not_not.1 ho);refine xB ?_;refine xB ?_;refine xB ?_;refine xu ?_;refine xF ?_;refine fin ?_ oM (fun j h1 h2 h3=>?_) _ _ ?_ ?_ (show ow=j7 sc ow x from (if_pos hs).symm) (show g=(g||(decide (x∉sc)&&decide (x∉ow)))from by simp[hs])
   ·(repeat first|exact hw.up oM|refine WfA.same ?_ oM)
   ·exact⟨by (repeat (rw[xr,if_neg oM])),by (repeat rw[qn oM])⟩
   ·(repeat (rw[xr,if_neg oM]));exact go
   ·(repeat (rw[xr,if_neg oM]));exact g3
 ·have e1:=jX hs;by_cases ho:x∈ow
  ·have e2:=gI ho;refine xB ?_;refine xB ?_;refine xB ?_;refine xu ?_;refine xF ?_;refine fin ?_ oM (fun j h1 h2 h3=>?_) _ _ ?_ ?_ (show ow=j7 sc ow x from by unfold j7 Xi;rw[if_neg hs,if_pos ho]) (show g=(g||(decide (x∉sc)&&decide (x∉ow)))from by simp[ho])
   ·(repeat first|exact hw.up oM|refine WfA.same ?_ oM)
   ·exact⟨by (repeat (rw[xr,if_neg oM])),by (repeat rw[qn oM])⟩
   ·(repeat (rw[xr,if_neg oM]));exact go
   ·(repeat (rw[xr,if_neg oM]));exact g3
  ·have e2:=jX ho;have e5:=lD ho;have d1:oid≠p3:=by rintro rfl;rw[g3]at go;cases go
   have d2:p3≠oid:=Ne.symm d1;refine xB ?_;refine xB ?_;refine xB ?_;refine xu ?_;refine xF ?_;refine fin ?_ oM (fun j h1 h2 h3=>?_) _ _ ?_ ?_ (show ow++[x]=j7 sc ow x from by unfold j7 Xi;rw[if_neg hs,if_neg ho]) (show true=(g||(decide (x∉sc)&&decide (x∉ow)))from by simp[hs,ho])
   ·(repeat first|exact hw.up oM|refine WfA.same ?_ oM)
   ·exact⟨by (repeat (rw[xr,if_neg oM])),by (repeat rw[qn oM])⟩
   ·rw[xr,if_neg d1,xG]
   ·rw[xG]
attribute [local go_sem] jo Zd zjG kU kT zr5 jQ Z8 xI xH ziS ziW ziV ziQ xW ltF gtF in
theorem zmT(h72:O 81=none){sc:List Int}{x:Int}{L:List (Nat×Option AObj)}{p1 p2 p3 sid oid clk:Nat}{xs:List (AV×AV×Nat)}{p:Nat×AV}(hw:WfA L n)(g1:xD L p1=some (.row 63 [.map sid] false false))(g2:xD L p2=some (.row 63 [.map oid] false false))(gs:xD L sid=some (.umap (uS sc)))(go:xD L oid=some (.map xs clk))(hf:js .i (.int .i64 x) xs 0=some (some p))(hp:p.2=.agg [])
  (m:Nat) (b:Bool):Cv ((evW env O).call 81 [.int .i64 x,.ptr p1 0,.ptr p2 0,.ptr p3 0] (KL L n m b [] none)) fun v t=>∃L2 n2 m2,t=KL L2 n2 m2 b [] none∧WfA L2 n2∧n≤n2∧∀j,j<n→xD L2 j=xD L j∧m2.testBit j=m.testBit j:=by
 refine xO (F:=f81) h72 rfl rfl (ziF rfl) ?_;unfold f81 cF;simp only;have l1:=hw.lt g1;have l2:=hw.lt g2;have l4:=hw.lt gs;have l5:=hw.lt go;by_cases hs:x∈sc
 ·have e1:=gI hs;refine xB ?_;refine xB ?_;refine xB ?_;refine xu ?_;refine xF ?_;refine⟨_,_,_,rfl,?_,oM,fun j h1=>?_⟩
  ·(repeat first|exact hw.up oM|refine WfA.same ?_ oM)
  ·exact⟨by (repeat (rw[xr,if_neg oM])),by (repeat rw[qn oM])⟩
 ·have e1:=jX hs;refine xB ?_;refine xB ?_;refine xB ?_;refine xu ?_;refine xF ?_;refine⟨_,_,_,rfl,?_,oM,fun j h1=>?_⟩
  ·(repeat first|exact hw.up oM|refine WfA.same ?_ oM)
  ·exact⟨by (repeat (rw[xr,if_neg oM])),by (repeat rw[qn oM])⟩
end
def zrm(S:List (List Int))(j:Int):List Int:=S.getD j.toNat []
def qS(sc ow:List Int):List Atm→List Int
 |[]=>ow
 |a::r=>qS sc (bif eqD a.k (.ofNat 1)then j7 sc ow a.n else ow) r
def Yg(sc ow:List Int):List Int→List Int
 |[]=>ow
 |x::r=>Yg sc (j7 sc ow x) r
def gW(k:Int):Bool:=eqD k (.ofNat 1)||eqD k (.ofNat 2)
def XP(S:List (List Int))(i:Nat)(k f:Int)(az:List Atm)(sc ow:List Int):List Int:=
 bif eqD k (.ofNat 2)then (if f.toNat=i then qS sc ow az else Yg sc (qS sc ow az) (zrm S f))else qS sc ow az
def scB(k v:Int)(sc:List Int):List Int:=bif gW k then Xi sc v else sc
mutual
def uM(S:List (List Int))(i:Nat):Trm→List Int→List Int→List Int
 |.mk k v _ _ f az ks,sc,ow=>v7 S i ks (scB k v sc) (XP S i k f az sc ow)
def v7(S:List (List Int))(i:Nat):List Trm→List Int→List Int→List Int
 |[],_,ow=>ow
 |x::r,sc,ow=>uM S i x sc (v7 S i r sc ow)
end
mutual
def wC:Trm→Nat
 |.mk _ _ _ _ _ _ ks=>1+qB ks
def qB:List Trm→Nat
 |[]=>0
 |t::r=>wC t+qB r
end
mutual
def Qo(N:Nat):Trm→Prop
 |.mk k _ _ _ f az ks=>az.length<1000000000∧ks.length≤2∧(eqD k (.ofNat 2)=true→∃j,f=.ofNat j∧j<N)∧Hs N ks
def Hs(N:Nat):List Trm→Prop
 |[]=>True
 |t::r=>Qo N t∧Hs N r
end
theorem U0(sc ow:List Int)(x:Int):ow.length≤(j7 sc ow x).length:=by
 unfold j7 Xi;split
 ·exact zo _
 ·split
  ·exact zo _
  ·simp
theorem zth(sc ow:List Int)(x:Int)(a:Nat)(ha:a≤ow.length):decide ((j7 sc ow x).length≠a)=(decide (ow.length≠a)||(decide (x∉sc)&&decide (x∉ow))):=by
 unfold j7 Xi;by_cases h1:x∈sc
 ·rw[if_pos h1];simp[h1]
 ·rw[if_neg h1];by_cases h2:x∈ow
  ·rw[if_pos h2];simp[h2]
  ·rw[if_neg h2];have:(ow++[x]).length≠a:=by simp;omega
   rw[decide_eq_true this];simp[h1,h2]
theorem py{sc ow:List Int}{x:Int}(h:ow.Nodup):(j7 sc ow x).Nodup:=by
 unfold j7 Xi;split
 ·exact h
 ·split
  ·exact h
  ·rename_i h1
   rw[List.nodup_append];exact⟨h,by simp,fun a ha b hb=>by
    simp only[zQ]at hb;subst hb;rintro rfl;exact h1 ha⟩
theorem lO(sc:List Int):∀(az:List Atm) (ow:List Int),ow.length≤(qS sc ow az).length
 |[],ow=>zo _
 |a::r,ow=>by
  simp only[qS];refine zr ?_ (lO sc r _);cases eqD a.k (.ofNat 1)with
  |true=>exact U0 _ _ _
  |false=>exact zo _
theorem HM(sc:List Int):∀(l:List Int) (ow:List Int),ow.length≤(Yg sc ow l).length
 |[],ow=>zo _
 |x::r,ow=>zr (U0 _ _ _) (HM sc r _)
structure CapE where
 ids:List Nat
 S:List (List Int)
 i:Nat
 fid:Nat
 sid:Nat
 c:Cap
 xx:Bool
 ff:Bool
def CapE.oid(E:CapE):Nat:=E.ids.getD E.i 0
def CapE.W(E:CapE)(j:Nat):Prop:=j∈E.ids∨j=E.sid
structure CapM(E:CapE)(L:List (Nat×Option AObj))(n:Nat)(sc ow:List Int):Prop where
 wf:WfA L n
 len:E.S.length=E.ids.length
 nd:E.ids.Nodup
 hi:E.i<E.ids.length
 row:xD L E.fid=some (.row 63 (E.ids.map .map) E.xx E.ff)
 oth:∀j id,E.ids[j]? =some id→j≠E.i→xD L id=some (.umap (uS (E.S.getD j [])))
 own:xD L E.oid=some (.umap (uS ow))
 sco:xD L E.sid=some (.umap (uS sc))
 sd:E.sid∉E.ids
section
variable {E:CapE}{L:List (Nat×Option AObj)}{n:Nat}{sc ow:List Int}
theorem CapM.oid(h:CapM E L n sc ow):E.ids[E.i]? =some E.oid:=by
 unfold CapE.oid;rw[yU,yv h.hi];rfl
theorem CapM.oidW(h:CapM E L n sc ow):E.oid∈E.ids:=y7 h.oid
theorem CapM.one(h:CapM E L n sc ow){j:Nat}(hj:E.ids[j]? =some id)(hne:j≠E.i):id≠E.oid:=fun e=>hne (by
 have h1:=h.oid;rw[←e]at h1;exact(zi5 (List.getElem?_eq_some_iff.1 hj).1 h.nd).1 (hj.trans h1.symm))
end
theorem CapM.turn{E:CapE}{L L2:List (Nat×Option AObj)}{n2:Nat}{sc ow ow2:List Int}(h:CapM E L n sc ow)(hw:WfA L2 n2)(ho:xD L2 E.oid=some (.umap (uS ow2)))(hf:∀j,j<n→j≠E.oid→(E.W j∨j=E.fid)→xD L2 j=xD L j):CapM E L2 n2 sc ow2 where
 wf:=hw
 len:=h.len
 nd:=h.nd
 hi:=h.hi
 row:=by rw[hf E.fid (h.wf.lt h.row) (fun e=>by have h1:=h.row;rw[e,h.own]at h1;cases h1) (.inr rfl)];exact h.row
 oth:=fun j id hj hne=>by
  have h1:=h.oth j id hj hne;rw[hf id (h.wf.lt h1) (h.one hj hne) (.inl (.inl (y7 hj)))];exact h1
 own:=ho
 sco:=by rw[hf E.sid (h.wf.lt h.sco) (fun e=>h.sd (e▸h.oidW)) (.inl (.inr rfl))];exact h.sco
 sd:=h.sd
def Hj(n0:Nat):AV:=.fn 81 [] [.ptr (n0+1) 0,.ptr (n0+1+1) 0,.ptr (n0+1+1+1) 0]
structure CapS(E:CapE)(L0:List (Nat×Option AObj))(n0 a0:Nat)(sc0:List Int)(t:Trm)(hs ow:List Int)(L:List (Nat×Option AObj))(n m hid:Nat):Prop where
 M:CapM E L n (sc0++hs) ow
 n4:n0+1+1+1+1≤n
 r0:xD L n0=some (va t)
 r1:xD L (n0+1)=some (.row 63 [.map E.sid] false false)
 r2:xD L (n0+1+1)=some (.row 63 [.map E.oid] false false)
 r3:xD L (n0+1+1+1)=some (.row 4 [.bool (decide (ow.length≠a0))] false false)
 hr:GAt 3 xL L (n0+1+1+1+1) n hid hs
 le:a0≤ow.length
 nd:ow.Nodup
 ds:∀v∈hs,v∉sc0
 lt:∀j,E.W j∨j=E.fid→j<n0
 fr:∀j,j<n0→¬E.W j→xD L j=xD L0 j∧m.testBit j=false
structure CapT(E:CapE)(n0 hid:Nat)(hs:List Int)(T:List (Nat×AV)):Prop where
 t1:(tmL T).get 1=some (.sl E.fid 0 E.ids.length E.c)
 t4:(tmL T).get 4=some (.ptr n0 0)
 t6:(tmL T).get 6=some (.ptr (n0+1) 0)
 t7:(tmL T).get 7=some (.ptr (n0+1+1) 0)
 t8:(tmL T).get 8=some (.ptr (n0+1+1+1) 0)
 t9:(tmL T).get 9=some (Hj n0)
 t10:(tmL T).get 10=some (gSl 1 hid hs.length)
def lJ(E:CapE)(L0:List (Nat×Option AObj))(n0 a0:Nat)(sc0:List Int)(t:Trm)(hs ow:List Int)(fr:Fr)(s:St):Prop:=
 ∃T L n m hid,fr=⟨tmL T,[]⟩∧s=KL L n m false [] none∧CapT E n0 hid hs T∧CapS E L0 n0 a0 sc0 t hs ow L n m hid
theorem CapS.use{E:CapE}{L0:List (Nat×Option AObj)}{n0 a0:Nat}{sc0:List Int}{t:Trm}{hs ow:List Int}{L:List (Nat×Option AObj)}{m hid:Nat}(h:CapS E L0 n0 a0 sc0 t hs ow L n m hid){x:Int}{L2:List (Nat×Option AObj)}{n2 m2:Nat}(hw:WfA L2 n2)(hn:n≤n2)(h1:xD L2 E.oid=some (.umap (uS (j7 (sc0++hs) ow x))))(h2:xD L2 (n0+1+1+1)=some (.row 4 [.bool (decide (ow.length≠a0)||(decide (x∉sc0++hs)&&decide (x∉ow)))] false false))(hf:∀j,j<n→j≠E.oid→j≠n0+1+1+1→xD L2 j=xD L j∧m2.testBit j=m.testBit j):CapS E L0 n0 a0 sc0 t hs (j7 (sc0++hs) ow x) L2 n2 m2 hid:=by
 have n4:=h.n4;have ho:E.oid<n0:=h.lt _ (.inl (.inl h.M.oidW))
 exact{
  M:=h.M.turn hw h1 fun j hj hne hW=>(hf j hj hne (by have:=h.lt j hW;omega)).1
  n4:=oM
  r0:=by rw[(hf n0 oM oM oM).1];exact h.r0
  r1:=by rw[(hf (n0+1) oM oM oM).1];exact h.r1
  r2:=by rw[(hf (n0+1+1) oM oM oM).1];exact h.r2
  r3:=by rw[zth _ _ _ _ h.le];exact h2
  hr:=h.hr.ext (zo _) hn fun j h1 h2=>(hf j h2 oM oM).1
  le:=zr h.le (U0 _ _ _)
  nd:=py h.nd
  ds:=h.ds
  lt:=h.lt
  fr:=fun j hj hW=>by
   have:=hf j oM (fun e=>hW (e▸.inl h.M.oidW)) oM;rw[this.1,this.2];exact h.fr j hj hW}
open Nat (reduceEqDiff reduceLeDiff reduceLT reduceAdd reduceMul reduceSub reduceMod reducePow reduceDiv reduceOr reduceShiftLeft reduceGT reduceSucc)
open List (length_cons length_nil length_take length_drop)
open Int (reduceOfNat reduceNegSucc)
def uw:ICode:=match f45.body with
 |.seq _ (.seq _ (.seq _ (.seq (.block _ (.loop (.block _ b))) _)))=>b
 |_=>.skip
def zlP:ICode:=match uw with
 |.seq a _=>a
 |_=>.skip
def zoy:ICode:=match uw with
 |.seq _ (.seq b _)=>b
 |_=>.skip
def HH:ICode:=match uw with
 |.seq _ (.seq _ c)=>c
 |_=>.skip
theorem CapT.cons{E:CapE}{n0 hid:Nat}{hs:List Int}{T:List (Nat×AV)}(h:CapT E n0 hid hs T){j:Nat}(hj:j=5∨10<j):CapT E n0 hid hs ((j,v)::T):=by
 have e:∀i,i≠j→(tmL ((j,v)::T)).get i=(tmL T).get i:=fun i hi=>by rw[←QT,Trie.get_set_ne _ _ hi]
 obtain⟨t1,t4,t6,t7,t8,t9,t10⟩:=h;exact⟨by rw[e _ oM];exact t1,by rw[e _ oM];exact t4,by rw[e _ oM];exact t6,by rw[e _ oM];exact t7,by rw[e _ oM];exact t8,by rw[e _ oM];exact t9,by rw[e _ oM];exact t10⟩
theorem CapS.oth{E:CapE}{L0:List (Nat×Option AObj)}{n0 a0:Nat}{sc0:List Int}{t:Trm}{hs ow:List Int}{L:List (Nat×Option AObj)}{m hid:Nat}(h:CapS E L0 n0 a0 sc0 t hs ow L n m hid){L2:List (Nat×Option AObj)}{n2 m2:Nat}(hw:WfA L2 n2)(hn:n≤n2)(hf:∀j,j<n→xD L2 j=xD L j∧m2.testBit j=m.testBit j):CapS E L0 n0 a0 sc0 t hs ow L2 n2 m2 hid:=by
 have n4:=h.n4;have ho:E.oid<n0:=h.lt _ (.inl (.inl h.M.oidW))
 exact{
  M:=h.M.turn hw (by rw[(hf E.oid oM).1];exact h.M.own) fun j hj hne hW=>(hf j hj).1
  n4:=oM
  r0:=by rw[(hf n0 oM).1];exact h.r0
  r1:=by rw[(hf (n0+1) oM).1];exact h.r1
  r2:=by rw[(hf (n0+1+1) oM).1];exact h.r2
  r3:=by rw[(hf (n0+1+1+1) oM).1];exact h.r3
  hr:=h.hr.ext (zo _) hn fun j h1 h2=>(hf j h2).1
  le:=h.le
  nd:=h.nd
  ds:=h.ds
  lt:=h.lt
  fr:=fun j hj hW=>by
   have:=hf j oM;rw[this.1,this.2];exact h.fr j hj hW}
section
variable {O:Orc}{E:CapE}{L0:List (Nat×Option AObj)}{n0 a0:Nat}{sc0 hs ow:List Int}{t:Trm}
attribute [local go_sem] xI xH ziS ziW ziV ziQ xW ltF gtF ww Hj in
theorem zox(h72:O 81=none)(hl:t.atoms.length<1000000000){fr:Fr}(hI:lJ E L0 n0 a0 sc0 t hs ow fr s):Ev (evC env (evW env O) none zlP fr s) (wH (lJ E L0 n0 a0 sc0 t hs (qS (sc0++hs) ow t.atoms)) fun _ _ _=>False):=by
 obtain⟨T,L,n,m,hid,rfl,rfl,hT,hS⟩:=hI;obtain⟨k,v,op,num,f,az,ks⟩:=t;simp only[Trm.atoms]at hl⊢;have r0:=hS.r0;simp only[va,xP]at r0;have t4:=hT.t4;unfold zlP uw f45 cF;simp only;refine xB ?_;refine xE ?_;refine xU (fun x:Nat×List Int=>az.length-x.1) (fun x fr s=>∃T L n m,fr=⟨tmL T,[]⟩∧s=KL L n m false [] none∧CapT E n0 hid hs T∧(tmL T).get 20=some (.lst az.length false (xA qp az))∧(tmL T).get 21=some (.int .i64 (.ofNat az.length))∧(tmL T).get 22=some (.int .i64 (.ofNat x.1))∧x.1≤az.length∧CapS E L0 n0 a0 sc0 (.mk k v op num f az ks) hs x.2 L n m hid∧qS (sc0++hs) ow az=qS (sc0++hs) x.2 (az.drop x.1)) (fun x fr s hI=>?_) (0,ow) ⟨_,L,n,m,rfl,rfl,?_,sV,sV,sV,zK _,hS,rfl⟩
 ·obtain⟨T,L,n,m,rfl,rfl,hT,q20,q21,q22,hi,hS,he⟩:=hI;obtain⟨i,ow⟩:=x;simp only at q22 hi hS he;rcases xQ az i with ⟨hi,hd⟩|⟨a,hi,hd⟩
  ·have hlt:¬i<az.length:=oM;rw[hd]at he;refine xu ?_;exact⟨_,L,n,m,hid,rfl,rfl,hT.cons oM,he▸hS⟩
  ·have hc:=zzN hd;obtain⟨ak,an⟩:=a;rw[hd]at he;simp only[qS]at he;have hwf:=hS.M.wf;have n4:=hS.n4;obtain⟨t1,t4,t6,t7,t8,t9,t10⟩:=hT;have hT:CapT E n0 hid hs T:=⟨t1,t4,t6,t7,t8,t9,t10⟩;cases hk:eqD ak (.ofNat 1)with
   | false=>
    rw[hk]at he;refine xu ?_;refine⟨(i+1,ow),⟨_,_,_,_,rfl,rfl,?_,sV,sV,sV,by simp only;omega,?_,he⟩,by simp only;omega⟩
    ·(repeat refine CapT.cons ?_ oM);exact hT
    ·refine hS.oth ?_ oM fun j hj=>⟨?_,?_⟩
     ·(repeat first|exact hwf.up oM|refine WfA.same ?_ oM)
     ·(repeat (rw[xr,if_neg oM]))
     ·(repeat rw[qn oM])
   |true=>
    rw[hk]at he;have g1:=hS.r1;have g2:=hS.r2;have g3:=hS.r3;have gs:=hS.M.sco;have go:=hS.M.own;have l1:=hS.lt E.sid (.inl (.inr rfl));have l2:=hS.lt E.oid (.inl (.inl hS.M.oidW));refine xB ?_;refine xB ?_;refine xz (xE ?_);refine xB ?_;refine xB ?_;refine x4 sW ?_;refine xK ?_;refine xC (zpZ h72 (sc:=sc0++hs) (ow:=ow) (g:=decide (ow.length≠a0)) (x:=an) (sid:=E.sid) (oid:=E.oid) ?_ ?_ ?_ ?_ ?_ ?_ _ _) fun v t hv=>?_
    ·(repeat first|exact hwf.up oM|refine WfA.same ?_ oM)
    ·(repeat (rw[xr,if_neg oM]));exact g1
    ·(repeat (rw[xr,if_neg oM]));exact g2
    ·(repeat (rw[xr,if_neg oM]));exact g3
    ·(repeat (rw[xr,if_neg oM]));exact gs
    ·(repeat (rw[xr,if_neg oM]));exact go
    obtain⟨L2,n2,m2,rfl,hw2,hn2,q1,q2,q3⟩:=hv;refine xu ?_;refine xu ?_;refine⟨(i+1,j7 (sc0++hs) ow an),⟨_,L2,n2,m2,rfl,rfl,?_,sV,sV,sV,by simp only;omega,?_,he⟩,by simp only;omega⟩
    ·(repeat refine CapT.cons ?_ oM);exact hT
    ·refine hS.use hw2 oM q1 q2 fun j h1 h2 h3=>?_;have:=q3 j oM h2 h3;rw[this.1,this.2];exact⟨by (repeat (rw[xr,if_neg oM])),by (repeat rw[qn oM])⟩
 ·(repeat refine CapT.cons ?_ oM);exact hT
end
theorem zyI{l m:List Int}(hl:l.Nodup)(hm:m.Nodup)(h:∀x,x∈l↔x∈m):l.Perm m:=by
 rw[List.perm_iff_count];intro x;rw[hl.count,hm.count];simp only[h x]
theorem Zh{sc ow:List Int}{x y:Int}:y∈j7 sc ow x↔y∈ow∨(y=x∧x∉sc):=by
 unfold j7 Xi;split
 ·rename_i h;constructor
  ·exact .inl
  ·rintro(h1|⟨_,h1⟩)
   ·exact h1
   ·exact absurd h h1
 ·rename_i h
  split
  ·rename_i h1;constructor
   ·exact .inl
   ·rintro(h2|⟨rfl,_⟩)
    ·exact h2
    ·exact h1
  ·simp only[zi8,zQ];constructor
   ·rintro(h2|h2)
    ·exact .inl h2
    ·exact .inr ⟨h2,h⟩
   ·rintro(h2|⟨h2,_⟩)
    ·exact .inl h2
    ·exact .inr h2
theorem Uw{sc:List Int}{y:Int}:∀{l ow:List Int},y∈Yg sc ow l↔y∈ow∨(y∈l∧y∉sc)
 |[],ow=>by simp[Yg]
 | x::l,ow=>by
  simp only[Yg];rw[Uw,Zh];constructor
  ·rintro((h|⟨rfl,h⟩)|⟨h,h'⟩)
   ·exact .inl h
   ·exact .inr ⟨by simp,h⟩
   ·exact .inr ⟨by simp[h],h'⟩
  ·rintro(h|⟨h,h'⟩)
   ·exact .inl (.inl h)
   ·rcases List.mem_cons.1 h with rfl|h
    ·exact .inl (.inr ⟨rfl,h'⟩)
    ·exact .inr ⟨h,h'⟩
theorem Yh{sc:List Int}:∀{l ow:List Int},ow.Nodup→(Yg sc ow l).Nodup
 |[],_,h=>h
 |x::l,ow,h=>Yh (l:=l) (py h)
structure XsOk(l:List Int)(xs:List (AV×AV×Nat))(clk:Nat):Prop where
 key:∀q∈xs,∃n,q.1=.int .i64 n∧q.2.1=.agg []∧n∈l
 all:∀n∈l,∃q∈xs,q.1=.int .i64 n
 one:∀q∈xs,∀q'∈xs,q.1=q'.1→q=q'
 st:(xs.map (·.2.2)).Nodup
 old:∀q∈xs,q.2.2<clk
 nd:l.Nodup
theorem KB:∀{xs:List (AV×AV×Nat)},(xs.map (·.1)).Nodup→∀q∈xs,∀q'∈xs,q.1=q'.1→q=q'
 |[],_,q,hq,_,_,_=>by cases hq
 |a::xs,h,q,hq,q',hq',e=>by
  simp only[zv,zi0,zhe,not_exists,not_and]at h;rcases List.mem_cons.1 hq with e1|hq<;>rcases List.mem_cons.1 hq' with e2|hq'
  ·rw[e1,e2]
  ·exact absurd (e.symm.trans (by rw[e1])) (h.1 q' hq')
  ·exact absurd (e.trans (by rw[e2])) (h.1 q hq)
  ·exact KB h.2 q hq q' hq' e
theorem XsOk.of{l:List Int}{xs:List (AV×AV×Nat)}{clk:Nat}(h:Jt (uS l) xs clk):XsOk l xs clk:=by
 obtain⟨h1,h2,h3,h4⟩:=h;rw[Hh]at h4;have e:(uS l).map (fun q=>(AV.int .i64 q.1,q.2))=l.map fun x=>(AV.int .i64 x,AV.agg []):=by simp[uS]
 rw[e]at h1;have hk:(xs.map (·.1)).Perm (l.map (AV.int .i64)):=by
  have:=h1.map (·.1)
  simpa [List.map_map,Function.comp_def]using this
 refine⟨fun q hq=>?_,fun n hn=>?_,KB (hk.nodup_iff.2 (h4.map (f:=AV.int .i64) fun a b hab he=>by cases he;exact hab rfl)),h2,h3,h4⟩
 ·have:(q.1,q.2.1)∈l.map fun x=>(AV.int .i64 x,AV.agg []):=h1.mem_iff.1 (List.mem_map.2 ⟨q,hq,rfl⟩);obtain⟨n,hn,he⟩:=List.mem_map.1 this;simp only[Prod.mk.injEq]at he;exact⟨n,he.1.symm,he.2.symm,hn⟩
 ·have:AV.int .i64 n∈xs.map (·.1):=hk.mem_iff.2 (List.mem_map.2 ⟨n,hn,rfl⟩);obtain⟨q,hq,he⟩:=List.mem_map.1 this;exact⟨q,hq,he⟩
theorem vR{seen:List Nat}{p:AV×AV×Nat}:∀{xs:List (AV×AV×Nat)},p∈vz seen xs↔p∈xs∧p.2.2∉seen
 |[]=>by simp[vz]
 | q ::xs=>by
  simp only[vz,gN];cases hc:seen.contains q.2.2 with
  | true=>
   rw[cond_true,vR];constructor
   ·rintro⟨h1,h2⟩;exact⟨by simp[h1],h2⟩
   ·rintro⟨h1,h2⟩
    rcases List.mem_cons.1 h1 with rfl|h1
    ·simp at hc;exact absurd hc h2
    ·exact⟨h1,h2⟩
  | false=>
   rw[cond_false,ziU,vR];constructor
   ·rintro(rfl|⟨h1,h2⟩)
    ·refine⟨by simp,fun h=>?_⟩
     have:seen.contains p.2.2=true:=by simpa using h
     rw[this]at hc;cases hc
    ·exact⟨by simp[h1],h2⟩
   ·rintro⟨h1,h2⟩
    rcases List.mem_cons.1 h1 with rfl|h1
    ·exact .inl rfl
    ·exact .inr ⟨h1,h2⟩
theorem Ks:∀xs:List (AV×AV×Nat),vz [] xs=xs
 |[]=>rfl
 |q::xs=>by simp only[vz,gN,List.contains_nil,cond_false,Ks xs]
theorem Kr{seen:List Nat}{b:Nat}:∀{xs:List (AV×AV×Nat)},(vz (seen++[b]) xs).length≤(vz seen xs).length
 |[]=>zo _
 | q::xs=>by
  have ih:=Kr (seen:=seen) (b:=b) (xs:=xs);simp only[vz,gN];cases h1:seen.contains q.2.2 with
  |true=>
   rw[show (seen++[b]).contains q.2.2=true by simp at h1⊢;exact .inl h1]
   exact ih
  |false=>
   cases (seen++[b]).contains q.2.2<;>simp only[cond_true,cond_false,zU]<;>omega
theorem Xm{seen:List Nat}{p:AV×AV×Nat}:∀{xs:List (AV×AV×Nat)},p∈vz seen xs→(vz (seen++[p.2.2]) xs).length<(vz seen xs).length
 | q::xs,h=>by
  have ih:=Kr (seen:=seen) (b:=p.2.2) (xs:=xs);simp only[vz,gN]at h⊢;cases h1:seen.contains q.2.2 with
  |true=>
   rw[h1]at h;rw[show (seen++[p.2.2]).contains q.2.2=true by simp at h1⊢;exact .inl h1]
   exact Xm h
  | false=>
   rw[h1,cond_false]at h;rcases List.mem_cons.1 h with rfl|h
   ·rw[show (seen++[p.2.2]).contains p.2.2=true by simp]
    simp only[cond_true,cond_false,zU];omega
   ·have:=Xm h;cases (seen++[p.2.2]).contains q.2.2<;>simp only[cond_true,cond_false,zU]<;>omega
theorem Kp(l:List Nat)(b:Nat):Z6 (l++[b])=some b:=by
 induction l with
 |nil=>rfl
 |cons x l ih=>
  cases l with
  |nil=>rfl
  |cons y l=>simp only[zG,Z6]at ih⊢;exact ih
theorem V8{p:AV×AV×Nat}:∀{xs:List (AV×AV×Nat)},(xs.map (·.2.2)).Nodup→p∈xs→Y9 p.2.2 xs=some (p.1,p.2.1)
 | q::xs,h,hp=>by
  simp only[zv,zi0,zhe,not_exists,not_and]at h;simp only[Y9];rcases List.mem_cons.1 hp with rfl|hp
  ·rw[xT.2 rfl];rfl
  ·have:Nat.beq q.2.2 p.2.2=false:=by
    cases hb:Nat.beq q.2.2 p.2.2 with
    |false=>rfl
    |true=>exact absurd (xT.1 hb).symm (h.1 p hp)
   rw[this,cond_false];exact V8 h.2 hp
def RgI(sc ow l ow2:List Int)(xs:List (AV×AV×Nat))(seen:List Nat):Prop:=
 ow2.Nodup∧∀x,x∈ow2↔x∈ow∨(x∉sc∧x∈l∧∀p∈vz seen xs,p.1≠.int .i64 x)
theorem RgI.start{sc ow l:List Int}{xs:List (AV×AV×Nat)}{clk:Nat}(h:XsOk l xs clk)(hn:ow.Nodup):RgI sc ow l ow xs []:=⟨hn,fun x=>⟨.inl,fun h'=>by
 rcases h' with h'|⟨_,h2,h3⟩
 ·exact h'
 ·rw[Ks]at h3;obtain⟨q,hq,he⟩:=h.all x h2;exact absurd he (h3 q hq)⟩⟩
theorem RgI.step{sc ow l ow2:List Int}{xs:List (AV×AV×Nat)}{clk:Nat}{seen:List Nat}{p:AV×AV×Nat}{x:Int}(h:XsOk l xs clk)(hI:RgI sc ow l ow2 xs seen)(hp:p∈vz seen xs)(hx:p.1=.int .i64 x):RgI sc ow l (j7 sc ow2 x) xs (seen++[p.2.2]):=by
 obtain⟨h1,h2⟩:=hI;obtain⟨hp1,hp2⟩:=vR.1 hp;have hst:∀q∈xs,q.2.2=p.2.2→q=p:=fun q hq e=>by
  have:∀{xs:List (AV×AV×Nat)},(xs.map (·.2.2)).Nodup→∀q∈xs,∀q'∈xs,q.2.2=q'.2.2→q=q':=by
   intro xs
   induction xs with
   |nil=>intro _ q hq;cases hq
   |cons a xs ih=>
    intro h q hq q' hq' e;simp only[zv,zi0,zhe,not_exists,not_and]at h;rcases List.mem_cons.1 hq with e1|hq<;>rcases List.mem_cons.1 hq' with e2|hq'
    ·rw[e1,e2]
    ·exact absurd (e.symm.trans (by rw[e1])) (h.1 q' hq')
    ·exact absurd (e.trans (by rw[e2])) (h.1 q hq)
    ·exact ih h.2 q hq q' hq' e
  exact this h.st q hq p hp1 e
 refine⟨py h1,fun y=>?_⟩;rw[Zh,h2];constructor
 ·rintro((h3|⟨h3,h4,h5⟩)|⟨rfl,h3⟩)
  ·exact .inl h3
  ·refine .inr ⟨h3,h4,fun q hq=>h5 q ?_⟩;obtain⟨q1,q2⟩:=vR.1 hq;exact vR.2 ⟨q1,fun hh=>q2 (by simp[hh])⟩
  ·obtain⟨n,e1,_,e3⟩:=h.key p hp1;rw[hx]at e1;cases e1;refine .inr ⟨h3,e3,fun q hq e=>?_⟩;obtain⟨q1,q2⟩:=vR.1 hq;have:=h.one q q1 p hp1 (e.trans hx.symm);subst this;exact q2 (by simp)
 ·rintro(h3|⟨h3,h4,h5⟩)
  ·exact .inl (.inl h3)
  ·by_cases hy:y=x
   ·exact .inr ⟨hy,hy▸h3⟩
   ·refine .inl (.inr ⟨h3,h4,fun q hq e=>?_⟩);obtain⟨q1,q2⟩:=vR.1 hq;refine h5 q (vR.2 ⟨q1,fun hh=>?_⟩) e;rcases List.mem_append.1 hh with hh|hh
    ·exact q2 hh
    ·simp only[zQ]at hh;have:=hst q q1 hh;subst this;rw[hx]at e;cases e;exact hy rfl
theorem RgI.fin{sc ow l ow2:List Int}{xs:List (AV×AV×Nat)}{seen:List Nat}(hI:RgI sc ow l ow2 xs seen)(h0:vz seen xs=[])(hn:ow.Nodup):ow2.Perm (Yg sc ow l):=by
 refine zyI hI.1 (Yh hn) fun x=>?_;rw[hI.2,Uw,h0];constructor
 ·rintro(h|⟨h1,h2,_⟩)
  ·exact .inl h
  ·exact .inr ⟨h2,h1⟩
 ·rintro(h|⟨h1,h2⟩)
  ·exact .inl h
  ·exact .inr ⟨h2,h1,by simp⟩
open Int renaming reduceOfNat → rO, reduceNegSucc → rN
structure CO(C:Cx)(O:Orc):Prop where
 ok:CxOk C
 e:C.E=env
 o:C.O=O
 r:C.rd=none
theorem CO.ev{C:Cx}(h:CO C O){ic:ICode}{fr:Fr}{Q:Res→Fr→St→Prop}(q:Ev (evC env (evW env O) none ic fr s) Q):Tri C ic fr s Q:=zk8 h.ok (by rw[h.e,h.o,h.r];exact q)
theorem zp2{it m since st clk b:Nat}{seen:List Nat}{es:List (AV×AV×Nat)}{p:AV×AV}(h1:s.get it=some (.miter (some m) since seen st))(h2:Z6 seen=some b)(h3:s.get m=some (.map es clk))(h4:clk=st)(h5:Y9 b es=some p):vEn s (.ptr it 0)=some (.tup [p.1,p.2]):=by
 subst h4;simp only[vEn,h1,h2,h3,xT.2 rfl,cond_true,h5,zwg]
theorem zlv{l:List (Nat×Option AObj)}{n m id clk:Nat}{b:Bool}{es:List (AV×AV×Nat)}(h:xD l id=some (.map es clk)):oRm (KL l n m b [] none) (.map id)=some (.ptr n 0,KL ((n,some (.miter (some id) clk [] clk))::l) (n+1) m b [] none):=by
 simp only[oRm,x5,h];rfl
theorem CapM.re{E:CapE}{L L2:List (Nat×Option AObj)}{sc ow:List Int}(h:CapM E L n sc ow)(hf:∀j,xD L2 j=xD L j):CapM E L2 n sc ow where
 wf:=fun j hj=>by rw[hf];exact h.wf j hj
 len:=h.len
 nd:=h.nd
 hi:=h.hi
 row:=by rw[hf];exact h.row
 oth:=fun j id a b=>by rw[hf];exact h.oth j id a b
 own:=by rw[hf];exact h.own
 sco:=by rw[hf];exact h.sco
 sd:=h.sd
theorem CapS.re{E:CapE}{L0:List (Nat×Option AObj)}{n0 a0:Nat}{sc0:List Int}{t:Trm}{hs ow:List Int}{L:List (Nat×Option AObj)}{m hid:Nat}(h:CapS E L0 n0 a0 sc0 t hs ow L n m hid){L2:List (Nat×Option AObj)}(hf:∀j,xD L2 j=xD L j){m2:Nat}(hm:∀j,j<n0→¬E.W j→m2.testBit j=m.testBit j):CapS E L0 n0 a0 sc0 t hs ow L2 n m2 hid where
 M:=h.M.re hf
 n4:=h.n4
 r0:=by rw[hf];exact h.r0
 r1:=by rw[hf];exact h.r1
 r2:=by rw[hf];exact h.r2
 r3:=by rw[hf];exact h.r3
 hr:=h.hr.ext (zo _) (zo _) fun j _ _=>hf j
 le:=h.le
 nd:=h.nd
 ds:=h.ds
 lt:=h.lt
 fr:=fun j hj hW=>by rw[hf,hm j hj hW];exact h.fr j hj hW
theorem CapS.perm{E:CapE}{L0:List (Nat×Option AObj)}{n0 a0:Nat}{sc0:List Int}{t:Trm}{hs ow ow2:List Int}{L:List (Nat×Option AObj)}{m hid m2:Nat}(h:CapS E L0 n0 a0 sc0 t hs ow L n m hid)(hp:ow.Perm ow2)(hm:∀j,j<n0→¬E.W j→m2.testBit j=m.testBit j):CapS E L0 n0 a0 sc0 t hs ow2 ((E.oid,some (.umap (uS ow2)))::L) n m2 hid:=by
 have n4:=h.n4;have ho:E.oid<n0:=h.lt _ (.inl (.inl h.M.oidW))
 exact{
  M:=h.M.turn (WfA.same h.M.wf oM) (xG _ _ _) fun j hj hne hW=>by rw[xr,if_neg hne]
  n4:=n4
  r0:=by rw[xr,if_neg oM];exact h.r0
  r1:=by rw[xr,if_neg oM];exact h.r1
  r2:=by rw[xr,if_neg oM];exact h.r2
  r3:=by rw[xr,if_neg oM,←hp.length_eq];exact h.r3
  hr:=h.hr.ext (zo _) (zo _) fun j h1 h2=>by rw[xr,if_neg oM]
  le:=by rw[←hp.length_eq];exact h.le
  nd:=hp.nodup_iff.1 h.nd
  ds:=h.ds
  lt:=h.lt
  fr:=fun j hj hW=>by
   have hne:j≠E.oid:=fun e=>hW (by rw[e];exact .inl h.M.oidW)
   rw[hm j hj hW,xr,if_neg hne];exact h.fr j hj hW}
theorem CapS.itr{E:CapE}{L0:List (Nat×Option AObj)}{n0 a0:Nat}{sc0:List Int}{t:Trm}{hs ow:List Int}{L:List (Nat×Option AObj)}{m hid it:Nat}(h:CapS E L0 n0 a0 sc0 t hs ow L n m hid){L2:List (Nat×Option AObj)}{n2 m2:Nat}(hw:WfA L2 n2)(hn:n≤n2)(hit:n0+1+1+1+1≤it)(hh:hs≠[]→hid≠it)(hf:∀j,j<n→j≠it→xD L2 j=xD L j)(hm:∀j,j<n0→¬E.W j→m2.testBit j=m.testBit j):CapS E L0 n0 a0 sc0 t hs ow L2 n2 m2 hid:=by
 have n4:=h.n4;have ho:E.oid<n0:=h.lt _ (.inl (.inl h.M.oidW))
 exact{
  M:=h.M.turn hw (by rw[hf E.oid oM oM];exact h.M.own) fun j hj hne hW=>hf j hj (by have:=h.lt j hW;omega)
  n4:=oM
  r0:=by rw[hf n0 oM oM];exact h.r0
  r1:=by rw[hf (n0+1) oM oM];exact h.r1
  r2:=by rw[hf (n0+1+1) oM oM];exact h.r2
  r3:=by rw[hf (n0+1+1+1) oM oM];exact h.r3
  hr:=fun hne=>by
   obtain⟨h1,h2,h3⟩:=h.hr hne;exact⟨h1,oM,by rw[hf hid h2 (hh hne)];exact h3⟩
  le:=h.le
  nd:=h.nd
  ds:=h.ds
  lt:=h.lt
  fr:=fun j hj hW=>by
   rw[hf j oM oM,hm j hj hW];exact h.fr j hj hW}
def Vp(E:CapE)(k f:Int)(sc ow:List Int):List Int:=bif eqD k (.ofNat 2)then (if f.toNat=E.i then ow else Yg sc ow (zrm E.S f))else ow
theorem zoz{E:CapE}{k f:Int}{sc ow:List Int}(h:eqD k (.ofNat 2)=false):Vp E k f sc ow=ow:=by unfold Vp;rw[h];rfl
theorem zt6{E:CapE}{k:Int}{j:Nat}{sc ow:List Int}(h:eqD k (.ofNat 2)=true)(hj:j=E.i):Vp E k (.ofNat j) sc ow=ow:=by
 unfold Vp;rw[h,cond_true];exact if_pos hj
theorem zt5{E:CapE}{k:Int}{j:Nat}{sc ow:List Int}(h:eqD k (.ofNat 2)=true)(hj:j≠E.i):Vp E k (.ofNat j) sc ow=Yg sc ow (E.S.getD j []):=by
 unfold Vp;rw[h,cond_true];exact if_neg hj
section
variable {O:Orc}{E:CapE}{L0:List (Nat×Option AObj)}{n0 a0:Nat}{sc0 hs ow:List Int}{t:Trm}
attribute [local go_sem] xI xH ziS ziW ziV ziQ xW ltF gtF ww Hj in
theorem zt2(h72:O 81=none){C:Cx}(hC:CO C O)(hf:eqD t.kind (.ofNat 2)=true→∃j,t.fn=.ofNat j∧j<E.ids.length)(hN:E.ids.length<1000000000){fr:Fr}(hI:lJ E L0 n0 a0 sc0 t hs ow fr s):Tri C zoy fr s (wH (lJ E L0 n0 a0 sc0 t hs (Vp E t.kind t.fn (sc0++hs) ow)) fun _ _ _=>False):=by
 obtain⟨T,L,n,m,hid,rfl,rfl,hT,hS⟩:=hI;obtain⟨k,v,op,num,f,az,ks⟩:=t;simp only[Trm.kind,Trm.fn]at hf;show Tri C zoy _ _ (wH (lJ E L0 n0 a0 sc0 (.mk k v op num f az ks) hs (Vp E k f (sc0++hs) ow)) fun _ _ _=>False);have r0:=hS.r0;simp only[va,xP]at r0;have t4:=hT.t4;have t1:=hT.t1;have hwf:=hS.M.wf;have n4:=hS.n4;unfold zoy uw f45 cF;simp only;refine qg (hC.ev ?_);cases hk:eqD k (.ofNat 2)with
 |false=>
  rw[zoz hk];refine xu ?_;refine hC.ev ?_;refine xu ?_;exact⟨_,L,n,m,hid,rfl,rfl,by (repeat refine CapT.cons ?_ oM);exact hT,hS⟩
 | true=>
  obtain⟨j,rfl,hj⟩:=hf hk;refine xu ?_;refine zpW (b:=true) sV ?_;simp only[cond_true];have hjid:E.ids[j]? =some E.ids[j]:=yv hj;generalize hid0:E.ids[j]=id at hjid;have hidW:E.W id:=.inl (y7 hjid);have hidn:id<n0:=hS.lt _ (.inl hidW);have hrow:=hS.M.row;have hcut:xV 1 (wl j (E.ids.map AV.map))=some [.map id]:=by
   have:(E.ids.map AV.map).drop j=.map id::(E.ids.map AV.map).drop (j+1):=by
    rw[ziX (by simpa using hj)]
    simp[hid0]
   rw[wK,this];rfl
  have hfid:E.fid≠id:=fun e=>by
   have h1:=hS.M.row;rw[e]at h1;by_cases hji:j=E.i
   ·have h2:=hS.M.own;rw[show E.oid=id from by have:=hS.M.oid;rw[←hji,hjid]at this;cases this;rfl,h1]at h2;cases h2
   ·rw[hS.M.oth j id hjid hji]at h1;cases h1
  by_cases hji:j=E.i
  ·rw [zt6 hk hji];have hoid:E.oid=id:=by have:=hS.M.oid;rw[←hji,hjid]at this;cases this;rfl
   clear hji;have hoth:=hS.M.own;rw[hoid]at hoth;have hsid:id≠E.sid:=fun e=>hS.M.sd (e▸y7 hjid);have hS0:=hS;refine qg (XF hC.ok (id:=id) (es:=uS ow) (by rw[x5];exact hoth) fun xs clk hx=>?_)
   have hX:=XsOk.of hx;rw[uX];have hrm:=fun m'=> @zlv ((id,some (.map xs clk))::L) n m' id clk false xs (xG _ _ _);refine hC.ev (xu ?_);refine vf (Wx (fun x:List Nat=>(vz x xs).length) (fun x f t=>∃T L n2 m,f=⟨tmL T,[]⟩∧t=KL L n2 m false [] none∧CapT E n0 hid hs T∧(tmL T).get 42=some (.ptr n 0)∧xD L n=some (.miter (some id) clk x clk)∧xD L id=some (.map xs clk)∧n<n2∧CapS E L0 n0 a0 sc0 (.mk k v op num (.ofNat j) az ks) hs ow ((id,some (.umap (uS ow)))::L) n2 m hid) (fun x f t hI=>?_) [] ⟨_,_,n+1,_,rfl,rfl,?_,sV,xG _ _ _,by rw[xr,if_neg oM,xG],oM,?_⟩)
   ·obtain⟨T,L,n2,m,rfl,rfl,hT,t42,gi,gm,hn2,hS⟩:=hI;refine qg (zpX hC.ok (it:=n) (m:=id) (since:=clk) (last:=clk) (clk:=clk) (seen:=x) (es:=xs) t42 (by rw[x5];exact gi) (by rw[x5];exact gm) hX.old (zo _) (fun h0=>?_) fun p hp=>?_)
    ·have hid1:=hT.t9;refine⟨tmL ((44,.bool false)::(43,.tup [.bool false])::T),KL L n2 m false [] none,by rw[hC.e,hC.o];simp (disch:=first|exact dis|fail)only[go_sem,seval,-rO,-rN, *],?_⟩
     show Tri C _ _ _ _;refine XE hC.ok (es:=uS ow) (id:=id) (by rw[x5];exact gm) hx ?_
     rw[uX];refine hC.ev (xu ?_);refine⟨_,_,n2,_,hid,rfl,rfl,by (repeat refine CapT.cons ?_ oM);exact hT,hS.re (fun _=>rfl) fun i h1 h2=>?_⟩
     have e1:i≠id:=fun e=>h2 (by rw[e];exact hidW)
     rw[qn e1]
    ·obtain⟨hp1,hp2⟩:=vR.1 hp;obtain⟨y,hx1,hx2,hx3⟩:=hX.key p hp1;obtain⟨q,hq1,hq2⟩:=Lw (x:=y) 0 (fun q hq=>let ⟨n,h1,h2,_⟩:=hX.key q hq;⟨n,h1,h2⟩) ⟨p,hp1,hx1⟩
     have t9:=hT.t9;have hgi:xD ((n,some (.miter (some id) clk (x++[p.2.2]) clk))::L) id=some (.map xs clk):=by rw[xr,if_neg oM];exact gm
     have hen:=fun m'=>zp2 (s:=KL ((n,some (.miter (some id) clk (x++[p.2.2]) clk))::L) n2 m' false [] none) (it:=n) (by rw[x5,xG]) (Kp x p.2.2) (by rw[x5];exact hgi) rfl (V8 hX.st hp1)
     simp only[hx1,hx2]at hen;have hlt:=Xm hp;have hwf:=hS.M.wf;have hov:∀j,j≠id→xD ((id,some (.umap (uS ow)))::L) j=xD L j:=fun j hj=>by rw[xr,if_neg hj]
     have hge:∀j,n0≤j→j≠id:=fun j h=>oM;have g1:=hS.r1;have g2:=hS.r2;have gs:=hS.M.sco;rw[hov _ (hge _ oM)]at g1 g2;rw[hov _ (Ne.symm hsid)]at gs;rw[hoid]at g2;have l1:=hS.lt E.sid (.inl (.inr rfl));have l3:=hS.n4;have hwL:WfA L n2:=fun j hj=>by rw[←hov j oM];exact hwf j hj
     refine⟨tmL ((44,.bool true)::(43,.tup [.bool true,p.1,p.2.1])::T),KL ((n,some (.miter (some id) clk (x++[p.2.2]) clk))::L) n2 (uG m n) false [] none,by rw[hC.e,hC.o,uX];simp (disch:=first|exact dis|fail)only[go_sem,seval,-rO,-rN],?_⟩
     show Tri C _ _ _ _;generalize p.1=pk at *;generalize p.2.1=pv at *;generalize p.2.2=pb at *;subst hx1;subst hx2;have hS1:CapS E L0 n0 a0 sc0 (.mk k v op num (.ofNat j) az ks) hs ow ((id,some (.umap (uS ow)))::(n,some (.miter (some id) clk (x++[pb]) clk))::L) n2 (uG m n) hid:=by
      refine hS.itr (it:=n) ?_ (zo _) oM (fun hne=>?_) (fun i h1 h2=>?_) fun i h1 h2=>?_
      ·exact WfA.same (WfA.same hwL oM) oM
      ·have:=(hS0.hr hne).2.1;omega
      ·rw[xr,xr,xr,if_neg h2]
      ·rw[wJ,decide_eq_false oM,ziT]
     clear hS hoth hcut hrow hx hX hp hp1 gi hS0;refine hC.ev ?_;refine xB ?_;refine xE ?_;refine xB ?_;refine xK ?_;refine xC (zmT h72 (sc:=sc0++hs) (x:=y) (sid:=E.sid) (oid:=id) (clk:=clk) (xs:=xs) (p:=q) ?_ ?_ ?_ ?_ ?_ hq1 hq2 _ _) fun v t hv=>?_
     ·exact WfA.same hwL oM
     ·(repeat (rw[xr,if_neg oM]));exact g1
     ·(repeat (rw[xr,if_neg oM]));exact g2
     ·(repeat (rw[xr,if_neg oM]));exact gs
     ·exact hgi
     obtain⟨L2,n3,m2,rfl,hw2,hn3,q3⟩:=hv;refine xu ?_;refine⟨x++[pb],⟨_,L2,n3,m2,rfl,rfl,?_,sV,?_,?_,oM,?_⟩,hlt⟩
     ·(repeat refine CapT.cons ?_ oM);exact hT
     ·rw[(q3 n hn2).1,xG]
     ·rw[(q3 id oM).1];exact hgi
     ·refine hS1.oth (WfA.same hw2 oM) hn3 fun i h1=>?_;have:=q3 i h1;rw[xr,xr,this.1];exact⟨rfl,this.2⟩
   ·(repeat refine CapT.cons ?_ oM);exact hT
   ·refine hS0.itr (it:=n) ?_ oM oM (fun hne=>?_) (fun i h1 h2=>?_) fun i h1 h2=>?_
    ·exact WfA.same (WfA.same (WfA.same (hwf.up oM) oM) oM) oM
    ·have:=(hS0.hr hne).2.1;omega
    ·rw[xr];split
     ·rename_i e;rw[e];exact hoth.symm
     ·rename_i e;rw[xr,if_neg h2,xr,if_neg e]
    ·have e1:i≠id:=fun e=>h2 (by rw[e];exact hidW)
     repeat rw[qn oM]
  ·rw [zt5 hk hji];have hoth:=hS.M.oth j id hjid hji;have hne:=hS.M.one hjid hji;have hsid:id≠E.sid:=fun e=>hS.M.sd (e▸y7 hjid);generalize E.S.getD j []=l at *;have hS0:=hS;refine qg (XF hC.ok (id:=id) (es:=uS l) (by rw[x5];exact hoth) fun xs clk hx=>?_)
   have hX:=XsOk.of hx;rw[uX];have hrm:=fun m'=> @zlv ((id,some (.map xs clk))::L) n m' id clk false xs (xG _ _ _);refine hC.ev (xu ?_);refine vf (Wx (fun x:List Nat×List Int=>(vz x.1 xs).length) (fun x f t=>∃T L n2 m,f=⟨tmL T,[]⟩∧t=KL L n2 m false [] none∧CapT E n0 hid hs T∧(tmL T).get 42=some (.ptr n 0)∧xD L n=some (.miter (some id) clk x.1 clk)∧xD L id=some (.map xs clk)∧n<n2∧CapS E L0 n0 a0 sc0 (.mk k v op num (.ofNat j) az ks) hs x.2 ((id,some (.umap (uS l)))::L) n2 m hid∧RgI (sc0++hs) ow l x.2 xs x.1) (fun x f t hI=>?_) ([],ow) ⟨_,_,n+1,_,rfl,rfl,?_,sV,xG _ _ _,by rw[xr,if_neg oM,xG],oM,?_,RgI.start hX hS.nd⟩)
   ·obtain⟨seen,ow2⟩:=x;obtain⟨T,L,n2,m,rfl,rfl,hT,t42,gi,gm,hn2,hS,hR⟩:=hI;simp only at gi hS hR⊢;refine qg (zpX hC.ok (it:=n) (m:=id) (since:=clk) (last:=clk) (clk:=clk) (seen:=seen) (es:=xs) t42 (by rw[x5];exact gi) (by rw[x5];exact gm) hX.old (zo _) (fun h0=>?_) fun p hp=>?_)
    ·have hid1:=hT.t9;refine⟨tmL ((44,.bool false)::(43,.tup [.bool false])::T),KL L n2 m false [] none,by rw[hC.e,hC.o];simp (disch:=first|exact dis|fail)only[go_sem,seval,-rO,-rN, *],?_⟩
     show Tri C _ _ _ _;refine XE hC.ok (es:=uS l) (id:=id) (by rw[x5];exact gm) hx ?_
     rw[uX];have hperm:=hR.fin h0 hS0.nd;refine Jr hC.ok (id:=E.oid) (es:=uS ow2) (es2:=uS (Yg (sc0++hs) ow l)) (by rw[x5];exact hS.M.own) (hperm.map _) ?_
     rw[uX];refine hC.ev (xu ?_);refine⟨_,_,n2,_,hid,rfl,rfl,by (repeat refine CapT.cons ?_ oM);exact hT,hS.perm hperm fun i h1 h2=>?_⟩
     have e1:i≠id:=fun e=>h2 (by rw[e];exact hidW)
     have e2:i≠E.oid:=fun e=>h2 (by rw[e];exact .inl hS.M.oidW)
     rw[qn e2,qn e1]
    ·obtain⟨hp1,hp2⟩:=vR.1 hp;obtain⟨x,hx1,hx2,hx3⟩:=hX.key p hp1;have t9:=hT.t9;have hgi:xD ((n,some (.miter (some id) clk (seen++[p.2.2]) clk))::L) id=some (.map xs clk):=by rw[xr,if_neg oM];exact gm
     have hen:=fun m'=>zp2 (s:=KL ((n,some (.miter (some id) clk (seen++[p.2.2]) clk))::L) n2 m' false [] none) (it:=n) (by rw[x5,xG]) (Kp seen p.2.2) (by rw[x5];exact hgi) rfl (V8 hX.st hp1)
     simp only[hx1,hx2]at hen;have hlt:=Xm hp;have hstep:=hR.step hX hp hx1;have hwf:=hS.M.wf;have hov:∀j,j≠id→xD ((id,some (.umap (uS l)))::L) j=xD L j:=fun j hj=>by rw[xr,if_neg hj]
     have hge:∀j,n0≤j→j≠id:=fun j h=>oM;have g1:=hS.r1;have g2:=hS.r2;have g3:=hS.r3;have gs:=hS.M.sco;have go:=hS.M.own;rw[hov _ (hge _ oM)]at g1 g2 g3;rw[hov _ (Ne.symm hsid)]at gs;rw[hov _ (Ne.symm hne)]at go;have l1:=hS.lt E.sid (.inl (.inr rfl));have l2:=hS.lt E.oid (.inl (.inl hS.M.oidW));have l3:=hS.n4;have hwL:WfA L n2:=fun j hj=>by rw[←hov j oM];exact hwf j hj
     refine⟨tmL ((44,.bool true)::(43,.tup [.bool true,p.1,p.2.1])::T),KL ((n,some (.miter (some id) clk (seen++[p.2.2]) clk))::L) n2 (uG m n) false [] none,by rw[hC.e,hC.o,uX];simp (disch:=first|exact dis|fail)only[go_sem,seval,-rO,-rN],?_⟩
     show Tri C _ _ _ _;generalize p.1=pk at *;generalize p.2.1=pv at *;generalize p.2.2=pb at *;subst hx1;subst hx2;have hS1:CapS E L0 n0 a0 sc0 (.mk k v op num (.ofNat j) az ks) hs ow2 ((id,some (.umap (uS l)))::(n,some (.miter (some id) clk (seen++[pb]) clk))::L) n2 (uG m n) hid:=by
      refine hS.itr (it:=n) ?_ (zo _) oM (fun hne=>?_) (fun i h1 h2=>?_) fun i h1 h2=>?_
      ·exact WfA.same (WfA.same hwL oM) oM
      ·have:=(hS0.hr hne).2.1;omega
      ·rw[xr,xr,xr,if_neg h2]
      ·rw[wJ,decide_eq_false oM,ziT]
     clear hS hoth hcut hrow hx hX hR hp hp1 gi hS0;refine hC.ev ?_;refine xB ?_;refine xE ?_;refine xB ?_;refine xK ?_;refine xC (zpZ h72 (sc:=sc0++hs) (ow:=ow2) (g:=decide (ow2.length≠a0)) (x:=x) (sid:=E.sid) (oid:=E.oid) ?_ ?_ ?_ ?_ ?_ ?_ _ _) fun v t hv=>?_
     ·exact WfA.same hwL oM
     ·(repeat (rw[xr,if_neg oM]));exact g1
     ·(repeat (rw[xr,if_neg oM]));exact g2
     ·(repeat (rw[xr,if_neg oM]));exact g3
     ·(repeat (rw[xr,if_neg oM]));exact gs
     ·(repeat (rw[xr,if_neg oM]));exact go
     obtain⟨L2,n3,m2,rfl,hw2,hn3,q1,q2,q3⟩:=hv;refine xu ?_;refine⟨(seen++[pb],j7 (sc0++hs) ow2 x),⟨_,L2,n3,m2,rfl,rfl,?_,sV,?_,?_,oM,?_,hstep⟩,hlt⟩
     ·(repeat refine CapT.cons ?_ oM);exact hT
     ·rw[(q3 n hn2 oM oM).1,xG]
     ·rw[(q3 id oM hne oM).1];exact hgi
     ·refine hS1.use (WfA.same hw2 oM) hn3 (by rw[xr,if_neg (Ne.symm hne)];exact q1) (by rw[xr,if_neg oM];exact q2) fun i h1 h2 h3=>?_
      have:=q3 i h1 h2 h3;rw[xr,xr,this.1];exact⟨rfl,this.2⟩
   ·(repeat refine CapT.cons ?_ oM);exact hT
   ·refine hS0.itr (it:=n) ?_ oM oM (fun hne=>?_) (fun i h1 h2=>?_) fun i h1 h2=>?_
    ·exact WfA.same (WfA.same (WfA.same (hwf.up oM) oM) oM) oM
    ·have:=(hS0.hr hne).2.1;omega
    ·rw[xr];split
     ·rename_i e;rw[e];exact hoth.symm
     ·rename_i e;rw[xr,if_neg h2,xr,if_neg e]
    ·have e1:i≠id:=fun e=>h2 (by rw[e];exact hidW)
     repeat rw[qn oM]
end
def jA(t:Trm):List AV:=[vK t]
theorem VZ:∀x y,jA x=jA y→x=y:=fun _ _ h=>J1 (by simpa [jA]using h)
theorem JZ(t:Trm):wkL (jA t)=jA t:=by simp only[jA,wkL,Lk]
theorem Lj(t:Trm):xN (jA t)=true:=by simp only[jA,vK,xY,ve,gA,x6,xe]
noncomputable def pc:List AV→St→Option (AV×St):=vr jA (fun _=>True) (fun t=>.bool (gW t.kind))
attribute [local go_sem] jA vK xP in
theorem ztX(B:Bx P w0)(hO:OrcOk P w0 O)(t:Trm):∃s1,SC P w0 80 (jA t) (s00 0 true) (.bool (gW t.kind)) s1:=by
 refine be B hO f80 ?_;obtain⟨k,v,op,num,f,az,ks⟩:=t;unfold f80 cF;simp only[gW,Trm.kind];refine xB ?_;cases h1:eqD k (.ofNat 1)with
 |true=>
  refine xB ?_;refine wM (r:=.ret) ?_;show Cv _ _;refine xF ?_;exact w7 _ _
 |false=>
  refine xB ?_;refine wM (r:=.ret) ?_;show Cv _ _;refine xF ?_;exact w7 _ _
theorem Hx(B:Bx P w0)(hO:OrcOk P w0 O):qv P w0 80 pc:=
 Wa true Lj (fun _=>rfl) fun t _=>ztX B hO t
theorem zlJ{α:Type}{t:Nat}{f:α→List AV}(hl:∀x,(f x).length=esz)(hs:∀x,xZ (f x)=true)(he:1≤esz){L:List (Nat×Option AObj)}{m lo:Nat}{vs:List α}{w:α}{y:AV}(hr:GAt t f L lo n id vs)(hw:WfA L n)(hlo:lo≤n)(h1:uJ y=some 1)(h2:wS (KL L n m false [] none) esz 1 y=some (f w))(hb:2*(vs.length+1)*bytes≤281474976710656)(hn:vs.length+1<1000000000000):
  Cv (vC (KL L n m false [] none) t esz bytes (gSl esz id vs.length) y) fun v s=>∃id' L' n' m',v=gSl esz id' (vs++[w]).length∧s=KL L' n' m' false [] none∧GAt t f L' lo n' id' (vs++[w])∧WfA L' n'∧n≤n'∧(∀j,j<n→(vs≠[]→j≠id)→xD L' j=xD L j∧m'.testBit j=m.testBit j):=by
 have hfl:xA f [w]=f w:=qO w;cases vs with
 |nil=>
  refine⟨_,_,Hw (q:=0) h1 h2 (.inl rfl) he (by simp only[xd,yC]at hb;exact hb) oM,n,_,_,_,rfl,rfl,fun _=>⟨hlo,zV _,by rw[xr,if_pos rfl,ziZ,hfl]⟩,fun j hj=>?_,zhi _,fun j hj _=>⟨by rw[xr,if_neg oM],rfl⟩⟩
  rw[xr,if_neg oM];exact hw j oM
 | cons u us=>
  obtain⟨hlo2,hid,g1⟩:=hr (by simp)
  simp only[zU]at hb hn;have hsw:xZ (f w)=true:=hs w;refine⟨_,_,Vd (q:=0) (by rw[x5];exact g1) (by rw[ql hl];rfl) h1 h2 hsw he hb oM,n,_,_,_,?_,rfl,fun _=>⟨hlo,zV _,by rw[xr,if_pos rfl,wj,hfl]⟩,fun j hj=>?_,zhi _,fun j hj hne=>⟨by rw[xr,if_neg oM,xr,if_neg (hne (by simp))],?_⟩⟩
  ·simp only[zG,zU,yl,gSl]
   congr 1
  ·rw[xr,if_neg oM,xr];split
   ·rfl
   ·exact hw j oM
  ·rw[wJ,decide_eq_false (hne (by simp)),ziT]
def zt3:ICode:=match HH with
 |.seq a _=>a
 |_=>.skip
def HI:ICode:=match HH with
 |.seq _ (.seq a _)=>a
 |_=>.skip
def HK:ICode:=match HH with
 |.seq _ (.seq _ a)=>a
 |_=>.skip
def hsB(k v:Int)(sc0 hs:List Int):List Int:=bif gW k then (if v∈sc0++hs then hs else hs++[v])else hs
theorem zkr(k v:Int)(sc0 hs:List Int):sc0++hsB k v sc0 hs=scB k v (sc0++hs):=by
 unfold hsB scB Xi;cases gW k with
 |false=>rfl
 |true=>
  simp only[cond_true];split
  ·rfl
  ·rw[zi4]
theorem znK(k v:Int)(sc0 hs:List Int):(hsB k v sc0 hs).length≤hs.length+1:=by
 unfold hsB;cases gW k with
 |false=>simp only[cond_false];omega
 |true=>
  simp only[cond_true];split
  ·omega
  ·simp
theorem CapT.new{E:CapE}{n0 hid hid2:Nat}{hs hs2:List Int}{T:List (Nat×AV)}(h:CapT E n0 hid hs T):CapT E n0 hid2 hs2 ((10,gSl 1 hid2 hs2.length)::T):=by
 have e:∀i,i≠10→(tmL ((10,gSl 1 hid2 hs2.length)::T)).get i=(tmL T).get i:=fun i hi=>by rw[←QT,Trie.get_set_ne _ _ hi]
 obtain⟨t1,t4,t6,t7,t8,t9,t10⟩:=h;exact⟨by rw[e _ oM];exact t1,by rw[e _ oM];exact t4,by rw[e _ oM];exact t6,by rw[e _ oM];exact t7,by rw[e _ oM];exact t8,by rw[e _ oM];exact t9,by rw[←QT,Trie.get_set_same]⟩
theorem CapS.bind{E:CapE}{L0:List (Nat×Option AObj)}{n0 a0:Nat}{sc0:List Int}{t:Trm}{hs ow:List Int}{L:List (Nat×Option AObj)}{m hid:Nat}(h:CapS E L0 n0 a0 sc0 t hs ow L n m hid){v:Int}(hv:v∉sc0){L2:List (Nat×Option AObj)}{n2 m2 hid2:Nat}(hw:WfA L2 n2)(hn:n≤n2)(hsc:xD L2 E.sid=some (.umap (uS (sc0++(hs++[v])))))(hg:GAt 3 xL L2 (n0+1+1+1+1) n2 hid2 (hs++[v]))(hf:∀j,j<n→j≠E.sid→(hs≠[]→j≠hid)→xD L2 j=xD L j∧m2.testBit j=m.testBit j):CapS E L0 n0 a0 sc0 t (hs++[v]) ow L2 n2 m2 hid2:=by
 have n4:=h.n4;have hh:∀j,j<n0+1+1+1+1→(hs≠[]→j≠hid):=fun j hj hne=>by have:=(h.hr hne).1;omega
 have hl:∀j,E.W j∨j=E.fid→j<n0:=h.lt;have hsid:=hl E.sid (.inl (.inr rfl));have hne:∀j,j∈E.ids→j≠E.sid:=fun j hj e=>h.M.sd (e▸hj);have hfid:E.fid≠E.sid:=fun e=>by have h1:=h.M.row;rw[e,h.M.sco]at h1;cases h1
 exact{
  M :={
   wf:=hw
   len:=h.M.len
   nd:=h.M.nd
   hi:=h.M.hi
   row:=by have:=hl E.fid (.inr rfl);rw[(hf E.fid oM hfid (hh _ oM)).1];exact h.M.row
   oth:=fun j id hj hji=>by
    have hm:=y7 hj;have:=hl id (.inl (.inl hm));rw[(hf id oM (hne id hm) (hh _ oM)).1];exact h.M.oth j id hj hji
   own:=by have:=hl E.oid (.inl (.inl h.M.oidW));rw[(hf E.oid oM (hne _ h.M.oidW) (hh _ oM)).1];exact h.M.own
   sco:=hsc
   sd:=h.M.sd}
  n4:=oM
  r0:=by rw[(hf n0 oM oM (hh _ oM)).1];exact h.r0
  r1:=by rw[(hf (n0+1) oM oM (hh _ oM)).1];exact h.r1
  r2:=by rw[(hf (n0+1+1) oM oM (hh _ oM)).1];exact h.r2
  r3:=by rw[(hf (n0+1+1+1) oM oM (hh _ oM)).1];exact h.r3
  hr:=hg
  le:=h.le
  nd:=h.nd
  ds:=fun w hw=>by
   rcases List.mem_append.1 hw with hw|hw
   ·exact h.ds w hw
   ·simp only[zQ]at hw;rw[hw];exact hv
  lt:=h.lt
  fr:=fun j hj hW=>by
   have:=hf j oM (fun e=>hW (.inr e)) (hh _ oM);rw[this.1,this.2];exact h.fr j hj hW}
section
variable {O:Orc}{E:CapE}{L0:List (Nat×Option AObj)}{n0 a0:Nat}{sc0 hs ow:List Int}{t:Trm}
attribute [local go_sem] jo Zd kU kT jQ Z8 xI xH ziS ziW ziV ziQ xW ltF gtF ww Hj in
theorem zt4(h71:O 80=some pc)(hl:hs.length<1000000000){fr:Fr}(hI:lJ E L0 n0 a0 sc0 t hs ow fr s):Ev (evC env (evW env O) none zt3 fr s) (wH (lJ E L0 n0 a0 sc0 t (hsB t.kind t.var sc0 hs) ow) fun _ _ _=>False):=by
 obtain⟨T,L,n,m,hid,rfl,rfl,hT,hS⟩:=hI;have hb:=fun s=>oc h71 VZ t trivial (JZ t) s;obtain⟨k,v,op,num,f,az,ks⟩:=t;simp only[jA,vK,xP,Trm.kind,Trm.var]at hb⊢;have r0:=hS.r0;have r1:=hS.r1;have gs:=hS.M.sco;simp only[va,xP]at r0;have t4:=hT.t4;have t6:=hT.t6;have t10:=hT.t10;have hwf:=hS.M.wf;have n4:=hS.n4;have l1:E.sid<n0:=hS.lt E.sid (.inl (.inr rfl));unfold hsB;generalize gW k=bk at *;unfold zt3 HH uw f45 cF;simp only;by_cases hv:v∈sc0++hs
 ·have hk:=gI hv;have e1:(bif bk then (if v∈sc0++hs then hs else hs++[v])else hs)=hs:=by cases bk<;>simp[hv]
  rw[e1];clear e1 hv;have hS1:CapS E L0 n0 a0 sc0 (.mk k v op num f az ks) hs ow ((n,some (.row 69 [] false false))::(n,some (.row 69 [] false false))::L) (n+1) (m|||1<<<n) hid:=by
   refine hS.oth (WfA.same (WfA.same (hwf.up oM) oM) oM) oM fun j hj=>⟨?_,?_⟩
   ·(repeat (rw[xr,if_neg oM]))
   ·rw[qn oM]
  refine xB ?_;cases bk with
  |true=>
   refine xB ?_;refine xu ?_;exact⟨_,_,_,_,hid,rfl,rfl,by (repeat refine CapT.cons ?_ oM);exact hT,hS1⟩
  |false=>
   refine xB ?_;refine xu ?_;exact⟨_,_,_,_,hid,rfl,rfl,by (repeat refine CapT.cons ?_ oM);exact hT,hS1⟩
 ·have hk:=jX hv;have hst:=lD hv;have hv0:v∉sc0:=fun h=>hv (by simp[h])
  have hS1:CapS E L0 n0 a0 sc0 (.mk k v op num f az ks) hs ow ((n,some (.row 69 [] false false))::(n,some (.row 69 [] false false))::L) (n+1) (m|||1<<<n) hid:=by
   refine hS.oth (WfA.same (WfA.same (hwf.up oM) oM) oM) oM fun j hj=>⟨?_,?_⟩
   ·(repeat (rw[xr,if_neg oM]))
   ·rw[qn oM]
  refine xB ?_;cases bk with
  |false=>
   simp only[cond_false];refine xB ?_;refine xu ?_;exact⟨_,_,_,_,hid,rfl,rfl,by (repeat refine CapT.cons ?_ oM);exact hT,hS1⟩
  | true=>
   simp only[cond_true];rw[if_neg hv];clear hv;refine xB ?_;refine x4 sW ?_;refine xB ?_;refine xK ?_;refine xC (zlJ qy uZ oM (vs:=hs) (w:=v) (lo:=n0+1+1+1+1) (id:=hid) (hS.hr.ext (zo _) (Nat.le_succ_of_le (Nat.le_succ_of_le (zo _))) fun j h1 h2=>?_) ?_ oM rfl (jH (j:=0) (by rw[x5,xG];rfl) rfl).2 oM oM) fun v t hv=>?_
   ·(repeat (rw[xr,if_neg oM]))
   ·(repeat first|exact hwf.up oM|refine WfA.same ?_ oM)
   obtain⟨hid2,L2,n2,m2,rfl,rfl,q1,q2,q3,q4⟩:=hv;refine xu ?_;refine⟨_,L2,n2,m2,hid2,rfl,rfl,?_,hS.bind hv0 q2 oM ?_ q1 fun j h1 h2 h3=>?_⟩
   ·refine CapT.new (hs:=hs) (hid:=hid) ?_
    (repeat refine CapT.cons ?_ oM);exact hT
   ·rw[(q4 E.sid oM fun hne=>by have:=(hS.hr hne).1;omega).1]
    (repeat (rw[xr,if_neg oM]))
    rw[xG,zi4]
   ·have:=q4 j oM h3;rw[this.1,this.2];exact⟨by (repeat (rw[xr,if_neg oM])),by (repeat rw[qn oM])⟩
end
structure CapX where
 E:CapE
 t:Trm
 sc:List Int
def CapE.ow(E:CapE):List Int:=E.S.getD E.i []
structure CapPre(M:Nat)(x:CapX)(args:List AV)(s:St):Prop where
 args:args=[.agg (wy x.t),.sl x.E.fid 0 x.E.ids.length x.E.c,.map x.E.sid,.map x.E.oid]
 len:x.E.S.length=x.E.ids.length
 nd:x.E.ids.Nodup
 hi:x.E.i<x.E.ids.length
 sd:x.E.sid∉x.E.ids
 row:s.get x.E.fid=some (.row 63 (x.E.ids.map .map) x.E.xx x.E.ff)
 maps:∀j id,x.E.ids[j]? =some id→s.get id=some (.umap (uS (x.E.S.getD j [])))
 sco:s.get x.E.sid=some (.umap (uS x.sc))
 lt:∀j,x.E.W j∨j=x.E.fid→j<s.next
 ok:Qo x.E.ids.length x.t
 sz:wC x.t≤M
 ond:x.E.ow.Nodup
 N:x.E.ids.length<1000000000
def CapX.own(x:CapX):List Int:=uM x.E.S x.E.i x.t x.sc x.E.ow
def YM:List Nat→List (List Int)→List (Nat×AObj)
 |id::ids,l::S=>(id,.umap (uS l))::YM ids S
 |_,_=>[]
def CapX.objs(x:CapX):List (Nat×AObj):=(x.E.sid,.umap (uS x.sc))::YM x.E.ids (x.E.S.set x.E.i x.own)
theorem zxe{l m:List Int}(h:uS l=uS m):l=m:=by
 have:=congrArg (List.map (·.1)) h
 rwa [Hh,Hh]at this
theorem zn1{a:List Nat}(h:a.map AV.map=b.map AV.map):a=b:=by
 induction a generalizing b with
 |nil=>cases b with
  |nil=>rfl
  |cons _ _=>cases h
 | cons x a ih=>cases b with
  |nil=>cases h
  |cons y b=>
   simp only[zv,List.cons.injEq,AV.map.injEq]at h;rw[h.1,ih h.2]
theorem G1{E:CapE}(h:E.i<E.ids.length):E.ids[E.i]? =some E.oid:=by
 unfold CapE.oid;rw[yU,yv h];rfl
theorem CapPre.uniq{M:Nat}{x y:CapX}{args:List AV}(h:CapPre M x args s)(g:CapPre M y args s):x=y:=by
 obtain⟨⟨ids,S,i,fid,sid,c,xx,ff⟩,t,sc⟩:=x;obtain⟨⟨ids',S',i',fid',sid',c',xx',ff'⟩,t',sc'⟩:=y;have ha:=h.args.symm.trans g.args;simp only[List.cons.injEq,AV.agg.injEq,AV.sl.injEq,AV.map.injEq,true_and,and_true]at ha;obtain⟨h1,⟨rfl,h2,rfl⟩,rfl,h3⟩:=ha;have hr:=h.row.symm.trans g.row;simp only[Option.some.injEq,AObj.row.injEq,true_and]at hr;obtain⟨hr1,rfl,rfl⟩:=hr;have hids:=zn1 hr1;subst hids;have hi:i=i':=by
  have e1:=G1 h.hi;have e2:=G1 g.hi;rw[h3]at e1;exact(zi5 h.hi h.nd).1 (e1.trans e2.symm)
 subst hi;have hS:S=S':=by
  have l1:S.length=ids.length:=h.len;have l2:S'.length=ids.length:=g.len;refine List.ext_getElem? fun j=>?_;by_cases hj:j<ids.length
  ·have e1:=h.maps j _ (yv hj);have e2:=g.maps j _ (yv hj);have e3:=e1.symm.trans e2;simp only[Option.some.injEq,AObj.umap.injEq]at e3;have e4:=zxe e3;rw[yU,yU,yv oM,yv oM]at e4;rw[yv oM,yv oM];exact congrArg some e4
  ·rw[yb oM,yb oM]
 subst hS;have hsc:=h.sco.symm.trans g.sco;simp only[Option.some.injEq,AObj.umap.injEq]at hsc;rw[zxe hsc,lS h1]
theorem U3:∀{ids:List Nat} {S:List (List Int)},S.length=ids.length→(YM ids S).map (·.1)=ids
 |[],[],_=>rfl
 |id::ids,l::S,h=>by
  simp only[YM,zv];rw[U3 (by simpa using h)]
theorem U4:∀{ids:List Nat} {S:List (List Int)} {p:Nat×AObj},p∈YM ids S→∃j,ids[j]? =some p.1∧j<S.length∧p.2=.umap (uS (S.getD j []))
 |[],_,p,h=>by simp[YM]at h
 |_::_,[],p,h=>by simp[YM]at h
 |id::ids,l::S,p,h=>by
  simp only[YM,ziU]at h;rcases h with rfl|h
  ·exact⟨0,rfl,by simp,rfl⟩
  ·obtain⟨j,h1,h2,h3⟩:=U4 h;exact⟨j+1,by simpa using h1,by simpa using h2,by simpa using h3⟩
section
variable {M:Nat}{x:CapX}{args:List AV}{s:St}
theorem CapPre.fst(h:CapPre M x args s):x.objs.map (·.1)=x.E.sid::x.E.ids:=by
 simp only[CapX.objs,zv];rw[U3 (by rw[zi3];exact h.len)]
theorem CapPre.nodup(h:CapPre M x args s):(x.objs.map (·.1)).Nodup:=by
 rw[h.fst,zi0];exact⟨h.sd,h.nd⟩
theorem CapPre.mem(h:CapPre M x args s){p:Nat×AObj}(hp:p∈x.objs):(p.1=x.E.sid∧p.2=.umap (uS x.sc))∨∃j,x.E.ids[j]? =some p.1∧p.2=.umap (uS (if j=x.E.i then x.own else x.E.S.getD j [])):=by
 simp only[CapX.objs,ziU]at hp;rcases hp with rfl|hp
 ·exact .inl ⟨rfl,rfl⟩
 ·obtain⟨j,h1,h2,h3⟩:=U4 hp;refine .inr ⟨j,h1,?_⟩;rw[h3,yU,zhb];have hl:=h.len;rw[zi3]at h2;by_cases hj:j=x.E.i
  ·subst hj;simp[h2]
  ·rw[if_neg (Ne.symm hj),if_neg hj,←yU]
theorem CapPre.get(h:CapPre M x args s){p:Nat×AObj}(hp:p∈x.objs):∃o,s.get p.1=some o∧qG o=false:=by
 rcases h.mem hp with ⟨e,_⟩|⟨j,hj,_⟩
 ·rw[e];exact⟨_,h.sco,rfl⟩
 ·exact⟨_,h.maps j _ hj,rfl⟩
end
open Classical in
noncomputable def Yq(M:Nat)(args:List AV)(s:St):Option (AV×St):=
 if h:∃x,CapPre M x args s then some (.bool (decide ((zhc h).own.length≠(zhc h).E.ow.length)),Qz s (zhc h).objs)else none
theorem zxD{M:Nat}{x:CapX}{args:List AV}(h:CapPre M x args s):Yq M args s=some (.bool (decide (x.own.length≠x.E.ow.length)),Qz s x.objs):=by
 have hx:∃x,CapPre M x args s:=⟨x,h⟩;unfold Yq;rw[dif_pos hx,(Classical.choose_spec hx).uniq h]
theorem Uh{M:Nat}{args:List AV}(h:Yq M args s=some (v,s')):∃x,CapPre M x args s∧v=.bool (decide (x.own.length≠x.E.ow.length))∧s'=Qz s x.objs:=by
 by_cases hx:∃x,CapPre M x args s
 ·obtain⟨x,hx⟩:=hx;rw[zxD hx]at h;cases h;exact⟨x,hx,rfl,rfl⟩
 ·unfold Yq at h;rw[dif_neg hx]at h;cases h
theorem LC{M:Nat}(args:List AV)(s:St)(v:AV)(s':St)(h:Yq M args s=some (v,s')):Ext s s':=by
 obtain⟨x,hx,_,rfl⟩:=Uh h;exact UG _ s hx.nodup fun p hp=>hx.get hp
def Qy(L:List (Nat×Option AObj)):List (Nat×AObj)→List (Nat×Option AObj)
 |[]=>L
 |p::r=>Qy ((p.1,some p.2)::L) r
def Pa(m:Nat):List (Nat×AObj)→Nat
 |[]=>m
 |p::r=>Pa (uG m p.1) r
theorem zwj(n:Nat)(b:Bool)(hd:List (Nat×Nat))(on:Option (Nat×List Nat)):∀(W:List (Nat×AObj)) (L:List (Nat×Option AObj)) (m:Nat),Qz (KL L n m b hd on) W=KL (Qy L W) n (Pa m W) b hd on
 |[],_,_=>rfl
 |p::r,L,m=>by simp only[Qz,uX];exact zwj n b hd on r _ _
theorem vy:∀(W:List (Nat×AObj)) (L:List (Nat×Option AObj)) (j:Nat),(W.map (·.1)).Nodup→(∀o,(j,o)∈W→xD (Qy L W) j=some o)∧((∀p∈W,p.1≠j)→xD (Qy L W) j=xD L j)
 |[],_,_,_=>⟨by simp,fun _=>rfl⟩
 | p::r,L,j,h=>by
  simp only[zv,zi0,zhe,not_exists,not_and]at h;obtain⟨h1,h2⟩:=vy r ((p.1,some p.2)::L) j h.2;simp only[Qy];refine⟨fun o ho=>?_,fun hn=>?_⟩
  ·rcases List.mem_cons.1 ho with e|ho
   ·rw[h2 fun q hq e2=>h.1 q hq (by rw[e2,←e]),←e,xG]
   ·exact h1 o ho
  ·rw[h2 fun q hq=>hn q (by simp[hq]),xr,if_neg (fun e=>hn p (by simp) e.symm)]
theorem Kw:∀(W:List (Nat×AObj)) (m j:Nat),(∀p∈W,p.1≠j)→(Pa m W).testBit j=m.testBit j
 |[],_,_,_=>rfl
 |p::r,m,j,h=>by
  simp only[Pa];rw[Kw r _ j fun q hq=>h q (by simp[hq]),wJ,decide_eq_false (fun e=>h p (by simp) e.symm),ziT]
theorem zrn{S:List (List Int)}{i:Nat}{l:List Int}{f:Int}(h:f.toNat≠i):zrm (S.set i l) f=zrm S f:=by
 unfold zrm;rw[yU,yU,zi7 (Ne.symm h)]
mutual
theorem HP{S:List (List Int)}{i:Nat}{l:List Int}:∀(t:Trm) (sc ow:List Int),uM (S.set i l) i t sc ow=uM S i t sc ow
 | .mk k v op n f az ks,sc,ow=>by
  simp only[uM];rw[JE ks]
  congr 1
  unfold XP;cases eqD k (.ofNat 2)with
  |false=>rfl
  |true=>
   simp only[cond_true];split
   ·rfl
   ·rename_i h;rw[zrn h]
theorem JE{S:List (List Int)}{i:Nat}{l:List Int}:∀(ks:List Trm) (sc ow:List Int),v7 (S.set i l) i ks sc ow=v7 S i ks sc ow
 |[],_,_=>by simp only[v7]
 |x::r,sc,ow=>by
  simp only[v7];rw[JE r,HP x]
end
theorem zsa{M:Nat}(h48:O 45=some (Yq M)){E:CapE}{L:List (Nat×Option AObj)}{sc ow:List Int}{y:Trm}(hM:CapM E L n sc ow)(hlt:∀j,E.W j∨j=E.fid→j<n)(hok:Qo E.ids.length y)(hsz:wC y≤M)(hnd:ow.Nodup)(hN:E.ids.length<1000000000)(m:Nat)(b:Bool):
  Cv ((evW env O).call 45 [.agg (wy y),.sl E.fid 0 E.ids.length E.c,.map E.sid,.map E.oid] (KL L n m b [] none)) fun v t=>∃L2 m2,v=.bool (decide ((uM E.S E.i y sc ow).length≠ow.length))∧t=KL L2 n m2 b [] none∧xD L2 E.oid=some (.umap (uS (uM E.S E.i y sc ow)))∧(∀j,j≠E.oid→xD L2 j=xD L j)∧∀j,¬E.W j→m2.testBit j=m.testBit j:=by
 have hlen:=hM.len;have hhi:=hM.hi;have how:(E.S.set E.i ow).getD E.i []=ow:=by
  rw[yU,List.getElem?_set_self oM];rfl
 have hp:CapPre M ⟨{E with S:=E.S.set E.i ow},y,sc⟩ [.agg (wy y),.sl E.fid 0 E.ids.length E.c,.map E.sid,.map E.oid] (KL L n m b [] none):={
  args:=rfl
  len:=by show (E.S.set E.i ow).length=_;rw[zi3];exact hlen
  nd:=hM.nd
  hi:=hM.hi
  sd:=hM.sd
  row:=by rw[x5];exact hM.row
  maps:=fun j id hj=>by
   rw[x5];show xD L id=some (.umap (uS ((E.S.set E.i ow).getD j [])));by_cases hji:j=E.i
   ·subst hji;rw[how];have h1:=hM.oid;have hj':E.ids[E.i]? =some id:=hj;rw[h1]at hj';cases hj';exact hM.own
   ·rw[yU,zi7 (Ne.symm hji),←yU];exact hM.oth j id hj hji
  sco:=by rw[x5];exact hM.sco
  lt:=hlt
  ok:=hok
  sz:=hsz
  ond:=by show ((E.S.set E.i ow).getD E.i []).Nodup;rw[how];exact hnd
  N:=hN}
 have hown:CapX.own ⟨{E with S:=E.S.set E.i ow},y,sc⟩=uM E.S E.i y sc ow:=by
  show uM (E.S.set E.i ow) E.i y sc ((E.S.set E.i ow).getD E.i [])=_;rw[how,HP]
 have hcall:(evW env O).call 45 [.agg (wy y),.sl E.fid 0 E.ids.length E.c,.map E.sid,.map E.oid] (KL L n m b [] none)=some (.bool (decide ((uM E.S E.i y sc ow).length≠ow.length)),KL (Qy L (CapX.objs ⟨{E with S:=E.S.set E.i ow},y,sc⟩)) n (Pa m (CapX.objs ⟨{E with S:=E.S.set E.i ow},y,sc⟩)) b [] none):=by
  rw[wx h48,zxD hp,zwj,hown];rw[show CapE.ow {E with S:=E.S.set E.i ow}=ow from how]
 have hfst:=hp.fst;have hnodup:=hp.nodup;have hmem:∀p∈CapX.objs ⟨{E with S:=E.S.set E.i ow},y,sc⟩,E.W p.1:=fun p hpp=>by
  have:p.1∈E.sid::E.ids:=by
   have h1:p.1∈(CapX.objs ⟨{E with S:=E.S.set E.i ow},y,sc⟩).map (·.1):=List.mem_map.2 ⟨p,hpp,rfl⟩
   rw[hfst]at h1;exact h1
  rcases List.mem_cons.1 this with h|h
  ·exact .inr h
  ·exact .inl h
 refine⟨_,_,hcall,_,_,rfl,rfl,?_,fun j hj=>?_,fun j hj=>?_⟩
 ·obtain⟨p,hpp,hpe⟩:∃p∈CapX.objs ⟨{E with S:=E.S.set E.i ow},y,sc⟩,p.1=E.oid:=by
   have:E.oid∈(CapX.objs ⟨{E with S:=E.S.set E.i ow},y,sc⟩).map (·.1):=by rw[hfst];exact yR _ hM.oidW
   obtain⟨p,h1,h2⟩:=List.mem_map.1 this;exact⟨p,h1,h2⟩
  rcases hp.mem hpp with ⟨e,_⟩|⟨j,hj,he⟩
  ·exact absurd (e.symm.trans hpe) (fun e2=>hM.sd (e2▸hM.oidW))
  ·have hji:j=E.i:=by
    have h1:E.ids[j]? =some p.1:=hj;rw[hpe]at h1;exact(zi5 (List.getElem?_eq_some_iff.1 h1).1 hM.nd).1 (h1.trans hM.oid.symm)
   rw[if_pos (show j=({E with S:=E.S.set E.i ow}:CapE).i from hji),hown]at he
   have:=(vy _ L E.oid hnodup).1 p.2 (by rw[←hpe];exact hpp)
   rw[this,he]
 ·by_cases hW:∃p∈CapX.objs ⟨{E with S:=E.S.set E.i ow},y,sc⟩,p.1=j
  ·obtain⟨p,hpp,rfl⟩:=hW;rw[(vy _ L p.1 hnodup).1 p.2 hpp];rcases hp.mem hpp with ⟨e,he⟩|⟨i,hi,he⟩
   ·rw[he,e];exact hM.sco.symm
   ·have hi':E.ids[i]? =some p.1:=hi;have hne:i≠E.i:=fun e=>by
     rw[e,hM.oid]at hi';exact hj (Option.some.inj hi').symm
    rw[if_neg (show ¬i=({E with S:=E.S.set E.i ow}:CapE).i from hne)]at he
    rw[he];show some (AObj.umap (uS ((E.S.set E.i ow).getD i [])))=_;rw[yU,zi7 (Ne.symm hne),←yU];exact(hM.oth i p.1 hi' hne).symm
  ·exact(vy _ L j hnodup).2 fun p hpp e=>hW ⟨p,hpp,e⟩
 ·exact Kw _ m j fun p hpp e=>hj (e▸hmem p hpp)
theorem CapS.grow{E:CapE}{L0:List (Nat×Option AObj)}{n0 a0:Nat}{sc0:List Int}{t:Trm}{hs ow ow2:List Int}{L:List (Nat×Option AObj)}{m hid:Nat}(h:CapS E L0 n0 a0 sc0 t hs ow L n m hid){L2:List (Nat×Option AObj)}{n2 m2:Nat}(hw:WfA L2 n2)(hn:n≤n2)(h1:xD L2 E.oid=some (.umap (uS ow2)))(hle:ow.length≤ow2.length)(hnd:ow2.Nodup)(h2:xD L2 (n0+1+1+1)=some (.row 4 [.bool (decide (ow2.length≠a0))] false false))(hf:∀j,j<n→j≠E.oid→j≠n0+1+1+1→xD L2 j=xD L j)(hm:∀j,j<n0→¬E.W j→m2.testBit j=m.testBit j):CapS E L0 n0 a0 sc0 t hs ow2 L2 n2 m2 hid:=by
 have n4:=h.n4;have ho:E.oid<n0:=h.lt _ (.inl (.inl h.M.oidW))
 exact{
  M:=h.M.turn hw h1 fun j hj hne hW=>hf j hj hne (by have:=h.lt j hW;omega)
  n4:=oM
  r0:=by rw[hf n0 oM oM oM];exact h.r0
  r1:=by rw[hf (n0+1) oM oM oM];exact h.r1
  r2:=by rw[hf (n0+1+1) oM oM oM];exact h.r2
  r3:=h2
  hr:=h.hr.ext (zo _) hn fun j h1 h2=>hf j h2 oM oM
  le:=zr h.le hle
  nd:=hnd
  ds:=h.ds
  lt:=h.lt
  fr:=fun j hj hW=>by
   rw[hf j oM (fun e=>hW (e▸.inl h.M.oidW)) oM,hm j hj hW];exact h.fr j hj hW}
theorem CapS.term{E:CapE}{L0:List (Nat×Option AObj)}{n0 a0:Nat}{sc0:List Int}{t t2:Trm}{hs ow:List Int}{L:List (Nat×Option AObj)}{m hid:Nat}(h:CapS E L0 n0 a0 sc0 t hs ow L n m hid){L2:List (Nat×Option AObj)}{n2 m2:Nat}(hw:WfA L2 n2)(hn:n≤n2)(h1:xD L2 n0=some (va t2))(hf:∀j,j<n→j≠n0→xD L2 j=xD L j)(hm:∀j,j<n0→m2.testBit j=m.testBit j):CapS E L0 n0 a0 sc0 t2 hs ow L2 n2 m2 hid:=by
 have n4:=h.n4;have ho:E.oid<n0:=h.lt _ (.inl (.inl h.M.oidW))
 exact{
  M:=h.M.turn hw (by rw[hf E.oid oM oM];exact h.M.own) fun j hj hne hW=>hf j hj (by have:=h.lt j hW;omega)
  n4:=oM
  r0:=h1
  r1:=by rw[hf (n0+1) oM oM];exact h.r1
  r2:=by rw[hf (n0+1+1) oM oM];exact h.r2
  r3:=by rw[hf (n0+1+1+1) oM oM];exact h.r3
  hr:=h.hr.ext (zo _) hn fun j h1 h2=>hf j h2 oM
  le:=h.le
  nd:=h.nd
  ds:=h.ds
  lt:=h.lt
  fr:=fun j hj hW=>by
   rw[hf j oM oM,hm j hj];exact h.fr j hj hW}
theorem kr{sc:List Int}:∀{az:List Atm} {ow:List Int},ow.Nodup→(qS sc ow az).Nodup
 |[],_,h=>h
 |a::r,ow,h=>by
  simp only[qS];refine kr ?_;cases eqD a.k (.ofNat 1)with
  |true=>exact py h
  |false=>exact h
theorem zoB{S:List (List Int)}{i:Nat}{k f:Int}{az:List Atm}{sc ow:List Int}:ow.length≤(XP S i k f az sc ow).length∧(ow.Nodup→(XP S i k f az sc ow).Nodup):=by
 unfold XP;cases eqD k (.ofNat 2)with
 |false=>exact⟨lO _ _ _,kr⟩
 |true=>
  simp only[cond_true];split
  ·exact⟨lO _ _ _,kr⟩
  ·exact⟨zr (lO _ _ _) (HM _ _ _),fun h=>Yh (kr h)⟩
mutual
theorem Gp{S:List (List Int)}{i:Nat}:∀(t:Trm) (sc ow:List Int),ow.length≤(uM S i t sc ow).length∧(ow.Nodup→(uM S i t sc ow).Nodup)
 |.mk k v op n f az ks,sc,ow=>by
  simp only[uM];have h1:= @zoB S i k f az sc ow;have h2:=HL (S:=S) (i:=i) ks (scB k v sc) (XP S i k f az sc ow);exact⟨zr h1.1 h2.1,fun h=>h2.2 (h1.2 h)⟩
theorem HL{S:List (List Int)}{i:Nat}:∀(ks:List Trm) (sc ow:List Int),ow.length≤(v7 S i ks sc ow).length∧(ow.Nodup→(v7 S i ks sc ow).Nodup)
 |[],_,_=>by simp only[v7];exact⟨zo _,fun h=>h⟩
 |x::r,sc,ow=>by
  simp only[v7];have h1:=HL (S:=S) (i:=i) r sc ow;have h2:=Gp (S:=S) (i:=i) x sc (v7 S i r sc ow);exact⟨zr h1.1 h2.1,fun h=>h2.2 (h1.2 h)⟩
end
section
variable {O:Orc}{E:CapE}{L0:List (Nat×Option AObj)}{n0 a0:Nat}{sc0 hs ow:List Int}{t:Trm}
attribute [local go_sem] jo Zd kU kT jQ Z8 xI xH ziS ziW ziV ziQ xW ltF gtF ww Hj in
theorem zwS{M:Nat}(h48:O 45=some (Yq M)){k v op num f:Int}{az:List Atm}{x y:Trm}{fr:Fr}(hok:Qo E.ids.length y)(hsz:wC y≤M)(hN:E.ids.length<1000000000)(hI:lJ E L0 n0 a0 sc0 (.mk k v op num f az [x,y]) hs ow fr s):Ev (evC env (evW env O) none HI fr s) (wH (lJ E L0 n0 a0 sc0 (.mk k v op num f az [x,y]) hs (uM E.S E.i y (sc0++hs) ow)) fun _ _ _=>False):=by
 obtain⟨T,L,n,m,hid,rfl,rfl,hT,hS⟩:=hI;have r0:=hS.r0;have r1:=hS.r1;have r2:=hS.r2;have r3:=hS.r3;have hc:xV 7 (wl 7 (wc [x,y]))=some (wy y):=by
  simp only[qa,gB,ziJ];rw[wK,zhg (wg x)];exact wF (wg y)
 simp only[va,xP,zU,xd]at r0;have t1:=hT.t1;have t4:=hT.t4;have t6:=hT.t6;have t7:=hT.t7;have t8:=hT.t8;have hwf:=hS.M.wf;have n4:=hS.n4;have ho:E.oid<n0:=hS.lt _ (.inl (.inl hS.M.oidW));have hle:=Gp (S:=E.S) (i:=E.i) y (sc0++hs) ow;unfold HI HH uw f45 cF;simp only;refine xB ?_;refine x4 sW ?_;refine xK ?_;refine wh (zsa h48 hS.M (fun j hj=>by have:=hS.lt j hj;omega) hok hsz hS.nd hN 0 false) fun v t hv=>?_
 obtain⟨L2,m2,rfl,rfl,q1,q2,q3⟩:=hv;have g8:xD L2 (n0+1+1+1)=some (.row 4 [.bool (decide (ow.length≠a0))] false false):=by rw[q2 _ oM];exact r3
 generalize hR:uM E.S E.i y (sc0++hs) ow=ow2 at *;have hla:=hS.le;have hw2:WfA L2 n:=fun j hj=>by rw[q2 j oM];exact hwf j hj
 generalize hfl:decide (ow2.length≠ow.length)=b1 at *;generalize hf0:decide (ow.length≠a0)=b0 at *;have hfin:∀{L3:List (Nat×Option AObj)} {m3:Nat},xD L3 (n0+1+1+1)=some (.row 4 [.bool (b1||b0)] false false)→(∀j,j≠n0+1+1+1→xD L3 j=xD L2 j)→(∀j,j<n0→¬E.W j→m3.testBit j=m.testBit j)→CapS E L0 n0 a0 sc0 (.mk k v op num f az [x,y]) hs ow2 L3 n m3 hid:=by
  intro L3 m3 z1 z2 z3;refine hS.grow (fun j hj=>by rw[z2 j oM];exact hw2 j hj) (zo _) (by rw[z2 _ oM];exact q1) hle.1 (hle.2 hS.nd) ?_ (fun j h1 h2 h3=>by rw[z2 j h3];exact q2 j h2) z3
  rw[z1,←hfl,←hf0];have h1:=hle.1
  congr 3
  by_cases h2:ow2.length=ow.length
  ·rw[h2];simp
  ·rw[decide_eq_true h2];exact congrArg _ (by rw[decide_eq_true (show ow2.length≠a0 by omega)];rfl)
 have hm2:∀j,¬E.W j→(m|||m2).testBit j=m.testBit j:=fun j hj=>by rw[yG,q3 j hj];simp
 clear hfl hf0 r3 hS hle q1 q2 q3;cases b1 with
 |true=>
  refine xu ?_;refine⟨_,_,_,_,hid,rfl,rfl,by (repeat refine CapT.cons ?_ oM);exact hT,hfin (by rw[xG];rfl) (fun j hj=>by rw[xr,if_neg hj]) fun j h1 h2=>?_⟩
  rw[qn oM,hm2 j h2]
 |false=>
  refine xu ?_;refine⟨_,_,_,_,hid,rfl,rfl,by (repeat refine CapT.cons ?_ oM);exact hT,hfin (by rw[xG];rfl) (fun j hj=>by rw[xr,if_neg hj]) fun j h1 h2=>?_⟩
  rw[qn oM,hm2 j h2]
attribute [local go_sem] xI xH ziS ziW ziV ziQ xW ltF gtF ww Hj in
theorem HJ{k v op num f:Int}{az:List Atm}{ks:List Trm}{fr:Fr}(hk:ks.length<2)(hI:lJ E L0 n0 a0 sc0 (.mk k v op num f az ks) hs ow fr s):Ev (evC env (evW env O) none HI fr s) (wH (lJ E L0 n0 a0 sc0 (.mk k v op num f az ks) hs ow) fun _ _ _=>False):=by
 obtain⟨T,L,n,m,hid,rfl,rfl,hT,hS⟩:=hI;have r0:=hS.r0;simp only[va,xP]at r0;have t4:=hT.t4;have hne:ks.length≠2:=oM;unfold HI HH uw f45 cF;simp only;refine xB ?_;refine xu ?_;exact⟨_,L,n,m,hid,rfl,rfl,by (repeat refine CapT.cons ?_ oM);exact hT,hS⟩
attribute [local go_sem] xI xH ziS ziW ziV ziQ xW ltF gtF ww Hj in
theorem zwT{k v op num f:Int}{az:List Atm}{fr:Fr}(hI:lJ E L0 n0 a0 sc0 (.mk k v op num f az []) hs ow fr s):Ev (evC env (evW env O) none HK fr s) fun r f2 t=>r=.exit 0∧lJ E L0 n0 a0 sc0 (.mk k v op num f az []) hs ow f2 t:=by
 obtain⟨T,L,n,m,hid,rfl,rfl,hT,hS⟩:=hI;have r0:=hS.r0;simp only[va,xP,xd]at r0;have t4:=hT.t4;unfold HK HH uw f45 cF;simp only;refine xz (xB ?_);refine xu ?_;exact⟨trivial,_,L,n,m,hid,rfl,rfl,by (repeat refine CapT.cons ?_ oM);exact hT,hS⟩
attribute [local go_sem] xI xH ziS ziW ziV ziQ xW ltF gtF ww Hj in
theorem Vo{k v op num f:Int}{az:List Atm}{x:Trm}{r:List Trm}{fr:Fr}(hr:r.length<1000000000)(hI:lJ E L0 n0 a0 sc0 (.mk k v op num f az (x::r)) hs ow fr s):Ev (evC env (evW env O) none HK fr s) (wH (lJ E L0 n0 a0 sc0 x hs ow) fun _ _ _=>False):=by
 obtain⟨T,L,n,m,hid,rfl,rfl,hT,hS⟩:=hI;have r0:=hS.r0;simp only[va,xP,zU]at r0;have t4:=hT.t4;have hc:xV 7 (wc (x::r))=some (wy x):=by
  rw[qa];exact qI (wg x)
 have hsc:=jT x;have hln:=wg x;unfold HK HH uw f45 cF;simp only;obtain⟨k2,v2,op2,num2,f2,as2,ks2⟩:=x;simp only[xP]at hc hsc hln;refine xz (xB ?_);refine xu ?_;refine xu ?_;have n4:=hS.n4;refine⟨_,_,n,_,hid,rfl,rfl,by (repeat refine CapT.cons ?_ oM);exact hT,hS.term (WfA.same hS.M.wf oM) (zo _) (by rw[xG,va,xP]) (fun j h1 h2=>by (repeat rw[xr,if_neg h2])) fun j h1=>?_⟩
 rw[qn oM]
end
theorem uY{I K:Fr→St→Prop}{Q:Res→Fr→St→Prop}(h:∀f t,I f t→K f t):∀r f t,wH I (fun _ _ _=>False) r f t→wH K Q r f t:=fun r f t hb=>by
 cases r with
 |norm=>exact h f t hb
 |exit i=>cases hb
 |ret=>cases hb
theorem zzy:uw=.seq zlP (.seq zoy (.seq zt3 (.seq HI HK))):=rfl
theorem zoA{E:CapE}{k f:Int}{az:List Atm}{sc ow:List Int}:XP E.S E.i k f az sc ow=Vp E k f sc (qS sc ow az):=by
 unfold XP Vp;cases eqD k (.ofNat 2)<;>rfl
theorem qQ:∀t:Trm,0<wC t
 |.mk _ _ _ _ _ _ _=>by simp only[wC];omega
section
variable {O:Orc}{E:CapE}{L0:List (Nat×Option AObj)}{n0 a0:Nat}{sc0:List Int}
theorem HO{M:Nat}(h72:O 81=none)(h71:O 80=some pc)(h48:O 45=some (Yq M)){C:Cx}(hC:CO C O)(hN:E.ids.length<1000000000){t:Trm}{ow:List Int}(hok:Qo E.ids.length t)(hsz:wC t≤M+1)(hM:M<900000000){fr:Fr}{s:St}(hI:lJ E L0 n0 a0 sc0 t [] ow fr s):
  Tri C (.block 0 (.loop (.block 1 uw))) fr s (wH (fun f s=>∃t2 hs,lJ E L0 n0 a0 sc0 t2 hs (uM E.S E.i t sc0 ow) f s∧hs.length<1000000000) fun _ _ _=>False):=by
 refine vf (Wx (fun x:Trm×List Int×List Int=>wC x.1) (fun x f s=>lJ E L0 n0 a0 sc0 x.1 x.2.1 x.2.2 f s∧uM E.S E.i x.1 (sc0++x.2.1) x.2.2=uM E.S E.i t sc0 ow∧Qo E.ids.length x.1∧wC x.1≤M+1∧x.2.1.length+wC x.1≤M+1) (fun x f s hx=>?_) (t,[],ow) ⟨hI,by rw[ziJ],hok,hsz,by simpa using hsz⟩)
 obtain⟨⟨k,v,op,num,fn,az,ks⟩,hs,ow1⟩:=x;obtain⟨hI,hR,hok,hsz,hlen⟩:=hx;simp only[Qo]at hI hR hok hsz hlen;obtain⟨ha,hk,hf,hks⟩:=hok;simp only[uM]at hR;rw[zoA]at hR;rw[zzy];refine vf (qg ((hC.ev (zox (t:=.mk k v op num fn az ks) h72 ha hI)).mono (uY fun f s hI=>?_)));refine qg ((zt2 (t:=.mk k v op num fn az ks) h72 hC hf hN hI).mono (uY fun f s hI=>?_));simp only[wC]at hsz hlen;refine qg ((hC.ev (zt4 (t:=.mk k v op num fn az ks) h71 oM hI)).mono (uY fun f s hI=>?_));simp only[Trm.kind,Trm.var,Trm.atoms,Trm.fn]at hI;rw[←zkr]at hR;have hh:=znK k v sc0 hs;generalize hsB k v sc0 hs=hs2 at *;generalize Vp E k fn (sc0++hs) (qS (sc0++hs) ow1 az)=ow2 at *
 match ks,hk,hks,hsz,hlen,hR,hI with
 |[],_,_,hsz,hlen,hR,hI=>
  refine qg ((hC.ev (HJ (by simp) hI)).mono (uY fun f s hI=>?_))
  refine(hC.ev (zwT hI)).mono fun r f2 t2=>?_
  rintro⟨rfl,hI⟩
  simp only[v7]at hR;rw[hR]at hI;exact⟨_,hs2,hI,by simp only[qB]at hlen;omega⟩
 | [x],_,hks,hsz,hlen,hR,hI=>
  refine qg ((hC.ev (HJ (by simp) hI)).mono (uY fun f s hI=>?_))
  refine(hC.ev (Vo (by simp) hI)).mono fun r f2 t2 hb=>?_
  cases r with
  |exit i=>cases hb
  |ret=>cases hb
  |norm=>
   simp only[v7]at hR;simp only[qB]at hsz hlen;exact⟨(x,hs2,ow2),⟨hb,hR,hks.1,by simp only;omega,by simp only;omega⟩,by simp only[wC,qB];omega⟩
 | [x,y],_,hks,hsz,hlen,hR,hI=>
  simp only[qB]at hsz hlen;have hpx:=qQ x;have hpy:=qQ y;refine qg ((hC.ev (zwS h48 hks.2.1 oM hN hI)).mono (uY fun f s hI=>?_));refine(hC.ev (Vo (by simp) hI)).mono fun r f2 t2 hb=>?_
  cases r with
  |exit i=>cases hb
  |ret=>cases hb
  |norm=>
   simp only[v7]at hR;exact⟨(x,hs2,_),⟨hb,hR,hks.1,by simp only;omega,by simp only;omega⟩,by simp only[wC,qB];omega⟩
 |_::_::_::_,hk,_,_,_,_,_=>simp at hk
end
theorem Lb{v:Int}{r:List Int}:∀{sc:List Int},v∉sc→Y2 v (uS (sc++v::r))=uS (sc++r)
 |[],_=>by simp[uS,Y2,kv]
 |x::sc,h=>by
  simp only[ziU,not_or]at h;simp only[uS,zG,zv,Y2,kv];rw[decide_eq_false (Ne.symm h.1),cond_false];have:=Lb (r:=r) (sc:=sc) h.2;simp only[uS]at this;rw[this]
theorem jx{l:List Int}{i:Nat}{o:Int}{r:List Int}(hd:l.drop i=o::r):xV 1 (wl i (xA xL l))=some [.int .i64 o]:=by
 have:=zjs hd;rwa [xi]at this
def Gq:ICode:=match f45.body with
 |.seq _ (.seq _ (.seq _ (.seq _ d)))=>d
 |_=>.skip
section
variable {O:Orc}{E:CapE}{L0:List (Nat×Option AObj)}{n0 a0:Nat}{sc0:List Int}
attribute [local go_sem] zma zjI xI xH ziS ziW ziV ziQ xW ltF gtF ww in
theorem zzz{t2:Trm}{hs ow:List Int}{fr:Fr}(hl:hs.length<1000000000)(hI:lJ E L0 n0 a0 sc0 t2 hs ow fr s):Ev (evC env (evW env O) none Gq fr s) fun r f t=>r=.ret∧∃T L n m,f=⟨tmL T,[]⟩∧t=KL L n m false [] none∧(tmL T).get 8=some (.ptr (n0+1+1+1) 0)∧xD L (n0+1+1+1)=some (.row 4 [.bool (decide (ow.length≠a0))] false false)∧CapM E L n sc0 ow∧∀j,j<n0→¬E.W j→m.testBit j=false:=by
 obtain⟨T,L,n,m,hid,rfl,rfl,hT,hS⟩:=hI;have t10:=hT.t10;have t6:=hT.t6;have t8:=hT.t8;have hwf:=hS.M.wf;have n4:=hS.n4;have l1:E.sid<n0:=hS.lt E.sid (.inl (.inr rfl));unfold Gq f45 cF;simp only;refine xz (xB ?_);refine xE ?_;refine xU (fun i:Nat=>hs.length-i) (fun i f t=>∃T L2 m2,f=⟨tmL T,[]⟩∧t=KL L2 n m2 false [] none∧(tmL T).get 6=some (.ptr (n0+1) 0)∧(tmL T).get 8=some (.ptr (n0+1+1+1) 0)∧(tmL T).get 95=some (gSl 1 hid hs.length)∧(tmL T).get 96=some (.int .i64 (.ofNat hs.length))∧(tmL T).get 97=some (.int .i64 (.ofNat i))∧i≤hs.length∧xD L2 E.sid=some (.umap (uS (sc0++hs.drop i)))∧(∀j,j≠E.sid→xD L2 j=xD L j)∧∀j,j≠E.sid→m2.testBit j=m.testBit j) (fun i f t hI=>?_) 0 ⟨_,L,m,rfl,rfl,sV,sV,sV,sV,sV,zK _,hS.M.sco,fun _ _=>rfl,fun _ _=>rfl⟩;obtain⟨T,L2,m2,rfl,rfl,t6,t8,q95,q96,q97,hi,gs,hf,hm⟩:=hI;have g1:=hS.r1;rw[←hf (n0+1) oM]at g1;have g3:=hS.r3;rw[←hf (n0+1+1+1) oM]at g3;rcases xQ hs i with ⟨hi2,hd⟩|⟨v,hi2,hd⟩
 ·have hlt:¬i<hs.length:=oM;rw[hd,ziJ]at gs
  have hMM:CapM E L2 n sc0 ow:={
   wf:=fun j hj=>by rw[hf j oM];exact hwf j hj
   len:=hS.M.len
   nd:=hS.M.nd
   hi:=hS.M.hi
   row:=by rw[hf E.fid (fun e=>by have h1:=hS.M.row;rw[e,hS.M.sco]at h1;cases h1)];exact hS.M.row
   oth:=fun j id hj hji=>by rw[hf id (fun e=>hS.M.sd (e▸y7 hj))];exact hS.M.oth j id hj hji
   own:=by rw[hf E.oid (fun e=>hS.M.sd (e▸hS.M.oidW))];exact hS.M.own
   sco:=gs
   sd:=hS.M.sd}
  have hfr:∀j,j<n0→¬E.W j→m2.testBit j=false:=fun j hj hW=>by
   rw[hm j (fun e=>hW (.inr e))];exact(hS.fr j hj hW).2
  have hlt3:∀j,E.W j∨j=E.fid→j<n0:=hS.lt;clear hS hf hm t10;refine xu ?_;refine xB ?_;refine wM (r:=.ret) ?_;refine⟨rfl,_,_,n,_,rfl,rfl,sV,xG _ _ _,?_,fun j h1 h2=>?_⟩
  ·refine hMM.turn (WfA.same hMM.wf oM) (by rw[xr,if_neg (by have:=hlt3 E.oid (.inl (.inl hMM.oidW));omega)];exact hMM.own) fun j h1 h2 h3=>?_
   rw[xr,if_neg (by have:=hlt3 j h3;omega)]
  ·rw[qn oM];exact hfr j h1 h2
 ·have hc:=jx hd;obtain⟨q1,q2,q3⟩:=hS.hr (fun e=>by rw[e]at hi2;simp at hi2)
  rw[←hf hid oM]at q3;have hia:= @X1 1 hid hs.length i hi2;have hdel:=Lb (r:=hs.drop (i+1)) (hS.ds v (zi2 (by rw[hd];simp)))
  rw[hd]at gs;have hf2:=hf;have hm2:=hm;clear hf hm hS t10;refine xu ?_;refine⟨i+1,⟨_,_,_,rfl,rfl,sV,sV,sV,sV,sV,oM,xG _ _ _,fun j hj=>?_,fun j hj=>?_⟩,oM⟩
  ·rw[xr,if_neg hj];exact hf2 j hj
  ·rw[qn hj];exact hm2 j hj
end
theorem zjl{L:List (Nat×Option AObj)}{m:Nat}(h:WfA L n):Wf (KL L n m false [] none):=by
 refine⟨fun id o ho=>?_,fun p hp=>by cases hp⟩
 apply Nat.lt_of_not_le;intro hle;have h1:(KL L n m false [] none).get id=some o:=by
  rw[uF,show seen (KL L n m false [] none) id=true from rfl];exact ho
 rw[x5,h id hle]at h1;cases h1
theorem Jh{W:List (Nat×AObj)}{L:List (Nat×Option AObj)}{j:Nat}(hn:(W.map (·.1)).Nodup)(h:xD (Qy L W) j=some o):(j,o)∈W∨((∀p∈W,p.1≠j)∧xD L j=some o):=by
 by_cases hW:∃p∈W,p.1=j
 ·obtain⟨p,hp,rfl⟩:=hW;rw[(vy W L p.1 hn).1 p.2 hp]at h;cases h;exact .inl hp
 ·have hne:∀p∈W,p.1≠j:=fun p hp e=>hW ⟨p,hp,e⟩;rw[(vy W L j hn).2 hne]at h;exact .inr ⟨hne,h⟩
def CapX.was(x:CapX):List (Nat×AObj):=(x.E.fid,.row 63 (x.E.ids.map .map) x.E.xx x.E.ff)::(x.E.sid,.umap (uS x.sc))::YM x.E.ids x.E.S
section
variable {M:Nat}{x:CapX}{args:List AV}{s:St}
theorem CapPre.fidW(h:CapPre M x args s):¬x.E.W x.E.fid:=by
 rintro(h1|h1)
 ·obtain⟨j,hj⟩:=zi1 h1;have:=h.maps j _ hj;rw[h.row]at this;cases this
 ·have:=h.row;rw[h1,h.sco]at this;cases this
theorem CapPre.wasN(h:CapPre M x args s):(x.was.map (·.1)).Nodup:=by
 have hf:=h.fidW;simp only[CapX.was,zv,U3 h.len,zi0,ziU,not_or];exact⟨⟨fun e=>hf (.inr e),fun e=>hf (.inl e)⟩,h.sd,h.nd⟩
theorem CapPre.was_get(h:CapPre M x args s){p:Nat×AObj}(hp:p∈x.was):s.get p.1=some p.2∧(x.E.W p.1∨p.1=x.E.fid):=by
 simp only[CapX.was,ziU]at hp;rcases hp with rfl|rfl|hp
 ·exact⟨h.row,.inr rfl⟩
 ·exact⟨h.sco,.inl (.inr rfl)⟩
 ·obtain⟨j,h1,_,h3⟩:=U4 hp;rw[h3];exact⟨h.maps j _ h1,.inl (.inl (y7 h1))⟩
theorem CapPre.wasW(h:CapPre M x args s):WfA (Qy [] x.was) s.next:=fun j hj=>by
 rw[(vy x.was [] j h.wasN).2 fun p hp e=>by
  have:=h.lt p.1 (h.was_get hp).2;omega]
 rfl
theorem CapPre.M0(h:CapPre M x args s):CapM x.E (Qy [] x.was) s.next x.sc x.E.ow where
 wf:=h.wasW
 len:=h.len
 nd:=h.nd
 hi:=h.hi
 row:=(vy x.was [] x.E.fid h.wasN).1 _ (by simp[CapX.was])
 oth :=fun j id hj _=>(vy x.was [] id h.wasN).1 _ (by
  simp only[CapX.was,ziU];refine .inr (.inr ?_);have key:∀{ids:List Nat} {S:List (List Int)} {j id:Nat},S.length=ids.length→ids[j]? =some id→(id,AObj.umap (uS (S.getD j [])))∈YM ids S:=by
   intro ids
   induction ids with
   |nil=>intro S j id _ hj;simp at hj
   | cons a ids ih=>
    intro S j id hl hj;cases S with
    |nil=>simp at hl
    | cons l S=>
     cases j with
     |zero=>simp at hj;subst hj;simp[YM]
     |succ j=>
      simp only[YM,ziU];refine .inr ?_;have:=ih (S:=S) (j:=j) (id:=id) (by simpa using hl) (by simpa using hj)
      simpa using this
  exact key h.len hj)
 own :=(vy x.was [] x.E.oid h.wasN).1 _ (by
  simp only[CapX.was,ziU];refine .inr (.inr ?_);have hj:=G1 h.hi;have key:∀{ids:List Nat} {S:List (List Int)} {j id:Nat},S.length=ids.length→ids[j]? =some id→(id,AObj.umap (uS (S.getD j [])))∈YM ids S:=by
   intro ids
   induction ids with
   |nil=>intro S j id _ hj;simp at hj
   | cons a ids ih=>
    intro S j id hl hj;cases S with
    |nil=>simp at hl
    | cons l S=>
     cases j with
     |zero=>simp at hj;subst hj;simp[YM]
     |succ j=>
      simp only[YM,ziU];refine .inr ?_;have:=ih (S:=S) (j:=j) (id:=id) (by simpa using hl) (by simpa using hj)
      simpa using this
  exact key h.len hj)
 sco:=(vy x.was [] x.E.sid h.wasN).1 _ (by simp[CapX.was])
 sd:=h.sd
end
def zxo:ICode→ICode:=fun k=>match f45.body with
 |.seq a (.seq b (.seq c _))=>.seq a (.seq b (.seq c k))
 |_=>.skip
theorem HR:f45.body=zxo (.seq (.block 0 (.loop (.block 1 uw))) Gq):=rfl
section
variable {P:Program}{w0:World}(B:Bx P w0){O:Orc}(hO:OrcOk P w0 O)
include B hO
theorem HS{M:Nat}(h72:O 81=none)(h71:O 80=some pc)(h48:O 45=some (Yq M))(hM:M<900000000){x:CapX}{args:List AV}(h:CapPre (M+1) x args s):SC P w0 45 args s (.bool (decide (x.own.length≠x.E.ow.length))) (Qz s x.objs):=by
 have hm0:=h.M0;refine zmy (F:=f45) (s0:=KL (Qy [] x.was) s.next 0 false [] none) hO B.mixed B.glob B.env rfl (by rw[h.args];exact ziF rfl) rfl rfl rfl (zjl h.wasW) rfl (fun id o ho=>?_) rfl h.nodup (fun p hp=>h.get hp) (fun p hp=>?_) fun C ok hP hE hO' hr hs=>?_
 ·rw[x5]at ho;rcases Jh h.wasN ho with h1|⟨_,h1⟩
  ·exact(h.was_get h1).1
  ·cases h1
 ·rcases h.mem hp with ⟨e,he⟩|⟨j,hj,he⟩
  ·rw[he,e];exact⟨h.lt _ (.inl (.inr rfl)),H8 (Hi _)⟩
  ·rw[he];exact⟨h.lt _ (.inl (.inl (y7 hj))),H8 (Hi _)⟩
 have hC:CO C O:=⟨ok,hE,hO',hr⟩;rw[h.args,HR];have hlt:=h.lt;have hond:=h.ond;have hok:=h.ok;have hsz:=h.sz;have hN:=h.N;have hmem:=fun p hp=> @CapPre.mem _ _ _ _ h p hp;have hfst:=h.fst;simp only[CapX.own]at hmem⊢;show Tri C _ _ (KL (Qy [] x.was) s.next 0 false [] none) _
 generalize s.next=n at *
 generalize Qy [] x.was=L0 at *;obtain⟨E,t,sc⟩:=x;simp only at hm0 hlt hond hok hsz hN hmem hfst⊢;obtain⟨R,hR⟩:∃R,uM E.S E.i t sc E.ow=R:=⟨_,rfl⟩;simp only[hR]at hmem⊢;clear h hs;generalize CapX.objs ⟨E,t,sc⟩=W at *;unfold zxo f45 cF;simp only;have hcm:=wg t;refine qg (hC.ev (xu ?_));refine qg (hC.ev (xu ?_));refine qg (hC.ev (xu ?_));refine qg ((HO (L0:=L0) (n0:=n) (a0:=E.ow.length) (sc0:=sc) (E:=E) (t:=t) (ow:=E.ow) h72 h71 h48 hC hN hok hsz hM ⟨_,_,_,_,0,rfl,rfl,?_,?_⟩).mono (uY fun f s hI=>?_))
 ·exact⟨sW,sW,sW,sW,sW,by simp (disch:=first|exact dis|fail)only[go_sem,seval,-rO,-rN,Hj],by simp (disch:=first|exact dis|fail)only[go_sem,seval,-rO,-rN,gSl]⟩
 ·exact{
   M :=by
    rw[ziJ];refine hm0.turn ?_ ?_ fun j h1 h2 h3=>?_
    ·(repeat first|exact hm0.wf.up oM|refine WfA.same ?_ oM)
    ·have:=hlt E.oid (.inl (.inl hm0.oidW))
     (repeat (rw[xr,if_neg oM]));exact hm0.own
    ·(repeat (rw[xr,if_neg oM]))
   n4:=zo _
   r0:=by
    (repeat (rw[xr,if_neg oM]));rw[xG];rfl
   r1:=by
    (repeat (rw[xr,if_neg oM]));rw[xG]
   r2:=by
    (repeat (rw[xr,if_neg oM]));rw[xG]
   r3:=by
    rw[xG];simp
   hr:=fun hne=>absurd rfl hne
   le:=zo _
   nd:=hond
   ds:=fun v hv=>by cases hv
   lt:=hlt
   fr:=fun j hj hW=>⟨by (repeat (rw[xr,if_neg oM])),by simp⟩}
 ·obtain⟨t2,hs,hI,hl⟩:=hI;rw[hR]at hI;refine(hC.ev (zzz hl hI)).mono fun r f t3 hz=>?_;obtain⟨rfl,T,L,n2,m,rfl,rfl,t8,g8,hM2,hm2⟩:=hz;refine⟨.bool (decide (R.length≠E.ow.length)),KL L n2 m false [] none,sV,rfl,fun p hp=>?_,fun id hid hW=>?_⟩
  ·rw[x5];rcases hmem p hp with ⟨e,he⟩|⟨j,hj,he⟩
   ·rw[e,he];exact hM2.sco
   ·rw[he];by_cases hji:j=E.i
    ·rw[if_pos hji];subst hji;rw[hM2.oid]at hj;rw[←Option.some.inj hj];exact hM2.own
    ·rw[if_neg hji];exact hM2.oth j p.1 hj hji
  ·refine hm2 id hid fun hWW=>?_;have:id∈W.map (·.1):=by
    rw[hfst];rcases hWW with h1|h1
    ·exact yR _ h1
    ·rw[h1];exact zi9
   obtain⟨p,hp,he⟩:=List.mem_map.1 this;exact hW p hp he
end
theorem zn8(B:Bx P w0):∀(M:Nat),M≤900000000→OrcOk P w0 (withG 45 (Yq M) (withG 80 pc noO)):=by
 have h0:OrcOk P w0 (withG 80 pc noO):=(hH P w0).withG ly (Hx B (hH P w0));intro M
 induction M with
 |zero=>
  refine fun _=>h0.withG LC fun args s v s' h=>?_;obtain⟨x,hx,_⟩:=Uh h;have:=hx.sz;have:=qQ x.t;omega
 |succ M ih=>
  intro hM;refine h0.withG LC fun args s v s' h=>?_;obtain⟨x,hx,rfl,rfl⟩:=Uh h;exact HS B (ih oM) rfl rfl rfl oM hx
def X8(l:List Int):List Int→List Int
 |[]=>l
 |x::r=>X8 (Xi l x) r
def ko:List Fn→Nat→List (List Int)→List (List Int)
 |[],_,S=>S
 |f::r,i,S=>ko r (i+1) (S.set i (uM S i f.b (X8 [] f.ps) (S.getD i [])))
def jt(c:Cd)(S:List (List Int)):List (List Int):=ko c.fs 0 S
def itS(c:Cd):Nat→List (List Int)
 |0=>List.replicate c.fs.length []
 |k+1=>jt c (itS c k)
mutual
def pF:Trm→List Int
 |.mk _ _ _ _ _ az ks=>az.map (·.n)++YL ks
def YL:List Trm→List Int
 |[]=>[]
 |t::r=>pF t++YL r
end
def XG(c:Cd):List Int:=(c.fs.map fun f=>pF f.b).flatten
def Qq(c:Cd):Nat:=c.fs.length*(XG c).length
def gT(c:Cd):List (List Int):=itS c (Qq c)
theorem P5(sc ow:List Int)(x:Int):∃z,j7 sc ow x=ow++z:=by
 unfold j7 Xi;split
 ·exact⟨[],by simp⟩
 ·split
  ·exact⟨[],by simp⟩
  ·exact⟨[x],rfl⟩
theorem lz{a b c:List Int}(h:∃z,b=a++z)(g:∃z,c=b++z):∃z,c=a++z:=by
 obtain⟨z,rfl⟩:=h;obtain⟨y,rfl⟩:=g;exact⟨z++y,by simp⟩
theorem lP(sc:List Int):∀(az:List Atm) (ow:List Int),∃z,qS sc ow az=ow++z
 |[],ow=>⟨[],by simp[qS]⟩
 |a::r,ow=>by
  simp only[qS];refine lz ?_ (lP sc r _);cases eqD a.k (.ofNat 1)with
  |true=>exact P5 _ _ _
  |false=>exact⟨[],by simp⟩
theorem HN(sc:List Int):∀(l:List Int) (ow:List Int),∃z,Yg sc ow l=ow++z
 |[],ow=>⟨[],by simp[Yg]⟩
 |x::r,ow=>lz (P5 _ _ _) (HN sc r _)
theorem zt7{S:List (List Int)}{i:Nat}{k f:Int}{az:List Atm}{sc ow:List Int}:∃z,XP S i k f az sc ow=ow++z:=by
 unfold XP;cases eqD k (.ofNat 2)with
 |false=>exact lP _ _ _
 |true=>
  simp only[cond_true];split
  ·exact lP _ _ _
  ·exact lz (lP _ _ _) (HN _ _ _)
mutual
theorem Vr{S:List (List Int)}{i:Nat}:∀(t:Trm) (sc ow:List Int),∃z,uM S i t sc ow=ow++z
 |.mk k v op n f az ks,sc,ow=>by
  simp only[uM];exact lz (zt7 (S:=S) (i:=i)) (JD (S:=S) (i:=i) ks _ _)
theorem JD{S:List (List Int)}{i:Nat}:∀(ks:List Trm) (sc ow:List Int),∃z,v7 S i ks sc ow=ow++z
 |[],_,_=>⟨[],by simp[v7]⟩
 |x::r,sc,ow=>by
  simp only[v7];exact lz (JD (S:=S) (i:=i) r sc ow) (Vr (S:=S) (i:=i) x sc _)
end
theorem Uv{sc:List Int}{x:Int}:∀{az:List Atm} {ow:List Int},x∈qS sc ow az→x∈ow∨x∈az.map (·.n)
 |[],ow,h=>.inl h
 | a::r,ow,h=>by
  simp only[qS]at h;rcases Uv h with h|h
  ·cases hk:eqD a.k (.ofNat 1)with
   |true=>
    rw[hk,cond_true,Zh]at h;rcases h with h|⟨h,_⟩
    ·exact .inl h
    ·exact .inr (by simp[h])
   |false=>rw[hk]at h;exact .inl h
  ·exact .inr (by simp[h])
section
variable {S:List (List Int)}{i:Nat}{U:List Int}
theorem zt8(hS:∀j,∀x∈S.getD j [],x∈U){k f:Int}{az:List Atm}{sc ow:List Int}(ha:∀x∈az.map (·.n),x∈U)(ho:∀x∈ow,x∈U):∀x∈XP S i k f az sc ow,x∈U:=by
 have h1:∀x∈qS sc ow az,x∈U:=fun x hx=>by
  rcases Uv hx with h|h
  ·exact ho x h
  ·exact ha x h
 unfold XP;cases eqD k (.ofNat 2)with
 |false=>exact h1
 | true=>
  simp only[cond_true];split
  ·exact h1
  ·intro x hx;rcases Uw.1 hx with h|⟨h,_⟩
   ·exact h1 x h
   ·exact hS _ x h
mutual
theorem HQ(hS:∀j,∀x∈S.getD j [],x∈U):∀(t:Trm) (sc ow:List Int),(∀x∈pF t,x∈U)→(∀x∈ow,x∈U)→∀x∈uM S i t sc ow,x∈U
 |.mk k v op n f az ks,sc,ow,hu,ho=>by
  simp only[pF,zi8]at hu;simp only[uM];exact JF hS ks _ _ (fun x hx=>hu x (.inr hx)) (zt8 hS (fun x hx=>hu x (.inl hx)) ho)
theorem JF(hS:∀j,∀x∈S.getD j [],x∈U):∀(ks:List Trm) (sc ow:List Int),(∀x∈YL ks,x∈U)→(∀x∈ow,x∈U)→∀x∈v7 S i ks sc ow,x∈U
 |[],_,_,_,ho=>by simp only[v7];exact ho
 |t::r,sc,ow,hu,ho=>by
  simp only[YL,zi8]at hu;simp only[v7];exact HQ hS t sc _ (fun x hx=>hu x (.inl hx)) (JF hS r sc ow (fun x hx=>hu x (.inr hx)) ho)
end
end
structure SOk(U:List Int)(N:Nat)(S:List (List Int)):Prop where
 len:S.length=N
 nd:∀j,(S.getD j []).Nodup
 sub:∀j,∀x∈S.getD j [],x∈U
theorem ZI{S:List (List Int)}{i j:Nat}{l:List Int}(hi:i<S.length):(S.set i l).getD j []=if j=i then l else S.getD j []:=by
 rw[yU,zhb];by_cases h:i=j
 ·subst h;simp[hi]
 ·rw[if_neg h,if_neg (Ne.symm h),←yU]
theorem SOk.set{U:List Int}{N:Nat}{S:List (List Int)}(h:SOk U N S){i:Nat}(hi:i<N){f:Fn}(hf:∀x∈pF f.b,x∈U):SOk U N (S.set i (uM S i f.b (X8 [] f.ps) (S.getD i []))) where
 len:=by rw[zi3];exact h.len
 nd:=fun j=>by
  rw[ZI (by rw[h.len];exact hi)]
  split
  ·exact(Gp _ _ _).2 (h.nd i)
  ·exact h.nd j
 sub:=fun j=>by
  rw[ZI (by rw[h.len];exact hi)]
  split
  ·exact HQ h.sub _ _ _ hf (h.sub i)
  ·exact h.sub j
theorem PL{U:List Int}{N:Nat}:∀(fs:List Fn) (i:Nat) (S:List (List Int)),SOk U N S→i+fs.length≤N→(∀f∈fs,∀x∈pF f.b,x∈U)→SOk U N (ko fs i S)
 |[],_,_,h,_,_=>h
 |f::r,i,S,h,hi,hf=>by
  simp only[ko];simp only[zU]at hi;exact PL r (i+1) _ (h.set oM (hf f (by simp))) oM fun g hg=>hf g (by simp[hg])
def hZ(S:List (List Int)):Nat:=(S.map y8).sum
theorem PZ{S:List (List Int)}{i:Nat}{l:List Int}(hi:i<S.length):hZ (S.set i l)+(S.getD i []).length=hZ S+l.length:=by
 induction S generalizing i with
 |nil=>simp at hi
 | cons a S ih=>
  cases i with
  |zero=>simp[hZ];omega
  |succ i=>
   have:=ih (i:=i) (by simpa using hi)
   simp only[hZ,List.set_cons_succ,zv,List.sum_cons,List.getD_cons_succ]at this⊢;omega
theorem PJ{S:List (List Int)}{i:Nat}:S.set i (S.getD i [])=S:=by
 refine List.ext_getElem? fun j=>?_;rw[zhb];by_cases h:i=j
 ·subst h;by_cases hi:i<S.length
  ·rw[if_pos rfl,if_pos hi,yU,yv hi];rfl
  ·rw[if_pos rfl,if_neg hi,yb oM]
 ·rw[if_neg h]
theorem Ws{U:List Int}{N:Nat}:∀(fs:List Fn) (i:Nat) (S:List (List Int)),SOk U N S→i+fs.length≤N→(∀f∈fs,∀x∈pF f.b,x∈U)→ko fs i S=S∨hZ S<hZ (ko fs i S)
 |[],_,_,_,_,_=>.inl rfl
 | f::r,i,S,h,hi,hf=>by
  simp only[ko];simp only[zU]at hi;have hok:=h.set (i:=i) oM (hf f (by simp))
  obtain⟨z,hz⟩:=Vr (S:=S) (i:=i) f.b (X8 [] f.ps) (S.getD i []);have ht:=PZ (l:=uM S i f.b (X8 [] f.ps) (S.getD i [])) (show i<S.length by rw[h.len];omega)
  have ih:=Ws r (i+1) _ hok oM fun g hg=>hf g (by simp[hg])
  cases z with
  |nil=>
   rw[ziJ]at hz;rw[hz,PJ]at ih⊢;exact ih
  |cons a z=>
   right
   have hl:(uM S i f.b (X8 [] f.ps) (S.getD i [])).length=(S.getD i []).length+(z.length+1):=by rw[hz];simp
   generalize S.set i (uM S i f.b (X8 [] f.ps) (S.getD i []))=S2 at *;rcases ih with ih|ih
   ·rw[ih];omega
   ·omega
theorem UC:∀{l U:List Int},l.Nodup→(∀x∈l,x∈U)→l.length≤U.length
 |[],_,_,_=>zK _
 | x::l,U,hn,hs=>by
  rw[zi0]at hn;obtain⟨a,b,rfl⟩:=List.append_of_mem (hs x (by simp))
  have:=UC (l:=l) (U:=a++b) hn.2 fun y hy=>by
   have h1:=hs y (by simp[hy])
   simp only[zi8,ziU]at h1⊢;rcases h1 with h1|h1|h1
   ·exact .inl h1
   ·subst h1;exact absurd hy hn.1
   ·exact .inr h1
  simp only[yl,zU]at this⊢;omega
theorem zwz{U:List Int}:∀{S:List (List Int)},(∀l∈S,l.Nodup∧∀x∈l,x∈U)→hZ S≤S.length*U.length
 |[],_=>by simp[hZ]
 |a::S,h=>by
  have h1:=h a (by simp)
  have h2:=UC h1.1 h1.2;have h3:=zwz (S:=S) fun l hl=>h l (by simp[hl])
  simp only[hZ,zv,List.sum_cons,zU]at h3⊢;rw[Nat.succ_mul];omega
theorem SOk.tot{U:List Int}{N:Nat}{S:List (List Int)}(h:SOk U N S):hZ S≤N*U.length:=by
 rw[←h.len];refine zwz fun l hl=>?_;obtain⟨j,hj⟩:=zi1 hl;have:S.getD j []=l:=by rw[yU,hj];rfl
 rw[←this];exact⟨h.nd j,h.sub j⟩
theorem XH(c:Cd):∀f∈c.fs,∀x∈pF f.b,x∈XG c:=fun f hf x hx=>by
 unfold XG;rw[List.mem_flatten];exact⟨_,List.mem_map.2 ⟨f,hf,rfl⟩,hx⟩
theorem pf(c:Cd):∀k,SOk (XG c) c.fs.length (itS c k)
 | 0=>by
  have e:∀j,(List.replicate c.fs.length ([]:List Int)).getD j []=[]:=fun j=>by
   rw[yU,zhf];split<;>rfl
  exact⟨by simp[itS],fun j=>by simp only[itS];rw[e];exact List.nodup_nil,fun j x hx=>by simp only[itS]at hx;rw[e]at hx;cases hx⟩
 |k+1=>PL _ _ _ (pf c k) (by simp) (XH c)
theorem Ur(c:Cd):∀k,jt c (itS c k)=itS c k∨k<hZ (itS c (k+1))
 |0=>by
  rcases Ws c.fs 0 _ (pf c 0) (by simp) (XH c)with h|h
  ·exact .inl h
  ·exact .inr (Nat.lt_of_le_of_lt (zK _) h)
 | k+1=>by
  rcases Ur c k with h|h
  ·left
   show jt c (jt c (itS c k))=jt c (itS c k);rw[h,h]
  ·rcases Ws c.fs 0 _ (pf c (k+1)) (by simp) (XH c)with h2|h2
   ·exact .inl h2
   ·right
    have:hZ (itS c (k+1))<hZ (itS c (k+1+1)):=h2;omega
theorem Us{c:Cd}{k:Nat}(h:jt c (itS c k)=itS c k):∀j,itS c (k+j)=itS c k
 |0=>rfl
 |j+1=>by
  show jt c (itS c (k+j))=_;rw[Us h j,h]
theorem zuM(c:Cd):jt c (gT c)=gT c:=by
 rcases Ur c (Qq c)with h|h
 ·exact h
 ·have:=(pf c (Qq c+1)).tot;unfold Qq at h this;omega
theorem zpv{c:Cd}{k:Nat}(h:jt c (itS c k)=itS c k):itS c k=gT c:=by
 unfold gT;by_cases hk:k≤Qq c
 ·have:=Us h (Qq c-k);rw[Nat.add_sub_cancel' hk]at this;exact this.symm
 ·have:=Us (zuM c) (k-Qq c);rw[Nat.add_sub_cancel' oM]at this;exact this
theorem zks{c:Cd}{k:Nat}(h:jt c (itS c k)≠itS c k):k<Qq c:=by
 rcases Ur c k with h1|h1
 ·exact absurd h1 h
 ·have:=(pf c (k+1)).tot;unfold Qq;omega
structure SetM(ids:List Nat)(S:List (List Int))(fid lo:Nat)(L:List (Nat×Option AObj))(n:Nat):Prop where
 wf:WfA L n
 len:S.length=ids.length
 nd:ids.Nodup
 row:xD L fid=some (.row 63 (ids.map .map) false false)
 maps:∀j id,ids[j]? =some id→xD L id=some (.umap (uS (S.getD j [])))
 los:∀id∈ids,lo≤id
 lof:lo≤fid
theorem SetM.lt{ids:List Nat}{S:List (List Int)}{fid lo:Nat}{L:List (Nat×Option AObj)}(h:SetM ids S fid lo L n)(hid:id∈ids):id<n:=by
 obtain⟨j,hj⟩:=zi1 hid;exact h.wf.lt (h.maps j id hj)
theorem SetM.fidn{ids:List Nat}{S:List (List Int)}{fid lo:Nat}{L:List (Nat×Option AObj)}(h:SetM ids S fid lo L n):fid∉ids:=fun hid=>by
 obtain⟨j,hj⟩:=zi1 hid;have:=h.maps j fid hj;rw[h.row]at this;cases this
theorem SetM.oth{ids:List Nat}{S:List (List Int)}{fid lo:Nat}{L:List (Nat×Option AObj)}(h:SetM ids S fid lo L n){L2:List (Nat×Option AObj)}{n2:Nat}(hw:WfA L2 n2)(hf:∀j,j<n→(j=fid∨j∈ids)→xD L2 j=xD L j):SetM ids S fid lo L2 n2 where
 wf:=hw
 len:=h.len
 nd:=h.nd
 row:=by rw[hf fid (h.wf.lt h.row) (.inl rfl)];exact h.row
 maps:=fun j id hj=>by rw[hf id (h.lt (y7 hj)) (.inr (y7 hj))];exact h.maps j id hj
 los:=h.los
 lof:=h.lof
theorem SetM.cap{ids:List Nat}{S:List (List Int)}{fid lo:Nat}{L:List (Nat×Option AObj)}(h:SetM ids S fid lo L n){i sid:Nat}{c:Cap}{sc:List Int}(hi:i<ids.length)(hs:xD L sid=some (.umap (uS sc)))(hsd:sid∉ids):CapM ⟨ids,S,i,fid,sid,c,false,false⟩ L n sc (S.getD i []) where
 wf:=h.wf
 len:=h.len
 nd:=h.nd
 hi:=hi
 row:=h.row
 oth:=fun j id hj _=>h.maps j id hj
 own:=h.maps i _ (G1 (E:=⟨ids,S,i,fid,sid,c,false,false⟩) hi)
 sco:=hs
 sd:=hsd
theorem SetM.set{ids:List Nat}{S:List (List Int)}{fid lo:Nat}{L:List (Nat×Option AObj)}(h:SetM ids S fid lo L n){i:Nat}{l:List Int}(hi:ids[i]? =some id){L2:List (Nat×Option AObj)}(hl:xD L2 id=some (.umap (uS l)))(hf:∀j,j≠id→xD L2 j=xD L j):SetM ids (S.set i l) fid lo L2 n where
 wf:=fun j hj=>by
  have:=h.lt (y7 hi);rw[hf j oM];exact h.wf j hj
 len:=by rw[zi3];exact h.len
 nd:=h.nd
 row:=by rw[hf fid (fun e=>h.fidn (by rw[e];exact y7 hi))];exact h.row
 maps:=fun j k hj=>by
  have hlt:=(List.getElem?_eq_some_iff.1 hi).1;rw[ZI (by rw[h.len];exact hlt)]
  by_cases hji:j=i
  ·subst hji;rw[hi]at hj;cases hj;rw[if_pos rfl];exact hl
  ·rw[if_neg hji,hf k (fun e=>hji ((zi5 (List.getElem?_eq_some_iff.1 hj).1 h.nd).1 (hj.trans (by rw[e,hi]))))]
   exact h.maps j k hj
 los:=h.los
 lof:=h.lof
theorem zjW:∀(k:Nat) (v:AV),reps (k+1) [v]=v::reps k [v]:=fun _ _=>rfl
structure CdOk(c:Cd):Prop where
 n:c.fs.length<100000000
 f:∀f∈c.fs,Qo c.fs.length f.b∧wC f.b≤900000000∧f.ps.length<1000000000
section
variable {O:Orc}
attribute [local go_sem] jo Zd kU kT jQ Z8 QM xI xH ziS ziW ziV ziQ xW ltF gtF in
theorem zws(h32:O 26=none)(h48:O 45=some (Yq 900000000)){c:Cd}(hc:CdOk c){L0:List (Nat×Option AObj)}{n0:Nat}(hw0:WfA L0 n0)(m0:Nat)(b:Bool):Cv ((evW env O).call 26 [.agg (w9 c)] (KL L0 n0 m0 b [] none)) fun v t=>∃ids fid L n m,v=.sl fid 0 c.fs.length (.fix c.fs.length)∧t=KL L n m b [] none∧SetM ids (gT c) fid n0 L n∧ids.length=c.fs.length∧n0≤n∧∀j,j<n0→xD L j=xD L0 j∧m.testBit j=m0.testBit j:=by
 refine xO (F:=f26) h32 rfl rfl (ziF rfl) ?_;obtain⟨fs,main,vars,globals,consts⟩:=c;have hN:=hc.n;have hf:=hc.f;simp only at hN hf;unfold f26 cF;simp only[w9];have hms:=fun l n m=> @zmb l n m 63 8 fs.length false [] none [.nilm] oM oM;refine xB ?_;refine xB ?_;refine xz (xz (xu ?_));refine xE ?_;refine xU (fun i:Nat=>fs.length-i) (fun i f t=>∃T L n m ids,f=⟨tmL T,[]⟩∧t=KL L n m false [] none∧(tmL T).get 1=some (.ptr n0 0)∧(tmL T).get 3=some (.sl (n0+1) 0 fs.length (.fix fs.length))∧(tmL T).get 16=some (.int .i64 (.ofNat fs.length))∧(tmL T).get 17=some (.int .i64 (.ofNat i))∧i≤fs.length∧WfA L n∧n0+1+1≤n∧xD L n0=some (.row 25 [.lst fs.length false (xA we fs),.int .i64 main,.int .i64 vars,.int .i64 globals,.lst consts.length false (xX consts)] false false)∧xD L (n0+1)=some (.row 63 (ids.map AV.map++reps (fs.length-i) [.nilm]) false false)∧ids.length=i∧ids.Nodup∧(∀id∈ids,n0+1+1≤id∧id<n∧xD L id=some (.umap []))∧∀j,j<n0→xD L j=xD L0 j∧m.testBit j=m0.testBit j) (fun i f t hI=>?_) 0 ⟨_,_,_,_,[],rfl,rfl,sW,sW,sW,sW,zK _,?_,zo _,?_,by rw[xG];rfl,rfl,List.nodup_nil,fun id h=>(by cases h),fun j hj=>⟨?_,rfl⟩⟩
 ·obtain ⟨T,L,n,m,ids,rfl,rfl,t1,t3,t16,t17,hi,hw,hn,g0,g1,hil,hnd,hids,hfr⟩:=hI;rcases Nat.lt_or_ge i fs.length with hlt|hge
  ·have hp:vN (ids.map AV.map++reps (fs.length-i) [.nilm]) i [.map n]=some ((ids++[n]).map AV.map++reps (fs.length-(i+1)) [.nilm]):=by
    rw[show fs.length-i=(fs.length-(i+1))+1 by omega,zjW]
    have:= @Wn (ids.map AV.map) [.nilm] (reps (fs.length-(i+1)) [.nilm]) [.map n] i (by simpa using hil) rfl
    simp only[List.singleton_append]at this;rw[this,List.map_append,zi4];rfl
   have hnd2:(ids++[n]).Nodup:=by
    rw[List.nodup_append];refine⟨hnd,by simp,fun a ha b hb=>?_⟩
    have:=(hids a ha).2.1;simp only[zQ]at hb;omega
   have hids2:=hids;have hfr2:=hfr;clear hids hfr;refine xu ?_;refine⟨i+1,⟨_,_,n+1,_,ids++[n],rfl,rfl,sV,sV,sV,sV,oM,?_,oM,?_,xG _ _ _,by simp[hil],hnd2,fun id hid=>?_,fun j hj=>⟨?_,?_⟩⟩,oM⟩
   ·(repeat first|exact hw.up oM|refine WfA.same ?_ oM)
   ·(repeat (rw[xr,if_neg oM]));exact g0
   ·rcases List.mem_append.1 hid with h|h
    ·have:=hids2 id h;refine⟨this.1,oM,?_⟩
     (repeat (rw[xr,if_neg oM]));exact this.2.2
    ·simp only[zQ]at h;subst h;refine⟨oM,oM,?_⟩;rw[xr,if_neg oM,xG]
   ·(repeat (rw[xr,if_neg oM]));exact(hfr2 j hj).1
   ·(repeat rw[qn oM]);exact(hfr2 j hj).2
  ·have hlt:¬i<fs.length:=oM;have hie:i=fs.length:=oM
   have hM0:SetM ids (itS ⟨fs,main,vars,globals,consts⟩ 0) (n0+1) n0 L n:={
    wf:=hw
    len:=by simp[itS];omega
    nd:=hnd
    row:=by rw[g1,show fs.length-i=0 by omega];simp[reps]
    maps:=fun j id hj=>by
     rw[(hids id (y7 hj)).2.2];simp only[itS];rw[yU,zhf];split<;>rfl
    los:=fun id hid=>by have:=(hids id hid).1;omega
    lof:=by omega}
   have hgt:∀id∈ids,n0+1<id:=fun id hid=>by have:=(hids id hid).1;omega
   clear hids g1 hms;have hfr0:=hfr;clear hfr;refine xu ?_;refine xz (xB ?_);refine xE ?_;have hcd:CdOk ⟨fs,main,vars,globals,consts⟩:=hc;generalize hcc:(⟨fs,main,vars,globals,consts⟩:Cd)=c at *;have hfs:c.fs=fs:=by rw[←hcc]
   have hidl:ids.length=c.fs.length:=by rw[hfs];omega
   refine xU (fun x:Nat×Bool=>bif x.2 then 1+(Qq c+1-x.1)else 0) (fun x f t=>∃T L n m,f=⟨tmL T,[]⟩∧t=KL L n m false [] none∧(tmL T).get 1=some (.ptr n0 0)∧(tmL T).get 3=some (.sl (n0+1) 0 fs.length (.fix fs.length))∧(tmL T).get 5=some (.bool x.2)∧n0+1+1≤n∧xD L n0=some (.row 25 [.lst fs.length false (xA we fs),.int .i64 main,.int .i64 vars,.int .i64 globals,.lst consts.length false (xX consts)] false false)∧SetM ids (itS c x.1) (n0+1) n0 L n∧(x.2=false→jt c (itS c x.1)=itS c x.1)∧∀j,j<n0→xD L j=xD L0 j∧m.testBit j=m0.testBit j) (fun x f t hI=>?_) (0,true) ⟨_,L,n,m,rfl,rfl,sV,sV,sV,hn,g0,hM0,(fun h=>by cases h),hfr0⟩
   clear t1 t3 t16 t17 hw hn g0 hil hM0 hfr0 hie hlt hge hi;obtain⟨T,L,n,m,rfl,rfl,t1,t3,t5,hn,g0,hM,hst,hfr⟩:=hI;obtain⟨k,g⟩:=x;simp only at t5 hM hst⊢;cases g with
   |false=>
    have hfx:=zpv (hst rfl);rw[hfx]at hM;clear hst;refine xu ?_;refine xB ?_;refine wM (r:=.ret) ?_;show Cv _ _;refine xF ?_;exact⟨ids,n0+1,L,n,m,rfl,rfl,hM,by rw[hidl,hfs],oM,hfr⟩
   | true=>
    clear hst;refine xz (xB ?_);refine xu ?_;refine xE ?_;refine xz (xu ?_);refine xz (xu ?_);refine xE ?_;refine xU (fun x:Nat×List (List Int)×Bool=>fs.length-x.1) (fun x f t=>∃T L n m,f=⟨tmL T,[]⟩∧t=KL L n m false [] none∧(tmL T).get 1=some (.ptr n0 0)∧(tmL T).get 3=some (.sl (n0+1) 0 fs.length (.fix fs.length))∧(tmL T).get 5=some (.bool x.2.2)∧(tmL T).get 27=some (.lst fs.length false (xA we fs))∧(tmL T).get 28=some (.int .i64 (.ofNat fs.length))∧(tmL T).get 29=some (.int .i64 (.ofNat x.1))∧x.1≤fs.length∧n0+1+1≤n∧xD L n0=some (.row 25 [.lst fs.length false (xA we fs),.int .i64 main,.int .i64 vars,.int .i64 globals,.lst consts.length false (xX consts)] false false)∧SetM ids x.2.1 (n0+1) n0 L n∧SOk (XG c) fs.length x.2.1∧ko (fs.drop x.1) x.1 x.2.1=itS c (k+1)∧(x.2.2=false→x.2.1=itS c k)∧(x.2.2=true→hZ (itS c k)<hZ x.2.1)∧∀j,j<n0→xD L j=xD L0 j∧m.testBit j=m0.testBit j) (fun x f t hI=>?_) (0,itS c k,false) ⟨_,L,n,m,rfl,rfl,sV,sV,sV,sV,sV,sV,zK _,hn,g0,hM,hfs▸pf c k,by show ko fs 0 _=ko c.fs 0 _;rw[hfs],(fun _=>rfl),(fun h=>by cases h),hfr⟩
    clear t1 t3 t5 hn g0 hM hfr;obtain⟨T,L,n,m,rfl,rfl,t1,t3,t5,t27,t28,t29,hi,hn,g0,hM,hok,hR,hg0,hg1,hfr⟩:=hI;obtain⟨i,S,g⟩:=x;simp only at t5 t29 hi hM hok hR hg0 hg1⊢;rcases xQ fs i with ⟨hi2,hd⟩|⟨f,hi2,hd⟩
    ·have hlt:¬i<fs.length:=oM;rw[hd]at hR;simp only[ko]at hR;refine xu ?_;refine⟨(k+1,g),⟨_,L,n,m,rfl,rfl,sV,sV,sV,hn,g0,hR▸hM,fun h=>?_,hfr⟩,?_⟩
     ·have e:jt c (itS c k)=itS c k:=by
       show itS c (k+1)=_;rw[←hR];exact hg0 h
      show jt c (itS c (k+1))=itS c (k+1);show jt c (jt c (itS c k))=jt c (itS c k);rw[e,e]
     ·cases g with
      |false=>simp only[cond_false,cond_true];omega
      | true=>
       have h1:=hg1 rfl;rw[hR]at h1;have h2:jt c (itS c k)≠itS c k:=fun e=>by
        have:itS c (k+1)=itS c k:=e;rw[this]at h1;omega
       have:=zks h2;simp only[cond_true];omega
    ·have hmem:f∈fs:=zi2 (by rw[hd];simp)
     have hcf:=VL hd;obtain⟨hto,hts,htp⟩:=hf f hmem;rw[hd]at hR;simp only[ko]at hR;have hset:=hok.set hi2 (XH c f (hfs▸hmem));have hpre:=Vr (S:=S) (i:=i) f.b (X8 [] f.ps) (S.getD i []);obtain⟨ps,rest,cont,fr,b⟩:=f;have hcb:=wg b;obtain⟨bk,bv,bop,bn,bf,bas,bks⟩:=b;simp only[we,xP,qW]at hcf hto hts htp hset hpre hR;have hw:=hM.wf;have lids:∀id,id∈ids→id<n:=fun id h=>hM.lt h;refine xB ?_;refine xB ?_;refine xz (xE ?_);refine xB ?_;refine xB ?_;refine xz (xz (xu ?_));refine xE ?_;refine xU (fun x:Nat×List Int=>ps.length-x.1) (fun x f t=>∃T L2 m2,f=⟨tmL T,[]⟩∧t=KL L2 (n+1+1) m2 false [] none∧(tmL T).get 1=some (.ptr n0 0)∧(tmL T).get 3=some (.sl (n0+1) 0 fs.length (.fix fs.length))∧(tmL T).get 5=some (.bool g)∧(tmL T).get 6=some (.int .i64 (.ofNat i))∧(tmL T).get 7=some (.ptr n 0)∧(tmL T).get 8=some (.map (n+1))∧(tmL T).get 27=some (.lst fs.length false (xA we fs))∧(tmL T).get 28=some (.int .i64 (.ofNat fs.length))∧(tmL T).get 29=some (.int .i64 (.ofNat i))∧(tmL T).get 36=some (.lst ps.length false (xA xL ps))∧(tmL T).get 37=some (.int .i64 (.ofNat ps.length))∧(tmL T).get 38=some (.int .i64 (.ofNat x.1))∧x.1≤ps.length∧xD L2 n=some (.row 42 [.lst ps.length false (xA xL ps),.bool rest,.bool cont,.lst fr.length false (xA xL fr),.int .i64 bk,.int .i64 bv,.int .i64 bop,.int .i64 bn,.int .i64 bf,.lst bas.length false (xA qp bas),.lst bks.length false (wc bks)] false false)∧xD L2 (n+1)=some (.umap (uS x.2))∧X8 x.2 (ps.drop x.1)=X8 [] ps∧WfA L2 (n+1+1)∧∀j,j<n→xD L2 j=xD L j∧m2.testBit j=m.testBit j) (fun x f t hI=>?_) (0,[]) ⟨_,_,_,rfl,rfl,sV,sV,sV,sV,sV,sV,sV,sV,sV,sV,sV,sV,zK _,?_,?_,rfl,?_,fun j hj=>⟨?_,?_⟩⟩
     ·clear t1 t3 t5 t27 t28 t29 hcf;obtain⟨T,L2,m2,rfl,rfl,t1,t3,t5,t6,t7,t8,t27,t28,t29,t36,t37,t38,hj,gf,gs,hins,hw2,hfr2⟩:=hI;obtain⟨j,sc⟩:=x;simp only at t38 hj gs hins⊢;rcases xQ ps j with ⟨hj2,hdp⟩|⟨p,hj2,hdp⟩
      ·have hlt:¬j<ps.length:=oM;rw[hdp]at hins;simp only[X8]at hins;subst hins;have hidf:ids.length=fs.length:=by rw[hidl,hfs]
       have hM2:SetM ids S (n0+1) n0 L2 (n+1+1):=hM.oth hw2 fun j hj _=>(hfr2 j hj).1;have hii:i<ids.length:=oM;have hid:ids[i]? =some ids[i]:=yv hii;generalize hidd:ids[i]=id at hid;have hidm:id∈ids:=y7 hid;have hcut:xV 1 (wl i (ids.map AV.map))=some [.map id]:=by
        have:(ids.map AV.map).drop i=.map id::(ids.map AV.map).drop (i+1):=by
         rw[ziX (by simpa using hii)]
         simp[hidd]
        rw[wK,this];rfl
       have hsd:n+1∉ids:=fun h=>by have:=lids _ h;omega
       have hCM:=hM2.cap (c:=.fix fs.length) hii gs hsd;have hoid:CapE.oid ⟨ids,S,i,n0+1,n+1,.fix fs.length,false,false⟩=id:=by
        show ids.getD i 0=id;rw[yU,hid];rfl
       have hcap:=fun m b=>zsa h48 hCM (fun j hj=>by
        rcases hj with (h|h)|h
        ·have:=lids j h;omega
        ·rw[h];exact zV _
        ·rw[h];show n0+1<_;omega) (y:=.mk bk bv bop bn bf bas bks) (by show Qo ids.length _;rw[hidf];exact hto) hts (hok.nd i) (by show ids.length<_;omega) m b
       simp only[hoid,xP]at hcap;rw[hidf]at hcap;have hgt2:=hgt id hidm;have hrow:=hM2.row;have hlt2:=lids id hidm;generalize hown:uM S i (.mk bk bv bop bn bf bas bks) (X8 [] ps) (S.getD i [])=own at *;generalize hfl:decide (own.length≠(S.getD i []).length)=b1 at hcap;have hfin:∀{L3:List (Nat×Option AObj)},xD L3 id=some (.umap (uS own))→(∀j,j≠id→xD L3 j=xD L2 j)→SetM ids (S.set i own) (n0+1) n0 L3 (n+1+1):=fun h1 h2=>hM2.set hid h1 h2;have hS0:b1=false→S.set i own=S:=fun h=>by
        rw[h]at hfl;obtain⟨z,hz⟩:=hpre;have:own.length=(S.getD i []).length:=by simpa using hfl
        rw[hz,yl]at this;have hz0:z=[]:=yr oM;rw[hz,hz0,ziJ,PJ]
       have hS1:b1=true→hZ S<hZ (S.set i own):=fun h=>by
        rw[h]at hfl;obtain⟨z,hz⟩:=hpre;have h1:own.length≠(S.getD i []).length:=by simpa using hfl
        have h2:=PZ (l:=own) (show i<S.length by rw[hM2.len];exact hii)
        rw[hz,yl]at h1 h2;rw[hz];omega
       have hle:hZ S≤hZ (S.set i own):=by
        cases b1 with
        |true=>exact Nat.le_of_lt (hS1 rfl)
        |false=>rw[hS0 rfl];exact zo _
       have hg2:(b1||g)=false→S.set i own=itS c k:=fun h=>by
        simp only[Bool.or_eq_false_iff]at h;rw[hS0 h.1];exact hg0 h.2
       have hg3:(b1||g)=true→hZ (itS c k)<hZ (S.set i own):=fun h=>by
        cases g with
        |true=>exact Nat.lt_of_lt_of_le (hg1 rfl) hle
        |false=>
         rw[ziT]at h;rw[←hg0 rfl];exact hS1 h
       have hfr4:∀j,j<n0→xD L2 j=xD L0 j∧m2.testBit j=m0.testBit j:=fun j hj=>by
        have h1:=hfr2 j oM;rw[h1.1,h1.2];exact hfr j hj
       have g02:xD L2 n0=some (.row 25 [.lst fs.length false (xA we fs),.int .i64 main,.int .i64 vars,.int .i64 globals,.lst consts.length false (xX consts)] false false):=by
        rw[(hfr2 n0 oM).1];exact g0
       clear hfl hS0 hS1 hle hg0 hg1 hfr hfr2 hM hM2 hCM hown hpre hto hts hoid hcc hidl;refine xu ?_;refine xK ?_;refine wh (hcap 0 false) fun v t hv=>?_;obtain⟨L3,m3,rfl,rfl,q1,q2,q3⟩:=hv;have hM3:=hfin q1 q2;have g03:xD L3 n0=some (.row 25 [.lst fs.length false (xA we fs),.int .i64 main,.int .i64 vars,.int .i64 globals,.lst consts.length false (xX consts)] false false):=by
        rw[q2 n0 oM];exact g02
       have hfr5:∀j,j<n0→xD L3 j=xD L0 j∧(m2|||m3).testBit j=m0.testBit j:=fun j hj=>by
        refine⟨by rw[q2 j oM];exact(hfr4 j hj).1,?_⟩
        rw[yG,q3 j (by
         rintro(h|h)
         ·have:=hgt j h;omega
         ·have:j=n+1:=h;omega)]
        simp[(hfr4 j hj).2]
       clear hcap hfin hfr4 q1 q2 q3 g02 hrow gs gf;cases b1 with
       |true=>
        refine xu ?_;refine xu ?_;exact⟨(i+1,S.set i own,true),⟨_,L3,n+1+1,_,rfl,rfl,sV,sV,sV,sV,sV,sV,by simp only;omega,oM,g03,hM3,hset,hR,(fun h=>by cases h),(fun _=>hg3 rfl),hfr5⟩,by simp only;omega⟩
       |false=>
        rw[Bool.false_or]at hg2 hg3;refine xu ?_;refine xu ?_;exact⟨(i+1,S.set i own,g),⟨_,L3,n+1+1,_,rfl,rfl,sV,sV,sV,sV,sV,sV,by simp only;omega,oM,g03,hM3,hset,hR,hg2,hg3,hfr5⟩,by simp only;omega⟩
      ·have hcp:=jx hdp;have hst:=zpu sc p;rw[hdp]at hins;simp only[X8]at hins;have hfr3:=hfr2;clear hfr2 hfr hR hset hpre hg0 hg1 hto;refine xu ?_;refine⟨(j+1,Xi sc p),⟨_,_,_,rfl,rfl,sV,sV,sV,sV,sV,sV,sV,sV,sV,sV,sV,sV,by simp only;omega,by rw[xr,if_neg oM];exact gf,xG _ _ _,hins,WfA.same hw2 oM,fun j hj=>⟨?_,?_⟩⟩,by simp only;omega⟩
       ·rw[xr,if_neg oM];exact(hfr3 j hj).1
       ·rw[qn oM];exact(hfr3 j hj).2
     ·rw[xr,if_neg oM,xG]
     ·rw[xG];rfl
     ·(repeat first|exact hw.up oM|refine WfA.same ?_ oM)
     ·(repeat (rw[xr,if_neg oM]))
     ·(repeat rw[qn oM])
 ·(repeat first|exact hw0.up oM|refine WfA.same ?_ oM)
 ·(repeat (rw[xr,if_neg oM]));rw[xG]
 ·(repeat (rw[xr,if_neg oM]))
end
def x0(n m:Int):Bool:= !ltD n (.ofNat 0)&&ltD n m
def Z4(x:Int×Int):List AV:=[.int .i64 x.1,.int .i64 x.2]
theorem zvl:∀x y,Z4 x=Z4 y→x=y:=fun⟨a,b⟩ ⟨c,d⟩ h=>by simpa [Z4]using h
theorem zsz(x:Int×Int):wkL (Z4 x)=Z4 x:=by simp only[Z4,wkL,wkV]
theorem zz5(x:Int×Int):xN (Z4 x)=true:=rfl
noncomputable def pa:List AV→St→Option (AV×St):=vr Z4 (fun _=>True) (fun x=>.bool (x0 x.1 x.2))
attribute [local go_sem] Z4 in
theorem ztL(B:Bx P w0)(hO:OrcOk P w0 O)(x:Int×Int):∃s1,SC P w0 77 (Z4 x) (s00 0 true) (.bool (x0 x.1 x.2)) s1:=by
 refine be B hO f77 ?_;obtain⟨n,m⟩:=x;unfold f77 cF;simp only[x0];refine xB ?_;cases h1:ltD n (.ofNat 0)with
 |true=>
  refine xB ?_;refine wM (r:=.ret) ?_;show Cv _ _;refine xF ?_;exact w7 _ _
 |false=>
  refine xB ?_;refine wM (r:=.ret) ?_;show Cv _ _;refine xF ?_;exact w7 _ _
theorem lM(h:O 77=some pa)(a b:Int)(s:St):(evW env O).call 77 [.int .i64 a,.int .i64 b] s=some (.bool (x0 a b),s):=oc h zvl (a,b) trivial (zsz (a,b)) s
def primL:List Int:=[.ofNat 2,.ofNat 1,.ofNat 2,.ofNat 1,.ofNat 1,.ofNat 2,.ofNat 2,.ofNat 1,.ofNat 2,.ofNat 2,.ofNat 2,.ofNat 2,.ofNat 2,.ofNat 2,.ofNat 2,.ofNat 1,.ofNat 1,.ofNat 1,.ofNat 1,.ofNat 2,.ofNat 1,.ofNat 2,.ofNat 3,.ofNat 1,.ofNat 1,.ofNat 1,.ofNat 1,.ofNat 2,.ofNat 1,.ofNat 2,.ofNat 3,.ofNat 1,.ofNat 2,.ofNat 1,.ofNat 2,.ofNat 3,.ofNat 1,.ofNat 0,.ofNat 1,.ofNat 1,.ofNat 0,.ofNat 0]
def uQ(n:Int):Int:=bif x0 n (.ofNat 42)then primL.getD n.toNat 0 else .negSucc 0
def jr(n:Int):List AV:=[.int .i64 n]
theorem XU:∀x y,jr x=jr y→x=y:=fun a b h=>by simpa [jr]using h
theorem Lh(x:Int):wkL (jr x)=jr x:=by simp only[jr,wkL,wkV]
theorem Ym(x:Int):xN (jr x)=true:=rfl
noncomputable def Kg:List AV→St→Option (AV×St):=vr jr (fun _=>True) (fun x=>.int .i64 (uQ x))
theorem UX{n:Int}(h:ltD n (.ofNat 0)=false):∃k,n=.ofNat k:=by
 cases n with
 |ofNat k=>exact⟨k,rfl⟩
 |negSucc k=>simp[ltD]at h
attribute [local go_sem] jr in
theorem zwi(B:Bx P w0)(hO:OrcOk P w0 O)(n:Int):∃s1,SC P w0 11 (jr n) (s00 0 true) (.int .i64 (uQ n)) s1:=by
 refine be B hO f11 ?_;unfold f11 cF;simp only[uQ,x0];refine xB ?_;refine xB ?_;cases h1:ltD n (.ofNat 0)with
 |true=>
  refine xu ?_;refine xF ?_;exact wU _ _ _
 | false=>
  obtain⟨k,rfl⟩:=UX h1;cases h2:ltD (.ofNat k) (.ofNat 42)with
  |false=>
   refine xu ?_;refine xF ?_;exact wU _ _ _
  | true=>
   have hk:k<42:=by simp[ltD]at h2;omega
   have hc:= @jx primL k (primL.getD k 0) (primL.drop (k+1)) (by
    rw[ziX (show k<primL.length from hk),yU,yv (show k<primL.length from hk)];rfl)
   show Ev _ fun r fr t=>Cv (Z2 _ (wL _ _ (some (r,fr,t)))) fun v0 s1=>Fz s1 v0 (.int .i64 (primL.getD k 0));generalize primL.getD k 0=v at *;simp only[primL,xA,xL,zG,ziZ]at hc;refine xB ?_;refine xB ?_;refine wM (r:=.ret) ?_;show Cv _ _;refine xF ?_;exact wU _ _ _
def gh(n:Int):Int:=
 bif eqD n (.ofNat 103)||(eqD n (.ofNat 105)||eqD n (.ofNat 106))then .ofNat 0
 else bif eqD n (.ofNat 100)||(eqD n (.ofNat 101)||eqD n (.ofNat 104))then .ofNat 1
 else bif eqD n (.ofNat 102)then .ofNat 2 else uQ n
noncomputable def zys:List AV→St→Option (AV×St):=vr jr (fun _=>True) (fun x=>.int .i64 (gh x))
attribute [local go_sem] jr in
theorem zpL(B:Bx P w0)(hO:OrcOk P w0 O)(h132:O 11=some Kg)(n:Int):∃s1,SC P w0 185 (jr n) (s00 0 true) (.int .i64 (gh n)) s1:=by
 refine be B hO f185 ?_;have hp:=fun s=>oc h132 XU n trivial (Lh n) s;unfold f185 cF;simp only[gh,jr]at hp⊢;have hpn:(bif x0 n (.ofNat 42)then uQ n else .negSucc 0)=uQ n:=by
  unfold uQ;cases x0 n (.ofNat 42)<;>rfl
 simp only[x0]at hpn;refine xB ?_;cases a1:eqD n (.ofNat 103)with
 |true=>refine xu ?_;refine xF ?_;exact wU _ _ _
 |false=>
 cases a2:eqD n (.ofNat 105)with
 |true=>refine xu ?_;refine xF ?_;exact wU _ _ _
 |false=>
 cases a3:eqD n (.ofNat 106)with
 |true=>refine xu ?_;refine xF ?_;exact wU _ _ _
 |false=>
 cases a4:eqD n (.ofNat 100)with
 |true=>refine xu ?_;refine xF ?_;exact wU _ _ _
 |false=>
 cases a5:eqD n (.ofNat 101)with
 |true=>refine xu ?_;refine xF ?_;exact wU _ _ _
 |false=>
 cases a6:eqD n (.ofNat 104)with
 |true=>refine xu ?_;refine xF ?_;exact wU _ _ _
 |false=>
 cases a7:eqD n (.ofNat 102)with
 |true=>refine xu ?_;refine xF ?_;exact wU _ _ _
 |false=>
 show Ev _ fun r fr t=>Cv (Z2 _ (wL _ _ (some (r,fr,t)))) fun v0 s1=>Fz s1 v0 (.int .i64 (uQ n));generalize uQ n=p at *;refine xB ?_;cases b1:ltD n (.ofNat 0)with
 |true=>
  rw[b1]at hpn;simp only[xo,ziL,cond_false]at hpn;subst hpn;refine xu ?_;refine xF ?_;exact wU _ _ _
 |false=>
 cases b2:ltD n (.ofNat 42)with
 |false=>
  rw[b1,b2]at hpn;simp only[ziN,cond_false]at hpn;subst hpn;refine xu ?_;refine xF ?_;exact wU _ _ _
 |true=>
  clear hpn;refine xB ?_;refine xB ?_;refine wM (r:=.ret) ?_;show Cv _ _;refine xF ?_;exact wU _ _ _
def Kz(c:Cd)(f:Fn)(op:Int):Int:=
 bif eqD op (.ofNat 103)||eqD op (.ofNat 104)then c.globals else bif eqD op (.ofNat 105)then .ofNat f.fr.length else .ofNat 1
def Xu(c:Cd)(f:Fn)(t:Trm):Bool:=
 eqD (gh t.op) (.ofNat t.atoms.length)&&(x0 t.num (Kz c f t.op)&&(eqD t.fn (.ofNat 0)&&(decide (t.kids.length=1)&&x0 t.var c.vars)))
def uD(x:Cd×Fn×Trm):List AV:=[vv x.1,uP x.2.1,vK x.2.2]
theorem VY:∀x y,uD x=uD y→x=y:=fun⟨a,b,c⟩ ⟨d,e,f⟩ h=>by
 simp only[uD,List.cons.injEq,and_true]at h;rw[JU h.1,JW h.2.1,J1 h.2.2]
theorem JT(x:Cd×Fn×Trm):wkL (uD x)=uD x:=by simp only[uD,wkL,Lf,Lg,Lk]
theorem WW(x:Cd×Fn×Trm):xN (uD x)=true:=by simp only[uD,vv,uP,vK,xY,ve,pO,pP,gA,x6,xe]
noncomputable def zyr:List AV→St→Option (AV×St):=vr uD (fun _=>True) (fun x=>.bool (Xu x.1 x.2.1 x.2.2))
theorem qe{a b:Bool}(h:b=a):Fz s (.bool a) (.bool b):=h▸w7 s b
section
variable {P:Program}{w0:World}(B:Bx P w0){O:Orc}(hO:OrcOk P w0 O)
include B hO
attribute [local go_sem] uD vv uP vK w9 we xP qW in
theorem zq4(h147:O 185=some zys)(h66:O 77=some pa)(x:Cd×Fn×Trm):∃s1,SC P w0 156 (uD x) (s00 0 true) (.bool (Xu x.1 x.2.1 x.2.2)) s1:=by
 refine be B hO f156 ?_;obtain⟨⟨fs,main,vars,globals,consts⟩,⟨ps,rest,cont,fr,b⟩,⟨k,v,op,num,fn,az,ks⟩⟩:=x;have ht:=fun s=>oc h147 XU op trivial (Lh op) s;have hb:=lM h66;obtain⟨R,hR⟩:∃R,Xu ⟨fs,main,vars,globals,consts⟩ ⟨ps,rest,cont,fr,b⟩ (.mk k v op num fn az ks)=R:=⟨_,rfl⟩;rw[hR];simp only[Xu,Kz,Trm.op,Trm.atoms,Trm.num,Trm.fn,Trm.kids,Trm.var]at hR;obtain⟨bk,bv,bop,bn,bf,bas,bks⟩:=b;unfold f156 cF;simp only[jr]at ht⊢;generalize gh op=tk at *;refine xB ?_;refine xB ?_;cases a1:eqD op (.ofNat 103)with
 |true=>
  rw[a1]at hR;simp only[ziR,cond_true]at hR;refine xB ?_;have hb1:=hb num (globals);have hb2:=hb v vars;clear hb;generalize x0 num (globals)=c2 at *;generalize x0 v vars=c5 at *;cases e1:eqD tk (.ofNat az.length)with
  |false=>refine xB ?_;refine wM (r:=.ret) ?_;show Cv _ _;refine xF ?_;exact qe (by rw[←hR];simp only[*,ziL])
  |true=>
  cases c2 with
  |false=>refine xB ?_;refine wM (r:=.ret) ?_;show Cv _ _;refine xF ?_;exact qe (by rw[←hR];simp only[*,ziN,ziL])
  |true=>
  cases e3:eqD fn (.ofNat 0)with
  |false=>refine xB ?_;refine wM (r:=.ret) ?_;show Cv _ _;refine xF ?_;exact qe (by rw[←hR];simp only[*,ziN,ziL])
  |true=>
  by_cases e4:ks.length=1
  ·refine xB ?_;refine wM (r:=.ret) ?_;show Cv _ _;refine xF ?_;exact qe (by rw[←hR];simp only[*,decide_true,yD])
  ·refine xB ?_;refine wM (r:=.ret) ?_;show Cv _ _;refine xF ?_;exact qe (by rw[←hR];simp only[*,decide_false,ziN,ziL])
 |false=>
 cases a2:eqD op (.ofNat 104)with
 |true=>
  rw[a1,a2]at hR;simp only[ziP,cond_true]at hR;refine xB ?_;have hb1:=hb num (globals);have hb2:=hb v vars;clear hb;generalize x0 num (globals)=c2 at *;generalize x0 v vars=c5 at *;cases e1:eqD tk (.ofNat az.length)with
  |false=>refine xB ?_;refine wM (r:=.ret) ?_;show Cv _ _;refine xF ?_;exact qe (by rw[←hR];simp only[*,ziL])
  |true=>
  cases c2 with
  |false=>refine xB ?_;refine wM (r:=.ret) ?_;show Cv _ _;refine xF ?_;exact qe (by rw[←hR];simp only[*,ziN,ziL])
  |true=>
  cases e3:eqD fn (.ofNat 0)with
  |false=>refine xB ?_;refine wM (r:=.ret) ?_;show Cv _ _;refine xF ?_;exact qe (by rw[←hR];simp only[*,ziN,ziL])
  |true=>
  by_cases e4:ks.length=1
  ·refine xB ?_;refine wM (r:=.ret) ?_;show Cv _ _;refine xF ?_;exact qe (by rw[←hR];simp only[*,decide_true,yD])
  ·refine xB ?_;refine wM (r:=.ret) ?_;show Cv _ _;refine xF ?_;exact qe (by rw[←hR];simp only[*,decide_false,ziN,ziL])
 |false=>
 cases a3:eqD op (.ofNat 105)with
 |true=>
  rw[a1,a2,a3]at hR;simp only[ziT,cond_false,cond_true]at hR;refine xB ?_;have hb1:=hb num (.ofNat fr.length);have hb2:=hb v vars;clear hb;generalize x0 num (.ofNat fr.length)=c2 at *;generalize x0 v vars=c5 at *;cases e1:eqD tk (.ofNat az.length)with
  |false=>refine xB ?_;refine wM (r:=.ret) ?_;show Cv _ _;refine xF ?_;exact qe (by rw[←hR];simp only[*,ziL])
  |true=>
  cases c2 with
  |false=>refine xB ?_;refine wM (r:=.ret) ?_;show Cv _ _;refine xF ?_;exact qe (by rw[←hR];simp only[*,ziN,ziL])
  |true=>
  cases e3:eqD fn (.ofNat 0)with
  |false=>refine xB ?_;refine wM (r:=.ret) ?_;show Cv _ _;refine xF ?_;exact qe (by rw[←hR];simp only[*,ziN,ziL])
  |true=>
  by_cases e4:ks.length=1
  ·refine xB ?_;refine wM (r:=.ret) ?_;show Cv _ _;refine xF ?_;exact qe (by rw[←hR];simp only[*,decide_true,yD])
  ·refine xB ?_;refine wM (r:=.ret) ?_;show Cv _ _;refine xF ?_;exact qe (by rw[←hR];simp only[*,decide_false,ziN,ziL])
 |false=>
  rw[a1,a2,a3]at hR;simp only[ziT,cond_false]at hR;refine xB ?_;have hb1:=hb num (.ofNat 1);have hb2:=hb v vars;clear hb;generalize x0 num (.ofNat 1)=c2 at *;generalize x0 v vars=c5 at *;cases e1:eqD tk (.ofNat az.length)with
  |false=>refine xB ?_;refine wM (r:=.ret) ?_;show Cv _ _;refine xF ?_;exact qe (by rw[←hR];simp only[*,ziL])
  |true=>
  cases c2 with
  |false=>refine xB ?_;refine wM (r:=.ret) ?_;show Cv _ _;refine xF ?_;exact qe (by rw[←hR];simp only[*,ziN,ziL])
  |true=>
  cases e3:eqD fn (.ofNat 0)with
  |false=>refine xB ?_;refine wM (r:=.ret) ?_;show Cv _ _;refine xF ?_;exact qe (by rw[←hR];simp only[*,ziN,ziL])
  |true=>
  by_cases e4:ks.length=1
  ·refine xB ?_;refine wM (r:=.ret) ?_;show Cv _ _;refine xF ?_;exact qe (by rw[←hR];simp only[*,decide_true,yD])
  ·refine xB ?_;refine wM (r:=.ret) ?_;show Cv _ _;refine xF ?_;exact qe (by rw[←hR];simp only[*,decide_false,ziN,ziL])
end
def Gi(vars nc:Int)(a:Atm):Bool:= !((!eqD a.k (.ofNat 1)&& !eqD a.k (.ofNat 2))||((eqD a.k (.ofNat 1)&& !x0 a.n vars)||(eqD a.k (.ofNat 2)&& !x0 a.n nc)))
def fn0:Fn:=⟨[],false,false,[],.mk 0 0 0 0 0 [] []⟩
def Qs(c:Cd)(n:Int):Fn:=c.fs.getD n.toNat fn0
def Zm(c:Cd)(k v op num fn:Int)(na nk:Nat):Bool:=
 !((!eqD op (.ofNat 0)|| !eqD num (.ofNat 0))||((!eqD k (.ofNat 2)&& !eqD v (.ofNat 0))||((!eqD k (.ofNat 2)&& !eqD k (.ofNat 5))&& !eqD fn (.ofNat 0))))&&
 (bif eqD k (.ofNat 2)then (x0 fn (.ofNat c.fs.length)&&(x0 v c.vars&&decide (na=(Qs c fn).fr.length)))&&decide (nk=1)
  else bif eqD k (.ofNat 3)then decide (na=1)&&decide (nk=2)
  else bif eqD k (.ofNat 4)then decide (1≤na)&&decide (nk=0)
  else bif eqD k (.ofNat 6)then decide (2≤na)&&decide (nk=0)
  else bif eqD k (.ofNat 5)then (x0 fn (.ofNat c.fs.length)&&(!(Qs c fn).rest&&decide (na=1+(Qs c fn).ps.length)))&&decide (nk=0)
  else eqD k (.ofNat 7)&&(decide (na=0)&&decide (nk=0)))
def ux(c:Cd)(f:Fn)(t:Trm):Bool:=
 t.atoms.all (Gi c.vars (.ofNat c.consts.length))&&(bif eqD t.kind (.ofNat 1)then Xu c f t else Zm c t.kind t.var t.op t.num t.fn t.atoms.length t.kids.length)
def zlc(x:Cd×Fn×Trm):Prop:=(∀g∈x.1.fs,g.ps.length<1000000000)∧x.2.2.atoms.length<1000000000
noncomputable def GO:List AV→St→Option (AV×St):=vr uD zlc (fun x=>.bool (ux x.1 x.2.1 x.2.2))
theorem ZD{l:List Fn}{i:Nat}{o:Fn}{r:List Fn}(hd:l.drop i=o::r):wl (i*11) (xA we l)=we o++xA we r:=by
 rw[uf lR,hd];rfl
theorem kH{n:Int}{N:Nat}(h:x0 n (.ofNat N)=true):∃j,n=.ofNat j∧j<N:=by
 simp only[x0,zl,Bool.not_eq_true']at h;obtain⟨j,rfl⟩:=UX h.1;refine⟨j,rfl,?_⟩;have:=h.2;simp only[ltD,decide_eq_true_eq]at this;exact Int.ofNat_lt.1 this
section
variable {P:Program}{w0:World}(B:Bx P w0){O:Orc}(hO:OrcOk P w0 O)
include B hO
attribute [local go_sem] uD vv uP vK w9 we xP qW ltF gtF in
theorem zvS(h118:O 156=some zyr)(h66:O 77=some pa)(x:Cd×Fn×Trm)(hx:zlc x):∃s1,SC P w0 119 (uD x) (s00 0 true) (.bool (ux x.1 x.2.1 x.2.2)) s1:=by
 refine be B hO f119 ?_;have hpr:=fun s=>oc h118 VY x trivial (JT x) s;obtain⟨⟨fs,main,vars,globals,consts⟩,⟨ps,rest,cont,fr,b⟩,⟨k,v,op,num,fn,az,ks⟩⟩:=x;obtain⟨hps,hal⟩:=hx;have hb:=lM h66;simp only[Trm.atoms]at hps hal;obtain⟨R,hR⟩:∃R,ux ⟨fs,main,vars,globals,consts⟩ ⟨ps,rest,cont,fr,b⟩ (.mk k v op num fn az ks)=R:=⟨_,rfl⟩;rw[hR];simp only[ux,Trm.kind,Trm.op,Trm.atoms,Trm.num,Trm.fn,Trm.kids,Trm.var]at hR;generalize Xu ⟨fs,main,vars,globals,consts⟩ ⟨ps,rest,cont,fr,b⟩ (.mk k v op num fn az ks)=pr at *;obtain⟨bk,bv,bop,bn,bf,bas,bks⟩:=b;simp only[uD,vv,uP,vK,w9,we,xP,qW]at hpr;unfold f119 cF;simp only;refine xB ?_;refine xz (xz (xu ?_));refine xE ?_;refine xU (fun i:Nat=>az.length-i) (fun i f t=>∃T L n m,f=⟨tmL T,[]⟩∧t=KL L n m true [] none∧(tmL T).get 3=some (.ptr 0 0)∧(tmL T).get 4=some (.ptr 1 0)∧(tmL T).get 5=some (.ptr 2 0)∧(tmL T).get 12=some (.lst az.length false (xA qp az))∧(tmL T).get 13=some (.int .i64 (.ofNat az.length))∧(tmL T).get 14=some (.int .i64 (.ofNat i))∧i≤az.length∧3≤n∧xD L 0=some (.row 25 [.lst fs.length false (xA we fs),.int .i64 main,.int .i64 vars,.int .i64 globals,.lst consts.length false (xX consts)] false false)∧xD L 1=some (.row 42 [.lst ps.length false (xA xL ps),.bool rest,.bool cont,.lst fr.length false (xA xL fr),.int .i64 bk,.int .i64 bv,.int .i64 bop,.int .i64 bn,.int .i64 bf,.lst bas.length false (xA qp bas),.lst bks.length false (wc bks)] false false)∧xD L 2=some (.row 40 [.int .i64 k,.int .i64 v,.int .i64 op,.int .i64 num,.int .i64 fn,.lst az.length false (xA qp az),.lst ks.length false (wc ks)] false false)∧az.all (Gi vars (.ofNat consts.length))=(az.drop i).all (Gi vars (.ofNat consts.length))) (fun i f t hI=>?_) 0 ⟨_,_,3,_,rfl,rfl,sW,sW,sW,sW,sW,sW,zK _,zo _,sW,sW,sW,rfl⟩;obtain⟨T,L,n,m,rfl,rfl,t3,t4,t5,t12,t13,t14,hi,hn,g0,g1,g2,hal2⟩:=hI;rcases xQ az i with ⟨hi2,hd⟩|⟨a,hi2,hd⟩
 ·have hlt:¬i<az.length:=oM;rw[hd]at hal2;rw[hal2,show ([]:List Atm).all (Gi vars (.ofNat consts.length))=true from rfl,yD]at hR;clear hal2 hd;refine xu ?_;refine xB ?_;by_cases k1:k=.ofNat 1
  ·subst k1;simp only[show eqD (.ofNat 1) (.ofNat 1)=true from rfl,cond_true]at hR;refine xu ?_;refine xF ?_;exact qe rfl
  by_cases k2:k=.ofNat 2
  ·subst k2;simp only[Zm,show eqD (.ofNat 2) (.ofNat 1)=false from rfl,show eqD (.ofNat 2) (.ofNat 2)=true from rfl,show eqD (.ofNat 2) (.ofNat 3)=false from rfl,show eqD (.ofNat 2) (.ofNat 4)=false from rfl,show eqD (.ofNat 2) (.ofNat 5)=false from rfl,show eqD (.ofNat 2) (.ofNat 6)=false from rfl,show eqD (.ofNat 2) (.ofNat 7)=false from rfl,cond_true,cond_false,xo,ziM,ziL,Bool.false_or]at hR;cases a1:eqD op (.ofNat 0)with
   |false=>refine xu ?_;refine xF ?_;exact qe (by rw[←hR];simp only[*,ziL,ziR,ziT,xo,ziM])
   |true=>
   cases a2:eqD num (.ofNat 0)with
   |false=>refine xu ?_;refine xF ?_;exact qe (by rw[←hR];simp only[*,ziL,ziP,ziT,xo,ziM])
   |true=>
   have hb1:=hb fn (.ofNat fs.length);have hb2:=hb v vars;clear hb;cases c1:x0 fn (.ofNat fs.length)with
   |false=>rw[c1]at hb1 hR;refine xu ?_;refine xF ?_;exact qe (by rw[←hR];simp only[*,ziN,ziL,ziO,xo,ziM])
   |true=>
   rw[c1]at hb1 hR;obtain⟨j,rfl,hj⟩:=kH c1;clear c1;cases c2:x0 v vars with
   |false=>rw[c2]at hb2 hR;refine xu ?_;refine xF ?_;exact qe (by rw[←hR];simp only[*,ziN,ziL,ziO,xo,ziM])
   |true=>
   rw[c2]at hb2 hR;clear c2;have hdj:fs.drop j=fs[j]::fs.drop (j+1):=ziX hj;have hdr:=ZD hdj;have hg:Qs ⟨fs,main,vars,globals,consts⟩ (.ofNat j)=fs[j]:=by
    show fs.getD j fn0=_;rw[yU,yv hj];rfl
   have hgl:=hps fs[j] (zhd hj);rw[hg]at hR;clear hg hps hdj;generalize fs[j]=g at *;obtain⟨gps,grest,gcont,gfr,gb⟩:=g;obtain⟨gk,gv,gop,gn,gf,gas,gks⟩:=gb;simp only[we,xP,qW,zG,ziZ]at hdr hgl hR;by_cases c3:az.length=gfr.length
   ·by_cases c4:ks.length=1
    ·refine xu ?_;refine xF ?_;exact qe (by rw[←hR];simp only[*,decide_true,xe,ziO,xo,ziM])
    ·refine xu ?_;refine xF ?_;exact qe (by rw[←hR];simp only[*,decide_true,decide_false,ziN,xe,ziO,xo,ziM])
   ·refine xu ?_;refine xF ?_;exact qe (by rw[←hR];simp only[*,decide_false,ziN,ziL,ziO,xo,ziM])
  by_cases k3:k=.ofNat 3
  ·subst k3;simp only[Zm,show eqD (.ofNat 3) (.ofNat 1)=false from rfl,show eqD (.ofNat 3) (.ofNat 2)=false from rfl,show eqD (.ofNat 3) (.ofNat 3)=true from rfl,show eqD (.ofNat 3) (.ofNat 4)=false from rfl,show eqD (.ofNat 3) (.ofNat 5)=false from rfl,show eqD (.ofNat 3) (.ofNat 6)=false from rfl,show eqD (.ofNat 3) (.ofNat 7)=false from rfl,cond_true,cond_false,ziM,ziL,yD]at hR;cases a1:eqD op (.ofNat 0)with
   |false=>refine xu ?_;refine xF ?_;exact qe (by rw[←hR];simp only[*,ziL,ziR,xo,ziM])
   |true=>
   cases a2:eqD num (.ofNat 0)with
   |false=>refine xu ?_;refine xF ?_;exact qe (by rw[←hR];simp only[*,ziL,ziP,ziR,xo,ziM])
   |true=>
   cases a3:eqD v (.ofNat 0)with
   |false=>refine xu ?_;refine xF ?_;exact qe (by rw[←hR];simp only[*,ziL,ziP,ziR,ziO,xo,ziM])
   |true=>
   cases a4:eqD fn (.ofNat 0)with
   |false=>refine xu ?_;refine xF ?_;exact qe (by rw[←hR];simp only[*,ziL,ziP,ziO,xo,ziM])
   |true=>
   by_cases c1:az.length=1
   ·by_cases c2:ks.length=2
    ·refine xu ?_;refine xF ?_;exact qe (by rw[←hR];simp only[*,decide_true,xe,ziO,xo,ziM])
    ·refine xu ?_;refine xF ?_;exact qe (by rw[←hR];simp only[*,decide_true,decide_false,ziN,ziO,xo,ziM])
   ·refine xu ?_;refine xF ?_;exact qe (by rw[←hR];simp only[*,decide_false,ziN,ziL,ziO,xo,ziM])
  by_cases k4:k=.ofNat 4
  ·subst k4;simp only[Zm,show eqD (.ofNat 4) (.ofNat 1)=false from rfl,show eqD (.ofNat 4) (.ofNat 2)=false from rfl,show eqD (.ofNat 4) (.ofNat 3)=false from rfl,show eqD (.ofNat 4) (.ofNat 4)=true from rfl,show eqD (.ofNat 4) (.ofNat 5)=false from rfl,show eqD (.ofNat 4) (.ofNat 6)=false from rfl,show eqD (.ofNat 4) (.ofNat 7)=false from rfl,cond_true,cond_false,ziM,ziL,yD]at hR;cases a1:eqD op (.ofNat 0)with
   |false=>refine xu ?_;refine xF ?_;exact qe (by rw[←hR];simp only[*,ziL,ziR,xo,ziM])
   |true=>
   cases a2:eqD num (.ofNat 0)with
   |false=>refine xu ?_;refine xF ?_;exact qe (by rw[←hR];simp only[*,ziL,ziP,ziR,xo,ziM])
   |true=>
   cases a3:eqD v (.ofNat 0)with
   |false=>refine xu ?_;refine xF ?_;exact qe (by rw[←hR];simp only[*,ziL,ziP,ziR,ziO,xo,ziM])
   |true=>
   cases a4:eqD fn (.ofNat 0)with
   |false=>refine xu ?_;refine xF ?_;exact qe (by rw[←hR];simp only[*,ziL,ziP,ziO,xo,ziM])
   |true=>
   by_cases c1:1≤az.length
   ·by_cases c2:ks.length=0
    ·refine xu ?_;refine xF ?_;exact qe (by rw[←hR];simp only[*,decide_true,xe,ziO,xo,ziM])
    ·refine xu ?_;refine xF ?_;exact qe (by rw[←hR];simp only[*,decide_true,decide_false,ziN,ziO,xo,ziM])
   ·refine xu ?_;refine xF ?_;exact qe (by rw[←hR];simp only[*,decide_false,ziN,ziL,ziO,xo,ziM])
  by_cases k5:k=.ofNat 5
  ·subst k5;simp only[Zm,show eqD (.ofNat 5) (.ofNat 1)=false from rfl,show eqD (.ofNat 5) (.ofNat 2)=false from rfl,show eqD (.ofNat 5) (.ofNat 3)=false from rfl,show eqD (.ofNat 5) (.ofNat 4)=false from rfl,show eqD (.ofNat 5) (.ofNat 5)=true from rfl,show eqD (.ofNat 5) (.ofNat 6)=false from rfl,show eqD (.ofNat 5) (.ofNat 7)=false from rfl,cond_true,cond_false,xo,ziM,ziL,yD]at hR;cases a1:eqD op (.ofNat 0)with
   |false=>refine xu ?_;refine xF ?_;exact qe (by rw[←hR];simp only[*,ziL,ziR,ziT,xo,ziM])
   |true=>
   cases a2:eqD num (.ofNat 0)with
   |false=>refine xu ?_;refine xF ?_;exact qe (by rw[←hR];simp only[*,ziL,ziP,ziR,ziT,xo,ziM])
   |true=>
   cases a3:eqD v (.ofNat 0)with
   |false=>refine xu ?_;refine xF ?_;exact qe (by rw[←hR];simp only[*,ziL,ziP,ziT,ziO,xo,ziM])
   |true=>
   have hb1:=hb fn (.ofNat fs.length);clear hb;cases c1:x0 fn (.ofNat fs.length)with
   |false=>rw[c1]at hb1 hR;refine xu ?_;refine xF ?_;exact qe (by rw[←hR];simp only[*,ziN,ziL,ziO,xo,ziM])
   |true=>
   rw[c1]at hb1 hR;obtain⟨j,rfl,hj⟩:=kH c1;clear c1;have hdj:fs.drop j=fs[j]::fs.drop (j+1):=ziX hj;have hdr:=ZD hdj;have hg:Qs ⟨fs,main,vars,globals,consts⟩ (.ofNat j)=fs[j]:=by
    show fs.getD j fn0=_;rw[yU,yv hj];rfl
   have hgl:=hps fs[j] (zhd hj);rw[hg]at hR;clear hg hps hdj;generalize fs[j]=g at *;obtain⟨gps,grest,gcont,gfr,gb⟩:=g;obtain⟨gk,gv,gop,gn,gf,gas,gks⟩:=gb;simp only[we,xP,qW,zG,ziZ]at hdr hgl hR;cases grest with
   |true=>refine xu ?_;refine xF ?_;exact qe (by rw[←hR];simp only[*,ziN,ziL,ziO,xo,ziM])
   |false=>
   by_cases c3:az.length=1+gps.length
   ·by_cases c4:ks.length=0
    ·refine xu ?_;refine xF ?_;exact qe (by rw[←hR];simp only[*,decide_true,xe,ziO,xo,ziM])
    ·refine xu ?_;refine xF ?_;exact qe (by rw[←hR];simp only[*,decide_true,decide_false,ziN,xe,ziO,xo,ziM])
   ·refine xu ?_;refine xF ?_;exact qe (by rw[←hR];simp only[*,decide_false,ziN,ziL,ziO,xo,ziM])
  by_cases k6:k=.ofNat 6
  ·subst k6;simp only[Zm,show eqD (.ofNat 6) (.ofNat 1)=false from rfl,show eqD (.ofNat 6) (.ofNat 2)=false from rfl,show eqD (.ofNat 6) (.ofNat 3)=false from rfl,show eqD (.ofNat 6) (.ofNat 4)=false from rfl,show eqD (.ofNat 6) (.ofNat 5)=false from rfl,show eqD (.ofNat 6) (.ofNat 6)=true from rfl,show eqD (.ofNat 6) (.ofNat 7)=false from rfl,cond_true,cond_false,ziM,ziL,yD]at hR;cases a1:eqD op (.ofNat 0)with
   |false=>refine xu ?_;refine xF ?_;exact qe (by rw[←hR];simp only[*,ziL,ziR,xo,ziM])
   |true=>
   cases a2:eqD num (.ofNat 0)with
   |false=>refine xu ?_;refine xF ?_;exact qe (by rw[←hR];simp only[*,ziL,ziP,ziR,xo,ziM])
   |true=>
   cases a3:eqD v (.ofNat 0)with
   |false=>refine xu ?_;refine xF ?_;exact qe (by rw[←hR];simp only[*,ziL,ziP,ziR,ziO,xo,ziM])
   |true=>
   cases a4:eqD fn (.ofNat 0)with
   |false=>refine xu ?_;refine xF ?_;exact qe (by rw[←hR];simp only[*,ziL,ziP,ziO,xo,ziM])
   |true=>
   by_cases c1:2≤az.length
   ·by_cases c2:ks.length=0
    ·refine xu ?_;refine xF ?_;exact qe (by rw[←hR];simp only[*,decide_true,xe,ziO,xo,ziM])
    ·refine xu ?_;refine xF ?_;exact qe (by rw[←hR];simp only[*,decide_true,decide_false,ziN,ziO,xo,ziM])
   ·refine xu ?_;refine xF ?_;exact qe (by rw[←hR];simp only[*,decide_false,ziN,ziL,ziO,xo,ziM])
  by_cases k7:k=.ofNat 7
  ·subst k7;simp only[Zm,show eqD (.ofNat 7) (.ofNat 1)=false from rfl,show eqD (.ofNat 7) (.ofNat 2)=false from rfl,show eqD (.ofNat 7) (.ofNat 3)=false from rfl,show eqD (.ofNat 7) (.ofNat 4)=false from rfl,show eqD (.ofNat 7) (.ofNat 5)=false from rfl,show eqD (.ofNat 7) (.ofNat 6)=false from rfl,show eqD (.ofNat 7) (.ofNat 7)=true from rfl,cond_false,ziM,yD]at hR;cases a1:eqD op (.ofNat 0)with
   |false=>refine xu ?_;refine xF ?_;exact qe (by rw[←hR];simp only[*,ziL,ziR,xo,ziM])
   |true=>
   cases a2:eqD num (.ofNat 0)with
   |false=>refine xu ?_;refine xF ?_;exact qe (by rw[←hR];simp only[*,ziL,ziP,ziR,xo,ziM])
   |true=>
   cases a3:eqD v (.ofNat 0)with
   |false=>refine xu ?_;refine xF ?_;exact qe (by rw[←hR];simp only[*,ziL,ziP,ziR,ziO,xo,ziM])
   |true=>
   cases a4:eqD fn (.ofNat 0)with
   |false=>refine xu ?_;refine xF ?_;exact qe (by rw[←hR];simp only[*,ziL,ziP,ziO,xo,ziM])
   |true=>
   by_cases c1:az.length=0
   ·by_cases c2:ks.length=0
    ·refine xu ?_;refine xF ?_;exact qe (by rw[←hR];simp only[*,decide_true,xe,ziO,xo,ziM])
    ·refine xu ?_;refine xF ?_;exact qe (by rw[←hR];simp only[*,decide_true,decide_false,ziN,ziO,xo,ziM])
   ·refine xu ?_;refine xF ?_;exact qe (by rw[←hR];simp only[*,decide_false,ziN,ziL,ziO,xo,ziM])
  have e1:=qj k1;have e2:=qj k2;have e3:=qj k3;have e4:=qj k4;have e5:=qj k5;have e6:=qj k6;have e7:=qj k7;simp only[Zm,e1,e2,e3,e4,e5,e6,e7,cond_false,ziL,ziN]at hR;subst hR;cases a1:eqD op (.ofNat 0)with
  |false=>refine xu ?_;refine xF ?_;exact w7 _ _
  |true=>
  cases a2:eqD num (.ofNat 0)with
  |false=>refine xu ?_;refine xF ?_;exact w7 _ _
  |true=>
  cases a3:eqD v (.ofNat 0)with
  |false=>refine xu ?_;refine xF ?_;exact w7 _ _
  |true=>
  cases a4:eqD fn (.ofNat 0)with
  |false=>refine xu ?_;refine xF ?_;exact w7 _ _
  |true=>
  refine xu ?_;refine xF ?_;exact w7 _ _
 ·have hc:=zzN hd;rw[hd,ziK]at hal2;have hb1:=hb a.n vars;have hb2:=hb a.n (.ofNat consts.length);obtain⟨ak,an⟩:=a;simp only[Gi]at hal2;simp only at hc hb1 hb2;clear hb hpr;generalize x0 an vars=b1 at *;generalize x0 an (.ofNat consts.length)=b2 at *;cases e1:eqD ak (.ofNat 1)with
  | false=>
   cases e2:eqD ak (.ofNat 2)with
   |false=>refine xu ?_;refine xF ?_;exact qe (by rw[←hR,hal2];simp only[*,ziL,xe,ziT,ziO,xo,ziM])
   | true=>
    cases b2 with
    |false=>refine xu ?_;refine xF ?_;exact qe (by rw[←hR,hal2];simp only[*,ziN,ziL,xe,ziP,xo,ziM])
    | true=>
     (refine xu ?_
      exact⟨i+1,⟨_,_,n+1,_,rfl,rfl,sV,sV,sV,sV,sV,sV,oM,oM,by (repeat rw[xr,if_neg oM]);exact g0,by (repeat rw[xr,if_neg oM]);exact g1,by (repeat rw[xr,if_neg oM]);exact g2,(by rw[hal2];simp only[*,yD,ziN,ziL,ziO,xo,ziM])⟩,oM⟩)
  | true=>
   cases b1 with
   |false=>refine xu ?_;refine xF ?_;exact qe (by rw[←hR,hal2];simp only[*,ziL,xe,ziP,ziR,xo,ziM])
   | true=>
    cases e2:eqD ak (.ofNat 2)with
    | false=>
     (refine xu ?_
      exact⟨i+1,⟨_,_,n+1,_,rfl,rfl,sV,sV,sV,sV,sV,sV,oM,oM,by (repeat rw[xr,if_neg oM]);exact g0,by (repeat rw[xr,if_neg oM]);exact g1,by (repeat rw[xr,if_neg oM]);exact g2,(by rw[hal2];simp only[*,zha,yD,ziN,ziL,ziO,xo,ziM])⟩,oM⟩)
    | true=>
     cases b2 with
     |false=>refine xu ?_;refine xF ?_;exact qe (by rw[←hR,hal2];simp only[*,ziN,ziL,xe,ziP,xo,ziM])
     | true=>
      (refine xu ?_
       exact⟨i+1,⟨_,_,n+1,_,rfl,rfl,sV,sV,sV,sV,sV,sV,oM,oM,by (repeat rw[xr,if_neg oM]);exact g0,by (repeat rw[xr,if_neg oM]);exact g1,by (repeat rw[xr,if_neg oM]);exact g2,(by rw[hal2];simp only[*,yD,ziN,xe,ziO,xo,ziM])⟩,oM⟩)
end
mutual
def vW(c:Cd)(f:Fn):Trm→Bool
 |.mk k v op n fn az ks=>ux c f (.mk k v op n fn az ks)&&jm c f ks
def jm(c:Cd)(f:Fn):List Trm→Bool
 |[]=>true
 |t::r=>vW c f t&&jm c f r
end
mutual
def SzT:Trm→Prop
 |.mk _ _ _ _ _ az ks=>az.length<1000000000∧ks.length<1000000000∧YQ ks
def YQ:List Trm→Prop
 |[]=>True
 |t::r=>SzT t∧YQ r
end
theorem zuq{c:Cd}{f:Fn}{t:Trm}(h:Xu c f t=true):t.kids.length=1:=by
 simp only[Xu,zl,decide_eq_true_eq]at h;exact h.2.2.2.1
theorem Ua{c:Cd}{f:Fn}{t:Trm}(h:ux c f t=true):t.kids.length≤2:=by
 unfold ux at h;rw[zl]at h;have h2:=h.2;cases h1:eqD t.kind (.ofNat 1)with
 |true=>rw[h1]at h2;have:=zuq h2;omega
 | false=>
  rw[h1,cond_false]at h2;unfold Zm at h2;rw[zl]at h2;have h3:=h2.2;have key:∀{a:Bool} {n:Nat},(a&&decide (t.kids.length=n))=true→t.kids.length=n:=fun h=>by
   rw[zl,decide_eq_true_eq]at h;exact h.2
  cases e2:eqD t.kind (.ofNat 2)with
  |true=>rw[e2,cond_true]at h3;have:=key h3;omega
  |false=>
  rw[e2,cond_false]at h3;cases e3:eqD t.kind (.ofNat 3)with
  |true=>rw[e3,cond_true]at h3;have:=key h3;omega
  |false=>
  rw[e3,cond_false]at h3;cases e4:eqD t.kind (.ofNat 4)with
  |true=>rw[e4,cond_true]at h3;have:=key h3;omega
  |false=>
  rw[e4,cond_false]at h3;cases e6:eqD t.kind (.ofNat 6)with
  |true=>rw[e6,cond_true]at h3;have:=key h3;omega
  |false=>
  rw[e6,cond_false]at h3;cases e5:eqD t.kind (.ofNat 5)with
  |true=>rw[e5,cond_true]at h3;have:=key h3;omega
  |false=>
  rw[e5,cond_false,zl]at h3;have:=key h3.2;omega
section
variable {O:Orc}{c:Cd}{f:Fn}
attribute [local go_sem] ltF gtF xI xH ziS ziW ziV ziQ xW in
theorem zpM(h70:O 79=none)(h89:O 119=some GO)(hps:∀g∈c.fs,g.ps.length<1000000000):∀(k:Nat) (t:Trm),wC t≤k→SzT t→∀(L:List (Nat×Option AObj)) (n m:Nat) (b:Bool),
  (evW env O).call 79 [vv c,uP f,vK t] (KL L n m b [] none)=some (.bool (vW c f t),KL L n m b [] none):=by
 intro k
 induction k with
 |zero=>intro t h;have:=qQ t;omega
 | succ k ih=>
  intro t hk hsz L n m b;have key:Cv ((evW env O).call 79 [vv c,uP f,vK t] (KL L n m b [] none)) fun v t'=>v=.bool (vW c f t)∧t'=KL L n m b [] none:=by
   refine wI (F:=f79) h70 rfl rfl (ziF rfl) ?_;have hfo:=fun t h s=>oc h89 VY (c,f,t) h (JT (c,f,t)) s;obtain⟨R,hR⟩:∃R,vW c f t=R:=⟨_,rfl⟩;rw[hR];have hcc:=pO c;have hcl:(w9 c).length=5:=rfl;have hcs:xZ (w9 c)=true:=by simp only[w9,u5,li,lC,Zq,xe]
   have hfl:=lR f;have hfs:=HU f;simp only[uD,vv,uP,vK]at hfo ih⊢;generalize w9 c=cc at *;generalize we f=ff at *;have hc5:xV 5 cc=some cc:=wF hcl;have hf11:xV 11 ff=some ff:=wF hfl;unfold f79 cF;simp only;refine xB ?_;refine xz (xE ?_);refine xU (fun x:Trm=>wC x) (fun x f' t'=>∃T L2 m',f'=⟨tmL T,[]⟩∧t'=KL L2 (n+1+1+1) m' true [] none∧(tmL T).get 3=some (.ptr n 0)∧(tmL T).get 4=some (.ptr (n+1) 0)∧(tmL T).get 5=some (.ptr (n+1+1) 0)∧xD L2 n=some (.row 25 cc false false)∧xD L2 (n+1)=some (.row 42 ff false false)∧xD L2 (n+1+1)=some (va x)∧m'%2^n=0∧wC x≤k+1∧SzT x∧vW c f x=R) (fun x f' t' hI=>?_) t ⟨_,_,_,rfl,rfl,sW,sW,sW,sW,sW,by simp (disch:=first|exact dis|fail)only[go_sem,seval,-rO,-rN,va],by simp,hk,hsz,hR⟩
   clear hR hsz hk;obtain⟨T,L2,m',rfl,rfl,t3,t4,t5,g0,g1,g2,hm,hk,hsz,hR⟩:=hI;obtain⟨tk,v,op,num,fn,az,ks⟩:=x;have hcall:=hfo (.mk tk v op num fn az ks) ⟨hps,hsz.1⟩;have hfl2:= @Ua c f (.mk tk v op num fn az ks);simp only[vW]at hR;simp only[SzT]at hsz;simp only[Trm.kids]at hfl2;simp only[xP]at hcall;simp only[va,xP]at g2;simp only[wC]at hk;clear hfo;generalize ux c f (.mk tk v op num fn az ks)=bb at *;cases bb with
   |false=>
    rw[ziL]at hR;subst hR;refine xu ?_;refine xu ?_;refine xF ?_;exact⟨rfl,rfl⟩
   | true=>
    rw[yD]at hR;have hle:=hfl2 rfl;clear hfl2;rcases ks with _|⟨x,_|⟨y,_|⟨z,w⟩⟩⟩
    rotate_right
    ·exact absurd hle (by simp only[zU];omega)
    ·simp only[jm]at hR;subst hR;simp only[xd]at hcall g2;refine xB ?_;refine xu ?_;refine xF ?_;exact⟨rfl,rfl⟩
    ·simp only[jm,zha,qB,YQ,and_true]at hR hk hsz;have hc:xV 7 (wc [x])=some (wy x):=by rw[qa];exact qI (wg x)
     obtain⟨k2,v2,op2,num2,f2,as2,ks2⟩:=x;simp only[xP]at hc;simp only[zU,xd]at hcall g2;refine xB ?_;refine xu ?_;refine⟨_,⟨_,_,_,rfl,rfl,sV,sV,sV,sV,sV,by simp (disch:=first|exact dis|fail)only[go_sem,seval,-rO,-rN,va,xP],sV,oM,hsz.2.2,hR⟩,by simp only[wC,qB];omega⟩
    ·simp only[jm,zha,qB,YQ,and_true]at hR hk hsz;have hc:xV 7 (wc [x,y])=some (wy x):=by rw[qa];exact qI (wg x)
     have hc2:xV 7 (wl 7 (wc [x,y]))=some (wy y):=by
      simp only[qa,gB,ziJ];rw[wK,zhg (wg x)];exact wF (wg y)
     have hpx:=qQ x;have hih:=ih y oM hsz.2.2.2;generalize vW c f y=by_ at *;obtain⟨k2,v2,op2,num2,f2,as2,ks2⟩:=x;simp only[xP]at hc;simp only[zU,xd]at hcall g2;clear ih;cases by_ with
     |false=>
      rw[ziN]at hR;subst hR;refine xB ?_;refine xu ?_;refine xF ?_;exact⟨rfl,rfl⟩
     |true=>
      rw[zha]at hR;refine xB ?_;refine xu ?_;refine⟨_,⟨_,_,_,rfl,rfl,sV,sV,sV,sV,sV,by simp (disch:=first|exact dis|fail)only[go_sem,seval,-rO,-rN,va,xP],sV,oM,hsz.2.2.1,hR⟩,by simp only[wC,qB];omega⟩
  obtain⟨v,t',h,rfl,rfl⟩:=key;exact h
end
section
variable {O:Orc}
attribute [local go_sem] ztj Wt gq in
theorem GQ(h88:O 39=none)(k:Nat)(hk:k<10000000000)(L:List (Nat×Option AObj))(n m:Nat)(b:Bool):
  (evW env O).call 39 [.nils,.int .i64 (.ofNat (k+1))] (KL L n m b [] none)=some (.sl n 0 0 (.opn 1),KL ((n,some (.row 3 (reps (k+1) [.int .i64 (.ofNat 0)]) true false))::L) (n+1) m b [] none):=by
 have key:Cv ((evW env O).call 39 [.nils,.int .i64 (.ofNat (k+1))] (KL L n m b [] none)) fun v t=>v=.sl n 0 0 (.opn 1)∧t=KL ((n,some (.row 3 (reps (k+1) [.int .i64 (.ofNat 0)]) true false))::L) (n+1) m b [] none:=by
  refine xO (F:=f39) h88 rfl rfl (ziF rfl) ?_;have s1:ki 1 .nils none (some (.int .i64 (.ofNat 0))) none=some .nils:=rfl;have s2:ki 1 (.sl n 0 (k+1) (.opn 1)) none (some (.int .i64 (.ofNat 0))) none=some (.sl n 0 0 (.opn 1)):=rfl;have s3:Z3 (KL L n m false [] none) 3 1 8 [.int .i64 (.ofNat 0)] .nils (.int .i64 (.ofNat (k+1)))=some (.sl n 0 (k+1) (.opn 1),KL ((n,some (.row 3 (reps (k+1) [.int .i64 (.ofNat 0)]) true false))::L) (n+1) m false [] none):=by
   have e1:(Nat.ble (Nat.mul (Nat.succ k) 8) 281474976710656&&Nat.blt k 9223372036854775807)=true:=by
    rw[xR.2 (by show (k+1)*8≤_;omega),wi.2 oM];rfl
   have e2:(Nat.ble (Nat.mul (Nat.mul 2 (Nat.succ k)) 8) 281474976710656&&Nat.ble 1 1&&Nat.blt (Nat.succ k) 9223372036854775808)=true:=by
    rw[xR.2 (by show 2*(k+1)*8≤_;omega),wi.2 (by show k+1<_;omega)];rfl
   unfold Z3;simp only[e1,cond_true,lL,WE,ziL,cond_false,grow,e2];rfl
  generalize reps (k+1) [AV.int .i64 (.ofNat 0)]=zs at *;unfold f39 cF;simp only;refine xu ?_;refine xF ?_;exact⟨rfl,rfl⟩
 obtain⟨v,t',h,rfl,rfl⟩:=key;exact h
attribute [local go_sem] ztj Wt gq in
theorem zrK(h88:O 39=none)(L:List (Nat×Option AObj))(n m:Nat)(b:Bool):
  (evW env O).call 39 [.nils,.int .i64 (.ofNat 0)] (KL L n m b [] none)=some (.nils,KL L n m b [] none):=by
 have key:Cv ((evW env O).call 39 [.nils,.int .i64 (.ofNat 0)] (KL L n m b [] none)) fun v t=>v=.nils∧t=KL L n m b [] none:=by
  refine xO (F:=f39) h88 rfl rfl (ziF rfl) ?_;unfold f39 cF;simp only;refine xu ?_;refine xF ?_;exact⟨rfl,rfl⟩
 obtain⟨v,t',h,rfl,rfl⟩:=key;exact h
theorem ztG{L:List (Nat×Option AObj)}{n m id:Nat}{a b:List Int}{z:List AV}(g:xD L id=some (.row 3 (xA xL a++z) true false))(hz:b.length≤z.length):Cv (vC (KL L n m false [] none) 3 1 8 (.sl id 0 a.length (.opn 1)) (.lst b.length false (xA xL b))) fun v t=>v=.sl id 0 (a++b).length (.opn 1)∧∃L2 m2,t=KL L2 n m2 false [] none∧xD L2 id=some (.row 3 (xA xL (a++b)++z.drop b.length) true false)∧∀j,j≠id→xD L2 j=xD L j:=by
 cases b with
 |nil=>exact⟨_,_,rfl,by rw[ziJ],L,m,rfl,by rw[ziJ];exact g,fun _ _=>rfl⟩
 | cons x r=>
  have hl:∀l:List Int,(xA xL l).length=l.length:=fun l=>by rw[ql qy];exact xi _
  have h1:wS (KL L n m false [] none) 1 (r.length+1) (.lst (r.length+1) false (xA xL (x::r)))=some (xA xL (x::r)):=by
   show xV ((r.length+1)*1) _=_;exact wF (by rw[hl,zU,xi])
  have hp:vN (xA xL a++z) (0+a.length*1) (xA xL (x::r))=some (xA xL a++(xA xL (x::r)++z.drop (x::r).length)):=by
   have:=Wn (a:=xA xL a) (b:=z.take (x::r).length) (c:=z.drop (x::r).length) (v:=xA xL (x::r)) (off:=0+a.length*1) (by rw[hl];omega) (by rw[hl,List.length_take];omega)
   rwa [List.take_append_drop]at this
  have hst:=UT (KL L n m false [] none) id (0+a.length*1) (xA xL (x::r)) 3 _ _ true (by rw[x5];exact g) (l7 uZ _) hp
  rw[uX]at hst;have e1:Nat.ble (Nat.add 0 (Nat.mul (Nat.add a.length (Nat.succ r.length)) 1)) (wY (xA xL a++z))=true:=by
   rw[xR,wE,yl,hl];simp only[zU]at hz;show 0+(a.length+(r.length+1))*1≤_;omega
  have happ:vC (KL L n m false [] none) 3 1 8 (.sl id 0 a.length (.opn 1)) (.lst (x::r).length false (xA xL (x::r)))=some (.sl id 0 (a.length+(r.length+1)) (.opn 1),KL ((id,some (.row 3 (xA xL a++(xA xL (x::r)++z.drop (x::r).length)) true false))::L) n (uG m id) false [] none):=by
   unfold vC;simp only[uJ,zU];rw[h1];simp only[lL,x5,g];have e2:(Nat.beq 1 1&&true&& !false)=true:=rfl;rw[e2,cond_true,e1,cond_true];show (match ur (KL L n m false [] none) (.ptr id (0+a.length*1)) (xA xL (x::r))with
    |some s'=>some (AV.sl id 0 (Nat.add a.length (Nat.succ r.length)) (.opn 1),s')
    |none=>none)=_
   rw[hst];rfl
  refine⟨_,_,happ,by rw[yl,zU],_,_,rfl,?_,fun j hj=>by rw[xr,if_neg hj]⟩
  rw[xG,wj,zi4]
def two(a b:List Int):Nat→Nat
 |0=>0
 |1=>a.length
 |_=>a.length+b.length
def vZ(a b:List Int):Nat→List Int
 |0=>[]
 |1=>a
 |_=>a++b
theorem zw9(h68:O 20=none)(h88:O 39=none){a b:List Int}(ha:a.length<1000000000)(hb:b.length<1000000000){L:List (Nat×Option AObj)}{m:Nat}:
  Cv ((evW env O).call 20 [.lst 2 true [qW a,qW b]] (KL L n m true [] none)) fun v t=>∃i2 L2 n2 m2,v=gSl 1 i2 (a++b).length∧t=KL L2 n2 m2 true [] none∧(a++b≠[]→i2<n2∧xD L2 i2=some (.row 3 (xA xL (a++b)) true false))∧n≤n2∧∀j,j<n→xD L2 j=xD L j:=by
 refine xO (F:=f20) h68 rfl rfl (ziF rfl) ?_;unfold f20 cF;simp only;have hc0:xV 1 (wl 0 [qW a,qW b])=some [qW a]:=rfl;have hc1:xV 1 (wl 1 [qW a,qW b])=some [qW b]:=rfl;simp only[qW]at hc0 hc1⊢;refine xB ?_;refine xB ?_;refine xz (xz (xu ?_));refine xE ?_;refine xU (fun i:Nat=>2-i) (fun i f t=>∃T,f=⟨tmL T,[]⟩∧t=KL L n m false [] none∧(tmL T).get 0=some (.lst 2 true [.lst a.length false (xA xL a),.lst b.length false (xA xL b)])∧(tmL T).get 3=some (.int .i64 (.ofNat (two a b i)))∧(tmL T).get 9=some (.lst 2 true [.lst a.length false (xA xL a),.lst b.length false (xA xL b)])∧(tmL T).get 10=some (.int .i64 (.ofNat 2))∧(tmL T).get 11=some (.int .i64 (.ofNat i))∧i≤2) (fun i f t hI=>?_) 0 ⟨_,rfl,rfl,sW,by simp (disch:=first|exact dis|fail)only[go_sem,seval,-rO,-rN,two],sW,sW,sW,zK _⟩
 obtain⟨T,rfl,rfl,t0,t3,t9,t10,t11,hi⟩:=hI
 match i,hi with
 |0,_=>
  simp only[two]at t3;refine xu ?_;refine⟨1,⟨_,rfl,trivial,sV,by simp (disch:=first|exact dis|fail)only[go_sem,seval,-rO,-rN,two],sV,sV,sV,oM⟩,oM⟩
 |1,_=>
  simp only[two]at t3;refine xu ?_;refine⟨2,⟨_,rfl,trivial,sV,by simp (disch:=first|exact dis|fail)only[go_sem,seval,-rO,-rN,two],sV,sV,sV,oM⟩,oM⟩
 | 2,_=>
  simp only[two]at t3;rcases Nat.eq_zero_or_pos (a.length+b.length)with h0|h0
  ·have ha0:a=[]:=yr oM;have hb0:b=[]:=yr oM;subst ha0 hb0;have hg:=zrK h88 L n m false;simp only[xd,Nat.add_zero,xA]at t0 t3 t9 hc0 hc1;have happ:∀s,vC s 3 1 8 .nils (.lst 0 false [])=some (.nils,s):=fun _=>rfl;refine xu ?_;refine xB ?_;refine xz (xz (xu ?_));refine xE ?_;refine xU (fun i:Nat=>2-i) (fun i f t=>∃T,f=⟨tmL T,[]⟩∧t=KL L n m false [] none∧(tmL T).get 6=some .nils∧(tmL T).get 25=some (.lst 2 true [.lst 0 false [],.lst 0 false []])∧(tmL T).get 26=some (.int .i64 (.ofNat 2))∧(tmL T).get 27=some (.int .i64 (.ofNat i))∧i≤2) (fun i f t hI=>?_) 0 ⟨_,rfl,rfl,sW,sW,sW,sW,zK _⟩;obtain⟨T,rfl,rfl,t6,t9,t10,t11,hi⟩:=hI
   match i,hi with
   |0,_=>
    refine xu ?_;refine⟨1,⟨_,rfl,trivial,sV,sV,sV,sV,oM⟩,oM⟩
   |1,_=>
    refine xu ?_;refine⟨2,⟨_,rfl,trivial,sV,sV,sV,sV,oM⟩,oM⟩
   |2,_=>
    refine xu ?_;refine xu ?_;refine xF ?_;exact⟨n,L,n,m,rfl,rfl,fun h=>absurd rfl h,zo _,fun _ _=>rfl⟩
  ·obtain⟨k,hk⟩:∃k,a.length+b.length=k+1:=⟨a.length+b.length-1,oM⟩;have hg:=GQ h88 k oM L n m false;rw[hk]at t3;refine xu ?_;refine xB ?_;refine xz (xz (xu ?_));refine xE ?_;refine xU (fun i:Nat=>2-i) (fun i f t=>∃T L2 m2 z,f=⟨tmL T,[]⟩∧t=KL L2 (n+1) m2 false [] none∧(tmL T).get 6=some (.sl n 0 (vZ a b i).length (.opn 1))∧(tmL T).get 25=some (.lst 2 true [.lst a.length false (xA xL a),.lst b.length false (xA xL b)])∧(tmL T).get 26=some (.int .i64 (.ofNat 2))∧(tmL T).get 27=some (.int .i64 (.ofNat i))∧i≤2∧xD L2 n=some (.row 3 (xA xL (vZ a b i)++z) true false)∧(vZ a b i).length+z.length=a.length+b.length∧∀j,j<n→xD L2 j=xD L j) (fun i f t hI=>?_) 0 ⟨_,_,_,reps (k+1) [.int .i64 (.ofNat 0)],rfl,rfl,by simp (disch:=first|exact dis|fail)only[go_sem,seval,-rO,-rN,vZ],sW,sW,sW,zK _,by rw[xG];rfl,?_,fun j hj=>by rw[xr,if_neg oM]⟩
   ·clear hg;obtain⟨T,L2,m2,z,rfl,rfl,t6,t9,t10,t11,hi,gr,hz,hfr⟩:=hI
    match i,hi with
    |0,_=>
     simp only[vZ,xd,xA,ziZ,yC]at t6 gr hz;have hap:=fun m=> @ztG L2 (n+1) m n [] a z gr oM;simp only[xd,ziZ]at hap;refine xB ?_;refine xz (x4 sW ?_);refine xu ?_;refine xz (xE ?_);refine xB ?_;refine xK ?_;refine xC (hap _) fun v t hv=>?_;obtain⟨rfl,L3,m3,rfl,g3,hf3⟩:=hv;clear hap gr;refine xu ?_;refine xu ?_;refine⟨1,⟨_,_,_,z.drop a.length,rfl,rfl,by simp (disch:=first|exact dis|fail)only[go_sem,seval,-rO,-rN, *,vZ],sV,sV,sV,oM,g3,by simp only[vZ,List.length_drop];omega,fun j hj=>by rw[hf3 j oM];exact hfr j hj⟩,oM⟩
    |1,_=>
     simp only[vZ]at t6 gr hz;have hap:=fun m=> @ztG L2 (n+1) m n a b z gr oM;refine xB ?_;refine xz (x4 sW ?_);refine xu ?_;refine xz (xE ?_);refine xB ?_;refine xK ?_;refine xC (hap _) fun v t hv=>?_;obtain⟨rfl,L3,m3,rfl,g3,hf3⟩:=hv;clear hap gr;refine xu ?_;refine xu ?_;refine⟨2,⟨_,_,_,z.drop b.length,rfl,rfl,by simp (disch:=first|exact dis|fail)only[go_sem,seval,-rO,-rN, *,vZ],sV,sV,sV,oM,g3,by simp only[vZ,List.length_drop,yl];omega,fun j hj=>by rw[hf3 j oM];exact hfr j hj⟩,oM⟩
    |2,_=>
     simp only[vZ,yl]at t6 gr hz;have hz0:z=[]:=yr oM;subst hz0;rw[ziJ]at gr;refine xu ?_;refine xu ?_;refine xF ?_;refine⟨n,L2,n+1,m2,?_,rfl,fun _=>⟨zV _,gr⟩,zhi _,hfr⟩;rw[yl,hk];rfl
   ·simp only[vZ,xd,yC];rw[j5];simp only[zU,xd];omega
end
section
variable {O:Orc}
attribute [local go_sem] ltF gtF in
theorem zwM(h69:O 78=none)(h66:O 77=some pa){L:List (Nat×Option AObj)}{p:Nat}{a0 a1 a3 a4:AV}{vars:Int}(g:xD L p=some (.row 25 [a0,a1,.int .i64 vars,a3,a4] false false))(v:Int)(n m:Nat)(b:Bool):
  (evW env O).call 78 [.int .i64 v,.ptr p 0] (KL L n m b [] none)=some (.bool (!x0 v vars),KL L n m b [] none):=by
 have hb:=fun a b s=>lM h66 a b s;have key:Cv ((evW env O).call 78 [.int .i64 v,.ptr p 0] (KL L n m b [] none)) fun r t=>r=.bool (!x0 v vars)∧t=KL L n m b [] none:=by
  refine wI (F:=f78) h69 rfl rfl (ziF rfl) ?_;unfold f78 cF;simp only;refine xu ?_;refine xF ?_;exact⟨rfl,rfl⟩
 obtain⟨r,t,h,rfl,rfl⟩:=key;exact h
def Jj(vars:Int):List Int→Nat→Int
 |[],_=>.negSucc 0
 |x::r,i=>bif x0 x vars then Jj vars r (i+1)else .ofNat i
theorem zxL(vars:Int):∀(l:List Int) (i:Nat),(!ltD (Jj vars l i) (.ofNat 0))= !l.all fun x=>x0 x vars
 |[],_=>rfl
 |x::r,i=>by
  simp only[Jj,ziK];cases x0 x vars with
  |true=>simp only[cond_true,yD];exact zxL vars r (i+1)
  |false=>simp[ltD]
attribute [local go_sem] ltF gtF in
theorem zrU(h69:O 78=none)(h66:O 77=some pa)(h87:O 41=none){L:List (Nat×Option AObj)}{p:Nat}{a0 a1 a3 a4:AV}{vars:Int}(g:xD L p=some (.row 25 [a0,a1,.int .i64 vars,a3,a4] false false)){l:List Int}(hl:l.length<10000000000)(gl:l≠[]→xD L id=some (.row 3 (xA xL l) true false))(n m:Nat)(b:Bool):
  (evW env O).call 41 [gSl 1 id l.length,.fn 78 [] [.ptr p 0]] (KL L n m b [] none)=some (.int .i64 (Jj vars l 0),KL L n m b [] none):=by
 have hc:=fun v n m b=>zwM h69 h66 g v n m b;have key:Cv ((evW env O).call 41 [gSl 1 id l.length,.fn 78 [] [.ptr p 0]] (KL L n m b [] none)) fun r t=>r=.int .i64 (Jj vars l 0)∧t=KL L n m b [] none:=by
  refine wI (F:=f41) h87 rfl rfl (ziF rfl) ?_;unfold f41 cF;simp only;have hsc:=jj 1 id l.length;have hvl:=fun s=>ww s 1 id l.length;obtain⟨R,hR⟩:∃R,Jj vars l 0=R:=⟨_,rfl⟩;rw[hR];refine xB ?_;refine xz (xz (xu ?_));refine xE ?_;refine xU (fun i:Nat=>l.length-i) (fun i f t=>∃T,f=⟨tmL T,[]⟩∧t=KL L n 0 true [] none∧(tmL T).get 0=some (gSl 1 id l.length)∧(tmL T).get 1=some (.fn 78 [] [.ptr p 0])∧(tmL T).get 7=some (.int .i64 (.ofNat l.length))∧(tmL T).get 8=some (.int .i64 (.ofNat i))∧i≤l.length∧Jj vars (l.drop i) i=R) (fun i f t hI=>?_) 0 ⟨_,rfl,rfl,sW,sW,sV,sW,zK _,hR⟩;clear hR;obtain⟨T,rfl,rfl,t0,t1,t7,t8,hi,hR⟩:=hI;rcases xQ l i with ⟨hlt,hd⟩|⟨x,hlt,hd⟩
  ·rw[hd]at hR;simp only[Jj]at hR;subst hR;have:¬i<l.length:=oM;refine xu ?_;refine xu ?_;refine xF ?_;exact⟨rfl,rfl⟩
  ·rw[hd]at hR;simp only[Jj]at hR;have gl:=gl (fun h=>by subst h;simp at hlt)
   have hia:= @X1 1 id l.length i hlt;have hcut:=jx hd;have hcx:=fun n m b=>hc x n m b;clear hc;generalize x0 x vars=bb at *;cases bb with
   |true=>
    rw[cond_true]at hR;refine xu ?_;refine⟨i+1,⟨_,rfl,trivial,sV,sV,sV,sV,oM,hR⟩,oM⟩
   |false=>
    rw[cond_false]at hR;subst hR;refine xu ?_;refine xF ?_;exact⟨rfl,rfl⟩
 obtain⟨r,t,h,rfl,rfl⟩:=key;exact h
end
section
variable {O:Orc}
theorem H4(h67:O 22=none)(h69:O 78=none)(h66:O 77=some pa)(h87:O 41=none){L:List (Nat×Option AObj)}{p:Nat}{a0 a1 a3 a4:AV}{vars:Int}(g:xD L p=some (.row 25 [a0,a1,.int .i64 vars,a3,a4] false false)){l:List Int}(hl:l.length<10000000000)(gl:l≠[]→xD L id=some (.row 3 (xA xL l) true false))(n m:Nat)(b:Bool):
  (evW env O).call 22 [gSl 1 id l.length,.fn 78 [] [.ptr p 0]] (KL L n m b [] none)=some (.bool (!l.all fun x=>x0 x vars),KL L n m b [] none):=by
 have hc:=fun n m b=>zrU h69 h66 h87 g hl gl n m b;have key:Cv ((evW env O).call 22 [gSl 1 id l.length,.fn 78 [] [.ptr p 0]] (KL L n m b [] none)) fun r t=>r=.bool (!ltD (Jj vars l 0) (.ofNat 0))∧t=KL L n m b [] none:=by
  refine wI (F:=f22) h67 rfl rfl (ziF rfl) ?_;unfold f22 cF;simp only;refine xu ?_;refine xF ?_;exact⟨rfl,rfl⟩
 rw[zxL]at key;obtain⟨r,t,h,rfl,rfl⟩:=key;exact h
end
def wFn(c:Cd)(f:Fn):Bool:= !(f.rest&&decide (f.ps.length=0))&&((f.ps++f.fr).all (fun x=>x0 x c.vars)&&vW c f f.b)
def zlA(c:Cd):Bool:=x0 c.main (.ofNat c.fs.length)&&(decide ((Qs c c.main).ps.length+(Qs c c.main).fr.length=0)&& !(Qs c c.main).rest)
def jK(c:Cd):Bool:=zlA c&&c.fs.all (wFn c)
structure CdSz(c:Cd):Prop where
 n:c.fs.length<100000000
 f:∀f∈c.fs,f.ps.length<1000000000∧f.fr.length<1000000000∧SzT f.b
def qD(c:Cd):List AV:=[vv c]
section
variable {P:Program}{w0:World}(B:Bx P w0){O:Orc}(hO:OrcOk P w0 O)
include B hO
attribute [local go_sem] ltF gtF xI xH ziS ziW ziV ziQ xW in
theorem zoc(h70:O 79=none)(h89:O 119=some GO)(h66:O 77=some pa)(h67:O 22=none)(h68:O 20=none)(h69:O 78=none)(h87:O 41=none)(h88:O 39=none)(c:Cd)(hc:CdSz c):∃s1,SC P w0 43 (qD c) (s00 0 true) (.bool (jK c)) s1:=by
 refine be B hO f43 ?_;have hb:=fun a b s=>lM h66 a b s;have hterms:=fun f t hs=>zpM h70 h89 (fun g hg=>(hc.f g hg).1) (wC t) (f:=f) t (zo _) hs;have hN:=hc.n;have hfs:=hc.f;unfold f43 cF;simp only[qD,vv,uP,vK]at hterms⊢;obtain⟨R,hR⟩:∃R,jK c=R:=⟨_,rfl⟩;rw[hR];unfold jK zlA at hR;have hcu:=fun i f r h=> @VL c.fs i f r h;obtain⟨fs,main,vars,globals,consts⟩:=c;simp only[w9]at hterms hN hfs hR hcu⊢;have hbm:=hb main (.ofNat fs.length);cases b0:x0 main (.ofNat fs.length)with
 |false=>
  rw[b0]at hR hbm;simp only[ziL]at hR;subst hR;clear hb hterms;refine xB ?_;refine xu ?_;refine xF ?_;exact w7 _ _
 | true =>
  rw[b0]at hR hbm;obtain⟨j,rfl,hj⟩:=kH b0;clear b0;have hcfs:fs.length<10000000000:=oM;have hpost:∀(R':Bool),R'=R→fs.all (wFn ⟨fs,.ofNat j,vars,globals,consts⟩)=R→True:=fun _ _ _=>trivial;have hrun:(decide ((Qs ⟨fs,.ofNat j,vars,globals,consts⟩ (.ofNat j)).ps.length+(Qs ⟨fs,.ofNat j,vars,globals,consts⟩ (.ofNat j)).fr.length=0)&& !(Qs ⟨fs,.ofNat j,vars,globals,consts⟩ (.ofNat j)).rest)=true→fs.all (wFn ⟨fs,.ofNat j,vars,globals,consts⟩)=R:=fun h=>by
   rw[h]at hR;simpa using hR
  have hdj:fs.drop j=fs[j]::fs.drop (j+1):=ziX hj;have hdr:=ZD hdj;have hgl:=hfs fs[j] (zhd hj);have hg:Qs ⟨fs,.ofNat j,vars,globals,consts⟩ (.ofNat j)=fs[j]:=by
   show fs.getD j fn0=_;rw[yU,yv hj];rfl
  rw[hg]at hR hrun;clear hg hdj hpost;generalize fs[j]=g at hdr hgl hR hrun;obtain⟨gps,grest,gcont,gfr,gb⟩:=g;obtain⟨gk,gv,gop,gn,gf,gas,gks⟩:=gb;simp only[we,xP,qW,zG,ziZ]at hdr hgl hR hrun;have hg1:=hgl.1;have hg2:=hgl.2.1;clear hgl;by_cases h0:gps.length+gfr.length=0
  ·cases grest with
   |true=>
    simp only[h0,xo,ziN,ziL]at hR;subst hR;clear hterms hb hrun hfs hcu;refine xB ?_;refine xu ?_;refine xF ?_;exact w7 _ _
   | false=>
    have hR:=hrun (by rw[h0];rfl)
    clear hrun;have hb':=fun(P:True→Prop)=>hb;clear hb;refine xB ?_;refine xB ?_;refine xz (xz (xu ?_));refine xE ?_;clear hdr hbm h0 hg1 hg2;refine xU (fun i:Nat=>fs.length-i) (fun i f t=>∃T L n m,f=⟨tmL T,[]⟩∧t=KL L n m true [] none∧(tmL T).get 1=some (.ptr 0 0)∧(tmL T).get 42=some (.lst fs.length false (xA we fs))∧(tmL T).get 43=some (.int .i64 (.ofNat fs.length))∧(tmL T).get 44=some (.int .i64 (.ofNat i))∧i≤fs.length∧xD L 0=some (.row 25 [.lst fs.length false (xA we fs),.int .i64 (.ofNat j),.int .i64 vars,.int .i64 globals,.lst consts.length false (xX consts)] false false)∧0<n∧(fs.drop i).all (wFn ⟨fs,.ofNat j,vars,globals,consts⟩)=R) (fun i f t hI=>?_) 0 ⟨_,_,_,_,rfl,rfl,sW,sW,sW,sW,zK _,by rw[xG],oM,hR⟩
    clear hR;obtain⟨T,L,n,m,rfl,rfl,t1,t42,t43,t44,hi,g0,hn,hR⟩:=hI;rcases xQ fs i with ⟨hlt,hd⟩|⟨g,hlt,hd⟩
    ·rw[hd,List.all_nil]at hR;subst hR;have:¬i<fs.length:=oM;clear hcu hterms hfs hb';refine xu ?_;refine xu ?_;refine xF ?_;exact w7 _ _
    ·rw [hd,ziK]at hR;have hcg:=hcu i g _ hd;have hgs:=hfs g (zi2 (by rw[hd];exact zi9))
     have htg:=fun L n m b=>hterms g g.b hgs.2.2 L n m b;clear hcu hterms;obtain⟨fr',hfr'⟩:∃x,fs.drop (i+1)=x:=⟨_,rfl⟩;rw[hfr']at hR hd;clear hd hfs;obtain⟨gps,grest,gcont,gfr,gb⟩:=g;obtain⟨gk,gv,gop,gn,gf,gas,gks⟩:=gb;simp only[wFn,we,xP,qW]at hcg htg hR hgs;have hg1:=hgs.1;have hg2:=hgs.2.1;clear hgs;have hstep:((fr'.all (wFn ⟨fs,.ofNat j,vars,globals,consts⟩))=R)→True:=fun _=>trivial;by_cases hr:(grest&&decide (gps.length=0))=true
     ·rw[hr]at hR;simp only[xo,ziL]at hR;subst hR;simp only[zl,decide_eq_true_eq]at hr;obtain⟨rfl,hp0⟩:=hr;clear htg hb' hstep;refine xu ?_;refine xF ?_;exact w7 _ _
     ·have hr':(grest&&decide (gps.length=0))=false:=by simpa using hr
      rw[hr']at hR;simp only[ziM,yD]at hR;have hgp:grest=false∨(grest=true∧¬gps.length=0):=by
       cases grest with
       |false=>exact .inl rfl
       |true=>exact .inr ⟨rfl,by simpa using hr⟩
      clear hr hr' hstep hb';generalize vW ⟨fs,.ofNat j,vars,globals,consts⟩ ⟨gps,grest,gcont,gfr,.mk gk gv gop gn gf gas gks⟩ (.mk gk gv gop gn gf gas gks)=Y at htg hR;rcases hgp with rfl|⟨rfl,hp0⟩
      all_goals (
       refine xB ?_;refine xz (x4 sW ?_);refine xu ?_;refine xz (xE ?_);refine xB ?_;refine xz ?_;refine xK ?_;refine xC (zw9 h68 h88 hg1 hg2) fun v t hv=>?_;obtain⟨i2,L3,n3,m3,rfl,rfl,q1,q2,q3⟩:=hv;have g03:xD L3 0=some (.row 25 [.lst fs.length false (xA we fs),.int .i64 (.ofNat j),.int .i64 vars,.int .i64 globals,.lst consts.length false (xX consts)] false false):=by
        rw[q3 0 oM]
        repeat (rw[xr,if_neg oM])
        exact g0
       have gf3:=q3 n oM;rw[xG]at gf3;have hcon:=fun n m b=>H4 h67 h69 h66 h87 g03 (l:=gps++gfr) (by rw[yl];omega) (fun h=>(q1 h).2) n m b
       clear q1 q3;generalize (gps++gfr).all (fun x=>x0 x vars)=A at *;generalize gSl 1 i2 (gps++gfr).length=X at *;cases A with
       |false=>
        rw[ziL,ziL]at hR;subst hR;clear htg;refine xu ?_;refine xu ?_;refine xF ?_;exact w7 _ _
       | true=>
        cases Y with
        |false=>
         rw[ziN,ziL]at hR;subst hR;refine xu ?_;refine xu ?_;refine xF ?_;exact w7 _ _
        |true=>
         rw[yD,yD]at hR;refine xu ?_;refine xu ?_;refine xu ?_;exact⟨i+1,⟨_,_,_,_,rfl,rfl,sV,sV,sV,sV,oM,g03,oM,by rw[hfr'];exact hR⟩,oM⟩)
  ·rw[decide_eq_false h0]at hR;simp only[ziL,ziN]at hR;subst hR;have h0':0<gps.length+gfr.length:=oM;clear hterms hb hrun hfs hcu;refine xB ?_;refine xu ?_;refine xF ?_;exact w7 _ _
end
def zut(v:Int)(met:List Int):Option (List Int):=if v∈met then none else some (met++[v])
mutual
def Hz:Trm→List Int→Option (List Int)
 |.mk k v op n f az ks,met=>(bif gW k then zut v met else some met).bind (JA ks)
def JA:List Trm→List Int→Option (List Int)
 |[],met=>some met
 |x::r,met=>(JA r met).bind (Hz x)
end
mutual
def Hq:Trm→Prop
 |.mk _ _ _ _ _ _ ks=>ks.length≤2∧QZ ks
def QZ:List Trm→Prop
 |[]=>True
 |x::r=>Hq x∧QZ r
end
section
variable {O:Orc}
attribute [local go_sem] jo Zd kU kT jQ Z8 ltF gtF xI xH ziS ziW ziV ziQ xW in
theorem ztY(h47:O 44=none)(h71:O 80=some pc):∀(k:Nat) (t:Trm),wC t≤k→SzT t→Hq t→∀(L:List (Nat×Option AObj)) (n m id:Nat) (met:List Int),WfA L n→xD L id=some (.umap (uS met))→
  Cv ((evW env O).call 44 [vK t,.map id] (KL L n m false [] none)) fun v s=>∃L2 n2 m2,s=KL L2 n2 m2 false [] none∧n≤n2∧WfA L2 n2∧(∀j,j<n→j≠id→xD L2 j=xD L j)∧((Hz t met=none∧v=.bool false)∨∃met2,Hz t met=some met2∧v=.bool true∧xD L2 id=some (.umap (uS met2))):=by
 intro k
 induction k with
 |zero=>intro t h;have:=qQ t;omega
 | succ k ih=>
  intro t hk hsz hk2 L n m id met hw hid;refine xO (F:=f44) h47 rfl rfl (ziF rfl) ?_;have hbi:=fun t s=>oc h71 VZ t trivial (JZ t) s;have hidn:=hw.lt hid;obtain⟨R,hR⟩:∃R,Hz t met=R:=⟨_,rfl⟩;rw[hR];simp only[jA,vK]at hbi ih⊢;unfold f44 cF;simp only;have hl7:=wF (wg t);have hc7:=jT t;refine xB ?_;refine xE ?_;refine xU (fun x:Trm×List Int=>wC x.1) (fun x f t'=>∃T L2 n2 m',f=⟨tmL T,[]⟩∧t'=KL L2 n2 m' false [] none∧(tmL T).get 1=some (.map id)∧(tmL T).get 2=some (.ptr n 0)∧n+1≤n2∧WfA L2 n2∧xD L2 n=some (va x.1)∧xD L2 id=some (.umap (uS x.2))∧wC x.1≤k+1∧SzT x.1∧Hq x.1∧Hz x.1 x.2=R∧∀j,j<n→j≠id→xD L2 j=xD L j) (fun x f t' hI=>?_) (t,met) ⟨_,_,_,_,rfl,rfl,sW,sW,oM,?_,?_,?_,hk,hsz,hk2,hR,fun j h1 h2=>?_⟩
  ·clear hR hsz hk hk2 hl7 hc7 hid hw t met;obtain⟨T,L2,n2,m',rfl,rfl,t1,t2,hn2,hw,g0,gid,hk,hsz,hk2,hR,hfr⟩:=hI;obtain⟨⟨tk,v,op,num,fn,az,ks⟩,met⟩:=x;simp only at g0 gid hk hsz hk2 hR⊢;have hcall:=fun s=>hbi (.mk tk v op num fn az ks) s;simp only[xP,Trm.kind]at hcall;simp only[Hz]at hR;simp only[SzT]at hsz;simp only[Hq]at hk2;simp only[va,xP]at g0;simp only[wC]at hk;clear hbi;generalize gW tk=bb at *;refine xE ?_;refine lp (fun f t'=>∃T L3 n3 m3 met3,f=⟨tmL T,[]⟩∧t'=KL L3 n3 m3 false [] none∧(tmL T).get 1=some (.map id)∧(tmL T).get 2=some (.ptr n 0)∧n+1≤n3∧WfA L3 n3∧xD L3 n=some (.row 40 [.int .i64 tk,.int .i64 v,.int .i64 op,.int .i64 num,.int .i64 fn,.lst az.length false (xA qp az),.lst ks.length false (wc ks)] false false)∧xD L3 id=some (.umap (uS met3))∧JA ks met3=R∧∀j,j<n→j≠id→xD L3 j=xD L j) ?_ fun f t' hI=>?_
   ·cases bb with
    |false=>
     rw[cond_false,ziY]at hR;refine xu ?_;exact⟨_,_,_,_,met,rfl,rfl,sV,sV,hn2,hw,g0,gid,hR,hfr⟩
    | true=>
     rw[cond_true]at hR;by_cases hv:v∈met
     ·have hgu:=gI hv;simp only[zut,if_pos hv,zi6]at hR;refine xu ?_;refine xF ?_;subst hR;refine⟨_,_,_,rfl,?_,?_,fun j h1 h2=>?_,.inl ⟨rfl,rfl⟩⟩
      ·omega
      ·(repeat first|exact hw.up oM|refine WfA.same ?_ oM)
      ·(repeat (rw[xr,if_neg oM]));exact hfr j h1 h2
     ·have hgu:=jX hv;have hsu:=lD hv;simp only[zut,if_neg hv,ziY]at hR;refine xu ?_;refine⟨_,_,_,_,met++[v],rfl,rfl,sV,sV,oM,?_,?_,?_,hR,fun j h1 h2=>?_⟩
      ·(repeat first|exact hw.up oM|refine WfA.same ?_ oM)
      ·(repeat (rw[xr,if_neg oM]));exact g0
      ·(repeat first|exact xG _ _ _|rw[xr,if_neg oM])
      ·(repeat (rw[xr,if_neg oM]));exact hfr j h1 h2
   ·clear hR gid g0 hfr hw hn2 hcall t1 t2;clear met T L2 n2 m';obtain⟨T,L2,n2,m',met,rfl,rfl,t1,t2,hn2,hw,g0,gid,hR,hfr⟩:=hI;rcases ks with _|⟨x,_|⟨y,_|⟨z,w⟩⟩⟩
    rotate_right
    ·have:=hk2.1;simp only[zU]at this;omega
    ·simp only[JA]at hR;subst hR;simp only[xd]at g0;refine xu ?_;refine xF ?_;exact⟨_,_,_,rfl,oM,hw,hfr,.inr ⟨met,rfl,rfl,gid⟩⟩
    ·simp only[JA,ziY,qB,YQ,QZ,and_true]at hR hk hsz hk2;have hc:xV 7 (wc [x])=some (wy x):=by rw[qa];exact qI (wg x)
     obtain⟨k2,v2,op2,num2,f2,as2,ks2⟩:=x;simp only[xP]at hc;simp only[zU,xd]at g0;refine xB ?_;refine xu ?_;refine⟨(_,met),⟨_,_,_,_,rfl,rfl,sV,sV,oM,?_,?_,?_,by simp only;omega,hsz.2.2,hk2.2,hR,fun j h1 h2=>?_⟩,by simp only[wC,qB];omega⟩
     ·exact WfA.same hw oM
     ·rw[xG];simp only[va,xP]
     ·rw[xr,if_neg oM];exact gid
     ·rw[xr,if_neg oM];exact hfr j h1 h2
    ·simp only[JA,ziY,qB,YQ,QZ,and_true]at hR hk hsz hk2;have hc:xV 7 (wc [x,y])=some (wy x):=by rw[qa];exact qI (wg x)
     have hc2:xV 7 (wl 7 (wc [x,y]))=some (wy y):=by
      simp only[qa,gB,ziJ];rw[wK,zhg (wg x)];exact wF (wg y)
     have hpx:=qQ x;have hih:=fun m=>ih y oM hsz.2.2.2 hk2.2.2 L2 n2 m id met hw gid;obtain⟨k2,v2,op2,num2,f2,as2,ks2⟩:=x;simp only[xP]at hc;simp only[zU,xd]at g0;clear ih;refine xz ?_;refine xB ?_;refine xE ?_;refine xB ?_;refine x7 sW ?_;refine xB ?_;refine x4 sW ?_;refine xz ?_;refine xK ?_;refine xC (hih _) fun v t hv=>?_;obtain⟨L3,n3,m3,rfl,q1,q2,q3,⟨e1,rfl⟩|⟨met2,e1,rfl,q4⟩⟩:=hv
     ·rw[e1,zi6]at hR;subst hR;clear hih;refine xu ?_;refine xu ?_;refine xF ?_;exact⟨_,_,_,rfl,oM,q2,fun j h1 h2=>by rw[q3 j oM h2];exact hfr j h1 h2,.inl ⟨trivial,rfl⟩⟩
     ·rw[e1,ziY]at hR;have g3:=(q3 n oM oM).trans g0;clear hih;refine xu ?_;refine xu ?_;refine xu ?_;refine⟨(_,met2),⟨_,_,_,_,rfl,rfl,sV,sV,oM,?_,?_,?_,by simp only;omega,hsz.2.2.1,hk2.2.1,hR,fun j h1 h2=>?_⟩,by simp only[wC,qB];omega⟩
      ·exact WfA.same q2 oM
      ·rw[xG];simp only[va,xP]
      ·rw[xr,if_neg oM];exact q4
      ·rw[xr,if_neg oM,q3 j oM h2];exact hfr j h1 h2
  ·(repeat first|exact hw.up oM|refine WfA.same ?_ oM)
  ·(repeat first|exact xG _ _ _|rw[xr,if_neg oM])
  ·(repeat (rw[xr,if_neg oM]));exact hid
  ·(repeat (rw[xr,if_neg oM]))
end
def Pw:List Int→List Int→Option (List Int)
 |[],met=>some met
 |v::r,met=>(zut v met).bind (Pw r)
def Wl:List Fn→List Int→Option (List Int)
 |[],met=>some met
 |f::r,met=>((Pw f.ps met).bind (Hz f.b)).bind (Wl r)
def KI(c:Cd):Bool:=(Wl c.fs []).isSome
def Ge(c:Cd):Prop:=c.fs.length<100000000∧∀f∈c.fs,f.ps.length<1000000000∧SzT f.b∧Hq f.b
theorem jy:∀x y,qD x=qD y→x=y:=fun _ _ h=>JU (by simpa [qD]using h)
theorem kR(c:Cd):wkL (qD c)=qD c:=by simp only[qD,wkL,Lf]
theorem jz(c:Cd):xN (qD c)=true:=by simp only[qD,vv,xY,ve,pO,x6,xe]
noncomputable def zrz:List AV→St→Option (AV×St):=vr qD Ge (fun c=>.bool (KI c))
noncomputable def zrC:List AV→St→Option (AV×St):=vr qD CdSz (fun c=>.bool (jK c))
section
variable {P:Program}{w0:World}(B:Bx P w0){O:Orc}(hO:OrcOk P w0 O)
include B hO
attribute [local go_sem] jo Zd kU kT jQ Z8 QM ltF gtF xI xH ziS ziW ziV ziQ xW in
theorem zmj(h47:O 44=none)(h71:O 80=some pc)(c:Cd)(hc:Ge c):∃s1,SC P w0 25 (qD c) (s00 0 true) (.bool (KI c)) s1:=by
 refine bew B hO f25 ?_;have hbd:=fun t hs hk=>ztY h47 h71 (wC t) t (zo _) hs hk;obtain⟨R,hR⟩:∃R,KI c=R:=⟨_,rfl⟩;rw[hR];unfold KI at hR;obtain⟨fs,main,vars,globals,consts⟩:=c;obtain⟨hN,hf⟩:=hc;simp only at hN hf hR;unfold f25 cF;simp only[qD,vv,w9,vK]at hbd⊢;refine xB ?_;refine xB ?_;refine xz (xz (xu ?_));refine xE ?_;refine xU (fun x:Nat×List Int=>fs.length-x.1) (fun x f t=>∃T L n m,f=⟨tmL T,[]⟩∧t=KL L n m false [] none∧(tmL T).get 3=some (.map 1)∧(tmL T).get 12=some (.lst fs.length false (xA we fs))∧(tmL T).get 13=some (.int .i64 (.ofNat fs.length))∧(tmL T).get 14=some (.int .i64 (.ofNat x.1))∧x.1≤fs.length∧WfA L n∧2≤n∧xD L 1=some (.umap (uS x.2))∧(Wl (fs.drop x.1) x.2).isSome=R) (fun x f t hI=>?_) (0,[]) ⟨_,_,_,_,rfl,rfl,sW,sW,sW,sW,zK _,?_,?_,?_,hR⟩
 ·clear hR;obtain⟨T,L,n,m,rfl,rfl,t3,t12,t13,t14,hi,hw,hn,g1,hR⟩:=hI;obtain⟨i,met⟩:=x;simp only at t14 hi g1 hR⊢;rcases xQ fs i with ⟨hlt,hd⟩|⟨g,hlt,hd⟩
  ·rw[hd]at hR;simp only[Wl,Option.isSome_some]at hR;subst hR;have:¬i<fs.length:=oM;refine xu ?_;refine xu ?_;refine xF ?_;exact w7 _ _
  ·have hcg:=VL hd;rw[hd]at hR;have hgf:=hf g (zi2 (by rw[hd];exact zi9))
   have hbg:=hbd g.b hgf.2.1 hgf.2.2;simp only[Wl]at hR;obtain⟨gps,grest,gcont,gfr,gb⟩:=g;obtain⟨gk,gv,gop,gn,gf,gas,gks⟩:=gb;simp only[we,xP,qW]at hcg hbg hR hgf;have hg1:=hgf.1;clear hgf hd hbd;refine xB ?_;refine xz (x4 sW ?_);refine xu ?_;refine xz (xE ?_);refine xB ?_;refine xz (xz (xu ?_));refine xE ?_;refine xU (fun x:Nat×List Int=>gps.length-x.1) (fun x f t=>∃T L2 n2 m2,f=⟨tmL T,[]⟩∧t=KL L2 n2 m2 false [] none∧(tmL T).get 3=some (.map 1)∧(tmL T).get 5=some (.ptr n 0)∧(tmL T).get 12=some (.lst fs.length false (xA we fs))∧(tmL T).get 13=some (.int .i64 (.ofNat fs.length))∧(tmL T).get 14=some (.int .i64 (.ofNat i))∧(tmL T).get 19=some (.lst gps.length false (xA xL gps))∧(tmL T).get 20=some (.int .i64 (.ofNat gps.length))∧(tmL T).get 21=some (.int .i64 (.ofNat x.1))∧x.1≤gps.length∧WfA L2 n2∧n+1≤n2∧xD L2 1=some (.umap (uS x.2))∧xD L2 n=some (.row 42 [.lst gps.length false (xA xL gps),.bool grest,.bool gcont,.lst gfr.length false (xA xL gfr),.int .i64 gk,.int .i64 gv,.int .i64 gop,.int .i64 gn,.int .i64 gf,.lst gas.length false (xA qp gas),.lst gks.length false (wc gks)] false false)∧(((Pw (gps.drop x.1) x.2).bind (Hz (.mk gk gv gop gn gf gas gks))).bind (Wl (fs.drop (i+1)))).isSome=R) (fun x f t hI=>?_) (0,met) ⟨_,_,_,_,rfl,rfl,sV,sV,sV,sV,sV,sV,sV,sV,zK _,?_,?_,?_,?_,hR⟩
   ·have hn0:2≤n:=hn;clear hR g1 hn hw t3 t12 t13 t14 met T hcg;obtain⟨T,L2,n2,m2,rfl,rfl,t3,t5,t12,t13,t14,t19,t20,t21,hj,hw,hn,g1,gn',hR⟩:=hI;obtain⟨j,met⟩:=x;simp only at t21 hj g1 hR⊢;rcases xQ gps j with ⟨hlt2,hd2⟩|⟨v,hlt2,hd2⟩
    ·rw[hd2]at hR;simp only[Pw,ziY]at hR;have hb2:=fun m=>hbg L2 n2 m 1 met hw g1;have:¬j<gps.length:=oM;clear hbg;refine xu ?_;refine xz ?_;refine xK ?_;refine xC (hb2 _) fun v t hv=>?_;obtain⟨L3,n3,m3,rfl,q1,q2,q3,⟨e1,rfl⟩|⟨met2,e1,rfl,q4⟩⟩:=hv
     ·rw[e1]at hR;simp only[zi6,zhh]at hR;subst hR;clear hb2;refine xu ?_;refine xu ?_;refine xF ?_;exact w7 _ _
     ·rw[e1,ziY]at hR;clear hb2;refine xu ?_;refine xu ?_;refine xu ?_;exact⟨(i+1,met2),⟨_,_,_,_,rfl,rfl,sV,sV,sV,sV,by simp only;omega,q2,oM,q4,hR⟩,by simp only;omega⟩
    ·rw[hd2]at hR;simp only[Pw]at hR;have hcv:=jx hd2;clear hbg;by_cases hv:v∈met
     ·have hgu:=gI hv;simp only[zut,if_pos hv,zi6,zhh]at hR;subst hR;refine xu ?_;refine xF ?_;exact w7 _ _
     ·have hgu:=jX hv;have hsu:=lD hv;have hne:¬1=n2:=oM;simp only[zut,if_neg hv,ziY]at hR;refine xu ?_;refine⟨(j+1,met++[v]),⟨_,_,_,_,rfl,rfl,sV,sV,sV,sV,sV,sV,sV,sV,by simp only;omega,?_,?_,?_,?_,hR⟩,by simp only;omega⟩
      ·(repeat first|exact hw.up oM|refine WfA.same ?_ oM)
      ·omega
      ·(repeat first|exact xG _ _ _|rw[xr,if_neg oM])
      ·(repeat (rw[xr,if_neg oM]));exact gn'
   ·(repeat first|exact hw.up oM|refine WfA.same ?_ oM)
   ·omega
   ·(repeat (rw[xr,if_neg oM]));exact g1
   ·(repeat first|exact xG _ _ _|rw[xr,if_neg oM])
 ·intro j hj
  (repeat (rw[xr,if_neg oM]))
  rfl
 ·omega
 ·rw[xG];rfl
end
end Go.Proofs.YtbdfljdgapkbcaaGreatDoor.Ev

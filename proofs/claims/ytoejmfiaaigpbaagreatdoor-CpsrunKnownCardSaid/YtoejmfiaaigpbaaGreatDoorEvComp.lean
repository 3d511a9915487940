/- Part of a verified evaluator of the model's code, generic over the program: a run of the evaluator that answers shows what the model's run answers. No conditions of its own. -/
import Derived.Test.YtoejmfiaaigpbaaGreatDoorEvDefs
namespace Go.Proofs.YtoejmfiaaigpbaaGreatDoor.Ev

def cValF : Nat → Value → Option AV
  | 0, _ => none
  | n + 1, v => match v with
    | .bool b => some (.bool b)
    | .int k i => some (.int k i)
    | .string s => some (.str (s.data.toList.map (·.toNat)))
    | .pointer none => some .nilp
    | .slice none 0 0 => some .nils
    | .map none => some .nilm
    | .func (.func f) first cap => bif first.isEmpty && cap.isEmpty then some (.fn f [] []) else none
    | .nilFunc => some .nilf
    | .nilIface => some .nili
    | .agg cs => (go n cs.toList).map .agg
    | .tuple cs => (go n cs.toList).map .tup
    | _ => none
  where
  go : Nat → List Value → Option (List AV)
  | n, [] => some []
  | n, v :: r => match cValF n v, go n r with
    | some a, some l => some (a :: l)
    | _, _ => none

def cVal (v : Value) : Option AV := cValF 4 v

def cOpd : Operand → Option Opd
  | .tmp t => some (.t t)
  | .const v => (cVal v).map .c
  | .global g => some (.c (.gptr g 0))
  | .func f => some (.c (.fn f [] []))

def cOpds : List Operand → Option (List Opd)
  | [] => some []
  | x :: r => match cOpd x, cOpds r with
    | some a, some l => some (a :: l)
    | _, _ => none

def cOpdO : Option Operand → Option (Option Opd)
  | none => some none
  | some x => match cOpd x with
    | some a => some (some a)
    | none => none

variable (P : Program)

def sizT (t : TypeId) : Option Nat := (P.info? t).map (·.size)
def bytT (t : TypeId) : Option Nat := (P.info? t).map (·.bytes)
def zeroT (t : TypeId) : Option AV := ((P.info? t).bind (·.zero)).bind cVal
def aggT (t : TypeId) : Option Bool :=
  match P.underlying t with
  | some (.struct _) => some true
  | some (.array _ _) => some true
  | some _ => some false
  | none => none
def fkT (t : TypeId) : Option FK :=
  match P.underlying t with
  | some (.int _) => some .i
  | some .string => some .s
  | some .bool => some .b
  | _ => none

def cParts (place : Nat → Option (Nat × Nat)) : List (Nat × Operand) → Option (List (Nat × Nat × Opd))
  | [] => some []
  | (i, x) :: r => match place i, cOpd x, cParts place r with
    | some (o, s), some a, some l => some ((o, s, a) :: l)
    | _, _, _ => none

def flatFields : List Field → Nat → Option (List FK)
  | [], _ => some []
  | f :: r, i => bif f.offset == i && f.name != "_" then
      match fkT P f.type, flatFields r (i + 1) with
      | some k, some l => some (k :: l)
      | _, _ => none
    else none

def eqKind (t : TypeId) : Option EqK :=
  match P.underlying t with
  | some (.int _) => some .basic
  | some .string => some .basic
  | some .bool => some .bool
  | some (.pointer e) => match sizT P e with
    | some (_ + 1) => some .ptr
    | _ => none
  | some (.slice _) => some .slice
  | some (.map _ _) => some .map
  | some (.func _ _ _) => some .func
  | some (.interface _) => some .iface
  | some (.struct fs) => match flatFields P fs.toList 0 with
    | some ks => bif !P.eqGuardType P.depth t && !P.stoodInHeld t then some (.flat ks) else none
    | none => none
  | _ => none

def eqConst (k : EqK) (x y : Operand) : EqK :=
  match k with
  | .iface => bif Region.isConst x || Region.isConst y then .ifacec else .iface
  | k => k

def placeS (fs : Array Field) (i : Nat) : Option (Nat × Nat) :=
  match fs[i]? with
  | some f => match sizT P f.type with
    | some s => some (f.offset, s)
    | none => none
  | none => none

def cBuiltin (b : Builtin) (ts : List TypeId) (args : List Operand) : Option IOp :=
  match b, ts, args with
  | .len, t :: _, [x] => match P.underlying t with
    | some .string => (cOpd x).map (.len .s)
    | some (.slice _) => (cOpd x).map (.len .v)
    | some (.map _ _) => (cOpd x).map (.len .m)
    | some (.array n _) => some (.lenc n)
    | some (.pointer a) => match P.underlying a with
      | some (.array n _) => some (.lenc n)
      | _ => none
    | _ => none
  | .cap, t :: _, [x] => match P.underlying t with
    | some (.slice _) => (cOpd x).map .cap
    | _ => none
  | .append, t :: u :: _, [x, y] => match P.underlying t with
    | some (.slice e) => match P.underlying u with
      | some (.int _) => match sizT P e, bytT P e, zeroT P e, cOpd x, cOpd y with
        | some s, some b, some z, some a, some c => bif Nat.beq (lenN z.cells) s && Nat.ble 1 s then some (.appz e s b z.cells a c) else none
        | _, _, _, _, _ => none
      | some .string => match sizT P e, bytT P e, zeroT P e, cOpd x, cOpd y with
        | some 1, some b, some z, some a, some c => bif Nat.beq (lenN z.cells) 1 then some (.app e 1 b a c) else none
        | _, _, _, _, _ => none
      | some (.slice _) => match sizT P e, bytT P e, zeroT P e, cOpd x, cOpd y with
        | some s, some b, some z, some a, some c => bif Nat.beq (lenN z.cells) s then some (.app e s b a c) else none
        | _, _, _, _, _ => none
      | _ => none
    | _ => none
  | .copy, t :: _, [x, y] => match P.underlying t with
    | some (.slice e) => match sizT P e, cOpd x, cOpd y with
      | some s, some a, some c => some (.cpy s a c)
      | _, _, _ => none
    | _ => none
  | .delete, t :: _, [m, k] => match P.underlying t with
    | some (.map kt _) => match fkT P kt, cOpd m, cOpd k with
      | some f, some a, some c => some (.md f a c)
      | _, _, _ => none
    | _ => none
  | .clear, t :: _, [x] => match P.underlying t with
    | some (.slice e) => match sizT P e, zeroT P e, cOpd x with
      | some s, some z, some a => bif Nat.beq (lenN z.cells) s && Nat.ble 1 s then some (.clr s z.cells a) else none
      | _, _, _ => none
    | some (.map _ _) => (cOpd x).map (.clr 0 [])
    | _ => none
  | .unsafeSliceData, _, [x] => (cOpd x).map .usd
  | .unsafeString, t :: _, [x, n] => match P.underlying t with
    | some (.pointer e) => match sizT P e, cOpd x, cOpd n with
      | some 1, some a, some b => some (.ust e a b)
      | _, _, _ => none
    | _ => none
  | .min, _, xs => (cOpds xs).map .mn
  | .max, _, xs => (cOpds xs).map .mx
  | _, _, _ => none

/-- the types of which one variable begins with one of a type -/
def liesL (u : TypeId) : List (Nat × Nat) :=
  ((List.range P.types.size).filter fun e => Nat.ble 1 (P.cellsOf e) && liesAt P P.depth e 1 0 u 1).map fun e => (e, P.cellsOf e)
def cOpv (o : Op) : Option IOp :=
  match o with
  | .move x | .assign x => (cOpd x).map .mv
  | .pick c a b => match cOpd c, cOpd a, cOpd b with
    | some c, some a, some b => some (.pick c a b)
    | _, _, _ => none
  | .alloc t => (zeroT P t).map fun z => .alloc t z.cells
  | .box t x => (cOpd x).map (.box t)
  | .build t ps => match zeroT P t, P.underlying t with
    | some z, some (.struct fs) => bif fs.toList.all (fun f => (sizT P f.type).isSome) then (cParts (placeS P fs) ps.toList).map (.build z.cells) else none
    | some z, some (.array _ e) => match sizT P e with
      | some s => (cParts (fun i => some (i * s, s)) ps.toList).map (.build z.cells)
      | none => none
    | _, _ => none
  | .buildSlice t len ps => match P.underlying t with
    | some (.slice e) => match sizT P e, zeroT P e with
      | some s, some z => bif Nat.ble (len * s) 16777216 && Nat.beq (lenN z.cells) s && Nat.ble 1 s then
          (cParts (fun i => some (i * s, s)) ps.toList).map (.bsl e (reps len z.cells) len)
        else none
      | _, _ => none
    | _ => none
  | .load t a => match aggT P t, sizT P t, cOpd a with
    | some true, some n, some a => some (.ldn n a)
    | some false, _, some a => some (.ld a)
    | _, _, _ => none
  | .store t a x => match sizT P t, cOpd a, cOpd x with
    | some n, some a, some x => some (.st n a x)
    | _, _, _ => none
  | .nilCheck x => (cOpd x).map .nck
  | .binOp op t x y _ => match eqKind P t, cOpd x, cOpd y with
    | some .basic, some x, some y => some (.bin op x y)
    | some k, some a, some b => match op with
      | .eql => some (.eqk (eqConst k x y) false a b)
      | .neq => some (.eqk (eqConst k x y) true a b)
      | _ => none
    | _, _, _ => none
  | .unOp op _ x => (cOpd x).map (.un op)
  | .convert s d x => match P.underlying s, P.underlying d, cOpd x with
    | some _, some (.int k), some x => some (.ci k x)
    | some .string, some .string, some x => some (.css x)
    | some (.int _), some .string, some x => some (.cis x)
    | some .string, some (.slice e), some x => match P.underlying e with
      | some (.int .u8) => some (.csb e x)
      | _ => none
    | some (.slice e), some .string, some x => match P.underlying e with
      | some (.int .u8) => some (.cbs x)
      | _ => none
    | some (.slice _), some (.slice e), some x => match s == d, P.underlying e with
      | true, some (.int .u8) => some (.cbb x)
      | _, _ => none
    | some (.pointer t), some .unsafePointer, some x => match sizT P t with
      | some (_ + 1) => some (.cup x)
      | _ => none
    | some .unsafePointer, some (.pointer u), some x => match sizT P u with
      | some (_ + 1) => some (.cpu (liesL P u) x)
      | _ => none
    | _, _, _ => none
  | .makeInterface t x => match P.underlying t with
    | some (.interface _) => none
    | some _ => (cOpd x).map (.mif t)
    | none => none
  | .makeFunc (.func f) first cap => match cOpds first.toList, cOpds cap.toList with
    | some a, some b => some (.mfn f a b)
    | _, _ => none
  | .makeMap _ none => some .mmap
  | .makeMap t (some (.const (.int _ _))) => match P.underlying t with
    | some (.map _ _) => some .mmap
    | _ => none
  | .makeSlice t l c => match P.underlying t with
    | some (.slice e) => match sizT P e, bytT P e, zeroT P e, cOpd l, cOpd c with
      | some s, some b, some z, some l, some c => bif Nat.beq (lenN z.cells) s && Nat.ble 1 s then some (.msl e s b z.cells l c) else none
      | _, _, _, _, _ => none
    | _ => none
  | .slice t x lo hi mx => match P.underlying t, cOpd x, cOpdO lo, cOpdO hi, cOpdO mx with
    | some (.array n e), some x, some lo, some hi, some mx => match sizT P e with
      | some s => bif mx.isNone || hi.isSome then some (.sla n s x lo hi mx) else none
      | none => none
    | some .string, some x, some lo, some hi, some none => some (.sls x lo hi)
    | some (.slice e), some x, some lo, some hi, some mx => match sizT P e with
      | some s => bif (mx.isNone || hi.isSome) && Nat.ble 1 s then some (.slv s x lo hi mx) else none
      | none => none
    | _, _, _, _, _ => none
  | .fieldAddr s x f => match P.underlying s with
    | some (.struct fs) => match fs[f]? with
      | some fl => match sizT P fl.type with
        | some 0 => none
        | some _ => (cOpd x).map (.fa fl.offset)
        | none => none
      | none => none
    | _ => none
  | .field t x f => match P.underlying t with
    | some (.struct fs) => match fs[f]? with
      | some fl => match aggT P fl.type, sizT P fl.type with
        | some true, some n => (cOpd x).map (.fd fl.offset (some n))
        | some false, _ => (cOpd x).map (.fd fl.offset none)
        | _, _ => none
      | none => none
    | _ => none
  | .indexAddr t x i => match P.underlying t with
    | some (.array n e) => match sizT P e, cOpd x, cOpd i with
      | some s, some x, some i => some (.iaa n s x i)
      | _, _, _ => none
    | some (.slice e) => match sizT P e, cOpd x, cOpd i with
      | some s, some x, some i => some (.ia s x i)
      | _, _, _ => none
    | _ => none
  | .index t x i => match P.underlying t with
    | some .string => match cOpd x, cOpd i with
      | some x, some i => some (.ixs x i)
      | _, _ => none
    | some (.array n e) => match sizT P e, aggT P e, cOpd x, cOpd i with
      | some s, some ag, some x, some i => some (.ixa n s ag x i)
      | _, _, _, _ => none
    | _ => none
  | .lookup t m k ok => match P.underlying t with
    | some (.map kt e) => match fkT P kt, zeroT P e, cOpd m, cOpd k with
      | some f, some z, some m, some k => some (.lk f z ok m k)
      | _, _, _, _ => none
    | _ => none
  | .mapUpdate t m k v | .insert t m k v => match P.underlying t with
    | some (.map kt _) => match fkT P kt, cOpd m, cOpd k, cOpd v with
      | some f, some m, some k, some v => some (.mu f m k v)
      | _, _, _, _ => none
    | _ => none
  | .mapEntry t m k => match P.underlying t with
    | some (.map kt e) => match fkT P kt, zeroT P e, cOpd m, cOpd k with
      | some f, some z, some m, some k => some (.me f z m k)
      | _, _, _, _ => none
    | _ => none
  | .entryStore _ m t v => match cOpd m, cOpd t, cOpd v with
    | some m, some t, some v => some (.es m t v)
    | _, _, _ => none
  | .range t x => match P.underlying t with
    | some .string => (cOpd x).map .rs
    | some (.map _ _) => (cOpd x).map .rm
    | _ => none
  | .next it true => (cOpd it).map .ns
  | .next it false => (cOpd it).map .nm
  | .entry it => (cOpd it).map .en
  | .extract x i => (cOpd x).map fun a => .ex a i
  | .call c => match c.callee with
    | .value (.func f) => match P.funcs[f]? with
      | none => none
      | some fn => bif fn.name == "internal/bytealg.IndexByteString" && (fn.origin == "" && fn.body.isNone) then
          match cOpds c.args.toList with
          | some [x, y] => some (.ibs x y)
          | _ => none
        else bif fn.name == "internal/abi.NoEscape" && (fn.origin == "" && fn.body.isNone) then
          match cOpds c.args.toList with
          | some [x] => some (.nes x)
          | _ => none
        else none
    | .value _ => none
    | .builtin b => cBuiltin P b c.argTypes.toList c.args.toList
    | .invoke _ _ => none
  | _ => none

def noCall : IOp → Bool
  | .call _ _ => false
  | .cv _ _ => false
  | _ => true
def keepO : Option IOp → Option IOp
  | some i => bif noCall i then some i else none
  | none => none
def cCall (c : Call) : Option IOp :=
  match c.callee with
  | .value (.func f) => match P.funcs[f]? with
    | none => none
    | some fn => bif fn.body.isSome then (cOpds c.args.toList).map (.call f) else keepO (cOpv P (.call c))
  | .value x => match cOpd x, cOpds c.args.toList with
    | some x, some l => some (.cv x l)
    | _, _ => none
  | _ => keepO (cOpv P (.call c))
def cOp (o : Op) : Option IOp :=
  match o with
  | .call c => cCall P c
  | o => keepO (cOpv P o)

/-! ### Regions -/
def cGuard (ops : Array Oper) : Option (Nat × Bool) → Option (Option (Nat × Bool))
  | none => some none
  | some (j, w) => match ops[j]? with
    | some o => match o.dst with
      | some d => some (some (d, w))
      | none => none
    | none => none

def cOpT (o : Op) : IOp := match cOp P o with
  | some i => i
  | none => .stk

def cS (nt : Nat) (ops : Array Oper) (o : Oper) : Option SOper :=
  match cOpT P o.op, cGuard ops o.guard with
  | op, some g => match o.dst with
    | some d => bif Nat.blt d nt then some { dst := some d, op := op, guard := g } else none
    | none => some { dst := none, op := op, guard := g }
  | _, _ => none

def cSs (nt : Nat) (ops : Array Oper) : List Oper → Option (List SOper)
  | [] => some []
  | o :: r => match cS P nt ops o, cSs nt ops r with
    | some a, some l => some (a :: l)
    | _, _ => none

def depOf (acc : List Nat) (es : List Edge) : Nat :=
  es.foldl (fun s e => bif Region.binds .any e then s ||| 2 ^ e.on ||| acc.getD e.on 0 else s) 0
def depsOf : List Oper → List Nat → List Nat
  | [], acc => acc
  | o :: r, acc => depsOf r (acc ++ [depOf acc o.after.toList])

def Opd.tmp : Opd → List Nat
  | .t i => [i]
  | .c _ => []
def Opd.tmps (l : List Opd) : List Nat := l.flatMap Opd.tmp
def IOp.opds : IOp → List Opd
  | .mv x | .box _ x | .ld x | .ldn _ x | .nck x | .un _ x | .ci _ x | .css x | .csb _ x | .cbb x | .cup x | .cpu _ x | .cbs x | .cis x | .mif _ x | .fa _ x | .fd _ _ x | .rs x | .ns x | .rm x | .nm x | .en x | .ex x _ | .len _ x | .cap x | .clr _ _ x | .usd x | .nes x => [x]
  | .pick a b c | .mu _ a b c | .es a b c => [a, b, c]
  | .alloc _ _ | .mmap | .lenc _ | .stk => []
  | .build _ ps | .bsl _ _ _ ps => ps.map (·.2.2)
  | .st _ x y | .bin _ x y | .eqk _ _ x y | .msl _ _ _ _ x y | .ia _ x y | .iaa _ _ x y | .ixs x y | .ixa _ _ _ x y | .lk _ _ _ x y | .md _ x y | .me _ _ x y | .app _ _ _ x y | .appz _ _ _ _ x y | .cpy _ x y | .ust _ x y | .ibs x y => [x, y]
  | .call _ l | .mn l | .mx l => l
  | .mfn _ l m => l ++ m
  | .cv x l => x :: l
  | .sls x a b => x :: (a.toList ++ b.toList)
  | .slv _ x a b c | .sla _ _ x a b c => x :: (a.toList ++ b.toList ++ c.toList)
def SOper.names (o : SOper) : List Nat := Opd.tmps o.op.opds ++ (match o.guard with | some (d, _) => [d] | none => [])
def memNat : Nat → List Nat → Bool
  | _, [] => false
  | n, m :: r => Nat.beq n m || memNat n r
/-- do two operations name one temporary that one of them writes? -/
def clash (a b : SOper) : Bool :=
  (match a.dst with | some d => memNat d b.names || b.dst == some d | none => false) ||
  (match b.dst with | some d => memNat d a.names | none => false)
/-- (i, j), i before j: clashing ones are ordered -/
def okPairs (i : Nat) (a : SOper) : List SOper → List Nat → Bool
  | [], _ => true
  | b :: r, d :: ds => (!clash a b || d.testBit i) && okPairs i a r ds
  | _ :: _, [] => false
def okAll : Nat → List SOper → List Nat → Bool
  | _, [], _ => true
  | i, a :: r, _ :: ds => okPairs i a r ds && okAll (i + 1) r ds
  | _, _ :: _, [] => false
/-- the guard's operation is one of those that come before -/
def okGuards (ops : Array Oper) : List Oper → List Nat → Bool
  | [], _ => true
  | o :: r, d :: ds => (match o.guard with | some (j, _) => d.testBit j | none => true) && okGuards ops r ds
  | _ :: _, [] => false
/-- edges go back in the text -/
def okBack : Nat → List Nat → Bool
  | _, [] => true
  | i, d :: ds => Nat.blt d (2 ^ i) && okBack (i + 1) ds
def mkD : List SOper → List Nat → List DOper
  | a :: r, d :: ds => { o := a, deps := d } :: mkD r ds
  | _, _ => []

def cRegD (nt : Nat) (ops : Array Oper) : Option (List DOper) :=
  match cSs P nt ops ops.toList with
  | some l =>
    let deps := depsOf ops.toList []
    bif okAll 0 l deps && okBack 0 deps then some (mkD l deps) else none
  | none => none

def cC (nt : Nat) : Code → Option ICode
  | .skip => some .skip
  | .region _ ops false => (cSs P nt ops ops.toList).map .reg
  | .region _ ops true => (cRegD P nt ops).map .regd
  | .seq a b => match cC nt a, cC nt b with
    | some a, some b => some (.seq a b)
    | _, _ => none
  | .cond c a b => match cOpd c, cC nt a, cC nt b with
    | some c, some a, some b => some (.cond c a b)
    | _, _, _ => none
  | .block id b => (cC nt b).map (.block id)
  | .loop b => (cC nt b).map .loop
  | .exit id => some (.exit id)
  | .ret => some .ret
  | .rangeFunc g ps a b => match cOpd g, cC nt a, cC nt b with
    | some g, some a, some b => bif ps.all (Nat.blt · nt) then some (.rf g ps.toList a b) else none
    | _, _, _ => none
  | _ => some .stk

def cRes : List ResultVar → Option (List RV)
  | [] => some []
  | .tmp t :: r => (cRes r).map (.t t :: ·)
  | .cell a t :: r => match aggT P t, sizT P t, cRes r with
    | some true, some n, some l => some (.cn a n :: l)
    | some false, _, some l => some (.c1 a :: l)
    | _, _, _ => none

def cFunc (fn : Func) : Option IFunc :=
  match fn.body with
  | none => none
  | some c => match cC P fn.ntmps c, cRes P fn.results.toList with
    | some b, some r => bif fn.name != "runtime.NumGoroutine" then some { ntmps := fn.ntmps, res := r, body := b } else none
    | _, _ => none

end Go.Proofs.YtoejmfiaaigpbaaGreatDoor.Ev

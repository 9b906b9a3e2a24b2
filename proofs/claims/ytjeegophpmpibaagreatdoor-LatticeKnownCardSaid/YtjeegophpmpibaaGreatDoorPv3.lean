/- From the program's operations to instructions with their types worked out. No condition. -/
import Derived.Test.YtjeegophpmpibaaGreatDoorPv2
namespace Go.Proofs.YtjeegophpmpibaaGreatDoor.Pv
open Go

def szOf (P : Program) (t : TypeId) : Nat := match P.info? t with | some i => i.size | none => 0
def okT (P : Program) (t : TypeId) : Bool := (P.info? t).isSome && (P.underlying t).isSome
def aggOf (P : Program) (t : TypeId) : Bool := match P.underlying t with | some (.struct _) => true | some (.array _ _) => true | _ => false

/-- A value as the text writes it, at a type. -/
def constPV (P : Program) (t : TypeId) : Value → Option PV
  | .bool b => some (.bool b)
  | .int k n => if k.min ≤ n ∧ n ≤ k.max then some (.int k n) else none
  | .string s => if s.size ≤ LIM then some (.str s) else none
  | .pointer none => some .nilp
  | .nilFunc => some .nilf
  | .nilIface => some .nili
  | .slice none 0 0 => some (.vec (match P.underlying t with | some (.slice e) => szOf P e | _ => 0) true [])
  | _ => none
/-- A type's zero value, cell by cell: each slice with its elements' size. -/
def zeroAt (P : Program) : Nat → TypeId → List PV
  | 0, _ => []
  | d + 1, t => match P.underlying t with
    | some (.bool) => [.bool false]
    | some (.int k) => [.int k 0]
    | some (.string) => [.str ByteArray.empty]
    | some (.slice e) => [.vec (szOf P e) true []]
    | some (.pointer _) => [.nilp]
    | some (.func _ _ _) => [.nilf]
    | some (.interface _) => [.nili]
    | some (.struct fs) => (fs.toList.map fun f => zeroAt P d f.type).flatten
    | some (.array n e) => (List.replicate n (zeroAt P d e)).flatten
    | _ => []
/-- Does a written-out cell hold what it should? -/
def fitsV : PV → Value → Bool
  | .bool b, .bool c => b == c
  | .int k n, .int j m => k == j && n == m && decide (k.min ≤ n) && decide (n ≤ k.max)
  | .str s, .string u => s.data == u.data && decide (s.size ≤ LIM)
  | .vec _ _ [], .slice none 0 0 => true
  | .nilp, .pointer none => true
  | .nilf, .nilFunc => true
  | .nili, .nilIface => true
  | _, _ => false
def fitsL : List PV → List Value → Bool
  | [], [] => true
  | x :: xs, v :: vs => fitsV x v && fitsL xs vs
  | _, _ => false
def isAggV : Value → Bool
  | .agg _ => true
  | _ => false
def zeroPV (P : Program) (t : TypeId) : Option (List PV) :=
  match (P.info? t).bind (·.zero) with
  | some z => if fitsL (zeroAt P 12 t) z.cells.toList && (aggOf P t == isAggV z) && decide ((zeroAt P 12 t).length = szOf P t) then some (zeroAt P 12 t) else none
  | none => none

def toO (P : Program) (nt : Nat) (t : TypeId) : Operand → Option MO
  | .tmp n => if n < nt then some (.t n) else none
  | .const v => (constPV P t v).map .k
  | .func f => some (.k (.fn f [] []))
  | .global _ => none
def toOs (P : Program) (nt : Nat) (ts : List TypeId) : List Operand → Option (List MO)
  | [] => some []
  | x :: xs => match toO P nt (ts.headD 0) x, toOs P nt ts.tail xs with
    | some y, some ys => some (y :: ys)
    | _, _ => none
def toOpt (P : Program) (nt : Nat) (t : TypeId) : Option Operand → Option (Option MO)
  | none => some none
  | some x => (toO P nt t x).map some

def toParts (P : Program) (nt : Nat) (fs : Array Field) : List (Nat × Operand) → Option (List (Nat × Nat × MO))
  | [] => some []
  | (i, x) :: ps => match fs[i]?, toParts P nt fs ps with
    | some f, some qs => (toO P nt f.type x).map fun y => (f.offset, szOf P f.type, y) :: qs
    | _, _ => none
def toPartsA (P : Program) (nt : Nat) (e : TypeId) : List (Nat × Operand) → Option (List (Nat × Nat × MO))
  | [] => some []
  | (i, x) :: ps => match toPartsA P nt e ps with
    | some qs => (toO P nt e x).map fun y => (i * szOf P e, szOf P e, y) :: qs
    | _ => none
def toPartsS (P : Program) (nt : Nat) (e : TypeId) : List (Nat × Operand) → Option (List (Nat × MO))
  | [] => some []
  | (i, x) :: ps => match toPartsS P nt e ps with
    | some qs => (toO P nt e x).map fun y => (i, y) :: qs
    | _ => none

def binCls (P : Program) (t : TypeId) : Nat := match P.underlying t with | some (.bool) => 1 | _ => 0

def zeroFits (i : TypeInfo) : Bool := match i.zero with
  | some z => decide (z.cells.size = i.size)
  | none => false
/-- Has the function a body of its own? -/
def callable (P : Program) (f : FuncId) : Bool := match P.funcs[f]? with
  | some fn => fn.body.isSome && fn.name != "runtime.NumGoroutine"
  | none => false
def isNilC : Operand → Bool
  | .const (.slice none 0 0) => true
  | _ => false
def isNilCmp (P : Program) (t : TypeId) (y : Operand) : Bool := isNilC y && (match P.underlying t with | some (.slice _) => true | _ => false)
def toI (P : Program) (nt : Nat) (o : Oper) : Option MI :=
  match o.op with
  | .move x | .assign x => (toO P nt o.type x).map .mv
  | .pick c a b => match toO P nt 0 c, toO P nt o.type a, toO P nt o.type b with
    | some c, some a, some b => some (.pick c a b)
    | _, _, _ => none
  | .alloc e => (zeroPV P e).map .alloc
  | .box e x => (toO P nt e x).map .box
  | .build t ps => match zeroPV P t, P.underlying t with
    | some z, some (.struct fs) => if fs.toList.all (fun f => okT P f.type) then (toParts P nt fs ps.toList).map (.build z) else none
    | some z, some (.array _ e) => if okT P e then (toPartsA P nt e ps.toList).map (.build z) else none
    | _, _ => none
  | .buildSlice t n ps => match P.underlying t with
    | some (.slice e) => match zeroPV P e, toPartsS P nt e ps.toList with
      | some z, some qs => if n ≤ 1024 && szOf P e ≤ 1024 && okT P e then some (.bslice (szOf P e) z n qs) else none
      | _, _ => none
    | _ => none
  | .load t a => if okT P t = false then none else (toO P nt 0 a).map fun a => .load a (szOf P t) (aggOf P t)
  | .store t a x => if okT P t = false then none else match toO P nt 0 a, toO P nt t x with
    | some a, some x => some (.store a x (szOf P t))
    | _, _ => none
  | .nilCheck x => (toO P nt 0 x).map .nilck
  | .binOp op t x y u => if isNilCmp P t y then (match op with | .eql => (toO P nt t x).map (.nilcmp false) | .neq => (toO P nt t x).map (.nilcmp true) | _ => none) else match toO P nt t x, toO P nt u y with
    | some x, some y => some (.bin op (binCls P t) x y)
    | _, _ => none
  | .unOp op _ x => (toO P nt 0 x).map (.un op)
  | .convert s d x => if (P.underlying s).isNone then none else match P.underlying d with
    | some (.int k) => (toO P nt 0 x).map (.conv k)
    | some (.string) => match P.underlying s with
      | some (.slice e) => (match P.underlying e with
        | some (.int .u8) => (toO P nt s x).map .b2s
        | _ => none)
      | _ => none
    | some (.struct _) => none
    | _ => none
  | .fieldAddr s a f => match P.underlying s with
    | some (.struct fs) => match fs[f]? with
      | some fd => if okT P fd.type = false || szOf P fd.type = 0 then none else (toO P nt 0 a).map fun a => .faddr a fd.offset
      | none => none
    | _ => none
  | .field s x f => match P.underlying s with
    | some (.struct fs) => match fs[f]? with
      | some fd => if okT P fd.type = false then none else (toO P nt s x).map fun x => .field x fd.offset (szOf P fd.type) (aggOf P fd.type)
      | none => none
    | _ => none
  | .indexAddr t x i => match P.underlying t with
    | some (.slice e) => if okT P e = false then none else match toO P nt t x, toO P nt 3 i with
      | some x, some i => some (.iaddr x i (szOf P e))
      | _, _ => none
    | some (.array n e) => if okT P e = false then none else match toO P nt 0 x, toO P nt 3 i with
      | some x, some i => some (.iaddrp x i n (szOf P e))
      | _, _ => none
    | _ => none
  | .index t x i => match P.underlying t with
    | some (.string) => match toO P nt t x, toO P nt 3 i with
      | some x, some i => some (.sidx x i)
      | _, _ => none
    | some (.array n e) => if okT P e = false then none else match toO P nt t x, toO P nt 3 i with
      | some x, some i => some (.aidx x i n (szOf P e) (aggOf P e))
      | _, _ => none
    | _ => none
  | .slice t x lo hi mx => match P.underlying t with
    | some (.slice e) => if okT P e = false then none else match toO P nt t x, toOpt P nt 3 lo, toOpt P nt 3 hi, toOpt P nt 3 mx with
      | some x, some lo, some hi, some mx => if mx.isSome && hi.isNone then none else some (.slc x (szOf P e) lo hi mx)
      | _, _, _, _ => none
    | some (.string) => match toO P nt t x, toOpt P nt 3 lo, toOpt P nt 3 hi with
      | some x, some lo, some hi => if mx.isSome then none else some (.sslc x lo hi)
      | _, _, _ => none
    | _ => none
  | .extract x i => (toO P nt 0 x).map fun x => .ext x i
  | .makeFunc (.func f) first caps => match toOs P nt [] first.toList, toOs P nt [] caps.toList with
    | some a, some b => some (.mkfn f a b)
    | _, _ => none
  | .makeSlice t l c => match P.underlying t with
    | some (.slice e) => match zeroPV P e, toO P nt 3 l, toO P nt 3 c, P.info? e with
      | some z, some l, some c, some i => if i.bytes ≤ 2048 && 0 < szOf P e then some (.mksl (szOf P e) z l c) else none
      | _, _, _, _ => none
    | _ => none
  | .makeInterface t x => match P.underlying t with
    | some (.interface _) => none
    | some _ => (toO P nt t x).map (.mkif t)
    | none => none
  | .call c => match c.callee with
    | .value (.func f) => if callable P f then (toOs P nt c.argTypes.toList c.args.toList).map (.call f) else none
    | .value (.tmp t) => if t < nt then (toOs P nt c.argTypes.toList c.args.toList).map (.dcall (.t t)) else none
    | .builtin .len => match c.argTypes.toList, c.args.toList with
      | [t], [x] => match P.underlying t with
        | some (.slice _) => (toO P nt t x).map .len
        | some (.string) => (toO P nt t x).map .slen
        | _ => none
      | _, _ => none
    | .builtin .cap => match c.argTypes.toList, c.args.toList with
      | [t], [x] => match P.underlying t with
        | some (.slice _) => (toO P nt t x).map .cap
        | _ => none
      | _, _ => none
    | .builtin .append => match c.argTypes.toList, c.args.toList with
      | [t, u], [s, x] => match P.underlying t, P.underlying u with
        | some (.slice e), some (.slice _) => match toO P nt t s, toO P nt u x, P.info? e with
          | some s, some x, some i => if i.bytes ≤ 2048 && 0 < i.bytes && zeroFits i then some (.app s x i.size) else none
          | _, _, _ => none
        | some (.slice e), some (.string) => match toO P nt t s, toO P nt u x, P.info? e with
          | some s, some x, some i => if i.bytes ≤ 2048 && 0 < i.bytes && zeroFits i then some (.app s x i.size) else none
          | _, _, _ => none
        | some (.slice e), some (.int _) => match toO P nt t s, toO P nt u x, zeroPV P e, P.info? e with
          | some s, some x, some z, some i => if i.bytes ≤ 2048 then some (.appz s x i.size z) else none
          | _, _, _, _ => none
        | _, _ => none
      | _, _ => none
    | .builtin .min => match c.args.toList with
      | [x, y] => match toO P nt 3 x, toO P nt 3 y with | some x, some y => some (.minmax false x y) | _, _ => none
      | _ => none
    | .builtin .max => match c.args.toList with
      | [x, y] => match toO P nt 3 x, toO P nt 3 y with | some x, some y => some (.minmax true x y) | _, _ => none
      | _ => none
    | _ => none
  | _ => none

def MI.hard : MI → Bool
  | .iaddr .. | .sidx .. | .aidx .. | .slc .. | .sslc .. | .call .. | .dcall .. | .app .. | .store .. | .alloc .. | .box .. | .bslice .. | .mksl .. | .appz .. | .iaddrp .. | .bad => true
  | _ => false

def toOp (P : Program) (nt : Nat) (ops : Array Oper) (soft : Bool) (o : Oper) : Option MOp :=
  if (match o.dst with | some d => decide (d < nt) | none => true) = false then none else match (match toI P nt o with | some i => some i | none => some .bad) with
  | none => none
  | some i => match o.guard with
    | none => some { dst := o.dst, i := i }
    | some (j, want) => match (ops[j]?).bind (·.dst) with
      | some t => if t < nt then some { dst := o.dst, i := i, g := some (t, want), soft := soft } else none
      | none => none
def toOps (P : Program) (nt : Nat) (ops : Array Oper) (soft : Bool) : List Oper → Option (List MOp)
  | [] => some []
  | o :: os => match toOp P nt ops soft o, toOps P nt ops soft os with
    | some m, some ms => some (m :: ms)
    | _, _ => none
/-- Are all guarded operations of the region such that it does no harm to run them? -/
def softR (P : Program) (nt : Nat) (ops : Array Oper) : Bool := ops.all fun o => o.guard.isNone || (match toI P nt o with | some i => !i.hard | none => false)

def MI.allocs : MI → Bool
  | .alloc _ | .box _ | .bslice _ _ _ _ | .app _ _ _ | .call _ _ | .dcall _ _ | .mksl _ _ _ _ | .appz _ _ _ _ => true
  | _ => false
def MI.ops : MI → List MO
  | .mv x | .box x | .nilck x | .un _ x | .conv _ x | .faddr x _ | .field x _ _ _ | .ext x _ | .len x | .slen x | .cap x | .mkif _ x | .nilcmp _ x | .load x _ _ => [x]
  | .pick a b c => [a, b, c]
  | .alloc _ => []
  | .build _ ps => ps.map fun p => p.2.2
  | .bslice _ _ _ ps => ps.map fun p => p.2
  | .store a x _ | .bin _ _ a x | .iaddr a x _ | .sidx a x | .aidx a x _ _ _ | .app a x _ | .minmax _ a x => [a, x]
  | .slc x _ a b c => x :: (a.toList ++ b.toList ++ c.toList)
  | .sslc x a b => x :: (a.toList ++ b.toList)
  | .mkfn _ fs cs => fs ++ cs
  | .mksl _ _ a b => [a, b]
  | .appz a b _ _ | .iaddrp a b _ _ => [a, b]
  | .b2s x => [x]
  | .bad => []
  | .call _ xs => xs
  | .dcall f xs => f :: xs
/-- The slots that an instruction looks at. -/
def MOp.looks (m : MOp) : List Nat := (m.i.ops.filterMap fun x => match x with | .t n => some n | .k _ => none) ++ (match m.g with | some (t, _) => [t] | none => [])
def apartM (x y : MOp) : Bool :=
  (match x.dst with | some d => !y.looks.contains d | none => true) && (match y.dst with | some d => !x.looks.contains d | none => true)
def nodupB : List Nat → Bool
  | [] => true
  | x :: xs => !xs.contains x && nodupB xs
inductive MC where
  | skip
  | reg (ms : List MOp)
  | draw (un : List (Nat × Nat)) (ms : List MOp)
  | seq (a b : MC)
  | cond (c : MO) (a b : MC)
  | block (id : Nat) (a : MC)
  | loop (a : MC)
  | exit (id : Nat)
  | ret
  | scope (a : MC)
  | label (l : Nat)
  | goto (l : Nat)
  | bad
  deriving Inhabited

def unordered (ops : Array Oper) : List (Nat × Nat) :=
  let b := Region.before ops
  (List.range ops.size).flatMap fun j => (List.range j).filterMap fun i => if (b.getD j 0).testBit i then none else some (i, j)

/-- May the order of a region be open? -/
def drawOk (ops : Array Oper) (ms : List MOp) : Bool :=
  ops.toList.zipIdx.all (fun p => p.1.after.all fun e => !Region.binds .any e || decide (e.on < p.2)) &&
  (unordered ops).all (fun p => match ms[p.1]?, ms[p.2]? with | some x, some y => apartM x y | _, _ => false) &&
  nodupB (ms.filterMap (·.dst)) && ms.all (fun m => !m.i.allocs || m.dst.isSome)

def toMC (P : Program) (nt : Nat) : Code → Option MC
  | .skip => some .skip
  | .region _ ops d => match toOps P nt ops (softR P nt ops) ops.toList with
    | some ms => if d then (if drawOk ops ms then some (.draw (unordered ops) ms) else none) else some (.reg ms)
    | none => none
  | .seq a b => match toMC P nt a, toMC P nt b with
    | some x, some y => some (.seq x y)
    | _, _ => none
  | .cond c a b => match toO P nt 0 c, toMC P nt a, toMC P nt b with
    | some c, some x, some y => some (.cond c x y)
    | _, _, _ => none
  | .block id a => (toMC P nt a).map (.block id)
  | .loop a => (toMC P nt a).map .loop
  | .exit id => some (.exit id)
  | .ret => some .ret
  | .scope a => (toMC P nt a).map .scope
  | .label l => some (.label l)
  | .goto l => some (.goto l)
  | _ => some .bad
def mcOf (P : Program) (f : Nat) : Option MC := match P.funcs[f]? with | some fn => fn.body.bind (toMC P fn.ntmps) | none => none
end Go.Proofs.YtjeegophpmpibaaGreatDoor.Pv

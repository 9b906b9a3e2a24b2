/- Instructions with their types worked out, what each does to slots and owned blocks, and what a run of several comes to. No condition. -/
import Derived.Test.YtjeegophpmpibaaGreatDoorPv1
namespace Go.Proofs.YtjeegophpmpibaaGreatDoor.Pv
open Go

/-- An operand: a slot, or a constant. -/
inductive MO where
  | t (n : Nat)
  | k (x : PV)
  deriving Inhabited

inductive MI where
  | mv (x : MO)
  | pick (c a b : MO)
  | alloc (z : List PV)
  | box (x : MO)
  | build (z : List PV) (parts : List (Nat × Nat × MO))
  | bslice (esz : Nat) (z : List PV) (n : Nat) (parts : List (Nat × MO))
  | load (a : MO) (n : Nat) (ag : Bool)
  | store (a x : MO) (n : Nat)
  | nilck (x : MO)
  | bin (op : BinOp) (cls : Nat) (x y : MO)
  | un (op : UnOp) (x : MO)
  | conv (k : IntKind) (x : MO)
  | faddr (a : MO) (off : Nat)
  | field (x : MO) (off n : Nat) (ag : Bool)
  | iaddr (x i : MO) (esz : Nat)
  | sidx (x i : MO)
  | aidx (x i : MO) (len esz : Nat) (ag : Bool)
  | slc (x : MO) (esz : Nat) (lo hi mx : Option MO)
  | sslc (x : MO) (lo hi : Option MO)
  | ext (x : MO) (i : Nat)
  | len (x : MO)
  | slen (x : MO)
  | app (s x : MO) (esz : Nat)
  | mkfn (f : FuncId) (first caps : List MO)
  | mkif (t : TypeId) (x : MO)
  | call (f : FuncId) (args : List MO)
  | dcall (f : MO) (args : List MO)
  | minmax (mx : Bool) (x y : MO)
  | nilcmp (ne : Bool) (x : MO)
  | cap (x : MO)
  | mksl (esz : Nat) (z : List PV) (l c : MO)
  | appz (s n : MO) (esz : Nat) (z : List PV)
  | b2s (x : MO)
  | iaddrp (x i : MO) (len esz : Nat)
  | bad
  deriving Inhabited

/-- An instruction with its slot, and the slot that says whether it is run at all. -/
structure MOp where
  dst : Option Nat
  i : MI
  g : Option (Nat × Bool) := none
  soft : Bool := false
  deriving Inhabited

/-- An owned block: rows of esz cells each, whether it is written no more, and whether it is a variable (one row; owned blocks may be named in it). -/
structure HE where
  esz : Nat
  xs : List (List PV)
  fz : Bool := false
  bx : Bool := false
  deriving Inhabited

structure St where
  s : List (Nat × PV)
  h : List (Key × Option HE)

def lk : Nat → List (Nat × PV) → PV
  | _, [] => .undef
  | n, (m, x) :: l => if n = m then x else lk n l
def hk : Key → List (Key × Option HE) → Option HE
  | _, [] => none
  | k, (j, e) :: l => if k = j then e else hk k l
def St.get (st : St) : MO → PV
  | .t n => lk n st.s
  | .k x => x

def strip : PV → PV
  | .opt _ x => x
  | x => x
def cells : PV → List PV
  | .agg cs => cs
  | x => [x]
def mk (ag : Bool) (n : Nat) (cs : List PV) : PV := if ag then .agg (cs.take n) else cs.headD .undef
def splice (row : List PV) (off : Nat) (cs : List PV) : List PV := row.take off ++ cs ++ row.drop (off + cs.length)
/-- May it be stored into a cell, or be a struct's cells? -/
def isOne : PV → Bool
  | .undef | .tup _ | .opt _ _ | .raw _ | .agg _ => false
  | _ => true
def storable : PV → Bool
  | .agg _ => true
  | x => isOne x

mutual
/-- A value as it is handed on, its owned lists by their contents; pointers to owned blocks are not handed on. -/
def reify0 (hl : Key → Option HE) : PV → PV
  | .own g esz off len _ => match hl g with | some e => .vec esz false ((e.xs.drop off).take len) | none => .undef
  | .ptr _ _ _ _ => .undef
  | .vec e _ xs => .vec e false xs
  | .agg cs => .agg (reify0L hl cs)
  | .tup cs => .tup (reify0L hl cs)
  | .fn f a b => .fn f (reify0L hl a) (reify0L hl b)
  | .iface t x => .iface t (reify0 hl x)
  | .opt _ _ => .undef
  | x => x
def reify0L (hl : Key → Option HE) : List PV → List PV
  | [] => []
  | x :: xs => reify0 hl x :: reify0L hl xs
end
mutual
/-- The same, a pointer to an owned block by what stands behind it. -/
def reify (hl : Key → Option HE) : PV → PV
  | .own g esz off len _ => match hl g with | some e => .vec esz false ((e.xs.drop off).take len) | none => .undef
  | .ptr g _ i off => match hl g with | some e => .ref (reify0L hl ((e.xs.getD i []).drop off)) | none => .undef
  | .vec e _ xs => .vec e false xs
  | .agg cs => .agg (reifyL hl cs)
  | .tup cs => .tup (reifyL hl cs)
  | .fn f a b => .fn f (reifyL hl a) (reifyL hl b)
  | .iface t x => .iface t (reify hl x)
  | .opt _ _ => .undef
  | x => x
def reifyL (hl : Key → Option HE) : List PV → List PV
  | [] => []
  | x :: xs => reify hl x :: reifyL hl xs
end
mutual
/-- Can it be handed on so? -/
def ok0 (hl : Key → Option HE) : PV → Prop
  | .own g _ off len _ => match hl g with | some e => e.bx = false ∧ off + len ≤ e.xs.length | none => False
  | .agg cs => ok0L hl cs
  | .tup cs => ok0L hl cs
  | .fn _ a b => ok0L hl a ∧ ok0L hl b
  | .iface _ x => ok0 hl x
  | _ => True
def ok0L (hl : Key → Option HE) : List PV → Prop
  | [] => True
  | x :: xs => ok0 hl x ∧ ok0L hl xs
end
mutual
def okV (hl : Key → Option HE) : PV → Prop
  | .own g _ off len _ => match hl g with | some e => e.bx = false ∧ off + len ≤ e.xs.length | none => False
  | .ptr g _ i off => match hl g with | some e => i < e.xs.length ∧ ok0L hl ((e.xs.getD i []).drop off) | none => False
  | .agg cs => okL hl cs
  | .tup cs => okL hl cs
  | .fn _ a b => okL hl a ∧ okL hl b
  | .iface _ x => okV hl x
  | _ => True
def okL (hl : Key → Option HE) : List PV → Prop
  | [] => True
  | x :: xs => okV hl x ∧ okL hl xs
end
mutual
/-- The owned blocks that a value names. -/
def keys0 : PV → List Key
  | .own g _ _ _ _ => [g]
  | .agg cs => keys0L cs
  | .tup cs => keys0L cs
  | .fn _ a b => keys0L a ++ keys0L b
  | .iface _ x => keys0 x
  | _ => []
def keys0L : List PV → List Key
  | [] => []
  | x :: xs => keys0 x ++ keys0L xs
end
mutual
def keysOf (hl : Key → Option HE) : PV → List Key
  | .own g _ _ _ _ => [g]
  | .ptr g _ i off => g :: (match hl g with | some e => keys0L ((e.xs.getD i []).drop off) | none => [])
  | .agg cs => keysL hl cs
  | .tup cs => keysL hl cs
  | .fn _ a b => keysL hl a ++ keysL hl b
  | .iface _ x => keysOf hl x
  | _ => []
def keysL (hl : Key → Option HE) : List PV → List Key
  | [] => []
  | x :: xs => keysOf hl x ++ keysL hl xs
end
mutual
/-- A value without memory. -/
def scalar : PV → Bool
  | .bool _ | .int _ _ | .str _ | .nilp | .nilf | .nili => true
  | .tup cs => scalarL cs
  | .agg cs => scalarL cs
  | _ => false
def scalarL : List PV → Bool
  | [] => true
  | x :: xs => scalar x && scalarL xs
end
def tagsOf (ks : List Key) : List Nat := ks.map (·.1)
def freezeAll (hl : Key → Option HE) (ks : List Key) : List (Key × Option HE) := ks.map fun k => (k, (hl k).map fun e => { e with fz := true })

structure Out where
  pre : Prop
  rd : List Nat
  r : PV
  hu : List (Key × Option HE)

def fillP : List PV → List (Nat × Nat × PV) → List PV
  | z, [] => z
  | z, (off, _, x) :: ps => fillP (splice z off (cells x)) ps
def fillOk : Nat → List (Nat × Nat × PV) → Prop
  | _, [] => True
  | n, (off, sz, x) :: ps => ((cells x).length = sz ∧ off + sz ≤ n ∧ storable x = true) ∧ fillOk n ps
def fillR : List (List PV) → List (Nat × PV) → List (List PV)
  | z, [] => z
  | z, (i, x) :: ps => fillR (z.set i (cells x)) ps
def fillROk (esz : Nat) : Nat → List (Nat × PV) → Prop
  | _, [] => True
  | n, (i, x) :: ps => ((cells x).length = esz ∧ i < n ∧ storable x = true) ∧ fillROk esz n ps

/-- The rows that a slice holds. -/
def rowsOf (hl : Key → Option HE) : PV → Option (Prop × Nat × List Nat × List (List PV))
  | .vec esz _ xs => some (True, esz, [], xs)
  | .own g esz off len _ => match hl g with
    | some e => some (e.bx = false ∧ off + len ≤ e.xs.length, esz, [g.1], (e.xs.drop off).take len)
    | none => none
  | .str s => some (True, 1, [], s.data.toList.map fun b => [.int .u8 b.toNat])
  | _ => none
/-- The bytes that rows of one byte each hold. -/
def rowsBytes : List (List PV) → Option (List UInt8)
  | [] => some []
  | [.int .u8 n] :: rs => (rowsBytes rs).map (UInt8.ofNat n.toNat :: ·)
  | _ => none

def strLt (x y : ByteArray) : Bool := Op.bytesLess x.data.toList y.data.toList
def strEq (x y : ByteArray) : Bool := x.data.toList == y.data.toList

def binSem (op : BinOp) (cls : Nat) : PV → PV → Option (Prop × PV)
  | .int k a, .int k' b =>
    match op with
    | .shl => some (0 ≤ b, .int k (k.wrap (a * 2 ^ (min b.toNat k.bits))))
    | .shr => some (0 ≤ b, .int k (a.fdiv (2 ^ (min b.toNat k.bits))))
    | _ => if k ≠ k' then none else match op with
      | .add => some (True, .int k (k.wrap (a + b)))
      | .sub => some (True, .int k (k.wrap (a - b)))
      | .mul => some (True, .int k (k.wrap (a * b)))
      | .quo => some (b ≠ 0, .int k (k.wrap (a.tdiv b)))
      | .rem => some (b ≠ 0, .int k (a.tmod b))
      | .and => some (True, .int k (k.wrap (BitVec.ofInt k.bits a &&& BitVec.ofInt k.bits b).toNat))
      | .or => some (True, .int k (k.wrap (BitVec.ofInt k.bits a ||| BitVec.ofInt k.bits b).toNat))
      | .xor => some (True, .int k (k.wrap (BitVec.ofInt k.bits a ^^^ BitVec.ofInt k.bits b).toNat))
      | .eql => some (True, .bool (a == b))
      | .neq => some (True, .bool (a != b))
      | .lss => some (True, .bool (decide (a < b)))
      | .leq => some (True, .bool (decide (a ≤ b)))
      | .gtr => some (True, .bool (decide (a > b)))
      | .geq => some (True, .bool (decide (a ≥ b)))
      | _ => none
  | .str a, .str b =>
    match op with
    | .add => some (a.size + b.size ≤ LIM, .str (a ++ b))
    | .eql => some (True, .bool (strEq a b))
    | .neq => some (True, .bool (!strEq a b))
    | .lss => some (True, .bool (strLt a b))
    | .leq => some (True, .bool (strLt a b || strEq a b))
    | .gtr => some (True, .bool (!(strLt a b || strEq a b)))
    | .geq => some (True, .bool (!strLt a b))
    | _ => none
  | .bool a, .bool b =>
    if cls = 1 then match op with
    | .eql => some (True, .bool (a == b))
    | .neq => some (True, .bool (!(a == b)))
    | _ => none else none
  | _, _ => none

def okOpt (cb want : Bool) : PV → Prop
  | .opt b' _ => cb = want → b' = true
  | _ => True

/-- Has what may have been left out been run? -/
def isRun : PV → Prop
  | .opt b _ => b = true
  | _ => True

def natOf : PV → Option Int
  | .int _ n => some n
  | _ => none

/-- The third bound of a slicing. -/
def mxOf (get : MO → PV) : Option MO → Option (Option Int)
  | none => some none
  | some m => (natOf (get m)).map some
/-- The bounds of a slicing: low, high. -/
def bounds (len : Nat) (lo hi : Option PV) : Option (Int × Int) :=
  match (match lo with | none => some 0 | some x => natOf x), (match hi with | none => some (len : Int) | some x => natOf x) with
  | some l, some h => some (l, h)
  | _, _ => none

def opSem (key : Key) (get : MO → PV) (hl : Key → Option HE) : MI → Option Out
  | .mv x => some ⟨True, [], get x, []⟩
  | .pick c a b => match strip (get c) with
    | .bool cb =>
      some ⟨isRun (get c) ∧ okOpt cb true (get a) ∧ okOpt cb false (get b), [], (match strip (get a), strip (get b) with | .bool p, .bool q => .bool (cond cb p q) | .int k m, .int k' n => if k = k' then .int k (cond cb m n) else cond cb (.int k m) (.int k' n) | x, y => cond cb x y), []⟩
    | _ => none
  | .alloc z => some ⟨True, [], .ptr key z.length 0 0, [(key, some ⟨z.length, [z], false, true⟩)]⟩
  | .box x => some ⟨storable (get x) = true, [], .ptr key (cells (get x)).length 0 0, [(key, some ⟨(cells (get x)).length, [cells (get x)], false, true⟩)]⟩
  | .build z ps => let ps' := ps.map fun p => (p.1, p.2.1, get p.2.2); some ⟨fillOk z.length ps', [], .agg (fillP z ps'), []⟩
  | .bslice esz z n ps => some ⟨fillROk esz n (ps.map fun p => (p.1, reify hl (get p.2))) ∧ okL hl (ps.map fun p => get p.2) ∧ z.length = esz ∧ 0 < esz ∧ n ≤ 1024, tagsOf (keysL hl (ps.map fun p => get p.2)), .own key esz 0 n true,
      (key, some ⟨esz, fillR (List.replicate n (reify0L (fun _ => none) z)) (ps.map fun p => (p.1, reify hl (get p.2))), false, false⟩) :: freezeAll hl (keysL hl (ps.map fun p => get p.2))⟩
  | .load a n ag => match get a with
    | .ref cs => some ⟨n ≤ cs.length ∧ (ag = false → n = 1), [], mk ag n cs, []⟩
    | .ptr g _ i off => match hl g with
      | some e => some ⟨i < e.xs.length ∧ off + n ≤ (e.xs.getD i []).length ∧ (ag = false → n = 1), [g.1], mk ag n ((e.xs.getD i []).drop off), []⟩
      | none => none
    | _ => none
  | .store a x n => match get a with
    | .ptr g esz i off => match hl g with
      | some e => if e.fz then none else
        if e.bx then some ⟨i < e.xs.length ∧ off + n ≤ (e.xs.getD i []).length ∧ (cells (get x)).length = n ∧ storable (get x) = true, [g.1], .undef, [(g, some { e with xs := e.xs.set i (splice (e.xs.getD i []) off (cells (get x))) })]⟩
        else some ⟨i < e.xs.length ∧ off + n ≤ (e.xs.getD i []).length ∧ (cells (reify hl (get x))).length = n ∧ storable (reify hl (get x)) = true ∧ okV hl (get x) ∧ (keysOf hl (get x)).contains g = false, g.1 :: tagsOf (keysOf hl (get x)), .undef,
          (g, some { e with xs := e.xs.set i (splice (e.xs.getD i []) off (cells (reify hl (get x)))) }) :: freezeAll hl (keysOf hl (get x))⟩
      | none => none
    | _ => none
  | .nilck x => match get x with
    | .ref cs => some ⟨True, [], .ref cs, []⟩
    | .ptr g esz i off => some ⟨True, [], .ptr g esz i off, []⟩
    | .fn f a b => some ⟨True, [], .fn f a b, []⟩
    | _ => none
  | .bin op cls x y => match binSem op cls (get x) (get y) with
    | some (p, r) => some ⟨p, [], r, []⟩
    | none => none
  | .un op x => match op, get x with
    | .not, .bool b => some ⟨True, [], .bool (!b), []⟩
    | .neg, .int k n => some ⟨True, [], .int k (k.wrap (0 - n)), []⟩
    | _, _ => none
  | .conv k x => match get x with
    | .int _ n => some ⟨True, [], .int k (k.wrap n), []⟩
    | _ => none
  | .faddr a off => match get a with
    | .ref cs => some ⟨True, [], .ref (cs.drop off), []⟩
    | .ptr g esz i o => some ⟨True, [], .ptr g esz i (o + off), []⟩
    | _ => none
  | .field x off n ag => match get x with
    | .agg cs => some ⟨off + n ≤ cs.length ∧ (ag = false → n = 1), [], mk ag n (cs.drop off), []⟩
    | _ => none
  | .iaddr x i esz => match get x, get i with
    | .vec esz' _ xs, .int _ n => if esz' = esz then some ⟨0 ≤ n ∧ n < xs.length, [], .ref (xs.getD n.toNat []), []⟩ else none
    | .own g esz' off len _, .int _ n => if esz' = esz then some ⟨0 ≤ n ∧ n < len, [], .ptr g esz (off + n.toNat) 0, []⟩ else none
    | _, _ => none
  | .sidx x i => match get x, get i with
    | .str s, .int _ n => some ⟨0 ≤ n ∧ n < s.size, [], .int .u8 ((s.data.getD n.toNat 0).toNat), []⟩
    | _, _ => none
  | .aidx x i len esz ag => match get x, get i with
    | .agg cs, .int _ n => some ⟨0 ≤ n ∧ n < len ∧ cs.length = len * esz ∧ (ag = false → esz = 1), [], mk ag esz (cs.drop (n.toNat * esz)), []⟩
    | _, _ => none
  | .slc x esz lo hi mx => match get x with
    | .vec esz' full xs => match bounds xs.length (lo.map get) (hi.map get), mxOf get mx with
      | some (l, h), some none => some ⟨(xs = [] ∨ esz' = esz) ∧ 0 ≤ l ∧ l ≤ h ∧ h ≤ xs.length, [], .vec esz' (full && decide (h = xs.length)) ((xs.drop l.toNat).take (h.toNat - l.toNat)), []⟩
      | some (l, h), some (some m) => some ⟨(xs = [] ∨ esz' = esz) ∧ 0 ≤ l ∧ l ≤ h ∧ h ≤ m ∧ m ≤ xs.length, [], .vec esz' (decide (h = m)) ((xs.drop l.toNat).take (h.toNat - l.toNat)), []⟩
      | _, _ => none
    | .own g esz' off len full => if esz' = esz then match bounds len (lo.map get) (hi.map get), mxOf get mx with
      | some (l, h), some none => some ⟨0 ≤ l ∧ l ≤ h ∧ h ≤ len, [], .own g esz (off + l.toNat) (h.toNat - l.toNat) (full && decide (h = len)), []⟩
      | some (l, h), some (some m) => some ⟨0 ≤ l ∧ l ≤ h ∧ h ≤ m ∧ m ≤ len, [], .own g esz (off + l.toNat) (h.toNat - l.toNat) (decide (h = m)), []⟩
      | _, _ => none
      else none
    | _ => none
  | .sslc x lo hi => match get x with
    | .str s => match bounds s.size (lo.map get) (hi.map get) with
      | some (l, h) => some ⟨0 ≤ l ∧ l ≤ h ∧ h ≤ s.size, [], .str (s.extract l.toNat h.toNat), []⟩
      | none => none
    | _ => none
  | .ext x i => match get x with
    | .tup vs => some ⟨i < vs.length, [], vs.getD i .undef, []⟩
    | _ => none
  | .len x => match get x with
    | .vec _ _ xs => some ⟨True, [], .int .i64 xs.length, []⟩
    | .own _ _ _ len _ => some ⟨True, [], .int .i64 len, []⟩
    | _ => none
  | .slen x => match get x with
    | .str s => some ⟨True, [], .int .i64 s.size, []⟩
    | _ => none
  | .app s x esz => match rowsOf hl (get x) with
    | some (po, xe, rd, cx) => match get s with
      | .vec esz' full xs => if cx.isEmpty then some ⟨po, rd, .vec esz' full xs, []⟩ else if full then some ⟨po ∧ 0 < cx.length ∧ xe = esz ∧ (xs = [] ∨ esz' = esz) ∧ 0 < esz ∧ xs.length + cx.length ≤ 68719476736, rd, .own key esz 0 (xs.length + cx.length) false, [(key, some ⟨esz, xs ++ cx, false, false⟩)]⟩ else none
      | .own g esz' off len _ => match hl g with
        | some e => if e.fz || e.bx || esz' != esz then none else
          some ⟨po ∧ (cx = [] ∨ xe = esz) ∧ off + len ≤ e.xs.length ∧ len + cx.length ≤ 68719476736, g.1 :: rd, .own key esz 0 (len + cx.length) false, [(g, none), (key, some ⟨esz, (e.xs.drop off).take len ++ cx, false, false⟩)]⟩
        | none => none
      | _ => none
    | none => none
  | .mkfn f first caps => some ⟨True, [], .fn f (first.map get) (caps.map get), []⟩
  | .cap x => match get x with
    | .vec _ true xs => some ⟨True, [], .int .i64 xs.length, []⟩
    | .own _ _ _ len true => some ⟨True, [], .int .i64 len, []⟩
    | _ => none
  | .appz s n esz z => match get s, get n with
    | .vec _ true [], .int _ k => some ⟨z.length = esz ∧ 0 < esz ∧ 1 ≤ k ∧ k ≤ 1048576, [], .own key esz 0 k.toNat false, [(key, some ⟨esz, List.replicate k.toNat (reify0L (fun _ => none) z), false, false⟩)]⟩
    | _, _ => none
  | .b2s x => match get x with
    | .str _ => none
    | _ => match rowsOf hl (get x) with
      | some (po, _, rd, cx) => match rowsBytes cx with
        | some bs => some ⟨po ∧ cx.length ≤ LIM, rd, .str ⟨bs.toArray⟩, []⟩
        | none => none
      | none => none
  | .iaddrp x i len esz => match get x, get i with
    | .ref cs, .int _ n => some ⟨0 ≤ n ∧ n < len, [], .ref (cs.drop (n.toNat * esz)), []⟩
    | .ptr g e j off, .int _ n => some ⟨0 ≤ n ∧ n < len, [], .ptr g e j (off + n.toNat * esz), []⟩
    | _, _ => none
  | .mksl esz z l c => match get l, get c with
    | .int _ n, .int _ m => some ⟨z.length = esz ∧ 0 < esz ∧ 0 ≤ n ∧ n ≤ m ∧ m ≤ 1048576, [], .own key esz 0 n.toNat (decide (n = m)), [(key, some ⟨esz, List.replicate n.toNat (reify0L (fun _ => none) z), false, false⟩)]⟩
    | _, _ => none
  | .mkif t x => some ⟨True, [], .iface t (get x), []⟩
  | .minmax mx x y => match get x, get y with
    | .int k a, .int k' b => if k = k' then some ⟨True, [], .int k (if mx then (if b > a then b else a) else (if b < a then b else a)), []⟩ else none
    | _, _ => none
  | .call _ _ | .dcall _ _ | .nilcmp _ _ | .bad => none
end Go.Proofs.YtjeegophpmpibaaGreatDoor.Pv

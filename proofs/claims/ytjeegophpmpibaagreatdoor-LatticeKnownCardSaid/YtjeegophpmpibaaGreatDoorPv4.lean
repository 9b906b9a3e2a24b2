/- What a call comes to, said of the contents of its arguments alone; runs of instructions and of M-code over slots and owned blocks; what it is for a machine to be in such a state. No condition. -/
import Derived.Test.YtjeegophpmpibaaGreatDoorPv3
import Derived.Below
import Derived.RowKit3
import Derived.Laws.IdiomCopy
namespace Go.Proofs.YtjeegophpmpibaaGreatDoor.Pv
open Go Go.RowKit

/-- What lay below B is as it was, and no place is frozen that was not. -/
structure Bel (B : Nat) (w w' : World) : Prop where
  below : Below B w w'
  froz : ∀ a, w'.frozen? a = w.frozen? a
theorem Bel.refl (B : Nat) (w : World) : Bel B w w := ⟨Below.refl B w, fun _ => rfl⟩
theorem Bel.trans {B : Nat} {a b c : World} (h : Bel B a b) (k : Bel B b c) : Bel B a c := ⟨h.below.trans k.below, fun x => (k.froz x).trans (h.froz x)⟩
theorem Bel.mono {B B' : Nat} {w w' : World} (h : Bel B w w') (hB : B' ≤ B) : Bel B' w w' := ⟨h.below.mono hB, h.froz⟩
theorem Bel.size {B : Nat} {w w' : World} (h : Bel B w w') : w.heap.size ≤ w'.heap.size := h.below.size
theorem Bel.block {B : Nat} {w w' : World} (h : Bel B w w') : ∀ k, k < B → w'.heap[k]? = w.heap[k]? := h.below.block
theorem Bel.drew {B : Nat} {a w : World} (h : Bel B a w) : Bel B a w.drew := ⟨h.below.drew, fun x => by rw [World.frozen?_drew]; exact h.froz x⟩
theorem Bel.alloc {B : Nat} {a w : World} (h : Bel B a w) (hB : B ≤ w.heap.size) (cs : Array Value) (t : TypeId) : Bel B a (w.alloc (.cells cs t)) := ⟨h.below.alloc hB _, fun x => by rw [frozen?_alloc_cells]; exact h.froz x⟩

/-- The context of a call that owns nothing: only which blocks are written no more. -/
def dctx (F : Nat → Prop) : Ctx := ⟨fun _ => none, fun _ => 0, fun _ => False, F⟩
/-- The context of what a call hands back as its own: one block. -/
def octx (a : Option Addr) (esz : Nat) (F : Nat → Prop) : Ctx := ⟨fun _ => a, fun _ => esz, fun k => k = (0, 0), F⟩

/-- The block that a key stands for, and its rows. -/
def HRep (w : World) (c : Ctx) (k : Key) (e : HE) : Prop :=
  c.U k ∧ e.esz = c.es k ∧ match c.β k with
    | none => e.xs = [] ∧ 0 < e.esz
    | some ad => ad.spot = none ∧ (∃ cs el fr, w.heap[ad.block]? = some (.cells cs el fr) ∧ ad.off + e.xs.length * e.esz ≤ cs.size ∧ ∀ o, o < cs.size → ¬ (fr.1 ≤ o ∧ o < fr.2)) ∧
        RepRows w (if e.bx then c else c.d) e.esz ad.block ad.off e.xs ∧ (c.Fz ad.block ↔ e.fz = true)

/-- WHAT A CALL COMES TO: with whatever values that stand for 'args', in whatever memory, function f returns, nothing that was there has turned, and what it returns stands for r. -/
def Ret (P : Program) (f : FuncId) (args : List PV) (r : PV) : Prop :=
  callable P f = true ∧ ∀ (w : World) (F : Nat → Prop) (vs : List Value), (∀ b, F b → b < w.heap.size) → RepL w (dctx F) args vs →
    Calls P f vs.toArray w fun e w' => ∃ v F', e = .returned v ∧ Bel w.heap.size w w' ∧ (∀ b, F b → F' b) ∧ (∀ b, F' b → b < w'.heap.size ∧ (F b ∨ w.heap.size ≤ b)) ∧ RepV w' (dctx F') r v

/-- The same, the call's result a slice of its own: new memory that nobody else knows. -/
def RetO (P : Program) (f : FuncId) (args : List PV) (esz : Nat) (xs : List (List PV)) : Prop :=
  callable P f = true ∧ ∀ (w : World) (F : Nat → Prop) (vs : List Value), (∀ b, F b → b < w.heap.size) → RepL w (dctx F) args vs →
    Calls P f vs.toArray w fun e w' => ∃ v F' a, e = .returned v ∧ Bel w.heap.size w w' ∧ (∀ b, F b → F' b) ∧ (∀ b, F' b → b < w'.heap.size ∧ (F b ∨ w.heap.size ≤ b)) ∧
      RepV w' (octx a esz F') (.own (0, 0) esz 0 xs.length false) v ∧ HRep w' (octx a esz F') (0, 0) ⟨esz, xs, false, false⟩ ∧ ∀ ad, a = some ad → w.heap.size ≤ ad.block

def callOut (hl : Key → Option HE) (args : List PV) (r : PV) : Out :=
  ⟨okL hl args, tagsOf (keysL hl args), r, if (keysL hl args).isEmpty || scalar r then [] else freezeAll hl (keysL hl args)⟩
def callOutO (hl : Key → Option HE) (args : List PV) (key : Key) (esz : Nat) (xs : List (List PV)) : Out :=
  ⟨okL hl args, tagsOf (keysL hl args), .own key esz 0 xs.length false, (key, some ⟨esz, xs, false, false⟩) :: freezeAll hl (keysL hl args)⟩

def doCall (P : Program) (key : Key) (hl : Key → Option HE) (f : FuncId) (args : List PV) (K : Out → Prop) : Prop :=
  (∃ r, Ret P f (reifyL hl args) r ∧ K (callOut hl args r)) ∨ (∃ esz xs, RetO P f (reifyL hl args) esz xs ∧ K (callOutO hl args key esz xs))

def doOp (P : Program) (key : Key) (get : MO → PV) (hl : Key → Option HE) (i : MI) (K : Out → Prop) : Prop :=
  match i with
  | .call f args => doCall P key hl f (args.map get) K
  | .dcall f args => match get f with
    | .fn fid first caps => doCall P key hl fid (first ++ args.map get ++ caps) K
    | _ => False
  | .nilcmp ne x => match get x with
    | .vec _ _ xs => ∀ b : Bool, (b = true → xs = []) → K ⟨True, [], .bool (b != ne), []⟩
    | .own _ _ _ len _ => ∀ b : Bool, (b = true → len = 0) → K ⟨True, [], .bool (b != ne), []⟩
    | _ => False
  | i => match opSem key get hl i with
    | some o => K o
    | none => False

def St.put (st : St) (d : Option Nat) (o : Out) : St := ⟨match d with | some t => (t, o.r) :: st.s | none => st.s, o.hu ++ st.h⟩
/-- What stands in the slot of an operation that is left out. -/
abbrev skipV : PV := .opt false (.bool false)
def St.skip (st : St) (d : Option Nat) : St := ⟨match d with | some t => (t, skipV) :: st.s | none => st.s, st.h⟩
/-- Is the guarded operation run? -/
def guardC : PV → Bool → Option Bool
  | .bool b, want => some (if want then b else !b)
  | .opt b' (.bool b), want => some (b' && if want then b else !b)
  | _, _ => none
def optOk (gb : Bool) : PV → Prop
  | .opt b' _ => gb = true → b' = true
  | _ => True
def MI.isPick : MI → Bool
  | .pick _ _ _ => true
  | _ => false
/-- What a guarded operation that does no harm sees: a choice sees for itself what was left out. -/
def softGet (i : MI) (get : MO → PV) (x : MO) : PV := if i.isPick then get x else strip (get x)
def optsOk (gb : Bool) (get : MO → PV) : List MO → Prop
  | [] => True
  | x :: xs => optOk gb (get x) ∧ optsOk gb get xs
def softOk (gb : Bool) (get : MO → PV) (i : MI) : Prop := if i.isPick then True else optsOk gb get i.ops

def stepOp (P : Program) (m : MOp) (v : Nat) (st : St) (K : Out → St → Prop) : Prop :=
  match m.g with
  | none => doOp P (m.dst.getD 0, v) st.get (fun k => hk k st.h) m.i fun o => o.pre ∧ K o (st.put m.dst o)
  | some (t, want) => match guardC (lk t st.s) want with
    | none => False
    | some gb =>
      if m.soft then
        doOp P (m.dst.getD 0, v) (softGet m.i st.get) (fun k => hk k st.h) m.i fun o =>
          (gb = true → o.pre) ∧ softOk gb st.get m.i ∧ o.hu = [] ∧ K ⟨True, o.rd, .opt gb o.r, []⟩ (st.put m.dst ⟨True, o.rd, .opt gb o.r, []⟩)
      else (gb = true → doOp P (m.dst.getD 0, v) st.get (fun k => hk k st.h) m.i fun o => o.pre ∧ K o (st.put m.dst o)) ∧
        (gb = false → K ⟨True, [], skipV, []⟩ (st.skip m.dst))

def tagsHu (hu : List (Key × Option HE)) : List Nat := hu.map (·.1.1)
def apartL (a b : List Nat) : Bool := a.all fun x => !b.contains x
/-- Operations that stand in no order: neither writes what the other reads or writes. -/
def okPairs (un : List (Nat × Nat)) (acc : List (List Nat × List Nat)) : Bool :=
  un.all fun p => let x := acc.getD p.1 ([], []); let y := acc.getD p.2 ([], [])
    apartL x.2 y.1 && apartL x.2 y.2 && apartL x.1 y.2
def runD (P : Program) (un : List (Nat × Nat)) (v : Nat) : List MOp → List (List Nat × List Nat) → St → (St → Prop) → Prop
  | [], acc, st, K => okPairs un acc = true ∧ K st
  | m :: ms, acc, st, K => (match m.i with | .nilcmp _ _ => False | _ => True) ∧ stepOp P m v st fun o st' => runD P un v ms (acc ++ [(o.rd, tagsHu o.hu)]) st' K

inductive Ex where
  | normal | exit (id : Nat) | goto (l : Nat) | ret

def Ex.to : Ex → Exit
  | .normal => .normal | .exit id => .exit id | .goto l => .goto l | .ret => .ret

/-- A call that is under way: the world when it began, the blocks that it may read, its number of slots. -/
structure Env where
  P : Program
  w0 : World
  F0 : Nat → Prop
  nt : Nat
  G : List (PV × Value)

structure Good (E : Env) (st : St) (c : Ctx) (a : Act) (w : World) : Prop where
  defers : a.defers = []
  size : a.tmps.size = E.nt
  slot : ∀ t v, a.tmps[t]? = some v → RepV w c (lk t st.s) v
  heap : ∀ k e, hk k st.h = some e → HRep w c k e
  fresh : ∀ k e ad, hk k st.h = some e → c.β k = some ad → E.w0.heap.size ≤ ad.block ∧ ad.block < w.heap.size
  apart : ∀ k k' e e' ad ad', hk k st.h = some e → hk k' st.h = some e' → c.β k = some ad → c.β k' = some ad' → k ≠ k' → ad.block ≠ ad'.block
  fz : ∀ b, c.Fz b → b < w.heap.size ∧ (E.F0 b ∨ E.w0.heap.size ≤ b)
  le : ∀ b, E.F0 b → c.Fz b
  bnd : ∃ N, ∀ k, c.U k → k.2 < N
  below : Bel E.w0.heap.size E.w0 w
  ghost : ∀ p ∈ E.G, RepV w c p.1 p.2

def Rel (E : Env) (st : St) (a : Act) (w : World) : Prop := ∃ c, Good E st c a w

/-- A call that runs in the caller's own memory: what is handed in stays the caller's. -/
def InlCall (E : Env) (f : FuncId) (args : List PV) (d : Option Nat) (st : St) (K : St → Prop) : Prop :=
  callable E.P f = true ∧ ∀ (a : Act) (c : Ctx) (w : World) (vs : List Value), Good E st c a w → RepL w c args vs →
    Calls E.P f vs.toArray w fun e w' => ∃ v, e = .returned v ∧ ∃ st' c', K st' ∧ Good E st' c' (a.put d v) w'
def InlG (E : Env) (g : Option (Nat × Bool)) (f : FuncId) (args : List PV) (d : Option Nat) (st : St) (K : St → Prop) : Prop :=
  match g with
  | none => InlCall E f args d st K
  | some (t, want) => match guardC (lk t st.s) want with
    | some true => InlCall E f args d st K
    | some false => K (st.skip d)
    | none => False
def Inl (E : Env) (m : MOp) (st : St) (K : St → Prop) : Prop :=
  match m.i with
  | .call f args => InlG E m.g f (args.map st.get) m.dst st K
  | .dcall f args => match st.get f with
    | .fn fid first caps => InlG E m.g fid (first ++ args.map st.get ++ caps) m.dst st K
    | _ => False
  | _ => False
def run (E : Env) : List MOp → St → (St → Prop) → Prop
  | [], st, K => K st
  | m :: ms, st, K => (if m.i.allocs then ∀ v, stepOp E.P m v st fun _ st' => run E ms st' K else stepOp E.P m 0 st fun _ st' => run E ms st' K) ∨ Inl E m st fun st' => run E ms st' K

def Goes (E : Env) (m : MC) (st : St) (Q : Ex → St → Prop) : Prop :=
  ∀ c, toMC E.P E.nt c = some m → ∀ a w, Rel E st a w → c.wp E.P (fun e a' w' => ∃ ex st', e = Ex.to ex ∧ Q ex st' ∧ Rel E st' a' w') a w

def exec (E : Env) : MC → St → (Ex → St → Prop) → Prop
  | .skip, st, Q => Q .normal st
  | .reg ms, st, Q => run E ms st (Q .normal)
  | .draw un ms, st, Q => ∀ v, runD E.P un v ms [] st (Q .normal)
  | .seq a b, st, Q => exec E a st fun e st' => match e with | .normal => exec E b st' Q | .exit i => Q (.exit i) st' | .goto l => Q (.goto l) st' | .ret => Q .ret st'
  | .cond c a b, st, Q => match st.get c with
    | .bool x => (x = true → exec E a st Q) ∧ (x = false → exec E b st Q)
    | _ => False
  | .block id a, st, Q => exec E a st fun e st' => match e with | .exit j => if j = id then Q .normal st' else Q (.exit j) st' | .normal => Q .normal st' | .goto l => Q (.goto l) st' | .ret => Q .ret st'
  | .loop a, st, Q => Goes E (.loop a) st Q
  | .exit id, st, Q => Q (.exit id) st
  | .ret, st, Q => Q .ret st
  | .scope a, st, Q => Goes E (.scope a) st Q
  | .label _, st, Q => Q .normal st
  | .goto l, st, Q => Q (.goto l) st
  | .bad, _, _ => False

/-- The state at a call's begin. -/
def St.init (args : List PV) : St := ⟨args.zipIdx.map fun p => (p.2, p.1), []⟩
/-- Where a result stands. -/
inductive RV where
  | tmp (t : Nat)
  | cell (a t n : Nat) (ag : Bool)
def resOne (st : St) : RV → PV
  | .tmp t => lk t st.s
  | .cell a _ n ag => match lk a st.s with
    | .ptr g _ i off => match hk g st.h with
      | some e => mk ag n ((e.xs.getD i []).drop off)
      | none => .undef
    | _ => .undef
def resAll (st : St) : List RV → PV
  | [x] => resOne st x
  | xs => .tup (xs.map (resOne st))
/-- Can the result be read where it stands? -/
def resOk (st : St) : List RV → Prop
  | [] => True
  | .tmp _ :: rs => resOk st rs
  | .cell a _ n ag :: rs => (match lk a st.s with
    | .ptr g _ i off => match hk g st.h with
      | some e => i < e.xs.length ∧ off + n ≤ (e.xs.getD i []).length ∧ (ag = false → n = 1)
      | none => False
    | _ => False) ∧ resOk st rs
def retIs (rs : List RV) (r : PV) : Ex → St → Prop
  | .normal, st | .ret, st => resOk st rs ∧ okV (fun k => hk k st.h) (resAll st rs) ∧ reify (fun k => hk k st.h) (resAll st rs) = r
  | _, _ => False
/-- What is handed back is a slice that the call made, or none. -/
def ownIs (hl : Key → Option HE) (esz : Nat) (xs : List (List PV)) : PV → Prop
  | .own g esz' off len _ => esz' = esz ∧ match hl g with
    | some e => e.fz = false ∧ e.bx = false ∧ off + len ≤ e.xs.length ∧ (e.xs.drop off).take len = xs
    | none => False
  | .vec esz' full ys => esz' = esz ∧ full = true ∧ ys = [] ∧ xs = [] ∧ 0 < esz
  | _ => False
def retOwn (rs : List RV) (esz : Nat) (xs : List (List PV)) : Ex → St → Prop
  | .normal, st | .ret, st => resOk st rs ∧ ownIs (fun k => hk k st.h) esz xs (resAll st rs)
  | _, _ => False
end Go.Proofs.YtjeegophpmpibaaGreatDoor.Pv

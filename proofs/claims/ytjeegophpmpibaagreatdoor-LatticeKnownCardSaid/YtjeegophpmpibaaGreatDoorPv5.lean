/- The run of M-code in a form that simplifies from the front: what is still to be done stands as a list, not as a function. No condition. -/
import Derived.Test.YtjeegophpmpibaaGreatDoorPv4
namespace Go.Proofs.YtjeegophpmpibaaGreatDoor.Pv
open Go

inductive KF where
  | sq (b : MC)
  | bk (id : Nat)

def contF (E : Env) : List KF → (Ex → St → Prop) → Ex → St → Prop
  | [], Q => Q
  | .sq b :: ks, Q => fun e st => match e with | .normal => exec E b st (contF E ks Q) | .exit i => contF E ks Q (.exit i) st | .goto l => contF E ks Q (.goto l) st | .ret => contF E ks Q .ret st
  | .bk id :: ks, Q => fun e st => match e with | .exit j => if j = id then contF E ks Q .normal st else contF E ks Q (.exit j) st | .normal => contF E ks Q .normal st | .goto l => contF E ks Q (.goto l) st | .ret => contF E ks Q .ret st

/-- Code, then what is left. -/
def XC (E : Env) (m : MC) (st : St) (ks : List KF) (Q : Ex → St → Prop) : Prop := exec E m st (contF E ks Q)
/-- Instructions, then what is left. -/
def XR (E : Env) (ms : List MOp) (st : St) (ks : List KF) (Q : Ex → St → Prop) : Prop := run E ms st (contF E ks Q .normal)
/-- An exit, then what is left. -/
def XE (E : Env) (e : Ex) (st : St) (ks : List KF) (Q : Ex → St → Prop) : Prop := contF E ks Q e st
def XLoop (E : Env) (m : MC) (st : St) (ks : List KF) (Q : Ex → St → Prop) : Prop := Goes E m st (contF E ks Q)
def XCond (E : Env) (c : PV) (a b : MC) (st : St) (ks : List KF) (Q : Ex → St → Prop) : Prop :=
  match c with
  | .bool x => (x = true → XC E a st ks Q) ∧ (x = false → XC E b st ks Q)
  | _ => False
def XOp (E : Env) (o : Option Out) (d : Option Nat) (ms : List MOp) (st : St) (ks : List KF) (Q : Ex → St → Prop) : Prop :=
  match o with
  | some o => o.pre ∧ XR E ms (st.put d o) ks Q
  | none => False
/-- A call: its contract, then what is left. -/
def XCall (E : Env) (f : FuncId) (args : List PV) (d : Option Nat) (ms : List MOp) (st : St) (ks : List KF) (Q : Ex → St → Prop) : Prop :=
  (∀ v, doCall E.P (d.getD 0, v) (fun k => hk k st.h) f args fun o => o.pre ∧ XR E ms (st.put d o) ks Q) ∨ InlCall E f args d st fun st' => XR E ms st' ks Q
def XDyn (E : Env) (f : PV) (args : List PV) (d : Option Nat) (ms : List MOp) (st : St) (ks : List KF) (Q : Ex → St → Prop) : Prop :=
  match f with
  | .fn fid first caps => XCall E fid (first ++ args ++ caps) d ms st ks Q
  | _ => False
def XNil (E : Env) (x : PV) (ne : Bool) (d : Option Nat) (ms : List MOp) (st : St) (ks : List KF) (Q : Ex → St → Prop) : Prop :=
  match x with
  | .vec _ _ xs => ∀ b : Bool, (b = true → xs = []) → XR E ms (st.put d ⟨True, [], .bool (b != ne), []⟩) ks Q
  | .own _ _ _ len _ => ∀ b : Bool, (b = true → len = 0) → XR E ms (st.put d ⟨True, [], .bool (b != ne), []⟩) ks Q
  | _ => False
/-- A guarded operation. -/
def XGuard (E : Env) (g : Option Bool) (m : MOp) (ms : List MOp) (st : St) (ks : List KF) (Q : Ex → St → Prop) : Prop :=
  match g with
  | none => False
  | some gb => (gb = true → XR E ({ m with g := none } :: ms) st ks Q) ∧ (gb = false → XR E ms (st.skip m.dst) ks Q)
def XSoft (E : Env) (g : Option Bool) (o : Option Out) (m : MOp) (ms : List MOp) (st : St) (ks : List KF) (Q : Ex → St → Prop) : Prop :=
  match g, o with
  | some gb, some o => (gb = true → o.pre) ∧ softOk gb st.get m.i ∧ o.hu = [] ∧ XR E ms (st.put m.dst ⟨True, o.rd, .opt gb o.r, []⟩) ks Q
  | _, _ => False

/-- Instructions of a region whose order is open. -/
def XD (E : Env) (un : List (Nat × Nat)) (v : Nat) (acc : List (List Nat × List Nat)) (ms : List MOp) (st : St) (ks : List KF) (Q : Ex → St → Prop) : Prop := runD E.P un v ms acc st (contF E ks Q .normal)
def XDOp (E : Env) (un : List (Nat × Nat)) (v : Nat) (acc : List (List Nat × List Nat)) (o : Option Out) (d : Option Nat) (ms : List MOp) (st : St) (ks : List KF) (Q : Ex → St → Prop) : Prop :=
  match o with
  | some o => o.pre ∧ XD E un v (acc ++ [(o.rd, tagsHu o.hu)]) ms (st.put d o) ks Q
  | none => False
def XDCall (E : Env) (un : List (Nat × Nat)) (v : Nat) (acc : List (List Nat × List Nat)) (f : FuncId) (args : List PV) (d : Option Nat) (ms : List MOp) (st : St) (ks : List KF) (Q : Ex → St → Prop) : Prop :=
  doCall E.P (d.getD 0, v) (fun k => hk k st.h) f args fun o => o.pre ∧ XD E un v (acc ++ [(o.rd, tagsHu o.hu)]) ms (st.put d o) ks Q
def XDDyn (E : Env) (un : List (Nat × Nat)) (v : Nat) (acc : List (List Nat × List Nat)) (f : PV) (args : List PV) (d : Option Nat) (ms : List MOp) (st : St) (ks : List KF) (Q : Ex → St → Prop) : Prop :=
  match f with
  | .fn fid first caps => XDCall E un v acc fid (first ++ args ++ caps) d ms st ks Q
  | _ => False
def XDGuard (E : Env) (un : List (Nat × Nat)) (v : Nat) (acc : List (List Nat × List Nat)) (g : Option Bool) (m : MOp) (ms : List MOp) (st : St) (ks : List KF) (Q : Ex → St → Prop) : Prop :=
  match g with
  | none => False
  | some gb => (gb = true → XD E un v acc ({ m with g := none } :: ms) st ks Q) ∧ (gb = false → XD E un v (acc ++ [([], [])]) ms (st.skip m.dst) ks Q)
def XDSoft (E : Env) (un : List (Nat × Nat)) (v : Nat) (acc : List (List Nat × List Nat)) (g : Option Bool) (o : Option Out) (m : MOp) (ms : List MOp) (st : St) (ks : List KF) (Q : Ex → St → Prop) : Prop :=
  match g, o with
  | some gb, some o => (gb = true → o.pre) ∧ softOk gb st.get m.i ∧ o.hu = [] ∧ XD E un v (acc ++ [(o.rd, [])]) ms (st.put m.dst ⟨True, o.rd, .opt gb o.r, []⟩) ks Q
  | _, _ => False

theorem Inl_no {E : Env} {m : MOp} {st : St} {K : St → Prop} (h : m.i.allocs = false) : Inl E m st K = False := by
  unfold Inl
  split
  · rename_i hi; rw [hi] at h; cases h
  · rename_i hi; rw [hi] at h; cases h
  · rfl
section
variable {E : Env} {st : St} {ks : List KF} {Q : Ex → St → Prop}
theorem XC_skip : XC E .skip st ks Q = XE E .normal st ks Q := rfl
theorem XC_reg {ms : List MOp} : XC E (.reg ms) st ks Q = XR E ms st ks Q := rfl
theorem XC_seq {a b : MC} : XC E (.seq a b) st ks Q = XC E a st (.sq b :: ks) Q := by
  show exec E a st _ = exec E a st _
  congr 1
theorem XC_cond {c : MO} {a b : MC} : XC E (.cond c a b) st ks Q = XCond E (st.get c) a b st ks Q := by
  show exec E (.cond c a b) st _ = _
  unfold exec XCond XC
  rfl
theorem XC_block {id : Nat} {a : MC} : XC E (.block id a) st ks Q = XC E a st (.bk id :: ks) Q := by
  show exec E a st _ = exec E a st _
  congr 1
theorem XC_loop {a : MC} : XC E (.loop a) st ks Q = XLoop E (.loop a) st ks Q := rfl
theorem XC_scope {a : MC} : XC E (.scope a) st ks Q = XLoop E (.scope a) st ks Q := rfl
theorem XC_exit {id : Nat} : XC E (.exit id) st ks Q = XE E (.exit id) st ks Q := rfl
theorem XC_goto {id : Nat} : XC E (.goto id) st ks Q = XE E (.goto id) st ks Q := rfl
theorem XC_label {id : Nat} : XC E (.label id) st ks Q = XE E .normal st ks Q := rfl
theorem XC_bad : XC E .bad st ks Q = False := rfl
theorem XC_ret : XC E .ret st ks Q = XE E .ret st ks Q := rfl
theorem XE_nil {e : Ex} : XE E e st [] Q = Q e st := rfl
theorem XE_sq {b : MC} : XE E .normal st (.sq b :: ks) Q = XC E b st ks Q := rfl
theorem XE_sq_exit {b : MC} {id : Nat} : XE E (.exit id) st (.sq b :: ks) Q = XE E (.exit id) st ks Q := rfl
theorem XE_sq_goto {b : MC} {id : Nat} : XE E (.goto id) st (.sq b :: ks) Q = XE E (.goto id) st ks Q := rfl
theorem XE_sq_ret {b : MC} : XE E .ret st (.sq b :: ks) Q = XE E .ret st ks Q := rfl
theorem XE_bk {id : Nat} : XE E .normal st (.bk id :: ks) Q = XE E .normal st ks Q := rfl
theorem XE_bk_exit {id j : Nat} : XE E (.exit j) st (.bk id :: ks) Q = if j = id then XE E .normal st ks Q else XE E (.exit j) st ks Q := rfl
theorem XE_bk_goto {id j : Nat} : XE E (.goto j) st (.bk id :: ks) Q = XE E (.goto j) st ks Q := rfl
theorem XE_bk_ret {id : Nat} : XE E .ret st (.bk id :: ks) Q = XE E .ret st ks Q := rfl
theorem XCond_bool {x : Bool} {a b : MC} : XCond E (.bool x) a b st ks Q = ((x = true → XC E a st ks Q) ∧ (x = false → XC E b st ks Q)) := rfl
theorem XR_nil : XR E [] st ks Q = XE E .normal st ks Q := rfl
theorem XOp_some {p : Prop} {rd : List Nat} {r : PV} {hu : List (Key × Option HE)} {d : Nat} {ms : List MOp} {s : List (Nat × PV)} {h : List (Key × Option HE)} :
    XOp E (some ⟨p, rd, r, hu⟩) (some d) ms ⟨s, h⟩ ks Q = (p ∧ XR E ms ⟨(d, r) :: s, hu ++ h⟩ ks Q) := rfl
theorem XOp_none {p : Prop} {rd : List Nat} {r : PV} {hu : List (Key × Option HE)} {ms : List MOp} {s : List (Nat × PV)} {h : List (Key × Option HE)} :
    XOp E (some ⟨p, rd, r, hu⟩) none ms ⟨s, h⟩ ks Q = (p ∧ XR E ms ⟨s, hu ++ h⟩ ks Q) := rfl

theorem XR_op {d : Option Nat} {i : MI} {b : Bool} {ms : List MOp} (h : match i with | .alloc _ | .box _ | .bslice _ _ _ _ | .app _ _ _ | .mksl _ _ _ _ | .appz _ _ _ _ | .call _ _ | .dcall _ _ | .nilcmp _ _ => False | _ => True) :
    XR E (⟨d, i, none, b⟩ :: ms) st ks Q = XOp E (opSem (d.getD 0, 0) st.get (fun k => hk k st.h) i) d ms st ks Q := by
  cases i <;> first | exact h.elim | (simp only [XR, run, MI.allocs, stepOp, doOp, XOp, Inl, or_false]; rfl)
theorem XR_alloc {d : Option Nat} {i : MI} {b : Bool} {ms : List MOp} (h : match i with | .alloc _ | .box _ | .bslice _ _ _ _ | .app _ _ _ | .mksl _ _ _ _ | .appz _ _ _ _ => True | _ => False) :
    XR E (⟨d, i, none, b⟩ :: ms) st ks Q = ∀ v, XOp E (opSem (d.getD 0, v) st.get (fun k => hk k st.h) i) d ms st ks Q := by
  cases i <;> first | exact h.elim | (simp only [XR, run, MI.allocs, stepOp, doOp, XOp, Inl, or_false]; rfl)
theorem XR_call {d : Option Nat} {f : FuncId} {args : List MO} {b : Bool} {ms : List MOp} :
    XR E (⟨d, .call f args, none, b⟩ :: ms) st ks Q = XCall E f (args.map st.get) d ms st ks Q := by
  simp only [XR, run, MI.allocs, stepOp, doOp, XCall, Inl, InlG]; rfl
theorem XR_dcall {d : Option Nat} {f : MO} {args : List MO} {b : Bool} {ms : List MOp} :
    XR E (⟨d, .dcall f args, none, b⟩ :: ms) st ks Q = XDyn E (st.get f) (args.map st.get) d ms st ks Q := by
  simp only [XR, run, MI.allocs, stepOp, doOp, XDyn, if_true, Inl, InlG]
  cases st.get f <;> simp <;> rfl
theorem XR_nilcmp {d : Option Nat} {ne : Bool} {x : MO} {b : Bool} {ms : List MOp} :
    XR E (⟨d, .nilcmp ne x, none, b⟩ :: ms) st ks Q = XNil E (st.get x) ne d ms st ks Q := by
  simp only [XR, run, MI.allocs, stepOp, doOp, XNil, Inl, or_false]
  cases st.get x <;> simp <;> rfl
theorem XR_guard {d : Option Nat} {i : MI} {t : Nat} {want : Bool} {ms : List MOp} (h : i.allocs = false) :
    XR E (⟨d, i, some (t, want), false⟩ :: ms) st ks Q = XGuard E (guardC (lk t st.s) want) ⟨d, i, none, false⟩ ms st ks Q := by
  simp only [XR, run, h, stepOp, XGuard, Inl_no (m := ⟨d, i, some (t, want), false⟩) h, Inl_no (m := ⟨d, i, none, false⟩) h, or_false]
  cases guardC (lk t st.s) want <;> simp
theorem XR_guard' {d : Option Nat} {i : MI} {t : Nat} {want gb : Bool} {ms : List MOp} (h : i.allocs = true) (hg : guardC (lk t st.s) want = some gb) (h1 : gb = true → XR E (⟨d, i, none, false⟩ :: ms) st ks Q) (h2 : gb = false → XR E ms (st.skip d) ks Q) :
    XR E (⟨d, i, some (t, want), false⟩ :: ms) st ks Q := by
  simp only [XR, run, h, if_true, stepOp, hg] at h1 ⊢
  cases gb with
  | false =>
    left
    intro v
    exact ⟨fun x => (by cases x), fun _ => h2 rfl⟩
  | true =>
    rcases h1 rfl with h1 | h1
    · left
      intro v
      exact ⟨fun _ => h1 v, fun x => (by cases x)⟩
    · right
      cases i with
      | call f args =>
        simp only [Inl, InlG, hg] at h1 ⊢
        exact h1
      | dcall f args =>
        simp only [Inl] at h1 ⊢
        cases hf : st.get f with
        | fn fid first caps =>
          simp only [hf, InlG, hg] at h1 ⊢
          exact h1
        | _ => simp only [hf] at h1
      | _ => exact h1.elim
theorem XR_soft {d : Option Nat} {i : MI} {t : Nat} {want : Bool} {ms : List MOp} (h : match i with | .alloc _ | .box _ | .bslice _ _ _ _ | .app _ _ _ | .mksl _ _ _ _ | .appz _ _ _ _ | .call _ _ | .dcall _ _ | .nilcmp _ _ => False | _ => True) :
    XR E (⟨d, i, some (t, want), true⟩ :: ms) st ks Q = XSoft E (guardC (lk t st.s) want) (opSem (d.getD 0, 0) (softGet i st.get) (fun k => hk k st.h) i) ⟨d, i, none, true⟩ ms st ks Q := by
  have ha : i.allocs = false := by cases i <;> first | exact h.elim | rfl
  simp only [XR, run, ha, stepOp, XSoft, Inl_no (m := ⟨d, i, some (t, want), true⟩) ha, or_false]
  cases guardC (lk t st.s) want with
  | none => simp
  | some gb =>
    cases i <;> first | exact h.elim | (simp only [doOp]; generalize opSem _ _ _ _ = o; cases o <;> simp)

variable {un : List (Nat × Nat)} {v : Nat} {acc : List (List Nat × List Nat)}
theorem XC_draw {ms : List MOp} : XC E (.draw un ms) st ks Q = ∀ v, XD E un v [] ms st ks Q := rfl
theorem XD_nil : XD E un v acc [] st ks Q = (okPairs un acc = true ∧ XE E .normal st ks Q) := rfl
theorem XDOp_some {p : Prop} {rd : List Nat} {r : PV} {hu : List (Key × Option HE)} {d : Nat} {ms : List MOp} {s : List (Nat × PV)} {h : List (Key × Option HE)} :
    XDOp E un v acc (some ⟨p, rd, r, hu⟩) (some d) ms ⟨s, h⟩ ks Q = (p ∧ XD E un v (acc ++ [(rd, tagsHu hu)]) ms ⟨(d, r) :: s, hu ++ h⟩ ks Q) := rfl
theorem XDOp_none {p : Prop} {rd : List Nat} {r : PV} {hu : List (Key × Option HE)} {ms : List MOp} {s : List (Nat × PV)} {h : List (Key × Option HE)} :
    XDOp E un v acc (some ⟨p, rd, r, hu⟩) none ms ⟨s, h⟩ ks Q = (p ∧ XD E un v (acc ++ [(rd, tagsHu hu)]) ms ⟨s, hu ++ h⟩ ks Q) := rfl
theorem XD_op {d : Option Nat} {i : MI} {b : Bool} {ms : List MOp} (h : match i with | .call _ _ | .dcall _ _ | .nilcmp _ _ => False | _ => True) :
    XD E un v acc (⟨d, i, none, b⟩ :: ms) st ks Q = XDOp E un v acc (opSem (d.getD 0, v) st.get (fun k => hk k st.h) i) d ms st ks Q := by
  cases i <;> first | exact h.elim | (simp only [XD, runD, stepOp, doOp, XDOp, true_and]; rfl)
theorem XD_call {d : Option Nat} {f : FuncId} {args : List MO} {b : Bool} {ms : List MOp} :
    XD E un v acc (⟨d, .call f args, none, b⟩ :: ms) st ks Q = XDCall E un v acc f (args.map st.get) d ms st ks Q := by
  simp only [XD, runD, stepOp, doOp, XDCall, true_and]
theorem XD_dcall {d : Option Nat} {f : MO} {args : List MO} {b : Bool} {ms : List MOp} :
    XD E un v acc (⟨d, .dcall f args, none, b⟩ :: ms) st ks Q = XDDyn E un v acc (st.get f) (args.map st.get) d ms st ks Q := by
  simp only [XD, runD, stepOp, doOp, XDDyn, true_and]
  cases st.get f <;> simp <;> rfl
theorem XD_guard {d : Option Nat} {i : MI} {t : Nat} {want : Bool} {ms : List MOp} (h : match i with | .nilcmp _ _ => False | _ => True) :
    XD E un v acc (⟨d, i, some (t, want), false⟩ :: ms) st ks Q = XDGuard E un v acc (guardC (lk t st.s) want) ⟨d, i, none, false⟩ ms st ks Q := by
  simp only [XD, runD, stepOp, XDGuard]
  cases i <;> first | exact h.elim | (cases guardC (lk t st.s) want <;> simp [tagsHu])
theorem XD_soft {d : Option Nat} {i : MI} {t : Nat} {want : Bool} {ms : List MOp} (h : match i with | .alloc _ | .box _ | .bslice _ _ _ _ | .app _ _ _ | .mksl _ _ _ _ | .appz _ _ _ _ | .call _ _ | .dcall _ _ | .nilcmp _ _ => False | _ => True) :
    XD E un v acc (⟨d, i, some (t, want), true⟩ :: ms) st ks Q = XDSoft E un v acc (guardC (lk t st.s) want) (opSem (d.getD 0, v) (softGet i st.get) (fun k => hk k st.h) i) ⟨d, i, none, true⟩ ms st ks Q := by
  simp only [XD, runD, stepOp, XDSoft]
  cases guardC (lk t st.s) want with
  | none => simp
  | some gb =>
    cases i <;> first | exact h.elim | (simp only [doOp]; generalize opSem _ _ _ _ = o; cases o <;> simp [tagsHu])
end

section
variable {E : Env} {st st' : St} {ks : List KF} {Q : Ex → St → Prop} {un : List (Nat × Nat)} {v : Nat} {acc : List (List Nat × List Nat)}
@[congr] theorem XC_congr {m : MC} (h : st = st') : XC E m st ks Q = XC E m st' ks Q := by rw [h]
@[congr] theorem XR_congr {ms : List MOp} (h : st = st') : XR E ms st ks Q = XR E ms st' ks Q := by rw [h]
@[congr] theorem XE_congr {e : Ex} (h : st = st') : XE E e st ks Q = XE E e st' ks Q := by rw [h]
@[congr] theorem XLoop_congr {m : MC} (h : st = st') : XLoop E m st ks Q = XLoop E m st' ks Q := by rw [h]
@[congr] theorem XCond_congr {c c' : PV} {a b : MC} (hc : c = c') (h : st = st') : XCond E c a b st ks Q = XCond E c' a b st' ks Q := by rw [hc, h]
@[congr] theorem XOp_congr {o o' : Option Out} {d : Option Nat} {ms : List MOp} (ho : o = o') (h : st = st') : XOp E o d ms st ks Q = XOp E o' d ms st' ks Q := by rw [ho, h]
@[congr] theorem XCall_congr {f : FuncId} {args args' : List PV} {d : Option Nat} {ms : List MOp} (ho : args = args') (h : st = st') : XCall E f args d ms st ks Q = XCall E f args' d ms st' ks Q := by rw [ho, h]
@[congr] theorem XDyn_congr {f f' : PV} {args args' : List PV} {d : Option Nat} {ms : List MOp} (hf : f = f') (ho : args = args') (h : st = st') : XDyn E f args d ms st ks Q = XDyn E f' args' d ms st' ks Q := by rw [ho, h, hf]
@[congr] theorem XNil_congr {x x' : PV} {ne : Bool} {d : Option Nat} {ms : List MOp} (ho : x = x') (h : st = st') : XNil E x ne d ms st ks Q = XNil E x' ne d ms st' ks Q := by rw [ho, h]
@[congr] theorem XGuard_congr {g g' : Option Bool} {m : MOp} {ms : List MOp} (ho : g = g') (h : st = st') : XGuard E g m ms st ks Q = XGuard E g' m ms st' ks Q := by rw [ho, h]
@[congr] theorem XSoft_congr {g g' : Option Bool} {o o' : Option Out} {m : MOp} {ms : List MOp} (hg : g = g') (ho : o = o') (h : st = st') : XSoft E g o m ms st ks Q = XSoft E g' o' m ms st' ks Q := by rw [hg, ho, h]
@[congr] theorem XD_congr {ms : List MOp} {acc' : List (List Nat × List Nat)} (ha : acc = acc') (h : st = st') : XD E un v acc ms st ks Q = XD E un v acc' ms st' ks Q := by rw [h, ha]
@[congr] theorem XDOp_congr {o o' : Option Out} {d : Option Nat} {ms : List MOp} {acc' : List (List Nat × List Nat)} (ha : acc = acc') (ho : o = o') (h : st = st') : XDOp E un v acc o d ms st ks Q = XDOp E un v acc' o' d ms st' ks Q := by rw [ho, h, ha]
@[congr] theorem XDCall_congr {f : FuncId} {args args' : List PV} {d : Option Nat} {ms : List MOp} {acc' : List (List Nat × List Nat)} (ha : acc = acc') (ho : args = args') (h : st = st') : XDCall E un v acc f args d ms st ks Q = XDCall E un v acc' f args' d ms st' ks Q := by rw [ho, h, ha]
@[congr] theorem XDDyn_congr {f f' : PV} {args args' : List PV} {d : Option Nat} {ms : List MOp} {acc' : List (List Nat × List Nat)} (ha : acc = acc') (hf : f = f') (ho : args = args') (h : st = st') : XDDyn E un v acc f args d ms st ks Q = XDDyn E un v acc' f' args' d ms st' ks Q := by rw [ho, h, hf, ha]
@[congr] theorem XDGuard_congr {g g' : Option Bool} {m : MOp} {ms : List MOp} {acc' : List (List Nat × List Nat)} (ha : acc = acc') (ho : g = g') (h : st = st') : XDGuard E un v acc g m ms st ks Q = XDGuard E un v acc' g' m ms st' ks Q := by rw [ho, h, ha]
@[congr] theorem XDSoft_congr {g g' : Option Bool} {o o' : Option Out} {m : MOp} {ms : List MOp} {acc' : List (List Nat × List Nat)} (ha : acc = acc') (hg : g = g') (ho : o = o') (h : st = st') : XDSoft E un v acc g o m ms st ks Q = XDSoft E un v acc' g' o' m ms st' ks Q := by rw [hg, ho, h, ha]
end
end Go.Proofs.YtjeegophpmpibaaGreatDoor.Pv

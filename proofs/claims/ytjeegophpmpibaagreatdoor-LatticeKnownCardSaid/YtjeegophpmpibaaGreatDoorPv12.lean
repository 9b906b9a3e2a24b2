/- Every instruction does what it says; calls. No condition. -/
import Derived.Test.YtjeegophpmpibaaGreatDoorPv11
set_option linter.unusedSimpArgs false
set_option linter.unusedVariables false
namespace Go.Proofs.YtjeegophpmpibaaGreatDoor.Pv
open Go Go.RowKit
section
variable {E : Env} {h : List (Key × Option HE)} {c : Ctx} {w : World} {ev : Operand → Value} {get : MO → PV} {o : Oper} {i : MI} {key : Key} {out : Out}

theorem op_does (hi : toI E.P E.nt o = some i) (hg : HGood E h c w) (hkey : ¬ c.U key) (hop : Opnd E c w ev get i)
    (hs : opSem key get (fun k => hk k h) i = some out) (hp : out.pre) : Does E h c w ev o key out := by
  cases ho : o.op with
  | move x => exact does_mv x (.inl ho) hi hg hop hs hp
  | assign x => exact does_mv x (.inr ho) hi hg hop hs hp
  | pick a b d => exact does_pick a b d ho hi hg hop hs hp
  | alloc t => exact does_alloc t ho hi hg hkey hs hp
  | box t x => exact does_box t x ho hi hg hkey hop hs hp
  | build t ps => exact does_build t ps ho hi hg hop hs hp
  | buildSlice t n ps => exact does_bslice t n ps ho hi hg hkey hop hs hp
  | load t x => exact does_load t x ho hi hg hop hs hp
  | store t x y => exact does_store t x y ho hi hg hop hs hp
  | nilCheck x => exact does_nilck x ho hi hg hop hs hp
  | binOp op t x y u =>
    cases hn : isNilCmp E.P t y with
    | false => exact does_bin op t u x y ho hn hi hg hop hs hp
    | true =>
      simp only [toI, ho, hn, if_true] at hi
      split at hi
      · obtain ⟨m, _, rfl⟩ := Option.map_eq_some_iff.1 hi
        simp [opSem] at hs
      · obtain ⟨m, _, rfl⟩ := Option.map_eq_some_iff.1 hi
        simp [opSem] at hs
      · cases hi
  | unOp op t x => exact does_un op t x ho hi hg hop hs hp
  | convert s d x =>
    cases i with
    | b2s m => exact does_b2s s d x m ho hi hg hop hs hp
    | _ => exact does_conv s d x ho (fun y => by simp) hi hg hop hs hp
  | fieldAddr s x f => exact does_faddr s x f ho hi hg hop hs hp
  | field s x f => exact does_field s x f ho hi hg hop hs hp
  | indexAddr t x y => exact does_iaddr t x y ho hi hg hop hs hp
  | index t x y => exact does_idx t x y ho hi hg hop hs hp
  | slice t x lo hi' mx => exact does_slc t x lo hi' mx ho hi hg hop hs hp
  | makeSlice t l c => exact does_mksl t l c ho hi hg hkey hop hs hp
  | extract x n => exact does_ext x n ho hi hg hop hs hp
  | makeInterface t x => exact does_mkif t x ho hi hg hop hs hp
  | makeFunc f a b =>
    cases f with
    | func f => exact does_mkfn f a b ho hi hg hop hs hp
    | _ => simp [toI, ho] at hi
  | call cl =>
    cases hcl : cl.callee with
    | value f =>
      simp only [toI, ho, hcl] at hi
      cases f with
      | func f =>
        simp only at hi
        split at hi
        · obtain ⟨m, _, rfl⟩ := Option.map_eq_some_iff.1 hi
          simp [opSem] at hs
        · cases hi
      | tmp t =>
        simp only at hi
        split at hi
        · obtain ⟨m, _, rfl⟩ := Option.map_eq_some_iff.1 hi
          simp [opSem] at hs
        · cases hi
      | _ => simp at hi
    | invoke r m => simp [toI, ho, hcl] at hi
    | builtin b =>
      cases b with
      | append => exact does_app cl ho hcl hi hg hkey hop hs hp
      | cap => exact does_cap cl ho hcl hi hg hop hs hp
      | len => exact does_len 0 (.tmp 0) cl ho hcl hi hg hop hs hp
      | max => exact does_minmax true cl ho hcl hi hg hop hs hp
      | min => exact does_minmax false cl ho hcl hi hg hop hs hp
      | _ => simp [toI, ho, hcl] at hi
  | _ => simp [toI, ho] at hi

/-! Which operations come to calls and to comparisons with nil -/
theorem toI_nil {ne : Bool} {x : MO} (hi : toI E.P E.nt o = some (.nilcmp ne x)) :
    ∃ op t y z u, o.op = .binOp op t y z u ∧ isNilCmp E.P t z = true ∧ ((op = .eql ∧ ne = false) ∨ (op = .neq ∧ ne = true)) ∧ toO E.P E.nt t y = some x := by
  cases ho : o.op with
  | binOp op t y z u =>
    simp only [toI, ho] at hi
    split at hi
    · rename_i hn
      refine ⟨op, t, y, z, u, rfl, hn, ?_⟩
      cases op <;> simp at hi
      · obtain ⟨h1, h2⟩ := hi; exact ⟨.inl ⟨rfl, h2⟩, h1⟩
      · obtain ⟨h1, h2⟩ := hi; exact ⟨.inr ⟨rfl, h2⟩, h1⟩
    · split at hi <;> simp at hi
  | makeFunc f a b =>
    cases f <;> simp only [toI, ho] at hi
    all_goals (first | (cases hi; done) | skip)
    all_goals (repeat' split at hi)
    all_goals (first | (cases hi; done) | (simp at hi; done))
  | _ =>
    simp only [toI, ho] at hi
    repeat' split at hi
    all_goals (first | (cases hi; done) | (simp at hi; done) | (simp at hi; exact absurd hi.2 (by simp)))
theorem toI_call {f : FuncId} {args : List MO} (hi : toI E.P E.nt o = some (.call f args)) :
    ∃ cl, o.op = .call cl ∧ cl.callee = .value (.func f) ∧ callable E.P f = true ∧ toOs E.P E.nt cl.argTypes.toList cl.args.toList = some args := by
  cases ho : o.op with
  | call cl =>
    refine ⟨cl, rfl, ?_⟩
    simp only [toI, ho] at hi
    repeat' split at hi
    all_goals first
      | (cases hi; done)
      | (simp at hi; done)
      | (rename_i h1 h2
         simp only [Option.map_eq_some_iff, MI.call.injEq] at hi
         obtain ⟨a, h3, rfl, rfl⟩ := hi
         exact ⟨h1, h2, h3⟩)
  | makeFunc f a b =>
    cases f <;> simp only [toI, ho] at hi
    all_goals (first | (cases hi; done) | skip)
    all_goals (repeat' split at hi)
    all_goals (first | (cases hi; done) | (simp at hi; done))
  | _ =>
    simp only [toI, ho] at hi
    repeat' split at hi
    all_goals (first | (cases hi; done) | (simp at hi; done))
theorem toI_dcall {f : MO} {args : List MO} (hi : toI E.P E.nt o = some (.dcall f args)) :
    ∃ cl t, o.op = .call cl ∧ cl.callee = .value (.tmp t) ∧ t < E.nt ∧ f = .t t ∧ toOs E.P E.nt cl.argTypes.toList cl.args.toList = some args := by
  cases ho : o.op with
  | call cl =>
    refine ⟨cl, ?_⟩
    simp only [toI, ho] at hi
    repeat' split at hi
    all_goals first
      | (cases hi; done)
      | (simp at hi; done)
      | (rename_i t h1 h2
         simp only [Option.map_eq_some_iff, MI.dcall.injEq] at hi
         obtain ⟨a, h3, rfl, rfl⟩ := hi
         exact ⟨t, rfl, h1, h2, rfl, h3⟩)
  | makeFunc f a b =>
    cases f <;> simp only [toI, ho] at hi
    all_goals (first | (cases hi; done) | skip)
    all_goals (repeat' split at hi)
    all_goals (first | (cases hi; done) | (simp at hi; done))
  | _ =>
    simp only [toI, ho] at hi
    repeat' split at hi
    all_goals (first | (cases hi; done) | (simp at hi; done))

/-! Slices held against nil -/
theorem equal_slice {P : Program} {t e : TypeId} (hu : P.underlying t = some (.slice e)) (a : Option Addr) (n k : Nat) : (Op.equal t (.slice a n k) (.slice none 0 0)).run P w = .ok a.isNone w := by
  have key : ∀ d : Nat, (Op.equalIn (d + 1) t (.slice a n k) (.slice none 0 0)).run P w = .ok a.isNone w := fun d => by
    unfold Op.equalIn
    simp only [Sem.run_bind, run_underlying hu, Result.andThen_ok]
    cases a <;> rfl
  exact key 9999
theorem eqGuard_slice (op : BinOp) (t : TypeId) (x y : Operand) (a b : Option Addr) (n k m l : Nat) : (eqGuard op t x y (.slice a n k) (.slice b m l)).run E.P w = .ok () w := by
  unfold eqGuard; cases op <;> rfl
theorem nil_does {ne : Bool} {x : MO} (hi : toI E.P E.nt o = some (.nilcmp ne x)) (hev : ∀ v, ev (.const v) = v) (hop : Opnd E c w ev get (.nilcmp ne x)) :
    (∀ esz full xs, get x = .vec esz full xs → ∃ b : Bool, (b = true → xs = []) ∧ (execOp ev o).run E.P w = .ok (.value (.bool (b != ne))) w) ∧
    (∀ g esz off len full, get x = .own g esz off len full → ∃ b : Bool, (b = true → len = 0) ∧ (execOp ev o).run E.P w = .ok (.value (.bool (b != ne))) w) := by
  obtain ⟨op, t, y, z, u, ho, hn, hne, hx⟩ := toI_nil hi
  have hr := hop t y x hx (by simp [MI.ops])
  simp only [isNilCmp, Bool.and_eq_true] at hn
  obtain ⟨n1, n2⟩ := hn
  obtain ⟨e, hu⟩ : ∃ e, E.P.underlying t = some (.slice e) := by
    split at n2
    · rename_i e he; exact ⟨e, he⟩
    · cases n2
  have hz : ev z = .slice none 0 0 := by
    unfold isNilC at n1
    split at n1
    · exact hev _
    · cases n1
  have hrun : ∀ (a : Option Addr) (n k : Nat), ev y = .slice a n k → (execOp ev o).run E.P w = .ok (.value (.bool (a.isNone != ne))) w := fun a n k hy => by
    rcases hne with ⟨rfl, rfl⟩ | ⟨rfl, rfl⟩
    · have : (binOp .eql t (.slice a n k) (.slice none 0 0)).run E.P w = .ok (.bool a.isNone) w := by
        show ((Op.equal t (.slice a n k) (.slice none 0 0)) >>= fun r => pure (Value.bool r)).run E.P w = _
        rw [Sem.run_bind, equal_slice hu]; rfl
      simp [execOp, ho, hy, hz, eqGuard_slice, this]
    · have : (binOp .neq t (.slice a n k) (.slice none 0 0)).run E.P w = .ok (.bool (!a.isNone)) w := by
        show ((Op.equal t (.slice a n k) (.slice none 0 0)) >>= fun r => pure (Value.bool (!r))).run E.P w = _
        rw [Sem.run_bind, equal_slice hu]; rfl
      simp [execOp, ho, hy, hz, eqGuard_slice, this]
  refine ⟨fun esz full xs hg => ?_, fun g esz off len full hg => ?_⟩
  · rw [hg] at hr
    obtain ⟨a, cap, q1, q2, q3, q4, q5, q6⟩ := hr
    refine ⟨a.isNone, fun hb => ?_, hrun a _ _ q1⟩
    rcases q6 with q6 | ⟨ad, q6, _⟩
    · exact q6
    · rw [q6] at hb; cases hb
  · rw [hg] at hr
    obtain ⟨_, _, _, a, cap, q1, q2, q3, q4, q5, q6⟩ := hr
    refine ⟨a.isNone, fun hb => ?_, hrun a _ _ q1⟩
    split at q6
    · exact q6.1
    · rcases q6 with q6 | ⟨q6, _⟩
      · omega
      · rw [q6] at hb; cases hb

/-! Calls -/
theorem run_call {P : Program} {cl : Call} (ho : o.op = .call cl) {g : Operand} (hcl : cl.callee = .value g) {f : FuncId} {a b : Array Value} (hg : ev g = .func (.func f) a b) (hc : callable P f = true) :
    (execOp ev o).run P w = .ok (.enter f (a ++ cl.args.map ev ++ b)) w := by
  unfold callable at hc
  split at hc
  · rename_i fn hf
    simp only [Bool.and_eq_true, bne_iff_ne, ne_eq] at hc
    obtain ⟨h1, h2⟩ := hc
    have h3 : fn.body.isNone = false := by cases hb : fn.body <;> simp_all
    simp [execOp, ho, resolve, hcl, hg, Deferred.ofValue, invoke, callFunc, hf, h2, h3]
    intro hn
    simp [hn] at h1
  · cases hc
end
end Go.Proofs.YtjeegophpmpibaaGreatDoor.Pv

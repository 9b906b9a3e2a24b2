/- More instructions that leave memory alone. No condition. -/
import Derived.Test.YtjeegophpmpibaaGreatDoorPv6
set_option linter.unusedSimpArgs false
set_option linter.unusedVariables false
namespace Go.Proofs.YtjeegophpmpibaaGreatDoor.Pv
open Go Go.RowKit
section
variable {E : Env} {h : List (Key × Option HE)} {c : Ctx} {w : World} {ev : Operand → Value} {get : MO → PV} {o : Oper} {i : MI} {key : Key} {out : Out}

theorem does_load (t : TypeId) (x : Operand) (ho : o.op = .load t x) (hi : toI E.P E.nt o = some i) (hg : HGood E h c w) (hop : Opnd E c w ev get i)
    (hs : opSem key get (fun k => hk k h) i = some out) (hp : out.pre) : Does E h c w ev o key out := by
  simp only [toI, ho] at hi
  split at hi
  · cases hi
  · rename_i hz
    obtain ⟨inf, d, h1, h2, h3⟩ := info_okT hz
    obtain ⟨m, hm, rfl⟩ := Option.map_eq_some_iff.1 hi
    have hr := hop _ x m hm (by simp [MI.ops])
    simp only [opSem] at hs
    split at hs
    · rename_i cs hx
      rw [hx] at hr
      simp only [Option.some.injEq] at hs
      subst hs
      obtain ⟨ad, e, e1, e2, e3⟩ := hr
      rw [addr_of e1] at e
      obtain ⟨v, q1, q2, _⟩ := load_at h1 h2 e3.und (by rw [← h3]; exact hp.1) (by rw [← h3]; exact hp.2)
      exact Does.same (v := v) (by simp [execOp, ho, e, Instr.loadAt, Instr.sureAddr, q1]) rfl hg (by rw [h3]; exact q2)
    · rename_i g esz k off hx
      rw [hx] at hr
      split at hs
      · rename_i e he
        simp only [Option.some.injEq] at hs
        subst hs
        obtain ⟨g1, g2, ad, g3, g4⟩ := hr
        obtain ⟨p1, p2, p3⟩ := hp
        have hh := hg.heap g e he
        obtain ⟨ad', q1, q2, q3, q4, q5⟩ := hh.block (by omega)
        rw [g3] at q1
        obtain rfl := Option.some.inj q1
        obtain ⟨_, r2⟩ := RepRows.get k (e.xs.getD k []) q4.und' (by simp [List.getD, List.getElem?_eq_getElem p1])
        have r3 := RepAt.drop off r2
        obtain ⟨v, s1, s2, _⟩ := load_at h1 h2 r3 (by rw [← h3]; simp only [List.length_drop]; omega) (by rw [← h3]; exact p3)
        have e1 : esz = e.esz := by rw [g2, hh.2.1]
        exact Does.same (v := v) (by simp [execOp, ho, g4, Instr.loadAt, Instr.sureAddr, e1, s1]) rfl hg (by rw [h3]; exact s2)
      · cases hs
    · cases hs

theorem does_len (t : TypeId) (x : Operand) (cl : Call) (ho : o.op = .call cl) (hcl : cl.callee = .builtin .len) (hi : toI E.P E.nt o = some i) (hg : HGood E h c w) (hop : Opnd E c w ev get i)
    (hs : opSem key get (fun k => hk k h) i = some out) (hp : out.pre) : Does E h c w ev o key out := by
  simp only [toI, ho, hcl] at hi
  split at hi
  · rename_i t x ht hx
    have ea : cl.args = #[x] := by rw [← Array.toArray_toList (xs := cl.args), hx]
    have et : cl.argTypes = #[t] := by rw [← Array.toArray_toList (xs := cl.argTypes), ht]
    split at hi
    · rename_i e hte
      obtain ⟨m, hm, rfl⟩ := Option.map_eq_some_iff.1 hi
      have hr := hop _ x m hm (by simp [MI.ops])
      simp only [opSem] at hs
      split at hs
      · rename_i xs hx
        rw [hx] at hr
        simp only [Option.some.injEq] at hs
        subst hs
        obtain ⟨a, cap, q1, q2, q3, _⟩ := hr
        refine Does.same (v := .int .i64 xs.length) (by simp [execOp, ho, resolve, hcl, invoke, builtin, ea, et, Builtin.len_, run_underlying hte, q1, goInt]) rfl hg ⟨rfl, ?_⟩
        simp [IntKind.min, IntKind.max, IntKind.signed, IntKind.bits]; omega
      · rename_i g es off len full hx
        rw [hx] at hr
        simp only [Option.some.injEq] at hs
        subst hs
        obtain ⟨_, _, _, a, cap, q1, q2, q3, _⟩ := hr
        refine Does.same (v := .int .i64 len) (by simp [execOp, ho, resolve, hcl, invoke, builtin, ea, et, Builtin.len_, run_underlying hte, q1, goInt]) rfl hg ⟨rfl, ?_⟩
        simp [IntKind.min, IntKind.max, IntKind.signed, IntKind.bits]; omega
      · cases hs
    · rename_i hte
      obtain ⟨m, hm, rfl⟩ := Option.map_eq_some_iff.1 hi
      have hr := hop _ x m hm (by simp [MI.ops])
      simp only [opSem] at hs
      split at hs
      · rename_i s hx
        rw [hx] at hr
        simp only [Option.some.injEq] at hs
        subst hs
        obtain ⟨q1, q2⟩ := hr
        refine Does.same (v := .int .i64 s.size) (by simp [execOp, ho, resolve, hcl, invoke, builtin, ea, et, Builtin.len_, run_underlying hte, q1, goInt]) rfl hg ⟨rfl, ?_⟩
        simp [IntKind.min, IntKind.max, IntKind.signed, IntKind.bits]; unfold LIM at q2; omega
      · cases hs
    · cases hi
  · cases hi

theorem eqGuard_int (op : BinOp) (t : TypeId) (x y : Operand) (k k' : IntKind) (a b : Int) : (eqGuard op t x y (.int k a) (.int k' b)).run E.P w = .ok () w := by
  unfold eqGuard; cases op <;> rfl
theorem eqGuard_str (op : BinOp) (t : TypeId) (x y : Operand) (a b : ByteArray) : (eqGuard op t x y (.string a) (.string b)).run E.P w = .ok () w := by
  unfold eqGuard; cases op <;> rfl
theorem eqGuard_bool (op : BinOp) (t : TypeId) (x y : Operand) (a b : Bool) : (eqGuard op t x y (.bool a) (.bool b)).run E.P w = .ok () w := by
  unfold eqGuard; cases op <;> rfl

theorem binInt_ok (op : BinOp) (cls : Nat) (k k' : IntKind) (a b : Int) (p : Prop) (r : PV) (hs : binSem op cls (.int k a) (.int k' b) = some (p, r)) (hp : p) (ha : k.min ≤ a ∧ a ≤ k.max) (t : TypeId) :
    ∃ v, (binOp op t (.int k a) (.int k' b)).run E.P w = .ok v w ∧ RepV w c r v := by
  by_cases hk : k = k'
  · subst hk
    cases op <;> simp only [binSem, ne_eq, not_true_eq_false, if_false, Option.some.injEq, Prod.mk.injEq, reduceCtorEq] at hs
    all_goals first
      | (obtain ⟨rfl, rfl⟩ := hs
         first
         | (refine ⟨.int k (k.wrap (a + b)), by simp [binOp, Op.intArith], rfl, wrap_ok _ _⟩; done)
         | (refine ⟨.int k (k.wrap (a - b)), by simp [binOp, Op.intArith], rfl, wrap_ok _ _⟩; done)
         | (refine ⟨.int k (k.wrap (a * b)), by simp [binOp, Op.intArith], rfl, wrap_ok _ _⟩; done)
         | (refine ⟨.int k (k.wrap (a.tdiv b)), by simp [binOp, Op.intDiv, hp], rfl, wrap_ok _ _⟩; done)
         | (refine ⟨.int k (a.tmod b), by simp [binOp, Op.intDiv, hp], rfl, tmod_ok _ _ _ ha⟩; done)
         | (refine ⟨.int k (k.wrap (BitVec.ofInt k.bits a &&& BitVec.ofInt k.bits b).toNat), by simp [binOp, Op.intBits], rfl, wrap_ok _ _⟩; done)
         | (refine ⟨.int k (k.wrap (BitVec.ofInt k.bits a ||| BitVec.ofInt k.bits b).toNat), by simp [binOp, Op.intBits], rfl, wrap_ok _ _⟩; done)
         | (refine ⟨.int k (k.wrap (BitVec.ofInt k.bits a ^^^ BitVec.ofInt k.bits b).toNat), by simp [binOp, Op.intBits], rfl, wrap_ok _ _⟩; done)
         | (refine ⟨.int k (k.wrap (a * 2 ^ (min b.toNat k.bits))), by simp [binOp, Op.shift, Int.not_lt.2 hp], rfl, wrap_ok _ _⟩; done)
         | (refine ⟨.int k (a.fdiv (2 ^ (min b.toNat k.bits))), by simp [binOp, Op.shift, Int.not_lt.2 hp], rfl, fdiv_ok _ _ _ ha⟩; done)
         | (refine ⟨.bool (a == b), by simp [binOp, Op.intCmp], rfl⟩; done)
         | (refine ⟨.bool (a != b), by simp [binOp, Op.intCmp], rfl⟩; done)
         | (refine ⟨.bool (decide (a < b)), by simp [binOp, Op.intCmp], rfl⟩; done)
         | (refine ⟨.bool (decide (a ≤ b)), by simp [binOp, Op.intCmp], rfl⟩; done)
         | (refine ⟨.bool (decide (a > b)), by simp [binOp, Op.intCmp], rfl⟩; done)
         | (refine ⟨.bool (decide (a ≥ b)), by simp [binOp, Op.intCmp], rfl⟩; done))
      | cases hs
  · cases op <;> simp only [binSem, ne_eq, hk, not_false_eq_true, if_true, Option.some.injEq, Prod.mk.injEq, reduceCtorEq] at hs
    all_goals first
      | (obtain ⟨rfl, rfl⟩ := hs
         first
         | (refine ⟨.int k (k.wrap (a * 2 ^ (min b.toNat k.bits))), by simp [binOp, Op.shift, Int.not_lt.2 hp], rfl, wrap_ok _ _⟩; done)
         | (refine ⟨.int k (a.fdiv (2 ^ (min b.toNat k.bits))), by simp [binOp, Op.shift, Int.not_lt.2 hp], rfl, fdiv_ok _ _ _ ha⟩; done))
      | cases hs

theorem bytes_loop (b : ByteArray) : ∀ (n i : Nat) (r : List UInt8), b.size - i = n → ByteArray.toList.loop b i r = r.reverse ++ b.data.toList.drop i := by
  have hs : b.data.toList.length = b.size := Array.length_toList
  intro n
  induction n with
  | zero =>
    intro i r h
    unfold ByteArray.toList.loop
    have : ¬ i < b.size := by omega
    rw [if_neg this, List.drop_of_length_le (by omega), List.append_nil]
  | succ n ih =>
    intro i r h
    unfold ByteArray.toList.loop
    have hlt : i < b.size := by omega
    rw [if_pos hlt, ih (i + 1) _ (by omega)]
    have hl : i < b.data.toList.length := by omega
    rw [List.drop_eq_getElem_cons hl, List.reverse_cons, List.append_assoc]
    have : b.get! i = b.data.toList[i] := by
      have h1 : b.get! i = b.data[i]! := by cases b; rfl
      have h2 : i < b.data.size := by rw [← Array.length_toList]; exact hl
      rw [h1, getElem!_pos b.data i h2]; rfl
    rw [this]; rfl
theorem bytes_toList (b : ByteArray) : b.toList = b.data.toList := by
  unfold ByteArray.toList
  rw [bytes_loop b _ 0 [] rfl, List.reverse_nil, List.nil_append, List.drop_zero]

theorem binStr_ok (op : BinOp) (cls : Nat) (a b : ByteArray) (p : Prop) (r : PV) (hs : binSem op cls (.str a) (.str b) = some (p, r)) (hp : p) (t : TypeId) :
    ∃ v, (binOp op t (.string a) (.string b)).run E.P w = .ok v w ∧ RepV w c r v := by
  cases op <;> simp only [binSem, Option.some.injEq, Prod.mk.injEq, reduceCtorEq] at hs
  all_goals first
    | (obtain ⟨rfl, rfl⟩ := hs
       first
       | (refine ⟨.bool (strEq a b), by simp [binOp, Op.stringOp, strEq, bytes_toList], rfl⟩; done)
       | (refine ⟨.bool (!strEq a b), by simp [binOp, Op.stringOp, strEq, bytes_toList], rfl⟩; done)
       | (refine ⟨.bool (strLt a b), by simp [binOp, Op.stringOp, strLt, bytes_toList], rfl⟩; done)
       | (refine ⟨.bool (strLt a b || strEq a b), by simp [binOp, Op.stringOp, strLt, strEq, bytes_toList], rfl⟩; done)
       | (refine ⟨.bool (!(strLt a b || strEq a b)), by simp [binOp, Op.stringOp, strLt, strEq, bytes_toList], rfl⟩; done)
       | (refine ⟨.bool (!strLt a b), by simp [binOp, Op.stringOp, strLt, bytes_toList], rfl⟩; done)
       | (have h1 : (a.size : Int) + (b.size : Int) ≤ 9223372036854775807 := by
            unfold LIM at hp
            omega
          refine ⟨.string (a ++ b), by simp [binOp, Op.stringOp, IntKind.max, IntKind.signed, IntKind.bits, h1], rfl, by simpa [ByteArray.size_append] using hp⟩; done))
    | cases hs

theorem equal_bool {P : Program} {t : TypeId} (hu : P.underlying t = some .bool) (a b : Bool) : (Op.equal t (.bool a) (.bool b)).run P w = .ok (a == b) w := by
  have key : ∀ d : Nat, (Op.equalIn (d + 1) t (.bool a) (.bool b)).run P w = .ok (a == b) w := fun d => by
    unfold Op.equalIn
    simp only [Sem.run_bind, run_underlying hu, Result.andThen_ok]
    rfl
  exact key 9999
theorem binOp_eql_bool {P : Program} {t : TypeId} (hu : P.underlying t = some .bool) (a b : Bool) : (binOp .eql t (.bool a) (.bool b)).run P w = .ok (.bool (a == b)) w := by
  show ((Op.equal t (.bool a) (.bool b)) >>= fun r => pure (Value.bool r)).run P w = _
  rw [Sem.run_bind, equal_bool hu]; rfl
theorem binOp_neq_bool {P : Program} {t : TypeId} (hu : P.underlying t = some .bool) (a b : Bool) : (binOp .neq t (.bool a) (.bool b)).run P w = .ok (.bool (!(a == b))) w := by
  show ((Op.equal t (.bool a) (.bool b)) >>= fun r => pure (Value.bool (!r))).run P w = _
  rw [Sem.run_bind, equal_bool hu]; rfl

theorem does_bin (op : BinOp) (t u : TypeId) (x y : Operand) (ho : o.op = .binOp op t x y u) (hn : isNilCmp E.P t y = false) (hi : toI E.P E.nt o = some i) (hg : HGood E h c w) (hop : Opnd E c w ev get i)
    (hs : opSem key get (fun k => hk k h) i = some out) (hp : out.pre) : Does E h c w ev o key out := by
  simp only [toI, ho, hn, Bool.false_eq_true, if_false] at hi
  split at hi
  · rename_i mx my hmx hmy
    simp only [Option.some.injEq] at hi
    subst hi
    have h1 := hop _ x mx hmx (by simp [MI.ops])
    have h2 := hop _ y my hmy (by simp [MI.ops])
    simp only [opSem] at hs
    split at hs
    · rename_i p r hb
      simp only [Option.some.injEq] at hs
      subst hs
      cases hx : get mx <;> cases hy : get my <;> rw [hx, hy] at hb <;> first | (simp [binSem] at hb; done) | skip
      case bool.bool a b =>
        rw [hx] at h1
        rw [hy] at h2
        simp only [binSem] at hb
        split at hb
        · rename_i hc
          have hu : E.P.underlying t = some .bool := by
            unfold binCls at hc
            split at hc
            · rename_i hh; exact hh
            · cases hc
          cases op <;> simp only [Option.some.injEq, Prod.mk.injEq, reduceCtorEq] at hb
          · obtain ⟨rfl, rfl⟩ := hb
            exact Does.same (v := .bool (a == b)) (by simp [execOp, ho, show ev x = .bool a from h1, show ev y = .bool b from h2, eqGuard_bool, binOp_eql_bool hu]) rfl hg rfl
          · obtain ⟨rfl, rfl⟩ := hb
            exact Does.same (v := .bool (!(a == b))) (by simp [execOp, ho, show ev x = .bool a from h1, show ev y = .bool b from h2, eqGuard_bool, binOp_neq_bool hu]) rfl hg rfl
        · cases hb
      case int.int k a k' b =>
        rw [hx] at h1
        rw [hy] at h2
        obtain ⟨v, q1, q2⟩ := binInt_ok (E := E) (c := c) (w := w) op _ k k' a b p r hb hp h1.2 t
        exact Does.same (v := v) (by simp [execOp, ho, show ev x = .int k a from h1.1, show ev y = .int k' b from h2.1, eqGuard_int, q1]) rfl hg q2
      case str.str a b =>
        rw [hx] at h1
        rw [hy] at h2
        obtain ⟨v, q1, q2⟩ := binStr_ok (E := E) (c := c) (w := w) op _ a b p r hb hp t
        exact Does.same (v := v) (by simp [execOp, ho, show ev x = .string a from h1.1, show ev y = .string b from h2.1, eqGuard_str, q1]) rfl hg q2
    · cases hs
  · cases hi

theorem strip_rep {x : PV} {v : Value} (h : RepV w c x v) {cb want : Bool} (hb : okOpt cb want x) (ht : cb = want) : RepV w c (strip x) v := by
  cases x <;> first | exact h | exact h.1 (hb ht)

theorem run_rep {x : PV} {v : Value} (h : RepV w c x v) (hb : isRun x) : RepV w c (strip x) v := by
  cases x <;> first | exact h | exact h.1 hb

theorem does_pick (cc x y : Operand) (ho : o.op = .pick cc x y) (hi : toI E.P E.nt o = some i) (hg : HGood E h c w) (hop : Opnd E c w ev get i)
    (hs : opSem key get (fun k => hk k h) i = some out) (hp : out.pre) : Does E h c w ev o key out := by
  simp only [toI, ho] at hi
  split at hi
  · rename_i mc mx my hmc hmx hmy
    simp only [Option.some.injEq] at hi
    subst hi
    have h0 := hop _ cc mc hmc (by simp [MI.ops])
    have h1 := hop _ x mx hmx (by simp [MI.ops])
    have h2 := hop _ y my hmy (by simp [MI.ops])
    simp only [opSem] at hs
    split at hs
    · rename_i cb hc
      simp only [Option.some.injEq] at hs
      subst hs
      obtain ⟨p0, p1, p2⟩ := hp
      replace h0 : RepV w c (.bool cb) (ev cc) := by
        rw [← hc]
        exact run_rep h0 p0
      have key : ∀ v, (cb = true → RepV w c (strip (get mx)) v) → (cb = false → RepV w c (strip (get my)) v) →
          RepV w c (match strip (get mx), strip (get my) with | .bool p, .bool q => .bool (cond cb p q) | .int k m, .int k' n => if k = k' then .int k (cond cb m n) else cond cb (.int k m) (.int k' n) | x, y => cond cb x y) v := by
        intro v q1 q2
        split
        · rename_i p q e1 e2
          rw [e1] at q1
          rw [e2] at q2
          cases cb
          · exact q2 rfl
          · exact q1 rfl
        · rename_i k m k' n e1 e2
          rw [e1] at q1
          rw [e2] at q2
          split
          · rename_i e; subst e
            cases cb
            · exact q2 rfl
            · exact q1 rfl
          · cases cb
            · exact q2 rfl
            · exact q1 rfl
        · cases cb
          · exact q2 rfl
          · exact q1 rfl
      refine Does.same (v := if cb then ev x else ev y) (by simp [execOp, ho, show ev cc = .bool cb from h0, asBool]) rfl hg (key _ ?_ ?_)
      · intro hb
        rw [if_pos hb]
        exact strip_rep h1 p1 hb
      · intro hb
        rw [if_neg (by simp [hb])]
        exact strip_rep h2 p2 hb
    · cases hs
  · cases hi
end
end Go.Proofs.YtjeegophpmpibaaGreatDoor.Pv

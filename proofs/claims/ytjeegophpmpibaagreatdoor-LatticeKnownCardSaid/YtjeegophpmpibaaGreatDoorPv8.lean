/- The rest of the instructions that leave memory alone. No condition. -/
import Derived.Test.YtjeegophpmpibaaGreatDoorPv7
set_option linter.unusedSimpArgs false
set_option linter.unusedVariables false
namespace Go.Proofs.YtjeegophpmpibaaGreatDoor.Pv
open Go Go.RowKit
section
variable {E : Env} {h : List (Key × Option HE)} {c : Ctx} {w : World} {ev : Operand → Value} {get : MO → PV} {o : Oper} {i : MI} {key : Key} {out : Out}

theorem does_idx (t : TypeId) (x y : Operand) (ho : o.op = .index t x y) (hi : toI E.P E.nt o = some i) (hg : HGood E h c w) (hop : Opnd E c w ev get i)
    (hs : opSem key get (fun k => hk k h) i = some out) (hp : out.pre) : Does E h c w ev o key out := by
  simp only [toI, ho] at hi
  split at hi
  · rename_i hte
    split at hi
    · rename_i mx mi hmx hmi
      simp only [Option.some.injEq] at hi
      subst hi
      have hr := hop _ x mx hmx (by simp [MI.ops])
      have hr2 := hop _ y mi hmi (by simp [MI.ops])
      simp only [opSem] at hs
      split at hs
      · rename_i s k n hx hy
        rw [hx] at hr
        rw [hy] at hr2
        simp only [Option.some.injEq] at hs
        subst hs
        obtain ⟨p1, p2⟩ := hp
        have hlt : n.toNat < s.size := by omega
        have e2 : s[n.toNat]? = some (s[n.toNat]'hlt) := by simp [getElem?_pos, hlt]
        have e3 : s.data.getD n.toNat 0 = s[n.toNat]'hlt := by
          have : n.toNat < s.data.size := hlt
          rw [Array.getD, dif_pos this]; rfl
        refine Does.same (v := .int .u8 (s[n.toNat]'hlt).toNat) (by simp [execOp, ho, show ev x = .string s from hr.1, show ev y = .int k n from hr2.1, Instr.index, asIntOf, run_underlying hte, p1, e2]) rfl hg ⟨by rw [e3], ?_⟩
        rw [e3]
        have := (s[n.toNat]'hlt).toNat_lt
        simp [IntKind.min, IntKind.max, IntKind.signed, IntKind.bits]; omega
      · cases hs
    · cases hi
  · rename_i len e hte
    split at hi
    · cases hi
    · rename_i hz
      obtain ⟨inf, d, h1, h2, h3⟩ := info_okT hz
      split at hi
      · rename_i mx mi hmx hmi
        simp only [Option.some.injEq] at hi
        subst hi
        have hr := hop _ x mx hmx (by simp [MI.ops])
        have hr2 := hop _ y mi hmi (by simp [MI.ops])
        simp only [opSem] at hs
        split at hs
        · rename_i cs k n hx hy
          rw [hx] at hr
          rw [hy] at hr2
          simp only [Option.some.injEq] at hs
          subst hs
          obtain ⟨vs, q1, q2, q3⟩ := hr
          obtain ⟨p1, p2, p3, p4⟩ := hp
          have hlt : n.toNat < len := by omega
          have hle : n.toNat * inf.size + inf.size ≤ cs.length := by
            rw [p3, h3, ← Nat.succ_mul]
            exact Nat.mul_le_mul_right _ hlt
          obtain ⟨v, s1, s2⟩ := part_ok h1 h2 q2 q3 (off := n.toNat * inf.size) hle (by rw [← h3]; exact p4)
          exact Does.same (v := v) (by simp [execOp, ho, q1, show ev y = .int k n from hr2.1, Instr.index, asIntOf, run_underlying hte, p1, p2, run_sizeOf h1, s1]) rfl hg (by rw [h3]; exact s2)
        · cases hs
      · cases hi
  · cases hi

theorem toOs_RepL : ∀ (ts : List TypeId) (xs : List Operand) (ys : List MO), toOs E.P E.nt ts xs = some ys → (∀ t x m, toO E.P E.nt t x = some m → m ∈ ys → RepV w c (get m) (ev x)) → RepL w c (ys.map get) (xs.map ev)
  | _, [], ys, hy, _ => by simp [toOs] at hy; subst hy; rfl
  | ts, x :: xs, ys, hy, hsub => by
    simp only [toOs] at hy
    split at hy
    · rename_i y ys' h1 h2
      simp only [Option.some.injEq] at hy
      subst hy
      exact ⟨_, _, rfl, hsub _ x y h1 (by simp), toOs_RepL _ xs _ h2 (fun t x m h hm => hsub t x m h (by simp [hm]))⟩
    · cases hy
theorem does_mkfn (f : FuncId) (first caps : Array Operand) (ho : o.op = .makeFunc (.func f) first caps) (hi : toI E.P E.nt o = some i) (hg : HGood E h c w) (hop : Opnd E c w ev get i)
    (hs : opSem key get (fun k => hk k h) i = some out) (hp : out.pre) : Does E h c w ev o key out := by
  simp only [toI, ho] at hi
  split at hi
  · rename_i ma mb h1 h2
    cases hi
    simp only [opSem, Option.some.injEq] at hs
    subst hs
    have r1 := toOs_RepL (w := w) (c := c) (ev := ev) (get := get) _ _ _ h1 (fun t x m hm hx => hop t x m hm (by simp [MI.ops, hx]))
    have r2 := toOs_RepL (w := w) (c := c) (ev := ev) (get := get) _ _ _ h2 (fun t x m hm hx => hop t x m hm (by simp [MI.ops, hx]))
    exact Does.same (v := .func (.func f) (first.map ev) (caps.map ev)) (by simp [execOp, ho, Instr.makeFunc]) rfl hg ⟨_, _, rfl, by simpa using r1, by simpa using r2⟩
  · cases hi

theorem does_cap (cl : Call) (ho : o.op = .call cl) (hcl : cl.callee = .builtin .cap) (hi : toI E.P E.nt o = some i) (hg : HGood E h c w) (hop : Opnd E c w ev get i)
    (hs : opSem key get (fun k => hk k h) i = some out) (hp : out.pre) : Does E h c w ev o key out := by
  simp only [toI, ho, hcl] at hi
  split at hi
  · rename_i t x ht hx
    have ea : cl.args = #[x] := by rw [← Array.toArray_toList (xs := cl.args), hx]
    have et : cl.argTypes = #[t] := by rw [← Array.toArray_toList (xs := cl.argTypes), ht]
    split at hi
    · rename_i e hte
      obtain ⟨m, hm, rfl⟩ := Option.map_eq_some_iff.1 hi
      have hr := hop _ x m hm (by simp [MI.ops])
      simp only [opSem] at hs
      split at hs
      · rename_i xs hx
        rw [hx] at hr
        simp only [Option.some.injEq] at hs
        subst hs
        obtain ⟨a, cap, q1, q2, q3, q4, q5, _⟩ := hr
        have := q5 rfl
        subst this
        refine Does.same (v := .int .i64 xs.length) (by simp [execOp, ho, resolve, hcl, invoke, builtin, ea, et, Builtin.cap_, run_underlying hte, q1, goInt]) rfl hg ⟨rfl, ?_⟩
        simp [IntKind.min, IntKind.max, IntKind.signed, IntKind.bits]; omega
      · rename_i g es off len hx
        rw [hx] at hr
        simp only [Option.some.injEq] at hs
        subst hs
        obtain ⟨_, _, _, a, cap, q1, q2, q3, q4, q5, _⟩ := hr
        have := q5 rfl
        subst this
        refine Does.same (v := .int .i64 cap) (by simp [execOp, ho, resolve, hcl, invoke, builtin, ea, et, Builtin.cap_, run_underlying hte, q1, goInt]) rfl hg ⟨rfl, ?_⟩
        simp [IntKind.min, IntKind.max, IntKind.signed, IntKind.bits]; omega
      · cases hs
    · cases hi
  · cases hi

theorem does_minmax (mx : Bool) (cl : Call) (ho : o.op = .call cl) (hcl : cl.callee = .builtin (if mx then .max else .min)) (hi : toI E.P E.nt o = some i) (hg : HGood E h c w) (hop : Opnd E c w ev get i)
    (hs : opSem key get (fun k => hk k h) i = some out) (hp : out.pre) : Does E h c w ev o key out := by
  have hi' : (match cl.args.toList with
      | [x, y] => match toO E.P E.nt 3 x, toO E.P E.nt 3 y with | some x, some y => some (MI.minmax mx x y) | _, _ => none
      | _ => none) = some i := by
    cases mx
    · simp only [toI, ho, hcl, Bool.false_eq_true, if_false] at hi
      exact hi
    · simp only [toI, ho, hcl, if_true] at hi
      exact hi
  clear hi
  split at hi'
  · rename_i x y hx
    have ea : cl.args = #[x, y] := by rw [← Array.toArray_toList (xs := cl.args), hx]
    split at hi'
    · rename_i a b ha hb
      simp only [Option.some.injEq] at hi'
      subst hi'
      have h1 := hop _ x a ha (by simp [MI.ops])
      have h2 := hop _ y b hb (by simp [MI.ops])
      simp only [opSem] at hs
      split at hs
      · rename_i k m k' n hx hy
        rw [hx] at h1
        rw [hy] at h2
        split at hs
        · rename_i e
          subst e
          simp only [Option.some.injEq] at hs
          subst hs
          cases mx
          · refine Does.same (v := .int k (if n < m then n else m)) (by simp [execOp, ho, hcl, ea, resolve, invoke, builtin, show ev x = .int k m from h1.1, show ev y = .int k n from h2.1, Builtin.min_, Builtin.min2]) rfl hg ⟨by simp, ?_⟩
            simp only [Bool.false_eq_true, if_false]
            split
            · exact h2.2
            · exact h1.2
          · refine Does.same (v := .int k (if n > m then n else m)) (by simp [execOp, ho, hcl, ea, resolve, invoke, builtin, show ev x = .int k m from h1.1, show ev y = .int k n from h2.1, Builtin.max_, Builtin.max2]) rfl hg ⟨by simp, ?_⟩
            simp only [if_true]
            split
            · exact h2.2
            · exact h1.2
        · cases hs
      · cases hs
    · cases hi'
  · cases hi'

theorem bound_rep {x : Option Operand} {m : Option MO} {t : TypeId} (hm : toOpt E.P E.nt t x = some m) (hop : ∀ t y k, toO E.P E.nt t y = some k → k ∈ m.toList → RepV w c (get k) (ev y)) {n : Int} (hn : (m.map get).bind natOf = some n) :
    ∃ y k, x = some y ∧ ev y = .int k n := by
  cases x with
  | none =>
    simp only [toOpt, Option.some.injEq] at hm
    subst hm
    simp at hn
  | some y =>
    simp only [toOpt] at hm
    obtain ⟨k, hk, rfl⟩ := Option.map_eq_some_iff.1 hm
    have hr := hop _ y k hk (by simp)
    simp only [Option.map_some, Option.bind_some] at hn
    cases hx : get k <;> rw [hx] at hn hr <;> first | (simp [natOf] at hn; done) | skip
    rename_i kk nn
    simp only [natOf, Option.some.injEq] at hn
    subst hn
    exact ⟨y, kk, rfl, hr.1⟩

/-- The three bounds of a slicing, as the machine reads them. -/
theorem sliceBounds_ok {P : Program} {isS : Bool} {len cap : Nat} {lo hi mx : Option Value} {l hh mm : Int}
    (h1 : (lo = none ∧ l = 0) ∨ ∃ k, lo = some (.int k l)) (h2 : (hi = none ∧ hh = len ∧ mx = none) ∨ ∃ k, hi = some (.int k hh)) (h3 : (mx = none ∧ mm = cap) ∨ ∃ k, mx = some (.int k mm))
    (p1 : 0 ≤ l) (p2 : l ≤ hh) (p3 : hh ≤ mm) (p4 : mm ≤ cap) :
    (Instr.sliceBounds isS len cap lo hi mx).run P w = .ok (l.toNat, hh.toNat, mm.toNat) w := by
  have em : (mm.toNat : Int) = mm := Int.toNat_of_nonneg (by omega)
  have eh : (hh.toNat : Int) = hh := Int.toNat_of_nonneg (by omega)
  rcases h3 with ⟨rfl, rfl⟩ | ⟨k3, rfl⟩
  · rcases h2 with ⟨rfl, rfl, _⟩ | ⟨k2, rfl⟩
    · rcases h1 with ⟨rfl, rfl⟩ | ⟨k1, rfl⟩
      · simp [Instr.sliceBounds]
      · simp [Instr.sliceBounds, run_sliceBound, p1, p2]
    · rcases h1 with ⟨rfl, rfl⟩ | ⟨k1, rfl⟩
      · simp [Instr.sliceBounds, run_sliceBound, p2, p3]
      · simp [Instr.sliceBounds, run_sliceBound, p1, p2, p3, eh, (by omega : 0 ≤ hh)]
  · rcases h2 with ⟨_, _, h⟩ | ⟨k2, rfl⟩
    · cases h
    · rcases h1 with ⟨rfl, rfl⟩ | ⟨k1, rfl⟩
      · simp [Instr.sliceBounds, run_sliceBound, p2, p3, p4, em, eh, (by omega : 0 ≤ hh), (by omega : 0 ≤ mm)]
      · simp [Instr.sliceBounds, run_sliceBound, p1, p2, p3, p4, em, eh, (by omega : 0 ≤ hh), (by omega : 0 ≤ mm)]

/-- What a slicing comes to. -/
theorem run_slice_gen {P : Program} {t e : TypeId} {inf : TypeInfo} (ht : P.underlying t = some (.slice e)) (hinf : P.info? e = some inf) {a : Option Addr} {len cap : Nat} {lo hi mx : Option Value} {l hh mm : Nat}
    (hb : (Instr.sliceBounds true len cap lo hi mx).run P w = .ok (l, hh, mm) w) :
    (Instr.sliceAt t (.slice a len cap) lo hi mx).run P w = .ok (.slice (if mm = l then a else a.map (·.add (l * inf.size))) (hh - l) (mm - l)) w := by
  simp only [Instr.sliceAt, Sem.run_bind, run_underlying ht, Result.andThen_ok, Instr.slice, hb, run_sizeOf hinf, Sem.run_pure]

theorem bounds_spec {len : Nat} {lo hi : Option PV} {l hh : Int} (hb : bounds len lo hi = some (l, hh)) :
    ((lo = none ∧ l = 0) ∨ lo.bind natOf = some l) ∧ ((hi = none ∧ hh = len) ∨ hi.bind natOf = some hh) := by
  unfold bounds at hb
  cases lo <;> cases hi <;> simp only [Option.bind_none, Option.bind_some] at hb ⊢
  · simp at hb; simp [hb]
  · split at hb
    · rename_i e1 e2; simp at hb; simp at e1; simp [e2, ← hb.1, ← hb.2, ← e1]
    · cases hb
  · split at hb
    · rename_i e1 e2; simp at hb; simp at e2; simp [e1, ← hb.1, ← hb.2, ← e2]
    · cases hb
  · split at hb
    · rename_i e1 e2; simp at hb; simp [e1, e2, ← hb.1, ← hb.2]
    · cases hb

theorem rows_slice {esz b o : Nat} {xs : List (List PV)} (hr : RepRows w c esz b o xs) (l n : Nat) : RepRows w c esz b (o + l * esz) ((xs.drop l).take n) := RepRows.take n (RepRows.drop l hr)

/-- A slicing of a list whose array nobody writes. -/
theorem slice_vec {P : Program} {t e : TypeId} {inf : TypeInfo} (ht : P.underlying t = some (.slice e)) (hinf : P.info? e = some inf) {esz : Nat} {full : Bool} {xs : List (List PV)} {v : Value}
    (hr : RepV w c (.vec esz full xs) v) (he : xs = [] ∨ esz = inf.size) {lo hi mx : Option Value} {l hh mm : Int} {full' : Bool}
    (h1 : (lo = none ∧ l = 0) ∨ ∃ k, lo = some (.int k l)) (h2 : (hi = none ∧ hh = (xs.length : Nat) ∧ mx = none) ∨ ∃ k, hi = some (.int k hh))
    (hm : (mx = none ∧ full' = (full && decide (hh = xs.length))) ∨ (∃ k, mx = some (.int k mm)) ∧ hh ≤ mm ∧ mm ≤ xs.length ∧ full' = decide (hh = mm))
    (p1 : 0 ≤ l) (p2 : l ≤ hh) (p3 : hh ≤ xs.length) :
    ∃ v', (Instr.sliceAt t v lo hi mx).run P w = .ok v' w ∧ RepV w c (.vec esz full' ((xs.drop l.toNat).take (hh.toNat - l.toNat))) v' := by
  obtain ⟨a, cap, q1, q2, q3, q4, q5, q6⟩ := hr
  subst q1
  have hlen : ((xs.drop l.toNat).take (hh.toNat - l.toNat)).length = hh.toNat - l.toNat := by simp; omega
  -- the third bound
  obtain ⟨m, e1, e2, e3, e4⟩ : ∃ m : Int, ((mx = none ∧ m = cap) ∨ ∃ k, mx = some (.int k m)) ∧ hh ≤ m ∧ m ≤ cap ∧ (full' = true → m = hh) := by
    rcases hm with ⟨rfl, hf⟩ | ⟨⟨k, rfl⟩, g1, g2, hf⟩
    · refine ⟨cap, .inl ⟨rfl, rfl⟩, by omega, by omega, fun ht => ?_⟩
      rw [hf] at ht
      simp only [Bool.and_eq_true, decide_eq_true_eq] at ht
      rw [q5 ht.1, ht.2]
    · refine ⟨mm, .inr ⟨k, rfl⟩, g1, by omega, fun ht => ?_⟩
      rw [hf] at ht
      simp only [decide_eq_true_eq] at ht
      exact ht.symm
  have hb := sliceBounds_ok (P := P) (w := w) (isS := true) (len := xs.length) (cap := cap) h1 h2 e1 p1 p2 e2 e3
  refine ⟨_, run_slice_gen ht hinf hb, ?_⟩
  refine ⟨_, _, by rw [hlen], by omega, by omega, by omega, fun ht => by have := e4 ht; omega, ?_⟩
  by_cases h0 : hh.toNat - l.toNat = 0
  · exact .inl (by rw [h0]; rfl)
  · rcases q6 with q6 | ⟨ad, q6, q7, q8, q9⟩
    · subst q6; simp at p3; omega
    · refine .inr ⟨⟨ad.block, ad.off + l.toNat * esz, none⟩, ?_, rfl, q8, rows_slice q9 _ _⟩
      have hne : ¬ (m.toNat = l.toNat) := by omega
      have he' : esz = inf.size := he.resolve_left (by intro h; subst h; simp at p3; omega)
      rw [if_neg hne, q6, addr_of q7, Option.map_some, add_at, he']

/-- A slicing of an owned row. -/
theorem slice_own {P : Program} {t e : TypeId} {inf : TypeInfo} (ht : P.underlying t = some (.slice e)) (hinf : P.info? e = some inf) {g : Key} {off len : Nat} {full : Bool} {v : Value}
    (hr : RepV w c (.own g inf.size off len full) v) {lo hi mx : Option Value} {l hh mm : Int} {full' : Bool}
    (h1 : (lo = none ∧ l = 0) ∨ ∃ k, lo = some (.int k l)) (h2 : (hi = none ∧ hh = (len : Nat) ∧ mx = none) ∨ ∃ k, hi = some (.int k hh))
    (hm : (mx = none ∧ full' = (full && decide (hh = len))) ∨ (∃ k, mx = some (.int k mm)) ∧ hh ≤ mm ∧ mm ≤ len ∧ full' = decide (hh = mm))
    (p1 : 0 ≤ l) (p2 : l ≤ hh) (p3 : hh ≤ len) :
    ∃ v', (Instr.sliceAt t v lo hi mx).run P w = .ok v' w ∧ RepV w c (.own g inf.size (off + l.toNat) (hh.toNat - l.toNat) full') v' := by
  obtain ⟨g1, g2, g3, a, cap, q1, q2, q3, q4, q5, q6⟩ := hr
  subst q1
  obtain ⟨m, e1, e2, e3, e4⟩ : ∃ m : Int, ((mx = none ∧ m = cap) ∨ ∃ k, mx = some (.int k m)) ∧ hh ≤ m ∧ m ≤ cap ∧ (full' = true → m = hh) := by
    rcases hm with ⟨rfl, hf⟩ | ⟨⟨k, rfl⟩, g1, g2, hf⟩
    · refine ⟨cap, .inl ⟨rfl, rfl⟩, by omega, by omega, fun ht => ?_⟩
      rw [hf] at ht
      simp only [Bool.and_eq_true, decide_eq_true_eq] at ht
      rw [q5 ht.1, ht.2]
    · refine ⟨mm, .inr ⟨k, rfl⟩, g1, by omega, fun ht => ?_⟩
      rw [hf] at ht
      simp only [decide_eq_true_eq] at ht
      exact ht.symm
  have hb := sliceBounds_ok (P := P) (w := w) (isS := true) (len := len) (cap := cap) h1 h2 e1 p1 p2 e2 e3
  refine ⟨_, run_slice_gen ht hinf hb, ?_⟩
  refine ⟨g1, g2, g3, _, _, rfl, by omega, by omega, by omega, fun ht => by have := e4 ht; omega, ?_⟩
  cases hbe : c.β g with
  | none =>
    rw [hbe] at q6
    exact ⟨by omega, by omega, by omega⟩
  | some ad =>
    rw [hbe] at q6
    by_cases h0 : m.toNat = l.toNat
    · exact .inl (by omega)
    · rcases q6 with q6 | ⟨q6, cs, el, fr, q7, q8⟩
      · exact .inl (by omega)
      · refine .inr ⟨by rw [if_neg h0, q6, Option.map_some, add_at, Nat.add_mul, Nat.add_assoc], cs, el, fr, q7, ?_⟩
        have : (off + l.toNat + (m.toNat - l.toNat)) * inf.size ≤ (off + cap) * inf.size := Nat.mul_le_mul_right _ (by omega)
        omega

theorem opt_rep {x : Option Operand} {m : Option MO} {t : TypeId} (hm : toOpt E.P E.nt t x = some m) (hop : ∀ t y k, toO E.P E.nt t y = some k → k ∈ m.toList → RepV w c (get k) (ev y)) {n : Int}
    (hn : (m.map get = none ∧ n = 0) ∨ (m.map get).bind natOf = some n) : (x.map ev = none ∧ n = 0) ∨ ∃ k, x.map ev = some (.int k n) := by
  rcases hn with ⟨h1, h2⟩ | h1
  · cases x with
    | none => exact .inl ⟨rfl, h2⟩
    | some y =>
      simp only [toOpt] at hm
      obtain ⟨k, _, rfl⟩ := Option.map_eq_some_iff.1 hm
      simp at h1
  · obtain ⟨y, k, rfl, h2⟩ := bound_rep hm hop h1
    exact .inr ⟨k, by simp [h2]⟩

theorem does_slc (t : TypeId) (x : Operand) (lo hi mx : Option Operand) (ho : o.op = .slice t x lo hi mx) (hi' : toI E.P E.nt o = some i) (hg : HGood E h c w) (hop : Opnd E c w ev get i)
    (hs : opSem key get (fun k => hk k h) i = some out) (hp : out.pre) : Does E h c w ev o key out := by
  simp only [toI, ho] at hi'
  split at hi'
  · rename_i e hte
    split at hi'
    · cases hi'
    · rename_i hz
      obtain ⟨inf, d, i1, i2, i3⟩ := info_okT hz
      split at hi'
      · rename_i m0 m1 m2 m3 k0 k1 k2 k3
        split at hi'
        · cases hi'
        · rename_i hmx
          simp only [Option.some.injEq] at hi'
          subst hi'
          have hr := hop _ x m0 k0 (by simp [MI.ops])
          have o1 : ∀ t y k, toO E.P E.nt t y = some k → k ∈ m1.toList → RepV w c (get k) (ev y) := fun t y k a b => hop t y k a (by simp [MI.ops]; simp at b; simp [b])
          have o2 : ∀ t y k, toO E.P E.nt t y = some k → k ∈ m2.toList → RepV w c (get k) (ev y) := fun t y k a b => hop t y k a (by simp [MI.ops]; simp at b; simp [b])
          have o3 : ∀ t y k, toO E.P E.nt t y = some k → k ∈ m3.toList → RepV w c (get k) (ev y) := fun t y k a b => hop t y k a (by simp [MI.ops]; simp at b; simp [b])
          -- high bound, with 'no max where no high'
          have hhi : ∀ {len : Nat} {hh : Int}, ((m2.map get = none ∧ hh = len) ∨ (m2.map get).bind natOf = some hh) → (hi.map ev = none ∧ hh = (len : Nat) ∧ mx.map ev = none) ∨ ∃ k, hi.map ev = some (.int k hh) := by
            intro len hh hc
            rcases hc with ⟨c1, c2⟩ | c1
            · cases hi with
              | none =>
                refine .inl ⟨rfl, c2, ?_⟩
                cases mx with
                | none => rfl
                | some y =>
                  simp only [toOpt, Option.some.injEq] at k2
                  subst k2
                  simp only [toOpt] at k3
                  obtain ⟨k, _, rfl⟩ := Option.map_eq_some_iff.1 k3
                  simp at hmx
              | some y =>
                simp only [toOpt] at k2
                obtain ⟨k, _, rfl⟩ := Option.map_eq_some_iff.1 k2
                simp at c1
            · obtain ⟨y, k, rfl, c2⟩ := bound_rep k2 o2 c1
              exact .inr ⟨k, by simp [c2]⟩
          have hmm : ∀ {mo : Option Int}, mxOf get m3 = some mo → (mo = none ∧ mx.map ev = none) ∨ ∃ k n, mo = some n ∧ mx.map ev = some (.int k n) := by
            intro mo hc
            cases m3 with
            | none =>
              simp only [mxOf, Option.some.injEq] at hc
              refine .inl ⟨hc.symm, ?_⟩
              cases mx with
              | none => rfl
              | some y =>
                simp only [toOpt] at k3
                obtain ⟨k, _, e⟩ := Option.map_eq_some_iff.1 k3
                cases e
            | some mm =>
              obtain ⟨n, n1, n2⟩ := Option.map_eq_some_iff.1 hc
              obtain ⟨y, k, rfl, c2⟩ := bound_rep (n := n) k3 o3 (by simpa using n1)
              exact .inr ⟨k, n, n2.symm, by simp [c2]⟩
          have fin : ∀ v', (Instr.sliceAt t (ev x) (lo.map ev) (hi.map ev) (mx.map ev)).run E.P w = .ok v' w → RepV w c out.r v' → out.hu = [] → Does E h c w ev o key out := fun v' a b c' => Does.same (v := v') (by simp [execOp, ho, a]) c' hg b
          simp only [opSem] at hs
          split at hs
          · rename_i esz' full xs hx
            rw [hx] at hr
            split at hs
            · rename_i l hh b1 b2
              simp only [Option.some.injEq] at hs
              subst hs
              obtain ⟨s1, s2⟩ := bounds_spec b1
              obtain ⟨p0, p1, p2, p3⟩ := hp
              rcases hmm b2 with ⟨_, e1⟩ | ⟨k, n, e1, _⟩
              · obtain ⟨v', a, b⟩ := slice_vec hte i1 hr (by rw [← i3]; exact p0) (mm := 0) (opt_rep k1 o1 s1) (hhi s2) (.inl ⟨e1, rfl⟩) p1 p2 p3
                exact fin v' a b rfl
              · cases e1
            · rename_i l hh m b1 b2
              simp only [Option.some.injEq] at hs
              subst hs
              obtain ⟨s1, s2⟩ := bounds_spec b1
              obtain ⟨p0, p1, p2, p3, p4⟩ := hp
              rcases hmm b2 with ⟨e0, e1⟩ | ⟨k, n, e0, e1⟩
              · cases e0
              · simp only [Option.some.injEq] at e0
                subst e0
                obtain ⟨v', a, b⟩ := slice_vec hte i1 hr (by rw [← i3]; exact p0) (mm := m) (opt_rep k1 o1 s1) (hhi s2) (.inr ⟨⟨k, e1⟩, p3, p4, rfl⟩) p1 p2 (by omega)
                exact fin v' a b rfl
            · cases hs
          · rename_i g esz' off len full hx
            rw [hx] at hr
            split at hs
            · rename_i he
              rw [he, i3] at hr
              split at hs
              · rename_i l hh b1 b2
                simp only [Option.some.injEq] at hs
                subst hs
                obtain ⟨s1, s2⟩ := bounds_spec b1
                obtain ⟨p1, p2, p3⟩ := hp
                rcases hmm b2 with ⟨_, e1⟩ | ⟨k, n, e1, _⟩
                · obtain ⟨v', a, b⟩ := slice_own hte i1 hr (mm := 0) (opt_rep k1 o1 s1) (hhi s2) (.inl ⟨e1, rfl⟩) p1 p2 p3
                  exact fin v' a (by rw [i3]; exact b) rfl
                · cases e1
              · rename_i l hh m b1 b2
                simp only [Option.some.injEq] at hs
                subst hs
                obtain ⟨s1, s2⟩ := bounds_spec b1
                obtain ⟨p1, p2, p3, p4⟩ := hp
                rcases hmm b2 with ⟨e0, e1⟩ | ⟨k, n, e0, e1⟩
                · cases e0
                · simp only [Option.some.injEq] at e0
                  subst e0
                  obtain ⟨v', a, b⟩ := slice_own hte i1 hr (mm := m) (opt_rep k1 o1 s1) (hhi s2) (.inr ⟨⟨k, e1⟩, p3, p4, rfl⟩) p1 p2 (by omega)
                  exact fin v' a (by rw [i3]; exact b) rfl
              · cases hs
            · cases hs
          · cases hs
      · cases hi'
  · rename_i hte
    split at hi'
    · rename_i m0 m1 m2 k0 k1 k2
      split at hi'
      · cases hi'
      · rename_i hmx
        simp only [Option.some.injEq] at hi'
        subst hi'
        have emx : mx = none := by cases mx <;> simp_all
        subst emx
        have hr := hop _ x m0 k0 (by simp [MI.ops])
        have o1 : ∀ t y k, toO E.P E.nt t y = some k → k ∈ m1.toList → RepV w c (get k) (ev y) := fun t y k a b => hop t y k a (by simp [MI.ops]; simp at b; simp [b])
        have o2 : ∀ t y k, toO E.P E.nt t y = some k → k ∈ m2.toList → RepV w c (get k) (ev y) := fun t y k a b => hop t y k a (by simp [MI.ops]; simp at b; simp [b])
        simp only [opSem] at hs
        split at hs
        · rename_i s hx
          rw [hx] at hr
          split at hs
          · rename_i l hh b1
            simp only [Option.some.injEq] at hs
            subst hs
            obtain ⟨s1, s2⟩ := bounds_spec b1
            obtain ⟨p1, p2, p3⟩ := hp
            have h2 : (hi.map ev = none ∧ hh = (s.size : Nat) ∧ (none : Option Value) = none) ∨ ∃ k, hi.map ev = some (.int k hh) := by
              rcases s2 with ⟨c1, c2⟩ | c1
              · cases hi with
                | none => exact .inl ⟨rfl, c2, rfl⟩
                | some y =>
                  simp only [toOpt] at k2
                  obtain ⟨k, _, rfl⟩ := Option.map_eq_some_iff.1 k2
                  simp at c1
              · obtain ⟨y, k, rfl, c2⟩ := bound_rep k2 o2 c1
                exact .inr ⟨k, by simp [c2]⟩
            have hb := sliceBounds_ok (P := E.P) (w := w) (isS := false) (len := s.size) (cap := s.size) (mx := none) (mm := s.size) (opt_rep k1 o1 s1) h2 (.inl ⟨rfl, rfl⟩) p1 p2 p3 (by omega)
            refine Does.same (v := .string (s.extract l.toNat hh.toNat)) (by simp [execOp, ho, show ev x = .string s from hr.1, Instr.sliceAt, run_underlying hte, Instr.slice, hb]) rfl hg ⟨rfl, ?_⟩
            have := hr.2
            simp only [ByteArray.size_extract]
            omega
          · cases hs
        · cases hs
    · cases hi'
  · cases hi'
end
end Go.Proofs.YtjeegophpmpibaaGreatDoor.Pv

/- A step of M-code and the machine's own step; regions whose order is fixed. No condition. -/
import Derived.Test.YtjeegophpmpibaaGreatDoorPv13
import Derived.Tactics
set_option linter.unusedSimpArgs false
set_option linter.unusedVariables false
namespace Go.Proofs.YtjeegophpmpibaaGreatDoor.Pv
open Go Go.RowKit

theorem constPV_rep {P : Program} {t : TypeId} {v : Value} {x : PV} {w : World} {c : Ctx} (h : constPV P t v = some x) : RepV w c x v := by
  unfold constPV at h
  split at h
  · cases h; rfl
  · split at h
    · rename_i hh; cases h; exact ⟨rfl, hh.1, hh.2⟩
    · cases h
  · split at h
    · rename_i hh; cases h; exact ⟨rfl, hh⟩
    · cases h
  · cases h; rfl
  · cases h; rfl
  · cases h; rfl
  · cases h; exact ⟨none, 0, rfl, Nat.le_refl _, by simp, by simp [LIM], fun _ => rfl, .inl rfl⟩
  · cases h

section
variable {E : Env} {st : St} {c : Ctx} {a : Act} {w : World}
theorem Good.hgood (hg : Good E st c a w) : HGood E st.h c w := ⟨hg.heap, hg.fresh, hg.apart, hg.fz, hg.le, hg.bnd, hg.below⟩
theorem Good.get (hg : Good E st c a w) {t : TypeId} {x : Operand} {m : MO} (h : toO E.P E.nt t x = some m) : RepV w c (st.get m) (a.eval x) := by
  cases x with
  | tmp n =>
    simp only [toO] at h
    split at h
    · rename_i hn
      cases h
      have hs : n < a.tmps.size := by rw [hg.size]; exact hn
      have := hg.slot n a.tmps[n] (by simp [hs])
      simpa [St.get, Act.eval, hs] using this
    · cases h
  | const v =>
    simp only [toO, Option.map_eq_some_iff] at h
    obtain ⟨x, h1, rfl⟩ := h
    exact constPV_rep h1
  | func f =>
    simp only [toO, Option.some.injEq] at h
    subst h
    exact ⟨#[], #[], rfl, rfl, rfl⟩
  | global g => simp [toO] at h
theorem Good.tmp (hg : Good E st c a w) {t : Nat} (h : t < E.nt) : ∃ v, a.tmps[t]? = some v ∧ RepV w c (lk t st.s) v := by
  have hs : t < a.tmps.size := by rw [hg.size]; exact h
  exact ⟨a.tmps[t], by simp [hs], hg.slot t _ (by simp [hs])⟩
theorem Good.put {st' : St} {c' : Ctx} {w' : World} (hg : Good E st c a w) {d : Option Nat} {r : PV} {u : Value} (hs : st'.s = (match d with | some t => (t, r) :: st.s | none => st.s)) (hh : HGood E st'.h c' w') (hr : RepV w' c' r u) (hle : c.Le c') (hm : Mono c.Fz w w') :
    Good E st' c' (a.put d u) w' := by
  refine ⟨?_, ?_, fun t v hv => ?_, hh.heap, hh.fresh, hh.apart, hh.fz, hh.le, hh.bnd, hh.below, fun p hp => RepV.mono _ _ hm hle (hg.ghost p hp)⟩
  · cases d <;> exact hg.defers
  · cases d <;> simp [Act.put, hg.size]
  · rw [hs]
    cases d with
    | none => exact RepV.mono _ _ hm hle (hg.slot t v hv)
    | some d =>
      simp only [Act.put, Array.getElem?_setIfInBounds] at hv
      simp only [lk]
      split at hv
      · rename_i e
        subst e
        rw [if_pos rfl]
        split at hv
        · cases hv; exact hr
        · cases hv
      · rename_i e
        rw [if_neg (fun x => e x.symm)]
        exact RepV.mono _ _ hm hle (hg.slot t v hv)
end

/-- An operation runs, or enters a call that returns. -/
def Runs (P : Program) (ev : Operand → Value) (o : Oper) (w : World) (R : Value → World → Prop) : Prop :=
  (∃ n v w', (execOp ev o).run P w = .ok n w' ∧ (n = .value v ∨ (n = .skip ∧ v = undef)) ∧ R v w') ∨
  (∃ f args, (execOp ev o).run P w = .ok (.enter f args) w ∧ Calls P f args w fun e w' => ∃ v, e = .returned v ∧ R v w')
theorem Runs.mono {P : Program} {ev : Operand → Value} {o : Oper} {w : World} {R R' : Value → World → Prop} (h : Runs P ev o w R) (hr : ∀ v w', R v w' → R' v w') : Runs P ev o w R' := by
  rcases h with ⟨n, v, w', h1, h2, h3⟩ | ⟨f, args, h1, h2⟩
  · exact .inl ⟨n, v, w', h1, h2, hr _ _ h3⟩
  · refine .inr ⟨f, args, h1, Calls.mono h2 ?_⟩
    rintro e w' ⟨v, he, h3⟩
    exact ⟨v, he, hr _ _ h3⟩
theorem Runs.wp {P : Program} {a : Act} {o : Oper} {w : World} {next : Act → World → Prop} {Q : Exit → Act → World → Prop} (h : Runs P a.eval o w fun v w' => next (a.put o.dst v) w') : o.wp P a w next Q := by
  unfold Oper.wp
  rcases h with ⟨n, v, w', h1, h2, h3⟩ | ⟨f, args, h1, h2⟩
  · rw [h1]
    rcases h2 with rfl | ⟨rfl, rfl⟩ <;> exact h3
  · rw [h1, Oper.upon_enter]
    refine Calls.mono h2 ?_
    rintro e w' ⟨v, rfl, h3⟩
    exact h3

theorem toOs_rep {E : Env} {c : Ctx} {w : World} {ev : Operand → Value} {get : MO → PV} (hop : ∀ t x m, toO E.P E.nt t x = some m → RepV w c (get m) (ev x)) : ∀ (ts : List TypeId) (xs : List Operand) (ms : List MO), toOs E.P E.nt ts xs = some ms → RepL w c (ms.map get) (xs.map ev)
  | _, [], ms, h => by simp [toOs] at h; subst h; rfl
  | ts, x :: xs, ms, h => by
    simp only [toOs] at h
    split at h
    · rename_i y ys h1 h2
      cases h
      exact ⟨_, _, rfl, hop _ _ _ h1, toOs_rep hop _ _ _ h2⟩
    · cases h

theorem doOp_mono {P : Program} {key : Key} {get : MO → PV} {hl : Key → Option HE} {i : MI} {K K' : Out → Prop} (h : ∀ o, K o → K' o) (hd : doOp P key get hl i K) : doOp P key get hl i K' := by
  have hc : ∀ f args, doCall P key hl f args K → doCall P key hl f args K' := fun f args hd => by
    rcases hd with ⟨r, h1, h2⟩ | ⟨e, xs, h1, h2⟩
    · exact .inl ⟨r, h1, h _ h2⟩
    · exact .inr ⟨e, xs, h1, h _ h2⟩
  unfold doOp at hd ⊢
  split at hd
  · exact hc _ _ hd
  · split at hd
    · exact hc _ _ hd
    · exact hd.elim
  · split at hd
    · exact fun b hb => h _ (hd b hb)
    · exact fun b hb => h _ (hd b hb)
    · exact hd.elim
  · split at hd
    · exact h _ hd
    · exact hd.elim
theorem doOp_ex {P : Program} {key : Key} {get : MO → PV} {hl : Key → Option HE} {i : MI} {K : Out → Prop} (hd : doOp P key get hl i K) : ∃ o, K o := by
  have hc : ∀ f args, doCall P key hl f args K → ∃ o, K o := fun f args hd => by
    rcases hd with ⟨r, h1, h2⟩ | ⟨e, xs, h1, h2⟩
    · exact ⟨_, h2⟩
    · exact ⟨_, h2⟩
  unfold doOp at hd
  split at hd
  · exact hc _ _ hd
  · split at hd
    · exact hc _ _ hd
    · exact hd.elim
  · split at hd
    · exact ⟨_, hd false (by simp)⟩
    · exact ⟨_, hd false (by simp)⟩
    · exact hd.elim
  · split at hd
    · exact ⟨_, hd⟩
    · exact hd.elim

section
variable {E : Env} {h : List (Key × Option HE)} {c : Ctx} {w : World} {a : Act} {get : MO → PV} {o : Oper} {i : MI} {key : Key}

theorem After.same {r : PV} {v : Value} {p : Prop} {rd : List Nat} (hg : HGood E h c w) (hr : RepV w c r v) : After E h c w key ⟨p, rd, r, []⟩ v w :=
  ⟨c, hg, hr, Ctx.Le.refl c, Mono.refl _ _, fun _ hk => .inl hk⟩

/-- What an instruction comes to, the machine does. -/
theorem doOp_runs (hi : toI E.P E.nt o = some i ∨ i = .bad) (hg : HGood E h c w) (hkey : ¬ c.U key) (hop : Opnd E c w a.eval get i) {K : Out → Prop} (hd : doOp E.P key get (fun k => hk k h) i fun o => o.pre ∧ K o) :
    Runs E.P a.eval o w fun v w' => ∃ out, K out ∧ After E h c w key out v w' := by
  replace hi : toI E.P E.nt o = some i := by
    rcases hi with hi | rfl
    · exact hi
    · exact (show False from hd).elim
  unfold doOp at hd
  split at hd
  · rename_i f args
    obtain ⟨cl, ho, hcl, hc, hargs⟩ := toI_call hi
    have hrep : RepL w c (args.map get) (cl.args.toList.map a.eval) := by
      have : ∀ (ts : List TypeId) (xs : List Operand) (ms : List MO), toOs E.P E.nt ts xs = some ms → (∀ m ∈ ms, m ∈ args) → RepL w c (ms.map get) (xs.map a.eval) := by
        intro ts xs
        induction xs generalizing ts with
        | nil => intro ms h _; simp [toOs] at h; subst h; rfl
        | cons x xs ih =>
          intro ms h hm
          simp only [toOs] at h
          split at h
          · rename_i y ys h1 h2
            cases h
            exact ⟨_, _, rfl, hop _ _ _ h1 (by simpa [MI.ops] using hm y (by simp)), ih _ _ h2 (fun m hm' => hm m (by simp [hm']))⟩
          · cases h
      exact this _ _ _ hargs (fun m h => h)
    obtain ⟨_, hcall⟩ := call_after hg hkey hrep hd
    refine .inr ⟨f, (cl.args.toList.map a.eval).toArray, ?_, Calls.mono hcall ?_⟩
    · rw [run_call ho hcl (a := #[]) (b := #[]) rfl hc]
      congr 2
      apply Array.ext'
      simp
    · rintro e w' ⟨v, he, out, h1, h2⟩
      exact ⟨v, he, out, h1, h2⟩
  · rename_i f args
    split at hd
    · rename_i fid first caps hf
      obtain ⟨cl, t, ho, hcl, ht, rfl, hargs⟩ := toI_dcall hi
      have hft := hop 0 (.tmp t) (.t t) (by simp [toO, ht]) (by simp [MI.ops])
      rw [hf] at hft
      obtain ⟨x, y, e1, r1, r2⟩ := hft
      have hrep : RepL w c (args.map get) (cl.args.toList.map a.eval) := by
        have : ∀ (ts : List TypeId) (xs : List Operand) (ms : List MO), toOs E.P E.nt ts xs = some ms → (∀ m ∈ ms, m ∈ args) → RepL w c (ms.map get) (xs.map a.eval) := by
          intro ts xs
          induction xs generalizing ts with
          | nil => intro ms h _; simp [toOs] at h; subst h; rfl
          | cons x xs ih =>
            intro ms h hm
            simp only [toOs] at h
            split at h
            · rename_i y ys h1 h2
              cases h
              exact ⟨_, _, rfl, hop _ _ _ h1 (by simp [MI.ops]; exact .inr (hm y (by simp))), ih _ _ h2 (fun m hm' => hm m (by simp [hm']))⟩
            · cases h
        exact this _ _ _ hargs (fun m h => h)
      obtain ⟨hc, hcall⟩ := call_after hg hkey (RepL.append (RepL.append r1 hrep) r2) hd
      refine .inr ⟨fid, (x.toList ++ cl.args.toList.map a.eval ++ y.toList).toArray, ?_, Calls.mono hcall ?_⟩
      · rw [run_call ho hcl (a := x) (b := y) e1 hc]
        congr 2
        apply Array.ext'
        simp
      · rintro e w' ⟨v, he, out, h1, h2⟩
        exact ⟨v, he, out, h1, h2⟩
    · exact hd.elim
  · rename_i ne x
    obtain ⟨n1, n2⟩ := nil_does (c := c) (w := w) (get := get) hi (fun _ => rfl) hop
    split at hd
    · rename_i esz full xs hx
      obtain ⟨b, hb, hr⟩ := n1 _ _ _ hx
      exact .inl ⟨_, _, w, hr, .inl rfl, _, (hd b hb).2, After.same hg rfl⟩
    · rename_i g esz off len full hx
      obtain ⟨b, hb, hr⟩ := n2 _ _ _ _ _ hx
      exact .inl ⟨_, _, w, hr, .inl rfl, _, (hd b hb).2, After.same hg rfl⟩
    · exact hd.elim
  · split at hd
    · rename_i out hs
      obtain ⟨n, v, w', c', h1, h2, h3, h4, h5, h6, h7⟩ := op_does hi hg hkey hop hs hd.1
      exact .inl ⟨n, v, w', h1, h2, out, hd.2, c', h3, h4, h5, h6, h7⟩
    · exact hd.elim
end

theorem optOk_strip {w : World} {c : Ctx} {x : PV} {v : Value} (h : RepV w c x v) (ho : optOk true x) : RepV w c (strip x) v := by
  cases x <;> first | exact h | exact h.1 (ho rfl)
theorem optsOk_mem {gb : Bool} {get : MO → PV} : ∀ {xs : List MO} {m : MO}, optsOk gb get xs → m ∈ xs → optOk gb (get m)
  | [], _, _, hm => by simp at hm
  | y :: ys, m, h, hm => by
    rcases List.mem_cons.1 hm with rfl | hm
    · exact h.1
    · exact optsOk_mem h.2 hm

section
variable {E : Env} {st : St} {c : Ctx} {a : Act} {w : World}

/-- What a step leaves. -/
def Left (E : Env) (c : Ctx) (key : Key) (K : Out → St → Prop) (a' : Act) (w' : World) : Prop :=
  ∃ o st' c', K o st' ∧ Good E st' c' a' w' ∧ ∀ k, c'.U k → c.U k ∨ k = key

theorem ite_false_some {α : Type} {q : Bool} {x : Option α} {m : α} (h : (if q = false then none else x) = some m) : x = some m := by
  cases q
  · simp at h
  · simpa using h
theorem toOp_spec {P : Program} {nt : Nat} {ops : Array Oper} {soft : Bool} {o : Oper} {m : MOp} (h : toOp P nt ops soft o = some m) :
    (toI P nt o = some m.i ∨ m.i = .bad) ∧ m.dst = o.dst ∧ ((o.guard = none ∧ m.g = none) ∨ ∃ j want t, o.guard = some (j, want) ∧ (ops[j]?).bind (·.dst) = some t ∧ t < nt ∧ m.g = some (t, want)) := by
  unfold toOp at h
  have h := ite_false_some h
  obtain ⟨i, hi, h⟩ : ∃ i, (toI P nt o = some i ∨ i = .bad) ∧ (match o.guard with
    | none => some { dst := o.dst, i := i }
    | some (j, want) => match (ops[j]?).bind (·.dst) with
      | some t => if t < nt then some { dst := o.dst, i := i, g := some (t, want), soft := soft } else none
      | none => none) = some m := by
    cases hi : toI P nt o with
    | none => rw [hi] at h; exact ⟨.bad, .inr rfl, h⟩
    | some i => rw [hi] at h; exact ⟨i, .inl rfl, h⟩
  cases hg : o.guard with
  | none =>
    rw [hg] at h
    cases h
    exact ⟨hi, rfl, .inl ⟨rfl, rfl⟩⟩
  | some jw =>
    obtain ⟨j, want⟩ := jw
    rw [hg] at h
    simp only at h
    cases ht : (ops[j]?).bind (·.dst) with
    | none => rw [ht] at h; cases h
    | some t =>
      rw [ht] at h
      simp only at h
      split at h
      · rename_i hlt
        cases h
        exact ⟨hi, rfl, .inr ⟨j, want, t, rfl, ht, hlt, rfl⟩⟩
      · cases h

theorem guard_wanted (hg : Good E st c a w) {ops : Array Oper} {o : Oper} {j t : Nat} {want gb : Bool} (ho : o.guard = some (j, want)) (ht : (ops[j]?).bind (·.dst) = some t) (hlt : t < E.nt) (hgb : guardC (lk t st.s) want = some gb) :
    Region.wanted o (yielded ops a.tmps) = gb := by
  obtain ⟨v, hv, hr⟩ := hg.tmp hlt
  simp only [Region.wanted, ho, yielded, ht, Option.bind_some, hv]
  cases hx : lk t st.s with
  | bool b =>
    rw [hx] at hr hgb
    rw [show v = .bool b from hr]
    simp only [guardC, Option.some.injEq] at hgb
    subst hgb
    cases b <;> cases want <;> rfl
  | opt b' x =>
    rw [hx] at hr hgb
    cases x with
    | bool b =>
      simp only [guardC, Option.some.injEq] at hgb
      subst hgb
      cases b' with
      | false =>
        rw [hr.2 rfl]
        simp [undef]
      | true =>
        rw [show v = .bool b from hr.1 rfl]
        cases b <;> cases want <;> rfl
    | _ => simp [guardC] at hgb
  | _ => rw [hx] at hgb; simp [guardC] at hgb

theorem step_sound (hg : Good E st c a w) {ops : Array Oper} {soft : Bool} {o : Oper} {m : MOp} (hm : toOp E.P E.nt ops soft o = some m) {v : Nat} (hkey : ¬ c.U (m.dst.getD 0, v)) {K : Out → St → Prop} (hs : stepOp E.P m v st K) :
    (Region.wanted o (yielded ops a.tmps) = true → Runs E.P a.eval o w fun u w' => Left E c (m.dst.getD 0, v) K (a.put o.dst u) w') ∧
    (Region.wanted o (yielded ops a.tmps) = false → Left E c (m.dst.getD 0, v) K (a.put o.dst undef) w) := by
  obtain ⟨hi, hdst, hgd⟩ := toOp_spec hm
  have hop : Opnd E c w a.eval st.get m.i := fun t x mo h1 h2 => hg.get h1
  have put : ∀ {out : Out} {u : Value} {w' : World}, After E st.h c w (m.dst.getD 0, v) out u w' → ∃ c', Good E (st.put m.dst out) c' (a.put o.dst u) w' ∧ ∀ k, c'.U k → c.U k ∨ k = (m.dst.getD 0, v) := by
    rintro out u w' ⟨c', h1, h2, h3, h4, h5⟩
    exact ⟨c', hg.put (d := o.dst) (r := out.r) (by rw [← hdst]; rfl) h1 h2 h3 h4, h5⟩
  unfold stepOp at hs
  rcases hgd with ⟨hg1, hg2⟩ | ⟨j, want, t, hg1, hg2, hlt, hg3⟩
  · rw [hg2] at hs
    refine ⟨fun _ => ?_, fun hf => by simp [Region.wanted, hg1] at hf⟩
    refine (doOp_runs hi hg.hgood hkey hop hs).mono ?_
    rintro u w' ⟨out, hK, ha⟩
    obtain ⟨c', h1, h2⟩ := put ha
    exact ⟨out, _, c', hK, h1, h2⟩
  · rw [hg3] at hs
    simp only at hs
    split at hs
    · exact hs.elim
    · rename_i gb hgb
      have hw := guard_wanted hg hg1 hg2 hlt hgb
      split at hs
      · -- such as does no harm
        cases gb with
        | true =>
          refine ⟨fun _ => ?_, fun hf => by rw [hw] at hf; cases hf⟩
          have hoo : softOk true st.get m.i := by
            obtain ⟨o', h1, h2, h3⟩ := doOp_ex hs
            exact h2
          have hop' : Opnd E c w a.eval (softGet m.i st.get) m.i := fun t x mo h1 h2 => by
            unfold softGet
            unfold softOk at hoo
            split
            · exact hg.get h1
            · rename_i hnp
              rw [if_neg hnp] at hoo
              exact optOk_strip (hg.get h1) (optsOk_mem hoo h2)
          refine (doOp_runs hi hg.hgood hkey hop' (K := fun o => softOk true st.get m.i ∧ o.hu = [] ∧ K ⟨True, o.rd, .opt true o.r, []⟩ (st.put m.dst ⟨True, o.rd, .opt true o.r, []⟩)) (doOp_mono (fun o ho => ⟨ho.1 rfl, ho.2⟩) hs)).mono ?_
          rintro u w' ⟨out, ⟨_, hhu, hK⟩, c', h1, h2, h3, h4, h5⟩
          rw [hhu] at h1
          exact ⟨_, _, c', hK, hg.put (d := o.dst) (r := .opt true out.r) (by rw [← hdst]; rfl) (by simpa [St.put] using h1) ⟨fun _ => h2, fun h => (by cases h)⟩ h3 h4, h5⟩
        | false =>
          refine ⟨fun hf => (by rw [hw] at hf; cases hf), fun _ => ?_⟩
          obtain ⟨o', h1, h2, h3, hK⟩ := doOp_ex hs
          exact ⟨_, _, c, hK, hg.put (d := o.dst) (r := .opt false o'.r) (by rw [← hdst]; rfl) (by simpa [St.put] using hg.hgood) ⟨fun h => (by cases h), fun _ => rfl⟩ (Ctx.Le.refl c) (Mono.refl _ _), fun _ hk => .inl hk⟩
      · obtain ⟨hs1, hs2⟩ := hs
        cases gb with
        | true =>
          refine ⟨fun _ => ?_, fun hf => by rw [hw] at hf; cases hf⟩
          refine (doOp_runs hi hg.hgood hkey hop (hs1 rfl)).mono ?_
          rintro u w' ⟨out, hK, ha⟩
          obtain ⟨c', h1, h2⟩ := put ha
          exact ⟨out, _, c', hK, h1, h2⟩
        | false =>
          refine ⟨fun hf => (by rw [hw] at hf; cases hf), fun _ => ?_⟩
          exact ⟨_, _, c, hs2 rfl, hg.put (d := o.dst) (r := skipV) (by rw [← hdst]; rfl) (by simpa [St.skip] using hg.hgood) ⟨fun h => (by cases h), fun _ => rfl⟩ (Ctx.Le.refl c) (Mono.refl _ _), fun _ hk => .inl hk⟩

theorem opSem_key {key key' : Key} {get : MO → PV} {hl : Key → Option HE} {i : MI} (h : i.allocs = false) : opSem key get hl i = opSem key' get hl i := by
  cases i <;> first | (cases h; done) | rfl
theorem doOp_key {P : Program} {key key' : Key} {get : MO → PV} {hl : Key → Option HE} {i : MI} (h : i.allocs = false) {K : Out → Prop} : doOp P key get hl i K = doOp P key' get hl i K := by
  unfold doOp
  split
  · cases h
  · cases h
  · rfl
  · rw [opSem_key h]
theorem stepOp_key {P : Program} {m : MOp} {v v' : Nat} (h : m.i.allocs = false) {st : St} {K : Out → St → Prop} : stepOp P m v st K = stepOp P m v' st K := by
  unfold stepOp
  split
  · exact doOp_key h
  · split
    · rfl
    · split
      · exact doOp_key h
      · rw [doOp_key h]

/-- A call that runs in the caller's memory. -/
theorem inl_sound (hg : Good E st c a w) {ops : Array Oper} {soft : Bool} {o : Oper} {m : MOp} (hm : toOp E.P E.nt ops soft o = some m) {K : St → Prop} (hs : Inl E m st K) :
    (Region.wanted o (yielded ops a.tmps) = true → Runs E.P a.eval o w fun u w' => ∃ st' c', K st' ∧ Good E st' c' (a.put o.dst u) w') ∧
    (Region.wanted o (yielded ops a.tmps) = false → ∃ st' c', K st' ∧ Good E st' c' (a.put o.dst undef) w) := by
  obtain ⟨hi, hdst, hgd⟩ := toOp_spec hm
  -- the call itself
  have call : ∀ (f : FuncId) (args : List PV) (vs : List Value), (callable E.P f = true → (execOp a.eval o).run E.P w = .ok (.enter f vs.toArray) w) → RepL w c args vs → InlCall E f args m.dst st K →
      Runs E.P a.eval o w fun u w' => ∃ st' c', K st' ∧ Good E st' c' (a.put o.dst u) w' := fun f args vs hrun hrep hcall => by
    refine .inr ⟨f, vs.toArray, hrun hcall.1, Calls.mono (hcall.2 a c w vs hg hrep) ?_⟩
    rintro e w' ⟨v, he, st', c', hK, hg'⟩
    exact ⟨v, he, st', c', hK, by rw [← hdst]; exact hg'⟩
  have skip : ∀ hK : K (st.skip m.dst), ∃ st' c', K st' ∧ Good E st' c' (a.put o.dst undef) w := fun hK =>
    ⟨_, c, hK, hg.put (d := o.dst) (r := skipV) (by rw [← hdst]; rfl) (by simpa [St.skip] using hg.hgood) ⟨fun h => (by cases h), fun _ => rfl⟩ (Ctx.Le.refl c) (Mono.refl _ _)⟩
  have gated : ∀ (f : FuncId) (args : List PV) (vs : List Value), (callable E.P f = true → (execOp a.eval o).run E.P w = .ok (.enter f vs.toArray) w) → RepL w c args vs → InlG E m.g f args m.dst st K →
      (Region.wanted o (yielded ops a.tmps) = true → Runs E.P a.eval o w fun u w' => ∃ st' c', K st' ∧ Good E st' c' (a.put o.dst u) w') ∧
      (Region.wanted o (yielded ops a.tmps) = false → ∃ st' c', K st' ∧ Good E st' c' (a.put o.dst undef) w) := fun f args vs hrun hrep hG => by
    unfold InlG at hG
    rcases hgd with ⟨hg1, hg2⟩ | ⟨j, want, t, hg1, hg2, hlt, hg3⟩
    · rw [hg2] at hG
      exact ⟨fun _ => call f args vs hrun hrep hG, fun hf => by simp [Region.wanted, hg1] at hf⟩
    · rw [hg3] at hG
      simp only at hG
      split at hG
      · rename_i hgb
        have hw := guard_wanted hg hg1 hg2 hlt hgb
        exact ⟨fun _ => call f args vs hrun hrep hG, fun hf => by rw [hw] at hf; cases hf⟩
      · rename_i hgb
        have hw := guard_wanted hg hg1 hg2 hlt hgb
        exact ⟨fun hf => (by rw [hw] at hf; cases hf), fun _ => skip hG⟩
      · exact hG.elim
  unfold Inl at hs
  split at hs
  · rename_i f args hmi
    rw [hmi] at hi
    obtain ⟨cl, ho, hcl, hc, hargs⟩ := toI_call (hi.resolve_right (by simp))
    refine gated f _ (cl.args.toList.map a.eval) (fun hcb => ?_) (toOs_RepL _ _ _ hargs (fun t x m h _ => hg.get h)) hs
    rw [run_call ho hcl (a := #[]) (b := #[]) rfl hcb]
    congr 2
    apply Array.ext'
    simp
  · rename_i f args hmi
    split at hs
    · rename_i fid first caps hf
      rw [hmi] at hi
      obtain ⟨cl, t, ho, hcl, ht, rfl, hargs⟩ := toI_dcall (hi.resolve_right (by simp))
      have hft := hg.get (t := 0) (x := .tmp t) (m := .t t) (by simp [toO, ht])
      rw [hf] at hft
      obtain ⟨x, y, e1, r1, r2⟩ := hft
      refine gated fid _ (x.toList ++ cl.args.toList.map a.eval ++ y.toList) (fun hcb => ?_) (RepL.append (RepL.append r1 (toOs_RepL _ _ _ hargs (fun t x m h _ => hg.get h))) r2) hs
      rw [run_call ho hcl (a := x) (b := y) e1 hcb]
      congr 2
      apply Array.ext'
      simp
    · exact hs.elim
  · exact hs.elim

/-- A region whose order is fixed. -/
theorem run_sound {ops : Array Oper} {soft : Bool} {Q : Exit → Act → World → Prop} {K : St → Prop} (hQ : ∀ st a w, K st → Rel E st a w → Q .normal a w) : ∀ (l : List Oper) (ms : List MOp) (st : St) (a : Act) (w : World), toOps E.P E.nt ops soft l = some ms →
    Rel E st a w → run E ms st K → wpList E.P ops Q l a w
  | [], ms, st, a, w, h, hr, hk => by
    simp only [toOps, Option.some.injEq] at h
    subst h
    exact hQ st a w hk hr
  | o :: l, ms, st, a, w, h, ⟨c, hg⟩, hk => by
    simp only [toOps] at h
    split at h
    · rename_i m ms' h1 h2
      cases h
      obtain ⟨N, hN⟩ := hg.bnd
      have hkey : ¬ c.U (m.dst.getD 0, N) := fun hu => Nat.lt_irrefl _ (hN _ hu)
      have hor : (stepOp E.P m N st fun _ st' => run E ms' st' K) ∨ Inl E m st fun st' => run E ms' st' K := by
        simp only [run] at hk
        refine hk.imp (fun hk => ?_) id
        split at hk
        · exact hk N
        · rename_i ha
          rw [stepOp_key (v' := 0) (by simpa using ha)]; exact hk
      unfold wpList
      rcases hor with hs | hinl
      · obtain ⟨s1, s2⟩ := step_sound hg h1 hkey hs
        split
        · rename_i hw
          refine .inl (Runs.wp ((s1 hw).mono ?_))
          rintro u w' ⟨_, st', c', hK, hg', _⟩
          exact run_sound hQ l ms' st' _ w' h2 ⟨c', hg'⟩ hK
        · rename_i hw
          obtain ⟨_, st', c', hK, hg', _⟩ := s2 (by simpa using hw)
          exact run_sound hQ l ms' st' _ w h2 ⟨c', hg'⟩ hK
      · obtain ⟨s1, s2⟩ := inl_sound hg h1 hinl
        split
        · rename_i hw
          refine .inl (Runs.wp ((s1 hw).mono ?_))
          rintro u w' ⟨st', c', hK, hg'⟩
          exact run_sound hQ l ms' st' _ w' h2 ⟨c', hg'⟩ hK
        · rename_i hw
          obtain ⟨st', c', hK, hg'⟩ := s2 (by simpa using hw)
          exact run_sound hQ l ms' st' _ w h2 ⟨c', hg'⟩ hK
    · cases h
end
end Go.Proofs.YtjeegophpmpibaaGreatDoor.Pv

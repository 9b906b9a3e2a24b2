/- Calls in the caller's memory; an evaluator for runs on given data, and that it tells the truth. No condition. -/
import Derived.Test.YtjeegophpmpibaaGreatDoorPv19
import Derived.LoopN
set_option linter.unusedSimpArgs false
set_option linter.unusedVariables false
namespace Go.Proofs.YtjeegophpmpibaaGreatDoor.Pv
open Go Go.RowKit

def putS (d : Option Nat) (r : PV) (s : List (Nat × PV)) : List (Nat × PV) := match d with | some t => (t, r) :: s | none => s
def retIn (rs : List RV) (K : PV → List (Key × Option HE) → Prop) : Ex → St → Prop
  | .normal, st | .ret, st => resOk st rs ∧ K (resAll st rs) st.h
  | _, _ => False

/-- The state in which a call begins in the caller's memory, the caller's own slots kept in mind. -/
def ghostOf (E : Env) (s : List (Nat × PV)) (a : Act) : List (PV × Value) := (List.range E.nt).map (fun t => (lk t s, a.tmps.getD t undef)) ++ E.G
theorem inl_begin {E : Env} {s : List (Nat × PV)} {h : List (Key × Option HE)} {a : Act} {c : Ctx} {w : World} {args : List PV} {vs : List Value} {nt : Nat} (hg : Good E ⟨s, h⟩ c a w) (hr : RepL w c args vs) (hn : args.length ≤ nt) :
    Good ⟨E.P, E.w0, E.F0, nt, ghostOf E s a⟩ ⟨(St.init args).s, h⟩ c { tmps := vs.toArray ++ Array.replicate (nt - vs.toArray.size) undef, defers := [] } w := by
  have hl := hr.length
  have hh := hg.hgood
  refine Good.ofH rfl (by simp; omega) ⟨hh.heap, hh.fresh, hh.apart, hh.fz, hh.le, hh.bnd, hh.below⟩ (fun t v hv => ?_) (fun p hp => ?_)
  · simp only [St.init]
    rw [lk_init]
    simp only [Nat.zero_le, if_true, Nat.sub_zero]
    cases hx : args[t]? with
    | none => trivial
    | some x =>
      obtain ⟨u, hu, hru⟩ := RepL.get t x hr hx
      have hlt : t < vs.length := (List.getElem?_eq_some_iff.1 hu).1
      rw [Array.getElem?_append_left (by simpa using hlt)] at hv
      simp only [List.getElem?_toArray] at hv
      rw [hu] at hv
      cases hv
      exact hru
  · rcases List.mem_append.1 hp with hp | hp
    · obtain ⟨t, ht, rfl⟩ := List.mem_map.1 hp
      obtain ⟨v, hv, hr'⟩ := hg.tmp (List.mem_range.1 ht)
      have : a.tmps.getD t undef = v := by simp [Array.getD_eq_getD_getElem?, hv]
      simp only [this]
      exact hr'
    · exact hg.ghost p hp
theorem inl_end {E : Env} {s : List (Nat × PV)} {h : List (Key × Option HE)} {a : Act} {c : Ctx} {w : World} {nt : Nat} (hg : Good E ⟨s, h⟩ c a w) {st' : St} {c' : Ctx} {a' : Act} {w' : World} (hg' : Good ⟨E.P, E.w0, E.F0, nt, ghostOf E s a⟩ st' c' a' w') {d : Option Nat} {r : PV} {v : Value} (hr : RepV w' c' r v) :
    Good E ⟨putS d r s, st'.h⟩ c' (a.put d v) w' := by
  have hh := hg'.hgood
  refine Good.ofH (by cases d <;> exact hg.defers) (by cases d <;> simp [Act.put, hg.size]) ⟨hh.heap, hh.fresh, hh.apart, hh.fz, hh.le, hh.bnd, hh.below⟩ (fun t u hu => ?_) (fun p hp => hg'.ghost p (List.mem_append_right _ hp))
  have old : ∀ t u, a.tmps[t]? = some u → RepV w' c' (lk t s) u := fun t u hu => by
    have ht : t < E.nt := by rw [← hg.size]; exact (Array.getElem?_eq_some_iff.1 hu).1
    have := hg'.ghost (lk t s, a.tmps.getD t undef) (List.mem_append_left _ (List.mem_map.2 ⟨t, List.mem_range.2 ht, rfl⟩))
    have e : a.tmps.getD t undef = u := by simp [Array.getD_eq_getD_getElem?, hu]
    simpa only [e] using this
  cases d with
  | none => exact old t u hu
  | some d =>
    simp only [Act.put, Array.getElem?_setIfInBounds] at hu
    simp only [putS, lk]
    split at hu
    · rename_i e
      subst e
      rw [if_pos rfl]
      split at hu
      · cases hu; exact hr
      · cases hu
    · rename_i e
      rw [if_neg (fun x => e x.symm)]
      exact old t u hu

theorem InlCall.of {E : Env} {f nt : Nat} {m : MC} {rs : List RV} {args : List PV} {d : Option Nat} {st : St} {K : St → Prop} (hmix : E.P.follows .mixedOrders = true) (hm : mfOf E.P f = some (m, nt, rs)) (hn : args.length ≤ nt)
    (h : ∀ G, XC ⟨E.P, E.w0, E.F0, nt, G⟩ m ⟨(St.init args).s, st.h⟩ [] (retIn rs fun r h' => K ⟨putS d r st.s, h'⟩)) : InlCall E f args d st K := by
  obtain ⟨fn, c0, hf, hc, hb, rfl, htm, hrs⟩ := mfOf_spec hm
  refine ⟨hc, fun a c w vs hg hr => calls_of_wp hf hb ?_⟩
  obtain ⟨s, hp⟩ := st
  refine wp_mono (exec_sound (E := ⟨E.P, E.w0, E.F0, fn.ntmps, ghostOf E s a⟩) hmix c0 m _ _ w _ htm ⟨c, inl_begin hg hr hn⟩ (h _)) ?_
  rintro e a' w' ⟨ex, st', rfl, hq, c', hg'⟩
  have key : ∀ q : resOk st' rs ∧ K ⟨putS d (resAll st' rs) s, st'.h⟩, a'.defers = [] ∧ ∃ v, (results fn a'.tmps).run E.P w' = .ok v w' ∧ ∃ v', Ending.returned v = .returned v' ∧ ∃ st'' c'', K st'' ∧ Good E st'' c'' (a.put d v') w' := by
    rintro ⟨q1, q2⟩
    obtain ⟨v, k1, k2⟩ := resAll_run hg' hrs q1
    exact ⟨hg'.defers, v, k1, v, rfl, _, c', q2, inl_end hg hg' k2⟩
  cases ex with
  | normal => exact key hq
  | ret => exact key hq
  | exit id => exact hq.elim
  | goto l => exact hq.elim
theorem XCall.inl {E : Env} {f nt : Nat} {m : MC} {rs : List RV} {args : List PV} {d : Option Nat} {ms : List MOp} {st : St} {ks : List KF} {Q : Ex → St → Prop} (hmix : E.P.follows .mixedOrders = true) (hm : mfOf E.P f = some (m, nt, rs)) (hn : args.length ≤ nt)
    (h : ∀ G, XC ⟨E.P, E.w0, E.F0, nt, G⟩ m ⟨(St.init args).s, st.h⟩ [] (retIn rs fun r h' => XR E ms ⟨putS d r st.s, h'⟩ ks Q)) : XCall E f args d ms st ks Q := .inr (InlCall.of hmix hm hn h)

/-! What must hold, as a test -/
mutual
def ok0B (hl : Key → Option HE) : PV → Bool
  | .own g _ off len _ => match hl g with | some e => !e.bx && decide (off + len ≤ e.xs.length) | none => false
  | .agg cs => ok0LB hl cs
  | .tup cs => ok0LB hl cs
  | .fn _ a b => ok0LB hl a && ok0LB hl b
  | .iface _ x => ok0B hl x
  | _ => true
def ok0LB (hl : Key → Option HE) : List PV → Bool
  | [] => true
  | x :: xs => ok0B hl x && ok0LB hl xs
end
mutual
def okVB (hl : Key → Option HE) : PV → Bool
  | .own g _ off len _ => match hl g with | some e => !e.bx && decide (off + len ≤ e.xs.length) | none => false
  | .ptr g _ i off => match hl g with | some e => decide (i < e.xs.length) && ok0LB hl ((e.xs.getD i []).drop off) | none => false
  | .agg cs => okLB hl cs
  | .tup cs => okLB hl cs
  | .fn _ a b => okLB hl a && okLB hl b
  | .iface _ x => okVB hl x
  | _ => true
def okLB (hl : Key → Option HE) : List PV → Bool
  | [] => true
  | x :: xs => okVB hl x && okLB hl xs
end
mutual
theorem ok0B_ok {hl : Key → Option HE} : ∀ x : PV, ok0B hl x = true → ok0 hl x
  | .own g _ off len _, h => by
    simp only [ok0B] at h
    simp only [ok0]
    split at h <;> simp_all
  | .agg cs, h => ok0LB_ok cs h
  | .tup cs, h => ok0LB_ok cs h
  | .fn _ a b, h => by
    simp only [ok0B, Bool.and_eq_true] at h
    exact ⟨ok0LB_ok a h.1, ok0LB_ok b h.2⟩
  | .iface _ x, h => ok0B_ok x h
  | .undef, _ | .bool _, _ | .int _ _, _ | .str _, _ | .nilp, _ | .nilf, _ | .nili, _ | .vec _ _ _, _ | .ref _, _ | .ptr _ _ _ _, _ | .opt _ _, _ | .raw _, _ => by simp [ok0]
theorem ok0LB_ok {hl : Key → Option HE} : ∀ xs : List PV, ok0LB hl xs = true → ok0L hl xs
  | [], _ => trivial
  | x :: xs, h => by
    simp only [ok0LB, Bool.and_eq_true] at h
    exact ⟨ok0B_ok x h.1, ok0LB_ok xs h.2⟩
end
mutual
theorem okVB_ok {hl : Key → Option HE} : ∀ x : PV, okVB hl x = true → okV hl x
  | .own g _ off len _, h => by
    simp only [okVB] at h
    simp only [okV]
    split at h <;> simp_all
  | .ptr g _ i off, h => by
    simp only [okVB] at h
    simp only [okV]
    split at h
    · rename_i e he
      simp only [he, Bool.and_eq_true, decide_eq_true_eq] at h ⊢
      exact ⟨h.1, ok0LB_ok _ h.2⟩
    · cases h
  | .agg cs, h => okLB_ok cs h
  | .tup cs, h => okLB_ok cs h
  | .fn _ a b, h => by
    simp only [okVB, Bool.and_eq_true] at h
    exact ⟨okLB_ok a h.1, okLB_ok b h.2⟩
  | .iface _ x, h => okVB_ok x h
  | .undef, _ | .bool _, _ | .int _ _, _ | .str _, _ | .nilp, _ | .nilf, _ | .nili, _ | .vec _ _ _, _ | .ref _, _ | .opt _ _, _ | .raw _, _ => by simp [okV]
theorem okLB_ok {hl : Key → Option HE} : ∀ xs : List PV, okLB hl xs = true → okL hl xs
  | [], _ => trivial
  | x :: xs, h => by
    simp only [okLB, Bool.and_eq_true] at h
    exact ⟨okVB_ok x h.1, okLB_ok xs h.2⟩
end
def fillOkB : Nat → List (Nat × Nat × PV) → Bool
  | _, [] => true
  | n, (off, sz, x) :: ps => decide ((cells x).length = sz) && decide (off + sz ≤ n) && storable x && fillOkB n ps
theorem fillOkB_ok {n : Nat} : ∀ ps, fillOkB n ps = true → fillOk n ps
  | [], _ => trivial
  | (off, sz, x) :: ps, h => by
    simp only [fillOkB, Bool.and_eq_true, decide_eq_true_eq] at h
    exact ⟨⟨h.1.1.1, h.1.1.2, h.1.2⟩, fillOkB_ok ps h.2⟩
def fillROkB (esz : Nat) : Nat → List (Nat × PV) → Bool
  | _, [] => true
  | n, (i, x) :: ps => decide ((cells x).length = esz) && decide (i < n) && storable x && fillROkB esz n ps
theorem fillROkB_ok {esz n : Nat} : ∀ ps, fillROkB esz n ps = true → fillROk esz n ps
  | [], _ => trivial
  | (i, x) :: ps, h => by
    simp only [fillROkB, Bool.and_eq_true, decide_eq_true_eq] at h
    exact ⟨⟨h.1.1.1, h.1.1.2, h.1.2⟩, fillROkB_ok ps h.2⟩
def binB (op : BinOp) : PV → PV → Bool
  | .int _ _, .int _ b => match op with
    | .shl | .shr => decide (0 ≤ b)
    | .quo | .rem => decide (b ≠ 0)
    | _ => true
  | .str a, .str b => match op with
    | .add => decide (a.size + b.size ≤ LIM)
    | _ => true
  | _, _ => true
theorem binB_ok {op : BinOp} {cls : Nat} {x y : PV} {p : Prop} {r : PV} (hs : binSem op cls x y = some (p, r)) (h : binB op x y = true) : p := by
  cases x <;> cases y <;> first | (simp [binSem] at hs; done) | skip
  case bool.bool a b =>
    simp only [binSem] at hs
    split at hs
    · cases op <;> simp at hs <;> exact hs.1
    · cases hs
  case int.int k a k' b =>
    cases op <;> simp only [binSem, ne_eq, Option.some.injEq, Prod.mk.injEq, reduceCtorEq] at hs <;> simp only [binB, decide_eq_true_eq] at h
    all_goals first
      | (obtain ⟨rfl, _⟩ := hs; first | trivial | exact h)
      | (split at hs
         · cases hs
         · simp only [Option.some.injEq, Prod.mk.injEq, reduceCtorEq] at hs
           obtain ⟨rfl, _⟩ := hs
           first | trivial | exact h)
      | (split at hs <;> simp at hs <;> (obtain ⟨rfl, _⟩ := hs; first | trivial | exact h))
  case str.str a b =>
    cases op <;> simp only [binSem, Option.some.injEq, Prod.mk.injEq, reduceCtorEq] at hs <;> simp only [binB, decide_eq_true_eq] at h
    all_goals (obtain ⟨rfl, _⟩ := hs; first | trivial | exact h)
end Go.Proofs.YtjeegophpmpibaaGreatDoor.Pv

/- What a call leaves, in the caller's terms. No condition. -/
import Derived.Test.YtjeegophpmpibaaGreatDoorPv12
set_option linter.unusedSimpArgs false
set_option linter.unusedVariables false
namespace Go.Proofs.YtjeegophpmpibaaGreatDoor.Pv
open Go Go.RowKit

/-- What an operation leaves: a value, a memory, a context. -/
def After (E : Env) (h : List (Key × Option HE)) (c : Ctx) (w : World) (key : Key) (out : Out) (v : Value) (w' : World) : Prop :=
  ∃ c', HGood E (out.hu ++ h) c' w' ∧ RepV w' c' out.r v ∧ c.Le c' ∧ Mono c.Fz w w' ∧ ∀ k, c'.U k → c.U k ∨ k = key

mutual
theorem scalar_rep {w : World} {c c' : Ctx} : ∀ (x : PV) (v : Value), scalar x = true → RepV w c x v → RepV w c' x v
  | .bool _, _, _, h => h
  | .int _ _, _, _, h => h
  | .str _, _, _, h => h
  | .nilp, _, _, h => h
  | .nilf, _, _, h => h
  | .nili, _, _, h => h
  | .tup cs, v, hs, h => by
    obtain ⟨vs, e, h1⟩ := h
    exact ⟨vs, e, scalarL_rep cs _ hs h1⟩
  | .agg cs, v, hs, h => by
    obtain ⟨vs, e, h1, h2⟩ := h
    exact ⟨vs, e, scalarL_rep cs _ hs h1, h2⟩
  | .undef, _, hs, _ | .vec _ _ _, _, hs, _ | .ref _, _, hs, _ | .own _ _ _ _ _, _, hs, _ | .ptr _ _ _ _, _, hs, _ | .fn _ _ _, _, hs, _ | .iface _ _, _, hs, _ | .opt _ _, _, hs, _ | .raw _, _, hs, _ => by
    simp [scalar] at hs
theorem scalarL_rep {w : World} {c c' : Ctx} : ∀ (xs : List PV) (vs : List Value), scalarL xs = true → RepL w c xs vs → RepL w c' xs vs
  | [], _, _, h => h
  | x :: xs, _, hs, h => by
    simp only [scalarL, Bool.and_eq_true] at hs
    obtain ⟨u, us, e, h1, h2⟩ := h
    exact ⟨u, us, e, scalar_rep x u hs.1 h1, scalarL_rep xs us hs.2 h2⟩
end

theorem dctx_le {F : Nat → Prop} {c' : Ctx} (h : ∀ b, F b → c'.Fz b) : (dctx F).Le c' := ⟨fun _ h => h.elim, fun _ h => h.elim, fun _ h => h.elim, h⟩
theorem le_dctx {F : Nat → Prop} {c : Ctx} (h : ∀ b, c.Fz b → F b) : c.d.Le (dctx F) := ⟨fun _ h => h.elim, fun _ h => h.elim, fun _ h => h.elim, h⟩
theorem mono_below {F : Nat → Prop} {w w' : World} (hF : ∀ b, F b → b < w.heap.size) (hb : Bel w.heap.size w w') : Mono F w w' :=
  ⟨hb.size, fun b h => hb.block b (hF b h), fun b cs el fr h => ⟨cs, fr, by rw [hb.block b (Array.getElem?_eq_some_iff.1 h).1]; exact h, rfl⟩⟩

section
variable {E : Env} {h : List (Key × Option HE)} {c : Ctx} {w : World} {key : Key} {out : Out}

/-- Memory grows by what a call lays; more blocks are written no more. -/
theorem HGood.grow (hg : HGood E h c w) {w' : World} (hb : Bel w.heap.size w w') {F' : Nat → Prop} (h1 : ∀ b, c.Fz b → F' b) (h2 : ∀ b, F' b → b < w'.heap.size ∧ (c.Fz b ∨ w.heap.size ≤ b)) :
    HGood E h ⟨c.β, c.es, c.U, F'⟩ w' ∧ Mono c.Fz w w' ∧ c.Le ⟨c.β, c.es, c.U, F'⟩ := by
  have hm : Mono c.Fz w w' := mono_below (fun b hb => (hg.fz b hb).1) hb
  have hle : c.Le ⟨c.β, c.es, c.U, F'⟩ := ⟨fun _ h => h, fun _ _ => rfl, fun _ _ => rfl, h1⟩
  refine ⟨⟨fun k e he => ?_, fun k e ad he had => ?_, fun k k' e e' ad ad' he he' had had' hne => hg.apart k k' e e' ad ad' he he' had had' hne, fun b hb' => ?_, fun b hb' => h1 b (hg.le b hb'), hg.bnd, hg.below.trans (hb.mono hg.below.size)⟩, hm, hle⟩
  · refine (hg.heap k e he).mono hm hle (fun ad had => ⟨fun hf => ?_, h1 _⟩) (fun ad had => hb.block _ (hg.fresh k e ad he had).2)
    rcases (h2 _ hf).2 with h3 | h3
    · exact h3
    · have := (hg.fresh k e ad he had).2
      omega
  · have := hg.fresh k e ad he had
    exact ⟨this.1, Nat.lt_of_lt_of_le this.2 hb.size⟩
  · obtain ⟨h3, h4⟩ := h2 b hb'
    refine ⟨h3, ?_⟩
    rcases h4 with h4 | h4
    · exact (hg.fz b h4).2
    · exact .inr (Nat.le_trans hg.below.size h4)

theorem blocksOf_nil (b : Nat) : ¬ blocksOf h c [] b := fun hb => by
  obtain ⟨k, hk, _⟩ := hb
  simp at hk

/-- A call whose result is read, not owned. -/
theorem ret_after {P : Program} (hg : HGood E h c w) {args : List PV} {vs : List Value} {f : FuncId} {r : PV} (hargs : RepL w c args vs) (hok : okL (fun k => hk k h) args) (hr : Ret P f (reifyL (fun k => hk k h) args) r) :
    Calls P f vs.toArray w fun e w' => ∃ v, e = .returned v ∧ After E h c w key (callOut (fun k => hk k h) args r) v w' := by
  have hgf := hg.freeze (keysL (fun k => hk k h) args)
  have harg := reifyL_rep hg (c1 := frzCtx h c (keysL (fun k => hk k h) args)) (fun _ hb => .inl hb) args vs hargs hok (fun _ hb => .inr hb)
  refine Calls.mono (hr.2 w (frzCtx h c (keysL (fun k => hk k h) args)).Fz vs (fun b hb => (hgf.fz b hb).1) (RepL.mono _ _ (Mono.refl _ _) (le_dctx (fun _ h => h)) harg)) ?_
  rintro e w' ⟨v, F', rfl, hb, h1, h2, h3⟩
  refine ⟨v, rfl, ?_⟩
  unfold callOut
  by_cases hemp : (keysL (fun k => hk k h) args).isEmpty = true
  · -- nothing of the caller's was handed on
    have hk0 : keysL (fun k => hk k h) args = [] := by simpa using hemp
    obtain ⟨g1, g2, g3⟩ := hg.grow hb (F' := F') (fun b hb' => h1 b (.inl hb')) (fun b hb' => by
      obtain ⟨a1, a2⟩ := h2 b hb'
      refine ⟨a1, a2.imp (fun a2 => ?_) id⟩
      rcases a2 with a2 | a2
      · exact a2
      · rw [hk0] at a2; exact (blocksOf_nil b a2).elim)
    exact ⟨⟨c.β, c.es, c.U, F'⟩, by simpa [hemp] using g1, RepV.mono _ _ (Mono.refl _ _) (dctx_le (fun _ h => h)) h3, g3, g2, fun _ hk => .inl hk⟩
  · by_cases hs : scalar r = true
    · obtain ⟨g1, g2, g3⟩ := hg.grow hb (F' := c.Fz) (fun b hb' => hb') (fun b hb' => ⟨Nat.lt_of_lt_of_le (hg.fz b hb').1 hb.size, .inl hb'⟩)
      exact ⟨_, by simpa [hs] using g1, scalar_rep _ _ hs h3, g3, g2, fun _ hk => .inl hk⟩
    · obtain ⟨g1, g2, g3⟩ := hgf.grow hb (F' := F') h1 h2
      have g1' : HGood E (freezeAll (fun k => hk k h) (keysL (fun k => hk k h) args) ++ h) ⟨c.β, c.es, c.U, F'⟩ w' := g1
      refine ⟨⟨c.β, c.es, c.U, F'⟩, by simpa [hemp, hs] using g1', RepV.mono _ _ (Mono.refl _ _) (dctx_le (fun _ h => h)) h3, frz_le.trans g3, g2.weaken (fun _ hb => .inl hb), fun _ hk => .inl hk⟩

/-- A call whose result is a slice of the caller's own from then on. -/
theorem retO_after {P : Program} (hg : HGood E h c w) (hkey : ¬ c.U key) {args : List PV} {vs : List Value} {f : FuncId} {esz : Nat} {xs : List (List PV)} (hargs : RepL w c args vs) (hok : okL (fun k => hk k h) args) (hr : RetO P f (reifyL (fun k => hk k h) args) esz xs) :
    Calls P f vs.toArray w fun e w' => ∃ v, e = .returned v ∧ After E h c w key (callOutO (fun k => hk k h) args key esz xs) v w' := by
  have hgf := hg.freeze (keysL (fun k => hk k h) args)
  have harg := reifyL_rep hg (c1 := frzCtx h c (keysL (fun k => hk k h) args)) (fun _ hb => .inl hb) args vs hargs hok (fun _ hb => .inr hb)
  refine Calls.mono (hr.2 w (frzCtx h c (keysL (fun k => hk k h) args)).Fz vs (fun b hb => (hgf.fz b hb).1) (RepL.mono _ _ (Mono.refl _ _) (le_dctx (fun _ h => h)) harg)) ?_
  rintro e w' ⟨v, F', a, rfl, hb, h1, h2, h3, h4, h5⟩
  refine ⟨v, rfl, ?_⟩
  obtain ⟨g1, g2, g3⟩ := hgf.grow hb (F' := F') h1 h2
  generalize hc1 : (⟨(frzCtx h c (keysL (fun k => hk k h) args)).β, (frzCtx h c (keysL (fun k => hk k h) args)).es, (frzCtx h c (keysL (fun k => hk k h) args)).U, F'⟩ : Ctx) = c1 at g1 g3
  have hU : c1.U = c.U := by rw [← hc1]; rfl
  have hF : c1.Fz = F' := by rw [← hc1]
  have hβ1 : c1.β = c.β := by rw [← hc1]; rfl
  have hkey1 : ¬ c1.U key := by rw [hU]; exact hkey
  have hle := newCtx_le (a := a) (n := esz) hkey1
  have hβ : ∀ k, k ≠ key → (newCtx c1 key a esz).β k = c1.β k := fun k hk => if_neg hk
  have hβk : (newCtx c1 key a esz).β key = a := if_pos rfl
  obtain ⟨p1, p2, p3⟩ := h4
  refine ⟨newCtx c1 key a esz, ⟨fun k e he => ?_, fun k e ad he had => ?_, fun k k' e e' ad ad' he he' had had' hne => ?_, fun b hb' => ?_, g1.le, newCtx_bnd g1.bnd, g1.below⟩, ?_, (frz_le.trans g3).trans hle, g2.weaken (fun _ hb => .inl hb), fun k hk => by rw [← hU]; exact hk⟩
  · simp only [callOutO, List.cons_append, hk_cons] at he
    split at he
    · rename_i e1
      subst e1
      obtain rfl := Option.some.inj he
      refine ⟨.inr rfl, (if_pos rfl).symm, ?_⟩
      rw [hβk]
      clear hβ hle hβk h3 h5 p1 p2
      cases a with
      | none => exact p3
      | some ad =>
        obtain ⟨q1, q2, q3, q4⟩ := p3
        refine ⟨q1, q2, RepRows.mono _ _ rfl _ _ (c := (octx (some ad) esz F').d) (c' := (newCtx c1 k (some ad) esz).d) (Mono.refl _ _) (Ctx.Le.d (fun b hb' => ?_)) q3, ?_⟩
        · show c1.Fz b
          rw [hF]; exact hb'
        · show c1.Fz ad.block ↔ _
          rw [hF]; exact q4
    · rename_i hne
      exact (g1.heap k e he).mono (Mono.refl _ _) hle (fun _ _ => Iff.rfl) (fun _ _ => rfl)
  · simp only [callOutO, List.cons_append, hk_cons] at he
    split at he
    · rename_i e1
      subst e1
      rw [hβk] at had
      subst had
      obtain ⟨_, ⟨cs, el, fr, q2, _⟩, _⟩ := p3
      exact ⟨Nat.le_trans hg.below.size (h5 ad rfl), (Array.getElem?_eq_some_iff.1 q2).1⟩
    · rename_i hne
      rw [hβ k hne] at had
      exact g1.fresh k e ad he had
  · have old : ∀ k e ad, hk k (freezeAll (fun k => hk k h) (keysL (fun k => hk k h) args) ++ h) = some e → c1.β k = some ad → ad.block < w.heap.size := fun k e ad hk hb' => by
      rw [hβ1] at hb'
      exact (hgf.fresh k e ad hk hb').2
    simp only [callOutO, List.cons_append, hk_cons] at he he'
    split at he
    · rename_i e1
      subst e1
      rw [hβk] at had
      rw [if_neg (fun e => hne e.symm)] at he'
      rw [hβ k' (fun e => hne e.symm)] at had'
      have := old k' e' ad' he' had'
      have := h5 ad had
      omega
    · rename_i h1'
      rw [hβ k h1'] at had
      split at he'
      · rename_i e2
        subst e2
        rw [hβk] at had'
        have := old k e ad he had
        have := h5 ad' had'
        omega
      · rename_i h2'
        rw [hβ k' h2'] at had'
        exact g1.apart k k' e e' ad ad' he he' had had' hne
  · have : c1.Fz b := hb'
    exact g1.fz b this
  · obtain ⟨q1, q2, q3, a', cap, q4, q5, q6, q7, q8, q9⟩ := h3
    refine ⟨.inr rfl, (if_pos rfl).symm, q3, a', cap, q4, q5, q6, q7, q8, ?_⟩
    rw [hβk]
    exact q9

/-- A call, by its contract. -/
theorem call_after {P : Program} (hg : HGood E h c w) (hkey : ¬ c.U key) {args : List PV} {vs : List Value} {f : FuncId} {K : Out → Prop} (hargs : RepL w c args vs) (hd : doCall P key (fun k => hk k h) f args fun o => o.pre ∧ K o) :
    callable P f = true ∧ Calls P f vs.toArray w fun e w' => ∃ v, e = .returned v ∧ ∃ o, K o ∧ After E h c w key o v w' := by
  rcases hd with ⟨r, hr, hp, hK⟩ | ⟨esz, xs, hr, hp, hK⟩
  · refine ⟨hr.1, Calls.mono (ret_after (key := key) hg hargs hp hr) ?_⟩
    rintro e w' ⟨v, he, ha⟩
    exact ⟨v, he, _, hK, ha⟩
  · refine ⟨hr.1, Calls.mono (retO_after hg hkey hargs hp hr) ?_⟩
    rintro e w' ⟨v, he, ha⟩
    exact ⟨v, he, _, hK, ha⟩
end
end Go.Proofs.YtjeegophpmpibaaGreatDoor.Pv

/- States that say less; loops; a function's run makes its contract. No condition. -/
import Derived.Test.YtjeegophpmpibaaGreatDoorPv18
set_option linter.unusedSimpArgs false
set_option linter.unusedVariables false
namespace Go.Proofs.YtjeegophpmpibaaGreatDoor.Pv
open Go Go.RowKit

mutual
theorem leV_refl (hl : Key → Option HE) : ∀ x : PV, leV hl x x
  | .vec _ _ _ => by simp [leV]
  | .own _ _ _ _ _ => by simp [leV]
  | .agg cs => by simp only [leV]; exact leL_refl hl cs
  | .undef | .bool _ | .int _ _ | .str _ | .nilp | .nilf | .nili | .ref _ | .ptr _ _ _ _ | .tup _ | .fn _ _ _ | .iface _ _ | .opt _ _ | .raw _ => by simp [leV]
theorem leL_refl (hl : Key → Option HE) : ∀ xs : List PV, leL hl xs xs
  | [] => by simp [leL]
  | x :: xs => by simp only [leL]; exact ⟨leV_refl hl x, leL_refl hl xs⟩
end
theorem leR_refl (hl : Key → Option HE) : ∀ xs : List (List PV), leR hl xs xs
  | [] => by simp [leR]
  | x :: xs => by simp only [leR]; exact ⟨leL_refl hl x, leR_refl hl xs⟩
theorem leV_undef (hl : Key → Option HE) (x : PV) : leV hl x .undef := by
  cases x <;> simp [leV]

theorem sel_d (c : Ctx) (q : Bool) : Ctx.d (if q then c else c.d) = c.d := by cases q <;> rfl
section
variable {E : Env} {h : List (Key × Option HE)} {c : Ctx} {w : World}
mutual
theorem leV_rep (hg : HGood E h c w) (q : Bool) : ∀ (x y : PV) (v : Value), leV (fun k => hk k h) x y → RepV w (if q then c else c.d) x v → RepV w (if q then c else c.d) y v
  | .vec e f xs, y, v, hl, hr => by
    simp only [leV] at hl
    split at hl
    · obtain ⟨rfl, rfl, hf⟩ := hl
      obtain ⟨a, cap, q1, q2, q3, q4, q5, q6⟩ := hr
      exact ⟨a, cap, q1, q2, q3, q4, fun h => q5 (hf h), q6⟩
    · trivial
    · exact hl.elim
  | .own g e o l f, y, v, hl, hr => by
    cases q with
    | false =>
      have hr' : RepV w c.d (.own g e o l f) v := by simpa using hr
      exact hr'.1.elim
    | true =>
      simp only [if_true] at hr ⊢
      simp only [leV] at hl
      split at hl
      · obtain ⟨rfl, rfl, rfl, rfl, hf⟩ := hl
        obtain ⟨g1, g2, g3, a, cap, q1, q2, q3, q4, q5, q6⟩ := hr
        exact ⟨g1, g2, g3, a, cap, q1, q2, q3, q4, fun h => q5 (hf h), q6⟩
      · rename_i e' f' xs'
        obtain ⟨hl, rfl, rfl⟩ := hl
        cases he : hk g h with
        | none => rw [he] at hl; exact hl.elim
        | some en =>
          rw [he] at hl
          obtain ⟨h1, h2, h3, rfl⟩ := hl
          refine own_rep hg (c1 := c) (fun _ h => h) he hr h2 h3 (fun b hb => ?_)
          obtain ⟨k, hk, e2, he2, ad, had, rfl⟩ := hb
          simp only [List.mem_singleton] at hk
          subst hk
          rw [he] at he2
          cases he2
          have hh := hg.heap _ _ he
          obtain ⟨_, _, hh⟩ := hh
          rw [had] at hh
          exact hh.2.2.2.2 h1
      · trivial
      · exact hl.elim
  | .agg cs, y, v, hl, hr => by
    simp only [leV] at hl
    split at hl
    · obtain ⟨vs, e, h1, h2⟩ := hr
      exact ⟨vs, e, leL_rep hg q _ _ _ hl h1, h2⟩
    · trivial
    · exact hl.elim
  | .undef, y, v, hl, hr | .bool _, y, v, hl, hr | .int _ _, y, v, hl, hr | .str _, y, v, hl, hr | .nilp, y, v, hl, hr | .nilf, y, v, hl, hr | .nili, y, v, hl, hr | .ref _, y, v, hl, hr | .ptr _ _ _ _, y, v, hl, hr | .tup _, y, v, hl, hr | .fn _ _ _, y, v, hl, hr | .iface _ _, y, v, hl, hr | .opt _ _, y, v, hl, hr | .raw _, y, v, hl, hr => by
    simp only [leV] at hl
    rcases hl with rfl | rfl
    · trivial
    · exact hr
theorem leL_rep (hg : HGood E h c w) (q : Bool) : ∀ (xs ys : List PV) (vs : List Value), leL (fun k => hk k h) xs ys → RepL w (if q then c else c.d) xs vs → RepL w (if q then c else c.d) ys vs
  | [], ys, vs, hl, hr => by
    simp only [leL] at hl
    subst hl; exact hr
  | x :: xs, ys, vs, hl, hr => by
    simp only [leL] at hl
    split at hl
    · obtain ⟨u, us, rfl, h1, h2⟩ := hr
      exact ⟨u, us, rfl, leV_rep hg q _ _ _ hl.1 h1, leL_rep hg q _ _ _ hl.2 h2⟩
    · exact hl.elim
end
theorem leAt_rep (hg : HGood E h c w) (q : Bool) (b : Nat) : ∀ (o : Nat) (xs ys : List PV), leL (fun k => hk k h) xs ys → RepAt w (if q then c else c.d) b o xs → RepAt w (if q then c else c.d) b o ys ∧ ys.length = xs.length
  | o, [], ys, hl, hr => by
    simp only [leL] at hl
    subst hl; exact ⟨hr, rfl⟩
  | o, x :: xs, ys, hl, hr => by
    simp only [leL] at hl
    split at hl
    · obtain ⟨⟨v, h1, h2, h3⟩, h4⟩ := hr
      obtain ⟨k1, k2⟩ := leAt_rep hg q b (o + 1) _ _ hl.2 h4
      exact ⟨⟨⟨v, h1, h2, leV_rep hg q _ _ _ hl.1 h3⟩, k1⟩, by simp [k2]⟩
    · exact hl.elim
theorem leRows_rep (hg : HGood E h c w) (q : Bool) (esz b : Nat) : ∀ (o : Nat) (xs ys : List (List PV)), leR (fun k => hk k h) xs ys → RepRows w (if q then c else c.d) esz b o xs → RepRows w (if q then c else c.d) esz b o ys ∧ ys.length = xs.length
  | o, [], ys, hl, hr => by
    simp only [leR] at hl
    subst hl; exact ⟨hr, rfl⟩
  | o, x :: xs, ys, hl, hr => by
    simp only [leR] at hl
    split at hl
    · obtain ⟨h1, h2, h3⟩ := hr
      obtain ⟨k1, k2⟩ := leAt_rep hg q b o _ _ hl.1 h2
      obtain ⟨k3, k4⟩ := leRows_rep hg q esz b (o + esz) _ _ hl.2 h3
      exact ⟨⟨k2.trans h1, k1, k3⟩, by simp [k4]⟩
    · exact hl.elim
end

def subS (hl : Key → Option HE) : List (Nat × PV) → List (Nat × PV) → Prop
  | [], _ => True
  | (t, x) :: l, s => leV hl (lk t s) x ∧ subS hl l s
def leE (hl : Key → Option HE) : Option HE → Option HE → Prop
  | _, none => True
  | some e, some e' => e.esz = e'.esz ∧ e.fz = e'.fz ∧ e.bx = e'.bx ∧ leR hl e.xs e'.xs
  | none, some _ => False
def subH (hl : Key → Option HE) : List (Key × Option HE) → List (Key × Option HE) → Prop
  | [], _ => True
  | (k, e) :: l, h => leE hl (hk k h) e ∧ subH hl l h
theorem subS_lk {hl : Key → Option HE} {s : List (Nat × PV)} (t : Nat) : ∀ {s' : List (Nat × PV)}, subS hl s' s → leV hl (lk t s) (lk t s')
  | [], _ => leV_undef hl _
  | (u, x) :: l, h => by
    simp only [lk]
    split
    · rename_i e; subst e; exact h.1
    · exact subS_lk t h.2
theorem subH_hk {hl : Key → Option HE} {s : List (Key × Option HE)} (t : Key) : ∀ {s' : List (Key × Option HE)}, subH hl s' s → leE hl (hk t s) (hk t s')
  | [], _ => trivial
  | (u, x) :: l, h => by
    simp only [hk]
    split
    · rename_i e; subst e; exact h.1
    · exact subH_hk t h.2

/-- Of the same machine st' says no more than st. -/
def Le (E : Env) (st st' : St) : Prop := ∀ a w, Rel E st a w → Rel E st' a w
theorem Le.refl (E : Env) (st : St) : Le E st st := fun _ _ h => h
theorem Le.trans {E : Env} {s1 s2 s3 : St} (h : Le E s1 s2) (k : Le E s2 s3) : Le E s1 s3 := fun a w hr => k a w (h a w hr)
theorem Good.ofH {E : Env} {st : St} {c : Ctx} {a : Act} {w : World} (hd : a.defers = []) (hs : a.tmps.size = E.nt) (hh : HGood E st.h c w) (hl : ∀ t v, a.tmps[t]? = some v → RepV w c (lk t st.s) v) (hgh : ∀ p ∈ E.G, RepV w c p.1 p.2) : Good E st c a w :=
  ⟨hd, hs, hl, hh.heap, hh.fresh, hh.apart, hh.fz, hh.le, hh.bnd, hh.below, hgh⟩
theorem Le.of {E : Env} {s s' : List (Nat × PV)} {h h' : List (Key × Option HE)} (hs : subS (fun k => hk k h) s' s ∧ subH (fun k => hk k h) h' h) : Le E ⟨s, h⟩ ⟨s', h'⟩ := by
  rintro a w ⟨c, hg⟩
  have hh := hg.hgood
  refine ⟨c, Good.ofH hg.defers hg.size ?_ (fun t v hv => ?_) hg.ghost⟩
  · have look : ∀ k e', hk k h' = some e' → ∃ e, hk k h = some e ∧ e.esz = e'.esz ∧ e.fz = e'.fz ∧ e.bx = e'.bx ∧ leR (fun k => hk k h) e.xs e'.xs := fun k e' he' => by
      have := subH_hk k hs.2
      rw [he'] at this
      cases he : hk k h with
      | none => rw [he] at this; exact this.elim
      | some e => rw [he] at this; exact ⟨e, rfl, this⟩
    refine ⟨fun k e' he' => ?_, fun k e' ad he' had => ?_, fun k k' e e' ad ad' he he' => ?_, hh.fz, hh.le, hh.bnd, hh.below⟩
    · obtain ⟨e, he, h1, h2, h3, h4⟩ := look k e' he'
      obtain ⟨g1, g2, g3⟩ := hh.heap k e he
      refine ⟨g1, by rw [← h1]; exact g2, ?_⟩
      cases hb : c.β k with
      | none =>
        rw [hb] at g3
        obtain ⟨g3, g4⟩ := g3
        rw [g3] at h4
        exact ⟨by simpa [leR] using h4, by rw [← h1]; exact g4⟩
      | some ad =>
        rw [hb] at g3
        obtain ⟨b1, ⟨cs, el, fr, b2, b3, b4⟩, b5, b6⟩ := g3
        obtain ⟨k1, k2⟩ := leRows_rep hh e.bx _ _ _ _ _ h4 b5
        refine ⟨b1, ⟨cs, el, fr, b2, by rw [k2, ← h1]; exact b3, b4⟩, by rw [← h1, ← h3]; exact k1, by rw [← h2]; exact b6⟩
    · obtain ⟨e, he, _⟩ := look k e' he'
      exact hh.fresh k e ad he had
    · obtain ⟨e0, he0, _⟩ := look k e he
      obtain ⟨e1, he1, _⟩ := look k' e' he'
      exact hh.apart k k' e0 e1 ad ad' he0 he1
  · have := leV_rep hh true _ _ v (subS_lk t hs.1) (by simpa using hg.slot t v hv)
    simpa using this
/-- Blocks that are written no more from here on. -/
theorem Le.freeze {E : Env} {s : List (Nat × PV)} {h : List (Key × Option HE)} (ks : List Key) : Le E ⟨s, h⟩ ⟨s, freezeAll (fun k => hk k h) ks ++ h⟩ := by
  rintro a w ⟨c, hg⟩
  exact ⟨_, Good.ofH hg.defers hg.size (hg.hgood.freeze ks) (fun t v hv => RepV.mono _ _ (Mono.refl _ _) frz_le (hg.slot t v hv)) (fun p hp => RepV.mono _ _ (Mono.refl _ _) frz_le (hg.ghost p hp))⟩

/-- A slice without any array may be had as a slice of one's own. -/
def own1 (t esz ks v : Nat) (st : St) : St := ⟨(t, .own (ks, v) esz 0 0 true) :: st.s, ((ks, v), some ⟨esz, [], false, false⟩) :: st.h⟩
def owns : List (Nat × Nat × Nat) → Nat → St → St
  | [], _, st => st
  | (t, esz, ks) :: l, v, st => owns l v (own1 t esz ks v st)
def ownable : List (Nat × Nat × Nat) → Nat → St → Prop
  | [], _, _ => True
  | (t, esz, ks) :: l, v, st => lk t st.s = .vec esz true [] ∧ 0 < esz ∧ (l.map (·.2.2)).contains ks = false ∧ ownable l v (own1 t esz ks v st)
theorem own1_good {E : Env} {st : St} {c : Ctx} {a : Act} {w : World} {t esz ks v : Nat} (hg : Good E st c a w) (ht : lk t st.s = .vec esz true []) (he : 0 < esz) (hk' : ¬ c.U (ks, v)) : Good E (own1 t esz ks v st) (newCtx c (ks, v) none esz) a w := by
  have hle := newCtx_le (a := none) (n := esz) hk'
  have hβ : ∀ k, k ≠ (ks, v) → (newCtx c (ks, v) none esz).β k = c.β k := fun k hk => if_neg hk
  have hβk : (newCtx c (ks, v) none esz).β (ks, v) = none := if_pos rfl
  refine Good.ofH hg.defers hg.size ⟨fun k e hke => ?_, fun k e ad hke had => ?_, fun k k' e e' ad ad' hke hke' had had' hne => ?_, hg.fz, hg.le, newCtx_bnd hg.bnd, hg.below⟩ (fun u x hx => ?_) (fun p hp => RepV.mono _ _ (Mono.refl _ _) hle (hg.ghost p hp))
  · simp only [own1, hk_cons] at hke
    split at hke
    · rename_i e1
      subst e1
      cases hke
      refine ⟨.inr rfl, (if_pos rfl).symm, ?_⟩
      rw [hβk]
      exact ⟨rfl, he⟩
    · exact (hg.heap k e hke).mono (Mono.refl _ _) hle (fun _ _ => Iff.rfl) (fun _ _ => rfl)
  · simp only [own1, hk_cons] at hke
    split at hke
    · rename_i e1
      subst e1
      rw [hβk] at had; cases had
    · rename_i hne
      rw [hβ k hne] at had
      exact hg.fresh k e ad hke had
  · simp only [own1, hk_cons] at hke hke'
    split at hke
    · rename_i e1
      subst e1
      rw [hβk] at had; cases had
    · rename_i h1
      split at hke'
      · rename_i e1
        subst e1
        rw [hβk] at had'; cases had'
      · rename_i h2
        rw [hβ k h1] at had
        rw [hβ k' h2] at had'
        exact hg.apart k k' e e' ad ad' hke hke' had had' hne
  · simp only [own1, lk]
    have hr := hg.slot u x hx
    split
    · rename_i e1
      subst e1
      rw [ht] at hr
      obtain ⟨a', cap, q1, q2, q3, q4, q5, q6⟩ := hr
      have hcap : cap = 0 := q5 rfl
      subst hcap
      refine ⟨.inr rfl, (if_pos rfl).symm, he, a', 0, q1, by simp, by simp, by simp [LIM], by simp, ?_⟩
      rw [hβk]
      exact ⟨rfl, rfl, rfl⟩
    · exact RepV.mono _ _ (Mono.refl _ _) hle hr
theorem owns_good {E : Env} {a : Act} {w : World} {v : Nat} : ∀ (ts : List (Nat × Nat × Nat)) (st : St) (c : Ctx), Good E st c a w → ownable ts v st → (∀ t ∈ ts, ¬ c.U (t.2.2, v)) → ∃ c', Good E (owns ts v st) c' a w
  | [], st, c, hg, _, _ => ⟨c, hg⟩
  | (t, esz, ks) :: l, st, c, hg, ho, hU => by
    obtain ⟨h1, h2, h3, h4⟩ := ho
    refine owns_good l _ _ (own1_good hg h1 h2 (hU (t, esz, ks) (by simp))) h4 (fun x hx hu => ?_)
    rcases hu with hu | hu
    · exact hU x (by simp [hx]) hu
    · have : x.2.2 = ks := by simpa using congrArg Prod.fst hu
      rw [← this] at h3
      have hm : x.2.2 ∈ l.map (·.2.2) := List.mem_map.2 ⟨x, hx, rfl⟩
      simp only [List.contains_eq_mem, decide_eq_false_iff_not] at h3
      exact h3 hm
theorem owns_rel {E : Env} {st : St} {a : Act} {w : World} {ts : List (Nat × Nat × Nat)} (hr : Rel E st a w) (ho : ∀ v, ownable ts v st) : ∃ v, Rel E (owns ts v st) a w := by
  obtain ⟨c, hg⟩ := hr
  obtain ⟨N, hN⟩ := hg.bnd
  exact ⟨N, owns_good ts st c hg (ho N) (fun t _ hu => Nat.lt_irrefl _ (hN _ hu))⟩

/-- What a round hands on. -/
def LQ (E : Env) {ι : Type} (S : ι → St) (J : ι → Prop) (μ : ι → Nat) (i : ι) (ks : List KF) (Q : Ex → St → Prop) : Ex → St → Prop
  | .normal, st' => ∃ j, J j ∧ μ j < μ i ∧ Le E st' (S j)
  | e, st' => XE E e st' ks Q
/-- A loop, by what stands at the head of each round. -/
theorem XLoop.own {E : Env} (hmix : E.P.follows .mixedOrders = true) {body : MC} {st : St} {ks : List KF} {Q : Ex → St → Prop} {ι : Type} (S : ι → St) (J : ι → Prop) (μ : ι → Nat) (ts : List (Nat × Nat × Nat)) (ho : ∀ v, ownable ts v st) (h0 : ∀ v, ∃ i0, J i0 ∧ Le E (owns ts v st) (S i0))
    (hr : ∀ i, J i → XC E body (S i) [] (LQ E S J μ i ks Q)) : XLoop E (.loop body) st ks Q := by
  intro c hm a w hrel
  cases c with
  | loop x =>
    simp only [toMC, Option.map_eq_some_iff, MC.loop.injEq, exists_eq_right] at hm
    obtain ⟨v, hrel'⟩ := owns_rel hrel ho
    obtain ⟨i0, hJ0, hle0⟩ := h0 v
    refine wp_loop_ghost (fun n a w => ∃ i, J i ∧ μ i = n ∧ Rel E (S i) a w) (μ i0) ⟨i0, hJ0, rfl, hle0 a w hrel'⟩ ?_
    rintro n a w ⟨i, hJ, rfl, hri⟩
    refine wp_mono (exec_sound hmix x body (S i) a w _ hm hri (hr i hJ)) ?_
    rintro e a' w' ⟨ex, st', rfl, hq, hr'⟩
    cases ex with
    | normal =>
      obtain ⟨j, h1, h2, h3⟩ := hq
      exact ⟨μ j, h2, j, h1, rfl, h3 a' w' hr'⟩
    | exit id => exact ⟨.exit id, st', rfl, hq, hr'⟩
    | goto l => exact ⟨.goto l, st', rfl, hq, hr'⟩
    | ret => exact ⟨.ret, st', rfl, hq, hr'⟩
  | region id ops d =>
    simp only [toMC] at hm
    split at hm
    · split at hm
      · split at hm <;> cases hm
      · cases hm
    · cases hm
  | seq x y => simp only [toMC] at hm; split at hm <;> cases hm
  | cond q x y => simp only [toMC] at hm; split at hm <;> cases hm
  | block id x => simp [toMC] at hm
  | scope x => simp [toMC] at hm
  | _ => simp [toMC] at hm
theorem XLoop.intro {E : Env} (hmix : E.P.follows .mixedOrders = true) {body : MC} {st : St} {ks : List KF} {Q : Ex → St → Prop} {ι : Type} (S : ι → St) (J : ι → Prop) (μ : ι → Nat) (i0 : ι) (h0 : J i0) (hst : Le E st (S i0))
    (hr : ∀ i, J i → XC E body (S i) [] (LQ E S J μ i ks Q)) : XLoop E (.loop body) st ks Q :=
  XLoop.own hmix S J μ [] (fun _ => trivial) (fun _ => ⟨i0, h0, hst⟩) hr
section
variable {E : Env} {ι : Type} {S : ι → St} {J : ι → Prop} {μ : ι → Nat} {i : ι} {ks : List KF} {Q : Ex → St → Prop} {st' : St}
theorem LQ_normal : LQ E S J μ i ks Q .normal st' = ∃ j, J j ∧ μ j < μ i ∧ Le E st' (S j) := rfl
theorem LQ_exit {id : Nat} : LQ E S J μ i ks Q (.exit id) st' = XE E (.exit id) st' ks Q := rfl
theorem LQ_ret : LQ E S J μ i ks Q .ret st' = XE E .ret st' ks Q := rfl
theorem LQ_goto {id : Nat} : LQ E S J μ i ks Q (.goto id) st' = XE E (.goto id) st' ks Q := rfl
end

/-! Calls by their contracts -/
theorem XCall.ret {E : Env} {f : FuncId} {args : List PV} {d : Option Nat} {ms : List MOp} {st : St} {ks : List KF} {Q : Ex → St → Prop} {r : PV} (hr : Ret E.P f (reifyL (fun k => hk k st.h) args) r)
    (h : (callOut (fun k => hk k st.h) args r).pre ∧ XR E ms (st.put d (callOut (fun k => hk k st.h) args r)) ks Q) : XCall E f args d ms st ks Q := .inl fun v => .inl ⟨r, hr, h⟩
theorem XCall.retO {E : Env} {f : FuncId} {args : List PV} {d : Option Nat} {ms : List MOp} {st : St} {ks : List KF} {Q : Ex → St → Prop} {esz : Nat} {xs : List (List PV)} (hr : RetO E.P f (reifyL (fun k => hk k st.h) args) esz xs)
    (h : ∀ v, (callOutO (fun k => hk k st.h) args (d.getD 0, v) esz xs).pre ∧ XR E ms (st.put d (callOutO (fun k => hk k st.h) args (d.getD 0, v) esz xs)) ks Q) : XCall E f args d ms st ks Q := .inl fun v => .inr ⟨esz, xs, hr, h v⟩
theorem XDCall.ret {E : Env} {un : List (Nat × Nat)} {v : Nat} {acc : List (List Nat × List Nat)} {f : FuncId} {args : List PV} {d : Option Nat} {ms : List MOp} {st : St} {ks : List KF} {Q : Ex → St → Prop} {r : PV} (hr : Ret E.P f (reifyL (fun k => hk k st.h) args) r)
    (h : (callOut (fun k => hk k st.h) args r).pre ∧ XD E un v (acc ++ [((callOut (fun k => hk k st.h) args r).rd, tagsHu (callOut (fun k => hk k st.h) args r).hu)]) ms (st.put d (callOut (fun k => hk k st.h) args r)) ks Q) : XDCall E un v acc f args d ms st ks Q := .inl ⟨r, hr, h⟩
theorem XDCall.retO {E : Env} {un : List (Nat × Nat)} {v : Nat} {acc : List (List Nat × List Nat)} {f : FuncId} {args : List PV} {d : Option Nat} {ms : List MOp} {st : St} {ks : List KF} {Q : Ex → St → Prop} {esz : Nat} {xs : List (List PV)} (hr : RetO E.P f (reifyL (fun k => hk k st.h) args) esz xs)
    (h : (callOutO (fun k => hk k st.h) args (d.getD 0, v) esz xs).pre ∧ XD E un v (acc ++ [((callOutO (fun k => hk k st.h) args (d.getD 0, v) esz xs).rd, tagsHu (callOutO (fun k => hk k st.h) args (d.getD 0, v) esz xs).hu)]) ms (st.put d (callOutO (fun k => hk k st.h) args (d.getD 0, v) esz xs)) ks Q) : XDCall E un v acc f args d ms st ks Q := .inr ⟨esz, xs, hr, h⟩

/-! A function's run -/
def rvOf (P : Program) (nt : Nat) : ResultVar → Option RV
  | .tmp t => if t < nt then some (.tmp t) else none
  | .cell a t => if a < nt ∧ okT P t = true then some (.cell a t (szOf P t) (aggOf P t)) else none
def rvsOf (P : Program) (nt : Nat) : List ResultVar → Option (List RV)
  | [] => some []
  | r :: rs => match rvOf P nt r, rvsOf P nt rs with
    | some x, some xs => some (x :: xs)
    | _, _ => none
def mfOf (P : Program) (f : Nat) : Option (MC × Nat × List RV) := match P.funcs[f]? with
  | some fn => if callable P f then (match fn.body with
    | some c => match toMC P fn.ntmps c, rvsOf P fn.ntmps fn.results.toList with
      | some m, some rs => some (m, fn.ntmps, rs)
      | _, _ => none
    | none => none) else none
  | none => none
theorem mfOf_spec {P : Program} {f : Nat} {m : MC} {nt : Nat} {rs : List RV} (h : mfOf P f = some (m, nt, rs)) : ∃ fn c, P.funcs[f]? = some fn ∧ callable P f = true ∧ fn.body = some c ∧ nt = fn.ntmps ∧ toMC P nt c = some m ∧ rvsOf P nt fn.results.toList = some rs := by
  unfold mfOf at h
  split at h
  · rename_i fn hf
    split at h
    · rename_i hc
      split at h
      · rename_i c hb
        split at h
        · rename_i m' rs' h1 h2
          cases h
          exact ⟨fn, c, hf, hc, hb, rfl, h1, h2⟩
        · cases h
      · cases h
    · cases h
  · cases h
def readRes (tmps : Array Value) : ResultVar → Sem Value
  | .tmp t => pure (tmps.getD t undef)
  | .cell x t => do loadVar t (← asAddr (tmps.getD x undef))
theorem results_eq (fn : Func) (tmps : Array Value) : results fn tmps = (do
    let vs ← fn.results.mapM (readRes tmps)
    pure (if h : vs.size = 1 then vs[0] else .tuple vs)) := by
  unfold results
  congr 2
theorem results_run {E : Env} {st : St} {c : Ctx} {a : Act} {w : World} (hg : Good E st c a w) : ∀ (l : List ResultVar) (rs : List RV), rvsOf E.P E.nt l = some rs → resOk st rs →
    ∃ vs : List Value, (l.mapM (readRes a.tmps)).run E.P w = .ok vs w ∧ RepL w c (rs.map (resOne st)) vs
  | [], rs, h, _ => by simp [rvsOf] at h; subst h; exact ⟨[], rfl, rfl⟩
  | r :: l, rs, h, hok => by
    simp only [rvsOf] at h
    split at h
    · rename_i x xs h1 h2
      cases h
      have hrest : resOk st xs := by cases x with
        | tmp t => exact hok
        | cell => exact hok.2
      obtain ⟨us, u1, u2⟩ := results_run hg l xs h2 hrest
      rw [List.mapM_cons]
      cases r with
      | tmp t =>
        simp only [rvOf] at h1
        split at h1
        · rename_i ht
          cases h1
          obtain ⟨v, hv, hr⟩ := hg.tmp ht
          refine ⟨v :: us, ?_, v, us, rfl, hr, u2⟩
          have hv' : a.tmps.getD t undef = v := by simp [Array.getD_eq_getD_getElem?, hv]
          simp only [readRes, Sem.run_bind, Sem.run_pure, Result.andThen_ok, u1, hv']
        · cases h1
      | cell x t =>
        simp only [rvOf] at h1
        split at h1
        · rename_i hx
          cases h1
          obtain ⟨hx, ht⟩ := hx
          obtain ⟨v, hv, hr⟩ := hg.tmp hx
          have hok1 := hok.1
          have hv' : a.tmps.getD x undef = v := by simp [Array.getD_eq_getD_getElem?, hv]
          obtain ⟨inf, d, i1, i2, i3⟩ := info_okT (P := E.P) (t := t) (by rw [ht]; simp)
          cases hl : lk x st.s with
          | ptr g esz i off =>
            rw [hl] at hok1 hr
            simp only at hok1
            cases he : hk g st.h with
            | none => rw [he] at hok1; exact hok1.elim
            | some e =>
              rw [he] at hok1
              obtain ⟨p1, p2, p3⟩ := hok1
              obtain ⟨g1, g2, ad, g3, g4⟩ := hr
              have hh := hg.hgood.heap g e he
              obtain ⟨ad', q1, q2, q3, q4, q5⟩ := hh.block (by omega)
              rw [g3] at q1
              obtain rfl := Option.some.inj q1
              obtain ⟨_, r2⟩ := RepRows.get i (e.xs.getD i []) q4.und' (by simp [List.getD, List.getElem?_eq_getElem p1])
              have r3 := RepAt.drop off r2
              obtain ⟨y, s1, s2, _⟩ := load_at i1 i2 r3 (by rw [← i3]; simp only [List.length_drop]; omega) (by rw [← i3]; exact p3)
              have e1 : esz = e.esz := by rw [g2, hh.2.1]
              refine ⟨y :: us, ?_, y, us, rfl, ?_, u2⟩
              · have hr1 : (readRes a.tmps (.cell x t)).run E.P w = .ok y w := by
                  simp only [readRes, Sem.run_bind, hv', g4, asAddr, Sem.run_pure, Result.andThen_ok, e1, s1]
                simp only [Sem.run_bind, hr1, Sem.run_pure, Result.andThen_ok, u1]
              · simp only [resOne, hl, he]
                rw [i3]; exact s2
          | _ => rw [hl] at hok1; exact hok1.elim
        · cases h1
    · cases h
theorem resAll_run {E : Env} {st : St} {c : Ctx} {a : Act} {w : World} (hg : Good E st c a w) {fn : Func} {rs : List RV} (h : rvsOf E.P E.nt fn.results.toList = some rs) (hok : resOk st rs) : ∃ v, (results fn a.tmps).run E.P w = .ok v w ∧ RepV w c (resAll st rs) v := by
  obtain ⟨vs, h1, h2⟩ := results_run hg _ rs h hok
  have hrun : ∀ v : Value, (if h : vs.toArray.size = 1 then vs.toArray[0] else .tuple vs.toArray) = v → (results fn a.tmps).run E.P w = .ok v w := fun v hv => by
    rw [results_eq, Array.mapM_eq_mapM_toList]
    simp only [Sem.run_bind, Sem.run_map]
    rw [h1]
    simp only [Result.andThen_ok, Sem.run_pure]
    rw [hv]
  match rs, h2 with
  | [], h2 =>
    have : vs = [] := h2
    subst this
    exact ⟨.tuple #[], hrun _ rfl, #[], rfl, rfl⟩
  | [x], h2 =>
    obtain ⟨u, us, rfl, k1, k2⟩ := h2
    have : us = [] := k2
    subst this
    exact ⟨u, hrun _ rfl, k1⟩
  | x :: y :: l, h2 =>
    have hlen : vs.length = l.length + 2 := by rw [h2.length]; simp
    exact ⟨.tuple vs.toArray, hrun _ (by rw [dif_neg]; simp; omega), vs.toArray, rfl, h2⟩

theorem lk_init (t : Nat) : ∀ (args : List PV) (n : Nat), lk t ((args.zipIdx n).map fun p => (p.2, p.1)) = if n ≤ t then (args[t - n]?).getD .undef else .undef
  | [], n => by simp [lk]
  | x :: args, n => by
    simp only [List.zipIdx_cons, List.map_cons, lk]
    rw [lk_init t args (n + 1)]
    by_cases h : t = n
    · subst h; simp
    · rw [if_neg h]
      by_cases hn : n + 1 ≤ t
      · rw [if_pos hn, if_pos (by omega), show t - n = (t - (n + 1)) + 1 by omega, List.getElem?_cons_succ]
      · rw [if_neg hn]
        rw [if_neg (by omega)]

theorem init_good {P : Program} {w : World} {F : Nat → Prop} {nt : Nat} {args : List PV} {vs : List Value} (hF : ∀ b, F b → b < w.heap.size) (hr : RepL w (dctx F) args vs) (hn : args.length ≤ nt) :
    Good ⟨P, w, F, nt, []⟩ (St.init args) (dctx F) { tmps := vs.toArray ++ Array.replicate (nt - vs.toArray.size) undef, defers := [] } w := by
  have hl := hr.length
  refine Good.ofH rfl (by simp; omega) ⟨fun k e he => by simp [St.init, hk] at he, fun k e ad he => by simp [St.init, hk] at he, fun k k' e e' ad ad' he => by simp [St.init, hk] at he, fun b hb => ⟨hF b hb, .inl hb⟩, fun b hb => hb, ⟨0, fun _ h => h.elim⟩, Bel.refl _ _⟩ (fun t v hv => ?_) (fun p hp => by simp at hp)
  simp only [St.init]
  rw [lk_init]
  simp only [Nat.zero_le, if_true, Nat.sub_zero]
  cases hx : args[t]? with
  | none => trivial
  | some x =>
    obtain ⟨u, hu, hru⟩ := RepL.get t x hr hx
    have hlt : t < vs.length := (List.getElem?_eq_some_iff.1 hu).1
    rw [Array.getElem?_append_left (by simpa using hlt)] at hv
    simp only [List.getElem?_toArray] at hv
    rw [hu] at hv
    cases hv
    exact hru

theorem Ret.of_wp {P : Program} {f nt : Nat} {m : MC} {rs : List RV} {args : List PV} {r : PV} (hm : mfOf P f = some (m, nt, rs)) (hn : args.length ≤ nt) (h : ∀ c, toMC P nt c = some m → ∀ w0 F0 a, Good ⟨P, w0, F0, nt, []⟩ (St.init args) (dctx F0) a w0 → c.wp P (endQ ⟨P, w0, F0, nt, []⟩ (retIs rs r)) a w0) : Ret P f args r := by
  obtain ⟨fn, c, hf, hc, hb, rfl, htm, hrs⟩ := mfOf_spec hm
  refine ⟨hc, fun w F vs hF hr => calls_of_wp hf hb ?_⟩
  refine wp_mono (h c htm w F _ (init_good hF hr hn)) ?_
  rintro e a' w' ⟨ex, st', rfl, hq, c', hg⟩
  have key : ∀ q : resOk st' rs ∧ okV (fun k => hk k st'.h) (resAll st' rs) ∧ reify (fun k => hk k st'.h) (resAll st' rs) = r, a'.defers = [] ∧ ∃ v, (results fn a'.tmps).run P w' = .ok v w' ∧
      ∃ v' F', Ending.returned v = .returned v' ∧ Bel w.heap.size w w' ∧ (∀ b, F b → F' b) ∧ (∀ b, F' b → b < w'.heap.size ∧ (F b ∨ w.heap.size ≤ b)) ∧ RepV w' (dctx F') r v' := by
    rintro ⟨q1, q2, rfl⟩
    obtain ⟨v, k1, k2⟩ := resAll_run hg hrs q1
    have hfz := hg.hgood.freeze (keysOf (fun k => hk k st'.h) (resAll st' rs))
    have := reify_rep hg.hgood (c1 := frzCtx st'.h c' (keysOf (fun k => hk k st'.h) (resAll st' rs))) (fun _ hb => .inl hb) _ _ k2 q2 (fun _ hb => .inr hb)
    exact ⟨hg.defers, v, k1, v, _, rfl, hg.below, hfz.le, hfz.fz, RepV.mono _ _ (Mono.refl _ _) (le_dctx (fun _ h => h)) this⟩
  cases ex with
  | normal => exact key hq
  | ret => exact key hq
  | exit id => exact hq.elim
  | goto l => exact hq.elim

theorem Ret.of {P : Program} {f nt : Nat} {m : MC} {rs : List RV} {args : List PV} {r : PV} (hmix : P.follows .mixedOrders = true) (hm : mfOf P f = some (m, nt, rs)) (hn : args.length ≤ nt) (h : ∀ w0 F0, XC ⟨P, w0, F0, nt, []⟩ m (St.init args) [] (retIs rs r)) : Ret P f args r :=
  Ret.of_wp hm hn fun c htm w F a hg => exec_sound (E := ⟨P, w, F, nt, []⟩) hmix c m (St.init args) a w _ htm ⟨_, hg⟩ (h w F)

theorem RetO.of_wp {P : Program} {f nt : Nat} {m : MC} {rs : List RV} {args : List PV} {esz : Nat} {xs : List (List PV)} (hm : mfOf P f = some (m, nt, rs)) (hn : args.length ≤ nt) (h : ∀ c, toMC P nt c = some m → ∀ w0 F0 a, Good ⟨P, w0, F0, nt, []⟩ (St.init args) (dctx F0) a w0 → c.wp P (endQ ⟨P, w0, F0, nt, []⟩ (retOwn rs esz xs)) a w0) : RetO P f args esz xs := by
  obtain ⟨fn, c, hf, hc, hb, rfl, htm, hrs⟩ := mfOf_spec hm
  refine ⟨hc, fun w F vs hF hr => calls_of_wp hf hb ?_⟩
  refine wp_mono (h c htm w F _ (init_good hF hr hn)) ?_
  rintro e a' w' ⟨ex, st', rfl, hq, c', hg⟩
  have key : ∀ q : resOk st' rs ∧ ownIs (fun k => hk k st'.h) esz xs (resAll st' rs), a'.defers = [] ∧ ∃ v, (results fn a'.tmps).run P w' = .ok v w' ∧
      ∃ v' F' a, Ending.returned v = .returned v' ∧ Bel w.heap.size w w' ∧ (∀ b, F b → F' b) ∧ (∀ b, F' b → b < w'.heap.size ∧ (F b ∨ w.heap.size ≤ b)) ∧
        RepV w' (octx a esz F') (.own (0, 0) esz 0 xs.length false) v' ∧ HRep w' (octx a esz F') (0, 0) ⟨esz, xs, false, false⟩ ∧ ∀ ad, a = some ad → w.heap.size ≤ ad.block := by
    rintro ⟨q1, q2⟩
    obtain ⟨v, k1, k2⟩ := resAll_run hg hrs q1
    refine ⟨hg.defers, v, k1, v, c'.Fz, ?_⟩
    cases hx : resAll st' rs with
    | own g esz' off len full =>
      rw [hx] at q2 k2
      obtain ⟨rfl, q2⟩ := q2
      cases he : hk g st'.h with
      | none => simp only [he] at q2
      | some e =>
        simp only [he] at q2
        obtain ⟨p1, p2, p3, p4⟩ := q2
        obtain ⟨g1, g2, g3, a, cap, s1, s2, s3, s4, s5, s6⟩ := k2
        have hxl : xs.length = len := by rw [← p4]; simp; omega
        have hh := hg.hgood.heap g e he
        have ee : esz' = e.esz := by rw [g2, hh.2.1]
        obtain ⟨_, _, hb'⟩ := hh
        cases hβ : c'.β g with
        | none =>
          rw [hβ] at s6 hb'
          obtain ⟨rfl, rfl, rfl⟩ := s6
          have hxs : xs = [] := List.eq_nil_of_length_eq_zero hxl
          subst hxs
          exact ⟨none, rfl, hg.below, hg.le, hg.fz, ⟨rfl, rfl, g3, a, 0, s1, by simp, s3, s4, by simp, ⟨rfl, rfl, rfl⟩⟩, ⟨rfl, rfl, rfl, g3⟩, fun ad h => by cases h⟩
        | some ad =>
          rw [hβ] at s6 hb'
          obtain ⟨b1, ⟨cs, el, fr, b2, b3, b4⟩, b5, b6⟩ := hb'
          have hfr := hg.hgood.fresh g e ad he hβ
          rw [p2] at b5
          have b5' : RepRows w' c'.d e.esz ad.block ad.off e.xs := by simpa using b5
          have hrows : RepRows w' (octx (some ⟨ad.block, ad.off + off * e.esz, none⟩) e.esz c'.Fz).d e.esz ad.block (ad.off + off * e.esz) xs := by
            rw [← p4]
            exact RepRows.take _ (RepRows.drop _ (RepRows.mono _ _ rfl _ _ (c := c'.d) (Mono.refl _ _) (Ctx.Le.d (fun _ h => h)) b5'))
          have hle : off * e.esz + xs.length * e.esz ≤ e.xs.length * e.esz := by
            rw [← Nat.add_mul]; exact Nat.mul_le_mul_right _ (by omega)
          refine ⟨some ⟨ad.block, ad.off + off * e.esz, none⟩, rfl, hg.below, hg.le, hg.fz, ⟨rfl, rfl, g3, a, cap, by rw [hxl]; exact s1, by rw [hxl]; exact s2, s3, by rw [hxl]; exact s4, by simp, ?_⟩, ⟨rfl, rfl, rfl, ⟨cs, el, fr, b2, ?_, b4⟩, ?_, ?_⟩, fun ad' h => by cases h; exact hfr.1⟩
          · rcases s6 with s6 | ⟨s6, cs', el', fr', s7, s8⟩
            · exact .inl s6
            · refine .inr ⟨by rw [s6, ee]; simp, cs', el', fr', s7, ?_⟩
              rw [ee] at s8 ⊢
              rw [Nat.add_mul] at s8 ⊢
              simp only [Nat.zero_mul, Nat.zero_add]
              omega
          · rw [ee]
            simp only
            omega
          · rw [ee]
            simpa [octx] using hrows
          · simp only [Bool.false_eq_true, iff_false]
            intro hf
            have := b6.1 hf
            rw [p1] at this
            cases this
    | vec esz' full ys =>
      rw [hx] at q2 k2
      obtain ⟨rfl, rfl, rfl, rfl, g3⟩ := q2
      obtain ⟨a, cap, s1, s2, s3, s4, s5, s6⟩ := k2
      have : cap = 0 := s5 rfl
      subst this
      exact ⟨none, rfl, hg.below, hg.le, hg.fz, ⟨rfl, rfl, g3, a, 0, s1, by simp, s3, s4, by simp, ⟨rfl, rfl, rfl⟩⟩, ⟨rfl, rfl, rfl, g3⟩, fun ad h => by cases h⟩
    | _ => rw [hx] at q2; exact q2.elim
  cases ex with
  | normal => exact key hq
  | ret => exact key hq
  | exit id => exact hq.elim
  | goto l => exact hq.elim
theorem RetO.of {P : Program} {f nt : Nat} {m : MC} {rs : List RV} {args : List PV} {esz : Nat} {xs : List (List PV)} (hmix : P.follows .mixedOrders = true) (hm : mfOf P f = some (m, nt, rs)) (hn : args.length ≤ nt) (h : ∀ w0 F0, XC ⟨P, w0, F0, nt, []⟩ m (St.init args) [] (retOwn rs esz xs)) : RetO P f args esz xs :=
  RetO.of_wp hm hn fun c htm w F a hg => exec_sound (E := ⟨P, w, F, nt, []⟩) hmix c m (St.init args) a w _ htm ⟨_, hg⟩ (h w F)
end Go.Proofs.YtjeegophpmpibaaGreatDoor.Pv

/- Runs of M-code are runs of the machine; loops; what a function's run makes its contract. No condition. -/
import Derived.Test.YtjeegophpmpibaaGreatDoorPv17
import Derived.Test.YtjeegophpmpibaaGreatDoorPv5
import Derived.Deep.LoopGhost
set_option linter.unusedSimpArgs false
set_option linter.unusedVariables false
namespace Go.Proofs.YtjeegophpmpibaaGreatDoor.Pv
open Go Go.RowKit

/-- The machine's end of a run, for M-code's. -/
def endQ (E : Env) (Q : Ex → St → Prop) : Exit → Act → World → Prop := fun e a' w' => ∃ ex st', e = Ex.to ex ∧ Q ex st' ∧ Rel E st' a' w'

theorem exec_sound {E : Env} (hmix : E.P.follows .mixedOrders = true) : ∀ (c : Code) (m : MC) (st : St) (a : Act) (w : World) (Q : Ex → St → Prop), toMC E.P E.nt c = some m → Rel E st a w → exec E m st Q → c.wp E.P (endQ E Q) a w := by
  intro c
  induction c with
  | skip =>
    intro m st a w Q hm hr hx
    simp only [toMC, Option.some.injEq] at hm
    subst hm
    exact wp_skip ⟨.normal, st, rfl, hx, hr⟩
  | region id ops d =>
    intro m st a w Q hm hr hx
    simp only [toMC] at hm
    split at hm
    · rename_i ms hops
      cases d with
      | true =>
        simp only [if_true] at hm
        split at hm
        · rename_i hok
          cases hm
          exact draw_sound hmix hops hok hx hr (fun st a w hk hr => ⟨.normal, st, rfl, hk, hr⟩)
        · cases hm
      | false =>
        simp only [Bool.false_eq_true, if_false, Option.some.injEq] at hm
        subst hm
        exact wp_region_list (run_sound (fun st a w hk hr => ⟨.normal, st, rfl, hk, hr⟩) _ _ st a w hops hr hx)
    · cases hm
  | seq x y ihx ihy =>
    intro m st a w Q hm hr hx
    simp only [toMC] at hm
    split at hm
    · rename_i mx my h1 h2
      cases hm
      refine wp_seq (wp_mono (ihx mx st a w _ h1 hr hx) ?_)
      rintro e a' w' ⟨ex, st', rfl, hq, hr'⟩
      cases ex with
      | normal => exact ihy my st' a' w' Q h2 hr' hq
      | exit i => exact ⟨.exit i, st', rfl, hq, hr'⟩
      | goto l => exact ⟨.goto l, st', rfl, hq, hr'⟩
      | ret => exact ⟨.ret, st', rfl, hq, hr'⟩
    · cases hm
  | cond c x y ihx ihy =>
    intro m st a w Q hm hr hx
    simp only [toMC] at hm
    split at hm
    · rename_i mc mx my h0 h1 h2
      cases hm
      obtain ⟨cx, hg⟩ := hr
      have hc := hg.get h0
      unfold exec at hx
      split at hx
      · rename_i b hb
        rw [hb] at hc
        exact wp_cond_split hc (fun ht => ihx mx st a w Q h1 ⟨cx, hg⟩ (hx.1 ht)) (fun hf => ihy my st a w Q h2 ⟨cx, hg⟩ (hx.2 hf))
      · exact hx.elim
    · cases hm
  | block id x ih =>
    intro m st a w Q hm hr hx
    simp only [toMC, Option.map_eq_some_iff] at hm
    obtain ⟨mx, h1, rfl⟩ := hm
    refine wp_block (wp_mono (ih mx st a w _ h1 hr hx) ?_)
    rintro e a' w' ⟨ex, st', rfl, hq, hr'⟩
    cases ex with
    | normal => exact ⟨.normal, st', rfl, hq, hr'⟩
    | exit i =>
      simp only [Ex.to, Exit.inBlock]
      simp only at hq
      split
      · rename_i h; rw [if_pos h] at hq; exact ⟨.normal, st', rfl, hq, hr'⟩
      · rename_i h; rw [if_neg h] at hq; exact ⟨.exit i, st', rfl, hq, hr'⟩
    | goto l => exact ⟨.goto l, st', rfl, hq, hr'⟩
    | ret => exact ⟨.ret, st', rfl, hq, hr'⟩
  | loop x ih =>
    intro m st a w Q hm hr hx
    have hm' := hm
    simp only [toMC, Option.map_eq_some_iff] at hm
    obtain ⟨mx, h1, rfl⟩ := hm
    exact hx _ hm' a w hr
  | scope x ih =>
    intro m st a w Q hm hr hx
    have hm' := hm
    simp only [toMC, Option.map_eq_some_iff] at hm
    obtain ⟨mx, h1, rfl⟩ := hm
    exact hx _ hm' a w hr
  | exit id =>
    intro m st a w Q hm hr hx
    simp only [toMC, Option.some.injEq] at hm
    subst hm
    exact wp_exit ⟨.exit id, st, rfl, hx, hr⟩
  | ret =>
    intro m st a w Q hm hr hx
    simp only [toMC, Option.some.injEq] at hm
    subst hm
    exact wp_ret ⟨.ret, st, rfl, hx, hr⟩
  | label l =>
    intro m st a w Q hm hr hx
    simp only [toMC, Option.some.injEq] at hm
    subst hm
    exact wp_label ⟨.normal, st, rfl, hx, hr⟩
  | goto l =>
    intro m st a w Q hm hr hx
    simp only [toMC, Option.some.injEq] at hm
    subst hm
    exact wp_goto ⟨.goto l, st, rfl, hx, hr⟩
  | _ =>
    intro m st a w Q hm hr hx
    simp only [toMC, Option.some.injEq] at hm
    subst hm
    exact hx.elim

/-! States that say less -/
mutual
/-- y says no more of a value than x. -/
def leV (hl : Key → Option HE) : PV → PV → Prop
  | .vec e f xs, y => match y with | .vec e' f' xs' => e = e' ∧ xs = xs' ∧ (f' = true → f = true) | .undef => True | _ => False
  | .own g e o l f, y => match y with
    | .own g' e' o' l' f' => g = g' ∧ e = e' ∧ o = o' ∧ l = l' ∧ (f' = true → f = true)
    | .vec e' f' xs' => (match hl g with | some h => h.fz = true ∧ h.bx = false ∧ o + l ≤ h.xs.length ∧ xs' = (h.xs.drop o).take l | none => False) ∧ e' = e ∧ f' = false
    | .undef => True
    | _ => False
  | .agg cs, y => match y with | .agg cs' => leL hl cs cs' | .undef => True | _ => False
  | x, y => y = .undef ∨ x = y
def leL (hl : Key → Option HE) : List PV → List PV → Prop
  | [], y => y = []
  | x :: xs, y => match y with | y :: ys => leV hl x y ∧ leL hl xs ys | [] => False
end
def leR (hl : Key → Option HE) : List (List PV) → List (List PV) → Prop
  | [], y => y = []
  | x :: xs, y => match y with | y :: ys => leL hl x y ∧ leR hl xs ys | [] => False
end Go.Proofs.YtjeegophpmpibaaGreatDoor.Pv

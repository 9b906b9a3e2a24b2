/- The evaluator, and that what it finds is so. No condition. -/
import Derived.Test.YtjeegophpmpibaaGreatDoorPv21
set_option linter.unusedSimpArgs false
set_option linter.unusedVariables false
namespace Go.Proofs.YtjeegophpmpibaaGreatDoor.Pv
open Go Go.RowKit

/-- What a call of its own comes to: a value, or a slice of the caller's. -/
inductive Res where
  | val (r : PV)
  | own (esz : Nat) (xs : List (List PV))

def evPlain (key : Key) (get : MO → PV) (hl : Key → Option HE) (i : MI) : Option Out :=
  match i with
  | .nilcmp ne x => match get x with
    | .vec _ _ (_ :: _) => some ⟨True, [], .bool (false != ne), []⟩
    | .own _ _ _ (_ + 1) _ => some ⟨True, [], .bool (false != ne), []⟩
    | _ => none
  | i => match opSem key get hl i with
    | some o => if preB get hl i then some o else none
    | none => none
theorem doOp_sem {P : Program} {key : Key} {get : MO → PV} {hl : Key → Option HE} {i : MI} {o : Out} {K : Out → Prop} (h : opSem key get hl i = some o) (hK : K o) : doOp P key get hl i K := by
  unfold doOp
  split
  · simp [opSem] at h
  · simp [opSem] at h
  · simp [opSem] at h
  · simp only [h]; exact hK
theorem evPlain_ok {P : Program} {key : Key} {get : MO → PV} {hl : Key → Option HE} {i : MI} {o : Out} (h : evPlain key get hl i = some o) : doOp P key get hl i fun o' => o'.pre ∧ o' = o := by
  unfold evPlain at h
  split at h
  · rename_i ne x
    split at h
    · rename_i e f y ys hx
      cases h
      simp only [doOp, hx]
      intro b hb
      cases b with
      | true => exact absurd (hb rfl) (by simp)
      | false => exact ⟨trivial, rfl⟩
    · rename_i g e off n f hx
      cases h
      simp only [doOp, hx]
      intro b hb
      cases b with
      | true => exact absurd (hb rfl) (by simp)
      | false => exact ⟨trivial, rfl⟩
    · cases h
  · split at h
    · rename_i o' ho
      split at h
      · rename_i hp
        cases h
        exact doOp_sem ho ⟨preB_ok ho hp, rfl⟩
      · cases h
    · cases h

def BIG : Nat := 1000000000000000
def gOf (st : St) (m : MOp) : Option Bool := match m.g with
  | none => some true
  | some (t, want) => guardC (lk t st.s) want
def evOp (N : Nat) (m : MOp) (st : St) : Option Out := match m.g with
  | none => evPlain (m.dst.getD 0, N) st.get (fun k => hk k st.h) m.i
  | some (t, want) => match guardC (lk t st.s) want with
    | none => none
    | some gb =>
      if m.soft then
        (match opSem (m.dst.getD 0, N) (softGet m.i st.get) (fun k => hk k st.h) m.i with
        | some o => if (!gb || preB (softGet m.i st.get) (fun k => hk k st.h) m.i) && (m.i.isPick || optsOkB gb st.get m.i.ops) && o.hu.isEmpty then some ⟨True, o.rd, .opt gb o.r, []⟩ else none
        | none => none)
      else if gb then evPlain (m.dst.getD 0, N) st.get (fun k => hk k st.h) m.i else some ⟨True, [], skipV, []⟩
theorem evOp_ok {P : Program} {N : Nat} {m : MOp} {st : St} {o : Out} (h : evOp N m st = some o) : StepTo P m N st o := by
  have plain : evPlain (m.dst.getD 0, N) st.get (fun k => hk k st.h) m.i = some o → doOp P (m.dst.getD 0, N) st.get (fun k => hk k st.h) m.i fun o' => o'.pre ∧ o' = o ∧ st.put m.dst o' = st.put m.dst o := fun h =>
    doOp_mono (fun o' ho => ⟨ho.1, ho.2, by rw [ho.2]⟩) (evPlain_ok (P := P) h)
  unfold evOp at h
  unfold StepTo stepOp
  cases hg : m.g with
  | none =>
    rw [hg] at h
    exact plain h
  | some tw =>
    obtain ⟨t, want⟩ := tw
    rw [hg] at h
    simp only at h ⊢
    cases hgb : guardC (lk t st.s) want with
    | none => rw [hgb] at h; cases h
    | some gb =>
      rw [hgb] at h
      simp only at h ⊢
      by_cases hs : m.soft = true
      · rw [if_pos hs] at h ⊢
        split at h
        · rename_i o' ho
          split at h
          · rename_i hc
            cases h
            simp only [Bool.and_eq_true, Bool.or_eq_true, Bool.not_eq_true', List.isEmpty_iff] at hc
            obtain ⟨⟨h1, h2⟩, h3⟩ := hc
            exact doOp_sem ho ⟨fun e => preB_ok ho (h1.resolve_left (by simp [e])), (by
              unfold softOk
              split
              · trivial
              · rename_i hnp
                exact optsOkB_ok _ (h2.resolve_left hnp)), h3, rfl, rfl⟩
          · cases h
        · cases h
      · rw [if_neg hs] at h ⊢
        cases gb with
        | true => exact ⟨fun _ => plain h, fun e => by cases e⟩
        | false =>
          cases h
          exact ⟨fun e => (by cases e), fun _ => ⟨rfl, skip_put _ _⟩⟩

def callee (st : St) : MI → Option (FuncId × List PV)
  | .call f args => some (f, args.map st.get)
  | .dcall f args => match st.get f with
    | .fn fid first caps => some (fid, first ++ args.map st.get ++ caps)
    | _ => none
  | _ => none
def MI.isCall : MI → Bool
  | .call _ _ | .dcall _ _ => true
  | _ => false
def CpOk (P : Program) (cp : FuncId → List PV → Option Res) : Prop :=
  ∀ f args, (∀ r, cp f args = some (.val r) → Ret P f args r) ∧ ∀ esz xs, cp f args = some (.own esz xs) → RetO P f args esz xs
def evCallOut (cp : FuncId → List PV → Option Res) (key : Key) (hl : Key → Option HE) (f : FuncId) (args : List PV) : Option Out :=
  if okLB hl args then
    (match cp f (reifyL hl args) with
    | some (.val r) => some (callOut hl args r)
    | some (.own esz xs) => some (callOutO hl args key esz xs)
    | none => none)
  else none
theorem evCallOut_ok {P : Program} {cp : FuncId → List PV → Option Res} (hcp : CpOk P cp) {key : Key} {hl : Key → Option HE} {f : FuncId} {args : List PV} {o : Out} (h : evCallOut cp key hl f args = some o) : doCall P key hl f args fun o' => o'.pre ∧ o' = o := by
  unfold evCallOut at h
  split at h
  · rename_i hok
    split at h
    · rename_i r hr
      cases h
      exact .inl ⟨r, (hcp _ _).1 r hr, okLB_ok _ hok, rfl⟩
    · rename_i esz xs hr
      cases h
      exact .inr ⟨esz, xs, (hcp _ _).2 esz xs hr, okLB_ok _ hok, rfl⟩
    · cases h
  · cases h
def evCallP (cp : FuncId → List PV → Option Res) (N : Nat) (m : MOp) (st : St) : Option Out :=
  if m.soft then none else
  match gOf st m with
  | some true => (match callee st m.i with
    | some (f, args) => evCallOut cp (m.dst.getD 0, N) (fun k => hk k st.h) f args
    | none => none)
  | some false => some ⟨True, [], skipV, []⟩
  | none => none
theorem doCall_mono {P : Program} {key : Key} {hl : Key → Option HE} {f : FuncId} {args : List PV} {K K' : Out → Prop} (h : ∀ o, K o → K' o) (hd : doCall P key hl f args K) : doCall P key hl f args K' := by
  rcases hd with ⟨r, h1, h2⟩ | ⟨e, xs, h1, h2⟩
  · exact .inl ⟨r, h1, h _ h2⟩
  · exact .inr ⟨e, xs, h1, h _ h2⟩
theorem evCallP_ok {P : Program} {cp : FuncId → List PV → Option Res} (hcp : CpOk P cp) {N : Nat} {m : MOp} {st : St} {o : Out} (hc : m.i.isCall = true) (h : evCallP cp N m st = some o) : StepTo P m N st o := by
  unfold evCallP at h
  split at h
  · cases h
  rename_i hsoft
  have hd : ∀ f args, callee st m.i = some (f, args) → doCall P (m.dst.getD 0, N) (fun k => hk k st.h) f args (fun o' => o'.pre ∧ o' = o) → doOp P (m.dst.getD 0, N) st.get (fun k => hk k st.h) m.i fun o' => o'.pre ∧ o' = o ∧ st.put m.dst o' = st.put m.dst o := fun f args hcl hd => by
    have hd' := doCall_mono (K' := fun o' => o'.pre ∧ o' = o ∧ st.put m.dst o' = st.put m.dst o) (fun o' ho => by obtain ⟨h1, rfl⟩ := ho; exact ⟨h1, rfl, rfl⟩) hd
    unfold callee at hcl
    unfold doOp
    split at hcl
    · cases hcl; rename_i heq; simp only [heq]; exact hd'
    · rename_i heq
      split at hcl
      · rename_i hf
        cases hcl
        simp only [heq, hf]; exact hd'
      · cases hcl
    · cases hcl
  split at h
  · rename_i hg
    split at h
    · rename_i f args hcl
      have hdo := hd f args hcl (evCallOut_ok hcp h)
      unfold StepTo stepOp
      unfold gOf at hg
      split at hg
      · rename_i hmg
        simp only [hmg]; exact hdo
      · rename_i t want hmg
        simp only [hmg, hg, if_neg hsoft]
        exact ⟨fun _ => hdo, fun e => by cases e⟩
    · cases h
  · rename_i hg
    cases h
    unfold StepTo stepOp
    unfold gOf at hg
    split at hg
    · cases hg
    · rename_i t want hmg
      simp only [hmg, hg, if_neg hsoft]
      exact ⟨fun e => absurd e (by simp), fun _ => ⟨trivial, skip_put _ _⟩⟩
  · cases h
def evStep (cp : FuncId → List PV → Option Res) (N : Nat) (m : MOp) (st : St) : Option Out := if m.i.isCall then evCallP cp N m st else evOp N m st
theorem evStep_ok {P : Program} {cp : FuncId → List PV → Option Res} (hcp : CpOk P cp) {N : Nat} {m : MOp} {st : St} {o : Out} (h : evStep cp N m st = some o) : StepTo P m N st o := by
  unfold evStep at h
  split at h
  · rename_i hc; exact evCallP_ok hcp hc h
  · exact evOp_ok h
theorem stepOp_mono {P : Program} {m : MOp} {v : Nat} {st : St} {K K' : Out → St → Prop} (h : ∀ o s, K o s → K' o s) (hs : stepOp P m v st K) : stepOp P m v st K' := by
  unfold stepOp at hs ⊢
  split at hs
  · exact doOp_mono (fun o ho => ⟨ho.1, h _ _ ho.2⟩) hs
  · split at hs
    · exact hs.elim
    · split at hs
      · rename_i hsoft
        rw [if_pos hsoft]
        exact doOp_mono (fun o ho => ⟨ho.1, ho.2.1, ho.2.2.1, h _ _ ho.2.2.2⟩) hs
      · rename_i hsoft
        rw [if_neg hsoft]
        exact ⟨fun e => doOp_mono (fun o ho => ⟨ho.1, h _ _ ho.2⟩) (hs.1 e), fun e => h _ _ (hs.2 e)⟩
def evD (cp : FuncId → List PV → Option Res) (un : List (Nat × Nat)) (N : Nat) : List MOp → List (List Nat × List Nat) → St → Option St
  | [], acc, st => if okPairs un acc then some st else none
  | m :: ms, acc, st => if m.i.isNil then none else match evStep cp N m st with
    | some o => evD cp un N ms (acc ++ [(o.rd, tagsHu o.hu)]) (st.put m.dst o)
    | none => none
theorem evD_ok {P : Program} {cp : FuncId → List PV → Option Res} (hcp : CpOk P cp) {un : List (Nat × Nat)} {N : Nat} : ∀ (ms : List MOp) (acc : List (List Nat × List Nat)) (st st' : St), evD cp un N ms acc st = some st' → runD P un N ms acc st fun s => s = st'
  | [], acc, st, st', h => by
    simp only [evD] at h
    split at h
    · rename_i hp
      cases h
      exact ⟨hp, rfl⟩
    · cases h
  | m :: ms, acc, st, st', h => by
    simp only [evD] at h
    split at h
    · cases h
    · rename_i hn
      split at h
      · rename_i o ho
        refine ⟨?_, stepOp_mono (fun o' s hs => ?_) (evStep_ok hcp ho)⟩
        · cases hm : m.i <;> first | trivial | (rw [hm] at hn; exact hn rfl)
        · obtain ⟨rfl, rfl⟩ := hs
          exact evD_ok hcp ms _ _ _ h
      · cases h

/-! Regions in the order of the text -/
def Bnd (c : Ctx) (N : Nat) : Prop := ∀ k : Key, c.U k → k.2 < N ∨ BIG ≤ k.2
def CiOk (P : Program) (ci : FuncId → List PV → List (Key × Option HE) → Nat → Option (PV × List (Key × Option HE) × Nat)) : Prop :=
  ∀ f args h N r h' N', ci f args h N = some (r, h', N') → callable P f = true ∧ ∀ (E : Env) (a : Act) (c : Ctx) (w : World) (vs : List Value) (d : Option Nat) (s : List (Nat × PV)), E.P = P → Good E ⟨s, h⟩ c a w → Bnd c N → RepL w c args vs →
    Calls P f vs.toArray w fun e w' => ∃ v, e = .returned v ∧ ∃ c', Good E ⟨putS d r s, h'⟩ c' (a.put d v) w' ∧ Bnd c' N'
def inlM (mode : FuncId → Bool) (st : St) (i : MI) : Bool := match callee st i with
  | some (f, _) => mode f
  | none => false
def evCallI (ci : FuncId → List PV → List (Key × Option HE) → Nat → Option (PV × List (Key × Option HE) × Nat)) (N : Nat) (m : MOp) (st : St) : Option (St × Nat) :=
  match gOf st m with
  | some true => (match callee st m.i with
    | some (f, args) => (match ci f args st.h N with
      | some (r, h', N') => some (⟨putS m.dst r st.s, h'⟩, N')
      | none => none)
    | none => none)
  | some false => some (st.skip m.dst, N)
  | none => none
def evOne (mode : FuncId → Bool) (cp : FuncId → List PV → Option Res) (ci : FuncId → List PV → List (Key × Option HE) → Nat → Option (PV × List (Key × Option HE) × Nat)) (N : Nat) (m : MOp) (st : St) : Option (St × Nat) :=
  if inlM mode st m.i then evCallI ci N m st else if Nat.blt N BIG then (match evStep cp N m st with | some o => some (st.put m.dst o, N + 1) | none => none) else none
def evRun (mode : FuncId → Bool) (cp : FuncId → List PV → Option Res) (ci : FuncId → List PV → List (Key × Option HE) → Nat → Option (PV × List (Key × Option HE) × Nat)) : List MOp → St → Nat → Option (St × Nat)
  | [], st, N => some (st, N)
  | m :: ms, st, N => match evOne mode cp ci N m st with
    | some (st', N') => evRun mode cp ci ms st' N'
    | none => none

section
variable {E : Env} {st : St} {c : Ctx} {a : Act} {w : World}
theorem callee_runs (hg : Good E st c a w) {ops : Array Oper} {soft : Bool} {o : Oper} {m : MOp} (hm : toOp E.P E.nt ops soft o = some m) {f : FuncId} {args : List PV} (hc : callee st m.i = some (f, args)) (hcb : callable E.P f = true) {R : Value → World → Prop}
    (h : ∀ vs, RepL w c args vs → Calls E.P f vs.toArray w fun e w' => ∃ v, e = .returned v ∧ R v w') : Runs E.P a.eval o w R := by
  obtain ⟨hi, hdst, hgd⟩ := toOp_spec hm
  unfold callee at hc
  split at hc
  · rename_i f' args' hmi
    cases hc
    rw [hmi] at hi
    obtain ⟨cl, ho, hcl, hc, hargs⟩ := toI_call (hi.resolve_right (by simp))
    refine .inr ⟨f, _, ?_, h (cl.args.toList.map a.eval) (toOs_RepL _ _ _ hargs (fun t x m h _ => hg.get h))⟩
    rw [run_call ho hcl (a := #[]) (b := #[]) rfl hcb]
    congr 2
    apply Array.ext'
    simp
  · rename_i f' args' hmi
    split at hc
    · rename_i fid first caps hf
      cases hc
      rw [hmi] at hi
      obtain ⟨cl, t, ho, hcl, ht, rfl, hargs⟩ := toI_dcall (hi.resolve_right (by simp))
      have hft := hg.get (t := 0) (x := .tmp t) (m := .t t) (by simp [toO, ht])
      rw [hf] at hft
      obtain ⟨x, y, e1, r1, r2⟩ := hft
      refine .inr ⟨f, _, ?_, h (x.toList ++ cl.args.toList.map a.eval ++ y.toList) (RepL.append (RepL.append r1 (toOs_RepL _ _ _ hargs (fun t x m h _ => hg.get h))) r2)⟩
      rw [run_call ho hcl (a := x) (b := y) e1 hcb]
      congr 2
      apply Array.ext'
      simp
    · cases hc
  · cases hc
theorem gOf_wanted (hg : Good E st c a w) {ops : Array Oper} {soft : Bool} {o : Oper} {m : MOp} (hm : toOp E.P E.nt ops soft o = some m) {gb : Bool} (h : gOf st m = some gb) : Region.wanted o (yielded ops a.tmps) = gb := by
  obtain ⟨hi, hdst, hgd⟩ := toOp_spec hm
  unfold gOf at h
  rcases hgd with ⟨hg1, hg2⟩ | ⟨j, want, t, hg1, hg2, hlt, hg3⟩
  · rw [hg2] at h
    cases h
    simp [Region.wanted, hg1]
  · rw [hg3] at h
    exact guard_wanted hg hg1 hg2 hlt h

theorem evRun_ok {cp : FuncId → List PV → Option Res} (hcp : CpOk E.P cp) {ci : FuncId → List PV → List (Key × Option HE) → Nat → Option (PV × List (Key × Option HE) × Nat)} (hci : CiOk E.P ci) {mode : FuncId → Bool} {ops : Array Oper} {soft : Bool} {Q : Exit → Act → World → Prop} {stF : St} {NF : Nat}
    (hQ : ∀ c a w, Good E stF c a w → Bnd c NF → Q .normal a w) : ∀ (l : List Oper) (ms : List MOp) (st : St) (N : Nat) (c : Ctx) (a : Act) (w : World), toOps E.P E.nt ops soft l = some ms → evRun mode cp ci ms st N = some (stF, NF) → Good E st c a w → Bnd c N → wpList E.P ops Q l a w
  | [], ms, st, N, c, a, w, h, he, hg, hb => by
    simp only [toOps, Option.some.injEq] at h
    subst h
    simp only [evRun, Option.some.injEq, Prod.mk.injEq] at he
    obtain ⟨rfl, rfl⟩ := he
    exact hQ c a w hg hb
  | o :: l, ms, st, N, c, a, w, h, he, hg, hb => by
    simp only [toOps] at h
    split at h
    · rename_i m ms' h1 h2
      cases h
      simp only [evRun] at he
      split at he
      · rename_i st' N' hone
        unfold wpList
        have hdst := (toOp_spec h1).2.1
        unfold evOne at hone
        split at hone
        · -- in the caller's memory
          unfold evCallI at hone
          split at hone
          · rename_i hgo
            split at hone
            · rename_i f args hcl
              split at hone
              · rename_i r h' N'' hcall
                cases hone
                obtain ⟨hcb, hcc⟩ := hci _ _ _ _ _ _ _ hcall
                rw [if_pos (gOf_wanted hg h1 hgo)]
                refine .inl (Runs.wp (callee_runs hg h1 hcl hcb fun vs hr => Calls.mono (hcc E a c w vs m.dst st.s rfl hg hb hr) ?_))
                rintro e w' ⟨v, hev, c', hg', hb'⟩
                exact ⟨v, hev, evRun_ok hcp hci hQ l ms' _ _ c' _ w' h2 he (by rw [← hdst]; exact hg') hb'⟩
              · cases hone
            · cases hone
          · rename_i hgo
            cases hone
            rw [if_neg (by rw [gOf_wanted hg h1 hgo]; simp)]
            exact evRun_ok hcp hci hQ l ms' _ _ c _ w h2 he (hg.put (d := o.dst) (r := skipV) (by rw [← hdst]; rfl) (by simpa [St.skip] using hg.hgood) ⟨fun h => (by cases h), fun _ => rfl⟩ (Ctx.Le.refl c) (Mono.refl _ _)) hb
          · cases hone
        · split at hone
          · rename_i hlt
            split at hone
            · rename_i o' ho'
              cases hone
              have hN : N < BIG := by simpa [Nat.blt_eq] using hlt
              have hkey : ¬ c.U (m.dst.getD 0, N) := fun hu => by
                rcases hb _ hu with h | h
                · exact Nat.lt_irrefl _ h
                · simp only at h; omega
              have hb' : ∀ c' : Ctx, (∀ k : Key, c'.U k → c.U k ∨ k = (m.dst.getD 0, N)) → Bnd c' (N + 1) := fun c' hc' k hk => by
                rcases hc' k hk with h | rfl
                · exact (hb k h).imp (fun h => by omega) (fun h => h)
                · exact .inl (Nat.lt_succ_self _)
              obtain ⟨s1, s2⟩ := step_sound hg h1 hkey (evStep_ok hcp ho')
              split
              · rename_i hw
                refine .inl (Runs.wp ((s1 hw).mono ?_))
                rintro u w' ⟨_, st'', c', ⟨rfl, rfl⟩, hg', hU⟩
                exact evRun_ok hcp hci hQ l ms' _ _ c' _ w' h2 he hg' (hb' c' hU)
              · rename_i hw
                obtain ⟨_, st'', c', ⟨rfl, rfl⟩, hg', hU⟩ := s2 (by simpa using hw)
                exact evRun_ok hcp hci hQ l ms' _ _ c' _ w h2 he hg' (hb' c' hU)
            · cases hone
          · cases hone
      · cases he
    · cases h
end
end Go.Proofs.YtjeegophpmpibaaGreatDoor.Pv

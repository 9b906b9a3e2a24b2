/- An evaluator for runs on given data. No condition. -/
import Derived.Test.YtjeegophpmpibaaGreatDoorPv20
set_option linter.unusedSimpArgs false
set_option linter.unusedVariables false
namespace Go.Proofs.YtjeegophpmpibaaGreatDoor.Pv
open Go Go.RowKit

def okOptB (cb want : Bool) : PV → Bool
  | .opt b' _ => cb != want || b'
  | _ => true
theorem okOptB_ok {cb want : Bool} {x : PV} (h : okOptB cb want x = true) : okOpt cb want x := by
  cases x <;> first | trivial | skip
  rename_i b y
  intro e
  subst e
  simpa [okOptB] using h
def optOkB (gb : Bool) : PV → Bool
  | .opt b' _ => !gb || b'
  | _ => true
def optsOkB (gb : Bool) (get : MO → PV) : List MO → Bool
  | [] => true
  | x :: xs => optOkB gb (get x) && optsOkB gb get xs
theorem optsOkB_ok {gb : Bool} {get : MO → PV} : ∀ xs, optsOkB gb get xs = true → optsOk gb get xs
  | [], _ => trivial
  | x :: xs, h => by
    simp only [optsOkB, Bool.and_eq_true] at h
    refine ⟨?_, optsOkB_ok xs h.2⟩
    have h1 := h.1
    generalize get x = y at *
    cases y <;> first | trivial | skip
    rename_i b z
    intro e
    subst e
    simpa [optOkB] using h1
def isRunB : PV → Bool
  | .opt b _ => b
  | _ => true
theorem isRunB_ok {x : PV} (h : isRunB x = true) : isRun x := by
  cases x <;> first | trivial | exact h
/-- rowsOf's condition, as a test. -/
def rowsB (hl : Key → Option HE) : PV → Bool
  | .own g _ off len _ => match hl g with
    | some e => !e.bx && decide (off + len ≤ e.xs.length)
    | none => false
  | _ => true
theorem rowsB_ok {hl : Key → Option HE} {x : PV} {po : Prop} {xe : Nat} {rd : List Nat} {cx : List (List PV)} (h : rowsOf hl x = some (po, xe, rd, cx)) (hb : rowsB hl x = true) : po := by
  unfold rowsOf at h
  split at h
  · cases h; trivial
  · split at h
    · rename_i e he
      cases h
      simp only [rowsB, he, Bool.and_eq_true, Bool.not_eq_true', decide_eq_true_eq] at hb
      exact hb
    · cases h
  · cases h; trivial
  · cases h

/-- What must hold ahead of an instruction, as a test. -/
def preB (get : MO → PV) (hl : Key → Option HE) : MI → Bool
  | .pick c a b => isRunB (get c) && match strip (get c) with
    | .bool cb => okOptB cb true (get a) && okOptB cb false (get b)
    | _ => false
  | .box x => storable (get x)
  | .build z ps => fillOkB z.length (ps.map fun p => (p.1, p.2.1, get p.2.2))
  | .bslice esz z n ps => fillROkB esz n (ps.map fun p => (p.1, reify hl (get p.2))) && okLB hl (ps.map fun p => get p.2) && decide (z.length = esz) && decide (0 < esz) && decide (n ≤ 1024)
  | .load a n ag => match get a with
    | .ref cs => decide (n ≤ cs.length) && (ag || decide (n = 1))
    | .ptr g _ i off => match hl g with
      | some e => decide (i < e.xs.length) && decide (off + n ≤ (e.xs.getD i []).length) && (ag || decide (n = 1))
      | none => false
    | _ => false
  | .store a x n => match get a with
    | .ptr g _ i off => match hl g with
      | some e => if e.bx then decide (i < e.xs.length) && decide (off + n ≤ (e.xs.getD i []).length) && decide ((cells (get x)).length = n) && storable (get x)
        else decide (i < e.xs.length) && decide (off + n ≤ (e.xs.getD i []).length) && decide ((cells (reify hl (get x))).length = n) && storable (reify hl (get x)) && okVB hl (get x) && !(keysOf hl (get x)).contains g
      | none => false
    | _ => false
  | .bin op _ x y => binB op (get x) (get y)
  | .field x off n ag => match get x with
    | .agg cs => decide (off + n ≤ cs.length) && (ag || decide (n = 1))
    | _ => false
  | .iaddr x i _ => match get x, get i with
    | .vec _ _ xs, .int _ n => decide (0 ≤ n) && decide (n < xs.length)
    | .own _ _ _ len _, .int _ n => decide (0 ≤ n) && decide (n < len)
    | _, _ => false
  | .iaddrp _ i len _ => match get i with
    | .int _ n => decide (0 ≤ n) && decide (n < len)
    | _ => false
  | .sidx x i => match get x, get i with
    | .str s, .int _ n => decide (0 ≤ n) && decide (n < s.size)
    | _, _ => false
  | .aidx x i len esz ag => match get x, get i with
    | .agg cs, .int _ n => decide (0 ≤ n) && decide (n < len) && decide (cs.length = len * esz) && (ag || decide (esz = 1))
    | _, _ => false
  | .slc x esz lo hi mx => match get x with
    | .vec esz' _ xs => match bounds xs.length (lo.map get) (hi.map get), mxOf get mx with
      | some (l, h), some none => (xs.isEmpty || decide (esz' = esz)) && decide (0 ≤ l) && decide (l ≤ h) && decide (h ≤ xs.length)
      | some (l, h), some (some m) => (xs.isEmpty || decide (esz' = esz)) && decide (0 ≤ l) && decide (l ≤ h) && decide (h ≤ m) && decide (m ≤ xs.length)
      | _, _ => false
    | .own _ _ _ len _ => match bounds len (lo.map get) (hi.map get), mxOf get mx with
      | some (l, h), some none => decide (0 ≤ l) && decide (l ≤ h) && decide (h ≤ len)
      | some (l, h), some (some m) => decide (0 ≤ l) && decide (l ≤ h) && decide (h ≤ m) && decide (m ≤ len)
      | _, _ => false
    | _ => false
  | .sslc x lo hi => match get x with
    | .str s => match bounds s.size (lo.map get) (hi.map get) with
      | some (l, h) => decide (0 ≤ l) && decide (l ≤ h) && decide (h ≤ s.size)
      | none => false
    | _ => false
  | .ext x i => match get x with
    | .tup vs => decide (i < vs.length)
    | _ => false
  | .app s x esz => rowsB hl (get x) && (match rowsOf hl (get x) with
    | some (_, xe, _, cx) => match get s with
      | .vec esz' _ xs => cx.isEmpty || decide (0 < cx.length) && decide (xe = esz) && (xs.isEmpty || decide (esz' = esz)) && decide (0 < esz) && decide (xs.length + cx.length ≤ 68719476736)
      | .own g _ off len _ => match hl g with
        | some e => (cx.isEmpty || decide (xe = esz)) && decide (off + len ≤ e.xs.length) && decide (len + cx.length ≤ 68719476736)
        | none => false
      | _ => false
    | none => false)
  | .appz s n esz z => match get n with
    | .int _ k => decide (z.length = esz) && decide (0 < esz) && decide (1 ≤ k) && decide (k ≤ 1048576)
    | _ => false
  | .b2s x => rowsB hl (get x) && (match rowsOf hl (get x) with
    | some (_, _, _, cx) => decide (cx.length ≤ LIM)
    | none => false)
  | .mksl esz z l c => match get l, get c with
    | .int _ n, .int _ m => decide (z.length = esz) && decide (0 < esz) && decide (0 ≤ n) && decide (n ≤ m) && decide (m ≤ 1048576)
    | _, _ => false
  | _ => true

theorem preB_ok {key : Key} {get : MO → PV} {hl : Key → Option HE} {i : MI} {out : Out} (hs : opSem key get hl i = some out) (hb : preB get hl i = true) : out.pre := by
  cases i with
  | pick c a b =>
    simp only [opSem] at hs
    simp only [preB] at hb
    split at hs
    · rename_i cb hc
      cases hs
      simp only [hc, Bool.and_eq_true] at hb
      exact ⟨isRunB_ok hb.1, okOptB_ok hb.2.1, okOptB_ok hb.2.2⟩
    · cases hs
  | box x => simp only [opSem, Option.some.injEq] at hs; subst hs; exact hb
  | build z ps => simp only [opSem, Option.some.injEq] at hs; subst hs; exact fillOkB_ok _ hb
  | bslice esz z n ps =>
    simp only [opSem, Option.some.injEq] at hs; subst hs
    simp only [preB, Bool.and_eq_true, decide_eq_true_eq] at hb
    obtain ⟨⟨⟨⟨h1, h2⟩, h3⟩, h4⟩, h5⟩ := hb
    exact ⟨fillROkB_ok _ h1, okLB_ok _ h2, h3, h4, h5⟩
  | load a n ag =>
    simp only [opSem] at hs
    simp only [preB] at hb
    split at hs
    · rename_i cs hx
      cases hs
      simp only [hx, Bool.and_eq_true, decide_eq_true_eq, Bool.or_eq_true] at hb
      exact ⟨hb.1, fun h => hb.2.resolve_left (by simp [h])⟩
    · rename_i g esz i off hx
      split at hs
      · rename_i e he
        cases hs
        simp only [hx, he, Bool.and_eq_true, decide_eq_true_eq, Bool.or_eq_true] at hb
        exact ⟨hb.1.1, hb.1.2, fun h => hb.2.resolve_left (by simp [h])⟩
      · cases hs
    · cases hs
  | store a x n =>
    simp only [opSem] at hs
    simp only [preB] at hb
    split at hs
    · rename_i g esz i off hx
      split at hs
      · rename_i e he
        split at hs
        · cases hs
        · split at hs
          · rename_i hbx
            cases hs
            simp only [hx, he, hbx, if_true, Bool.and_eq_true, decide_eq_true_eq] at hb
            exact ⟨hb.1.1.1, hb.1.1.2, hb.1.2, hb.2⟩
          · rename_i hbx
            cases hs
            simp only [hx, he, hbx, if_false, Bool.and_eq_true, decide_eq_true_eq, Bool.not_eq_true', Bool.false_eq_true] at hb
            exact ⟨hb.1.1.1.1.1, hb.1.1.1.1.2, hb.1.1.1.2, hb.1.1.2, okVB_ok _ hb.1.2, hb.2⟩
      · cases hs
    · cases hs
  | bin op cls x y =>
    simp only [opSem] at hs
    split at hs
    · rename_i p r hbs
      cases hs
      exact binB_ok hbs hb
    · cases hs
  | field x off n ag =>
    simp only [opSem] at hs
    simp only [preB] at hb
    split at hs
    · rename_i cs hx
      cases hs
      simp only [hx, Bool.and_eq_true, decide_eq_true_eq, Bool.or_eq_true] at hb
      exact ⟨hb.1, fun h => hb.2.resolve_left (by simp [h])⟩
    · cases hs
  | iaddr x i esz =>
    simp only [opSem] at hs
    simp only [preB] at hb
    split at hs
    · rename_i e f xs k n hx hy
      split at hs
      · cases hs
        simp only [hx, hy, Bool.and_eq_true, decide_eq_true_eq] at hb
        exact hb
      · cases hs
    · rename_i g e off len full k n hx hy
      split at hs
      · cases hs
        simp only [hx, hy, Bool.and_eq_true, decide_eq_true_eq] at hb
        exact hb
      · cases hs
    · cases hs
  | iaddrp x i len esz =>
    simp only [opSem] at hs
    simp only [preB] at hb
    split at hs
    · rename_i cs k n hx hy
      cases hs
      simp only [hy, Bool.and_eq_true, decide_eq_true_eq] at hb
      exact hb
    · rename_i g e j off k n hx hy
      cases hs
      simp only [hy, Bool.and_eq_true, decide_eq_true_eq] at hb
      exact hb
    · cases hs
  | sidx x i =>
    simp only [opSem] at hs
    simp only [preB] at hb
    split at hs
    · rename_i s k n hx hy
      cases hs
      simp only [hx, hy, Bool.and_eq_true, decide_eq_true_eq] at hb
      exact hb
    · cases hs
  | aidx x i len esz ag =>
    simp only [opSem] at hs
    simp only [preB] at hb
    split at hs
    · rename_i cs k n hx hy
      cases hs
      simp only [hx, hy, Bool.and_eq_true, decide_eq_true_eq, Bool.or_eq_true] at hb
      exact ⟨hb.1.1.1, hb.1.1.2, hb.1.2, fun h => hb.2.resolve_left (by simp [h])⟩
    · cases hs
  | slc x esz lo hi mx =>
    simp only [opSem] at hs
    simp only [preB] at hb
    split at hs
    · rename_i esz' full xs hx
      split at hs
      · rename_i l h hbd hmx
        cases hs
        simp only [hx, hbd, hmx, Bool.and_eq_true, decide_eq_true_eq, Bool.or_eq_true, List.isEmpty_iff] at hb
        exact ⟨hb.1.1.1, hb.1.1.2, hb.1.2, hb.2⟩
      · rename_i l h m hbd hmx
        cases hs
        simp only [hx, hbd, hmx, Bool.and_eq_true, decide_eq_true_eq, Bool.or_eq_true, List.isEmpty_iff] at hb
        exact ⟨hb.1.1.1.1, hb.1.1.1.2, hb.1.1.2, hb.1.2, hb.2⟩
      · cases hs
    · rename_i g esz' off len full hx
      split at hs
      · split at hs
        · rename_i l h hbd hmx
          cases hs
          simp only [hx, hbd, hmx, Bool.and_eq_true, decide_eq_true_eq] at hb
          exact ⟨hb.1.1, hb.1.2, hb.2⟩
        · rename_i l h m hbd hmx
          cases hs
          simp only [hx, hbd, hmx, Bool.and_eq_true, decide_eq_true_eq] at hb
          exact ⟨hb.1.1.1, hb.1.1.2, hb.1.2, hb.2⟩
        · cases hs
      · cases hs
    · cases hs
  | sslc x lo hi =>
    simp only [opSem] at hs
    simp only [preB] at hb
    split at hs
    · rename_i s hx
      split at hs
      · rename_i l h hbd
        cases hs
        simp only [hx, hbd, Bool.and_eq_true, decide_eq_true_eq] at hb
        exact ⟨hb.1.1, hb.1.2, hb.2⟩
      · cases hs
    · cases hs
  | ext x i =>
    simp only [opSem] at hs
    simp only [preB] at hb
    split at hs
    · rename_i vs hx
      cases hs
      simp only [hx, decide_eq_true_eq] at hb
      exact hb
    · cases hs
  | app s x esz =>
    simp only [opSem] at hs
    simp only [preB, Bool.and_eq_true] at hb
    obtain ⟨hb1, hb⟩ := hb
    split at hs
    · rename_i po xe rd cx hro
      have hpo := rowsB_ok hro hb1
      simp only [hro] at hb
      split at hs
      · rename_i esz' full xs hgs
        split at hs
        · cases hs; exact hpo
        · rename_i hemp
          split at hs
          · cases hs
            simp only [hgs, Bool.and_eq_true, decide_eq_true_eq, Bool.or_eq_true, List.isEmpty_iff] at hb
            have hb := hb.resolve_left (by simpa using hemp)
            exact ⟨hpo, hb.1.1.1.1, hb.1.1.1.2, hb.1.1.2, hb.1.2, hb.2⟩
          · cases hs
      · rename_i g esz' off len full hgs
        split at hs
        · rename_i e he
          split at hs
          · cases hs
          · cases hs
            simp only [hgs, he, Bool.and_eq_true, decide_eq_true_eq, Bool.or_eq_true, List.isEmpty_iff] at hb
            exact ⟨hpo, hb.1.1, hb.1.2, hb.2⟩
        · cases hs
      · cases hs
    · cases hs
  | appz s n esz z =>
    simp only [opSem] at hs
    simp only [preB] at hb
    split at hs
    · rename_i e k m h1 h2
      cases hs
      simp only [h2, Bool.and_eq_true, decide_eq_true_eq] at hb
      exact ⟨hb.1.1.1, hb.1.1.2, hb.1.2, hb.2⟩
    · cases hs
  | b2s x =>
    simp only [opSem] at hs
    simp only [preB, Bool.and_eq_true] at hb
    obtain ⟨hb1, hb⟩ := hb
    split at hs
    · cases hs
    · split at hs
      · rename_i po xe rd cx hro
        split at hs
        · cases hs
          simp only [hro, decide_eq_true_eq] at hb
          exact ⟨rowsB_ok hro hb1, hb⟩
        · cases hs
      · cases hs
  | mksl esz z l c =>
    simp only [opSem] at hs
    simp only [preB] at hb
    split at hs
    · rename_i k1 n k2 m h1 h2
      cases hs
      simp only [h1, h2, Bool.and_eq_true, decide_eq_true_eq] at hb
      exact ⟨hb.1.1.1.1, hb.1.1.1.2, hb.1.1.2, hb.1.2, hb.2⟩
    · cases hs
  | mv x => simp only [opSem, Option.some.injEq] at hs; subst hs; trivial
  | alloc z => simp only [opSem, Option.some.injEq] at hs; subst hs; trivial
  | mkfn f a b => simp only [opSem, Option.some.injEq] at hs; subst hs; trivial
  | mkif t x => simp only [opSem, Option.some.injEq] at hs; subst hs; trivial
  | nilck x => simp only [opSem] at hs; split at hs <;> first | (cases hs; done) | (simp only [Option.some.injEq] at hs; subst hs; trivial)
  | un op x => simp only [opSem] at hs; split at hs <;> first | (cases hs; done) | (simp only [Option.some.injEq] at hs; subst hs; trivial)
  | conv k x => simp only [opSem] at hs; split at hs <;> first | (cases hs; done) | (simp only [Option.some.injEq] at hs; subst hs; trivial)
  | faddr a n => simp only [opSem] at hs; split at hs <;> first | (cases hs; done) | (simp only [Option.some.injEq] at hs; subst hs; trivial)
  | len x => simp only [opSem] at hs; split at hs <;> first | (cases hs; done) | (simp only [Option.some.injEq] at hs; subst hs; trivial)
  | slen x => simp only [opSem] at hs; split at hs <;> first | (cases hs; done) | (simp only [Option.some.injEq] at hs; subst hs; trivial)
  | cap x => simp only [opSem] at hs; split at hs <;> first | (cases hs; done) | (simp only [Option.some.injEq] at hs; subst hs; trivial)
  | minmax b x y =>
    simp only [opSem] at hs
    split at hs
    · split at hs
      · cases hs; trivial
      · cases hs
    · cases hs
  | call _ _ => simp [opSem] at hs
  | dcall _ _ => simp [opSem] at hs
  | nilcmp _ _ => simp [opSem] at hs
  | bad => simp [opSem] at hs
end Go.Proofs.YtjeegophpmpibaaGreatDoor.Pv

/- Memory that an instruction makes, and stores into it: what was known stays known. No condition. -/
import Derived.Test.YtjeegophpmpibaaGreatDoorPv8
import Derived.Laws.IdiomCopy
import Derived.Deep.Upon
set_option linter.unusedSimpArgs false
set_option linter.unusedVariables false
namespace Go.Proofs.YtjeegophpmpibaaGreatDoor.Pv
open Go Go.RowKit

/-! Worlds -/
theorem mono_alloc {F : Nat → Prop} {w : World} (hF : ∀ b, F b → b < w.heap.size) (o : Obj) : Mono F w (w.alloc o) :=
  ⟨by simp, fun b hb => Below.heap_alloc w o b (hF b hb), fun b cs el fr hb => ⟨cs, fr, by
    have hlt : b < w.heap.size := (Array.getElem?_eq_some_iff.1 hb).1
    rw [Below.heap_alloc w o b hlt, hb], rfl⟩⟩
theorem mono_drew {F : Nat → Prop} (w : World) : Mono F w w.drew := ⟨Nat.le_refl _, fun _ _ => rfl, fun _ cs _ fr h => ⟨cs, fr, h, rfl⟩⟩
theorem heap_setCell_same {w : World} {b o : Nat} {v : Value} {cs : Array Value} {el : TypeId} {fr : Nat × Nat} (h : w.heap[b]? = some (.cells cs el fr)) :
    (w.setCell ⟨b, o, none⟩ v).heap[b]? = some (.cells (cs.setIfInBounds o v) el fr) := by
  simp [World.setCell, Array.getElem?_modify, h]
theorem heap_setCells_same (b : Nat) : ∀ (vs : List Value) (o : Nat) (w : World) (cs : Array Value) (el : TypeId) (fr : Nat × Nat), w.heap[b]? = some (.cells cs el fr) →
    ∃ cs', (w.setCells b o vs).heap[b]? = some (.cells cs' el fr) ∧ cs'.size = cs.size
  | [], _, _, cs, _, _, h => ⟨cs, h, rfl⟩
  | v :: r, o, w, cs, el, fr, h => by
    obtain ⟨cs', h1, h2⟩ := heap_setCells_same b r (o + 1) _ _ _ _ (heap_setCell_same (o := o) (v := v) h)
    exact ⟨cs', h1, by simpa using h2⟩
theorem size_setCells' (b : Nat) : ∀ (vs : List Value) (o : Nat) (w : World), (w.setCells b o vs).heap.size = w.heap.size
  | [], _, _ => rfl
  | v :: r, o, w => by rw [World.setCells, size_setCells' b r]; simp
theorem heap_setCells_ne (w : World) (b o : Nat) (vs : List Value) {k : Nat} (hne : k ≠ b) : (w.setCells b o vs).heap[k]? = w.heap[k]? := by
  by_cases hk : k < w.heap.size
  · exact World.heap_setCells_other w b o vs hk hne
  · rw [Array.getElem?_eq_none (by rw [size_setCells']; omega), Array.getElem?_eq_none (by omega)]
theorem mono_setCells {F : Nat → Prop} {w : World} {b : Nat} (hF : ¬ F b) (o : Nat) (vs : List Value) : Mono F w (w.setCells b o vs) :=
  ⟨by rw [size_setCells']; exact Nat.le_refl _, fun k hk => heap_setCells_ne w b o vs (fun e => hF (e ▸ hk)), fun k cs el fr hk => by
    by_cases e : k = b
    · subst e
      obtain ⟨cs', h1, h2⟩ := heap_setCells_same k vs o w cs el fr hk
      exact ⟨cs', fr, h1, h2⟩
    · exact ⟨cs, fr, (heap_setCells_ne w b o vs e).trans hk, rfl⟩⟩
theorem below_setCells0 {B b : Nat} {a w : World} (hb : B ≤ b) (o : Nat) (vs : List Value) (h : Below B a w) : Below B a (w.setCells b o vs) := by
  induction vs generalizing o w with
  | nil => exact h
  | cons v r ih => exact ih (o + 1) (h.setCell hb v)
theorem below_setCells' {B b : Nat} {a w : World} (hb : B ≤ b) (o : Nat) (vs : List Value) (h : Bel B a w) : Bel B a (w.setCells b o vs) :=
  ⟨below_setCells0 hb o vs h.below, fun x => by rw [World.frozen?_setCells]; exact h.froz x⟩

/-! Lists of cells -/
theorem RepAt.of_list {w : World} {c : Ctx} {b : Nat} : ∀ {o : Nat} {xs : List PV} {vs : List Value}, RepL w c xs vs → (∀ u ∈ vs, u.oneCell' = true) →
    (∀ (j : Nat) (v : Value), vs[j]? = some v → w.cell? ⟨b, o + j, none⟩ = some v) → RepAt w c b o xs
  | _, [], _, _, _, _ => trivial
  | o, x :: xs, _, h, h1, hc => by
    obtain ⟨u, us, rfl, e1, e2⟩ := h
    exact ⟨⟨u, by simpa using hc 0 u rfl, h1 u (by simp), e1⟩, RepAt.of_list e2 (fun u hu => h1 u (by simp [hu])) (fun j v hj => by
      have := hc (j + 1) v (by simpa using hj)
      rwa [show o + (j + 1) = o + 1 + j by omega] at this)⟩
theorem RepL.split {w : World} {c : Ctx} : ∀ {xs ys : List PV} {vs : List Value}, RepL w c (xs ++ ys) vs → RepL w c xs (vs.take xs.length) ∧ RepL w c ys (vs.drop xs.length)
  | [], _, _, h => ⟨by simp [RepL], by simpa using h⟩
  | x :: xs, ys, _, h => by
    obtain ⟨u, us, rfl, e1, e2⟩ := h
    obtain ⟨k1, k2⟩ := RepL.split e2
    exact ⟨⟨u, _, by simp, e1, k1⟩, by simpa using k2⟩
theorem RepRows.of_list {w : World} {c : Ctx} {esz b : Nat} : ∀ {o : Nat} {xs : List (List PV)} {vs : List Value}, RepL w c xs.flatten vs → (∀ u ∈ vs, u.oneCell' = true) → (∀ r ∈ xs, r.length = esz) →
    (∀ (j : Nat) (v : Value), vs[j]? = some v → w.cell? ⟨b, o + j, none⟩ = some v) → RepRows w c esz b o xs
  | _, [], _, _, _, _, _ => trivial
  | o, r :: rs, vs, h, h1, hl, hc => by
    rw [List.flatten_cons] at h
    obtain ⟨k1, k2⟩ := h.split
    have e := hl r (by simp)
    refine ⟨e, RepAt.of_list k1 (fun u hu => h1 u (List.mem_of_mem_take hu)) (fun j v hj => hc j v ?_), RepRows.of_list k2 (fun u hu => h1 u (List.mem_of_mem_drop hu)) (fun r hr => hl r (by simp [hr])) (fun j v hj => ?_)⟩
    · rw [List.getElem?_take] at hj
      split at hj
      · exact hj
      · cases hj
    · rw [List.getElem?_drop] at hj
      have := hc _ v hj
      rwa [e, show o + (esz + j) = o + esz + j by omega] at this
theorem RepRows.vals {w : World} {c : Ctx} {esz b : Nat} : ∀ {o : Nat} {xs : List (List PV)}, RepRows w c esz b o xs → ∃ vs : List Value, RepL w c xs.flatten vs ∧ (∀ u ∈ vs, u.oneCell' = true) ∧ vs.length = xs.length * esz ∧
    ∀ (j : Nat) (v : Value), vs[j]? = some v → w.cell? ⟨b, o + j, none⟩ = some v
  | _, [], _ => ⟨[], rfl, by simp, by simp, by simp⟩
  | o, r :: rs, h => by
    obtain ⟨e, h1, h2⟩ := h
    obtain ⟨vs, a1, a2, a3⟩ := RepAt.vals h1
    obtain ⟨us, b1, b2, b3, b4⟩ := RepRows.vals h2
    have el : vs.length = esz := by rw [RepL.length a1, e]
    refine ⟨vs ++ us, by rw [List.flatten_cons]; exact RepL.append a1 b1, fun u hu => (List.mem_append.1 hu).elim (a2 u) (b2 u), by simp [el, b3, Nat.add_mul]; omega, fun j v hj => ?_⟩
    rw [List.getElem?_append] at hj
    split at hj
    · exact a3 j v hj
    · have := b4 _ v hj
      rwa [el, show o + esz + (j - esz) = o + j by omega] at this
theorem RepRows.lens {w : World} {c : Ctx} {esz b : Nat} : ∀ {o : Nat} {xs : List (List PV)}, RepRows w c esz b o xs → ∀ r ∈ xs, r.length = esz
  | _, [], _ => by simp
  | o, r :: rs, h => fun x hx => by
    rcases List.mem_cons.1 hx with rfl | hx
    · exact h.1
    · exact RepRows.lens h.2.2 x hx

/-! Values as cells -/
theorem cells_rep {w : World} {c : Ctx} {x : PV} {v : Value} (h : RepV w c x v) (hs : storable x = true) : RepL w c (cells x) v.cells.toList ∧ ∀ u ∈ v.cells.toList, u.oneCell' = true := by
  cases x <;> first
    | (simp [storable, isOne] at hs; done)
    | (obtain ⟨vs, rfl, h1, h2⟩ := h; exact ⟨h1, h2⟩)
    | skip
  all_goals
    have e : v.cells = #[v] ∧ v.oneCell' = true := by
      first
      | (have h' : v = _ := h; subst h'; exact ⟨rfl, rfl⟩)
      | (obtain ⟨rfl, _⟩ := h; exact ⟨rfl, rfl⟩)
      | (obtain ⟨_, rfl, _⟩ := h; exact ⟨rfl, rfl⟩)
      | (obtain ⟨_, _, rfl, _⟩ := h; exact ⟨rfl, rfl⟩)
      | (obtain ⟨_, _, _, rfl⟩ := h; exact ⟨rfl, rfl⟩)
      | (obtain ⟨_, _, _, _, rfl⟩ := h; exact ⟨rfl, rfl⟩)
      | (obtain ⟨_, _, _, _, _, rfl, _⟩ := h; exact ⟨rfl, rfl⟩)
    rw [e.1]
    exact ⟨⟨v, [], rfl, h, rfl⟩, by simpa using e.2⟩

theorem fitsV_rep {w : World} {c : Ctx} {x : PV} {v : Value} (h : fitsV x v = true) : RepV w c x v ∧ v.oneCell' = true := by
  unfold fitsV at h
  split at h
  · simp only [beq_iff_eq] at h; subst h; exact ⟨rfl, rfl⟩
  · simp only [Bool.and_eq_true, beq_iff_eq, decide_eq_true_eq] at h
    obtain ⟨⟨⟨rfl, rfl⟩, h1⟩, h2⟩ := h
    exact ⟨⟨rfl, h1, h2⟩, rfl⟩
  · simp only [Bool.and_eq_true, beq_iff_eq, decide_eq_true_eq] at h
    obtain ⟨h0, h1⟩ := h
    exact ⟨⟨by rw [ByteArray.ext h0], h1⟩, rfl⟩
  · exact ⟨⟨none, 0, rfl, by simp, by simp, by simp [LIM], fun _ => rfl, .inl rfl⟩, rfl⟩
  · exact ⟨rfl, rfl⟩
  · exact ⟨rfl, rfl⟩
  · exact ⟨rfl, rfl⟩
  · cases h
theorem fitsL_rep {w : World} {c : Ctx} : ∀ {xs : List PV} {vs : List Value}, fitsL xs vs = true → RepL w c xs vs ∧ ∀ u ∈ vs, u.oneCell' = true
  | [], [], _ => ⟨rfl, by simp⟩
  | [], _ :: _, h => by simp [fitsL] at h
  | _ :: _, [], h => by simp [fitsL] at h
  | x :: xs, v :: vs, h => by
    simp only [fitsL, Bool.and_eq_true] at h
    obtain ⟨a, b⟩ := fitsV_rep (w := w) (c := c) h.1
    obtain ⟨d, e⟩ := fitsL_rep (w := w) (c := c) h.2
    refine ⟨⟨v, vs, rfl, a, d⟩, fun u hu => ?_⟩
    rcases List.mem_cons.1 hu with rfl | hu
    · exact b
    · exact e u hu
theorem zeroPV_ok {P : Program} {t : TypeId} {zs : List PV} (h : zeroPV P t = some zs) : ∃ i z, P.info? t = some i ∧ i.zero = some z ∧ fitsL zs z.cells.toList = true ∧ aggOf P t = isAggV z ∧ zs.length = i.size := by
  unfold zeroPV at h
  split at h
  · rename_i z hz
    obtain ⟨i, h1, h2⟩ := Option.bind_eq_some_iff.1 hz
    split at h
    · rename_i hc
      simp only [Option.some.injEq] at h
      subst h
      simp only [Bool.and_eq_true, beq_iff_eq, decide_eq_true_eq] at hc
      exact ⟨i, z, h1, h2, hc.1.1, hc.1.2, by rw [hc.2]; simp [szOf, h1]⟩
    · cases h
  · cases h

/-! A new block -/
def newCtx (c : Ctx) (key : Key) (a : Option Addr) (n : Nat) : Ctx := ⟨fun k => if k = key then a else c.β k, fun k => if k = key then n else c.es k, fun k => c.U k ∨ k = key, c.Fz⟩
theorem newCtx_le {c : Ctx} {key : Key} {a : Option Addr} {n : Nat} (hk : ¬ c.U key) : c.Le (newCtx c key a n) :=
  ⟨fun _ h => .inl h, fun g hg => if_neg (fun e => by subst e; exact hk hg), fun g hg => if_neg (fun e => by subst e; exact hk hg), fun _ h => h⟩
theorem newCtx_bnd {c : Ctx} {key : Key} {a : Option Addr} {n : Nat} (h : ∃ N, ∀ k, c.U k → k.2 < N) : ∃ N, ∀ k, (newCtx c key a n).U k → k.2 < N := by
  obtain ⟨N, h⟩ := h
  refine ⟨max N (key.2 + 1), fun k hk => ?_⟩
  rcases hk with hk | rfl
  · exact Nat.lt_of_lt_of_le (h k hk) (Nat.le_max_left _ _)
  · exact Nat.lt_of_lt_of_le (Nat.lt_succ_self _) (Nat.le_max_right _ _)
theorem sel_le {c c' : Ctx} (q : Bool) (h : c.Le c') : Ctx.Le (if q then c else c.d) (if q then c' else c'.d) := by
  cases q
  · simpa using Ctx.Le.d h.Fz
  · simpa using h
theorem sel_fz (c : Ctx) (q : Bool) : Ctx.Fz (if q then c else c.d) = c.Fz := by cases q <;> rfl

theorem HRep.mono {w w' : World} {c c' : Ctx} {k : Key} {e : HE} (h : HRep w c k e) (hm : Mono c.Fz w w') (hc : c.Le c') (hF : ∀ ad, c.β k = some ad → (c'.Fz ad.block ↔ c.Fz ad.block)) (hb : ∀ ad, c.β k = some ad → w'.heap[ad.block]? = w.heap[ad.block]?) : HRep w' c' k e := by
  obtain ⟨h1, h2, h3⟩ := h
  refine ⟨hc.U k h1, h2.trans (hc.es k h1).symm, ?_⟩
  rw [hc.β k h1]
  cases hbk : c.β k with
  | none => rw [hbk] at h3; exact h3
  | some ad =>
    rw [hbk] at h3
    obtain ⟨a1, ⟨cs, el, fr, a2, a3⟩, a4, a5⟩ := h3
    exact ⟨a1, ⟨cs, el, fr, by rw [hb ad hbk, a2], a3⟩, RepRows.mono e.esz ad.block (hb ad hbk) _ _ (by rw [sel_fz]; exact hm) (sel_le e.bx hc) a4, (hF ad hbk).trans a5⟩

section
variable {E : Env} {h : List (Key × Option HE)} {c : Ctx} {w : World} {ev : Operand → Value} {get : MO → PV} {o : Oper} {i : MI} {key : Key} {out : Out}

theorem hk_cons (k j : Key) (e : Option HE) (h : List (Key × Option HE)) : hk k ((j, e) :: h) = if k = j then e else hk k h := rfl

/-- A block that the instruction has just laid becomes an owned one. -/
theorem HGood.extend (hg : HGood E h c w) (hkey : ¬ c.U key) {cs : Array Value} {el : TypeId} {n : Nat} {xs : List (List PV)} {vs : List Value} (bx : Bool)
    (hv : RepL w (if bx then c else c.d) xs.flatten vs) (h1 : ∀ u ∈ vs, u.oneCell' = true) (hl : ∀ r ∈ xs, r.length = n) (hcs : ∀ (j : Nat) (v : Value), vs[j]? = some v → cs[j]? = some v) (hsz : xs.length * n ≤ cs.size)
    (w1 : World) (hw1 : w1 = w ∨ w1 = w.drew) :
    HGood E ((key, some ⟨n, xs, false, bx⟩) :: h) (newCtx c key (some ⟨w.heap.size, 0, none⟩) n) (w1.alloc (.cells cs el)) ∧ Mono c.Fz w (w1.alloc (.cells cs el)) := by
  have hh1 : w1.heap = w.heap := by rcases hw1 with rfl | rfl <;> rfl
  have hm : Mono c.Fz w (w1.alloc (.cells cs el)) := by
    have m1 : Mono c.Fz w w1 := by
      rcases hw1 with rfl | rfl
      · exact Mono.refl _ _
      · exact mono_drew w
    exact m1.trans (mono_alloc (fun b hb => by rw [hh1]; exact (hg.fz b hb).1) _)
  have hle := newCtx_le (a := some ⟨w.heap.size, 0, none⟩) (n := n) hkey
  have hold : ∀ b, b < w.heap.size → (w1.alloc (.cells cs el)).heap[b]? = w.heap[b]? := fun b hb => by
    rw [Below.heap_alloc w1 _ b (by rw [hh1]; exact hb), hh1]
  have hnew : (w1.alloc (.cells cs el)).heap[w.heap.size]? = some (.cells cs el) := by
    simp [World.alloc, hh1]
  have hβ : ∀ k, k ≠ key → (newCtx c key (some ⟨w.heap.size, 0, none⟩) n).β k = c.β k := fun k hk => if_neg hk
  have hβk : (newCtx c key (some ⟨w.heap.size, 0, none⟩) n).β key = some ⟨w.heap.size, 0, none⟩ := if_pos rfl
  refine ⟨⟨?_, ?_, ?_, ?_, hg.le, newCtx_bnd hg.bnd, ?_⟩, hm⟩
  · intro k e he
    rw [hk_cons] at he
    split at he
    · rename_i e1
      subst e1
      simp only [Option.some.injEq] at he
      subst he
      refine ⟨.inr rfl, (if_pos rfl).symm, ?_⟩
      rw [hβk]
      refine ⟨rfl, ⟨cs, el, (0, 0), hnew, by simpa using hsz, fun o _ => by simp⟩, ?_, ?_⟩
      · refine RepRows.of_list (RepL.mono _ _ (by rw [sel_fz]; exact hm) (sel_le bx hle) hv) h1 hl (fun j v hj => ?_)
        have := hcs j v hj
        simp [World.cell?, hnew, this]
      · simp only [Bool.false_eq_true, iff_false]
        intro hf
        have := (hg.fz _ hf).1
        omega
    · rename_i hne
      have hh := hg.heap k e he
      exact hh.mono hm hle (fun ad _ => Iff.rfl) (fun ad had => hold _ (hg.fresh k e ad he had).2)
  · intro k e ad he had
    rw [hk_cons] at he
    split at he
    · rename_i e1
      subst e1
      rw [hβk] at had
      obtain rfl := Option.some.inj had
      exact ⟨hg.below.size, by simp [hh1]⟩
    · rename_i hne
      rw [hβ k hne] at had
      have := hg.fresh k e ad he had
      exact ⟨this.1, by simp [hh1]; omega⟩
  · intro k k' e e' ad ad' he he' had had' hne
    rw [hk_cons] at he he'
    split at he
    · rename_i e1
      subst e1
      rw [hβk] at had
      obtain rfl := Option.some.inj had
      rw [if_neg (fun e => hne e.symm)] at he'
      rw [hβ k' (fun e => hne e.symm)] at had'
      have := (hg.fresh k' e' ad' he' had').2
      simp only
      omega
    · rename_i h1
      rw [hβ k h1] at had
      split at he'
      · rename_i e2
        subst e2
        rw [hβk] at had'
        obtain rfl := Option.some.inj had'
        have := (hg.fresh k e ad he had).2
        simp only
        omega
      · rename_i h2
        rw [hβ k' h2] at had'
        exact hg.apart k k' e e' ad ad' he he' had had' hne
  · intro b hb
    have := hg.fz b hb
    exact ⟨by simp [hh1]; omega, this.2⟩
  · have h2 : Bel E.w0.heap.size E.w0 w1 := by
      rcases hw1 with rfl | rfl
      · exact hg.below
      · exact hg.below.drew
    exact h2.alloc (by rw [hh1]; exact hg.below.size) _ _

theorem run_newVar {P : Program} (t : TypeId) (v : Value) : (newVar t v).run P w = .ok ⟨w.heap.size, 0, none⟩ (w.alloc (.cells v.cells t)) := by
  simp [newVar, newRow]

theorem does_alloc (t : TypeId) (ho : o.op = .alloc t) (hi : toI E.P E.nt o = some i) (hg : HGood E h c w) (hkey : ¬ c.U key)
    (hs : opSem key get (fun k => hk k h) i = some out) (hp : out.pre) : Does E h c w ev o key out := by
  simp only [toI, ho] at hi
  obtain ⟨z, hz, rfl⟩ := Option.map_eq_some_iff.1 hi
  obtain ⟨inf, zv, i1, i2, i3, i4, i5⟩ := zeroPV_ok hz
  simp only [opSem, Option.some.injEq] at hs
  subst hs
  obtain ⟨r1, r2⟩ := fitsL_rep (w := w) (c := c) i3
  have hl : zv.cells.toList.length = z.length := RepL.length r1
  obtain ⟨g1, g2⟩ := hg.extend hkey (cs := zv.cells) (el := t) (n := z.length) (xs := [z]) (vs := zv.cells.toList) true (by simpa using r1) r2 (by simp) (fun j v hj => by simpa using hj) (by simp at hl ⊢; omega) w (.inl rfl)
  exact ⟨_, .pointer (some ⟨w.heap.size, 0, none⟩), _, _, by simp [execOp, ho, Instr.alloc, zeroValue, typeInfo, i1, i2, run_newVar], .inl rfl, g1, ⟨.inr rfl, (if_pos rfl).symm, _, if_pos rfl, by simp⟩, newCtx_le hkey, g2, fun _ hk => hk⟩

theorem does_box (t : TypeId) (x : Operand) (ho : o.op = .box t x) (hi : toI E.P E.nt o = some i) (hg : HGood E h c w) (hkey : ¬ c.U key) (hop : Opnd E c w ev get i)
    (hs : opSem key get (fun k => hk k h) i = some out) (hp : out.pre) : Does E h c w ev o key out := by
  simp only [toI, ho] at hi
  obtain ⟨m, hm, rfl⟩ := Option.map_eq_some_iff.1 hi
  have hr := hop _ x m hm (by simp [MI.ops])
  simp only [opSem, Option.some.injEq] at hs
  subst hs
  obtain ⟨r1, r2⟩ := cells_rep hr hp
  have hl : (ev x).cells.toList.length = (cells (get m)).length := RepL.length r1
  obtain ⟨g1, g2⟩ := hg.extend hkey (cs := (ev x).cells) (el := t) (n := (cells (get m)).length) (xs := [cells (get m)]) (vs := (ev x).cells.toList) true (by simpa using r1) r2 (by simp) (fun j v hj => by simpa using hj) (by simp at hl ⊢; omega) w (.inl rfl)
  exact ⟨_, .pointer (some ⟨w.heap.size, 0, none⟩), _, _, by simp [execOp, ho, Instr.box, run_newVar], .inl rfl, g1, ⟨.inr rfl, (if_pos rfl).symm, _, if_pos rfl, by simp⟩, newCtx_le hkey, g2, fun _ hk => hk⟩
end

/-! Blocks that are written no more from here on -/
section
variable {E : Env} {h : List (Key × Option HE)} {c : Ctx} {w : World}
theorem hk_freeze (hl : Key → Option HE) (h : List (Key × Option HE)) (k : Key) : ∀ ks : List Key, hk k (freezeAll hl ks ++ h) = if k ∈ ks then (hl k).map (fun e => { e with fz := true }) else hk k h
  | [] => by simp [freezeAll]
  | j :: ks => by
    have ih := hk_freeze hl h k ks
    simp only [freezeAll, List.map_cons, List.cons_append, hk_cons, List.mem_cons] at ih ⊢
    by_cases e : k = j
    · subst e; simp
    · simp only [e, if_false, false_or]; exact ih
/-- The blocks of some keys. -/
def blocksOf (h : List (Key × Option HE)) (c : Ctx) (ks : List Key) (b : Nat) : Prop := ∃ k ∈ ks, ∃ e, hk k h = some e ∧ ∃ ad, c.β k = some ad ∧ ad.block = b
def frzCtx (h : List (Key × Option HE)) (c : Ctx) (ks : List Key) : Ctx := ⟨c.β, c.es, c.U, fun b => c.Fz b ∨ blocksOf h c ks b⟩
theorem frz_le {ks : List Key} : c.Le (frzCtx h c ks) := ⟨fun _ h => h, fun _ _ => rfl, fun _ _ => rfl, fun _ h => .inl h⟩
theorem HGood.freeze (hg : HGood E h c w) (ks : List Key) : HGood E (freezeAll (fun k => hk k h) ks ++ h) (frzCtx h c ks) w := by
  have look : ∀ k e, hk k (freezeAll (fun k => hk k h) ks ++ h) = some e → ∃ e0, hk k h = some e0 ∧ ((k ∈ ks ∧ e = { e0 with fz := true }) ∨ (k ∉ ks ∧ e = e0)) := fun k e he => by
    rw [hk_freeze] at he
    split at he
    · rename_i hm
      obtain ⟨e0, h1, h2⟩ := Option.map_eq_some_iff.1 he
      exact ⟨e0, h1, .inl ⟨hm, h2.symm⟩⟩
    · rename_i hm
      exact ⟨e, he, .inr ⟨hm, rfl⟩⟩
  refine ⟨fun k e he => ?_, fun k e ad he had => ?_, fun k k' e e' ad ad' he he' had had' hne => ?_, fun b hb => ?_, fun b hb => .inl (hg.le b hb), hg.bnd, hg.below⟩
  · obtain ⟨e0, h0, hc⟩ := look k e he
    have hh := hg.heap k e0 h0
    obtain ⟨a1, a2, a3⟩ := hh
    have hE : e.esz = e0.esz ∧ e.xs = e0.xs ∧ e.bx = e0.bx := by rcases hc with ⟨_, rfl⟩ | ⟨_, rfl⟩ <;> exact ⟨rfl, rfl, rfl⟩
    refine ⟨a1, hE.1.trans a2, ?_⟩
    show (match c.β k with | none => _ | some ad => _)
    cases hb : c.β k with
    | none => rw [hb] at a3; rw [hE.1, hE.2.1]; exact a3
    | some ad =>
      rw [hb] at a3
      obtain ⟨b1, b2, b3, b4⟩ := a3
      rw [hE.1, hE.2.1, hE.2.2]
      refine ⟨b1, b2, RepRows.mono _ _ rfl _ _ (Mono.refl _ _) (sel_le e0.bx frz_le) b3, ?_⟩
      rcases hc with ⟨hm, rfl⟩ | ⟨hm, rfl⟩
      · exact ⟨fun _ => rfl, fun _ => .inr ⟨k, hm, e0, h0, ad, hb, rfl⟩⟩
      · rw [← b4]
        refine ⟨fun hx => ?_, .inl⟩
        rcases hx with hx | ⟨k', m', e', h', ad', hb', hbl⟩
        · exact hx
        · exact absurd hbl (hg.apart k' k e' e ad' ad h' h0 hb' hb (fun hh => hm (hh ▸ m')))
  · obtain ⟨e0, h0, _⟩ := look k e he
    exact hg.fresh k e0 ad h0 had
  · obtain ⟨e0, h0, _⟩ := look k e he
    obtain ⟨e1, h1, _⟩ := look k' e' he'
    exact hg.apart k k' e0 e1 ad ad' h0 h1 had had' hne
  · rcases hb with hb | ⟨k, _, e, he, ad, had, rfl⟩
    · exact hg.fz b hb
    · exact ⟨(hg.fresh k e ad he had).2, .inr (hg.fresh k e ad he had).1⟩

/-- An owned slice as a list. -/
theorem own_rep (hg : HGood E h c w) {c1 : Ctx} (hsub : ∀ b, c.Fz b → c1.Fz b) {g : Key} {esz off len : Nat} {full : Bool} {v : Value} {e : HE} (he : hk g h = some e) (hr : RepV w c (.own g esz off len full) v)
    (hb : e.bx = false) (hlen : off + len ≤ e.xs.length) (hF : ∀ b, blocksOf h c [g] b → c1.Fz b) : RepV w c1 (.vec esz false ((e.xs.drop off).take len)) v := by
  obtain ⟨g1, g2, g3, a, cap, q1, q2, q3, q4, q5, q6⟩ := hr
  have hl : ((e.xs.drop off).take len).length = len := by simp; omega
  have hh := hg.heap g e he
  refine ⟨a, cap, by rw [hl]; exact q1, by rw [hl]; exact q2, q3, by rw [hl]; exact q4, by simp, ?_⟩
  by_cases h0 : len = 0
  · left; subst h0; simp
  · right
    obtain ⟨ad, b1, b2, b3, b4, b5⟩ := hh.block (by omega)
    rw [b1] at q6
    rcases q6 with q6 | ⟨q6, _⟩
    · omega
    · rw [hb] at b4
      have ee : esz = e.esz := by rw [g2, hh.2.1]
      refine ⟨_, q6, rfl, hF _ ⟨g, by simp, e, he, ad, b1, rfl⟩, ?_⟩
      rw [ee]
      exact RepRows.take _ (RepRows.drop _ (RepRows.mono _ _ rfl _ _ (c := c.d) (c' := c1.d) (Mono.refl _ _) (Ctx.Le.d hsub) (by simpa using b4)))

theorem blocks_mono {ks js : List Key} (hs : ∀ k ∈ ks, k ∈ js) {b : Nat} (hb : blocksOf h c ks b) : blocksOf h c js b := by
  obtain ⟨k, m, r⟩ := hb
  exact ⟨k, hs k m, r⟩
mutual
theorem reify0_rep (hg : HGood E h c w) {c1 : Ctx} (hsub : ∀ b, c.Fz b → c1.Fz b) : ∀ (x : PV) (v : Value), RepV w c x v → ok0 (fun k => hk k h) x → (∀ b, blocksOf h c (keys0 x) b → c1.Fz b) → RepV w c1.d (reify0 (fun k => hk k h) x) v
  | .undef, _, _, _, _ => trivial
  | .bool _, _, hr, _, _ => hr
  | .int _ _, _, hr, _, _ => hr
  | .str _, _, hr, _, _ => hr
  | .nilp, _, hr, _, _ => hr
  | .nilf, _, hr, _, _ => hr
  | .nili, _, hr, _, _ => hr
  | .raw _, _, hr, _, _ => hr
  | .opt _ _, _, _, _, _ => trivial
  | .ptr _ _ _ _, _, _, _, _ => trivial
  | .vec esz full xs, v, hr, _, _ => by
    obtain ⟨a, cap, q1, q2, q3, q4, q5, q6⟩ := hr
    refine ⟨a, cap, q1, q2, q3, q4, by simp, ?_⟩
    rcases q6 with q6 | ⟨ad, e1, e2, e3, e4⟩
    · exact .inl q6
    · exact .inr ⟨ad, e1, e2, hsub _ e3, RepRows.mono _ _ rfl _ _ (c := c.d) (c' := c1.d) (Mono.refl _ _) (Ctx.Le.d hsub) e4⟩
  | .ref cs, v, hr, _, _ => by
    obtain ⟨ad, e1, e2, e3, e4⟩ := hr
    exact ⟨ad, e1, e2, hsub _ e3, RepAt.mono _ rfl _ _ (c := c.d) (c' := c1.d) (Mono.refl _ _) (Ctx.Le.d hsub) e4⟩
  | .own g esz off len full, v, hr, ho, hF => by
    simp only [ok0] at ho
    simp only [reify0]
    cases he : hk g h with
    | none => rw [he] at ho; exact ho.elim
    | some e =>
      rw [he] at ho
      exact own_rep hg (c1 := c1.d) hsub he hr ho.1 ho.2 hF
  | .agg cs, v, hr, ho, hF => by
    obtain ⟨vs, e, r1, r2⟩ := hr
    exact ⟨vs, e, reify0L_rep hg hsub cs _ r1 ho hF, r2⟩
  | .tup cs, v, hr, ho, hF => by
    obtain ⟨vs, e, r1⟩ := hr
    exact ⟨vs, e, reify0L_rep hg hsub cs _ r1 ho hF⟩
  | .fn f a b, v, hr, ho, hF => by
    obtain ⟨x, y, e, r1, r2⟩ := hr
    exact ⟨x, y, e, reify0L_rep hg hsub a _ r1 ho.1 (fun b hb => hF b (blocks_mono (by simp [keys0]; intro k1 k2 hk; exact .inl hk) hb)), reify0L_rep hg hsub b _ r2 ho.2 (fun b hb => hF b (blocks_mono (by simp [keys0]; intro k1 k2 hk; exact .inr hk) hb))⟩
  | .iface t x, v, hr, ho, hF => by
    obtain ⟨u, e, r1⟩ := hr
    exact ⟨u, e, reify0_rep hg hsub x u r1 ho hF⟩
theorem reify0L_rep (hg : HGood E h c w) {c1 : Ctx} (hsub : ∀ b, c.Fz b → c1.Fz b) : ∀ (xs : List PV) (vs : List Value), RepL w c xs vs → ok0L (fun k => hk k h) xs → (∀ b, blocksOf h c (keys0L xs) b → c1.Fz b) → RepL w c1.d (reify0L (fun k => hk k h) xs) vs
  | [], _, hr, _, _ => hr
  | x :: xs, _, hr, ho, hF => by
    obtain ⟨u, us, e, r1, r2⟩ := hr
    exact ⟨u, us, e, reify0_rep hg hsub x u r1 ho.1 (fun b hb => hF b (blocks_mono (by simp [keys0L]; intro k1 k2 hk; exact .inl hk) hb)), reify0L_rep hg hsub xs us r2 ho.2 (fun b hb => hF b (blocks_mono (by simp [keys0L]; intro k1 k2 hk; exact .inr hk) hb))⟩
end
theorem reify0At_rep (hg : HGood E h c w) {c1 : Ctx} (hsub : ∀ b, c.Fz b → c1.Fz b) (b : Nat) : ∀ (o : Nat) (xs : List PV), RepAt w c b o xs → ok0L (fun k => hk k h) xs → (∀ b, blocksOf h c (keys0L xs) b → c1.Fz b) → RepAt w c1.d b o (reify0L (fun k => hk k h) xs)
  | _, [], _, _, _ => trivial
  | o, x :: xs, hr, ho, hF => by
    obtain ⟨⟨v, e, e1, r1⟩, r2⟩ := hr
    exact ⟨⟨v, e, e1, reify0_rep hg hsub x v r1 ho.1 (fun b hb => hF b (blocks_mono (by simp [keys0L]; intro k1 k2 hk; exact .inl hk) hb))⟩, reify0At_rep hg hsub b (o + 1) xs r2 ho.2 (fun b hb => hF b (blocks_mono (by simp [keys0L]; intro k1 k2 hk; exact .inr hk) hb))⟩
mutual
/-- A value handed on stands for what its contents were; the blocks that it names are written no more. -/
theorem reify_rep (hg : HGood E h c w) {c1 : Ctx} (hsub : ∀ b, c.Fz b → c1.Fz b) : ∀ (x : PV) (v : Value), RepV w c x v → okV (fun k => hk k h) x → (∀ b, blocksOf h c (keysOf (fun k => hk k h) x) b → c1.Fz b) → RepV w c1.d (reify (fun k => hk k h) x) v
  | .undef, _, _, _, _ => trivial
  | .bool _, _, hr, _, _ => hr
  | .int _ _, _, hr, _, _ => hr
  | .str _, _, hr, _, _ => hr
  | .nilp, _, hr, _, _ => hr
  | .nilf, _, hr, _, _ => hr
  | .nili, _, hr, _, _ => hr
  | .raw _, _, hr, _, _ => hr
  | .opt _ _, _, _, _, _ => trivial
  | .ptr g esz i off, v, hr, ho, hF => by
    simp only [okV] at ho
    simp only [reify]
    simp only [keysOf] at hF
    cases he : hk g h with
    | none => rw [he] at ho; exact ho.elim
    | some e =>
      rw [he] at ho hF
      obtain ⟨o1, o2⟩ := ho
      obtain ⟨g1, g2, ad, g3, g4⟩ := hr
      have hh := hg.heap g e he
      obtain ⟨ad', b1, b2, b3, b4, b5⟩ := hh.block (by omega)
      rw [g3] at b1
      obtain rfl := Option.some.inj b1
      have ee : esz = e.esz := by rw [g2, hh.2.1]
      obtain ⟨_, r2⟩ := RepRows.get i (e.xs.getD i []) b4.und' (by simp [List.getD, List.getElem?_eq_getElem o1])
      have r3 := RepAt.drop off r2
      refine ⟨_, g4, rfl, hF _ ⟨g, by simp, e, he, ad, g3, rfl⟩, ?_⟩
      rw [ee]
      exact reify0At_rep hg (c1 := c1) hsub _ _ _ r3 o2 (fun b hb => hF b (blocks_mono (fun k hk => List.mem_cons_of_mem _ hk) hb))
  | .vec esz full xs, v, hr, _, _ => by
    obtain ⟨a, cap, q1, q2, q3, q4, q5, q6⟩ := hr
    refine ⟨a, cap, q1, q2, q3, q4, by simp, ?_⟩
    rcases q6 with q6 | ⟨ad, e1, e2, e3, e4⟩
    · exact .inl q6
    · exact .inr ⟨ad, e1, e2, hsub _ e3, RepRows.mono _ _ rfl _ _ (c := c.d) (c' := c1.d) (Mono.refl _ _) (Ctx.Le.d hsub) e4⟩
  | .ref cs, v, hr, _, _ => by
    obtain ⟨ad, e1, e2, e3, e4⟩ := hr
    exact ⟨ad, e1, e2, hsub _ e3, RepAt.mono _ rfl _ _ (c := c.d) (c' := c1.d) (Mono.refl _ _) (Ctx.Le.d hsub) e4⟩
  | .own g esz off len full, v, hr, ho, hF => by
    simp only [okV] at ho
    simp only [reify]
    cases he : hk g h with
    | none => rw [he] at ho; exact ho.elim
    | some e =>
      rw [he] at ho
      exact own_rep hg (c1 := c1.d) hsub he hr ho.1 ho.2 hF
  | .agg cs, v, hr, ho, hF => by
    obtain ⟨vs, e, r1, r2⟩ := hr
    exact ⟨vs, e, reifyL_rep hg hsub cs _ r1 ho hF, r2⟩
  | .tup cs, v, hr, ho, hF => by
    obtain ⟨vs, e, r1⟩ := hr
    exact ⟨vs, e, reifyL_rep hg hsub cs _ r1 ho hF⟩
  | .fn f a b, v, hr, ho, hF => by
    obtain ⟨x, y, e, r1, r2⟩ := hr
    exact ⟨x, y, e, reifyL_rep hg hsub a _ r1 ho.1 (fun b hb => hF b (blocks_mono (by simp [keysOf]; intro k1 k2 hk; exact .inl hk) hb)), reifyL_rep hg hsub b _ r2 ho.2 (fun b hb => hF b (blocks_mono (by simp [keysOf]; intro k1 k2 hk; exact .inr hk) hb))⟩
  | .iface t x, v, hr, ho, hF => by
    obtain ⟨u, e, r1⟩ := hr
    exact ⟨u, e, reify_rep hg hsub x u r1 ho hF⟩
theorem reifyL_rep (hg : HGood E h c w) {c1 : Ctx} (hsub : ∀ b, c.Fz b → c1.Fz b) : ∀ (xs : List PV) (vs : List Value), RepL w c xs vs → okL (fun k => hk k h) xs → (∀ b, blocksOf h c (keysL (fun k => hk k h) xs) b → c1.Fz b) → RepL w c1.d (reifyL (fun k => hk k h) xs) vs
  | [], _, hr, _, _ => hr
  | x :: xs, _, hr, ho, hF => by
    obtain ⟨u, us, e, r1, r2⟩ := hr
    exact ⟨u, us, e, reify_rep hg hsub x u r1 ho.1 (fun b hb => hF b (blocks_mono (by simp [keysL]; intro k1 k2 hk; exact .inl hk) hb)), reifyL_rep hg hsub xs us r2 ho.2 (fun b hb => hF b (blocks_mono (by simp [keysL]; intro k1 k2 hk; exact .inr hk) hb))⟩
end
end
end Go.Proofs.YtjeegophpmpibaaGreatDoor.Pv

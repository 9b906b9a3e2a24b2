/- Structs and lists as they are written out; stores. No condition. -/
import Derived.Test.YtjeegophpmpibaaGreatDoorPv9
set_option linter.unusedSimpArgs false
set_option linter.unusedVariables false
namespace Go.Proofs.YtjeegophpmpibaaGreatDoor.Pv
open Go Go.RowKit

theorem foldSet (us : List Value) : ∀ (cells : Array Value) (off k : Nat), off + k + us.length ≤ cells.size →
    ((us.zipIdx k).foldl (fun cs p => cs.setIfInBounds (off + p.2) p.1) cells).toList = cells.toList.take (off + k) ++ us ++ cells.toList.drop (off + k + us.length) := by
  induction us with
  | nil => intro cells off k _; simp
  | cons v us ih =>
    intro cells off k hk
    simp only [List.zipIdx_cons, List.foldl_cons]
    simp only [List.length_cons] at hk
    rw [show off + k = off + k from rfl, ih (cells.setIfInBounds (off + k) v) off (k + 1) (by simp; omega)]
    simp only [Array.toList_setIfInBounds, List.length_cons]
    have hl : off + k < cells.toList.length := by simp; omega
    have e1 : (cells.toList.set (off + k) v).take (off + (k + 1)) = cells.toList.take (off + k) ++ [v] := by
      rw [show off + (k + 1) = (off + k) + 1 by omega, List.take_add_one]
      rw [List.take_set_of_le (Nat.le_refl _)]
      rw [List.getElem?_set_self hl]; rfl
    have e2 : (cells.toList.set (off + k) v).drop (off + (k + 1) + us.length) = cells.toList.drop (off + k + (us.length + 1)) := by
      rw [List.drop_set_of_lt (by omega)]
      congr 1
      omega
    rw [e1, e2]
    simp
theorem foldSetA (v : Value) (cells : Array Value) (off : Nat) (h : off + v.cells.size ≤ cells.size) :
    (v.cells.zipIdx.foldl (fun cs (x : Value × Nat) => cs.setIfInBounds (off + x.2) x.1) cells).toList = cells.toList.take off ++ v.cells.toList ++ cells.toList.drop (off + v.cells.size) := by
  rw [← Array.foldl_toList]
  have := foldSet v.cells.toList cells off 0 (by simpa using h)
  simpa using this

/-- Two lists, one by one. -/
inductive All2 {α β : Type} (R : α → β → Prop) : List α → List β → Prop
  | nil : All2 R [] []
  | cons {a : α} {b : β} {as : List α} {bs : List β} : R a b → All2 R as bs → All2 R (a :: as) (b :: bs)

/-- The places that a list of parts fills. -/
theorem fill_ok {w : World} {c : Ctx} {ev : Operand → Value} {get : MO → PV} (place : Nat → Option (Nat × Nat)) :
    ∀ (ps : List (Nat × Operand)) (qs : List (Nat × Nat × MO)) (z : List PV) (cells0 : Array Value),
      All2 (fun p q => place p.1 = some (q.1, q.2.1) ∧ RepV w c (get q.2.2) (ev p.2)) ps qs → RepL w c z cells0.toList → (∀ u ∈ cells0.toList, u.oneCell' = true) →
      fillOk z.length (qs.map fun p => (p.1, p.2.1, get p.2.2)) →
      ∃ cells', Instr.fill place cells0 (ps.map fun p => (p.1, ev p.2)) = some cells' ∧ RepL w c (fillP z (qs.map fun p => (p.1, p.2.1, get p.2.2))) cells'.toList ∧ ∀ u ∈ cells'.toList, u.oneCell' = true
  | [], _, z, cells0, hf, hz, h1, _ => by
    cases hf
    exact ⟨cells0, rfl, hz, h1⟩
  | (i, x) :: ps, _, z, cells0, hf, hz, h1, hok => by
    cases hf
    rename_i q qs hq hqs
    obtain ⟨⟨a1, a2, a3⟩, hok'⟩ := hok
    obtain ⟨r1, r2⟩ := cells_rep hq.2 a3
    have hlen : (ev x).cells.size = (cells (get q.2.2)).length := by simpa using RepL.length r1
    have hcl : cells0.size = z.length := by simpa using RepL.length hz
    have hfold := foldSetA (ev x) cells0 q.1 (by rw [hlen, a1, hcl]; exact a2)
    have hrep : RepL w c (splice z q.1 (cells (get q.2.2))) ((ev x).cells.zipIdx.foldl (fun cs (x : Value × Nat) => cs.setIfInBounds (q.1 + x.2) x.1) cells0).toList := by
      rw [hfold, hlen]
      exact RepL.append (RepL.append (RepL.take _ hz) r1) (RepL.drop _ hz)
    have hone : ∀ u ∈ ((ev x).cells.zipIdx.foldl (fun cs (x : Value × Nat) => cs.setIfInBounds (q.1 + x.2) x.1) cells0).toList, u.oneCell' = true := by
      intro u hu
      rw [hfold] at hu
      rcases List.mem_append.1 hu with hu | hu
      · rcases List.mem_append.1 hu with hu | hu
        · exact h1 u (List.mem_of_mem_take hu)
        · exact r2 u hu
      · exact h1 u (List.mem_of_mem_drop hu)
    have hsl : (splice z q.1 (cells (get q.2.2))).length = z.length := by
      simp [splice]; omega
    obtain ⟨cells', k1, k2, k3⟩ := fill_ok place ps qs _ _ hqs hrep hone (by rw [hsl]; exact hok')
    refine ⟨cells', ?_, k2, k3⟩
    simp only [List.map_cons, Instr.fill, hq.1]
    rw [if_neg (by rw [hlen, a1]; simp; omega)]
    exact k1

theorem mapM_ok {P : Program} {α β : Type} {w : World} (f : α → Sem β) (g : α → β) : ∀ (l : List α), (∀ x ∈ l, (f x).run P w = .ok (g x) w) → (l.mapM f).run P w = .ok (l.map g) w
  | [], _ => rfl
  | x :: l, h => by
    rw [List.mapM_cons]
    simp only [Sem.run_bind, h x (by simp), Result.andThen_ok, mapM_ok f g l (fun y hy => h y (by simp [hy])), Sem.run_pure, List.map_cons]
theorem mapMA_ok {P : Program} {α β : Type} {w : World} (f : α → Sem β) (g : α → β) (l : Array α) (h : ∀ x ∈ l.toList, (f x).run P w = .ok (g x) w) : (l.mapM f).run P w = .ok (l.map g) w := by
  rw [Array.mapM_eq_mapM_toList]
  simp only [Sem.run_map, mapM_ok f g l.toList h, Result.andThen_ok]
  congr 1
  apply Array.ext'
  simp

section
variable {E : Env} {h : List (Key × Option HE)} {c : Ctx} {w : World} {ev : Operand → Value} {get : MO → PV} {o : Oper} {i : MI} {key : Key} {out : Out}

theorem parts_ok {fs : Array Field} : ∀ (ps : List (Nat × Operand)) (qs : List (Nat × Nat × MO)), toParts E.P E.nt fs ps = some qs → (∀ t x m, toO E.P E.nt t x = some m → m ∈ qs.map (fun q => q.2.2) → RepV w c (get m) (ev x)) →
    All2 (fun p q => (fs.map fun f => (f.offset, szOf E.P f.type))[p.1]? = some (q.1, q.2.1) ∧ RepV w c (get q.2.2) (ev p.2)) ps qs
  | [], qs, hq, _ => by simp [toParts] at hq; subst hq; exact .nil
  | (i, x) :: ps, qs, hq, hop => by
    simp only [toParts] at hq
    split at hq
    · rename_i f qs' h1 h2
      obtain ⟨y, hy, rfl⟩ := Option.map_eq_some_iff.1 hq
      exact .cons ⟨by simp [h1], hop _ x y hy (by simp)⟩ (parts_ok ps qs' h2 (fun t x m a b => hop t x m a (by simp at b ⊢; exact .inr b)))
    · cases hq
theorem partsA_ok {e : TypeId} : ∀ (ps : List (Nat × Operand)) (qs : List (Nat × Nat × MO)), toPartsA E.P E.nt e ps = some qs → (∀ t x m, toO E.P E.nt t x = some m → m ∈ qs.map (fun q => q.2.2) → RepV w c (get m) (ev x)) →
    All2 (fun p q => some (p.1 * szOf E.P e, szOf E.P e) = some (q.1, q.2.1) ∧ RepV w c (get q.2.2) (ev p.2)) ps qs
  | [], qs, hq, _ => by simp [toPartsA] at hq; subst hq; exact .nil
  | (i, x) :: ps, qs, hq, hop => by
    simp only [toPartsA] at hq
    split at hq
    · rename_i qs' h2
      obtain ⟨y, hy, rfl⟩ := Option.map_eq_some_iff.1 hq
      exact .cons ⟨rfl, hop _ x y hy (by simp)⟩ (partsA_ok ps qs' h2 (fun t x m a b => hop t x m a (by simp at b ⊢; exact .inr b)))
    · cases hq

theorem does_build (t : TypeId) (ps : Array (Nat × Operand)) (ho : o.op = .build t ps) (hi : toI E.P E.nt o = some i) (hg : HGood E h c w) (hop : Opnd E c w ev get i)
    (hs : opSem key get (fun k => hk k h) i = some out) (hp : out.pre) : Does E h c w ev o key out := by
  simp only [toI, ho] at hi
  split at hi
  · rename_i z fs hz hu
    split at hi
    · rename_i hall
      obtain ⟨qs, hq, rfl⟩ := Option.map_eq_some_iff.1 hi
      obtain ⟨inf, zv, i1, i2, i3, i4, i5⟩ := zeroPV_ok hz
      obtain ⟨r1, r2⟩ := fitsL_rep (w := w) (c := c) i3
      simp only [opSem, Option.some.injEq] at hs
      subst hs
      have hpl : (fs.mapM (fun f => do pure (f.offset, ← sizeOf f.type)) : Sem (Array (Nat × Nat))).run E.P w = .ok (fs.map fun f => (f.offset, szOf E.P f.type)) w := by
        refine mapMA_ok _ _ fs (fun f hf => ?_)
        have hok : okT E.P f.type = true := List.all_eq_true.1 hall f hf
        obtain ⟨inf', d', j1, j2, j3⟩ := info_okT (P := E.P) (t := f.type) (by rw [hok]; simp)
        simp [run_sizeOf j1, j3]
      obtain ⟨cells', k1, k2, k3⟩ := fill_ok (fun n => (fs.map fun f => (f.offset, szOf E.P f.type))[n]?) ps.toList qs z zv.cells (parts_ok _ _ hq (fun t x m a b => hop t x m a (by simpa [MI.ops] using b))) r1 r2 hp
      refine Does.same (v := .agg cells') ?_ rfl hg ⟨cells', rfl, k2, k3⟩
      have e1 : (ps.map fun p => (p.1, ev p.2)).toList = ps.toList.map fun p => (p.1, ev p.2) := by simp
      simp only [execOp, ho, Instr.build, Sem.run_bind, zeroValue, typeInfo, run_program, i1, i2, Result.andThen_ok, Sem.run_pure, run_underlying hu, hpl]
      rw [show (ps.map fun x => match x with | (i, x) => (i, ev x)).toList = ps.toList.map fun p => (p.1, ev p.2) from by simp]
      rw [k1]
      rfl
    · cases hi
  · rename_i z n e hz hu
    split at hi
    · rename_i hok
      obtain ⟨qs, hq, rfl⟩ := Option.map_eq_some_iff.1 hi
      obtain ⟨inf, zv, i1, i2, i3, i4, i5⟩ := zeroPV_ok hz
      obtain ⟨r1, r2⟩ := fitsL_rep (w := w) (c := c) i3
      simp only [opSem, Option.some.injEq] at hs
      subst hs
      obtain ⟨inf', d', j1, j2, j3⟩ := info_okT (P := E.P) (t := e) (by rw [hok]; simp)
      obtain ⟨cells', k1, k2, k3⟩ := fill_ok (fun n => some (n * szOf E.P e, szOf E.P e)) ps.toList qs z zv.cells (partsA_ok _ _ hq (fun t x m a b => hop t x m a (by simpa [MI.ops] using b))) r1 r2 hp
      refine Does.same (v := .agg cells') ?_ rfl hg ⟨cells', rfl, k2, k3⟩
      simp only [execOp, ho, Instr.build, Sem.run_bind, zeroValue, typeInfo, run_program, i1, i2, Result.andThen_ok, Sem.run_pure, run_underlying hu, run_sizeOf j1]
      rw [show (ps.map fun x => match x with | (i, x) => (i, ev x)).toList = ps.toList.map fun p => (p.1, ev p.2) from by simp]
      rw [← j3, k1]
      rfl
    · cases hi
  · cases hi

/-! Rows as one list -/
theorem flatten_len {α : Type} {n : Nat} : ∀ (xs : List (List α)), (∀ r ∈ xs, r.length = n) → xs.flatten.length = xs.length * n
  | [], _ => by simp
  | r :: rs, h => by
    simp only [List.flatten_cons, List.length_append, h r (by simp), flatten_len rs (fun x hx => h x (by simp [hx])), List.length_cons, Nat.add_mul]
    omega
theorem flatten_set {α : Type} {n : Nat} : ∀ (xs : List (List α)) (i : Nat) (r : List α), (∀ r ∈ xs, r.length = n) → i < xs.length → r.length = n →
    (xs.set i r).flatten = xs.flatten.take (i * n) ++ r ++ xs.flatten.drop (i * n + n)
  | [], i, r, _, hi, _ => by simp at hi
  | x :: xs, 0, r, h, _, hr => by
    have hx := h x (by simp)
    simp [List.drop_append, hx]
  | x :: xs, i + 1, r, h, hi, hr => by
    have hx := h x (by simp)
    have ih := flatten_set xs i r (fun y hy => h y (by simp [hy])) (by simpa using hi) hr
    simp only [List.set_cons_succ, List.flatten_cons, ih, Nat.add_mul, Nat.one_mul]
    rw [List.take_append, List.drop_append, List.take_of_length_le (by omega : x.length ≤ i * n + n), List.drop_of_length_le (by omega : x.length ≤ i * n + n + n)]
    simp [hx, show i * n + n - n = i * n by omega, show i * n + n + n - n = i * n + n by omega]
theorem splice_len {row cs : List PV} {off : Nat} (h : off + cs.length ≤ row.length) : (splice row off cs).length = row.length := by
  simp [splice]; omega
theorem flatten_split {α : Type} {n : Nat} : ∀ (xs : List (List α)) (i : Nat), (∀ r ∈ xs, r.length = n) → i < xs.length → (xs.flatten.drop (i * n)).take n = xs.getD i []
  | [], i, _, hi => by simp at hi
  | x :: xs, 0, h, _ => by
    have hx := h x (by simp)
    simp [List.take_append, ← hx]
  | x :: xs, i + 1, h, hi => by
    have hx := h x (by simp)
    have ih := flatten_split xs i (fun y hy => h y (by simp [hy])) (by simpa using hi)
    simp only [List.flatten_cons, Nat.add_mul, Nat.one_mul]
    rw [List.drop_append, List.drop_of_length_le (by omega : x.length ≤ i * n + n)]
    simpa [hx, show i * n + n - n = i * n by omega] using ih
theorem flatten_splice {n : Nat} (xs : List (List PV)) (i off : Nat) (cs : List PV) (h : ∀ r ∈ xs, r.length = n) (hi : i < xs.length) (hc : off + cs.length ≤ n) :
    (xs.set i (splice (xs.getD i []) off cs)).flatten = xs.flatten.take (i * n + off) ++ cs ++ xs.flatten.drop (i * n + off + cs.length) := by
  have hrow : (xs.getD i []).length = n := by
    have : xs.getD i [] = xs[i] := by simp [List.getD, hi]
    rw [this]; exact h _ (List.getElem_mem hi)
  rw [flatten_set xs i _ h hi (by rw [splice_len (by rw [hrow]; exact hc), hrow]), ← flatten_split xs i h hi]
  have hle : (i + 1) * n ≤ xs.length * n := Nat.mul_le_mul_right _ hi
  have hfl := flatten_len xs h
  rw [Nat.add_mul, Nat.one_mul] at hle
  simp only [splice]
  have e1 : xs.flatten.take (i * n + off) = xs.flatten.take (i * n) ++ ((xs.flatten.drop (i * n)).take n).take off := by
    rw [List.take_take, Nat.min_eq_left (by omega), List.take_add]
  have e2 : xs.flatten.drop (i * n + off + cs.length) = ((xs.flatten.drop (i * n)).take n).drop (off + cs.length) ++ xs.flatten.drop (i * n + n) := by
    rw [List.drop_take, List.drop_drop]
    have : xs.flatten.drop (i * n + n) = (xs.flatten.drop (i * n + (off + cs.length))).drop (n - (off + cs.length)) := by
      rw [List.drop_drop]; congr 1; omega
    rw [this, List.take_append_drop]
    congr 1; omega
  rw [e1, e2]
  simp

/-- A stretch of a live row is written. -/
theorem HGood.store (hg : HGood E h c w) {g : Key} {e : HE} {ad : Addr} (he : hk g h = some e) (had : c.β g = some ad) (hfz : e.fz = false) {k off : Nat} {cs : List PV} {us : List Value}
    (hk1 : k < e.xs.length) (hoff : off + cs.length ≤ (e.xs.getD k []).length) (hr : RepL w (if e.bx then c else c.d) cs us) (h1 : ∀ u ∈ us, u.oneCell' = true) :
    HGood E ((g, some { e with xs := e.xs.set k (splice (e.xs.getD k []) off cs) }) :: h) c (w.setCells ad.block (ad.off + k * e.esz + off) us) ∧ Mono c.Fz w (w.setCells ad.block (ad.off + k * e.esz + off) us) ∧
      (∀ j, j < us.length → (w.cell? ⟨ad.block, ad.off + k * e.esz + off + j, none⟩).isSome = true) ∧ (∀ j, j < us.length → w.frozen? ⟨ad.block, ad.off + k * e.esz + off + j, none⟩ = false) := by
  have hh := hg.heap g e he
  obtain ⟨ad', q1, q2, ⟨ca, el, fr, q3, q4, q5⟩, q6, q7⟩ := hh.block (by omega)
  rw [had] at q1
  obtain rfl := Option.some.inj q1
  have hlens := q6.lens
  have hrow : (e.xs.getD k []).length = e.esz := by
    have : e.xs.getD k [] = e.xs[k] := by simp [List.getD, hk1]
    rw [this]; exact hlens _ (List.getElem_mem hk1)
  rw [hrow] at hoff
  have hul : us.length = cs.length := hr.length
  have hnF : ¬ c.Fz ad.block := fun hf => by rw [q7.1 hf] at hfz; cases hfz
  have hm : Mono c.Fz w (w.setCells ad.block (ad.off + k * e.esz + off) us) := mono_setCells hnF _ _
  obtain ⟨vs, v1, v2, v3, v4⟩ := q6.vals
  have hle : (k + 1) * e.esz ≤ e.xs.length * e.esz := Nat.mul_le_mul_right _ hk1
  rw [Nat.add_mul, Nat.one_mul] at hle
  have hcell : ∀ j, j < vs.length → ∃ v, w.cell? ⟨ad.block, ad.off + j, none⟩ = some v := fun j hj => ⟨vs[j], v4 j _ (List.getElem?_eq_getElem hj)⟩
  have hsome : ∀ j, j < us.length → (w.cell? ⟨ad.block, ad.off + k * e.esz + off + j, none⟩).isSome = true := fun j hj => by
    obtain ⟨v, hv⟩ := hcell (k * e.esz + off + j) (by omega)
    rw [show ad.off + k * e.esz + off + j = ad.off + (k * e.esz + off + j) by omega, hv]; rfl
  have hfroz : ∀ j, j < us.length → w.frozen? ⟨ad.block, ad.off + k * e.esz + off + j, none⟩ = false := fun j hj => by
    have := q5 (ad.off + k * e.esz + off + j) (by omega)
    simp only [World.frozen?, q3]
    simpa using this
  refine ⟨⟨?_, ?_, ?_, ?_, hg.le, hg.bnd, below_setCells' (hg.fresh g e ad he had).1 _ _ hg.below⟩, hm, hsome, hfroz⟩
  · intro k' e' he'
    rw [hk_cons] at he'
    split at he'
    · rename_i e1
      subst e1
      simp only [Option.some.injEq] at he'
      subst he'
      refine ⟨hh.1, hh.2.1, ?_⟩
      rw [had]
      obtain ⟨ca', c1, c2⟩ := heap_setCells_same ad.block us (ad.off + k * e.esz + off) w ca el fr q3
      refine ⟨q2, ⟨ca', el, fr, c1, by simpa [c2] using q4, fun o ho => q5 o (by omega)⟩, ?_, q7⟩
      refine RepRows.of_list (vs := vs.take (k * e.esz + off) ++ us ++ vs.drop (k * e.esz + off + us.length)) ?_ ?_ ?_ ?_
      · rw [flatten_splice e.xs k off cs hlens hk1 hoff]
        refine RepL.mono _ _ (by rw [sel_fz]; exact hm) (Ctx.Le.refl _) ?_
        rw [hul]
        exact RepL.append (RepL.append (RepL.take _ v1) hr) (RepL.drop _ v1)
      · intro u hu
        rcases List.mem_append.1 hu with hu | hu
        · rcases List.mem_append.1 hu with hu | hu
          · exact v2 u (List.mem_of_mem_take hu)
          · exact h1 u hu
        · exact v2 u (List.mem_of_mem_drop hu)
      · intro r hr'
        rcases List.mem_or_eq_of_mem_set hr' with hr' | rfl
        · exact hlens r hr'
        · rw [splice_len (by rw [hrow]; exact hoff), hrow]
      · intro j v hj
        by_cases hlo : j < k * e.esz + off
        · rw [World.cell?_setCells_out _ _ _ _ _ (fun _ _ => .inl (by simp; omega))]
          rw [List.append_assoc, List.getElem?_append_left (by simp; omega), List.getElem?_take_of_lt hlo] at hj
          exact v4 j v hj
        · by_cases hmid : j < k * e.esz + off + us.length
          · have := World.cell?_setCells_in ad.block us (ad.off + k * e.esz + off) w hsome (j - (k * e.esz + off)) (by omega)
            rw [show ad.off + k * e.esz + off + (j - (k * e.esz + off)) = ad.off + j by omega] at this
            rw [this]
            rw [List.append_assoc, List.getElem?_append_right (by simp; omega), List.getElem?_append_left (by simp; omega)] at hj
            rw [← hj]
            have hlt : (k * e.esz + off) ≤ vs.length := by omega
            rw [List.length_take, Nat.min_eq_left hlt, List.getElem?_eq_getElem]
          · rw [World.cell?_setCells_out _ _ _ _ _ (fun _ _ => .inr (by simp; omega))]
            have hlt : (k * e.esz + off) ≤ vs.length := by omega
            rw [List.getElem?_append_right (by simp; omega), List.getElem?_drop] at hj
            have := v4 _ v hj
            simp only [List.length_append, List.length_take, Nat.min_eq_left hlt] at this
            rwa [show k * e.esz + off + us.length + (j - (k * e.esz + off + us.length)) = j by omega] at this
    · rename_i hne
      have hh' := hg.heap k' e' he'
      exact hh'.mono hm (Ctx.Le.refl c) (fun _ _ => Iff.rfl) (fun ad' had' => heap_setCells_ne w _ _ _ (hg.apart k' g e' e ad' ad he' he had' had hne))
  · intro k' e' ad' he' had'
    rw [hk_cons] at he'
    rw [size_setCells']
    split at he'
    · rename_i e1
      subst e1
      exact hg.fresh _ e ad' he had'
    · exact hg.fresh k' e' ad' he' had'
  · intro k1 k2 e1 e2 a1 a2 he1 he2 ha1 ha2 hne
    rw [hk_cons] at he1 he2
    split at he1
    · rename_i x1
      subst x1
      rw [if_neg (fun x => hne x.symm)] at he2
      exact hg.apart _ _ e e2 a1 a2 he he2 ha1 ha2 hne
    · split at he2
      · rename_i x2
        subst x2
        exact hg.apart _ _ e1 e a1 a2 he1 he ha1 ha2 hne
      · exact hg.apart _ _ e1 e2 a1 a2 he1 he2 ha1 ha2 hne
  · intro b hb
    rw [size_setCells']
    exact hg.fz b hb

theorem does_store (t : TypeId) (x y : Operand) (ho : o.op = .store t x y) (hi : toI E.P E.nt o = some i) (hg : HGood E h c w) (hop : Opnd E c w ev get i)
    (hs : opSem key get (fun k => hk k h) i = some out) (hp : out.pre) : Does E h c w ev o key out := by
  simp only [toI, ho] at hi
  split at hi
  · cases hi
  · rename_i hz
    obtain ⟨inf, d, i1, i2, i3⟩ := info_okT hz
    split at hi
    · rename_i ma mx hma hmx
      simp only [Option.some.injEq] at hi
      subst hi
      have ha := hop _ x ma hma (by simp [MI.ops])
      have hx := hop _ y mx hmx (by simp [MI.ops])
      simp only [opSem] at hs
      split at hs
      · rename_i g esz k off hga
        rw [hga] at ha
        split at hs
        · rename_i e he
          split at hs
          · cases hs
          · rename_i hfz
            obtain ⟨a1, a2, ad, a3, a4⟩ := ha
            have hh := hg.heap g e he
            have e1 : esz = e.esz := by rw [a2, hh.2.1]
            -- what the store comes to, once the value's cells are told
            have fin : ∀ (us : List Value), (ev y).cells.toList = us → us.length = szOf E.P t → (∀ u ∈ us, u.oneCell' = true) →
                (∀ j, j < us.length → (w.cell? ⟨ad.block, ad.off + k * e.esz + off + j, none⟩).isSome = true) → (∀ j, j < us.length → w.frozen? ⟨ad.block, ad.off + k * e.esz + off + j, none⟩ = false) →
                (execOp ev o).run E.P w = .ok .skip (w.setCells ad.block (ad.off + k * e.esz + off) us) := by
              intro us hus hl r2 g3 g4
              subst hus
              have hsz : (ev y).cells.size = inf.size := by
                rw [← i3, ← hl]; simp
              have hst := run_storeCells_cells (P := E.P) ad.block (ad.off + k * e.esz + off) (ev y).cells.toList 0 w (by simpa using g3) (by simpa using g4) r2
              simp only [execOp, ho, a4, Instr.storeAt, Instr.sureAddr, storeVar, e1, Sem.run_bind, Sem.run_pure, Result.andThen_ok, run_sizeOf i1, hsz, ne_eq, not_true_eq_false, if_false]
              simp only [Nat.add_zero] at hst
              simp [hst]
            split at hs
            · rename_i hbx
              simp only [Option.some.injEq] at hs
              subst hs
              obtain ⟨p1, p2, p3, p4⟩ := hp
              obtain ⟨r1, r2⟩ := cells_rep hx p4
              obtain ⟨g1, g2, g3, g4⟩ := hg.store he a3 (by simpa using hfz) p1 (by rw [p3]; exact p2) (by rw [if_pos hbx]; exact r1) r2
              exact ⟨.skip, undef, _, c, fin _ rfl (by rw [r1.length, p3]) r2 g3 g4, .inr ⟨rfl, rfl⟩, g1, trivial, Ctx.Le.refl c, g2, fun _ hk => .inl hk⟩
            · rename_i hbx
              simp only [Option.some.injEq] at hs
              subst hs
              obtain ⟨p1, p2, p3, p4, p5, p6⟩ := hp
              have hg' := hg.freeze (keysOf (fun k => hk k h) (get mx))
              have hx' := reify_rep hg (c1 := frzCtx h c (keysOf (fun k => hk k h) (get mx))) (fun _ hb => .inl hb) _ _ hx p5 (fun _ hb => .inr hb)
              obtain ⟨r1, r2⟩ := cells_rep hx' p4
              have hng : g ∉ keysOf (fun k => hk k h) (get mx) := by simpa using p6
              obtain ⟨g1, g2, g3, g4⟩ := hg'.store (g := g) (e := e) (by rw [hk_freeze, if_neg hng]; exact he) a3 (by simpa using hfz) p1 (by rw [p3]; exact p2) (by rw [if_neg hbx]; exact r1) r2
              exact ⟨.skip, undef, _, _, fin _ rfl (by rw [r1.length, p3]) r2 g3 g4, .inr ⟨rfl, rfl⟩, g1, trivial, frz_le, g2.weaken (fun _ hb => .inl hb), fun _ hk => .inl hk⟩
        · cases hs
      · cases hs
    · cases hi
end
end Go.Proofs.YtjeegophpmpibaaGreatDoor.Pv

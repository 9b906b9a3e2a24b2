/- Each instruction that leaves memory alone does what it says. No condition. -/
import Derived.Test.YtjeegophpmpibaaGreatDoorPv4
import Derived.WalkKit
import Derived.WalkLawsBesides
set_option linter.unusedSimpArgs false
set_option linter.unusedVariables false
namespace Go.Proofs.YtjeegophpmpibaaGreatDoor.Pv
open Go Go.RowKit

/-- The part of a good state that is not of slots. -/
structure HGood (E : Env) (h : List (Key × Option HE)) (c : Ctx) (w : World) : Prop where
  heap : ∀ k e, hk k h = some e → HRep w c k e
  fresh : ∀ k e ad, hk k h = some e → c.β k = some ad → E.w0.heap.size ≤ ad.block ∧ ad.block < w.heap.size
  apart : ∀ k k' e e' ad ad', hk k h = some e → hk k' h = some e' → c.β k = some ad → c.β k' = some ad' → k ≠ k' → ad.block ≠ ad'.block
  fz : ∀ b, c.Fz b → b < w.heap.size ∧ (E.F0 b ∨ E.w0.heap.size ≤ b)
  le : ∀ b, E.F0 b → c.Fz b
  bnd : ∃ N, ∀ k, c.U k → k.2 < N
  below : Bel E.w0.heap.size E.w0 w

/-- An operation runs, and what it leaves is as told. -/
def Does (E : Env) (h : List (Key × Option HE)) (c : Ctx) (w : World) (ev : Operand → Value) (o : Oper) (key : Key) (out : Out) : Prop :=
  ∃ n v w' c', (execOp ev o).run E.P w = .ok n w' ∧ (n = .value v ∨ (n = .skip ∧ v = undef)) ∧ HGood E (out.hu ++ h) c' w' ∧ RepV w' c' out.r v ∧ c.Le c' ∧ Mono c.Fz w w' ∧ ∀ k, c'.U k → c.U k ∨ k = key

theorem Does.same {E : Env} {h : List (Key × Option HE)} {c : Ctx} {w : World} {ev : Operand → Value} {o : Oper} {key : Key} {out : Out} {v : Value}
    (hr : (execOp ev o).run E.P w = .ok (.value v) w) (hu : out.hu = []) (hg : HGood E h c w) (hv : RepV w c out.r v) : Does E h c w ev o key out :=
  ⟨_, v, w, c, hr, .inl rfl, by rw [hu]; exact hg, hv, Ctx.Le.refl c, Mono.refl _ _, fun _ hk => .inl hk⟩

/-- What the operands stand for. -/
def Opnd (E : Env) (c : Ctx) (w : World) (ev : Operand → Value) (get : MO → PV) (i : MI) : Prop :=
  ∀ t x m, toO E.P E.nt t x = some m → m ∈ i.ops → RepV w c (get m) (ev x)

theorem wrap_ok (k : IntKind) (n : Int) : k.min ≤ k.wrap n ∧ k.wrap n ≤ k.max := wrap_within k n
theorem min_le_zero (k : IntKind) : k.min ≤ 0 := by cases k <;> decide
theorem zero_le_max (k : IntKind) : 0 ≤ k.max := by cases k <;> decide
theorem tmod_ok (k : IntKind) (a b : Int) (h : k.min ≤ a ∧ a ≤ k.max) : k.min ≤ a.tmod b ∧ a.tmod b ≤ k.max := by
  have h1 := min_le_zero k
  have h2 := zero_le_max k
  have h3 : (a.tmod b).natAbs ≤ a.natAbs := by rw [Int.natAbs_tmod]; exact Nat.mod_le _ _
  rcases Int.le_total 0 a with ha | ha
  · have := Int.tmod_nonneg b ha
    omega
  · have e : a.tmod b = -((-a).tmod b) := by simp [Int.neg_tmod]
    have := Int.tmod_nonneg b (a := -a) (by omega)
    omega
theorem fdiv_ok (k : IntKind) (a : Int) (n : Nat) (h : k.min ≤ a ∧ a ≤ k.max) : k.min ≤ a.fdiv (2 ^ n) ∧ a.fdiv (2 ^ n) ≤ k.max := by
  have h1 := min_le_zero k
  have h2 := zero_le_max k
  have hp : (0 : Int) < 2 ^ n := Int.pow_pos (by decide)
  rw [Int.fdiv_eq_ediv_of_nonneg _ (Int.le_of_lt hp)]
  rcases Int.le_total 0 a with ha | ha
  · have := Int.ediv_nonneg ha (Int.le_of_lt hp)
    have := Int.ediv_le_self (2 ^ n) ha
    omega
  · have h3 : a / 2 ^ n ≤ 0 := Int.ediv_nonpos_of_nonpos_of_neg ha hp
    have h4 : a ≤ a / 2 ^ n := by
      apply Int.le_ediv_of_mul_le hp
      have h5 : (1 : Int) ≤ 2 ^ n := hp
      have : a * 2 ^ n ≤ a * 1 := Int.mul_le_mul_of_nonpos_left ha h5
      omega
    omega
theorem info_okT {P : Program} {t : TypeId} (h : ¬ okT P t = false) : ∃ i d, P.info? t = some i ∧ P.underlying t = some d ∧ szOf P t = i.size := by
  simp only [okT, Bool.not_eq_false, Bool.and_eq_true, Option.isSome_iff_exists] at h
  obtain ⟨⟨i, hi⟩, ⟨d, hd⟩⟩ := h
  exact ⟨i, d, hi, hd, by simp [szOf, hi]⟩
theorem run_isAgg {P : Program} {t : TypeId} {d : TypeDesc} (hd : P.underlying t = some d) (w : World) : (isAgg t).run P w = .ok (aggOf P t) w := by
  unfold isAgg aggOf
  simp only [Sem.run_bind, run_underlying hd, Result.andThen_ok, hd]
  cases d <;> rfl
theorem run_sizeOf {P : Program} {t : TypeId} {i : TypeInfo} (hi : P.info? t = some i) (w : World) : (sizeOf t).run P w = .ok i.size w := by
  simp [sizeOf, typeInfo, hi]
/-- What is loaded from a stretch of cells. -/
theorem load_at {P : Program} {t : TypeId} {i : TypeInfo} {d : TypeDesc} (hi : P.info? t = some i) (hd : P.underlying t = some d) {w : World} {c : Ctx} {b o : Nat} {cs : List PV}
    (h : RepAt w c b o cs) (hn : i.size ≤ cs.length) (h1 : aggOf P t = false → i.size = 1) :
    ∃ v, (loadVar t ⟨b, o, none⟩).run P w = .ok v w ∧ RepV w c (mk (aggOf P t) i.size cs) v ∧ (aggOf P t = false → v.oneCell' = true) := by
  unfold loadVar
  simp only [Sem.run_bind, run_isAgg hd, Result.andThen_ok]
  cases ha : aggOf P t with
  | true =>
    obtain ⟨vs, k1, k2, k3⟩ := RepAt.vals (RepAt.take i.size h)
    have hl : vs.length = i.size := by rw [RepL.length k1]; simp; omega
    refine ⟨.agg vs.toArray, ?_, ?_, by simp⟩
    · have := run_loadCells_list (P := P) w ⟨b, o, none⟩ vs (fun j v hj => by rw [add_at]; exact k3 j v hj)
      simp [run_sizeOf hi, ← hl, this]
    · simp only [mk, if_true]
      exact ⟨vs.toArray, rfl, by simpa using k1, by simpa using k2⟩
  | false =>
    have hs := h1 ha
    match cs, h, hn with
    | [], _, hn => simp [hs] at hn
    | x :: xs, h, _ =>
      obtain ⟨⟨v, e, e1, e2⟩, _⟩ := h
      exact ⟨v, by simp [e], by simpa [mk] using e2, fun _ => e1⟩
theorem Mono.of_eq {F : Nat → Prop} (w : World) : Mono F w w := Mono.refl F w
theorem RepV.und {w : World} {c : Ctx} {x : PV} {v : Value} (h : RepV w c.d x v) : RepV w c x v := RepV.mono x v (Mono.refl _ _) (Ctx.d_le c) h
theorem RepL.und {w : World} {c : Ctx} {x : List PV} {v : List Value} (h : RepL w c.d x v) : RepL w c x v := RepL.mono x v (Mono.refl _ _) (Ctx.d_le c) h
theorem RepAt.und {w : World} {c : Ctx} {b o : Nat} {x : List PV} (h : RepAt w c.d b o x) : RepAt w c b o x := RepAt.mono b rfl o x (Mono.refl _ _) (Ctx.d_le c) h
theorem RepRows.und {w : World} {c : Ctx} {n b o : Nat} {x : List (List PV)} (h : RepRows w c.d n b o x) : RepRows w c n b o x := RepRows.mono n b rfl o x (Mono.refl _ _) (Ctx.d_le c) h
theorem RepRows.und' {w : World} {c : Ctx} {n b o : Nat} {x : List (List PV)} {q : Bool} (h : RepRows w (if q then c else c.d) n b o x) : RepRows w c n b o x := by
  cases q
  · exact RepRows.und (by simpa using h)
  · simpa using h
/-- A key's block, when it has rows. -/
theorem HRep.block {w : World} {c : Ctx} {k : Key} {e : HE} (h : HRep w c k e) (hx : 0 < e.xs.length) : ∃ ad, c.β k = some ad ∧ ad.spot = none ∧
    (∃ cs el fr, w.heap[ad.block]? = some (.cells cs el fr) ∧ ad.off + e.xs.length * e.esz ≤ cs.size ∧ ∀ o, o < cs.size → ¬ (fr.1 ≤ o ∧ o < fr.2)) ∧
        RepRows w (if e.bx then c else c.d) e.esz ad.block ad.off e.xs ∧ (c.Fz ad.block ↔ e.fz = true) := by
  obtain ⟨_, _, h⟩ := h
  cases hb : c.β k with
  | none => rw [hb] at h; simp [h.1] at hx
  | some ad => rw [hb] at h; exact ⟨ad, rfl, h⟩

section
variable {E : Env} {h : List (Key × Option HE)} {c : Ctx} {w : World} {ev : Operand → Value} {get : MO → PV} {o : Oper} {i : MI} {key : Key} {out : Out}

theorem does_mv (x : Operand) (ho : o.op = .move x ∨ o.op = .assign x) (hi : toI E.P E.nt o = some i) (hg : HGood E h c w) (hop : Opnd E c w ev get i)
    (hs : opSem key get (fun k => hk k h) i = some out) (hp : out.pre) : Does E h c w ev o key out := by
  have hi' : (toO E.P E.nt o.type x).map MI.mv = some i := by rcases ho with ho | ho <;> simpa [toI, ho] using hi
  obtain ⟨m, hm, rfl⟩ := Option.map_eq_some_iff.1 hi'
  simp only [opSem, Option.some.injEq] at hs
  subst hs
  refine Does.same (v := ev x) ?_ rfl hg (hop _ x m hm (by simp [MI.ops]))
  rcases ho with ho | ho <;> simp [execOp, ho]

theorem does_nilck (x : Operand) (ho : o.op = .nilCheck x) (hi : toI E.P E.nt o = some i) (hg : HGood E h c w) (hop : Opnd E c w ev get i)
    (hs : opSem key get (fun k => hk k h) i = some out) (hp : out.pre) : Does E h c w ev o key out := by
  simp only [toI, ho] at hi
  obtain ⟨m, hm, rfl⟩ := Option.map_eq_some_iff.1 hi
  have hr := hop _ x m hm (by simp [MI.ops])
  simp only [opSem] at hs
  cases hx : get m with
  | ref cs =>
    rw [hx] at hs hr
    simp only [Option.some.injEq] at hs
    subst hs
    obtain ⟨ad, e, hh⟩ := hr
    exact Does.same (v := ev x) (by simp [execOp, ho, e]) rfl hg ⟨ad, e, hh⟩
  | ptr g esz k off =>
    rw [hx] at hs hr
    simp only [Option.some.injEq] at hs
    subst hs
    obtain ⟨hg1, ad, hb, e⟩ := hr
    exact Does.same (v := ev x) (by simp [execOp, ho, e]) rfl hg ⟨hg1, ad, hb, e⟩
  | fn f a b =>
    rw [hx] at hs hr
    simp only [Option.some.injEq] at hs
    subst hs
    obtain ⟨a', b', e, hh⟩ := hr
    exact Does.same (v := ev x) (by simp [execOp, ho, e]) rfl hg ⟨a', b', e, hh⟩
  | _ => rw [hx] at hs; simp at hs


theorem does_un (op : UnOp) (t : TypeId) (x : Operand) (ho : o.op = .unOp op t x) (hi : toI E.P E.nt o = some i) (hg : HGood E h c w) (hop : Opnd E c w ev get i)
    (hs : opSem key get (fun k => hk k h) i = some out) (hp : out.pre) : Does E h c w ev o key out := by
  simp only [toI, ho] at hi
  obtain ⟨m, hm, rfl⟩ := Option.map_eq_some_iff.1 hi
  have hr := hop _ x m hm (by simp [MI.ops])
  simp only [opSem] at hs
  split at hs
  · rename_i b hx
    rw [hx] at hr
    simp only [Option.some.injEq] at hs
    subst hs
    exact Does.same (v := .bool (!b)) (by simp [execOp, ho, show ev x = .bool b from hr, Op.unary]) rfl hg rfl
  · rename_i k n hx
    rw [hx] at hr
    simp only [Option.some.injEq] at hs
    subst hs
    exact Does.same (v := .int k (k.wrap (0 - n))) (by simp [execOp, ho, show ev x = .int k n from hr.1, Op.unary, Op.intArith]) rfl hg ⟨rfl, wrap_ok _ _⟩
  · cases hs

theorem does_conv (s d : TypeId) (x : Operand) (ho : o.op = .convert s d x) (hnb : ∀ y, i ≠ .b2s y) (hi : toI E.P E.nt o = some i) (hg : HGood E h c w) (hop : Opnd E c w ev get i)
    (hs : opSem key get (fun k => hk k h) i = some out) (hp : out.pre) : Does E h c w ev o key out := by
  simp only [toI, ho] at hi
  split at hi
  · cases hi
  rename_i hsn
  have hsrc : ∃ e, E.P.underlying s = some e := by
    cases hq : E.P.underlying s with
    | none => rw [hq] at hsn; exact absurd rfl hsn
    | some e => exact ⟨e, rfl⟩
  split at hi
  · rename_i k hk
    obtain ⟨m, hm, rfl⟩ := Option.map_eq_some_iff.1 hi
    have hr := hop _ x m hm (by simp [MI.ops])
    simp only [opSem] at hs
    split at hs
    · rename_i k' n hx
      rw [hx] at hr
      simp only [Option.some.injEq] at hs
      subst hs
      obtain ⟨e, he⟩ := hsrc
      exact Does.same (v := .int k (k.wrap n)) (by simp [execOp, ho, show ev x = .int k' n from hr.1, convert, run_underlying he, run_underlying hk, Conv.intToInt]) rfl hg ⟨rfl, wrap_ok _ _⟩
    · cases hs
  · split at hi
    · split at hi
      · obtain ⟨m, hm, rfl⟩ := Option.map_eq_some_iff.1 hi
        exact absurd rfl (hnb m)
      · cases hi
    · cases hi
  · cases hi
  · cases hi

theorem does_faddr (s : TypeId) (x : Operand) (f : Nat) (ho : o.op = .fieldAddr s x f) (hi : toI E.P E.nt o = some i) (hg : HGood E h c w) (hop : Opnd E c w ev get i)
    (hs : opSem key get (fun k => hk k h) i = some out) (hp : out.pre) : Does E h c w ev o key out := by
  simp only [toI, ho] at hi
  split at hi
  · rename_i fs hfs
    split at hi
    · rename_i fd hfd
      split at hi
      · cases hi
      · rename_i hz
        simp only [Bool.or_eq_true, decide_eq_true_eq, not_or] at hz
        obtain ⟨inf, d, h1, h2, h3⟩ := info_okT (by simpa using hz.1)
        have hz' : inf.size ≠ 0 := by rw [← h3]; exact hz.2
        obtain ⟨m, hm, rfl⟩ := Option.map_eq_some_iff.1 hi
        have hr := hop _ x m hm (by simp [MI.ops])
        simp only [opSem] at hs
        split at hs
        · rename_i cs hx
          rw [hx] at hr
          simp only [Option.some.injEq] at hs
          subst hs
          obtain ⟨ad, e, e1, e2, e3⟩ := hr
          rw [addr_of e1] at e
          refine Does.same (v := .pointer (some ⟨ad.block, ad.off + fd.offset, none⟩)) (by simp [execOp, ho, e, Instr.fieldAt, run_underlying hfs, hfd, Instr.sureAddr, fieldPlace, run_sizeOf h1, hz', add_at]) rfl hg ⟨_, rfl, rfl, e2, RepAt.drop _ e3⟩
        · rename_i g esz k off hx
          rw [hx] at hr
          simp only [Option.some.injEq] at hs
          subst hs
          obtain ⟨e0, e1, ad, e2, e⟩ := hr
          refine Does.same (v := .pointer (some ⟨ad.block, ad.off + k * esz + off + fd.offset, none⟩)) (by simp [execOp, ho, e, Instr.fieldAt, run_underlying hfs, hfd, Instr.sureAddr, fieldPlace, run_sizeOf h1, hz', add_at]) rfl hg ⟨e0, e1, ad, e2, by simp [Nat.add_assoc]⟩
        · cases hs
    · cases hi
  · cases hi

theorem RepL_nth {w : World} {c : Ctx} {xs : List PV} {vs : List Value} {n : Nat} (h : RepL w c xs vs) (hn : n < xs.length) : ∃ v, vs[n]? = some v ∧ RepV w c (xs.getD n .undef) v := by
  obtain ⟨v, h1, h2⟩ := RepL.get n (xs.getD n .undef) h (by simp [List.getD, List.getElem?_eq_getElem hn])
  exact ⟨v, h1, h2⟩
/-- A part of a struct's or an array's cells. -/
theorem part_ok {P : Program} {t : TypeId} {i : TypeInfo} {d : TypeDesc} (hi : P.info? t = some i) (hd : P.underlying t = some d) {w : World} {c : Ctx} {cs : List PV} {vs : Array Value} {off : Nat}
    (h : RepL w c cs vs.toList) (h1 : ∀ u ∈ vs.toList, u.oneCell' = true) (hn : off + i.size ≤ cs.length) (hs : aggOf P t = false → i.size = 1) :
    ∃ v, (part t vs off).run P w = .ok v w ∧ RepV w c (mk (aggOf P t) i.size (cs.drop off)) v := by
  unfold part
  simp only [Sem.run_bind, run_isAgg hd, Result.andThen_ok]
  cases ha : aggOf P t with
  | true =>
    refine ⟨.agg (vs.extract off (off + i.size)), by simp [run_sizeOf hi], ?_⟩
    simp only [mk, if_true]
    have e : (vs.extract off (off + i.size)).toList = (vs.toList.drop off).take i.size := by
      simp [List.extract_eq_take_drop]
    exact ⟨_, rfl, by rw [e]; exact RepL.take _ (RepL.drop _ h), fun u hu => h1 u (by rw [e] at hu; exact List.mem_of_mem_drop (List.mem_of_mem_take hu))⟩
  | false =>
    have := hs ha
    have hlt : off < cs.length := by omega
    obtain ⟨v, e1, e2⟩ := RepL_nth h hlt
    have e3 : vs[off]? = some v := by simpa using e1
    refine ⟨v, by simp [e3], ?_⟩
    simp only [mk, Bool.false_eq_true, if_false]
    have : (cs.drop off).headD .undef = cs.getD off .undef := by simp [List.headD_eq_head?_getD, List.head?_drop, List.getD]
    rwa [this]

theorem does_field (s : TypeId) (x : Operand) (f : Nat) (ho : o.op = .field s x f) (hi : toI E.P E.nt o = some i) (hg : HGood E h c w) (hop : Opnd E c w ev get i)
    (hs : opSem key get (fun k => hk k h) i = some out) (hp : out.pre) : Does E h c w ev o key out := by
  simp only [toI, ho] at hi
  split at hi
  · rename_i fs hfs
    split at hi
    · rename_i fd hfd
      split at hi
      · cases hi
      · rename_i hz
        obtain ⟨inf, d, h1, h2, h3⟩ := info_okT hz
        obtain ⟨m, hm, rfl⟩ := Option.map_eq_some_iff.1 hi
        have hr := hop _ x m hm (by simp [MI.ops])
        simp only [opSem] at hs
        split at hs
        · rename_i cs hx
          rw [hx] at hr
          simp only [Option.some.injEq] at hs
          subst hs
          obtain ⟨vs, e, e1, e2⟩ := hr
          obtain ⟨p1, p2⟩ := hp
          obtain ⟨v, q1, q2⟩ := part_ok h1 h2 e1 e2 (off := fd.offset) (by rw [← h3]; exact p1) (by rw [← h3]; exact p2)
          refine Does.same (v := v) (by simp [execOp, ho, e, Instr.field, run_underlying hfs, hfd, asAgg, q1]) rfl hg (by rw [h3]; exact q2)
        · cases hs
    · cases hi
  · cases hi

theorem does_iaddr (t : TypeId) (x y : Operand) (ho : o.op = .indexAddr t x y) (hi : toI E.P E.nt o = some i) (hg : HGood E h c w) (hop : Opnd E c w ev get i)
    (hs : opSem key get (fun k => hk k h) i = some out) (hp : out.pre) : Does E h c w ev o key out := by
  simp only [toI, ho] at hi
  split at hi
  · rename_i e hte
    split at hi
    · cases hi
    · rename_i hz
      obtain ⟨inf, d, h1, h2, h3⟩ := info_okT hz
      split at hi
      · rename_i mx mi hmx hmi
        simp only [Option.some.injEq] at hi
        subst hi
        have hr := hop _ x mx hmx (by simp [MI.ops])
        have hr2 := hop _ y mi hmi (by simp [MI.ops])
        simp only [opSem] at hs
        split at hs
        · rename_i esz' full xs k n hx hy
          split at hs
          · rename_i he
            rw [hx] at hr
            rw [hy] at hr2
            simp only [Option.some.injEq] at hs
            subst hs
            obtain ⟨a, cap, q1, q2, q3, q4, q5, q6⟩ := hr
            obtain ⟨p1, p2⟩ := hp
            have hlt : n.toNat < xs.length := by omega
            rcases q6 with q6 | ⟨ad, q6, q7, q8, q9⟩
            · subst q6; simp at hlt
            · rw [addr_of q7] at q6
              obtain ⟨_, r2⟩ := RepRows.get n.toNat (xs.getD n.toNat []) q9 (by simp [List.getD, List.getElem?_eq_getElem hlt])
              refine Does.same (v := .pointer (some ⟨ad.block, ad.off + n.toNat * esz', none⟩)) ?_ rfl hg ⟨_, rfl, rfl, q8, r2⟩
              have e1 : esz' = inf.size := by rw [he, h3]
              simp [execOp, ho, q1, q6, show ev y = .int k n from hr2.1, Instr.indexAt, asIntOf, run_underlying hte, run_sizeOf h1, p1, p2, add_at, e1]
          · cases hs
        · rename_i g esz' off len full k n hx hy
          split at hs
          · rename_i he
            rw [hx] at hr
            rw [hy] at hr2
            simp only [Option.some.injEq] at hs
            subst hs
            obtain ⟨g1, g2, g3, a, cap, q1, q2, q3, q4, q5, q6⟩ := hr
            obtain ⟨p1, p2⟩ := hp
            cases hb : c.β g with
            | none => rw [hb] at q6; omega
            | some ad =>
              rw [hb] at q6
              rcases q6 with q6 | ⟨q6, _⟩
              · omega
              · refine Does.same (v := .pointer (some ⟨ad.block, ad.off + (off + n.toNat) * esz', none⟩)) ?_ rfl hg ⟨g1, by rw [← he]; exact g2, ad, hb, by simp [he]⟩
                have e1 : esz' = inf.size := by rw [he, h3]
                simp [execOp, ho, q1, q6, show ev y = .int k n from hr2.1, Instr.indexAt, asIntOf, run_underlying hte, run_sizeOf h1, p1, p2, add_at, ← e1, Nat.add_mul, Nat.add_assoc]
          · cases hs
        · cases hs
      · cases hi
  · rename_i len e hte
    split at hi
    · cases hi
    · rename_i hz
      obtain ⟨inf, d, h1, h2, h3⟩ := info_okT hz
      split at hi
      · rename_i mx mi hmx hmi
        simp only [Option.some.injEq] at hi
        subst hi
        have hr := hop _ x mx hmx (by simp [MI.ops])
        have hr2 := hop _ y mi hmi (by simp [MI.ops])
        simp only [opSem] at hs
        split at hs
        · rename_i cs k n hx hy
          rw [hx] at hr
          rw [hy] at hr2
          simp only [Option.some.injEq] at hs
          subst hs
          obtain ⟨ad, e0, e1, e2, e3⟩ := hr
          obtain ⟨p1, p2⟩ := hp
          rw [addr_of e1] at e0
          refine Does.same (v := .pointer (some ⟨ad.block, ad.off + n.toNat * inf.size, none⟩)) ?_ rfl hg ⟨_, rfl, rfl, e2, by rw [h3]; exact RepAt.drop _ e3⟩
          simp [execOp, ho, e0, show ev y = .int k n from hr2.1, Instr.indexAt, Instr.sureAddr, asIntOf, run_underlying hte, run_sizeOf h1, p1, p2, add_at]
        · rename_i g es j off k n hx hy
          rw [hx] at hr
          rw [hy] at hr2
          simp only [Option.some.injEq] at hs
          subst hs
          obtain ⟨g1, g2, ad, g3, g4⟩ := hr
          obtain ⟨p1, p2⟩ := hp
          refine Does.same (v := .pointer (some ⟨ad.block, ad.off + j * es + off + n.toNat * inf.size, none⟩)) ?_ rfl hg ⟨g1, g2, ad, g3, by rw [h3, Nat.add_assoc]⟩
          simp [execOp, ho, g4, show ev y = .int k n from hr2.1, Instr.indexAt, Instr.sureAddr, asIntOf, run_underlying hte, run_sizeOf h1, p1, p2, add_at]
        · cases hs
      · cases hi
  · cases hi

theorem does_ext (x : Operand) (n : Nat) (ho : o.op = .extract x n) (hi : toI E.P E.nt o = some i) (hg : HGood E h c w) (hop : Opnd E c w ev get i)
    (hs : opSem key get (fun k => hk k h) i = some out) (hp : out.pre) : Does E h c w ev o key out := by
  simp only [toI, ho] at hi
  obtain ⟨m, hm, rfl⟩ := Option.map_eq_some_iff.1 hi
  have hr := hop _ x m hm (by simp [MI.ops])
  simp only [opSem] at hs
  split at hs
  · rename_i xs hx
    rw [hx] at hr
    simp only [Option.some.injEq] at hs
    subst hs
    obtain ⟨vs, e, e1⟩ := hr
    obtain ⟨v, q1, q2⟩ := RepL_nth e1 hp
    have q3 : vs[n]? = some v := by simpa using q1
    exact Does.same (v := v) (by simp [execOp, ho, e, Instr.extract, q3]) rfl hg q2
  · cases hs

theorem does_mkif (t : TypeId) (x : Operand) (ho : o.op = .makeInterface t x) (hi : toI E.P E.nt o = some i) (hg : HGood E h c w) (hop : Opnd E c w ev get i)
    (hs : opSem key get (fun k => hk k h) i = some out) (hp : out.pre) : Does E h c w ev o key out := by
  simp only [toI, ho] at hi
  split at hi
  · cases hi
  · rename_i d hd hne
    obtain ⟨m, hm, rfl⟩ := Option.map_eq_some_iff.1 hi
    have hr := hop _ x m hm (by simp [MI.ops])
    simp only [opSem, Option.some.injEq] at hs
    subst hs
    refine Does.same (v := .iface t (ev x)) ?_ rfl hg ⟨_, rfl, hr⟩
    have : E.P.concrete t = true := by
      unfold Program.concrete
      rw [hne]
      cases d <;> first | rfl | (exact absurd rfl (hd _))
    simp [execOp, ho, run_makeInterface _ _ _ this]
  · cases hi
end
end Go.Proofs.YtjeegophpmpibaaGreatDoor.Pv

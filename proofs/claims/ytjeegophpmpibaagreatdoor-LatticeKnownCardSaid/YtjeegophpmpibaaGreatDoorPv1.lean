/- Values as a program's text sees them (slices by their contents, or by the name of a block that the call owns), and what it is for a value of the machine to stand for one; that it stays so while memory grows. No condition. -/
import Derived.Calls
import Derived.Deep.AppendSrc
namespace Go.Proofs.YtjeegophpmpibaaGreatDoor.Pv
open Go

/-- The name of a block that a call owns: the slot at which it was made, and a number that is used once. -/
abbrev Key := Nat × Nat

inductive PV where
  | undef
  | bool (b : Bool)
  | int (k : IntKind) (n : Int)
  | str (s : ByteArray)
  | nilp | nilf | nili
  | vec (esz : Nat) (full : Bool) (xs : List (List PV))
  | ref (cs : List PV)
  | own (g : Key) (esz off len : Nat) (full : Bool)
  | ptr (g : Key) (esz i off : Nat)
  | agg (cs : List PV)
  | tup (vs : List PV)
  | fn (f : FuncId) (first captured : List PV)
  | iface (t : TypeId) (x : PV)
  | opt (b : Bool) (x : PV)
  | raw (v : Value)
  deriving Inhabited

/-- Where the owned blocks lie (none: a slice that has no block yet), which names are in use, and which blocks are written no more. -/
structure Ctx where
  β : Key → Option Addr
  es : Key → Nat
  U : Key → Prop
  Fz : Nat → Prop
/-- The same without any owned block: what stands in lists and behind read-only pointers is told so. -/
def Ctx.d (c : Ctx) : Ctx := ⟨c.β, c.es, fun _ => False, c.Fz⟩

/-- No list is longer than this. -/
def LIM : Nat := 140737488355328

mutual
/-- The value v of the machine stands for x. -/
def RepV (w : World) : Ctx → PV → Value → Prop
  | _, .undef, _ => True
  | _, .bool b, v => v = .bool b
  | _, .int k n, v => v = .int k n ∧ k.min ≤ n ∧ n ≤ k.max
  | _, .str s, v => v = .string s ∧ s.size ≤ LIM
  | _, .nilp, v => v = .pointer none
  | _, .nilf, v => v = .nilFunc
  | _, .nili, v => v = .nilIface
  | c, .vec esz full xs, v => ∃ a cap, v = .slice a xs.length cap ∧ xs.length ≤ cap ∧ cap ≤ 9223372036854775807 ∧ xs.length ≤ LIM ∧ (full = true → cap = xs.length) ∧
      (xs = [] ∨ ∃ ad, a = some ad ∧ ad.spot = none ∧ c.Fz ad.block ∧ RepRows w c.d esz ad.block ad.off xs)
  | c, .ref cs, v => ∃ ad, v = .pointer (some ad) ∧ ad.spot = none ∧ c.Fz ad.block ∧ RepAt w c.d ad.block ad.off cs
  | c, .own g esz off len full, v => c.U g ∧ esz = c.es g ∧ 0 < esz ∧ ∃ a cap, v = .slice a len cap ∧ len ≤ cap ∧ cap ≤ 9223372036854775807 ∧ len ≤ LIM ∧ (full = true → cap = len) ∧
      match c.β g with
      | none => len = 0 ∧ off = 0 ∧ cap = 0
      | some ad => cap = 0 ∨ (a = some ⟨ad.block, ad.off + off * esz, none⟩ ∧ ∃ cs el fr, w.heap[ad.block]? = some (.cells cs el fr) ∧ ad.off + (off + cap) * esz ≤ cs.size)
  | c, .ptr g esz i off, v => c.U g ∧ esz = c.es g ∧ ∃ ad, c.β g = some ad ∧ v = .pointer (some ⟨ad.block, ad.off + i * esz + off, none⟩)
  | c, .agg cs, v => ∃ vs, v = .agg vs ∧ RepL w c cs vs.toList ∧ ∀ u ∈ vs.toList, u.oneCell' = true
  | c, .tup cs, v => ∃ vs, v = .tuple vs ∧ RepL w c cs vs.toList
  | c, .fn f first cap, v => ∃ a b, v = .func (.func f) a b ∧ RepL w c first a.toList ∧ RepL w c cap b.toList
  | c, .iface t x, v => ∃ u, v = .iface t u ∧ RepV w c x u
  | c, .opt b x, v => (b = true → RepV w c x v) ∧ (b = false → v = undef)
  | _, .raw u, v => v = u
def RepL (w : World) : Ctx → List PV → List Value → Prop
  | _, [], vs => vs = []
  | c, x :: xs, vs => ∃ u us, vs = u :: us ∧ RepV w c x u ∧ RepL w c xs us
def RepAt (w : World) : Ctx → Nat → Nat → List PV → Prop
  | _, _, _, [] => True
  | c, b, o, x :: xs => (∃ v, w.cell? ⟨b, o, none⟩ = some v ∧ v.oneCell' = true ∧ RepV w c x v) ∧ RepAt w c b (o + 1) xs
def RepRows (w : World) : Ctx → Nat → Nat → Nat → List (List PV) → Prop
  | _, _, _, _, [] => True
  | c, esz, b, o, r :: rs => r.length = esz ∧ RepAt w c b o r ∧ RepRows w c esz b (o + esz) rs
end

/-- From w to w' memory has grown; the blocks of which F holds are as they were; no block has another number of cells. -/
structure Mono (F : Nat → Prop) (w w' : World) : Prop where
  size : w.heap.size ≤ w'.heap.size
  same : ∀ b, F b → w'.heap[b]? = w.heap[b]?
  keep : ∀ (b : Nat) (cs : Array Value) (el : TypeId) (fr : Nat × Nat), w.heap[b]? = some (Obj.cells cs el fr) → ∃ (cs' : Array Value) (fr' : Nat × Nat), w'.heap[b]? = some (Obj.cells cs' el fr') ∧ cs'.size = cs.size

theorem Mono.refl (F : Nat → Prop) (w : World) : Mono F w w := ⟨Nat.le_refl _, fun _ _ => rfl, fun _ cs _ fr h => ⟨cs, fr, h, rfl⟩⟩
theorem Mono.trans {F : Nat → Prop} {a b c : World} (h : Mono F a b) (k : Mono F b c) : Mono F a c :=
  ⟨Nat.le_trans h.size k.size, fun x hx => (k.same x hx).trans (h.same x hx), fun x cs el fr hx => by
    obtain ⟨cs1, fr1, h1, e1⟩ := h.keep x cs el fr hx
    obtain ⟨cs2, fr2, h2, e2⟩ := k.keep x cs1 el fr1 h1
    exact ⟨cs2, fr2, h2, e2.trans e1⟩⟩
theorem Mono.weaken {F G : Nat → Prop} {w w' : World} (h : Mono F w w') (hs : ∀ b, G b → F b) : Mono G w w' :=
  ⟨h.size, fun b hb => h.same b (hs b hb), h.keep⟩

structure Ctx.Le (c c' : Ctx) : Prop where
  U : ∀ g, c.U g → c'.U g
  β : ∀ g, c.U g → c'.β g = c.β g
  es : ∀ g, c.U g → c'.es g = c.es g
  Fz : ∀ b, c.Fz b → c'.Fz b

theorem Ctx.Le.refl (c : Ctx) : c.Le c := ⟨fun _ h => h, fun _ _ => rfl, fun _ _ => rfl, fun _ h => h⟩
theorem Ctx.Le.trans {a b c : Ctx} (h : a.Le b) (k : b.Le c) : a.Le c :=
  ⟨fun g hg => k.U g (h.U g hg), fun g hg => (k.β g (h.U g hg)).trans (h.β g hg), fun g hg => (k.es g (h.U g hg)).trans (h.es g hg), fun x hx => k.Fz x (h.Fz x hx)⟩
theorem Ctx.Le.d {c c' : Ctx} (h : ∀ b, c.Fz b → c'.Fz b) : c.d.Le c'.d := ⟨fun _ h => h.elim, fun _ h => h.elim, fun _ h => h.elim, h⟩
theorem Ctx.d_le (c : Ctx) : c.d.Le c := ⟨fun _ h => h.elim, fun _ h => h.elim, fun _ h => h.elim, fun _ h => h⟩

theorem cell_of_heap {w w' : World} {b : Nat} (h : w'.heap[b]? = w.heap[b]?) (o : Nat) : w'.cell? ⟨b, o, none⟩ = w.cell? ⟨b, o, none⟩ := by
  simp only [World.cell?, h]

mutual
theorem RepV.mono {w w' : World} : ∀ (x : PV) (v : Value) {c c' : Ctx}, Mono c.Fz w w' → c.Le c' → RepV w c x v → RepV w' c' x v
  | .undef, _, _, _, _, _, _ => trivial
  | .bool _, _, _, _, _, _, h => h
  | .int _ _, _, _, _, _, _, h => h
  | .str _, _, _, _, _, _, h => h
  | .nilp, _, _, _, _, _, h => h
  | .nilf, _, _, _, _, _, h => h
  | .nili, _, _, _, _, _, h => h
  | .vec esz full xs, v, c, c', hm, hc, h => by
    obtain ⟨a, cap, h1, h2, h3, h4, h5, h6⟩ := h
    refine ⟨a, cap, h1, h2, h3, h4, h5, ?_⟩
    rcases h6 with h6 | ⟨ad, e1, e2, e3, e4⟩
    · exact .inl h6
    · exact .inr ⟨ad, e1, e2, hc.Fz _ e3, RepRows.mono esz ad.block (hm.same _ e3) _ xs (c := c.d) (c' := c'.d) hm (Ctx.Le.d hc.Fz) e4⟩
  | .ref cs, v, c, c', hm, hc, h => by
    obtain ⟨ad, e1, e2, e3, e4⟩ := h
    exact ⟨ad, e1, e2, hc.Fz _ e3, RepAt.mono ad.block (hm.same _ e3) _ cs (c := c.d) (c' := c'.d) hm (Ctx.Le.d hc.Fz) e4⟩
  | .own g esz off len full, v, c, c', hm, hc, h => by
    obtain ⟨hg, hes, he, a, cap, h1, h2, h3, h4, h5, h6⟩ := h
    refine ⟨hc.U g hg, hes.trans (hc.es g hg).symm, he, a, cap, h1, h2, h3, h4, h5, ?_⟩
    rw [hc.β g hg]
    cases hb : c.β g with
    | none => rw [hb] at h6; exact h6
    | some ad =>
      rw [hb] at h6
      rcases h6 with h6 | ⟨e1, cs, el, fr, e2, e3⟩
      · exact .inl h6
      · obtain ⟨cs', fr', e4, e5⟩ := hm.keep _ _ _ _ e2
        exact .inr ⟨e1, cs', el, fr', e4, by omega⟩
  | .ptr g esz i off, v, c, c', hm, hc, h => by
    obtain ⟨hg, hes, ad, h1, h2⟩ := h
    exact ⟨hc.U g hg, hes.trans (hc.es g hg).symm, ad, (hc.β g hg).trans h1, h2⟩
  | .agg cs, v, c, c', hm, hc, h => by
    obtain ⟨vs, e, h, h1⟩ := h
    exact ⟨vs, e, RepL.mono cs _ hm hc h, h1⟩
  | .tup cs, v, c, c', hm, hc, h => by
    obtain ⟨vs, e, h⟩ := h
    exact ⟨vs, e, RepL.mono cs _ hm hc h⟩
  | .fn f first cap, v, c, c', hm, hc, h => by
    obtain ⟨a, b, e, h1, h2⟩ := h
    exact ⟨a, b, e, RepL.mono first _ hm hc h1, RepL.mono cap _ hm hc h2⟩
  | .iface t x, v, c, c', hm, hc, h => by
    obtain ⟨u, e, h⟩ := h
    exact ⟨u, e, RepV.mono x u hm hc h⟩
  | .opt b x, v, c, c', hm, hc, h => ⟨fun hb => RepV.mono x v hm hc (h.1 hb), h.2⟩
  | .raw _, _, _, _, _, _, h => h
theorem RepL.mono {w w' : World} : ∀ (xs : List PV) (vs : List Value) {c c' : Ctx}, Mono c.Fz w w' → c.Le c' → RepL w c xs vs → RepL w' c' xs vs
  | [], _, _, _, _, _, h => h
  | x :: xs, _, _, _, hm, hc, h => by
    obtain ⟨u, us, e, h1, h2⟩ := h
    exact ⟨u, us, e, RepV.mono x u hm hc h1, RepL.mono xs us hm hc h2⟩
theorem RepAt.mono {w w' : World} (b : Nat) (hb : w'.heap[b]? = w.heap[b]?) : ∀ (o : Nat) (xs : List PV) {c c' : Ctx}, Mono c.Fz w w' → c.Le c' → RepAt w c b o xs → RepAt w' c' b o xs
  | _, [], _, _, _, _, _ => trivial
  | o, x :: xs, _, _, hm, hc, h => by
    obtain ⟨⟨v, e, e1, h1⟩, h2⟩ := h
    exact ⟨⟨v, (cell_of_heap hb o).trans e, e1, RepV.mono x v hm hc h1⟩, RepAt.mono b hb (o + 1) xs hm hc h2⟩
theorem RepRows.mono {w w' : World} (esz b : Nat) (hb : w'.heap[b]? = w.heap[b]?) : ∀ (o : Nat) (xs : List (List PV)) {c c' : Ctx}, Mono c.Fz w w' → c.Le c' → RepRows w c esz b o xs → RepRows w' c' esz b o xs
  | _, [], _, _, _, _, _ => trivial
  | o, r :: rs, _, _, hm, hc, h => by
    obtain ⟨h1, h2, h3⟩ := h
    exact ⟨h1, RepAt.mono b hb o r hm hc h2, RepRows.mono esz b hb (o + esz) rs hm hc h3⟩
end

/-- Where a block is written: what stands at other places of it stands for what it stood for. -/
theorem RepAt.mono_cells {w w' : World} {c c' : Ctx} (hm : Mono c.Fz w w') (hc : c.Le c') (b : Nat) : ∀ (o : Nat) (xs : List PV),
    (∀ j, o ≤ j → j < o + xs.length → w'.cell? ⟨b, j, none⟩ = w.cell? ⟨b, j, none⟩) → RepAt w c b o xs → RepAt w' c' b o xs
  | _, [], _, _ => trivial
  | o, x :: xs, hb, h => by
    obtain ⟨⟨v, e, e1, h1⟩, h2⟩ := h
    refine ⟨⟨v, (hb o (Nat.le_refl _) (by simp)).trans e, e1, RepV.mono x v hm hc h1⟩, RepAt.mono_cells hm hc b (o + 1) xs (fun j h1 h2 => hb j (by omega) (by simp; omega)) h2⟩

theorem RepRows.mono_cells {w w' : World} {c c' : Ctx} (hm : Mono c.Fz w w') (hc : c.Le c') (esz b : Nat) : ∀ (o : Nat) (xs : List (List PV)),
    (∀ j, o ≤ j → j < o + xs.length * esz → w'.cell? ⟨b, j, none⟩ = w.cell? ⟨b, j, none⟩) → RepRows w c esz b o xs → RepRows w' c' esz b o xs
  | _, [], _, _ => trivial
  | o, r :: rs, hb, h => by
    obtain ⟨h1, h2, h3⟩ := h
    have e : (r :: rs).length * esz = esz + rs.length * esz := by simp [Nat.add_mul]; omega
    exact ⟨h1, RepAt.mono_cells hm hc b o r (fun j g1 g2 => hb j g1 (by omega)) h2, RepRows.mono_cells hm hc esz b (o + esz) rs (fun j g1 g2 => hb j (by omega) (by omega)) h3⟩

/-! Reading -/
theorem add_at (b o j : Nat) : (⟨b, o, none⟩ : Addr).add j = ⟨b, o + j, none⟩ := by
  unfold Addr.add
  split <;> simp_all
theorem addr_of {ad : Addr} (h : ad.spot = none) : ad = ⟨ad.block, ad.off, none⟩ := by
  cases ad; simp_all
/-- The values that stand in a stretch of cells. -/
theorem RepAt.vals {w : World} {c : Ctx} {b : Nat} : ∀ {o : Nat} {xs : List PV}, RepAt w c b o xs → ∃ vs : List Value, RepL w c xs vs ∧ (∀ u ∈ vs, u.oneCell' = true) ∧ ∀ (j : Nat) (v : Value), vs[j]? = some v → w.cell? ⟨b, o + j, none⟩ = some v
  | _, [], _ => ⟨[], rfl, by simp, by simp⟩
  | o, x :: xs, h => by
    obtain ⟨⟨v, h1, h2, h3⟩, h4⟩ := h
    obtain ⟨vs, k1, k2, k3⟩ := RepAt.vals h4
    refine ⟨v :: vs, ⟨v, vs, rfl, h3, k1⟩, fun u hu => ?_, fun j u hj => ?_⟩
    · rcases List.mem_cons.1 hu with rfl | hu
      · exact h2
      · exact k2 u hu
    · match j with
      | 0 => simp at hj; subst hj; exact h1
      | j + 1 => rw [show o + (j + 1) = o + 1 + j by omega]; exact k3 j u (by simpa using hj)
theorem RepL.length {w : World} {c : Ctx} : ∀ {xs : List PV} {vs : List Value}, RepL w c xs vs → vs.length = xs.length
  | [], _, h => by rw [show _ = [] from h]; rfl
  | x :: xs, _, h => by
    obtain ⟨u, us, rfl, _, h2⟩ := h
    simp [RepL.length h2]
theorem RepL.get {w : World} {c : Ctx} : ∀ {xs : List PV} {vs : List Value} (i : Nat) (x : PV), RepL w c xs vs → xs[i]? = some x → ∃ v, vs[i]? = some v ∧ RepV w c x v
  | [], _, i, x, h, hx => by simp at hx
  | y :: ys, _, 0, x, h, hx => by
    obtain ⟨u, us, rfl, h1, _⟩ := h
    simp at hx
    subst hx
    exact ⟨u, rfl, h1⟩
  | y :: ys, _, i + 1, x, h, hx => by
    obtain ⟨u, us, rfl, _, h2⟩ := h
    simpa using RepL.get i x h2 (by simpa using hx)
theorem RepL.drop {w : World} {c : Ctx} : ∀ {xs : List PV} {vs : List Value} (n : Nat), RepL w c xs vs → RepL w c (xs.drop n) (vs.drop n)
  | [], _, n, h => by rw [show _ = [] from h]; simp [RepL]
  | _ :: _, _, 0, h => by simpa using h
  | _ :: ys, _, n + 1, h => by
    obtain ⟨u, us, rfl, _, h2⟩ := h
    simpa using RepL.drop n h2
theorem RepL.take {w : World} {c : Ctx} : ∀ {xs : List PV} {vs : List Value} (n : Nat), RepL w c xs vs → RepL w c (xs.take n) (vs.take n)
  | [], _, n, h => by rw [show _ = [] from h]; simp [RepL]
  | _ :: _, _, 0, h => by simp [RepL]
  | y :: ys, _, n + 1, h => by
    obtain ⟨u, us, rfl, h1, h2⟩ := h
    exact ⟨u, us.take n, by simp, h1, RepL.take n h2⟩
theorem RepL.append {w : World} {c : Ctx} : ∀ {xs : List PV} {vs : List Value} {ys : List PV} {us : List Value}, RepL w c xs vs → RepL w c ys us → RepL w c (xs ++ ys) (vs ++ us)
  | [], _, _, _, h, k => by rw [show _ = [] from h]; simpa using k
  | _ :: _, _, _, _, h, k => by
    obtain ⟨u, us, rfl, h1, h2⟩ := h
    exact ⟨u, us ++ _, by simp, h1, RepL.append h2 k⟩
theorem RepAt.get {w : World} {c : Ctx} {b : Nat} : ∀ {o : Nat} {xs : List PV} (i : Nat) (x : PV), RepAt w c b o xs → xs[i]? = some x → ∃ v, w.cell? ⟨b, o + i, none⟩ = some v ∧ v.oneCell' = true ∧ RepV w c x v
  | _, [], i, x, _, hx => by simp at hx
  | o, y :: ys, 0, x, h, hx => by
    simp at hx
    subst hx
    exact h.1
  | o, y :: ys, i + 1, x, h, hx => by
    have := RepAt.get (o := o + 1) i x h.2 (by simpa using hx)
    rwa [show o + 1 + i = o + (i + 1) by omega] at this
theorem RepAt.drop {w : World} {c : Ctx} {b : Nat} : ∀ {o : Nat} {xs : List PV} (n : Nat), RepAt w c b o xs → RepAt w c b (o + n) (xs.drop n)
  | _, [], n, _ => by simp [RepAt]
  | o, _ :: _, 0, h => by simpa using h
  | o, y :: ys, n + 1, h => by
    have := RepAt.drop (o := o + 1) n h.2
    rw [show o + 1 + n = o + (n + 1) by omega] at this
    simpa using this
theorem RepAt.take {w : World} {c : Ctx} {b : Nat} : ∀ {o : Nat} {xs : List PV} (n : Nat), RepAt w c b o xs → RepAt w c b o (xs.take n)
  | _, [], n, _ => by simp [RepAt]
  | o, _ :: _, 0, h => by simp [RepAt]
  | o, y :: ys, n + 1, h => by simpa [RepAt] using ⟨h.1, RepAt.take (o := o + 1) n h.2⟩
theorem RepAt.append {w : World} {c : Ctx} {b : Nat} : ∀ {o : Nat} {xs ys : List PV}, RepAt w c b o xs → RepAt w c b (o + xs.length) ys → RepAt w c b o (xs ++ ys)
  | _, [], _, _, k => by simpa using k
  | o, x :: xs, ys, h, k => by
    refine ⟨h.1, RepAt.append (o := o + 1) h.2 ?_⟩
    rwa [show o + 1 + xs.length = o + (x :: xs).length by simp; omega]
theorem RepRows.get {w : World} {c : Ctx} {esz b : Nat} : ∀ {o : Nat} {xs : List (List PV)} (i : Nat) (r : List PV), RepRows w c esz b o xs → xs[i]? = some r → r.length = esz ∧ RepAt w c b (o + i * esz) r
  | _, [], i, x, _, hx => by simp at hx
  | o, y :: ys, 0, x, h, hx => by
    simp at hx
    subst hx
    exact ⟨h.1, by simpa using h.2.1⟩
  | o, y :: ys, i + 1, x, h, hx => by
    have := RepRows.get (o := o + esz) i x h.2.2 (by simpa using hx)
    rwa [show o + esz + i * esz = o + (i + 1) * esz by rw [Nat.add_mul]; omega] at this
theorem RepRows.drop {w : World} {c : Ctx} {esz b : Nat} : ∀ {o : Nat} {xs : List (List PV)} (n : Nat), RepRows w c esz b o xs → RepRows w c esz b (o + n * esz) (xs.drop n)
  | _, [], n, _ => by simp [RepRows]
  | o, _ :: _, 0, h => by simpa using h
  | o, y :: ys, n + 1, h => by
    have := RepRows.drop (o := o + esz) n h.2.2
    rw [show o + esz + n * esz = o + (n + 1) * esz by rw [Nat.add_mul]; omega] at this
    simpa using this
theorem RepRows.take {w : World} {c : Ctx} {esz b : Nat} : ∀ {o : Nat} {xs : List (List PV)} (n : Nat), RepRows w c esz b o xs → RepRows w c esz b o (xs.take n)
  | _, [], n, _ => by simp [RepRows]
  | o, _ :: _, 0, h => by simp [RepRows]
  | o, y :: ys, n + 1, h => by simpa [RepRows] using ⟨h.1, h.2.1, RepRows.take (o := o + esz) n h.2.2⟩
theorem RepRows.append {w : World} {c : Ctx} {esz b : Nat} : ∀ {o : Nat} {xs ys : List (List PV)}, RepRows w c esz b o xs → RepRows w c esz b (o + xs.length * esz) ys → RepRows w c esz b o (xs ++ ys)
  | _, [], _, _, k => by simpa using k
  | o, x :: xs, ys, h, k => by
    refine ⟨h.1, h.2.1, RepRows.append (o := o + esz) h.2.2 ?_⟩
    rwa [show o + esz + xs.length * esz = o + (x :: xs).length * esz by simp [Nat.add_mul]; omega]
end Go.Proofs.YtjeegophpmpibaaGreatDoor.Pv

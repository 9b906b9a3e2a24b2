/- Regions whose order is open: told of the order of the text, true of every order. No condition. -/
import Derived.Test.YtjeegophpmpibaaGreatDoorPv15
import Derived.Orders
set_option linter.unusedSimpArgs false
set_option linter.unusedVariables false
namespace Go.Proofs.YtjeegophpmpibaaGreatDoor.Pv
open Go Go.RowKit

/-! What must go before what -/
theorem mask_spec (acc : Array Nat) (i : Nat) : ∀ (es : List Edge) (s : Nat), (es.foldl (fun s e => if Region.binds .any e then s ||| 2 ^ e.on ||| acc.getD e.on 0 else s) s).testBit i = true →
    s.testBit i = true ∨ ∃ e ∈ es, Region.binds .any e = true ∧ (e.on = i ∨ (acc.getD e.on 0).testBit i = true)
  | [], s, h => .inl h
  | e :: es, s, h => by
    rw [List.foldl_cons] at h
    rcases mask_spec acc i es _ h with h | ⟨e', h1, h2⟩
    · by_cases hb : Region.binds .any e = true
      · rw [if_pos hb] at h
        simp only [Nat.testBit_or, Nat.testBit_two_pow, Bool.or_eq_true, decide_eq_true_eq] at h
        rcases h with (h | h) | h
        · exact .inl h
        · exact .inr ⟨e, by simp, hb, .inl h⟩
        · exact .inr ⟨e, by simp, hb, .inr h⟩
      · rw [if_neg hb] at h
        exact .inl h
    · exact .inr ⟨e', by simp [h1], h2⟩
def BeforeOk (ops : Array Oper) (A : Array Nat) : Prop :=
  ∀ (k : Nat) (o : Oper), k < A.size → ops[k]? = some o → ∀ i, (A.getD k 0).testBit i = true → ∃ e ∈ o.after, Region.binds .any e = true ∧ (e.on = i ∨ (A.getD e.on 0).testBit i = true)
theorem before_fold (ops : Array Oper) : ∀ (l : List Oper) (A : Array Nat), BeforeOk ops A → l = ops.toList.drop A.size →
    BeforeOk ops (l.foldl (fun acc o => acc.push (o.after.foldl (fun s e => if Region.binds .any e then s ||| 2 ^ e.on ||| acc.getD e.on 0 else s) 0)) A)
  | [], A, h, _ => h
  | o :: l, A, h, hl => by
    rw [List.foldl_cons]
    have ho : ops[A.size]? = some o := by
      have : (ops.toList.drop A.size)[0]? = some o := by rw [← hl]; rfl
      rw [List.getElem?_drop] at this
      simpa using this
    refine before_fold ops l _ ?_ ?_
    · intro k o' hk hko i hi
      have grow : ∀ x i, (A.getD x 0).testBit i = true → ((A.push (o.after.foldl (fun s e => if Region.binds .any e then s ||| 2 ^ e.on ||| A.getD e.on 0 else s) 0)).getD x 0).testBit i = true := fun x i hx => by
        have hlt : x < A.size := by
          rcases Nat.lt_or_ge x A.size with h' | h'
          · exact h'
          · rw [Array.getD_eq_getD_getElem?, Array.getElem?_eq_none h'] at hx; simp at hx
        rw [Array.getD_eq_getD_getElem?, Array.getElem?_push_lt hlt] 
        rw [Array.getD_eq_getD_getElem?, Array.getElem?_eq_getElem hlt] at hx
        simpa using hx
      rw [Array.size_push] at hk
      by_cases hlt : k < A.size
      · have hi' : (A.getD k 0).testBit i = true := by
          rw [Array.getD_eq_getD_getElem?, Array.getElem?_push_lt hlt] at hi
          rw [Array.getD_eq_getD_getElem?, Array.getElem?_eq_getElem hlt]
          simpa using hi
        obtain ⟨e, h1, h2, h3⟩ := h k o' hlt hko i hi'
        exact ⟨e, h1, h2, h3.imp id (grow _ _)⟩
      · have hke : k = A.size := by omega
        subst hke
        rw [ho] at hko
        cases hko
        rw [Array.getD_eq_getD_getElem?, Array.getElem?_push_size] at hi
        simp only [Option.getD_some] at hi
        rw [← Array.foldl_toList] at hi
        rcases mask_spec A i o.after.toList 0 hi with h0 | ⟨e, h1, h2, h3⟩
        · simp at h0
        · exact ⟨e, by simpa using h1, h2, h3.imp id (grow _ _)⟩
    · rw [Array.size_push, ← List.drop_drop, ← hl]; rfl
theorem before_ok (ops : Array Oper) : BeforeOk ops (Region.before ops) := by
  unfold Region.before
  rw [← Array.foldl_toList]
  exact before_fold ops ops.toList #[] (fun k o hk => by simp at hk) (by simp)

/-- What is listed holds what must go before it. -/
def Down (ops : Array Oper) (S : Nat → Bool) : Prop := ∀ (k : Nat) (o : Oper), ops[k]? = some o → S k = true → ∀ e ∈ o.after, Region.binds .any e = true → S e.on = true
theorem down_before {ops : Array Oper} {S : Nat → Bool} (hd : Down ops S) (hlow : ∀ (k : Nat) (o : Oper), ops[k]? = some o → ∀ e ∈ o.after, Region.binds .any e = true → e.on < k) (hsz : (Region.before ops).size = ops.size) :
    ∀ (k i : Nat), k < ops.size → ((Region.before ops).getD k 0).testBit i = true → (∀ o, ops[k]? = some o → ∀ e ∈ o.after, Region.binds .any e = true → S e.on = true) → S i = true := by
  intro k
  induction k using Nat.strongRecOn with
  | _ k ih =>
    intro i hk hi hS
    have hok : ops[k]? = some ops[k] := by simp [hk]
    obtain ⟨e, h1, h2, h3⟩ := before_ok ops k _ (by rw [hsz]; exact hk) hok i hi
    have hSe := hS _ hok e h1 h2
    rcases h3 with rfl | h3
    · exact hSe
    · have hlt := hlow k _ hok e h1 h2
      exact ih e.on hlt i (by omega) h3 (fun o ho e' h1' h2' => hd e.on o ho hSe e' h1' h2')

/-! States in which some operations have been run -/
def stS (S : Nat → Bool) : Nat → List (MOp × Out) → St → St
  | _, [], st => st
  | i, (m, o) :: l, st => stS S (i + 1) l (if S i then st.put m.dst o else st)
def putAll : List (MOp × Out) → St → St
  | [], st => st
  | (m, o) :: l, st => putAll l (st.put m.dst o)

theorem lk_put (t : Nat) (st : St) (d : Option Nat) (o : Out) : lk t (st.put d o).s = if d = some t then o.r else lk t st.s := by
  cases d with
  | none => simp [St.put]
  | some d =>
    simp only [St.put, lk, Option.some.injEq]
    by_cases h : t = d
    · subst h; simp
    · rw [if_neg h, if_neg (fun x => h x.symm)]
theorem hk_app_congr {k : Key} : ∀ (hu : List (Key × Option HE)) {h h' : List (Key × Option HE)}, hk k h = hk k h' → hk k (hu ++ h) = hk k (hu ++ h')
  | [], _, _, e => e
  | (j, x) :: hu, h, h', e => by
    simp only [List.cons_append, hk_cons]
    split
    · rfl
    · exact hk_app_congr hu e
theorem hk_app_notin {k : Key} : ∀ (hu : List (Key × Option HE)) {h : List (Key × Option HE)}, k.1 ∉ tagsHu hu → hk k (hu ++ h) = hk k h
  | [], _, _ => rfl
  | (j, x) :: hu, h, hn => by
    simp only [tagsHu, List.map_cons, List.mem_cons, not_or] at hn
    simp only [List.cons_append, hk_cons]
    rw [if_neg (fun e => hn.1 (by rw [e]))]
    exact hk_app_notin hu hn.2

theorem lkS_congr {S S' : Nat → Bool} {t : Nat} : ∀ (l : List (MOp × Out)) (i : Nat) (st st' : St), (∀ n m o, l[n]? = some (m, o) → m.dst = some t → S (i + n) = S' (i + n)) → lk t st.s = lk t st'.s → lk t (stS S i l st).s = lk t (stS S' i l st').s
  | [], _, _, _, _, h => h
  | (m, o) :: l, i, st, st', hS, h => by
    refine lkS_congr l (i + 1) _ _ (fun n m' o' hn hm => ?_) ?_
    · have := hS (n + 1) m' o' (by simpa using hn) hm
      rwa [show i + (n + 1) = i + 1 + n by omega] at this
    · by_cases hm : m.dst = some t
      · have := hS 0 m o (by simp) hm
        simp only [Nat.add_zero] at this
        rw [this]
        split
        · rw [lk_put, lk_put, if_pos hm, if_pos hm]
        · exact h
      · have e1 : ∀ (b : Bool) (st : St), lk t (if b then st.put m.dst o else st).s = lk t st.s := fun b st => by
          cases b
          · rfl
          · simp only [if_true]; rw [lk_put, if_neg hm]
        rw [e1, e1]; exact h
theorem hkS_congr {S S' : Nat → Bool} {k : Key} : ∀ (l : List (MOp × Out)) (i : Nat) (st st' : St), (∀ n m o, l[n]? = some (m, o) → k.1 ∈ tagsHu o.hu → S (i + n) = S' (i + n)) → hk k st.h = hk k st'.h → hk k (stS S i l st).h = hk k (stS S' i l st').h
  | [], _, _, _, _, h => h
  | (m, o) :: l, i, st, st', hS, h => by
    refine hkS_congr l (i + 1) _ _ (fun n m' o' hn hm => ?_) ?_
    · have := hS (n + 1) m' o' (by simpa using hn) hm
      rwa [show i + (n + 1) = i + 1 + n by omega] at this
    · by_cases hm : k.1 ∈ tagsHu o.hu
      · have := hS 0 m o (by simp) hm
        simp only [Nat.add_zero] at this
        rw [this]
        split
        · exact hk_app_congr o.hu h
        · exact h
      · have e1 : ∀ (b : Bool) (st : St), hk k (if b then st.put m.dst o else st).h = hk k st.h := fun b st => by
          cases b
          · rfl
          · simp only [if_true]; exact hk_app_notin o.hu hm
        rw [e1, e1]; exact h
theorem lkS_last {S : Nat → Bool} {t : Nat} {m : MOp} {o : Out} : ∀ (l : List (MOp × Out)) (i n : Nat) (st : St), l[n]? = some (m, o) → m.dst = some t → S (i + n) = true → (∀ n' m' o', l[n']? = some (m', o') → m'.dst = some t → n' = n) → lk t (stS S i l st).s = o.r
  | [], _, n, _, hn, _, _, _ => by simp at hn
  | (m1, o1) :: l, i, 0, st, hn, hm, hS, hu => by
    simp only [List.getElem?_cons_zero, Option.some.injEq, Prod.mk.injEq] at hn
    obtain ⟨rfl, rfl⟩ := hn
    simp only [Nat.add_zero] at hS
    simp only [stS, hS, if_true]
    have := lkS_congr (S := S) (S' := fun _ => false) (t := t) l (i + 1) (st.put m1.dst o1) (st.put m1.dst o1) (fun n m' o' hn' hm' => by have := hu (n + 1) m' o' (by simpa using hn') hm'; omega) rfl
    rw [this]
    have hf : ∀ (l : List (MOp × Out)) (i : Nat) (st : St), stS (fun _ => false) i l st = st := by
      intro l
      induction l with
      | nil => intro i st; rfl
      | cons x l ih => intro i st; obtain ⟨a, b⟩ := x; exact ih _ _
    rw [hf, lk_put, if_pos hm]
  | (m1, o1) :: l, i, n + 1, st, hn, hm, hS, hu => by
    exact lkS_last l (i + 1) n _ (by simpa using hn) hm (by rw [show i + 1 + n = i + (n + 1) by omega]; exact hS) (fun n' m' o' hn' hm' => by have := hu (n' + 1) m' o' (by simpa using hn') hm'; omega)
theorem stS_false {S : Nat → Bool} : ∀ (l : List (MOp × Out)) (i : Nat) (st : St), (∀ n, i ≤ n → S n = false) → stS S i l st = st
  | [], _, _, _ => rfl
  | (m, o) :: l, i, st, h => by
    simp only [stS, h i (Nat.le_refl _), Bool.false_eq_true, if_false]
    exact stS_false l (i + 1) st (fun n hn => h n (by omega))
theorem hkS_none {S : Nat → Bool} {k : Key} : ∀ (l : List (MOp × Out)) (i : Nat) (st : St), (∀ n m o, l[n]? = some (m, o) → S (i + n) = true → k.1 ∉ tagsHu o.hu) → hk k (stS S i l st).h = hk k st.h
  | [], _, _, _ => rfl
  | (m, o) :: l, i, st, h => by
    simp only [stS]
    rw [hkS_none l (i + 1) _ (fun n m' o' hn hS => h (n + 1) m' o' (by simpa using hn) (by rw [show i + (n + 1) = i + 1 + n by omega]; exact hS))]
    split
    · rename_i hS
      exact hk_app_notin o.hu (h 0 m o (by simp) (by simpa using hS))
    · rfl
theorem hkS_last {S S' : Nat → Bool} {k : Key} {m : MOp} {o : Out} : ∀ (l : List (MOp × Out)) (i n : Nat) (st : St), l[n]? = some (m, o) → S (i + n) = true → S' (i + n) = false → (∀ x, x ≠ i + n → S x = S' x) →
    (∀ n' m' o', n < n' → l[n']? = some (m', o') → S (i + n') = true → k.1 ∉ tagsHu o'.hu) → hk k (stS S i l st).h = hk k (o.hu ++ (stS S' i l st).h)
  | [], _, n, _, hn, _, _, _, _ => by simp at hn
  | (m1, o1) :: l, i, 0, st, hn, hS, hS', he, hu => by
    simp only [List.getElem?_cons_zero, Option.some.injEq, Prod.mk.injEq] at hn
    obtain ⟨rfl, rfl⟩ := hn
    simp only [Nat.add_zero] at hS hS' he
    simp only [stS, hS, hS', if_true, Bool.false_eq_true, if_false]
    rw [hkS_none l (i + 1) _ (fun n m' o' hn hS1 => hu (n + 1) m' o' (by omega) (by simpa using hn) (by rw [show i + (n + 1) = i + 1 + n by omega]; exact hS1))]
    refine (hk_app_congr o1.hu ?_).symm
    exact hkS_none l (i + 1) _ (fun n m' o' hn hS1 => hu (n + 1) m' o' (by omega) (by simpa using hn) (by rw [he _ (by omega), show i + (n + 1) = i + 1 + n by omega]; exact hS1))
  | (m1, o1) :: l, i, n + 1, st, hn, hS, hS', he, hu => by
    simp only [stS]
    rw [he i (by omega)]
    exact hkS_last l (i + 1) n _ (by simpa using hn) (by rw [show i + 1 + n = i + (n + 1) by omega]; exact hS) (by rw [show i + 1 + n = i + (n + 1) by omega]; exact hS') (fun x hx => he x (by omega))
      (fun n' m' o' hlt hn' hS1 => hu (n' + 1) m' o' (by omega) (by simpa using hn') (by rw [show i + (n' + 1) = i + 1 + n' by omega]; exact hS1))
theorem stS_lt : ∀ (l : List (MOp × Out)) (i j : Nat) (st : St), stS (fun n => decide (n < i + j)) i l st = putAll (l.take j) st
  | [], i, j, st => by simp [stS, putAll]
  | (m, o) :: l, i, 0, st => by
    rw [stS_false _ _ _ (fun n hn => by simp; omega)]
    simp [putAll]
  | (m, o) :: l, i, j + 1, st => by
    have := stS_lt l (i + 1) j (st.put m.dst o)
    simp only [stS, List.take_succ_cons, putAll]
    rw [if_pos (by simp)]
    rw [← this]
    congr 1
    funext n
    rw [show i + 1 + j = i + (j + 1) by omega]
theorem stS_all {S : Nat → Bool} : ∀ (l : List (MOp × Out)) (i : Nat) (st : St), (∀ n, n < l.length → S (i + n) = true) → stS S i l st = putAll l st
  | [], _, _, _ => rfl
  | (m, o) :: l, i, st, h => by
    have h0 := h 0 (by simp)
    simp only [Nat.add_zero] at h0
    simp only [stS, h0, if_true, putAll]
    exact stS_all l (i + 1) _ (fun n hn => by have := h (n + 1) (by simpa using hn); rwa [show i + (n + 1) = i + 1 + n by omega] at this)

/-- The order of the text: what each operation leaves. -/
theorem runD_chain {P : Program} {un : List (Nat × Nat)} {v : Nat} {K : St → Prop} : ∀ (ms : List MOp) (acc : List (List Nat × List Nat)) (st : St), runD P un v ms acc st K →
    (∀ m ∈ ms, m.i.isNil = false) ∧ ∃ os : List Out, os.length = ms.length ∧ okPairs un (acc ++ os.map fun o => (o.rd, tagsHu o.hu)) = true ∧ K (putAll (ms.zip os) st) ∧
      ∀ n m o, (ms.zip os)[n]? = some (m, o) → StepTo P m v (putAll ((ms.zip os).take n) st) o
  | [], acc, st, h => ⟨by simp, [], rfl, by simpa using h.1, h.2, by simp⟩
  | m :: ms, acc, st, h => by
    obtain ⟨h0, h1⟩ := h
    have hi : m.i.isNil = false := by cases hm : m.i <;> first | rfl | (rw [hm] at h0; exact h0.elim)
    obtain ⟨o, h2, h3⟩ := stepOp_one hi h1
    obtain ⟨g0, os, g1, g2, g3, g4⟩ := runD_chain ms _ _ h2
    refine ⟨fun x hx => ?_, o :: os, by simp [g1], by simpa using g2, g3, fun n m' o' hn => ?_⟩
    · rcases List.mem_cons.1 hx with rfl | hx
      · exact hi
      · exact g0 x hx
    · match n with
      | 0 => simp at hn; obtain ⟨rfl, rfl⟩ := hn; exact h3
      | n + 1 => simpa [putAll] using g4 n m' o' (by simpa using hn)
end Go.Proofs.YtjeegophpmpibaaGreatDoor.Pv

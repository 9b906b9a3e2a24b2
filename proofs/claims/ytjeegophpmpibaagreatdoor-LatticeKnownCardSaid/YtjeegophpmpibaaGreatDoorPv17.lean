/- Regions whose order is open, the end. No condition. -/
import Derived.Test.YtjeegophpmpibaaGreatDoorPv16
set_option linter.unusedSimpArgs false
set_option linter.unusedVariables false
namespace Go.Proofs.YtjeegophpmpibaaGreatDoor.Pv
open Go Go.RowKit

theorem toOps_get {P : Program} {nt : Nat} {ops : Array Oper} {soft : Bool} : ∀ (l : List Oper) (ms : List MOp), toOps P nt ops soft l = some ms → ms.length = l.length ∧ ∀ (n : Nat) (o : Oper), l[n]? = some o → ∃ m, ms[n]? = some m ∧ toOp P nt ops soft o = some m
  | [], ms, h => by simp [toOps] at h; subst h; simp
  | o :: l, ms, h => by
    simp only [toOps] at h
    split at h
    · rename_i m ms' h1 h2
      cases h
      obtain ⟨g1, g2⟩ := toOps_get l ms' h2
      refine ⟨by simp [g1], fun n o' hn => ?_⟩
      match n with
      | 0 => simp at hn; subst hn; exact ⟨m, rfl, h1⟩
      | n + 1 => exact g2 n o' (by simpa using hn)
    · cases h
theorem dst_unique : ∀ (ms : List MOp), nodupB (ms.filterMap (·.dst)) = true → ∀ (i j : Nat) (x y : MOp) (d : Nat), ms[i]? = some x → ms[j]? = some y → x.dst = some d → y.dst = some d → i = j
  | [], _, i, j, x, y, d, hi, _, _, _ => by simp at hi
  | m :: ms, h, i, j, x, y, d, hi, hj, hx, hy => by
    have hr : nodupB (ms.filterMap (·.dst)) = true ∧ ∀ d, m.dst = some d → d ∉ ms.filterMap (·.dst) := by
      cases hm : m.dst with
      | none => rw [List.filterMap_cons, hm] at h; exact ⟨h, fun d hd => by cases hd⟩
      | some d' =>
        rw [List.filterMap_cons, hm] at h
        simp only [nodupB, Bool.and_eq_true, Bool.not_eq_true', List.contains_eq_mem, decide_eq_false_iff_not] at h
        exact ⟨h.2, fun d hd => by cases hd; exact h.1⟩
    match i, j with
    | 0, 0 => rfl
    | 0, j + 1 =>
      simp at hi hj
      subst hi
      exact absurd (List.mem_filterMap.2 ⟨y, List.mem_of_getElem? hj, hy⟩) (hr.2 d hx)
    | i + 1, 0 =>
      simp at hi hj
      subst hj
      exact absurd (List.mem_filterMap.2 ⟨x, List.mem_of_getElem? hi, hx⟩) (hr.2 d hy)
    | i + 1, j + 1 => rw [dst_unique ms hr.1 i j x y d (by simpa using hi) (by simpa using hj) hx hy]
theorem unordered_mem (ops : Array Oper) {i j : Nat} (hij : i < j) (hj : j < ops.size) (hb : ((Region.before ops).getD j 0).testBit i = false) : (i, j) ∈ unordered ops := by
  unfold unordered
  simp only [List.mem_flatMap, List.mem_range, List.mem_filterMap]
  exact ⟨j, hj, i, hij, by simp only [hb, Bool.false_eq_true, if_false]⟩

def cnt (S : Nat → Bool) : Nat → Nat
  | 0 => 0
  | n + 1 => cnt S n + (if S n then 0 else 1)
theorem cnt_congr {S S' : Nat → Bool} : ∀ n, (∀ x, x < n → S x = S' x) → cnt S n = cnt S' n
  | 0, _ => rfl
  | n + 1, h => by simp only [cnt]; rw [cnt_congr n (fun x hx => h x (by omega)), h n (by omega)]
theorem cnt_set {S S' : Nat → Bool} {i : Nat} (h0 : S i = false) (h1 : S' i = true) (he : ∀ x, x ≠ i → S' x = S x) : ∀ n, i < n → cnt S n = cnt S' n + 1
  | 0, h => by omega
  | n + 1, h => by
    simp only [cnt]
    by_cases hn : n = i
    · subst hn
      rw [cnt_congr n (fun x hx => (he x (by omega)).symm), h0, h1]; simp
    · rw [cnt_set h0 h1 he n (by omega), he n hn]; omega
theorem cnt_zero {S : Nat → Bool} : ∀ n, cnt S n = 0 → ∀ i, i < n → S i = true
  | 0, _, i, hi => by omega
  | n + 1, h, i, hi => by
    simp only [cnt] at h
    by_cases hn : i = n
    · subst hn
      cases hS : S i with
      | true => rfl
      | false => rw [hS] at h; simp at h
    · exact cnt_zero n (by omega) i (by omega)

section
variable {E : Env} {st st' : St} {c : Ctx} {a : Act} {w : World}
theorem Good.look (hg : Good E st c a w) (hl : ∀ t, lk t st'.s = lk t st.s) (hh : ∀ k, hk k st'.h = hk k st.h) : Good E st' c a w :=
  ⟨hg.defers, hg.size, fun t v hv => by rw [hl]; exact hg.slot t v hv, fun k e he => hg.heap k e (by rw [← hh]; exact he), fun k e ad he => hg.fresh k e ad (by rw [← hh]; exact he),
    fun k k' e e' ad ad' he he' => hg.apart k k' e e' ad ad' (by rw [← hh]; exact he) (by rw [← hh]; exact he'), hg.fz, hg.le, hg.bnd, hg.below, hg.ghost⟩
theorem Good.drew (hg : Good E st c a w) : Good E st c a w.drew :=
  ⟨hg.defers, hg.size, fun t v hv => RepV.mono _ _ (mono_drew w) (Ctx.Le.refl c) (hg.slot t v hv), fun k e he => (hg.heap k e he).mono (mono_drew w) (Ctx.Le.refl c) (fun _ _ => Iff.rfl) (fun _ _ => rfl), hg.fresh, hg.apart, hg.fz, hg.le, hg.bnd, hg.below.drew, fun p hp => RepV.mono _ _ (mono_drew w) (Ctx.Le.refl c) (hg.ghost p hp)⟩

theorem getD_lt {A : Array Bool} {i : Nat} (h : i < A.size) (x y : Bool) : A.getD i x = A.getD i y := by
  simp [Array.getD_eq_getD_getElem?, h]

theorem draw_inv {ops : Array Oper} {soft : Bool} {ms : List MOp} (hops : toOps E.P E.nt ops soft ops.toList = some ms) (hok : drawOk ops ms = true) {v B : Nat} (hvB : v < B) {os : List Out} (hlen : os.length = ms.length) (hnil : ∀ m ∈ ms, m.i.isNil = false)
    (hpairs : okPairs (unordered ops) (os.map fun o => (o.rd, tagsHu o.hu)) = true) {st0 : St} (hstep : ∀ n m o, (ms.zip os)[n]? = some (m, o) → StepTo E.P m v (putAll ((ms.zip os).take n) st0) o)
    {Q : Exit → Act → World → Prop} (hQ : ∀ c a w, Good E (putAll (ms.zip os) st0) c a w → (∀ k : Key, c.U k → k.2 ≤ v ∨ B ≤ k.2) → Q .normal a w) :
    ∀ (fuel : Nat) (listed : Array Bool) (a : Act) (w : World), listed.size = ops.size → Down ops (fun i => listed.getD i false) → cnt (fun i => listed.getD i false) ops.size ≤ fuel →
      (∃ c, Good E (stS (fun i => listed.getD i false) 0 (ms.zip os) st0) c a w ∧ ∀ k : Key, c.U k → k.2 < v ∨ B ≤ k.2 ∨ (k.2 = v ∧ ∃ i m, listed.getD i false = true ∧ ms[i]? = some m ∧ m.dst = some k.1)) →
      wpAny E.P .any ops Q fuel listed a w := by
  obtain ⟨hml, hmg⟩ := toOps_get _ _ hops
  have hsz : ms.length = ops.size := by simpa using hml
  have hzl : (ms.zip os).length = ops.size := by rw [List.length_zip, hlen, Nat.min_self, hsz]
  simp only [drawOk, Bool.and_eq_true] at hok
  obtain ⟨⟨⟨k1, k2⟩, k3⟩, k4⟩ := hok
  have hlow : ∀ (k : Nat) (o : Oper), ops[k]? = some o → ∀ e ∈ o.after, Region.binds .any e = true → e.on < k := fun k o ho e he hb => by
    have := List.all_eq_true.1 k1 (o, k) (by rw [List.mem_zipIdx_iff_getElem?]; simpa using ho)
    have := Array.all_eq_true_iff_forall_mem.1 this e he
    simpa [hb] using this
  have hbsz : (Region.before ops).size = ops.size := by
    unfold Region.before
    have : ∀ (l : List Oper) (A : Array Nat), (l.foldl (fun acc o => acc.push (o.after.foldl (fun s e => if Region.binds .any e then s ||| 2 ^ e.on ||| acc.getD e.on 0 else s) 0)) A).size = A.size + l.length := by
      intro l
      induction l with
      | nil => intro A; simp
      | cons x l ih => intro A; rw [List.foldl_cons, ih]; simp; omega
    rw [← Array.foldl_toList, this]; simp
  have hap : ∀ p ∈ unordered ops, ∀ x y, ms[p.1]? = some x → ms[p.2]? = some y → apartM x y = true := fun p hp x y hx hy => by
    have := List.all_eq_true.1 k2 p hp
    simpa only [hx, hy] using this
  have htag : ∀ n m o, (ms.zip os)[n]? = some (m, o) → ms[n]? = some m ∧ (os.map fun o => (o.rd, tagsHu o.hu)).getD n ([], []) = (o.rd, tagsHu o.hu) := fun n m o hn => by
    rw [List.getElem?_zip_eq_some] at hn
    exact ⟨hn.1, by simp [List.getD, hn.2]⟩
  have hpp : ∀ p ∈ unordered ops, ∀ m o m' o', (ms.zip os)[p.1]? = some (m, o) → (ms.zip os)[p.2]? = some (m', o') → apartL (tagsHu o.hu) o'.rd = true ∧ apartL (tagsHu o.hu) (tagsHu o'.hu) = true ∧ apartL o.rd (tagsHu o'.hu) = true := fun p hp m o m' o' h1 h2 => by
    have := List.all_eq_true.1 hpairs p hp
    simp only [(htag _ _ _ h1).2, (htag _ _ _ h2).2, Bool.and_eq_true] at this
    exact ⟨this.1.1, this.1.2, this.2⟩
  have hapl : ∀ {x y : List Nat} {t : Nat}, apartL x y = true → t ∈ x → t ∉ y := fun {x y t} h hx hy => by
    have := List.all_eq_true.1 h t hx
    simp [hy] at this
  have alldone : ∀ (listed : Array Bool) (a : Act) (w : World), (∀ i, i < ops.size → listed.getD i false = true) → (∃ c, Good E (stS (fun i => listed.getD i false) 0 (ms.zip os) st0) c a w ∧ ∀ k : Key, c.U k → k.2 ≤ v ∨ B ≤ k.2) → Q .normal a w := fun listed a w hS ⟨c, hg, hU⟩ => by
    rw [stS_all _ _ _ (fun n hn => by rw [hzl] at hn; simpa using hS n hn)] at hg
    exact hQ c a w hg hU
  have weak : ∀ {c : Ctx} {L : Key → Prop}, (∀ k : Key, c.U k → k.2 < v ∨ B ≤ k.2 ∨ (k.2 = v ∧ L k)) → ∀ k : Key, c.U k → k.2 ≤ v ∨ B ≤ k.2 := fun {c L} h k hk => by
    rcases h k hk with h | h | ⟨h, _⟩
    · exact .inl (Nat.le_of_lt h)
    · exact .inr h
    · exact .inl (Nat.le_of_eq h)
  intro fuel
  induction fuel with
  | zero =>
    intro listed a w hls hd hc ⟨c, hg, hU⟩
    have hS := cnt_zero (S := fun i => listed.getD i false) ops.size (by omega)
    refine ⟨?_, alldone listed a w hS ⟨c, hg, weak hU⟩⟩
    refine List.eq_nil_iff_forall_not_mem.2 fun j hj => ?_
    obtain ⟨h0, o, ho, _⟩ := mem_ready.1 hj
    have hlt : j < ops.size := (Array.getElem?_eq_some_iff.1 ho).1
    rw [getD_lt (by rw [hls]; exact hlt) true false, hS j hlt] at h0
    cases h0
  | succ fuel ih =>
    intro listed a w hls hd hc ⟨c, hg, hU⟩
    refine ⟨fun hr => alldone listed a w (fun i hi => ?_) ⟨c, hg, weak hU⟩, fun i hi => ?_⟩
    · -- nothing is ready: everything has been run
      induction i using Nat.strongRecOn with
      | _ i ihi =>
        cases hS : listed.getD i false with
        | true => rfl
        | false =>
          exfalso
          have hin : i ∈ Region.ready .any ops listed := mem_ready.2 ⟨by rw [getD_lt (by rw [hls]; exact hi) true false]; exact hS, ops[i], by simp [hi], fun e he hb => by
            have hlt := hlow i ops[i] (by simp [hi]) e he hb
            exact ihi e.on hlt (by omega)⟩
          rw [hr] at hin
          simp at hin
    · -- one that is ready
      obtain ⟨h0, o, ho, hedges⟩ := mem_ready.1 hi
      have hlt : i < ops.size := (Array.getElem?_eq_some_iff.1 ho).1
      have hSi : listed.getD i false = false := by rw [getD_lt (by rw [hls]; exact hlt) false true]; exact h0
      obtain ⟨m, hm, hto⟩ := hmg i o (by simpa using ho)
      obtain ⟨out, hout⟩ : ∃ out, (ms.zip os)[i]? = some (m, out) := by
        have : i < os.length := by rw [hlen, hsz]; exact hlt
        exact ⟨os[i], by rw [List.getElem?_zip_eq_some]; exact ⟨hm, by simp [this]⟩⟩
      -- how the others stand to it
      have rel : ∀ n, n < ops.size → n ≠ i → listed.getD n false = decide (n < i) ∨ (n < i ∧ (n, i) ∈ unordered ops) ∨ (i < n ∧ (i, n) ∈ unordered ops) := fun n hn hne => by
        by_cases hni : n < i
        · cases hb : ((Region.before ops).getD i 0).testBit n with
          | false => exact .inr (.inl ⟨hni, unordered_mem ops hni hlt hb⟩)
          | true =>
            left
            have := down_before (S := fun i => listed.getD i false) hd hlow hbsz i n hlt hb (fun o' ho' e he hbe => by rw [ho] at ho'; cases ho'; exact hedges e he hbe)
            rw [this]; simp [hni]
        · have hin : i < n := by omega
          cases hb : ((Region.before ops).getD n 0).testBit i with
          | false => exact .inr (.inr ⟨hin, unordered_mem ops hin hn hb⟩)
          | true =>
            left
            cases hSn : listed.getD n false with
            | false => simp; omega
            | true =>
              have := down_before (S := fun i => listed.getD i false) hd hlow hbsz n i hn hb (fun o' ho' e he hbe => hd n o' ho' hSn e he hbe)
              rw [hSi] at this
              cases this
      have nlt : ∀ {n : Nat} {x : MOp × Out}, (ms.zip os)[n]? = some x → n < ops.size := fun {n x} hn => by rw [← hzl]; exact (List.getElem?_eq_some_iff.1 hn).1
      -- the step, from where things stand
      have hst : StepTo E.P m v (stS (fun i => listed.getD i false) 0 (ms.zip os) st0) out := by
        have h1 := hstep i m out hout
        rw [← stS_lt _ 0 i] at h1
        simp only [Nat.zero_add] at h1
        refine StepTo.congr (hnil m (List.mem_of_getElem? hm)) h1 (fun t ht => ?_) (fun k hk => ?_)
        · refine lkS_congr _ _ _ _ (fun n m' o' hn hm' => ?_) rfl
          simp only [Nat.zero_add]
          by_cases hne : n = i
          · subst hne; rw [hSi]; simp
          · rcases rel n (nlt hn) hne with hr | ⟨_, hr⟩ | ⟨_, hr⟩
            · exact hr
            · have := hap _ hr m' m (htag _ _ _ hn).1 hm
              simp only [apartM, hm', Bool.and_eq_true, Bool.not_eq_true', List.contains_eq_mem, decide_eq_false_iff_not] at this
              exact absurd ht this.1
            · have := hap _ hr m m' hm (htag _ _ _ hn).1
              simp only [apartM, hm', Bool.and_eq_true, Bool.not_eq_true', List.contains_eq_mem, decide_eq_false_iff_not] at this
              exact absurd ht this.2
        · refine hkS_congr _ _ _ _ (fun n m' o' hn hm' => ?_) rfl
          simp only [Nat.zero_add]
          by_cases hne : n = i
          · subst hne; rw [hSi]; simp
          · rcases rel n (nlt hn) hne with hr | ⟨_, hr⟩ | ⟨_, hr⟩
            · exact hr
            · exact absurd hk (hapl (hpp _ hr m' o' m out hn hout).1 hm')
            · exact absurd hm' (hapl (hpp _ hr m out m' o' hout hn).2.2 hk)
      -- what then stands
      have hset : ∀ x, x ≠ i → (listed.setIfInBounds i true).getD x false = listed.getD x false := fun x hx => getD_set_ne false (Ne.symm hx)
      have hseti : (listed.setIfInBounds i true).getD i false = true := by simp [Array.getD_eq_getD_getElem?, hls, hlt]
      have hlook : ∀ {c' : Ctx} {a' : Act} {w' : World}, Good E ((stS (fun i => listed.getD i false) 0 (ms.zip os) st0).put m.dst out) c' a' w' → Good E (stS (fun j => (listed.setIfInBounds i true).getD j false) 0 (ms.zip os) st0) c' a' w' := fun {c' a' w'} hg' => by
        refine hg'.look (fun t => ?_) (fun k => ?_)
        · rw [lk_put]
          split
          · rename_i hd'
            exact lkS_last _ 0 i _ hout hd' (by simpa using hseti) (fun n' m' o' hn' hm' => dst_unique ms k3 _ _ _ _ t (htag _ _ _ hn').1 hm hm' hd')
          · rename_i hd'
            refine lkS_congr _ _ _ _ (fun n m' o' hn hm' => ?_) rfl
            simp only [Nat.zero_add]
            exact hset n (fun e => by subst e; rw [hout] at hn; cases hn; exact hd' hm')
        · show _ = hk k (out.hu ++ (stS (fun i => listed.getD i false) 0 (ms.zip os) st0).h)
          by_cases hk' : k.1 ∈ tagsHu out.hu
          · refine hkS_last _ 0 i _ hout (by simpa using hseti) (by simpa using hSi) (fun x hx => hset x (by simpa using hx)) (fun n' m' o' hlt' hn' hS' => ?_)
            simp only [Nat.zero_add] at hS'
            rw [hset n' (by omega)] at hS'
            rcases rel n' (nlt hn') (by omega) with hr | ⟨hr, _⟩ | ⟨_, hr⟩
            · rw [hS'] at hr
              have : n' < i := by simpa using hr.symm
              omega
            · omega
            · exact hapl (hpp _ hr m out m' o' hout hn').2.1 hk'
          · rw [hk_app_notin _ hk']
            refine hkS_congr _ _ _ _ (fun n m' o' hn hm' => ?_) rfl
            simp only [Nat.zero_add]
            exact hset n (fun e => by subst e; rw [hout] at hn; cases hn; exact hk' hm')
      have hnext : ∀ {c' : Ctx} {a' : Act} {w' : World}, Good E ((stS (fun i => listed.getD i false) 0 (ms.zip os) st0).put m.dst out) c' a' w' → (∀ k : Key, c'.U k → c.U k ∨ (k.2 = v ∧ m.dst = some k.1) ∨ B ≤ k.2) → wpAny E.P .any ops Q fuel (listed.setIfInBounds i true) a' w' := fun {c' a' w'} hg' hU' => by
        refine ih _ _ _ (by simpa using hls) (fun k o' ho' hSk e he hb => ?_) ?_ ⟨c', hlook hg', fun k hk => ?_⟩
        · by_cases hki : k = i
          · subst hki
            rw [ho] at ho'; cases ho'
            exact getD_set_true (hedges e he hb)
          · simp only at hSk ⊢
            rw [hset k hki] at hSk
            exact getD_set_true (hd k o' ho' hSk e he hb)
        · have := cnt_set (S := fun j => listed.getD j false) (S' := fun j => (listed.setIfInBounds i true).getD j false) hSi hseti hset ops.size hlt
          omega
        · rcases hU' k hk with h1 | ⟨h0, h1⟩ | h1
          · rcases hU k h1 with h2 | h2 | ⟨h2, j, m', g1, g2, g3⟩
            · exact .inl h2
            · exact .inr (.inl h2)
            · exact .inr (.inr ⟨h2, j, m', getD_set_true g1, g2, g3⟩)
          · exact .inr (.inr ⟨h0, i, m, hseti, hm, h1⟩)
          · exact .inr (.inl h1)
      -- the machine's step
      have hboth : ∃ v', (∀ k : Key, k = (m.dst.getD 0, v') → (k.2 = v ∧ m.dst = some k.1) ∨ B ≤ k.2) ∧ ¬ c.U (m.dst.getD 0, v') ∧ StepTo E.P m v' (stS (fun i => listed.getD i false) 0 (ms.zip os) st0) out := by
        cases hal : m.i.allocs with
        | false =>
          obtain ⟨N, hN⟩ := hg.bnd
          refine ⟨max N B, fun k hke => ?_, fun hu => ?_, ?_⟩
          · subst hke
            exact .inr (Nat.le_max_right N B)
          · have := hN _ hu
            have := Nat.le_max_left N B
            simp only at *
            omega
          · unfold StepTo at *
            rw [stepOp_key (v' := v) hal]; exact hst
        | true =>
          have hdst := List.all_eq_true.1 k4 m (List.mem_of_getElem? hm)
          simp only [hal, Bool.not_true, Bool.false_or] at hdst
          obtain ⟨d, hd'⟩ := Option.isSome_iff_exists.1 hdst
          refine ⟨v, fun k hke => .inl (by rw [hke, hd']; exact ⟨rfl, rfl⟩), fun hu => ?_, hst⟩
          obtain ⟨_, j, m', g1, g2, g3⟩ : v = v ∧ ∃ i m_1, listed.getD i false = true ∧ ms[i]? = some m_1 ∧ m_1.dst = some (m.dst.getD 0) := by
            rcases hU _ hu with h2 | h2 | h2
            · exact absurd h2 (Nat.lt_irrefl _)
            · exact absurd h2 (by simp only; omega)
            · exact h2
          rw [hd'] at g3
          have := dst_unique ms k3 j i m' m d g2 hm g3 hd'
          subst this
          rw [hSi] at g1
          cases g1
      obtain ⟨v', hv1, hv2, hv3⟩ := hboth
      obtain ⟨s1, s2⟩ := step_sound hg hto hv2 hv3
      unfold wpOp
      simp only [ho]
      split
      · rename_i hw
        refine .inl (Runs.wp ((s1 hw).mono ?_))
        rintro u w' ⟨o', st', c', ⟨rfl, rfl⟩, hg', hU'⟩
        exact hnext hg' (fun k hk => (hU' k hk).imp id (hv1 k))
      · rename_i hw
        obtain ⟨o', st', c', ⟨rfl, rfl⟩, hg', hU'⟩ := s2 (by simpa using hw)
        exact hnext hg' (fun k hk => (hU' k hk).imp id (hv1 k))

/-- A region whose order is open, with the numbers of new names told. -/
theorem draw_at (hmix : E.P.follows .mixedOrders = true) {id : Nat} {ops : Array Oper} {soft : Bool} {ms : List MOp} (hops : toOps E.P E.nt ops soft ops.toList = some ms) (hok : drawOk ops ms = true) {K : St → Prop} {v B : Nat} (hvB : v < B)
    (hk : runD E.P (unordered ops) v ms [] st K) (hg : Good E st c a w) (hU : ∀ k : Key, c.U k → k.2 < v ∨ B ≤ k.2) {Q : Exit → Act → World → Prop} (hQ : ∀ st c a w, K st → Good E st c a w → (∀ k : Key, c.U k → k.2 ≤ v ∨ B ≤ k.2) → Q .normal a w) : (Code.region id ops true).wp E.P Q a w := by
  obtain ⟨hnil, os, hlen, hp, hK, hstep⟩ := runD_chain ms [] st hk
  refine wp_region_any hmix ?_
  refine draw_inv hops hok hvB hlen hnil (by simpa using hp) hstep (fun c a w hg hU => hQ _ c a w hK hg hU) ops.size _ a _ (by simp) (fun k o ho hS => ?_) ?_ ⟨c, ?_, fun k hu => ?_⟩
  · simp [Array.getD_eq_getD_getElem?] at hS
    have := hS
    rw [Array.getElem?_replicate] at this
    split at this <;> simp at this
  · have : ∀ n, cnt (fun i => (Array.replicate ops.size false).getD i false) n ≤ n := by
      intro n
      induction n with
      | zero => simp [cnt]
      | succ n ih => simp only [cnt]; split <;> omega
    exact this _
  · rw [stS_false _ _ _ (fun n _ => by simp [Array.getD_eq_getD_getElem?, Array.getElem?_replicate]; split <;> rfl)]
    exact hg.drew
  · exact (hU k hu).imp (fun h => h) .inl
theorem draw_sound (hmix : E.P.follows .mixedOrders = true) {id : Nat} {ops : Array Oper} {soft : Bool} {ms : List MOp} (hops : toOps E.P E.nt ops soft ops.toList = some ms) (hok : drawOk ops ms = true) {K : St → Prop}
    (hk : ∀ v, runD E.P (unordered ops) v ms [] st K) (hr : Rel E st a w) {Q : Exit → Act → World → Prop} (hQ : ∀ st a w, K st → Rel E st a w → Q .normal a w) : (Code.region id ops true).wp E.P Q a w := by
  obtain ⟨c, hg⟩ := hr
  obtain ⟨N, hN⟩ := hg.bnd
  exact draw_at hmix hops hok (Nat.lt_succ_self N) (hk N) hg (fun k hu => .inl (hN k hu)) (fun st c a w hk hg _ => hQ st a w hk ⟨c, hg⟩)
end
end Go.Proofs.YtjeegophpmpibaaGreatDoor.Pv

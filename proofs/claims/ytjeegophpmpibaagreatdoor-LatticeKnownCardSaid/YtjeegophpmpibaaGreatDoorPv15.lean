/- A step depends on what it reads alone. No condition. -/
import Derived.Test.YtjeegophpmpibaaGreatDoorPv14
set_option linter.unusedSimpArgs false
set_option linter.unusedVariables false
namespace Go.Proofs.YtjeegophpmpibaaGreatDoor.Pv
open Go Go.RowKit

def MI.isNil : MI → Bool
  | .nilcmp _ _ => true
  | _ => false

/-! What is read -/
mutual
theorem reify0_congr {hl hl' : Key → Option HE} : ∀ x : PV, (∀ k ∈ keys0 x, hl' k = hl k) → reify0 hl' x = reify0 hl x ∧ (ok0 hl' x ↔ ok0 hl x)
  | .own g _ _ _ _, h => by simp [reify0, ok0, h g (by simp [keys0])]
  | .agg cs, h => by have := reify0L_congr cs h; simp [reify0, ok0, this]
  | .tup cs, h => by have := reify0L_congr cs h; simp [reify0, ok0, this]
  | .fn f a b, h => by
    have h1 := reify0L_congr a (fun k hk => h k (by simp [keys0, hk]))
    have h2 := reify0L_congr b (fun k hk => h k (by simp [keys0, hk]))
    simp [reify0, ok0, h1, h2]
  | .iface t x, h => by have := reify0_congr x h; simp [reify0, ok0, this]
  | .undef, _ | .bool _, _ | .int _ _, _ | .str _, _ | .nilp, _ | .nilf, _ | .nili, _ | .vec _ _ _, _ | .ref _, _ | .ptr _ _ _ _, _ | .opt _ _, _ | .raw _, _ => by simp [reify0, ok0]
theorem reify0L_congr {hl hl' : Key → Option HE} : ∀ xs : List PV, (∀ k ∈ keys0L xs, hl' k = hl k) → reify0L hl' xs = reify0L hl xs ∧ (ok0L hl' xs ↔ ok0L hl xs)
  | [], _ => by simp [reify0L, ok0L]
  | x :: xs, h => by
    have h1 := reify0_congr x (fun k hk => h k (by simp [keys0L, hk]))
    have h2 := reify0L_congr xs (fun k hk => h k (by simp [keys0L, hk]))
    simp [reify0L, ok0L, h1, h2]
end
mutual
theorem reify_congr {hl hl' : Key → Option HE} : ∀ x : PV, (∀ k ∈ keysOf hl x, hl' k = hl k) → reify hl' x = reify hl x ∧ (okV hl' x ↔ okV hl x) ∧ keysOf hl' x = keysOf hl x
  | .own g _ _ _ _, h => by simp [reify, okV, keysOf, h g (by simp [keysOf])]
  | .ptr g _ i off, h => by
    have hg : hl' g = hl g := h g (by simp [keysOf])
    simp only [reify, okV, keysOf, hg]
    cases he : hl g with
    | none => simp
    | some e =>
      have := reify0L_congr (hl := hl) (hl' := hl') ((e.xs.getD i []).drop off) (fun k hk => h k (by simp only [keysOf, he]; exact List.mem_cons_of_mem _ hk))
      simp only [this, true_and, and_true]
  | .agg cs, h => by have := reifyL_congr cs h; simp [reify, okV, keysOf, this]
  | .tup cs, h => by have := reifyL_congr cs h; simp [reify, okV, keysOf, this]
  | .fn f a b, h => by
    have h1 := reifyL_congr a (fun k hk => h k (by simp [keysOf, hk]))
    have h2 := reifyL_congr b (fun k hk => h k (by simp [keysOf, hk]))
    simp [reify, okV, keysOf, h1, h2]
  | .iface t x, h => by have := reify_congr x h; simp [reify, okV, keysOf, this]
  | .undef, _ | .bool _, _ | .int _ _, _ | .str _, _ | .nilp, _ | .nilf, _ | .nili, _ | .vec _ _ _, _ | .ref _, _ | .opt _ _, _ | .raw _, _ => by simp [reify, okV, keysOf]
theorem reifyL_congr {hl hl' : Key → Option HE} : ∀ xs : List PV, (∀ k ∈ keysL hl xs, hl' k = hl k) → reifyL hl' xs = reifyL hl xs ∧ (okL hl' xs ↔ okL hl xs) ∧ keysL hl' xs = keysL hl xs
  | [], _ => by simp [reifyL, okL, keysL]
  | x :: xs, h => by
    have h1 := reify_congr x (fun k hk => h k (by simp [keysL, hk]))
    have h2 := reifyL_congr xs (fun k hk => h k (by simp [keysL, hk]))
    simp [reifyL, okL, keysL, h1, h2]
end
theorem freezeAll_congr {hl hl' : Key → Option HE} {ks : List Key} (h : ∀ k ∈ ks, hl' k = hl k) : freezeAll hl' ks = freezeAll hl ks :=
  List.map_congr_left fun k hk => by rw [h k hk]
theorem tags_mem {ks : List Key} {k : Key} (h : k ∈ ks) : k.1 ∈ tagsOf ks := List.mem_map.2 ⟨k, h, rfl⟩
theorem rowsOf_congr {hl hl' : Key → Option HE} {x : PV} {po : Prop} {xe : Nat} {rd : List Nat} {cx : List (List PV)} (hs : rowsOf hl x = some (po, xe, rd, cx)) (h : ∀ k : Key, k.1 ∈ rd → hl' k = hl k) : rowsOf hl' x = some (po, xe, rd, cx) := by
  unfold rowsOf at hs ⊢
  split at hs
  · exact hs
  · rename_i g esz off len full
    split at hs
    · rename_i e he
      simp only [Option.some.injEq, Prod.mk.injEq] at hs
      obtain ⟨rfl, rfl, rfl, rfl⟩ := hs
      simp only [h g (by simp), he]
    · cases hs
  · exact hs
  · cases hs

theorem opSem_congr {key : Key} {get get' : MO → PV} {hl hl' : Key → Option HE} {i : MI} {out : Out} (hs : opSem key get hl i = some out) (hg : ∀ m ∈ i.ops, get' m = get m) (hh : ∀ k : Key, k.1 ∈ out.rd → hl' k = hl k) :
    opSem key get' hl' i = some out := by
  cases i with
  | load a n ag =>
    have e1 := hg a (by simp [MI.ops])
    simp only [opSem, e1] at hs ⊢
    split at hs
    · exact hs
    · split at hs
      · rename_i g esz i off hga _ e he
        cases hs
        simp only [hh g (by simp), he]
      · cases hs
    · cases hs
  | store a x n =>
    have e1 := hg a (by simp [MI.ops])
    have e2 := hg x (by simp [MI.ops])
    simp only [opSem, e1, e2] at hs ⊢
    split at hs
    · rename_i g esz i off hga
      split at hs
      · rename_i e he
        split at hs
        · cases hs
        · rename_i hfz
          split at hs
          · rename_i hbx
            cases hs
            simp only [hh g (by simp), he, if_neg hfz, if_pos hbx]
          · rename_i hbx
            have hg' : hl' g = hl g := by cases hs; exact hh g (by simp)
            have hc := reify_congr (hl := hl) (hl' := hl') (get x) (fun k hk => by cases hs; exact hh k (List.mem_cons_of_mem _ (tags_mem hk)))
            have hf := freezeAll_congr (hl := hl) (hl' := hl') (ks := keysOf hl (get x)) (fun k hk => by cases hs; exact hh k (List.mem_cons_of_mem _ (tags_mem hk)))
            simp only [hg', he, if_neg hfz, if_neg hbx, hc.1, hc.2.1, hc.2.2, hf]
            exact hs
      · cases hs
    · cases hs
  | bslice esz z n ps =>
    have e1 : (ps.map fun p => get' p.2) = ps.map fun p => get p.2 := List.map_congr_left fun p hp => hg p.2 (by simp only [MI.ops]; exact List.mem_map.2 ⟨p, hp, rfl⟩)
    simp only [opSem, Option.some.injEq] at hs
    have hc := reifyL_congr (hl := hl) (hl' := hl') (ps.map fun p => get p.2) (fun k hk => by subst hs; exact hh k (tags_mem hk))
    have hf := freezeAll_congr (hl := hl) (hl' := hl') (ks := keysL hl (ps.map fun p => get p.2)) (fun k hk => by subst hs; exact hh k (tags_mem hk))
    have e2 : (ps.map fun p => (p.1, reify hl' (get' p.2))) = ps.map fun p => (p.1, reify hl (get p.2)) := by
      refine List.map_congr_left fun p hp => ?_
      have e3 := hg p.2 (by simp only [MI.ops]; exact List.mem_map.2 ⟨p, hp, rfl⟩)
      have := (reify_congr (hl := hl) (hl' := hl') (get p.2) (fun k hk => by subst hs; exact hh k (tags_mem (keysL_mem (List.mem_map.2 ⟨p, hp, rfl⟩) hk)))).1
      rw [e3, this]
    have e4 : okL hl' (ps.map fun p => get p.2) = okL hl (ps.map fun p => get p.2) := propext hc.2.1
    simp only [opSem]
    rw [e1, hc.2.2, e2, hf, e4, hs]
  | app s x esz =>
    have e1 := hg s (by simp [MI.ops])
    have e2 := hg x (by simp [MI.ops])
    simp only [opSem, e1, e2] at hs ⊢
    split at hs
    · rename_i po xe rd cx hro
      split at hs
      · rename_i esz' full xs hgs
        split at hs
        · rename_i hemp
          have := rowsOf_congr (hl' := hl') hro (fun k hk => by cases hs; exact hh k hk)
          simp only [this, hgs, if_pos hemp]
          exact hs
        · rename_i hemp
          split at hs
          · rename_i hfull
            have := rowsOf_congr (hl' := hl') hro (fun k hk => by cases hs; exact hh k hk)
            simp only [this, hgs, if_neg hemp, hfull, if_true]
            exact hs
          · cases hs
      · rename_i g esz' off len full hgs
        split at hs
        · rename_i e he
          split at hs
          · cases hs
          · rename_i hf
            have := rowsOf_congr (hl' := hl') hro (fun k hk => by cases hs; exact hh k (List.mem_cons_of_mem _ hk))
            have hg' : hl' g = hl g := by cases hs; exact hh g (by simp)
            simp only [this, hgs, hg', he, hf]
            exact hs
        · cases hs
      · cases hs
    · cases hs
  | slc x esz lo hi mx =>
    have e1 := hg x (by simp [MI.ops])
    have e2 : lo.map get' = lo.map get := by cases lo with | none => rfl | some m => simp [hg m (by simp [MI.ops])]
    have e3 : hi.map get' = hi.map get := by cases hi with | none => rfl | some m => simp [hg m (by simp [MI.ops])]
    have e4 : mxOf get' mx = mxOf get mx := by cases mx with | none => rfl | some m => simp [mxOf, hg m (by simp [MI.ops])]
    simp only [opSem, e1, e2, e3, e4] at hs ⊢
    exact hs
  | sslc x lo hi =>
    have e1 := hg x (by simp [MI.ops])
    have e2 : lo.map get' = lo.map get := by cases lo with | none => rfl | some m => simp [hg m (by simp [MI.ops])]
    have e3 : hi.map get' = hi.map get := by cases hi with | none => rfl | some m => simp [hg m (by simp [MI.ops])]
    simp only [opSem, e1, e2, e3] at hs ⊢
    exact hs
  | build z ps =>
    have e1 : (ps.map fun p => (p.1, p.2.1, get' p.2.2)) = ps.map fun p => (p.1, p.2.1, get p.2.2) := List.map_congr_left fun p hp => by rw [hg p.2.2 (by simp only [MI.ops]; exact List.mem_map.2 ⟨p, hp, rfl⟩)]
    simp only [opSem, e1] at hs ⊢
    exact hs
  | mkfn f fs cs =>
    have e1 : cs.map get' = cs.map get := List.map_congr_left fun m hm => hg m (by simp [MI.ops, hm])
    have e2 : fs.map get' = fs.map get := List.map_congr_left fun m hm => hg m (by simp [MI.ops, hm])
    simp only [opSem, e1, e2] at hs ⊢
    exact hs
  | cap x => have e1 := hg x (by simp [MI.ops]); simp only [opSem, e1] at hs ⊢; exact hs
  | mksl _ _ x y =>
    have e1 := hg x (by simp [MI.ops])
    have e2 := hg y (by simp [MI.ops])
    simp only [opSem, e1, e2] at hs ⊢
    exact hs
  | appz x y _ _ =>
    have e1 := hg x (by simp [MI.ops])
    have e2 := hg y (by simp [MI.ops])
    simp only [opSem, e1, e2] at hs ⊢
    exact hs
  | iaddrp x y _ _ =>
    have e1 := hg x (by simp [MI.ops])
    have e2 := hg y (by simp [MI.ops])
    simp only [opSem, e1, e2] at hs ⊢
    exact hs
  | b2s x =>
    have e1 := hg x (by simp [MI.ops])
    simp only [opSem, e1] at hs ⊢
    split at hs
    · cases hs
    · rename_i hns
      split at hs
      · rename_i po xe rd cx hro
        split at hs
        · rename_i bs hbs
          cases hs
          simp only [rowsOf_congr hro hh, hbs]
        · cases hs
      · cases hs
  | bad => simp [opSem] at hs
  | alloc z => exact hs
  | pick x y z =>
    have e1 := hg x (by simp [MI.ops])
    have e2 := hg y (by simp [MI.ops])
    have e3 := hg z (by simp [MI.ops])
    simp only [opSem, e1, e2, e3] at hs ⊢
    exact hs
  | bin _ _ x y =>
    have e1 := hg x (by simp [MI.ops])
    have e2 := hg y (by simp [MI.ops])
    simp only [opSem, e1, e2] at hs ⊢
    exact hs
  | iaddr x y _ =>
    have e1 := hg x (by simp [MI.ops])
    have e2 := hg y (by simp [MI.ops])
    simp only [opSem, e1, e2] at hs ⊢
    exact hs
  | sidx x y =>
    have e1 := hg x (by simp [MI.ops])
    have e2 := hg y (by simp [MI.ops])
    simp only [opSem, e1, e2] at hs ⊢
    exact hs
  | aidx x y _ _ _ =>
    have e1 := hg x (by simp [MI.ops])
    have e2 := hg y (by simp [MI.ops])
    simp only [opSem, e1, e2] at hs ⊢
    exact hs
  | minmax _ x y =>
    have e1 := hg x (by simp [MI.ops])
    have e2 := hg y (by simp [MI.ops])
    simp only [opSem, e1, e2] at hs ⊢
    exact hs
  | mv x => have e1 := hg x (by simp [MI.ops]); simp only [opSem, e1] at hs ⊢; exact hs
  | box x => have e1 := hg x (by simp [MI.ops]); simp only [opSem, e1] at hs ⊢; exact hs
  | nilck x => have e1 := hg x (by simp [MI.ops]); simp only [opSem, e1] at hs ⊢; exact hs
  | un _ x => have e1 := hg x (by simp [MI.ops]); simp only [opSem, e1] at hs ⊢; exact hs
  | conv _ x => have e1 := hg x (by simp [MI.ops]); simp only [opSem, e1] at hs ⊢; exact hs
  | faddr x _ => have e1 := hg x (by simp [MI.ops]); simp only [opSem, e1] at hs ⊢; exact hs
  | field x _ _ _ => have e1 := hg x (by simp [MI.ops]); simp only [opSem, e1] at hs ⊢; exact hs
  | ext x _ => have e1 := hg x (by simp [MI.ops]); simp only [opSem, e1] at hs ⊢; exact hs
  | len x => have e1 := hg x (by simp [MI.ops]); simp only [opSem, e1] at hs ⊢; exact hs
  | slen x => have e1 := hg x (by simp [MI.ops]); simp only [opSem, e1] at hs ⊢; exact hs
  | mkif _ x => have e1 := hg x (by simp [MI.ops]); simp only [opSem, e1] at hs ⊢; exact hs
  | call _ _ => simp [opSem] at hs
  | dcall _ _ => simp [opSem] at hs
  | nilcmp _ _ => simp [opSem] at hs

/-- One step, with what it leaves told. -/
theorem doOp_one {P : Program} {key : Key} {get : MO → PV} {hl : Key → Option HE} {i : MI} {K : Out → Prop} (hi : i.isNil = false) (hd : doOp P key get hl i K) : ∃ o, K o ∧ doOp P key get hl i fun o' => o' = o := by
  have hc : ∀ f args, doCall P key hl f args K → ∃ o, K o ∧ doCall P key hl f args fun o' => o' = o := fun f args hd => by
    rcases hd with ⟨r, h1, h2⟩ | ⟨e, xs, h1, h2⟩
    · exact ⟨_, h2, .inl ⟨r, h1, rfl⟩⟩
    · exact ⟨_, h2, .inr ⟨e, xs, h1, rfl⟩⟩
  unfold doOp at hd ⊢
  split at hd
  · exact hc _ _ hd
  · split at hd
    · exact hc _ _ hd
    · exact hd.elim
  · cases hi
  · split at hd
    · exact ⟨_, hd, rfl⟩
    · exact hd.elim
theorem doOp_congr {P : Program} {key : Key} {get get' : MO → PV} {hl hl' : Key → Option HE} {i : MI} {o : Out} (hi : i.isNil = false) (hd : doOp P key get hl i fun o' => o' = o) (hg : ∀ m ∈ i.ops, get' m = get m) (hh : ∀ k : Key, k.1 ∈ o.rd → hl' k = hl k) :
    doOp P key get' hl' i fun o' => o' = o := by
  have hc : ∀ f args, doCall P key hl f args (fun o' => o' = o) → doCall P key hl' f args fun o' => o' = o := fun f args hd => by
    rcases hd with ⟨r, h1, h2⟩ | ⟨e, xs, h1, h2⟩
    · have hk := reifyL_congr (hl := hl) (hl' := hl') args (fun k hk => by subst h2; exact hh k (tags_mem hk))
      have hf := freezeAll_congr (hl := hl) (hl' := hl') (ks := keysL hl args) (fun k hk => by subst h2; exact hh k (tags_mem hk))
      have e4 : okL hl' args = okL hl args := propext hk.2.1
      refine .inl ⟨r, by rw [hk.1]; exact h1, ?_⟩
      unfold callOut at h2 ⊢
      rw [hk.2.2, hf, e4]; exact h2
    · have hk := reifyL_congr (hl := hl) (hl' := hl') args (fun k hk => by subst h2; exact hh k (tags_mem hk))
      have hf := freezeAll_congr (hl := hl) (hl' := hl') (ks := keysL hl args) (fun k hk => by subst h2; exact hh k (tags_mem hk))
      have e4 : okL hl' args = okL hl args := propext hk.2.1
      refine .inr ⟨e, xs, by rw [hk.1]; exact h1, ?_⟩
      unfold callOutO at h2 ⊢
      rw [hk.2.2, hf, e4]; exact h2
  unfold doOp at hd ⊢
  split at hd
  · rename_i f args
    have e1 : args.map get' = args.map get := List.map_congr_left fun m hm => hg m (by simpa [MI.ops] using hm)
    simp only [e1]
    exact hc _ _ hd
  · rename_i f args
    have e1 : args.map get' = args.map get := List.map_congr_left fun m hm => hg m (by simp [MI.ops, hm])
    have e2 := hg f (by simp [MI.ops])
    simp only [e1, e2]
    split at hd
    · rename_i fid first caps hf
      exact hc _ _ hd
    · exact hd.elim
  · cases hi
  · split at hd
    · rename_i out hs
      subst hd
      simp only [opSem_congr hs hg hh]
    · exact hd.elim

/-- One step of M-code, with what it leaves told. -/
def StepTo (P : Program) (m : MOp) (v : Nat) (st : St) (o : Out) : Prop := stepOp P m v st fun o' st' => o' = o ∧ st' = st.put m.dst o
theorem skip_put (st : St) (d : Option Nat) : st.skip d = st.put d ⟨True, [], skipV, []⟩ := by cases d <;> rfl
theorem stepOp_one {P : Program} {m : MOp} {v : Nat} {st : St} {K : Out → St → Prop} (hi : m.i.isNil = false) (hs : stepOp P m v st K) : ∃ o, K o (st.put m.dst o) ∧ StepTo P m v st o := by
  unfold StepTo stepOp at *
  split at hs
  · rename_i hg
    obtain ⟨o, ⟨h1, h2⟩, h3⟩ := doOp_one hi hs
    exact ⟨o, h2, doOp_mono (fun o' ho => by subst ho; exact ⟨h1, rfl, rfl⟩) h3⟩
  · rename_i t want hg
    split at hs
    · exact hs.elim
    · rename_i gb hgb
      simp only [hgb]
      split at hs
      · rename_i hsoft
        obtain ⟨o, ⟨h1, h2, h3, h4⟩, h5⟩ := doOp_one hi hs
        exact ⟨_, h4, by rw [if_pos hsoft]; exact doOp_mono (fun o' ho => by subst ho; exact ⟨h1, h2, h3, rfl, rfl⟩) h5⟩
      · rename_i hsoft
        obtain ⟨h1, h2⟩ := hs
        cases gb with
        | true =>
          obtain ⟨o, ⟨h3, h4⟩, h5⟩ := doOp_one hi (h1 rfl)
          exact ⟨o, h4, by rw [if_neg hsoft]; exact ⟨fun _ => doOp_mono (fun o' ho => by subst ho; exact ⟨h3, rfl, rfl⟩) h5, fun h => by cases h⟩⟩
        | false => exact ⟨_, by rw [← skip_put]; exact h2 rfl, by rw [if_neg hsoft]; exact ⟨fun h => (by cases h), fun _ => ⟨rfl, skip_put _ _⟩⟩⟩

theorem optsOk_congr {gb : Bool} {get get' : MO → PV} : ∀ xs : List MO, (∀ m ∈ xs, get' m = get m) → optsOk gb get xs → optsOk gb get' xs
  | [], _, _ => trivial
  | x :: xs, h, ho => ⟨by rw [h x (by simp)]; exact ho.1, optsOk_congr xs (fun m hm => h m (by simp [hm])) ho.2⟩

theorem StepTo.congr {P : Program} {m : MOp} {v : Nat} {st st' : St} {o : Out} (hi : m.i.isNil = false) (hs : StepTo P m v st o) (hl : ∀ t ∈ m.looks, lk t st'.s = lk t st.s) (hh : ∀ k : Key, k.1 ∈ o.rd → hk k st'.h = hk k st.h) : StepTo P m v st' o := by
  have hget : ∀ x ∈ m.i.ops, st'.get x = st.get x := fun x hx => by
    cases x with
    | t n => exact hl n (List.mem_append_left _ (List.mem_filterMap.2 ⟨.t n, hx, rfl⟩))
    | k x => rfl
  unfold StepTo stepOp at *
  split at hs
  · rename_i hg
    obtain ⟨o1, ⟨h1, h2, _⟩, h3⟩ := doOp_one hi hs
    subst h2
    exact doOp_mono (fun o' ho => by subst ho; exact ⟨h1, rfl, rfl⟩) (doOp_congr hi h3 hget hh)
  · rename_i t want hg
    have hlt : lk t st'.s = lk t st.s := hl t (by simp [MOp.looks, hg])
    rw [hlt]
    split at hs
    · exact hs.elim
    · rename_i gb hgb
      simp only [hgb]
      split at hs
      · rename_i hsoft
        rw [if_pos hsoft]
        obtain ⟨o1, ⟨h1, h2, h3, h4, _⟩, h5⟩ := doOp_one hi hs
        subst h4
        refine doOp_mono (fun o' ho => ?_) (doOp_congr hi h5 (fun x hx => by unfold softGet; rw [hget x hx]) hh)
        subst ho
        refine ⟨h1, ?_, h3, rfl, rfl⟩
        unfold softOk at h2 ⊢
        split
        · trivial
        · rename_i hnp
          rw [if_neg hnp] at h2
          exact optsOk_congr _ hget h2
      · rename_i hsoft
        rw [if_neg hsoft]
        obtain ⟨h1, h2⟩ := hs
        refine ⟨fun hb => ?_, fun hb => ?_⟩
        · obtain ⟨o1, ⟨h3, h4, _⟩, h5⟩ := doOp_one hi (h1 hb)
          subst h4
          exact doOp_mono (fun o' ho => by subst ho; exact ⟨h3, rfl, rfl⟩) (doOp_congr hi h5 hget hh)
        · obtain ⟨h3, h4⟩ := h2 hb
          exact ⟨h3, by rw [← h3]; exact skip_put _ _⟩
end Go.Proofs.YtjeegophpmpibaaGreatDoor.Pv

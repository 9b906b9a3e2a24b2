/- Part 5. -/
import Derived.Test.YtbdogkmdanmojaaGreatDoorV4
import Derived.LoopN
set_option linter.unusedSimpArgs false
set_option linter.unusedVariables false
namespace Go.Proofs.YtbdogkmdanmojaaGreatDoor.Pv
open Go Go.RowKit
mutual
theorem leV_refl (hl : Key→Option HE) : ∀ x : PV,leV hl x x
 | .vec _ _ _=>by simp [leV]
 | .own _ _ _ _ _=>by simp [leV]
 | .agg cs=>by simp only [leV]; exact leL_refl hl cs
 | .undef | .bool _ | .int _ _ | .str _ | .nilp | .nilf | .nili | .ref _ | .ptr _ _ _ _ | .tup _ | .fn _ _ _ | .iface _ _ | .opt _ _ | .raw _ | .mapf _=>by simp [leV]
theorem leL_refl (hl : Key→Option HE) : ∀ xs : List PV,leL hl xs xs
 | []=>by simp [leL]
 | x::xs=>by simp only [leL]; exact ⟨leV_refl hl x,leL_refl hl xs⟩
end
theorem leR_refl (hl : Key→Option HE) : ∀ xs : List (List PV),leR hl xs xs
 | []=>by simp [leR]
 | x::xs=>by simp only [leR]; exact ⟨leL_refl hl x,leR_refl hl xs⟩
theorem leV_undef (hl : Key→Option HE) (x : PV) : leV hl x .undef:=by
 cases x <;> simp [leV]
section
variable {E : Env} {h : List (Key × Option HE)} {c : Ctx} {w : World}
mutual
theorem leV_rep (hg : HGood E h c w) (q : Bool) : ∀ (x y : PV) (v : Value),leV (fun k=>hk k h) x y→RepV w (if q then c else c.d) x v→RepV w (if q then c else c.d) y v
 | .vec e f xs,y,v,hl,hr=>by
   simp only [leV] at hl
   split at hl
   ·obtain ⟨rfl,rfl,hf⟩:=hl
    obtain ⟨a,cap,q1,q2,q3,q4,q5,q6⟩:=hr
    exact ⟨a,cap,q1,q2,q3,q4,fun h=>q5 (hf h),q6⟩
   ·trivial
   ·exact hl.elim
 | .own g e o l f,y,v,hl,hr=>by
   cases q with
   | false =>
     have hr' : RepV w c.d (.own g e o l f) v:=by simpa using hr
     exact hr'.1.elim
   | true =>
     simp only [if_true] at hr ⊢
     simp only [leV] at hl
     split at hl
     ·obtain ⟨rfl,rfl,rfl,rfl,hf⟩:=hl
      obtain ⟨g1,g2,g3,a,cap,q1,q2,q3,q4,q5,q6⟩:=hr
      exact ⟨g1,g2,g3,a,cap,q1,q2,q3,q4,fun h=>q5 (hf h),q6⟩
     ·rename_i e' f' xs'
      obtain ⟨hl,rfl,rfl⟩:=hl
      cases he : hk g h with
      | none=>rw [he] at hl; exact hl.elim
      | some en =>
        rw [he] at hl
        obtain ⟨h1,h2,h3,rfl⟩:=hl
        refine own_rep hg (c1:=c) (fun _ h=>h) he hr h2 h3 (fun b hb=>?_)
        obtain ⟨k,hk,e2,he2,ad,had,rfl⟩:=hb
        simp only [List.mem_singleton] at hk
        subst hk
        rw [he] at he2
        cases he2
        have hh:=hg.heap _ _ he
        obtain ⟨_,_,hh⟩:=hh
        rw [had] at hh
        exact hh.2.2.2.2 h1
     ·trivial
     ·exact hl.elim
 | .agg cs,y,v,hl,hr=>by
   simp only [leV] at hl
   split at hl
   ·obtain ⟨vs,e,h1,h2⟩:=hr
    exact ⟨vs,e,leL_rep hg q _ _ _ hl h1,h2⟩
   ·trivial
   ·exact hl.elim
 | .undef,y,v,hl,hr | .bool _,y,v,hl,hr | .int _ _,y,v,hl,hr | .str _,y,v,hl,hr | .nilp,y,v,hl,hr | .nilf,y,v,hl,hr | .nili,y,v,hl,hr | .ref _,y,v,hl,hr | .ptr _ _ _ _,y,v,hl,hr | .tup _,y,v,hl,hr | .fn _ _ _,y,v,hl,hr | .iface _ _,y,v,hl,hr | .opt _ _,y,v,hl,hr | .raw _,y,v,hl,hr | .mapf _,y,v,hl,hr=>by
   simp only [leV] at hl
   rcases hl with rfl | rfl
   ·trivial
   ·exact hr
theorem leL_rep (hg : HGood E h c w) (q : Bool) : ∀ (xs ys : List PV) (vs : List Value),leL (fun k=>hk k h) xs ys→RepL w (if q then c else c.d) xs vs→RepL w (if q then c else c.d) ys vs
 | [],ys,vs,hl,hr=>by
   simp only [leL] at hl
   subst hl; exact hr
 | x::xs,ys,vs,hl,hr=>by
   simp only [leL] at hl
   split at hl
   ·obtain ⟨u,us,rfl,h1,h2⟩:=hr
    exact ⟨u,us,rfl,leV_rep hg q _ _ _ hl.1 h1,leL_rep hg q _ _ _ hl.2 h2⟩
   ·exact hl.elim
end
theorem leAt_rep (hg : HGood E h c w) (q : Bool) (b : Nat) : ∀ (o : Nat) (xs ys : List PV),leL (fun k=>hk k h) xs ys→RepAt w (if q then c else c.d) b o xs→RepAt w (if q then c else c.d) b o ys∧ys.length=xs.length
 | o,[],ys,hl,hr=>by
   simp only [leL] at hl
   subst hl; exact ⟨hr,rfl⟩
 | o,x::xs,ys,hl,hr=>by
   simp only [leL] at hl
   split at hl
   ·obtain ⟨⟨v,h1,h2,h3⟩,h4⟩:=hr
    obtain ⟨k1,k2⟩:=leAt_rep hg q b (o+1) _ _ hl.2 h4
    exact ⟨⟨⟨v,h1,h2,leV_rep hg q _ _ _ hl.1 h3⟩,k1⟩,by simp [k2]⟩
   ·exact hl.elim
theorem leRows_rep (hg : HGood E h c w) (q : Bool) (esz b : Nat) : ∀ (o : Nat) (xs ys : List (List PV)),leR (fun k=>hk k h) xs ys→RepRows w (if q then c else c.d) esz b o xs→RepRows w (if q then c else c.d) esz b o ys∧ys.length=xs.length
 | o,[],ys,hl,hr=>by
   simp only [leR] at hl
   subst hl; exact ⟨hr,rfl⟩
 | o,x::xs,ys,hl,hr=>by
   simp only [leR] at hl
   split at hl
   ·obtain ⟨h1,h2,h3⟩:=hr
    obtain ⟨k1,k2⟩:=leAt_rep hg q b o _ _ hl.1 h2
    obtain ⟨k3,k4⟩:=leRows_rep hg q esz b (o+esz) _ _ hl.2 h3
    exact ⟨⟨k2.trans h1,k1,k3⟩,by simp [k4]⟩
   ·exact hl.elim
end
def subS (hl : Key→Option HE) : List (Nat × PV)→List (Nat × PV)→Prop
 | [],_=>True
 | (t,x)::l,s=>leV hl (lk t s) x∧subS hl l s
mutual
def kfV : PV→Bool
 | .own _ _ _ _ _ | .ptr _ _ _ _=>false
 | .agg cs=>kfL cs
 | .tup cs=>kfL cs
 | .fn _ a b=>kfL a&&kfL b
 | .iface _ x=>kfV x
 | .opt _ x=>kfV x
 | .undef | .bool _ | .int _ _ | .str _ | .nilp | .nilf | .nili | .vec _ _ _ | .ref _ | .raw _ | .mapf _=>true
def kfL : List PV→Bool
 | []=>true
 | x::xs=>kfV x&&kfL xs
end
def kfR : List (List PV)→Bool
 | []=>true
 | x::xs=>kfL x&&kfR xs
mutual
theorem kf_rep {w : World} {c : Ctx} : ∀ (x : PV) (v : Value),kfV x=true→RepV w c x v→RepV w c.d x v
 | .own _ _ _ _ _,_,h,_=>by simp [kfV] at h
 | .ptr _ _ _ _,_,h,_=>by simp [kfV] at h
 | .agg cs,v,h,hr=>by
   obtain ⟨vs,e,h1,h2⟩:=hr
   exact ⟨vs,e,kf_repL cs _ h h1,h2⟩
 | .tup cs,v,h,hr=>by
   obtain ⟨vs,e,h1⟩:=hr
   exact ⟨vs,e,kf_repL cs _ h h1⟩
 | .fn f a b,v,h,hr=>by
   simp only [kfV,Bool.and_eq_true] at h
   obtain ⟨x,y,e,h1,h2⟩:=hr
   exact ⟨x,y,e,kf_repL a _ h.1 h1,kf_repL b _ h.2 h2⟩
 | .iface t x,v,h,hr=>by
   obtain ⟨u,e,h1⟩:=hr
   exact ⟨u,e,kf_rep x u h h1⟩
 | .opt b x,v,h,hr=>⟨fun hb=>kf_rep x v h (hr.1 hb),hr.2⟩
 | .undef,_,_,hr | .bool _,_,_,hr | .int _ _,_,_,hr | .str _,_,_,hr | .nilp,_,_,hr | .nilf,_,_,hr | .nili,_,_,hr | .vec _ _ _,_,_,hr | .ref _,_,_,hr | .raw _,_,_,hr | .mapf _,_,_,hr=>hr
theorem kf_repL {w : World} {c : Ctx} : ∀ (xs : List PV) (vs : List Value),kfL xs=true→RepL w c xs vs→RepL w c.d xs vs
 | [],_,_,hr=>hr
 | x::xs,_,h,hr=>by
   simp only [kfL,Bool.and_eq_true] at h
   obtain ⟨u,us,e,h1,h2⟩:=hr
   exact ⟨u,us,e,kf_rep x u h.1 h1,kf_repL xs us h.2 h2⟩
end
theorem kf_repAt {w : World} {c : Ctx} {b : Nat} : ∀ (o : Nat) (xs : List PV),kfL xs=true→RepAt w c b o xs→RepAt w c.d b o xs
 | _,[],_,_=>trivial
 | o,x::xs,h,hr=>by
   simp only [kfL,Bool.and_eq_true] at h
   obtain ⟨⟨v,h1,h2,h3⟩,h4⟩:=hr
   exact ⟨⟨v,h1,h2,kf_rep x v h.1 h3⟩,kf_repAt (o+1) xs h.2 h4⟩
theorem kf_repRows {w : World} {c : Ctx} {n b : Nat} : ∀ (o : Nat) (xs : List (List PV)),kfR xs=true→RepRows w c n b o xs→RepRows w c.d n b o xs
 | _,[],_,_=>trivial
 | o,x::xs,h,hr=>by
   simp only [kfR,Bool.and_eq_true] at h
   obtain ⟨h1,h2,h3⟩:=hr
   exact ⟨h1,kf_repAt o x h.1 h2,kf_repRows (o+n) xs h.2 h3⟩
def bxOk (b b' : Bool) (xs : List (List PV)) : Prop:=b=b'∨b'=true∨kfR xs=true
theorem bxOk_rep {w : World} {c : Ctx} {n bl o : Nat} {b b' : Bool} {xs : List (List PV)} (h : bxOk b b' xs) (hr : RepRows w (if b then c else c.d) n bl o xs) : RepRows w (if b' then c else c.d) n bl o xs:=by
 rcases h with rfl | rfl | h
 ·exact hr
 ·simp only [if_true]; exact RepRows.und' hr
 ·cases b'
  ·cases b
   ·exact hr
   ·exact kf_repRows o xs h (by simpa using hr)
  ·simp only [if_true]; exact RepRows.und' hr
def leE (hl : Key→Option HE) : Option HE→Option HE→Prop
 | _,none=>True
 | some e,some e'=>e.esz=e'.esz∧e.fz=e'.fz∧bxOk e.bx e'.bx e'.xs∧leR hl e.xs e'.xs
 | none,some _=>False
def subH (hl : Key→Option HE) : List (Key × Option HE)→List (Key × Option HE)→Prop
 | [],_=>True
 | (k,e)::l,h=>leE hl (hk k h) e∧subH hl l h
theorem subS_lk {hl : Key→Option HE} {s : List (Nat × PV)} (t : Nat) : ∀ {s' : List (Nat × PV)},subS hl s' s→leV hl (lk t s) (lk t s')
 | [],_=>leV_undef hl _
 | (u,x)::l,h=>by
   simp only [lk]
   split
   ·rename_i e; subst e; exact h.1
   ·exact subS_lk t h.2
theorem subH_hk {hl : Key→Option HE} {s : List (Key × Option HE)} (t : Key) : ∀ {s' : List (Key × Option HE)},subH hl s' s→leE hl (hk t s) (hk t s')
 | [],_=>trivial
 | (u,x)::l,h=>by
   simp only [hk]
   split
   ·rename_i e; subst e; exact h.1
   ·exact subH_hk t h.2
def Le (E : Env) (st st' : St) : Prop:=∀ a w,Rel E st a w→Rel E st' a w
theorem Le.refl (E : Env) (st : St) : Le E st st:=fun _ _ h=>h
theorem Le.trans {E : Env} {s1 s2 s3 : St} (h : Le E s1 s2) (k : Le E s2 s3) : Le E s1 s3:=fun a w hr=>k a w (h a w hr)
theorem Good.ofH {E : Env} {st : St} {c : Ctx} {a : Act} {w : World} (hd : a.defers=dfsOf E.G) (hs : a.tmps.size=E.nt) (hh : HGood E st.h c w) (hl : ∀ t v,a.tmps[t]? = some v→RepV w c (lk t st.s) v) (hgh : ∀ p ∈ E.G,RepV w c p.1 p.2) : Good E st c a w :=
 ⟨hd,hs,hl,hh.heap,hh.fresh,hh.apart,hh.fz,hh.le,hh.bnd,hh.below,hgh⟩
theorem Le.of {E : Env} {s s' : List (Nat × PV)} {h h' : List (Key × Option HE)} (hs : subS (fun k=>hk k h) s' s∧subH (fun k=>hk k h) h' h) : Le E ⟨s,h⟩ ⟨s',h'⟩:=by
 rintro a w ⟨c,hg⟩
 have hh:=hg.hgood
 refine ⟨c,Good.ofH hg.defers hg.size ?_ (fun t v hv=>?_) hg.ghost⟩
 ·have look : ∀ k e',hk k h'=some e'→∃ e,hk k h=some e∧e.esz=e'.esz∧e.fz=e'.fz∧bxOk e.bx e'.bx e'.xs∧leR (fun k=>hk k h) e.xs e'.xs:=fun k e' he'=>by
     have:=subH_hk k hs.2
     rw [he'] at this
     cases he : hk k h with
     | none=>rw [he] at this; exact this.elim
     | some e=>rw [he] at this; exact ⟨e,rfl,this⟩
  refine ⟨fun k e' he'=>?_,fun k e' ad he' had=>?_,fun k k' e e' ad ad' he he'=>?_,hh.fz,hh.le,hh.bnd,hh.below⟩
  ·obtain ⟨e,he,h1,h2,h3,h4⟩:=look k e' he'
   obtain ⟨g1,g2,g3⟩:=hh.heap k e he
   refine ⟨g1,by rw [← h1]; exact g2,?_⟩
   cases hb : c.β k with
   | none =>
     rw [hb] at g3
     obtain ⟨g3,g4⟩:=g3
     rw [g3] at h4
     exact ⟨by simpa [leR] using h4,by rw [← h1]; exact g4⟩
   | some ad =>
     rw [hb] at g3
     obtain ⟨b1,⟨cs,el,fr,b2,b3,b4⟩,b5,b6⟩:=g3
     obtain ⟨k1,k2⟩:=leRows_rep hh e.bx _ _ _ _ _ h4 b5
     refine ⟨b1,⟨cs,el,fr,b2,by rw [k2,← h1]; exact b3,b4⟩,by rw [← h1]; exact bxOk_rep h3 k1,by rw [← h2]; exact b6⟩
  ·obtain ⟨e,he,_⟩:=look k e' he'
   exact hh.fresh k e ad he had
  ·obtain ⟨e0,he0,_⟩:=look k e he
   obtain ⟨e1,he1,_⟩:=look k' e' he'
   exact hh.apart k k' e0 e1 ad ad' he0 he1
 ·have:=leV_rep hh true _ _ v (subS_lk t hs.1) (by simpa using hg.slot t v hv)
  simpa using this
theorem Le.freeze {E : Env} {s : List (Nat × PV)} {h : List (Key × Option HE)} (ks : List Key) : Le E ⟨s,h⟩ ⟨s,freezeAll (fun k=>hk k h) ks++h⟩:=by
 rintro a w ⟨c,hg⟩
 exact ⟨_,Good.ofH hg.defers hg.size (hg.hgood.freeze ks) (fun t v hv=>RepV.mono _ _ (Mono.refl _ _) frz_le (hg.slot t v hv)) (fun p hp=>RepV.mono _ _ (Mono.refl _ _) frz_le (hg.ghost p hp))⟩
def own1 (t esz ks v : Nat) (st : St) : St:=⟨(t,.own (ks,v) esz 0 0 true)::st.s,((ks,v),some ⟨esz,[],false,false⟩)::st.h⟩
def owns : List (Nat × Nat × Nat)→Nat→St→St
 | [],_,st=>st
 | (t,esz,ks)::l,v,st=>owns l v (own1 t esz ks v st)
def ownable : List (Nat × Nat × Nat)→Nat→St→Prop
 | [],_,_=>True
 | (t,esz,ks)::l,v,st=>lk t st.s=.vec esz true []∧0 < esz∧(l.map (·.2.2)).contains ks=false∧ownable l v (own1 t esz ks v st)
theorem own1_good {E : Env} {st : St} {c : Ctx} {a : Act} {w : World} {t esz ks v : Nat} (hg : Good E st c a w) (ht : lk t st.s=.vec esz true []) (he : 0 < esz) (hk' : ¬ c.U (ks,v)) : Good E (own1 t esz ks v st) (newCtx c (ks,v) none esz) a w:=by
 have hle:=newCtx_le (a:=none) (n:=esz) hk'
 have hβ : ∀ k,k ≠ (ks,v)→(newCtx c (ks,v) none esz).β k=c.β k:=fun k hk=>if_neg hk
 have hβk : (newCtx c (ks,v) none esz).β (ks,v)=none:=if_pos rfl
 refine Good.ofH hg.defers hg.size ⟨fun k e hke=>?_,fun k e ad hke had=>?_,fun k k' e e' ad ad' hke hke' had had' hne=>?_,hg.fz,hg.le,newCtx_bnd hg.bnd,hg.below⟩ (fun u x hx=>?_) (fun p hp=>RepV.mono _ _ (Mono.refl _ _) hle (hg.ghost p hp))
 ·simp only [own1,hk_cons] at hke
  split at hke
  ·rename_i e1
   subst e1
   cases hke
   refine ⟨.inr rfl,(if_pos rfl).symm,?_⟩
   rw [hβk]
   exact ⟨rfl,he⟩
  ·exact (hg.heap k e hke).mono (Mono.refl _ _) hle (fun _ _=>Iff.rfl) (fun _ _=>rfl)
 ·simp only [own1,hk_cons] at hke
  split at hke
  ·rename_i e1
   subst e1
   rw [hβk] at had; cases had
  ·rename_i hne
   rw [hβ k hne] at had
   exact hg.fresh k e ad hke had
 ·simp only [own1,hk_cons] at hke hke'
  split at hke
  ·rename_i e1
   subst e1
   rw [hβk] at had; cases had
  ·rename_i h1
   split at hke'
   ·rename_i e1
    subst e1
    rw [hβk] at had'; cases had'
   ·rename_i h2
    rw [hβ k h1] at had
    rw [hβ k' h2] at had'
    exact hg.apart k k' e e' ad ad' hke hke' had had' hne
 ·simp only [own1,lk]
  have hr:=hg.slot u x hx
  split
  ·rename_i e1
   subst e1
   rw [ht] at hr
   obtain ⟨a',cap,q1,q2,q3,q4,q5,q6⟩:=hr
   have hcap : cap=0:=q5 rfl
   subst hcap
   refine ⟨.inr rfl,(if_pos rfl).symm,he,a',0,q1,by simp,by simp,by simp [LIM],by simp,?_⟩
   rw [hβk]
   exact ⟨rfl,rfl,rfl⟩
  ·exact RepV.mono _ _ (Mono.refl _ _) hle hr
theorem owns_good {E : Env} {a : Act} {w : World} {v : Nat} : ∀ (ts : List (Nat × Nat × Nat)) (st : St) (c : Ctx),Good E st c a w→ownable ts v st→(∀ t ∈ ts,¬ c.U (t.2.2,v))→∃ c',Good E (owns ts v st) c' a w
 | [],st,c,hg,_,_=>⟨c,hg⟩
 | (t,esz,ks)::l,st,c,hg,ho,hU=>by
   obtain ⟨h1,h2,h3,h4⟩:=ho
   refine owns_good l _ _ (own1_good hg h1 h2 (hU (t,esz,ks) (by simp))) h4 (fun x hx hu=>?_)
   rcases hu with hu | hu
   ·exact hU x (by simp [hx]) hu
   ·have : x.2.2=ks:=by simpa using congrArg Prod.fst hu
    rw [← this] at h3
    have hm : x.2.2 ∈ l.map (·.2.2):=List.mem_map.2 ⟨x,hx,rfl⟩
    simp only [List.contains_eq_mem,decide_eq_false_iff_not] at h3
    exact h3 hm
theorem owns_rel {E : Env} {st : St} {a : Act} {w : World} {ts : List (Nat × Nat × Nat)} (hr : Rel E st a w) (ho : ∀ v,ownable ts v st) : ∃ v,Rel E (owns ts v st) a w:=by
 obtain ⟨c,hg⟩:=hr
 obtain ⟨N,hN⟩:=hg.bnd
 exact ⟨N,owns_good ts st c hg (ho N) (fun t _ hu=>Nat.lt_irrefl _ (hN _ hu))⟩
def LQ (E : Env) {ι : Type} (S : ι→St) (J : ι→Prop) (μ : ι→Nat) (i : ι) (ks : List KF) (Q : Ex→St→Prop) : Ex→St→Prop
 | .normal,st'=>∃ j,J j∧μ j < μ i∧Le E st' (S j)
 | e,st'=>XE E e st' ks Q
theorem toMC_loop {P : Program} {nt : Nat} {c : Code} {m : MC} (h : toMC P nt c=some (.loop m)) : ∃ x,c=.loop x∧toMC P nt x=some m:=by
 cases c with
 | loop x =>
   simp only [toMC,Option.map_eq_some_iff,MC.loop.injEq,exists_eq_right] at h
   exact ⟨x,rfl,h⟩
 | region id ops d =>
   simp only [toMC] at h
   split at h
   ·split at h
    ·split at h <;> cases h
    ·cases h
   ·cases h
 | seq x y=>simp only [toMC] at h; split at h <;> cases h
 | cond q x y=>simp only [toMC] at h; split at h <;> cases h
 | block id x=>simp [toMC] at h
 | scope x=>simp [toMC] at h
 | _=>simp [toMC] at h
theorem XLoop.own {E : Env} (hmix : E.P.follows .mixedOrders=true) {body : MC} {st : St} {ks : List KF} {Q : Ex→St→Prop} {ι : Type} (S : ι→St) (J : ι→Prop) (μ : ι→Nat) (ts : List (Nat × Nat × Nat)) (ho : ∀ v,ownable ts v st) (h0 : ∀ v,∃ i0,J i0∧Le E (owns ts v st) (S i0))
 (hr : ∀ i,J i→XC E body (S i) [] (LQ E S J μ i ks Q)) : XLoop E (.loop body) st ks Q:=by
 intro c hm a w hrel
 obtain ⟨x,rfl,hm1⟩:=toMC_loop hm
 obtain ⟨v,hrel'⟩:=owns_rel hrel ho
 obtain ⟨i0,hJ0,hle0⟩:=h0 v
 refine wp_loop_ghost (fun n a w=>∃ i,J i∧μ i=n∧Rel E (S i) a w) (μ i0) ⟨i0,hJ0,rfl,hle0 a w hrel'⟩ ?_
 rintro n a w ⟨i,hJ,rfl,hri⟩
 refine wp_mono (exec_sound hmix x body (S i) a w _ hm1 hri (hr i hJ)) ?_
 rintro e a' w' ⟨ex,st',rfl,hq,hr'⟩
 cases ex with
 | normal =>
   obtain ⟨j,h1,h2,h3⟩:=hq
   exact ⟨μ j,h2,j,h1,rfl,h3 a' w' hr'⟩
 | exit id=>exact ⟨.exit id,st',rfl,hq,hr'⟩
 | goto l=>exact ⟨.goto l,st',rfl,hq,hr'⟩
 | ret=>exact ⟨.ret,st',rfl,hq,hr'⟩
theorem XLoop.intro {E : Env} (hmix : E.P.follows .mixedOrders=true) {body : MC} {st : St} {ks : List KF} {Q : Ex→St→Prop} {ι : Type} (S : ι→St) (J : ι→Prop) (μ : ι→Nat) (i0 : ι) (h0 : J i0) (hst : Le E st (S i0))
 (hr : ∀ i,J i→XC E body (S i) [] (LQ E S J μ i ks Q)) : XLoop E (.loop body) st ks Q :=
 XLoop.own hmix S J μ [] (fun _=>trivial) (fun _=>⟨i0,h0,hst⟩) hr
theorem XCall.ret {E : Env} {f : FuncId} {args : List PV} {d : Option Nat} {ms : List MOp} {st : St} {ks : List KF} {Q : Ex→St→Prop} {r : PV} (hr : Ret E.P f (reifyL (fun k=>hk k st.h) args) r)
 (h : (callOut (fun k=>hk k st.h) args r).pre∧XR E ms (st.put d (callOut (fun k=>hk k st.h) args r)) ks Q) : XCall E f args d ms st ks Q:=.inl fun v _=>.inl ⟨r,hr,h⟩
theorem XCall.retO {E : Env} {f : FuncId} {args : List PV} {d : Option Nat} {ms : List MOp} {st : St} {ks : List KF} {Q : Ex→St→Prop} {esz : Nat} {xs : List (List PV)} (hr : RetO E.P f (reifyL (fun k=>hk k st.h) args) esz xs)
 (h : ∀ v,E.V≤v→(callOutO (fun k=>hk k st.h) args (d.getD 0,v) esz xs).pre∧XR E ms (st.put d (callOutO (fun k=>hk k st.h) args (d.getD 0,v) esz xs)) ks Q) : XCall E f args d ms st ks Q:=.inl fun v hv=>.inr ⟨esz,xs,hr,h v hv⟩
theorem XDCall.ret {E : Env} {un : List (Nat × Nat)} {v : Nat} {acc : List (List Nat × List Nat)} {f : FuncId} {args : List PV} {d : Option Nat} {ms : List MOp} {st : St} {ks : List KF} {Q : Ex→St→Prop} {r : PV} (hr : Ret E.P f (reifyL (fun k=>hk k st.h) args) r)
 (h : (callOut (fun k=>hk k st.h) args r).pre∧XD E un v (acc++[((callOut (fun k=>hk k st.h) args r).rd,tagsHu (callOut (fun k=>hk k st.h) args r).hu)]) ms (st.put d (callOut (fun k=>hk k st.h) args r)) ks Q) : XDCall E un v acc f args d ms st ks Q:=.inl ⟨r,hr,h⟩
theorem XDCall.retO {E : Env} {un : List (Nat × Nat)} {v : Nat} {acc : List (List Nat × List Nat)} {f : FuncId} {args : List PV} {d : Option Nat} {ms : List MOp} {st : St} {ks : List KF} {Q : Ex→St→Prop} {esz : Nat} {xs : List (List PV)} (hr : RetO E.P f (reifyL (fun k=>hk k st.h) args) esz xs)
 (h : (callOutO (fun k=>hk k st.h) args (d.getD 0,v) esz xs).pre∧XD E un v (acc++[((callOutO (fun k=>hk k st.h) args (d.getD 0,v) esz xs).rd,tagsHu (callOutO (fun k=>hk k st.h) args (d.getD 0,v) esz xs).hu)]) ms (st.put d (callOutO (fun k=>hk k st.h) args (d.getD 0,v) esz xs)) ks Q) : XDCall E un v acc f args d ms st ks Q:=.inr ⟨esz,xs,hr,h⟩
def rvOf (P : Program) (nt : Nat) : ResultVar→Option RV
 | .tmp t=>if t < nt then some (.tmp t) else none
 | .cell a t=>if a < nt∧okT P t=true then some (.cell a t (szOf P t) (aggOf P t)) else none
def rvsOf (P : Program) (nt : Nat) : List ResultVar→Option (List RV)
 | []=>some []
 | r::rs=>match rvOf P nt r,rvsOf P nt rs with
   | some x,some xs=>some (x::xs)
   | _,_=>none
def mfOf (P : Program) (f : Nat) : Option (MC × Nat × List RV):=match P.funcs[f]? with
 | some fn=>if callable P f then (match fn.body with
   | some c=>match toMC P fn.ntmps c,rvsOf P fn.ntmps fn.results.toList with
     | some m,some rs=>some (m,fn.ntmps,rs)
     | _,_=>none
   | none=>none) else none
 | none=>none
theorem mfOf_spec {P : Program} {f : Nat} {m : MC} {nt : Nat} {rs : List RV} (h : mfOf P f=some (m,nt,rs)) : ∃ fn c,P.funcs[f]? = some fn∧callable P f=true∧fn.body=some c∧nt=fn.ntmps∧toMC P nt c=some m∧rvsOf P nt fn.results.toList=some rs:=by
 unfold mfOf at h
 split at h
 ·rename_i fn hf
  split at h
  ·rename_i hc
   split at h
   ·rename_i c hb
    split at h
    ·rename_i m' rs' h1 h2
     cases h
     exact ⟨fn,c,hf,hc,hb,rfl,h1,h2⟩
    ·cases h
   ·cases h
  ·cases h
 ·cases h
def readRes (tmps : Array Value) : ResultVar→Sem Value
 | .tmp t=>pure (tmps.getD t undef)
 | .cell x t=>do loadVar t (← asAddr (tmps.getD x undef))
theorem results_eq (fn : Func) (tmps : Array Value) : results fn tmps=(do
 let vs ← fn.results.mapM (readRes tmps)
 pure (if h : vs.size=1 then vs[0] else .tuple vs)):=by
 unfold results
 congr 2
theorem results_run {E : Env} {st : St} {c : Ctx} {a : Act} {w : World} (hg : Good E st c a w) : ∀ (l : List ResultVar) (rs : List RV),rvsOf E.P E.nt l=some rs→resOk st rs →
 ∃ vs : List Value,(l.mapM (readRes a.tmps)).run E.P w=.ok vs w∧RepL w c (rs.map (resOne st)) vs
 | [],rs,h,_=>by simp [rvsOf] at h; subst h; exact ⟨[],rfl,rfl⟩
 | r::l,rs,h,hok=>by
   simp only [rvsOf] at h
   split at h
   ·rename_i x xs h1 h2
    cases h
    have hrest : resOk st xs:=by cases x with
     | tmp t=>exact hok
     | cell=>exact hok.2
    obtain ⟨us,u1,u2⟩:=results_run hg l xs h2 hrest
    rw [List.mapM_cons]
    cases r with
    | tmp t =>
      simp only [rvOf] at h1
      split at h1
      ·rename_i ht
       cases h1
       obtain ⟨v,hv,hr⟩:=hg.tmp ht
       refine ⟨v::us,?_,v,us,rfl,hr,u2⟩
       have hv' : a.tmps.getD t undef=v:=by simp [Array.getD_eq_getD_getElem?,hv]
       simp only [readRes,Sem.run_bind,Sem.run_pure,Result.andThen_ok,u1,hv']
      ·cases h1
    | cell x t =>
      simp only [rvOf] at h1
      split at h1
      ·rename_i hx
       cases h1
       obtain ⟨hx,ht⟩:=hx
       obtain ⟨v,hv,hr⟩:=hg.tmp hx
       have hok1:=hok.1
       have hv' : a.tmps.getD x undef=v:=by simp [Array.getD_eq_getD_getElem?,hv]
       obtain ⟨inf,d,i1,i2,i3⟩:=info_okT (P:=E.P) (t:=t) (by rw [ht]; simp)
       cases hl : lk x st.s with
       | ptr g esz i off =>
         rw [hl] at hok1 hr
         simp only at hok1
         cases he : hk g st.h with
         | none=>rw [he] at hok1; exact hok1.elim
         | some e =>
           rw [he] at hok1
           obtain ⟨p1,p2,p3⟩:=hok1
           obtain ⟨g1,g2,ad,g3,g4⟩:=hr
           have hh:=hg.hgood.heap g e he
           obtain ⟨ad',q1,q2,q3,q4,q5⟩:=hh.block (by omega)
           rw [g3] at q1
           obtain rfl:=Option.some.inj q1
           obtain ⟨_,r2⟩:=RepRows.get i (e.xs.getD i []) q4.und' (by simp [List.getD,List.getElem?_eq_getElem p1])
           have r3:=RepAt.drop off r2
           obtain ⟨y,s1,s2,_⟩:=load_at i1 i2 r3 (by rw [← i3]; simp only [List.length_drop]; omega) (by rw [← i3]; exact p3)
           have e1 : esz=e.esz:=by rw [g2,hh.2.1]
           refine ⟨y::us,?_,y,us,rfl,?_,u2⟩
           ·have hr1 : (readRes a.tmps (.cell x t)).run E.P w=.ok y w:=by
               simp only [readRes,Sem.run_bind,hv',g4,asAddr,Sem.run_pure,Result.andThen_ok,e1,s1]
            simp only [Sem.run_bind,hr1,Sem.run_pure,Result.andThen_ok,u1]
           ·simp only [resOne,hl,he]
            rw [i3]; exact s2
       | _=>rw [hl] at hok1; exact hok1.elim
      ·cases h1
   ·cases h
theorem resAll_run {E : Env} {st : St} {c : Ctx} {a : Act} {w : World} (hg : Good E st c a w) {fn : Func} {rs : List RV} (h : rvsOf E.P E.nt fn.results.toList=some rs) (hok : resOk st rs) : ∃ v,(results fn a.tmps).run E.P w=.ok v w∧RepV w c (resAll st rs) v:=by
 obtain ⟨vs,h1,h2⟩:=results_run hg _ rs h hok
 have hrun : ∀ v : Value,(if h : vs.toArray.size=1 then vs.toArray[0] else .tuple vs.toArray)=v→(results fn a.tmps).run E.P w=.ok v w:=fun v hv=>by
  rw [results_eq,Array.mapM_eq_mapM_toList]
  simp only [Sem.run_bind,Sem.run_map]
  rw [h1]
  simp only [Result.andThen_ok,Sem.run_pure]
  rw [hv]
 match rs,h2 with
 | [],h2 =>
   have : vs=[]:=h2
   subst this
   exact ⟨.tuple #[],hrun _ rfl,#[],rfl,rfl⟩
 | [x],h2 =>
   obtain ⟨u,us,rfl,k1,k2⟩:=h2
   have : us=[]:=k2
   subst this
   exact ⟨u,hrun _ rfl,k1⟩
 | x::y::l,h2 =>
   have hlen : vs.length=l.length+2:=by rw [h2.length]; simp
   exact ⟨.tuple vs.toArray,hrun _ (by rw [dif_neg]; simp; omega),vs.toArray,rfl,h2⟩
theorem lk_init (t : Nat) : ∀ (args : List PV) (n : Nat),lk t ((args.zipIdx n).map fun p=>(p.2,p.1))=if n≤t then (args[t - n]?).getD .undef else .undef
 | [],n=>by simp [lk]
 | x::args,n=>by
   simp only [List.zipIdx_cons,List.map_cons,lk]
   rw [lk_init t args (n+1)]
   by_cases h : t=n
   ·subst h; simp
   ·rw [if_neg h]
    by_cases hn : n+1≤t
    ·rw [if_pos hn,if_pos (by omega),show t - n=(t - (n+1))+1 by omega,List.getElem?_cons_succ]
    ·rw [if_neg hn]
     rw [if_neg (by omega)]
theorem init_good {P : Program} {w : World} {F : Nat→Prop} {nt : Nat} {args : List PV} {vs : List Value} (hG : GOk P w F) (hF : ∀ b,F b→b < w.heap.size) (hr : RepL w (dctx F) args vs) (hn : args.length≤nt) :
 Good ⟨P,w,F,nt,[],0,hG⟩ (St.init args) (dctx F) { tmps:=vs.toArray++Array.replicate (nt - vs.toArray.size) undef,defers:=[] } w:=by
 have hl:=hr.length
 refine Good.ofH rfl (by simp; omega) ⟨fun k e he=>by simp [St.init,hk] at he,fun k e ad he=>by simp [St.init,hk] at he,fun k k' e e' ad ad' he=>by simp [St.init,hk] at he,fun b hb=>⟨hF b hb,.inl hb⟩,fun b hb=>hb,⟨0,fun _ h=>h.elim⟩,Bel.refl _ _⟩ (fun t v hv=>?_) (fun p hp=>by simp at hp)
 simp only [St.init]
 rw [lk_init]
 simp only [Nat.zero_le,if_true,Nat.sub_zero]
 cases hx : args[t]? with
 | none=>trivial
 | some x =>
   obtain ⟨u,hu,hru⟩:=RepL.get t x hr hx
   have hlt : t < vs.length:=(List.getElem?_eq_some_iff.1 hu).1
   rw [Array.getElem?_append_left (by simpa using hlt)] at hv
   simp only [List.getElem?_toArray] at hv
   rw [hu] at hv
   cases hv
   exact hru
theorem Ret.of_wp {P : Program} {f nt : Nat} {m : MC} {rs : List RV} {args : List PV} {r : PV} (hm : mfOf P f=some (m,nt,rs)) (hn : args.length≤nt) (h : ∀ c,toMC P nt c=some m→∀ w0 F0 (hG : GOk P w0 F0) a,Good ⟨P,w0,F0,nt,[],0,hG⟩ (St.init args) (dctx F0) a w0→c.wp P (endQ ⟨P,w0,F0,nt,[],0,hG⟩ (retIs rs r)) a w0) : Ret P f args r:=by
 obtain ⟨fn,c,hf,hc,hb,rfl,htm,hrs⟩:=mfOf_spec hm
 refine ⟨hc,fun w F vs hG hF hr=>calls_of_wp hf hb ?_⟩
 refine wp_mono (h c htm w F hG _ (init_good hG hF hr hn)) ?_
 rintro e a' w' ⟨ex,st',rfl,hq,c',hg⟩
 have key : ∀ q : resOk st' rs∧okV (fun k=>hk k st'.h) (resAll st' rs)∧reify (fun k=>hk k st'.h) (resAll st' rs)=r,a'.defers=[]∧∃ v,(results fn a'.tmps).run P w'=.ok v w' ∧
  ∃ v' F',Ending.returned v=.returned v'∧Bel w.heap.size w w'∧(∀ b,F b→F' b)∧(∀ b,F' b→b < w'.heap.size∧(F b∨w.heap.size≤b))∧RepV w' (dctx F') r v':=by
  rintro ⟨q1,q2,rfl⟩
  obtain ⟨v,k1,k2⟩:=resAll_run hg hrs q1
  have hfz:=hg.hgood.freeze (keysOf (fun k=>hk k st'.h) (resAll st' rs))
  have:=reify_rep hg.hgood (c1:=frzCtx st'.h c' (keysOf (fun k=>hk k st'.h) (resAll st' rs))) (fun _ hb=>.inl hb) _ _ k2 q2 (fun _ hb=>.inr hb)
  exact ⟨hg.defers,v,k1,v,_,rfl,hg.below,hfz.le,hfz.fz,RepV.mono _ _ (Mono.refl _ _) (le_dctx (fun _ h=>h)) this⟩
 cases ex with
 | normal=>exact key hq
 | ret=>exact key hq
 | exit id=>exact hq.elim
 | goto l=>exact hq.elim
theorem Ret.of {P : Program} {f nt : Nat} {m : MC} {rs : List RV} {args : List PV} {r : PV} (hmix : P.follows .mixedOrders=true) (hm : mfOf P f=some (m.erase,nt,rs)) (hn : args.length≤nt) (h : ∀ w0 F0 hG,XC ⟨P,w0,F0,nt,[],0,hG⟩ m (St.init args) [] (retIs rs r)) : Ret P f args r :=
 Ret.of_wp hm hn fun c htm w F hG a hg=>exec_sound (E:=⟨P,w,F,nt,[],0,hG⟩) hmix c m (St.init args) a w _ htm ⟨_,hg⟩ (h w F hG)
theorem RetO.of_wp {P : Program} {f nt : Nat} {m : MC} {rs : List RV} {args : List PV} {esz : Nat} {xs : List (List PV)} (hm : mfOf P f=some (m,nt,rs)) (hn : args.length≤nt) (h : ∀ c,toMC P nt c=some m→∀ w0 F0 (hG : GOk P w0 F0) a,Good ⟨P,w0,F0,nt,[],0,hG⟩ (St.init args) (dctx F0) a w0→c.wp P (endQ ⟨P,w0,F0,nt,[],0,hG⟩ (retOwn rs esz xs)) a w0) : RetO P f args esz xs:=by
 obtain ⟨fn,c,hf,hc,hb,rfl,htm,hrs⟩:=mfOf_spec hm
 refine ⟨hc,fun w F vs hG hF hr=>calls_of_wp hf hb ?_⟩
 refine wp_mono (h c htm w F hG _ (init_good hG hF hr hn)) ?_
 rintro e a' w' ⟨ex,st',rfl,hq,c',hg⟩
 have key : ∀ q : resOk st' rs∧ownIs (fun k=>hk k st'.h) esz xs (resAll st' rs),a'.defers=[]∧∃ v,(results fn a'.tmps).run P w'=.ok v w' ∧
  ∃ v' F' a,Ending.returned v=.returned v'∧Bel w.heap.size w w'∧(∀ b,F b→F' b)∧(∀ b,F' b→b < w'.heap.size∧(F b∨w.heap.size≤b)) ∧
    RepV w' (octx a esz F') (.own (0,0) esz 0 xs.length false) v'∧HRep w' (octx a esz F') (0,0) ⟨esz,xs,false,false⟩∧∀ ad,a=some ad→w.heap.size≤ad.block:=by
  rintro ⟨q1,q2⟩
  obtain ⟨v,k1,k2⟩:=resAll_run hg hrs q1
  refine ⟨hg.defers,v,k1,v,c'.Fz,?_⟩
  cases hx : resAll st' rs with
  | own g esz' off len full =>
    rw [hx] at q2 k2
    obtain ⟨rfl,q2⟩:=q2
    cases he : hk g st'.h with
    | none=>simp only [he] at q2
    | some e =>
      simp only [he] at q2
      obtain ⟨p1,p2,p3,p4⟩:=q2
      obtain ⟨g1,g2,g3,a,cap,s1,s2,s3,s4,s5,s6⟩:=k2
      have hxl : xs.length=len:=by rw [← p4]; simp; omega
      have hh:=hg.hgood.heap g e he
      have ee : esz'=e.esz:=by rw [g2,hh.2.1]
      obtain ⟨_,_,hb'⟩:=hh
      cases hβ : c'.β g with
      | none =>
        rw [hβ] at s6 hb'
        obtain ⟨rfl,rfl,rfl⟩:=s6
        have hxs : xs=[]:=List.eq_nil_of_length_eq_zero hxl
        subst hxs
        exact ⟨none,rfl,hg.below,hg.le,hg.fz,⟨rfl,rfl,g3,a,0,s1,by simp,s3,s4,by simp,⟨rfl,rfl,rfl⟩⟩,⟨rfl,rfl,rfl,g3⟩,fun ad h=>by cases h⟩
      | some ad =>
        rw [hβ] at s6 hb'
        obtain ⟨b1,⟨cs,el,fr,b2,b3,b4⟩,b5,b6⟩:=hb'
        have hfr:=hg.hgood.fresh g e ad he hβ
        rw [p2] at b5
        have b5' : RepRows w' c'.d e.esz ad.block ad.off e.xs:=by simpa using b5
        have hrows : RepRows w' (octx (some ⟨ad.block,ad.off+off * e.esz,none⟩) e.esz c'.Fz).d e.esz ad.block (ad.off+off * e.esz) xs:=by
         rw [← p4]
         exact RepRows.take _ (RepRows.drop _ (RepRows.mono _ _ rfl _ _ (c:=c'.d) (Mono.refl _ _) (Ctx.Le.d (fun _ h=>h)) b5'))
        have hle : off * e.esz+xs.length * e.esz≤e.xs.length * e.esz:=by
         rw [← Nat.add_mul]; exact Nat.mul_le_mul_right _ (by omega)
        refine ⟨some ⟨ad.block,ad.off+off * e.esz,none⟩,rfl,hg.below,hg.le,hg.fz,⟨rfl,rfl,g3,a,cap,by rw [hxl]; exact s1,by rw [hxl]; exact s2,s3,by rw [hxl]; exact s4,by simp,?_⟩,⟨rfl,rfl,rfl,⟨cs,el,fr,b2,?_,b4⟩,?_,?_⟩,fun ad' h=>by cases h; exact hfr.1⟩
        ·rcases s6 with s6 | ⟨s6,cs',el',fr',s7,s8⟩
         ·exact .inl s6
         ·refine .inr ⟨by rw [s6,ee]; simp,cs',el',fr',s7,?_⟩
          rw [ee] at s8 ⊢
          rw [Nat.add_mul] at s8 ⊢
          simp only [Nat.zero_mul,Nat.zero_add]
          omega
        ·rw [ee]
         simp only
         omega
        ·rw [ee]
         simpa [octx] using hrows
        ·simp only [Bool.false_eq_true,iff_false]
         intro hf
         have:=b6.1 hf
         rw [p1] at this
         cases this
  | vec esz' full ys =>
    rw [hx] at q2 k2
    obtain ⟨rfl,rfl,rfl,rfl,g3⟩:=q2
    obtain ⟨a,cap,s1,s2,s3,s4,s5,s6⟩:=k2
    have : cap=0:=s5 rfl
    subst this
    exact ⟨none,rfl,hg.below,hg.le,hg.fz,⟨rfl,rfl,g3,a,0,s1,by simp,s3,s4,by simp,⟨rfl,rfl,rfl⟩⟩,⟨rfl,rfl,rfl,g3⟩,fun ad h=>by cases h⟩
  | _=>rw [hx] at q2; exact q2.elim
 cases ex with
 | normal=>exact key hq
 | ret=>exact key hq
 | exit id=>exact hq.elim
 | goto l=>exact hq.elim
theorem RetO.of {P : Program} {f nt : Nat} {m : MC} {rs : List RV} {args : List PV} {esz : Nat} {xs : List (List PV)} (hmix : P.follows .mixedOrders=true) (hm : mfOf P f=some (m.erase,nt,rs)) (hn : args.length≤nt) (h : ∀ w0 F0 hG,XC ⟨P,w0,F0,nt,[],0,hG⟩ m (St.init args) [] (retOwn rs esz xs)) : RetO P f args esz xs :=
 RetO.of_wp hm hn fun c htm w F hG a hg=>exec_sound (E:=⟨P,w,F,nt,[],0,hG⟩) hmix c m (St.init args) a w _ htm ⟨_,hg⟩ (h w F hG)
end Go.Proofs.YtbdogkmdanmojaaGreatDoor.Pv
namespace Go.Proofs.YtbdogkmdanmojaaGreatDoor.Pv
open Go Go.RowKit
def putS (d : Option Nat) (r : PV) (s : List (Nat × PV)) : List (Nat × PV):=match d with | some t=>(t,r)::s | none=>s
def retIn (rs : List RV) (K : PV→List (Key × Option HE)→Prop) : Ex→St→Prop
 | .normal,st | .ret,st=>resOk st rs∧K (resAll st rs) st.h
 | _,_=>False
def ghostOf (E : Env) (s : List (Nat × PV)) (a : Act) : List (PV × Value):=((List.range E.nt).map (fun t=>(lk t s,a.tmps.getD t undef))++E.G).filter fun p=>!isU p.1
theorem dfs_ghost (E : Env) (s : List (Nat × PV)) (a : Act) : dfsOf (ghostOf E s a)=[]:=dfs_none _ fun p hp=>by simpa using (List.mem_filter.1 hp).2
theorem inl_begin {V : Nat} {E : Env} {s : List (Nat × PV)} {h : List (Key × Option HE)} {a : Act} {c : Ctx} {w : World} {args : List PV} {vs : List Value} {nt : Nat} (hg : Good E ⟨s,h⟩ c a w) (hr : RepL w c args vs) (hn : args.length≤nt) :
 Good ⟨E.P,E.w0,E.F0,nt,ghostOf E s a,V,E.glob⟩ ⟨(St.init args).s,h⟩ c { tmps:=vs.toArray++Array.replicate (nt - vs.toArray.size) undef,defers:=[] } w:=by
 have hl:=hr.length
 have hh:=hg.hgood
 refine Good.ofH (dfs_ghost E s a).symm (by simp; omega) ⟨hh.heap,hh.fresh,hh.apart,hh.fz,hh.le,hh.bnd,hh.below⟩ (fun t v hv=>?_) (fun p hp=>?_)
 ·simp only [St.init]
  rw [lk_init]
  simp only [Nat.zero_le,if_true,Nat.sub_zero]
  cases hx : args[t]? with
  | none=>trivial
  | some x =>
    obtain ⟨u,hu,hru⟩:=RepL.get t x hr hx
    have hlt : t < vs.length:=(List.getElem?_eq_some_iff.1 hu).1
    rw [Array.getElem?_append_left (by simpa using hlt)] at hv
    simp only [List.getElem?_toArray] at hv
    rw [hu] at hv
    cases hv
    exact hru
 ·rcases List.mem_append.1 (List.mem_filter.1 hp).1 with hp | hp
  ·obtain ⟨t,ht,rfl⟩:=List.mem_map.1 hp
   obtain ⟨v,hv,hr'⟩:=hg.tmp (List.mem_range.1 ht)
   have : a.tmps.getD t undef=v:=by simp [Array.getD_eq_getD_getElem?,hv]
   simp only [this]
   exact hr'
  ·exact hg.ghost p hp
theorem inl_end {V : Nat} {E : Env} {s : List (Nat × PV)} {h : List (Key × Option HE)} {a : Act} {c : Ctx} {w : World} {nt : Nat} (hg : Good E ⟨s,h⟩ c a w) {st' : St} {c' : Ctx} {a' : Act} {w' : World} (hg' : Good ⟨E.P,E.w0,E.F0,nt,ghostOf E s a,V,E.glob⟩ st' c' a' w') {d : Option Nat} {r : PV} {v : Value} (hr : RepV w' c' r v) :
 Good E ⟨putS d r s,st'.h⟩ c' (a.put d v) w':=by
 have hh:=hg'.hgood
 refine Good.ofH (by cases d <;> exact hg.defers) (by cases d <;> simp [Act.put,hg.size]) ⟨hh.heap,hh.fresh,hh.apart,hh.fz,hh.le,hh.bnd,hh.below⟩ (fun t u hu=>?_) (fun p hp=>by
  cases hu : isU p.1 with
  | true =>
    obtain ⟨x,v⟩:=p
    cases x <;> simp [isU] at hu
    trivial
  | false=>exact hg'.ghost p (List.mem_filter.2 ⟨List.mem_append_right _ hp,by simp [hu]⟩))
 have old : ∀ t u,a.tmps[t]? = some u→RepV w' c' (lk t s) u:=fun t u hu=>by
  have ht : t < E.nt:=by rw [← hg.size]; exact (Array.getElem?_eq_some_iff.1 hu).1
  have e : a.tmps.getD t undef=u:=by simp [Array.getD_eq_getD_getElem?,hu]
  cases hU : isU (lk t s) with
  | true =>
    generalize lk t s=x at hU ⊢
    cases x <;> simp [isU] at hU
    trivial
  | false =>
    have:=hg'.ghost (lk t s,a.tmps.getD t undef) (List.mem_filter.2 ⟨List.mem_append_left _ (List.mem_map.2 ⟨t,List.mem_range.2 ht,rfl⟩),by simp [hU]⟩)
    simpa only [e] using this
 cases d with
 | none=>exact old t u hu
 | some d =>
   simp only [Act.put,Array.getElem?_setIfInBounds] at hu
   simp only [putS,lk]
   split at hu
   ·rename_i e
    subst e
    rw [if_pos rfl]
    split at hu
    ·cases hu; exact hr
    ·cases hu
   ·rename_i e
    rw [if_neg (fun x=>e x.symm)]
    exact old t u hu
theorem InlCall.of {E : Env} {f nt : Nat} {m : MC} {rs : List RV} {args : List PV} {d : Option Nat} {st : St} {K : St→Prop} (hmix : E.P.follows .mixedOrders=true) (hm : mfOf E.P f=some (m.erase,nt,rs)) (hn : args.length≤nt)
 (h : ∀ G,XC ⟨E.P,E.w0,E.F0,nt,G,E.V,E.glob⟩ m ⟨(St.init args).s,st.h⟩ [] (retIn rs fun r h'=>K ⟨putS d r st.s,h'⟩)) : InlCall E f args d st K:=by
 obtain ⟨fn,c0,hf,hc,hb,rfl,htm,hrs⟩:=mfOf_spec hm
 refine ⟨hc,fun a c w vs hg hr=>calls_of_wp hf hb ?_⟩
 obtain ⟨s,hp⟩:=st
 refine wp_mono (exec_sound (E:=⟨E.P,E.w0,E.F0,fn.ntmps,ghostOf E s a,E.V,E.glob⟩) hmix c0 m _ _ w _ htm ⟨c,inl_begin hg hr hn⟩ (h _)) ?_
 rintro e a' w' ⟨ex,st',rfl,hq,c',hg'⟩
 have key : ∀ q : resOk st' rs∧K ⟨putS d (resAll st' rs) s,st'.h⟩,a'.defers=[]∧∃ v,(results fn a'.tmps).run E.P w'=.ok v w'∧∃ v',Ending.returned v=.returned v'∧∃ st'' c'',K st''∧Good E st'' c'' (a.put d v') w':=by
  rintro ⟨q1,q2⟩
  obtain ⟨v,k1,k2⟩:=resAll_run hg' hrs q1
  exact ⟨hg'.defers.trans (dfs_ghost E s a),v,k1,v,rfl,_,c',q2,inl_end hg hg' k2⟩
 cases ex with
 | normal=>exact key hq
 | ret=>exact key hq
 | exit id=>exact hq.elim
 | goto l=>exact hq.elim
theorem XCall.inl {E : Env} {f nt : Nat} {m : MC} {rs : List RV} {args : List PV} {d : Option Nat} {ms : List MOp} {st : St} {ks : List KF} {Q : Ex→St→Prop} (hmix : E.P.follows .mixedOrders=true) (hm : mfOf E.P f=some (m.erase,nt,rs)) (hn : args.length≤nt)
 (h : ∀ G,XC ⟨E.P,E.w0,E.F0,nt,G,E.V,E.glob⟩ m ⟨(St.init args).s,st.h⟩ [] (retIn rs fun r h'=>XR E ms ⟨putS d r st.s,h'⟩ ks Q)) : XCall E f args d ms st ks Q:=.inr (InlCall.of hmix hm hn h)
mutual
def ok0B (hl : Key→Option HE) : PV→Bool
 | .own g _ off len _=>match hl g with | some e=>!e.bx&&decide (off+len≤e.xs.length) | none=>false
 | .agg cs=>ok0LB hl cs
 | .tup cs=>ok0LB hl cs
 | .fn _ a b=>ok0LB hl a&&ok0LB hl b
 | .iface _ x=>ok0B hl x
 | _=>true
def ok0LB (hl : Key→Option HE) : List PV→Bool
 | []=>true
 | x::xs=>ok0B hl x&&ok0LB hl xs
end
mutual
def okVB (hl : Key→Option HE) : PV→Bool
 | .own g _ off len _=>match hl g with | some e=>!e.bx&&decide (off+len≤e.xs.length) | none=>false
 | .ptr g _ i off=>match hl g with | some e=>decide (i < e.xs.length)&&ok0LB hl ((e.xs.getD i []).drop off) | none=>false
 | .agg cs=>okLB hl cs
 | .tup cs=>okLB hl cs
 | .fn _ a b=>okLB hl a&&okLB hl b
 | .iface _ x=>okVB hl x
 | _=>true
def okLB (hl : Key→Option HE) : List PV→Bool
 | []=>true
 | x::xs=>okVB hl x&&okLB hl xs
end
mutual
theorem ok0B_ok {hl : Key→Option HE} : ∀ x : PV,ok0B hl x=true→ok0 hl x
 | .own g _ off len _,h=>by
   simp only [ok0B] at h
   simp only [ok0]
   split at h <;> simp_all
 | .agg cs,h=>ok0LB_ok cs h
 | .tup cs,h=>ok0LB_ok cs h
 | .fn _ a b,h=>by
   simp only [ok0B,Bool.and_eq_true] at h
   exact ⟨ok0LB_ok a h.1,ok0LB_ok b h.2⟩
 | .iface _ x,h=>ok0B_ok x h
 | .undef,_ | .bool _,_ | .int _ _,_ | .str _,_ | .nilp,_ | .nilf,_ | .nili,_ | .vec _ _ _,_ | .ref _,_ | .ptr _ _ _ _,_ | .opt _ _,_ | .raw _,_ | .mapf _,_=>by simp [ok0]
theorem ok0LB_ok {hl : Key→Option HE} : ∀ xs : List PV,ok0LB hl xs=true→ok0L hl xs
 | [],_=>trivial
 | x::xs,h=>by
   simp only [ok0LB,Bool.and_eq_true] at h
   exact ⟨ok0B_ok x h.1,ok0LB_ok xs h.2⟩
end
mutual
theorem okVB_ok {hl : Key→Option HE} : ∀ x : PV,okVB hl x=true→okV hl x
 | .own g _ off len _,h=>by
   simp only [okVB] at h
   simp only [okV]
   split at h <;> simp_all
 | .ptr g _ i off,h=>by
   simp only [okVB] at h
   simp only [okV]
   split at h
   ·rename_i e he
    simp only [he,Bool.and_eq_true,decide_eq_true_eq] at h ⊢
    exact ⟨h.1,ok0LB_ok _ h.2⟩
   ·cases h
 | .agg cs,h=>okLB_ok cs h
 | .tup cs,h=>okLB_ok cs h
 | .fn _ a b,h=>by
   simp only [okVB,Bool.and_eq_true] at h
   exact ⟨okLB_ok a h.1,okLB_ok b h.2⟩
 | .iface _ x,h=>okVB_ok x h
 | .undef,_ | .bool _,_ | .int _ _,_ | .str _,_ | .nilp,_ | .nilf,_ | .nili,_ | .vec _ _ _,_ | .ref _,_ | .opt _ _,_ | .raw _,_ | .mapf _,_=>by simp [okV]
theorem okLB_ok {hl : Key→Option HE} : ∀ xs : List PV,okLB hl xs=true→okL hl xs
 | [],_=>trivial
 | x::xs,h=>by
   simp only [okLB,Bool.and_eq_true] at h
   exact ⟨okVB_ok x h.1,okLB_ok xs h.2⟩
end
def fillOkB : Nat→List (Nat × Nat × PV)→Bool
 | _,[]=>true
 | n,(off,sz,x)::ps=>decide ((cells x).length=sz)&&decide (off+sz≤n)&&storable x&&fillOkB n ps
theorem fillOkB_ok {n : Nat} : ∀ ps,fillOkB n ps=true→fillOk n ps
 | [],_=>trivial
 | (off,sz,x)::ps,h=>by
   simp only [fillOkB,Bool.and_eq_true,decide_eq_true_eq] at h
   exact ⟨⟨h.1.1.1,h.1.1.2,h.1.2⟩,fillOkB_ok ps h.2⟩
def fillROkB (esz : Nat) : Nat→List (Nat × PV)→Bool
 | _,[]=>true
 | n,(i,x)::ps=>decide ((cells x).length=esz)&&decide (i < n)&&storable x&&fillROkB esz n ps
theorem fillROkB_ok {esz n : Nat} : ∀ ps,fillROkB esz n ps=true→fillROk esz n ps
 | [],_=>trivial
 | (i,x)::ps,h=>by
   simp only [fillROkB,Bool.and_eq_true,decide_eq_true_eq] at h
   exact ⟨⟨h.1.1.1,h.1.1.2,h.1.2⟩,fillROkB_ok ps h.2⟩
def binB (op : BinOp) : PV→PV→Bool
 | .int _ _,.int _ b=>match op with
   | .shl | .shr=>decide (0≤b)
   | .quo | .rem=>decide (b ≠ 0)
   | _=>true
 | .str a,.str b=>match op with
   | .add=>decide (a.size+b.size≤LIM)
   | _=>true
 | _,_=>true
theorem binB_ok {op : BinOp} {cls : Nat} {x y : PV} {p : Prop} {r : PV} (hs : binSem op cls x y=some (p,r)) (h : binB op x y=true) : p:=by
 cases x <;> cases y <;> first | (simp [binSem] at hs; done) | skip
 case bool.bool a b =>
   simp only [binSem] at hs
   split at hs
   ·cases op <;> simp at hs <;> exact hs.1
   ·cases hs
 case int.int k a k' b =>
   cases op <;> simp only [binSem,ne_eq,Option.some.injEq,Prod.mk.injEq,reduceCtorEq] at hs <;> simp only [binB,decide_eq_true_eq] at h
   all_goals first
     | (obtain ⟨rfl,_⟩:=hs; first | trivial | exact h)
     | (split at hs
        ·cases hs
        ·simp only [Option.some.injEq,Prod.mk.injEq,reduceCtorEq] at hs
         obtain ⟨rfl,_⟩:=hs
         first | trivial | exact h)
     | (split at hs <;> simp at hs <;> (obtain ⟨rfl,_⟩:=hs; first | trivial | exact h))
 case str.str a b =>
   cases op <;> simp only [binSem,Option.some.injEq,Prod.mk.injEq,reduceCtorEq] at hs <;> simp only [binB,decide_eq_true_eq] at h
   all_goals (obtain ⟨rfl,_⟩:=hs; first | trivial | exact h)
end Go.Proofs.YtbdogkmdanmojaaGreatDoor.Pv
namespace Go.Proofs.YtbdogkmdanmojaaGreatDoor.Pv
open Go Go.RowKit
theorem Good.leH {E : Env} {s : List (Nat × PV)} {h h' : List (Key × Option HE)} {c : Ctx} {a : Act} {w : World} (hg : Good E ⟨s,h⟩ c a w) (hs : ∀ k,leE (fun k=>hk k h) (hk k h) (hk k h')) : Good E ⟨s,h'⟩ c a w:=by
 have hh:=hg.hgood
 have look : ∀ k e',hk k h'=some e'→∃ e,hk k h=some e∧e.esz=e'.esz∧e.fz=e'.fz∧bxOk e.bx e'.bx e'.xs∧leR (fun k=>hk k h) e.xs e'.xs:=fun k e' he'=>by
  have:=hs k
  rw [he'] at this
  cases he : hk k h with
  | none=>rw [he] at this; exact this.elim
  | some e=>rw [he] at this; exact ⟨e,rfl,this⟩
 refine Good.ofH hg.defers hg.size ⟨fun k e' he'=>?_,fun k e' ad he' had=>?_,fun k k' e e' ad ad' he he'=>?_,hh.fz,hh.le,hh.bnd,hh.below⟩ hg.slot hg.ghost
 ·obtain ⟨e,he,h1,h2,h3,h4⟩:=look k e' he'
  obtain ⟨g1,g2,g3⟩:=hh.heap k e he
  refine ⟨g1,by rw [← h1]; exact g2,?_⟩
  cases hb : c.β k with
  | none =>
    rw [hb] at g3
    obtain ⟨g3,g4⟩:=g3
    rw [g3] at h4
    exact ⟨by simpa [leR] using h4,by rw [← h1]; exact g4⟩
  | some ad =>
    rw [hb] at g3
    obtain ⟨b1,⟨cs,el,fr,b2,b3,b4⟩,b5,b6⟩:=g3
    obtain ⟨k1,k2⟩:=leRows_rep hh e.bx _ _ _ _ _ h4 b5
    refine ⟨b1,⟨cs,el,fr,b2,by rw [k2,← h1]; exact b3,b4⟩,by rw [← h1]; exact bxOk_rep h3 k1,by rw [← h2]; exact b6⟩
 ·obtain ⟨e,he,_⟩:=look k e' he'
  exact hh.fresh k e ad he had
 ·obtain ⟨e0,he0,_⟩:=look k e he
  obtain ⟨e1,he1,_⟩:=look k' e' he'
  exact hh.apart k k' e0 e1 ad ad' he0 he1
def RetH (P : Program) (f : FuncId) (args : List PV) (h : List (Key × Option HE)) (r : PV) (h' : List (Key × Option HE)) : Prop :=
 callable P f=true∧∀ (E : Env) (a : Act) (c : Ctx) (w : World) (vs : List Value) (d : Option Nat) (s : List (Nat × PV)),E.P=P→Good E ⟨s,h⟩ c a w→RepL w c args vs →
  Calls P f vs.toArray w fun e w'=>∃ v,e=.returned v∧∃ c',Good E ⟨putS d r s,h'⟩ c' (a.put d v) w'
theorem RetH.of {P : Program} {f nt : Nat} {m : MC} {rs : List RV} {args : List PV} {h : List (Key × Option HE)} {r : PV} {h' : List (Key × Option HE)} (hmix : P.follows .mixedOrders=true) (hm : mfOf P f=some (m.erase,nt,rs)) (hn : args.length≤nt)
 (hold : ∀ k e,hk k h'=some e→∃ e0,hk k h=some e0)
 (hx : ∀ E : Env,E.P=P→(∀ k e,hk k h=some e→k.2 < E.V)→XC E m ⟨(St.init args).s,h⟩ [] (retIn rs fun r' h''=>r'=r∧∀ k,k.2 < E.V→leE (fun k=>hk k h'') (hk k h'') (hk k h'))) : RetH P f args h r h':=by
 obtain ⟨fn,c0,hf,hc,hb,rfl,htm,hrs⟩:=mfOf_spec hm
 refine ⟨hc,fun E a c w vs d s hP hg hr=>?_⟩
 subst hP
 obtain ⟨N,hN⟩:=hg.bnd
 have hV : ∀ k e,hk k h=some e→k.2 < N:=fun k e he=>hN k (hg.heap k e he).1
 refine calls_of_wp hf hb ?_
 refine wp_mono (exec_sound (E:=⟨E.P,E.w0,E.F0,fn.ntmps,ghostOf E s a,N,E.glob⟩) hmix c0 m _ _ w _ htm ⟨c,inl_begin hg hr hn⟩ (hx _ rfl hV)) ?_
 rintro e a' w' ⟨ex,st',rfl,hq,c',hg'⟩
 have key : ∀ q : resOk st' rs∧resAll st' rs=r∧∀ k,k.2 < N→leE (fun k=>hk k st'.h) (hk k st'.h) (hk k h'),a'.defers=[]∧∃ v,(results fn a'.tmps).run E.P w'=.ok v w'∧∃ v',Ending.returned v=.returned v'∧∃ c'',Good E ⟨putS d r s,h'⟩ c'' (a.put d v') w':=by
  rintro ⟨q1,rfl,q2⟩
  obtain ⟨v,k1,k2⟩:=resAll_run hg' hrs q1
  refine ⟨hg'.defers.trans (dfs_ghost E s a),v,k1,v,rfl,c',(inl_end hg hg' k2).leH fun k=>?_⟩
  cases he : hk k h' with
  | none=>cases hk k st'.h <;> trivial
  | some e =>
    obtain ⟨e0,he0⟩:=hold k e he
    have:=q2 k (hV k e0 he0)
    rw [he] at this
    exact this
 cases ex with
 | normal=>exact key hq
 | ret=>exact key hq
 | exit id=>exact hq.elim
 | goto l=>exact hq.elim
section
variable {E : Env} {m : MC} {st : St} {ks : List KF} {Q : Ex→St→Prop}
theorem XCut.go (hmix : E.P.follows .mixedOrders=true) (h : XC E m st ks Q) : XCut E m st ks Q:=fun c hm a w hr=>exec_sound hmix c m st a w _ hm hr h
end
inductive Un where
 | z
 | s (n : Un)
def RQ (E : Env) (R : St→Prop) (ks : List KF) (Q : Ex→St→Prop) : Ex→St→Prop
 | .normal,st'=>R st'
 | e,st'=>XE E e st' ks Q
def XRnd (E : Env) (body : MC) (ks : List KF) (Q : Ex→St→Prop) : Un→St→Prop
 | .z,_=>False
 | .s n,st=>XC E body st [] (RQ E (XRnd E body ks Q n) ks Q)
section
variable {E : Env} {body : MC} {st st' : St} {ks : List KF} {Q : Ex→St→Prop} {R : St→Prop} {n : Un}
theorem RQ_normal : RQ E R ks Q .normal st'=R st':=propext Iff.rfl
theorem RQ_exit {id : Nat} : RQ E R ks Q (.exit id) st'=XE E (.exit id) st' ks Q:=propext Iff.rfl
theorem RQ_ret : RQ E R ks Q .ret st'=XE E .ret st' ks Q:=propext Iff.rfl
theorem RQ_goto {id : Nat} : RQ E R ks Q (.goto id) st'=XE E (.goto id) st' ks Q:=propext Iff.rfl
theorem XRnd_s : XRnd E body ks Q (.s n) st=XC E body st [] (RQ E (XRnd E body ks Q n) ks Q):=propext Iff.rfl
@[congr] theorem XRnd_congr (h : st=st') : XRnd E body ks Q n st=XRnd E body ks Q n st':=by rw [h]
def Un.nat : Un→Nat
 | .z=>0
 | .s n=>n.nat+1
theorem XLoop.rnd (hmix : E.P.follows .mixedOrders=true) (n : Un) (h : XRnd E body ks Q n st) : XLoop E (.loop body) st ks Q:=by
 intro c hm a w hrel
 obtain ⟨x,rfl,hm1⟩:=toMC_loop hm
 refine wp_loop_rounds n.nat ?_
 induction n generalizing st a w with
 | z=>exact h.elim
 | s n ih =>
   refine wp_mono (exec_sound hmix x body st a w _ hm1 hrel h) ?_
   rintro e a' w' ⟨ex,st',rfl,hq,hr'⟩
   cases ex with
   | normal=>exact ih hq a' w' hr'
   | exit id=>exact ⟨.exit id,st',rfl,hq,hr'⟩
   | goto l=>exact ⟨.goto l,st',rfl,hq,hr'⟩
   | ret=>exact ⟨.ret,st',rfl,hq,hr'⟩
end
end Go.Proofs.YtbdogkmdanmojaaGreatDoor.Pv

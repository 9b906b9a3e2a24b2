/- Part 7. -/
import Derived.Test.YtnlfgnelfooljaaGreatDoorT6
import GoSem.Op.String
import Derived.Lib.ValidU
import Derived.Test.YtnlfgnelfooljaaGreatDoorProg
import Derived.WalkKit
import Derived.WalkMore
import Derived.Below
import Derived.Shelf.Unicode.ValidAny
import Derived.Shelf.Strconv.Itoa3
import Derived.Shelf.Strings.Split
import Derived.Shelf.Strings.OnBuilder
import Derived.Shelf.Strings.BuilderK
import Derived.Shelf.Strings.BuilderRune
set_option linter.unusedSimpArgs false
set_option linter.unusedVariables false
namespace Go.Proofs.YtnlfgnelfooljaaGreatDoor.Pv
open Go Go.RowKit
def renK (k1 k2 k : Key) : Key:=if k=k1 then k2 else k
mutual
def renV (k1 k2 : Key) : PV→PV
 | .own g e o l f=>.own (renK k1 k2 g) e o l f
 | .ptr g e i o=>.ptr (renK k1 k2 g) e i o
 | .agg cs=>.agg (renL k1 k2 cs)
 | .tup cs=>.tup (renL k1 k2 cs)
 | .fn f a b=>.fn f (renL k1 k2 a) (renL k1 k2 b)
 | .iface t x=>.iface t (renV k1 k2 x)
 | .opt b x=>.opt b (renV k1 k2 x)
 | .undef=>.undef
 | .bool b=>.bool b
 | .int k n=>.int k n
 | .str s=>.str s
 | .nilp=>.nilp
 | .nilf=>.nilf
 | .nili=>.nili
 | .vec e f xs=>.vec e f xs
 | .ref cs=>.ref cs
 | .raw u=>.raw u
 | .mapf es=>.mapf es
def renL (k1 k2 : Key) : List PV→List PV
 | []=>[]
 | x::xs=>renV k1 k2 x::renL k1 k2 xs
end
def renR (k1 k2 : Key) : List (List PV)→List (List PV)
 | []=>[]
 | x::xs=>renL k1 k2 x::renR k1 k2 xs
def renE (k1 k2 : Key) : Option HE→Option HE
 | none=>none
 | some ⟨esz,xs,fz,true⟩=>some ⟨esz,renR k1 k2 xs,fz,true⟩
 | some ⟨esz,xs,fz,false⟩=>some ⟨esz,xs,fz,false⟩
def renS (k1 k2 : Key) : List (Nat × PV)→List (Nat × PV)
 | []=>[]
 | (t,x)::s=>(t,renV k1 k2 x)::renS k1 k2 s
def renH (k1 k2 : Key) : List (Key × Option HE)→List (Key × Option HE)
 | []=>[]
 | (k,e)::h=>(renK k1 k2 k,renE k1 k2 e)::renH k1 k2 h
def renSt (k1 k2 : Key) (st : St) : St:=⟨renS k1 k2 st.s,renH k1 k2 st.h⟩
theorem renL_length (k1 k2 : Key) : ∀ xs : List PV,(renL k1 k2 xs).length=xs.length
 | []=>rfl
 | x::xs=>by simp [renL,renL_length k1 k2 xs]
theorem renR_length (k1 k2 : Key) : ∀ xs : List (List PV),(renR k1 k2 xs).length=xs.length
 | []=>rfl
 | x::xs=>by simp [renR,renR_length k1 k2 xs]
def renCtx (c : Ctx) (k1 k2 : Key) : Ctx:=⟨fun k=>if k=k2 then c.β k1 else c.β k,fun k=>if k=k2 then c.es k1 else c.es k,fun k=>c.U k∨(k=k2∧c.U k1),c.Fz⟩
section
variable {c : Ctx} {k1 k2 : Key} {w : World}
theorem ren_le (h2 : ¬ c.U k2) : c.Le (renCtx c k1 k2) :=
 ⟨fun g h=>.inl h,fun g h=>if_neg fun (e : g=k2)=>h2 (e ▸ h),fun g h=>if_neg fun (e : g=k2)=>h2 (e ▸ h),fun _ h=>h⟩
theorem ren_key (h2 : ¬ c.U k2) {g : Key} (hg : c.U g) : (renCtx c k1 k2).U (renK k1 k2 g)∧(renCtx c k1 k2).β (renK k1 k2 g)=c.β g∧(renCtx c k1 k2).es (renK k1 k2 g)=c.es g:=by
 unfold renK
 split
 ·rename_i e; subst e
  exact ⟨.inr ⟨rfl,hg⟩,if_pos rfl,if_pos rfl⟩
 ·have : g ≠ k2:=fun e=>h2 (e ▸ hg)
  exact ⟨.inl hg,if_neg this,if_neg this⟩
mutual
theorem ren_rep (h2 : ¬ c.U k2) : ∀ (x : PV) (v : Value),RepV w c x v→RepV w (renCtx c k1 k2) (renV k1 k2 x) v
 | .own g esz off len full,v,h=>by
   obtain ⟨hg,hes,he,a,cap,h1,h3,h4,h5,h6,h7⟩:=h
   obtain ⟨g1,g2,g3⟩:=ren_key h2 (k1:=k1) hg
   refine ⟨g1,hes.trans g3.symm,he,a,cap,h1,h3,h4,h5,h6,?_⟩
   rw [g2]; exact h7
 | .ptr g esz i off,v,h=>by
   obtain ⟨hg,hes,ad,h1,h3⟩:=h
   obtain ⟨g1,g2,g3⟩:=ren_key h2 (k1:=k1) hg
   exact ⟨g1,hes.trans g3.symm,ad,g2.trans h1,h3⟩
 | .agg cs,v,h=>by
   obtain ⟨vs,e,h,h1⟩:=h
   exact ⟨vs,e,ren_repL h2 cs _ h,h1⟩
 | .tup cs,v,h=>by
   obtain ⟨vs,e,h⟩:=h
   exact ⟨vs,e,ren_repL h2 cs _ h⟩
 | .fn f first cap,v,h=>by
   obtain ⟨a,b,e,h1,h3⟩:=h
   exact ⟨a,b,e,ren_repL h2 first _ h1,ren_repL h2 cap _ h3⟩
 | .iface t x,v,h=>by
   obtain ⟨u,e,h⟩:=h
   exact ⟨u,e,ren_rep h2 x u h⟩
 | .opt b x,v,h=>⟨fun hb=>ren_rep h2 x v (h.1 hb),h.2⟩
 | .undef,v,h | .bool _,v,h | .int _ _,v,h | .str _,v,h | .nilp,v,h | .nilf,v,h | .nili,v,h | .raw _,v,h=>h
 | .vec e f xs,v,h=>RepV.mono (.vec e f xs) v (Mono.refl _ _) (ren_le h2) h
 | .ref cs,v,h=>RepV.mono (.ref cs) v (Mono.refl _ _) (ren_le h2) h
 | .mapf es,v,h=>RepV.mono (.mapf es) v (Mono.refl _ _) (ren_le h2) h
theorem ren_repL (h2 : ¬ c.U k2) : ∀ (xs : List PV) (vs : List Value),RepL w c xs vs→RepL w (renCtx c k1 k2) (renL k1 k2 xs) vs
 | [],_,h=>h
 | x::xs,_,h=>by
   obtain ⟨u,us,e,h1,h3⟩:=h
   exact ⟨u,us,e,ren_rep h2 x u h1,ren_repL h2 xs us h3⟩
end
theorem ren_repAt (h2 : ¬ c.U k2) {b : Nat} : ∀ (o : Nat) (xs : List PV),RepAt w c b o xs→RepAt w (renCtx c k1 k2) b o (renL k1 k2 xs)
 | _,[],_=>trivial
 | o,x::xs,h=>by
   obtain ⟨⟨v,e,e1,h1⟩,h3⟩:=h
   exact ⟨⟨v,e,e1,ren_rep h2 x v h1⟩,ren_repAt h2 (o+1) xs h3⟩
theorem ren_repRows (h2 : ¬ c.U k2) {esz b : Nat} : ∀ (o : Nat) (xs : List (List PV)),RepRows w c esz b o xs→RepRows w (renCtx c k1 k2) esz b o (renR k1 k2 xs)
 | _,[],_=>trivial
 | o,r::rs,h=>by
   obtain ⟨h1,h3,h4⟩:=h
   exact ⟨(renL_length _ _ _).trans h1,ren_repAt h2 o r h3,ren_repRows h2 (o+esz) rs h4⟩
theorem ren_hrep (h2 : ¬ c.U k2) {k : Key} {e e' : HE} (he : renE k1 k2 (some e)=some e') (h : HRep w c k e) : HRep w (renCtx c k1 k2) (renK k1 k2 k) e':=by
 obtain ⟨hU,hes,h⟩:=h
 obtain ⟨g1,g2,g3⟩:=ren_key h2 (k1:=k1) hU
 obtain ⟨esz,xs,fz,bx⟩:=e
 cases bx with
 | true =>
   simp only [renE,Option.some.injEq] at he
   subst he
   refine ⟨g1,hes.trans g3.symm,?_⟩
   rw [g2]
   cases hb : c.β k with
   | none =>
     rw [hb] at h
     have h0 : xs=[]:=h.1
     subst h0
     exact ⟨rfl,h.2⟩
   | some ad =>
     rw [hb] at h
     obtain ⟨h1,⟨cs,el,fr,h3,h4,h5⟩,h6,h7⟩:=h
     exact ⟨h1,⟨cs,el,fr,h3,by rw [renR_length]; exact h4,h5⟩,ren_repRows h2 _ _ h6,h7⟩
 | false =>
   simp only [renE,Option.some.injEq] at he
   subst he
   refine ⟨g1,hes.trans g3.symm,?_⟩
   rw [g2]
   cases hb : c.β k with
   | none=>rw [hb] at h; exact h
   | some ad =>
     rw [hb] at h
     obtain ⟨h1,h3,h6,h7⟩:=h
     have h6' : RepRows w c.d esz ad.block ad.off xs:=h6
     have hm : RepRows w (renCtx c k1 k2).d esz ad.block ad.off xs:=RepRows.mono_cells (c:=c.d) (c':=(renCtx c k1 k2).d) (Mono.refl _ _) (Ctx.Le.d fun _ h=>h) esz ad.block ad.off xs (fun _ _ _=>rfl) h6'
     exact ⟨h1,h3,hm,h7⟩
end
theorem renE_some {k1 k2 : Key} {x : Option HE} {e : HE} (h : renE k1 k2 x=some e) : ∃ e0,x=some e0:=by
 cases x with
 | none=>simp [renE] at h
 | some e0=>exact ⟨e0,rfl⟩
theorem hk_ren {k1 k2 : Key} : ∀ {h : List (Key × Option HE)} {k : Key} {e : HE},hk k (renH k1 k2 h)=some e →
 ∃ k0 e0,hk k0 h=some e0∧renE k1 k2 (some e0)=some e∧k=renK k1 k2 k0∧(k0=k2→hk k2 h=some e0)
 | [],k,e,he=>by simp [renH,hk] at he
 | (m,x)::h,k,e,he=>by
   simp only [renH,hk] at he
   split at he
   ·rename_i hkm
    obtain ⟨e0,rfl⟩:=renE_some he
    exact ⟨m,e0,by simp [hk],he,hkm,fun hm=>by subst hm; simp [hk]⟩
   ·rename_i hkm
    obtain ⟨k0,e0,h1,h2,h3,h4⟩:=hk_ren he
    have hne : k0 ≠ m:=fun e1=>hkm (by rw [h3,e1])
    refine ⟨k0,e0,by simp [hk,hne,h1],h2,h3,fun h5=>?_⟩
    have : k2 ≠ m:=fun e1=>hne (h5.trans e1)
    simp [hk,this,h4 h5]
theorem lk_ren {k1 k2 : Key} (t : Nat) : ∀ s : List (Nat × PV),lk t (renS k1 k2 s)=renV k1 k2 (lk t s)
 | []=>by simp [renS,lk,renV]
 | (u,x)::s=>by
   simp only [renS,lk]
   split
   ·rfl
   ·exact lk_ren t s
theorem ren_good {E : Env} {st : St} {c : Ctx} {a : Act} {w : World} {k1 k2 : Key} (hg : Good E st c a w) (h2 : ¬ c.U k2) : Good E (renSt k1 k2 st) (renCtx c k1 k2) a w:=by
 have hk2 : ∀ {k0 : Key} {e0 : HE},hk k0 st.h=some e0→k0 ≠ k2:=fun h e=>h2 (e ▸ (hg.heap _ _ h).1)
 refine Good.ofH hg.defers hg.size ⟨fun k e he=>?_,fun k e ad he had=>?_,fun k k' e e' ad ad' he he' had had' hne=>?_,hg.fz,hg.le,?_,hg.below⟩ (fun t v hv=>?_) (fun p hp=>RepV.mono _ _ (Mono.refl _ _) (ren_le h2) (hg.ghost p hp))
 ·obtain ⟨k0,e0,h3,h4,rfl,_⟩:=hk_ren he
  exact ren_hrep h2 h4 (hg.heap _ _ h3)
 ·obtain ⟨k0,e0,h3,h4,rfl,_⟩:=hk_ren he
  rw [(ren_key h2 (hg.heap _ _ h3).1).2.1] at had
  exact hg.fresh _ _ _ h3 had
 ·obtain ⟨k0,e0,h3,h4,rfl,_⟩:=hk_ren he
  obtain ⟨k0',e0',h3',h4',rfl,_⟩:=hk_ren he'
  rw [(ren_key h2 (hg.heap _ _ h3).1).2.1] at had
  rw [(ren_key h2 (hg.heap _ _ h3').1).2.1] at had'
  exact hg.apart _ _ _ _ _ _ h3 h3' had had' (fun e=>hne (by rw [e]))
 ·obtain ⟨N,hN⟩:=hg.bnd
  refine ⟨max N (k2.2+1),fun k hk=>?_⟩
  rcases hk with hk | ⟨rfl,_⟩
  ·have:=hN k hk; omega
  ·omega
 ·show RepV w _ (lk t (renS k1 k2 st.s)) v
  rw [lk_ren]
  exact ren_rep h2 _ _ (hg.slot t v hv)
def canonS (t esz tag v : Nat) (st : St) : St:=match lk t st.s with
 | .own g _ _ _ _=>renSt g (tag,v) st
 | .ptr g _ _ _=>renSt g (tag,v) st
 | .vec e f xs=>match f,xs with
   | true,[]=>if e=esz∧0 < esz then own1 t esz tag v st else st
   | _,_=>st
 | _=>st
def ownB (g : Key) (e : Nat) (row : List PV) (fz : Bool) (i esz tag v : Nat) (st : St) : St:=⟨st.s,(g,some ⟨e,[row.set i (.own (tag,v) esz 0 0 true)],fz,true⟩)::((tag,v),some ⟨esz,[],false,false⟩)::st.h⟩
def canonB (t i esz tag v : Nat) (st : St) : St:=match lk t st.s with
 | .ptr g _ _ _=>match hk g st.h with
   | some ⟨e,[row],fz,true⟩=>match row.getD i .undef with
     | .own k _ _ _ _=>renSt k (tag,v) st
     | .vec e' f xs=>match f,xs with
       | true,[]=>if e'=esz∧0 < esz then ownB g e row fz i esz tag v st else st
       | _,_=>st
     | _=>st
   | _=>st
 | _=>st
def canon1 (t esz tag v : Nat) (st : St) : St:=if t < 1000000 then canonS t esz tag v st else canonB (t % 1000000) (t / 1000000 - 1) esz tag v st
def canon : List (Nat × Nat × Nat)→Nat→St→St
 | [],_,st=>st
 | (t,esz,tag)::l,v,st=>canon l v (canon1 t esz tag v st)
theorem canonS_good {E : Env} {st : St} {c : Ctx} {a : Act} {w : World} {t esz tag v : Nat} (hg : Good E st c a w) (hv : ¬ c.U (tag,v)) : ∃ c',Good E (canonS t esz tag v st) c' a w∧∀ k,c'.U k→c.U k∨k=(tag,v):=by
 unfold canonS
 split
 ·exact ⟨_,ren_good hg hv,fun k hk=>hk.imp id fun h=>h.1⟩
 ·exact ⟨_,ren_good hg hv,fun k hk=>hk.imp id fun h=>h.1⟩
 ·rename_i e f xs hl
  split
  ·split
   ·rename_i h
    obtain ⟨rfl,h0⟩:=h
    refine ⟨_,own1_good hg hl h0 hv,fun k hk=>hk.imp id id⟩
   ·exact ⟨c,hg,fun k hk=>.inl hk⟩
  ·exact ⟨c,hg,fun k hk=>.inl hk⟩
 ·exact ⟨c,hg,fun k hk=>.inl hk⟩
theorem RepAt_set {w : World} {c c' : Ctx} (hc : c.Le c') {b : Nat} {x : PV} : ∀ {i o : Nat} {xs : List PV},RepAt w c b o xs→i < xs.length→(∀ v,RepV w c (xs.getD i .undef) v→RepV w c' x v)→RepAt w c' b o (xs.set i x)
 | 0,o,y::ys,h,_,hx=>⟨⟨h.1.choose,h.1.choose_spec.1,h.1.choose_spec.2.1,hx _ h.1.choose_spec.2.2⟩,RepAt.mono b rfl (o+1) ys (Mono.refl _ _) hc h.2⟩
 | i+1,o,y::ys,h,hi,hx=>⟨⟨h.1.choose,h.1.choose_spec.1,h.1.choose_spec.2.1,RepV.mono _ _ (Mono.refl _ _) hc h.1.choose_spec.2.2⟩,RepAt_set hc (i:=i) h.2 (by simpa using hi) (by simpa using hx)⟩
theorem ownB_good {E : Env} {st : St} {c : Ctx} {a : Act} {w : World} {g : Key} {e i esz tag v : Nat} {row : List PV} {fz : Bool} (hg : Good E st c a w) (hk0 : hk g st.h=some ⟨e,[row],fz,true⟩) (hrow : row.getD i .undef=.vec esz true []) (he : 0 < esz) (hk' : ¬ c.U (tag,v)) : Good E (ownB g e row fz i esz tag v st) (newCtx c (tag,v) none esz) a w:=by
 have hi : i < row.length:=by
  rcases Nat.lt_or_ge i row.length with h | h
  ·exact h
  ·simp [List.getD,List.getElem?_eq_none h] at hrow
 have hle:=newCtx_le (a:=none) (n:=esz) hk'
 have hβ : ∀ k,k ≠ (tag,v)→(newCtx c (tag,v) none esz).β k=c.β k:=fun k hk=>if_neg hk
 have hβk : (newCtx c (tag,v) none esz).β (tag,v)=none:=if_pos rfl
 have hgk : g ≠ (tag,v):=fun x=>hk' (x ▸ (hg.heap _ _ hk0).1)
 have look : ∀ k e',hk k (ownB g e row fz i esz tag v st).h=some e'→(k=g∧e'=⟨e,[row.set i (.own (tag,v) esz 0 0 true)],fz,true⟩)∨(k=(tag,v)∧e'=⟨esz,[],false,false⟩)∨(k ≠ (tag,v)∧k ≠ g∧hk k st.h=some e'):=fun k e' h=>by
  simp only [ownB,hk_cons] at h
  split at h
  ·rename_i e1; exact .inl ⟨e1,(Option.some.inj h).symm⟩
  ·rename_i e1
   split at h
   ·rename_i e2; exact .inr (.inl ⟨e2,(Option.some.inj h).symm⟩)
   ·rename_i e2; exact .inr (.inr ⟨e2,e1,h⟩)
 have old : ∀ k e',hk k (ownB g e row fz i esz tag v st).h=some e'→k ≠ (tag,v)→∃ e0,hk k st.h=some e0:=fun k e' h hne=>by
  rcases look k e' h with ⟨rfl,_⟩ | ⟨h1,_⟩ | ⟨_,_,h1⟩
  ·exact ⟨_,hk0⟩
  ·exact absurd h1 hne
  ·exact ⟨_,h1⟩
 refine Good.ofH hg.defers hg.size ⟨fun k e' hke=>?_,fun k e' ad hke had=>?_,fun k k' e1 e2 ad ad' hke hke' had had' hne=>?_,hg.fz,hg.le,newCtx_bnd hg.bnd,hg.below⟩ (fun u x hx=>RepV.mono _ _ (Mono.refl _ _) hle (hg.slot u x hx)) (fun p hp=>RepV.mono _ _ (Mono.refl _ _) hle (hg.ghost p hp))
 ·rcases look k e' hke with ⟨rfl,rfl⟩ | ⟨rfl,rfl⟩ | ⟨h1,h2,h3⟩
  ·obtain ⟨q1,q2,q3⟩:=hg.heap _ _ hk0
   refine ⟨.inl q1,q2.trans (hle.es _ q1).symm,?_⟩
   rw [hβ k hgk]
   cases hb : c.β k with
   | none=>rw [hb] at q3; simp at q3
   | some ad =>
     rw [hb] at q3
     obtain ⟨b1,b2,b3,b4⟩:=q3
     have b3' : row.length=e∧RepAt w c ad.block ad.off row∧True:=b3
     refine ⟨b1,by simpa using b2,?_,b4⟩
     show RepRows w (newCtx c (tag,v) none esz) e ad.block ad.off [row.set i (.own (tag,v) esz 0 0 true)]
     refine ⟨by rw [List.length_set]; exact b3'.1,RepAt_set hle b3'.2.1 hi fun u hu=>?_,trivial⟩
     rw [hrow] at hu
     obtain ⟨a',cap,q1,q2,q3,q4,q5,q6⟩:=hu
     have hcap : cap=0:=q5 rfl
     subst hcap
     refine ⟨.inr rfl,(if_pos rfl).symm,he,a',0,q1,by simp,by simp,by simp [LIM],by simp,?_⟩
     rw [hβk]
     exact ⟨rfl,rfl,rfl⟩
  ·refine ⟨.inr rfl,(if_pos rfl).symm,?_⟩
   rw [hβk]
   exact ⟨rfl,he⟩
  ·exact (hg.heap k e' h3).mono (Mono.refl _ _) hle (fun _ _=>Iff.rfl) (fun _ _=>rfl)
 ·by_cases hkt : k=(tag,v)
  ·subst hkt; rw [hβk] at had; cases had
  ·obtain ⟨e0,h0⟩:=old k e' hke hkt
   rw [hβ k hkt] at had
   exact hg.fresh k e0 ad h0 had
 ·by_cases hkt : k=(tag,v)
  ·subst hkt; rw [hβk] at had; cases had
  ·by_cases hkt' : k'=(tag,v)
   ·subst hkt'; rw [hβk] at had'; cases had'
   ·obtain ⟨e0,h0⟩:=old k e1 hke hkt
    obtain ⟨e0',h0'⟩:=old k' e2 hke' hkt'
    rw [hβ k hkt] at had
    rw [hβ k' hkt'] at had'
    exact hg.apart k k' e0 e0' ad ad' h0 h0' had had' hne
theorem canonB_good {E : Env} {st : St} {c : Ctx} {a : Act} {w : World} {t i esz tag v : Nat} (hg : Good E st c a w) (hv : ¬ c.U (tag,v)) : ∃ c',Good E (canonB t i esz tag v st) c' a w∧∀ k,c'.U k→c.U k∨k=(tag,v):=by
 unfold canonB
 split
 ·split
  ·rename_i h0
   split
   ·exact ⟨_,ren_good hg hv,fun k hk=>hk.imp id fun h=>h.1⟩
   ·rename_i hrow
    split
    ·split
     ·rename_i h
      obtain ⟨rfl,h1⟩:=h
      exact ⟨_,ownB_good hg h0 hrow h1 hv,fun k hk=>hk.imp id id⟩
     ·exact ⟨c,hg,fun k hk=>.inl hk⟩
    ·exact ⟨c,hg,fun k hk=>.inl hk⟩
   ·exact ⟨c,hg,fun k hk=>.inl hk⟩
  ·exact ⟨c,hg,fun k hk=>.inl hk⟩
 ·exact ⟨c,hg,fun k hk=>.inl hk⟩
theorem canon1_good {E : Env} {st : St} {c : Ctx} {a : Act} {w : World} {t esz tag v : Nat} (hg : Good E st c a w) (hv : ¬ c.U (tag,v)) : ∃ c',Good E (canon1 t esz tag v st) c' a w∧∀ k,c'.U k→c.U k∨k=(tag,v):=by
 unfold canon1
 split
 ·exact canonS_good hg hv
 ·exact canonB_good hg hv
def tagsOk : List (Nat × Nat × Nat)→Bool
 | []=>true
 | x::l=>l.all (fun y=>y.2.2 != x.2.2)&&tagsOk l
theorem canon_good {E : Env} {a : Act} {w : World} {v : Nat} : ∀ (ts : List (Nat × Nat × Nat)) (st : St) (c : Ctx),tagsOk ts=true→Good E st c a w→(∀ t ∈ ts,¬ c.U (t.2.2,v))→∃ c',Good E (canon ts v st) c' a w
 | [],st,c,_,hg,_=>⟨c,hg⟩
 | (t,esz,tag)::l,st,c,ho,hg,hU=>by
   simp only [tagsOk,Bool.and_eq_true,List.all_eq_true,bne_iff_ne,ne_eq] at ho
   obtain ⟨c',hg',hU'⟩:=canon1_good (t:=t) (esz:=esz) hg (hU (t,esz,tag) (by simp))
   refine canon_good l _ c' ho.2 hg' fun x hx hu=>?_
   rcases hU' _ hu with h | h
   ·exact hU x (by simp [hx]) h
   ·exact ho.1 x hx (congrArg Prod.fst h)
theorem canon_rel {E : Env} {st : St} {a : Act} {w : World} (ts : List (Nat × Nat × Nat)) (ho : tagsOk ts=true) (hr : Rel E st a w) : ∃ v,E.V≤v∧Rel E (canon ts v st) a w:=by
 obtain ⟨c,hg⟩:=hr
 obtain ⟨N,hN⟩:=hg.bnd
 exact ⟨max N E.V,by omega,canon_good ts st c ho hg fun t _ hu=>by have:=hN _ hu; simp only at this; omega⟩
def frzH (keep : List Key) : List (Key × Option HE)→List (Key × Option HE)
 | []=>[]
 | (k,none)::h=>(k,none)::frzH keep h
 | (k,some ⟨esz,xs,fz,true⟩)::h=>(k,some ⟨esz,xs,fz,true⟩)::frzH keep h
 | (k,some ⟨esz,xs,fz,false⟩)::h=>(k,some ⟨esz,xs,if k ∈ keep then fz else true,false⟩)::frzH keep h
def frzE (keep : List Key) (k : Key) (e : HE) : HE:=if e.bx=true∨k ∈ keep then e else { e with fz:=true }
theorem hk_frzH (keep : List Key) (k : Key) : ∀ h : List (Key × Option HE),hk k (frzH keep h)=(hk k h).map (frzE keep k)
 | []=>rfl
 | (m,none)::h=>by
   simp only [frzH,hk]
   split
   ·rfl
   ·exact hk_frzH keep k h
 | (m,some ⟨esz,xs,fz,true⟩)::h=>by
   simp only [frzH,hk]
   split
   ·simp [frzE]
   ·exact hk_frzH keep k h
 | (m,some ⟨esz,xs,fz,false⟩)::h=>by
   simp only [frzH,hk]
   split
   ·rename_i e; subst e
    simp only [frzE,Option.map_some,Bool.false_eq_true,false_or]
    split <;> rfl
   ·exact hk_frzH keep k h
def frzKs (keep : List Key) (h : List (Key × Option HE)) : List Key:=(h.map (·.1)).filter fun k=>match hk k h with | some e=>!e.bx&&!decide (k ∈ keep) | none=>false
theorem hk_mem {k : Key} {e : HE} : ∀ {h : List (Key × Option HE)},hk k h=some e→k ∈ h.map (·.1)
 | [],h=>by simp [hk] at h
 | (m,x)::l,h=>by
   simp only [hk] at h
   split at h
   ·rename_i e1; subst e1; simp
   ·simp [hk_mem h]
theorem frz_rel {E : Env} {st : St} {a : Act} {w : World} (keep : List Key) (hr : Rel E st a w) : Rel E ⟨st.s,frzH keep st.h⟩ a w:=by
 obtain ⟨c,hg⟩:=Le.freeze (h:=st.h) (s:=st.s) (frzKs keep st.h) a w hr
 refine ⟨c,hg.leH fun k=>?_⟩
 rw [hk_freeze,hk_frzH]
 have hre : ∀ o : Option HE,leE (fun k=>hk k (freezeAll (fun k=>hk k st.h) (frzKs keep st.h)++st.h)) o o:=fun o=>by
  cases o with
  | none=>trivial
  | some e=>exact ⟨rfl,rfl,.inl rfl,leR_refl _ _⟩
 cases he : hk k st.h with
 | none=>split <;> exact hre _
 | some e =>
   by_cases hk1 : e.bx=true∨k ∈ keep
   ·have : k ∉ frzKs keep st.h:=fun hm=>by
       have:=(List.mem_filter.1 hm).2
       rw [he] at this
       simp only [Bool.and_eq_true,Bool.not_eq_true',decide_eq_false_iff_not] at this
       rcases hk1 with h | h
       ·rw [h] at this; simp at this
       ·exact this.2 h
    rw [if_neg this]
    simp only [Option.map_some,frzE,if_pos hk1]
    exact hre _
   ·have : k ∈ frzKs keep st.h:=List.mem_filter.2 ⟨hk_mem he,by
       rw [he]
       simp only [not_or,Bool.not_eq_true] at hk1
       simp [hk1]⟩
    rw [if_pos this]
    simp only [Option.map_some,frzE,if_neg hk1]
    exact hre _
def canonF (ts : List (Nat × Nat × Nat)) (v : Nat) (st : St) : St:=⟨(canon ts v st).s,frzH (ts.map fun t=>(t.2.2,v)) (canon ts v st).h⟩
theorem canonF_rel {E : Env} {st : St} {a : Act} {w : World} (ts : List (Nat × Nat × Nat)) (ho : tagsOk ts=true) (hr : Rel E st a w) : ∃ v,E.V≤v∧Rel E (canonF ts v st) a w:=by
 obtain ⟨v,hv,h⟩:=canon_rel ts ho hr
 exact ⟨v,hv,frz_rel _ h⟩
section
variable {E : Env} {body m : MC} {st st' : St} {ks : List KF} {Q : Ex→St→Prop} {ι γ : Type}
def LNR (E : Env) (ts : List (Nat × Nat × Nat)) (n : Nat) (S : Nat→Nat→γ→St) (J : Nat→γ→Prop) (i : Nat) (ks : List KF) (Q : Ex→St→Prop) : Ex→St→Prop
 | .normal,st'=>i < n∧∃ g,J (i+1) g∧∀ v,LS (canonF ts v st') (S v (i+1) g)
 | e,st'=>XE E e st' ks Q
def LRR (E : Env) (ts : List (Nat × Nat × Nat)) (S : Nat→ι→St) (J : ι→Prop) (μ : ι→Nat) (i : ι) (ks : List KF) (Q : Ex→St→Prop) : Ex→St→Prop
 | .normal,st'=>∃ j,J j∧μ j < μ i∧∀ v,LS (canonF ts v st') (S v j)
 | e,st'=>XE E e st' ks Q
def CJR (E : Env) (ts : List (Nat × Nat × Nat)) (S : Nat→ι→St) (J : ι→Prop) (ks : List KF) (Q : Ex→St→Prop) : Ex→St→Prop
 | .normal,st'=>∃ j,J j∧∀ v,LS (canonF ts v st') (S v j)
 | e,st'=>XE E e st' ks Q
def CTR (E : Env) (ts : List (Nat × Nat × Nat)) (S : Nat→St) (ks : List KF) (Q : Ex→St→Prop) : Ex→St→Prop
 | .normal,st'=>∀ v,LS (canonF ts v st') (S v)
 | e,st'=>XE E e st' ks Q
section
variable {ts : List (Nat × Nat × Nat)} {n k id : Nat} {S' : Nat→Nat→γ→St} {J' : Nat→γ→Prop} {S : Nat→ι→St} {J : ι→Prop} {μ : ι→Nat} {i : ι} {S1 : Nat→St}
theorem LNR_normal : LNR E ts n S' J' k ks Q .normal st'=(k < n∧∃ g,J' (k+1) g∧∀ v,LS (canonF ts v st') (S' v (k+1) g)):=propext Iff.rfl
theorem LNR_exit : LNR E ts n S' J' k ks Q (.exit id) st'=XE E (.exit id) st' ks Q:=propext Iff.rfl
theorem LNR_ret : LNR E ts n S' J' k ks Q .ret st'=XE E .ret st' ks Q:=propext Iff.rfl
theorem LNR_goto : LNR E ts n S' J' k ks Q (.goto id) st'=XE E (.goto id) st' ks Q:=propext Iff.rfl
theorem LRR_normal : LRR E ts S J μ i ks Q .normal st'=∃ j,J j∧μ j < μ i∧∀ v,LS (canonF ts v st') (S v j):=propext Iff.rfl
theorem LRR_exit : LRR E ts S J μ i ks Q (.exit id) st'=XE E (.exit id) st' ks Q:=propext Iff.rfl
theorem LRR_ret : LRR E ts S J μ i ks Q .ret st'=XE E .ret st' ks Q:=propext Iff.rfl
theorem LRR_goto : LRR E ts S J μ i ks Q (.goto id) st'=XE E (.goto id) st' ks Q:=propext Iff.rfl
theorem CJR_normal : CJR E ts S J ks Q .normal st'=∃ j,J j∧∀ v,LS (canonF ts v st') (S v j):=propext Iff.rfl
theorem CJR_exit : CJR E ts S J ks Q (.exit id) st'=XE E (.exit id) st' ks Q:=propext Iff.rfl
theorem CJR_ret : CJR E ts S J ks Q .ret st'=XE E .ret st' ks Q:=propext Iff.rfl
theorem CJR_goto : CJR E ts S J ks Q (.goto id) st'=XE E (.goto id) st' ks Q:=propext Iff.rfl
theorem CTR_normal : CTR E ts S1 ks Q .normal st'=∀ v,LS (canonF ts v st') (S1 v):=propext Iff.rfl
theorem CTR_exit : CTR E ts S1 ks Q (.exit id) st'=XE E (.exit id) st' ks Q:=propext Iff.rfl
theorem CTR_ret : CTR E ts S1 ks Q .ret st'=XE E .ret st' ks Q:=propext Iff.rfl
theorem CTR_goto : CTR E ts S1 ks Q (.goto id) st'=XE E (.goto id) st' ks Q:=propext Iff.rfl
end
theorem XLoop.cntR (hmix : E.P.follows .mixedOrders=true) (ts : List (Nat × Nat × Nat)) (hts : tagsOk ts=true) (n : Nat) (S' : Nat→Nat→γ→St) (J' : Nat→γ→Prop) (g0 : γ) (h0 : J' 0 g0) (hst : ∀ v,LS (canonF ts v st) (S' v 0 g0))
 (hr : ∀ v i g,E.V≤v→i≤n→J' i g→XC E body (S' v i g) [] (LNR E ts n S' J' i ks Q)) : XLoop E (.loop body) st ks Q:=by
 intro c hm a w hrel
 obtain ⟨x,rfl,hm1⟩:=toMC_loop hm
 obtain ⟨v0,hv0,hrel0⟩:=canonF_rel ts hts hrel
 refine wp_loop_ghost (fun m a w=>∃ v i g,E.V≤v∧i≤n∧J' i g∧n - i=m∧Rel E (S' v i g) a w) n ⟨v0,0,g0,hv0,Nat.zero_le _,h0,rfl,(hst v0).le a w hrel0⟩ ?_
 rintro m a w ⟨v,i,g,hv,hi,hJ,rfl,hri⟩
 refine wp_mono (exec_sound hmix x body (S' v i g) a w _ hm1 hri (hr v i g hv hi hJ)) ?_
 rintro e a' w' ⟨ex,st',rfl,hq,hr'⟩
 cases ex with
 | normal =>
   obtain ⟨hlt,g',h1,h3⟩:=hq
   obtain ⟨v',hv',hr2⟩:=canonF_rel ts hts hr'
   exact ⟨n - (i+1),by omega,v',i+1,g',hv',hlt,h1,rfl,(h3 v').le a' w' hr2⟩
 | exit id=>exact ⟨.exit id,st',rfl,hq,hr'⟩
 | goto l=>exact ⟨.goto l,st',rfl,hq,hr'⟩
 | ret=>exact ⟨.ret,st',rfl,hq,hr'⟩
theorem XCut.anew (ts : List (Nat × Nat × Nat)) (hts : tagsOk ts=true) (S : Nat→St) (h1 : ∀ v,LS (canonF ts v st) (S v)) (h2 : ∀ v,E.V≤v→XCut E m (S v) ks Q) : XCut E m st ks Q:=by
 intro c hm a w hr
 obtain ⟨v,hv,hr2⟩:=canonF_rel ts hts hr
 exact h2 v hv c hm a w ((h1 v).le a w hr2)
theorem XLoop.anew (ts : List (Nat × Nat × Nat)) (hts : tagsOk ts=true) (S : Nat→St) (h1 : ∀ v,LS (canonF ts v st) (S v)) (h2 : ∀ v,E.V≤v→XLoop E m (S v) ks Q) : XLoop E m st ks Q:=by
 intro c hm a w hr
 obtain ⟨v,hv,hr2⟩:=canonF_rel ts hts hr
 exact h2 v hv c hm a w ((h1 v).le a w hr2)
end
theorem intBeq (a b : Int) : (a == b)=decide (a=b):=by by_cases h : a=b <;> simp [h]
attribute [simp] intBeq leR_refl
attribute [simp] LNR_normal LNR_exit LNR_ret LNR_goto LRR_normal LRR_exit LRR_ret LRR_goto CJR_normal CJR_exit CJR_ret CJR_goto CTR_normal CTR_exit CTR_ret CTR_goto canon canon1 canonS canonB ownB renSt lk_ren renH renE renR renV renL renK own1 tagsOk frzH canonF
end Go.Proofs.YtnlfgnelfooljaaGreatDoor.Pv
namespace Go.Tidy
abbrev S:=ByteArray
structure Span where
 low : S
 high : S
 deriving Inhabited
mutual
inductive Ty where
 | mk (all null fls tru : Bool) (nums : List Span) (any : Bool) (texts : List S) (arrays : List Arr) (objects : List Ob)
inductive Arr where
 | mk (item : Ty) (min max : Int)
inductive Ob where
 | mk (names : List S) (fields : List Ty) (must : List Bool) (rest : Ty)
end
namespace Ty
def all : Ty→Bool | .mk a _ _ _ _ _ _ _ _=>a
def null : Ty→Bool | .mk _ a _ _ _ _ _ _ _=>a
def fls : Ty→Bool | .mk _ _ a _ _ _ _ _ _=>a
def tru : Ty→Bool | .mk _ _ _ a _ _ _ _ _=>a
def nums : Ty→List Span | .mk _ _ _ _ a _ _ _ _=>a
def any : Ty→Bool | .mk _ _ _ _ _ a _ _ _=>a
def texts : Ty→List S | .mk _ _ _ _ _ _ a _ _=>a
def arrays : Ty→List Arr | .mk _ _ _ _ _ _ _ a _=>a
def objects : Ty→List Ob | .mk _ _ _ _ _ _ _ _ a=>a
end Ty
namespace Arr
def item : Arr→Ty | .mk a _ _=>a
def min : Arr→Int | .mk _ a _=>a
def max : Arr→Int | .mk _ _ a=>a
end Arr
namespace Ob
def names : Ob→List S | .mk a _ _ _=>a
def fields : Ob→List Ty | .mk _ a _ _=>a
def must : Ob→List Bool | .mk _ _ a _=>a
def rest : Ob→Ty | .mk _ _ _ a=>a
end Ob
def tNever : Ty:=.mk false false false false [] false [] [] []
def tEvery : Ty:=.mk true false false false [] false [] [] []
instance : Inhabited Ty:=⟨tNever⟩
instance : Inhabited Arr:=⟨.mk tNever 0 0⟩
instance : Inhabited Ob:=⟨.mk [] [] [] tNever⟩
section
variable (a b c d : Bool) (ns : List Span) (e : Bool) (ts : List S) (az : List Arr) (os : List Ob) (t : Ty) (lo hi : Int) (nm : List S) (fs : List Ty) (ms : List Bool)
@[simp] theorem Ty.all_mk : (Ty.mk a b c d ns e ts az os).all=a:=rfl
@[simp] theorem Ty.null_mk : (Ty.mk a b c d ns e ts az os).null=b:=rfl
@[simp] theorem Ty.fls_mk : (Ty.mk a b c d ns e ts az os).fls=c:=rfl
@[simp] theorem Ty.tru_mk : (Ty.mk a b c d ns e ts az os).tru=d:=rfl
@[simp] theorem Ty.nums_mk : (Ty.mk a b c d ns e ts az os).nums=ns:=rfl
@[simp] theorem Ty.any_mk : (Ty.mk a b c d ns e ts az os).any=e:=rfl
@[simp] theorem Ty.texts_mk : (Ty.mk a b c d ns e ts az os).texts=ts:=rfl
@[simp] theorem Ty.arrays_mk : (Ty.mk a b c d ns e ts az os).arrays=az:=rfl
@[simp] theorem Ty.objects_mk : (Ty.mk a b c d ns e ts az os).objects=os:=rfl
@[simp] theorem Arr.item_mk : (Arr.mk t lo hi).item=t:=rfl
@[simp] theorem Arr.min_mk : (Arr.mk t lo hi).min=lo:=rfl
@[simp] theorem Arr.max_mk : (Arr.mk t lo hi).max=hi:=rfl
@[simp] theorem Ob.names_mk : (Ob.mk nm fs ms t).names=nm:=rfl
@[simp] theorem Ob.fields_mk : (Ob.mk nm fs ms t).fields=fs:=rfl
@[simp] theorem Ob.must_mk : (Ob.mk nm fs ms t).must=ms:=rfl
@[simp] theorem Ob.rest_mk : (Ob.mk nm fs ms t).rest=t:=rfl
end
def sLt (a b : S) : Bool:=Op.bytesLess a.data.toList b.data.toList
def sEq (a b : S) : Bool:=a.data.toList == b.data.toList
def sEmp (a : S) : Bool:=a.data.toList.isEmpty
def neg (a : S) : Bool:=a.data.toList.head? == some 45
def digs (a : S) : List UInt8:=if neg a then a.data.toList.tail else a.data.toList
def isDig (c : UInt8) : Bool:=48≤c&&c≤57
def numB (a : S) : Bool:=(digs a).all isDig&&!(digs a).isEmpty&&((digs a).head? != some 48||a.data.toList == [48])
def lexC {α : Type} (f : α→α→Ordering) : List α→List α→Ordering
 | [],[]=>.eq
 | [],_::_=>.lt
 | _::_,[]=>.gt
 | a::l,b::m=>(f a b).then (lexC f l m)
def trail (l : List UInt8) (n : Nat) (lo hi : UInt8) : Bool:=decide (n≤l.length)&&(l.take n).all (fun c=>128≤c&&c≤191)&&(match l with | c::_=>decide (lo≤c)&&decide (c≤hi) | []=>false)
def width : List UInt8→Nat
 | []=>0
 | c::l =>
   if c < 128 then 1
   else if 194≤c&&c≤223&&trail l 1 128 191 then 2
   else if 224≤c&&c≤239&&trail l 2 (if c == 224 then 160 else 128) (if c == 237 then 159 else 191) then 3
   else if 240≤c&&c≤244&&trail l 3 (if c == 240 then 144 else 128) (if c == 244 then 143 else 191) then 4
   else 0
def utfL : Nat→List UInt8→Bool
 | 0,l=>l.isEmpty
 | n+1,l=>l.isEmpty||(width l != 0&&utfL n (l.drop (width l)))
def utfB (s : S) : Bool:=utfL s.data.toList.length s.data.toList
def riseB : List S→Bool
 | []=>true
 | [a]=>utfB a
 | a::b::l=>utfB a&&sLt a b&&riseB (b::l)
mutual
def heightT : Ty→Nat
 | .mk _ _ _ _ _ _ _ az os=>max (heightAs az) (heightOs os)
def heightAs : List Arr→Nat
 | []=>0
 | .mk t _ _::l=>max (heightT t+1) (heightAs l)
def heightOs : List Ob→Nat
 | []=>0
 | .mk _ fs _ r::l=>max (max (heightT r+1) (heightTs fs)) (heightOs l)
def heightTs : List Ty→Nat
 | []=>0
 | t::l=>max (heightT t+1) (heightTs l)
end
def laidAll : Ty:=.mk false true true true [⟨ByteArray.empty,ByteArray.empty⟩] true [] [.mk tEvery 0 (-1)] [.mk [] [] [] tEvery]
end Go.Tidy
namespace Go.Proofs.YtnlfgnelfooljaaGreatDoor.Pv
open Go Go.Tidy
def encStr (s : S) : List PV:=[.str s]
def encBool (b : Bool) : List PV:=[.bool b]
def encSpan (s : Span) : List PV:=[.str s.low,.str s.high]
mutual
def encTy : Ty→List PV
 | .mk a b c d nums e texts arrs objs=>[.bool a,.bool b,.bool c,.bool d,.vec 2 false (nums.map encSpan),.bool e,.vec 1 false (texts.map encStr),.vec 11 false (encArrs arrs),.vec 12 false (encObjs objs)]
def encArr : Arr→List PV
 | .mk t lo hi=>encTy t++[.int .i64 lo,.int .i64 hi]
def encObj : Ob→List PV
 | .mk ns fs ms r=>[.vec 1 false (ns.map encStr),.vec 9 false (encTys fs),.vec 1 false (ms.map encBool)]++encTy r
def encArrs : List Arr→List (List PV)
 | []=>[]
 | a::l=>encArr a::encArrs l
def encObjs : List Ob→List (List PV)
 | []=>[]
 | a::l=>encObj a::encObjs l
def encTys : List Ty→List (List PV)
 | []=>[]
 | a::l=>encTy a::encTys l
end
theorem encArrs_map (l : List Arr) : encArrs l=l.map encArr:=by induction l with | nil=>rfl | cons a l ih=>simp [encArrs,ih]
theorem encObjs_map (l : List Ob) : encObjs l=l.map encObj:=by induction l with | nil=>rfl | cons a l ih=>simp [encObjs,ih]
theorem encTys_map (l : List Ty) : encTys l=l.map encTy:=by induction l with | nil=>rfl | cons a l ih=>simp [encTys,ih]
abbrev cT (t : Ty) : List PV:=[.bool t.all,.bool t.null,.bool t.fls,.bool t.tru,.vec 2 false (t.nums.map encSpan),.bool t.any,.vec 1 false (t.texts.map encStr),.vec 11 false (t.arrays.map encArr),.vec 12 false (t.objects.map encObj)]
abbrev cA (a : Arr) : List PV:=[.bool a.item.all,.bool a.item.null,.bool a.item.fls,.bool a.item.tru,.vec 2 false (a.item.nums.map encSpan),.bool a.item.any,.vec 1 false (a.item.texts.map encStr),.vec 11 false (a.item.arrays.map encArr),.vec 12 false (a.item.objects.map encObj),.int .i64 a.min,.int .i64 a.max]
abbrev cO (o : Ob) : List PV:=[.vec 1 false (o.names.map encStr),.vec 9 false (o.fields.map encTy),.vec 1 false (o.must.map encBool),.bool o.rest.all,.bool o.rest.null,.bool o.rest.fls,.bool o.rest.tru,.vec 2 false (o.rest.nums.map encSpan),.bool o.rest.any,.vec 1 false (o.rest.texts.map encStr),.vec 11 false (o.rest.arrays.map encArr),.vec 12 false (o.rest.objects.map encObj)]
theorem encTy_eq (t : Ty) : encTy t=cT t:=by
 cases t; simp [encTy,encArrs_map,encObjs_map,Ty.all,Ty.null,Ty.fls,Ty.tru,Ty.nums,Ty.any,Ty.texts,Ty.arrays,Ty.objects]
theorem encArr_eq (a : Arr) : encArr a=cA a:=by
 cases a; simp [encArr,encTy_eq,Arr.item,Arr.min,Arr.max]
theorem encObj_eq (o : Ob) : encObj o=cO o:=by
 cases o; simp [encObj,encTy_eq,encTys_map,Ob.names,Ob.fields,Ob.must,Ob.rest]
attribute [simp] encTy_eq encArr_eq encObj_eq encStr encBool encSpan
theorem wrap64 {n : Int} (h1 : -9223372036854775808≤n) (h2 : n≤9223372036854775807) : IntKind.i64.wrap n=n:=by
 simp only [IntKind.wrap,IntKind.bits,IntKind.signed]
 simp
 omega
end Go.Proofs.YtnlfgnelfooljaaGreatDoor.Pv
namespace Go.Tidy
def Q3 (p q r : Ordering) : Prop:=(p.isLE=true→q.isLE=true→r.isLE=true)∧(p=.eq→q=.eq→r=.eq)∧(p.isLE=true→q.isLE=true→r=.eq→p=.eq∧q=.eq)
instance (p q r : Ordering) : Decidable (Q3 p q r):=by unfold Q3; infer_instance
theorem Q3.then {p q r p' q' r' : Ordering} (h : Q3 p q r) (k : Q3 p' q' r') : Q3 (p.then p') (q.then q') (r.then r'):=by
 revert p q r p' q' r'
 decide
theorem sExt {a b : S} (h : a.data.toList=b.data.toList) : a=b:=ByteArray.ext (Array.ext' h)
theorem sEq_iff {a b : S} : sEq a b=true↔a=b:=⟨fun h=>sExt (by simpa [sEq] using h),fun h=>by subst h; simp [sEq]⟩
theorem sEmp_iff {a : S} : sEmp a=true↔a=ByteArray.empty:=by
 unfold sEmp
 rw [List.isEmpty_iff]
 exact ⟨fun h=>sExt (by rw [h]; rfl),fun h=>by subst h; rfl⟩
end Go.Tidy
namespace Go.Tidy
end Go.Tidy
namespace Go.Tidy
open Go
end Go.Tidy
namespace Go.Tidy
open Go
end Go.Tidy
namespace Go.Tidy
open Go
end Go.Tidy
namespace Go.Tidy
open Go
def hle (n : Nat) (o : Ob) : Prop:=heightT o.rest≤n∧∀ f ∈ o.fields,heightT f≤n
end Go.Tidy
namespace Go.Proofs.YtnlfgnelfooljaaGreatDoor.Pv
open Go Go.Tidy
def oInt : Ordering→Int
 | .lt=>-1
 | .eq=>0
 | .gt=>1
@[simp] theorem oInt_lt : oInt .lt=-1:=rfl
@[simp] theorem oInt_eq : oInt .eq=0:=rfl
@[simp] theorem oInt_gt : oInt .gt=1:=rfl
def bs (l : List UInt8) : S:=⟨l.toArray⟩
theorem bs_toList (s : S) : bs s.data.toList=s:=by unfold bs; simp
@[simp] theorem bs_data (l : List UInt8) : (bs l).data.toList=l:=by simp [bs]
@[simp] theorem bs_size (l : List UInt8) : (bs l).size=l.length:=by simp [bs,ByteArray.size]
@[simp] theorem bs_get (l : List UInt8) (i : Nat) : (bs l).data[i]? = l[i]? := by simp [bs]
@[simp] theorem bs_getE (l : List UInt8) (i : Nat) (h : i < (bs l).data.size) : (bs l).data[i]=l[i]'(by simpa [bs] using h):=by simp [bs]
theorem u8_eq {c : UInt8} (d : UInt8) : ((c.toNat : Int)=(d.toNat : Int))↔c=d:=by rw [Int.natCast_inj]; exact UInt8.toNat_inj
@[simp] theorem u8_45 {c : UInt8} : ((c.toNat : Int)=45)↔c=45:=u8_eq 45
@[simp] theorem u8_48 {c : UInt8} : ((c.toNat : Int)=48)↔c=48:=u8_eq 48
@[simp] theorem u8_lt48 {c : UInt8} : ((c.toNat : Int) < 48)↔¬ 48≤c:=by rw [UInt8.le_iff_toNat_le]; simp; omega
@[simp] theorem u8_gt57 {c : UInt8} : (57 < (c.toNat : Int))↔¬ c≤57:=by rw [UInt8.le_iff_toNat_le]; simp; omega
theorem strLt_eq (a b : S) : strLt a b=sLt a b:=rfl
theorem strEq_eq (a b : S) : strEq a b=sEq a b:=rfl
attribute [simp] strLt_eq strEq_eq
theorem bs_extract (l : List UInt8) (a b : Nat) : (bs l).extract a b=bs ((l.drop a).take (b - a)):=by
 unfold bs
 apply ByteArray.ext
 apply Array.ext'
 simp [ByteArray.data_extract,List.extract_eq_take_drop]
theorem sEq_lit (l m : List UInt8) : sEq (bs l) ⟨m.toArray⟩=(l == m):=by simp [sEq]
theorem numB_eq {l d : List UInt8} (hd : digs (bs l)=d) (h : l ≠ [48]) : numB (bs l)=(d.all isDig&&!d.isEmpty&&d.head? != some 48):=by
 unfold numB
 rw [hd]
 have : (l == [48])=false:=by simpa using h
 simp [this]
theorem take_all {α : Type} {p : α→Bool} {d : List α} {i : Nat} (hi : i < d.length) (h : (d.take i).all p=true) : (d.take (i+1)).all p=p d[i]:=by
 rw [List.take_add_one,List.getElem?_eq_getElem hi]
 simp only [Option.toList_some,List.all_append,h,List.all_cons,List.all_nil,Bool.and_true,Bool.true_and]
theorem all_false {α : Type} {p : α→Bool} {d : List α} {i : Nat} (hi : i < d.length) (h : p d[i]=false) : d.all p=false:=by
 rw [List.all_eq_false]
 exact ⟨d[i],List.getElem_mem hi,by simp [h]⟩
theorem isDig_iff {c : UInt8} : isDig c=true↔48≤c∧c≤57:=by simp [isDig]
theorem c_tens_Formed (s : S) : Ret prog M.F_tens_Formed [.str s] (.bool (numB s)):=by
 obtain ⟨l,rfl⟩ : ∃ l,s=bs l:=⟨_,(bs_toList s).symm⟩
 refine Ret.go hmix h_tens_Formed (by simp) fun hb w0 F0 hG=>?_
 simp only [bndL,bndV,bs_size,LIM,and_true] at hb
 simp +contextual [sEq_lit]
 refine ⟨fun h=>?_,fun h=>?_⟩
 ·subst h; decide
 ·refine XCut.one hmix ⟨[(0,.str (bs (digs (bs l)))),(2,.bool false)],[]⟩ ?_ ?_
  ·match l with
   | []=>simp +contextual [sEq_lit,digs,neg]
   | c::m=>simp +contextual [sEq_lit,digs,neg,bs_extract]; omega
  ·have hdl : (digs (bs l)).length≤l.length:=by unfold digs; split <;> simp
   generalize hd : digs (bs l)=d at hdl
   rw [numB_eq hd h]
   match d with
   | []=>simp +contextual [sEq_lit]
   | c::m =>
     simp +contextual [sEq_lit]
     intro hc
     have hn : (c::m).length≤140737488355328:=by omega
     have hc' : (some c != some (48 : UInt8))=true:=by simpa using hc
     rw [hc',Bool.and_true]
     have e : (isDig c&&m.all isDig)=(c::m).all isDig:=by simp
     rw [e]
     obtain ⟨J,hJ⟩ : ∃ J : Nat→Unit→Prop,J=fun i _=>((c::m).take i).all isDig=true:=⟨_,rfl⟩
     refine XLoop.cnt hmix (c::m).length (fun i _=>⟨[(24,.int .i64 i),(23,.int .i64 (c::m).length),(0,.str (bs (c::m))),(2,.bool false)],[]⟩) J () (by rw [hJ]; rfl) (by simp) fun i _ hi hj=>?_
     clear e hdl hd hc hc'
     generalize c::m=l1 at *
     have hw:=wrap64 (n:=(i : Int)+1) (by omega) (by omega)
     by_cases h1 : i < l1.length
     ·by_cases hd' : isDig l1[i]=true
      ·obtain ⟨k1,k2⟩:=isDig_iff.1 hd'
       simp +contextual [h1,hw,k1,k2,UInt8.not_lt.2 k1,UInt8.not_lt.2 k2]
       refine ⟨(),?_⟩
       subst hJ
       show (l1.take (i+1)).all isDig=true
       rw [take_all h1 hj]; exact hd'
      ·have k1 : ∃ x,x ∈ l1∧isDig x=false:=⟨_,List.getElem_mem h1,by simpa using hd'⟩
       have k2 : 48≤l1[i]→¬ l1[i]≤57:=fun h h'=>hd' (isDig_iff.2 ⟨h,h'⟩)
       simp +contextual [h1,hw,k1,k2]
     ·have : i=l1.length:=by omega
      subst hJ
      have hj1 : (l1.take i).all isDig=true:=hj
      simp only [this,List.take_length,List.all_eq_true] at hj1
      simp +contextual [h1]
      exact hj1
end Go.Proofs.YtnlfgnelfooljaaGreatDoor.Pv
namespace Go.Proofs.YtnlfgnelfooljaaGreatDoor.Pv
open Go Go.Tidy
section
variable {α : Type} {g : α→α→Ordering} {a b : List α} {i : Nat}
theorem lex_step (h1 : i < a.length) (h2 : i < b.length) : lexC g (a.drop i) (b.drop i)=(g a[i] b[i]).then (lexC g (a.drop (i+1)) (b.drop (i+1))):=by
 rw [List.drop_eq_getElem_cons h1,List.drop_eq_getElem_cons h2]; rfl
end
theorem then_ne {p q : Ordering} (h : p ≠ .eq) : p.then q=p:=by cases p <;> simp_all [Ordering.then]
theorem then_e {p q : Ordering} (h : p=.eq) : p.then q=q:=by subst h; rfl
end Go.Proofs.YtnlfgnelfooljaaGreatDoor.Pv
namespace Go.Proofs.YtnlfgnelfooljaaGreatDoor.Pv
open Go Go.Tidy
end Go.Proofs.YtnlfgnelfooljaaGreatDoor.Pv
namespace Go.Proofs.YtnlfgnelfooljaaGreatDoor.Pv
open Go Go.Tidy
end Go.Proofs.YtnlfgnelfooljaaGreatDoor.Pv
set_option maxRecDepth 100000
namespace Go.Proofs.YtnlfgnelfooljaaGreatDoor.Pv
open Go Go.Tidy
def encInt (n : Int) : List PV:=[.int .i64 n]
attribute [simp] encInt
theorem sEq_emp (a : S) : sEq a ⟨#[]⟩=sEmp a:=by
 rw [Bool.eq_iff_iff,sEq_iff,sEmp_iff]; rfl
attribute [simp] sEq_emp
end Go.Proofs.YtnlfgnelfooljaaGreatDoor.Pv
namespace Go.Proofs.YtnlfgnelfooljaaGreatDoor.Pv
open Go Go.Tidy
theorem c_ref03_Number (s : S) : Ret prog M.F_ref03_Number [.str s] (.bool (numB s)):=by
 obtain ⟨l,rfl⟩ : ∃ l,s=bs l:=⟨_,(bs_toList s).symm⟩
 refine Ret.go hmix h_ref03_Number (by simp) fun hb w0 F0 hG=>?_
 simp only [bndL,bndV,bs_size,LIM,and_true] at hb
 simp
 refine XCut.one hmix ⟨[(0,.str (bs l)),(2,.bool false),(3,.str (bs (digs (bs l))))],[]⟩ ?_ ?_
 ·match l with
  | []=>simp +contextual [digs,neg]
  | c::m=>simp +contextual [digs,neg,bs_extract]; omega
 ·have hdl : (digs (bs l)).length≤l.length:=by unfold digs; split <;> simp
  have hnum : numB (bs l)=((digs (bs l)).all isDig&&!(digs (bs l)).isEmpty&&((digs (bs l)).head? != some 48||l == [48])):=by unfold numB; simp
  rw [hnum]
  generalize digs (bs l)=d at *
  obtain ⟨J,hJ⟩ : ∃ J : Nat→Unit→Prop,J=fun i _=>(d.take i).all isDig=true:=⟨_,rfl⟩
  simp
  refine XLoop.cnt hmix d.length (fun i _=>⟨[(4,.int .i64 i),(3,.str (bs d)),(0,.str (bs l)),(2,.bool false)],[]⟩) J () (by rw [hJ]; rfl) (by simp) fun i _ hi hj=>?_
  have hw:=wrap64 (n:=(i : Int)+1) (by omega) (by omega)
  by_cases h1 : i < d.length
  ·by_cases hd' : isDig d[i]=true
   ·obtain ⟨k1,k2⟩:=isDig_iff.1 hd'
    simp +contextual [h1,hw,k1,k2,UInt8.not_lt.2 k1,UInt8.not_lt.2 k2]
    refine ⟨(),?_⟩
    subst hJ
    show (d.take (i+1)).all isDig=true
    rw [take_all h1 hj]; exact hd'
   ·have k1 : d.all isDig=false:=all_false h1 (by simpa using hd')
    rw [k1,Bool.false_and,Bool.false_and]
    have k2 : 48≤d[i]→¬ d[i]≤57:=fun h h'=>hd' (isDig_iff.2 ⟨h,h'⟩)
    simp +contextual [h1,hw,k2]
  ·have : i=d.length:=by omega
   subst hJ
   have hj1 : (d.take i).all isDig=true:=hj
   simp only [this,List.take_length] at hj1
   simp only [hj1,Bool.true_and]
   subst this
   clear hnum hw h1 hj hj1 hi
   cases d with
   | nil=>simp
   | cons c m =>
     have hz : ¬ ((m.length : Int)+1=0):=by omega
     have hz' : ((m.length : Int)+1 == 0)=false:=by simpa using hz
     by_cases hc : c=48
     ·subst hc
      by_cases hl : l=[48]
      ·simp [sEq_lit,hz,hz',hl]
      ·simp [sEq_lit,hz,hz',hl]
     ·have hc' : ((c.toNat : Int) == 48)=false:=by simpa using hc
      simp [sEq_lit,hz,hz',hc,hc']
end Go.Proofs.YtnlfgnelfooljaaGreatDoor.Pv
set_option maxRecDepth 100000
namespace Go.Proofs.YtnlfgnelfooljaaGreatDoor.Pv
open Go Go.Tidy
end Go.Proofs.YtnlfgnelfooljaaGreatDoor.Pv
set_option maxRecDepth 100000
namespace Go.Proofs.YtnlfgnelfooljaaGreatDoor.Pv
open Go Go.Tidy
def Upto {α : Type} (g : α→α→Ordering) (r : Ordering) (a b : List α) (i : Nat) (p : Ordering) : Prop :=
 (p=.eq→r=.eq∧lexC g a b=lexC g (a.drop i) (b.drop i))∧(p ≠ .eq→p=r.then (lexC g a b))
theorem Upto.step {α : Type} {g : α→α→Ordering} {r : Ordering} {a b : List α} {i : Nat} (h : Upto g r a b i .eq) (h1 : i < a.length) (h2 : i < b.length) : Upto g r a b (i+1) (g a[i] b[i]):=by
 obtain ⟨hr,hl⟩:=h.1 rfl
 refine ⟨fun h=>⟨hr,by rw [hl,lex_step h1 h2,then_e h]⟩,fun h=>by rw [then_e hr,hl,lex_step h1 h2,then_ne h]⟩
end Go.Proofs.YtnlfgnelfooljaaGreatDoor.Pv
set_option maxRecDepth 100000
namespace Go.Proofs.YtnlfgnelfooljaaGreatDoor.Pv
open Go Go.Tidy
theorem u8_le {c d : UInt8} : ((c.toNat : Int)≤(d.toNat : Int))↔c≤d:=by rw [UInt8.le_iff_toNat_le]; omega
theorem u8_lt {c d : UInt8} : ((c.toNat : Int) < (d.toNat : Int))↔c < d:=by rw [UInt8.lt_iff_toNat_lt]; omega
@[simp] theorem u8_lt128 {c : UInt8} : ((c.toNat : Int) < 128)↔c < 128:=u8_lt (d:=128)
@[simp] theorem u8_gt191 {c : UInt8} : (191 < (c.toNat : Int))↔191 < c:=u8_lt (c:=191)
@[simp] theorem u8_e224 {c : UInt8} : ((c.toNat : Int)=224)↔c=224:=u8_eq 224
@[simp] theorem u8_e237 {c : UInt8} : ((c.toNat : Int)=237)↔c=237:=u8_eq 237
@[simp] theorem u8_e240 {c : UInt8} : ((c.toNat : Int)=240)↔c=240:=u8_eq 240
@[simp] theorem u8_e244 {c : UInt8} : ((c.toNat : Int)=244)↔c=244:=u8_eq 244
@[simp] theorem u8_ge194 {c : UInt8} : (194≤(c.toNat : Int))↔194≤c:=u8_le (c:=194)
@[simp] theorem u8_ge224 {c : UInt8} : (224≤(c.toNat : Int))↔224≤c:=u8_le (c:=224)
@[simp] theorem u8_ge240 {c : UInt8} : (240≤(c.toNat : Int))↔240≤c:=u8_le (c:=240)
@[simp] theorem u8_le223 {c : UInt8} : ((c.toNat : Int)≤223)↔c≤223:=u8_le (d:=223)
@[simp] theorem u8_le239 {c : UInt8} : ((c.toNat : Int)≤239)↔c≤239:=u8_le (d:=239)
@[simp] theorem u8_le244 {c : UInt8} : ((c.toNat : Int)≤244)↔c≤244:=u8_le (d:=244)
theorem trail_fail {l : List UInt8} {i n k : Nat} {lo hi : UInt8} (hk : k < n) (h : i+k < l.length) (hc : ¬ (128≤l[i+k]∧l[i+k]≤191)) : trail (l.drop i) n lo hi=false:=by
 have : ((l.drop i).take n).all (fun c=>128≤c&&c≤191)=false:=by
  rw [List.all_eq_false]
  refine ⟨l[i+k],?_,by simpa using hc⟩
  rw [List.mem_iff_getElem?]
  exact ⟨k,by rw [List.getElem?_take_of_lt hk,List.getElem?_drop,List.getElem?_eq_getElem h]⟩
 simp [trail,this]
theorem c_ref03_trail (l : List UInt8) (i n : Nat) (lo hi : UInt8) (hn : 1≤n) (hn' : n≤3) (hi' : i≤l.length) : Ret prog M.F_ref03_trail [.str (bs l),.int .i64 i,.int .i64 n,.int .u8 lo.toNat,.int .u8 hi.toNat] (.bool (trail (l.drop i) n lo hi)):=by
 refine Ret.go hmix h_ref03_trail (by simp) fun hb w0 F0 hG=>?_
 simp only [bndL,bndV,bs_size,LIM,and_true] at hb
 have w1:=wrap64 (n:=(i : Int)+n) (by omega) (by omega)
 by_cases h : i+n≤l.length
 ·have h' : ¬ ((l.length : Int) < (i : Int)+n):=by omega
  simp [w1,h']
  obtain ⟨J,hJ⟩ : ∃ J : Nat→Unit→Prop,J=fun k _=>((l.drop i).take k).all (fun c=>128≤c&&c≤191)=true:=⟨_,rfl⟩
  refine XLoop.cnt hmix n (fun k _=>⟨[(11,.int .i64 k),(0,.str (bs l)),(1,.int .i64 i),(2,.int .i64 n),(3,.int .u8 lo.toNat),(4,.int .u8 hi.toNat)],[]⟩) J () (by simp [hJ]) (by simp) fun k _ hk hj=>?_
  have hw:=wrap64 (n:=(k : Int)+1) (by omega) (by omega)
  have hw2:=wrap64 (n:=(i : Int)+k) (by omega) (by omega)
  have hj' : ((l.drop i).take k).all (fun c=>128≤c&&c≤191)=true:=by subst hJ; exact hj
  have e0 : ((i : Int)+(k : Int)).toNat=i+k:=by omega
  by_cases h1 : k < n
  ·have h2 : i+k < l.length:=by omega
   have h3 : (i : Int)+k < l.length:=by omega
   have h4 : (0 : Int)≤(i : Int)+k:=by omega
   by_cases hc : 128≤l[i+k]∧l[i+k]≤191
   ·have k1 : ¬ l[i+k] < 128:=UInt8.not_lt.2 hc.1
    have k2 : ¬ 191 < l[i+k]:=UInt8.not_lt.2 hc.2
    simp [h1,hw,hw2,e0,h2,h3,h4,k1,k2]
    refine ⟨(),?_⟩
    subst hJ
    show ((l.drop i).take (k+1)).all _=true
    rw [take_all (by simp; omega) hj']
    simpa using hc
   ·rw [trail_fail h1 h2 hc]
    have k12 : l[i+k] < 128∨191 < l[i+k]:=by
     rcases UInt8.lt_or_le l[i+k] 128 with k1 | k1
     ·exact .inl k1
     ·rcases UInt8.lt_or_le 191 l[i+k] with k2 | k2
      ·exact .inr k2
      ·exact absurd ⟨k1,k2⟩ hc
    rcases k12 with k1 | k1
    ·simp [h1,hw,hw2,e0,h2,h3,h4,k1]
    ·by_cases k2 : l[i+k] < 128
     ·simp [h1,hw,hw2,e0,h2,h3,h4,k2]
     ·simp [h1,hw,hw2,e0,h2,h3,h4,k1,k2]
  ·have : k=n:=by omega
   subst this
   have hil : i < l.length:=by omega
   have e : trail (l.drop i) k lo hi=(decide (lo≤l[i])&&decide (l[i]≤hi)):=by
    unfold trail
    rw [hj',List.drop_eq_getElem_cons hil]
    have : k≤(l[i]::l.drop (i+1)).length:=by simp; omega
    rw [decide_eq_true this]; rfl
   rw [e]
   by_cases k1 : lo≤l[i]
   ·have k1' : lo.toNat≤l[i].toNat:=UInt8.le_iff_toNat_le.1 k1
    have k2 : decide (l[i].toNat≤hi.toNat)=decide (l[i]≤hi):=by simp [UInt8.le_iff_toNat_le]
    simp [hil,k1,k1',k2]
   ·have k1' : ¬ lo.toNat≤l[i].toNat:=fun h=>k1 (UInt8.le_iff_toNat_le.2 h)
    simp [hil,k1,k1']
 ·have h' : ((l.length : Int) < (i : Int)+n):=by omega
  have e : trail (l.drop i) n lo hi=false:=by
   have : ¬ n≤l.length - i:=by omega
   simp [trail,this]
  rw [e]
  simp [w1,h']
theorem trail_len {l : List UInt8} {n : Nat} {lo hi : UInt8} (h : trail l n lo hi=true) : n≤l.length:=by
 simp [trail] at h; exact h.1.1
theorem width_len (l : List UInt8) : width l≤l.length:=by
 cases l with
 | nil=>simp [width]
 | cons c l =>
   simp only [width]
   repeat' split
   all_goals first
     | (simp; done)
     | (rename_i h; simp only [Bool.and_eq_true] at h; have:=trail_len h.2; simp; omega)
theorem width_end {w0 : World} {F0 : Nat→Prop} {hG : GOk prog w0 F0} (l : List UInt8) (i c lo hi : Nat) (T : Nat→Bool) (w1' : IntKind.i64.wrap ((i : Int)+1)=((i+1 : Nat) : Int))
 (tr : ∀ n : Nat,1≤n→n≤3→Ret prog M.F_ref03_trail [.str (bs l),.int .i64 ((i+1 : Nat) : Int),.int .i64 n,.int .u8 lo,.int .u8 hi] (.bool (T n))) (W : Nat)
 (hW : W=if 224≤c∧c≤239∧T 2=true then 3 else if 240≤c∧c≤244∧T 3=true then 4 else 0) :
 XC ⟨prog,w0,F0,61,[],0,hG⟩ M.t_ref03_width_0 ⟨[(5,.int .u8 c),(6,.int .u8 lo),(7,.int .u8 hi),(0,.str (bs l)),(1,.int .i64 i)],[]⟩ [] (retIs M.rs_ref03_width (.int .i64 W)):=by
 by_cases g1 : 224≤c
 ·have g1' : (224 : Int)≤c:=by omega
  by_cases g2 : c≤239
  ·have g2' : (c : Int)≤239:=by omega
   have n1 : ¬ 240≤c:=by omega
   have n1' : ¬ (240 : Int)≤c:=by omega
   simp [g1',g2',n1',w1']
   refine XCall.ret (tr 2 (by omega) (by omega)) ?_
   cases ht : T 2
   ·simp [n1',hW,n1,ht]
   ·simp [hW,g1,g2,ht]
  ·have g2' : ¬ (c : Int)≤239:=by omega
   have g3 : 240≤c:=by omega
   have g3' : (240 : Int)≤c:=by omega
   by_cases g4 : c≤244
   ·have g4' : (c : Int)≤244:=by omega
    simp [g1',g2',g3',g4',w1']
    refine XCall.ret (tr 3 (by omega) (by omega)) ?_
    cases ht : T 3 <;> simp [hW,g2,g3,g4,ht]
   ·have g4' : ¬ (c : Int)≤244:=by omega
    simp [g1',g2',g3',g4',hW,g2,g3,g4]
 ·have g1' : ¬ (224 : Int)≤c:=by omega
  have n1 : ¬ 240≤c:=by omega
  have n1' : ¬ (240 : Int)≤c:=by omega
  simp [g1',n1',hW,n1,g1]
theorem width_tail {w0 : World} {F0 : Nat→Prop} {hG : GOk prog w0 F0} (l d : List UInt8) (i : Nat) (c : UInt8) (w1' : IntKind.i64.wrap ((i : Int)+1)=((i+1 : Nat) : Int))
 (tr : ∀ (n : Nat) (lo hi : UInt8),1≤n→n≤3→Ret prog M.F_ref03_trail [.str (bs l),.int .i64 ((i+1 : Nat) : Int),.int .i64 n,.int .u8 lo.toNat,.int .u8 hi.toNat] (.bool (trail d n lo hi))) (s : List (Nat × PV))
 (e5 : lk 5 s=.int .u8 c.toNat) (e6 : lk 6 s=.int .u8 128) (e7 : lk 7 s=.int .u8 191) (e0 : lk 0 s=.str (bs l)) (e1 : lk 1 s=.int .i64 i) :
 XCut ⟨prog,w0,F0,61,[],0,hG⟩ M.c_ref03_width_0 ⟨s,[]⟩ [.sq M.t_ref03_width_3] (retIs M.rs_ref03_width (.int .i64 (if 224≤c&&c≤239&&trail d 2 (if c == 224 then 160 else 128) (if c == 237 then 159 else 191) then 3 else if 240≤c&&c≤244&&trail d 3 (if c == 240 then 144 else 128) (if c == 244 then 143 else 191) then 4 else 0 : Nat))):=by
 refine XCut.one hmix ⟨[(5,.int .u8 c.toNat),(6,.int .u8 ((if c=224 then 160 else 128 : UInt8).toNat : Int)),(7,.int .u8 ((191 : UInt8).toNat : Int)),(0,.str (bs l)),(1,.int .i64 i)],[]⟩ ?_ ?_
 ·by_cases h : c=224 <;> simp [e5,e6,e7,e0,e1,h]
 simp
 refine XCut.one hmix ⟨[(5,.int .u8 c.toNat),(6,.int .u8 ((if c=224 then 160 else 128 : UInt8).toNat : Int)),(7,.int .u8 ((if c=237 then 159 else 191 : UInt8).toNat : Int)),(0,.str (bs l)),(1,.int .i64 i)],[]⟩ ?_ ?_
 ·by_cases h : c=237 <;> simp [h]
 simp
 refine XCut.one hmix ⟨[(5,.int .u8 c.toNat),(6,.int .u8 ((if c=240 then 144 else (if c=224 then 160 else 128) : UInt8).toNat : Int)),(7,.int .u8 ((if c=237 then 159 else 191 : UInt8).toNat : Int)),(0,.str (bs l)),(1,.int .i64 i)],[]⟩ ?_ ?_
 ·by_cases h : c=240 <;> simp [h]
 simp
 refine XCut.one hmix ⟨[(5,.int .u8 c.toNat),(6,.int .u8 ((if c=240 then 144 else (if c=224 then 160 else 128) : UInt8).toNat : Int)),(7,.int .u8 ((if c=244 then 143 else (if c=237 then 159 else 191) : UInt8).toNat : Int)),(0,.str (bs l)),(1,.int .i64 i)],[]⟩ ?_ ?_
 ·by_cases h : c=244 <;> simp [h]
 rw [XE_sq]
 refine width_end l i c.toNat _ _ (fun n=>trail d n (if c=240 then 144 else (if c=224 then 160 else 128)) (if c=244 then 143 else (if c=237 then 159 else 191))) w1' (fun n h1 h2=>tr n _ _ h1 h2) _ ?_
 have q1 : (224≤c)=(224≤c.toNat):=by rw [UInt8.le_iff_toNat_le]; rfl
 have q2 : (c≤239)=(c.toNat≤239):=by rw [UInt8.le_iff_toNat_le]; rfl
 have q3 : (240≤c)=(240≤c.toNat):=by rw [UInt8.le_iff_toNat_le]; rfl
 have q4 : (c≤244)=(c.toNat≤244):=by rw [UInt8.le_iff_toNat_le]; rfl
 simp only [q1,q2,q3,q4,Bool.and_eq_true,decide_eq_true_eq,beq_iff_eq,and_assoc]
 by_cases g1 : c.toNat≤239
 ·have n1 : ¬ 240≤c.toNat:=by omega
  have n2 : ¬ c=240:=fun e=>n1 (by rw [e]; decide)
  have n3 : ¬ c=244:=fun e=>n1 (by rw [e]; decide)
  simp [n1,n2,n3]
 ·have n2 : ¬ c=224:=fun e=>g1 (by rw [e]; decide)
  have n3 : ¬ c=237:=fun e=>g1 (by rw [e]; decide)
  simp [g1,n2,n3]
theorem c_ref03_width (l : List UInt8) (i : Nat) (hi : i < l.length) : Ret prog M.F_ref03_width [.str (bs l),.int .i64 i] (.int .i64 (width (l.drop i))):=by
 refine Ret.go hmix h_ref03_width (by simp) fun hb w0 F0 hG=>?_
 simp only [bndL,bndV,bs_size,LIM,and_true] at hb
 have w1:=wrap64 (n:=(i : Int)+1) (by omega) (by omega)
 have w1' : IntKind.i64.wrap ((i : Int)+1)=((i+1 : Nat) : Int):=by rw [w1]; omega
 have e0 : l.drop i=l[i]::l.drop (i+1):=List.drop_eq_getElem_cons hi
 have tr : ∀ (n : Nat) (lo hi : UInt8),1≤n→n≤3→Ret prog M.F_ref03_trail [.str (bs l),.int .i64 ((i+1 : Nat) : Int),.int .i64 n,.int .u8 lo.toNat,.int .u8 hi.toNat] (.bool (trail (l.drop (i+1)) n lo hi)):=fun n lo hi' h1 h2=>c_ref03_trail l (i+1) n lo hi' h1 h2 (by omega)
 rw [e0]
 generalize hc : l[i]=c
 generalize hd : l.drop (i+1)=d at *
 by_cases h1 : c < 128
 ·simp [hi,hc,h1,width]
 ·have hw : width (c::d)=if 194≤c&&c≤223&&trail d 1 128 191 then 2 else (if 224≤c&&c≤239&&trail d 2 (if c == 224 then 160 else 128) (if c == 237 then 159 else 191) then 3 else if 240≤c&&c≤244&&trail d 3 (if c == 240 then 144 else 128) (if c == 244 then 143 else 191) then 4 else 0):=by
     simp only [width]; rw [if_neg h1]
  rw [hw]
  generalize hW : (if 224≤c&&c≤239&&trail d 2 (if c == 224 then 160 else 128) (if c == 237 then 159 else 191) then 3 else if 240≤c&&c≤244&&trail d 3 (if c == 240 then 144 else 128) (if c == 244 then 143 else 191) then 4 else 0)=W
  have tail:=width_tail (w0:=w0) (F0:=F0) (hG:=hG) l d i c w1' tr
  rw [hW] at tail
  by_cases h2 : 194≤c
  ·by_cases h3 : c≤223
   ·simp [hi,hc,h1,h2,h3,w1']
    refine XCall.ret (tr 1 128 191 (by omega) (by omega)) ?_
    cases ht : trail d 1 128 191
    ·simp
     exact tail _ (by simp) (by simp) (by simp) (by simp) (by simp)
    ·simp
   ·simp [hi,hc,h1,h2,h3]
    exact tail _ (by simp) (by simp) (by simp) (by simp) (by simp)
  ·simp [hi,hc,h1,h2]
   exact tail _ (by simp) (by simp) (by simp) (by simp) (by simp)
end Go.Proofs.YtnlfgnelfooljaaGreatDoor.Pv
set_option maxRecDepth 100000
namespace Go.Proofs.YtnlfgnelfooljaaGreatDoor.Pv
open Go Go.Tidy
theorem utfL_nil (n : Nat) : utfL n []=true:=by cases n <;> simp [utfL]
theorem utfL_fuel : ∀ (n m : Nat) (l : List UInt8),l.length≤n→l.length≤m→utfL n l=utfL m l
 | _,_,[],_,_=>by rw [utfL_nil,utfL_nil]
 | 0,_,c::l,h,_=>by simp at h
 | _,0,c::l,_,h=>by simp at h
 | n+1,m+1,c::l,h,h'=>by
   simp only [utfL]
   by_cases hw : width (c::l)=0
   ·simp [hw]
   ·have h1:=width_len (c::l)
    have : utfL n ((c::l).drop (width (c::l)))=utfL m ((c::l).drop (width (c::l))):=by
     apply utfL_fuel
     ·simp only [List.length_drop] at *; omega
     ·simp only [List.length_drop] at *; omega
    rw [this]
theorem utfL_step {l : List UInt8} (hl : l ≠ []) : utfL l.length l=(width l != 0&&utfL (l.drop (width l)).length (l.drop (width l))):=by
 cases l with
 | nil=>exact absurd rfl hl
 | cons c l =>
   show utfL (l.length+1) (c::l)=_
   simp only [utfL,List.isEmpty_cons,Bool.false_or]
   by_cases hw : width (c::l)=0
   ·simp [hw]
   ·congr 1
    exact utfL_fuel _ _ _ (by simp only [List.length_drop,List.length_cons]; omega) (Nat.le_refl _)
theorem c_ref03_UTF (a : S) : Ret prog M.F_ref03_UTF [.str a] (.bool (utfB a)):=by
 obtain ⟨l,rfl⟩ : ∃ l,a=bs l:=⟨a.data.toList,by simp [bs]⟩
 refine Ret.go hmix h_ref03_UTF (by simp) fun hb w0 F0 hG=>?_
 simp only [bndL,bndV,bs_size,LIM,and_true] at hb
 have e : utfB (bs l)=utfL l.length l:=by simp [utfB,bs]
 rw [e]
 simp
 obtain ⟨J,hJ⟩ : ∃ J : Nat→Prop,J=fun i=>i≤l.length∧utfL l.length l=utfL (l.drop i).length (l.drop i):=⟨_,rfl⟩
 refine XLoop.go hmix (fun i : Nat=>⟨[(3,.int .i64 i),(0,.str (bs l))],[]⟩) J (fun i=>l.length - i) 0 (by simp [hJ]) (by simp) fun i hj=>?_
 obtain ⟨hi,hj'⟩ : i≤l.length∧utfL l.length l=utfL (l.drop i).length (l.drop i):=by rw [hJ] at hj; exact hj
 by_cases h1 : i < l.length
 ·have hne : l.drop i ≠ []:=by simp; omega
  simp [h1]
  refine XCall.ret (c_ref03_width l i h1) ?_
  have hwl:=width_len (l.drop i)
  simp only [List.length_drop] at hwl
  rw [utfL_step hne] at hj'
  by_cases hw : width (l.drop i)=0
  ·simp [hw,hj']
  ·have w1:=wrap64 (n:=(i : Int)+width (l.drop i)) (by omega) (by omega)
   have e1 : ((i : Int)+(width (l.drop i) : Int))=((i+width (l.drop i) : Nat) : Int):=by omega
   simp [hw,w1]
   refine ⟨i+width (l.drop i),?_,by omega,by omega⟩
   rw [hJ]
   refine ⟨by omega,?_⟩
   rw [hj']
   simp [hw,Nat.add_comm]
 ·have : l.drop i=[]:=by simp; omega
  simp [h1,hj',this,utfL_nil]
theorem riseB_at {l : List S} {i : Nat} (hi : i < l.length) : riseB l=true→utfB l[i]=true∧∀ h : 0 < i,sLt (l[i - 1]'(by omega)) l[i]=true:=by
 intro h
 induction l generalizing i with
 | nil=>simp at hi
 | cons a l ih =>
   cases l with
   | nil =>
     have : i=0:=by simp at hi; exact hi
     subst this; simp [riseB] at h; simp [h]
   | cons b l =>
     simp [riseB] at h
     cases i with
     | zero=>exact ⟨h.1.1,fun h'=>absurd h' (by omega)⟩
     | succ i =>
       have:=ih (i:=i) (by simpa using hi) h.2
       refine ⟨this.1,fun _=>?_⟩
       cases i with
       | zero=>exact h.1.2
       | succ j=>exact this.2 (by omega)
theorem riseB_of {l : List S} (h : ∀ i (hi : i < l.length),utfB l[i]=true∧∀ h : 0 < i,sLt (l[i - 1]'(by omega)) l[i]=true) : riseB l=true:=by
 induction l with
 | nil=>rfl
 | cons a l ih =>
   cases l with
   | nil=>simpa [riseB] using (h 0 (by simp)).1
   | cons b l =>
     simp only [riseB,Bool.and_eq_true]
     refine ⟨⟨(h 0 (by simp)).1,(h 1 (by simp)).2 (by omega)⟩,ih fun i hi=>?_⟩
     have:=h (i+1) (by simpa using hi)
     refine ⟨this.1,fun h'=>?_⟩
     have h2:=this.2 (by omega)
     cases i with
     | zero=>omega
     | succ j=>exact h2
def RiseTo (l : List S) (i : Nat) : Prop:=∀ j (hj : j < l.length),j < i→utfB l[j]=true∧∀ h : 0 < j,sLt (l[j - 1]'(by omega)) l[j]=true
theorem RiseTo.step {l : List S} {i : Nat} (h : RiseTo l i) (hi : i < l.length) (h1 : utfB l[i]=true) (h2 : ∀ h : 0 < i,sLt (l[i - 1]'(by omega)) l[i]=true) : RiseTo l (i+1):=by
 intro j hj hlt
 by_cases e : j=i
 ·subst e; exact ⟨h1,h2⟩
 ·exact h j hj (by omega)
theorem c_ref03_Rise (l : List S) : Ret prog M.F_ref03_Rise [.vec 1 false (l.map encStr)] (.bool (riseB l)):=by
 refine Ret.go hmix h_ref03_Rise (by simp) fun hb w0 F0 hG=>?_
 simp only [bndL,bndV,List.length_map,LIM,and_true] at hb
 simp
 obtain ⟨J,hJ⟩ : ∃ J : Nat→Unit→Prop,J=fun k _=>RiseTo l k:=⟨_,rfl⟩
 refine XLoop.cnt hmix l.length (fun k _=>⟨[(3,.int .i64 k),(0,.vec 1 false (l.map encStr))],[]⟩) J () (by rw [hJ]; intro j _ h; omega) (by simp) fun k _ hk hj=>?_
 have hw:=wrap64 (n:=(k : Int)+1) (by omega) (by omega)
 have hj' : RiseTo l k:=by rw [hJ] at hj; exact hj
 by_cases h1 : k < l.length
 ·simp [h1,hw]
  refine XCall.ret (c_ref03_UTF l[k]) ?_
  by_cases hu : utfB l[k]=true
  ·by_cases h0 : 0 < k
   ·have w1:=wrap64 (n:=(k : Int) - 1) (by omega) (by omega)
    have e1 : ((k : Int) - 1).toNat=k - 1:=by omega
    have e2 : (0 : Int)≤(k : Int) - 1:=by omega
    have e3 : k - 1 < l.length:=by omega
    have e4 : (k : Int) - 1 < l.length:=by omega
    have e5 : (1 : Int)≤k:=by omega
    by_cases hs : sLt l[k - 1] l[k]=true
    ·have hs':=hs
     simp [hu,h0,w1,e1,e2,e3,e4,e5,h1,hs,hw]
     refine ⟨(),?_⟩
     rw [hJ]
     exact hj'.step h1 hu fun _=>hs
    ·have : riseB l=false:=by
        cases hr : riseB l with
        | false=>rfl
        | true=>exact absurd ((riseB_at h1 hr).2 h0) hs
     simp [hu,h0,w1,e1,e2,e3,e4,e5,h1,hs,this]
   ·have h0' : k=0:=by omega
    subst h0'
    have w0' : IntKind.i64.wrap 1=1:=wrap64 (by omega) (by omega)
    simp [hu,h1,w0']
    refine ⟨(),?_⟩
    rw [hJ]
    exact hj'.step h1 hu fun h=>absurd h (by omega)
  ·have : riseB l=false:=by
      cases hr : riseB l with
      | false=>rfl
      | true=>exact absurd (riseB_at h1 hr).1 hu
   simp [hu,this]
 ·have : riseB l=true:=riseB_of fun i hi=>hj' i hi (by omega)
  simp [h1,this]
end Go.Proofs.YtnlfgnelfooljaaGreatDoor.Pv
set_option maxRecDepth 100000
namespace Go.Proofs.YtnlfgnelfooljaaGreatDoor.Pv
open Go Go.Tidy
def AllTo {α : Type} (p : α→Bool) (l : List α) (k : Nat) : Prop:=∀ j (hj : j < l.length),j < k→p l[j]=true
theorem AllTo.zero {α : Type} {p : α→Bool} {l : List α} : AllTo p l 0:=fun _ _ h=>absurd h (by omega)
theorem AllTo.step {α : Type} {p : α→Bool} {l : List α} {k : Nat} (h : AllTo p l k) (hk : k < l.length) (hp : p l[k]=true) : AllTo p l (k+1):=fun j hj hlt=>by
 by_cases e : j=k
 ·subst e; exact hp
 ·exact h j hj (by omega)
theorem AllTo.all {α : Type} {p : α→Bool} {l : List α} {k : Nat} (h : AllTo p l k) (hk : ¬ k < l.length) : l.all p=true:=by
 rw [List.all_eq_true]
 intro x hx
 obtain ⟨j,hj,rfl⟩:=List.getElem_of_mem hx
 exact h j hj (by omega)
end Go.Proofs.YtnlfgnelfooljaaGreatDoor.Pv
set_option maxRecDepth 100000
namespace Go.Proofs.YtnlfgnelfooljaaGreatDoor.Pv
open Go Go.Tidy
end Go.Proofs.YtnlfgnelfooljaaGreatDoor.Pv
set_option maxRecDepth 100000
namespace Go.Proofs.YtnlfgnelfooljaaGreatDoor.Pv
open Go Go.Tidy
end Go.Proofs.YtnlfgnelfooljaaGreatDoor.Pv
set_option maxRecDepth 100000
namespace Go.Proofs.YtnlfgnelfooljaaGreatDoor.Pv
open Go Go.Tidy
end Go.Proofs.YtnlfgnelfooljaaGreatDoor.Pv
set_option maxRecDepth 100000
namespace Go.Proofs.YtnlfgnelfooljaaGreatDoor.Pv
open Go Go.Tidy
end Go.Proofs.YtnlfgnelfooljaaGreatDoor.Pv
set_option maxRecDepth 100000
namespace Go.Proofs.YtnlfgnelfooljaaGreatDoor.Pv
open Go Go.Tidy
end Go.Proofs.YtnlfgnelfooljaaGreatDoor.Pv
namespace Go.Tidy
open Go
inductive Val where
 | mk (kind : Int) (num text : S) (items : List Val) (keys : List S)
namespace Val
def kind : Val→Int | .mk a _ _ _ _=>a
def num : Val→S | .mk _ a _ _ _=>a
def text : Val→S | .mk _ _ a _ _=>a
def items : Val→List Val | .mk _ _ _ a _=>a
def keys : Val→List S | .mk _ _ _ _ a=>a
end Val
end Go.Tidy
set_option maxRecDepth 100000
namespace Go.Proofs.YtnlfgnelfooljaaGreatDoor.Pv
open Go Go.Tidy
end Go.Proofs.YtnlfgnelfooljaaGreatDoor.Pv
set_option maxRecDepth 100000
namespace Go.Proofs.YtnlfgnelfooljaaGreatDoor.Pv
open Go Go.Tidy
mutual
def encVal : Val→List PV
 | .mk k n t is ks=>[.int .i64 k,.str n,.str t,.vec 5 false (encVals is),.vec 1 false (ks.map encStr)]
def encVals : List Val→List (List PV)
 | []=>[]
 | v::l=>encVal v::encVals l
end
theorem encVals_map (l : List Val) : encVals l=l.map encVal:=by induction l with | nil=>rfl | cons a l ih=>simp [encVals,ih]
abbrev cV (v : Val) : List PV:=[.int .i64 v.kind,.str v.num,.str v.text,.vec 5 false (v.items.map encVal),.vec 1 false (v.keys.map encStr)]
theorem encVal_eq (v : Val) : encVal v=cV v:=by
 obtain ⟨k,n,t,is,ks⟩:=v
 simp [encVal,encVals_map,cV,Val.kind,Val.num,Val.text,Val.items,Val.keys]
attribute [simp] encVal_eq
end Go.Proofs.YtnlfgnelfooljaaGreatDoor.Pv
set_option maxRecDepth 100000
namespace Go.Proofs.YtnlfgnelfooljaaGreatDoor.Pv
open Go Go.Tidy
end Go.Proofs.YtnlfgnelfooljaaGreatDoor.Pv
set_option maxRecDepth 100000
namespace Go.Proofs.YtnlfgnelfooljaaGreatDoor.Pv
open Go Go.Tidy
end Go.Proofs.YtnlfgnelfooljaaGreatDoor.Pv
namespace Go.Tidy
open Go
mutual
def formedV : Val→Bool
 | .mk k n t is ks=>decide (0≤k)&&decide (k≤6)&&(if k=3 then numB n else sEmp n)&&(if k=4 then utfB t else sEmp t)&&(decide (5≤k)||is.isEmpty)&&(decide (6≤k)||ks.isEmpty) &&
   (!decide (k=6)||(decide (ks.length=is.length)&&riseB ks))&&formedVs is
def formedVs : List Val→Bool
 | []=>true
 | v::l=>formedV v&&formedVs l
end
theorem formedVs_all (l : List Val) : formedVs l=l.all formedV:=by induction l with | nil=>rfl | cons a l ih=>simp [formedVs,ih]
def headB {α : Type} (f : α→Bool) : List α→Bool
 | []=>false
 | a::_=>f a
@[simp] theorem headB_nil {α : Type} (f : α→Bool) : headB f []=false:=rfl
@[simp] theorem headB_cons {α : Type} (f : α→Bool) (a : α) (l : List α) : headB f (a::l)=f a:=rfl
end Go.Tidy
set_option maxRecDepth 100000
namespace Go.Proofs.YtnlfgnelfooljaaGreatDoor.Pv
open Go Go.Tidy
end Go.Proofs.YtnlfgnelfooljaaGreatDoor.Pv
set_option maxRecDepth 100000
namespace Go.Proofs.YtnlfgnelfooljaaGreatDoor.Pv
open Go Go.Tidy
theorem val_sz {v x : Val} (h : x ∈ v.items) : SizeOf.sizeOf x < SizeOf.sizeOf v:=by
 obtain ⟨k,n,t,is,ks⟩:=v
 have:=List.sizeOf_lt_of_mem h
 simp only [Val.items] at this
 simp only [Val.mk.sizeOf_spec]
 omega
theorem all_step (l : List Val) (h : ∀ v ∈ l,Ret prog M.F_ref03_Formed [.agg (cV v)] (.bool (formedV v))) : Ret prog M.F_ref03_All [.vec 5 false (l.map encVal)] (.bool (l.all formedV)):=by
 refine Ret.go hmix h_ref03_All (by simp) fun hb w0 F0 hG=>?_
 simp only [bndL,bndV,List.length_map,LIM,and_true] at hb
 generalize hB : l.all formedV=B
 obtain ⟨J,hJ⟩ : ∃ J : Nat→Unit→Prop,J=fun k _=>AllTo formedV l k:=⟨_,rfl⟩
 simp
 refine XLoop.cnt hmix l.length (fun k _=>⟨[(3,.int .i64 k),(2,.bool false),(0,.vec 5 false (l.map encVal))],[]⟩) J () (by rw [hJ]; exact .zero) (by simp) fun k _ hk hj=>?_
 have hw:=wrap64 (n:=(k : Int)+1) (by omega) (by omega)
 have hj' : AllTo formedV l k:=by rw [hJ] at hj; exact hj
 by_cases q1 : k < l.length
 ·have c1:=h _ (List.getElem_mem q1)
  cases e1 : formedV l[k]
  ·have hBf : B=false:=by rw [← hB,List.all_eq_false]; exact ⟨l[k],List.getElem_mem q1,by simp [e1]⟩
   rw [e1] at c1
   simp [q1]
   refine XCall.ret (by simpa using c1) ?_
   simp [hBf]
  ·have hJn : J (k+1) ():=by rw [hJ]; exact hj'.step q1 e1
   rw [e1] at c1
   simp [q1]
   refine XCall.ret (by simpa using c1) ?_
   simp [q1,hw]
   exact ⟨(),hJn⟩
 ·have hBt : B=true:=by rw [← hB]; exact hj'.all q1
  simp [q1,hBt]
theorem formedV_def (v : Val) : formedV v=(decide (0≤v.kind)&&decide (v.kind≤6)&&(if v.kind=3 then numB v.num else sEmp v.num)&&(if v.kind=4 then utfB v.text else sEmp v.text)&&(decide (5≤v.kind)||v.items.isEmpty)&&(decide (6≤v.kind)||v.keys.isEmpty) &&
 (!decide (v.kind=6)||(decide (v.keys.length=v.items.length)&&riseB v.keys))&&v.items.all formedV):=by
 obtain ⟨k,n,t,is,ks⟩:=v
 rw [formedV,formedVs_all]; rfl
set_option maxHeartbeats 8000000 in
theorem formedV_walk (v : Val) (h : ∀ x ∈ v.items,Ret prog M.F_ref03_Formed [.agg (cV x)] (.bool (formedV x))) : Ret prog M.F_ref03_Formed [.agg (cV v)] (.bool (formedV v)):=by
 refine Ret.go hmix h_ref03_Formed (by simp) fun hb w0 F0 hG=>?_
 simp only [bndL,bndV,List.length_map,LIM,and_true] at hb
 have cA:=all_step v.items h
 have cN:=c_ref03_Number v.num
 have cU:=c_ref03_UTF v.text
 have cR:=c_ref03_Rise v.keys
 have hD:=formedV_def v
 generalize hB : formedV v=B at *
 generalize hAA : v.items.all formedV=A at *
 have nI : ∀ {n : Nat},(0 : Int) < (n : Int)↔0 < n:=by omega
 have eI : v.items.isEmpty=!decide (0 < v.items.length):=by cases v.items <;> simp
 have eK : v.keys.isEmpty=!decide (0 < v.keys.length):=by cases v.keys <;> simp
 rw [eI,eK] at hD
 have hA0 : ¬ 0 < v.items.length→A=true:=fun h0=>by
  rw [← hAA,List.length_eq_zero_iff.1 (show v.items.length=0 by omega)]; rfl
 by_cases a1 : v.kind < 0
 ·have hB' : B=false:=by rw [hD]; simp [show ¬ 0≤v.kind by omega]
  simp [a1,hB']
 by_cases a2 : 6 < v.kind
 ·have hB' : B=false:=by rw [hD]; simp [show ¬ v.kind≤6 by omega]
  simp [a1,a2,hB']
 have hk : v.kind=3∨v.kind=4∨v.kind=5∨v.kind=6∨v.kind=0∨v.kind=1∨v.kind=2:=by omega
 rcases hk with k | k | k | k | k | k | k
 ·cases e1 : numB v.num
  ·rw [e1] at cN hD
   simp [k] at hD
   simp [k]
   intros
   refine XCall.ret cN ?_
   simp [k,hD]
  rw [e1] at cN hD
  cases e2 : sEmp v.text
  ·rw [e2] at hD
   simp [k] at hD
   simp [k]
   intros
   refine XCall.ret cN ?_
   simp [k,e2,hD]
  by_cases e3 : 0 < v.items.length
  ·simp [k,e3] at hD
   simp [k]
   intros
   refine XCall.ret cN ?_
   simp [k,e2,e3,nI,hD]
  by_cases e4 : 0 < v.keys.length
  ·simp [k,e4] at hD
   simp [k]
   intros
   refine XCall.ret cN ?_
   simp [k,e2,e3,e4,nI,hD]
  rw [e2] at hD
  simp [k,e3,e4] at hD
  simp [k]
  intros
  refine XCall.ret cN ?_
  simp [k,e2,e3,e4,nI]
  intros
  refine XCall.ret (by first | exact cA | (simpa using cA)) ?_
  simp [hD]
 ·cases e1 : sEmp v.num
  ·rw [e1] at hD
   simp [k] at hD
   simp [k,e1,hD]
  rw [e1] at hD
  cases e2 : utfB v.text
  ·rw [e2] at cU hD
   simp [k] at hD
   simp [k,e1]
   intros
   refine XCall.ret cU ?_
   simp [k,hD]
  rw [e2] at cU hD
  by_cases e3 : 0 < v.items.length
  ·simp [k,e3] at hD
   simp [k,e1]
   intros
   refine XCall.ret cU ?_
   simp [k,e3,nI,hD]
  by_cases e4 : 0 < v.keys.length
  ·simp [k,e4] at hD
   simp [k,e1]
   intros
   refine XCall.ret cU ?_
   simp [k,e3,e4,nI,hD]
  simp [k,e3,e4] at hD
  simp [k,e1]
  intros
  refine XCall.ret cU ?_
  simp [k,e3,e4,nI]
  intros
  refine XCall.ret (by first | exact cA | (simpa using cA)) ?_
  simp [hD]
 ·cases e1 : sEmp v.num
  ·rw [e1] at hD
   simp [k] at hD
   simp [k,e1,hD]
  rw [e1] at hD
  cases e2 : sEmp v.text
  ·rw [e2] at hD
   simp [k] at hD
   simp [k,e1,e2,hD]
  rw [e2] at hD
  by_cases e4 : 0 < v.keys.length
  ·simp [k,e4] at hD
   simp [k,e1,e2,e4,nI,hD]
  simp [k,e4] at hD
  simp [k,e1,e2,e4,nI]
  intros
  refine XCall.ret (by first | exact cA | (simpa using cA)) ?_
  simp [hD]
 ·cases e1 : sEmp v.num
  ·rw [e1] at hD
   simp [k] at hD
   simp [k,e1,hD]
  rw [e1] at hD
  cases e2 : sEmp v.text
  ·rw [e2] at hD
   simp [k] at hD
   simp [k,e1,e2,hD]
  rw [e2] at hD
  by_cases e4 : v.keys.length=v.items.length
  ·have e4' : (v.keys.length : Int)=v.items.length:=by omega
   cases e5 : riseB v.keys
   ·rw [e5] at hD cR
    simp [k] at hD
    simp [k,e1,e2,e4']
    intros
    refine XCall.ret (by first | exact cR | (simpa using cR)) ?_
    simp [hD]
   rw [e5] at hD cR
   simp [k,e4] at hD
   simp [k,e1,e2,e4']
   intros
   refine XCall.ret (by first | exact cR | (simpa using cR)) ?_
   simp
   intros
   refine XCall.ret (by first | exact cA | (simpa using cA)) ?_
   simp [hD]
  ·have e4' : ¬ (v.keys.length : Int)=v.items.length:=by omega
   simp [k,e4] at hD
   simp [k,e1,e2,e4',hD]
 all_goals
   cases e1 : sEmp v.num
   ·rw [e1] at hD
    simp [k] at hD
    simp [k,e1,hD]
   rw [e1] at hD
   cases e2 : sEmp v.text
   ·rw [e2] at hD
    simp [k] at hD
    simp [k,e1,e2,hD]
   rw [e2] at hD
   by_cases e3 : 0 < v.items.length
   ·simp [k,e3] at hD
    simp [k,e1,e2,e3,nI,hD]
   by_cases e4 : 0 < v.keys.length
   ·simp [k,e3,e4] at hD
    simp [k,e1,e2,e3,e4,nI,hD]
   simp [k,e3,e4] at hD
   simp [k,e1,e2,e3,e4,nI]
   intros
   refine XCall.ret (by first | exact cA | (simpa using cA)) ?_
   simp [hD]
theorem c_ref03_Formed (v : Val) : Ret prog M.F_ref03_Formed [.agg (cV v)] (.bool (formedV v)):=by
 induction hn : SizeOf.sizeOf v using Nat.strongRecOn generalizing v with
 | _ n ih =>
   subst hn
   exact formedV_walk v fun x hx=>ih _ (val_sz hx) x rfl
def stepV (R : Val→Int→Int) (m n : Int) (x : Val) : Int:=if n≤m then IntKind.i64.wrap (n+R x (IntKind.i64.wrap (m - n))) else n
theorem foldV_stop {R : Val→Int→Int} {m n : Int} (h : ¬ n≤m) : ∀ l : List Val,l.foldl (stepV R m) n=n
 | []=>rfl
 | x::l=>by
   rw [List.foldl_cons]
   have : stepV R m n x=n:=by unfold stepV; rw [if_neg h]
   rw [this,foldV_stop h l]
set_option maxHeartbeats 4000000 in
theorem partsV_walk (v : Val) (m : Int) (R : Val→Int→Int) (h : ∀ x ∈ v.items,∀ m,Ret prog M.F_kit_PartsOf [.agg (cV x),.int .i64 m] (.int .i64 (R x m))) :
 Ret prog M.F_kit_PartsOf [.agg (cV v),.int .i64 m] (.int .i64 (IntKind.i64.wrap (v.items.foldl (stepV R m) 1+v.keys.length))):=by
 refine Ret.go hmix h_kit_PartsOf (by simp) fun hb w0 F0 hG=>?_
 simp only [bndL,bndV,List.length_map,LIM,and_true] at hb
 generalize hN : v.items.foldl (stepV R m) 1=N
 obtain ⟨J,hJ⟩ : ∃ J : Nat→Int→Prop,J=fun k n=>n=(v.items.take k).foldl (stepV R m) 1:=⟨_,rfl⟩
 simp
 intro w1
 refine XLoop.cnt hmix v.items.length (fun k n=>⟨[(6,.int .i64 k),(5,.int .i64 n),(4,.int .i64 0),(2,.ptr (2,w1) 5 0 0),(1,.int .i64 m)],[((2,w1),some ⟨5,[cV v],false,true⟩)]⟩) J 1 (by rw [hJ]; rfl) (by simp) fun k n hk hj=>?_
 have hw:=wrap64 (n:=(k : Int)+1) (by omega) (by omega)
 have hj' : n=(v.items.take k).foldl (stepV R m) 1:=by rw [hJ] at hj; exact hj
 have hsp : v.items.foldl (stepV R m) 1=(v.items.drop k).foldl (stepV R m) n:=by
  rw [hj',← List.foldl_append,List.take_append_drop]
 by_cases q1 : k < v.items.length
 ·by_cases q2 : n≤m
  ·have c1:=h _ (List.getElem_mem q1) (IntKind.i64.wrap (m - n))
   have hJn : J (k+1) (IntKind.i64.wrap (n+R v.items[k] (IntKind.i64.wrap (m - n)))):=by
    rw [hJ]
    show _=_
    rw [List.take_succ_eq_append_getElem q1,List.foldl_append,← hj',List.foldl_cons,List.foldl_nil]
    unfold stepV
    rw [if_pos q2]
   simp [q1,q2]
   refine XCall.ret (by first | exact c1 | (simpa using c1)) ?_
   simp [q1,hw]
   exact hJn
  ·rw [foldV_stop q2,hN] at hsp
   simp [q1,q2,hsp]
 ·rw [List.drop_eq_nil_of_le (by omega),hN] at hsp
  have hsp : N=n:=hsp
  simp [q1,hsp]
theorem c_kit_PartsOf (v : Val) : ∃ r : Int→Int,∀ m,Ret prog M.F_kit_PartsOf [.agg (cV v),.int .i64 m] (.int .i64 (r m)):=by
 induction hn : SizeOf.sizeOf v using Nat.strongRecOn generalizing v with
 | _ n ih =>
   subst hn
   have : ∃ R : Val→Int→Int,∀ x ∈ v.items,∀ m,Ret prog M.F_kit_PartsOf [.agg (cV x),.int .i64 m] (.int .i64 (R x m)):=by
    classical
    refine ⟨fun x=>if h : ∃ r : Int→Int,∀ m,Ret prog M.F_kit_PartsOf [.agg (cV x),.int .i64 m] (.int .i64 (r m)) then h.choose else fun _=>0,fun x hx=>?_⟩
    have h:=ih _ (val_sz hx) x rfl
    simp only [dif_pos h]
    exact h.choose_spec
   obtain ⟨R,hR⟩:=this
   exact ⟨_,fun m=>partsV_walk v m R hR⟩
theorem c_kit_Fit1 (v : Val) : ∃ b,Ret prog M.F_kit_Fit [.vec 5 false [cV v]] (.bool b):=by
 obtain ⟨r,hr⟩:=c_kit_PartsOf v
 refine ⟨decide (IntKind.i64.wrap (r 20000)≤20000),Ret.go hmix h_kit_Fit (by simp) fun hb w0 F0 hG=>?_⟩
 have c1:=hr 20000
 have hw : IntKind.i64.wrap 20000=20000:=wrap64 (by omega) (by omega)
 have hw1 : IntKind.i64.wrap 1=1:=wrap64 (by omega) (by omega)
 generalize r 20000=y at *
 generalize hx : IntKind.i64.wrap y=x
 simp
 refine XLoop.rnd hmix (.s (.s .z)) ?_
 simp [XRnd_s,hw]
 refine XCall.ret (by first | exact c1 | (simpa using c1)) ?_
 by_cases g : x≤20000
 ·have g' : ¬ 20000 < x:=by omega
  simp [hx,g,g',hw1,XRnd_s]
 ·have g' : 20000 < x:=by omega
  simp [hx,g,g']
end Go.Proofs.YtnlfgnelfooljaaGreatDoor.Pv
namespace Go.Tidy
open Go
end Go.Tidy
namespace Go.Tidy
open Go
end Go.Tidy
namespace Go.Tidy
open Go
theorem get_list (l : List UInt8) (k : Nat) : (ByteArray.mk l.toArray).get! k=l.getD k 0:=by
 simp [ByteArray.get!,List.getD,getElem!_def]
 cases l[k]? <;> rfl
theorem u8le (a b : UInt8) : (a≤b)=(a.toNat≤b.toNat):=propext UInt8.le_iff_toNat_le
theorem u8lt (a b : UInt8) : (a < b)=(a.toNat < b.toNat):=propext UInt8.lt_iff_toNat_lt
theorem u8eq (a b : UInt8) : (a=b)=(a.toNat=b.toNat):=propext UInt8.toNat_inj.symm
set_option maxHeartbeats 4000000 in
theorem decode_width (c : UInt8) (l : List UInt8) : ((Lib.decodeL (c::l)).1=65533∧(Lib.decodeL (c::l)).2=1↔width (c::l)=0)∧(width (c::l) ≠ 0→(Lib.decodeL (c::l)).2=width (c::l)):=by
 have hc:=c.toNat_lt
 have e128 : UInt8.toNat 128=128:=rfl
 have e143 : UInt8.toNat 143=143:=rfl
 have e144 : UInt8.toNat 144=144:=rfl
 have e159 : UInt8.toNat 159=159:=rfl
 have e160 : UInt8.toNat 160=160:=rfl
 have e191 : UInt8.toNat 191=191:=rfl
 unfold Lib.decodeL Utf8.decode width trail
 simp only [get_list,Utf8.runeError,Utf8.valid]
 have hs : (ByteArray.mk (c::l).toArray).size=l.length+1:=by simp [ByteArray.size]
 simp only [hs]
 match l with
 | [] =>
   simp [u8le,u8lt,u8eq]
   repeat' split
   all_goals simp
   all_goals omega
 | [d] =>
   have hd:=d.toNat_lt
   simp [u8le,u8lt,u8eq]
   repeat' split
   all_goals simp
   all_goals omega
 | [d,e] =>
   have hd:=d.toNat_lt
   have he:=e.toNat_lt
   simp [u8le,u8lt,u8eq]
   repeat' split
   all_goals simp
   all_goals omega
 | d::e::f::l =>
   have hd:=d.toNat_lt
   have he:=e.toNat_lt
   have hf:=f.toNat_lt
   simp [u8le,u8lt,u8eq]
   repeat' split
   all_goals simp
   all_goals omega
theorem trail_le {l : List UInt8} {n : Nat} {lo hi : UInt8} (h : trail l n lo hi=true) : n≤l.length:=by
 simp [trail] at h; exact h.1.1
theorem width_le (l : List UInt8) : width l≤l.length:=by
 cases l with
 | nil=>simp [width]
 | cons c l =>
   simp only [width]
   repeat' split
   all_goals first
     | (simp; done)
     | (rename_i h; simp only [Bool.and_eq_true] at h; have:=trail_le h.2; simp; omega)
theorem valid_utf : ∀ (n : Nat) (l : List UInt8),l.length≤n→Lib.validGoD n l=utfL n l
 | 0,l,h=>by
   have : l=[]:=List.eq_nil_of_length_eq_zero (by omega)
   subst this; rfl
 | n+1,[],_=>by simp [Lib.validGoD,utfL]
 | n+1,c::l,h=>by
   have hd:=decode_width c l
   have hw:=width_le (c::l)
   simp only [Lib.validGoD,utfL,List.isEmpty_cons,Bool.false_or]
   rw [if_neg (by simp)]
   by_cases h0 : width (c::l)=0
   ·rw [if_pos (hd.1.2 h0),h0]; simp
   ·rw [if_neg (fun h=>h0 (hd.1.1 h)),hd.2 h0]
    have : (width (c::l) != 0)=true:=by simpa using h0
    rw [this,Bool.true_and]
    refine valid_utf n _ ?_
    simp at h ⊢
    omega
theorem validD_utfB (s : S) : Lib.validD s.data.toList=utfB s:=valid_utf _ _ (Nat.le_refl _)
end Go.Tidy
set_option maxRecDepth 100000
namespace Go.Proofs.YtnlfgnelfooljaaGreatDoor
open Go Go.Shelf
def Tryz.laysValid_ren : Go.Shelf.Ren:=⟨fun | 196=>125 | 259=>173 | n=>n,fun | 9=>9 | 4=>4 | 3=>3 | 5=>5 | 12=>12 | 119=>170 | 0=>0 | 46=>174 | 139=>173 | 138=>172 | 53=>206 | n=>n,fun | 3=>0 | 4=>1 | n=>n⟩
theorem Tryz.laysValid : Go.Proofs.Lays.n196 Tryz.prog Tryz.laysValid_ren:={
 mixed:=by kernel_rfl
 f196:=Tryz.func125.trans (congrArg some (by kernel_rfl))
 f259:=Tryz.func173.trans (congrArg some (by kernel_rfl))
 t0:=Tryz.underlying0
 a0:=Tryz.isAgg0
 z0:=Tryz.sizeOf0
 v0:=Tryz.zeroValue0
 t3:=Tryz.underlying3
 a3:=Tryz.isAgg3
 z3:=Tryz.sizeOf3
 v3:=Tryz.zeroValue3
 t4:=Tryz.underlying4
 a4:=Tryz.isAgg4
 z4:=Tryz.sizeOf4
 v4:=Tryz.zeroValue4
 t5:=Tryz.underlying5
 a5:=Tryz.isAgg5
 z5:=Tryz.sizeOf5
 v5:=Tryz.zeroValue5
 t9:=Tryz.underlying9
 a9:=Tryz.isAgg9
 z9:=Tryz.sizeOf9
 v9:=Tryz.zeroValue9
 t12:=Tryz.underlying12
 a12:=Tryz.isAgg12
 z12:=Tryz.sizeOf12
 v12:=Tryz.zeroValue12
 t46:=Tryz.underlying174
 a46:=Tryz.isAgg174
 z46:=Tryz.sizeOf174
 v46:=Tryz.zeroValue174
 t53:=Tryz.underlying206
 a53:=Tryz.isAgg206
 z53:=Tryz.sizeOf206
 v53:=Tryz.zeroValue206
 t119:=Tryz.underlying170
 a119:=Tryz.isAgg170
 z119:=Tryz.sizeOf170
 t138:=Tryz.underlying172
 a138:=Tryz.isAgg172
 z138:=Tryz.sizeOf172
 v138:=Tryz.zeroValue172
 t139:=Tryz.underlying173
 a139:=Tryz.isAgg173
 z139:=Tryz.sizeOf173
 v139:=Tryz.zeroValue173
 g3:=by kernel_rfl
 g4:=by kernel_rfl }
def Tryz.laysItoa_ren : Go.Shelf.Ren:=⟨fun | 171=>67 | 243=>124 | 246=>172 | 283=>217 | 284=>218 | 285=>219 | 286=>220 | 129=>266 | 317=>265 | 318=>267 | 319=>268 | 320=>269 | 337=>305 | 338=>306 | n=>n,fun | 3=>3 | 9=>9 | 2=>2 | 4=>4 | 171=>205 | 0=>0 | 53=>206 | 37=>99 | 5=>5 | 173=>209 | 212=>240 | 51=>224 | 20=>20 | 213=>241 | 46=>174 | 232=>281 | 233=>282 | n=>n,fun | 17=>2 | 18=>4 | 19=>5 | n=>n⟩
theorem Tryz.laysItoa : Go.Proofs.LaysM.n171 Tryz.prog Tryz.laysItoa_ren:={
 mixed:=by kernel_rfl
 f129:=Tryz.func266.trans (congrArg some (by kernel_rfl))
 f171:=Tryz.func67.trans (congrArg some (by kernel_rfl))
 f243:=Tryz.func124.trans (congrArg some (by kernel_rfl))
 f246:=Tryz.func172.trans (congrArg some (by kernel_rfl))
 f283:=Tryz.func217.trans (congrArg some (by kernel_rfl))
 f284:=Tryz.func218.trans (congrArg some (by kernel_rfl))
 f285:=Tryz.func219.trans (congrArg some (by kernel_rfl))
 f286:=Tryz.func220.trans (congrArg some (by kernel_rfl))
 f317:=Tryz.func265.trans (congrArg some (by kernel_rfl))
 f318:=Tryz.func267.trans (congrArg some (by kernel_rfl))
 f319:=Tryz.func268.trans (congrArg some (by kernel_rfl))
 f320:=Tryz.func269.trans (congrArg some (by kernel_rfl))
 f337:=Tryz.func305.trans (congrArg some (by kernel_rfl))
 f338:=Tryz.func306.trans (congrArg some (by kernel_rfl))
 t0:=Tryz.underlying0
 a0:=Tryz.isAgg0
 z0:=Tryz.sizeOf0
 v0:=Tryz.zeroValue0
 t2:=Tryz.underlying2
 a2:=Tryz.isAgg2
 z2:=Tryz.sizeOf2
 v2:=Tryz.zeroValue2
 t3:=Tryz.underlying3
 a3:=Tryz.isAgg3
 z3:=Tryz.sizeOf3
 v3:=Tryz.zeroValue3
 t4:=Tryz.underlying4
 a4:=Tryz.isAgg4
 z4:=Tryz.sizeOf4
 v4:=Tryz.zeroValue4
 t5:=Tryz.underlying5
 a5:=Tryz.isAgg5
 z5:=Tryz.sizeOf5
 v5:=Tryz.zeroValue5
 t9:=Tryz.underlying9
 a9:=Tryz.isAgg9
 z9:=Tryz.sizeOf9
 v9:=Tryz.zeroValue9
 t20:=Tryz.underlying20
 a20:=Tryz.isAgg20
 z20:=Tryz.sizeOf20
 v20:=Tryz.zeroValue20
 t37:=Tryz.underlying99
 a37:=Tryz.isAgg99
 z37:=Tryz.sizeOf99
 v37:=Tryz.zeroValue99
 t46:=Tryz.underlying174
 a46:=Tryz.isAgg174
 z46:=Tryz.sizeOf174
 v46:=Tryz.zeroValue174
 t51:=Tryz.underlying224
 a51:=Tryz.isAgg224
 z51:=Tryz.sizeOf224
 v51:=Tryz.zeroValue224
 t53:=Tryz.underlying206
 a53:=Tryz.isAgg206
 z53:=Tryz.sizeOf206
 v53:=Tryz.zeroValue206
 t171:=Tryz.underlying205
 a171:=Tryz.isAgg205
 z171:=Tryz.sizeOf205
 v171:=Tryz.zeroValue205
 t173:=Tryz.underlying209
 a173:=Tryz.isAgg209
 z173:=Tryz.sizeOf209
 v173:=Tryz.zeroValue209
 t212:=Tryz.underlying240
 a212:=Tryz.isAgg240
 z212:=Tryz.sizeOf240
 v212:=Tryz.zeroValue240
 t213:=Tryz.underlying241
 a213:=Tryz.isAgg241
 z213:=Tryz.sizeOf241
 t232:=Tryz.underlying281
 a232:=Tryz.isAgg281
 z232:=Tryz.sizeOf281
 v232:=Tryz.zeroValue281
 t233:=Tryz.underlying282
 a233:=Tryz.isAgg282
 z233:=Tryz.sizeOf282
 v233:=Tryz.zeroValue282
 g17:=by kernel_rfl
 g18:=by kernel_rfl
 g19:=by kernel_rfl
 i0:=by kernel_rfl
 i2:=by kernel_rfl
 i3:=by kernel_rfl
 i4:=by kernel_rfl
 i5:=by kernel_rfl
 i9:=by kernel_rfl
 i20:=by kernel_rfl
 i37:=by kernel_rfl
 i46:=by kernel_rfl
 i51:=by kernel_rfl
 i53:=by kernel_rfl
 i171:=by kernel_rfl
 i173:=by kernel_rfl
 i212:=by kernel_rfl
 i232:=by kernel_rfl
 i233:=by kernel_rfl
 m17:=by kernel_rfl
 m18:=by kernel_rfl
 m19:=by kernel_rfl }
def Tryz.laysSplit_ren : Go.Shelf.Ren:=⟨fun | 146=>153 | 221=>190 | 268=>238 | 138=>239 | 143=>180 | 195=>129 | 197=>288 | 218=>289 | 219=>225 | 260=>314 | 217=>271 | 225=>272 | 224=>273 | 267=>274 | 266=>307 | 314=>308 | n=>n,fun | 9=>9 | 31=>24 | 3=>3 | 4=>4 | 0=>0 | 105=>249 | 21=>21 | 5=>5 | 46=>174 | 119=>170 | 139=>173 | 138=>172 | 146=>264 | 51=>224 | n=>n,fun | 1=>3 | 3=>0 | 4=>1 | n=>n⟩
theorem Tryz.laysSplit : Go.Proofs.Lays.n146 Tryz.prog Tryz.laysSplit_ren:={
 mixed:=by kernel_rfl
 f138:=Tryz.func239.trans (congrArg some (by kernel_rfl))
 f143:=Tryz.func180.trans (congrArg some (by kernel_rfl))
 f146:=Tryz.func153.trans (congrArg some (by kernel_rfl))
 f195:=Tryz.func129.trans (congrArg some (by kernel_rfl))
 f197:=Tryz.func288.trans (congrArg some (by kernel_rfl))
 f217:=Tryz.func271.trans (congrArg some (by kernel_rfl))
 f218:=Tryz.func289.trans (congrArg some (by kernel_rfl))
 f219:=Tryz.func225.trans (congrArg some (by kernel_rfl))
 f221:=Tryz.func190.trans (congrArg some (by kernel_rfl))
 f224:=Tryz.func273.trans (congrArg some (by kernel_rfl))
 f225:=Tryz.func272.trans (congrArg some (by kernel_rfl))
 f260:=Tryz.func314.trans (congrArg some (by kernel_rfl))
 f266:=Tryz.func307.trans (congrArg some (by kernel_rfl))
 f267:=Tryz.func274.trans (congrArg some (by kernel_rfl))
 f268:=Tryz.func238.trans (congrArg some (by kernel_rfl))
 f314:=Tryz.func308.trans (congrArg some (by kernel_rfl))
 t0:=Tryz.underlying0
 a0:=Tryz.isAgg0
 z0:=Tryz.sizeOf0
 v0:=Tryz.zeroValue0
 t3:=Tryz.underlying3
 a3:=Tryz.isAgg3
 z3:=Tryz.sizeOf3
 v3:=Tryz.zeroValue3
 t4:=Tryz.underlying4
 a4:=Tryz.isAgg4
 z4:=Tryz.sizeOf4
 v4:=Tryz.zeroValue4
 t5:=Tryz.underlying5
 a5:=Tryz.isAgg5
 z5:=Tryz.sizeOf5
 v5:=Tryz.zeroValue5
 t9:=Tryz.underlying9
 a9:=Tryz.isAgg9
 z9:=Tryz.sizeOf9
 v9:=Tryz.zeroValue9
 t21:=Tryz.underlying21
 a21:=Tryz.isAgg21
 z21:=Tryz.sizeOf21
 v21:=Tryz.zeroValue21
 t31:=Tryz.underlying24
 a31:=Tryz.isAgg24
 z31:=Tryz.sizeOf24
 v31:=Tryz.zeroValue24
 t46:=Tryz.underlying174
 a46:=Tryz.isAgg174
 z46:=Tryz.sizeOf174
 v46:=Tryz.zeroValue174
 t51:=Tryz.underlying224
 a51:=Tryz.isAgg224
 z51:=Tryz.sizeOf224
 v51:=Tryz.zeroValue224
 t105:=Tryz.underlying249
 a105:=Tryz.isAgg249
 z105:=Tryz.sizeOf249
 v105:=Tryz.zeroValue249
 t119:=Tryz.underlying170
 a119:=Tryz.isAgg170
 z119:=Tryz.sizeOf170
 t138:=Tryz.underlying172
 a138:=Tryz.isAgg172
 z138:=Tryz.sizeOf172
 v138:=Tryz.zeroValue172
 t139:=Tryz.underlying173
 a139:=Tryz.isAgg173
 z139:=Tryz.sizeOf173
 v139:=Tryz.zeroValue173
 t146:=Tryz.underlying264
 a146:=Tryz.isAgg264
 z146:=Tryz.sizeOf264
 v146:=Tryz.zeroValue264
 g1:=by kernel_rfl
 g3:=by kernel_rfl
 g4:=by kernel_rfl }
def Tryz.laysJoin_ren : Go.Shelf.Ren:=⟨fun | 156=>101 | 165=>154 | 166=>117 | 169=>118 | 240=>163 | 241=>191 | 276=>195 | 277=>240 | n=>n,fun | 31=>24 | 9=>9 | 3=>3 | 4=>4 | 0=>0 | 20=>20 | 72=>101 | 76=>104 | 70=>98 | 37=>99 | 75=>103 | 127=>149 | 164=>194 | 5=>5 | 80=>106 | n=>n,fun | n=>n⟩
theorem Tryz.laysJoin : Go.Proofs.Lays.n156 Tryz.prog Tryz.laysJoin_ren:={
 mixed:=by kernel_rfl
 f156:=Tryz.func101.trans (congrArg some (by kernel_rfl))
 f165:=Tryz.func154.trans (congrArg some (by kernel_rfl))
 f166:=Tryz.func117.trans (congrArg some (by kernel_rfl))
 f169:=Tryz.func118.trans (congrArg some (by kernel_rfl))
 f240:=Tryz.func163.trans (congrArg some (by kernel_rfl))
 f241:=Tryz.func191.trans (congrArg some (by kernel_rfl))
 f276:=Tryz.func195.trans (congrArg some (by kernel_rfl))
 f277:=Tryz.func240.trans (congrArg some (by kernel_rfl))
 t0:=Tryz.underlying0
 a0:=Tryz.isAgg0
 z0:=Tryz.sizeOf0
 v0:=Tryz.zeroValue0
 t3:=Tryz.underlying3
 a3:=Tryz.isAgg3
 z3:=Tryz.sizeOf3
 v3:=Tryz.zeroValue3
 t4:=Tryz.underlying4
 a4:=Tryz.isAgg4
 z4:=Tryz.sizeOf4
 v4:=Tryz.zeroValue4
 t9:=Tryz.underlying9
 a9:=Tryz.isAgg9
 z9:=Tryz.sizeOf9
 v9:=Tryz.zeroValue9
 t20:=Tryz.underlying20
 a20:=Tryz.isAgg20
 z20:=Tryz.sizeOf20
 v20:=Tryz.zeroValue20
 t31:=Tryz.underlying24
 a31:=Tryz.isAgg24
 z31:=Tryz.sizeOf24
 v31:=Tryz.zeroValue24
 t37:=Tryz.underlying99
 a37:=Tryz.isAgg99
 z37:=Tryz.sizeOf99
 v37:=Tryz.zeroValue99
 t70:=Tryz.underlying98
 a70:=Tryz.isAgg98
 z70:=Tryz.sizeOf98
 v70:=Tryz.zeroValue98
 t72:=Tryz.underlying101
 a72:=Tryz.isAgg101
 z72:=Tryz.sizeOf101
 v72:=Tryz.zeroValue101
 t75:=Tryz.underlying103
 a75:=Tryz.isAgg103
 z75:=Tryz.sizeOf103
 v75:=Tryz.zeroValue103
 t76:=Tryz.underlying104
 a76:=Tryz.isAgg104
 z76:=Tryz.sizeOf104
 v76:=Tryz.zeroValue104
 t127:=Tryz.underlying149
 a127:=Tryz.isAgg149
 z127:=Tryz.sizeOf149
 v127:=Tryz.zeroValue149
 t164:=Tryz.underlying194
 a164:=Tryz.isAgg194
 z164:=Tryz.sizeOf194
 v164:=Tryz.zeroValue194 }
def Tryz.laysBS_ren : Go.Shelf.Ren:=⟨fun | 169=>118 | n=>n,fun | 70=>98 | 9=>9 | 0=>0 | 72=>101 | 37=>99 | 127=>149 | 3=>3 | 5=>5 | n=>n,fun | n=>n⟩
theorem Tryz.laysBS : Go.Proofs.Lays.n169 Tryz.prog Tryz.laysBS_ren:={
 mixed:=by kernel_rfl
 f169:=Tryz.func118.trans (congrArg some (by kernel_rfl))
 t0:=Tryz.underlying0
 a0:=Tryz.isAgg0
 z0:=Tryz.sizeOf0
 v0:=Tryz.zeroValue0
 t3:=Tryz.underlying3
 a3:=Tryz.isAgg3
 z3:=Tryz.sizeOf3
 v3:=Tryz.zeroValue3
 t9:=Tryz.underlying9
 a9:=Tryz.isAgg9
 z9:=Tryz.sizeOf9
 v9:=Tryz.zeroValue9
 t37:=Tryz.underlying99
 a37:=Tryz.isAgg99
 z37:=Tryz.sizeOf99
 v37:=Tryz.zeroValue99
 t70:=Tryz.underlying98
 a70:=Tryz.isAgg98
 z70:=Tryz.sizeOf98
 v70:=Tryz.zeroValue98
 t72:=Tryz.underlying101
 a72:=Tryz.isAgg101
 z72:=Tryz.sizeOf101
 v72:=Tryz.zeroValue101
 t127:=Tryz.underlying149
 a127:=Tryz.isAgg149
 z127:=Tryz.sizeOf149
 v127:=Tryz.zeroValue149 }
def Tryz.laysWR_ren : Go.Shelf.Ren:=⟨fun | 168=>148 | 240=>163 | 242=>188 | 276=>195 | 278=>237 | n=>n,fun | 31=>24 | 9=>9 | 3=>3 | 4=>4 | 0=>0 | 20=>20 | 21=>21 | 46=>174 | 51=>224 | 72=>101 | 76=>104 | 70=>98 | 37=>99 | 75=>103 | 164=>194 | 5=>5 | 80=>106 | n=>n,fun | n=>n⟩
theorem Tryz.laysWR : Go.Proofs.Lays.n168 Tryz.prog Tryz.laysWR_ren:={
 mixed:=by kernel_rfl
 f168:=Tryz.func148.trans (congrArg some (by kernel_rfl))
 f240:=Tryz.func163.trans (congrArg some (by kernel_rfl))
 f242:=Tryz.func188.trans (congrArg some (by kernel_rfl))
 f276:=Tryz.func195.trans (congrArg some (by kernel_rfl))
 f278:=Tryz.func237.trans (congrArg some (by kernel_rfl))
 t0:=Tryz.underlying0
 a0:=Tryz.isAgg0
 z0:=Tryz.sizeOf0
 v0:=Tryz.zeroValue0
 t3:=Tryz.underlying3
 a3:=Tryz.isAgg3
 z3:=Tryz.sizeOf3
 v3:=Tryz.zeroValue3
 t4:=Tryz.underlying4
 a4:=Tryz.isAgg4
 z4:=Tryz.sizeOf4
 v4:=Tryz.zeroValue4
 t5:=Tryz.underlying5
 a5:=Tryz.isAgg5
 z5:=Tryz.sizeOf5
 v5:=Tryz.zeroValue5
 t9:=Tryz.underlying9
 a9:=Tryz.isAgg9
 z9:=Tryz.sizeOf9
 v9:=Tryz.zeroValue9
 t20:=Tryz.underlying20
 a20:=Tryz.isAgg20
 z20:=Tryz.sizeOf20
 v20:=Tryz.zeroValue20
 t21:=Tryz.underlying21
 a21:=Tryz.isAgg21
 z21:=Tryz.sizeOf21
 v21:=Tryz.zeroValue21
 t37:=Tryz.underlying99
 a37:=Tryz.isAgg99
 z37:=Tryz.sizeOf99
 v37:=Tryz.zeroValue99
 t46:=Tryz.underlying174
 a46:=Tryz.isAgg174
 z46:=Tryz.sizeOf174
 v46:=Tryz.zeroValue174
 t51:=Tryz.underlying224
 a51:=Tryz.isAgg224
 z51:=Tryz.sizeOf224
 v51:=Tryz.zeroValue224
 t70:=Tryz.underlying98
 a70:=Tryz.isAgg98
 z70:=Tryz.sizeOf98
 v70:=Tryz.zeroValue98
 t72:=Tryz.underlying101
 a72:=Tryz.isAgg101
 z72:=Tryz.sizeOf101
 v72:=Tryz.zeroValue101
 t75:=Tryz.underlying103
 a75:=Tryz.isAgg103
 z75:=Tryz.sizeOf103
 v75:=Tryz.zeroValue103
 t164:=Tryz.underlying194
 a164:=Tryz.isAgg194
 z164:=Tryz.sizeOf194
 v164:=Tryz.zeroValue194 }
theorem Tryz.extraWR : Go.Proofs.Builder.Extra Tryz.prog Tryz.laysWR_ren where
 sizeBuilder:=by kernel_rfl
 liesBuilder:=by kernel_rfl
 t5:=Tryz.underlying5
 a5:=Tryz.isAgg5
 z5:=Tryz.sizeOf5
 v5:=Tryz.zeroValue5
 infoByte:=by kernel_rfl
 cellsByte:=by kernel_rfl
 sizeByte:=by kernel_rfl
 neB5:=by decide
theorem Tryz.extraBS : Go.Proofs.Builder.Extra Tryz.prog Tryz.laysBS_ren where
 sizeBuilder:=by kernel_rfl
 liesBuilder:=by kernel_rfl
 t5:=Tryz.underlying5
 a5:=Tryz.isAgg5
 z5:=Tryz.sizeOf5
 v5:=Tryz.zeroValue5
 infoByte:=by kernel_rfl
 cellsByte:=by kernel_rfl
 sizeByte:=by kernel_rfl
 neB5:=by decide
theorem Tryz.extraJoin : Go.Proofs.Builder.Extra Tryz.prog Tryz.laysJoin_ren where
 sizeBuilder:=by kernel_rfl
 liesBuilder:=by kernel_rfl
 t5:=Tryz.underlying5
 a5:=Tryz.isAgg5
 z5:=Tryz.sizeOf5
 v5:=Tryz.zeroValue5
 infoByte:=by kernel_rfl
 cellsByte:=by kernel_rfl
 sizeByte:=by kernel_rfl
 neB5:=by decide
end Go.Proofs.YtnlfgnelfooljaaGreatDoor
namespace Go.Proofs.YtnlfgnelfooljaaGreatDoor.Pv
open Go Go.RowKit Go.Tidy
theorem first_at : ∀ c : Fin 256,utf8First[c.1]? = some (Lib.firstT c.1):=by decide +kernel
theorem accept_at : ∀ i : Fin 16,utf8Accept[2 * i.1]? = some (Lib.accLo i.1)∧utf8Accept[2 * i.1+1]? = some (Lib.accHi i.1):=by decide +kernel
theorem tabs_ok {w : World} {F : Nat→Prop} (hG : GOk prog w F) : Lib.Utf8Tabs (Tryz.laysValid_ren.g 3) (Tryz.laysValid_ren.g 4) w:=by
 have h3 : gTab prog (Tryz.laysValid_ren.g 3)=some utf8First:=by kernel_rfl
 have h4 : gTab prog (Tryz.laysValid_ren.g 4)=some utf8Accept:=by kernel_rfl
 exact ⟨fun c hc=>((hG.1 _ _ h3).2.2 c _ (first_at ⟨c,hc⟩)).1,fun i hi=>⟨((hG.1 _ _ h4).2.2 _ _ (accept_at ⟨i,hi⟩).1).1,((hG.1 _ _ h4).2.2 _ _ (accept_at ⟨i,hi⟩).2).1⟩⟩
theorem c_utf8_ValidString (s : S) : Ret prog M.F_utf8_ValidString [.str s] (.bool (utfB s)):=by
 refine ⟨by kernel_rfl,fun w F vs hG hF hr=>?_⟩
 obtain ⟨v,us,rfl,hv,hus⟩:=hr
 obtain rfl : us=[]:=hus
 obtain ⟨rfl,hs⟩:=hv
 have h : Calls prog M.F_utf8_ValidString #[.string s] w _:=Any.utf8_ValidString Tryz.laysValid s w (by unfold LIM at hs; omega) (tabs_ok hG)
 refine Calls.mono h ?_
 rintro e w' ⟨rfl,hb⟩
 exact ⟨_,F,rfl,Bel.of hb,fun _ h=>h,fun b hb'=>⟨Nat.lt_of_lt_of_le (hF b hb') hb.size,.inl hb'⟩,by rw [validD_utfB]; rfl⟩
theorem b_WriteRune (B b : Nat) (bs : List Value) (r : Int) (hr0 : -2147483648≤r) (hr1 : r≤2147483647) (w : World) (h : Lib.IsBuilderF 101 5 B b bs w) (hlen : bs.length+4≤140737488355328) (hBw : B≤w.heap.size) :
 Calls Tryz.prog 148 #[.pointer (some ⟨b,0,none⟩),.int .i32 r] w fun e w'=>e=.returned (.tuple #[.int .i64 (Lib.runeCells r).length,.nilIface])∧(Lib.BuilderAtF 101 5 B b (.pointer (some ⟨b,0,none⟩)) (bs++Lib.runeCells r) w'∧Below B w w'∧Lib.OthersKept 5 (some b) w w'):=Any.Builder_WriteRune_k Tryz.laysWR Tryz.extraWR B b bs r hr0 hr1 w h hlen hBw
theorem b_String (B b : Nat) (l : List UInt8) (w : World) (h : Lib.IsBuilderF 101 5 B b (Lib.byteCells l) w) (hBw : B≤w.heap.size) :
 Calls Tryz.prog 118 #[.pointer (some ⟨b,0,none⟩)] w fun e w'=>e=.returned (.string ⟨l.toArray⟩)∧(Lib.IsBuilderF 101 5 B b (Lib.byteCells l) w'∧Below B w w'∧Lib.OthersKept 5 (some b) w w'):=Any.Builder_String_any_k Tryz.laysBS Tryz.extraBS B b l w h hBw
end Go.Proofs.YtnlfgnelfooljaaGreatDoor.Pv
namespace Go.Proofs.YtnlfgnelfooljaaGreatDoor.Pv
open Go Go.Tidy
def idxI {α : Type} (p : α→Bool) (l : List α) : Int:=if l.any p then (l.findIdx p : Nat) else -1
theorem idxI_at {α : Type} {p : α→Bool} {l : List α} {k : Nat} (hk : k < l.length) (ha : AllTo (fun x=>!p x) l k) (h : p l[k]=true) : idxI p l=k:=by
 have h1 : l.any p=true:=List.any_eq_true.2 ⟨_,List.getElem_mem hk,h⟩
 have h2 : l.findIdx p=k:=(List.findIdx_eq hk).2 ⟨h,fun j hj=>by
  have:=ha j (by omega) hj
  rw [Bool.not_eq_true'] at this; exact this⟩
 simp [idxI,h1,h2]
theorem idxI_no {α : Type} {p : α→Bool} {l : List α} {k : Nat} (ha : AllTo (fun x=>!p x) l k) (hk : ¬ k < l.length) : idxI p l=-1:=by
 have:=ha.all hk
 have h1 : l.any p=false:=by
  rw [List.any_eq_false]; simpa [List.all_eq_true] using this
 simp [idxI,h1]
theorem idxI_ge {α : Type} (p : α→Bool) (l : List α) : decide (0≤idxI p l)=l.any p:=by
 unfold idxI
 cases l.any p <;> simp
end Go.Proofs.YtnlfgnelfooljaaGreatDoor.Pv

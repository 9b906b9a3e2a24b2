/- Part 7. -/
import Derived.Test.YtjipnamfdmllmaaGreatDoorN6
import GoSem.Op.String
set_option linter.unusedSimpArgs false
set_option linter.unusedVariables false
namespace Go.Proofs.YtjipnamfdmllmaaGreatDoor.Pv
open Go Go.RowKit
def renK (k1 k2 k:Key):Key:=if k=k1 then k2 else k
mutual
def renV (k1 k2:Key):PV→PV
 | .own g e o l f=>.own (renK k1 k2 g) e o l f
 | .ptr g e i o=>.ptr (renK k1 k2 g) e i o
 | .agg cs=>.agg (renL k1 k2 cs)
 | .tup cs=>.tup (renL k1 k2 cs)
 | .fn f a b=>.fn f (renL k1 k2 a) (renL k1 k2 b)
 | .iface t x=>.iface t (renV k1 k2 x)
 | .opt b x=>.opt b (renV k1 k2 x)
 | .undef=>.undef
 | .bool b=>.bool b
 | .int k n=>.int k n
 | .str s=>.str s
 | .nilp=>.nilp
 | .nilf=>.nilf
 | .nili=>.nili
 | .vec e f xs=>.vec e f xs
 | .ref cs=>.ref cs
 | .raw u=>.raw u
 | .mapf es=>.mapf es
def renL (k1 k2:Key):List PV→List PV
 | []=>[]
 | x::xs=>renV k1 k2 x::renL k1 k2 xs
end
def renR (k1 k2:Key):List (List PV)→List (List PV)
 | []=>[]
 | x::xs=>renL k1 k2 x::renR k1 k2 xs
def renE (k1 k2:Key):Option HE→Option HE
 | none=>none
 | some ⟨esz,xs,fz,true⟩=>some ⟨esz,renR k1 k2 xs,fz,true⟩
 | some ⟨esz,xs,fz,false⟩=>some ⟨esz,xs,fz,false⟩
def renS (k1 k2:Key):List (Nat × PV)→List (Nat × PV)
 | []=>[]
 | (t,x)::s=>(t,renV k1 k2 x)::renS k1 k2 s
def renH (k1 k2:Key):List (Key × Option HE)→List (Key × Option HE)
 | []=>[]
 | (k,e)::h=>(renK k1 k2 k,renE k1 k2 e)::renH k1 k2 h
def renSt (k1 k2:Key) (st:St):St:=⟨renS k1 k2 st.s,renH k1 k2 st.h⟩
theorem renL_length (k1 k2:Key):∀ xs:List PV,(renL k1 k2 xs).length=xs.length
 | []=>rfl
 | x::xs=>by simp[renL,renL_length k1 k2 xs]
theorem renR_length (k1 k2:Key):∀ xs:List (List PV),(renR k1 k2 xs).length=xs.length
 | []=>rfl
 | x::xs=>by simp[renR,renR_length k1 k2 xs]
def renCtx (c:Ctx) (k1 k2:Key):Ctx:=⟨fun k=>if k=k2 then c.β k1 else c.β k,fun k=>if k=k2 then c.es k1 else c.es k,fun k=>c.U k∨(k=k2∧c.U k1),c.Fz⟩
section
variable {c:Ctx} {k1 k2:Key} {w:World}
theorem ren_le (h2:¬ c.U k2):c.Le (renCtx c k1 k2) :=
 ⟨fun g h=>.inl h,fun g h=>if_neg fun (e:g=k2)=>h2 (e ▸ h),fun g h=>if_neg fun (e:g=k2)=>h2 (e ▸ h),fun _ h=>h⟩
theorem ren_key (h2:¬ c.U k2) {g:Key} (hg:c.U g):(renCtx c k1 k2).U (renK k1 k2 g)∧(renCtx c k1 k2).β (renK k1 k2 g)=c.β g∧(renCtx c k1 k2).es (renK k1 k2 g)=c.es g:=by
 unfold renK
 split
 ·rename_i e; subst e
  exact⟨.inr ⟨rfl,hg⟩,if_pos rfl,if_pos rfl⟩
 ·have:g≠k2:=fun e=>h2 (e ▸ hg)
  exact⟨.inl hg,if_neg this,if_neg this⟩
mutual
theorem ren_rep (h2:¬ c.U k2):∀ (x:PV) (v:Value),RepV w c x v→RepV w (renCtx c k1 k2) (renV k1 k2 x) v
 | .own g esz off len full,v,h=>by
   obtain⟨hg,hes,he,a,cap,h1,h3,h4,h5,h6,h7⟩:=h
   obtain⟨g1,g2,g3⟩:=ren_key h2 (k1:=k1) hg
   refine⟨g1,hes.trans g3.symm,he,a,cap,h1,h3,h4,h5,h6,?_⟩
   rw[g2]; exact h7
 | .ptr g esz i off,v,h=>by
   obtain⟨hg,hes,ad,h1,h3⟩:=h
   obtain⟨g1,g2,g3⟩:=ren_key h2 (k1:=k1) hg
   exact⟨g1,hes.trans g3.symm,ad,g2.trans h1,h3⟩
 | .agg cs,v,h=>by
   obtain⟨vs,e,h,h1⟩:=h
   exact⟨vs,e,ren_repL h2 cs _ h,h1⟩
 | .tup cs,v,h=>by
   obtain⟨vs,e,h⟩:=h
   exact⟨vs,e,ren_repL h2 cs _ h⟩
 | .fn f first cap,v,h=>by
   obtain⟨a,b,e,h1,h3⟩:=h
   exact⟨a,b,e,ren_repL h2 first _ h1,ren_repL h2 cap _ h3⟩
 | .iface t x,v,h=>by
   obtain⟨u,e,h⟩:=h
   exact⟨u,e,ren_rep h2 x u h⟩
 | .opt b x,v,h=>⟨fun hb=>ren_rep h2 x v (h.1 hb),h.2⟩
 | .undef,v,h|.bool _,v,h|.int _ _,v,h|.str _,v,h|.nilp,v,h|.nilf,v,h|.nili,v,h|.raw _,v,h=>h
 | .vec e f xs,v,h=>RepV.mono (.vec e f xs) v (Mono.refl _ _) (ren_le h2) h
 | .ref cs,v,h=>RepV.mono (.ref cs) v (Mono.refl _ _) (ren_le h2) h
 | .mapf es,v,h=>RepV.mono (.mapf es) v (Mono.refl _ _) (ren_le h2) h
theorem ren_repL (h2:¬ c.U k2):∀ (xs:List PV) (vs:List Value),RepL w c xs vs→RepL w (renCtx c k1 k2) (renL k1 k2 xs) vs
 | [],_,h=>h
 | x::xs,_,h=>by
   obtain⟨u,us,e,h1,h3⟩:=h
   exact⟨u,us,e,ren_rep h2 x u h1,ren_repL h2 xs us h3⟩
end
theorem ren_repAt (h2:¬ c.U k2) {b:Nat}:∀ (o:Nat) (xs:List PV),RepAt w c b o xs→RepAt w (renCtx c k1 k2) b o (renL k1 k2 xs)
 | _,[],_=>trivial
 | o,x::xs,h=>by
   obtain⟨⟨v,e,e1,h1⟩,h3⟩:=h
   exact⟨⟨v,e,e1,ren_rep h2 x v h1⟩,ren_repAt h2 (o+1) xs h3⟩
theorem ren_repRows (h2:¬ c.U k2) {esz b:Nat}:∀ (o:Nat) (xs:List (List PV)),RepRows w c esz b o xs→RepRows w (renCtx c k1 k2) esz b o (renR k1 k2 xs)
 | _,[],_=>trivial
 | o,r::rs,h=>by
   obtain⟨h1,h3,h4⟩:=h
   exact⟨(renL_length _ _ _).trans h1,ren_repAt h2 o r h3,ren_repRows h2 (o+esz) rs h4⟩
theorem ren_hrep (h2:¬ c.U k2) {k:Key} {e e' : HE} (he:renE k1 k2 (some e)=some e') (h:HRep w c k e):HRep w (renCtx c k1 k2) (renK k1 k2 k) e':=by
 obtain⟨hU,hes,h⟩:=h
 obtain⟨g1,g2,g3⟩:=ren_key h2 (k1:=k1) hU
 obtain⟨esz,xs,fz,bx⟩:=e
 cases bx with
 | true =>
   simp only[renE,Option.some.injEq] at he
   subst he
   refine⟨g1,hes.trans g3.symm,?_⟩
   rw[g2]
   cases hb:c.β k with
   | none =>
     rw[hb] at h
     have h0:xs=[]:=h.1
     subst h0
     exact⟨rfl,h.2⟩
   | some ad =>
     rw[hb] at h
     obtain⟨h1,⟨cs,el,fr,h3,h4,h5⟩,h6,h7⟩:=h
     exact⟨h1,⟨cs,el,fr,h3,by rw[renR_length]; exact h4,h5⟩,ren_repRows h2 _ _ h6,h7⟩
 | false =>
   simp only[renE,Option.some.injEq] at he
   subst he
   refine⟨g1,hes.trans g3.symm,?_⟩
   rw[g2]
   cases hb:c.β k with
   | none=>rw[hb] at h; exact h
   | some ad =>
     rw[hb] at h
     obtain⟨h1,h3,h6,h7⟩:=h
     have h6' : RepRows w c.d esz ad.block ad.off xs:=h6
     have hm:RepRows w (renCtx c k1 k2).d esz ad.block ad.off xs:=RepRows.mono_cells (c:=c.d) (c':=(renCtx c k1 k2).d) (Mono.refl _ _) (Ctx.Le.d fun _ h=>h) esz ad.block ad.off xs (fun _ _ _=>rfl) h6'
     exact⟨h1,h3,hm,h7⟩
end
theorem renE_some {k1 k2:Key} {x:Option HE} {e:HE} (h:renE k1 k2 x=some e):∃ e0,x=some e0:=by
 cases x with
 | none=>simp[renE] at h
 | some e0=>exact⟨e0,rfl⟩
theorem hk_ren {k1 k2:Key}:∀ {h:List (Key × Option HE)} {k:Key} {e:HE},hk k (renH k1 k2 h)=some e →
 ∃ k0 e0,hk k0 h=some e0∧renE k1 k2 (some e0)=some e∧k=renK k1 k2 k0∧(k0=k2→hk k2 h=some e0)
 | [],k,e,he=>by simp[renH,hk] at he
 | (m,x)::h,k,e,he=>by
   simp only[renH,hk] at he
   split at he
   ·rename_i hkm
    obtain⟨e0,rfl⟩:=renE_some he
    exact⟨m,e0,by simp[hk],he,hkm,fun hm=>by subst hm; simp[hk]⟩
   ·rename_i hkm
    obtain⟨k0,e0,h1,h2,h3,h4⟩:=hk_ren he
    have hne:k0≠m:=fun e1=>hkm (by rw[h3,e1])
    refine⟨k0,e0,by simp[hk,hne,h1],h2,h3,fun h5=>?_⟩
    have:k2≠m:=fun e1=>hne (h5.trans e1)
    simp[hk,this,h4 h5]
theorem lk_ren {k1 k2:Key} (t:Nat):∀ s:List (Nat × PV),lk t (renS k1 k2 s)=renV k1 k2 (lk t s)
 | []=>by simp[renS,lk,renV]
 | (u,x)::s=>by
   simp only[renS,lk]
   split
   ·rfl
   ·exact lk_ren t s
theorem ren_good {E:Env} {st:St} {c:Ctx} {a:Act} {w:World} {k1 k2:Key} (hg:Good E st c a w) (h2:¬ c.U k2):Good E (renSt k1 k2 st) (renCtx c k1 k2) a w:=by
 have hk2:∀ {k0:Key} {e0:HE},hk k0 st.h=some e0→k0≠k2:=fun h e=>h2 (e ▸ (hg.heap _ _ h).1)
 refine Good.ofH hg.defers hg.size ⟨fun k e he=>?_,fun k e ad he had=>?_,fun k k' e e' ad ad' he he' had had' hne=>?_,hg.fz,hg.le,?_,hg.below⟩ (fun t v hv=>?_) (fun p hp=>RepV.mono _ _ (Mono.refl _ _) (ren_le h2) (hg.ghost p hp))
 ·obtain⟨k0,e0,h3,h4,rfl,_⟩:=hk_ren he
  exact ren_hrep h2 h4 (hg.heap _ _ h3)
 ·obtain⟨k0,e0,h3,h4,rfl,_⟩:=hk_ren he
  rw[(ren_key h2 (hg.heap _ _ h3).1).2.1] at had
  exact hg.fresh _ _ _ h3 had
 ·obtain⟨k0,e0,h3,h4,rfl,_⟩:=hk_ren he
  obtain⟨k0',e0',h3',h4',rfl,_⟩:=hk_ren he'
  rw[(ren_key h2 (hg.heap _ _ h3).1).2.1] at had
  rw[(ren_key h2 (hg.heap _ _ h3').1).2.1] at had'
  exact hg.apart _ _ _ _ _ _ h3 h3' had had' (fun e=>hne (by rw[e]))
 ·obtain⟨N,hN⟩:=hg.bnd
  refine⟨max N (k2.2+1),fun k hk=>?_⟩
  rcases hk with hk|⟨rfl,_⟩
  ·have:=hN k hk; omega
  ·omega
 ·show RepV w _ (lk t (renS k1 k2 st.s)) v
  rw[lk_ren]
  exact ren_rep h2 _ _ (hg.slot t v hv)
def canonS (t esz tag v:Nat) (st:St):St:=match lk t st.s with
 | .own g _ _ _ _=>renSt g (tag,v) st
 | .ptr g _ _ _=>renSt g (tag,v) st
 | .vec e f xs=>match f,xs with
   | true,[]=>if e=esz∧0<esz then own1 t esz tag v st else st
   | _,_=>st
 | _=>st
def ownB (g:Key) (e:Nat) (row:List PV) (fz:Bool) (i esz tag v:Nat) (st:St):St:=⟨st.s,(g,some ⟨e,[row.set i (.own (tag,v) esz 0 0 true)],fz,true⟩)::((tag,v),some ⟨esz,[],false,false⟩)::st.h⟩
def canonB (t i esz tag v:Nat) (st:St):St:=match lk t st.s with
 | .ptr g _ _ _=>match hk g st.h with
   | some ⟨e,[row],fz,true⟩=>match row.getD i .undef with
     | .own k _ _ _ _=>renSt k (tag,v) st
     | .vec e' f xs=>match f,xs with
       | true,[]=>if e'=esz∧0<esz then ownB g e row fz i esz tag v st else st
       | _,_=>st
     | _=>st
   | _=>st
 | _=>st
def canon1 (t esz tag v:Nat) (st:St):St:=if t<1000000 then canonS t esz tag v st else canonB (t % 1000000) (t / 1000000-1) esz tag v st
def canon:List (Nat × Nat × Nat)→Nat→St→St
 | [],_,st=>st
 | (t,esz,tag)::l,v,st=>canon l v (canon1 t esz tag v st)
theorem canonS_good {E:Env} {st:St} {c:Ctx} {a:Act} {w:World} {t esz tag v:Nat} (hg:Good E st c a w) (hv:¬ c.U (tag,v)):∃ c',Good E (canonS t esz tag v st) c' a w∧∀ k,c'.U k→c.U k∨k=(tag,v):=by
 unfold canonS
 split
 ·exact⟨_,ren_good hg hv,fun k hk=>hk.imp id fun h=>h.1⟩
 ·exact⟨_,ren_good hg hv,fun k hk=>hk.imp id fun h=>h.1⟩
 ·rename_i e f xs hl
  split
  ·split
   ·rename_i h
    obtain⟨rfl,h0⟩:=h
    refine⟨_,own1_good hg hl h0 hv,fun k hk=>hk.imp id id⟩
   ·exact⟨c,hg,fun k hk=>.inl hk⟩
  ·exact⟨c,hg,fun k hk=>.inl hk⟩
 ·exact⟨c,hg,fun k hk=>.inl hk⟩
theorem RepAt_set {w:World} {c c' : Ctx} (hc:c.Le c') {b:Nat} {x:PV}:∀ {i o:Nat} {xs:List PV},RepAt w c b o xs→i<xs.length→(∀ v,RepV w c (xs.getD i .undef) v→RepV w c' x v)→RepAt w c' b o (xs.set i x)
 | 0,o,y::ys,h,_,hx=>⟨⟨h.1.choose,h.1.choose_spec.1,h.1.choose_spec.2.1,hx _ h.1.choose_spec.2.2⟩,RepAt.mono b rfl (o+1) ys (Mono.refl _ _) hc h.2⟩
 | i+1,o,y::ys,h,hi,hx=>⟨⟨h.1.choose,h.1.choose_spec.1,h.1.choose_spec.2.1,RepV.mono _ _ (Mono.refl _ _) hc h.1.choose_spec.2.2⟩,RepAt_set hc (i:=i) h.2 (by simpa using hi) (by simpa using hx)⟩
theorem ownB_good {E:Env} {st:St} {c:Ctx} {a:Act} {w:World} {g:Key} {e i esz tag v:Nat} {row:List PV} {fz:Bool} (hg:Good E st c a w) (hk0:hk g st.h=some ⟨e,[row],fz,true⟩) (hrow:row.getD i .undef=.vec esz true []) (he:0<esz) (hk' : ¬ c.U (tag,v)):Good E (ownB g e row fz i esz tag v st) (newCtx c (tag,v) none esz) a w:=by
 have hi:i<row.length:=by
  rcases Nat.lt_or_ge i row.length with h|h
  ·exact h
  ·simp[List.getD,List.getElem?_eq_none h] at hrow
 have hle:=newCtx_le (a:=none) (n:=esz) hk'
 have hβ:∀ k,k≠(tag,v)→(newCtx c (tag,v) none esz).β k=c.β k:=fun k hk=>if_neg hk
 have hβk:(newCtx c (tag,v) none esz).β (tag,v)=none:=if_pos rfl
 have hgk:g≠(tag,v):=fun x=>hk' (x ▸ (hg.heap _ _ hk0).1)
 have look:∀ k e',hk k (ownB g e row fz i esz tag v st).h=some e'→(k=g∧e'=⟨e,[row.set i (.own (tag,v) esz 0 0 true)],fz,true⟩)∨(k=(tag,v)∧e'=⟨esz,[],false,false⟩)∨(k≠(tag,v)∧k≠g∧hk k st.h=some e'):=fun k e' h=>by
  simp only[ownB,hk_cons] at h
  split at h
  ·rename_i e1; exact .inl ⟨e1,(Option.some.inj h).symm⟩
  ·rename_i e1
   split at h
   ·rename_i e2; exact .inr (.inl ⟨e2,(Option.some.inj h).symm⟩)
   ·rename_i e2; exact .inr (.inr ⟨e2,e1,h⟩)
 have old:∀ k e',hk k (ownB g e row fz i esz tag v st).h=some e'→k≠(tag,v)→∃ e0,hk k st.h=some e0:=fun k e' h hne=>by
  rcases look k e' h with ⟨rfl,_⟩|⟨h1,_⟩|⟨_,_,h1⟩
  ·exact⟨_,hk0⟩
  ·exact absurd h1 hne
  ·exact⟨_,h1⟩
 refine Good.ofH hg.defers hg.size ⟨fun k e' hke=>?_,fun k e' ad hke had=>?_,fun k k' e1 e2 ad ad' hke hke' had had' hne=>?_,hg.fz,hg.le,newCtx_bnd hg.bnd,hg.below⟩ (fun u x hx=>RepV.mono _ _ (Mono.refl _ _) hle (hg.slot u x hx)) (fun p hp=>RepV.mono _ _ (Mono.refl _ _) hle (hg.ghost p hp))
 ·rcases look k e' hke with ⟨rfl,rfl⟩|⟨rfl,rfl⟩|⟨h1,h2,h3⟩
  ·obtain⟨q1,q2,q3⟩:=hg.heap _ _ hk0
   refine⟨.inl q1,q2.trans (hle.es _ q1).symm,?_⟩
   rw[hβ k hgk]
   cases hb:c.β k with
   | none=>rw[hb] at q3; simp at q3
   | some ad =>
     rw[hb] at q3
     obtain⟨b1,b2,b3,b4⟩:=q3
     have b3' : row.length=e∧RepAt w c ad.block ad.off row∧True:=b3
     refine⟨b1,by simpa using b2,?_,b4⟩
     show RepRows w (newCtx c (tag,v) none esz) e ad.block ad.off [row.set i (.own (tag,v) esz 0 0 true)]
     refine⟨by rw[List.length_set]; exact b3'.1,RepAt_set hle b3'.2.1 hi fun u hu=>?_,trivial⟩
     rw[hrow] at hu
     obtain⟨a',cap,q1,q2,q3,q4,q5,q6⟩:=hu
     have hcap:cap=0:=q5 rfl
     subst hcap
     refine⟨.inr rfl,(if_pos rfl).symm,he,a',0,q1,by simp,by simp,by simp[LIM],by simp,?_⟩
     rw[hβk]
     exact⟨rfl,rfl,rfl⟩
  ·refine⟨.inr rfl,(if_pos rfl).symm,?_⟩
   rw[hβk]
   exact⟨rfl,he⟩
  ·exact (hg.heap k e' h3).mono (Mono.refl _ _) hle (fun _ _=>Iff.rfl) (fun _ _=>rfl)
 ·by_cases hkt:k=(tag,v)
  ·subst hkt; rw[hβk] at had; cases had
  ·obtain⟨e0,h0⟩:=old k e' hke hkt
   rw[hβ k hkt] at had
   exact hg.fresh k e0 ad h0 had
 ·by_cases hkt:k=(tag,v)
  ·subst hkt; rw[hβk] at had; cases had
  ·by_cases hkt' : k'=(tag,v)
   ·subst hkt'; rw[hβk] at had'; cases had'
   ·obtain⟨e0,h0⟩:=old k e1 hke hkt
    obtain⟨e0',h0'⟩:=old k' e2 hke' hkt'
    rw[hβ k hkt] at had
    rw[hβ k' hkt'] at had'
    exact hg.apart k k' e0 e0' ad ad' h0 h0' had had' hne
theorem canonB_good {E:Env} {st:St} {c:Ctx} {a:Act} {w:World} {t i esz tag v:Nat} (hg:Good E st c a w) (hv:¬ c.U (tag,v)):∃ c',Good E (canonB t i esz tag v st) c' a w∧∀ k,c'.U k→c.U k∨k=(tag,v):=by
 unfold canonB
 split
 ·split
  ·rename_i h0
   split
   ·exact⟨_,ren_good hg hv,fun k hk=>hk.imp id fun h=>h.1⟩
   ·rename_i hrow
    split
    ·split
     ·rename_i h
      obtain⟨rfl,h1⟩:=h
      exact⟨_,ownB_good hg h0 hrow h1 hv,fun k hk=>hk.imp id id⟩
     ·exact⟨c,hg,fun k hk=>.inl hk⟩
    ·exact⟨c,hg,fun k hk=>.inl hk⟩
   ·exact⟨c,hg,fun k hk=>.inl hk⟩
  ·exact⟨c,hg,fun k hk=>.inl hk⟩
 ·exact⟨c,hg,fun k hk=>.inl hk⟩
theorem canon1_good {E:Env} {st:St} {c:Ctx} {a:Act} {w:World} {t esz tag v:Nat} (hg:Good E st c a w) (hv:¬ c.U (tag,v)):∃ c',Good E (canon1 t esz tag v st) c' a w∧∀ k,c'.U k→c.U k∨k=(tag,v):=by
 unfold canon1
 split
 ·exact canonS_good hg hv
 ·exact canonB_good hg hv
def tagsOk:List (Nat × Nat × Nat)→Bool
 | []=>true
 | x::l=>l.all (fun y=>y.2.2 != x.2.2)&&tagsOk l
theorem canon_good {E:Env} {a:Act} {w:World} {v:Nat}:∀ (ts:List (Nat × Nat × Nat)) (st:St) (c:Ctx),tagsOk ts=true→Good E st c a w→(∀ t∈ts,¬ c.U (t.2.2,v))→∃ c',Good E (canon ts v st) c' a w
 | [],st,c,_,hg,_=>⟨c,hg⟩
 | (t,esz,tag)::l,st,c,ho,hg,hU=>by
   simp only[tagsOk,Bool.and_eq_true,List.all_eq_true,bne_iff_ne,ne_eq] at ho
   obtain⟨c',hg',hU'⟩:=canon1_good (t:=t) (esz:=esz) hg (hU (t,esz,tag) (by simp))
   refine canon_good l _ c' ho.2 hg' fun x hx hu=>?_
   rcases hU' _ hu with h|h
   ·exact hU x (by simp[hx]) h
   ·exact ho.1 x hx (congrArg Prod.fst h)
theorem canon_rel {E:Env} {st:St} {a:Act} {w:World} (ts:List (Nat × Nat × Nat)) (ho:tagsOk ts=true) (hr:Rel E st a w):∃ v,E.V≤v∧Rel E (canon ts v st) a w:=by
 obtain⟨c,hg⟩:=hr
 obtain⟨N,hN⟩:=hg.bnd
 exact⟨max N E.V,by omega,canon_good ts st c ho hg fun t _ hu=>by have:=hN _ hu; simp only at this; omega⟩
def frzH (keep:List Key):List (Key × Option HE)→List (Key × Option HE)
 | []=>[]
 | (k,none)::h=>(k,none)::frzH keep h
 | (k,some ⟨esz,xs,fz,true⟩)::h=>(k,some ⟨esz,xs,fz,true⟩)::frzH keep h
 | (k,some ⟨esz,xs,fz,false⟩)::h=>(k,some ⟨esz,xs,if k∈keep then fz else true,false⟩)::frzH keep h
def frzE (keep:List Key) (k:Key) (e:HE):HE:=if e.bx=true∨k∈keep then e else { e with fz:=true }
theorem hk_frzH (keep:List Key) (k:Key):∀ h:List (Key × Option HE),hk k (frzH keep h)=(hk k h).map (frzE keep k)
 | []=>rfl
 | (m,none)::h=>by
   simp only[frzH,hk]
   split
   ·rfl
   ·exact hk_frzH keep k h
 | (m,some ⟨esz,xs,fz,true⟩)::h=>by
   simp only[frzH,hk]
   split
   ·simp[frzE]
   ·exact hk_frzH keep k h
 | (m,some ⟨esz,xs,fz,false⟩)::h=>by
   simp only[frzH,hk]
   split
   ·rename_i e; subst e
    simp only[frzE,Option.map_some,Bool.false_eq_true,false_or]
    split<;>rfl
   ·exact hk_frzH keep k h
def frzKs (keep:List Key) (h:List (Key × Option HE)):List Key:=(h.map (·.1)).filter fun k=>match hk k h with|some e=>!e.bx&&!decide (k∈keep)|none=>false
theorem hk_mem {k:Key} {e:HE}:∀ {h:List (Key × Option HE)},hk k h=some e→k∈h.map (·.1)
 | [],h=>by simp[hk] at h
 | (m,x)::l,h=>by
   simp only[hk] at h
   split at h
   ·rename_i e1; subst e1; simp
   ·simp[hk_mem h]
theorem frz_rel {E:Env} {st:St} {a:Act} {w:World} (keep:List Key) (hr:Rel E st a w):Rel E ⟨st.s,frzH keep st.h⟩ a w:=by
 obtain⟨c,hg⟩:=Le.freeze (h:=st.h) (s:=st.s) (frzKs keep st.h) a w hr
 refine⟨c,hg.leH fun k=>?_⟩
 rw[hk_freeze,hk_frzH]
 have hre:∀ o:Option HE,leE (fun k=>hk k (freezeAll (fun k=>hk k st.h) (frzKs keep st.h)++st.h)) o o:=fun o=>by
  cases o with
  | none=>trivial
  | some e=>exact⟨rfl,rfl,.inl rfl,leR_refl _ _⟩
 cases he:hk k st.h with
 | none=>split<;>exact hre _
 | some e =>
   by_cases hk1:e.bx=true∨k∈keep
   ·have:k ∉ frzKs keep st.h:=fun hm=>by
       have:=(List.mem_filter.1 hm).2
       rw[he] at this
       simp only[Bool.and_eq_true,Bool.not_eq_true',decide_eq_false_iff_not] at this
       rcases hk1 with h|h
       ·rw[h] at this; simp at this
       ·exact this.2 h
    rw[if_neg this]
    simp only[Option.map_some,frzE,if_pos hk1]
    exact hre _
   ·have:k∈frzKs keep st.h:=List.mem_filter.2 ⟨hk_mem he,by
       rw[he]
       simp only[not_or,Bool.not_eq_true] at hk1
       simp[hk1]⟩
    rw[if_pos this]
    simp only[Option.map_some,frzE,if_neg hk1]
    exact hre _
def canonF (ts:List (Nat × Nat × Nat)) (v:Nat) (st:St):St:=⟨(canon ts v st).s,frzH (ts.map fun t=>(t.2.2,v)) (canon ts v st).h⟩
theorem canonF_rel {E:Env} {st:St} {a:Act} {w:World} (ts:List (Nat × Nat × Nat)) (ho:tagsOk ts=true) (hr:Rel E st a w):∃ v,E.V≤v∧Rel E (canonF ts v st) a w:=by
 obtain⟨v,hv,h⟩:=canon_rel ts ho hr
 exact⟨v,hv,frz_rel _ h⟩
section
variable {E:Env} {body m:MC} {st st' : St} {ks:List KF} {Q:Ex→St→Prop} {ι γ:Type}
def LNR (E:Env) (ts:List (Nat × Nat × Nat)) (n:Nat) (S:Nat→Nat→γ→St) (J:Nat→γ→Prop) (i:Nat) (ks:List KF) (Q:Ex→St→Prop):Ex→St→Prop
 | .normal,st'=>i<n∧∃ g,J (i+1) g∧∀ v,LS (canonF ts v st') (S v (i+1) g)
 | e,st'=>XE E e st' ks Q
def LRR (E:Env) (ts:List (Nat × Nat × Nat)) (S:Nat→ι→St) (J:ι→Prop) (μ:ι→Nat) (i:ι) (ks:List KF) (Q:Ex→St→Prop):Ex→St→Prop
 | .normal,st'=>∃ j,J j∧μ j<μ i∧∀ v,LS (canonF ts v st') (S v j)
 | e,st'=>XE E e st' ks Q
def CJR (E:Env) (ts:List (Nat × Nat × Nat)) (S:Nat→ι→St) (J:ι→Prop) (ks:List KF) (Q:Ex→St→Prop):Ex→St→Prop
 | .normal,st'=>∃ j,J j∧∀ v,LS (canonF ts v st') (S v j)
 | e,st'=>XE E e st' ks Q
def CTR (E:Env) (ts:List (Nat × Nat × Nat)) (S:Nat→St) (ks:List KF) (Q:Ex→St→Prop):Ex→St→Prop
 | .normal,st'=>∀ v,LS (canonF ts v st') (S v)
 | e,st'=>XE E e st' ks Q
section
variable {ts:List (Nat × Nat × Nat)} {n k id:Nat} {S' : Nat→Nat→γ→St} {J' : Nat→γ→Prop} {S:Nat→ι→St} {J:ι→Prop} {μ:ι→Nat} {i:ι} {S1:Nat→St}
theorem LNR_normal:LNR E ts n S' J' k ks Q .normal st'=(k<n∧∃ g,J' (k+1) g∧∀ v,LS (canonF ts v st') (S' v (k+1) g)):=propext Iff.rfl
theorem LNR_exit:LNR E ts n S' J' k ks Q (.exit id) st'=XE E (.exit id) st' ks Q:=propext Iff.rfl
theorem LNR_ret:LNR E ts n S' J' k ks Q .ret st'=XE E .ret st' ks Q:=propext Iff.rfl
theorem LNR_goto:LNR E ts n S' J' k ks Q (.goto id) st'=XE E (.goto id) st' ks Q:=propext Iff.rfl
theorem LRR_normal:LRR E ts S J μ i ks Q .normal st'=∃ j,J j∧μ j<μ i∧∀ v,LS (canonF ts v st') (S v j):=propext Iff.rfl
theorem LRR_exit:LRR E ts S J μ i ks Q (.exit id) st'=XE E (.exit id) st' ks Q:=propext Iff.rfl
theorem LRR_ret:LRR E ts S J μ i ks Q .ret st'=XE E .ret st' ks Q:=propext Iff.rfl
theorem LRR_goto:LRR E ts S J μ i ks Q (.goto id) st'=XE E (.goto id) st' ks Q:=propext Iff.rfl
theorem CJR_normal:CJR E ts S J ks Q .normal st'=∃ j,J j∧∀ v,LS (canonF ts v st') (S v j):=propext Iff.rfl
theorem CJR_exit:CJR E ts S J ks Q (.exit id) st'=XE E (.exit id) st' ks Q:=propext Iff.rfl
theorem CJR_ret:CJR E ts S J ks Q .ret st'=XE E .ret st' ks Q:=propext Iff.rfl
theorem CJR_goto:CJR E ts S J ks Q (.goto id) st'=XE E (.goto id) st' ks Q:=propext Iff.rfl
theorem CTR_normal:CTR E ts S1 ks Q .normal st'=∀ v,LS (canonF ts v st') (S1 v):=propext Iff.rfl
theorem CTR_exit:CTR E ts S1 ks Q (.exit id) st'=XE E (.exit id) st' ks Q:=propext Iff.rfl
theorem CTR_ret:CTR E ts S1 ks Q .ret st'=XE E .ret st' ks Q:=propext Iff.rfl
theorem CTR_goto:CTR E ts S1 ks Q (.goto id) st'=XE E (.goto id) st' ks Q:=propext Iff.rfl
end
end
theorem intBeq (a b:Int):(a == b)=decide (a=b):=by by_cases h:a=b<;>simp[h]
attribute [simp] intBeq leR_refl
attribute [simp] LNR_normal LNR_exit LNR_ret LNR_goto LRR_normal LRR_exit LRR_ret LRR_goto CJR_normal CJR_exit CJR_ret CJR_goto CTR_normal CTR_exit CTR_ret CTR_goto canon canon1 canonS canonB ownB renSt lk_ren renH renE renR renV renL renK own1 tagsOk frzH canonF
end Go.Proofs.YtjipnamfdmllmaaGreatDoor.Pv
namespace Go.Tidy
abbrev S:=ByteArray
structure Span where
 low:S
 high:S
 deriving Inhabited
mutual
inductive Ty where
 | mk (all null fls tru:Bool) (nums:List Span) (any:Bool) (texts:List S) (arrays:List Arr) (objects:List Ob)
inductive Arr where
 | mk (item:Ty) (min max:Int)
inductive Ob where
 | mk (names:List S) (fields:List Ty) (must:List Bool) (rest:Ty)
end
namespace Ty
def all:Ty→Bool|.mk a _ _ _ _ _ _ _ _=>a
def null:Ty→Bool|.mk _ a _ _ _ _ _ _ _=>a
def fls:Ty→Bool|.mk _ _ a _ _ _ _ _ _=>a
def tru:Ty→Bool|.mk _ _ _ a _ _ _ _ _=>a
def nums:Ty→List Span|.mk _ _ _ _ a _ _ _ _=>a
def any:Ty→Bool|.mk _ _ _ _ _ a _ _ _=>a
def texts:Ty→List S|.mk _ _ _ _ _ _ a _ _=>a
def arrays:Ty→List Arr|.mk _ _ _ _ _ _ _ a _=>a
def objects:Ty→List Ob|.mk _ _ _ _ _ _ _ _ a=>a
end Ty
namespace Arr
def item:Arr→Ty|.mk a _ _=>a
def min:Arr→Int|.mk _ a _=>a
def max:Arr→Int|.mk _ _ a=>a
end Arr
namespace Ob
def names:Ob→List S|.mk a _ _ _=>a
def fields:Ob→List Ty|.mk _ a _ _=>a
def must:Ob→List Bool|.mk _ _ a _=>a
def rest:Ob→Ty|.mk _ _ _ a=>a
end Ob
def tNever:Ty:=.mk false false false false [] false [] [] []
def tEvery:Ty:=.mk true false false false [] false [] [] []
instance:Inhabited Ty:=⟨tNever⟩
instance:Inhabited Arr:=⟨.mk tNever 0 0⟩
instance:Inhabited Ob:=⟨.mk [] [] [] tNever⟩
section
variable (a b c d:Bool) (ns:List Span) (e:Bool) (ts:List S) (az:List Arr) (os:List Ob) (t:Ty) (lo hi:Int) (nm:List S) (fs:List Ty) (ms:List Bool)
@[simp] theorem Ty.all_mk:(Ty.mk a b c d ns e ts az os).all=a:=rfl
@[simp] theorem Ty.null_mk:(Ty.mk a b c d ns e ts az os).null=b:=rfl
@[simp] theorem Ty.fls_mk:(Ty.mk a b c d ns e ts az os).fls=c:=rfl
@[simp] theorem Ty.tru_mk:(Ty.mk a b c d ns e ts az os).tru=d:=rfl
@[simp] theorem Ty.nums_mk:(Ty.mk a b c d ns e ts az os).nums=ns:=rfl
@[simp] theorem Ty.any_mk:(Ty.mk a b c d ns e ts az os).any=e:=rfl
@[simp] theorem Ty.texts_mk:(Ty.mk a b c d ns e ts az os).texts=ts:=rfl
@[simp] theorem Ty.arrays_mk:(Ty.mk a b c d ns e ts az os).arrays=az:=rfl
@[simp] theorem Ty.objects_mk:(Ty.mk a b c d ns e ts az os).objects=os:=rfl
@[simp] theorem Arr.item_mk:(Arr.mk t lo hi).item=t:=rfl
@[simp] theorem Arr.min_mk:(Arr.mk t lo hi).min=lo:=rfl
@[simp] theorem Arr.max_mk:(Arr.mk t lo hi).max=hi:=rfl
@[simp] theorem Ob.names_mk:(Ob.mk nm fs ms t).names=nm:=rfl
@[simp] theorem Ob.fields_mk:(Ob.mk nm fs ms t).fields=fs:=rfl
@[simp] theorem Ob.must_mk:(Ob.mk nm fs ms t).must=ms:=rfl
@[simp] theorem Ob.rest_mk:(Ob.mk nm fs ms t).rest=t:=rfl
end
def sLt (a b:S):Bool:=Op.bytesLess a.data.toList b.data.toList
def sEq (a b:S):Bool:=a.data.toList == b.data.toList
def sEmp (a:S):Bool:=a.data.toList.isEmpty
def neg (a:S):Bool:=a.data.toList.head? == some 45
def lexC {α:Type} (f:α→α→Ordering):List α→List α→Ordering
 | [],[]=>.eq
 | [],_::_=>.lt
 | _::_,[]=>.gt
 | a::l,b::m=>(f a b).then (lexC f l m)
def trail (l:List UInt8) (n:Nat) (lo hi:UInt8):Bool:=decide (n≤l.length)&&(l.take n).all (fun c=>128≤c&&c≤191)&&(match l with|c::_=>decide (lo≤c)&&decide (c≤hi)|[]=>false)
def width:List UInt8→Nat
 | []=>0
 | c::l =>
   if c<128 then 1
   else if 194≤c&&c≤223&&trail l 1 128 191 then 2
   else if 224≤c&&c≤239&&trail l 2 (if c == 224 then 160 else 128) (if c == 237 then 159 else 191) then 3
   else if 240≤c&&c≤244&&trail l 3 (if c == 240 then 144 else 128) (if c == 244 then 143 else 191) then 4
   else 0
def utfL:Nat→List UInt8→Bool
 | 0,l=>l.isEmpty
 | n+1,l=>l.isEmpty||(width l != 0&&utfL n (l.drop (width l)))
def utfB (s:S):Bool:=utfL s.data.toList.length s.data.toList
mutual
def heightT:Ty→Nat
 | .mk _ _ _ _ _ _ _ az os=>max (heightAs az) (heightOs os)
def heightAs:List Arr→Nat
 | []=>0
 | .mk t _ _::l=>max (heightT t+1) (heightAs l)
def heightOs:List Ob→Nat
 | []=>0
 | .mk _ fs _ r::l=>max (max (heightT r+1) (heightTs fs)) (heightOs l)
def heightTs:List Ty→Nat
 | []=>0
 | t::l=>max (heightT t+1) (heightTs l)
end
def laidAll:Ty:=.mk false true true true [⟨ByteArray.empty,ByteArray.empty⟩] true [] [.mk tEvery 0 (-1)] [.mk [] [] [] tEvery]
end Go.Tidy
namespace Go.Proofs.YtjipnamfdmllmaaGreatDoor.Pv
open Go Go.Tidy
def encStr (s:S):List PV:=[.str s]
def encBool (b:Bool):List PV:=[.bool b]
def encSpan (s:Span):List PV:=[.str s.low,.str s.high]
mutual
def encTy:Ty→List PV
 | .mk a b c d nums e texts arrs objs=>[.bool a,.bool b,.bool c,.bool d,.vec 2 false (nums.map encSpan),.bool e,.vec 1 false (texts.map encStr),.vec 11 false (encArrs arrs),.vec 12 false (encObjs objs)]
def encArr:Arr→List PV
 | .mk t lo hi=>encTy t++[.int .i64 lo,.int .i64 hi]
def encObj:Ob→List PV
 | .mk ns fs ms r=>[.vec 1 false (ns.map encStr),.vec 9 false (encTys fs),.vec 1 false (ms.map encBool)]++encTy r
def encArrs:List Arr→List (List PV)
 | []=>[]
 | a::l=>encArr a::encArrs l
def encObjs:List Ob→List (List PV)
 | []=>[]
 | a::l=>encObj a::encObjs l
def encTys:List Ty→List (List PV)
 | []=>[]
 | a::l=>encTy a::encTys l
end
theorem encArrs_map (l:List Arr):encArrs l=l.map encArr:=by induction l with|nil=>rfl|cons a l ih=>simp[encArrs,ih]
theorem encObjs_map (l:List Ob):encObjs l=l.map encObj:=by induction l with|nil=>rfl|cons a l ih=>simp[encObjs,ih]
theorem encTys_map (l:List Ty):encTys l=l.map encTy:=by induction l with|nil=>rfl|cons a l ih=>simp[encTys,ih]
abbrev cT (t:Ty):List PV:=[.bool t.all,.bool t.null,.bool t.fls,.bool t.tru,.vec 2 false (t.nums.map encSpan),.bool t.any,.vec 1 false (t.texts.map encStr),.vec 11 false (t.arrays.map encArr),.vec 12 false (t.objects.map encObj)]
abbrev cA (a:Arr):List PV:=[.bool a.item.all,.bool a.item.null,.bool a.item.fls,.bool a.item.tru,.vec 2 false (a.item.nums.map encSpan),.bool a.item.any,.vec 1 false (a.item.texts.map encStr),.vec 11 false (a.item.arrays.map encArr),.vec 12 false (a.item.objects.map encObj),.int .i64 a.min,.int .i64 a.max]
abbrev cO (o:Ob):List PV:=[.vec 1 false (o.names.map encStr),.vec 9 false (o.fields.map encTy),.vec 1 false (o.must.map encBool),.bool o.rest.all,.bool o.rest.null,.bool o.rest.fls,.bool o.rest.tru,.vec 2 false (o.rest.nums.map encSpan),.bool o.rest.any,.vec 1 false (o.rest.texts.map encStr),.vec 11 false (o.rest.arrays.map encArr),.vec 12 false (o.rest.objects.map encObj)]
theorem encTy_eq (t:Ty):encTy t=cT t:=by
 cases t; simp[encTy,encArrs_map,encObjs_map,Ty.all,Ty.null,Ty.fls,Ty.tru,Ty.nums,Ty.any,Ty.texts,Ty.arrays,Ty.objects]
theorem encArr_eq (a:Arr):encArr a=cA a:=by
 cases a; simp[encArr,encTy_eq,Arr.item,Arr.min,Arr.max]
theorem encObj_eq (o:Ob):encObj o=cO o:=by
 cases o; simp[encObj,encTy_eq,encTys_map,Ob.names,Ob.fields,Ob.must,Ob.rest]
attribute [simp] encTy_eq encArr_eq encObj_eq encStr encBool encSpan
theorem wrap64 {n:Int} (h1 : -9223372036854775808≤n) (h2:n≤9223372036854775807):IntKind.i64.wrap n=n:=by
 simp only[IntKind.wrap,IntKind.bits,IntKind.signed]
 simp
 omega
end Go.Proofs.YtjipnamfdmllmaaGreatDoor.Pv
namespace Go.Tidy
def Q3 (p q r:Ordering):Prop:=(p.isLE=true→q.isLE=true→r.isLE=true)∧(p=.eq→q=.eq→r=.eq)∧(p.isLE=true→q.isLE=true→r=.eq→p=.eq∧q=.eq)
instance (p q r:Ordering):Decidable (Q3 p q r):=by unfold Q3; infer_instance
theorem Q3.then {p q r p' q' r' : Ordering} (h:Q3 p q r) (k:Q3 p' q' r'):Q3 (p.then p') (q.then q') (r.then r'):=by
 revert p q r p' q' r'
 decide
theorem sExt {a b:S} (h:a.data.toList=b.data.toList):a=b:=ByteArray.ext (Array.ext' h)
theorem sEq_iff {a b:S}:sEq a b=true↔a=b:=⟨fun h=>sExt (by simpa[sEq] using h),fun h=>by subst h; simp[sEq]⟩
theorem sEmp_iff {a:S}:sEmp a=true↔a=ByteArray.empty:=by
 unfold sEmp
 rw[List.isEmpty_iff]
 exact⟨fun h=>sExt (by rw[h]; rfl),fun h=>by subst h; rfl⟩
end Go.Tidy
namespace Go.Tidy
end Go.Tidy
namespace Go.Tidy
open Go
end Go.Tidy
namespace Go.Tidy
open Go
end Go.Tidy
namespace Go.Tidy
open Go
end Go.Tidy
namespace Go.Tidy
open Go
def hle (n:Nat) (o:Ob):Prop:=heightT o.rest≤n∧∀ f∈o.fields,heightT f≤n
end Go.Tidy

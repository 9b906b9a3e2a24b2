/- Part 5. -/
import Derived.Test.YtngjnfbngheccaaGreatDoorU4
import Derived.LoopN
set_option linter.unusedSimpArgs false
set_option linter.unusedVariables false
namespace Go.Proofs.YtngjnfbngheccaaGreatDoor.Pv
open Go Go.RowKit
mutual
theorem aty (hl:Key→Option HE):∀ x:PV,leV hl x x
 | .vec _ _ _=>by simp[leV]
 | .own _ _ _ _ _=>by simp[leV]
 | .agg cs=>by simp only[leV]; exact Wo hl cs
 | .undef|.bool _|.int _ _|.str _|.nilp|.nilf|.nili|.ref _|.ptr _ _ _ _|.tup _|.fn _ _ _|.iface _ _|.opt _ _|.raw _=>by simp[leV]
theorem Wo (hl:Key→Option HE):∀ xs:List PV,leL hl xs xs
 | []=>by simp[leL]
 | x::xs=>by simp only[leL]; exact⟨aty hl x,Wo hl xs⟩
end
theorem bf (hl:Key→Option HE):∀ xs:List (List PV),leR hl xs xs
 | []=>by simp[leR]
 | x::xs=>by simp only[leR]; exact⟨Wo hl x,bf hl xs⟩
theorem aLs (hl:Key→Option HE) (x:PV):leV hl x .undef:=by
 cases x<;>simp[leV]
section
variable {E:Env} {h:List (Key × Option HE)} {c:Ctx} {w:World}
mutual
theorem ay6 (hg:dh E h c w) (q:Bool):∀ (x y:PV) (v:Value),leV (fun k=>hk k h) x y→bq w (if q then c else c.d) x v→bq w (if q then c else c.d) y v
 | .vec e f xs,y,v,hl,hr=>by
   simp only[leV] at hl
   split at hl
   ·obtain⟨rfl,rfl,hf⟩:=hl
    obtain⟨a,cap,q1,q2,q3,q4,q5,q6⟩:=hr
    exact⟨a,cap,q1,q2,q3,q4,fun h=>q5 (hf h),q6⟩
   ·trivial
   ·exact hl.elim
 | .own g e o l f,y,v,hl,hr=>by
   cases q with
   | false =>
     have hr' : bq w c.d (.own g e o l f) v:=by simpa using hr
     exact hr'.1.elim
   | true =>
     simp only[if_true] at hr ⊢
     simp only[leV] at hl
     split at hl
     ·obtain⟨rfl,rfl,rfl,rfl,hf⟩:=hl
      obtain⟨g1,g2,g3,a,cap,q1,q2,q3,q4,q5,q6⟩:=hr
      exact⟨g1,g2,g3,a,cap,q1,q2,q3,q4,fun h=>q5 (hf h),q6⟩
     ·rename_i e' f' xs'
      obtain⟨hl,rfl,rfl⟩:=hl
      cases he:hk g h with
      | none=>rw[he] at hl; exact hl.elim
      | some en =>
        rw[he] at hl
        obtain⟨h1,h2,h3,rfl⟩:=hl
        refine axI hg (c1:=c) (fun _ h=>h) he hr h2 h3 (fun b hb=>?_)
        obtain⟨k,hk,e2,he2,ad,had,rfl⟩:=hb
        simp only[List.mem_singleton] at hk
        subst hk
        rw[he] at he2
        cases he2
        have hh:=hg.heap _ _ he
        obtain⟨_,_,hh⟩:=hh
        rw[had] at hh
        exact hh.2.2.2.2 h1
     ·trivial
     ·exact hl.elim
 | .agg cs,y,v,hl,hr=>by
   simp only[leV] at hl
   split at hl
   ·obtain⟨vs,e,h1,h2⟩:=hr
    exact⟨vs,e,aIp hg q _ _ _ hl h1,h2⟩
   ·trivial
   ·exact hl.elim
 | .undef,y,v,hl,hr|.bool _,y,v,hl,hr|.int _ _,y,v,hl,hr|.str _,y,v,hl,hr|.nilp,y,v,hl,hr|.nilf,y,v,hl,hr|.nili,y,v,hl,hr|.ref _,y,v,hl,hr|.ptr _ _ _ _,y,v,hl,hr|.tup _,y,v,hl,hr|.fn _ _ _,y,v,hl,hr|.iface _ _,y,v,hl,hr|.opt _ _,y,v,hl,hr|.raw _,y,v,hl,hr=>by
   simp only[leV] at hl
   rcases hl with rfl|rfl
   ·trivial
   ·exact hr
theorem aIp (hg:dh E h c w) (q:Bool):∀ (xs ys:List PV) (vs:List Value),leL (fun k=>hk k h) xs ys→aY w (if q then c else c.d) xs vs→aY w (if q then c else c.d) ys vs
 | [],ys,vs,hl,hr=>by
   simp only[leL] at hl
   subst hl; exact hr
 | x::xs,ys,vs,hl,hr=>by
   simp only[leL] at hl
   split at hl
   ·obtain⟨u,us,rfl,h1,h2⟩:=hr
    exact⟨u,us,rfl,ay6 hg q _ _ _ hl.1 h1,aIp hg q _ _ _ hl.2 h2⟩
   ·exact hl.elim
end
theorem aGz (hg:dh E h c w) (q:Bool) (b:Nat):∀ (o:Nat) (xs ys:List PV),leL (fun k=>hk k h) xs ys→dX w (if q then c else c.d) b o xs→dX w (if q then c else c.d) b o ys∧ys.length=xs.length
 | o,[],ys,hl,hr=>by
   simp only[leL] at hl
   subst hl; exact⟨hr,rfl⟩
 | o,x::xs,ys,hl,hr=>by
   simp only[leL] at hl
   split at hl
   ·obtain⟨⟨v,h1,h2,h3⟩,h4⟩:=hr
    obtain⟨k1,k2⟩:=aGz hg q b (o+1) _ _ hl.2 h4
    exact⟨⟨⟨v,h1,h2,ay6 hg q _ _ _ hl.1 h3⟩,k1⟩,by simp[k2]⟩
   ·exact hl.elim
theorem alZ (hg:dh E h c w) (q:Bool) (esz b:Nat):∀ (o:Nat) (xs ys:List (List PV)),leR (fun k=>hk k h) xs ys→ay w (if q then c else c.d) esz b o xs→ay w (if q then c else c.d) esz b o ys∧ys.length=xs.length
 | o,[],ys,hl,hr=>by
   simp only[leR] at hl
   subst hl; exact⟨hr,rfl⟩
 | o,x::xs,ys,hl,hr=>by
   simp only[leR] at hl
   split at hl
   ·obtain⟨h1,h2,h3⟩:=hr
    obtain⟨k1,k2⟩:=aGz hg q b o _ _ hl.1 h2
    obtain⟨k3,k4⟩:=alZ hg q esz b (o+esz) _ _ hl.2 h3
    exact⟨⟨k2.trans h1,k1,k3⟩,by simp[k4]⟩
   ·exact hl.elim
end
def apW (hl:Key→Option HE):List (Nat × PV)→List (Nat × PV)→Prop
 | [],_=>True
 | (t,x)::l,s=>leV hl (lk t s) x∧apW hl l s
mutual
def kfV:PV→Bool
 | .own _ _ _ _ _|.ptr _ _ _ _=>false
 | .agg cs=>kfL cs
 | .tup cs=>kfL cs
 | .fn _ a b=>kfL a&&kfL b
 | .iface _ x=>kfV x
 | .opt _ x=>kfV x
 | .undef|.bool _|.int _ _|.str _|.nilp|.nilf|.nili|.vec _ _ _|.ref _|.raw _=>true
def kfL:List PV→Bool
 | []=>true
 | x::xs=>kfV x&&kfL xs
end
def kfR:List (List PV)→Bool
 | []=>true
 | x::xs=>kfL x&&kfR xs
mutual
theorem akd {w:World} {c:Ctx}:∀ (x:PV) (v:Value),kfV x=true→bq w c x v→bq w c.d x v
 | .own _ _ _ _ _,_,h,_=>by simp[kfV] at h
 | .ptr _ _ _ _,_,h,_=>by simp[kfV] at h
 | .agg cs,v,h,hr=>by
   obtain⟨vs,e,h1,h2⟩:=hr
   exact⟨vs,e,akl cs _ h h1,h2⟩
 | .tup cs,v,h,hr=>by
   obtain⟨vs,e,h1⟩:=hr
   exact⟨vs,e,akl cs _ h h1⟩
 | .fn f a b,v,h,hr=>by
   simp only[kfV,Bool.and_eq_true] at h
   obtain⟨x,y,e,h1,h2⟩:=hr
   exact⟨x,y,e,akl a _ h.1 h1,akl b _ h.2 h2⟩
 | .iface t x,v,h,hr=>by
   obtain⟨u,e,h1⟩:=hr
   exact⟨u,e,akd x u h h1⟩
 | .opt b x,v,h,hr=>⟨fun hb=>akd x v h (hr.1 hb),hr.2⟩
 | .undef,_,_,hr|.bool _,_,_,hr|.int _ _,_,_,hr|.str _,_,_,hr|.nilp,_,_,hr|.nilf,_,_,hr|.nili,_,_,hr|.vec _ _ _,_,_,hr|.ref _,_,_,hr|.raw _,_,_,hr=>hr
theorem akl {w:World} {c:Ctx}:∀ (xs:List PV) (vs:List Value),kfL xs=true→aY w c xs vs→aY w c.d xs vs
 | [],_,_,hr=>hr
 | x::xs,_,h,hr=>by
   simp only[kfL,Bool.and_eq_true] at h
   obtain⟨u,us,e,h1,h2⟩:=hr
   exact⟨u,us,e,akd x u h.1 h1,akl xs us h.2 h2⟩
end
theorem aFp {w:World} {c:Ctx} {b:Nat}:∀ (o:Nat) (xs:List PV),kfL xs=true→dX w c b o xs→dX w c.d b o xs
 | _,[],_,_=>trivial
 | o,x::xs,h,hr=>by
   simp only[kfL,Bool.and_eq_true] at h
   obtain⟨⟨v,h1,h2,h3⟩,h4⟩:=hr
   exact⟨⟨v,h1,h2,akd x v h.1 h3⟩,aFp (o+1) xs h.2 h4⟩
theorem avC {w:World} {c:Ctx} {n b:Nat}:∀ (o:Nat) (xs:List (List PV)),kfR xs=true→ay w c n b o xs→ay w c.d n b o xs
 | _,[],_,_=>trivial
 | o,x::xs,h,hr=>by
   simp only[kfR,Bool.and_eq_true] at h
   obtain⟨h1,h2,h3⟩:=hr
   exact⟨h1,aFp o x h.1 h2,avC (o+n) xs h.2 h3⟩
def apg (b b' : Bool) (xs:List (List PV)):Prop:=b=b'∨b'=true∨kfR xs=true
theorem aEy {w:World} {c:Ctx} {n bl o:Nat} {b b' : Bool} {xs:List (List PV)} (h:apg b b' xs) (hr:ay w (if b then c else c.d) n bl o xs):ay w (if b' then c else c.d) n bl o xs:=by
 rcases h with rfl|rfl|h
 ·exact hr
 ·simp only[if_true]; exact ay.aF8 hr
 ·cases b'
  ·cases b
   ·exact hr
   ·exact avC o xs h (by simpa using hr)
  ·simp only[if_true]; exact ay.aF8 hr
def leE (hl:Key→Option HE):Option HE→Option HE→Prop
 | _,none=>True
 | some e,some e'=>e.esz=e'.esz∧e.fz=e'.fz∧apg e.bx e'.bx e'.xs∧leR hl e.xs e'.xs
 | none,some _=>False
def ajU (hl:Key→Option HE):List (Key × Option HE)→List (Key × Option HE)→Prop
 | [],_=>True
 | (k,e)::l,h=>leE hl (hk k h) e∧ajU hl l h
theorem aIn {hl:Key→Option HE} {s:List (Nat × PV)} (t:Nat):∀ {s' : List (Nat × PV)},apW hl s' s→leV hl (lk t s) (lk t s')
 | [],_=>aLs hl _
 | (u,x)::l,h=>by
   simp only[lk]
   split
   ·rename_i e; subst e; exact h.1
   ·exact aIn t h.2
theorem axL {hl:Key→Option HE} {s:List (Key × Option HE)} (t:Key):∀ {s' : List (Key × Option HE)},ajU hl s' s→leE hl (hk t s) (hk t s')
 | [],_=>trivial
 | (u,x)::l,h=>by
   simp only[hk]
   split
   ·rename_i e; subst e; exact h.1
   ·exact axL t h.2
def Le (E:Env) (st st' : St):Prop:=∀ a w,Rel E st a w→Rel E st' a w
theorem Le.refl (E:Env) (st:St):Le E st st:=fun _ _ h=>h
theorem Le.trans {E:Env} {s1 s2 s3:St} (h:Le E s1 s2) (k:Le E s2 s3):Le E s1 s3:=fun a w hr=>k a w (h a w hr)
theorem Good.ofH {E:Env} {st:St} {c:Ctx} {a:Act} {w:World} (hd:a.defers=[]) (hs:a.tmps.size=E.nt) (hh:dh E st.h c w) (hl:∀ t v,a.tmps[t]? = some v→bq w c (lk t st.s) v) (hgh:∀ p∈E.G,bq w c p.1 p.2):Good E st c a w :=
 ⟨hd,hs,hl,hh.heap,hh.fresh,hh.apart,hh.fz,hh.le,hh.bnd,hh.below,hgh⟩
theorem Le.of {E:Env} {s s' : List (Nat × PV)} {h h' : List (Key × Option HE)} (hs:apW (fun k=>hk k h) s' s∧ajU (fun k=>hk k h) h' h):Le E ⟨s,h⟩ ⟨s',h'⟩:=by
 rintro a w ⟨c,hg⟩
 have hh:=hg.hgood
 refine⟨c,Good.ofH hg.defers hg.size ?_ (fun t v hv=>?_) hg.ghost⟩
 ·have look:∀ k e',hk k h'=some e'→∃ e,hk k h=some e∧e.esz=e'.esz∧e.fz=e'.fz∧apg e.bx e'.bx e'.xs∧leR (fun k=>hk k h) e.xs e'.xs:=fun k e' he'=>by
     have:=axL k hs.2
     rw[he'] at this
     cases he:hk k h with
     | none=>rw[he] at this; exact this.elim
     | some e=>rw[he] at this; exact⟨e,rfl,this⟩
  refine⟨fun k e' he'=>?_,fun k e' ad he' had=>?_,fun k k' e e' ad ad' he he'=>?_,hh.fz,hh.le,hh.bnd,hh.below⟩
  ·obtain⟨e,he,h1,h2,h3,h4⟩:=look k e' he'
   obtain⟨g1,g2,g3⟩:=hh.heap k e he
   refine⟨g1,by rw[← h1]; exact g2,?_⟩
   cases hb:c.β k with
   | none =>
     rw[hb] at g3
     obtain⟨g3,g4⟩:=g3
     rw[g3] at h4
     exact⟨by simpa[leR] using h4,by rw[← h1]; exact g4⟩
   | some ad =>
     rw[hb] at g3
     obtain⟨b1,⟨cs,el,fr,b2,b3,b4⟩,b5,b6⟩:=g3
     obtain⟨k1,k2⟩:=alZ hh e.bx _ _ _ _ _ h4 b5
     refine⟨b1,⟨cs,el,fr,b2,by rw[k2,← h1]; exact b3,b4⟩,by rw[← h1]; exact aEy h3 k1,by rw[← h2]; exact b6⟩
  ·obtain⟨e,he,_⟩:=look k e' he'
   exact hh.fresh k e ad he had
  ·obtain⟨e0,he0,_⟩:=look k e he
   obtain⟨e1,he1,_⟩:=look k' e' he'
   exact hh.apart k k' e0 e1 ad ad' he0 he1
 ·have:=ay6 hh true _ _ v (aIn t hs.1) (by simpa using hg.slot t v hv)
  simpa using this
theorem Le.freeze {E:Env} {s:List (Nat × PV)} {h:List (Key × Option HE)} (ks:List Key):Le E ⟨s,h⟩ ⟨s,jO (fun k=>hk k h) ks++h⟩:=by
 rintro a w ⟨c,hg⟩
 exact⟨_,Good.ofH hg.defers hg.size (hg.hgood.freeze ks) (fun t v hv=>bq.mono _ _ (d9.refl _ _) ag5 (hg.slot t v hv)) (fun p hp=>bq.mono _ _ (d9.refl _ _) ag5 (hg.ghost p hp))⟩
def alM (t esz ks v:Nat) (st:St):St:=⟨(t,.own (ks,v) esz 0 0 true)::st.s,((ks,v),some ⟨esz,[],false,false⟩)::st.h⟩
def owns:List (Nat × Nat × Nat)→Nat→St→St
 | [],_,st=>st
 | (t,esz,ks)::l,v,st=>owns l v (alM t esz ks v st)
def ap1:List (Nat × Nat × Nat)→Nat→St→Prop
 | [],_,_=>True
 | (t,esz,ks)::l,v,st=>lk t st.s=.vec esz true []∧0<esz∧(l.map (·.2.2)).contains ks=false∧ap1 l v (alM t esz ks v st)
theorem azC {E:Env} {st:St} {c:Ctx} {a:Act} {w:World} {t esz ks v:Nat} (hg:Good E st c a w) (ht:lk t st.s=.vec esz true []) (he:0<esz) (hk' : ¬ c.U (ks,v)):Good E (alM t esz ks v st) (newCtx c (ks,v) none esz) a w:=by
 have hle:=oo (a:=none) (n:=esz) hk'
 have hβ:∀ k,k≠(ks,v)→(newCtx c (ks,v) none esz).β k=c.β k:=fun k hk=>if_neg hk
 have hβk:(newCtx c (ks,v) none esz).β (ks,v)=none:=if_pos rfl
 refine Good.ofH hg.defers hg.size ⟨fun k e hke=>?_,fun k e ad hke had=>?_,fun k k' e e' ad ad' hke hke' had had' hne=>?_,hg.fz,hg.le,QJ hg.bnd,hg.below⟩ (fun u x hx=>?_) (fun p hp=>bq.mono _ _ (d9.refl _ _) hle (hg.ghost p hp))
 ·simp only[alM,gy] at hke
  split at hke
  ·rename_i e1
   subst e1
   cases hke
   refine⟨.inr rfl,(if_pos rfl).symm,?_⟩
   rw[hβk]
   exact⟨rfl,he⟩
  ·exact (hg.heap k e hke).mono (d9.refl _ _) hle (fun _ _=>Iff.rfl) (fun _ _=>rfl)
 ·simp only[alM,gy] at hke
  split at hke
  ·rename_i e1
   subst e1
   rw[hβk] at had; cases had
  ·rename_i hne
   rw[hβ k hne] at had
   exact hg.fresh k e ad hke had
 ·simp only[alM,gy] at hke hke'
  split at hke
  ·rename_i e1
   subst e1
   rw[hβk] at had; cases had
  ·rename_i h1
   split at hke'
   ·rename_i e1
    subst e1
    rw[hβk] at had'; cases had'
   ·rename_i h2
    rw[hβ k h1] at had
    rw[hβ k' h2] at had'
    exact hg.apart k k' e e' ad ad' hke hke' had had' hne
 ·simp only[alM,lk]
  have hr:=hg.slot u x hx
  split
  ·rename_i e1
   subst e1
   rw[ht] at hr
   obtain⟨a',cap,q1,q2,q3,q4,q5,q6⟩:=hr
   have hcap:cap=0:=q5 rfl
   subst hcap
   refine⟨.inr rfl,(if_pos rfl).symm,he,a',0,q1,by simp,by simp,by simp[LIM],by simp,?_⟩
   rw[hβk]
   exact⟨rfl,rfl,rfl⟩
  ·exact bq.mono _ _ (d9.refl _ _) hle hr
theorem az0 {E:Env} {a:Act} {w:World} {v:Nat}:∀ (ts:List (Nat × Nat × Nat)) (st:St) (c:Ctx),Good E st c a w→ap1 ts v st→(∀ t∈ts,¬ c.U (t.2.2,v))→∃ c',Good E (owns ts v st) c' a w
 | [],st,c,hg,_,_=>⟨c,hg⟩
 | (t,esz,ks)::l,st,c,hg,ho,hU=>by
   obtain⟨h1,h2,h3,h4⟩:=ho
   refine az0 l _ _ (azC hg h1 h2 (hU (t,esz,ks) (by simp))) h4 (fun x hx hu=>?_)
   rcases hu with hu|hu
   ·exact hU x (by simp[hx]) hu
   ·have:x.2.2=ks:=by simpa using congrArg Prod.fst hu
    rw[← this] at h3
    have hm:x.2.2∈l.map (·.2.2):=List.mem_map.2 ⟨x,hx,rfl⟩
    simp only[List.contains_eq_mem,decide_eq_false_iff_not] at h3
    exact h3 hm
theorem aMc {E:Env} {st:St} {a:Act} {w:World} {ts:List (Nat × Nat × Nat)} (hr:Rel E st a w) (ho:∀ v,ap1 ts v st):∃ v,Rel E (owns ts v st) a w:=by
 obtain⟨c,hg⟩:=hr
 obtain⟨N,hN⟩:=hg.bnd
 exact⟨N,az0 ts st c hg (ho N) (fun t _ hu=>Nat.lt_irrefl _ (hN _ hu))⟩
def LQ (E:Env) {ι:Type} (S:ι→St) (J:ι→Prop) (μ:ι→Nat) (i:ι) (ks:List KF) (Q:Ex→St→Prop):Ex→St→Prop
 | .normal,st'=>∃ j,J j∧μ j<μ i∧Le E st' (S j)
 | e,st'=>XE E e st' ks Q
theorem JD {P:Program} {nt:Nat} {c:Code} {m:MC} (h:dW P nt c=some (.loop m)):∃ x,c=.loop x∧dW P nt x=some m:=by
 cases c with
 | loop x =>
   simp only[dW,Option.map_eq_some_iff,MC.loop.injEq,exists_eq_right] at h
   exact⟨x,rfl,h⟩
 | region id ops d =>
   simp only[dW] at h
   split at h
   ·split at h
    ·split at h<;>cases h
    ·cases h
   ·cases h
 | seq x y=>simp only[dW] at h; split at h<;>cases h
 | cond q x y=>simp only[dW] at h; split at h<;>cases h
 | block id x=>simp[dW] at h
 | scope x=>simp[dW] at h
 | _=>simp[dW] at h
theorem aU.own {E:Env} (ah:E.P.follows .mixedOrders=true) {body:MC} {st:St} {ks:List KF} {Q:Ex→St→Prop} {ι:Type} (S:ι→St) (J:ι→Prop) (μ:ι→Nat) (ts:List (Nat × Nat × Nat)) (ho:∀ v,ap1 ts v st) (h0:∀ v,∃ i0,J i0∧Le E (owns ts v st) (S i0))
 (hr:∀ i,J i→XC E body (S i) [] (LQ E S J μ i ks Q)):aU E (.loop body) st ks Q:=by
 intro c hm a w hrel
 obtain⟨x,rfl,hm1⟩:=JD hm
 obtain⟨v,hrel'⟩:=aMc hrel ho
 obtain⟨i0,hJ0,hle0⟩:=h0 v
 refine wp_loop_ghost (fun n a w=>∃ i,J i∧μ i=n∧Rel E (S i) a w) (μ i0) ⟨i0,hJ0,rfl,hle0 a w hrel'⟩ ?_
 rintro n a w ⟨i,hJ,rfl,hri⟩
 refine wp_mono (jg ah x body (S i) a w _ hm1 hri (hr i hJ)) ?_
 rintro e a' w' ⟨ex,st',rfl,hq,hr'⟩
 cases ex with
 | normal =>
   obtain⟨j,h1,h2,h3⟩:=hq
   exact⟨μ j,h2,j,h1,rfl,h3 a' w' hr'⟩
 | exit id=>exact⟨.exit id,st',rfl,hq,hr'⟩
 | goto l=>exact⟨.goto l,st',rfl,hq,hr'⟩
 | ret=>exact⟨.ret,st',rfl,hq,hr'⟩
theorem aU.intro {E:Env} (ah:E.P.follows .mixedOrders=true) {body:MC} {st:St} {ks:List KF} {Q:Ex→St→Prop} {ι:Type} (S:ι→St) (J:ι→Prop) (μ:ι→Nat) (i0:ι) (h0:J i0) (hst:Le E st (S i0))
 (hr:∀ i,J i→XC E body (S i) [] (LQ E S J μ i ks Q)):aU E (.loop body) st ks Q :=
 aU.own ah S J μ [] (fun _=>trivial) (fun _=>⟨i0,h0,hst⟩) hr
theorem ak.ret {E:Env} {f:FuncId} {args:List PV} {d:Option Nat} {ms:List MOp} {st:St} {ks:List KF} {Q:Ex→St→Prop} {r:PV} (hr:Ret E.P f (og (fun k=>hk k st.h) args) r)
 (h:(Iw (fun k=>hk k st.h) args r).pre∧XR E ms (st.put d (Iw (fun k=>hk k st.h) args r)) ks Q):ak E f args d ms st ks Q:=.inl fun v _=>.inl ⟨r,hr,h⟩
theorem ak.zn {E:Env} {f:FuncId} {args:List PV} {d:Option Nat} {ms:List MOp} {st:St} {ks:List KF} {Q:Ex→St→Prop} {esz:Nat} {xs:List (List PV)} (hr:gU E.P f (og (fun k=>hk k st.h) args) esz xs)
 (h:∀ v,E.V≤v→(uQ (fun k=>hk k st.h) args (d.getD 0,v) esz xs).pre∧XR E ms (st.put d (uQ (fun k=>hk k st.h) args (d.getD 0,v) esz xs)) ks Q):ak E f args d ms st ks Q:=.inl fun v hv=>.inr ⟨esz,xs,hr,h v hv⟩
theorem aH.ret {E:Env} {un:List (Nat × Nat)} {v:Nat} {acc:List (List Nat × List Nat)} {f:FuncId} {args:List PV} {d:Option Nat} {ms:List MOp} {st:St} {ks:List KF} {Q:Ex→St→Prop} {r:PV} (hr:Ret E.P f (og (fun k=>hk k st.h) args) r)
 (h:(Iw (fun k=>hk k st.h) args r).pre∧XD E un v (acc++[((Iw (fun k=>hk k st.h) args r).rd,o9 (Iw (fun k=>hk k st.h) args r).hu)]) ms (st.put d (Iw (fun k=>hk k st.h) args r)) ks Q):aH E un v acc f args d ms st ks Q:=.inl ⟨r,hr,h⟩
theorem aH.zn {E:Env} {un:List (Nat × Nat)} {v:Nat} {acc:List (List Nat × List Nat)} {f:FuncId} {args:List PV} {d:Option Nat} {ms:List MOp} {st:St} {ks:List KF} {Q:Ex→St→Prop} {esz:Nat} {xs:List (List PV)} (hr:gU E.P f (og (fun k=>hk k st.h) args) esz xs)
 (h:(uQ (fun k=>hk k st.h) args (d.getD 0,v) esz xs).pre∧XD E un v (acc++[((uQ (fun k=>hk k st.h) args (d.getD 0,v) esz xs).rd,o9 (uQ (fun k=>hk k st.h) args (d.getD 0,v) esz xs).hu)]) ms (st.put d (uQ (fun k=>hk k st.h) args (d.getD 0,v) esz xs)) ks Q):aH E un v acc f args d ms st ks Q:=.inr ⟨esz,xs,hr,h⟩
def aNH (P:Program) (nt:Nat):ResultVar→Option RV
 | .tmp t=>if t<nt then some (.tmp t) else none
 | .cell a t=>if a<nt∧okT P t=true then some (.cell a t (kR P t) (QH P t)) else none
def alP (P:Program) (nt:Nat):List ResultVar→Option (List RV)
 | []=>some []
 | r::rs=>match aNH P nt r,alP P nt rs with
   | some x,some xs=>some (x::xs)
   | _,_=>none
def av (P:Program) (f:Nat):Option (MC × Nat × List RV):=match P.funcs[f]? with
 | some fn=>if callable P f then (match fn.body with
   | some c=>match dW P fn.ntmps c,alP P fn.ntmps fn.results.toList with
     | some m,some rs=>some (m,fn.ntmps,rs)
     | _,_=>none
   | none=>none) else none
 | none=>none
theorem JI {P:Program} {f:Nat} {m:MC} {nt:Nat} {rs:List RV} (h:av P f=some (m,nt,rs)):∃ fn c,P.funcs[f]? = some fn∧callable P f=true∧fn.body=some c∧nt=fn.ntmps∧dW P nt c=some m∧alP P nt fn.results.toList=some rs:=by
 unfold av at h
 split at h
 ·rename_i fn hf
  split at h
  ·rename_i hc
   split at h
   ·rename_i c hb
    split at h
    ·rename_i m' rs' h1 h2
     cases h
     exact⟨fn,c,hf,hc,hb,rfl,h1,h2⟩
    ·cases h
   ·cases h
  ·cases h
 ·cases h
def ald (tmps:Array Value):ResultVar→Sem Value
 | .tmp t=>pure (tmps.getD t undef)
 | .cell x t=>do loadVar t (← asAddr (tmps.getD x undef))
theorem aJk (fn:Func) (tmps:Array Value):results fn tmps=(do
 let vs ← fn.results.mapM (ald tmps)
 pure (if h:vs.size=1 then vs[0] else .tuple vs)):=by
 unfold results
 congr 2
theorem asc {E:Env} {st:St} {c:Ctx} {a:Act} {w:World} (hg:Good E st c a w):∀ (l:List ResultVar) (rs:List RV),alP E.P E.nt l=some rs→Ji st rs →
 ∃ vs:List Value,(l.mapM (ald a.tmps)).run E.P w=.ok vs w∧aY w c (rs.map (aoO st)) vs
 | [],rs,h,_=>by simp[alP] at h; subst h; exact⟨[],rfl,rfl⟩
 | r::l,rs,h,hok=>by
   simp only[alP] at h
   split at h
   ·rename_i x xs h1 h2
    cases h
    have hrest:Ji st xs:=by cases x with
     | tmp t=>exact hok
     | cell=>exact hok.2
    obtain⟨us,u1,u2⟩:=asc hg l xs h2 hrest
    rw[List.mapM_cons]
    cases r with
    | tmp t =>
      simp only[aNH] at h1
      split at h1
      ·rename_i ht
       cases h1
       obtain⟨v,hv,hr⟩:=hg.tmp ht
       refine⟨v::us,?_,v,us,rfl,hr,u2⟩
       have hv' : a.tmps.getD t undef=v:=by simp[Array.getD_eq_getD_getElem?,hv]
       simp only[ald,Sem.run_bind,Sem.run_pure,Result.andThen_ok,u1,hv']
      ·cases h1
    | cell x t =>
      simp only[aNH] at h1
      split at h1
      ·rename_i hx
       cases h1
       obtain⟨hx,ht⟩:=hx
       obtain⟨v,hv,hr⟩:=hg.tmp hx
       have hok1:=hok.1
       have hv' : a.tmps.getD x undef=v:=by simp[Array.getD_eq_getD_getElem?,hv]
       obtain⟨inf,d,i1,i2,i3⟩:=Dx (P:=E.P) (t:=t) (by rw[ht]; simp)
       cases hl:lk x st.s with
       | ptr g esz i off =>
         rw[hl] at hok1 hr
         simp only at hok1
         cases he:hk g st.h with
         | none=>rw[he] at hok1; exact hok1.elim
         | some e =>
           rw[he] at hok1
           obtain⟨p1,p2,p3⟩:=hok1
           obtain⟨g1,g2,ad,g3,g4⟩:=hr
           have hh:=hg.hgood.heap g e he
           obtain⟨ad',q1,q2,q3,q4,q5⟩:=hh.block (by omega)
           rw[g3] at q1
           obtain rfl:=Option.some.inj q1
           obtain⟨_,r2⟩:=ay.get i (e.xs.getD i []) q4.aF8 (by simp[List.getD,List.getElem?_eq_getElem p1])
           have r3:=dX.drop off r2
           obtain⟨y,s1,s2,_⟩:=azh i1 i2 r3 (by rw[← i3]; simp only[List.length_drop]; omega) (by rw[← i3]; exact p3)
           have e1:esz=e.esz:=by rw[g2,hh.2.1]
           refine⟨y::us,?_,y,us,rfl,?_,u2⟩
           ·have hr1:(ald a.tmps (.cell x t)).run E.P w=.ok y w:=by
               simp only[ald,Sem.run_bind,hv',g4,asAddr,Sem.run_pure,Result.andThen_ok,e1,s1]
            simp only[Sem.run_bind,hr1,Sem.run_pure,Result.andThen_ok,u1]
           ·simp only[aoO,hl,he]
            rw[i3]; exact s2
       | _=>rw[hl] at hok1; exact hok1.elim
      ·cases h1
   ·cases h
theorem Jo {E:Env} {st:St} {c:Ctx} {a:Act} {w:World} (hg:Good E st c a w) {fn:Func} {rs:List RV} (h:alP E.P E.nt fn.results.toList=some rs) (hok:Ji st rs):∃ v,(results fn a.tmps).run E.P w=.ok v w∧bq w c (oZ st rs) v:=by
 obtain⟨vs,h1,h2⟩:=asc hg _ rs h hok
 have hrun:∀ v:Value,(if h:vs.toArray.size=1 then vs.toArray[0] else .tuple vs.toArray)=v→(results fn a.tmps).run E.P w=.ok v w:=fun v hv=>by
  rw[aJk,Array.mapM_eq_mapM_toList]
  simp only[Sem.run_bind,Sem.run_map]
  rw[h1]
  simp only[Result.andThen_ok,Sem.run_pure]
  rw[hv]
 match rs,h2 with
 | [],h2 =>
   have:vs=[]:=h2
   subst this
   exact⟨.tuple #[],hrun _ rfl,#[],rfl,rfl⟩
 | [x],h2 =>
   obtain⟨u,us,rfl,k1,k2⟩:=h2
   have:us=[]:=k2
   subst this
   exact⟨u,hrun _ rfl,k1⟩
 | x::y::l,h2 =>
   have hlen:vs.length=l.length+2:=by rw[h2.length]; simp
   exact⟨.tuple vs.toArray,hrun _ (by rw[dif_neg]; simp; omega),vs.toArray,rfl,h2⟩
theorem aww (t:Nat):∀ (args:List PV) (n:Nat),lk t ((args.zipIdx n).map fun p=>(p.2,p.1))=if n≤t then (args[t-n]?).getD .undef else .undef
 | [],n=>by simp[lk]
 | x::args,n=>by
   simp only[List.zipIdx_cons,List.map_cons,lk]
   rw[aww t args (n+1)]
   by_cases h:t=n
   ·subst h; simp
   ·rw[if_neg h]
    by_cases hn:n+1≤t
    ·rw[if_pos hn,if_pos (by omega),show t-n=(t-(n+1))+1 by omega,List.getElem?_cons_succ]
    ·rw[if_neg hn]
     rw[if_neg (by omega)]
theorem apr {P:Program} {w:World} {F:Nat→Prop} {nt:Nat} {args:List PV} {vs:List Value} (hG:GOk P w F) (hF:∀ b,F b→b<w.heap.size) (hr:aY w (GY F) args vs) (hn:args.length≤nt) :
 Good ⟨P,w,F,nt,[],0,hG⟩ (St.init args) (GY F) { tmps:=vs.toArray++Array.replicate (nt-vs.toArray.size) undef,defers:=[] } w:=by
 have hl:=hr.length
 refine Good.ofH rfl (by simp; omega) ⟨fun k e he=>by simp[St.init,hk] at he,fun k e ad he=>by simp[St.init,hk] at he,fun k k' e e' ad ad' he=>by simp[St.init,hk] at he,fun b hb=>⟨hF b hb,.inl hb⟩,fun b hb=>hb,⟨0,fun _ h=>h.elim⟩,Bel.refl _ _⟩ (fun t v hv=>?_) (fun p hp=>by simp at hp)
 simp only[St.init]
 rw[aww]
 simp only[Nat.zero_le,if_true,Nat.sub_zero]
 cases hx:args[t]? with
 | none=>trivial
 | some x =>
   obtain⟨u,hu,hru⟩:=aY.get t x hr hx
   have hlt:t<vs.length:=(List.getElem?_eq_some_iff.1 hu).1
   rw[Array.getElem?_append_left (by simpa using hlt)] at hv
   simp only[List.getElem?_toArray] at hv
   rw[hu] at hv
   cases hv
   exact hru
theorem Ret.of_wp {P:Program} {f nt:Nat} {m:MC} {rs:List RV} {args:List PV} {r:PV} (hm:av P f=some (m,nt,rs)) (hn:args.length≤nt) (h:∀ c,dW P nt c=some m→∀ w0 F0 (hG:GOk P w0 F0) a,Good ⟨P,w0,F0,nt,[],0,hG⟩ (St.init args) (GY F0) a w0→c.wp P (aJJ ⟨P,w0,F0,nt,[],0,hG⟩ (yt rs r)) a w0):Ret P f args r:=by
 obtain⟨fn,c,hf,hc,hb,rfl,htm,hrs⟩:=JI hm
 refine⟨hc,fun w F vs hG hF hr=>calls_of_wp hf hb ?_⟩
 refine wp_mono (h c htm w F hG _ (apr hG hF hr hn)) ?_
 rintro e a' w' ⟨ex,st',rfl,hq,c',hg⟩
 have key:∀ q:Ji st' rs∧okV (fun k=>hk k st'.h) (oZ st' rs)∧reify (fun k=>hk k st'.h) (oZ st' rs)=r,a'.defers=[]∧∃ v,(results fn a'.tmps).run P w'=.ok v w' ∧
  ∃ v' F',Ending.returned v=.returned v'∧Bel w.heap.size w w'∧(∀ b,F b→F' b)∧(∀ b,F' b→b<w'.heap.size∧(F b∨w.heap.size≤b))∧bq w' (GY F') r v':=by
  rintro⟨q1,q2,rfl⟩
  obtain⟨v,k1,k2⟩:=Jo hg hrs q1
  have hfz:=hg.hgood.freeze (keysOf (fun k=>hk k st'.h) (oZ st' rs))
  have:=aeA hg.hgood (c1:=zI st'.h c' (keysOf (fun k=>hk k st'.h) (oZ st' rs))) (fun _ hb=>.inl hb) _ _ k2 q2 (fun _ hb=>.inr hb)
  exact⟨hg.defers,v,k1,v,_,rfl,hg.below,hfz.le,hfz.fz,bq.mono _ _ (d9.refl _ _) (ax4 (fun _ h=>h)) this⟩
 cases ex with
 | normal=>exact key hq
 | ret=>exact key hq
 | exit id=>exact hq.elim
 | goto l=>exact hq.elim
theorem Ret.of {P:Program} {f nt:Nat} {m:MC} {rs:List RV} {args:List PV} {r:PV} (ah:P.follows .mixedOrders=true) (hm:av P f=some (m.erase,nt,rs)) (hn:args.length≤nt) (h:∀ w0 F0 hG,XC ⟨P,w0,F0,nt,[],0,hG⟩ m (St.init args) [] (yt rs r)):Ret P f args r :=
 Ret.of_wp hm hn fun c htm w F hG a hg=>jg (E:=⟨P,w,F,nt,[],0,hG⟩) ah c m (St.init args) a w _ htm ⟨_,hg⟩ (h w F hG)
theorem gU.of_wp {P:Program} {f nt:Nat} {m:MC} {rs:List RV} {args:List PV} {esz:Nat} {xs:List (List PV)} (hm:av P f=some (m,nt,rs)) (hn:args.length≤nt) (h:∀ c,dW P nt c=some m→∀ w0 F0 (hG:GOk P w0 F0) a,Good ⟨P,w0,F0,nt,[],0,hG⟩ (St.init args) (GY F0) a w0→c.wp P (aJJ ⟨P,w0,F0,nt,[],0,hG⟩ (au6 rs esz xs)) a w0):gU P f args esz xs:=by
 obtain⟨fn,c,hf,hc,hb,rfl,htm,hrs⟩:=JI hm
 refine⟨hc,fun w F vs hG hF hr=>calls_of_wp hf hb ?_⟩
 refine wp_mono (h c htm w F hG _ (apr hG hF hr hn)) ?_
 rintro e a' w' ⟨ex,st',rfl,hq,c',hg⟩
 have key:∀ q:Ji st' rs∧aDg (fun k=>hk k st'.h) esz xs (oZ st' rs),a'.defers=[]∧∃ v,(results fn a'.tmps).run P w'=.ok v w' ∧
  ∃ v' F' a,Ending.returned v=.returned v'∧Bel w.heap.size w w'∧(∀ b,F b→F' b)∧(∀ b,F' b→b<w'.heap.size∧(F b∨w.heap.size≤b)) ∧
    bq w' (as4 a esz F') (.own (0,0) esz 0 xs.length false) v'∧abt w' (as4 a esz F') (0,0) ⟨esz,xs,false,false⟩∧∀ ad,a=some ad→w.heap.size≤ad.block:=by
  rintro⟨q1,q2⟩
  obtain⟨v,k1,k2⟩:=Jo hg hrs q1
  refine⟨hg.defers,v,k1,v,c'.Fz,?_⟩
  cases hx:oZ st' rs with
  | own g esz' off len full =>
    rw[hx] at q2 k2
    obtain⟨rfl,q2⟩:=q2
    cases he:hk g st'.h with
    | none=>simp only[he] at q2
    | some e =>
      simp only[he] at q2
      obtain⟨p1,p2,p3,p4⟩:=q2
      obtain⟨g1,g2,g3,a,cap,s1,s2,s3,s4,s5,s6⟩:=k2
      have hxl:xs.length=len:=by rw[← p4]; simp; omega
      have hh:=hg.hgood.heap g e he
      have ee:esz'=e.esz:=by rw[g2,hh.2.1]
      obtain⟨_,_,hb'⟩:=hh
      cases hβ:c'.β g with
      | none =>
        rw[hβ] at s6 hb'
        obtain⟨rfl,rfl,rfl⟩:=s6
        have hxs:xs=[]:=List.eq_nil_of_length_eq_zero hxl
        subst hxs
        exact⟨none,rfl,hg.below,hg.le,hg.fz,⟨rfl,rfl,g3,a,0,s1,by simp,s3,s4,by simp,⟨rfl,rfl,rfl⟩⟩,⟨rfl,rfl,rfl,g3⟩,fun ad h=>by cases h⟩
      | some ad =>
        rw[hβ] at s6 hb'
        obtain⟨b1,⟨cs,el,fr,b2,b3,b4⟩,b5,b6⟩:=hb'
        have hfr:=hg.hgood.fresh g e ad he hβ
        rw[p2] at b5
        have b5' : ay w' c'.d e.esz ad.block ad.off e.xs:=by simpa using b5
        have hrows:ay w' (as4 (some ⟨ad.block,ad.off+off*e.esz,none⟩) e.esz c'.Fz).d e.esz ad.block (ad.off+off*e.esz) xs:=by
         rw[← p4]
         exact ay.take _ (ay.drop _ (ay.mono _ _ rfl _ _ (c:=c'.d) (d9.refl _ _) (Ctx.Le.d (fun _ h=>h)) b5'))
        have hle:off*e.esz+xs.length*e.esz≤e.xs.length*e.esz:=by
         rw[← Nat.add_mul]; exact Nat.mul_le_mul_right _ (by omega)
        refine⟨some ⟨ad.block,ad.off+off*e.esz,none⟩,rfl,hg.below,hg.le,hg.fz,⟨rfl,rfl,g3,a,cap,by rw[hxl]; exact s1,by rw[hxl]; exact s2,s3,by rw[hxl]; exact s4,by simp,?_⟩,⟨rfl,rfl,rfl,⟨cs,el,fr,b2,?_,b4⟩,?_,?_⟩,fun ad' h=>by cases h; exact hfr.1⟩
        ·rcases s6 with s6|⟨s6,cs',el',fr',s7,s8⟩
         ·exact .inl s6
         ·refine .inr ⟨by rw[s6,ee]; simp,cs',el',fr',s7,?_⟩
          rw[ee] at s8 ⊢
          rw[Nat.add_mul] at s8 ⊢
          simp only[Nat.zero_mul,Nat.zero_add]
          omega
        ·rw[ee]
         simp only
         omega
        ·rw[ee]
         simpa[as4] using hrows
        ·simp only[Bool.false_eq_true,iff_false]
         intro hf
         have:=b6.1 hf
         rw[p1] at this
         cases this
  | vec esz' full ys =>
    rw[hx] at q2 k2
    obtain⟨rfl,rfl,rfl,rfl,g3⟩:=q2
    obtain⟨a,cap,s1,s2,s3,s4,s5,s6⟩:=k2
    have:cap=0:=s5 rfl
    subst this
    exact⟨none,rfl,hg.below,hg.le,hg.fz,⟨rfl,rfl,g3,a,0,s1,by simp,s3,s4,by simp,⟨rfl,rfl,rfl⟩⟩,⟨rfl,rfl,rfl,g3⟩,fun ad h=>by cases h⟩
  | _=>rw[hx] at q2; exact q2.elim
 cases ex with
 | normal=>exact key hq
 | ret=>exact key hq
 | exit id=>exact hq.elim
 | goto l=>exact hq.elim
theorem gU.of {P:Program} {f nt:Nat} {m:MC} {rs:List RV} {args:List PV} {esz:Nat} {xs:List (List PV)} (ah:P.follows .mixedOrders=true) (hm:av P f=some (m.erase,nt,rs)) (hn:args.length≤nt) (h:∀ w0 F0 hG,XC ⟨P,w0,F0,nt,[],0,hG⟩ m (St.init args) [] (au6 rs esz xs)):gU P f args esz xs :=
 gU.of_wp hm hn fun c htm w F hG a hg=>jg (E:=⟨P,w,F,nt,[],0,hG⟩) ah c m (St.init args) a w _ htm ⟨_,hg⟩ (h w F hG)
end Go.Proofs.YtngjnfbngheccaaGreatDoor.Pv
namespace Go.Proofs.YtngjnfbngheccaaGreatDoor.Pv
open Go Go.RowKit
def JR (d:Option Nat) (r:PV) (s:List (Nat × PV)):List (Nat × PV):=match d with|some t=>(t,r)::s|none=>s
def alQ (rs:List RV) (K:PV→List (Key × Option HE)→Prop):Ex→St→Prop
 | .normal,st|.ret,st=>Ji st rs∧K (oZ st rs) st.h
 | _,_=>False
def adJ (E:Env) (s:List (Nat × PV)) (a:Act):List (PV × Value):=(List.range E.nt).map (fun t=>(lk t s,a.tmps.getD t undef))++E.G
theorem aes {V:Nat} {E:Env} {s:List (Nat × PV)} {h:List (Key × Option HE)} {a:Act} {c:Ctx} {w:World} {args:List PV} {vs:List Value} {nt:Nat} (hg:Good E ⟨s,h⟩ c a w) (hr:aY w c args vs) (hn:args.length≤nt) :
 Good ⟨E.P,E.w0,E.F0,nt,adJ E s a,V,E.glob⟩ ⟨(St.init args).s,h⟩ c { tmps:=vs.toArray++Array.replicate (nt-vs.toArray.size) undef,defers:=[] } w:=by
 have hl:=hr.length
 have hh:=hg.hgood
 refine Good.ofH rfl (by simp; omega) ⟨hh.heap,hh.fresh,hh.apart,hh.fz,hh.le,hh.bnd,hh.below⟩ (fun t v hv=>?_) (fun p hp=>?_)
 ·simp only[St.init]
  rw[aww]
  simp only[Nat.zero_le,if_true,Nat.sub_zero]
  cases hx:args[t]? with
  | none=>trivial
  | some x =>
    obtain⟨u,hu,hru⟩:=aY.get t x hr hx
    have hlt:t<vs.length:=(List.getElem?_eq_some_iff.1 hu).1
    rw[Array.getElem?_append_left (by simpa using hlt)] at hv
    simp only[List.getElem?_toArray] at hv
    rw[hu] at hv
    cases hv
    exact hru
 ·rcases List.mem_append.1 hp with hp|hp
  ·obtain⟨t,ht,rfl⟩:=List.mem_map.1 hp
   obtain⟨v,hv,hr'⟩:=hg.tmp (List.mem_range.1 ht)
   have:a.tmps.getD t undef=v:=by simp[Array.getD_eq_getD_getElem?,hv]
   simp only[this]
   exact hr'
  ·exact hg.ghost p hp
theorem alh {V:Nat} {E:Env} {s:List (Nat × PV)} {h:List (Key × Option HE)} {a:Act} {c:Ctx} {w:World} {nt:Nat} (hg:Good E ⟨s,h⟩ c a w) {st' : St} {c' : Ctx} {a' : Act} {w' : World} (hg' : Good ⟨E.P,E.w0,E.F0,nt,adJ E s a,V,E.glob⟩ st' c' a' w') {d:Option Nat} {r:PV} {v:Value} (hr:bq w' c' r v) :
 Good E ⟨JR d r s,st'.h⟩ c' (a.put d v) w':=by
 have hh:=hg'.hgood
 refine Good.ofH (by cases d<;>exact hg.defers) (by cases d<;>simp[Act.put,hg.size]) ⟨hh.heap,hh.fresh,hh.apart,hh.fz,hh.le,hh.bnd,hh.below⟩ (fun t u hu=>?_) (fun p hp=>hg'.ghost p (List.mem_append_right _ hp))
 have old:∀ t u,a.tmps[t]? = some u→bq w' c' (lk t s) u:=fun t u hu=>by
  have ht:t<E.nt:=by rw[← hg.size]; exact (Array.getElem?_eq_some_iff.1 hu).1
  have:=hg'.ghost (lk t s,a.tmps.getD t undef) (List.mem_append_left _ (List.mem_map.2 ⟨t,List.mem_range.2 ht,rfl⟩))
  have e:a.tmps.getD t undef=u:=by simp[Array.getD_eq_getD_getElem?,hu]
  simpa only[e] using this
 cases d with
 | none=>exact old t u hu
 | some d =>
   simp only[Act.put,Array.getElem?_setIfInBounds] at hu
   simp only[JR,lk]
   split at hu
   ·rename_i e
    subst e
    rw[if_pos rfl]
    split at hu
    ·cases hu; exact hr
    ·cases hu
   ·rename_i e
    rw[if_neg (fun x=>e x.symm)]
    exact old t u hu
theorem adb.of {E:Env} {f nt:Nat} {m:MC} {rs:List RV} {args:List PV} {d:Option Nat} {st:St} {K:St→Prop} (ah:E.P.follows .mixedOrders=true) (hm:av E.P f=some (m.erase,nt,rs)) (hn:args.length≤nt)
 (h:∀ G,XC ⟨E.P,E.w0,E.F0,nt,G,E.V,E.glob⟩ m ⟨(St.init args).s,st.h⟩ [] (alQ rs fun r h'=>K ⟨JR d r st.s,h'⟩)):adb E f args d st K:=by
 obtain⟨fn,c0,hf,hc,hb,rfl,htm,hrs⟩:=JI hm
 refine⟨hc,fun a c w vs hg hr=>calls_of_wp hf hb ?_⟩
 obtain⟨s,hp⟩:=st
 refine wp_mono (jg (E:=⟨E.P,E.w0,E.F0,fn.ntmps,adJ E s a,E.V,E.glob⟩) ah c0 m _ _ w _ htm ⟨c,aes hg hr hn⟩ (h _)) ?_
 rintro e a' w' ⟨ex,st',rfl,hq,c',hg'⟩
 have key:∀ q:Ji st' rs∧K ⟨JR d (oZ st' rs) s,st'.h⟩,a'.defers=[]∧∃ v,(results fn a'.tmps).run E.P w'=.ok v w'∧∃ v',Ending.returned v=.returned v'∧∃ st'' c'',K st''∧Good E st'' c'' (a.put d v') w':=by
  rintro⟨q1,q2⟩
  obtain⟨v,k1,k2⟩:=Jo hg' hrs q1
  exact⟨hg'.defers,v,k1,v,rfl,_,c',q2,alh hg hg' k2⟩
 cases ex with
 | normal=>exact key hq
 | ret=>exact key hq
 | exit id=>exact hq.elim
 | goto l=>exact hq.elim
theorem ak.inl {E:Env} {f nt:Nat} {m:MC} {rs:List RV} {args:List PV} {d:Option Nat} {ms:List MOp} {st:St} {ks:List KF} {Q:Ex→St→Prop} (ah:E.P.follows .mixedOrders=true) (hm:av E.P f=some (m.erase,nt,rs)) (hn:args.length≤nt)
 (h:∀ G,XC ⟨E.P,E.w0,E.F0,nt,G,E.V,E.glob⟩ m ⟨(St.init args).s,st.h⟩ [] (alQ rs fun r h'=>XR E ms ⟨JR d r st.s,h'⟩ ks Q)):ak E f args d ms st ks Q:=.inr (adb.of ah hm hn h)
mutual
def aE5 (hl:Key→Option HE):PV→Bool
 | .own g _ off len _=>match hl g with|some e=>!e.bx&&decide (off+len≤e.xs.length)|none=>false
 | .agg cs=>ai2 hl cs
 | .tup cs=>ai2 hl cs
 | .fn _ a b=>ai2 hl a&&ai2 hl b
 | .iface _ x=>aE5 hl x
 | _=>true
def ai2 (hl:Key→Option HE):List PV→Bool
 | []=>true
 | x::xs=>aE5 hl x&&ai2 hl xs
end
mutual
def apw (hl:Key→Option HE):PV→Bool
 | .own g _ off len _=>match hl g with|some e=>!e.bx&&decide (off+len≤e.xs.length)|none=>false
 | .ptr g _ i off=>match hl g with|some e=>decide (i<e.xs.length)&&ai2 hl ((e.xs.getD i []).drop off)|none=>false
 | .agg cs=>amr hl cs
 | .tup cs=>amr hl cs
 | .fn _ a b=>amr hl a&&amr hl b
 | .iface _ x=>apw hl x
 | _=>true
def amr (hl:Key→Option HE):List PV→Bool
 | []=>true
 | x::xs=>apw hl x&&amr hl xs
end
mutual
theorem aHW {hl:Key→Option HE}:∀ x:PV,aE5 hl x=true→ok0 hl x
 | .own g _ off len _,h=>by
   simp only[aE5] at h
   simp only[ok0]
   split at h<;>simp_all
 | .agg cs,h=>adl cs h
 | .tup cs,h=>adl cs h
 | .fn _ a b,h=>by
   simp only[aE5,Bool.and_eq_true] at h
   exact⟨adl a h.1,adl b h.2⟩
 | .iface _ x,h=>aHW x h
 | .undef,_|.bool _,_|.int _ _,_|.str _,_|.nilp,_|.nilf,_|.nili,_|.vec _ _ _,_|.ref _,_|.ptr _ _ _ _,_|.opt _ _,_|.raw _,_=>by simp[ok0]
theorem adl {hl:Key→Option HE}:∀ xs:List PV,ai2 hl xs=true→acp hl xs
 | [],_=>trivial
 | x::xs,h=>by
   simp only[ai2,Bool.and_eq_true] at h
   exact⟨aHW x h.1,adl xs h.2⟩
end
mutual
theorem aqf {hl:Key→Option HE}:∀ x:PV,apw hl x=true→okV hl x
 | .own g _ off len _,h=>by
   simp only[apw] at h
   simp only[okV]
   split at h<;>simp_all
 | .ptr g _ i off,h=>by
   simp only[apw] at h
   simp only[okV]
   split at h
   ·rename_i e he
    simp only[he,Bool.and_eq_true,decide_eq_true_eq] at h ⊢
    exact⟨h.1,adl _ h.2⟩
   ·cases h
 | .agg cs,h=>aaL cs h
 | .tup cs,h=>aaL cs h
 | .fn _ a b,h=>by
   simp only[apw,Bool.and_eq_true] at h
   exact⟨aaL a h.1,aaL b h.2⟩
 | .iface _ x,h=>aqf x h
 | .undef,_|.bool _,_|.int _ _,_|.str _,_|.nilp,_|.nilf,_|.nili,_|.vec _ _ _,_|.ref _,_|.opt _ _,_|.raw _,_=>by simp[okV]
theorem aaL {hl:Key→Option HE}:∀ xs:List PV,amr hl xs=true→okL hl xs
 | [],_=>trivial
 | x::xs,h=>by
   simp only[amr,Bool.and_eq_true] at h
   exact⟨aqf x h.1,aaL xs h.2⟩
end
def aqk:Nat→List (Nat × Nat × PV)→Bool
 | _,[]=>true
 | n,(off,sz,x)::ps=>decide ((cells x).length=sz)&&decide (off+sz≤n)&&storable x&&aqk n ps
theorem avw {n:Nat}:∀ ps,aqk n ps=true→apK n ps
 | [],_=>trivial
 | (off,sz,x)::ps,h=>by
   simp only[aqk,Bool.and_eq_true,decide_eq_true_eq] at h
   exact⟨⟨h.1.1.1,h.1.1.2,h.1.2⟩,avw ps h.2⟩
def alF (esz:Nat):Nat→List (Nat × PV)→Bool
 | _,[]=>true
 | n,(i,x)::ps=>decide ((cells x).length=esz)&&decide (i<n)&&storable x&&alF esz n ps
theorem arK {esz n:Nat}:∀ ps,alF esz n ps=true→akk esz n ps
 | [],_=>trivial
 | (i,x)::ps,h=>by
   simp only[alF,Bool.and_eq_true,decide_eq_true_eq] at h
   exact⟨⟨h.1.1.1,h.1.1.2,h.1.2⟩,arK ps h.2⟩
def aJ3 (op:BinOp):PV→PV→Bool
 | .int _ _,.int _ b=>match op with
   | .shl|.shr=>decide (0≤b)
   | .quo|.rem=>decide (b≠0)
   | _=>true
 | .str a,.str b=>match op with
   | .add=>decide (a.size+b.size≤LIM)
   | _=>true
 | _,_=>true
theorem aOr {op:BinOp} {cls:Nat} {x y:PV} {p:Prop} {r:PV} (hs:JH op cls x y=some (p,r)) (h:aJ3 op x y=true):p:=by
 cases x<;>cases y<;>first|(simp[JH] at hs; done)|skip
 case bool.bool a b =>
   simp only[JH] at hs
   split at hs
   ·cases op<;>simp at hs<;>exact hs.1
   ·cases hs
 case int.int k a k' b =>
   cases op<;>simp only[JH,ne_eq,Option.some.injEq,Prod.mk.injEq,reduceCtorEq] at hs<;>simp only[aJ3,decide_eq_true_eq] at h
   all_goals first
     | (obtain⟨rfl,_⟩:=hs; first|trivial|exact h)
     | (split at hs
        ·cases hs
        ·simp only[Option.some.injEq,Prod.mk.injEq,reduceCtorEq] at hs
         obtain⟨rfl,_⟩:=hs
         first|trivial|exact h)
     | (split at hs<;>simp at hs<;>(obtain⟨rfl,_⟩:=hs; first|trivial|exact h))
 case str.str a b =>
   cases op<;>simp only[JH,Option.some.injEq,Prod.mk.injEq,reduceCtorEq] at hs<;>simp only[aJ3,decide_eq_true_eq] at h
   all_goals (obtain⟨rfl,_⟩:=hs; first|trivial|exact h)
end Go.Proofs.YtngjnfbngheccaaGreatDoor.Pv
namespace Go.Proofs.YtngjnfbngheccaaGreatDoor.Pv
open Go Go.RowKit
theorem Good.leH {E:Env} {s:List (Nat × PV)} {h h' : List (Key × Option HE)} {c:Ctx} {a:Act} {w:World} (hg:Good E ⟨s,h⟩ c a w) (hs:∀ k,leE (fun k=>hk k h) (hk k h) (hk k h')):Good E ⟨s,h'⟩ c a w:=by
 have hh:=hg.hgood
 have look:∀ k e',hk k h'=some e'→∃ e,hk k h=some e∧e.esz=e'.esz∧e.fz=e'.fz∧apg e.bx e'.bx e'.xs∧leR (fun k=>hk k h) e.xs e'.xs:=fun k e' he'=>by
  have:=hs k
  rw[he'] at this
  cases he:hk k h with
  | none=>rw[he] at this; exact this.elim
  | some e=>rw[he] at this; exact⟨e,rfl,this⟩
 refine Good.ofH hg.defers hg.size ⟨fun k e' he'=>?_,fun k e' ad he' had=>?_,fun k k' e e' ad ad' he he'=>?_,hh.fz,hh.le,hh.bnd,hh.below⟩ hg.slot hg.ghost
 ·obtain⟨e,he,h1,h2,h3,h4⟩:=look k e' he'
  obtain⟨g1,g2,g3⟩:=hh.heap k e he
  refine⟨g1,by rw[← h1]; exact g2,?_⟩
  cases hb:c.β k with
  | none =>
    rw[hb] at g3
    obtain⟨g3,g4⟩:=g3
    rw[g3] at h4
    exact⟨by simpa[leR] using h4,by rw[← h1]; exact g4⟩
  | some ad =>
    rw[hb] at g3
    obtain⟨b1,⟨cs,el,fr,b2,b3,b4⟩,b5,b6⟩:=g3
    obtain⟨k1,k2⟩:=alZ hh e.bx _ _ _ _ _ h4 b5
    refine⟨b1,⟨cs,el,fr,b2,by rw[k2,← h1]; exact b3,b4⟩,by rw[← h1]; exact aEy h3 k1,by rw[← h2]; exact b6⟩
 ·obtain⟨e,he,_⟩:=look k e' he'
  exact hh.fresh k e ad he had
 ·obtain⟨e0,he0,_⟩:=look k e he
  obtain⟨e1,he1,_⟩:=look k' e' he'
  exact hh.apart k k' e0 e1 ad ad' he0 he1
def Uw (P:Program) (f:FuncId) (args:List PV) (h:List (Key × Option HE)) (r:PV) (h' : List (Key × Option HE)):Prop :=
 callable P f=true∧∀ (E:Env) (a:Act) (c:Ctx) (w:World) (vs:List Value) (d:Option Nat) (s:List (Nat × PV)),E.P=P→Good E ⟨s,h⟩ c a w→aY w c args vs →
  Calls P f vs.toArray w fun e w'=>∃ v,e=.returned v∧∃ c',Good E ⟨JR d r s,h'⟩ c' (a.put d v) w'
theorem ak.ayU {E:Env} {f:FuncId} {args:List PV} {d:Option Nat} {ms:List MOp} {st:St} {ks:List KF} {Q:Ex→St→Prop} {r:PV} {h' : List (Key × Option HE)} (hr:Uw E.P f args st.h r h')
 (h:XR E ms ⟨JR d r st.s,h'⟩ ks Q):ak E f args d ms st ks Q:=by
 refine .inr ⟨hr.1,fun a c w vs hg hrep=>Calls.mono (hr.2 E a c w vs d st.s rfl hg hrep) ?_⟩
 rintro e w' ⟨v,he,c',hg'⟩
 exact⟨v,he,_,c',h,hg'⟩
theorem Uw.of {P:Program} {f nt:Nat} {m:MC} {rs:List RV} {args:List PV} {h:List (Key × Option HE)} {r:PV} {h' : List (Key × Option HE)} (ah:P.follows .mixedOrders=true) (hm:av P f=some (m.erase,nt,rs)) (hn:args.length≤nt)
 (hold:∀ k e,hk k h'=some e→∃ e0,hk k h=some e0)
 (hx:∀ E:Env,E.P=P→(∀ k e,hk k h=some e→k.2<E.V)→XC E m ⟨(St.init args).s,h⟩ [] (alQ rs fun r' h''=>r'=r∧∀ k,k.2<E.V→leE (fun k=>hk k h'') (hk k h'') (hk k h'))):Uw P f args h r h':=by
 obtain⟨fn,c0,hf,hc,hb,rfl,htm,hrs⟩:=JI hm
 refine⟨hc,fun E a c w vs d s hP hg hr=>?_⟩
 subst hP
 obtain⟨N,hN⟩:=hg.bnd
 have hV:∀ k e,hk k h=some e→k.2<N:=fun k e he=>hN k (hg.heap k e he).1
 refine calls_of_wp hf hb ?_
 refine wp_mono (jg (E:=⟨E.P,E.w0,E.F0,fn.ntmps,adJ E s a,N,E.glob⟩) ah c0 m _ _ w _ htm ⟨c,aes hg hr hn⟩ (hx _ rfl hV)) ?_
 rintro e a' w' ⟨ex,st',rfl,hq,c',hg'⟩
 have key:∀ q:Ji st' rs∧oZ st' rs=r∧∀ k,k.2<N→leE (fun k=>hk k st'.h) (hk k st'.h) (hk k h'),a'.defers=[]∧∃ v,(results fn a'.tmps).run E.P w'=.ok v w'∧∃ v',Ending.returned v=.returned v'∧∃ c'',Good E ⟨JR d r s,h'⟩ c'' (a.put d v') w':=by
  rintro⟨q1,rfl,q2⟩
  obtain⟨v,k1,k2⟩:=Jo hg' hrs q1
  refine⟨hg'.defers,v,k1,v,rfl,c',(alh hg hg' k2).leH fun k=>?_⟩
  cases he:hk k h' with
  | none=>cases hk k st'.h<;>trivial
  | some e =>
    obtain⟨e0,he0⟩:=hold k e he
    have:=q2 k (hV k e0 he0)
    rw[he] at this
    exact this
 cases ex with
 | normal=>exact key hq
 | ret=>exact key hq
 | exit id=>exact hq.elim
 | goto l=>exact hq.elim
section
variable {E:Env} {m:MC} {st:St} {ks:List KF} {Q:Ex→St→Prop}
theorem bF.go (ah:E.P.follows .mixedOrders=true) (h:XC E m st ks Q):bF E m st ks Q:=fun c hm a w hr=>jg ah c m st a w _ hm hr h
end
inductive Un where
 | z
 | s (n:Un)
def RQ (E:Env) (R:St→Prop) (ks:List KF) (Q:Ex→St→Prop):Ex→St→Prop
 | .normal,st'=>R st'
 | e,st'=>XE E e st' ks Q
def aoq (E:Env) (body:MC) (ks:List KF) (Q:Ex→St→Prop):Un→St→Prop
 | .z,_=>False
 | .s n,st=>XC E body st [] (RQ E (aoq E body ks Q n) ks Q)
section
variable {E:Env} {body:MC} {st st' : St} {ks:List KF} {Q:Ex→St→Prop} {R:St→Prop} {n:Un}
theorem aKr:RQ E R ks Q .normal st'=R st':=propext Iff.rfl
theorem aN2 {id:Nat}:RQ E R ks Q (.exit id) st'=XE E (.exit id) st' ks Q:=propext Iff.rfl
theorem aPF:RQ E R ks Q .ret st'=XE E .ret st' ks Q:=propext Iff.rfl
theorem aO8 {id:Nat}:RQ E R ks Q (.goto id) st'=XE E (.goto id) st' ks Q:=propext Iff.rfl
theorem ku:aoq E body ks Q (.s n) st=XC E body st [] (RQ E (aoq E body ks Q n) ks Q):=propext Iff.rfl
@[congr] theorem aQl (h:st=st'):aoq E body ks Q n st=aoq E body ks Q n st':=by rw[h]
def Un.nat:Un→Nat
 | .z=>0
 | .s n=>n.nat+1
theorem aU.rnd (ah:E.P.follows .mixedOrders=true) (n:Un) (h:aoq E body ks Q n st):aU E (.loop body) st ks Q:=by
 intro c hm a w hrel
 obtain⟨x,rfl,hm1⟩:=JD hm
 refine wp_loop_rounds n.nat ?_
 induction n generalizing st a w with
 | z=>exact h.elim
 | s n ih =>
   refine wp_mono (jg ah x body st a w _ hm1 hrel h) ?_
   rintro e a' w' ⟨ex,st',rfl,hq,hr'⟩
   cases ex with
   | normal=>exact ih hq a' w' hr'
   | exit id=>exact⟨.exit id,st',rfl,hq,hr'⟩
   | goto l=>exact⟨.goto l,st',rfl,hq,hr'⟩
   | ret=>exact⟨.ret,st',rfl,hq,hr'⟩
end
end Go.Proofs.YtngjnfbngheccaaGreatDoor.Pv
namespace Go.Proofs.YtngjnfbngheccaaGreatDoor.Pv
open Go Go.RowKit
mutual
def jh:PV→Prop
 | .int k n=>k.min≤n∧n≤k.max
 | .str s=>s.size≤LIM
 | .vec _ _ xs=>xs.length≤LIM∧axZ xs
 | .own _ _ _ len _=>len≤LIM
 | .ref cs=>ig cs
 | .agg cs=>ig cs
 | .tup cs=>ig cs
 | .fn _ a b=>ig a∧ig b
 | .iface _ x=>jh x
 | _=>True
def ig:List PV→Prop
 | []=>True
 | x::xs=>jh x∧ig xs
def axZ:List (List PV)→Prop
 | []=>True
 | r::rs=>ig r∧axZ rs
end
mutual
theorem bq.bnd {w:World}:∀ (x:PV) (v:Value) {c:Ctx},bq w c x v→jh x
 | .int _ _,_,_,h=>h.2
 | .str _,_,_,h=>h.2
 | .vec e f xs,v,c,h=>by
   obtain⟨a,cap,h1,h2,h3,h4,h5,h6⟩:=h
   refine⟨h4,?_⟩
   rcases h6 with rfl|⟨ad,_,_,_,h⟩
   ·trivial
   ·exact ay.bnd xs h
 | .own g e o l f,v,c,h=>by
   obtain⟨_,_,_,a,cap,_,_,_,h4,_⟩:=h
   exact h4
 | .ref cs,v,c,h=>by
   obtain⟨ad,_,_,_,h⟩:=h
   exact dX.bnd cs h
 | .agg cs,v,c,h=>by
   obtain⟨vs,_,h,_⟩:=h
   exact aY.bnd cs _ h
 | .tup cs,v,c,h=>by
   obtain⟨vs,_,h⟩:=h
   exact aY.bnd cs _ h
 | .fn f a b,v,c,h=>by
   obtain⟨x,y,_,h1,h2⟩:=h
   exact⟨aY.bnd a _ h1,aY.bnd b _ h2⟩
 | .iface t x,v,c,h=>by
   obtain⟨u,_,h⟩:=h
   exact bq.bnd x u h
 | .undef,_,_,_|.bool _,_,_,_|.nilp,_,_,_|.nilf,_,_,_|.nili,_,_,_|.ptr _ _ _ _,_,_,_|.opt _ _,_,_,_|.raw _,_,_,_=>trivial
theorem aY.bnd {w:World}:∀ (xs:List PV) (vs:List Value) {c:Ctx},aY w c xs vs→ig xs
 | [],_,_,_=>trivial
 | x::xs,_,_,h=>by
   obtain⟨u,us,_,h1,h2⟩:=h
   exact⟨bq.bnd x u h1,aY.bnd xs us h2⟩
theorem dX.bnd {w:World} {b:Nat}:∀ (xs:List PV) {c:Ctx} {o:Nat},dX w c b o xs→ig xs
 | [],_,_,_=>trivial
 | x::xs,_,_,h=>by
   obtain⟨⟨v,_,_,h1⟩,h2⟩:=h
   exact⟨bq.bnd x v h1,dX.bnd xs h2⟩
theorem ay.bnd {w:World} {esz b:Nat}:∀ (xs:List (List PV)) {c:Ctx} {o:Nat},ay w c esz b o xs→axZ xs
 | [],_,_,_=>trivial
 | r::rs,_,_,h=>⟨dX.bnd r h.2.1,ay.bnd rs h.2.2⟩
end
theorem aEp {r:List PV}:∀ {xs:List (List PV)},axZ xs→r∈xs→ig r
 | [],_,h=>by simp at h
 | x::xs,h,hm=>by
   rcases List.mem_cons.1 hm with rfl|hm
   ·exact h.1
   ·exact aEp h.2 hm
theorem atu {α:Type} {f:α→List PV} {l:List α} (h:axZ (l.map f)):∀ x∈l,ig (f x):=fun x hx=>aEp h (List.mem_map.2 ⟨x,hx,rfl⟩)
def aNk (E:Env) (st:St):Prop:=(∀ t,t<E.nt→jh (lk t st.s))∧∀ k e,hk k st.h=some e→axZ e.xs
theorem Rel.bnd {E:Env} {st:St} {a:Act} {w:World} (h:Rel E st a w):aNk E st:=by
 obtain⟨c,hg⟩:=h
 refine⟨fun t ht=>?_,fun k e he=>?_⟩
 ·obtain⟨v,_,hr⟩:=hg.tmp ht
  exact bq.bnd _ _ hr
 ·obtain⟨_,_,h⟩:=hg.heap k e he
  cases hb:c.β k with
  | none=>rw[hb] at h; rw[h.1]; trivial
  | some ad=>rw[hb] at h; exact ay.bnd _ h.2.2.1
theorem aU.bnd {E:Env} {m:MC} {st:St} {ks:List KF} {Q:Ex→St→Prop} (h:aNk E st→aU E m st ks Q):aU E m st ks Q:=fun c hm a w hr=>h hr.bnd c hm a w hr
theorem bF.bnd {E:Env} {m:MC} {st:St} {ks:List KF} {Q:Ex→St→Prop} (h:aNk E st→bF E m st ks Q):bF E m st ks Q:=fun c hm a w hr=>h hr.bnd c hm a w hr
theorem Ret.bnd {P:Program} {f:FuncId} {args:List PV} {r:PV} (hc:callable P f=true) (h:ig args→Ret P f args r):Ret P f args r :=
 ⟨hc,fun w F vs hG hF hr=>(h (aY.bnd _ _ hr)).2 w F vs hG hF hr⟩
theorem gU.bnd {P:Program} {f:FuncId} {args:List PV} {esz:Nat} {xs:List (List PV)} (hc:callable P f=true) (h:ig args→gU P f args esz xs):gU P f args esz xs :=
 ⟨hc,fun w F vs hG hF hr=>(h (aY.bnd _ _ hr)).2 w F vs hG hF hr⟩
theorem arf {P:Program} {f:Nat} {x:MC × Nat × List RV} (h:av P f=some x):callable P f=true:=by
 obtain⟨m,nt,rs⟩:=x
 obtain⟨_,_,_,hc,_⟩:=JI h
 exact hc
theorem Ret.go {P:Program} {f nt:Nat} {m:MC} {rs:List RV} {args:List PV} {r:PV} (ah:P.follows .mixedOrders=true) (hm:av P f=some (m.erase,nt,rs)) (hn:args.length≤nt) (h:ig args→∀ w0 F0 hG,XC ⟨P,w0,F0,nt,[],0,hG⟩ m (St.init args) [] (yt rs r)):Ret P f args r :=
 Ret.bnd (arf hm) fun hb=>Ret.of ah hm hn (h hb)
theorem gU.go {P:Program} {f nt:Nat} {m:MC} {rs:List RV} {args:List PV} {esz:Nat} {xs:List (List PV)} (ah:P.follows .mixedOrders=true) (hm:av P f=some (m.erase,nt,rs)) (hn:args.length≤nt) (h:ig args→∀ w0 F0 hG,XC ⟨P,w0,F0,nt,[],0,hG⟩ m (St.init args) [] (au6 rs esz xs)):gU P f args esz xs :=
 gU.bnd (arf hm) fun hb=>gU.of ah hm hn (h hb)
def LS (st st' : St):Prop:=apW (fun k=>hk k st.h) st'.s st.s∧ajU (fun k=>hk k st.h) st'.h st.h
theorem aNP {s s' : List (Nat × PV)} {h h' : List (Key × Option HE)}:LS ⟨s,h⟩ ⟨s',h'⟩=(apW (fun k=>hk k h) s' s∧ajU (fun k=>hk k h) h' h):=propext Iff.rfl
theorem LS.le {E:Env} {st st' : St} (h:LS st st'):Le E st st':=by
 obtain⟨s,h1⟩:=st
 obtain⟨s',h1'⟩:=st'
 exact Le.of h
section
variable {E:Env} {body m:MC} {st st' : St} {ks:List KF} {Q:Ex→St→Prop} {ι:Type} {S:ι→St} {J:ι→Prop} {μ:ι→Nat} {i:ι} {S1:St}
def LR (E:Env) {ι:Type} (S:ι→St) (J:ι→Prop) (μ:ι→Nat) (i:ι) (ks:List KF) (Q:Ex→St→Prop):Ex→St→Prop
 | .normal,st'=>∃ j,J j∧μ j<μ i∧LS st' (S j)
 | e,st'=>XE E e st' ks Q
def CJ (E:Env) {ι:Type} (S:ι→St) (J:ι→Prop) (ks:List KF) (Q:Ex→St→Prop):Ex→St→Prop
 | .normal,st'=>∃ j,J j∧LS st' (S j)
 | e,st'=>XE E e st' ks Q
def CT (E:Env) (S:St) (ks:List KF) (Q:Ex→St→Prop):Ex→St→Prop
 | .normal,st'=>LS st' S
 | e,st'=>XE E e st' ks Q
theorem aLn:LR E S J μ i ks Q .normal st'=∃ j,J j∧μ j<μ i∧LS st' (S j):=propext Iff.rfl
theorem aOZ {id:Nat}:LR E S J μ i ks Q (.exit id) st'=XE E (.exit id) st' ks Q:=propext Iff.rfl
theorem aPv:LR E S J μ i ks Q .ret st'=XE E .ret st' ks Q:=propext Iff.rfl
theorem aOw {id:Nat}:LR E S J μ i ks Q (.goto id) st'=XE E (.goto id) st' ks Q:=propext Iff.rfl
theorem aLh:CJ E S J ks Q .normal st'=∃ j,J j∧LS st' (S j):=propext Iff.rfl
theorem aOB {id:Nat}:CJ E S J ks Q (.exit id) st'=XE E (.exit id) st' ks Q:=propext Iff.rfl
theorem aPd:CJ E S J ks Q .ret st'=XE E .ret st' ks Q:=propext Iff.rfl
theorem aOi {id:Nat}:CJ E S J ks Q (.goto id) st'=XE E (.goto id) st' ks Q:=propext Iff.rfl
theorem aLf:CT E S1 ks Q .normal st'=LS st' S1:=propext Iff.rfl
theorem aOO {id:Nat}:CT E S1 ks Q (.exit id) st'=XE E (.exit id) st' ks Q:=propext Iff.rfl
theorem aP4:CT E S1 ks Q .ret st'=XE E .ret st' ks Q:=propext Iff.rfl
theorem aOk {id:Nat}:CT E S1 ks Q (.goto id) st'=XE E (.goto id) st' ks Q:=propext Iff.rfl
theorem aU.go (ah:E.P.follows .mixedOrders=true) (S:ι→St) (J:ι→Prop) (μ:ι→Nat) (i0:ι) (h0:J i0) (hst:LS st (S i0)) (hr:∀ i,J i→XC E body (S i) [] (LR E S J μ i ks Q)):aU E (.loop body) st ks Q:=by
 intro c hm a w hrel
 obtain⟨x,rfl,hm1⟩:=JD hm
 refine wp_loop_ghost (fun n a w=>∃ i,J i∧μ i=n∧Rel E (S i) a w) (μ i0) ⟨i0,h0,rfl,hst.le a w hrel⟩ ?_
 rintro n a w ⟨i,hJ,rfl,hri⟩
 refine wp_mono (jg ah x body (S i) a w _ hm1 hri (hr i hJ)) ?_
 rintro e a' w' ⟨ex,st',rfl,hq,hr'⟩
 cases ex with
 | normal =>
   obtain⟨j,h1,h2,h3⟩:=hq
   exact⟨μ j,h2,j,h1,rfl,h3.le a' w' hr'⟩
 | exit id=>exact⟨.exit id,st',rfl,hq,hr'⟩
 | goto l=>exact⟨.goto l,st',rfl,hq,hr'⟩
 | ret=>exact⟨.ret,st',rfl,hq,hr'⟩
def LN (E:Env) {γ:Type} (n:Nat) (S:Nat→γ→St) (J:Nat→γ→Prop) (i:Nat) (ks:List KF) (Q:Ex→St→Prop):Ex→St→Prop
 | .normal,st'=>i<n∧∃ g,J (i+1) g∧LS st' (S (i+1) g)
 | e,st'=>XE E e st' ks Q
section
variable {γ:Type} {n k:Nat} {S' : Nat→γ→St} {J' : Nat→γ→Prop}
theorem aLr:LN E n S' J' k ks Q .normal st'=(k<n∧∃ g,J' (k+1) g∧LS st' (S' (k+1) g)):=propext Iff.rfl
theorem aN9 {id:Nat}:LN E n S' J' k ks Q (.exit id) st'=XE E (.exit id) st' ks Q:=propext Iff.rfl
theorem aPO:LN E n S' J' k ks Q .ret st'=XE E .ret st' ks Q:=propext Iff.rfl
theorem aON {id:Nat}:LN E n S' J' k ks Q (.goto id) st'=XE E (.goto id) st' ks Q:=propext Iff.rfl
theorem aU.cnt (ah:E.P.follows .mixedOrders=true) (n:Nat) (S' : Nat→γ→St) (J' : Nat→γ→Prop) (g0:γ) (h0:J' 0 g0) (hst:LS st (S' 0 g0)) (hr:∀ i g,i≤n→J' i g→XC E body (S' i g) [] (LN E n S' J' i ks Q)):aU E (.loop body) st ks Q:=by
 intro c hm a w hrel
 obtain⟨x,rfl,hm1⟩:=JD hm
 refine wp_loop_ghost (fun m a w=>∃ i g,i≤n∧J' i g∧n-i=m∧Rel E (S' i g) a w) n ⟨0,g0,Nat.zero_le _,h0,rfl,hst.le a w hrel⟩ ?_
 rintro m a w ⟨i,g,hi,hJ,rfl,hri⟩
 refine wp_mono (jg ah x body (S' i g) a w _ hm1 hri (hr i g hi hJ)) ?_
 rintro e a' w' ⟨ex,st',rfl,hq,hr'⟩
 cases ex with
 | normal =>
   obtain⟨hlt,g',h1,h3⟩:=hq
   exact⟨n-(i+1),by omega,i+1,g',hlt,h1,rfl,h3.le a' w' hr'⟩
 | exit id=>exact⟨.exit id,st',rfl,hq,hr'⟩
 | goto l=>exact⟨.goto l,st',rfl,hq,hr'⟩
 | ret=>exact⟨.ret,st',rfl,hq,hr'⟩
end
theorem bF.many (ah:E.P.follows .mixedOrders=true) (S:ι→St) (J:ι→Prop) (h1:XC E m st [] (CJ E S J ks Q)) (h2:∀ i,J i→XE E .normal (S i) ks Q):bF E m st ks Q:=by
 intro c hm a w hr
 refine wp_mono (jg ah c m st a w _ hm hr h1) ?_
 rintro e a' w' ⟨ex,st',rfl,hq,hr'⟩
 cases ex with
 | normal =>
   obtain⟨i,hJ,hle⟩:=hq
   exact⟨.normal,S i,rfl,h2 i hJ,hle.le a' w' hr'⟩
 | exit id=>exact⟨.exit id,st',rfl,hq,hr'⟩
 | goto l=>exact⟨.goto l,st',rfl,hq,hr'⟩
 | ret=>exact⟨.ret,st',rfl,hq,hr'⟩
theorem bF.one (ah:E.P.follows .mixedOrders=true) (S:St) (h1:XC E m st [] (CT E S ks Q)) (h2:XE E .normal S ks Q):bF E m st ks Q:=by
 intro c hm a w hr
 refine wp_mono (jg ah c m st a w _ hm hr h1) ?_
 rintro e a' w' ⟨ex,st',rfl,hq,hr'⟩
 cases ex with
 | normal=>exact⟨.normal,S,rfl,h2,hq.le a' w' hr'⟩
 | exit id=>exact⟨.exit id,st',rfl,hq,hr'⟩
 | goto l=>exact⟨.goto l,st',rfl,hq,hr'⟩
 | ret=>exact⟨.ret,st',rfl,hq,hr'⟩
theorem aHu {d:Option Nat} {i:MI} {g:Option (Nat × Bool)} {b:Bool} {ms:List MOp}:TU E (some true) ⟨d,i,g,b⟩ ms st ks Q=XR E (⟨d,i,none,b⟩::ms) st ks Q:=by simp[TU]
theorem aFk {d:Option Nat} {i:MI} {g:Option (Nat × Bool)} {b:Bool} {ms:List MOp}:TU E (some false) ⟨d,i,g,b⟩ ms st ks Q=XR E ms (st.skip d) ks Q:=by simp[TU]
theorem aG1 {gb:Bool} {d:Option Nat} {i:MI} {g:Option (Nat × Bool)} {b:Bool} {ms:List MOp}:TU E (some gb) ⟨d,i,g,b⟩ ms st ks Q=((gb=true→XR E (⟨d,i,none,b⟩::ms) st ks Q)∧(gb=false→XR E ms (st.skip d) ks Q)):=propext Iff.rfl
theorem aFw {un:List (Nat × Nat)} {v:Nat} {acc:List (List Nat × List Nat)} {d:Option Nat} {i:MI} {g:Option (Nat × Bool)} {b:Bool} {ms:List MOp}:Zl E un v acc (some true) ⟨d,i,g,b⟩ ms st ks Q=XD E un v acc (⟨d,i,none,b⟩::ms) st ks Q:=by simp[Zl]
theorem aBv {un:List (Nat × Nat)} {v:Nat} {acc:List (List Nat × List Nat)} {d:Option Nat} {i:MI} {g:Option (Nat × Bool)} {b:Bool} {ms:List MOp}:Zl E un v acc (some false) ⟨d,i,g,b⟩ ms st ks Q=XD E un v (acc++[([],[])]) ms (st.skip d) ks Q:=by simp[Zl]
theorem aFc {un:List (Nat × Nat)} {v:Nat} {acc:List (List Nat × List Nat)} {gb:Bool} {d:Option Nat} {i:MI} {g:Option (Nat × Bool)} {b:Bool} {ms:List MOp}:Zl E un v acc (some gb) ⟨d,i,g,b⟩ ms st ks Q=((gb=true→XD E un v acc (⟨d,i,none,b⟩::ms) st ks Q)∧(gb=false→XD E un v (acc++[([],[])]) ms (st.skip d) ks Q)):=rfl
theorem aIJ {a b:MC}:amc E (.bool true) a b st ks Q=XC E a st ks Q:=by simp[abJ]
theorem aGP {a b:MC}:amc E (.bool false) a b st ks Q=XC E b st ks Q:=by simp[abJ]
end
attribute [simp low] abJ aG1 aFc
attribute [simp high] aIJ aGP aHu aFk aFw aBv
attribute [simp] aOY aPx aKO aO5 aNr aOX aNK aOM aOb aMd aP2 aLB aPk amu aJL aJE aLE aQj aJm aJc aKT aPg aMq aM1 aQb aNM aOR aMh aK1 aNB aOQ aO7 aPb aKp aLR aQs aOh aNi aNu aOe atP ao8 aFY aDX awh o9 agY ae5
theorem aI3 (xs:List (List PV)):ajK false xs=false:=rfl
theorem aL5:ajK true []=true:=rfl
theorem aKw (f:Bool) (x:List PV) (xs:List (List PV)):ajK f (x::xs)=false:=by simp[ajK]
theorem aJ9 (b:Bool) (xs:List (List PV)):apg b b xs:=.inl rfl
theorem aKY (b:Bool) (xs:List (List PV)):apg b true xs:=.inr (.inl rfl)
theorem aOK (xs:List (List PV)):apg true false xs=(kfR xs=true):=by simp[apg]
attribute [simp] aJ9 aKY aOK kfV kfL kfR aI3 aL5 aKw
attribute [simp] aJ St.init St.get lk hk St.put St.skip JR MI.allocs JH yt au6 alQ aDg oZ aoO Ji reify og Jm kg cells mk splice aJh storable aDh apK ap2 akk rowsOf acD bounds ajq strip uJ aDl aia Zk aDk atU MI.auo MI.ops acE apW ajU leV leL leR leE Iw uQ jm keysOf aed AV okL okV ok0 acp aNP aLr aN9 aPO aON aLn aOZ aPv aOw aLh aOB aPd aOi aLf aOO aP4 aOk aKr aN2 aPF aO8 jO akB scalar agW
end Go.Proofs.YtngjnfbngheccaaGreatDoor.Pv
namespace Go.Proofs.YtngjnfbngheccaaGreatDoor.Pv
open Go Go.RowKit
def aj0 (k1 k2 k:Key):Key:=if k=k1 then k2 else k
mutual
def apF (k1 k2:Key):PV→PV
 | .own g e o l f=>.own (aj0 k1 k2 g) e o l f
 | .ptr g e i o=>.ptr (aj0 k1 k2 g) e i o
 | .agg cs=>.agg (ahn k1 k2 cs)
 | .tup cs=>.tup (ahn k1 k2 cs)
 | .fn f a b=>.fn f (ahn k1 k2 a) (ahn k1 k2 b)
 | .iface t x=>.iface t (apF k1 k2 x)
 | .opt b x=>.opt b (apF k1 k2 x)
 | .undef=>.undef
 | .bool b=>.bool b
 | .int k n=>.int k n
 | .str s=>.str s
 | .nilp=>.nilp
 | .nilf=>.nilf
 | .nili=>.nili
 | .vec e f xs=>.vec e f xs
 | .ref cs=>.ref cs
 | .raw u=>.raw u
def ahn (k1 k2:Key):List PV→List PV
 | []=>[]
 | x::xs=>apF k1 k2 x::ahn k1 k2 xs
end
def axj (k1 k2:Key):List (List PV)→List (List PV)
 | []=>[]
 | x::xs=>ahn k1 k2 x::axj k1 k2 xs
def aoM (k1 k2:Key):Option HE→Option HE
 | none=>none
 | some ⟨esz,xs,fz,true⟩=>some ⟨esz,axj k1 k2 xs,fz,true⟩
 | some ⟨esz,xs,fz,false⟩=>some ⟨esz,xs,fz,false⟩
def ayv (k1 k2:Key):List (Nat × PV)→List (Nat × PV)
 | []=>[]
 | (t,x)::s=>(t,apF k1 k2 x)::ayv k1 k2 s
def ax7 (k1 k2:Key):List (Key × Option HE)→List (Key × Option HE)
 | []=>[]
 | (k,e)::h=>(aj0 k1 k2 k,aoM k1 k2 e)::ax7 k1 k2 h
def at1 (k1 k2:Key) (st:St):St:=⟨ayv k1 k2 st.s,ax7 k1 k2 st.h⟩
theorem ar9 (k1 k2:Key):∀ xs:List PV,(ahn k1 k2 xs).length=xs.length
 | []=>rfl
 | x::xs=>by simp[ahn,ar9 k1 k2 xs]
theorem arz (k1 k2:Key):∀ xs:List (List PV),(axj k1 k2 xs).length=xs.length
 | []=>rfl
 | x::xs=>by simp[axj,arz k1 k2 xs]
def Ug (c:Ctx) (k1 k2:Key):Ctx:=⟨fun k=>if k=k2 then c.β k1 else c.β k,fun k=>if k=k2 then c.es k1 else c.es k,fun k=>c.U k∨(k=k2∧c.U k1),c.Fz⟩
section
variable {c:Ctx} {k1 k2:Key} {w:World}
theorem aD7 (h2:¬ c.U k2):c.Le (Ug c k1 k2) :=
 ⟨fun g h=>.inl h,fun g h=>if_neg fun (e:g=k2)=>h2 (e ▸ h),fun g h=>if_neg fun (e:g=k2)=>h2 (e ▸ h),fun _ h=>h⟩
theorem ag0 (h2:¬ c.U k2) {g:Key} (hg:c.U g):(Ug c k1 k2).U (aj0 k1 k2 g)∧(Ug c k1 k2).β (aj0 k1 k2 g)=c.β g∧(Ug c k1 k2).es (aj0 k1 k2 g)=c.es g:=by
 unfold aj0
 split
 ·rename_i e; subst e
  exact⟨.inr ⟨rfl,hg⟩,if_pos rfl,if_pos rfl⟩
 ·have:g≠k2:=fun e=>h2 (e ▸ hg)
  exact⟨.inl hg,if_neg this,if_neg this⟩
mutual
theorem akN (h2:¬ c.U k2):∀ (x:PV) (v:Value),bq w c x v→bq w (Ug c k1 k2) (apF k1 k2 x) v
 | .own g esz off len full,v,h=>by
   obtain⟨hg,hes,he,a,cap,h1,h3,h4,h5,h6,h7⟩:=h
   obtain⟨g1,g2,g3⟩:=ag0 h2 (k1:=k1) hg
   refine⟨g1,hes.trans g3.symm,he,a,cap,h1,h3,h4,h5,h6,?_⟩
   rw[g2]; exact h7
 | .ptr g esz i off,v,h=>by
   obtain⟨hg,hes,ad,h1,h3⟩:=h
   obtain⟨g1,g2,g3⟩:=ag0 h2 (k1:=k1) hg
   exact⟨g1,hes.trans g3.symm,ad,g2.trans h1,h3⟩
 | .agg cs,v,h=>by
   obtain⟨vs,e,h,h1⟩:=h
   exact⟨vs,e,ahu h2 cs _ h,h1⟩
 | .tup cs,v,h=>by
   obtain⟨vs,e,h⟩:=h
   exact⟨vs,e,ahu h2 cs _ h⟩
 | .fn f first cap,v,h=>by
   obtain⟨a,b,e,h1,h3⟩:=h
   exact⟨a,b,e,ahu h2 first _ h1,ahu h2 cap _ h3⟩
 | .iface t x,v,h=>by
   obtain⟨u,e,h⟩:=h
   exact⟨u,e,akN h2 x u h⟩
 | .opt b x,v,h=>⟨fun hb=>akN h2 x v (h.1 hb),h.2⟩
 | .undef,v,h|.bool _,v,h|.int _ _,v,h|.str _,v,h|.nilp,v,h|.nilf,v,h|.nili,v,h|.raw _,v,h=>h
 | .vec e f xs,v,h=>bq.mono (.vec e f xs) v (d9.refl _ _) (aD7 h2) h
 | .ref cs,v,h=>bq.mono (.ref cs) v (d9.refl _ _) (aD7 h2) h
theorem ahu (h2:¬ c.U k2):∀ (xs:List PV) (vs:List Value),aY w c xs vs→aY w (Ug c k1 k2) (ahn k1 k2 xs) vs
 | [],_,h=>h
 | x::xs,_,h=>by
   obtain⟨u,us,e,h1,h3⟩:=h
   exact⟨u,us,e,akN h2 x u h1,ahu h2 xs us h3⟩
end
theorem azU (h2:¬ c.U k2) {b:Nat}:∀ (o:Nat) (xs:List PV),dX w c b o xs→dX w (Ug c k1 k2) b o (ahn k1 k2 xs)
 | _,[],_=>trivial
 | o,x::xs,h=>by
   obtain⟨⟨v,e,e1,h1⟩,h3⟩:=h
   exact⟨⟨v,e,e1,akN h2 x v h1⟩,azU h2 (o+1) xs h3⟩
theorem arN (h2:¬ c.U k2) {esz b:Nat}:∀ (o:Nat) (xs:List (List PV)),ay w c esz b o xs→ay w (Ug c k1 k2) esz b o (axj k1 k2 xs)
 | _,[],_=>trivial
 | o,r::rs,h=>by
   obtain⟨h1,h3,h4⟩:=h
   exact⟨(ar9 _ _ _).trans h1,azU h2 o r h3,arN h2 (o+esz) rs h4⟩
theorem aNE (h2:¬ c.U k2) {k:Key} {e e' : HE} (he:aoM k1 k2 (some e)=some e') (h:abt w c k e):abt w (Ug c k1 k2) (aj0 k1 k2 k) e':=by
 obtain⟨hU,hes,h⟩:=h
 obtain⟨g1,g2,g3⟩:=ag0 h2 (k1:=k1) hU
 obtain⟨esz,xs,fz,bx⟩:=e
 cases bx with
 | true =>
   simp only[aoM,Option.some.injEq] at he
   subst he
   refine⟨g1,hes.trans g3.symm,?_⟩
   rw[g2]
   cases hb:c.β k with
   | none =>
     rw[hb] at h
     have h0:xs=[]:=h.1
     subst h0
     exact⟨rfl,h.2⟩
   | some ad =>
     rw[hb] at h
     obtain⟨h1,⟨cs,el,fr,h3,h4,h5⟩,h6,h7⟩:=h
     exact⟨h1,⟨cs,el,fr,h3,by rw[arz]; exact h4,h5⟩,arN h2 _ _ h6,h7⟩
 | false =>
   simp only[aoM,Option.some.injEq] at he
   subst he
   refine⟨g1,hes.trans g3.symm,?_⟩
   rw[g2]
   cases hb:c.β k with
   | none=>rw[hb] at h; exact h
   | some ad =>
     rw[hb] at h
     obtain⟨h1,h3,h6,h7⟩:=h
     have h6' : ay w c.d esz ad.block ad.off xs:=h6
     have hm:ay w (Ug c k1 k2).d esz ad.block ad.off xs:=ay.QC (c:=c.d) (c':=(Ug c k1 k2).d) (d9.refl _ _) (Ctx.Le.d fun _ h=>h) esz ad.block ad.off xs (fun _ _ _=>rfl) h6'
     exact⟨h1,h3,hm,h7⟩
end
theorem aKV {k1 k2:Key} {x:Option HE} {e:HE} (h:aoM k1 k2 x=some e):∃ e0,x=some e0:=by
 cases x with
 | none=>simp[aoM] at h
 | some e0=>exact⟨e0,rfl⟩
theorem apE {k1 k2:Key}:∀ {h:List (Key × Option HE)} {k:Key} {e:HE},hk k (ax7 k1 k2 h)=some e →
 ∃ k0 e0,hk k0 h=some e0∧aoM k1 k2 (some e0)=some e∧k=aj0 k1 k2 k0∧(k0=k2→hk k2 h=some e0)
 | [],k,e,he=>by simp[ax7,hk] at he
 | (m,x)::h,k,e,he=>by
   simp only[ax7,hk] at he
   split at he
   ·rename_i hkm
    obtain⟨e0,rfl⟩:=aKV he
    exact⟨m,e0,by simp[hk],he,hkm,fun hm=>by subst hm; simp[hk]⟩
   ·rename_i hkm
    obtain⟨k0,e0,h1,h2,h3,h4⟩:=apE he
    have hne:k0≠m:=fun e1=>hkm (by rw[h3,e1])
    refine⟨k0,e0,by simp[hk,hne,h1],h2,h3,fun h5=>?_⟩
    have:k2≠m:=fun e1=>hne (h5.trans e1)
    simp[hk,this,h4 h5]
theorem aE6 {k1 k2:Key} (t:Nat):∀ s:List (Nat × PV),lk t (ayv k1 k2 s)=apF k1 k2 (lk t s)
 | []=>by simp[ayv,lk,apF]
 | (u,x)::s=>by
   simp only[ayv,lk]
   split
   ·rfl
   ·exact aE6 t s
theorem asQ {E:Env} {st:St} {c:Ctx} {a:Act} {w:World} {k1 k2:Key} (hg:Good E st c a w) (h2:¬ c.U k2):Good E (at1 k1 k2 st) (Ug c k1 k2) a w:=by
 have hk2:∀ {k0:Key} {e0:HE},hk k0 st.h=some e0→k0≠k2:=fun h e=>h2 (e ▸ (hg.heap _ _ h).1)
 refine Good.ofH hg.defers hg.size ⟨fun k e he=>?_,fun k e ad he had=>?_,fun k k' e e' ad ad' he he' had had' hne=>?_,hg.fz,hg.le,?_,hg.below⟩ (fun t v hv=>?_) (fun p hp=>bq.mono _ _ (d9.refl _ _) (aD7 h2) (hg.ghost p hp))
 ·obtain⟨k0,e0,h3,h4,rfl,_⟩:=apE he
  exact aNE h2 h4 (hg.heap _ _ h3)
 ·obtain⟨k0,e0,h3,h4,rfl,_⟩:=apE he
  rw[(ag0 h2 (hg.heap _ _ h3).1).2.1] at had
  exact hg.fresh _ _ _ h3 had
 ·obtain⟨k0,e0,h3,h4,rfl,_⟩:=apE he
  obtain⟨k0',e0',h3',h4',rfl,_⟩:=apE he'
  rw[(ag0 h2 (hg.heap _ _ h3).1).2.1] at had
  rw[(ag0 h2 (hg.heap _ _ h3').1).2.1] at had'
  exact hg.apart _ _ _ _ _ _ h3 h3' had had' (fun e=>hne (by rw[e]))
 ·obtain⟨N,hN⟩:=hg.bnd
  refine⟨max N (k2.2+1),fun k hk=>?_⟩
  rcases hk with hk|⟨rfl,_⟩
  ·have:=hN k hk; omega
  ·omega
 ·show bq w _ (lk t (ayv k1 k2 st.s)) v
  rw[aE6]
  exact akN h2 _ _ (hg.slot t v hv)
def atJ (t esz tag v:Nat) (st:St):St:=match lk t st.s with
 | .own g _ _ _ _=>at1 g (tag,v) st
 | .ptr g _ _ _=>at1 g (tag,v) st
 | .vec e f xs=>match f,xs with
   | true,[]=>if e=esz∧0<esz then alM t esz tag v st else st
   | _,_=>st
 | _=>st
def ownB (g:Key) (e:Nat) (row:List PV) (fz:Bool) (i esz tag v:Nat) (st:St):St:=⟨st.s,(g,some ⟨e,[row.set i (.own (tag,v) esz 0 0 true)],fz,true⟩)::((tag,v),some ⟨esz,[],false,false⟩)::st.h⟩
def avp (t i esz tag v:Nat) (st:St):St:=match lk t st.s with
 | .ptr g _ _ _=>match hk g st.h with
   | some ⟨e,[row],fz,true⟩=>match row.getD i .undef with
     | .own k _ _ _ _=>at1 k (tag,v) st
     | .vec e' f xs=>match f,xs with
       | true,[]=>if e'=esz∧0<esz then ownB g e row fz i esz tag v st else st
       | _,_=>st
     | _=>st
   | _=>st
 | _=>st
def avr (t esz tag v:Nat) (st:St):St:=if t<1000000 then atJ t esz tag v st else avp (t % 1000000) (t / 1000000-1) esz tag v st
def canon:List (Nat × Nat × Nat)→Nat→St→St
 | [],_,st=>st
 | (t,esz,tag)::l,v,st=>canon l v (avr t esz tag v st)
theorem aGS {E:Env} {st:St} {c:Ctx} {a:Act} {w:World} {t esz tag v:Nat} (hg:Good E st c a w) (hv:¬ c.U (tag,v)):∃ c',Good E (atJ t esz tag v st) c' a w∧∀ k,c'.U k→c.U k∨k=(tag,v):=by
 unfold atJ
 split
 ·exact⟨_,asQ hg hv,fun k hk=>hk.imp id fun h=>h.1⟩
 ·exact⟨_,asQ hg hv,fun k hk=>hk.imp id fun h=>h.1⟩
 ·rename_i e f xs hl
  split
  ·split
   ·rename_i h
    obtain⟨rfl,h0⟩:=h
    refine⟨_,azC hg hl h0 hv,fun k hk=>hk.imp id id⟩
   ·exact⟨c,hg,fun k hk=>.inl hk⟩
  ·exact⟨c,hg,fun k hk=>.inl hk⟩
 ·exact⟨c,hg,fun k hk=>.inl hk⟩
theorem azO {w:World} {c c' : Ctx} (hc:c.Le c') {b:Nat} {x:PV}:∀ {i o:Nat} {xs:List PV},dX w c b o xs→i<xs.length→(∀ v,bq w c (xs.getD i .undef) v→bq w c' x v)→dX w c' b o (xs.set i x)
 | 0,o,y::ys,h,_,hx=>⟨⟨h.1.choose,h.1.choose_spec.1,h.1.choose_spec.2.1,hx _ h.1.choose_spec.2.2⟩,dX.mono b rfl (o+1) ys (d9.refl _ _) hc h.2⟩
 | i+1,o,y::ys,h,hi,hx=>⟨⟨h.1.choose,h.1.choose_spec.1,h.1.choose_spec.2.1,bq.mono _ _ (d9.refl _ _) hc h.1.choose_spec.2.2⟩,azO hc (i:=i) h.2 (by simpa using hi) (by simpa using hx)⟩
theorem aL0 {E:Env} {st:St} {c:Ctx} {a:Act} {w:World} {g:Key} {e i esz tag v:Nat} {row:List PV} {fz:Bool} (hg:Good E st c a w) (hk0:hk g st.h=some ⟨e,[row],fz,true⟩) (hrow:row.getD i .undef=.vec esz true []) (he:0<esz) (hk' : ¬ c.U (tag,v)):Good E (ownB g e row fz i esz tag v st) (newCtx c (tag,v) none esz) a w:=by
 have hi:i<row.length:=by
  rcases Nat.lt_or_ge i row.length with h|h
  ·exact h
  ·simp[List.getD,List.getElem?_eq_none h] at hrow
 have hle:=oo (a:=none) (n:=esz) hk'
 have hβ:∀ k,k≠(tag,v)→(newCtx c (tag,v) none esz).β k=c.β k:=fun k hk=>if_neg hk
 have hβk:(newCtx c (tag,v) none esz).β (tag,v)=none:=if_pos rfl
 have hgk:g≠(tag,v):=fun x=>hk' (x ▸ (hg.heap _ _ hk0).1)
 have look:∀ k e',hk k (ownB g e row fz i esz tag v st).h=some e'→(k=g∧e'=⟨e,[row.set i (.own (tag,v) esz 0 0 true)],fz,true⟩)∨(k=(tag,v)∧e'=⟨esz,[],false,false⟩)∨(k≠(tag,v)∧k≠g∧hk k st.h=some e'):=fun k e' h=>by
  simp only[ownB,gy] at h
  split at h
  ·rename_i e1; exact .inl ⟨e1,(Option.some.inj h).symm⟩
  ·rename_i e1
   split at h
   ·rename_i e2; exact .inr (.inl ⟨e2,(Option.some.inj h).symm⟩)
   ·rename_i e2; exact .inr (.inr ⟨e2,e1,h⟩)
 have old:∀ k e',hk k (ownB g e row fz i esz tag v st).h=some e'→k≠(tag,v)→∃ e0,hk k st.h=some e0:=fun k e' h hne=>by
  rcases look k e' h with ⟨rfl,_⟩|⟨h1,_⟩|⟨_,_,h1⟩
  ·exact⟨_,hk0⟩
  ·exact absurd h1 hne
  ·exact⟨_,h1⟩
 refine Good.ofH hg.defers hg.size ⟨fun k e' hke=>?_,fun k e' ad hke had=>?_,fun k k' e1 e2 ad ad' hke hke' had had' hne=>?_,hg.fz,hg.le,QJ hg.bnd,hg.below⟩ (fun u x hx=>bq.mono _ _ (d9.refl _ _) hle (hg.slot u x hx)) (fun p hp=>bq.mono _ _ (d9.refl _ _) hle (hg.ghost p hp))
 ·rcases look k e' hke with ⟨rfl,rfl⟩|⟨rfl,rfl⟩|⟨h1,h2,h3⟩
  ·obtain⟨q1,q2,q3⟩:=hg.heap _ _ hk0
   refine⟨.inl q1,q2.trans (hle.es _ q1).symm,?_⟩
   rw[hβ k hgk]
   cases hb:c.β k with
   | none=>rw[hb] at q3; simp at q3
   | some ad =>
     rw[hb] at q3
     obtain⟨b1,b2,b3,b4⟩:=q3
     have b3' : row.length=e∧dX w c ad.block ad.off row∧True:=b3
     refine⟨b1,by simpa using b2,?_,b4⟩
     show ay w (newCtx c (tag,v) none esz) e ad.block ad.off [row.set i (.own (tag,v) esz 0 0 true)]
     refine⟨by rw[List.length_set]; exact b3'.1,azO hle b3'.2.1 hi fun u hu=>?_,trivial⟩
     rw[hrow] at hu
     obtain⟨a',cap,q1,q2,q3,q4,q5,q6⟩:=hu
     have hcap:cap=0:=q5 rfl
     subst hcap
     refine⟨.inr rfl,(if_pos rfl).symm,he,a',0,q1,by simp,by simp,by simp[LIM],by simp,?_⟩
     rw[hβk]
     exact⟨rfl,rfl,rfl⟩
  ·refine⟨.inr rfl,(if_pos rfl).symm,?_⟩
   rw[hβk]
   exact⟨rfl,he⟩
  ·exact (hg.heap k e' h3).mono (d9.refl _ _) hle (fun _ _=>Iff.rfl) (fun _ _=>rfl)
 ·by_cases hkt:k=(tag,v)
  ·subst hkt; rw[hβk] at had; cases had
  ·obtain⟨e0,h0⟩:=old k e' hke hkt
   rw[hβ k hkt] at had
   exact hg.fresh k e0 ad h0 had
 ·by_cases hkt:k=(tag,v)
  ·subst hkt; rw[hβk] at had; cases had
  ·by_cases hkt' : k'=(tag,v)
   ·subst hkt'; rw[hβk] at had'; cases had'
   ·obtain⟨e0,h0⟩:=old k e1 hke hkt
    obtain⟨e0',h0'⟩:=old k' e2 hke' hkt'
    rw[hβ k hkt] at had
    rw[hβ k' hkt'] at had'
    exact hg.apart k k' e0 e0' ad ad' h0 h0' had had' hne
theorem aGQ {E:Env} {st:St} {c:Ctx} {a:Act} {w:World} {t i esz tag v:Nat} (hg:Good E st c a w) (hv:¬ c.U (tag,v)):∃ c',Good E (avp t i esz tag v st) c' a w∧∀ k,c'.U k→c.U k∨k=(tag,v):=by
 unfold avp
 split
 ·split
  ·rename_i h0
   split
   ·exact⟨_,asQ hg hv,fun k hk=>hk.imp id fun h=>h.1⟩
   ·rename_i hrow
    split
    ·split
     ·rename_i h
      obtain⟨rfl,h1⟩:=h
      exact⟨_,aL0 hg h0 hrow h1 hv,fun k hk=>hk.imp id id⟩
     ·exact⟨c,hg,fun k hk=>.inl hk⟩
    ·exact⟨c,hg,fun k hk=>.inl hk⟩
   ·exact⟨c,hg,fun k hk=>.inl hk⟩
  ·exact⟨c,hg,fun k hk=>.inl hk⟩
 ·exact⟨c,hg,fun k hk=>.inl hk⟩
theorem aGZ {E:Env} {st:St} {c:Ctx} {a:Act} {w:World} {t esz tag v:Nat} (hg:Good E st c a w) (hv:¬ c.U (tag,v)):∃ c',Good E (avr t esz tag v st) c' a w∧∀ k,c'.U k→c.U k∨k=(tag,v):=by
 unfold avr
 split
 ·exact aGS hg hv
 ·exact aGQ hg hv
def DX:List (Nat × Nat × Nat)→Bool
 | []=>true
 | x::l=>l.all (fun y=>y.2.2 != x.2.2)&&DX l
theorem auL {E:Env} {a:Act} {w:World} {v:Nat}:∀ (ts:List (Nat × Nat × Nat)) (st:St) (c:Ctx),DX ts=true→Good E st c a w→(∀ t∈ts,¬ c.U (t.2.2,v))→∃ c',Good E (canon ts v st) c' a w
 | [],st,c,_,hg,_=>⟨c,hg⟩
 | (t,esz,tag)::l,st,c,ho,hg,hU=>by
   simp only[DX,Bool.and_eq_true,List.all_eq_true,bne_iff_ne,ne_eq] at ho
   obtain⟨c',hg',hU'⟩:=aGZ (t:=t) (esz:=esz) hg (hU (t,esz,tag) (by simp))
   refine auL l _ c' ho.2 hg' fun x hx hu=>?_
   rcases hU' _ hu with h|h
   ·exact hU x (by simp[hx]) h
   ·exact ho.1 x hx (congrArg Prod.fst h)
theorem aLq {E:Env} {st:St} {a:Act} {w:World} (ts:List (Nat × Nat × Nat)) (ho:DX ts=true) (hr:Rel E st a w):∃ v,E.V≤v∧Rel E (canon ts v st) a w:=by
 obtain⟨c,hg⟩:=hr
 obtain⟨N,hN⟩:=hg.bnd
 exact⟨max N E.V,by omega,auL ts st c ho hg fun t _ hu=>by have:=hN _ hu; simp only at this; omega⟩
def aj1 (keep:List Key):List (Key × Option HE)→List (Key × Option HE)
 | []=>[]
 | (k,none)::h=>(k,none)::aj1 keep h
 | (k,some ⟨esz,xs,fz,true⟩)::h=>(k,some ⟨esz,xs,fz,true⟩)::aj1 keep h
 | (k,some ⟨esz,xs,fz,false⟩)::h=>(k,some ⟨esz,xs,if k∈keep then fz else true,false⟩)::aj1 keep h
def aF5 (keep:List Key) (k:Key) (e:HE):HE:=if e.bx=true∨k∈keep then e else { e with fz:=true }
theorem aqb (keep:List Key) (k:Key):∀ h:List (Key × Option HE),hk k (aj1 keep h)=(hk k h).map (aF5 keep k)
 | []=>rfl
 | (m,none)::h=>by
   simp only[aj1,hk]
   split
   ·rfl
   ·exact aqb keep k h
 | (m,some ⟨esz,xs,fz,true⟩)::h=>by
   simp only[aj1,hk]
   split
   ·simp[aF5]
   ·exact aqb keep k h
 | (m,some ⟨esz,xs,fz,false⟩)::h=>by
   simp only[aj1,hk]
   split
   ·rename_i e; subst e
    simp only[aF5,Option.map_some,Bool.false_eq_true,false_or]
    split<;>rfl
   ·exact aqb keep k h
def aDn (keep:List Key) (h:List (Key × Option HE)):List Key:=(h.map (·.1)).filter fun k=>match hk k h with|some e=>!e.bx&&!decide (k∈keep)|none=>false
theorem aLH {k:Key} {e:HE}:∀ {h:List (Key × Option HE)},hk k h=some e→k∈h.map (·.1)
 | [],h=>by simp[hk] at h
 | (m,x)::l,h=>by
   simp only[hk] at h
   split at h
   ·rename_i e1; subst e1; simp
   ·simp[aLH h]
theorem aO1 {E:Env} {st:St} {a:Act} {w:World} (keep:List Key) (hr:Rel E st a w):Rel E ⟨st.s,aj1 keep st.h⟩ a w:=by
 obtain⟨c,hg⟩:=Le.freeze (h:=st.h) (s:=st.s) (aDn keep st.h) a w hr
 refine⟨c,hg.leH fun k=>?_⟩
 rw[aiX,aqb]
 have hre:∀ o:Option HE,leE (fun k=>hk k (jO (fun k=>hk k st.h) (aDn keep st.h)++st.h)) o o:=fun o=>by
  cases o with
  | none=>trivial
  | some e=>exact⟨rfl,rfl,.inl rfl,bf _ _⟩
 cases he:hk k st.h with
 | none=>split<;>exact hre _
 | some e =>
   by_cases hk1:e.bx=true∨k∈keep
   ·have:k ∉ aDn keep st.h:=fun hm=>by
       have:=(List.mem_filter.1 hm).2
       rw[he] at this
       simp only[Bool.and_eq_true,Bool.not_eq_true',decide_eq_false_iff_not] at this
       rcases hk1 with h|h
       ·rw[h] at this; simp at this
       ·exact this.2 h
    rw[if_neg this]
    simp only[Option.map_some,aF5,if_pos hk1]
    exact hre _
   ·have:k∈aDn keep st.h:=List.mem_filter.2 ⟨aLH he,by
       rw[he]
       simp only[not_or,Bool.not_eq_true] at hk1
       simp[hk1]⟩
    rw[if_pos this]
    simp only[Option.map_some,aF5,if_neg hk1]
    exact hre _
def nk (ts:List (Nat × Nat × Nat)) (v:Nat) (st:St):St:=⟨(canon ts v st).s,aj1 (ts.map fun t=>(t.2.2,v)) (canon ts v st).h⟩
theorem sw {E:Env} {st:St} {a:Act} {w:World} (ts:List (Nat × Nat × Nat)) (ho:DX ts=true) (hr:Rel E st a w):∃ v,E.V≤v∧Rel E (nk ts v st) a w:=by
 obtain⟨v,hv,h⟩:=aLq ts ho hr
 exact⟨v,hv,aO1 _ h⟩
section
variable {E:Env} {body m:MC} {st st' : St} {ks:List KF} {Q:Ex→St→Prop} {ι γ:Type}
def LNR (E:Env) (ts:List (Nat × Nat × Nat)) (n:Nat) (S:Nat→Nat→γ→St) (J:Nat→γ→Prop) (i:Nat) (ks:List KF) (Q:Ex→St→Prop):Ex→St→Prop
 | .normal,st'=>i<n∧∃ g,J (i+1) g∧∀ v,LS (nk ts v st') (S v (i+1) g)
 | e,st'=>XE E e st' ks Q
def LRR (E:Env) (ts:List (Nat × Nat × Nat)) (S:Nat→ι→St) (J:ι→Prop) (μ:ι→Nat) (i:ι) (ks:List KF) (Q:Ex→St→Prop):Ex→St→Prop
 | .normal,st'=>∃ j,J j∧μ j<μ i∧∀ v,LS (nk ts v st') (S v j)
 | e,st'=>XE E e st' ks Q
def CJR (E:Env) (ts:List (Nat × Nat × Nat)) (S:Nat→ι→St) (J:ι→Prop) (ks:List KF) (Q:Ex→St→Prop):Ex→St→Prop
 | .normal,st'=>∃ j,J j∧∀ v,LS (nk ts v st') (S v j)
 | e,st'=>XE E e st' ks Q
def CTR (E:Env) (ts:List (Nat × Nat × Nat)) (S:Nat→St) (ks:List KF) (Q:Ex→St→Prop):Ex→St→Prop
 | .normal,st'=>∀ v,LS (nk ts v st') (S v)
 | e,st'=>XE E e st' ks Q
section
variable {ts:List (Nat × Nat × Nat)} {n k id:Nat} {S' : Nat→Nat→γ→St} {J' : Nat→γ→Prop} {S:Nat→ι→St} {J:ι→Prop} {μ:ι→Nat} {i:ι} {S1:Nat→St}
theorem aJz:LNR E ts n S' J' k ks Q .normal st'=(k<n∧∃ g,J' (k+1) g∧∀ v,LS (nk ts v st') (S' v (k+1) g)):=propext Iff.rfl
theorem aMC:LNR E ts n S' J' k ks Q (.exit id) st'=XE E (.exit id) st' ks Q:=propext Iff.rfl
theorem aOq:LNR E ts n S' J' k ks Q .ret st'=XE E .ret st' ks Q:=propext Iff.rfl
theorem aNm:LNR E ts n S' J' k ks Q (.goto id) st'=XE E (.goto id) st' ks Q:=propext Iff.rfl
theorem aIU:LRR E ts S J μ i ks Q .normal st'=∃ j,J j∧μ j<μ i∧∀ v,LS (nk ts v st') (S v j):=propext Iff.rfl
theorem aNC:LRR E ts S J μ i ks Q (.exit id) st'=XE E (.exit id) st' ks Q:=propext Iff.rfl
theorem aOo:LRR E ts S J μ i ks Q .ret st'=XE E .ret st' ks Q:=propext Iff.rfl
theorem aM4:LRR E ts S J μ i ks Q (.goto id) st'=XE E (.goto id) st' ks Q:=propext Iff.rfl
theorem aI2:CJR E ts S J ks Q .normal st'=∃ j,J j∧∀ v,LS (nk ts v st') (S v j):=propext Iff.rfl
theorem aMD:CJR E ts S J ks Q (.exit id) st'=XE E (.exit id) st' ks Q:=propext Iff.rfl
theorem aOv:CJR E ts S J ks Q .ret st'=XE E .ret st' ks Q:=propext Iff.rfl
theorem aMu:CJR E ts S J ks Q (.goto id) st'=XE E (.goto id) st' ks Q:=propext Iff.rfl
theorem aJv:CTR E ts S1 ks Q .normal st'=∀ v,LS (nk ts v st') (S1 v):=propext Iff.rfl
theorem aMM:CTR E ts S1 ks Q (.exit id) st'=XE E (.exit id) st' ks Q:=propext Iff.rfl
theorem aOx:CTR E ts S1 ks Q .ret st'=XE E .ret st' ks Q:=propext Iff.rfl
theorem aM3:CTR E ts S1 ks Q (.goto id) st'=XE E (.goto id) st' ks Q:=propext Iff.rfl
end
theorem aU.KG (ah:E.P.follows .mixedOrders=true) (ts:List (Nat × Nat × Nat)) (hts:DX ts=true) (n:Nat) (S' : Nat→Nat→γ→St) (J' : Nat→γ→Prop) (g0:γ) (h0:J' 0 g0) (hst:∀ v,LS (nk ts v st) (S' v 0 g0))
 (hr:∀ v i g,E.V≤v→i≤n→J' i g→XC E body (S' v i g) [] (LNR E ts n S' J' i ks Q)):aU E (.loop body) st ks Q:=by
 intro c hm a w hrel
 obtain⟨x,rfl,hm1⟩:=JD hm
 obtain⟨v0,hv0,hrel0⟩:=sw ts hts hrel
 refine wp_loop_ghost (fun m a w=>∃ v i g,E.V≤v∧i≤n∧J' i g∧n-i=m∧Rel E (S' v i g) a w) n ⟨v0,0,g0,hv0,Nat.zero_le _,h0,rfl,(hst v0).le a w hrel0⟩ ?_
 rintro m a w ⟨v,i,g,hv,hi,hJ,rfl,hri⟩
 refine wp_mono (jg ah x body (S' v i g) a w _ hm1 hri (hr v i g hv hi hJ)) ?_
 rintro e a' w' ⟨ex,st',rfl,hq,hr'⟩
 cases ex with
 | normal =>
   obtain⟨hlt,g',h1,h3⟩:=hq
   obtain⟨v',hv',hr2⟩:=sw ts hts hr'
   exact⟨n-(i+1),by omega,v',i+1,g',hv',hlt,h1,rfl,(h3 v').le a' w' hr2⟩
 | exit id=>exact⟨.exit id,st',rfl,hq,hr'⟩
 | goto l=>exact⟨.goto l,st',rfl,hq,hr'⟩
 | ret=>exact⟨.ret,st',rfl,hq,hr'⟩
theorem aU.goR (ah:E.P.follows .mixedOrders=true) (ts:List (Nat × Nat × Nat)) (hts:DX ts=true) (S:Nat→ι→St) (J:ι→Prop) (μ:ι→Nat) (i0:ι) (h0:J i0) (hst:∀ v,LS (nk ts v st) (S v i0))
 (hr:∀ v i,E.V≤v→J i→XC E body (S v i) [] (LRR E ts S J μ i ks Q)):aU E (.loop body) st ks Q:=by
 intro c hm a w hrel
 obtain⟨x,rfl,hm1⟩:=JD hm
 obtain⟨v0,hv0,hrel0⟩:=sw ts hts hrel
 refine wp_loop_ghost (fun n a w=>∃ v i,E.V≤v∧J i∧μ i=n∧Rel E (S v i) a w) (μ i0) ⟨v0,i0,hv0,h0,rfl,(hst v0).le a w hrel0⟩ ?_
 rintro n a w ⟨v,i,hv,hJ,rfl,hri⟩
 refine wp_mono (jg ah x body (S v i) a w _ hm1 hri (hr v i hv hJ)) ?_
 rintro e a' w' ⟨ex,st',rfl,hq,hr'⟩
 cases ex with
 | normal =>
   obtain⟨j,h1,h2,h3⟩:=hq
   obtain⟨v',hv',hr2⟩:=sw ts hts hr'
   exact⟨μ j,h2,v',j,hv',h1,rfl,(h3 v').le a' w' hr2⟩
 | exit id=>exact⟨.exit id,st',rfl,hq,hr'⟩
 | goto l=>exact⟨.goto l,st',rfl,hq,hr'⟩
 | ret=>exact⟨.ret,st',rfl,hq,hr'⟩
theorem bF.aQu (ah:E.P.follows .mixedOrders=true) (ts:List (Nat × Nat × Nat)) (hts:DX ts=true) (S:Nat→ι→St) (J:ι→Prop) (h1:XC E m st [] (CJR E ts S J ks Q)) (h2:∀ v i,E.V≤v→J i→XE E .normal (S v i) ks Q):bF E m st ks Q:=by
 intro c hm a w hr
 refine wp_mono (jg ah c m st a w _ hm hr h1) ?_
 rintro e a' w' ⟨ex,st',rfl,hq,hr'⟩
 cases ex with
 | normal =>
   obtain⟨i,hJ,hle⟩:=hq
   obtain⟨v,hv,hr2⟩:=sw ts hts hr'
   exact⟨.normal,S v i,rfl,h2 v i hv hJ,(hle v).le a' w' hr2⟩
 | exit id=>exact⟨.exit id,st',rfl,hq,hr'⟩
 | goto l=>exact⟨.goto l,st',rfl,hq,hr'⟩
 | ret=>exact⟨.ret,st',rfl,hq,hr'⟩
theorem bF.anew (ts:List (Nat × Nat × Nat)) (hts:DX ts=true) (S:Nat→St) (h1:∀ v,LS (nk ts v st) (S v)) (h2:∀ v,E.V≤v→bF E m (S v) ks Q):bF E m st ks Q:=by
 intro c hm a w hr
 obtain⟨v,hv,hr2⟩:=sw ts hts hr
 exact h2 v hv c hm a w ((h1 v).le a w hr2)
theorem aU.anew (ts:List (Nat × Nat × Nat)) (hts:DX ts=true) (S:Nat→St) (h1:∀ v,LS (nk ts v st) (S v)) (h2:∀ v,E.V≤v→aU E m (S v) ks Q):aU E m st ks Q:=by
 intro c hm a w hr
 obtain⟨v,hv,hr2⟩:=sw ts hts hr
 exact h2 v hv c hm a w ((h1 v).le a w hr2)
theorem bF.alD (ah:E.P.follows .mixedOrders=true) (ts:List (Nat × Nat × Nat)) (hts:DX ts=true) (S:Nat→St) (h1:XC E m st [] (CTR E ts S ks Q)) (h2:∀ v,E.V≤v→XE E .normal (S v) ks Q):bF E m st ks Q:=by
 intro c hm a w hr
 refine wp_mono (jg ah c m st a w _ hm hr h1) ?_
 rintro e a' w' ⟨ex,st',rfl,hq,hr'⟩
 cases ex with
 | normal =>
   obtain⟨v,hv,hr2⟩:=sw ts hts hr'
   exact⟨.normal,S v,rfl,h2 v hv,(hq v).le a' w' hr2⟩
 | exit id=>exact⟨.exit id,st',rfl,hq,hr'⟩
 | goto l=>exact⟨.goto l,st',rfl,hq,hr'⟩
 | ret=>exact⟨.ret,st',rfl,hq,hr'⟩
end
theorem aPZ (a b:Int):(a == b)=decide (a=b):=by by_cases h:a=b<;>simp[h]
attribute [simp] aPZ bf
attribute [simp] aJz aMC aOq aNm aIU aNC aOo aM4 aI2 aMD aOv aMu aJv aMM aOx aM3 canon avr atJ avp ownB at1 aE6 ax7 aoM axj apF ahn aj0 alM DX aj1 nk
end Go.Proofs.YtngjnfbngheccaaGreatDoor.Pv
namespace Go.Proofs.YtngjnfbngheccaaGreatDoor.Pv
open Go Go.RowKit
mutual
def al6:PV→Bool
 | .bool _|.int _ _|.str _|.nilp|.nilf|.nili=>true
 | .vec _ _ []=>true
 | .agg cs=>YW cs
 | _=>false
def YW:List PV→Bool
 | []=>true
 | x::xs=>al6 x&&YW xs
end
mutual
theorem aGp {w w' : World} {c c' : Ctx}:∀ (x:PV) (v:Value),al6 x=true→bq w c x v→bq w' c' x v
 | .bool _,_,_,h=>h
 | .int _ _,_,_,h=>h
 | .str _,_,_,h=>h
 | .nilp,_,_,h=>h
 | .nilf,_,_,h=>h
 | .nili,_,_,h=>h
 | .vec _ _ [],v,_,h=>by
   obtain⟨a,cap,h1,h2,h3,h4,h5,_⟩:=h
   exact⟨a,cap,h1,h2,h3,h4,h5,.inl rfl⟩
 | .vec _ _ (_::_),_,hs,_=>by simp[al6] at hs
 | .agg cs,v,hs,h=>by
   obtain⟨vs,e,h1,h2⟩:=h
   exact⟨vs,e,aoX cs _ (by simpa[al6] using hs) h1,h2⟩
 | .undef,_,hs,_|.tup _,_,hs,_|.ref _,_,hs,_|.own _ _ _ _ _,_,hs,_|.ptr _ _ _ _,_,hs,_|.fn _ _ _,_,hs,_|.iface _ _,_,hs,_|.opt _ _,_,hs,_|.raw _,_,hs,_=>by
   simp[al6] at hs
theorem aoX {w w' : World} {c c' : Ctx}:∀ (xs:List PV) (vs:List Value),YW xs=true→aY w c xs vs→aY w' c' xs vs
 | [],_,_,h=>h
 | x::xs,_,hs,h=>by
   simp only[YW,Bool.and_eq_true] at hs
   obtain⟨u,us,e,h1,h2⟩:=h
   exact⟨u,us,e,aGp x u hs.1 h1,aoX xs us hs.2 h2⟩
end
theorem ayW {w:World} {c:Ctx}:∀ (vs us:List Value),aY w c (vs.map .raw) us↔us=vs
 | [],us=>by simp[aY]
 | v::vs,us=>by
   simp only[List.map_cons,aY,bq,ayW vs]
   constructor
   ·rintro⟨u,us',rfl,rfl,rfl⟩; rfl
   ·rintro rfl; exact⟨_,_,rfl,rfl,rfl⟩
theorem azx {hl:Key→Option HE}:∀ (vs:List Value),og hl (vs.map .raw)=vs.map .raw
 | []=>rfl
 | v::vs=>by simp only[List.map_cons,og,reify,azx vs]
theorem aKg {hl:Key→Option HE}:∀ (vs:List Value),okL hl (vs.map .raw)
 | []=>trivial
 | v::vs=>⟨trivial,aKg vs⟩
theorem aDN {hl:Key→Option HE}:∀ (vs:List Value),jm hl (vs.map .raw)=[]
 | []=>rfl
 | v::vs=>by simp only[List.map_cons,jm,keysOf,aDN vs,List.append_nil]
theorem gU.raw {P:Program} {f:FuncId} {args:List PV} {vs:List Value} {esz:Nat} {xs:List (List PV)} {w0:World} {c0:Ctx} (hl:YW args=true) (hr0:aY w0 c0 args vs) (hr:gU P f args esz xs):gU P f (vs.map .raw) esz xs :=
 ⟨hr.1,fun w F us hG hF hus=>by
  rw[(ayW vs us).1 hus]
  exact hr.2 w F vs hG hF (aoX args vs hl hr0)⟩
theorem ak.ait {E:Env} {f:FuncId} {args:List PV} {d:Option Nat} {ms:List MOp} {st:St} {ks:List KF} {Q:Ex→St→Prop} {esz:Nat} {xs:List (List PV)} (hl:YW args=true) (hr:gU E.P f args esz xs)
 (h:∀ v,E.V≤v→XR E ms ⟨JR d (.own (d.getD 0,v) esz 0 xs.length false) st.s,((d.getD 0,v),some ⟨esz,xs,false,false⟩)::st.h⟩ ks Q):ak E f args d ms st ks Q:=by
 refine .inr ⟨hr.1,fun a c w vs hg hrep=>?_⟩
 obtain⟨N,hN⟩:=hg.bnd
 have hkey:¬ c.U (d.getD 0,max N E.V):=fun hu=>by
  have:=hN _ hu
  simp only at this
  omega
 refine Calls.mono (auN (key:=(d.getD 0,max N E.V)) (h:=st.h) hg.hgood hkey (args:=vs.map .raw) ((ayW vs vs).2 rfl) (aKg vs) (by rw[azx]; exact hr.raw hl hrep)) ?_
 rintro e w' ⟨v,he,c',a1,a2,a3,a4,a5⟩
 refine⟨v,he,_,c',h (max N E.V) (Nat.le_max_right _ _),?_⟩
 refine hg.put (r:=.own (d.getD 0,max N E.V) esz 0 xs.length false) ?_ ?_ a2 a3 a4
 ·cases d<;>rfl
 ·simpa[uQ,aDN,jO] using a1
end Go.Proofs.YtngjnfbngheccaaGreatDoor.Pv

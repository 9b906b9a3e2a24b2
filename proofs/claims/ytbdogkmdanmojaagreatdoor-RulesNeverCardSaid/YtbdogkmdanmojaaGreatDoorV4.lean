/- Part 4. -/
import Derived.Test.YtbdogkmdanmojaaGreatDoorV3
import Derived.Tactics
import Derived.Orders
import Derived.Deep.LoopGhost
set_option linter.unusedSimpArgs false
set_option linter.unusedVariables false
namespace Go.Proofs.YtbdogkmdanmojaaGreatDoor.Pv
open Go Go.RowKit
theorem constPV_rep {P : Program} {t : TypeId} {v : Value} {x : PV} {w : World} {c : Ctx} (h : constPV P t v=some x) : RepV w c x v:=by
 unfold constPV at h
 split at h
 ·cases h; rfl
 ·split at h
  ·rename_i hh; cases h; exact ⟨rfl,hh.1,hh.2⟩
  ·cases h
 ·split at h
  ·rename_i hh; cases h; exact ⟨rfl,hh⟩
  ·cases h
 ·cases h; rfl
 ·cases h; rfl
 ·cases h; rfl
 ·cases h; exact ⟨none,0,rfl,Nat.le_refl _,by simp,by simp [LIM],fun _=>rfl,.inl rfl⟩
 ·rename_i vs
  split at h
  ·split at h
   ·rename_i hf
    cases h
    obtain ⟨a,b⟩:=fitsL_rep (w:=w) (c:=c) hf
    exact ⟨vs,rfl,a,b⟩
   ·cases h
  ·cases h
 ·cases h
theorem tab_at {w : World} {c : Ctx} {b : Nat} : ∀ {o : Nat} {cs : List Nat},(∀ (j n : Nat),cs[j]? = some n→w.cell? ⟨b,o+j,none⟩=some (.int .u8 n)∧n≤255)→RepAt w c b o (tabPV cs)
 | _,[],_=>trivial
 | o,n::cs,h=>by
   obtain ⟨h1,h2⟩:=h 0 n rfl
   refine ⟨⟨_,by simpa using h1,rfl,rfl,?_,?_⟩,tab_at (o:=o+1) fun j m hj=>?_⟩
   ·simp only [IntKind.min,IntKind.signed]; simp
   ·simp only [IntKind.max,IntKind.signed,IntKind.bits]; simp; omega
   ·have:=h (j+1) m (by simpa using hj)
    rwa [show o+(j+1)=o+1+j by omega] at this
section
variable {E : Env} {st : St} {c : Ctx} {a : Act} {w : World}
theorem Good.hgood (hg : Good E st c a w) : HGood E st.h c w:=⟨hg.heap,hg.fresh,hg.apart,hg.fz,hg.le,hg.bnd,hg.below⟩
theorem Good.get (hg : Good E st c a w) {t : TypeId} {x : Operand} {m : MO} (h : toO E.P E.nt t x=some m) : RepV w c (st.get m) (a.eval x):=by
 cases x with
 | tmp n =>
   simp only [toO] at h
   split at h
   ·rename_i hn
    cases h
    have hs : n < a.tmps.size:=by rw [hg.size]; exact hn
    have:=hg.slot n a.tmps[n] (by simp [hs])
    simpa [St.get,Act.eval,hs] using this
   ·cases h
 | const v =>
   simp only [toO,Option.map_eq_some_iff] at h
   obtain ⟨x,h1,rfl⟩:=h
   exact constPV_rep h1
 | func f =>
   simp only [toO,Option.some.injEq] at h
   subst h
   exact ⟨#[],#[],rfl,rfl,rfl⟩
 | global g =>
   simp only [toO,Option.map_eq_some_iff] at h
   obtain ⟨cs,h1,rfl⟩:=h
   obtain ⟨k1,k2,k3⟩:=hg.hgood.gok.1 g cs h1
   refine ⟨⟨g,0,none⟩,rfl,rfl,k2,tab_at fun j n hj=>?_⟩
   rw [Nat.zero_add]
   exact k3 j n hj
theorem Good.tmp (hg : Good E st c a w) {t : Nat} (h : t < E.nt) : ∃ v,a.tmps[t]? = some v∧RepV w c (lk t st.s) v:=by
 have hs : t < a.tmps.size:=by rw [hg.size]; exact h
 exact ⟨a.tmps[t],by simp [hs],hg.slot t _ (by simp [hs])⟩
theorem Good.put {st' : St} {c' : Ctx} {w' : World} (hg : Good E st c a w) {d : Option Nat} {r : PV} {u : Value} (hs : st'.s=(match d with | some t=>(t,r)::st.s | none=>st.s)) (hh : HGood E st'.h c' w') (hr : RepV w' c' r u) (hle : c.Le c') (hm : Mono c.Fz w w') :
 Good E st' c' (a.put d u) w':=by
 refine ⟨?_,?_,fun t v hv=>?_,hh.heap,hh.fresh,hh.apart,hh.fz,hh.le,hh.bnd,hh.below,fun p hp=>RepV.mono _ _ hm hle (hg.ghost p hp)⟩
 ·cases d <;> exact hg.defers
 ·cases d <;> simp [Act.put,hg.size]
 ·rw [hs]
  cases d with
  | none=>exact RepV.mono _ _ hm hle (hg.slot t v hv)
  | some d =>
    simp only [Act.put,Array.getElem?_setIfInBounds] at hv
    simp only [lk]
    split at hv
    ·rename_i e
     subst e
     rw [if_pos rfl]
     split at hv
     ·cases hv; exact hr
     ·cases hv
    ·rename_i e
     rw [if_neg (fun x=>e x.symm)]
     exact RepV.mono _ _ hm hle (hg.slot t v hv)
end
def Runs (P : Program) (ev : Operand→Value) (o : Oper) (w : World) (R : Value→World→Prop) : Prop :=
 (∃ n v w',(execOp ev o).run P w=.ok n w'∧(n=.value v∨(n=.skip∧v=undef))∧R v w') ∨
 (∃ f args,(execOp ev o).run P w=.ok (.enter f args) w∧Calls P f args w fun e w'=>∃ v,e=.returned v∧R v w')
theorem Runs.mono {P : Program} {ev : Operand→Value} {o : Oper} {w : World} {R R' : Value→World→Prop} (h : Runs P ev o w R) (hr : ∀ v w',R v w'→R' v w') : Runs P ev o w R':=by
 rcases h with ⟨n,v,w',h1,h2,h3⟩ | ⟨f,args,h1,h2⟩
 ·exact .inl ⟨n,v,w',h1,h2,hr _ _ h3⟩
 ·refine .inr ⟨f,args,h1,Calls.mono h2 ?_⟩
  rintro e w' ⟨v,he,h3⟩
  exact ⟨v,he,hr _ _ h3⟩
theorem Runs.wp {P : Program} {a : Act} {o : Oper} {w : World} {next : Act→World→Prop} {Q : Exit→Act→World→Prop} (h : Runs P a.eval o w fun v w'=>next (a.put o.dst v) w') : o.wp P a w next Q:=by
 unfold Oper.wp
 rcases h with ⟨n,v,w',h1,h2,h3⟩ | ⟨f,args,h1,h2⟩
 ·rw [h1]
  rcases h2 with rfl | ⟨rfl,rfl⟩ <;> exact h3
 ·rw [h1,Oper.upon_enter]
  refine Calls.mono h2 ?_
  rintro e w' ⟨v,rfl,h3⟩
  exact h3
theorem doOp_mono {P : Program} {key : Key} {get : MO→PV} {hl : Key→Option HE} {i : MI} {K K' : Out→Prop} (h : ∀ o,K o→K' o) (hd : doOp P key get hl i K) : doOp P key get hl i K':=by
 have hc : ∀ f args,doCall P key hl f args K→doCall P key hl f args K':=fun f args hd=>by
  rcases hd with ⟨r,h1,h2⟩ | ⟨e,xs,h1,h2⟩
  ·exact .inl ⟨r,h1,h _ h2⟩
  ·exact .inr ⟨e,xs,h1,h _ h2⟩
 unfold doOp at hd ⊢
 split at hd
 ·exact hc _ _ hd
 ·split at hd
  ·exact hc _ _ hd
  ·exact hd.elim
 ·split at hd
  ·exact fun b hb=>h _ (hd b hb)
  ·exact fun b hb=>h _ (hd b hb)
  ·exact hd.elim
 ·split at hd
  ·exact h _ hd
  ·exact hd.elim
theorem doOp_ex {P : Program} {key : Key} {get : MO→PV} {hl : Key→Option HE} {i : MI} {K : Out→Prop} (hd : doOp P key get hl i K) : ∃ o,K o:=by
 have hc : ∀ f args,doCall P key hl f args K→∃ o,K o:=fun f args hd=>by
  rcases hd with ⟨r,h1,h2⟩ | ⟨e,xs,h1,h2⟩
  ·exact ⟨_,h2⟩
  ·exact ⟨_,h2⟩
 unfold doOp at hd
 split at hd
 ·exact hc _ _ hd
 ·split at hd
  ·exact hc _ _ hd
  ·exact hd.elim
 ·split at hd
  ·exact ⟨_,hd false (by simp)⟩
  ·exact ⟨_,hd false (by simp)⟩
  ·exact hd.elim
 ·split at hd
  ·exact ⟨_,hd⟩
  ·exact hd.elim
section
variable {E : Env} {h : List (Key × Option HE)} {c : Ctx} {w : World} {a : Act} {get : MO→PV} {o : Oper} {i : MI} {key : Key}
theorem After.same {r : PV} {v : Value} {p : Prop} {rd : List Nat} (hg : HGood E h c w) (hr : RepV w c r v) : After E h c w key ⟨p,rd,r,[]⟩ v w :=
 ⟨c,hg,hr,Ctx.Le.refl c,Mono.refl _ _,fun _ hk=>.inl hk⟩
theorem doOp_runs (hi : toI E.P E.nt o=some i∨i=.bad) (hg : HGood E h c w) (hkey : ¬ c.U key) (hop : Opnd E c w a.eval get i) {K : Out→Prop} (hd : doOp E.P key get (fun k=>hk k h) i fun o=>o.pre∧K o) :
 Runs E.P a.eval o w fun v w'=>∃ out,K out∧After E h c w key out v w':=by
 replace hi : toI E.P E.nt o=some i:=by
  rcases hi with hi | rfl
  ·exact hi
  ·exact (show False from hd).elim
 unfold doOp at hd
 split at hd
 ·rename_i f args
  obtain ⟨cl,ho,hcl,hc,hargs⟩:=toI_call hi
  have hrep : RepL w c (args.map get) (cl.args.toList.map a.eval):=by
   have : ∀ (ts : List TypeId) (xs : List Operand) (ms : List MO),toOs E.P E.nt ts xs=some ms→(∀ m ∈ ms,m ∈ args)→RepL w c (ms.map get) (xs.map a.eval):=by
    intro ts xs
    induction xs generalizing ts with
    | nil=>intro ms h _; simp [toOs] at h; subst h; rfl
    | cons x xs ih =>
      intro ms h hm
      simp only [toOs] at h
      split at h
      ·rename_i y ys h1 h2
       cases h
       exact ⟨_,_,rfl,hop _ _ _ h1 (by simpa [MI.ops] using hm y (by simp)),ih _ _ h2 (fun m hm'=>hm m (by simp [hm']))⟩
      ·cases h
   exact this _ _ _ hargs (fun m h=>h)
  obtain ⟨_,hcall⟩:=call_after hg hkey hrep hd
  refine .inr ⟨f,(cl.args.toList.map a.eval).toArray,?_,Calls.mono hcall ?_⟩
  ·rw [run_call ho hcl (a:=#[]) (b:=#[]) rfl hc]
   congr 2
   apply Array.ext'
   simp
  ·rintro e w' ⟨v,he,out,h1,h2⟩
   exact ⟨v,he,out,h1,h2⟩
 ·rename_i f args
  split at hd
  ·rename_i fid first caps hf
   obtain ⟨cl,t,ho,hcl,ht,rfl,hargs⟩:=toI_dcall hi
   have hft:=hop 0 (.tmp t) (.t t) (by simp [toO,ht]) (by simp [MI.ops])
   rw [hf] at hft
   obtain ⟨x,y,e1,r1,r2⟩:=hft
   have hrep : RepL w c (args.map get) (cl.args.toList.map a.eval):=by
    have : ∀ (ts : List TypeId) (xs : List Operand) (ms : List MO),toOs E.P E.nt ts xs=some ms→(∀ m ∈ ms,m ∈ args)→RepL w c (ms.map get) (xs.map a.eval):=by
     intro ts xs
     induction xs generalizing ts with
     | nil=>intro ms h _; simp [toOs] at h; subst h; rfl
     | cons x xs ih =>
       intro ms h hm
       simp only [toOs] at h
       split at h
       ·rename_i y ys h1 h2
        cases h
        exact ⟨_,_,rfl,hop _ _ _ h1 (by simp [MI.ops]; exact .inr (hm y (by simp))),ih _ _ h2 (fun m hm'=>hm m (by simp [hm']))⟩
       ·cases h
    exact this _ _ _ hargs (fun m h=>h)
   obtain ⟨hc,hcall⟩:=call_after hg hkey (RepL.append (RepL.append r1 hrep) r2) hd
   refine .inr ⟨fid,(x.toList++cl.args.toList.map a.eval++y.toList).toArray,?_,Calls.mono hcall ?_⟩
   ·rw [run_call ho hcl (a:=x) (b:=y) e1 hc]
    congr 2
    apply Array.ext'
    simp
   ·rintro e w' ⟨v,he,out,h1,h2⟩
    exact ⟨v,he,out,h1,h2⟩
  ·exact hd.elim
 ·rename_i ne x
  obtain ⟨n1,n2⟩:=nil_does (c:=c) (w:=w) (get:=get) hi (fun _=>rfl) hop
  split at hd
  ·rename_i esz full xs hx
   obtain ⟨b,hb,hr⟩:=n1 _ _ _ hx
   exact .inl ⟨_,_,w,hr,.inl rfl,_,(hd b hb).2,After.same hg rfl⟩
  ·rename_i g esz off len full hx
   obtain ⟨b,hb,hr⟩:=n2 _ _ _ _ _ hx
   exact .inl ⟨_,_,w,hr,.inl rfl,_,(hd b hb).2,After.same hg rfl⟩
  ·exact hd.elim
 ·split at hd
  ·rename_i out hs
   obtain ⟨n,v,w',c',h1,h2,h3,h4,h5,h6,h7⟩:=op_does hi hg hkey hop hs hd.1
   exact .inl ⟨n,v,w',h1,h2,out,hd.2,c',h3,h4,h5,h6,h7⟩
  ·exact hd.elim
end
theorem optOk_strip {w : World} {c : Ctx} {x : PV} {v : Value} (h : RepV w c x v) (ho : optOk true x) : RepV w c (strip x) v:=by
 cases x <;> first | exact h | exact h.1 (ho rfl)
theorem optsOk_mem {gb : Bool} {get : MO→PV} : ∀ {xs : List MO} {m : MO},optsOk gb get xs→m ∈ xs→optOk gb (get m)
 | [],_,_,hm=>by simp at hm
 | y::ys,m,h,hm=>by
   rcases List.mem_cons.1 hm with rfl | hm
   ·exact h.1
   ·exact optsOk_mem h.2 hm
section
variable {E : Env} {st : St} {c : Ctx} {a : Act} {w : World}
def Left (E : Env) (c : Ctx) (key : Key) (K : Out→St→Prop) (a' : Act) (w' : World) : Prop :=
 ∃ o st' c',K o st'∧Good E st' c' a' w'∧∀ k,c'.U k→c.U k∨k=key
theorem ite_false_some {α : Type} {q : Bool} {x : Option α} {m : α} (h : (if q=false then none else x)=some m) : x=some m:=by
 cases q
 ·simp at h
 ·simpa using h
theorem toOp_spec {P : Program} {nt : Nat} {ops : Array Oper} {soft : Bool} {o : Oper} {m : MOp} (h : toOp P nt ops soft o=some m) :
 (toI P nt o=some m.i∨m.i=.bad)∧m.dst=o.dst∧((o.guard=none∧m.g=none)∨∃ j want t,o.guard=some (j,want)∧(ops[j]?).bind (·.dst)=some t∧t < nt∧m.g=some (t,want)):=by
 unfold toOp at h
 have h:=ite_false_some h
 obtain ⟨i,hi,h⟩ : ∃ i,(toI P nt o=some i∨i=.bad)∧(match o.guard with
  | none=>some { dst:=o.dst,i:=i }
  | some (j,want)=>match (ops[j]?).bind (·.dst) with
    | some t=>if t < nt then some { dst:=o.dst,i:=i,g:=some (t,want),soft:=soft } else none
    | none=>none)=some m:=by
  cases hi : toI P nt o with
  | none=>rw [hi] at h; exact ⟨.bad,.inr rfl,h⟩
  | some i=>rw [hi] at h; exact ⟨i,.inl rfl,h⟩
 cases hg : o.guard with
 | none =>
   rw [hg] at h
   cases h
   exact ⟨hi,rfl,.inl ⟨rfl,rfl⟩⟩
 | some jw =>
   obtain ⟨j,want⟩:=jw
   rw [hg] at h
   simp only at h
   cases ht : (ops[j]?).bind (·.dst) with
   | none=>rw [ht] at h; cases h
   | some t =>
     rw [ht] at h
     simp only at h
     split at h
     ·rename_i hlt
      cases h
      exact ⟨hi,rfl,.inr ⟨j,want,t,rfl,ht,hlt,rfl⟩⟩
     ·cases h
theorem guard_wanted (hg : Good E st c a w) {ops : Array Oper} {o : Oper} {j t : Nat} {want gb : Bool} (ho : o.guard=some (j,want)) (ht : (ops[j]?).bind (·.dst)=some t) (hlt : t < E.nt) (hgb : guardC (lk t st.s) want=some gb) :
 Region.wanted o (yielded ops a.tmps)=gb:=by
 obtain ⟨v,hv,hr⟩:=hg.tmp hlt
 simp only [Region.wanted,ho,yielded,ht,Option.bind_some,hv]
 cases hx : lk t st.s with
 | bool b =>
   rw [hx] at hr hgb
   rw [show v=.bool b from hr]
   simp only [guardC,Option.some.injEq] at hgb
   subst hgb
   cases b <;> cases want <;> rfl
 | opt b' x =>
   rw [hx] at hr hgb
   cases x with
   | bool b =>
     simp only [guardC,Option.some.injEq] at hgb
     subst hgb
     cases b' with
     | false =>
       rw [hr.2 rfl]
       simp [undef]
     | true =>
       rw [show v=.bool b from hr.1 rfl]
       cases b <;> cases want <;> rfl
   | _=>simp [guardC] at hgb
 | _=>rw [hx] at hgb; simp [guardC] at hgb
theorem step_sound (hg : Good E st c a w) {ops : Array Oper} {soft : Bool} {o : Oper} {m : MOp} (hm : toOp E.P E.nt ops soft o=some m) {v : Nat} (hkey : ¬ c.U (m.dst.getD 0,v)) {K : Out→St→Prop} (hs : stepOp E.P m v st K) :
 (Region.wanted o (yielded ops a.tmps)=true→Runs E.P a.eval o w fun u w'=>Left E c (m.dst.getD 0,v) K (a.put o.dst u) w') ∧
 (Region.wanted o (yielded ops a.tmps)=false→Left E c (m.dst.getD 0,v) K (a.put o.dst undef) w):=by
 obtain ⟨hi,hdst,hgd⟩:=toOp_spec hm
 have hop : Opnd E c w a.eval st.get m.i:=fun t x mo h1 h2=>hg.get h1
 have put : ∀ {out : Out} {u : Value} {w' : World},After E st.h c w (m.dst.getD 0,v) out u w'→∃ c',Good E (st.put m.dst out) c' (a.put o.dst u) w'∧∀ k,c'.U k→c.U k∨k=(m.dst.getD 0,v):=by
  rintro out u w' ⟨c',h1,h2,h3,h4,h5⟩
  exact ⟨c',hg.put (d:=o.dst) (r:=out.r) (by rw [← hdst]; rfl) h1 h2 h3 h4,h5⟩
 unfold stepOp at hs
 rcases hgd with ⟨hg1,hg2⟩ | ⟨j,want,t,hg1,hg2,hlt,hg3⟩
 ·rw [hg2] at hs
  refine ⟨fun _=>?_,fun hf=>by simp [Region.wanted,hg1] at hf⟩
  refine (doOp_runs hi hg.hgood hkey hop hs).mono ?_
  rintro u w' ⟨out,hK,ha⟩
  obtain ⟨c',h1,h2⟩:=put ha
  exact ⟨out,_,c',hK,h1,h2⟩
 ·rw [hg3] at hs
  simp only at hs
  split at hs
  ·exact hs.elim
  ·rename_i gb hgb
   have hw:=guard_wanted hg hg1 hg2 hlt hgb
   split at hs
   ·
     cases gb with
     | true =>
       refine ⟨fun _=>?_,fun hf=>by rw [hw] at hf; cases hf⟩
       have hoo : softOk true st.get m.i:=by
        obtain ⟨o',h1,h2,h3⟩:=doOp_ex hs
        exact h2
       have hop' : Opnd E c w a.eval (softGet m.i st.get) m.i:=fun t x mo h1 h2=>by
        unfold softGet
        unfold softOk at hoo
        split
        ·exact hg.get h1
        ·rename_i hnp
         rw [if_neg hnp] at hoo
         exact optOk_strip (hg.get h1) (optsOk_mem hoo h2)
       refine (doOp_runs hi hg.hgood hkey hop' (K:=fun o=>softOk true st.get m.i∧o.hu=[]∧K ⟨True,o.rd,.opt true o.r,[]⟩ (st.put m.dst ⟨True,o.rd,.opt true o.r,[]⟩)) (doOp_mono (fun o ho=>⟨ho.1 rfl,ho.2⟩) hs)).mono ?_
       rintro u w' ⟨out,⟨_,hhu,hK⟩,c',h1,h2,h3,h4,h5⟩
       rw [hhu] at h1
       exact ⟨_,_,c',hK,hg.put (d:=o.dst) (r:=.opt true out.r) (by rw [← hdst]; rfl) (by simpa [St.put] using h1) ⟨fun _=>h2,fun h=>(by cases h)⟩ h3 h4,h5⟩
     | false =>
       refine ⟨fun hf=>(by rw [hw] at hf; cases hf),fun _=>?_⟩
       obtain ⟨o',h1,h2,h3,hK⟩:=doOp_ex hs
       exact ⟨_,_,c,hK,hg.put (d:=o.dst) (r:=.opt false o'.r) (by rw [← hdst]; rfl) (by simpa [St.put] using hg.hgood) ⟨fun h=>(by cases h),fun _=>rfl⟩ (Ctx.Le.refl c) (Mono.refl _ _),fun _ hk=>.inl hk⟩
   ·obtain ⟨hs1,hs2⟩:=hs
    cases gb with
    | true =>
      refine ⟨fun _=>?_,fun hf=>by rw [hw] at hf; cases hf⟩
      refine (doOp_runs hi hg.hgood hkey hop (hs1 rfl)).mono ?_
      rintro u w' ⟨out,hK,ha⟩
      obtain ⟨c',h1,h2⟩:=put ha
      exact ⟨out,_,c',hK,h1,h2⟩
    | false =>
      refine ⟨fun hf=>(by rw [hw] at hf; cases hf),fun _=>?_⟩
      exact ⟨_,_,c,hs2 rfl,hg.put (d:=o.dst) (r:=skipV) (by rw [← hdst]; rfl) (by simpa [St.skip] using hg.hgood) ⟨fun h=>(by cases h),fun _=>rfl⟩ (Ctx.Le.refl c) (Mono.refl _ _),fun _ hk=>.inl hk⟩
theorem opSem_key {key key' : Key} {get : MO→PV} {hl : Key→Option HE} {i : MI} (h : i.allocs=false) : opSem key get hl i=opSem key' get hl i:=by
 cases i <;> first | (cases h; done) | rfl
theorem doOp_key {P : Program} {key key' : Key} {get : MO→PV} {hl : Key→Option HE} {i : MI} (h : i.allocs=false) {K : Out→Prop} : doOp P key get hl i K=doOp P key' get hl i K:=by
 unfold doOp
 split
 ·cases h
 ·cases h
 ·rfl
 ·rw [opSem_key h]
theorem stepOp_key {P : Program} {m : MOp} {v v' : Nat} (h : m.i.allocs=false) {st : St} {K : Out→St→Prop} : stepOp P m v st K=stepOp P m v' st K:=by
 unfold stepOp
 split
 ·exact doOp_key h
 ·split
  ·rfl
  ·split
   ·exact doOp_key h
   ·rw [doOp_key h]
theorem inl_sound (hg : Good E st c a w) {ops : Array Oper} {soft : Bool} {o : Oper} {m : MOp} (hm : toOp E.P E.nt ops soft o=some m) {K : St→Prop} (hs : Inl E m st K) :
 (Region.wanted o (yielded ops a.tmps)=true→Runs E.P a.eval o w fun u w'=>∃ st' c',K st'∧Good E st' c' (a.put o.dst u) w') ∧
 (Region.wanted o (yielded ops a.tmps)=false→∃ st' c',K st'∧Good E st' c' (a.put o.dst undef) w):=by
 obtain ⟨hi,hdst,hgd⟩:=toOp_spec hm
 have call : ∀ (f : FuncId) (args : List PV) (vs : List Value),(callable E.P f=true→(execOp a.eval o).run E.P w=.ok (.enter f vs.toArray) w)→RepL w c args vs→InlCall E f args m.dst st K →
  Runs E.P a.eval o w fun u w'=>∃ st' c',K st'∧Good E st' c' (a.put o.dst u) w':=fun f args vs hrun hrep hcall=>by
  refine .inr ⟨f,vs.toArray,hrun hcall.1,Calls.mono (hcall.2 a c w vs hg hrep) ?_⟩
  rintro e w' ⟨v,he,st',c',hK,hg'⟩
  exact ⟨v,he,st',c',hK,by rw [← hdst]; exact hg'⟩
 have skip : ∀ hK : K (st.skip m.dst),∃ st' c',K st'∧Good E st' c' (a.put o.dst undef) w:=fun hK =>
  ⟨_,c,hK,hg.put (d:=o.dst) (r:=skipV) (by rw [← hdst]; rfl) (by simpa [St.skip] using hg.hgood) ⟨fun h=>(by cases h),fun _=>rfl⟩ (Ctx.Le.refl c) (Mono.refl _ _)⟩
 have gated : ∀ (f : FuncId) (args : List PV) (vs : List Value),(callable E.P f=true→(execOp a.eval o).run E.P w=.ok (.enter f vs.toArray) w)→RepL w c args vs→InlG E m.g f args m.dst st K →
  (Region.wanted o (yielded ops a.tmps)=true→Runs E.P a.eval o w fun u w'=>∃ st' c',K st'∧Good E st' c' (a.put o.dst u) w') ∧
  (Region.wanted o (yielded ops a.tmps)=false→∃ st' c',K st'∧Good E st' c' (a.put o.dst undef) w):=fun f args vs hrun hrep hG=>by
  unfold InlG at hG
  rcases hgd with ⟨hg1,hg2⟩ | ⟨j,want,t,hg1,hg2,hlt,hg3⟩
  ·rw [hg2] at hG
   exact ⟨fun _=>call f args vs hrun hrep hG,fun hf=>by simp [Region.wanted,hg1] at hf⟩
  ·rw [hg3] at hG
   simp only at hG
   split at hG
   ·rename_i hgb
    have hw:=guard_wanted hg hg1 hg2 hlt hgb
    exact ⟨fun _=>call f args vs hrun hrep hG,fun hf=>by rw [hw] at hf; cases hf⟩
   ·rename_i hgb
    have hw:=guard_wanted hg hg1 hg2 hlt hgb
    exact ⟨fun hf=>(by rw [hw] at hf; cases hf),fun _=>skip hG⟩
   ·exact hG.elim
 unfold Inl at hs
 split at hs
 ·rename_i f args hmi
  rw [hmi] at hi
  obtain ⟨cl,ho,hcl,hc,hargs⟩:=toI_call (hi.resolve_right (by simp))
  refine gated f _ (cl.args.toList.map a.eval) (fun hcb=>?_) (toOs_RepL _ _ _ hargs (fun t x m h _=>hg.get h)) hs
  rw [run_call ho hcl (a:=#[]) (b:=#[]) rfl hcb]
  congr 2
  apply Array.ext'
  simp
 ·rename_i f args hmi
  split at hs
  ·rename_i fid first caps hf
   rw [hmi] at hi
   obtain ⟨cl,t,ho,hcl,ht,rfl,hargs⟩:=toI_dcall (hi.resolve_right (by simp))
   have hft:=hg.get (t:=0) (x:=.tmp t) (m:=.t t) (by simp [toO,ht])
   rw [hf] at hft
   obtain ⟨x,y,e1,r1,r2⟩:=hft
   refine gated fid _ (x.toList++cl.args.toList.map a.eval++y.toList) (fun hcb=>?_) (RepL.append (RepL.append r1 (toOs_RepL _ _ _ hargs (fun t x m h _=>hg.get h))) r2) hs
   rw [run_call ho hcl (a:=x) (b:=y) e1 hcb]
   congr 2
   apply Array.ext'
   simp
  ·exact hs.elim
 ·exact hs.elim
theorem run_sound {ops : Array Oper} {soft : Bool} {Q : Exit→Act→World→Prop} {K : St→Prop} (hQ : ∀ st a w,K st→Rel E st a w→Q .normal a w) : ∀ (l : List Oper) (ms : List MOp) (st : St) (a : Act) (w : World),toOps E.P E.nt ops soft l=some ms →
 Rel E st a w→run E ms st K→wpList E.P ops Q l a w
 | [],ms,st,a,w,h,hr,hk=>by
   simp only [toOps,Option.some.injEq] at h
   subst h
   exact hQ st a w hk hr
 | o::l,ms,st,a,w,h,⟨c,hg⟩,hk=>by
   simp only [toOps] at h
   split at h
   ·rename_i m ms' h1 h2
    cases h
    obtain ⟨N0,hN0⟩:=hg.bnd
    obtain ⟨N,hVN,hN⟩ : ∃ N,E.V≤N∧∀ k,c.U k→k.2 < N:=⟨max N0 E.V,Nat.le_max_right _ _,fun k hk=>Nat.lt_of_lt_of_le (hN0 k hk) (Nat.le_max_left _ _)⟩
    have hkey : ¬ c.U (m.dst.getD 0,N):=fun hu=>Nat.lt_irrefl _ (hN _ hu)
    have hor : (stepOp E.P m N st fun _ st'=>run E ms' st' K)∨Inl E m st fun st'=>run E ms' st' K:=by
     simp only [run] at hk
     refine hk.imp (fun hk=>?_) id
     split at hk
     ·exact hk N hVN
     ·rename_i ha
      rw [stepOp_key (v':=0) (by simpa using ha)]; exact hk
    unfold wpList
    rcases hor with hs | hinl
    ·obtain ⟨s1,s2⟩:=step_sound hg h1 hkey hs
     split
     ·rename_i hw
      refine .inl (Runs.wp ((s1 hw).mono ?_))
      rintro u w' ⟨_,st',c',hK,hg',_⟩
      exact run_sound hQ l ms' st' _ w' h2 ⟨c',hg'⟩ hK
     ·rename_i hw
      obtain ⟨_,st',c',hK,hg',_⟩:=s2 (by simpa using hw)
      exact run_sound hQ l ms' st' _ w h2 ⟨c',hg'⟩ hK
    ·obtain ⟨s1,s2⟩:=inl_sound hg h1 hinl
     split
     ·rename_i hw
      refine .inl (Runs.wp ((s1 hw).mono ?_))
      rintro u w' ⟨st',c',hK,hg'⟩
      exact run_sound hQ l ms' st' _ w' h2 ⟨c',hg'⟩ hK
     ·rename_i hw
      obtain ⟨st',c',hK,hg'⟩:=s2 (by simpa using hw)
      exact run_sound hQ l ms' st' _ w h2 ⟨c',hg'⟩ hK
   ·cases h
end
end Go.Proofs.YtbdogkmdanmojaaGreatDoor.Pv
namespace Go.Proofs.YtbdogkmdanmojaaGreatDoor.Pv
open Go Go.RowKit
def MI.isNil : MI→Bool
 | .nilcmp _ _=>true
 | _=>false
mutual
theorem reify0_congr {hl hl' : Key→Option HE} : ∀ x : PV,(∀ k ∈ keys0 x,hl' k=hl k)→reify0 hl' x=reify0 hl x∧(ok0 hl' x↔ok0 hl x)
 | .own g _ _ _ _,h=>by simp [reify0,ok0,h g (by simp [keys0])]
 | .agg cs,h=>by have:=reify0L_congr cs h; simp [reify0,ok0,this]
 | .tup cs,h=>by have:=reify0L_congr cs h; simp [reify0,ok0,this]
 | .fn f a b,h=>by
   have h1:=reify0L_congr a (fun k hk=>h k (by simp [keys0,hk]))
   have h2:=reify0L_congr b (fun k hk=>h k (by simp [keys0,hk]))
   simp [reify0,ok0,h1,h2]
 | .iface t x,h=>by have:=reify0_congr x h; simp [reify0,ok0,this]
 | .undef,_ | .bool _,_ | .int _ _,_ | .str _,_ | .nilp,_ | .nilf,_ | .nili,_ | .vec _ _ _,_ | .ref _,_ | .ptr _ _ _ _,_ | .opt _ _,_ | .raw _,_ | .mapf _,_=>by simp [reify0,ok0]
theorem reify0L_congr {hl hl' : Key→Option HE} : ∀ xs : List PV,(∀ k ∈ keys0L xs,hl' k=hl k)→reify0L hl' xs=reify0L hl xs∧(ok0L hl' xs↔ok0L hl xs)
 | [],_=>by simp [reify0L,ok0L]
 | x::xs,h=>by
   have h1:=reify0_congr x (fun k hk=>h k (by simp [keys0L,hk]))
   have h2:=reify0L_congr xs (fun k hk=>h k (by simp [keys0L,hk]))
   simp [reify0L,ok0L,h1,h2]
end
mutual
theorem reify_congr {hl hl' : Key→Option HE} : ∀ x : PV,(∀ k ∈ keysOf hl x,hl' k=hl k)→reify hl' x=reify hl x∧(okV hl' x↔okV hl x)∧keysOf hl' x=keysOf hl x
 | .own g _ _ _ _,h=>by simp [reify,okV,keysOf,h g (by simp [keysOf])]
 | .ptr g _ i off,h=>by
   have hg : hl' g=hl g:=h g (by simp [keysOf])
   simp only [reify,okV,keysOf,hg]
   cases he : hl g with
   | none=>simp
   | some e =>
     have:=reify0L_congr (hl:=hl) (hl':=hl') ((e.xs.getD i []).drop off) (fun k hk=>h k (by simp only [keysOf,he]; exact List.mem_cons_of_mem _ hk))
     simp only [this,true_and,and_true]
 | .agg cs,h=>by have:=reifyL_congr cs h; simp [reify,okV,keysOf,this]
 | .tup cs,h=>by have:=reifyL_congr cs h; simp [reify,okV,keysOf,this]
 | .fn f a b,h=>by
   have h1:=reifyL_congr a (fun k hk=>h k (by simp [keysOf,hk]))
   have h2:=reifyL_congr b (fun k hk=>h k (by simp [keysOf,hk]))
   simp [reify,okV,keysOf,h1,h2]
 | .iface t x,h=>by have:=reify_congr x h; simp [reify,okV,keysOf,this]
 | .undef,_ | .bool _,_ | .int _ _,_ | .str _,_ | .nilp,_ | .nilf,_ | .nili,_ | .vec _ _ _,_ | .ref _,_ | .opt _ _,_ | .raw _,_ | .mapf _,_=>by simp [reify,okV,keysOf]
theorem reifyL_congr {hl hl' : Key→Option HE} : ∀ xs : List PV,(∀ k ∈ keysL hl xs,hl' k=hl k)→reifyL hl' xs=reifyL hl xs∧(okL hl' xs↔okL hl xs)∧keysL hl' xs=keysL hl xs
 | [],_=>by simp [reifyL,okL,keysL]
 | x::xs,h=>by
   have h1:=reify_congr x (fun k hk=>h k (by simp [keysL,hk]))
   have h2:=reifyL_congr xs (fun k hk=>h k (by simp [keysL,hk]))
   simp [reifyL,okL,keysL,h1,h2]
end
theorem freezeAll_congr {hl hl' : Key→Option HE} {ks : List Key} (h : ∀ k ∈ ks,hl' k=hl k) : freezeAll hl' ks=freezeAll hl ks :=
 List.map_congr_left fun k hk=>by rw [h k hk]
theorem tags_mem {ks : List Key} {k : Key} (h : k ∈ ks) : k.1 ∈ tagsOf ks:=List.mem_map.2 ⟨k,h,rfl⟩
theorem rowsOf_congr {hl hl' : Key→Option HE} {x : PV} {po : Prop} {xe : Nat} {rd : List Nat} {cx : List (List PV)} (hs : rowsOf hl x=some (po,xe,rd,cx)) (h : ∀ k : Key,k.1 ∈ rd→hl' k=hl k) : rowsOf hl' x=some (po,xe,rd,cx):=by
 unfold rowsOf at hs ⊢
 split at hs
 ·exact hs
 ·rename_i g esz off len full
  split at hs
  ·rename_i e he
   simp only [Option.some.injEq,Prod.mk.injEq] at hs
   obtain ⟨rfl,rfl,rfl,rfl⟩:=hs
   simp only [h g (by simp),he]
  ·cases hs
 ·exact hs
 ·cases hs
theorem opSem_congr {key : Key} {get get' : MO→PV} {hl hl' : Key→Option HE} {i : MI} {out : Out} (hs : opSem key get hl i=some out) (hg : ∀ m ∈ i.ops,get' m=get m) (hh : ∀ k : Key,k.1 ∈ out.rd→hl' k=hl k) :
 opSem key get' hl' i=some out:=by
 cases i with
 | load a n ag =>
   have e1:=hg a (by simp [MI.ops])
   simp only [opSem,e1] at hs ⊢
   split at hs
   ·exact hs
   ·split at hs
    ·rename_i g esz i off hga _ e he
     cases hs
     simp only [hh g (by simp),he]
    ·cases hs
   ·cases hs
 | store a x n =>
   have e1:=hg a (by simp [MI.ops])
   have e2:=hg x (by simp [MI.ops])
   simp only [opSem,e1,e2] at hs ⊢
   split at hs
   ·rename_i g esz i off hga
    split at hs
    ·rename_i e he
     split at hs
     ·cases hs
     ·rename_i hfz
      split at hs
      ·rename_i hbx
       cases hs
       simp only [hh g (by simp),he,if_neg hfz,if_pos hbx]
      ·rename_i hbx
       have hg' : hl' g=hl g:=by cases hs; exact hh g (by simp)
       have hc:=reify_congr (hl:=hl) (hl':=hl') (get x) (fun k hk=>by cases hs; exact hh k (List.mem_cons_of_mem _ (tags_mem hk)))
       have hf:=freezeAll_congr (hl:=hl) (hl':=hl') (ks:=keysOf hl (get x)) (fun k hk=>by cases hs; exact hh k (List.mem_cons_of_mem _ (tags_mem hk)))
       simp only [hg',he,if_neg hfz,if_neg hbx,hc.1,hc.2.1,hc.2.2,hf]
       exact hs
    ·cases hs
   ·cases hs
 | bslice esz z n ps =>
   have e1 : (ps.map fun p=>get' p.2)=ps.map fun p=>get p.2:=List.map_congr_left fun p hp=>hg p.2 (by simp only [MI.ops]; exact List.mem_map.2 ⟨p,hp,rfl⟩)
   simp only [opSem,Option.some.injEq] at hs
   have hc:=reifyL_congr (hl:=hl) (hl':=hl') (ps.map fun p=>get p.2) (fun k hk=>by subst hs; exact hh k (tags_mem hk))
   have hf:=freezeAll_congr (hl:=hl) (hl':=hl') (ks:=keysL hl (ps.map fun p=>get p.2)) (fun k hk=>by subst hs; exact hh k (tags_mem hk))
   have e2 : (ps.map fun p=>(p.1,reify hl' (get' p.2)))=ps.map fun p=>(p.1,reify hl (get p.2)):=by
    refine List.map_congr_left fun p hp=>?_
    have e3:=hg p.2 (by simp only [MI.ops]; exact List.mem_map.2 ⟨p,hp,rfl⟩)
    have:=(reify_congr (hl:=hl) (hl':=hl') (get p.2) (fun k hk=>by subst hs; exact hh k (tags_mem (keysL_mem (List.mem_map.2 ⟨p,hp,rfl⟩) hk)))).1
    rw [e3,this]
   have e4 : okL hl' (ps.map fun p=>get p.2)=okL hl (ps.map fun p=>get p.2):=propext hc.2.1
   simp only [opSem]
   rw [e1,hc.2.2,e2,hf,e4,hs]
 | app s x esz =>
   have e1:=hg s (by simp [MI.ops])
   have e2:=hg x (by simp [MI.ops])
   simp only [opSem,e1,e2] at hs ⊢
   split at hs
   ·rename_i po xe rd cx hro
    split at hs
    ·rename_i esz' full xs hgs
     split at hs
     ·rename_i hn
      have:=rowsOf_congr (hl':=hl') hro (fun k hk=>by cases hs; exact hh k hk)
      simp only [this,hgs,if_pos hn]
      exact hs
     ·rename_i hn
      split at hs
      ·rename_i hemp
       have:=rowsOf_congr (hl':=hl') hro (fun k hk=>by cases hs; exact hh k hk)
       simp only [this,hgs,if_neg hn,if_pos hemp]
       exact hs
      ·rename_i hemp
       split at hs
       ·rename_i hfull
        have:=rowsOf_congr (hl':=hl') hro (fun k hk=>by cases hs; exact hh k hk)
        simp only [this,hgs]
        rw [if_neg hn,if_neg hemp,if_pos hfull]
        exact hs
       ·cases hs
    ·rename_i g esz' off len full hgs
     split at hs
     ·rename_i e he
      split at hs
      ·cases hs
      ·rename_i hf
       split at hs
       ·rename_i hfz
        split at hs
        ·rename_i hfull
         have:=rowsOf_congr (hl':=hl') hro (fun k hk=>by cases hs; exact hh k (List.mem_cons_of_mem _ hk))
         have hg' : hl' g=hl g:=by cases hs; exact hh g (by simp)
         simp only [this,hgs,hg',he,hf,hfz,hfull]
         exact hs
        ·cases hs
       ·rename_i hfz
        have:=rowsOf_congr (hl':=hl') hro (fun k hk=>by cases hs; exact hh k (List.mem_cons_of_mem _ hk))
        have hg' : hl' g=hl g:=by cases hs; exact hh g (by simp)
        simp only [this,hgs,hg',he,hf,hfz]
        exact hs
     ·cases hs
    ·cases hs
   ·cases hs
 | slc x esz lo hi mx =>
   have e1:=hg x (by simp [MI.ops])
   have e2 : lo.map get'=lo.map get:=by cases lo with | none=>rfl | some m=>simp [hg m (by simp [MI.ops])]
   have e3 : hi.map get'=hi.map get:=by cases hi with | none=>rfl | some m=>simp [hg m (by simp [MI.ops])]
   have e4 : mxOf get' mx=mxOf get mx:=by cases mx with | none=>rfl | some m=>simp [mxOf,hg m (by simp [MI.ops])]
   simp only [opSem,e1,e2,e3,e4] at hs ⊢
   exact hs
 | sslc x lo hi =>
   have e1:=hg x (by simp [MI.ops])
   have e2 : lo.map get'=lo.map get:=by cases lo with | none=>rfl | some m=>simp [hg m (by simp [MI.ops])]
   have e3 : hi.map get'=hi.map get:=by cases hi with | none=>rfl | some m=>simp [hg m (by simp [MI.ops])]
   simp only [opSem,e1,e2,e3] at hs ⊢
   exact hs
 | build z ps =>
   have e1 : (ps.map fun p=>(p.1,p.2.1,get' p.2.2))=ps.map fun p=>(p.1,p.2.1,get p.2.2):=List.map_congr_left fun p hp=>by rw [hg p.2.2 (by simp only [MI.ops]; exact List.mem_map.2 ⟨p,hp,rfl⟩)]
   simp only [opSem,e1] at hs ⊢
   exact hs
 | mkfn f fs cs =>
   have e1 : cs.map get'=cs.map get:=List.map_congr_left fun m hm=>hg m (by simp [MI.ops,hm])
   have e2 : fs.map get'=fs.map get:=List.map_congr_left fun m hm=>hg m (by simp [MI.ops,hm])
   simp only [opSem,e1,e2] at hs ⊢
   exact hs
 | cap x=>have e1:=hg x (by simp [MI.ops]); simp only [opSem,e1] at hs ⊢; exact hs
 | mksl _ _ x y =>
   have e1:=hg x (by simp [MI.ops])
   have e2:=hg y (by simp [MI.ops])
   simp only [opSem,e1,e2] at hs ⊢
   exact hs
 | appz x y _ _ =>
   have e1:=hg x (by simp [MI.ops])
   have e2:=hg y (by simp [MI.ops])
   simp only [opSem,e1,e2] at hs ⊢
   exact hs
 | iaddrp x y _ _ =>
   have e1:=hg x (by simp [MI.ops])
   have e2:=hg y (by simp [MI.ops])
   simp only [opSem,e1,e2] at hs ⊢
   exact hs
 | s2b x=>have e1:=hg x (by simp [MI.ops]); simp only [opSem,e1] at hs ⊢; exact hs
 | b2s x =>
   have e1:=hg x (by simp [MI.ops])
   simp only [opSem,e1] at hs ⊢
   split at hs
   ·cases hs
   ·rename_i hns
    split at hs
    ·rename_i po xe rd cx hro
     split at hs
     ·rename_i bs hbs
      cases hs
      simp only [rowsOf_congr hro hh,hbs]
     ·cases hs
    ·cases hs
 | clr x esz =>
   have e1:=hg x (by simp [MI.ops])
   simp only [opSem,e1] at hs ⊢
   split at hs
   ·rename_i hgs
    first | exact hs | (simp only [hgs]; exact hs) | (rw [hgs]; exact hs)
   ·rename_i g esz' off len full hgs
    split at hs
    ·rename_i e he
     have hg' : hl' g=hl g:=by
      split at hs
      ·cases hs
      ·cases hs; exact hh g (by simp)
     simp only [hgs,hg',he]
     exact hs
    ·cases hs
   ·cases hs
 | bad=>simp [opSem] at hs
 | mmk t=>simp [opSem] at hs
 | mset t m k x=>simp [opSem] at hs
 | look m k =>
   have e1:=hg m (by simp [MI.ops])
   have e2:=hg k (by simp [MI.ops])
   simp only [opSem,e1,e2] at hs ⊢
   exact hs
 | alloc z=>exact hs
 | pick x y z =>
   have e1:=hg x (by simp [MI.ops])
   have e2:=hg y (by simp [MI.ops])
   have e3:=hg z (by simp [MI.ops])
   simp only [opSem,e1,e2,e3] at hs ⊢
   exact hs
 | bin _ _ x y =>
   have e1:=hg x (by simp [MI.ops])
   have e2:=hg y (by simp [MI.ops])
   simp only [opSem,e1,e2] at hs ⊢
   exact hs
 | iaddr x y _ =>
   have e1:=hg x (by simp [MI.ops])
   have e2:=hg y (by simp [MI.ops])
   simp only [opSem,e1,e2] at hs ⊢
   exact hs
 | sidx x y =>
   have e1:=hg x (by simp [MI.ops])
   have e2:=hg y (by simp [MI.ops])
   simp only [opSem,e1,e2] at hs ⊢
   exact hs
 | aidx x y _ _ _ =>
   have e1:=hg x (by simp [MI.ops])
   have e2:=hg y (by simp [MI.ops])
   simp only [opSem,e1,e2] at hs ⊢
   exact hs
 | minmax _ x y =>
   have e1:=hg x (by simp [MI.ops])
   have e2:=hg y (by simp [MI.ops])
   simp only [opSem,e1,e2] at hs ⊢
   exact hs
 | mv x=>have e1:=hg x (by simp [MI.ops]); simp only [opSem,e1] at hs ⊢; exact hs
 | box x=>have e1:=hg x (by simp [MI.ops]); simp only [opSem,e1] at hs ⊢; exact hs
 | nilck x=>have e1:=hg x (by simp [MI.ops]); simp only [opSem,e1] at hs ⊢; exact hs
 | un _ x=>have e1:=hg x (by simp [MI.ops]); simp only [opSem,e1] at hs ⊢; exact hs
 | conv _ x=>have e1:=hg x (by simp [MI.ops]); simp only [opSem,e1] at hs ⊢; exact hs
 | faddr x _=>have e1:=hg x (by simp [MI.ops]); simp only [opSem,e1] at hs ⊢; exact hs
 | field x _ _ _=>have e1:=hg x (by simp [MI.ops]); simp only [opSem,e1] at hs ⊢; exact hs
 | ext x _=>have e1:=hg x (by simp [MI.ops]); simp only [opSem,e1] at hs ⊢; exact hs
 | len x=>have e1:=hg x (by simp [MI.ops]); simp only [opSem,e1] at hs ⊢; exact hs
 | slen x=>have e1:=hg x (by simp [MI.ops]); simp only [opSem,e1] at hs ⊢; exact hs
 | mkif _ x=>have e1:=hg x (by simp [MI.ops]); simp only [opSem,e1] at hs ⊢; exact hs
 | call _ _=>simp [opSem] at hs
 | dcall _ _=>simp [opSem] at hs
 | nilcmp _ _=>simp [opSem] at hs
theorem doOp_one {P : Program} {key : Key} {get : MO→PV} {hl : Key→Option HE} {i : MI} {K : Out→Prop} (hi : i.isNil=false) (hd : doOp P key get hl i K) : ∃ o,K o∧doOp P key get hl i fun o'=>o'=o:=by
 have hc : ∀ f args,doCall P key hl f args K→∃ o,K o∧doCall P key hl f args fun o'=>o'=o:=fun f args hd=>by
  rcases hd with ⟨r,h1,h2⟩ | ⟨e,xs,h1,h2⟩
  ·exact ⟨_,h2,.inl ⟨r,h1,rfl⟩⟩
  ·exact ⟨_,h2,.inr ⟨e,xs,h1,rfl⟩⟩
 unfold doOp at hd ⊢
 split at hd
 ·exact hc _ _ hd
 ·split at hd
  ·exact hc _ _ hd
  ·exact hd.elim
 ·cases hi
 ·split at hd
  ·exact ⟨_,hd,rfl⟩
  ·exact hd.elim
theorem doOp_congr {P : Program} {key : Key} {get get' : MO→PV} {hl hl' : Key→Option HE} {i : MI} {o : Out} (hi : i.isNil=false) (hd : doOp P key get hl i fun o'=>o'=o) (hg : ∀ m ∈ i.ops,get' m=get m) (hh : ∀ k : Key,k.1 ∈ o.rd→hl' k=hl k) :
 doOp P key get' hl' i fun o'=>o'=o:=by
 have hc : ∀ f args,doCall P key hl f args (fun o'=>o'=o)→doCall P key hl' f args fun o'=>o'=o:=fun f args hd=>by
  rcases hd with ⟨r,h1,h2⟩ | ⟨e,xs,h1,h2⟩
  ·have hk:=reifyL_congr (hl:=hl) (hl':=hl') args (fun k hk=>by subst h2; exact hh k (tags_mem hk))
   have hf:=freezeAll_congr (hl:=hl) (hl':=hl') (ks:=keysL hl args) (fun k hk=>by subst h2; exact hh k (tags_mem hk))
   have e4 : okL hl' args=okL hl args:=propext hk.2.1
   refine .inl ⟨r,by rw [hk.1]; exact h1,?_⟩
   unfold callOut at h2 ⊢
   rw [hk.2.2,hf,e4]; exact h2
  ·have hk:=reifyL_congr (hl:=hl) (hl':=hl') args (fun k hk=>by subst h2; exact hh k (tags_mem hk))
   have hf:=freezeAll_congr (hl:=hl) (hl':=hl') (ks:=keysL hl args) (fun k hk=>by subst h2; exact hh k (tags_mem hk))
   have e4 : okL hl' args=okL hl args:=propext hk.2.1
   refine .inr ⟨e,xs,by rw [hk.1]; exact h1,?_⟩
   unfold callOutO at h2 ⊢
   rw [hk.2.2,hf,e4]; exact h2
 unfold doOp at hd ⊢
 split at hd
 ·rename_i f args
  have e1 : args.map get'=args.map get:=List.map_congr_left fun m hm=>hg m (by simpa [MI.ops] using hm)
  simp only [e1]
  exact hc _ _ hd
 ·rename_i f args
  have e1 : args.map get'=args.map get:=List.map_congr_left fun m hm=>hg m (by simp [MI.ops,hm])
  have e2:=hg f (by simp [MI.ops])
  simp only [e1,e2]
  split at hd
  ·rename_i fid first caps hf
   exact hc _ _ hd
  ·exact hd.elim
 ·cases hi
 ·split at hd
  ·rename_i out hs
   subst hd
   simp only [opSem_congr hs hg hh]
  ·exact hd.elim
def StepTo (P : Program) (m : MOp) (v : Nat) (st : St) (o : Out) : Prop:=stepOp P m v st fun o' st'=>o'=o∧st'=st.put m.dst o
theorem skip_put (st : St) (d : Option Nat) : st.skip d=st.put d ⟨True,[],skipV,[]⟩:=by cases d <;> rfl
theorem stepOp_one {P : Program} {m : MOp} {v : Nat} {st : St} {K : Out→St→Prop} (hi : m.i.isNil=false) (hs : stepOp P m v st K) : ∃ o,K o (st.put m.dst o)∧StepTo P m v st o:=by
 unfold StepTo stepOp at *
 split at hs
 ·rename_i hg
  obtain ⟨o,⟨h1,h2⟩,h3⟩:=doOp_one hi hs
  exact ⟨o,h2,doOp_mono (fun o' ho=>by subst ho; exact ⟨h1,rfl,rfl⟩) h3⟩
 ·rename_i t want hg
  split at hs
  ·exact hs.elim
  ·rename_i gb hgb
   simp only [hgb]
   split at hs
   ·rename_i hsoft
    obtain ⟨o,⟨h1,h2,h3,h4⟩,h5⟩:=doOp_one hi hs
    exact ⟨_,h4,by rw [if_pos hsoft]; exact doOp_mono (fun o' ho=>by subst ho; exact ⟨h1,h2,h3,rfl,rfl⟩) h5⟩
   ·rename_i hsoft
    obtain ⟨h1,h2⟩:=hs
    cases gb with
    | true =>
      obtain ⟨o,⟨h3,h4⟩,h5⟩:=doOp_one hi (h1 rfl)
      exact ⟨o,h4,by rw [if_neg hsoft]; exact ⟨fun _=>doOp_mono (fun o' ho=>by subst ho; exact ⟨h3,rfl,rfl⟩) h5,fun h=>by cases h⟩⟩
    | false=>exact ⟨_,by rw [← skip_put]; exact h2 rfl,by rw [if_neg hsoft]; exact ⟨fun h=>(by cases h),fun _=>⟨rfl,skip_put _ _⟩⟩⟩
theorem optsOk_congr {gb : Bool} {get get' : MO→PV} : ∀ xs : List MO,(∀ m ∈ xs,get' m=get m)→optsOk gb get xs→optsOk gb get' xs
 | [],_,_=>trivial
 | x::xs,h,ho=>⟨by rw [h x (by simp)]; exact ho.1,optsOk_congr xs (fun m hm=>h m (by simp [hm])) ho.2⟩
theorem StepTo.congr {P : Program} {m : MOp} {v : Nat} {st st' : St} {o : Out} (hi : m.i.isNil=false) (hs : StepTo P m v st o) (hl : ∀ t ∈ m.looks,lk t st'.s=lk t st.s) (hh : ∀ k : Key,k.1 ∈ o.rd→hk k st'.h=hk k st.h) : StepTo P m v st' o:=by
 have hget : ∀ x ∈ m.i.ops,st'.get x=st.get x:=fun x hx=>by
  cases x with
  | t n=>exact hl n (List.mem_append_left _ (List.mem_filterMap.2 ⟨.t n,hx,rfl⟩))
  | k x=>rfl
 unfold StepTo stepOp at *
 split at hs
 ·rename_i hg
  obtain ⟨o1,⟨h1,h2,_⟩,h3⟩:=doOp_one hi hs
  subst h2
  exact doOp_mono (fun o' ho=>by subst ho; exact ⟨h1,rfl,rfl⟩) (doOp_congr hi h3 hget hh)
 ·rename_i t want hg
  have hlt : lk t st'.s=lk t st.s:=hl t (by simp [MOp.looks,hg])
  rw [hlt]
  split at hs
  ·exact hs.elim
  ·rename_i gb hgb
   simp only [hgb]
   split at hs
   ·rename_i hsoft
    rw [if_pos hsoft]
    obtain ⟨o1,⟨h1,h2,h3,h4,_⟩,h5⟩:=doOp_one hi hs
    subst h4
    refine doOp_mono (fun o' ho=>?_) (doOp_congr hi h5 (fun x hx=>by unfold softGet; rw [hget x hx]) hh)
    subst ho
    refine ⟨h1,?_,h3,rfl,rfl⟩
    unfold softOk at h2 ⊢
    split
    ·trivial
    ·rename_i hnp
     rw [if_neg hnp] at h2
     exact optsOk_congr _ hget h2
   ·rename_i hsoft
    rw [if_neg hsoft]
    obtain ⟨h1,h2⟩:=hs
    refine ⟨fun hb=>?_,fun hb=>?_⟩
    ·obtain ⟨o1,⟨h3,h4,_⟩,h5⟩:=doOp_one hi (h1 hb)
     subst h4
     exact doOp_mono (fun o' ho=>by subst ho; exact ⟨h3,rfl,rfl⟩) (doOp_congr hi h5 hget hh)
    ·obtain ⟨h3,h4⟩:=h2 hb
     exact ⟨h3,by rw [← h3]; exact skip_put _ _⟩
end Go.Proofs.YtbdogkmdanmojaaGreatDoor.Pv
namespace Go.Proofs.YtbdogkmdanmojaaGreatDoor.Pv
open Go Go.RowKit
theorem mask_spec (acc : Array Nat) (i : Nat) : ∀ (es : List Edge) (s : Nat),(es.foldl (fun s e=>if Region.binds .any e then s ||| 2 ^ e.on ||| acc.getD e.on 0 else s) s).testBit i=true →
 s.testBit i=true∨∃ e ∈ es,Region.binds .any e=true∧(e.on=i∨(acc.getD e.on 0).testBit i=true)
 | [],s,h=>.inl h
 | e::es,s,h=>by
   rw [List.foldl_cons] at h
   rcases mask_spec acc i es _ h with h | ⟨e',h1,h2⟩
   ·by_cases hb : Region.binds .any e=true
    ·rw [if_pos hb] at h
     simp only [Nat.testBit_or,Nat.testBit_two_pow,Bool.or_eq_true,decide_eq_true_eq] at h
     rcases h with (h | h) | h
     ·exact .inl h
     ·exact .inr ⟨e,by simp,hb,.inl h⟩
     ·exact .inr ⟨e,by simp,hb,.inr h⟩
    ·rw [if_neg hb] at h
     exact .inl h
   ·exact .inr ⟨e',by simp [h1],h2⟩
def BeforeOk (ops : Array Oper) (A : Array Nat) : Prop :=
 ∀ (k : Nat) (o : Oper),k < A.size→ops[k]? = some o→∀ i,(A.getD k 0).testBit i=true→∃ e ∈ o.after,Region.binds .any e=true∧(e.on=i∨(A.getD e.on 0).testBit i=true)
theorem before_fold (ops : Array Oper) : ∀ (l : List Oper) (A : Array Nat),BeforeOk ops A→l=ops.toList.drop A.size →
 BeforeOk ops (l.foldl (fun acc o=>acc.push (o.after.foldl (fun s e=>if Region.binds .any e then s ||| 2 ^ e.on ||| acc.getD e.on 0 else s) 0)) A)
 | [],A,h,_=>h
 | o::l,A,h,hl=>by
   rw [List.foldl_cons]
   have ho : ops[A.size]? = some o:=by
    have : (ops.toList.drop A.size)[0]? = some o:=by rw [← hl]; rfl
    rw [List.getElem?_drop] at this
    simpa using this
   refine before_fold ops l _ ?_ ?_
   ·intro k o' hk hko i hi
    have grow : ∀ x i,(A.getD x 0).testBit i=true→((A.push (o.after.foldl (fun s e=>if Region.binds .any e then s ||| 2 ^ e.on ||| A.getD e.on 0 else s) 0)).getD x 0).testBit i=true:=fun x i hx=>by
     have hlt : x < A.size:=by
      rcases Nat.lt_or_ge x A.size with h' | h'
      ·exact h'
      ·rw [Array.getD_eq_getD_getElem?,Array.getElem?_eq_none h'] at hx; simp at hx
     rw [Array.getD_eq_getD_getElem?,Array.getElem?_push_lt hlt]
     rw [Array.getD_eq_getD_getElem?,Array.getElem?_eq_getElem hlt] at hx
     simpa using hx
    rw [Array.size_push] at hk
    by_cases hlt : k < A.size
    ·have hi' : (A.getD k 0).testBit i=true:=by
        rw [Array.getD_eq_getD_getElem?,Array.getElem?_push_lt hlt] at hi
        rw [Array.getD_eq_getD_getElem?,Array.getElem?_eq_getElem hlt]
        simpa using hi
     obtain ⟨e,h1,h2,h3⟩:=h k o' hlt hko i hi'
     exact ⟨e,h1,h2,h3.imp id (grow _ _)⟩
    ·have hke : k=A.size:=by omega
     subst hke
     rw [ho] at hko
     cases hko
     rw [Array.getD_eq_getD_getElem?,Array.getElem?_push_size] at hi
     simp only [Option.getD_some] at hi
     rw [← Array.foldl_toList] at hi
     rcases mask_spec A i o.after.toList 0 hi with h0 | ⟨e,h1,h2,h3⟩
     ·simp at h0
     ·exact ⟨e,by simpa using h1,h2,h3.imp id (grow _ _)⟩
   ·rw [Array.size_push,← List.drop_drop,← hl]; rfl
theorem before_ok (ops : Array Oper) : BeforeOk ops (Region.before ops):=by
 unfold Region.before
 rw [← Array.foldl_toList]
 exact before_fold ops ops.toList #[] (fun k o hk=>by simp at hk) (by simp)
def Down (ops : Array Oper) (S : Nat→Bool) : Prop:=∀ (k : Nat) (o : Oper),ops[k]? = some o→S k=true→∀ e ∈ o.after,Region.binds .any e=true→S e.on=true
theorem down_before {ops : Array Oper} {S : Nat→Bool} (hd : Down ops S) (hlow : ∀ (k : Nat) (o : Oper),ops[k]? = some o→∀ e ∈ o.after,Region.binds .any e=true→e.on < k) (hsz : (Region.before ops).size=ops.size) :
 ∀ (k i : Nat),k < ops.size→((Region.before ops).getD k 0).testBit i=true→(∀ o,ops[k]? = some o→∀ e ∈ o.after,Region.binds .any e=true→S e.on=true)→S i=true:=by
 intro k
 induction k using Nat.strongRecOn with
 | _ k ih =>
   intro i hk hi hS
   have hok : ops[k]? = some ops[k]:=by simp [hk]
   obtain ⟨e,h1,h2,h3⟩:=before_ok ops k _ (by rw [hsz]; exact hk) hok i hi
   have hSe:=hS _ hok e h1 h2
   rcases h3 with rfl | h3
   ·exact hSe
   ·have hlt:=hlow k _ hok e h1 h2
    exact ih e.on hlt i (by omega) h3 (fun o ho e' h1' h2'=>hd e.on o ho hSe e' h1' h2')
def stS (S : Nat→Bool) : Nat→List (MOp × Out)→St→St
 | _,[],st=>st
 | i,(m,o)::l,st=>stS S (i+1) l (if S i then st.put m.dst o else st)
def putAll : List (MOp × Out)→St→St
 | [],st=>st
 | (m,o)::l,st=>putAll l (st.put m.dst o)
theorem lk_put (t : Nat) (st : St) (d : Option Nat) (o : Out) : lk t (st.put d o).s=if d=some t then o.r else lk t st.s:=by
 cases d with
 | none=>simp [St.put]
 | some d =>
   simp only [St.put,lk,Option.some.injEq]
   by_cases h : t=d
   ·subst h; simp
   ·rw [if_neg h,if_neg (fun x=>h x.symm)]
theorem hk_app_congr {k : Key} : ∀ (hu : List (Key × Option HE)) {h h' : List (Key × Option HE)},hk k h=hk k h'→hk k (hu++h)=hk k (hu++h')
 | [],_,_,e=>e
 | (j,x)::hu,h,h',e=>by
   simp only [List.cons_append,hk_cons]
   split
   ·rfl
   ·exact hk_app_congr hu e
theorem hk_app_notin {k : Key} : ∀ (hu : List (Key × Option HE)) {h : List (Key × Option HE)},k.1 ∉ tagsHu hu→hk k (hu++h)=hk k h
 | [],_,_=>rfl
 | (j,x)::hu,h,hn=>by
   simp only [tagsHu,List.map_cons,List.mem_cons,not_or] at hn
   simp only [List.cons_append,hk_cons]
   rw [if_neg (fun e=>hn.1 (by rw [e]))]
   exact hk_app_notin hu hn.2
theorem lkS_congr {S S' : Nat→Bool} {t : Nat} : ∀ (l : List (MOp × Out)) (i : Nat) (st st' : St),(∀ n m o,l[n]? = some (m,o)→m.dst=some t→S (i+n)=S' (i+n))→lk t st.s=lk t st'.s→lk t (stS S i l st).s=lk t (stS S' i l st').s
 | [],_,_,_,_,h=>h
 | (m,o)::l,i,st,st',hS,h=>by
   refine lkS_congr l (i+1) _ _ (fun n m' o' hn hm=>?_) ?_
   ·have:=hS (n+1) m' o' (by simpa using hn) hm
    rwa [show i+(n+1)=i+1+n by omega] at this
   ·by_cases hm : m.dst=some t
    ·have:=hS 0 m o (by simp) hm
     simp only [Nat.add_zero] at this
     rw [this]
     split
     ·rw [lk_put,lk_put,if_pos hm,if_pos hm]
     ·exact h
    ·have e1 : ∀ (b : Bool) (st : St),lk t (if b then st.put m.dst o else st).s=lk t st.s:=fun b st=>by
        cases b
        ·rfl
        ·simp only [if_true]; rw [lk_put,if_neg hm]
     rw [e1,e1]; exact h
theorem hkS_congr {S S' : Nat→Bool} {k : Key} : ∀ (l : List (MOp × Out)) (i : Nat) (st st' : St),(∀ n m o,l[n]? = some (m,o)→k.1 ∈ tagsHu o.hu→S (i+n)=S' (i+n))→hk k st.h=hk k st'.h→hk k (stS S i l st).h=hk k (stS S' i l st').h
 | [],_,_,_,_,h=>h
 | (m,o)::l,i,st,st',hS,h=>by
   refine hkS_congr l (i+1) _ _ (fun n m' o' hn hm=>?_) ?_
   ·have:=hS (n+1) m' o' (by simpa using hn) hm
    rwa [show i+(n+1)=i+1+n by omega] at this
   ·by_cases hm : k.1 ∈ tagsHu o.hu
    ·have:=hS 0 m o (by simp) hm
     simp only [Nat.add_zero] at this
     rw [this]
     split
     ·exact hk_app_congr o.hu h
     ·exact h
    ·have e1 : ∀ (b : Bool) (st : St),hk k (if b then st.put m.dst o else st).h=hk k st.h:=fun b st=>by
        cases b
        ·rfl
        ·simp only [if_true]; exact hk_app_notin o.hu hm
     rw [e1,e1]; exact h
theorem lkS_last {S : Nat→Bool} {t : Nat} {m : MOp} {o : Out} : ∀ (l : List (MOp × Out)) (i n : Nat) (st : St),l[n]? = some (m,o)→m.dst=some t→S (i+n)=true→(∀ n' m' o',l[n']? = some (m',o')→m'.dst=some t→n'=n)→lk t (stS S i l st).s=o.r
 | [],_,n,_,hn,_,_,_=>by simp at hn
 | (m1,o1)::l,i,0,st,hn,hm,hS,hu=>by
   simp only [List.getElem?_cons_zero,Option.some.injEq,Prod.mk.injEq] at hn
   obtain ⟨rfl,rfl⟩:=hn
   simp only [Nat.add_zero] at hS
   simp only [stS,hS,if_true]
   have:=lkS_congr (S:=S) (S':=fun _=>false) (t:=t) l (i+1) (st.put m1.dst o1) (st.put m1.dst o1) (fun n m' o' hn' hm'=>by have:=hu (n+1) m' o' (by simpa using hn') hm'; omega) rfl
   rw [this]
   have hf : ∀ (l : List (MOp × Out)) (i : Nat) (st : St),stS (fun _=>false) i l st=st:=by
    intro l
    induction l with
    | nil=>intro i st; rfl
    | cons x l ih=>intro i st; obtain ⟨a,b⟩:=x; exact ih _ _
   rw [hf,lk_put,if_pos hm]
 | (m1,o1)::l,i,n+1,st,hn,hm,hS,hu=>by
   exact lkS_last l (i+1) n _ (by simpa using hn) hm (by rw [show i+1+n=i+(n+1) by omega]; exact hS) (fun n' m' o' hn' hm'=>by have:=hu (n'+1) m' o' (by simpa using hn') hm'; omega)
theorem stS_false {S : Nat→Bool} : ∀ (l : List (MOp × Out)) (i : Nat) (st : St),(∀ n,i≤n→S n=false)→stS S i l st=st
 | [],_,_,_=>rfl
 | (m,o)::l,i,st,h=>by
   simp only [stS,h i (Nat.le_refl _),Bool.false_eq_true,if_false]
   exact stS_false l (i+1) st (fun n hn=>h n (by omega))
theorem hkS_none {S : Nat→Bool} {k : Key} : ∀ (l : List (MOp × Out)) (i : Nat) (st : St),(∀ n m o,l[n]? = some (m,o)→S (i+n)=true→k.1 ∉ tagsHu o.hu)→hk k (stS S i l st).h=hk k st.h
 | [],_,_,_=>rfl
 | (m,o)::l,i,st,h=>by
   simp only [stS]
   rw [hkS_none l (i+1) _ (fun n m' o' hn hS=>h (n+1) m' o' (by simpa using hn) (by rw [show i+(n+1)=i+1+n by omega]; exact hS))]
   split
   ·rename_i hS
    exact hk_app_notin o.hu (h 0 m o (by simp) (by simpa using hS))
   ·rfl
theorem hkS_last {S S' : Nat→Bool} {k : Key} {m : MOp} {o : Out} : ∀ (l : List (MOp × Out)) (i n : Nat) (st : St),l[n]? = some (m,o)→S (i+n)=true→S' (i+n)=false→(∀ x,x ≠ i+n→S x=S' x) →
 (∀ n' m' o',n < n'→l[n']? = some (m',o')→S (i+n')=true→k.1 ∉ tagsHu o'.hu)→hk k (stS S i l st).h=hk k (o.hu++(stS S' i l st).h)
 | [],_,n,_,hn,_,_,_,_=>by simp at hn
 | (m1,o1)::l,i,0,st,hn,hS,hS',he,hu=>by
   simp only [List.getElem?_cons_zero,Option.some.injEq,Prod.mk.injEq] at hn
   obtain ⟨rfl,rfl⟩:=hn
   simp only [Nat.add_zero] at hS hS' he
   simp only [stS,hS,hS',if_true,Bool.false_eq_true,if_false]
   rw [hkS_none l (i+1) _ (fun n m' o' hn hS1=>hu (n+1) m' o' (by omega) (by simpa using hn) (by rw [show i+(n+1)=i+1+n by omega]; exact hS1))]
   refine (hk_app_congr o1.hu ?_).symm
   exact hkS_none l (i+1) _ (fun n m' o' hn hS1=>hu (n+1) m' o' (by omega) (by simpa using hn) (by rw [he _ (by omega),show i+(n+1)=i+1+n by omega]; exact hS1))
 | (m1,o1)::l,i,n+1,st,hn,hS,hS',he,hu=>by
   simp only [stS]
   rw [he i (by omega)]
   exact hkS_last l (i+1) n _ (by simpa using hn) (by rw [show i+1+n=i+(n+1) by omega]; exact hS) (by rw [show i+1+n=i+(n+1) by omega]; exact hS') (fun x hx=>he x (by omega))
    (fun n' m' o' hlt hn' hS1=>hu (n'+1) m' o' (by omega) (by simpa using hn') (by rw [show i+(n'+1)=i+1+n' by omega]; exact hS1))
theorem stS_lt : ∀ (l : List (MOp × Out)) (i j : Nat) (st : St),stS (fun n=>decide (n < i+j)) i l st=putAll (l.take j) st
 | [],i,j,st=>by simp [stS,putAll]
 | (m,o)::l,i,0,st=>by
   rw [stS_false _ _ _ (fun n hn=>by simp; omega)]
   simp [putAll]
 | (m,o)::l,i,j+1,st=>by
   have:=stS_lt l (i+1) j (st.put m.dst o)
   simp only [stS,List.take_succ_cons,putAll]
   rw [if_pos (by simp)]
   rw [← this]
   congr 1
   funext n
   rw [show i+1+j=i+(j+1) by omega]
theorem stS_all {S : Nat→Bool} : ∀ (l : List (MOp × Out)) (i : Nat) (st : St),(∀ n,n < l.length→S (i+n)=true)→stS S i l st=putAll l st
 | [],_,_,_=>rfl
 | (m,o)::l,i,st,h=>by
   have h0:=h 0 (by simp)
   simp only [Nat.add_zero] at h0
   simp only [stS,h0,if_true,putAll]
   exact stS_all l (i+1) _ (fun n hn=>by have:=h (n+1) (by simpa using hn); rwa [show i+(n+1)=i+1+n by omega] at this)
theorem runD_chain {P : Program} {un : List (Nat × Nat)} {v : Nat} {K : St→Prop} : ∀ (ms : List MOp) (acc : List (List Nat × List Nat)) (st : St),runD P un v ms acc st K →
 (∀ m ∈ ms,m.i.isNil=false)∧∃ os : List Out,os.length=ms.length∧okPairs un (acc++os.map fun o=>(o.rd,tagsHu o.hu))=true∧K (putAll (ms.zip os) st) ∧
  ∀ n m o,(ms.zip os)[n]? = some (m,o)→StepTo P m v (putAll ((ms.zip os).take n) st) o
 | [],acc,st,h=>⟨by simp,[],rfl,by simpa using h.1,h.2,by simp⟩
 | m::ms,acc,st,h=>by
   obtain ⟨h0,h1⟩:=h
   have hi : m.i.isNil=false:=by cases hm : m.i <;> first | rfl | (rw [hm] at h0; exact h0.elim)
   obtain ⟨o,h2,h3⟩:=stepOp_one hi h1
   obtain ⟨g0,os,g1,g2,g3,g4⟩:=runD_chain ms _ _ h2
   refine ⟨fun x hx=>?_,o::os,by simp [g1],by simpa using g2,g3,fun n m' o' hn=>?_⟩
   ·rcases List.mem_cons.1 hx with rfl | hx
    ·exact hi
    ·exact g0 x hx
   ·match n with
    | 0=>simp at hn; obtain ⟨rfl,rfl⟩:=hn; exact h3
    | n+1=>simpa [putAll] using g4 n m' o' (by simpa using hn)
end Go.Proofs.YtbdogkmdanmojaaGreatDoor.Pv
namespace Go.Proofs.YtbdogkmdanmojaaGreatDoor.Pv
open Go Go.RowKit
theorem toOps_get {P : Program} {nt : Nat} {ops : Array Oper} {soft : Bool} : ∀ (l : List Oper) (ms : List MOp),toOps P nt ops soft l=some ms→ms.length=l.length∧∀ (n : Nat) (o : Oper),l[n]? = some o→∃ m,ms[n]? = some m∧toOp P nt ops soft o=some m
 | [],ms,h=>by simp [toOps] at h; subst h; simp
 | o::l,ms,h=>by
   simp only [toOps] at h
   split at h
   ·rename_i m ms' h1 h2
    cases h
    obtain ⟨g1,g2⟩:=toOps_get l ms' h2
    refine ⟨by simp [g1],fun n o' hn=>?_⟩
    match n with
    | 0=>simp at hn; subst hn; exact ⟨m,rfl,h1⟩
    | n+1=>exact g2 n o' (by simpa using hn)
   ·cases h
theorem dst_unique : ∀ (ms : List MOp),nodupB (ms.filterMap (·.dst))=true→∀ (i j : Nat) (x y : MOp) (d : Nat),ms[i]? = some x→ms[j]? = some y→x.dst=some d→y.dst=some d→i=j
 | [],_,i,j,x,y,d,hi,_,_,_=>by simp at hi
 | m::ms,h,i,j,x,y,d,hi,hj,hx,hy=>by
   have hr : nodupB (ms.filterMap (·.dst))=true∧∀ d,m.dst=some d→d ∉ ms.filterMap (·.dst):=by
    cases hm : m.dst with
    | none=>rw [List.filterMap_cons,hm] at h; exact ⟨h,fun d hd=>by cases hd⟩
    | some d' =>
      rw [List.filterMap_cons,hm] at h
      simp only [nodupB,Bool.and_eq_true,Bool.not_eq_true',List.contains_eq_mem,decide_eq_false_iff_not] at h
      exact ⟨h.2,fun d hd=>by cases hd; exact h.1⟩
   match i,j with
   | 0,0=>rfl
   | 0,j+1 =>
     simp at hi hj
     subst hi
     exact absurd (List.mem_filterMap.2 ⟨y,List.mem_of_getElem? hj,hy⟩) (hr.2 d hx)
   | i+1,0 =>
     simp at hi hj
     subst hj
     exact absurd (List.mem_filterMap.2 ⟨x,List.mem_of_getElem? hi,hx⟩) (hr.2 d hy)
   | i+1,j+1=>rw [dst_unique ms hr.1 i j x y d (by simpa using hi) (by simpa using hj) hx hy]
theorem unordered_mem (ops : Array Oper) {i j : Nat} (hij : i < j) (hj : j < ops.size) (hb : ((Region.before ops).getD j 0).testBit i=false) : (i,j) ∈ unordered ops:=by
 unfold unordered
 simp only [List.mem_flatMap,List.mem_range,List.mem_filterMap]
 exact ⟨j,hj,i,hij,by simp only [hb,Bool.false_eq_true,if_false]⟩
def cnt (S : Nat→Bool) : Nat→Nat
 | 0=>0
 | n+1=>cnt S n+(if S n then 0 else 1)
theorem cnt_congr {S S' : Nat→Bool} : ∀ n,(∀ x,x < n→S x=S' x)→cnt S n=cnt S' n
 | 0,_=>rfl
 | n+1,h=>by simp only [cnt]; rw [cnt_congr n (fun x hx=>h x (by omega)),h n (by omega)]
theorem cnt_set {S S' : Nat→Bool} {i : Nat} (h0 : S i=false) (h1 : S' i=true) (he : ∀ x,x ≠ i→S' x=S x) : ∀ n,i < n→cnt S n=cnt S' n+1
 | 0,h=>by omega
 | n+1,h=>by
   simp only [cnt]
   by_cases hn : n=i
   ·subst hn
    rw [cnt_congr n (fun x hx=>(he x (by omega)).symm),h0,h1]; simp
   ·rw [cnt_set h0 h1 he n (by omega),he n hn]; omega
theorem cnt_zero {S : Nat→Bool} : ∀ n,cnt S n=0→∀ i,i < n→S i=true
 | 0,_,i,hi=>by omega
 | n+1,h,i,hi=>by
   simp only [cnt] at h
   by_cases hn : i=n
   ·subst hn
    cases hS : S i with
    | true=>rfl
    | false=>rw [hS] at h; simp at h
   ·exact cnt_zero n (by omega) i (by omega)
section
variable {E : Env} {st st' : St} {c : Ctx} {a : Act} {w : World}
theorem Good.look (hg : Good E st c a w) (hl : ∀ t,lk t st'.s=lk t st.s) (hh : ∀ k,hk k st'.h=hk k st.h) : Good E st' c a w :=
 ⟨hg.defers,hg.size,fun t v hv=>by rw [hl]; exact hg.slot t v hv,fun k e he=>hg.heap k e (by rw [← hh]; exact he),fun k e ad he=>hg.fresh k e ad (by rw [← hh]; exact he),
  fun k k' e e' ad ad' he he'=>hg.apart k k' e e' ad ad' (by rw [← hh]; exact he) (by rw [← hh]; exact he'),hg.fz,hg.le,hg.bnd,hg.below,hg.ghost⟩
theorem Good.drew (hg : Good E st c a w) : Good E st c a w.drew :=
 ⟨hg.defers,hg.size,fun t v hv=>RepV.mono _ _ (mono_drew w) (Ctx.Le.refl c) (hg.slot t v hv),fun k e he=>(hg.heap k e he).mono (mono_drew w) (Ctx.Le.refl c) (fun _ _=>Iff.rfl) (fun _ _=>rfl),hg.fresh,hg.apart,hg.fz,hg.le,hg.bnd,hg.below.drew,fun p hp=>RepV.mono _ _ (mono_drew w) (Ctx.Le.refl c) (hg.ghost p hp)⟩
theorem getD_lt {A : Array Bool} {i : Nat} (h : i < A.size) (x y : Bool) : A.getD i x=A.getD i y:=by
 simp [Array.getD_eq_getD_getElem?,h]
theorem draw_inv {ops : Array Oper} {soft : Bool} {ms : List MOp} (hops : toOps E.P E.nt ops soft ops.toList=some ms) (hok : drawOk ops ms=true) {v B : Nat} (hvB : v < B) {os : List Out} (hlen : os.length=ms.length) (hnil : ∀ m ∈ ms,m.i.isNil=false)
 (hpairs : okPairs (unordered ops) (os.map fun o=>(o.rd,tagsHu o.hu))=true) {st0 : St} (hstep : ∀ n m o,(ms.zip os)[n]? = some (m,o)→StepTo E.P m v (putAll ((ms.zip os).take n) st0) o)
 {Q : Exit→Act→World→Prop} (hQ : ∀ c a w,Good E (putAll (ms.zip os) st0) c a w→(∀ k : Key,c.U k→k.2≤v∨B≤k.2)→Q .normal a w) :
 ∀ (fuel : Nat) (listed : Array Bool) (a : Act) (w : World),listed.size=ops.size→Down ops (fun i=>listed.getD i false)→cnt (fun i=>listed.getD i false) ops.size≤fuel →
   (∃ c,Good E (stS (fun i=>listed.getD i false) 0 (ms.zip os) st0) c a w∧∀ k : Key,c.U k→k.2 < v∨B≤k.2∨(k.2=v∧∃ i m,listed.getD i false=true∧ms[i]? = some m∧m.dst=some k.1)) →
   wpAny E.P .any ops Q fuel listed a w:=by
 obtain ⟨hml,hmg⟩:=toOps_get _ _ hops
 have hsz : ms.length=ops.size:=by simpa using hml
 have hzl : (ms.zip os).length=ops.size:=by rw [List.length_zip,hlen,Nat.min_self,hsz]
 simp only [drawOk,Bool.and_eq_true] at hok
 obtain ⟨⟨⟨k1,k2⟩,k3⟩,k4⟩:=hok
 have hlow : ∀ (k : Nat) (o : Oper),ops[k]? = some o→∀ e ∈ o.after,Region.binds .any e=true→e.on < k:=fun k o ho e he hb=>by
  have:=List.all_eq_true.1 k1 (o,k) (by rw [List.mem_zipIdx_iff_getElem?]; simpa using ho)
  have:=Array.all_eq_true_iff_forall_mem.1 this e he
  simpa [hb] using this
 have hbsz : (Region.before ops).size=ops.size:=by
  unfold Region.before
  have : ∀ (l : List Oper) (A : Array Nat),(l.foldl (fun acc o=>acc.push (o.after.foldl (fun s e=>if Region.binds .any e then s ||| 2 ^ e.on ||| acc.getD e.on 0 else s) 0)) A).size=A.size+l.length:=by
   intro l
   induction l with
   | nil=>intro A; simp
   | cons x l ih=>intro A; rw [List.foldl_cons,ih]; simp; omega
  rw [← Array.foldl_toList,this]; simp
 have hap : ∀ p ∈ unordered ops,∀ x y,ms[p.1]? = some x→ms[p.2]? = some y→apartM x y=true:=fun p hp x y hx hy=>by
  have:=List.all_eq_true.1 k2 p hp
  simpa only [hx,hy] using this
 have htag : ∀ n m o,(ms.zip os)[n]? = some (m,o)→ms[n]? = some m∧(os.map fun o=>(o.rd,tagsHu o.hu)).getD n ([],[])=(o.rd,tagsHu o.hu):=fun n m o hn=>by
  rw [List.getElem?_zip_eq_some] at hn
  exact ⟨hn.1,by simp [List.getD,hn.2]⟩
 have hpp : ∀ p ∈ unordered ops,∀ m o m' o',(ms.zip os)[p.1]? = some (m,o)→(ms.zip os)[p.2]? = some (m',o')→apartL (tagsHu o.hu) o'.rd=true∧apartL (tagsHu o.hu) (tagsHu o'.hu)=true∧apartL o.rd (tagsHu o'.hu)=true:=fun p hp m o m' o' h1 h2=>by
  have:=List.all_eq_true.1 hpairs p hp
  simp only [(htag _ _ _ h1).2,(htag _ _ _ h2).2,Bool.and_eq_true] at this
  exact ⟨this.1.1,this.1.2,this.2⟩
 have hapl : ∀ {x y : List Nat} {t : Nat},apartL x y=true→t ∈ x→t ∉ y:=fun {x y t} h hx hy=>by
  have:=List.all_eq_true.1 h t hx
  simp [hy] at this
 have alldone : ∀ (listed : Array Bool) (a : Act) (w : World),(∀ i,i < ops.size→listed.getD i false=true)→(∃ c,Good E (stS (fun i=>listed.getD i false) 0 (ms.zip os) st0) c a w∧∀ k : Key,c.U k→k.2≤v∨B≤k.2)→Q .normal a w:=fun listed a w hS ⟨c,hg,hU⟩=>by
  rw [stS_all _ _ _ (fun n hn=>by rw [hzl] at hn; simpa using hS n hn)] at hg
  exact hQ c a w hg hU
 have weak : ∀ {c : Ctx} {L : Key→Prop},(∀ k : Key,c.U k→k.2 < v∨B≤k.2∨(k.2=v∧L k))→∀ k : Key,c.U k→k.2≤v∨B≤k.2:=fun {c L} h k hk=>by
  rcases h k hk with h | h | ⟨h,_⟩
  ·exact .inl (Nat.le_of_lt h)
  ·exact .inr h
  ·exact .inl (Nat.le_of_eq h)
 intro fuel
 induction fuel with
 | zero =>
   intro listed a w hls hd hc ⟨c,hg,hU⟩
   have hS:=cnt_zero (S:=fun i=>listed.getD i false) ops.size (by omega)
   refine ⟨?_,alldone listed a w hS ⟨c,hg,weak hU⟩⟩
   refine List.eq_nil_iff_forall_not_mem.2 fun j hj=>?_
   obtain ⟨h0,o,ho,_⟩:=mem_ready.1 hj
   have hlt : j < ops.size:=(Array.getElem?_eq_some_iff.1 ho).1
   rw [getD_lt (by rw [hls]; exact hlt) true false,hS j hlt] at h0
   cases h0
 | succ fuel ih =>
   intro listed a w hls hd hc ⟨c,hg,hU⟩
   refine ⟨fun hr=>alldone listed a w (fun i hi=>?_) ⟨c,hg,weak hU⟩,fun i hi=>?_⟩
   ·
     induction i using Nat.strongRecOn with
     | _ i ihi =>
       cases hS : listed.getD i false with
       | true=>rfl
       | false =>
         exfalso
         have hin : i ∈ Region.ready .any ops listed:=mem_ready.2 ⟨by rw [getD_lt (by rw [hls]; exact hi) true false]; exact hS,ops[i],by simp [hi],fun e he hb=>by
          have hlt:=hlow i ops[i] (by simp [hi]) e he hb
          exact ihi e.on hlt (by omega)⟩
         rw [hr] at hin
         simp at hin
   ·
     obtain ⟨h0,o,ho,hedges⟩:=mem_ready.1 hi
     have hlt : i < ops.size:=(Array.getElem?_eq_some_iff.1 ho).1
     have hSi : listed.getD i false=false:=by rw [getD_lt (by rw [hls]; exact hlt) false true]; exact h0
     obtain ⟨m,hm,hto⟩:=hmg i o (by simpa using ho)
     obtain ⟨out,hout⟩ : ∃ out,(ms.zip os)[i]? = some (m,out):=by
      have : i < os.length:=by rw [hlen,hsz]; exact hlt
      exact ⟨os[i],by rw [List.getElem?_zip_eq_some]; exact ⟨hm,by simp [this]⟩⟩
     have rel : ∀ n,n < ops.size→n ≠ i→listed.getD n false=decide (n < i)∨(n < i∧(n,i) ∈ unordered ops)∨(i < n∧(i,n) ∈ unordered ops):=fun n hn hne=>by
      by_cases hni : n < i
      ·cases hb : ((Region.before ops).getD i 0).testBit n with
       | false=>exact .inr (.inl ⟨hni,unordered_mem ops hni hlt hb⟩)
       | true =>
         left
         have:=down_before (S:=fun i=>listed.getD i false) hd hlow hbsz i n hlt hb (fun o' ho' e he hbe=>by rw [ho] at ho'; cases ho'; exact hedges e he hbe)
         rw [this]; simp [hni]
      ·have hin : i < n:=by omega
       cases hb : ((Region.before ops).getD n 0).testBit i with
       | false=>exact .inr (.inr ⟨hin,unordered_mem ops hin hn hb⟩)
       | true =>
         left
         cases hSn : listed.getD n false with
         | false=>simp; omega
         | true =>
           have:=down_before (S:=fun i=>listed.getD i false) hd hlow hbsz n i hn hb (fun o' ho' e he hbe=>hd n o' ho' hSn e he hbe)
           rw [hSi] at this
           cases this
     have nlt : ∀ {n : Nat} {x : MOp × Out},(ms.zip os)[n]? = some x→n < ops.size:=fun {n x} hn=>by rw [← hzl]; exact (List.getElem?_eq_some_iff.1 hn).1
     have hst : StepTo E.P m v (stS (fun i=>listed.getD i false) 0 (ms.zip os) st0) out:=by
      have h1:=hstep i m out hout
      rw [← stS_lt _ 0 i] at h1
      simp only [Nat.zero_add] at h1
      refine StepTo.congr (hnil m (List.mem_of_getElem? hm)) h1 (fun t ht=>?_) (fun k hk=>?_)
      ·refine lkS_congr _ _ _ _ (fun n m' o' hn hm'=>?_) rfl
       simp only [Nat.zero_add]
       by_cases hne : n=i
       ·subst hne; rw [hSi]; simp
       ·rcases rel n (nlt hn) hne with hr | ⟨_,hr⟩ | ⟨_,hr⟩
        ·exact hr
        ·have:=hap _ hr m' m (htag _ _ _ hn).1 hm
         simp only [apartM,hm',Bool.and_eq_true,Bool.not_eq_true',List.contains_eq_mem,decide_eq_false_iff_not] at this
         exact absurd ht this.1
        ·have:=hap _ hr m m' hm (htag _ _ _ hn).1
         simp only [apartM,hm',Bool.and_eq_true,Bool.not_eq_true',List.contains_eq_mem,decide_eq_false_iff_not] at this
         exact absurd ht this.2
      ·refine hkS_congr _ _ _ _ (fun n m' o' hn hm'=>?_) rfl
       simp only [Nat.zero_add]
       by_cases hne : n=i
       ·subst hne; rw [hSi]; simp
       ·rcases rel n (nlt hn) hne with hr | ⟨_,hr⟩ | ⟨_,hr⟩
        ·exact hr
        ·exact absurd hk (hapl (hpp _ hr m' o' m out hn hout).1 hm')
        ·exact absurd hm' (hapl (hpp _ hr m out m' o' hout hn).2.2 hk)
     have hset : ∀ x,x ≠ i→(listed.setIfInBounds i true).getD x false=listed.getD x false:=fun x hx=>getD_set_ne false (Ne.symm hx)
     have hseti : (listed.setIfInBounds i true).getD i false=true:=by simp [Array.getD_eq_getD_getElem?,hls,hlt]
     have hlook : ∀ {c' : Ctx} {a' : Act} {w' : World},Good E ((stS (fun i=>listed.getD i false) 0 (ms.zip os) st0).put m.dst out) c' a' w'→Good E (stS (fun j=>(listed.setIfInBounds i true).getD j false) 0 (ms.zip os) st0) c' a' w':=fun {c' a' w'} hg'=>by
      refine hg'.look (fun t=>?_) (fun k=>?_)
      ·rw [lk_put]
       split
       ·rename_i hd'
        exact lkS_last _ 0 i _ hout hd' (by simpa using hseti) (fun n' m' o' hn' hm'=>dst_unique ms k3 _ _ _ _ t (htag _ _ _ hn').1 hm hm' hd')
       ·rename_i hd'
        refine lkS_congr _ _ _ _ (fun n m' o' hn hm'=>?_) rfl
        simp only [Nat.zero_add]
        exact hset n (fun e=>by subst e; rw [hout] at hn; cases hn; exact hd' hm')
      ·show _=hk k (out.hu++(stS (fun i=>listed.getD i false) 0 (ms.zip os) st0).h)
       by_cases hk' : k.1 ∈ tagsHu out.hu
       ·refine hkS_last _ 0 i _ hout (by simpa using hseti) (by simpa using hSi) (fun x hx=>hset x (by simpa using hx)) (fun n' m' o' hlt' hn' hS'=>?_)
        simp only [Nat.zero_add] at hS'
        rw [hset n' (by omega)] at hS'
        rcases rel n' (nlt hn') (by omega) with hr | ⟨hr,_⟩ | ⟨_,hr⟩
        ·rw [hS'] at hr
         have : n' < i:=by simpa using hr.symm
         omega
        ·omega
        ·exact hapl (hpp _ hr m out m' o' hout hn').2.1 hk'
       ·rw [hk_app_notin _ hk']
        refine hkS_congr _ _ _ _ (fun n m' o' hn hm'=>?_) rfl
        simp only [Nat.zero_add]
        exact hset n (fun e=>by subst e; rw [hout] at hn; cases hn; exact hk' hm')
     have hnext : ∀ {c' : Ctx} {a' : Act} {w' : World},Good E ((stS (fun i=>listed.getD i false) 0 (ms.zip os) st0).put m.dst out) c' a' w'→(∀ k : Key,c'.U k→c.U k∨(k.2=v∧m.dst=some k.1)∨B≤k.2)→wpAny E.P .any ops Q fuel (listed.setIfInBounds i true) a' w':=fun {c' a' w'} hg' hU'=>by
      refine ih _ _ _ (by simpa using hls) (fun k o' ho' hSk e he hb=>?_) ?_ ⟨c',hlook hg',fun k hk=>?_⟩
      ·by_cases hki : k=i
       ·subst hki
        rw [ho] at ho'; cases ho'
        exact getD_set_true (hedges e he hb)
       ·simp only at hSk ⊢
        rw [hset k hki] at hSk
        exact getD_set_true (hd k o' ho' hSk e he hb)
      ·have:=cnt_set (S:=fun j=>listed.getD j false) (S':=fun j=>(listed.setIfInBounds i true).getD j false) hSi hseti hset ops.size hlt
       omega
      ·rcases hU' k hk with h1 | ⟨h0,h1⟩ | h1
       ·rcases hU k h1 with h2 | h2 | ⟨h2,j,m',g1,g2,g3⟩
        ·exact .inl h2
        ·exact .inr (.inl h2)
        ·exact .inr (.inr ⟨h2,j,m',getD_set_true g1,g2,g3⟩)
       ·exact .inr (.inr ⟨h0,i,m,hseti,hm,h1⟩)
       ·exact .inr (.inl h1)
     have hboth : ∃ v',(∀ k : Key,k=(m.dst.getD 0,v')→(k.2=v∧m.dst=some k.1)∨B≤k.2)∧¬ c.U (m.dst.getD 0,v')∧StepTo E.P m v' (stS (fun i=>listed.getD i false) 0 (ms.zip os) st0) out:=by
      cases hal : m.i.allocs with
      | false =>
        obtain ⟨N,hN⟩:=hg.bnd
        refine ⟨max N B,fun k hke=>?_,fun hu=>?_,?_⟩
        ·subst hke
         exact .inr (Nat.le_max_right N B)
        ·have:=hN _ hu
         have:=Nat.le_max_left N B
         simp only at *
         omega
        ·unfold StepTo at *
         rw [stepOp_key (v':=v) hal]; exact hst
      | true =>
        have hdst:=List.all_eq_true.1 k4 m (List.mem_of_getElem? hm)
        simp only [hal,Bool.not_true,Bool.false_or] at hdst
        obtain ⟨d,hd'⟩:=Option.isSome_iff_exists.1 hdst
        refine ⟨v,fun k hke=>.inl (by rw [hke,hd']; exact ⟨rfl,rfl⟩),fun hu=>?_,hst⟩
        obtain ⟨_,j,m',g1,g2,g3⟩ : v=v∧∃ i m_1,listed.getD i false=true∧ms[i]? = some m_1∧m_1.dst=some (m.dst.getD 0):=by
         rcases hU _ hu with h2 | h2 | h2
         ·exact absurd h2 (Nat.lt_irrefl _)
         ·exact absurd h2 (by simp only; omega)
         ·exact h2
        rw [hd'] at g3
        have:=dst_unique ms k3 j i m' m d g2 hm g3 hd'
        subst this
        rw [hSi] at g1
        cases g1
     obtain ⟨v',hv1,hv2,hv3⟩:=hboth
     obtain ⟨s1,s2⟩:=step_sound hg hto hv2 hv3
     unfold wpOp
     simp only [ho]
     split
     ·rename_i hw
      refine .inl (Runs.wp ((s1 hw).mono ?_))
      rintro u w' ⟨o',st',c',⟨rfl,rfl⟩,hg',hU'⟩
      exact hnext hg' (fun k hk=>(hU' k hk).imp id (hv1 k))
     ·rename_i hw
      obtain ⟨o',st',c',⟨rfl,rfl⟩,hg',hU'⟩:=s2 (by simpa using hw)
      exact hnext hg' (fun k hk=>(hU' k hk).imp id (hv1 k))
theorem draw_at (hmix : E.P.follows .mixedOrders=true) {id : Nat} {ops : Array Oper} {soft : Bool} {ms : List MOp} (hops : toOps E.P E.nt ops soft ops.toList=some ms) (hok : drawOk ops ms=true) {K : St→Prop} {v B : Nat} (hvB : v < B)
 (hk : runD E.P (unordered ops) v ms [] st K) (hg : Good E st c a w) (hU : ∀ k : Key,c.U k→k.2 < v∨B≤k.2) {Q : Exit→Act→World→Prop} (hQ : ∀ st c a w,K st→Good E st c a w→(∀ k : Key,c.U k→k.2≤v∨B≤k.2)→Q .normal a w) : (Code.region id ops true).wp E.P Q a w:=by
 obtain ⟨hnil,os,hlen,hp,hK,hstep⟩:=runD_chain ms [] st hk
 refine wp_region_any hmix ?_
 refine draw_inv hops hok hvB hlen hnil (by simpa using hp) hstep (fun c a w hg hU=>hQ _ c a w hK hg hU) ops.size _ a _ (by simp) (fun k o ho hS=>?_) ?_ ⟨c,?_,fun k hu=>?_⟩
 ·simp [Array.getD_eq_getD_getElem?] at hS
  have:=hS
  rw [Array.getElem?_replicate] at this
  split at this <;> simp at this
 ·have : ∀ n,cnt (fun i=>(Array.replicate ops.size false).getD i false) n≤n:=by
     intro n
     induction n with
     | zero=>simp [cnt]
     | succ n ih=>simp only [cnt]; split <;> omega
  exact this _
 ·rw [stS_false _ _ _ (fun n _=>by simp [Array.getD_eq_getD_getElem?,Array.getElem?_replicate]; split <;> rfl)]
  exact hg.drew
 ·exact (hU k hu).imp (fun h=>h) .inl
theorem draw_sound (hmix : E.P.follows .mixedOrders=true) {id : Nat} {ops : Array Oper} {soft : Bool} {ms : List MOp} (hops : toOps E.P E.nt ops soft ops.toList=some ms) (hok : drawOk ops ms=true) {K : St→Prop}
 (hk : ∀ v,E.V≤v→runD E.P (unordered ops) v ms [] st K) (hr : Rel E st a w) {Q : Exit→Act→World→Prop} (hQ : ∀ st a w,K st→Rel E st a w→Q .normal a w) : (Code.region id ops true).wp E.P Q a w:=by
 obtain ⟨c,hg⟩:=hr
 obtain ⟨N0,hN0⟩:=hg.bnd
 obtain ⟨N,hVN,hN⟩ : ∃ N,E.V≤N∧∀ k,c.U k→k.2 < N:=⟨max N0 E.V,Nat.le_max_right _ _,fun k hk=>Nat.lt_of_lt_of_le (hN0 k hk) (Nat.le_max_left _ _)⟩
 exact draw_at hmix hops hok (Nat.lt_succ_self N) (hk N hVN) hg (fun k hu=>.inl (hN k hu)) (fun st c a w hk hg _=>hQ st a w hk ⟨c,hg⟩)
end
end Go.Proofs.YtbdogkmdanmojaaGreatDoor.Pv
namespace Go.Proofs.YtbdogkmdanmojaaGreatDoor.Pv
open Go
inductive KF where
 | sq (b : MC)
 | bk (id : Nat)
def contF (E : Env) : List KF→(Ex→St→Prop)→Ex→St→Prop
 | [],Q=>Q
 | .sq b::ks,Q=>fun e st=>match e with | .normal=>exec E b st (contF E ks Q) | .exit i=>contF E ks Q (.exit i) st | .goto l=>contF E ks Q (.goto l) st | .ret=>contF E ks Q .ret st
 | .bk id::ks,Q=>fun e st=>match e with | .exit j=>if j=id then contF E ks Q .normal st else contF E ks Q (.exit j) st | .normal=>contF E ks Q .normal st | .goto l=>contF E ks Q (.goto l) st | .ret=>contF E ks Q .ret st
def XC (E : Env) (m : MC) (st : St) (ks : List KF) (Q : Ex→St→Prop) : Prop:=exec E m st (contF E ks Q)
def XR (E : Env) (ms : List MOp) (st : St) (ks : List KF) (Q : Ex→St→Prop) : Prop:=run E ms st (contF E ks Q .normal)
def XE (E : Env) (e : Ex) (st : St) (ks : List KF) (Q : Ex→St→Prop) : Prop:=contF E ks Q e st
def XLoop (E : Env) (m : MC) (st : St) (ks : List KF) (Q : Ex→St→Prop) : Prop:=Goes E m st (contF E ks Q)
def XCut (E : Env) (m : MC) (st : St) (ks : List KF) (Q : Ex→St→Prop) : Prop:=Goes E m st (contF E ks Q)
def XCond (E : Env) (c : PV) (a b : MC) (st : St) (ks : List KF) (Q : Ex→St→Prop) : Prop :=
 match c with
 | .bool x=>(x=true→XC E a st ks Q)∧(x=false→XC E b st ks Q)
 | _=>False
def XOp (E : Env) (o : Option Out) (d : Option Nat) (ms : List MOp) (st : St) (ks : List KF) (Q : Ex→St→Prop) : Prop :=
 match o with
 | some o=>o.pre∧XR E ms (st.put d o) ks Q
 | none=>False
def XCall (E : Env) (f : FuncId) (args : List PV) (d : Option Nat) (ms : List MOp) (st : St) (ks : List KF) (Q : Ex→St→Prop) : Prop :=
 (∀ v,E.V≤v→doCall E.P (d.getD 0,v) (fun k=>hk k st.h) f args fun o=>o.pre∧XR E ms (st.put d o) ks Q)∨InlCall E f args d st fun st'=>XR E ms st' ks Q
def XDyn (E : Env) (f : PV) (args : List PV) (d : Option Nat) (ms : List MOp) (st : St) (ks : List KF) (Q : Ex→St→Prop) : Prop :=
 match f with
 | .fn fid first caps=>XCall E fid (first++args++caps) d ms st ks Q
 | _=>False
def XNil (E : Env) (x : PV) (ne : Bool) (d : Option Nat) (ms : List MOp) (st : St) (ks : List KF) (Q : Ex→St→Prop) : Prop :=
 match x with
 | .vec _ _ xs=>∀ b : Bool,(b=true→xs=[])→XR E ms (st.put d ⟨True,[],.bool (b != ne),[]⟩) ks Q
 | .own _ _ _ len _=>∀ b : Bool,(b=true→len=0)→XR E ms (st.put d ⟨True,[],.bool (b != ne),[]⟩) ks Q
 | _=>False
def XGuard (E : Env) (g : Option Bool) (m : MOp) (ms : List MOp) (st : St) (ks : List KF) (Q : Ex→St→Prop) : Prop :=
 match g with
 | none=>False
 | some gb=>(gb=true→XR E ({ m with g:=none }::ms) st ks Q)∧(gb=false→XR E ms (st.skip m.dst) ks Q)
def XSoft (E : Env) (g : Option Bool) (o : Option Out) (m : MOp) (ms : List MOp) (st : St) (ks : List KF) (Q : Ex→St→Prop) : Prop :=
 match g,o with
 | some gb,some o=>(gb=true→o.pre)∧softOk gb st.get m.i∧o.hu=[]∧XR E ms (st.put m.dst ⟨True,o.rd,.opt gb o.r,[]⟩) ks Q
 | _,_=>False
def XD (E : Env) (un : List (Nat × Nat)) (v : Nat) (acc : List (List Nat × List Nat)) (ms : List MOp) (st : St) (ks : List KF) (Q : Ex→St→Prop) : Prop:=runD E.P un v ms acc st (contF E ks Q .normal)
def XDOp (E : Env) (un : List (Nat × Nat)) (v : Nat) (acc : List (List Nat × List Nat)) (o : Option Out) (d : Option Nat) (ms : List MOp) (st : St) (ks : List KF) (Q : Ex→St→Prop) : Prop :=
 match o with
 | some o=>o.pre∧XD E un v (acc++[(o.rd,tagsHu o.hu)]) ms (st.put d o) ks Q
 | none=>False
def XDCall (E : Env) (un : List (Nat × Nat)) (v : Nat) (acc : List (List Nat × List Nat)) (f : FuncId) (args : List PV) (d : Option Nat) (ms : List MOp) (st : St) (ks : List KF) (Q : Ex→St→Prop) : Prop :=
 doCall E.P (d.getD 0,v) (fun k=>hk k st.h) f args fun o=>o.pre∧XD E un v (acc++[(o.rd,tagsHu o.hu)]) ms (st.put d o) ks Q
def XDDyn (E : Env) (un : List (Nat × Nat)) (v : Nat) (acc : List (List Nat × List Nat)) (f : PV) (args : List PV) (d : Option Nat) (ms : List MOp) (st : St) (ks : List KF) (Q : Ex→St→Prop) : Prop :=
 match f with
 | .fn fid first caps=>XDCall E un v acc fid (first++args++caps) d ms st ks Q
 | _=>False
def XDGuard (E : Env) (un : List (Nat × Nat)) (v : Nat) (acc : List (List Nat × List Nat)) (g : Option Bool) (m : MOp) (ms : List MOp) (st : St) (ks : List KF) (Q : Ex→St→Prop) : Prop :=
 match g with
 | none=>False
 | some gb=>(gb=true→XD E un v acc ({ m with g:=none }::ms) st ks Q)∧(gb=false→XD E un v (acc++[([],[])]) ms (st.skip m.dst) ks Q)
def XDSoft (E : Env) (un : List (Nat × Nat)) (v : Nat) (acc : List (List Nat × List Nat)) (g : Option Bool) (o : Option Out) (m : MOp) (ms : List MOp) (st : St) (ks : List KF) (Q : Ex→St→Prop) : Prop :=
 match g,o with
 | some gb,some o=>(gb=true→o.pre)∧softOk gb st.get m.i∧o.hu=[]∧XD E un v (acc++[(o.rd,[])]) ms (st.put m.dst ⟨True,o.rd,.opt gb o.r,[]⟩) ks Q
 | _,_=>False
theorem Inl_no {E : Env} {m : MOp} {st : St} {K : St→Prop} (h : m.i.allocs=false) : Inl E m st K=False:=by
 unfold Inl
 split
 ·rename_i hi; rw [hi] at h; cases h
 ·rename_i hi; rw [hi] at h; cases h
 ·rfl
section
variable {E : Env} {st : St} {ks : List KF} {Q : Ex→St→Prop}
theorem XC_skip : XC E .skip st ks Q=XE E .normal st ks Q:=propext Iff.rfl
theorem XC_reg {ms : List MOp} : XC E (.reg ms) st ks Q=XR E ms st ks Q:=propext Iff.rfl
theorem XC_seq {a b : MC} : XC E (.seq a b) st ks Q=XC E a st (.sq b::ks) Q:=by
 show exec E a st _=exec E a st _
 congr 1
theorem XC_cond {c : MO} {a b : MC} : XC E (.cond c a b) st ks Q=XCond E (st.get c) a b st ks Q:=by
 show exec E (.cond c a b) st _=_
 unfold exec XCond XC
 rfl
theorem XC_block {id : Nat} {a : MC} : XC E (.block id a) st ks Q=XC E a st (.bk id::ks) Q:=by
 show exec E a st _=exec E a st _
 congr 1
theorem XC_loop {a : MC} : XC E (.loop a) st ks Q=XLoop E (.loop a) st ks Q:=propext Iff.rfl
theorem XC_scope {a : MC} : XC E (.scope a) st ks Q=XLoop E (.scope a) st ks Q:=propext Iff.rfl
theorem XC_exit {id : Nat} : XC E (.exit id) st ks Q=XE E (.exit id) st ks Q:=propext Iff.rfl
theorem XC_goto {id : Nat} : XC E (.goto id) st ks Q=XE E (.goto id) st ks Q:=propext Iff.rfl
theorem XC_label {id : Nat} : XC E (.label id) st ks Q=XE E .normal st ks Q:=propext Iff.rfl
theorem XC_cut {a : MC} : XC E (.cut a) st ks Q=XCut E a st ks Q:=propext Iff.rfl
theorem XC_ret : XC E .ret st ks Q=XE E .ret st ks Q:=propext Iff.rfl
theorem XE_nil {e : Ex} : XE E e st [] Q=Q e st:=propext Iff.rfl
theorem XE_sq {b : MC} : XE E .normal st (.sq b::ks) Q=XC E b st ks Q:=propext Iff.rfl
theorem XE_sq_exit {b : MC} {id : Nat} : XE E (.exit id) st (.sq b::ks) Q=XE E (.exit id) st ks Q:=propext Iff.rfl
theorem XE_sq_goto {b : MC} {id : Nat} : XE E (.goto id) st (.sq b::ks) Q=XE E (.goto id) st ks Q:=propext Iff.rfl
theorem XE_sq_ret {b : MC} : XE E .ret st (.sq b::ks) Q=XE E .ret st ks Q:=propext Iff.rfl
theorem XE_bk {id : Nat} : XE E .normal st (.bk id::ks) Q=XE E .normal st ks Q:=propext Iff.rfl
theorem XE_bk_exit {id j : Nat} : XE E (.exit j) st (.bk id::ks) Q=if j=id then XE E .normal st ks Q else XE E (.exit j) st ks Q:=propext Iff.rfl
theorem XE_bk_goto {id j : Nat} : XE E (.goto j) st (.bk id::ks) Q=XE E (.goto j) st ks Q:=propext Iff.rfl
theorem XE_bk_ret {id : Nat} : XE E .ret st (.bk id::ks) Q=XE E .ret st ks Q:=propext Iff.rfl
theorem XCond_bool {x : Bool} {a b : MC} : XCond E (.bool x) a b st ks Q=((x=true→XC E a st ks Q)∧(x=false→XC E b st ks Q)):=propext Iff.rfl
theorem XR_nil : XR E [] st ks Q=XE E .normal st ks Q:=propext Iff.rfl
theorem XOp_some {p : Prop} {rd : List Nat} {r : PV} {hu : List (Key × Option HE)} {d : Nat} {ms : List MOp} {s : List (Nat × PV)} {h : List (Key × Option HE)} :
 XOp E (some ⟨p,rd,r,hu⟩) (some d) ms ⟨s,h⟩ ks Q=(p∧XR E ms ⟨(d,r)::s,hu++h⟩ ks Q):=propext Iff.rfl
theorem XOp_none {p : Prop} {rd : List Nat} {r : PV} {hu : List (Key × Option HE)} {ms : List MOp} {s : List (Nat × PV)} {h : List (Key × Option HE)} :
 XOp E (some ⟨p,rd,r,hu⟩) none ms ⟨s,h⟩ ks Q=(p∧XR E ms ⟨s,hu++h⟩ ks Q):=propext Iff.rfl
theorem XR_op {d : Option Nat} {i : MI} {b : Bool} {ms : List MOp} (h : match i with | .alloc _ | .box _ | .bslice _ _ _ _ | .app _ _ _ | .mksl _ _ _ _ | .appz _ _ _ _ | .s2b _ | .call _ _ | .dcall _ _ | .nilcmp _ _=>False | _=>True) :
 XR E (⟨d,i,none,b⟩::ms) st ks Q=XOp E (opSem (d.getD 0,0) st.get (fun k=>hk k st.h) i) d ms st ks Q:=by
 cases i <;> first | exact h.elim | (simp only [XR,run,MI.allocs,stepOp,doOp,XOp,Inl,or_false]; rfl)
theorem XR_alloc {d : Option Nat} {i : MI} {b : Bool} {ms : List MOp} (h : match i with | .alloc _ | .box _ | .bslice _ _ _ _ | .app _ _ _ | .mksl _ _ _ _ | .appz _ _ _ _ | .s2b _=>True | _=>False) :
 XR E (⟨d,i,none,b⟩::ms) st ks Q=∀ v,E.V≤v→XOp E (opSem (d.getD 0,v) st.get (fun k=>hk k st.h) i) d ms st ks Q:=by
 cases i <;> first | exact h.elim | (simp only [XR,run,MI.allocs,stepOp,doOp,XOp,Inl,or_false]; rfl)
theorem XR_call {d : Option Nat} {f : FuncId} {args : List MO} {b : Bool} {ms : List MOp} :
 XR E (⟨d,.call f args,none,b⟩::ms) st ks Q=XCall E f (args.map st.get) d ms st ks Q:=by
 simp only [XR,run,MI.allocs,stepOp,doOp,XCall,Inl,InlG]; rfl
theorem XR_dcall {d : Option Nat} {f : MO} {args : List MO} {b : Bool} {ms : List MOp} :
 XR E (⟨d,.dcall f args,none,b⟩::ms) st ks Q=XDyn E (st.get f) (args.map st.get) d ms st ks Q:=by
 simp only [XR,run,MI.allocs,stepOp,doOp,XDyn,if_true,Inl,InlG]
 cases st.get f <;> simp <;> first | rfl | exact ⟨E.V,Nat.le_refl _⟩
theorem XR_nilcmp {d : Option Nat} {ne : Bool} {x : MO} {b : Bool} {ms : List MOp} :
 XR E (⟨d,.nilcmp ne x,none,b⟩::ms) st ks Q=XNil E (st.get x) ne d ms st ks Q:=by
 simp only [XR,run,MI.allocs,stepOp,doOp,XNil,Inl,or_false]
 cases st.get x <;> simp <;> rfl
theorem XR_guard0 {d : Option Nat} {i : MI} {t : Nat} {want : Bool} {ms : List MOp} (h : i.allocs=false) :
 XR E (⟨d,i,some (t,want),false⟩::ms) st ks Q=XGuard E (guardC (lk t st.s) want) ⟨d,i,none,false⟩ ms st ks Q:=by
 simp only [XR,run,h,stepOp,XGuard,Inl_no (m:=⟨d,i,some (t,want),false⟩) h,Inl_no (m:=⟨d,i,none,false⟩) h,or_false]
 cases guardC (lk t st.s) want <;> simp
theorem XR_guard {d : Option Nat} {i : MI} {t : Nat} {want : Bool} {ms : List MOp} :
 XR E (⟨d,i,some (t,want),false⟩::ms) st ks Q=XGuard E (guardC (lk t st.s) want) ⟨d,i,none,false⟩ ms st ks Q:=by
 cases h : i.allocs with
 | false=>exact XR_guard0 h
 | true =>
   have hv : ∃ v,E.V≤v:=⟨E.V,Nat.le_refl _⟩
   obtain ⟨v0,hv0⟩:=hv
   apply propext
   cases hg : guardC (lk t st.s) want with
   | none =>
     simp only [XGuard,iff_false]
     simp only [XR,run,h,if_true,stepOp,hg]
     rintro (h1 | h1)
     ·exact h1 v0 hv0
     ·cases i <;> first | (cases h; done) | exact h1.elim | skip
      ·simp only [Inl,InlG,hg] at h1
      ·rename_i f args
       simp only [Inl] at h1
       cases hf : st.get f <;> simp only [hf,InlG,hg] at h1
   | some gb =>
     simp only [XGuard]
     cases gb with
     | true =>
       simp only [true_implies,reduceCtorEq,false_implies,and_true,Bool.true_eq_false]
       simp only [XR,run,h,if_true,stepOp,hg,Bool.false_eq_true,if_false,true_implies,false_implies,and_true,reduceCtorEq,Bool.true_eq_false]
       refine or_congr Iff.rfl ?_
       cases i <;> first | (cases h; done) | exact Iff.rfl | skip
       ·simp only [Inl,InlG,hg]
       ·rename_i f args
        simp only [Inl]
        cases hf : st.get f <;> simp only [InlG,hg]
     | false =>
       simp only [Bool.false_eq_true,false_implies,true_and,true_implies,reduceCtorEq]
       simp only [XR,run,h,if_true,stepOp,hg,Bool.false_eq_true,if_false,true_implies,false_implies,true_and,reduceCtorEq]
       constructor
       ·rintro (h1 | h1)
        ·exact h1 v0 hv0
        ·cases i <;> first | (cases h; done) | exact h1.elim | skip
         ·simpa only [Inl,InlG,hg] using h1
         ·rename_i f args
          simp only [Inl] at h1
          cases hf : st.get f <;> simp only [hf,InlG,hg] at h1
          exact h1
       ·intro h1
        exact .inl fun v _=>h1
theorem XR_soft {d : Option Nat} {i : MI} {t : Nat} {want : Bool} {ms : List MOp} (h : match i with | .alloc _ | .box _ | .bslice _ _ _ _ | .app _ _ _ | .mksl _ _ _ _ | .appz _ _ _ _ | .s2b _ | .call _ _ | .dcall _ _ | .nilcmp _ _=>False | _=>True) :
 XR E (⟨d,i,some (t,want),true⟩::ms) st ks Q=XSoft E (guardC (lk t st.s) want) (opSem (d.getD 0,0) (softGet i st.get) (fun k=>hk k st.h) i) ⟨d,i,none,true⟩ ms st ks Q:=by
 have ha : i.allocs=false:=by cases i <;> first | exact h.elim | rfl
 simp only [XR,run,ha,stepOp,XSoft,Inl_no (m:=⟨d,i,some (t,want),true⟩) ha,or_false]
 cases guardC (lk t st.s) want with
 | none=>simp
 | some gb =>
   cases i <;> first | exact h.elim | (simp only [doOp]; generalize opSem _ _ _ _=o; cases o <;> simp)
variable {un : List (Nat × Nat)} {v : Nat} {acc : List (List Nat × List Nat)}
theorem XC_draw {ms : List MOp} : XC E (.draw un ms) st ks Q=∀ v,E.V≤v→XD E un v [] ms st ks Q:=propext Iff.rfl
theorem XD_nil : XD E un v acc [] st ks Q=(okPairs un acc=true∧XE E .normal st ks Q):=propext Iff.rfl
theorem XDOp_some {p : Prop} {rd : List Nat} {r : PV} {hu : List (Key × Option HE)} {d : Nat} {ms : List MOp} {s : List (Nat × PV)} {h : List (Key × Option HE)} :
 XDOp E un v acc (some ⟨p,rd,r,hu⟩) (some d) ms ⟨s,h⟩ ks Q=(p∧XD E un v (acc++[(rd,tagsHu hu)]) ms ⟨(d,r)::s,hu++h⟩ ks Q):=propext Iff.rfl
theorem XDOp_none {p : Prop} {rd : List Nat} {r : PV} {hu : List (Key × Option HE)} {ms : List MOp} {s : List (Nat × PV)} {h : List (Key × Option HE)} :
 XDOp E un v acc (some ⟨p,rd,r,hu⟩) none ms ⟨s,h⟩ ks Q=(p∧XD E un v (acc++[(rd,tagsHu hu)]) ms ⟨s,hu++h⟩ ks Q):=propext Iff.rfl
theorem XD_op {d : Option Nat} {i : MI} {b : Bool} {ms : List MOp} (h : match i with | .call _ _ | .dcall _ _ | .nilcmp _ _=>False | _=>True) :
 XD E un v acc (⟨d,i,none,b⟩::ms) st ks Q=XDOp E un v acc (opSem (d.getD 0,v) st.get (fun k=>hk k st.h) i) d ms st ks Q:=by
 cases i <;> first | exact h.elim | (simp only [XD,runD,stepOp,doOp,XDOp,true_and]; rfl)
theorem XD_call {d : Option Nat} {f : FuncId} {args : List MO} {b : Bool} {ms : List MOp} :
 XD E un v acc (⟨d,.call f args,none,b⟩::ms) st ks Q=XDCall E un v acc f (args.map st.get) d ms st ks Q:=by
 simp only [XD,runD,stepOp,doOp,XDCall,true_and]
theorem XD_dcall {d : Option Nat} {f : MO} {args : List MO} {b : Bool} {ms : List MOp} :
 XD E un v acc (⟨d,.dcall f args,none,b⟩::ms) st ks Q=XDDyn E un v acc (st.get f) (args.map st.get) d ms st ks Q:=by
 simp only [XD,runD,stepOp,doOp,XDDyn,true_and]
 cases st.get f <;> simp <;> rfl
theorem XD_guard {d : Option Nat} {i : MI} {t : Nat} {want : Bool} {ms : List MOp} (h : match i with | .nilcmp _ _=>False | _=>True) :
 XD E un v acc (⟨d,i,some (t,want),false⟩::ms) st ks Q=XDGuard E un v acc (guardC (lk t st.s) want) ⟨d,i,none,false⟩ ms st ks Q:=by
 simp only [XD,runD,stepOp,XDGuard]
 cases i <;> first | exact h.elim | (cases guardC (lk t st.s) want <;> simp [tagsHu])
theorem XD_soft {d : Option Nat} {i : MI} {t : Nat} {want : Bool} {ms : List MOp} (h : match i with | .alloc _ | .box _ | .bslice _ _ _ _ | .app _ _ _ | .mksl _ _ _ _ | .appz _ _ _ _ | .s2b _ | .call _ _ | .dcall _ _ | .nilcmp _ _=>False | _=>True) :
 XD E un v acc (⟨d,i,some (t,want),true⟩::ms) st ks Q=XDSoft E un v acc (guardC (lk t st.s) want) (opSem (d.getD 0,v) (softGet i st.get) (fun k=>hk k st.h) i) ⟨d,i,none,true⟩ ms st ks Q:=by
 simp only [XD,runD,stepOp,XDSoft]
 cases guardC (lk t st.s) want with
 | none=>simp
 | some gb =>
   cases i <;> first | exact h.elim | (simp only [doOp]; generalize opSem _ _ _ _=o; cases o <;> simp [tagsHu])
end
section
variable {E : Env} {st st' : St} {ks : List KF} {Q : Ex→St→Prop} {un : List (Nat × Nat)} {v : Nat} {acc : List (List Nat × List Nat)}
@[congr] theorem XC_congr {m : MC} (h : st=st') : XC E m st ks Q=XC E m st' ks Q:=by rw [h]
@[congr] theorem XR_congr {ms : List MOp} (h : st=st') : XR E ms st ks Q=XR E ms st' ks Q:=by rw [h]
@[congr] theorem XE_congr {e : Ex} (h : st=st') : XE E e st ks Q=XE E e st' ks Q:=by rw [h]
@[congr] theorem XLoop_congr {m : MC} (h : st=st') : XLoop E m st ks Q=XLoop E m st' ks Q:=by rw [h]
@[congr] theorem XCut_congr {m : MC} (h : st=st') : XCut E m st ks Q=XCut E m st' ks Q:=by rw [h]
@[congr] theorem XCond_congr {c c' : PV} {a b : MC} (hc : c=c') (h : st=st') : XCond E c a b st ks Q=XCond E c' a b st' ks Q:=by rw [hc,h]
@[congr] theorem XOp_congr {o o' : Option Out} {d : Option Nat} {ms : List MOp} (ho : o=o') (h : st=st') : XOp E o d ms st ks Q=XOp E o' d ms st' ks Q:=by rw [ho,h]
@[congr] theorem XCall_congr {f : FuncId} {args args' : List PV} {d : Option Nat} {ms : List MOp} (ho : args=args') (h : st=st') : XCall E f args d ms st ks Q=XCall E f args' d ms st' ks Q:=by rw [ho,h]
@[congr] theorem XDyn_congr {f f' : PV} {args args' : List PV} {d : Option Nat} {ms : List MOp} (hf : f=f') (ho : args=args') (h : st=st') : XDyn E f args d ms st ks Q=XDyn E f' args' d ms st' ks Q:=by rw [ho,h,hf]
@[congr] theorem XNil_congr {x x' : PV} {ne : Bool} {d : Option Nat} {ms : List MOp} (ho : x=x') (h : st=st') : XNil E x ne d ms st ks Q=XNil E x' ne d ms st' ks Q:=by rw [ho,h]
@[congr] theorem XGuard_congr {g g' : Option Bool} {m : MOp} {ms : List MOp} (ho : g=g') (h : st=st') : XGuard E g m ms st ks Q=XGuard E g' m ms st' ks Q:=by rw [ho,h]
@[congr] theorem XSoft_congr {g g' : Option Bool} {o o' : Option Out} {m : MOp} {ms : List MOp} (hg : g=g') (ho : o=o') (h : st=st') : XSoft E g o m ms st ks Q=XSoft E g' o' m ms st' ks Q:=by rw [hg,ho,h]
@[congr] theorem XD_congr {ms : List MOp} {acc' : List (List Nat × List Nat)} (ha : acc=acc') (h : st=st') : XD E un v acc ms st ks Q=XD E un v acc' ms st' ks Q:=by rw [h,ha]
@[congr] theorem XDOp_congr {o o' : Option Out} {d : Option Nat} {ms : List MOp} {acc' : List (List Nat × List Nat)} (ha : acc=acc') (ho : o=o') (h : st=st') : XDOp E un v acc o d ms st ks Q=XDOp E un v acc' o' d ms st' ks Q:=by rw [ho,h,ha]
@[congr] theorem XDCall_congr {f : FuncId} {args args' : List PV} {d : Option Nat} {ms : List MOp} {acc' : List (List Nat × List Nat)} (ha : acc=acc') (ho : args=args') (h : st=st') : XDCall E un v acc f args d ms st ks Q=XDCall E un v acc' f args' d ms st' ks Q:=by rw [ho,h,ha]
@[congr] theorem XDDyn_congr {f f' : PV} {args args' : List PV} {d : Option Nat} {ms : List MOp} {acc' : List (List Nat × List Nat)} (ha : acc=acc') (hf : f=f') (ho : args=args') (h : st=st') : XDDyn E un v acc f args d ms st ks Q=XDDyn E un v acc' f' args' d ms st' ks Q:=by rw [ho,h,hf,ha]
@[congr] theorem XDGuard_congr {g g' : Option Bool} {m : MOp} {ms : List MOp} {acc' : List (List Nat × List Nat)} (ha : acc=acc') (ho : g=g') (h : st=st') : XDGuard E un v acc g m ms st ks Q=XDGuard E un v acc' g' m ms st' ks Q:=by rw [ho,h,ha]
@[congr] theorem XDSoft_congr {g g' : Option Bool} {o o' : Option Out} {m : MOp} {ms : List MOp} {acc' : List (List Nat × List Nat)} (ha : acc=acc') (hg : g=g') (ho : o=o') (h : st=st') : XDSoft E un v acc g o m ms st ks Q=XDSoft E un v acc' g' o' m ms st' ks Q:=by rw [hg,ho,h,ha]
end
end Go.Proofs.YtbdogkmdanmojaaGreatDoor.Pv
namespace Go.Proofs.YtbdogkmdanmojaaGreatDoor.Pv
open Go Go.RowKit
def endQ (E : Env) (Q : Ex→St→Prop) : Exit→Act→World→Prop:=fun e a' w'=>∃ ex st',e=Ex.to ex∧Q ex st'∧Rel E st' a' w'
theorem exec_sound {E : Env} (hmix : E.P.follows .mixedOrders=true) : ∀ (c : Code) (m : MC) (st : St) (a : Act) (w : World) (Q : Ex→St→Prop),toMC E.P E.nt c=some m.erase→Rel E st a w→exec E m st Q→c.wp E.P (endQ E Q) a w:=by
 intro c
 induction c with
 | skip =>
   intro m st a w Q hm hr hx
   cases m with
   | skip=>exact wp_skip ⟨.normal,st,rfl,hx,hr⟩
   | cut x=>exact hx _ hm a w hr
   | _=>simp [toMC,MC.erase] at hm
 | region id ops d =>
   intro m st a w Q hm hr hx
   have hm0:=hm
   simp only [toMC] at hm
   split at hm
   ·rename_i ms hops
    cases d with
    | true =>
      simp only [if_true] at hm
      split at hm
      ·rename_i hok
       cases m with
       | draw un ms' =>
         simp only [MC.erase,Option.some.injEq,MC.draw.injEq] at hm
         obtain ⟨rfl,rfl⟩:=hm
         exact draw_sound hmix hops hok hx hr (fun st a w hk hr=>⟨.normal,st,rfl,hk,hr⟩)
       | cut x=>exact hx _ hm0 a w hr
       | _=>simp [MC.erase] at hm
      ·cases hm
    | false =>
      simp only [Bool.false_eq_true,if_false] at hm
      cases m with
      | reg ms' =>
        simp only [MC.erase,Option.some.injEq,MC.reg.injEq] at hm
        subst hm
        exact wp_region_list (run_sound (fun st a w hk hr=>⟨.normal,st,rfl,hk,hr⟩) _ _ st a w hops hr hx)
      | cut x=>exact hx _ hm0 a w hr
      | _=>simp [MC.erase] at hm
   ·cases hm
 | seq x y ihx ihy =>
   intro m st a w Q hm hr hx
   have hm0:=hm
   simp only [toMC] at hm
   split at hm
   ·rename_i mx my h1 h2
    cases m with
    | seq nx ny =>
      simp only [MC.erase,Option.some.injEq,MC.seq.injEq] at hm
      obtain ⟨rfl,rfl⟩:=hm
      refine wp_seq (wp_mono (ihx nx st a w _ h1 hr hx) ?_)
      rintro e a' w' ⟨ex,st',rfl,hq,hr'⟩
      cases ex with
      | normal=>exact ihy ny st' a' w' Q h2 hr' hq
      | exit i=>exact ⟨.exit i,st',rfl,hq,hr'⟩
      | goto l=>exact ⟨.goto l,st',rfl,hq,hr'⟩
      | ret=>exact ⟨.ret,st',rfl,hq,hr'⟩
    | cut x=>exact hx _ hm0 a w hr
    | _=>simp [MC.erase] at hm
   ·cases hm
 | cond c x y ihx ihy =>
   intro m st a w Q hm hr hx
   have hm0:=hm
   simp only [toMC] at hm
   split at hm
   ·rename_i mc mx my h0 h1 h2
    cases m with
    | cond nc nx ny =>
      simp only [MC.erase,Option.some.injEq,MC.cond.injEq] at hm
      obtain ⟨rfl,rfl,rfl⟩:=hm
      obtain ⟨cx,hg⟩:=hr
      have hc:=hg.get h0
      unfold exec at hx
      split at hx
      ·rename_i b hb
       rw [hb] at hc
       exact wp_cond_split hc (fun ht=>ihx nx st a w Q h1 ⟨cx,hg⟩ (hx.1 ht)) (fun hf=>ihy ny st a w Q h2 ⟨cx,hg⟩ (hx.2 hf))
      ·exact hx.elim
    | cut x=>exact hx _ hm0 a w hr
    | _=>simp [MC.erase] at hm
   ·cases hm
 | block id x ih =>
   intro m st a w Q hm hr hx
   have hm0:=hm
   simp only [toMC,Option.map_eq_some_iff] at hm
   obtain ⟨mx,h1,hm⟩:=hm
   cases m with
   | block id' nx =>
     simp only [MC.erase,MC.block.injEq] at hm
     obtain ⟨rfl,rfl⟩:=hm
     refine wp_block (wp_mono (ih nx st a w _ h1 hr hx) ?_)
     rintro e a' w' ⟨ex,st',rfl,hq,hr'⟩
     cases ex with
     | normal=>exact ⟨.normal,st',rfl,hq,hr'⟩
     | exit i =>
       simp only [Ex.to,Exit.inBlock]
       simp only at hq
       split
       ·rename_i h; rw [if_pos h] at hq; exact ⟨.normal,st',rfl,hq,hr'⟩
       ·rename_i h; rw [if_neg h] at hq; exact ⟨.exit i,st',rfl,hq,hr'⟩
     | goto l=>exact ⟨.goto l,st',rfl,hq,hr'⟩
     | ret=>exact ⟨.ret,st',rfl,hq,hr'⟩
   | cut x=>exact hx _ hm0 a w hr
   | _=>simp [MC.erase] at hm
 | loop x ih =>
   intro m st a w Q hm hr hx
   have hm0:=hm
   simp only [toMC,Option.map_eq_some_iff] at hm
   obtain ⟨mx,h1,hm⟩:=hm
   cases m with
   | loop nx=>exact hx _ hm0 a w hr
   | cut x=>exact hx _ hm0 a w hr
   | _=>simp [MC.erase] at hm
 | scope x ih =>
   intro m st a w Q hm hr hx
   have hm0:=hm
   simp only [toMC,Option.map_eq_some_iff] at hm
   obtain ⟨mx,h1,hm⟩:=hm
   cases m with
   | scope nx=>exact hx _ hm0 a w hr
   | cut x=>exact hx _ hm0 a w hr
   | _=>simp [MC.erase] at hm
 | exit id =>
   intro m st a w Q hm hr hx
   cases m with
   | exit id' =>
     simp only [toMC,MC.erase,Option.some.injEq,MC.exit.injEq] at hm
     subst hm
     exact wp_exit ⟨.exit id,st,rfl,hx,hr⟩
   | cut x=>exact hx _ hm a w hr
   | _=>simp [toMC,MC.erase] at hm
 | ret =>
   intro m st a w Q hm hr hx
   cases m with
   | ret=>exact wp_ret ⟨.ret,st,rfl,hx,hr⟩
   | cut x=>exact hx _ hm a w hr
   | _=>simp [toMC,MC.erase] at hm
 | label l =>
   intro m st a w Q hm hr hx
   cases m with
   | label l' =>
     simp only [toMC,MC.erase,Option.some.injEq,MC.label.injEq] at hm
     subst hm
     exact wp_label ⟨.normal,st,rfl,hx,hr⟩
   | cut x=>exact hx _ hm a w hr
   | _=>simp [toMC,MC.erase] at hm
 | goto l =>
   intro m st a w Q hm hr hx
   cases m with
   | goto l' =>
     simp only [toMC,MC.erase,Option.some.injEq,MC.goto.injEq] at hm
     subst hm
     exact wp_goto ⟨.goto l,st,rfl,hx,hr⟩
   | cut x=>exact hx _ hm a w hr
   | _=>simp [toMC,MC.erase] at hm
 | _ =>
   intro m st a w Q hm hr hx
   cases m with
   | bad=>exact hx.elim
   | cut x=>exact hx _ hm a w hr
   | _=>simp [toMC,MC.erase] at hm
mutual
def leV (hl : Key→Option HE) : PV→PV→Prop
 | .vec e f xs,y=>match y with | .vec e' f' xs'=>e=e'∧xs=xs'∧(f'=true→f=true) | .undef=>True | _=>False
 | .own g e o l f,y=>match y with
   | .own g' e' o' l' f'=>g=g'∧e=e'∧o=o'∧l=l'∧(f'=true→f=true)
   | .vec e' f' xs'=>(match hl g with | some h=>h.fz=true∧h.bx=false∧o+l≤h.xs.length∧xs'=(h.xs.drop o).take l | none=>False)∧e'=e∧f'=false
   | .undef=>True
   | _=>False
 | .agg cs,y=>match y with | .agg cs'=>leL hl cs cs' | .undef=>True | _=>False
 | x,y=>y=.undef∨x=y
def leL (hl : Key→Option HE) : List PV→List PV→Prop
 | [],y=>y=[]
 | x::xs,y=>match y with | y::ys=>leV hl x y∧leL hl xs ys | []=>False
end
def leR (hl : Key→Option HE) : List (List PV)→List (List PV)→Prop
 | [],y=>y=[]
 | x::xs,y=>match y with | y::ys=>leL hl x y∧leR hl xs ys | []=>False
end Go.Proofs.YtbdogkmdanmojaaGreatDoor.Pv

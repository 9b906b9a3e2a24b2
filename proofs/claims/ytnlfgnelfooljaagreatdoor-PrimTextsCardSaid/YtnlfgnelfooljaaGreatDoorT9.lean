/- Part 9. -/
import Derived.Test.YtnlfgnelfooljaaGreatDoorT8
import Derived.Maps.Own
import Derived.Maps.Ext
import Derived.StringKeys
import Derived.Sort.KeysCollected
import Derived.Scope
set_option linter.unusedSimpArgs false
set_option linter.unusedVariables false
namespace Go.Proofs.YtnlfgnelfooljaaGreatDoor.Pv
open Go Go.RowKit Go.Maps
section
variable {E:Env} {st:St} {c:Ctx} {a:Act} {w:World}
theorem toI_mset {P:Program} {nt:Nat} {o:Oper} {t:TypeId} {m k x:MO} (hi:toI P nt o=some (.mset t m k x)):∃ om ok ox,o.op=.mapUpdate t om ok ox∧toO P nt 0 om=some m∧toO P nt 0 ok=some k∧toO P nt 0 ox=some x:=by
 cases ho:o.op with
 | mapUpdate t' om ok ox =>
   simp only[toI,ho] at hi
   split at hi
   ·rename_i h1 h2 h3
    simp only[Option.some.injEq,MI.mset.injEq] at hi
    obtain⟨rfl,rfl,rfl,rfl⟩:=hi
    exact⟨om,ok,ox,rfl,h1,h2,h3⟩
   ·cases hi
 | makeFunc f a b =>
   cases f<;>simp only[toI,ho] at hi
   all_goals (first|(cases hi; done)|skip)
   all_goals (repeat' split at hi)
   all_goals (first|(cases hi; done)|(simp at hi; done))
 | _ =>
   simp only[toI,ho] at hi
   repeat' split at hi
   all_goals (first|(cases hi; done)|(simp at hi; done))
end
structure MapT (P:Program) (tm kt et:TypeId):Prop where
 tm:P.underlying tm=some (.map kt et)
 kt:P.underlying kt=some .string
 et:P.underlying et=some (.int .i64)
def MapIs (P:Program) (kt et:TypeId) (w:World) (b n:Nat) (ks:List ByteArray):Prop :=
 ∃ es:List (Lit × DataW Unit),w.ownsMap P kt (plainElem P et) b n (.map es)∧(∀ p∈es,∃ x,p.1=Lit.string x)∧(∀ x,(∃ p∈es,p.1=Lit.string x)↔∃ s∈ks,s.data.toList=x)∧∀ s∈ks,s.size≤LIM
theorem MapIs.block {P:Program} {kt et:TypeId} {w w' : World} {b n:Nat} {ks:List ByteArray} (h:MapIs P kt et w b n ks) (hb:w'.heap[b]? = w.heap[b]?):MapIs P kt et w' b n ks:=by
 obtain⟨D,⟨es,clock,h1,h2⟩,h3⟩:=h
 exact⟨D,⟨es,clock,hb.trans h1,h2⟩,h3⟩
theorem mem_insert {H:Type} (p q:Lit × DataW H):∀ l:List (Lit × DataW H),q∈DataW.insert p l↔q=p∨q∈l
 | []=>by simp[DataW.insert]
 | y::r=>by
   unfold DataW.insert
   split
   ·simp
   ·simp only[List.mem_cons,mem_insert p q r]
    constructor
    ·rintro (h|h|h)<;>simp[h]
    ·rintro (h|h|h)<;>simp[h]
theorem mem_put {es:List (Lit × DataW Unit)} {s:List UInt8} {d:DataW Unit} {p:Lit × DataW Unit}:p∈ChangeMaps.putKey (.string s) d es→p=(.string s,d)∨p∈es:=fun hp=>by
 unfold ChangeMaps.putKey at hp
 rcases (mem_insert _ _ _).1 hp with h|h
 ·exact .inl h
 ·exact .inr (List.mem_filter.1 h).1
theorem key_put (es:List (Lit × DataW Unit)) (s:List UInt8) (d:DataW Unit) (x:List UInt8):(∃ p∈ChangeMaps.putKey (.string s) d es,p.1=Lit.string x)↔x=s∨∃ p∈es,p.1=Lit.string x:=by
 constructor
 ·rintro⟨p,hp,e⟩
  rcases mem_put hp with rfl|hp
  ·exact .inl (Lit.string.inj e).symm
  ·exact .inr ⟨p,hp,e⟩
 ·rintro (rfl|⟨p,hp,e⟩)
  ·exact⟨_,(mem_insert _ _ _).2 (.inl rfl),rfl⟩
  ·by_cases hk:p.1.sameKey (.string s)=true
   ·have h:=WideAt.sameKey_eq hk
    exact⟨_,(mem_insert _ _ _).2 (.inl rfl),by rw[← e,h]⟩
   ·exact⟨p,(mem_insert _ _ _).2 (.inr (List.mem_filter.2 ⟨hp,by simpa[ChangeMaps.notKey] using hk⟩)),e⟩
structure MEnv (P:Program) (w0:World) (F0:Nat→Prop) (b b2:Nat) (o2:Option Obj) (w1:World) (F1:Nat→Prop):Prop where
 size:w1.heap.size=b+1
 lt:b2<b
 ge:w0.heap.size≤b2
 bel:Bel w0.heap.size w0 w1
 in0:∀ x,F1 x→F0 x∨w0.heap.size≤x
 of0:∀ x,F0 x→F1 x
 lt0:∀ x,F0 x→x<w0.heap.size
 nb:¬ F1 b
 nb2:¬ F1 b2
 blk2:w1.heap[b2]? = o2
def MRel (P:Program) (kt et:TypeId) (w0:World) (F0:Nat→Prop) (nt b b2:Nat) (o2:Option Obj) (n:Nat) (ks:List ByteArray) (st:St) (a:Act) (w:World):Prop :=
 ∃ w1 F1 hG,MEnv P w0 F0 b b2 o2 w1 F1∧MapIs P kt et w1 b n ks∧Rel ⟨P,w1,F1,nt,[],0,hG⟩ st a w
section
variable {P:Program} {tm kt et:TypeId} {w0:World} {F0:Nat→Prop} {nt b b2:Nat} {o2:Option Obj} {n:Nat} {ks:List ByteArray} {st st' : St} {a:Act} {w:World}
theorem MRel.canon (ts:List (Nat × Nat × Nat)) (hts:tagsOk ts=true) (h:MRel P kt et w0 F0 nt b b2 o2 n ks st a w):∃ v,MRel P kt et w0 F0 nt b b2 o2 n ks (canonF ts v st) a w:=by
 obtain⟨w1,F1,hG,h1,h2,h3⟩:=h
 obtain⟨v,_,hr⟩:=canonF_rel ts hts h3
 exact⟨v,w1,F1,hG,h1,h2,hr⟩
theorem MRel.run (hmix:P.follows .mixedOrders=true) {c:Code} {m:MC} {Q:Ex→St→Prop} (hm:toMC P nt c=some m.erase) (h:MRel P kt et w0 F0 nt b b2 o2 n ks st a w) (hx:∀ w1 F1 hG,XC ⟨P,w1,F1,nt,[],0,hG⟩ m st [] Q) :
 c.wp P (fun e a' w'=>∃ ex st',e=Ex.to ex∧Q ex st'∧MRel P kt et w0 F0 nt b b2 o2 n ks st' a' w') a w:=by
 obtain⟨w1,F1,hG,h1,h2,h3⟩:=h
 refine wp_mono (exec_sound (E:=⟨P,w1,F1,nt,[],0,hG⟩) hmix c m st a w _ hm h3 (hx w1 F1 hG)) ?_
 rintro e a' w' ⟨ex,st',rfl,hq,hr'⟩
 exact⟨ex,st',rfl,hq,w1,F1,hG,h1,h2,hr'⟩
theorem MRel.at (h:MRel P kt et w0 F0 nt b b2 o2 n ks st a w):MapIs P kt et w b n ks:=by
 obtain⟨w1,F1,hG,h1,h2,c,hg⟩:=h
 exact h2.block (hg.below.block b (by show b<w1.heap.size; rw[h1.size]; omega))
theorem MRel.bnd (h:MRel P kt et w0 F0 nt b b2 o2 n ks st a w):(∀ t,t<nt→bndV (lk t st.s)):=by
 obtain⟨w1,F1,hG,h1,h2,h3⟩:=h
 exact h3.bnd.1
theorem MRel.set (hT:MapT P tm kt et) {ops:Array Oper} {soft:Bool} {o:Oper} {m k x:MO} {l:List Oper} {Q:Exit→Act→World→Prop} (hm:toOp P nt ops soft o=some ⟨none,.mset tm m k x,none,false⟩) (h:MRel P kt et w0 F0 nt b b2 o2 n ks st a w)
 {s:ByteArray} {i:Int} (gm:st.get m=.raw (.map (some b))) (gk:st.get k=.str s) (gx:st.get x=.int .i64 i) (hn:n<maxLen)
 (hK:∀ w',MRel P kt et w0 F0 nt b b2 o2 (n+1) (s::ks) st a w'→wpList P ops Q l a w'):wpList P ops Q (o::l) a w:=by
 obtain⟨hi,hdst,hgd⟩:=toOp_spec hm
 obtain⟨om,ok,ox,ho,t1,t2,t3⟩:=toI_mset (hi.resolve_right (by simp))
 have hg0:o.guard=none:=by
  rcases hgd with ⟨h1,_⟩|⟨j,want,t,_,_,_,h4⟩
  ·exact h1
  ·cases h4
 have hmap:=h.at
 obtain⟨w1,F1,hG,h1,h2,c,hg⟩:=h
 have r1:a.eval om=.map (some b):=by have:=hg.get (E:=⟨P,w1,F1,nt,[],0,hG⟩) t1; rw[gm] at this; exact this
 have r2:RepV w c (.str s) (a.eval ok):=by have:=hg.get (E:=⟨P,w1,F1,nt,[],0,hG⟩) t2; rw[gk] at this; exact this
 have r3:RepV w c (.int .i64 i) (a.eval ox):=by have:=hg.get (E:=⟨P,w1,F1,nt,[],0,hG⟩) t3; rw[gx] at this; exact this
 obtain⟨r2,r2'⟩:=r2
 obtain⟨r3,r3',r3''⟩:=r3
 obtain⟨D,hown,hstr,hkeys,hlim⟩:=hmap
 have hkey:keyOf P kt (.string s)=some (.string s.data.toList):=WideMaps.keyOf_string_mk hT.kt (by unfold LIM at r2'; unfold maxLen; omega)
 have hval:plainElem (H:=Unit) P et (.int .i64 i)=some (.lit (.int .i64 i),[]):=plainElem_int hT.et (by simp only[Lit.wf,Bool.and_eq_true,decide_eq_true_eq]; exact⟨r3',r3''⟩)
 obtain⟨w',hrun,hown',hgr⟩:=hown.update (string_keyed hT.kt) hT.tm hn hkey hval
 have hput:a.put o.dst undef=a:=by rw[← hdst]; rfl
 have hcell:∀ (cs:Array Value) (el:TypeId) (fr:Nat × Nat),w.heap[b]?≠some (.cells cs el fr):=fun cs el fr hc=>by
  obtain⟨es,clock,hb,_⟩:=hown
  rw[hb] at hc; cases hc
 have hnb:¬ c.Fz b:=fun hf=>by
  rcases (hg.fz b hf).2 with h|h
  ·exact h1.nb h
  ·have:w1.heap.size≤b:=h
   have:=h1.size
   omega
 have hnb2:¬ c.Fz b2:=fun hf=>by
  rcases (hg.fz b2 hf).2 with h|h
  ·exact h1.nb2 h
  ·have:w1.heap.size≤b2:=h
   have:=h1.lt
   have:=h1.size
   omega
 have hbw:b<w.heap.size:=by
  obtain⟨es,clock,hb,_⟩:=hown
  exact (Array.getElem?_eq_some_iff.1 hb).1
 have hsame:∀ j,j≠b→j<w.heap.size→w'.heap[j]? = w.heap[j]? := fun j hj hlt=>hgr.block j hlt (fun e=>hj (Option.some.inj e))
 have hmono:Mono c.Fz w w':=⟨hgr.size,fun j hj=>hsame j (fun e=>hnb (e ▸ hj)) (hg.fz j hj).1,fun j cs el fr hj=>by
  by_cases e:j=b
  ·subst e; exact absurd hj (hcell cs el fr)
  ·exact⟨cs,fr,(hsame j e (Array.getElem?_eq_some_iff.1 hj).1).trans hj,rfl⟩⟩
 have hown1:∀ k e ad,hk k st.h=some e→c.β k=some ad→b+1≤ad.block∧w'.heap[ad.block]? = w.heap[ad.block]? := fun k e ad he had=>by
  obtain⟨f1,f2⟩:=hg.fresh k e ad he had
  have f1' : w1.heap.size≤ad.block:=f1
  rw[h1.size] at f1'
  exact⟨f1',hsame _ (by omega) f2⟩
 have hBw:b+1≤w'.heap.size:=by have:=hgr.size; omega
 have hgn:=hg.rebase (w':=w') (B:=b+1) (by show w1.heap.size≤_; rw[h1.size]; exact Nat.le_refl _) hBw hmono hown1
 have hstep:∀ j,j<b→w'.heap[j]? = w1.heap[j]? := fun j hj=>by
  rw[hsame j (by omega) (by omega)]
  exact hg.below.block j (by show j<w1.heap.size; rw[h1.size]; omega)
 refine wpList_plain hg0 fun K hKK=>?_
 unfold Oper.wp
 simp[execOp,ho,r1,r2,r3,hrun,Result.andThen]
 show K (a.put o.dst undef) w'
 rw[hput]
 refine hKK _ _ (hK w' ⟨trunc w' (b+1),fun x=>c.Fz x∧x<b+1,_,?_,?_,c,hgn⟩)
 ·refine⟨trunc_size hBw,h1.lt,h1.ge,?_,fun x hx=>?_,fun x hx=>?_,h1.lt0,fun hx=>hnb hx.1,fun hx=>hnb2 hx.1,?_⟩
  ·have e1:=hg.below.below
   have e1' : Below w1.heap.size w1 w:=e1
   have hge:=h1.ge
   have hlt:=h1.lt
   refine Bel.of ⟨?_,?_,?_,?_,fun j hj=>?_⟩
   ·show w'.os=_
    rw[hgr.os,e1'.os,h1.bel.below.os]
   ·show w'.tape=_
    rw[hgr.tape,e1'.tape,h1.bel.below.tape]
   ·show w'.output=_
    rw[hgr.output,e1'.output,h1.bel.below.output]
   ·rw[trunc_size hBw]; omega
   ·rw[trunc_heap _ _ (by omega),hstep j (by omega),h1.bel.block j hj]
  ·rcases (hg.fz x hx.1).2 with h|h
   ·exact h1.in0 x h
   ·have:w1.heap.size≤x:=h
    have:=hx.2
    have:=h1.size
    have:=h1.ge
    have:=h1.lt
    omega
  ·exact⟨hg.le x (h1.of0 x hx),by have:=h1.lt0 x hx; have:=h1.ge; have:=h1.lt; omega⟩
  ·rw[trunc_heap _ _ (by have:=h1.lt; omega),hstep b2 h1.lt,h1.blk2]
 ·refine⟨ChangeMaps.putKey (.string s.data.toList) (.lit (.int .i64 i)) D,?_,fun p hp=>?_,fun x=>?_,fun x hx=>?_⟩
  ·obtain⟨es,clock,hb,hrest⟩:=hown'
   exact⟨es,clock,by rw[trunc_heap _ _ (by omega)]; exact hb,hrest⟩
  ·rcases mem_put hp with rfl|hp
   ·exact⟨_,rfl⟩
   ·exact hstr p hp
  ·rw[key_put,hkeys]
   simp only[List.mem_cons]
   constructor
   ·rintro (rfl|⟨s',hs',rfl⟩)
    ·exact⟨s,.inl rfl,rfl⟩
    ·exact⟨s',.inr hs',rfl⟩
   ·rintro⟨s',rfl|hs',rfl⟩
    ·exact .inl rfl
    ·exact .inr ⟨s',hs',rfl⟩
  ·rcases List.mem_cons.1 hx with rfl|hx
   ·exact r2'
   ·exact hlim x hx
end
end Go.Proofs.YtnlfgnelfooljaaGreatDoor.Pv
namespace Go.Proofs.YtnlfgnelfooljaaGreatDoor.Pv
open Go Go.RowKit Go.Maps
section
variable {P:Program} {tm kt et:TypeId} {w0:World} {F0:Nat→Prop} {hG0:GOk P w0 F0} {nt:Nat} {a:Act} {w:World}
theorem putSlot {a:Act} {d t:Nat} {v:Value} (h:t≠d):(a.put (some d) v).tmps[t]? = a.tmps[t]? := by
 simp only[Act.put,Array.getElem?_setIfInBounds]
 rw[if_neg (fun e=>h e.symm)]
end
end Go.Proofs.YtnlfgnelfooljaaGreatDoor.Pv
namespace Go.Proofs.YtnlfgnelfooljaaGreatDoor.Pv
open Go Go.RowKit
mutual
def geV (M:Nat):PV→Prop
 | .own g _ _ _ _|.ptr g _ _ _=>M≤g.2
 | .agg cs=>geL M cs
 | .tup cs=>geL M cs
 | .fn _ a b=>geL M a∧geL M b
 | .iface _ x=>geV M x
 | .opt _ x=>geV M x
 | .undef|.bool _|.int _ _|.str _|.nilp|.nilf|.nili|.vec _ _ _|.ref _|.raw _|.mapf _=>True
def geL (M:Nat):List PV→Prop
 | []=>True
 | x::xs=>geV M x∧geL M xs
end
def geR (M:Nat):List (List PV)→Prop
 | []=>True
 | x::xs=>geL M x∧geR M xs
def geH (M:Nat) (h:List (Key × Option HE)):Prop:=∀ p∈h,M≤p.1.2∧∀ e,p.2=some e→e.bx=true→geR M e.xs
def LH (h h' : List (Key × Option HE)):Prop:=subH (fun k=>hk k h) h' h
def RetN (P:Program) (f:FuncId) (args:List PV) (K:PV→List (Key × Option HE)→Prop):Prop :=
 callable P f=true∧∀ (M:Nat) (w:World) (F:Nat→Prop) (vs:List Value) (hG:GOk P w F),(∀ b,F b→b<w.heap.size)→RepL w (dctx F) args vs →
  Calls P f vs.toArray w fun e w'=>∃ v c r h,e=.returned v∧K r h∧geV M r∧geH M h∧HGood ⟨P,w,F,0,[],0,hG⟩ h c w'∧RepV w' c r v
theorem RetN.of {P:Program} {f nt:Nat} {m:MC} {rs:List RV} {args:List PV} {K:PV→List (Key × Option HE)→Prop} (hmix:P.follows .mixedOrders=true) (hm:mfOf P f=some (m.erase,nt,rs)) (hn:args.length≤nt)
 (hx:∀ M w0 F0 hG,XC ⟨P,w0,F0,nt,[],M,hG⟩ m (St.init args) [] (retIn rs fun r h''=>∃ h',K r h'∧geV M r∧geH M h'∧LH h'' h')):RetN P f args K:=by
 obtain⟨fn,c0,hf,hc,hb,rfl,htm,hrs⟩:=mfOf_spec hm
 refine⟨hc,fun M w F vs hG hF hr=>calls_of_wp hf hb ?_⟩
 have hi:=init_good hG hF hr hn
 refine wp_mono (exec_sound (E:=⟨P,w,F,fn.ntmps,[],M,hG⟩) hmix c0 m (St.init args) _ w _ htm ⟨dctx F,hi.defers,hi.size,hi.slot,hi.heap,hi.fresh,hi.apart,hi.fz,hi.le,hi.bnd,hi.below,hi.ghost⟩ (hx M w F hG)) ?_
 rintro e a' w' ⟨ex,st',rfl,hq,c',hg'⟩
 have key:∀ q:resOk st' rs∧∃ h',K (resAll st' rs) h'∧geV M (resAll st' rs)∧geH M h'∧LH st'.h h',a'.defers=[]∧∃ v,(results fn a'.tmps).run P w'=.ok v w'∧∃ v' c r h,Ending.returned v=.returned v'∧K r h∧geV M r∧geH M h∧HGood ⟨P,w,F,0,[],0,hG⟩ h c w'∧RepV w' c r v':=by
  rintro⟨q1,h',q2,q3,q4,q5⟩
  obtain⟨v,k1,k2⟩:=resAll_run hg' hrs q1
  have hgl:=Good.leH (s:=st'.s) (h:=st'.h) (h':=h') hg' fun k=>subH_hk k q5
  exact⟨hg'.defers,v,k1,v,c',_,h',rfl,q2,q3,q4,⟨hgl.heap,hgl.fresh,hgl.apart,hgl.fz,hgl.le,hgl.bnd,hgl.below⟩,k2⟩
 cases ex with
 | normal=>exact key hq
 | ret=>exact key hq
 | exit id=>exact hq.elim
 | goto l=>exact hq.elim
def LSF (fzk:List Key) (st S:St):Prop:=LS ⟨st.s,freezeAll (fun k=>hk k st.h) fzk++st.h⟩ S
def LNV (E:Env) {γ:Type} (n:Nat) (S:Nat→γ→St) (J:Nat→γ→Prop) (i:Nat) (ks:List KF) (Q:Ex→St→Prop):Ex→St→Prop
 | .normal,st'=>i<n∧∃ g fzk,J (i+1) g∧LSF fzk st' (S (i+1) g)
 | e,st'=>XE E e st' ks Q
section
variable {E:Env} {body:MC} {st st' : St} {ks:List KF} {Q:Ex→St→Prop} {γ:Type} {n i:Nat} {S' : Nat→γ→St} {J' : Nat→γ→Prop}
theorem LNV_normal:LNV E n S' J' i ks Q .normal st'=(i<n∧∃ g fzk,J' (i+1) g∧LSF fzk st' (S' (i+1) g)):=propext Iff.rfl
theorem LNV_exit {id:Nat}:LNV E n S' J' i ks Q (.exit id) st'=XE E (.exit id) st' ks Q:=propext Iff.rfl
theorem LNV_ret:LNV E n S' J' i ks Q .ret st'=XE E .ret st' ks Q:=propext Iff.rfl
theorem LNV_goto {id:Nat}:LNV E n S' J' i ks Q (.goto id) st'=XE E (.goto id) st' ks Q:=propext Iff.rfl
end
attribute [simp] LNV_normal LNV_exit LNV_ret LNV_goto
theorem leE_same (hl:Key→Option HE) (x:Option HE):leE hl x x:=by
 cases x with
 | none=>trivial
 | some e=>exact⟨rfl,rfl,.inl rfl,leR_refl hl _⟩
theorem subH_of {hl:Key→Option HE} {h:List (Key × Option HE)}:∀ {h' : List (Key × Option HE)},(∀ p∈h',leE hl (hk p.1 h) p.2)→subH hl h' h
 | [],_=>trivial
 | (k,e)::l,hp=>⟨hp (k,e) (by simp),subH_of fun p hp'=>hp p (by simp[hp'])⟩
end Go.Proofs.YtnlfgnelfooljaaGreatDoor.Pv
set_option maxRecDepth 100000
namespace Go.Proofs.YtnlfgnelfooljaaGreatDoor.Pv
open Go Go.Tidy
abbrev rowR (r:Int):List PV:=[.int .i32 r]
def swapI (l:List Int) (a b:Nat):List Int:=(l.set a (l[b]?.getD 0)).set b (l[a]?.getD 0)
def revN (l:List Int):Nat→List Int
 | 0=>l
 | k+1=>swapI (revN l k) k (l.length-1-k)
theorem revN_len (l:List Int):∀ k,(revN l k).length=l.length
 | 0=>rfl
 | k+1=>by simp[revN,swapI,revN_len l k]
theorem revN_get (l:List Int):∀ k,2*k≤l.length→∀ p,p<l.length→(revN l k)[p]? = if p<k∨l.length-k≤p then l[l.length-1-p]? else l[p]?
 | 0,_,p,hp=>by
   rw[if_neg (by omega)]; rfl
 | k+1,hk,p,hp=>by
   have ih:=revN_get l k (by omega)
   have hl:=revN_len l k
   unfold revN swapI
   rw[List.getElem?_set,List.getElem?_set]
   simp only[List.length_set,hl]
   have ea:=ih k (by omega)
   have eb:=ih (l.length-1-k) (by omega)
   rw[if_neg (by omega)] at ea eb
   rw[ea,eb]
   by_cases h1:l.length-1-k=p
   ·rw[if_pos h1,if_pos (by omega),if_pos (by omega)]
    have:l.length-1-p=k:=by omega
    rw[this,List.getElem?_eq_getElem (show k<l.length by omega)]
    rfl
   ·rw[if_neg h1]
    by_cases h2:k=p
    ·rw[if_pos h2,if_pos (by omega),if_pos (by omega)]
     have:l.length-1-p=l.length-1-k:=by omega
     rw[this,List.getElem?_eq_getElem (show l.length-1-k<l.length by omega)]
     rfl
    ·rw[if_neg h2,ih p hp]
     by_cases h3:p<k∨l.length-k≤p
     ·rw[if_pos h3,if_pos (by omega)]
     ·rw[if_neg h3,if_neg (by omega)]
theorem revN_all (l:List Int):revN l (l.length / 2)=l.reverse:=by
 refine List.ext_getElem? fun p=>?_
 by_cases hp:p<l.length
 ·rw[revN_get l _ (by omega) p hp,List.getElem?_reverse hp]
  by_cases h:p<l.length / 2∨l.length-l.length / 2≤p
  ·rw[if_pos h]
  ·rw[if_neg h]
   have:l.length-1-p=p:=by omega
   rw[this]
 ·rw[List.getElem?_eq_none (by rw[revN_len]; omega),List.getElem?_eq_none (by simp; omega)]
def HN17 (gv:Nat) (h0:List (Key × Option HE)):Prop:=∀ p∈h0,hk p.1 h0=p.2∧p.1≠(17,gv)
theorem hk_cons17 (k k' : Key) (e:Option HE) (h:List (Key × Option HE)):hk k ((k',e)::h)=if k=k' then e else hk k h:=by simp[hk,eq_comm]
theorem hk_rest17 {gv:Nat} {h0:List (Key × Option HE)} {k:Key} (hk' : k≠(17,gv)):∀ L:List (Key × Option HE),(∀ p∈L,p.1=(17,gv))→hk k (L++h0)=hk k h0
 | [],_=>rfl
 | (k',e)::L,h=>by
   have h1:k'=(17,gv):=h _ (List.mem_cons_self ..)
   rw[List.cons_append,hk_cons17,if_neg (by rw[h1]; exact hk'),hk_rest17 hk' L fun p hp=>h p (List.mem_cons_of_mem _ hp)]
theorem subH_rest17 {hl:Key→Option HE} {gv:Nat} {h0:List (Key × Option HE)} (hn:HN17 gv h0) (L:List (Key × Option HE)) (hL:∀ p∈L,p.1=(17,gv)):subH hl h0 (L++h0):=subH_of fun p hp=>by
 obtain⟨h1,h2⟩:=hn p hp
 rw[hk_rest17 h2 L hL,h1]; exact leE_same _ _
theorem rows_swapI {l:List Int} {a b:Nat} (ha:a<l.length) (hb:b<l.length):((l.map rowR).set a (rowR l[b])).set b (rowR l[a])=(swapI l a b).map rowR:=by
 rw[← List.map_set,← List.map_set]
 unfold swapI
 rw[List.getElem?_eq_getElem ha,List.getElem?_eq_getElem hb]
 rfl
set_option maxHeartbeats 4000000 in
theorem c_slices_Reverse_rune (gv:Nat) (fl:Bool) (R:List Int) (h0:List (Key × Option HE)) (hn:HN17 gv h0) (hl:R.length≤34359738368) :
 RetH prog M.F_slices_Reverse_rune [.own (17,gv) 1 0 R.length fl] (((17,gv),some ⟨1,R.map rowR,false,false⟩)::h0) (.tup []) (((17,gv),some ⟨1,R.reverse.map rowR,false,false⟩)::h0):=by
 refine RetH.of hmix h_slices_Reverse_rune (by simp) (fun k e h=>by
  rw[hk_cons17] at h ⊢
  split at h
  ·rename_i hk'; rw[if_pos hk']; exact⟨_,rfl⟩
  ·rename_i hk'; rw[if_neg hk']; exact⟨_,h⟩) fun E hP' hV=>?_
 obtain⟨P,w0,F0,nt,G,V,glob⟩:=E
 obtain rfl:P=prog:=hP'
 have w1:=wrap64 (n:=(R.length:Int)-1) (by omega) (by omega)
 simp[w1]
 refine XLoop.cnt hmix (R.length / 2) (fun k (_:Unit)=>⟨[(2,.int .i64 k),(3,.int .i64 ((R.length:Int)-1-k)),(0,.own (17,gv) 1 0 R.length fl)],((17,gv),some ⟨1,(revN R k).map rowR,false,false⟩)::h0⟩) (fun _ _=>True) () trivial ?_ fun k _ hk _=>?_
 ·simp[revN,leR_refl]
  exact subH_rest17 hn [_] (by simp)
 have hw:=wrap64 (n:=(k:Int)+1) (by omega) (by omega)
 have hw2:=wrap64 (n:=(R.length:Int)-1-k-1) (by omega) (by omega)
 have hlen:=revN_len R k
 by_cases g:k<R.length / 2
 ·have g' : (k:Int)<(R.length:Int)-1-k:=by omega
  obtain⟨j,hj⟩ : ∃ j,j=R.length-1-k:=⟨_,rfl⟩
  have ej:(R.length:Int)-1-k=(j:Nat):=by omega
  have q1:k<(revN R k).length:=by omega
  have q2:j<(revN R k).length:=by omega
  have q3:k<R.length:=by omega
  have q4:j<R.length:=by omega
  have hs:=rows_swapI q1 q2
  have hst:revN R (k+1)=swapI (revN R k) k j:=by rw[hj]; rfl
  rw[← hst] at hs
  obtain⟨l2,hl2⟩ : ∃ x,revN R (k+1)=x:=⟨_,rfl⟩
  rw[hl2] at hs hst
  rw[ej] at g' hw2
  have e2:(R.length:Int)-1-((k:Int)+1)=(j:Int)-1:=by omega
  generalize revN R k=l1 at *
  have hrow:((l1.map rowR).set k [PV.int .i32 l1[j]])[j]'(by simpa using q2)=[PV.int .i32 l1[j]]:=by
   rw[List.getElem_set_ne (by omega)]; simp
  simp[g,g',hw,hw2,ej,q1,q2,q3,q4,hs,hl2,e2,hrow,leR_refl]
  intro v _
  exact subH_rest17 hn [_,_,_] (by simp)
 ·have g' : ¬ (k:Int)<(R.length:Int)-1-k:=by omega
  have:k=R.length / 2:=by omega
  subst this
  have hr:=revN_all R
  have g'' : ¬ ((R.length:Int) / 2<(R.length:Int)-1-(R.length:Int) / 2):=by omega
  simp[g',g'',hr]
  intro a b _
  exact leE_same _ _
end Go.Proofs.YtnlfgnelfooljaaGreatDoor.Pv
set_option maxRecDepth 100000
namespace Go.Proofs.YtnlfgnelfooljaaGreatDoor.Pv
open Go Go.RowKit Go.Tidy
theorem repL_runes {w:World} {c:Ctx}:∀ R:List Int,(∀ r∈R,isRune r)→RepL w c (R.map rowR).flatten (R.map fun r=>Value.int .i32 r)
 | [],_=>rfl
 | r::R,h=>by
   have hr:=h r (by simp)
   refine⟨_,_,rfl,⟨rfl,?_,?_⟩,repL_runes R fun x hx=>h x (by simp[hx])⟩
   ·have:=hr.1; simp[IntKind.min,IntKind.signed,IntKind.bits]; omega
   ·have:=hr.2.1; simp[IntKind.max,IntKind.signed,IntKind.bits]; omega
theorem c_utf_Runes (s:S) (hs:s.size≤1000000000):RetO prog M.F_utf_Runes [.str s] 1 ((runesS s).map rowR):=by
 refine⟨by kernel_rfl,fun w F vs hG hF hr=>?_⟩
 obtain⟨v,us,rfl,hv,hus⟩:=hr
 obtain rfl:us=[]:=hus
 obtain⟨rfl,_⟩:=hv
 have hl:=runesS_len s
 have hok:∀ r∈runesS s,isRune r:=fun r hr=>isRune_of_mem hr
 refine Calls.mono (runes_calls s w hs) ?_
 rintro e w' ⟨⟨v,rfl,hrow⟩,hb⟩
 generalize runesS s=R at *
 obtain⟨_,h2⟩:=hrow
 have hFF:∀ b,F b→b<w'.heap.size∧(F b∨w.heap.size≤b):=fun b hb'=>⟨Nat.lt_of_lt_of_le (hF b hb') hb.size,.inl hb'⟩
 rcases h2 with ⟨rfl,h0⟩|⟨g,cap,cur,rfl,hg,hh,hn,hcap,hsz,htake⟩
 ·obtain rfl:R=[]:=List.length_eq_zero_iff.1 h0
  refine⟨_,F,none,rfl,Bel.of hb,fun _ h=>h,hFF,⟨rfl,rfl,by decide,none,0,rfl,by simp,by omega,by simp[LIM],by simp,⟨rfl,rfl,rfl⟩⟩,⟨rfl,rfl,rfl,by decide⟩,fun ad h=>by cases h⟩
 ·have hmx:cap≤9223372036854775807:=by unfold maxLen at hcap; exact hcap
  refine⟨_,F,some ⟨g,0,none⟩,rfl,Bel.of hb,fun _ h=>h,hFF,⟨rfl,rfl,by decide,some ⟨g,0,none⟩,cap,by simp,by simpa using hn,hmx,by simp[LIM]; omega,by simp,.inr ⟨by simp,cur,_,_,hh,by simp[hsz]⟩⟩,⟨rfl,rfl,rfl,⟨cur,_,_,hh,by simp[hsz]; omega,fun o _=>by simp⟩,?_,?_⟩,fun ad h=>by cases h; exact hg⟩
  ·refine RepRows.of_list (vs:=R.map fun r=>Value.int .i32 r) (repL_runes R hok) (fun u hu=>?_) (fun r hr=>?_) fun j v hj=>?_
   ·obtain⟨r,_,rfl⟩:=List.mem_map.1 hu
    rfl
   ·obtain⟨x,_,rfl⟩:=List.mem_map.1 hr
    rfl
   ·have hlt:=(List.getElem?_eq_some_iff.1 hj).1
    have e1:(cur.toList.take (R.length*1))[j]? = some v:=by rw[htake]; exact hj
    rw[List.getElem?_take_of_lt (by simpa using hlt),Array.getElem?_toList] at e1
    simpa[World.cell?,hh] using e1
  ·simp only[Bool.false_eq_true,iff_false]
   intro hf
   have:=hF _ hf
   have hg' : w.heap.size≤g:=hg
   have:g<w.heap.size:=this
   omega
end Go.Proofs.YtnlfgnelfooljaaGreatDoor.Pv
set_option maxRecDepth 100000
namespace Go.Proofs.YtnlfgnelfooljaaGreatDoor.Pv
open Go Go.RowKit Go.Tidy
theorem cells_runes {w:World} {c:Ctx} {b:Nat}:∀ {o:Nat} {l:List Int},RepRows w c 1 b o (l.map rowR)→∀ j (hj:j<l.length),w.cell? ⟨b,o+j,none⟩=some (.int .i32 l[j])
 | _,[],_,j,hj=>absurd hj (by simp)
 | o,r::l,h,j,hj=>by
   obtain⟨h1,h2,h3⟩:=h
   cases j with
   | zero =>
     obtain⟨⟨v,v1,v2,v3⟩,_⟩:=h2
     obtain⟨rfl,_⟩:=v3
     exact v1
   | succ j =>
     have:=cells_runes h3 j (by simpa using hj)
     rw[show o+(j+1)=o+1+j by omega]
     exact this
theorem c_utf_Text (R:List Int) (hR:∀ r∈R,isRune r) (hl:R.length≤1000000000):Ret prog M.F_utf_Text [.vec 1 false (R.map rowR)] (.str (encS R)):=by
 refine⟨by kernel_rfl,fun w F vs hG hF hr=>?_⟩
 obtain⟨v,us,rfl,hv,hus⟩:=hr
 obtain rfl:us=[]:=hus
 obtain⟨a,cap,rfl,h2,h3,h4,h5,h6⟩:=hv
 simp only[List.length_map] at *
 have hlen:=encS_len R
 refine Calls.mono (text_calls R hR hl _ w a cap rfl fun j hj=>?_) ?_
 ·rcases h6 with h6|⟨ad,rfl,e2,e3,e4⟩
  ·rw[List.map_eq_nil_iff] at h6
   subst h6; simp at hj
  ·refine⟨ad.block,ad.off,?_,hF _ e3,cells_runes e4 j hj⟩
   rw[← addr_of e2]
 ·rintro e w' ⟨rfl,hb⟩
  exact⟨_,F,rfl,Bel.of hb,fun _ h=>h,fun b hb'=>⟨Nat.lt_of_lt_of_le (hF b hb') hb.size,.inl hb'⟩,⟨rfl,by show (encS R).size≤LIM; unfold LIM; omega⟩⟩
theorem maxlen_there:∃ g,prog.globalNamed "internal/bytealg.MaxLen" = some g∧Tryz.laysSplit_ren.g 1=g:=⟨_,by kernel_rfl,rfl⟩
theorem info_str:(prog.info? (Tryz.laysSplit_ren.t 9)).map (fun i=>(i.zero,i.size,i.bytes))=some (some (.string ByteArray.empty),1,16):=by kernel_rfl
theorem c_strings_Split (s sep:S) (hs:s.size≤1000000000) (h1:1≤sep.size):Ret prog M.F_strings_Split [.str s,.str sep] (.vec 1 false ((piecesS s sep).map encStr)):=by
 refine⟨by kernel_rfl,fun w F vs hG hF hr=>?_⟩
 obtain⟨v,us,rfl,hv,u,us2,rfl,hu,hus⟩:=hr
 obtain rfl:us2=[]:=hus
 obtain⟨rfl,_⟩:=hv
 obtain⟨rfl,_⟩:=hu
 obtain⟨g,hg,hg2⟩:=maxlen_there
 obtain⟨_,_,m,hm⟩:=hG.2.2 _ (List.mem_cons_self ..) g hg
 have h:Calls prog M.F_strings_Split #[.string s,.string sep] w _:=Any.strings_Split Tryz.laysSplit info_str s sep m w (by omega) (by rw[hg2]; exact hm) h1
 refine Calls.mono h ?_
 rintro e w' ⟨rfl,hw'⟩
 rw[show Lib.splitB sep 0 (Lib.countB s sep) s=piecesS s sep from rfl] at hw'
 subst hw'
 have hle:=Lib.countB_le sep h1 s.size s (Nat.le_refl _)
 have hlen:(piecesS s sep).length=Lib.countB s sep+1:=Lib.splitB_all sep h1 0 _ s rfl
 have hb:=(Below.refl w.heap.size w).alloc (Nat.le_refl _) (.cells ((piecesS s sep).map Value.string).toArray (Tryz.laysSplit_ren.t 9))
 have hsz:∀ x∈piecesS s sep,x.size≤LIM:=fun x hx=>by
  have:=pieces_le hx
  unfold LIM; omega
 refine⟨_,fun b=>F b∨b=w.heap.size,rfl,Bel.of hb,fun _ h=>.inl h,fun b hb'=>?_,?_⟩
 ·rcases hb' with hb'|rfl
  ·exact⟨Nat.lt_of_lt_of_le (hF b hb') hb.size,.inl hb'⟩
  ·exact⟨by simp,.inr (Nat.le_refl _)⟩
 ·refine⟨some ⟨w.heap.size,0,none⟩,Lib.countB s sep+1,by simp[hlen],by simp[hlen],by omega,by simp[hlen,LIM]; omega,by simp,.inr ⟨_,rfl,rfl,.inr rfl,?_⟩⟩
  show RepRows _ _ 1 w.heap.size 0 ((piecesS s sep).map rowS)
  refine rows_of_cells fun j hj=>⟨?_,hsz _ (List.getElem_mem hj)⟩
  have:(w.alloc (.cells ((piecesS s sep).map Value.string).toArray (Tryz.laysSplit_ren.t 9))).heap[w.heap.size]? = some (.cells ((piecesS s sep).map Value.string).toArray (Tryz.laysSplit_ren.t 9)):=heap_alloc_new w _
  simp only[World.cell?,this,Nat.zero_add]
  simp[hj]
theorem c_utf_Split (s sep:S) (hs:s.size≤1000000000) (h1:1≤sep.size):Ret prog M.F_utf_Split [.str s,.str sep] (.vec 1 false ((if sEmp s then [] else piecesS s sep).map encStr)):=by
 have c1:=c_strings_Split s sep hs h1
 refine Ret.go hmix h_utf_Split (by simp) fun hb w0 F0 hG=>?_
 cases e:sEmp s
 ·simp[e]
  refine XCall.ret (by first|exact c1|(simpa using c1)) ?_
  simp
 ·simp[e]
theorem c_strings_Join (xs:List S) (sep:S) (hl:(Lib.join (xs.map (·.data.toList)) sep.data.toList).length≤1000000000):Ret prog M.F_strings_Join [.vec 1 false (xs.map encStr),.str sep] (.str ⟨(Lib.join (xs.map (·.data.toList)) sep.data.toList).toArray⟩):=by
 refine⟨by kernel_rfl,fun w F vs hG hF hr=>?_⟩
 obtain⟨v,us,rfl,hv,u,us2,rfl,hu,hus⟩:=hr
 obtain rfl:us2=[]:=hus
 obtain⟨rfl,_⟩:=hu
 obtain⟨a,cap,rfl,h2,h3,h4,h5,h6⟩:=hv
 simp only[List.length_map] at *
 have fin:∀ e w',(e=Ending.returned (.string ⟨(Lib.join (xs.map (·.data.toList)) sep.data.toList).toArray⟩)∧Below w.heap.size w w')→∃ v F',e=.returned v∧Bel w.heap.size w w'∧(∀ b,F b→F' b)∧(∀ b,F' b→b<w'.heap.size∧(F b∨w.heap.size≤b))∧RepV w' (dctx F') (.str ⟨(Lib.join (xs.map (·.data.toList)) sep.data.toList).toArray⟩) v:=by
  rintro e w' ⟨rfl,hb⟩
  exact⟨_,F,rfl,Bel.of hb,fun _ h=>h,fun b hb'=>⟨Nat.lt_of_lt_of_le (hF b hb') hb.size,.inl hb'⟩,⟨rfl,by show (Lib.join _ _).toArray.size≤LIM; simp[LIM]; omega⟩⟩
 rcases h6 with h6|⟨ad,rfl,e2,e3,e4⟩
 ·rw[List.map_eq_nil_iff] at h6
  subst h6
  have h:Calls prog M.F_strings_Join #[.slice a 0 cap,.string sep] w _:=Any.strings_Join_none Tryz.laysJoin Tryz.extraJoin a cap sep w
  refine Calls.mono h ?_
  rintro e w' ⟨rfl,rfl⟩
  exact fin _ _ ⟨by simp[Lib.join],Below.refl _ _⟩
 ·have hcell:=holds_rows (l:=xs) e4
  have h:Calls prog M.F_strings_Join #[.slice (some ⟨ad.block,ad.off,none⟩) xs.length cap,.string sep] w _:=Any.strings_Join Tryz.laysJoin Tryz.extraJoin ad.block ad.off cap xs sep w (fun j x hx=>by
   obtain⟨hj,rfl⟩:=List.getElem?_eq_some_iff.1 hx
   obtain⟨s',q1,q2,_⟩:=hcell j hj
   rw[List.getElem?_eq_getElem hj] at q1
   rw[q2,← Option.some.inj q1]) (hF _ e3) (by unfold LIM at h4; omega) h2 (Nat.le_trans hl (by decide))
  rw[← addr_of e2] at h
  exact Calls.mono h fin
end Go.Proofs.YtnlfgnelfooljaaGreatDoor.Pv
set_option maxRecDepth 100000
namespace Go.Proofs.YtnlfgnelfooljaaGreatDoor.Pv
open Go Go.Tidy
abbrev exV (s:S):Val:=lstV ((runesS s).map fun r=>numV (itoaT r))
theorem rune_wrap {r:Int} (h:isRune r):IntKind.i64.wrap r=r:=wrap64 (by have:=h.1; omega) (by have:=h.2.1; omega)
set_option maxHeartbeats 8000000 in
theorem c_input_explode (s:S) (hs:s.size≤1000000):Ret prog M.F_prim_input_explode [.agg (cV (txtV s)++[.vec 5 false []])] (.tup [.agg (cV (exV s)),.bool true]):=by
 have cR:=c_utf_Runes s (by omega)
 have hl:=runesS_len s
 have hok:∀ r∈runesS s,isRune r:=fun r hr=>isRune_of_mem hr
 have cL:=c_prim_list ((runesS s).map fun r=>numV (itoaT r))
 unfold exV
 generalize runesS s=R at *
 refine Ret.go hmix h_prim_input_explode (by simp) fun hb w0 F0 hG=>?_
 simp only[txtV,Val.kind_mk,Val.num_mk,Val.text_mk,Val.items_mk,Val.keys_mk] at *
 simp
 intro v1 v2 v3
 refine XCall.retO (by first|exact cR|(simpa using cR)) ?_
 simp
 intro v4
 obtain⟨J,hJ⟩ : ∃ J:Nat→List Val→Prop,J=fun k l=>l=(R.take k).map fun r=>numV (itoaT r):=⟨_,rfl⟩
 refine XLoop.cntR hmix [(4,5,1001),(11,1,1002)] rfl R.length (fun u k (l:List Val)=>⟨[(13,.int .i64 k),(12,.int .i64 R.length),(11,.own (1002,u) 1 0 R.length false),(4,.own (1001,u) 5 0 l.length false),(2,.ptr (2,v2) 5 0 0),(1,.ptr (1,v1) 6 0 0)],
  [((1001,u),some ⟨5,l.map encVal,false,false⟩),((1002,u),some ⟨1,R.map rowR,false,false⟩),((2,v2),some ⟨5,[M.z3],false,true⟩),((1,v1),some ⟨6,[[.int .i64 4,.str emp,.str s,.vec 5 false [],.vec 1 false [],.vec 5 false []]],false,true⟩)]⟩) J [] (by rw[hJ]; rfl) (by simp) fun u k l _ hk hj=>?_
 have hw:=wrap64 (n:=(k:Int)+1) (by omega) (by omega)
 have hj' : l=(R.take k).map fun r=>numV (itoaT r):=by rw[hJ] at hj; exact hj
 by_cases g1:k<R.length
 ·have hr:=hok _ (List.getElem_mem g1)
  have hw2:=rune_wrap hr
  have c1:=c_prim_number R[k]
  have hn:J (k+1) (l++[numV (itoaT R[k])]):=by
   rw[hJ]; show _=_
   rw[List.take_succ_eq_append_getElem g1,List.map_append,← hj']; rfl
  have hll:l.length≤R.length:=by rw[hj']; simp; omega
  simp[g1,hw2]
  refine XCall.ret (by first|exact c1|(simpa using c1)) ?_
  simp[hw]
  intro v
  refine⟨by omega,g1,l++[numV (itoaT R[k])],hn,fun v1=>⟨by simp,?_⟩⟩
  rw[show List.map encVal (l++[numV (itoaT R[k])])=List.map encVal l++[cV (numV (itoaT R[k]))] by simp]
  exact leR_refl _ _
 ·have:R.take k=R:=List.take_of_length_le (by omega)
  rw[this] at hj'
  subst hj'
  simp[g1]
  intro v
  refine XDCall.ret (by first|exact cL|(simpa using cL)) ?_
  simp
theorem valD_le:∀ l:List UInt8,(∀ c∈l,48≤c.toNat∧c.toNat≤57)→valD l<10 ^ l.length:=by
 intro l
 unfold valD
 suffices h:∀ (l:List UInt8) (n m:Nat),n<10 ^ m→(∀ c∈l,48≤c.toNat∧c.toNat≤57)→l.foldl (fun n c=>10*n+(c.toNat-48)) n<10 ^ (m+l.length) by
  intro hc
  have:=h l 0 0 (by decide) hc
  rwa [Nat.zero_add] at this
 intro l
 induction l with
 | nil=>intro n m h _; simpa using h
 | cons c l ih =>
   intro n m h hc
   have h1:=hc c (by simp)
   have:=ih (10*n+(c.toNat-48)) (m+1) (by rw[Nat.pow_succ]; omega) fun x hx=>hc x (by simp[hx])
   rw[List.foldl_cons,List.length_cons,show m+(l.length+1)=m+1+l.length by omega]
   exact this
theorem valD_step {D:List UInt8} {k:Nat} (h:k<D.length):valD (D.take (k+1))=10*valD (D.take k)+(D[k].toNat-48):=by
 unfold valD
 rw[List.take_succ_eq_append_getElem h,List.foldl_append]
 rfl
theorem wrap_u8 {n:Int} (h0:0≤n) (h1:n≤255):IntKind.u8.wrap n=n:=by
 simp[IntKind.wrap,IntKind.bits,IntKind.signed]
 omega
theorem wrap_i32 {n:Int} (h0:0≤n) (h1:n≤2147483647):IntKind.i32.wrap n=n:=by
 simp[IntKind.wrap,IntKind.bits,IntKind.signed]
 omega
abbrev rowB (b:UInt8):List PV:=[.int .u8 b.toNat]
set_option maxHeartbeats 8000000 in
theorem c_prim_runeOf (r:Int) (hr:isRune r):Ret prog M.F_prim_runeOf [.agg (cV (numV (itoaT r)))] (.tup [.int .i32 r,.bool true]):=by
 obtain⟨u,hu⟩ : ∃ u:Nat,r=u:=⟨r.toNat,by have:=hr.1; omega⟩
 subst hu
 have hD:=itoaT_nat u
 have hsz:(itoaT u).size=(itoaT u).data.toList.length:=rfl
 obtain⟨d1,d2,d3,d4⟩:=dec_spec u
 have dl:=dec_len (u:=u) (by have:=hr.2.1; omega)
 obtain⟨r0,r1,r2⟩:=hr
 have hw:=wrap_i32 (n:=(u:Int)) (by omega) (by omega)
 rw[hD] at hsz
 generalize hT:itoaT u=T at *
 generalize hDD:Lib.decDigits u=D at *
 have hpos:0<D.length:=List.length_pos_iff.2 d2
 have hz45:∀ h:0<T.data.size,¬ T.data[0]=45:=fun h e=>by
  have h1:T.data[0]∈D:=by rw[← hD]; simp
  have:=(d1 _ h1).1
  rw[e] at this
  exact absurd this (by decide)
 have hsz7:¬ (7:Int)<T.size:=by omega
 have hsz0:0<T.size:=by omega
 refine Ret.go hmix h_prim_runeOf (by simp) fun hb w0 F0 hG=>?_
 simp only[numV,Val.kind_mk,Val.num_mk,Val.text_mk,Val.items_mk,Val.keys_mk] at *
 simp[hz45,hsz7,hsz0,hD]
 rw[hsz]
 intro v1 v2
 obtain⟨J,hJ⟩ : ∃ J:Nat→Nat→Prop,J=fun k n=>n=valD (D.take k):=⟨_,rfl⟩
 refine XLoop.cnt hmix D.length (fun k (n:Nat)=>⟨[(26,.int .i64 k),(25,.int .i64 D.length),(24,.own (24,v2) 1 0 D.length false),(4,.int .i64 n),(1,.ptr (1,v1) 5 0 0)],[((24,v2),some ⟨1,D.map rowB,false,false⟩),((1,v1),some ⟨5,[cV (Val.mk 3 T emp [] [])],false,true⟩)]⟩) J 0 (by rw[hJ]; rfl) (by simp[leR_refl]) fun k n hk hj=>?_
 have hw1:=wrap64 (n:=(k:Int)+1) (by omega) (by omega)
 have hj' : n=valD (D.take k):=by rw[hJ] at hj; exact hj
 by_cases g:k<D.length
 ·have hc:=d1 _ (List.getElem_mem g)
  have hb1:=valD_le (D.take k) fun c hc=>d1 c (List.mem_of_mem_take hc)
  have hb2:(10:Nat) ^ (D.take k).length≤10 ^ 7:=Nat.pow_le_pow_right (by omega) (by simp; omega)
  rw[← hj'] at hb1
  have hst:=valD_step g
  rw[← hj'] at hst
  obtain⟨m,hm⟩ : ∃ m,m=D[k].toNat-48:=⟨_,rfl⟩
  have e1:(D[k].toNat:Int)-48=(m:Nat):=by omega
  have u1:=wrap_u8 (n:=(m:Int)) (by omega) (by omega)
  have u2:=wrap64 (n:=(m:Int)) (by omega) (by omega)
  have u3:=wrap64 (n:=10*(n:Int)) (by omega) (by omega)
  have u4:=wrap64 (n:=10*(n:Int)+m) (by omega) (by omega)
  have hn:J (k+1) (10*n+m):=by rw[hJ]; show _=_; rw[hst,hm]
  simp[g,hw1,e1,u1,u2,u3,u4]
  exact⟨_,hn,by omega⟩
 ·have:n=u:=by rw[hj',List.take_of_length_le (by omega),d4]
  subst this
  have g1:n≤1114111:=by omega
  simp[g,hw,r1,g1]
  omega
set_option maxHeartbeats 8000000 in
theorem c_input_implode (R:List Int) (hR:∀ r∈R,isRune r) (hl:R.length≤1000000):Ret prog M.F_prim_input_implode [.agg (cV (lstV (R.map fun r=>numV (itoaT r)))++[.vec 5 false []])] (.tup [.agg (cV (txtV (encS R))),.bool true]):=by
 have cT:=c_utf_Text R hR (by omega)
 have cX:=c_prim_text (encS R)
 refine Ret.go hmix h_prim_input_implode (by simp) fun hb w0 F0 hG=>?_
 simp only[lstV,Val.kind_mk,Val.num_mk,Val.text_mk,Val.items_mk,Val.keys_mk] at *
 simp
 intro v1 v2 v3
 obtain⟨J,hJ⟩ : ∃ J:Nat→List Int→Prop,J=fun k l=>l=R.take k:=⟨_,rfl⟩
 refine XLoop.cntR hmix [(4,1,1001)] rfl R.length (fun u k (l:List Int)=>⟨[(14,.int .i64 k),(13,.int .i64 R.length),(12,.vec 5 false (R.map (encVal∘fun r=>numV (itoaT r)))),(4,.own (1001,u) 1 0 l.length false),(2,.ptr (2,v2) 5 0 0),(1,.ptr (1,v1) 6 0 0)],
  [((1001,u),some ⟨1,l.map rowR,false,false⟩),((2,v2),some ⟨5,[M.z3],false,true⟩),((1,v1),some ⟨6,[[.int .i64 5,.str emp,.str emp,.vec 5 false (R.map (encVal∘fun r=>numV (itoaT r))),.vec 1 false [],.vec 5 false []]],false,true⟩)]⟩) J [] (by rw[hJ]; rfl) (by simp) fun u k l _ hk hj=>?_
 have hw:=wrap64 (n:=(k:Int)+1) (by omega) (by omega)
 have hj' : l=R.take k:=by rw[hJ] at hj; exact hj
 by_cases g1:k<R.length
 ·have c1:=c_prim_runeOf R[k] (hR _ (List.getElem_mem g1))
  have hn:J (k+1) (l++[R[k]]):=by
   rw[hJ]; show _=_
   rw[List.take_succ_eq_append_getElem g1,← hj']
  have hll:l.length≤R.length:=by rw[hj']; simp; omega
  simp[g1]
  intros
  refine XCall.ret (r:=.tup [.int .i32 R[k],.bool true]) (by first|exact c1|(simpa using c1)) ?_
  simp[g1,hw]
  intro v
  refine⟨by omega,l++[R[k]],hn,fun v1=>⟨by simp,?_⟩⟩
  rw[List.map_append]
  exact leR_refl _ _
 ·have:R.take k=R:=List.take_of_length_le (by omega)
  rw[this] at hj'
  subst hj'
  simp[g1]
  intro v
  refine XDCall.ret (by first|exact cT|(simpa using cT)) ?_
  simp
  refine XDCall.ret (by first|exact cX|(simpa using cX)) ?_
  simp
set_option maxHeartbeats 8000000 in
theorem c_input_reverse_txt (s:S) (hs:s.size≤1000000):Ret prog M.F_prim_input_reverse [.agg (cV (txtV s)++[.vec 5 false []])] (.tup [.agg (cV (txtV (encS (runesS s).reverse))),.bool true]):=by
 have cR:=c_utf_Runes s (by omega)
 have hl:=runesS_len s
 have hok:∀ r∈(runesS s).reverse,isRune r:=fun r hr=>isRune_of_mem (s:=s) (List.mem_reverse.1 hr)
 have cT:=c_utf_Text (runesS s).reverse hok (by simp; omega)
 have cX:=c_prim_text (encS (runesS s).reverse)
 have cV0:=fun gv fl h0 hn=>c_slices_Reverse_rune gv fl (runesS s) h0 hn (by omega)
 generalize runesS s=R at *
 have hQ:R.reverse.length=R.length:=by simp
 generalize R.reverse=Q at *
 have hT:(Q.map rowR).take R.length=Q.map rowR:=by rw[← hQ]; simp
 refine Ret.go hmix h_prim_input_reverse (by simp) fun hb w0 F0 hG=>?_
 simp only[txtV,Val.kind_mk,Val.num_mk,Val.text_mk,Val.items_mk,Val.keys_mk] at *
 simp
 intro v1 v2
 refine XCall.retO (by first|exact cR|(simpa using cR)) ?_
 simp
 intro v3
 refine XCall.retH (cV0 v3 false _ (by simp[HN17,hk])) ?_
 simp[hT]
 refine XCall.ret (by first|exact cT|(simpa[hT] using cT)) ?_
 simp[hQ]
 refine XCall.ret (by first|exact cX|(simpa using cX)) ?_
 simp
set_option maxHeartbeats 8000000 in
theorem c_input_split (s b:S) (hs:s.size≤1000000) (h1:1≤b.size):Ret prog M.F_prim_input_split [.agg (cV (txtV s)++[.vec 5 false [cV (txtV b)]])] (.tup [.agg (cV (lstV ((if sEmp s then [] else piecesS s b).map txtV))),.bool true]):=by
 have cI:=c_prim_input_is (txtV s) (txtV b) [] 4 4
 have cS:=c_utf_Split s b (by omega) h1
 have hlen:(if sEmp s then [] else piecesS s b).length≤1000001:=by
  have hle:=Lib.countB_le b h1 s.size s (Nat.le_refl _)
  have hlen:(piecesS s b).length=Lib.countB s b+1:=Lib.splitB_all b h1 0 _ s rfl
  split
  ·simp
  ·omega
 generalize (if sEmp s then [] else piecesS s b)=P at *
 have cL:=c_prim_list (P.map txtV)
 refine Ret.go hmix h_prim_input_split (by simp) fun hb w0 F0 hG=>?_
 simp only[txtV,Val.kind_mk,Val.num_mk,Val.text_mk,Val.items_mk,Val.keys_mk] at cI
 simp only[txtV,Val.kind_mk,Val.num_mk,Val.text_mk,Val.items_mk,Val.keys_mk]
 simp
 intro v1 v2
 refine XCall.ret (r:=.bool true) (by first|exact cI|(simpa using cI)) ?_
 simp
 intro v3 v4
 refine XDCall.ret (by first|exact cS|(simpa using cS)) ?_
 simp
 obtain⟨J,hJ⟩ : ∃ J:Nat→List Val→Prop,J=fun k l=>l=(P.take k).map txtV:=⟨_,rfl⟩
 refine XLoop.cntR hmix [(4,5,1001)] rfl P.length (fun u k (l:List Val)=>⟨[(22,.int .i64 k),(21,.int .i64 P.length),(20,.vec 1 false (P.map encStr)),(4,.own (1001,u) 5 0 l.length false),(2,.ptr (2,v2) 5 0 0),(1,.ptr (1,v1) 6 0 0)],
  [((1001,u),some ⟨5,l.map encVal,false,false⟩),((2,v2),some ⟨5,[M.z3],false,true⟩),((1,v1),some ⟨6,[[.int .i64 4,.str emp,.str s,.vec 5 false [],.vec 1 false [],.vec 5 false [cV (Val.mk 4 emp b [] [])]]],false,true⟩)]⟩) J [] (by rw[hJ]; rfl) (by simp) fun u k l _ hk hj=>?_
 have hw:=wrap64 (n:=(k:Int)+1) (by omega) (by omega)
 have hj' : l=(P.take k).map txtV:=by rw[hJ] at hj; exact hj
 by_cases g1:k<P.length
 ·have c1:=c_prim_text P[k]
  have hn:J (k+1) (l++[txtV P[k]]):=by
   rw[hJ]; show _=_
   rw[List.take_succ_eq_append_getElem g1,List.map_append,← hj']; rfl
  have hll:l.length≤P.length:=by rw[hj']; simp; omega
  simp[g1]
  refine XCall.ret (by first|exact c1|(simpa using c1)) ?_
  simp[hw]
  intro v
  refine⟨by omega,g1,l++[txtV P[k]],hn,fun v1=>⟨by simp,?_⟩⟩
  rw[show List.map encVal (l++[txtV P[k]])=List.map encVal l++[cV (txtV P[k])] by simp]
  exact leR_refl _ _
 ·have:P.take k=P:=List.take_of_length_le (by omega)
  rw[this] at hj'
  subst hj'
  simp[g1]
  refine XCall.ret (by first|exact cL|(simpa using cL)) ?_
  simp
theorem c_prim_String_txt (s:S) (h:utfB s=true):Ret prog M.F_prim_String [.agg (cV (txtV s))] (.str s):=by
 have cF:=c_value_Formed (txtV s)
 rw[formed_txt,h] at cF
 refine Ret.go hmix h_prim_String (by simp) fun hb w0 F0 hG=>?_
 simp only[txtV,Val.kind_mk,Val.num_mk,Val.text_mk,Val.items_mk,Val.keys_mk] at *
 simp
 intros
 refine XCall.ret (r:=.bool true) (by first|exact cF|(simpa using cF)) ?_
 simp
def joinW (P:List S) (b:S) (k:Nat):Nat:=1+(P.length-1)*b.size+((P.map fun x=>x.size).take k).sum
set_option maxHeartbeats 8000000 in
theorem c_input_join (P:List S) (b:S) (hU:∀ x∈P,utfB x=true) (hb1:b.size≤1048576) (hP:P.length≤1048576) (hW:joinW P b P.length≤1048576) (hJn:(Lib.join (P.map (·.data.toList)) b.data.toList).length≤1000000000) :
 Ret prog M.F_prim_input_join [.agg (cV (lstV (P.map txtV))++[.vec 5 false [cV (txtV b)]])] (.tup [.agg (cV (txtV ⟨(Lib.join (P.map (·.data.toList)) b.data.toList).toArray⟩)),.bool true]):=by
 have cI:=c_prim_input_is (lstV (P.map txtV)) (txtV b) [] 5 4
 have cJ:=c_strings_Join P b hJn
 have cX:=c_prim_text ⟨(Lib.join (P.map (·.data.toList)) b.data.toList).toArray⟩
 generalize (⟨(Lib.join (P.map (·.data.toList)) b.data.toList).toArray⟩ : S)=T at *
 refine Ret.go hmix h_prim_input_join (by simp) fun hb w0 F0 hG=>?_
 simp only[txtV,lstV,Val.kind_mk,Val.num_mk,Val.text_mk,Val.items_mk,Val.keys_mk] at *
 simp
 intro v1 v2
 refine XCall.ret (r:=.bool true) (by first|exact cI|(simpa using cI)) ?_
 have w1:=wrap64 (n:=(P.length:Int)-1) (by omega) (by omega)
 obtain⟨m,hm⟩ : ∃ m,m=P.length-1:=⟨_,rfl⟩
 have e1:(if (P.length:Int)-1<0 then 0 else (P.length:Int)-1)=(m:Nat):=by
  split<;>omega
 obtain⟨X,hX⟩ : ∃ X,X=m*b.size:=⟨_,rfl⟩
 have e2:(m:Int)*b.size=(X:Nat):=by rw[hX]; simp
 have hW' : 1+X+(P.map fun x=>x.size).sum≤1048576:=by
  unfold joinW at hW
  rw[List.take_of_length_le (by simp),← hm,← hX] at hW
  exact hW
 have w2:=wrap64 (n:=(X:Int)) (by omega) (by omega)
 have w3:=wrap64 (n:=1+(X:Int)) (by omega) (by omega)
 simp[w1,e1,e2,w2,w3]
 intro v3
 obtain⟨J,hJ⟩ : ∃ J:Nat→List S→Prop,J=fun k l=>l=P.take k:=⟨_,rfl⟩
 refine XLoop.cntR hmix [(5,1,1001)] rfl P.length (fun u k (l:List S)=>⟨[(32,.int .i64 k),(31,.int .i64 P.length),(30,.vec 5 false (P.map (encVal∘txtV))),(5,.own (1001,u) 1 0 l.length false),(4,.int .i64 ((1+X+(l.map fun x=>x.size).sum:Nat):Int)),(2,.ptr (2,v2) 5 0 0),(1,.ptr (1,v1) 6 0 0)],
  [((1001,u),some ⟨1,l.map encStr,false,false⟩),((2,v2),some ⟨5,[M.z3],false,true⟩),((1,v1),some ⟨6,[[.int .i64 5,.str emp,.str emp,.vec 5 false (P.map (encVal∘txtV)),.vec 1 false [],.vec 5 false [cV (Val.mk 4 emp b [] [])]]],false,true⟩)]⟩) J [] (by rw[hJ]; rfl) (by simp) fun u k l _ hk hj=>?_
 have hw:=wrap64 (n:=(k:Int)+1) (by omega) (by omega)
 have hj' : l=P.take k:=by rw[hJ] at hj; exact hj
 have hsum:(l.map fun x=>x.size).sum≤(P.map fun x=>x.size).sum:=by
  rw[hj',List.map_take]; exact sum_take_le _ _
 obtain⟨A,hA⟩ : ∃ A,A=1+X+(l.map fun x=>x.size).sum:=⟨_,rfl⟩
 rw[← hA]
 by_cases g1:k<P.length
 ·have c1:=c_prim_String_txt P[k] (hU _ (List.getElem_mem g1))
  have hn:J (k+1) (l++[P[k]]):=by
   rw[hJ]; show _=_
   rw[List.take_succ_eq_append_getElem g1,← hj']
  have hll:l.length≤P.length:=by rw[hj']; simp; omega
  have hs2:((l++[P[k]]).map fun x=>x.size).sum≤(P.map fun x=>x.size).sum:=by
   rw[hj',← List.take_succ_eq_append_getElem g1,List.map_take]; exact sum_take_le _ _
  have hs3:((l++[P[k]]).map fun x=>x.size).sum=(l.map fun x=>x.size).sum+(P[k]).size:=by simp
  have w4:=wrap64 (n:=(A:Int)+(P[k]).size) (by omega) (by omega)
  simp only[txtV] at c1
  simp[g1,txtV]
  intro v4
  refine XCut.go hmix ?_
  simp
  refine XCut.go hmix ?_
  simp
  refine XCall.ret (r:=.str P[k]) (by first|exact c1|(simpa using c1)) ?_
  simp[hw,w4]
  intro v
  refine⟨by omega,g1,l++[P[k]],hn,fun v1=>⟨⟨by simp,by rw[hs3]; omega⟩,?_⟩⟩
  rw[List.map_append]
  exact leR_refl _ _
 ·have:P.take k=P:=List.take_of_length_le (by omega)
  rw[this] at hj'
  subst hj'
  have g2:¬ (1048576:Int)<A:=by omega
  simp[g1]
  refine XCut.go hmix ?_
  simp[g2]
  refine XCall.ret (by first|exact cJ|(simpa using cJ)) ?_
  simp
  refine XCall.ret (by first|exact cX|(simpa using cX)) ?_
  simp
end Go.Proofs.YtnlfgnelfooljaaGreatDoor.Pv
namespace Go.Proofs.YtnlfgnelfooljaaGreatDoor.Pv
open Go Go.RowKit
def okOptB (cb want:Bool):PV→Bool
 | .opt b' _=>cb != want||b'
 | _=>true
theorem okOptB_ok {cb want:Bool} {x:PV} (h:okOptB cb want x=true):okOpt cb want x:=by
 cases x<;>first|trivial|skip
 rename_i b y
 intro e
 subst e
 simpa[okOptB] using h
def optOkB (gb:Bool):PV→Bool
 | .opt b' _=>!gb||b'
 | _=>true
def optsOkB (gb:Bool) (get:MO→PV):List MO→Bool
 | []=>true
 | x::xs=>optOkB gb (get x)&&optsOkB gb get xs
theorem optsOkB_ok {gb:Bool} {get:MO→PV}:∀ xs,optsOkB gb get xs=true→optsOk gb get xs
 | [],_=>trivial
 | x::xs,h=>by
   simp only[optsOkB,Bool.and_eq_true] at h
   refine⟨?_,optsOkB_ok xs h.2⟩
   have h1:=h.1
   generalize get x=y at *
   cases y<;>first|trivial|skip
   rename_i b z
   intro e
   subst e
   simpa[optOkB] using h1
def isRunB:PV→Bool
 | .opt b _=>b
 | _=>true
theorem isRunB_ok {x:PV} (h:isRunB x=true):isRun x:=by
 cases x<;>first|trivial|exact h
def rowsB (hl:Key→Option HE):PV→Bool
 | .own g _ off len _=>match hl g with
   | some e=>!e.bx&&decide (off+len≤e.xs.length)
   | none=>false
 | _=>true
theorem rowsB_ok {hl:Key→Option HE} {x:PV} {po:Prop} {xe:Nat} {rd:List Nat} {cx:List (List PV)} (h:rowsOf hl x=some (po,xe,rd,cx)) (hb:rowsB hl x=true):po:=by
 unfold rowsOf at h
 split at h
 ·cases h; trivial
 ·split at h
  ·rename_i e he
   cases h
   simp only[rowsB,he,Bool.and_eq_true,Bool.not_eq_true',decide_eq_true_eq] at hb
   exact hb
  ·cases h
 ·cases h; trivial
 ·cases h
def preB (get:MO→PV) (hl:Key→Option HE):MI→Bool
 | .pick c a b=>isRunB (get c)&&match strip (get c) with
   | .bool cb=>okOptB cb true (get a)&&okOptB cb false (get b)
   | _=>false
 | .box x=>storable (get x)
 | .build z ps=>fillOkB z.length (ps.map fun p=>(p.1,p.2.1,get p.2.2))
 | .bslice esz z n ps=>fillROkB esz n (ps.map fun p=>(p.1,reify hl (get p.2)))&&okLB hl (ps.map fun p=>get p.2)&&decide (z.length=esz)&&decide (0<esz)&&decide (n≤1024)
 | .load a n ag=>match get a with
   | .ref cs=>decide (n≤cs.length)&&(ag||decide (n=1))
   | .ptr g _ i off=>match hl g with
     | some e=>decide (i<e.xs.length)&&decide (off+n≤(e.xs.getD i []).length)&&(ag||decide (n=1))
     | none=>false
   | _=>false
 | .store a x n=>match get a with
   | .ptr g _ i off=>match hl g with
     | some e=>if e.bx then decide (i<e.xs.length)&&decide (off+n≤(e.xs.getD i []).length)&&decide ((cells (get x)).length=n)&&storable (get x)
       else decide (i<e.xs.length)&&decide (off+n≤(e.xs.getD i []).length)&&decide ((cells (reify hl (get x))).length=n)&&storable (reify hl (get x))&&okVB hl (get x)&&!(keysOf hl (get x)).contains g
     | none=>false
   | _=>false
 | .bin op _ x y=>binB op (get x) (get y)
 | .field x off n ag=>match get x with
   | .agg cs=>decide (off+n≤cs.length)&&(ag||decide (n=1))
   | _=>false
 | .iaddr x i _=>match get x,get i with
   | .vec _ _ xs,.int _ n=>decide (0≤n)&&decide (n<xs.length)
   | .own _ _ _ len _,.int _ n=>decide (0≤n)&&decide (n<len)
   | _,_=>false
 | .iaddrp _ i len _=>match get i with
   | .int _ n=>decide (0≤n)&&decide (n<len)
   | _=>false
 | .sidx x i=>match get x,get i with
   | .str s,.int _ n=>decide (0≤n)&&decide (n<s.size)
   | _,_=>false
 | .aidx x i len esz ag=>match get x,get i with
   | .agg cs,.int _ n=>decide (0≤n)&&decide (n<len)&&decide (cs.length=len*esz)&&(ag||decide (esz=1))
   | _,_=>false
 | .slc x esz lo hi mx=>match get x with
   | .vec esz' _ xs=>match bounds xs.length (lo.map get) (hi.map get),mxOf get mx with
     | some (l,h),some none=>(xs.isEmpty||decide (esz'=esz))&&decide (0≤l)&&decide (l≤h)&&decide (h≤xs.length)
     | some (l,h),some (some m)=>(xs.isEmpty||decide (esz'=esz))&&decide (0≤l)&&decide (l≤h)&&decide (h≤m)&&decide (m≤xs.length)
     | _,_=>false
   | .own _ _ _ len _=>match bounds len (lo.map get) (hi.map get),mxOf get mx with
     | some (l,h),some none=>decide (0≤l)&&decide (l≤h)&&decide (h≤len)
     | some (l,h),some (some m)=>decide (0≤l)&&decide (l≤h)&&decide (h≤m)&&decide (m≤len)
     | _,_=>false
   | _=>false
 | .sslc x lo hi=>match get x with
   | .str s=>match bounds s.size (lo.map get) (hi.map get) with
     | some (l,h)=>decide (0≤l)&&decide (l≤h)&&decide (h≤s.size)
     | none=>false
   | _=>false
 | .ext x i=>match get x with
   | .tup vs=>decide (i<vs.length)
   | _=>false
 | .app s x esz=>rowsB hl (get x)&&(match rowsOf hl (get x) with
   | some (_,xe,_,cx)=>match get s with
     | .vec esz' full xs=>if nilV full xs&&esz' == esz then (cx.isEmpty||decide (xe=esz))&&decide (0<esz)&&decide (cx.length≤68719476736)
       else cx.isEmpty||decide (0<cx.length)&&decide (xe=esz)&&(xs.isEmpty||decide (esz'=esz))&&decide (0<esz)&&decide (xs.length+cx.length≤68719476736)
     | .own g _ off len _=>match hl g with
       | some e=>(cx.isEmpty||decide (xe=esz))&&decide (off+len≤e.xs.length)&&decide (len+cx.length≤68719476736)
       | none=>false
     | _=>false
   | none=>false)
 | .appz s n esz z=>match get n with
   | .int _ k=>decide (z.length=esz)&&decide (0<esz)&&decide (1≤k)&&decide (k≤34359738368)
   | _=>false
 | .b2s x=>rowsB hl (get x)&&(match rowsOf hl (get x) with
   | some (_,_,_,cx)=>decide (cx.length≤LIM)
   | none=>false)
 | .mksl esz z l c=>match get l,get c with
   | .int _ n,.int _ m=>decide (z.length=esz)&&decide (0<esz)&&decide (0≤n)&&decide (n≤m)&&decide (m≤34359738368)
   | _,_=>false
 | .clr x esz=>match get x with
   | .own g _ off len _=>match hl g with
     | some e=>decide (off+len≤e.xs.length)
     | none=>false
   | _=>true
 | _=>true
theorem preB_ok {key:Key} {get:MO→PV} {hl:Key→Option HE} {i:MI} {out:Out} (hs:opSem key get hl i=some out) (hb:preB get hl i=true):out.pre:=by
 cases i with
 | pick c a b =>
   simp only[opSem] at hs
   simp only[preB] at hb
   split at hs
   ·rename_i cb hc
    cases hs
    simp only[hc,Bool.and_eq_true] at hb
    exact⟨isRunB_ok hb.1,okOptB_ok hb.2.1,okOptB_ok hb.2.2⟩
   ·cases hs
 | box x=>simp only[opSem,Option.some.injEq] at hs; subst hs; exact hb
 | build z ps=>simp only[opSem,Option.some.injEq] at hs; subst hs; exact fillOkB_ok _ hb
 | bslice esz z n ps =>
   simp only[opSem,Option.some.injEq] at hs; subst hs
   simp only[preB,Bool.and_eq_true,decide_eq_true_eq] at hb
   obtain⟨⟨⟨⟨h1,h2⟩,h3⟩,h4⟩,h5⟩:=hb
   exact⟨fillROkB_ok _ h1,okLB_ok _ h2,h3,h4,h5⟩
 | load a n ag =>
   simp only[opSem] at hs
   simp only[preB] at hb
   split at hs
   ·rename_i cs hx
    cases hs
    simp only[hx,Bool.and_eq_true,decide_eq_true_eq,Bool.or_eq_true] at hb
    exact⟨hb.1,fun h=>hb.2.resolve_left (by simp[h])⟩
   ·rename_i g esz i off hx
    split at hs
    ·rename_i e he
     cases hs
     simp only[hx,he,Bool.and_eq_true,decide_eq_true_eq,Bool.or_eq_true] at hb
     exact⟨hb.1.1,hb.1.2,fun h=>hb.2.resolve_left (by simp[h])⟩
    ·cases hs
   ·cases hs
 | store a x n =>
   simp only[opSem] at hs
   simp only[preB] at hb
   split at hs
   ·rename_i g esz i off hx
    split at hs
    ·rename_i e he
     split at hs
     ·cases hs
     ·split at hs
      ·rename_i hbx
       cases hs
       simp only[hx,he,hbx,if_true,Bool.and_eq_true,decide_eq_true_eq] at hb
       exact⟨hb.1.1.1,hb.1.1.2,hb.1.2,hb.2⟩
      ·rename_i hbx
       cases hs
       simp only[hx,he,hbx,if_false,Bool.and_eq_true,decide_eq_true_eq,Bool.not_eq_true',Bool.false_eq_true] at hb
       exact⟨hb.1.1.1.1.1,hb.1.1.1.1.2,hb.1.1.1.2,hb.1.1.2,okVB_ok _ hb.1.2,hb.2⟩
    ·cases hs
   ·cases hs
 | bin op cls x y =>
   simp only[opSem] at hs
   split at hs
   ·rename_i p r hbs
    cases hs
    exact binB_ok hbs hb
   ·cases hs
 | field x off n ag =>
   simp only[opSem] at hs
   simp only[preB] at hb
   split at hs
   ·rename_i cs hx
    cases hs
    simp only[hx,Bool.and_eq_true,decide_eq_true_eq,Bool.or_eq_true] at hb
    exact⟨hb.1,fun h=>hb.2.resolve_left (by simp[h])⟩
   ·cases hs
 | iaddr x i esz =>
   simp only[opSem] at hs
   simp only[preB] at hb
   split at hs
   ·rename_i e f xs k n hx hy
    split at hs
    ·cases hs
     simp only[hx,hy,Bool.and_eq_true,decide_eq_true_eq] at hb
     exact hb
    ·cases hs
   ·rename_i g e off len full k n hx hy
    split at hs
    ·cases hs
     simp only[hx,hy,Bool.and_eq_true,decide_eq_true_eq] at hb
     exact hb
    ·cases hs
   ·cases hs
 | iaddrp x i len esz =>
   simp only[opSem] at hs
   simp only[preB] at hb
   split at hs
   ·rename_i cs k n hx hy
    cases hs
    simp only[hy,Bool.and_eq_true,decide_eq_true_eq] at hb
    exact hb
   ·rename_i g e j off k n hx hy
    cases hs
    simp only[hy,Bool.and_eq_true,decide_eq_true_eq] at hb
    exact hb
   ·cases hs
 | sidx x i =>
   simp only[opSem] at hs
   simp only[preB] at hb
   split at hs
   ·rename_i s k n hx hy
    cases hs
    simp only[hx,hy,Bool.and_eq_true,decide_eq_true_eq] at hb
    exact hb
   ·cases hs
 | aidx x i len esz ag =>
   simp only[opSem] at hs
   simp only[preB] at hb
   split at hs
   ·rename_i cs k n hx hy
    cases hs
    simp only[hx,hy,Bool.and_eq_true,decide_eq_true_eq,Bool.or_eq_true] at hb
    exact⟨hb.1.1.1,hb.1.1.2,hb.1.2,fun h=>hb.2.resolve_left (by simp[h])⟩
   ·cases hs
 | slc x esz lo hi mx =>
   simp only[opSem] at hs
   simp only[preB] at hb
   split at hs
   ·rename_i esz' full xs hx
    split at hs
    ·rename_i l h hbd hmx
     cases hs
     simp only[hx,hbd,hmx,Bool.and_eq_true,decide_eq_true_eq,Bool.or_eq_true,List.isEmpty_iff] at hb
     exact⟨hb.1.1.1,hb.1.1.2,hb.1.2,hb.2⟩
    ·rename_i l h m hbd hmx
     cases hs
     simp only[hx,hbd,hmx,Bool.and_eq_true,decide_eq_true_eq,Bool.or_eq_true,List.isEmpty_iff] at hb
     exact⟨hb.1.1.1.1,hb.1.1.1.2,hb.1.1.2,hb.1.2,hb.2⟩
    ·cases hs
   ·rename_i g esz' off len full hx
    split at hs
    ·split at hs
     ·rename_i l h hbd hmx
      cases hs
      simp only[hx,hbd,hmx,Bool.and_eq_true,decide_eq_true_eq] at hb
      exact⟨hb.1.1,hb.1.2,hb.2⟩
     ·rename_i l h m hbd hmx
      cases hs
      simp only[hx,hbd,hmx,Bool.and_eq_true,decide_eq_true_eq] at hb
      exact⟨hb.1.1.1,hb.1.1.2,hb.1.2,hb.2⟩
     ·cases hs
    ·cases hs
   ·cases hs
 | sslc x lo hi =>
   simp only[opSem] at hs
   simp only[preB] at hb
   split at hs
   ·rename_i s hx
    split at hs
    ·rename_i l h hbd
     cases hs
     simp only[hx,hbd,Bool.and_eq_true,decide_eq_true_eq] at hb
     exact⟨hb.1.1,hb.1.2,hb.2⟩
    ·cases hs
   ·cases hs
 | ext x i =>
   simp only[opSem] at hs
   simp only[preB] at hb
   split at hs
   ·rename_i vs hx
    cases hs
    simp only[hx,decide_eq_true_eq] at hb
    exact hb
   ·cases hs
 | app s x esz =>
   simp only[opSem] at hs
   simp only[preB] at hb
   rw[Bool.and_eq_true] at hb
   obtain⟨hb1,hb⟩:=hb
   split at hs
   ·rename_i po xe rd cx hro
    have hpo:=rowsB_ok hro hb1
    simp only[hro] at hb
    split at hs
    ·rename_i esz' full xs hgs
     simp only[hgs] at hb
     split at hs
     ·rename_i hnil
      cases hs
      rw[if_pos hnil] at hb
      simp only[Bool.and_eq_true,decide_eq_true_eq,Bool.or_eq_true,List.isEmpty_iff] at hb
      exact⟨hpo,hb.1.1,hb.1.2,hb.2⟩
     rename_i hnil
     rw[if_neg hnil] at hb
     split at hs
     ·cases hs; exact hpo
     ·rename_i hemp
      split at hs
      ·cases hs
       simp only[Bool.and_eq_true,decide_eq_true_eq,Bool.or_eq_true,List.isEmpty_iff] at hb
       have hb:=hb.resolve_left (by simpa using hemp)
       exact⟨hpo,hb.1.1.1.1,hb.1.1.1.2,hb.1.1.2,hb.1.2,hb.2⟩
      ·cases hs
    ·rename_i g esz' off len full hgs
     split at hs
     ·rename_i e he
      simp only[hgs,he,Bool.and_eq_true,decide_eq_true_eq,Bool.or_eq_true,List.isEmpty_iff] at hb
      split at hs
      ·cases hs
      ·split at hs
       ·split at hs
        ·rename_i hf
         cases hs
         simp only[Bool.and_eq_true,Bool.not_eq_true',List.isEmpty_eq_false_iff] at hf
         exact⟨hpo,hb.1.1.resolve_left hf.2,hb.1.2,hb.2⟩
        ·cases hs
       ·cases hs
        exact⟨hpo,hb.1.1,hb.1.2,hb.2⟩
     ·cases hs
    ·cases hs
   ·cases hs
 | appz s n esz z =>
   simp only[opSem] at hs
   simp only[preB] at hb
   split at hs
   ·rename_i e k m h1 h2
    cases hs
    simp only[h2,Bool.and_eq_true,decide_eq_true_eq] at hb
    exact⟨hb.1.1.1,hb.1.1.2,hb.1.2,hb.2⟩
   ·cases hs
 | s2b x =>
   simp only[opSem] at hs
   split at hs
   ·cases hs; trivial
   ·cases hs
 | b2s x =>
   simp only[opSem] at hs
   simp only[preB,Bool.and_eq_true] at hb
   obtain⟨hb1,hb⟩:=hb
   split at hs
   ·cases hs
   ·split at hs
    ·rename_i po xe rd cx hro
     split at hs
     ·cases hs
      simp only[hro,decide_eq_true_eq] at hb
      exact⟨rowsB_ok hro hb1,hb⟩
     ·cases hs
    ·cases hs
 | mksl esz z l c =>
   simp only[opSem] at hs
   simp only[preB] at hb
   split at hs
   ·rename_i k1 n k2 m h1 h2
    cases hs
    simp only[h1,h2,Bool.and_eq_true,decide_eq_true_eq] at hb
    exact⟨hb.1.1.1.1,hb.1.1.1.2,hb.1.1.2,hb.1.2,hb.2⟩
   ·cases hs
 | mv x=>simp only[opSem,Option.some.injEq] at hs; subst hs; trivial
 | alloc z=>simp only[opSem,Option.some.injEq] at hs; subst hs; trivial
 | mkfn f a b=>simp only[opSem,Option.some.injEq] at hs; subst hs; trivial
 | mkif t x=>simp only[opSem,Option.some.injEq] at hs; subst hs; trivial
 | nilck x=>simp only[opSem] at hs; split at hs<;>first|(cases hs; done)|(simp only[Option.some.injEq] at hs; subst hs; trivial)
 | un op x=>simp only[opSem] at hs; split at hs<;>first|(cases hs; done)|(simp only[Option.some.injEq] at hs; subst hs; trivial)
 | conv k x=>simp only[opSem] at hs; split at hs<;>first|(cases hs; done)|(simp only[Option.some.injEq] at hs; subst hs; trivial)
 | faddr a n=>simp only[opSem] at hs; split at hs<;>first|(cases hs; done)|(simp only[Option.some.injEq] at hs; subst hs; trivial)
 | len x=>simp only[opSem] at hs; split at hs<;>first|(cases hs; done)|(simp only[Option.some.injEq] at hs; subst hs; trivial)
 | slen x=>simp only[opSem] at hs; split at hs<;>first|(cases hs; done)|(simp only[Option.some.injEq] at hs; subst hs; trivial)
 | cap x=>simp only[opSem] at hs; split at hs<;>first|(cases hs; done)|(simp only[Option.some.injEq] at hs; subst hs; trivial)
 | minmax b x y =>
   simp only[opSem] at hs
   split at hs
   ·split at hs
    ·cases hs; trivial
    ·cases hs
   ·cases hs
 | call _ _=>simp[opSem] at hs
 | dcall _ _=>simp[opSem] at hs
 | nilcmp _ _=>simp[opSem] at hs
 | bad=>simp[opSem] at hs
 | mmk _=>simp[opSem] at hs
 | mset _ _ _ _=>simp[opSem] at hs
 | look m k=>simp only[opSem] at hs; split at hs<;>first|(cases hs; done)|(simp only[Option.some.injEq] at hs; subst hs; trivial)
 | clr x esz =>
   simp only[opSem] at hs
   simp only[preB] at hb
   split at hs
   ·cases hs; trivial
   ·rename_i g esz' off len full hgs
    simp only[hgs] at hb
    split at hs
    ·rename_i e he
     simp only[he,decide_eq_true_eq] at hb
     split at hs
     ·cases hs
     ·cases hs; exact hb
    ·cases hs
   ·cases hs
end Go.Proofs.YtnlfgnelfooljaaGreatDoor.Pv
namespace Go.Proofs.YtnlfgnelfooljaaGreatDoor.Pv
open Go Go.RowKit
inductive Res where
 | val (r:PV)
 | own (esz:Nat) (xs:List (List PV))
def evPlain (key:Key) (get:MO→PV) (hl:Key→Option HE) (i:MI):Option Out :=
 match i with
 | .nilcmp ne x=>match get x with
   | .vec _ _ (_::_)=>some ⟨True,[],.bool (false != ne),[]⟩
   | .own _ _ _ (_+1) _=>some ⟨True,[],.bool (false != ne),[]⟩
   | _=>none
 | i=>match opSem key get hl i with
   | some o=>if preB get hl i then some o else none
   | none=>none
theorem doOp_sem {P:Program} {key:Key} {get:MO→PV} {hl:Key→Option HE} {i:MI} {o:Out} {K:Out→Prop} (h:opSem key get hl i=some o) (hK:K o):doOp P key get hl i K:=by
 unfold doOp
 split
 ·simp[opSem] at h
 ·simp[opSem] at h
 ·simp[opSem] at h
 ·simp only[h]; exact hK
theorem evPlain_ok {P:Program} {key:Key} {get:MO→PV} {hl:Key→Option HE} {i:MI} {o:Out} (h:evPlain key get hl i=some o):doOp P key get hl i fun o'=>o'.pre∧o'=o:=by
 unfold evPlain at h
 split at h
 ·rename_i ne x
  split at h
  ·rename_i e f y ys hx
   cases h
   simp only[doOp,hx]
   intro b hb
   cases b with
   | true=>exact absurd (hb rfl) (by simp)
   | false=>exact⟨trivial,rfl⟩
  ·rename_i g e off n f hx
   cases h
   simp only[doOp,hx]
   intro b hb
   cases b with
   | true=>exact absurd (hb rfl) (by simp)
   | false=>exact⟨trivial,rfl⟩
  ·cases h
 ·split at h
  ·rename_i o' ho
   split at h
   ·rename_i hp
    cases h
    exact doOp_sem ho ⟨preB_ok ho hp,rfl⟩
   ·cases h
  ·cases h
def BIG:Nat:=1000000000000000
def gOf (st:St) (m:MOp):Option Bool:=match m.g with
 | none=>some true
 | some (t,want)=>guardC (lk t st.s) want
def evOp (N:Nat) (m:MOp) (st:St):Option Out:=match m.g with
 | none=>evPlain (m.dst.getD 0,N) st.get (fun k=>hk k st.h) m.i
 | some (t,want)=>match guardC (lk t st.s) want with
   | none=>none
   | some gb =>
     if m.soft then
      (match opSem (m.dst.getD 0,N) (softGet m.i st.get) (fun k=>hk k st.h) m.i with
      | some o=>if (!gb||preB (softGet m.i st.get) (fun k=>hk k st.h) m.i)&&(m.i.isPick||optsOkB gb st.get m.i.ops)&&o.hu.isEmpty then some ⟨True,o.rd,.opt gb o.r,[]⟩ else none
      | none=>none)
     else if gb then evPlain (m.dst.getD 0,N) st.get (fun k=>hk k st.h) m.i else some ⟨True,[],skipV,[]⟩
theorem evOp_ok {P:Program} {N:Nat} {m:MOp} {st:St} {o:Out} (h:evOp N m st=some o):StepTo P m N st o:=by
 have plain:evPlain (m.dst.getD 0,N) st.get (fun k=>hk k st.h) m.i=some o→doOp P (m.dst.getD 0,N) st.get (fun k=>hk k st.h) m.i fun o'=>o'.pre∧o'=o∧st.put m.dst o'=st.put m.dst o:=fun h =>
  doOp_mono (fun o' ho=>⟨ho.1,ho.2,by rw[ho.2]⟩) (evPlain_ok (P:=P) h)
 unfold evOp at h
 unfold StepTo stepOp
 cases hg:m.g with
 | none =>
   rw[hg] at h
   exact plain h
 | some tw =>
   obtain⟨t,want⟩:=tw
   rw[hg] at h
   simp only at h ⊢
   cases hgb:guardC (lk t st.s) want with
   | none=>rw[hgb] at h; cases h
   | some gb =>
     rw[hgb] at h
     simp only at h ⊢
     by_cases hs:m.soft=true
     ·rw[if_pos hs] at h ⊢
      split at h
      ·rename_i o' ho
       split at h
       ·rename_i hc
        cases h
        simp only[Bool.and_eq_true,Bool.or_eq_true,Bool.not_eq_true',List.isEmpty_iff] at hc
        obtain⟨⟨h1,h2⟩,h3⟩:=hc
        exact doOp_sem ho ⟨fun e=>preB_ok ho (h1.resolve_left (by simp[e])),(by
         unfold softOk
         split
         ·trivial
         ·rename_i hnp
          exact optsOkB_ok _ (h2.resolve_left hnp)),h3,rfl,rfl⟩
       ·cases h
      ·cases h
     ·rw[if_neg hs] at h ⊢
      cases gb with
      | true=>exact⟨fun _=>plain h,fun e=>by cases e⟩
      | false =>
        cases h
        exact⟨fun e=>(by cases e),fun _=>⟨rfl,skip_put _ _⟩⟩
def callee (st:St):MI→Option (FuncId × List PV)
 | .call f args=>some (f,args.map st.get)
 | .dcall f args=>match st.get f with
   | .fn fid first caps=>some (fid,first++args.map st.get++caps)
   | _=>none
 | _=>none
def MI.isCall:MI→Bool
 | .call _ _|.dcall _ _=>true
 | _=>false
def CpOk (P:Program) (cp:FuncId→List PV→Option Res):Prop :=
 ∀ f args,(∀ r,cp f args=some (.val r)→Ret P f args r)∧∀ esz xs,cp f args=some (.own esz xs)→RetO P f args esz xs
def evCallOut (cp:FuncId→List PV→Option Res) (key:Key) (hl:Key→Option HE) (f:FuncId) (args:List PV):Option Out :=
 if okLB hl args then
  (match cp f (reifyL hl args) with
  | some (.val r)=>some (callOut hl args r)
  | some (.own esz xs)=>some (callOutO hl args key esz xs)
  | none=>none)
 else none
theorem evCallOut_ok {P:Program} {cp:FuncId→List PV→Option Res} (hcp:CpOk P cp) {key:Key} {hl:Key→Option HE} {f:FuncId} {args:List PV} {o:Out} (h:evCallOut cp key hl f args=some o):doCall P key hl f args fun o'=>o'.pre∧o'=o:=by
 unfold evCallOut at h
 split at h
 ·rename_i hok
  split at h
  ·rename_i r hr
   cases h
   exact .inl ⟨r,(hcp _ _).1 r hr,okLB_ok _ hok,rfl⟩
  ·rename_i esz xs hr
   cases h
   exact .inr ⟨esz,xs,(hcp _ _).2 esz xs hr,okLB_ok _ hok,rfl⟩
  ·cases h
 ·cases h
def evCallP (cp:FuncId→List PV→Option Res) (N:Nat) (m:MOp) (st:St):Option Out :=
 if m.soft then none else
 match gOf st m with
 | some true=>(match callee st m.i with
   | some (f,args)=>evCallOut cp (m.dst.getD 0,N) (fun k=>hk k st.h) f args
   | none=>none)
 | some false=>some ⟨True,[],skipV,[]⟩
 | none=>none
theorem doCall_mono {P:Program} {key:Key} {hl:Key→Option HE} {f:FuncId} {args:List PV} {K K' : Out→Prop} (h:∀ o,K o→K' o) (hd:doCall P key hl f args K):doCall P key hl f args K':=by
 rcases hd with ⟨r,h1,h2⟩|⟨e,xs,h1,h2⟩
 ·exact .inl ⟨r,h1,h _ h2⟩
 ·exact .inr ⟨e,xs,h1,h _ h2⟩
theorem evCallP_ok {P:Program} {cp:FuncId→List PV→Option Res} (hcp:CpOk P cp) {N:Nat} {m:MOp} {st:St} {o:Out} (hc:m.i.isCall=true) (h:evCallP cp N m st=some o):StepTo P m N st o:=by
 unfold evCallP at h
 split at h
 ·cases h
 rename_i hsoft
 have hd:∀ f args,callee st m.i=some (f,args)→doCall P (m.dst.getD 0,N) (fun k=>hk k st.h) f args (fun o'=>o'.pre∧o'=o)→doOp P (m.dst.getD 0,N) st.get (fun k=>hk k st.h) m.i fun o'=>o'.pre∧o'=o∧st.put m.dst o'=st.put m.dst o:=fun f args hcl hd=>by
  have hd':=doCall_mono (K':=fun o'=>o'.pre∧o'=o∧st.put m.dst o'=st.put m.dst o) (fun o' ho=>by obtain⟨h1,rfl⟩:=ho; exact⟨h1,rfl,rfl⟩) hd
  unfold callee at hcl
  unfold doOp
  split at hcl
  ·cases hcl; rename_i heq; simp only[heq]; exact hd'
  ·rename_i heq
   split at hcl
   ·rename_i hf
    cases hcl
    simp only[heq,hf]; exact hd'
   ·cases hcl
  ·cases hcl
 split at h
 ·rename_i hg
  split at h
  ·rename_i f args hcl
   have hdo:=hd f args hcl (evCallOut_ok hcp h)
   unfold StepTo stepOp
   unfold gOf at hg
   split at hg
   ·rename_i hmg
    simp only[hmg]; exact hdo
   ·rename_i t want hmg
    simp only[hmg,hg,if_neg hsoft]
    exact⟨fun _=>hdo,fun e=>by cases e⟩
  ·cases h
 ·rename_i hg
  cases h
  unfold StepTo stepOp
  unfold gOf at hg
  split at hg
  ·cases hg
  ·rename_i t want hmg
   simp only[hmg,hg,if_neg hsoft]
   exact⟨fun e=>absurd e (by simp),fun _=>⟨trivial,skip_put _ _⟩⟩
 ·cases h
def evStep (cp:FuncId→List PV→Option Res) (N:Nat) (m:MOp) (st:St):Option Out:=if m.i.isCall then evCallP cp N m st else evOp N m st
theorem evStep_ok {P:Program} {cp:FuncId→List PV→Option Res} (hcp:CpOk P cp) {N:Nat} {m:MOp} {st:St} {o:Out} (h:evStep cp N m st=some o):StepTo P m N st o:=by
 unfold evStep at h
 split at h
 ·rename_i hc; exact evCallP_ok hcp hc h
 ·exact evOp_ok h
theorem stepOp_mono {P:Program} {m:MOp} {v:Nat} {st:St} {K K' : Out→St→Prop} (h:∀ o s,K o s→K' o s) (hs:stepOp P m v st K):stepOp P m v st K':=by
 unfold stepOp at hs ⊢
 split at hs
 ·exact doOp_mono (fun o ho=>⟨ho.1,h _ _ ho.2⟩) hs
 ·split at hs
  ·exact hs.elim
  ·split at hs
   ·rename_i hsoft
    rw[if_pos hsoft]
    exact doOp_mono (fun o ho=>⟨ho.1,ho.2.1,ho.2.2.1,h _ _ ho.2.2.2⟩) hs
   ·rename_i hsoft
    rw[if_neg hsoft]
    exact⟨fun e=>doOp_mono (fun o ho=>⟨ho.1,h _ _ ho.2⟩) (hs.1 e),fun e=>h _ _ (hs.2 e)⟩
def evD (cp:FuncId→List PV→Option Res) (un:List (Nat × Nat)) (N:Nat):List MOp→List (List Nat × List Nat)→St→Option St
 | [],acc,st=>if okPairs un acc then some st else none
 | m::ms,acc,st=>if m.i.isNil then none else match evStep cp N m st with
   | some o=>evD cp un N ms (acc++[(o.rd,tagsHu o.hu)]) (st.put m.dst o)
   | none=>none
theorem evD_ok {P:Program} {cp:FuncId→List PV→Option Res} (hcp:CpOk P cp) {un:List (Nat × Nat)} {N:Nat}:∀ (ms:List MOp) (acc:List (List Nat × List Nat)) (st st' : St),evD cp un N ms acc st=some st'→runD P un N ms acc st fun s=>s=st'
 | [],acc,st,st',h=>by
   simp only[evD] at h
   split at h
   ·rename_i hp
    cases h
    exact⟨hp,rfl⟩
   ·cases h
 | m::ms,acc,st,st',h=>by
   simp only[evD] at h
   split at h
   ·cases h
   ·rename_i hn
    split at h
    ·rename_i o ho
     refine⟨?_,stepOp_mono (fun o' s hs=>?_) (evStep_ok hcp ho)⟩
     ·cases hm:m.i<;>first|trivial|(rw[hm] at hn; exact hn rfl)
     ·obtain⟨rfl,rfl⟩:=hs
      exact evD_ok hcp ms _ _ _ h
    ·cases h
def Bnd (c:Ctx) (N:Nat):Prop:=∀ k:Key,c.U k→k.2<N∨BIG≤k.2
def CiOk (P:Program) (ci:FuncId→List PV→List (Key × Option HE)→Nat→Option (PV × List (Key × Option HE) × Nat)):Prop :=
 ∀ f args h N r h' N',ci f args h N=some (r,h',N')→callable P f=true∧∀ (E:Env) (a:Act) (c:Ctx) (w:World) (vs:List Value) (d:Option Nat) (s:List (Nat × PV)),E.P=P→Good E ⟨s,h⟩ c a w→Bnd c N→RepL w c args vs →
   Calls P f vs.toArray w fun e w'=>∃ v,e=.returned v∧∃ c',Good E ⟨putS d r s,h'⟩ c' (a.put d v) w'∧Bnd c' N'
def inlM (mode:FuncId→Bool) (st:St) (i:MI):Bool:=match callee st i with
 | some (f,_)=>mode f
 | none=>false
def evCallI (ci:FuncId→List PV→List (Key × Option HE)→Nat→Option (PV × List (Key × Option HE) × Nat)) (N:Nat) (m:MOp) (st:St):Option (St × Nat) :=
 match gOf st m with
 | some true=>(match callee st m.i with
   | some (f,args)=>(match ci f args st.h N with
     | some (r,h',N')=>some (⟨putS m.dst r st.s,h'⟩,N')
     | none=>none)
   | none=>none)
 | some false=>some (st.skip m.dst,N)
 | none=>none
def evOne (mode:FuncId→Bool) (cp:FuncId→List PV→Option Res) (ci:FuncId→List PV→List (Key × Option HE)→Nat→Option (PV × List (Key × Option HE) × Nat)) (N:Nat) (m:MOp) (st:St):Option (St × Nat) :=
 if inlM mode st m.i then evCallI ci N m st else if Nat.blt N BIG then (match evStep cp N m st with|some o=>some (st.put m.dst o,N+1)|none=>none) else none
def evRun (mode:FuncId→Bool) (cp:FuncId→List PV→Option Res) (ci:FuncId→List PV→List (Key × Option HE)→Nat→Option (PV × List (Key × Option HE) × Nat)):List MOp→St→Nat→Option (St × Nat)
 | [],st,N=>some (st,N)
 | m::ms,st,N=>match evOne mode cp ci N m st with
   | some (st',N')=>evRun mode cp ci ms st' N'
   | none=>none
section
variable {E:Env} {st:St} {c:Ctx} {a:Act} {w:World}
theorem callee_runs (hg:Good E st c a w) {ops:Array Oper} {soft:Bool} {o:Oper} {m:MOp} (hm:toOp E.P E.nt ops soft o=some m) {f:FuncId} {args:List PV} (hc:callee st m.i=some (f,args)) (hcb:callable E.P f=true) {R:Value→World→Prop}
 (h:∀ vs,RepL w c args vs→Calls E.P f vs.toArray w fun e w'=>∃ v,e=.returned v∧R v w'):Runs E.P a.eval o w R:=by
 obtain⟨hi,hdst,hgd⟩:=toOp_spec hm
 unfold callee at hc
 split at hc
 ·rename_i f' args' hmi
  cases hc
  rw[hmi] at hi
  obtain⟨cl,ho,hcl,hc,hargs⟩:=toI_call (hi.resolve_right (by simp))
  refine .inr ⟨f,_,?_,h (cl.args.toList.map a.eval) (toOs_RepL _ _ _ hargs (fun t x m h _=>hg.get h))⟩
  rw[run_call ho hcl (a:=#[]) (b:=#[]) rfl hcb]
  congr 2
  apply Array.ext'
  simp
 ·rename_i f' args' hmi
  split at hc
  ·rename_i fid first caps hf
   cases hc
   rw[hmi] at hi
   obtain⟨cl,t,ho,hcl,ht,rfl,hargs⟩:=toI_dcall (hi.resolve_right (by simp))
   have hft:=hg.get (t:=0) (x:=.tmp t) (m:=.t t) (by simp[toO,ht])
   rw[hf] at hft
   obtain⟨x,y,e1,r1,r2⟩:=hft
   refine .inr ⟨f,_,?_,h (x.toList++cl.args.toList.map a.eval++y.toList) (RepL.append (RepL.append r1 (toOs_RepL _ _ _ hargs (fun t x m h _=>hg.get h))) r2)⟩
   rw[run_call ho hcl (a:=x) (b:=y) e1 hcb]
   congr 2
   apply Array.ext'
   simp
  ·cases hc
 ·cases hc
theorem gOf_wanted (hg:Good E st c a w) {ops:Array Oper} {soft:Bool} {o:Oper} {m:MOp} (hm:toOp E.P E.nt ops soft o=some m) {gb:Bool} (h:gOf st m=some gb):Region.wanted o (yielded ops a.tmps)=gb:=by
 obtain⟨hi,hdst,hgd⟩:=toOp_spec hm
 unfold gOf at h
 rcases hgd with ⟨hg1,hg2⟩|⟨j,want,t,hg1,hg2,hlt,hg3⟩
 ·rw[hg2] at h
  cases h
  simp[Region.wanted,hg1]
 ·rw[hg3] at h
  exact guard_wanted hg hg1 hg2 hlt h
theorem evRun_ok {cp:FuncId→List PV→Option Res} (hcp:CpOk E.P cp) {ci:FuncId→List PV→List (Key × Option HE)→Nat→Option (PV × List (Key × Option HE) × Nat)} (hci:CiOk E.P ci) {mode:FuncId→Bool} {ops:Array Oper} {soft:Bool} {Q:Exit→Act→World→Prop} {stF:St} {NF:Nat}
 (hQ:∀ c a w,Good E stF c a w→Bnd c NF→Q .normal a w):∀ (l:List Oper) (ms:List MOp) (st:St) (N:Nat) (c:Ctx) (a:Act) (w:World),toOps E.P E.nt ops soft l=some ms→evRun mode cp ci ms st N=some (stF,NF)→Good E st c a w→Bnd c N→wpList E.P ops Q l a w
 | [],ms,st,N,c,a,w,h,he,hg,hb=>by
   simp only[toOps,Option.some.injEq] at h
   subst h
   simp only[evRun,Option.some.injEq,Prod.mk.injEq] at he
   obtain⟨rfl,rfl⟩:=he
   exact hQ c a w hg hb
 | o::l,ms,st,N,c,a,w,h,he,hg,hb=>by
   simp only[toOps] at h
   split at h
   ·rename_i m ms' h1 h2
    cases h
    simp only[evRun] at he
    split at he
    ·rename_i st' N' hone
     unfold wpList
     have hdst:=(toOp_spec h1).2.1
     unfold evOne at hone
     split at hone
     ·
       unfold evCallI at hone
       split at hone
       ·rename_i hgo
        split at hone
        ·rename_i f args hcl
         split at hone
         ·rename_i r h' N'' hcall
          cases hone
          obtain⟨hcb,hcc⟩:=hci _ _ _ _ _ _ _ hcall
          rw[if_pos (gOf_wanted hg h1 hgo)]
          refine .inl (Runs.wp (callee_runs hg h1 hcl hcb fun vs hr=>Calls.mono (hcc E a c w vs m.dst st.s rfl hg hb hr) ?_))
          rintro e w' ⟨v,hev,c',hg',hb'⟩
          exact⟨v,hev,evRun_ok hcp hci hQ l ms' _ _ c' _ w' h2 he (by rw[← hdst]; exact hg') hb'⟩
         ·cases hone
        ·cases hone
       ·rename_i hgo
        cases hone
        rw[if_neg (by rw[gOf_wanted hg h1 hgo]; simp)]
        exact evRun_ok hcp hci hQ l ms' _ _ c _ w h2 he (hg.put (d:=o.dst) (r:=skipV) (by rw[← hdst]; rfl) (by simpa[St.skip] using hg.hgood) ⟨fun h=>(by cases h),fun _=>rfl⟩ (Ctx.Le.refl c) (Mono.refl _ _)) hb
       ·cases hone
     ·split at hone
      ·rename_i hlt
       split at hone
       ·rename_i o' ho'
        cases hone
        have hN:N<BIG:=by simpa[Nat.blt_eq] using hlt
        have hkey:¬ c.U (m.dst.getD 0,N):=fun hu=>by
         rcases hb _ hu with h|h
         ·exact Nat.lt_irrefl _ h
         ·simp only at h; omega
        have hb' : ∀ c' : Ctx,(∀ k:Key,c'.U k→c.U k∨k=(m.dst.getD 0,N))→Bnd c' (N+1):=fun c' hc' k hk=>by
         rcases hc' k hk with h|rfl
         ·exact (hb k h).imp (fun h=>by omega) (fun h=>h)
         ·exact .inl (Nat.lt_succ_self _)
        obtain⟨s1,s2⟩:=step_sound hg h1 hkey (evStep_ok hcp ho')
        split
        ·rename_i hw
         refine .inl (Runs.wp ((s1 hw).mono ?_))
         rintro u w' ⟨_,st'',c',⟨rfl,rfl⟩,hg',hU⟩
         exact evRun_ok hcp hci hQ l ms' _ _ c' _ w' h2 he hg' (hb' c' hU)
        ·rename_i hw
         obtain⟨_,st'',c',⟨rfl,rfl⟩,hg',hU⟩:=s2 (by simpa using hw)
         exact evRun_ok hcp hci hQ l ms' _ _ c' _ w h2 he hg' (hb' c' hU)
       ·cases hone
      ·cases hone
    ·cases he
   ·cases h
end
end Go.Proofs.YtnlfgnelfooljaaGreatDoor.Pv
namespace Go.Proofs.YtnlfgnelfooljaaGreatDoor.Pv
open Go Go.RowKit
def resOkB (st:St):List RV→Bool
 | []=>true
 | .tmp _::rs=>resOkB st rs
 | .cell a _ n ag::rs=>(match lk a st.s with
   | .ptr g _ i off=>match hk g st.h with
     | some e=>decide (i<e.xs.length)&&decide (off+n≤(e.xs.getD i []).length)&&(ag||decide (n=1))
     | none=>false
   | _=>false)&&resOkB st rs
theorem resOkB_ok {st:St}:∀ rs,resOkB st rs=true→resOk st rs
 | [],_=>trivial
 | .tmp _::rs,h=>resOkB_ok rs h
 | .cell a t n ag::rs,h=>by
   simp only[resOkB,Bool.and_eq_true] at h
   refine⟨?_,resOkB_ok rs h.2⟩
   have h1:=h.1
   split at h1
   ·rename_i g esz i off hx
    split at h1
    ·rename_i e he
     simp only[Bool.and_eq_true,decide_eq_true_eq,Bool.or_eq_true] at h1
     simp only[hx,he]
     exact⟨h1.1.1,h1.1.2,fun h=>h1.2.resolve_left (by simp[h])⟩
    ·cases h1
   ·cases h1
def finV (hl:Key→Option HE) (r:PV):Option Res:=if okVB hl r then some (.val (reify hl r)) else none
def finP (hl:Key→Option HE) (r:PV):Option Res:=match r with
 | .own g esz off len _=>(match hl g with
   | some e=>if !e.fz&&!e.bx&&decide (off+len≤e.xs.length) then some (.own esz ((e.xs.drop off).take len)) else finV hl r
   | none=>none)
 | r=>finV hl r
def exEnd:Ex→Bool
 | .normal|.ret=>true
 | _=>false
abbrev Tab:=FuncId→Option (MC × Nat × List RV)
abbrev Evn:=MC→St→Nat→Option (Ex × St × Nat)
abbrev Ext:=FuncId→List PV→Option Res
def cpIn (T:Tab) (evn:Evn) (f:FuncId) (args:List PV):Option Res:=match T f with
 | some (m,nt,rs)=>if Nat.ble args.length nt then (match evn m (St.init args) 0 with
   | some (ex,st,_)=>if exEnd ex&&resOkB st rs then finP (fun k=>hk k st.h) (resAll st rs) else none
   | none=>none) else none
 | none=>none
def cpOf (X:Ext) (T:Tab) (evn:Evn) (f:FuncId) (args:List PV):Option Res:=match X f args with
 | some r=>some r
 | none=>cpIn T evn f args
def ciOf (T:Tab) (evn:Evn) (f:FuncId) (args:List PV) (h:List (Key × Option HE)) (N:Nat):Option (PV × List (Key × Option HE) × Nat):=match T f with
 | some (m,nt,rs)=>if Nat.ble args.length nt then (match evn m ⟨(St.init args).s,h⟩ N with
   | some (ex,st,N')=>if exEnd ex&&resOkB st rs then some (resAll st rs,st.h,N') else none
   | none=>none) else none
 | none=>none
def ev (X:Ext) (T:Tab) (mode:FuncId→Bool):Nat→MC→St→Nat→Option (Ex × St × Nat)
 | 0,_,_,_=>none
 | n+1,m,st,N=>match m with
   | .skip=>some (.normal,st,N)
   | .reg ms=>(match evRun mode (cpOf X T (ev X T mode n)) (ciOf T (ev X T mode n)) ms st N with
     | some (st',N')=>some (.normal,st',N')
     | none=>none)
   | .draw un ms=>if Nat.blt N BIG then (match evD (cpOf X T (ev X T mode n)) un N ms [] st with
     | some st'=>some (.normal,st',N+1)
     | none=>none) else none
   | .seq x y=>(match ev X T mode n x st N with
     | some (.normal,st',N')=>ev X T mode n y st' N'
     | r=>r)
   | .cond c x y=>(match st.get c with
     | .bool true=>ev X T mode n x st N
     | .bool false=>ev X T mode n y st N
     | _=>none)
   | .block id x=>(match ev X T mode n x st N with
     | some (.exit j,st',N')=>if j=id then some (.normal,st',N') else some (.exit j,st',N')
     | r=>r)
   | .loop x=>(match ev X T mode n x st N with
     | some (.normal,st',N')=>ev X T mode n (.loop x) st' N'
     | r=>r)
   | .exit id=>some (.exit id,st,N)
   | .ret=>some (.ret,st,N)
   | .label _=>some (.normal,st,N)
   | .goto l=>some (.goto l,st,N)
   | .scope x=>(match ev X T mode n x st N with
     | some (.goto _,_,_)=>none
     | r=>r)
   | .bad=>none
   | .cut _=>none
def EvOk (P:Program) (evn:Evn):Prop :=
 ∀ (E:Env) (c:Code) (m:MC) (st:St) (N:Nat) (ex:Ex) (st' : St) (N' : Nat) (c0:Ctx) (a:Act) (w:World),E.P=P→toMC E.P E.nt c=some m→evn m st N=some (ex,st',N')→Good E st c0 a w→Bnd c0 N →
   c.wp E.P (fun e a' w'=>e=Ex.to ex∧∃ c',Good E st' c' a' w'∧Bnd c' N') a w
theorem finP_ok {P:Program} {f nt:Nat} {m:MC} {rs:List RV} {args:List PV} {evn:Evn} (hev:EvOk P evn) (hm:mfOf P f=some (m,nt,rs)) (hn:args.length≤nt) {ex:Ex} {st:St} {N:Nat} (he:evn m (St.init args) 0=some (ex,st,N)) (hex:exEnd ex=true) (hr:resOkB st rs=true) :
 (∀ r,finP (fun k=>hk k st.h) (resAll st rs)=some (.val r)→Ret P f args r)∧∀ esz xs,finP (fun k=>hk k st.h) (resAll st rs)=some (.own esz xs)→RetO P f args esz xs:=by
 have hro:=resOkB_ok rs hr
 have run:∀ (Q:Ex→St→Prop),(∀ e,exEnd e=true→Q e st)→∀ c,toMC P nt c=some m→∀ w0 F0 (hG:GOk P w0 F0) a,Good ⟨P,w0,F0,nt,[],0,hG⟩ (St.init args) (dctx F0) a w0→c.wp P (endQ ⟨P,w0,F0,nt,[],0,hG⟩ Q) a w0:=fun Q hQ c hc w0 F0 hG a hg=>by
  refine wp_mono (hev ⟨P,w0,F0,nt,[],0,hG⟩ c m _ 0 ex st N (dctx F0) a w0 rfl hc he hg (fun k hk=>hk.elim)) ?_
  rintro e a' w' ⟨rfl,c',hg',_⟩
  exact⟨ex,st,rfl,hQ ex hex,c',hg'⟩
 have val:∀ r,finV (fun k=>hk k st.h) (resAll st rs)=some (.val r)→Ret P f args r:=fun r hf=>by
  unfold finV at hf
  split at hf
  ·rename_i hok
   cases hf
   refine Ret.of_wp hm hn (run _ (fun e he=>?_))
   cases e<;>first|exact⟨hro,okVB_ok _ hok,rfl⟩|(simp[exEnd] at he)
  ·cases hf
 have noown:∀ esz xs,finV (fun k=>hk k st.h) (resAll st rs)=some (.own esz xs)→False:=fun esz xs hf=>by
  unfold finV at hf
  split at hf<;>cases hf
 refine⟨fun r hf=>?_,fun esz xs hf=>?_⟩
 ·unfold finP at hf
  split at hf
  ·split at hf
   ·split at hf
    ·cases hf
    ·exact val r hf
   ·cases hf
  ·exact val r hf
 ·unfold finP at hf
  split at hf
  ·rename_i g esz' off len full hx
   split at hf
   ·rename_i e he'
    split at hf
    ·rename_i hc
     cases hf
     simp only[Bool.and_eq_true,Bool.not_eq_true',decide_eq_true_eq] at hc
     have this:ownIs (fun k=>hk k st.h) esz ((e.xs.drop off).take len) (resAll st rs):=by
      rw[hx]
      refine⟨rfl,?_⟩
      simp only at he'
      simp only[he']
      exact⟨hc.1.1,hc.1.2,hc.2,trivial⟩
     refine RetO.of_wp hm hn (run _ (fun e1 he1=>?_))
     cases e1<;>first|exact⟨hro,this⟩|(simp[exEnd] at he1)
    ·exact (noown _ _ hf).elim
   ·cases hf
  ·exact (noown _ _ hf).elim
theorem cpIn_ok {P:Program} {T:Tab} (hT:∀ f m nt rs,T f=some (m,nt,rs)→mfOf P f=some (m,nt,rs)) {evn:Evn} (hev:EvOk P evn):CpOk P (cpIn T evn):=fun f args=>by
 have key:∀ res,cpIn T evn f args=some res→(∀ r,res=.val r→Ret P f args r)∧∀ esz xs,res=.own esz xs→RetO P f args esz xs:=fun res h=>by
  unfold cpIn at h
  split at h
  ·rename_i m nt rs ht
   split at h
   ·rename_i hle
    split at h
    ·rename_i ex st N he
     split at h
     ·rename_i hc
      simp only[Bool.and_eq_true] at hc
      obtain⟨k1,k2⟩:=finP_ok hev (hT _ _ _ _ ht) (Nat.le_of_ble_eq_true hle) he hc.1 hc.2
      exact⟨fun r hr=>k1 r (by rw[← hr]; exact h),fun esz xs hr=>k2 esz xs (by rw[← hr]; exact h)⟩
     ·cases h
    ·cases h
   ·cases h
  ·cases h
 exact⟨fun r h=>(key _ h).1 r rfl,fun esz xs h=>(key _ h).2 esz xs rfl⟩
theorem cpOf_ok {P:Program} {X:Ext} (hX:CpOk P X) {T:Tab} (hT:∀ f m nt rs,T f=some (m,nt,rs)→mfOf P f=some (m,nt,rs)) {evn:Evn} (hev:EvOk P evn):CpOk P (cpOf X T evn):=fun f args=>by
 have h1:=hX f args
 have h2:=cpIn_ok hT hev f args
 unfold cpOf
 cases hx:X f args with
 | some r=>rw[hx] at h1; exact h1
 | none=>exact h2
theorem ciOf_ok {P:Program} {T:Tab} (hT:∀ f m nt rs,T f=some (m,nt,rs)→mfOf P f=some (m,nt,rs)) {evn:Evn} (hev:EvOk P evn):CiOk P (ciOf T evn):=fun f args h N r h' N' hc=>by
 unfold ciOf at hc
 split at hc
 ·rename_i m nt rs ht
  split at hc
  ·rename_i hle
   split at hc
   ·rename_i ex st N'' he
    split at hc
    ·rename_i hend
     cases hc
     simp only[Bool.and_eq_true] at hend
     have hro:=resOkB_ok rs hend.2
     obtain⟨fn,c0,hf,hcb,hb,hnt,htm,hrs⟩:=mfOf_spec (hT _ _ _ _ ht)
     subst hnt
     refine⟨hcb,fun E a c w vs d s hP hg hbd hr=>?_⟩
     subst hP
     refine calls_of_wp hf hb ?_
     refine wp_mono (hev ⟨E.P,E.w0,E.F0,fn.ntmps,ghostOf E s a,E.V,E.glob⟩ c0 m _ N ex st N' c _ w rfl htm he (inl_begin hg hr (Nat.le_of_ble_eq_true hle)) hbd) ?_
     rintro e a' w' ⟨rfl,c',hg',hb'⟩
     have key:a'.defers=[]∧∃ v,(results fn a'.tmps).run E.P w'=.ok v w'∧∃ v',Ending.returned v=.returned v'∧∃ c'',Good E ⟨putS d (resAll st rs) s,st.h⟩ c'' (a.put d v') w'∧Bnd c'' N':=by
      obtain⟨v,k1,k2⟩:=resAll_run hg' hrs hro
      exact⟨hg'.defers.trans (dfs_ghost E s a),v,k1,v,rfl,c',inl_end hg hg' k2,hb'⟩
     cases ex with
     | normal=>exact key
     | ret=>exact key
     | exit id=>simp[exEnd] at hend
     | goto l=>simp[exEnd] at hend
    ·cases hc
   ·cases hc
  ·cases hc
 ·cases hc
theorem loop_rounds {P:Program} {X:Ext} {T:Tab} {mode:FuncId→Bool} {E:Env} (hP:E.P=P) {x:Code} {mx:MC} (hx:toMC E.P E.nt x=some mx) {ex:Ex} {st' : St} {N' : Nat}:∀ (n:Nat),(∀ k,k<n→EvOk P (ev X T mode k))→∀ (st:St) (N:Nat) (c0:Ctx) (a:Act) (w:World),
 ev X T mode n (.loop mx) st N=some (ex,st',N')→Good E st c0 a w→Bnd c0 N→Code.rounds E.P x (fun e a' w'=>e=Ex.to ex∧∃ c',Good E st' c' a' w'∧Bnd c' N') n a w
 | 0,_,st,N,c0,a,w,he,_,_=>by simp[ev] at he
 | n+1,hall,st,N,c0,a,w,he,hg,hb=>by
   rw[rounds_succ]
   simp only[ev] at he
   have ih:=hall n (Nat.lt_succ_self n)
   split at he
   ·rename_i st1 N1 hx1
    refine wp_mono (ih E x mx st N _ _ _ c0 a w hP hx hx1 hg hb) ?_
    rintro e a' w' ⟨rfl,c1,hg1,hb1⟩
    exact loop_rounds hP hx n (fun k hk=>hall k (Nat.lt_succ_of_lt hk)) st1 N1 c1 a' w' he hg1 hb1
   ·rename_i r hne
    refine wp_mono (ih E x mx st N _ _ _ c0 a w hP hx he hg hb) ?_
    rintro e a' w' ⟨rfl,hrest⟩
    cases ex with
    | normal=>exact (hne _ _ he).elim
    | exit i=>exact⟨rfl,hrest⟩
    | goto l=>exact⟨rfl,hrest⟩
    | ret=>exact⟨rfl,hrest⟩
theorem ev_ok {P:Program} {X:Ext} (hX:CpOk P X) {T:Tab} (hmix:P.follows .mixedOrders=true) (hT:∀ f m nt rs,T f=some (m,nt,rs)→mfOf P f=some (m,nt,rs)) {mode:FuncId→Bool}:∀ n,EvOk P (ev X T mode n):=by
 intro n
 induction n using Nat.strongRecOn with
 | _ n ihs =>
 cases n with
 | zero=>intro E c m st N ex st' N' c0 a w hP hc he; simp[ev] at he
 | succ n =>
   have ih:=ihs n (Nat.lt_succ_self n)
   intro E c m st N ex st' N' c0 a w hP hc he hg hb
   subst hP
   have hcp:=cpOf_ok hX hT ih
   have hci:=ciOf_ok hT ih
   cases c with
   | skip =>
     simp only[toMC,Option.some.injEq] at hc
     subst hc
     simp only[ev,Option.some.injEq,Prod.mk.injEq] at he
     obtain⟨rfl,rfl,rfl⟩:=he
     exact wp_skip ⟨rfl,c0,hg,hb⟩
   | region id ops d =>
     simp only[toMC] at hc
     split at hc
     ·rename_i ms hops
      cases d with
      | true =>
        simp only[if_true] at hc
        split at hc
        ·rename_i hok
         cases hc
         simp only[ev] at he
         split at he
         ·rename_i hlt
          have hN:N<BIG:=by simpa[Nat.blt_eq] using hlt
          split at he
          ·rename_i st1 hd
           simp only[Option.some.injEq,Prod.mk.injEq] at he
           obtain⟨rfl,rfl,rfl⟩:=he
           refine draw_at hmix hops hok hN (evD_ok hcp _ _ _ _ hd) hg hb (fun s c1 a1 w1 hs hg1 hb1=>?_)
           subst hs
           exact⟨rfl,c1,hg1,fun k hk=>(hb1 k hk).imp Nat.lt_succ_of_le (fun h=>h)⟩
          ·cases he
         ·cases he
        ·cases hc
      | false =>
        simp only[Bool.false_eq_true,if_false,Option.some.injEq] at hc
        subst hc
        simp only[ev] at he
        split at he
        ·rename_i st1 N1 hrun
         simp only[Option.some.injEq,Prod.mk.injEq] at he
         obtain⟨rfl,rfl,rfl⟩:=he
         exact wp_region_list (evRun_ok hcp hci (fun c1 a1 w1 hg1 hb1=>⟨rfl,c1,hg1,hb1⟩) _ _ _ _ _ _ _ hops hrun hg hb)
        ·cases he
     ·cases hc
   | seq x y =>
     simp only[toMC] at hc
     split at hc
     ·rename_i mx my h1 h2
      cases hc
      simp only[ev] at he
      split at he
      ·rename_i st1 N1 hx
       refine wp_seq (wp_mono (ih E x mx st N _ _ _ c0 a w rfl h1 hx hg hb) ?_)
       rintro e a' w' ⟨rfl,c1,hg1,hb1⟩
       exact ih E y my _ _ _ _ _ c1 a' w' rfl h2 he hg1 hb1
      ·rename_i r hne
       refine wp_seq (wp_mono (ih E x mx st N _ _ _ c0 a w rfl h1 he hg hb) ?_)
       rintro e a' w' ⟨rfl,hrest⟩
       cases ex with
       | normal=>exact (hne _ _ he).elim
       | exit i=>exact⟨rfl,hrest⟩
       | goto l=>exact⟨rfl,hrest⟩
       | ret=>exact⟨rfl,hrest⟩
     ·cases hc
   | cond q x y =>
     simp only[toMC] at hc
     split at hc
     ·rename_i mc mx my h0 h1 h2
      cases hc
      have hq:=hg.get h0
      simp only[ev] at he
      split at he
      ·rename_i hb1
       rw[hb1] at hq
       exact wp_cond_true hq (ih E x mx _ _ _ _ _ c0 a w rfl h1 he hg hb)
      ·rename_i hb1
       rw[hb1] at hq
       exact wp_cond_false hq (ih E y my _ _ _ _ _ c0 a w rfl h2 he hg hb)
      ·cases he
     ·cases hc
   | block id x =>
     simp only[toMC,Option.map_eq_some_iff] at hc
     obtain⟨mx,h1,rfl⟩:=hc
     simp only[ev] at he
     split at he
     ·rename_i j st1 N1 hx
      refine wp_block (wp_mono (ih E x mx st N _ _ _ c0 a w rfl h1 hx hg hb) ?_)
      rintro e a' w' ⟨rfl,c1,hg1,hb1⟩
      simp only[Ex.to,Exit.inBlock]
      split at he
      ·rename_i hj
       simp only[Option.some.injEq,Prod.mk.injEq] at he
       obtain⟨rfl,rfl,rfl⟩:=he
       rw[if_pos hj]
       exact⟨rfl,c1,hg1,hb1⟩
      ·rename_i hj
       simp only[Option.some.injEq,Prod.mk.injEq] at he
       obtain⟨rfl,rfl,rfl⟩:=he
       rw[if_neg hj]
       exact⟨rfl,c1,hg1,hb1⟩
     ·rename_i r hne
      refine wp_block (wp_mono (ih E x mx st N _ _ _ c0 a w rfl h1 he hg hb) ?_)
      rintro e a' w' ⟨rfl,hrest⟩
      cases ex with
      | normal=>exact⟨rfl,hrest⟩
      | exit i=>exact (hne _ _ _ he).elim
      | goto l=>exact⟨rfl,hrest⟩
      | ret=>exact⟨rfl,hrest⟩
   | loop x =>
     have hc':=hc
     simp only[toMC,Option.map_eq_some_iff] at hc
     obtain⟨mx,h1,rfl⟩:=hc
     exact wp_loop_rounds _ (loop_rounds rfl h1 (n+1) ihs st N c0 a w he hg hb)
   | exit id =>
     simp only[toMC,Option.some.injEq] at hc
     subst hc
     simp only[ev,Option.some.injEq,Prod.mk.injEq] at he
     obtain⟨rfl,rfl,rfl⟩:=he
     exact wp_exit ⟨rfl,c0,hg,hb⟩
   | ret =>
     simp only[toMC,Option.some.injEq] at hc
     subst hc
     simp only[ev,Option.some.injEq,Prod.mk.injEq] at he
     obtain⟨rfl,rfl,rfl⟩:=he
     exact wp_ret ⟨rfl,c0,hg,hb⟩
   | label l =>
     simp only[toMC,Option.some.injEq] at hc
     subst hc
     simp only[ev,Option.some.injEq,Prod.mk.injEq] at he
     obtain⟨rfl,rfl,rfl⟩:=he
     exact wp_label ⟨rfl,c0,hg,hb⟩
   | goto l =>
     simp only[toMC,Option.some.injEq] at hc
     subst hc
     simp only[ev,Option.some.injEq,Prod.mk.injEq] at he
     obtain⟨rfl,rfl,rfl⟩:=he
     exact wp_goto ⟨rfl,c0,hg,hb⟩
   | scope x =>
     simp only[toMC,Option.map_eq_some_iff] at hc
     obtain⟨mx,h1,rfl⟩:=hc
     simp only[ev] at he
     split at he
     ·cases he
     ·rename_i r hne
      refine wp_scope_straight (wp_mono (ih E x mx st N _ _ _ c0 a w rfl h1 he hg hb) ?_)
      rintro e a' w' ⟨rfl,hrest⟩
      cases ex with
      | normal=>exact⟨rfl,hrest⟩
      | exit i=>exact⟨rfl,hrest⟩
      | goto l=>exact (hne _ _ _ he).elim
      | ret=>exact⟨rfl,hrest⟩
   | _ =>
     simp only[toMC,Option.some.injEq] at hc
     subst hc
     simp[ev] at he
end Go.Proofs.YtnlfgnelfooljaaGreatDoor.Pv

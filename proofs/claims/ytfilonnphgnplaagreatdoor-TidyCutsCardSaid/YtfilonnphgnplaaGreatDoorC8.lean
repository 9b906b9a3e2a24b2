/- Part 8. -/
import Derived.Test.YtfilonnphgnplaaGreatDoorC7
import Derived.Lib.ValidU
set_option linter.unusedSimpArgs false
set_option linter.unusedVariables false
namespace Go.Tidy
open Go
mutual
def bdT (NM:List S) (m:Nat):Ty→Prop
 | .mk _ _ _ _ _ _ ts as os=>ts.length≤4*m∧os.length≤m∧bdAs NM m as∧bdOs NM m os
def bdAs (NM:List S) (m:Nat):List Arr→Prop
 | []=>True
 | .mk t _ _::l=>bdT NM m t∧bdAs NM m l
def bdOs (NM:List S) (m:Nat):List Ob→Prop
 | []=>True
 | .mk ns fs _ r::l=>((∀ n∈ns,n∈NM)∧bdTs NM m fs∧bdT NM m r)∧bdOs NM m l
def bdTs (NM:List S) (m:Nat):List Ty→Prop
 | []=>True
 | t::l=>bdT NM m t∧bdTs NM m l
end
def bdO (NM:List S) (m:Nat) (o:Ob):Prop:=(∀ n∈o.names,n∈NM)∧(∀ f∈o.fields,bdT NM m f)∧bdT NM m o.rest
section
variable {NM:List S} {m k:Nat}
theorem bdAs_iff:∀ {l:List Arr},bdAs NM m l↔∀ a∈l,bdT NM m a.item
 | []=>by simp[bdAs]
 | .mk t lo hi::l=>by simp only[bdAs,List.mem_cons,forall_eq_or_imp,Arr.item_mk]; exact and_congr Iff.rfl bdAs_iff
theorem bdTs_iff:∀ {l:List Ty},bdTs NM m l↔∀ a∈l,bdT NM m a
 | []=>by simp[bdTs]
 | t::l=>by simp only[bdTs,List.mem_cons,forall_eq_or_imp]; exact and_congr Iff.rfl bdTs_iff
theorem bdOs_iff:∀ {l:List Ob},bdOs NM m l↔∀ o∈l,bdO NM m o
 | []=>by simp[bdOs]
 | .mk ns fs ms r::l=>by
   simp only[bdOs,List.mem_cons,forall_eq_or_imp,bdTs_iff]
   exact and_congr Iff.rfl bdOs_iff
theorem bdT_iff {t:Ty}:bdT NM m t↔t.texts.length≤4*m∧t.objects.length≤m∧(∀ a∈t.arrays,bdT NM m a.item)∧∀ o∈t.objects,bdO NM m o:=by
 obtain⟨a,b,c,d,ns,e,ts,as,os⟩:=t
 simp only[bdT,bdAs_iff,bdOs_iff,Ty.texts_mk,Ty.arrays_mk,Ty.objects_mk]
theorem bd_every:bdT NM m tEvery:=by rw[bdT_iff]; simp[tEvery]
theorem bd_never:bdT NM m tNever:=by rw[bdT_iff]; simp[tNever]
end
mutual
theorem bd_mono {NM:List S} {m k:Nat} (h:m≤k):∀ t:Ty,bdT NM m t→bdT NM k t
 | .mk _ _ _ _ _ _ ts as os,ht=>⟨Nat.le_trans ht.1 (by omega),Nat.le_trans ht.2.1 h,bd_monoAs h as ht.2.2.1,bd_monoOs h os ht.2.2.2⟩
theorem bd_monoAs {NM:List S} {m k:Nat} (h:m≤k):∀ l:List Arr,bdAs NM m l→bdAs NM k l
 | [],_=>trivial
 | .mk t _ _::l,ht=>⟨bd_mono h t ht.1,bd_monoAs h l ht.2⟩
theorem bd_monoOs {NM:List S} {m k:Nat} (h:m≤k):∀ l:List Ob,bdOs NM m l→bdOs NM k l
 | [],_=>trivial
 | .mk ns fs ms r::l,ht=>⟨⟨ht.1.1,bd_monoTs h fs ht.1.2.1,bd_mono h r ht.1.2.2⟩,bd_monoOs h l ht.2⟩
theorem bd_monoTs {NM:List S} {m k:Nat} (h:m≤k):∀ l:List Ty,bdTs NM m l→bdTs NM k l
 | [],_=>trivial
 | t::l,ht=>⟨bd_mono h t ht.1,bd_monoTs h l ht.2⟩
end
section
variable {NM:List S} {m k:Nat}
theorem bdO_mono (h:m≤k) {o:Ob} (ho:bdO NM m o):bdO NM k o:=⟨ho.1,fun f hf=>bd_mono h f (ho.2.1 f hf),bd_mono h _ ho.2.2⟩
theorem mergeS_len:∀ l m:List S,(mergeS l m).length≤l.length+m.length
 | [],b=>by simp[mergeS]
 | a::l,[]=>by simp[mergeS]
 | a::l,b::m=>by
   unfold mergeS
   split
   ·have:=mergeS_len l (b::m); simp at this ⊢; omega
   ·split
    ·have:=mergeS_len (a::l) m; simp at this ⊢; omega
    ·have:=mergeS_len l m; simp at this ⊢; omega
termination_by l m=>l.length+m.length
theorem bd_sumT:∀ (n:Nat) (a b:Ty),heightT a≤n→bdT NM m a→bdT NM k b→bdT NM (m+k) (sumT a b):=by
 intro n
 induction n with
 | zero =>
   intro a b hn ha hb
   have h0:=height_le_zero.1 hn
   rw[sumT_def]
   split
   ·exact bd_every
   ·rw[bdT_iff] at *
    simp only[Ty.texts_mk,Ty.arrays_mk,Ty.objects_mk,h0.1,h0.2,sumAs_nil_l,List.nil_append]
    refine⟨?_,by omega,fun a ha'=>bd_mono (by omega) _ (hb.2.2.1 a ha'),fun o ho=>bdO_mono (by omega) (hb.2.2.2 o ho)⟩
    split
    ·simp
    ·have:=mergeS_len a.texts b.texts; omega
 | succ n ih =>
   intro a b hn ha hb
   have h1:=height_le_succ.1 hn
   rw[sumT_def]
   split
   ·exact bd_every
   ·rw[bdT_iff] at *
    simp only[Ty.texts_mk,Ty.arrays_mk,Ty.objects_mk]
    refine⟨?_,by simp; omega,fun x hx=>?_,fun o ho=>?_⟩
    ·split
     ·simp
     ·have:=mergeS_len a.texts b.texts; omega
    ·cases e1:a.arrays with
     | nil=>rw[e1,sumAs_nil_l] at hx; exact bd_mono (by omega) _ (hb.2.2.1 x hx)
     | cons y l =>
       cases e2:b.arrays with
       | nil=>rw[e1,e2,sumAs_nil_r] at hx; exact bd_mono (by omega) _ (ha.2.2.1 x (by rw[e1]; exact hx))
       | cons z l' =>
         rw[e1,e2] at hx
         simp only[sumAs,List.mem_singleton] at hx
         subst hx
         rw[sumA_def]
         exact ih _ _ (h1.1 y (by rw[e1]; simp)) (ha.2.2.1 y (by rw[e1]; simp)) (hb.2.2.1 z (by rw[e2]; simp))
    ·rcases List.mem_append.1 ho with ho|ho
     ·exact bdO_mono (by omega) (ha.2.2.2 o ho)
     ·exact bdO_mono (by omega) (hb.2.2.2 o ho)
theorem bd_sum {a b:Ty} (ha:bdT NM m a) (hb:bdT NM k b):bdT NM (m+k) (sumT a b):=bd_sumT (heightT a) a b (Nat.le_refl _) ha hb
theorem bd_fold:∀ (l:List Ty) (acc:Ty) (k:Nat),(∀ t∈l,bdT NM m t)→bdT NM k acc→bdT NM (k+l.length*m) (l.foldl sumT acc)
 | [],acc,k,_,h=>by simpa using h
 | t::l,acc,k,hl,h=>by
   have:=bd_fold l _ (k+m) (fun x hx=>hl x (by simp[hx])) (bd_sum h (hl t (by simp)))
   rw[List.foldl_cons]
   have e:k+(t::l).length*m=k+m+l.length*m:=by simp[Nat.add_mul]; omega
   rw[e]; exact this
theorem bd_sumL {l:List Ty} (h:∀ t∈l,bdT NM m t):bdT NM (l.length*m) (sumL l):=by
 have:=bd_fold l tNever 0 h bd_never
 rwa [Nat.zero_add] at this
theorem bd_field {o:Ob} (h:bdO NM m o) (s:S):bdT NM m (fieldO o s).1:=by
 rcases fieldO_in o s with e|e
 ·exact h.2.1 _ e
 ·rw[e]; exact h.2.2
theorem namesL_sub (l:List Ob):∀ n∈namesL l,∃ o∈l,n∈o.names:=by
 have key:∀ (l:List Ob) (acc:List S),∀ n∈l.foldl (fun acc o=>mergeS acc o.names) acc,n∈acc∨∃ o∈l,n∈o.names:=by
  intro l
  induction l with
  | nil=>intro acc n h; exact .inl h
  | cons o l ih =>
    intro acc n h
    rcases ih _ n h with h|⟨p,hp,hn⟩
    ·rcases (mem_mergeS _ _ _).1 h with h|h
     ·exact .inl h
     ·exact .inr ⟨o,by simp,h⟩
    ·exact .inr ⟨p,by simp[hp],hn⟩
 intro n hn
 rcases key l [] n hn with h|h
 ·cases h
 ·exact h
theorem bd_oneO {l:List Ob} (h:∀ o∈l,bdO NM m o):bdO NM (l.length*m) (oneO l):=by
 refine⟨fun n hn=>?_,fun f hf=>?_,?_⟩
 ·obtain⟨o,ho,hn⟩:=namesL_sub l n hn
  exact (h o ho).1 n hn
 ·simp only[oneO,Ob.fields_mk,List.mem_map] at hf
  obtain⟨s,_,rfl⟩:=hf
  have:=bd_sumL (NM:=NM) (m:=m) (l:=l.map fun o=>(fieldO o s).1) (fun t ht=>by
   obtain⟨o,ho,rfl⟩:=List.mem_map.1 ht
   exact bd_field (h o ho) s)
  simpa using this
 ·have:=bd_sumL (NM:=NM) (m:=m) (l:=l.map Ob.rest) (fun t ht=>by
     obtain⟨o,ho,rfl⟩:=List.mem_map.1 ht
     exact (h o ho).2.2)
  rw[List.length_map] at this
  exact this
theorem bd_spareO {o:Ob} (h:bdO NM m o):bdO NM m (spareO o):=⟨fun n hn=>h.1 n (spareO_names o n hn),fun f hf=>h.2.1 f (spareO_fields o f hf),h.2.2⟩
theorem bd_trimO {N:Ty→Ty} (hN:∀ t m,bdT NM m t→bdT NM 4 (N t)) {o:Ob} (h:bdO NM 4 o):bdO NM 4 (trimO N o):=by
 unfold trimO
 have hs:=bd_spareO h
 generalize spareO o=p at *
 simp only
 split
 ·exact hs
 ·refine bd_spareO ⟨fun n hn=>hs.1 n (List.mem_of_mem_take hn),fun f hf=>hs.2.1 f (List.mem_of_mem_take hf),hN _ _ (bd_sumL (m:=4) fun t ht=>?_)⟩
  rcases List.mem_cons.1 ht with rfl|ht
  ·exact hs.2.2
  ·exact hs.2.1 t (List.mem_of_mem_drop ht)
theorem bd_objectO {N:Ty→Ty} (hN:∀ t m,bdT NM m t→bdT NM 4 (N t)) {o:Ob} (h:bdO NM m o):bdO NM 4 (objectO N o) :=
 bd_trimO hN ⟨h.1,fun f hf=>by
  obtain⟨t,ht,rfl⟩:=List.mem_map.1 hf
  exact hN t m (h.2.1 t ht),hN _ m h.2.2⟩
theorem bd_objectsO {N:Ty→Ty} (hN:∀ t m,bdT NM m t→bdT NM 4 (N t)) {l:List Ob} (h:∀ o∈l,bdO NM 4 o):∀ o∈objectsO N l,bdO NM 4 o:=fun o ho=>by
 rcases objectsO_mem ho with h'|⟨l',h1,_,rfl⟩
 ·exact h o h'
 ·exact bd_objectO hN (bd_oneO fun x hx=>h x (h1 x hx))
theorem bd_normalT:∀ (h:Nat) (t:Ty) (m:Nat),bdT NM m t→bdT NM 4 (normalT h t):=by
 have fin:∀ (t:Ty) (as:List Arr) (os:List Ob),os.length≤4→(∀ a∈as,bdT NM 4 a.item)→(∀ o∈os,bdO NM 4 o)→bdT NM 4 (finT t as os):=fun t as os h1 h2 h3=>by
  rcases finT_cases t as os with e|e<;>rw[e]
  ·exact bd_every
  ·rw[bdT_iff]
   simp only[Ty.texts_mk,Ty.arrays_mk,Ty.objects_mk]
   refine⟨?_,h1,h2,h3⟩
   split
   ·simp
   ·omega
 intro h
 induction h with
 | zero =>
   intro t m _
   rw[normalT_zero]
   split
   ·exact bd_every
   ·exact fin t [] [] (by simp) (by simp) (by simp)
 | succ h ih =>
   intro t m ht
   rw[normalT_succ]
   split
   ·exact bd_every
   ·rw[bdT_iff] at ht
    refine fin t _ _ (objectsO_len _ _).1 (fun a ha=>?_) (bd_objectsO ih fun o ho=>?_)
    ·obtain⟨x,hx,rfl⟩:=List.mem_map.1 ha
     exact ih _ m (ht.2.2.1 x hx)
    ·obtain⟨x,hx,rfl⟩:=List.mem_map.1 ho
     exact bd_objectO ih (ht.2.2.2 x hx)
theorem SS_len {l:List S} (h:SSs l) (hs:∀ n∈l,n∈NM):l.length≤NM.length:=by
 induction l generalizing NM with
 | nil=>simp
 | cons a l ih =>
   unfold SSs SS at h
   rw[List.pairwise_cons] at h
   have ha:=hs a (by simp)
   have:=ih (NM:=NM.filter fun n=>!sEq n a) h.2 (fun n hn=>by
    have hne:n≠a:=fun e=>by
     have:=h.1 n hn
     rw[e,self_eq sCmp_swap] at this; cases this
    refine List.mem_filter.2 ⟨hs n (by simp[hn]),?_⟩
    rw[Bool.not_eq_true',← Bool.not_eq_true,sEq_iff]
    exact hne)
   have hlt:(NM.filter fun n=>!sEq n a).length<NM.length:=by
    rw[List.length_filter_lt_length_iff_exists]
    exact⟨a,ha,by simp[sEq_iff.2 rfl]⟩
   simp; omega
end
mutual
theorem nm_of_bd {NM:List S} {m n:Nat} (hn:NM.length≤n):∀ t:Ty,formedT t=true→bdT NM m t→nmT n t=true
 | .mk a b c d ns e ts as os,h,k=>by
   have hs:=formedT_spec h
   simp only[nmT,Bool.and_eq_true]
   exact⟨nm_of_bdAs hn as hs.2.2.2.2.2.2.1 k.2.2.1,nm_of_bdOs hn os hs.2.2.2.2.2.2.2 k.2.2.2⟩
theorem nm_of_bdAs {NM:List S} {m n:Nat} (hn:NM.length≤n):∀ l:List Arr,(∀ a∈l,formedA a=true)→bdAs NM m l→nmAs n l=true
 | [],_,_=>rfl
 | .mk t lo hi::l,h,k=>by
   simp only[nmAs,Bool.and_eq_true]
   exact⟨nm_of_bd hn t (formedA_spec (h (.mk t lo hi) (by simp))).2.2.2.1 k.1,nm_of_bdAs hn l (fun a ha=>h a (by simp[ha])) k.2⟩
theorem nm_of_bdOs {NM:List S} {m n:Nat} (hn:NM.length≤n):∀ l:List Ob,(∀ a∈l,formedO a=true)→bdOs NM m l→nmOs n l=true
 | [],_,_=>rfl
 | .mk ns fs ms r::l,h,k=>by
   obtain⟨-,-,h3,h4,h5,-⟩:=formedO_spec (h (.mk ns fs ms r) (by simp))
   simp only[nmOs,Bool.and_eq_true,decide_eq_true_eq]
   exact⟨⟨⟨Nat.le_trans (SS_len (riseB_SS h3).1 k.1.1) hn,nm_of_bdTs hn fs h5 k.1.2.1⟩,nm_of_bd hn r h4 k.1.2.2⟩,nm_of_bdOs hn l (fun a ha=>h a (by simp[ha])) k.2⟩
theorem nm_of_bdTs {NM:List S} {m n:Nat} (hn:NM.length≤n):∀ l:List Ty,(∀ a∈l,formedT a=true)→bdTs NM m l→nmTs n l=true
 | [],_,_=>rfl
 | t::l,h,k=>by
   simp only[nmTs,Bool.and_eq_true]
   exact⟨nm_of_bd hn t (h t (by simp)) k.1,nm_of_bdTs hn l (fun a ha=>h a (by simp[ha])) k.2⟩
end
theorem bd_alone {NM:List S} {m:Nat} (hm:0<m) {o:Ob} (h:bdO NM m o):bdT NM m (aloneT o):=by
 rw[bdT_iff]; simp[aloneT]; exact⟨hm,h⟩
end Go.Tidy
namespace Go.Tidy
open Go
mutual
def tpT:Ty→Nat→Nat
 | .mk _ _ _ _ ns _ ts as os,m=>tpOs os m (tpAs as m (1+ts.length+ns.length))
def tpAs:List Arr→Nat→Nat→Nat
 | [],_,n=>n
 | .mk t _ _::l,m,n=>if n≤m then tpAs l m (n+tpT t (m-n)) else n
def tpOs:List Ob→Nat→Nat→Nat
 | [],_,n=>n
 | .mk ns fs ms r::l,m,n=>if n≤m then tpOs l m (tpTs fs m (n+ns.length+ms.length+tpT r (m-n))) else n
def tpTs:List Ty→Nat→Nat→Nat
 | [],_,n=>n
 | t::l,m,n=>if n≤m then tpTs l m (n+tpT t (m-n)) else n
end
mutual
def szT:Ty→Nat
 | .mk _ _ _ _ ns _ ts as os=>1+ts.length+ns.length+szAs as+szOs os
def szAs:List Arr→Nat
 | []=>0
 | .mk t _ _::l=>szT t+szAs l
def szOs:List Ob→Nat
 | []=>0
 | .mk ns fs ms r::l=>ns.length+ms.length+szT r+szTs fs+szOs l
def szTs:List Ty→Nat
 | []=>0
 | t::l=>szT t+szTs l
end
mutual
def nmsT:Ty→List S
 | .mk _ _ _ _ _ _ _ as os=>nmsAs as++nmsOs os
def nmsAs:List Arr→List S
 | []=>[]
 | .mk t _ _::l=>nmsT t++nmsAs l
def nmsOs:List Ob→List S
 | []=>[]
 | .mk ns fs _ r::l=>ns++nmsT r++nmsTs fs++nmsOs l
def nmsTs:List Ty→List S
 | []=>[]
 | t::l=>nmsT t++nmsTs l
end
mutual
theorem tp_sz:∀ (t:Ty) (m:Nat),tpT t m≤m→tpT t m=szT t
 | .mk _ _ _ _ ns _ ts as os,m,h=>by
   simp only[tpT,szT] at h ⊢
   have h2:=tp_szOs os m _ h
   have h1:=tp_szAs as m (1+ts.length+ns.length) (by omega)
   omega
theorem tp_szAs:∀ (l:List Arr) (m n:Nat),tpAs l m n≤m→tpAs l m n=n+szAs l
 | [],m,n,_=>by simp[tpAs,szAs]
 | .mk t _ _::l,m,n,h=>by
   simp only[tpAs,szAs] at h ⊢
   split at h
   ·rename_i hn
    rw[if_pos hn]
    have h1:=tp_szAs l m _ h
    have h2:=tp_sz t (m-n) (by omega)
    omega
   ·omega
theorem tp_szOs:∀ (l:List Ob) (m n:Nat),tpOs l m n≤m→tpOs l m n=n+szOs l
 | [],m,n,_=>by simp[tpOs,szOs]
 | .mk ns fs ms r::l,m,n,h=>by
   simp only[tpOs,szOs] at h ⊢
   split at h
   ·rename_i hn
    rw[if_pos hn]
    have h1:=tp_szOs l m _ h
    have h2:=tp_szTs fs m (n+ns.length+ms.length+tpT r (m-n)) (by omega)
    have h3:=tp_sz r (m-n) (by omega)
    omega
   ·omega
theorem tp_szTs:∀ (l:List Ty) (m n:Nat),tpTs l m n≤m→tpTs l m n=n+szTs l
 | [],m,n,_=>by simp[tpTs,szTs]
 | t::l,m,n,h=>by
   simp only[tpTs,szTs] at h ⊢
   split at h
   ·rename_i hn
    rw[if_pos hn]
    have h1:=tp_szTs l m _ h
    have h2:=tp_sz t (m-n) (by omega)
    omega
   ·omega
end
mutual
theorem nms_len:∀ t:Ty,(nmsT t).length≤szT t
 | .mk _ _ _ _ ns _ ts as os=>by
   have:=nms_lenAs as
   have:=nms_lenOs os
   simp only[nmsT,szT,List.length_append]; omega
theorem nms_lenAs:∀ l:List Arr,(nmsAs l).length≤szAs l
 | []=>by simp[nmsAs]
 | .mk t _ _::l=>by
   have:=nms_len t
   have:=nms_lenAs l
   simp only[nmsAs,szAs,List.length_append]; omega
theorem nms_lenOs:∀ l:List Ob,(nmsOs l).length≤szOs l
 | []=>by simp[nmsOs]
 | .mk ns fs ms r::l=>by
   have:=nms_len r
   have:=nms_lenTs fs
   have:=nms_lenOs l
   simp only[nmsOs,szOs,List.length_append]; omega
theorem nms_lenTs:∀ l:List Ty,(nmsTs l).length≤szTs l
 | []=>by simp[nmsTs]
 | t::l=>by
   have:=nms_len t
   have:=nms_lenTs l
   simp only[nmsTs,szTs,List.length_append]; omega
end
theorem szOs_len (l:List Ob):l.length≤szOs l:=by
 induction l with
 | nil=>simp
 | cons o l ih =>
   obtain⟨ns,fs,ms,r⟩:=o
   have:1≤szT r:=by cases r; simp only[szT]; omega
   simp only[szOs,List.length_cons]; omega
mutual
theorem bd_sz {NM:List S} {m:Nat}:∀ t:Ty,(∀ n∈nmsT t,n∈NM)→szT t≤m→bdT NM m t
 | .mk _ _ _ _ ns _ ts as os,hn,hm=>by
   have:=szOs_len os
   simp only[szT] at hm
   simp only[nmsT,List.mem_append] at hn
   exact⟨by omega,by omega,bd_szAs as (fun n h=>hn n (.inl h)) (by omega),bd_szOs os (fun n h=>hn n (.inr h)) (by omega)⟩
theorem bd_szAs {NM:List S} {m:Nat}:∀ l:List Arr,(∀ n∈nmsAs l,n∈NM)→szAs l≤m→bdAs NM m l
 | [],_,_=>trivial
 | .mk t _ _::l,hn,hm=>by
   simp only[szAs] at hm
   simp only[nmsAs,List.mem_append] at hn
   exact⟨bd_sz t (fun n h=>hn n (.inl h)) (by omega),bd_szAs l (fun n h=>hn n (.inr h)) (by omega)⟩
theorem bd_szOs {NM:List S} {m:Nat}:∀ l:List Ob,(∀ n∈nmsOs l,n∈NM)→szOs l≤m→bdOs NM m l
 | [],_,_=>trivial
 | .mk ns fs ms r::l,hn,hm=>by
   simp only[szOs] at hm
   simp only[nmsOs,List.mem_append] at hn
   exact⟨⟨fun n h=>hn n (.inl (.inl (.inl h))),bd_szTs fs (fun n h=>hn n (.inl (.inr h))) (by omega),bd_sz r (fun n h=>hn n (.inl (.inl (.inr h)))) (by omega)⟩,bd_szOs l (fun n h=>hn n (.inr h)) (by omega)⟩
theorem bd_szTs {NM:List S} {m:Nat}:∀ l:List Ty,(∀ n∈nmsTs l,n∈NM)→szTs l≤m→bdTs NM m l
 | [],_,_=>trivial
 | t::l,hn,hm=>by
   simp only[szTs] at hm
   simp only[nmsTs,List.mem_append] at hn
   exact⟨bd_sz t (fun n h=>hn n (.inl h)) (by omega),bd_szTs l (fun n h=>hn n (.inr h)) (by omega)⟩
end
theorem fit_bdT {t:Ty} (h:tpT t 20000≤20000):(nmsT t).length≤20000∧szT t≤20000∧bdT (nmsT t) (szT t) t:=by
 have:=tp_sz t 20000 h
 have hl:=nms_len t
 exact⟨by omega,by omega,bd_sz t (fun _ h=>h) (Nat.le_refl _)⟩
theorem tpT_def (t:Ty) (m:Nat):tpT t m=tpOs t.objects m (tpAs t.arrays m (1+t.texts.length+t.nums.length)):=by cases t; rfl
theorem tpAs_take (m:Nat):∀ (l:List Arr) (k n:Nat) (hk:k<l.length),tpAs (l.take (k+1)) m n=if tpAs (l.take k) m n≤m then tpAs (l.take k) m n+tpT l[k].item (m-tpAs (l.take k) m n) else tpAs (l.take k) m n
 | .mk t _ _::l,0,n,_=>by simp only[List.take_succ_cons,List.take_zero,tpAs,List.getElem_cons_zero,Arr.item_mk]
 | .mk t _ _::l,k+1,n,h=>by
   simp only[List.take_succ_cons,tpAs,List.getElem_cons_succ]
   split
   ·exact tpAs_take m l k _ (by simpa using h)
   ·rename_i hn; first|rfl|(rw[if_neg hn])
theorem tpTs_take (m:Nat):∀ (l:List Ty) (k n:Nat) (hk:k<l.length),tpTs (l.take (k+1)) m n=if tpTs (l.take k) m n≤m then tpTs (l.take k) m n+tpT l[k] (m-tpTs (l.take k) m n) else tpTs (l.take k) m n
 | t::l,0,n,_=>by simp only[List.take_succ_cons,List.take_zero,tpTs,List.getElem_cons_zero]
 | t::l,k+1,n,h=>by
   simp only[List.take_succ_cons,tpTs,List.getElem_cons_succ]
   split
   ·exact tpTs_take m l k _ (by simpa using h)
   ·rename_i hn; first|rfl|(rw[if_neg hn])
theorem tpOs_take (m:Nat):∀ (l:List Ob) (k n:Nat) (hk:k<l.length),tpOs (l.take (k+1)) m n=if tpOs (l.take k) m n≤m then tpTs l[k].fields m (tpOs (l.take k) m n+l[k].names.length+l[k].must.length+tpT l[k].rest (m-tpOs (l.take k) m n)) else tpOs (l.take k) m n
 | .mk ns fs ms r::l,0,n,_=>by simp only[List.take_succ_cons,List.take_zero,tpOs,List.getElem_cons_zero,Ob.fields_mk,Ob.names_mk,Ob.must_mk,Ob.rest_mk]
 | .mk ns fs ms r::l,k+1,n,h=>by
   simp only[List.take_succ_cons,tpOs,List.getElem_cons_succ]
   split
   ·exact tpOs_take m l k _ (by simpa using h)
   ·rename_i hn; first|rfl|(rw[if_neg hn])
theorem tpAs_stop {m:Nat}:∀ {l:List Arr} {k n:Nat},m<tpAs (l.take k) m n→tpAs l m n=tpAs (l.take k) m n
 | [],k,n,_=>by simp
 | .mk t _ _::l,0,n,h=>by
   simp only[List.take_zero,tpAs] at h ⊢
   rw[if_neg (by omega)]
 | .mk t _ _::l,k+1,n,h=>by
   simp only[List.take_succ_cons,tpAs] at h ⊢
   split
   ·rename_i hn; rw[if_pos hn] at h; exact tpAs_stop h
   ·rfl
theorem tpTs_stop {m:Nat}:∀ {l:List Ty} {k n:Nat},m<tpTs (l.take k) m n→tpTs l m n=tpTs (l.take k) m n
 | [],k,n,_=>by simp
 | t::l,0,n,h=>by
   simp only[List.take_zero,tpTs] at h ⊢
   rw[if_neg (by omega)]
 | t::l,k+1,n,h=>by
   simp only[List.take_succ_cons,tpTs] at h ⊢
   split
   ·rename_i hn; rw[if_pos hn] at h; exact tpTs_stop h
   ·rfl
theorem tpOs_stop {m:Nat}:∀ {l:List Ob} {k n:Nat},m<tpOs (l.take k) m n→tpOs l m n=tpOs (l.take k) m n
 | [],k,n,_=>by simp
 | .mk ns fs ms r::l,0,n,h=>by
   simp only[List.take_zero,tpOs] at h ⊢
   rw[if_neg (by omega)]
 | .mk ns fs ms r::l,k+1,n,h=>by
   simp only[List.take_succ_cons,tpOs] at h ⊢
   split
   ·rename_i hn; rw[if_pos hn] at h; exact tpOs_stop h
   ·rfl
theorem tpAs_mono (m:Nat):∀ (l:List Arr) (n:Nat),n≤tpAs l m n
 | [],n=>by simp[tpAs]
 | .mk t _ _::l,n=>by
   simp only[tpAs]
   split
   ·have:=tpAs_mono m l (n+tpT t (m-n)); omega
   ·omega
theorem tpTs_mono (m:Nat):∀ (l:List Ty) (n:Nat),n≤tpTs l m n
 | [],n=>by simp[tpTs]
 | t::l,n=>by
   simp only[tpTs]
   split
   ·have:=tpTs_mono m l (n+tpT t (m-n)); omega
   ·omega
theorem tpOs_mono (m:Nat):∀ (l:List Ob) (n:Nat),n≤tpOs l m n
 | [],n=>by simp[tpOs]
 | .mk ns fs ms r::l,n=>by
   simp only[tpOs]
   split
   ·have:=tpOs_mono m l (tpTs fs m (n+ns.length+ms.length+tpT r (m-n)))
    have:=tpTs_mono m fs (n+ns.length+ms.length+tpT r (m-n))
    omega
   ·omega
def tpB (m:Nat):Nat:=m+(m+1)*281474976710656+281474976710657
mutual
def dlT:Ty→Prop
 | .mk _ _ _ _ ns _ ts as os=>ns.length≤140737488355328∧ts.length≤140737488355328∧dlAs as∧dlOs os
def dlAs:List Arr→Prop
 | []=>True
 | .mk t _ _::l=>dlT t∧dlAs l
def dlOs:List Ob→Prop
 | []=>True
 | .mk ns fs ms r::l=>(ns.length≤140737488355328∧ms.length≤140737488355328∧dlTs fs∧dlT r)∧dlOs l
def dlTs:List Ty→Prop
 | []=>True
 | t::l=>dlT t∧dlTs l
end
theorem tpB_step {m n:Nat} (h1:1≤n) (h2:n≤m):n+281474976710656+tpB (m-n)≤tpB m:=by
 unfold tpB
 omega
theorem tpB_base (m:Nat):281474976710657≤tpB m:=by unfold tpB; omega
mutual
theorem tp_bnd:∀ (t:Ty) (m:Nat),dlT t→tpT t m≤tpB m∧1≤tpT t m
 | .mk _ _ _ _ ns _ ts as os,m,h=>by
   obtain⟨h1,h2,h3,h4⟩:=h
   simp only[tpT]
   have b:=tpB_base m
   have a1:=tpAs_mono m as (1+ts.length+ns.length)
   have a2:=tpOs_mono m os (tpAs as m (1+ts.length+ns.length))
   have a3:=tp_bndAs as m (1+ts.length+ns.length) h3 (by omega) (by omega)
   have a4:=tp_bndOs os m _ h4 (by omega) a3
   exact⟨a4,by omega⟩
theorem tp_bndAs:∀ (l:List Arr) (m n:Nat),dlAs l→1≤n→n≤tpB m→tpAs l m n≤tpB m
 | [],m,n,_,_,h=>by simpa[tpAs] using h
 | .mk t _ _::l,m,n,h,h1,hn=>by
   simp only[tpAs]
   split
   ·rename_i hle
    have:=tp_bnd t (m-n) h.1
    have:=tpB_step h1 hle
    exact tp_bndAs l m _ h.2 (by omega) (by omega)
   ·exact hn
theorem tp_bndOs:∀ (l:List Ob) (m n:Nat),dlOs l→1≤n→n≤tpB m→tpOs l m n≤tpB m
 | [],m,n,_,_,h=>by simpa[tpOs] using h
 | .mk ns fs ms r::l,m,n,h,h1,hn=>by
   simp only[tpOs]
   split
   ·rename_i hle
    obtain⟨⟨q1,q2,q3,q4⟩,q5⟩:=h
    have:=tp_bnd r (m-n) q4
    have:=tpB_step h1 hle
    have a:=tpTs_mono m fs (n+ns.length+ms.length+tpT r (m-n))
    have b:=tp_bndTs fs m (n+ns.length+ms.length+tpT r (m-n)) q3 (by omega) (by omega)
    exact tp_bndOs l m _ q5 (by omega) b
   ·exact hn
theorem tp_bndTs:∀ (l:List Ty) (m n:Nat),dlTs l→1≤n→n≤tpB m→tpTs l m n≤tpB m
 | [],m,n,_,_,h=>by simpa[tpTs] using h
 | t::l,m,n,h,h1,hn=>by
   simp only[tpTs]
   split
   ·rename_i hle
    have:=tp_bnd t (m-n) h.1
    have:=tpB_step h1 hle
    exact tp_bndTs l m _ h.2 (by omega) (by omega)
   ·exact hn
end
theorem dlT_def (t:Ty):dlT t↔t.nums.length≤140737488355328∧t.texts.length≤140737488355328∧dlAs t.arrays∧dlOs t.objects:=by cases t; exact Iff.rfl
theorem dlAs_iff:∀ {l:List Arr},dlAs l↔∀ a∈l,dlT a.item
 | []=>by simp[dlAs]
 | .mk t lo hi::l=>by simp only[dlAs,List.mem_cons,forall_eq_or_imp,Arr.item_mk]; exact and_congr Iff.rfl dlAs_iff
theorem dlTs_iff:∀ {l:List Ty},dlTs l↔∀ a∈l,dlT a
 | []=>by simp[dlTs]
 | t::l=>by simp only[dlTs,List.mem_cons,forall_eq_or_imp]; exact and_congr Iff.rfl dlTs_iff
theorem dlOs_iff:∀ {l:List Ob},dlOs l↔∀ o∈l,o.names.length≤140737488355328∧o.must.length≤140737488355328∧(∀ f∈o.fields,dlT f)∧dlT o.rest
 | []=>by simp[dlOs]
 | .mk ns fs ms r::l=>by
   simp only[dlOs,List.mem_cons,forall_eq_or_imp,dlTs_iff,Ob.names_mk,Ob.must_mk,Ob.fields_mk,Ob.rest_mk]
   exact and_congr Iff.rfl dlOs_iff
mutual
theorem ht_sz:∀ t:Ty,heightT t<szT t
 | .mk _ _ _ _ ns _ ts as os=>by
   have:=ht_szAs as
   have:=ht_szOs os
   simp only[heightT,szT]; omega
theorem ht_szAs:∀ l:List Arr,heightAs l≤szAs l
 | []=>by simp[heightAs]
 | .mk t _ _::l=>by
   have:=ht_sz t
   have:=ht_szAs l
   simp only[heightAs,szAs]; omega
theorem ht_szOs:∀ l:List Ob,heightOs l≤szOs l
 | []=>by simp[heightOs]
 | .mk ns fs ms r::l=>by
   have:=ht_sz r
   have:=ht_szTs fs
   have:=ht_szOs l
   simp only[heightOs,szOs]; omega
theorem ht_szTs:∀ l:List Ty,heightTs l≤szTs l
 | []=>by simp[heightTs]
 | t::l=>by
   have:=ht_sz t
   have:=ht_szTs l
   simp only[heightTs,szTs]; omega
end
end Go.Tidy
namespace Go.Tidy
open Go
theorem get_list (l:List UInt8) (k:Nat):(ByteArray.mk l.toArray).get! k=l.getD k 0:=by
 simp[ByteArray.get!,List.getD,getElem!_def]
 cases l[k]?<;>rfl
theorem u8le (a b:UInt8):(a≤b)=(a.toNat≤b.toNat):=propext UInt8.le_iff_toNat_le
theorem u8lt (a b:UInt8):(a<b)=(a.toNat<b.toNat):=propext UInt8.lt_iff_toNat_lt
theorem u8eq (a b:UInt8):(a=b)=(a.toNat=b.toNat):=propext UInt8.toNat_inj.symm
set_option maxHeartbeats 4000000 in
theorem decode_width (c:UInt8) (l:List UInt8):((Lib.decodeL (c::l)).1=65533∧(Lib.decodeL (c::l)).2=1↔width (c::l)=0)∧(width (c::l)≠0→(Lib.decodeL (c::l)).2=width (c::l)):=by
 have hc:=c.toNat_lt
 have e128:UInt8.toNat 128=128:=rfl
 have e143:UInt8.toNat 143=143:=rfl
 have e144:UInt8.toNat 144=144:=rfl
 have e159:UInt8.toNat 159=159:=rfl
 have e160:UInt8.toNat 160=160:=rfl
 have e191:UInt8.toNat 191=191:=rfl
 unfold Lib.decodeL Utf8.decode width trail
 simp only[get_list,Utf8.runeError,Utf8.valid]
 have hs:(ByteArray.mk (c::l).toArray).size=l.length+1:=by simp[ByteArray.size]
 simp only[hs]
 match l with
 | [] =>
   simp[u8le,u8lt,u8eq]
   repeat' split
   all_goals simp
   all_goals omega
 | [d] =>
   have hd:=d.toNat_lt
   simp[u8le,u8lt,u8eq]
   repeat' split
   all_goals simp
   all_goals omega
 | [d,e] =>
   have hd:=d.toNat_lt
   have he:=e.toNat_lt
   simp[u8le,u8lt,u8eq]
   repeat' split
   all_goals simp
   all_goals omega
 | d::e::f::l =>
   have hd:=d.toNat_lt
   have he:=e.toNat_lt
   have hf:=f.toNat_lt
   simp[u8le,u8lt,u8eq]
   repeat' split
   all_goals simp
   all_goals omega
theorem trail_le {l:List UInt8} {n:Nat} {lo hi:UInt8} (h:trail l n lo hi=true):n≤l.length:=by
 simp[trail] at h; exact h.1.1
theorem width_le (l:List UInt8):width l≤l.length:=by
 cases l with
 | nil=>simp[width]
 | cons c l =>
   simp only[width]
   repeat' split
   all_goals first
     | (simp; done)
     | (rename_i h; simp only[Bool.and_eq_true] at h; have:=trail_le h.2; simp; omega)
theorem valid_utf:∀ (n:Nat) (l:List UInt8),l.length≤n→Lib.validGoD n l=utfL n l
 | 0,l,h=>by
   have:l=[]:=List.eq_nil_of_length_eq_zero (by omega)
   subst this; rfl
 | n+1,[],_=>by simp[Lib.validGoD,utfL]
 | n+1,c::l,h=>by
   have hd:=decode_width c l
   have hw:=width_le (c::l)
   simp only[Lib.validGoD,utfL,List.isEmpty_cons,Bool.false_or]
   rw[if_neg (by simp)]
   by_cases h0:width (c::l)=0
   ·rw[if_pos (hd.1.2 h0),h0]; simp
   ·rw[if_neg (fun h=>h0 (hd.1.1 h)),hd.2 h0]
    have:(width (c::l) != 0)=true:=by simpa using h0
    rw[this,Bool.true_and]
    refine valid_utf n _ ?_
    simp at h ⊢
    omega
theorem validD_utfB (s:S):Lib.validD s.data.toList=utfB s:=valid_utf _ _ (Nat.le_refl _)
end Go.Tidy

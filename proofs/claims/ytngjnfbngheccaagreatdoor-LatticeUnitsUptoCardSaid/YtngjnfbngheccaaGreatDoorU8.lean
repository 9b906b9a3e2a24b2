/- Part 8. -/
import Derived.Test.YtngjnfbngheccaaGreatDoorU7
import Derived.Lib.ValidU
set_option linter.unusedSimpArgs false
set_option linter.unusedVariables false
namespace Go.Tidy
open Go
mutual
def bdT (NM:List S) (m:Nat):Ty→Prop
 | .mk _ _ _ _ _ _ ts as os=>ts.length≤4*m∧os.length≤m∧afp NM m as∧afJ NM m os
def afp (NM:List S) (m:Nat):List Arr→Prop
 | []=>True
 | .mk t _ _::l=>bdT NM m t∧afp NM m l
def afJ (NM:List S) (m:Nat):List Ob→Prop
 | []=>True
 | .mk ns fs _ r::l=>((∀ n∈ns,n∈NM)∧afx NM m fs∧bdT NM m r)∧afJ NM m l
def afx (NM:List S) (m:Nat):List Ty→Prop
 | []=>True
 | t::l=>bdT NM m t∧afx NM m l
end
def bdO (NM:List S) (m:Nat) (o:Ob):Prop:=(∀ n∈o.names,n∈NM)∧(∀ f∈o.fields,bdT NM m f)∧bdT NM m o.rest
section
variable {NM:List S} {m k:Nat}
theorem aFl:∀ {l:List Arr},afp NM m l↔∀ a∈l,bdT NM m a.item
 | []=>by simp[afp]
 | .mk t lo hi::l=>by simp only[afp,List.mem_cons,forall_eq_or_imp,Arr.Ze]; exact and_congr Iff.rfl aFl
theorem aFH:∀ {l:List Ty},afx NM m l↔∀ a∈l,bdT NM m a
 | []=>by simp[afx]
 | t::l=>by simp only[afx,List.mem_cons,forall_eq_or_imp]; exact and_congr Iff.rfl aFH
theorem aEv:∀ {l:List Ob},afJ NM m l↔∀ o∈l,bdO NM m o
 | []=>by simp[afJ]
 | .mk ns fs ms r::l=>by
   simp only[afJ,List.mem_cons,forall_eq_or_imp,aFH]
   exact and_congr Iff.rfl aEv
theorem uz {t:Ty}:bdT NM m t↔t.texts.length≤4*m∧t.objects.length≤m∧(∀ a∈t.arrays,bdT NM m a.item)∧∀ o∈t.objects,bdO NM m o:=by
 obtain⟨a,b,c,d,ns,e,ts,as,os⟩:=t
 simp only[bdT,aFl,aEv,Ty.rz,Ty.qP,Ty.pQ]
theorem ahj:bdT NM m dx:=by rw[uz]; simp[dx]
theorem alE:bdT NM m aV:=by rw[uz]; simp[aV]
end
mutual
theorem IY {NM:List S} {m k:Nat} (h:m≤k):∀ t:Ty,bdT NM m t→bdT NM k t
 | .mk _ _ _ _ _ _ ts as os,ht=>⟨Nat.le_trans ht.1 (by omega),Nat.le_trans ht.2.1 h,azH h as ht.2.2.1,azJ h os ht.2.2.2⟩
theorem azH {NM:List S} {m k:Nat} (h:m≤k):∀ l:List Arr,afp NM m l→afp NM k l
 | [],_=>trivial
 | .mk t _ _::l,ht=>⟨IY h t ht.1,azH h l ht.2⟩
theorem azJ {NM:List S} {m k:Nat} (h:m≤k):∀ l:List Ob,afJ NM m l→afJ NM k l
 | [],_=>trivial
 | .mk ns fs ms r::l,ht=>⟨⟨ht.1.1,azp h fs ht.1.2.1,IY h r ht.1.2.2⟩,azJ h l ht.2⟩
theorem azp {NM:List S} {m k:Nat} (h:m≤k):∀ l:List Ty,afx NM m l→afx NM k l
 | [],_=>trivial
 | t::l,ht=>⟨IY h t ht.1,azp h l ht.2⟩
end
section
variable {NM:List S} {m k:Nat}
theorem ato (h:m≤k) {o:Ob} (ho:bdO NM m o):bdO NM k o:=⟨ho.1,fun f hf=>IY h f (ho.2.1 f hf),IY h _ ho.2.2⟩
theorem abo:∀ l m:List S,(fQ l m).length≤l.length+m.length
 | [],b=>by simp[fQ]
 | a::l,[]=>by simp[fQ]
 | a::l,b::m=>by
   unfold fQ
   split
   ·have:=abo l (b::m); simp at this ⊢; omega
   ·split
    ·have:=abo (a::l) m; simp at this ⊢; omega
    ·have:=abo l m; simp at this ⊢; omega
termination_by l m=>l.length+m.length
theorem aOn:∀ (n:Nat) (a b:Ty),aK a≤n→bdT NM m a→bdT NM k b→bdT NM (m+k) (jf a b):=by
 intro n
 induction n with
 | zero =>
   intro a b hn ha hb
   have h0:=sW.1 hn
   rw[zX]
   split
   ·exact ahj
   ·rw[uz] at *
    simp only[Ty.rz,Ty.qP,Ty.pQ,h0.1,h0.2,KU,List.nil_append]
    refine⟨?_,by omega,fun a ha'=>IY (by omega) _ (hb.2.2.1 a ha'),fun o ho=>ato (by omega) (hb.2.2.2 o ho)⟩
    split
    ·simp
    ·have:=abo a.texts b.texts; omega
 | succ n ih =>
   intro a b hn ha hb
   have h1:=uh.1 hn
   rw[zX]
   split
   ·exact ahj
   ·rw[uz] at *
    simp only[Ty.rz,Ty.qP,Ty.pQ]
    refine⟨?_,by simp; omega,fun x hx=>?_,fun o ho=>?_⟩
    ·split
     ·simp
     ·have:=abo a.texts b.texts; omega
    ·cases e1:a.arrays with
     | nil=>rw[e1,KU] at hx; exact IY (by omega) _ (hb.2.2.1 x hx)
     | cons y l =>
       cases e2:b.arrays with
       | nil=>rw[e1,e2,Uh] at hx; exact IY (by omega) _ (ha.2.2.1 x (by rw[e1]; exact hx))
       | cons z l' =>
         rw[e1,e2] at hx
         simp only[jR,List.mem_singleton] at hx
         subst hx
         rw[adO]
         exact ih _ _ (h1.1 y (by rw[e1]; simp)) (ha.2.2.1 y (by rw[e1]; simp)) (hb.2.2.1 z (by rw[e2]; simp))
    ·rcases List.mem_append.1 ho with ho|ho
     ·exact ato (by omega) (ha.2.2.2 o ho)
     ·exact ato (by omega) (hb.2.2.2 o ho)
theorem aEs {a b:Ty} (ha:bdT NM m a) (hb:bdT NM k b):bdT NM (m+k) (jf a b):=aOn (aK a) a b (Nat.le_refl _) ha hb
theorem aw2:∀ (l:List Ty) (acc:Ty) (k:Nat),(∀ t∈l,bdT NM m t)→bdT NM k acc→bdT NM (k+l.length*m) (l.foldl jf acc)
 | [],acc,k,_,h=>by simpa using h
 | t::l,acc,k,hl,h=>by
   have:=aw2 l _ (k+m) (fun x hx=>hl x (by simp[hx])) (aEs h (hl t (by simp)))
   rw[List.foldl_cons]
   have e:k+(t::l).length*m=k+m+l.length*m:=by simp[Nat.add_mul]; omega
   rw[e]; exact this
theorem ag1 {l:List Ty} (h:∀ t∈l,bdT NM m t):bdT NM (l.length*m) (qb l):=by
 have:=aw2 l aV 0 h alE
 rwa [Nat.zero_add] at this
theorem alU {o:Ob} (h:bdO NM m o) (s:S):bdT NM m (bn o s).1:=by
 rcases aoI o s with e|e
 ·exact h.2.1 _ e
 ·rw[e]; exact h.2.2
theorem agt (l:List Ob):∀ n∈um l,∃ o∈l,n∈o.names:=by
 have key:∀ (l:List Ob) (acc:List S),∀ n∈l.foldl (fun acc o=>fQ acc o.names) acc,n∈acc∨∃ o∈l,n∈o.names:=by
  intro l
  induction l with
  | nil=>intro acc n h; exact .inl h
  | cons o l ih =>
    intro acc n h
    rcases ih _ n h with h|⟨p,hp,hn⟩
    ·rcases (zh _ _ _).1 h with h|h
     ·exact .inl h
     ·exact .inr ⟨o,by simp,h⟩
    ·exact .inr ⟨p,by simp[hp],hn⟩
 intro n hn
 rcases key l [] n hn with h|h
 ·cases h
 ·exact h
theorem ap0 {l:List Ob} (h:∀ o∈l,bdO NM m o):bdO NM (l.length*m) (yj l):=by
 refine⟨fun n hn=>?_,fun f hf=>?_,?_⟩
 ·obtain⟨o,ho,hn⟩:=agt l n hn
  exact (h o ho).1 n hn
 ·simp only[yj,Ob.uy,List.mem_map] at hf
  obtain⟨s,_,rfl⟩:=hf
  have:=ag1 (NM:=NM) (m:=m) (l:=l.map fun o=>(bn o s).1) (fun t ht=>by
   obtain⟨o,ho,rfl⟩:=List.mem_map.1 ht
   exact alU (h o ho) s)
  simpa using this
 ·have:=ag1 (NM:=NM) (m:=m) (l:=l.map Ob.rest) (fun t ht=>by
     obtain⟨o,ho,rfl⟩:=List.mem_map.1 ht
     exact (h o ho).2.2)
  rw[List.length_map] at this
  exact this
theorem ajd {o:Ob} (h:bdO NM m o):bdO NM m (jr o):=⟨fun n hn=>h.1 n (aDp o n hn),fun f hf=>h.2.1 f (amV o f hf),h.2.2⟩
theorem aMf {N:Ty→Ty} (hN:∀ t m,bdT NM m t→bdT NM 4 (N t)) {o:Ob} (h:bdO NM 4 o):bdO NM 4 (FQ N o):=by
 unfold FQ
 have hs:=ajd h
 generalize jr o=p at *
 simp only
 split
 ·exact hs
 ·refine ajd ⟨fun n hn=>hs.1 n (List.mem_of_mem_take hn),fun f hf=>hs.2.1 f (List.mem_of_mem_take hf),hN _ _ (ag1 (m:=4) fun t ht=>?_)⟩
  rcases List.mem_cons.1 ht with rfl|ht
  ·exact hs.2.2
  ·exact hs.2.1 t (List.mem_of_mem_drop ht)
theorem YU {N:Ty→Ty} (hN:∀ t m,bdT NM m t→bdT NM 4 (N t)) {o:Ob} (h:bdO NM m o):bdO NM 4 (gq N o) :=
 aMf hN ⟨h.1,fun f hf=>by
  obtain⟨t,ht,rfl⟩:=List.mem_map.1 hf
  exact hN t m (h.2.1 t ht),hN _ m h.2.2⟩
theorem aHt {N:Ty→Ty} (hN:∀ t m,bdT NM m t→bdT NM 4 (N t)) {l:List Ob} (h:∀ o∈l,bdO NM 4 o):∀ o∈nG N l,bdO NM 4 o:=fun o ho=>by
 rcases apG ho with h'|⟨l',h1,_,rfl⟩
 ·exact h o h'
 ·exact YU hN (ap0 fun x hx=>h x (h1 x hx))
theorem Jv:∀ (h:Nat) (t:Ty) (m:Nat),bdT NM m t→bdT NM 4 (bG h t):=by
 have fin:∀ (t:Ty) (as:List Arr) (os:List Ob),os.length≤4→(∀ a∈as,bdT NM 4 a.item)→(∀ o∈os,bdO NM 4 o)→bdT NM 4 (ZH t as os):=fun t as os h1 h2 h3=>by
  rcases abH t as os with e|e<;>rw[e]
  ·exact ahj
  ·rw[uz]
   simp only[Ty.rz,Ty.qP,Ty.pQ]
   refine⟨?_,h1,h2,h3⟩
   split
   ·simp
   ·omega
 intro h
 induction h with
 | zero =>
   intro t m _
   rw[DZ]
   split
   ·exact ahj
   ·exact fin t [] [] (by simp) (by simp) (by simp)
 | succ h ih =>
   intro t m ht
   rw[vO]
   split
   ·exact ahj
   ·rw[uz] at ht
    refine fin t _ _ (abK _ _).1 (fun a ha=>?_) (aHt ih fun o ho=>?_)
    ·obtain⟨x,hx,rfl⟩:=List.mem_map.1 ha
     exact ih _ m (ht.2.2.1 x hx)
    ·obtain⟨x,hx,rfl⟩:=List.mem_map.1 ho
     exact YU ih (ht.2.2.2 x hx)
theorem NI {l:List S} (h:SSs l) (hs:∀ n∈l,n∈NM):l.length≤NM.length:=by
 induction l generalizing NM with
 | nil=>simp
 | cons a l ih =>
   unfold SSs SS at h
   rw[List.pairwise_cons] at h
   have ha:=hs a (by simp)
   have:=ih (NM:=NM.filter fun n=>!sEq n a) h.2 (fun n hn=>by
    have hne:n≠a:=fun e=>by
     have:=h.1 n hn
     rw[e,adz XU] at this; cases this
    refine List.mem_filter.2 ⟨hs n (by simp[hn]),?_⟩
    rw[Bool.not_eq_true',← Bool.not_eq_true,uf]
    exact hne)
   have hlt:(NM.filter fun n=>!sEq n a).length<NM.length:=by
    rw[List.length_filter_lt_length_iff_exists]
    exact⟨a,ha,by simp[uf.2 rfl]⟩
   simp; omega
end
mutual
theorem adF {NM:List S} {m n:Nat} (hn:NM.length≤n):∀ t:Ty,aj t=true→bdT NM m t→nmT n t=true
 | .mk a b c d ns e ts as os,h,k=>by
   have hs:=bN h
   simp only[nmT,Bool.and_eq_true]
   exact⟨ava hn as hs.2.2.2.2.2.2.1 k.2.2.1,au5 hn os hs.2.2.2.2.2.2.2 k.2.2.2⟩
theorem ava {NM:List S} {m n:Nat} (hn:NM.length≤n):∀ l:List Arr,(∀ a∈l,gu a=true)→afp NM m l→aoL n l=true
 | [],_,_=>rfl
 | .mk t lo hi::l,h,k=>by
   simp only[aoL,Bool.and_eq_true]
   exact⟨adF hn t (gY (h (.mk t lo hi) (by simp))).2.2.2.1 k.1,ava hn l (fun a ha=>h a (by simp[ha])) k.2⟩
theorem au5 {NM:List S} {m n:Nat} (hn:NM.length≤n):∀ l:List Ob,(∀ a∈l,bg a=true)→afJ NM m l→ao1 n l=true
 | [],_,_=>rfl
 | .mk ns fs ms r::l,h,k=>by
   obtain⟨-,-,h3,h4,h5,-⟩:=dH (h (.mk ns fs ms r) (by simp))
   simp only[ao1,Bool.and_eq_true,decide_eq_true_eq]
   exact⟨⟨⟨Nat.le_trans (NI (JV h3).1 k.1.1) hn,auF hn fs h5 k.1.2.1⟩,adF hn r h4 k.1.2.2⟩,au5 hn l (fun a ha=>h a (by simp[ha])) k.2⟩
theorem auF {NM:List S} {m n:Nat} (hn:NM.length≤n):∀ l:List Ty,(∀ a∈l,aj a=true)→afx NM m l→asw n l=true
 | [],_,_=>rfl
 | t::l,h,k=>by
   simp only[asw,Bool.and_eq_true]
   exact⟨adF hn t (h t (by simp)) k.1,auF hn l (fun a ha=>h a (by simp[ha])) k.2⟩
end
theorem aDU {NM:List S} {m:Nat} (hm:0<m) {o:Ob} (h:bdO NM m o):bdT NM m (jk o):=by
 rw[uz]; simp[jk]; exact⟨hm,h⟩
theorem aK5 {x:Ty} (l:List Ty) (h:aj x=true):qb (x::l)=l.foldl jf x:=by
 rw[qb,List.foldl_cons,auO h]
end Go.Tidy
namespace Go.Tidy
open Go
mutual
def al9:Ty→List S
 | .mk _ _ _ _ _ _ _ as os=>ama as++amw os
def ama:List Arr→List S
 | []=>[]
 | .mk t _ _::l=>al9 t++ama l
def amw:List Ob→List S
 | []=>[]
 | .mk ns fs _ r::l=>ns++al9 r++alK fs++amw l
def alK:List Ty→List S
 | []=>[]
 | t::l=>al9 t++alK l
end
end Go.Tidy
namespace Go.Tidy
open Go
theorem aMQ (l:List UInt8) (k:Nat):(ByteArray.mk l.toArray).get! k=l.getD k 0:=by
 simp[ByteArray.get!,List.getD,getElem!_def]
 cases l[k]?<;>rfl
theorem aJe (a b:UInt8):(a≤b)=(a.toNat≤b.toNat):=propext UInt8.le_iff_toNat_le
theorem aJO (a b:UInt8):(a<b)=(a.toNat<b.toNat):=propext UInt8.lt_iff_toNat_lt
theorem aI7 (a b:UInt8):(a=b)=(a.toNat=b.toNat):=propext UInt8.toNat_inj.symm
set_option maxHeartbeats 4000000 in
theorem aE0 (c:UInt8) (l:List UInt8):((Lib.decodeL (c::l)).1=65533∧(Lib.decodeL (c::l)).2=1↔width (c::l)=0)∧(width (c::l)≠0→(Lib.decodeL (c::l)).2=width (c::l)):=by
 have hc:=c.toNat_lt
 have e128:UInt8.toNat 128=128:=rfl
 have e143:UInt8.toNat 143=143:=rfl
 have e144:UInt8.toNat 144=144:=rfl
 have e159:UInt8.toNat 159=159:=rfl
 have e160:UInt8.toNat 160=160:=rfl
 have e191:UInt8.toNat 191=191:=rfl
 unfold Lib.decodeL Utf8.decode width trail
 simp only[aMQ,Utf8.runeError,Utf8.valid]
 have hs:(ByteArray.mk (c::l).toArray).size=l.length+1:=by simp[ByteArray.size]
 simp only[hs]
 match l with
 | [] =>
   simp[aJe,aJO,aI7]
   repeat' split
   all_goals simp
   all_goals omega
 | [d] =>
   have hd:=d.toNat_lt
   simp[aJe,aJO,aI7]
   repeat' split
   all_goals simp
   all_goals omega
 | [d,e] =>
   have hd:=d.toNat_lt
   have he:=e.toNat_lt
   simp[aJe,aJO,aI7]
   repeat' split
   all_goals simp
   all_goals omega
 | d::e::f::l =>
   have hd:=d.toNat_lt
   have he:=e.toNat_lt
   have hf:=f.toNat_lt
   simp[aJe,aJO,aI7]
   repeat' split
   all_goals simp
   all_goals omega
theorem aMr {l:List UInt8} {n:Nat} {lo hi:UInt8} (h:trail l n lo hi=true):n≤l.length:=by
 simp[trail] at h; exact h.1.1
theorem width_le (l:List UInt8):width l≤l.length:=by
 cases l with
 | nil=>simp[width]
 | cons c l =>
   simp only[width]
   repeat' split
   all_goals first
     | (simp; done)
     | (rename_i h; simp only[Bool.and_eq_true] at h; have:=aMr h.2; simp; omega)
theorem azS:∀ (n:Nat) (l:List UInt8),l.length≤n→Lib.validGoD n l=KR n l
 | 0,l,h=>by
   have:l=[]:=List.eq_nil_of_length_eq_zero (by omega)
   subst this; rfl
 | n+1,[],_=>by simp[Lib.validGoD,KR]
 | n+1,c::l,h=>by
   have hd:=aE0 c l
   have hw:=width_le (c::l)
   simp only[Lib.validGoD,KR,List.isEmpty_cons,Bool.false_or]
   rw[if_neg (by simp)]
   by_cases h0:width (c::l)=0
   ·rw[if_pos (hd.1.2 h0),h0]; simp
   ·rw[if_neg (fun h=>h0 (hd.1.1 h)),hd.2 h0]
    have:(width (c::l) != 0)=true:=by simpa using h0
    rw[this,Bool.true_and]
    refine azS n _ ?_
    simp at h ⊢
    omega
theorem aGW (s:S):Lib.validD s.data.toList=Xu s:=azS _ _ (Nat.le_refl _)
end Go.Tidy

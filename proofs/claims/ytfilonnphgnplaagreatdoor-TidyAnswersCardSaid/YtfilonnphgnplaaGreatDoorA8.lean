/- Part 8. -/
import Derived.Test.YtfilonnphgnplaaGreatDoorA7
import Derived.Lib.ValidU
set_option linter.unusedSimpArgs false
set_option linter.unusedVariables false
namespace Go.Tidy
open Go
mutual
def bdT (NM:List S) (m:Nat):Ty→Prop
 | .mk _ _ _ _ _ _ ts as os=>ts.length≤4*m∧os.length≤m∧aav NM m as∧aaR NM m os
def aav (NM:List S) (m:Nat):List Arr→Prop
 | []=>True
 | .mk t _ _::l=>bdT NM m t∧aav NM m l
def aaR (NM:List S) (m:Nat):List Ob→Prop
 | []=>True
 | .mk ns fs _ r::l=>((∀ n∈ns,n∈NM)∧aaF NM m fs∧bdT NM m r)∧aaR NM m l
def aaF (NM:List S) (m:Nat):List Ty→Prop
 | []=>True
 | t::l=>bdT NM m t∧aaF NM m l
end
def bdO (NM:List S) (m:Nat) (o:Ob):Prop:=(∀ n∈o.names,n∈NM)∧(∀ f∈o.fields,bdT NM m f)∧bdT NM m o.rest
section
variable {NM:List S} {m k:Nat}
theorem aBj:∀ {l:List Arr},aav NM m l↔∀ a∈l,bdT NM m a.item
 | []=>by simp[aav]
 | .mk t lo hi::l=>by simp only[aav,List.mem_cons,forall_eq_or_imp,Arr.QB]; exact and_congr Iff.rfl aBj
theorem azB:∀ {l:List Ty},aaF NM m l↔∀ a∈l,bdT NM m a
 | []=>by simp[aaF]
 | t::l=>by simp only[aaF,List.mem_cons,forall_eq_or_imp]; exact and_congr Iff.rfl azB
theorem aCs:∀ {l:List Ob},aaR NM m l↔∀ o∈l,bdO NM m o
 | []=>by simp[aaR]
 | .mk ns fs ms r::l=>by
   simp only[aaR,List.mem_cons,forall_eq_or_imp,azB]
   exact and_congr Iff.rfl aCs
theorem mH {t:Ty}:bdT NM m t↔t.texts.length≤4*m∧t.objects.length≤m∧(∀ a∈t.arrays,bdT NM m a.item)∧∀ o∈t.objects,bdO NM m o:=by
 obtain⟨a,b,c,d,ns,e,ts,as,os⟩:=t
 simp only[bdT,aBj,aCs,Ty.rU,Ty.sw,Ty.qz]
theorem adZ:bdT NM m dn:=by rw[mH]; simp[dn]
theorem aJd:bdT NM m d9:=by rw[mH]; simp[d9]
end
mutual
theorem Ak {NM:List S} {m k:Nat} (h:m≤k):∀ t:Ty,bdT NM m t→bdT NM k t
 | .mk _ _ _ _ _ _ ts as os,ht=>⟨Nat.le_trans ht.1 (by omega),Nat.le_trans ht.2.1 h,au3 h as ht.2.2.1,avD h os ht.2.2.2⟩
theorem au3 {NM:List S} {m k:Nat} (h:m≤k):∀ l:List Arr,aav NM m l→aav NM k l
 | [],_=>trivial
 | .mk t _ _::l,ht=>⟨Ak h t ht.1,au3 h l ht.2⟩
theorem avD {NM:List S} {m k:Nat} (h:m≤k):∀ l:List Ob,aaR NM m l→aaR NM k l
 | [],_=>trivial
 | .mk ns fs ms r::l,ht=>⟨⟨ht.1.1,avN h fs ht.1.2.1,Ak h r ht.1.2.2⟩,avD h l ht.2⟩
theorem avN {NM:List S} {m k:Nat} (h:m≤k):∀ l:List Ty,aaF NM m l→aaF NM k l
 | [],_=>trivial
 | t::l,ht=>⟨Ak h t ht.1,avN h l ht.2⟩
end
section
variable {NM:List S} {m k:Nat}
theorem aoe (h:m≤k) {o:Ob} (ho:bdO NM m o):bdO NM k o:=⟨ho.1,fun f hf=>Ak h f (ho.2.1 f hf),Ak h _ ho.2.2⟩
theorem ZW:∀ l m:List S,(ig l m).length≤l.length+m.length
 | [],b=>by simp[ig]
 | a::l,[]=>by simp[ig]
 | a::l,b::m=>by
   unfold ig
   split
   ·have:=ZW l (b::m); simp at this ⊢; omega
   ·split
    ·have:=ZW (a::l) m; simp at this ⊢; omega
    ·have:=ZW l m; simp at this ⊢; omega
termination_by l m=>l.length+m.length
theorem aLi:∀ (n:Nat) (a b:Ty),ay a≤n→bdT NM m a→bdT NM k b→bdT NM (m+k) (jO a b):=by
 intro n
 induction n with
 | zero =>
   intro a b hn ha hb
   have h0:=qy.1 hn
   rw[zH]
   split
   ·exact adZ
   ·rw[mH] at *
    simp only[Ty.rU,Ty.sw,Ty.qz,h0.1,h0.2,Dn,List.nil_append]
    refine⟨?_,by omega,fun a ha'=>Ak (by omega) _ (hb.2.2.1 a ha'),fun o ho=>aoe (by omega) (hb.2.2.2 o ho)⟩
    split
    ·simp
    ·have:=ZW a.texts b.texts; omega
 | succ n ih =>
   intro a b hn ha hb
   have h1:=qx.1 hn
   rw[zH]
   split
   ·exact adZ
   ·rw[mH] at *
    simp only[Ty.rU,Ty.sw,Ty.qz]
    refine⟨?_,by simp; omega,fun x hx=>?_,fun o ho=>?_⟩
    ·split
     ·simp
     ·have:=ZW a.texts b.texts; omega
    ·cases e1:a.arrays with
     | nil=>rw[e1,Dn] at hx; exact Ak (by omega) _ (hb.2.2.1 x hx)
     | cons y l =>
       cases e2:b.arrays with
       | nil=>rw[e1,e2,Uf] at hx; exact Ak (by omega) _ (ha.2.2.1 x (by rw[e1]; exact hx))
       | cons z l' =>
         rw[e1,e2] at hx
         simp only[jM,List.mem_singleton] at hx
         subst hx
         rw[aaW]
         exact ih _ _ (h1.1 y (by rw[e1]; simp)) (ha.2.2.1 y (by rw[e1]; simp)) (hb.2.2.1 z (by rw[e2]; simp))
    ·rcases List.mem_append.1 ho with ho|ho
     ·exact aoe (by omega) (ha.2.2.2 o ho)
     ·exact aoe (by omega) (hb.2.2.2 o ho)
theorem aBv {a b:Ty} (ha:bdT NM m a) (hb:bdT NM k b):bdT NM (m+k) (jO a b):=aLi (ay a) a b (Nat.le_refl _) ha hb
theorem at7:∀ (l:List Ty) (acc:Ty) (k:Nat),(∀ t∈l,bdT NM m t)→bdT NM k acc→bdT NM (k+l.length*m) (l.foldl jO acc)
 | [],acc,k,_,h=>by simpa using h
 | t::l,acc,k,hl,h=>by
   have:=at7 l _ (k+m) (fun x hx=>hl x (by simp[hx])) (aBv h (hl t (by simp)))
   rw[List.foldl_cons]
   have e:k+(t::l).length*m=k+m+l.length*m:=by simp[Nat.add_mul]; omega
   rw[e]; exact this
theorem adG {l:List Ty} (h:∀ t∈l,bdT NM m t):bdT NM (l.length*m) (oh l):=by
 have:=at7 l d9 0 h aJd
 rwa [Nat.zero_add] at this
theorem ahP {o:Ob} (h:bdO NM m o) (s:S):bdT NM m (bg o s).1:=by
 rcases ajA o s with e|e
 ·exact h.2.1 _ e
 ·rw[e]; exact h.2.2
theorem ads (l:List Ob):∀ n∈qD l,∃ o∈l,n∈o.names:=by
 have key:∀ (l:List Ob) (acc:List S),∀ n∈l.foldl (fun acc o=>ig acc o.names) acc,n∈acc∨∃ o∈l,n∈o.names:=by
  intro l
  induction l with
  | nil=>intro acc n h; exact .inl h
  | cons o l ih =>
    intro acc n h
    rcases ih _ n h with h|⟨p,hp,hn⟩
    ·rcases (xq _ _ _).1 h with h|h
     ·exact .inl h
     ·exact .inr ⟨o,by simp,h⟩
    ·exact .inr ⟨p,by simp[hp],hn⟩
 intro n hn
 rcases key l [] n hn with h|h
 ·cases h
 ·exact h
theorem agY {l:List Ob} (h:∀ o∈l,bdO NM m o):bdO NM (l.length*m) (pq l):=by
 refine⟨fun n hn=>?_,fun f hf=>?_,?_⟩
 ·obtain⟨o,ho,hn⟩:=ads l n hn
  exact (h o ho).1 n hn
 ·simp only[pq,Ob.qL,List.mem_map] at hf
  obtain⟨s,_,rfl⟩:=hf
  have:=adG (NM:=NM) (m:=m) (l:=l.map fun o=>(bg o s).1) (fun t ht=>by
   obtain⟨o,ho,rfl⟩:=List.mem_map.1 ht
   exact ahP (h o ho) s)
  simpa using this
 ·have:=adG (NM:=NM) (m:=m) (l:=l.map Ob.rest) (fun t ht=>by
     obtain⟨o,ho,rfl⟩:=List.mem_map.1 ht
     exact (h o ho).2.2)
  rw[List.length_map] at this
  exact this
theorem afc {o:Ob} (h:bdO NM m o):bdO NM m (jC o):=⟨fun n hn=>h.1 n (aCR o n hn),fun f hf=>h.2.1 f (aip o f hf),h.2.2⟩
theorem aJl {N:Ty→Ty} (hN:∀ t m,bdT NM m t→bdT NM 4 (N t)) {o:Ob} (h:bdO NM 4 o):bdO NM 4 (zQ N o):=by
 unfold zQ
 have hs:=afc h
 generalize jC o=p at *
 simp only
 split
 ·exact hs
 ·refine afc ⟨fun n hn=>hs.1 n (List.mem_of_mem_take hn),fun f hf=>hs.2.1 f (List.mem_of_mem_take hf),hN _ _ (adG (m:=4) fun t ht=>?_)⟩
  rcases List.mem_cons.1 ht with rfl|ht
  ·exact hs.2.2
  ·exact hs.2.1 t (List.mem_of_mem_drop ht)
theorem QL {N:Ty→Ty} (hN:∀ t m,bdT NM m t→bdT NM 4 (N t)) {o:Ob} (h:bdO NM m o):bdO NM 4 (gU N o) :=
 aJl hN ⟨h.1,fun f hf=>by
  obtain⟨t,ht,rfl⟩:=List.mem_map.1 hf
  exact hN t m (h.2.1 t ht),hN _ m h.2.2⟩
theorem aEC {N:Ty→Ty} (hN:∀ t m,bdT NM m t→bdT NM 4 (N t)) {l:List Ob} (h:∀ o∈l,bdO NM 4 o):∀ o∈l8 N l,bdO NM 4 o:=fun o ho=>by
 rcases aky ho with h'|⟨l',h1,_,rfl⟩
 ·exact h o h'
 ·exact QL hN (agY fun x hx=>h x (h1 x hx))
theorem Av:∀ (h:Nat) (t:Ty) (m:Nat),bdT NM m t→bdT NM 4 (bG h t):=by
 have fin:∀ (t:Ty) (as:List Arr) (os:List Ob),os.length≤4→(∀ a∈as,bdT NM 4 a.item)→(∀ o∈os,bdO NM 4 o)→bdT NM 4 (QY t as os):=fun t as os h1 h2 h3=>by
  rcases Yc t as os with e|e<;>rw[e]
  ·exact adZ
  ·rw[mH]
   simp only[Ty.rU,Ty.sw,Ty.qz]
   refine⟨?_,h1,h2,h3⟩
   split
   ·simp
   ·omega
 intro h
 induction h with
 | zero =>
   intro t m _
   rw[zw]
   split
   ·exact adZ
   ·exact fin t [] [] (by simp) (by simp) (by simp)
 | succ h ih =>
   intro t m ht
   rw[uM]
   split
   ·exact adZ
   ·rw[mH] at ht
    refine fin t _ _ (ZA _ _).1 (fun a ha=>?_) (aEC ih fun o ho=>?_)
    ·obtain⟨x,hx,rfl⟩:=List.mem_map.1 ha
     exact ih _ m (ht.2.2.1 x hx)
    ·obtain⟨x,hx,rfl⟩:=List.mem_map.1 ho
     exact QL ih (ht.2.2.2 x hx)
theorem zn {l:List S} (h:SSs l) (hs:∀ n∈l,n∈NM):l.length≤NM.length:=by
 induction l generalizing NM with
 | nil=>simp
 | cons a l ih =>
   unfold SSs SS at h
   rw[List.pairwise_cons] at h
   have ha:=hs a (by simp)
   have:=ih (NM:=NM.filter fun n=>!sEq n a) h.2 (fun n hn=>by
    have hne:n≠a:=fun e=>by
     have:=h.1 n hn
     rw[e,aaQ OH] at this; cases this
    refine List.mem_filter.2 ⟨hs n (by simp[hn]),?_⟩
    rw[Bool.not_eq_true',← Bool.not_eq_true,qo]
    exact hne)
   have hlt:(NM.filter fun n=>!sEq n a).length<NM.length:=by
    rw[List.length_filter_lt_length_iff_exists]
    exact⟨a,ha,by simp[qo.2 rfl]⟩
   simp; omega
end
mutual
theorem aak {NM:List S} {m n:Nat} (hn:NM.length≤n):∀ t:Ty,ak t=true→bdT NM m t→nmT n t=true
 | .mk a b c d ns e ts as os,h,k=>by
   have hs:=cu h
   simp only[nmT,Bool.and_eq_true]
   exact⟨aoX hn as hs.2.2.2.2.2.2.1 k.2.2.1,aqA hn os hs.2.2.2.2.2.2.2 k.2.2.2⟩
theorem aoX {NM:List S} {m n:Nat} (hn:NM.length≤n):∀ l:List Arr,(∀ a∈l,iw a=true)→aav NM m l→aj6 n l=true
 | [],_,_=>rfl
 | .mk t lo hi::l,h,k=>by
   simp only[aj6,Bool.and_eq_true]
   exact⟨aak hn t (gY (h (.mk t lo hi) (by simp))).2.2.2.1 k.1,aoX hn l (fun a ha=>h a (by simp[ha])) k.2⟩
theorem aqA {NM:List S} {m n:Nat} (hn:NM.length≤n):∀ l:List Ob,(∀ a∈l,bf a=true)→aaR NM m l→ajB n l=true
 | [],_,_=>rfl
 | .mk ns fs ms r::l,h,k=>by
   obtain⟨-,-,h3,h4,h5,-⟩:=dz (h (.mk ns fs ms r) (by simp))
   simp only[ajB,Bool.and_eq_true,decide_eq_true_eq]
   exact⟨⟨⟨Nat.le_trans (zn (JH h3).1 k.1.1) hn,ao6 hn fs h5 k.1.2.1⟩,aak hn r h4 k.1.2.2⟩,aqA hn l (fun a ha=>h a (by simp[ha])) k.2⟩
theorem ao6 {NM:List S} {m n:Nat} (hn:NM.length≤n):∀ l:List Ty,(∀ a∈l,ak a=true)→aaF NM m l→ane n l=true
 | [],_,_=>rfl
 | t::l,h,k=>by
   simp only[ane,Bool.and_eq_true]
   exact⟨aak hn t (h t (by simp)) k.1,ao6 hn l (fun a ha=>h a (by simp[ha])) k.2⟩
end
theorem aoc {NM:List S} {m:Nat} (hm:0<m) {o:Ob} (h:bdO NM m o):bdT NM m (eu o):=by
 rw[mH]; simp[eu]; exact⟨hm,h⟩
theorem aHl {x:Ty} (l:List Ty) (h:ak x=true):oh (x::l)=l.foldl jO x:=by
 rw[oh,List.foldl_cons,apa h]
end Go.Tidy
namespace Go.Tidy
open Go
mutual
def tpT:Ty→Nat→Nat
 | .mk _ _ _ _ ns _ ts as os,m=>tu os m (qY as m (1+ts.length+ns.length))
def qY:List Arr→Nat→Nat→Nat
 | [],_,n=>n
 | .mk t _ _::l,m,n=>if n≤m then qY l m (n+tpT t (m-n)) else n
def tu:List Ob→Nat→Nat→Nat
 | [],_,n=>n
 | .mk ns fs ms r::l,m,n=>if n≤m then tu l m (rZ fs m (n+ns.length+ms.length+tpT r (m-n))) else n
def rZ:List Ty→Nat→Nat→Nat
 | [],_,n=>n
 | t::l,m,n=>if n≤m then rZ l m (n+tpT t (m-n)) else n
end
mutual
def szT:Ty→Nat
 | .mk _ _ _ _ ns _ ts as os=>1+ts.length+ns.length+aeJ as+aa2 os
def aeJ:List Arr→Nat
 | []=>0
 | .mk t _ _::l=>szT t+aeJ l
def aa2:List Ob→Nat
 | []=>0
 | .mk ns fs ms r::l=>ns.length+ms.length+szT r+aeM fs+aa2 l
def aeM:List Ty→Nat
 | []=>0
 | t::l=>szT t+aeM l
end
mutual
def wO:Ty→List S
 | .mk _ _ _ _ _ _ _ as os=>ahd as++aii os
def ahd:List Arr→List S
 | []=>[]
 | .mk t _ _::l=>wO t++ahd l
def aii:List Ob→List S
 | []=>[]
 | .mk ns fs _ r::l=>ns++wO r++ahH fs++aii l
def ahH:List Ty→List S
 | []=>[]
 | t::l=>wO t++ahH l
end
mutual
theorem ay6:∀ (t:Ty) (m:Nat),tpT t m≤m→tpT t m=szT t
 | .mk _ _ _ _ ns _ ts as os,m,h=>by
   simp only[tpT,szT] at h ⊢
   have h2:=aEK os m _ h
   have h1:=aEO as m (1+ts.length+ns.length) (by omega)
   omega
theorem aEO:∀ (l:List Arr) (m n:Nat),qY l m n≤m→qY l m n=n+aeJ l
 | [],m,n,_=>by simp[qY,aeJ]
 | .mk t _ _::l,m,n,h=>by
   simp only[qY,aeJ] at h ⊢
   split at h
   ·rename_i hn
    rw[if_pos hn]
    have h1:=aEO l m _ h
    have h2:=ay6 t (m-n) (by omega)
    omega
   ·omega
theorem aEK:∀ (l:List Ob) (m n:Nat),tu l m n≤m→tu l m n=n+aa2 l
 | [],m,n,_=>by simp[tu,aa2]
 | .mk ns fs ms r::l,m,n,h=>by
   simp only[tu,aa2] at h ⊢
   split at h
   ·rename_i hn
    rw[if_pos hn]
    have h1:=aEK l m _ h
    have h2:=aEN fs m (n+ns.length+ms.length+tpT r (m-n)) (by omega)
    have h3:=ay6 r (m-n) (by omega)
    omega
   ·omega
theorem aEN:∀ (l:List Ty) (m n:Nat),rZ l m n≤m→rZ l m n=n+aeM l
 | [],m,n,_=>by simp[rZ,aeM]
 | t::l,m,n,h=>by
   simp only[rZ,aeM] at h ⊢
   split at h
   ·rename_i hn
    rw[if_pos hn]
    have h1:=aEN l m _ h
    have h2:=ay6 t (m-n) (by omega)
    omega
   ·omega
end
mutual
theorem alA:∀ t:Ty,(wO t).length≤szT t
 | .mk _ _ _ _ ns _ ts as os=>by
   have:=avl as
   have:=avI os
   simp only[wO,szT,List.length_append]; omega
theorem avl:∀ l:List Arr,(ahd l).length≤aeJ l
 | []=>by simp[ahd]
 | .mk t _ _::l=>by
   have:=alA t
   have:=avl l
   simp only[ahd,aeJ,List.length_append]; omega
theorem avI:∀ l:List Ob,(aii l).length≤aa2 l
 | []=>by simp[aii]
 | .mk ns fs ms r::l=>by
   have:=alA r
   have:=avO fs
   have:=avI l
   simp only[aii,aa2,List.length_append]; omega
theorem avO:∀ l:List Ty,(ahH l).length≤aeM l
 | []=>by simp[ahH]
 | t::l=>by
   have:=alA t
   have:=avO l
   simp only[ahH,aeM,List.length_append]; omega
end
theorem aJn (l:List Ob):l.length≤aa2 l:=by
 induction l with
 | nil=>simp
 | cons o l ih =>
   obtain⟨ns,fs,ms,r⟩:=o
   have:1≤szT r:=by cases r; simp only[szT]; omega
   simp only[aa2,List.length_cons]; omega
mutual
theorem ahA {NM:List S} {m:Nat}:∀ t:Ty,(∀ n∈wO t,n∈NM)→szT t≤m→bdT NM m t
 | .mk _ _ _ _ ns _ ts as os,hn,hm=>by
   have:=aJn os
   simp only[szT] at hm
   simp only[wO,List.mem_append] at hn
   exact⟨by omega,by omega,aFk as (fun n h=>hn n (.inl h)) (by omega),aFh os (fun n h=>hn n (.inr h)) (by omega)⟩
theorem aFk {NM:List S} {m:Nat}:∀ l:List Arr,(∀ n∈ahd l,n∈NM)→aeJ l≤m→aav NM m l
 | [],_,_=>trivial
 | .mk t _ _::l,hn,hm=>by
   simp only[aeJ] at hm
   simp only[ahd,List.mem_append] at hn
   exact⟨ahA t (fun n h=>hn n (.inl h)) (by omega),aFk l (fun n h=>hn n (.inr h)) (by omega)⟩
theorem aFh {NM:List S} {m:Nat}:∀ l:List Ob,(∀ n∈aii l,n∈NM)→aa2 l≤m→aaR NM m l
 | [],_,_=>trivial
 | .mk ns fs ms r::l,hn,hm=>by
   simp only[aa2] at hm
   simp only[aii,List.mem_append] at hn
   exact⟨⟨fun n h=>hn n (.inl (.inl (.inl h))),aEU fs (fun n h=>hn n (.inl (.inr h))) (by omega),ahA r (fun n h=>hn n (.inl (.inl (.inr h)))) (by omega)⟩,aFh l (fun n h=>hn n (.inr h)) (by omega)⟩
theorem aEU {NM:List S} {m:Nat}:∀ l:List Ty,(∀ n∈ahH l,n∈NM)→aeM l≤m→aaF NM m l
 | [],_,_=>trivial
 | t::l,hn,hm=>by
   simp only[aeM] at hm
   simp only[ahH,List.mem_append] at hn
   exact⟨ahA t (fun n h=>hn n (.inl h)) (by omega),aEU l (fun n h=>hn n (.inr h)) (by omega)⟩
end
theorem alf {t:Ty} (h:tpT t 20000≤20000):(wO t).length≤20000∧szT t≤20000∧bdT (wO t) (szT t) t:=by
 have:=ay6 t 20000 h
 have hl:=alA t
 exact⟨by omega,by omega,ahA t (fun _ h=>h) (Nat.le_refl _)⟩
theorem aLE (t:Ty) (m:Nat):tpT t m=tu t.objects m (qY t.arrays m (1+t.texts.length+t.nums.length)):=by cases t; rfl
theorem avy (m:Nat):∀ (l:List Arr) (k n:Nat) (hk:k<l.length),qY (l.take (k+1)) m n=if qY (l.take k) m n≤m then qY (l.take k) m n+tpT l[k].item (m-qY (l.take k) m n) else qY (l.take k) m n
 | .mk t _ _::l,0,n,_=>by simp only[List.take_succ_cons,List.take_zero,qY,List.getElem_cons_zero,Arr.QB]
 | .mk t _ _::l,k+1,n,h=>by
   simp only[List.take_succ_cons,qY,List.getElem_cons_succ]
   split
   ·exact avy m l k _ (by simpa using h)
   ·rename_i hn; first|rfl|(rw[if_neg hn])
theorem ave (m:Nat):∀ (l:List Ty) (k n:Nat) (hk:k<l.length),rZ (l.take (k+1)) m n=if rZ (l.take k) m n≤m then rZ (l.take k) m n+tpT l[k] (m-rZ (l.take k) m n) else rZ (l.take k) m n
 | t::l,0,n,_=>by simp only[List.take_succ_cons,List.take_zero,rZ,List.getElem_cons_zero]
 | t::l,k+1,n,h=>by
   simp only[List.take_succ_cons,rZ,List.getElem_cons_succ]
   split
   ·exact ave m l k _ (by simpa using h)
   ·rename_i hn; first|rfl|(rw[if_neg hn])
theorem avF (m:Nat):∀ (l:List Ob) (k n:Nat) (hk:k<l.length),tu (l.take (k+1)) m n=if tu (l.take k) m n≤m then rZ l[k].fields m (tu (l.take k) m n+l[k].names.length+l[k].must.length+tpT l[k].rest (m-tu (l.take k) m n)) else tu (l.take k) m n
 | .mk ns fs ms r::l,0,n,_=>by simp only[List.take_succ_cons,List.take_zero,tu,List.getElem_cons_zero,Ob.qL,Ob.aeh,Ob.VW,Ob.adF]
 | .mk ns fs ms r::l,k+1,n,h=>by
   simp only[List.take_succ_cons,tu,List.getElem_cons_succ]
   split
   ·exact avF m l k _ (by simpa using h)
   ·rename_i hn; first|rfl|(rw[if_neg hn])
theorem avq {m:Nat}:∀ {l:List Arr} {k n:Nat},m<qY (l.take k) m n→qY l m n=qY (l.take k) m n
 | [],k,n,_=>by simp
 | .mk t _ _::l,0,n,h=>by
   simp only[List.take_zero,qY] at h ⊢
   rw[if_neg (by omega)]
 | .mk t _ _::l,k+1,n,h=>by
   simp only[List.take_succ_cons,qY] at h ⊢
   split
   ·rename_i hn; rw[if_pos hn] at h; exact avq h
   ·rfl
theorem avB {m:Nat}:∀ {l:List Ty} {k n:Nat},m<rZ (l.take k) m n→rZ l m n=rZ (l.take k) m n
 | [],k,n,_=>by simp
 | t::l,0,n,h=>by
   simp only[List.take_zero,rZ] at h ⊢
   rw[if_neg (by omega)]
 | t::l,k+1,n,h=>by
   simp only[List.take_succ_cons,rZ] at h ⊢
   split
   ·rename_i hn; rw[if_pos hn] at h; exact avB h
   ·rfl
theorem avP {m:Nat}:∀ {l:List Ob} {k n:Nat},m<tu (l.take k) m n→tu l m n=tu (l.take k) m n
 | [],k,n,_=>by simp
 | .mk ns fs ms r::l,0,n,h=>by
   simp only[List.take_zero,tu] at h ⊢
   rw[if_neg (by omega)]
 | .mk ns fs ms r::l,k+1,n,h=>by
   simp only[List.take_succ_cons,tu] at h ⊢
   split
   ·rename_i hn; rw[if_pos hn] at h; exact avP h
   ·rfl
theorem akh (m:Nat):∀ (l:List Arr) (n:Nat),n≤qY l m n
 | [],n=>by simp[qY]
 | .mk t _ _::l,n=>by
   simp only[qY]
   split
   ·have:=akh m l (n+tpT t (m-n)); omega
   ·omega
theorem afe (m:Nat):∀ (l:List Ty) (n:Nat),n≤rZ l m n
 | [],n=>by simp[rZ]
 | t::l,n=>by
   simp only[rZ]
   split
   ·have:=afe m l (n+tpT t (m-n)); omega
   ·omega
theorem ako (m:Nat):∀ (l:List Ob) (n:Nat),n≤tu l m n
 | [],n=>by simp[tu]
 | .mk ns fs ms r::l,n=>by
   simp only[tu]
   split
   ·have:=ako m l (rZ fs m (n+ns.length+ms.length+tpT r (m-n)))
    have:=afe m fs (n+ns.length+ms.length+tpT r (m-n))
    omega
   ·omega
def tpB (m:Nat):Nat:=m+(m+1)*281474976710656+281474976710657
mutual
def dlT:Ty→Prop
 | .mk _ _ _ _ ns _ ts as os=>ns.length≤140737488355328∧ts.length≤140737488355328∧aoj as∧aot os
def aoj:List Arr→Prop
 | []=>True
 | .mk t _ _::l=>dlT t∧aoj l
def aot:List Ob→Prop
 | []=>True
 | .mk ns fs ms r::l=>(ns.length≤140737488355328∧ms.length≤140737488355328∧auN fs∧dlT r)∧aot l
def auN:List Ty→Prop
 | []=>True
 | t::l=>dlT t∧auN l
end
theorem aaw {m n:Nat} (h1:1≤n) (h2:n≤m):n+281474976710656+tpB (m-n)≤tpB m:=by
 unfold tpB
 omega
theorem aAI (m:Nat):281474976710657≤tpB m:=by unfold tpB; omega
mutual
theorem agP:∀ (t:Ty) (m:Nat),dlT t→tpT t m≤tpB m∧1≤tpT t m
 | .mk _ _ _ _ ns _ ts as os,m,h=>by
   obtain⟨h1,h2,h3,h4⟩:=h
   simp only[tpT]
   have b:=aAI m
   have a1:=akh m as (1+ts.length+ns.length)
   have a2:=ako m os (qY as m (1+ts.length+ns.length))
   have a3:=an9 as m (1+ts.length+ns.length) h3 (by omega) (by omega)
   have a4:=aoo os m _ h4 (by omega) a3
   exact⟨a4,by omega⟩
theorem an9:∀ (l:List Arr) (m n:Nat),aoj l→1≤n→n≤tpB m→qY l m n≤tpB m
 | [],m,n,_,_,h=>by simpa[qY] using h
 | .mk t _ _::l,m,n,h,h1,hn=>by
   simp only[qY]
   split
   ·rename_i hle
    have:=agP t (m-n) h.1
    have:=aaw h1 hle
    exact an9 l m _ h.2 (by omega) (by omega)
   ·exact hn
theorem aoo:∀ (l:List Ob) (m n:Nat),aot l→1≤n→n≤tpB m→tu l m n≤tpB m
 | [],m,n,_,_,h=>by simpa[tu] using h
 | .mk ns fs ms r::l,m,n,h,h1,hn=>by
   simp only[tu]
   split
   ·rename_i hle
    obtain⟨⟨q1,q2,q3,q4⟩,q5⟩:=h
    have:=agP r (m-n) q4
    have:=aaw h1 hle
    have a:=afe m fs (n+ns.length+ms.length+tpT r (m-n))
    have b:=aox fs m (n+ns.length+ms.length+tpT r (m-n)) q3 (by omega) (by omega)
    exact aoo l m _ q5 (by omega) b
   ·exact hn
theorem aox:∀ (l:List Ty) (m n:Nat),auN l→1≤n→n≤tpB m→rZ l m n≤tpB m
 | [],m,n,_,_,h=>by simpa[rZ] using h
 | t::l,m,n,h,h1,hn=>by
   simp only[rZ]
   split
   ·rename_i hle
    have:=agP t (m-n) h.1
    have:=aaw h1 hle
    exact aox l m _ h.2 (by omega) (by omega)
   ·exact hn
end
theorem aFc (t:Ty):dlT t↔t.nums.length≤140737488355328∧t.texts.length≤140737488355328∧aoj t.arrays∧aot t.objects:=by cases t; exact Iff.rfl
theorem ah3:∀ {l:List Arr},aoj l↔∀ a∈l,dlT a.item
 | []=>by simp[aoj]
 | .mk t lo hi::l=>by simp only[aoj,List.mem_cons,forall_eq_or_imp,Arr.QB]; exact and_congr Iff.rfl ah3
theorem anR:∀ {l:List Ty},auN l↔∀ a∈l,dlT a
 | []=>by simp[auN]
 | t::l=>by simp only[auN,List.mem_cons,forall_eq_or_imp]; exact and_congr Iff.rfl anR
theorem ahE:∀ {l:List Ob},aot l↔∀ o∈l,o.names.length≤140737488355328∧o.must.length≤140737488355328∧(∀ f∈o.fields,dlT f)∧dlT o.rest
 | []=>by simp[aot]
 | .mk ns fs ms r::l=>by
   simp only[aot,List.mem_cons,forall_eq_or_imp,anR,Ob.aeh,Ob.VW,Ob.qL,Ob.adF]
   exact and_congr Iff.rfl ahE
mutual
theorem alx:∀ t:Ty,ay t<szT t
 | .mk _ _ _ _ ns _ ts as os=>by
   have:=aES as
   have:=aE2 os
   simp only[ay,szT]; omega
theorem aES:∀ l:List Arr,iY l≤aeJ l
 | []=>by simp[iY]
 | .mk t _ _::l=>by
   have:=alx t
   have:=aES l
   simp only[iY,aeJ]; omega
theorem aE2:∀ l:List Ob,jd l≤aa2 l
 | []=>by simp[jd]
 | .mk ns fs ms r::l=>by
   have:=alx r
   have:=aER fs
   have:=aE2 l
   simp only[jd,aa2]; omega
theorem aER:∀ l:List Ty,jI l≤aeM l
 | []=>by simp[jI]
 | t::l=>by
   have:=alx t
   have:=aER l
   simp only[jI,aeM]; omega
end
end Go.Tidy
namespace Go.Tidy
open Go
theorem aJu (l:List UInt8) (k:Nat):(ByteArray.mk l.toArray).get! k=l.getD k 0:=by
 simp[ByteArray.get!,List.getD,getElem!_def]
 cases l[k]?<;>rfl
theorem aFR (a b:UInt8):(a≤b)=(a.toNat≤b.toNat):=propext UInt8.le_iff_toNat_le
theorem aG4 (a b:UInt8):(a<b)=(a.toNat<b.toNat):=propext UInt8.lt_iff_toNat_lt
theorem aFC (a b:UInt8):(a=b)=(a.toNat=b.toNat):=propext UInt8.toNat_inj.symm
set_option maxHeartbeats 4000000 in
theorem aCW (c:UInt8) (l:List UInt8):((Lib.decodeL (c::l)).1=65533∧(Lib.decodeL (c::l)).2=1↔width (c::l)=0)∧(width (c::l)≠0→(Lib.decodeL (c::l)).2=width (c::l)):=by
 have hc:=c.toNat_lt
 have e128:UInt8.toNat 128=128:=rfl
 have e143:UInt8.toNat 143=143:=rfl
 have e144:UInt8.toNat 144=144:=rfl
 have e159:UInt8.toNat 159=159:=rfl
 have e160:UInt8.toNat 160=160:=rfl
 have e191:UInt8.toNat 191=191:=rfl
 unfold Lib.decodeL Utf8.decode width trail
 simp only[aJu,Utf8.runeError,Utf8.valid]
 have hs:(ByteArray.mk (c::l).toArray).size=l.length+1:=by simp[ByteArray.size]
 simp only[hs]
 match l with
 | [] =>
   simp[aFR,aG4,aFC]
   repeat' split
   all_goals simp
   all_goals omega
 | [d] =>
   have hd:=d.toNat_lt
   simp[aFR,aG4,aFC]
   repeat' split
   all_goals simp
   all_goals omega
 | [d,e] =>
   have hd:=d.toNat_lt
   have he:=e.toNat_lt
   simp[aFR,aG4,aFC]
   repeat' split
   all_goals simp
   all_goals omega
 | d::e::f::l =>
   have hd:=d.toNat_lt
   have he:=e.toNat_lt
   have hf:=f.toNat_lt
   simp[aFR,aG4,aFC]
   repeat' split
   all_goals simp
   all_goals omega
theorem aKk {l:List UInt8} {n:Nat} {lo hi:UInt8} (h:trail l n lo hi=true):n≤l.length:=by
 simp[trail] at h; exact h.1.1
theorem width_le (l:List UInt8):width l≤l.length:=by
 cases l with
 | nil=>simp[width]
 | cons c l =>
   simp only[width]
   repeat' split
   all_goals first
     | (simp; done)
     | (rename_i h; simp only[Bool.and_eq_true] at h; have:=aKk h.2; simp; omega)
theorem au7:∀ (n:Nat) (l:List UInt8),l.length≤n→Lib.validGoD n l=BQ n l
 | 0,l,h=>by
   have:l=[]:=List.eq_nil_of_length_eq_zero (by omega)
   subst this; rfl
 | n+1,[],_=>by simp[Lib.validGoD,BQ]
 | n+1,c::l,h=>by
   have hd:=aCW c l
   have hw:=width_le (c::l)
   simp only[Lib.validGoD,BQ,List.isEmpty_cons,Bool.false_or]
   rw[if_neg (by simp)]
   by_cases h0:width (c::l)=0
   ·rw[if_pos (hd.1.2 h0),h0]; simp
   ·rw[if_neg (fun h=>h0 (hd.1.1 h)),hd.2 h0]
    have:(width (c::l) != 0)=true:=by simpa using h0
    rw[this,Bool.true_and]
    refine au7 n _ ?_
    simp at h ⊢
    omega
theorem aDS (s:S):Lib.validD s.data.toList=Qb s:=au7 _ _ (Nat.le_refl _)
end Go.Tidy

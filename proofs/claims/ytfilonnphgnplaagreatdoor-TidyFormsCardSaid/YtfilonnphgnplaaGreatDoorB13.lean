/- Part 13. -/
import Derived.Test.YtfilonnphgnplaaGreatDoorB12
import Derived.Test.YtfilonnphgnplaaGreatDoorProg
import Derived.WalkKit
import Derived.WalkMore
import Derived.Below
import Derived.Shelf.Unicode.ValidAny
import Derived.Shelf.SlIter.Nil
import Derived.Shelf.SortM.Plain
import Derived.Shelf.SortM.SortNone
import Derived.Shelf.SlicesG.CompactS
import Derived.Ground.GgzProg
import Derived.Ground.SlgmProg
import Derived.Ground.SlgnProg
import Derived.Ground.NamesProg
set_option linter.unusedSimpArgs false
set_option linter.unusedVariables false
set_option maxRecDepth 100000
namespace Go.Proofs.YtfilonnphgnplaaGreatDoor.Pv
open Go Go.Tidy
theorem sameT_dec (a b:Ty):decide (oInt (cmpT a b)=0)=sameT a b:=by
 unfold sameT
 cases cmpT a b<;>rfl
theorem c_ref11_same (a b:Ty) (ha:formedT a=true) (hb' : formedT b=true):Ret prog M.F_ref11_same [.agg (cT a),.agg (cT b)] (.bool (sameT a b)):=by
 refine Ret.go hmix h_ref11_same (by simp) fun hb w0 F0 hG=>?_
 simp
 intros
 refine XCall.ret (c_ref09_Cmp a b ha hb') ?_
 simp[sameT_dec]
theorem filter_take {α:Type} (p:α→Bool) {l:List α} {k:Nat} (hk:k<l.length):(l.take (k+1)).filter p=if p l[k] then (l.take k).filter p++[l[k]] else (l.take k).filter p:=by
 rw[List.take_add_one,List.getElem?_eq_getElem hk]
 simp only[Option.toList_some,List.filter_append,List.filter_cons,List.filter_nil]
 split<;>simp
theorem trip_len {o:Ob} (h1:o.names.length=o.fields.length) (h2:o.names.length=o.must.length):(tripO o).length=o.names.length:=by unfold tripO; simp; omega
theorem trip_get {o:Ob} {k:Nat} (h1:k<o.names.length) (h2:k<o.fields.length) (h3:k<o.must.length) (h4:k<(tripO o).length):(tripO o)[k]=(o.names[k],o.fields[k],o.must[k]):=by
 have h:(o.names.zip (o.fields.zip o.must))[k]'h4=(o.names[k],o.fields[k],o.must[k]):=List.getElem_zip.trans (by rw[List.getElem_zip])
 exact h
abbrev tN (l:List (S × Ty × Bool)):List (List PV):=(l.map (·.1)).map encStr
abbrev tF (l:List (S × Ty × Bool)):List (List PV):=(l.map (·.2.1)).map encTy
abbrev tM (l:List (S × Ty × Bool)):List (List PV):=(l.map (·.2.2)).map encBool
set_option maxHeartbeats 4000000 in
theorem c_ref11_spare (o:Ob) (ho:formedO o=true) (hn:o.names.length≤34359738368):Ret prog M.F_ref11_spare [.agg (cO o)] (.agg (cO (spareO o))):=by
 refine Ret.go hmix h_ref11_spare (by simp) fun hb w0 F0 hG=>?_
 obtain⟨o1,o2,o3,o4,o5,o6⟩:=formedO_spec ho
 have hR:spareO o=ofTrip ((tripO o).filter fun p=>p.2.2||!sameT p.2.1 o.rest) o.rest:=rfl
 generalize spareO o=R at *
 have hT:=trip_len o1 o2
 simp
 intro v1 v2 v3
 obtain⟨J,hJ⟩ : ∃ J:Nat→List (S × Ty × Bool)→Prop,J=fun k l=>l=((tripO o).take k).filter fun p=>p.2.2||!sameT p.2.1 o.rest:=⟨_,rfl⟩
 refine XLoop.cntR hmix [(1000003,1,1000),(2000003,9,1001),(3000003,1,1002)] rfl o.names.length (fun v k l=>⟨[(4,.int .i64 k),(3,.ptr (3,v3) 12 0 0),(2,.ptr (2,v2) 12 0 0),(1,.ptr (1,v1) 12 0 0)],
  [((3,v3),some ⟨12,[oneC (.own (1000,v) 1 0 l.length false) (.own (1001,v) 9 0 l.length false) (.own (1002,v) 1 0 l.length false) o.rest],false,true⟩),((1000,v),some ⟨1,tN l,false,false⟩),((1001,v),some ⟨9,tF l,false,false⟩),((1002,v),some ⟨1,tM l,false,false⟩),((2,v2),some ⟨12,[M.z4],false,true⟩),((1,v1),some ⟨12,[cO o],false,true⟩)]⟩) J [] (by rw[hJ]; rfl) (by simp) fun v k l _ hk hj=>?_
 have hw:=wrap64 (n:=(k:Int)+1) (by omega) (by omega)
 have hj' : l=((tripO o).take k).filter fun p=>p.2.2||!sameT p.2.1 o.rest:=by rw[hJ] at hj; exact hj
 have hll:l.length≤k:=by
  rw[hj']; refine Nat.le_trans (List.length_filter_le _ _) ?_
  simp; omega
 by_cases g:k<o.names.length
 ·have g1:k<o.fields.length:=by omega
  have g2:k<o.must.length:=by omega
  have hs:=trip_get g g1 g2 (by omega)
  have hst:=filter_take (fun p:S × Ty × Bool=>p.2.2||!sameT p.2.1 o.rest) (l:=tripO o) (k:=k) (by omega)
  rw[hs,← hj'] at hst
  simp[g]
  refine XCut.go hmix ?_
  cases e1:o.must[k]
  ·simp[g,g1,g2,e1]
   intros
   refine XDCall.ret (c_ref11_same _ _ (o5 _ (List.getElem_mem g1)) o4) ?_
   cases e2:sameT o.fields[k] o.rest
   ·rw[if_pos (by simp[e2])] at hst
    simp[g,g1,g2,e1,e2,hw]
    exact fun _=>⟨by omega,fun _=>⟨by omega,fun _=>⟨by omega,l++[(o.names[k],o.fields[k],o.must[k])],by rw[hJ]; exact hst.symm,fun _=>by simp[e1]⟩⟩⟩
   ·rw[if_neg (by simp[e1,e2])] at hst
    simp[g,g1,g2,e1,e2,hw]
    exact⟨l,by rw[hJ]; exact hst.symm,fun _=>by simp⟩
  ·rw[if_pos (by simp[e1])] at hst
   simp[g,g1,g2,e1,hw]
   exact fun _=>⟨by omega,fun _=>⟨by omega,fun _=>⟨by omega,l++[(o.names[k],o.fields[k],o.must[k])],by rw[hJ]; exact hst.symm,fun _=>by simp[e1]⟩⟩⟩
 ·have e1:l=(tripO o).filter fun p=>p.2.2||!sameT p.2.1 o.rest:=by rw[hj',List.take_of_length_le (by omega)]
  rw[hR,← e1]
  simp[g,ofTrip]
end Go.Proofs.YtfilonnphgnplaaGreatDoor.Pv
set_option maxRecDepth 100000
namespace Go.Proofs.YtfilonnphgnplaaGreatDoor.Pv
open Go Go.Tidy
theorem putO_cons (o x:Ob) (l:List Ob):putO o (x::l)=match cmpO o x with|.lt=>o::x::l|.eq=>x::l|.gt=>x::putO o l:=by
 rw[putO,cmp_alone]
 cases cmpO o x<;>rfl
set_option maxHeartbeats 4000000 in
theorem c_ref11_put (l:List Ob) (o:Ob) (hl:∀ x∈l,formedO x=true) (ho:formedO o=true) (hn:l.length≤34359738368):RetO prog M.F_ref11_put [.vec 12 false (l.map encObj),.agg (cO o)] 12 ((putO o l).map encObj):=by
 refine RetO.go hmix h_ref11_put (by simp) fun hb w0 F0 hG=>?_
 generalize hR:putO o l=R
 simp
 intro v1 v2
 obtain⟨J,hJ⟩ : ∃ J:Nat→List Ob × Bool→Prop,J=fun k q=>R=q.1++(if q.2 then l.drop k else putO o (l.drop k))∧q.1.length≤k+q.2.toNat:=⟨_,rfl⟩
 refine XLoop.cntR hmix [(5,12,1005)] rfl l.length (fun v k (q:List Ob × Bool)=>⟨[(7,.int .i64 k),(6,.bool q.2),(5,.own (1005,v) 12 0 q.1.length false),(3,.ptr (3,v1) 12 0 0),(0,.vec 12 false (l.map encObj))],
  [((1005,v),some ⟨12,q.1.map encObj,false,false⟩),((3,v1),some ⟨12,[cO o],false,true⟩)]⟩) J ([],false) (by rw[hJ]; exact⟨by simp[hR],by simp⟩) (by simp) fun v k q _ hk hj=>?_
 obtain⟨acc,d⟩:=q
 have hd':=d.toNat_le
 have hw:=wrap64 (n:=(k:Int)+1) (by omega) (by omega)
 obtain⟨j1,j2⟩ : R=acc++(if d then l.drop k else putO o (l.drop k))∧acc.length≤k+d.toNat:=by rw[hJ] at hj; exact hj
 by_cases g:k<l.length
 ·have hd:l.drop k=l[k]::l.drop (k+1):=List.drop_eq_getElem_cons g
  have hp:=putO_cons o l[k] (l.drop (k+1))
  rw[← hd] at hp
  have hok:=hl l[k] (List.getElem_mem g)
  simp[g]
  intros
  refine XDCall.ret (c_ref11_Alone o) ?_
  simp[g]
  refine XDCall.ret (c_ref11_Alone l[k]) ?_
  simp[g]
  refine XDCall.ret (c_ref09_Cmp _ _ (alone_formed ho) (alone_formed hok)) ?_
  rw[cmp_alone]
  simp
  obtain⟨J1,hJ1⟩ : ∃ J1:List Ob × Bool→Prop,J1=fun q=>R=q.1++l[k]::(if q.2 then l.drop (k+1) else putO o (l.drop (k+1)))∧q.1.length≤k+q.2.toNat:=⟨_,rfl⟩
  refine XCut.manyR hmix [(5,12,1006)] rfl (fun v (q:List Ob × Bool)=>⟨[(7,.int .i64 k),(6,.bool q.2),(5,.own (1006,v) 12 0 q.1.length false),(3,.ptr (3,v1) 12 0 0),(0,.vec 12 false (l.map encObj))],
   [((1006,v),some ⟨12,q.1.map encObj,false,false⟩),((3,v1),some ⟨12,[cO o],false,true⟩)]⟩) J1 ?_ fun v q _ hq=>?_
  ·cases d
   ·cases hc:cmpO o l[k]<;>rw[hc] at hp
    ·simp
     refine XCut.go hmix ?_
     simp
     exact fun _=>⟨by omega,⟨acc++[o],by rw[hJ1]; exact⟨by rw[j1]; simp[hp],by simp at j2 ⊢<;>omega⟩,fun _=>by simp⟩⟩
    ·simp
     refine XCut.go hmix ?_
     simp
     exact⟨acc,by rw[hJ1]; exact⟨by rw[j1]; simp[hp],by simp at j2 ⊢<;>omega⟩,fun _=>by simp⟩
    ·simp
     exact⟨acc,by rw[hJ1]; exact⟨by rw[j1]; simp[hp],by simp at j2 ⊢<;>omega⟩,fun _=>by simp⟩
   ·simp
    exact⟨acc,by rw[hJ1]; exact⟨by rw[j1]; simp,by simp at j2 ⊢<;>omega⟩,fun _=>by simp⟩
  ·obtain⟨acc',d'⟩:=q
   obtain⟨k1,k2⟩ : R=acc'++l[k]::(if d' then l.drop (k+1) else putO o (l.drop (k+1)))∧acc'.length≤k+d'.toNat:=by rw[hJ1] at hq; exact hq
   simp[g,hw,-Bool.exists_bool]
   have:=d'.toNat_le
   exact fun _=>⟨by omega,acc'++[l[k]],d',by rw[hJ]; exact⟨by rw[k1]; simp,by simp<;>omega⟩,fun _=>by simp⟩
 ·rw[List.drop_eq_nil_of_le (by omega)] at j1
  cases d
  ·simp[g]
   refine XCut.go hmix ?_
   simp
   have:R=acc++[o]:=by rw[j1]; rfl
   exact⟨by omega,by rw[this,List.take_of_length_le (by simp)]; simp⟩
  ·simp[g]
   refine XCut.go hmix ?_
   have:R=acc:=by rw[j1]; simp
   simp[this]
end Go.Proofs.YtfilonnphgnplaaGreatDoor.Pv
set_option maxRecDepth 100000
namespace Go.Proofs.YtfilonnphgnplaaGreatDoor.Pv
open Go Go.Tidy
def keptL (l:List Ob) (g:List Bool) (i:Nat):List Ob:=(((l.zip g).take i).filter fun p=>!p.2).map (·.1)
theorem kept_step {l:List Ob} {g:List Bool} {i:Nat} (h1:i<l.length) (h2:i<g.length):keptL l g (i+1)=keptL l g i++(if g[i] then [] else [l[i]]):=by
 unfold keptL
 rw[filter_take _ (by simp; omega)]
 simp only[List.getElem_zip]
 cases g[i]<;>simp
theorem kept_set {l:List Ob} {g:List Bool} {i:Nat} {b:Bool}:keptL l (g.set i b) i=keptL l g i:=by
 unfold keptL
 have:(l.zip (g.set i b)).take i=(l.zip g).take i:=by
  rw[List.zip_eq_zipWith,List.zip_eq_zipWith,List.take_zipWith,List.take_zipWith,List.take_set,List.set_eq_of_length_le (by simp; omega)]
 rw[this]
theorem kept_mem {l:List Ob} {g:List Bool} {i:Nat} {o:Ob} (hi:i≤l.length) (hg:g.length=l.length):o∈keptL l g i↔∃ j,∃ hj:j<l.length,j<i∧g[j]? = some false∧l[j]=o:=by
 unfold keptL
 simp only[List.mem_map,List.mem_filter,List.mem_take_iff_getElem,Bool.not_eq_true']
 constructor
 ·rintro⟨⟨x,b⟩,⟨⟨j,hj,he⟩,hb⟩,rfl⟩
  simp only[List.length_zip] at hj
  have hj1:j<l.length:=by omega
  have hj2:j<g.length:=by omega
  simp only[List.getElem_zip,Prod.mk.injEq] at he
  simp only at hb
  exact⟨j,hj1,by omega,by rw[List.getElem?_eq_getElem hj2,he.2,hb],he.1⟩
 ·rintro⟨j,hj,hji,hgj,rfl⟩
  have hj2:j<g.length:=by omega
  rw[List.getElem?_eq_getElem hj2] at hgj
  exact⟨(l[j],false),⟨⟨j,by simp; omega,by simp[Option.some.inj hgj]⟩,rfl⟩,rfl⟩
theorem outerO_step (kept:List Ob) (o:Ob) (l:List Ob):outerO kept (o::l)=if kept.any (belowO o)||l.any (belowO o) then outerO kept l else outerO (kept++[o]) l:=rfl
theorem outer_next {l:List Ob} {g:List Bool} {i:Nat} {b:Bool} {R:List Ob} (hi:i<l.length) (hg:g.length=l.length) (hf:∀ j,i≤j→j<l.length→g[j]? = some false) (hR:R=outerO (keptL l g i) (l.drop i))
 (hb:b=true↔∃ j,∃ hj:j<l.length,j<l.length∧j≠i∧g[j]? = some false∧belowO l[i] l[j]=true):R=outerO (keptL l (g.set i b) (i+1)) (l.drop (i+1)):=by
 rw[hR,List.drop_eq_getElem_cons hi,outerO_step,kept_step hi (by simp; omega),kept_set]
 have e:b=((keptL l g i).any (belowO l[i])||(l.drop (i+1)).any (belowO l[i])):=by
  rw[Bool.eq_iff_iff,hb,Bool.or_eq_true,List.any_eq_true,List.any_eq_true]
  constructor
  ·rintro⟨j,hj,_,hne,hgj,hbj⟩
   rcases Nat.lt_or_gt_of_ne hne with h|h
   ·exact .inl ⟨l[j],(kept_mem (by omega) hg).2 ⟨j,hj,h,hgj,rfl⟩,hbj⟩
   ·refine .inr ⟨l[j],?_,hbj⟩
    rw[List.mem_drop_iff_getElem]
    exact⟨j-(i+1),by omega,by congr 1; omega⟩
  ·rintro (⟨o,ho,hb⟩|⟨o,ho,hb⟩)
   ·obtain⟨j,hj,hji,hgj,rfl⟩:=(kept_mem (by omega) hg).1 ho
    exact⟨j,hj,hj,by omega,hgj,hb⟩
   ·rw[List.mem_drop_iff_getElem] at ho
    obtain⟨j,hj,rfl⟩:=ho
    exact⟨i+1+j,by omega,by omega,by omega,hf _ (by omega) (by omega),hb⟩
 rw[← e]
 simp only[List.getElem_set_self]
 cases b<;>simp
set_option maxHeartbeats 4000000 in
theorem c_ref11_outer (l:List Ob) (hF:∀ o∈l,FitT (aloneT o)) (hn:l.length≤34359738368):RetO prog M.F_ref11_outer [.vec 12 false (l.map encObj)] 12 ((outerO [] l).map encObj):=by
 refine RetO.go hmix h_ref11_outer (by simp) fun hb w0 F0 hG=>?_
 generalize hR:outerO [] l=R
 have cB:∀ i (hi:i<l.length) j (hj:j<l.length),Ret prog M.F_ref12_Below [.agg (cT (aloneT l[i])),.agg (cT (aloneT l[j]))] (.bool (belowO l[i] l[j])):=fun i hi j hj=>c_ref12_Below _ _ (hF _ (List.getElem_mem hi)) (hF _ (List.getElem_mem hj))
 simp
 refine fun v0=>⟨by omega,?_⟩
 obtain⟨J,hJ⟩ : ∃ J:Nat→List Bool→Prop,J=fun i g=>g.length=l.length∧(∀ j,i≤j→j<l.length→g[j]? = some false)∧R=outerO (keptL l g i) (l.drop i):=⟨_,rfl⟩
 refine XLoop.cntR hmix [(3,1,1003)] rfl l.length (fun v i (g:List Bool)=>⟨[(4,.int .i64 i),(3,.own (1003,v) 1 0 l.length false),(0,.vec 12 false (l.map encObj))],[((1003,v),some ⟨1,g.map encBool,false,false⟩)]⟩) J (List.replicate l.length false) (by rw[hJ]; exact⟨by simp,fun j _ hj=>by simp[hj],by simp[keptL,hR]⟩) (by simp) fun v i g _ hi hj=>?_
 have hw:=wrap64 (n:=(i:Int)+1) (by omega) (by omega)
 obtain⟨j1,j2,j3⟩ : g.length=l.length∧(∀ j,i≤j→j<l.length→g[j]? = some false)∧R=outerO (keptL l g i) (l.drop i):=by rw[hJ] at hj; exact hj
 by_cases h1:i<l.length
 ·simp[h1]
  obtain⟨J',hJ'⟩ : ∃ J:Nat→Bool→Prop,J=fun k b=>(b=true↔∃ j,∃ hj:j<l.length,j<k∧j≠i∧g[j]? = some false∧belowO l[i] l[j]=true):=⟨_,rfl⟩
  refine XLoop.cnt hmix l.length (fun k (b:Bool)=>⟨[(5,.int .i64 k),(4,.int .i64 i),(3,.own (1003,v) 1 0 l.length false),(0,.vec 12 false (l.map encObj))],[((1003,v),some ⟨1,(g.set i b).map encBool,false,false⟩)]⟩) J' false (by rw[hJ']; simp) (by
   have:g.set i false=g:=by
    apply List.ext_getElem? ; intro j
    rw[List.getElem?_set]
    split
    ·rename_i e; subst e; rw[j2 i (Nat.le_refl _) h1]; simp; omega
    ·rfl
   simp[this]) fun k b hk hb'=>?_
  have hw2:=wrap64 (n:=(k:Int)+1) (by omega) (by omega)
  have hb2:b=true↔∃ j,∃ hj:j<l.length,j<k∧j≠i∧g[j]? = some false∧belowO l[i] l[j]=true:=by rw[hJ'] at hb'; exact hb'
  by_cases h2:k<l.length
  ·simp[h2]
   refine XCut.go hmix ?_
   have hkg:k<g.length:=by omega
   have keep:(¬ (k≠i∧g[k]? = some false∧belowO l[i] l[k]=true))→J' (k+1) b:=fun hn=>by
    rw[hJ']
    refine hb2.trans ⟨fun ⟨j,q1,q2,q3⟩=>⟨j,q1,by omega,q3⟩,fun ⟨j,q1,q2,q3⟩=>⟨j,q1,?_,q3⟩⟩
    rcases Nat.lt_or_ge j k with h|h
    ·exact h
    ·obtain rfl:j=k:=by omega
     exact absurd q3 hn
   by_cases hki:k=i
   ·subst hki
    simp[h2,hw2,-Bool.exists_bool]
    exact⟨b,keep (fun h=>h.1 rfl),by simp⟩
   ·have hki' : ¬ (k:Int)=i:=by omega
    have hik:¬ i=k:=fun e=>hki e.symm
    cases e1:g[k]
    ·simp[hki',hik,h2,hkg,e1,h1]
     intros
     refine XDCall.ret (c_ref11_Alone l[i]) ?_
     simp[hki',hik,h2,hkg,e1,h1]
     refine XDCall.ret (c_ref11_Alone l[k]) ?_
     simp[hki',hik,h2,hkg,e1,h1]
     refine XDCall.ret (cB i h1 k h2) ?_
     cases e2:belowO l[i] l[k]
     ·simp[hw2,h2,hki',-Bool.exists_bool]
      exact⟨b,keep (fun h=>by rw[e2] at h; cases h.2.2),by simp⟩
     ·simp[hw2,h2,h1,j1,hki',-Bool.exists_bool]
      refine⟨true,?_,by simp⟩
      rw[hJ']
      exact⟨fun _=>⟨k,h2,by omega,hki,by rw[List.getElem?_eq_getElem hkg,e1],e2⟩,fun _=>rfl⟩
    ·simp[hki',hik,h2,hkg,e1,h1,hw2,-Bool.exists_bool]
     exact⟨b,keep (fun h=>by rw[List.getElem?_eq_getElem hkg,e1] at h; cases h.2.1),by simp⟩
  ·simp[h2,hw]
   have hkl:k=l.length:=by omega
   subst hkl
   refine⟨h1,g.set i b,?_,fun _=>by simp⟩
   rw[hJ]
   refine⟨by simp[j1],fun j hj1 hj2=>?_,outer_next h1 j1 j2 j3 hb2⟩
   rw[List.getElem?_set_ne (by omega)]
   exact j2 j (by omega) hj2
 ·have e1:R=keptL l g l.length:=by
     have:i=l.length:=by omega
     rw[j3,List.drop_eq_nil_of_le (by omega),this]; rfl
  simp[h1]
  intro v1
  clear j2 j3 hj hJ J
  obtain⟨J,hJ⟩ : ∃ J:Nat→List Ob→Prop,J=fun k acc=>acc=keptL l g k:=⟨_,rfl⟩
  refine XLoop.cntR hmix [(6,12,1006)] rfl l.length (fun v' k (acc:List Ob)=>⟨[(7,.int .i64 k),(6,.own (1006,v') 12 0 acc.length false),(3,.vec 1 false (g.map encBool)),(0,.vec 12 false (l.map encObj))],[((1006,v'),some ⟨12,acc.map encObj,false,false⟩)]⟩) J [] (by rw[hJ]; simp[keptL]) (by simp[j1]; rw[← j1,List.take_of_length_le (by simp)]) fun v' k acc _ hk hj=>?_
  have hw2:=wrap64 (n:=(k:Int)+1) (by omega) (by omega)
  have hj' : acc=keptL l g k:=by rw[hJ] at hj; exact hj
  have hal:acc.length≤k:=by
   rw[hj']; unfold keptL
   rw[List.length_map]
   refine Nat.le_trans (List.length_filter_le _ _) ?_
   simp; omega
  by_cases h2:k<l.length
  ·have hkg:k<g.length:=by omega
   have hst:=kept_step h2 hkg
   rw[← hj'] at hst
   simp[h2]
   refine XCut.go hmix ?_
   cases e2:g[k]<;>rw[e2] at hst
   ·simp[h2,hkg,e2,hw2]
    exact fun _=>⟨by omega,acc++[l[k]],by rw[hJ]; exact hst.symm,fun _=>by simp⟩
   ·simp[h2,hkg,e2,hw2]
    exact⟨acc,by rw[hJ]; simpa using hst.symm,fun _=>by simp⟩
  ·have:acc=R:=by rw[hj',e1]; congr 1; omega
   simp[h2,this]
end Go.Proofs.YtfilonnphgnplaaGreatDoor.Pv
set_option maxRecDepth 100000
namespace Go.Proofs.YtfilonnphgnplaaGreatDoor.Pv
open Go Go.Tidy
theorem fit_bd {NM:List S} {m:Nat} {t:Ty} (h1:formedT t=true) (h2:bdT NM m t) (h3:NM.length≤34359738368):FitT t:=⟨h1,nm_of_bd h3 t h1 h2⟩
def NormOk (F:Nat) (h:Int) (N:Ty→Ty) (NM:List S) (B:Nat):Prop:=∀ t m,formedT t=true→bdT NM m t→m≤B→Ret prog F [.agg (cT t),.int .i64 h] (.agg (cT (N t)))
theorem fold_take {l:List Ty} {k:Nat} (x:Ty) (hk:k<l.length):(l.take (k+1)).foldl sumT x=sumT ((l.take k).foldl sumT x) l[k]:=by
 rw[List.take_add_one,List.getElem?_eq_getElem hk]
 simp only[Option.toList_some,List.foldl_append,List.foldl_cons,List.foldl_nil]
set_option maxHeartbeats 4000000 in
theorem trim_step (h:Int) (N:Ty→Ty) (NM:List S) (B:Nat) (hN:NormOk M.F_ref11_Normal h N NM B) (hNf:∀ t,formedT t=true→formedT (N t)=true) (h3:NM.length≤1073741824) (hM:4*(NM.length+1)≤B) (o:Ob) (ho:formedO o=true) (hbo:bdO NM 4 o) :
 Ret prog M.F_ref11_trim [.agg (cO o),.int .i64 h] (.agg (cO (trimO N o))):=by
 refine Ret.go hmix h_ref11_trim (by simp) fun hb w0 F0 hG=>?_
 have hnl:o.names.length≤NM.length:=SS_len (formedO_SS ho) hbo.1
 have c0:=c_ref11_spare o ho (by omega)
 have hs:=formed_spareO ho
 have hsb:=bd_spareO hbo
 have hT:trimO N o=if (spareO o).names.length≤12 then spareO o else spareO (.mk ((spareO o).names.take 12) ((spareO o).fields.take 12) ((spareO o).must.take 12) (N (sumL ((spareO o).rest::(spareO o).fields.drop 12)))):=rfl
 generalize trimO N o=R at *
 generalize spareO o=p at *
 obtain⟨p1,p2,p3,p4,p5,p6⟩:=formedO_spec hs
 have hpl:p.names.length≤NM.length:=SS_len (formedO_SS hs) hsb.1
 have hTl:=trip_len p1 p2
 simp
 intro v1 v2
 refine XCall.ret c0 ?_
 by_cases h12:p.names.length≤12
 ·have h12' : (p.names.length:Int)≤12:=by omega
  rw[if_pos h12] at hT
  simp[h12',hT]
 ·have h12' : ¬ (p.names.length:Int)≤12:=by omega
  rw[if_neg h12,sumL_cons _ p4] at hT
  simp[h12']
  intro v3
  obtain⟨J,hJ⟩ : ∃ J:Nat→Ty→Prop,J=fun k r=>r=((p.fields.drop 12).take k).foldl sumT p.rest:=⟨_,rfl⟩
  refine XLoop.cnt hmix (p.names.length-12) (fun k r=>⟨[(6,.int .i64 (12+k:Nat)),(5,.ptr (5,v3) 9 0 0),(4,.ptr (4,v2) 12 0 0),(2,.ptr (2,v1) 12 0 0),(1,.int .i64 h)],[((5,v3),some ⟨9,[cT r],false,true⟩),((4,v2),some ⟨12,[M.z4],false,true⟩),((2,v1),some ⟨12,[cO p],false,true⟩)]⟩) J p.rest (by rw[hJ]; rfl) (by simp) fun k r hk hj=>?_
  have hw:=wrap64 (n:=((12+k:Nat):Int)+1) (by omega) (by omega)
  have hj' : r=((p.fields.drop 12).take k).foldl sumT p.rest:=by rw[hJ] at hj; exact hj
  have hfr:formedT r=true:=by
   rw[hj']; exact formed_fold _ (fun t ht=>p5 t (List.mem_of_mem_drop (List.mem_of_mem_take ht))) _ p4
  have hbr:bdT NM (4*(NM.length+1)) r:=by
   rw[hj']
   have:=bd_fold (NM:=NM) (m:=4) ((p.fields.drop 12).take k) p.rest 4 (fun t ht=>hsb.2.1 t (List.mem_of_mem_drop (List.mem_of_mem_take ht))) hsb.2.2
   refine bd_mono ?_ _ this
   have:((p.fields.drop 12).take k).length≤NM.length:=by simp; omega
   omega
  obtain⟨i,hi⟩ : ∃ i,i=12+k:=⟨_,rfl⟩
  rw[← hi] at hw
  show XC _ _ ⟨[(6,.int .i64 (12+k:Nat)),(5,.ptr (5,v3) 9 0 0),(4,.ptr (4,v2) 12 0 0),(2,.ptr (2,v1) 12 0 0),(1,.int .i64 h)],[((5,v3),some ⟨9,[cT r],false,true⟩),((4,v2),some ⟨12,[M.z4],false,true⟩),((2,v1),some ⟨12,[cO p],false,true⟩)]⟩ _ _
  rw[← hi]
  by_cases g:k<p.names.length-12
  ·have g1:i<p.names.length:=by omega
   have g2:i<p.fields.length:=by omega
   have g3:k<(p.fields.drop 12).length:=by simp; omega
   have hst:=fold_take p.rest g3
   rw[← hj'] at hst
   have e3:(p.fields.drop 12)[k]=p.fields[i]:=by simp[hi]
   have c1:=c_ref11_Sum NM (heightT r) r p.fields[i] _ 4 (Nat.le_refl _) hfr (p5 _ (List.getElem_mem g2)) hbr (hsb.2.1 _ (List.getElem_mem g2)) (by omega)
   simp[g1,g2]
   intros
   refine XDCall.ret c1 ?_
   simp[hw,g1]
   exact⟨by omega,sumT r p.fields[i],by rw[hJ]; show _=_; rw[hst,e3],by simp; omega⟩
  ·have e1:r=(p.fields.drop 12).foldl sumT p.rest:=by rw[hj',List.take_of_length_le (by simp; omega)]
   have g1:¬ i<p.names.length:=by omega
   rw[← e1] at hT
   have c2:=hN r _ hfr hbr hM
   simp[g1]
   refine XCall.ret c2 ?_
   simp
   intro v4
   clear hj hj' hJ J hw
   have hmk:Ob.mk (p.names.take 12) (p.fields.take 12) (p.must.take 12) (N r)=ofTrip ((tripO p).take 12) (N r):=by
    obtain⟨t1,t2,t3⟩:=trip_names p1 p2
    unfold ofTrip
    rw[List.map_take,List.map_take,List.map_take,t1,t2,t3]
   rw[hmk] at hT
   obtain⟨J,hJ⟩ : ∃ J:Nat→List (S × Ty × Bool)→Prop,J=fun k l=>l=(tripO p).take k:=⟨_,rfl⟩
   refine XLoop.cntR hmix [(1000007,1,1000),(2000007,9,1001),(3000007,1,1002)] rfl 12 (fun v k l=>⟨[(8,.int .i64 k),(7,.ptr (7,v4) 12 0 0),(4,.ptr (4,v2) 12 0 0),(2,.ptr (2,v1) 12 0 0)],
    [((7,v4),some ⟨12,[oneC (.own (1000,v) 1 0 l.length false) (.own (1001,v) 9 0 l.length false) (.own (1002,v) 1 0 l.length false) (N r)],false,true⟩),((1000,v),some ⟨1,tN l,false,false⟩),((1001,v),some ⟨9,tF l,false,false⟩),((1002,v),some ⟨1,tM l,false,false⟩),((4,v2),some ⟨12,[M.z4],false,true⟩),((2,v1),some ⟨12,[cO p],false,true⟩)]⟩) J [] (by rw[hJ]; rfl) (by simp) fun v k l _ hk hj=>?_
   have hw:=wrap64 (n:=(k:Int)+1) (by omega) (by omega)
   have hj' : l=(tripO p).take k:=by rw[hJ] at hj; exact hj
   have hll:l.length=k:=by rw[hj']; simp; omega
   by_cases g:k<12
   ·have g2:k<p.names.length:=by omega
    have g3:k<p.fields.length:=by omega
    have g4:k<p.must.length:=by omega
    have hs':=trip_get g2 g3 g4 (by omega)
    have hst:(tripO p).take (k+1)=l++[(p.names[k],p.fields[k],p.must[k])]:=by
     rw[List.take_add_one,List.getElem?_eq_getElem (by omega),hs',hj']; rfl
    have g' : (k:Int)<12:=by omega
    simp[g',g2,g3,g4]
    exact fun _=>⟨by omega,fun _=>⟨by omega,fun _=>⟨by omega,g,l++[(p.names[k],p.fields[k],p.must[k])],by rw[hJ]; exact hst.symm,fun _=>by simp[hw]⟩⟩⟩
   ·have hk12:k=12:=by omega
    subst hk12
    have hfo:formedO (ofTrip l (N r))=true:=by rw[hj']; exact formed_trip hs (List.take_sublist _ _) (hNf r hfr)
    have c3:=c_ref11_spare (ofTrip l (N r)) hfo (by simp[ofTrip]; omega)
    rw[← hj'] at hT
    rw[← hT] at c3
    have c4:Ret prog M.F_ref11_spare [.agg [.vec 1 false (tN l),.vec 9 false (tF l),.vec 1 false (tM l),.bool (N r).all,.bool (N r).null,.bool (N r).fls,.bool (N r).tru,.vec 2 false ((N r).nums.map encSpan),.bool (N r).any,.vec 1 false ((N r).texts.map encStr),.vec 11 false ((N r).arrays.map encArr),.vec 12 false ((N r).objects.map encObj)]] (.agg (cO R)):=c3
    simp
    refine XCall.ret (r:=.agg (cO R)) (by simpa using c4) ?_
    simp
end Go.Proofs.YtfilonnphgnplaaGreatDoor.Pv
set_option maxRecDepth 100000
namespace Go.Proofs.YtfilonnphgnplaaGreatDoor.Pv
open Go Go.Tidy
set_option maxHeartbeats 4000000 in
theorem within_step (h:Int) (N:Ty→Ty) (NM:List S) (B m:Nat) (hN:NormOk M.F_ref11_Normal h N NM B) (hNf:∀ t,formedT t=true→formedT (N t)=true) (hNn:∀ t,formedT t=true→never (N t)=never t) (hNb:∀ t m,bdT NM m t→bdT NM 4 (N t)) (h3:NM.length≤1073741824) (hM:4*(NM.length+1)≤B) (o:Ob) (ho:formedO o=true) (hbo:bdO NM m o) (hm:m≤B) :
 Ret prog M.F_ref11_within [.agg (cO o),.int .i64 h] (.agg (cO (objectO N o))):=by
 refine Ret.go hmix h_ref11_within (by simp) fun hb w0 F0 hG=>?_
 obtain⟨o1,o2,o3,o4,o5,o6⟩:=formedO_spec ho
 have hT:objectO N o=trimO N (.mk o.names (o.fields.map N) o.must (N o.rest)):=rfl
 have hfo:formedO (.mk o.names (o.fields.map N) o.must (N o.rest))=true:=by
  refine formedO_intro (by simp[o1]) o2 o3 (hNf _ o4) (fun f hf=>?_) (fun p hp hm=>?_)
  ·obtain⟨t,ht,rfl⟩:=List.mem_map.1 hf
   exact hNf t (o5 t ht)
  ·simp only[Ob.fields_mk,Ob.must_mk] at hp
   have:(o.fields.map N).zip o.must=(o.fields.zip o.must).map fun p=>(N p.1,p.2):=by
    rw[← List.map_id o.must,List.zip_map]; simp
   rw[this] at hp
   obtain⟨x,hx,rfl⟩:=List.mem_map.1 hp
   rw[hNn _ (o5 _ (List.of_mem_zip hx).1)]
   exact o6 x hx hm
 have hbo' : bdO NM 4 (.mk o.names (o.fields.map N) o.must (N o.rest)):=⟨hbo.1,fun f hf=>by
  obtain⟨t,ht,rfl⟩:=List.mem_map.1 hf
  exact hNb t m (hbo.2.1 t ht),hNb _ m hbo.2.2⟩
 have c1:=trim_step h N NM B hN hNf h3 hM _ hfo hbo'
 rw[← hT] at c1
 generalize objectO N o=R at *
 have hnl:o.names.length≤NM.length:=SS_len (formedO_SS ho) hbo.1
 simp
 intros
 rename_i v0 v1 v2
 refine XDCall.ret (hN o.rest m o4 hbo.2.2 hm) ?_
 simp
 generalize N o.rest=r at *
 obtain⟨J,hJ⟩ : ∃ J:Nat→List Ty→Prop,J=fun k fs=>fs=(o.fields.take k).map N:=⟨_,rfl⟩
 refine XLoop.cntR hmix [(2000005,9,1001)] rfl o.fields.length (fun v k fs=>⟨[(6,.int .i64 k),(5,.ptr (5,v2) 12 0 0),(4,.ptr (4,v1) 12 0 0),(2,.ptr (2,v0) 12 0 0),(1,.int .i64 h)],
  [((5,v2),some ⟨12,[oneC (.vec 1 false (o.names.map encStr)) (.own (1001,v) 9 0 fs.length false) (.vec 1 false (o.must.map encBool)) r],false,true⟩),((1001,v),some ⟨9,fs.map encTy,false,false⟩),((4,v1),some ⟨12,[M.z4],false,true⟩),((2,v0),some ⟨12,[cO o],false,true⟩)]⟩) J [] (by rw[hJ]; rfl) (by simp) fun v k fs _ hk hj=>?_
 have hw:=wrap64 (n:=(k:Int)+1) (by omega) (by omega)
 have hj' : fs=(o.fields.take k).map N:=by rw[hJ] at hj; exact hj
 have hll:fs.length=k:=by rw[hj']; simp; omega
 by_cases g:k<o.fields.length
 ·have hst:=map_take' N g
  rw[← hj'] at hst
  have c2:=hN o.fields[k] m (o5 _ (List.getElem_mem g)) (hbo.2.1 _ (List.getElem_mem g)) hm
  simp[g]
  intros
  refine XDCall.ret c2 ?_
  simp[hw,g]
  exact⟨by omega,fs++[N o.fields[k]],by rw[hJ]; exact hst.symm,fun _=>by simp⟩
 ·have e1:fs=o.fields.map N:=by rw[hj',List.take_of_length_le (by omega)]
  rw[← e1] at c1
  have c4:Ret prog M.F_ref11_trim [.agg [.vec 1 false (o.names.map encStr),.vec 9 false (fs.map encTy),.vec 1 false (o.must.map encBool),.bool r.all,.bool r.null,.bool r.fls,.bool r.tru,.vec 2 false (r.nums.map encSpan),.bool r.any,.vec 1 false (r.texts.map encStr),.vec 11 false (r.arrays.map encArr),.vec 12 false (r.objects.map encObj)],.int .i64 h] (.agg (cO R)):=c1
  simp[g]
  refine XCall.ret (r:=.agg (cO R)) (by simpa using c4) ?_
  simp
theorem rowO_take {l:List Ob} {k:Nat} (hk:k<l.length):rowO (l.take (k+1))=putO l[k] (rowO (l.take k)):=by
 unfold rowO
 rw[List.take_add_one,List.getElem?_eq_getElem hk]
 simp only[Option.toList_some,List.foldl_append,List.foldl_cons,List.foldl_nil]
set_option maxHeartbeats 4000000 in
theorem objects_step (h:Int) (N:Ty→Ty) (NM:List S) (B:Nat) (l:List Ob) (hf:∀ o∈l,formedO o=true) (hb4:∀ o∈l,bdO NM 4 o) (h3:NM.length≤1073741824) (hl:l.length≤2147483648)
 (hW:4<(outerO [] (rowO l)).length→Ret prog M.F_ref11_within [.agg (cO (oneO ((outerO [] (rowO l)).drop 3))),.int .i64 h] (.agg (cO (objectO N (oneO ((outerO [] (rowO l)).drop 3))))))
 (hO:4<(outerO [] (rowO l)).length→RetO prog M.F_ref11_objects [.vec 12 false (((outerO [] (rowO l)).take 3++[objectO N (oneO ((outerO [] (rowO l)).drop 3))]).map encObj),.int .i64 h] 12 ((outerO [] (rowO ((outerO [] (rowO l)).take 3++[objectO N (oneO ((outerO [] (rowO l)).drop 3))]))).map encObj)) :
 RetO prog M.F_ref11_objects [.vec 12 false (l.map encObj),.int .i64 h] 12 ((objectsO N l).map encObj):=by
 refine RetO.go hmix h_ref11_objects (by simp) fun hb w0 F0 hG=>?_
 have hT:objectsO N l=if (outerO [] (rowO l)).length≤4 then outerO [] (rowO l) else outerO [] (rowO ((outerO [] (rowO l)).take 3++[objectO N (oneO ((outerO [] (rowO l)).drop 3))])):=rfl
 have hr:∀ o∈rowO l,o∈l:=(rowO_sub l).1
 have hrl:=(rowO_sub l).2.1
 have hq:∀ x∈outerO [] (rowO l),x∈l:=fun x hx=>(outerO_sub _ _ x hx).elim (fun h=>by cases h) (hr x)
 have hql:(outerO [] (rowO l)).length≤l.length:=by have:=(outerO_len (rowO l) []).1; simp at this; omega
 have c1:=c_ref11_outer (rowO l) (fun o ho=>fit_bd (alone_formed (hf o (hr o ho))) (bd_alone (by omega) (hb4 o (hr o ho))) (by omega)) (by omega)
 generalize objectsO N l=R at *
 simp
 intro v0
 obtain⟨J,hJ⟩ : ∃ J:Nat→List Ob→Prop,J=fun k acc=>acc=rowO (l.take k):=⟨_,rfl⟩
 refine XLoop.cntR hmix [(5,12,1005)] rfl l.length (fun v k (acc:List Ob)=>⟨[(6,.int .i64 k),(5,.own (1005,v) 12 0 acc.length false),(1,.int .i64 h),(0,.vec 12 false (l.map encObj))],[((1005,v),some ⟨12,acc.map encObj,false,false⟩)]⟩) J [] (by rw[hJ]; rfl) (by simp) fun v k acc _ hk hj=>?_
 have hw:=wrap64 (n:=(k:Int)+1) (by omega) (by omega)
 have hj' : acc=rowO (l.take k):=by rw[hJ] at hj; exact hj
 by_cases g:k<l.length
 ·have hst:=rowO_take g
  rw[← hj'] at hst
  have hal:acc.length≤k:=by rw[hj']; have:=(rowO_sub (l.take k)).2.1; simp at this; omega
  have c2:=c_ref11_put acc l[k] (fun x hx=>hf x (List.mem_of_mem_take ((rowO_sub (l.take k)).1 x (by rw[← hj']; exact hx)))) (hf _ (List.getElem_mem g)) (by omega)
  simp[g]
  refine XCall.retO (by simpa using c2) ?_
  simp[g,hw]
  exact⟨putO l[k] acc,by rw[hJ]; exact hst.symm,fun _=>by simp⟩
 ·have e1:acc=rowO l:=by rw[hj',List.take_of_length_le (by omega)]
  rw[← e1] at c1 hT hW hO hql hq
  simp[g]
  refine XCall.retO (by simpa using c1) ?_
  generalize outerO [] acc=row at *
  simp
  intro v1
  by_cases g4:row.length≤4
  ·have g4' : (row.length:Int)≤4:=by omega
   rw[if_pos g4] at hT
   simp[g4',hT]
   intro _; omega
  ·have g4' : ¬ (row.length:Int)≤4:=by omega
   rw[if_neg g4] at hT
   have hO':=hO (by omega)
   have hW':=hW (by omega)
   have c3:=c_ref11_One NM 4 (row.drop 3) (fun o ho=>hf o (hq o (List.mem_of_mem_drop ho))) (fun o ho=>hb4 o (hq o (List.mem_of_mem_drop ho))) (by omega) (by simp; omega) (by omega)
   have e3:((row.map encObj).drop 3).take (row.length-3)=(row.drop 3).map encObj:=by rw[List.take_of_length_le (by simp),List.map_drop]
   simp[g4']
   intro _ v2
   refine⟨by omega,fun v3=>⟨⟨by omega,by omega⟩,by omega,?_⟩⟩
   refine XCall.ret (r:=.agg (cO (oneO (row.drop 3)))) (by simpa[e3] using c3) ?_
   have m3:min 3 row.length=3:=by omega
   have t3:((row.map encObj).take 3).length=3:=by simp; omega
   generalize objectO N (oneO (row.drop 3))=X at *
   simp
   refine⟨by omega,?_⟩
   refine XCall.ret hW' ?_
   simp[m3]
   intros
   have e4:(((row.map encObj).take 3).take 3).take 3++[cO X]=(row.take 3++[X]).map encObj:=by simp[List.take_take]
   have e5:List.take 4 (((row.map encObj).take 3).take 3++[cO X])=(row.take 3++[X]).map encObj:=by
    rw[List.take_of_length_le (by simp; omega),List.take_take]; simp
   rw[← hT,← e5] at hO'
   refine XCall.retO (esz:=12) (xs:=R.map encObj) (by simp; exact hO') ?_
   simp[m3]
end Go.Proofs.YtfilonnphgnplaaGreatDoor.Pv
set_option maxRecDepth 100000
namespace Go.Proofs.YtfilonnphgnplaaGreatDoor.Pv
open Go Go.Tidy
abbrev outC (t:Ty) (any:Bool) (texts arrs objs:PV):List PV:=[.bool false,.bool t.null,.bool t.fls,.bool t.tru,.vec 2 false (t.nums.map encSpan),.bool any,texts,arrs,objs]
theorem normal_every (h:Int) (t:Ty) (hz:t.all=true∨(h<1∧(t.arrays≠[]∨t.objects≠[]))):Ret prog M.F_ref11_Normal [.agg (cT t),.int .i64 h] (.agg (cT tEvery)):=by
 refine Ret.go hmix h_ref11_Normal (by simp) fun hb w0 F0 hG=>?_
 cases e0:t.all
 ·obtain⟨h1,h2⟩ : h<1∧(t.arrays≠[]∨t.objects≠[]):=by simpa[e0] using hz
  by_cases ha:t.arrays=[]
  ·have hl:=List.length_pos_iff.2 (h2.resolve_left (fun h=>h ha))
   simp[e0,h1,ha,hl]
   intros
   refine XCall.ret c_ref11_every ?_
   simp[tEvery]
  ·have hl:=List.length_pos_iff.2 ha
   simp[e0,h1,ha,hl]
   intros
   refine XCall.ret c_ref11_every ?_
   simp[tEvery]
 ·simp[e0]
  intros
  refine XCall.ret c_ref11_every ?_
  simp[tEvery]
section
variable {w0:World} {F0:Nat→Prop} {hG:GOk prog w0 F0}
set_option maxHeartbeats 4000000 in
theorem normal_l2 (h:Int) (t:Ty) (v2 v4 v5:Nat) (any:Bool) (texts:List S) (az:List Arr) (os:List Ob) (wf:Ob→Ob) (hh:IntKind.i64.wrap (h-1)=h-1) (hf:formedT (.mk false t.null t.fls t.tru t.nums any texts az os)=true) (hl:t.objects.length≤34359738368)
 (hW:∀ o∈t.objects,Ret prog M.F_ref11_within [.agg (cO o),.int .i64 (h-1)] (.agg (cO (wf o))))
 (hO:RetO prog M.F_ref11_objects [.vec 12 false ((t.objects.map wf).map encObj),.int .i64 (h-1)] 12 (os.map encObj)) :
 ∀ st:St,(∀ v,LS (canonF [(7,12,1007)] v st) ⟨[(8,.int .i64 0),(7,.own (1007,v) 12 0 0 false),(5,.ptr (5,v5) 9 0 0),(4,.ptr (4,v4) 9 0 0),(2,.ptr (2,v2) 9 0 0),(1,.int .i64 h)],[((1007,v),some ⟨12,[],false,false⟩),((5,v5),some ⟨9,[outC t any (.vec 1 false (texts.map encStr)) (.vec 11 false (az.map encArr)) (.vec 12 true [])],false,true⟩),((4,v4),some ⟨9,[M.z1],false,true⟩),((2,v2),some ⟨9,[cT t],false,true⟩)]⟩) →
 XLoop ⟨prog,w0,F0,112,[],0,hG⟩ (.loop M.b_ref11_Normal_2) st [.bk 2,.sq M.t_ref11_Normal_0]
  (retIs M.rs_ref11_Normal (.agg (cT (if sameT (.mk false t.null t.fls t.tru t.nums any texts az os) laidAll then tEvery else .mk false t.null t.fls t.tru t.nums any texts az os)))):=by
 have cs:=c_ref11_same (.mk false t.null t.fls t.tru t.nums any texts az os) laidAll hf fit_laidAll.1
 obtain⟨R,hR⟩ : ∃ R,R=(if sameT (.mk false t.null t.fls t.tru t.nums any texts az os) laidAll then tEvery else Ty.mk false t.null t.fls t.tru t.nums any texts az os):=⟨_,rfl⟩
 rw[← hR]
 intro st hst0
 obtain⟨J,hJ⟩ : ∃ J:Nat→List Ob→Prop,J=fun k acc=>acc=(t.objects.take k).map wf:=⟨_,rfl⟩
 refine XLoop.cntR hmix [(7,12,1007)] rfl t.objects.length (fun v k (acc:List Ob)=>⟨[(8,.int .i64 k),(7,.own (1007,v) 12 0 acc.length false),(5,.ptr (5,v5) 9 0 0),(4,.ptr (4,v4) 9 0 0),(2,.ptr (2,v2) 9 0 0),(1,.int .i64 h)],[((1007,v),some ⟨12,acc.map encObj,false,false⟩),((5,v5),some ⟨9,[outC t any (.vec 1 false (texts.map encStr)) (.vec 11 false (az.map encArr)) (.vec 12 true [])],false,true⟩),((4,v4),some ⟨9,[M.z1],false,true⟩),((2,v2),some ⟨9,[cT t],false,true⟩)]⟩) J [] (by rw[hJ]; rfl) (by simpa using hst0) fun v k acc _ hk hj=>?_
 have hw:=wrap64 (n:=(k:Int)+1) (by omega) (by omega)
 have hj' : acc=(t.objects.take k).map wf:=by rw[hJ] at hj; exact hj
 have hal:acc.length=k:=by rw[hj']; simp; omega
 by_cases g:k<t.objects.length
 ·have hst:=map_take' wf g
  rw[← hj'] at hst
  simp[g,hh]
  refine XCall.ret (hW _ (List.getElem_mem g)) ?_
  simp[g,hw]
  exact fun _=>⟨by omega,acc++[wf t.objects[k]],by rw[hJ]; exact hst.symm,fun _=>by simp⟩
 ·have e1:acc=t.objects.map wf:=by rw[hj',List.take_of_length_le (by omega)]
  rw[← e1] at hO
  simp[g,hh]
  refine XCall.retO (by simpa using hO) ?_
  simp
  intro v8 v9
  refine XDCall.ret c_ref11_every ?_
  simp
  refine XDCall.ret (c_ref12_Laid tEvery) ?_
  simp
  refine XDCall.ret (r:=.bool (sameT (.mk false t.null t.fls t.tru t.nums any texts az os) laidAll)) (by simp; exact cs) ?_
  cases hs:sameT (.mk false t.null t.fls t.tru t.nums any texts az os) laidAll<;>rw[hs] at hR
  ·simp[hR]
  ·simp
   refine XCall.ret c_ref11_every ?_
   simp[hR,tEvery]
set_option maxHeartbeats 4000000 in
theorem normal_t2 (h:Int) (t:Ty) (v2 v4 v5:Nat) (any:Bool) (texts:List S) (os:List Ob) (wf:Ob→Ob) (n:Ty→Ty) (hh:IntKind.i64.wrap (h-1)=h-1) (hf:formedT (.mk false t.null t.fls t.tru t.nums any texts (t.arrays.map fun a=>.mk (n a.item) a.min a.max) os)=true) (hl:t.objects.length≤34359738368)
 (ha:t.arrays.length≤1) (hA:∀ a∈t.arrays,Ret prog M.F_ref11_Normal [.agg (cT a.item),.int .i64 (h-1)] (.agg (cT (n a.item))))
 (hW:∀ o∈t.objects,Ret prog M.F_ref11_within [.agg (cO o),.int .i64 (h-1)] (.agg (cO (wf o))))
 (hO:RetO prog M.F_ref11_objects [.vec 12 false ((t.objects.map wf).map encObj),.int .i64 (h-1)] 12 (os.map encObj)) :
 XC ⟨prog,w0,F0,112,[],0,hG⟩ M.t_ref11_Normal_2 ⟨[(5,.ptr (5,v5) 9 0 0),(4,.ptr (4,v4) 9 0 0),(2,.ptr (2,v2) 9 0 0),(1,.int .i64 h)],[((5,v5),some ⟨9,[outC t any (.vec 1 false (texts.map encStr)) (.vec 11 true []) (.vec 12 true [])],false,true⟩),((4,v4),some ⟨9,[M.z1],false,true⟩),((2,v2),some ⟨9,[cT t],false,true⟩)]⟩ []
  (retIs M.rs_ref11_Normal (.agg (cT (if sameT (.mk false t.null t.fls t.tru t.nums any texts (t.arrays.map fun a=>.mk (n a.item) a.min a.max) os) laidAll then tEvery else .mk false t.null t.fls t.tru t.nums any texts (t.arrays.map fun a=>.mk (n a.item) a.min a.max) os)))):=by
 have fin:=normal_l2 (w0:=w0) (F0:=F0) (hG:=hG) h t v2 v4 v5 any texts _ os wf hh hf hl hW hO
 generalize hAs:(t.arrays.map fun a=>Arr.mk (n a.item) a.min a.max)=az at *
 generalize (if sameT (.mk false t.null t.fls t.tru t.nums any texts az os) laidAll then tEvery else Ty.mk false t.null t.fls t.tru t.nums any texts az os)=R at *
 simp
 obtain⟨J,hJ⟩ : ∃ J:Nat→List Arr→Prop,J=fun k acc=>acc=(t.arrays.take k).map fun a=>.mk (n a.item) a.min a.max:=⟨_,rfl⟩
 refine XLoop.cntR hmix [(8000005,11,1008)] rfl t.arrays.length (fun v k (acc:List Arr)=>⟨[(6,.int .i64 k),(5,.ptr (5,v5) 9 0 0),(4,.ptr (4,v4) 9 0 0),(2,.ptr (2,v2) 9 0 0),(1,.int .i64 h)],[((5,v5),some ⟨9,[outC t any (.vec 1 false (texts.map encStr)) (.own (1008,v) 11 0 acc.length false) (.vec 12 true [])],false,true⟩),((1008,v),some ⟨11,acc.map encArr,false,false⟩),((4,v4),some ⟨9,[M.z1],false,true⟩),((2,v2),some ⟨9,[cT t],false,true⟩)]⟩) J [] (by rw[hJ]; rfl) (by simp) fun v k acc _ hk hj=>?_
 have hw:=wrap64 (n:=(k:Int)+1) (by omega) (by omega)
 have hj' : acc=(t.arrays.take k).map fun a=>.mk (n a.item) a.min a.max:=by rw[hJ] at hj; exact hj
 have hal:acc.length=k:=by rw[hj']; simp; omega
 by_cases g:k<t.arrays.length
 ·have hst:=map_take' (fun a:Arr=>Arr.mk (n a.item) a.min a.max) g
  rw[← hj'] at hst
  simp[g,hh]
  intros
  refine XDCall.ret (hA _ (List.getElem_mem g)) ?_
  simp[g,hw]
  exact⟨by omega,acc++[.mk (n t.arrays[k].item) t.arrays[k].min t.arrays[k].max],by rw[hJ]; exact hst.symm,fun _=>by simp; exact leR_refl _ _⟩
 ·have e1:acc=az:=by rw[hj',List.take_of_length_le (by omega),hAs]
  simp[g]
  exact fun v0=>fin _ fun v=>by simp[e1]
set_option maxHeartbeats 4000000 in
theorem normal_step (h:Int) (t:Ty) (os:List Ob) (wf:Ob→Ob) (n:Ty→Ty) (h1 : -9223372036854775807≤h) (h2:h≤9223372036854775807) (e0:t.all=false) (e1:h<1→t.arrays=[]∧t.objects=[])
 (hf:formedT (.mk false t.null t.fls t.tru t.nums (t.any||decide (16<t.texts.length)) (if 16<t.texts.length then [] else t.texts) (t.arrays.map fun a=>.mk (n a.item) a.min a.max) os)=true) (hl:t.objects.length≤34359738368) (ha:t.arrays.length≤1)
 (hA:∀ a∈t.arrays,Ret prog M.F_ref11_Normal [.agg (cT a.item),.int .i64 (h-1)] (.agg (cT (n a.item))))
 (hW:∀ o∈t.objects,Ret prog M.F_ref11_within [.agg (cO o),.int .i64 (h-1)] (.agg (cO (wf o))))
 (hO:RetO prog M.F_ref11_objects [.vec 12 false ((t.objects.map wf).map encObj),.int .i64 (h-1)] 12 (os.map encObj)) :
 Ret prog M.F_ref11_Normal [.agg (cT t),.int .i64 h] (.agg (cT (finT t (t.arrays.map fun a=>.mk (n a.item) a.min a.max) os))):=by
 refine Ret.go hmix h_ref11_Normal (by simp) fun hb w0 F0 hG=>?_
 have hh:=wrap64 (n:=h-1) (by omega) (by omega)
 have fin:=fun v2 v4 v5=>normal_t2 (w0:=w0) (F0:=F0) (hG:=hG) h t v2 v4 v5 _ _ os wf n hh hf hl ha hA hW hO
 have hR:finT t (t.arrays.map fun a=>.mk (n a.item) a.min a.max) os=(if sameT (.mk false t.null t.fls t.tru t.nums (t.any||decide (16<t.texts.length)) (if 16<t.texts.length then [] else t.texts) (t.arrays.map fun a=>.mk (n a.item) a.min a.max) os) laidAll then tEvery else Ty.mk false t.null t.fls t.tru t.nums (t.any||decide (16<t.texts.length)) (if 16<t.texts.length then [] else t.texts) (t.arrays.map fun a=>.mk (n a.item) a.min a.max) os):=rfl
 rw[← hR] at fin
 generalize finT t (t.arrays.map fun a=>Arr.mk (n a.item) a.min a.max) os=R at *
 have key:∀ v2 v4 v5 (st:St),(∀ v,LS (canonF [] v st) ⟨[(5,.ptr (5,v5) 9 0 0),(4,.ptr (4,v4) 9 0 0),(2,.ptr (2,v2) 9 0 0),(1,.int .i64 h)],[((5,v5),some ⟨9,[outC t t.any (.vec 1 false (t.texts.map encStr)) (.vec 11 true []) (.vec 12 true [])],false,true⟩),((4,v4),some ⟨9,[M.z1],false,true⟩),((2,v2),some ⟨9,[cT t],false,true⟩)]⟩) →
  XCut ⟨prog,w0,F0,112,[],0,hG⟩ M.c_ref11_Normal_0 st [.sq M.t_ref11_Normal_2] (retIs M.rs_ref11_Normal (.agg (cT R))):=fun v2 v4 v5 st hst=>by
  refine XCut.anew [] rfl _ hst fun _ _=>?_
  refine XCut.oneR hmix [] rfl (fun _=>⟨[(5,.ptr (5,v5) 9 0 0),(4,.ptr (4,v4) 9 0 0),(2,.ptr (2,v2) 9 0 0),(1,.int .i64 h)],[((5,v5),some ⟨9,[outC t (t.any||decide (16<t.texts.length)) (.vec 1 false ((if 16<t.texts.length then [] else t.texts).map encStr)) (.vec 11 true []) (.vec 12 true [])],false,true⟩),((4,v4),some ⟨9,[M.z1],false,true⟩),((2,v2),some ⟨9,[cT t],false,true⟩)]⟩) ?_ fun _ _=>by rw[XE_sq]; exact fin v2 v4 v5
  by_cases h16:16<t.texts.length
  ·have h16' : (16:Int)<t.texts.length:=by omega
   simp[h16,h16']
  ·have h16' : ¬ (16:Int)<t.texts.length:=by omega
   simp[h16,h16']
 by_cases hz:h<1
 ·obtain⟨z1,z2⟩:=e1 hz
  simp[e0,hz,z1,z2]
  exact fun v2 v4 v5=>key v2 v4 v5 _ fun v=>by simp[z1,z2]
 ·simp[e0,hz]
  exact fun v2 v4 v5=>key v2 v4 v5 _ fun v=>by simp
end
end Go.Proofs.YtfilonnphgnplaaGreatDoor.Pv
set_option maxRecDepth 100000
namespace Go.Proofs.YtfilonnphgnplaaGreatDoor.Pv
open Go Go.Tidy
theorem objects_small (h:Int) (N:Ty→Ty) (NM:List S) (l:List Ob) (hf:∀ o∈l,formedO o=true) (hb4:∀ o∈l,bdO NM 4 o) (h3:NM.length≤1073741824) (hl:l.length≤4):RetO prog M.F_ref11_objects [.vec 12 false (l.map encObj),.int .i64 h] 12 ((outerO [] (rowO l)).map encObj):=by
 have h4:(outerO [] (rowO l)).length≤4:=by
  have h1:=(outerO_len (rowO l) []).1
  have h2:=(rowO_sub l).2.1
  simp at h1; omega
 have e:objectsO N l=outerO [] (rowO l):=if_pos h4
 have:=objects_step h N NM 0 l hf hb4 h3 (by omega) (fun h=>absurd h (by omega)) (fun h=>absurd h (by omega))
 rw[e] at this
 exact this
theorem objects_all (h:Int) (N:Ty→Ty) (NM:List S) (B:Nat) (hN:NormOk M.F_ref11_Normal h N NM B) (hNf:∀ t,formedT t=true→formedT (N t)=true) (hNn:∀ t,formedT t=true→never (N t)=never t) (hNb:∀ t m,bdT NM m t→bdT NM 4 (N t)) (h3:NM.length≤1073741824) (hM:4*(NM.length+1)≤B)
 (l:List Ob) (hf:∀ o∈l,formedO o=true) (hb4:∀ o∈l,bdO NM 4 o) (hl:l.length≤2147483648) (hB:4*l.length≤B):RetO prog M.F_ref11_objects [.vec 12 false (l.map encObj),.int .i64 h] 12 ((objectsO N l).map encObj):=by
 have hq:∀ x∈outerO [] (rowO l),x∈l:=fun x hx=>(outerO_sub _ _ x hx).elim (fun h=>by cases h) ((rowO_sub l).1 x)
 have hql:(outerO [] (rowO l)).length≤l.length:=by
  have h1:=(outerO_len (rowO l) []).1
  have h2:=(rowO_sub l).2.1
  simp at h1; omega
 have hd:∀ x∈(outerO [] (rowO l)).drop 3,x∈l:=fun x hx=>hq x (List.mem_of_mem_drop hx)
 refine objects_step h N NM B l hf hb4 h3 hl (fun h4=>?_) (fun h4=>?_)
 ·have hne:(outerO [] (rowO l)).drop 3≠[]:=fun e=>by have:=congrArg List.length e; simp at this; omega
  refine within_step h N NM B _ hN hNf hNn hNb h3 hM _ (formed_oneO (fun o ho=>hf o (hd o ho)) hne) (bd_oneO fun o ho=>hb4 o (hd o ho)) ?_
  simp; omega
 ·have hne:(outerO [] (rowO l)).drop 3≠[]:=fun e=>by have:=congrArg List.length e; simp at this; omega
  refine objects_small h N NM _ (fun o ho=>?_) (fun o ho=>?_) h3 (by simp; omega)
  ·rcases List.mem_append.1 ho with ho|ho
   ·exact hf o (hq o (List.mem_of_mem_take ho))
   ·rw[List.mem_singleton.1 ho]
    exact formed_objectO hNf hNn (formed_oneO (fun o ho=>hf o (hd o ho)) hne)
  ·rcases List.mem_append.1 ho with ho|ho
   ·exact hb4 o (hq o (List.mem_of_mem_take ho))
   ·rw[List.mem_singleton.1 ho]
    exact bd_objectO hNb (bd_oneO fun o ho=>hb4 o (hd o ho))
theorem fin_formed {t:Ty} (ht:formedT t=true) {az:List Arr} {os:List Ob} (h1:az.length≤1) (h2:∀ a∈az,formedA a=true) (h3:∀ o∈os,formedO o=true):formedT (.mk false t.null t.fls t.tru t.nums (t.any||decide (16<t.texts.length)) (if 16<t.texts.length then [] else t.texts) az os)=true:=by
 obtain⟨t1,t2,t3,t4,t5,t6,t7,t8⟩:=formedT_spec ht
 refine formedT_intro (by simp) ?_ (fun h=>?_) t4 t5 h1 h2 h3
 ·simp only[Ty.texts_mk]
  split
  ·rfl
  ·exact t2
 ·simp only[Ty.any_mk,Ty.texts_mk] at h ⊢
  split
  ·rfl
  ·rename_i hn
   exact t3 (by simpa[hn] using h)
def capN (NM:List S) (h:Nat):Nat:=4*(NM.length+1)*4 ^ (8-h)
theorem capN_step (NM:List S) {h:Nat} (hh:h<8):capN NM h=4*capN NM (h+1):=by
 unfold capN
 have:8-h=(8-(h+1))+1:=by omega
 rw[this,Nat.pow_succ,← Nat.mul_assoc,Nat.mul_comm]
theorem capN_ge (NM:List S) (h:Nat):4*(NM.length+1)≤capN NM h:=Nat.le_mul_of_pos_right _ (Nat.pow_pos (by omega))
theorem capN_le (NM:List S) (hn:NM.length≤20000) {h:Nat} (hh:1≤h):capN NM h≤2147483648:=by
 unfold capN
 have h1:4 ^ (8-h)≤4 ^ 7:=Nat.pow_le_pow_right (by omega) (by omega)
 calc 4*(NM.length+1)*4 ^ (8-h)≤80004*4 ^ 7:=Nat.mul_le_mul (by omega) h1
  _≤2147483648:=by decide
theorem c_ref11_Normal (NM:List S) (hn:NM.length≤20000):∀ h:Nat,h≤8→NormOk M.F_ref11_Normal h (normalT h) NM (capN NM h):=by
 intro h
 induction h with
 | zero =>
   intro _ t m ht hb hm
   rw[normalT_zero]
   split
   ·rename_i hc
    refine normal_every _ t ?_
    simp only[Bool.or_eq_true,Bool.not_eq_true',List.isEmpty_eq_false_iff] at hc
    rcases hc with (hc|hc)|hc
    ·exact .inl hc
    ·exact .inr ⟨by simp,.inl hc⟩
    ·exact .inr ⟨by simp,.inr hc⟩
   ·rename_i hc
    simp only[Bool.or_eq_true,Bool.not_eq_true',not_or,Bool.not_eq_true,Bool.not_eq_false,List.isEmpty_iff,List.isEmpty_eq_false_iff,Decidable.not_not,ne_eq] at hc
    obtain⟨⟨e0,ea⟩,eo⟩:=hc
    have:=normal_step ((0:Nat):Int) t [] id id (by simp) (by simp) e0 (fun _=>⟨ea,eo⟩) (by rw[ea]; exact fin_formed ht (by simp) (by simp) (by simp)) (by rw[eo]; simp) (by rw[ea]; simp) (by rw[ea]; simp) (by rw[eo]; simp) (by
     rw[eo]
     have:=objects_small (((0:Nat):Int)-1) id NM [] (by simp) (by simp) (by omega) (by simp)
     simpa[rowO,outerO] using this)
    rw[ea] at this
    exact this
 | succ h ih =>
   intro h8 t m ht hb hm
   have ih':=ih (by omega)
   have hcs:=capN_step NM (h:=h) (by omega)
   have hcg:=capN_ge NM h
   have hcl:=capN_le NM hn (h:=h+1) (by omega)
   rw[normalT_succ]
   split
   ·rename_i hc
    exact normal_every _ t (.inl hc)
   ·rename_i hc
    obtain⟨t1,t2,t3,t4,t5,t6,t7,t8⟩:=formedT_spec ht
    have hbi:=bdT_iff.1 hb
    have eh:(((h+1:Nat):Int)-1)=(h:Int):=by omega
    have hNn:∀ t,formedT t=true→never (normalT h t)=never t:=fun t ht=>never_normalT h t ht
    have hW:∀ o∈t.objects,Ret prog M.F_ref11_within [.agg (cO o),.int .i64 h] (.agg (cO (objectO (normalT h) o))):=fun o ho =>
     within_step h (normalT h) NM (capN NM h) m ih' (formed_normalT h) hNn (bd_normalT h) (by omega) hcg o (t8 o ho) (hbi.2.2.2 o ho) (by omega)
    have hfm:∀ o∈t.objects.map (objectO (normalT h)),formedO o=true:=fun o ho=>by
     obtain⟨x,hx,rfl⟩:=List.mem_map.1 ho
     exact formed_objectO (formed_normalT h) hNn (t8 x hx)
    have hbm:∀ o∈t.objects.map (objectO (normalT h)),bdO NM 4 o:=fun o ho=>by
     obtain⟨x,hx,rfl⟩:=List.mem_map.1 ho
     exact bd_objectO (bd_normalT h) (hbi.2.2.2 x hx)
    have hO:=objects_all h (normalT h) NM (capN NM h) ih' (formed_normalT h) hNn (bd_normalT h) (by omega) hcg (t.objects.map (objectO (normalT h))) hfm hbm (by simp; omega) (by simp; omega)
    refine normal_step ((h+1:Nat):Int) t _ (objectO (normalT h)) (normalT h) (by omega) (by omega) (by simpa using hc) (fun h1=>by omega) ?_ (by omega) t6 (fun a ha=>?_) (fun o ho=>?_) ?_
    ·refine fin_formed ht (by simpa using t6) (fun a ha=>?_) (formed_objectsO (formed_normalT h) hNn hfm)
     obtain⟨x,hx,rfl⟩:=List.mem_map.1 ha
     obtain⟨x1,x2,x3,x4,x5⟩:=formedA_spec (t7 x hx)
     exact formedA_intro x1 x2 x3 (formed_normalT h _ x4) (by rw[Arr.item_mk,hNn _ x4]; exact x5)
    ·rw[eh]
     exact ih' a.item m (formedA_spec (t7 a ha)).2.2.2.1 (hbi.2.2.1 a ha) (by omega)
    ·rw[eh]; exact hW o ho
    ·rw[eh]; exact hO
end Go.Proofs.YtfilonnphgnplaaGreatDoor.Pv
set_option maxRecDepth 100000
namespace Go.Proofs.YtfilonnphgnplaaGreatDoor.Pv
open Go Go.Tidy
theorem partsAs_take:∀ {l:List Arr} {k:Nat} (hk:k<l.length),partsAs (l.take (k+1))=partsAs (l.take k)+partsT l[k].item
 | .mk t _ _::l,0,_=>by simp[partsAs]
 | .mk t _ _::l,k+1,h=>by
   have:=partsAs_take (l:=l) (k:=k) (by simpa using h)
   simp only[List.take_succ_cons,partsAs,List.getElem_cons_succ]
   rw[this]; omega
theorem partsTs_take:∀ {l:List Ty} {k:Nat} (hk:k<l.length),partsTs (l.take (k+1))=partsTs (l.take k)+partsT l[k]
 | t::l,0,_=>by simp[partsTs]
 | t::l,k+1,h=>by
   have:=partsTs_take (l:=l) (k:=k) (by simpa using h)
   simp only[List.take_succ_cons,partsTs,List.getElem_cons_succ]
   rw[this]; omega
theorem partsOs_take:∀ {l:List Ob} {k:Nat} (hk:k<l.length),partsOs (l.take (k+1))=partsOs (l.take k)+(partsT l[k].rest+partsTs l[k].fields)
 | .mk _ fs _ r::l,0,_=>by simp[partsOs]
 | .mk _ fs _ r::l,k+1,h=>by
   have:=partsOs_take (l:=l) (k:=k) (by simpa using h)
   simp only[List.take_succ_cons,partsOs,List.getElem_cons_succ]
   rw[this]; omega
theorem partsT_def (t:Ty):partsT t=1+(partsAs t.arrays+partsOs t.objects):=by cases t; rfl
theorem partsAs_le (l:List Arr) (k:Nat):partsAs (l.take k)≤partsAs l:=by
 induction l generalizing k with
 | nil=>simp
 | cons a l ih =>
   obtain⟨t,_,_⟩:=a
   cases k with
   | zero=>simp[partsAs]
   | succ k=>have:=ih k; simp only[List.take_succ_cons,partsAs]; omega
theorem partsTs_le (l:List Ty) (k:Nat):partsTs (l.take k)≤partsTs l:=by
 induction l generalizing k with
 | nil=>simp
 | cons a l ih =>
   cases k with
   | zero=>simp[partsTs]
   | succ k=>have:=ih k; simp only[List.take_succ_cons,partsTs]; omega
set_option maxHeartbeats 4000000 in
theorem parts_step (t:Ty) (m:Nat) (hm:m≤1000000) (hA:∀ a∈t.arrays,∀ k,k<m→Ret prog M.F_ref11_Parts [.agg (cT a.item),.int .i64 (k:Nat)] (.int .i64 (min (partsT a.item) (k+1):Nat)))
 (hR:∀ o∈t.objects,∀ k,k<m→Ret prog M.F_ref11_Parts [.agg (cT o.rest),.int .i64 (k:Nat)] (.int .i64 (min (partsT o.rest) (k+1):Nat)))
 (hF:∀ o∈t.objects,∀ f∈o.fields,∀ k,k<m→Ret prog M.F_ref11_Parts [.agg (cT f),.int .i64 (k:Nat)] (.int .i64 (min (partsT f) (k+1):Nat))) :
 Ret prog M.F_ref11_Parts [.agg (cT t),.int .i64 (m:Nat)] (.int .i64 (min (partsT t) (m+1):Nat)):=by
 refine Ret.go hmix h_ref11_Parts (by simp) fun hb w0 F0 hG=>?_
 simp only[bndL,bndV,List.length_map,LIM,and_true] at hb
 have hd:=partsT_def t
 generalize partsT t=H at *
 simp
 intro v
 have key:∀ (n0:Nat) (st:St),n0=min (1+partsAs t.arrays) (m+1)→LS st ⟨[(7,.int .i64 0),(5,.int .i64 (n0:Nat)),(2,.ptr (2,v) 9 0 0),(1,.int .i64 m)],[((2,v),some ⟨9,[cT t],false,true⟩)]⟩ →
  XLoop ⟨prog,w0,F0,87,[],0,hG⟩ (.loop M.b_ref11_Parts_3) st [.bk 2,.sq M.t_ref11_Parts_1] (retIs M.rs_ref11_Parts (.int .i64 (min H (m+1):Nat))):=fun n0 st hn0 hst=>by
  obtain⟨J,hJ⟩ : ∃ J:Nat→Nat→Prop,J=fun k n=>n=min (1+partsAs t.arrays+partsOs (t.objects.take k)) (m+1):=⟨_,rfl⟩
  refine XLoop.cnt hmix t.objects.length (fun k n=>⟨[(7,.int .i64 k),(5,.int .i64 (n:Nat)),(2,.ptr (2,v) 9 0 0),(1,.int .i64 m)],[((2,v),some ⟨9,[cT t],false,true⟩)]⟩) J n0 (by rw[hJ]; simp[partsOs,hn0]) (by simpa using hst) fun k n hk hj=>?_
  have hw:=wrap64 (n:=(k:Int)+1) (by omega) (by omega)
  have hj' : n=min (1+partsAs t.arrays+partsOs (t.objects.take k)) (m+1):=by rw[hJ] at hj; exact hj
  by_cases h1:k<t.objects.length
  ·have hto:=partsOs_take h1
   have hof:t.objects[k].fields.length≤140737488355328:=by
    have:=bndR_map hb.1.2.2.2.2.2.2.2.2.2 t.objects[k] (List.getElem_mem h1)
    simp only[encObj_eq,bndL,bndV,List.length_map,LIM,and_true] at this
    omega
   simp[h1]
   obtain⟨n1,hn1⟩ : ∃ n1,n1=min (1+partsAs t.arrays+partsOs (t.objects.take k)+partsT t.objects[k].rest) (m+1):=⟨_,rfl⟩
   refine XCut.one hmix ⟨[(7,.int .i64 k),(5,.int .i64 (n1:Nat)),(2,.ptr (2,v) 9 0 0),(1,.int .i64 m)],[((2,v),some ⟨9,[cT t],false,true⟩)]⟩ ?_ ?_
   ·by_cases h2:n≤m
    ·have w1:=wrap64 (n:=(m:Int)-n) (by omega) (by omega)
     have e1:(m:Int)-n=((m-n:Nat):Int):=by omega
     rw[e1] at w1
     have ih:=hR _ (List.getElem_mem h1) (m-n) (by omega)
     obtain⟨q,hq⟩ : ∃ q,q=min (partsT t.objects[k].rest) (m-n+1):=⟨_,rfl⟩
     rw[← hq] at ih
     have w2:=wrap64 (n:=(n:Int)+q) (by omega) (by omega)
     simp[h1,h2,e1,w1]
     refine XCall.ret ih ?_
     simp[w2]
     omega
    ·simp[h2]
     omega
   ·simp
    obtain⟨J',hJ'⟩ : ∃ J:Nat→Nat→Prop,J=fun i n=>n=min (1+partsAs t.arrays+partsOs (t.objects.take k)+partsT t.objects[k].rest+partsTs (t.objects[k].fields.take i)) (m+1):=⟨_,rfl⟩
    refine XLoop.cnt hmix t.objects[k].fields.length (fun i n=>⟨[(8,.int .i64 i),(7,.int .i64 k),(5,.int .i64 (n:Nat)),(2,.ptr (2,v) 9 0 0),(1,.int .i64 m)],[((2,v),some ⟨9,[cT t],false,true⟩)]⟩) J' n1 (by rw[hJ']; simp[partsTs,hn1]) (by simp) fun i n hi hj2=>?_
    have hw2:=wrap64 (n:=(i:Int)+1) (by omega) (by omega)
    have hj3:n=min (1+partsAs t.arrays+partsOs (t.objects.take k)+partsT t.objects[k].rest+partsTs (t.objects[k].fields.take i)) (m+1):=by rw[hJ'] at hj2; exact hj2
    have hle:=partsTs_le t.objects[k].fields i
    by_cases h3:i<t.objects[k].fields.length
    ·by_cases h2:n≤m
     ·have w1:=wrap64 (n:=(m:Int)-n) (by omega) (by omega)
      have e1:(m:Int)-n=((m-n:Nat):Int):=by omega
      rw[e1] at w1
      have ih:=hF _ (List.getElem_mem h1) _ (List.getElem_mem h3) (m-n) (by omega)
      obtain⟨q,hq⟩ : ∃ q,q=min (partsT t.objects[k].fields[i]) (m-n+1):=⟨_,rfl⟩
      rw[← hq] at ih
      have w2:=wrap64 (n:=(n:Int)+q) (by omega) (by omega)
      have hto:=partsTs_take h3
      simp[h1,h2,h3,e1,w1]
      refine XCall.ret ih ?_
      simp[w2,hw2,h3]
      exact⟨n+q,by rw[hJ']; show _=_; omega,by simp⟩
     ·simp[h1,h2,h3,hw]
      exact⟨n,by rw[hJ]; show _=_; omega,rfl⟩
    ·have e0:t.objects[k].fields.take i=t.objects[k].fields:=List.take_of_length_le (by omega)
     rw[e0] at hj3
     simp[h1,h3,hw]
     exact⟨n,by rw[hJ]; show _=_; omega,rfl⟩
  ·have e0:t.objects.take k=t.objects:=List.take_of_length_le (by omega)
   rw[e0] at hj'
   simp[h1]
   omega
 obtain⟨J,hJ⟩ : ∃ J:Nat→Nat→Prop,J=fun k n=>n=min (1+partsAs (t.arrays.take k)) (m+1):=⟨_,rfl⟩
 refine XLoop.cnt hmix t.arrays.length (fun k n=>⟨[(6,.int .i64 k),(5,.int .i64 (n:Nat)),(2,.ptr (2,v) 9 0 0),(1,.int .i64 m)],[((2,v),some ⟨9,[cT t],false,true⟩)]⟩) J 1 (by rw[hJ]; simp[partsAs]) (by simp) fun k n hk hj=>?_
 have hw:=wrap64 (n:=(k:Int)+1) (by omega) (by omega)
 have hj' : n=min (1+partsAs (t.arrays.take k)) (m+1):=by rw[hJ] at hj; exact hj
 have hle:=partsAs_le t.arrays k
 by_cases h1:k<t.arrays.length
 ·by_cases h2:n≤m
  ·have w1:=wrap64 (n:=(m:Int)-n) (by omega) (by omega)
   have e1:(m:Int)-n=((m-n:Nat):Int):=by omega
   rw[e1] at w1
   have ih:=hA _ (List.getElem_mem h1) (m-n) (by omega)
   obtain⟨q,hq⟩ : ∃ q,q=min (partsT t.arrays[k].item) (m-n+1):=⟨_,rfl⟩
   rw[← hq] at ih
   have w2:=wrap64 (n:=(n:Int)+q) (by omega) (by omega)
   have hto:=partsAs_take h1
   simp[h1,h2,e1,w1]
   refine XCall.ret ih ?_
   simp[w2,hw,h1]
   exact⟨n+q,by rw[hJ]; show _=_; omega,by simp⟩
  ·simp[h1,h2]
   exact key n _ (by omega) (by simp)
 ·have e0:t.arrays.take k=t.arrays:=List.take_of_length_le (by omega)
  rw[e0] at hj'
  simp[h1]
  exact key n _ hj' (by simp)
theorem c_ref11_Parts (t:Ty):∀ m:Nat,m≤1000000→Ret prog M.F_ref11_Parts [.agg (cT t),.int .i64 (m:Nat)] (.int .i64 (min (partsT t) (m+1):Nat)):=by
 induction hn:SizeOf.sizeOf t using Nat.strongRecOn generalizing t with
 | _ n ih =>
   subst hn
   intro m hm
   exact parts_step t m hm (fun a ha k hk=>ih _ (sz_item ha) a.item rfl k (by omega)) (fun o ho k hk=>ih _ (sz_rest ho) o.rest rfl k (by omega)) (fun o ho f hf k hk=>ih _ (sz_field ho hf) f rfl k (by omega))
set_option maxHeartbeats 4000000 in
theorem c_ref11_Form (NM:List S) (hn:NM.length≤20000) (t:Ty) (ht:formedT t=true) (m:Nat) (hb4:bdT NM m t) (hm:m≤4*(NM.length+1)):Ret prog M.F_ref11_Form [.agg (cT t)] (.agg (cT (formT t))):=by
 refine Ret.go hmix h_ref11_Form (by simp) fun hb w0 F0 hG=>?_
 have cN:∀ h:Nat,h≤8→Ret prog M.F_ref11_Normal [.agg (cT t),.int .i64 (h:Nat)] (.agg (cT (normalT h t))):=fun h hh=>c_ref11_Normal NM hn h hh t m ht hb4 (Nat.le_trans hm (capN_ge NM h))
 generalize hR:formT t=R
 simp
 intro v1 v2
 refine XCall.ret (cN 0 (by omega)) ?_
 simp
 intro v3
 obtain⟨J,hJ⟩ : ∃ J:Nat→Ty→Prop,J=fun k b=>b=normalT k t∧R=formFrom t (8-k) (k+1) b:=⟨_,rfl⟩
 refine XLoop.cnt hmix 8 (fun k b=>⟨[(4,.int .i64 (k+1:Nat)),(3,.ptr (3,v3) 9 0 0),(2,.ptr (2,v2) 9 0 0),(1,.ptr (1,v1) 9 0 0)],[((3,v3),some ⟨9,[cT b],false,true⟩),((2,v2),some ⟨9,[M.z1],false,true⟩),((1,v1),some ⟨9,[cT t],false,true⟩)]⟩) J (normalT 0 t) (by rw[hJ]; exact⟨rfl,hR.symm⟩) (by simp) fun k b hk hj=>?_
 obtain⟨j1,j2⟩ : b=normalT k t∧R=formFrom t (8-k) (k+1) b:=by rw[hJ] at hj; exact hj
 obtain⟨i,hi⟩ : ∃ i,i=k+1:=⟨_,rfl⟩
 have hw:=wrap64 (n:=(i:Int)+1) (by omega) (by omega)
 show XC _ _ ⟨[(4,.int .i64 (k+1:Nat)),(3,.ptr (3,v3) 9 0 0),(2,.ptr (2,v2) 9 0 0),(1,.ptr (1,v1) 9 0 0)],[((3,v3),some ⟨9,[cT b],false,true⟩),((2,v2),some ⟨9,[M.z1],false,true⟩),((1,v1),some ⟨9,[cT t],false,true⟩)]⟩ _ _
 rw[← hi]
 by_cases h1:k<8
 ·have g1:(i:Int)≤8:=by omega
  have e8:8-k=(8-(k+1))+1:=by omega
  rw[e8,formFrom_step,← hi] at j2
  simp[g1]
  refine XCall.ret (cN i (by omega)) ?_
  have cP:=c_ref11_Parts (normalT i t) 200 (by omega)
  generalize hN:normalT i t=N at *
  simp
  intro v5
  refine XCall.ret cP ?_
  by_cases h2:partsT N≤200
  ·rw[if_pos h2] at j2
   have h2' : ¬ (200:Int)<(min (partsT N) 201:Nat):=by omega
   simp[h2',hw]
   exact⟨h1,N,by rw[hJ,← hi]; exact⟨hN.symm,j2⟩,by simp; omega⟩
  ·rw[if_neg h2] at j2
   have h2' : (200:Int)<(min (partsT N) 201:Nat):=by omega
   simp[h2',j2]
 ·have g1:¬ (i:Int)≤8:=by omega
  have:R=b:=by rw[j2,show 8-k=0 by omega]; rfl
  simp[g1,this]
def FitN (NM:List S) (t:Ty):Prop:=NM.length≤20000∧∃ m,bdT NM m t∧m≤4*(NM.length+1)
theorem c_ref11_Tidy (NM:List S) (t:Ty) (hN:FitN NM t):Ret prog M.F_ref11_Tidy [.agg (cT t)] (.tup [.agg (cT (if formedT t then formT t else tNever)),.int .i64 (if formedT t then 0 else 1)]):=by
 obtain⟨hn,m,hb4,hm⟩:=hN
 refine Ret.go hmix h_ref11_Tidy (by simp) fun hb w0 F0 hG=>?_
 simp
 intros
 refine XCall.ret (c_ref09_Formed t) ?_
 cases hf:formedT t
 ·simp[tNever]
 ·simp
  refine XCall.ret (c_ref11_Form NM hn t hf m hb4 hm) ?_
  simp
theorem formT_formed {t:Ty} (ht:formedT t=true):formedT (formT t)=true:=by
 obtain⟨k,_,e⟩:=formT_is t
 rw[e]; exact formed_normalT k t ht
theorem c_ref11_Is (NM:List S) (t:Ty) (hN:FitN NM t):Ret prog M.F_ref11_Is [.agg (cT t)] (.bool (formedT t&&sameT t (formT t))):=by
 obtain⟨hn,m,hb4,hm⟩:=hN
 refine Ret.go hmix h_ref11_Is (by simp) fun hb w0 F0 hG=>?_
 simp
 intros
 refine XDCall.ret (c_ref09_Formed t) ?_
 cases hf:formedT t
 ·simp
 ·simp
  refine XDCall.ret (c_ref11_Form NM hn t hf m hb4 hm) ?_
  simp
  refine XDCall.ret (c_ref11_same t (formT t) hf (formT_formed hf)) ?_
  simp
end Go.Proofs.YtfilonnphgnplaaGreatDoor.Pv
set_option maxRecDepth 100000
namespace Go.Proofs.YtfilonnphgnplaaGreatDoor.Pv
open Go Go.Tidy
theorem dl_of_bnd (t:Ty):bndL (cT t)→dlT t:=by
 induction hn:SizeOf.sizeOf t using Nat.strongRecOn generalizing t with
 | _ n ih =>
   subst hn
   intro h
   simp only[bndL,bndV,List.length_map,LIM,and_true,true_and] at h
   obtain⟨⟨h1,_⟩,⟨h2,_⟩,⟨h3,h3'⟩,h4,h4'⟩:=h
   rw[dlT_def,dlAs_iff,dlOs_iff]
   refine⟨h1,h2,fun a ha=>?_,fun o ho=>?_⟩
   ·have:=bndR_map h3' a ha
    refine ih _ (sz_item ha) a.item rfl ?_
    simp only[encArr_eq,bndL,bndV,true_and,and_true] at this ⊢
    exact⟨this.1,this.2.1,this.2.2.1,this.2.2.2.1⟩
   ·have:=bndR_map h4' o ho
    simp only[encObj_eq,bndL,bndV,List.length_map,LIM,true_and,and_true] at this
    obtain⟨⟨k1,_⟩,⟨k2,k2'⟩,⟨k3,_⟩,k4⟩:=this
    refine⟨k1,k3,fun f hf=>?_,?_⟩
    ·have:=bndR_map k2' f hf
     refine ih _ (sz_field ho hf) f rfl ?_
     rw[encTy_eq] at this; exact this
    ·refine ih _ (sz_rest ho) o.rest rfl ?_
     simp only[bndL,bndV,List.length_map,LIM,true_and,and_true]
     exact k4
theorem tpB_le {m:Nat} (h:m≤20000):tpB m≤9000000000000000000:=by unfold tpB; omega
set_option maxHeartbeats 4000000 in
theorem typeParts_step (t:Ty) (m:Nat) (hm:m≤20000) (hdl:bndL (cT t)→dlT t) (hA:∀ a∈t.arrays,∀ k,k<m→Ret prog M.F_kit_typeParts [.agg (cT a.item),.int .i64 (k:Nat)] (.int .i64 (tpT a.item k:Nat)))
 (hR:∀ o∈t.objects,∀ k,k<m→Ret prog M.F_kit_typeParts [.agg (cT o.rest),.int .i64 (k:Nat)] (.int .i64 (tpT o.rest k:Nat)))
 (hF:∀ o∈t.objects,∀ f∈o.fields,∀ k,k<m→Ret prog M.F_kit_typeParts [.agg (cT f),.int .i64 (k:Nat)] (.int .i64 (tpT f k:Nat))) :
 Ret prog M.F_kit_typeParts [.agg (cT t),.int .i64 (m:Nat)] (.int .i64 (tpT t m:Nat)):=by
 refine Ret.go hmix h_kit_typeParts (by simp) fun hb w0 F0 hG=>?_
 have hdt:=hdl hb.1
 have hb1:=hb.1
 simp only[bndL,bndV,List.length_map,LIM,and_true,true_and] at hb1
 obtain⟨⟨z1,_⟩,⟨z2,_⟩,⟨z3,_⟩,z4,z4'⟩:=hb1
 clear hb
 have hB:=tpB_le hm
 have hB0:=tpB_base m
 rw[dlT_def,dlAs_iff,dlOs_iff] at hdt
 obtain⟨-,-,d3,d4⟩:=hdt
 have hd:=tpT_def t m
 have n1:1≤1+t.texts.length+t.nums.length:=by omega
 obtain⟨N0,hN0⟩ : ∃ N0,N0=1+t.texts.length+t.nums.length:=⟨_,rfl⟩
 rw[← hN0] at n1 hd
 have bA:∀ k,tpAs (t.arrays.take k) m N0≤tpB m∧N0≤tpAs (t.arrays.take k) m N0:=fun k=>⟨tp_bndAs _ m N0 (dlAs_iff.2 fun a ha=>d3 a (List.mem_of_mem_take ha)) n1 (by omega),tpAs_mono _ _ _⟩
 obtain⟨NA,hNA⟩ : ∃ NA,NA=tpAs t.arrays m N0:=⟨_,rfl⟩
 have bNA:NA≤tpB m∧N0≤NA:=by have:=bA t.arrays.length; rw[List.take_length] at this; rw[hNA]; exact this
 rw[← hNA] at hd
 have bO:∀ k,tpOs (t.objects.take k) m NA≤tpB m∧NA≤tpOs (t.objects.take k) m NA:=fun k=>⟨tp_bndOs _ m NA (dlOs_iff.2 fun o ho=>d4 o (List.mem_of_mem_take ho)) (by omega) bNA.1,tpOs_mono _ _ _⟩
 generalize tpT t m=H at *
 have w01:=wrap64 (n:=1+(t.texts.length:Int)) (by omega) (by omega)
 have w02:=wrap64 (n:=1+(t.texts.length:Int)+t.nums.length) (by omega) (by omega)
 simp[w01,w02]
 intro v
 have key:∀ (st:St),LS st ⟨[(7,.int .i64 0),(5,.int .i64 (NA:Nat)),(2,.ptr (2,v) 9 0 0),(1,.int .i64 m)],[((2,v),some ⟨9,[cT t],false,true⟩)]⟩ →
  XLoop ⟨prog,w0,F0,113,[],0,hG⟩ (.loop M.b_kit_typeParts_2) st [.bk 2,.sq M.t_kit_typeParts_0] (retIs M.rs_kit_typeParts (.int .i64 (H:Nat))):=fun st hst=>by
  obtain⟨J,hJ⟩ : ∃ J:Nat→Nat→Prop,J=fun k n=>n=tpOs (t.objects.take k) m NA:=⟨_,rfl⟩
  refine XLoop.cnt hmix t.objects.length (fun k n=>⟨[(7,.int .i64 k),(5,.int .i64 (n:Nat)),(2,.ptr (2,v) 9 0 0),(1,.int .i64 m)],[((2,v),some ⟨9,[cT t],false,true⟩)]⟩) J NA (by rw[hJ]; simp[tpOs]) (by simpa using hst) fun k n hk hj=>?_
  have hw:=wrap64 (n:=(k:Int)+1) (by omega) (by omega)
  have hj' : n=tpOs (t.objects.take k) m NA:=by rw[hJ] at hj; exact hj
  have bn:=bO k
  rw[← hj'] at bn
  by_cases h1:k<t.objects.length
  ·have hto:=tpOs_take m t.objects k NA h1
   rw[← hj'] at hto
   obtain⟨q1,q2,q3,q4⟩:=d4 _ (List.getElem_mem h1)
   have hof:t.objects[k].fields.length≤140737488355328:=by
    have:=bndR_map z4' t.objects[k] (List.getElem_mem h1)
    simp only[encObj_eq,bndL,bndV,List.length_map,LIM,and_true] at this
    omega
   by_cases h2:n≤m
   ·rw[if_pos h2] at hto
    have w1:=wrap64 (n:=(m:Int)-n) (by omega) (by omega)
    have e1:(m:Int)-n=((m-n:Nat):Int):=by omega
    rw[e1] at w1
    have ih:=hR _ (List.getElem_mem h1) (m-n) (by omega)
    have b1:=tp_bnd t.objects[k].rest (m-n) q4
    have b2:=tpB_step (m:=m) (n:=n) (by omega) h2
    generalize tpT t.objects[k].rest (m-n)=q at *
    have w2:=wrap64 (n:=(n:Int)+t.objects[k].names.length) (by omega) (by omega)
    have w3:=wrap64 (n:=(n:Int)+t.objects[k].names.length+t.objects[k].must.length) (by omega) (by omega)
    have w4:=wrap64 (n:=(n:Int)+t.objects[k].names.length+t.objects[k].must.length+q) (by omega) (by omega)
    obtain⟨n2,hn2⟩ : ∃ n2,n2=n+t.objects[k].names.length+t.objects[k].must.length+q:=⟨_,rfl⟩
    have e4:(n:Int)+t.objects[k].names.length+t.objects[k].must.length+q=(n2:Int):=by omega
    rw[e4] at w4
    rw[← hn2] at hto
    simp[h1,h2,e1,w1,w2,w3]
    intros
    refine XDCall.ret ih ?_
    simp[w2,w3,w4,e4]
    have bT:∀ i,tpTs (t.objects[k].fields.take i) m n2≤tpB m∧n2≤tpTs (t.objects[k].fields.take i) m n2:=fun i=>⟨tp_bndTs _ m n2 (dlTs_iff.2 fun o ho=>q3 o (List.mem_of_mem_take ho)) (by omega) (by omega),tpTs_mono _ _ _⟩
    obtain⟨J',hJ'⟩ : ∃ J:Nat→Nat→Prop,J=fun i n=>n=tpTs (t.objects[k].fields.take i) m n2:=⟨_,rfl⟩
    refine XLoop.cnt hmix t.objects[k].fields.length (fun i n=>⟨[(8,.int .i64 i),(7,.int .i64 k),(5,.int .i64 (n:Nat)),(2,.ptr (2,v) 9 0 0),(1,.int .i64 m)],[((2,v),some ⟨9,[cT t],false,true⟩)]⟩) J' n2 (by rw[hJ']; simp[tpTs]) (by simp) fun i n' hi hj2=>?_
    have hw2:=wrap64 (n:=(i:Int)+1) (by omega) (by omega)
    have hj3:n'=tpTs (t.objects[k].fields.take i) m n2:=by rw[hJ'] at hj2; exact hj2
    have bn':=bT i
    rw[← hj3] at bn'
    by_cases h3:i<t.objects[k].fields.length
    ·have hts:=tpTs_take m t.objects[k].fields i n2 h3
     rw[← hj3] at hts
     by_cases h4:n'≤m
     ·rw[if_pos h4] at hts
      have w1':=wrap64 (n:=(m:Int)-n') (by omega) (by omega)
      have e1' : (m:Int)-n'=((m-n' : Nat):Int):=by omega
      rw[e1'] at w1'
      have ih':=hF _ (List.getElem_mem h1) _ (List.getElem_mem h3) (m-n') (by omega)
      have b1':=tp_bnd t.objects[k].fields[i] (m-n') (q3 _ (List.getElem_mem h3))
      have b2':=tpB_step (m:=m) (n:=n') (by omega) h4
      generalize tpT t.objects[k].fields[i] (m-n')=q' at *
      have w5:=wrap64 (n:=(n' : Int)+q') (by omega) (by omega)
      simp[h1,h3,h4,e1',w1']
      refine XCall.ret ih' ?_
      simp[w5,hw2,h3]
      exact⟨n'+q',by rw[hJ']; exact hts.symm,by simp⟩
     ·have hstop:=tpTs_stop (m:=m) (l:=t.objects[k].fields) (k:=i) (n:=n2) (by omega)
      simp[h1,h3,h4,hw]
      exact⟨n',by rw[hJ]; show _=_; rw[hto,hstop,hj3],rfl⟩
    ·have e0:t.objects[k].fields.take i=t.objects[k].fields:=List.take_of_length_le (by omega)
     rw[e0] at hj3
     simp[h1,h3,hw]
     exact⟨n',by rw[hJ]; show _=_; rw[hto,hj3],rfl⟩
   ·have hstop:=tpOs_stop (m:=m) (l:=t.objects) (k:=k) (n:=NA) (by omega)
    simp[h1,h2]
    rw[hd,hstop,hj']
  ·have e0:t.objects.take k=t.objects:=List.take_of_length_le (by omega)
   rw[e0] at hj'
   simp[h1]
   rw[hd,hj']
 obtain⟨J,hJ⟩ : ∃ J:Nat→Nat→Prop,J=fun k n=>n=tpAs (t.arrays.take k) m N0:=⟨_,rfl⟩
 refine XLoop.cnt hmix t.arrays.length (fun k n=>⟨[(6,.int .i64 k),(5,.int .i64 (n:Nat)),(2,.ptr (2,v) 9 0 0),(1,.int .i64 m)],[((2,v),some ⟨9,[cT t],false,true⟩)]⟩) J N0 (by rw[hJ]; simp[tpAs]) (by simp[hN0]) fun k n hk hj=>?_
 have hw:=wrap64 (n:=(k:Int)+1) (by omega) (by omega)
 have hj' : n=tpAs (t.arrays.take k) m N0:=by rw[hJ] at hj; exact hj
 have bn:=bA k
 rw[← hj'] at bn
 by_cases h1:k<t.arrays.length
 ·have hta:=tpAs_take m t.arrays k N0 h1
  rw[← hj'] at hta
  by_cases h2:n≤m
  ·rw[if_pos h2] at hta
   have w1:=wrap64 (n:=(m:Int)-n) (by omega) (by omega)
   have e1:(m:Int)-n=((m-n:Nat):Int):=by omega
   rw[e1] at w1
   have ih:=hA _ (List.getElem_mem h1) (m-n) (by omega)
   have b1:=tp_bnd t.arrays[k].item (m-n) (d3 _ (List.getElem_mem h1))
   have b2:=tpB_step (m:=m) (n:=n) (by omega) h2
   generalize tpT t.arrays[k].item (m-n)=q at *
   have w2:=wrap64 (n:=(n:Int)+q) (by omega) (by omega)
   simp[h1,h2,e1,w1]
   refine XCall.ret ih ?_
   simp[w2,hw,h1]
   exact⟨n+q,by rw[hJ]; exact hta.symm,by simp⟩
  ·have hstop:=tpAs_stop (m:=m) (l:=t.arrays) (k:=k) (n:=N0) (by omega)
   have e2:n=NA:=by rw[hNA,hstop,hj']
   simp[h1,h2]
   exact key _ (by simp[e2])
 ·have e0:t.arrays.take k=t.arrays:=List.take_of_length_le (by omega)
  rw[e0] at hj'
  have e2:n=NA:=by rw[hNA,hj']
  simp[h1]
  exact key _ (by simp[e2])
theorem c_kit_typeParts (t:Ty):∀ m:Nat,m≤20000→Ret prog M.F_kit_typeParts [.agg (cT t),.int .i64 (m:Nat)] (.int .i64 (tpT t m:Nat)):=by
 induction hn:SizeOf.sizeOf t using Nat.strongRecOn generalizing t with
 | _ n ih =>
   subst hn
   intro m hm
   exact typeParts_step t m hm (dl_of_bnd t) (fun a ha k hk=>ih _ (sz_item ha) a.item rfl k (by omega)) (fun o ho k hk=>ih _ (sz_rest ho) o.rest rfl k (by omega)) (fun o ho f hf k hk=>ih _ (sz_field ho hf) f rfl k (by omega))
def fitB (t:Ty):Bool:=decide (tpT t 20000≤20000)
theorem c_kit_FitType (t:Ty):Ret prog M.F_kit_FitType [.agg (cT t)] (.bool (fitB t)):=by
 refine Ret.go hmix h_kit_FitType (by simp) fun hb w0 F0 hG=>?_
 simp
 intros
 refine XCall.ret (c_kit_typeParts t 20000 (by omega)) ?_
 simp[fitB]; omega
theorem fit_height {t:Ty} (h:fitB t=true):heightT t<2 ^ 62:=by
 have h1:=(fit_bdT (of_decide_eq_true h)).2.1
 have:=ht_sz t
 omega
def fitsB (a b:Ty):Bool:=fitB a&&fitB b&&decide (heightT a<64)&&decide (heightT b<64)
theorem c_law11_fits (a b:Ty):Ret prog M.F_law11_fits [.agg (cT a),.agg (cT b)] (.bool (fitsB a b)):=by
 refine Ret.go hmix h_law11_fits (by simp) fun hb w0 F0 hG=>?_
 unfold fitsB
 simp
 intros
 refine XCall.ret (c_kit_FitType a) ?_
 cases e1:fitB a
 ·simp
 ·simp
  refine XCall.ret (c_kit_FitType b) ?_
  cases e2:fitB b
  ·simp
  ·simp
   refine XCall.ret (c_ref09_Height a (fit_height e1)) ?_
   by_cases e3:heightT a<64
   ·have e3' : (heightT a:Int)<64:=by omega
    simp[e3,e3']
    refine XCall.ret (c_ref09_Height b (fit_height e2)) ?_
    simp
    omega
   ·have e3' : ¬ (heightT a:Int)<64:=by omega
    simp[e3,e3']
theorem c_law11_same (a b:Ty):Ret prog M.F_law11_same [.agg (cT a),.agg (cT b)] (.bool (eqv a b)):=by
 refine Ret.go hmix h_law11_same (by simp) fun hb w0 F0 hG=>?_
 simp
 intros
 refine XCall.ret (c_kit_SameType a b) ?_
 simp
end Go.Proofs.YtfilonnphgnplaaGreatDoor.Pv
namespace Go.Proofs.YtfilonnphgnplaaGreatDoor
open Go Go.RowKit Go.Maps Go.Sort Go.Shelf
def Tryz.keysA_ren:Go.Shelf.Ren:=⟨fun|7=>158|10=>225|n=>n,fun|23=>164|26=>9|3=>3|28=>167|0=>0|27=>166|33=>95|4=>4|n=>n,fun|n=>n⟩
theorem Tryz.keysA:Go.Proofs.SlLaysZ.n7 Tryz.prog Tryz.keysA_ren:={
 mixed:=by kernel_rfl
 f7:=⟨Tryz.f158.name,by decide,Tryz.func158.trans (congrArg some (by kernel_rfl))⟩
 f10:=⟨Tryz.f225.name,by decide,Tryz.func225.trans (congrArg some (by kernel_rfl))⟩
 t0:=Tryz.underlying0
 a0:=Tryz.isAgg0
 z0:=Tryz.sizeOf0
 v0:=Tryz.zeroValue0
 t4:=Tryz.underlying4
 a4:=Tryz.isAgg4
 z4:=Tryz.sizeOf4
 v4:=Tryz.zeroValue4
 t23:=Tryz.underlying164
 a23:=Tryz.isAgg164
 z23:=Tryz.sizeOf164
 v23:=Tryz.zeroValue164
 t26:=Tryz.underlying9
 a26:=Tryz.isAgg9
 z26:=Tryz.sizeOf9
 v26:=Tryz.zeroValue9
 t27:=Tryz.underlying166
 a27:=Tryz.isAgg166
 z27:=Tryz.sizeOf166
 v27:=Tryz.zeroValue166
 t28:=Tryz.underlying167
 a28:=Tryz.isAgg167
 z28:=Tryz.sizeOf167
 v28:=Tryz.zeroValue167
 t33:=Tryz.underlying95
 a33:=Tryz.isAgg95
 z33:=Tryz.sizeOf95
 v33:=Tryz.zeroValue95 }
def Tryz.sortedA_ren:Go.Shelf.Ren:=⟨fun|6=>157|8=>224|9=>155|11=>267|13=>223|12=>222|23=>265|24=>266|14=>256|15=>257|16=>258|17=>259|18=>260|19=>261|20=>262|21=>263|22=>264|25=>281|26=>282|27=>283|28=>284|29=>285|30=>279|31=>298|n=>n,fun|26=>9|28=>167|24=>26|0=>0|3=>3|37=>242|48=>269|50=>271|4=>4|40=>262|39=>261|45=>243|5=>5|9=>9|51=>279|55=>283|57=>296|58=>297|33=>95|n=>n,fun|n=>n⟩
theorem Tryz.sortedA:Go.Proofs.SlLaysZ.n6 Tryz.prog Tryz.sortedA_ren:={
 mixed:=by kernel_rfl
 f6:=⟨Tryz.f157.name,by decide,Tryz.func157.trans (congrArg some (by kernel_rfl))⟩
 f8:=⟨Tryz.f224.name,by decide,Tryz.func224.trans (congrArg some (by kernel_rfl))⟩
 f11:=⟨Tryz.f267.name,by decide,Tryz.func267.trans (congrArg some (by kernel_rfl))⟩
 t0:=Tryz.underlying0
 a0:=Tryz.isAgg0
 z0:=Tryz.sizeOf0
 v0:=Tryz.zeroValue0
 t24:=Tryz.underlying26
 a24:=Tryz.isAgg26
 z24:=Tryz.sizeOf26
 v24:=Tryz.zeroValue26
 t26:=Tryz.underlying9
 a26:=Tryz.isAgg9
 z26:=Tryz.sizeOf9
 v26:=Tryz.zeroValue9
 t28:=Tryz.underlying167
 a28:=Tryz.isAgg167
 z28:=Tryz.sizeOf167
 v28:=Tryz.zeroValue167
 i26:=by kernel_rfl }
def Tryz.sortA_ren:Go.Shelf.Ren:=⟨fun|6=>155|8=>223|9=>222|19=>265|20=>266|21=>256|22=>257|23=>258|24=>259|25=>260|26=>261|27=>262|28=>263|29=>264|36=>281|31=>282|32=>283|37=>284|38=>285|39=>279|41=>298|n=>n,fun|27=>26|29=>9|3=>3|32=>242|26=>26|0=>0|44=>269|46=>271|4=>4|36=>262|35=>261|41=>243|5=>5|9=>9|53=>279|57=>283|63=>296|64=>297|n=>n,fun|n=>n⟩
theorem Tryz.sortA:Go.Proofs.SlLaysM.n6 Tryz.prog Tryz.sortA_ren:={
 mixed:=by kernel_rfl
 f6:=⟨Tryz.f155.name,by decide,Tryz.func155.trans (congrArg some (by kernel_rfl))⟩
 f8:=Tryz.func223.trans (congrArg some (by kernel_rfl))
 f9:=⟨Tryz.f222.name,by decide,Tryz.func222.trans (congrArg some (by kernel_rfl))⟩
 f19:=Tryz.func265.trans (congrArg some (by kernel_rfl))
 f20:=Tryz.func266.trans (congrArg some (by kernel_rfl))
 f21:=⟨Tryz.f256.name,by decide,Tryz.func256.trans (congrArg some (by kernel_rfl))⟩
 f22:=⟨Tryz.f257.name,by decide,Tryz.func257.trans (congrArg some (by kernel_rfl))⟩
 f23:=⟨Tryz.f258.name,by decide,Tryz.func258.trans (congrArg some (by kernel_rfl))⟩
 f24:=⟨Tryz.f259.name,by decide,Tryz.func259.trans (congrArg some (by kernel_rfl))⟩
 f25:=⟨Tryz.f260.name,by decide,Tryz.func260.trans (congrArg some (by kernel_rfl))⟩
 f26:=⟨Tryz.f261.name,by decide,Tryz.func261.trans (congrArg some (by kernel_rfl))⟩
 f27:=⟨Tryz.f262.name,by decide,Tryz.func262.trans (congrArg some (by kernel_rfl))⟩
 f28:=⟨Tryz.f263.name,by decide,Tryz.func263.trans (congrArg some (by kernel_rfl))⟩
 f29:=⟨Tryz.f264.name,by decide,Tryz.func264.trans (congrArg some (by kernel_rfl))⟩
 f31:=Tryz.func282.trans (congrArg some (by kernel_rfl))
 f32:=Tryz.func283.trans (congrArg some (by kernel_rfl))
 f36:=⟨Tryz.f281.name,by decide,Tryz.func281.trans (congrArg some (by kernel_rfl))⟩
 f37:=⟨Tryz.f284.name,by decide,Tryz.func284.trans (congrArg some (by kernel_rfl))⟩
 f38:=⟨Tryz.f285.name,by decide,Tryz.func285.trans (congrArg some (by kernel_rfl))⟩
 f39:=⟨Tryz.f279.name,by decide,Tryz.func279.trans (congrArg some (by kernel_rfl))⟩
 f41:=⟨Tryz.f298.name,by decide,Tryz.func298.trans (congrArg some (by kernel_rfl))⟩
 t0:=Tryz.underlying0
 a0:=Tryz.isAgg0
 z0:=Tryz.sizeOf0
 v0:=Tryz.zeroValue0
 t3:=Tryz.underlying3
 a3:=Tryz.isAgg3
 z3:=Tryz.sizeOf3
 v3:=Tryz.zeroValue3
 t4:=Tryz.underlying4
 a4:=Tryz.isAgg4
 z4:=Tryz.sizeOf4
 v4:=Tryz.zeroValue4
 t5:=Tryz.underlying5
 a5:=Tryz.isAgg5
 z5:=Tryz.sizeOf5
 v5:=Tryz.zeroValue5
 t9:=Tryz.underlying9
 a9:=Tryz.isAgg9
 z9:=Tryz.sizeOf9
 v9:=Tryz.zeroValue9
 t26:=Tryz.underlying26
 a26:=Tryz.isAgg26
 z26:=Tryz.sizeOf26
 v26:=Tryz.zeroValue26
 t27:=Tryz.underlying26
 a27:=Tryz.isAgg26
 z27:=Tryz.sizeOf26
 v27:=Tryz.zeroValue26
 t29:=Tryz.underlying9
 a29:=Tryz.isAgg9
 z29:=Tryz.sizeOf9
 v29:=Tryz.zeroValue9
 t32:=Tryz.underlying242
 a32:=Tryz.isAgg242
 z32:=Tryz.sizeOf242
 v32:=Tryz.zeroValue242
 t35:=Tryz.underlying261
 a35:=Tryz.isAgg261
 z35:=Tryz.sizeOf261
 v35:=Tryz.zeroValue261
 t36:=Tryz.underlying262
 a36:=Tryz.isAgg262
 z36:=Tryz.sizeOf262
 v36:=Tryz.zeroValue262
 t41:=Tryz.underlying243
 a41:=Tryz.isAgg243
 z41:=Tryz.sizeOf243
 v41:=Tryz.zeroValue243
 t44:=Tryz.underlying269
 a44:=Tryz.isAgg269
 z44:=Tryz.sizeOf269
 v44:=Tryz.zeroValue269
 t46:=Tryz.underlying271
 a46:=Tryz.isAgg271
 z46:=Tryz.sizeOf271
 v46:=Tryz.zeroValue271
 t53:=Tryz.underlying279
 a53:=Tryz.isAgg279
 z53:=Tryz.sizeOf279
 v53:=Tryz.zeroValue279
 t57:=Tryz.underlying283
 a57:=Tryz.isAgg283
 z57:=Tryz.sizeOf283
 v57:=Tryz.zeroValue283
 t63:=Tryz.underlying296
 a63:=Tryz.isAgg296
 z63:=Tryz.sizeOf296
 v63:=Tryz.zeroValue296
 t64:=Tryz.underlying297
 a64:=Tryz.isAgg297
 z64:=Tryz.sizeOf297
 v64:=Tryz.zeroValue297 }
def Tryz.compactA_ren:Go.Shelf.Ren:=⟨fun|44=>156|n=>n,fun|25=>26|26=>9|3=>3|4=>4|0=>0|n=>n,fun|n=>n⟩
theorem Tryz.compactA:Go.Proofs.SlLaysN.n44 Tryz.prog Tryz.compactA_ren:={
 mixed:=by kernel_rfl
 f44:=⟨Tryz.f156.name,by decide,Tryz.func156.trans (congrArg some (by kernel_rfl))⟩
 t0:=Tryz.underlying0
 a0:=Tryz.isAgg0
 z0:=Tryz.sizeOf0
 v0:=Tryz.zeroValue0
 t3:=Tryz.underlying3
 a3:=Tryz.isAgg3
 z3:=Tryz.sizeOf3
 v3:=Tryz.zeroValue3
 t4:=Tryz.underlying4
 a4:=Tryz.isAgg4
 z4:=Tryz.sizeOf4
 v4:=Tryz.zeroValue4
 t25:=Tryz.underlying26
 a25:=Tryz.isAgg26
 z25:=Tryz.sizeOf26
 v25:=Tryz.zeroValue26
 t26:=Tryz.underlying9
 a26:=Tryz.isAgg9
 z26:=Tryz.sizeOf9
 v26:=Tryz.zeroValue9
 i26:=by kernel_rfl }
def Tryz.laysValid_ren:Go.Shelf.Ren:=⟨fun|196=>274|259=>288|n=>n,fun|9=>9|4=>4|3=>3|5=>5|12=>12|119=>286|0=>0|46=>242|139=>289|138=>288|53=>271|n=>n,fun|3=>0|4=>1|n=>n⟩
theorem Tryz.laysValid:Go.Proofs.Lays.n196 Tryz.prog Tryz.laysValid_ren:={
 mixed:=by kernel_rfl
 f196:=Tryz.func274.trans (congrArg some (by kernel_rfl))
 f259:=Tryz.func288.trans (congrArg some (by kernel_rfl))
 t0:=Tryz.underlying0
 a0:=Tryz.isAgg0
 z0:=Tryz.sizeOf0
 v0:=Tryz.zeroValue0
 t3:=Tryz.underlying3
 a3:=Tryz.isAgg3
 z3:=Tryz.sizeOf3
 v3:=Tryz.zeroValue3
 t4:=Tryz.underlying4
 a4:=Tryz.isAgg4
 z4:=Tryz.sizeOf4
 v4:=Tryz.zeroValue4
 t5:=Tryz.underlying5
 a5:=Tryz.isAgg5
 z5:=Tryz.sizeOf5
 v5:=Tryz.zeroValue5
 t9:=Tryz.underlying9
 a9:=Tryz.isAgg9
 z9:=Tryz.sizeOf9
 v9:=Tryz.zeroValue9
 t12:=Tryz.underlying12
 a12:=Tryz.isAgg12
 z12:=Tryz.sizeOf12
 v12:=Tryz.zeroValue12
 t46:=Tryz.underlying242
 a46:=Tryz.isAgg242
 z46:=Tryz.sizeOf242
 v46:=Tryz.zeroValue242
 t53:=Tryz.underlying271
 a53:=Tryz.isAgg271
 z53:=Tryz.sizeOf271
 v53:=Tryz.zeroValue271
 t119:=Tryz.underlying286
 a119:=Tryz.isAgg286
 z119:=Tryz.sizeOf286
 t138:=Tryz.underlying288
 a138:=Tryz.isAgg288
 z138:=Tryz.sizeOf288
 v138:=Tryz.zeroValue288
 t139:=Tryz.underlying289
 a139:=Tryz.isAgg289
 z139:=Tryz.sizeOf289
 v139:=Tryz.zeroValue289
 g3:=by kernel_rfl
 g4:=by kernel_rfl }
end Go.Proofs.YtfilonnphgnplaaGreatDoor
namespace Go.Proofs.YtfilonnphgnplaaGreatDoor.Pv
open Go Go.Tidy
theorem first_at:∀ c:Fin 256,utf8First[c.1]? = some (Lib.firstT c.1):=by decide +kernel
theorem accept_at:∀ i:Fin 16,utf8Accept[2*i.1]? = some (Lib.accLo i.1)∧utf8Accept[2*i.1+1]? = some (Lib.accHi i.1):=by decide +kernel
theorem tabs_ok {w:World} {F:Nat→Prop} (hG:GOk prog w F):Lib.Utf8Tabs (Tryz.laysValid_ren.g 3) (Tryz.laysValid_ren.g 4) w:=by
 have h3:gTab prog (Tryz.laysValid_ren.g 3)=some utf8First:=by kernel_rfl
 have h4:gTab prog (Tryz.laysValid_ren.g 4)=some utf8Accept:=by kernel_rfl
 exact⟨fun c hc=>((hG _ _ h3).2.2 c _ (first_at ⟨c,hc⟩)).1,fun i hi=>⟨((hG _ _ h4).2.2 _ _ (accept_at ⟨i,hi⟩).1).1,((hG _ _ h4).2.2 _ _ (accept_at ⟨i,hi⟩).2).1⟩⟩
theorem c_utf8_ValidString (s:S):Ret prog M.F_utf8_ValidString [.str s] (.bool (utfB s)):=by
 refine⟨by kernel_rfl,fun w F vs hG hF hr=>?_⟩
 obtain⟨v,us,rfl,hv,hus⟩:=hr
 obtain rfl:us=[]:=hus
 obtain⟨rfl,hs⟩:=hv
 have h:Calls prog M.F_utf8_ValidString #[.string s] w _:=Any.utf8_ValidString Tryz.laysValid s w (by unfold LIM at hs; omega) (tabs_ok hG)
 refine Calls.mono h ?_
 rintro e w' ⟨rfl,hb⟩
 exact⟨_,F,rfl,Bel.of hb,fun _ h=>h,fun b hb'=>⟨Nat.lt_of_lt_of_le (hF b hb') hb.size,.inl hb'⟩,by rw[validD_utfB]; rfl⟩
end Go.Proofs.YtfilonnphgnplaaGreatDoor.Pv
set_option maxRecDepth 100000
namespace Go.Proofs.YtfilonnphgnplaaGreatDoor.Pv
open Go Go.Tidy
theorem c_utf_Valid (s:S):Ret prog M.F_utf_Valid [.str s] (.bool (utfB s)):=by
 refine Ret.go hmix h_utf_Valid (by simp) fun hb w0 F0 hG=>?_
 simp
 refine XCall.ret (c_utf8_ValidString s) ?_
 simp
theorem c_shape_Every:Ret prog M.F_shape_Every [] (.agg (cT tEvery)):=by
 refine Ret.go hmix h_shape_Every (by simp) fun hb w0 F0 hG=>?_
 simp[tEvery]
theorem not_rise {l:List S} {k:Nat} (hk:k<l.length) (h:¬ (utfB l[k]=true∧∀ h:0<k,sLt (l[k-1]'(by omega)) l[k]=true)):riseB l=false:=by
 cases hr:riseB l
 ·rfl
 ·exact absurd (riseB_at hk hr) h
set_option maxHeartbeats 4000000 in
theorem c_shape_rise (l:List S):Ret prog M.F_shape_rise [.vec 1 false (l.map encStr)] (.bool (riseB l)):=by
 refine Ret.go hmix h_shape_rise (by simp) fun hb w0 F0 hG=>?_
 simp only[bndL,bndV,List.length_map,LIM,and_true] at hb
 generalize hB:riseB l=B
 simp
 obtain⟨J,hJ⟩ : ∃ J:Nat→Unit→Prop,J=fun k _=>RiseTo l k:=⟨_,rfl⟩
 refine XLoop.cnt hmix l.length (fun k _=>⟨[(7,.int .i64 k),(6,.int .i64 l.length),(5,.vec 1 false (l.map encStr)),(0,.vec 1 false (l.map encStr))],[]⟩) J () (by rw[hJ]; exact fun j _ h=>absurd h (by omega)) (by simp) fun k _ hk hj=>?_
 have hw:=wrap64 (n:=(k:Int)+1) (by omega) (by omega)
 have hj' : RiseTo l k:=by rw[hJ] at hj; exact hj
 by_cases g:k<l.length
 ·simp[g]
  refine XCall.ret (c_utf_Valid l[k]) ?_
  cases e1:utfB l[k]
  ·have:B=false:=by rw[← hB]; exact not_rise g (fun h=>by rw[e1] at h; cases h.1)
   simp[this]
  ·by_cases g0:0<k
   ·have g0' : (0:Int)<k:=by omega
    have wm:=wrap64 (n:=(k:Int)-1) (by omega) (by omega)
    have em:(k:Int)-1=((k-1:Nat):Int):=by omega
    have g1:k-1<l.length:=by omega
    rw[em] at wm
    cases e2:sLt l[k-1] l[k]
    ·have:B=false:=by rw[← hB]; exact not_rise g (fun h=>by have:=h.2 g0; rw[e2] at this; cases this)
     simp[g0',g0,g,g1,wm,em,e2,this]
    ·simp[g0',g0,g,g1,wm,em,e2,hw]
     exact⟨(),by rw[hJ]; exact hj'.step g e1 fun _=>e2⟩
   ·have g0' : ¬ (0:Int)<k:=by omega
    simp[g0',g0,g,hw]
    exact⟨(),by rw[hJ]; exact hj'.step g e1 fun h=>absurd h g0⟩
 ·have:B=true:=by rw[← hB]; exact riseB_of fun i hi=>hj' i hi (by omega)
  simp[g,this]
theorem dec_nil {α:Type} (l:List α) [Decidable (l=[])]:decide (l=[])=l.isEmpty:=by cases l<;>simp
theorem c_shape_piece_bare (t:Ty):Ret prog M.F_shape_piece_bare [.agg (cT t)] (.bool (bare t)):=by
 refine Ret.go hmix h_shape_piece_bare (by simp) fun hb w0 F0 hG=>?_
 unfold bare
 simp
 rw[dec_nil,dec_nil,dec_nil,dec_nil]
 cases t.null<;>cases t.fls<;>cases t.tru<;>cases t.any<;>simp
theorem c_shape_never (t:Ty):Ret prog M.F_shape_never [.agg (cT t)] (.bool (never t)):=by
 refine Ret.go hmix h_shape_never (by simp) fun hb w0 F0 hG=>?_
 unfold never
 cases h:t.all
 ·simp[h]
  intros
  refine XCall.ret (by have:=c_shape_piece_bare t; unfold cT at this; rw[h] at this; exact this) ?_
  simp
 ·simp[h]
theorem c_shape_piece_every (t:Ty):Ret prog M.F_shape_piece_every [.agg (cT t)] (.bool (!t.all||bare t)):=by
 refine Ret.go hmix h_shape_piece_every (by simp) fun hb w0 F0 hG=>?_
 cases h:t.all
 ·simp[h]
 ·simp[h]
  intros
  refine XCall.ret (by have:=c_shape_piece_bare t; unfold cT at this; rw[h] at this; exact this) ?_
  simp
theorem c_shape_piece_texts (t:Ty):Ret prog M.F_shape_piece_texts [.agg (cT t)] (.bool (riseB t.texts&&(!t.any||t.texts.isEmpty))):=by
 refine Ret.go hmix h_shape_piece_texts (by simp) fun hb w0 F0 hG=>?_
 simp
 intros
 refine XCall.ret (c_shape_rise t.texts) ?_
 cases h1:riseB t.texts
 ·simp
 ·cases h2:t.any
  ·simp[h2]
  ·simp[h2,dec_nil]
set_option maxHeartbeats 4000000 in
theorem c_shape_piece_nums (t:Ty):Ret prog M.F_shape_piece_nums [.agg (cT t)] (.bool (decide (t.nums.length≤1)&&t.nums.all spanB)):=by
 refine Ret.go hmix h_shape_piece_nums (by simp) fun hb w0 F0 hG=>?_
 simp only[bndL,bndV,List.length_map,LIM,and_true] at hb
 generalize hB:t.nums.all spanB=B
 simp
 intro v
 obtain⟨J,hJ⟩ : ∃ J:Nat→Unit→Prop,J=fun k _=>AllTo spanB t.nums k:=⟨_,rfl⟩
 refine XLoop.cnt hmix t.nums.length (fun k _=>⟨[(10,.int .i64 k),(9,.int .i64 t.nums.length),(8,.vec 2 false (t.nums.map encSpan)),(1,.ptr (1,v) 9 0 0)],[((1,v),some ⟨9,[cT t],false,true⟩)]⟩) J () (by rw[hJ]; exact .zero) (by simp) fun k _ hk hj=>?_
 have hw:=wrap64 (n:=(k:Int)+1) (by omega) (by omega)
 have hj' : AllTo spanB t.nums k:=by rw[hJ] at hj; exact hj
 by_cases h1:k<t.nums.length
 ·have no:spanB t.nums[k]=false→B=false:=fun h=>hB ▸ all_not h1 h
  have yes:spanB t.nums[k]=true→J (k+1) ():=fun h=>by rw[hJ]; exact hj'.step h1 h
  have hs:spanB t.nums[k]=(boundB t.nums[k].low&&boundB t.nums[k].high&&(sEmp t.nums[k].low||sEmp t.nums[k].high||(numCmp t.nums[k].low t.nums[k].high).isLE)):=rfl
  unfold boundB at hs
  cases e1:sEmp t.nums[k].low
  ·cases e2:sEmp t.nums[k].high
   ·simp[h1,e1,e2]
    intros
    refine XDCall.ret (c_tens_Formed t.nums[k].low) ?_
    simp[h1,e1,e2]
    refine XDCall.ret (c_tens_Formed t.nums[k].high) ?_
    cases n1:numB t.nums[k].low
    ·simp[n1,e1,e2,h1,no (by rw[hs,e1,n1]; simp)]
    ·cases n2:numB t.nums[k].high
     ·simp[n1,n2,e1,e2,h1,no (by rw[hs,e2,n2]; simp)]
     ·rw[e1,e2,n1,n2] at hs
      simp[n1,n2,e1,e2]
      refine XCall.ret (c_shape_worth t.nums[k].low t.nums[k].high) ?_
      simp[worthI,n1,n2]
      cases hc:numCmp t.nums[k].low t.nums[k].high<;>rw[hc] at hs
      ·simp[hw,h1]; exact⟨(),yes (by rw[hs]; rfl)⟩
      ·simp[hw,h1]; exact⟨(),yes (by rw[hs]; rfl)⟩
      ·simp[no (by rw[hs]; rfl)]
   ·simp[h1,e1,e2]
    intros
    refine XDCall.ret (c_tens_Formed t.nums[k].low) ?_
    cases n1:numB t.nums[k].low
    ·simp[n1,e1,e2,h1,no (by rw[hs,e1,n1]; simp)]
    ·simp[n1,e1,e2,hw,h1]
     exact⟨(),yes (by rw[hs,e1,e2,n1]; simp)⟩
  ·cases e2:sEmp t.nums[k].high
   ·simp[h1,e1,e2]
    intros
    refine XDCall.ret (c_tens_Formed t.nums[k].high) ?_
    cases n2:numB t.nums[k].high
    ·simp[n2,e1,e2,h1,no (by rw[hs,e2,n2]; simp)]
    ·simp[n2,e1,e2,hw,h1]
     exact⟨(),yes (by rw[hs,e1,e2,n2]; simp)⟩
   ·simp[e1,e2,hw,h1]
    exact⟨(),yes (by rw[hs,e1,e2]; simp)⟩
 ·have:B=true:=by rw[← hB]; exact hj'.all h1
  simp[h1,this]
  omega
end Go.Proofs.YtfilonnphgnplaaGreatDoor.Pv
set_option maxRecDepth 100000
namespace Go.Proofs.YtfilonnphgnplaaGreatDoor.Pv
open Go Go.Tidy
set_option maxHeartbeats 4000000 in
theorem piece_arrays (t:Ty) (ih:∀ a∈t.arrays,Ret prog M.F_shape_Formed [.agg (cT a.item)] (.bool (formedT a.item))):Ret prog M.F_shape_piece_arrays [.agg (cT t)] (.bool (decide (t.arrays.length≤1)&&t.arrays.all formedA)):=by
 refine Ret.go hmix h_shape_piece_arrays (by simp) fun hb w0 F0 hG=>?_
 simp only[bndL,bndV,List.length_map,LIM,and_true] at hb
 generalize hB:t.arrays.all formedA=B
 simp
 intro v
 obtain⟨J,hJ⟩ : ∃ J:Nat→Unit→Prop,J=fun k _=>AllTo formedA t.arrays k:=⟨_,rfl⟩
 refine XLoop.cnt hmix t.arrays.length (fun k _=>⟨[(8,.int .i64 k),(7,.int .i64 t.arrays.length),(6,.vec 11 false (t.arrays.map encArr)),(1,.ptr (1,v) 9 0 0)],[((1,v),some ⟨9,[cT t],false,true⟩)]⟩) J () (by rw[hJ]; exact .zero) (by simp) fun k _ hk hj=>?_
 have hw:=wrap64 (n:=(k:Int)+1) (by omega) (by omega)
 have hj' : AllTo formedA t.arrays k:=by rw[hJ] at hj; exact hj
 by_cases h1:k<t.arrays.length
 ·have no:formedA t.arrays[k]=false→B=false:=fun h=>hB ▸ all_not h1 h
  have yes:formedA t.arrays[k]=true→J (k+1) ():=fun h=>by rw[hJ]; exact hj'.step h1 h
  have hs:formedA t.arrays[k]=(decide (0≤t.arrays[k].min)&&decide (-1≤t.arrays[k].max)&&(decide (t.arrays[k].max<0)||decide (t.arrays[k].min≤t.arrays[k].max))&&formedT t.arrays[k].item&&(never t.arrays[k].item == decide (t.arrays[k].max=0))):=by
   cases t.arrays[k]; rfl
  have ih':=ih t.arrays[k] (List.getElem_mem h1)
  by_cases g1:t.arrays[k].min<0
  ·have g1' : ¬ 0≤t.arrays[k].min:=by omega
   simp[h1,g1,no (by rw[hs]; simp[g1'])]
  by_cases g2:t.arrays[k].max < -1
  ·have g2' : ¬ -1≤t.arrays[k].max:=by omega
   simp[h1,g1,g2,no (by rw[hs]; simp[g2'])]
  have g1' : 0≤t.arrays[k].min:=by omega
  have g2' : -1≤t.arrays[k].max:=by omega
  by_cases g34:0≤t.arrays[k].max∧t.arrays[k].max<t.arrays[k].min
  ·obtain⟨g3,g4⟩:=g34
   have g3' : ¬ t.arrays[k].max<0:=by omega
   have g4' : ¬ t.arrays[k].min≤t.arrays[k].max:=by omega
   simp[h1,g1,g2,g3,g4,no (by rw[hs]; simp[g3',g4'])]
  have g6:(decide (t.arrays[k].max<0)||decide (t.arrays[k].min≤t.arrays[k].max))=true:=by simp; omega
  rw[g6,decide_eq_true g1',decide_eq_true g2'] at hs
  by_cases g3:0≤t.arrays[k].max
  rotate_left
  ·have g5:¬ t.arrays[k].max=0:=by omega
   simp[h1,g1,g2,g3]
   intros
   refine XDCall.ret ih' ?_
   cases hf:formedT t.arrays[k].item
   ·simp[h1,g1,g2,g3,no (by rw[hs,hf]; simp)]
   ·simp[h1,g1,g2,g3]
    refine XDCall.ret (c_shape_never t.arrays[k].item) ?_
    rw[hf] at hs
    cases hn:never t.arrays[k].item<;>rw[hn] at hs
    ·simp[g5,h1,hw]
     exact⟨(),yes (by rw[hs]; simp[g5])⟩
    ·simp[g5,h1,no (by rw[hs]; simp[g5])]
  ·have g4:¬ t.arrays[k].max<t.arrays[k].min:=by omega
   simp[h1,g1,g2,g3,g4]
   intros
   refine XDCall.ret ih' ?_
   cases hf:formedT t.arrays[k].item
   ·simp[h1,g1,g2,g3,g4,no (by rw[hs,hf]; simp)]
   ·simp[h1,g1,g2,g3,g4]
    refine XDCall.ret (c_shape_never t.arrays[k].item) ?_
    rw[hf] at hs
    by_cases g5:t.arrays[k].max=0
    ·cases hn:never t.arrays[k].item<;>rw[hn] at hs
     ·simp[g5,h1,no (by rw[hs]; simp[g5])]
     ·simp[g5,h1,hw]
      exact⟨(),yes (by rw[hs]; simp[g5])⟩
    ·cases hn:never t.arrays[k].item<;>rw[hn] at hs
     ·simp[g5,h1,hw]
      exact⟨(),yes (by rw[hs]; simp[g5])⟩
     ·simp[g5,h1,no (by rw[hs]; simp[g5])]
 ·have:B=true:=by rw[← hB]; exact hj'.all h1
  simp[h1,this]
  omega
set_option maxHeartbeats 4000000 in
theorem piece_objects (t:Ty) (ih:∀ o∈t.objects,∀ f∈o.fields,Ret prog M.F_shape_Formed [.agg (cT f)] (.bool (formedT f))) (ihr:∀ o∈t.objects,Ret prog M.F_shape_Formed [.agg (cT o.rest)] (.bool (formedT o.rest))):Ret prog M.F_shape_piece_objects [.agg (cT t)] (.bool (t.objects.all formedO)):=by
 refine Ret.go hmix h_shape_piece_objects (by simp) fun hb w0 F0 hG=>?_
 simp only[bndL,bndV,List.length_map,LIM,and_true] at hb
 generalize hB:t.objects.all formedO=B
 simp
 intro v
 obtain⟨J,hJ⟩ : ∃ J:Nat→Unit→Prop,J=fun k _=>AllTo formedO t.objects k:=⟨_,rfl⟩
 refine XLoop.cnt hmix t.objects.length (fun k _=>⟨[(10,.int .i64 k),(9,.int .i64 t.objects.length),(8,.vec 12 false (t.objects.map encObj)),(1,.ptr (1,v) 9 0 0)],[((1,v),some ⟨9,[cT t],false,true⟩)]⟩) J () (by rw[hJ]; exact .zero) (by simp) fun k _ hk hj=>?_
 have hw:=wrap64 (n:=(k:Int)+1) (by omega) (by omega)
 have hj' : AllTo formedO t.objects k:=by rw[hJ] at hj; exact hj
 by_cases h1:k<t.objects.length
 ·have no:formedO t.objects[k]=false→B=false:=fun h=>hB ▸ all_not h1 h
  have yes:formedO t.objects[k]=true→J (k+1) ():=fun h=>by rw[hJ]; exact hj'.step h1 h
  have hO:formedO t.objects[k]=(decide (t.objects[k].names.length=t.objects[k].fields.length)&&decide (t.objects[k].names.length=t.objects[k].must.length)&&riseB t.objects[k].names&&formedT t.objects[k].rest&&formedTs t.objects[k].fields&&(t.objects[k].fields.zip t.objects[k].must).all (fun p=>!p.2||!never p.1)):=by
   cases t.objects[k]; rfl
  have ih':=ih _ (List.getElem_mem h1)
  have ihr':=ihr _ (List.getElem_mem h1)
  have hbf:t.objects[k].fields.length≤140737488355328:=by
   have:=bndR_map hb.2.2.2.2.2.2.2.2.2 t.objects[k] (List.getElem_mem h1)
   simp only[encObj_eq,bndL,bndV,List.length_map,LIM,and_true] at this
   omega
  generalize hoo:t.objects[k]=o at *
  by_cases g1:o.names.length=o.fields.length
  rotate_left
  ·have g1' : ¬ (o.names.length:Int)=o.fields.length:=by omega
   simp[h1,hoo,g1,g1',no (by rw[hO]; simp[g1])]
  have g1' : (o.names.length:Int)=o.fields.length:=by omega
  by_cases g2:o.names.length=o.must.length
  rotate_left
  ·have g2' : ¬ (o.names.length:Int)=o.must.length:=by omega
   simp[h1,hoo,← g1,g2,g2',no (by rw[hO]; simp[g2])]
  have g2' : (o.names.length:Int)=o.must.length:=by omega
  simp[h1,hoo,← g1,← g2]
  intro v4
  refine XCall.ret (c_shape_rise o.names) ?_
  cases hr:riseB o.names
  ·simp[no (by rw[hO,hr]; simp)]
  simp
  refine XCall.ret ihr' ?_
  cases hf:formedT o.rest
  ·simp[no (by rw[hO,hf]; simp)]
  simp
  rw[decide_eq_true g1,decide_eq_true g2,hr,hf,formedTs_all] at hO
  obtain⟨J',hJ'⟩ : ∃ J:Nat→Unit→Prop,J=fun i _=>AllTo formedT o.fields i∧AllTo (fun p:Ty × Bool=>!p.2||!never p.1) (o.fields.zip o.must) i:=⟨_,rfl⟩
  refine XLoop.cnt hmix o.fields.length (fun i _=>⟨[(45,.int .i64 i),(44,.int .i64 o.fields.length),(43,.vec 9 false (o.fields.map encTy)),(4,.ptr (4,v4) 12 0 0),(10,.int .i64 k),(9,.int .i64 t.objects.length),(8,.vec 12 false (t.objects.map encObj)),(1,.ptr (1,v) 9 0 0)],[((4,v4),some ⟨12,[cO o],false,true⟩),((1,v),some ⟨9,[cT t],false,true⟩)]⟩) J' () (by rw[hJ']; exact⟨.zero,.zero⟩) (by simp[g1]) fun i _ hi hji=>?_
  have hw2:=wrap64 (n:=(i:Int)+1) (by omega) (by omega)
  obtain⟨j1,j2⟩ : AllTo formedT o.fields i∧AllTo (fun p:Ty × Bool=>!p.2||!never p.1) (o.fields.zip o.must) i:=by rw[hJ'] at hji; exact hji
  by_cases h2:i<o.fields.length
  ·have h3:i<o.must.length:=by omega
   have h4:i<(o.fields.zip o.must).length:=by simp; omega
   have hz:(o.fields.zip o.must)[i]=(o.fields[i],o.must[i]):=by simp
   cases e2:o.must[i]
   ·simp[h2,h3,e2]
    intros
    refine XCall.ret (ih' o.fields[i] (List.getElem_mem h2)) ?_
    cases e1:formedT o.fields[i]
    ·simp[h2,h3,e2,no (by rw[hO,all_not h2 e1]; simp)]
    ·simp[h2,h3,e2,hw2]
     exact⟨(),by rw[hJ']; exact⟨j1.step h2 e1,j2.step h4 (by rw[hz]; simp[e2])⟩⟩
   ·simp[h2,h3,e2]
    intros
    refine XCall.ret (ih' o.fields[i] (List.getElem_mem h2)) ?_
    cases e1:formedT o.fields[i]
    ·simp[h2,h3,e2,no (by rw[hO,all_not h2 e1]; simp)]
    ·simp[h2,h3,e2]
     refine XCall.ret (c_shape_never o.fields[i]) ?_
     cases e3:never o.fields[i]
     ·simp[hw2,h2]
      exact⟨(),by rw[hJ']; exact⟨j1.step h2 e1,j2.step h4 (by rw[hz]; simp[e3])⟩⟩
     ·simp[no (by rw[hO,all_not h4 (by rw[hz]; simp[e2,e3])]; simp)]
  ·simp[h2,hw,h1]
   exact⟨(),yes (by rw[hO,j1.all h2,j2.all (by simp; omega)]; rfl)⟩
 ·have:B=true:=by rw[← hB]; exact hj'.all h1
  simp[h1,this]
set_option maxHeartbeats 4000000 in
theorem shape_formed_step (t:Ty) (hA:Ret prog M.F_shape_piece_arrays [.agg (cT t)] (.bool (decide (t.arrays.length≤1)&&t.arrays.all formedA))) (hO:Ret prog M.F_shape_piece_objects [.agg (cT t)] (.bool (t.objects.all formedO))):Ret prog M.F_shape_Formed [.agg (cT t)] (.bool (formedT t)):=by
 refine Ret.go hmix h_shape_Formed (by simp) fun hb w0 F0 hG=>?_
 have hs:formedT t=((!t.all||bare t)&&(decide (t.nums.length≤1)&&t.nums.all spanB)&&(riseB t.texts&&(!t.any||t.texts.isEmpty))&&(decide (t.arrays.length≤1)&&t.arrays.all formedA)&&t.objects.all formedO):=by
  cases t
  simp only[formedT,formedAs_all,formedOs_all,Ty.all_mk,Ty.nums_mk,Ty.texts_mk,Ty.any_mk,Ty.arrays_mk,Ty.objects_mk]
  rw[Bool.eq_iff_iff]
  simp only[Bool.and_eq_true]
  constructor
  ·rintro⟨⟨⟨⟨⟨⟨⟨h1,h2⟩,h3⟩,h4⟩,h5⟩,h6⟩,h7⟩,h8⟩; exact⟨⟨⟨⟨h1,h4,h5⟩,h2,h3⟩,h6,h7⟩,h8⟩
  ·rintro⟨⟨⟨⟨h1,h4,h5⟩,h2,h3⟩,h6,h7⟩,h8⟩; exact⟨⟨⟨⟨⟨⟨⟨h1,h2⟩,h3⟩,h4⟩,h5⟩,h6⟩,h7⟩,h8⟩
 generalize formedT t=B at *
 simp
 intro v1 v2
 refine XLoop.rnd hmix (.s (.s (.s (.s (.s (.s .z)))))) ?_
 simp only[XRnd_s]
 have w1:IntKind.i64.wrap 1=1:=wrap64 (by omega) (by omega)
 have w2:IntKind.i64.wrap 2=2:=wrap64 (by omega) (by omega)
 have w3:IntKind.i64.wrap 3=3:=wrap64 (by omega) (by omega)
 have w4:IntKind.i64.wrap 4=4:=wrap64 (by omega) (by omega)
 have w5:IntKind.i64.wrap 5=5:=wrap64 (by omega) (by omega)
 simp
 refine XCall.ret (c_shape_piece_every t) ?_
 cases e1:(!t.all||bare t)<;>rw[e1] at hs
 ·simp[hs]
 simp[w1,XRnd_s]
 refine XCall.ret (c_shape_piece_nums t) ?_
 cases e2:(decide (t.nums.length≤1)&&t.nums.all spanB)<;>rw[e2] at hs
 ·simp[hs]
 simp[w2,XRnd_s]
 refine XCall.ret (c_shape_piece_texts t) ?_
 cases e3:(riseB t.texts&&(!t.any||t.texts.isEmpty))<;>rw[e3] at hs
 ·simp[hs]
 simp[w3,XRnd_s]
 refine XCall.ret hA ?_
 cases e4:(decide (t.arrays.length≤1)&&t.arrays.all formedA)<;>rw[e4] at hs
 ·simp[hs]
 simp[w4,XRnd_s]
 refine XCall.ret hO ?_
 cases e5:t.objects.all formedO<;>rw[e5] at hs
 ·simp[hs]
 simp[w5,XRnd_s,hs]
theorem c_shape_Formed (t:Ty):Ret prog M.F_shape_Formed [.agg (cT t)] (.bool (formedT t)):=by
 induction hn:SizeOf.sizeOf t using Nat.strongRecOn generalizing t with
 | _ n ih =>
   subst hn
   exact shape_formed_step t (piece_arrays t fun a ha=>ih _ (sz_item ha) a.item rfl) (piece_objects t (fun o ho f hf=>ih _ (sz_field ho hf) f rfl) fun o ho=>ih _ (sz_rest ho) o.rest rfl)
end Go.Proofs.YtfilonnphgnplaaGreatDoor.Pv

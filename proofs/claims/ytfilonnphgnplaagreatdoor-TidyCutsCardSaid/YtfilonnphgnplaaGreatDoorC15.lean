/- Part 15. -/
import Derived.Test.YtfilonnphgnplaaGreatDoorC14
set_option linter.unusedSimpArgs false
set_option linter.unusedVariables false
set_option maxRecDepth 100000
namespace Go.Proofs.YtfilonnphgnplaaGreatDoor.Pv
open Go Go.Tidy
def ordI:Ordering→Int
 | .lt=>-1
 | .eq=>0
 | .gt=>1
def CmpOk (fid:Nat) (f:Ob→Ob→Ordering) (D:Ob→Prop):Prop:=∀ a b,D a→D b→Ret prog fid [.agg (cO a),.agg (cO b)] (.int .i64 (ordI (f a b)))
structure InsG where
 p:List Ob
 z1:List Ob
 v:Ob
 z2:List Ob
 q:List Ob
def InsG.l (g:InsG):List Ob:=g.p++g.z1++g.v::(g.z2++g.q)
structure Ins1 where
 p:List Ob
 z:List Ob
 y:List Ob
 q:List Ob
def Ins1.l (g:Ins1):List Ob:=g.p++g.z++g.y++g.q
theorem wrapu64' {n:Int} (h1:0≤n) (h2:n≤18446744073709551615):IntKind.u64.wrap n=n:=by
 simp[IntKind.wrap,IntKind.bits,IntKind.signed]
 omega
theorem get_mid' {α:Type} {p x q L:List α} (hL:L=p++x++q) {k j:Nat} (hk:k<x.length) (hj:j=p.length+k) (h:j<L.length):L[j]=x[k]:=by
 subst hL; subst hj
 rw[List.getElem_append_left (by simp; omega),List.getElem_append_right (by omega)]
 simp
set_option maxHeartbeats 4000000 in
theorem c_insertion (gs gv:Nat) (fl:Bool) (p x q:List Ob) (fid:Nat) {f:Ob→Ob→Ordering} {D:Ob→Prop} (hf:Tot f) (hc:CmpOk fid f D) {L:List Ob} {n a b:Nat} (hL:L=p++x++q) (hn:n=L.length) (ha:a=p.length) (hb:b=p.length+x.length) (hD:∀ o∈L,D o) (hl:n≤34359738368) :
 RetK prog M.F_slices_insertionSortCmpFunc_Obj [.own (gs,gv) 12 0 n fl,.int .i64 a,.int .i64 b,.fn fid [] []] (rowH gs gv L) (fun r h=>r=.tup []∧∃ z,h=rowH gs gv (p++z++q)∧z.Perm x∧Srt f z):=by
 refine RetK.of hmix h_slices_insertionSortCmpFunc_Obj (by simp) fun E hP hV=>?_
 have hgV:=hV (gs,gv) ⟨12,L.map encObj,false,false⟩ (by simp[hk])
 obtain⟨P,w0,F0,nt,G,V,glob⟩:=E
 obtain rfl:P=prog:=hP
 have hlen:L.length=p.length+x.length+q.length:=by rw[hL]; simp; omega
 obtain⟨a1,ha1⟩ : ∃ a1,a1=a+1:=⟨_,rfl⟩
 have e1:(a:Int)+1=(a1:Nat):=by omega
 have w1:=wrap64 (n:=(a1:Nat)) (by omega) (by omega)
 simp[e1,w1]
 obtain⟨J,hJ⟩ : ∃ J:Nat × Ins1→Prop,J=fun g=>g.2.p=p∧g.2.q=q∧g.2.l.length=n∧(g.2.z++g.2.y).Perm x∧Srt f g.2.z∧(∀ o∈g.2.l,D o)∧(g.2.y≠[]→g.1=a+g.2.z.length)∧(g.2.y=[]→b≤g.1)∧a<g.1∧g.1≤n+1:=⟨_,rfl⟩
 obtain⟨z0,y0,hx0,hz1,hz0⟩ : ∃ z0 y0,x=z0++y0∧z0.length≤1∧(x≠[]→z0.length=1):=by
  cases x with
  | nil=>exact⟨[],[],rfl,by simp,by simp⟩
  | cons u x=>exact⟨[u],x,rfl,by simp,by simp⟩
 have hst0:(⟨p,z0,y0,q⟩ : Ins1).l=L:=by rw[hL,hx0]; simp[Ins1.l]
 have hxl0:x.length=z0.length+y0.length:=by rw[hx0]; simp
 have hstart:J (a1,⟨p,z0,y0,q⟩):=by
  rw[hJ]
  refine⟨rfl,rfl,by simp[hst0,hn],by rw[hx0],?_,by simp only[hst0]; exact hD,fun h=>?_,fun h=>?_,by simp only; omega,by simp only; omega⟩
  ·match z0,hz1 with
   | [],_=>exact srt_nil
   | [u],_=>exact srt_one u
  ·have:x≠[]:=by rw[hx0]; simp only at h; simp[h]
   have:=hz0 this
   simp only; omega
  ·simp only at h
   rw[h] at hxl0
   simp at hxl0
   simp only; omega
 refine XLoop.go hmix (fun (g:Nat × Ins1)=>⟨[(8,.int .i64 g.1),(0,.own (gs,gv) 12 0 n fl),(1,.int .i64 a),(2,.int .i64 b),(3,.fn fid [] [])],rowH gs gv g.2.l⟩) J (fun g=>g.2.y.length) (a1,⟨p,z0,y0,q⟩) hstart (by simp[hst0,leR_refl]) fun g hj=>?_
 obtain⟨i,g⟩:=g
 have hj' : g.p=p∧g.q=q∧g.l.length=n∧(g.z++g.y).Perm x∧Srt f g.z∧(∀ o∈g.l,D o)∧(g.y≠[]→i=a+g.z.length)∧(g.y=[]→b≤i)∧a<i∧i≤n+1:=by rw[hJ] at hj; exact hj
 clear hj
 obtain⟨j1,j2,j3,j4,j5,j6,j7,j8,j9,j10⟩:=hj'
 have hxl:g.z.length+g.y.length=x.length:=by rw[← j4.length_eq]; simp
 have hw:=wrap64 (n:=(i:Int)+1) (by omega) (by omega)
 by_cases h1:i<b
 ·have hy0:g.y≠[]:=fun h=>by have:=j8 h; omega
  have hi:=j7 hy0
  obtain⟨v,y',hy⟩:=List.exists_cons_of_ne_nil hy0
  simp[h1]
  obtain⟨J2,hJ2⟩ : ∃ J2:InsG→Prop,J2=fun k=>k.p=p∧k.v=v∧k.q=y'++q∧k.z1++k.z2=g.z∧∀ u∈k.z2,f v u≠.gt:=⟨_,rfl⟩
  have hst2:(⟨p,g.z,v,[],y'++q⟩ : InsG).l=g.l:=by simp[InsG.l,Ins1.l,j1,j2,hy]
  refine XLoop.go hmix (fun (k:InsG)=>⟨[(9,.int .i64 (a+k.z1.length:Nat)),(8,.int .i64 i),(0,.own (gs,gv) 12 0 n fl),(1,.int .i64 a),(2,.int .i64 b),(3,.fn fid [] [])],rowH gs gv k.l⟩) J2 (fun k=>k.z1.length) ⟨p,g.z,v,[],y'++q⟩ (by rw[hJ2]; exact⟨rfl,rfl,rfl,by simp,by simp⟩) (by simp only[hst2]; simp[hi,leR_refl]) fun k hj=>?_
  have hj' : k.p=p∧k.v=v∧k.q=y'++q∧k.z1++k.z2=g.z∧∀ u∈k.z2,f v u≠.gt:=by rw[hJ2] at hj; exact hj
  clear hj
  obtain⟨k1,k2,k3,k4,k5⟩:=hj'
  have hperm:k.l.Perm g.l:=by
   unfold InsG.l Ins1.l
   rw[k1,k2,k3,j1,j2,hy,← k4]
   simp only[List.append_assoc]
   refine List.Perm.append_left p ?_
   refine List.Perm.append_left _ ?_
   simp only[List.cons_append]
   exact (List.perm_middle (a:=v) (l₁:=k.z2) (l₂:=y'++q)).symm
  have hkl:k.l.length=n:=by rw[hperm.length_eq]; exact j3
  have hkD:∀ o∈k.l,D o:=fun o ho=>j6 o (hperm.mem_iff.1 ho)
  have hzl:k.z1.length+k.z2.length=g.z.length:=by rw[← k4]; simp
  have hout:∀ hgo:Srt f (k.z1++v::k.z2),∃ gg:Nat × Ins1,J gg∧gg.2.y.length<g.y.length∧gg.1=i+1∧gg.2.l=k.l:=fun hgo=>by
   have hll:(⟨p,k.z1++v::k.z2,y',q⟩ : Ins1).l=k.l:=by simp[InsG.l,Ins1.l,k1,k2,k3]
   refine⟨(i+1,⟨p,k.z1++v::k.z2,y',q⟩),?_,by simp[hy],rfl,hll⟩
   rw[hJ]
   refine⟨rfl,rfl,by simp only[hll]; exact hkl,?_,hgo,by simp only[hll]; exact hkD,fun _=>by simp; omega,fun h=>?_,by simp only; omega,by simp only; omega⟩
   ·refine List.Perm.trans ?_ j4
    rw[hy,← k4]
    simp only[List.append_assoc,List.cons_append]
    exact List.Perm.append_left _ (List.perm_middle (a:=v) (l₁:=k.z2) (l₂:=y')).symm
   ·simp only at h
    rw[h] at hy
    rw[hy] at hxl
    simp at hxl
    simp only; omega
  rcases List.eq_nil_or_concat k.z1 with hz|⟨z1',u,hz⟩
  ·obtain⟨gg,g1,g2,g3,g4⟩:=hout (by
      rw[hz]
      refine srt_cons.2 ⟨k5,?_⟩
      rw[← k4,hz] at j5
      simpa using j5)
   simp[hz]
   exact fun _ _=>⟨gg.1,gg.2,g1,g2,by rw[hw,g3]; rfl,by rw[g4]; exact leR_refl _ _⟩
  ·obtain⟨d,hd⟩ : ∃ d,d=a+k.z1.length:=⟨_,rfl⟩
   obtain⟨d1,hd1⟩ : ∃ d1,d1=a+z1'.length:=⟨_,rfl⟩
   have hzl' : k.z1.length=z1'.length+1:=by rw[hz]; simp
   rw[← hd]
   have ed:(d:Int)-1=(d1:Nat):=by omega
   have w2:=wrap64 (n:=(d1:Nat)) (by omega) (by omega)
   have q1:d<k.l.length:=by omega
   have q2:d1<k.l.length:=by omega
   have q3:d<n:=by omega
   have q4:d1<n:=by omega
   have q5:a<d:=by omega
   have hkl1:k.l=p++z1'++u::(v::(k.z2++k.q)):=by simp[InsG.l,k1,k2,hz]
   have hv:k.l[d]=v:=get_mid' (p:=p++z1'++[u]) (x:=[v]) (q:=k.z2++k.q) (by rw[hkl1]; simp) (k:=0) (by simp) (by simp; omega) q1
   have hu:k.l[d1]=u:=get_mid' (p:=p++z1') (x:=[u]) (q:=v::(k.z2++k.q)) (by rw[hkl1]; simp) (k:=0) (by simp) (by simp; omega) q2
   have hcc:=hc v u (hkD v (by rw[← hv]; exact List.getElem_mem _)) (hkD u (by rw[← hu]; exact List.getElem_mem _))
   simp[q1,q2,q3,q4,q5,ed,w2,hv,hu]
   intro v' _
   refine XDCall.ret hcc ?_
   by_cases hlt:f v u=.lt
   ·have hs:=rows_swap q1 q2
    have hsw:swapN k.l d d1=(⟨p,z1',v,u::k.z2,k.q⟩ : InsG).l:=by
     rw[hkl1]
     have:=swapN_sym (p++z1') [] (k.z2++k.q) u v (a:=d1) (b:=d) (by simp; omega) (by simp; omega)
     simpa[InsG.l] using this
    rw[hsw,hv,hu] at hs
    have hrow:((k.l.map encObj).set d (cO u))[d1]'(by simpa using q2)=cO u:=by
     rw[List.getElem_set,if_neg (by omega)]
     simp[hu]
    obtain⟨l2,hl2⟩ : ∃ l2,(⟨p,z1',v,u::k.z2,k.q⟩ : InsG).l=l2:=⟨_,rfl⟩
    rw[hl2] at hs
    simp[hlt,ordI,q1,q2,q3,q4,q5,ed,w2,hv,hu,hrow,hs]
    refine fun _ _=>⟨⟨p,z1',v,u::k.z2,k.q⟩,?_,by simp only; omega,by simp[hl2,hd1,leR_refl]⟩
    rw[hJ2]
    refine⟨rfl,rfl,k3,by rw[← k4,hz]; simp,fun y hy=>?_⟩
    rcases List.mem_cons.1 hy with rfl|hy
    ·exact hf.lt_le hlt
    ·exact k5 y hy
   ·have hge:¬ ordI (f v u)<0:=by cases e:f v u<;>simp_all [ordI]
    obtain⟨gg,g1,g2,g3,g4⟩:=hout (srt_ins hf (by rw[k4]; exact j5) (fun y hy=>by
     rw[hz,List.concat_eq_append,List.getLast?_concat] at hy
     simp only[Option.mem_def,Option.some.injEq] at hy
     subst hy
     exact hf.nlt hlt) k5)
    simp[hge]
    exact⟨gg.1,gg.2,g1,g2,by rw[hw,g3]; rfl,by rw[g4]; exact leR_refl _ _⟩
 ·have hy0:g.y=[]:=by
     rcases List.eq_nil_or_concat g.y with h|⟨_,_,h⟩
     ·exact h
     ·have:=j7 (by rw[h]; simp)
      have:0<g.y.length:=by rw[h]; simp
      omega
  simp[h1]
  have hfin:g.l=p++g.z++q:=by simp[Ins1.l,j1,j2,hy0]
  refine⟨rowH gs gv g.l,⟨g.z,by rw[hfin]; simp,by simpa[hy0] using j4,j5⟩,by simp,?_⟩
  intro a1 b1 _
  by_cases hk:a1=gs∧b1=gv<;>simp[hk,leR_refl]
end Go.Proofs.YtfilonnphgnplaaGreatDoor.Pv
set_option maxRecDepth 100000
namespace Go.Proofs.YtfilonnphgnplaaGreatDoor.Pv
open Go Go.Tidy
theorem get_mid {α:Type} {p x q L:List α} (hL:L=p++x++q) {k j:Nat} (hk:k<x.length) (hj:j=p.length+k) (h:j<L.length):L[j]=x[k]:=by
 subst hL; subst hj
 rw[List.getElem_append_left (by simp; omega),List.getElem_append_right (by omega)]
 simp
theorem fd2 (s:Nat):((s:Nat):Int).fdiv 2=((s / 2:Nat):Int):=by
 rw[Int.fdiv_eq_ediv_of_nonneg _ (by omega)]; omega
theorem p2u:(2:Int) ^ min 1 IntKind.u64.bits=2:=by decide
set_option maxHeartbeats 4000000 in
theorem symMerge_l (gs gv:Nat) (fl:Bool) (p:List Ob) (u:Ob) (y q:List Ob) (fid:Nat) {f:Ob→Ob→Ordering} {D:Ob→Prop} (hf:Tot f) (hc:CmpOk fid f D) {L:List Ob} {n a m b:Nat} (hL:L=p++u::(y++q)) (hn:n=L.length) (ha:a=p.length) (hm:m=a+1) (hb:b=m+y.length) (py:0<y.length) (hy:Srt f y) (hD:∀ o∈L,D o) (hl:n≤34359738368) :
 RetK prog M.F_slices_symMergeCmpFunc_Obj [.own (gs,gv) 12 0 n fl,.int .i64 a,.int .i64 m,.int .i64 b,.fn fid [] []] (rowH gs gv L) (fun r h=>r=.tup []∧∃ z,h=rowH gs gv (p++z++q)∧z.Perm (u::y)∧Srt f z):=by
 refine RetK.of hmix h_slices_symMergeCmpFunc_Obj (by simp) fun E hP hV=>?_
 have hgV:=hV (gs,gv) ⟨12,L.map encObj,false,false⟩ (by simp[hk])
 obtain⟨P,w0,F0,nt,G,V,glob⟩:=E
 obtain rfl:P=prog:=hP
 have hlen:n=a+1+y.length+q.length:=by rw[hn,hL]; simp; omega
 have e1:(m:Int)-a=1:=by omega
 have w1:=wrap64 (n:=1) (by omega) (by omega)
 have hu:∀ h:a<L.length,L[a]=u:=fun h=>get_mid (p:=p) (x:=[u]) (q:=y++q) (by rw[hL]; simp) (k:=0) (by simp) (by omega) h
 have hyk:∀ k j (hk:k<y.length) (hj:j<L.length),j=m+k→L[j]=y[k]:=fun k j hk hj e=>get_mid (p:=p++[u]) (x:=y) (q:=q) (by rw[hL]; simp) hk (by simp; omega) hj
 have haL:a<L.length:=by omega
 have hua:=hu haL
 simp[e1,w1]
 obtain⟨J,hJ⟩ : ∃ J:Nat × Nat→Prop,J=fun g=>m≤g.1∧g.1≤g.2∧g.2≤b∧(∀ k (hk:k<y.length),m+k+1=g.1→f y[k] u=.lt)∧(∀ k (hk:k<y.length),m+k=g.2→f y[k] u≠.lt):=⟨_,rfl⟩
 refine XLoop.go hmix (fun (g:Nat × Nat)=>⟨[(10,.int .i64 g.1),(11,.int .i64 g.2),(0,.own (gs,gv) 12 0 n fl),(1,.int .i64 a),(2,.int .i64 m),(3,.int .i64 b),(4,.fn fid [] [])],rowH gs gv L⟩) J (fun g=>g.2-g.1) (m,b) (by rw[hJ]; exact⟨Nat.le_refl _,by simp only; omega,Nat.le_refl _,fun k _ h=>by simp only at h; omega,fun k _ h=>by simp only at h; omega⟩) (by simp[leR_refl]) fun g hj=>?_
 obtain⟨i,j⟩:=g
 have hj' : m≤i∧i≤j∧j≤b∧(∀ k (hk:k<y.length),m+k+1=i→f y[k] u=.lt)∧(∀ k (hk:k<y.length),m+k=j→f y[k] u≠.lt):=by rw[hJ] at hj; exact hj
 clear hj
 obtain⟨j1,j2,j3,j4,j5⟩:=hj'
 by_cases h1:i<j
 ·obtain⟨s,hs⟩ : ∃ s,s=i+j:=⟨_,rfl⟩
  have es:(i:Int)+j=(s:Nat):=by omega
  have w2:=wrap64 (n:=(s:Nat)) (by omega) (by omega)
  have w3:=wrapu64' (n:=(s:Nat)) (by omega) (by omega)
  obtain⟨h,hh⟩ : ∃ h,h=s / 2:=⟨_,rfl⟩
  have ef:=fd2 s
  rw[← hh] at ef
  have w4:=wrapu64' (n:=(h:Nat)) (by omega) (by omega)
  have w5:=wrap64 (n:=(h:Nat)) (by omega) (by omega)
  have w6:=wrap64 (n:=(h:Int)+1) (by omega) (by omega)
  have hhL:h<L.length:=by omega
  obtain⟨k,hk⟩ : ∃ k,h=m+k:=⟨h-m,by omega⟩
  have hky:k<y.length:=by omega
  have hv:=hyk k h hky hhL hk
  have han:a<n:=by omega
  have hhn:h<n:=by omega
  simp[h1,es,w2,w3,p2u,ef,w4,w5]
  refine XCut.go hmix ?_
  simp[hhL,haL,han,hhn,hv,hua]
  intro v _
  refine XDCall.ret (hc _ _ (hD _ (by rw[← hv]; exact List.getElem_mem _)) (hD _ (by rw[← hua]; exact List.getElem_mem _))) ?_
  by_cases hlt:f y[k] u=.lt
  ·simp[hlt,ordI,w6]
   refine⟨h+1,j,?_,by omega,by simp⟩
   rw[hJ]
   refine⟨by simp only; omega,by simp only; omega,j3,fun k' hk' e=>?_,j5⟩
   have:k'=k:=by simp only at e; omega
   subst this; exact hlt
  ·have hge:¬ ordI (f y[k] u)<0:=by cases e:f y[k] u<;>simp_all [ordI]
   simp[hge]
   refine⟨i,h,?_,by omega,by simp⟩
   rw[hJ]
   refine⟨j1,by simp only; omega,by simp only; omega,j4,fun k' hk' e=>?_⟩
   have:k'=k:=by simp only at e; omega
   subst this; exact hlt
 ·obtain rfl:i=j:=by omega
  simp[h1]
  clear hJ J
  obtain⟨t,ht⟩ : ∃ t,i=m+t:=⟨i-m,by omega⟩
  have hty:t≤y.length:=by omega
  obtain⟨W,hW⟩ : ∃ W:Nat→List Ob,∀ k,W k=p++y.take k++u::(y.drop k++q):=⟨fun k=>p++y.take k++u::(y.drop k++q),fun _=>rfl⟩
  have hW0:W 0=L:=by rw[hW,hL]; simp
  obtain⟨c,hcc⟩ : ∃ c,c=a+t:=⟨_,rfl⟩
  have e2:(i:Int)-1=(c:Nat):=by omega
  have w2:=wrap64 (n:=(c:Nat)) (by omega) (by omega)
  refine XLoop.cnt hmix t (fun k (_:Unit)=>⟨[(13,.int .i64 (a+k:Nat)),(10,.int .i64 i),(0,.own (gs,gv) 12 0 n fl),(1,.int .i64 a),(2,.int .i64 m),(3,.int .i64 b),(4,.fn fid [] [])],rowH gs gv (W k)⟩) (fun _ _=>True) () trivial (by simp[hW0,leR_refl]) fun k _ hk _=>?_
  obtain⟨d,hd⟩ : ∃ d,d=a+k:=⟨_,rfl⟩
  rw[← hd]
  by_cases h2:k<t
  ·have h2' : (d:Int)<c:=by omega
   have hky:k<y.length:=by omega
   have hWl:(W k).length=n:=by rw[hW,hlen]; simp; omega
   obtain⟨d1,hd1⟩ : ∃ d1,d1=d+1:=⟨_,rfl⟩
   have e3:(d:Int)+1=(d1:Nat):=by omega
   have w3:=wrap64 (n:=(d1:Nat)) (by omega) (by omega)
   have q1:d<(W k).length:=by omega
   have q2:d1<(W k).length:=by omega
   have q3:d<n:=by omega
   have q4:d1<n:=by omega
   have hs:=rows_swap q1 q2
   have hsw:swapN (W k) d d1=W (k+1):=by
    rw[hW,hW,List.take_succ_eq_append_getElem hky,cons_take hky]
    have:=swapN_at (p++y.take k) [] (y.drop (k+1)++q) u y[k] (a:=d) (b:=d1) (by simp; omega) (by simp; omega)
    simp only[List.append_assoc,List.cons_append,List.nil_append,List.singleton_append] at this ⊢
    exact this
   rw[hsw] at hs
   have hrow:(((W k).map encObj).set d (cO (W k)[d1]))[d1]'(by simpa using q2)=cO (W k)[d1]:=by
    rw[List.getElem_set]; split
    ·rfl
    ·simp
   have hdk:a+(k+1)=d1:=by omega
   obtain⟨l2,hl2⟩ : ∃ l2,W (k+1)=l2:=⟨_,rfl⟩
   rw[hl2] at hs
   generalize W k=l1 at *
   simp[h2,h2',e2,w2,e3,w3,q1,q2,q3,q4,hrow,hs]
   exact fun _ _=>⟨by omega,by rw[hl2]; exact leR_refl _ _⟩
  ·have h2' : ¬ (d:Int)<c:=by omega
   obtain rfl:k=t:=by omega
   simp[h2',e2,w2]
   refine⟨rowH gs gv (W k),⟨y.take k++u::y.drop k,by rw[hW]; simp,?_,srt_cut_l hf hy hty (fun k' hk' e=>j4 k' hk' (by omega)) (fun hk'=>j5 k hk' (by omega))⟩,?_,?_⟩
   ·exact (List.perm_middle (a:=u) (l₁:=y.take k) (l₂:=y.drop k)).trans (by rw[List.take_append_drop])
   ·simp
   ·intro a1 b1 _
    by_cases hk:a1=gs∧b1=gv<;>simp[hk,leR_refl]
set_option maxHeartbeats 4000000 in
theorem symMerge_r (gs gv:Nat) (fl:Bool) (p x:List Ob) (v:Ob) (q:List Ob) (fid:Nat) {f:Ob→Ob→Ordering} {D:Ob→Prop} (hf:Tot f) (hc:CmpOk fid f D) {L:List Ob} {n a m b:Nat} (hL:L=p++x++v::q) (hn:n=L.length) (ha:a=p.length) (hm:m=a+x.length) (hb:b=m+1) (px:1<x.length) (hx:Srt f x) (hD:∀ o∈L,D o) (hl:n≤34359738368) :
 RetK prog M.F_slices_symMergeCmpFunc_Obj [.own (gs,gv) 12 0 n fl,.int .i64 a,.int .i64 m,.int .i64 b,.fn fid [] []] (rowH gs gv L) (fun r h=>r=.tup []∧∃ z,h=rowH gs gv (p++z++q)∧z.Perm (x++[v])∧Srt f z):=by
 refine RetK.of hmix h_slices_symMergeCmpFunc_Obj (by simp) fun E hP hV=>?_
 have hgV:=hV (gs,gv) ⟨12,L.map encObj,false,false⟩ (by simp[hk])
 obtain⟨P,w0,F0,nt,G,V,glob⟩:=E
 obtain rfl:P=prog:=hP
 have hlen:n=a+x.length+1+q.length:=by rw[hn,hL]; simp; omega
 have e0:(m:Int)-a=(x.length:Nat):=by omega
 have w0':=wrap64 (n:=(x.length:Nat)) (by omega) (by omega)
 have n0:¬ (x.length:Int)=1:=by omega
 have e1:(b:Int)-m=1:=by omega
 have w1:=wrap64 (n:=1) (by omega) (by omega)
 have hvm:∀ h:m<L.length,L[m]=v:=fun h=>get_mid (p:=p++x) (x:=[v]) (q:=q) (by rw[hL]; simp) (k:=0) (by simp) (by simp; omega) h
 have hxk:∀ k j (hk:k<x.length) (hj:j<L.length),j=a+k→L[j]=x[k]:=fun k j hk hj e=>get_mid (p:=p) (x:=x) (q:=v::q) (by rw[hL]) hk (by omega) hj
 have hmL:m<L.length:=by omega
 have hva:=hvm hmL
 simp[e0,w0',n0,e1,w1]
 obtain⟨J,hJ⟩ : ∃ J:Nat × Nat→Prop,J=fun g=>a≤g.1∧g.1≤g.2∧g.2≤m∧(∀ k (hk:k<x.length),a+k+1=g.1→f v x[k]≠.lt)∧(∀ k (hk:k<x.length),a+k=g.2→f v x[k]=.lt):=⟨_,rfl⟩
 refine XLoop.go hmix (fun (g:Nat × Nat)=>⟨[(14,.int .i64 g.1),(15,.int .i64 g.2),(0,.own (gs,gv) 12 0 n fl),(1,.int .i64 a),(2,.int .i64 m),(3,.int .i64 b),(4,.fn fid [] [])],rowH gs gv L⟩) J (fun g=>g.2-g.1) (a,m) (by rw[hJ]; exact⟨Nat.le_refl _,by simp only; omega,Nat.le_refl _,fun k _ h=>by simp only at h; omega,fun k _ h=>by simp only at h; omega⟩) (by simp[leR_refl]) fun g hj=>?_
 obtain⟨i,j⟩:=g
 have hj' : a≤i∧i≤j∧j≤m∧(∀ k (hk:k<x.length),a+k+1=i→f v x[k]≠.lt)∧(∀ k (hk:k<x.length),a+k=j→f v x[k]=.lt):=by rw[hJ] at hj; exact hj
 clear hj
 obtain⟨j1,j2,j3,j4,j5⟩:=hj'
 by_cases h1:i<j
 ·obtain⟨s,hs⟩ : ∃ s,s=i+j:=⟨_,rfl⟩
  have es:(i:Int)+j=(s:Nat):=by omega
  have w2:=wrap64 (n:=(s:Nat)) (by omega) (by omega)
  have w3:=wrapu64' (n:=(s:Nat)) (by omega) (by omega)
  obtain⟨h,hh⟩ : ∃ h,h=s / 2:=⟨_,rfl⟩
  have ef:=fd2 s
  rw[← hh] at ef
  have w4:=wrapu64' (n:=(h:Nat)) (by omega) (by omega)
  have w5:=wrap64 (n:=(h:Nat)) (by omega) (by omega)
  have w6:=wrap64 (n:=(h:Int)+1) (by omega) (by omega)
  have hhL:h<L.length:=by omega
  obtain⟨k,hk⟩ : ∃ k,h=a+k:=⟨h-a,by omega⟩
  have hkx:k<x.length:=by omega
  have hv:=hxk k h hkx hhL hk
  have hmn:m<n:=by omega
  have hhn:h<n:=by omega
  simp[h1,es,w2,w3,p2u,ef,w4,w5]
  refine XCut.go hmix ?_
  simp[hhL,hmL,hmn,hhn,hv,hva]
  intro v' _
  refine XDCall.ret (hc _ _ (hD _ (by rw[← hva]; exact List.getElem_mem _)) (hD _ (by rw[← hv]; exact List.getElem_mem _))) ?_
  by_cases hlt:f v x[k]=.lt
  ·simp[hlt,ordI]
   refine⟨i,h,?_,by omega,by simp⟩
   rw[hJ]
   refine⟨j1,by simp only; omega,by simp only; omega,j4,fun k' hk' e=>?_⟩
   have:k'=k:=by simp only at e; omega
   subst this; exact hlt
  ·have hge:¬ ordI (f v x[k])<0:=by cases e:f v x[k]<;>simp_all [ordI]
   simp[hge,w6]
   refine⟨h+1,j,?_,by omega,by simp⟩
   rw[hJ]
   refine⟨by simp only; omega,by simp only; omega,j3,fun k' hk' e=>?_,j5⟩
   have:k'=k:=by simp only at e; omega
   subst this; exact hlt
 ·obtain rfl:i=j:=by omega
  simp[h1]
  clear hJ J
  obtain⟨t,ht⟩ : ∃ t,i=a+t:=⟨i-a,by omega⟩
  have htx:t≤x.length:=by omega
  obtain⟨W,hW⟩ : ∃ W:Nat→List Ob,∀ k,W k=p++x.take k++v::(x.drop k++q):=⟨fun k=>p++x.take k++v::(x.drop k++q),fun _=>rfl⟩
  have hW0:W x.length=L:=by rw[hW,hL]; simp
  refine XLoop.go hmix (fun k=>⟨[(17,.int .i64 (a+k:Nat)),(14,.int .i64 i),(0,.own (gs,gv) 12 0 n fl),(1,.int .i64 a),(2,.int .i64 m),(3,.int .i64 b),(4,.fn fid [] [])],rowH gs gv (W k)⟩) (fun k=>t≤k∧k≤x.length) (fun k=>k) x.length ⟨htx,Nat.le_refl _⟩ (by simp[hW0,leR_refl,hm]) fun k hj=>?_
  obtain⟨k1,k2⟩:=hj
  obtain⟨d,hd⟩ : ∃ d,d=a+k:=⟨_,rfl⟩
  rw[← hd]
  have hWl:(W k).length=n:=by rw[hW,hlen]; simp; omega
  by_cases h2:t<k
  ·obtain⟨k',rfl⟩ : ∃ k',k=k'+1:=⟨k-1,by omega⟩
   have h2' : (i:Int)<d:=by omega
   have hkx:k' < x.length:=by omega
   obtain⟨d1,hd1⟩ : ∃ d1,d1=a+k':=⟨_,rfl⟩
   have e3:(d:Int)-1=(d1:Nat):=by omega
   have w3:=wrap64 (n:=(d1:Nat)) (by omega) (by omega)
   have q1:d<(W (k'+1)).length:=by omega
   have q2:d1<(W (k'+1)).length:=by omega
   have q3:d<n:=by omega
   have q4:d1<n:=by omega
   have hs:=rows_swap q1 q2
   have hsw:swapN (W (k'+1)) d d1=W k':=by
    rw[hW,hW,List.take_succ_eq_append_getElem hkx,cons_take hkx]
    have:=swapN_sym (p++x.take k') [] (x.drop (k'+1)++q) x[k'] v (a:=d1) (b:=d) (by simp; omega) (by simp; omega)
    simp only[List.append_assoc,List.cons_append,List.nil_append,List.singleton_append] at this ⊢
    exact this
   rw[hsw] at hs
   have hrow:(((W (k'+1)).map encObj).set d (cO (W (k'+1))[d1]))[d1]'(by simpa using q2)=cO (W (k'+1))[d1]:=by
    rw[List.getElem_set]; split
    ·rfl
    ·simp
   obtain⟨l2,hl2⟩ : ∃ l2,W k'=l2:=⟨_,rfl⟩
   rw[hl2] at hs
   generalize W (k'+1)=l1 at *
   simp[h2',e3,w3,q1,q2,q3,q4,hrow,hs]
   exact fun _ _=>⟨k',⟨by omega,by omega⟩,by omega,by simp[hl2,hd1,leR_refl]⟩
  ·have h2' : ¬ (i:Int)<d:=by omega
   obtain rfl:k=t:=by omega
   simp[h2']
   refine⟨rowH gs gv (W k),⟨x.take k++v::x.drop k,by rw[hW]; simp,?_,srt_cut_r hf hx htx (fun k' hk' e=>j4 k' hk' (by omega)) (fun hk'=>j5 k hk' (by omega))⟩,?_,?_⟩
   ·refine (List.perm_middle (a:=v) (l₁:=x.take k) (l₂:=x.drop k)).trans ?_
    rw[List.take_append_drop]
    exact (List.perm_append_singleton v x).symm
   ·simp
   ·intro a1 b1 _
    by_cases hk:a1=gs∧b1=gv<;>simp[hk,leR_refl]
end Go.Proofs.YtfilonnphgnplaaGreatDoor.Pv
set_option maxRecDepth 100000
namespace Go.Proofs.YtfilonnphgnplaaGreatDoor.Pv
open Go Go.Tidy
def MergeOk (gs gv fid:Nat) (f:Ob→Ob→Ordering) (D:Ob→Prop) (N:Nat):Prop :=
 ∀ (fl:Bool) (p x y q:List Ob) (L:List Ob) (n a m b:Nat),x.length+y.length≤N→L=p++x++y++q→n=L.length→a=p.length→m=a+x.length→b=m+y.length→0<x.length→0<y.length→Srt f x→Srt f y→(∀ o∈L,D o)→n≤34359738368 →
   RetK prog M.F_slices_symMergeCmpFunc_Obj [.own (gs,gv) 12 0 n fl,.int .i64 a,.int .i64 m,.int .i64 b,.fn fid [] []] (rowH gs gv L) (fun r h=>r=.tup []∧∃ z,h=rowH gs gv (p++z++q)∧z.Perm (x++y)∧Srt f z)
theorem leR_eq {hl:Key→Option HE} {a b:List (List PV)} (h:a=b):leR hl a b:=h ▸ leR_refl hl a
set_option maxHeartbeats 8000000 in
theorem symMerge_step (gs gv fid:Nat) {f:Ob→Ob→Ordering} {D:Ob→Prop} (hf:Tot f) (hc:CmpOk fid f D) (N:Nat) (ih:MergeOk gs gv fid f D N)
 (fl:Bool) (p x y q:List Ob) (L:List Ob) (n a m b:Nat) (hN:x.length+y.length≤N+1) (hL:L=p++x++y++q) (hn:n=L.length) (ha:a=p.length) (hm:m=a+x.length) (hb:b=m+y.length) (px:1<x.length) (py:1<y.length) (hx:Srt f x) (hy:Srt f y) (hD:∀ o∈L,D o) (hl:n≤34359738368) :
 RetK prog M.F_slices_symMergeCmpFunc_Obj [.own (gs,gv) 12 0 n fl,.int .i64 a,.int .i64 m,.int .i64 b,.fn fid [] []] (rowH gs gv L) (fun r h=>r=.tup []∧∃ z,h=rowH gs gv (p++z++q)∧z.Perm (x++y)∧Srt f z):=by
 refine RetK.of hmix h_slices_symMergeCmpFunc_Obj (by simp) fun E hP hV=>?_
 have hgV:=hV (gs,gv) ⟨12,L.map encObj,false,false⟩ (by simp[hk])
 obtain⟨P,w0,F0,nt,G,V,glob⟩:=E
 obtain rfl:P=prog:=hP
 have hlen:n=a+x.length+y.length+q.length:=by rw[hn,hL]; simp; omega
 have e0:(m:Int)-a=(x.length:Nat):=by omega
 have w0':=wrap64 (n:=(x.length:Nat)) (by omega) (by omega)
 have n0:¬ (x.length:Int)=1:=by omega
 have e1:(b:Int)-m=(y.length:Nat):=by omega
 have w1:=wrap64 (n:=(y.length:Nat)) (by omega) (by omega)
 have n1:¬ (y.length:Int)=1:=by omega
 obtain⟨s0,hs0⟩ : ∃ s,s=a+b:=⟨_,rfl⟩
 have es:(a:Int)+b=(s0:Nat):=by omega
 have w2:=wrap64 (n:=(s0:Nat)) (by omega) (by omega)
 have w3:=wrapu64' (n:=(s0:Nat)) (by omega) (by omega)
 obtain⟨mid,hmid⟩ : ∃ h,h=s0 / 2:=⟨_,rfl⟩
 have ef:=fd2 s0
 rw[← hmid] at ef
 have w4:=wrapu64' (n:=(mid:Nat)) (by omega) (by omega)
 have w5:=wrap64 (n:=(mid:Nat)) (by omega) (by omega)
 obtain⟨nn,hnn⟩ : ∃ nn,nn=mid+m:=⟨_,rfl⟩
 have e2:(mid:Int)+m=(nn:Nat):=by omega
 have w6:=wrap64 (n:=(nn:Nat)) (by omega) (by omega)
 obtain⟨lo,hi,hlh⟩ : ∃ lo hi,(mid<m∧lo=nn-b∧hi=mid)∨(m≤mid∧lo=a∧hi=m):=by
  rcases Nat.lt_or_ge mid m with h|h
  ·exact⟨_,_,.inl ⟨h,rfl,rfl⟩⟩
  ·exact⟨_,_,.inr ⟨h,rfl,rfl⟩⟩
 have hxk:∀ k j (hk:k<x.length) (hj:j<L.length),j=a+k→L[j]=x[k]:=fun k j hk hj e=>get_mid (p:=p) (x:=x) (q:=y++q) (by rw[hL]; simp) hk (by omega) hj
 have hyk:∀ k j (hk:k<y.length) (hj:j<L.length),j=m+k→L[j]=y[k]:=fun k j hk hj e=>get_mid (p:=p++x) (x:=y) (q:=q) (by rw[hL]) hk (by simp; omega) hj
 simp[e0,w0',n0,e1,w1,n1,es,w2,w3,p2u,ef,w4,w5,e2,w6]
 refine XCut.one hmix ⟨[(20,.int .i64 lo),(21,.int .i64 hi),(18,.int .i64 mid),(19,.int .i64 nn),(0,.own (gs,gv) 12 0 n fl),(1,.int .i64 a),(2,.int .i64 m),(3,.int .i64 b),(4,.fn fid [] [])],rowH gs gv L⟩ ?_ ?_
 ·rcases hlh with ⟨h1,h2,h3⟩|⟨h1,h2,h3⟩
  ·have h1' : (mid:Int)<m:=by omega
   have e3:(nn:Int)-b=(lo:Nat):=by omega
   have w7:=wrap64 (n:=(lo:Nat)) (by omega) (by omega)
   simp[h1,h1',e3,w7,h3,leR_refl]
  ·have h1' : ¬ (mid:Int)<m:=by omega
   simp[h1',h2,h3,leR_refl]
 have hlo1:a≤lo:=by omega
 have hlh1:lo≤hi:=by omega
 have hhi1:hi≤m:=by omega
 obtain⟨pp,hpp⟩ : ∃ pp,pp=nn-1:=⟨_,rfl⟩
 have e3:(nn:Int)-1=(pp:Nat):=by omega
 have w7:=wrap64 (n:=(pp:Nat)) (by omega) (by omega)
 simp[e3,w7]
 obtain⟨J,hJ⟩ : ∃ J:Nat × Nat→Prop,J=fun g=>lo≤g.1∧g.1≤g.2∧g.2≤hi∧(∀ k jj (hk:k<x.length) (hj:jj<y.length),a+k+1=g.1→lo<g.1→m+jj+g.1=nn→f y[jj] x[k]≠.lt)∧(∀ k jj (hk:k<x.length) (hj:jj<y.length),a+k=g.2→g.2<hi→m+jj+g.2+1=nn→f y[jj] x[k]=.lt):=⟨_,rfl⟩
 refine XLoop.go hmix (fun (g:Nat × Nat)=>⟨[(20,.int .i64 g.1),(21,.int .i64 g.2),(22,.int .i64 pp),(18,.int .i64 mid),(19,.int .i64 nn),(0,.own (gs,gv) 12 0 n fl),(1,.int .i64 a),(2,.int .i64 m),(3,.int .i64 b),(4,.fn fid [] [])],rowH gs gv L⟩) J (fun g=>g.2-g.1) (lo,hi) (by rw[hJ]; exact⟨Nat.le_refl _,hlh1,Nat.le_refl _,fun _ _ _ _ _ h=>absurd h (Nat.lt_irrefl _),fun _ _ _ _ _ h=>absurd h (Nat.lt_irrefl _)⟩) (by simp[leR_refl]) fun g hj=>?_
 obtain⟨i,j⟩:=g
 have hj' : lo≤i∧i≤j∧j≤hi∧(∀ k jj (hk:k<x.length) (hj:jj<y.length),a+k+1=i→lo<i→m+jj+i=nn→f y[jj] x[k]≠.lt)∧(∀ k jj (hk:k<x.length) (hj:jj<y.length),a+k=j→j<hi→m+jj+j+1=nn→f y[jj] x[k]=.lt):=by rw[hJ] at hj; exact hj
 clear hj
 obtain⟨j1,j2,j3,j4,j5⟩:=hj'
 by_cases h1:i<j
 ·obtain⟨s,hs⟩ : ∃ s,s=i+j:=⟨_,rfl⟩
  have es' : (i:Int)+j=(s:Nat):=by omega
  have v2:=wrap64 (n:=(s:Nat)) (by omega) (by omega)
  have v3:=wrapu64' (n:=(s:Nat)) (by omega) (by omega)
  obtain⟨h,hh⟩ : ∃ h,h=s / 2:=⟨_,rfl⟩
  have ef':=fd2 s
  rw[← hh] at ef'
  have v4:=wrapu64' (n:=(h:Nat)) (by omega) (by omega)
  have v5:=wrap64 (n:=(h:Nat)) (by omega) (by omega)
  have v6:=wrap64 (n:=(h:Int)+1) (by omega) (by omega)
  obtain⟨t,ht⟩ : ∃ t,t=pp-h:=⟨_,rfl⟩
  have e4:(pp:Int)-h=(t:Nat):=by omega
  have v7:=wrap64 (n:=(t:Nat)) (by omega) (by omega)
  obtain⟨k,hk⟩ : ∃ k,h=a+k:=⟨h-a,by omega⟩
  obtain⟨kk,hkk⟩ : ∃ kk,t=m+kk:=⟨t-m,by omega⟩
  have hkx:k<x.length:=by omega
  have hky:kk<y.length:=by omega
  have hhL:h<L.length:=by omega
  have htL:t<L.length:=by omega
  have hhn:h<n:=by omega
  have htn:t<n:=by omega
  have hv:=hxk k h hkx hhL hk
  have hu:=hyk kk t hky htL hkk
  simp[h1,es',v2,v3,p2u,ef',v4,v5]
  refine XCut.go hmix ?_
  simp[hhL,htL,hhn,htn,hv,hu,e4,v7]
  intro v' _
  refine XDCall.ret (hc _ _ (hD _ (by rw[← hu]; exact List.getElem_mem _)) (hD _ (by rw[← hv]; exact List.getElem_mem _))) ?_
  by_cases hlt:f y[kk] x[k]=.lt
  ·simp[hlt,ordI]
   refine⟨i,h,?_,by omega,by simp⟩
   rw[hJ]
   refine⟨j1,by simp only; omega,by simp only; omega,j4,fun k' jj hk' hj' c1 c2 c3=>?_⟩
   simp only at c1 c2 c3
   obtain rfl:k'=k:=by omega
   obtain rfl:jj=kk:=by omega
   exact hlt
  ·have hge:¬ ordI (f y[kk] x[k])<0:=by cases e:f y[kk] x[k]<;>simp_all [ordI]
   simp[hge,v6]
   refine⟨h+1,j,?_,by omega,by simp⟩
   rw[hJ]
   refine⟨by simp only; omega,by simp only; omega,j3,fun k' jj hk' hj' c1 c2 c3=>?_,j5⟩
   simp only at c1 c2 c3
   obtain rfl:k'=k:=by omega
   obtain rfl:jj=kk:=by omega
   exact hlt
 ·obtain rfl:i=j:=by omega
  obtain⟨en,hen⟩ : ∃ en,en=nn-i:=⟨_,rfl⟩
  have e4:(nn:Int)-i=(en:Nat):=by omega
  have v4:=wrap64 (n:=(en:Nat)) (by omega) (by omega)
  have hem:m≤en:=by omega
  have heb:en≤b:=by omega
  obtain⟨x1,x2,hx12,hx1⟩ : ∃ x1 x2,x=x1++x2∧x1=x.take (i-a):=⟨_,_,(List.take_append_drop (i-a) x).symm,rfl⟩
  obtain⟨y1,y2,hy12,hy1⟩ : ∃ y1 y2,y=y1++y2∧y1=y.take (en-m):=⟨_,_,(List.take_append_drop (en-m) y).symm,rfl⟩
  have hx1l:x1.length=i-a:=by rw[hx1]; simp; omega
  have hy1l:y1.length=en-m:=by rw[hy1]; simp; omega
  have hx2:x2=x.drop (i-a):=by rw[hx12,List.drop_left' hx1l]
  have hy2:y2=y.drop (en-m):=by rw[hy12,List.drop_left' hy1l]
  have hxl:x.length=x1.length+x2.length:=by rw[hx12]; simp
  have hyl:y.length=y1.length+y2.length:=by rw[hy12]; simp
  have hcross:=srt_cross (i:=i-a) (j:=en-m) hf hx hy (by omega) (by omega) (fun k hk hj' e=>j4 k (en-m) hk hj' (by omega) (by omega) (by omega)) (fun k hk hi' e=>j5 (i-a) k hi' hk (by omega) (by omega) (by omega))
  rw[← hx1,← hy1,← hx2,← hy2] at hcross
  have sx1:Srt f x1:=by rw[hx1]; exact srt_take hx _
  have sx2:Srt f x2:=by rw[hx2]; exact srt_drop hx _
  have sy1:Srt f y1:=by rw[hy1]; exact srt_take hy _
  have sy2:Srt f y2:=by rw[hy2]; exact srt_drop hy _
  clear j4 j5 hx1 hy1 hx2 hy2
  obtain⟨L2,hL2⟩ : ∃ L2,L2=p++x1++y1++(x2++y2++q):=⟨_,rfl⟩
  have hL2l:L2.length=n:=by rw[hL2,hlen]; simp; omega
  have hpm:L2.Perm L:=by
   rw[hL2,hL,hx12,hy12]
   simp only[List.append_assoc]
   exact List.Perm.append_left p (List.Perm.append_left x1 (List.perm_append_comm_assoc _ _ _))
  have hD2:∀ o∈L2,D o:=fun o ho=>hD o (hpm.mem_iff.1 ho)
  simp[h1,e4,v4]
  refine XCut.one hmix ⟨[(20,.int .i64 i),(24,.int .i64 en),(18,.int .i64 mid),(0,.own (gs,gv) 12 0 n fl),(1,.int .i64 a),(2,.int .i64 m),(3,.int .i64 b),(4,.fn fid [] [])],rowH gs gv L2⟩ ?_ ?_
  ·by_cases g1:i<m
   ·by_cases g2:m<en
    ·have c1:=c_rotate gs gv fl (p++x1) x2 y1 (y2++q) fid (L:=L) (n:=n) (a:=i) (m:=m) (b:=en) (by rw[hL,hx12,hy12]; simp) hn (by simp; omega) (by simp; omega) (by simp; omega) (by omega) (by omega) hl
     simp[g1,g2]
     refine XCall.retK c1 ?_
     rintro r h' ⟨rfl,rfl⟩
     have:p++x1++y1++x2++(y2++q)=L2:=by rw[hL2]; simp
     rw[this]
     simp[leR_refl]
    ·have:y1=[]:=List.length_eq_zero_iff.1 (by omega)
     have:L=L2:=by rw[hL2,hL,hx12,hy12,this]; simp
     simp[g1,g2,this,leR_refl]
   ·have:x2=[]:=List.length_eq_zero_iff.1 (by omega)
    have:L=L2:=by rw[hL2,hL,hx12,hy12,this]; simp
    simp[g1,this,leR_refl]
  simp
  refine XCut.many hmix (fun z1=>⟨[(24,.int .i64 en),(18,.int .i64 mid),(0,.own (gs,gv) 12 0 n fl),(1,.int .i64 a),(2,.int .i64 m),(3,.int .i64 b),(4,.fn fid [] [])],rowH gs gv (p++z1++(x2++y2++q))⟩) (fun z1=>z1.Perm (x1++y1)∧Srt f z1) ?_ ?_
  ·have hno:(x1=[]∨y1=[])→Srt f (x1++y1):=fun h=>by
      rcases h with h|h
      ·rw[h]; simpa using sy1
      ·rw[h]; simpa using sx1
   by_cases g1:a<i
   ·by_cases g2:i<mid
    ·have c1:=ih fl p x1 y1 (x2++y2++q) L2 n a i mid (by omega) hL2 hL2l.symm ha (by omega) (by omega) (by omega) (by omega) sx1 sy1 hD2 hl
     simp[g1,g2]
     refine XCall.retK c1 ?_
     rintro r h' ⟨rfl,z1,rfl,hz1,hz2⟩
     generalize hZ:p++z1++(x2++y2++q)=Z
     simp
     exact⟨z1,⟨hz1,hz2⟩,leR_eq (by rw[← hZ]; simp)⟩
    ·have:y1=[]:=List.length_eq_zero_iff.1 (by omega)
     simp[g1,g2]
     exact⟨x1++y1,⟨List.Perm.refl _,hno (.inr this)⟩,leR_eq (by rw[hL2]; simp)⟩
   ·have:x1=[]:=List.length_eq_zero_iff.1 (by omega)
    simp[g1]
    exact⟨x1++y1,⟨List.Perm.refl _,hno (.inl this)⟩,leR_eq (by rw[hL2]; simp)⟩
  rintro z1 ⟨hz1,hz2⟩
  have hz1l:z1.length=x1.length+y1.length:=by rw[hz1.length_eq]; simp
  obtain⟨L3,hL3⟩ : ∃ L3,L3=(p++z1)++x2++y2++q:=⟨_,rfl⟩
  have hL3e:p++z1++(x2++y2++q)=L3:=by rw[hL3]; simp
  have hL3l:L3.length=n:=by rw[hL3,hlen]; simp; omega
  have hpm3:L3.Perm L2:=by
   rw[← hL3e,hL2]
   simp only[List.append_assoc]
   refine List.Perm.append_left p ?_
   rw[← List.append_assoc x1]
   exact List.Perm.append_right _ hz1
  have hD3:∀ o∈L3,D o:=fun o ho=>hD2 o (hpm3.mem_iff.1 ho)
  have hperm:∀ z2:List Ob,z2.Perm (x2++y2)→(z1++z2).Perm (x++y):=fun z2 h=>by
   refine (List.Perm.append hz1 h).trans ?_
   rw[hx12,hy12]
   simp only[List.append_assoc]
   refine List.Perm.append_left x1 ?_
   rw[← List.append_assoc,← List.append_assoc]
   exact List.Perm.append_right _ List.perm_append_comm
  rw[hL3e]
  simp
  refine XCut.many hmix (fun z2=>⟨[],rowH gs gv (p++(z1++z2)++q)⟩) (fun z2=>z2.Perm (x2++y2)∧Srt f z2) ?_ ?_
  ·have hno:(x2=[]∨y2=[])→Srt f (x2++y2):=fun h=>by
      rcases h with h|h
      ·rw[h]; simpa using sy2
      ·rw[h]; simpa using sx2
   by_cases g1:mid<en
   ·by_cases g2:en<b
    ·have c1:=ih fl (p++z1) x2 y2 q L3 n mid en b (by omega) hL3 hL3l.symm (by simp; omega) (by omega) (by omega) (by omega) (by omega) sx2 sy2 hD3 hl
     simp[g1,g2]
     refine XCall.retK c1 ?_
     rintro r h' ⟨rfl,z2,rfl,hz3,hz4⟩
     generalize hZ:p++z1++z2++q=Z
     simp
     exact⟨z2,⟨hz3,hz4⟩,leR_eq (by rw[← hZ]; simp)⟩
    ·have:y2=[]:=List.length_eq_zero_iff.1 (by omega)
     simp[g1,g2]
     exact⟨x2++y2,⟨List.Perm.refl _,hno (.inr this)⟩,leR_eq (by rw[hL3]; simp)⟩
   ·have:x2=[]:=List.length_eq_zero_iff.1 (by omega)
    simp[g1]
    exact⟨x2++y2,⟨List.Perm.refl _,hno (.inl this)⟩,leR_eq (by rw[hL3]; simp)⟩
  rintro z2 ⟨hz3,hz4⟩
  generalize hZ:p++(z1++z2)++q=Z
  simp
  refine⟨rowH gs gv Z,⟨z1++z2,by rw[← hZ]; simp,hperm z2 hz3,srt_both hz2 hz4 hz1 hz3 hcross⟩,by simp,?_⟩
  intro a1 b1 _
  by_cases hk:a1=gs∧b1=gv<;>simp[hk,leR_refl]
theorem c_symMerge (gs gv fid:Nat) {f:Ob→Ob→Ordering} {D:Ob→Prop} (hf:Tot f) (hc:CmpOk fid f D):∀ N,MergeOk gs gv fid f D N
 | 0=>fun fl p x y q L n a m b hN _ _ _ _ _ px=>by omega
 | N+1=>fun fl p x y q L n a m b hN hL hn ha hm hb px py hx hy hD hl=>by
   by_cases h1:x.length=1
   ·obtain⟨u,rfl⟩:=List.length_eq_one_iff.1 h1
    have:=symMerge_l gs gv fl p u y q fid hf hc (L:=L) (n:=n) (a:=a) (m:=m) (b:=b) (by rw[hL]; simp) hn ha (by simpa using hm) hb py hy hD hl
    simpa using this
   ·by_cases h2:y.length=1
    ·obtain⟨v,rfl⟩:=List.length_eq_one_iff.1 h2
     exact symMerge_r gs gv fl p x v q fid hf hc (L:=L) (n:=n) (a:=a) (m:=m) (b:=b) (by rw[hL]; simp) hn ha hm (by simpa using hb) (by omega) hx hD hl
    ·exact symMerge_step gs gv fid hf hc N (c_symMerge gs gv fid hf hc N) fl p x y q L n a m b hN hL hn ha hm hb (by omega) (by omega) hx hy hD hl
end Go.Proofs.YtfilonnphgnplaaGreatDoor.Pv
set_option maxRecDepth 100000
namespace Go.Proofs.YtfilonnphgnplaaGreatDoor.Pv
open Go Go.Tidy
structure StbG where
 D:List (List Ob)
 E:List (List Ob)
 r:List Ob
def StbG.l (g:StbG):List Ob:=g.D.flatten++g.E.flatten++g.r
def Chk (f:Ob→Ob→Ordering) (bs:Nat) (D:List (List Ob)):Prop:=∀ d∈D,d.length=bs∧Srt f d
theorem chk_snoc {f:Ob→Ob→Ordering} {bs:Nat} {D:List (List Ob)} {z:List Ob} (h:Chk f bs D) (h1:z.length=bs) (h2:Srt f z):Chk f bs (D++[z]):=fun d hd=>by
 rcases List.mem_append.1 hd with hd|hd
 ·exact h d hd
 ·rw[List.mem_singleton.1 hd]; exact⟨h1,h2⟩
set_option maxHeartbeats 8000000 in
theorem c_stable (gs gv:Nat) (fl:Bool) (fid:Nat) {f:Ob→Ob→Ordering} {D:Ob→Prop} (hf:Tot f) (hc:CmpOk fid f D) (L:List Ob) (hD:∀ o∈L,D o) (hl:L.length≤34359738368) :
 RetK prog M.F_slices_stableCmpFunc_Obj [.own (gs,gv) 12 0 L.length fl,.int .i64 L.length,.fn fid [] []] (rowH gs gv L) (fun r h=>r=.tup []∧∃ l',h=rowH gs gv l'∧l'.Perm L∧Srt f l'):=by
 refine RetK.of hmix h_slices_stableCmpFunc_Obj (by simp) fun E hP hV=>?_
 have hgV:=hV (gs,gv) ⟨12,L.map encObj,false,false⟩ (by simp[hk])
 obtain⟨P,w0,F0,nt,G,V,glob⟩:=E
 obtain rfl:P=prog:=hP
 obtain⟨n,hn⟩ : ∃ n,n=L.length:=⟨_,rfl⟩
 rw[← hn] at hl ⊢
 simp
 obtain⟨J,hJ⟩ : ∃ J:StbG→Prop,J=fun g=>Chk f 20 g.D∧g.E=[]∧g.l.Perm L:=⟨_,rfl⟩
 refine XLoop.go hmix (fun (g:StbG)=>⟨[(6,.int .i64 20),(7,.int .i64 g.D.flatten.length),(8,.int .i64 (g.D.flatten.length+20:Nat)),(0,.own (gs,gv) 12 0 n fl),(1,.int .i64 n),(2,.fn fid [] [])],rowH gs gv g.l⟩) J (fun g=>g.r.length) ⟨[],[],L⟩ (by rw[hJ]; exact⟨fun d hd=>by simp at hd,rfl,by simp[StbG.l]⟩) (by simp[StbG.l,leR_refl]) fun g hj=>?_
 have hj' : Chk f 20 g.D∧g.E=[]∧g.l.Perm L:=by rw[hJ] at hj; exact hj
 clear hj
 obtain⟨j1,j2,j3⟩:=hj'
 have hgl:g.l=g.D.flatten++g.r:=by simp[StbG.l,j2]
 obtain⟨A,hA⟩ : ∃ A,A=g.D.flatten.length:=⟨_,rfl⟩
 have hAn:A+g.r.length=n:=by rw[hn,← j3.length_eq,hgl,List.length_append,hA]
 have hgD:∀ o∈g.l,D o:=fun o ho=>hD o (j3.mem_iff.1 ho)
 have hgn:n=g.l.length:=by rw[j3.length_eq]; exact hn
 obtain⟨A2,hA2⟩ : ∃ A2,A2=A+20:=⟨_,rfl⟩
 rw[← hA,← hA2]
 by_cases h1:A2≤n
 ·obtain⟨x,q,hxq,hxl⟩ : ∃ x q,g.r=x++q∧x.length=20:=⟨g.r.take 20,g.r.drop 20,(List.take_append_drop _ _).symm,by simp; omega⟩
  have hrl:g.r.length=20+q.length:=by rw[hxq]; simp[hxl]
  have c1:=c_insertion gs gv fl g.D.flatten x q fid hf hc (L:=g.l) (n:=n) (a:=A) (b:=A2) (by rw[hgl,hxq]; simp) hgn hA (by omega) hgD hl
  have w1:=wrap64 (n:=(A2:Int)+20) (by omega) (by omega)
  simp[h1]
  refine XCall.retK c1 ?_
  rintro r h' ⟨rfl,z,rfl,hz1,hz2⟩
  have hzl:z.length=20:=by rw[hz1.length_eq]; exact hxl
  have hl2:(⟨g.D++[z],[],q⟩ : StbG).l=g.D.flatten++z++q:=by simp[StbG.l]
  have hfl:(g.D++[z]).flatten.length=A2:=by rw[List.flatten_append,List.length_append,← hA]; simp; omega
  generalize hZ:g.D.flatten++z++q=Z at *
  simp[w1]
  refine⟨⟨g.D++[z],[],q⟩,?_,by simp only; omega,?_⟩
  ·rw[hJ]
   refine⟨chk_snoc j1 hzl hz2,rfl,?_⟩
   rw[hl2,← hZ]
   refine List.Perm.trans ?_ j3
   rw[hgl,hxq,List.append_assoc]
   exact List.Perm.append_left _ (List.Perm.append_right _ hz1)
  ·simp only[hfl,hl2]
   simp[leR_refl]
   simp at hfl
   omega
 ·have c1:=c_insertion gs gv fl g.D.flatten g.r [] fid hf hc (L:=g.l) (n:=n) (a:=A) (b:=n) (by rw[hgl]; simp) hgn hA (by omega) hgD hl
  simp[h1]
  refine XCall.retK c1 ?_
  rintro r h' ⟨rfl,z,rfl,hz1,hz2⟩
  have hzl:z.length=g.r.length:=hz1.length_eq
  have hp0:(g.D.flatten++z).Perm L:=by
   refine List.Perm.trans ?_ j3
   rw[hgl]
   exact List.Perm.append_left _ hz1
  rw[List.append_nil]
  clear hJ J
  obtain⟨J,hJ⟩ : ∃ J:Nat × StbG→Prop,J=fun g=>0<g.1∧g.1≤2*n+20∧Chk f g.1 g.2.D∧g.2.E=[]∧g.2.r.length<g.1∧Srt f g.2.r∧g.2.l.Perm L:=⟨_,rfl⟩
  have hst:(⟨g.D,[],z⟩ : StbG).l=g.D.flatten++z:=by simp[StbG.l]
  generalize hZ:g.D.flatten++z=Z at *
  simp
  refine XLoop.go hmix (fun (g:Nat × StbG)=>⟨[(6,.int .i64 g.1),(0,.own (gs,gv) 12 0 n fl),(1,.int .i64 n),(2,.fn fid [] [])],rowH gs gv g.2.l⟩) J (fun g=>n-g.1) (20,⟨g.D,[],z⟩) (by rw[hJ]; exact⟨by simp,by simp only; omega,j1,rfl,by simp only; omega,hz2,by simp only[hst]; exact hp0⟩) (by simp only[hst]; simp[leR_refl]) fun G hj=>?_
  clear hZ hst hp0 hz1 hz2 hzl c1 h1 hA2 hAn hA hgl j1 j2 j3 hgD hgn
  clear A2 A Z z g
  obtain⟨bs,g⟩:=G
  have hj' : 0<bs∧bs≤2*n+20∧Chk f bs g.D∧g.E=[]∧g.r.length<bs∧Srt f g.r∧g.l.Perm L:=by rw[hJ] at hj; exact hj
  clear hj
  obtain⟨j0,j00,j1,j2,j3,j4,j5⟩:=hj'
  have hgl:g.l=g.D.flatten++g.r:=by simp[StbG.l,j2]
  have hgn:n=g.l.length:=by rw[j5.length_eq]; exact hn
  have hlen:g.D.flatten.length+g.r.length=n:=by rw[hgn,hgl,List.length_append]
  by_cases h1:bs<n
  ·obtain⟨b2,hb2⟩ : ∃ b2,b2=2*bs:=⟨_,rfl⟩
   have e2:(2:Int)*bs=(b2:Nat):=by omega
   have e2' : (bs:Int)*2=(b2:Nat):=by omega
   have w2:=wrap64 (n:=(b2:Nat)) (by omega) (by omega)
   simp[h1,e2,w2]
   obtain⟨J2,hJ2⟩ : ∃ J2:StbG→Prop,J2=fun k=>Chk f b2 k.D∧Chk f bs k.E∧k.r=g.r∧k.l.Perm L:=⟨_,rfl⟩
   have hst:(⟨[],g.D,g.r⟩ : StbG).l=g.l:=by rw[hgl]; simp[StbG.l]
   refine XLoop.go hmix (fun (k:StbG)=>⟨[(6,.int .i64 bs),(7,.int .i64 k.D.flatten.length),(8,.int .i64 (k.D.flatten.length+b2:Nat)),(0,.own (gs,gv) 12 0 n fl),(1,.int .i64 n),(2,.fn fid [] [])],rowH gs gv k.l⟩) J2 (fun k=>k.E.length) ⟨[],g.D,g.r⟩ (by rw[hJ2]; exact⟨fun d hd=>by simp at hd,j1,rfl,by rw[hst]; exact j5⟩) (by simp only[hst]; simp[leR_refl]) fun k hj=>?_
   have hj' : Chk f b2 k.D∧Chk f bs k.E∧k.r=g.r∧k.l.Perm L:=by rw[hJ2] at hj; exact hj
   clear hj
   obtain⟨k1,k2,k3,k4⟩:=hj'
   have hkD:∀ o∈k.l,D o:=fun o ho=>hD o (k4.mem_iff.1 ho)
   have hkn:n=k.l.length:=by rw[k4.length_eq]; exact hn
   obtain⟨A,hA⟩ : ∃ A,A=k.D.flatten.length:=⟨_,rfl⟩
   have hkl:A+k.E.flatten.length+g.r.length=n:=by rw[hkn,← k3,hA]; simp[StbG.l]; omega
   obtain⟨A2,hA2⟩ : ∃ A2,A2=A+b2:=⟨_,rfl⟩
   rw[← hA,← hA2]
   match hE:k.E with
   | d1::d2::E' =>
     rw[hE] at hkl k2
     have q1:=k2 d1 (by simp)
     have q2:=k2 d2 (by simp)
     have hkl' : A+bs+bs+E'.flatten.length+g.r.length=n:=by
      rw[← hkl]; simp[q1.1,q2.1]; omega
     have h2:A2≤n:=by omega
     obtain⟨m,hm⟩ : ∃ m,m=A+bs:=⟨_,rfl⟩
     have em:(A:Int)+bs=(m:Nat):=by omega
     have wm:=wrap64 (n:=(m:Nat)) (by omega) (by omega)
     have w4:=wrap64 (n:=(A2:Int)+b2) (by omega) (by omega)
     have hkl2:k.l=k.D.flatten++d1++d2++(E'.flatten++g.r):=by simp[StbG.l,hE,k3]
     have c1:=c_symMerge gs gv fid hf hc (d1.length+d2.length) fl k.D.flatten d1 d2 (E'.flatten++g.r) k.l n A m A2 (Nat.le_refl _) hkl2 hkn hA (by omega) (by omega) (by omega) (by omega) q1.2 q2.2 hkD hl
     simp[h2,em,wm,e2,w2]
     refine XCall.retK c1 ?_
     rintro r h' ⟨rfl,z,rfl,hz1,hz2⟩
     have hzl:z.length=b2:=by rw[hz1.length_eq,List.length_append]; omega
     have hl2:(⟨k.D++[z],E',g.r⟩ : StbG).l=k.D.flatten++z++(E'.flatten++g.r):=by simp[StbG.l]
     have hfl:(k.D++[z]).flatten.length=A2:=by rw[List.flatten_append,List.length_append,← hA]; simp; omega
     generalize hZ:k.D.flatten++z++(E'.flatten++g.r)=Z at *
     simp[w4,e2,w2]
     refine⟨⟨k.D++[z],E',g.r⟩,?_,by simp only[hE,List.length_cons]; omega,?_⟩
     ·rw[hJ2]
      refine⟨chk_snoc k1 hzl hz2,fun d hd=>k2 d (by simp[hd]),rfl,?_⟩
      rw[hl2,← hZ]
      refine List.Perm.trans ?_ k4
      rw[hkl2]
      simp only[List.append_assoc]
      refine List.Perm.append_left _ ?_
      rw[← List.append_assoc d1]
      exact List.Perm.append_right _ hz1
     ·simp only[hfl,hl2]
      simp[leR_refl]
      simp at hfl
      omega
   | [d] =>
     rw[hE] at hkl k2
     have q1:=k2 d (by simp)
     have hkl' : A+bs+g.r.length=n:=by rw[← hkl]; simp[q1.1]
     have h2:¬ A2≤n:=by omega
     obtain⟨m,hm⟩ : ∃ m,m=A+bs:=⟨_,rfl⟩
     have em:(A:Int)+bs=(m:Nat):=by omega
     have wm:=wrap64 (n:=(m:Nat)) (by omega) (by omega)
     have hkl2:k.l=k.D.flatten++d++g.r++[]:=by simp[StbG.l,hE,k3]
     simp[h2,em,wm]
     refine XCut.many hmix (fun r2=>⟨[(6,.int .i64 bs),(0,.own (gs,gv) 12 0 n fl),(1,.int .i64 n),(2,.fn fid [] [])],rowH gs gv (k.D.flatten++r2)⟩) (fun r2:List Ob=>r2.length<b2∧Srt f r2∧(k.D.flatten++r2).Perm L) ?_ ?_
     ·by_cases h3:m<n
      ·have c1:=c_symMerge gs gv fid hf hc (d.length+g.r.length) fl k.D.flatten d g.r [] k.l n A m n (Nat.le_refl _) hkl2 hkn hA (by omega) (by omega) (by omega) (by omega) q1.2 j4 hkD hl
       simp[h3]
       refine XCall.retK c1 ?_
       rintro r h' ⟨rfl,z,rfl,hz1,hz2⟩
       have hzl:z.length=bs+g.r.length:=by rw[hz1.length_eq,List.length_append,q1.1]
       have hzp:(k.D.flatten++z).Perm L:=by
        refine List.Perm.trans ?_ k4
        rw[hkl2,List.append_nil,List.append_assoc]
        exact List.Perm.append_left _ hz1
       generalize hZ:k.D.flatten++z++[]=Z
       simp
       exact⟨z,⟨by omega,hz2,hzp⟩,leR_eq (by rw[← hZ]; simp)⟩
      ·have hr0:g.r=[]:=List.length_eq_zero_iff.1 (by omega)
       have hkl3:k.l=k.D.flatten++d:=by rw[hkl2,hr0]; simp
       simp[h3]
       exact⟨d,⟨by omega,q1.2,by rw[← hkl3]; exact k4⟩,leR_eq (by rw[hkl3]; simp)⟩
     ·rintro r2 ⟨r1,r3,r4⟩
      have hst:(⟨k.D,[],r2⟩ : StbG).l=k.D.flatten++r2:=by simp[StbG.l]
      rw[← hst] at r4 ⊢
      generalize hZ:(⟨k.D,[],r2⟩ : StbG).l=Z at *
      simp[e2',w2]
      refine⟨b2,⟨k.D,[],r2⟩,?_,by omega,rfl,leR_eq (by rw[hZ])⟩
      rw[hJ]
      exact⟨by simp only; omega,by simp only; omega,k1,rfl,r1,r3,by simp only[hZ]; exact r4⟩
   | [] =>
     rw[hE] at hkl k2
     have hkl' : A+g.r.length=n:=by rw[← hkl]; simp
     have h2:¬ A2≤n:=by omega
     obtain⟨m,hm⟩ : ∃ m,m=A+bs:=⟨_,rfl⟩
     have em:(A:Int)+bs=(m:Nat):=by omega
     have wm:=wrap64 (n:=(m:Nat)) (by omega) (by omega)
     have h3:¬ m<n:=by omega
     have hst:(⟨k.D,[],g.r⟩ : StbG).l=k.l:=by simp[StbG.l,hE,k3]
     simp[h2,em,wm]
     refine XCut.one hmix ⟨[(6,.int .i64 bs),(0,.own (gs,gv) 12 0 n fl),(1,.int .i64 n),(2,.fn fid [] [])],rowH gs gv k.l⟩ (by simp[h3,leR_refl]) ?_
     simp[e2',w2]
     refine⟨b2,⟨k.D,[],g.r⟩,?_,by omega,rfl,leR_eq (by rw[hst])⟩
     rw[hJ]
     exact⟨by simp only; omega,by simp only; omega,k1,rfl,by simp only; omega,j4,by simp only[hst]; exact k4⟩
  ·have hsrt:Srt f g.l:=by
      rw[hgl]
      match hDD:g.D with
      | []=>simpa using j4
      | [d] =>
        rw[hDD] at hlen j1
        have q1:=j1 d (by simp)
        have:g.r=[]:=List.length_eq_zero_iff.1 (by simp[q1.1] at hlen; omega)
        rw[this]; simpa using q1.2
      | d1::d2::E' =>
        rw[hDD] at hlen j1
        have q1:=j1 d1 (by simp)
        have q2:=j1 d2 (by simp)
        simp[q1.1,q2.1] at hlen
        omega
   simp[h1]
   refine⟨rowH gs gv g.l,⟨g.l,rfl,j5,hsrt⟩,by simp,?_⟩
   intro a1 b1 _
   by_cases hk:a1=gs∧b1=gv<;>simp[hk,leR_refl]
set_option maxHeartbeats 4000000 in
theorem c_SortStable (gs gv:Nat) (fl:Bool) (fid:Nat) {f:Ob→Ob→Ordering} {D:Ob→Prop} (hf:Tot f) (hc:CmpOk fid f D) (L:List Ob) (hD:∀ o∈L,D o) (hl:L.length≤34359738368) :
 RetK prog M.F_slices_SortStableFunc_Obj [.own (gs,gv) 12 0 L.length fl,.fn fid [] []] (rowH gs gv L) (fun r h=>r=.tup []∧∃ l',h=rowH gs gv l'∧l'.Perm L∧Srt f l'):=by
 refine RetK.of hmix h_slices_SortStableFunc_Obj (by simp) fun E hP hV=>?_
 have hgV:=hV (gs,gv) ⟨12,L.map encObj,false,false⟩ (by simp[hk])
 obtain⟨P,w0,F0,nt,G,V,glob⟩:=E
 obtain rfl:P=prog:=hP
 have c1:=c_stable gs gv fl fid hf hc L hD hl
 simp
 refine XCall.retK c1 ?_
 rintro r h' ⟨rfl,l',rfl,h1,h2⟩
 simp
 refine⟨rowH gs gv l',⟨l',rfl,h1,h2⟩,by simp,?_⟩
 intro a1 b1 _
 by_cases hk:a1=gs∧b1=gv<;>simp[hk,leR_refl]
end Go.Proofs.YtfilonnphgnplaaGreatDoor.Pv
set_option maxRecDepth 100000
namespace Go.Proofs.YtfilonnphgnplaaGreatDoor.Pv
open Go Go.Tidy
def EqOk (fid:Nat) (e:Ob→Ob→Bool) (D:Ob→Prop):Prop:=∀ a b,D a→D b→Ret prog fid [.agg (cO a),.agg (cO b)] (.bool (e a b))
theorem drop_get {α:Type} {W L:List α} {i j:Nat} (h:W.drop i=L.drop i) (hij:i≤j) (h1:j<W.length) (h2:j<L.length):W[j]=L[j]:=by
 have e1:W[j]=(W.drop i)[j-i]'(by simp; omega):=by simp[show i+(j-i)=j by omega]
 have e2:L[j]=(L.drop i)[j-i]'(by simp; omega):=by simp[show i+(j-i)=j by omega]
 rw[e1,e2]
 simp only[h]
structure CpG where
 k:Nat
 c:Nat
 W:List Ob
set_option maxHeartbeats 8000000 in
theorem c_CompactFunc (gs gv:Nat) (fl:Bool) (fid:Nat) {e:Ob→Ob→Bool} {D:Ob→Prop} (hc:EqOk fid e D) (L:List Ob) (hD:∀ o∈L,D o) (hl:L.length≤34359738368) :
 RetK prog M.F_slices_CompactFunc_Obj [.own (gs,gv) 12 0 L.length fl,.fn fid [] []] (rowH gs gv L) (fun r h=>∃ fl',r=.own (gs,gv) 12 0 (compC e L).length fl'∧h=rowH gs gv (compC e L)):=by
 refine RetK.of hmix h_slices_CompactFunc_Obj (by simp) fun E hP hV=>?_
 have hgV:=hV (gs,gv) ⟨12,L.map encObj,false,false⟩ (by simp[hk])
 obtain⟨P,w0,F0,nt,G,V,glob⟩:=E
 obtain rfl:P=prog:=hP
 obtain⟨n,hn⟩ : ∃ n,n=L.length:=⟨_,rfl⟩
 obtain⟨C,hC⟩ : ∃ C,C=compC e L:=⟨_,rfl⟩
 rw[← hn] at hl ⊢
 rw[← hC]
 by_cases h2:n<2
 ·have h2' : (n:Int)<2:=by omega
  have hCL:C=L:=by
   rw[hC]
   exact compC_all fun j hj h0=>by omega
  simp[h2',-Bool.exists_bool]
  refine⟨rowH gs gv L,⟨by rw[hCL,hn],by rw[hCL]⟩,by simp,?_⟩
  intro a1 b1 _
  by_cases hk:a1=gs∧b1=gv<;>simp[hk,leR_refl]
 ·have h2' : ¬ (n:Int)<2:=by omega
  simp[h2',-Bool.exists_bool]
  refine XLoop.go hmix (fun (k:Nat)=>⟨[(5,.int .i64 k),(0,.own (gs,gv) 12 0 n fl),(1,.fn fid [] [])],rowH gs gv L⟩) (fun k=>1≤k∧k≤n∧∀ j (hj:j<L.length),0<j→j<k→e L[j] L[j-1]=false) (fun k=>n-k) 1 ⟨Nat.le_refl _,by omega,fun j _ h0 h1=>by omega⟩ (by simp[leR_refl]) fun k hj=>?_
  obtain⟨j1,j2,j3⟩:=hj
  by_cases h1:k<n
  ·obtain⟨k1,hk1⟩ : ∃ k1,k=k1+1:=⟨k-1,by omega⟩
   have ek:(k:Int)-1=(k1:Nat):=by omega
   have w1:=wrap64 (n:=(k1:Nat)) (by omega) (by omega)
   have w2:=wrap64 (n:=(k:Int)+1) (by omega) (by omega)
   have q1:k<L.length:=by omega
   have q2:k1<L.length:=by omega
   have q3:k1<n:=by omega
   have hcc:=hc L[k] L[k1] (hD _ (List.getElem_mem q1)) (hD _ (List.getElem_mem q2))
   have hkk:L[k-1]'(by omega)=L[k1]:=by simp[hk1]
   simp[h1,ek,w1,q1,q2,q3,-Bool.exists_bool]
   intro v _
   refine XDCall.ret hcc ?_
   cases hE:e L[k] L[k1]
   ·simp[w2,-Bool.exists_bool]
    refine⟨k+1,⟨by omega,by omega,fun j hj h0 hjk=>?_⟩,by omega,by simp[leR_refl]⟩
    rcases Nat.lt_or_ge j k with h|h
    ·exact j3 j hj h0 h
    ·obtain rfl:j=k:=by omega
     rw[hkk]; exact hE
   ·obtain⟨m,hm⟩ : ∃ m,m=n-k:=⟨_,rfl⟩
    have em:(n:Int)-k=(m:Nat):=by omega
    have em2:((n:Int)-k).toNat=m:=by omega
    simp[j2,hm.symm,-Bool.exists_bool]
    obtain⟨J,hJ⟩ : ∃ J:CpG→Prop,J=fun g=>g.W.length=n∧1≤g.c∧k+g.c≤n∧g.k<k+g.c∧g.W.take g.k=compC e (L.take (k+g.c))∧g.W.drop (k+g.c-1)=L.drop (k+g.c-1)∧g.k=(compC e (L.take (k+g.c))).length:=⟨_,rfl⟩
    have htk:compC e (L.take k)=L.take k:=by
     refine compC_all fun j hj h0=>?_
     simp only[List.length_take] at hj
     have:=j3 j (by omega) h0 (by omega)
     simpa using this
    have hstart:J ⟨k,1,L⟩:=by
     rw[hJ]
     have e1:compC e (L.take (k+1))=L.take k:=by
      rw[compC_take (by omega) q1,htk,hkk,hE]; simp
     exact⟨hn.symm,Nat.le_refl _,by simp only; omega,by simp only; omega,e1.symm,rfl,by simp only[e1]; simp; omega⟩
    refine XLoop.go hmix (fun (g:CpG)=>⟨[(5,.int .i64 g.k),(7,.int .i64 g.c),(6,.own (gs,gv) 12 k m fl),(0,.own (gs,gv) 12 0 n fl),(1,.fn fid [] [])],rowH gs gv g.W⟩) J (fun g=>n-g.c) ⟨k,1,L⟩ hstart (by simp[em,leR_refl]) fun g hj=>?_
    have hj' : g.W.length=n∧1≤g.c∧k+g.c≤n∧g.k<k+g.c∧g.W.take g.k=compC e (L.take (k+g.c))∧g.W.drop (k+g.c-1)=L.drop (k+g.c-1)∧g.k=(compC e (L.take (k+g.c))).length:=by rw[hJ] at hj; exact hj
    clear hj
    obtain⟨g1,g2,g3,g4,g5,g6,g7⟩:=hj'
    by_cases h3:g.c<m
    ·obtain⟨c1,hc1⟩ : ∃ c1,g.c=c1+1:=⟨g.c-1,by omega⟩
     have ec:(g.c:Int)-1=(c1:Nat):=by omega
     have v1:=wrap64 (n:=(c1:Nat)) (by omega) (by omega)
     have v2:=wrap64 (n:=(g.c:Int)+1) (by omega) (by omega)
     have v3:=wrap64 (n:=(g.k:Int)+1) (by omega) (by omega)
     have p1:k+g.c<L.length:=by omega
     have p2:k+c1<L.length:=by omega
     have p3:k+g.c<g.W.length:=by omega
     have p4:k+c1<g.W.length:=by omega
     have p5:c1<m:=by omega
     have p6:g.k<n:=by omega
     have p7:g.k<g.W.length:=by omega
     have hv:=drop_get g6 (j:=k+g.c) (by omega) p3 p1
     have hu:=drop_get g6 (j:=k+c1) (by omega) p4 p2
     have hcc:=hc L[k+g.c] L[k+c1] (hD _ (List.getElem_mem p1)) (hD _ (List.getElem_mem p2))
     have hct:=compC_take (e:=e) (l:=L) (j:=k+g.c) (by omega) p1
     have hkk2:L[k+g.c-1]'(by omega)=L[k+c1]:=by simp[hc1]
     rw[hkk2] at hct
     have hdr:∀ W' : List Ob,W'.drop (k+g.c)=g.W.drop (k+g.c)→W'.drop (k+(g.c+1)-1)=L.drop (k+(g.c+1)-1):=fun W' h=>by
      rw[show k+(g.c+1)-1=k+g.c by omega,h]
      have:=congrArg (List.drop 1) g6
      simpa[List.drop_drop,show k+g.c-1+1=k+g.c by omega] using this
     simp[h3,-Bool.exists_bool]
     refine XCut.go hmix ?_
     simp[h3,ec,v1,p1,p2,p3,p4,p5,hv,hu,-Bool.exists_bool]
     intro v' _
     refine XDCall.ret hcc ?_
     cases hE2:e L[k+g.c] L[k+c1]
     ·rw[hE2] at hct
      have hset:(g.W.map encObj).set g.k (cO L[k+g.c])=(g.W.set g.k L[k+g.c]).map encObj:=by rw[List.map_set,encObj_eq]
      have hJ' : J ⟨g.k+1,g.c+1,g.W.set g.k L[k+g.c]⟩:=by
       rw[hJ]
       refine⟨by simpa using g1,by simp only; omega,by simp only; omega,by simp only; omega,?_,hdr _ (by rw[List.drop_set_of_lt (by omega)]),?_⟩
       ·simp only
        rw[show k+(g.c+1)=k+g.c+1 by omega,hct,← g5,List.take_succ_eq_append_getElem (by simpa using p7),List.take_set_of_le (Nat.le_refl _)]
        simp
       ·simp only
        rw[show k+(g.c+1)=k+g.c+1 by omega,hct]
        simp[← g7]
      generalize g.W.set g.k L[k+g.c]=W2 at *
      simp[h3,ec,v1,v2,v3,p1,p2,p3,p4,p5,p6,p7,hv,hu,hset,-Bool.exists_bool]
      exact⟨⟨g.k+1,g.c+1,W2⟩,hJ',by simp only; omega,by simp,leR_refl _ _⟩
     ·rw[hE2] at hct
      simp[v2,-Bool.exists_bool]
      refine⟨⟨g.k,g.c+1,g.W⟩,?_,by simp only; omega,by simp,leR_refl _ _⟩
      rw[hJ]
      refine⟨g1,by simp only; omega,by simp only; omega,by simp only; omega,?_,hdr _ rfl,?_⟩
      ·simp only
       rw[show k+(g.c+1)=k+g.c+1 by omega,hct,g5]; simp
      ·simp only
       rw[show k+(g.c+1)=k+g.c+1 by omega,hct]
       simpa using g7
    ·have hcn:k+g.c=n:=by omega
     have hLC:compC e (L.take (k+g.c))=C:=by rw[hcn,hn,List.take_length,hC]
     rw[hLC] at g5 g7
     have hkn:g.k≤n:=by omega
     have hkW:g.k≤g.W.length:=by omega
     have hrows:(g.W.map encObj).take g.k=C.map encObj:=by rw[← List.map_take,g5]
     have e3:((n:Int)-g.k).toNat=n-g.k:=by omega
     have e4:g.k+(n-g.k)≤g.W.length:=by omega
     simp[h3,hkn,e3,e4,hrows,-Bool.exists_bool]
     refine⟨by omega,rowH gs gv C,⟨g7,rfl⟩,by simp,?_⟩
     intro a1 b1 _
     by_cases hk:a1=gs∧b1=gv<;>simp[hk,leR_refl]
  ·obtain rfl:k=n:=by omega
   have hCL:C=L:=by
    rw[hC]
    exact compC_all fun j hj h0=>j3 j hj h0 (by omega)
   simp[-Bool.exists_bool]
   refine⟨rowH gs gv L,⟨by rw[hCL,hn],by rw[hCL]⟩,by simp,?_⟩
   intro a1 b1 _
   by_cases hk:a1=gs∧b1=gv<;>simp[hk,leR_refl]
end Go.Proofs.YtfilonnphgnplaaGreatDoor.Pv
set_option maxRecDepth 100000
namespace Go.Proofs.YtfilonnphgnplaaGreatDoor.Pv
open Go Go.Tidy Go.RowKit
def DeletesO (P:Program) (f:FuncId):Prop:=callable P f=true ∧
 ∀ (blk off cap n i j:Nat) (news:List Value) (w:World),j=i+1→i<n→n≤cap→cap≤9223372036854775807→news.length=(n-j)*12→(∀ u∈news,u.oneCell'=true) →
   (∀ (k:Nat) (u:Value),news[k]? = some u→w.cell? ⟨blk,off+j*12+k,none⟩=some u)→(∀ k,k<n*12→(w.cell? ⟨blk,off+k,none⟩).isSome=true∧w.frozen? ⟨blk,off+k,none⟩=false) →
   Calls P f #[.slice (some ⟨blk,off,none⟩) n cap,.int .i64 i,.int .i64 j] w fun e w'=>e=.returned (.slice (some ⟨blk,off,none⟩) (i+(n-j)) cap)∧∃ zs,w'=(w.drew.setCells blk (off+i*12) news).setCells blk (off+(i+(n-j))*12) zs
theorem c_Delete (hS:DeletesO prog M.F_slices_Delete_Obj) (gs gv:Nat) (fl:Bool) (L:List Ob) (i:Nat) (hi:i<L.length) (hl:L.length≤34359738368) :
 RetK prog M.F_slices_Delete_Obj [.own (gs,gv) 12 0 L.length fl,.int .i64 i,.int .i64 (i+1:Nat)] (rowH gs gv L) (fun r h=>r=.own (gs,gv) 12 0 (L.length-1) false∧h=rowH gs gv (L.eraseIdx i)):=by
 obtain⟨hS0,hS1⟩:=hS
 refine⟨hS0,fun E a c w vs d s hP hg hrep=>?_⟩
 obtain⟨v,vs',rfl,hv,vi,vs'',rfl,⟨rfl,_⟩,vj,vs3,rfl,⟨rfl,_⟩,hvs⟩:=hrep
 obtain rfl:vs3=[]:=hvs
 obtain⟨u1,u2,u3,sa,cap,rfl,v2,v3,v4,v5,v6⟩:=hv
 have hh:=hg.hgood
 have he:hk (gs,gv) (rowH gs gv L)=some ⟨12,L.map encObj,false,false⟩:=by simp[hk]
 obtain⟨ad,b1,b2,⟨ca,el,fr,b3,b4,b5⟩,b6,b7⟩:=(hh.heap _ _ he).block (by simp; omega)
 rw[b1] at v6
 have v6':=v6.resolve_left (by omega)
 obtain⟨rfl,w6⟩:=v6'
 have b6' : RepRows w c.d 12 ad.block ad.off (L.map encObj):=b6
 have b4' : ad.off+L.length*12≤ca.size:=by simpa using b4
 obtain⟨news,n1,n2,n3,n4⟩:=(RepRows.drop (i+1) b6').vals
 have hnl:news.length=(L.length-(i+1))*12:=by rw[n3]; simp
 have hc:=hS1 ad.block ad.off cap L.length i (i+1) news w rfl hi v2 v3 hnl n2 (fun k u hk=>n4 k u hk) (fun k hk=>by
  have h6:ad.off+k<ca.size:=by omega
  refine⟨by simp[World.cell?,b3,h6],?_⟩
  simp only[World.frozen?,b3]
  have:=b5 _ h6
  simpa using this)
 rw[show (#[Value.slice (some ⟨ad.block,ad.off+0*12,none⟩) L.length cap,.int .i64 i,.int .i64 (i+1:Nat)]:Array Value)=#[Value.slice (some ⟨ad.block,ad.off,none⟩) L.length cap,.int .i64 i,.int .i64 (i+1:Nat)] by simp]
 refine Calls.mono hc ?_
 rintro e w' ⟨rfl,zs,rfl⟩
 have hn1:i+(L.length-(i+1))=L.length-1:=by omega
 rw[hn1]
 obtain⟨k1,k2⟩:=(hh.drew).del (g:=(gs,gv)) (esz:=12) (xs:=L.map encObj) he b1 (i:=i) (by simpa using hi) (news:=news) (zs:=zs) (p:=ad.off+i*12) (q:=ad.off+(L.length-1)*12)
  (RepL.mono _ _ (c:=c.d) (mono_drew w) (Ctx.Le.refl c.d) n1) n2 rfl (by simp)
 have km:Mono c.Fz w _:=(mono_drew w).trans k2
 have her:(L.map encObj).eraseIdx i=(L.eraseIdx i).map encObj:=by
  rw[List.eraseIdx_eq_take_drop_succ,List.eraseIdx_eq_take_drop_succ,List.map_append,List.map_take,List.map_drop]
 rw[her] at k1
 refine⟨_,rfl,_,_,c,⟨rfl,rfl⟩,hg.put (st':=⟨putS d _ s,rowH gs gv (L.eraseIdx i)⟩) (r:=.own (gs,gv) 12 0 (L.length-1) false) (by cases d<;>rfl) (k1.congr fun k e hk'=>?_) ?_ (Ctx.Le.refl c) km⟩
 ·simp only[rowH,hk_cons] at hk' ⊢
  split at hk'
  ·rename_i e1; rw[if_pos e1]; exact hk'
  ·simp[hk] at hk'
 ·refine⟨u1,u2,u3,_,cap,rfl,by omega,v3,by omega,by simp,?_⟩
  rw[b1]
  refine .inr ⟨by simp,?_⟩
  obtain⟨cs,el,fr,w1,w2⟩:=w6
  obtain⟨cs',fr',x1,x2⟩:=km.keep _ _ _ _ w1
  exact⟨cs',el,fr',x1,by omega⟩
end Go.Proofs.YtfilonnphgnplaaGreatDoor.Pv
set_option maxRecDepth 100000
namespace Go.Proofs.YtfilonnphgnplaaGreatDoor.Pv
open Go Go.Tidy
theorem ordI_o (o:Ordering):ordI o=oInt o:=by cases o<;>rfl
set_option maxHeartbeats 4000000 in
theorem cmp_objs_ok:CmpOk M.F_tidy_objects_1 cmpO (fun o=>formedO o=true):=fun a b ha hb'=>by
 refine Ret.go hmix h_tidy_objects_1 (by simp) fun hb w0 F0 hG=>?_
 have c1:=c_tidy_alone a
 have c2:=c_tidy_alone b
 have c3:=c_shape_Cmp (aloneT a) (aloneT b) (alone_formed ha) (alone_formed hb')
 rw[cmp_alone,← ordI_o] at c3
 simp
 intro v1 v2 v3
 refine XDCall.ret c1 ?_
 simp
 refine XDCall.ret c2 ?_
 simp
 refine XDCall.ret c3 ?_
 simp
set_option maxHeartbeats 4000000 in
theorem same_objs_ok:EqOk M.F_tidy_objects_2 (fun a b=>cmpO a b == .eq) (fun o=>formedO o=true):=fun a b ha hb'=>by
 refine Ret.go hmix h_tidy_objects_2 (by simp) fun hb w0 F0 hG=>?_
 have c1:=c_tidy_alone a
 have c2:=c_tidy_alone b
 have c3:=c_shape_Same (aloneT a) (aloneT b) (alone_formed ha) (alone_formed hb')
 have e:sameT (aloneT a) (aloneT b)=(cmpO a b == .eq):=by unfold sameT; rw[cmp_alone]
 rw[e] at c3
 simp
 intro v1 v2 v3
 refine XDCall.ret c1 ?_
 simp
 refine XDCall.ret c2 ?_
 simp
 refine XDCall.ret c3 ?_
 simp
theorem cmpO_tot:Tot cmpO:=⟨cmpO_swap,cmpO_Q⟩
structure OutG where
 a:List Ob
 b:List Ob
def OutG.l (g:OutG):List Ob:=g.a++g.b
def inAny (l:List Ob) (i:Nat) (o:Ob):Nat→Bool
 | 0=>false
 | n+1=>inAny l i o n||(n != i&&(match l[n]? with|some x=>belowO o x|none=>false))
theorem inAny_eq (a b:List Ob) (o:Ob):inAny (a++o::b) a.length o (a++o::b).length=(a.any (belowO o)||b.any (belowO o)):=by
 have h1:∀ n,n≤a.length→inAny (a++o::b) a.length o n=(a.take n).any (belowO o):=by
  intro n
  induction n with
  | zero=>intro _; simp[inAny]
  | succ n ih =>
    intro hn
    have h:n<a.length:=by omega
    rw[inAny,ih (by omega),List.getElem?_append_left h,List.getElem?_eq_getElem h,List.take_succ_eq_append_getElem h,List.any_append]
    have:(n != a.length)=true:=by simp; omega
    simp only[this,List.any_cons,List.any_nil,Bool.or_false,Bool.true_and]
 have h2:∀ n,n≤b.length→inAny (a++o::b) a.length o (a.length+1+n)=(a.any (belowO o)||(b.take n).any (belowO o)):=by
  intro n
  induction n with
  | zero=>intro _; simp[inAny,h1 a.length (Nat.le_refl _)]
  | succ n ih =>
    intro hn
    have h:n<b.length:=by omega
    have e:(a++o::b)[a.length+1+n]? = some b[n]:=by
     rw[List.getElem?_append_right (by omega),show a.length+1+n-a.length=n+1 by omega,List.getElem?_cons_succ,List.getElem?_eq_getElem h]
    rw[show a.length+1+(n+1)=(a.length+1+n)+1 by omega,inAny,ih (by omega),e,List.take_succ_eq_append_getElem h,List.any_append]
    have:(a.length+1+n != a.length)=true:=by simp; omega
    simp only[this,List.any_cons,List.any_nil,Bool.or_false,Bool.true_and,Bool.or_assoc]
 have:=h2 b.length (Nat.le_refl _)
 rw[List.take_length] at this
 rw[← this]
 congr 1
 simp; omega
set_option maxHeartbeats 8000000 in
theorem c_outermost (hS:DeletesO prog M.F_slices_Delete_Obj) (gs gv:Nat) (fl:Bool) (L:List Ob) (hF:∀ o∈L,FitT (aloneT o)) (hl:L.length≤34359738368) (h6:¬ gs=6) :
 RetK prog M.F_tidy_outermost [.own (gs,gv) 12 0 L.length fl] (rowH gs gv L) (fun r h=>∃ fl',r=.own (gs,gv) 12 0 (outerO [] L).length fl'∧h=rowH gs gv (outerO [] L)):=by
 refine RetK.of hmix h_tidy_outermost (by simp) fun E hP hV=>?_
 have hgV:=hV (gs,gv) ⟨12,L.map encObj,false,false⟩ (by simp[hk])
 obtain⟨P,w0,F0,nt,G,V,glob⟩:=E
 obtain rfl:P=prog:=hP
 have hgV' : gv<V:=hgV
 obtain⟨R,hR⟩ : ∃ R,R=outerO [] L:=⟨_,rfl⟩
 rw[← hR]
 simp[h6,-Bool.exists_bool]
 obtain⟨J,hJ⟩ : ∃ J:Bool × OutG→Prop,J=fun g=>outerO g.2.a g.2.b=R∧(∀ o∈g.2.l,FitT (aloneT o))∧g.2.l.length≤L.length:=⟨_,rfl⟩
 refine XLoop.go hmix (fun (g:Bool × OutG)=>⟨[(3,.int .i64 g.2.a.length),(0,.own (gs,gv) 12 0 g.2.l.length g.1)],rowH gs gv g.2.l⟩) J (fun g=>g.2.b.length) (fl,⟨[],L⟩) (by rw[hJ]; exact⟨hR.symm,by simpa[OutG.l] using hF,by simp[OutG.l]⟩) (by simp[OutG.l,leR_refl]) fun g hj=>?_
 obtain⟨f,g⟩:=g
 have hj' : outerO g.a g.b=R∧(∀ o∈g.l,FitT (aloneT o))∧g.l.length≤L.length:=by rw[hJ] at hj; exact hj
 clear hj
 obtain⟨j1,j2,j3⟩:=hj'
 obtain⟨i,hi⟩ : ∃ i,i=g.a.length:=⟨_,rfl⟩
 obtain⟨n,hn⟩ : ∃ n,n=g.l.length:=⟨_,rfl⟩
 have hln:n=i+g.b.length:=by rw[hn,hi]; simp[OutG.l]
 simp only[← hi,← hn]
 match hb:g.b with
 | [] =>
   rw[hb] at hln j1
   have h1:¬ i<n:=by simp at hln; omega
   have hRa:g.l=R:=by rw[outerO_nil] at j1; simp[OutG.l,hb,j1]
   simp[h1,h6,-Bool.exists_bool]
   refine⟨rowH gs gv R,⟨by rw[hn,hRa],rfl⟩,by simp,?_⟩
   rw[hRa]
   intro a1 b1 _
   by_cases hk:a1=gs∧b1=gv<;>simp[hk,leR_refl]
 | o::b' =>
   rw[hb] at hln j1
   have h1:i<n:=by simp at hln; omega
   have hle:g.l=g.a++o::b':=by simp[OutG.l,hb]
   have hio:∀ h:i<g.l.length,g.l[i]=o:=fun h=>get_mid (p:=g.a) (x:=[o]) (q:=b') (by rw[hle]; simp) (k:=0) (by simp) (by omega) h
   have hiL:i<g.l.length:=by omega
   have hio:=hio hiL
   have hwi:=wrap64 (n:=(i:Int)+1) (by omega) (by omega)
   simp[h1,h6,-Bool.exists_bool]
   refine XLoop.cnt hmix n (fun k (_:Unit)=>⟨[(13,.int .i64 k),(12,.int .i64 n),(11,.own (gs,gv) 12 0 n f),(4,.bool (inAny g.l i o k)),(3,.int .i64 i),(0,.own (gs,gv) 12 0 n f)],rowH gs gv g.l⟩) (fun _ _=>True) () trivial (by simp[inAny,leR_refl]) fun k _ hk _=>?_
   have hw:=wrap64 (n:=(k:Int)+1) (by omega) (by omega)
   by_cases h2:k<n
   ·have hkL:k<g.l.length:=by omega
    have hst:inAny g.l i o (k+1)=(inAny g.l i o k||(k != i&&belowO o g.l[k])):=by rw[inAny,List.getElem?_eq_getElem hkL]
    obtain⟨q,hq⟩ : ∃ q,q=inAny g.l i o (k+1):=⟨_,rfl⟩
    rw[← hq] at hst
    have cb:=c_below_Below (aloneT o) (aloneT g.l[k]) (j2 o (by rw[← hio]; exact List.getElem_mem _)) (j2 _ (List.getElem_mem _))
    have ca:=c_tidy_alone o
    have ck:=c_tidy_alone g.l[k]
    have hbe:belT (aloneT g.l[k]) (aloneT o)=belowO o g.l[k]:=rfl
    rw[hbe] at cb
    generalize hp:inAny g.l i o k=p at *
    cases p
    ·by_cases h3:k=i
     ·have h3' : (k:Int)=i:=by omega
      have hst' : q=false:=by rw[hst]; simp[h3]
      simp[h2,hkL,hiL,h1,h3',hwi,hq.symm,hst',h6,-Bool.exists_bool]
     ·have h3' : ¬ (k:Int)=i:=by omega
      have hst' : q=belowO o g.l[k]:=by rw[hst]; simp[h3]
      simp[h2,hkL,hiL,h1,h3',hw,hio,h6,-Bool.exists_bool]
      intro v1 hv1 v2 hv2
      refine XDCall.ret ca ?_
      simp[h2,hkL,hiL,h1,h3',hw,hio,h6,-Bool.exists_bool]
      refine XDCall.ret ck ?_
      simp[h2,hkL,hiL,h1,h3',hw,hio,h6,-Bool.exists_bool]
      refine XDCall.ret cb ?_
      simp[h2,hkL,hiL,h1,h3',hw,hio,h6,hq.symm,hst',leR_refl,-Bool.exists_bool]
    ·have hst' : q=true:=by rw[hst]; simp
     simp[h2,hkL,hiL,h1,hw,hq.symm,hst',h6,leR_refl,-Bool.exists_bool]
   ·have hkn:k=n:=by omega
    have hany:inAny g.l i o k=(g.a.any (belowO o)||b'.any (belowO o)):=by rw[hkn,hn,hle,hi]; exact inAny_eq _ _ _
    rw[hany]
    rw[outerO_cons] at j1
    simp[h2,h6,-Bool.exists_bool]
    refine XCut.go hmix ?_
    cases hp:(g.a.any (belowO o)||b'.any (belowO o))
    ·rw[hp] at j1
     have hl2:(⟨g.a++[o],b'⟩ : OutG).l=g.l:=by simp[OutG.l,hb]
     simp[hwi,h6,-Bool.exists_bool]
     refine⟨f,⟨g.a++[o],b'⟩,?_,by simp[hb],?_⟩
     ·rw[hJ]
      exact⟨by simpa using j1,by simp only[hl2]; exact j2,by simp only[hl2]; exact j3⟩
     ·simp only[hl2,← hn]
      simp[hi,leR_refl]
    ·rw[hp] at j1
     have hl2:(⟨g.a,b'⟩ : OutG).l=g.l.eraseIdx i:=by
      rw[hle,hi,List.eraseIdx_append_of_length_le (Nat.le_refl _)]
      simp[OutG.l]
     have c1:=c_Delete hS gs gv f g.l i hiL (by omega)
     rw[← hn] at c1
     obtain⟨i1,hi1⟩ : ∃ i1,i1=i+1:=⟨_,rfl⟩
     have ei1:(i:Int)+1=(i1:Nat):=by omega
     have wi1:=wrap64 (n:=(i1:Nat)) (by omega) (by omega)
     rw[← hi1] at c1
     simp[ei1,wi1,h6,-Bool.exists_bool]
     refine XCall.retK c1 ?_
     rintro r h' ⟨rfl,rfl⟩
     have hll:(g.l.eraseIdx i).length=n-1:=by rw[List.length_eraseIdx_of_lt hiL,hn]
     rw[← hll]
     generalize hE:g.l.eraseIdx i=l2 at *
     simp[h6,-Bool.exists_bool]
     refine⟨false,⟨g.a,b'⟩,?_,by simp[hb],?_⟩
     ·rw[hJ]
      refine⟨by simpa using j1,fun x hx=>?_,?_⟩
      ·simp only[hl2] at hx
       exact j2 x (List.mem_of_mem_eraseIdx (by rw[hE]; exact hx))
      ·simp only[hl2]; omega
     ·simp only[hl2]
      simp[hi,leR_refl]
end Go.Proofs.YtfilonnphgnplaaGreatDoor.Pv
set_option maxRecDepth 100000
namespace Go.Proofs.YtfilonnphgnplaaGreatDoor.Pv
open Go Go.Tidy
def passO (l:List Ob):List Ob:=outerO [] (rowO l)
theorem passO_mem {l:List Ob}:∀ x∈passO l,x∈l:=fun x hx=>(outerO_sub _ _ x hx).elim (fun h=>by cases h) ((rowO_sub l).1 x)
theorem passO_len (l:List Ob):(passO l).length≤l.length:=by
 have h1:=(outerO_len (rowO l) []).1
 have h2:=(rowO_sub l).2.1
 unfold passO
 simp at h1; omega
set_option maxHeartbeats 8000000 in
theorem tobjects_step (hS:DeletesO prog M.F_slices_Delete_Obj) (h:Int) (L:List Ob) (w:Ob) (D:Ob→Prop) (hl:L.length≤34359738368) (hDf:∀ o,D o→formedO o=true) (hDF:∀ o,D o→FitT (aloneT o)) (hDm:∀ o,D o→maxOkO o) (hD:∀ o∈L,D o)
 (hw:4<(passO L).length→D w∧Ret prog M.F_tidy_one [.vec 12 false (((passO L).drop 3).map encObj)] (.agg (cO (oneO ((passO L).drop 3))))∧Ret prog M.F_tidy_object [.agg (cO (oneO ((passO L).drop 3))),.int .i64 h] (.agg (cO w))) :
 Ret prog M.F_tidy_objects [.vec 12 false (L.map encObj),.int .i64 h] (.vec 12 false ((if (passO L).length≤4 then passO L else passO ((passO L).take 3++[w])).map encObj)):=by
 refine Ret.go hmix h_tidy_objects (by simp) fun hb w0 F0 hG=>?_
 have c0:=c_slices_Clone_Obj false (L.map encObj) (by simp; omega)
 obtain⟨R,hR⟩ : ∃ R,R=(if (passO L).length≤4 then passO L else passO ((passO L).take 3++[w])):=⟨_,rfl⟩
 rw[← hR]
 simp
 refine XLoop.scope hmix [(0,12,1000)] rfl 0 (fun v (l:List Ob)=>⟨[(0,.own (1000,v) 12 0 l.length false),(1,.int .i64 h)],rowH 1000 v l⟩) (fun l=>l=L∨(4<(passO L).length∧l=(passO L).take 3++[w])) (fun l=>l.length) rfl ?_ ?_
 ·simp
  refine XCall.retO (by simpa using c0) ?_
  intro v hv
  simp
 ·intro v l hv hj
  have hlD:∀ o∈l,D o:=fun o ho=>by
   rcases hj with rfl|⟨h4,rfl⟩
   ·exact hD o ho
   ·rcases List.mem_append.1 ho with ho|ho
    ·exact hD o (passO_mem o (List.mem_of_mem_take ho))
    ·rw[List.mem_singleton.1 ho]; exact (hw h4).1
  have hll:l.length≤34359738368:=by
   rcases hj with rfl|⟨h4,rfl⟩
   ·exact hl
   ·simp; omega
  have c1:=c_SortStable 1000 v false M.F_tidy_objects_1 cmpO_tot cmp_objs_ok l (fun o ho=>hDf o (hlD o ho)) hll
  simp
  refine XCall.retK c1 ?_
  rintro r h' ⟨rfl,l',rfl,hp,hs⟩
  have hpl:l'.length=l.length:=hp.length_eq
  have hC:compC (fun a b=>cmpO a b == .eq) l'=rowO l:=rowO_sorted l l' (fun x hx=>hDm x (hlD x hx)) hp hs
  have c2:=c_CompactFunc 1000 v false M.F_tidy_objects_2 same_objs_ok l' (fun o ho=>hDf o (hlD o (hp.mem_iff.1 ho))) (by omega)
  rw[hC,hpl] at c2
  have c3:=fun fl=>c_outermost hS 1000 v fl (rowO l) (fun o ho=>hDF o (hlD o ((rowO_sub l).1 o ho))) (by have:=(rowO_sub l).2.1; omega) (by decide)
  have hX:outerO [] (rowO l)=passO l:=rfl
  rw[hX] at c3
  generalize rowO l=rw1 at *
  simp
  refine XCall.retK c2 ?_
  rintro r h' ⟨fl,rfl,rfl⟩
  simp
  refine XCall.retK (c3 fl) ?_
  rintro r h' ⟨fl2,rfl,rfl⟩
  by_cases g4:(passO l).length≤4
  ·have g4' : ¬ (4:Int)<(passO l).length:=by omega
   have hRl:R=passO l:=by
    rcases hj with rfl|⟨h4,rfl⟩
    ·rw[hR,if_pos g4]
    ·rw[hR,if_neg (by omega)]
   rw[hRl]
   generalize passO l=q at *
   simp[g4']
  ·have g4' : (4:Int)<(passO l).length:=by omega
   have hlL:l=L:=by
    rcases hj with h|⟨h4,rfl⟩
    ·exact h
    ·exact absurd (Nat.le_trans (passO_len _) (by simp; omega)) g4
   subst hlL
   obtain⟨hwD,co,cb⟩:=hw (by omega)
   have hpl2:4<l.length:=by have:=passO_len l; omega
   generalize passO l=q at *
   have e3:(3:Int)≤q.length:=by omega
   have e5:((q.map encObj).drop 3).take (q.length-3)=(q.drop 3).map encObj:=by rw[List.take_of_length_le (by simp),List.map_drop]
   have e6:3+(q.length-3)≤q.length:=by omega
   have e7:((q.length:Int)-3).toNat=q.length-3:=by omega
   have e8:3≤q.length:=by omega
   simp[g4',e3,e6,e7,e8,e5]
   intro v1
   generalize oneO (q.drop 3)=x at *
   refine XDCall.ret (r:=.agg (cO x)) (by
    have:reifyL (fun k=>hk k (rowH 1000 v q)) [.own (1000,v) 12 3 (q.length-3) fl2]=[.vec 12 false ((q.drop 3).map encObj)]:=by
     simp only[reifyL,reify,hk,if_true,e5]
    rw[this]; exact co) ?_
   simp[e8,e6]
   refine XDCall.ret (r:=.agg (cO w)) (by simpa using cb) ?_
   simp[e8,e6]
   exact⟨q.take 3++[w],⟨by omega,rfl⟩,by simp; omega,fun v1=>⟨by simp; omega,leR_eq (by simp)⟩⟩
end Go.Proofs.YtfilonnphgnplaaGreatDoor.Pv
set_option maxRecDepth 100000
namespace Go.Proofs.YtfilonnphgnplaaGreatDoor.Pv
open Go Go.Tidy
structure LibOk:Prop where
 keys:∃ kt et,SortedKeys prog 164 kt et M.F_maps_Keys_int M.F_slices_Sorted_string
 del:DeletesO prog M.F_slices_Delete_Obj
theorem fit_alone {NM:List S} {m:Nat} (hn:NM.length≤34359738368) (hm:0<m) {o:Ob} (h:formedO o=true) (hb:bdO NM m o):FitT (aloneT o) :=
 ⟨alone_formed h,nm_of_bd hn _ (alone_formed h) (bd_alone hm hb)⟩
theorem pobjects_all (hL:LibOk) (h:Int) (N:Ty→Ty) (NM:List S) (B:Nat) (hN:NormOk M.F_tidy_normal h N NM B) (hNf:∀ t,formedT t=true→formedT (N t)=true) (hNn:∀ t,formedT t=true→never (N t)=never t) (hNb:∀ t m,bdT NM m t→bdT NM 4 (N t)) (h3:NM.length≤134217728) (hM:4*(NM.length+1)≤B)
 (l:List Ob) (hf:∀ o∈l,formedO o=true) (hb4:∀ o∈l,bdO NM 4 o) (hl:l.length≤1073741824) (hB:4*l.length≤B):Ret prog M.F_tidy_objects [.vec 12 false (l.map encObj),.int .i64 h] (.vec 12 false ((objectsO N l).map encObj)):=by
 obtain⟨kt,et,hk⟩:=hL.keys
 have hd:∀ x∈(passO l).drop 3,x∈l:=fun x hx=>passO_mem x (List.mem_of_mem_drop hx)
 have hpl:=passO_len l
 have key:=tobjects_step hL.del h l (objectO N (oneO ((passO l).drop 3))) (fun o=>formedO o=true∧bdO NM 4 o) (by omega) (fun o h=>h.1) (fun o h=>fit_alone (by omega) (by omega) h.1 h.2) (fun o h=>maxOk_O h.1) (fun o ho=>⟨hf o ho,hb4 o ho⟩) (fun h4=>by
  have hne:(passO l).drop 3≠[]:=fun e=>by have:=congrArg List.length e; simp at this; omega
  have fo:=formed_oneO (fun o ho=>hf o (hd o ho)) hne
  have bo:=bd_oneO fun o ho=>hb4 o (hd o ho)
  refine⟨⟨formed_objectO hNf hNn fo,bd_objectO hNb bo⟩,c_tidy_one hk NM 4 _ (fun o ho=>hf o (hd o ho)) (fun o ho=>hb4 o (hd o ho)) (by simp; omega) (by simp; omega) h3,?_⟩
  refine object_step h N NM B _ hN hNf hNn hNb (by omega) hM _ fo bo ?_
  simp; omega)
 exact key
def capM (h:Nat):Nat:=40001*4 ^ (8-h)
theorem capM_step {h:Nat} (hh:h<8):capM h=4*capM (h+1):=by
 unfold capM
 have:8-h=(8-(h+1))+1:=by omega
 rw[this,Nat.pow_succ,← Nat.mul_assoc,Nat.mul_comm]
theorem capM_ge (h:Nat):40001≤capM h:=Nat.le_mul_of_pos_right _ (Nat.pow_pos (by omega))
theorem capM_le {h:Nat} (hh:1≤h):capM h≤1073741824:=by
 unfold capM
 have h1:4 ^ (8-h)≤4 ^ 7:=Nat.pow_le_pow_right (by omega) (by omega)
 calc 40001*4 ^ (8-h)≤40001*4 ^ 7:=Nat.mul_le_mul (by omega) h1
  _≤1073741824:=by decide
theorem pnormal (hL:LibOk) (NM:List S) (hn:NM.length≤40000):∀ h:Nat,h≤8→NormOk M.F_tidy_normal h (normalT h) NM (capM h):=by
 intro h
 induction h with
 | zero =>
   intro _ t m ht hb hm
   rw[normalT_zero]
   split
   ·rename_i hc
    refine tnormal_every _ t ?_
    simp only[Bool.or_eq_true,Bool.not_eq_true',List.isEmpty_eq_false_iff] at hc
    rcases hc with (hc|hc)|hc
    ·exact .inl hc
    ·exact .inr ⟨by simp,.inl hc⟩
    ·exact .inr ⟨by simp,.inr hc⟩
   ·rename_i hc
    simp only[Bool.or_eq_true,Bool.not_eq_true',not_or,Bool.not_eq_true,Bool.not_eq_false,List.isEmpty_iff,List.isEmpty_eq_false_iff,Decidable.not_not,ne_eq] at hc
    obtain⟨⟨e0,ea⟩,eo⟩:=hc
    have:=tnormal_step ((0:Nat):Int) t [] id id (by simp) (by simp) e0 (fun _=>⟨ea,eo⟩) (by rw[ea]; exact fin_formed ht (by simp) (by simp) (by simp)) (by rw[eo]; simp) (by rw[ea]; simp) (by rw[ea]; simp) (by rw[eo]; simp) (by
     rw[eo]
     have:=tobjects_step hL.del (((0:Nat):Int)-1) [] (.mk [] [] [] tNever) (fun o=>formedO o=true∧bdO NM 4 o) (by simp) (fun o h=>h.1) (fun o h=>fit_alone (by omega) (by omega) h.1 h.2) (fun o h=>maxOk_O h.1) (by simp) (fun h4=>by simp[passO,rowO,outerO] at h4)
     simpa[passO,rowO,outerO] using this)
    rw[ea] at this
    exact this
 | succ h ih =>
   intro h8 t m ht hb hm
   have ih':=ih (by omega)
   have hcs:=capM_step (h:=h) (by omega)
   have hc1:=capM_ge (h+1)
   have hcg:4*(NM.length+1)≤capM h:=by omega
   have hcl:=capM_le (h:=h+1) (by omega)
   rw[normalT_succ]
   split
   ·rename_i hc
    exact tnormal_every _ t (.inl hc)
   ·rename_i hc
    obtain⟨t1,t2,t3,t4,t5,t6,t7,t8⟩:=formedT_spec ht
    have hbi:=bdT_iff.1 hb
    have eh:(((h+1:Nat):Int)-1)=(h:Int):=by omega
    have hNn:∀ t,formedT t=true→never (normalT h t)=never t:=fun t ht=>never_normalT h t ht
    have hW:∀ o∈t.objects,Ret prog M.F_tidy_object [.agg (cO o),.int .i64 h] (.agg (cO (objectO (normalT h) o))):=fun o ho =>
     object_step h (normalT h) NM (capM h) m ih' (formed_normalT h) hNn (bd_normalT h) (by omega) hcg o (t8 o ho) (hbi.2.2.2 o ho) (by omega)
    have hfm:∀ o∈t.objects.map (objectO (normalT h)),formedO o=true:=fun o ho=>by
     obtain⟨x,hx,rfl⟩:=List.mem_map.1 ho
     exact formed_objectO (formed_normalT h) hNn (t8 x hx)
    have hbm:∀ o∈t.objects.map (objectO (normalT h)),bdO NM 4 o:=fun o ho=>by
     obtain⟨x,hx,rfl⟩:=List.mem_map.1 ho
     exact bd_objectO (bd_normalT h) (hbi.2.2.2 x hx)
    have hO:=pobjects_all hL h (normalT h) NM (capM h) ih' (formed_normalT h) hNn (bd_normalT h) (by omega) hcg (t.objects.map (objectO (normalT h))) hfm hbm (by simp; omega) (by simp; omega)
    refine tnormal_step ((h+1:Nat):Int) t _ (objectO (normalT h)) (normalT h) (by omega) (by omega) (by simpa using hc) (fun h1=>by omega) ?_ (by omega) t6 (fun a ha=>?_) (fun o ho=>?_) ?_
    ·refine fin_formed ht (by simpa using t6) (fun a ha=>?_) (formed_objectsO (formed_normalT h) hNn hfm)
     obtain⟨x,hx,rfl⟩:=List.mem_map.1 ha
     obtain⟨x1,x2,x3,x4,x5⟩:=formedA_spec (t7 x hx)
     exact formedA_intro x1 x2 x3 (formed_normalT h _ x4) (by rw[Arr.item_mk,hNn _ x4]; exact x5)
    ·rw[eh]
     exact ih' a.item m (formedA_spec (t7 a ha)).2.2.2.1 (hbi.2.2.1 a ha) (by omega)
    ·rw[eh]; exact hW o ho
    ·rw[eh]; exact hO
theorem p_form (hL:LibOk) (NM:List S) (hn:NM.length≤40000) (t:Ty) (m:Nat) (hm:m≤40001) (hb:bdT NM m t) (hh:heightT t<1073741824) (ht:formedT t=true):Ret prog M.F_tidy_form [.agg (cT t)] (.agg (cT (formT t))) :=
 tform_step t hh (fun h h8=>pnormal hL NM hn h h8 t m ht hb (Nat.le_trans hm (capM_ge h))) fun h h8 =>
  ⟨⟨formed_normalT h t ht,nm_of_bd (by omega) _ (formed_normalT h t ht) (bd_normalT h t m hb)⟩,by have:=height_normalT h t 8 (.inr h8); omega⟩
theorem bd_formT {NM:List S} {m:Nat} {t:Ty} (hb:bdT NM m t):bdT NM 4 (formT t):=by
 obtain⟨k,_,e⟩:=formT_is t
 rw[e]; exact bd_normalT k t m hb
theorem p_Tidy (hL:LibOk) (NM:List S) (hn:NM.length≤40000) (t:Ty) (m:Nat) (hm:m≤40001) (hb:bdT NM m t) (hh:heightT t<1073741824):Ret prog M.F_tidy_Tidy [.agg (cT t)] (.tup [.agg (cT (if formedT t then formT t else tNever)),.int .i64 (if formedT t then 0 else 1)]) :=
 tTidy_step t (p_form hL NM hn t m hm hb hh) fun ht=>c_shape_Twin NM 4 (by omega) (by omega) _ (formT_formed ht) (bd_formT hb)
theorem p_Is (hL:LibOk) (NM:List S) (hn:NM.length≤40000) (t:Ty) (m:Nat) (hm:m≤40001) (hb:bdT NM m t) (hh:heightT t<1073741824):Ret prog M.F_tidy_Is [.agg (cT t)] (.bool (formedT t&&sameT t (formT t))) :=
 tIs_step t (p_form hL NM hn t m hm hb hh) formT_formed
theorem p_Sum (a b:Ty) (NM:List S) (m:Nat) (hn:NM.length≤40000) (hm:2*m≤4294967296) (hba:bdT NM m a) (hbb:bdT NM m b):Ret prog M.F_tidy_Sum [.agg (cT a),.agg (cT b)] (.tup [.agg (cT (if formedT a&&formedT b then sumT a b else tNever)),.int .i64 (if formedT a&&formedT b then 0 else 1)]) :=
 tSum_step a b NM m hm hba hbb fun ha hb=>c_shape_Twin NM (m+m) (by omega) (by omega) _ (formed_sumT a b ha hb) (bd_sum hba hbb)
end Go.Proofs.YtfilonnphgnplaaGreatDoor.Pv
set_option maxRecDepth 100000
namespace Go.Proofs.YtfilonnphgnplaaGreatDoor.Pv
open Go Go.Tidy
theorem p_cut0 (t:Ty) (h:t.all=true∨(t.arrays≠[]∨t.objects≠[])):Ret prog M.F_tidy_cut [.agg (cT t),.int .i64 0] (.agg (cT tEvery)):=by
 refine Ret.go hmix h_tidy_cut (by simp) fun hb w0 F0 hG=>?_
 simp only[bndL,bndV,List.length_map,LIM,and_true] at hb
 cases e0:t.all
 ·have h2:t.arrays≠[]∨t.objects≠[]:=by simpa[e0] using h
  have hl:0<(t.arrays.length:Int)+t.objects.length:=by
   rcases h2 with h2|h2
   ·have:=List.length_pos_iff.2 h2; omega
   ·have:=List.length_pos_iff.2 h2; omega
  have w:=wrap64 (n:=(t.arrays.length:Int)+t.objects.length) (by omega) (by omega)
  simp[e0,hl,w]
  intros
  refine XCall.ret c_shape_Every ?_
  simp[tEvery]
 ·simp[e0]
  intros
  refine XCall.ret c_shape_Every ?_
  simp[tEvery]
theorem p_Cut0 (t:Ty) (ht:formedT t=true) (h:t.all=true∨(t.arrays≠[]∨t.objects≠[])):Ret prog M.F_tidy_Cut [.agg (cT t),.int .i64 0] (.tup [.agg (cT tEvery),.int .i64 0]):=by
 refine Ret.go hmix h_tidy_Cut (by simp) fun hb w0 F0 hG=>?_
 have c1:=c_shape_Formed t
 have c2:=p_cut0 t h
 rw[ht] at c1
 simp
 intro v2 v4
 refine XCall.ret (by simpa using c1) ?_
 simp
 refine XCall.ret (by simpa using c2) ?_
 simp
set_option maxHeartbeats 4000000 in
theorem p_One (hL:LibOk) (NM:List S) (m:Nat) (l:List Ob) (hne:l≠[]) (hf:∀ o∈l,formedO o=true) (hm:∀ o∈l,bdO NM m o) (h0:0<m) (h4:l.length*m≤4294967296) (hNM:NM.length≤134217728) :
 Ret prog M.F_tidy_One [.vec 12 false (l.map encObj)] (.tup [.agg (cO (oneO l)),.int .i64 0]):=by
 obtain⟨kt,et,hk⟩:=hL.keys
 have hl0:0<l.length:=List.length_pos_iff.2 hne
 have hlm:l.length≤l.length*m:=Nat.le_mul_of_pos_right _ h0
 have c1:=c_tidy_one hk NM m l hf hm h4 (by omega) hNM
 have f1:=formed_oneO hf hne
 have c2:=c_tidy_alone (oneO l)
 have c3:=c_shape_Twin NM (l.length*m) (by omega) (by omega) (aloneT (oneO l)) (alone_formed f1) (bd_alone (by omega) (bd_oneO hm))
 refine Ret.go hmix h_tidy_One (by simp) fun hb w0 F0 hG=>?_
 generalize oneO l=r at *
 have g0:¬ (l.length:Int)=0:=by omega
 simp[g0,hne]
 intro v2
 refine XLoop.cntR hmix [] rfl l.length (fun v k (_:Unit)=>⟨[(12,.int .i64 k),(11,.int .i64 l.length),(10,.vec 12 false (l.map encObj)),(3,.int .i64 0),(2,.ptr (2,v2) 12 0 0),(0,.vec 12 false (l.map encObj))],[((2,v2),some ⟨12,[M.z4],false,true⟩)]⟩) (fun _ _=>True) () trivial (fun v=>by simp) fun v k _ _ hk _=>?_
 have hw:=wrap64 (n:=(k:Int)+1) (by omega) (by omega)
 by_cases g:k<l.length
 ·have ho:=hf _ (List.getElem_mem g)
  have d1:=c_tidy_alone l[k]
  have d2:=c_shape_Formed (aloneT l[k])
  rw[alone_formed ho] at d2
  generalize eo:l[k]=o at *
  simp[g,eo]
  intro v3
  refine XCall.ret (by simpa using d1) ?_
  simp[g,eo]
  refine XCall.ret (by simpa using d2) ?_
  simp[g,hw]
 ·simp[g]
  refine XCall.ret (by simpa using c1) ?_
  simp
  refine XCall.ret (by simpa using c2) ?_
  simp
  refine XCall.ret (by simpa using c3) ?_
  simp[aloneT]
end Go.Proofs.YtfilonnphgnplaaGreatDoor.Pv
set_option maxRecDepth 100000
namespace Go.Proofs.YtfilonnphgnplaaGreatDoor.Pv
open Go Go.Tidy
abbrev xA:S:=⟨#[97]⟩
abbrev xB:S:=⟨#[98]⟩
abbrev xNull:Ty:=.mk false true false false [] false [] [] []
abbrev xTrue:Ty:=.mk false false false true [] false [] [] []
abbrev xNo:Ty:=.mk false false false false [] false [] [] []
abbrev xO1:Ob:=.mk [xA,xB] [xNull,xNull] [false,true] xNull
abbrev xO2:Ob:=.mk [xB] [xNull] [true] xNull
abbrev xO3:Ob:=.mk [xA] [xNo] [false] xNo
abbrev xO4:Ob:=.mk [xA,xB] [xNull,xNull] [false,false] xNull
abbrev xT1:Ty:=.mk false false false false [] false [] [] [xO1]
abbrev xT2:Ty:=.mk false false false false [] false [] [] [xO2]
theorem x_form:formT xT1=xT2:=by kernel_rfl
theorem x_formed:formedT xT1=true:=by kernel_rfl
theorem x_is:(formedT xNull&&sameT xNull (formT xNull))=true:=by kernel_rfl
theorem x_isnt:(formedT xT1&&sameT xT1 (formT xT1))=false:=by kernel_rfl
theorem x_sum:sumT xNull xTrue=.mk false true false true [] false [] [] []:=by kernel_rfl
theorem x_one:oneO [xO1,xO3]=xO4:=by kernel_rfl
theorem x_bd:bdT [xA,xB] 4 xT1:=by simp[bdT,bdAs,bdOs,bdTs,bdO]
theorem x_bdN:bdT [xA,xB] 4 xNull:=by simp[bdT,bdAs,bdOs,bdTs,bdO]
theorem x_bdT:bdT [xA,xB] 4 xTrue:=by simp[bdT,bdAs,bdOs,bdTs,bdO]
theorem x_bdO:∀ o∈[xO1,xO3],bdO [xA,xB] 4 o:=by simp[bdT,bdAs,bdOs,bdTs,bdO]
theorem x1 (hL:LibOk):Ret prog M.F_tidy_Tidy [.agg (cT xT1)] (.tup [.agg (cT xT2),.int .i64 0]):=by
 have:=p_Tidy hL [xA,xB] (by simp) xT1 4 (by omega) x_bd (by decide)
 rw[x_formed,x_form] at this
 simpa using this
theorem x2 (hL:LibOk):Ret prog M.F_tidy_Is [.agg (cT xNull)] (.bool true):=by
 have:=p_Is hL [xA,xB] (by simp) xNull 4 (by omega) x_bdN (by decide)
 rw[x_is] at this
 exact this
theorem x3 (hL:LibOk):Ret prog M.F_tidy_Is [.agg (cT xT1)] (.bool false):=by
 have:=p_Is hL [xA,xB] (by simp) xT1 4 (by omega) x_bd (by decide)
 rw[x_isnt] at this
 exact this
theorem x4:Ret prog M.F_tidy_Sum [.agg (cT xNull),.agg (cT xTrue)] (.tup [.agg (cT (.mk false true false true [] false [] [] [])),.int .i64 0]):=by
 have:=p_Sum xNull xTrue [xA,xB] 4 (by simp) (by omega) x_bdN x_bdT
 rw[show formedT xNull=true by kernel_rfl,show formedT xTrue=true by kernel_rfl,x_sum] at this
 simpa using this
theorem x5:Ret prog M.F_tidy_Cut [.agg (cT xT2),.int .i64 0] (.tup [.agg (cT tEvery),.int .i64 0]):=p_Cut0 xT2 (by kernel_rfl) (.inr (.inr (by simp)))
theorem x6 (hL:LibOk):Ret prog M.F_tidy_One [.vec 12 false ([xO1,xO3].map encObj)] (.tup [.agg (cO xO4),.int .i64 0]):=by
 have:=p_One hL [xA,xB] 4 [xO1,xO3] (by simp) (by
  intro o ho
  simp only[List.mem_cons,List.not_mem_nil,or_false] at ho
  rcases ho with rfl|rfl<;>kernel_rfl) x_bdO (by omega) (by simp) (by simp)
 rw[x_one] at this
 exact this
set_option maxHeartbeats 8000000 in
theorem c_law11_fixed (hL:LibOk):Ret prog M.F_law11_fixed [] (.bool true):=by
 refine Ret.go hmix h_law11_fixed (by simp) fun hb w0 F0 hG=>?_
 have y1:=x1 hL
 have y2:=x2 hL
 have y3:=x3 hL
 have y4:=x4
 have y5:=x5
 have y6:=x6 hL
 simp
 intros
 have hs:sEq xB ⟨#[98]⟩=true:=by kernel_rfl
 refine XCall.ret (by first|exact y1|(simp; exact y1)) ?_
 simp[hs]
 intros
 refine XCall.ret (by first|exact y2|(simp; exact y2)) ?_
 simp[hs]
 intros
 refine XCall.ret (by first|exact y3|(simp; exact y3)) ?_
 simp[hs]
 intros
 refine XCall.ret (by first|exact y4|(simp; exact y4)) ?_
 simp[hs]
 intros
 refine XCall.ret (by first|exact y5|(simp; exact y5)) ?_
 simp[hs,tEvery]
 intros
 refine XCall.ret (by first|exact y6|(simp; exact y6)) ?_
 simp[hs]
end Go.Proofs.YtfilonnphgnplaaGreatDoor.Pv
set_option maxRecDepth 100000
namespace Go.Proofs.YtfilonnphgnplaaGreatDoor.Pv
open Go Go.Tidy
def nmsP (t:Ty):List S:=nmsT t++List.replicate (20000-(nmsT t).length) ByteArray.empty
theorem fit_all {t:Ty} (h:fitB t=true):(nmsP t).length=20000∧szT t≤20000∧bdT (nmsP t) (szT t) t:=by
 obtain⟨h1,h2,_⟩:=fit_bdT (of_decide_eq_true h)
 exact⟨by simp[nmsP]; omega,h2,bd_sz t (fun n hn=>List.mem_append_left _ hn) (Nat.le_refl _)⟩
end Go.Proofs.YtfilonnphgnplaaGreatDoor.Pv

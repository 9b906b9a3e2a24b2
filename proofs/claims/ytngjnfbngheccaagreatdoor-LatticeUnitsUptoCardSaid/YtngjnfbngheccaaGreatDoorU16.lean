/- Part 16. -/
import Derived.Test.YtngjnfbngheccaaGreatDoorU15
set_option linter.unusedSimpArgs false
set_option linter.unusedVariables false
set_option maxRecDepth 100000
namespace Go.Proofs.YtngjnfbngheccaaGreatDoor.Pv
open Go Go.Tidy
theorem aO0 (l:List Ob):kfR (l.map au)=true:=by
 induction l with
 | nil=>rfl
 | cons o l ih=>simp[kfR,ih]
theorem aM7 {l:List Arr} {k:Nat} (hk:k<l.length):(l.map dz).set k (cA l[k])=l.map dz:=by
 rw[← azv,← List.map_set,List.set_getElem_self]
theorem aM2 {l:List Ob} {k:Nat} (hk:k<l.length):(l.map au).set k (cO l[k])=l.map au:=by
 rw[← CU,← List.map_set,List.set_getElem_self]
theorem aOG {l:List Ty} {k:Nat} (hk:k<l.length):(l.map fq).set k (cT l[k])=l.map fq:=by
 rw[← ah9,← List.map_set,List.set_getElem_self]
theorem aIk {hl:Key→Option HE}:∀ {l:List (List PV)} {k:Nat} {row:List PV} (hk:k<l.length),leL hl row l[k]→leR hl (l.set k row) l
 | [],k,_,hk,_=>by simp at hk
 | x::l,0,row,_,h=>by
   rw[List.set_cons_zero]
   exact⟨h,bf hl l⟩
 | x::l,k+1,row,hk,h=>by
   rw[List.set_cons_succ]
   exact⟨Wo hl x,aIk (by simpa using hk) h⟩
def twO (o:Ob) (a b c:PV):List PV:=[a,b,c,.bool o.rest.all,.bool o.rest.null,.bool o.rest.fls,.bool o.rest.tru,.vec 2 false (o.rest.nums.map dw),.bool o.rest.any,.vec 1 false (o.rest.texts.map encStr),.vec 11 false (o.rest.arrays.map dz),.vec 12 false (o.rest.objects.map au)]
def Fq (t:Ty) (a o:PV):List PV:=[.bool t.all,.bool t.null,.bool t.fls,.bool t.tru,.vec 2 false (t.nums.map dw),.bool t.any,.vec 1 false (t.texts.map encStr),a,o]
set_option maxHeartbeats 8000000 in
theorem azD (t:Ty) (h1:t.nums.length≤34359738368) (h2:t.texts.length≤34359738368) (h3:t.arrays.length≤34359738368) (h4:t.objects.length≤34359738368)
 (hA:∀ a∈t.arrays,Ret prog M.jG [.agg (cT a.item)] (.agg (cT a.item)))
 (hO:∀ o∈t.objects,o.names.length≤34359738368∧o.fields.length≤34359738368∧o.must.length≤34359738368∧(∀ f∈o.fields,Ret prog M.jG [.agg (cT f)] (.agg (cT f)))∧Ret prog M.jG [.agg (cT o.rest)] (.agg (cT o.rest))) :
 Ret prog M.jG [.agg (cT t)] (.agg (cT t)):=by
 refine Ret.go ah ao3 (by simp) fun hb w0 F0 hG=>?_
 have c1:=ac8 false (t.nums.map dw) (by simp; omega)
 have c2:=vg false (t.texts.map encStr) (by simp; omega)
 have c3:=aeu false (t.arrays.map dz) (by simp; omega)
 have c4:=Xk false (t.objects.map au) (by simp; omega)
 simp
 intro v1 v2 v3
 refine aH.zn c1 ?_
 simp
 refine aH.zn c2 ?_
 simp
 intro v4
 refine aH.zn c3 ?_
 simp
 refine aH.zn c4 ?_
 simp
 refine aU.anew [(8000001,11,1007),(9000001,12,1008)] rfl (fun v=>⟨[(26,.int .i64 0),(25,.int .i64 t.arrays.length),(2,.ptr (2,v2) 9 0 0),(1,.ptr (1,v1) 9 0 0)],[((1,v1),some ⟨9,[Fq t (.own (1007,v) 11 0 t.arrays.length false) (.own (1008,v) 12 0 t.objects.length false)],false,true⟩),((1007,v),some ⟨11,t.arrays.map dz,false,false⟩),((1008,v),some ⟨12,t.objects.map au,false,false⟩),((2,v2),some ⟨9,[M.z1],false,true⟩)]⟩) (fun v=>by simp[Fq,bf]) fun v hv=>?_
 refine aU.cnt ah t.arrays.length (fun k (_:Unit)=>⟨[(26,.int .i64 k),(25,.int .i64 t.arrays.length),(2,.ptr (2,v2) 9 0 0),(1,.ptr (1,v1) 9 0 0)],[((1,v1),some ⟨9,[Fq t (.own (1007,v) 11 0 t.arrays.length false) (.own (1008,v) 12 0 t.objects.length false)],false,true⟩),((1007,v),some ⟨11,t.arrays.map dz,false,false⟩),((1008,v),some ⟨12,t.objects.map au,false,false⟩),((2,v2),some ⟨9,[M.z1],false,true⟩)]⟩) (fun _ _=>True) () trivial (by simp[Fq,bf]) fun k _ hk _=>?_
 have hw:=wrap64 (n:=(k:Int)+1) (by omega) (by omega)
 by_cases g1:k<t.arrays.length
 ·have cA:=hA _ (List.getElem_mem g1)
  have hs:=aM7 g1
  simp[g1,Fq]
  intro v5
  refine aH.ret (by simpa using cA) ?_
  simp[g1,hw,hs,bf]
 ·simp[g1,Fq]
  refine aU.anew [(9000001,12,1009)] rfl (fun v=>⟨[(45,.int .i64 0),(44,.int .i64 t.objects.length),(2,.ptr (2,v2) 9 0 0),(1,.ptr (1,v1) 9 0 0)],[((1,v1),some ⟨9,[Fq t (.vec 11 false (t.arrays.map dz)) (.own (1009,v) 12 0 t.objects.length false)],false,true⟩),((1009,v),some ⟨12,t.objects.map au,false,true⟩),((2,v2),some ⟨9,[M.z1],false,true⟩)]⟩) (fun v=>by simp[Fq,bf]) fun u hu=>?_
  refine aU.aQH ah t.objects.length (fun k=>⟨[(45,.int .i64 k),(44,.int .i64 t.objects.length),(2,.ptr (2,v2) 9 0 0),(1,.ptr (1,v1) 9 0 0)],[((1,v1),some ⟨9,[Fq t (.vec 11 false (t.arrays.map dz)) (.own (1009,u) 12 0 t.objects.length false)],false,true⟩),((1009,u),some ⟨12,t.objects.map au,false,true⟩),((2,v2),some ⟨9,[M.z1],false,true⟩)]⟩) 2
   ⟨[(2,.ptr (2,v2) 9 0 0),(1,.ptr (1,v1) 9 0 0)],[((1,v1),some ⟨9,[Fq t (.vec 11 false (t.arrays.map dz)) (.own (1009,u) 12 0 t.objects.length false)],false,true⟩),((1009,u),some ⟨12,t.objects.map au,false,false⟩),((2,v2),some ⟨9,[M.z1],false,true⟩)]⟩ (fun v=>by simp[Fq,bf]) ?_ ?_
  ·intro k hk
   have hw:=wrap64 (n:=(k:Int)+1) (by omega) (by omega)
   by_cases g2:k<t.objects.length
   ·obtain⟨o1,o2,o3,o4,o5⟩:=hO _ (List.getElem_mem g2)
    have hs:=aM2 g2
    have d1:=vg false (t.objects[k].names.map encStr) (by simp; omega)
    have d2:=acU false (t.objects[k].must.map lU) (by simp; omega)
    have d3:=ada false (t.objects[k].fields.map fq) (by simp; omega)
    generalize ho:t.objects[k]=o at *
    simp[g2,Fq,ho]
    intro v5
    refine aH.zn d1 ?_
    simp[g2,ho]
    refine aH.zn d2 ?_
    simp[g2,ho]
    refine aH.zn d3 ?_
    simp[g2,ho]
    have hnl:(t.objects.map au).length=t.objects.length:=by simp
    refine aU.cnt ah o.fields.length (fun j (_:Unit)=>⟨[(81,.int .i64 j),(80,.int .i64 o.fields.length),(5,.ptr (1009,u) 12 k 0),(45,.int .i64 k),(44,.int .i64 t.objects.length),(2,.ptr (2,v2) 9 0 0),(1,.ptr (1,v1) 9 0 0)],
     [((1009,u),some ⟨12,(t.objects.map au).set k (twO o (.own (59,v5) 1 0 o.names.length false) (.own (69,v5) 9 0 o.fields.length false) (.own (64,v5) 1 0 o.must.length false)),false,true⟩),((69,v5),some ⟨9,o.fields.map fq,false,false⟩),((64,v5),some ⟨1,o.must.map lU,false,false⟩),((59,v5),some ⟨1,o.names.map encStr,false,false⟩),((1,v1),some ⟨9,[Fq t (.vec 11 false (t.arrays.map dz)) (.own (1009,u) 12 0 t.objects.length false)],false,true⟩),((2,v2),some ⟨9,[M.z1],false,true⟩)]⟩) (fun _ _=>True) () trivial (by simp[Fq,twO,bf]) fun j _ hj _=>?_
    have hwj:=wrap64 (n:=(j:Int)+1) (by omega) (by omega)
    by_cases g3:j<o.fields.length
    ·have cF:=o4 _ (List.getElem_mem g3)
     have hsf:=aOG g3
     simp[g2,g3,Fq,twO]
     intro v6
     refine aH.ret (by simpa using cF) ?_
     simp[g2,g3,hwj,hsf,bf]
    ·simp[g2,g3,Fq,twO]
     refine ak.ret (by simpa using o5) ?_
     simp[g2,hw]
     refine aIk (by simpa using g2) ?_
     have e:(t.objects.map au)[k]'(by simpa using g2)=cO o:=by simp[ho]
     rw[e]
     simp
   ·simp[g2,Fq,bf,aO0]
  ·simp[Fq]
theorem abq (NM:List S) (m:Nat) (h1:NM.length≤8589934592) (h2:m≤8589934592):∀ t:Ty,aj t=true→bdT NM m t→Ret prog M.jG [.agg (cT t)] (.agg (cT t)):=by
 have key:∀ (n:Nat) (t:Ty),aK t≤n→aj t=true→bdT NM m t→Ret prog M.jG [.agg (cT t)] (.agg (cT t)):=by
  intro n
  induction n with
  | zero =>
    intro t hh ht hb
    have h0:=sW.1 hh
    obtain⟨b1,b2,_,_⟩:=uz.1 hb
    have f4:=(bN ht).2.2.2.1
    exact azD t (by omega) (by omega) (by simp[h0.1]) (by simp[h0.2]) (by simp[h0.1]) (by simp[h0.2])
  | succ n ih =>
    intro t hh ht hb
    have hs:=uh.1 hh
    obtain⟨b1,b2,b3,b4⟩:=uz.1 hb
    obtain⟨f1,f2,f3,f4,f5,f6,f7,f8⟩:=bN ht
    refine azD t (by omega) (by omega) (by omega) (by omega) (fun a ha=>?_) (fun o ho=>?_)
    ·exact ih a.item (hs.1 a ha) (gY (f7 a ha)).2.2.2.1 (b3 a ha)
    ·obtain⟨o1,o2,o3,o4,o5,o6⟩:=dH (f8 o ho)
     have hb':=b4 o ho
     have hnl:o.names.length≤NM.length:=NI (oq (f8 o ho)) hb'.1
     exact⟨by omega,by omega,by omega,fun f hf=>ih f ((hs.2 o ho).2 f hf) (o5 f hf) (hb'.2.1 f hf),ih o.rest (hs.2 o ho).1 o4 hb'.2.2⟩
 exact fun t=>key (aK t) t (Nat.le_refl _)
end Go.Proofs.YtngjnfbngheccaaGreatDoor.Pv
set_option maxRecDepth 100000
namespace Go.Proofs.YtngjnfbngheccaaGreatDoor.Pv
open Go Go.Tidy
abbrev iW (gs gv:Nat) (l:List Ob):List (Key × Option HE):=[((gs,gv),some ⟨12,l.map au,false,false⟩)]
theorem ajl {l:List Ob} {a b:Nat} (ha:a<l.length) (hb:b<l.length):((l.map au).set a (cO l[b])).set b (cO l[a])=(Zq l a b).map au:=by
 rw[← CU,← CU,← List.map_set,← List.map_set]
 unfold Zq
 rw[List.getElem?_eq_getElem ha,List.getElem?_eq_getElem hb]
set_option maxHeartbeats 4000000 in
theorem aG9 (gs gv:Nat) (fl:Bool) (l:List Ob) (a b n:Nat) (fid:Nat) (ha:a+n≤l.length) (hb' : b+n≤l.length) (hl:l.length≤34359738368) :
 wU prog M.kG [.own (gs,gv) 12 0 l.length fl,.int .i64 a,.int .i64 b,.int .i64 n,.fn fid [] []] (iW gs gv l) (fun r h=>r=.tup []∧h=iW gs gv (wh l a b n)):=by
 refine wU.of ah acH (by simp) fun E hP hV=>?_
 have hgV:=hV (gs,gv) ⟨12,l.map au,false,false⟩ (by simp[hk])
 obtain⟨P,w0,F0,nt,G,V,glob⟩:=E
 obtain rfl:P=prog:=hP
 simp
 refine aU.cnt ah n (fun k (_:Unit)=>⟨[(10,.int .i64 k),(0,.own (gs,gv) 12 0 l.length fl),(1,.int .i64 a),(2,.int .i64 b),(3,.int .i64 n),(4,.fn fid [] [])],iW gs gv (wh l a b k)⟩) (fun _ _=>True) () trivial (by simp[wh,bf]) fun k _ hk _=>?_
 have hw:=wrap64 (n:=(k:Int)+1) (by omega) (by omega)
 have hlen:=auG l a b k
 by_cases h1:k<n
 ·obtain⟨i,hi⟩ : ∃ i,i=a+k:=⟨_,rfl⟩
  obtain⟨j,hj⟩ : ∃ j,j=b+k:=⟨_,rfl⟩
  have e1:(a:Int)+k=(i:Nat):=by omega
  have e2:(b:Int)+k=(j:Nat):=by omega
  have w1:=wrap64 (n:=(i:Nat)) (by omega) (by omega)
  have w2:=wrap64 (n:=(j:Nat)) (by omega) (by omega)
  have q1:i<(wh l a b k).length:=by omega
  have q2:j<(wh l a b k).length:=by omega
  have q3:i<l.length:=by omega
  have q4:j<l.length:=by omega
  have hs:=ajl q1 q2
  have hrow:(((wh l a b k).map au).set i (cO (wh l a b k)[j]))[j]'(by simpa using q2)=cO (wh l a b k)[j]:=by
   rw[List.getElem_set]; split
   ·rfl
   ·simp
  have hst:wh l a b (k+1)=Zq (wh l a b k) i j:=by rw[hi,hj]; rfl
  rw[← hst] at hs
  obtain⟨l2,hl2⟩ : ∃ x,wh l a b (k+1)=x:=⟨_,rfl⟩
  rw[hl2] at hs hst
  generalize wh l a b k=l1 at *
  simp[h1,hw,e1,e2,w1,w2,q1,q2,q3,q4,hrow,hs,hl2,bf]
 ·have:k=n:=by omega
  subst this
  simp[h1]
  intro a1 b1 _
  by_cases hk:a1=gs∧b1=gv<;>simp[hk,bf]
theorem axC (gs gv:Nat) (fl:Bool) (p x z y q:List Ob) (fid:Nat) {L:List Ob} {n a b k:Nat} (hL:L=p++x++z++y++q) (hn:n=L.length) (ha:a=p.length) (hb:b=p.length+k+z.length) (hx:x.length=k) (hy:y.length=k) (hl:n≤34359738368) :
 wU prog M.kG [.own (gs,gv) 12 0 n fl,.int .i64 a,.int .i64 b,.int .i64 k,.fn fid [] []] (iW gs gv L) (fun r h=>r=.tup []∧h=iW gs gv (p++y++z++x++q)):=by
 have hlen:L.length=p.length+k+z.length+k+q.length:=by rw[hL]; simp[hx,hy]; omega
 have:=aG9 gs gv fl L a b k fid (by omega) (by omega) (by omega)
 rw[← hn] at this
 refine this.mono ?_
 rintro r h' ⟨h1,h2⟩
 refine⟨h1,?_⟩
 rw[h2,hL,aGl p x z y q hx hy ha hb]
end Go.Proofs.YtngjnfbngheccaaGreatDoor.Pv
set_option maxRecDepth 100000
namespace Go.Proofs.YtngjnfbngheccaaGreatDoor.Pv
open Go Go.Tidy
structure ad4 where
 p:List Ob
 x:List Ob
 y:List Ob
 q:List Ob
def ad4.l (g:ad4):List Ob:=g.p++g.x++g.y++g.q
set_option maxHeartbeats 4000000 in
theorem aMO (gs gv:Nat) (fl:Bool) (p x y q:List Ob) (fid:Nat) {L:List Ob} {n a m b:Nat} (hL:L=p++x++y++q) (hn:n=L.length) (ha:a=p.length) (hm:m=p.length+x.length) (hb:b=p.length+x.length+y.length) (px:0<x.length) (py:0<y.length) (hl:n≤34359738368) :
 wU prog M.Ah [.own (gs,gv) 12 0 n fl,.int .i64 a,.int .i64 m,.int .i64 b,.fn fid [] []] (iW gs gv L) (fun r h=>r=.tup []∧h=iW gs gv (p++y++x++q)):=by
 refine wU.of ah afj (by simp) fun E hP hV=>?_
 have hgV:=hV (gs,gv) ⟨12,L.map au,false,false⟩ (by simp[hk])
 obtain⟨P,w0,F0,nt,G,V,glob⟩:=E
 obtain rfl:P=prog:=hP
 obtain⟨R,hR⟩ : ∃ R,R=p++y++x++q:=⟨_,rfl⟩
 have hlen:L.length=p.length+x.length+y.length+q.length:=by rw[hL]; simp; omega
 rw[← hR]
 have w1:=wrap64 (n:=(x.length:Nat)) (by omega) (by omega)
 have w2:=wrap64 (n:=(y.length:Nat)) (by omega) (by omega)
 have e1:(m:Int)-a=(x.length:Nat):=by omega
 have e2:(b:Int)-m=(y.length:Nat):=by omega
 simp[e1,e2,w1,w2]
 obtain⟨J,hJ⟩ : ∃ J:ad4→Prop,J=fun g=>g.l.length=n∧0<g.x.length∧0<g.y.length∧g.p.length+g.x.length=m∧g.p++g.y++g.x++g.q=R:=⟨_,rfl⟩
 refine aU.go ah (fun (g:ad4)=>⟨[(10,.int .i64 g.x.length),(11,.int .i64 g.y.length),(0,.own (gs,gv) 12 0 n fl),(1,.int .i64 a),(2,.int .i64 m),(3,.int .i64 b),(4,.fn fid [] [])],iW gs gv g.l⟩) J (fun g=>g.x.length+g.y.length) ⟨p,x,y,q⟩ (by rw[hJ]; exact⟨by rw[hn,hL]; rfl,px,py,hm.symm,hR.symm⟩) (by simp[ad4.l,hL,bf]) fun g hj=>?_
 have hj' : g.l.length=n∧0<g.x.length∧0<g.y.length∧g.p.length+g.x.length=m∧g.p++g.y++g.x++g.q=R:=by rw[hJ] at hj; exact hj
 clear hj
 obtain⟨j1,j2,j3,j4,j5⟩:=hj'
 have jl:g.p.length+g.x.length+g.y.length+g.q.length=n:=by rw[← j1]; simp[ad4.l]; omega
 have e3:(m:Int)-g.x.length=(g.p.length:Nat):=by omega
 have w3:=wrap64 (n:=(g.p.length:Nat)) (by omega) (by omega)
 by_cases h1:g.x.length=g.y.length
 ·have h1' : (g.x.length:Int)=g.y.length:=by omega
  have c1:=axC gs gv fl g.p g.x [] g.y g.q fid (L:=g.l) (n:=n) (a:=g.p.length) (b:=m) (k:=g.x.length) (by simp[ad4.l]) j1.symm rfl (by simp; omega) rfl h1.symm (by omega)
  simp[h1',e3,w3]
  rw[← h1',e3,w3]
  refine ak.aat c1 ?_
  rintro r h' ⟨rfl,rfl⟩
  simp only[List.append_nil]
  rw[j5]
  simp
  intro a1 b1 _
  by_cases hk:a1=gs∧b1=gv<;>simp[hk,bf]
 ·have h1' : ¬ (g.x.length:Int)=g.y.length:=by omega
  by_cases h2:g.y.length<g.x.length
  ·have h2' : (g.y.length:Int)<g.x.length:=by omega
   have w4:=wrap64 (n:=((g.x.length-g.y.length:Nat):Int)) (by omega) (by omega)
   have e4:(g.x.length:Int)-g.y.length=((g.x.length-g.y.length:Nat):Int):=by omega
   obtain⟨x1,x2,hx,hx1⟩ : ∃ x1 x2,g.x=x1++x2∧x1.length=g.y.length:=⟨g.x.take g.y.length,g.x.drop g.y.length,(List.take_append_drop _ _).symm,by simp; omega⟩
   have hx2:x2.length=g.x.length-g.y.length:=by rw[hx]; simp; omega
   have c1:=axC gs gv fl g.p x1 x2 g.y g.q fid (L:=g.l) (n:=n) (a:=g.p.length) (b:=m) (k:=g.y.length) (by simp[ad4.l,hx]) j1.symm rfl (by omega) hx1 rfl (by omega)
   rw[← hx2] at w4 e4
   simp[h1']
   refine bF.go ah ?_
   simp[h2',e3,w3]
   refine ak.aat c1 ?_
   rintro r h' ⟨rfl,rfl⟩
   simp[e4,w4]
   exact⟨⟨g.p++g.y,x2,x1,g.q⟩,by rw[hJ]; exact⟨by rw[← j1]; simp[ad4.l,hx]; omega,by simp only; omega,by simp only; omega,by simp; omega,by rw[← j5,hx]; simp⟩,by simp only; omega,by simp[ad4.l,bf,hx1]⟩
  ·have h2' : ¬ (g.y.length:Int)<g.x.length:=by omega
   have w4:=wrap64 (n:=((g.y.length-g.x.length:Nat):Int)) (by omega) (by omega)
   have e4:(g.y.length:Int)-g.x.length=((g.y.length-g.x.length:Nat):Int):=by omega
   obtain⟨y1,y2,hy,hy2⟩ : ∃ y1 y2,g.y=y1++y2∧y2.length=g.x.length:=⟨g.y.take (g.y.length-g.x.length),g.y.drop (g.y.length-g.x.length),(List.take_append_drop _ _).symm,by simp; omega⟩
   have hy1:y1.length=g.y.length-g.x.length:=by rw[hy]; simp; omega
   have c1:=axC gs gv fl g.p g.x y1 y2 g.q fid (L:=g.l) (n:=n) (a:=g.p.length) (b:=m+g.y.length-g.x.length) (k:=g.x.length) (by simp[ad4.l,hy]) j1.symm rfl (by omega) rfl hy2 (by omega)
   obtain⟨b',hb'⟩ : ∃ b',b'=m+g.y.length-g.x.length:=⟨_,rfl⟩
   rw[← hb'] at c1
   have e5:(m:Int)+g.y.length=((m+g.y.length:Nat):Int):=by omega
   obtain⟨s,hs⟩ : ∃ s,s=m+g.y.length:=⟨_,rfl⟩
   have e5:(m:Int)+g.y.length=(s:Nat):=by omega
   have e6:(s:Int)-g.x.length=(b' : Nat):=by omega
   have w5:=wrap64 (n:=(s:Nat)) (by omega) (by omega)
   have w6:=wrap64 (n:=(b' : Nat)) (by omega) (by omega)
   rw[← hy1] at w4 e4
   simp[h1']
   refine bF.go ah ?_
   simp[h2',e3,w3,e5,w5,e6,w6]
   refine ak.aat c1 ?_
   rintro r h' ⟨rfl,rfl⟩
   simp[e4,w4]
   exact⟨⟨g.p,y2,y1,g.x++g.q⟩,by rw[hJ]; exact⟨by rw[← j1]; simp[ad4.l,hy]; omega,by simp only; omega,by simp only; omega,by simp only; omega,by rw[← j5,hy]; simp⟩,by simp only; omega,by simp[ad4.l,bf,hy2]⟩
end Go.Proofs.YtngjnfbngheccaaGreatDoor.Pv
set_option maxRecDepth 100000
namespace Go.Proofs.YtngjnfbngheccaaGreatDoor.Pv
open Go Go.Tidy
def abQ:Ordering→Int
 | .lt=>-1
 | .eq=>0
 | .gt=>1
def aiL (fid:Nat) (f:Ob→Ob→Ordering) (D:Ob→Prop):Prop:=∀ a b,D a→D b→Ret prog fid [.agg (cO a),.agg (cO b)] (.int .i64 (abQ (f a b)))
structure afs where
 p:List Ob
 z1:List Ob
 v:Ob
 z2:List Ob
 q:List Ob
def afs.l (g:afs):List Ob:=g.p++g.z1++g.v::(g.z2++g.q)
structure ae7 where
 p:List Ob
 z:List Ob
 y:List Ob
 q:List Ob
def ae7.l (g:ae7):List Ob:=g.p++g.z++g.y++g.q
theorem Yc {n:Int} (h1:0≤n) (h2:n≤18446744073709551615):IntKind.u64.wrap n=n:=by
 simp[IntKind.wrap,IntKind.bits,IntKind.signed]
 omega
theorem aGi {α:Type} {p x q L:List α} (hL:L=p++x++q) {k j:Nat} (hk:k<x.length) (hj:j=p.length+k) (h:j<L.length):L[j]=x[k]:=by
 subst hL; subst hj
 rw[List.getElem_append_left (by simp; omega),List.getElem_append_right (by omega)]
 simp
set_option maxHeartbeats 4000000 in
theorem arI (gs gv:Nat) (fl:Bool) (p x q:List Ob) (fid:Nat) {f:Ob→Ob→Ordering} {D:Ob→Prop} (hf:Tot f) (hc:aiL fid f D) {L:List Ob} {n a b:Nat} (hL:L=p++x++q) (hn:n=L.length) (ha:a=p.length) (hb:b=p.length+x.length) (hD:∀ o∈L,D o) (hl:n≤34359738368) :
 wU prog M.jC [.own (gs,gv) 12 0 n fl,.int .i64 a,.int .i64 b,.fn fid [] []] (iW gs gv L) (fun r h=>r=.tup []∧∃ z,h=iW gs gv (p++z++q)∧z.Perm x∧Srt f z):=by
 refine wU.of ah Cu (by simp) fun E hP hV=>?_
 have hgV:=hV (gs,gv) ⟨12,L.map au,false,false⟩ (by simp[hk])
 obtain⟨P,w0,F0,nt,G,V,glob⟩:=E
 obtain rfl:P=prog:=hP
 have hlen:L.length=p.length+x.length+q.length:=by rw[hL]; simp; omega
 obtain⟨a1,ha1⟩ : ∃ a1,a1=a+1:=⟨_,rfl⟩
 have e1:(a:Int)+1=(a1:Nat):=by omega
 have w1:=wrap64 (n:=(a1:Nat)) (by omega) (by omega)
 simp[e1,w1]
 obtain⟨J,hJ⟩ : ∃ J:Nat × ae7→Prop,J=fun g=>g.2.p=p∧g.2.q=q∧g.2.l.length=n∧(g.2.z++g.2.y).Perm x∧Srt f g.2.z∧(∀ o∈g.2.l,D o)∧(g.2.y≠[]→g.1=a+g.2.z.length)∧(g.2.y=[]→b≤g.1)∧a<g.1∧g.1≤n+1:=⟨_,rfl⟩
 obtain⟨z0,y0,hx0,hz1,hz0⟩ : ∃ z0 y0,x=z0++y0∧z0.length≤1∧(x≠[]→z0.length=1):=by
  cases x with
  | nil=>exact⟨[],[],rfl,by simp,by simp⟩
  | cons u x=>exact⟨[u],x,rfl,by simp,by simp⟩
 have hst0:(⟨p,z0,y0,q⟩ : ae7).l=L:=by rw[hL,hx0]; simp[ae7.l]
 have hxl0:x.length=z0.length+y0.length:=by rw[hx0]; simp
 have hstart:J (a1,⟨p,z0,y0,q⟩):=by
  rw[hJ]
  refine⟨rfl,rfl,by simp[hst0,hn],by rw[hx0],?_,by simp only[hst0]; exact hD,fun h=>?_,fun h=>?_,by simp only; omega,by simp only; omega⟩
  ·match z0,hz1 with
   | [],_=>exact aOp
   | [u],_=>exact aOc u
  ·have:x≠[]:=by rw[hx0]; simp only at h; simp[h]
   have:=hz0 this
   simp only; omega
  ·simp only at h
   rw[h] at hxl0
   simp at hxl0
   simp only; omega
 refine aU.go ah (fun (g:Nat × ae7)=>⟨[(8,.int .i64 g.1),(0,.own (gs,gv) 12 0 n fl),(1,.int .i64 a),(2,.int .i64 b),(3,.fn fid [] [])],iW gs gv g.2.l⟩) J (fun g=>g.2.y.length) (a1,⟨p,z0,y0,q⟩) hstart (by simp[hst0,bf]) fun g hj=>?_
 obtain⟨i,g⟩:=g
 have hj' : g.p=p∧g.q=q∧g.l.length=n∧(g.z++g.y).Perm x∧Srt f g.z∧(∀ o∈g.l,D o)∧(g.y≠[]→i=a+g.z.length)∧(g.y=[]→b≤i)∧a<i∧i≤n+1:=by rw[hJ] at hj; exact hj
 clear hj
 obtain⟨j1,j2,j3,j4,j5,j6,j7,j8,j9,j10⟩:=hj'
 have hxl:g.z.length+g.y.length=x.length:=by rw[← j4.length_eq]; simp
 have hw:=wrap64 (n:=(i:Int)+1) (by omega) (by omega)
 by_cases h1:i<b
 ·have hy0:g.y≠[]:=fun h=>by have:=j8 h; omega
  have hi:=j7 hy0
  obtain⟨v,y',hy⟩:=List.exists_cons_of_ne_nil hy0
  simp[h1]
  obtain⟨J2,hJ2⟩ : ∃ J2:afs→Prop,J2=fun k=>k.p=p∧k.v=v∧k.q=y'++q∧k.z1++k.z2=g.z∧∀ u∈k.z2,f v u≠.gt:=⟨_,rfl⟩
  have hst2:(⟨p,g.z,v,[],y'++q⟩ : afs).l=g.l:=by simp[afs.l,ae7.l,j1,j2,hy]
  refine aU.go ah (fun (k:afs)=>⟨[(9,.int .i64 (a+k.z1.length:Nat)),(8,.int .i64 i),(0,.own (gs,gv) 12 0 n fl),(1,.int .i64 a),(2,.int .i64 b),(3,.fn fid [] [])],iW gs gv k.l⟩) J2 (fun k=>k.z1.length) ⟨p,g.z,v,[],y'++q⟩ (by rw[hJ2]; exact⟨rfl,rfl,rfl,by simp,by simp⟩) (by simp only[hst2]; simp[hi,bf]) fun k hj=>?_
  have hj' : k.p=p∧k.v=v∧k.q=y'++q∧k.z1++k.z2=g.z∧∀ u∈k.z2,f v u≠.gt:=by rw[hJ2] at hj; exact hj
  clear hj
  obtain⟨k1,k2,k3,k4,k5⟩:=hj'
  have hperm:k.l.Perm g.l:=by
   unfold afs.l ae7.l
   rw[k1,k2,k3,j1,j2,hy,← k4]
   simp only[List.append_assoc]
   refine List.Perm.append_left p ?_
   refine List.Perm.append_left _ ?_
   simp only[List.cons_append]
   exact (List.perm_middle (a:=v) (l₁:=k.z2) (l₂:=y'++q)).symm
  have hkl:k.l.length=n:=by rw[hperm.length_eq]; exact j3
  have hkD:∀ o∈k.l,D o:=fun o ho=>j6 o (hperm.mem_iff.1 ho)
  have hzl:k.z1.length+k.z2.length=g.z.length:=by rw[← k4]; simp
  have hout:∀ hgo:Srt f (k.z1++v::k.z2),∃ gg:Nat × ae7,J gg∧gg.2.y.length<g.y.length∧gg.1=i+1∧gg.2.l=k.l:=fun hgo=>by
   have hll:(⟨p,k.z1++v::k.z2,y',q⟩ : ae7).l=k.l:=by simp[afs.l,ae7.l,k1,k2,k3]
   refine⟨(i+1,⟨p,k.z1++v::k.z2,y',q⟩),?_,by simp[hy],rfl,hll⟩
   rw[hJ]
   refine⟨rfl,rfl,by simp only[hll]; exact hkl,?_,hgo,by simp only[hll]; exact hkD,fun _=>by simp; omega,fun h=>?_,by simp only; omega,by simp only; omega⟩
   ·refine List.Perm.trans ?_ j4
    rw[hy,← k4]
    simp only[List.append_assoc,List.cons_append]
    exact List.Perm.append_left _ (List.perm_middle (a:=v) (l₁:=k.z2) (l₂:=y')).symm
   ·simp only at h
    rw[h] at hy
    rw[hy] at hxl
    simp at hxl
    simp only; omega
  rcases List.eq_nil_or_concat k.z1 with hz|⟨z1',u,hz⟩
  ·obtain⟨gg,g1,g2,g3,g4⟩:=hout (by
      rw[hz]
      refine adL.2 ⟨k5,?_⟩
      rw[← k4,hz] at j5
      simpa using j5)
   simp[hz]
   exact fun _ _=>⟨gg.1,gg.2,g1,g2,by rw[hw,g3]; rfl,by rw[g4]; exact bf _ _⟩
  ·obtain⟨d,hd⟩ : ∃ d,d=a+k.z1.length:=⟨_,rfl⟩
   obtain⟨d1,hd1⟩ : ∃ d1,d1=a+z1'.length:=⟨_,rfl⟩
   have hzl' : k.z1.length=z1'.length+1:=by rw[hz]; simp
   rw[← hd]
   have ed:(d:Int)-1=(d1:Nat):=by omega
   have w2:=wrap64 (n:=(d1:Nat)) (by omega) (by omega)
   have q1:d<k.l.length:=by omega
   have q2:d1<k.l.length:=by omega
   have q3:d<n:=by omega
   have q4:d1<n:=by omega
   have q5:a<d:=by omega
   have hkl1:k.l=p++z1'++u::(v::(k.z2++k.q)):=by simp[afs.l,k1,k2,hz]
   have hv:k.l[d]=v:=aGi (p:=p++z1'++[u]) (x:=[v]) (q:=k.z2++k.q) (by rw[hkl1]; simp) (k:=0) (by simp) (by simp; omega) q1
   have hu:k.l[d1]=u:=aGi (p:=p++z1') (x:=[u]) (q:=v::(k.z2++k.q)) (by rw[hkl1]; simp) (k:=0) (by simp) (by simp; omega) q2
   have hcc:=hc v u (hkD v (by rw[← hv]; exact List.getElem_mem _)) (hkD u (by rw[← hu]; exact List.getElem_mem _))
   simp[q1,q2,q3,q4,q5,ed,w2,hv,hu]
   intro v' _
   refine aH.ret hcc ?_
   by_cases hlt:f v u=.lt
   ·have hs:=ajl q1 q2
    have hsw:Zq k.l d d1=(⟨p,z1',v,u::k.z2,k.q⟩ : afs).l:=by
     rw[hkl1]
     have:=azZ (p++z1') [] (k.z2++k.q) u v (a:=d1) (b:=d) (by simp; omega) (by simp; omega)
     simpa[afs.l] using this
    rw[hsw,hv,hu] at hs
    have hrow:((k.l.map au).set d (cO u))[d1]'(by simpa using q2)=cO u:=by
     rw[List.getElem_set,if_neg (by omega)]
     simp[hu]
    obtain⟨l2,hl2⟩ : ∃ l2,(⟨p,z1',v,u::k.z2,k.q⟩ : afs).l=l2:=⟨_,rfl⟩
    rw[hl2] at hs
    simp[hlt,abQ,q1,q2,q3,q4,q5,ed,w2,hv,hu,hrow,hs]
    refine fun _ _=>⟨⟨p,z1',v,u::k.z2,k.q⟩,?_,by simp only; omega,by simp[hl2,hd1,bf]⟩
    rw[hJ2]
    refine⟨rfl,rfl,k3,by rw[← k4,hz]; simp,fun y hy=>?_⟩
    rcases List.mem_cons.1 hy with rfl|hy
    ·exact hf.aDa hlt
    ·exact k5 y hy
   ·have hge:¬ abQ (f v u)<0:=by cases e:f v u<;>simp_all [abQ]
    obtain⟨gg,g1,g2,g3,g4⟩:=hout (ayO hf (by rw[k4]; exact j5) (fun y hy=>by
     rw[hz,List.concat_eq_append,List.getLast?_concat] at hy
     simp only[Option.mem_def,Option.some.injEq] at hy
     subst hy
     exact hf.nlt hlt) k5)
    simp[hge]
    exact⟨gg.1,gg.2,g1,g2,by rw[hw,g3]; rfl,by rw[g4]; exact bf _ _⟩
 ·have hy0:g.y=[]:=by
     rcases List.eq_nil_or_concat g.y with h|⟨_,_,h⟩
     ·exact h
     ·have:=j7 (by rw[h]; simp)
      have:0<g.y.length:=by rw[h]; simp
      omega
  simp[h1]
  have hfin:g.l=p++g.z++q:=by simp[ae7.l,j1,j2,hy0]
  refine⟨iW gs gv g.l,⟨g.z,by rw[hfin]; simp,by simpa[hy0] using j4,j5⟩,by simp,?_⟩
  intro a1 b1 _
  by_cases hk:a1=gs∧b1=gv<;>simp[hk,bf]
end Go.Proofs.YtngjnfbngheccaaGreatDoor.Pv
set_option maxRecDepth 100000
namespace Go.Proofs.YtngjnfbngheccaaGreatDoor.Pv
open Go Go.Tidy
theorem adA {α:Type} {p x q L:List α} (hL:L=p++x++q) {k j:Nat} (hk:k<x.length) (hj:j=p.length+k) (h:j<L.length):L[j]=x[k]:=by
 subst hL; subst hj
 rw[List.getElem_append_left (by simp; omega),List.getElem_append_right (by omega)]
 simp
theorem fd2 (s:Nat):((s:Nat):Int).fdiv 2=((s / 2:Nat):Int):=by
 rw[Int.fdiv_eq_ediv_of_nonneg _ (by omega)]; omega
theorem p2u:(2:Int) ^ min 1 IntKind.u64.bits=2:=by decide
set_option maxHeartbeats 4000000 in
theorem aIT (gs gv:Nat) (fl:Bool) (p:List Ob) (u:Ob) (y q:List Ob) (fid:Nat) {f:Ob→Ob→Ordering} {D:Ob→Prop} (hf:Tot f) (hc:aiL fid f D) {L:List Ob} {n a m b:Nat} (hL:L=p++u::(y++q)) (hn:n=L.length) (ha:a=p.length) (hm:m=a+1) (hb:b=m+y.length) (py:0<y.length) (hy:Srt f y) (hD:∀ o∈L,D o) (hl:n≤34359738368) :
 wU prog M.iq [.own (gs,gv) 12 0 n fl,.int .i64 a,.int .i64 m,.int .i64 b,.fn fid [] []] (iW gs gv L) (fun r h=>r=.tup []∧∃ z,h=iW gs gv (p++z++q)∧z.Perm (u::y)∧Srt f z):=by
 refine wU.of ah yC (by simp) fun E hP hV=>?_
 have hgV:=hV (gs,gv) ⟨12,L.map au,false,false⟩ (by simp[hk])
 obtain⟨P,w0,F0,nt,G,V,glob⟩:=E
 obtain rfl:P=prog:=hP
 have hlen:n=a+1+y.length+q.length:=by rw[hn,hL]; simp; omega
 have e1:(m:Int)-a=1:=by omega
 have w1:=wrap64 (n:=1) (by omega) (by omega)
 have hu:∀ h:a<L.length,L[a]=u:=fun h=>adA (p:=p) (x:=[u]) (q:=y++q) (by rw[hL]; simp) (k:=0) (by simp) (by omega) h
 have hyk:∀ k j (hk:k<y.length) (hj:j<L.length),j=m+k→L[j]=y[k]:=fun k j hk hj e=>adA (p:=p++[u]) (x:=y) (q:=q) (by rw[hL]; simp) hk (by simp; omega) hj
 have haL:a<L.length:=by omega
 have hua:=hu haL
 simp[e1,w1]
 obtain⟨J,hJ⟩ : ∃ J:Nat × Nat→Prop,J=fun g=>m≤g.1∧g.1≤g.2∧g.2≤b∧(∀ k (hk:k<y.length),m+k+1=g.1→f y[k] u=.lt)∧(∀ k (hk:k<y.length),m+k=g.2→f y[k] u≠.lt):=⟨_,rfl⟩
 refine aU.go ah (fun (g:Nat × Nat)=>⟨[(10,.int .i64 g.1),(11,.int .i64 g.2),(0,.own (gs,gv) 12 0 n fl),(1,.int .i64 a),(2,.int .i64 m),(3,.int .i64 b),(4,.fn fid [] [])],iW gs gv L⟩) J (fun g=>g.2-g.1) (m,b) (by rw[hJ]; exact⟨Nat.le_refl _,by simp only; omega,Nat.le_refl _,fun k _ h=>by simp only at h; omega,fun k _ h=>by simp only at h; omega⟩) (by simp[bf]) fun g hj=>?_
 obtain⟨i,j⟩:=g
 have hj' : m≤i∧i≤j∧j≤b∧(∀ k (hk:k<y.length),m+k+1=i→f y[k] u=.lt)∧(∀ k (hk:k<y.length),m+k=j→f y[k] u≠.lt):=by rw[hJ] at hj; exact hj
 clear hj
 obtain⟨j1,j2,j3,j4,j5⟩:=hj'
 by_cases h1:i<j
 ·obtain⟨s,hs⟩ : ∃ s,s=i+j:=⟨_,rfl⟩
  have es:(i:Int)+j=(s:Nat):=by omega
  have w2:=wrap64 (n:=(s:Nat)) (by omega) (by omega)
  have w3:=Yc (n:=(s:Nat)) (by omega) (by omega)
  obtain⟨h,hh⟩ : ∃ h,h=s / 2:=⟨_,rfl⟩
  have ef:=fd2 s
  rw[← hh] at ef
  have w4:=Yc (n:=(h:Nat)) (by omega) (by omega)
  have w5:=wrap64 (n:=(h:Nat)) (by omega) (by omega)
  have w6:=wrap64 (n:=(h:Int)+1) (by omega) (by omega)
  have hhL:h<L.length:=by omega
  obtain⟨k,hk⟩ : ∃ k,h=m+k:=⟨h-m,by omega⟩
  have hky:k<y.length:=by omega
  have hv:=hyk k h hky hhL hk
  have han:a<n:=by omega
  have hhn:h<n:=by omega
  simp[h1,es,w2,w3,p2u,ef,w4,w5]
  refine bF.go ah ?_
  simp[hhL,haL,han,hhn,hv,hua]
  intro v _
  refine aH.ret (hc _ _ (hD _ (by rw[← hv]; exact List.getElem_mem _)) (hD _ (by rw[← hua]; exact List.getElem_mem _))) ?_
  by_cases hlt:f y[k] u=.lt
  ·simp[hlt,abQ,w6]
   refine⟨h+1,j,?_,by omega,by simp⟩
   rw[hJ]
   refine⟨by simp only; omega,by simp only; omega,j3,fun k' hk' e=>?_,j5⟩
   have:k'=k:=by simp only at e; omega
   subst this; exact hlt
  ·have hge:¬ abQ (f y[k] u)<0:=by cases e:f y[k] u<;>simp_all [abQ]
   simp[hge]
   refine⟨i,h,?_,by omega,by simp⟩
   rw[hJ]
   refine⟨j1,by simp only; omega,by simp only; omega,j4,fun k' hk' e=>?_⟩
   have:k'=k:=by simp only at e; omega
   subst this; exact hlt
 ·obtain rfl:i=j:=by omega
  simp[h1]
  clear hJ J
  obtain⟨t,ht⟩ : ∃ t,i=m+t:=⟨i-m,by omega⟩
  have hty:t≤y.length:=by omega
  obtain⟨W,hW⟩ : ∃ W:Nat→List Ob,∀ k,W k=p++y.take k++u::(y.drop k++q):=⟨fun k=>p++y.take k++u::(y.drop k++q),fun _=>rfl⟩
  have hW0:W 0=L:=by rw[hW,hL]; simp
  obtain⟨c,hcc⟩ : ∃ c,c=a+t:=⟨_,rfl⟩
  have e2:(i:Int)-1=(c:Nat):=by omega
  have w2:=wrap64 (n:=(c:Nat)) (by omega) (by omega)
  refine aU.cnt ah t (fun k (_:Unit)=>⟨[(13,.int .i64 (a+k:Nat)),(10,.int .i64 i),(0,.own (gs,gv) 12 0 n fl),(1,.int .i64 a),(2,.int .i64 m),(3,.int .i64 b),(4,.fn fid [] [])],iW gs gv (W k)⟩) (fun _ _=>True) () trivial (by simp[hW0,bf]) fun k _ hk _=>?_
  obtain⟨d,hd⟩ : ∃ d,d=a+k:=⟨_,rfl⟩
  rw[← hd]
  by_cases h2:k<t
  ·have h2' : (d:Int)<c:=by omega
   have hky:k<y.length:=by omega
   have hWl:(W k).length=n:=by rw[hW,hlen]; simp; omega
   obtain⟨d1,hd1⟩ : ∃ d1,d1=d+1:=⟨_,rfl⟩
   have e3:(d:Int)+1=(d1:Nat):=by omega
   have w3:=wrap64 (n:=(d1:Nat)) (by omega) (by omega)
   have q1:d<(W k).length:=by omega
   have q2:d1<(W k).length:=by omega
   have q3:d<n:=by omega
   have q4:d1<n:=by omega
   have hs:=ajl q1 q2
   have hsw:Zq (W k) d d1=W (k+1):=by
    rw[hW,hW,List.take_succ_eq_append_getElem hky,xw hky]
    have:=aDB (p++y.take k) [] (y.drop (k+1)++q) u y[k] (a:=d) (b:=d1) (by simp; omega) (by simp; omega)
    simp only[List.append_assoc,List.cons_append,List.nil_append,List.singleton_append] at this ⊢
    exact this
   rw[hsw] at hs
   have hrow:(((W k).map au).set d (cO (W k)[d1]))[d1]'(by simpa using q2)=cO (W k)[d1]:=by
    rw[List.getElem_set]; split
    ·rfl
    ·simp
   have hdk:a+(k+1)=d1:=by omega
   obtain⟨l2,hl2⟩ : ∃ l2,W (k+1)=l2:=⟨_,rfl⟩
   rw[hl2] at hs
   generalize W k=l1 at *
   simp[h2,h2',e2,w2,e3,w3,q1,q2,q3,q4,hrow,hs]
   exact fun _ _=>⟨by omega,by rw[hl2]; exact bf _ _⟩
  ·have h2' : ¬ (d:Int)<c:=by omega
   obtain rfl:k=t:=by omega
   simp[h2',e2,w2]
   refine⟨iW gs gv (W k),⟨y.take k++u::y.drop k,by rw[hW]; simp,?_,aLc hf hy hty (fun k' hk' e=>j4 k' hk' (by omega)) (fun hk'=>j5 k hk' (by omega))⟩,?_,?_⟩
   ·exact (List.perm_middle (a:=u) (l₁:=y.take k) (l₂:=y.drop k)).trans (by rw[List.take_append_drop])
   ·simp
   ·intro a1 b1 _
    by_cases hk:a1=gs∧b1=gv<;>simp[hk,bf]
set_option maxHeartbeats 4000000 in
theorem aJY (gs gv:Nat) (fl:Bool) (p x:List Ob) (v:Ob) (q:List Ob) (fid:Nat) {f:Ob→Ob→Ordering} {D:Ob→Prop} (hf:Tot f) (hc:aiL fid f D) {L:List Ob} {n a m b:Nat} (hL:L=p++x++v::q) (hn:n=L.length) (ha:a=p.length) (hm:m=a+x.length) (hb:b=m+1) (px:1<x.length) (hx:Srt f x) (hD:∀ o∈L,D o) (hl:n≤34359738368) :
 wU prog M.iq [.own (gs,gv) 12 0 n fl,.int .i64 a,.int .i64 m,.int .i64 b,.fn fid [] []] (iW gs gv L) (fun r h=>r=.tup []∧∃ z,h=iW gs gv (p++z++q)∧z.Perm (x++[v])∧Srt f z):=by
 refine wU.of ah yC (by simp) fun E hP hV=>?_
 have hgV:=hV (gs,gv) ⟨12,L.map au,false,false⟩ (by simp[hk])
 obtain⟨P,w0,F0,nt,G,V,glob⟩:=E
 obtain rfl:P=prog:=hP
 have hlen:n=a+x.length+1+q.length:=by rw[hn,hL]; simp; omega
 have e0:(m:Int)-a=(x.length:Nat):=by omega
 have w0':=wrap64 (n:=(x.length:Nat)) (by omega) (by omega)
 have n0:¬ (x.length:Int)=1:=by omega
 have e1:(b:Int)-m=1:=by omega
 have w1:=wrap64 (n:=1) (by omega) (by omega)
 have hvm:∀ h:m<L.length,L[m]=v:=fun h=>adA (p:=p++x) (x:=[v]) (q:=q) (by rw[hL]; simp) (k:=0) (by simp) (by simp; omega) h
 have hxk:∀ k j (hk:k<x.length) (hj:j<L.length),j=a+k→L[j]=x[k]:=fun k j hk hj e=>adA (p:=p) (x:=x) (q:=v::q) (by rw[hL]) hk (by omega) hj
 have hmL:m<L.length:=by omega
 have hva:=hvm hmL
 simp[e0,w0',n0,e1,w1]
 obtain⟨J,hJ⟩ : ∃ J:Nat × Nat→Prop,J=fun g=>a≤g.1∧g.1≤g.2∧g.2≤m∧(∀ k (hk:k<x.length),a+k+1=g.1→f v x[k]≠.lt)∧(∀ k (hk:k<x.length),a+k=g.2→f v x[k]=.lt):=⟨_,rfl⟩
 refine aU.go ah (fun (g:Nat × Nat)=>⟨[(14,.int .i64 g.1),(15,.int .i64 g.2),(0,.own (gs,gv) 12 0 n fl),(1,.int .i64 a),(2,.int .i64 m),(3,.int .i64 b),(4,.fn fid [] [])],iW gs gv L⟩) J (fun g=>g.2-g.1) (a,m) (by rw[hJ]; exact⟨Nat.le_refl _,by simp only; omega,Nat.le_refl _,fun k _ h=>by simp only at h; omega,fun k _ h=>by simp only at h; omega⟩) (by simp[bf]) fun g hj=>?_
 obtain⟨i,j⟩:=g
 have hj' : a≤i∧i≤j∧j≤m∧(∀ k (hk:k<x.length),a+k+1=i→f v x[k]≠.lt)∧(∀ k (hk:k<x.length),a+k=j→f v x[k]=.lt):=by rw[hJ] at hj; exact hj
 clear hj
 obtain⟨j1,j2,j3,j4,j5⟩:=hj'
 by_cases h1:i<j
 ·obtain⟨s,hs⟩ : ∃ s,s=i+j:=⟨_,rfl⟩
  have es:(i:Int)+j=(s:Nat):=by omega
  have w2:=wrap64 (n:=(s:Nat)) (by omega) (by omega)
  have w3:=Yc (n:=(s:Nat)) (by omega) (by omega)
  obtain⟨h,hh⟩ : ∃ h,h=s / 2:=⟨_,rfl⟩
  have ef:=fd2 s
  rw[← hh] at ef
  have w4:=Yc (n:=(h:Nat)) (by omega) (by omega)
  have w5:=wrap64 (n:=(h:Nat)) (by omega) (by omega)
  have w6:=wrap64 (n:=(h:Int)+1) (by omega) (by omega)
  have hhL:h<L.length:=by omega
  obtain⟨k,hk⟩ : ∃ k,h=a+k:=⟨h-a,by omega⟩
  have hkx:k<x.length:=by omega
  have hv:=hxk k h hkx hhL hk
  have hmn:m<n:=by omega
  have hhn:h<n:=by omega
  simp[h1,es,w2,w3,p2u,ef,w4,w5]
  refine bF.go ah ?_
  simp[hhL,hmL,hmn,hhn,hv,hva]
  intro v' _
  refine aH.ret (hc _ _ (hD _ (by rw[← hva]; exact List.getElem_mem _)) (hD _ (by rw[← hv]; exact List.getElem_mem _))) ?_
  by_cases hlt:f v x[k]=.lt
  ·simp[hlt,abQ]
   refine⟨i,h,?_,by omega,by simp⟩
   rw[hJ]
   refine⟨j1,by simp only; omega,by simp only; omega,j4,fun k' hk' e=>?_⟩
   have:k'=k:=by simp only at e; omega
   subst this; exact hlt
  ·have hge:¬ abQ (f v x[k])<0:=by cases e:f v x[k]<;>simp_all [abQ]
   simp[hge,w6]
   refine⟨h+1,j,?_,by omega,by simp⟩
   rw[hJ]
   refine⟨by simp only; omega,by simp only; omega,j3,fun k' hk' e=>?_,j5⟩
   have:k'=k:=by simp only at e; omega
   subst this; exact hlt
 ·obtain rfl:i=j:=by omega
  simp[h1]
  clear hJ J
  obtain⟨t,ht⟩ : ∃ t,i=a+t:=⟨i-a,by omega⟩
  have htx:t≤x.length:=by omega
  obtain⟨W,hW⟩ : ∃ W:Nat→List Ob,∀ k,W k=p++x.take k++v::(x.drop k++q):=⟨fun k=>p++x.take k++v::(x.drop k++q),fun _=>rfl⟩
  have hW0:W x.length=L:=by rw[hW,hL]; simp
  refine aU.go ah (fun k=>⟨[(17,.int .i64 (a+k:Nat)),(14,.int .i64 i),(0,.own (gs,gv) 12 0 n fl),(1,.int .i64 a),(2,.int .i64 m),(3,.int .i64 b),(4,.fn fid [] [])],iW gs gv (W k)⟩) (fun k=>t≤k∧k≤x.length) (fun k=>k) x.length ⟨htx,Nat.le_refl _⟩ (by simp[hW0,bf,hm]) fun k hj=>?_
  obtain⟨k1,k2⟩:=hj
  obtain⟨d,hd⟩ : ∃ d,d=a+k:=⟨_,rfl⟩
  rw[← hd]
  have hWl:(W k).length=n:=by rw[hW,hlen]; simp; omega
  by_cases h2:t<k
  ·obtain⟨k',rfl⟩ : ∃ k',k=k'+1:=⟨k-1,by omega⟩
   have h2' : (i:Int)<d:=by omega
   have hkx:k' < x.length:=by omega
   obtain⟨d1,hd1⟩ : ∃ d1,d1=a+k':=⟨_,rfl⟩
   have e3:(d:Int)-1=(d1:Nat):=by omega
   have w3:=wrap64 (n:=(d1:Nat)) (by omega) (by omega)
   have q1:d<(W (k'+1)).length:=by omega
   have q2:d1<(W (k'+1)).length:=by omega
   have q3:d<n:=by omega
   have q4:d1<n:=by omega
   have hs:=ajl q1 q2
   have hsw:Zq (W (k'+1)) d d1=W k':=by
    rw[hW,hW,List.take_succ_eq_append_getElem hkx,xw hkx]
    have:=azZ (p++x.take k') [] (x.drop (k'+1)++q) x[k'] v (a:=d1) (b:=d) (by simp; omega) (by simp; omega)
    simp only[List.append_assoc,List.cons_append,List.nil_append,List.singleton_append] at this ⊢
    exact this
   rw[hsw] at hs
   have hrow:(((W (k'+1)).map au).set d (cO (W (k'+1))[d1]))[d1]'(by simpa using q2)=cO (W (k'+1))[d1]:=by
    rw[List.getElem_set]; split
    ·rfl
    ·simp
   obtain⟨l2,hl2⟩ : ∃ l2,W k'=l2:=⟨_,rfl⟩
   rw[hl2] at hs
   generalize W (k'+1)=l1 at *
   simp[h2',e3,w3,q1,q2,q3,q4,hrow,hs]
   exact fun _ _=>⟨k',⟨by omega,by omega⟩,by omega,by simp[hl2,hd1,bf]⟩
  ·have h2' : ¬ (i:Int)<d:=by omega
   obtain rfl:k=t:=by omega
   simp[h2']
   refine⟨iW gs gv (W k),⟨x.take k++v::x.drop k,by rw[hW]; simp,?_,aLk hf hx htx (fun k' hk' e=>j4 k' hk' (by omega)) (fun hk'=>j5 k hk' (by omega))⟩,?_,?_⟩
   ·refine (List.perm_middle (a:=v) (l₁:=x.take k) (l₂:=x.drop k)).trans ?_
    rw[List.take_append_drop]
    exact (List.perm_append_singleton v x).symm
   ·simp
   ·intro a1 b1 _
    by_cases hk:a1=gs∧b1=gv<;>simp[hk,bf]
end Go.Proofs.YtngjnfbngheccaaGreatDoor.Pv
set_option maxRecDepth 100000
namespace Go.Proofs.YtngjnfbngheccaaGreatDoor.Pv
open Go Go.Tidy
def aIo (gs gv fid:Nat) (f:Ob→Ob→Ordering) (D:Ob→Prop) (N:Nat):Prop :=
 ∀ (fl:Bool) (p x y q:List Ob) (L:List Ob) (n a m b:Nat),x.length+y.length≤N→L=p++x++y++q→n=L.length→a=p.length→m=a+x.length→b=m+y.length→0<x.length→0<y.length→Srt f x→Srt f y→(∀ o∈L,D o)→n≤34359738368 →
   wU prog M.iq [.own (gs,gv) 12 0 n fl,.int .i64 a,.int .i64 m,.int .i64 b,.fn fid [] []] (iW gs gv L) (fun r h=>r=.tup []∧∃ z,h=iW gs gv (p++z++q)∧z.Perm (x++y)∧Srt f z)
theorem WU {hl:Key→Option HE} {a b:List (List PV)} (h:a=b):leR hl a b:=h ▸ bf hl a
set_option maxHeartbeats 8000000 in
theorem aCs (gs gv fid:Nat) {f:Ob→Ob→Ordering} {D:Ob→Prop} (hf:Tot f) (hc:aiL fid f D) (N:Nat) (ih:aIo gs gv fid f D N)
 (fl:Bool) (p x y q:List Ob) (L:List Ob) (n a m b:Nat) (hN:x.length+y.length≤N+1) (hL:L=p++x++y++q) (hn:n=L.length) (ha:a=p.length) (hm:m=a+x.length) (hb:b=m+y.length) (px:1<x.length) (py:1<y.length) (hx:Srt f x) (hy:Srt f y) (hD:∀ o∈L,D o) (hl:n≤34359738368) :
 wU prog M.iq [.own (gs,gv) 12 0 n fl,.int .i64 a,.int .i64 m,.int .i64 b,.fn fid [] []] (iW gs gv L) (fun r h=>r=.tup []∧∃ z,h=iW gs gv (p++z++q)∧z.Perm (x++y)∧Srt f z):=by
 refine wU.of ah yC (by simp) fun E hP hV=>?_
 have hgV:=hV (gs,gv) ⟨12,L.map au,false,false⟩ (by simp[hk])
 obtain⟨P,w0,F0,nt,G,V,glob⟩:=E
 obtain rfl:P=prog:=hP
 have hlen:n=a+x.length+y.length+q.length:=by rw[hn,hL]; simp; omega
 have e0:(m:Int)-a=(x.length:Nat):=by omega
 have w0':=wrap64 (n:=(x.length:Nat)) (by omega) (by omega)
 have n0:¬ (x.length:Int)=1:=by omega
 have e1:(b:Int)-m=(y.length:Nat):=by omega
 have w1:=wrap64 (n:=(y.length:Nat)) (by omega) (by omega)
 have n1:¬ (y.length:Int)=1:=by omega
 obtain⟨s0,hs0⟩ : ∃ s,s=a+b:=⟨_,rfl⟩
 have es:(a:Int)+b=(s0:Nat):=by omega
 have w2:=wrap64 (n:=(s0:Nat)) (by omega) (by omega)
 have w3:=Yc (n:=(s0:Nat)) (by omega) (by omega)
 obtain⟨mid,hmid⟩ : ∃ h,h=s0 / 2:=⟨_,rfl⟩
 have ef:=fd2 s0
 rw[← hmid] at ef
 have w4:=Yc (n:=(mid:Nat)) (by omega) (by omega)
 have w5:=wrap64 (n:=(mid:Nat)) (by omega) (by omega)
 obtain⟨nn,hnn⟩ : ∃ nn,nn=mid+m:=⟨_,rfl⟩
 have e2:(mid:Int)+m=(nn:Nat):=by omega
 have w6:=wrap64 (n:=(nn:Nat)) (by omega) (by omega)
 obtain⟨lo,hi,hlh⟩ : ∃ lo hi,(mid<m∧lo=nn-b∧hi=mid)∨(m≤mid∧lo=a∧hi=m):=by
  rcases Nat.lt_or_ge mid m with h|h
  ·exact⟨_,_,.inl ⟨h,rfl,rfl⟩⟩
  ·exact⟨_,_,.inr ⟨h,rfl,rfl⟩⟩
 have hxk:∀ k j (hk:k<x.length) (hj:j<L.length),j=a+k→L[j]=x[k]:=fun k j hk hj e=>adA (p:=p) (x:=x) (q:=y++q) (by rw[hL]; simp) hk (by omega) hj
 have hyk:∀ k j (hk:k<y.length) (hj:j<L.length),j=m+k→L[j]=y[k]:=fun k j hk hj e=>adA (p:=p++x) (x:=y) (q:=q) (by rw[hL]) hk (by simp; omega) hj
 simp[e0,w0',n0,e1,w1,n1,es,w2,w3,p2u,ef,w4,w5,e2,w6]
 refine bF.one ah ⟨[(20,.int .i64 lo),(21,.int .i64 hi),(18,.int .i64 mid),(19,.int .i64 nn),(0,.own (gs,gv) 12 0 n fl),(1,.int .i64 a),(2,.int .i64 m),(3,.int .i64 b),(4,.fn fid [] [])],iW gs gv L⟩ ?_ ?_
 ·rcases hlh with ⟨h1,h2,h3⟩|⟨h1,h2,h3⟩
  ·have h1' : (mid:Int)<m:=by omega
   have e3:(nn:Int)-b=(lo:Nat):=by omega
   have w7:=wrap64 (n:=(lo:Nat)) (by omega) (by omega)
   simp[h1,h1',e3,w7,h3,bf]
  ·have h1' : ¬ (mid:Int)<m:=by omega
   simp[h1',h2,h3,bf]
 have hlo1:a≤lo:=by omega
 have hlh1:lo≤hi:=by omega
 have hhi1:hi≤m:=by omega
 obtain⟨pp,hpp⟩ : ∃ pp,pp=nn-1:=⟨_,rfl⟩
 have e3:(nn:Int)-1=(pp:Nat):=by omega
 have w7:=wrap64 (n:=(pp:Nat)) (by omega) (by omega)
 simp[e3,w7]
 obtain⟨J,hJ⟩ : ∃ J:Nat × Nat→Prop,J=fun g=>lo≤g.1∧g.1≤g.2∧g.2≤hi∧(∀ k jj (hk:k<x.length) (hj:jj<y.length),a+k+1=g.1→lo<g.1→m+jj+g.1=nn→f y[jj] x[k]≠.lt)∧(∀ k jj (hk:k<x.length) (hj:jj<y.length),a+k=g.2→g.2<hi→m+jj+g.2+1=nn→f y[jj] x[k]=.lt):=⟨_,rfl⟩
 refine aU.go ah (fun (g:Nat × Nat)=>⟨[(20,.int .i64 g.1),(21,.int .i64 g.2),(22,.int .i64 pp),(18,.int .i64 mid),(19,.int .i64 nn),(0,.own (gs,gv) 12 0 n fl),(1,.int .i64 a),(2,.int .i64 m),(3,.int .i64 b),(4,.fn fid [] [])],iW gs gv L⟩) J (fun g=>g.2-g.1) (lo,hi) (by rw[hJ]; exact⟨Nat.le_refl _,hlh1,Nat.le_refl _,fun _ _ _ _ _ h=>absurd h (Nat.lt_irrefl _),fun _ _ _ _ _ h=>absurd h (Nat.lt_irrefl _)⟩) (by simp[bf]) fun g hj=>?_
 obtain⟨i,j⟩:=g
 have hj' : lo≤i∧i≤j∧j≤hi∧(∀ k jj (hk:k<x.length) (hj:jj<y.length),a+k+1=i→lo<i→m+jj+i=nn→f y[jj] x[k]≠.lt)∧(∀ k jj (hk:k<x.length) (hj:jj<y.length),a+k=j→j<hi→m+jj+j+1=nn→f y[jj] x[k]=.lt):=by rw[hJ] at hj; exact hj
 clear hj
 obtain⟨j1,j2,j3,j4,j5⟩:=hj'
 by_cases h1:i<j
 ·obtain⟨s,hs⟩ : ∃ s,s=i+j:=⟨_,rfl⟩
  have es' : (i:Int)+j=(s:Nat):=by omega
  have v2:=wrap64 (n:=(s:Nat)) (by omega) (by omega)
  have v3:=Yc (n:=(s:Nat)) (by omega) (by omega)
  obtain⟨h,hh⟩ : ∃ h,h=s / 2:=⟨_,rfl⟩
  have ef':=fd2 s
  rw[← hh] at ef'
  have v4:=Yc (n:=(h:Nat)) (by omega) (by omega)
  have v5:=wrap64 (n:=(h:Nat)) (by omega) (by omega)
  have v6:=wrap64 (n:=(h:Int)+1) (by omega) (by omega)
  obtain⟨t,ht⟩ : ∃ t,t=pp-h:=⟨_,rfl⟩
  have e4:(pp:Int)-h=(t:Nat):=by omega
  have v7:=wrap64 (n:=(t:Nat)) (by omega) (by omega)
  obtain⟨k,hk⟩ : ∃ k,h=a+k:=⟨h-a,by omega⟩
  obtain⟨kk,hkk⟩ : ∃ kk,t=m+kk:=⟨t-m,by omega⟩
  have hkx:k<x.length:=by omega
  have hky:kk<y.length:=by omega
  have hhL:h<L.length:=by omega
  have htL:t<L.length:=by omega
  have hhn:h<n:=by omega
  have htn:t<n:=by omega
  have hv:=hxk k h hkx hhL hk
  have hu:=hyk kk t hky htL hkk
  simp[h1,es',v2,v3,p2u,ef',v4,v5]
  refine bF.go ah ?_
  simp[hhL,htL,hhn,htn,hv,hu,e4,v7]
  intro v' _
  refine aH.ret (hc _ _ (hD _ (by rw[← hu]; exact List.getElem_mem _)) (hD _ (by rw[← hv]; exact List.getElem_mem _))) ?_
  by_cases hlt:f y[kk] x[k]=.lt
  ·simp[hlt,abQ]
   refine⟨i,h,?_,by omega,by simp⟩
   rw[hJ]
   refine⟨j1,by simp only; omega,by simp only; omega,j4,fun k' jj hk' hj' c1 c2 c3=>?_⟩
   simp only at c1 c2 c3
   obtain rfl:k'=k:=by omega
   obtain rfl:jj=kk:=by omega
   exact hlt
  ·have hge:¬ abQ (f y[kk] x[k])<0:=by cases e:f y[kk] x[k]<;>simp_all [abQ]
   simp[hge,v6]
   refine⟨h+1,j,?_,by omega,by simp⟩
   rw[hJ]
   refine⟨by simp only; omega,by simp only; omega,j3,fun k' jj hk' hj' c1 c2 c3=>?_,j5⟩
   simp only at c1 c2 c3
   obtain rfl:k'=k:=by omega
   obtain rfl:jj=kk:=by omega
   exact hlt
 ·obtain rfl:i=j:=by omega
  obtain⟨en,hen⟩ : ∃ en,en=nn-i:=⟨_,rfl⟩
  have e4:(nn:Int)-i=(en:Nat):=by omega
  have v4:=wrap64 (n:=(en:Nat)) (by omega) (by omega)
  have hem:m≤en:=by omega
  have heb:en≤b:=by omega
  obtain⟨x1,x2,hx12,hx1⟩ : ∃ x1 x2,x=x1++x2∧x1=x.take (i-a):=⟨_,_,(List.take_append_drop (i-a) x).symm,rfl⟩
  obtain⟨y1,y2,hy12,hy1⟩ : ∃ y1 y2,y=y1++y2∧y1=y.take (en-m):=⟨_,_,(List.take_append_drop (en-m) y).symm,rfl⟩
  have hx1l:x1.length=i-a:=by rw[hx1]; simp; omega
  have hy1l:y1.length=en-m:=by rw[hy1]; simp; omega
  have hx2:x2=x.drop (i-a):=by rw[hx12,List.drop_left' hx1l]
  have hy2:y2=y.drop (en-m):=by rw[hy12,List.drop_left' hy1l]
  have hxl:x.length=x1.length+x2.length:=by rw[hx12]; simp
  have hyl:y.length=y1.length+y2.length:=by rw[hy12]; simp
  have hcross:=aK4 (i:=i-a) (j:=en-m) hf hx hy (by omega) (by omega) (fun k hk hj' e=>j4 k (en-m) hk hj' (by omega) (by omega) (by omega)) (fun k hk hi' e=>j5 (i-a) k hi' hk (by omega) (by omega) (by omega))
  rw[← hx1,← hy1,← hx2,← hy2] at hcross
  have sx1:Srt f x1:=by rw[hx1]; exact aDG hx _
  have sx2:Srt f x2:=by rw[hx2]; exact alH hx _
  have sy1:Srt f y1:=by rw[hy1]; exact aDG hy _
  have sy2:Srt f y2:=by rw[hy2]; exact alH hy _
  clear j4 j5 hx1 hy1 hx2 hy2
  obtain⟨L2,hL2⟩ : ∃ L2,L2=p++x1++y1++(x2++y2++q):=⟨_,rfl⟩
  have hL2l:L2.length=n:=by rw[hL2,hlen]; simp; omega
  have hpm:L2.Perm L:=by
   rw[hL2,hL,hx12,hy12]
   simp only[List.append_assoc]
   exact List.Perm.append_left p (List.Perm.append_left x1 (List.perm_append_comm_assoc _ _ _))
  have hD2:∀ o∈L2,D o:=fun o ho=>hD o (hpm.mem_iff.1 ho)
  simp[h1,e4,v4]
  refine bF.one ah ⟨[(20,.int .i64 i),(24,.int .i64 en),(18,.int .i64 mid),(0,.own (gs,gv) 12 0 n fl),(1,.int .i64 a),(2,.int .i64 m),(3,.int .i64 b),(4,.fn fid [] [])],iW gs gv L2⟩ ?_ ?_
  ·by_cases g1:i<m
   ·by_cases g2:m<en
    ·have c1:=aMO gs gv fl (p++x1) x2 y1 (y2++q) fid (L:=L) (n:=n) (a:=i) (m:=m) (b:=en) (by rw[hL,hx12,hy12]; simp) hn (by simp; omega) (by simp; omega) (by simp; omega) (by omega) (by omega) hl
     simp[g1,g2]
     refine ak.aat c1 ?_
     rintro r h' ⟨rfl,rfl⟩
     have:p++x1++y1++x2++(y2++q)=L2:=by rw[hL2]; simp
     rw[this]
     simp[bf]
    ·have:y1=[]:=List.length_eq_zero_iff.1 (by omega)
     have:L=L2:=by rw[hL2,hL,hx12,hy12,this]; simp
     simp[g1,g2,this,bf]
   ·have:x2=[]:=List.length_eq_zero_iff.1 (by omega)
    have:L=L2:=by rw[hL2,hL,hx12,hy12,this]; simp
    simp[g1,this,bf]
  simp
  refine bF.many ah (fun z1=>⟨[(24,.int .i64 en),(18,.int .i64 mid),(0,.own (gs,gv) 12 0 n fl),(1,.int .i64 a),(2,.int .i64 m),(3,.int .i64 b),(4,.fn fid [] [])],iW gs gv (p++z1++(x2++y2++q))⟩) (fun z1=>z1.Perm (x1++y1)∧Srt f z1) ?_ ?_
  ·have hno:(x1=[]∨y1=[])→Srt f (x1++y1):=fun h=>by
      rcases h with h|h
      ·rw[h]; simpa using sy1
      ·rw[h]; simpa using sx1
   by_cases g1:a<i
   ·by_cases g2:i<mid
    ·have c1:=ih fl p x1 y1 (x2++y2++q) L2 n a i mid (by omega) hL2 hL2l.symm ha (by omega) (by omega) (by omega) (by omega) sx1 sy1 hD2 hl
     simp[g1,g2]
     refine ak.aat c1 ?_
     rintro r h' ⟨rfl,z1,rfl,hz1,hz2⟩
     generalize hZ:p++z1++(x2++y2++q)=Z
     simp
     exact⟨z1,⟨hz1,hz2⟩,WU (by rw[← hZ]; simp)⟩
    ·have:y1=[]:=List.length_eq_zero_iff.1 (by omega)
     simp[g1,g2]
     exact⟨x1++y1,⟨List.Perm.refl _,hno (.inr this)⟩,WU (by rw[hL2]; simp)⟩
   ·have:x1=[]:=List.length_eq_zero_iff.1 (by omega)
    simp[g1]
    exact⟨x1++y1,⟨List.Perm.refl _,hno (.inl this)⟩,WU (by rw[hL2]; simp)⟩
  rintro z1 ⟨hz1,hz2⟩
  have hz1l:z1.length=x1.length+y1.length:=by rw[hz1.length_eq]; simp
  obtain⟨L3,hL3⟩ : ∃ L3,L3=(p++z1)++x2++y2++q:=⟨_,rfl⟩
  have hL3e:p++z1++(x2++y2++q)=L3:=by rw[hL3]; simp
  have hL3l:L3.length=n:=by rw[hL3,hlen]; simp; omega
  have hpm3:L3.Perm L2:=by
   rw[← hL3e,hL2]
   simp only[List.append_assoc]
   refine List.Perm.append_left p ?_
   rw[← List.append_assoc x1]
   exact List.Perm.append_right _ hz1
  have hD3:∀ o∈L3,D o:=fun o ho=>hD2 o (hpm3.mem_iff.1 ho)
  have hperm:∀ z2:List Ob,z2.Perm (x2++y2)→(z1++z2).Perm (x++y):=fun z2 h=>by
   refine (List.Perm.append hz1 h).trans ?_
   rw[hx12,hy12]
   simp only[List.append_assoc]
   refine List.Perm.append_left x1 ?_
   rw[← List.append_assoc,← List.append_assoc]
   exact List.Perm.append_right _ List.perm_append_comm
  rw[hL3e]
  simp
  refine bF.many ah (fun z2=>⟨[],iW gs gv (p++(z1++z2)++q)⟩) (fun z2=>z2.Perm (x2++y2)∧Srt f z2) ?_ ?_
  ·have hno:(x2=[]∨y2=[])→Srt f (x2++y2):=fun h=>by
      rcases h with h|h
      ·rw[h]; simpa using sy2
      ·rw[h]; simpa using sx2
   by_cases g1:mid<en
   ·by_cases g2:en<b
    ·have c1:=ih fl (p++z1) x2 y2 q L3 n mid en b (by omega) hL3 hL3l.symm (by simp; omega) (by omega) (by omega) (by omega) (by omega) sx2 sy2 hD3 hl
     simp[g1,g2]
     refine ak.aat c1 ?_
     rintro r h' ⟨rfl,z2,rfl,hz3,hz4⟩
     generalize hZ:p++z1++z2++q=Z
     simp
     exact⟨z2,⟨hz3,hz4⟩,WU (by rw[← hZ]; simp)⟩
    ·have:y2=[]:=List.length_eq_zero_iff.1 (by omega)
     simp[g1,g2]
     exact⟨x2++y2,⟨List.Perm.refl _,hno (.inr this)⟩,WU (by rw[hL3]; simp)⟩
   ·have:x2=[]:=List.length_eq_zero_iff.1 (by omega)
    simp[g1]
    exact⟨x2++y2,⟨List.Perm.refl _,hno (.inl this)⟩,WU (by rw[hL3]; simp)⟩
  rintro z2 ⟨hz3,hz4⟩
  generalize hZ:p++(z1++z2)++q=Z
  simp
  refine⟨iW gs gv Z,⟨z1++z2,by rw[← hZ]; simp,hperm z2 hz3,aNl hz2 hz4 hz1 hz3 hcross⟩,by simp,?_⟩
  intro a1 b1 _
  by_cases hk:a1=gs∧b1=gv<;>simp[hk,bf]
theorem amg (gs gv fid:Nat) {f:Ob→Ob→Ordering} {D:Ob→Prop} (hf:Tot f) (hc:aiL fid f D):∀ N,aIo gs gv fid f D N
 | 0=>fun fl p x y q L n a m b hN _ _ _ _ _ px=>by omega
 | N+1=>fun fl p x y q L n a m b hN hL hn ha hm hb px py hx hy hD hl=>by
   by_cases h1:x.length=1
   ·obtain⟨u,rfl⟩:=List.length_eq_one_iff.1 h1
    have:=aIT gs gv fl p u y q fid hf hc (L:=L) (n:=n) (a:=a) (m:=m) (b:=b) (by rw[hL]; simp) hn ha (by simpa using hm) hb py hy hD hl
    simpa using this
   ·by_cases h2:y.length=1
    ·obtain⟨v,rfl⟩:=List.length_eq_one_iff.1 h2
     exact aJY gs gv fl p x v q fid hf hc (L:=L) (n:=n) (a:=a) (m:=m) (b:=b) (by rw[hL]; simp) hn ha hm (by simpa using hb) (by omega) hx hD hl
    ·exact aCs gs gv fid hf hc N (amg gs gv fid hf hc N) fl p x y q L n a m b hN hL hn ha hm hb (by omega) (by omega) hx hy hD hl
end Go.Proofs.YtngjnfbngheccaaGreatDoor.Pv
set_option maxRecDepth 100000
namespace Go.Proofs.YtngjnfbngheccaaGreatDoor.Pv
open Go Go.Tidy
structure yh where
 D:List (List Ob)
 E:List (List Ob)
 r:List Ob
def yh.l (g:yh):List Ob:=g.D.flatten++g.E.flatten++g.r
def Chk (f:Ob→Ob→Ordering) (bs:Nat) (D:List (List Ob)):Prop:=∀ d∈D,d.length=bs∧Srt f d
theorem aEz {f:Ob→Ob→Ordering} {bs:Nat} {D:List (List Ob)} {z:List Ob} (h:Chk f bs D) (h1:z.length=bs) (h2:Srt f z):Chk f bs (D++[z]):=fun d hd=>by
 rcases List.mem_append.1 hd with hd|hd
 ·exact h d hd
 ·rw[List.mem_singleton.1 hd]; exact⟨h1,h2⟩
set_option maxHeartbeats 8000000 in
theorem aNj (gs gv:Nat) (fl:Bool) (fid:Nat) {f:Ob→Ob→Ordering} {D:Ob→Prop} (hf:Tot f) (hc:aiL fid f D) (L:List Ob) (hD:∀ o∈L,D o) (hl:L.length≤34359738368) :
 wU prog M.qc [.own (gs,gv) 12 0 L.length fl,.int .i64 L.length,.fn fid [] []] (iW gs gv L) (fun r h=>r=.tup []∧∃ l',h=iW gs gv l'∧l'.Perm L∧Srt f l'):=by
 refine wU.of ah R9 (by simp) fun E hP hV=>?_
 have hgV:=hV (gs,gv) ⟨12,L.map au,false,false⟩ (by simp[hk])
 obtain⟨P,w0,F0,nt,G,V,glob⟩:=E
 obtain rfl:P=prog:=hP
 obtain⟨n,hn⟩ : ∃ n,n=L.length:=⟨_,rfl⟩
 rw[← hn] at hl ⊢
 simp
 obtain⟨J,hJ⟩ : ∃ J:yh→Prop,J=fun g=>Chk f 20 g.D∧g.E=[]∧g.l.Perm L:=⟨_,rfl⟩
 refine aU.go ah (fun (g:yh)=>⟨[(6,.int .i64 20),(7,.int .i64 g.D.flatten.length),(8,.int .i64 (g.D.flatten.length+20:Nat)),(0,.own (gs,gv) 12 0 n fl),(1,.int .i64 n),(2,.fn fid [] [])],iW gs gv g.l⟩) J (fun g=>g.r.length) ⟨[],[],L⟩ (by rw[hJ]; exact⟨fun d hd=>by simp at hd,rfl,by simp[yh.l]⟩) (by simp[yh.l,bf]) fun g hj=>?_
 have hj' : Chk f 20 g.D∧g.E=[]∧g.l.Perm L:=by rw[hJ] at hj; exact hj
 clear hj
 obtain⟨j1,j2,j3⟩:=hj'
 have hgl:g.l=g.D.flatten++g.r:=by simp[yh.l,j2]
 obtain⟨A,hA⟩ : ∃ A,A=g.D.flatten.length:=⟨_,rfl⟩
 have hAn:A+g.r.length=n:=by rw[hn,← j3.length_eq,hgl,List.length_append,hA]
 have hgD:∀ o∈g.l,D o:=fun o ho=>hD o (j3.mem_iff.1 ho)
 have hgn:n=g.l.length:=by rw[j3.length_eq]; exact hn
 obtain⟨A2,hA2⟩ : ∃ A2,A2=A+20:=⟨_,rfl⟩
 rw[← hA,← hA2]
 by_cases h1:A2≤n
 ·obtain⟨x,q,hxq,hxl⟩ : ∃ x q,g.r=x++q∧x.length=20:=⟨g.r.take 20,g.r.drop 20,(List.take_append_drop _ _).symm,by simp; omega⟩
  have hrl:g.r.length=20+q.length:=by rw[hxq]; simp[hxl]
  have c1:=arI gs gv fl g.D.flatten x q fid hf hc (L:=g.l) (n:=n) (a:=A) (b:=A2) (by rw[hgl,hxq]; simp) hgn hA (by omega) hgD hl
  have w1:=wrap64 (n:=(A2:Int)+20) (by omega) (by omega)
  simp[h1]
  refine ak.aat c1 ?_
  rintro r h' ⟨rfl,z,rfl,hz1,hz2⟩
  have hzl:z.length=20:=by rw[hz1.length_eq]; exact hxl
  have hl2:(⟨g.D++[z],[],q⟩ : yh).l=g.D.flatten++z++q:=by simp[yh.l]
  have hfl:(g.D++[z]).flatten.length=A2:=by rw[List.flatten_append,List.length_append,← hA]; simp; omega
  generalize hZ:g.D.flatten++z++q=Z at *
  simp[w1]
  refine⟨⟨g.D++[z],[],q⟩,?_,by simp only; omega,?_⟩
  ·rw[hJ]
   refine⟨aEz j1 hzl hz2,rfl,?_⟩
   rw[hl2,← hZ]
   refine List.Perm.trans ?_ j3
   rw[hgl,hxq,List.append_assoc]
   exact List.Perm.append_left _ (List.Perm.append_right _ hz1)
  ·simp only[hfl,hl2]
   simp[bf]
   simp at hfl
   omega
 ·have c1:=arI gs gv fl g.D.flatten g.r [] fid hf hc (L:=g.l) (n:=n) (a:=A) (b:=n) (by rw[hgl]; simp) hgn hA (by omega) hgD hl
  simp[h1]
  refine ak.aat c1 ?_
  rintro r h' ⟨rfl,z,rfl,hz1,hz2⟩
  have hzl:z.length=g.r.length:=hz1.length_eq
  have hp0:(g.D.flatten++z).Perm L:=by
   refine List.Perm.trans ?_ j3
   rw[hgl]
   exact List.Perm.append_left _ hz1
  rw[List.append_nil]
  clear hJ J
  obtain⟨J,hJ⟩ : ∃ J:Nat × yh→Prop,J=fun g=>0<g.1∧g.1≤2*n+20∧Chk f g.1 g.2.D∧g.2.E=[]∧g.2.r.length<g.1∧Srt f g.2.r∧g.2.l.Perm L:=⟨_,rfl⟩
  have hst:(⟨g.D,[],z⟩ : yh).l=g.D.flatten++z:=by simp[yh.l]
  generalize hZ:g.D.flatten++z=Z at *
  simp
  refine aU.go ah (fun (g:Nat × yh)=>⟨[(6,.int .i64 g.1),(0,.own (gs,gv) 12 0 n fl),(1,.int .i64 n),(2,.fn fid [] [])],iW gs gv g.2.l⟩) J (fun g=>n-g.1) (20,⟨g.D,[],z⟩) (by rw[hJ]; exact⟨by simp,by simp only; omega,j1,rfl,by simp only; omega,hz2,by simp only[hst]; exact hp0⟩) (by simp only[hst]; simp[bf]) fun G hj=>?_
  clear hZ hst hp0 hz1 hz2 hzl c1 h1 hA2 hAn hA hgl j1 j2 j3 hgD hgn
  clear A2 A Z z g
  obtain⟨bs,g⟩:=G
  have hj' : 0<bs∧bs≤2*n+20∧Chk f bs g.D∧g.E=[]∧g.r.length<bs∧Srt f g.r∧g.l.Perm L:=by rw[hJ] at hj; exact hj
  clear hj
  obtain⟨j0,j00,j1,j2,j3,j4,j5⟩:=hj'
  have hgl:g.l=g.D.flatten++g.r:=by simp[yh.l,j2]
  have hgn:n=g.l.length:=by rw[j5.length_eq]; exact hn
  have hlen:g.D.flatten.length+g.r.length=n:=by rw[hgn,hgl,List.length_append]
  by_cases h1:bs<n
  ·obtain⟨b2,hb2⟩ : ∃ b2,b2=2*bs:=⟨_,rfl⟩
   have e2:(2:Int)*bs=(b2:Nat):=by omega
   have e2' : (bs:Int)*2=(b2:Nat):=by omega
   have w2:=wrap64 (n:=(b2:Nat)) (by omega) (by omega)
   simp[h1,e2,w2]
   obtain⟨J2,hJ2⟩ : ∃ J2:yh→Prop,J2=fun k=>Chk f b2 k.D∧Chk f bs k.E∧k.r=g.r∧k.l.Perm L:=⟨_,rfl⟩
   have hst:(⟨[],g.D,g.r⟩ : yh).l=g.l:=by rw[hgl]; simp[yh.l]
   refine aU.go ah (fun (k:yh)=>⟨[(6,.int .i64 bs),(7,.int .i64 k.D.flatten.length),(8,.int .i64 (k.D.flatten.length+b2:Nat)),(0,.own (gs,gv) 12 0 n fl),(1,.int .i64 n),(2,.fn fid [] [])],iW gs gv k.l⟩) J2 (fun k=>k.E.length) ⟨[],g.D,g.r⟩ (by rw[hJ2]; exact⟨fun d hd=>by simp at hd,j1,rfl,by rw[hst]; exact j5⟩) (by simp only[hst]; simp[bf]) fun k hj=>?_
   have hj' : Chk f b2 k.D∧Chk f bs k.E∧k.r=g.r∧k.l.Perm L:=by rw[hJ2] at hj; exact hj
   clear hj
   obtain⟨k1,k2,k3,k4⟩:=hj'
   have hkD:∀ o∈k.l,D o:=fun o ho=>hD o (k4.mem_iff.1 ho)
   have hkn:n=k.l.length:=by rw[k4.length_eq]; exact hn
   obtain⟨A,hA⟩ : ∃ A,A=k.D.flatten.length:=⟨_,rfl⟩
   have hkl:A+k.E.flatten.length+g.r.length=n:=by rw[hkn,← k3,hA]; simp[yh.l]; omega
   obtain⟨A2,hA2⟩ : ∃ A2,A2=A+b2:=⟨_,rfl⟩
   rw[← hA,← hA2]
   match hE:k.E with
   | d1::d2::E' =>
     rw[hE] at hkl k2
     have q1:=k2 d1 (by simp)
     have q2:=k2 d2 (by simp)
     have hkl' : A+bs+bs+E'.flatten.length+g.r.length=n:=by
      rw[← hkl]; simp[q1.1,q2.1]; omega
     have h2:A2≤n:=by omega
     obtain⟨m,hm⟩ : ∃ m,m=A+bs:=⟨_,rfl⟩
     have em:(A:Int)+bs=(m:Nat):=by omega
     have wm:=wrap64 (n:=(m:Nat)) (by omega) (by omega)
     have w4:=wrap64 (n:=(A2:Int)+b2) (by omega) (by omega)
     have hkl2:k.l=k.D.flatten++d1++d2++(E'.flatten++g.r):=by simp[yh.l,hE,k3]
     have c1:=amg gs gv fid hf hc (d1.length+d2.length) fl k.D.flatten d1 d2 (E'.flatten++g.r) k.l n A m A2 (Nat.le_refl _) hkl2 hkn hA (by omega) (by omega) (by omega) (by omega) q1.2 q2.2 hkD hl
     simp[h2,em,wm,e2,w2]
     refine ak.aat c1 ?_
     rintro r h' ⟨rfl,z,rfl,hz1,hz2⟩
     have hzl:z.length=b2:=by rw[hz1.length_eq,List.length_append]; omega
     have hl2:(⟨k.D++[z],E',g.r⟩ : yh).l=k.D.flatten++z++(E'.flatten++g.r):=by simp[yh.l]
     have hfl:(k.D++[z]).flatten.length=A2:=by rw[List.flatten_append,List.length_append,← hA]; simp; omega
     generalize hZ:k.D.flatten++z++(E'.flatten++g.r)=Z at *
     simp[w4,e2,w2]
     refine⟨⟨k.D++[z],E',g.r⟩,?_,by simp only[hE,List.length_cons]; omega,?_⟩
     ·rw[hJ2]
      refine⟨aEz k1 hzl hz2,fun d hd=>k2 d (by simp[hd]),rfl,?_⟩
      rw[hl2,← hZ]
      refine List.Perm.trans ?_ k4
      rw[hkl2]
      simp only[List.append_assoc]
      refine List.Perm.append_left _ ?_
      rw[← List.append_assoc d1]
      exact List.Perm.append_right _ hz1
     ·simp only[hfl,hl2]
      simp[bf]
      simp at hfl
      omega
   | [d] =>
     rw[hE] at hkl k2
     have q1:=k2 d (by simp)
     have hkl' : A+bs+g.r.length=n:=by rw[← hkl]; simp[q1.1]
     have h2:¬ A2≤n:=by omega
     obtain⟨m,hm⟩ : ∃ m,m=A+bs:=⟨_,rfl⟩
     have em:(A:Int)+bs=(m:Nat):=by omega
     have wm:=wrap64 (n:=(m:Nat)) (by omega) (by omega)
     have hkl2:k.l=k.D.flatten++d++g.r++[]:=by simp[yh.l,hE,k3]
     simp[h2,em,wm]
     refine bF.many ah (fun r2=>⟨[(6,.int .i64 bs),(0,.own (gs,gv) 12 0 n fl),(1,.int .i64 n),(2,.fn fid [] [])],iW gs gv (k.D.flatten++r2)⟩) (fun r2:List Ob=>r2.length<b2∧Srt f r2∧(k.D.flatten++r2).Perm L) ?_ ?_
     ·by_cases h3:m<n
      ·have c1:=amg gs gv fid hf hc (d.length+g.r.length) fl k.D.flatten d g.r [] k.l n A m n (Nat.le_refl _) hkl2 hkn hA (by omega) (by omega) (by omega) (by omega) q1.2 j4 hkD hl
       simp[h3]
       refine ak.aat c1 ?_
       rintro r h' ⟨rfl,z,rfl,hz1,hz2⟩
       have hzl:z.length=bs+g.r.length:=by rw[hz1.length_eq,List.length_append,q1.1]
       have hzp:(k.D.flatten++z).Perm L:=by
        refine List.Perm.trans ?_ k4
        rw[hkl2,List.append_nil,List.append_assoc]
        exact List.Perm.append_left _ hz1
       generalize hZ:k.D.flatten++z++[]=Z
       simp
       exact⟨z,⟨by omega,hz2,hzp⟩,WU (by rw[← hZ]; simp)⟩
      ·have hr0:g.r=[]:=List.length_eq_zero_iff.1 (by omega)
       have hkl3:k.l=k.D.flatten++d:=by rw[hkl2,hr0]; simp
       simp[h3]
       exact⟨d,⟨by omega,q1.2,by rw[← hkl3]; exact k4⟩,WU (by rw[hkl3]; simp)⟩
     ·rintro r2 ⟨r1,r3,r4⟩
      have hst:(⟨k.D,[],r2⟩ : yh).l=k.D.flatten++r2:=by simp[yh.l]
      rw[← hst] at r4 ⊢
      generalize hZ:(⟨k.D,[],r2⟩ : yh).l=Z at *
      simp[e2',w2]
      refine⟨b2,⟨k.D,[],r2⟩,?_,by omega,rfl,WU (by rw[hZ])⟩
      rw[hJ]
      exact⟨by simp only; omega,by simp only; omega,k1,rfl,r1,r3,by simp only[hZ]; exact r4⟩
   | [] =>
     rw[hE] at hkl k2
     have hkl' : A+g.r.length=n:=by rw[← hkl]; simp
     have h2:¬ A2≤n:=by omega
     obtain⟨m,hm⟩ : ∃ m,m=A+bs:=⟨_,rfl⟩
     have em:(A:Int)+bs=(m:Nat):=by omega
     have wm:=wrap64 (n:=(m:Nat)) (by omega) (by omega)
     have h3:¬ m<n:=by omega
     have hst:(⟨k.D,[],g.r⟩ : yh).l=k.l:=by simp[yh.l,hE,k3]
     simp[h2,em,wm]
     refine bF.one ah ⟨[(6,.int .i64 bs),(0,.own (gs,gv) 12 0 n fl),(1,.int .i64 n),(2,.fn fid [] [])],iW gs gv k.l⟩ (by simp[h3,bf]) ?_
     simp[e2',w2]
     refine⟨b2,⟨k.D,[],g.r⟩,?_,by omega,rfl,WU (by rw[hst])⟩
     rw[hJ]
     exact⟨by simp only; omega,by simp only; omega,k1,rfl,by simp only; omega,j4,by simp only[hst]; exact k4⟩
  ·have hsrt:Srt f g.l:=by
      rw[hgl]
      match hDD:g.D with
      | []=>simpa using j4
      | [d] =>
        rw[hDD] at hlen j1
        have q1:=j1 d (by simp)
        have:g.r=[]:=List.length_eq_zero_iff.1 (by simp[q1.1] at hlen; omega)
        rw[this]; simpa using q1.2
      | d1::d2::E' =>
        rw[hDD] at hlen j1
        have q1:=j1 d1 (by simp)
        have q2:=j1 d2 (by simp)
        simp[q1.1,q2.1] at hlen
        omega
   simp[h1]
   refine⟨iW gs gv g.l,⟨g.l,rfl,j5,hsrt⟩,by simp,?_⟩
   intro a1 b1 _
   by_cases hk:a1=gs∧b1=gv<;>simp[hk,bf]
set_option maxHeartbeats 4000000 in
theorem aEL (gs gv:Nat) (fl:Bool) (fid:Nat) {f:Ob→Ob→Ordering} {D:Ob→Prop} (hf:Tot f) (hc:aiL fid f D) (L:List Ob) (hD:∀ o∈L,D o) (hl:L.length≤34359738368) :
 wU prog M.oW [.own (gs,gv) 12 0 L.length fl,.fn fid [] []] (iW gs gv L) (fun r h=>r=.tup []∧∃ l',h=iW gs gv l'∧l'.Perm L∧Srt f l'):=by
 refine wU.of ah OW (by simp) fun E hP hV=>?_
 have hgV:=hV (gs,gv) ⟨12,L.map au,false,false⟩ (by simp[hk])
 obtain⟨P,w0,F0,nt,G,V,glob⟩:=E
 obtain rfl:P=prog:=hP
 have c1:=aNj gs gv fl fid hf hc L hD hl
 simp
 refine ak.aat c1 ?_
 rintro r h' ⟨rfl,l',rfl,h1,h2⟩
 simp
 refine⟨iW gs gv l',⟨l',rfl,h1,h2⟩,by simp,?_⟩
 intro a1 b1 _
 by_cases hk:a1=gs∧b1=gv<;>simp[hk,bf]
end Go.Proofs.YtngjnfbngheccaaGreatDoor.Pv
set_option maxRecDepth 100000
namespace Go.Proofs.YtngjnfbngheccaaGreatDoor.Pv
open Go Go.Tidy
def aPK (fid:Nat) (e:Ob→Ob→Bool) (D:Ob→Prop):Prop:=∀ a b,D a→D b→Ret prog fid [.agg (cO a),.agg (cO b)] (.bool (e a b))
theorem aFj {α:Type} {W L:List α} {i j:Nat} (h:W.drop i=L.drop i) (hij:i≤j) (h1:j<W.length) (h2:j<L.length):W[j]=L[j]:=by
 have e1:W[j]=(W.drop i)[j-i]'(by simp; omega):=by simp[show i+(j-i)=j by omega]
 have e2:L[j]=(L.drop i)[j-i]'(by simp; omega):=by simp[show i+(j-i)=j by omega]
 rw[e1,e2]
 simp only[h]
structure CpG where
 k:Nat
 c:Nat
 W:List Ob
set_option maxHeartbeats 8000000 in
theorem aAP (gs gv:Nat) (fl:Bool) (fid:Nat) {e:Ob→Ob→Bool} {D:Ob→Prop} (hc:aPK fid e D) (L:List Ob) (hD:∀ o∈L,D o) (hl:L.length≤34359738368) :
 wU prog M.qM [.own (gs,gv) 12 0 L.length fl,.fn fid [] []] (iW gs gv L) (fun r h=>∃ fl',r=.own (gs,gv) 12 0 (qm e L).length fl'∧h=iW gs gv (qm e L)):=by
 refine wU.of ah Yw (by simp) fun E hP hV=>?_
 have hgV:=hV (gs,gv) ⟨12,L.map au,false,false⟩ (by simp[hk])
 obtain⟨P,w0,F0,nt,G,V,glob⟩:=E
 obtain rfl:P=prog:=hP
 obtain⟨n,hn⟩ : ∃ n,n=L.length:=⟨_,rfl⟩
 obtain⟨C,hC⟩ : ∃ C,C=qm e L:=⟨_,rfl⟩
 rw[← hn] at hl ⊢
 rw[← hC]
 by_cases h2:n<2
 ·have h2' : (n:Int)<2:=by omega
  have hCL:C=L:=by
   rw[hC]
   exact aoK fun j hj h0=>by omega
  simp[h2',-Bool.exists_bool]
  refine⟨iW gs gv L,⟨by rw[hCL,hn],by rw[hCL]⟩,by simp,?_⟩
  intro a1 b1 _
  by_cases hk:a1=gs∧b1=gv<;>simp[hk,bf]
 ·have h2' : ¬ (n:Int)<2:=by omega
  simp[h2',-Bool.exists_bool]
  refine aU.go ah (fun (k:Nat)=>⟨[(5,.int .i64 k),(0,.own (gs,gv) 12 0 n fl),(1,.fn fid [] [])],iW gs gv L⟩) (fun k=>1≤k∧k≤n∧∀ j (hj:j<L.length),0<j→j<k→e L[j] L[j-1]=false) (fun k=>n-k) 1 ⟨Nat.le_refl _,by omega,fun j _ h0 h1=>by omega⟩ (by simp[bf]) fun k hj=>?_
  obtain⟨j1,j2,j3⟩:=hj
  by_cases h1:k<n
  ·obtain⟨k1,hk1⟩ : ∃ k1,k=k1+1:=⟨k-1,by omega⟩
   have ek:(k:Int)-1=(k1:Nat):=by omega
   have w1:=wrap64 (n:=(k1:Nat)) (by omega) (by omega)
   have w2:=wrap64 (n:=(k:Int)+1) (by omega) (by omega)
   have q1:k<L.length:=by omega
   have q2:k1<L.length:=by omega
   have q3:k1<n:=by omega
   have hcc:=hc L[k] L[k1] (hD _ (List.getElem_mem q1)) (hD _ (List.getElem_mem q2))
   have hkk:L[k-1]'(by omega)=L[k1]:=by simp[hk1]
   simp[h1,ek,w1,q1,q2,q3,-Bool.exists_bool]
   intro v _
   refine aH.ret hcc ?_
   cases hE:e L[k] L[k1]
   ·simp[w2,-Bool.exists_bool]
    refine⟨k+1,⟨by omega,by omega,fun j hj h0 hjk=>?_⟩,by omega,by simp[bf]⟩
    rcases Nat.lt_or_ge j k with h|h
    ·exact j3 j hj h0 h
    ·obtain rfl:j=k:=by omega
     rw[hkk]; exact hE
   ·obtain⟨m,hm⟩ : ∃ m,m=n-k:=⟨_,rfl⟩
    have em:(n:Int)-k=(m:Nat):=by omega
    have em2:((n:Int)-k).toNat=m:=by omega
    simp[j2,hm.symm,-Bool.exists_bool]
    obtain⟨J,hJ⟩ : ∃ J:CpG→Prop,J=fun g=>g.W.length=n∧1≤g.c∧k+g.c≤n∧g.k<k+g.c∧g.W.take g.k=qm e (L.take (k+g.c))∧g.W.drop (k+g.c-1)=L.drop (k+g.c-1)∧g.k=(qm e (L.take (k+g.c))).length:=⟨_,rfl⟩
    have htk:qm e (L.take k)=L.take k:=by
     refine aoK fun j hj h0=>?_
     simp only[List.length_take] at hj
     have:=j3 j (by omega) h0 (by omega)
     simpa using this
    have hstart:J ⟨k,1,L⟩:=by
     rw[hJ]
     have e1:qm e (L.take (k+1))=L.take k:=by
      rw[alz (by omega) q1,htk,hkk,hE]; simp
     exact⟨hn.symm,Nat.le_refl _,by simp only; omega,by simp only; omega,e1.symm,rfl,by simp only[e1]; simp; omega⟩
    refine aU.go ah (fun (g:CpG)=>⟨[(5,.int .i64 g.k),(7,.int .i64 g.c),(6,.own (gs,gv) 12 k m fl),(0,.own (gs,gv) 12 0 n fl),(1,.fn fid [] [])],iW gs gv g.W⟩) J (fun g=>n-g.c) ⟨k,1,L⟩ hstart (by simp[em,bf]) fun g hj=>?_
    have hj' : g.W.length=n∧1≤g.c∧k+g.c≤n∧g.k<k+g.c∧g.W.take g.k=qm e (L.take (k+g.c))∧g.W.drop (k+g.c-1)=L.drop (k+g.c-1)∧g.k=(qm e (L.take (k+g.c))).length:=by rw[hJ] at hj; exact hj
    clear hj
    obtain⟨g1,g2,g3,g4,g5,g6,g7⟩:=hj'
    by_cases h3:g.c<m
    ·obtain⟨c1,hc1⟩ : ∃ c1,g.c=c1+1:=⟨g.c-1,by omega⟩
     have ec:(g.c:Int)-1=(c1:Nat):=by omega
     have v1:=wrap64 (n:=(c1:Nat)) (by omega) (by omega)
     have v2:=wrap64 (n:=(g.c:Int)+1) (by omega) (by omega)
     have v3:=wrap64 (n:=(g.k:Int)+1) (by omega) (by omega)
     have p1:k+g.c<L.length:=by omega
     have p2:k+c1<L.length:=by omega
     have p3:k+g.c<g.W.length:=by omega
     have p4:k+c1<g.W.length:=by omega
     have p5:c1<m:=by omega
     have p6:g.k<n:=by omega
     have p7:g.k<g.W.length:=by omega
     have hv:=aFj g6 (j:=k+g.c) (by omega) p3 p1
     have hu:=aFj g6 (j:=k+c1) (by omega) p4 p2
     have hcc:=hc L[k+g.c] L[k+c1] (hD _ (List.getElem_mem p1)) (hD _ (List.getElem_mem p2))
     have hct:=alz (e:=e) (l:=L) (j:=k+g.c) (by omega) p1
     have hkk2:L[k+g.c-1]'(by omega)=L[k+c1]:=by simp[hc1]
     rw[hkk2] at hct
     have hdr:∀ W' : List Ob,W'.drop (k+g.c)=g.W.drop (k+g.c)→W'.drop (k+(g.c+1)-1)=L.drop (k+(g.c+1)-1):=fun W' h=>by
      rw[show k+(g.c+1)-1=k+g.c by omega,h]
      have:=congrArg (List.drop 1) g6
      simpa[List.drop_drop,show k+g.c-1+1=k+g.c by omega] using this
     simp[h3,-Bool.exists_bool]
     refine bF.go ah ?_
     simp[h3,ec,v1,p1,p2,p3,p4,p5,hv,hu,-Bool.exists_bool]
     intro v' _
     refine aH.ret hcc ?_
     cases hE2:e L[k+g.c] L[k+c1]
     ·rw[hE2] at hct
      have hset:(g.W.map au).set g.k (cO L[k+g.c])=(g.W.set g.k L[k+g.c]).map au:=by rw[List.map_set,CU]
      have hJ' : J ⟨g.k+1,g.c+1,g.W.set g.k L[k+g.c]⟩:=by
       rw[hJ]
       refine⟨by simpa using g1,by simp only; omega,by simp only; omega,by simp only; omega,?_,hdr _ (by rw[List.drop_set_of_lt (by omega)]),?_⟩
       ·simp only
        rw[show k+(g.c+1)=k+g.c+1 by omega,hct,← g5,List.take_succ_eq_append_getElem (by simpa using p7),List.take_set_of_le (Nat.le_refl _)]
        simp
       ·simp only
        rw[show k+(g.c+1)=k+g.c+1 by omega,hct]
        simp[← g7]
      generalize g.W.set g.k L[k+g.c]=W2 at *
      simp[h3,ec,v1,v2,v3,p1,p2,p3,p4,p5,p6,p7,hv,hu,hset,-Bool.exists_bool]
      exact⟨⟨g.k+1,g.c+1,W2⟩,hJ',by simp only; omega,by simp,bf _ _⟩
     ·rw[hE2] at hct
      simp[v2,-Bool.exists_bool]
      refine⟨⟨g.k,g.c+1,g.W⟩,?_,by simp only; omega,by simp,bf _ _⟩
      rw[hJ]
      refine⟨g1,by simp only; omega,by simp only; omega,by simp only; omega,?_,hdr _ rfl,?_⟩
      ·simp only
       rw[show k+(g.c+1)=k+g.c+1 by omega,hct,g5]; simp
      ·simp only
       rw[show k+(g.c+1)=k+g.c+1 by omega,hct]
       simpa using g7
    ·have hcn:k+g.c=n:=by omega
     have hLC:qm e (L.take (k+g.c))=C:=by rw[hcn,hn,List.take_length,hC]
     rw[hLC] at g5 g7
     have hkn:g.k≤n:=by omega
     have hkW:g.k≤g.W.length:=by omega
     have hrows:(g.W.map au).take g.k=C.map au:=by rw[← List.map_take,g5]
     have e3:((n:Int)-g.k).toNat=n-g.k:=by omega
     have e4:g.k+(n-g.k)≤g.W.length:=by omega
     simp[h3,hkn,e3,e4,hrows,-Bool.exists_bool]
     refine⟨by omega,iW gs gv C,⟨g7,rfl⟩,by simp,?_⟩
     intro a1 b1 _
     by_cases hk:a1=gs∧b1=gv<;>simp[hk,bf]
  ·obtain rfl:k=n:=by omega
   have hCL:C=L:=by
    rw[hC]
    exact aoK fun j hj h0=>j3 j hj h0 (by omega)
   simp[-Bool.exists_bool]
   refine⟨iW gs gv L,⟨by rw[hCL,hn],by rw[hCL]⟩,by simp,?_⟩
   intro a1 b1 _
   by_cases hk:a1=gs∧b1=gv<;>simp[hk,bf]
end Go.Proofs.YtngjnfbngheccaaGreatDoor.Pv
set_option maxRecDepth 100000
namespace Go.Proofs.YtngjnfbngheccaaGreatDoor.Pv
open Go Go.Tidy Go.RowKit
def al3 (P:Program) (f:FuncId):Prop:=callable P f=true ∧
 ∀ (blk off cap n i j:Nat) (news:List Value) (w:World),j=i+1→i<n→n≤cap→cap≤9223372036854775807→news.length=(n-j)*12→(∀ u∈news,u.oneCell'=true) →
   (∀ (k:Nat) (u:Value),news[k]? = some u→w.cell? ⟨blk,off+j*12+k,none⟩=some u)→(∀ k,k<n*12→(w.cell? ⟨blk,off+k,none⟩).isSome=true∧w.frozen? ⟨blk,off+k,none⟩=false) →
   Calls P f #[.slice (some ⟨blk,off,none⟩) n cap,.int .i64 i,.int .i64 j] w fun e w'=>e=.returned (.slice (some ⟨blk,off,none⟩) (i+(n-j)) cap)∧∃ zs,w'=(w.drew.setCells blk (off+i*12) news).setCells blk (off+(i+(n-j))*12) zs
theorem aNo (hS:al3 prog M.uF) (gs gv:Nat) (fl:Bool) (L:List Ob) (i:Nat) (hi:i<L.length) (hl:L.length≤34359738368) :
 wU prog M.uF [.own (gs,gv) 12 0 L.length fl,.int .i64 i,.int .i64 (i+1:Nat)] (iW gs gv L) (fun r h=>r=.own (gs,gv) 12 0 (L.length-1) false∧h=iW gs gv (L.eraseIdx i)):=by
 obtain⟨hS0,hS1⟩:=hS
 refine⟨hS0,fun E a c w vs d s hP hg hrep=>?_⟩
 obtain⟨v,vs',rfl,hv,vi,vs'',rfl,⟨rfl,_⟩,vj,vs3,rfl,⟨rfl,_⟩,hvs⟩:=hrep
 obtain rfl:vs3=[]:=hvs
 obtain⟨u1,u2,u3,sa,cap,rfl,v2,v3,v4,v5,v6⟩:=hv
 have hh:=hg.hgood
 have he:hk (gs,gv) (iW gs gv L)=some ⟨12,L.map au,false,false⟩:=by simp[hk]
 obtain⟨ad,b1,b2,⟨ca,el,fr,b3,b4,b5⟩,b6,b7⟩:=(hh.heap _ _ he).block (by simp; omega)
 rw[b1] at v6
 have v6':=v6.resolve_left (by omega)
 obtain⟨rfl,w6⟩:=v6'
 have b6' : ay w c.d 12 ad.block ad.off (L.map au):=b6
 have b4' : ad.off+L.length*12≤ca.size:=by simpa using b4
 obtain⟨news,n1,n2,n3,n4⟩:=(ay.drop (i+1) b6').vals
 have hnl:news.length=(L.length-(i+1))*12:=by rw[n3]; simp
 have hc:=hS1 ad.block ad.off cap L.length i (i+1) news w rfl hi v2 v3 hnl n2 (fun k u hk=>n4 k u hk) (fun k hk=>by
  have h6:ad.off+k<ca.size:=by omega
  refine⟨by simp[World.cell?,b3,h6],?_⟩
  simp only[World.frozen?,b3]
  have:=b5 _ h6
  simpa using this)
 rw[show (#[Value.slice (some ⟨ad.block,ad.off+0*12,none⟩) L.length cap,.int .i64 i,.int .i64 (i+1:Nat)]:Array Value)=#[Value.slice (some ⟨ad.block,ad.off,none⟩) L.length cap,.int .i64 i,.int .i64 (i+1:Nat)] by simp]
 refine Calls.mono hc ?_
 rintro e w' ⟨rfl,zs,rfl⟩
 have hn1:i+(L.length-(i+1))=L.length-1:=by omega
 rw[hn1]
 obtain⟨k1,k2⟩:=(hh.drew).del (g:=(gs,gv)) (esz:=12) (xs:=L.map au) he b1 (i:=i) (by simpa using hi) (news:=news) (zs:=zs) (p:=ad.off+i*12) (q:=ad.off+(L.length-1)*12)
  (aY.mono _ _ (c:=c.d) (PZ w) (Ctx.Le.refl c.d) n1) n2 rfl (by simp)
 have km:d9 c.Fz w _:=(PZ w).trans k2
 have her:(L.map au).eraseIdx i=(L.eraseIdx i).map au:=by
  rw[List.eraseIdx_eq_take_drop_succ,List.eraseIdx_eq_take_drop_succ,List.map_append,List.map_take,List.map_drop]
 rw[her] at k1
 refine⟨_,rfl,_,_,c,⟨rfl,rfl⟩,hg.put (st':=⟨JR d _ s,iW gs gv (L.eraseIdx i)⟩) (r:=.own (gs,gv) 12 0 (L.length-1) false) (by cases d<;>rfl) (k1.congr fun k e hk'=>?_) ?_ (Ctx.Le.refl c) km⟩
 ·simp only[iW,gy] at hk' ⊢
  split at hk'
  ·rename_i e1; rw[if_pos e1]; exact hk'
  ·simp[hk] at hk'
 ·refine⟨u1,u2,u3,_,cap,rfl,by omega,v3,by omega,by simp,?_⟩
  rw[b1]
  refine .inr ⟨by simp,?_⟩
  obtain⟨cs,el,fr,w1,w2⟩:=w6
  obtain⟨cs',fr',x1,x2⟩:=km.keep _ _ _ _ w1
  exact⟨cs',el,fr',x1,by omega⟩
end Go.Proofs.YtngjnfbngheccaaGreatDoor.Pv
set_option maxRecDepth 100000
namespace Go.Proofs.YtngjnfbngheccaaGreatDoor.Pv
open Go Go.Tidy
theorem aPn (o:Ordering):abQ o=dZ o:=by cases o<;>rfl
set_option maxHeartbeats 4000000 in
theorem aHi:aiL M.Qy oh (fun o=>bg o=true):=fun a b ha hb'=>by
 refine Ret.go ah as1 (by simp) fun hb w0 F0 hG=>?_
 have c1:=Nk a
 have c2:=Nk b
 have c3:=aq6 (jk a) (jk b) (vG ha) (vG hb')
 rw[aeI,← aPn] at c3
 simp
 intro v1 v2 v3
 refine aH.ret c1 ?_
 simp
 refine aH.ret c2 ?_
 simp
 refine aH.ret c3 ?_
 simp
set_option maxHeartbeats 4000000 in
theorem aDo:aPK M.Qp (fun a b=>oh a b == .eq) (fun o=>bg o=true):=fun a b ha hb'=>by
 refine Ret.go ah asj (by simp) fun hb w0 F0 hG=>?_
 have c1:=Nk a
 have c2:=Nk b
 have c3:=ah6 (jk a) (jk b) (vG ha) (vG hb')
 have e:jV (jk a) (jk b)=(oh a b == .eq):=by unfold jV; rw[aeI]
 rw[e] at c3
 simp
 intro v1 v2 v3
 refine aH.ret c1 ?_
 simp
 refine aH.ret c2 ?_
 simp
 refine aH.ret c3 ?_
 simp
theorem aNI:Tot oh:=⟨aiF,awf⟩
structure abn where
 a:List Ob
 b:List Ob
def abn.l (g:abn):List Ob:=g.a++g.b
def LU (l:List Ob) (i:Nat) (o:Ob):Nat→Bool
 | 0=>false
 | n+1=>LU l i o n||(n != i&&(match l[n]? with|some x=>oG o x|none=>false))
theorem aMY (a b:List Ob) (o:Ob):LU (a++o::b) a.length o (a++o::b).length=(a.any (oG o)||b.any (oG o)):=by
 have h1:∀ n,n≤a.length→LU (a++o::b) a.length o n=(a.take n).any (oG o):=by
  intro n
  induction n with
  | zero=>intro _; simp[LU]
  | succ n ih =>
    intro hn
    have h:n<a.length:=by omega
    rw[LU,ih (by omega),List.getElem?_append_left h,List.getElem?_eq_getElem h,List.take_succ_eq_append_getElem h,List.any_append]
    have:(n != a.length)=true:=by simp; omega
    simp only[this,List.any_cons,List.any_nil,Bool.or_false,Bool.true_and]
 have h2:∀ n,n≤b.length→LU (a++o::b) a.length o (a.length+1+n)=(a.any (oG o)||(b.take n).any (oG o)):=by
  intro n
  induction n with
  | zero=>intro _; simp[LU,h1 a.length (Nat.le_refl _)]
  | succ n ih =>
    intro hn
    have h:n<b.length:=by omega
    have e:(a++o::b)[a.length+1+n]? = some b[n]:=by
     rw[List.getElem?_append_right (by omega),show a.length+1+n-a.length=n+1 by omega,List.getElem?_cons_succ,List.getElem?_eq_getElem h]
    rw[show a.length+1+(n+1)=(a.length+1+n)+1 by omega,LU,ih (by omega),e,List.take_succ_eq_append_getElem h,List.any_append]
    have:(a.length+1+n != a.length)=true:=by simp; omega
    simp only[this,List.any_cons,List.any_nil,Bool.or_false,Bool.true_and,Bool.or_assoc]
 have:=h2 b.length (Nat.le_refl _)
 rw[List.take_length] at this
 rw[← this]
 congr 1
 simp; omega
set_option maxHeartbeats 8000000 in
theorem aHR (hS:al3 prog M.uF) (gs gv:Nat) (fl:Bool) (L:List Ob) (hF:∀ o∈L,nK (jk o)) (hl:L.length≤34359738368) (h6:¬ gs=6) :
 wU prog M.D9 [.own (gs,gv) 12 0 L.length fl] (iW gs gv L) (fun r h=>∃ fl',r=.own (gs,gv) 12 0 (dN [] L).length fl'∧h=iW gs gv (dN [] L)):=by
 refine wU.of ah ahl (by simp) fun E hP hV=>?_
 have hgV:=hV (gs,gv) ⟨12,L.map au,false,false⟩ (by simp[hk])
 obtain⟨P,w0,F0,nt,G,V,glob⟩:=E
 obtain rfl:P=prog:=hP
 have hgV' : gv<V:=hgV
 obtain⟨R,hR⟩ : ∃ R,R=dN [] L:=⟨_,rfl⟩
 rw[← hR]
 simp[h6,-Bool.exists_bool]
 obtain⟨J,hJ⟩ : ∃ J:Bool × abn→Prop,J=fun g=>dN g.2.a g.2.b=R∧(∀ o∈g.2.l,nK (jk o))∧g.2.l.length≤L.length:=⟨_,rfl⟩
 refine aU.go ah (fun (g:Bool × abn)=>⟨[(3,.int .i64 g.2.a.length),(0,.own (gs,gv) 12 0 g.2.l.length g.1)],iW gs gv g.2.l⟩) J (fun g=>g.2.b.length) (fl,⟨[],L⟩) (by rw[hJ]; exact⟨hR.symm,by simpa[abn.l] using hF,by simp[abn.l]⟩) (by simp[abn.l,bf]) fun g hj=>?_
 obtain⟨f,g⟩:=g
 have hj' : dN g.a g.b=R∧(∀ o∈g.l,nK (jk o))∧g.l.length≤L.length:=by rw[hJ] at hj; exact hj
 clear hj
 obtain⟨j1,j2,j3⟩:=hj'
 obtain⟨i,hi⟩ : ∃ i,i=g.a.length:=⟨_,rfl⟩
 obtain⟨n,hn⟩ : ∃ n,n=g.l.length:=⟨_,rfl⟩
 have hln:n=i+g.b.length:=by rw[hn,hi]; simp[abn.l]
 simp only[← hi,← hn]
 match hb:g.b with
 | [] =>
   rw[hb] at hln j1
   have h1:¬ i<n:=by simp at hln; omega
   have hRa:g.l=R:=by rw[aJb] at j1; simp[abn.l,hb,j1]
   simp[h1,h6,-Bool.exists_bool]
   refine⟨iW gs gv R,⟨by rw[hn,hRa],rfl⟩,by simp,?_⟩
   rw[hRa]
   intro a1 b1 _
   by_cases hk:a1=gs∧b1=gv<;>simp[hk,bf]
 | o::b' =>
   rw[hb] at hln j1
   have h1:i<n:=by simp at hln; omega
   have hle:g.l=g.a++o::b':=by simp[abn.l,hb]
   have hio:∀ h:i<g.l.length,g.l[i]=o:=fun h=>adA (p:=g.a) (x:=[o]) (q:=b') (by rw[hle]; simp) (k:=0) (by simp) (by omega) h
   have hiL:i<g.l.length:=by omega
   have hio:=hio hiL
   have hwi:=wrap64 (n:=(i:Int)+1) (by omega) (by omega)
   simp[h1,h6,-Bool.exists_bool]
   refine aU.cnt ah n (fun k (_:Unit)=>⟨[(13,.int .i64 k),(12,.int .i64 n),(11,.own (gs,gv) 12 0 n f),(4,.bool (LU g.l i o k)),(3,.int .i64 i),(0,.own (gs,gv) 12 0 n f)],iW gs gv g.l⟩) (fun _ _=>True) () trivial (by simp[LU,bf]) fun k _ hk _=>?_
   have hw:=wrap64 (n:=(k:Int)+1) (by omega) (by omega)
   by_cases h2:k<n
   ·have hkL:k<g.l.length:=by omega
    have hst:LU g.l i o (k+1)=(LU g.l i o k||(k != i&&oG o g.l[k])):=by rw[LU,List.getElem?_eq_getElem hkL]
    obtain⟨q,hq⟩ : ∃ q,q=LU g.l i o (k+1):=⟨_,rfl⟩
    rw[← hq] at hst
    have cb:=az3 (jk o) (jk g.l[k]) (j2 o (by rw[← hio]; exact List.getElem_mem _)) (j2 _ (List.getElem_mem _))
    have ca:=Nk o
    have ck:=Nk g.l[k]
    have hbe:p9 (jk g.l[k]) (jk o)=oG o g.l[k]:=rfl
    rw[hbe] at cb
    generalize hp:LU g.l i o k=p at *
    cases p
    ·by_cases h3:k=i
     ·have h3' : (k:Int)=i:=by omega
      have hst' : q=false:=by rw[hst]; simp[h3]
      simp[h2,hkL,hiL,h1,h3',hwi,hq.symm,hst',h6,-Bool.exists_bool]
     ·have h3' : ¬ (k:Int)=i:=by omega
      have hst' : q=oG o g.l[k]:=by rw[hst]; simp[h3]
      simp[h2,hkL,hiL,h1,h3',hw,hio,h6,-Bool.exists_bool]
      intro v1 hv1 v2 hv2
      refine aH.ret ca ?_
      simp[h2,hkL,hiL,h1,h3',hw,hio,h6,-Bool.exists_bool]
      refine aH.ret ck ?_
      simp[h2,hkL,hiL,h1,h3',hw,hio,h6,-Bool.exists_bool]
      refine aH.ret cb ?_
      simp[h2,hkL,hiL,h1,h3',hw,hio,h6,hq.symm,hst',bf,-Bool.exists_bool]
    ·have hst' : q=true:=by rw[hst]; simp
     simp[h2,hkL,hiL,h1,hw,hq.symm,hst',h6,bf,-Bool.exists_bool]
   ·have hkn:k=n:=by omega
    have hany:LU g.l i o k=(g.a.any (oG o)||b'.any (oG o)):=by rw[hkn,hn,hle,hi]; exact aMY _ _ _
    rw[hany]
    rw[aG0] at j1
    simp[h2,h6,-Bool.exists_bool]
    refine bF.go ah ?_
    cases hp:(g.a.any (oG o)||b'.any (oG o))
    ·rw[hp] at j1
     have hl2:(⟨g.a++[o],b'⟩ : abn).l=g.l:=by simp[abn.l,hb]
     simp[hwi,h6,-Bool.exists_bool]
     refine⟨f,⟨g.a++[o],b'⟩,?_,by simp[hb],?_⟩
     ·rw[hJ]
      exact⟨by simpa using j1,by simp only[hl2]; exact j2,by simp only[hl2]; exact j3⟩
     ·simp only[hl2,← hn]
      simp[hi,bf]
    ·rw[hp] at j1
     have hl2:(⟨g.a,b'⟩ : abn).l=g.l.eraseIdx i:=by
      rw[hle,hi,List.eraseIdx_append_of_length_le (Nat.le_refl _)]
      simp[abn.l]
     have c1:=aNo hS gs gv f g.l i hiL (by omega)
     rw[← hn] at c1
     obtain⟨i1,hi1⟩ : ∃ i1,i1=i+1:=⟨_,rfl⟩
     have ei1:(i:Int)+1=(i1:Nat):=by omega
     have wi1:=wrap64 (n:=(i1:Nat)) (by omega) (by omega)
     rw[← hi1] at c1
     simp[ei1,wi1,h6,-Bool.exists_bool]
     refine ak.aat c1 ?_
     rintro r h' ⟨rfl,rfl⟩
     have hll:(g.l.eraseIdx i).length=n-1:=by rw[List.length_eraseIdx_of_lt hiL,hn]
     rw[← hll]
     generalize hE:g.l.eraseIdx i=l2 at *
     simp[h6,-Bool.exists_bool]
     refine⟨false,⟨g.a,b'⟩,?_,by simp[hb],?_⟩
     ·rw[hJ]
      refine⟨by simpa using j1,fun x hx=>?_,?_⟩
      ·simp only[hl2] at hx
       exact j2 x (List.mem_of_mem_eraseIdx (by rw[hE]; exact hx))
      ·simp only[hl2]; omega
     ·simp only[hl2]
      simp[hi,bf]
end Go.Proofs.YtngjnfbngheccaaGreatDoor.Pv
set_option maxRecDepth 100000
namespace Go.Proofs.YtngjnfbngheccaaGreatDoor.Pv
open Go Go.Tidy
def qH (l:List Ob):List Ob:=dN [] (iY l)
theorem azV {l:List Ob}:∀ x∈qH l,x∈l:=fun x hx=>(zi _ _ x hx).elim (fun h=>by cases h) ((uq l).1 x)
theorem aox (l:List Ob):(qH l).length≤l.length:=by
 have h1:=(JC (iY l) []).1
 have h2:=(uq l).2.1
 unfold qH
 simp at h1; omega
set_option maxHeartbeats 8000000 in
theorem ani (hS:al3 prog M.uF) (h:Int) (L:List Ob) (w:Ob) (D:Ob→Prop) (hl:L.length≤34359738368) (hDf:∀ o,D o→bg o=true) (hDF:∀ o,D o→nK (jk o)) (hDm:∀ o,D o→aic o) (hD:∀ o∈L,D o)
 (hw:4<(qH L).length→D w∧Ret prog M.agw [.vec 12 false (((qH L).drop 3).map au)] (.agg (cO (yj ((qH L).drop 3))))∧Ret prog M.uO [.agg (cO (yj ((qH L).drop 3))),.int .i64 h] (.agg (cO w))) :
 Ret prog M.ug [.vec 12 false (L.map au),.int .i64 h] (.vec 12 false ((if (qH L).length≤4 then qH L else qH ((qH L).take 3++[w])).map au)):=by
 refine Ret.go ah ake (by simp) fun hb w0 F0 hG=>?_
 have c0:=Xk false (L.map au) (by simp; omega)
 obtain⟨R,hR⟩ : ∃ R,R=(if (qH L).length≤4 then qH L else qH ((qH L).take 3++[w])):=⟨_,rfl⟩
 rw[← hR]
 simp
 refine aU.scope ah [(0,12,1000)] rfl 0 (fun v (l:List Ob)=>⟨[(0,.own (1000,v) 12 0 l.length false),(1,.int .i64 h)],iW 1000 v l⟩) (fun l=>l=L∨(4<(qH L).length∧l=(qH L).take 3++[w])) (fun l=>l.length) rfl ?_ ?_
 ·simp
  refine ak.zn (by simpa using c0) ?_
  intro v hv
  simp
 ·intro v l hv hj
  have hlD:∀ o∈l,D o:=fun o ho=>by
   rcases hj with rfl|⟨h4,rfl⟩
   ·exact hD o ho
   ·rcases List.mem_append.1 ho with ho|ho
    ·exact hD o (azV o (List.mem_of_mem_take ho))
    ·rw[List.mem_singleton.1 ho]; exact (hw h4).1
  have hll:l.length≤34359738368:=by
   rcases hj with rfl|⟨h4,rfl⟩
   ·exact hl
   ·simp; omega
  have c1:=aEL 1000 v false M.Qy aNI aHi l (fun o ho=>hDf o (hlD o ho)) hll
  simp
  refine ak.aat c1 ?_
  rintro r h' ⟨rfl,l',rfl,hp,hs⟩
  have hpl:l'.length=l.length:=hp.length_eq
  have hC:qm (fun a b=>oh a b == .eq) l'=iY l:=aHz l l' (fun x hx=>hDm x (hlD x hx)) hp hs
  have c2:=aAP 1000 v false M.Qp aDo l' (fun o ho=>hDf o (hlD o (hp.mem_iff.1 ho))) (by omega)
  rw[hC,hpl] at c2
  have c3:=fun fl=>aHR hS 1000 v fl (iY l) (fun o ho=>hDF o (hlD o ((uq l).1 o ho))) (by have:=(uq l).2.1; omega) (by decide)
  have hX:dN [] (iY l)=qH l:=rfl
  rw[hX] at c3
  generalize iY l=rw1 at *
  simp
  refine ak.aat c2 ?_
  rintro r h' ⟨fl,rfl,rfl⟩
  simp
  refine ak.aat (c3 fl) ?_
  rintro r h' ⟨fl2,rfl,rfl⟩
  by_cases g4:(qH l).length≤4
  ·have g4' : ¬ (4:Int)<(qH l).length:=by omega
   have hRl:R=qH l:=by
    rcases hj with rfl|⟨h4,rfl⟩
    ·rw[hR,if_pos g4]
    ·rw[hR,if_neg (by omega)]
   rw[hRl]
   generalize qH l=q at *
   simp[g4']
  ·have g4' : (4:Int)<(qH l).length:=by omega
   have hlL:l=L:=by
    rcases hj with h|⟨h4,rfl⟩
    ·exact h
    ·exact absurd (Nat.le_trans (aox _) (by simp; omega)) g4
   subst hlL
   obtain⟨hwD,co,cb⟩:=hw (by omega)
   have hpl2:4<l.length:=by have:=aox l; omega
   generalize qH l=q at *
   have e3:(3:Int)≤q.length:=by omega
   have e5:((q.map au).drop 3).take (q.length-3)=(q.drop 3).map au:=by rw[List.take_of_length_le (by simp),List.map_drop]
   have e6:3+(q.length-3)≤q.length:=by omega
   have e7:((q.length:Int)-3).toNat=q.length-3:=by omega
   have e8:3≤q.length:=by omega
   simp[g4',e3,e6,e7,e8,e5]
   intro v1
   generalize yj (q.drop 3)=x at *
   refine aH.ret (r:=.agg (cO x)) (by
    have:og (fun k=>hk k (iW 1000 v q)) [.own (1000,v) 12 3 (q.length-3) fl2]=[.vec 12 false ((q.drop 3).map au)]:=by
     simp only[og,reify,hk,if_true,e5]
    rw[this]; exact co) ?_
   simp[e8,e6]
   refine aH.ret (r:=.agg (cO w)) (by simpa using cb) ?_
   simp[e8,e6]
   exact⟨q.take 3++[w],⟨by omega,rfl⟩,by simp; omega,fun v1=>⟨by simp; omega,WU (by simp)⟩⟩
end Go.Proofs.YtngjnfbngheccaaGreatDoor.Pv

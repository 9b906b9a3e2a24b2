/- Part 15. -/
import Derived.Test.YtngjnfbngheccaaGreatDoorU14
set_option linter.unusedSimpArgs false
set_option linter.unusedVariables false
set_option maxRecDepth 100000
namespace Go.Proofs.YtngjnfbngheccaaGreatDoor.Pv
open Go Go.Tidy
theorem aC6 (t:Ty):Ret prog M.ae8 [.agg (cT t)] (.bool (never t)):=by
 refine Ret.go ah aBL (by simp) fun hb w0 F0 hG=>?_
 rw[← aEW]
 simp
 intros
 refine ak.ret (aAU t) ?_
 simp
def ab7 (k:Nat):Bool:=k == 3||k == 4||k == 5||k == 6
theorem JQ (k:Nat) (hk:k<7):Ret prog M.Ay [.int .i64 k,.ref [.int .u8 120]] (.bool (ab7 k)):=by
 refine Ret.go ah af2 (by simp) fun hb w0 F0 hG=>?_
 have c1:k=0∨k=1∨k=2∨k=3∨k=4∨k=5∨k=6:=by omega
 rcases c1 with rfl|rfl|rfl|rfl|rfl|rfl|rfl<;>simp[ab7]<;>decide
def axi:Ty:=.mk false false false false [⟨ByteArray.empty,ByteArray.empty⟩] true [] [.mk dx 0 (-1)] [.mk [] [] [] dx]
set_option maxHeartbeats 4000000 in
theorem aLC:Ret prog M.zQ [.int .u8 120] (.agg (cT axi)):=by
 refine Ret.go ah aip (by simp) fun hb w0 F0 hG=>?_
 have kw:IntKind.u8.wrap ((120 % 2 ^ IntKind.u8.bits &&& 127 % 2 ^ IntKind.u8.bits:Nat):Int)=120:=by decide
 have h0:=JQ 0 (by decide)
 have h1:=JQ 1 (by decide)
 have h2:=JQ 2 (by decide)
 have h3:=JQ 3 (by decide)
 have h4:=JQ 4 (by decide)
 have h5:=JQ 5 (by decide)
 have h6:=JQ 6 (by decide)
 simp only[show ab7 0=false by decide,show ab7 1=false by decide,show ab7 2=false by decide,show ab7 3=true by decide,show ab7 4=true by decide,show ab7 5=true by decide,show ab7 6=true by decide] at h0 h1 h2 h3 h4 h5 h6
 simp[kw]
 intro v1 v2
 refine ak.ret (r:=.bool false) (by simpa using h0) ?_
 simp
 refine ak.ret (r:=.bool false) (by simpa using h1) ?_
 simp
 refine ak.ret (r:=.bool false) (by simpa using h2) ?_
 simp
 refine ak.ret (r:=.bool true) (by simpa using h4) ?_
 simp
 intro v4
 refine bF.go ah ?_
 simp
 refine ak.ret (r:=.bool true) (by simpa using h3) ?_
 simp
 intro v5
 refine bF.go ah ?_
 simp
 refine ak.ret (r:=.bool true) (by simpa using h5) ?_
 simp
 refine ak.ret xU ?_
 simp
 intro v6
 refine bF.go ah ?_
 simp
 refine ak.ret (r:=.bool true) (by simpa using h6) ?_
 simp
 refine ak.ret xU ?_
 simp[axi,dx,CU]
 rfl
theorem aPV {t:Ty} (h:t.all=true):BQ t=laidAll:=by simp[BQ,h]
theorem aFE (t:Ty):Ret prog M.ah2 [.agg (cT t)] (.agg (cT (BQ t))):=by
 refine Ret.go ah aDP (by simp) fun hb w0 F0 hG=>?_
 cases ha:t.all
 ·simp[ha,BQ]
 ·rw[aPV ha]
  simp[ha]
  intros
  refine ak.ret aLC ?_
  simp[axi,laidAll]
end Go.Proofs.YtngjnfbngheccaaGreatDoor.Pv
set_option maxRecDepth 100000
namespace Go.Proofs.YtngjnfbngheccaaGreatDoor.Pv
open Go Go.Tidy
theorem amn {a b:S} (ha:yg a=true) (hb:yg b=true):aeL a b=dZ (eu a b):=by simp[aeL,ha,hb]
theorem axf (s:Span) (h1:fu s.low=true) (h2:fu s.high=true):Ret prog M.ad6 [.agg (dw s)] (.bool (aeN s)):=by
 refine Ret.go ah axg (by simp) fun hb w0 F0 hG=>?_
 unfold aeN
 cases e1:eU s.low
 ·cases e2:eU s.high
  ·simp[e1,e2]
   intros
   refine ak.ret (afw s.low s.high) ?_
   rw[amn (fU h1 e1) (fU h2 e2)]
   cases eu s.low s.high<;>simp[dZ,e1,e2]
  ·simp[e1,e2]
 ·simp[e1]
theorem aJG (a b:Span):abp a b=(aeN a||((eU b.low||(!eU a.low&&(eu b.low a.low).isLE))&&(eU b.high||(!eU a.high&&(eu a.high b.high).isLE)))):=by
 unfold abp
 rw[ajJ a.low b.low]
 cases eu a.low b.low<;>rfl
set_option maxHeartbeats 4000000 in
theorem aFL (a b:Span) (a1:fu a.low=true) (a2:fu a.high=true) (b1:fu b.low=true) (b2:fu b.high=true):Ret prog M.aib [.agg (dw a),.agg (dw b)] (.bool (abp a b)):=by
 refine Ret.go ah aFg (by simp) fun hb w0 F0 hG=>?_
 rw[aJG]
 have c1:=afw b.low a.low
 have c2:=afw a.high b.high
 simp
 intro v1 v2
 refine ak.ret (axf a a1 a2) ?_
 cases e0:aeN a
 ·have fin:∀ (st:St) (ks:List KF) (Q:Ex→St→Prop) (r:PV),True:=fun _ _ _ _=>trivial
  cases e1:eU b.low
  ·cases e2:eU a.low
   ·rw[amn (fU b1 e1) (fU a1 e2)] at c1
    simp[e1,e2]
    refine ak.ret c1 ?_
    cases eu b.low a.low
    all_goals
      simp[dZ,e1,e2]
    all_goals
      cases e3:eU b.high
      ·cases e4:eU a.high
       ·rw[amn (fU a2 e4) (fU b2 e3)] at c2
        simp[e3,e4]
        refine ak.ret c2 ?_
        cases eu a.high b.high<;>simp[dZ,e3,e4]
       ·simp[e3,e4]
      ·simp[e3]
   ·simp[e1,e2]
  ·cases e3:eU b.high
   ·cases e4:eU a.high
    ·rw[amn (fU a2 e4) (fU b2 e3)] at c2
     simp[e1,e3,e4]
     refine ak.ret c2 ?_
     cases eu a.high b.high<;>simp[dZ,e1,e3,e4]
    ·simp[e1,e3,e4]
   ·simp[e1,e3]
 ·simp
theorem apt (a b:Ty):Ret prog M.W9 [.agg (cT a),.agg (cT b)] (.bool ((!a.null||b.null)&&(!a.fls||b.fls)&&(!a.tru||b.tru))):=by
 refine Ret.go ah aoD (by simp) fun hb w0 F0 hG=>?_
 cases e1:a.null<;>cases e2:a.fls<;>cases e3:a.tru<;>cases e4:b.null<;>cases e5:b.fls<;>simp[e1,e2,e3,e4,e5]
theorem aqT (a b:Ty) (ha:∀ s∈a.nums,jo s=true) (hb' : ∀ s∈b.nums,jo s=true):Ret prog M.ZI [.agg (cT a),.agg (cT b)] (.bool (ab8 a.nums b.nums)):=by
 refine Ret.go ah aqv (by simp) fun hb w0 F0 hG=>?_
 unfold ab8
 cases ea:a.nums with
 | nil=>simp[ea]
 | cons x l =>
   have q:¬ ((l.length:Int)+1=0):=by omega
   have q2:(0:Int)<(l.length:Int)+1:=by omega
   cases eb:b.nums with
   | nil=>simp[ea,eb,q]
   | cons y m =>
     have h1:=aev.1 (ha x (by simp[ea]))
     have h2:=aev.1 (hb' y (by simp[eb]))
     have q' : ¬ ((m.length:Int)+1=0):=by omega
     have q3:(0:Int)<(m.length:Int)+1:=by omega
     simp[ea,eb,q,q',q2,q3]
     intros
     refine aH.ret (aFL x y h1.1 h1.2.1 h2.1 h2.2.1) ?_
     simp[ea,eb,q,q',q2,q3]
theorem amj (s:S) (b:Ty):Ret prog M.BN [.str s,.ref (cT b)] (.bool (!b.texts.any fun u=>sEq u s)):=by
 refine Ret.go ah al4 (by simp) fun hb w0 F0 hG=>?_
 simp
 refine ak.ret (Dz b.texts s) ?_
 simp
theorem apk (a b:Ty):Ret prog M.WO [.agg (cT a),.agg (cT b)] (.bool (textsIn a b)):=by
 refine Ret.go ah aog (by simp) fun hb w0 F0 hG=>?_
 have hc:=adG a.texts M.BN [.ref (cT b)] (fun s=>!b.texts.any fun u=>sEq u s) (by simp) (by simp) (by simp) (fun s _=>amj s b)
 have hR:textsIn a b=(b.any||(!a.any&&!(a.texts.any fun s=>!b.texts.any fun u=>sEq u s))):=by
  unfold textsIn
  congr 2
  rw[List.not_any_eq_all_not]
  simp
 rw[hR]
 generalize (a.texts.any fun s=>!b.texts.any fun u=>sEq u s)=R at *
 cases e1:b.any
 ·cases e2:a.any
  ·simp[e1,e2]
   intros
   refine ak.ret (r:=.bool R) (by simpa using hc) ?_
   simp
  ·simp[e1,e2]
 ·simp[e1]
end Go.Proofs.YtngjnfbngheccaaGreatDoor.Pv
set_option maxRecDepth 100000
namespace Go.Proofs.YtngjnfbngheccaaGreatDoor.Pv
open Go Go.Tidy
set_option maxHeartbeats 4000000 in
theorem amN (o:Ob) (n:S) (h1:o.names.length=o.fields.length) (h2:o.names.length=o.must.length) (hs:SSs o.names):Ret prog M.aae [.agg (cO o),.str n] (.tup [.agg (cT (bn o n).1),.bool (bn o n).2]):=by
 obtain⟨i,i1,i2,i3⟩:=aKU o.names n hs
 have hc:=OH o.names n i i1 i2 i3
 have hR:bn o n=if h:o.names[i]? = some n then (o.fields[i]'(by have:=(List.getElem?_eq_some_iff.1 h).1; omega),o.must[i]'(by have:=(List.getElem?_eq_some_iff.1 h).1; omega)) else (o.rest,false):=by
  split
  ·rename_i h
   obtain⟨hi,e⟩:=List.getElem?_eq_some_iff.1 h
   exact aEc h1 h2 hi hs e
  ·rename_i h
   exact aE7 (aKP hs i2 i3 h)
 generalize bn o n=R at *
 refine Ret.go ah aAG (by simp) fun hb w0 F0 hG=>?_
 simp
 intros
 refine ak.ret hc ?_
 by_cases h:o.names[i]? = some n
 ·have hi:i<o.names.length:=(List.getElem?_eq_some_iff.1 h).1
  have g2:i<o.fields.length:=by omega
  have g3:i<o.must.length:=by omega
  rw[dif_pos h] at hR
  simp[h,g2,g3,hR]
 ·rw[dif_neg h] at hR
  simp[h,hR]
theorem nK.ss {t:Ty} (h:nK t) {o:Ob} (ho:o∈t.objects):SSs o.names:=by
 have:=bN h.1
 exact oq (this.2.2.2.2.2.2.2 o ho)
theorem aCW (a b:Ob) (hl:a.names.length+b.names.length≤68719476736):gU prog M.afB [.agg (cO a),.agg (cO b)] 1 ((a.names++b.names).map encStr):=by
 refine gU.go ah aCu (by simp) fun hb w0 F0 hG=>?_
 have hc:=vg false (a.names.map encStr) (by simp; omega)
 simp
 intros
 refine aH.zn hc ?_
 simp[hl]
 exact List.take_of_length_le (by simp)
set_option maxHeartbeats 4000000 in
theorem aGV (x y:Ob) (hl:x.names.length+y.names.length≤68719476736) (x1:x.names.length=x.fields.length) (x2:x.names.length=x.must.length) (y1:y.names.length=y.fields.length) (y2:y.names.length=y.must.length) (xs:SSs x.names) (ys:SSs y.names)
 (ih:∀ n,Ret prog M.qd [.agg (cT (bn x n).1),.agg (cT (bn y n).1)] (.bool (p9 (bn y n).1 (bn x n).1))) (ihr:Ret prog M.qd [.agg (cT x.rest),.agg (cT y.rest)] (.bool (p9 y.rest x.rest))) :
 Ret prog M.Vw [.agg (cO x),.agg (cO y)] (.bool (tq y x)):=by
 refine Ret.go ah aDt (by simp) fun hb w0 F0 hG=>?_
 simp only[ig,jh,List.length_map,LIM,and_true] at hb
 rw[ate]
 have hnm:=aCW x y hl
 have hlN:(x.names++y.names).length≤68719476736:=by simpa using hl
 generalize x.names++y.names=N at *
 generalize hB:N.all (zU y x)=B
 simp
 intro v1 v2
 refine ak.zn hnm ?_
 intro v3 _
 simp
 obtain⟨J,hJ⟩ : ∃ J:Nat→Unit→Prop,J=fun k _=>iy (zU y x) N k:=⟨_,rfl⟩
 refine aU.cnt ah N.length (fun k _=>⟨[(15,.int .i64 k),(14,.int .i64 N.length),(13,.own (13,v3) 1 0 N.length false),(2,.ptr (2,v1) 12 0 0),(3,.ptr (3,v2) 12 0 0)],[((13,v3),some ⟨1,N.map encStr,false,false⟩),((3,v2),some ⟨12,[cO y],false,true⟩),((2,v1),some ⟨12,[cO x],false,true⟩)]⟩) J () (by rw[hJ]; exact .zero) (by simp[bf]) fun k _ hk hj=>?_
 have hw:=wrap64 (n:=(k:Int)+1) (by omega) (by omega)
 have hj' : iy (zU y x) N k:=by rw[hJ] at hj; exact hj
 by_cases g1:k<N.length
 ·simp[g1]
  refine ak.ret (amN x N[k] x1 x2 xs) ?_
  simp[g1]
  intros
  refine ak.ret (amN y N[k] y1 y2 ys) ?_
  have hs:zU y x N[k]=((!(bn y N[k]).2||(bn x N[k]).2)&&p9 (bn y N[k]).1 (bn x N[k]).1):=rfl
  have ih':=ih N[k]
  generalize bn y N[k]=fy at *
  generalize bn x N[k]=fx at *
  obtain⟨ty,my⟩:=fy
  obtain⟨tx,mx⟩:=fx
  simp only at hs ih' ⊢
  have no:zU y x N[k]=false→B=false:=fun h=>hB ▸ wZ g1 h
  have yes:zU y x N[k]=true→J (k+1) ():=fun h=>by rw[hJ]; exact hj'.step g1 h
  cases my
  ·simp
   intros
   refine ak.ret ih' ?_
   cases hbt:p9 ty tx<;>rw[hbt] at hs
   ·simp[no (by rw[hs]; simp)]
   ·simp[hw,bf,g1]
    exact⟨(),yes (by rw[hs]; simp)⟩
  ·cases mx
   ·simp[no (by rw[hs]; simp)]
   ·simp
    intros
    refine ak.ret ih' ?_
    cases hbt:p9 ty tx<;>rw[hbt] at hs
    ·simp[no (by rw[hs]; simp)]
    ·simp[hw,bf,g1]
     exact⟨(),yes (by rw[hs]; simp)⟩
 ·have hB1:B=true:=by rw[← hB]; exact hj'.all g1
  simp[g1]
  refine ak.ret ihr ?_
  simp[hB1]
set_option maxHeartbeats 4000000 in
theorem aGD (a b:Ty) (ih:∀ x∈a.arrays,∀ y∈b.arrays,Ret prog M.qd [.agg (cT x.item),.agg (cT y.item)] (.bool (p9 y.item x.item))):Ret prog M.Uy [.agg (cT a),.agg (cT b)] (.bool (Jk a.arrays b.arrays)):=by
 refine Ret.go ah anT (by simp) fun hb w0 F0 hG=>?_
 clear hb
 generalize hA:a.arrays=la at *
 generalize hB:b.arrays=lb at *
 cases la with
 | nil=>simp[Jk,hA]
 | cons x la =>
   have na:¬ ((la.length:Int)+1=0):=by omega
   have na2:(0:Int)<(la.length:Int)+1:=by omega
   cases lb with
   | nil=>simp[Jk,hA,hB,na]
   | cons y lb =>
     have nb:¬ ((lb.length:Int)+1=0):=by omega
     have nb2:(0:Int)<(lb.length:Int)+1:=by omega
     have ih':=ih x (by simp) y (by simp)
     simp only[Jk,List.isEmpty_cons,Bool.false_or,auk]
     by_cases g1:x.min<y.min
     ·simp[hA,hB,na,nb,na2,nb2,g1]
     by_cases g2:0≤y.max
     ·by_cases g3:x.max<0
      ·simp[hA,hB,na,nb,na2,nb2,g1,g2,g3]
      by_cases g4:y.max<x.max
      ·simp[hA,hB,na,nb,na2,nb2,g1,g2,g3,g4]
      by_cases g5:x.max=0
      ·simp[hA,hB,na,nb,na2,nb2,g1,g2,g3,g4,g5]
      ·simp[hA,hB,na,nb,na2,nb2,g1,g2,g3,g4,g5]
       intros
       refine ak.ret ih' ?_
       simp[g5]
     ·by_cases g5:x.max=0
      ·simp[hA,hB,na,nb,na2,nb2,g1,g2,g5]
      ·simp[hA,hB,na,nb,na2,nb2,g1,g2,g5]
       intros
       refine ak.ret ih' ?_
       simp[g5]
theorem auA (x y:Ob) (ih:Ret prog M.Vw [.agg (cO x),.agg (cO y)] (.bool (tq y x))):Ret prog M.zk [.agg (cO y),.ref (cO x)] (.bool (tq y x)):=by
 refine Ret.go ah ajN (by simp) fun hb w0 F0 hG=>?_
 simp
 intros
 refine ak.ret ih ?_
 simp
set_option maxHeartbeats 4000000 in
theorem aA5 (a b:Ty) (ih:∀ x∈a.objects,∀ y∈b.objects,Ret prog M.Vw [.agg (cO x),.agg (cO y)] (.bool (tq y x))):Ret prog M.Qj [.agg (cT a),.agg (cT b)] (.bool (a.objects.all fun x=>b.objects.any fun y=>tq y x)):=by
 refine Ret.go ah al7 (by simp) fun hb w0 F0 hG=>?_
 simp only[ig,jh,List.length_map,LIM,and_true] at hb
 generalize hB:(a.objects.all fun x=>b.objects.any fun y=>tq y x)=B
 simp
 intro v1 v2
 obtain⟨J,hJ⟩ : ∃ J:Nat→Unit→Prop,J=fun k _=>iy (fun x=>b.objects.any fun y=>tq y x) a.objects k:=⟨_,rfl⟩
 refine aU.cnt ah a.objects.length (fun k _=>⟨[(10,.int .i64 k),(9,.int .i64 a.objects.length),(8,.vec 12 false (a.objects.map au)),(2,.ptr (2,v1) 9 0 0),(3,.ptr (3,v2) 9 0 0)],[((3,v2),some ⟨9,[cT b],false,true⟩),((2,v1),some ⟨9,[cT a],false,true⟩)]⟩) J () (by rw[hJ]; exact .zero) (by simp) fun k _ hk hj=>?_
 have hw:=wrap64 (n:=(k:Int)+1) (by omega) (by omega)
 have hj' : iy (fun x=>b.objects.any fun y=>tq y x) a.objects k:=by rw[hJ] at hj; exact hj
 by_cases g1:k<a.objects.length
 ·have hm:a.objects[k]∈a.objects:=List.getElem_mem g1
  generalize ho:a.objects[k]=o at *
  have hc:=agu b.objects M.zk [.ref (cO o)] (fun y=>tq y o) (by simp) (by simp) (by simp) (fun y hy=>auA o y (ih o hm y hy))
  simp[g1,ho]
  intros
  cases e:b.objects.any fun y=>tq y o
  ·rw[e] at hc
   refine ak.ret (r:=.bool false) (by simpa using hc) ?_
   have:B=false:=by rw[← hB]; exact wZ g1 (by rw[ho]; exact e)
   simp[this]
  ·rw[e] at hc
   refine ak.ret (r:=.bool true) (by simpa using hc) ?_
   simp[hw,g1]
   exact⟨(),by rw[hJ]; exact hj'.step g1 (by rw[ho]; exact e)⟩
 ·have:B=true:=by rw[← hB]; exact hj'.all g1
  simp[g1,this]
set_option maxHeartbeats 4000000 in
theorem aGR (x y:Ty) (fx:nK x) (fy:nK y) (ih:∀ y' : Ty,SizeOf.sizeOf y' < SizeOf.sizeOf y→nK y'→∀ x',nK x'→Ret prog M.qd [.agg (cT x'),.agg (cT y')] (.bool (p9 y' x'))):Ret prog M.qd [.agg (cT x),.agg (cT y)] (.bool (p9 y x)):=by
 have hB:=aE8 y x
 generalize p9 y x=B at *
 have r0:=aFE x
 have fz:=fx.laid
 generalize BQ x=z at *
 have s1:=(bN fz.1).2.2.2.2.1
 have s2:=(bN fy.1).2.2.2.2.1
 have q1:=apt z y
 have q2:=aqT z y s1 s2
 have q3:=apk z y
 have q4:=aGD z y fun a ha b hb'=>ih b.item (Y8 hb') (fy.item hb') a.item (fz.item ha)
 have q5:=aA5 z y fun a ha b hb'=>by
  obtain⟨a1,a2,a3⟩:=fz.names ha
  obtain⟨b1,b2,b3⟩:=fy.names hb'
  refine aGV a b (by omega) a2 a3 b2 b3 ((fz.ss ha)) (fy.ss hb') (fun n=>?_) (ih b.rest (OG hb') (fy.rest hb') a.rest (fz.rest ha))
  have fa:nK (bn a n).1:=by
   rcases acG a n with h|h
   ·exact fz.field ha h
   ·rw[h]; exact fz.rest ha
  rcases acG b n with h|h
  ·exact ih _ (QB hb' h) (fy.field hb' h) _ fa
  ·rw[h]; exact ih _ (OG hb') (fy.rest hb') _ fa
 refine Ret.go ah aB8 (by simp) fun hb w0 F0 hG=>?_
 simp
 intro v1 v2
 refine ak.ret (aC6 x) ?_
 cases e1:never x
 ·cases e2:y.all
  ·rw[e1,e2,Bool.false_or,Bool.false_or] at hB
   have w1:IntKind.i64.wrap 1=1:=wrap64 (by omega) (by omega)
   have w2:IntKind.i64.wrap 2=2:=wrap64 (by omega) (by omega)
   have w3:IntKind.i64.wrap 3=3:=wrap64 (by omega) (by omega)
   have w4:IntKind.i64.wrap 4=4:=wrap64 (by omega) (by omega)
   have w5:IntKind.i64.wrap 5=5:=wrap64 (by omega) (by omega)
   simp[e2]
   refine aU.rnd ah (.s (.s (.s (.s (.s (.s .z)))))) ?_
   simp only[ku]
   simp
   intros
   refine aH.ret r0 ?_
   simp
   refine aH.ret q1 ?_
   cases c1:((!z.null||y.null)&&(!z.fls||y.fls)&&(!z.tru||y.tru))<;>rw[c1] at hB
   ·simp[hB]
   simp[w1,ku]
   intros
   refine aH.ret r0 ?_
   simp
   refine aH.ret q2 ?_
   cases c2:ab8 z.nums y.nums<;>rw[c2] at hB
   ·simp[hB]
   simp[w2,ku]
   intros
   refine aH.ret r0 ?_
   simp
   refine aH.ret q3 ?_
   cases c3:textsIn z y<;>rw[c3] at hB
   ·simp[hB]
   simp[w3,ku]
   intros
   refine aH.ret r0 ?_
   simp
   refine aH.ret q4 ?_
   cases c4:Jk z.arrays y.arrays<;>rw[c4] at hB
   ·simp[hB]
   simp[w4,ku]
   intros
   refine aH.ret r0 ?_
   simp
   refine aH.ret q5 ?_
   cases c5:(z.objects.all fun x=>y.objects.any fun p=>tq p x)<;>rw[c5] at hB
   ·simp[hB]
   simp[w5,ku,hB]
  ·simp[e2,hB,e1]
 ·simp[hB,e1]
theorem az3 (x y:Ty) (fx:nK x) (fy:nK y):Ret prog M.qd [.agg (cT x),.agg (cT y)] (.bool (p9 y x)):=by
 induction hn:SizeOf.sizeOf y using Nat.strongRecOn generalizing x y with
 | _ n ih =>
   subst hn
   exact aGR x y fx fy fun y' h fy' x' fx'=>ih _ h x' y' fx' fy' rfl
end Go.Proofs.YtngjnfbngheccaaGreatDoor.Pv
set_option maxRecDepth 100000
namespace Go.Proofs.YtngjnfbngheccaaGreatDoor.Pv
open Go Go.Tidy
set_option maxHeartbeats 4000000 in
theorem asI (a b:List Arr) (hl:a.length+b.length≤34359738368) (hT:∀ x∈a,∀ y∈b,Ret prog M.jc [.vec 9 false [fq x.item,fq y.item]] (.agg (cT (jf x.item y.item)))) :
 Ret prog M.IQ [.vec 11 false (a.map dz),.vec 11 false (b.map dz)] (.vec 11 false ((jR a b).map dz)):=by
 refine Ret.go ah am8 (by simp) fun hb w0 F0 hG=>?_
 have hc:=anK false false (a.map dz) (b.map dz) (by simpa using hl)
 cases a with
 | nil =>
   simp
   intros
   refine ak.zn (by simpa using hc) ?_
   intro v hv
   simp[KU]
 | cons x a =>
   cases b with
   | nil =>
     simp
     intros
     refine ak.zn (by simpa using hc) ?_
     intro v hv
     simp[Uh]
   | cons y b =>
     have hT:=hT x (by simp) y (by simp)
     have q:¬ ((a.length:Int)+1=0):=by omega
     have q' : ¬ ((b.length:Int)+1=0):=by omega
     have q2:(0:Int)<(a.length:Int)+1:=by omega
     have q3:(0:Int)<(b.length:Int)+1:=by omega
     have e:jR (x::a) (y::b)=[ae9 x y]:=by simp[jR]
     rw[e,adO]
     generalize jf x.item y.item=z at *
     simp[q,q',q2,q3]
     intros
     refine aH.ret (r:=.agg (cT z)) (by simpa using hT) ?_
     simp[q,q',q2,q3]
     refine bF.go ah ?_
     by_cases g1:x.max<0
     ·simp[q,q',q2,q3,g1]
     ·by_cases g2:y.max<0
      ·simp[q,q',q2,q3,g1,g2]
      ·simp[q,q',q2,q3,g1,g2]
def yU (l:List Ty) (k:Nat):Ty :=
 .mk false ((l.take k).any Ty.null) ((l.take k).any Ty.fls) ((l.take k).any Ty.tru) ((l.take k).foldl (fun a t=>Av a t.nums) []) ((l.take k).any Ty.any) ((l.take k).flatMap Ty.texts) ((l.take k).foldl (fun a t=>jR a t.arrays) []) ((l.take k).flatMap Ty.objects)
theorem aLP (l:List Ty) {k:Nat} (hk:k<l.length):yU l (k+1)=.mk false ((yU l k).null||l[k].null) ((yU l k).fls||l[k].fls) ((yU l k).tru||l[k].tru) (Av (yU l k).nums l[k].nums) ((yU l k).any||l[k].any) ((yU l k).texts++l[k].texts) (jR (yU l k).arrays l[k].arrays) ((yU l k).objects++l[k].objects):=by
 unfold yU
 have e:=List.take_succ_eq_append_getElem hk
 rw[e]
 simp only[List.any_append,List.foldl_append,List.flatMap_append,List.any_cons,List.any_nil,List.foldl_cons,List.foldl_nil,List.flatMap_cons,List.flatMap_nil,List.append_nil,Bool.or_false,Ty.agU,Ty.akz,Ty.ak5,Ty.aa3,Ty.any_mk,Ty.rz,Ty.qP,Ty.pQ]
theorem aLX (l:List Ty):yU l 0=aV:=by simp[yU,aV]
def aFM (g:Ty) (tx:PV):List PV:=[.bool false,.bool g.null,.bool g.fls,.bool g.tru,.vec 2 false (g.nums.map dw),.bool g.any,tx,.vec 11 false (g.arrays.map dz),.vec 12 false (g.objects.map au)]
set_option maxHeartbeats 4000000 in
theorem aCv (l:List Ty) (hf:∀ t∈l,aj t=true) (hn:∀ k,k<l.length→((yU l k).nums).length+((l[k]?.getD aV).nums).length≤34359738368)
 (ht:∀ k,k<l.length→((yU l k).texts).length+((l[k]?.getD aV).texts).length≤34359738368) (ho:∀ k,k<l.length→((yU l k).objects).length+((l[k]?.getD aV).objects).length≤34359738368)
 (hsp:∀ k,∀ s∈(yU l k).nums,jo s=true) (hS:akc prog M.kU) (hC:aaQ prog M.jF)
 (hA:∀ k (hk:k<l.length),Ret prog M.IQ [.vec 11 false ((yU l k).arrays.map dz),.vec 11 false (l[k].arrays.map dz)] (.vec 11 false ((jR (yU l k).arrays l[k].arrays).map dz))) :
 Ret prog M.jc [.vec 9 false (l.map fq)] (.agg (cT (Jq l))):=by
 refine Ret.go ah aiz (by simp) fun hb w0 F0 hG=>?_
 simp only[ig,jh,List.length_map,LIM,and_true] at hb
 generalize hR:Jq l=R
 simp
 intro v2 v3
 obtain⟨J,hJ⟩ : ∃ J:Nat→Ty→Prop,J=fun k g=>g=yU l k∧(l.take k).any Ty.all=false:=⟨_,rfl⟩
 refine aU.KG ah [(7000003,1,1006)] rfl l.length (fun v k (g:Ty)=>⟨[(9,.int .i64 k),(8,.int .i64 l.length),(7,.vec 9 false (l.map fq)),(3,.ptr (3,v3) 9 0 0),(2,.ptr (2,v2) 9 0 0)],
  [((3,v3),some ⟨9,[aFM g (.own (1006,v) 1 0 g.texts.length false)],false,true⟩),((1006,v),some ⟨1,g.texts.map encStr,false,false⟩),((2,v2),some ⟨9,[M.z1],false,true⟩)]⟩) J aV (by rw[hJ]; exact⟨(aLX l).symm,by simp⟩) (fun v=>by simp[aFM,aV]) fun v k g hv hk hj=>?_
 have hw:=wrap64 (n:=(k:Int)+1) (by omega) (by omega)
 have hj' : g=yU l k∧(l.take k).any Ty.all=false:=by rw[hJ] at hj; exact hj
 by_cases h1:k<l.length
 ·have hlk:l[k]?.getD aV=l[k]:=by simp[h1]
  have a1:=hn k h1
  have a2:=ht k h1
  have a3:=ho k h1
  have a4:=hsp k
  have a5:=hA k h1
  have a6:∀ s∈l[k].nums,jo s=true:=(bN (hf _ (List.getElem_mem h1))).2.2.2.2.1
  have hs:=aLP l h1
  rw[hlk] at a1 a2 a3
  rw[← hj'.1] at a1 a2 a3 a4 a5 hs
  have ha0:(l.take (k+1)).any Ty.all=l[k].all:=by
   rw[List.take_succ_eq_append_getElem h1,List.any_append,hj'.2]; simp
  generalize htk:l[k]=t at *
  have c1:=aGj g.nums t.nums a4 a6 a1
  have c2:=ajt false false (g.texts.map encStr) (t.texts.map encStr) (by simpa using a2)
  have c3:=anW false false (g.objects.map au) (t.objects.map au) (by simpa using a3)
  cases hal:t.all
  ·simp[h1,aFM,htk,hal]
   intro v5
   refine ak.ret c1 ?_
   simp
   intro v54
   refine ak.zn (by simpa using c2) ?_
   intro v55 _
   simp
   refine ak.ret a5 ?_
   simp
   intro v67
   refine ak.zn (by simpa using c3) ?_
   intro v68 _
   simp[hw,h1]
   refine⟨.mk false (g.null||t.null) (g.fls||t.fls) (g.tru||t.tru) (Av g.nums t.nums) (g.any||t.any) (g.texts++t.texts) (jR g.arrays t.arrays) (g.objects++t.objects),?_,?_⟩
   ·rw[hJ]; exact⟨hs.symm,by rw[ha0,hal]⟩
   ·intro v1
    have e:(List.map au g.objects++List.map au t.objects).take (g.objects.length+t.objects.length)=List.map au g.objects++List.map au t.objects:=List.take_of_length_le (by simp)
    refine⟨⟨rfl,rfl,rfl,rfl,rfl,?_,rfl,?_⟩,?_⟩
    ·show _=(g.texts++t.texts).length
     simp
    ·rw[e]
     show List.map au (g.objects++t.objects)=_
     simp
    ·show leR _ _ (List.map encStr (g.texts++t.texts))
     rw[List.map_append]
     exact bf _ _
  ·have hRe:R=dx:=by
      rw[← hR]
      unfold Jq
      rw[if_pos]
      rw[List.any_eq_true]
      exact⟨t,htk ▸ List.getElem_mem h1,hal⟩
   simp[h1,aFM,htk,hal]
   intros
   refine ak.ret xU ?_
   simp[hRe]
 ·have hk2:k=l.length:=by omega
  have hg:g=yU l l.length:=by rw[← hk2]; exact hj'.1
  have hall:l.any Ty.all=false:=by have:=hj'.2; rwa [hk2,List.take_length] at this
  have hRg:R=.mk false g.null g.fls g.tru g.nums g.any (if g.any then [] else GU lq g.texts) g.arrays g.objects:=by
   rw[← hR,hg]
   unfold Jq yU
   rw[if_neg (by simp[hall])]
   simp
  simp[h1,aFM]
  refine ak.ayU (aKj hS (l:=g.texts) (g:=(1006,v)) (by simp[QD])) ?_
  simp[JR]
  have hcc:=fun h e=>aEg (h:=h) hC (l:=zW g.texts) (g:=(1006,v)) e
  simp only[aje] at hcc
  refine ak.ayU (hcc _ (by simp)) ?_
  simp[JR]
  have hfin:((yT (zW g.texts)).map QD).take (qy (zW g.texts)).length=(GU lq g.texts).map encStr:=by
   rw[← aFv]
   unfold yT
   rw[List.map_append,List.take_left' (by simp)]
   rfl
  have hle:(qy (zW g.texts)).length≤(yT (zW g.texts)).length:=by unfold yT; simp
  generalize (qy (zW g.texts)).length=m at *
  generalize hrows:(yT (zW g.texts)).map QD=rows at *
  have hlr:m≤rows.length:=by rw[← hrows]; simpa using hle
  refine bF.go ah ?_
  cases hany:g.any
  ·rw[hany] at hRg
   simp[hany,hRg,hfin,hlr]
  ·rw[hany] at hRg
   simp[hany,hRg,hfin,hlr]
end Go.Proofs.YtngjnfbngheccaaGreatDoor.Pv
set_option maxRecDepth 100000
namespace Go.Proofs.YtngjnfbngheccaaGreatDoor.Pv
open Go Go.Tidy
def okA (NM:List S) (n m:Nat) (x:Arr):Prop:=gu x=true∧aK x.item≤n∧bdT NM m x.item
theorem aOA {NM:List S} {n m k:Nat} {a b:List Arr} (ha:∀ x∈a,okA NM n m x) (hb:∀ x∈b,okA NM n k x):∀ x∈jR a b,okA NM n (m+k) x:=by
 have hF:=apu a b (fun x hx=>(ha x hx).1) (fun x hx=>(hb x hx).1)
 intro x hx
 refine⟨hF x hx,?_⟩
 cases a with
 | nil =>
   rw[KU] at hx
   exact⟨(hb x hx).2.1,IY (by omega) _ (hb x hx).2.2⟩
 | cons a0 a =>
   cases b with
   | nil =>
     rw[Uh] at hx
     exact⟨(ha x hx).2.1,IY (by omega) _ (ha x hx).2.2⟩
   | cons b0 b =>
     have e:jR (a0::a) (b0::b)=[ae9 a0 b0]:=by simp[jR]
     rw[e,List.mem_singleton] at hx
     subst hx
     have h1:=ha a0 (by simp)
     have h2:=hb b0 (by simp)
     rw[adO]
     exact⟨ard n _ _ h1.2.1 h2.2.1,aEs h1.2.2 h2.2.2⟩
theorem aEY {NM:List S} {n m:Nat} {t:Ty} (hf:aj t=true) (hn:aK t≤n+1) (hb:bdT NM m t):∀ x∈t.arrays,okA NM n m x:=fun x hx =>
 ⟨(bN hf).2.2.2.2.2.2.1 x hx,(uh.1 hn).1 x hx,(uz.1 hb).2.2.1 x hx⟩
def okW (NM:List S) (n:Nat) (ws:List (Nat × Ty)):Prop:=∀ p∈ws,aj p.2=true∧aK p.2≤n∧bdT NM p.1 p.2
def Au (ws:List (Nat × Ty)):Nat:=(ws.map (·.1)).sum
theorem aDW {NM:List S} {n:Nat}:∀ (ws:List (Nat × Ty)) (acc:List Arr) (m:Nat),okW NM (n+1) ws→(∀ x∈acc,okA NM n m x) →
 ∀ x∈(ws.map (·.2)).foldl (fun a t=>jR a t.arrays) acc,okA NM n (m+Au ws) x
 | [],acc,m,_,ha=>fun x hx=>by simpa[Au] using ha x hx
 | (k,t)::ws,acc,m,hw,ha=>by
   have h0:=hw (k,t) (by simp)
   intro x hx
   have:=aDW ws (jR acc t.arrays) (m+k) (fun p hp=>hw p (by simp[hp])) (aOA ha (aEY h0.1 h0.2.1 h0.2.2)) x (by simpa using hx)
   have e:m+k+Au ws=m+Au ((k,t)::ws):=by simp[Au]; omega
   rwa [e] at this
theorem aoZ:∀ (l:List Ty) (acc:List Span),(∀ t∈l,aj t=true)→(∀ s∈acc,jo s=true)→acc.length≤1 →
 (∀ s∈l.foldl (fun a t=>Av a t.nums) acc,jo s=true)∧(l.foldl (fun a t=>Av a t.nums) acc).length≤1
 | [],acc,_,ha,hb=>⟨ha,hb⟩
 | t::l,acc,h,ha,hb=>by
   have hs:=bN (h t (by simp))
   exact aoZ l (Av acc t.nums) (fun x hx=>h x (by simp[hx])) (ar5 ha hs.2.2.2.2.1) (aFa hb hs.2.2.2.1)
theorem azy:∀ (l:List Ty) (acc:List Arr),(∀ t∈l,aj t=true)→acc.length≤1→(l.foldl (fun a t=>jR a t.arrays) acc).length≤1
 | [],acc,_,hb=>hb
 | t::l,acc,h,hb=>azy l (jR acc t.arrays) (fun x hx=>h x (by simp[hx])) (azX _ _ hb (bN (h t (by simp))).2.2.2.2.2.1)
theorem al8 {NM:List S} {n:Nat}:∀ (ws:List (Nat × Ty)),okW NM n ws→((ws.map (·.2)).flatMap Ty.texts).length≤4*Au ws∧((ws.map (·.2)).flatMap Ty.objects).length≤Au ws
 | [],_=>by simp[Au]
 | (k,t)::ws,hw=>by
   have h0:=uz.1 (hw (k,t) (by simp)).2.2
   have:=al8 ws fun p hp=>hw p (by simp[hp])
   simp only[List.map_cons,List.flatMap_cons,List.length_append,Au,List.sum_cons] at *
   omega
theorem aoB (ws:List (Nat × Ty)) {k:Nat} (hk:k<ws.length):Au (ws.take k)+ws[k].1≤Au ws:=by
 have e:Au (ws.take (k+1))=Au (ws.take k)+ws[k].1:=by
  have e0:=List.take_succ_eq_append_getElem hk
  rw[Au,e0,List.map_append,List.sum_append]
  rfl
 have:Au ws=Au (ws.take (k+1))+Au (ws.drop (k+1)):=by
  simp only[Au]
  rw[← List.sum_append,← List.map_append,List.take_append_drop]
 omega
theorem asu {NM:List S} {n:Nat} {ws:List (Nat × Ty)} (h:okW NM n ws) (k:Nat):okW NM n (ws.take k):=fun p hp=>h p (List.mem_of_mem_take hp)
set_option maxHeartbeats 1000000 in
theorem ark (hS:akc prog M.kU) (hC:aaQ prog M.jF) (NM:List S) (n:Nat) (ws:List (Nat × Ty)) (hw:okW NM (n+1) ws) (hB:Au ws≤8589934592)
 (ih:∀ ws' : List (Nat × Ty),okW NM n ws'→Au ws'≤8589934592→(∃ p∈ws,p.2.arrays≠[])→Ret prog M.jc [.vec 9 false ((ws'.map (·.2)).map fq)] (.agg (cT (Jq (ws'.map (·.2)))))) :
 Ret prog M.jc [.vec 9 false ((ws.map (·.2)).map fq)] (.agg (cT (Jq (ws.map (·.2))))):=by
 have hlen:(ws.map (·.2)).length=ws.length:=by simp
 have htk:∀ k,(ws.map (·.2)).take k=(ws.take k).map (·.2):=fun k=>by rw[List.map_take]
 have hget:∀ k (hk:k<ws.length),(ws.map (·.2))[k]?.getD aV=ws[k].2:=fun k hk=>by simp[hk]
 have hget' : ∀ k (hk:k<(ws.map (·.2)).length),(ws.map (·.2))[k]=(ws[k]'(by simpa using hk)).2:=fun k hk=>by simp
 have hfl:∀ t∈ws.map (·.2),aj t=true:=fun t ht=>by
  obtain⟨p,hp,rfl⟩:=List.mem_map.1 ht
  exact (hw p hp).1
 have hft:∀ k,∀ t∈(ws.map (·.2)).take k,aj t=true:=fun k t ht=>hfl t (List.mem_of_mem_take ht)
 refine aCv _ hfl (fun k hk=>?_) (fun k hk=>?_) (fun k hk=>?_) (fun k=>?_) hS hC (fun k hk=>?_)
 ·have hk' : k<ws.length:=by simpa using hk
  rw[hget k hk']
  have h1:=(aoZ _ [] (hft k) (by simp) (by simp)).2
  have h2:=(bN (hw _ (List.getElem_mem hk')).1).2.2.2.1
  simp only[yU,Ty.aa3]
  omega
 ·have hk' : k<ws.length:=by simpa using hk
  rw[hget k hk']
  have h1:=(al8 _ (asu hw k)).1
  have h2:=(uz.1 (hw _ (List.getElem_mem hk')).2.2).1
  have h3:=aoB ws hk'
  simp only[yU,Ty.rz,htk]
  omega
 ·have hk' : k<ws.length:=by simpa using hk
  rw[hget k hk']
  have h1:=(al8 _ (asu hw k)).2
  have h2:=(uz.1 (hw _ (List.getElem_mem hk')).2.2).2.1
  have h3:=aoB ws hk'
  simp only[yU,Ty.pQ,htk]
  omega
 ·exact (aoZ _ [] (hft k) (by simp) (by simp)).1
 ·have hk' : k<ws.length:=by simpa using hk
  rw[hget' k hk]
  have h0:=hw _ (List.getElem_mem hk')
  have h3:=aoB ws hk'
  refine asI _ _ ?_ fun x hx y hy=>?_
  ·have h1:=azy _ [] (hft k) (by simp)
   have h2:=(bN h0.1).2.2.2.2.2.1
   simp only[yU,Ty.qP]
   omega
  ·simp only[yU,Ty.qP,htk] at hx
   have hx':=aDW (ws.take k) [] 0 (asu hw k) (by simp) x hx
   rw[Nat.zero_add] at hx'
   have hy':=aEY h0.1 h0.2.1 h0.2.2 y hy
   have fx:=(gY hx'.1).2.2.2.1
   have fy:=(gY hy'.1).2.2.2.1
   have:=ih [(Au (ws.take k),x.item),(ws[k].1,y.item)] (fun p hp=>by
    simp only[List.mem_cons,List.not_mem_nil,or_false] at hp
    rcases hp with rfl|rfl
    ·exact⟨fx,hx'.2.1,hx'.2.2⟩
    ·exact⟨fy,hy'.2.1,hy'.2.2⟩) (by show Au (ws.take k)+(ws[k].1+0)≤_; omega) ⟨_,List.getElem_mem hk',fun e=>by rw[e] at hy; cases hy⟩
   simp only[List.map_cons,List.map_nil] at this
   rwa [arB _ (fun t ht=>by
    simp only[List.mem_cons,List.not_mem_nil,or_false] at ht
    rcases ht with rfl|rfl
    ·exact fx
    ·exact fy),aF9 fx] at this
theorem as7 (hS:akc prog M.kU) (hC:aaQ prog M.jF) (NM:List S):∀ (n:Nat) (ws:List (Nat × Ty)),okW NM n ws→Au ws≤8589934592 →
 Ret prog M.jc [.vec 9 false ((ws.map (·.2)).map fq)] (.agg (cT (Jq (ws.map (·.2))))):=by
 intro n
 induction n with
 | zero =>
   intro ws hw hB
   refine ark hS hC NM 0 ws (fun p hp=>⟨(hw p hp).1,by have:=(hw p hp).2.1; omega,(hw p hp).2.2⟩) hB fun ws' _ _ ⟨p,hp,hne⟩=>?_
   exact absurd (sW.1 (hw p hp).2.1).1 hne
 | succ n ih =>
   intro ws hw hB
   exact ark hS hC NM n ws hw hB fun ws' h1 h2 _=>ih ws' h1 h2
theorem U7 (hS:akc prog M.kU) (hC:aaQ prog M.jF) (NM:List S) (m:Nat) (l:List Ty) (hf:∀ t∈l,aj t=true) (hb:∀ t∈l,bdT NM m t) (hB:l.length*m≤8589934592) :
 Ret prog M.jc [.vec 9 false (l.map fq)] (.agg (cT (qb l))):=by
 have hn:∃ n,∀ t∈l,aK t≤n:=by
  clear hB hf hb
  induction l with
  | nil=>exact⟨0,by simp⟩
  | cons t l ih =>
    obtain⟨n,hn⟩:=ih
    exact⟨max n (aK t),fun x hx=>by
     rcases List.mem_cons.1 hx with rfl|hx
     ·omega
     ·have:=hn x hx; omega⟩
 obtain⟨n,hn⟩:=hn
 have e:(l.map fun t=>(m,t)).map (·.2)=l:=by simp[Function.comp_def]
 have e2:Au (l.map fun t=>(m,t))=l.length*m:=by
  unfold Au
  rw[List.map_map]
  clear e hB hf hb hn
  induction l with
  | nil=>simp
  | cons t l ih=>simp only[List.map_cons,List.sum_cons,ih,List.length_cons,Function.comp]; rw[Nat.add_mul]; omega
 have:=as7 hS hC NM n (l.map fun t=>(m,t)) (fun p hp=>by
  obtain⟨t,ht,rfl⟩:=List.mem_map.1 hp
  exact⟨hf t ht,hn t ht,hb t ht⟩) (by omega)
 rw[e] at this
 rwa [arB l hf] at this
end Go.Proofs.YtngjnfbngheccaaGreatDoor.Pv
namespace Go.Proofs.YtngjnfbngheccaaGreatDoor.Pv
open Go Go.Tidy
theorem alV:akc prog M.kU :=
 ⟨by kernel_rfl,fun blk off cap ss w hH hblk hsz=>AnyM.slices_Sort_string Tryz.aDb blk off cap ss w hH hblk hsz,fun p cap w=>AnyM.slices_Sort_string_none Tryz.aDb p cap w⟩
theorem aei:aaQ prog M.jF :=
 ⟨by kernel_rfl,fun blk off cap zs w hH hsz hcap=>AnyG.slices_Compact_string Tryz.aFZ blk off cap zs w hH hsz hcap,fun a cap w=>AnyG.slices_Compact_string_empty Tryz.aFZ a cap w⟩
end Go.Proofs.YtngjnfbngheccaaGreatDoor.Pv
set_option maxRecDepth 100000
namespace Go.Proofs.YtngjnfbngheccaaGreatDoor.Pv
open Go Go.Tidy
set_option maxHeartbeats 4000000 in
theorem apN (o:Ob) (ho:bg o=true) (hn:o.names.length≤34359738368):Ret prog M.Wz [.agg (cO o)] (.agg (cO (jr o))):=by
 refine Ret.go ah aDF (by simp) fun hb w0 F0 hG=>?_
 obtain⟨o1,o2,o3,o4,o5,o6⟩:=dH ho
 have hR:jr o=zF ((jD o).filter fun p=>p.2.2||!jV p.2.1 o.rest) o.rest:=rfl
 generalize jr o=R at *
 have hT:=amB o1 o2
 simp
 intro v1 v2 v3
 obtain⟨J,hJ⟩ : ∃ J:Nat→List (S × Ty × Bool)→Prop,J=fun k l=>l=((jD o).take k).filter fun p=>p.2.2||!jV p.2.1 o.rest:=⟨_,rfl⟩
 refine aU.KG ah [(1000003,1,1000),(2000003,9,1001),(3000003,1,1002)] rfl o.names.length (fun v k l=>⟨[(12,.int .i64 k),(11,.int .i64 o.names.length),(10,.vec 1 false (o.names.map encStr)),(3,.ptr (3,v3) 12 0 0),(2,.ptr (2,v2) 12 0 0),(1,.ptr (1,v1) 12 0 0)],
  [((3,v3),some ⟨12,[atz (.own (1000,v) 1 0 l.length false) (.own (1001,v) 9 0 l.length false) (.own (1002,v) 1 0 l.length false) o.rest],false,true⟩),((1000,v),some ⟨1,tN l,false,false⟩),((1001,v),some ⟨9,tF l,false,false⟩),((1002,v),some ⟨1,tM l,false,false⟩),((2,v2),some ⟨12,[M.z4],false,true⟩),((1,v1),some ⟨12,[cO o],false,true⟩)]⟩) J [] (by rw[hJ]; rfl) (by simp) fun v k l _ hk hj=>?_
 have hw:=wrap64 (n:=(k:Int)+1) (by omega) (by omega)
 have hj' : l=((jD o).take k).filter fun p=>p.2.2||!jV p.2.1 o.rest:=by rw[hJ] at hj; exact hj
 have hll:l.length≤k:=by
  rw[hj']; refine Nat.le_trans (List.length_filter_le _ _) ?_
  simp; omega
 by_cases g:k<o.names.length
 ·have g1:k<o.fields.length:=by omega
  have g2:k<o.must.length:=by omega
  have hs:=atp g g1 g2 (by omega)
  have hst:=ajx (fun p:S × Ty × Bool=>p.2.2||!jV p.2.1 o.rest) (l:=jD o) (k:=k) (by omega)
  rw[hs,← hj'] at hst
  simp[g]
  refine bF.go ah ?_
  cases e1:o.must[k]
  ·simp[g,g1,g2,e1]
   intros
   refine aH.ret (ah6 _ _ (o5 _ (List.getElem_mem g1)) o4) ?_
   cases e2:jV o.fields[k] o.rest
   ·rw[if_pos (by simp[e2])] at hst
    simp[g,g1,g2,e1,e2,hw]
    exact fun _=>⟨by omega,fun _=>⟨by omega,fun _=>⟨by omega,l++[(o.names[k],o.fields[k],o.must[k])],by rw[hJ]; exact hst.symm,fun _=>by simp[e1]⟩⟩⟩
   ·rw[if_neg (by simp[e1,e2])] at hst
    simp[g,g1,g2,e1,e2,hw]
    exact⟨l,by rw[hJ]; exact hst.symm,fun _=>by simp⟩
  ·rw[if_pos (by simp[e1])] at hst
   simp[g,g1,g2,e1,hw]
   exact fun _=>⟨by omega,fun _=>⟨by omega,fun _=>⟨by omega,l++[(o.names[k],o.fields[k],o.must[k])],by rw[hJ]; exact hst.symm,fun _=>by simp[e1]⟩⟩⟩
 ·have e1:l=(jD o).filter fun p=>p.2.2||!jV p.2.1 o.rest:=by rw[hj',List.take_of_length_le (by omega)]
  rw[hR,← e1]
  simp[g,zF]
set_option maxHeartbeats 4000000 in
theorem aEP (h:Int) (N:Ty→Ty) (NM:List S) (B:Nat) (hN:ae6 M.ji h N NM B) (hNf:∀ t,aj t=true→aj (N t)=true) (h3:NM.length≤268435456) (hM:4*(NM.length+1)≤B) (o:Ob) (ho:bg o=true) (hbo:bdO NM 4 o) :
 Ret prog M.Zf [.agg (cO o),.int .i64 h] (.agg (cO (FQ N o))):=by
 refine Ret.go ah azf (by simp) fun hb w0 F0 hG=>?_
 have hnl:o.names.length≤NM.length:=NI (oq ho) hbo.1
 have c0:=apN o ho (by omega)
 have hs:=aal ho
 have hsb:=ajd hbo
 have hT:FQ N o=if (jr o).names.length≤12 then jr o else jr (.mk ((jr o).names.take 12) ((jr o).fields.take 12) ((jr o).must.take 12) (N (qb ((jr o).rest::(jr o).fields.drop 12)))):=rfl
 generalize FQ N o=R at *
 generalize jr o=p at *
 obtain⟨p1,p2,p3,p4,p5,p6⟩:=dH hs
 have hpl:p.names.length≤NM.length:=NI (oq hs) hsb.1
 simp
 intro v1 v2
 refine ak.ret c0 ?_
 by_cases h12:p.names.length≤12
 ·have h12' : (p.names.length:Int)≤12:=by omega
  rw[if_pos h12] at hT
  simp[h12',hT]
 ·have h12' : ¬ (p.names.length:Int)≤12:=by omega
  rw[if_neg h12] at hT
  have hfl:∀ t∈p.rest::p.fields.drop 12,aj t=true:=fun t ht=>by
   rcases List.mem_cons.1 ht with rfl|ht
   ·exact p4
   ·exact p5 t (List.mem_of_mem_drop ht)
  have hbl:∀ t∈p.rest::p.fields.drop 12,bdT NM 4 t:=fun t ht=>by
   rcases List.mem_cons.1 ht with rfl|ht
   ·exact hsb.2.2
   ·exact hsb.2.1 t (List.mem_of_mem_drop ht)
  have hll:(p.rest::p.fields.drop 12).length≤NM.length+1:=by simp; omega
  have cTg:=U7 alV aei NM 4 _ hfl hbl (by omega)
  have hfr:=Uo hfl
  have hbr:bdT NM (4*(NM.length+1)) (qb (p.rest::p.fields.drop 12)):=IY (by omega) _ (ag1 hbl)
  generalize qb (p.rest::p.fields.drop 12)=r at *
  have c2:=hN r _ hfr hbr hM
  have hmk:Ob.mk (p.names.take 12) (p.fields.take 12) (p.must.take 12) (N r)=zF ((jD p).take 12) (N r):=by
   obtain⟨t1,t2,t3⟩:=agC p1 p2
   unfold zF
   rw[List.map_take,List.map_take,List.map_take,t1,t2,t3]
  have hfo:bg (zF ((jD p).take 12) (N r))=true:=aeh hs (List.take_sublist _ _) (hNf r hfr)
  rw[← hmk] at hfo
  have c3:=apN _ hfo (by simp; omega)
  rw[← hT] at c3
  generalize N r=z at *
  have q1:(12:Int)≤p.fields.length:=by omega
  have q2:(12:Int)≤p.names.length:=by omega
  have q3:(12:Int)≤p.must.length:=by omega
  have q4:12≤p.fields.length:=by omega
  have q5:p.fields.length≤68719476735+12:=by omega
  have q6:1+(p.fields.length-12)≤68719476736:=by omega
  have et:List.take (p.fields.length-12) (List.drop 12 (List.map fq p.fields))=(p.fields.drop 12).map fq:=by
   rw[List.take_of_length_le (by simp),List.map_drop]
  have c4:Ret prog M.Wz [.agg [.vec 1 false ((p.names.map encStr).take 12),.vec 9 false ((p.fields.map fq).take 12),.vec 1 false ((p.must.map lU).take 12),.bool z.all,.bool z.null,.bool z.fls,.bool z.tru,.vec 2 false (z.nums.map dw),.bool z.any,.vec 1 false (z.texts.map encStr),.vec 11 false (z.arrays.map dz),.vec 12 false (z.objects.map au)]] (.agg (cO R)):=by
   rw[← List.map_take,← List.map_take,← List.map_take]
   exact c3
  have c5:Ret prog M.jc [.vec 9 false (fq p.rest::(p.fields.drop 12).map fq)] (.agg (cT r)):=cTg
  have q7:p.fields.length-12+1=1+(p.fields.length-12):=by omega
  have et2:List.take (1+(p.fields.length-12)) (fq p.rest::(p.fields.drop 12).map fq)=fq p.rest::(p.fields.drop 12).map fq:=List.take_of_length_le (by simp; omega)
  simp[h12',q1,q2,q3,q4,q6,et]
  intro v15
  refine aH.ret (r:=.agg (cT r)) (by rw[← et2] at c5; simpa[q6,et] using c5) ?_
  simp
  refine⟨by omega,q2,q1,q3,?_⟩
  refine ak.ret (r:=.agg (cT z)) (by simp; exact c2) ?_
  simp
  refine ak.ret (r:=.agg (cO R)) (by simp; exact c4) ?_
  simp
set_option maxHeartbeats 4000000 in
theorem arp (h:Int) (N:Ty→Ty) (NM:List S) (B m:Nat) (hN:ae6 M.ji h N NM B) (hNf:∀ t,aj t=true→aj (N t)=true) (hNn:∀ t,aj t=true→never (N t)=never t) (hNb:∀ t m,bdT NM m t→bdT NM 4 (N t)) (h3:NM.length≤268435456) (hM:4*(NM.length+1)≤B) (o:Ob) (ho:bg o=true) (hbo:bdO NM m o) (hm:m≤B) :
 Ret prog M.uO [.agg (cO o),.int .i64 h] (.agg (cO (gq N o))):=by
 refine Ret.go ah aBM (by simp) fun hb w0 F0 hG=>?_
 obtain⟨o1,o2,o3,o4,o5,o6⟩:=dH ho
 have hT:gq N o=FQ N (.mk o.names (o.fields.map N) o.must (N o.rest)):=rfl
 have hfo:bg (.mk o.names (o.fields.map N) o.must (N o.rest))=true:=by
  refine Rz (by simp[o1]) o2 o3 (hNf _ o4) (fun f hf=>?_) (fun p hp hm=>?_)
  ·obtain⟨t,ht,rfl⟩:=List.mem_map.1 hf
   exact hNf t (o5 t ht)
  ·simp only[Ob.uy,Ob.aaR] at hp
   have:(o.fields.map N).zip o.must=(o.fields.zip o.must).map fun p=>(N p.1,p.2):=by
    rw[← List.map_id o.must,List.zip_map]; simp
   rw[this] at hp
   obtain⟨x,hx,rfl⟩:=List.mem_map.1 hp
   rw[hNn _ (o5 _ (List.of_mem_zip hx).1)]
   exact o6 x hx hm
 have hbo' : bdO NM 4 (.mk o.names (o.fields.map N) o.must (N o.rest)):=⟨hbo.1,fun f hf=>by
  obtain⟨t,ht,rfl⟩:=List.mem_map.1 hf
  exact hNb t m (hbo.2.1 t ht),hNb _ m hbo.2.2⟩
 have c1:=aEP h N NM B hN hNf h3 hM _ hfo hbo'
 rw[← hT] at c1
 generalize gq N o=R at *
 have hnl:o.names.length≤NM.length:=NI (oq ho) hbo.1
 have c2:=hN o.rest m o4 hbo.2.2 hm
 simp
 intro v1 v2 v5
 obtain⟨J,hJ⟩ : ∃ J:Nat→List Ty→Prop,J=fun k fs=>fs=(o.fields.take k).map N:=⟨_,rfl⟩
 refine aU.KG ah [(5,9,1001)] rfl o.fields.length (fun v k (fs:List Ty)=>⟨[(12,.int .i64 k),(11,.int .i64 o.fields.length),(10,.vec 9 false (o.fields.map fq)),(5,.own (1001,v) 9 0 fs.length false),(4,.ptr (4,v2) 12 0 0),(2,.ptr (2,v1) 12 0 0),(1,.int .i64 h)],
  [((1001,v),some ⟨9,fs.map fq,false,false⟩),((4,v2),some ⟨12,[M.z4],false,true⟩),((2,v1),some ⟨12,[cO o],false,true⟩)]⟩) J [] (by rw[hJ]; rfl) (by simp) fun v k fs _ hk hj=>?_
 have hw:=wrap64 (n:=(k:Int)+1) (by omega) (by omega)
 have hj' : fs=(o.fields.take k).map N:=by rw[hJ] at hj; exact hj
 have hll:fs.length=k:=by rw[hj']; simp; omega
 by_cases g:k<o.fields.length
 ·have hst:=xQ N g
  rw[← hj'] at hst
  have c3:=hN o.fields[k] m (o5 _ (List.getElem_mem g)) (hbo.2.1 _ (List.getElem_mem g)) hm
  simp[g]
  intros
  refine ak.ret (r:=.agg (cT (N o.fields[k]))) (by simp; exact c3) ?_
  simp[hw,g]
  exact fun _=>⟨by omega,fs++[N o.fields[k]],by rw[hJ]; exact hst.symm,fun _=>by simp⟩
 ·have e1:fs=o.fields.map N:=by rw[hj',List.take_of_length_le (by omega)]
  rw[← e1] at c1
  generalize N o.rest=r at *
  have c4:Ret prog M.Zf [.agg [.vec 1 false (o.names.map encStr),.vec 9 false (fs.map fq),.vec 1 false (o.must.map lU),.bool r.all,.bool r.null,.bool r.fls,.bool r.tru,.vec 2 false (r.nums.map dw),.bool r.any,.vec 1 false (r.texts.map encStr),.vec 11 false (r.arrays.map dz),.vec 12 false (r.objects.map au)],.int .i64 h] (.agg (cO R)):=c1
  simp[g]
  intros
  refine aH.ret c2 ?_
  simp
  refine aH.ret (r:=.agg (cO R)) (by simpa using c4) ?_
  simp
end Go.Proofs.YtngjnfbngheccaaGreatDoor.Pv
set_option maxRecDepth 100000
namespace Go.Proofs.YtngjnfbngheccaaGreatDoor.Pv
open Go Go.Tidy
set_option maxHeartbeats 4000000 in
theorem ayo (t:Ty) (ht:aj t=true):Ret prog M.Ou [.agg (cT t)] (.bool (jV t laidAll)):=by
 have cs:=ah6 t laidAll ht ajv.1
 refine Ret.go ah alo (by simp) fun hb w0 F0 hG=>?_
 simp
 intros
 refine aH.ret xU ?_
 simp
 refine aH.ret xU ?_
 simp
 refine aH.ret (r:=.bool (jV t laidAll)) (by simp; exact cs) ?_
 simp
section
variable {w0:World} {F0:Nat→Prop} {hG:GOk prog w0 F0}
set_option maxHeartbeats 4000000 in
theorem aJ7 (h:Int) (t:Ty) (v2 v4 v5:Nat) (any:Bool) (texts:List S) (az:List Arr) (os:List Ob) (wf:Ob→Ob) (hh:IntKind.i64.wrap (h-1)=h-1) (hf:aj (.mk false t.null t.fls t.tru t.nums any texts az os)=true) (hl:t.objects.length≤34359738368)
 (hW:∀ o∈t.objects,Ret prog M.uO [.agg (cO o),.int .i64 (h-1)] (.agg (cO (wf o))))
 (hO:Ret prog M.ug [.vec 12 false ((t.objects.map wf).map au),.int .i64 (h-1)] (.vec 12 false (os.map au))) :
 ∀ st:St,(∀ v,LS (nk [(9000005,12,1008)] v st) ⟨[(59,.int .i64 0),(58,.int .i64 t.objects.length),(57,.vec 12 false (t.objects.map au)),(5,.ptr (5,v5) 9 0 0),(4,.ptr (4,v4) 9 0 0),(2,.ptr (2,v2) 9 0 0),(1,.int .i64 h)],[((5,v5),some ⟨9,[afk t any (.vec 1 false (texts.map encStr)) (.vec 11 false (az.map dz)) (.own (1008,v) 12 0 0 false)],false,true⟩),((1008,v),some ⟨12,[],false,false⟩),((4,v4),some ⟨9,[M.z1],false,true⟩),((2,v2),some ⟨9,[cT t],false,true⟩)]⟩) →
 aU ⟨prog,w0,F0,83,[],0,hG⟩ (.loop M.ajg) st [.bk 2,.sq M.ai4]
  (yt M.Oo (.agg (cT (if jV (.mk false t.null t.fls t.tru t.nums any texts az os) laidAll then dx else .mk false t.null t.fls t.tru t.nums any texts az os)))):=by
 have cs:=ayo (.mk false t.null t.fls t.tru t.nums any texts az os) hf
 obtain⟨R,hR⟩ : ∃ R,R=(if jV (.mk false t.null t.fls t.tru t.nums any texts az os) laidAll then dx else Ty.mk false t.null t.fls t.tru t.nums any texts az os):=⟨_,rfl⟩
 rw[← hR]
 intro st hst0
 obtain⟨J,hJ⟩ : ∃ J:Nat→List Ob→Prop,J=fun k acc=>acc=(t.objects.take k).map wf:=⟨_,rfl⟩
 refine aU.KG ah [(9000005,12,1008)] rfl t.objects.length (fun v k (acc:List Ob)=>⟨[(59,.int .i64 k),(58,.int .i64 t.objects.length),(57,.vec 12 false (t.objects.map au)),(5,.ptr (5,v5) 9 0 0),(4,.ptr (4,v4) 9 0 0),(2,.ptr (2,v2) 9 0 0),(1,.int .i64 h)],[((5,v5),some ⟨9,[afk t any (.vec 1 false (texts.map encStr)) (.vec 11 false (az.map dz)) (.own (1008,v) 12 0 acc.length false)],false,true⟩),((1008,v),some ⟨12,acc.map au,false,false⟩),((4,v4),some ⟨9,[M.z1],false,true⟩),((2,v2),some ⟨9,[cT t],false,true⟩)]⟩) J [] (by rw[hJ]; rfl) (by simpa using hst0) fun v k acc _ hk hj=>?_
 have hw:=wrap64 (n:=(k:Int)+1) (by omega) (by omega)
 have hj' : acc=(t.objects.take k).map wf:=by rw[hJ] at hj; exact hj
 have hal:acc.length=k:=by rw[hj']; simp; omega
 by_cases g:k<t.objects.length
 ·have hst:=xQ wf g
  rw[← hj'] at hst
  simp[g,hh]
  intros
  refine aH.ret (hW _ (List.getElem_mem g)) ?_
  simp[g,hw]
  exact⟨by omega,acc++[wf t.objects[k]],by rw[hJ]; exact hst.symm,fun _=>by simp⟩
 ·have e1:acc=t.objects.map wf:=by rw[hj',List.take_of_length_le (by omega)]
  rw[← e1] at hO
  simp[g,hh]
  refine ak.ret (r:=.vec 12 false (os.map au)) (by simpa using hO) ?_
  simp
  refine ak.ret (r:=.bool (jV (.mk false t.null t.fls t.tru t.nums any texts az os) laidAll)) (by simp; exact cs) ?_
  cases hs:jV (.mk false t.null t.fls t.tru t.nums any texts az os) laidAll<;>rw[hs] at hR
  ·simp[hR]
  ·simp
   refine ak.ret xU ?_
   simp[hR,dx]
set_option maxHeartbeats 4000000 in
theorem aI9 (h:Int) (t:Ty) (v2 v4 v5:Nat) (any:Bool) (texts:List S) (os:List Ob) (wf:Ob→Ob) (n:Ty→Ty) (hh:IntKind.i64.wrap (h-1)=h-1) (hf:aj (.mk false t.null t.fls t.tru t.nums any texts (t.arrays.map fun a=>.mk (n a.item) a.min a.max) os)=true) (hl:t.objects.length≤34359738368)
 (ha:t.arrays.length≤1) (hA:∀ a∈t.arrays,Ret prog M.ji [.agg (cT a.item),.int .i64 (h-1)] (.agg (cT (n a.item))))
 (hW:∀ o∈t.objects,Ret prog M.uO [.agg (cO o),.int .i64 (h-1)] (.agg (cO (wf o))))
 (hO:Ret prog M.ug [.vec 12 false ((t.objects.map wf).map au),.int .i64 (h-1)] (.vec 12 false (os.map au))) (arr0 obj0:PV) :
 XC ⟨prog,w0,F0,83,[],0,hG⟩ M.abW ⟨[(5,.ptr (5,v5) 9 0 0),(4,.ptr (4,v4) 9 0 0),(2,.ptr (2,v2) 9 0 0),(1,.int .i64 h)],[((5,v5),some ⟨9,[afk t any (.vec 1 false (texts.map encStr)) arr0 obj0],false,true⟩),((4,v4),some ⟨9,[M.z1],false,true⟩),((2,v2),some ⟨9,[cT t],false,true⟩)]⟩ []
  (yt M.Oo (.agg (cT (if jV (.mk false t.null t.fls t.tru t.nums any texts (t.arrays.map fun a=>.mk (n a.item) a.min a.max) os) laidAll then dx else .mk false t.null t.fls t.tru t.nums any texts (t.arrays.map fun a=>.mk (n a.item) a.min a.max) os)))):=by
 have fin:=aJ7 (w0:=w0) (F0:=F0) (hG:=hG) h t v2 v4 v5 any texts _ os wf hh hf hl hW hO
 generalize hAs:(t.arrays.map fun a=>Arr.mk (n a.item) a.min a.max)=az at *
 generalize (if jV (.mk false t.null t.fls t.tru t.nums any texts az os) laidAll then dx else Ty.mk false t.null t.fls t.tru t.nums any texts az os)=R at *
 simp
 obtain⟨J,hJ⟩ : ∃ J:Nat→List Arr→Prop,J=fun k acc=>acc=(t.arrays.take k).map fun a=>.mk (n a.item) a.min a.max:=⟨_,rfl⟩
 refine aU.KG ah [(8000005,11,1007)] rfl t.arrays.length (fun v k (acc:List Arr)=>⟨[(39,.int .i64 k),(38,.int .i64 t.arrays.length),(37,.vec 11 false (t.arrays.map dz)),(5,.ptr (5,v5) 9 0 0),(4,.ptr (4,v4) 9 0 0),(2,.ptr (2,v2) 9 0 0),(1,.int .i64 h)],[((5,v5),some ⟨9,[afk t any (.vec 1 false (texts.map encStr)) (.own (1007,v) 11 0 acc.length false) (.vec 12 true [])],false,true⟩),((1007,v),some ⟨11,acc.map dz,false,false⟩),((4,v4),some ⟨9,[M.z1],false,true⟩),((2,v2),some ⟨9,[cT t],false,true⟩)]⟩) J [] (by rw[hJ]; rfl) (by simp) fun v k acc _ hk hj=>?_
 have hw:=wrap64 (n:=(k:Int)+1) (by omega) (by omega)
 have hj' : acc=(t.arrays.take k).map fun a=>.mk (n a.item) a.min a.max:=by rw[hJ] at hj; exact hj
 have hal:acc.length=k:=by rw[hj']; simp; omega
 by_cases g:k<t.arrays.length
 ·have hst:=xQ (fun a:Arr=>Arr.mk (n a.item) a.min a.max) g
  rw[← hj'] at hst
  simp[g,hh]
  intros
  refine ak.ret (hA _ (List.getElem_mem g)) ?_
  simp[g,hw]
  exact fun _=>⟨by omega,acc++[.mk (n t.arrays[k].item) t.arrays[k].min t.arrays[k].max],by rw[hJ]; exact hst.symm,fun _=>by simp; exact bf _ _⟩
 ·have e1:acc=az:=by rw[hj',List.take_of_length_le (by omega),hAs]
  simp[g]
  exact fin _ fun v=>by simp[e1]
theorem amF (h:Int) (t:Ty) (hz:t.all=true∨(h=0∧(t.arrays≠[]∨t.objects≠[]))):Ret prog M.ji [.agg (cT t),.int .i64 h] (.agg (cT dx)):=by
 refine Ret.go ah afQ (by simp) fun hb w0 F0 hG=>?_
 simp only[ig,jh,List.length_map,LIM,and_true] at hb
 cases e0:t.all
 ·obtain⟨h1,h2⟩ : h=0∧(t.arrays≠[]∨t.objects≠[]):=by simpa[e0] using hz
  have hl:0<(t.arrays.length:Int)+t.objects.length:=by
   rcases h2 with h2|h2
   ·have:=List.length_pos_iff.2 h2; omega
   ·have:=List.length_pos_iff.2 h2; omega
  have w:=wrap64 (n:=(t.arrays.length:Int)+t.objects.length) (by omega) (by omega)
  simp[e0,h1,hl,w]
  intros
  refine ak.ret xU ?_
  simp[dx]
 ·simp[e0]
  intros
  refine ak.ret xU ?_
  simp[dx]
set_option maxHeartbeats 4000000 in
theorem apm (h:Int) (t:Ty) (os:List Ob) (wf:Ob→Ob) (n:Ty→Ty) (h1 : -9223372036854775807≤h) (h2:h≤9223372036854775807) (e0:t.all=false) (e1:h=0→t.arrays=[]∧t.objects=[])
 (hf:aj (.mk false t.null t.fls t.tru t.nums (t.any||decide (16<t.texts.length)) (if 16<t.texts.length then [] else t.texts) (t.arrays.map fun a=>.mk (n a.item) a.min a.max) os)=true) (hl:t.objects.length≤34359738368) (ha:t.arrays.length≤1)
 (hA:∀ a∈t.arrays,Ret prog M.ji [.agg (cT a.item),.int .i64 (h-1)] (.agg (cT (n a.item))))
 (hW:∀ o∈t.objects,Ret prog M.uO [.agg (cO o),.int .i64 (h-1)] (.agg (cO (wf o))))
 (hO:Ret prog M.ug [.vec 12 false ((t.objects.map wf).map au),.int .i64 (h-1)] (.vec 12 false (os.map au))) :
 Ret prog M.ji [.agg (cT t),.int .i64 h] (.agg (cT (ZH t (t.arrays.map fun a=>.mk (n a.item) a.min a.max) os))):=by
 refine Ret.go ah afQ (by simp) fun hb w0 F0 hG=>?_
 have hh:=wrap64 (n:=h-1) (by omega) (by omega)
 have fin:=fun v2 v4 v5=>aI9 (w0:=w0) (F0:=F0) (hG:=hG) h t v2 v4 v5 _ _ os wf n hh hf hl ha hA hW hO (.vec 11 false (t.arrays.map dz)) (.vec 12 false (t.objects.map au))
 have hR:ZH t (t.arrays.map fun a=>.mk (n a.item) a.min a.max) os=(if jV (.mk false t.null t.fls t.tru t.nums (t.any||decide (16<t.texts.length)) (if 16<t.texts.length then [] else t.texts) (t.arrays.map fun a=>.mk (n a.item) a.min a.max) os) laidAll then dx else Ty.mk false t.null t.fls t.tru t.nums (t.any||decide (16<t.texts.length)) (if 16<t.texts.length then [] else t.texts) (t.arrays.map fun a=>.mk (n a.item) a.min a.max) os):=rfl
 rw[← hR] at fin
 generalize ZH t (t.arrays.map fun a=>Arr.mk (n a.item) a.min a.max) os=R at *
 have key:∀ v2 v4 v5 (st:St),(∀ v,LS (nk [] v st) ⟨[(5,.ptr (5,v5) 9 0 0),(4,.ptr (4,v4) 9 0 0),(2,.ptr (2,v2) 9 0 0),(1,.int .i64 h)],[((5,v5),some ⟨9,[afk t t.any (.vec 1 false (t.texts.map encStr)) (.vec 11 false (t.arrays.map dz)) (.vec 12 false (t.objects.map au))],false,true⟩),((4,v4),some ⟨9,[M.z1],false,true⟩),((2,v2),some ⟨9,[cT t],false,true⟩)]⟩) →
  bF ⟨prog,w0,F0,83,[],0,hG⟩ M.aiq st [.sq M.abW] (yt M.Oo (.agg (cT R))):=fun v2 v4 v5 st hst=>by
  refine bF.anew [] rfl _ hst fun _ _=>?_
  refine bF.alD ah [] rfl (fun _=>⟨[(5,.ptr (5,v5) 9 0 0),(4,.ptr (4,v4) 9 0 0),(2,.ptr (2,v2) 9 0 0),(1,.int .i64 h)],[((5,v5),some ⟨9,[afk t (t.any||decide (16<t.texts.length)) (.vec 1 false ((if 16<t.texts.length then [] else t.texts).map encStr)) (.vec 11 false (t.arrays.map dz)) (.vec 12 false (t.objects.map au))],false,true⟩),((4,v4),some ⟨9,[M.z1],false,true⟩),((2,v2),some ⟨9,[cT t],false,true⟩)]⟩) ?_ fun _ _=>by rw[amu]; exact fin v2 v4 v5
  by_cases h16:16<t.texts.length
  ·have h16' : (16:Int)<t.texts.length:=by omega
   simp[h16,h16']
  ·have h16' : ¬ (16:Int)<t.texts.length:=by omega
   simp[h16,h16']
 by_cases hz:h=0
 ·obtain⟨z1,z2⟩:=e1 hz
  have w0':=wrap64 (n:=0) (by omega) (by omega)
  simp[e0,hz,z1,z2,w0']
  rw[hz] at key
  exact fun v2 v4 v5=>key v2 v4 v5 _ fun v=>by simp[z1,z2,e0]
 ·simp[e0,hz]
  exact fun v2 v4 v5=>key v2 v4 v5 _ fun v=>by simp[e0]
end
end Go.Proofs.YtngjnfbngheccaaGreatDoor.Pv
set_option maxRecDepth 100000
namespace Go.Proofs.YtngjnfbngheccaaGreatDoor.Pv
open Go Go.Tidy
def Wh (P:Ty→Nat) (n:Nat) (f:Ty):Nat:=if n≤200 then n+P f else n
def ahe (P:Ty→Nat) (n:Nat) (o:Ob):Nat:=(o.fields++[o.rest]).foldl (Wh P) n
theorem alI (P:Ty→Nat) (B:Nat):∀ (l:List Ty) (n:Nat),(∀ f∈l,P f≤B)→n≤200+B→l.foldl (Wh P) n≤200+B
 | [],n,_,h=>h
 | f::l,n,hl,h=>alI P B l _ (fun x hx=>hl x (by simp[hx])) (by
     have:=hl f (by simp)
     unfold Wh; split<;>omega)
theorem aIw (P:Ty→Nat) (B:Nat) (l:List Ob) (n:Nat) (hl:∀ o∈l,(∀ f∈o.fields,P f≤B)∧P o.rest≤B) (h:n≤200+B):l.foldl (ahe P) n≤200+B:=by
 induction l generalizing n with
 | nil=>exact h
 | cons o l ih =>
   refine ih _ (fun x hx=>hl x (by simp[hx])) (alI P B _ n (fun f hf=>?_) h)
   have:=hl o (by simp)
   rcases List.mem_append.1 hf with hf|hf
   ·exact this.1 f hf
   ·rw[List.mem_singleton.1 hf]; exact this.2
theorem aoQ {l:List Ty} {P:Ty→Nat} {n k:Nat} (hk:k<l.length):(l.take (k+1)).foldl (Wh P) n=Wh P ((l.take k).foldl (Wh P) n) l[k]:=by
 rw[List.take_add_one,List.getElem?_eq_getElem hk]
 simp only[Option.toList_some,List.foldl_append,List.foldl_cons,List.foldl_nil]
set_option maxHeartbeats 4000000 in
theorem arW (t:Ty) (P:Ty→Nat) (B:Nat) (hB:B≤1099511627776) (ha1:t.arrays.length≤1)
 (ha:∀ a∈t.arrays,Ret prog M.ql [.agg (cT a.item)] (.int .i64 (P a.item:Nat))∧P a.item≤B)
 (hr:∀ o∈t.objects,Ret prog M.ql [.agg (cT o.rest)] (.int .i64 (P o.rest:Nat))∧P o.rest≤B)
 (hf:∀ o∈t.objects,∀ x∈o.fields,Ret prog M.ql [.agg (cT x)] (.int .i64 (P x:Nat))∧P x≤B)
 (hlo:∀ o∈t.objects,o.fields.length≤34359738368) :
 Ret prog M.ql [.agg (cT t)] (.int .i64 (t.objects.foldl (ahe P) (t.arrays.foldl (fun n a=>n+P a.item) 1):Nat)):=by
 refine Ret.go ah aD5 (by simp) fun hb w0 F0 hG=>?_
 simp only[ig,jh,List.length_map,LIM,and_true] at hb
 generalize hR:t.objects.foldl (ahe P) (t.arrays.foldl (fun n a=>n+P a.item) 1)=R
 simp
 intro v
 obtain⟨J,hJ⟩ : ∃ J:Nat→Nat→Prop,J=fun k m=>m=(t.arrays.take k).foldl (fun n a=>n+P a.item) 1:=⟨_,rfl⟩
 refine aU.cnt ah t.arrays.length (fun (k m:Nat)=>⟨[(13,.int .i64 k),(12,.int .i64 t.arrays.length),(11,.vec 11 false (t.arrays.map dz)),(3,.int .i64 (m:Nat)),(1,.ptr (1,v) 9 0 0)],[((1,v),some ⟨9,[cT t],false,true⟩)]⟩) J 1 (by simp[hJ]) (by simp) fun k m hk hj=>?_
 have hw:=wrap64 (n:=(k:Int)+1) (by omega) (by omega)
 have hj' : m=(t.arrays.take k).foldl (fun n a=>n+P a.item) 1:=by rw[hJ] at hj; exact hj
 by_cases h1:k<t.arrays.length
 ·obtain rfl:k=0:=by omega
  have hm:m=1:=by simpa using hj'
  have h0:=ha t.arrays[0] (List.getElem_mem h1)
  have w2:=wrap64 (n:=(m:Int)+P t.arrays[0].item) (by omega) (by omega)
  simp[h1]
  intro v5
  refine ak.ret h0.1 ?_
  have k1:=wrap64 (n:=1) (by omega) (by omega)
  simp[hw,w2,h1,k1]
  exact⟨m+P t.arrays[0].item,by
   rw[hJ]
   show _=(t.arrays.take 1).foldl _ 1
   rw[List.take_add_one,List.getElem?_eq_getElem h1]
   simp[hm],by simp⟩
 ·have hm:m=t.arrays.foldl (fun n a=>n+P a.item) 1:=by rw[hj',List.take_of_length_le (by omega)]
  have hmB:m≤200+B:=by
   rw[hm]
   match hA:t.arrays with
   | []=>simp; omega
   | [a]=>have:=(ha a (by simp[hA])).2; simp; omega
   | a::b::r=>rw[hA] at ha1; simp at ha1
  rw[← hm] at hR
  simp[h1]
  clear hj hj' hJ J
  obtain⟨J,hJ⟩ : ∃ J:Nat→Nat→Prop,J=fun k n=>n=(t.objects.take k).foldl (ahe P) m:=⟨_,rfl⟩
  refine aU.cnt ah t.objects.length (fun (k n:Nat)=>⟨[(26,.int .i64 k),(25,.int .i64 t.objects.length),(24,.vec 12 false (t.objects.map au)),(3,.int .i64 (n:Nat)),(1,.ptr (1,v) 9 0 0)],[((1,v),some ⟨9,[cT t],false,true⟩)]⟩) J m (by simp[hJ]) (by simp) fun i n hi hj=>?_
  have hw:=wrap64 (n:=(i:Int)+1) (by omega) (by omega)
  have hj' : n=(t.objects.take i).foldl (ahe P) m:=by rw[hJ] at hj; exact hj
  by_cases h2:i<t.objects.length
  ·have hnB:n≤200+B:=by
      rw[hj']
      exact aIw P B _ m (fun o ho=>⟨fun f hf'=>(hf o (List.mem_of_mem_take ho) f hf').2,(hr o (List.mem_of_mem_take ho)).2⟩) hmB
   have hst:(t.objects.take (i+1)).foldl (ahe P) m=ahe P n t.objects[i]:=by
    rw[List.take_add_one,List.getElem?_eq_getElem h2]
    simp only[Option.toList_some,List.foldl_append,List.foldl_cons,List.foldl_nil,hj']
   have hro:=hr _ (List.getElem_mem h2)
   have hfo:=hf _ (List.getElem_mem h2)
   have hlo':=hlo _ (List.getElem_mem h2)
   generalize ho:t.objects[i]=o at *
   have q0:o.fields.length≤68719476735:=by omega
   have hl2:(o.fields++[o.rest]).length=o.fields.length+1:=by simp
   have hall:∀ f∈o.fields++[o.rest],Ret prog M.ql [.agg (cT f)] (.int .i64 (P f:Nat))∧P f≤B:=fun f hf=>by
    rcases List.mem_append.1 hf with hf|hf
    ·exact hfo f hf
    ·rw[List.mem_singleton.1 hf]; exact hro
   have hoP:ahe P n o=(o.fields++[o.rest]).foldl (Wh P) n:=rfl
   obtain⟨L,hL⟩ : ∃ L,L=o.fields++[o.rest]:=⟨_,rfl⟩
   have hLl:L.length=o.fields.length+1:=by rw[hL,hl2]
   obtain⟨J',hJ'⟩ : ∃ J:Nat→Nat→Prop,J=fun j p=>p=(L.take j).foldl (Wh P) n:=⟨_,rfl⟩
   have ne:o.fields≠[]→ajK true (o.fields.map fq)=false:=fun h=>by cases hf:o.fields<;>simp[ajK] ; exact absurd hf h
   rcases Classical.em (o.fields=[]) with e|e
   ·simp[h2,q0,ho,e,ajK]
    intro v7 v42
    refine aU.KG ah [(42,9,1042)] rfl L.length (fun v' j (p:Nat)=>⟨[(44,.int .i64 j),(43,.int .i64 L.length),(42,.own (1042,v') 9 0 L.length false),(3,.int .i64 (p:Nat)),(26,.int .i64 i),(25,.int .i64 t.objects.length),(24,.vec 12 false (t.objects.map au)),(1,.ptr (1,v) 9 0 0)],[((1042,v'),some ⟨9,L.map fq,false,false⟩),((1,v),some ⟨9,[cT t],false,true⟩)]⟩) J' n (by rw[hJ']; rfl) (fun v'=>by simp[hL,e,bf]) fun v' j p _ hj2 hjj=>?_
    have hw':=wrap64 (n:=(j:Int)+1) (by omega) (by omega)
    have hjj' : p=(L.take j).foldl (Wh P) n:=by rw[hJ'] at hjj; exact hjj
    have hpB:p≤200+B:=by
     rw[hjj']
     exact alI P B _ n (fun f hf=>(hall f (by rw[← hL]; exact List.mem_of_mem_take hf)).2) hnB
    by_cases h3:j<L.length
    ·have hc:=hall L[j] (by rw[← hL]; exact List.getElem_mem h3)
     have w2:=wrap64 (n:=(p:Int)+P L[j]) (by omega) (by omega)
     have hst2:=aoQ (P:=P) (n:=n) h3
     rw[← hjj'] at hst2
     simp[h3]
     intro v9
     refine bF.go ah ?_
     by_cases h200:p≤200
     ·have h200' : (p:Int)≤200:=by omega
      simp[h200,h200']
      refine ak.ret hc.1 ?_
      simp[w2,hw',h3]
      exact⟨p+P L[j],by rw[hJ']; show _=_; rw[hst2]; simp[Wh,h200],by omega⟩
     ·have h200' : ¬ (p:Int)≤200:=by omega
      simp[h200,h200',hw',h3]
      exact⟨p,by rw[hJ']; show _=_; rw[hst2]; simp[Wh,h200],rfl⟩
    ·have hp:p=ahe P n o:=by rw[hjj',List.take_of_length_le (by omega),hL,hoP]
     simp[h3,hw,h2]
     exact⟨p,by rw[hJ]; show _=_; rw[hst]; exact hp,rfl⟩
   ·simp[h2,q0,ho,ne e]
    intro v7 v42
    refine aU.KG ah [(42,9,1042)] rfl L.length (fun v' j (p:Nat)=>⟨[(44,.int .i64 j),(43,.int .i64 L.length),(42,.own (1042,v') 9 0 L.length false),(3,.int .i64 (p:Nat)),(26,.int .i64 i),(25,.int .i64 t.objects.length),(24,.vec 12 false (t.objects.map au)),(1,.ptr (1,v) 9 0 0)],[((1042,v'),some ⟨9,L.map fq,false,false⟩),((1,v),some ⟨9,[cT t],false,true⟩)]⟩) J' n (by rw[hJ']; rfl) (fun v'=>by simp[hL,e,bf]) fun v' j p _ hj2 hjj=>?_
    have hw':=wrap64 (n:=(j:Int)+1) (by omega) (by omega)
    have hjj' : p=(L.take j).foldl (Wh P) n:=by rw[hJ'] at hjj; exact hjj
    have hpB:p≤200+B:=by
     rw[hjj']
     exact alI P B _ n (fun f hf=>(hall f (by rw[← hL]; exact List.mem_of_mem_take hf)).2) hnB
    by_cases h3:j<L.length
    ·have hc:=hall L[j] (by rw[← hL]; exact List.getElem_mem h3)
     have w2:=wrap64 (n:=(p:Int)+P L[j]) (by omega) (by omega)
     have hst2:=aoQ (P:=P) (n:=n) h3
     rw[← hjj'] at hst2
     simp[h3]
     intro v9
     refine bF.go ah ?_
     by_cases h200:p≤200
     ·have h200' : (p:Int)≤200:=by omega
      simp[h200,h200']
      refine ak.ret hc.1 ?_
      simp[w2,hw',h3]
      exact⟨p+P L[j],by rw[hJ']; show _=_; rw[hst2]; simp[Wh,h200],by omega⟩
     ·have h200' : ¬ (p:Int)≤200:=by omega
      simp[h200,h200',hw',h3]
      exact⟨p,by rw[hJ']; show _=_; rw[hst2]; simp[Wh,h200],rfl⟩
    ·have hp:p=ahe P n o:=by rw[hjj',List.take_of_length_le (by omega),hL,hoP]
     simp[h3,hw,h2]
     exact⟨p,by rw[hJ]; show _=_; rw[hst]; exact hp,rfl⟩
  ·have:n=R:=by rw[hj',List.take_of_length_le (by omega),hR]
   simp[h2,this]
end Go.Proofs.YtngjnfbngheccaaGreatDoor.Pv
set_option maxRecDepth 100000
namespace Go.Proofs.YtngjnfbngheccaaGreatDoor.Pv
open Go Go.Tidy
def Qw (n e:Nat):Prop:=(n≤200→n=e)∧(200<n→200<e)
theorem aK8 {P:Ty→Nat} {n e:Nat} {f:Ty} (h:Qw n e) (hf:Qw (P f) (iw f)):Qw (Wh P n f) (e+iw f):=by
 obtain⟨h1,h2⟩:=h
 obtain⟨f1,f2⟩:=hf
 unfold Wh Qw
 by_cases g:n≤200
 ·have:=h1 g
  simp only[g,if_true]
  by_cases g2:P f≤200
  ·have:=f1 g2; omega
  ·have:=f2 (by omega); omega
 ·have:=h2 (by omega)
  rw[if_neg g]
  exact⟨fun h=>absurd h g,fun _=>by omega⟩
theorem auB {P:Ty→Nat}:∀ (l:List Ty) {n e:Nat},Qw n e→(∀ f∈l,Qw (P f) (iw f))→Qw (l.foldl (Wh P) n) (e+mq l)
 | [],n,e,h,_=>by simpa[mq] using h
 | f::l,n,e,h,hl=>by
   have:=auB l (aK8 h (hl f (by simp))) fun x hx=>hl x (by simp[hx])
   have e2:e+iw f+mq l=e+mq (f::l):=by simp[mq]; omega
   rwa [e2] at this
theorem aHc (l:List Ty) (t:Ty):mq (l++[t])=mq l+iw t:=by
 induction l with
 | nil=>simp[mq]
 | cons a l ih=>simp only[List.cons_append,mq,ih]; omega
theorem au0 {P:Ty→Nat}:∀ (l:List Ob) {n e:Nat},Qw n e→(∀ o∈l,(∀ f∈o.fields,Qw (P f) (iw f))∧Qw (P o.rest) (iw o.rest))→Qw (l.foldl (ahe P) n) (e+oQ l)
 | [],n,e,h,_=>by simpa[oQ] using h
 | o::l,n,e,h,hl=>by
   have h0:=hl o (by simp)
   have h1:=auB (P:=P) (o.fields++[o.rest]) h fun f hf=>by
    rcases List.mem_append.1 hf with hf|hf
    ·exact h0.1 f hf
    ·rw[List.mem_singleton.1 hf]; exact h0.2
   have:=au0 l h1 fun x hx=>hl x (by simp[hx])
   obtain⟨ns,fs,ms,r⟩:=o
   simp only[Ob.uy,Ob.agX,aHc] at this
   have e2:e+(mq fs+iw r)+oQ l=e+oQ (.mk ns fs ms r::l):=by simp[oQ]; omega
   rwa [e2] at this
theorem aMa:∀ (n:Nat),n≤1073741824→∀ t:Ty,nK t→aK t≤n→∃ p:Nat,Ret prog M.ql [.agg (cT t)] (.int .i64 (p:Nat))∧Qw p (iw t)∧p≤201+200*n:=by
 intro n
 induction n with
 | zero =>
   intro _ t ht hh
   have h0:=sW.1 hh
   have:=arW t (fun _=>0) 0 (by omega) (by simp[h0.1]) (by simp[h0.1]) (by simp[h0.2]) (by simp[h0.2]) (by simp[h0.2])
   rw[h0.1,h0.2] at this
   exact⟨1,this,by rw[atL hh]; exact⟨fun _=>rfl,fun h=>by omega⟩,by omega⟩
 | succ n ih =>
   intro hn t ht hh
   have hs:=uh.1 hh
   have hch:∀ x:Ty,∃ p:Nat,nK x→aK x≤n→Ret prog M.ql [.agg (cT x)] (.int .i64 (p:Nat))∧Qw p (iw x)∧p≤201+200*n:=fun x=>by
    by_cases hx:nK x∧aK x≤n
    ·obtain⟨p,hp⟩:=ih (by omega) x hx.1 hx.2
     exact⟨p,fun _ _=>hp⟩
    ·exact⟨0,fun a b=>absurd ⟨a,b⟩ hx⟩
   obtain⟨P,hP⟩:=Classical.axiomOfChoice hch
   have fA:∀ a∈t.arrays,_:=fun a ha=>hP a.item (ht.item ha) (hs.1 a ha)
   have fR:∀ o∈t.objects,_:=fun o ho=>hP o.rest (ht.rest ho) (hs.2 o ho).1
   have fF:∀ o∈t.objects,∀ x∈o.fields,_:=fun o ho x hx=>hP x (ht.field ho hx) ((hs.2 o ho).2 x hx)
   have ha1:=(bN ht.1).2.2.2.2.2.1
   refine⟨_,arW t P (201+200*n) (by omega) ha1 (fun a ha=>⟨(fA a ha).1,(fA a ha).2.2⟩) (fun o ho=>⟨(fR o ho).1,(fR o ho).2.2⟩) (fun o ho x hx=>⟨(fF o ho x hx).1,(fF o ho x hx).2.2⟩) (fun o ho=>by have:=ht.names ho; omega),?_,?_⟩
   ·rw[aly]
    have e:1+(lQ t.arrays+oQ t.objects)=(1+lQ t.arrays)+oQ t.objects:=by omega
    rw[e]
    refine au0 _ ?_ fun o ho=>⟨fun f hf=>(fF o ho f hf).2.1,(fR o ho).2.1⟩
    match hA:t.arrays with
    | []=>simp[lQ,Qw]
    | [.mk x lo hi] =>
      have h1:=(fA (.mk x lo hi) (by simp[hA])).2.1
      simp only[Arr.item] at h1
      simp only[List.foldl_cons,List.foldl_nil,lQ,Arr.item,Qw] at h1 ⊢
      obtain⟨f1,f2⟩:=h1
      by_cases g2:P x≤200
      ·have:=f1 g2; omega
      ·have:=f2 (by omega); omega
    | a::b::r=>rw[hA] at ha1; simp at ha1
   ·have:=aIw P (201+200*n) t.objects (t.arrays.foldl (fun n a=>n+P a.item) 1) (fun o ho=>⟨fun f hf=>(fF o ho f hf).2.2,(fR o ho).2.2⟩) (by
       match hA:t.arrays with
       | []=>simp; omega
       | [a]=>have:=(fA a (by simp[hA])).2.2; simp; omega
       | a::b::r=>rw[hA] at ha1; simp at ha1)
    omega
theorem aFP (t:Ty) (ht:nK t) (hh:aK t≤1073741824):∃ p:Nat,Ret prog M.ql [.agg (cT t)] (.int .i64 (p:Nat))∧(200<p↔200<iw t):=by
 obtain⟨p,h1,⟨h2,h3⟩,h4⟩:=aMa (aK t) hh t ht (Nat.le_refl _)
 refine⟨p,h1,h3,fun h=>?_⟩
 by_cases g:p≤200
 ·have:=h2 g; omega
 ·omega
end Go.Proofs.YtngjnfbngheccaaGreatDoor.Pv
set_option maxRecDepth 100000
namespace Go.Proofs.YtngjnfbngheccaaGreatDoor.Pv
open Go Go.Tidy
set_option maxHeartbeats 4000000 in
theorem aIX (t:Ty) (ht:aK t<1073741824) (hN:∀ h:Nat,h≤8→Ret prog M.ji [.agg (cT t),.int .i64 (h:Nat)] (.agg (cT (bG h t))))
 (hP:∀ h:Nat,h≤8→nK (bG h t)∧aK (bG h t)≤1073741824) :
 Ret prog M.Ko [.agg (cT t)] (.agg (cT (l9 t))):=by
 have hH:=ayY t (by omega)
 have hR:=aK2 t
 obtain⟨mo,hmo⟩ : ∃ mo,mo=min (aK t) 8:=⟨_,rfl⟩
 have hm8:mo≤8:=by omega
 refine Ret.go ah arq (by simp) fun hb w0 F0 hG=>?_
 simp
 intro v1 v2 v3
 refine aH.ret (r:=.agg (cT (bG 0 t))) (by simpa using hN 0 (by omega)) ?_
 simp
 refine aH.ret hH ?_
 have hmm:(if (8:Int)<(aK t:Int) then (8:Int) else (aK t:Int))=(mo:Nat):=by split<;>omega
 simp[hmm]
 rw[← hmo] at hR
 generalize l9 t=R at *
 obtain⟨J,hJ⟩ : ∃ J:Nat→Ty→Prop,J=fun k b=>wO t (mo-k) (k+1) b=R:=⟨_,rfl⟩
 refine aU.cnt ah mo (fun (k:Nat) (b:Ty)=>⟨[(5,.int .i64 (k+1:Nat)),(4,.int .i64 mo),(3,.ptr (3,v3) 9 0 0),(2,.ptr (2,v2) 9 0 0),(1,.ptr (1,v1) 9 0 0)],[((3,v3),some ⟨9,[cT b],false,true⟩),((2,v2),some ⟨9,[M.z1],false,true⟩),((1,v1),some ⟨9,[cT t],false,true⟩)]⟩) J (bG 0 t) (by rw[hJ]; exact hR) (by simp) fun k b hk hj=>?_
 have hj' : wO t (mo-k) (k+1) b=R:=by rw[hJ] at hj; exact hj
 have hw:=wrap64 (n:=((k+1:Nat):Int)+1) (by omega) (by omega)
 obtain⟨i,hi⟩ : ∃ i,i=k+1:=⟨_,rfl⟩
 rw[← hi] at hw hj'
 show XC _ _ ⟨[(5,.int .i64 (k+1:Nat)),(4,.int .i64 mo),(3,.ptr (3,v3) 9 0 0),(2,.ptr (2,v2) 9 0 0),(1,.ptr (1,v1) 9 0 0)],[((3,v3),some ⟨9,[cT b],false,true⟩),((2,v2),some ⟨9,[M.z1],false,true⟩),((1,v1),some ⟨9,[cT t],false,true⟩)]⟩ _ _
 rw[← hi]
 by_cases g:k<mo
 ·have g1:i≤mo:=by omega
  obtain⟨m,hm⟩ : ∃ m,mo-k=m+1:=⟨mo-k-1,by omega⟩
  rw[hm,Jd] at hj'
  have c1:=hN i (by omega)
  obtain⟨p,c2,hp⟩:=aFP (bG i t) (hP i (by omega)).1 (hP i (by omega)).2
  generalize bG i t=z at *
  simp[g1]
  refine ak.ret c1 ?_
  simp
  intro v6
  refine ak.ret c2 ?_
  by_cases h200:200<p
  ·have h200' : (200:Int)<p:=by omega
   rw[if_neg (by have:=hp.1 h200; omega)] at hj'
   simp[h200,h200',hj']
  ·have h200' : ¬ (200:Int)<p:=by omega
   rw[if_pos (by rcases Nat.lt_or_ge 200 (iw z) with h|h; exact absurd (hp.2 h) h200; exact h)] at hj'
   simp[h200,h200',hw]
   exact⟨g,z,by rw[hJ]; show wO _ _ _ _=_; rw[show mo-(k+1)=m by omega,show k+1+1=i+1 by omega]; exact hj',by omega,by simp⟩
 ·have g1:¬ i≤mo:=by omega
  rw[show mo-k=0 by omega] at hj'
  have hb' : b=R:=hj'
  simp[g1,hb']
end Go.Proofs.YtngjnfbngheccaaGreatDoor.Pv
set_option maxRecDepth 100000
namespace Go.Proofs.YtngjnfbngheccaaGreatDoor.Pv
open Go Go.Tidy
set_option maxHeartbeats 4000000 in
theorem aJn (t:Ty) (hF:aj t=true→Ret prog M.Ko [.agg (cT t)] (.agg (cT (l9 t)))) (hT:aj t=true→Ret prog M.jG [.agg (cT (l9 t))] (.agg (cT (l9 t)))) :
 Ret prog M.y9 [.agg (cT t)] (.tup [.agg (cT (if aj t then l9 t else aV)),.int .i64 (if aj t then 0 else 1)]):=by
 refine Ret.go ah arO (by simp) fun hb w0 F0 hG=>?_
 have c1:=Y7 t
 simp
 intros
 refine ak.ret c1 ?_
 cases e:aj t
 ·simp[aV]
 ·have c2:=hF e
  have c3:=hT e
  generalize l9 t=z at *
  simp
  refine ak.ret c2 ?_
  simp
  refine ak.ret c3 ?_
  simp
set_option maxHeartbeats 4000000 in
theorem aKB (a b:Ty) (NM:List S) (m:Nat) (hm:2*m≤8589934592) (hba:bdT NM m a) (hbb:bdT NM m b) (hT:aj a=true→aj b=true→Ret prog M.jG [.agg (cT (jf a b))] (.agg (cT (jf a b)))) :
 Ret prog M.JF [.agg (cT a),.agg (cT b)] (.tup [.agg (cT (if aj a&&aj b then jf a b else aV)),.int .i64 (if aj a&&aj b then 0 else 1)]):=by
 have c1:=Y7 a
 have c2:=Y7 b
 refine Ret.go ah au9 (by simp) fun hb w0 F0 hG=>?_
 simp
 intros
 refine ak.ret c1 ?_
 cases e1:aj a
 ·simp[aV]
 ·simp
  refine ak.ret c2 ?_
  cases e2:aj b
  ·simp[aV]
  ·have c3:=U7 alV aei NM m [a,b] (by simp[e1,e2]) (by simp[hba,hbb]) (by simp; omega)
   rw[aF9 e1] at c3
   have c4:=hT e1 e2
   generalize jf a b=z at *
   simp
   intros
   refine ak.ret (r:=.agg (cT z)) (by simpa using c3) ?_
   simp
   refine ak.ret c4 ?_
   simp
end Go.Proofs.YtngjnfbngheccaaGreatDoor.Pv
set_option maxRecDepth 100000
namespace Go.Proofs.YtngjnfbngheccaaGreatDoor.Pv
open Go Go.Tidy
theorem ay0 {hl:Key→Option HE} {a b:List (List PV)} (h:a=b):leR hl a b:=h ▸ bf hl a
def Ni (ns:List S) (a b:PV) (r:Ty):List PV:=[.vec 1 false (ns.map encStr),a,b,.bool r.all,.bool r.null,.bool r.fls,.bool r.tru,.vec 2 false (r.nums.map dw),.bool r.any,.vec 1 false (r.texts.map encStr),.vec 11 false (r.arrays.map dz),.vec 12 false (r.objects.map au)]
theorem aL8 {α:Type} (f:α→Bool) {l:List α} {k:Nat} (hk:k<l.length):(l.take (k+1)).all f=((l.take k).all f&&f l[k]):=by
 rw[List.take_succ_eq_append_getElem hk,List.all_append]; simp
section
variable {w0:World} {F0:Nat→Prop} {hG:GOk prog w0 F0}
set_option maxHeartbeats 8000000 in
theorem aKh (NM:List S) (m:Nat) (l:List Ob) (hf:∀ o∈l,bg o=true) (hm:∀ o∈l,bdO NM m o) (h4:l.length*m≤8589934592) (hl:l.length≤34359738368) (ns:List S) (hn:ns.length≤34359738368) (r:Ty) (v2 v9:Nat) :
 XC ⟨prog,w0,F0,94,[],0,hG⟩ (.seq (.seq (.reg [M.o 50 (.faddr (.t 9) 0),M.o 51 (.load (.t 50) 1 false),M.o 52 (.len (.t 51)),M.o 53 (.mv (.k (.int .i64 0)))]) (.block 4 (.loop M.ahS))) M.ahH)
  ⟨[(9,.ptr (9,v9) 12 0 0),(2,.ptr (2,v2) 12 0 0),(0,.vec 12 false (l.map au))],[((9,v9),some ⟨12,[Ni ns (.vec 9 true []) (.vec 1 true []) r],false,true⟩),((2,v2),some ⟨12,[M.z4],false,true⟩)]⟩ []
  (yt M.arZ (.agg (cO (.mk ns (ns.map fun n=>qb (l.map fun o=>(bn o n).1)) (ns.map fun n=>l.all fun o=>(bn o n).2) r)))):=by
 obtain⟨fF,hfF⟩ : ∃ fF:S→Ty,fF=fun n=>qb (l.map fun o=>(bn o n).1):=⟨_,rfl⟩
 obtain⟨fM,hfM⟩ : ∃ fM:S→Bool,fM=fun n=>l.all fun o=>(bn o n).2:=⟨_,rfl⟩
 rw[← hfF,← hfM]
 obtain⟨R,hR⟩ : ∃ R,R=Ob.mk ns (ns.map fF) (ns.map fM) r:=⟨_,rfl⟩
 rw[← hR]
 simp[Ni]
 obtain⟨J,hJ⟩ : ∃ J:Nat→(List Ty × List Bool)→Prop,J=fun k g=>g.1=(ns.take k).map fF∧g.2=(ns.take k).map fM:=⟨_,rfl⟩
 refine aU.KG ah [(2000009,9,1001),(3000009,1,1002)] rfl ns.length (fun v k (g:List Ty × List Bool)=>⟨[(53,.int .i64 k),(52,.int .i64 ns.length),(51,.vec 1 false (ns.map encStr)),(9,.ptr (9,v9) 12 0 0),(2,.ptr (2,v2) 12 0 0),(0,.vec 12 false (l.map au))],
  [((9,v9),some ⟨12,[Ni ns (.own (1001,v) 9 0 g.1.length false) (.own (1002,v) 1 0 g.2.length false) r],false,true⟩),((1001,v),some ⟨9,g.1.map fq,false,false⟩),((1002,v),some ⟨1,g.2.map lU,false,false⟩),((2,v2),some ⟨12,[M.z4],false,true⟩)]⟩) J ([],[]) (by rw[hJ]; exact⟨rfl,rfl⟩) (fun v=>by simp[Ni]) fun v k g _ hk hj=>?_
 obtain⟨fs,ms⟩:=g
 have hj' : fs=(ns.take k).map fF∧ms=(ns.take k).map fM:=by rw[hJ] at hj; exact hj
 clear hj
 obtain⟨j1,j2⟩:=hj'
 have hfl:fs.length=k:=by rw[j1]; simp; omega
 have hml:ms.length=k:=by rw[j2]; simp; omega
 have hw:=wrap64 (n:=(k:Int)+1) (by omega) (by omega)
 by_cases g1:k<ns.length
 ·have st1:(ns.take (k+1)).map fF=fs++[fF ns[k]]:=by rw[xQ fF g1,j1]
  have st2:(ns.take (k+1)).map fM=ms++[fM ns[k]]:=by rw[xQ fM g1,j2]
  have hJn:J (k+1) (fs++[fF ns[k]],ms++[fM ns[k]]):=by rw[hJ]; exact⟨st1.symm,st2.symm⟩
  have cT':=U7 alV aei NM m (l.map fun o=>(bn o ns[k]).1) (fun t ht=>by
   obtain⟨o,ho,rfl⟩:=List.mem_map.1 ht
   obtain⟨o1,o2,o3,o4,o5,o6⟩:=dH (hf o ho)
   rcases aoI o ns[k] with h|h
   ·exact o5 _ h
   ·rw[h]; exact o4) (fun t ht=>by
   obtain⟨o,ho,rfl⟩:=List.mem_map.1 ht
   exact alU (hm o ho) _) (by simpa using h4)
  have hFk:fF ns[k]=qb (l.map fun o=>(bn o ns[k]).1):=by rw[hfF]
  have hMk:fM ns[k]=l.all fun o=>(bn o ns[k]).2:=by rw[hfM]
  rw[← hFk] at cT'
  generalize hx:ns[k]=x at *
  generalize fF x=z at *
  simp[g1,Ni,hx]
  intro v3
  obtain⟨J2,hJ2⟩ : ∃ J2:Nat→(List Ty × Bool)→Prop,J2=fun j p=>p.1=(l.take j).map (fun o=>(bn o x).1)∧p.2=(l.take j).all (fun o=>(bn o x).2):=⟨_,rfl⟩
  refine aU.KG ah [(2000009,9,1001),(3000009,1,1002),(12,9,1003)] rfl l.length (fun v j (p:List Ty × Bool)=>⟨[(60,.int .i64 j),(59,.int .i64 l.length),(58,.vec 12 false (l.map au)),(12,.own (1003,v) 9 0 p.1.length false),(13,.bool p.2),(11,.str x),(53,.int .i64 k),(52,.int .i64 ns.length),(51,.vec 1 false (ns.map encStr)),(9,.ptr (9,v9) 12 0 0),(2,.ptr (2,v2) 12 0 0),(0,.vec 12 false (l.map au))],
   [((9,v9),some ⟨12,[Ni ns (.own (1001,v) 9 0 fs.length false) (.own (1002,v) 1 0 ms.length false) r],false,true⟩),((1001,v),some ⟨9,fs.map fq,false,false⟩),((1002,v),some ⟨1,ms.map lU,false,false⟩),((1003,v),some ⟨9,p.1.map fq,false,false⟩),((2,v2),some ⟨12,[M.z4],false,true⟩)]⟩) J2 ([],true) (by rw[hJ2]; exact⟨rfl,rfl⟩) (fun v=>by simp[Ni]) fun u j p _ hj hjp=>?_
  obtain⟨sd,mu⟩:=p
  have hjp' : sd=(l.take j).map (fun o=>(bn o x).1)∧mu=(l.take j).all (fun o=>(bn o x).2):=by rw[hJ2] at hjp; exact hjp
  clear hjp
  obtain⟨p1,p2⟩:=hjp'
  have hsl:sd.length=j:=by rw[p1]; simp; omega
  have hwj:=wrap64 (n:=(j:Int)+1) (by omega) (by omega)
  by_cases g2:j<l.length
  ·have ho:=hf _ (List.getElem_mem g2)
   obtain⟨o1,o2,o3,o4,o5,o6⟩:=dH ho
   have cf:=aDy l[j] x o1 o2 (JV o3).1
   have s1:(l.take (j+1)).map (fun o=>(bn o x).1)=sd++[(bn l[j] x).1]:=by rw[xQ _ g2,p1]
   have s2:(l.take (j+1)).all (fun o=>(bn o x).2)=(mu&&(bn l[j] x).2):=by rw[aL8 _ g2,p2]
   have hJ2n:J2 (j+1) (sd++[(bn l[j] x).1],mu&&(bn l[j] x).2):=by rw[hJ2]; exact⟨s1.symm,s2.symm⟩
   generalize (bn l[j] x).1=y at *
   generalize (bn l[j] x).2=b at *
   simp[g2,Ni,-Bool.exists_bool]
   intro v4
   refine ak.ret cf ?_
   simp[g2,-Bool.exists_bool]
   intro v5 v6
   refine⟨by omega,sd++[y],mu&&b,hJ2n,fun v=>⟨⟨hwj,by simp,rfl⟩,ay0 (by simp)⟩⟩
  ·have e1:sd=l.map (fun o=>(bn o x).1):=by rw[p1,List.take_of_length_le (by omega)]
   have e2:mu=fM x:=by rw[p2,List.take_of_length_le (by omega),hMk]
   rw[← e1] at cT'
   simp[g2,Ni,-Bool.exists_bool]
   intro v5
   refine aH.ret (r:=.agg (cT z)) (by simpa using cT') ?_
   simp[Ni,-Bool.exists_bool]
   exact⟨by omega,fun v=>⟨by omega,g1,fs++[z],ms++[mu],by rw[e2]; exact hJn,fun v1=>⟨hw,⟨by simp,by simp⟩,ay0 (by simp),ay0 (by simp)⟩⟩⟩
 ·have hR' : R=.mk ns fs ms r:=by rw[hR,j1,j2,List.take_of_length_le (by omega)]
  simp[g1,Ni,hR']
end
end Go.Proofs.YtngjnfbngheccaaGreatDoor.Pv
set_option maxRecDepth 100000
namespace Go.Proofs.YtngjnfbngheccaaGreatDoor.Pv
open Go Go.Tidy Go.RowKit
section
variable {P:Program} {kt et:TypeId} {w0:World} {F0:Nat→Prop} {nt b b2 n:Nat} {o2:Option Obj} {ks:List ByteArray} {st:St} {a:Act} {w:World}
theorem wo.step (ah:P.follows .mixedOrders=true) {c:Code} {m:MC} {Q:Exit→Act→World→Prop} (h:wo P kt et w0 F0 nt b b2 o2 n ks st a w) (hm:dW P nt c=some m) (he:m.erase=m) (ex:Ex) (ts:List (Nat × Nat × Nat)) (hts:DX ts=true) (S2:Nat→Nat→St)
 (hx:∀ w1 F1 hG,XC ⟨P,w1,F1,nt,[],0,hG⟩ m st [] fun e st'=>e=ex∧∃ u,∀ v,LS (nk ts v st') (S2 u v))
 (hK:∀ u v a' w',wo P kt et w0 F0 nt b b2 o2 n ks (S2 u v) a' w'→Q (Ex.to ex) a' w'):c.wp P Q a w:=by
 refine wp_mono (wo.run ah (by rw[he]; exact hm) h hx) ?_
 rintro e a' w' ⟨ex',st',rfl,⟨rfl,u,hl⟩,hr⟩
 obtain⟨v,hr'⟩:=hr.canon ts hts
 exact hK u v a' w' (hr'.ls (hl v))
theorem aoe {id:Nat} {Q:Exit→Act→World→Prop} (h:Q .normal a w):Exit.inBlock id Q (.exit id) a w:=by simp[Exit.inBlock,h]
end
def tS (b b2 off:Nat) (l:List Ob) (v k:Nat) (rs:List Ty):St:=⟨[(22,.int .i64 k),(21,.int .i64 l.length),(20,.vec 12 false (l.map au)),(4,.own (1004,v) 9 0 rs.length false),(3,.raw (.map (some b))),(2,.raw (.pointer (some ⟨b2,off,none⟩))),(0,.vec 12 false (l.map au))],
 [((1004,v),some ⟨9,rs.map fq,false,false⟩)]⟩
def tI (b b2 off:Nat) (l:List Ob) (v k:Nat) (rs:List Ty) (u:Nat) (o:Ob) (x:List (Nat × PV)):St:=⟨x++[(6,.ptr (6,u) 12 0 0),(5,.int .i64 k),(22,.int .i64 k),(21,.int .i64 l.length),(20,.vec 12 false (l.map au)),(4,.own (1004,v) 9 0 rs.length false),(3,.raw (.map (some b))),(2,.raw (.pointer (some ⟨b2,off,none⟩))),(0,.vec 12 false (l.map au))],
 [((6,u),some ⟨12,[cO o],false,true⟩),((1004,v),some ⟨9,rs.map fq,false,false⟩)]⟩
def tJ (o:Ob) (j:Nat):List (Nat × PV):=[(30,.int .i64 j),(29,.int .i64 o.names.length),(28,.vec 1 false (o.names.map encStr))]
section
variable {w0:World} {F0:Nat→Prop} {kt et b b2 off:Nat} {o2:Option Obj} {l:List Ob}
theorem aJ2 (hT:aJf prog 175 kt et) {Q:Exit→Act→World→Prop} {k:Nat} {rs:List Ty} {u v n0 N0:Nat} {o:Ob} {ks0:List S} {a:Act} {w:World} (hol:o.names.length≤34359738368) (hk:k≤34359738368) {c:Code} (hc:dW prog 94 c=some (.block 2 (.loop M.aoi))) (hN:N0+o.names.length<maxLen) (hn0:n0≤N0)
 (h:wo prog kt et w0 F0 94 b b2 o2 n0 ks0 (tI b b2 off l v k rs u o (tJ o 0)) a w)
 (hQ:∀ v u n ks a w,n≤N0+o.names.length→(∀ s,s∈ks↔s∈ks0∨s∈o.names)→wo prog kt et w0 F0 94 b b2 o2 n ks (tI b b2 off l v k rs u o []) a w→Q .normal a w):c.wp prog Q a w:=by
 obtain⟨cl,rfl,hl⟩:=agx hc
 obtain⟨cb,rfl,hb⟩:=JD hl
 refine wp_block ?_
 refine wp_loop_ghost (fun m a w=>∃ v j n ks,j≤o.names.length∧o.names.length-j=m∧n≤N0+j∧(∀ s,s∈ks↔s∈ks0∨s∈o.names.take j)∧wo prog kt et w0 F0 94 b b2 o2 n ks (tI b b2 off l v k rs u o (tJ o j)) a w) o.names.length ⟨v,0,n0,ks0,by omega,by simp,by omega,by simp,h⟩ ?_
 rintro m a w ⟨v,j,n,ks,hj,rfl,hn,hks,h⟩
 obtain⟨c1,c2,rfl,h1,h2⟩:=qx hb
 obtain⟨c3,c4,rfl,h3,h4⟩:=qx h2
 obtain⟨c5,c6,rfl,h5,h6⟩:=qx h4
 obtain⟨c7,rfl,h7⟩:=agx h5
 obtain⟨c8,c9,rfl,h8,h9⟩:=qx h7
 obtain⟨id,ops,rfl,hops⟩:=asr h9
 have hw:=wrap64 (n:=(j:Int)+1) (by omega) (by omega)
 by_cases g:j<o.names.length
 ·refine wp_seq (h.step ah h1 rfl .normal [(4,9,1004)] rfl (fun _ v=>tI b b2 off l v k rs u o ((31,.bool true)::tJ o j)) (fun w1 F1 hG=>by simp[tI,tJ,g]) fun _ v a w h=>?_)
  refine wp_seq (h.step ah h3 rfl .normal [(4,9,1004)] rfl (fun _ v=>tI b b2 off l v k rs u o (tJ o j)) (fun w1 F1 hG=>by simp[tI,tJ,g]) fun _ v a w h=>?_)
  refine wp_seq (wp_block ?_)
  refine wp_seq (h.step ah h8 rfl .normal [(4,9,1004)] rfl (fun _ v=>tI b b2 off l v k rs u o ((8,.str o.names[j])::tJ o j)) (fun w1 F1 hG=>by simp[tI,tJ,g]) fun _ v a w h=>?_)
  refine wp_region_list ?_
  obtain⟨l1,l2,e1,k1,k2⟩:=arA (ms1:=[M.o 34 (.mv (.t 3)),M.o 35 (.mv (.t 8)),M.o 36 (.mv (.t 5))]) hops
  obtain⟨o1,l3,rfl,k3,k4⟩:=Za k2
  obtain rfl:=azq k4
  rw[e1]
  obtain⟨w1,F1,hG,r1,r2,r3⟩:=h
  refine x9 (E:=⟨prog,w1,F1,94,[],0,hG⟩) (K:=fun st'=>LS st' (tI b b2 off l v k rs u o ((36,.int .i64 k)::(35,.str o.names[j])::(34,.raw (.map (some b)))::tJ o j))) ?_ l1 _ _ a w k1 r3 (by
   show XR _ [M.o 34 (.mv (.t 3)),M.o 35 (.mv (.t 8)),M.o 36 (.mv (.t 5))] _ [] (fun _ st'=>LS st' _)
   simp[tI,tJ,bf])
  intro st' a w hl hr
  have h:wo prog kt et w0 F0 94 b b2 o2 n ks (tI b b2 off l v k rs u o ((36,.int .i64 k)::(35,.str o.names[j])::(34,.raw (.map (some b)))::tJ o j)) a w:=⟨w1,F1,hG,r1,r2,hl.le a w hr⟩
  refine h.set hT k3 (s:=o.names[j]) (i:=k) rfl rfl rfl (by omega) fun w' h=>?_
  show Exit.inBlock 3 _ .normal a w'
  refine h.step ah h6 rfl .normal [(4,9,1004)] rfl (fun _ v=>tI b b2 off l v k rs u o (tJ o (j+1))) (fun w1 F1 hG=>by simp[tI,tJ,g,hw]) fun _ v a w h=>?_
  refine⟨o.names.length-(j+1),by omega,v,j+1,n+1,_,by omega,rfl,by omega,fun s=>?_,h⟩
  rw[List.take_succ_eq_append_getElem g]
  simp only[List.mem_cons,hks,List.mem_append,List.not_mem_nil,or_false]
  constructor
  ·rintro (h|h|h)<;>simp[h]
  ·rintro (h|h|h)<;>simp[h]
 ·refine wp_seq (h.step ah h1 rfl .normal [(4,9,1004)] rfl (fun _ v=>tI b b2 off l v k rs u o ((31,.bool false)::tJ o j)) (fun w1 F1 hG=>by simp[tI,tJ,g]) fun _ v a w h=>?_)
  refine wp_seq (h.step ah h3 rfl (.exit 2) [(4,9,1004)] rfl (fun _ v=>tI b b2 off l v k rs u o []) (fun w1 F1 hG=>by simp[tI,tJ,g]) fun _ v a w h=>?_)
  show Exit.inBlock 2 Q (.exit 2) a w
  refine aoe (hQ v u n ks a w (by omega) (fun s=>?_) h)
  rw[hks,List.take_of_length_le (by omega)]
theorem aJo (hT:aJf prog 175 kt et) (m:Nat) (hm:∀ o∈l,o.names.length≤m) (hm' : m≤34359738368) (hl:l.length≤34359738368) {Q:Exit→Act→World→Prop} {v:Nat} {a:Act} {w:World} {c:Code} (hc:dW prog 94 c=some (.block 0 (.loop M.apc))) (hN:l.length*m+m<maxLen)
 (h:wo prog kt et w0 F0 94 b b2 o2 0 [] (tS b b2 off l v 0 []) a w)
 (hQ:∀ n ks a w,(∀ s,s∈ks↔∃ o∈l,s∈o.names)→wo prog kt et w0 F0 94 b b2 o2 n ks ⟨[(4,.vec 9 false ((l.map Ob.rest).map fq)),(3,.raw (.map (some b))),(2,.raw (.pointer (some ⟨b2,off,none⟩))),(0,.vec 12 false (l.map au))],[]⟩ a w→Q .normal a w):c.wp prog Q a w:=by
 obtain⟨cl,rfl,hlp⟩:=agx hc
 obtain⟨cb,rfl,hb⟩:=JD hlp
 refine wp_block ?_
 refine wp_loop_ghost (fun x a w=>∃ v k n ks rs,k≤l.length∧l.length-k=x∧n≤k*m∧rs=(l.take k).map Ob.rest∧(∀ s,s∈ks↔∃ o∈l.take k,s∈o.names)∧wo prog kt et w0 F0 94 b b2 o2 n ks (tS b b2 off l v k rs) a w) l.length ⟨v,0,0,[],[],by omega,by simp,by omega,by simp,by simp,h⟩ ?_
 rintro x a w ⟨v,k,n,ks,rs,hk,rfl,hn,hrs,hks,h⟩
 have hrl:rs.length=k:=by rw[hrs]; simp; omega
 obtain⟨c1,c2,rfl,h1,h2⟩:=qx hb
 obtain⟨c3,c4,rfl,h3,h4⟩:=qx h2
 obtain⟨c5,c6,rfl,h5,h6⟩:=qx h4
 obtain⟨c7,rfl,h7⟩:=agx h5
 obtain⟨c8,c9,rfl,h8,h9⟩:=qx h7
 obtain⟨c10,c11,rfl,h10,h11⟩:=qx h9
 obtain⟨c12,c13,rfl,h12,h13⟩:=qx h10
 have hw:=wrap64 (n:=(k:Int)+1) (by omega) (by omega)
 by_cases g:k<l.length
 ·have hkm:(k+1)*m≤l.length*m:=Nat.mul_le_mul_right m g
  have hkm' : (k+1)*m=k*m+m:=Nat.succ_mul k m
  have hom:=hm _ (List.getElem_mem g)
  have hrl2:rs.length≤68719476735:=by omega
  have st1:(l.take (k+1)).map Ob.rest=rs++[l[k].rest]:=by rw[xQ _ g,hrs]
  refine wp_seq (h.step ah h1 rfl .normal [(4,9,1004)] rfl (fun _ v=>⟨(23,.bool true)::(tS b b2 off l v k rs).s,(tS b b2 off l v k rs).h⟩) (fun w1 F1 hG=>by simp[tS,g]) fun _ v a w h=>?_)
  refine wp_seq (h.step ah h3 rfl .normal [(4,9,1004)] rfl (fun _ v=>tS b b2 off l v k rs) (fun w1 F1 hG=>by simp[tS,g]) fun _ v a w h=>?_)
  refine wp_seq (wp_block ?_)
  refine wp_seq (h.step ah h8 rfl .normal [(4,9,1004)] rfl (fun u v=>tI b b2 off l v k rs u l[k] []) (fun w1 F1 hG=>by
   simp[tS,tI,g]
   intro u
   exact⟨u,fun v=>by simp⟩) fun u v a w h=>?_)
  generalize ho:l[k]=o at *
  refine wp_seq (wp_seq (h.step ah h12 rfl .normal [(4,9,1004)] rfl (fun _ v=>tI b b2 off l v k rs u o (tJ o 0)) (fun w1 F1 hG=>by simp[tI,tJ]) fun _ v a w h=>?_))
  refine aJ2 hT (by omega) (by omega) h13 (N0:=k*m) (by omega) hn h fun v u n' ks' a w hn' hks' h=>?_
  refine h.step ah h11 rfl .normal [(4,9,1004)] rfl (fun _ v=>tS b b2 off l v k (rs++[o.rest])) (fun w1 F1 hG=>by simp[tS,tI,hrl2]) fun _ v a w h=>?_
  refine h.step ah h6 rfl .normal [(4,9,1004)] rfl (fun _ v=>tS b b2 off l v (k+1) (rs++[o.rest])) (fun w1 F1 hG=>by simp[tS,hw]) fun _ v a w h=>?_
  refine⟨l.length-(k+1),by omega,v,k+1,n',ks',_,by omega,rfl,by omega,st1.symm,fun s=>?_,h⟩
  rw[hks',hks,List.take_succ_eq_append_getElem g,ho]
  simp only[List.mem_append,List.mem_singleton]
  constructor
  ·rintro (⟨o',h1,h2⟩|h)
   ·exact⟨o',.inl h1,h2⟩
   ·exact⟨o,.inr rfl,h⟩
  ·rintro⟨o',h1|rfl,h2⟩
   ·exact .inl ⟨o',h1,h2⟩
   ·exact .inr h2
 ·refine wp_seq (h.step ah h1 rfl .normal [(4,9,1004)] rfl (fun _ v=>⟨(23,.bool false)::(tS b b2 off l v k rs).s,(tS b b2 off l v k rs).h⟩) (fun w1 F1 hG=>by simp[tS,g]) fun _ v a w h=>?_)
  have hrs' : rs=l.map Ob.rest:=by rw[hrs,List.take_of_length_le (by omega)]
  refine wp_seq (h.step ah h3 rfl (.exit 0) [] rfl (fun _ v=>⟨[(4,.vec 9 false (rs.map fq)),(3,.raw (.map (some b))),(2,.raw (.pointer (some ⟨b2,off,none⟩))),(0,.vec 12 false (l.map au))],[]⟩) (fun w1 F1 hG=>by simp[tS,g]) fun _ v a w h=>?_)
  show Exit.inBlock 0 Q (.exit 0) a w
  refine aoe (hQ n ks a w (fun s=>?_) (hrs' ▸ h))
  rw[hks,List.take_of_length_le (by omega)]
end
theorem aLb {NM:List S} {m:Nat} {o:Ob} (hf:bg o=true) (hm:bdO NM m o):o.names.length≤NM.length:=NI (oq hf) hm.1
set_option maxHeartbeats 4000000 in
theorem aI5 {kt et:TypeId} (hS:agz prog 175 kt et M.Vo M.ze) (NM:List S) (m:Nat) (l:List Ob) (hf:∀ o∈l,bg o=true) (hm:∀ o∈l,bdO NM m o) (h4:l.length*m≤8589934592) (hl:l.length≤34359738368) (hNM:NM.length≤134217728) :
 Ret prog M.agw [.vec 12 false (l.map au)] (.agg (cO (yj l))):=by
 refine Ret.of_wp aJD (by simp) fun c htm w0 F0 hG a hg=>?_
 have hF0:∀ x,F0 x→x<w0.heap.size:=fun x hx=>(hg.fz x hx).1
 replace htm:dW prog 94 c=some M.auE:=htm
 obtain⟨c1,c2,rfl,h1,h2⟩:=qx htm
 obtain⟨c3,c4,rfl,h3,h4'⟩:=qx h2
 obtain⟨c5,c6,rfl,h5,h6⟩:=qx h4'
 obtain⟨c7,c8,rfl,h7,h8⟩:=qx h6
 obtain⟨c9,c10,rfl,h9,h10⟩:=qx h7
 obtain⟨c11,c12,rfl,h11,h12⟩:=qx h8
 have hnl:∀ o∈l,o.names.length≤NM.length:=fun o ho=>aLb (hf o ho) (hm o ho)
 have hmul:l.length*NM.length≤34359738368*134217728:=Nat.mul_le_mul hl hNM
 have hmax:l.length*NM.length+NM.length<maxLen:=by unfold maxLen; omega
 have cT':=U7 alV aei NM m (l.map Ob.rest) (fun t ht=>by
  obtain⟨o,ho,rfl⟩:=List.mem_map.1 ht
  exact (dH (hf o ho)).2.2.2.1) (fun t ht=>by
  obtain⟨o,ho,rfl⟩:=List.mem_map.1 ht
  exact (hm o ho).2.2) (by simpa using h4)
 refine wp_seq (wp_mono (jg (E:=⟨prog,w0,F0,94,[],0,hG⟩) ah c1 (.reg [M.o 2 (.alloc M.z4)]) _ a w0 (fun e st'=>e=.normal∧∃ v2,st'=⟨[(2,.ptr (2,v2) 12 0 0),(0,.vec 12 false (l.map au))],[((2,v2),some ⟨12,[M.z4],false,true⟩)]⟩) h1 ⟨_,hg⟩ ?_) ?_)
 ·show XC _ _ _ [] _
  simp
 rintro e a w ⟨ex,st',rfl,⟨rfl,v2,rfl⟩,hr⟩
 obtain⟨id,ops,rfl,hops⟩:=asr h3
 refine wp_seq (wp_region_list (aJV (kt:=kt) (et:=et) (z:=M.z4) (x0:=.vec 12 false (l.map au)) hF0 (by decide) (by decide) (by decide) (by decide) rfl hops hr fun b b2 off o2 a w hB h=>?_))
 refine wp_seq (h.step ah h5 rfl .normal [(4,9,1004)] rfl (fun _ v=>⟨[(4,.own (1004,v) 9 0 0 false),(3,.raw (.map (some b))),(2,.raw (.pointer (some ⟨b2,off,none⟩))),(0,.vec 12 false (l.map au))],[((1004,v),some ⟨9,[],false,false⟩)]⟩) (fun w1 F1 hG=>by simp) fun _ v a w h=>?_)
 refine wp_seq (wp_seq (h.step ah h9 rfl .normal [(4,9,1004)] rfl (fun _ v=>tS b b2 off l v 0 []) (fun w1 F1 hG=>by simp[tS]) fun _ v a w h=>?_))
 refine aJo hS.2.2.1 NM.length hnl (by omega) hl h10 hmax h fun n ks a w hks h=>?_
 obtain⟨id2,ops2,rfl,hops2⟩:=asr h11
 refine wp_seq (wp_region_list (aMF (hG0:=hG) hS (z:=M.z4) (NK:=NM.map fun s=>s.data.toList) (by decide) rfl rfl hB (fun s hs=>?_) (by simp; omega) hops2 h fun ns N l' a w hl' hss hmem hr=>?_))
 ·obtain⟨o,ho,h⟩:=(hks s).1 hs
  exact List.mem_map.2 ⟨s,(hm o ho).1 s h,rfl⟩
 have hns:ns=um l:=by
  refine av5 XU (hss.imp fun {x y} h=>?_) (aiR fun o ho=>oq (hf o ho)) fun s=>by rw[hmem,hks,aI6 hf]
  rw[xk]
  show Op.bytesLess _ _=true
  rw[ahA]
  simpa using h
 have hnsl:ns.length≤NM.length:=by
  rw[hns]
  refine NI (aiR fun o ho=>oq (hf o ho)) fun n hn=>?_
  obtain⟨o,ho,hn⟩:=agt l n hn
  exact (hm o ho).1 n hn
 have hO:yj l=.mk ns (ns.map fun n=>qb (l.map fun o=>(bn o n).1)) (ns.map fun n=>l.all fun o=>(bn o n).2) (qb (l.map Ob.rest)):=by rw[hns]; rfl
 rw[hO]
 have htail:=fun v9=>aKh (w0:=w0) (F0:=F0) (hG:=hG) NM m l hf hm h4 hl ns (by omega) (qb (l.map Ob.rest)) N v9
 clear hO
 generalize qb (l.map Ob.rest)=r at *
 rw[← List.append_nil l']
 obtain⟨K,hK⟩ : ∃ K:St→Prop,K=fun st'=>∃ v9,LS st' ⟨[(9,.ptr (9,v9) 12 0 0),(2,.ptr (2,N) 12 0 0),(0,.vec 12 false (l.map au))],[((9,v9),some ⟨12,[Ni ns (.vec 9 true []) (.vec 1 true []) r],false,true⟩),((2,N),some ⟨12,[M.z4],false,true⟩)]⟩:=⟨_,rfl⟩
 refine x9 (E:=⟨prog,w0,F0,94,[],0,hG⟩) (K:=K) ?_ l' _ _ a w hl' hr ?_
 ·intro st' a w hk hr
  rw[hK] at hk
  obtain⟨v9,hls⟩:=hk
  exact wp_mono (jg (E:=⟨prog,w0,F0,94,[],0,hG⟩) ah c12 (.seq (.seq (.reg [M.o 50 (.faddr (.t 9) 0),M.o 51 (.load (.t 50) 1 false),M.o 52 (.len (.t 51)),M.o 53 (.mv (.k (.int .i64 0)))]) (.block 4 (.loop M.ahS))) M.ahH) _ a w _ h12 (hls.le a w hr) (htail v9)) fun e a' w' h=>h
 ·show XR _ [M.o 47 (.mv (.t 4)),M.o 48 (.call M.jc [.t 47]),M.o 49 (.build M.z4 [(0,1,.t 46),(3,9,.t 48)]),M.o 9 (.alloc M.z4),M.e (.store (.t 9) (.t 49) 12)] _ [] (fun _=>K)
  have eN:M.z4.length=12:=rfl
  rw[eN]
  simp
  refine ak.ret (by simpa using cT') ?_
  simp[hK,Ni]
  exact fun _ _=>rfl
end Go.Proofs.YtngjnfbngheccaaGreatDoor.Pv

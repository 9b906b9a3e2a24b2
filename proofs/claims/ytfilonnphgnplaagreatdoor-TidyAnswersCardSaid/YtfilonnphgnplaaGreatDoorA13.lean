/- Part 13. -/
import Derived.Test.YtfilonnphgnplaaGreatDoorA12
import Derived.Test.YtfilonnphgnplaaGreatDoorA8
set_option linter.unusedSimpArgs false
set_option linter.unusedVariables false
set_option maxRecDepth 100000
namespace Go.Proofs.YtfilonnphgnplaaGreatDoor.Pv
open Go Go.Tidy
set_option maxHeartbeats 4000000 in
theorem ayv (l:List Arr) (ih:∀ a∈l,Ret prog M.jy [.agg (cT a.item)] (.bool (ak a.item))):Ret prog M.aaY [.vec 11 false (l.map dh)] (.bool (decide (l.length≤1)&&l.all iw)):=by
 refine Ret.go ah as1 (by simp) fun hb w0 F0 hG=>?_
 simp only[fu,gQ,List.length_map,LIM,and_true] at hb
 by_cases h0:l.length≤1
 ·have h0' : ¬ (1:Int)<l.length:=by omega
  generalize hB:l.all iw=B
  obtain⟨J,hJ⟩ : ∃ J:Nat→Unit→Prop,J=fun k _=>iG iw l k:=⟨_,rfl⟩
  simp[h0,h0']
  refine aU.cnt ah l.length (fun k _=>⟨[(3,.int .i64 k),(0,.vec 11 false (l.map dh))],[]⟩) J () (by rw[hJ]; exact .zero) (by simp) fun k _ hk hj=>?_
  have hw:=wrap64 (n:=(k:Int)+1) (by omega) (by omega)
  have hj' : iG iw l k:=by rw[hJ] at hj; exact hj
  by_cases h1:k<l.length
  ·have no:iw l[k]=false→B=false:=fun h=>hB ▸ uY h1 h
   have hs:iw l[k]=(decide (0≤l[k].min)&&decide (-1≤l[k].max)&&(decide (l[k].max<0)||decide (l[k].min≤l[k].max))&&ak l[k].item&&(never l[k].item == decide (l[k].max=0))):=by
    cases l[k]; rfl
   have ih':=ih l[k] (List.getElem_mem h1)
   by_cases g1:l[k].min<0
   ·have g1' : ¬ 0≤l[k].min:=by omega
    simp[h1,g1,no (by rw[hs]; simp[g1'])]
   by_cases g2:l[k].max < -1
   ·have g2' : ¬ -1≤l[k].max:=by omega
    simp[h1,g1,g2,no (by rw[hs]; simp[g2'])]
   have g1' : 0≤l[k].min:=by omega
   have g2' : -1≤l[k].max:=by omega
   by_cases g34:0≤l[k].max∧l[k].max<l[k].min
   ·obtain⟨g3,g4⟩:=g34
    have g3' : ¬ l[k].max<0:=by omega
    have g4' : ¬ l[k].min≤l[k].max:=by omega
    simp[h1,g1,g2,g3,g4,no (by rw[hs]; simp[g3',g4'])]
   have g6:(decide (l[k].max<0)||decide (l[k].min≤l[k].max))=true:=by simp; omega
   rw[g6,decide_eq_true g1',decide_eq_true g2'] at hs
   by_cases g3:0≤l[k].max
   rotate_left
   ·have g5:¬ l[k].max=0:=by omega
    simp[h1,g1,g2,g3]
    intros
    refine aH.ret ih' ?_
    cases hf:ak l[k].item
    ·simp[no (by rw[hs,hf]; simp)]
    ·simp[h1]
     refine aH.ret (Uw l[k].item) ?_
     rw[hf] at hs
     cases hn:never l[k].item<;>rw[hn] at hs
     ·simp[g5,h1,hw]
      exact⟨(),by rw[hJ]; exact hj'.step h1 (by rw[hs]; simp[g5])⟩
     ·simp[g5,h1,no (by rw[hs]; simp[g5])]
   ·have g4:¬ l[k].max<l[k].min:=by omega
    simp[h1,g1,g2,g3,g4]
    intros
    refine aH.ret ih' ?_
    cases hf:ak l[k].item
    ·simp[no (by rw[hs,hf]; simp)]
    ·simp[h1]
     refine aH.ret (Uw l[k].item) ?_
     rw[hf] at hs
     cases hn:never l[k].item<;>rw[hn] at hs
     ·by_cases g5:l[k].max=0
      ·simp[g5,h1,no (by rw[hs]; simp[g5])]
      ·simp[g5,h1,hw]
       exact⟨(),by rw[hJ]; exact hj'.step h1 (by rw[hs]; simp[g5])⟩
     ·by_cases g5:l[k].max=0
      ·simp[g5,h1,hw]
       exact⟨(),by rw[hJ]; exact hj'.step h1 (by rw[hs]; simp[g5])⟩
      ·simp[g5,h1,no (by rw[hs]; simp[g5])]
  ·simp[h1,← hB,hj'.all h1]
 ·have h0' : (1:Int)<l.length:=by omega
  simp[h0,h0']
set_option maxHeartbeats 4000000 in
theorem ax4 (o:Ob) (ih:∀ t∈o.fields,Ret prog M.jy [.agg (cT t)] (.bool (ak t))) (ihr:Ret prog M.jy [.agg (cT o.rest)] (.bool (ak o.rest))):Ret prog M.GQ [.agg (cO o)] (.bool (bf o)):=by
 refine Ret.go ah atF (by simp) fun hb w0 F0 hG=>?_
 simp only[fu,gQ,List.length_map,LIM,and_true] at hb
 have hO:bf o=(decide (o.names.length=o.fields.length)&&decide (o.names.length=o.must.length)&&jh o.names&&ak o.rest&&O9 o.fields&&(o.fields.zip o.must).all (fun p=>!p.2||!never p.1)):=by
  cases o; rfl
 generalize hB:bf o=B at *
 by_cases g1:o.names.length=o.fields.length
 rotate_left
 ·have g1' : ¬ (o.names.length:Int)=o.fields.length:=by omega
  simp[g1,g1',show B=false by rw[hO]; simp[g1]]
 have g1' : (o.names.length:Int)=o.fields.length:=by omega
 by_cases g2:o.names.length=o.must.length
 rotate_left
 ·have g2' : ¬ (o.names.length:Int)=o.must.length:=by omega
  simp[← g1,g2,g2',show B=false by rw[hO]; simp[g2]]
 have g2' : (o.names.length:Int)=o.must.length:=by omega
 simp[← g1,← g2]
 intro v
 refine aj.ret (akX o.names) ?_
 cases hr:jh o.names
 ·simp[show B=false by rw[hO,hr]; simp]
 simp
 refine aj.ret ihr ?_
 cases hf:ak o.rest
 ·simp[show B=false by rw[hO,hf]; simp]
 simp
 rw[decide_eq_true g1,decide_eq_true g2,hr,hf,Oo] at hO
 obtain⟨J,hJ⟩ : ∃ J:Nat→Unit→Prop,J=fun k _=>iG ak o.fields k∧iG (fun p:Ty × Bool=>!p.2||!never p.1) (o.fields.zip o.must) k:=⟨_,rfl⟩
 refine aU.cnt ah o.fields.length (fun k _=>⟨[(3,.int .i64 k),(1,.ptr (1,v) 12 0 0)],[((1,v),some ⟨12,[cO o],false,true⟩)]⟩) J () (by rw[hJ]; exact⟨.zero,.zero⟩) (by simp) fun k _ hk hj=>?_
 have hw:=wrap64 (n:=(k:Int)+1) (by omega) (by omega)
 obtain⟨j1,j2⟩ : iG ak o.fields k∧iG (fun p:Ty × Bool=>!p.2||!never p.1) (o.fields.zip o.must) k:=by rw[hJ] at hj; exact hj
 by_cases h1:k<o.fields.length
 ·have h2:k<o.must.length:=by omega
  have h3:k<(o.fields.zip o.must).length:=by simp; omega
  have hz:(o.fields.zip o.must)[k]=(o.fields[k],o.must[k]):=by simp
  simp[h1]
  refine aj.ret (ih o.fields[k] (List.getElem_mem h1)) ?_
  cases e1:ak o.fields[k]
  ·simp[show B=false by rw[hO,uY h1 e1]; simp]
  cases e2:o.must[k]
  ·simp[h1,h2,e2,hw]
   refine⟨(),?_⟩
   rw[hJ]; exact⟨j1.step h1 e1,j2.step h3 (by rw[hz]; simp[e2])⟩
  ·simp[h1,h2,e2]
   refine aj.ret (Uw o.fields[k]) ?_
   cases e3:never o.fields[k]
   ·simp[hw]
    refine⟨h1,(),?_⟩
    rw[hJ]; exact⟨j1.step h1 e1,j2.step h3 (by rw[hz]; simp[e3])⟩
   ·simp[show B=false by rw[hO,uY h3 (by rw[hz]; simp[e2,e3])]; simp]
 ·have:B=true:=by rw[hO,j1.all h1,j2.all (by simp; omega)]; rfl
  simp[h1,this]
theorem asJ (l:List Ob) (ih:∀ o∈l,Ret prog M.GQ [.agg (cO o)] (.bool (bf o))):Ret prog M.Y9 [.vec 12 false (l.map av)] (.bool (l.all bf)):=by
 refine Ret.go ah aqD (by simp) fun hb w0 F0 hG=>?_
 simp only[fu,gQ,List.length_map,LIM,and_true] at hb
 generalize hB:l.all bf=B
 obtain⟨J,hJ⟩ : ∃ J:Nat→Unit→Prop,J=fun k _=>iG bf l k:=⟨_,rfl⟩
 simp
 refine aU.cnt ah l.length (fun k _=>⟨[(3,.int .i64 k),(0,.vec 12 false (l.map av))],[]⟩) J () (by rw[hJ]; exact .zero) (by simp) fun k _ hk hj=>?_
 have hw:=wrap64 (n:=(k:Int)+1) (by omega) (by omega)
 have hj' : iG bf l k:=by rw[hJ] at hj; exact hj
 by_cases h1:k<l.length
 ·have no:bf l[k]=false→B=false:=fun h=>hB ▸ uY h1 h
  simp[h1]
  refine aj.ret (ih l[k] (List.getElem_mem h1)) ?_
  cases e1:bf l[k]
  ·simp[no e1]
  ·simp[hw]
   exact⟨h1,(),by rw[hJ]; exact hj'.step h1 e1⟩
 ·simp[h1,← hB,hj'.all h1]
end Go.Proofs.YtfilonnphgnplaaGreatDoor.Pv
set_option maxRecDepth 100000
namespace Go.Proofs.YtfilonnphgnplaaGreatDoor.Pv
open Go Go.Tidy
theorem aDg (t:Ty):ak t=((!t.all||bare t)&&jh t.texts&&(!t.any||t.texts.isEmpty)&&(decide (t.nums.length≤1)&&t.nums.all jq)&&(decide (t.arrays.length≤1)&&t.arrays.all iw)&&t.objects.all bf):=by
 cases t
 simp only[ak,Ow,NU,Ty.all,Ty.any,Ty.nums,Ty.texts,Ty.arrays,Ty.objects,Bool.and_assoc]
 rfl
theorem aDj (t:Ty) (ha:∀ a∈t.arrays,Ret prog M.jy [.agg (cT a.item)] (.bool (ak a.item))) (ho:∀ o∈t.objects,Ret prog M.GQ [.agg (cO o)] (.bool (bf o))):Ret prog M.jy [.agg (cT t)] (.bool (ak t)):=by
 refine Ret.go ah auI (by simp) fun hb w0 F0 hG=>?_
 have hB:=aDg t
 generalize ak t=B at *
 have bare':=akO t
 unfold cT at bare'
 have r1:=akX t.texts
 have r2:=axv t.nums
 have r3:=ayv t.arrays ha
 have r4:=asJ t.objects ho
 cases h1:t.all<;>rw[h1] at hB bare'
 ·simp[h1]
  intro v
  refine aj.ret r1 ?_
  cases h2:jh t.texts<;>rw[h2] at hB
  ·simp[show B=false by rw[hB]; simp]
  cases h3:t.any<;>rw[h3] at hB
  ·simp[h3]
   refine aj.ret r2 ?_
   generalize (decide (t.nums.length≤1)&&t.nums.all jq)=p at *
   cases p
   ·simp[show B=false by rw[hB]; simp]
   simp
   refine aj.ret r3 ?_
   generalize (decide (t.arrays.length≤1)&&t.arrays.all iw)=p at *
   cases p
   ·simp[show B=false by rw[hB]; simp]
   simp
   refine aj.ret r4 ?_
   simp[show B=t.objects.all bf by rw[hB]; simp]
  ·cases h4:t.texts.isEmpty<;>rw[h4] at hB
   ·have h4' : 0<t.texts.length:=by cases ht:t.texts with|nil=>rw[ht] at h4; simp at h4|cons=>simp
    have h4'' : (0:Int)<t.texts.length:=by omega
    simp[h3,h4',h4'',show B=false by rw[hB]; simp]
   ·have h4' : ¬ 0<t.texts.length:=by cases ht:t.texts with|nil=>simp|cons=>rw[ht] at h4; simp at h4
    have h4'' : ¬ (0:Int)<t.texts.length:=by omega
    simp[h3,h4',h4'']
    refine aj.ret r2 ?_
    generalize (decide (t.nums.length≤1)&&t.nums.all jq)=p at *
    cases p
    ·simp[show B=false by rw[hB]; simp]
    simp
    refine aj.ret r3 ?_
    generalize (decide (t.arrays.length≤1)&&t.arrays.all iw)=p at *
    cases p
    ·simp[show B=false by rw[hB]; simp]
    simp
    refine aj.ret r4 ?_
    simp[show B=t.objects.all bf by rw[hB]; simp]
 ·simp[h1]
  intro v
  refine aj.ret bare' ?_
  cases h5:bare t<;>rw[h5] at hB
  ·simp[show B=false by rw[hB]; simp]
  ·simp
   refine aj.ret r1 ?_
   cases h2:jh t.texts<;>rw[h2] at hB
   ·simp[show B=false by rw[hB]; simp]
   cases h3:t.any<;>rw[h3] at hB
   ·simp[h3]
    refine aj.ret r2 ?_
    generalize (decide (t.nums.length≤1)&&t.nums.all jq)=p at *
    cases p
    ·simp[show B=false by rw[hB]; simp]
    simp
    refine aj.ret r3 ?_
    generalize (decide (t.arrays.length≤1)&&t.arrays.all iw)=p at *
    cases p
    ·simp[show B=false by rw[hB]; simp]
    simp
    refine aj.ret r4 ?_
    simp[show B=t.objects.all bf by rw[hB]; simp]
   ·cases h4:t.texts.isEmpty<;>rw[h4] at hB
    ·have h4' : 0<t.texts.length:=by cases ht:t.texts with|nil=>rw[ht] at h4; simp at h4|cons=>simp
     have h4'' : (0:Int)<t.texts.length:=by omega
     simp[h3,h4',h4'',show B=false by rw[hB]; simp]
    ·have h4' : ¬ 0<t.texts.length:=by cases ht:t.texts with|nil=>simp|cons=>rw[ht] at h4; simp at h4
     have h4'' : ¬ (0:Int)<t.texts.length:=by omega
     simp[h3,h4',h4'']
     refine aj.ret r2 ?_
     generalize (decide (t.nums.length≤1)&&t.nums.all jq)=p at *
     cases p
     ·simp[show B=false by rw[hB]; simp]
     simp
     refine aj.ret r3 ?_
     generalize (decide (t.arrays.length≤1)&&t.arrays.all iw)=p at *
     cases p
     ·simp[show B=false by rw[hB]; simp]
     simp
     refine aj.ret r4 ?_
     simp[show B=t.objects.all bf by rw[hB]; simp]
theorem zm (t:Ty):Ret prog M.jy [.agg (cT t)] (.bool (ak t)):=by
 induction hn:SizeOf.sizeOf t using Nat.strongRecOn generalizing t with
 | _ n ih =>
   subst hn
   refine aDj t (fun a ha=>ih _ (yc ha) a.item rfl) fun o ho=>ax4 o (fun x hx=>ih _ (uh ho hx) x rfl) (ih _ (uQ ho) o.rest rfl)
end Go.Proofs.YtfilonnphgnplaaGreatDoor.Pv
set_option maxRecDepth 100000
namespace Go.Proofs.YtfilonnphgnplaaGreatDoor.Pv
open Go Go.Tidy
theorem abV:∀ {l:List Arr} {k:Nat} (hk:k<l.length),iY (l.take (k+1))=max (iY (l.take k)) (ay l[k].item+1)
 | .mk t _ _::l,0,_=>by simp[iY,Arr.item]
 | .mk t _ _::l,k+1,h=>by
   have:=abV (l:=l) (k:=k) (by simpa using h)
   simp only[List.take_succ_cons,iY,List.getElem_cons_succ]
   rw[this]; omega
theorem ab3:∀ {l:List Ty} {k:Nat} (hk:k<l.length),jI (l.take (k+1))=max (jI (l.take k)) (ay l[k]+1)
 | t::l,0,_=>by simp[jI]
 | t::l,k+1,h=>by
   have:=ab3 (l:=l) (k:=k) (by simpa using h)
   simp only[List.take_succ_cons,jI,List.getElem_cons_succ]
   rw[this]; omega
theorem acr:∀ {l:List Ob} {k:Nat} (hk:k<l.length),jd (l.take (k+1))=max (jd (l.take k)) (max (ay l[k].rest+1) (jI l[k].fields))
 | .mk _ fs _ r::l,0,_=>by simp[jd,Ob.rest,Ob.fields]
 | .mk _ fs _ r::l,k+1,h=>by
   have:=acr (l:=l) (k:=k) (by simpa using h)
   simp only[List.take_succ_cons,jd,List.getElem_cons_succ]
   rw[this]; omega
theorem aa8 (t:Ty):ay t=max (iY t.arrays) (jd t.objects):=by cases t; rfl
theorem ajM {l:List Arr} {a:Arr} (h:a∈l):ay a.item+1≤iY l:=by
 induction l with
 | nil=>simp at h
 | cons b l ih =>
   obtain⟨t,lo,hi⟩:=b
   rcases List.mem_cons.1 h with rfl|h
   ·simp only[iY,Arr.item]; omega
   ·have:=ih h; simp only[iY]; omega
theorem akH {l:List Ty} {a:Ty} (h:a∈l):ay a+1≤jI l:=by
 induction l with
 | nil=>simp at h
 | cons b l ih =>
   rcases List.mem_cons.1 h with rfl|h
   ·simp only[jI]; omega
   ·have:=ih h; simp only[jI]; omega
theorem XU {l:List Ob} {a:Ob} (h:a∈l):ay a.rest+1≤jd l∧jI a.fields≤jd l:=by
 induction l with
 | nil=>simp at h
 | cons b l ih =>
   obtain⟨ns,fs,ms,r⟩:=b
   rcases List.mem_cons.1 h with rfl|h
   ·simp only[jd,Ob.rest,Ob.fields]; omega
   ·have:=ih h; simp only[jd]; omega
theorem afx (h:Nat) (t:Ty) (ht:ay t<2 ^ 62) (ih:Ret prog M.vW [.agg (cT t)] (.int .i64 (ay t:Nat))):Ret prog M.sJ [.int .i64 h,.agg (cT t)] (.int .i64 (max h (ay t+1):Nat)):=by
 refine Ret.go ah atT (by simp) fun hb w0 F0 hG=>?_
 have w1:=wrap64 (n:=(ay t:Int)+1) (by omega) (by omega)
 simp
 intro v
 refine aj.ret ih ?_
 by_cases g:h<ay t+1
 ·have g' : (h:Int)<(ay t:Int)+1:=by omega
  simp[w1,g']
  omega
 ·have g' : ¬ (h:Int)<(ay t:Int)+1:=by omega
  simp[w1,g']
  omega
set_option maxHeartbeats 4000000 in
theorem aEs (t:Ty) (ht:ay t<2 ^ 62) (ha:∀ a∈t.arrays,∀ h:Nat,Ret prog M.sJ [.int .i64 h,.agg (cT a.item)] (.int .i64 (max h (ay a.item+1):Nat)))
 (hr:∀ o∈t.objects,∀ h:Nat,Ret prog M.sJ [.int .i64 h,.agg (cT o.rest)] (.int .i64 (max h (ay o.rest+1):Nat)))
 (hf:∀ o∈t.objects,∀ x∈o.fields,∀ h:Nat,Ret prog M.sJ [.int .i64 h,.agg (cT x)] (.int .i64 (max h (ay x+1):Nat))) :
 Ret prog M.vW [.agg (cT t)] (.int .i64 (ay t:Nat)):=by
 refine Ret.go ah auT (by simp) fun hb w0 F0 hG=>?_
 simp only[fu,gQ,List.length_map,LIM,and_true] at hb
 have hd:=aa8 t
 generalize ay t=H at *
 simp
 intro v
 obtain⟨J,hJ⟩ : ∃ J:Nat→Nat→Prop,J=fun k m=>m=iY (t.arrays.take k):=⟨_,rfl⟩
 refine aU.cnt ah t.arrays.length (fun k m=>⟨[(4,.int .i64 k),(3,.int .i64 (m:Nat)),(1,.ptr (1,v) 9 0 0)],[((1,v),some ⟨9,[cT t],false,true⟩)]⟩) J 0 (by simp[hJ,iY]) (by simp) fun k m hk hj=>?_
 have hw:=wrap64 (n:=(k:Int)+1) (by omega) (by omega)
 have hj' : m=iY (t.arrays.take k):=by rw[hJ] at hj; exact hj
 by_cases h1:k<t.arrays.length
 ·simp[h1]
  refine aj.ret (ha t.arrays[k] (List.getElem_mem h1) m) ?_
  simp[hw]
  refine⟨h1,max m (ay t.arrays[k].item+1),?_,rfl⟩
  rw[hJ]
  show _=iY _
  rw[abV h1,hj']
 ·have hm:m=iY t.arrays:=by rw[hj',List.take_of_length_le (by omega)]
  simp[h1]
  clear hj hj' hJ J
  obtain⟨J,hJ⟩ : ∃ J:Nat→Nat→Prop,J=fun k n=>n=max m (jd (t.objects.take k)):=⟨_,rfl⟩
  refine aU.cnt ah t.objects.length (fun k n=>⟨[(5,.int .i64 k),(3,.int .i64 (n:Nat)),(1,.ptr (1,v) 9 0 0)],[((1,v),some ⟨9,[cT t],false,true⟩)]⟩) J m (by simp[hJ,jd]) (by simp) fun i n hi hj=>?_
  have hw:=wrap64 (n:=(i:Int)+1) (by omega) (by omega)
  have hj' : n=max m (jd (t.objects.take i)):=by rw[hJ] at hj; exact hj
  by_cases h2:i<t.objects.length
  ·simp[h2]
   refine aj.ret (hr t.objects[i] (List.getElem_mem h2) n) ?_
   simp
   obtain⟨J',hJ'⟩ : ∃ J:Nat→Nat→Prop,J=fun j p=>p=max (max n (ay t.objects[i].rest+1)) (jI (t.objects[i].fields.take j)):=⟨_,rfl⟩
   refine aU.cnt ah t.objects[i].fields.length (fun j p=>⟨[(6,.int .i64 j),(5,.int .i64 i),(3,.int .i64 (p:Nat)),(1,.ptr (1,v) 9 0 0)],[((1,v),some ⟨9,[cT t],false,true⟩)]⟩) J' (max n (ay t.objects[i].rest+1)) (by simp[hJ',jI]) (by simp) fun j p hj2 hjj=>?_
   have hbo:t.objects[i].fields.length≤140737488355328:=by
    have:=Jr hb.2.2.2.2.2.2.2.2.2 t.objects[i] (List.getElem_mem h2)
    simp only[qM,fu,gQ,List.length_map,LIM,and_true] at this
    omega
   have hw':=wrap64 (n:=(j:Int)+1) (by omega) (by omega)
   have hjj' : p=max (max n (ay t.objects[i].rest+1)) (jI (t.objects[i].fields.take j)):=by rw[hJ'] at hjj; exact hjj
   by_cases h3:j<t.objects[i].fields.length
   ·simp[h2,h3]
    refine aj.ret (hf t.objects[i] (List.getElem_mem h2) t.objects[i].fields[j] (List.getElem_mem h3) p) ?_
    simp[hw']
    refine⟨h3,max p (ay t.objects[i].fields[j]+1),?_,rfl⟩
    rw[hJ']
    show _=max _ (jI _)
    rw[ab3 h3,hjj']
    omega
   ·have hp:p=max (max n (ay t.objects[i].rest+1)) (jI t.objects[i].fields):=by rw[hjj',List.take_of_length_le (by omega)]
    simp[h2,h3,hw]
    refine⟨p,?_,rfl⟩
    rw[hJ]
    show _=max _ (jd _)
    rw[acr h2,hp,hj']
    omega
  ·have hn:n=H:=by rw[hj',List.take_of_length_le (by omega),hd,hm]
   simp[h2,hn]
theorem ag1 (t:Ty) (ht:ay t<2 ^ 62):Ret prog M.vW [.agg (cT t)] (.int .i64 (ay t:Nat)):=by
 induction hn:SizeOf.sizeOf t using Nat.strongRecOn generalizing t with
 | _ n ih =>
   subst hn
   have hd:=aa8 t
   refine aEs t ht (fun a ha h=>?_) (fun o ho h=>?_) fun o ho x hx h=>?_
   ·have:=ajM ha
    have h2:ay a.item<2 ^ 62:=by omega
    exact afx h a.item h2 (ih _ (yc ha) a.item h2 rfl)
   ·have:=(XU ho).1
    have h2:ay o.rest<2 ^ 62:=by omega
    exact afx h o.rest h2 (ih _ (uQ ho) o.rest h2 rfl)
   ·have h3:=(XU ho).2
    have h4:=akH hx
    have h2:ay x<2 ^ 62:=by omega
    exact afx h x h2 (ih _ (uh ho hx) x h2 rfl)
end Go.Proofs.YtfilonnphgnplaaGreatDoor.Pv
set_option maxRecDepth 100000
namespace Go.Proofs.YtfilonnphgnplaaGreatDoor.Pv
open Go Go.Tidy
theorem auH {α:Type} {p:α→Bool}:∀ {l:List α} {k:Nat} (hk:k<l.length),iG (fun x=>!p x) l k→p l[k]=true→l.find? p=some l[k]
 | a::l,0,_,_,h=>by simp at h; simp[h]
 | a::l,k+1,hk,ha,h=>by
   have h0:p a=false:=by have:=ha 0 (by simp) (by omega); rw[Bool.not_eq_true'] at this; exact this
   have:=auH (l:=l) (k:=k) (by simpa using hk) (fun j hj hlt=>ha (j+1) (by simpa using hj) (by omega)) (by simpa using h)
   simp only[List.find?_cons,h0,this,List.getElem_cons_succ]
theorem aLV {α:Type} {p:α→Bool} {l:List α} {k:Nat} (ha:iG (fun x=>!p x) l k) (hk:¬ k<l.length):l.find? p=none:=by
 have:=ha.all hk
 simpa[List.all_eq_true] using this
theorem acn (o:Ob) (n:S) (h1:o.names.length=o.fields.length) (h2:o.names.length=o.must.length):Ret prog M.JV [.agg (cO o),.str n] (.tup [.agg (cT (bg o n).1),.bool (bg o n).2]):=by
 refine Ret.go ah av8 (by simp) fun hb w0 F0 hG=>?_
 simp only[fu,gQ,List.length_map,LIM,and_true] at hb
 have hf:bg o n=(match (o.names.zip (o.fields.zip o.must)).find? (fun p=>sEq p.1 n) with|some p=>p.2|none=>(o.rest,false)):=rfl
 generalize bg o n=R at *
 simp
 intro v1 v2
 obtain⟨J,hJ⟩ : ∃ J:Nat→Unit→Prop,J=fun k _=>iG (fun p:S × Ty × Bool=>!sEq p.1 n) (o.names.zip (o.fields.zip o.must)) k:=⟨_,rfl⟩
 refine aU.cnt ah o.names.length (fun k _=>⟨[(6,.int .i64 k),(1,.str n),(2,.ptr (2,v1) 12 0 0),(4,.ptr (4,v2) 9 0 0)],[((2,v1),some ⟨12,[cO o],false,true⟩),((4,v2),some ⟨9,[cT d9],false,true⟩)]⟩) J () (by rw[hJ]; exact .zero) (by simp[d9,Ty.all,Ty.null,Ty.fls,Ty.tru,Ty.nums,Ty.any,Ty.texts,Ty.arrays,Ty.objects]) fun k _ hk hj=>?_
 have hw:=wrap64 (n:=(k:Int)+1) (by omega) (by omega)
 have hj' : iG (fun p:S × Ty × Bool=>!sEq p.1 n) (o.names.zip (o.fields.zip o.must)) k:=by rw[hJ] at hj; exact hj
 by_cases g1:k<o.names.length
 ·have g2:k<o.fields.length:=by omega
  have g3:k<o.must.length:=by omega
  have g4:k<(o.names.zip (o.fields.zip o.must)).length:=by simp; omega
  have hz:(o.names.zip (o.fields.zip o.must))[k]=(o.names[k],o.fields[k],o.must[k]):=by simp
  cases e1:sEq o.names[k] n
  ·simp[g1,e1,hw]
   exact⟨(),by rw[hJ]; exact hj'.step g4 (by rw[hz]; simp[e1])⟩
  ·have hR:R=(o.fields[k],o.must[k]):=by
      rw[hf,auH g4 hj' (by rw[hz]; exact e1),hz]
   simp[g1,g2,g3,e1,hR]
 ·have hR:R=(o.rest,false):=by rw[hf,aLV hj' (by simp; omega)]
  simp[g1,hR]
theorem aDa (l:List S) (s:S):Ret prog M.afv [.vec 1 false (l.map encStr),.str s] (.bool (l.any fun u=>sEq u s)):=by
 refine Ret.go ah aEh (by simp) fun hb w0 F0 hG=>?_
 simp only[fu,gQ,List.length_map,LIM,and_true] at hb
 generalize hB:(l.any fun u=>sEq u s)=B
 obtain⟨J,hJ⟩ : ∃ J:Nat→Unit→Prop,J=fun k _=>iG (fun u=>!sEq u s) l k:=⟨_,rfl⟩
 simp
 refine aU.cnt ah l.length (fun k _=>⟨[(5,.int .i64 k),(1,.str s),(0,.vec 1 false (l.map encStr))],[]⟩) J () (by rw[hJ]; exact .zero) (by simp) fun k _ hk hj=>?_
 have hw:=wrap64 (n:=(k:Int)+1) (by omega) (by omega)
 have hj' : iG (fun u=>!sEq u s) l k:=by rw[hJ] at hj; exact hj
 by_cases g1:k<l.length
 ·cases e1:sEq l[k] s
  ·simp[g1,e1,hw]
   exact⟨(),by rw[hJ]; exact hj'.step g1 (by simp[e1])⟩
  ·have:B=true:=by rw[← hB,List.any_eq_true]; exact⟨l[k],List.getElem_mem g1,e1⟩
   simp[g1,e1,this]
 ·have:B=false:=by
     rw[← hB,List.any_eq_false]
     have:=hj'.all g1
     simpa[List.all_eq_true] using this
  simp[g1,this]
theorem ash (s:Span) (h1:gu s.low=true) (h2:gu s.high=true):Ret prog M.aaP [.agg (dH s)] (.bool (abB s)):=by
 refine Ret.go ah as4 (by simp) fun hb w0 F0 hG=>?_
 unfold abB
 cases e1:fU s.low
 ·cases e2:fU s.high
  ·simp[e1,e2]
   intro v
   refine aj.ret (pz _ _ (gy h1 e1) (gy h2 e2)) ?_
   cases fQ s.low s.high<;>simp[dX]
  ·simp[e1,e2]
 ·simp[e1]
end Go.Proofs.YtfilonnphgnplaaGreatDoor.Pv
set_option maxRecDepth 100000
namespace Go.Proofs.YtfilonnphgnplaaGreatDoor.Pv
open Go Go.Tidy
theorem aB4 (a b:Span) (a1:gu a.low=true) (a2:gu a.high=true) (b1:gu b.low=true) (b2:gu b.high=true):Ret prog M.aee [.agg (dH a),.agg (dH b)] (.bool (Zk a b)):=by
 refine Ret.go ah aC3 (by simp) fun hb w0 F0 hG=>?_
 unfold Zk
 simp
 intro v1 v2
 refine aj.ret (ash a a1 a2) ?_
 cases e0:abB a
 ·cases e1:fU b.low
  ·cases e2:fU a.low
   ·simp[e1,e2]
    refine aj.ret (pz _ _ (gy a1 e2) (gy b1 e1)) ?_
    cases fQ a.low b.low
    ·simp[dX]
    ·simp[dX]
     cases e3:fU b.high
     ·cases e4:fU a.high
      ·simp[e3,e4]
       refine aj.ret (pz _ _ (gy a2 e4) (gy b2 e3)) ?_
       cases fQ a.high b.high<;>simp[dX]
      ·simp[e3,e4]
     ·simp[e3]
    ·simp[dX]
     cases e3:fU b.high
     ·cases e4:fU a.high
      ·simp[e3,e4]
       refine aj.ret (pz _ _ (gy a2 e4) (gy b2 e3)) ?_
       cases fQ a.high b.high<;>simp[dX]
      ·simp[e3,e4]
     ·simp[e3]
   ·simp[e1,e2]
  ·simp[e1]
   cases e3:fU b.high
   ·cases e4:fU a.high
    ·simp[e3,e4]
     refine aj.ret (pz _ _ (gy a2 e4) (gy b2 e3)) ?_
     cases fQ a.high b.high<;>simp[dX]
    ·simp[e3,e4]
   ·simp[e3]
 ·simp
theorem akp (t:Ty):Ret prog M.Zl [.agg (cT t)] (.agg (cT (yU t))):=by
 refine Ret.go ah aBX (by simp) fun hb w0 F0 hG=>?_
 unfold yU
 cases e:t.all
 ·simp[e]
 ·simp[e]
  refine⟨rfl,rfl,rfl,rfl,rfl,rfl,rfl,?_,?_⟩<;>simp[laidAll,dn,Ty.all,Ty.null,Ty.fls,Ty.tru,Ty.nums,Ty.any,Ty.texts,Ty.arrays,Ty.objects,Arr.item,Arr.min,Arr.max,Ob.names,Ob.fields,Ob.must,Ob.rest]
theorem ayk (a b:Ty):Ret prog M.acV [.agg (cT a),.agg (cT b)] (.bool (textsIn a b)):=by
 refine Ret.go ah ayb (by simp) fun hb w0 F0 hG=>?_
 simp only[fu,gQ,List.length_map,LIM,and_true] at hb
 unfold textsIn
 cases e1:b.any
 ·cases e2:a.any
  ·simp[e1,e2]
   intro v1 v2
   generalize hB:(a.texts.all fun s=>b.texts.any fun u=>sEq u s)=B
   obtain⟨J,hJ⟩ : ∃ J:Nat→Unit→Prop,J=fun k _=>iG (fun s=>b.texts.any fun u=>sEq u s) a.texts k:=⟨_,rfl⟩
   refine aU.cnt ah a.texts.length (fun k _=>⟨[(5,.int .i64 k),(2,.ptr (2,v1) 9 0 0),(3,.ptr (3,v2) 9 0 0)],[((3,v2),some ⟨9,[cT b],false,true⟩),((2,v1),some ⟨9,[cT a],false,true⟩)]⟩) J () (by rw[hJ]; exact .zero) (by simp[e1,e2]) fun k _ hk hj=>?_
   have hw:=wrap64 (n:=(k:Int)+1) (by omega) (by omega)
   have hj' : iG (fun s=>b.texts.any fun u=>sEq u s) a.texts k:=by rw[hJ] at hj; exact hj
   by_cases g1:k<a.texts.length
   ·simp[g1]
    intros
    refine aH.ret (aDa b.texts a.texts[k]) ?_
    cases e3:(b.texts.any fun u=>sEq u a.texts[k])
    ·have:B=false:=hB ▸ uY g1 e3
     simp[this]
    ·simp[g1,hw]
     exact⟨(),by rw[hJ]; exact hj'.step g1 e3⟩
   ·have:B=true:=hB ▸ hj'.all g1
    simp[g1,this]
  ·simp[e1,e2]
 ·simp[e1]
end Go.Proofs.YtfilonnphgnplaaGreatDoor.Pv
set_option maxRecDepth 100000
namespace Go.Proofs.YtfilonnphgnplaaGreatDoor.Pv
open Go Go.Tidy
theorem avx {α:Type} (f:α→List PV) (l:List α) (k:Nat) (h:k<l.length):((l.map f).take k).take k++[f l[k]]=(l.map f).take (k+1):=by
 rw[List.take_take,Nat.min_self,List.take_succ_eq_append_getElem (by simpa using h)]
 simp
theorem aqb {α:Type} (f:α→List PV) (p:List (List PV)) (l:List α) (k n:Nat) (hn:n=p.length+k) (h:k<l.length):(p++(l.map f).take k).take n++[f l[k]]=p++(l.map f).take (k+1):=by
 subst hn
 rw[List.take_of_length_le (by simp; omega),List.append_assoc,← avx f l k h,List.take_take,Nat.min_self]
set_option maxHeartbeats 1000000 in
theorem ayE (a b:Ob) (h:a.names.length+b.names.length≤68719476736):iQ prog M.acP [.agg (cO a),.agg (cO b)] 1 ((a.names++b.names).map encStr):=by
 refine iQ.go ah avV (by simp) fun hb w0 F0 hG=>?_
 simp only[fu,gQ,List.length_map,LIM,and_true] at hb
 simp
 intro v1 v2 v3
 obtain⟨J,hJ⟩ : ∃ J:Nat→Nat × Nat→Prop,J=fun _ g=>g.1=8∨g.1=23:=⟨_,rfl⟩
 refine aU.cnt ah a.names.length (fun k g=>⟨[(6,.int .i64 k),(5,.own g 1 0 k false),(2,.ptr (2,v1) 12 0 0),(3,.ptr (3,v2) 12 0 0)],[(g,some ⟨1,(a.names.map encStr).take k,false,false⟩),((3,v2),some ⟨12,[cO b],false,true⟩),((2,v1),some ⟨12,[cO a],false,true⟩)]⟩) J (8,v3) (by simp[hJ]) (by simp) fun k g hk hj=>?_
 have hw:=wrap64 (n:=(k:Int)+1) (by omega) (by omega)
 have hj' : g.1=8∨g.1=23:=by rw[hJ] at hj; exact hj
 obtain⟨x,y⟩:=g
 by_cases h1:k<a.names.length
 ·have e:=avx encStr a.names k h1
  simp only[encStr] at e
  rcases hj' with rfl|rfl
  ·simp[h1,hw]
   intro v v'
   refine⟨by omega,23,v',by rw[hJ]; exact .inr rfl,⟨rfl,rfl⟩,?_⟩
   simp only[e]
   simp[aK]
  ·simp[h1,hw]
   intro v v'
   refine⟨by omega,23,v',by rw[hJ]; exact .inr rfl,⟨rfl,rfl⟩,?_⟩
   simp only[e]
   simp[aK]
 ·have hkn:k=a.names.length:=by omega
  subst hkn
  obtain⟨J',hJ'⟩ : ∃ J:Nat→Nat × Nat→Prop,J=fun _ g=>g.1=8∨g.1=23∨g.1=38:=⟨_,rfl⟩
  rcases hj' with rfl|rfl
  ·simp
   have e0:(a.names.map encStr).take a.names.length=a.names.map encStr:=List.take_of_length_le (by simp)
   refine aU.cnt ah b.names.length (fun k g=>⟨[(7,.int .i64 k),(5,.own g 1 0 (a.names.length+k) false),(2,.ptr (2,v1) 12 0 0),(3,.ptr (3,v2) 12 0 0)],[(g,some ⟨1,a.names.map encStr++(b.names.map encStr).take k,false,false⟩),((3,v2),some ⟨12,[cO b],false,true⟩),((2,v1),some ⟨12,[cO a],false,true⟩)]⟩) J' (8,y) (by simp[hJ']) (by simp[aK,e0]) fun k g hk hj=>?_
   have hw2:=wrap64 (n:=(k:Int)+1) (by omega) (by omega)
   have hj2:g.1=8∨g.1=23∨g.1=38:=by rw[hJ'] at hj; exact hj
   obtain⟨x,y⟩:=g
   by_cases h2:k<b.names.length
   ·have e2:=aqb encStr (a.names.map encStr) b.names k (a.names.length+k) (by simp) h2
    simp only[encStr] at e2
    rcases hj2 with rfl|rfl|rfl
    ·simp[h2,hw2]
     intro v v'
     refine⟨by omega,38,v',by rw[hJ']; exact .inr (.inr rfl),⟨⟨rfl,rfl⟩,by omega⟩,?_⟩
     simp only[e2]
     simp[aK]
    ·simp[h2,hw2]
     intro v v'
     refine⟨by omega,38,v',by rw[hJ']; exact .inr (.inr rfl),⟨⟨rfl,rfl⟩,by omega⟩,?_⟩
     simp only[e2]
     simp[aK]
    ·simp[h2,hw2]
     intro v v'
     refine⟨by omega,38,v',by rw[hJ']; exact .inr (.inr rfl),⟨⟨rfl,rfl⟩,by omega⟩,?_⟩
     simp only[e2]
     simp[aK]
   ·have hkn:k=b.names.length:=by omega
    subst hkn
    have e4:(a.names.map encStr++b.names.map encStr).take (a.names.length+b.names.length)=a.names.map encStr++b.names.map encStr:=List.take_of_length_le (by simp)
    have e3:(b.names.map encStr).take b.names.length=b.names.map encStr:=List.take_of_length_le (by simp)
    rcases hj2 with rfl|rfl|rfl
    ·simp[e3,e4]
    ·simp[e3,e4]
    ·simp[e3,e4]
  ·simp
   have e0:(a.names.map encStr).take a.names.length=a.names.map encStr:=List.take_of_length_le (by simp)
   refine aU.cnt ah b.names.length (fun k g=>⟨[(7,.int .i64 k),(5,.own g 1 0 (a.names.length+k) false),(2,.ptr (2,v1) 12 0 0),(3,.ptr (3,v2) 12 0 0)],[(g,some ⟨1,a.names.map encStr++(b.names.map encStr).take k,false,false⟩),((3,v2),some ⟨12,[cO b],false,true⟩),((2,v1),some ⟨12,[cO a],false,true⟩)]⟩) J' (23,y) (by simp[hJ']) (by simp[aK,e0]) fun k g hk hj=>?_
   have hw2:=wrap64 (n:=(k:Int)+1) (by omega) (by omega)
   have hj2:g.1=8∨g.1=23∨g.1=38:=by rw[hJ'] at hj; exact hj
   obtain⟨x,y⟩:=g
   by_cases h2:k<b.names.length
   ·have e2:=aqb encStr (a.names.map encStr) b.names k (a.names.length+k) (by simp) h2
    simp only[encStr] at e2
    rcases hj2 with rfl|rfl|rfl
    ·simp[h2,hw2]
     intro v v'
     refine⟨by omega,38,v',by rw[hJ']; exact .inr (.inr rfl),⟨⟨rfl,rfl⟩,by omega⟩,?_⟩
     simp only[e2]
     simp[aK]
    ·simp[h2,hw2]
     intro v v'
     refine⟨by omega,38,v',by rw[hJ']; exact .inr (.inr rfl),⟨⟨rfl,rfl⟩,by omega⟩,?_⟩
     simp only[e2]
     simp[aK]
    ·simp[h2,hw2]
     intro v v'
     refine⟨by omega,38,v',by rw[hJ']; exact .inr (.inr rfl),⟨⟨rfl,rfl⟩,by omega⟩,?_⟩
     simp only[e2]
     simp[aK]
   ·have hkn:k=b.names.length:=by omega
    subst hkn
    have e4:(a.names.map encStr++b.names.map encStr).take (a.names.length+b.names.length)=a.names.map encStr++b.names.map encStr:=List.take_of_length_le (by simp)
    have e3:(b.names.map encStr).take b.names.length=b.names.map encStr:=List.take_of_length_le (by simp)
    rcases hj2 with rfl|rfl|rfl
    ·simp[e3,e4]
    ·simp[e3,e4]
    ·simp[e3,e4]
end Go.Proofs.YtfilonnphgnplaaGreatDoor.Pv
set_option maxRecDepth 100000
namespace Go.Proofs.YtfilonnphgnplaaGreatDoor.Pv
open Go Go.Tidy
def apy (a b:Arr):Bool:=!(decide (b.min > a.min)||(decide (0≤b.max)&&(decide (a.max<0)||decide (a.max > b.max))))&&(decide (a.max=0)||nU b.item a.item)
def Au (a b:List Arr):Bool:=a.isEmpty||(match b,a with|y::_,z::_=>apy z y|_,_=>false)
set_option maxHeartbeats 4000000 in
theorem aAx (a b:Ty) (ih:∀ x∈a.arrays,∀ y∈b.arrays,Ret prog M.mq [.agg (cT x.item),.agg (cT y.item)] (.bool (nU y.item x.item))):Ret prog M.aat [.agg (cT a),.agg (cT b)] (.bool (Au a.arrays b.arrays)):=by
 refine Ret.go ah auv (by simp) fun hb w0 F0 hG=>?_
 have hb0:=hb
 clear hb0
 generalize hA:a.arrays=la at *
 generalize hB:b.arrays=lb at *
 cases la with
 | nil=>simp[Au,hA]
 | cons x la =>
   have na:¬ ((la.length:Int)+1=0):=by omega
   cases lb with
   | nil=>simp[Au,hA,hB,na]
   | cons y lb =>
     have nb:¬ ((lb.length:Int)+1=0):=by omega
     have ih':=ih x (by simp) y (by simp)
     simp only[Au,List.isEmpty_cons,Bool.false_or,apy]
     by_cases g1:x.min<y.min
     ·simp[hA,hB,na,nb,g1]
     by_cases g2:0≤y.max
     ·by_cases g3:x.max<0
      ·simp[hA,hB,na,nb,g1,g2,g3]
      by_cases g4:y.max<x.max
      ·simp[hA,hB,na,nb,g1,g2,g3,g4]
      by_cases g5:x.max=0
      ·simp[hA,hB,na,nb,g1,g2,g3,g4,g5]
      ·simp[hA,hB,na,nb,g1,g2,g3,g4,g5]
       intros
       refine aj.ret ih' ?_
       simp[g5]
     ·by_cases g5:x.max=0
      ·simp[hA,hB,na,nb,g1,g2,g5]
      ·simp[hA,hB,na,nb,g1,g2,g5]
       intros
       refine aj.ret ih' ?_
       simp[g5]
set_option maxHeartbeats 4000000 in
theorem axp (a b:Ty) (ih:∀ x∈a.objects,∀ y∈b.objects,Ret prog M.YX [.agg (cO x),.agg (cO y)] (.bool (qC y x))):Ret prog M.YC [.agg (cT a),.agg (cT b)] (.bool (a.objects.all fun x=>b.objects.any fun y=>qC y x)):=by
 refine Ret.go ah aqe (by simp) fun hb w0 F0 hG=>?_
 simp only[fu,gQ,List.length_map,LIM,and_true] at hb
 generalize hB:(a.objects.all fun x=>b.objects.any fun y=>qC y x)=B
 simp
 intro v1 v2
 obtain⟨J,hJ⟩ : ∃ J:Nat→Unit→Prop,J=fun k _=>iG (fun x=>b.objects.any fun y=>qC y x) a.objects k:=⟨_,rfl⟩
 refine aU.cnt ah a.objects.length (fun k _=>⟨[(5,.int .i64 k),(2,.ptr (2,v1) 9 0 0),(3,.ptr (3,v2) 9 0 0)],[((3,v2),some ⟨9,[cT b],false,true⟩),((2,v1),some ⟨9,[cT a],false,true⟩)]⟩) J () (by rw[hJ]; exact .zero) (by simp) fun k _ hk hj=>?_
 have hw:=wrap64 (n:=(k:Int)+1) (by omega) (by omega)
 have hj' : iG (fun x=>b.objects.any fun y=>qC y x) a.objects k:=by rw[hJ] at hj; exact hj
 by_cases g1:k<a.objects.length
 ·simp[g1]
  obtain⟨J',hJ'⟩ : ∃ J:Nat→Bool→Prop,J=fun j p=>p=(b.objects.take j).any fun y=>qC y a.objects[k]:=⟨_,rfl⟩
  refine aU.cnt ah b.objects.length (fun j p=>⟨[(7,.int .i64 j),(6,.bool p),(5,.int .i64 k),(2,.ptr (2,v1) 9 0 0),(3,.ptr (3,v2) 9 0 0)],[((3,v2),some ⟨9,[cT b],false,true⟩),((2,v1),some ⟨9,[cT a],false,true⟩)]⟩) J' false (by simp[hJ']) (by simp) fun j p hj0 hjj=>?_
  have hw':=wrap64 (n:=(j:Int)+1) (by omega) (by omega)
  have hjj' : p=(b.objects.take j).any fun y=>qC y a.objects[k]:=by rw[hJ'] at hjj; exact hjj
  by_cases g2:j<b.objects.length
  ·have hs:((b.objects.take (j+1)).any fun y=>qC y a.objects[k])=(p||qC b.objects[j] a.objects[k]):=by
      rw[List.take_succ_eq_append_getElem g2,List.any_append,hjj']; simp
   simp[g2]
   refine bQ.one ah ⟨[(7,.int .i64 j),(6,.bool (p||qC b.objects[j] a.objects[k])),(5,.int .i64 k),(2,.ptr (2,v1) 9 0 0),(3,.ptr (3,v2) 9 0 0)],[((3,v2),some ⟨9,[cT b],false,true⟩),((2,v1),some ⟨9,[cT a],false,true⟩)]⟩ ?_ ?_
   ·simp[g1,g2]
    intros
    refine aH.ret (ih a.objects[k] (List.getElem_mem g1) b.objects[j] (List.getElem_mem g2)) ?_
    cases qC b.objects[j] a.objects[k]<;>simp
   ·simp[hw',g2]
    rw[hJ']
    exact hs.symm
  ·have hp:p=b.objects.any fun y=>qC y a.objects[k]:=by rw[hjj',List.take_of_length_le (by omega)]
   cases hq:(b.objects.any fun y=>qC y a.objects[k])<;>rw[hq] at hp<;>subst hp
   ·have:B=false:=hB ▸ uY g1 hq
    simp[g2,this]
   ·simp[g2,hw,g1]
    exact⟨(),by rw[hJ]; exact hj'.step g1 hq⟩
 ·have:B=true:=hB ▸ hj'.all g1
  simp[g1,this]
end Go.Proofs.YtfilonnphgnplaaGreatDoor.Pv
set_option maxRecDepth 100000
namespace Go.Proofs.YtfilonnphgnplaaGreatDoor.Pv
open Go Go.Tidy
theorem alb (l:List Ty):abd l=l.map fun t=>(fun x=>nU t x):=by
 induction l with
 | nil=>simp[abd]
 | cons a l ih=>simp[abd,ih]
theorem aAd {α β γ δ:Type} (f:β→δ):∀ (l:List α) (m:List β) (k:List γ),l.zip ((m.map f).zip k)=(l.zip (m.zip k)).map fun p=>(p.1,f p.2.1,p.2.2)
 | [],_,_=>by simp
 | _::_,[],_=>by simp
 | _::_,_::_,[]=>by simp
 | a::l,b::m,c::k=>by simp[aAd f l m k]
def yj (y x:Ob) (n:S):Bool:=(!(bg y n).2||(bg x n).2)&&nU (bg y n).1 (bg x n).1
theorem aok (y x:Ob):qC y x=((x.names++y.names).all (yj y x)&&nU y.rest x.rest):=by
 obtain⟨ns,fs,ms,r⟩:=y
 simp only[qC,Ob.names,Ob.rest]
 congr 1
 congr 1
 funext n
 rw[alb,aAd,List.find?_map]
 simp only[yj,bg,Ob.names,Ob.fields,Ob.must,Ob.rest]
 have e:((fun p:S × (Ty→Bool) × Bool=>sEq p.1 n)∘fun p:S × Ty × Bool=>(p.1,(fun x=>nU p.2.1 x),p.2.2))=fun p=>sEq p.1 n:=rfl
 rw[e]
 cases (ns.zip (fs.zip ms)).find? (fun p=>sEq p.1 n)<;>simp
set_option maxHeartbeats 4000000 in
theorem aGp (x y:Ob) (hl:x.names.length+y.names.length≤68719476736) (x1:x.names.length=x.fields.length) (x2:x.names.length=x.must.length) (y1:y.names.length=y.fields.length) (y2:y.names.length=y.must.length)
 (ih:∀ n,Ret prog M.mq [.agg (cT (bg x n).1),.agg (cT (bg y n).1)] (.bool (nU (bg y n).1 (bg x n).1))) (ihr:Ret prog M.mq [.agg (cT x.rest),.agg (cT y.rest)] (.bool (nU y.rest x.rest))) :
 Ret prog M.YX [.agg (cO x),.agg (cO y)] (.bool (qC y x)):=by
 refine Ret.go ah aBw (by simp) fun hb w0 F0 hG=>?_
 simp only[fu,gQ,List.length_map,LIM,and_true] at hb
 rw[aok]
 have hnm:=ayE x y hl
 have hlN:(x.names++y.names).length≤68719476736:=by simpa using hl
 generalize x.names++y.names=N at *
 generalize hB:N.all (yj y x)=B
 simp
 intro v1 v2
 refine aj.ru hnm ?_
 intro v3 _
 simp
 obtain⟨J,hJ⟩ : ∃ J:Nat→Unit→Prop,J=fun k _=>iG (yj y x) N k:=⟨_,rfl⟩
 refine aU.cnt ah N.length (fun k _=>⟨[(6,.int .i64 k),(5,.own (13,v3) 1 0 N.length false),(2,.ptr (2,v1) 12 0 0),(3,.ptr (3,v2) 12 0 0)],[((13,v3),some ⟨1,N.map encStr,false,false⟩),((3,v2),some ⟨12,[cO y],false,true⟩),((2,v1),some ⟨12,[cO x],false,true⟩)]⟩) J () (by rw[hJ]; exact .zero) (by simp[aK]) fun k _ hk hj=>?_
 have hw:=wrap64 (n:=(k:Int)+1) (by omega) (by omega)
 have hj' : iG (yj y x) N k:=by rw[hJ] at hj; exact hj
 by_cases g1:k<N.length
 ·simp[g1]
  intros
  refine aH.ret (acn x N[k] x1 x2) ?_
  simp[g1]
  intros
  refine aH.ret (acn y N[k] y1 y2) ?_
  have hs:yj y x N[k]=((!(bg y N[k]).2||(bg x N[k]).2)&&nU (bg y N[k]).1 (bg x N[k]).1):=rfl
  have ih':=ih N[k]
  generalize bg y N[k]=fy at *
  generalize bg x N[k]=fx at *
  obtain⟨ty,my⟩:=fy
  obtain⟨tx,mx⟩:=fx
  simp only at hs ih' ⊢
  have no:yj y x N[k]=false→B=false:=fun h=>hB ▸ uY g1 h
  cases my
  ·simp
   refine aj.ret ih' ?_
   cases hbt:nU ty tx<;>rw[hbt] at hs
   ·simp[no (by rw[hs]; simp)]
   ·simp[hw,aK]
    exact⟨g1,(),by rw[hJ]; exact hj'.step g1 (by rw[hs]; simp)⟩
  ·cases mx
   ·simp[no (by rw[hs]; simp)]
   ·simp
    refine aj.ret ih' ?_
    cases hbt:nU ty tx<;>rw[hbt] at hs
    ·simp[no (by rw[hs]; simp)]
    ·simp[hw,aK]
     exact⟨g1,(),by rw[hJ]; exact hj'.step g1 (by rw[hs]; simp)⟩
 ·have:N.all (yj y x)=true:=hj'.all g1
  simp[g1]
  intros
  refine aj.ret ihr ?_
  rw[hB] at this
  simp[this]
end Go.Proofs.YtfilonnphgnplaaGreatDoor.Pv
set_option maxRecDepth 100000
namespace Go.Proofs.YtfilonnphgnplaaGreatDoor.Pv
open Go Go.Tidy
theorem aH9 (l:List Ob) (x:Ob):alm l x=l.any fun y=>qC y x:=by
 induction l with
 | nil=>simp[alm]
 | cons a l ih=>simp[alm,ih]
theorem aJe (y x:Arr):aJC y x=apy x y:=by
 obtain⟨t,lo,hi⟩:=y
 obtain⟨t',lo',hi'⟩:=x
 simp only[aJC,apy,Arr.min,Arr.max,Arr.item]
 rfl
def Yu (a b:List Span):Bool:=a.isEmpty||(match b,a with|n::_,m::_=>Zk m n|_,_=>false)
theorem azN (y x:Ty):nU y x=(never x||y.all||((!(yU x).null||y.null)&&(!(yU x).fls||y.fls)&&(!(yU x).tru||y.tru)&&Yu (yU x).nums y.nums&&textsIn (yU x) y&&Au (yU x).arrays y.arrays&&(yU x).objects.all fun o=>y.objects.any fun p=>qC p o)):=by
 obtain⟨a,b,c,d,ns,e,ts,az,os⟩:=y
 simp only[nU]
 generalize yU x=z
 obtain⟨a',b',c',d',ns',e',ts',az',os'⟩:=z
 have h1:(os'.all (alm os))=(os'.all fun o=>os.any fun p=>qC p o):=by
  congr 1; funext o; exact aH9 os o
 simp only[Yu,Au,Ty.all,Ty.null,Ty.fls,Ty.tru,Ty.nums,Ty.arrays,Ty.objects,h1]
 cases az<;>cases az'<;>simp[aJe]<;>rfl
end Go.Proofs.YtfilonnphgnplaaGreatDoor.Pv
set_option maxRecDepth 100000
namespace Go.Proofs.YtfilonnphgnplaaGreatDoor.Pv
open Go Go.Tidy
def l6 (t:Ty):Prop:=ak t=true∧nmT 34359738368 t=true
theorem l6.item {t:Ty} (h:l6 t) {a:Arr} (ha:a∈t.arrays):l6 a.item:=by
 have h2:=h.2
 rw[alH,Bool.and_eq_true] at h2
 exact⟨(gY ((cu h.1).2.2.2.2.2.2.1 a ha)).2.2.2.1,aJA h2.1 ha⟩
theorem l6.rest {t:Ty} (h:l6 t) {o:Ob} (ho:o∈t.objects):l6 o.rest:=by
 have h2:=h.2
 rw[alH,Bool.and_eq_true] at h2
 exact⟨(dz ((cu h.1).2.2.2.2.2.2.2 o ho)).2.2.2.1,(aou h2.2 ho).2.2⟩
theorem l6.field {t:Ty} (h:l6 t) {o:Ob} (ho:o∈t.objects) {f:Ty} (hf:f∈o.fields):l6 f:=by
 have h2:=h.2
 rw[alH,Bool.and_eq_true] at h2
 exact⟨(dz ((cu h.1).2.2.2.2.2.2.2 o ho)).2.2.2.2.1 f hf,(aou h2.2 ho).2.1 f hf⟩
theorem l6.names {t:Ty} (h:l6 t) {o:Ob} (ho:o∈t.objects):o.names.length≤34359738368∧o.names.length=o.fields.length∧o.names.length=o.must.length:=by
 have h2:=h.2
 rw[alH,Bool.and_eq_true] at h2
 have:=dz ((cu h.1).2.2.2.2.2.2.2 o ho)
 exact⟨(aou h2.2 ho).1,this.1,this.2.1⟩
theorem afU:l6 laidAll:=by
 refine⟨?_,?_⟩
 ·simp[laidAll,dn,ak,Oq,Pz,iw,bf,O9,jh,jq,gu,fU,never,bare,Ty.all,Ty.null,Ty.fls,Ty.tru,Ty.nums,Ty.any,Ty.texts,Ty.arrays,Ty.objects]
 ·simp[laidAll,dn,nmT,aj6,ajB,ane]
theorem l6.laid {t:Ty} (h:l6 t):l6 (yU t):=by
 unfold yU
 split
 ·exact afU
 ·exact h
theorem ZL (o:Ob) (n:S):(bg o n).1∈o.fields∨(bg o n).1=o.rest:=by
 unfold bg
 split
 ·rename_i p hp
  have hm:=List.mem_of_find?_eq_some hp
  obtain⟨a,b,c⟩:=p
  have h2:=(List.of_mem_zip hm).2
  exact .inl (List.of_mem_zip h2).1
 ·exact .inr rfl
end Go.Proofs.YtfilonnphgnplaaGreatDoor.Pv
set_option maxRecDepth 100000
namespace Go.Proofs.YtfilonnphgnplaaGreatDoor.Pv
open Go Go.Tidy
set_option maxHeartbeats 4000000 in
theorem aGL (x y:Ty) (fx:l6 x) (fy:l6 y) (ih:∀ y' : Ty,SizeOf.sizeOf y' < SizeOf.sizeOf y→l6 y'→∀ x',l6 x'→Ret prog M.mq [.agg (cT x'),.agg (cT y')] (.bool (nU y' x'))):Ret prog M.mq [.agg (cT x),.agg (cT y)] (.bool (nU y x)):=by
 refine Ret.go ah aww (by simp) fun hb w0 F0 hG=>?_
 have hB:=azN y x
 generalize nU y x=B at *
 have r0:=akp x
 have fz:=fx.laid
 generalize yU x=z at *
 have r1:=ayk z y
 have r2:=aAx z y fun a ha b hb'=>ih b.item (yc hb') (fy.item hb') a.item (fz.item ha)
 have r3:=axp z y fun a ha b hb'=>by
  obtain⟨a1,a2,a3⟩:=fz.names ha
  obtain⟨b1,b2,b3⟩:=fy.names hb'
  refine aGp a b (by omega) a2 a3 b2 b3 (fun n=>?_) (ih b.rest (uQ hb') (fy.rest hb') a.rest (fz.rest ha))
  have fa:l6 (bg a n).1:=by
   rcases ZL a n with h|h
   ·exact fz.field ha h
   ·rw[h]; exact fz.rest ha
  rcases ZL b n with h|h
  ·exact ih _ (uh hb' h) (fy.field hb' h) _ fa
  ·rw[h]; exact ih _ (uQ hb') (fy.rest hb') _ fa
 simp
 intro v1 v2
 refine aj.ret (Uw x) ?_
 cases e1:never x
 ·cases e2:y.all
  ·simp[e2]
   refine aj.ret r0 ?_
   simp[-Za]
   intro v3
   refine⟨?_,?_,?_,?_,?_⟩
   ·cases z.null<;>cases y.null<;>simp
   ·cases z.null<;>cases y.null<;>simp
   ·cases z.null<;>cases y.null<;>cases z.fls<;>cases y.fls<;>simp
   ·cases z.null<;>cases y.null<;>cases z.fls<;>cases y.fls<;>simp
   rw[Za]
   refine⟨fun hc=>?_,fun hc=>?_⟩
   ·have:B=false:=by
       rw[hB,e1,e2]
       revert hc
       cases z.null<;>cases y.null<;>cases z.fls<;>cases y.fls<;>cases z.tru<;>cases y.tru<;>simp
    simp[this]
   ·have hB' : B=(Yu z.nums y.nums&&textsIn z y&&Au z.arrays y.arrays&&z.objects.all fun o=>y.objects.any fun p=>qC p o):=by
       rw[hB,e1,e2]
       revert hc
       cases z.null<;>cases y.null<;>cases z.fls<;>cases y.fls<;>cases z.tru<;>cases y.tru<;>simp
    clear hB hc
    have hz:=cu fz.1
    have hy:=cu fy.1
    cases hzn:z.nums with
    | nil =>
      have k:Yu z.nums y.nums=true:=by rw[hzn]; rfl
      rw[k] at hB'
      have hz0:z.nums.length=0:=by rw[hzn]; rfl
      simp[hz0]
      refine aj.ret r1 ?_
      cases p1:textsIn z y<;>rw[p1] at hB'
      ·simp[show B=false by rw[hB']; simp]
      simp
      refine aj.ret r2 ?_
      cases p2:Au z.arrays y.arrays<;>rw[p2] at hB'
      ·simp[show B=false by rw[hB']; simp]
      simp
      refine aj.ret r3 ?_
      rw[hB']
      simp
    | cons s l =>
      cases hyn:y.nums with
      | nil =>
        have k:Yu z.nums y.nums=false:=by rw[hzn,hyn]; rfl
        rw[k] at hB'
        simp[hzn,hyn,hB']
      | cons s' l' =>
        have k:Yu z.nums y.nums=Zk s s':=by rw[hzn,hyn]; rfl
        rw[k] at hB'
        have q1:=hz.2.2.2.2.1 s (by rw[hzn]; simp)
        have q2:=hy.2.2.2.2.1 s' (by rw[hyn]; simp)
        simp only[jq,Bool.and_eq_true] at q1 q2
        have n1:¬ ((l'.length:Int)+1=0):=by omega
        have n2:(0:Int)<(l.length:Int)+1:=by omega
        simp[hzn,hyn,n1,n2]
        intros
        refine aH.ret (aB4 s s' q1.1.1 q1.1.2 q2.1.1 q2.1.2) ?_
        cases hsp:Zk s s'<;>rw[hsp] at hB'
        ·simp[n1,show B=false by rw[hB']; simp]
        ·simp[n1]
         refine aj.ret r1 ?_
         cases p1:textsIn z y<;>rw[p1] at hB'
         ·simp[show B=false by rw[hB']; simp]
         simp
         refine aj.ret r2 ?_
         cases p2:Au z.arrays y.arrays<;>rw[p2] at hB'
         ·simp[show B=false by rw[hB']; simp]
         simp
         refine aj.ret r3 ?_
         rw[hB']
         simp
  ·simp[e2,hB]
 ·simp[hB,e1]
theorem aym (x y:Ty) (fx:l6 x) (fy:l6 y):Ret prog M.mq [.agg (cT x),.agg (cT y)] (.bool (nU y x)):=by
 induction hn:SizeOf.sizeOf y using Nat.strongRecOn generalizing x y with
 | _ n ih =>
   subst hn
   exact aGL x y fx fy fun y' h fy' x' fx'=>ih _ h x' y' fx' fy' rfl
end Go.Proofs.YtfilonnphgnplaaGreatDoor.Pv
set_option maxRecDepth 100000
namespace Go.Proofs.YtfilonnphgnplaaGreatDoor.Pv
open Go Go.Tidy
theorem aqy:ByteArray.empty=⟨#[]⟩:=rfl
theorem aEB (a b:S) (ha:gu a=true) (hb' : gu b=true):Ret prog M.afO [.str a,.str b] (.str (adT a b)):=by
 refine Ret.go ah aDR (by simp) fun hb w0 F0 hG=>?_
 unfold adT
 rw[aqy]
 cases e1:fU a
 ·cases e2:fU b
  ·simp[e1,e2]
   refine aj.ret (pz _ _ (gy ha e1) (gy hb' e2)) ?_
   cases fQ a b<;>simp[dX]
  ·simp[e1,e2]
 ·simp[e1]
theorem aA7 (a b:S) (ha:gu a=true) (hb' : gu b=true):Ret prog M.adN [.str a,.str b] (.str (ZM a b)):=by
 refine Ret.go ah azs (by simp) fun hb w0 F0 hG=>?_
 unfold ZM
 rw[aqy]
 cases e1:fU a
 ·cases e2:fU b
  ·simp[e1,e2]
   refine aj.ret (pz _ _ (gy ha e1) (gy hb' e2)) ?_
   cases fQ a b<;>simp[dX]
  ·simp[e1,e2]
 ·simp[e1]
end Go.Proofs.YtfilonnphgnplaaGreatDoor.Pv
set_option maxRecDepth 100000
namespace Go.Proofs.YtfilonnphgnplaaGreatDoor.Pv
open Go Go.Tidy
theorem aAD (l:List S):ig l []=l:=by cases l<;>simp[ig]
theorem anH (l:List S):ig [] l=l:=by simp[ig]
theorem aAG {a b:List S} {i j:Nat} (hi:i<a.length) (h:j<b.length→sLt a[i] (b[j]?.getD ⟨#[]⟩)=true):ig (a.drop i) (b.drop j)=a[i]::ig (a.drop (i+1)) (b.drop j):=by
 rw[List.drop_eq_getElem_cons hi]
 by_cases hj:j<b.length
 ·have h':=h hj
  rw[List.getElem?_eq_getElem hj,Option.getD_some] at h'
  rw[List.drop_eq_getElem_cons hj,ig,if_pos h']
 ·rw[List.drop_eq_nil_of_le (by omega:b.length≤j),aAD,aAD]
theorem aC9 {a b:List S} {i j:Nat} (hj:j<b.length) (h:i<a.length→sLt (a[i]?.getD ⟨#[]⟩) b[j]=false∧sLt b[j] (a[i]?.getD ⟨#[]⟩)=true):ig (a.drop i) (b.drop j)=b[j]::ig (a.drop i) (b.drop (j+1)):=by
 rw[List.drop_eq_getElem_cons hj]
 by_cases hi:i<a.length
 ·obtain⟨h1,h2⟩:=h hi
  rw[List.getElem?_eq_getElem hi] at h1 h2
  simp only[Option.getD_some] at h1 h2
  rw[List.drop_eq_getElem_cons hi,ig,if_neg (by simp[h1]),if_pos h2]
 ·rw[List.drop_eq_nil_of_le (by omega:a.length≤i),anH,anH]
theorem aH1 {a b:List S} {i j:Nat} (hi:i<a.length) (hj:j<b.length) (h1:sLt a[i] b[j]=false) (h2:sLt b[j] a[i]=false):ig (a.drop i) (b.drop j)=a[i]::ig (a.drop (i+1)) (b.drop (j+1)):=by
 rw[List.drop_eq_getElem_cons hi,List.drop_eq_getElem_cons hj,ig,if_neg (by simp[h1]),if_neg (by simp[h2])]
structure MW where
 i:Nat
 j:Nat
 acc:List S
theorem take_len {α β:Type} (f:α→β) (l:List α):(l.map f).take l.length=l.map f:=List.take_of_length_le (by simp)
attribute [simp] take_len
set_option maxHeartbeats 4000000 in
theorem aiA (a b:List S) (hl:a.length+b.length≤68719476736):iQ prog M.UJ [.vec 1 false (a.map encStr),.vec 1 false (b.map encStr)] 1 ((ig a b).map encStr):=by
 refine iQ.go ah awV (by simp) fun hb w0 F0 hG=>?_
 generalize hR:ig a b=R
 simp
 intro v0
 obtain⟨J,hJ⟩ : ∃ J:MW→Prop,J=fun s=>s.i≤a.length∧s.j≤b.length∧R=s.acc++ig (a.drop s.i) (b.drop s.j)∧s.acc.length≤s.i+s.j:=⟨_,rfl⟩
 refine aU.goR ah [(5,1,1005)] rfl (fun v (s:MW)=>⟨[(6,.int .i64 s.i),(7,.int .i64 s.j),(5,.own (1005,v) 1 0 s.acc.length false),(0,.vec 1 false (a.map encStr)),(1,.vec 1 false (b.map encStr))],[((1005,v),some ⟨1,s.acc.map encStr,false,false⟩)]⟩) J (fun s=>(a.length-s.i)+(b.length-s.j)) ⟨0,0,[]⟩ (by rw[hJ]; simp[hR]) (by simp) fun v s _ hj=>?_
 obtain⟨i,j,acc⟩:=s
 obtain⟨hi,hj1,hacc,hlen⟩ : i≤a.length∧j≤b.length∧R=acc++ig (a.drop i) (b.drop j)∧acc.length≤i+j:=by rw[hJ] at hj; exact hj
 have wi:=wrap64 (n:=(i:Int)+1) (by omega) (by omega)
 have wj:=wrap64 (n:=(j:Int)+1) (by omega) (by omega)
 by_cases hi' : i<a.length
 ·have ia' : ¬ (i:Int)=a.length:=by omega
  by_cases hjb:j<b.length
  ·have jb' : ¬ (j:Int)=b.length:=by omega
   cases s1:sLt a[i] b[j]
   ·cases s2:sLt b[j] a[i]
    ·have hm:=aH1 hi' hjb s1 s2
     simp[hi']
     refine bQ.go ah ?_
     simp[hi',hjb,ia',jb',s1,s2,wi,wj]
     refine bQ.go ah ?_
     simp[hi',hjb,ia',jb',s1,s2,wi,wj]
     intro v1
     exact⟨by omega,⟨i+1,j+1,acc++[a[i]]⟩,by rw[hJ]; exact⟨by simp<;>omega,by simp<;>omega,by simp only[hacc,hm]; simp,by simp<;>omega⟩,by simp<;>omega,fun v2=>by simp⟩
    ·have hm:=aC9 (a:=a) (b:=b) (i:=i) (j:=j) hjb (fun h=>by rw[List.getElem?_eq_getElem h]; exact⟨s1,s2⟩)
     simp[hi']
     refine bQ.go ah ?_
     simp[hi',hjb,ia',jb',s1,s2,wi,wj]
     refine bQ.go ah ?_
     simp[hi',hjb,ia',jb',s1,s2,wi,wj]
     intro v1
     exact⟨by omega,⟨i,j+1,acc++[b[j]]⟩,by rw[hJ]; exact⟨by simp<;>omega,by simp<;>omega,by simp only[hacc,hm]; simp,by simp<;>omega⟩,by simp<;>omega,fun v2=>by simp⟩
   ·have hm:=aAG (a:=a) (b:=b) (i:=i) (j:=j) hi' (fun h=>by rw[List.getElem?_eq_getElem h]; exact s1)
    simp[hi']
    refine bQ.go ah ?_
    simp[hi',hjb,ia',jb',s1,wi,wj]
    intro v1
    exact⟨by omega,⟨i+1,j,acc++[a[i]]⟩,by rw[hJ]; exact⟨by simp<;>omega,by simp<;>omega,by simp only[hacc,hm]; simp,by simp<;>omega⟩,by simp<;>omega,fun v2=>by simp⟩
  ·have je:j=b.length:=by omega
   subst je
   have hm:=aAG (a:=a) (b:=b) (i:=i) (j:=b.length) hi' (fun h=>absurd h hjb)
   simp[hi']
   refine bQ.go ah ?_
   simp[hi',wi]
   intro v1
   exact⟨by omega,⟨i+1,b.length,acc++[a[i]]⟩,by rw[hJ]; exact⟨by simp<;>omega,by simp<;>omega,by simp only[hacc,hm]; simp,by simp<;>omega⟩,by simp<;>omega,fun v2=>by simp⟩
 ·have ie:i=a.length:=by omega
  subst ie
  by_cases hjb:j<b.length
  ·have jb' : ¬ (j:Int)=b.length:=by omega
   have hm:=aC9 (a:=a) (b:=b) (i:=a.length) (j:=j) hjb (fun h=>absurd h hi')
   simp[hjb]
   refine bQ.go ah ?_
   simp[hjb,jb',wj]
   refine bQ.go ah ?_
   simp[hjb,jb',wj]
   intro v1
   exact⟨by omega,⟨a.length,j+1,acc++[b[j]]⟩,by rw[hJ]; exact⟨by simp<;>omega,by simp<;>omega,by simp only[hacc,hm]; simp,by simp<;>omega⟩,by simp<;>omega,fun v2=>by simp⟩
  ·have je:j=b.length:=by omega
   subst je
   have hR2:R=acc:=by rw[hacc,List.drop_eq_nil_of_le (Nat.le_refl _),List.drop_eq_nil_of_le (Nat.le_refl _),anH,List.append_nil]
   simp[hR2]
end Go.Proofs.YtfilonnphgnplaaGreatDoor.Pv
set_option maxRecDepth 100000
namespace Go.Proofs.YtfilonnphgnplaaGreatDoor.Pv
open Go Go.Tidy
theorem vv:Ret prog M.yu [] (.agg (cT dn)):=by
 refine Ret.go ah axw (by simp) fun hb w0 F0 hG=>?_
 simp[dn]
theorem yG (o:Ob):Ret prog M.oq [.agg (cO o)] (.agg (cT (eu o))):=by
 refine Ret.go ah av1 (by simp) fun hb w0 F0 hG=>?_
 simp[eu]
set_option maxHeartbeats 4000000 in
theorem aKs (a b:Arr) (ih:Ret prog M.ug [.agg (cT a.item),.agg (cT b.item)] (.agg (cT (jO a.item b.item)))):Ret prog M.Cu [.agg (cA a),.agg (cA b)] (.agg (cA (acH a b))):=by
 refine Ret.go ah aD7 (by simp) fun hb w0 F0 hG=>?_
 rw[aaW]
 generalize jO a.item b.item=c at *
 simp
 intro v1 v2 v3 v4
 refine aH.ret ih ?_
 simp
 refine bQ.one ah ⟨[(5,.ptr (5,v4) 11 0 0),(4,.ptr (4,v3) 11 0 0),(3,.ptr (3,v2) 11 0 0),(2,.ptr (2,v1) 11 0 0)],[((5,v4),some ⟨11,[cA (.mk c (if b.min<a.min then b.min else a.min) a.max)],false,true⟩),((4,v3),some ⟨11,[M.z6],false,true⟩),((3,v2),some ⟨11,[cA b],false,true⟩),((2,v1),some ⟨11,[cA a],false,true⟩)]⟩ ?_ ?_
 ·by_cases h1:b.min<a.min
  ·simp[h1]
  ·simp[h1]
 generalize (if b.min<a.min then b.min else a.min)=lo
 simp
 refine bQ.go ah ?_
 by_cases h2:a.max<0
 ·simp[h2]
 ·by_cases h3:b.max<0
  ·simp[h2,h3]
  ·simp[h2,h3]
   refine bQ.go ah ?_
   by_cases h4:a.max<b.max
   ·simp[h4]
   ·simp[h4]
section
variable {w0:World} {F0:Nat→Prop} {hG:GOk prog w0 F0} {nt:Nat}
abbrev sS (v1 v2 v3 v4:Nat) (a b:Ty) (out:List PV) (more:List (Key × Option HE)):St :=
 ⟨[(5,.ptr (5,v4) 9 0 0),(4,.ptr (4,v3) 9 0 0),(3,.ptr (3,v2) 9 0 0),(2,.ptr (2,v1) 9 0 0)],more++[((5,v4),some ⟨9,[out],false,true⟩),((4,v3),some ⟨9,[M.z1],false,true⟩),((3,v2),some ⟨9,[cT b],false,true⟩),((2,v1),some ⟨9,[cT a],false,true⟩)]⟩
set_option maxHeartbeats 4000000 in
theorem aMd (v1 v2 v3 v4:Nat) (a b:Ty) (p q r e:Bool) (ns:List Span) (ts:List S) (az:List Arr) (hl:a.objects.length+b.objects.length≤68719476736) :
 XC ⟨prog,w0,F0,nt,[],0,hG⟩ M.ab1 (sS v1 v2 v3 v4 a b [.bool false,.bool p,.bool q,.bool r,.vec 2 false (ns.map dH),.bool e,.vec 1 false (ts.map encStr),.vec 11 false (az.map dh),.vec 12 true []] []) [] (uw M.zL (.agg (cT (.mk false p q r ns e ts az (a.objects++b.objects))))):=by
 simp
 exact⟨by omega,hl,List.take_of_length_le (by simp)⟩
set_option maxHeartbeats 4000000 in
theorem aMW (v1 v2 v3 v4:Nat) (a b:Ty) (p q r e:Bool) (ns:List Span) (ts:List S) (hl:a.objects.length+b.objects.length≤68719476736) (h1:a.arrays.length≤1) (h2:b.arrays.length≤1)
 (ih:∀ x∈a.arrays,∀ y∈b.arrays,Ret prog M.Cu [.agg (cA x),.agg (cA y)] (.agg (cA (acH x y)))) :
 XC ⟨prog,w0,F0,nt,[],0,hG⟩ M.aiv (sS v1 v2 v3 v4 a b [.bool false,.bool p,.bool q,.bool r,.vec 2 false (ns.map dH),.bool e,.vec 1 false (ts.map encStr),.vec 11 true [],.vec 12 true []] []) [] (uw M.zL (.agg (cT (.mk false p q r ns e ts (jM a.arrays b.arrays) (a.objects++b.objects))))):=by
 have fin:∀ az,XE ⟨prog,w0,F0,nt,[],0,hG⟩ .normal (sS v1 v2 v3 v4 a b [.bool false,.bool p,.bool q,.bool r,.vec 2 false (ns.map dH),.bool e,.vec 1 false (ts.map encStr),.vec 11 false (az.map dh),.vec 12 true []] []) [.sq M.ab1] (uw M.zL (.agg (cT (.mk false p q r ns e ts az (a.objects++b.objects))))):=fun az=>by
  rw[ahI]; exact aMd v1 v2 v3 v4 a b p q r e ns ts az hl
 generalize hR:jM a.arrays b.arrays=R at *
 cases ea:a.arrays with
 | nil =>
   have hR' : R=b.arrays:=by rw[← hR,ea,Dn]
   simp[ea]
   intro v
   refine bQ.go ah ?_
   simp[ea]
   refine fun v'=>⟨by omega,?_⟩
   refine bQ.ah6 ah [] rfl (fun _=>sS v1 v2 v3 v4 a b [.bool false,.bool p,.bool q,.bool r,.vec 2 false (ns.map dH),.bool e,.vec 1 false (ts.map encStr),.vec 11 false (R.map dh),.vec 12 true []] []) ?_ (fun _ _=>fin R)
   simp[ea,hR']
 | cons x l =>
   obtain rfl:l=[]:=by rw[ea] at h1; simpa using h1
   cases eb:b.arrays with
   | nil =>
     have hR' : R=a.arrays:=by rw[← hR,eb,Uf]
     simp[ea]
     intro v
     refine bQ.go ah ?_
     simp[ea]
     refine bQ.ah6 ah [] rfl (fun _=>sS v1 v2 v3 v4 a b [.bool false,.bool p,.bool q,.bool r,.vec 2 false (ns.map dH),.bool e,.vec 1 false (ts.map encStr),.vec 11 false (R.map dh),.vec 12 true []] []) ?_ (fun _ _=>fin R)
     simp[ea,eb,hR']
   | cons y l' =>
     obtain rfl:l'=[]:=by rw[eb] at h2; simpa using h2
     have hR' : R=[acH x y]:=by rw[← hR,ea,eb]; simp[jM]
     have ih':=ih x (by rw[ea]; simp) y (by rw[eb]; simp)
     simp[ea]
     intro v
     refine bQ.go ah ?_
     simp[ea]
     refine bQ.ah6 ah [] rfl (fun _=>sS v1 v2 v3 v4 a b [.bool false,.bool p,.bool q,.bool r,.vec 2 false (ns.map dH),.bool e,.vec 1 false (ts.map encStr),.vec 11 false (R.map dh),.vec 12 true []] []) ?_ (fun _ _=>fin R)
     simp[ea,eb]
     intro v'
     refine aH.ret ih' ?_
     simp[hR']
set_option maxHeartbeats 4000000 in
theorem aMT (v1 v2 v3 v4:Nat) (a b:Ty) (p q r e:Bool) (ns:List Span) (hl:a.objects.length+b.objects.length≤68719476736) (hl2:a.texts.length+b.texts.length≤68719476736) (h1:a.arrays.length≤1) (h2:b.arrays.length≤1)
 (ih:∀ x∈a.arrays,∀ y∈b.arrays,Ret prog M.Cu [.agg (cA x),.agg (cA y)] (.agg (cA (acH x y)))) :
 XC ⟨prog,w0,F0,nt,[],0,hG⟩ M.abX (sS v1 v2 v3 v4 a b [.bool false,.bool p,.bool q,.bool r,.vec 2 false (ns.map dH),.bool e,.vec 1 true [],.vec 11 true [],.vec 12 true []] []) [] (uw M.zL (.agg (cT (.mk false p q r ns e (if e then [] else ig a.texts b.texts) (jM a.arrays b.arrays) (a.objects++b.objects))))):=by
 simp only[aIP,aII]
 refine bQ.ah6 ah [] rfl (fun _=>sS v1 v2 v3 v4 a b [.bool false,.bool p,.bool q,.bool r,.vec 2 false (ns.map dH),.bool e,.vec 1 false ((if e then [] else ig a.texts b.texts).map encStr),.vec 11 true [],.vec 12 true []] []) ?_ (fun _ _=>by rw[ahI]; exact aMW v1 v2 v3 v4 a b p q r e ns _ hl h1 h2 ih)
 cases e
 ·simp
  refine aj.ru (aiA a.texts b.texts hl2) ?_
  simp
 ·simp
set_option maxHeartbeats 4000000 in
theorem aMI (v v1 v2 v3 v4:Nat) (a b:Ty) (p q r e:Bool) (ha:ak a=true) (hb' : ak b=true) (hl:a.objects.length+b.objects.length≤68719476736) (hl2:a.texts.length+b.texts.length≤68719476736)
 (ih:∀ x∈a.arrays,∀ y∈b.arrays,Ret prog M.Cu [.agg (cA x),.agg (cA y)] (.agg (cA (acH x y)))) :
 bQ ⟨prog,w0,F0,nt,[],0,hG⟩ M.aiP (sS v1 v2 v3 v4 a b [.bool false,.bool p,.bool q,.bool r,.own (1042,v) 2 0 a.nums.length false,.bool e,.vec 1 true [],.vec 11 true [],.vec 12 true []] [((1042,v),some ⟨2,a.nums.map dH,false,false⟩)]) [.sq M.aiO] (uw M.zL (.agg (cT (.mk false p q r (yT a.nums b.nums) e (if e then [] else ig a.texts b.texts) (jM a.arrays b.arrays) (a.objects++b.objects))))):=by
 obtain⟨-,-,-,a4,a5,a6,-,-⟩:=cu ha
 obtain⟨-,-,-,b4,b5,b6,-,-⟩:=cu hb'
 generalize hR:yT a.nums b.nums=R at *
 have fin:XE ⟨prog,w0,F0,nt,[],0,hG⟩ .normal (sS v1 v2 v3 v4 a b [.bool false,.bool p,.bool q,.bool r,.vec 2 false (R.map dH),.bool e,.vec 1 true [],.vec 11 true [],.vec 12 true []] []) [.sq M.abX] (uw M.zL (.agg (cT (.mk false p q r R e (if e then [] else ig a.texts b.texts) (jM a.arrays b.arrays) (a.objects++b.objects))))):=by
  rw[ahI]; exact aMT v1 v2 v3 v4 a b p q r e R hl hl2 a6 b6 ih
 cases ea:a.nums with
 | nil =>
   have hR' : R=b.nums:=by rw[← hR,ea]; rfl
   refine bQ.go ah ?_
   simp[ea]
   refine fun v'=>⟨by omega,?_⟩
   refine bQ.ah6 ah [] rfl (fun _=>sS v1 v2 v3 v4 a b [.bool false,.bool p,.bool q,.bool r,.vec 2 false (R.map dH),.bool e,.vec 1 true [],.vec 11 true [],.vec 12 true []] []) ?_ (fun _ _=>fin)
   simp[ea,hR']
 | cons x l =>
   obtain rfl:l=[]:=by rw[ea] at a4; simpa using a4
   cases eb:b.nums with
   | nil =>
     have hR' : R=a.nums:=by rw[← hR,ea,eb]; rfl
     refine bQ.go ah ?_
     simp[ea]
     refine bQ.ah6 ah [] rfl (fun _=>sS v1 v2 v3 v4 a b [.bool false,.bool p,.bool q,.bool r,.vec 2 false (R.map dH),.bool e,.vec 1 true [],.vec 11 true [],.vec 12 true []] []) ?_ (fun _ _=>fin)
     simp[ea,eb,hR']
   | cons y l' =>
     obtain rfl:l'=[]:=by rw[eb] at b4; simpa using b4
     have hR' : R=[⟨adT x.low y.low,ZM x.high y.high⟩]:=by rw[← hR,ea,eb]; rfl
     have x1:=EU (a5 x (by rw[ea]; simp))
     have y1:=EU (b5 y (by rw[eb]; simp))
     refine bQ.go ah ?_
     simp[ea]
     refine bQ.ah6 ah [] rfl (fun _=>sS v1 v2 v3 v4 a b [.bool false,.bool p,.bool q,.bool r,.vec 2 false (R.map dH),.bool e,.vec 1 true [],.vec 11 true [],.vec 12 true []] []) ?_ (fun _ _=>fin)
     simp[ea,eb]
     intro v'
     refine aH.ret (aEB x.low y.low x1.1 y1.1) ?_
     simp[ea,eb]
     refine aH.ret (aA7 x.high y.high x1.2 y1.2) ?_
     simp[hR']
end
set_option maxHeartbeats 4000000 in
theorem aBf (a b:Ty) (ha:ak a=true) (hb' : ak b=true) (hl:a.objects.length+b.objects.length≤68719476736) (hl2:a.texts.length+b.texts.length≤68719476736)
 (ih:∀ x∈a.arrays,∀ y∈b.arrays,Ret prog M.Cu [.agg (cA x),.agg (cA y)] (.agg (cA (acH x y)))):Ret prog M.ug [.agg (cT a),.agg (cT b)] (.agg (cT (jO a b))):=by
 refine Ret.go ah aDw (by simp) fun hb w0 F0 hG=>?_
 rw[zH]
 cases e1:a.all
 ·cases e2:b.all
  ·have hn:=(cu ha).2.2.2.1
   simp[e1,e2]
   refine fun v1 v2 v3 v4 v5=>⟨by omega,?_⟩
   refine bQ.anew [(42,2,1042)] rfl (fun v=>sS v1 v2 v3 v4 a b [.bool false,.bool (a.null||b.null),.bool (a.fls||b.fls),.bool (a.tru||b.tru),.own (1042,v) 2 0 a.nums.length false,.bool (a.any||b.any),.vec 1 true [],.vec 11 true [],.vec 12 true []] [((1042,v),some ⟨2,a.nums.map dH,false,false⟩)]) (fun v=>by simp) fun v _=>?_
   have:=aMI (w0:=w0) (F0:=F0) (hG:=hG) (nt:=148) v v1 v2 v3 v4 a b (a.null||b.null) (a.fls||b.fls) (a.tru||b.tru) (a.any||b.any) ha hb' hl hl2 ih
   simpa using this
  ·simp[e1,e2]
   intro v1 v2 v3
   refine aj.ret vv ?_
   simp[dn]
 ·simp[e1]
  intro v1 v2 v3
  refine aj.ret vv ?_
  simp[dn]
theorem afT (NM:List S):∀ (n:Nat) (a b:Ty) (m k:Nat),ay a≤n→ak a=true→ak b=true→bdT NM m a→bdT NM k b→m+k≤17179869184→Ret prog M.ug [.agg (cT a),.agg (cT b)] (.agg (cT (jO a b))):=by
 intro n
 induction n with
 | zero =>
   intro a b m k hn ha hb hma hkb hmk
   have h0:=qy.1 hn
   rw[mH] at hma hkb
   exact aBf a b ha hb (by omega) (by omega) fun x hx=>by rw[h0.1] at hx; cases hx
 | succ n ih =>
   intro a b m k hn ha hb hma hkb hmk
   have h1:=qx.1 hn
   rw[mH] at hma hkb
   refine aBf a b ha hb (by omega) (by omega) fun x hx y hy=>aKs x y ?_
   exact ih _ _ m k (h1.1 x hx) (gY ((cu ha).2.2.2.2.2.2.1 x hx)).2.2.2.1 (gY ((cu hb).2.2.2.2.2.2.1 y hy)).2.2.2.1 (hma.2.2.1 x hx) (hkb.2.2.1 y hy) hmk
end Go.Proofs.YtfilonnphgnplaaGreatDoor.Pv
set_option maxRecDepth 100000
namespace Go.Proofs.YtfilonnphgnplaaGreatDoor.Pv
open Go Go.Tidy
theorem aDH {l:List Ob} {k:Nat} (hk:k<l.length):qD (l.take (k+1))=ig (qD (l.take k)) l[k].names:=by
 unfold qD
 rw[List.take_add_one,List.getElem?_eq_getElem hk]
 simp only[Option.toList_some,List.foldl_append,List.foldl_cons,List.foldl_nil]
theorem aff {l:List Ob} (h:∀ o∈l,SSs o.names):SSs (qD l):=by rw[aku h]; exact (IW _).1
theorem aAf {α:Type} {l:List α} {k:Nat} {p:α→Prop} (h:∀ x∈l,p x):∀ x∈l.take k,p x:=fun x hx=>h x (List.mem_of_mem_take hx)
set_option maxHeartbeats 4000000 in
theorem ay3 (NM:List S) (l:List Ob) (h1:∀ o∈l,SSs o.names) (h2:∀ o∈l,∀ n∈o.names,n∈NM) (h3:NM.length≤34359738368):iQ prog M.acu [.vec 12 false (l.map av)] 1 ((qD l).map encStr):=by
 refine iQ.go ah awd (by simp) fun hb w0 F0 hG=>?_
 simp only[fu,gQ,List.length_map,LIM,and_true] at hb
 generalize hR:qD l=R
 simp
 intro v0
 obtain⟨J,hJ⟩ : ∃ J:Nat→List S→Prop,J=fun k acc=>acc=qD (l.take k):=⟨_,rfl⟩
 refine aU.xG ah [(3,1,1003)] rfl l.length (fun v k (acc:List S)=>⟨[(4,.int .i64 k),(3,.own (1003,v) 1 0 acc.length false),(0,.vec 12 false (l.map av))],[((1003,v),some ⟨1,acc.map encStr,false,false⟩)]⟩) J [] (by rw[hJ]; rfl) (by simp) fun v k acc _ hk hj=>?_
 have hw:=wrap64 (n:=(k:Int)+1) (by omega) (by omega)
 have hj' : acc=qD (l.take k):=by rw[hJ] at hj; exact hj
 by_cases g:k<l.length
 ·have hlen:acc.length≤NM.length:=by
     rw[hj']
     refine zn (aff (aAf h1)) fun n hn=>?_
     obtain⟨o,ho,hn⟩:=ads _ n hn
     exact aAf h2 o ho n hn
  have hlen2:l[k].names.length≤NM.length:=zn (h1 _ (List.getElem_mem g)) (h2 _ (List.getElem_mem g))
  simp[g]
  refine aj.ru (by simpa using aiA acc l[k].names (by omega)) ?_
  simp[hw,g]
  exact⟨ig acc l[k].names,by rw[hJ]; show _=_; rw[aDH g,hj'],fun v3=>by simp⟩
 ·have:acc=R:=by rw[hj',List.take_of_length_le (by omega),hR]
  simp[g,this]
theorem auY {α:Type} (f:α→Ty) {l:List α} {k:Nat} (hk:k<l.length):oh ((l.take (k+1)).map f)=jO (oh ((l.take k).map f)) (f l[k]):=by
 unfold oh
 rw[List.take_add_one,List.getElem?_eq_getElem hk]
 simp only[Option.toList_some,List.map_append,List.map_cons,List.map_nil,List.foldl_append,List.foldl_cons,List.foldl_nil]
theorem aG5 {α:Type} (p:α→Bool) {l:List α} {k:Nat} (hk:k<l.length):(l.take (k+1)).all p=((l.take k).all p&&p l[k]):=by
 rw[List.take_add_one,List.getElem?_eq_getElem hk]
 simp only[Option.toList_some,List.all_append,List.all_cons,List.all_nil,Bool.and_true]
theorem qd {α β:Type} (f:α→β) {l:List α} {k:Nat} (hk:k<l.length):(l.take (k+1)).map f=(l.take k).map f++[f l[k]]:=by
 rw[List.take_add_one,List.getElem?_eq_getElem hk]
 simp only[Option.toList_some,List.map_append,List.map_cons,List.map_nil]
abbrev aom (a b c:PV) (r:Ty):List PV:=[a,b,c,.bool r.all,.bool r.null,.bool r.fls,.bool r.tru,.vec 2 false (r.nums.map dH),.bool r.any,.vec 1 false (r.texts.map encStr),.vec 11 false (r.arrays.map dh),.vec 12 false (r.objects.map av)]
set_option maxHeartbeats 4000000 in
theorem amD (NM:List S) (m:Nat) (l:List Ob) (hf:∀ o∈l,bf o=true) (hm:∀ o∈l,bdO NM m o) (h3:NM.length≤34359738368) (h4:l.length*m≤8589934592) (h5:m≤8589934592):Ret prog M.abb [.vec 12 false (l.map av)] (.agg (cO (pq l))):=by
 refine Ret.go ah aDK (by simp) fun hb w0 F0 hG=>?_
 simp only[fu,gQ,List.length_map,LIM,and_true] at hb
 have hNM:(qD l).length≤NM.length:=zn (aff fun o ho=>kG (hf o ho)) fun n hn=>by
  obtain⟨o,ho,hn⟩:=ads _ n hn
  exact (hm o ho).1 n hn
 have hO:pq l=.mk (qD l) ((qD l).map fun n=>oh (l.map fun o=>(bg o n).1)) ((qD l).map fun n=>l.all fun o=>(bg o n).2) (oh (l.map Ob.rest)):=rfl
 generalize pq l=R at *
 have cN:=ay3 NM l (fun o ho=>kG (hf o ho)) (fun o ho=>(hm o ho).1) h3
 generalize qD l=ns at *
 simp
 intro v1
 refine aj.ru cN ?_
 simp
 intro v2 v3
 have hsum:∀ (a:Ty) (k:Nat),k<l.length→ak a=true→bdT NM (k*m) a→∀ b,ak b=true→bdT NM m b→Ret prog M.ug [.agg (cT a),.agg (cT b)] (.agg (cT (jO a b))):=fun a k hk ha hma b hb' hmb=>by
  have:(k+1)*m≤l.length*m:=Nat.mul_le_mul_right _ hk
  rw[Nat.add_mul] at this
  exact afT NM (ay a) a b (k*m) m (Nat.le_refl _) ha hb' hma hmb (by omega)
 obtain⟨J,hJ⟩ : ∃ J:Nat→Ty→Prop,J=fun k r=>r=oh ((l.take k).map Ob.rest):=⟨_,rfl⟩
 refine aU.xG ah [] rfl l.length (fun _ k r=>⟨[(4,.int .i64 k),(3,.ptr (3,v3) 12 0 0),(2,.ptr (2,v1) 12 0 0),(0,.vec 12 false (l.map av))],[((3,v3),some ⟨12,[aom (.vec 1 false (ns.map encStr)) (.vec 9 true []) (.vec 1 true []) r],false,true⟩),((2,v1),some ⟨12,[M.z4],false,true⟩)]⟩) J d9 (by rw[hJ]; rfl) (by simp[d9]) fun v k r _ hk hj=>?_
 have hw:=wrap64 (n:=(k:Int)+1) (by omega) (by omega)
 have hj' : r=oh ((l.take k).map Ob.rest):=by rw[hJ] at hj; exact hj
 by_cases g:k<l.length
 ·have hfr:ak r=true:=by
     rw[hj']; refine LG fun t ht=>?_
     obtain⟨o,ho,rfl⟩:=List.mem_map.1 ht
     exact (dz (hf o (List.mem_of_mem_take ho))).2.2.2.1
  have hbr:bdT NM (k*m) r:=by
   rw[hj']
   have:=adG (NM:=NM) (m:=m) (l:=(l.take k).map Ob.rest) (fun t ht=>by
    obtain⟨o,ho,rfl⟩:=List.mem_map.1 ht
    exact (hm o (List.mem_of_mem_take ho)).2.2)
   rw[List.length_map,List.length_take,Nat.min_eq_left (by omega)] at this
   exact this
  have c1:=hsum r k g hfr hbr l[k].rest (dz (hf _ (List.getElem_mem g))).2.2.2.1 (hm _ (List.getElem_mem g)).2.2
  simp[g]
  intros
  refine aH.ret c1 ?_
  simp[hw,g]
  exact⟨jO r l[k].rest,by rw[hJ]; show _=_; rw[auY Ob.rest g,hj'],by simp⟩
 ·have hr:r=oh (l.map Ob.rest):=by rw[hj',List.take_of_length_le (by omega)]
  rw[← hr] at hO
  simp[g]
  clear hj hj' hJ J hr
  obtain⟨J,hJ⟩ : ∃ J:Nat→List Ty × List Bool→Prop,J=fun j q=>q.1=(ns.take j).map (fun n=>oh (l.map fun o=>(bg o n).1))∧q.2=(ns.take j).map (fun n=>l.all fun o=>(bg o n).2):=⟨_,rfl⟩
  refine aU.xG ah [(2000003,9,1001),(3000003,1,1002)] rfl ns.length (fun v j (q:List Ty × List Bool)=>⟨[(5,.int .i64 j),(3,.ptr (3,v3) 12 0 0),(2,.ptr (2,v1) 12 0 0),(0,.vec 12 false (l.map av))],
   [((3,v3),some ⟨12,[aom (.vec 1 false (ns.map encStr)) (.own (1001,v) 9 0 q.1.length false) (.own (1002,v) 1 0 q.2.length false) r],false,true⟩),((1001,v),some ⟨9,q.1.map eU,false,false⟩),((1002,v),some ⟨1,q.2.map jH,false,false⟩),((2,v1),some ⟨12,[M.z4],false,true⟩)]⟩) J ([],[]) (by rw[hJ]; exact⟨rfl,rfl⟩) (by simp) fun v j q _ hj2 hq=>?_
  have hw2:=wrap64 (n:=(j:Int)+1) (by omega) (by omega)
  obtain⟨fs,ms⟩:=q
  obtain⟨q1,q2⟩ : fs=(ns.take j).map (fun n=>oh (l.map fun o=>(bg o n).1))∧ms=(ns.take j).map (fun n=>l.all fun o=>(bg o n).2):=by rw[hJ] at hq; exact hq
  have l1:fs.length=j:=by rw[q1]; simp; omega
  have l2:ms.length=j:=by rw[q2]; simp; omega
  by_cases g2:j<ns.length
  ·simp[g2]
   intro v6
   obtain⟨J',hJ'⟩ : ∃ J:Nat→Ty × Bool→Prop,J=fun i q=>q.1=oh ((l.take i).map fun o=>(bg o ns[j]).1)∧q.2=(l.take i).all fun o=>(bg o ns[j]).2:=⟨_,rfl⟩
   refine aU.cnt ah l.length (fun i (q:Ty × Bool)=>⟨[(8,.int .i64 i),(7,.bool q.2),(6,.ptr (6,v6) 9 0 0),(5,.int .i64 j),(3,.ptr (3,v3) 12 0 0),(2,.ptr (2,v1) 12 0 0),(0,.vec 12 false (l.map av))],
    [((6,v6),some ⟨9,[cT q.1],false,true⟩),((3,v3),some ⟨12,[aom (.vec 1 false (ns.map encStr)) (.own (1001,v) 9 0 fs.length false) (.own (1002,v) 1 0 ms.length false) r],false,true⟩),((1001,v),some ⟨9,fs.map eU,false,false⟩),((1002,v),some ⟨1,ms.map jH,false,false⟩),((2,v1),some ⟨12,[M.z4],false,true⟩)]⟩) J' (d9,true) (by rw[hJ']; exact⟨rfl,rfl⟩) (by simp[d9]) fun i q hi hq'=>?_
   obtain⟨f,b⟩:=q
   obtain⟨p1,p2⟩ : f=oh ((l.take i).map fun o=>(bg o ns[j]).1)∧b=(l.take i).all fun o=>(bg o ns[j]).2:=by rw[hJ'] at hq'; exact hq'
   have hw3:=wrap64 (n:=(i:Int)+1) (by omega) (by omega)
   by_cases g3:i<l.length
   ·have fo:=dz (hf l[i] (List.getElem_mem g3))
    have hff:ak f=true:=by
     rw[p1]; refine LG fun t ht=>?_
     obtain⟨o,ho,rfl⟩:=List.mem_map.1 ht
     exact (Uo (hf o (List.mem_of_mem_take ho)) _).1
    have hbf:bdT NM (i*m) f:=by
     rw[p1]
     have:=adG (NM:=NM) (m:=m) (l:=(l.take i).map fun o=>(bg o ns[j]).1) (fun t ht=>by
      obtain⟨o,ho,rfl⟩:=List.mem_map.1 ht
      exact ahP (hm o (List.mem_of_mem_take ho)) _)
     rw[List.length_map,List.length_take,Nat.min_eq_left (by omega)] at this
     exact this
    have c1:=hsum f i g3 hff hbf (bg l[i] ns[j]).1 (Uo (hf _ (List.getElem_mem g3)) _).1 (ahP (hm _ (List.getElem_mem g3)) _)
    simp[g3,g2]
    intros
    refine aH.ret (acn l[i] ns[j] fo.1 fo.2.1) ?_
    simp
    intros
    refine aj.ret c1 ?_
    simp[hw3,g3,-Bool.exists_bool]
    exact⟨jO f (bg l[i] ns[j]).1,(b&&(bg l[i] ns[j]).2),by
     rw[hJ']
     show _=_∧_=_
     rw[auY (fun o=>(bg o ns[j]).1) g3,aG5 _ g3,← p1,← p2]
     exact⟨rfl,rfl⟩,by simp⟩
   ·have e1:f=oh (l.map fun o=>(bg o ns[j]).1):=by rw[p1,List.take_of_length_le (by omega)]
    have e2:b=l.all fun o=>(bg o ns[j]).2:=by rw[p2,List.take_of_length_le (by omega)]
    simp[g3,hw2]
    exact fun v8=>⟨by omega,fun v9=>⟨by omega,g2,fs++[f],ms++[b],by
     rw[hJ]
     show _=_∧_=_
     rw[qd _ g2,qd _ g2,← q1,← q2,e1,e2]
     exact⟨rfl,rfl⟩,fun v10=>by simp⟩⟩
  ·have e1:R=.mk ns fs ms r:=by rw[hO,q1,q2,List.take_of_length_le (by omega)]
   rw[e1]
   simp[g2]
end Go.Proofs.YtfilonnphgnplaaGreatDoor.Pv
set_option maxRecDepth 100000
namespace Go.Proofs.YtfilonnphgnplaaGreatDoor.Pv
open Go Go.Tidy
theorem aH8 (a b:Ty):decide (dX (kU a b)=0)=jm a b:=by
 unfold jm
 cases kU a b<;>rfl
theorem aeF (a b:Ty) (ha:ak a=true) (hb' : ak b=true):Ret prog M.OQ [.agg (cT a),.agg (cT b)] (.bool (jm a b)):=by
 refine Ret.go ah aBr (by simp) fun hb w0 F0 hG=>?_
 simp
 intros
 refine aj.ret (amY a b ha hb') ?_
 simp[aH8]
theorem afz {α:Type} (p:α→Bool) {l:List α} {k:Nat} (hk:k<l.length):(l.take (k+1)).filter p=if p l[k] then (l.take k).filter p++[l[k]] else (l.take k).filter p:=by
 rw[List.take_add_one,List.getElem?_eq_getElem hk]
 simp only[Option.toList_some,List.filter_append,List.filter_cons,List.filter_nil]
 split<;>simp
theorem ahQ {o:Ob} (h1:o.names.length=o.fields.length) (h2:o.names.length=o.must.length):(jD o).length=o.names.length:=by unfold jD; simp; omega
theorem anp {o:Ob} {k:Nat} (h1:k<o.names.length) (h2:k<o.fields.length) (h3:k<o.must.length) (h4:k<(jD o).length):(jD o)[k]=(o.names[k],o.fields[k],o.must[k]):=by
 have h:(o.names.zip (o.fields.zip o.must))[k]'h4=(o.names[k],o.fields[k],o.must[k]):=List.getElem_zip.trans (by rw[List.getElem_zip])
 exact h
abbrev tN (l:List (S × Ty × Bool)):List (List PV):=(l.map (·.1)).map encStr
abbrev tF (l:List (S × Ty × Bool)):List (List PV):=(l.map (·.2.1)).map eU
abbrev tM (l:List (S × Ty × Bool)):List (List PV):=(l.map (·.2.2)).map jH
set_option maxHeartbeats 4000000 in
theorem aiz (o:Ob) (ho:bf o=true) (hn:o.names.length≤34359738368):Ret prog M.Kg [.agg (cO o)] (.agg (cO (jC o))):=by
 refine Ret.go ah ayY (by simp) fun hb w0 F0 hG=>?_
 obtain⟨o1,o2,o3,o4,o5,o6⟩:=dz ho
 have hR:jC o=xQ ((jD o).filter fun p=>p.2.2||!jm p.2.1 o.rest) o.rest:=rfl
 generalize jC o=R at *
 have hT:=ahQ o1 o2
 simp
 intro v1 v2 v3
 obtain⟨J,hJ⟩ : ∃ J:Nat→List (S × Ty × Bool)→Prop,J=fun k l=>l=((jD o).take k).filter fun p=>p.2.2||!jm p.2.1 o.rest:=⟨_,rfl⟩
 refine aU.xG ah [(1000003,1,1000),(2000003,9,1001),(3000003,1,1002)] rfl o.names.length (fun v k l=>⟨[(4,.int .i64 k),(3,.ptr (3,v3) 12 0 0),(2,.ptr (2,v2) 12 0 0),(1,.ptr (1,v1) 12 0 0)],
  [((3,v3),some ⟨12,[aom (.own (1000,v) 1 0 l.length false) (.own (1001,v) 9 0 l.length false) (.own (1002,v) 1 0 l.length false) o.rest],false,true⟩),((1000,v),some ⟨1,tN l,false,false⟩),((1001,v),some ⟨9,tF l,false,false⟩),((1002,v),some ⟨1,tM l,false,false⟩),((2,v2),some ⟨12,[M.z4],false,true⟩),((1,v1),some ⟨12,[cO o],false,true⟩)]⟩) J [] (by rw[hJ]; rfl) (by simp) fun v k l _ hk hj=>?_
 have hw:=wrap64 (n:=(k:Int)+1) (by omega) (by omega)
 have hj' : l=((jD o).take k).filter fun p=>p.2.2||!jm p.2.1 o.rest:=by rw[hJ] at hj; exact hj
 have hll:l.length≤k:=by
  rw[hj']; refine Nat.le_trans (List.length_filter_le _ _) ?_
  simp; omega
 by_cases g:k<o.names.length
 ·have g1:k<o.fields.length:=by omega
  have g2:k<o.must.length:=by omega
  have hs:=anp g g1 g2 (by omega)
  have hst:=afz (fun p:S × Ty × Bool=>p.2.2||!jm p.2.1 o.rest) (l:=jD o) (k:=k) (by omega)
  rw[hs,← hj'] at hst
  simp[g]
  refine bQ.go ah ?_
  cases e1:o.must[k]
  ·simp[g,g1,g2,e1]
   intros
   refine aH.ret (aeF _ _ (o5 _ (List.getElem_mem g1)) o4) ?_
   cases e2:jm o.fields[k] o.rest
   ·rw[if_pos (by simp[e2])] at hst
    simp[g,g1,g2,e1,e2,hw]
    exact fun _=>⟨by omega,fun _=>⟨by omega,fun _=>⟨by omega,l++[(o.names[k],o.fields[k],o.must[k])],by rw[hJ]; exact hst.symm,fun _=>by simp[e1]⟩⟩⟩
   ·rw[if_neg (by simp[e1,e2])] at hst
    simp[g,g1,g2,e1,e2,hw]
    exact⟨l,by rw[hJ]; exact hst.symm,fun _=>by simp⟩
  ·rw[if_pos (by simp[e1])] at hst
   simp[g,g1,g2,e1,hw]
   exact fun _=>⟨by omega,fun _=>⟨by omega,fun _=>⟨by omega,l++[(o.names[k],o.fields[k],o.must[k])],by rw[hJ]; exact hst.symm,fun _=>by simp[e1]⟩⟩⟩
 ·have e1:l=(jD o).filter fun p=>p.2.2||!jm p.2.1 o.rest:=by rw[hj',List.take_of_length_le (by omega)]
  rw[hR,← e1]
  simp[g,xQ]
end Go.Proofs.YtfilonnphgnplaaGreatDoor.Pv
set_option maxRecDepth 100000
namespace Go.Proofs.YtfilonnphgnplaaGreatDoor.Pv
open Go Go.Tidy
theorem aIi (o x:Ob) (l:List Ob):Vk o (x::l)=match mg o x with|.lt=>o::x::l|.eq=>x::l|.gt=>x::Vk o l:=by
 rw[Vk,abM]
 cases mg o x<;>rfl
set_option maxHeartbeats 4000000 in
theorem aEf (l:List Ob) (o:Ob) (hl:∀ x∈l,bf x=true) (ho:bf o=true) (hn:l.length≤34359738368):iQ prog M.agc [.vec 12 false (l.map av),.agg (cO o)] 12 ((Vk o l).map av):=by
 refine iQ.go ah aDV (by simp) fun hb w0 F0 hG=>?_
 generalize hR:Vk o l=R
 simp
 intro v1 v2
 obtain⟨J,hJ⟩ : ∃ J:Nat→List Ob × Bool→Prop,J=fun k q=>R=q.1++(if q.2 then l.drop k else Vk o (l.drop k))∧q.1.length≤k+q.2.toNat:=⟨_,rfl⟩
 refine aU.xG ah [(5,12,1005)] rfl l.length (fun v k (q:List Ob × Bool)=>⟨[(7,.int .i64 k),(6,.bool q.2),(5,.own (1005,v) 12 0 q.1.length false),(3,.ptr (3,v1) 12 0 0),(0,.vec 12 false (l.map av))],
  [((1005,v),some ⟨12,q.1.map av,false,false⟩),((3,v1),some ⟨12,[cO o],false,true⟩)]⟩) J ([],false) (by rw[hJ]; exact⟨by simp[hR],by simp⟩) (by simp) fun v k q _ hk hj=>?_
 obtain⟨acc,d⟩:=q
 have hd':=d.toNat_le
 have hw:=wrap64 (n:=(k:Int)+1) (by omega) (by omega)
 obtain⟨j1,j2⟩ : R=acc++(if d then l.drop k else Vk o (l.drop k))∧acc.length≤k+d.toNat:=by rw[hJ] at hj; exact hj
 by_cases g:k<l.length
 ·have hd:l.drop k=l[k]::l.drop (k+1):=List.drop_eq_getElem_cons g
  have hp:=aIi o l[k] (l.drop (k+1))
  rw[← hd] at hp
  have hok:=hl l[k] (List.getElem_mem g)
  simp[g]
  intros
  refine aH.ret (yG o) ?_
  simp[g]
  refine aH.ret (yG l[k]) ?_
  simp[g]
  refine aH.ret (amY _ _ (oH ho) (oH hok)) ?_
  rw[abM]
  simp
  obtain⟨J1,hJ1⟩ : ∃ J1:List Ob × Bool→Prop,J1=fun q=>R=q.1++l[k]::(if q.2 then l.drop (k+1) else Vk o (l.drop (k+1)))∧q.1.length≤k+q.2.toNat:=⟨_,rfl⟩
  refine bQ.aNl ah [(5,12,1006)] rfl (fun v (q:List Ob × Bool)=>⟨[(7,.int .i64 k),(6,.bool q.2),(5,.own (1006,v) 12 0 q.1.length false),(3,.ptr (3,v1) 12 0 0),(0,.vec 12 false (l.map av))],
   [((1006,v),some ⟨12,q.1.map av,false,false⟩),((3,v1),some ⟨12,[cO o],false,true⟩)]⟩) J1 ?_ fun v q _ hq=>?_
  ·cases d
   ·cases hc:mg o l[k]<;>rw[hc] at hp
    ·simp
     refine bQ.go ah ?_
     simp
     exact fun _=>⟨by omega,⟨acc++[o],by rw[hJ1]; exact⟨by rw[j1]; simp[hp],by simp at j2 ⊢<;>omega⟩,fun _=>by simp⟩⟩
    ·simp
     refine bQ.go ah ?_
     simp
     exact⟨acc,by rw[hJ1]; exact⟨by rw[j1]; simp[hp],by simp at j2 ⊢<;>omega⟩,fun _=>by simp⟩
    ·simp
     exact⟨acc,by rw[hJ1]; exact⟨by rw[j1]; simp[hp],by simp at j2 ⊢<;>omega⟩,fun _=>by simp⟩
   ·simp
    exact⟨acc,by rw[hJ1]; exact⟨by rw[j1]; simp,by simp at j2 ⊢<;>omega⟩,fun _=>by simp⟩
  ·obtain⟨acc',d'⟩:=q
   obtain⟨k1,k2⟩ : R=acc'++l[k]::(if d' then l.drop (k+1) else Vk o (l.drop (k+1)))∧acc'.length≤k+d'.toNat:=by rw[hJ1] at hq; exact hq
   simp[g,hw,-Bool.exists_bool]
   have:=d'.toNat_le
   exact fun _=>⟨by omega,acc'++[l[k]],d',by rw[hJ]; exact⟨by rw[k1]; simp,by simp<;>omega⟩,fun _=>by simp⟩
 ·rw[List.drop_eq_nil_of_le (by omega)] at j1
  cases d
  ·simp[g]
   refine bQ.go ah ?_
   simp
   have:R=acc++[o]:=by rw[j1]; rfl
   exact⟨by omega,by rw[this,List.take_of_length_le (by simp)]; simp⟩
  ·simp[g]
   refine bQ.go ah ?_
   have:R=acc:=by rw[j1]; simp
   simp[this]
end Go.Proofs.YtfilonnphgnplaaGreatDoor.Pv
set_option maxRecDepth 100000
namespace Go.Proofs.YtfilonnphgnplaaGreatDoor.Pv
open Go Go.Tidy
def zf (l:List Ob) (g:List Bool) (i:Nat):List Ob:=(((l.zip g).take i).filter fun p=>!p.2).map (·.1)
theorem au4 {l:List Ob} {g:List Bool} {i:Nat} (h1:i<l.length) (h2:i<g.length):zf l g (i+1)=zf l g i++(if g[i] then [] else [l[i]]):=by
 unfold zf
 rw[afz _ (by simp; omega)]
 simp only[List.getElem_zip]
 cases g[i]<;>simp
theorem aKu {l:List Ob} {g:List Bool} {i:Nat} {b:Bool}:zf l (g.set i b) i=zf l g i:=by
 unfold zf
 have:(l.zip (g.set i b)).take i=(l.zip g).take i:=by
  rw[List.zip_eq_zipWith,List.zip_eq_zipWith,List.take_zipWith,List.take_zipWith,List.take_set,List.set_eq_of_length_le (by simp; omega)]
 rw[this]
theorem aBZ {l:List Ob} {g:List Bool} {i:Nat} {o:Ob} (hi:i≤l.length) (hg:g.length=l.length):o∈zf l g i↔∃ j,∃ hj:j<l.length,j<i∧g[j]? = some false∧l[j]=o:=by
 unfold zf
 simp only[List.mem_map,List.mem_filter,List.mem_take_iff_getElem,Bool.not_eq_true']
 constructor
 ·rintro⟨⟨x,b⟩,⟨⟨j,hj,he⟩,hb⟩,rfl⟩
  simp only[List.length_zip] at hj
  have hj1:j<l.length:=by omega
  have hj2:j<g.length:=by omega
  simp only[List.getElem_zip,Prod.mk.injEq] at he
  simp only at hb
  exact⟨j,hj1,by omega,by rw[List.getElem?_eq_getElem hj2,he.2,hb],he.1⟩
 ·rintro⟨j,hj,hji,hgj,rfl⟩
  have hj2:j<g.length:=by omega
  rw[List.getElem?_eq_getElem hj2] at hgj
  exact⟨(l[j],false),⟨⟨j,by simp; omega,by simp[Option.some.inj hgj]⟩,rfl⟩,rfl⟩
theorem aDt (kept:List Ob) (o:Ob) (l:List Ob):dN kept (o::l)=if kept.any (mQ o)||l.any (mQ o) then dN kept l else dN (kept++[o]) l:=rfl
theorem aGw {l:List Ob} {g:List Bool} {i:Nat} {b:Bool} {R:List Ob} (hi:i<l.length) (hg:g.length=l.length) (hf:∀ j,i≤j→j<l.length→g[j]? = some false) (hR:R=dN (zf l g i) (l.drop i))
 (hb:b=true↔∃ j,∃ hj:j<l.length,j<l.length∧j≠i∧g[j]? = some false∧mQ l[i] l[j]=true):R=dN (zf l (g.set i b) (i+1)) (l.drop (i+1)):=by
 rw[hR,List.drop_eq_getElem_cons hi,aDt,au4 hi (by simp; omega),aKu]
 have e:b=((zf l g i).any (mQ l[i])||(l.drop (i+1)).any (mQ l[i])):=by
  rw[Bool.eq_iff_iff,hb,Bool.or_eq_true,List.any_eq_true,List.any_eq_true]
  constructor
  ·rintro⟨j,hj,_,hne,hgj,hbj⟩
   rcases Nat.lt_or_gt_of_ne hne with h|h
   ·exact .inl ⟨l[j],(aBZ (by omega) hg).2 ⟨j,hj,h,hgj,rfl⟩,hbj⟩
   ·refine .inr ⟨l[j],?_,hbj⟩
    rw[List.mem_drop_iff_getElem]
    exact⟨j-(i+1),by omega,by congr 1; omega⟩
  ·rintro (⟨o,ho,hb⟩|⟨o,ho,hb⟩)
   ·obtain⟨j,hj,hji,hgj,rfl⟩:=(aBZ (by omega) hg).1 ho
    exact⟨j,hj,hj,by omega,hgj,hb⟩
   ·rw[List.mem_drop_iff_getElem] at ho
    obtain⟨j,hj,rfl⟩:=ho
    exact⟨i+1+j,by omega,by omega,by omega,hf _ (by omega) (by omega),hb⟩
 rw[← e]
 simp only[List.getElem_set_self]
 cases b<;>simp
set_option maxHeartbeats 4000000 in
theorem awe (l:List Ob) (hF:∀ o∈l,l6 (eu o)) (hn:l.length≤34359738368):iQ prog M.ab6 [.vec 12 false (l.map av)] 12 ((dN [] l).map av):=by
 refine iQ.go ah axc (by simp) fun hb w0 F0 hG=>?_
 generalize hR:dN [] l=R
 have cB:∀ i (hi:i<l.length) j (hj:j<l.length),Ret prog M.mq [.agg (cT (eu l[i])),.agg (cT (eu l[j]))] (.bool (mQ l[i] l[j])):=fun i hi j hj=>aym _ _ (hF _ (List.getElem_mem hi)) (hF _ (List.getElem_mem hj))
 simp
 refine fun v0=>⟨by omega,?_⟩
 obtain⟨J,hJ⟩ : ∃ J:Nat→List Bool→Prop,J=fun i g=>g.length=l.length∧(∀ j,i≤j→j<l.length→g[j]? = some false)∧R=dN (zf l g i) (l.drop i):=⟨_,rfl⟩
 refine aU.xG ah [(3,1,1003)] rfl l.length (fun v i (g:List Bool)=>⟨[(4,.int .i64 i),(3,.own (1003,v) 1 0 l.length false),(0,.vec 12 false (l.map av))],[((1003,v),some ⟨1,g.map jH,false,false⟩)]⟩) J (List.replicate l.length false) (by rw[hJ]; exact⟨by simp,fun j _ hj=>by simp[hj],by simp[zf,hR]⟩) (by simp) fun v i g _ hi hj=>?_
 have hw:=wrap64 (n:=(i:Int)+1) (by omega) (by omega)
 obtain⟨j1,j2,j3⟩ : g.length=l.length∧(∀ j,i≤j→j<l.length→g[j]? = some false)∧R=dN (zf l g i) (l.drop i):=by rw[hJ] at hj; exact hj
 by_cases h1:i<l.length
 ·simp[h1]
  obtain⟨J',hJ'⟩ : ∃ J:Nat→Bool→Prop,J=fun k b=>(b=true↔∃ j,∃ hj:j<l.length,j<k∧j≠i∧g[j]? = some false∧mQ l[i] l[j]=true):=⟨_,rfl⟩
  refine aU.cnt ah l.length (fun k (b:Bool)=>⟨[(5,.int .i64 k),(4,.int .i64 i),(3,.own (1003,v) 1 0 l.length false),(0,.vec 12 false (l.map av))],[((1003,v),some ⟨1,(g.set i b).map jH,false,false⟩)]⟩) J' false (by rw[hJ']; simp) (by
   have:g.set i false=g:=by
    apply List.ext_getElem? ; intro j
    rw[List.getElem?_set]
    split
    ·rename_i e; subst e; rw[j2 i (Nat.le_refl _) h1]; simp; omega
    ·rfl
   simp[this]) fun k b hk hb'=>?_
  have hw2:=wrap64 (n:=(k:Int)+1) (by omega) (by omega)
  have hb2:b=true↔∃ j,∃ hj:j<l.length,j<k∧j≠i∧g[j]? = some false∧mQ l[i] l[j]=true:=by rw[hJ'] at hb'; exact hb'
  by_cases h2:k<l.length
  ·simp[h2]
   refine bQ.go ah ?_
   have hkg:k<g.length:=by omega
   have keep:(¬ (k≠i∧g[k]? = some false∧mQ l[i] l[k]=true))→J' (k+1) b:=fun hn=>by
    rw[hJ']
    refine hb2.trans ⟨fun ⟨j,q1,q2,q3⟩=>⟨j,q1,by omega,q3⟩,fun ⟨j,q1,q2,q3⟩=>⟨j,q1,?_,q3⟩⟩
    rcases Nat.lt_or_ge j k with h|h
    ·exact h
    ·obtain rfl:j=k:=by omega
     exact absurd q3 hn
   by_cases hki:k=i
   ·subst hki
    simp[h2,hw2,-Bool.exists_bool]
    exact⟨b,keep (fun h=>h.1 rfl),by simp⟩
   ·have hki' : ¬ (k:Int)=i:=by omega
    have hik:¬ i=k:=fun e=>hki e.symm
    cases e1:g[k]
    ·simp[hki',hik,h2,hkg,e1,h1]
     intros
     refine aH.ret (yG l[i]) ?_
     simp[hki',hik,h2,hkg,e1,h1]
     refine aH.ret (yG l[k]) ?_
     simp[hki',hik,h2,hkg,e1,h1]
     refine aH.ret (cB i h1 k h2) ?_
     cases e2:mQ l[i] l[k]
     ·simp[hw2,h2,hki',-Bool.exists_bool]
      exact⟨b,keep (fun h=>by rw[e2] at h; cases h.2.2),by simp⟩
     ·simp[hw2,h2,h1,j1,hki',-Bool.exists_bool]
      refine⟨true,?_,by simp⟩
      rw[hJ']
      exact⟨fun _=>⟨k,h2,by omega,hki,by rw[List.getElem?_eq_getElem hkg,e1],e2⟩,fun _=>rfl⟩
    ·simp[hki',hik,h2,hkg,e1,h1,hw2,-Bool.exists_bool]
     exact⟨b,keep (fun h=>by rw[List.getElem?_eq_getElem hkg,e1] at h; cases h.2.1),by simp⟩
  ·simp[h2,hw]
   have hkl:k=l.length:=by omega
   subst hkl
   refine⟨h1,g.set i b,?_,fun _=>by simp⟩
   rw[hJ]
   refine⟨by simp[j1],fun j hj1 hj2=>?_,aGw h1 j1 j2 j3 hb2⟩
   rw[List.getElem?_set_ne (by omega)]
   exact j2 j (by omega) hj2
 ·have e1:R=zf l g l.length:=by
     have:i=l.length:=by omega
     rw[j3,List.drop_eq_nil_of_le (by omega),this]; rfl
  simp[h1]
  intro v1
  clear j2 j3 hj hJ J
  obtain⟨J,hJ⟩ : ∃ J:Nat→List Ob→Prop,J=fun k acc=>acc=zf l g k:=⟨_,rfl⟩
  refine aU.xG ah [(6,12,1006)] rfl l.length (fun v' k (acc:List Ob)=>⟨[(7,.int .i64 k),(6,.own (1006,v') 12 0 acc.length false),(3,.vec 1 false (g.map jH)),(0,.vec 12 false (l.map av))],[((1006,v'),some ⟨12,acc.map av,false,false⟩)]⟩) J [] (by rw[hJ]; simp[zf]) (by simp[j1]; rw[← j1,List.take_of_length_le (by simp)]) fun v' k acc _ hk hj=>?_
  have hw2:=wrap64 (n:=(k:Int)+1) (by omega) (by omega)
  have hj' : acc=zf l g k:=by rw[hJ] at hj; exact hj
  have hal:acc.length≤k:=by
   rw[hj']; unfold zf
   rw[List.length_map]
   refine Nat.le_trans (List.length_filter_le _ _) ?_
   simp; omega
  by_cases h2:k<l.length
  ·have hkg:k<g.length:=by omega
   have hst:=au4 h2 hkg
   rw[← hj'] at hst
   simp[h2]
   refine bQ.go ah ?_
   cases e2:g[k]<;>rw[e2] at hst
   ·simp[h2,hkg,e2,hw2]
    exact fun _=>⟨by omega,acc++[l[k]],by rw[hJ]; exact hst.symm,fun _=>by simp⟩
   ·simp[h2,hkg,e2,hw2]
    exact⟨acc,by rw[hJ]; simpa using hst.symm,fun _=>by simp⟩
  ·have:acc=R:=by rw[hj',e1]; congr 1; omega
   simp[h2,this]
end Go.Proofs.YtfilonnphgnplaaGreatDoor.Pv

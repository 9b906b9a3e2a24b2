/- Part 13. -/
import Derived.Test.YtngjnfbngheccaaGreatDoorU12
import Derived.Test.YtngjnfbngheccaaGreatDoorU8
set_option linter.unusedSimpArgs false
set_option linter.unusedVariables false
set_option maxRecDepth 100000
namespace Go.Proofs.YtngjnfbngheccaaGreatDoor.Pv
open Go Go.Tidy
set_option maxHeartbeats 4000000 in
theorem aA2 (l:List Arr) (ih:∀ a∈l,Ret prog M.mQ [.agg (cT a.item)] (.bool (aj a.item))):Ret prog M.adZ [.vec 11 false (l.map dz)] (.bool (decide (l.length≤1)&&l.all gu)):=by
 refine Ret.go ah axq (by simp) fun hb w0 F0 hG=>?_
 simp only[ig,jh,List.length_map,LIM,and_true] at hb
 by_cases h0:l.length≤1
 ·have h0' : ¬ (1:Int)<l.length:=by omega
  generalize hB:l.all gu=B
  obtain⟨J,hJ⟩ : ∃ J:Nat→Unit→Prop,J=fun k _=>iy gu l k:=⟨_,rfl⟩
  simp[h0,h0']
  refine aU.cnt ah l.length (fun k _=>⟨[(3,.int .i64 k),(0,.vec 11 false (l.map dz))],[]⟩) J () (by rw[hJ]; exact .zero) (by simp) fun k _ hk hj=>?_
  have hw:=wrap64 (n:=(k:Int)+1) (by omega) (by omega)
  have hj' : iy gu l k:=by rw[hJ] at hj; exact hj
  by_cases h1:k<l.length
  ·have no:gu l[k]=false→B=false:=fun h=>hB ▸ wZ h1 h
   have hs:gu l[k]=(decide (0≤l[k].min)&&decide (-1≤l[k].max)&&(decide (l[k].max<0)||decide (l[k].min≤l[k].max))&&aj l[k].item&&(never l[k].item == decide (l[k].max=0))):=by
    cases l[k]; rfl
   have ih':=ih l[k] (List.getElem_mem h1)
   by_cases g1:l[k].min<0
   ·have g1' : ¬ 0≤l[k].min:=by omega
    simp[h1,g1,no (by rw[hs]; simp[g1'])]
   by_cases g2:l[k].max < -1
   ·have g2' : ¬ -1≤l[k].max:=by omega
    simp[h1,g1,g2,no (by rw[hs]; simp[g2'])]
   have g1' : 0≤l[k].min:=by omega
   have g2' : -1≤l[k].max:=by omega
   by_cases g34:0≤l[k].max∧l[k].max<l[k].min
   ·obtain⟨g3,g4⟩:=g34
    have g3' : ¬ l[k].max<0:=by omega
    have g4' : ¬ l[k].min≤l[k].max:=by omega
    simp[h1,g1,g2,g3,g4,no (by rw[hs]; simp[g3',g4'])]
   have g6:(decide (l[k].max<0)||decide (l[k].min≤l[k].max))=true:=by simp; omega
   rw[g6,decide_eq_true g1',decide_eq_true g2'] at hs
   by_cases g3:0≤l[k].max
   rotate_left
   ·have g5:¬ l[k].max=0:=by omega
    simp[h1,g1,g2,g3]
    intros
    refine aH.ret ih' ?_
    cases hf:aj l[k].item
    ·simp[no (by rw[hs,hf]; simp)]
    ·simp[h1]
     refine aH.ret (aao l[k].item) ?_
     rw[hf] at hs
     cases hn:never l[k].item<;>rw[hn] at hs
     ·simp[g5,h1,hw]
      exact⟨(),by rw[hJ]; exact hj'.step h1 (by rw[hs]; simp[g5])⟩
     ·simp[g5,h1,no (by rw[hs]; simp[g5])]
   ·have g4:¬ l[k].max<l[k].min:=by omega
    simp[h1,g1,g2,g3,g4]
    intros
    refine aH.ret ih' ?_
    cases hf:aj l[k].item
    ·simp[no (by rw[hs,hf]; simp)]
    ·simp[h1]
     refine aH.ret (aao l[k].item) ?_
     rw[hf] at hs
     cases hn:never l[k].item<;>rw[hn] at hs
     ·by_cases g5:l[k].max=0
      ·simp[g5,h1,no (by rw[hs]; simp[g5])]
      ·simp[g5,h1,hw]
       exact⟨(),by rw[hJ]; exact hj'.step h1 (by rw[hs]; simp[g5])⟩
     ·by_cases g5:l[k].max=0
      ·simp[g5,h1,hw]
       exact⟨(),by rw[hJ]; exact hj'.step h1 (by rw[hs]; simp[g5])⟩
      ·simp[g5,h1,no (by rw[hs]; simp[g5])]
  ·simp[h1,← hB,hj'.all h1]
 ·have h0' : (1:Int)<l.length:=by omega
  simp[h0,h0']
set_option maxHeartbeats 4000000 in
theorem aAr (o:Ob) (ih:∀ t∈o.fields,Ret prog M.mQ [.agg (cT t)] (.bool (aj t))) (ihr:Ret prog M.mQ [.agg (cT o.rest)] (.bool (aj o.rest))):Ret prog M.MH [.agg (cO o)] (.bool (bg o)):=by
 refine Ret.go ah awy (by simp) fun hb w0 F0 hG=>?_
 simp only[ig,jh,List.length_map,LIM,and_true] at hb
 have hO:bg o=(decide (o.names.length=o.fields.length)&&decide (o.names.length=o.must.length)&&iQ o.names&&aj o.rest&&XK o.fields&&(o.fields.zip o.must).all (fun p=>!p.2||!never p.1)):=by
  cases o; rfl
 generalize hB:bg o=B at *
 by_cases g1:o.names.length=o.fields.length
 rotate_left
 ·have g1' : ¬ (o.names.length:Int)=o.fields.length:=by omega
  simp[g1,g1',show B=false by rw[hO]; simp[g1]]
 have g1' : (o.names.length:Int)=o.fields.length:=by omega
 by_cases g2:o.names.length=o.must.length
 rotate_left
 ·have g2' : ¬ (o.names.length:Int)=o.must.length:=by omega
  simp[← g1,g2,g2',show B=false by rw[hO]; simp[g2]]
 have g2' : (o.names.length:Int)=o.must.length:=by omega
 simp[← g1,← g2]
 intro v
 refine ak.ret (apz o.names) ?_
 cases hr:iQ o.names
 ·simp[show B=false by rw[hO,hr]; simp]
 simp
 refine ak.ret ihr ?_
 cases hf:aj o.rest
 ·simp[show B=false by rw[hO,hf]; simp]
 simp
 rw[decide_eq_true g1,decide_eq_true g2,hr,hf,VK] at hO
 obtain⟨J,hJ⟩ : ∃ J:Nat→Unit→Prop,J=fun k _=>iy aj o.fields k∧iy (fun p:Ty × Bool=>!p.2||!never p.1) (o.fields.zip o.must) k:=⟨_,rfl⟩
 refine aU.cnt ah o.fields.length (fun k _=>⟨[(3,.int .i64 k),(1,.ptr (1,v) 12 0 0)],[((1,v),some ⟨12,[cO o],false,true⟩)]⟩) J () (by rw[hJ]; exact⟨.zero,.zero⟩) (by simp) fun k _ hk hj=>?_
 have hw:=wrap64 (n:=(k:Int)+1) (by omega) (by omega)
 obtain⟨j1,j2⟩ : iy aj o.fields k∧iy (fun p:Ty × Bool=>!p.2||!never p.1) (o.fields.zip o.must) k:=by rw[hJ] at hj; exact hj
 by_cases h1:k<o.fields.length
 ·have h2:k<o.must.length:=by omega
  have h3:k<(o.fields.zip o.must).length:=by simp; omega
  have hz:(o.fields.zip o.must)[k]=(o.fields[k],o.must[k]):=by simp
  simp[h1]
  refine ak.ret (ih o.fields[k] (List.getElem_mem h1)) ?_
  cases e1:aj o.fields[k]
  ·simp[show B=false by rw[hO,wZ h1 e1]; simp]
  cases e2:o.must[k]
  ·simp[h1,h2,e2,hw]
   refine⟨(),?_⟩
   rw[hJ]; exact⟨j1.step h1 e1,j2.step h3 (by rw[hz]; simp[e2])⟩
  ·simp[h1,h2,e2]
   refine ak.ret (aao o.fields[k]) ?_
   cases e3:never o.fields[k]
   ·simp[hw]
    refine⟨h1,(),?_⟩
    rw[hJ]; exact⟨j1.step h1 e1,j2.step h3 (by rw[hz]; simp[e3])⟩
   ·simp[show B=false by rw[hO,wZ h3 (by rw[hz]; simp[e2,e3])]; simp]
 ·have:B=true:=by rw[hO,j1.all h1,j2.all (by simp; omega)]; rfl
  simp[h1,this]
theorem aw6 (l:List Ob) (ih:∀ o∈l,Ret prog M.MH [.agg (cO o)] (.bool (bg o))):Ret prog M.abb [.vec 12 false (l.map au)] (.bool (l.all bg)):=by
 refine Ret.go ah avn (by simp) fun hb w0 F0 hG=>?_
 simp only[ig,jh,List.length_map,LIM,and_true] at hb
 generalize hB:l.all bg=B
 obtain⟨J,hJ⟩ : ∃ J:Nat→Unit→Prop,J=fun k _=>iy bg l k:=⟨_,rfl⟩
 simp
 refine aU.cnt ah l.length (fun k _=>⟨[(3,.int .i64 k),(0,.vec 12 false (l.map au))],[]⟩) J () (by rw[hJ]; exact .zero) (by simp) fun k _ hk hj=>?_
 have hw:=wrap64 (n:=(k:Int)+1) (by omega) (by omega)
 have hj' : iy bg l k:=by rw[hJ] at hj; exact hj
 by_cases h1:k<l.length
 ·have no:bg l[k]=false→B=false:=fun h=>hB ▸ wZ h1 h
  simp[h1]
  refine ak.ret (ih l[k] (List.getElem_mem h1)) ?_
  cases e1:bg l[k]
  ·simp[no e1]
  ·simp[hw]
   exact⟨h1,(),by rw[hJ]; exact hj'.step h1 e1⟩
 ·simp[h1,← hB,hj'.all h1]
end Go.Proofs.YtngjnfbngheccaaGreatDoor.Pv
set_option maxRecDepth 100000
namespace Go.Proofs.YtngjnfbngheccaaGreatDoor.Pv
open Go Go.Tidy
theorem aHp (t:Ty):aj t=((!t.all||bare t)&&iQ t.texts&&(!t.any||t.texts.isEmpty)&&(decide (t.nums.length≤1)&&t.nums.all jo)&&(decide (t.arrays.length≤1)&&t.arrays.all gu)&&t.objects.all bg):=by
 cases t
 simp only[aj,WZ,XG,Ty.all,Ty.any,Ty.nums,Ty.texts,Ty.arrays,Ty.objects,Bool.and_assoc]
 rfl
theorem aHL (t:Ty) (ha:∀ a∈t.arrays,Ret prog M.mQ [.agg (cT a.item)] (.bool (aj a.item))) (ho:∀ o∈t.objects,Ret prog M.MH [.agg (cO o)] (.bool (bg o))):Ret prog M.mQ [.agg (cT t)] (.bool (aj t)):=by
 refine Ret.go ah axO (by simp) fun hb w0 F0 hG=>?_
 have hB:=aHp t
 generalize aj t=B at *
 have bare':=apd t
 unfold cT at bare'
 have r1:=apz t.texts
 have r2:=aAX t.nums
 have r3:=aA2 t.arrays ha
 have r4:=aw6 t.objects ho
 cases h1:t.all<;>rw[h1] at hB bare'
 ·simp[h1]
  intro v
  refine ak.ret r1 ?_
  cases h2:iQ t.texts<;>rw[h2] at hB
  ·simp[show B=false by rw[hB]; simp]
  cases h3:t.any<;>rw[h3] at hB
  ·simp[h3]
   refine ak.ret r2 ?_
   generalize (decide (t.nums.length≤1)&&t.nums.all jo)=p at *
   cases p
   ·simp[show B=false by rw[hB]; simp]
   simp
   refine ak.ret r3 ?_
   generalize (decide (t.arrays.length≤1)&&t.arrays.all gu)=p at *
   cases p
   ·simp[show B=false by rw[hB]; simp]
   simp
   refine ak.ret r4 ?_
   simp[show B=t.objects.all bg by rw[hB]; simp]
  ·cases h4:t.texts.isEmpty<;>rw[h4] at hB
   ·have h4' : 0<t.texts.length:=by cases ht:t.texts with|nil=>rw[ht] at h4; simp at h4|cons=>simp
    have h4'' : (0:Int)<t.texts.length:=by omega
    simp[h3,h4',h4'',show B=false by rw[hB]; simp]
   ·have h4' : ¬ 0<t.texts.length:=by cases ht:t.texts with|nil=>simp|cons=>rw[ht] at h4; simp at h4
    have h4'' : ¬ (0:Int)<t.texts.length:=by omega
    simp[h3,h4',h4'']
    refine ak.ret r2 ?_
    generalize (decide (t.nums.length≤1)&&t.nums.all jo)=p at *
    cases p
    ·simp[show B=false by rw[hB]; simp]
    simp
    refine ak.ret r3 ?_
    generalize (decide (t.arrays.length≤1)&&t.arrays.all gu)=p at *
    cases p
    ·simp[show B=false by rw[hB]; simp]
    simp
    refine ak.ret r4 ?_
    simp[show B=t.objects.all bg by rw[hB]; simp]
 ·simp[h1]
  intro v
  refine ak.ret bare' ?_
  cases h5:bare t<;>rw[h5] at hB
  ·simp[show B=false by rw[hB]; simp]
  ·simp
   refine ak.ret r1 ?_
   cases h2:iQ t.texts<;>rw[h2] at hB
   ·simp[show B=false by rw[hB]; simp]
   cases h3:t.any<;>rw[h3] at hB
   ·simp[h3]
    refine ak.ret r2 ?_
    generalize (decide (t.nums.length≤1)&&t.nums.all jo)=p at *
    cases p
    ·simp[show B=false by rw[hB]; simp]
    simp
    refine ak.ret r3 ?_
    generalize (decide (t.arrays.length≤1)&&t.arrays.all gu)=p at *
    cases p
    ·simp[show B=false by rw[hB]; simp]
    simp
    refine ak.ret r4 ?_
    simp[show B=t.objects.all bg by rw[hB]; simp]
   ·cases h4:t.texts.isEmpty<;>rw[h4] at hB
    ·have h4' : 0<t.texts.length:=by cases ht:t.texts with|nil=>rw[ht] at h4; simp at h4|cons=>simp
     have h4'' : (0:Int)<t.texts.length:=by omega
     simp[h3,h4',h4'',show B=false by rw[hB]; simp]
    ·have h4' : ¬ 0<t.texts.length:=by cases ht:t.texts with|nil=>simp|cons=>rw[ht] at h4; simp at h4
     have h4'' : ¬ (0:Int)<t.texts.length:=by omega
     simp[h3,h4',h4'']
     refine ak.ret r2 ?_
     generalize (decide (t.nums.length≤1)&&t.nums.all jo)=p at *
     cases p
     ·simp[show B=false by rw[hB]; simp]
     simp
     refine ak.ret r3 ?_
     generalize (decide (t.arrays.length≤1)&&t.arrays.all gu)=p at *
     cases p
     ·simp[show B=false by rw[hB]; simp]
     simp
     refine ak.ret r4 ?_
     simp[show B=t.objects.all bg by rw[hB]; simp]
theorem ak2 (t:Ty):Ret prog M.mQ [.agg (cT t)] (.bool (aj t)):=by
 induction hn:SizeOf.sizeOf t using Nat.strongRecOn generalizing t with
 | _ n ih =>
   subst hn
   refine aHL t (fun a ha=>ih _ (Y8 ha) a.item rfl) fun o ho=>aAr o (fun x hx=>ih _ (QB ho hx) x rfl) (ih _ (OG ho) o.rest rfl)
end Go.Proofs.YtngjnfbngheccaaGreatDoor.Pv
set_option maxRecDepth 100000
namespace Go.Proofs.YtngjnfbngheccaaGreatDoor.Pv
open Go Go.Tidy
theorem anb:∀ {l:List Arr} {k:Nat} (hk:k<l.length),jv (l.take (k+1))=max (jv (l.take k)) (aK l[k].item+1)
 | .mk t _ _::l,0,_=>by simp[jv,Arr.item]
 | .mk t _ _::l,k+1,h=>by
   have:=anb (l:=l) (k:=k) (by simpa using h)
   simp only[List.take_succ_cons,jv,List.getElem_cons_succ]
   rw[this]; omega
theorem am4:∀ {l:List Ty} {k:Nat} (hk:k<l.length),mh (l.take (k+1))=max (mh (l.take k)) (aK l[k]+1)
 | t::l,0,_=>by simp[mh]
 | t::l,k+1,h=>by
   have:=am4 (l:=l) (k:=k) (by simpa using h)
   simp only[List.take_succ_cons,mh,List.getElem_cons_succ]
   rw[this]; omega
theorem ane:∀ {l:List Ob} {k:Nat} (hk:k<l.length),jy (l.take (k+1))=max (jy (l.take k)) (max (aK l[k].rest+1) (mh l[k].fields))
 | .mk _ fs _ r::l,0,_=>by simp[jy,Ob.rest,Ob.fields]
 | .mk _ fs _ r::l,k+1,h=>by
   have:=ane (l:=l) (k:=k) (by simpa using h)
   simp only[List.take_succ_cons,jy,List.getElem_cons_succ]
   rw[this]; omega
theorem ari (t:Ty):aK t=max (jv t.arrays) (jy t.objects):=by cases t; rfl
theorem aFz {l:List Arr} {a:Arr} (h:a∈l):aK a.item+1≤jv l:=by
 induction l with
 | nil=>simp at h
 | cons b l ih =>
   obtain⟨t,lo,hi⟩:=b
   rcases List.mem_cons.1 h with rfl|h
   ·simp only[jv,Arr.item]; omega
   ·have:=ih h; simp only[jv]; omega
theorem aER {l:List Ty} {a:Ty} (h:a∈l):aK a+1≤mh l:=by
 induction l with
 | nil=>simp at h
 | cons b l ih =>
   rcases List.mem_cons.1 h with rfl|h
   ·simp only[mh]; omega
   ·have:=ih h; simp only[mh]; omega
theorem aor {l:List Ob} {a:Ob} (h:a∈l):aK a.rest+1≤jy l∧mh a.fields≤jy l:=by
 induction l with
 | nil=>simp at h
 | cons b l ih =>
   obtain⟨ns,fs,ms,r⟩:=b
   rcases List.mem_cons.1 h with rfl|h
   ·simp only[jy,Ob.rest,Ob.fields]; omega
   ·have:=ih h; simp only[jy]; omega
end Go.Proofs.YtngjnfbngheccaaGreatDoor.Pv
set_option maxRecDepth 100000
namespace Go.Proofs.YtngjnfbngheccaaGreatDoor.Pv
open Go Go.Tidy
theorem axU {α:Type} {p:α→Bool}:∀ {l:List α} {k:Nat} (hk:k<l.length),iy (fun x=>!p x) l k→p l[k]=true→l.find? p=some l[k]
 | a::l,0,_,_,h=>by simp at h; simp[h]
 | a::l,k+1,hk,ha,h=>by
   have h0:p a=false:=by have:=ha 0 (by simp) (by omega); rw[Bool.not_eq_true'] at this; exact this
   have:=axU (l:=l) (k:=k) (by simpa using hk) (fun j hj hlt=>ha (j+1) (by simpa using hj) (by omega)) (by simpa using h)
   simp only[List.find?_cons,h0,this,List.getElem_cons_succ]
theorem aOu {α:Type} {p:α→Bool} {l:List α} {k:Nat} (ha:iy (fun x=>!p x) l k) (hk:¬ k<l.length):l.find? p=none:=by
 have:=ha.all hk
 simpa[List.all_eq_true] using this
theorem afl (o:Ob) (n:S) (h1:o.names.length=o.fields.length) (h2:o.names.length=o.must.length):Ret prog M.QX [.agg (cO o),.str n] (.tup [.agg (cT (bn o n).1),.bool (bn o n).2]):=by
 refine Ret.go ah aB9 (by simp) fun hb w0 F0 hG=>?_
 simp only[ig,jh,List.length_map,LIM,and_true] at hb
 have hf:bn o n=(match (o.names.zip (o.fields.zip o.must)).find? (fun p=>sEq p.1 n) with|some p=>p.2|none=>(o.rest,false)):=rfl
 generalize bn o n=R at *
 simp
 intro v1 v2
 obtain⟨J,hJ⟩ : ∃ J:Nat→Unit→Prop,J=fun k _=>iy (fun p:S × Ty × Bool=>!sEq p.1 n) (o.names.zip (o.fields.zip o.must)) k:=⟨_,rfl⟩
 refine aU.cnt ah o.names.length (fun k _=>⟨[(6,.int .i64 k),(1,.str n),(2,.ptr (2,v1) 12 0 0),(4,.ptr (4,v2) 9 0 0)],[((2,v1),some ⟨12,[cO o],false,true⟩),((4,v2),some ⟨9,[cT aV],false,true⟩)]⟩) J () (by rw[hJ]; exact .zero) (by simp[aV,Ty.all,Ty.null,Ty.fls,Ty.tru,Ty.nums,Ty.any,Ty.texts,Ty.arrays,Ty.objects]) fun k _ hk hj=>?_
 have hw:=wrap64 (n:=(k:Int)+1) (by omega) (by omega)
 have hj' : iy (fun p:S × Ty × Bool=>!sEq p.1 n) (o.names.zip (o.fields.zip o.must)) k:=by rw[hJ] at hj; exact hj
 by_cases g1:k<o.names.length
 ·have g2:k<o.fields.length:=by omega
  have g3:k<o.must.length:=by omega
  have g4:k<(o.names.zip (o.fields.zip o.must)).length:=by simp; omega
  have hz:(o.names.zip (o.fields.zip o.must))[k]=(o.names[k],o.fields[k],o.must[k]):=by simp
  cases e1:sEq o.names[k] n
  ·simp[g1,e1,hw]
   exact⟨(),by rw[hJ]; exact hj'.step g4 (by rw[hz]; simp[e1])⟩
  ·have hR:R=(o.fields[k],o.must[k]):=by
      rw[hf,axU g4 hj' (by rw[hz]; exact e1),hz]
   simp[g1,g2,g3,e1,hR]
 ·have hR:R=(o.rest,false):=by rw[hf,aOu hj' (by simp; omega)]
  simp[g1,hR]
theorem aHa (l:List S) (s:S):Ret prog M.aju [.vec 1 false (l.map encStr),.str s] (.bool (l.any fun u=>sEq u s)):=by
 refine Ret.go ah aG4 (by simp) fun hb w0 F0 hG=>?_
 simp only[ig,jh,List.length_map,LIM,and_true] at hb
 generalize hB:(l.any fun u=>sEq u s)=B
 obtain⟨J,hJ⟩ : ∃ J:Nat→Unit→Prop,J=fun k _=>iy (fun u=>!sEq u s) l k:=⟨_,rfl⟩
 simp
 refine aU.cnt ah l.length (fun k _=>⟨[(5,.int .i64 k),(1,.str s),(0,.vec 1 false (l.map encStr))],[]⟩) J () (by rw[hJ]; exact .zero) (by simp) fun k _ hk hj=>?_
 have hw:=wrap64 (n:=(k:Int)+1) (by omega) (by omega)
 have hj' : iy (fun u=>!sEq u s) l k:=by rw[hJ] at hj; exact hj
 by_cases g1:k<l.length
 ·cases e1:sEq l[k] s
  ·simp[g1,e1,hw]
   exact⟨(),by rw[hJ]; exact hj'.step g1 (by simp[e1])⟩
  ·have:B=true:=by rw[← hB,List.any_eq_true]; exact⟨l[k],List.getElem_mem g1,e1⟩
   simp[g1,e1,this]
 ·have:B=false:=by
     rw[← hB,List.any_eq_false]
     have:=hj'.all g1
     simpa[List.all_eq_true] using this
  simp[g1,this]
theorem awG (s:Span) (h1:fu s.low=true) (h2:fu s.high=true):Ret prog M.adN [.agg (dw s)] (.bool (aeN s)):=by
 refine Ret.go ah ayh (by simp) fun hb w0 F0 hG=>?_
 unfold aeN
 cases e1:eU s.low
 ·cases e2:eU s.high
  ·simp[e1,e2]
   intro v
   refine ak.ret (qD _ _ (fU h1 e1) (fU h2 e2)) ?_
   cases eu s.low s.high<;>simp[dZ]
  ·simp[e1,e2]
 ·simp[e1]
end Go.Proofs.YtngjnfbngheccaaGreatDoor.Pv
set_option maxRecDepth 100000
namespace Go.Proofs.YtngjnfbngheccaaGreatDoor.Pv
open Go Go.Tidy
theorem aE3 (a b:Span) (a1:fu a.low=true) (a2:fu a.high=true) (b1:fu b.low=true) (b2:fu b.high=true):Ret prog M.ahp [.agg (dw a),.agg (dw b)] (.bool (abp a b)):=by
 refine Ret.go ah aE2 (by simp) fun hb w0 F0 hG=>?_
 unfold abp
 simp
 intro v1 v2
 refine ak.ret (awG a a1 a2) ?_
 cases e0:aeN a
 ·cases e1:eU b.low
  ·cases e2:eU a.low
   ·simp[e1,e2]
    refine ak.ret (qD _ _ (fU a1 e2) (fU b1 e1)) ?_
    cases eu a.low b.low
    ·simp[dZ]
    ·simp[dZ]
     cases e3:eU b.high
     ·cases e4:eU a.high
      ·simp[e3,e4]
       refine ak.ret (qD _ _ (fU a2 e4) (fU b2 e3)) ?_
       cases eu a.high b.high<;>simp[dZ]
      ·simp[e3,e4]
     ·simp[e3]
    ·simp[dZ]
     cases e3:eU b.high
     ·cases e4:eU a.high
      ·simp[e3,e4]
       refine ak.ret (qD _ _ (fU a2 e4) (fU b2 e3)) ?_
       cases eu a.high b.high<;>simp[dZ]
      ·simp[e3,e4]
     ·simp[e3]
   ·simp[e1,e2]
  ·simp[e1]
   cases e3:eU b.high
   ·cases e4:eU a.high
    ·simp[e3,e4]
     refine ak.ret (qD _ _ (fU a2 e4) (fU b2 e3)) ?_
     cases eu a.high b.high<;>simp[dZ]
    ·simp[e3,e4]
   ·simp[e3]
 ·simp
theorem apJ (t:Ty):Ret prog M.acf [.agg (cT t)] (.agg (cT (BQ t))):=by
 refine Ret.go ah aGB (by simp) fun hb w0 F0 hG=>?_
 unfold BQ
 cases e:t.all
 ·simp[e]
 ·simp[e]
  refine⟨rfl,rfl,rfl,rfl,rfl,rfl,rfl,?_,?_⟩<;>simp[laidAll,dx,Ty.all,Ty.null,Ty.fls,Ty.tru,Ty.nums,Ty.any,Ty.texts,Ty.arrays,Ty.objects,Arr.item,Arr.min,Arr.max,Ob.names,Ob.fields,Ob.must,Ob.rest]
theorem az7 (a b:Ty):Ret prog M.afz [.agg (cT a),.agg (cT b)] (.bool (textsIn a b)):=by
 refine Ret.go ah aA6 (by simp) fun hb w0 F0 hG=>?_
 simp only[ig,jh,List.length_map,LIM,and_true] at hb
 unfold textsIn
 cases e1:b.any
 ·cases e2:a.any
  ·simp[e1,e2]
   intro v1 v2
   generalize hB:(a.texts.all fun s=>b.texts.any fun u=>sEq u s)=B
   obtain⟨J,hJ⟩ : ∃ J:Nat→Unit→Prop,J=fun k _=>iy (fun s=>b.texts.any fun u=>sEq u s) a.texts k:=⟨_,rfl⟩
   refine aU.cnt ah a.texts.length (fun k _=>⟨[(5,.int .i64 k),(2,.ptr (2,v1) 9 0 0),(3,.ptr (3,v2) 9 0 0)],[((3,v2),some ⟨9,[cT b],false,true⟩),((2,v1),some ⟨9,[cT a],false,true⟩)]⟩) J () (by rw[hJ]; exact .zero) (by simp[e1,e2]) fun k _ hk hj=>?_
   have hw:=wrap64 (n:=(k:Int)+1) (by omega) (by omega)
   have hj' : iy (fun s=>b.texts.any fun u=>sEq u s) a.texts k:=by rw[hJ] at hj; exact hj
   by_cases g1:k<a.texts.length
   ·simp[g1]
    intros
    refine aH.ret (aHa b.texts a.texts[k]) ?_
    cases e3:(b.texts.any fun u=>sEq u a.texts[k])
    ·have:B=false:=hB ▸ wZ g1 e3
     simp[this]
    ·simp[g1,hw]
     exact⟨(),by rw[hJ]; exact hj'.step g1 e3⟩
   ·have:B=true:=hB ▸ hj'.all g1
    simp[g1,this]
  ·simp[e1,e2]
 ·simp[e1]
end Go.Proofs.YtngjnfbngheccaaGreatDoor.Pv
set_option maxRecDepth 100000
namespace Go.Proofs.YtngjnfbngheccaaGreatDoor.Pv
open Go Go.Tidy
theorem azG {α:Type} (f:α→List PV) (l:List α) (k:Nat) (h:k<l.length):((l.map f).take k).take k++[f l[k]]=(l.map f).take (k+1):=by
 rw[List.take_take,Nat.min_self,List.take_succ_eq_append_getElem (by simpa using h)]
 simp
theorem awd {α:Type} (f:α→List PV) (p:List (List PV)) (l:List α) (k n:Nat) (hn:n=p.length+k) (h:k<l.length):(p++(l.map f).take k).take n++[f l[k]]=p++(l.map f).take (k+1):=by
 subst hn
 rw[List.take_of_length_le (by simp; omega),List.append_assoc,← azG f l k h,List.take_take,Nat.min_self]
set_option maxHeartbeats 1000000 in
theorem aC5 (a b:Ob) (h:a.names.length+b.names.length≤68719476736):gU prog M.afg [.agg (cO a),.agg (cO b)] 1 ((a.names++b.names).map encStr):=by
 refine gU.go ah aCd (by simp) fun hb w0 F0 hG=>?_
 simp only[ig,jh,List.length_map,LIM,and_true] at hb
 simp
 intro v1 v2 v3
 obtain⟨J,hJ⟩ : ∃ J:Nat→Nat × Nat→Prop,J=fun _ g=>g.1=8∨g.1=23:=⟨_,rfl⟩
 refine aU.cnt ah a.names.length (fun k g=>⟨[(6,.int .i64 k),(5,.own g 1 0 k false),(2,.ptr (2,v1) 12 0 0),(3,.ptr (3,v2) 12 0 0)],[(g,some ⟨1,(a.names.map encStr).take k,false,false⟩),((3,v2),some ⟨12,[cO b],false,true⟩),((2,v1),some ⟨12,[cO a],false,true⟩)]⟩) J (8,v3) (by simp[hJ]) (by simp) fun k g hk hj=>?_
 have hw:=wrap64 (n:=(k:Int)+1) (by omega) (by omega)
 have hj' : g.1=8∨g.1=23:=by rw[hJ] at hj; exact hj
 obtain⟨x,y⟩:=g
 by_cases h1:k<a.names.length
 ·have e:=azG encStr a.names k h1
  simp only[encStr] at e
  rcases hj' with rfl|rfl
  ·simp[h1,hw]
   intro v v'
   refine⟨by omega,23,v',by rw[hJ]; exact .inr rfl,⟨rfl,rfl⟩,?_⟩
   simp only[e]
   simp[bf]
  ·simp[h1,hw]
   intro v v'
   refine⟨by omega,23,v',by rw[hJ]; exact .inr rfl,⟨rfl,rfl⟩,?_⟩
   simp only[e]
   simp[bf]
 ·have hkn:k=a.names.length:=by omega
  subst hkn
  obtain⟨J',hJ'⟩ : ∃ J:Nat→Nat × Nat→Prop,J=fun _ g=>g.1=8∨g.1=23∨g.1=38:=⟨_,rfl⟩
  rcases hj' with rfl|rfl
  ·simp
   have e0:(a.names.map encStr).take a.names.length=a.names.map encStr:=List.take_of_length_le (by simp)
   refine aU.cnt ah b.names.length (fun k g=>⟨[(7,.int .i64 k),(5,.own g 1 0 (a.names.length+k) false),(2,.ptr (2,v1) 12 0 0),(3,.ptr (3,v2) 12 0 0)],[(g,some ⟨1,a.names.map encStr++(b.names.map encStr).take k,false,false⟩),((3,v2),some ⟨12,[cO b],false,true⟩),((2,v1),some ⟨12,[cO a],false,true⟩)]⟩) J' (8,y) (by simp[hJ']) (by simp[bf,e0]) fun k g hk hj=>?_
   have hw2:=wrap64 (n:=(k:Int)+1) (by omega) (by omega)
   have hj2:g.1=8∨g.1=23∨g.1=38:=by rw[hJ'] at hj; exact hj
   obtain⟨x,y⟩:=g
   by_cases h2:k<b.names.length
   ·have e2:=awd encStr (a.names.map encStr) b.names k (a.names.length+k) (by simp) h2
    simp only[encStr] at e2
    rcases hj2 with rfl|rfl|rfl
    ·simp[h2,hw2]
     intro v v'
     refine⟨by omega,38,v',by rw[hJ']; exact .inr (.inr rfl),⟨⟨rfl,rfl⟩,by omega⟩,?_⟩
     simp only[e2]
     simp[bf]
    ·simp[h2,hw2]
     intro v v'
     refine⟨by omega,38,v',by rw[hJ']; exact .inr (.inr rfl),⟨⟨rfl,rfl⟩,by omega⟩,?_⟩
     simp only[e2]
     simp[bf]
    ·simp[h2,hw2]
     intro v v'
     refine⟨by omega,38,v',by rw[hJ']; exact .inr (.inr rfl),⟨⟨rfl,rfl⟩,by omega⟩,?_⟩
     simp only[e2]
     simp[bf]
   ·have hkn:k=b.names.length:=by omega
    subst hkn
    have e4:(a.names.map encStr++b.names.map encStr).take (a.names.length+b.names.length)=a.names.map encStr++b.names.map encStr:=List.take_of_length_le (by simp)
    have e3:(b.names.map encStr).take b.names.length=b.names.map encStr:=List.take_of_length_le (by simp)
    rcases hj2 with rfl|rfl|rfl
    ·simp[e3,e4]
    ·simp[e3,e4]
    ·simp[e3,e4]
  ·simp
   have e0:(a.names.map encStr).take a.names.length=a.names.map encStr:=List.take_of_length_le (by simp)
   refine aU.cnt ah b.names.length (fun k g=>⟨[(7,.int .i64 k),(5,.own g 1 0 (a.names.length+k) false),(2,.ptr (2,v1) 12 0 0),(3,.ptr (3,v2) 12 0 0)],[(g,some ⟨1,a.names.map encStr++(b.names.map encStr).take k,false,false⟩),((3,v2),some ⟨12,[cO b],false,true⟩),((2,v1),some ⟨12,[cO a],false,true⟩)]⟩) J' (23,y) (by simp[hJ']) (by simp[bf,e0]) fun k g hk hj=>?_
   have hw2:=wrap64 (n:=(k:Int)+1) (by omega) (by omega)
   have hj2:g.1=8∨g.1=23∨g.1=38:=by rw[hJ'] at hj; exact hj
   obtain⟨x,y⟩:=g
   by_cases h2:k<b.names.length
   ·have e2:=awd encStr (a.names.map encStr) b.names k (a.names.length+k) (by simp) h2
    simp only[encStr] at e2
    rcases hj2 with rfl|rfl|rfl
    ·simp[h2,hw2]
     intro v v'
     refine⟨by omega,38,v',by rw[hJ']; exact .inr (.inr rfl),⟨⟨rfl,rfl⟩,by omega⟩,?_⟩
     simp only[e2]
     simp[bf]
    ·simp[h2,hw2]
     intro v v'
     refine⟨by omega,38,v',by rw[hJ']; exact .inr (.inr rfl),⟨⟨rfl,rfl⟩,by omega⟩,?_⟩
     simp only[e2]
     simp[bf]
    ·simp[h2,hw2]
     intro v v'
     refine⟨by omega,38,v',by rw[hJ']; exact .inr (.inr rfl),⟨⟨rfl,rfl⟩,by omega⟩,?_⟩
     simp only[e2]
     simp[bf]
   ·have hkn:k=b.names.length:=by omega
    subst hkn
    have e4:(a.names.map encStr++b.names.map encStr).take (a.names.length+b.names.length)=a.names.map encStr++b.names.map encStr:=List.take_of_length_le (by simp)
    have e3:(b.names.map encStr).take b.names.length=b.names.map encStr:=List.take_of_length_le (by simp)
    rcases hj2 with rfl|rfl|rfl
    ·simp[e3,e4]
    ·simp[e3,e4]
    ·simp[e3,e4]
end Go.Proofs.YtngjnfbngheccaaGreatDoor.Pv
set_option maxRecDepth 100000
namespace Go.Proofs.YtngjnfbngheccaaGreatDoor.Pv
open Go Go.Tidy
def auk (a b:Arr):Bool:=!(decide (b.min > a.min)||(decide (0≤b.max)&&(decide (a.max<0)||decide (a.max > b.max))))&&(decide (a.max=0)||p9 b.item a.item)
def Jk (a b:List Arr):Bool:=a.isEmpty||(match b,a with|y::_,z::_=>auk z y|_,_=>false)
set_option maxHeartbeats 4000000 in
theorem aDO (a b:Ty) (ih:∀ x∈a.arrays,∀ y∈b.arrays,Ret prog M.oz [.agg (cT x.item),.agg (cT y.item)] (.bool (p9 y.item x.item))):Ret prog M.ado [.agg (cT a),.agg (cT b)] (.bool (Jk a.arrays b.arrays)):=by
 refine Ret.go ah ay4 (by simp) fun hb w0 F0 hG=>?_
 have hb0:=hb
 clear hb0
 generalize hA:a.arrays=la at *
 generalize hB:b.arrays=lb at *
 cases la with
 | nil=>simp[Jk,hA]
 | cons x la =>
   have na:¬ ((la.length:Int)+1=0):=by omega
   cases lb with
   | nil=>simp[Jk,hA,hB,na]
   | cons y lb =>
     have nb:¬ ((lb.length:Int)+1=0):=by omega
     have ih':=ih x (by simp) y (by simp)
     simp only[Jk,List.isEmpty_cons,Bool.false_or,auk]
     by_cases g1:x.min<y.min
     ·simp[hA,hB,na,nb,g1]
     by_cases g2:0≤y.max
     ·by_cases g3:x.max<0
      ·simp[hA,hB,na,nb,g1,g2,g3]
      by_cases g4:y.max<x.max
      ·simp[hA,hB,na,nb,g1,g2,g3,g4]
      by_cases g5:x.max=0
      ·simp[hA,hB,na,nb,g1,g2,g3,g4,g5]
      ·simp[hA,hB,na,nb,g1,g2,g3,g4,g5]
       intros
       refine ak.ret ih' ?_
       simp[g5]
     ·by_cases g5:x.max=0
      ·simp[hA,hB,na,nb,g1,g2,g5]
      ·simp[hA,hB,na,nb,g1,g2,g5]
       intros
       refine ak.ret ih' ?_
       simp[g5]
set_option maxHeartbeats 4000000 in
theorem aBP (a b:Ty) (ih:∀ x∈a.objects,∀ y∈b.objects,Ret prog M.abu [.agg (cO x),.agg (cO y)] (.bool (tq y x))):Ret prog M.ab3 [.agg (cT a),.agg (cT b)] (.bool (a.objects.all fun x=>b.objects.any fun y=>tq y x)):=by
 refine Ret.go ah aur (by simp) fun hb w0 F0 hG=>?_
 simp only[ig,jh,List.length_map,LIM,and_true] at hb
 generalize hB:(a.objects.all fun x=>b.objects.any fun y=>tq y x)=B
 simp
 intro v1 v2
 obtain⟨J,hJ⟩ : ∃ J:Nat→Unit→Prop,J=fun k _=>iy (fun x=>b.objects.any fun y=>tq y x) a.objects k:=⟨_,rfl⟩
 refine aU.cnt ah a.objects.length (fun k _=>⟨[(5,.int .i64 k),(2,.ptr (2,v1) 9 0 0),(3,.ptr (3,v2) 9 0 0)],[((3,v2),some ⟨9,[cT b],false,true⟩),((2,v1),some ⟨9,[cT a],false,true⟩)]⟩) J () (by rw[hJ]; exact .zero) (by simp) fun k _ hk hj=>?_
 have hw:=wrap64 (n:=(k:Int)+1) (by omega) (by omega)
 have hj' : iy (fun x=>b.objects.any fun y=>tq y x) a.objects k:=by rw[hJ] at hj; exact hj
 by_cases g1:k<a.objects.length
 ·simp[g1]
  obtain⟨J',hJ'⟩ : ∃ J:Nat→Bool→Prop,J=fun j p=>p=(b.objects.take j).any fun y=>tq y a.objects[k]:=⟨_,rfl⟩
  refine aU.cnt ah b.objects.length (fun j p=>⟨[(7,.int .i64 j),(6,.bool p),(5,.int .i64 k),(2,.ptr (2,v1) 9 0 0),(3,.ptr (3,v2) 9 0 0)],[((3,v2),some ⟨9,[cT b],false,true⟩),((2,v1),some ⟨9,[cT a],false,true⟩)]⟩) J' false (by simp[hJ']) (by simp) fun j p hj0 hjj=>?_
  have hw':=wrap64 (n:=(j:Int)+1) (by omega) (by omega)
  have hjj' : p=(b.objects.take j).any fun y=>tq y a.objects[k]:=by rw[hJ'] at hjj; exact hjj
  by_cases g2:j<b.objects.length
  ·have hs:((b.objects.take (j+1)).any fun y=>tq y a.objects[k])=(p||tq b.objects[j] a.objects[k]):=by
      rw[List.take_succ_eq_append_getElem g2,List.any_append,hjj']; simp
   simp[g2]
   refine bF.one ah ⟨[(7,.int .i64 j),(6,.bool (p||tq b.objects[j] a.objects[k])),(5,.int .i64 k),(2,.ptr (2,v1) 9 0 0),(3,.ptr (3,v2) 9 0 0)],[((3,v2),some ⟨9,[cT b],false,true⟩),((2,v1),some ⟨9,[cT a],false,true⟩)]⟩ ?_ ?_
   ·simp[g1,g2]
    intros
    refine aH.ret (ih a.objects[k] (List.getElem_mem g1) b.objects[j] (List.getElem_mem g2)) ?_
    cases tq b.objects[j] a.objects[k]<;>simp
   ·simp[hw',g2]
    rw[hJ']
    exact hs.symm
  ·have hp:p=b.objects.any fun y=>tq y a.objects[k]:=by rw[hjj',List.take_of_length_le (by omega)]
   cases hq:(b.objects.any fun y=>tq y a.objects[k])<;>rw[hq] at hp<;>subst hp
   ·have:B=false:=hB ▸ wZ g1 hq
    simp[g2,this]
   ·simp[g2,hw,g1]
    exact⟨(),by rw[hJ]; exact hj'.step g1 hq⟩
 ·have:B=true:=hB ▸ hj'.all g1
  simp[g1,this]
end Go.Proofs.YtngjnfbngheccaaGreatDoor.Pv
set_option maxRecDepth 100000
namespace Go.Proofs.YtngjnfbngheccaaGreatDoor.Pv
open Go Go.Tidy
theorem ao4 (l:List Ty):aec l=l.map fun t=>(fun x=>p9 t x):=by
 induction l with
 | nil=>simp[aec]
 | cons a l ih=>simp[aec,ih]
theorem aFB {α β γ δ:Type} (f:β→δ):∀ (l:List α) (m:List β) (k:List γ),l.zip ((m.map f).zip k)=(l.zip (m.zip k)).map fun p=>(p.1,f p.2.1,p.2.2)
 | [],_,_=>by simp
 | _::_,[],_=>by simp
 | _::_,_::_,[]=>by simp
 | a::l,b::m,c::k=>by simp[aFB f l m k]
def zU (y x:Ob) (n:S):Bool:=(!(bn y n).2||(bn x n).2)&&p9 (bn y n).1 (bn x n).1
theorem ate (y x:Ob):tq y x=((x.names++y.names).all (zU y x)&&p9 y.rest x.rest):=by
 obtain⟨ns,fs,ms,r⟩:=y
 simp only[tq,Ob.names,Ob.rest]
 congr 1
 congr 1
 funext n
 rw[ao4,aFB,List.find?_map]
 simp only[zU,bn,Ob.names,Ob.fields,Ob.must,Ob.rest]
 have e:((fun p:S × (Ty→Bool) × Bool=>sEq p.1 n)∘fun p:S × Ty × Bool=>(p.1,(fun x=>p9 p.2.1 x),p.2.2))=fun p=>sEq p.1 n:=rfl
 rw[e]
 cases (ns.zip (fs.zip ms)).find? (fun p=>sEq p.1 n)<;>simp
set_option maxHeartbeats 4000000 in
theorem aIZ (x y:Ob) (hl:x.names.length+y.names.length≤68719476736) (x1:x.names.length=x.fields.length) (x2:x.names.length=x.must.length) (y1:y.names.length=y.fields.length) (y2:y.names.length=y.must.length)
 (ih:∀ n,Ret prog M.oz [.agg (cT (bn x n).1),.agg (cT (bn y n).1)] (.bool (p9 (bn y n).1 (bn x n).1))) (ihr:Ret prog M.oz [.agg (cT x.rest),.agg (cT y.rest)] (.bool (p9 y.rest x.rest))) :
 Ret prog M.abu [.agg (cO x),.agg (cO y)] (.bool (tq y x)):=by
 refine Ret.go ah aEj (by simp) fun hb w0 F0 hG=>?_
 simp only[ig,jh,List.length_map,LIM,and_true] at hb
 rw[ate]
 have hnm:=aC5 x y hl
 have hlN:(x.names++y.names).length≤68719476736:=by simpa using hl
 generalize x.names++y.names=N at *
 generalize hB:N.all (zU y x)=B
 simp
 intro v1 v2
 refine ak.zn hnm ?_
 intro v3 _
 simp
 obtain⟨J,hJ⟩ : ∃ J:Nat→Unit→Prop,J=fun k _=>iy (zU y x) N k:=⟨_,rfl⟩
 refine aU.cnt ah N.length (fun k _=>⟨[(6,.int .i64 k),(5,.own (13,v3) 1 0 N.length false),(2,.ptr (2,v1) 12 0 0),(3,.ptr (3,v2) 12 0 0)],[((13,v3),some ⟨1,N.map encStr,false,false⟩),((3,v2),some ⟨12,[cO y],false,true⟩),((2,v1),some ⟨12,[cO x],false,true⟩)]⟩) J () (by rw[hJ]; exact .zero) (by simp[bf]) fun k _ hk hj=>?_
 have hw:=wrap64 (n:=(k:Int)+1) (by omega) (by omega)
 have hj' : iy (zU y x) N k:=by rw[hJ] at hj; exact hj
 by_cases g1:k<N.length
 ·simp[g1]
  intros
  refine aH.ret (afl x N[k] x1 x2) ?_
  simp[g1]
  intros
  refine aH.ret (afl y N[k] y1 y2) ?_
  have hs:zU y x N[k]=((!(bn y N[k]).2||(bn x N[k]).2)&&p9 (bn y N[k]).1 (bn x N[k]).1):=rfl
  have ih':=ih N[k]
  generalize bn y N[k]=fy at *
  generalize bn x N[k]=fx at *
  obtain⟨ty,my⟩:=fy
  obtain⟨tx,mx⟩:=fx
  simp only at hs ih' ⊢
  have no:zU y x N[k]=false→B=false:=fun h=>hB ▸ wZ g1 h
  cases my
  ·simp
   refine ak.ret ih' ?_
   cases hbt:p9 ty tx<;>rw[hbt] at hs
   ·simp[no (by rw[hs]; simp)]
   ·simp[hw,bf]
    exact⟨g1,(),by rw[hJ]; exact hj'.step g1 (by rw[hs]; simp)⟩
  ·cases mx
   ·simp[no (by rw[hs]; simp)]
   ·simp
    refine ak.ret ih' ?_
    cases hbt:p9 ty tx<;>rw[hbt] at hs
    ·simp[no (by rw[hs]; simp)]
    ·simp[hw,bf]
     exact⟨g1,(),by rw[hJ]; exact hj'.step g1 (by rw[hs]; simp)⟩
 ·have:N.all (zU y x)=true:=hj'.all g1
  simp[g1]
  intros
  refine ak.ret ihr ?_
  rw[hB] at this
  simp[this]
end Go.Proofs.YtngjnfbngheccaaGreatDoor.Pv
set_option maxRecDepth 100000
namespace Go.Proofs.YtngjnfbngheccaaGreatDoor.Pv
open Go Go.Tidy
theorem aL3 (l:List Ob) (x:Ob):ap5 l x=l.any fun y=>tq y x:=by
 induction l with
 | nil=>simp[ap5]
 | cons a l ih=>simp[ap5,ih]
theorem aNp (y x:Arr):aL7 y x=auk x y:=by
 obtain⟨t,lo,hi⟩:=y
 obtain⟨t',lo',hi'⟩:=x
 simp only[aL7,auk,Arr.min,Arr.max,Arr.item]
 rfl
def ab8 (a b:List Span):Bool:=a.isEmpty||(match b,a with|n::_,m::_=>abp m n|_,_=>false)
theorem aE8 (y x:Ty):p9 y x=(never x||y.all||((!(BQ x).null||y.null)&&(!(BQ x).fls||y.fls)&&(!(BQ x).tru||y.tru)&&ab8 (BQ x).nums y.nums&&textsIn (BQ x) y&&Jk (BQ x).arrays y.arrays&&(BQ x).objects.all fun o=>y.objects.any fun p=>tq p o)):=by
 obtain⟨a,b,c,d,ns,e,ts,az,os⟩:=y
 simp only[p9]
 generalize BQ x=z
 obtain⟨a',b',c',d',ns',e',ts',az',os'⟩:=z
 have h1:(os'.all (ap5 os))=(os'.all fun o=>os.any fun p=>tq p o):=by
  congr 1; funext o; exact aL3 os o
 simp only[ab8,Jk,Ty.all,Ty.null,Ty.fls,Ty.tru,Ty.nums,Ty.arrays,Ty.objects,h1]
 cases az<;>cases az'<;>simp[aNp]<;>rfl
end Go.Proofs.YtngjnfbngheccaaGreatDoor.Pv
set_option maxRecDepth 100000
namespace Go.Proofs.YtngjnfbngheccaaGreatDoor.Pv
open Go Go.Tidy
def nK (t:Ty):Prop:=aj t=true∧nmT 34359738368 t=true
theorem nK.item {t:Ty} (h:nK t) {a:Arr} (ha:a∈t.arrays):nK a.item:=by
 have h2:=h.2
 rw[aqc,Bool.and_eq_true] at h2
 exact⟨(gY ((bN h.1).2.2.2.2.2.2.1 a ha)).2.2.2.1,aMb h2.1 ha⟩
theorem nK.rest {t:Ty} (h:nK t) {o:Ob} (ho:o∈t.objects):nK o.rest:=by
 have h2:=h.2
 rw[aqc,Bool.and_eq_true] at h2
 exact⟨(dH ((bN h.1).2.2.2.2.2.2.2 o ho)).2.2.2.1,(atr h2.2 ho).2.2⟩
theorem nK.field {t:Ty} (h:nK t) {o:Ob} (ho:o∈t.objects) {f:Ty} (hf:f∈o.fields):nK f:=by
 have h2:=h.2
 rw[aqc,Bool.and_eq_true] at h2
 exact⟨(dH ((bN h.1).2.2.2.2.2.2.2 o ho)).2.2.2.2.1 f hf,(atr h2.2 ho).2.1 f hf⟩
theorem nK.names {t:Ty} (h:nK t) {o:Ob} (ho:o∈t.objects):o.names.length≤34359738368∧o.names.length=o.fields.length∧o.names.length=o.must.length:=by
 have h2:=h.2
 rw[aqc,Bool.and_eq_true] at h2
 have:=dH ((bN h.1).2.2.2.2.2.2.2 o ho)
 exact⟨(atr h2.2 ho).1,this.1,this.2.1⟩
theorem ajv:nK laidAll:=by
 refine⟨?_,?_⟩
 ·simp[laidAll,dx,aj,Xw,YG,gu,bg,XK,iQ,jo,fu,eU,never,bare,Ty.all,Ty.null,Ty.fls,Ty.tru,Ty.nums,Ty.any,Ty.texts,Ty.arrays,Ty.objects]
 ·simp[laidAll,dx,nmT,aoL,ao1,asw]
theorem nK.laid {t:Ty} (h:nK t):nK (BQ t):=by
 unfold BQ
 split
 ·exact ajv
 ·exact h
theorem acG (o:Ob) (n:S):(bn o n).1∈o.fields∨(bn o n).1=o.rest:=by
 unfold bn
 split
 ·rename_i p hp
  have hm:=List.mem_of_find?_eq_some hp
  obtain⟨a,b,c⟩:=p
  have h2:=(List.of_mem_zip hm).2
  exact .inl (List.of_mem_zip h2).1
 ·exact .inr rfl
end Go.Proofs.YtngjnfbngheccaaGreatDoor.Pv
set_option maxRecDepth 100000
namespace Go.Proofs.YtngjnfbngheccaaGreatDoor.Pv
open Go Go.Tidy
set_option maxHeartbeats 4000000 in
theorem aI1 (x y:Ty) (fx:nK x) (fy:nK y) (ih:∀ y' : Ty,SizeOf.sizeOf y' < SizeOf.sizeOf y→nK y'→∀ x',nK x'→Ret prog M.oz [.agg (cT x'),.agg (cT y')] (.bool (p9 y' x'))):Ret prog M.oz [.agg (cT x),.agg (cT y)] (.bool (p9 y x)):=by
 refine Ret.go ah aBr (by simp) fun hb w0 F0 hG=>?_
 have hB:=aE8 y x
 generalize p9 y x=B at *
 have r0:=apJ x
 have fz:=fx.laid
 generalize BQ x=z at *
 have r1:=az7 z y
 have r2:=aDO z y fun a ha b hb'=>ih b.item (Y8 hb') (fy.item hb') a.item (fz.item ha)
 have r3:=aBP z y fun a ha b hb'=>by
  obtain⟨a1,a2,a3⟩:=fz.names ha
  obtain⟨b1,b2,b3⟩:=fy.names hb'
  refine aIZ a b (by omega) a2 a3 b2 b3 (fun n=>?_) (ih b.rest (OG hb') (fy.rest hb') a.rest (fz.rest ha))
  have fa:nK (bn a n).1:=by
   rcases acG a n with h|h
   ·exact fz.field ha h
   ·rw[h]; exact fz.rest ha
  rcases acG b n with h|h
  ·exact ih _ (QB hb' h) (fy.field hb' h) _ fa
  ·rw[h]; exact ih _ (OG hb') (fy.rest hb') _ fa
 simp
 intro v1 v2
 refine ak.ret (aao x) ?_
 cases e1:never x
 ·cases e2:y.all
  ·simp[e2]
   refine ak.ret r0 ?_
   simp[-abJ]
   intro v3
   refine⟨?_,?_,?_,?_,?_⟩
   ·cases z.null<;>cases y.null<;>simp
   ·cases z.null<;>cases y.null<;>simp
   ·cases z.null<;>cases y.null<;>cases z.fls<;>cases y.fls<;>simp
   ·cases z.null<;>cases y.null<;>cases z.fls<;>cases y.fls<;>simp
   rw[abJ]
   refine⟨fun hc=>?_,fun hc=>?_⟩
   ·have:B=false:=by
       rw[hB,e1,e2]
       revert hc
       cases z.null<;>cases y.null<;>cases z.fls<;>cases y.fls<;>cases z.tru<;>cases y.tru<;>simp
    simp[this]
   ·have hB' : B=(ab8 z.nums y.nums&&textsIn z y&&Jk z.arrays y.arrays&&z.objects.all fun o=>y.objects.any fun p=>tq p o):=by
       rw[hB,e1,e2]
       revert hc
       cases z.null<;>cases y.null<;>cases z.fls<;>cases y.fls<;>cases z.tru<;>cases y.tru<;>simp
    clear hB hc
    have hz:=bN fz.1
    have hy:=bN fy.1
    cases hzn:z.nums with
    | nil =>
      have k:ab8 z.nums y.nums=true:=by rw[hzn]; rfl
      rw[k] at hB'
      have hz0:z.nums.length=0:=by rw[hzn]; rfl
      simp[hz0]
      refine ak.ret r1 ?_
      cases p1:textsIn z y<;>rw[p1] at hB'
      ·simp[show B=false by rw[hB']; simp]
      simp
      refine ak.ret r2 ?_
      cases p2:Jk z.arrays y.arrays<;>rw[p2] at hB'
      ·simp[show B=false by rw[hB']; simp]
      simp
      refine ak.ret r3 ?_
      rw[hB']
      simp
    | cons s l =>
      cases hyn:y.nums with
      | nil =>
        have k:ab8 z.nums y.nums=false:=by rw[hzn,hyn]; rfl
        rw[k] at hB'
        simp[hzn,hyn,hB']
      | cons s' l' =>
        have k:ab8 z.nums y.nums=abp s s':=by rw[hzn,hyn]; rfl
        rw[k] at hB'
        have q1:=hz.2.2.2.2.1 s (by rw[hzn]; simp)
        have q2:=hy.2.2.2.2.1 s' (by rw[hyn]; simp)
        simp only[jo,Bool.and_eq_true] at q1 q2
        have n1:¬ ((l'.length:Int)+1=0):=by omega
        have n2:(0:Int)<(l.length:Int)+1:=by omega
        simp[hzn,hyn,n1,n2]
        intros
        refine aH.ret (aE3 s s' q1.1.1 q1.1.2 q2.1.1 q2.1.2) ?_
        cases hsp:abp s s'<;>rw[hsp] at hB'
        ·simp[n1,show B=false by rw[hB']; simp]
        ·simp[n1]
         refine ak.ret r1 ?_
         cases p1:textsIn z y<;>rw[p1] at hB'
         ·simp[show B=false by rw[hB']; simp]
         simp
         refine ak.ret r2 ?_
         cases p2:Jk z.arrays y.arrays<;>rw[p2] at hB'
         ·simp[show B=false by rw[hB']; simp]
         simp
         refine ak.ret r3 ?_
         rw[hB']
         simp
  ·simp[e2,hB]
 ·simp[hB,e1]
theorem aA0 (x y:Ty) (fx:nK x) (fy:nK y):Ret prog M.oz [.agg (cT x),.agg (cT y)] (.bool (p9 y x)):=by
 induction hn:SizeOf.sizeOf y using Nat.strongRecOn generalizing x y with
 | _ n ih =>
   subst hn
   exact aI1 x y fx fy fun y' h fy' x' fx'=>ih _ h x' y' fx' fy' rfl
end Go.Proofs.YtngjnfbngheccaaGreatDoor.Pv
set_option maxRecDepth 100000
namespace Go.Proofs.YtngjnfbngheccaaGreatDoor.Pv
open Go Go.Tidy
theorem awu:ByteArray.empty=⟨#[]⟩:=rfl
theorem aHh (a b:S) (ha:fu a=true) (hb' : fu b=true):Ret prog M.aj3 [.str a,.str b] (.str (aie a b)):=by
 refine Ret.go ah aHb (by simp) fun hb w0 F0 hG=>?_
 unfold aie
 rw[awu]
 cases e1:eU a
 ·cases e2:eU b
  ·simp[e1,e2]
   refine ak.ret (qD _ _ (fU ha e1) (fU hb' e2)) ?_
   cases eu a b<;>simp[dZ]
  ·simp[e1,e2]
 ·simp[e1]
theorem aFm (a b:S) (ha:fu a=true) (hb' : fu b=true):Ret prog M.ahC [.str a,.str b] (.str (acy a b)):=by
 refine Ret.go ah aFN (by simp) fun hb w0 F0 hG=>?_
 unfold acy
 rw[awu]
 cases e1:eU a
 ·cases e2:eU b
  ·simp[e1,e2]
   refine ak.ret (qD _ _ (fU ha e1) (fU hb' e2)) ?_
   cases eu a b<;>simp[dZ]
  ·simp[e1,e2]
 ·simp[e1]
end Go.Proofs.YtngjnfbngheccaaGreatDoor.Pv
set_option maxRecDepth 100000
namespace Go.Proofs.YtngjnfbngheccaaGreatDoor.Pv
open Go Go.Tidy
theorem aFt (l:List S):fQ l []=l:=by cases l<;>simp[fQ]
theorem atw (l:List S):fQ [] l=l:=by simp[fQ]
theorem aFC {a b:List S} {i j:Nat} (hi:i<a.length) (h:j<b.length→sLt a[i] (b[j]?.getD ⟨#[]⟩)=true):fQ (a.drop i) (b.drop j)=a[i]::fQ (a.drop (i+1)) (b.drop j):=by
 rw[List.drop_eq_getElem_cons hi]
 by_cases hj:j<b.length
 ·have h':=h hj
  rw[List.getElem?_eq_getElem hj,Option.getD_some] at h'
  rw[List.drop_eq_getElem_cons hj,fQ,if_pos h']
 ·rw[List.drop_eq_nil_of_le (by omega:b.length≤j),aFt,aFt]
theorem aGr {a b:List S} {i j:Nat} (hj:j<b.length) (h:i<a.length→sLt (a[i]?.getD ⟨#[]⟩) b[j]=false∧sLt b[j] (a[i]?.getD ⟨#[]⟩)=true):fQ (a.drop i) (b.drop j)=b[j]::fQ (a.drop i) (b.drop (j+1)):=by
 rw[List.drop_eq_getElem_cons hj]
 by_cases hi:i<a.length
 ·obtain⟨h1,h2⟩:=h hi
  rw[List.getElem?_eq_getElem hi] at h1 h2
  simp only[Option.getD_some] at h1 h2
  rw[List.drop_eq_getElem_cons hi,fQ,if_neg (by simp[h1]),if_pos h2]
 ·rw[List.drop_eq_nil_of_le (by omega:a.length≤i),atw,atw]
theorem aKC {a b:List S} {i j:Nat} (hi:i<a.length) (hj:j<b.length) (h1:sLt a[i] b[j]=false) (h2:sLt b[j] a[i]=false):fQ (a.drop i) (b.drop j)=a[i]::fQ (a.drop (i+1)) (b.drop (j+1)):=by
 rw[List.drop_eq_getElem_cons hi,List.drop_eq_getElem_cons hj,fQ,if_neg (by simp[h1]),if_neg (by simp[h2])]
structure MW where
 i:Nat
 j:Nat
 acc:List S
theorem take_len {α β:Type} (f:α→β) (l:List α):(l.map f).take l.length=l.map f:=List.take_of_length_le (by simp)
attribute [simp] take_len
set_option maxHeartbeats 4000000 in
theorem anq (a b:List S) (hl:a.length+b.length≤68719476736):gU prog M.aam [.vec 1 false (a.map encStr),.vec 1 false (b.map encStr)] 1 ((fQ a b).map encStr):=by
 refine gU.go ah aAj (by simp) fun hb w0 F0 hG=>?_
 generalize hR:fQ a b=R
 simp
 intro v0
 obtain⟨J,hJ⟩ : ∃ J:MW→Prop,J=fun s=>s.i≤a.length∧s.j≤b.length∧R=s.acc++fQ (a.drop s.i) (b.drop s.j)∧s.acc.length≤s.i+s.j:=⟨_,rfl⟩
 refine aU.goR ah [(5,1,1005)] rfl (fun v (s:MW)=>⟨[(6,.int .i64 s.i),(7,.int .i64 s.j),(5,.own (1005,v) 1 0 s.acc.length false),(0,.vec 1 false (a.map encStr)),(1,.vec 1 false (b.map encStr))],[((1005,v),some ⟨1,s.acc.map encStr,false,false⟩)]⟩) J (fun s=>(a.length-s.i)+(b.length-s.j)) ⟨0,0,[]⟩ (by rw[hJ]; simp[hR]) (by simp) fun v s _ hj=>?_
 obtain⟨i,j,acc⟩:=s
 obtain⟨hi,hj1,hacc,hlen⟩ : i≤a.length∧j≤b.length∧R=acc++fQ (a.drop i) (b.drop j)∧acc.length≤i+j:=by rw[hJ] at hj; exact hj
 have wi:=wrap64 (n:=(i:Int)+1) (by omega) (by omega)
 have wj:=wrap64 (n:=(j:Int)+1) (by omega) (by omega)
 by_cases hi' : i<a.length
 ·have ia' : ¬ (i:Int)=a.length:=by omega
  by_cases hjb:j<b.length
  ·have jb' : ¬ (j:Int)=b.length:=by omega
   cases s1:sLt a[i] b[j]
   ·cases s2:sLt b[j] a[i]
    ·have hm:=aKC hi' hjb s1 s2
     simp[hi']
     refine bF.go ah ?_
     simp[hi',hjb,ia',jb',s1,s2,wi,wj]
     refine bF.go ah ?_
     simp[hi',hjb,ia',jb',s1,s2,wi,wj]
     intro v1
     exact⟨by omega,⟨i+1,j+1,acc++[a[i]]⟩,by rw[hJ]; exact⟨by simp<;>omega,by simp<;>omega,by simp only[hacc,hm]; simp,by simp<;>omega⟩,by simp<;>omega,fun v2=>by simp⟩
    ·have hm:=aGr (a:=a) (b:=b) (i:=i) (j:=j) hjb (fun h=>by rw[List.getElem?_eq_getElem h]; exact⟨s1,s2⟩)
     simp[hi']
     refine bF.go ah ?_
     simp[hi',hjb,ia',jb',s1,s2,wi,wj]
     refine bF.go ah ?_
     simp[hi',hjb,ia',jb',s1,s2,wi,wj]
     intro v1
     exact⟨by omega,⟨i,j+1,acc++[b[j]]⟩,by rw[hJ]; exact⟨by simp<;>omega,by simp<;>omega,by simp only[hacc,hm]; simp,by simp<;>omega⟩,by simp<;>omega,fun v2=>by simp⟩
   ·have hm:=aFC (a:=a) (b:=b) (i:=i) (j:=j) hi' (fun h=>by rw[List.getElem?_eq_getElem h]; exact s1)
    simp[hi']
    refine bF.go ah ?_
    simp[hi',hjb,ia',jb',s1,wi,wj]
    intro v1
    exact⟨by omega,⟨i+1,j,acc++[a[i]]⟩,by rw[hJ]; exact⟨by simp<;>omega,by simp<;>omega,by simp only[hacc,hm]; simp,by simp<;>omega⟩,by simp<;>omega,fun v2=>by simp⟩
  ·have je:j=b.length:=by omega
   subst je
   have hm:=aFC (a:=a) (b:=b) (i:=i) (j:=b.length) hi' (fun h=>absurd h hjb)
   simp[hi']
   refine bF.go ah ?_
   simp[hi',wi]
   intro v1
   exact⟨by omega,⟨i+1,b.length,acc++[a[i]]⟩,by rw[hJ]; exact⟨by simp<;>omega,by simp<;>omega,by simp only[hacc,hm]; simp,by simp<;>omega⟩,by simp<;>omega,fun v2=>by simp⟩
 ·have ie:i=a.length:=by omega
  subst ie
  by_cases hjb:j<b.length
  ·have jb' : ¬ (j:Int)=b.length:=by omega
   have hm:=aGr (a:=a) (b:=b) (i:=a.length) (j:=j) hjb (fun h=>absurd h hi')
   simp[hjb]
   refine bF.go ah ?_
   simp[hjb,jb',wj]
   refine bF.go ah ?_
   simp[hjb,jb',wj]
   intro v1
   exact⟨by omega,⟨a.length,j+1,acc++[b[j]]⟩,by rw[hJ]; exact⟨by simp<;>omega,by simp<;>omega,by simp only[hacc,hm]; simp,by simp<;>omega⟩,by simp<;>omega,fun v2=>by simp⟩
  ·have je:j=b.length:=by omega
   subst je
   have hR2:R=acc:=by rw[hacc,List.drop_eq_nil_of_le (Nat.le_refl _),List.drop_eq_nil_of_le (Nat.le_refl _),atw,List.append_nil]
   simp[hR2]
end Go.Proofs.YtngjnfbngheccaaGreatDoor.Pv
set_option maxRecDepth 100000
namespace Go.Proofs.YtngjnfbngheccaaGreatDoor.Pv
open Go Go.Tidy
theorem zY:Ret prog M.Iq [] (.agg (cT dx)):=by
 refine Ret.go ah aC1 (by simp) fun hb w0 F0 hG=>?_
 simp[dx]
theorem aak (o:Ob):Ret prog M.IW [.agg (cO o)] (.agg (cT (jk o))):=by
 refine Ret.go ah aAJ (by simp) fun hb w0 F0 hG=>?_
 simp[jk]
set_option maxHeartbeats 4000000 in
theorem aNw (a b:Arr) (ih:Ret prog M.zf [.agg (cT a.item),.agg (cT b.item)] (.agg (cT (jf a.item b.item)))):Ret prog M.JY [.agg (cA a),.agg (cA b)] (.agg (cA (ae9 a b))):=by
 refine Ret.go ah aHj (by simp) fun hb w0 F0 hG=>?_
 rw[adO]
 generalize jf a.item b.item=c at *
 simp
 intro v1 v2 v3 v4
 refine aH.ret ih ?_
 simp
 refine bF.one ah ⟨[(5,.ptr (5,v4) 11 0 0),(4,.ptr (4,v3) 11 0 0),(3,.ptr (3,v2) 11 0 0),(2,.ptr (2,v1) 11 0 0)],[((5,v4),some ⟨11,[cA (.mk c (if b.min<a.min then b.min else a.min) a.max)],false,true⟩),((4,v3),some ⟨11,[M.z6],false,true⟩),((3,v2),some ⟨11,[cA b],false,true⟩),((2,v1),some ⟨11,[cA a],false,true⟩)]⟩ ?_ ?_
 ·by_cases h1:b.min<a.min
  ·simp[h1]
  ·simp[h1]
 generalize (if b.min<a.min then b.min else a.min)=lo
 simp
 refine bF.go ah ?_
 by_cases h2:a.max<0
 ·simp[h2]
 ·by_cases h3:b.max<0
  ·simp[h2,h3]
  ·simp[h2,h3]
   refine bF.go ah ?_
   by_cases h4:a.max<b.max
   ·simp[h4]
   ·simp[h4]
section
variable {w0:World} {F0:Nat→Prop} {hG:GOk prog w0 F0} {nt:Nat}
abbrev sS (v1 v2 v3 v4:Nat) (a b:Ty) (out:List PV) (more:List (Key × Option HE)):St :=
 ⟨[(5,.ptr (5,v4) 9 0 0),(4,.ptr (4,v3) 9 0 0),(3,.ptr (3,v2) 9 0 0),(2,.ptr (2,v1) 9 0 0)],more++[((5,v4),some ⟨9,[out],false,true⟩),((4,v3),some ⟨9,[M.z1],false,true⟩),((3,v2),some ⟨9,[cT b],false,true⟩),((2,v1),some ⟨9,[cT a],false,true⟩)]⟩
set_option maxHeartbeats 4000000 in
theorem aPX (v1 v2 v3 v4:Nat) (a b:Ty) (p q r e:Bool) (ns:List Span) (ts:List S) (az:List Arr) (hl:a.objects.length+b.objects.length≤68719476736) :
 XC ⟨prog,w0,F0,nt,[],0,hG⟩ M.aft (sS v1 v2 v3 v4 a b [.bool false,.bool p,.bool q,.bool r,.vec 2 false (ns.map dw),.bool e,.vec 1 false (ts.map encStr),.vec 11 false (az.map dz),.vec 12 true []] []) [] (yt M.EU (.agg (cT (.mk false p q r ns e ts az (a.objects++b.objects))))):=by
 simp
 exact⟨by omega,hl,List.take_of_length_le (by simp)⟩
set_option maxHeartbeats 4000000 in
theorem aPs (v1 v2 v3 v4:Nat) (a b:Ty) (p q r e:Bool) (ns:List Span) (ts:List S) (hl:a.objects.length+b.objects.length≤68719476736) (h1:a.arrays.length≤1) (h2:b.arrays.length≤1)
 (ih:∀ x∈a.arrays,∀ y∈b.arrays,Ret prog M.JY [.agg (cA x),.agg (cA y)] (.agg (cA (ae9 x y)))) :
 XC ⟨prog,w0,F0,nt,[],0,hG⟩ M.anj (sS v1 v2 v3 v4 a b [.bool false,.bool p,.bool q,.bool r,.vec 2 false (ns.map dw),.bool e,.vec 1 false (ts.map encStr),.vec 11 true [],.vec 12 true []] []) [] (yt M.EU (.agg (cT (.mk false p q r ns e ts (jR a.arrays b.arrays) (a.objects++b.objects))))):=by
 have fin:∀ az,XE ⟨prog,w0,F0,nt,[],0,hG⟩ .normal (sS v1 v2 v3 v4 a b [.bool false,.bool p,.bool q,.bool r,.vec 2 false (ns.map dw),.bool e,.vec 1 false (ts.map encStr),.vec 11 false (az.map dz),.vec 12 true []] []) [.sq M.aft] (yt M.EU (.agg (cT (.mk false p q r ns e ts az (a.objects++b.objects))))):=fun az=>by
  rw[amu]; exact aPX v1 v2 v3 v4 a b p q r e ns ts az hl
 generalize hR:jR a.arrays b.arrays=R at *
 cases ea:a.arrays with
 | nil =>
   have hR' : R=b.arrays:=by rw[← hR,ea,KU]
   simp[ea]
   intro v
   refine bF.go ah ?_
   simp[ea]
   refine fun v'=>⟨by omega,?_⟩
   refine bF.alD ah [] rfl (fun _=>sS v1 v2 v3 v4 a b [.bool false,.bool p,.bool q,.bool r,.vec 2 false (ns.map dw),.bool e,.vec 1 false (ts.map encStr),.vec 11 false (R.map dz),.vec 12 true []] []) ?_ (fun _ _=>fin R)
   simp[ea,hR']
 | cons x l =>
   obtain rfl:l=[]:=by rw[ea] at h1; simpa using h1
   cases eb:b.arrays with
   | nil =>
     have hR' : R=a.arrays:=by rw[← hR,eb,Uh]
     simp[ea]
     intro v
     refine bF.go ah ?_
     simp[ea]
     refine bF.alD ah [] rfl (fun _=>sS v1 v2 v3 v4 a b [.bool false,.bool p,.bool q,.bool r,.vec 2 false (ns.map dw),.bool e,.vec 1 false (ts.map encStr),.vec 11 false (R.map dz),.vec 12 true []] []) ?_ (fun _ _=>fin R)
     simp[ea,eb,hR']
   | cons y l' =>
     obtain rfl:l'=[]:=by rw[eb] at h2; simpa using h2
     have hR' : R=[ae9 x y]:=by rw[← hR,ea,eb]; simp[jR]
     have ih':=ih x (by rw[ea]; simp) y (by rw[eb]; simp)
     simp[ea]
     intro v
     refine bF.go ah ?_
     simp[ea]
     refine bF.alD ah [] rfl (fun _=>sS v1 v2 v3 v4 a b [.bool false,.bool p,.bool q,.bool r,.vec 2 false (ns.map dw),.bool e,.vec 1 false (ts.map encStr),.vec 11 false (R.map dz),.vec 12 true []] []) ?_ (fun _ _=>fin R)
     simp[ea,eb]
     intro v'
     refine aH.ret ih' ?_
     simp[hR']
set_option maxHeartbeats 4000000 in
theorem aPT (v1 v2 v3 v4:Nat) (a b:Ty) (p q r e:Bool) (ns:List Span) (hl:a.objects.length+b.objects.length≤68719476736) (hl2:a.texts.length+b.texts.length≤68719476736) (h1:a.arrays.length≤1) (h2:b.arrays.length≤1)
 (ih:∀ x∈a.arrays,∀ y∈b.arrays,Ret prog M.JY [.agg (cA x),.agg (cA y)] (.agg (cA (ae9 x y)))) :
 XC ⟨prog,w0,F0,nt,[],0,hG⟩ M.afL (sS v1 v2 v3 v4 a b [.bool false,.bool p,.bool q,.bool r,.vec 2 false (ns.map dw),.bool e,.vec 1 true [],.vec 11 true [],.vec 12 true []] []) [] (yt M.EU (.agg (cT (.mk false p q r ns e (if e then [] else fQ a.texts b.texts) (jR a.arrays b.arrays) (a.objects++b.objects))))):=by
 simp only[aKO,aLB]
 refine bF.alD ah [] rfl (fun _=>sS v1 v2 v3 v4 a b [.bool false,.bool p,.bool q,.bool r,.vec 2 false (ns.map dw),.bool e,.vec 1 false ((if e then [] else fQ a.texts b.texts).map encStr),.vec 11 true [],.vec 12 true []] []) ?_ (fun _ _=>by rw[amu]; exact aPs v1 v2 v3 v4 a b p q r e ns _ hl h1 h2 ih)
 cases e
 ·simp
  refine ak.zn (anq a.texts b.texts hl2) ?_
  simp
 ·simp
set_option maxHeartbeats 4000000 in
theorem aPz (v v1 v2 v3 v4:Nat) (a b:Ty) (p q r e:Bool) (ha:aj a=true) (hb' : aj b=true) (hl:a.objects.length+b.objects.length≤68719476736) (hl2:a.texts.length+b.texts.length≤68719476736)
 (ih:∀ x∈a.arrays,∀ y∈b.arrays,Ret prog M.JY [.agg (cA x),.agg (cA y)] (.agg (cA (ae9 x y)))) :
 bF ⟨prog,w0,F0,nt,[],0,hG⟩ M.amU (sS v1 v2 v3 v4 a b [.bool false,.bool p,.bool q,.bool r,.own (1042,v) 2 0 a.nums.length false,.bool e,.vec 1 true [],.vec 11 true [],.vec 12 true []] [((1042,v),some ⟨2,a.nums.map dw,false,false⟩)]) [.sq M.am6] (yt M.EU (.agg (cT (.mk false p q r (Av a.nums b.nums) e (if e then [] else fQ a.texts b.texts) (jR a.arrays b.arrays) (a.objects++b.objects))))):=by
 obtain⟨-,-,-,a4,a5,a6,-,-⟩:=bN ha
 obtain⟨-,-,-,b4,b5,b6,-,-⟩:=bN hb'
 generalize hR:Av a.nums b.nums=R at *
 have fin:XE ⟨prog,w0,F0,nt,[],0,hG⟩ .normal (sS v1 v2 v3 v4 a b [.bool false,.bool p,.bool q,.bool r,.vec 2 false (R.map dw),.bool e,.vec 1 true [],.vec 11 true [],.vec 12 true []] []) [.sq M.afL] (yt M.EU (.agg (cT (.mk false p q r R e (if e then [] else fQ a.texts b.texts) (jR a.arrays b.arrays) (a.objects++b.objects))))):=by
  rw[amu]; exact aPT v1 v2 v3 v4 a b p q r e R hl hl2 a6 b6 ih
 cases ea:a.nums with
 | nil =>
   have hR' : R=b.nums:=by rw[← hR,ea]; rfl
   refine bF.go ah ?_
   simp[ea]
   refine fun v'=>⟨by omega,?_⟩
   refine bF.alD ah [] rfl (fun _=>sS v1 v2 v3 v4 a b [.bool false,.bool p,.bool q,.bool r,.vec 2 false (R.map dw),.bool e,.vec 1 true [],.vec 11 true [],.vec 12 true []] []) ?_ (fun _ _=>fin)
   simp[ea,hR']
 | cons x l =>
   obtain rfl:l=[]:=by rw[ea] at a4; simpa using a4
   cases eb:b.nums with
   | nil =>
     have hR' : R=a.nums:=by rw[← hR,ea,eb]; rfl
     refine bF.go ah ?_
     simp[ea]
     refine bF.alD ah [] rfl (fun _=>sS v1 v2 v3 v4 a b [.bool false,.bool p,.bool q,.bool r,.vec 2 false (R.map dw),.bool e,.vec 1 true [],.vec 11 true [],.vec 12 true []] []) ?_ (fun _ _=>fin)
     simp[ea,eb,hR']
   | cons y l' =>
     obtain rfl:l'=[]:=by rw[eb] at b4; simpa using b4
     have hR' : R=[⟨aie x.low y.low,acy x.high y.high⟩]:=by rw[← hR,ea,eb]; rfl
     have x1:=Ow (a5 x (by rw[ea]; simp))
     have y1:=Ow (b5 y (by rw[eb]; simp))
     refine bF.go ah ?_
     simp[ea]
     refine bF.alD ah [] rfl (fun _=>sS v1 v2 v3 v4 a b [.bool false,.bool p,.bool q,.bool r,.vec 2 false (R.map dw),.bool e,.vec 1 true [],.vec 11 true [],.vec 12 true []] []) ?_ (fun _ _=>fin)
     simp[ea,eb]
     intro v'
     refine aH.ret (aHh x.low y.low x1.1 y1.1) ?_
     simp[ea,eb]
     refine aH.ret (aFm x.high y.high x1.2 y1.2) ?_
     simp[hR']
end
set_option maxHeartbeats 4000000 in
theorem aFx (a b:Ty) (ha:aj a=true) (hb' : aj b=true) (hl:a.objects.length+b.objects.length≤68719476736) (hl2:a.texts.length+b.texts.length≤68719476736)
 (ih:∀ x∈a.arrays,∀ y∈b.arrays,Ret prog M.JY [.agg (cA x),.agg (cA y)] (.agg (cA (ae9 x y)))):Ret prog M.zf [.agg (cT a),.agg (cT b)] (.agg (cT (jf a b))):=by
 refine Ret.go ah aHH (by simp) fun hb w0 F0 hG=>?_
 rw[zX]
 cases e1:a.all
 ·cases e2:b.all
  ·have hn:=(bN ha).2.2.2.1
   simp[e1,e2]
   refine fun v1 v2 v3 v4 v5=>⟨by omega,?_⟩
   refine bF.anew [(42,2,1042)] rfl (fun v=>sS v1 v2 v3 v4 a b [.bool false,.bool (a.null||b.null),.bool (a.fls||b.fls),.bool (a.tru||b.tru),.own (1042,v) 2 0 a.nums.length false,.bool (a.any||b.any),.vec 1 true [],.vec 11 true [],.vec 12 true []] [((1042,v),some ⟨2,a.nums.map dw,false,false⟩)]) (fun v=>by simp) fun v _=>?_
   have:=aPz (w0:=w0) (F0:=F0) (hG:=hG) (nt:=148) v v1 v2 v3 v4 a b (a.null||b.null) (a.fls||b.fls) (a.tru||b.tru) (a.any||b.any) ha hb' hl hl2 ih
   simpa using this
  ·simp[e1,e2]
   intro v1 v2 v3
   refine ak.ret zY ?_
   simp[dx]
 ·simp[e1]
  intro v1 v2 v3
  refine ak.ret zY ?_
  simp[dx]
theorem asa (NM:List S):∀ (n:Nat) (a b:Ty) (m k:Nat),aK a≤n→aj a=true→aj b=true→bdT NM m a→bdT NM k b→m+k≤17179869184→Ret prog M.zf [.agg (cT a),.agg (cT b)] (.agg (cT (jf a b))):=by
 intro n
 induction n with
 | zero =>
   intro a b m k hn ha hb hma hkb hmk
   have h0:=sW.1 hn
   rw[uz] at hma hkb
   exact aFx a b ha hb (by omega) (by omega) fun x hx=>by rw[h0.1] at hx; cases hx
 | succ n ih =>
   intro a b m k hn ha hb hma hkb hmk
   have h1:=uh.1 hn
   rw[uz] at hma hkb
   refine aFx a b ha hb (by omega) (by omega) fun x hx y hy=>aNw x y ?_
   exact ih _ _ m k (h1.1 x hx) (gY ((bN ha).2.2.2.2.2.2.1 x hx)).2.2.2.1 (gY ((bN hb).2.2.2.2.2.2.1 y hy)).2.2.2.1 (hma.2.2.1 x hx) (hkb.2.2.1 y hy) hmk
end Go.Proofs.YtngjnfbngheccaaGreatDoor.Pv
set_option maxRecDepth 100000
namespace Go.Proofs.YtngjnfbngheccaaGreatDoor.Pv
open Go Go.Tidy
theorem aHm {l:List Ob} {k:Nat} (hk:k<l.length):um (l.take (k+1))=fQ (um (l.take k)) l[k].names:=by
 unfold um
 rw[List.take_add_one,List.getElem?_eq_getElem hk]
 simp only[Option.toList_some,List.foldl_append,List.foldl_cons,List.foldl_nil]
theorem aiR {l:List Ob} (h:∀ o∈l,SSs o.names):SSs (um l):=by rw[apX h]; exact (Qh _).1
theorem aFu {α:Type} {l:List α} {k:Nat} {p:α→Prop} (h:∀ x∈l,p x):∀ x∈l.take k,p x:=fun x hx=>h x (List.mem_of_mem_take hx)
set_option maxHeartbeats 4000000 in
theorem aBo (NM:List S) (l:List Ob) (h1:∀ o∈l,SSs o.names) (h2:∀ o∈l,∀ n∈o.names,n∈NM) (h3:NM.length≤34359738368):gU prog M.afN [.vec 12 false (l.map au)] 1 ((um l).map encStr):=by
 refine gU.go ah aCG (by simp) fun hb w0 F0 hG=>?_
 simp only[ig,jh,List.length_map,LIM,and_true] at hb
 generalize hR:um l=R
 simp
 intro v0
 obtain⟨J,hJ⟩ : ∃ J:Nat→List S→Prop,J=fun k acc=>acc=um (l.take k):=⟨_,rfl⟩
 refine aU.KG ah [(3,1,1003)] rfl l.length (fun v k (acc:List S)=>⟨[(4,.int .i64 k),(3,.own (1003,v) 1 0 acc.length false),(0,.vec 12 false (l.map au))],[((1003,v),some ⟨1,acc.map encStr,false,false⟩)]⟩) J [] (by rw[hJ]; rfl) (by simp) fun v k acc _ hk hj=>?_
 have hw:=wrap64 (n:=(k:Int)+1) (by omega) (by omega)
 have hj' : acc=um (l.take k):=by rw[hJ] at hj; exact hj
 by_cases g:k<l.length
 ·have hlen:acc.length≤NM.length:=by
     rw[hj']
     refine NI (aiR (aFu h1)) fun n hn=>?_
     obtain⟨o,ho,hn⟩:=agt _ n hn
     exact aFu h2 o ho n hn
  have hlen2:l[k].names.length≤NM.length:=NI (h1 _ (List.getElem_mem g)) (h2 _ (List.getElem_mem g))
  simp[g]
  refine ak.zn (by simpa using anq acc l[k].names (by omega)) ?_
  simp[hw,g]
  exact⟨fQ acc l[k].names,by rw[hJ]; show _=_; rw[aHm g,hj'],fun v3=>by simp⟩
 ·have:acc=R:=by rw[hj',List.take_of_length_le (by omega),hR]
  simp[g,this]
theorem az1 {α:Type} (f:α→Ty) {l:List α} {k:Nat} (hk:k<l.length):qb ((l.take (k+1)).map f)=jf (qb ((l.take k).map f)) (f l[k]):=by
 unfold qb
 rw[List.take_add_one,List.getElem?_eq_getElem hk]
 simp only[Option.toList_some,List.map_append,List.map_cons,List.map_nil,List.foldl_append,List.foldl_cons,List.foldl_nil]
theorem aKm {α:Type} (p:α→Bool) {l:List α} {k:Nat} (hk:k<l.length):(l.take (k+1)).all p=((l.take k).all p&&p l[k]):=by
 rw[List.take_add_one,List.getElem?_eq_getElem hk]
 simp only[Option.toList_some,List.all_append,List.all_cons,List.all_nil,Bool.and_true]
theorem xQ {α β:Type} (f:α→β) {l:List α} {k:Nat} (hk:k<l.length):(l.take (k+1)).map f=(l.take k).map f++[f l[k]]:=by
 rw[List.take_add_one,List.getElem?_eq_getElem hk]
 simp only[Option.toList_some,List.map_append,List.map_cons,List.map_nil]
abbrev atz (a b c:PV) (r:Ty):List PV:=[a,b,c,.bool r.all,.bool r.null,.bool r.fls,.bool r.tru,.vec 2 false (r.nums.map dw),.bool r.any,.vec 1 false (r.texts.map encStr),.vec 11 false (r.arrays.map dz),.vec 12 false (r.objects.map au)]
set_option maxHeartbeats 4000000 in
theorem aHx (NM:List S) (m:Nat) (l:List Ob) (hf:∀ o∈l,bg o=true) (hm:∀ o∈l,bdO NM m o) (h3:NM.length≤34359738368) (h4:l.length*m≤17179869184) (h5:m≤17179869184):Ret prog M.ajH [.vec 12 false (l.map au)] (.agg (cO (yj l))):=by
 refine Ret.go ah aHy (by simp) fun hb w0 F0 hG=>?_
 simp only[ig,jh,List.length_map,LIM,and_true] at hb
 have hNM:(um l).length≤NM.length:=NI (aiR fun o ho=>oq (hf o ho)) fun n hn=>by
  obtain⟨o,ho,hn⟩:=agt _ n hn
  exact (hm o ho).1 n hn
 have hO:yj l=.mk (um l) ((um l).map fun n=>qb (l.map fun o=>(bn o n).1)) ((um l).map fun n=>l.all fun o=>(bn o n).2) (qb (l.map Ob.rest)):=rfl
 generalize yj l=R at *
 have cN:=aBo NM l (fun o ho=>oq (hf o ho)) (fun o ho=>(hm o ho).1) h3
 generalize um l=ns at *
 simp
 intro v1
 refine ak.zn cN ?_
 simp
 intro v2 v3
 have hsum:∀ (a:Ty) (k:Nat),k<l.length→aj a=true→bdT NM (k*m) a→∀ b,aj b=true→bdT NM m b→Ret prog M.zf [.agg (cT a),.agg (cT b)] (.agg (cT (jf a b))):=fun a k hk ha hma b hb' hmb=>by
  have:(k+1)*m≤l.length*m:=Nat.mul_le_mul_right _ hk
  rw[Nat.add_mul] at this
  exact asa NM (aK a) a b (k*m) m (Nat.le_refl _) ha hb' hma hmb (by omega)
 obtain⟨J,hJ⟩ : ∃ J:Nat→Ty→Prop,J=fun k r=>r=qb ((l.take k).map Ob.rest):=⟨_,rfl⟩
 refine aU.KG ah [] rfl l.length (fun _ k r=>⟨[(4,.int .i64 k),(3,.ptr (3,v3) 12 0 0),(2,.ptr (2,v1) 12 0 0),(0,.vec 12 false (l.map au))],[((3,v3),some ⟨12,[atz (.vec 1 false (ns.map encStr)) (.vec 9 true []) (.vec 1 true []) r],false,true⟩),((2,v1),some ⟨12,[M.z4],false,true⟩)]⟩) J aV (by rw[hJ]; rfl) (by simp[aV]) fun v k r _ hk hj=>?_
 have hw:=wrap64 (n:=(k:Int)+1) (by omega) (by omega)
 have hj' : r=qb ((l.take k).map Ob.rest):=by rw[hJ] at hj; exact hj
 by_cases g:k<l.length
 ·have hfr:aj r=true:=by
     rw[hj']; refine Uo fun t ht=>?_
     obtain⟨o,ho,rfl⟩:=List.mem_map.1 ht
     exact (dH (hf o (List.mem_of_mem_take ho))).2.2.2.1
  have hbr:bdT NM (k*m) r:=by
   rw[hj']
   have:=ag1 (NM:=NM) (m:=m) (l:=(l.take k).map Ob.rest) (fun t ht=>by
    obtain⟨o,ho,rfl⟩:=List.mem_map.1 ht
    exact (hm o (List.mem_of_mem_take ho)).2.2)
   rw[List.length_map,List.length_take,Nat.min_eq_left (by omega)] at this
   exact this
  have c1:=hsum r k g hfr hbr l[k].rest (dH (hf _ (List.getElem_mem g))).2.2.2.1 (hm _ (List.getElem_mem g)).2.2
  simp[g]
  intros
  refine aH.ret c1 ?_
  simp[hw,g]
  exact⟨jf r l[k].rest,by rw[hJ]; show _=_; rw[az1 Ob.rest g,hj'],by simp⟩
 ·have hr:r=qb (l.map Ob.rest):=by rw[hj',List.take_of_length_le (by omega)]
  rw[← hr] at hO
  simp[g]
  clear hj hj' hJ J hr
  obtain⟨J,hJ⟩ : ∃ J:Nat→List Ty × List Bool→Prop,J=fun j q=>q.1=(ns.take j).map (fun n=>qb (l.map fun o=>(bn o n).1))∧q.2=(ns.take j).map (fun n=>l.all fun o=>(bn o n).2):=⟨_,rfl⟩
  refine aU.KG ah [(2000003,9,1001),(3000003,1,1002)] rfl ns.length (fun v j (q:List Ty × List Bool)=>⟨[(5,.int .i64 j),(3,.ptr (3,v3) 12 0 0),(2,.ptr (2,v1) 12 0 0),(0,.vec 12 false (l.map au))],
   [((3,v3),some ⟨12,[atz (.vec 1 false (ns.map encStr)) (.own (1001,v) 9 0 q.1.length false) (.own (1002,v) 1 0 q.2.length false) r],false,true⟩),((1001,v),some ⟨9,q.1.map fq,false,false⟩),((1002,v),some ⟨1,q.2.map lU,false,false⟩),((2,v1),some ⟨12,[M.z4],false,true⟩)]⟩) J ([],[]) (by rw[hJ]; exact⟨rfl,rfl⟩) (by simp) fun v j q _ hj2 hq=>?_
  have hw2:=wrap64 (n:=(j:Int)+1) (by omega) (by omega)
  obtain⟨fs,ms⟩:=q
  obtain⟨q1,q2⟩ : fs=(ns.take j).map (fun n=>qb (l.map fun o=>(bn o n).1))∧ms=(ns.take j).map (fun n=>l.all fun o=>(bn o n).2):=by rw[hJ] at hq; exact hq
  have l1:fs.length=j:=by rw[q1]; simp; omega
  have l2:ms.length=j:=by rw[q2]; simp; omega
  by_cases g2:j<ns.length
  ·simp[g2]
   intro v6
   obtain⟨J',hJ'⟩ : ∃ J:Nat→Ty × Bool→Prop,J=fun i q=>q.1=qb ((l.take i).map fun o=>(bn o ns[j]).1)∧q.2=(l.take i).all fun o=>(bn o ns[j]).2:=⟨_,rfl⟩
   refine aU.cnt ah l.length (fun i (q:Ty × Bool)=>⟨[(8,.int .i64 i),(7,.bool q.2),(6,.ptr (6,v6) 9 0 0),(5,.int .i64 j),(3,.ptr (3,v3) 12 0 0),(2,.ptr (2,v1) 12 0 0),(0,.vec 12 false (l.map au))],
    [((6,v6),some ⟨9,[cT q.1],false,true⟩),((3,v3),some ⟨12,[atz (.vec 1 false (ns.map encStr)) (.own (1001,v) 9 0 fs.length false) (.own (1002,v) 1 0 ms.length false) r],false,true⟩),((1001,v),some ⟨9,fs.map fq,false,false⟩),((1002,v),some ⟨1,ms.map lU,false,false⟩),((2,v1),some ⟨12,[M.z4],false,true⟩)]⟩) J' (aV,true) (by rw[hJ']; exact⟨rfl,rfl⟩) (by simp[aV]) fun i q hi hq'=>?_
   obtain⟨f,b⟩:=q
   obtain⟨p1,p2⟩ : f=qb ((l.take i).map fun o=>(bn o ns[j]).1)∧b=(l.take i).all fun o=>(bn o ns[j]).2:=by rw[hJ'] at hq'; exact hq'
   have hw3:=wrap64 (n:=(i:Int)+1) (by omega) (by omega)
   by_cases g3:i<l.length
   ·have fo:=dH (hf l[i] (List.getElem_mem g3))
    have hff:aj f=true:=by
     rw[p1]; refine Uo fun t ht=>?_
     obtain⟨o,ho,rfl⟩:=List.mem_map.1 ht
     exact (aac (hf o (List.mem_of_mem_take ho)) _).1
    have hbf:bdT NM (i*m) f:=by
     rw[p1]
     have:=ag1 (NM:=NM) (m:=m) (l:=(l.take i).map fun o=>(bn o ns[j]).1) (fun t ht=>by
      obtain⟨o,ho,rfl⟩:=List.mem_map.1 ht
      exact alU (hm o (List.mem_of_mem_take ho)) _)
     rw[List.length_map,List.length_take,Nat.min_eq_left (by omega)] at this
     exact this
    have c1:=hsum f i g3 hff hbf (bn l[i] ns[j]).1 (aac (hf _ (List.getElem_mem g3)) _).1 (alU (hm _ (List.getElem_mem g3)) _)
    simp[g3,g2]
    intros
    refine aH.ret (afl l[i] ns[j] fo.1 fo.2.1) ?_
    simp
    intros
    refine ak.ret c1 ?_
    simp[hw3,g3,-Bool.exists_bool]
    exact⟨jf f (bn l[i] ns[j]).1,(b&&(bn l[i] ns[j]).2),by
     rw[hJ']
     show _=_∧_=_
     rw[az1 (fun o=>(bn o ns[j]).1) g3,aKm _ g3,← p1,← p2]
     exact⟨rfl,rfl⟩,by simp⟩
   ·have e1:f=qb (l.map fun o=>(bn o ns[j]).1):=by rw[p1,List.take_of_length_le (by omega)]
    have e2:b=l.all fun o=>(bn o ns[j]).2:=by rw[p2,List.take_of_length_le (by omega)]
    simp[g3,hw2]
    exact fun v8=>⟨by omega,fun v9=>⟨by omega,g2,fs++[f],ms++[b],by
     rw[hJ]
     show _=_∧_=_
     rw[xQ _ g2,xQ _ g2,← q1,← q2,e1,e2]
     exact⟨rfl,rfl⟩,fun v10=>by simp⟩⟩
  ·have e1:R=.mk ns fs ms r:=by rw[hO,q1,q2,List.take_of_length_le (by omega)]
   rw[e1]
   simp[g2]
end Go.Proofs.YtngjnfbngheccaaGreatDoor.Pv
set_option maxRecDepth 100000
namespace Go.Proofs.YtngjnfbngheccaaGreatDoor.Pv
open Go Go.Tidy
theorem aL2 (a b:Ty):decide (dZ (l8 a b)=0)=jV a b:=by
 unfold jV
 cases l8 a b<;>rfl
theorem apS (a b:Ty) (ha:aj a=true) (hb' : aj b=true):Ret prog M.abV [.agg (cT a),.agg (cT b)] (.bool (jV a b)):=by
 refine Ret.go ah aEJ (by simp) fun hb w0 F0 hG=>?_
 simp
 intros
 refine ak.ret (arU a b ha hb') ?_
 simp[aL2]
theorem ajx {α:Type} (p:α→Bool) {l:List α} {k:Nat} (hk:k<l.length):(l.take (k+1)).filter p=if p l[k] then (l.take k).filter p++[l[k]] else (l.take k).filter p:=by
 rw[List.take_add_one,List.getElem?_eq_getElem hk]
 simp only[Option.toList_some,List.filter_append,List.filter_cons,List.filter_nil]
 split<;>simp
theorem amB {o:Ob} (h1:o.names.length=o.fields.length) (h2:o.names.length=o.must.length):(jD o).length=o.names.length:=by unfold jD; simp; omega
theorem atp {o:Ob} {k:Nat} (h1:k<o.names.length) (h2:k<o.fields.length) (h3:k<o.must.length) (h4:k<(jD o).length):(jD o)[k]=(o.names[k],o.fields[k],o.must[k]):=by
 have h:(o.names.zip (o.fields.zip o.must))[k]'h4=(o.names[k],o.fields[k],o.must[k]):=List.getElem_zip.trans (by rw[List.getElem_zip])
 exact h
abbrev tN (l:List (S × Ty × Bool)):List (List PV):=(l.map (·.1)).map encStr
abbrev tF (l:List (S × Ty × Bool)):List (List PV):=(l.map (·.2.1)).map fq
abbrev tM (l:List (S × Ty × Bool)):List (List PV):=(l.map (·.2.2)).map lU
set_option maxHeartbeats 4000000 in
theorem anA (o:Ob) (ho:bg o=true) (hn:o.names.length≤34359738368):Ret prog M.QW [.agg (cO o)] (.agg (cO (jr o))):=by
 refine Ret.go ah aBd (by simp) fun hb w0 F0 hG=>?_
 obtain⟨o1,o2,o3,o4,o5,o6⟩:=dH ho
 have hR:jr o=zF ((jD o).filter fun p=>p.2.2||!jV p.2.1 o.rest) o.rest:=rfl
 generalize jr o=R at *
 have hT:=amB o1 o2
 simp
 intro v1 v2 v3
 obtain⟨J,hJ⟩ : ∃ J:Nat→List (S × Ty × Bool)→Prop,J=fun k l=>l=((jD o).take k).filter fun p=>p.2.2||!jV p.2.1 o.rest:=⟨_,rfl⟩
 refine aU.KG ah [(1000003,1,1000),(2000003,9,1001),(3000003,1,1002)] rfl o.names.length (fun v k l=>⟨[(4,.int .i64 k),(3,.ptr (3,v3) 12 0 0),(2,.ptr (2,v2) 12 0 0),(1,.ptr (1,v1) 12 0 0)],
  [((3,v3),some ⟨12,[atz (.own (1000,v) 1 0 l.length false) (.own (1001,v) 9 0 l.length false) (.own (1002,v) 1 0 l.length false) o.rest],false,true⟩),((1000,v),some ⟨1,tN l,false,false⟩),((1001,v),some ⟨9,tF l,false,false⟩),((1002,v),some ⟨1,tM l,false,false⟩),((2,v2),some ⟨12,[M.z4],false,true⟩),((1,v1),some ⟨12,[cO o],false,true⟩)]⟩) J [] (by rw[hJ]; rfl) (by simp) fun v k l _ hk hj=>?_
 have hw:=wrap64 (n:=(k:Int)+1) (by omega) (by omega)
 have hj' : l=((jD o).take k).filter fun p=>p.2.2||!jV p.2.1 o.rest:=by rw[hJ] at hj; exact hj
 have hll:l.length≤k:=by
  rw[hj']; refine Nat.le_trans (List.length_filter_le _ _) ?_
  simp; omega
 by_cases g:k<o.names.length
 ·have g1:k<o.fields.length:=by omega
  have g2:k<o.must.length:=by omega
  have hs:=atp g g1 g2 (by omega)
  have hst:=ajx (fun p:S × Ty × Bool=>p.2.2||!jV p.2.1 o.rest) (l:=jD o) (k:=k) (by omega)
  rw[hs,← hj'] at hst
  simp[g]
  refine bF.go ah ?_
  cases e1:o.must[k]
  ·simp[g,g1,g2,e1]
   intros
   refine aH.ret (apS _ _ (o5 _ (List.getElem_mem g1)) o4) ?_
   cases e2:jV o.fields[k] o.rest
   ·rw[if_pos (by simp[e2])] at hst
    simp[g,g1,g2,e1,e2,hw]
    exact fun _=>⟨by omega,fun _=>⟨by omega,fun _=>⟨by omega,l++[(o.names[k],o.fields[k],o.must[k])],by rw[hJ]; exact hst.symm,fun _=>by simp[e1]⟩⟩⟩
   ·rw[if_neg (by simp[e1,e2])] at hst
    simp[g,g1,g2,e1,e2,hw]
    exact⟨l,by rw[hJ]; exact hst.symm,fun _=>by simp⟩
  ·rw[if_pos (by simp[e1])] at hst
   simp[g,g1,g2,e1,hw]
   exact fun _=>⟨by omega,fun _=>⟨by omega,fun _=>⟨by omega,l++[(o.names[k],o.fields[k],o.must[k])],by rw[hJ]; exact hst.symm,fun _=>by simp[e1]⟩⟩⟩
 ·have e1:l=(jD o).filter fun p=>p.2.2||!jV p.2.1 o.rest:=by rw[hj',List.take_of_length_le (by omega)]
  rw[hR,← e1]
  simp[g,zF]
end Go.Proofs.YtngjnfbngheccaaGreatDoor.Pv
set_option maxRecDepth 100000
namespace Go.Proofs.YtngjnfbngheccaaGreatDoor.Pv
open Go Go.Tidy
theorem aK7 (o x:Ob) (l:List Ob):aav o (x::l)=match oh o x with|.lt=>o::x::l|.eq=>x::l|.gt=>x::aav o l:=by
 rw[aav,aeI]
 cases oh o x<;>rfl
set_option maxHeartbeats 4000000 in
theorem aGT (l:List Ob) (o:Ob) (hl:∀ x∈l,bg x=true) (ho:bg o=true) (hn:l.length≤34359738368):gU prog M.ajY [.vec 12 false (l.map au),.agg (cO o)] 12 ((aav o l).map au):=by
 refine gU.go ah aHN (by simp) fun hb w0 F0 hG=>?_
 generalize hR:aav o l=R
 simp
 intro v1 v2
 obtain⟨J,hJ⟩ : ∃ J:Nat→List Ob × Bool→Prop,J=fun k q=>R=q.1++(if q.2 then l.drop k else aav o (l.drop k))∧q.1.length≤k+q.2.toNat:=⟨_,rfl⟩
 refine aU.KG ah [(5,12,1005)] rfl l.length (fun v k (q:List Ob × Bool)=>⟨[(7,.int .i64 k),(6,.bool q.2),(5,.own (1005,v) 12 0 q.1.length false),(3,.ptr (3,v1) 12 0 0),(0,.vec 12 false (l.map au))],
  [((1005,v),some ⟨12,q.1.map au,false,false⟩),((3,v1),some ⟨12,[cO o],false,true⟩)]⟩) J ([],false) (by rw[hJ]; exact⟨by simp[hR],by simp⟩) (by simp) fun v k q _ hk hj=>?_
 obtain⟨acc,d⟩:=q
 have hd':=d.toNat_le
 have hw:=wrap64 (n:=(k:Int)+1) (by omega) (by omega)
 obtain⟨j1,j2⟩ : R=acc++(if d then l.drop k else aav o (l.drop k))∧acc.length≤k+d.toNat:=by rw[hJ] at hj; exact hj
 by_cases g:k<l.length
 ·have hd:l.drop k=l[k]::l.drop (k+1):=List.drop_eq_getElem_cons g
  have hp:=aK7 o l[k] (l.drop (k+1))
  rw[← hd] at hp
  have hok:=hl l[k] (List.getElem_mem g)
  simp[g]
  intros
  refine aH.ret (aak o) ?_
  simp[g]
  refine aH.ret (aak l[k]) ?_
  simp[g]
  refine aH.ret (arU _ _ (vG ho) (vG hok)) ?_
  rw[aeI]
  simp
  obtain⟨J1,hJ1⟩ : ∃ J1:List Ob × Bool→Prop,J1=fun q=>R=q.1++l[k]::(if q.2 then l.drop (k+1) else aav o (l.drop (k+1)))∧q.1.length≤k+q.2.toNat:=⟨_,rfl⟩
  refine bF.aQu ah [(5,12,1006)] rfl (fun v (q:List Ob × Bool)=>⟨[(7,.int .i64 k),(6,.bool q.2),(5,.own (1006,v) 12 0 q.1.length false),(3,.ptr (3,v1) 12 0 0),(0,.vec 12 false (l.map au))],
   [((1006,v),some ⟨12,q.1.map au,false,false⟩),((3,v1),some ⟨12,[cO o],false,true⟩)]⟩) J1 ?_ fun v q _ hq=>?_
  ·cases d
   ·cases hc:oh o l[k]<;>rw[hc] at hp
    ·simp
     refine bF.go ah ?_
     simp
     exact fun _=>⟨by omega,⟨acc++[o],by rw[hJ1]; exact⟨by rw[j1]; simp[hp],by simp at j2 ⊢<;>omega⟩,fun _=>by simp⟩⟩
    ·simp
     refine bF.go ah ?_
     simp
     exact⟨acc,by rw[hJ1]; exact⟨by rw[j1]; simp[hp],by simp at j2 ⊢<;>omega⟩,fun _=>by simp⟩
    ·simp
     exact⟨acc,by rw[hJ1]; exact⟨by rw[j1]; simp[hp],by simp at j2 ⊢<;>omega⟩,fun _=>by simp⟩
   ·simp
    exact⟨acc,by rw[hJ1]; exact⟨by rw[j1]; simp,by simp at j2 ⊢<;>omega⟩,fun _=>by simp⟩
  ·obtain⟨acc',d'⟩:=q
   obtain⟨k1,k2⟩ : R=acc'++l[k]::(if d' then l.drop (k+1) else aav o (l.drop (k+1)))∧acc'.length≤k+d'.toNat:=by rw[hJ1] at hq; exact hq
   simp[g,hw,-Bool.exists_bool]
   have:=d'.toNat_le
   exact fun _=>⟨by omega,acc'++[l[k]],d',by rw[hJ]; exact⟨by rw[k1]; simp,by simp<;>omega⟩,fun _=>by simp⟩
 ·rw[List.drop_eq_nil_of_le (by omega)] at j1
  cases d
  ·simp[g]
   refine bF.go ah ?_
   simp
   have:R=acc++[o]:=by rw[j1]; rfl
   exact⟨by omega,by rw[this,List.take_of_length_le (by simp)]; simp⟩
  ·simp[g]
   refine bF.go ah ?_
   have:R=acc:=by rw[j1]; simp
   simp[this]
end Go.Proofs.YtngjnfbngheccaaGreatDoor.Pv
set_option maxRecDepth 100000
namespace Go.Proofs.YtngjnfbngheccaaGreatDoor.Pv
open Go Go.Tidy
def Bq (l:List Ob) (g:List Bool) (i:Nat):List Ob:=(((l.zip g).take i).filter fun p=>!p.2).map (·.1)
theorem azF {l:List Ob} {g:List Bool} {i:Nat} (h1:i<l.length) (h2:i<g.length):Bq l g (i+1)=Bq l g i++(if g[i] then [] else [l[i]]):=by
 unfold Bq
 rw[ajx _ (by simp; omega)]
 simp only[List.getElem_zip]
 cases g[i]<;>simp
theorem aMS {l:List Ob} {g:List Bool} {i:Nat} {b:Bool}:Bq l (g.set i b) i=Bq l g i:=by
 unfold Bq
 have:(l.zip (g.set i b)).take i=(l.zip g).take i:=by
  rw[List.zip_eq_zipWith,List.zip_eq_zipWith,List.take_zipWith,List.take_zipWith,List.take_set,List.set_eq_of_length_le (by simp; omega)]
 rw[this]
theorem aD6 {l:List Ob} {g:List Bool} {i:Nat} {o:Ob} (hi:i≤l.length) (hg:g.length=l.length):o∈Bq l g i↔∃ j,∃ hj:j<l.length,j<i∧g[j]? = some false∧l[j]=o:=by
 unfold Bq
 simp only[List.mem_map,List.mem_filter,List.mem_take_iff_getElem,Bool.not_eq_true']
 constructor
 ·rintro⟨⟨x,b⟩,⟨⟨j,hj,he⟩,hb⟩,rfl⟩
  simp only[List.length_zip] at hj
  have hj1:j<l.length:=by omega
  have hj2:j<g.length:=by omega
  simp only[List.getElem_zip,Prod.mk.injEq] at he
  simp only at hb
  exact⟨j,hj1,by omega,by rw[List.getElem?_eq_getElem hj2,he.2,hb],he.1⟩
 ·rintro⟨j,hj,hji,hgj,rfl⟩
  have hj2:j<g.length:=by omega
  rw[List.getElem?_eq_getElem hj2] at hgj
  exact⟨(l[j],false),⟨⟨j,by simp; omega,by simp[Option.some.inj hgj]⟩,rfl⟩,rfl⟩
theorem aHJ (kept:List Ob) (o:Ob) (l:List Ob):dN kept (o::l)=if kept.any (oG o)||l.any (oG o) then dN kept l else dN (kept++[o]) l:=rfl
theorem aJa {l:List Ob} {g:List Bool} {i:Nat} {b:Bool} {R:List Ob} (hi:i<l.length) (hg:g.length=l.length) (hf:∀ j,i≤j→j<l.length→g[j]? = some false) (hR:R=dN (Bq l g i) (l.drop i))
 (hb:b=true↔∃ j,∃ hj:j<l.length,j<l.length∧j≠i∧g[j]? = some false∧oG l[i] l[j]=true):R=dN (Bq l (g.set i b) (i+1)) (l.drop (i+1)):=by
 rw[hR,List.drop_eq_getElem_cons hi,aHJ,azF hi (by simp; omega),aMS]
 have e:b=((Bq l g i).any (oG l[i])||(l.drop (i+1)).any (oG l[i])):=by
  rw[Bool.eq_iff_iff,hb,Bool.or_eq_true,List.any_eq_true,List.any_eq_true]
  constructor
  ·rintro⟨j,hj,_,hne,hgj,hbj⟩
   rcases Nat.lt_or_gt_of_ne hne with h|h
   ·exact .inl ⟨l[j],(aD6 (by omega) hg).2 ⟨j,hj,h,hgj,rfl⟩,hbj⟩
   ·refine .inr ⟨l[j],?_,hbj⟩
    rw[List.mem_drop_iff_getElem]
    exact⟨j-(i+1),by omega,by congr 1; omega⟩
  ·rintro (⟨o,ho,hb⟩|⟨o,ho,hb⟩)
   ·obtain⟨j,hj,hji,hgj,rfl⟩:=(aD6 (by omega) hg).1 ho
    exact⟨j,hj,hj,by omega,hgj,hb⟩
   ·rw[List.mem_drop_iff_getElem] at ho
    obtain⟨j,hj,rfl⟩:=ho
    exact⟨i+1+j,by omega,by omega,by omega,hf _ (by omega) (by omega),hb⟩
 rw[← e]
 simp only[List.getElem_set_self]
 cases b<;>simp
set_option maxHeartbeats 4000000 in
theorem aAl (l:List Ob) (hF:∀ o∈l,nK (jk o)) (hn:l.length≤34359738368):gU prog M.afP [.vec 12 false (l.map au)] 12 ((dN [] l).map au):=by
 refine gU.go ah aB2 (by simp) fun hb w0 F0 hG=>?_
 generalize hR:dN [] l=R
 have cB:∀ i (hi:i<l.length) j (hj:j<l.length),Ret prog M.oz [.agg (cT (jk l[i])),.agg (cT (jk l[j]))] (.bool (oG l[i] l[j])):=fun i hi j hj=>aA0 _ _ (hF _ (List.getElem_mem hi)) (hF _ (List.getElem_mem hj))
 simp
 refine fun v0=>⟨by omega,?_⟩
 obtain⟨J,hJ⟩ : ∃ J:Nat→List Bool→Prop,J=fun i g=>g.length=l.length∧(∀ j,i≤j→j<l.length→g[j]? = some false)∧R=dN (Bq l g i) (l.drop i):=⟨_,rfl⟩
 refine aU.KG ah [(3,1,1003)] rfl l.length (fun v i (g:List Bool)=>⟨[(4,.int .i64 i),(3,.own (1003,v) 1 0 l.length false),(0,.vec 12 false (l.map au))],[((1003,v),some ⟨1,g.map lU,false,false⟩)]⟩) J (List.replicate l.length false) (by rw[hJ]; exact⟨by simp,fun j _ hj=>by simp[hj],by simp[Bq,hR]⟩) (by simp) fun v i g _ hi hj=>?_
 have hw:=wrap64 (n:=(i:Int)+1) (by omega) (by omega)
 obtain⟨j1,j2,j3⟩ : g.length=l.length∧(∀ j,i≤j→j<l.length→g[j]? = some false)∧R=dN (Bq l g i) (l.drop i):=by rw[hJ] at hj; exact hj
 by_cases h1:i<l.length
 ·simp[h1]
  obtain⟨J',hJ'⟩ : ∃ J:Nat→Bool→Prop,J=fun k b=>(b=true↔∃ j,∃ hj:j<l.length,j<k∧j≠i∧g[j]? = some false∧oG l[i] l[j]=true):=⟨_,rfl⟩
  refine aU.cnt ah l.length (fun k (b:Bool)=>⟨[(5,.int .i64 k),(4,.int .i64 i),(3,.own (1003,v) 1 0 l.length false),(0,.vec 12 false (l.map au))],[((1003,v),some ⟨1,(g.set i b).map lU,false,false⟩)]⟩) J' false (by rw[hJ']; simp) (by
   have:g.set i false=g:=by
    apply List.ext_getElem? ; intro j
    rw[List.getElem?_set]
    split
    ·rename_i e; subst e; rw[j2 i (Nat.le_refl _) h1]; simp; omega
    ·rfl
   simp[this]) fun k b hk hb'=>?_
  have hw2:=wrap64 (n:=(k:Int)+1) (by omega) (by omega)
  have hb2:b=true↔∃ j,∃ hj:j<l.length,j<k∧j≠i∧g[j]? = some false∧oG l[i] l[j]=true:=by rw[hJ'] at hb'; exact hb'
  by_cases h2:k<l.length
  ·simp[h2]
   refine bF.go ah ?_
   have hkg:k<g.length:=by omega
   have keep:(¬ (k≠i∧g[k]? = some false∧oG l[i] l[k]=true))→J' (k+1) b:=fun hn=>by
    rw[hJ']
    refine hb2.trans ⟨fun ⟨j,q1,q2,q3⟩=>⟨j,q1,by omega,q3⟩,fun ⟨j,q1,q2,q3⟩=>⟨j,q1,?_,q3⟩⟩
    rcases Nat.lt_or_ge j k with h|h
    ·exact h
    ·obtain rfl:j=k:=by omega
     exact absurd q3 hn
   by_cases hki:k=i
   ·subst hki
    simp[h2,hw2,-Bool.exists_bool]
    exact⟨b,keep (fun h=>h.1 rfl),by simp⟩
   ·have hki' : ¬ (k:Int)=i:=by omega
    have hik:¬ i=k:=fun e=>hki e.symm
    cases e1:g[k]
    ·simp[hki',hik,h2,hkg,e1,h1]
     intros
     refine aH.ret (aak l[i]) ?_
     simp[hki',hik,h2,hkg,e1,h1]
     refine aH.ret (aak l[k]) ?_
     simp[hki',hik,h2,hkg,e1,h1]
     refine aH.ret (cB i h1 k h2) ?_
     cases e2:oG l[i] l[k]
     ·simp[hw2,h2,hki',-Bool.exists_bool]
      exact⟨b,keep (fun h=>by rw[e2] at h; cases h.2.2),by simp⟩
     ·simp[hw2,h2,h1,j1,hki',-Bool.exists_bool]
      refine⟨true,?_,by simp⟩
      rw[hJ']
      exact⟨fun _=>⟨k,h2,by omega,hki,by rw[List.getElem?_eq_getElem hkg,e1],e2⟩,fun _=>rfl⟩
    ·simp[hki',hik,h2,hkg,e1,h1,hw2,-Bool.exists_bool]
     exact⟨b,keep (fun h=>by rw[List.getElem?_eq_getElem hkg,e1] at h; cases h.2.1),by simp⟩
  ·simp[h2,hw]
   have hkl:k=l.length:=by omega
   subst hkl
   refine⟨h1,g.set i b,?_,fun _=>by simp⟩
   rw[hJ]
   refine⟨by simp[j1],fun j hj1 hj2=>?_,aJa h1 j1 j2 j3 hb2⟩
   rw[List.getElem?_set_ne (by omega)]
   exact j2 j (by omega) hj2
 ·have e1:R=Bq l g l.length:=by
     have:i=l.length:=by omega
     rw[j3,List.drop_eq_nil_of_le (by omega),this]; rfl
  simp[h1]
  intro v1
  clear j2 j3 hj hJ J
  obtain⟨J,hJ⟩ : ∃ J:Nat→List Ob→Prop,J=fun k acc=>acc=Bq l g k:=⟨_,rfl⟩
  refine aU.KG ah [(6,12,1006)] rfl l.length (fun v' k (acc:List Ob)=>⟨[(7,.int .i64 k),(6,.own (1006,v') 12 0 acc.length false),(3,.vec 1 false (g.map lU)),(0,.vec 12 false (l.map au))],[((1006,v'),some ⟨12,acc.map au,false,false⟩)]⟩) J [] (by rw[hJ]; simp[Bq]) (by simp[j1]; rw[← j1,List.take_of_length_le (by simp)]) fun v' k acc _ hk hj=>?_
  have hw2:=wrap64 (n:=(k:Int)+1) (by omega) (by omega)
  have hj' : acc=Bq l g k:=by rw[hJ] at hj; exact hj
  have hal:acc.length≤k:=by
   rw[hj']; unfold Bq
   rw[List.length_map]
   refine Nat.le_trans (List.length_filter_le _ _) ?_
   simp; omega
  by_cases h2:k<l.length
  ·have hkg:k<g.length:=by omega
   have hst:=azF h2 hkg
   rw[← hj'] at hst
   simp[h2]
   refine bF.go ah ?_
   cases e2:g[k]<;>rw[e2] at hst
   ·simp[h2,hkg,e2,hw2]
    exact fun _=>⟨by omega,acc++[l[k]],by rw[hJ]; exact hst.symm,fun _=>by simp⟩
   ·simp[h2,hkg,e2,hw2]
    exact⟨acc,by rw[hJ]; simpa using hst.symm,fun _=>by simp⟩
  ·have:acc=R:=by rw[hj',e1]; congr 1; omega
   simp[h2,this]
end Go.Proofs.YtngjnfbngheccaaGreatDoor.Pv
set_option maxRecDepth 100000
namespace Go.Proofs.YtngjnfbngheccaaGreatDoor.Pv
open Go Go.Tidy
theorem aPc {NM:List S} {m:Nat} {t:Ty} (h1:aj t=true) (h2:bdT NM m t) (h3:NM.length≤34359738368):nK t:=⟨h1,adF h3 t h1 h2⟩
def ae6 (F:Nat) (h:Int) (N:Ty→Ty) (NM:List S) (B:Nat):Prop:=∀ t m,aj t=true→bdT NM m t→m≤B→Ret prog F [.agg (cT t),.int .i64 h] (.agg (cT (N t)))
theorem aKF {l:List Ty} {k:Nat} (x:Ty) (hk:k<l.length):(l.take (k+1)).foldl jf x=jf ((l.take k).foldl jf x) l[k]:=by
 rw[List.take_add_one,List.getElem?_eq_getElem hk]
 simp only[Option.toList_some,List.foldl_append,List.foldl_cons,List.foldl_nil]
set_option maxHeartbeats 4000000 in
theorem aKn (h:Int) (N:Ty→Ty) (NM:List S) (B:Nat) (hN:ae6 M.jq h N NM B) (hNf:∀ t,aj t=true→aj (N t)=true) (h3:NM.length≤1073741824) (hM:4*(NM.length+1)≤B) (o:Ob) (ho:bg o=true) (hbo:bdO NM 4 o) :
 Ret prog M.ab2 [.agg (cO o),.int .i64 h] (.agg (cO (FQ N o))):=by
 refine Ret.go ah aE1 (by simp) fun hb w0 F0 hG=>?_
 have hnl:o.names.length≤NM.length:=NI (oq ho) hbo.1
 have c0:=anA o ho (by omega)
 have hs:=aal ho
 have hsb:=ajd hbo
 have hT:FQ N o=if (jr o).names.length≤12 then jr o else jr (.mk ((jr o).names.take 12) ((jr o).fields.take 12) ((jr o).must.take 12) (N (qb ((jr o).rest::(jr o).fields.drop 12)))):=rfl
 generalize FQ N o=R at *
 generalize jr o=p at *
 obtain⟨p1,p2,p3,p4,p5,p6⟩:=dH hs
 have hpl:p.names.length≤NM.length:=NI (oq hs) hsb.1
 have hTl:=amB p1 p2
 simp
 intro v1 v2
 refine ak.ret c0 ?_
 by_cases h12:p.names.length≤12
 ·have h12' : (p.names.length:Int)≤12:=by omega
  rw[if_pos h12] at hT
  simp[h12',hT]
 ·have h12' : ¬ (p.names.length:Int)≤12:=by omega
  rw[if_neg h12,aK5 _ p4] at hT
  simp[h12']
  intro v3
  obtain⟨J,hJ⟩ : ∃ J:Nat→Ty→Prop,J=fun k r=>r=((p.fields.drop 12).take k).foldl jf p.rest:=⟨_,rfl⟩
  refine aU.cnt ah (p.names.length-12) (fun k r=>⟨[(6,.int .i64 (12+k:Nat)),(5,.ptr (5,v3) 9 0 0),(4,.ptr (4,v2) 12 0 0),(2,.ptr (2,v1) 12 0 0),(1,.int .i64 h)],[((5,v3),some ⟨9,[cT r],false,true⟩),((4,v2),some ⟨12,[M.z4],false,true⟩),((2,v1),some ⟨12,[cO p],false,true⟩)]⟩) J p.rest (by rw[hJ]; rfl) (by simp) fun k r hk hj=>?_
  have hw:=wrap64 (n:=((12+k:Nat):Int)+1) (by omega) (by omega)
  have hj' : r=((p.fields.drop 12).take k).foldl jf p.rest:=by rw[hJ] at hj; exact hj
  have hfr:aj r=true:=by
   rw[hj']; exact ar4 _ (fun t ht=>p5 t (List.mem_of_mem_drop (List.mem_of_mem_take ht))) _ p4
  have hbr:bdT NM (4*(NM.length+1)) r:=by
   rw[hj']
   have:=aw2 (NM:=NM) (m:=4) ((p.fields.drop 12).take k) p.rest 4 (fun t ht=>hsb.2.1 t (List.mem_of_mem_drop (List.mem_of_mem_take ht))) hsb.2.2
   refine IY ?_ _ this
   have:((p.fields.drop 12).take k).length≤NM.length:=by simp; omega
   omega
  obtain⟨i,hi⟩ : ∃ i,i=12+k:=⟨_,rfl⟩
  rw[← hi] at hw
  show XC _ _ ⟨[(6,.int .i64 (12+k:Nat)),(5,.ptr (5,v3) 9 0 0),(4,.ptr (4,v2) 12 0 0),(2,.ptr (2,v1) 12 0 0),(1,.int .i64 h)],[((5,v3),some ⟨9,[cT r],false,true⟩),((4,v2),some ⟨12,[M.z4],false,true⟩),((2,v1),some ⟨12,[cO p],false,true⟩)]⟩ _ _
  rw[← hi]
  by_cases g:k<p.names.length-12
  ·have g1:i<p.names.length:=by omega
   have g2:i<p.fields.length:=by omega
   have g3:k<(p.fields.drop 12).length:=by simp; omega
   have hst:=aKF p.rest g3
   rw[← hj'] at hst
   have e3:(p.fields.drop 12)[k]=p.fields[i]:=by simp[hi]
   have c1:=asa NM (aK r) r p.fields[i] _ 4 (Nat.le_refl _) hfr (p5 _ (List.getElem_mem g2)) hbr (hsb.2.1 _ (List.getElem_mem g2)) (by omega)
   simp[g1,g2]
   intros
   refine aH.ret c1 ?_
   simp[hw,g1]
   exact⟨by omega,jf r p.fields[i],by rw[hJ]; show _=_; rw[hst,e3],by simp; omega⟩
  ·have e1:r=(p.fields.drop 12).foldl jf p.rest:=by rw[hj',List.take_of_length_le (by simp; omega)]
   have g1:¬ i<p.names.length:=by omega
   rw[← e1] at hT
   have c2:=hN r _ hfr hbr hM
   simp[g1]
   refine ak.ret c2 ?_
   simp
   intro v4
   clear hj hj' hJ J hw
   have hmk:Ob.mk (p.names.take 12) (p.fields.take 12) (p.must.take 12) (N r)=zF ((jD p).take 12) (N r):=by
    obtain⟨t1,t2,t3⟩:=agC p1 p2
    unfold zF
    rw[List.map_take,List.map_take,List.map_take,t1,t2,t3]
   rw[hmk] at hT
   obtain⟨J,hJ⟩ : ∃ J:Nat→List (S × Ty × Bool)→Prop,J=fun k l=>l=(jD p).take k:=⟨_,rfl⟩
   refine aU.KG ah [(1000007,1,1000),(2000007,9,1001),(3000007,1,1002)] rfl 12 (fun v k l=>⟨[(8,.int .i64 k),(7,.ptr (7,v4) 12 0 0),(4,.ptr (4,v2) 12 0 0),(2,.ptr (2,v1) 12 0 0)],
    [((7,v4),some ⟨12,[atz (.own (1000,v) 1 0 l.length false) (.own (1001,v) 9 0 l.length false) (.own (1002,v) 1 0 l.length false) (N r)],false,true⟩),((1000,v),some ⟨1,tN l,false,false⟩),((1001,v),some ⟨9,tF l,false,false⟩),((1002,v),some ⟨1,tM l,false,false⟩),((4,v2),some ⟨12,[M.z4],false,true⟩),((2,v1),some ⟨12,[cO p],false,true⟩)]⟩) J [] (by rw[hJ]; rfl) (by simp) fun v k l _ hk hj=>?_
   have hw:=wrap64 (n:=(k:Int)+1) (by omega) (by omega)
   have hj' : l=(jD p).take k:=by rw[hJ] at hj; exact hj
   have hll:l.length=k:=by rw[hj']; simp; omega
   by_cases g:k<12
   ·have g2:k<p.names.length:=by omega
    have g3:k<p.fields.length:=by omega
    have g4:k<p.must.length:=by omega
    have hs':=atp g2 g3 g4 (by omega)
    have hst:(jD p).take (k+1)=l++[(p.names[k],p.fields[k],p.must[k])]:=by
     rw[List.take_add_one,List.getElem?_eq_getElem (by omega),hs',hj']; rfl
    have g' : (k:Int)<12:=by omega
    simp[g',g2,g3,g4]
    exact fun _=>⟨by omega,fun _=>⟨by omega,fun _=>⟨by omega,g,l++[(p.names[k],p.fields[k],p.must[k])],by rw[hJ]; exact hst.symm,fun _=>by simp[hw]⟩⟩⟩
   ·have hk12:k=12:=by omega
    subst hk12
    have hfo:bg (zF l (N r))=true:=by rw[hj']; exact aeh hs (List.take_sublist _ _) (hNf r hfr)
    have c3:=anA (zF l (N r)) hfo (by simp[zF]; omega)
    rw[← hj'] at hT
    rw[← hT] at c3
    have c4:Ret prog M.QW [.agg [.vec 1 false (tN l),.vec 9 false (tF l),.vec 1 false (tM l),.bool (N r).all,.bool (N r).null,.bool (N r).fls,.bool (N r).tru,.vec 2 false ((N r).nums.map dw),.bool (N r).any,.vec 1 false ((N r).texts.map encStr),.vec 11 false ((N r).arrays.map dz),.vec 12 false ((N r).objects.map au)]] (.agg (cO R)):=c3
    simp
    refine ak.ret (r:=.agg (cO R)) (by simpa using c4) ?_
    simp
end Go.Proofs.YtngjnfbngheccaaGreatDoor.Pv
